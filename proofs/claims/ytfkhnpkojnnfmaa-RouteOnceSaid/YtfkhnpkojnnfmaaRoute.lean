/- A key's part: route.Of, and the reference's. -/
import Derived.Test.YtfkhnpkojnnfmaaHash2
namespace Go.Proofs.Ytfkhnpkojnnfmaa
open Go Go.RowKit
set_option linter.unusedVariables false
set_option linter.unusedSimpArgs false
def rtMay (p : Int) : Int := if p < 1 then 2 else if 8 < p then 2 else 0
def rtOf (p : Int) (k : List Nat) : Int × Int := if rtMay p ≠ 0 then (0, 2) else if 64 < k.length then (0, 3) else (part p k, 0)
def duoV (p : Int × Int) : Value := .tuple #[.int .i64 p.1, .int .i64 p.2]
set_option maxHeartbeats 400000 in
theorem may_any (p : Int) (w : World) : Calls Try.prog 20 #[.int .i64 p] w fun e w' => e = .returned (.int .i64 (rtMay p)) ∧ w' = w := by
  unfold rtMay
  by_cases h1 : p < 1
  · rw [if_pos h1]
    go_enter Try.func20, Try.ntmps20
    go_wp2
    go_ret
    exact ⟨rfl, rfl⟩
  rw [if_neg h1]
  by_cases h2 : 8 < p
  · rw [if_pos h2]
    go_enter Try.func20, Try.ntmps20
    go_wp2
    go_ret
    exact ⟨rfl, rfl⟩
  · rw [if_neg h2]
    go_enter Try.func20, Try.ntmps20
    go_wp2
    go_ret
    exact ⟨rfl, rfl⟩
theorem rtMay_ok {p : Int} (h : rtMay p = 0) : 1 ≤ p ∧ p ≤ 8 := by
  unfold rtMay at h
  split at h
  · cases h
  · split at h
    · cases h
    · omega
theorem rtMay_of {p : Int} (h1 : 1 ≤ p) (h2 : p ≤ 8) : rtMay p = 0 := by unfold rtMay; rw [if_neg (by omega), if_neg (by omega)]
theorem rtMay_or (p : Int) : rtMay p = 0 ∨ (rtMay p = 2 ∧ (p < 1 ∨ 8 < p)) := by
  unfold rtMay
  split
  · exact .inr ⟨rfl, by omega⟩
  · split
    · exact .inr ⟨rfl, by omega⟩
    · exact .inl rfl
theorem rtOf_bad {p : Int} (h : rtMay p = 2) (k : List Nat) : rtOf p k = (0, 2) := by unfold rtOf; rw [if_pos (by omega)]
theorem rtOf_long {p : Int} (h : rtMay p = 0) {k : List Nat} (hk : 64 < k.length) : rtOf p k = (0, 3) := by unfold rtOf; rw [if_neg (by omega), if_pos hk]
theorem rtOf_in {p : Int} (h : rtMay p = 0) {k : List Nat} (hk : ¬ 64 < k.length) : rtOf p k = (part p k, 0) := by unfold rtOf; rw [if_neg (by omega), if_neg hk]
set_option maxHeartbeats 1000000 in
theorem rt_of (p : Int) (A : Option Addr) (xs : List Nat) (n c : Nat) (hn : xs.length = n) (w : World) (h : RdB w A xs) :
    Calls Try.prog 12 #[.int .i64 p, .slice A n c] w fun e w' => e = .returned (duoV (rtOf p xs)) ∧ w' = w := by
  have hb : n ≤ 140737488355328 := by have := h.1; omega
  rcases rtMay_or p with hm | ⟨hm, _⟩
  · by_cases hl : 64 < xs.length
    · rw [rtOf_long hm hl]
      have hl' : 64 < n := by omega
      have Hhm := Lib.hid hm
      clear hm
      clear h hn hl
      go_enter Try.func12, Try.ntmps12
      go_wp2_with fail
      refine (may_any p _).mono ?_
      rintro e w' ⟨rfl, rfl⟩
      rw [Hhm.out]
      dsimp only
      go_wp2
      go_ret2
      exact ⟨rfl, rfl⟩
    · rw [rtOf_in hm hl]
      have hl' : ¬ 64 < n := by omega
      obtain ⟨p1, p2⟩ := rtMay_ok hm
      have he : partE p = 0 := by unfold partE; rw [if_neg (by omega)]
      have hp := hash_part p (by omega) A xs n c hn w h
      have Hhm := Lib.hid hm
      have Hhe := Lib.hid he
      have Hhp := Lib.hid hp
      clear hm he hp
      clear h hn hl
      go_enter Try.func12, Try.ntmps12
      go_wp2_with fail
      refine (may_any p _).mono ?_
      rintro e w' ⟨rfl, rfl⟩
      rw [Hhm.out]
      dsimp only
      go_wp2_with fail
      refine (Hhp.out).mono ?_
      rintro e w' ⟨rfl, rfl⟩
      rw [Hhe.out]
      dsimp only
      go_wp2
      go_ret2
      exact ⟨rfl, rfl⟩
  · rw [rtOf_bad hm]
    have Hhm := Lib.hid hm
    clear hm
    clear h hn
    go_enter Try.func12, Try.ntmps12
    go_wp2_with fail
    refine (may_any p _).mono ?_
    rintro e w' ⟨rfl, rfl⟩
    rw [Hhm.out]
    dsimp only
    go_wp2
    go_ret2
    exact ⟨rfl, rfl⟩
set_option maxHeartbeats 1000000 in
theorem rt_ref (p : Int) (A : Option Addr) (xs : List Nat) (n c : Nat) (hn : xs.length = n) (w : World) (h : RdB w A xs) :
    Calls Try.prog 14 #[.int .i64 p, .slice A n c] w fun e w' => e = .returned (duoV (rtOf p xs)) ∧ Below w.heap.size w w' := by
  have hb : n ≤ 140737488355328 := by have := h.1; omega
  rcases rtMay_or p with hm | ⟨hm, hp⟩
  · obtain ⟨p1, p2⟩ := rtMay_ok hm
    by_cases hl : 64 < xs.length
    · rw [rtOf_long hm hl]
      have hl' : 64 < n := by omega
      clear h hn hl hm
      go_enter Try.func14, Try.ntmps14
      go_wp2
      go_ret2
      exact ⟨rfl, Below.refl _ _⟩
    · rw [rtOf_in hm hl]
      have hl' : ¬ 64 < n := by omega
      have he : partE p = 0 := by unfold partE; rw [if_neg (by omega)]
      have hp := ref_part p (by omega) A xs n c hn w h
      have Hhe := Lib.hid he
      have Hhp := Lib.hid hp
      clear he hp
      clear h hn hl hm
      go_enter Try.func14, Try.ntmps14
      go_wp2_with fail
      refine (Hhp.out).mono ?_
      rintro e w1 ⟨rfl, hw⟩
      rw [Hhe.out]
      dsimp only
      have Hhw := Lib.hid hw
      clear hw
      go_wp2
      go_ret2
      exact ⟨rfl, Hhw.out⟩
  · rw [rtOf_bad hm]
    clear h hn hm
    rcases hp with hp | hp
    · go_enter Try.func14, Try.ntmps14
      go_wp2
      go_ret2
      exact ⟨rfl, Below.refl _ _⟩
    · have hp' : ¬ p < 1 := by omega
      go_enter Try.func14, Try.ntmps14
      go_wp2
      go_ret2
      exact ⟨rfl, Below.refl _ _⟩
def rtSame (p : Int) (a b : List Nat) : Bool × Int :=
  if (rtOf p a).2 ≠ 0 ∨ (rtOf p b).2 ≠ 0 then (false, max (rtOf p a).2 (rtOf p b).2) else ((rtOf p a).1 == (rtOf p b).1, 0)
theorem rtOf_e (p : Int) (k : List Nat) : (rtOf p k).2 = 0 ∨ (rtOf p k).2 = 2 ∨ (rtOf p k).2 = 3 := by
  unfold rtOf
  split
  · exact .inr (.inl rfl)
  · split
    · exact .inr (.inr rfl)
    · exact .inl rfl
set_option maxHeartbeats 1000000 in
theorem rt_same (p : Int) (A B : Option Addr) (xs ys : List Nat) (n m c d : Nat) (hn : xs.length = n) (hm : ys.length = m) (w : World) (h : RdB w A xs) (h2 : RdB w B ys) :
    Calls Try.prog 15 #[.int .i64 p, .slice A n c, .slice B m d] w fun e w' => e = .returned (.tuple #[.bool (rtSame p xs ys).1, .int .i64 (rtSame p xs ys).2]) ∧ w' = w := by
  have c1 := rt_of p A xs n c hn w h
  have c2 := rt_of p B ys m d hm w h2
  unfold rtSame
  have z1 := rtOf_e p xs
  have z2 := rtOf_e p ys
  obtain ⟨x, e, hx⟩ : ∃ x e, rtOf p xs = (x, e) := ⟨_, _, rfl⟩
  obtain ⟨y, f, hy⟩ : ∃ y f, rtOf p ys = (y, f) := ⟨_, _, rfl⟩
  rw [hx] at c1 z1 ⊢
  rw [hy] at c2 z2 ⊢
  dsimp only at z1 z2 ⊢
  have Hc1 := Lib.hid c1
  have Hc2 := Lib.hid c2
  clear c1 c2
  clear h h2 hn hm hx hy
  rcases z1 with rfl | rfl | rfl <;> rcases z2 with rfl | rfl | rfl
  all_goals
    dsimp only [duoV] at Hc1 Hc2
    go_enter Try.func15, Try.ntmps15
    go_wp2_with fail
    refine (Hc1.out).mono ?_
    rintro e w' ⟨rfl, rfl⟩
    dsimp only [duoV]
    go_wp2_with fail
    refine (Hc2.out).mono ?_
    rintro e w' ⟨rfl, rfl⟩
    dsimp only [duoV]
    go_wp2
    go_ret2
    exact ⟨by simp <;> omega, rfl⟩
end Go.Proofs.Ytfkhnpkojnnfmaa
