/- The program's handles (package handle): Of, cut, Live. -/
import Derived.Test.YtlcdgjfofidkhaaRd
import Derived.Test.YtlcdgjfofidkhaaRows
namespace Go.Proofs.Ytlcdgjfofidkhaa
open Go Go.RowKit
set_option linter.unusedVariables false
set_option linter.unusedSimpArgs false
def hOf (s g : Int) : Int × Int := if s < 0 then (0, 2) else if 128 ≤ s then (0, 2) else if g < 0 then (0, 2) else if 1099511627776 ≤ g then (0, 2) else (1 + s + g * 128, 0)
def duoV (p : Int × Int) : Value := .tuple #[.int .i64 p.1, .int .i64 p.2]
theorem hOf_ok {s g : Int} (h0 : 0 ≤ s) (h1 : s < 128) (h2 : 0 ≤ g) (h3 : g < 1099511627776) : hOf s g = (1 + s + g * 128, 0) := by
  unfold hOf; rw [if_neg (by omega), if_neg (by omega), if_neg (by omega), if_neg (by omega)]
set_option maxHeartbeats 400000 in
theorem of_any (s g : Int) (w : World) : Calls Try.prog 9 #[.int .i64 s, .int .i64 g] w fun e w' => e = .returned (duoV (hOf s g)) ∧ w = w' := by
  unfold hOf
  by_cases h0 : s < 0
  · rw [if_pos h0]
    go_enter Try.func9, Try.ntmps9
    go_wp2
    go_ret2
    exact ⟨rfl, rfl⟩
  rw [if_neg h0]
  by_cases h1 : 128 ≤ s
  · rw [if_pos h1]
    go_enter Try.func9, Try.ntmps9
    go_wp2
    go_ret2
    exact ⟨rfl, rfl⟩
  rw [if_neg h1]
  by_cases h2 : g < 0
  · rw [if_pos h2]
    go_enter Try.func9, Try.ntmps9
    go_wp2
    go_ret2
    exact ⟨rfl, rfl⟩
  rw [if_neg h2]
  by_cases h3 : 1099511627776 ≤ g
  · rw [if_pos h3]
    have h3' : decide (1099511627776 ≤ g) = true := decide_eq_true h3
    go_enter Try.func9, Try.ntmps9
    go_wp2
    go_ret2
    exact ⟨rfl, rfl⟩
  · rw [if_neg h3]
    have h3' : decide (1099511627776 ≤ g) = false := decide_eq_false h3
    go_enter Try.func9, Try.ntmps9
    go_wp2
    go_ret2
    exact ⟨rfl, rfl⟩
/-- A handle's slot and generation. -/
def hCut (h : Int) : Int × Int × Int := if h < 1 then (0, 0, 2) else if 140737488355328 < h then (0, 0, 2) else ((h - 1) % 128, (h - 1) / 128, 0)
def triV (p : Int × Int × Int) : Value := .tuple #[.int .i64 p.1, .int .i64 p.2.1, .int .i64 p.2.2]
theorem hCut_ok {h : Int} (h0 : 1 ≤ h) (h1 : h ≤ 140737488355328) : hCut h = ((h - 1) % 128, (h - 1) / 128, 0) := by
  unfold hCut; rw [if_neg (by omega), if_neg (by omega)]
theorem hCut_of {s g : Int} (h0 : 0 ≤ s) (h1 : s < 128) (h2 : 0 ≤ g) (h3 : g < 1099511627776) : hCut (1 + s + g * 128) = (s, g, 0) := by
  rw [hCut_ok (by omega) (by omega), show (1 + s + g * 128 - 1) % 128 = s by omega, show (1 + s + g * 128 - 1) / 128 = g by omega]
theorem hCut_or (h : Int) : hCut h = (0, 0, 2) ∨ ∃ s g : Nat, s < 128 ∧ g < 1099511627776 ∧ h = 1 + s + g * 128 ∧ hCut h = ((s : Int), (g : Int), 0) := by
  unfold hCut
  split
  · exact .inl rfl
  · split
    · exact .inl rfl
    · exact .inr ⟨((h - 1) % 128).toNat, ((h - 1) / 128).toNat, by omega, by omega, by omega, by rw [show (((h - 1) % 128).toNat : Int) = (h - 1) % 128 by omega, show (((h - 1) / 128).toNat : Int) = (h - 1) / 128 by omega]⟩
set_option maxHeartbeats 400000 in
theorem cut_any (h : Int) (w : World) : Calls Try.prog 19 #[.int .i64 h] w fun e w' => e = .returned (triV (hCut h)) ∧ w = w' := by
  unfold hCut
  by_cases h0 : h < 1
  · rw [if_pos h0]
    go_enter Try.func19, Try.ntmps19
    go_wp2
    go_ret3
    exact ⟨rfl, rfl⟩
  rw [if_neg h0]
  by_cases h1 : 140737488355328 < h
  · rw [if_pos h1]
    have h1' : decide (140737488355328 < h) = true := decide_eq_true h1
    go_enter Try.func19, Try.ntmps19
    go_wp2
    go_ret3
    exact ⟨rfl, rfl⟩
  · rw [if_neg h1]
    have h1' : decide (140737488355328 < h) = false := decide_eq_false h1
    have h2 : h ≤ 140737488355328 := by omega
    go_enter Try.func19, Try.ntmps19
    go_wp2
    go_ret3
    exact ⟨rfl, rfl⟩
/-- What Live answers. -/
def hLive (gs : List Int) (h : Int) : Int × Int :=
  if (hCut h).2.2 ≠ 0 then (0, (hCut h).2.2) else match gs[(hCut h).1.toNat]? with
    | none => (0, 5)
    | some g => if g ≠ (hCut h).2.1 then (0, 40) else ((hCut h).1, 0)
theorem hLive_bad {gs : List Int} {h : Int} (e : hCut h = (0, 0, 2)) : hLive gs h = (0, 2) := by unfold hLive; rw [e]; rfl
theorem hLive_of {gs : List Int} {h : Int} {s g : Nat} (e : hCut h = ((s : Int), (g : Int), 0)) : hLive gs h = match gs[s]? with
    | none => (0, 5)
    | some x => if x ≠ g then (0, 40) else ((s : Int), 0) := by
  unfold hLive
  rw [e]
  simp
set_option maxHeartbeats 1000000 in
theorem live_any (A : Option Addr) (gs : List Int) (n c : Nat) (hn : gs.length = n) (h : Int) (w : World) (hr : RdI w A gs) :
    Calls Try.prog 18 #[.slice A n c, .int .i64 h] w fun e w' => e = .returned (duoV (hLive gs h)) ∧ w = w' := by
  rcases hCut_or h with hb | ⟨s, g, hs, hg, rfl, hb⟩
  · rw [hLive_bad hb]
    have Hhb := Lib.hid hb
    clear hb
    go_enter Try.func18, Try.ntmps18
    go_wp2_with fail
    refine (cut_any h _).mono ?_
    rintro e w' ⟨rfl, rfl⟩
    rw [Hhb.out]
    dsimp only [triV]
    go_wp2
    go_ret2
    exact ⟨rfl, rfl⟩
  · rw [hLive_of hb]
    have hnb : n ≤ 140737488355328 := by have := hr.1; omega
    by_cases hl : n ≤ s
    · have hgn : gs[s]? = none := List.getElem?_eq_none (by omega)
      rw [hgn]
      have Hhb := Lib.hid hb
      clear hb
      clear hgn hr hn
      go_enter Try.func18, Try.ntmps18
      go_wp2_with fail
      refine (cut_any _ _).mono ?_
      rintro e w' ⟨rfl, rfl⟩
      rw [Hhb.out]
      dsimp only [triV]
      go_wp2
      go_ret2
      exact ⟨rfl, rfl⟩
    · obtain ⟨x, hx⟩ : ∃ x, gs[s]? = some x := ⟨_, List.getElem?_eq_getElem (by omega)⟩
      obtain ⟨ad, rfl, hc⟩ := hr.2 (by omega)
      have hcx := hc s x hx
      rw [hx]
      dsimp only
      have hl' : s < n := by omega
      clear hc hx hr hn hl
      by_cases hxg : x = g
      · rw [if_neg (by simp [hxg])]
        subst hxg
        have hq : ((g : Int) != (g : Int)) = false := by simp
        have Hhb := Lib.hid hb
        clear hb
        go_enter Try.func18, Try.ntmps18
        go_wp2_with fail
        refine (cut_any _ _).mono ?_
        rintro e w' ⟨rfl, rfl⟩
        rw [Hhb.out]
        dsimp only [triV]
        go_wp2
        go_ret2
        exact ⟨rfl, rfl⟩
      · rw [if_pos hxg]
        have hq : (x != (g : Int)) = true := by rw [bne_iff_ne]; exact hxg
        clear hxg
        have Hhb := Lib.hid hb
        clear hb
        go_enter Try.func18, Try.ntmps18
        go_wp2_with fail
        refine (cut_any _ _).mono ?_
        rintro e w' ⟨rfl, rfl⟩
        rw [Hhb.out]
        dsimp only [triV]
        go_wp2
        go_ret2
        exact ⟨rfl, rfl⟩
end Go.Proofs.Ytlcdgjfofidkhaa
