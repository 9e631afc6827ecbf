/- The least cursor, the program's and the reference's; the chapter's example. -/
import Derived.Test.YtlajjgdgjakkdaaCur
import Derived.Test.YtlajjgdgjakkdaaRd
namespace Go.Proofs.Ytlajjgdgjakkdaa
open Go Go.RowKit
set_option linter.unusedVariables false
set_option linter.unusedSimpArgs false
def least : List Int → Int
  | [] => 0
  | x :: xs => xs.foldl min x
theorem least_succ {xs : List Int} {k : Nat} {z : Int} (h0 : 0 < k) (h : xs[k]? = some z) : least (xs.take (k + 1)) = min (least (xs.take k)) z := by
  cases xs with
  | nil => simp at h
  | cons x xs =>
    obtain ⟨k, rfl⟩ : ∃ j, k = j + 1 := ⟨k - 1, by omega⟩
    simp at h
    obtain ⟨hlt, rfl⟩ := List.getElem?_eq_some_iff.1 h
    simp only [List.take_succ_cons, least]
    rw [List.take_succ_eq_append_getElem hlt, List.foldl_append]
    rfl
theorem least_one {xs : List Int} {z : Int} (h : xs[0]? = some z) : least (xs.take 1) = z := by
  cases xs with
  | nil => simp at h
  | cons x xs => simp at h; simp [least, h]
set_option maxHeartbeats 1000000 in
set_option maxRecDepth 100000 in
theorem min_any (A : Option Addr) (xs : List Int) (n c : Nat) (hn : xs.length = n) (h0 : 0 < n) (w : World) (h : RdI w A xs) :
    Calls Try.prog 32 #[.slice A n c] w fun e w' => e = .returned (.int .i64 (least xs)) ∧ w' = w := by
  have hnb : n ≤ 140737488355328 := by have := h.1; omega
  obtain ⟨a, rfl, hc⟩ := h.2 (by omega)
  obtain ⟨x0, hx0⟩ : ∃ z, xs[0]? = some z := ⟨_, List.getElem?_eq_getElem (by omega)⟩
  have k0 := hc 0 x0 hx0
  rw [show a.add 0 = a by unfold Addr.add; split <;> simp_all] at k0
  have h1 := least_one hx0
  clear h hx0
  have Hhc := Lib.hid hc
  have Hhn := Lib.hid hn
  have Hh1 := Lib.hid h1
  clear hc hn h1
  go_enter Try.func32, Try.ntmps32
  go_wp2_with fail
  go_loopw [3, 4] (fun m i wr => ∃ (k : Nat) (M : Int), (1 ≤ k ∧ k ≤ n ∧ least (xs.take k) = M) ∧ m = .int .i64 M ∧ i = .int .i64 k ∧ wr = w) (fun _ i _ => n - (intOf i).toNat)
  case atStart => exact ⟨1, x0, ⟨by omega, h0, Hh1.out⟩, rfl, rfl, rfl⟩
  case round =>
    obtain ⟨k, M, ⟨hk1, hk, hM⟩, rfl, rfl, rfl⟩ := hrel
    by_cases hlt : k < n
    · obtain ⟨z, hz⟩ : ∃ z, xs[k]? = some z := ⟨_, List.getElem?_eq_getElem (by have := Hhn.out; omega)⟩
      have kz := Hhc.out k z hz
      have hs := least_succ (by omega) hz
      rw [hM] at hs
      have Hhs := Lib.hid hs
      clear hs
      clear hM hz
      go_wp2
      all_goals
        go_roundw
        case rel => exact ⟨k + 1, _, ⟨by omega, by omega, Hhs.out⟩, by (congr 1; omega), by go_num, trivial⟩
        case measure => simp [intOf]; omega
    · obtain rfl : k = n := by omega
      have hx : xs.take k = xs := List.take_of_length_le (by rw [Hhn.out]; exact Nat.le_refl _)
      rw [hx] at hM
      have HhM := Lib.hid hM
      clear hM
      clear hx hlt
      go_wp2
      go_ret
      exact ⟨by rw [HhM.out]; rfl, rfl⟩
set_option maxHeartbeats 400000 in
theorem slowest_any (A : Option Addr) (xs : List Int) (n c : Nat) (hn : xs.length = n) (w : World) (h : RdI w A xs) :
    Calls Try.prog 19 #[.slice A n c] w fun e w' => e = .returned (.int .i64 (least xs)) ∧ w' = w := by
  by_cases h0 : n = 0
  · subst h0
    obtain rfl : xs = [] := List.eq_nil_of_length_eq_zero hn
    go_enter Try.func19, Try.ntmps19
    go_wp2
    go_ret
    exact ⟨rfl, rfl⟩
  · go_enter Try.func19, Try.ntmps19
    go_wp2_with fail
    refine (min_any A xs n c hn (by omega) w h).mono ?_
    rintro e w' ⟨rfl, rfl⟩
    dsimp only
    go_wp2
    go_ret
    exact ⟨rfl, rfl⟩
set_option maxHeartbeats 1000000 in
set_option maxRecDepth 100000 in
theorem slowest_ref (A : Option Addr) (xs : List Int) (n c : Nat) (hn : xs.length = n) (w : World) (h : RdI w A xs) :
    Calls Try.prog 21 #[.slice A n c] w fun e w' => e = .returned (.int .i64 (least xs)) ∧ w' = w := by
  have hnb : n ≤ 140737488355328 := by have := h.1; omega
  have hc : 0 < n → ∃ a, A = some a ∧ ∀ j x, xs[j]? = some x → w.cell? (a.add j) = some (.int .i64 x) := fun h0 => h.2 (by omega)
  have h1 : ∀ z, xs[0]? = some z → least (xs.take 1) = z := fun z hz => least_one hz
  clear h
  have Hhn := Lib.hid hn
  have Hh1 := Lib.hid h1
  have Hhc := Lib.hid hc
  clear hn h1 hc
  go_enter Try.func21, Try.ntmps21
  go_wp2_with fail
  go_loopw [3, 4] (fun m i wr => ∃ (k : Nat) (M : Int), (k ≤ n ∧ least (xs.take k) = M) ∧ m = .int .i64 M ∧ i = .int .i64 k ∧ wr = w) (fun _ i _ => n - (intOf i).toNat)
  case atStart => exact ⟨0, 0, ⟨by omega, by simp [least]⟩, rfl, rfl, rfl⟩
  case round =>
    obtain ⟨k, M, ⟨hk, hM⟩, rfl, rfl, rfl⟩ := hrel
    by_cases hlt : k < n
    · obtain ⟨a, rfl, hc⟩ := Hhc.out (by omega)
      obtain ⟨z, hz⟩ : ∃ z, xs[k]? = some z := ⟨_, List.getElem?_eq_getElem (by have := Hhn.out; omega)⟩
      have kz := hc k z hz
      clear hc
      by_cases hk0 : k = 0
      · subst hk0
        have hs := Hh1.out z hz
        have Hhs := Lib.hid hs
        clear hs
        clear hM hz
        rw [show a.add 0 = a by unfold Addr.add; split <;> simp_all] at kz
        go_wp2
        go_roundw
        case rel => exact ⟨1, _, ⟨by omega, Hhs.out⟩, rfl, by go_num, trivial⟩
        case measure => simp [intOf]; omega
      · have hk0' : ((k : Int) == 0) = false := by rw [beq_eq_false_iff_ne]; omega
        have hs := least_succ (by omega) hz
        rw [hM] at hs
        have Hhs := Lib.hid hs
        clear hs
        clear hM hz
        go_wp2
        all_goals
          go_roundw
          case rel => exact ⟨k + 1, _, ⟨by omega, Hhs.out⟩, by (congr 1; omega), by go_num, trivial⟩
          case measure => simp [intOf]; omega
    · obtain rfl : k = n := by omega
      have hx : xs.take k = xs := List.take_of_length_le (by rw [Hhn.out]; exact Nat.le_refl _)
      rw [hx] at hM
      have HhM := Lib.hid hM
      clear hM
      clear hx hlt
      go_wp2
      go_ret
      exact ⟨by rw [HhM.out]; rfl, rfl⟩
set_option maxHeartbeats 1000000 in
set_option maxRecDepth 100000 in
theorem works07 (w : World) : Calls Try.prog 9 #[] w (RetB w (.bool true)) := by
  have e1 : mv 3 5 9 = ((5, 3, 5), 0) := by decide
  have e2 : behind 3 5 9 = (4, 0) := by decide
  have e3 : least [4, 2, 3] = 2 := by decide
  have He1 := Lib.hid e1
  have He2 := Lib.hid e2
  have He3 := Lib.hid e3
  clear e1 e2 e3
  go_enter Try.func9, Try.ntmps9
  go_wp2_with fail
  refine (move_cursor 3 5 9 _).mono ?_
  rintro e w1 ⟨rfl, hb⟩
  rw [He1.out]
  have hI := (Inv.refl w).grow hb
  clear hb
  have HhI := Lib.hid hI
  clear hI
  dsimp only [mvV]
  go_wp2_with fail
  refine (behind_cursor 3 5 9 _).mono ?_
  rintro e w2 ⟨rfl, hb⟩
  rw [He2.out]
  have h2 := (HhI.out.alloc (.cells #[.int .i64 3, .int .i64 5] 30)).grow hb
  have c0 := h2.cell (off := 0) (v := .int .i64 3) rfl
  have c1 := h2.cell (off := 1) (v := .int .i64 5) rfl
  have Hh2 := Lib.hid h2
  clear h2
  clear hb
  dsimp only
  have eqS := eqSpan
  have h3 := Hh2.out.alloc (.cells #[.int .i64 4, .int .i64 2, .int .i64 3] 3)
  have hr := blk_rdi h3 (xs := [4, 2, 3]) (fun j x hj => by match j, hj with | 0, hj => simp at hj; subst hj; rfl | 1, hj => simp at hj; subst hj; rfl | 2, hj => simp at hj; subst hj; rfl) (by decide)
  have Hh3 := Lib.hid h3
  have Hhr := Lib.hid hr
  clear h3 hr
  go_wp2_with fail
  refine (slowest_any _ [4, 2, 3] 3 3 rfl _ Hhr.out).mono ?_
  rintro e w' ⟨rfl, rfl⟩
  dsimp only
  rw [He3.out]
  go_wp2
  go_ret
  exact ⟨rfl, Hh3.out.below⟩
end Go.Proofs.Ytlajjgdgjakkdaa
