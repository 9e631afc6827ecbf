/- SameInts: two slices of ints hold the same. -/
import Derived.Test.YtfackochjlccpaaRd
import Derived.Test.YtfackochjlccpaaRows
namespace Go.Proofs.Ytfackochjlccpaa
open Go Go.RowKit
set_option linter.unusedVariables false
set_option linter.unusedSimpArgs false
set_option maxHeartbeats 400000 in
theorem same_ints (A B : Option Addr) (xs ys : List Int) (c d : Nat) (w : World) (h1 : RdI w A xs) (h2 : RdI w B ys) :
    Calls Try.prog 25 #[.slice A xs.length c, .slice B ys.length d] w fun e w' => e = .returned (.bool (decide (xs = ys))) ∧ ∃ m, w' = w.drewN m := by
  have b1 := h1.1
  have b2 := h2.1
  by_cases hl : xs.length = ys.length
  · by_cases h0 : xs.length = 0
    · obtain rfl : xs = [] := List.eq_nil_of_length_eq_zero h0
      obtain rfl : ys = [] := List.eq_nil_of_length_eq_zero (by simpa using hl.symm)
      clear hl h0 h1 h2 b1 b2
      go_enter Try.func25, Try.ntmps25
      go_wp2
      go_loop [5] (fun i => i = .int .i64 0) (fun i => 0)
      case atStart => rfl
      case round =>
        subst hrel
        go_wp2
        go_ret
        exact ⟨rfl, 0, rfl⟩
    · obtain ⟨a, rfl, ha⟩ := h1.2 (by omega)
      obtain ⟨b, rfl, hb⟩ := h2.2 (by omega)
      obtain ⟨n, hn⟩ : ∃ n, xs.length = n := ⟨_, rfl⟩
      rw [hn] at b1 ⊢
      rw [← hl, hn]
      rw [hn] at hl
      have HN := Lib.hid hn
      have HL := Lib.hid hl
      have HA := Lib.hid ha
      have HB := Lib.hid hb
      clear hn hl ha hb h0 h1 h2 b2
      go_enter Try.func25, Try.ntmps25
      go_wp2
      go_loopw [5] (fun i wr => ∃ k m : Nat, k ≤ n ∧ i = .int .i64 k ∧ wr = w.drewN m ∧ Hid (xs.take k = ys.take k)) (fun i _ => n - (intOf i).toNat)
      case atStart => exact ⟨0, 0, Nat.zero_le _, rfl, rfl, rfl⟩
      case round =>
        obtain ⟨k, m, hk, rfl, rfl, heq⟩ := hrel
        by_cases hlt : k < n
        · obtain ⟨x, hx⟩ : ∃ x, xs[k]? = some x := ⟨_, List.getElem?_eq_getElem (by have := HN.out; omega)⟩
          obtain ⟨y, hy⟩ : ∃ y, ys[k]? = some y := ⟨_, List.getElem?_eq_getElem (by have := HL.out; omega)⟩
          have ca := HA.out k x hx
          have cb := HB.out k y hy
          have HX := Lib.hid hx
          have HY := Lib.hid hy
          clear hx hy
          by_cases hxy : x = y
          · have hne : (x != y) = false := by simp [hxy]
            have HXY := Lib.hid hxy
            clear hxy
            go_wp2
            go_quiet (fail)
            go_wp2
            go_roundw
            case rel => exact ⟨k + 1, _, by omega, by go_num, rfl, by
              show xs.take (k + 1) = ys.take (k + 1)
              rw [List.take_add_one, List.take_add_one, heq.out, HX.out, HY.out, HXY.out]⟩
            case measure => simp [intOf]; omega
          · have hne : (x != y) = true := by simp [hxy]
            have hd : ¬ xs = ys := fun e => hxy (by have := HX.out; rw [e, HY.out] at this; cases this; rfl)
            have HD := Lib.hid hd
            clear hxy hd
            go_wp2
            go_quiet (fail)
            go_wp2
            go_ret
            exact ⟨by rw [decide_eq_false HD.out]; rfl, _, World.drewN_drewN ..⟩
        · obtain rfl : k = n := by omega
          have hd : xs = ys := by
            have h := heq.out
            rwa [List.take_of_length_le (by have := HN.out; omega), List.take_of_length_le (by have := HL.out; omega)] at h
          have HD := Lib.hid hd
          clear hd
          go_wp2
          go_ret
          exact ⟨by rw [decide_eq_true HD.out]; rfl, _, rfl⟩
  · have hd : ¬ xs = ys := fun e => hl (by rw [e])
    have hne : ((xs.length : Int) != (ys.length : Int)) = true := by rw [bne_iff_ne]; omega
    rw [decide_eq_false hd]
    clear hd h1 h2
    generalize xs.length = n at *
    generalize ys.length = m at *
    clear hl
    go_enter Try.func25, Try.ntmps25
    go_wp2
    go_ret
    exact ⟨rfl, 0, rfl⟩
theorem same_any (A B : Option Addr) (xs ys : List Int) (n m c d : Nat) (hn : xs.length = n) (hm : ys.length = m) (w : World) (h1 : RdI w A xs) (h2 : RdI w B ys) :
    Calls Try.prog 25 #[.slice A n c, .slice B m d] w fun e w' => e = .returned (.bool (decide (xs = ys))) ∧ ∃ m, w' = w.drewN m := by
  subst hn
  subst hm
  exact same_ints A B xs ys c d w h1 h2
end Go.Proofs.Ytfackochjlccpaa
