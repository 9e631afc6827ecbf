/- HasInt: is it there? -/
import Derived.Test.YtfkhnpkojnnfmaaRd
import Derived.Test.YtfkhnpkojnnfmaaRows
namespace Go.Proofs.Ytfkhnpkojnnfmaa
open Go Go.RowKit
set_option linter.unusedVariables false
set_option linter.unusedSimpArgs false
set_option maxHeartbeats 400000 in
theorem has_any (A : Option Addr) (xs : List Int) (n c : Nat) (hn : xs.length = n) (x : Int) (w : World) (h : RdI w A xs) :
    Calls Try.prog 11 #[.slice A n c, .int .i64 x] w fun e w' => e = .returned (.bool (decide (x ∈ xs))) ∧ w' = w := by
  have hnb : n ≤ 140737488355328 := by have := h.1; omega
  have hc : 0 < n → ∃ a, A = some a ∧ ∀ j x, xs[j]? = some x → w.cell? (a.add j) = some (.int .i64 x) := fun h0 => h.2 (by omega)
  clear h
  have Hhn := Lib.hid hn
  have Hhc := Lib.hid hc
  clear hn hc
  go_enter Try.func11, Try.ntmps11
  go_wp2_with fail
  go_loopw [5] (fun i wr => ∃ k : Nat, k ≤ n ∧ i = .int .i64 k ∧ wr = w ∧ Hid (x ∉ xs.take k)) (fun i _ => n - (intOf i).toNat)
  case atStart => exact ⟨0, Nat.zero_le _, rfl, rfl, Lib.hid (by simp)⟩
  case round =>
    obtain ⟨k, hk, rfl, rfl, hx⟩ := hrel
    by_cases hlt : k < n
    · obtain ⟨a, rfl, hc⟩ := Hhc.out (by omega)
      obtain ⟨z, hz⟩ : ∃ z, xs[k]? = some z := ⟨_, List.getElem?_eq_getElem (by have := Hhn.out; omega)⟩
      have kz := hc k z hz
      clear hc
      by_cases hxz : z = x
      · have hd : x ∈ xs := List.mem_of_getElem? (hxz ▸ hz)
        have hb : (z == x) = true := by simp [hxz]
        have Hhd := Lib.hid hd
        clear hd
        clear hz hxz
        go_wp2
        go_ret
        exact ⟨by rw [decide_eq_true Hhd.out]; rfl, rfl⟩
      · have hb : (z == x) = false := by simp [hxz]
        have hx2 := Lib.hid (show x ∉ xs.take (k + 1) by rw [List.take_add_one, hz]; simp [hx.out, Ne.symm hxz])
        clear hz hxz
        go_wp2
        go_roundw
        case rel => exact ⟨k + 1, by omega, by go_num, trivial, hx2⟩
        case measure => simp [intOf]; omega
    · obtain rfl : k = n := by omega
      have hd : x ∉ xs := by have := hx.out; rwa [List.take_of_length_le (by rw [Hhn.out]; exact Nat.le_refl _)] at this
      have Hhd := Lib.hid hd
      clear hd
      go_wp2
      go_ret
      exact ⟨by rw [decide_eq_false Hhd.out]; rfl, rfl⟩
end Go.Proofs.Ytfkhnpkojnnfmaa
