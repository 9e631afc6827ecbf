/- Among: a number as one from 0 to n - 1. -/
import Derived.Test.YtfackochjlccpaaSp
import Derived.Test.YtfackochjlccpaaRows
namespace Go.Proofs.Ytfackochjlccpaa
open Go Go.RowKit
set_option linter.unusedVariables false
set_option linter.unusedSimpArgs false
def amongI (x n : Int) : Int := IntKind.u64.wrap x % n
theorem amongI_lt (x n : Int) (h : 1 ≤ n) : 0 ≤ amongI x n ∧ amongI x n < n := ⟨Int.emod_nonneg _ (by omega), Int.emod_lt_of_pos _ (by omega)⟩
theorem u64_pos (x : Int) : 0 ≤ IntKind.u64.wrap x := by simp [IntKind.wrap, IntKind.bits, IntKind.signed]; omega
theorem u64_id {x : Int} (h : 0 ≤ x) (h2 : x ≤ 9223372036854775807) : IntKind.u64.wrap x = x := by simp [IntKind.wrap, IntKind.bits, IntKind.signed]; omega
set_option maxHeartbeats 400000 in
theorem among_any (x n : Int) (h1 : 1 ≤ n) (h2 : n ≤ 2199023255552) (w : World) :
    Calls Try.prog 11 #[.int .i64 x, .int .i64 n] w fun e w' => e = .returned (.int .i64 (amongI x n)) ∧ w = w' := by
  have hn : IntKind.u64.wrap n = n := u64_id (by omega) (by omega)
  have h0 := u64_pos x
  have hr := amongI_lt x n h1
  obtain ⟨y, hy⟩ : ∃ y, IntKind.u64.wrap x = y := ⟨_, rfl⟩
  unfold amongI at hr ⊢
  rw [hy] at h0 hr ⊢
  obtain ⟨r, hrr⟩ : ∃ r, y % n = r := ⟨_, rfl⟩
  rw [hrr] at hr ⊢
  obtain ⟨r0, r1⟩ := hr
  go_enter Try.func11, Try.ntmps11
  go_wp2
  go_ret
  exact ⟨rfl, rfl⟩
end Go.Proofs.Ytfackochjlccpaa
