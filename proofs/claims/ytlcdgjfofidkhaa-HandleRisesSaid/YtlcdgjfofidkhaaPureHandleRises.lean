/- Proves the printed pure statement of HandleRises: handles of one generation rise with their slots, those of a slot with their generations, none is 0; for every four ints. -/
import Derived.Test.YtlcdgjfofidkhaaPHandleRisesx1
namespace Go.Proofs.Ytlcdgjfofidkhaa.Pure
open Go.RowKit Go.Proofs.Ytlcdgjfofidkhaa.PHandleRises Go.Proofs.YtlcdgjfofidkhaaW.PrintWords Go.Proofs.YtlcdgjfofidkhaaW.PrintLast

theorem w64id {x : Int} (h : -9223372036854775808 ≤ x) (h' : x ≤ 9223372036854775807) : wrap64 x = x := by unfold wrap64; omega
theorem i64b {x : Int} (h : (Lit.int .i64 x).wf = true) : -9223372036854775808 ≤ x ∧ x ≤ 9223372036854775807 := by
  simp [Lit.wf, IntKind.min, IntKind.max, IntKind.signed, IntKind.bits] at h; omega
theorem of_ok {s g : Int} (h0 : 0 ≤ s) (h1 : s < 128) (h2 : 0 ≤ g) (h3 : g < 1099511627776) : handle_Of.f s g = some (1 + s + g * 128, 0) := by
  unfold handle_Of.f
  rw [if_neg (by omega), if_neg (by omega), if_neg (by omega), if_neg (by omega), w64id (x := 1 + s) (by omega) (by omega), w64id (x := g * 128) (by omega) (by omega), w64id (by omega) (by omega)]
theorem of_bad {s g : Int} (h : ¬(0 ≤ s ∧ s < 128 ∧ 0 ≤ g ∧ g < 1099511627776)) : handle_Of.f s g = some (0, 2) := by
  unfold handle_Of.f
  by_cases h0 : s < 0
  · rw [if_pos h0]
  · by_cases h1 : s ≥ 128
    · rw [if_neg h0, if_pos h1]
    · by_cases h2 : g < 0
      · rw [if_neg h0, if_neg h1, if_pos h2]
      · rw [if_neg h0, if_neg h1, if_neg h2, if_pos (by omega)]
theorem cut_ok {h : Int} (h0 : 1 ≤ h) (h1 : h ≤ 140737488355328) : handle_cut.f h = some ((h - 1) % 128, (h - 1) / 128, 0) := by
  unfold handle_cut.f
  rw [if_neg (by omega), if_neg (by omega), w64id (x := h - 1) (by omega) (by omega), Int.tmod_eq_emod_of_nonneg (by omega), Int.tdiv_eq_ediv_of_nonneg (by omega), w64id (by omega) (by omega)]
theorem cut_bad {h : Int} (h0 : ¬(1 ≤ h ∧ h ≤ 140737488355328)) : handle_cut.f h = some (0, 0, 2) := by
  unfold handle_cut.f
  by_cases h1 : h < 1
  · rw [if_pos h1]
  · rw [if_neg h1, if_pos (by omega)]
theorem works_ok : postriderlaw04_works.f = some true := by
  unfold postriderlaw04_works.f
  rw [of_ok (by omega) (by omega) (by omega) (by omega), of_ok (by omega) (by omega) (by omega) (by omega)]
  simp only [Option.bind_some]
  unfold handle_Live.f
  rw [cut_ok (by omega) (by omega), cut_ok (by omega) (by omega)]
  simp [rd]
theorem among_ok {x n : Int} (h0 : 1 ≤ n) (h1 : n ≤ 9223372036854775807) : ∃ r, postriderbase_Among.f x n = some r ∧ 0 ≤ r ∧ r < n := by
  have e : IntKind.u64.wrap n = n := by simp [IntKind.wrap, IntKind.bits, IntKind.signed]; omega
  have b : 0 ≤ IntKind.u64.wrap x := by simp [IntKind.wrap, IntKind.bits, IntKind.signed]; omega
  refine ⟨IntKind.u64.wrap x % n, ?_, Int.emod_nonneg _ (by omega), Int.emod_lt_of_pos _ (by omega)⟩
  unfold postriderbase_Among.f
  rw [if_neg (by omega), e, if_neg (by omega), Int.tmod_eq_emod_of_nonneg b, w64id (by have := Int.emod_nonneg (IntKind.u64.wrap x) (show n ≠ 0 by omega); omega) (by have := Int.emod_lt_of_pos (IntKind.u64.wrap x) (show 0 < n by omega); omega)]
theorem HandleRises : postriderlaw04_HandleRises.Pure := by
  intro a b g m _ _ _ _
  unfold postriderlaw04_HandleRises.f
  rw [works_ok]
  simp only [Option.bind_some, if_true]
  obtain ⟨x, hx, x0, x1⟩ := among_ok (x := a) (n := 128) (by omega) (by omega)
  obtain ⟨y, hy, y0, y1⟩ := among_ok (x := b) (n := 128) (by omega) (by omega)
  obtain ⟨z, hz, z0, z1⟩ := among_ok (x := g) (n := 1099511627775) (by omega) (by omega)
  rw [hx, hy, hz]
  simp only [Option.bind_some]
  rw [w64id (x := 1099511627775 - z) (by omega) (by omega)]
  obtain ⟨t, ht, t0, t1⟩ := among_ok (x := m) (n := 1099511627775 - z) (by omega) (by omega)
  rw [ht]
  simp only [Option.bind_some]
  rw [w64id (x := z + 1) (by omega) (by omega), w64id (x := z + 1 + t) (by omega) (by omega), of_ok x0 x1 z0 (by omega), of_ok y0 y1 z0 (by omega), of_ok x0 x1 (by omega) (by omega)]
  simp only [Option.bind_some, if_true]
  rw [if_pos (by rw [beq_iff_eq, decide_eq_decide]; omega), if_pos (by omega), if_pos (by omega)]
  simp; omega

end Go.Proofs.Ytlcdgjfofidkhaa.Pure
