/- Proves the printed pure statement of HandleBack: a handle's slot and generation make that handle; for every three ints. -/
import Derived.Test.YtlcdgjfofidkhaaPHandleBackx1
namespace Go.Proofs.Ytlcdgjfofidkhaa.Pure
open Go.RowKit Go.Proofs.Ytlcdgjfofidkhaa.PHandleBack Go.Proofs.YtlcdgjfofidkhaaW.PrintWords Go.Proofs.YtlcdgjfofidkhaaW.PrintLast

theorem w64id {x : Int} (h : -9223372036854775808 ≤ x) (h' : x ≤ 9223372036854775807) : wrap64 x = x := by unfold wrap64; omega
theorem i64b {x : Int} (h : (Lit.int .i64 x).wf = true) : -9223372036854775808 ≤ x ∧ x ≤ 9223372036854775807 := by
  simp [Lit.wf, IntKind.min, IntKind.max, IntKind.signed, IntKind.bits] at h; omega
theorem of_ok {s g : Int} (h0 : 0 ≤ s) (h1 : s < 128) (h2 : 0 ≤ g) (h3 : g < 1099511627776) : handle_Of.f s g = some (1 + s + g * 128, 0) := by
  unfold handle_Of.f
  rw [if_neg (by omega), if_neg (by omega), if_neg (by omega), if_neg (by omega), w64id (x := 1 + s) (by omega) (by omega), w64id (x := g * 128) (by omega) (by omega), w64id (by omega) (by omega)]
theorem of_bad {s g : Int} (h : ¬(0 ≤ s ∧ s < 128 ∧ 0 ≤ g ∧ g < 1099511627776)) : handle_Of.f s g = some (0, 2) := by
  unfold handle_Of.f
  by_cases h0 : s < 0
  · rw [if_pos h0]
  · by_cases h1 : s ≥ 128
    · rw [if_neg h0, if_pos h1]
    · by_cases h2 : g < 0
      · rw [if_neg h0, if_neg h1, if_pos h2]
      · rw [if_neg h0, if_neg h1, if_neg h2, if_pos (by omega)]
theorem cut_ok {h : Int} (h0 : 1 ≤ h) (h1 : h ≤ 140737488355328) : handle_cut.f h = some ((h - 1) % 128, (h - 1) / 128, 0) := by
  unfold handle_cut.f
  rw [if_neg (by omega), if_neg (by omega), w64id (x := h - 1) (by omega) (by omega), Int.tmod_eq_emod_of_nonneg (by omega), Int.tdiv_eq_ediv_of_nonneg (by omega), w64id (by omega) (by omega)]
theorem cut_bad {h : Int} (h0 : ¬(1 ≤ h ∧ h ≤ 140737488355328)) : handle_cut.f h = some (0, 0, 2) := by
  unfold handle_cut.f
  by_cases h1 : h < 1
  · rw [if_pos h1]
  · rw [if_neg h1, if_pos (by omega)]
theorem works_ok : postriderlaw04_works.f = some true := by
  unfold postriderlaw04_works.f
  rw [of_ok (by omega) (by omega) (by omega) (by omega), of_ok (by omega) (by omega) (by omega) (by omega)]
  simp only [Option.bind_some]
  unfold handle_Live.f
  rw [cut_ok (by omega) (by omega), cut_ok (by omega) (by omega)]
  simp [rd]
theorem slot_ok {h : Int} (h0 : 1 ≤ h) (h1 : h ≤ 140737488355328) : handle_Slot.f h = some ((h - 1) % 128, 0) := by
  unfold handle_Slot.f; rw [cut_ok h0 h1]; rfl
theorem gen_ok {h : Int} (h0 : 1 ≤ h) (h1 : h ≤ 140737488355328) : handle_Gen.f h = some ((h - 1) / 128, 0) := by
  unfold handle_Gen.f; rw [cut_ok h0 h1]; rfl
theorem slot_bad {h : Int} (h0 : ¬(1 ≤ h ∧ h ≤ 140737488355328)) : handle_Slot.f h = some (0, 2) := by
  unfold handle_Slot.f; rw [cut_bad h0]; rfl
theorem j_ok (k : Nat) (h s g x e : Int) (hx : e = 0 → 0 ≤ s ∧ s < 128 ∧ 0 ≤ g ∧ g < 1099511627776 ∧ x = 1 + s + g * 128) :
    postriderlaw04_HandleBack.j0 (k + 1) h s g x e = some true := by
  simp only [postriderlaw04_HandleBack.j0]
  by_cases hh : 1 ≤ h ∧ h ≤ 140737488355328
  · obtain ⟨h0, h1⟩ := hh
    rw [slot_ok h0 h1, gen_ok h0 h1]
    simp only [Option.bind_some, if_true]
    rw [of_ok (by omega) (by omega) (by omega) (by omega)]
    simp only [Option.bind_some, if_true]
    rw [if_pos (by omega)]
    by_cases he : e = 0
    · obtain ⟨s0, s1, g0, g1, rfl⟩ := hx he
      rw [if_pos he]
      by_cases hs : (h - 1) % 128 = s
      · rw [if_pos hs]
        congr 1
        rw [beq_iff_eq, Bool.eq_iff_iff, beq_iff_eq, beq_iff_eq]; omega
      · rw [if_neg hs]
        congr 1
        rw [beq_iff_eq, beq_eq_false_iff_ne]; omega
    · rw [if_neg he]
  · rw [slot_bad hh]
    rfl
theorem HandleBack : postriderlaw04_HandleBack.Pure := by
  intro h s g _ _ _
  refine ⟨1, ?_⟩
  unfold postriderlaw04_HandleBack.f
  rw [works_ok]
  simp only [Option.bind_some, if_true]
  by_cases hh : 0 ≤ s ∧ s < 128 ∧ 0 ≤ g ∧ g < 1099511627776
  · obtain ⟨s0, s1, g0, g1⟩ := hh
    rw [of_ok s0 s1 g0 g1]
    simp only [Option.bind_some, if_true]
    rw [slot_ok (by omega) (by omega), gen_ok (by omega) (by omega)]
    simp only [Option.bind_some, if_true]
    rw [if_pos (by omega), if_pos (by omega)]
    exact j_ok 0 _ _ _ _ _ (fun _ => ⟨s0, s1, g0, g1, rfl⟩)
  · rw [of_bad hh]
    simp only [Option.bind_some]
    rw [if_neg (by omega)]
    exact j_ok 0 _ _ _ _ _ (fun h => by omega)

end Go.Proofs.Ytlcdgjfofidkhaa.Pure
