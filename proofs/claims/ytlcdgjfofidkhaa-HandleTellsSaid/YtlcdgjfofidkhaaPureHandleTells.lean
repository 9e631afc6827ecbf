/- Proves the printed pure statement of HandleTells: handles are made and told as the reference says; for every three ints. -/
import Derived.Test.YtlcdgjfofidkhaaPHandleTellsx1
namespace Go.Proofs.Ytlcdgjfofidkhaa.Pure
open Go.RowKit Go.Proofs.Ytlcdgjfofidkhaa.PHandleTells Go.Proofs.YtlcdgjfofidkhaaW.PrintWords Go.Proofs.YtlcdgjfofidkhaaW.PrintLast

theorem w64id {x : Int} (h : -9223372036854775808 ≤ x) (h' : x ≤ 9223372036854775807) : wrap64 x = x := by unfold wrap64; omega
theorem i64b {x : Int} (h : (Lit.int .i64 x).wf = true) : -9223372036854775808 ≤ x ∧ x ≤ 9223372036854775807 := by
  simp [Lit.wf, IntKind.min, IntKind.max, IntKind.signed, IntKind.bits] at h; omega
theorem of_ok {s g : Int} (h0 : 0 ≤ s) (h1 : s < 128) (h2 : 0 ≤ g) (h3 : g < 1099511627776) : handle_Of.f s g = some (1 + s + g * 128, 0) := by
  unfold handle_Of.f
  rw [if_neg (by omega), if_neg (by omega), if_neg (by omega), if_neg (by omega), w64id (x := 1 + s) (by omega) (by omega), w64id (x := g * 128) (by omega) (by omega), w64id (by omega) (by omega)]
theorem of_bad {s g : Int} (h : ¬(0 ≤ s ∧ s < 128 ∧ 0 ≤ g ∧ g < 1099511627776)) : handle_Of.f s g = some (0, 2) := by
  unfold handle_Of.f
  by_cases h0 : s < 0
  · rw [if_pos h0]
  · by_cases h1 : s ≥ 128
    · rw [if_neg h0, if_pos h1]
    · by_cases h2 : g < 0
      · rw [if_neg h0, if_neg h1, if_pos h2]
      · rw [if_neg h0, if_neg h1, if_neg h2, if_pos (by omega)]
theorem cut_ok {h : Int} (h0 : 1 ≤ h) (h1 : h ≤ 140737488355328) : handle_cut.f h = some ((h - 1) % 128, (h - 1) / 128, 0) := by
  unfold handle_cut.f
  rw [if_neg (by omega), if_neg (by omega), w64id (x := h - 1) (by omega) (by omega), Int.tmod_eq_emod_of_nonneg (by omega), Int.tdiv_eq_ediv_of_nonneg (by omega), w64id (by omega) (by omega)]
theorem cut_bad {h : Int} (h0 : ¬(1 ≤ h ∧ h ≤ 140737488355328)) : handle_cut.f h = some (0, 0, 2) := by
  unfold handle_cut.f
  by_cases h1 : h < 1
  · rw [if_pos h1]
  · rw [if_neg h1, if_pos (by omega)]
theorem works_ok : postriderlaw04_works.f = some true := by
  unfold postriderlaw04_works.f
  rw [of_ok (by omega) (by omega) (by omega) (by omega), of_ok (by omega) (by omega) (by omega) (by omega)]
  simp only [Option.bind_some]
  unfold handle_Live.f
  rw [cut_ok (by omega) (by omega), cut_ok (by omega) (by omega)]
  simp [rd]
theorem rof (s g : Int) : postriderref04_Of.f s g = handle_Of.f s g := by
  by_cases hh : 0 ≤ s ∧ s < 128 ∧ 0 ≤ g ∧ g < 1099511627776
  · obtain ⟨s0, s1, g0, g1⟩ := hh
    rw [of_ok s0 s1 g0 g1]
    unfold postriderref04_Of.f postriderref04_slot.f postriderref04_gen.f
    rw [if_pos (by omega), if_pos (by omega), w64id (x := g * 128) (by omega) (by omega), w64id (x := g * 128 + s) (by omega) (by omega), w64id (x := g * 128 + s + 1) (by omega) (by omega)]
    simp [s1, g1]; omega
  · rw [of_bad hh]
    unfold postriderref04_Of.f postriderref04_slot.f postriderref04_gen.f
    by_cases h0 : 0 ≤ s ∧ s < 128
    · rw [if_pos (by omega)]
      simp only [Option.bind_some, decide_eq_true h0.2, if_true]
      by_cases h2 : 0 ≤ g
      · rw [if_pos (by omega)]
        have : ¬ g < 1099511627776 := by omega
        simp [this]
      · rw [if_neg (by omega)]
        simp
    · by_cases h1 : 0 ≤ s
      · rw [if_pos (by omega)]
        have : ¬ s < 128 := by omega
        simp [this]
      · rw [if_neg (by omega)]
        simp
theorem ris (h : Int) : postriderref04_Is.f h = some (decide (1 ≤ h ∧ h ≤ 140737488355328)) := by
  unfold postriderref04_Is.f
  by_cases h0 : 1 ≤ h
  · rw [if_pos h0]; simp [h0]
  · rw [if_neg h0]; simp [h0]
theorem rslot (h : Int) : postriderref04_Slot.f h = handle_Slot.f h := by
  unfold postriderref04_Slot.f handle_Slot.f
  rw [ris]
  by_cases hh : 1 ≤ h ∧ h ≤ 140737488355328
  · rw [cut_ok hh.1 hh.2]
    simp only [Option.bind_some, decide_eq_true hh, if_true]
    rw [w64id (x := h - 1) (by omega) (by omega), Int.tmod_eq_emod_of_nonneg (by omega)]
  · rw [cut_bad hh]
    simp only [Option.bind_some, decide_eq_false hh]
    simp
theorem rgen (h : Int) : postriderref04_Gen.f h = handle_Gen.f h := by
  unfold postriderref04_Gen.f handle_Gen.f
  rw [ris]
  by_cases hh : 1 ≤ h ∧ h ≤ 140737488355328
  · rw [cut_ok hh.1 hh.2]
    simp only [Option.bind_some, decide_eq_true hh, if_true]
    rw [w64id (x := h - 1) (by omega) (by omega), Int.tdiv_eq_ediv_of_nonneg (by omega), w64id (by omega) (by omega)]
  · rw [cut_bad hh]
    simp only [Option.bind_some, decide_eq_false hh]
    simp
theorem rnext (h : Int) : postriderref04_Next.f h = handle_Next.f h := by
  unfold postriderref04_Next.f handle_Next.f
  rw [ris]
  by_cases hh : 1 ≤ h ∧ h ≤ 140737488355328
  · rw [cut_ok hh.1 hh.2]
    simp only [Option.bind_some, decide_eq_true hh, if_true]
    rw [w64id (x := h - 1) (by omega) (by omega), Int.tdiv_eq_ediv_of_nonneg (by omega), w64id (x := (h - 1) / 128) (by omega) (by omega), w64id (x := (h - 1) / 128 + 1) (by omega) (by omega)]
    by_cases hl : (h - 1) / 128 = 1099511627775
    · rw [if_pos hl, of_bad (by omega)]; rfl
    · rw [if_neg hl, of_ok (by omega) (by omega) (by omega) (by omega), w64id (by omega) (by omega)]
      simp only [Option.bind_some]
      congr 2; omega
  · rw [cut_bad hh]
    simp only [Option.bind_some, decide_eq_false hh]
    simp
theorem of_some (s g : Int) : ∃ r, handle_Of.f s g = some r := by
  by_cases hh : 0 ≤ s ∧ s < 128 ∧ 0 ≤ g ∧ g < 1099511627776
  · exact ⟨_, of_ok hh.1 hh.2.1 hh.2.2.1 hh.2.2.2⟩
  · exact ⟨_, of_bad hh⟩
theorem cut_some (h : Int) : ∃ r, handle_cut.f h = some r := by
  by_cases hh : 1 ≤ h ∧ h ≤ 140737488355328
  · exact ⟨_, cut_ok hh.1 hh.2⟩
  · exact ⟨_, cut_bad hh⟩
theorem HandleTells : postriderlaw04_HandleTells.Pure := by
  intro s g h _ _ _
  unfold postriderlaw04_HandleTells.f
  rw [rof, rslot, rgen, rnext, works_ok]
  obtain ⟨p, hp⟩ := of_some s g
  obtain ⟨c, hc⟩ := cut_some h
  have h1 : ∃ r, handle_Slot.f h = some r := by unfold handle_Slot.f; rw [hc]; exact ⟨_, rfl⟩
  have h2 : ∃ r, handle_Gen.f h = some r := by unfold handle_Gen.f; rw [hc]; exact ⟨_, rfl⟩
  have h3 : ∃ r, handle_Next.f h = some r := by
    unfold handle_Next.f; rw [hc]
    simp only [Option.bind_some]
    split
    · obtain ⟨q, hq⟩ := of_some c.1 (wrap64 (c.2.1 + 1))
      rw [hq]; exact ⟨_, rfl⟩
    · exact ⟨_, rfl⟩
  obtain ⟨q1, e1⟩ := h1
  obtain ⟨q2, e2⟩ := h2
  obtain ⟨q3, e3⟩ := h3
  rw [hp, e1, e2, e3]
  simp

end Go.Proofs.Ytlcdgjfofidkhaa.Pure
