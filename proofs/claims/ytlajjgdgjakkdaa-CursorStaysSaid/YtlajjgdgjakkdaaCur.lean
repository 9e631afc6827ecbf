/- The cursor of the program (package cursor) and the reference's, but what goes through a ring. -/
import Derived.Test.YtlajjgdgjakkdaaSp
import Derived.Test.YtlajjgdgjakkdaaRows
import Derived.Laws.StructEq
namespace Go.Proofs.Ytlajjgdgjakkdaa
open Go Go.RowKit
set_option linter.unusedVariables false
set_option linter.unusedSimpArgs false

/-- '==' of spans. -/
theorem eqSpan (d : Nat) (w : World) (x0 y0 x1 y1 : Int) :
    (Op.equalIn (d + 2) 30 (.agg #[.int .i64 x0, .int .i64 x1]) (.agg #[.int .i64 y0, .int .i64 y1])).run Try.prog w = .ok (x0 == y0 && x1 == y1) w := by
  rw [run_equalIn_struct (P := Try.prog) w (d + 1) 30 _ _ (by simp [Program.fieldsOf, Try.underlying30]) (by kernel_rfl)]
  simp only [Program.fieldsOf, Try.underlying30]
  by_cases h0 : x0 = y0
  · by_cases h1 : x1 = y1
    · subst h0; subst h1; go_simp
    · have h1' : (x1 == y1) = false := by rw [beq_eq_false_iff_ne]; exact h1
      subst h0; go_simp
  · have h0' : (x0 == y0) = false := by rw [beq_eq_false_iff_ne]; exact h0
    go_simp
def chk (h t : Int) : Int := if h < 0 then 2 else if t < h then 2 else if 1099511627776 < t then 2 else 0
set_option maxHeartbeats 400000 in
theorem check_cursor (h t : Int) (w : World) : Calls Try.prog 17 #[.int .i64 h, .int .i64 t] w fun e w' => e = .returned (.int .i64 (chk h t)) ∧ w' = w := by
  unfold chk
  by_cases h1 : h < 0
  · rw [if_pos h1]
    go_enter Try.func17, Try.ntmps17
    go_wp2
    go_ret
    exact ⟨rfl, rfl⟩
  rw [if_neg h1]
  by_cases h2 : t < h
  · rw [if_pos h2]
    go_enter Try.func17, Try.ntmps17
    go_wp2
    go_ret
    exact ⟨rfl, rfl⟩
  rw [if_neg h2]
  by_cases h3 : 1099511627776 < t
  · rw [if_pos h3]
    have h3' : decide (1099511627776 < t) = true := decide_eq_true h3
    go_enter Try.func17, Try.ntmps17
    go_wp2
    go_ret
    exact ⟨rfl, rfl⟩
  · rw [if_neg h3]
    have h3' : decide (1099511627776 < t) = false := decide_eq_false h3
    go_enter Try.func17, Try.ntmps17
    go_wp2
    go_ret
    exact ⟨rfl, rfl⟩
set_option maxHeartbeats 400000 in
theorem check_postriderref07 (h t : Int) (w : World) : Calls Try.prog 18 #[.int .i64 h, .int .i64 t] w fun e w' => e = .returned (.int .i64 (chk h t)) ∧ w' = w := by
  unfold chk
  by_cases h1 : h < 0
  · rw [if_pos h1]
    go_enter Try.func18, Try.ntmps18
    go_wp2
    go_ret
    exact ⟨rfl, rfl⟩
  rw [if_neg h1]
  by_cases h2 : t < h
  · rw [if_pos h2]
    go_enter Try.func18, Try.ntmps18
    go_wp2
    go_ret
    exact ⟨rfl, rfl⟩
  rw [if_neg h2]
  by_cases h3 : 1099511627776 < t
  · rw [if_pos h3]
    have h3' : decide (1099511627776 < t) = true := decide_eq_true h3
    go_enter Try.func18, Try.ntmps18
    go_wp2
    go_ret
    exact ⟨rfl, rfl⟩
  · rw [if_neg h3]
    have h3' : decide (1099511627776 < t) = false := decide_eq_false h3
    go_enter Try.func18, Try.ntmps18
    go_wp2
    go_ret
    exact ⟨rfl, rfl⟩
/-- What Move answers: the cursor, what was lost, the error. -/
def mv (a h t : Int) : (Int × Int × Int) × Int :=
  if chk h t ≠ 0 then ((0, 0, 0), 2) else if a < 0 then ((0, 0, 0), 2) else if t < a then ((0, 0, 0), 2) else if a < h then ((h, a, h), 0) else ((a, 0, 0), 0)
def mvV (p : (Int × Int × Int) × Int) : Value := .tuple #[.int .i64 p.1.1, .agg #[.int .i64 p.1.2.1, .int .i64 p.1.2.2], .int .i64 p.2]
def behind (a h t : Int) : Int × Int := if (mv a h t).2 ≠ 0 then (0, (mv a h t).2) else (t - (mv a h t).1.1, 0)
theorem mv_cases (a h t : Int) : ((mv a h t).1 = (0, 0, 0) ∧ (mv a h t).2 = 2) ∨ ((mv a h t).2 = 0 ∧ 0 ≤ h ∧ h ≤ t ∧ t ≤ 1099511627776 ∧ 0 ≤ a ∧ a ≤ t ∧ ((a < h ∧ (mv a h t).1 = (h, a, h)) ∨ (h ≤ a ∧ (mv a h t).1 = (a, 0, 0)))) := by
  by_cases h1 : chk h t ≠ 0
  · left; unfold mv; rw [if_pos h1]; exact ⟨rfl, rfl⟩
  by_cases h2 : a < 0
  · left; unfold mv; rw [if_neg h1, if_pos h2]; exact ⟨rfl, rfl⟩
  by_cases h3 : t < a
  · left; unfold mv; rw [if_neg h1, if_neg h2, if_pos h3]; exact ⟨rfl, rfl⟩
  have hc : 0 ≤ h ∧ h ≤ t ∧ t ≤ 1099511627776 := by
    unfold chk at h1
    split at h1
    · simp at h1
    · split at h1
      · simp at h1
      · split at h1
        · simp at h1
        · omega
  by_cases h4 : a < h
  · right; unfold mv; rw [if_neg h1, if_neg h2, if_neg h3, if_pos h4]; exact ⟨rfl, hc.1, hc.2.1, hc.2.2, by omega, by omega, .inl ⟨h4, rfl⟩⟩
  · right; unfold mv; rw [if_neg h1, if_neg h2, if_neg h3, if_neg h4]; exact ⟨rfl, hc.1, hc.2.1, hc.2.2, by omega, by omega, .inr ⟨by omega, rfl⟩⟩
/-- What Seek answers. -/
def seek (a h t : Int) : Int × Int := if chk h t ≠ 0 then (0, chk h t) else if a < h then (0, 61) else if t < a then (0, 61) else (a, 0)
set_option maxHeartbeats 1000000 in
theorem move_cursor (a h t : Int) (w : World) : Calls Try.prog 12 #[.int .i64 a, .int .i64 h, .int .i64 t] w fun e w' => e = .returned (mvV (mv a h t)) ∧ Below w.heap.size w w' := by
  unfold mv
  obtain ⟨E, hE⟩ : ∃ E, chk h t = E := ⟨_, rfl⟩
  rw [hE]
  by_cases h1 : E ≠ 0
  · rw [if_pos h1]
    have hE0 : (E == 0) = false := by rw [beq_eq_false_iff_ne]; exact h1
    go_enter Try.func12, Try.ntmps12
    go_wp2_with fail
    refine (check_cursor h t _).mono ?_
    rintro e w' ⟨rfl, rfl⟩
    dsimp only
    rw [hE]
    go_wp2
    refine bodyPost_ret (v := mvV ((0, 0, 0), 2)) ?_ rfl ⟨rfl, ?_⟩
    · simp [results, mvV, go_sem]
    · first | exact ((Inv.refl _).alloc _).below | exact (((Inv.refl _).alloc _).set1 _).below | exact (((Inv.refl _).alloc _).setCell _).below
  rw [if_neg h1]
  obtain rfl : E = 0 := Classical.not_not.1 h1
  by_cases h2 : a < 0
  · rw [if_pos h2]
    go_enter Try.func12, Try.ntmps12
    go_wp2_with fail
    refine (check_cursor h t _).mono ?_
    rintro e w' ⟨rfl, rfl⟩
    dsimp only
    rw [hE]
    go_wp2
    refine bodyPost_ret (v := mvV ((0, 0, 0), 2)) ?_ rfl ⟨rfl, ?_⟩
    · simp [results, mvV, go_sem]
    · first | exact ((Inv.refl _).alloc _).below | exact (((Inv.refl _).alloc _).set1 _).below | exact (((Inv.refl _).alloc _).setCell _).below
  rw [if_neg h2]
  by_cases h3 : t < a
  · rw [if_pos h3]
    go_enter Try.func12, Try.ntmps12
    go_wp2_with fail
    refine (check_cursor h t _).mono ?_
    rintro e w' ⟨rfl, rfl⟩
    dsimp only
    rw [hE]
    go_wp2
    refine bodyPost_ret (v := mvV ((0, 0, 0), 2)) ?_ rfl ⟨rfl, ?_⟩
    · simp [results, mvV, go_sem]
    · first | exact ((Inv.refl _).alloc _).below | exact (((Inv.refl _).alloc _).set1 _).below | exact (((Inv.refl _).alloc _).setCell _).below
  rw [if_neg h3]
  by_cases h4 : a < h
  · rw [if_pos h4]
    go_enter Try.func12, Try.ntmps12
    go_wp2_with fail
    refine (check_cursor h t _).mono ?_
    rintro e w' ⟨rfl, rfl⟩
    dsimp only
    rw [hE]
    go_wp2
    refine bodyPost_ret (v := mvV ((h, a, h), 0)) ?_ rfl ⟨rfl, ?_⟩
    · simp [results, mvV, go_sem]
    · first | exact ((Inv.refl _).alloc _).below | exact (((Inv.refl _).alloc _).set1 _).below | exact (((Inv.refl _).alloc _).setCell _).below
  · rw [if_neg h4]
    go_enter Try.func12, Try.ntmps12
    go_wp2_with fail
    refine (check_cursor h t _).mono ?_
    rintro e w' ⟨rfl, rfl⟩
    dsimp only
    rw [hE]
    go_wp2
    refine bodyPost_ret (v := mvV ((a, 0, 0), 0)) ?_ rfl ⟨rfl, ?_⟩
    · simp [results, mvV, go_sem]
    · first | exact ((Inv.refl _).alloc _).below | exact (((Inv.refl _).alloc _).set1 _).below | exact (((Inv.refl _).alloc _).setCell _).below
set_option maxHeartbeats 1000000 in
theorem behind_cursor (a h t : Int) (w : World) : Calls Try.prog 10 #[.int .i64 a, .int .i64 h, .int .i64 t] w fun e w' => e = .returned (.tuple #[.int .i64 (behind a h t).1, .int .i64 (behind a h t).2]) ∧ Below w.heap.size w w' := by
  obtain ⟨p, l1, l2, E, hm⟩ : ∃ p l1 l2 E, mv a h t = ((p, l1, l2), E) := ⟨_, _, _, _, rfl⟩
  have hc := mv_cases a h t
  unfold behind
  rw [hm] at hc ⊢
  dsimp only at hc ⊢
  rcases hc with ⟨hp, rfl⟩ | ⟨rfl, c1, c2, c3, c4, c5, c6⟩
  · clear hp
    go_enter Try.func10, Try.ntmps10
    go_wp2_with fail
    refine (move_cursor a h t _).mono ?_
    rintro e w1 ⟨rfl, hb⟩
    rw [hm]
    have hI := (Inv.refl w).grow hb
    clear hb
    have HhI := Lib.hid hI
    clear hI
    dsimp only [mvV]
    go_wp2
    go_ret2
    exact ⟨rfl, (HhI.out.alloc _).below⟩
  · have hp : 0 ≤ p ∧ p ≤ t := by
      rcases c6 with ⟨_, c6⟩ | ⟨_, c6⟩ <;> simp at c6 <;> omega
    clear c6
    go_enter Try.func10, Try.ntmps10
    go_wp2_with fail
    refine (move_cursor a h t _).mono ?_
    rintro e w1 ⟨rfl, hb⟩
    rw [hm]
    have hI := (Inv.refl w).grow hb
    clear hb
    have HhI := Lib.hid hI
    clear hI
    dsimp only [mvV]
    go_wp2
    go_ret2
    exact ⟨rfl, (HhI.out.alloc _).below⟩
set_option maxHeartbeats 1000000 in
theorem seek_cursor (a h t : Int) (w : World) : Calls Try.prog 15 #[.int .i64 a, .int .i64 h, .int .i64 t] w fun e w' => e = .returned (.tuple #[.int .i64 (seek a h t).1, .int .i64 (seek a h t).2]) ∧ w' = w := by
  unfold seek
  obtain ⟨E, hE⟩ : ∃ E, chk h t = E := ⟨_, rfl⟩
  rw [hE]
  by_cases h1 : E ≠ 0
  · rw [if_pos h1]
    have hE0 : (E == 0) = false := by rw [beq_eq_false_iff_ne]; exact h1
    have hE1 : (E != 0) = true := by rw [bne_iff_ne]; exact h1
    go_enter Try.func15, Try.ntmps15
    go_wp2_with fail
    refine (check_cursor h t _).mono ?_
    rintro e w' ⟨rfl, rfl⟩
    dsimp only
    rw [hE]
    go_wp2
    go_ret2
    exact ⟨rfl, rfl⟩
  rw [if_neg h1]
  obtain rfl : E = 0 := Classical.not_not.1 h1
  by_cases h2 : a < h
  · rw [if_pos h2]
    go_enter Try.func15, Try.ntmps15
    go_wp2_with fail
    refine (check_cursor h t _).mono ?_
    rintro e w' ⟨rfl, rfl⟩
    dsimp only
    rw [hE]
    go_wp2
    go_ret2
    exact ⟨rfl, rfl⟩
  rw [if_neg h2]
  by_cases h3 : t < a
  · rw [if_pos h3]
    go_enter Try.func15, Try.ntmps15
    go_wp2_with fail
    refine (check_cursor h t _).mono ?_
    rintro e w' ⟨rfl, rfl⟩
    dsimp only
    rw [hE]
    go_wp2
    go_ret2
    exact ⟨rfl, rfl⟩
  · rw [if_neg h3]
    go_enter Try.func15, Try.ntmps15
    go_wp2_with fail
    refine (check_cursor h t _).mono ?_
    rintro e w' ⟨rfl, rfl⟩
    dsimp only
    rw [hE]
    go_wp2
    go_ret2
    exact ⟨rfl, rfl⟩
set_option maxHeartbeats 1000000 in
theorem move_postriderref07 (a h t : Int) (w : World) : Calls Try.prog 13 #[.int .i64 a, .int .i64 h, .int .i64 t] w fun e w' => e = .returned (mvV (mv a h t)) ∧ Below w.heap.size w w' := by
  unfold mv
  obtain ⟨E, hE⟩ : ∃ E, chk h t = E := ⟨_, rfl⟩
  rw [hE]
  by_cases h1 : E ≠ 0
  · rw [if_pos h1]
    have hE0 : (E == 0) = false := by rw [beq_eq_false_iff_ne]; exact h1
    go_enter Try.func13, Try.ntmps13
    go_wp2_with fail
    refine (check_postriderref07 h t _).mono ?_
    rintro e w' ⟨rfl, rfl⟩
    dsimp only
    rw [hE]
    go_wp2
    refine bodyPost_ret (v := mvV ((0, 0, 0), 2)) ?_ rfl ⟨rfl, ?_⟩
    · simp [results, mvV, go_sem]
    · first | exact ((Inv.refl _).alloc _).below | exact (((Inv.refl _).alloc _).set1 _).below | exact (((Inv.refl _).alloc _).setCell _).below
  rw [if_neg h1]
  obtain rfl : E = 0 := Classical.not_not.1 h1
  by_cases h2 : a < 0
  · rw [if_pos h2]
    go_enter Try.func13, Try.ntmps13
    go_wp2_with fail
    refine (check_postriderref07 h t _).mono ?_
    rintro e w' ⟨rfl, rfl⟩
    dsimp only
    rw [hE]
    go_wp2
    refine bodyPost_ret (v := mvV ((0, 0, 0), 2)) ?_ rfl ⟨rfl, ?_⟩
    · simp [results, mvV, go_sem]
    · first | exact ((Inv.refl _).alloc _).below | exact (((Inv.refl _).alloc _).set1 _).below | exact (((Inv.refl _).alloc _).setCell _).below
  rw [if_neg h2]
  by_cases h3 : t < a
  · rw [if_pos h3]
    go_enter Try.func13, Try.ntmps13
    go_wp2_with fail
    refine (check_postriderref07 h t _).mono ?_
    rintro e w' ⟨rfl, rfl⟩
    dsimp only
    rw [hE]
    go_wp2
    refine bodyPost_ret (v := mvV ((0, 0, 0), 2)) ?_ rfl ⟨rfl, ?_⟩
    · simp [results, mvV, go_sem]
    · first | exact ((Inv.refl _).alloc _).below | exact (((Inv.refl _).alloc _).set1 _).below | exact (((Inv.refl _).alloc _).setCell _).below
  rw [if_neg h3]
  by_cases h4 : a < h
  · rw [if_pos h4]
    go_enter Try.func13, Try.ntmps13
    go_wp2_with fail
    refine (check_postriderref07 h t _).mono ?_
    rintro e w' ⟨rfl, rfl⟩
    dsimp only
    rw [hE]
    go_wp2
    refine bodyPost_ret (v := mvV ((h, a, h), 0)) ?_ rfl ⟨rfl, ?_⟩
    · simp [results, mvV, go_sem]
    · first | exact ((Inv.refl _).alloc _).below | exact (((Inv.refl _).alloc _).set1 _).below | exact (((Inv.refl _).alloc _).setCell _).below
  · rw [if_neg h4]
    go_enter Try.func13, Try.ntmps13
    go_wp2_with fail
    refine (check_postriderref07 h t _).mono ?_
    rintro e w' ⟨rfl, rfl⟩
    dsimp only
    rw [hE]
    go_wp2
    refine bodyPost_ret (v := mvV ((a, 0, 0), 0)) ?_ rfl ⟨rfl, ?_⟩
    · simp [results, mvV, go_sem]
    · first | exact ((Inv.refl _).alloc _).below | exact (((Inv.refl _).alloc _).set1 _).below | exact (((Inv.refl _).alloc _).setCell _).below
set_option maxHeartbeats 1000000 in
theorem behind_postriderref07 (a h t : Int) (w : World) : Calls Try.prog 14 #[.int .i64 a, .int .i64 h, .int .i64 t] w fun e w' => e = .returned (.tuple #[.int .i64 (behind a h t).1, .int .i64 (behind a h t).2]) ∧ Below w.heap.size w w' := by
  obtain ⟨p, l1, l2, E, hm⟩ : ∃ p l1 l2 E, mv a h t = ((p, l1, l2), E) := ⟨_, _, _, _, rfl⟩
  have hc := mv_cases a h t
  unfold behind
  rw [hm] at hc ⊢
  dsimp only at hc ⊢
  rcases hc with ⟨hp, rfl⟩ | ⟨rfl, c1, c2, c3, c4, c5, c6⟩
  · clear hp
    go_enter Try.func14, Try.ntmps14
    go_wp2_with fail
    refine (move_postriderref07 a h t _).mono ?_
    rintro e w1 ⟨rfl, hb⟩
    rw [hm]
    have hI := (Inv.refl w).grow hb
    clear hb
    have HhI := Lib.hid hI
    clear hI
    dsimp only [mvV]
    go_wp2
    go_ret2
    exact ⟨rfl, (HhI.out.alloc _).below⟩
  · have hp : 0 ≤ p ∧ p ≤ t := by
      rcases c6 with ⟨_, c6⟩ | ⟨_, c6⟩ <;> simp at c6 <;> omega
    clear c6
    go_enter Try.func14, Try.ntmps14
    go_wp2_with fail
    refine (move_postriderref07 a h t _).mono ?_
    rintro e w1 ⟨rfl, hb⟩
    rw [hm]
    have hI := (Inv.refl w).grow hb
    clear hb
    have HhI := Lib.hid hI
    clear hI
    dsimp only [mvV]
    go_wp2
    go_ret2
    exact ⟨rfl, (HhI.out.alloc _).below⟩
set_option maxHeartbeats 1000000 in
theorem seek_postriderref07 (a h t : Int) (w : World) : Calls Try.prog 16 #[.int .i64 a, .int .i64 h, .int .i64 t] w fun e w' => e = .returned (.tuple #[.int .i64 (seek a h t).1, .int .i64 (seek a h t).2]) ∧ w' = w := by
  unfold seek
  obtain ⟨E, hE⟩ : ∃ E, chk h t = E := ⟨_, rfl⟩
  rw [hE]
  by_cases h1 : E ≠ 0
  · rw [if_pos h1]
    have hE0 : (E == 0) = false := by rw [beq_eq_false_iff_ne]; exact h1
    have hE1 : (E != 0) = true := by rw [bne_iff_ne]; exact h1
    go_enter Try.func16, Try.ntmps16
    go_wp2_with fail
    refine (check_postriderref07 h t _).mono ?_
    rintro e w' ⟨rfl, rfl⟩
    dsimp only
    rw [hE]
    go_wp2
    go_ret2
    exact ⟨rfl, rfl⟩
  rw [if_neg h1]
  obtain rfl : E = 0 := Classical.not_not.1 h1
  by_cases h2 : a < h
  · rw [if_pos h2]
    go_enter Try.func16, Try.ntmps16
    go_wp2_with fail
    refine (check_postriderref07 h t _).mono ?_
    rintro e w' ⟨rfl, rfl⟩
    dsimp only
    rw [hE]
    go_wp2
    go_ret2
    exact ⟨rfl, rfl⟩
  rw [if_neg h2]
  by_cases h3 : t < a
  · rw [if_pos h3]
    go_enter Try.func16, Try.ntmps16
    go_wp2_with fail
    refine (check_postriderref07 h t _).mono ?_
    rintro e w' ⟨rfl, rfl⟩
    dsimp only
    rw [hE]
    go_wp2
    go_ret2
    exact ⟨rfl, rfl⟩
  · rw [if_neg h3]
    go_enter Try.func16, Try.ntmps16
    go_wp2_with fail
    refine (check_postriderref07 h t _).mono ?_
    rintro e w' ⟨rfl, rfl⟩
    dsimp only
    rw [hE]
    go_wp2
    go_ret2
    exact ⟨rfl, rfl⟩
end Go.Proofs.Ytlajjgdgjakkdaa
