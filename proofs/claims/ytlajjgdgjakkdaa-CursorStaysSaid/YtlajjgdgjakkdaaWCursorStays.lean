/- CursorStays: what was moved is in the window, or its tail, and moved again it stays, loses nothing more, and is not further behind; for every three ints. -/
import Derived.Test.YtlajjgdgjakkdaaCurLaw
namespace Go.Proofs.Ytlajjgdgjakkdaa
open Go Go.RowKit
set_option linter.unusedVariables false
set_option linter.unusedSimpArgs false
set_option maxHeartbeats 4000000 in
set_option maxRecDepth 100000 in
theorem stays_of (w : World) (a h t b s0 s1 n : Int) (e1 : mv a h t = ((b, s0, s1), 0)) (e2 : mv b h t = ((b, 0, 0), 0)) (e3 : behind a h t = (n, 0)) (e4 : behind b h t = (n, 0)) (e5 : seek b h t = (b, 0))
    (hs : (s0 = 0 ∧ s1 = 0) ∨ (s0 = a ∧ s1 = h ∧ a < h ∧ 0 < h)) (g0 : h ≤ b) (g1 : b ≤ t) :
    Calls Try.prog 5 #[.int .i64 a, .int .i64 h, .int .i64 t] w (RetB w (.bool true)) := by
  have eqS := eqSpan
  have b0 : decide (h ≤ b) = true := decide_eq_true g0
  have b1 : decide (b ≤ t) = true := decide_eq_true g1
  have b2 : (b == b) = true := beq_self_eq_true _
  have b3 : (n == n) = true := beq_self_eq_true _
  have He1 := Lib.hid e1
  have He2 := Lib.hid e2
  have He3 := Lib.hid e3
  have He4 := Lib.hid e4
  have He5 := Lib.hid e5
  clear e1 e2 e3 e4 e5
  rcases hs with ⟨rfl, rfl⟩ | ⟨rfl, rfl, hlt, hp⟩
  · go_enter Try.func5, Try.ntmps5
    go_wp2_with fail
    refine (works07 _).mono ?_
    rintro e w1 ⟨rfl, hw⟩
    dsimp only
    have hI := (Inv.refl w).grow hw
    clear hw
    have HhI := Lib.hid hI
    clear hI
    go_wp2_with fail
    refine (move_cursor a h t _).mono ?_
    rintro e w1 ⟨rfl, hw⟩
    rw [He1.out]
    have hJ := (HhI.out.grow hw).alloc (.cells #[.int .i64 0, .int .i64 0] 30)
    clear hw HhI
    have HhI := Lib.hid hJ
    clear hJ
    try dsimp only [mvV]
    go_wp2_with fail
    refine (move_cursor b h t _).mono ?_
    rintro e w1 ⟨rfl, hw⟩
    rw [He2.out]
    have hJ := HhI.out.grow hw
    clear hw HhI
    have HhI := Lib.hid hJ
    clear hJ
    try dsimp only [mvV]
    have hJ := HhI.out.alloc (.cells #[.int .i64 0, .int .i64 0] 30)
    clear HhI
    have HhI := Lib.hid hJ
    clear hJ
    go_wp2_with fail
    refine (behind_cursor a h t _).mono ?_
    rintro e w1 ⟨rfl, hw⟩
    rw [He3.out]
    have hJ := HhI.out.grow hw
    clear hw HhI
    have HhI := Lib.hid hJ
    clear hJ
    try dsimp only [mvV]
    go_wp2_with fail
    refine (behind_cursor b h t _).mono ?_
    rintro e w1 ⟨rfl, hw⟩
    rw [He4.out]
    have hJ := HhI.out.grow hw
    clear hw HhI
    have HhI := Lib.hid hJ
    clear hJ
    try dsimp only [mvV]
    go_wp2_with fail
    refine (seek_cursor b h t _).mono ?_
    rintro e w' ⟨rfl, rfl⟩
    rw [He5.out]
    dsimp only
    have c0 := HhI.out.cell (off := 0) (v := .int .i64 0) rfl
    have c1 := HhI.out.cell (off := 1) (v := .int .i64 0) rfl
    have d0 := HhI.out.pull1.cell (off := 0) (v := .int .i64 0) rfl
    have d1 := HhI.out.pull1.cell (off := 1) (v := .int .i64 0) rfl
    go_wp2
    all_goals
      go_ret
      exact ⟨rfl, HhI.out.below⟩
  · have b4 : (s1 == 0) = false := by rw [beq_eq_false_iff_ne]; omega
    have b5 : decide (s0 < s1) = true := decide_eq_true hlt
    clear hlt hp g0 g1
    have b6 : (s0 == s0) = true := beq_self_eq_true _
    have b7 : (s1 == s1) = true := beq_self_eq_true _
    go_enter Try.func5, Try.ntmps5
    go_wp2_with fail
    refine (works07 _).mono ?_
    rintro e w1 ⟨rfl, hw⟩
    dsimp only
    have hI := (Inv.refl w).grow hw
    clear hw
    have HhI := Lib.hid hI
    clear hI
    go_wp2_with fail
    refine (move_cursor s0 s1 t _).mono ?_
    rintro e w1 ⟨rfl, hw⟩
    rw [He1.out]
    have hJ := (HhI.out.grow hw).alloc (.cells #[.int .i64 s0, .int .i64 s1] 30)
    clear hw HhI
    have HhI := Lib.hid hJ
    clear hJ
    try dsimp only [mvV]
    go_wp2_with fail
    refine (move_cursor b s1 t _).mono ?_
    rintro e w1 ⟨rfl, hw⟩
    rw [He2.out]
    have hJ := HhI.out.grow hw
    clear hw HhI
    have HhI := Lib.hid hJ
    clear hJ
    try dsimp only [mvV]
    have hJ := HhI.out.alloc (.cells #[.int .i64 0, .int .i64 0] 30)
    clear HhI
    have HhI := Lib.hid hJ
    clear hJ
    go_wp2_with fail
    refine (behind_cursor s0 s1 t _).mono ?_
    rintro e w1 ⟨rfl, hw⟩
    rw [He3.out]
    have hJ := HhI.out.grow hw
    clear hw HhI
    have HhI := Lib.hid hJ
    clear hJ
    try dsimp only [mvV]
    go_wp2_with fail
    refine (behind_cursor b s1 t _).mono ?_
    rintro e w1 ⟨rfl, hw⟩
    rw [He4.out]
    have hJ := HhI.out.grow hw
    clear hw HhI
    have HhI := Lib.hid hJ
    clear hJ
    try dsimp only [mvV]
    go_wp2_with fail
    refine (seek_cursor b s1 t _).mono ?_
    rintro e w' ⟨rfl, rfl⟩
    rw [He5.out]
    dsimp only
    have c0 := HhI.out.cell (off := 0) (v := .int .i64 0) rfl
    have c1 := HhI.out.cell (off := 1) (v := .int .i64 0) rfl
    have d0 := HhI.out.pull1.cell (off := 0) (v := .int .i64 s0) rfl
    have d1 := HhI.out.pull1.cell (off := 1) (v := .int .i64 s1) rfl
    go_wp2
    all_goals
      go_ret
      exact ⟨rfl, HhI.out.below⟩
set_option maxHeartbeats 4000000 in
set_option maxRecDepth 100000 in
theorem cursorStays_walk (a h t : Int) (w : World) (w0 : (Lit.int .i64 a).wf = true) (w1 : (Lit.int .i64 h).wf = true) (w2 : (Lit.int .i64 t).wf = true) :
    Calls Try.prog 5 #[.int .i64 a, .int .i64 h, .int .i64 t] w (RetB w (.bool true)) := by
  rcases mv_or a h t with hv | q
  · have eqS := eqSpan
    clear w0 w1 w2
    have Hhv := Lib.hid hv
    clear hv
    go_enter Try.func5, Try.ntmps5
    go_wp2_with fail
    refine (works07 _).mono ?_
    rintro e w1 ⟨rfl, hw⟩
    dsimp only
    have hI := (Inv.refl w).grow hw
    clear hw
    have HhI := Lib.hid hI
    clear hI
    go_wp2_with fail
    refine (move_cursor a h t _).mono ?_
    rintro e w1 ⟨rfl, hw⟩
    rw [Hhv.out]
    have hJ := HhI.out.grow hw
    clear hw HhI
    have HhI := Lib.hid hJ
    clear hJ
    try dsimp only [mvV]
    go_wp2
    go_ret
    exact ⟨rfl, (HhI.out.alloc _).below⟩
  · have qq := q
    obtain ⟨q0, q1, q2, q3, q4⟩ := qq
    by_cases hl : h ≤ a
    · exact stays_of w a h t a 0 0 _ (mv_in q hl) (mv_in q hl) (behind_in q hl) (behind_in q hl) (seek_in q hl) (.inl ⟨rfl, rfl⟩) hl (by omega)
    · have qh : Win h h t := ⟨q0, q1, q2, q0, q1⟩
      exact stays_of w a h t h a h _ (mv_ahead q (by omega)) (mv_in qh (Int.le_refl _)) (behind_ahead q (by omega)) (behind_in qh (Int.le_refl _)) (seek_in qh (Int.le_refl _)) (.inr ⟨rfl, rfl, by omega, by omega⟩) (Int.le_refl _) q1
end Go.Proofs.Ytlajjgdgjakkdaa
