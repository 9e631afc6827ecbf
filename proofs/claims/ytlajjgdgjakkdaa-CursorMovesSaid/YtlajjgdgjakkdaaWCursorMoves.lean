/- CursorMoves: any cursor in any window is moved, told how far it is behind, and sought, as the reference says; for every three ints and every slice. -/
import Derived.Test.YtlajjgdgjakkdaaCurLaw
import Derived.Test.YtlajjgdgjakkdaaInts
import Derived.Test.YtlajjgdgjakkdaaOpen
namespace Go.Proofs.Ytlajjgdgjakkdaa
open Go Go.RowKit
set_option linter.unusedVariables false
set_option linter.unusedSimpArgs false
theorem InI.rdi {w : World} {A : Option Addr} {zs : List Int} (h : InI .i64 w A zs) (hb : zs.length ≤ 140737488355328) : RdI w A zs :=
  ⟨hb, fun h0 => by obtain ⟨g, o, rfl, hc⟩ := h h0; exact ⟨_, rfl, fun j x hj => by rw [addr_add]; exact (hc j x hj).1⟩⟩
set_option maxHeartbeats 4000000 in
set_option maxRecDepth 100000 in
theorem cursorMoves_walk (a h t : Int) (A : Option Addr) (len cap : Nat) (zs : List Int) (w : World) (w0 : (Lit.int .i64 a).wf = true) (w1 : (Lit.int .i64 h).wf = true) (w2 : (Lit.int .i64 t).wf = true) (hz : zs.length = len ∧ len ≤ cap ∧ cap ≤ maxLen ∧ len * 8 ≤ 140737488351232 ∧ InI .i64 w A zs) :
    Calls Try.prog 4 #[.int .i64 a, .int .i64 h, .int .i64 t, .slice A len cap] w (RetB w (.bool true)) := by
  have eqS := eqSpan
  obtain ⟨b, s0, s1, E, e1⟩ : ∃ b s0 s1 E, mv a h t = ((b, s0, s1), E) := ⟨_, _, _, _, rfl⟩
  obtain ⟨n, F, e2⟩ : ∃ n F, behind a h t = (n, F) := ⟨_, _, rfl⟩
  obtain ⟨m, G, e3⟩ : ∃ m G, seek a h t = (m, G) := ⟨_, _, rfl⟩
  obtain ⟨c, e4⟩ : ∃ c, chk h t = c := ⟨_, rfl⟩
  obtain ⟨hl, hlc, hcm, h8, hin⟩ := hz
  have hr := hin.rdi (by omega)
  have hr3 := hr.take 300
  unfold maxLen at hcm
  clear w0 w1 w2 hin
  have hI := Inv.refl w
  have He1 := Lib.hid e1
  have He2 := Lib.hid e2
  have He3 := Lib.hid e3
  have He4 := Lib.hid e4
  have Hhr := Lib.hid hr
  have Hhr3 := Lib.hid hr3
  have HhI := Lib.hid hI
  clear e1 e2 e3 e4 hr hr3 hI
  by_cases h3 : 300 < len
  · have hkl : (zs.take 300).length = 300 := by rw [List.length_take, hl]; omega
    clear hl
    have Hhkl := Lib.hid hkl
    clear hkl
    as_aux_lemma =>
    go_enter Try.func4, Try.ntmps4
    go_wp2_with fail
    refine (move_cursor a h t _).mono ?_
    rintro e w1 ⟨rfl, hw⟩
    rw [He1.out]
    have hJ := HhI.out.grow hw
    clear hw HhI
    have HhI := Lib.hid hJ
    clear hJ
    try dsimp only [mvV]
    have hJ := HhI.out.alloc (.cells #[.int .i64 s0, .int .i64 s1] 30)
    clear HhI
    have HhI := Lib.hid hJ
    clear hJ
    go_wp2_with fail
    refine (move_postriderref07 a h t _).mono ?_
    rintro e w1 ⟨rfl, hw⟩
    rw [He1.out]
    have hJ := HhI.out.grow hw
    clear hw HhI
    have HhI := Lib.hid hJ
    clear hJ
    try dsimp only [mvV]
    have hJ := HhI.out.alloc (.cells #[.int .i64 s0, .int .i64 s1] 30)
    clear HhI
    have HhI := Lib.hid hJ
    clear hJ
    go_wp2_with fail
    refine (behind_cursor a h t _).mono ?_
    rintro e w1 ⟨rfl, hw⟩
    rw [He2.out]
    have hJ := HhI.out.grow hw
    clear hw HhI
    have HhI := Lib.hid hJ
    clear hJ
    try dsimp only [mvV]
    go_wp2_with fail
    refine (behind_postriderref07 a h t _).mono ?_
    rintro e w1 ⟨rfl, hw⟩
    rw [He2.out]
    have hJ := HhI.out.grow hw
    clear hw HhI
    have HhI := Lib.hid hJ
    clear hJ
    try dsimp only [mvV]
    go_wp2_with fail
    refine (seek_cursor a h t _).mono ?_
    rintro e w' ⟨rfl, rfl⟩
    rw [He3.out]
    dsimp only
    go_wp2_with fail
    refine (seek_postriderref07 a h t _).mono ?_
    rintro e w' ⟨rfl, rfl⟩
    rw [He3.out]
    dsimp only
    have c0 := HhI.out.cell (off := 0) (v := .int .i64 s0) rfl
    have c1 := HhI.out.cell (off := 1) (v := .int .i64 s1) rfl
    have d0 := HhI.out.pull1.cell (off := 0) (v := .int .i64 s0) rfl
    have d1 := HhI.out.pull1.cell (off := 1) (v := .int .i64 s1) rfl
    go_wp2_with fail
    refine (check_cursor h t _).mono ?_
    rintro e w' ⟨rfl, rfl⟩
    rw [He4.out]
    dsimp only
    clear c0 c1 d0 d1
    go_wp2_with fail
    refine (check_postriderref07 h t _).mono ?_
    rintro e w' ⟨rfl, rfl⟩
    rw [He4.out]
    dsimp only
    go_wp2_with fail
    refine (ints_any HhI.out A (zs.take 300) 300 _ Hhkl.out (by omega) (Hhr3.out.old HhI.out)).mono ?_
    rintro e w2 ⟨A', c', rfl, h2⟩
    dsimp only
    have r2 := row_rdi h2 (by rw [Hhkl.out]; omega)
    have r3 := Hhr3.out.old h2
    have HH2 := Lib.hid h2
    have Hr2 := Lib.hid r2
    have Hr3 := Lib.hid r3
    clear r2 r3
    clear h2
    go_wp2_with fail
    refine (slowest_any A' (zs.take 300) 300 c' Hhkl.out _ Hr2.out).mono ?_
    rintro e w' ⟨rfl, rfl⟩
    obtain ⟨v, hv⟩ : ∃ v, least (zs.take 300) = v := ⟨_, rfl⟩
    rw [hv]
    have Hhv := Lib.hid hv
    clear hv
    dsimp only
    go_wp2_with fail
    refine (slowest_ref A (zs.take 300) 300 _ Hhkl.out _ Hr3.out).mono ?_
    rintro e w' ⟨rfl, rfl⟩
    rw [Hhv.out]
    dsimp only
    go_wp2_with fail
    refine (works07 _).mono ?_
    rintro e w3 ⟨rfl, hw⟩
    dsimp only
    have hK := HH2.out.grow hw
    clear hw
    have HhK := Lib.hid hK
    clear hK
    go_wp2
    all_goals
      go_ret
      exact ⟨rfl, HhK.out.below⟩
  · clear Hhr3
    have hL : len * 8 ≤ 140737488355328 := by omega
    have Hhl := Lib.hid hl
    clear hl
    as_aux_lemma =>
    go_enter Try.func4, Try.ntmps4
    go_wp2_with fail
    refine (move_cursor a h t _).mono ?_
    rintro e w1 ⟨rfl, hw⟩
    rw [He1.out]
    have hJ := HhI.out.grow hw
    clear hw HhI
    have HhI := Lib.hid hJ
    clear hJ
    try dsimp only [mvV]
    have hJ := HhI.out.alloc (.cells #[.int .i64 s0, .int .i64 s1] 30)
    clear HhI
    have HhI := Lib.hid hJ
    clear hJ
    go_wp2_with fail
    refine (move_postriderref07 a h t _).mono ?_
    rintro e w1 ⟨rfl, hw⟩
    rw [He1.out]
    have hJ := HhI.out.grow hw
    clear hw HhI
    have HhI := Lib.hid hJ
    clear hJ
    try dsimp only [mvV]
    have hJ := HhI.out.alloc (.cells #[.int .i64 s0, .int .i64 s1] 30)
    clear HhI
    have HhI := Lib.hid hJ
    clear hJ
    go_wp2_with fail
    refine (behind_cursor a h t _).mono ?_
    rintro e w1 ⟨rfl, hw⟩
    rw [He2.out]
    have hJ := HhI.out.grow hw
    clear hw HhI
    have HhI := Lib.hid hJ
    clear hJ
    try dsimp only [mvV]
    go_wp2_with fail
    refine (behind_postriderref07 a h t _).mono ?_
    rintro e w1 ⟨rfl, hw⟩
    rw [He2.out]
    have hJ := HhI.out.grow hw
    clear hw HhI
    have HhI := Lib.hid hJ
    clear hJ
    try dsimp only [mvV]
    go_wp2_with fail
    refine (seek_cursor a h t _).mono ?_
    rintro e w' ⟨rfl, rfl⟩
    rw [He3.out]
    dsimp only
    go_wp2_with fail
    refine (seek_postriderref07 a h t _).mono ?_
    rintro e w' ⟨rfl, rfl⟩
    rw [He3.out]
    dsimp only
    have c0 := HhI.out.cell (off := 0) (v := .int .i64 s0) rfl
    have c1 := HhI.out.cell (off := 1) (v := .int .i64 s1) rfl
    have d0 := HhI.out.pull1.cell (off := 0) (v := .int .i64 s0) rfl
    have d1 := HhI.out.pull1.cell (off := 1) (v := .int .i64 s1) rfl
    go_wp2_with fail
    refine (check_cursor h t _).mono ?_
    rintro e w' ⟨rfl, rfl⟩
    rw [He4.out]
    dsimp only
    clear c0 c1 d0 d1
    go_wp2_with fail
    refine (check_postriderref07 h t _).mono ?_
    rintro e w' ⟨rfl, rfl⟩
    rw [He4.out]
    dsimp only
    go_wp2_with fail
    refine (ints_any HhI.out A (zs) len _ Hhl.out (by omega) (Hhr.out.old HhI.out)).mono ?_
    rintro e w2 ⟨A', c', rfl, h2⟩
    dsimp only
    have r2 := row_rdi h2 (by rw [Hhl.out]; omega)
    have r3 := Hhr.out.old h2
    have HH2 := Lib.hid h2
    have Hr2 := Lib.hid r2
    have Hr3 := Lib.hid r3
    clear r2 r3
    clear h2
    go_wp2_with fail
    refine (slowest_any A' (zs) len c' Hhl.out _ Hr2.out).mono ?_
    rintro e w' ⟨rfl, rfl⟩
    obtain ⟨v, hv⟩ : ∃ v, least (zs) = v := ⟨_, rfl⟩
    rw [hv]
    have Hhv := Lib.hid hv
    clear hv
    dsimp only
    go_wp2_with fail
    refine (slowest_ref A (zs) len _ Hhl.out _ Hr3.out).mono ?_
    rintro e w' ⟨rfl, rfl⟩
    rw [Hhv.out]
    dsimp only
    go_wp2_with fail
    refine (works07 _).mono ?_
    rintro e w3 ⟨rfl, hw⟩
    dsimp only
    have hK := HH2.out.grow hw
    clear hw
    have HhK := Lib.hid hK
    clear hK
    go_wp2
    all_goals
      go_ret
      exact ⟨rfl, HhK.out.below⟩
end Go.Proofs.Ytlajjgdgjakkdaa
