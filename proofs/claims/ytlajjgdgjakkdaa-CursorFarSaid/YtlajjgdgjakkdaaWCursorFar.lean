/- CursorFar: the further the tail the further behind a cursor is, by just as much; for every four ints. -/
import Derived.Test.YtlajjgdgjakkdaaCurLaw
namespace Go.Proofs.Ytlajjgdgjakkdaa
open Go Go.RowKit
set_option linter.unusedVariables false
set_option linter.unusedSimpArgs false
set_option maxHeartbeats 1000000 in
set_option maxRecDepth 100000 in
theorem far_of (w : World) (a h t x n m : Int) (q : Win a h t) (hn : behind a h t = (n, 0)) (hn0 : 0 ≤ n) (hnb : n ≤ 1099511627776) (hm : amongI x (1099511627776 - t + 1) = m)
    (hm0 : 0 ≤ m) (hmt : t + m ≤ 1099511627776) (hb : behind a h (t + m) = (n + m, 0)) :
    Calls Try.prog 3 #[.int .i64 a, .int .i64 h, .int .i64 t, .int .i64 x] w (RetB w (.bool true)) := by
  obtain ⟨q0, q1, q2, q3, q4⟩ := q
  have hg : decide (0 ≤ n) = true := decide_eq_true hn0
  have he : (n + m == n + m) = true := beq_self_eq_true _
  have Hhn := Lib.hid hn
  have Hhm := Lib.hid hm
  have Hhb := Lib.hid hb
  clear hn hm hb
  go_enter Try.func3, Try.ntmps3
  go_wp2_with fail
  refine (works07 _).mono ?_
  rintro e w1 ⟨rfl, hw⟩
  dsimp only
  have hI := (Inv.refl w).grow hw
  clear hw
  have HhI := Lib.hid hI
  clear hI
  go_wp2_with fail
  refine (behind_cursor a h t _).mono ?_
  rintro e w2 ⟨rfl, hw⟩
  rw [Hhn.out]
  dsimp only
  have hI2 := HhI.out.grow hw
  clear hw
  have HhI2 := Lib.hid hI2
  clear hI2
  go_wp2_with fail
  refine (among_any x _ (by omega) (by omega) _).mono ?_
  rintro e w' ⟨rfl, rfl⟩
  rw [Hhm.out]
  dsimp only
  go_wp2_with fail
  refine (behind_cursor a h (t + m) _).mono ?_
  rintro e w3 ⟨rfl, hw⟩
  rw [Hhb.out]
  dsimp only
  have hI3 := HhI2.out.grow hw
  clear hw
  have HhI3 := Lib.hid hI3
  clear hI3
  go_wp2
  go_ret
  exact ⟨rfl, HhI3.out.below⟩
set_option maxHeartbeats 1000000 in
set_option maxRecDepth 100000 in
theorem cursorFar_walk (a h t x : Int) (w : World) (w0 : (Lit.int .i64 a).wf = true) (w1 : (Lit.int .i64 h).wf = true) (w2 : (Lit.int .i64 t).wf = true) (w3 : (Lit.int .i64 x).wf = true) :
    Calls Try.prog 3 #[.int .i64 a, .int .i64 h, .int .i64 t, .int .i64 x] w (RetB w (.bool true)) := by
  rcases mv_or a h t with hv | q
  · have hn := behind_bad hv
    clear w0 w1 w2 w3 hv
    have Hhn := Lib.hid hn
    clear hn
    go_enter Try.func3, Try.ntmps3
    go_wp2_with fail
    refine (works07 _).mono ?_
    rintro e w1 ⟨rfl, hw⟩
    dsimp only
    have hI := (Inv.refl w).grow hw
    clear hw
    have HhI := Lib.hid hI
    clear hI
    go_wp2_with fail
    refine (behind_cursor a h t _).mono ?_
    rintro e w2 ⟨rfl, hw⟩
    rw [Hhn.out]
    dsimp only
    have hI2 := HhI.out.grow hw
    clear hw
    have HhI2 := Lib.hid hI2
    clear hI2
    go_wp2
    go_ret
    exact ⟨rfl, HhI2.out.below⟩
  · have qq := q
    obtain ⟨q0, q1, q2, q3, q4⟩ := qq
    obtain ⟨m0, m1⟩ := amongI_lt x (1099511627776 - t + 1) (by omega)
    by_cases hl : h ≤ a
    · exact far_of w a h t x _ _ q (behind_in q hl) (by omega) (by omega) rfl m0 (by omega) (by rw [behind_in ⟨q0, by omega, by omega, q3, by omega⟩ hl]; congr 1; omega)
    · exact far_of w a h t x _ _ q (behind_ahead q (by omega)) (by omega) (by omega) rfl m0 (by omega) (by rw [behind_ahead ⟨q0, by omega, by omega, q3, by omega⟩ (by omega)]; congr 1; omega)
end Go.Proofs.Ytlajjgdgjakkdaa
