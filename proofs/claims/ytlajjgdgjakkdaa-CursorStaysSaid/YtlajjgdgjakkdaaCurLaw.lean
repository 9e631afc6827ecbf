/- What Move, Behind and Seek answer: plain facts. -/
import Derived.Test.YtlajjgdgjakkdaaCurMin
import Derived.Test.YtlajjgdgjakkdaaAmong
namespace Go.Proofs.Ytlajjgdgjakkdaa
open Go Go.RowKit
set_option linter.unusedVariables false
set_option linter.unusedSimpArgs false
/-- A window, and a cursor in it or ahead of it. -/
def Win (a h t : Int) : Prop := 0 ≤ h ∧ h ≤ t ∧ t ≤ 1099511627776 ∧ 0 ≤ a ∧ a ≤ t
theorem chk_ok {h t : Int} (h0 : 0 ≤ h) (h1 : h ≤ t) (h2 : t ≤ 1099511627776) : chk h t = 0 := by
  unfold chk; rw [if_neg (by omega), if_neg (by omega), if_neg (by omega)]
theorem mv_in {a h t : Int} (w : Win a h t) (hl : h ≤ a) : mv a h t = ((a, 0, 0), 0) := by
  obtain ⟨h0, h1, h2, h3, h4⟩ := w
  unfold mv; rw [chk_ok h0 h1 h2, if_neg (by omega), if_neg (by omega), if_neg (by omega), if_neg (by omega)]
theorem mv_ahead {a h t : Int} (w : Win a h t) (hl : a < h) : mv a h t = ((h, a, h), 0) := by
  obtain ⟨h0, h1, h2, h3, h4⟩ := w
  unfold mv; rw [chk_ok h0 h1 h2, if_neg (by omega), if_neg (by omega), if_neg (by omega), if_pos (by omega)]
theorem mv_or (a h t : Int) : mv a h t = ((0, 0, 0), 2) ∨ Win a h t := by
  rcases mv_cases a h t with ⟨h1, h2⟩ | ⟨h1, h2, h3, h4, h5, h6, _⟩
  · exact .inl (Prod.ext h1 h2)
  · exact .inr ⟨h2, h3, h4, h5, h6⟩
theorem behind_in {a h t : Int} (w : Win a h t) (hl : h ≤ a) : behind a h t = (t - a, 0) := by
  unfold behind; rw [mv_in w hl]; rfl
theorem behind_ahead {a h t : Int} (w : Win a h t) (hl : a < h) : behind a h t = (t - h, 0) := by
  unfold behind; rw [mv_ahead w hl]; rfl
theorem behind_bad {a h t : Int} (e : mv a h t = ((0, 0, 0), 2)) : behind a h t = (0, 2) := by
  unfold behind; rw [e]; rfl
theorem seek_in {a h t : Int} (w : Win a h t) (hl : h ≤ a) : seek a h t = (a, 0) := by
  obtain ⟨h0, h1, h2, h3, h4⟩ := w
  unfold seek; rw [chk_ok h0 h1 h2, if_neg (by omega), if_neg (by omega), if_neg (by omega)]
end Go.Proofs.Ytlajjgdgjakkdaa
