/- The statements of chapter 06: the chapter's example. -/
import Derived.Test.YtfackochjlccpaaRingY
import Derived.Test.YtfackochjlccpaaSame
import Derived.Test.YtfackochjlccpaaAmong
namespace Go.Proofs.Ytfackochjlccpaa
open Go Go.RowKit
set_option linter.unusedVariables false
set_option linter.unusedSimpArgs false

set_option maxHeartbeats 1000000 in
set_option maxRecDepth 100000 in
theorem works06 (w : World) : Calls Try.prog 9 #[] w (RetB w (.bool true)) := by
  have H := Lib.hid (Inv.refl w)
  have e1 : RSt.claim ⟨2, 1, 0, []⟩ 7 = ((0, 0, 0), ⟨2, 1, 0, [(7, false)]⟩) := by simp [RSt.claim]
  have e2 : RSt.claim ⟨2, 1, 0, [(7, false)]⟩ 8 = ((1, 0, 0), ⟨2, 1, 0, [(7, false), (8, false)]⟩) := by simp [RSt.claim]
  have e3 : RSt.claim ⟨2, 1, 0, [(7, false), (8, false)]⟩ 9 = ((0, 0, 60), ⟨2, 1, 0, [(7, false), (8, false)]⟩) := by simp [RSt.claim]
  have e4 : RSt.publish ⟨2, 1, 0, [(7, false), (8, false)]⟩ 0 = (0, ⟨2, 1, 0, [(7, true), (8, false)]⟩) := by simp [RSt.publish, RSt.findE, RSt.t]
  have e5 : RSt.claim ⟨2, 1, 0, [(7, true), (8, false)]⟩ 9 = ((2, 7, 0), ⟨2, 1, 1, [(8, false), (9, false)]⟩) := by simp [RSt.claim]
  have E1 := Lib.hid e1
  have E2 := Lib.hid e2
  have E3 := Lib.hid e3
  have E4 := Lib.hid e4
  have E5 := Lib.hid e5
  clear e1 e2 e3 e4 e5
  go_enter Try.func9, Try.ntmps9
  go_wp2_with fail
  refine (ring_make H.out 2 1 (by omega) (by omega) (by omega) (by omega)).mono ?_
  rintro e w1 ⟨b, rfl, hI⟩
  have H1 := Lib.hid hI
  clear hI H
  dsimp only
  go_wp2_with fail
  refine (ring_claim H1.out 7).mono ?_
  rintro e w2 ⟨rfl, hI⟩
  rw [E1.out] at hI ⊢
  have H2 := Lib.hid hI
  clear hI H1
  dsimp only [tri]
  go_wp2_with fail
  refine (ring_claim H2.out 8).mono ?_
  rintro e w3 ⟨rfl, hI⟩
  rw [E2.out] at hI ⊢
  have H3 := Lib.hid hI
  clear hI H2
  dsimp only [tri]
  go_wp2_with fail
  refine (ring_claim H3.out 9).mono ?_
  rintro e w4 ⟨rfl, hI⟩
  rw [E3.out] at hI ⊢
  have H4 := Lib.hid hI
  clear hI H3
  dsimp only [tri]
  go_wp2_with fail
  refine (ring_publish H4.out 0).mono ?_
  rintro e w5 ⟨rfl, hI⟩
  rw [E4.out] at hI ⊢
  have H5 := Lib.hid hI
  clear hI H4
  dsimp only [tri]
  go_wp2_with fail
  refine (ring_claim H5.out 9).mono ?_
  rintro e w6 ⟨rfl, hI⟩
  rw [E5.out] at hI ⊢
  have H6 := Lib.hid hI
  clear hI H5
  dsimp only [tri]
  go_wp2_with fail
  refine (ring_refs H6.out).mono ?_
  rintro e w7 ⟨A, c, rfl, hI⟩
  dsimp only
  have hJ := hI.alloc (.cells #[.int .i64 8, .int .i64 9] 3)
  have r1 := row_rdi (xs := [8, 9]) hJ.pull1 (by simp)
  have r2 := blk_rdi (xs := [8, 9]) hJ (fun j x hj => by
    match j, hj with
    | 0, hj => cases hj; rfl
    | 1, hj => cases hj; rfl) (by simp)
  have H7 := Lib.hid hJ
  have R1 := Lib.hid r1
  have R2 := Lib.hid r2
  clear hI hJ H6 r1 r2
  go_wp2_with fail
  refine (same_ints _ _ [8, 9] [8, 9] _ _ _ R1.out R2.out).mono ?_
  rintro e w8 ⟨rfl, m, rfl⟩
  dsimp only
  go_wp2
  go_ret
  exact ⟨rfl, (H7.out.drewN m).below⟩
end Go.Proofs.Ytfackochjlccpaa
