/- RingVoid: a ring that no call made has and does nothing; for every int. -/
import Derived.Test.YtfackochjlccpaaL06
import Derived.Test.YtfackochjlccpaaRingV
namespace Go.Proofs.Ytfackochjlccpaa
open Go Go.RowKit
set_option linter.unusedVariables false
set_option linter.unusedSimpArgs false

set_option maxHeartbeats 2000000 in
set_option maxRecDepth 100000 in
theorem ringVoid_walk (n : Int) (w : World) (hn : (Lit.int .i64 n).wf = true) : Calls Try.prog 8 #[.int .i64 n] w (RetB w (.bool true)) := by
  clear hn
  go_enter Try.func8, Try.ntmps8
  go_wp2_with fail
  refine (works06 w).mono ?_
  rintro e w1 ⟨rfl, hb⟩
  dsimp only
  have hI := ((Inv.refl w).grow hb).alloc (.cells #[.slice none 0 0, .int .i64 0, .int .i64 0, .int .i64 0] 55)
  have h0 := hI.cell (off := 0) (v := .slice none 0 0) rfl
  have HB := Lib.hid hI.below
  clear hI hb
  go_wp2_with fail
  refine (claim_nil _ _).mono ?_
  rintro e w' ⟨rfl, rfl⟩
  dsimp only [tri]
  go_wp2_with fail
  refine (claim_zero _ _ _ h0).mono ?_
  rintro e w' ⟨rfl, rfl⟩
  dsimp only [tri]
  go_wp2_with fail
  refine (get_nil _ _).mono ?_
  rintro e w' ⟨rfl, rfl⟩
  dsimp only
  go_wp2_with fail
  refine (trim_zero _ _ h0 _).mono ?_
  rintro e w' ⟨rfl, rfl⟩
  dsimp only
  go_wp2_with fail
  refine (publish_nil _ _).mono ?_
  rintro e w' ⟨rfl, rfl⟩
  dsimp only
  go_wp2_with fail
  refine (publish_zero _ _ h0 _).mono ?_
  rintro e w' ⟨rfl, rfl⟩
  dsimp only
  go_wp2_with fail
  refine (ready_nil _ _).mono ?_
  rintro e w' ⟨rfl, rfl⟩
  dsimp only
  go_wp2_with fail
  refine (ready_zero _ _ h0 _).mono ?_
  rintro e w' ⟨rfl, rfl⟩
  dsimp only
  go_wp2_with fail
  refine (ring_head_nil _).mono ?_
  rintro e w' ⟨rfl, rfl⟩
  dsimp only
  go_wp2_with fail
  refine (ring_head_zero _ _ h0).mono ?_
  rintro e w' ⟨rfl, rfl⟩
  dsimp only
  go_wp2_with fail
  refine (ring_tail_nil _).mono ?_
  rintro e w' ⟨rfl, rfl⟩
  dsimp only
  go_wp2_with fail
  refine (ring_tail_zero _ _ h0).mono ?_
  rintro e w' ⟨rfl, rfl⟩
  dsimp only
  go_wp2_with fail
  refine (ring_room_nil _).mono ?_
  rintro e w' ⟨rfl, rfl⟩
  dsimp only
  go_wp2_with fail
  refine (ring_room_zero _ _ h0).mono ?_
  rintro e w' ⟨rfl, rfl⟩
  dsimp only
  go_wp2_with fail
  refine (refs_nil _).mono ?_
  rintro e w' ⟨rfl, rfl⟩
  dsimp only
  go_wp2_with fail
  refine (refs_zero _ _ h0).mono ?_
  rintro e w' ⟨rfl, rfl⟩
  dsimp only
  go_wp2
  go_ret
  exact ⟨rfl, HB.out⟩
end Go.Proofs.Ytfackochjlccpaa
