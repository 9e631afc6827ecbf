/- A ring that no call made: what each function answers. -/
import Derived.Test.YtfackochjlccpaaRingY
namespace Go.Proofs.Ytfackochjlccpaa
open Go Go.RowKit
set_option linter.unusedVariables false
set_option linter.unusedSimpArgs false
set_option maxHeartbeats 400000 in
set_option maxRecDepth 100000 in
theorem find_nil (w : World) (k : Int) : Calls Try.prog 32 #[.pointer none, .int .i64 k] w fun e w' => e = .returned (.tuple #[.pointer none, .int .i64 1]) ∧ w = w' := by
  go_enter Try.func32, Try.ntmps32
  go_wp2_with (go_at_call 30; refine (is_nil _).mono ?_; rintro e w' ⟨rfl, rfl⟩; dsimp only)
  go_ret2
  exact ⟨rfl, rfl⟩
set_option maxHeartbeats 400000 in
set_option maxRecDepth 100000 in
theorem find_zero (w : World) (b : Nat) (h0 : w.cell? ⟨b, 0, none⟩ = some (.slice none 0 0)) (k : Int) : Calls Try.prog 32 #[.pointer (some ⟨b, 0, none⟩), .int .i64 k] w fun e w' => e = .returned (.tuple #[.pointer none, .int .i64 1]) ∧ w = w' := by
  go_enter Try.func32, Try.ntmps32
  go_wp2_with (go_at_call 30; refine (is_zero _ _ h0).mono ?_; rintro e w' ⟨rfl, rfl⟩; dsimp only)
  go_ret2
  exact ⟨rfl, rfl⟩
set_option maxHeartbeats 400000 in
set_option maxRecDepth 100000 in
theorem get_nil (w : World) (k : Int) : Calls Try.prog 17 #[.pointer none, .int .i64 k] w fun e w' => e = .returned (.tuple #[.int .i64 0, .int .i64 1]) ∧ w = w' := by
  go_enter Try.func17, Try.ntmps17
  go_wp2_with (go_at_call 32; refine (find_nil _ _).mono ?_; rintro e w' ⟨rfl, rfl⟩; dsimp only)
  go_ret2
  exact ⟨rfl, rfl⟩
set_option maxHeartbeats 400000 in
set_option maxRecDepth 100000 in
theorem get_zero (w : World) (b : Nat) (h0 : w.cell? ⟨b, 0, none⟩ = some (.slice none 0 0)) (k : Int) : Calls Try.prog 17 #[.pointer (some ⟨b, 0, none⟩), .int .i64 k] w fun e w' => e = .returned (.tuple #[.int .i64 0, .int .i64 1]) ∧ w = w' := by
  go_enter Try.func17, Try.ntmps17
  go_wp2_with (go_at_call 32; refine (find_zero _ _ h0 _).mono ?_; rintro e w' ⟨rfl, rfl⟩; dsimp only)
  go_ret2
  exact ⟨rfl, rfl⟩
set_option maxHeartbeats 400000 in
set_option maxRecDepth 100000 in
theorem publish_nil (w : World) (k : Int) : Calls Try.prog 13 #[.pointer none, .int .i64 k] w fun e w' => e = .returned (.int .i64 1) ∧ w = w' := by
  go_enter Try.func13, Try.ntmps13
  go_wp2_with (go_at_call 32; refine (find_nil _ _).mono ?_; rintro e w' ⟨rfl, rfl⟩; dsimp only)
  go_ret
  exact ⟨rfl, rfl⟩
set_option maxHeartbeats 400000 in
set_option maxRecDepth 100000 in
theorem publish_zero (w : World) (b : Nat) (h0 : w.cell? ⟨b, 0, none⟩ = some (.slice none 0 0)) (k : Int) : Calls Try.prog 13 #[.pointer (some ⟨b, 0, none⟩), .int .i64 k] w fun e w' => e = .returned (.int .i64 1) ∧ w = w' := by
  go_enter Try.func13, Try.ntmps13
  go_wp2_with (go_at_call 32; refine (find_zero _ _ h0 _).mono ?_; rintro e w' ⟨rfl, rfl⟩; dsimp only)
  go_ret
  exact ⟨rfl, rfl⟩
set_option maxHeartbeats 400000 in
set_option maxRecDepth 100000 in
theorem trim_nil (w : World) (k : Int) : Calls Try.prog 18 #[.pointer none, .int .i64 k] w fun e w' => e = .returned (.tuple #[.slice none 0 0, .int .i64 1]) ∧ w = w' := by
  go_enter Try.func18, Try.ntmps18
  go_wp2_with (go_at_call 30; refine (is_nil _).mono ?_; rintro e w' ⟨rfl, rfl⟩; dsimp only)
  go_ret2
  exact ⟨rfl, rfl⟩
set_option maxHeartbeats 400000 in
set_option maxRecDepth 100000 in
theorem trim_zero (w : World) (b : Nat) (h0 : w.cell? ⟨b, 0, none⟩ = some (.slice none 0 0)) (k : Int) : Calls Try.prog 18 #[.pointer (some ⟨b, 0, none⟩), .int .i64 k] w fun e w' => e = .returned (.tuple #[.slice none 0 0, .int .i64 1]) ∧ w = w' := by
  go_enter Try.func18, Try.ntmps18
  go_wp2_with (go_at_call 30; refine (is_zero _ _ h0).mono ?_; rintro e w' ⟨rfl, rfl⟩; dsimp only)
  go_ret2
  exact ⟨rfl, rfl⟩
set_option maxHeartbeats 400000 in
set_option maxRecDepth 100000 in
theorem refs_nil (w : World) : Calls Try.prog 19 #[.pointer none] w fun e w' => e = .returned (.slice none 0 0) ∧ w = w' := by
  go_enter Try.func19, Try.ntmps19
  go_wp2_with (go_at_call 30; refine (is_nil _).mono ?_; rintro e w' ⟨rfl, rfl⟩; dsimp only)
  go_ret
  exact ⟨rfl, rfl⟩
set_option maxHeartbeats 400000 in
set_option maxRecDepth 100000 in
theorem refs_zero (w : World) (b : Nat) (h0 : w.cell? ⟨b, 0, none⟩ = some (.slice none 0 0)) : Calls Try.prog 19 #[.pointer (some ⟨b, 0, none⟩)] w fun e w' => e = .returned (.slice none 0 0) ∧ w = w' := by
  go_enter Try.func19, Try.ntmps19
  go_wp2_with (go_at_call 30; refine (is_zero _ _ h0).mono ?_; rintro e w' ⟨rfl, rfl⟩; dsimp only)
  go_ret
  exact ⟨rfl, rfl⟩
set_option maxHeartbeats 400000 in
set_option maxRecDepth 100000 in
theorem ready_nil (w : World) (k : Int) : Calls Try.prog 15 #[.pointer none, .int .i64 k] w fun e w' => e = .returned (.int .i64 0) ∧ w = w' := by
  go_enter Try.func15, Try.ntmps15
  go_wp2
  go_step3
  go_wp2_with (go_at_call 30; refine (is_nil _).mono ?_; rintro e w' ⟨rfl, rfl⟩; dsimp only)
  rw [Exit.noGoto_ret]
  go_ret
  exact ⟨rfl, rfl⟩
set_option maxHeartbeats 400000 in
set_option maxRecDepth 100000 in
theorem ready_zero (w : World) (b : Nat) (h0 : w.cell? ⟨b, 0, none⟩ = some (.slice none 0 0)) (k : Int) : Calls Try.prog 15 #[.pointer (some ⟨b, 0, none⟩), .int .i64 k] w fun e w' => e = .returned (.int .i64 0) ∧ w = w' := by
  go_enter Try.func15, Try.ntmps15
  go_wp2
  go_step3
  go_wp2_with (go_at_call 30; refine (is_zero _ _ h0).mono ?_; rintro e w' ⟨rfl, rfl⟩; dsimp only)
  rw [Exit.noGoto_ret]
  go_ret
  exact ⟨rfl, rfl⟩
end Go.Proofs.Ytfackochjlccpaa
