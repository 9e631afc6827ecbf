/- Bytes: a copy of one's own. -/
import Derived.Test.YtfkhnpkojnnfmaaHash2
namespace Go.Proofs.Ytfkhnpkojnnfmaa
open Go Go.RowKit
set_option linter.unusedVariables false
set_option linter.unusedSimpArgs false
theorem byteInfo : (Try.prog.info? 5).map (fun i => (i.zero, i.size, i.bytes)) = some (some (.int .u8 0), 1, 1) := by kernel_rfl
set_option maxHeartbeats 400000 in
theorem bytes_any {W w : World} {Rs : List Asn} (h : Inv W w Rs) (A : Option Addr) (xs : List Nat) (n c : Nat) (hn : xs.length = n) (hr : RdB w A xs) :
    Calls Try.prog 13 #[.slice A n c] w fun e w' => ∃ A' c', e = .returned (.slice A' n c') ∧ Inv W w' (RowA 5 1 A' n c' (byts xs) :: Rs) := by
  subst hn
  have hb : xs.length ≤ 140737488355328 := hr.1
  have hm : xs.length ≤ maxLen := by unfold maxLen; omega
  have hrow : Inv W (w.alloc (.cells #[] 5)) (RowA 5 1 (some ⟨w.heap.size, 0, none⟩) 0 0 [] :: Rs) := row_mk (h.alloc _) (Nat.le_refl 0) (by decide) (by simp) (by simp)
  have hrr := hr.rd.old ((Inv.refl w).alloc (.cells #[] 5))
  obtain ⟨i0, hi, hz0, hz1, hz2⟩ := info_parts byteInfo
  have Hhrow := Lib.hid hrow
  have Hhrr := Lib.hid hrr
  clear hrow hrr
  clear h hr
  go_enter Try.func13, Try.ntmps13
  go_wp2_with (at_builtin; refine wpList_append_rd rfl _ _ 34 rfl i0 _ 1 Try.underlying34 hi hz0 hz1 hz2 rfl (by decide) rfl Hhrow.out rfl Hhrr.out (byts_one xs) ?c3 ?c4 ?_)
  case c3 => omega
  case c4 => omega
  intro A' c' w' h2
  try simp only [List.nil_append, Nat.zero_add] at h2
  try simp only [Nat.zero_add]
  have Hh2 := Lib.hid h2
  clear h2
  go_wp2
  go_ret
  exact ⟨_, _, rfl, Hh2.out⟩
end Go.Proofs.Ytfkhnpkojnnfmaa
