/- What the program's table tells of int. -/
import Derived.Test.YtfackochjlccpaaRd
import Derived.Test.YtfackochjlccpaaRows
namespace Go.Proofs.Ytfackochjlccpaa
open Go Go.RowKit
theorem intInfo : (Try.prog.info? 3).map (fun i => (i.zero, i.size, i.bytes)) = some (some (.int .i64 0), 1, 8) := by kernel_rfl
end Go.Proofs.Ytfackochjlccpaa
