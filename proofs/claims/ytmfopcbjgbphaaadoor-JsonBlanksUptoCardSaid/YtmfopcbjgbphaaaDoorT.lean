/- What a reading of the arguments tells, type by type, printed by my own tool. No condition. -/
import Derived.Test.YtmfopcbjgbphaaaDoorT0
import Derived.Test.YtmfopcbjgbphaaaDoorK0
set_option linter.unusedVariables false
set_option maxRecDepth 100000
namespace Go.Proofs.YtmfopcbjgbphaaaDoor.K
open Go.Proofs.YtmfopcbjgbphaaaDoor.B Go.Proofs.YtmfopcbjgbphaaaDoor.R Go.RowKit
theorem op_9 : OpensA Tryd.prog 9 kStr (fun s : ByteArray => s.size ≤ reachBytes) (fun s : ByteArray => s.size + 1) := OpensA.str (by kernel_rfl)
theorem op_3 : OpensA Tryd.prog 3 (kInt .i64) (fun n : Int => (Lit.int .i64 n).wf = true) (fun _ : Int => 1) := OpensA.int (by kernel_rfl)
end Go.Proofs.YtmfopcbjgbphaaaDoor.K
