/- What a reading of the arguments tells, type by type, printed by my own tool. No condition. -/
import Derived.Test.YtbejkaeidnajkaaDoorT0
import Derived.Test.YtbejkaeidnajkaaDoorK0
set_option linter.unusedVariables false
set_option maxRecDepth 100000
namespace Go.Proofs.YtbejkaeidnajkaaDoor.K
open Go.Proofs.YtbejkaeidnajkaaDoor.B Go.Proofs.YtbejkaeidnajkaaDoor.R Go.RowKit
theorem op_5 : OpensA Tryd.prog 5 (kInt .u8) (fun n : Int => (Lit.int .u8 n).wf = true) := OpensA.int (by kernel_rfl)
theorem op_22 : OpensA Tryd.prog 22 (Kd.slice (kInt .u8)) (fun xs : List Int => xs.length * 1 ≤ reachBytes ∧ ∀ x ∈ xs, (fun n : Int => (Lit.int .u8 n).wf = true) x) := OpensA.slice (e := 5) (by kernel_rfl) (by kernel_rfl) (by kernel_rfl) (by decide) op_5
theorem op_9 : OpensA Tryd.prog 9 kStr (fun s : ByteArray => s.size ≤ reachBytes) := OpensA.str (by kernel_rfl)
theorem op_3 : OpensA Tryd.prog 3 (kInt .i64) (fun n : Int => (Lit.int .i64 n).wf = true) := OpensA.int (by kernel_rfl)
end Go.Proofs.YtbejkaeidnajkaaDoor.K
