/- What a reading of the arguments tells, type by type, printed by my own tool. No condition. -/
import Derived.Test.YtjookebbmfiidaaT0
import Derived.Test.YtjookebbmfiidaaK0
set_option linter.unusedVariables false
set_option maxRecDepth 100000
namespace Go.Proofs.Ytjookebbmfiidaa.K
open Go.Proofs.Ytjookebbmfiidaa.B Go.Proofs.Ytjookebbmfiidaa.R Go.RowKit
theorem op_9 : OpensA Try.prog 9 kStr (fun s : ByteArray => s.size ≤ reachBytes) (fun s : ByteArray => s.size + 1) := OpensA.str (by kernel_rfl)
end Go.Proofs.Ytjookebbmfiidaa.K
