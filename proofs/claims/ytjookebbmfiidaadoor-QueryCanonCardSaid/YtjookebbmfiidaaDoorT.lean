/- What a reading of the arguments tells, type by type, printed by my own tool. No condition. -/
import Derived.Test.YtjookebbmfiidaaDoorT0
import Derived.Test.YtjookebbmfiidaaDoorK0
set_option linter.unusedVariables false
set_option maxRecDepth 100000
namespace Go.Proofs.YtjookebbmfiidaaDoor.K
open Go.Proofs.YtjookebbmfiidaaDoor.B Go.Proofs.YtjookebbmfiidaaDoor.R Go.RowKit
theorem op_9 : Tj Tryd.prog 9 kStr (fun s : ByteArray => s.size ≤ reachBytes) (fun s : ByteArray => s.size + 1) := Tj.str (by kernel_rfl)
end Go.Proofs.YtjookebbmfiidaaDoor.K
