/- The plain side of QueryCanon. No condition. -/
import Derived.Test.YtjookebbmfiidaaDoorX5
import Derived.Test.YtjookebbmfiidaaDoorT
namespace Go.Proofs.YtjookebbmfiidaaDoor.queryCanon
open Go.Proofs.YtjookebbmfiidaaDoor.B Go.Proofs.YtjookebbmfiidaaDoor.K Go.Proofs.YtjookebbmfiidaaDoor.R Go.Proofs.YtjookebbmfiidaaDoor.L
theorem law (x1 : ByteArray) (_ : x1.size ≤ reachBytes) : Kw x1 true := Xma x1
end Go.Proofs.YtjookebbmfiidaaDoor.queryCanon
