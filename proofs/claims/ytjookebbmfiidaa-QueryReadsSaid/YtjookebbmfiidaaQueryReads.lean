/- The plain side of QueryReads. No condition. -/
import Derived.Test.YtjookebbmfiidaaSE
import Derived.Test.YtjookebbmfiidaaT
namespace Go.Proofs.Ytjookebbmfiidaa.queryReads
open Go.Proofs.Ytjookebbmfiidaa.B Go.Proofs.Ytjookebbmfiidaa.K Go.Proofs.Ytjookebbmfiidaa.R Go.Proofs.Ytjookebbmfiidaa.L
theorem law (x1 : ByteArray) (_ : x1.size ≤ reachBytes) : trellislaw20_QueryReads x1 true := reads_law x1
end Go.Proofs.Ytjookebbmfiidaa.queryReads
