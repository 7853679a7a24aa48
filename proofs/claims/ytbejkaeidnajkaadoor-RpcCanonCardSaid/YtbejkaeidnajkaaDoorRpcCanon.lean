/- The plain side of RpcCanon. No condition. -/
import Derived.Test.YtbejkaeidnajkaaDoorM
import Derived.Test.YtbejkaeidnajkaaDoorT
namespace Go.Proofs.YtbejkaeidnajkaaDoor.rpcCanon
open Go.Proofs.YtbejkaeidnajkaaDoor.B Go.Proofs.YtbejkaeidnajkaaDoor.K Go.Proofs.YtbejkaeidnajkaaDoor.R Go.Proofs.YtbejkaeidnajkaaDoor.L
theorem law (b : List Int) (h1 : b.length * 1 ≤ reachBytes ∧ ∀ x ∈ b, (Lit.int .u8 x).wf = true) : trellislaw26_RpcCanon b true := canon h1
end Go.Proofs.YtbejkaeidnajkaaDoor.rpcCanon
