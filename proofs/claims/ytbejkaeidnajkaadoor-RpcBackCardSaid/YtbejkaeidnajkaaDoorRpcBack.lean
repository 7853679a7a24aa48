/- The plain side of RpcBack. No condition. -/
import Derived.Test.YtbejkaeidnajkaaDoorM
import Derived.Test.YtbejkaeidnajkaaDoorT
namespace Go.Proofs.YtbejkaeidnajkaaDoor.rpcBack
open Go.Proofs.YtbejkaeidnajkaaDoor.B Go.Proofs.YtbejkaeidnajkaaDoor.K Go.Proofs.YtbejkaeidnajkaaDoor.R Go.Proofs.YtbejkaeidnajkaaDoor.L
theorem law (s : ByteArray) (b : List Int) (k : Int) (hs : s.size ≤ reachBytes) (h1 : b.length * 1 ≤ reachBytes ∧ ∀ x ∈ b, (Lit.int .u8 x).wf = true) (hk : (Lit.int .i64 k).wf = true) : trellislaw26_RpcBack s b k true := back hs h1
end Go.Proofs.YtbejkaeidnajkaaDoor.rpcBack
