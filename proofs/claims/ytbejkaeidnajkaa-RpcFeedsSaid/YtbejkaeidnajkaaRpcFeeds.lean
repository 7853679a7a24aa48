/- The plain side of RpcFeeds. No condition. -/
import Derived.Test.YtbejkaeidnajkaaRE
import Derived.Test.YtbejkaeidnajkaaT
namespace Go.Proofs.Ytbejkaeidnajkaa.rpcFeeds
open Go.Proofs.Ytbejkaeidnajkaa.B Go.Proofs.Ytbejkaeidnajkaa.K Go.Proofs.Ytbejkaeidnajkaa.R Go.Proofs.Ytbejkaeidnajkaa.L
theorem law (x1 : List (List Int)) (h1 : x1.length * 24 ≤ reachBytes ∧ ∀ c ∈ x1, c.length * 1 ≤ reachBytes ∧ ∀ x ∈ c, (Lit.int .u8 x).wf = true) : trellislaw26_RpcFeeds x1 true := by
  have hr : reachBytes = 140737488351232 := rfl
  refine feeds_law (by omega) (fun c hc => bts_of (h1.2 c hc).2) (fun c hc => ?_)
  have := (h1.2 c hc).1
  omega
end Go.Proofs.Ytbejkaeidnajkaa.rpcFeeds
