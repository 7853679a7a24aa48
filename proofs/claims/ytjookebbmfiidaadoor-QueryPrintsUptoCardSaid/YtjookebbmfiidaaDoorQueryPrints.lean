/- The plain side of QueryPrints. Its condition: what is handed in is of at most 1048576 bytes in all. -/
import Derived.Test.YtjookebbmfiidaaDoorSK
import Derived.Test.YtjookebbmfiidaaDoorT
namespace Go.Proofs.YtjookebbmfiidaaDoor.queryPrints
open Go.Proofs.YtjookebbmfiidaaDoor.B Go.Proofs.YtjookebbmfiidaaDoor.K Go.Proofs.YtjookebbmfiidaaDoor.R Go.Proofs.YtjookebbmfiidaaDoor.L
theorem law (x1 : api_Query) (h1 : q_api_Query x1) (hsum : sz_api_Query x1 ≤ 1048576) : trellislaw20_QueryPrints x1 true := by
  have e : sz_api_Query x1 = (sumL sz_api_PatNode x1.nodes + 1) + (sumL sz_api_Cond x1.conds + 1) + 1 := rfl
  have l1 := sumL_len sz_api_PatNode (fun a => by unfold sz_api_PatNode; omega) x1.nodes
  have l2 := sumL_len sz_api_Cond (fun a => by unfold sz_api_Cond; omega) x1.conds
  refine prints_law (by omega) (by omega) ⟨fun x hx => ?_, fun c hc => ?_⟩
  · have := sumL_mem sz_api_PatNode hx
    have ex : sz_api_PatNode x = (x.name.size + 1) + 1 + (x.field.size + 1) + (x.capture.size + 1) + 1 + 1 := rfl
    exact ⟨by omega, by omega, by omega⟩
  · have := sumL_mem sz_api_Cond hc
    have ex : sz_api_Cond c = 1 + (c.a.size + 1) + (c.b.size + 1) + (c.text.size + 1) + 1 := rfl
    exact ⟨by omega, by omega, by omega⟩
end Go.Proofs.YtjookebbmfiidaaDoor.queryPrints
