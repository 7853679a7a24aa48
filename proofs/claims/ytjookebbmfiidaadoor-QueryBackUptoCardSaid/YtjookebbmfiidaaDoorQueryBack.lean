/- The plain side of QueryBack. Its condition: what is handed in is of at most 1048576 bytes in all. -/
import Derived.Test.YtjookebbmfiidaaDoorX4
import Derived.Test.YtjookebbmfiidaaDoorT
namespace Go.Proofs.YtjookebbmfiidaaDoor.queryBack
open Go.Proofs.YtjookebbmfiidaaDoor.B Go.Proofs.YtjookebbmfiidaaDoor.K Go.Proofs.YtjookebbmfiidaaDoor.R Go.Proofs.YtjookebbmfiidaaDoor.L
theorem law (x1 : Am) (_ : Xfm x1) (hsum : Vl x1 ≤ 1048576) : N9 x1 true := by
  have e : Vl x1 = (Xas Ji x1.nodes + 1) + (Xas Ro x1.conds + 1) + 1 := rfl
  have l1 := sumL_len Ji (fun a => by unfold Ji; omega) x1.nodes
  refine back_law (by omega) ⟨fun x hx => ?_, fun c hc => ?_⟩
  · have := Xkm Ji hx
    have ex : Ji x = (x.name.size + 1) + 1 + (x.field.size + 1) + (x.capture.size + 1) + 1 + 1 := rfl
    exact ⟨by omega, by omega, by omega⟩
  · have := Xkm Ro hc
    have ex : Ro c = 1 + (c.a.size + 1) + (c.b.size + 1) + (c.text.size + 1) + 1 := rfl
    exact ⟨by omega, by omega, by omega⟩
end Go.Proofs.YtjookebbmfiidaaDoor.queryBack
