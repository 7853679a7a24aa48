/- The plain side of QueryBack. Its condition: what is handed in is of at most 1048576 bytes in all. -/
import Derived.Test.YtjookebbmfiidaaDoorX4
import Derived.Test.YtjookebbmfiidaaDoorT
namespace Go.Proofs.YtjookebbmfiidaaDoor.queryBack
open Go.Proofs.YtjookebbmfiidaaDoor.B Go.Proofs.YtjookebbmfiidaaDoor.K Go.Proofs.YtjookebbmfiidaaDoor.R Go.Proofs.YtjookebbmfiidaaDoor.L
theorem law (x1 : Am) (h1 : Xft x1) (hsum : V6 x1 ≤ 1048576) : Nj x1 true := by
  have e : V6 x1 = (Xad J9 x1.nodes + 1) + (Xad Rq x1.conds + 1) + 1 := rfl
  have l1 := sumL_len J9 (fun a => by unfold J9; omega) x1.nodes
  refine back_law (by omega) ⟨fun x hx => ?_, fun c hc => ?_⟩
  · have := Xkf J9 hx
    have ex : J9 x = (x.name.size + 1) + 1 + (x.field.size + 1) + (x.capture.size + 1) + 1 + 1 := rfl
    exact ⟨by omega, by omega, by omega⟩
  · have := Xkf Rq hc
    have ex : Rq c = 1 + (c.a.size + 1) + (c.b.size + 1) + (c.text.size + 1) + 1 := rfl
    exact ⟨by omega, by omega, by omega⟩
end Go.Proofs.YtjookebbmfiidaaDoor.queryBack
