/- The plain side of QueryBack. Its condition: what is handed in is of at most 1048576 bytes in all. -/
import Derived.Test.YtjookebbmfiidaaDoorX4
import Derived.Test.YtjookebbmfiidaaDoorT
namespace Go.Proofs.YtjookebbmfiidaaDoor.queryBack
open Go.Proofs.YtjookebbmfiidaaDoor.B Go.Proofs.YtjookebbmfiidaaDoor.K Go.Proofs.YtjookebbmfiidaaDoor.R Go.Proofs.YtjookebbmfiidaaDoor.L
theorem law (x1 : Aj) (h1 : Vi x1) (hsum : L9 x1 ≤ 1048576) : Gr x1 true := by
  have e : L9 x1 = (Q7 F3 x1.nodes + 1) + (Q7 Jl x1.conds + 1) + 1 := rfl
  have l1 := sumL_len F3 (fun a => by unfold F3; omega) x1.nodes
  refine back_law (by omega) ⟨fun x hx => ?_, fun c hc => ?_⟩
  · have := Xb0 F3 hx
    have ex : F3 x = (x.name.size + 1) + 1 + (x.field.size + 1) + (x.capture.size + 1) + 1 + 1 := rfl
    exact ⟨by omega, by omega, by omega⟩
  · have := Xb0 Jl hc
    have ex : Jl c = 1 + (c.a.size + 1) + (c.b.size + 1) + (c.text.size + 1) + 1 := rfl
    exact ⟨by omega, by omega, by omega⟩
end Go.Proofs.YtjookebbmfiidaaDoor.queryBack
