/- The plain side of chapter 8, more: texts put together. No condition. -/
import Derived.Test.YtjookebbmfiidaaDoorSM
set_option linter.unusedVariables false
namespace Go.Proofs.YtjookebbmfiidaaDoor.L
open Go.Proofs.YtjookebbmfiidaaDoor.B Go.Proofs.YtjookebbmfiidaaDoor.R
def mv (d : Nat) (w : api_Word) : api_Word := ⟨w.kind, w.text, w.n, w.at_ + d⟩
end Go.Proofs.YtjookebbmfiidaaDoor.L
