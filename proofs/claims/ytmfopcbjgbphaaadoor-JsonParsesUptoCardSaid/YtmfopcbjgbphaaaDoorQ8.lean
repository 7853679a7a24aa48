/- JSON: strings and values printed. Condition: sizes. -/
import Derived.Test.YtmfopcbjgbphaaaDoorQ7
set_option linter.unusedVariables false
namespace Go.Proofs.YtmfopcbjgbphaaaDoor.L
open Go.Proofs.YtmfopcbjgbphaaaDoor.B Go.Proofs.YtmfopcbjgbphaaaDoor.R
theorem Bts.cons {x : Int} {l : List Int} (h : 0 ≤ x ∧ x ≤ 255) (hl : Bts l) : Bts (x :: l) := fun y hy => by
 rcases List.mem_cons.1 hy with rfl | hy
 ·exact h
 ·exact hl y hy
section
variable {v : List api_JNode}
end
end Go.Proofs.YtmfopcbjgbphaaaDoor.L
