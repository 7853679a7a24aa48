/- JSON: the bound on nesting, Member, Int. Condition: sizes. -/
import Derived.Test.YtmfopcbjgbphaaaDoorQ5
set_option linter.unusedVariables false
namespace Go.Proofs.YtmfopcbjgbphaaaDoor.L
open Go.Proofs.YtmfopcbjgbphaaaDoor.B Go.Proofs.YtmfopcbjgbphaaaDoor.R
def In64 (x : Int) : Prop := -9223372036854775808 ≤ x ∧ x ≤ 9223372036854775807
section
variable {v : List api_JNode}
end
section
variable {v : List api_JNode}
end
end Go.Proofs.YtmfopcbjgbphaaaDoor.L
