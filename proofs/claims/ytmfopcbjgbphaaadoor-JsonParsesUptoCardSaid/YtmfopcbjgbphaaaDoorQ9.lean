/- JSON: Print of the program and of the document; the law JsonPrints. Condition: sizes. -/
import Derived.Test.YtmfopcbjgbphaaaDoorQ8
set_option linter.unusedVariables false
namespace Go.Proofs.YtmfopcbjgbphaaaDoor.L
open Go.Proofs.YtmfopcbjgbphaaaDoor.B Go.Proofs.YtmfopcbjgbphaaaDoor.R
section
variable {v : List api_JNode}
end
end Go.Proofs.YtmfopcbjgbphaaaDoor.L
