/- JSON: what is printed is read again as it was; the law JsonBack. Condition: sizes. -/
import Derived.Test.YtmfopcbjgbphaaaDoorQ14
set_option linter.unusedVariables false
namespace Go.Proofs.YtmfopcbjgbphaaaDoor.L
open Go.Proofs.YtmfopcbjgbphaaaDoor.B Go.Proofs.YtmfopcbjgbphaaaDoor.R
end Go.Proofs.YtmfopcbjgbphaaaDoor.L
