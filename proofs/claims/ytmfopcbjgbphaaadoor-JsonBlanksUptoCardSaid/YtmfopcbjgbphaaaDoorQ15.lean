/- JSON: what is printed is read again as it was; the law JsonBack. Condition: sizes. -/
import Derived.Test.YtmfopcbjgbphaaaDoorQ14
set_option linter.unusedVariables false
namespace Go.Proofs.YtmfopcbjgbphaaaDoor.L
open Go.Proofs.YtmfopcbjgbphaaaDoor.B Go.Proofs.YtmfopcbjgbphaaaDoor.R
theorem stop_end (obj : Bool) (r : List Int) : Stop (endO obj ++ r) := by
 unfold Stop endO
 cases obj <;> (rw [List.singleton_append, isL_cons]; decide)
end Go.Proofs.YtmfopcbjgbphaaaDoor.L
