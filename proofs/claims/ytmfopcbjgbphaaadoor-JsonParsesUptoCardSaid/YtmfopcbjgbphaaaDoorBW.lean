/- The two tables of unicode/utf8, for the kit's contract of ValidString. No condition. -/
import Derived.Test.YtmfopcbjgbphaaaDoorBV
import Derived.Shelf.Unicode.DecodeSlow
set_option linter.unusedVariables false
namespace Go.Proofs.YtmfopcbjgbphaaaDoor.B
open Go.RowKit
theorem tbh {zs : List Int} {n : Nat} {j : Int} (h : zs.length = n) (hj : 0 ≤ j ∧ j < (n : Int)) : 0 ≤ j ∧ j < (zs.length : Int) := by rw [h]; exact hj
end Go.Proofs.YtmfopcbjgbphaaaDoor.B
