/- The two tables of unicode/utf8, for the kit's contract of ValidString. No condition. -/
import Derived.Test.YtjookebbmfiidaaDoorBV
import Derived.Shelf.Unicode.DecodeSlow
set_option linter.unusedVariables false
namespace Go.Proofs.YtjookebbmfiidaaDoor.B
open Go.RowKit
end Go.Proofs.YtjookebbmfiidaaDoor.B
