/- What the rows lay of tables, at a law's beginning. No condition. -/
import Derived.Test.YtjookebbmfiidaaDoorT0
import Derived.Test.YtjookebbmfiidaaDoorBW
import Derived.Test.YtjookebbmfiidaaDoorBG
import Derived.Lib.LaidU8
set_option linter.unusedVariables false
namespace Go.Proofs.YtjookebbmfiidaaDoor.B
open Go.RowKit
end Go.Proofs.YtjookebbmfiidaaDoor.B
