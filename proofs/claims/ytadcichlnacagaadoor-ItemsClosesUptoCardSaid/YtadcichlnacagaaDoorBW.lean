/- The two tables of unicode/utf8, for the kit's contract of ValidString. No condition. -/
import Derived.Test.YtadcichlnacagaaDoorBV
import Derived.Shelf.Unicode.DecodeSlow
set_option linter.unusedVariables false
namespace Go.Proofs.YtadcichlnacagaaDoor.B
open Go.RowKit
theorem tbh {zs:List Int} {n:Nat} {j:Int} (h:zs.length=n) (hj:0≤j∧j < (n:Int)):0≤j∧j < (zs.length:Int):=by rw [h]; exact hj
def Yyb:List Int:=(List.range 256).map fun c=>(Lib.firstT c:Int)
end Go.Proofs.YtadcichlnacagaaDoor.B
