/- What the rows lay of tables, at a law's beginning. No condition. -/
import Derived.Test.YtadcichlnacagaaDoorT0
import Derived.Test.YtadcichlnacagaaDoorBW
import Derived.Test.YtadcichlnacagaaDoorBG
import Derived.Lib.LaidU8
set_option linter.unusedVariables false
namespace Go.Proofs.YtadcichlnacagaaDoor.B
open Go.RowKit
theorem Tt.ofTab {P:Program} {W:World} {name:String} {k:IntKind} {zs:List Int} {g:Nat} (h:Lib.TabIs P W name k zs) (hg:P.globalNamed name=some g):Tt k zs g (St W []):=by
 unfold Lib.TabIs World.var? at h
 rw [hg] at h
 simp only [Option.bind_some] at h
 split at h
 ·rename_i cs T fz hc
  injection h with h
  subst h
  exact Tt.start hc
 ·cases h
end Go.Proofs.YtadcichlnacagaaDoor.B
