/- Lemmas of my own on the machine: a row that is kept while it is appended to under another name. No condition. -/
import Derived.Test.YtjookebbmfiidaaDoorBF
set_option linter.unusedVariables false
set_option linter.unusedSimpArgs false
set_option linter.unusedSectionVars false
namespace Go.Proofs.YtjookebbmfiidaaDoor.B
open Go.RowKit
section tw
variable {α:Type} (enc:α→List Value)
variable {enc} {M M0 rest:List Ent} {S:List Cc} {w0 w:World} {e sz:Nat} {A0 A:Option Addr} {n0 c0 n c:Nat} {xs0 zs:List α}
variable {C:Cx} {ops:Array Oper} {k:List Item} {l:Fm} {ty:TypeId} {pos:String} {after:Ed} {g:Gu} {d:Nat} {Nx:Fm→List Ent→List Cc→Prop}
end tw
section fam
variable {τ:Type} {fk:Fk τ} {M:List Ent} {S:List Cc} {w0 w:World}
variable {C:Cx} {ops:Array Oper} {k:List Item} {l:Fm} {ty:TypeId} {pos:String} {after:Ed} {g:Gu} {d:Nat} {Nx:Fm→List Ent→List Cc→Prop}
end fam
end Go.Proofs.YtjookebbmfiidaaDoor.B
