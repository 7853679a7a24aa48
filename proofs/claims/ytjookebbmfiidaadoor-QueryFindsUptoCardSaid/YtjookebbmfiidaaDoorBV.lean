/- Lemmas of my own on the machine: package-level tables of numbers, read alone. No condition. -/
import Derived.Test.YtjookebbmfiidaaDoorBM
set_option linter.unusedVariables false
set_option linter.unusedSimpArgs false
namespace Go.Proofs.YtjookebbmfiidaaDoor.B
open Go.RowKit
def Tt (k:IntKind) (zs:List Int) (g:Nat) (s:Cc):Prop:=s.av g∧∃ T fz,s.w.heap[g]? = some (.cells (zs.map (Value.int k)).toArray T fz)
theorem Tt.start {k:IntKind} {zs:List Int} {g:Nat} {w:World} {T:TypeId} {fz:Nat × Nat} (h:w.heap[g]? = some (.cells (zs.map (Value.int k)).toArray T fz)):Tt k zs g (St w []) :=
 ⟨⟨(Array.getElem?_eq_some_iff.1 h).1,by simp,trivial⟩,T,fz,h⟩
section
variable {C:Cx} {l:Fm} {M:List Ent} {S:List Cc} {d:Nat} {ty:TypeId} {pos:String} {after:Ed} {g:Gu}
end
end Go.Proofs.YtjookebbmfiidaaDoor.B
