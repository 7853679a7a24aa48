/- Lemmas of my own on the machine: a row that has been appended to, read by its elder name; rows of rows, cut, appended. No condition. -/
import Derived.Test.YtjookebbmfiidaaDoorBS
set_option linter.unusedVariables false
set_option linter.unusedSimpArgs false
namespace Go.Proofs.YtjookebbmfiidaaDoor.B
open Go.RowKit
def Eld (e sz : Nat) (A' : Option Addr) (n' c' : Nat) (cells' : List Value) (bs : List Nat) (p : World → Prop) (A : Option Addr) (n : Nat) (cells : List Value) : Prop :=
  ∀ w, (Ent.own (.slice A' n' c') e sz n' cells').ok w → (Ent.deep .nilIface bs p).ok w →
    (0 < n → ∃ b, A = some ⟨b, 0, none⟩ ∧ (b ∈ (Value.slice A' n' c').ownBlock.toList ∨ b ∈ bs)) ∧ ∀ q u, cells[q]? = some u → Xb7 w A q = some u
theorem Eld.self {e sz n c : Nat} {A : Option Addr} {cells : List Value} {bs : List Nat} {p : World → Prop} : Eld e sz A n c cells bs p A n cells := fun w h _ => by
  have hown : Nl w e sz (.slice A n c) n cells := h
  refine ⟨fun h0 => ?_, fun q u hq => Xci hown hq⟩
  obtain ⟨gb, rfl⟩ := hown.addr h0
  exact ⟨gb, rfl, .inl (by simp [Value.ownBlock])⟩
section ops
variable {C : Cx} {ops : Array Oper} {k : List Item} {l l' : Fm} {M M' M0 rest : List Ent} {S S' : List C9} {ty : TypeId} {pos : String} {after : Ed} {g : Gu} {d : Nat} {Nx : Fm → List Ent → List C9 → Prop}
end ops
end Go.Proofs.YtjookebbmfiidaaDoor.B
