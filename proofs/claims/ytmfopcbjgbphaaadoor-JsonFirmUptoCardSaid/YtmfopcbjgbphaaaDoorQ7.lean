/- JSON: copies, lists that are written over; the law JsonAsks. Condition: sizes. -/
import Derived.Test.YtmfopcbjgbphaaaDoorQ6
set_option linter.unusedVariables false
namespace Go.Proofs.YtmfopcbjgbphaaaDoor.L
open Go.Proofs.YtmfopcbjgbphaaaDoor.B Go.Proofs.YtmfopcbjgbphaaaDoor.R
def ArgN (B : Nat) (v : List api_JNode) : Prop := v.length * 48 ≤ 140737488351232 ∧ ∀ x ∈ v, x.key.size ≤ B ∧ x.text.size ≤ B ∧ In64 x.kids
abbrev Arg (v : List api_JNode) : Prop := ArgN 140737488351232 v
theorem ArgN.szN {B : Nat} {v : List api_JNode} (h : ArgN B v) (hB : B ≤ 2 ^ 48) : Sz v := ⟨by have := h.1; omega, fun x hx => by have := h.2 x hx; omega⟩
theorem ArgN.up {B C : Nat} {v : List api_JNode} (h : ArgN B v) (hB : B ≤ C) : ArgN C v := ⟨h.1, fun x hx => by have := h.2 x hx; exact ⟨by omega, by omega, this.2.2⟩⟩
theorem Arg.sz {v : List api_JNode} (h : Arg v) : Sz v := h.szN (by omega)
section
variable {v : List api_JNode}
abbrev mark : api_JNode := ⟨0, ⟨#[109, 97, 114, 107]⟩, ⟨#[]⟩, 0⟩
end
end Go.Proofs.YtmfopcbjgbphaaaDoor.L
