/- Plain words and their laws, for the relations. No condition. -/
import Derived.Test.YtadcichlnacagaaDoorP0
import Derived.IntWalk
set_option linter.unusedVariables false
namespace Go.Proofs.YtadcichlnacagaaDoor.B
theorem Yyq {x:Int} (h:-9223372036854775808≤x∧x≤9223372036854775807):w64 x=x:=by unfold w64; rw [IntKind.wrap_i64]; omega
theorem Yui.to {σ ρ:Type} {B:σ→Sum σ ρ→Prop} {r:ρ} (Inv:σ→Prop) (μ:σ→Nat) (h:∀ s,Inv s→B s (.inr r)∨∃ s',B s (.inl s')∧Inv s'∧μ s' < μ s) {s:σ} (hs:Inv s):Yui B s r:=by
 generalize hn:μ s=n
 induction n using Nat.strongRecOn generalizing s with
 | _ n ih =>
  rcases h s hs with h1 | ⟨s',h1,h2,h3⟩
  ·exact .done h1
  ·exact .next h1 (ih (μ s') (by omega) h2 rfl)
end Go.Proofs.YtadcichlnacagaaDoor.B
