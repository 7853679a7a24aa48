/- Queries: the codes of errors. No condition. -/
import Derived.Test.YtjookebbmfiidaaDoorS4
import Derived.Test.YtjookebbmfiidaaDoorP0
import Derived.IntWalk
set_option linter.unusedVariables false
namespace Go.Proofs.YtjookebbmfiidaaDoor.L
open Go.Proofs.YtjookebbmfiidaaDoor.R
end Go.Proofs.YtjookebbmfiidaaDoor.L
set_option linter.unusedVariables false
namespace Go.Proofs.YtjookebbmfiidaaDoor.B
theorem w64_id {x : Int} (h : -9223372036854775808 ≤ x ∧ x ≤ 9223372036854775807) : w64 x = x := by unfold w64; rw [IntKind.wrap_i64]; omega
theorem u8_id {x : Int} (h : 0 ≤ x ∧ x ≤ 255) : IntKind.u8.wrap x = x := by rw [IntKind.wrap_u8]; omega
theorem bt_range (x : ByteArray) (i : Int) : 0 ≤ bt x i ∧ bt x i ≤ 255 := by
 unfold bt
 cases h : x[i.toNat]? with
 | none => simp
 | some b => have := b.toNat_lt; simp; omega
theorem Rounds.to {σ ρ : Type} {B : σ → Sum σ ρ → Prop} {r : ρ} (Inv : σ → Prop) (μ : σ → Nat) (h : ∀ s, Inv s → B s (.inr r) ∨ ∃ s', B s (.inl s') ∧ Inv s' ∧ μ s' < μ s) {s : σ} (hs : Inv s) : Rounds B s r := by
 generalize hn : μ s = n
 induction n using Nat.strongRecOn generalizing s with
 | _ n ih =>
  rcases h s hs with h1 | ⟨s', h1, h2, h3⟩
  ·exact .done h1
  ·exact .next h1 (ih (μ s') (by omega) h2 rfl)
end Go.Proofs.YtjookebbmfiidaaDoor.B
