/- Plain words and their laws, for the relations. No condition. -/
import Derived.Test.YtbejkaeidnajkaaP0
import Derived.IntWalk
set_option linter.unusedVariables false
namespace Go.Proofs.Ytbejkaeidnajkaa.B
theorem w64_id {x : Int} (h : -9223372036854775808 ≤ x ∧ x ≤ 9223372036854775807) : w64 x = x := by unfold w64; rw [IntKind.wrap_i64]; omega
theorem u8_id {x : Int} (h : 0 ≤ x ∧ x ≤ 255) : IntKind.u8.wrap x = x := by rw [IntKind.wrap_u8]; omega
theorem bt_range (x : ByteArray) (i : Int) : 0 ≤ bt x i ∧ bt x i ≤ 255 := by
 unfold bt
 cases h : x[i.toNat]? with
 | none => simp
 | some b => have := b.toNat_lt; simp; omega
def stepsF {σ ρ : Type} (st : σ → Sum σ ρ) (d : ρ) : Nat → σ → ρ
 | 0, _ => d
 | k + 1, s => match st s with
  | .inr r => r
  | .inl s' => stepsF st d k s'
theorem Rounds.many {σ ρ : Type} {B : σ → Sum σ ρ → Prop} (st : σ → Sum σ ρ) (d : ρ) (Inv : σ → Prop) (μ : σ → Nat) (hB : ∀ s, Inv s → B s (st s)) (hs : ∀ s s', Inv s → st s = .inl s' → Inv s' ∧ μ s' < μ s) :
  ∀ (k : Nat) (s : σ), Inv s → μ s < k → Rounds B s (stepsF st d k s)
 | 0, s, _, h => by omega
 | k + 1, s, hi, h => by
  have h1 := hB s hi
  unfold stepsF
  cases e : st s with
  | inr r => rw [e] at h1; exact .done h1
  | inl s' =>
   rw [e] at h1
   obtain ⟨h2, h3⟩ := hs s s' hi e
   exact .next h1 (Rounds.many st d Inv μ hB hs k s' h2 (by omega))
theorem Rounds.to {σ ρ : Type} {B : σ → Sum σ ρ → Prop} {r : ρ} (Inv : σ → Prop) (μ : σ → Nat) (h : ∀ s, Inv s → B s (.inr r) ∨ ∃ s', B s (.inl s') ∧ Inv s' ∧ μ s' < μ s) {s : σ} (hs : Inv s) : Rounds B s r := by
 generalize hn : μ s = n
 induction n using Nat.strongRecOn generalizing s with
 | _ n ih =>
  rcases h s hs with h1 | ⟨s', h1, h2, h3⟩
  ·exact .done h1
  ·exact .next h1 (ih (μ s') (by omega) h2 rfl)
def stop (p : Int → Bool) (x : ByteArray) (i : Int) : Int :=
 if h : i < (x.size : Int) ∧ p (bt x i) = true then stop p x (i + 1) else i
 termination_by ((x.size : Int) - i).toNat
 decreasing_by omega
theorem stop_go {p : Int → Bool} {x : ByteArray} {i : Int} (h : i < (x.size : Int)) (hp : p (bt x i) = true) : stop p x i = stop p x (i + 1) := by
 rw [stop, dif_pos ⟨h, hp⟩]
theorem stop_end {p : Int → Bool} {x : ByteArray} {i : Int} (h : ¬ (i < (x.size : Int) ∧ p (bt x i) = true)) : stop p x i = i := by
 rw [stop, dif_neg h]
theorem stop_bd {p : Int → Bool} {x : ByteArray} : ∀ {i : Int}, i ≤ (x.size : Int) → i ≤ stop p x i ∧ stop p x i ≤ (x.size : Int) := by
 intro i hi
 generalize hn : ((x.size : Int) - i).toNat = n
 induction n generalizing i with
 | zero => rw [stop_end (by omega)]; omega
 | succ n ih =>
  by_cases h : i < (x.size : Int) ∧ p (bt x i) = true
  ·rw [stop_go h.1 h.2]
   have := ih (i := i + 1) (by omega) (by omega)
   omega
  ·rw [stop_end h]; omega
def inB (s : ByteArray) (b : Int) : Bool := s.data.toList.any fun c => (c.toNat : Int) == b
end Go.Proofs.Ytbejkaeidnajkaa.B
