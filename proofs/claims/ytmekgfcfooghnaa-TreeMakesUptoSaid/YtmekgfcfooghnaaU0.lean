/- Plain words and their laws, for the relations. No condition. -/
import Derived.Test.YtmekgfcfooghnaaP0
import Derived.IntWalk
set_option linter.unusedVariables false
namespace Go.Proofs.Ytmekgfcfooghnaa.B
theorem Xqy {x:Int} (h:-9223372036854775808≤x∧x≤9223372036854775807):w64 x=x:=by unfold w64; rw [IntKind.wrap_i64]; omega
def Ye6 {σ ρ:Type} (st:σ→Sum σ ρ) (d:ρ):Nat→σ→ρ
 | 0,_=>d
 | k + 1,s=>match st s with
  | .inr r=>r
  | .inl s'=>Ye6 st d k s'
theorem Xmh.many {σ ρ:Type} {B:σ→Sum σ ρ→Prop} (st:σ→Sum σ ρ) (d:ρ) (Inv:σ→Prop) (μ:σ→Nat) (hB:∀ s,Inv s→B s (st s)) (hs:∀ s s',Inv s→st s=.inl s'→Inv s'∧μ s' < μ s) :
  ∀ (k:Nat) (s:σ),Inv s→μ s < k→Xmh B s (Ye6 st d k s)
 | 0,s,_,h=>by omega
 | k + 1,s,hi,h=>by
  have h1:=hB s hi
  unfold Ye6
  cases e:st s with
  | inr r=>rw [e] at h1; exact .done h1
  | inl s' =>
   rw [e] at h1
   obtain ⟨h2,h3⟩:=hs s s' hi e
   exact .next h1 (Xmh.many st d Inv μ hB hs k s' h2 (by omega))
theorem Xmh.to {σ ρ:Type} {B:σ→Sum σ ρ→Prop} {r:ρ} (Inv:σ→Prop) (μ:σ→Nat) (h:∀ s,Inv s→B s (.inr r)∨∃ s',B s (.inl s')∧Inv s'∧μ s' < μ s) {s:σ} (hs:Inv s):Xmh B s r:=by
 generalize hn:μ s=n
 induction n using Nat.strongRecOn generalizing s with
 | _ n ih =>
  rcases h s hs with h1 | ⟨s',h1,h2,h3⟩
  ·exact .done h1
  ·exact .next h1 (ih (μ s') (by omega) h2 rfl)
end Go.Proofs.Ytmekgfcfooghnaa.B
