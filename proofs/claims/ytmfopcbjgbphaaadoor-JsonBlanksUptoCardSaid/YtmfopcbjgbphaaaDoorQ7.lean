/- JSON: copies, lists that are written over; the law JsonAsks. Condition: sizes. -/
import Derived.Test.YtmfopcbjgbphaaaDoorQ6
set_option linter.unusedVariables false
namespace Go.Proofs.YtmfopcbjgbphaaaDoor.L
open Go.Proofs.YtmfopcbjgbphaaaDoor.B Go.Proofs.YtmfopcbjgbphaaaDoor.R
def ArgN (B : Nat) (v : List JNd) : Prop := v.length * 48 ≤ 140737488351232 ∧ ∀ x ∈ v, x.key.size ≤ B ∧ x.text.size ≤ B ∧ In64 x.kids
abbrev Arg (v : List JNd) : Prop := ArgN 140737488351232 v
theorem ArgN.szN {B : Nat} {v : List JNd} (h : ArgN B v) (hB : B ≤ 2 ^ 48) : Sz v := ⟨by have := h.1; omega, fun x hx => by have := h.2 x hx; omega⟩
theorem ArgN.up {B C : Nat} {v : List JNd} (h : ArgN B v) (hB : B ≤ C) : ArgN C v := ⟨h.1, fun x hx => by have := h.2 x hx; exact ⟨by omega, by omega, this.2.2⟩⟩
theorem Arg.sz {v : List JNd} (h : Arg v) : Sz v := h.szN (by omega)
section
variable {v : List JNd}
abbrev mark : JNd := ⟨0, ⟨#[109, 97, 114, 107]⟩, ⟨#[]⟩, 0⟩
theorem same_ok {w : List JNd} (hv : v.length ≤ 2 ^ 42) : tl_same v w (decide (v = w)) := by
 unfold tl_same
 by_cases hl : v.length = w.length
 ·rw [if_pos (by omega)]
  by_cases e : v = w
  ·subst e
   rw [decide_eq_true rfl]
   refine Rounds.cnt v.length (fun i hi => ?_) ?_
   ·unfold tl_same_b1
    rw [if_pos (by omega)]
    refine ⟨by omega, by omega, ?_⟩
    rw [if_pos rfl, w64_nat (by omega)]
   ·unfold tl_same_b1
    rw [if_neg (by omega)]
  ·rw [decide_eq_false e]
   have h1 : v.all (fun _ => true) = true := List.all_eq_true.2 fun _ _ => rfl
   have key : ∃ n, n < v.length ∧ (∀ i, i < n → ix v (i : Int) = ix w (i : Int)) ∧ ¬ ix v (n : Int) = ix w (n : Int) := by
    have ex : ∃ n, n < v.length ∧ ¬ ix v (n : Int) = ix w (n : Int) := by
     refine Classical.byContradiction fun hno => e (List.ext_getElem hl fun i h1 h2 => ?_)
     have : ix v (i : Int) = ix w (i : Int) := Classical.byContradiction fun h => hno ⟨i, h1, h⟩
     rwa [ix_nat h1, ix_nat h2] at this
    obtain ⟨n, hn⟩ := ex
    induction n using Nat.strongRecOn with
    | _ n ih =>
     by_cases g : ∀ i, i < n → ix v (i : Int) = ix w (i : Int)
     ·exact ⟨n, hn.1, g, hn.2⟩
     ·obtain ⟨i, hi⟩ := Classical.not_forall.1 g
      obtain ⟨hi1, hi2⟩ := Classical.not_imp.1 hi
      exact ih i hi1 ⟨by omega, hi2⟩
   obtain ⟨n, n1, n2, n3⟩ := key
   refine Rounds.cnt n (fun i hi => ?_) ?_
   ·unfold tl_same_b1
    rw [if_pos (by omega)]
    refine ⟨by omega, by omega, ?_⟩
    rw [if_pos (n2 i hi), w64_nat (by omega)]
   ·unfold tl_same_b1
    rw [if_pos (by omega)]
    refine ⟨by omega, by omega, ?_⟩
    rw [if_neg n3]
 ·rw [if_neg (by omega), decide_eq_false (fun e => hl (by rw [e]))]
end
end Go.Proofs.YtmfopcbjgbphaaaDoor.L
