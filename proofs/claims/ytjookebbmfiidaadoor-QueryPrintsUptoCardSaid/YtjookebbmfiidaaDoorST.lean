/- Queries: copies, comparisons. Condition: sizes. -/
import Derived.Test.YtjookebbmfiidaaDoorS6
set_option linter.unusedVariables false
namespace Go.Proofs.YtjookebbmfiidaaDoor.L
open Go.Proofs.YtjookebbmfiidaaDoor.B Go.Proofs.YtjookebbmfiidaaDoor.R
theorem ix_at {α : Type} [Inhabited α] {xs : List α} {i : Nat} (h : i < xs.length) : ix xs ((i : Nat) : Int) = xs[i] := by
 have := ix_get (xs := xs) (i := (i : Int)) ⟨by omega, by omega⟩
 rw [Int.toNat_natCast, List.getElem?_eq_getElem h] at this
 exact (Option.some.inj this).symm
theorem take_snocQ {α : Type} [Inhabited α] {xs : List α} {i : Nat} (h : i < xs.length) : xs.take i ++ [ix xs (i : Int)] = xs.take (i + 1) := by
 rw [ix_at h, List.take_succ_eq_append_getElem h]
theorem qtwin {q : api_Query} (h1 : q.nodes.length ≤ 2 ^ 40) (h2 : q.conds.length ≤ 2 ^ 40) : trellislaw20_twin q q := by
 have k2 : ∀ (d i : Nat), q.conds.length - i = d → i ≤ q.conds.length → Rounds (fun (s : Int × (List api_Cond)) o => trellislaw20_twin_b2 q q.nodes s.1 s.2 o) ((i : Int), q.conds.take i) (.inr q) := by
  intro d
  induction d with
  | zero =>
   intro i hd hi
   have : i = q.conds.length := by omega
   subst this
   refine .done ?_
   unfold trellislaw20_twin_b2
   rw [if_neg (Int.lt_irrefl _), List.take_length]
  | succ d ih =>
   intro i hd hi
   refine .next (s' := (((i + 1 : Nat) : Int), q.conds.take (i + 1))) ?_ (ih (i + 1) (by omega) (by omega))
   unfold trellislaw20_twin_b2
   rw [if_pos (by omega)]
   refine ⟨⟨by omega, by omega⟩, _, rfl, by rw [List.length_append, List.length_take, List.length_cons, List.length_nil]; omega, ?_⟩
   rw [w64_id (by omega), take_snocQ (by omega)]
   rfl
 have k1 : ∀ (d i : Nat), q.nodes.length - i = d → i ≤ q.nodes.length → Rounds (fun (s : Int × (List api_PatNode)) o => trellislaw20_twin_b1 q s.1 s.2 o) ((i : Int), q.nodes.take i) q := by
  intro d
  induction d with
  | zero =>
   intro i hd hi
   have : i = q.nodes.length := by omega
   subst this
   refine .done ?_
   unfold trellislaw20_twin_b1
   rw [if_neg (Int.lt_irrefl _), List.take_length]
   exact k2 _ 0 rfl (Nat.zero_le _)
  | succ d ih =>
   intro i hd hi
   refine .next (s' := (((i + 1 : Nat) : Int), q.nodes.take (i + 1))) ?_ (ih (i + 1) (by omega) (by omega))
   unfold trellislaw20_twin_b1
   rw [if_pos (by omega)]
   refine ⟨⟨by omega, by omega⟩, _, rfl, by rw [List.length_append, List.length_take, List.length_cons, List.length_nil]; omega, ?_⟩
   rw [w64_id (by omega), take_snocQ (by omega)]
   rfl
 exact k1 _ 0 rfl (Nat.zero_le _)
theorem qsame {q : api_Query} (h1 : q.nodes.length ≤ 2 ^ 40) (h2 : q.conds.length ≤ 2 ^ 40) : trellislaw20_same q q true := by
 unfold trellislaw20_same
 rw [if_pos rfl]
 unfold trellislaw20_same_j1
 rw [if_neg (by simp)]
 refine Rounds.to (fun i => 0 ≤ i ∧ i ≤ (q.nodes.length : Int)) (fun i => ((q.nodes.length : Int) - i).toNat) (fun i hi => ?_) ⟨by omega, by omega⟩
 unfold trellislaw20_same_b2
 by_cases hc : i < (q.nodes.length : Int)
 ·right
  refine ⟨i + 1, ?_, ⟨by omega, by omega⟩, by omega⟩
  rw [if_pos hc]
  refine ⟨⟨hi.1, hc⟩, ⟨hi.1, hc⟩, ?_⟩
  rw [if_pos rfl, w64_id (by omega)]
 ·left
  rw [if_neg hc]
  refine Rounds.to (fun i => 0 ≤ i ∧ i ≤ (q.conds.length : Int)) (fun i => ((q.conds.length : Int) - i).toNat) (fun i hi => ?_) ⟨by omega, by omega⟩
  unfold trellislaw20_same_b3
  by_cases hc : i < (q.conds.length : Int)
  ·right
   refine ⟨i + 1, ?_, ⟨by omega, by omega⟩, by omega⟩
   rw [if_pos hc]
   refine ⟨⟨hi.1, hc⟩, ⟨hi.1, hc⟩, ?_⟩
   rw [if_pos rfl, w64_id (by omega)]
  ·left
   rw [if_neg hc]
end Go.Proofs.YtjookebbmfiidaaDoor.L
