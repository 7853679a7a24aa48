/- Forests: how many roots, parents, children, as plain functions; the core. Conditions: the list fits in memory, its numbers are ints. -/
import Derived.Test.YtmekgfcfooghnaaF3
set_option linter.unusedVariables false
namespace Go.Proofs.Ytmekgfcfooghnaa.L
open Go.Proofs.Ytmekgfcfooghnaa.B Go.Proofs.Ytmekgfcfooghnaa.R
def ParOf (t : List api_Node) (i q : Int) : Prop := ∃ S0, sf t 0 = some S0 ∧ ∃ j : Nat, i = (j : Int) ∧ j < t.length ∧ PR t 0 S0.length (-1) j q
theorem ParOf.uniq {t : List api_Node} {i q q' : Int} (h : ParOf t i q) (h' : ParOf t i q') : q = q' := by
  obtain ⟨S, h1, j, rfl, h2, h3⟩ := h
  obtain ⟨S', h1', j', h4, h2', h3'⟩ := h'
  obtain rfl : j = j' := by omega
  rw [h1] at h1'
  injection h1' with e
  subst e
  exact h3.uniq h3'
open Classical in
noncomputable def parF (t : List api_Node) (i : Int) : Int := if h : ∃ q, ParOf t i q then h.choose else -1
theorem parF_eq {t : List api_Node} {i q : Int} (h : ParOf t i q) : parF t i = q := by
  have h' : ∃ q, ParOf t i q := ⟨q, h⟩
  unfold parF
  rw [dif_pos h']
  exact h'.choose_spec.uniq h
theorem parF_no {t : List api_Node} {i : Int} (h : ¬ ∃ q, ParOf t i q) : parF t i = -1 := by unfold parF; rw [dif_neg h]
def inB (t : List api_Node) (i : Int) : Bool := (sf t 0).isSome && (decide (0 ≤ i) && decide (i < (t.length : Int)))
theorem inB_true {t : List api_Node} {i : Int} : inB t i = true ↔ (∃ S, sf t 0 = some S) ∧ 0 ≤ i ∧ i < (t.length : Int) := by
  unfold inB
  rw [Bool.and_eq_true, Bool.and_eq_true, decide_eq_true_eq, decide_eq_true_eq, Option.isSome_iff_exists]
theorem parF_out {t : List api_Node} {i : Int} (h : inB t i = false) : parF t i = -1 := parF_no fun ⟨q, S, h1, j, h2, h3, _⟩ => by
  have : inB t i = true := inB_true.2 ⟨⟨S, h1⟩, by omega, by omega⟩
  rw [h] at this; cases this
/-- the subtree at a place, the place behind it -/
def sub (t : List api_Node) (i : Nat) : Tre × Nat := ((sf (t.drop i) i).getD []).headD (noTree, 0)
theorem sub_at {t : List api_Node} {i : Nat} {y : Tre × Nat} {r : List (Tre × Nat)} (h : At t i (y :: r)) : sub t i = y := by unfold sub; rw [h.2]; rfl
theorem At.sub {t : List api_Node} {S : List (Tre × Nat)} (h : sf t 0 = some S) {i : Nat} (hi : i < t.length) : ∃ r, At t i (sub t i :: r) := by
  obtain ⟨S', h'⟩ := At.from (t := t) ⟨Nat.zero_le _, h⟩ i (by omega)
  match S', h' with
  | [], h' => have := h'.none; omega
  | y :: r, h' => exact ⟨r, by rw [sub_at h']; exact h'⟩
def endF (t : List api_Node) (i : Nat) : Nat := (sub t i).2
def kidsF (t : List api_Node) (i : Int) : List Int := if inB t i = true then (sub t i.toNat).1.kids.map (·.at_) else []
def rootsF (t : List api_Node) : List Int := ((sf t 0).getD []).map (·.1.at_)
def numF (t : List api_Node) : Int := if (sf t 0).isSome = true then ((rootsF t).length : Int) else -1
theorem has_ok {t : List api_Node} {f : tree_forest} (hf : Planted t f) (i : Int) : tree_forest_has f i (inB t i) := by
  unfold tree_forest_has inB
  rw [hf.2.2.2.1, hf.1]
  cases (sf t 0).isSome with
  | false => rw [if_neg (by simp), Bool.false_and]
  | true =>
    rw [if_pos rfl, Bool.true_and]
    by_cases h : i ≥ 0
    · rw [if_pos h, decide_eq_true h, Bool.true_and]
    · rw [if_neg h, decide_eq_false h, Bool.false_and]
/-- what the document's 'find' finds -/
theorem find_at {t : List api_Node} (hl : Fits t) (i : Int) : ∃ l ok, trellisref15_Forest t (l, ok) ∧ ((inB t i = false ∧ trellisref15_find l i (-1) (noTree, -1, false)) ∨ (inB t i = true ∧ trellisref15_find l i (-1) ((sub t i.toNat).1, parF t i, true))) := by
  cases h : sf t 0 with
  | none =>
    refine ⟨_, _, forest_no hl h, .inl ⟨?_, find_nil _ _⟩⟩
    unfold inB; rw [h]; rfl
  | some S =>
    have hA : At t 0 S := ⟨Nat.zero_le _, h⟩
    refine ⟨_, _, forest_ok hl h, ?_⟩
    obtain ⟨g1, g2⟩ := find_ok hl _ 0 hA (Nat.le_refl _) (Nat.lt_succ_self _)
    rw [List.take_length, hA.ens] at g1 g2
    by_cases hi : 0 ≤ i ∧ i < (t.length : Int)
    · obtain ⟨j, rfl⟩ : ∃ j : Nat, i = j := ⟨i.toNat, by omega⟩
      obtain ⟨x, e, r, q, q1, q2, q3⟩ := g2 j (-1) (by omega) (by omega)
      refine .inr ⟨inB_true.2 ⟨⟨S, h⟩, hi.1, hi.2⟩, ?_⟩
      rw [Int.toNat_natCast, sub_at q1, parF_eq ⟨S, h, j, rfl, by omega, q2⟩]
      exact ⟨_, q3⟩
    · refine .inl ⟨?_, _, g1 i (-1) (by omega)⟩
      cases hb : inB t i with
      | false => rfl
      | true => exact absurd (inB_true.1 hb).2 hi
theorem kids_len {t : List api_Node} {i : Int} (h : inB t i = true) : (sub t i.toNat).1.kids.length ≤ t.length := by
  obtain ⟨⟨S, hS⟩, h1, h2⟩ := inB_true.1 h
  obtain ⟨j, rfl⟩ : ∃ j : Nat, i = j := ⟨i.toNat, by omega⟩
  obtain ⟨r, hr⟩ := At.sub hS (i := j) (by omega)
  obtain ⟨ts, k1, k2, k3, k4, k5⟩ := (show At t j (((sub t j).1, (sub t j).2) :: r) from hr).kids (by omega)
  have := (sf_en _ _ k1.2).2
  rw [List.length_drop, List.length_append] at this
  rw [Int.toNat_natCast, k2, List.length_map]
  omega
end Go.Proofs.Ytmekgfcfooghnaa.L
