/- Forests: how many roots, parents, children, as plain functions; that the program and the document's own functions answer these. Conditions: the list fits in memory, its numbers are ints. -/
import Derived.Test.YtmekgfcfooghnaaF3
set_option linter.unusedVariables false
namespace Go.Proofs.Ytmekgfcfooghnaa.L
open Go.Proofs.Ytmekgfcfooghnaa.B Go.Proofs.Ytmekgfcfooghnaa.R
def ParOf (t : List api_Node) (i q : Int) : Prop := ∃ S0, sf t 0 = some S0 ∧ ∃ j : Nat, i = (j : Int) ∧ j < t.length ∧ PR t 0 S0.length (-1) j q
theorem ParOf.uniq {t : List api_Node} {i q q' : Int} (h : ParOf t i q) (h' : ParOf t i q') : q = q' := by
 obtain ⟨S, h1, j, rfl, h2, h3⟩ := h
 obtain ⟨S', h1', j', h4, h2', h3'⟩ := h'
 obtain rfl : j = j' := by omega
 rw [h1] at h1'
 injection h1' with e
 subst e
 exact h3.uniq h3'
open Classical in
noncomputable def parF (t : List api_Node) (i : Int) : Int := if h : ∃ q, ParOf t i q then h.choose else -1
theorem parF_eq {t : List api_Node} {i q : Int} (h : ParOf t i q) : parF t i = q := by
 have h' : ∃ q, ParOf t i q := ⟨q, h⟩
 unfold parF
 rw [dif_pos h']
 exact h'.choose_spec.uniq h
theorem parF_no {t : List api_Node} {i : Int} (h : ¬ ∃ q, ParOf t i q) : parF t i = -1 := by unfold parF; rw [dif_neg h]
def inB (t : List api_Node) (i : Int) : Bool := (sf t 0).isSome && (decide (0 ≤ i) && decide (i < (t.length : Int)))
theorem inB_true {t : List api_Node} {i : Int} : inB t i = true ↔ (∃ S, sf t 0 = some S) ∧ 0 ≤ i ∧ i < (t.length : Int) := by
 unfold inB
 rw [Bool.and_eq_true, Bool.and_eq_true, decide_eq_true_eq, decide_eq_true_eq, Option.isSome_iff_exists]
theorem parF_out {t : List api_Node} {i : Int} (h : inB t i = false) : parF t i = -1 := parF_no fun ⟨q, S, h1, j, h2, h3, _⟩ => by
 have : inB t i = true := inB_true.2 ⟨⟨S, h1⟩, by omega, by omega⟩
 rw [h] at this; cases this
def sub (t : List api_Node) (i : Nat) : Tre × Nat := ((sf (t.drop i) i).getD []).headD (noTree, 0)
theorem sub_at {t : List api_Node} {i : Nat} {y : Tre × Nat} {r : List (Tre × Nat)} (h : At t i (y :: r)) : sub t i = y := by unfold sub; rw [h.2]; rfl
theorem At.sub {t : List api_Node} {S : List (Tre × Nat)} (h : sf t 0 = some S) {i : Nat} (hi : i < t.length) : ∃ r, At t i (sub t i :: r) := by
 obtain ⟨S', h'⟩ := At.from (t := t) ⟨Nat.zero_le _, h⟩ i (by omega)
 match S', h' with
 | [], h' => have := h'.none; omega
 | y :: r, h' => exact ⟨r, by rw [sub_at h']; exact h'⟩
def endF (t : List api_Node) (i : Nat) : Nat := (sub t i).2
def kidsF (t : List api_Node) (i : Int) : List Int := if inB t i = true then (sub t i.toNat).1.kids.map (·.at_) else []
def rootsF (t : List api_Node) : List Int := ((sf t 0).getD []).map (·.1.at_)
def numF (t : List api_Node) : Int := if (sf t 0).isSome = true then ((rootsF t).length : Int) else -1
theorem has_ok {t : List api_Node} {f : tree_forest} (hf : Planted t f) (i : Int) : tree_forest_has f i (inB t i) := by
 unfold tree_forest_has inB
 rw [hf.2.2.2.1, hf.1]
 cases (sf t 0).isSome with
 | false => rw [if_neg (by simp), Bool.false_and]
 | true =>
  rw [if_pos rfl, Bool.true_and]
  by_cases h : i ≥ 0
  ·rw [if_pos h, decide_eq_true h, Bool.true_and]
  ·rw [if_neg h, decide_eq_false h, Bool.false_and]
theorem beside_ok {t : List api_Node} (hl : Fits t) {f : tree_forest} (hf : Planted t f) {S0 : List (Tre × Nat)} (h0 : sf t 0 = some S0) {a m : Nat} {S : List (Tre × Nat)} (h : At t a S) (hm : m ≤ S.length) : tree_forest_beside f (a : Int) (en a (S.take m) : Int) ((S.take m).map (·.1.at_)) := by
 have hSl : S.length ≤ t.length := by
  have := (sf_en _ _ h.2).2
  rw [List.length_drop] at this
  omega
 unfold tree_forest_beside
 have key := Rounds.upto (B := fun (s : Int × (List Int)) o => tree_forest_beside_b1 (en a (S.take m) : Int) f s.1 s.2 o) (r := (S.take m).map (·.1.at_)) (fun j => ((en a (S.take j) : Int), (S.take j).map (·.1.at_))) m (fun j hj => ?_) ?_
 ·simpa [en_nil] using key
 ·show tree_forest_beside_b1 _ f (en a (S.take j) : Int) ((S.take j).map (·.1.at_)) _
  obtain ⟨a1, a2⟩ := h.nth (j := j) (by omega)
  obtain ⟨p1, p2, p3, p4, p5⟩ := a1.pos
  have hlt := en_mono h (show j + 1 ≤ m from hj) hm
  rw [en_take (by omega)] at hlt
  obtain ⟨_, x, e, r, q1, q2⟩ := hf.2.2.2.2 S0 h0 _ p1
  have hu := a1.uniq q1
  injection hu with e1 e2
  have e3 : (S[j]'(by omega)).2 = e := congrArg (·.2) e1
  have hE := hf.2.2.1
  unfold tree_forest_beside_b1
  rw [if_pos (by omega)]
  refine ⟨_, rfl, by simp; omega, by omega, ?_⟩
  rw [q2, en_take (by omega), e3, List.take_succ_eq_append_getElem (by omega), List.map_append]
  simp only [List.map_cons, List.map_nil]
  rw [p2]
 ·show tree_forest_beside_b1 _ f (en a (S.take m) : Int) ((S.take m).map (·.1.at_)) _
  unfold tree_forest_beside_b1
  rw [if_neg (by omega)]
theorem roots_ok {t : List api_Node} (hl : Fits t) (hw : Wf t) : tree_roots t (rootsF t) := by
 obtain ⟨f, f1, f2⟩ := plant_ok (t := t) (by omega) hw
 unfold tree_roots rootsF
 refine ⟨f, f1, ?_⟩
 rw [f2.2.2.2.1]
 cases h : sf t 0 with
 | none => rw [if_neg (by simp)]; rfl
 | some S =>
  rw [if_pos (by rfl)]
  have hA : At t 0 S := ⟨Nat.zero_le _, h⟩
  have := beside_ok hl f2 h hA (Nat.le_refl _)
  rw [List.take_length, hA.ens] at this
  exact ⟨_, this, rfl⟩
theorem Roots_ok {t : List api_Node} (hl : Fits t) (hw : Wf t) : tree_Roots t (numF t) := by
 obtain ⟨f, f1, f2⟩ := plant_ok (t := t) (by omega) hw
 unfold tree_Roots numF
 refine ⟨f, f1, ?_⟩
 rw [f2.2.2.2.1]
 by_cases h : (sf t 0).isSome = true
 ·rw [if_pos h, if_pos h]
  exact ⟨_, roots_ok hl hw, rfl⟩
 ·rw [if_neg h, if_neg h]
theorem Parent_ok {t : List api_Node} (hl : Fits t) (hw : Wf t) (i : Int) : tree_Parent t i (parF t i) := by
 obtain ⟨f, f1, f2⟩ := plant_ok (t := t) (by omega) hw
 unfold tree_Parent
 refine ⟨f, f1, _, has_ok f2 i, ?_⟩
 cases h : inB t i with
 | false => rw [if_neg (by simp), parF_out h]
 | true =>
  obtain ⟨⟨S, hS⟩, h1, h2⟩ := inB_true.1 h
  obtain ⟨j, rfl⟩ : ∃ j : Nat, i = j := ⟨i.toNat, by omega⟩
  rw [if_pos rfl]
  refine ⟨by rw [f2.2.1]; omega, ?_⟩
  exact parF_eq ⟨S, hS, j, rfl, by omega, (f2.2.2.2.2 S hS j (by omega)).1⟩
theorem Kids_ok {t : List api_Node} (hl : Fits t) (hw : Wf t) (i : Int) : tree_Kids t i (kidsF t i) := by
 obtain ⟨f, f1, f2⟩ := plant_ok (t := t) (by omega) hw
 unfold tree_Kids kidsF
 refine ⟨f, f1, _, has_ok f2 i, ?_⟩
 cases h : inB t i with
 | false => rw [if_neg (by simp), if_neg (by simp)]
 | true =>
  obtain ⟨⟨S, hS⟩, h1, h2⟩ := inB_true.1 h
  obtain ⟨j, rfl⟩ : ∃ j : Nat, i = j := ⟨i.toNat, by omega⟩
  rw [if_pos rfl, if_pos rfl, Int.toNat_natCast]
  have hj : j < t.length := by omega
  obtain ⟨_, x, e, r, q1, q2⟩ := f2.2.2.2.2 S hS j hj
  obtain ⟨ts, k1, k2, k3, k4, k5⟩ := q1.kids hj
  refine ⟨by rw [f2.2.2.1]; omega, ?_⟩
  rw [sub_at q1, q2, w64_id (by omega)]
  have := beside_ok hl f2 hS k1 (m := ts.length) (by rw [List.length_append]; omega)
  rw [List.take_append_of_le_length (Nat.le_refl _), List.take_length, k3] at this
  exact ⟨_, this, by rw [k2, List.map_map]; rfl⟩
theorem refRoots_ok {t : List api_Node} (hl : Fits t) : trellisref15_Roots t (numF t) := by
 unfold trellisref15_Roots numF rootsF
 cases h : sf t 0 with
 | none => exact ⟨_, forest_no hl h, by rw [if_neg (by simp)]; rfl⟩
 | some S => exact ⟨_, forest_ok hl h, by rw [if_pos rfl]; simp⟩
theorem find_at {t : List api_Node} (hl : Fits t) (i : Int) : ∃ l ok, trellisref15_Forest t (l, ok) ∧ ((inB t i = false ∧ trellisref15_find l i (-1) (noTree, -1, false)) ∨ (inB t i = true ∧ trellisref15_find l i (-1) ((sub t i.toNat).1, parF t i, true))) := by
 cases h : sf t 0 with
 | none =>
  refine ⟨_, _, forest_no hl h, .inl ⟨?_, find_nil _ _⟩⟩
  unfold inB; rw [h]; rfl
 | some S =>
  have hA : At t 0 S := ⟨Nat.zero_le _, h⟩
  refine ⟨_, _, forest_ok hl h, ?_⟩
  obtain ⟨g1, g2⟩ := find_ok hl _ 0 hA (Nat.le_refl _) (Nat.lt_succ_self _)
  rw [List.take_length, hA.ens] at g1 g2
  by_cases hi : 0 ≤ i ∧ i < (t.length : Int)
  ·obtain ⟨j, rfl⟩ : ∃ j : Nat, i = j := ⟨i.toNat, by omega⟩
   obtain ⟨x, e, r, q, q1, q2, q3⟩ := g2 j (-1) (by omega) (by omega)
   refine .inr ⟨inB_true.2 ⟨⟨S, h⟩, hi.1, hi.2⟩, ?_⟩
   rw [Int.toNat_natCast, sub_at q1, parF_eq ⟨S, h, j, rfl, by omega, q2⟩]
   exact ⟨_, q3⟩
  ·refine .inl ⟨?_, _, g1 i (-1) (by omega)⟩
   cases hb : inB t i with
   | false => rfl
   | true => exact absurd (inB_true.1 hb).2 hi
theorem refParent_ok {t : List api_Node} (hl : Fits t) (i : Int) : trellisref15_Parent t i (parF t i) := by
 obtain ⟨l, ok, h1, ⟨h2, h3⟩ | ⟨h2, h3⟩⟩ := find_at hl i
 ·exact ⟨_, h1, _, h3, parF_out h2⟩
 ·exact ⟨_, h1, _, h3, rfl⟩
theorem kids_len {t : List api_Node} {i : Int} (h : inB t i = true) : (sub t i.toNat).1.kids.length ≤ t.length := by
 obtain ⟨⟨S, hS⟩, h1, h2⟩ := inB_true.1 h
 obtain ⟨j, rfl⟩ : ∃ j : Nat, i = j := ⟨i.toNat, by omega⟩
 obtain ⟨r, hr⟩ := At.sub hS (i := j) (by omega)
 obtain ⟨ts, k1, k2, k3, k4, k5⟩ := (show At t j (((sub t j).1, (sub t j).2) :: r) from hr).kids (by omega)
 have := (sf_en _ _ k1.2).2
 rw [List.length_drop, List.length_append] at this
 rw [Int.toNat_natCast, k2, List.length_map]
 omega
theorem refKids_run {x : Tre} {q : Int} {b : Bool} (hl : x.kids.length ≤ 1954687338211) : Rounds (fun (s : (List Int) × Int) o => trellisref15_Kids_b1 (x, q, b) s.1 s.2 o) (([] : List Int), 0) (x.kids.map (·.at_)) := by
 have key := Rounds.upto (B := fun (s : (List Int) × Int) o => trellisref15_Kids_b1 (x, q, b) s.1 s.2 o) (r := x.kids.map (·.at_)) (fun j => ((x.kids.take j).map (·.at_), (j : Int))) x.kids.length (fun j hj => ?_) ?_
 ·simpa using key
 ·show trellisref15_Kids_b1 (x, q, b) ((x.kids.take j).map (·.at_)) (j : Int) _
  unfold trellisref15_Kids_b1
  dsimp only
  rw [if_pos (by omega), w64_nat (by omega), ix_nat hj]
  refine ⟨by omega, _, rfl, by simp; omega, ?_⟩
  rw [List.take_succ_eq_append_getElem hj, List.map_append]
  rfl
 ·show trellisref15_Kids_b1 (x, q, b) ((x.kids.take x.kids.length).map (·.at_)) (x.kids.length : Int) _
  unfold trellisref15_Kids_b1
  dsimp only
  rw [if_neg (by omega), List.take_length]
theorem refKids_ok {t : List api_Node} (hl : Fits t) (i : Int) : trellisref15_Kids t i (kidsF t i) := by
 obtain ⟨l, ok, h1, ⟨h2, h3⟩ | ⟨h2, h3⟩⟩ := find_at hl i
 ·refine ⟨_, h1, _, h3, ?_⟩
  unfold kidsF
  rw [h2, if_neg (by simp)]
  exact refKids_run (x := noTree) (by simp [noTree])
 ·refine ⟨_, h1, _, h3, ?_⟩
  unfold kidsF
  rw [if_pos h2]
  exact refKids_run (by have := kids_len h2; omega)
end Go.Proofs.Ytmekgfcfooghnaa.L
