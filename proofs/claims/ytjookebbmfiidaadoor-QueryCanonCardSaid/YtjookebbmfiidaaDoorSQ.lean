/- Forests: what the document's own 'Forest' and 'find' answer. Conditions: the list fits in memory. -/
import Derived.Test.YtjookebbmfiidaaDoorF2
set_option linter.unusedVariables false
namespace Go.Proofs.YtjookebbmfiidaaDoor.L
open Go.Proofs.YtjookebbmfiidaaDoor.B Go.Proofs.YtjookebbmfiidaaDoor.R
abbrev Fits (t : List Bd) : Prop := t.length ≤ 1954687338211
def noTree : Tre := ⟨(⟨(⟨#[]⟩ : ByteArray), false, (⟨#[]⟩ : ByteArray), 0, 0, 0, 0⟩ : Bd), [], 0⟩
theorem en_snoc (a : Nat) (l : List (Tre × Nat)) (x : Tre × Nat) : en a (l ++ [x]) = x.2 := by
 induction l generalizing a with
 | nil => rfl
 | cons y l ih => rw [List.cons_append, Sv]; exact ih _
theorem Xi0 {a j : Nat} {S : List (Tre × Nat)} (h : j < S.length) : en a (S.take (j + 1)) = S[j].2 := by rw [List.take_succ_eq_append_getElem h, en_snoc]
theorem At.nth {t : List Bd} {a j : Nat} {S : List (Tre × Nat)} (h : At t a S) (hj : j < S.length) : At t (en a (S.take j)) ((S[j].1, S[j].2) :: S.drop (j + 1)) ∧ a ≤ en a (S.take j) := by
 obtain ⟨h1, h2, _⟩ := At.skip _ _ rfl h j (by omega)
 rw [List.drop_eq_getElem_cons hj] at h1
 exact ⟨h1, h2⟩
theorem PR.skip {t : List Bd} {p : Int} {i : Nat} {q : Int} : ∀ (j : Nat) {a m : Nat} {S : List (Tre × Nat)}, At t a S → j ≤ m → m ≤ S.length → PR t (en a (S.take j)) (m - j) p i q → PR t a m p i q
 | 0, a, m, S, hS, hj, hm, h => by simpa [Vs] using h
 | j + 1, a, m + 1, (x, e) :: S, hS, hj, hm, h => by
  rw [List.take_succ_cons, Sv, show m + 1 - (j + 1) = m - j by omega] at h
  have h2 := PR.skip j hS.pos.2.2.2.2 (by omega) (by simpa using hm) h
  exact .next hS h2.le h2
theorem pick {a i : Nat} {S : List (Tre × Nat)} : ∀ m, m ≤ S.length → a ≤ i → i < en a (S.take m) → ∃ j, ∃ hj : j < m, ∃ hS : j < S.length, en a (S.take j) ≤ i ∧ i < S[j].2
 | 0, hm, ha, h => by simp [Vs] at h; omega
 | m + 1, hm, ha, h => by
  rcases Nat.lt_or_ge i (en a (S.take m)) with g | g
  ·obtain ⟨j, hj, hS, h1, h2⟩ := pick m (by omega) ha g
   exact ⟨j, by omega, hS, h1, h2⟩
  ·rw [Xi0 (by omega)] at h
   exact ⟨m, by omega, by omega, g, h⟩
theorem en_mono {t : List Bd} {a j k : Nat} {S : List (Tre × Nat)} (h : At t a S) (hjk : j ≤ k) (hk : k ≤ S.length) : en a (S.take j) ≤ en a (S.take k) := by
 obtain ⟨h1, _⟩ := At.skip _ _ rfl h j (by omega)
 have h2 := (At.skip _ _ rfl h1 (k - j) (by rw [List.length_drop]; omega)).2.1
 have e := en_app a (S.take k) j
 rw [List.take_take, Nat.min_eq_left hjk, List.drop_take] at e
 omega
end Go.Proofs.YtjookebbmfiidaaDoor.L
set_option linter.unusedVariables false
namespace Go.Proofs.YtjookebbmfiidaaDoor.L
open Go.Proofs.YtjookebbmfiidaaDoor.B Go.Proofs.YtjookebbmfiidaaDoor.R
def ParOf (t : List Bd) (i q : Int) : Prop := ∃ S0, sf t 0 = some S0 ∧ ∃ j : Nat, i = (j : Int) ∧ j < t.length ∧ PR t 0 S0.length (-1) j q
theorem ParOf.uniq {t : List Bd} {i q q' : Int} (h : ParOf t i q) (h' : ParOf t i q') : q = q' := by
 obtain ⟨S, h1, j, rfl, h2, h3⟩ := h
 obtain ⟨S', h1', j', h4, h2', h3'⟩ := h'
 obtain rfl : j = j' := by omega
 rw [h1] at h1'
 injection h1' with e
 subst e
 exact h3.uniq h3'
def inB (t : List Bd) (i : Int) : Bool := (sf t 0).isSome && (decide (0 ≤ i) && decide (i < (t.length : Int)))
theorem Xf4 {t : List Bd} {i : Int} : inB t i = true ↔ (∃ S, sf t 0 = some S) ∧ 0 ≤ i ∧ i < (t.length : Int) := by
 unfold inB
 rw [Bool.and_eq_true, Bool.and_eq_true, decide_eq_true_eq, decide_eq_true_eq, Option.isSome_iff_exists]
def sub (t : List Bd) (i : Nat) : Tre × Nat := ((sf (t.drop i) i).getD []).headD (noTree, 0)
theorem sub_at {t : List Bd} {i : Nat} {y : Tre × Nat} {r : List (Tre × Nat)} (h : At t i (y :: r)) : sub t i = y := by unfold sub; rw [h.2]; rfl
theorem At.sub {t : List Bd} {S : List (Tre × Nat)} (h : sf t 0 = some S) {i : Nat} (hi : i < t.length) : ∃ r, At t i (sub t i :: r) := by
 obtain ⟨S', h'⟩ := At.from (t := t) ⟨Nat.zero_le _, h⟩ i (by omega)
 match S', h' with
 | [], h' => have := h'.none; omega
 | y :: r, h' => exact ⟨r, by rw [sub_at h']; exact h'⟩
def X9 (t : List Bd) (i : Int) : List Int := if inB t i = true then (sub t i.toNat).1.kids.map (·.at_) else []
def Xkl (t : List Bd) : List Int := ((sf t 0).getD []).map (·.1.at_)
def numF (t : List Bd) : Int := if (sf t 0).isSome = true then ((Xkl t).length : Int) else -1
theorem has_ok {t : List Bd} {f : F8} (hf : Xct t f) (i : Int) : Q3 f i (inB t i) := by
 unfold Q3 inB
 rw [hf.2.2.2.1, hf.1]
 cases (sf t 0).isSome with
 | false => rw [if_neg (by simp), Bool.false_and]
 | true =>
  rw [if_pos rfl, Bool.true_and]
  by_cases h : i ≥ 0
  ·rw [if_pos h, decide_eq_true h, Bool.true_and]
  ·rw [if_neg h, decide_eq_false h, Bool.false_and]
theorem Xgy {t : List Bd} (hl : Fits t) {f : F8} (hf : Xct t f) {S0 : List (Tre × Nat)} (h0 : sf t 0 = some S0) {a m : Nat} {S : List (Tre × Nat)} (h : At t a S) (hm : m ≤ S.length) : Jm f (a : Int) (en a (S.take m) : Int) ((S.take m).map (·.1.at_)) := by
 have hSl : S.length ≤ t.length := by
  have := (sf_en _ _ h.2).2
  rw [List.length_drop] at this
  omega
 unfold Jm
 have key := Bv.upto (B := fun (s : Int × (List Int)) o => Fb (en a (S.take m) : Int) f s.1 s.2 o) (r := (S.take m).map (·.1.at_)) (fun j => ((en a (S.take j) : Int), (S.take j).map (·.1.at_))) m (fun j hj => ?_) ?_
 ·simpa [Vs] using key
 ·show Fb _ f (en a (S.take j) : Int) ((S.take j).map (·.1.at_)) _
  obtain ⟨a1, a2⟩ := h.nth (j := j) (by omega)
  obtain ⟨p1, p2, p3, p4, p5⟩ := a1.pos
  have hlt := en_mono h (show j + 1 ≤ m from hj) hm
  rw [Xi0 (by omega)] at hlt
  obtain ⟨_, x, e, r, q1, q2⟩ := hf.2.2.2.2 S0 h0 _ p1
  have hu := a1.uniq q1
  injection hu with e1 e2
  have e3 : (S[j]'(by omega)).2 = e := congrArg (·.2) e1
  have hE := hf.2.2.1
  unfold Fb
  rw [if_pos (by omega)]
  refine ⟨_, rfl, by simp; omega, by omega, ?_⟩
  rw [q2, Xi0 (by omega), e3, List.take_succ_eq_append_getElem (by omega), List.map_append]
  simp only [List.map_cons, List.map_nil]
  rw [p2]
 ·show Fb _ f (en a (S.take m) : Int) ((S.take m).map (·.1.at_)) _
  unfold Fb
  rw [if_neg (by omega)]
theorem roots_ok {t : List Bd} (hl : Fits t) (hw : Wf t) : Xc t (Xkl t) := by
 obtain ⟨f, f1, f2⟩ := Xfz (t := t) (by omega) hw
 unfold Xc Xkl
 refine ⟨f, f1, ?_⟩
 rw [f2.2.2.2.1]
 cases h : sf t 0 with
 | none => rw [if_neg (by simp)]; rfl
 | some S =>
  rw [if_pos (by rfl)]
  have hA : At t 0 S := ⟨Nat.zero_le _, h⟩
  have := Xgy hl f2 h hA (Nat.le_refl _)
  rw [List.take_length, hA.ens] at this
  exact ⟨_, this, rfl⟩
theorem Roots_ok {t : List Bd} (hl : Fits t) (hw : Wf t) : Xg t (numF t) := by
 obtain ⟨f, f1, f2⟩ := Xfz (t := t) (by omega) hw
 unfold Xg numF
 refine ⟨f, f1, ?_⟩
 rw [f2.2.2.2.1]
 by_cases h : (sf t 0).isSome = true
 ·rw [if_pos h, if_pos h]
  exact ⟨_, roots_ok hl hw, rfl⟩
 ·rw [if_neg h, if_neg h]
theorem Kids_ok {t : List Bd} (hl : Fits t) (hw : Wf t) (i : Int) : Yt t i (X9 t i) := by
 obtain ⟨f, f1, f2⟩ := Xfz (t := t) (by omega) hw
 unfold Yt X9
 refine ⟨f, f1, _, has_ok f2 i, ?_⟩
 cases h : inB t i with
 | false => rw [if_neg (by simp), if_neg (by simp)]
 | true =>
  obtain ⟨⟨S, hS⟩, h1, h2⟩ := Xf4.1 h
  obtain ⟨j, rfl⟩ : ∃ j : Nat, i = j := ⟨i.toNat, by omega⟩
  rw [if_pos rfl, if_pos rfl, Int.toNat_natCast]
  have hj : j < t.length := by omega
  obtain ⟨_, x, e, r, q1, q2⟩ := f2.2.2.2.2 S hS j hj
  obtain ⟨ts, k1, k2, k3, k4, k5⟩ := q1.kids hj
  refine ⟨by rw [f2.2.2.1]; omega, ?_⟩
  rw [sub_at q1, q2, Dx (by omega)]
  have := Xgy hl f2 hS k1 (m := ts.length) (by rw [List.length_append]; omega)
  rw [List.take_append_of_le_length (Nat.le_refl _), List.take_length, k3] at this
  exact ⟨_, this, by rw [k2, List.map_map]; rfl⟩
end Go.Proofs.YtjookebbmfiidaaDoor.L
