/- The document's own Way, Cover, Grow and Steps answer the same. Conditions: the list fits in memory, its numbers are ints. -/
import Derived.Test.YtoifgnogoddmlaaH10
namespace Go.Proofs.Ytoifgnogoddmlaa.L
open Go.Proofs.Ytoifgnogoddmlaa.B Go.Proofs.Ytoifgnogoddmlaa.R
def fstI (t : List api_Node) (q : api_Range) (l : List Int) : Int := (l.find? fun y => hasN (ix t y) q).getD (-1)
theorem first_ok {t : List api_Node} {q : api_Range} {l : List Int} (hl : l.length ≤ 2 ^ 60) (hm : ∀ y ∈ l, 0 ≤ y ∧ y < (t.length : Int)) : trellisref32_first t l q (fstI t q l) := by
  unfold trellisref32_first fstI
  have e : ∀ l : List Int, (l.find? fun y => hasN (ix t y) q).getD (-1) = runL (fun y (_ : Unit) => if hasN (ix t y) q = true then .inr y else .inl ()) (fun _ => (-1 : Int)) l () := by
    intro l
    induction l with
    | nil => rfl
    | cons y l ih =>
      by_cases h : hasN (ix t y) q = true
      · rw [List.find?_cons_of_pos (p := fun y => hasN (ix t y) q) h, runL_end (by rw [if_pos h])]; rfl
      · rw [List.find?_cons_of_neg (p := fun y => hasN (ix t y) q) h, runL_go (s' := ()) (by rw [if_neg h]), ih]
  rw [e]
  refine Rounds.row l (fun (_ : Unit) i => i) _ _ (fun _ _ => True) (fun i hi s _ => ?_) (fun s _ => ?_) trivial
  · have hy := hm _ (List.getElem_mem hi)
    have key : trellisref32_first_b1 l t q (i : Int) (if hasN (ix t l[i]) q = true then .inr l[i] else .inl ((i : Int) + 1)) := by
      unfold trellisref32_first_b1
      rw [if_pos (by omega), ix_nat hi, w64_nat (by omega)]
      refine ⟨by omega, hy, ?_⟩
      unfold hasN
      by_cases g1 : (ix t l[i]).from_ ≤ q.from_
      · rw [if_pos g1, decide_eq_true g1, Bool.true_and]
        by_cases g2 : (ix t l[i]).to ≥ q.to
        · rw [if_pos g2, decide_eq_true g2, if_pos rfl]
        · rw [if_neg g2, decide_eq_false g2, if_neg (by simp)]
      · rw [if_neg g1, decide_eq_false g1, Bool.false_and, if_neg (by simp)]
    refine ⟨fun s' hs => ⟨?_, trivial⟩, fun r hr => ?_⟩
    · split at hs
      · cases hs
      · rename_i g
        rw [if_neg g] at key
        exact key
    · split at hr
      · rename_i g
        rw [if_pos g] at key
        injection hr with hr
        subst hr
        exact key
      · cases hr
  · show trellisref32_first_b1 l t q (l.length : Int) _
    unfold trellisref32_first_b1
    rw [if_neg (by omega)]
theorem kidsF_at {t : List api_Node} {S0 : List (Tre × Nat)} (h0 : sf t 0 = some S0) {a : Nat} {x : Tre} {e : Nat} {r : List (Tre × Nat)} (h : At t a ((x, e) :: r)) : kidsF t (a : Int) = x.kids.map (·.at_) := by
  have := h.pos
  unfold kidsF
  rw [if_pos (inB_true.2 ⟨⟨S0, h0⟩, by omega, by omega⟩), Int.toNat_natCast, sub_at h]
theorem kidsF_mem {t : List api_Node} {i : Int} : ∀ x ∈ kidsF t i, 0 ≤ x ∧ x < (t.length : Int) := by
  intro x hx
  obtain ⟨p, e, g1, g2, g3⟩ := kid_in hx
  have hi := hx
  unfold kidsF at hi
  split at hi
  · rename_i h
    obtain ⟨⟨S, hS⟩, _, _⟩ := inB_true.1 h
    obtain ⟨r, hr⟩ := At.sub hS g1
    have := (show At t p (((sub t p).1, (sub t p).2) :: r) from hr).pos
    have e : endF t p = (sub t p).2 := rfl
    omega
  · cases hi
theorem kidsF_len {t : List api_Node} {i : Int} : (kidsF t i).length ≤ t.length := by
  unfold kidsF
  split
  · rename_i h
    rw [List.length_map]
    exact kids_len h
  · exact Nat.zero_le _
theorem refWay_run {t : List api_Node} (hl : Fits t) (q : api_Range) {S0 : List (Tre × Nat)} (h0 : sf t 0 = some S0) : ∀ (f a : Nat) {S : List (Tre × Nat)} {m : Nat} {out : List Int}, At t a S → m ≤ S.length → t.length - a < f → out.length ≤ a →
    Rounds (fun (s : (List Int) × Int) o => trellisref32_Way_b1 t q s.1 s.2 o) (out, fstI t q ((S.take m).map (·.1.at_))) (out ++ (wayG t q f a (en a (S.take m))).map fun (n : Nat) => (n : Int)) := by
  intro f
  induction f with
  | zero => intro a S m out _ _ h; omega
  | succ f ih =>
    intro a S m out h hm hf ho
    unfold wayG
    by_cases hlt : a < en a (S.take m)
    · rw [if_pos hlt]
      obtain ⟨x, e, r, ts, m', rfl, rfl, g1, g2, g3, g4, g5, g6, g7, g8, g9, g10⟩ := seg_head h hm hlt
      have hpos := h.pos
      rw [g5, List.take_succ_cons, List.map_cons]
      dsimp only
      rw [hpos.2.1]
      by_cases hh : hasN (ix t (a : Int)) q = true
      · rw [if_pos hh]
        have hi := ih (a + 1) (S := ts ++ r) (m := ts.length) (out := out ++ [(a : Int)]) g8 (by simp) (by omega) (by simp; omega)
        rw [g9] at hi
        have ef : fstI t q ((a : Int) :: (r.take m').map (·.1.at_)) = (a : Int) := by unfold fstI; rw [List.find?_cons_of_pos (p := fun y => hasN (ix t y) q) hh]; rfl
        rw [ef]
        refine Rounds.next (s' := (out ++ [(a : Int)], fstI t q (((ts ++ r).take ts.length).map (·.1.at_)))) ?_ ?_
        · show trellisref32_Way_b1 t q out (a : Int) _
          unfold trellisref32_Way_b1
          rw [if_pos (by omega)]
          refine ⟨_, rfl, by simp; omega, kidsF t (a : Int), ?_, fstI t q (kidsF t (a : Int)), first_ok (by have := kidsF_len (t := t) (i := (a : Int)); omega) kidsF_mem, ?_⟩
          · unfold trellisref32_Row
            rw [if_pos (by omega)]
            exact ⟨_, refKids_ok hl _, rfl⟩
          · obtain ⟨us, k1, k2, k3, k4, k5⟩ := h.kids hpos.1
            obtain rfl : us = ts := by
              have e1 := k1.uniq g8
              have e2 : us.length = ts.length := by rw [← g10, k2, List.length_map]
              exact (List.append_inj e1 e2).1
            rw [kidsF_at h0 h, k2, List.take_append_of_le_length (Nat.le_refl _), List.take_length, List.map_map]
            rfl
        · simpa [List.append_assoc] using hi
      · rw [if_neg hh]
        have hi := ih e (S := r) (m := m') (out := out) g6 g1 (by omega) (by omega)
        rw [g7] at hi
        have ef : fstI t q ((a : Int) :: (r.take m').map (·.1.at_)) = fstI t q ((r.take m').map (·.1.at_)) := by unfold fstI; rw [List.find?_cons_of_neg (p := fun y => hasN (ix t y) q) hh]
        rw [ef]
        exact hi
    · rw [if_neg hlt]
      obtain rfl : m = 0 := by
        rcases Nat.eq_zero_or_pos m with g | g
        · exact g
        · exact absurd ((At.skip _ a rfl h m hm).2.2 g) hlt
      refine Rounds.done ?_
      show trellisref32_Way_b1 t q out (-1) _
      unfold trellisref32_Way_b1
      rw [if_neg (by omega), List.map_nil, List.append_nil]
theorem rootsF_mem {t : List api_Node} : ∀ x ∈ rootsF t, 0 ≤ x ∧ x < (t.length : Int) := by
  intro x hx
  unfold rootsF at hx
  cases h : sf t 0 with
  | none => rw [h] at hx; cases hx
  | some S =>
    rw [h] at hx
    obtain ⟨y, hy, rfl⟩ := List.mem_map.1 hx
    obtain ⟨j, hj, rfl⟩ := List.getElem_of_mem hy
    have hj : j < S.length := hj
    obtain ⟨h1, _⟩ := At.nth (t := t) (a := 0) (S := S) ⟨Nat.zero_le _, h⟩ hj
    obtain ⟨p1, p2, p3, p4, p5⟩ := h1.pos
    show 0 ≤ (S[j].1).at_ ∧ (S[j].1).at_ < _
    omega
theorem rootsF_len {t : List api_Node} : (rootsF t).length ≤ t.length := by
  unfold rootsF
  cases h : sf t 0 with
  | none => exact Nat.zero_le _
  | some S =>
    have := (sf_en (l := t) (a := 0) h).2
    simpa using this
theorem refWay_ok {t : List api_Node} (hl : Fits t) (q : api_Range) : trellisref32_Way t q (wayI t q) := by
  have hlen := rootsF_len (t := t)
  refine ⟨rootsF t, ?_, fstI t q (rootsF t), first_ok (by omega) rootsF_mem, ?_⟩
  · unfold trellisref32_Row
    rw [if_neg (by omega)]
    exact refRoots_run hl
  · unfold wayI wayF
    cases h : sf t 0 with
    | none =>
      rw [if_neg (by simp)]
      refine Rounds.done ?_
      have e : fstI t q (rootsF t) = -1 := by unfold rootsF; rw [h]; rfl
      rw [e]
      show trellisref32_Way_b1 t q [] (-1) _
      unfold trellisref32_Way_b1
      rw [if_neg (by omega)]
      rfl
    | some S =>
      simp only [Option.isSome_some, if_true]
      have hA : At t 0 S := ⟨Nat.zero_le _, h⟩
      have := refWay_run hl q h (t.length + 1) 0 (m := S.length) (out := []) hA (Nat.le_refl _) (by omega) (Nat.le_refl _)
      rw [List.take_length, hA.ens] at this
      have e : rootsF t = S.map (·.1.at_) := by unfold rootsF; rw [h]; rfl
      rw [e]
      simpa using this
theorem refTaken_ok (x : api_Range) : trellisref32_taken x (tkn x) := by
  unfold trellisref32_taken tkn
  by_cases h : x.to < x.from_
  · rw [if_pos h, show max x.from_ x.to = x.from_ from Int.max_eq_left (by omega)]
  · rw [if_neg h, show max x.from_ x.to = x.to from Int.max_eq_right (by omega)]
theorem refCover_ok {t : List api_Node} (hl : Fits t) (x : api_Range) : trellisref32_Cover t x (coverF t x) := by
  unfold trellisref32_Cover
  refine ⟨tkn x, refTaken_ok x, _, refWay_ok hl _, ?_⟩
  have hn := wayI_len t (tkn x)
  unfold coverF
  unfold wayI at hn ⊢
  rcases List.eq_nil_or_concat (wayF t (tkn x)) with h | ⟨l, v, h⟩
  · rw [h, if_pos (by simp)]; rfl
  · rw [List.concat_eq_append] at h
    rw [h] at hn ⊢
    simp only [List.map_append, List.map_cons, List.map_nil, List.length_append, List.length_map, List.length_cons, List.length_nil] at hn ⊢
    rw [if_neg (by omega)]
    have e0 : w64 (((l.length + (0 + 1) : Nat) : Int) - 1) = (l.length : Int) := by rw [w64_id (by omega)]; omega
    rw [e0]
    refine ⟨by omega, ?_⟩
    have := ix_snoc (ys := l.map fun (n : Nat) => (n : Int)) (y := (v : Int))
    rw [List.length_map] at this
    rw [this]
    simp [lastD]
theorem refGrow_ok {t : List api_Node} (hl : Fits t) (x : api_Range) : trellisref32_Grow t x (growF t x) := by
  have hn := wayI_len t (tkn x)
  have hm := wayI_mem (t := t) (q := tkn x)
  refine ⟨tkn x, refTaken_ok x, tkn x, refTaken_ok x, _, refWay_ok hl _, ?_⟩
  unfold growF growB
  generalize wayI t (tkn x) = l at *
  have g : ∀ j, j ≤ l.length → ∃ b : api_Range, b = (((l.take j).reverse.map fun y => byt (ix t y)).find? (fun z => decide (z ≠ tkn x))).getD (tkn x) := fun j _ => ⟨_, rfl⟩
  have key := Rounds.upto (B := fun (s : Int × Int × Int) o => trellisref32_Grow_b1 l t x s.1 s.2.1 s.2.2 o) (r := ((l.reverse.map fun y => byt (ix t y)).find? (fun z => decide (z ≠ tkn x))).getD (tkn x))
    (fun j => ((j : Int), ((((l.take j).reverse.map fun y => byt (ix t y)).find? (fun z => decide (z ≠ tkn x))).getD (tkn x)).from_, ((((l.take j).reverse.map fun y => byt (ix t y)).find? (fun z => decide (z ≠ tkn x))).getD (tkn x)).to)) l.length (fun j hj => ?_) ?_
  · simpa using key
  · show trellisref32_Grow_b1 l t x (j : Int) _ _ _
    have hy := hm _ (List.getElem_mem hj)
    rw [List.take_succ_eq_append_getElem hj, List.reverse_append, List.reverse_singleton, List.singleton_append, List.map_cons]
    unfold trellisref32_Grow_b1
    rw [if_pos (by omega), ix_nat hj, w64_nat (by omega)]
    refine ⟨by omega, hy, _, refTaken_ok x, ?_⟩
    by_cases h1 : (ix t l[j]).from_ = (tkn x).from_
    · rw [if_pos h1]
      refine ⟨_, refTaken_ok x, ?_⟩
      by_cases h2 : (ix t l[j]).to = (tkn x).to
      · have e : byt (ix t l[j]) = tkn x := by unfold byt; rw [h1, h2]
        rw [if_pos h2, List.find?_cons_of_neg (by rw [e]; simp)]
        rfl
      · have e : byt (ix t l[j]) ≠ tkn x := fun e => h2 (congrArg (·.to) e)
        rw [if_neg h2, List.find?_cons_of_pos (by simpa using e)]
        rfl
    · have e : byt (ix t l[j]) ≠ tkn x := fun e => h1 (congrArg (·.from_) e)
      rw [if_neg h1, List.find?_cons_of_pos (by simpa using e)]
      rfl
  · show trellisref32_Grow_b1 l t x (l.length : Int) _ _ _
    unfold trellisref32_Grow_b1
    rw [if_neg (by omega), List.take_length]
theorem refSteps_run {t : List api_Node} (hl : Fits t) {q : api_Range} {l : List api_Range} (h : GS t q l) : ∀ (pre : List api_Range), (pre.length + 1 + l.length) * 16 ≤ 211106232532992 → Rounds (fun (s : (List api_Range)) o => trellisref32_Steps_b1 t s o) (pre ++ [q]) (pre ++ q :: l) := by
  induction h with
  | @fin q h =>
    intro pre hp
    refine Rounds.done ?_
    show trellisref32_Steps_b1 t (pre ++ [q]) _
    unfold trellisref32_Steps_b1
    have e0 : w64 (((pre ++ [q]).length : Int) - 1) = (pre.length : Int) := by rw [w64_id (by simp at hp ⊢; omega)]; simp
    rw [e0]
    refine ⟨by simp; omega, _, refGrow_ok hl _, ?_⟩
    rw [ix_snoc, h, if_pos rfl]
  | @go q b l h h1 k ih =>
    intro pre hp
    rw [List.length_cons] at hp
    refine Rounds.next (s' := (pre ++ [q]) ++ [b]) ?_ ?_
    · show trellisref32_Steps_b1 t (pre ++ [q]) _
      unfold trellisref32_Steps_b1
      have e0 : w64 (((pre ++ [q]).length : Int) - 1) = (pre.length : Int) := by rw [w64_id (by simp at hp ⊢; omega)]; simp
      rw [e0]
      refine ⟨by simp; omega, _, refGrow_ok hl _, ?_⟩
      rw [ix_snoc, h, if_neg h1]
      exact ⟨_, rfl, by simp; omega, rfl⟩
    · have := ih (pre ++ [q]) (by simp; omega)
      have e2 : pre ++ [q] ++ b :: l = pre ++ q :: b :: l := by simp
      rw [e2] at this
      exact this
/-- Steps of the program and of the document -/
theorem steps_both {t : List api_Node} (hl : Fits t) (hw : Wf t) (x : api_Range) : ∃ l, l.length ≤ t.length + 1 ∧ choose_Steps t x l ∧ trellisref32_Steps t x l := by
  obtain ⟨l, h1, h2, h3⟩ := Steps_ok hl hw x
  refine ⟨_, by rw [List.length_cons]; omega, h3, tkn x, refTaken_ok x, ?_⟩
  have := refSteps_run hl h1 [] (by simp; omega)
  simpa using this
end Go.Proofs.Ytoifgnogoddmlaa.L
