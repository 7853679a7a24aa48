/- The law TreeCovers. Conditions: sizes, numbers are ints. -/
import Derived.Test.YtmekgfcfooghnaaJ14
set_option linter.unusedVariables false
namespace Go.Proofs.Ytmekgfcfooghnaa.L
open Go.Proofs.Ytmekgfcfooghnaa.B Go.Proofs.Ytmekgfcfooghnaa.R
def covL (t : List api_Node) (q : Int) (a e : Nat) : List Nat := (List.range' a (e - a)).filter fun j => covN (ix t (j : Int)) q
theorem covL_app {t : List api_Node} {q : Int} {a b c : Nat} (h1 : a ≤ b) (h2 : b ≤ c) : covL t q a c = covL t q a b ++ covL t q b c := by
 unfold covL
 rw [← List.filter_append, show b = a + (b - a) by omega, show c - (a + (b - a)) = c - b by omega, show a + (b - a) - a = b - a by omega, show c - a = (b - a) + (c - b) by omega]
 congr 1
 have := List.range'_append (s := a) (m := b - a) (n := c - b) (step := 1)
 rw [Nat.one_mul] at this
 exact this.symm
theorem covL_one {t : List api_Node} {q : Int} {a : Nat} : covL t q a (a + 1) = if covN (ix t (a : Int)) q = true then [a] else [] := by
 unfold covL
 rw [Nat.add_sub_cancel_left]
 show List.filter _ [a] = _
 by_cases h : covN (ix t (a : Int)) q = true
 ·rw [if_pos h]; simp [h]
 ·rw [if_neg h]; simp [h]
theorem covL_nil {t : List api_Node} {q : Int} {a : Nat} : covL t q a a = [] := by unfold covL; rw [Nat.sub_self]; rfl
section
variable {t : List api_Node}
theorem row_kids (hn : Nice (keys t)) {a : Nat} {x : Tre} {e : Nat} {r ts : List (Tre × Nat)} (h : At t a ((x, e) :: r)) (hk : x.kids = ts.map (·.1)) : 0 < ts.length → Span (ix t (a : Int)).from_ (ix t (a : Int)).to (((ts ++ r).take ts.length).map fun y => key y.1.node) := fun h0 => by
 obtain ⟨_, _, q⟩ := row_at hn h
 rw [hk, List.map_map] at q
 rw [List.take_append_of_le_length (Nat.le_refl _), List.take_length]
 exact (q (by rw [List.length_map]; exact h0)).1
theorem row_hd (hn : Nice (keys t)) {a m : Nat} {x : Tre} {e : Nat} {r : List (Tre × Nat)} (h : At t a ((x, e) :: r)) {lo hi : Int} (hs : Span lo hi ((((x, e) :: r).take (m + 1)).map fun y => key y.1.node)) : lo ≤ (ix t (a : Int)).from_ ∧ (ix t (a : Int)).from_ ≤ (ix t (a : Int)).to ∧ Span (ix t (a : Int)).to hi ((r.take m).map fun y => key y.1.node) := by
 obtain ⟨k, _, _⟩ := row_at hn h
 rw [List.take_succ_cons, List.map_cons] at hs
 obtain ⟨s1, s2, s3⟩ := hs
 dsimp only at s1 s2 s3
 rw [k] at s1 s2 s3
 exact ⟨s1, s2, s3⟩
theorem cov_none (hn : Nice (keys t)) (q : Int) : ∀ (f a : Nat) {S : List (Tre × Nat)} {m : Nat} {lo hi : Int}, At t a S → m ≤ S.length → t.length - a < f → Span lo hi ((S.take m).map fun y => key y.1.node) → (q < lo ∨ hi ≤ q) → covL t q a (en a (S.take m)) = [] := by
 intro f
 induction f with
 | zero => intro a S m lo hi _ _ h; omega
 | succ f ih =>
  intro a S m lo hi h hm hf hs hq
  by_cases hlt : a < en a (S.take m)
  ·obtain ⟨x, e, r, ts, m', rfl, rfl, g1, g2, g3, g4, g5, g6, g7, g8, g9, g10, g11, g12, g13⟩ := seg_hd h hm hlt
   obtain ⟨s1, s2, s3⟩ := row_hd hn h hs
   have hle := s3.le
   have hend : e ≤ en a (((x, e) :: r).take (m' + 1)) := by rw [← g7]; exact (seg_end g6 g1).1
   rw [covL_app (b := a + 1) (by omega) (by omega), covL_app (a := a + 1) (b := e) (by omega) hend, covL_one, if_neg (by unfold covN; simp; omega), List.nil_append]
   have hk : covL t q (a + 1) e = [] := by
    by_cases h0 : 0 < ts.length
    ·have := ih (a + 1) g8 (by simp) (by omega) (row_kids hn h g10 h0) (by omega)
     rwa [g9] at this
    ·have : ts = [] := List.length_eq_zero_iff.1 (by omega)
     subst this
     rw [List.length_nil, List.take_zero, en_nil] at g9
     rw [← g9]; exact covL_nil
   rw [hk, List.nil_append]
   have := ih e g6 g1 (by omega) s3 (by omega)
   rwa [g7] at this
  ·have := (seg_end h hm).1
   rw [show en a (S.take m) = a by omega]
   exact covL_nil
theorem path_cov (hn : Nice (keys t)) (q : Int) : ∀ (f a : Nat) {S : List (Tre × Nat)} {m : Nat} {lo hi : Int}, At t a S → m ≤ S.length → t.length - a < f → Span lo hi ((S.take m).map fun y => key y.1.node) → pathG t q f a (en a (S.take m)) = covL t q a (en a (S.take m)) := by
 intro f
 induction f with
 | zero => intro a S m lo hi _ _ h; omega
 | succ f ih =>
  intro a S m lo hi h hm hf hs
  unfold pathG
  by_cases hlt : a < en a (S.take m)
  ·obtain ⟨x, e, r, ts, m', rfl, rfl, g1, g2, g3, g4, g5, g6, g7, g8, g9, g10, g11, g12, g13⟩ := seg_hd h hm hlt
   obtain ⟨s1, s2, s3⟩ := row_hd hn h hs
   have hend : e ≤ en a (((x, e) :: r).take (m' + 1)) := by rw [← g7]; exact (seg_end g6 g1).1
   rw [if_pos hlt, g5, covL_app (b := a + 1) (by omega) (by omega), covL_app (a := a + 1) (b := e) (by omega) hend, covL_one]
   by_cases hc : covN (ix t (a : Int)) q = true
   ·rw [if_pos hc, if_pos hc]
    have hc2 := hc
    unfold covN at hc2
    simp only [Bool.and_eq_true, decide_eq_true_eq] at hc2
    have hr := cov_none hn q (t.length + 1) e g6 g1 (by omega) s3 (by omega)
    rw [g7] at hr
    rw [hr, List.append_nil]
    by_cases h0 : 0 < ts.length
    ·have := ih (a + 1) g8 (by simp) (by omega) (row_kids hn h g10 h0)
     rw [g9] at this
     rw [this]; rfl
    ·have : ts = [] := List.length_eq_zero_iff.1 (by omega)
     subst this
     rw [List.length_nil, List.take_zero, en_nil] at g9
     rw [← g9, covL_nil]
     cases f with
     | zero => rfl
     | succ f => unfold pathG; rw [if_neg (by omega)]; rfl
   ·rw [if_neg hc, if_neg hc, List.nil_append]
    have hk : covL t q (a + 1) e = [] := by
     by_cases h0 : 0 < ts.length
     ·have := cov_none hn q (t.length + 1) (a + 1) g8 (by simp) (by omega) (row_kids hn h g10 h0) (by unfold covN at hc; simp at hc; omega)
      rwa [g9] at this
     ·have : ts = [] := List.length_eq_zero_iff.1 (by omega)
      subst this
      rw [List.length_nil, List.take_zero, en_nil] at g9
      rw [← g9]; exact covL_nil
    rw [hk, List.nil_append]
    have := ih e g6 g1 (by omega) s3
    rwa [g7] at this
  ·have := (seg_end h hm).1
   rw [if_neg hlt, show en a (S.take m) = a by omega]
   exact covL_nil.symm
def Chn (t : List api_Node) : Int → List Nat → Prop
 | _, [] => True
 | p, j :: l => parF t (j : Int) = p ∧ Chn t (j : Int) l
theorem path_chn (hl : Fits t) {S0 : List (Tre × Nat)} (h0 : sf t 0 = some S0) (q : Int) : ∀ (f a : Nat) {S : List (Tre × Nat)} {m : Nat} {p : Int}, At t a S → m ≤ S.length → (∀ j, j < m → parF t (en a (S.take j) : Int) = p) → Chn t p (pathG t q f a (en a (S.take m))) := by
 intro f
 induction f with
 | zero => intro a S m p _ _ _; trivial
 | succ f ih =>
  intro a S m p h hm hp
  unfold pathG
  by_cases hlt : a < en a (S.take m)
  ·obtain ⟨x, e, r, ts, m', rfl, rfl, g1, g2, g3, g4, g5, g6, g7, g8, g9, g10, g11, g12, g13⟩ := seg_hd h hm hlt
   rw [if_pos hlt, g5]
   by_cases hc : covN (ix t (a : Int)) q = true
   ·rw [if_pos hc]
    refine ⟨by have := hp 0 (by omega); rwa [List.take_zero, en_nil] at this, ?_⟩
    have := ih (a + 1) (S := ts ++ r) (m := ts.length) (p := (a : Int)) g8 (by simp) (fun j hj => ?_)
    ·rwa [g9] at this
    ·obtain ⟨us, r', k1, k2, k3, k4, k5⟩ := kids_at hl h0 g2
     have hlen : us.length = ts.length := by omega
     have hu := k1.uniq g8
     have hus : us = ts := (List.append_inj hu hlen).1
     have := (k5 j (by omega)).2.2.1
     rw [List.take_append_of_le_length (by omega), ← hus]
     exact this
   ·rw [if_neg hc]
    have := ih e (S := r) (m := m') (p := p) g6 g1 (fun j hj => ?_)
    ·rwa [g7] at this
    ·have := hp (j + 1) (by omega)
     rwa [List.take_succ_cons, en_cons] at this
  ·rw [if_neg hlt]; trivial
theorem Chn.at_ {p : Int} : ∀ {L : List Nat}, Chn t p L → ∀ j (hj : j < L.length), parF t (L[j] : Int) = if h : 0 < j then ((L[j - 1]'(by omega) : Nat) : Int) else p
 | x :: L, h, 0, _ => by rw [dif_neg (by omega)]; exact h.1
 | x :: L, h, j + 1, hj => by
  have := h.2.at_ j (by simpa using hj)
  have hj2 : j < L.length := by simpa using hj
  rw [dif_pos (by omega)]
  show parF t ((L[j]'hj2 : Nat) : Int) = _
  rw [this]
  by_cases g : 0 < j
  ·obtain ⟨k, rfl⟩ : ∃ k, j = k + 1 := ⟨j - 1, by omega⟩
   rw [dif_pos (by omega)]
   rfl
  ·obtain rfl : j = 0 := by omega
   rw [dif_neg (by omega)]
   rfl
theorem pathF_cov (hl : Fits t) (hn : Nice (keys t)) {lo hi : Int} (hs : Span lo hi (gr (keys t))) (q : Int) : ∃ L : List Nat, pathF t q = L.map (fun (n : Nat) => (n : Int)) ∧ L = covL t q 0 t.length ∧ Chn t (-1) L := by
 obtain ⟨S, h, s2, _, _, _⟩ := roots_key hn
 have hA : At t 0 S := ⟨Nat.zero_le _, h⟩
 have e : en 0 (S.take S.length) = t.length := by rw [List.take_length, hA.ens]
 have h1 := path_cov hn q (t.length + 1) 0 (m := S.length) hA (Nat.le_refl _) (by omega) (by rw [List.take_length, s2]; exact hs)
 have h2 := path_chn hl h q (t.length + 1) 0 (m := S.length) (p := -1) hA (Nat.le_refl _) (fun j hj => (root_iff hl h (hA.nth hj).1.pos.1).2 ⟨j, hj, rfl⟩)
 rw [e] at h1 h2
 refine ⟨_, ?_, h1, h2⟩
 unfold pathF
 rw [h]
 rfl
theorem covers_row {rr : (List Made) × (List api_Node) × Bool} {i : Nat} (hi : i < 2 ^ 40) (em : (ix rr.1 (i : Int)).t = t) (hl : Fits t) (hw : Wf t) (hn : Nice (keys t)) {lo hi : Int} (hs : Span lo hi (gr (keys t))) (q : Int) :
  Rounds (fun (s : (List Int) × Int) o => trellislaw15_TreeCovers_b2 rr (i : Int) q s.1 s.2 o) (([] : List Int), 0) (.inl ((i + 1 : Nat) : Int) : Sum Int Bool) := by
 obtain ⟨L, l1, l2, l3⟩ := pathF_cov hl hn hs q
 have hpl := pathF_len t q
 have hLl : L.length ≤ t.length := by rw [l1, List.length_map] at hpl; exact hpl
 have hgo : ∀ j, j < t.length → ∀ o, (if (ix t (j : Int)).from_ ≤ q then if q < (ix t (j : Int)).to then o = .inl ((covL t q 0 j).map (fun (n : Nat) => (n : Int)) ++ [(j : Int)], w64 ((j : Int) + 1)) else o = .inl ((covL t q 0 j).map (fun (n : Nat) => (n : Int)), w64 ((j : Int) + 1)) else o = .inl ((covL t q 0 j).map (fun (n : Nat) => (n : Int)), w64 ((j : Int) + 1))) → trellislaw15_TreeCovers_b2 rr (i : Int) q ((covL t q 0 j).map (fun (n : Nat) => (n : Int))) (j : Int) o := fun j hj o ho => by
  have hc : (covL t q 0 j).length ≤ j := by
   unfold covL
   have := List.length_filter_le (fun j : Nat => covN (ix t (j : Int)) q) (List.range' 0 (j - 0))
   rw [List.length_range'] at this
   omega
  unfold trellislaw15_TreeCovers_b2
  rw [em, if_pos (by omega)]
  refine ⟨by omega, ?_⟩
  by_cases g1 : (ix t (j : Int)).from_ ≤ q
  ·rw [if_pos g1] at ho ⊢
   by_cases g2 : q < (ix t (j : Int)).to
   ·rw [if_pos g2] at ho ⊢
    exact ⟨_, rfl, by rw [List.length_append, List.length_map, List.length_singleton]; omega, ho⟩
   ·rw [if_neg g2] at ho ⊢; exact ho
  ·rw [if_neg g1] at ho ⊢; exact ho
 refine Rounds.upto (B := fun (s : (List Int) × Int) o => trellislaw15_TreeCovers_b2 rr (i : Int) q s.1 s.2 o) (fun j : Nat => ((covL t q 0 j).map (fun (n : Nat) => (n : Int)), ((j : Nat) : Int))) t.length (fun j hj => ?_) ?_
 ·refine hgo j hj _ ?_
  have e := covL_app (t := t) (q := q) (Nat.zero_le j) (Nat.le_succ j)
  rw [Nat.succ_eq_add_one, covL_one] at e
  rw [e, w64_nat (by omega)]
  by_cases g1 : (ix t (j : Int)).from_ ≤ q
  ·rw [if_pos g1]
   by_cases g2 : q < (ix t (j : Int)).to
   ·rw [if_pos g2, if_pos (by unfold covN; rw [decide_eq_true g1, decide_eq_true g2]; rfl), List.map_append]; rfl
   ·rw [if_neg g2, if_neg (by unfold covN; rw [decide_eq_false g2]; simp), List.append_nil]; rfl
  ·rw [if_neg g1, if_neg (by unfold covN; rw [decide_eq_false g1]; simp), List.append_nil]; rfl
 ·show trellislaw15_TreeCovers_b2 rr (i : Int) q ((covL t q 0 t.length).map (fun (n : Nat) => (n : Int))) (t.length : Int) _
  unfold trellislaw15_TreeCovers_b2
  rw [em, if_neg (by omega)]
  refine ⟨_, Path_ok hl hw q, true, ?_, ?_⟩
  ·rw [l1, l2]
   refine sameInts_ok ?_
   rw [← l2, List.length_map]
   omega
  ·rw [if_pos rfl, l1]
   refine Rounds.cnt L.length (fun j hj => ?_) ?_
   ·have e1 : ix (L.map (fun (n : Nat) => (n : Int))) (j : Int) = (L[j] : Int) := by rw [ix_nat (by rw [List.length_map]; exact hj), List.getElem_map]
    have hp := l3.at_ j hj
    unfold trellislaw15_TreeCovers_b3
    rw [List.length_map, if_pos (by omega)]
    have j4 : ∀ x, parF t (L[j] : Int) = x → trellislaw15_TreeCovers_j4 (j : Int) (L.map (fun (n : Nat) => (n : Int))) rr (i : Int) x (.inl ((j : Int) + 1)) := fun x hx => by
     unfold trellislaw15_TreeCovers_j4
     rw [List.length_map, em, e1]
     refine ⟨by omega, _, Parent_ok hl hw _, ?_⟩
     rw [if_pos hx, w64_nat (by omega)]
    by_cases g : 0 < j
    ·rw [dif_pos g] at hp
     rw [if_pos (by omega), w64_id (by omega), show (j : Int) - 1 = ((j - 1 : Nat) : Int) by omega]
     have e2 : ix (L.map (fun (n : Nat) => (n : Int))) ((j - 1 : Nat) : Int) = (L[j - 1] : Int) := by rw [ix_nat (by rw [List.length_map]; omega), List.getElem_map]
     rw [e2]
     exact ⟨by omega, j4 _ hp⟩
    ·rw [dif_neg g] at hp
     rw [if_neg (by omega)]
     exact j4 _ hp
   ·unfold trellislaw15_TreeCovers_b3
    rw [List.length_map, if_neg (by omega), w64_nat (by omega)]
    rfl
end
theorem coversLaw {l : api_Lang} (hl : LgOk l) (hlh : ∀ p ∈ l.gram.prods, p.lhs ≤ 9223372036854775807) {steps : List trellislaw15_Op} (hs : OpOk steps) (q : Int) : trellislaw15_TreeCovers l steps q true := by
 unfold trellislaw15_TreeCovers
 refine ⟨true, alive_ok, ?_⟩
 rw [if_pos rfl]
 obtain ⟨r, h1, p1, p2, p3, E, hE⟩ := made_ok hl hlh hs
 refine ⟨r, h1, ?_⟩
 rw [if_pos p1]
 have hsl := wt_len r.1
 refine Rounds.cnt r.1.length (fun i hi => ?_) ?_
 ·obtain ⟨lo, a, c, en⟩ := hE.at hi
  have hwm := wt_mem (List.getElem_mem hi)
  have hf : Fits r.1[i].t := by show r.1[i].t.length ≤ _; omega
  unfold trellislaw15_TreeCovers_b1
  rw [if_pos (by omega)]
  exact ⟨by omega, covers_row (t := r.1[i].t) (by omega) (by rw [ix_nat hi]) hf en.wf en.nice en.span q⟩
 ·unfold trellislaw15_TreeCovers_b1
  rw [if_neg (by omega)]
end Go.Proofs.Ytmekgfcfooghnaa.L
