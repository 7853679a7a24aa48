/- Forests: cursors of the program and of the document; the law TreeWalks. Conditions: the list fits in memory, its numbers are ints. -/
import Derived.Test.YtmekgfcfooghnaaF4
set_option linter.unusedVariables false
namespace Go.Proofs.Ytmekgfcfooghnaa.L
open Go.Proofs.Ytmekgfcfooghnaa.B Go.Proofs.Ytmekgfcfooghnaa.R
theorem PR.kid {t : List api_Node} {a m : Nat} {p : Int} {i : Nat} {q : Int} (h : PR t a m p i q) : ∀ {S}, At t a S → m ≤ S.length → (q = p ∧ ∃ j, j < m ∧ en a (S.take j) = i) ∨ ∃ (b : Nat) (x : Tre) (e : Nat) (r ts : List (Tre × Nat)), q = (b : Int) ∧ At t b ((x, e) :: r) ∧ At t (b + 1) (ts ++ r) ∧ x.kids = ts.map (·.1) ∧ ∃ j, j < ts.length ∧ en (b + 1) (ts.take j) = i := by
 induction h with
 | here => intro S hS hm; exact .inl ⟨rfl, 0, by omega, by simp [en_nil]⟩
 | @down a m p x e r i q h h1 h2 k ih =>
  intro S hS hm
  right
  obtain ⟨ts, k1, k2, k3, k4, k5⟩ := h.kids h.pos.1
  rw [k2, List.length_map] at ih
  rcases ih k1 (by rw [List.length_append]; omega) with ⟨rfl, j, hj, g⟩ | g
  ·rw [List.take_append_of_le_length (by omega)] at g
   exact ⟨a, x, e, r, ts, rfl, h, k1, k2, j, hj, g⟩
  ·exact g
 | @next a m p x e r i q h h1 k ih =>
  intro S hS hm
  obtain rfl := hS.uniq h
  simp only [List.length_cons] at hm
  rcases ih h.pos.2.2.2.2 (by omega) with ⟨rfl, j, hj, g⟩ | g
  ·exact .inl ⟨rfl, j + 1, by omega, by rw [List.take_succ_cons, en_cons]; exact g⟩
  ·exact .inr g
theorem en_lt {t : List api_Node} {a j k : Nat} {S : List (Tre × Nat)} (h : At t a S) (hjk : j < k) (hk : k ≤ S.length) : en a (S.take j) < en a (S.take k) := by
 have h1 := (h.nth (j := j) (by omega)).1.pos
 have h2 := en_mono h (show j + 1 ≤ k from hjk) hk
 rw [en_take (by omega)] at h2
 omega
theorem PR.sub {t : List api_Node} {a m : Nat} {p : Int} {b : Nat} {q : Int} (h : PR t a m p b q) : ∀ {x : Tre} {e : Nat} {r ts : List (Tre × Nat)} {j i : Nat}, At t b ((x, e) :: r) → At t (b + 1) (ts ++ r) → x.kids = ts.map (·.1) → j < ts.length → en (b + 1) (ts.take j) = i → (∀ {S}, At t a S → m ≤ S.length → PR t a m p i (b : Int)) := by
 induction h with
 | @here a m p =>
  intro x e r ts j i b1 b2 b3 hj hi S hS hm
  obtain ⟨ts2, k1, k2, k3, k4, k5⟩ := b1.kids b1.pos.1
  have hlen : ts.length = ts2.length := by have := congrArg List.length (b3.symm.trans k2); simpa using this
  have hts := b2.uniq k1
  have e1 : ts = ts2 := by
   have := congrArg (List.take ts.length) hts
   rwa [List.take_append_of_le_length (Nat.le_refl _), List.take_length, hlen, List.take_append_of_le_length (Nat.le_refl _), List.take_length] at this
  subst e1
  have lt := en_lt b2 (j := j) (k := ts.length) hj (by rw [List.length_append]; omega)
  rw [List.take_append_of_le_length (by omega), List.take_append_of_le_length (Nat.le_refl _), List.take_length, k3, hi] at lt
  have ge := (At.skip _ _ rfl b2 j (by rw [List.length_append]; omega)).2.1
  rw [List.take_append_of_le_length (by omega), hi] at ge
  refine .down b1 (by omega) lt ?_
  rw [b3, List.length_map]
  obtain ⟨mj, hmj⟩ : ∃ mj, ts.length - j = mj + 1 := ⟨ts.length - j - 1, by omega⟩
  exact PR.skip j b2 (by omega) (by rw [List.length_append]; omega) (by rw [List.take_append_of_le_length (by omega), hi, hmj]; exact .here)
 | @down a m p x0 e0 r0 b q h h1 h2 k ih =>
  intro x e r ts j i b1 b2 b3 hj hi S hS hm
  obtain ⟨ts2, k1, k2, k3, k4, k5⟩ := h.kids h.pos.1
  have hm2 : x0.kids.length ≤ (ts2 ++ r0).length := by rw [k2, List.length_map, List.length_append]; omega
  have g := ih b1 b2 b3 hj hi k1 hm2
  have lt := g.lt k1 hm2
  rw [k2, List.length_map, List.take_append_of_le_length (Nat.le_refl _), List.take_length, k3] at lt
  exact .down h (by have := g.le; omega) lt g
 | @next a m p x0 e0 r0 b q h h1 k ih =>
  intro x e r ts j i b1 b2 b3 hj hi S hS hm
  obtain rfl := hS.uniq h
  simp only [List.length_cons] at hm
  have g := ih b1 b2 b3 hj hi h.pos.2.2.2.2 (by omega)
  exact .next h g.le g
structure RowOf' (t : List api_Node) (i : Nat) (q : Int) (a m j : Nat) (S : List (Tre × Nat)) : Prop where
 at_ : At t a S
 hm : m ≤ S.length
 hj : j < m
 hi : en a (S.take j) = i
 all : ∀ i' : Nat, ParOf t (i' : Int) q ↔ ∃ j', j' < m ∧ en a (S.take j') = i'
theorem row_of {t : List api_Node} (hl : Fits t) {S0 : List (Tre × Nat)} (h0 : sf t 0 = some S0) {i : Nat} {q : Int} (h : PR t 0 S0.length (-1) i q) :
  (q = -1 ∧ ∃ j, RowOf' t i q 0 S0.length j S0) ∨ ∃ (b : Nat) (ts r : List (Tre × Nat)), q = (b : Int) ∧ b < t.length ∧ (sub t b).1.kids = ts.map (·.1) ∧ ∃ j, RowOf' t i q (b + 1) ts.length j (ts ++ r) := by
 have hA : At t 0 S0 := ⟨Nat.zero_le _, h0⟩
 have key : ∀ (i' : Nat) (q' : Int), ParOf t (i' : Int) q' → PR t 0 S0.length (-1) i' q' := fun i' q' hp => by
  obtain ⟨S, g1, j, g2, g3, g4⟩ := hp
  rw [h0] at g1
  injection g1 with g1
  subst g1
  obtain rfl : i' = j := by omega
  exact g4
 rcases h.kid hA (Nat.le_refl _) with ⟨rfl, j, hj, g⟩ | ⟨b, x, e, r, ts, rfl, b1, b2, b3, j, hj, g⟩
 ·refine .inl ⟨rfl, j, hA, Nat.le_refl _, hj, g, fun i' => ⟨fun hp => ?_, fun ⟨j', hj', g'⟩ => ?_⟩⟩
  ·rcases (key _ _ hp).kid hA (Nat.le_refl _) with ⟨_, g⟩ | ⟨b, x, e, r, ts, hb, _⟩
   ·exact g
   ·omega
  ·have p := (hA.nth (j := j') hj').1.pos.1
   obtain ⟨mj, hmj⟩ : ∃ mj, S0.length - j' = mj + 1 := ⟨S0.length - j' - 1, by omega⟩
   exact ⟨S0, h0, i', rfl, by omega, PR.skip j' hA (by omega) (Nat.le_refl _) (by rw [hmj, g']; exact .here)⟩
 ·refine .inr ⟨b, ts, r, rfl, b1.pos.1, by rw [sub_at b1]; exact b3, j, b2, by rw [List.length_append]; omega, hj, by rw [List.take_append_of_le_length (by omega)]; exact g, fun i' => ⟨fun hp => ?_, fun ⟨j', hj', g'⟩ => ?_⟩⟩
  ·rcases (key _ _ hp).kid hA (Nat.le_refl _) with ⟨hb, _⟩ | ⟨b', x', e', r', ts', hb, c1, c2, c3, j', hj', g'⟩
   ·omega
   ·obtain rfl : b = b' := by omega
    have hu := b1.uniq c1
    injection hu with u1 u2
    injection u1 with u1 u3
    subst u1 u2
    rw [b3] at c3
    have hlen : ts.length = ts'.length := by have := congrArg List.length c3; simpa using this
    have hts := b2.uniq c2
    have : ts = ts' := by
     have := congrArg (List.take ts.length) hts
     rw [List.take_append_of_le_length (Nat.le_refl _), List.take_length, hlen, List.take_append_of_le_length (Nat.le_refl _), List.take_length] at this
     exact this
    subst this
    exact ⟨j', hj', by rw [List.take_append_of_le_length (by omega)]; exact g'⟩
  ·rw [List.take_append_of_le_length (by omega)] at g'
   -- b's own parent, then down
   have hb1 := b1.pos
   have hA2 : ∃ q', PR t 0 S0.length (-1) b q' := by
    obtain ⟨_, _, _, q', _, g2, _⟩ := (find_ok hl _ 0 hA (Nat.le_refl _) (Nat.lt_succ_self _)).2 b (-1) (Nat.zero_le _) (by rw [List.take_length, hA.ens]; exact hb1.1)
    exact ⟨q', g2⟩
   obtain ⟨q', hq'⟩ := hA2
   have p1 := (b2.nth (j := j') (by rw [List.length_append]; omega)).1.pos.1
   rw [List.take_append_of_le_length (by omega), g'] at p1
   exact ⟨S0, h0, i', rfl, p1, hq'.sub b1 b2 b3 hj' g' hA (Nat.le_refl _)⟩
theorem par_at {t : List api_Node} {S0 : List (Tre × Nat)} (hl : Fits t) (h0 : sf t 0 = some S0) {i : Nat} (hi : i < t.length) : PR t 0 S0.length (-1) i (parF t (i : Int)) ∧ ParOf t (i : Int) (parF t (i : Int)) := by
 have hA : At t 0 S0 := ⟨Nat.zero_le _, h0⟩
 obtain ⟨_, _, _, q', _, g2, _⟩ := (find_ok hl _ 0 hA (Nat.le_refl _) (Nat.lt_succ_self _)).2 i (-1) (Nat.zero_le _) (by rw [List.take_length, hA.ens]; exact hi)
 have hp : ParOf t (i : Int) q' := ⟨S0, h0, i, rfl, hi, g2⟩
 rw [parF_eq hp]
 exact ⟨g2, hp⟩
def Ok (t : List api_Node) (p : Int) : Prop := p = -1 ∨ inB t p = true
structure Both (t : List api_Node) (f : tree_forest) (l : List Tre) : Prop where
 pl : Planted t f
 fo : ∃ ok, trellisref15_Forest t (l, ok)
 find : ∀ i, (inB t i = false ∧ trellisref15_find l i (-1) (noTree, -1, false)) ∨ (inB t i = true ∧ trellisref15_find l i (-1) ((sub t i.toNat).1, parF t i, true))
 roots : ∀ S, sf t 0 = some S → l = S.map (·.1)
 none : sf t 0 = none → l = []
theorem both_ok {t : List api_Node} (hl : Fits t) {f : tree_forest} (hf : Planted t f) : ∃ l, Both t f l := by
 cases h : sf t 0 with
 | none =>
  refine ⟨[], hf, ⟨_, forest_no hl h⟩, fun i => .inl ⟨?_, find_nil _ _⟩, fun S e => (by rw [h] at e; cases e), fun _ => rfl⟩
  unfold inB; rw [h]; rfl
 | some S =>
  have hA : At t 0 S := ⟨Nat.zero_le _, h⟩
  refine ⟨S.map (·.1), hf, ⟨_, forest_ok hl h⟩, fun i => ?_, fun S' e => (by rw [h] at e; injection e with e; rw [e]), fun e => (by rw [h] at e; cases e)⟩
  obtain ⟨g1, g2⟩ := find_ok hl _ 0 hA (Nat.le_refl _) (Nat.lt_succ_self _)
  rw [List.take_length, hA.ens] at g1 g2
  by_cases hi : 0 ≤ i ∧ i < (t.length : Int)
  ·obtain ⟨j, rfl⟩ : ∃ j : Nat, i = j := ⟨i.toNat, by omega⟩
   obtain ⟨x, e, r, q, q1, q2, q3⟩ := g2 j (-1) (by omega) (by omega)
   refine .inr ⟨inB_true.2 ⟨⟨S, h⟩, hi.1, hi.2⟩, ?_⟩
   rw [Int.toNat_natCast, sub_at q1, parF_eq ⟨S, h, j, rfl, by omega, q2⟩]
   exact ⟨_, q3⟩
  ·refine .inl ⟨?_, _, g1 i (-1) (by omega)⟩
   cases hb : inB t i with
   | false => rfl
   | true => exact absurd (inB_true.1 hb).2 hi
abbrev cur (f : tree_forest) (p : Int) : tree_Cursor := ⟨⟨f, p⟩⟩
abbrev mdl (l : List Tre) (p : Int) : trellisref15_Model := ⟨l, p⟩
theorem walk_ok {t : List api_Node} (hl : Fits t) (hw : Wf t) : ∃ f l p, Both t f l ∧ Ok t p ∧ tree_Walk t (cur f p) ∧ trellisref15_Walk t (mdl l p) := by
 obtain ⟨f, f1, f2⟩ := plant_ok (t := t) (by omega) hw
 obtain ⟨l, hb⟩ := both_ok hl f2
 have pw : ∀ p, (if inB t 0 = true then p = 0 else p = -1) → tree_Walk t (cur f p) := fun p hp => by
  unfold tree_Walk
  refine ⟨_, rfl, by rw [List.nil_append]; omega, f, by rw [List.nil_append]; exact f1, _, has_ok f2 0, ?_⟩
  by_cases h : inB t 0 = true
  ·rw [if_pos h] at hp
   subst hp
   exact ⟨(true, ⟨f, 0⟩), by unfold tree_stand_to; rw [if_pos h, h], rfl⟩
  ·rw [if_neg h] at hp
   subst hp
   rw [Bool.not_eq_true] at h
   exact ⟨(false, ⟨f, -1⟩), by unfold tree_stand_to; rw [h, if_neg (by simp)], rfl⟩
 obtain ⟨ok, hF⟩ := hb.fo
 by_cases h : inB t 0 = true
 ·refine ⟨f, l, 0, hb, .inr h, pw 0 (by rw [if_pos h]), ?_⟩
  obtain ⟨⟨S, hS⟩, _, h2⟩ := inB_true.1 h
  unfold trellisref15_Walk
  refine ⟨_, hF, ?_⟩
  rw [if_pos]
  rw [hb.roots S hS]
  have hA : At t 0 S := ⟨Nat.zero_le _, hS⟩
  match S, hA with
  | [], hA => have := hA.none; omega
  | y :: r, _ => simp
 ·refine ⟨f, l, -1, hb, .inl rfl, pw (-1) (by rw [if_neg h]), ?_⟩
  unfold trellisref15_Walk
  refine ⟨_, hF, ?_⟩
  rw [if_neg]
  cases hS : sf t 0 with
  | none => rw [hb.none hS]; simp
  | some S =>
   rw [hb.roots S hS]
   have := (sf_en _ _ hS).2
   have hn : t.length = 0 := by
    rcases Nat.eq_zero_or_pos t.length with g | g
    ·exact g
    ·exact absurd (inB_true.2 ⟨⟨S, hS⟩, by omega, by omega⟩) h
   rw [List.length_map]; omega
theorem down_ok {t : List api_Node} (hl : Fits t) {f : tree_forest} {l : List Tre} (h : Both t f l) {p : Int} (hp : Ok t p) : ∃ b p', Ok t p' ∧ tree_Cursor_Down (cur f p) (b, cur f p') ∧ trellisref15_Model_Down (mdl l p) (b, mdl l p') := by
 have hn := h.pl.1
 rcases h.find p with ⟨g1, g2⟩ | ⟨g1, g2⟩
 ·refine ⟨false, p, hp, ?_, ?_⟩
  ·unfold tree_Cursor_Down
   refine ⟨_, has_ok h.pl p, ?_⟩
   rw [g1, if_neg (by simp)]
   exact ⟨(false, ⟨f, p⟩), by unfold tree_stand_to; rw [if_neg (by simp)], rfl⟩
  ·unfold trellisref15_Model_Down
   refine ⟨_, g2, ?_⟩
   rw [if_neg (by simp)]
   unfold trellisref15_Model_Down_j1
   rw [if_pos rfl]
 ·obtain ⟨⟨S, hS⟩, q1, q2⟩ := inB_true.1 g1
  obtain ⟨j, rfl⟩ : ∃ j : Nat, p = j := ⟨p.toNat, by omega⟩
  rw [Int.toNat_natCast] at g2
  obtain ⟨r, hr⟩ := At.sub hS (i := j) (by omega)
  have hr : At t j (((sub t j).1, (sub t j).2) :: r) := hr
  have hj : j < t.length := by omega
  obtain ⟨ts, k1, k2, k3, k4, k5⟩ := hr.kids hj
  have hlen : (sub t j).1.kids.length = ts.length := by rw [k2, List.length_map]
  have prog : ∀ b p', (if t[j].kids > 0 then b = true ∧ p' = (j : Int) + 1 else b = false ∧ p' = (j : Int)) → tree_Cursor_Down (cur f j) (b, cur f p') := fun b p' hbp => by
   unfold tree_Cursor_Down
   refine ⟨_, has_ok h.pl _, ?_⟩
   rw [g1, if_pos rfl]
   dsimp only
   rw [hn, ix_nat hj, w64_nat (by omega)]
   refine ⟨by omega, ?_⟩
   by_cases hk : t[j].kids > 0
   ·rw [if_pos hk] at hbp
    obtain ⟨rfl, rfl⟩ := hbp
    exact ⟨(true, ⟨f, (j : Int) + 1⟩), by unfold tree_stand_to; rw [decide_eq_true hk, if_pos rfl], rfl⟩
   ·rw [if_neg hk] at hbp
    obtain ⟨rfl, rfl⟩ := hbp
    exact ⟨(false, ⟨f, j⟩), by unfold tree_stand_to; rw [decide_eq_false hk, if_neg (by simp)], rfl⟩
  by_cases hk : t[j].kids > 0
  ·have h0 : 0 < ts.length := by omega
   have p1 := (k1.nth (j := 0) (by rw [List.length_append]; omega)).1.pos
   simp only [List.take_zero, en_nil] at p1
   refine ⟨true, (j : Int) + 1, .inr (inB_true.2 ⟨⟨S, hS⟩, by omega, by omega⟩), prog _ _ (by rw [if_pos hk]; exact ⟨rfl, rfl⟩), ?_⟩
   unfold trellisref15_Model_Down
   refine ⟨_, g2, ?_⟩
   rw [if_pos rfl]
   unfold trellisref15_Model_Down_j1
   dsimp only
   rw [hlen, if_neg (by rw [beq_iff_eq]; omega)]
   refine ⟨by omega, ?_⟩
   have e1 : ix (sub t j).1.kids 0 = ts[0].1 := by
    have := ix_nat (xs := (sub t j).1.kids) (i := 0) (by omega)
    rw [show ((0 : Nat) : Int) = 0 from rfl] at this
    rw [this]
    simp only [k2, List.getElem_map]
   rw [e1]
   have e2 := p1.2.1
   rw [List.getElem_append_left h0] at e2
   rw [e2]
   rfl
  ·refine ⟨false, j, hp, prog _ _ (by rw [if_neg hk]; exact ⟨rfl, rfl⟩), ?_⟩
   unfold trellisref15_Model_Down
   refine ⟨_, g2, ?_⟩
   rw [if_pos rfl]
   unfold trellisref15_Model_Down_j1
   dsimp only
   rw [hlen, if_pos (by rw [beq_iff_eq]; omega)]
theorem up_ok {t : List api_Node} (hl : Fits t) {f : tree_forest} {l : List Tre} (h : Both t f l) {p : Int} (hp : Ok t p) : ∃ b p', Ok t p' ∧ tree_Cursor_Up (cur f p) (b, cur f p') ∧ trellisref15_Model_Up (mdl l p) (b, mdl l p') := by
 rcases h.find p with ⟨g1, g2⟩ | ⟨g1, g2⟩
 ·refine ⟨false, p, hp, ?_, ?_⟩
  ·unfold tree_Cursor_Up
   refine ⟨_, has_ok h.pl p, ?_⟩
   rw [g1, if_neg (by simp)]
  ·unfold trellisref15_Model_Up
   refine ⟨_, g2, ?_⟩
   rw [if_neg (by simp)]
   unfold trellisref15_Model_Up_j1
   rw [if_pos rfl]
 ·obtain ⟨⟨S, hS⟩, q1, q2⟩ := inB_true.1 g1
  obtain ⟨j, rfl⟩ : ∃ j : Nat, p = j := ⟨p.toNat, by omega⟩
  have hj : j < t.length := by omega
  obtain ⟨p1, p2⟩ := par_at hl hS hj
  have e1 : ix f.parent (j : Int) = parF t (j : Int) := ((h.pl.2.2.2.2 S hS j hj).1).uniq p1
  have hP := h.pl.2.1
  have hpar := p1.par
  by_cases hq : parF t (j : Int) ≥ 0
  ·refine ⟨true, parF t (j : Int), .inr (inB_true.2 ⟨⟨S, hS⟩, hq, by omega⟩), ?_, ?_⟩
   ·unfold tree_Cursor_Up
    refine ⟨_, has_ok h.pl _, ?_⟩
    rw [g1, if_pos rfl]
    dsimp only
    rw [e1, hP]
    exact ⟨by omega, (true, ⟨f, parF t (j : Int)⟩), by unfold tree_stand_to; rw [decide_eq_true hq, if_pos rfl], rfl⟩
   ·unfold trellisref15_Model_Up
    refine ⟨_, g2, ?_⟩
    rw [if_pos rfl]
    unfold trellisref15_Model_Up_j1
    dsimp only
    rw [decide_eq_false (by omega), if_neg (by simp)]
  ·refine ⟨false, j, hp, ?_, ?_⟩
   ·unfold tree_Cursor_Up
    refine ⟨_, has_ok h.pl _, ?_⟩
    rw [g1, if_pos rfl]
    dsimp only
    rw [e1, hP]
    exact ⟨by omega, (false, ⟨f, j⟩), by unfold tree_stand_to; rw [decide_eq_false hq, if_neg (by simp)], rfl⟩
   ·unfold trellisref15_Model_Up
    refine ⟨_, g2, ?_⟩
    rw [if_pos rfl]
    unfold trellisref15_Model_Up_j1
    dsimp only
    rw [decide_eq_true (by omega), if_pos rfl]
theorem next_ok {t : List api_Node} (hl : Fits t) {f : tree_forest} {l : List Tre} (h : Both t f l) {p : Int} (hp : Ok t p) : ∃ b p', Ok t p' ∧ tree_Cursor_Next (cur f p) (b, cur f p') ∧ trellisref15_Model_Next (mdl l p) (b, mdl l p') := by
 rcases h.find p with ⟨g1, g2⟩ | ⟨g1, g2⟩
 ·refine ⟨false, p, hp, ?_, ?_⟩
  ·unfold tree_Cursor_Next
   refine ⟨_, has_ok h.pl p, ?_⟩
   rw [g1, if_neg (by simp)]
  ·unfold trellisref15_Model_Next
   refine ⟨_, g2, ?_⟩
   rw [if_neg (by simp)]
 ·obtain ⟨⟨S, hS⟩, q1, q2⟩ := inB_true.1 g1
  obtain ⟨i, rfl⟩ : ∃ i : Nat, p = i := ⟨p.toNat, by omega⟩
  have hi : i < t.length := by omega
  obtain ⟨p1, p2⟩ := par_at hl hS hi
  have hP := h.pl.2.1
  have hE := h.pl.2.2.1
  obtain ⟨epar, x0, e0, r0, x1, eend⟩ := h.pl.2.2.2.2 S hS i hi
  have e1 : ix f.parent (i : Int) = parF t (i : Int) := epar.uniq p1
  have hx1 := x1.pos
  -- with the row at hand
  have main : ∀ (a m j : Nat) (R : List (Tre × Nat)), RowOf' t i (parF t (i : Int)) a m j R → (∀ r, trellisref15_Model_Next_j1 (mdl l i) ((R.take m).map (·.1)) r → trellisref15_Model_Next (mdl l i) r) → ∃ b p', Ok t p' ∧ tree_Cursor_Next (cur f i) (b, cur f p') ∧ trellisref15_Model_Next (mdl l i) (b, mdl l p') := by
   intro a m j R hR href
   have hRl : R.length ≤ t.length := by
    have := (sf_en _ _ hR.at_.2).2
    rw [List.length_drop] at this
    omega
   have hj := hR.hj
   have hm := hR.hm
   have hnj := (hR.at_.nth (j := j) (by omega)).1
   rw [hR.hi] at hnj
   have hu := x1.uniq hnj
   injection hu with u1 u2
   have ue : e0 = (R[j]'(by omega)).2 := by have := congrArg Prod.snd u1; exact this
   have hml : ((R.take m).map (·.1)).length = m := by rw [List.length_map, List.length_take]; omega
   have at_eq : ∀ (k : Nat) (hk : k < m), (((R.take m).map (fun y : Tre × Nat => y.1))[k]'(by rw [hml]; exact hk)).at_ = (en a (R.take k) : Int) := fun k hk => by
    rw [List.getElem_map, List.getElem_take]
    have g := (hR.at_.nth (j := k) (by omega)).1
    exact g.pos.2.1
   have step : ∀ k (hk : k < j), trellisref15_Model_Next_b2 ((R.take m).map (·.1)) (mdl l i) (k : Int) (.inl ((k : Int) + 1)) := fun k hk => by
    have := en_lt hR.at_ hk (by omega)
    unfold trellisref15_Model_Next_b2
    rw [w64_nat (by omega), if_pos (by omega), ix_nat (by omega), at_eq k (by omega), if_neg (by have := hR.hi; dsimp only; omega)]
    exact ⟨by omega, rfl⟩
   by_cases hlast : j + 1 < m
   ·have hn := (hR.at_.nth (j := j + 1) (by omega)).1.pos
    rw [en_take (by omega), ← ue] at hn
    have hpe : parF t (e0 : Int) = parF t (i : Int) := parF_eq ((hR.all e0).2 ⟨j + 1, hlast, by rw [en_take (by omega), ue]⟩)
    have hbe : inB t (e0 : Int) = true := inB_true.2 ⟨⟨S, hS⟩, by omega, by omega⟩
    have e2 : ix f.parent (e0 : Int) = parF t (e0 : Int) := ((h.pl.2.2.2.2 S hS e0 hn.1).1).uniq (par_at hl hS hn.1).1
    refine ⟨true, e0, .inr hbe, ?_, href _ ?_⟩
    ·unfold tree_Cursor_Next
     refine ⟨_, has_ok h.pl _, ?_⟩
     rw [g1, if_pos rfl]
     dsimp only
     rw [hE, eend]
     refine ⟨by omega, _, has_ok h.pl _, ?_⟩
     rw [hbe, if_pos rfl, e1, e2, hpe, hP]
     exact ⟨by omega, by omega, (true, ⟨f, e0⟩), by unfold tree_stand_to; rw [if_pos (by simp)]; simp, rfl⟩
    ·unfold trellisref15_Model_Next_j1
     refine Rounds.cnt j (fun k hk => step k hk) ?_
     unfold trellisref15_Model_Next_b2
     rw [w64_nat (by omega), if_pos (by omega), ix_nat (by omega), at_eq j hj, if_pos (by have := hR.hi; dsimp only; omega), show (j : Int) + 1 = ((j + 1 : Nat) : Int) by omega, ix_nat (by omega), at_eq (j + 1) hlast, en_take (by omega), ← ue]
     exact ⟨by omega, by omega, rfl⟩
   ·refine ⟨false, i, hp, ?_, href _ ?_⟩
    ·unfold tree_Cursor_Next
     refine ⟨_, has_ok h.pl _, ?_⟩
     rw [g1, if_pos rfl]
     dsimp only
     rw [hE, eend]
     refine ⟨by omega, _, has_ok h.pl _, ?_⟩
     by_cases hbe : inB t (e0 : Int) = true
     ·have hne := (inB_true.1 hbe).2.2
      have hlt : e0 < t.length := by omega
      have e2 : ix f.parent (e0 : Int) = parF t (e0 : Int) := ((h.pl.2.2.2.2 S hS e0 hlt).1).uniq (par_at hl hS hlt).1
      have hpe : parF t (e0 : Int) ≠ parF t (i : Int) := fun g => by
       have := (par_at hl hS hlt).2
       rw [g] at this
       obtain ⟨j', hj', g'⟩ := (hR.all e0).1 this
       have lt := en_lt hR.at_ (j := j') (k := j + 1) (by omega) (by omega)
       rw [en_take (by omega), ← ue] at lt
       omega
      rw [if_pos hbe, e1, e2, hP]
      exact ⟨by omega, by omega, (false, ⟨f, i⟩), by unfold tree_stand_to; rw [if_neg (by rw [beq_iff_eq]; exact hpe)]; rw [beq_eq_false_iff_ne.2 hpe], rfl⟩
     ·rw [if_neg hbe]
      exact ⟨(false, ⟨f, i⟩), by unfold tree_stand_to; rw [if_neg (by simp)], rfl⟩
    ·unfold trellisref15_Model_Next_j1
     refine Rounds.cnt j (fun k hk => step k hk) ?_
     unfold trellisref15_Model_Next_b2
     rw [w64_nat (by omega), if_neg (by omega)]
  rcases row_of hl hS p1 with ⟨hq, j, hR⟩ | ⟨b, ts, r, hq, hb, hk, j, hR⟩
  ·refine main _ _ _ _ hR fun r hr => ?_
   unfold trellisref15_Model_Next
   refine ⟨_, g2, ?_⟩
   rw [if_pos rfl]
   dsimp only
   rw [if_neg (by rw [hq]; omega)]
   rw [List.take_length, ← h.roots S hS] at hr
   exact hr
  ·refine main _ _ _ _ hR fun r' hr => ?_
   unfold trellisref15_Model_Next
   refine ⟨_, g2, ?_⟩
   rw [if_pos rfl]
   dsimp only
   rw [if_pos (by rw [hq]; omega)]
   rcases h.find (b : Int) with ⟨c1, _⟩ | ⟨c1, c2⟩
   ·have : inB t (b : Int) = true := inB_true.2 ⟨⟨S, hS⟩, by omega, by omega⟩
    rw [c1] at this; cases this
   ·refine ⟨_, by rw [hq]; exact c2, ?_⟩
    rw [List.take_append_of_le_length (Nat.le_refl _), List.take_length, ← hk] at hr
    exact hr
end Go.Proofs.Ytmekgfcfooghnaa.L
