/- JSON: what is read hangs on what was read alone: texts with more behind them; the law JsonFirm. Condition: sizes. -/
import Derived.Test.YtmfopcbjgbphaaaDoorQ15
set_option linter.unusedVariables false
namespace Go.Proofs.YtmfopcbjgbphaaaDoor.L
open Go.Proofs.YtmfopcbjgbphaaaDoor.B Go.Proofs.YtmfopcbjgbphaaaDoor.R
theorem ne_of_le {q t : List Int} (h : q.length ≤ t.length) (hq : q ≠ []) : t ≠ [] := by
 intro e
 subst e
 exact hq (List.eq_nil_of_length_eq_zero (by simpa using h))
section
variable {o : List Int}
theorem isL_ne {l t : List Int} (h : t ≠ []) : isL l (t ++ o) = isL l t := isL_app (.inr h)
theorem skipL_loc {l : List Int} : ∀ {t : List Int}, skipL l t ≠ [] → skipL l (t ++ o) = skipL l t ++ o
 | [], h => absurd rfl h
 | x :: t, h => by
  rw [List.cons_append]
  unfold skipL at h ⊢
  by_cases g : l.contains x = true
  ·rw [if_pos g] at h ⊢; rw [if_pos g]; exact skipL_loc h
  ·rw [if_neg g, if_neg g]; rfl
theorem blL_loc {t : List Int} (h : blL t ≠ []) : blL (t ++ o) = blL t ++ o := skipL_loc h
theorem tail_ne {t : List Int} (h : t ≠ []) : (t ++ o).tail = t.tail ++ o := by
 cases t with
 | nil => exact absurd rfl h
 | cons x t => rfl
theorem digL_loc {t : List Int} (h : (digL t).2 ≠ []) : digL (t ++ o) = ((digL t).1, (digL t).2 ++ o) := by
 have ht := ne_of_le (digL_len t).1 h
 unfold digL at h ⊢
 rw [isL_ne ht]
 by_cases g : isL digB t = true
 ·rw [if_pos g] at h ⊢; rw [if_pos g, skipL_loc h]
 ·rw [if_neg g, if_neg g]
theorem expL_loc {t : List Int} (h : (expL t).2 ≠ []) : expL (t ++ o) = ((expL t).1, (expL t).2 ++ o) := by
 have ht := ne_of_le (expL_len t) h
 unfold expL at h ⊢
 rw [isL_ne ht]
 by_cases g : isL [101, 69] t = true
 ·rw [if_pos g] at h ⊢
  rw [if_pos g, tail_ne ht]
  have h1 : t.tail ≠ [] := by
   intro e
   rw [e] at h
   exact h rfl
  rw [isL_ne h1]
  by_cases g2 : isL [43, 45] t.tail = true
  ·rw [if_pos g2] at h ⊢; rw [if_pos g2, tail_ne h1]; exact digL_loc h
  ·rw [if_neg g2] at h ⊢; rw [if_neg g2]; exact digL_loc h
 ·rw [if_neg g, if_neg g]
theorem fracL_loc {t : List Int} (h : (fracL t).2 ≠ []) : fracL (t ++ o) = ((fracL t).1, (fracL t).2 ++ o) := by
 have ht := ne_of_le (fracL_len t) h
 unfold fracL at h ⊢
 rw [isL_ne ht]
 by_cases g : isL [46] t = true
 ·rw [if_pos g] at h ⊢
  rw [if_pos g, tail_ne ht]
  have h1 : t.tail ≠ [] := by
   intro e
   rw [e] at h
   exact h rfl
  rw [isL_ne h1]
  by_cases g2 : isL digB t.tail = true
  ·rw [if_pos g2] at h ⊢
   have h2 := ne_of_le (expL_len (digL t.tail).2) h
   rw [if_pos g2, digL_loc h2]; exact expL_loc h
  ·rw [if_neg g2, if_neg g2]
 ·rw [if_neg g] at h ⊢; rw [if_neg g]; exact expL_loc h
theorem intL_loc {t : List Int} (h : (intL t).2 ≠ []) : intL (t ++ o) = ((intL t).1, (intL t).2 ++ o) := by
 have ht := ne_of_le (intL_len t).1 h
 unfold intL at h ⊢
 rw [isL_ne ht]
 by_cases g : isL [48] t = true
 ·rw [if_pos g] at h ⊢; rw [if_pos g, tail_ne ht]; exact fracL_loc h
 ·rw [if_neg g] at h ⊢
  rw [if_neg g, isL_ne ht]
  by_cases g2 : isL digB t = true
  ·rw [if_pos g2] at h ⊢
   have h2 := ne_of_le (fracL_len (digL t).2) h
   rw [if_pos g2, digL_loc h2]; exact fracL_loc h
  ·rw [if_neg g2, if_neg g2]
theorem numL_loc {t : List Int} (h : (numL t).2 ≠ [] ∨ Stop o) : numL (t ++ o) = ((numL t).1, (numL t).2 ++ o) := by
 rcases h with h | h
 ·have ht := ne_of_le (numL_len t).1 h
  unfold numL at h ⊢
  rw [isL_ne ht]
  by_cases g : isL [45] t = true
  ·rw [if_pos g] at h ⊢; rw [if_pos g, tail_ne ht]; exact intL_loc h
  ·rw [if_neg g] at h ⊢; rw [if_neg g]; exact intL_loc h
 ·exact numL_app h t
theorem wordL_loc : ∀ {w t : List Int}, (wordL w t).2 ≠ [] ∨ (wordL w t).1 = true → wordL w (t ++ o) = ((wordL w t).1, (wordL w t).2 ++ o)
 | [], t, h => rfl
 | w :: ws, t, h => by
  have ht : t ≠ [] := by
   intro e
   subst e
   unfold wordL at h
   rw [isL_nil, if_neg (by simp)] at h
   rcases h with h | h
   ·exact h rfl
   ·cases h
  unfold wordL at h ⊢
  rw [isL_ne ht]
  by_cases g : isL [w] t = true
  ·rw [if_pos g] at h ⊢; rw [if_pos g, tail_ne ht]; exact wordL_loc h
  ·rw [if_neg g, if_neg g]
theorem digsL_loc : ∀ {ls : List (List Int)} {t : List Int} {c : Int}, (digsL ls t c).2 ≠ [] ∨ (digsL ls t c).1.isSome = true → digsL ls (t ++ o) c = ((digsL ls t c).1, (digsL ls t c).2 ++ o)
 | [], t, c, h => rfl
 | l :: ls, [], c, h => by
  rcases h with h | h
  ·exact absurd rfl h
  ·cases h
 | l :: ls, x :: t, c, h => by
  rw [List.cons_append]
  unfold digsL at h ⊢
  dsimp only at h ⊢
  by_cases g : l.contains x = true
  ·rw [if_pos g] at h ⊢; rw [if_pos g]; exact digsL_loc h
  ·rw [if_neg g, if_neg g]; rfl
theorem unitL_loc {t : List Int} (h : (unitL t).2 ≠ [] ∨ (unitL t).1.isSome = true) : unitL (t ++ o) = ((unitL t).1, (unitL t).2 ++ o) := by
 have ht : t ≠ [] := by
  intro e
  subst e
  rcases h with h | h
  ·exact h rfl
  ·cases h
 unfold unitL at h ⊢
 rw [isL_ne ht]
 have hd := @digsL_loc o [hexs, if isL [100, 68] t = true then high2 else hexs, hexs, hexs] t 0
 generalize digsL [hexs, if isL [100, 68] t = true then high2 else hexs, hexs, hexs] t 0 = p at h hd ⊢
 obtain ⟨q, r⟩ := p
 cases q with
 | none =>
  dsimp only at h
  have h1 : r ≠ [] := by rcases h with h | h; exact h; cases h
  rw [hd (.inl h1)]
 | some v =>
  rw [hd (.inr rfl)]
  dsimp only at h ⊢
  by_cases g : 55296 ≤ v ∧ v ≤ 56319
  ·rw [if_pos g] at h ⊢
   rw [if_pos g]
   have hr : r ≠ [] := by
    intro e
    subst e
    rw [isL_nil, if_neg (by simp)] at h
    rcases h with h | h
    ·exact h rfl
    ·cases h
   rw [isL_ne hr]
   by_cases g1 : isL [92] r = true
   ·rw [if_pos g1] at h ⊢
    rw [if_pos g1, tail_ne hr]
    have hr2 : r.tail ≠ [] := by
     intro e
     rw [e, isL_nil, if_neg (by simp)] at h
     rcases h with h | h
     ·exact h rfl
     ·cases h
    rw [isL_ne hr2]
    by_cases g2 : isL [117] r.tail = true
    ·rw [if_pos g2] at h ⊢
     rw [if_pos g2, tail_ne hr2]
     have hd2 := @digsL_loc o [[100, 68], lows, hexs, hexs] r.tail.tail 0
     generalize digsL [[100, 68], lows, hexs, hexs] r.tail.tail 0 = p at h hd2 ⊢
     obtain ⟨q2, u⟩ := p
     cases q2 with
     | none =>
      dsimp only at h
      have h1 : u ≠ [] := by rcases h with h | h; exact h; cases h
      rw [hd2 (.inl h1)]
     | some w => rw [hd2 (.inr rfl)]
    ·rw [if_neg g2, if_neg g2]
   ·rw [if_neg g1, if_neg g1]
  ·rw [if_neg g, if_neg g]
theorem escL_loc {t : List Int} (h : (escL t).2 ≠ [] ∨ (escL t).1.isSome = true) : escL (t ++ o) = ((escL t).1, (escL t).2 ++ o) := by
 cases t with
 | nil =>
  rcases h with h | h
  ·exact absurd rfl h
  ·cases h
 | cons x t =>
  rw [List.cons_append, escL_cons, escL_cons]
  rw [escL_cons] at h
  by_cases g : saysL x = 0
  ·rw [if_pos g] at h ⊢
   rw [if_pos g]
   by_cases g2 : x = 117
   ·rw [if_pos g2] at h ⊢; rw [if_pos g2]; exact unitL_loc h
   ·rw [if_neg g2, if_neg g2]; rfl
  ·rw [if_neg g, if_neg g]
theorem tailL_loc : ∀ {l : List (Int × Int)} {t : List Int}, (tailL l t).2 ≠ [] ∨ (tailL l t).1 = true → tailL l (t ++ o) = ((tailL l t).1, (tailL l t).2 ++ o)
 | [], t, h => rfl
 | p :: l, [], h => by
  rcases h with h | h
  ·exact absurd rfl h
  ·cases h
 | p :: l, y :: t, h => by
  rw [List.cons_append]
  unfold tailL at h ⊢
  by_cases g : y < p.1 ∨ y > p.2
  ·rw [if_pos g, if_pos g]; rfl
  ·rw [if_neg g] at h ⊢; rw [if_neg g]; exact tailL_loc h
theorem charL_loc {t : List Int} (h : (charL t).2 ≠ [] ∨ (charL t).1 = true) : charL (t ++ o) = ((charL t).1, (charL t).2 ++ o) := by
 cases t with
 | nil =>
  rcases h with h | h
  ·exact absurd rfl h
  ·cases h
 | cons x t =>
  rw [List.cons_append]
  cases e : rng x with
  | none => rw [charL_none e, charL_none e]; rfl
  | some l =>
   rw [charL_some e] at h
   rw [charL_some e, charL_some e]
   exact tailL_loc h
theorem strL_loc : ∀ (f g : Nat) (t acc : List Int), t.length < f → (t ++ o).length < g → ((strL f t acc).2 ≠ [] ∨ (strL f t acc).1.isSome = true) → strL g (t ++ o) acc = ((strL f t acc).1, (strL f t acc).2 ++ o)
 | 0, g, t, acc, hf, hg, h => absurd hf (Nat.not_lt_zero _)
 | f + 1, 0, t, acc, hf, hg, h => absurd hg (Nat.not_lt_zero _)
 | f + 1, g + 1, [], acc, hf, hg, h => by
  rcases h with h | h
  ·exact absurd rfl h
  ·cases h
 | f + 1, g + 1, x :: t, acc, hf, hg, h => by
  simp only [List.length_cons, List.cons_append, List.length_append] at hf hg
  rw [List.cons_append]
  unfold strL at h ⊢
  by_cases g1 : x = 34
  ·rw [if_pos g1, if_pos g1]
  rw [if_neg g1] at h ⊢
  rw [if_neg g1]
  by_cases g2 : x = 92
  ·rw [if_pos g2] at h ⊢
   rw [if_pos g2]
   have he := @escL_loc o t
   have hl := escL_len t
   generalize escL t = p at h he hl ⊢
   obtain ⟨q, r⟩ := p
   cases q with
   | none =>
    dsimp only at h
    have h1 : r ≠ [] := by rcases h with h | h; exact h; cases h
    rw [he (.inl h1)]
   | some b =>
    rw [he (.inr rfl)]
    dsimp only at h hl ⊢
    exact strL_loc f g r _ (by omega) (by rw [List.length_append]; omega) h
  rw [if_neg g2] at h ⊢
  rw [if_neg g2]
  by_cases g3 : x < 32
  ·rw [if_pos g3, if_pos g3]; rfl
  rw [if_neg g3] at h ⊢
  rw [if_neg g3]
  have he := @charL_loc o (x :: t)
  have hl := charL_len (x :: t)
  rw [List.cons_append] at he
  generalize charL (x :: t) = p at h he hl ⊢
  obtain ⟨q, r⟩ := p
  cases q with
  | false =>
   dsimp only at h
   have h1 : r ≠ [] := by rcases h with h | h; exact h; cases h
   rw [he (.inl h1)]
  | true =>
   rw [he (.inr rfl)]
   have hl2 := hl.2 rfl
   simp only [List.length_cons] at hl2
   dsimp only at h ⊢
   have et : (x :: (t ++ o)).take ((x :: (t ++ o)).length - (r ++ o).length) = (x :: t).take ((x :: t).length - r.length) := by
    rw [show x :: (t ++ o) = (x :: t) ++ o from rfl, List.length_append, List.length_append, show (x :: t).length + o.length - (r.length + o.length) = (x :: t).length - r.length by omega, List.take_append_of_le_length (by omega)]
   rw [et]
   exact strL_loc f g r _ (by omega) (by rw [List.length_append]; omega) h
theorem strQ_loc {t : List Int} (h : (strQ t).2 ≠ [] ∨ (strQ t).1.isSome = true) : strQ (t ++ o) = ((strQ t).1, (strQ t).2 ++ o) := by
 have ht : t ≠ [] := by
  intro e
  subst e
  rcases h with h | h
  ·exact h rfl
  ·cases h
 unfold strQ at h ⊢
 rw [isL_ne ht]
 by_cases g : isL [34] t = true
 ·rw [if_pos g] at h ⊢
  rw [if_pos g, tail_ne ht]
  have := isL_tail g
  exact strL_loc _ _ t.tail [] (by omega) (by rw [List.length_append, List.length_append]; omega) h
 ·rw [if_neg g, if_neg g]
def rst {α : Type} : Res α → List Int
 | .ok _ q => q
 | .no _ q => q
def isOk {α : Type} : Res α → Bool
 | .ok _ _ => true
 | .no _ _ => false
def ext {α : Type} (o : List Int) : Res α → Res α
 | .ok a q => .ok a (q ++ o)
 | .no e q => .no e (q ++ o)
def extH (o : List Int) : Head → Head
 | .done r => .done (ext o r)
 | .many obj t => .many obj (t ++ o)
theorem wordH_loc {n : Int} {w : List Int} {key : ByteArray} {t : List Int} (h : rst (wordH n w key t) ≠ [] ∨ isOk (wordH n w key t) = true) : wordH n w key (t ++ o) = ext o (wordH n w key t) := by
 unfold wordH at h ⊢
 have hw := @wordL_loc o w t
 by_cases g : (wordL w t).1 = true
 ·rw [hw (.inr g), if_pos g, if_pos g]; rfl
 ·rw [if_neg g] at h ⊢
  have h1 : (wordL w t).2 ≠ [] := by rcases h with h | h; exact h; cases h
  rw [hw (.inl h1), if_neg g]; rfl
theorem strH_loc {key : ByteArray} {t : List Int} (h : rst (strH key t) ≠ [] ∨ isOk (strH key t) = true) : strH key (t ++ o) = ext o (strH key t) := by
 unfold strH at h ⊢
 have hw := @strQ_loc o t
 generalize strQ t = p at h hw ⊢
 obtain ⟨q, r⟩ := p
 cases q with
 | none =>
  have h1 : r ≠ [] := by rcases h with h | h; exact h; cases h
  rw [hw (.inl h1)]; rfl
 | some b => rw [hw (.inr rfl)]; rfl
theorem numH_loc {key : ByteArray} {t : List Int} (h : rst (numH key t) ≠ [] ∨ (isOk (numH key t) = true ∧ Stop o)) : numH key (t ++ o) = ext o (numH key t) := by
 unfold numH at h ⊢
 have hl := numL_len t
 by_cases g : (numL t).1 = true
 ·rw [if_pos g] at h ⊢
  have h1 : (numL t).2 ≠ [] ∨ Stop o := by rcases h with h | h; exact .inl h; exact .inr h.2
  rw [numL_loc h1, if_pos g]
  show Res.ok (mkN 4 key ((t ++ o).take ((t ++ o).length - ((numL t).2 ++ o).length)) 0, F.nil) _ = _
  rw [List.length_append, List.length_append, show t.length + o.length - ((numL t).2.length + o.length) = t.length - (numL t).2.length by omega, List.take_append_of_le_length (by omega)]
  rfl
 ·rw [if_neg g] at h ⊢
  have h1 : (numL t).2 ≠ [] := by rcases h with h | h; exact h; cases h.1
  rw [numL_loc (.inl h1), if_neg g]; rfl
def fixH (o : List Int) : Head → Prop
 | .done r => rst r ≠ [] ∨ (isOk r = true ∧ Stop o)
 | .many _ t => t ≠ []
theorem headL_loc {d : Nat} {key : ByteArray} {t : List Int} (h : fixH o (headL d key t)) : headL d key (t ++ o) = extH o (headL d key t) := by
 have ht : t ≠ [] := by
  intro e
  subst e
  have : headL d key [] = .done (.no 250 []) := rfl
  rw [this] at h
  rcases h with h | h
  ·exact h rfl
  ·cases h.1
 unfold headL at h ⊢
 rw [isL_ne ht, isL_ne ht, isL_ne ht, isL_ne ht, isL_ne ht, isL_ne ht]
 have hw : ∀ {n : Int} {w : List Int}, fixH o (.done (wordH n w key t)) → Head.done (wordH n w key (t ++ o)) = extH o (.done (wordH n w key t)) := fun h => by
  rw [wordH_loc (by rcases h with h | h; exact .inl h; exact .inr h.1)]; rfl
 split
 ·rename_i g; rw [if_pos g] at h; exact hw h
 rename_i g1
 rw [if_neg g1] at h
 split
 ·rename_i g; rw [if_pos g] at h; exact hw h
 rename_i g2
 rw [if_neg g2] at h
 split
 ·rename_i g; rw [if_pos g] at h; exact hw h
 rename_i g3
 rw [if_neg g3] at h
 split
 ·rename_i g
  rw [if_pos g] at h
  rw [strH_loc (by rcases h with h | h; exact .inl h; exact .inr h.1)]; rfl
 rename_i g4
 rw [if_neg g4] at h
 split
 ·rename_i g
  rw [if_pos g] at h
  unfold manyH at h ⊢
  split
  ·rfl
  rename_i g6
  rw [if_neg g6] at h
  rw [tail_ne ht]
  by_cases g7 : isL (endO (isL [123] t)) (blL t.tail) = true
  ·have hb : blL t.tail ≠ [] := by intro e; rw [e] at g7; cases g7
   rw [if_pos g7, blL_loc hb, isL_ne hb, if_pos g7, tail_ne hb]
   rfl
  ·rw [if_neg g7] at h ⊢
   have hb : blL t.tail ≠ [] := h
   rw [blL_loc hb, isL_ne hb, if_neg g7]
   rfl
 ·rename_i g
  rw [if_neg g] at h
  rw [numH_loc h]; rfl
theorem keyL_loc {obj : Bool} {seen : List ByteArray} {t : List Int} (h : rst (keyL obj seen t) ≠ []) : keyL obj seen (t ++ o) = ext o (keyL obj seen t) := by
 unfold keyL at h ⊢
 cases obj with
 | false => rfl
 | true =>
  rw [if_pos rfl] at h ⊢
  rw [if_pos rfl]
  have hw := @strQ_loc o t
  generalize strQ t = p at h hw ⊢
  obtain ⟨q, r⟩ := p
  cases q with
  | none => rw [hw (.inl h)]; rfl
  | some k =>
   rw [hw (.inr rfl)]
   dsimp only at h ⊢
   by_cases g1 : inK (ofBs k) seen = true
   ·rw [if_pos g1, if_pos g1]; rfl
   ·rw [if_neg g1] at h ⊢
    rw [if_neg g1]
    by_cases g2 : isL [58] (blL r) = true
    ·have hb : blL r ≠ [] := by intro e; rw [e] at g2; cases g2
     rw [if_pos g2] at h ⊢
     have h' : blL (blL r).tail ≠ [] := h
     rw [blL_loc hb, isL_ne hb, if_pos g2, tail_ne hb, blL_loc h']
     rfl
    ·rw [if_neg g2] at h ⊢
     have hb : blL r ≠ [] := h
     rw [blL_loc hb, isL_ne hb, if_neg g2]
     rfl
theorem val_loc : ∀ (n : Nat), (∀ (d : Nat) (key : ByteArray) (t : List Int), t.length ≤ n → (rst (valN d key t) ≠ [] ∨ (isOk (valN d key t) = true ∧ Stop o)) → valN d key (t ++ o) = ext o (valN d key t)) ∧ (∀ (d : Nat) (obj : Bool) (seen : List ByteArray) (t : List Int), t.length ≤ n → (rst (itemsN d obj seen t) ≠ [] ∨ isOk (itemsN d obj seen t) = true) → itemsN d obj seen (t ++ o) = ext o (itemsN d obj seen t)) := by
 have V : ∀ (n : Nat), (∀ (m : Nat), m < n → ∀ (d : Nat) (obj : Bool) (seen : List ByteArray) (t : List Int), t.length ≤ m → (rst (itemsN d obj seen t) ≠ [] ∨ isOk (itemsN d obj seen t) = true) → itemsN d obj seen (t ++ o) = ext o (itemsN d obj seen t)) → ∀ (d : Nat) (key : ByteArray) (t : List Int), t.length ≤ n → (rst (valN d key t) ≠ [] ∨ (isOk (valN d key t) = true ∧ Stop o)) → valN d key (t ++ o) = ext o (valN d key t) := by
  intro n I d key t hn h
  rw [valN_eq] at h
  rw [valN_eq, valN_eq d key t]
  have hh := @headL_loc o d key t
  have hs := headL_sh d key t
  cases e : headL d key t with
  | done r =>
   rw [e] at h hh
   rw [hh h]
   rfl
  | many obj t1 =>
   rw [e] at h hh
   dsimp only at h
   have hlt := hs.2 obj t1 e
   have hc : rst (itemsN (d + 1) obj [] t1) ≠ [] ∨ isOk (itemsN (d + 1) obj [] t1) = true := by
    cases e2 : itemsN (d + 1) obj [] t1 with
    | ok k q => exact .inr rfl
    | no e q =>
     rw [e2] at h
     rcases h with h | h
     ·exact .inl h
     ·cases h.1
   have ht1 : t1 ≠ [] := by
    intro e3
    subst e3
    have : itemsN (d + 1) obj [] [] = .no 250 [] := by cases obj <;> rfl
    rw [this] at hc
    rcases hc with hc | hc
    ·exact hc rfl
    ·cases hc
   rw [hh ht1]
   show manyR obj key (itemsN (d + 1) obj [] (t1 ++ o)) = ext o (manyR obj key (itemsN (d + 1) obj [] t1))
   rw [I (t1.length) (by omega) (d + 1) obj [] t1 (Nat.le_refl _) hc]
   cases itemsN (d + 1) obj [] t1 <;> rfl
 intro n
 induction n using Nat.strongRecOn with
 | _ n ih =>
  have I := fun m hm => (ih m hm).2
  have VV := V n I
  refine ⟨VV, fun d obj seen t hn h => ?_⟩
  rw [itemsN_eq] at h
  rw [itemsN_eq, itemsN_eq d obj seen t]
  have hk := @keyL_loc o obj seen t
  have hks := keyL_sh obj seen t
  cases e : keyL obj seen t with
  | no ee q =>
   rw [e] at h hk
   have h1 : q ≠ [] := by rcases h with h | h; exact h; cases h
   rw [hk h1]; rfl
  | ok key t2 =>
   rw [e] at h hk hks
   have hks' : t2.length < t.length + 1 := hks
   dsimp only at h
   have ht2 : t2 ≠ [] := by
    intro e3
    subst e3
    have : valN d key [] = .no 250 [] := rfl
    rw [this] at h
    rcases h with h | h
    ·exact h rfl
    ·cases h
   rw [hk ht2]
   show (match valN d key (t2 ++ o) with
    | .no e r => Res.no e r
    | .ok p r => if isL (endO obj) (blL r) = true then Res.ok (F.cons p.1 p.2 .nil) (blL r).tail
     else if isL [44] (blL r) = true then consR p.1 p.2 (itemsN d obj (key :: seen) (blL (blL r).tail))
     else .no 250 (blL r)) = ext o (match valN d key t2 with
    | .no e r => Res.no e r
    | .ok p r => if isL (endO obj) (blL r) = true then Res.ok (F.cons p.1 p.2 .nil) (blL r).tail
     else if isL [44] (blL r) = true then consR p.1 p.2 (itemsN d obj (key :: seen) (blL (blL r).tail))
     else .no 250 (blL r))
   have hvs := valN_sh d key t2
   have hv := VV d key t2 (by omega)
   cases e2 : valN d key t2 with
   | no ee q =>
    rw [e2] at h hv
    have h1 : q ≠ [] := by rcases h with h | h; exact h; cases h
    rw [hv (.inl h1)]; rfl
   | ok p q =>
    rw [e2] at h hv hvs
    have hvs' : q.length < t2.length := hvs
    dsimp only at h
    have hb : blL q ≠ [] := by
     intro e3
     rw [e3, isL_nil, if_neg (by simp), isL_nil, if_neg (by simp)] at h
     rcases h with h | h
     ·exact h rfl
     ·cases h
    have hq : q ≠ [] := ne_of_le (blL_len q) hb
    rw [hv (.inl hq)]
    show (if isL (endO obj) (blL (q ++ o)) = true then Res.ok (F.cons p.1 p.2 .nil) (blL (q ++ o)).tail
     else if isL [44] (blL (q ++ o)) = true then consR p.1 p.2 (itemsN d obj (key :: seen) (blL (blL (q ++ o)).tail))
     else .no 250 (blL (q ++ o))) = ext o (if isL (endO obj) (blL q) = true then Res.ok (F.cons p.1 p.2 .nil) (blL q).tail
     else if isL [44] (blL q) = true then consR p.1 p.2 (itemsN d obj (key :: seen) (blL (blL q).tail))
     else .no 250 (blL q))
    rw [blL_loc hb, isL_ne hb, isL_ne hb]
    by_cases g1 : isL (endO obj) (blL q) = true
    ·rw [if_pos g1, if_pos g1, tail_ne hb]; rfl
    ·rw [if_neg g1] at h ⊢
     rw [if_neg g1]
     by_cases g2 : isL [44] (blL q) = true
     ·rw [if_pos g2] at h ⊢
      rw [if_pos g2, tail_ne hb]
      have hc : rst (itemsN d obj (key :: seen) (blL (blL q).tail)) ≠ [] ∨ isOk (itemsN d obj (key :: seen) (blL (blL q).tail)) = true := by
       cases e3 : itemsN d obj (key :: seen) (blL (blL q).tail) with
       | ok s u => exact .inr rfl
       | no e u =>
        rw [e3] at h
        rcases h with h | h
        ·exact .inl h
        ·cases h
      have hb2 : blL (blL q).tail ≠ [] := by
       intro e3
       rw [e3] at hc
       have : itemsN d obj (key :: seen) [] = .no 250 [] := by cases obj <;> rfl
       rw [this] at hc
       rcases hc with hc | hc
       ·exact hc rfl
       ·cases hc
      have hl1 := blL_len q
      have hl2 := tail_le (blL q)
      have hl3 := blL_len (blL q).tail
      rw [blL_loc hb2, I (blL (blL q).tail).length (by omega) d obj (key :: seen) _ (Nat.le_refl _) hc]
      cases itemsN d obj (key :: seen) (blL (blL q).tail) <;> rfl
     ·rw [if_neg g2, if_neg g2]; rfl
theorem valN_loc {d : Nat} {key : ByteArray} {t : List Int} (h : rst (valN d key t) ≠ [] ∨ (isOk (valN d key t) = true ∧ Stop o)) : valN d key (t ++ o) = ext o (valN d key t) := (val_loc _).1 d key t (Nat.le_refl _) h
theorem parse_firm {t : List Int} {e : Int} {r : List Int} (h : parseL t = .no e r) (hr : r ≠ []) : parseL (t ++ o) = .no e (r ++ o) := by
 unfold parseL at h ⊢
 have hb : blL t ≠ [] := by
  intro e3
  rw [e3] at h
  have : valN 0 ⟨#[]⟩ [] = .no 250 [] := rfl
  rw [this] at h
  injection h with _ h
  exact hr h.symm
 rw [blL_loc hb]
 have hv := @valN_loc o 0 ⟨#[]⟩ (blL t)
 cases e2 : valN 0 ⟨#[]⟩ (blL t) with
 | no ee q =>
  rw [e2] at h hv
  injection h with h1 h2
  rw [hv (.inl (by rw [← h2] at hr; exact hr)), ← h1, ← h2]
  rfl
 | ok p q =>
  rw [e2] at h hv
  dsimp only at h
  by_cases g : blL q = []
  ·rw [if_pos g] at h; cases h
  ·rw [if_neg g] at h
   injection h with h1 h2
   have hq : q ≠ [] := ne_of_le (blL_len q) g
   rw [hv (.inl hq)]
   show (if blL (q ++ o) = [] then Res.ok (F.cons p.1 p.2 .nil) [] else .no 250 (blL (q ++ o))) = _
   rw [blL_loc g, if_neg (by simp [g]), ← h1, ← h2]
end
theorem val_deep : ∀ (f : Nat), (∀ d key t e r, valL f d key t = .no e r → e ≠ 0 → (e = 250 ∨ e = 251 ∧ r ≠ [])) ∧ (∀ d obj seen t e r, itemsL f d obj seen t = .no e r → e ≠ 0 → (e = 250 ∨ e = 251 ∧ r ≠ []))
 | 0 => ⟨fun d key t e r h h0 => by injection h with h _; exact absurd h.symm h0, fun d obj seen t e r h h0 => by injection h with h _; exact absurd h.symm h0⟩
 | f + 1 => by
  obtain ⟨i1, i2⟩ := val_deep f
  refine ⟨fun d key t e r h h0 => ?_, fun d obj seen t e r h h0 => ?_⟩
  ·rw [valL_succ] at h
   cases e1 : headL d key t with
   | done r0 =>
    rw [e1] at h
    dsimp only at h
    subst h
    have hd : ∀ r0 : Res (JNd × F), (∀ e r, r0 = .no e r → (e = 250 ∨ e = 251 ∧ r ≠ [])) → Head.done r0 = .done (.no e r) → (e = 250 ∨ e = 251 ∧ r ≠ []) := fun r0 g e => by
     injection e with e
     exact g _ _ e
    have hw : ∀ (kind : Int) (w : List Int), ∀ e r, wordH kind w key t = .no e r → (e = 250 ∨ e = 251 ∧ r ≠ []) := fun kind w e r h => by
     unfold wordH at h
     split at h
     ·cases h
     ·injection h with h _; exact .inl h.symm
    unfold headL at e1
    split at e1
    ·exact hd _ (hw _ _) e1
    split at e1
    ·exact hd _ (hw _ _) e1
    split at e1
    ·exact hd _ (hw _ _) e1
    split at e1
    ·refine hd _ (fun e r h => ?_) e1
     unfold strH at h
     split at h
     ·cases h
     ·injection h with h _; exact .inl h.symm
    split at e1
    ·rename_i g
     unfold manyH at e1
     split at e1
     ·refine hd _ (fun e r h => ?_) e1
      injection h with h1 h2
      refine .inr ⟨h1.symm, ?_⟩
      rw [← h2]
      intro e2
      rw [e2] at g
      cases g
     split at e1
     ·exact hd _ (fun e r h => by cases h) e1
     ·cases e1
    ·refine hd _ (fun e r h => ?_) e1
     unfold numH at h
     split at h
     ·cases h
     ·injection h with h _; exact .inl h.symm
   | many obj t1 =>
    rw [e1] at h
    dsimp only at h
    cases e2 : itemsL f (d + 1) obj [] t1 with
    | ok k q => rw [e2] at h; cases h
    | no ee q =>
     rw [e2] at h
     injection h with h1 h2
     rw [← h1, ← h2]
     exact i2 _ _ _ _ _ _ e2 (by rw [h1]; exact h0)
  ·rw [itemsL_succ] at h
   cases e1 : keyL obj seen t with
   | no ee q =>
    rw [e1] at h
    injection h with h1 h2
    left
    rw [← h1]
    unfold keyL at e1
    split at e1
    ·split at e1
     ·injection e1 with e1 _; exact e1.symm
     ·split at e1
      ·injection e1 with e1 _; exact e1.symm
      split at e1
      ·cases e1
      ·injection e1 with e1 _; exact e1.symm
    ·cases e1
   | ok key t2 =>
    rw [e1] at h
    dsimp only at h
    cases e2 : valL f d key t2 with
    | no ee q =>
     rw [e2] at h
     injection h with h1 h2
     rw [← h1, ← h2]
     exact i1 _ _ _ _ _ e2 (by rw [h1]; exact h0)
    | ok p q =>
     rw [e2] at h
     dsimp only at h
     split at h
     ·cases h
     split at h
     ·cases e3 : itemsL f d obj (key :: seen) (blL (blL q).tail) with
      | ok s u => rw [e3] at h; cases h
      | no ee u =>
       rw [e3] at h
       injection h with h1 h2
       rw [← h1, ← h2]
       exact i2 _ _ _ _ _ _ e3 (by rw [h1]; exact h0)
     ·injection h with h1 _; exact .inl h1.symm
theorem val_zero : ∀ (f : Nat), (∀ d key t r, 2 * t.length + 1 ≤ f → valL f d key t ≠ .no 0 r) ∧ (∀ d obj seen t r, 2 * t.length + 2 ≤ f → itemsL f d obj seen t ≠ .no 0 r)
 | 0 => ⟨fun d key t r h => by omega, fun d obj seen t r h => by omega⟩
 | f + 1 => by
  obtain ⟨i1, i2⟩ := val_zero f
  refine ⟨fun d key t r hf h => ?_, fun d obj seen t r hf h => ?_⟩
  ·rw [valL_succ] at h
   obtain ⟨s1, s2⟩ := headL_sh d key t
   cases e1 : headL d key t with
   | done r0 =>
    rw [e1] at h
    dsimp only at h
    subst h
    have hd : ∀ r0 : Res (JNd × F), (∀ r, r0 ≠ .no 0 r) → Head.done r0 = .done (.no 0 r) → False := fun r0 g e => by
     injection e with e
     exact g _ e
    have hw : ∀ (kind : Int) (w : List Int), ∀ r, wordH kind w key t ≠ .no 0 r := fun kind w r h => by
     unfold wordH at h
     split at h
     ·cases h
     ·injection h with h _; exact absurd h (by decide)
    unfold headL at e1
    split at e1
    ·exact hd _ (hw _ _) e1
    split at e1
    ·exact hd _ (hw _ _) e1
    split at e1
    ·exact hd _ (hw _ _) e1
    split at e1
    ·refine hd _ (fun r h => ?_) e1
     unfold strH at h
     split at h
     ·cases h
     ·injection h with h _; exact absurd h (by decide)
    split at e1
    ·unfold manyH at e1
     split at e1
     ·refine hd _ (fun r h => ?_) e1
      injection h with h1 _; exact absurd h1 (by decide)
     split at e1
     ·exact hd _ (fun r h => by cases h) e1
     ·cases e1
    ·refine hd _ (fun r h => ?_) e1
     unfold numH at h
     split at h
     ·cases h
     ·injection h with h _; exact absurd h (by decide)
   | many obj t1 =>
    rw [e1] at h
    dsimp only at h
    have hlt := s2 obj t1 e1
    cases e2 : itemsL f (d + 1) obj [] t1 with
    | ok k q => rw [e2] at h; cases h
    | no ee q =>
     rw [e2] at h
     injection h with h1 h2
     rw [h1] at e2
     exact i2 _ _ _ _ _ (by omega) e2
  ·rw [itemsL_succ] at h
   have hks := keyL_sh obj seen t
   cases e1 : keyL obj seen t with
   | no ee q =>
    rw [e1] at h
    injection h with h1 h2
    have : ee = 250 := by
     unfold keyL at e1
     split at e1
     ·split at e1
      ·injection e1 with e1 _; exact e1.symm
      ·split at e1
       ·injection e1 with e1 _; exact e1.symm
       split at e1
       ·cases e1
       ·injection e1 with e1 _; exact e1.symm
     ·cases e1
    omega
   | ok key t2 =>
    rw [e1] at h hks
    have hks' : t2.length < t.length + 1 := hks
    dsimp only at h
    have hvs := (val_sh f).1 d key t2
    cases e2 : valL f d key t2 with
    | no ee q =>
     rw [e2] at h
     injection h with h1 h2
     rw [h1] at e2
     exact i1 _ _ _ _ (by omega) e2
    | ok p q =>
     rw [e2] at h hvs
     have hvs' : q.length < t2.length := hvs
     dsimp only at h
     have hl1 := blL_len q
     have hl2 := tail_le (blL q)
     have hl3 := blL_len (blL q).tail
     split at h
     ·cases h
     split at h
     ·rename_i g
      have hl4 := isL_tail g
      cases e3 : itemsL f d obj (key :: seen) (blL (blL q).tail) with
      | ok s u => rw [e3] at h; cases h
      | no ee u =>
       rw [e3] at h
       injection h with h1 h2
       rw [h1] at e3
       exact i2 _ _ _ _ _ (by omega) e3
     ·injection h with h1 _; exact absurd h1 (by decide)
theorem parse_err {t : List Int} {e : Int} {r : List Int} (h : parseL t = .no e r) : e = 250 ∨ e = 251 ∧ r ≠ [] := by
 unfold parseL at h
 cases e2 : valN 0 ⟨#[]⟩ (blL t) with
 | no ee q =>
  rw [e2] at h
  injection h with h1 h2
  have h0 : ee ≠ 0 := by
   intro h3
   rw [h3] at e2
   exact (val_zero _).1 _ _ _ _ (Nat.le_refl _) e2
  rw [← h1, ← h2]
  exact (val_deep _).1 _ _ _ _ _ e2 h0
 | ok p q =>
  rw [e2] at h
  dsimp only at h
  split at h
  ·cases h
  ·injection h with h1 _; exact .inl h1.symm
theorem Rest.parse {s : ByteArray} {e : Int} {r : List Int} (h : parseL (bsOf s) = .no e r) : Rest s r := by
 unfold parseL at h
 have hv := (Rest.whole (s := s)).1.bl.valN (d := 0) (key := ⟨#[]⟩)
 cases e2 : L.valN 0 ⟨#[]⟩ (blL (bsOf s)) with
 | no ee q =>
  rw [e2] at h hv
  injection h with h1 h2
  rw [← h2]
  exact hv
 | ok p q =>
  rw [e2] at h hv
  dsimp only at h
  split at h
  ·cases h
  ·injection h with _ h2
   rw [← h2]
   exact Rest.bl hv
end Go.Proofs.YtmfopcbjgbphaaaDoor.L
