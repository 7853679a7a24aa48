/- JSON: what is read is well shaped, and its print is no longer; the law JsonReads. Condition: sizes. -/
import Derived.Test.YtmfopcbjgbphaaaDoorQ17
set_option linter.unusedVariables false
namespace Go.Proofs.YtmfopcbjgbphaaaDoor.L
open Go.Proofs.YtmfopcbjgbphaaaDoor.B Go.Proofs.YtmfopcbjgbphaaaDoor.R
theorem Rest.bts {s : ByteArray} {t : List Int} (h : Rest s t) : Bts t := by rw [h.2]; exact (bsOf_bts s).drop _
theorem rest_split {s : ByteArray} {t r : List Int} (ht : Rest s t) (hr : Rest s r) (hle : r.length ≤ t.length) : t = t.take (t.length - r.length) ++ r := by
 have e : t.drop (t.length - r.length) = r := by
  have h1 := ht.2
  have h2 := hr.2
  have : r = (bsOf s).drop (plc s t + (t.length - r.length)) := by
   rw [h2]
   congr 1
   unfold plc
   have := ht.1
   rw [List.length_drop, bsOf_len]
   omega
  conv => rhs; rw [this]
  rw [← List.drop_drop, ← h1]
 conv => lhs; rw [← List.take_append_drop (t.length - r.length) t, e]
theorem snd_mk {kind : Int} {key : ByteArray} {text : List Int} {c : Nat} (hk : validB key = true) (ht : validB (ofBs text) = true) (h1 : 1 ≤ kind ∧ kind ≤ 7) (h2 : kind = 6 ∨ kind = 7 ∨ c = 0) (h3 : kind = 4 → numB (ofBs text) = true) (h4 : kind ≠ 4 → kind ≠ 5 → text = []) : sndB (mkN kind key text c) = true := by
 unfold sndB mkN
 dsimp only
 rw [hk, ht, decide_eq_true h1.1, decide_eq_true h1.2, decide_eq_false (by omega)]
 have e1 : (isMany ⟨kind, key, ofBs text, (c : Int)⟩ || decide ((c : Int) = 0)) = true := by
  simp only [isMany, Bool.or_eq_true, decide_eq_true_eq]
  omega
 rw [e1]
 by_cases k4 : kind = 4
 ·rw [if_pos k4, h3 k4]; rfl
 ·rw [if_neg k4]
  by_cases k5 : kind = 5
  ·rw [decide_eq_true k5]; rfl
  ·rw [h4 k4 k5, decide_eq_false k5]; rfl
def Vok (s : ByteArray) (d : Nat) (key : ByteArray) (t : List Int) (p : api_JNode × F) (r : List Int) : Prop := p.1.key = key ∧ Fit (.cons p.1 p.2 .nil) ∧ good sndB (.cons p.1 p.2 .nil) d true = true ∧ (valT p.1 p.2).length + r.length ≤ t.length
theorem good_leaf {x : api_JNode} {d : Nat} (h : sndB x = true) (hm : isMany x = false) : good sndB (.cons x .nil .nil) d true = true := by
 unfold good
 rw [h, hm]
 rfl
theorem good_many {x : api_JNode} {k : F} {d : Nat} (h : sndB x = true) (hm : isMany x = true) (hd : d < 64) (hk : good sndB k (d + 1) (isObj x) = true) (hn : isObj x = true → (keysF k).Nodup) : good sndB (.cons x k .nil) d true = true := by
 unfold good
 rw [h, hm, decide_eq_true hd, hk]
 have : (!isObj x || decide (keysF k).Nodup) = true := by
  cases ho : isObj x with
  | false => rfl
  | true => rw [decide_eq_true (hn ho)]; rfl
 rw [this]
 rfl
theorem good_key {x : api_JNode} {k s : F} {d : Nat} {obj : Bool} (h : good sndB (.cons x k .nil) d true = true) (hs : good sndB s d obj = true) (hk : obj = false → x.key = ⟨#[]⟩) : good sndB (.cons x k s) d obj = true := by
 unfold good at h ⊢
 rw [Bool.and_eq_true, Bool.and_eq_true, Bool.and_eq_true] at h
 obtain ⟨⟨⟨h1, h2⟩, h3⟩, h4⟩ := h
 rw [h1, h3, hs]
 cases obj with
 | true => rfl
 | false => rw [hk rfl]; rfl
section
variable {s : ByteArray}
theorem head_vok {d : Nat} {key : ByteArray} {t : List Int} (hr : Rest s t) (hk : validB key = true) {p : api_JNode × F} {r : List Int} (h : headL d key t = .done (.ok p r)) : Vok s d key t p r := by
 have hb := hr.bts
 have hd : ∀ r0 : Res (api_JNode × F), (∀ p r, r0 = .ok p r → Vok s d key t p r) → Head.done r0 = .done (.ok p r) → Vok s d key t p r := fun r0 g e => by
  injection e with e
  exact g _ _ e
 have leaf : ∀ (kind : Int) (text : List Int), (1 ≤ kind ∧ kind ≤ 7) → kind ≠ 6 → kind ≠ 7 → validB (ofBs text) = true → (kind = 4 → numB (ofBs text) = true) → (kind ≠ 4 → kind ≠ 5 → text = []) → (valT (mkN kind key text 0) .nil).length + r.length ≤ t.length → Vok s d key t (mkN kind key text 0, .nil) r := fun kind text h1 h6 h7 hv h3 h4 hl => by
  have hs := snd_mk (c := 0) hk hv h1 (.inr (.inr rfl)) h3 h4
  refine ⟨rfl, ⟨rfl, trivial, trivial⟩, good_leaf hs ?_, hl⟩
  show (decide (kind = 6) || decide (kind = 7)) = false
  rw [decide_eq_false h6, decide_eq_false h7]; rfl
 have hw : ∀ (kind : Int) (w : List Int), (1 ≤ kind ∧ kind ≤ 3) → (∀ x : api_JNode, x.kind = kind → valT x .nil = w) → ∀ p' r', wordH kind w key t = .ok p' r' → r' = r → Vok s d key t p' r' := fun kind w h1 hv p' r' h hrr => by
  unfold wordH at h
  have hl := wordL_len w t
  split at h
  ·rename_i g
   injection h with h2 h3
   have := hl.2 g
   subst hrr
   rw [← h2]
   refine leaf kind [] (by omega) (by omega) (by omega) valid_empty (fun h => by omega) (fun _ _ => rfl) ?_
   rw [hv (mkN kind key [] 0) rfl, ← h3]
   omega
  ·cases h
 unfold headL at h
 split at h
 ·have := h
  injection this with this
  exact hw 1 _ (by omega) (fun x hx => by unfold valT; rw [if_pos hx]) _ _ this rfl
 split at h
 ·have := h
  injection this with this
  exact hw 2 _ (by omega) (fun x hx => by unfold valT; rw [if_neg (by omega), if_pos hx]) _ _ this rfl
 split at h
 ·have := h
  injection this with this
  exact hw 3 _ (by omega) (fun x hx => by unfold valT; rw [if_neg (by omega), if_neg (by omega), if_pos hx]) _ _ this rfl
 split at h
 ·injection h with h
  unfold strH at h
  have hs := @strQ_sz t
  generalize strQ t = q at h hs
  obtain ⟨w, u⟩ := q
  cases w with
  | none => cases h
  | some b =>
   obtain ⟨s1, s2, s3⟩ := hs hb rfl
   injection h with h1 h2
   subst h2
   rw [← h1]
   refine leaf 5 b (by omega) (by omega) (by omega) s2 (fun h => by omega) (fun _ h => absurd rfl h) ?_
   have : valT (mkN 5 key b 0) .nil = quoteL b := by
    show quoteL (bsOf (ofBs b)) = _
    rw [bsOf_ofBs s3]
   rw [this]
   exact s1
 split at h
 ·rename_i g
  unfold manyH at h
  split at h
  ·injection h with h; cases h
  rename_i g6
  split at h
  ·rename_i g7
   injection h with h
   injection h with h1 h2
   have h3 := isL_tail g
   have h4 := isL_tail g7
   have h5 := blL_len t.tail
   subst h2
   rw [← h1]
   have hko : kindO (isL [123] t) = 6 ∨ kindO (isL [123] t) = 7 := by unfold kindO; split <;> omega
   have hs := snd_mk (kind := kindO (isL [123] t)) (text := []) (c := 0) hk valid_empty (by omega) (.inr (.inr rfl)) (fun h => by omega) (fun _ _ => rfl)
   refine ⟨rfl, ⟨rfl, trivial, trivial⟩, good_many hs ?_ (by omega) rfl (fun _ => List.nodup_nil), ?_⟩
   ·show (decide (kindO (isL [123] t) = 6) || decide (kindO (isL [123] t) = 7)) = true
    rw [Bool.or_eq_true, decide_eq_true_eq, decide_eq_true_eq]; exact hko
   ·have : (valT (mkN (kindO (isL [123] t)) key [] 0) .nil).length = 2 := by
     show (if kindO (isL [123] t) = 1 then _ else if kindO (isL [123] t) = 2 then _ else if kindO (isL [123] t) = 3 then _ else if kindO (isL [123] t) = 4 then _ else if kindO (isL [123] t) = 5 then _ else if kindO (isL [123] t) = 7 then ([123, 125] : List Int) else [91, 93]).length = 2
     rw [if_neg (by omega), if_neg (by omega), if_neg (by omega), if_neg (by omega), if_neg (by omega)]
     split <;> rfl
    rw [this]
    omega
  ·cases h
 ·injection h with h
  unfold numH at h
  have hl := numL_len t
  split at h
  ·rename_i g
   injection h with h1 h2
   subst h2
   rw [← h1]
   have hsp := rest_split hr hr.num hl.1
   have hbt : Bts (t.take (t.length - (numL t).2.length)) := hb.take _
   have hnum : numB (ofBs (t.take (t.length - (numL t).2.length))) = true := by
    rw [numB_L, bsOf_ofBs hbt]
    have h1' : (numL (t.take (t.length - (numL t).2.length) ++ (numL t).2)).1 = true := by rw [← hsp]; exact g
    have h2' : (numL t).2.length ≤ (numL (t.take (t.length - (numL t).2.length) ++ (numL t).2)).2.length := by rw [← hsp]; exact Nat.le_refl _
    obtain ⟨c1, c2⟩ := numL_cut h1' h2'
    rw [← hsp] at c2
    have c3 := congrArg (fun q => q.2.length) c2
    dsimp only at c3
    rw [List.length_append] at c3
    exact Prod.ext c1 (List.eq_nil_of_length_eq_zero (by omega))
   refine leaf 4 _ (by omega) (by omega) (by omega) (num_valid hnum) (fun _ => hnum) (fun h => absurd rfl h) ?_
   have : valT (mkN 4 key (t.take (t.length - (numL t).2.length)) 0) .nil = t.take (t.length - (numL t).2.length) := by
    show bsOf (ofBs _) = _
    rw [bsOf_ofBs hbt]
   rw [this, List.length_take]
   omega
  ·cases h
def Iok (d : Nat) (obj : Bool) (seen : List ByteArray) (t : List Int) (f : F) (r : List Int) : Prop := Fit f ∧ f ≠ .nil ∧ good sndB f d obj = true ∧ (obj = true → (keysF f).Nodup ∧ ∀ q ∈ keysF f, q ∉ seen) ∧ (textF f obj true).length + 1 + r.length ≤ t.length
theorem val_ok : ∀ (n : Nat), (∀ (d : Nat) (key : ByteArray) (t : List Int) (p : api_JNode × F) (r : List Int), t.length ≤ n → Rest s t → validB key = true → valN d key t = .ok p r → Vok s d key t p r) ∧ (∀ (d : Nat) (obj : Bool) (seen : List ByteArray) (t : List Int) (f : F) (r : List Int), t.length ≤ n → Rest s t → itemsN d obj seen t = .ok f r → Iok d obj seen t f r) := by
 intro n
 induction n using Nat.strongRecOn with
 | _ n ih =>
  have VV : ∀ (d : Nat) (key : ByteArray) (t : List Int) (p : api_JNode × F) (r : List Int), t.length ≤ n → Rest s t → validB key = true → valN d key t = .ok p r → Vok s d key t p r := by
   intro d key t p r hn hr hk h
   rw [valN_eq] at h
   have hs := headL_sh d key t
   have hrh := hr.head (d := d) (key := key)
   cases e : headL d key t with
   | done r0 =>
    rw [e] at h
    dsimp only at h
    subst h
    exact head_vok hr hk e
   | many obj t1 =>
    rw [e] at h
    dsimp only at h
    have hlt := hs.2 obj t1 e
    have hd : d < 64 ∧ isL [91, 123] t = true ∧ t1 = blL t.tail := by
     unfold headL at e
     split at e
     ·cases e
     split at e
     ·cases e
     split at e
     ·cases e
     split at e
     ·cases e
     split at e
     ·rename_i g
      unfold manyH at e
      split at e
      ·cases e
      rename_i g6
      split at e
      ·cases e
      ·injection e with _ e
       exact ⟨by omega, g, e.symm⟩
     ·cases e
    cases e2 : itemsN (d + 1) obj [] t1 with
    | no ee q => rw [e2] at h; cases h
    | ok k q =>
     rw [e2] at h
     injection h with h1 h2
     subst h2
     rw [← h1]
     obtain ⟨i1, i2, i3, i4, i5⟩ := (ih t1.length (by omega)).2 (d + 1) obj [] t1 k q (Nat.le_refl _) (hrh.2 obj t1 e) e2
     have hko : kindO obj = 6 ∨ kindO obj = 7 := by unfold kindO; split <;> omega
     have hso : isObj (mkN (kindO obj) key [] (cnt k)) = obj := by
      show decide (kindO obj = 7) = obj
      cases obj <;> rfl
     have hsn := snd_mk (kind := kindO obj) (text := []) (c := cnt k) hk valid_empty (by omega) (by omega) (fun h => by omega) (fun _ _ => rfl)
     refine ⟨rfl, ⟨rfl, i1, trivial⟩, good_many hsn ?_ hd.1 (by rw [hso]; exact i3) (fun h => by rw [hso] at h; exact (i4 h).1), ?_⟩
     ·show (decide (kindO obj = 6) || decide (kindO obj = 7)) = true
      rw [Bool.or_eq_true, decide_eq_true_eq, decide_eq_true_eq]; exact hko
     ·have : (valT (mkN (kindO obj) key [] (cnt k)) k).length = (textF k obj true).length + 2 := by
       show (if kindO obj = 1 then _ else if kindO obj = 2 then _ else if kindO obj = 3 then _ else if kindO obj = 4 then _ else if kindO obj = 5 then _ else if kindO obj = 7 then 123 :: (textF k true true ++ [125]) else 91 :: (textF k false true ++ [93])).length = _
       rw [if_neg (by omega), if_neg (by omega), if_neg (by omega), if_neg (by omega), if_neg (by omega)]
       cases obj with
       | true => rw [if_pos (by rfl), List.length_cons, List.length_append]; rfl
       | false => rw [if_neg (by decide), List.length_cons, List.length_append]; rfl
      rw [this]
      omega
  refine ⟨VV, fun d obj seen t f r hn hr h => ?_⟩
  rw [itemsN_eq] at h
  have hrk := hr.key (obj := obj) (seen := seen)
  have hkey : ∀ key t2, keyL obj seen t = .ok key t2 → (keyT ⟨0, key, ⟨#[]⟩, 0⟩ obj).length + t2.length ≤ t.length ∧ validB key = true ∧ (obj = true → key ∉ seen) ∧ (obj = false → key = ⟨#[]⟩) := by
   intro key t2 e
   cases obj with
   | false =>
    have e' : (Res.ok (⟨#[]⟩ : ByteArray) t) = .ok key t2 := e
    injection e' with e1 e2
    subst e1 e2
    exact ⟨by show 0 + _ ≤ _; omega, valid_empty, fun h => (by cases h), fun _ => rfl⟩
   | true =>
    unfold keyL at e
    rw [if_pos rfl] at e
    have hs := @strQ_sz t
    generalize strQ t = q at e hs
    obtain ⟨w, u⟩ := q
    cases w with
    | none => cases e
    | some b =>
     obtain ⟨s1, s2, s3⟩ := hs hr.bts rfl
     dsimp only at e
     by_cases g1 : inK (ofBs b) seen = true
     ·rw [if_pos g1] at e; cases e
     ·rw [if_neg g1] at e
      by_cases g2 : isL [58] (blL u) = true
      ·rw [if_pos g2] at e
       injection e with e1 e2
       subst e1 e2
       have h3 := isL_tail g2
       have h4 := blL_len u
       have h5 := blL_len (blL u).tail
       refine ⟨?_, s2, fun _ => inK_no.1 (by rw [Bool.not_eq_true] at g1; exact g1), fun h => by cases h⟩
       show (quoteL (bsOf (ofBs b)) ++ [58]).length + _ ≤ _
       rw [bsOf_ofBs s3, List.length_append, List.length_singleton]
       omega
      ·rw [if_neg g2] at e; cases e
  have hks := keyL_sh obj seen t
  cases e : keyL obj seen t with
  | no ee q => rw [e] at h; cases h
  | ok key t2 =>
   rw [e] at h hrk hks
   have hr2 : Rest s t2 := hrk
   have hks' : t2.length < t.length + 1 := hks
   obtain ⟨q1, q2, q3, q4⟩ := hkey key t2 e
   dsimp only at h
   have hvs := valN_sh d key t2
   have hrv := hr2.valN (d := d) (key := key)
   have hvv := VV d key t2
   cases e2 : valN d key t2 with
   | no ee q => rw [e2] at h; cases h
   | ok p q =>
    rw [e2] at h hvs hrv
    have hvs' : q.length < t2.length := hvs
    have hrq : Rest s q := hrv
    obtain ⟨v1, v2, v3, v4⟩ := hvv p q (by omega) hr2 q2 e2
    dsimp only at h
    have hl1 := blL_len q
    have hl2 := tail_le (blL q)
    have hl3 := blL_len (blL q).tail
    have hkl : (keyT p.1 obj).length = (keyT ⟨0, key, ⟨#[]⟩, 0⟩ obj).length := by unfold keyT; rw [v1]
    by_cases g1 : isL (endO obj) (blL q) = true
    ·rw [if_pos g1] at h
     injection h with h1 h2
     subst h1 h2
     have h3 := isL_tail g1
     refine ⟨v2, by simp, good_key v3 rfl (fun ho => by rw [v1]; exact q4 ho), fun ho => ⟨by simp [keysF], fun z hz => ?_⟩, ?_⟩
     ·simp only [keysF, List.mem_singleton] at hz
      rw [hz, v1]; exact q3 ho
     ·rw [textF_cons]
      show ([] ++ (keyT p.1 obj ++ (valT p.1 p.2 ++ []))).length + 1 + _ ≤ _
      rw [List.nil_append, List.append_nil, List.length_append]
      omega
    ·rw [if_neg g1] at h
     by_cases g2 : isL [44] (blL q) = true
     ·rw [if_pos g2] at h
      have h3 := isL_tail g2
      cases e3 : itemsN d obj (key :: seen) (blL (blL q).tail) with
      | no ee u => rw [e3] at h; cases h
      | ok f2 u =>
       rw [e3] at h
       injection h with h1 h2
       subst h1 h2
       obtain ⟨i1, i2, i3, i4, i5⟩ := (ih (blL (blL q).tail).length (by omega)).2 d obj (key :: seen) _ f2 u (Nat.le_refl _) hrq.bl.tail.bl e3
       obtain ⟨w1, w2, _⟩ := v2
       refine ⟨⟨w1, w2, i1⟩, by simp, good_key v3 i3 (fun ho => by rw [v1]; exact q4 ho), fun ho => ?_, ?_⟩
       ·obtain ⟨n1, n2⟩ := i4 ho
        refine ⟨?_, fun z hz hm => ?_⟩
        ·show (p.1.key :: keysF f2).Nodup
         rw [List.nodup_cons, v1]
         exact ⟨fun hm => n2 key hm (List.mem_cons_self ..), n1⟩
        ·have hz' : z ∈ p.1.key :: keysF f2 := hz
         rcases List.mem_cons.1 hz' with hz | hz
         ·rw [hz, v1] at hm; exact q3 ho hm
         ·exact n2 z hz (List.mem_cons_of_mem _ hm)
       ·rw [textF_cons]
        have e4 : (textF f2 obj false).length = (textF f2 obj true).length + 1 := by
         cases f2 with
         | nil => exact absurd rfl i2
         | cons x2 k2 s2 => rw [textF_cons, textF_cons]; simp only [List.length_append]; show 1 + _ = 0 + _ + 1; omega
        show ([] ++ (keyT p.1 obj ++ (valT p.1 p.2 ++ textF f2 obj false))).length + 1 + _ ≤ _
        rw [List.nil_append, List.length_append, List.length_append]
        omega
     ·rw [if_neg g2] at h; cases h
end
theorem text_sizes : ∀ (f : F) (d : Nat) (obj first : Bool), good sndB f d obj = true → ∀ x ∈ flat f, x.key.size ≤ (textF f obj first).length ∧ x.text.size ≤ (textF f obj first).length
 | .nil, d, obj, first, h, x, hx => by cases hx
 | .cons y k s, d, obj, first, h, x, hx => by
  obtain ⟨g1, g2, g3, g4, g5⟩ := good_parts h
  obtain ⟨f1, f2, f3, f4, f5⟩ := snd_facts g1
  rw [textF_cons]
  simp only [List.length_append]
  have hq : ∀ t : List Int, t.length ≤ (quoteL t).length := fun t => by
   have : ∀ t : List Int, t.length ≤ (t.flatMap escB).length := fun t => by
    induction t with
    | nil => exact Nat.le_refl _
    | cons a t ih =>
     rw [List.flatMap_cons, List.length_append, List.length_cons]
     have := (escB_len a).1
     omega
   unfold quoteL
   rw [List.length_cons, List.length_append]
   have := this t
   omega
  have hkey : y.key.size ≤ (keyT y obj).length := by
   cases obj with
   | false => rw [g2 rfl]; exact Nat.zero_le _
   | true =>
    show _ ≤ (quoteL (bsOf y.key) ++ [58]).length
    rw [List.length_append]
    have := hq (bsOf y.key)
    rw [bsOf_len] at this
    omega
  have hval : y.text.size ≤ (valT y k).length ∧ (isMany y = true → (textF k (isObj y) true).length ≤ (valT y k).length) := by
   unfold valT
   by_cases k1 : y.kind = 1
   ·rw [if_pos k1, f5 (by omega) (by omega)]
    exact ⟨Nat.zero_le _, fun h => by simp [isMany, k1] at h⟩
   rw [if_neg k1]
   by_cases k2 : y.kind = 2
   ·rw [if_pos k2, f5 (by omega) (by omega)]
    exact ⟨Nat.zero_le _, fun h => by simp [isMany, k2] at h⟩
   rw [if_neg k2]
   by_cases k3 : y.kind = 3
   ·rw [if_pos k3, f5 (by omega) (by omega)]
    exact ⟨Nat.zero_le _, fun h => by simp [isMany, k3] at h⟩
   rw [if_neg k3]
   by_cases k4 : y.kind = 4
   ·rw [if_pos k4, bsOf_len]
    exact ⟨Nat.le_refl _, fun h => by simp [isMany, k4] at h⟩
   rw [if_neg k4]
   by_cases k5 : y.kind = 5
   ·rw [if_pos k5]
    have := hq (bsOf y.text)
    rw [bsOf_len] at this
    exact ⟨this, fun h => by simp [isMany, k5] at h⟩
   rw [if_neg k5, f5 k4 k5]
   refine ⟨Nat.zero_le _, fun _ => ?_⟩
   by_cases k7 : y.kind = 7
   ·rw [if_pos k7, show isObj y = true from decide_eq_true k7, List.length_cons, List.length_append]; omega
   ·rw [if_neg k7, show isObj y = false from decide_eq_false k7, List.length_cons, List.length_append]; omega
  simp only [flat, List.mem_cons, List.mem_append] at hx
  rcases hx with rfl | hx | hx
  ·omega
  ·cases hm : isMany y with
   | false => rw [cnt_nil (g4 hm)] at hx; cases hx
   | true =>
    have := text_sizes k (d + 1) (isObj y) true (g3 hm).2.1 x hx
    have := hval.2 hm
    omega
  ·have := text_sizes s d obj false g5 x hx
   omega
theorem reads_law {s : ByteArray} (hs : s.size ≤ 1048576) : trellislaw25_JsonReads s true := by
 unfold trellislaw25_JsonReads
 refine ⟨_, started_ok, ?_⟩
 rw [if_pos rfl]
 refine ⟨_, jparse_ok (by omega), ?_⟩
 cases e : parseL (bsOf s) with
 | no ee r =>
  have h0 := parse_err e
  have hpl := plc_le (s := s) r
  rw [if_neg (show ¬ (parseR s (.no ee r)).2.1 = 0 by show ¬ ee = 0; omega)]
  have yes : trellislaw25_JsonReads_j1 (((parseR s (.no ee r)).1.length : Int) == 0) true := rfl
  have hge : (parseR s (.no ee r)).2.2 ≥ 0 := by show (plc s r : Int) ≥ 0; omega
  have hle : (parseR s (.no ee r)).2.2 ≤ (s.size : Int) := by show (plc s r : Int) ≤ _; omega
  by_cases h1 : ee = 250
  ·rw [if_pos (show (parseR s (.no ee r)).2.1 = 250 from h1), if_pos hge, if_pos hle]; exact yes
  ·rw [if_neg (show ¬ (parseR s (.no ee r)).2.1 = 250 from h1), if_pos (show (parseR s (.no ee r)).2.1 = 251 by show ee = 251; omega), if_pos hge, if_pos hle]; exact yes
 | ok f r =>
  have hw := Rest.whole (s := s)
  unfold parseL at e
  have hbl := blL_len (bsOf s)
  rw [bsOf_len] at hbl
  cases e2 : valN 0 ⟨#[]⟩ (blL (bsOf s)) with
  | no ee q => rw [e2] at e; cases e
  | ok p q =>
   rw [e2] at e
   dsimp only at e
   obtain ⟨v1, v2, v3, v4⟩ := (val_ok (s := s) _).1 0 ⟨#[]⟩ (blL (bsOf s)) p q (Nat.le_refl _) hw.1.bl valid_empty e2
   have hsz := valN_sz e2
   by_cases g : blL q = []
   ·rw [if_pos g] at e
    injection e with e3 e4
    subst e3
    have hg : good sndB (.cons p.1 p.2 .nil) 0 false = true := good_key v3 rfl (fun _ => v1)
    have hv : Sz (flat (.cons p.1 p.2 .nil)) ∧ (flat (.cons p.1 p.2 .nil)).length ≤ 1048576 ∧ ∀ x ∈ flat (.cons p.1 p.2 .nil), x.key.size ≤ 1048576 ∧ x.text.size ≤ 1048576 := by
     have hlen : (flat (.cons p.1 p.2 .nil)).length ≤ 1048576 := by simp only [flat, List.append_nil, List.length_cons]; omega
     have hx : ∀ x ∈ flat (.cons p.1 p.2 .nil), x.key.size ≤ 1048576 ∧ x.text.size ≤ 1048576 := fun x hx => by
      have h1 := text_sizes _ 0 false true hg x hx
      rw [textF_cons] at h1
      have h2 : (sepT true ++ (keyT p.1 false ++ (valT p.1 p.2 ++ textF .nil false false))).length = (valT p.1 p.2).length := by
       show ([] ++ ([] ++ (valT p.1 p.2 ++ []))).length = _
       simp
      rw [h2] at h1
      omega
     exact ⟨⟨by omega, fun x hx' => by have := hx x hx'; omega⟩, hlen, hx⟩
    obtain ⟨hz, hlen, hxs⟩ := hv
    have hcs : cszL (flat (.cons p.1 p.2 .nil)) ≤ LIM := by
     have h1 := cszL_le (B := 1048576) _ hxs
     have h2 : (flat (.cons p.1 p.2 .nil)).length * (12 * 1048576 + 12) ≤ 1048576 * (12 * 1048576 + 12) := Nat.mul_le_mul_right _ hlen
     have hL : LIM = 211106232532992 := rfl
     omega
    rw [if_pos (show (parseR s (.ok (.cons p.1 p.2 .nil) r)).2.1 = 0 from rfl)]
    refine ⟨_, jprint_yes hz v2 rfl hg hcs, _, jparse_back v2 rfl hg (by omega), ?_⟩
    rw [if_pos (show (parseR s (.ok (.cons p.1 p.2 .nil) r)).2.2 = 0 from rfl)]
    refine ⟨true, by have := jshaped_ok hz; rwa [shaped_iff.2 ⟨_, _, v2, rfl, hg⟩] at this, ?_⟩
    rw [if_pos rfl, if_pos rfl, if_pos (by dsimp only; rw [ofBs_size]; omega), if_pos rfl]
    have := same_ok (v := flat (.cons p.1 p.2 .nil)) (w := flat (.cons p.1 p.2 .nil)) (by omega)
    rw [decide_eq_true rfl] at this
    exact ⟨_, this, rfl⟩
   ·rw [if_neg g] at e; cases e
end Go.Proofs.YtmfopcbjgbphaaaDoor.L
