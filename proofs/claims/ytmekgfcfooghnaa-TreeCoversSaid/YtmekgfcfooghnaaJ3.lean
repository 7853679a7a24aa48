/- Trees as texts: Text of the program and of the document answer the same. Conditions: sizes. -/
import Derived.Test.YtmekgfcfooghnaaJ2
set_option linter.unusedVariables false
namespace Go.Proofs.Ytmekgfcfooghnaa.L
open Go.Proofs.Ytmekgfcfooghnaa.B Go.Proofs.Ytmekgfcfooghnaa.R
theorem clo_len {t : List api_Node} {e : Nat} : ∀ l : List Int, (clo t e l).2 ≤ l.length
 | [] => Nat.le_refl _
 | k :: l => by
  unfold clo
  split
  ·have := clo_len (t := t) (e := e) l
   simp only [List.length_cons]; omega
  ·exact Nat.zero_le _
theorem txG_self {t : List api_Node} (f a : Nat) : txG t f a a = [] := by
 cases f with
 | zero => rfl
 | succ f => unfold txG; rw [if_neg (Nat.lt_irrefl _)]
theorem seg_run {t : List api_Node} {fo : tree_forest} {r0 : ByteArray} (hl : Fits t) (hE : ∀ k : Nat, k < t.length → k < fo.end_.length ∧ ix fo.end_ (k : Int) = (endF t k : Int)) (hn : ∀ i, i < t.length → (ix t (i : Int)).name.size ≤ 2 ^ 44 ∧ (ix t (i : Int)).field.size ≤ 2 ^ 44) :
  ∀ (f a : Nat) {S : List (Tre × Nat)} {m : Nat} {l : List Int} {b : Bool} {out : List Int}, At t a S → m ≤ S.length → 1 ≤ m → t.length - a < f → l.length ≤ a → (∀ k ∈ l, 0 ≤ k ∧ k < (a : Int) ∧ en a (S.take m) ≤ endF t k.toNat) →
  out.length + (txG t f a (en a (S.take m))).length + t.length + 1 ≤ 2 ^ 46 →
  Rounds (fun (s : (List Int) × Int × Bool × (List Int)) o => tree_Text_b1 t fo s.1 s.2.1 s.2.2.1 s.2.2.2 o) ((clo t (en a (S.take m)) l).1.reverse, ((en a (S.take m) : Nat) : Int), true, out ++ txG t f a (en a (S.take m)) ++ List.replicate (clo t (en a (S.take m)) l).2 41) r0 →
  Rounds (fun (s : (List Int) × Int × Bool × (List Int)) o => tree_Text_b1 t fo s.1 s.2.1 s.2.2.1 s.2.2.2 o) (l.reverse, (a : Int), b, out) r0 := by
 intro f
 induction f with
 | zero => intro a S m l b out _ _ _ h; omega
 | succ f ih =>
  intro a S m l b out h hm h1 hf hla hk ho hR
  have hlt := (seg_end h hm).2.2.resolve_left (by omega)
  have hele := (seg_end h hm).2.1
  obtain ⟨x, e1, r, ts, m', rfl, rfl, g1, g2, g3, g4, g5, g6, g7, g8, g9, g10, g11, g12, g13⟩ := seg_hd h hm hlt
  have hseg2 := seg_end g6 g1
  rw [g7] at hseg2
  have hG : txG t (f + 1) a (en a (((x, e1) :: r).take (m' + 1))) = spL a ++ (fldL (ix t (a : Int)) ++ ((if brF (ix t (a : Int)) = true then [40] ++ (hdL (ix t (a : Int)) ++ (txG t f (a + 1) e1 ++ [41])) else hdL (ix t (a : Int))) ++ txG t f e1 (en a (((x, e1) :: r).take (m' + 1))))) := by
   rw [txG, if_pos hlt, g5]
  rw [hG] at ho hR
  generalize en a (((x, e1) :: r).take (m' + 1)) = e at *
  have hkl : ∀ k ∈ l, 0 ≤ k ∧ k < (t.length : Int) := fun k h => by have := hk k h; omega
  have hkr : ∀ k ∈ l, 0 ≤ k ∧ k < (e1 : Int) ∧ e ≤ endF t k.toNat := fun k h => by have := hk k h; omega
  have hrest : ∀ {b : Bool} {o1 : List Int}, m' ≠ 0 → o1.length + (txG t f e1 e).length + t.length + 1 ≤ 2 ^ 46 →
    Rounds (fun (s : (List Int) × Int × Bool × (List Int)) o => tree_Text_b1 t fo s.1 s.2.1 s.2.2.1 s.2.2.2 o) ((clo t e l).1.reverse, (e : Int), true, o1 ++ txG t f e1 e ++ List.replicate (clo t e l).2 41) r0 →
    Rounds (fun (s : (List Int) × Int × Bool × (List Int)) o => tree_Text_b1 t fo s.1 s.2.1 s.2.2.1 s.2.2.2 o) (l.reverse, (e1 : Int), b, o1) r0 := fun {b o1} hm' h2 h3 => by
   have := ih e1 (S := r) (m := m') (l := l) (b := b) (out := o1) g6 g1 (by omega) (by omega) (by omega)
   rw [g7] at this
   exact this hkr h2 h3
  have hcl := clo_len (t := t) (e := a + 1) (if brF (ix t (a : Int)) = true then (a : Int) :: l else l)
  have hcl2 : (if brF (ix t (a : Int)) = true then (a : Int) :: l else l).length ≤ a + 1 := by
   split
   ·rw [List.length_cons]; omega
   ·omega
  simp only [List.length_append] at ho
  have hnode := node_run (f := fo) g2 hl hE (l := l) (b := b) (out := out) hkl hla (hn a g2) (by omega) (by
   simp only [List.length_append]
   cases hbr : brF (ix t (a : Int)) with
   | true => rw [hbr] at ho; simp only [if_true, List.length_append] at ho ⊢; omega
   | false => rw [hbr] at ho; simp only [Bool.false_eq_true, if_false, List.length_append, List.length_nil] at ho ⊢; omega)
  refine Rounds.next hnode ?_
  rcases Nat.eq_zero_or_pos ts.length with hts | hts
  ·obtain rfl := List.eq_nil_of_length_eq_zero hts
   rw [List.length_nil, List.take_zero, en_nil] at g9
   subst g9
   rw [txG_self] at hR ho
   have hst : (if brF (ix t (a : Int)) = true then (a : Int) :: l else l) = l ∧ brF (ix t (a : Int)) = false ∨ (if brF (ix t (a : Int)) = true then (a : Int) :: l else l) = (a : Int) :: l ∧ brF (ix t (a : Int)) = true := by
    cases brF (ix t (a : Int)) <;> simp
   have hcs : ∀ B : List Int, (clo t (a + 1) (if brF (ix t (a : Int)) = true then (a : Int) :: l else l)).1 = (clo t (a + 1) l).1 ∧ B ++ (spL a ++ (fldL (ix t (a : Int)) ++ ((if brF (ix t (a : Int)) = true then [40] else []) ++ hdL (ix t (a : Int))))) ++ List.replicate (clo t (a + 1) (if brF (ix t (a : Int)) = true then (a : Int) :: l else l)).2 41 =
     B ++ (spL a ++ (fldL (ix t (a : Int)) ++ (if brF (ix t (a : Int)) = true then [40] ++ (hdL (ix t (a : Int)) ++ ([] ++ [41])) else hdL (ix t (a : Int))))) ++ List.replicate (clo t (a + 1) l).2 41 := fun B => by
    rcases hst with ⟨e1', hb⟩ | ⟨e1', hb⟩
    ·rw [e1', hb]; simp
    ·rw [e1', hb]
     have hc : clo t (a + 1) ((a : Int) :: l) = ((clo t (a + 1) l).1, (clo t (a + 1) l).2 + 1) := by rw [clo, Int.toNat_natCast, if_pos g5]
     rw [hc]
     refine ⟨rfl, ?_⟩
     dsimp only
     rw [List.replicate_succ]
     simp [List.append_assoc]
   rw [(hcs out).1, (hcs out).2]
   rcases Nat.eq_zero_or_pos m' with hm0 | hm0
   ·subst hm0
    rw [List.take_zero, en_nil] at g7
    subst g7
    rw [txG_self, List.append_nil] at hR
    exact hR
   ·have hlt2 := hseg2.2.2.resolve_left (by omega)
    rw [clo_no (fun k h => by have := hkr k h; omega)]
    rw [List.replicate_zero, List.append_nil]
    refine hrest (by omega) ?_ ?_
    ·simp only [List.length_append]
     cases hbr : brF (ix t (a : Int)) with
     | true => rw [hbr] at ho; simp only [if_true, List.length_append] at ho ⊢; omega
     | false => rw [hbr] at ho; simp only [Bool.false_eq_true, if_false, List.length_append] at ho ⊢; omega
    ·simpa [List.append_assoc] using hR
  ·have hbr : brF (ix t (a : Int)) = true := by unfold brF; rw [g12, decide_eq_true (by omega), Bool.or_true]
   have hseg3 := seg_end g8 (m := ts.length) (by simp)
   rw [g9] at hseg3
   have hlt3 := hseg3.2.2.resolve_left (by omega)
   rw [hbr] at ho hR hnode ⊢
   simp only [if_true] at ho hR ⊢
   have hno : clo t (a + 1) ((a : Int) :: l) = ((a : Int) :: l, 0) := clo_no (fun k h => by
    rcases List.mem_cons.1 h with rfl | h
    ·rw [Int.toNat_natCast, g5]; exact hlt3
    ·have := hkr k h; omega)
   rw [hno]
   rw [List.replicate_zero, List.append_nil]
   simp only [List.length_append] at ho
   have hi := ih (a + 1) (S := ts ++ r) (m := ts.length) (l := (a : Int) :: l) (b := true) (out := out ++ (spL a ++ (fldL (ix t (a : Int)) ++ ([40] ++ hdL (ix t (a : Int)))))) g8 (by simp) hts (by omega) (by simp; omega)
   rw [g9] at hi
   refine hi (fun k h => ?_) (by simp only [List.length_append]; omega) ?_
   ·rcases List.mem_cons.1 h with rfl | h
    ·rw [Int.toNat_natCast, g5]; omega
    ·have := hk k h; omega
   ·have hc : clo t e1 ((a : Int) :: l) = ((clo t e1 l).1, (clo t e1 l).2 + 1) := by rw [clo, Int.toNat_natCast, if_pos g5]
    rw [hc]
    dsimp only
    rcases Nat.eq_zero_or_pos m' with hm0 | hm0
    ·subst hm0
     rw [List.take_zero, en_nil] at g7
     subst g7
     rw [txG_self, List.append_nil] at hR
     rw [List.replicate_succ]
     simpa [List.append_assoc] using hR
    ·have hlt2 := hseg2.2.2.resolve_left (by omega)
     rw [clo_no (fun k h => by have := hkr k h; omega)]
     refine hrest (by omega) ?_ ?_
     ·simp only [List.length_append, List.length_replicate]
      simp only [List.length_singleton] at ho ⊢
      omega
     ·simpa [List.append_assoc] using hR
def textF (t : List api_Node) : ByteArray := if (sf t 0).isSome = true then ofBs (txG t (t.length + 1) 0 t.length) else ⟨#[]⟩
structure TxOk (t : List api_Node) : Prop where
 nm : ∀ i, i < t.length → (ix t (i : Int)).name.size ≤ 2 ^ 44 ∧ (ix t (i : Int)).field.size ≤ 2 ^ 44
 tx : (txG t (t.length + 1) 0 t.length).length + t.length + 1 ≤ 2 ^ 46
theorem Text_ok {t : List api_Node} (hl : Fits t) (hw : Wf t) (ht : (sf t 0).isSome = true → TxOk t) : tree_Text t (textF t) := by
 obtain ⟨f, f1, f2⟩ := plant_ok (t := t) (by omega) hw
 unfold tree_Text textF
 refine ⟨f, f1, ?_⟩
 rw [f2.2.2.2.1]
 cases h : sf t 0 with
 | none => rw [if_neg (by simp), if_neg (by simp)]
 | some S =>
  replace ht := ht (by rw [h]; rfl)
  simp only [Option.isSome_some, if_true]
  have hA : At t 0 S := ⟨Nat.zero_le _, h⟩
  have hens := hA.ens
  have hE : ∀ k : Nat, k < t.length → k < f.end_.length ∧ ix f.end_ (k : Int) = (endF t k : Int) := fun k hk => by
   obtain ⟨_, x, e, r, q1, q2⟩ := f2.2.2.2.2 S h k hk
   exact ⟨by rw [f2.2.2.1]; exact hk, by rw [q2, end_at' q1]⟩
  have fin : ∀ (b : Bool) (out : List Int), Rounds (fun (s : (List Int) × Int × Bool × (List Int)) o => tree_Text_b1 t f s.1 s.2.1 s.2.2.1 s.2.2.2 o) (([] : List Int), (t.length : Int), b, out) (ofBs out) := fun b out => by
   refine Rounds.done ?_
   show tree_Text_b1 t f [] (t.length : Int) b out _
   unfold tree_Text_b1
   rw [if_neg (by omega)]
   exact ⟨_, rfl, rfl⟩
  rcases Nat.eq_zero_or_pos S.length with h0 | h0
  ·obtain rfl := List.eq_nil_of_length_eq_zero h0
   rw [en_nil] at hens
   have := fin false []
   rw [← hens] at this ⊢
   rw [txG_self]
   exact this
  ·have := seg_run (r0 := ofBs (txG t (t.length + 1) 0 t.length)) hl hE ht.nm (t.length + 1) 0 (m := S.length) (l := []) (b := false) (out := []) hA (Nat.le_refl _) h0 (by omega) (Nat.le_refl _) (fun k hk => by cases hk)
   rw [List.take_length, hens] at this
   refine this (by have := ht.tx; simpa using this) ?_
   have := fin true (txG t (t.length + 1) 0 t.length)
   simpa [clo] using this
theorem sz_ofBs (l : List Int) : (ofBs l).size = l.length := ofBs_size l
theorem refText_at {t : List api_Node} (hl : Fits t) (hn : ∀ i, i < t.length → (ix t (i : Int)).name.size ≤ 2 ^ 44 ∧ (ix t (i : Int)).field.size ≤ 2 ^ 44) : ∀ (f a : Nat) {x : Tre} {e : Nat} {r : List (Tre × Nat)}, t.length - a < f → At t a ((x, e) :: r) → (txB t a).length ≤ 2 ^ 46 → trellisref15_text_n f x (ofBs (txB t a)) := by
 intro f
 induction f with
 | zero => intro a x e r h; omega
 | succ f ih =>
  intro a x e r hf h hT
  have hlt : a < en a (((x, e) :: r).take 1) := (seg_end h (m := 1) (by simp)).2.2.resolve_left (by omega)
  obtain ⟨x', e', r', ts, m', hS, hm', g1, g2, g3, g4, g5, g6, g7, g8, g9, g10, g11, g12, g13⟩ := seg_hd h (by simp) hlt
  injection hS with hS1 hS2
  injection hS1 with hS1 hS3
  subst hS1; subst hS3; subst hS2
  have hnm := hn a g2
  have hfl : (fldL (ix t (a : Int))).length ≤ (txB t a).length := by unfold txB; simp only [List.length_append]; omega
  have hkt : ∀ j, j ≤ ts.length → txG t (t.length + 1) (a + 1) (en (a + 1) ((ts ++ r).take j)) = ((ts ++ r).take j).flatMap fun y => spL y.1.at_.toNat ++ txB t y.1.at_.toNat := fun j hj => txG_seg j (a + 1) g8 (by rw [List.length_append]; omega) (by omega)
  have hkall : txG t (t.length + 1) (a + 1) (endF t a) = ts.flatMap fun y => spL y.1.at_.toNat ++ txB t y.1.at_.toNat := by
   have := hkt ts.length (Nat.le_refl _)
   rw [g9, List.take_append_of_le_length (Nat.le_refl _), List.take_length] at this
   rw [g5, this]
  have hq := refQuoted_ok hnm.1
  have hkl : x.kids.length = ts.length := by rw [g10, List.length_map]
  have htl : ts.length ≤ t.length := by
   have := (sf_en _ _ g8.2).2
   rw [List.length_drop, List.length_append] at this
   omega
  have j3 : ∀ (hd : ByteArray), bsOf hd = hdL (ix t (a : Int)) → trellisref15_text_j3 (ofBs (fldL (ix t (a : Int)))) hd x (trellisref15_text_n f) (!brF (ix t (a : Int))) (ofBs (txB t a)) := fun hd hh => by
   have hz := size_bs hh
   have hd' : hd = ofBs (hdL (ix t (a : Int))) := by rw [← hh, ofBs_bsOf]
   unfold trellisref15_text_j3
   cases hb : brF (ix t (a : Int)) with
   | false =>
    have e1 : txB t a = fldL (ix t (a : Int)) ++ hdL (ix t (a : Int)) := by unfold txB; rw [hb, if_neg (by simp)]
    rw [e1] at hT ⊢
    rw [List.length_append] at hT
    rw [if_pos (show (!false) = true from rfl)]
    exact ⟨by rw [sz_ofBs, hz]; omega, by rw [ofBs_app, hd']⟩
   | true =>
    have e1 : txB t a = fldL (ix t (a : Int)) ++ ([40] ++ (hdL (ix t (a : Int)) ++ ((ts.flatMap fun y => spL y.1.at_.toNat ++ txB t y.1.at_.toNat) ++ [41]))) := by rw [show txB t a = fldL (ix t (a : Int)) ++ (if brF (ix t (a : Int)) = true then [40] ++ (hdL (ix t (a : Int)) ++ (txG t (t.length + 1) (a + 1) (endF t a) ++ [41])) else hdL (ix t (a : Int))) from rfl, hb, if_pos rfl, hkall]
    rw [e1] at hT ⊢
    simp only [List.length_append, List.length_singleton] at hT
    have z1 : (⟨#[40]⟩ : ByteArray).size = 1 := rfl
    have z2 : (⟨#[32]⟩ : ByteArray).size = 1 := rfl
    have z3 : (⟨#[41]⟩ : ByteArray).size = 1 := rfl
    rw [if_neg (by simp)]
    refine ⟨by rw [sz_ofBs, z1]; omega, by rw [ByteArray.size_append, sz_ofBs, z1, hz]; omega, ?_⟩
    have hpre : ∀ j, j ≤ ts.length → ((ts.take j).flatMap fun y => spL y.1.at_.toNat ++ txB t y.1.at_.toNat).length ≤ (ts.flatMap fun y => spL y.1.at_.toNat ++ txB t y.1.at_.toNat).length := fun j _ => by
     rw [← List.take_append_drop j ts]
     rw [List.flatMap_append, List.length_append]
     rw [List.take_append_drop]
     exact Nat.le_add_right _ _
    have key := Rounds.upto (B := fun (s : ByteArray × Int) o => trellisref15_text_b4 x (trellisref15_text_n f) s.1 s.2 o) (r := ofBs (fldL (ix t (a : Int)) ++ ([40] ++ (hdL (ix t (a : Int)) ++ ((ts.flatMap fun y => spL y.1.at_.toNat ++ txB t y.1.at_.toNat) ++ [41])))))
     (fun j => (ofBs (fldL (ix t (a : Int)) ++ ([40] ++ (hdL (ix t (a : Int)) ++ ((ts.take j).flatMap fun y => spL y.1.at_.toNat ++ txB t y.1.at_.toNat)))), (j : Int))) ts.length (fun j hj => ?_) ?_
    ·have e0 : ofBs (fldL (ix t (a : Int))) ++ (⟨#[40]⟩ : ByteArray) ++ hd = ofBs (fldL (ix t (a : Int)) ++ ([40] ++ (hdL (ix t (a : Int)) ++ ((ts.take 0).flatMap fun y => spL y.1.at_.toNat ++ txB t y.1.at_.toNat)))) := by
      rw [hd', List.take_zero, List.flatMap_nil, List.append_nil, ← List.append_assoc, ofBs_app, ofBs_app]
      rfl
     rw [e0]
     exact key
    ·show trellisref15_text_b4 x _ (ofBs _) (j : Int) _
     obtain ⟨a1, a2⟩ := g8.nth (j := j) (by rw [List.length_append]; omega)
     rw [List.getElem_append_left hj] at a1
     rw [List.take_append_of_le_length (by omega)] at a1 a2
     obtain ⟨p1, p2, p3, p4, p5⟩ := a1.pos
     have hsp : spL (en (a + 1) (ts.take j)) = [32] := by unfold spL; rw [if_neg (by omega)]
     have hall := hpre (j + 1) hj
     rw [List.take_succ_eq_append_getElem hj, List.flatMap_append, List.length_append] at hall
     simp only [List.flatMap_cons, List.flatMap_nil, List.append_nil] at hall
     rw [p2, Int.toNat_natCast, hsp, List.length_append, List.length_singleton] at hall
     unfold trellisref15_text_b4
     rw [hkl, if_pos (by omega), w64_nat (by omega)]
     have hix : ix x.kids (j : Int) = ts[j].1 := by
      rw [ix_nat (by omega)]
      simp only [g10, List.getElem_map]
     refine ⟨by omega, _, by rw [hix]; exact ih _ (by omega) a1 (by omega), ?_⟩
     refine ⟨by rw [sz_ofBs, z2]; simp only [List.length_append, List.length_singleton]; omega, by rw [ByteArray.size_append, sz_ofBs, sz_ofBs, z2]; simp only [List.length_append, List.length_singleton]; omega, ?_⟩
     rw [List.take_succ_eq_append_getElem hj, List.flatMap_append]
     simp only [List.flatMap_cons, List.flatMap_nil, List.append_nil]
     rw [p2, Int.toNat_natCast, hsp]
     refine congrArg (fun z : ByteArray => (Sum.inl (z, (j : Int) + 1) : Sum (ByteArray × Int) ByteArray)) ?_
     have e2 : (⟨#[32]⟩ : ByteArray) = ofBs [32] := rfl
     rw [e2, ← ofBs_app, ← ofBs_app]
     simp [List.append_assoc]
    ·show trellisref15_text_b4 x _ (ofBs _) (ts.length : Int) _
     unfold trellisref15_text_b4
     rw [hkl, if_neg (by omega), List.take_length]
     refine ⟨by rw [sz_ofBs, z3]; simp only [List.length_append, List.length_singleton]; omega, ?_⟩
     refine congrArg (Sum.inr (α := ByteArray × Int)) ?_
     have e2 : (⟨#[41]⟩ : ByteArray) = ofBs [41] := rfl
     rw [e2, ← ofBs_app]
     simp [List.append_assoc]
  have j2 : ∀ (hd : ByteArray), bsOf hd = hdL (ix t (a : Int)) → trellisref15_text_j2 x (ofBs (fldL (ix t (a : Int)))) (trellisref15_text_n f) hd (ofBs (txB t a)) := fun hd hh => by
   unfold trellisref15_text_j2
   have := j3 hd hh
   rw [g11]
   by_cases g : (ix t (a : Int)).named = true
   ·rw [if_pos g]
    have e : brF (ix t (a : Int)) = true := by unfold brF; rw [g]; rfl
    rw [e] at this
    exact this
   ·rw [if_neg g]
    have e : brF (ix t (a : Int)) = decide ((ix t (a : Int)).kids > 0) := by unfold brF; rw [Bool.eq_false_iff.2 g]; rfl
    have e3 : (!decide ((ix t (a : Int)).kids > 0)) = ((x.kids.length : Int) == 0) := by
     rw [g12, hkl]
     by_cases hz : ts.length = 0
     ·rw [hz]; rfl
     ·rw [decide_eq_true (by omega), beq_eq_false_iff_ne.2 (by omega)]; rfl
    rw [e, e3] at this
    exact this
  have j1 : trellisref15_text_j1 x (trellisref15_text_n f) (ofBs (fldL (ix t (a : Int)))) (ofBs (txB t a)) := by
   unfold trellisref15_text_j1
   rw [g11]
   by_cases g : (ix t (a : Int)).named = true
   ·rw [if_pos g]
    exact j2 _ (by unfold hdL; rw [if_pos g])
   ·rw [if_neg g]
    exact ⟨_, hq, j2 _ (by unfold hdL; rw [if_neg g, bsOf_ofBs (qL_bts _)])⟩
  show trellisref15_text_body (trellisref15_text_n f) x _
  unfold trellisref15_text_body
  rw [g11]
  by_cases g : (ix t (a : Int)).field = (⟨#[]⟩ : ByteArray)
  ·rw [if_pos g]
   have e : fldL (ix t (a : Int)) = [] := by unfold fldL; rw [if_pos g]
   rw [e] at j1
   exact j1
  ·rw [if_neg g]
   have zz : (⟨#[58, 32]⟩ : ByteArray).size = 2 := rfl
   have e : ofBs (fldL (ix t (a : Int))) = (ix t (a : Int)).field ++ (⟨#[58, 32]⟩ : ByteArray) := by
    unfold fldL
    rw [if_neg g, ofBs_app, ofBs_bsOf]
    rfl
   rw [e] at j1
   exact ⟨by rw [zz]; omega, j1⟩
theorem refText_ok {t : List api_Node} (hl : Fits t) (ht : (sf t 0).isSome = true → TxOk t) : trellisref15_Text t (textF t) := by
 unfold trellisref15_Text textF
 cases h : sf t 0 with
 | none =>
  refine ⟨_, forest_no hl h, ?_⟩
  rw [if_neg (by simp)]
  refine Rounds.done ?_
  show trellisref15_Text_b1 _ (⟨#[]⟩ : ByteArray) 0 _
  unfold trellisref15_Text_b1
  rw [if_neg (by simp)]
 | some S =>
  replace ht := ht (by rw [h]; rfl)
  refine ⟨_, forest_ok hl h, ?_⟩
  simp only [Option.isSome_some, if_true]
  have hA : At t 0 S := ⟨Nat.zero_le _, h⟩
  have hS := (sf_en (l := t) (a := 0) h).2
  have hT := ht.tx
  have hkt : ∀ j, j ≤ S.length → txG t (t.length + 1) 0 (en 0 (S.take j)) = (S.take j).flatMap fun y => spL y.1.at_.toNat ++ txB t y.1.at_.toNat := fun j hj => txG_seg j 0 hA hj (by omega)
  have hall := hkt S.length (Nat.le_refl _)
  rw [List.take_length, hA.ens] at hall
  rw [hall] at hT ⊢
  have hpre : ∀ j, j ≤ S.length → ((S.take j).flatMap fun y => spL y.1.at_.toNat ++ txB t y.1.at_.toNat).length ≤ (S.flatMap fun y => spL y.1.at_.toNat ++ txB t y.1.at_.toNat).length := fun j _ => by
   rw [← List.take_append_drop j S]
   rw [List.flatMap_append, List.length_append]
   rw [List.take_append_drop]
   exact Nat.le_add_right _ _
  have key := Rounds.upto (B := fun (s : ByteArray × Int) o => trellisref15_Text_b1 (S.map (·.1), true) s.1 s.2 o) (r := ofBs (S.flatMap fun y => spL y.1.at_.toNat ++ txB t y.1.at_.toNat)) (fun j => (ofBs ((S.take j).flatMap fun y => spL y.1.at_.toNat ++ txB t y.1.at_.toNat), (j : Int))) S.length (fun j hj => ?_) ?_
  ·show Rounds _ (ofBs [], 0) _
   simpa using key
  ·show trellisref15_Text_b1 _ (ofBs _) (j : Int) _
   obtain ⟨a1, a2⟩ := hA.nth (j := j) hj
   obtain ⟨p1, p2, p3, p4, p5⟩ := a1.pos
   have hall2 := hpre (j + 1) hj
   rw [List.take_succ_eq_append_getElem hj, List.flatMap_append, List.length_append] at hall2
   simp only [List.flatMap_cons, List.flatMap_nil, List.append_nil] at hall2
   rw [p2, Int.toNat_natCast, List.length_append] at hall2
   unfold trellisref15_Text_b1
   have hml : (S.map (·.1)).length = S.length := by simp
   rw [if_pos (by rw [hml]; omega), w64_nat (by omega)]
   have hix : ix (S.map (·.1)) (j : Int) = S[j].1 := by rw [ix_nat (by omega)]; simp
   have z2 : (⟨#[32]⟩ : ByteArray).size = 1 := rfl
   refine ⟨by rw [hml]; omega, _, by rw [hix]; exact ⟨t.length + 1, refText_at hl ht.nm _ _ (by omega) a1 (by omega)⟩, ?_⟩
   rw [List.take_succ_eq_append_getElem hj, List.flatMap_append]
   simp only [List.flatMap_cons, List.flatMap_nil, List.append_nil]
   rw [p2, Int.toNat_natCast]
   rcases Nat.eq_zero_or_pos j with h0 | h0
   ·subst h0
    have hsp : spL (en 0 (S.take 0)) = [] := rfl
    rw [if_neg (by omega)]
    refine ⟨by rw [sz_ofBs, sz_ofBs]; omega, ?_⟩
    rw [hsp, List.nil_append, ofBs_app]
    rfl
   ·have hpos : 0 < en 0 (S.take j) := by
     have := (seg_end hA (m := j) (by omega)).2.2.resolve_left (by omega)
     exact this
    have hsp : spL (en 0 (S.take j)) = [32] := by unfold spL; rw [if_neg (by omega)]
    rw [hsp, List.length_singleton] at hall2
    rw [if_pos (by omega)]
    refine ⟨by rw [sz_ofBs, z2]; omega, by rw [ByteArray.size_append, sz_ofBs, sz_ofBs, z2]; omega, ?_⟩
    rw [hsp]
    refine congrArg (fun z : ByteArray => (Sum.inl (z, ((j + 1 : Nat) : Int)) : Sum (ByteArray × Int) ByteArray)) ?_
    have e2 : (⟨#[32]⟩ : ByteArray) = ofBs [32] := rfl
    rw [e2, ← ofBs_app, ← ofBs_app]
    simp [List.append_assoc]
  ·show trellisref15_Text_b1 _ (ofBs _) (S.length : Int) _
   unfold trellisref15_Text_b1
   rw [if_neg (by simp), List.take_length]
end Go.Proofs.Ytmekgfcfooghnaa.L
