/- Token, Show and Reduce of the program, as plain functions. Conditions: sizes, numbers are ints. -/
import Derived.Test.YtmekgfcfooghnaaJ4
set_option linter.unusedVariables false
namespace Go.Proofs.Ytmekgfcfooghnaa.L
open Go.Proofs.Ytmekgfcfooghnaa.B Go.Proofs.Ytmekgfcfooghnaa.R
def Sm (t : List api_Node) : Prop := t.length ≤ 2 ^ 39
theorem Sm.fits {t : List api_Node} (h : Sm t) : Fits t := by unfold Sm at h; show t.length ≤ _; omega
def tokF (g : api_Gram) (s : Int) : Bool := decide (0 ≤ s) && decide (s < (g.terms.length : Int))
def pre95 (s : ByteArray) : Bool := decide (1 ≤ s.size) && seq (s.extract 0 1) (⟨#[95]⟩ : ByteArray)
def hiddenF (g : api_Gram) (s : Int) : Bool := tokF g s && (!(ix g.terms s).lit && pre95 (ix g.terms s).name)
def shownF (g : api_Gram) (s : Int) : Bool := decide (0 ≤ s) && (decide (0 ≤ s - (g.terms.length : Int)) && (decide (s - (g.terms.length : Int) < (g.syms.length : Int)) && (ix g.syms (s - (g.terms.length : Int))).kind == 1))
def tokenF (l : api_Lang) (term leaf from_ to : Int) : List api_Node := if term < 1 ∨ term ≥ (l.gram.terms.length : Int) then [] else [⟨(ix l.gram.terms term).name, !(ix l.gram.terms term).lit, (⟨#[]⟩ : ByteArray), from_, to, 0, leaf⟩]
def showF (l : api_Lang) (s : Int) (k : List api_Node) : List api_Node := if hiddenF l.gram s = true then [] else k
def overF (name : ByteArray) (t : List api_Node) (e : Int) : List api_Node := (if (rootsF t).length > 0 then (⟨name, true, (⟨#[]⟩ : ByteArray), (ix t (ix (rootsF t) 0)).from_, (ix t (ix (rootsF t) ((rootsF t).length - 1 : Nat))).to, ((rootsF t).length : Int), -1⟩ : api_Node) else ⟨name, true, (⟨#[]⟩ : ByteArray), e, e, 0, -1⟩) :: t
def setRF (g : api_Node → api_Node) : List Int → List api_Node → List api_Node
 | [], t => t
 | i :: l, t => setRF g l (t.set i.toNat (g (ix t i)))
def fldG (f : ByteArray) (n : api_Node) : api_Node := if n.field = (⟨#[]⟩ : ByteArray) then { n with field := f } else n
def nameG (a : ByteArray) (n : api_Node) : api_Node := { n with name := a, named := true }
def part1 (l : api_Lang) (r : api_Ref) (k : List api_Node) (e : Int) : List api_Node := if r.as = (⟨#[]⟩ : ByteArray) then showF l r.sym k else if tokF l.gram r.sym = false ∧ shownF l.gram r.sym = false then overF r.as k e else setRF (nameG r.as) (rootsF k) k
def partF (l : api_Lang) (r : api_Ref) (k : List api_Node) (e : Int) : List api_Node := setRF (fldG r.field) (rootsF (part1 l r k e)) (part1 l r k e)
def redF (l : api_Lang) (p : api_Prod) (kids : List (List api_Node)) (ends : List Int) (i : Nat) (out : List api_Node) : Sum (List api_Node) (List api_Node) := if numF (ix kids (i : Int)) < 0 then .inr [] else .inl (out ++ partF l (ix p.rhs (i : Int)) (ix kids (i : Int)) (ix ends ((i : Int) + 1)))
def topF (l : api_Lang) (p : api_Prod) (ends : List Int) (out : List api_Node) : List api_Node := if 0 ≤ p.lhs ∧ p.lhs < (l.gram.syms.length : Int) ∧ (ix l.gram.syms p.lhs).kind = 1 then overF (ix l.gram.syms p.lhs).name out (ix ends (p.rhs.length : Int)) else out
def reduceF (l : api_Lang) (prod : Int) (kids : List (List api_Node)) (ends : List Int) : List api_Node :=
 if prod < 0 ∨ prod ≥ (l.gram.prods.length : Int) then [] else
 if kids.length ≠ (ix l.gram.prods prod).rhs.length ∨ ends.length ≠ (ix l.gram.prods prod).rhs.length + 1 then [] else
 runL (redF l (ix l.gram.prods prod) kids ends) (topF l (ix l.gram.prods prod) ends) (List.range (ix l.gram.prods prod).rhs.length) []
theorem rootsF_at {t : List api_Node} {i : Int} (h : i ∈ rootsF t) : 0 ≤ i ∧ i < (t.length : Int) := by
 unfold rootsF at h
 cases hs : sf t 0 with
 | none => rw [hs] at h; cases h
 | some S =>
  rw [hs] at h
  obtain ⟨y, hy, rfl⟩ := List.mem_map.1 h
  obtain ⟨j, hj, rfl⟩ := List.getElem_of_mem hy
  have hj : j < S.length := hj
  obtain ⟨h1, _⟩ := At.nth (t := t) (a := 0) (S := S) ⟨Nat.zero_le _, hs⟩ hj
  obtain ⟨p1, p2, p3, p4, p5⟩ := h1.pos
  show 0 ≤ (S[j].1).at_ ∧ (S[j].1).at_ < _
  omega
theorem rootsF_le (t : List api_Node) : (rootsF t).length ≤ t.length := by
 unfold rootsF
 cases h : sf t 0 with
 | none => exact Nat.zero_le _
 | some S =>
  have := (sf_en (l := t) (a := 0) h).2
  simpa using this
theorem setRF_len (g : api_Node → api_Node) : ∀ (l : List Int) (t : List api_Node), (setRF g l t).length = t.length
 | [], _ => rfl
 | i :: l, t => by rw [setRF, setRF_len g l, List.length_set]
theorem Wf.set {t : List api_Node} (h : Wf t) {i : Nat} {n : api_Node} (hn : i < t.length → n.kids = (ix t (i : Int)).kids) : Wf (t.set i n) := fun m hm => by
 rcases Nat.lt_or_ge i t.length with g | g
 ·rcases List.mem_or_eq_of_mem_set hm with hm | rfl
  ·exact h m hm
  ·rw [hn g, ix_nat g]; exact h _ (List.getElem_mem g)
 ·rw [List.set_eq_of_length_le g] at hm
  exact h m hm
theorem Wf.setRF {g : api_Node → api_Node} (hg : ∀ n, (g n).kids = n.kids) : ∀ {l : List Int} {t : List api_Node}, Wf t → (∀ i ∈ l, 0 ≤ i) → Wf (setRF g l t)
 | [], _, h, _ => h
 | i :: l, t, h, hi => by
  have h0 := hi i (by simp)
  exact Wf.setRF hg (l := l) (Wf.set h fun _ => by rw [Int.toNat_of_nonneg h0, hg]) fun k hk => hi k (by simp [hk])
theorem fldG_kids (f : ByteArray) (n : api_Node) : (fldG f n).kids = n.kids := by unfold fldG; split <;> rfl
theorem nameG_kids (f : ByteArray) (n : api_Node) : (nameG f n).kids = n.kids := rfl
theorem Wf.over {name : ByteArray} {t : List api_Node} {e : Int} (h : Wf t) (hs : Sm t) : Wf (overF name t e) := fun m hm => by
 have := rootsF_le t
 unfold Sm at hs
 unfold overF at hm
 rcases List.mem_cons.1 hm with rfl | hm
 ·split
  ·dsimp only; omega
  ·dsimp only; omega
 ·exact h m hm
theorem Wf.show {l : api_Lang} {s : Int} {k : List api_Node} (h : Wf k) : Wf (showF l s k) := by
 unfold showF
 split
 ·exact fun m hm => by cases hm
 ·exact h
theorem overF_len (name : ByteArray) (t : List api_Node) (e : Int) : (overF name t e).length = t.length + 1 := by unfold overF; rw [List.length_cons]
theorem part1_ok {l : api_Lang} {r : api_Ref} {k : List api_Node} {e : Int} (h : Wf k) (hs : Sm k) : Wf (part1 l r k e) ∧ (part1 l r k e).length ≤ k.length + 1 := by
 unfold part1
 split
 ·refine ⟨h.show, ?_⟩
  unfold showF
  split
  ·simp
  ·omega
 ·split
  ·exact ⟨h.over hs, by rw [overF_len]; exact Nat.le_refl _⟩
  ·exact ⟨h.setRF (nameG_kids _) fun i hi => (rootsF_at hi).1, by rw [setRF_len]; omega⟩
theorem partF_ok {l : api_Lang} {r : api_Ref} {k : List api_Node} {e : Int} (h : Wf k) (hs : Sm k) : Wf (partF l r k e) ∧ (partF l r k e).length ≤ k.length + 1 := by
 obtain ⟨h1, h2⟩ := part1_ok (l := l) (r := r) (e := e) h hs
 unfold partF
 exact ⟨h1.setRF (fldG_kids _) fun i hi => (rootsF_at hi).1, by rw [setRF_len]; exact h2⟩
theorem Token_ok (l : api_Lang) (term leaf from_ to : Int) : tree_Token l term leaf from_ to (tokenF l term leaf from_ to) := by
 have j1 : ∀ c : Bool, (c = true ↔ term < 1 ∨ term ≥ (l.gram.terms.length : Int)) → tree_Token_j1 term l from_ to leaf c (tokenF l term leaf from_ to) := fun c hc => by
  unfold tree_Token_j1 tokenF
  cases c with
  | true => rw [if_pos rfl, if_pos (hc.1 rfl)]
  | false =>
   have : ¬ (term < 1 ∨ term ≥ (l.gram.terms.length : Int)) := fun h => by have := hc.2 h; cases this
   rw [if_neg (by simp), if_neg this]
   exact ⟨by omega, rfl⟩
 unfold tree_Token
 by_cases h : term < 1
 ·rw [if_pos h]; exact j1 true (by simp [h])
 ·rw [if_neg h]; exact j1 _ (by simp [h])
theorem token_ok (g : api_Gram) (s : Int) : tree_token g s (tokF g s) := by
 unfold tree_token tokF
 by_cases h : s ≥ 0
 ·rw [if_pos h, decide_eq_true h, Bool.true_and]
 ·rw [if_neg h, decide_eq_false h, Bool.false_and]
theorem prefix_ok (s : ByteArray) : strings_HasPrefix s (⟨#[95]⟩ : ByteArray) (pre95 s) := by
 refine ⟨_, ?_, rfl⟩
 unfold internal_stringslite_HasPrefix pre95
 have z : (⟨#[95]⟩ : ByteArray).size = 1 := rfl
 rw [z]
 by_cases h : 1 ≤ s.size
 ·rw [if_pos (by omega), decide_eq_true h, Bool.true_and]
  exact ⟨by omega, rfl⟩
 ·rw [if_neg (by omega), decide_eq_false h, Bool.false_and]
theorem hidden_ok (g : api_Gram) (s : Int) : tree_hidden g s (hiddenF g s) := by
 unfold tree_hidden hiddenF
 refine ⟨_, token_ok g s, ?_⟩
 cases h : tokF g s with
 | false => rw [if_neg (by simp), Bool.false_and]
 | true =>
  rw [if_pos rfl, Bool.true_and]
  unfold tokF at h
  rw [Bool.and_eq_true, decide_eq_true_eq, decide_eq_true_eq] at h
  refine ⟨h, ?_⟩
  cases hl : (ix g.terms s).lit with
  | true => rw [if_pos rfl]; rfl
  | false => rw [if_neg (by simp)]; exact ⟨_, prefix_ok _, rfl⟩
theorem clone_ok {t : List api_Node} (h : Fits t) : slices_Clone_api_Node_api_Node t t := fun b hb => by
 cases b with
 | true => rw [if_pos rfl]; exact hb rfl
 | false => rw [if_neg (by simp)]; exact ⟨_, rfl, by simp; omega, by simp⟩
theorem Show_ok (l : api_Lang) (s : Int) {k : List api_Node} (h : Fits k) : tree_Show l s k (showF l s k) := by
 unfold tree_Show showF
 refine ⟨_, hidden_ok _ _, ?_⟩
 cases hh : hiddenF l.gram s with
 | true => rw [if_pos rfl, if_pos rfl]
 | false => rw [if_neg (by simp), if_neg (by simp)]; exact ⟨_, clone_ok h, rfl⟩
structure LgOk (l : api_Lang) : Prop where
 te : l.gram.terms.length ≤ 2 ^ 50
 sy : l.gram.syms.length ≤ 2 ^ 50
 pr : l.gram.prods.length ≤ 2 ^ 50
 rh : ∀ p ∈ l.gram.prods, p.rhs.length ≤ 2 ^ 50 ∧ ∀ r ∈ p.rhs, r.sym ≤ 9223372036854775807
theorem shown_ok {g : api_Gram} (h : g.terms.length ≤ 2 ^ 50) {s : Int} (hs : s ≤ 9223372036854775807) : tree_shown g s (shownF g s) := by
 unfold tree_shown shownF
 by_cases h0 : s ≥ 0
 ·have e : w64 (s - (g.terms.length : Int)) = s - (g.terms.length : Int) := w64_id (by omega)
  rw [if_pos h0, decide_eq_true h0, Bool.true_and, e]
  by_cases h1 : s - (g.terms.length : Int) ≥ 0
  ·rw [if_pos h1, decide_eq_true h1, Bool.true_and]
   by_cases h2 : s - (g.terms.length : Int) < (g.syms.length : Int)
   ·rw [if_pos h2, decide_eq_true h2, Bool.true_and]
    exact ⟨by omega, rfl⟩
   ·rw [if_neg h2, decide_eq_false h2, Bool.false_and]
  ·rw [if_neg h1, decide_eq_false h1, Bool.false_and]
 ·rw [if_neg h0, decide_eq_false h0, Bool.false_and]
theorem over_ok {name : ByteArray} {t : List api_Node} {e : Int} (hw : Wf t) (hs : Sm t) : tree_over name t e (overF name t e) := by
 have hr := rootsF_le t
 unfold Sm at hs
 unfold tree_over overF
 refine ⟨_, roots_ok (by show t.length ≤ _; omega) hw, ?_⟩
 by_cases h : (rootsF t).length > 0
 ·have e1 : w64 (((rootsF t).length : Int) - 1) = (((rootsF t).length - 1 : Nat) : Int) := by rw [w64_id (by omega)]; omega
  have m0 := rootsF_at (t := t) (i := ix (rootsF t) 0) (by
   have := ix_nat (xs := rootsF t) (i := 0) h
   rw [show ((0 : Nat) : Int) = 0 from rfl] at this
   rw [this]; exact List.getElem_mem _)
  have m1 := rootsF_at (t := t) (i := ix (rootsF t) (((rootsF t).length - 1 : Nat) : Int)) (by rw [ix_nat (by omega)]; exact List.getElem_mem _)
  rw [if_pos (by omega), if_pos h, e1]
  exact ⟨by omega, m0, by omega, m1, _, rfl, by simp; omega, rfl⟩
 ·have h0 : (rootsF t).length = 0 := by omega
  rw [if_neg (by omega), if_neg h, h0]
  exact ⟨_, rfl, by simp; omega, rfl⟩
theorem set_ix {t : List api_Node} {i : Nat} (h : i < t.length) : t.set i (ix t (i : Int)) = t := by
 rw [ix_nat h]
 exact List.set_getElem_self h
theorem runL_set (g : api_Node → api_Node) (e : List api_Node → List api_Node) : ∀ (l : List Int) (t : List api_Node), runL (fun (i : Int) (s : List api_Node) => (.inl (s.set i.toNat (g (ix s i))) : Sum (List api_Node) (List api_Node))) e l t = e (setRF g l t)
 | [], _ => rfl
 | i :: l, t => by rw [runL_go rfl, runL_set g e l, setRF]
theorem part_fld {r : api_Ref} {t : List api_Node} (hw : Wf t) (hl : Fits t) : tree_part_j1 r t (setRF (fldG r.field) (rootsF t) t) := by
 have hlen := rootsF_le t
 unfold tree_part_j1
 refine ⟨_, roots_ok hl hw, ?_⟩
 have e := runL_set (fldG r.field) id (rootsF t) t
 rw [show setRF (fldG r.field) (rootsF t) t = id (setRF (fldG r.field) (rootsF t) t) from rfl, ← e]
 refine Rounds.row (rootsF t) (fun (s : List api_Node) i => (s, i)) _ id (fun _ s => s.length = t.length) (fun j hj s hs => ?_) (fun s hs => ?_) rfl
 ·have hi := rootsF_at (List.getElem_mem hj)
  refine ⟨fun s' hs' => ?_, fun r' hr' => by cases hr'⟩
  injection hs' with hs'
  subst hs'
  refine ⟨?_, by rw [List.length_set]; exact hs⟩
  show tree_part_b2 (rootsF t) r s (j : Int) _
  unfold tree_part_b2
  obtain ⟨n, hn⟩ : ∃ n : Nat, (rootsF t)[j] = (n : Int) := ⟨(rootsF t)[j].toNat, by omega⟩
  rw [if_pos (by omega), ix_nat hj, w64_nat (by omega), hn]
  rw [hn] at hi
  refine ⟨by omega, by omega, ?_⟩
  unfold fldG
  by_cases g : (ix s (n : Int)).field = (⟨#[]⟩ : ByteArray)
  ·rw [if_pos g, if_pos g]
   exact ⟨_, rfl, rfl⟩
  ·rw [if_neg g, if_neg g, Int.toNat_natCast, set_ix (by omega)]
 ·show tree_part_b2 (rootsF t) r s ((rootsF t).length : Int) _
  unfold tree_part_b2
  rw [if_neg (by omega)]
  rfl
theorem part_ok {l : api_Lang} (hl : LgOk l) {r : api_Ref} (hr : r.sym ≤ 9223372036854775807) {k : List api_Node} (hw : Wf k) (hs : Sm k) (e : Int) : tree_part l r k e (partF l r k e) := by
 have hf := hs.fits
 obtain ⟨p1, p2⟩ := part1_ok (l := l) (r := r) (e := e) hw hs
 have hfit : Fits (part1 l r k e) := by unfold Sm at hs; show _ ≤ _; omega
 have hfld := part_fld (r := r) p1 hfit
 unfold tree_part partF
 refine ⟨_, clone_ok hf, ?_⟩
 unfold part1 at hfld ⊢
 by_cases h0 : r.as = (⟨#[]⟩ : ByteArray)
 ·rw [if_pos h0] at hfld ⊢
  rw [if_pos h0]
  exact ⟨_, Show_ok l r.sym hf, hfld⟩
 ·rw [if_neg h0] at hfld ⊢
  rw [if_neg h0]
  refine ⟨_, token_ok _ _, ?_⟩
  have named : tree_part_j3 r k e false (setRF (fldG r.field) (rootsF (setRF (nameG r.as) (rootsF k) k)) (setRF (nameG r.as) (rootsF k) k)) := by
   unfold tree_part_j3
   rw [if_neg (by simp)]
   have hlen := rootsF_le k
   refine ⟨_, roots_ok hf hw, ?_⟩
   have e := runL_set (nameG r.as) (fun t => setRF (fldG r.field) (rootsF t) t) (rootsF k) k
   rw [← e]
   refine Rounds.row (rootsF k) (fun (s : List api_Node) i => (s, i)) _ (fun t => setRF (fldG r.field) (rootsF t) t) (fun _ s => s.length = k.length ∧ Wf s) (fun j hj s hs => ?_) (fun s hs => ?_) ⟨rfl, hw⟩
   ·have hi := rootsF_at (List.getElem_mem hj)
    refine ⟨fun s' hs' => ?_, fun r' hr' => by cases hr'⟩
    injection hs' with hs'
    subst hs'
    refine ⟨?_, by rw [List.length_set]; exact hs.1, Wf.set hs.2 fun _ => by rw [Int.toNat_of_nonneg hi.1]; rfl⟩
    show tree_part_b4 (rootsF k) r s (j : Int) _
    unfold tree_part_b4
    have hs1 := hs.1
    obtain ⟨n, hn⟩ : ∃ n : Nat, (rootsF k)[j] = (n : Int) := ⟨(rootsF k)[j].toNat, by omega⟩
    rw [if_pos (by omega), ix_nat hj, w64_nat (by omega), hn]
    rw [hn] at hi
    refine ⟨by omega, by omega, _, rfl, by rw [List.length_set]; omega, _, rfl, ?_⟩
    rw [Int.toNat_natCast, ix_nat (xs := s.set n _) (by rw [List.length_set]; omega), List.getElem_set_self, List.set_set]
    rfl
   ·show tree_part_b4 (rootsF k) r s ((rootsF k).length : Int) _
    unfold tree_part_b4
    rw [if_neg (by omega)]
    exact ⟨_, rfl, part_fld hs.2 (by have := hs.1; show s.length ≤ _; rw [this]; exact hf)⟩
  cases ht : tokF l.gram r.sym with
  | true =>
   rw [ht] at hfld
   rw [if_pos rfl, if_neg (by simp)]
   exact named
  | false =>
   rw [ht] at hfld
   rw [if_neg (by simp)]
   refine ⟨_, shown_ok hl.te hr, ?_⟩
   cases hsh : shownF l.gram r.sym with
   | true => rw [if_neg (by simp)]; exact named
   | false =>
    rw [hsh] at hfld
    rw [if_pos ⟨rfl, rfl⟩] at hfld ⊢
    unfold tree_part_j3
    rw [if_pos (by rfl)]
    exact ⟨_, over_ok hw hs, hfld⟩
theorem Reduce_ok {l : api_Lang} (hl : LgOk l) {prod : Int} {kids : List (List api_Node)} {ends : List Int} {B : Nat} (hk : kids.length ≤ 2 ^ 50) (he : ends.length ≤ 2 ^ 50) (hw : ∀ k ∈ kids, Wf k ∧ k.length + 1 ≤ B) (hB : kids.length * B + B ≤ 2 ^ 39) : tree_Reduce l prod kids ends (reduceF l prod kids ends) := by
 have j1 : ∀ c : Bool, (c = true ↔ prod < 0 ∨ prod ≥ (l.gram.prods.length : Int)) → tree_Reduce_j1 prod l kids ends c (reduceF l prod kids ends) := fun c hc => by
  unfold tree_Reduce_j1 reduceF
  cases c with
  | true => rw [if_pos rfl, if_pos (hc.1 rfl)]
  | false =>
   have h0 : ¬ (prod < 0 ∨ prod ≥ (l.gram.prods.length : Int)) := fun h => by have := hc.2 h; cases this
   rw [if_neg (by simp), if_neg h0]
   refine ⟨by omega, ?_⟩
   obtain ⟨n, rfl⟩ : ∃ n : Nat, prod = n := ⟨prod.toNat, by omega⟩
   have hpm : ix l.gram.prods (n : Int) ∈ l.gram.prods := by rw [ix_nat (by omega)]; exact List.getElem_mem _
   obtain ⟨hr1, hr2⟩ := hl.rh _ hpm
   generalize hp : ix l.gram.prods (n : Int) = p at *
   have e0 : w64 ((p.rhs.length : Int) + 1) = (p.rhs.length : Int) + 1 := w64_nat (by omega)
   by_cases h1 : kids.length = p.rhs.length
   ·rw [if_pos (by omega), e0]
    unfold tree_Reduce_j2
    by_cases h2 : ends.length = p.rhs.length + 1
    ·have eb : ((ends.length : Int) != (p.rhs.length : Int) + 1) = false := by rw [h2]; simp
     rw [eb, if_neg (by simp), if_neg (by omega)]
     refine Rounds.row (List.range p.rhs.length) (fun (s : List api_Node) i => (s, i)) _ _ (fun i s => Wf s ∧ s.length ≤ i * B) (fun j hj s hs => ?_) (fun s hs => ?_) ⟨fun m hm => (by cases hm), by simp⟩
     ·rw [List.length_range] at hj
      rw [List.getElem_range]
      have hkm : ix kids (j : Int) ∈ kids := by rw [ix_nat (by omega)]; exact List.getElem_mem _
      obtain ⟨hw1, hw2⟩ := hw _ hkm
      have hjB : j * B + B ≤ kids.length * B := by
       have := Nat.mul_le_mul_right B (show j + 1 ≤ kids.length by omega)
       rw [Nat.add_mul, Nat.one_mul] at this
       exact this
      have hsm : Sm (ix kids (j : Int)) := by unfold Sm; omega
      have hrm : ix p.rhs (j : Int) ∈ p.rhs := by rw [ix_nat (by omega)]; exact List.getElem_mem _
      have hpo := partF_ok (l := l) (r := ix p.rhs (j : Int)) (e := ix ends ((j : Int) + 1)) hw1 hsm
      have key : tree_Reduce_b3 l (n : Int) kids ends s (j : Int) (match redF l p kids ends j s with | .inl s' => .inl (s', (j : Int) + 1) | .inr r => .inr r) := by
       unfold tree_Reduce_b3 redF
       rw [hp, if_pos (by omega)]
       refine ⟨by omega, by omega, _, Roots_ok hsm.fits hw1, ?_⟩
       by_cases g : numF (ix kids (j : Int)) < 0
       ·rw [if_pos g, if_pos g]
       ·rw [if_neg g, if_neg g, w64_nat (by omega)]
        refine ⟨by omega, _, part_ok hl (hr2 _ hrm) hw1 hsm _, _, rfl, ?_, rfl⟩
        rw [List.length_append]
        have := hs.2
        omega
      refine ⟨fun s' hs' => ?_, fun r hr => ?_⟩
      ·rw [hs'] at key
       refine ⟨key, ?_⟩
       unfold redF at hs'
       split at hs'
       ·cases hs'
       ·injection hs' with hs'
        subst hs'
        refine ⟨fun m hm => ?_, ?_⟩
        ·rcases List.mem_append.1 hm with hm | hm
         ·exact hs.1 m hm
         ·exact hpo.1 m hm
        ·rw [List.length_append, Nat.add_mul, Nat.one_mul]
         have := hs.2
         omega
      ·rw [hr] at key; exact key
     ·show tree_Reduce_b3 l (n : Int) kids ends s ((List.range p.rhs.length).length : Int) _
      rw [List.length_range] at hs ⊢
      unfold tree_Reduce_b3
      rw [hp, if_neg (by omega)]
      have hsm : Sm s := by unfold Sm; rw [← h1] at hs; have := hs.2; omega
      have j4 : ∀ c : Bool, (c = true ↔ 0 ≤ p.lhs ∧ p.lhs < (l.gram.syms.length : Int) ∧ (ix l.gram.syms p.lhs).kind = 1) → tree_Reduce_j4 l (n : Int) ends s c (.inr (topF l p ends s)) := fun c hc => by
       unfold tree_Reduce_j4 topF
       rw [hp]
       cases c with
       | true =>
        have := hc.1 rfl
        rw [if_pos rfl, if_pos this]
        exact ⟨⟨this.1, this.2.1⟩, by omega, _, over_ok hs.1 hsm, rfl⟩
       | false => rw [if_neg (by simp), if_neg (fun h => by have := hc.2 h; cases this)]
      by_cases g1 : p.lhs ≥ 0
      ·rw [if_pos g1]
       by_cases g2 : p.lhs < (l.gram.syms.length : Int)
       ·rw [if_pos g2]
        exact ⟨⟨g1, g2⟩, j4 _ (by simp [g2]; omega)⟩
       ·rw [if_neg g2]
        exact j4 false (by simp; omega)
      ·rw [if_neg g1]
       exact j4 false (by simp; omega)
    ·have eb : ((ends.length : Int) != (p.rhs.length : Int) + 1) = true := by rw [bne_iff_ne]; omega
     rw [eb, if_pos rfl, if_pos (.inr (by omega))]
   ·rw [if_neg (by omega), if_pos (.inl (by omega))]
    unfold tree_Reduce_j2
    rw [if_pos rfl]
 unfold tree_Reduce
 by_cases h : prod < 0
 ·rw [if_pos h]; exact j1 true (by simp [h])
 ·rw [if_neg h]; exact j1 _ (by simp [h])
end Go.Proofs.Ytmekgfcfooghnaa.L
