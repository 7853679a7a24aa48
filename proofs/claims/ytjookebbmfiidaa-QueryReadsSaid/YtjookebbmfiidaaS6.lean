/- Queries: rests of rows of words, places, captures of a row. No condition. -/
import Derived.Test.YtjookebbmfiidaaS5
import Derived.Test.YtjookebbmfiidaaU1
import Derived.Test.YtjookebbmfiidaaB5
set_option linter.unusedVariables false
namespace Go.Proofs.Ytjookebbmfiidaa.L
open Go.Proofs.Ytjookebbmfiidaa.B Go.Proofs.Ytjookebbmfiidaa.R
def toks (W : List api_Word) : List Tk := W.map fun w => (w.kind, w.text)
theorem toks_len (W : List api_Word) : (toks W).length = W.length := List.length_map _
def Rst (W : List api_Word) (t : List Tk) : Prop := t <:+ toks W
def psn (W : List api_Word) (t : List Tk) : Nat := W.length - t.length
theorem Rst.le {W : List api_Word} {t : List Tk} (h : Rst W t) : t.length ≤ W.length := by
 have := List.IsSuffix.length_le h
 rwa [toks_len] at this
theorem Rst.sub {W : List api_Word} {t q : List Tk} (h : Rst W t) (hq : q <:+ t) : Rst W q := List.IsSuffix.trans hq h
theorem Rst.tl {W : List api_Word} {t : List Tk} (h : Rst W t) : Rst W t.tail := h.sub (List.tail_suffix t)
theorem Rst.psn_le {W : List api_Word} {t : List Tk} (h : Rst W t) : psn W t ≤ W.length := Nat.sub_le _ _
theorem psn_all (W : List api_Word) : psn W (toks W) = 0 := by unfold psn; rw [toks_len]; omega
theorem Rst.drop {W : List api_Word} {t : List Tk} (h : Rst W t) : toks (W.drop (psn W t)) = t := by
 obtain ⟨p, hp⟩ := h
 have hl : p.length = psn W t := by
  have := congrArg List.length hp
  rw [List.length_append, toks_len] at this
  unfold psn
  omega
 unfold toks at hp ⊢
 rw [List.map_drop, ← hp, ← hl, List.drop_left]
theorem Rst.hd {W : List api_Word} {k : Int} {x : ByteArray} {t : List Tk} (h : Rst W ((k, x) :: t)) : psn W ((k, x) :: t) < W.length ∧ (ix W (psn W ((k, x) :: t) : Int)).kind = k ∧ (ix W (psn W ((k, x) :: t) : Int)).text = x ∧ psn W t = psn W ((k, x) :: t) + 1 := by
 have hd := h.drop
 have hl := h.le
 generalize hn : psn W ((k, x) :: t) = n at hd ⊢
 have hlt : n < W.length := by
  unfold psn at hn
  simp only [List.length_cons] at hn hl
  omega
 have hx : W[((n : Nat) : Int).toNat]? = some (ix W ((n : Nat) : Int)) := ix_get ⟨Int.natCast_nonneg n, by omega⟩
 rw [Int.toNat_natCast] at hx
 have hx2 : W.drop n = ix W (n : Int) :: W.drop (n + 1) := by
  have hg : W[n] = ix W (n : Int) := by
   rw [List.getElem?_eq_getElem hlt] at hx
   exact Option.some.inj hx
  rw [List.drop_eq_getElem_cons hlt, hg]
 rw [hx2] at hd
 unfold toks at hd
 rw [List.map_cons] at hd
 injection hd with h1 h2
 injection h1 with h3 h4
 refine ⟨hlt, h3, h4, ?_⟩
 unfold psn at hn ⊢
 simp only [List.length_cons] at hn hl
 omega
theorem psn_nil (W : List api_Word) : psn W [] = W.length := by unfold psn; simp
def plW (W : List api_Word) (L : Int) (t : List Tk) : Int := if psn W t < W.length then (ix W (psn W t : Int)).at_ else L
theorem isT_cons (k k' : Int) (x x' : ByteArray) (t : List Tk) : isT k x ((k', x') :: t) = (decide (k' = k) && decide (x' = x)) := rfl
theorem isNm_cons (k' : Int) (x' : ByteArray) (t : List Tk) : isNm ((k', x') :: t) = (decide (k' = 1) && !decide (x' = uscB)) := rfl
theorem isSt_cons (k' : Int) (x' : ByteArray) (t : List Tk) : isSt ((k', x') :: t) = (decide (k' = 2) && !decide (x' = noB)) := rfl
def SufP {α : Type} (t : List Tk) : PR α → Prop
 | .ok _ q => q <:+ t
 | .no _ q => q <:+ t
theorem suf2 (t : List Tk) : t.tail.tail <:+ t := List.IsSuffix.trans (List.tail_suffix _) (List.tail_suffix _)
theorem aftT_suf (t : List Tk) : aftT t <:+ t := by
 unfold aftT
 split
 ·exact suf2 t
 ·exact List.suffix_refl t
theorem capT_suf {x : api_PatNode} {k : PF} {seen : List ByteArray} {t s : List Tk} (h : t <:+ s) : SufP s (capT x k seen t) := by
 unfold capT
 split
 ·split
  ·split
   ·exact List.IsSuffix.trans (List.tail_suffix t) h
   ·exact List.IsSuffix.trans (suf2 t) h
  ·exact List.IsSuffix.trans (List.tail_suffix t) h
 ·exact h
theorem pat_suf : ∀ (f : Nat), (∀ m seen t, SufP t (patT f m seen t)) ∧ (∀ m seen t, SufP t (kidsT f m seen t))
 | 0 => ⟨fun m seen t => List.suffix_refl t, fun m seen t => List.suffix_refl t⟩
 | f + 1 => by
  obtain ⟨i1, i2⟩ := pat_suf f
  refine ⟨fun m seen t => ?_, fun m seen t => ?_⟩
  ·rw [patT_succ]
   have ha := aftT_suf t
   split
   ·split
    ·exact List.suffix_refl t
    split
    ·exact capT_suf (List.IsSuffix.trans (List.tail_suffix _) ha)
    split
    ·split
     ·have h1 := i2 (m + 1) seen (aftT t).tail.tail
      cases e : kidsT f (m + 1) seen (aftT t).tail.tail with
      | no ee q =>
       rw [e] at h1
       exact List.IsSuffix.trans h1 (List.IsSuffix.trans (suf2 _) ha)
      | ok p q =>
       rw [e] at h1
       exact capT_suf (List.IsSuffix.trans h1 (List.IsSuffix.trans (suf2 _) ha))
     ·exact List.IsSuffix.trans (List.tail_suffix _) ha
    ·exact ha
   ·exact List.suffix_refl t
  ·rw [kidsT_succ]
   split
   ·exact List.tail_suffix t
   ·have h1 := i1 m seen t
    cases e : patT f m seen t with
    | no ee q => rw [e] at h1; exact h1
    | ok p q =>
     obtain ⟨x, k, seen'⟩ := p
     rw [e] at h1
     have h1' : q <:+ t := h1
     dsimp only
     have h2 := i2 (m + 1 + (flatP k).length) seen' q
     cases e2 : kidsT f (m + 1 + (flatP k).length) seen' q with
     | no ee u => rw [e2] at h2; exact List.IsSuffix.trans h2 h1'
     | ok p u => rw [e2] at h2; exact List.IsSuffix.trans h2 h1'
theorem patN_suf (m : Nat) (seen : List ByteArray) (t : List Tk) : SufP t (patN m seen t) := (pat_suf _).1 m seen t
theorem kidsN_suf (m : Nat) (seen : List ByteArray) (t : List Tk) : SufP t (kidsN m seen t) := (pat_suf _).2 m seen t
theorem patN_sh (m : Nat) (seen : List ByteArray) (t : List Tk) : ShP t.length (patN m seen t) := (pat_sh _).1 m seen t
theorem capT_seen {x x' : api_PatNode} {k k' : PF} {seen seen' : List ByteArray} {t q : List Tk} (hx : x.capture = noB) (h : capT x k seen t = .ok (x', k', seen') q) : k' = k ∧ seen' = addC x'.capture seen := by
 unfold capT at h
 split at h
 ·split at h
  ·split at h
   ·cases h
   ·injection h with h _
    injection h with h1 h2
    injection h2 with h2 h3
    subst h1 h2 h3
    exact ⟨rfl, rfl⟩
  ·cases h
 ·injection h with h _
  injection h with h1 h2
  injection h2 with h2 h3
  subst h1 h2 h3
  refine ⟨rfl, ?_⟩
  unfold addC
  rw [if_pos hx]
theorem pat_seen : ∀ (f : Nat), (∀ m seen t x k seen' q, patT f m seen t = .ok (x, k, seen') q → seen' = capsP (.cons x k .nil) seen) ∧ (∀ m seen t g seen' q, kidsT f m seen t = .ok (g, seen') q → seen' = capsP g seen)
 | 0 => ⟨fun m seen t x k seen' q h => (by cases h), fun m seen t g seen' q h => (by cases h)⟩
 | f + 1 => by
  obtain ⟨i1, i2⟩ := pat_seen f
  refine ⟨fun m seen t x k seen' q h => ?_, fun m seen t g seen' q h => ?_⟩
  ·rw [patT_succ] at h
   split at h
   ·split at h
    ·cases h
    split at h
    ·obtain ⟨rfl, e⟩ := capT_seen rfl h
     exact e
    split at h
    ·split at h
     ·cases e : kidsT f (m + 1) seen (aftT t).tail.tail with
      | no ee r => rw [e] at h; cases h
      | ok p r =>
       obtain ⟨k0, s0⟩ := p
       rw [e] at h
       obtain ⟨rfl, e2⟩ := capT_seen rfl h
       rw [e2, i2 _ _ _ _ _ _ e]
       rfl
     ·cases h
    ·cases h
   ·cases h
  ·rw [kidsT_succ] at h
   split at h
   ·injection h with h _
    injection h with h1 h2
    subst h1 h2
    rfl
   ·cases e : patT f m seen t with
    | no ee r => rw [e] at h; cases h
    | ok p r =>
     obtain ⟨x, k, s0⟩ := p
     rw [e] at h
     dsimp only at h
     cases e2 : kidsT f (m + 1 + (flatP k).length) s0 r with
     | no ee u => rw [e2] at h; cases h
     | ok p u =>
      obtain ⟨s, s2⟩ := p
      rw [e2] at h
      injection h with h _
      injection h with h1 h2
      subst h1 h2
      rw [i2 _ _ _ _ _ _ e2, i1 _ _ _ _ _ _ _ e]
      rfl
theorem capT_kid {x x' : api_PatNode} {k k' : PF} {seen seen' : List ByteArray} {t q : List Tk} (h : capT x k seen t = .ok (x', k', seen') q) : k' = k := by
 unfold capT at h
 split at h
 ·split at h
  ·split at h
   ·cases h
   ·injection h with h _
    injection h with _ h
    injection h with h _
    exact h.symm
  ·cases h
 ·injection h with h _
  injection h with _ h
  injection h with h _
  exact h.symm
theorem pat_max : ∀ (f : Nat), (∀ m seen t x k seen' q, patT f m seen t = .ok (x, k, seen') q → m + 1 + (flatP k).length ≤ 32) ∧ (∀ m seen t g seen' q, m ≤ 32 → kidsT f m seen t = .ok (g, seen') q → m + (flatP g).length ≤ 32)
 | 0 => ⟨fun m seen t x k seen' q h => (by cases h), fun m seen t g seen' q _ h => (by cases h)⟩
 | f + 1 => by
  obtain ⟨i1, i2⟩ := pat_max f
  refine ⟨fun m seen t x k seen' q h => ?_, fun m seen t g seen' q hm h => ?_⟩
  ·rw [patT_succ] at h
   split at h
   ·split at h
    ·cases h
    split at h
    ·rw [capT_kid h]
     simp only [flatP, List.length_nil]
     omega
    split at h
    ·split at h
     ·cases e : kidsT f (m + 1) seen (aftT t).tail.tail with
      | no ee r => rw [e] at h; cases h
      | ok p r =>
       obtain ⟨k0, s0⟩ := p
       rw [e] at h
       rw [capT_kid h]
       exact i2 _ _ _ _ _ _ (by omega) e
     ·cases h
    ·cases h
   ·cases h
  ·rw [kidsT_succ] at h
   split at h
   ·injection h with h _
    injection h with h1 h2
    subst h1
    simp only [flatP, List.length_nil]
    omega
   ·cases e : patT f m seen t with
    | no ee r => rw [e] at h; cases h
    | ok p r =>
     obtain ⟨x, k, s0⟩ := p
     rw [e] at h
     dsimp only at h
     have h1 := i1 _ _ _ _ _ _ _ e
     cases e2 : kidsT f (m + 1 + (flatP k).length) s0 r with
     | no ee u => rw [e2] at h; cases h
     | ok p u =>
      obtain ⟨s, s2⟩ := p
      rw [e2] at h
      injection h with h _
      injection h with h1' h2
      subst h1'
      have := i2 _ _ _ _ _ _ h1 e2
      simp only [flatP, List.length_cons, List.length_append]
      omega
theorem patN_max {m : Nat} {seen seen' : List ByteArray} {t q : List Tk} {x : api_PatNode} {k : PF} (h : patN m seen t = .ok (x, k, seen') q) : m + 1 + (flatP k).length ≤ 32 := (pat_max _).1 _ _ _ _ _ _ _ h
theorem patN_seen {m : Nat} {seen seen' : List ByteArray} {t q : List Tk} {x : api_PatNode} {k : PF} (h : patN m seen t = .ok (x, k, seen') q) : seen' = capsP (.cons x k .nil) seen := (pat_seen _).1 _ _ _ _ _ _ _ h
theorem kidsN_seen {m : Nat} {seen seen' : List ByteArray} {t q : List Tk} {g : PF} (h : kidsN m seen t = .ok (g, seen') q) : seen' = capsP g seen := (pat_seen _).2 _ _ _ _ _ _ h
theorem patN_err {m : Nat} {seen : List ByteArray} {t q : List Tk} {e : Int} (h : patN m seen t = .no e q) : e ≠ 0 := by
 rcases (pat_err _).1 _ _ _ _ _ (Nat.le_refl _) h with h | h | h <;> omega
def SeenOk (o : List api_PatNode) (seen : List ByteArray) : Prop := ∀ c, c ∈ seen ↔ c ∈ capsL o
theorem SeenOk.app {o : List api_PatNode} {seen : List ByteArray} (h : SeenOk o seen) (g : PF) : SeenOk (o ++ flatP g) (capsP g seen) := fun c => by
 rw [(capsP_perm g seen).mem_iff, capsL_app, List.mem_append, List.mem_append, h c, Or.comm]
theorem capsL_zero {x : api_PatNode} (h : x.capture = noB) (v : List api_PatNode) : capsL (x :: v) = capsL v := by
 rw [capsL_cons]
 unfold addC
 rw [if_pos h]
theorem SeenOk.mid {o v : List api_PatNode} {seen : List ByteArray} {x : api_PatNode} (h : x.capture = noB) : SeenOk (o ++ x :: v) seen ↔ SeenOk (o ++ v) seen := by
 unfold SeenOk
 rw [capsL_app, capsL_app, capsL_zero h]
theorem mem_capsL {c : ByteArray} {v : List api_PatNode} : c ∈ capsL v ↔ c ≠ noB ∧ ∃ x ∈ v, x.capture = c := by
 unfold capsL
 rw [List.mem_filter, List.mem_map]
 simp only [Bool.not_eq_true', decide_eq_false_iff_not]
 exact And.comm
theorem inC_seen {o : List api_PatNode} {seen : List ByteArray} (h : SeenOk o seen) (c : ByteArray) : inC c seen = true ↔ (c ≠ noB ∧ ∃ x ∈ o, x.capture = c) := by
 rw [inC_iff, h c, mem_capsL]
def capIx (c : ByteArray) (v : List api_PatNode) : Option Nat := v.findIdx? fun x => decide (x.capture = c)
theorem capIx_ex {c : ByteArray} {v : List api_PatNode} : (capIx c v).isSome = true ↔ ∃ x ∈ v, x.capture = c := by
 unfold capIx
 rw [List.findIdx?_isSome, List.any_eq_true]
 simp only [decide_eq_true_eq]
def capN (c : ByteArray) (v : List api_PatNode) : Int := if c = noB then -1 else match capIx c v with
 | none => -1
 | some i => (i : Int)
theorem capN_iff {o : List api_PatNode} {seen : List ByteArray} (h : SeenOk o seen) (c : ByteArray) : capN c o ≥ 0 ↔ inC c seen = true := by
 rw [inC_seen h, ← capIx_ex]
 unfold capN
 by_cases g : c = noB
 ·rw [if_pos g]
  exact ⟨fun h => absurd h (by decide), fun h => absurd g h.1⟩
 ·rw [if_neg g]
  cases e : capIx c o with
  | none => exact ⟨fun h => absurd h (by decide), fun h => absurd h.2 (by simp)⟩
  | some i => exact ⟨fun h => ⟨g, rfl⟩, fun h => Int.natCast_nonneg i⟩
theorem set_mid {α : Type} (a v : List α) (x y : α) : (a ++ x :: v).set a.length y = a ++ y :: v := by
 rw [List.set_append_right _ _ (Nat.le_refl _), Nat.sub_self]
 rfl
end Go.Proofs.Ytjookebbmfiidaa.L
