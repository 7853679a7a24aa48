/- Queries: rests of rows of words, places, captures of a row. No condition. -/
import Derived.Test.YtjookebbmfiidaaDoorS5
import Derived.Test.YtjookebbmfiidaaDoorF1
import Derived.Test.YtjookebbmfiidaaDoorB5
set_option linter.unusedVariables false
namespace Go.Proofs.YtjookebbmfiidaaDoor.L
open Go.Proofs.YtjookebbmfiidaaDoor.B Go.Proofs.YtjookebbmfiidaaDoor.R
def Xe8 (W : List Ak) : List Tk := W.map fun w => (w.kind, w.text)
theorem Xep (W : List Ak) : (Xe8 W).length = W.length := List.length_map _
def Rst (W : List Ak) (t : List Tk) : Prop := t <:+ Xe8 W
def psn (W : List Ak) (t : List Tk) : Nat := W.length - t.length
theorem Rst.le {W : List Ak} {t : List Tk} (h : Rst W t) : t.length ≤ W.length := by
 have := List.IsSuffix.length_le h
 rwa [Xep] at this
theorem Rst.sub {W : List Ak} {t q : List Tk} (h : Rst W t) (hq : q <:+ t) : Rst W q := List.IsSuffix.trans hq h
theorem Rst.tl {W : List Ak} {t : List Tk} (h : Rst W t) : Rst W t.tail := h.sub (List.tail_suffix t)
theorem psn_all (W : List Ak) : psn W (Xe8 W) = 0 := by unfold psn; rw [Xep]; omega
theorem Rst.drop {W : List Ak} {t : List Tk} (h : Rst W t) : Xe8 (W.drop (psn W t)) = t := by
 obtain ⟨p, hp⟩ := h
 have hl : p.length = psn W t := by
  have := congrArg List.length hp
  rw [List.length_append, Xep] at this
  unfold psn
  omega
 unfold Xe8 at hp ⊢
 rw [List.map_drop, ← hp, ← hl, List.drop_left]
theorem Rst.hd {W : List Ak} {k : Int} {x : ByteArray} {t : List Tk} (h : Rst W ((k, x) :: t)) : psn W ((k, x) :: t) < W.length ∧ (ix W (psn W ((k, x) :: t) : Int)).kind = k ∧ (ix W (psn W ((k, x) :: t) : Int)).text = x ∧ psn W t = psn W ((k, x) :: t) + 1 := by
 have hd := h.drop
 have hl := h.le
 generalize hn : psn W ((k, x) :: t) = n at hd ⊢
 have hlt : n < W.length := by
  unfold psn at hn
  simp only [List.length_cons] at hn hl
  omega
 have hx : W[((n : Nat) : Int).toNat]? = some (ix W ((n : Nat) : Int)) := Ze ⟨Int.natCast_nonneg n, by omega⟩
 rw [Int.toNat_natCast] at hx
 have hx2 : W.drop n = ix W (n : Int) :: W.drop (n + 1) := by
  have hg : W[n] = ix W (n : Int) := by
   rw [List.getElem?_eq_getElem hlt] at hx
   exact Option.some.inj hx
  rw [List.drop_eq_getElem_cons hlt, hg]
 rw [hx2] at hd
 unfold Xe8 at hd
 rw [List.map_cons] at hd
 injection hd with h1 h2
 injection h1 with h3 h4
 refine ⟨hlt, h3, h4, ?_⟩
 unfold psn at hn ⊢
 simp only [List.length_cons] at hn hl
 omega
theorem Xx (W : List Ak) : psn W [] = W.length := by unfold psn; simp
def plW (W : List Ak) (L : Int) (t : List Tk) : Int := if psn W t < W.length then (ix W (psn W t : Int)).at_ else L
theorem isT_cons (k k' : Int) (x x' : ByteArray) (t : List Tk) : isT k x ((k', x') :: t) = (decide (k' = k) && decide (x' = x)) := rfl
theorem Xgp (k' : Int) (x' : ByteArray) (t : List Tk) : Xn ((k', x') :: t) = (decide (k' = 1) && !decide (x' = Rf)) := rfl
theorem Xgd (k' : Int) (x' : ByteArray) (t : List Tk) : Zm ((k', x') :: t) = (decide (k' = 2) && !decide (x' = noB)) := rfl
def SufP {α : Type} (t : List Tk) : PQ α → Prop
 | .ok _ q => q <:+ t
 | .no _ q => q <:+ t
theorem suf2 (t : List Tk) : t.tail.tail <:+ t := List.IsSuffix.trans (List.tail_suffix _) (List.tail_suffix _)
theorem Xjc (t : List Tk) : Ld t <:+ t := by
 unfold Ld
 split
 ·exact suf2 t
 ·exact List.suffix_refl t
theorem Xig {x : Ag} {k : PF} {seen : List ByteArray} {t s : List Tk} (h : t <:+ s) : SufP s (Um x k seen t) := by
 unfold Um
 split
 ·split
  ·split
   ·exact List.IsSuffix.trans (List.tail_suffix t) h
   ·exact List.IsSuffix.trans (suf2 t) h
  ·exact List.IsSuffix.trans (List.tail_suffix t) h
 ·exact h
theorem Xhp : ∀ (f : Nat), (∀ m seen t, SufP t (Za f m seen t)) ∧ (∀ m seen t, SufP t (kidsT f m seen t))
 | 0 => ⟨fun m seen t => List.suffix_refl t, fun m seen t => List.suffix_refl t⟩
 | f + 1 => by
  obtain ⟨i1, i2⟩ := Xhp f
  refine ⟨fun m seen t => ?_, fun m seen t => ?_⟩
  ·rw [Qw]
   have ha := Xjc t
   split
   ·split
    ·exact List.suffix_refl t
    split
    ·exact Xig (List.IsSuffix.trans (List.tail_suffix _) ha)
    split
    ·split
     ·have h1 := i2 (m + 1) seen (Ld t).tail.tail
      cases e : kidsT f (m + 1) seen (Ld t).tail.tail with
      | no ee q =>
       rw [e] at h1
       exact List.IsSuffix.trans h1 (List.IsSuffix.trans (suf2 _) ha)
      | ok p q =>
       rw [e] at h1
       exact Xig (List.IsSuffix.trans h1 (List.IsSuffix.trans (suf2 _) ha))
     ·exact List.IsSuffix.trans (List.tail_suffix _) ha
    ·exact ha
   ·exact List.suffix_refl t
  ·rw [Pi]
   split
   ·exact List.tail_suffix t
   ·have h1 := i1 m seen t
    cases e : Za f m seen t with
    | no ee q => rw [e] at h1; exact h1
    | ok p q =>
     obtain ⟨x, k, seen'⟩ := p
     rw [e] at h1
     have h1' : q <:+ t := h1
     dsimp only
     have h2 := i2 (m + 1 + (Bz k).length) seen' q
     cases e2 : kidsT f (m + 1 + (Bz k).length) seen' q with
     | no ee u => rw [e2] at h2; exact List.IsSuffix.trans h2 h1'
     | ok p u => rw [e2] at h2; exact List.IsSuffix.trans h2 h1'
theorem Xj5 (m : Nat) (seen : List ByteArray) (t : List Tk) : SufP t (Xb0 m seen t) := (Xhp _).1 m seen t
theorem Xlg (m : Nat) (seen : List ByteArray) (t : List Tk) : SufP t (Xa7 m seen t) := (Xhp _).2 m seen t
theorem patN_sh (m : Nat) (seen : List ByteArray) (t : List Tk) : ShP t.length (Xb0 m seen t) := (Xf5 _).1 m seen t
theorem Xgt {x x' : Ag} {k k' : PF} {seen seen' : List ByteArray} {t q : List Tk} (hx : x.capture = noB) (h : Um x k seen t = .ok (x', k', seen') q) : k' = k ∧ seen' = Yf x'.capture seen := by
 unfold Um at h
 split at h
 ·split at h
  ·split at h
   ·cases h
   ·injection h with h _
    injection h with h1 h2
    injection h2 with h2 h3
    subst h1 h2 h3
    exact ⟨rfl, rfl⟩
  ·cases h
 ·injection h with h _
  injection h with h1 h2
  injection h2 with h2 h3
  subst h1 h2 h3
  refine ⟨rfl, ?_⟩
  unfold Yf
  rw [if_pos hx]
theorem Xfv : ∀ (f : Nat), (∀ m seen t x k seen' q, Za f m seen t = .ok (x, k, seen') q → seen' = Jj (.cons x k .nil) seen) ∧ (∀ m seen t g seen' q, kidsT f m seen t = .ok (g, seen') q → seen' = Jj g seen)
 | 0 => ⟨fun m seen t x k seen' q h => (by cases h), fun m seen t g seen' q h => (by cases h)⟩
 | f + 1 => by
  obtain ⟨i1, i2⟩ := Xfv f
  refine ⟨fun m seen t x k seen' q h => ?_, fun m seen t g seen' q h => ?_⟩
  ·rw [Qw] at h
   split at h
   ·split at h
    ·cases h
    split at h
    ·obtain ⟨rfl, e⟩ := Xgt rfl h
     exact e
    split at h
    ·split at h
     ·cases e : kidsT f (m + 1) seen (Ld t).tail.tail with
      | no ee r => rw [e] at h; cases h
      | ok p r =>
       obtain ⟨k0, s0⟩ := p
       rw [e] at h
       obtain ⟨rfl, e2⟩ := Xgt rfl h
       rw [e2, i2 _ _ _ _ _ _ e]
       rfl
     ·cases h
    ·cases h
   ·cases h
  ·rw [Pi] at h
   split at h
   ·injection h with h _
    injection h with h1 h2
    subst h1 h2
    rfl
   ·cases e : Za f m seen t with
    | no ee r => rw [e] at h; cases h
    | ok p r =>
     obtain ⟨x, k, s0⟩ := p
     rw [e] at h
     dsimp only at h
     cases e2 : kidsT f (m + 1 + (Bz k).length) s0 r with
     | no ee u => rw [e2] at h; cases h
     | ok p u =>
      obtain ⟨s, s2⟩ := p
      rw [e2] at h
      injection h with h _
      injection h with h1 h2
      subst h1 h2
      rw [i2 _ _ _ _ _ _ e2, i1 _ _ _ _ _ _ _ e]
      rfl
theorem Xbx {x x' : Ag} {k k' : PF} {seen seen' : List ByteArray} {t q : List Tk} (h : Um x k seen t = .ok (x', k', seen') q) : k' = k := by
 unfold Um at h
 split at h
 ·split at h
  ·split at h
   ·cases h
   ·injection h with h _
    injection h with _ h
    injection h with h _
    exact h.symm
  ·cases h
 ·injection h with h _
  injection h with _ h
  injection h with h _
  exact h.symm
theorem Xhw : ∀ (f : Nat), (∀ m seen t x k seen' q, Za f m seen t = .ok (x, k, seen') q → m + 1 + (Bz k).length ≤ 32) ∧ (∀ m seen t g seen' q, m ≤ 32 → kidsT f m seen t = .ok (g, seen') q → m + (Bz g).length ≤ 32)
 | 0 => ⟨fun m seen t x k seen' q h => (by cases h), fun m seen t g seen' q _ h => (by cases h)⟩
 | f + 1 => by
  obtain ⟨i1, i2⟩ := Xhw f
  refine ⟨fun m seen t x k seen' q h => ?_, fun m seen t g seen' q hm h => ?_⟩
  ·rw [Qw] at h
   split at h
   ·split at h
    ·cases h
    split at h
    ·rw [Xbx h]
     simp only [Bz, List.length_nil]
     omega
    split at h
    ·split at h
     ·cases e : kidsT f (m + 1) seen (Ld t).tail.tail with
      | no ee r => rw [e] at h; cases h
      | ok p r =>
       obtain ⟨k0, s0⟩ := p
       rw [e] at h
       rw [Xbx h]
       exact i2 _ _ _ _ _ _ (by omega) e
     ·cases h
    ·cases h
   ·cases h
  ·rw [Pi] at h
   split at h
   ·injection h with h _
    injection h with h1 h2
    subst h1
    simp only [Bz, List.length_nil]
    omega
   ·cases e : Za f m seen t with
    | no ee r => rw [e] at h; cases h
    | ok p r =>
     obtain ⟨x, k, s0⟩ := p
     rw [e] at h
     dsimp only at h
     have h1 := i1 _ _ _ _ _ _ _ e
     cases e2 : kidsT f (m + 1 + (Bz k).length) s0 r with
     | no ee u => rw [e2] at h; cases h
     | ok p u =>
      obtain ⟨s, s2⟩ := p
      rw [e2] at h
      injection h with h _
      injection h with h1' h2
      subst h1'
      have := i2 _ _ _ _ _ _ h1 e2
      simp only [Bz, List.length_cons, List.length_append]
      omega
theorem Xiv {m : Nat} {seen seen' : List ByteArray} {t q : List Tk} {x : Ag} {k : PF} (h : Xb0 m seen t = .ok (x, k, seen') q) : m + 1 + (Bz k).length ≤ 32 := (Xhw _).1 _ _ _ _ _ _ _ h
theorem Xgh {m : Nat} {seen seen' : List ByteArray} {t q : List Tk} {x : Ag} {k : PF} (h : Xb0 m seen t = .ok (x, k, seen') q) : seen' = Jj (.cons x k .nil) seen := (Xfv _).1 _ _ _ _ _ _ _ h
theorem Xka {m : Nat} {seen seen' : List ByteArray} {t q : List Tk} {g : PF} (h : Xa7 m seen t = .ok (g, seen') q) : seen' = Jj g seen := (Xfv _).2 _ _ _ _ _ _ h
theorem Xix {m : Nat} {seen : List ByteArray} {t q : List Tk} {e : Int} (h : Xb0 m seen t = .no e q) : e ≠ 0 := by
 rcases (Xkn _).1 _ _ _ _ _ (Nat.le_refl _) h with h | h | h <;> omega
def J8 (o : List Ag) (seen : List ByteArray) : Prop := ∀ c, c ∈ seen ↔ c ∈ O1 o
theorem J8.app {o : List Ag} {seen : List ByteArray} (h : J8 o seen) (g : PF) : J8 (o ++ Bz g) (Jj g seen) := fun c => by
 rw [(X8 g seen).mem_iff, Xas, List.mem_append, List.mem_append, h c, Or.comm]
theorem Xk3 {x : Ag} (h : x.capture = noB) (v : List Ag) : O1 (x :: v) = O1 v := by
 rw [Xen]
 unfold Yf
 rw [if_pos h]
theorem J8.mid {o v : List Ag} {seen : List ByteArray} {x : Ag} (h : x.capture = noB) : J8 (o ++ x :: v) seen ↔ J8 (o ++ v) seen := by
 unfold J8
 rw [Xas, Xas, Xk3 h]
theorem Xlc {c : ByteArray} {v : List Ag} : c ∈ O1 v ↔ c ≠ noB ∧ ∃ x ∈ v, x.capture = c := by
 unfold O1
 rw [List.mem_filter, List.mem_map]
 simp only [Bool.not_eq_true', decide_eq_false_iff_not]
 exact And.comm
theorem inC_seen {o : List Ag} {seen : List ByteArray} (h : J8 o seen) (c : ByteArray) : inC c seen = true ↔ (c ≠ noB ∧ ∃ x ∈ o, x.capture = c) := by
 rw [Xaj, h c, Xlc]
def Vo (c : ByteArray) (v : List Ag) : Option Nat := v.findIdx? fun x => decide (x.capture = c)
theorem Xim {c : ByteArray} {v : List Ag} : (Vo c v).isSome = true ↔ ∃ x ∈ v, x.capture = c := by
 unfold Vo
 rw [List.findIdx?_isSome, List.any_eq_true]
 simp only [decide_eq_true_eq]
def Vz (c : ByteArray) (v : List Ag) : Int := if c = noB then -1 else match Vo c v with
 | none => -1
 | some i => (i : Int)
theorem Xa5 {o : List Ag} {seen : List ByteArray} (h : J8 o seen) (c : ByteArray) : Vz c o ≥ 0 ↔ inC c seen = true := by
 rw [inC_seen h, ← Xim]
 unfold Vz
 by_cases g : c = noB
 ·rw [if_pos g]
  exact ⟨fun h => absurd h (by decide), fun h => absurd g h.1⟩
 ·rw [if_neg g]
  cases e : Vo c o with
  | none => exact ⟨fun h => absurd h (by decide), fun h => absurd h.2 (by simp)⟩
  | some i => exact ⟨fun h => ⟨g, rfl⟩, fun h => Int.natCast_nonneg i⟩
theorem Xky {α : Type} (a v : List α) (x y : α) : (a ++ x :: v).set a.length y = a ++ y :: v := by
 rw [List.set_append_right _ _ (Nat.le_refl _), Nat.sub_self]
 rfl
end Go.Proofs.YtjookebbmfiidaaDoor.L
