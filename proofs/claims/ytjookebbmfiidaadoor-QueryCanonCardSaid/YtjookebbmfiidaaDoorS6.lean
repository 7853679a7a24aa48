/- Queries: rests of rows of words, places, captures of a row. No condition. -/
import Derived.Test.YtjookebbmfiidaaDoorS5
import Derived.Test.YtjookebbmfiidaaDoorF1
import Derived.Test.YtjookebbmfiidaaDoorB5
set_option linter.unusedVariables false
namespace Go.Proofs.YtjookebbmfiidaaDoor.L
open Go.Proofs.YtjookebbmfiidaaDoor.B Go.Proofs.YtjookebbmfiidaaDoor.R
def Zw (W : List Aj) : List Tk := W.map fun w => (w.kind, w.text)
theorem Xf9 (W : List Aj) : (Zw W).length = W.length := List.length_map _
def Rst (W : List Aj) (t : List Tk) : Prop := t <:+ Zw W
def psn (W : List Aj) (t : List Tk) : Nat := W.length - t.length
theorem Rst.le {W : List Aj} {t : List Tk} (h : Rst W t) : t.length ≤ W.length := by
 have := List.IsSuffix.length_le h
 rwa [Xf9] at this
theorem Rst.sub {W : List Aj} {t q : List Tk} (h : Rst W t) (hq : q <:+ t) : Rst W q := List.IsSuffix.trans hq h
theorem Rst.tl {W : List Aj} {t : List Tk} (h : Rst W t) : Rst W t.tail := h.sub (List.tail_suffix t)
theorem psn_all (W : List Aj) : psn W (Zw W) = 0 := by unfold psn; rw [Xf9]; omega
theorem Rst.drop {W : List Aj} {t : List Tk} (h : Rst W t) : Zw (W.drop (psn W t)) = t := by
 obtain ⟨p, hp⟩ := h
 have hl : p.length = psn W t := by
  have := congrArg List.length hp
  rw [List.length_append, Xf9] at this
  unfold psn
  omega
 unfold Zw at hp ⊢
 rw [List.map_drop, ← hp, ← hl, List.drop_left]
theorem Rst.hd {W : List Aj} {k : Int} {x : ByteArray} {t : List Tk} (h : Rst W ((k, x) :: t)) : psn W ((k, x) :: t) < W.length ∧ (ix W (psn W ((k, x) :: t) : Int)).kind = k ∧ (ix W (psn W ((k, x) :: t) : Int)).text = x ∧ psn W t = psn W ((k, x) :: t) + 1 := by
 have hd := h.drop
 have hl := h.le
 generalize hn : psn W ((k, x) :: t) = n at hd ⊢
 have hlt : n < W.length := by
  unfold psn at hn
  simp only [List.length_cons] at hn hl
  omega
 have hx : W[((n : Nat) : Int).toNat]? = some (ix W ((n : Nat) : Int)) := Za ⟨Int.natCast_nonneg n, by omega⟩
 rw [Int.toNat_natCast] at hx
 have hx2 : W.drop n = ix W (n : Int) :: W.drop (n + 1) := by
  have hg : W[n] = ix W (n : Int) := by
   rw [List.getElem?_eq_getElem hlt] at hx
   exact Option.some.inj hx
  rw [List.drop_eq_getElem_cons hlt, hg]
 rw [hx2] at hd
 unfold Zw at hd
 rw [List.map_cons] at hd
 injection hd with h1 h2
 injection h1 with h3 h4
 refine ⟨hlt, h3, h4, ?_⟩
 unfold psn at hn ⊢
 simp only [List.length_cons] at hn hl
 omega
theorem Xm (W : List Aj) : psn W [] = W.length := by unfold psn; simp
def plW (W : List Aj) (L : Int) (t : List Tk) : Int := if psn W t < W.length then (ix W (psn W t : Int)).at_ else L
theorem isT_cons (k k' : Int) (x x' : ByteArray) (t : List Tk) : isT k x ((k', x') :: t) = (decide (k' = k) && decide (x' = x)) := rfl
theorem Xh8 (k' : Int) (x' : ByteArray) (t : List Tk) : X4 ((k', x') :: t) = (decide (k' = 1) && !decide (x' = Oy)) := rfl
theorem Xh7 (k' : Int) (x' : ByteArray) (t : List Tk) : Zi ((k', x') :: t) = (decide (k' = 2) && !decide (x' = noB)) := rfl
def SufP {α : Type} (t : List Tk) : PQ α → Prop
 | .ok _ q => q <:+ t
 | .no _ q => q <:+ t
theorem suf2 (t : List Tk) : t.tail.tail <:+ t := List.IsSuffix.trans (List.tail_suffix _) (List.tail_suffix _)
theorem Xj3 (t : List Tk) : Ji t <:+ t := by
 unfold Ji
 split
 ·exact suf2 t
 ·exact List.suffix_refl t
theorem Xj1 {x : Ag} {k : PF} {seen : List ByteArray} {t s : List Tk} (h : t <:+ s) : SufP s (Ul x k seen t) := by
 unfold Ul
 split
 ·split
  ·split
   ·exact List.IsSuffix.trans (List.tail_suffix t) h
   ·exact List.IsSuffix.trans (suf2 t) h
  ·exact List.IsSuffix.trans (List.tail_suffix t) h
 ·exact h
theorem Xi5 : ∀ (f : Nat), (∀ m seen t, SufP t (Yb f m seen t)) ∧ (∀ m seen t, SufP t (kidsT f m seen t))
 | 0 => ⟨fun m seen t => List.suffix_refl t, fun m seen t => List.suffix_refl t⟩
 | f + 1 => by
  obtain ⟨i1, i2⟩ := Xi5 f
  refine ⟨fun m seen t => ?_, fun m seen t => ?_⟩
  ·rw [Qa]
   have ha := Xj3 t
   split
   ·split
    ·exact List.suffix_refl t
    split
    ·exact Xj1 (List.IsSuffix.trans (List.tail_suffix _) ha)
    split
    ·split
     ·have h1 := i2 (m + 1) seen (Ji t).tail.tail
      cases e : kidsT f (m + 1) seen (Ji t).tail.tail with
      | no ee q =>
       rw [e] at h1
       exact List.IsSuffix.trans h1 (List.IsSuffix.trans (suf2 _) ha)
      | ok p q =>
       rw [e] at h1
       exact Xj1 (List.IsSuffix.trans h1 (List.IsSuffix.trans (suf2 _) ha))
     ·exact List.IsSuffix.trans (List.tail_suffix _) ha
    ·exact ha
   ·exact List.suffix_refl t
  ·rw [Ol]
   split
   ·exact List.tail_suffix t
   ·have h1 := i1 m seen t
    cases e : Yb f m seen t with
    | no ee q => rw [e] at h1; exact h1
    | ok p q =>
     obtain ⟨x, k, seen'⟩ := p
     rw [e] at h1
     have h1' : q <:+ t := h1
     dsimp only
     have h2 := i2 (m + 1 + (Bq k).length) seen' q
     cases e2 : kidsT f (m + 1 + (Bq k).length) seen' q with
     | no ee u => rw [e2] at h2; exact List.IsSuffix.trans h2 h1'
     | ok p u => rw [e2] at h2; exact List.IsSuffix.trans h2 h1'
theorem Xij (m : Nat) (seen : List ByteArray) (t : List Tk) : SufP t (Zu m seen t) := (Xi5 _).1 m seen t
theorem Xm5 (m : Nat) (seen : List ByteArray) (t : List Tk) : SufP t (Xaq m seen t) := (Xi5 _).2 m seen t
theorem patN_sh (m : Nat) (seen : List ByteArray) (t : List Tk) : ShP t.length (Zu m seen t) := (Xg4 _).1 m seen t
theorem Xgx {x x' : Ag} {k k' : PF} {seen seen' : List ByteArray} {t q : List Tk} (hx : x.capture = noB) (h : Ul x k seen t = .ok (x', k', seen') q) : k' = k ∧ seen' = Xb x'.capture seen := by
 unfold Ul at h
 split at h
 ·split at h
  ·split at h
   ·cases h
   ·injection h with h _
    injection h with h1 h2
    injection h2 with h2 h3
    subst h1 h2 h3
    exact ⟨rfl, rfl⟩
  ·cases h
 ·injection h with h _
  injection h with h1 h2
  injection h2 with h2 h3
  subst h1 h2 h3
  refine ⟨rfl, ?_⟩
  unfold Xb
  rw [if_pos hx]
theorem Xfx : ∀ (f : Nat), (∀ m seen t x k seen' q, Yb f m seen t = .ok (x, k, seen') q → seen' = Ik (.cons x k .nil) seen) ∧ (∀ m seen t g seen' q, kidsT f m seen t = .ok (g, seen') q → seen' = Ik g seen)
 | 0 => ⟨fun m seen t x k seen' q h => (by cases h), fun m seen t g seen' q h => (by cases h)⟩
 | f + 1 => by
  obtain ⟨i1, i2⟩ := Xfx f
  refine ⟨fun m seen t x k seen' q h => ?_, fun m seen t g seen' q h => ?_⟩
  ·rw [Qa] at h
   split at h
   ·split at h
    ·cases h
    split at h
    ·obtain ⟨rfl, e⟩ := Xgx rfl h
     exact e
    split at h
    ·split at h
     ·cases e : kidsT f (m + 1) seen (Ji t).tail.tail with
      | no ee r => rw [e] at h; cases h
      | ok p r =>
       obtain ⟨k0, s0⟩ := p
       rw [e] at h
       obtain ⟨rfl, e2⟩ := Xgx rfl h
       rw [e2, i2 _ _ _ _ _ _ e]
       rfl
     ·cases h
    ·cases h
   ·cases h
  ·rw [Ol] at h
   split at h
   ·injection h with h _
    injection h with h1 h2
    subst h1 h2
    rfl
   ·cases e : Yb f m seen t with
    | no ee r => rw [e] at h; cases h
    | ok p r =>
     obtain ⟨x, k, s0⟩ := p
     rw [e] at h
     dsimp only at h
     cases e2 : kidsT f (m + 1 + (Bq k).length) s0 r with
     | no ee u => rw [e2] at h; cases h
     | ok p u =>
      obtain ⟨s, s2⟩ := p
      rw [e2] at h
      injection h with h _
      injection h with h1 h2
      subst h1 h2
      rw [i2 _ _ _ _ _ _ e2, i1 _ _ _ _ _ _ _ e]
      rfl
theorem Xcq {x x' : Ag} {k k' : PF} {seen seen' : List ByteArray} {t q : List Tk} (h : Ul x k seen t = .ok (x', k', seen') q) : k' = k := by
 unfold Ul at h
 split at h
 ·split at h
  ·split at h
   ·cases h
   ·injection h with h _
    injection h with _ h
    injection h with h _
    exact h.symm
  ·cases h
 ·injection h with h _
  injection h with _ h
  injection h with h _
  exact h.symm
theorem Xhv : ∀ (f : Nat), (∀ m seen t x k seen' q, Yb f m seen t = .ok (x, k, seen') q → m + 1 + (Bq k).length ≤ 32) ∧ (∀ m seen t g seen' q, m ≤ 32 → kidsT f m seen t = .ok (g, seen') q → m + (Bq g).length ≤ 32)
 | 0 => ⟨fun m seen t x k seen' q h => (by cases h), fun m seen t g seen' q _ h => (by cases h)⟩
 | f + 1 => by
  obtain ⟨i1, i2⟩ := Xhv f
  refine ⟨fun m seen t x k seen' q h => ?_, fun m seen t g seen' q hm h => ?_⟩
  ·rw [Qa] at h
   split at h
   ·split at h
    ·cases h
    split at h
    ·rw [Xcq h]
     simp only [Bq, List.length_nil]
     omega
    split at h
    ·split at h
     ·cases e : kidsT f (m + 1) seen (Ji t).tail.tail with
      | no ee r => rw [e] at h; cases h
      | ok p r =>
       obtain ⟨k0, s0⟩ := p
       rw [e] at h
       rw [Xcq h]
       exact i2 _ _ _ _ _ _ (by omega) e
     ·cases h
    ·cases h
   ·cases h
  ·rw [Ol] at h
   split at h
   ·injection h with h _
    injection h with h1 h2
    subst h1
    simp only [Bq, List.length_nil]
    omega
   ·cases e : Yb f m seen t with
    | no ee r => rw [e] at h; cases h
    | ok p r =>
     obtain ⟨x, k, s0⟩ := p
     rw [e] at h
     dsimp only at h
     have h1 := i1 _ _ _ _ _ _ _ e
     cases e2 : kidsT f (m + 1 + (Bq k).length) s0 r with
     | no ee u => rw [e2] at h; cases h
     | ok p u =>
      obtain ⟨s, s2⟩ := p
      rw [e2] at h
      injection h with h _
      injection h with h1' h2
      subst h1'
      have := i2 _ _ _ _ _ _ h1 e2
      simp only [Bq, List.length_cons, List.length_append]
      omega
theorem Xii {m : Nat} {seen seen' : List ByteArray} {t q : List Tk} {x : Ag} {k : PF} (h : Zu m seen t = .ok (x, k, seen') q) : m + 1 + (Bq k).length ≤ 32 := (Xhv _).1 _ _ _ _ _ _ _ h
theorem Xh0 {m : Nat} {seen seen' : List ByteArray} {t q : List Tk} {x : Ag} {k : PF} (h : Zu m seen t = .ok (x, k, seen') q) : seen' = Ik (.cons x k .nil) seen := (Xfx _).1 _ _ _ _ _ _ _ h
theorem Xk5 {m : Nat} {seen seen' : List ByteArray} {t q : List Tk} {g : PF} (h : Xaq m seen t = .ok (g, seen') q) : seen' = Ik g seen := (Xfx _).2 _ _ _ _ _ _ h
theorem Xj7 {m : Nat} {seen : List ByteArray} {t q : List Tk} {e : Int} (h : Zu m seen t = .no e q) : e ≠ 0 := by
 rcases (Xhr _).1 _ _ _ _ _ (Nat.le_refl _) h with h | h | h <;> omega
def Iz (o : List Ag) (seen : List ByteArray) : Prop := ∀ c, c ∈ seen ↔ c ∈ O7 o
theorem Iz.app {o : List Ag} {seen : List ByteArray} (h : Iz o seen) (g : PF) : Iz (o ++ Bq g) (Ik g seen) := fun c => by
 rw [(Xa g seen).mem_iff, Xb4, List.mem_append, List.mem_append, h c, Or.comm]
theorem Xjt {x : Ag} (h : x.capture = noB) (v : List Ag) : O7 (x :: v) = O7 v := by
 rw [Xfh]
 unfold Xb
 rw [if_pos h]
theorem Iz.mid {o v : List Ag} {seen : List ByteArray} {x : Ag} (h : x.capture = noB) : Iz (o ++ x :: v) seen ↔ Iz (o ++ v) seen := by
 unfold Iz
 rw [Xb4, Xb4, Xjt h]
theorem Xlu {c : ByteArray} {v : List Ag} : c ∈ O7 v ↔ c ≠ noB ∧ ∃ x ∈ v, x.capture = c := by
 unfold O7
 rw [List.mem_filter, List.mem_map]
 simp only [Bool.not_eq_true', decide_eq_false_iff_not]
 exact And.comm
theorem inC_seen {o : List Ag} {seen : List ByteArray} (h : Iz o seen) (c : ByteArray) : inC c seen = true ↔ (c ≠ noB ∧ ∃ x ∈ o, x.capture = c) := by
 rw [Ze, h c, Xlu]
def Vd (c : ByteArray) (v : List Ag) : Option Nat := v.findIdx? fun x => decide (x.capture = c)
theorem Xje {c : ByteArray} {v : List Ag} : (Vd c v).isSome = true ↔ ∃ x ∈ v, x.capture = c := by
 unfold Vd
 rw [List.findIdx?_isSome, List.any_eq_true]
 simp only [decide_eq_true_eq]
def Vr (c : ByteArray) (v : List Ag) : Int := if c = noB then -1 else match Vd c v with
 | none => -1
 | some i => (i : Int)
theorem Xa7 {o : List Ag} {seen : List ByteArray} (h : Iz o seen) (c : ByteArray) : Vr c o ≥ 0 ↔ inC c seen = true := by
 rw [inC_seen h, ← Xje]
 unfold Vr
 by_cases g : c = noB
 ·rw [if_pos g]
  exact ⟨fun h => absurd h (by decide), fun h => absurd g h.1⟩
 ·rw [if_neg g]
  cases e : Vd c o with
  | none => exact ⟨fun h => absurd h (by decide), fun h => absurd h.2 (by simp)⟩
  | some i => exact ⟨fun h => ⟨g, rfl⟩, fun h => Int.natCast_nonneg i⟩
theorem Xlh {α : Type} (a v : List α) (x y : α) : (a ++ x :: v).set a.length y = a ++ y :: v := by
 rw [List.set_append_right _ _ (Nat.le_refl _), Nat.sub_self]
 rfl
end Go.Proofs.YtjookebbmfiidaaDoor.L
