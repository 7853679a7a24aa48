/- Queries: patterns as forests, their words, the plain parser on words. No condition. -/
import Derived.Test.YtjookebbmfiidaaDoorR
set_option linter.unusedVariables false
namespace Go.Proofs.YtjookebbmfiidaaDoor.L
open Go.Proofs.YtjookebbmfiidaaDoor.R
inductive PF where
 | nil : PF
 | cons (x : Ag) (k s : PF) : PF
def Bz : PF → List Ag
 | .nil => []
 | .cons x k s => x :: (Bz k ++ Bz s)
def Ju : PF → Nat
 | .nil => 0
 | .cons _ _ s => Ju s + 1
def Xec : PF → Prop
 | .nil => True
 | .cons x k s => x.kids = (Ju k : Int) ∧ Xec k ∧ Xec s
abbrev Tk := Int × ByteArray
abbrev Rx : ByteArray := ⟨#[95]⟩
abbrev Xfv : ByteArray := ⟨#[58]⟩
abbrev opB : ByteArray := ⟨#[40]⟩
abbrev clB : ByteArray := ⟨#[41]⟩
abbrev Ti : ByteArray := ⟨#[64]⟩
abbrev eqB : ByteArray := ⟨#[61]⟩
abbrev noB : ByteArray := ⟨#[]⟩
def isT (k : Int) (x : ByteArray) : List Tk → Bool
 | [] => false
 | w :: _ => decide (w.1 = k) && decide (w.2 = x)
def Yt : List Tk → Bool
 | [] => false
 | w :: _ => decide (w.1 = 1) && !decide (w.2 = Rx)
def Xb0 : List Tk → Bool
 | [] => false
 | w :: _ => decide (w.1 = 2) && !decide (w.2 = noB)
def hdT : List Tk → ByteArray
 | [] => noB
 | w :: _ => w.2
def Zq (t : List Tk) : Bool := Yt t && isT 5 Xfv t.tail
def Qy (t : List Tk) : Bool := Zq t || isT 5 opB t || Xb0 t
inductive PQ (α : Type) where
 | ok (a : α) (t : List Tk)
 | no (e : Int) (t : List Tk)
def inC (c : ByteArray) (l : List ByteArray) : Bool := l.any fun y => decide (c = y)
theorem Xc1 {c : ByteArray} {l : List ByteArray} : inC c l = true ↔ c ∈ l := by
 unfold inC
 rw [List.any_eq_true]
 constructor
 ·rintro ⟨y, hy, e⟩
  rw [of_decide_eq_true e]; exact hy
 ·exact fun h => ⟨c, h, decide_eq_true rfl⟩
def Xa3 (c : ByteArray) (l : List ByteArray) : List ByteArray := if c = noB then l else c :: l
def Wj (x : Ag) (k : PF) (seen : List ByteArray) (t : List Tk) : PQ (Ag × PF × List ByteArray) :=
 if isT 5 Ti t = true then
  if Yt t.tail = true then
   if inC (hdT t.tail) seen = true then .no 201 t.tail else .ok ({ x with capture := hdT t.tail }, k, Xa3 (hdT t.tail) seen) t.tail.tail
  else .no 200 t.tail
 else .ok (x, k, seen) t
def nmT (t : List Tk) : Bool := isT 1 Rx t || Yt t
def Xf0 (t : List Tk) : ByteArray := if Zq t = true then hdT t else noB
def N7 (t : List Tk) : List Tk := if Zq t = true then t.tail.tail else t
mutual
def Xae : Nat → Nat → List ByteArray → List Tk → PQ (Ag × PF × List ByteArray)
 | 0, _, _, t => .no 0 t
 | f + 1, m, seen, t =>
  if Qy t = true then
   if m ≥ 32 then .no 202 t
   else if Xb0 (N7 t) = true then Wj ⟨hdT (N7 t), true, Xf0 t, noB, 0⟩ .nil seen (N7 t).tail
   else if isT 5 opB (N7 t) = true then
    if nmT (N7 t).tail = true then
     match kidsT f (m + 1) seen (N7 t).tail.tail with
     | .no e r => .no e r
     | .ok (k, seen') r => Wj ⟨if isT 1 Rx (N7 t).tail = true then noB else hdT (N7 t).tail, false, Xf0 t, noB, (Ju k : Int)⟩ k seen' r
    else .no 200 (N7 t).tail
   else .no 200 (N7 t)
  else .no 200 t
def kidsT : Nat → Nat → List ByteArray → List Tk → PQ (PF × List ByteArray)
 | 0, _, _, t => .no 0 t
 | f + 1, m, seen, t =>
  if isT 5 clB t = true then .ok (.nil, seen) t.tail
  else match Xae f m seen t with
   | .no e r => .no e r
   | .ok (x, k, seen') r => match kidsT f (m + 1 + (Bz k).length) seen' r with
    | .no e q => .no e q
    | .ok (s, seen2) q => .ok (.cons x k s, seen2) q
end
theorem S9 (f m : Nat) (seen : List ByteArray) (t : List Tk) : Xae (f + 1) m seen t = if Qy t = true then
   if m ≥ 32 then .no 202 t
   else if Xb0 (N7 t) = true then Wj ⟨hdT (N7 t), true, Xf0 t, noB, 0⟩ .nil seen (N7 t).tail
   else if isT 5 opB (N7 t) = true then
    if nmT (N7 t).tail = true then
     match kidsT f (m + 1) seen (N7 t).tail.tail with
     | .no e r => .no e r
     | .ok (k, seen') r => Wj ⟨if isT 1 Rx (N7 t).tail = true then noB else hdT (N7 t).tail, false, Xf0 t, noB, (Ju k : Int)⟩ k seen' r
    else .no 200 (N7 t).tail
   else .no 200 (N7 t)
  else .no 200 t := rfl
theorem Qh (f m : Nat) (seen : List ByteArray) (t : List Tk) : kidsT (f + 1) m seen t = if isT 5 clB t = true then .ok (.nil, seen) t.tail
  else match Xae f m seen t with
   | .no e r => .no e r
   | .ok (x, k, seen') r => match kidsT f (m + 1 + (Bz k).length) seen' r with
    | .no e q => .no e q
    | .ok (s, seen2) q => .ok (.cons x k s, seen2) q := rfl
def Yp (x : Ag) : List Tk := if x.field = noB then [] else [(1, x.field), (5, Xfv)]
def Rj (x : Ag) : List Tk := if x.capture = noB then [] else [(5, Ti), (1, x.capture)]
def Pz (x : Ag) : Tk := (1, if x.name = noB then Rx else x.name)
def Eg : PF → List Tk
 | .nil => []
 | .cons x k s => Yp x ++ ((if x.lit = true then [(2, x.name)] else (5, opB) :: Pz x :: (Eg k ++ [(5, clB)])) ++ (Rj x ++ Eg s))
def J4 : PF → List ByteArray → List ByteArray
 | .nil, l => l
 | .cons x k s, l => J4 s (Xa3 x.capture (J4 k l))
theorem Xfs (c : ByteArray) (l : List ByteArray) : ∃ p, Xa3 c l = p ++ l := by
 unfold Xa3
 split
 ·exact ⟨[], rfl⟩
 ·exact ⟨[c], rfl⟩
theorem Xal : ∀ (f : PF) (l : List ByteArray), ∃ p, J4 f l = p ++ l
 | .nil, l => ⟨[], rfl⟩
 | .cons x k s, l => by
  obtain ⟨p1, h1⟩ := Xal k l
  obtain ⟨p2, h2⟩ := Xfs x.capture (J4 k l)
  obtain ⟨p3, h3⟩ := Xal s (Xa3 x.capture (J4 k l))
  exact ⟨p3 ++ (p2 ++ p1), by show J4 s (Xa3 x.capture (J4 k l)) = _; rw [h3, h2, h1]; simp⟩
def V3 (nm : ByteArray → Bool) : PF → Bool
 | .nil => true
 | .cons x k s => (if x.lit = true then !decide (x.name = noB) && decide (Ju k = 0) else (decide (x.name = noB) || nm x.name)) && (decide (x.field = noB) || nm x.field) && (decide (x.capture = noB) || nm x.capture) && V3 nm k && V3 nm s
def Nm (nm : ByteArray → Bool) : Prop := ∀ s, nm s = true → s ≠ Rx ∧ s ≠ noB
theorem Xku {k : PF} (h : Ju k = 0) : k = .nil := by cases k with
 | nil => rfl
 | cons x k s => simp [Ju] at h
theorem Ut {nm : ByteArray → Bool} {x : Ag} {k s : PF} (h : V3 nm (.cons x k s) = true) : (x.lit = true → x.name ≠ noB ∧ k = .nil) ∧ (x.lit = false → x.name = noB ∨ nm x.name = true) ∧ (x.field = noB ∨ nm x.field = true) ∧ (x.capture = noB ∨ nm x.capture = true) ∧ V3 nm k = true ∧ V3 nm s = true := by
 simp only [V3, Bool.and_eq_true, Bool.or_eq_true, decide_eq_true_eq] at h
 obtain ⟨⟨⟨⟨h1, h2⟩, h3⟩, h4⟩, h5⟩ := h
 refine ⟨fun e => ?_, fun e => ?_, h2, h3, h4, h5⟩
 ·rw [if_pos e, Bool.and_eq_true, decide_eq_true_eq] at h1
  exact ⟨by simpa using h1.1, Xku h1.2⟩
 ·rw [if_neg (by rw [e]; simp)] at h1
  simpa using h1
def Xi6 (r : List Tk) : Prop := isT 5 Ti r = false
theorem Xig {nm : ByteArray → Bool} (hn : Nm nm) {x : Ag} {k : PF} {seen : List ByteArray} {r : List Tk} (hr : Xi6 r) (hc : x.capture = noB ∨ nm x.capture = true) (hd : (Xa3 x.capture seen).Nodup) : Wj { x with capture := noB } k seen (Rj x ++ r) = .ok (x, k, Xa3 x.capture seen) r := by
 unfold Wj Rj
 by_cases h : x.capture = noB
 ·rw [if_pos h, List.nil_append, if_neg (by rw [hr]; simp)]
  unfold Xa3
  rw [if_pos h]
  obtain ⟨a, b, c, d, e⟩ := x
  dsimp only at h
  rw [h]
 ·rw [if_neg h]
  have h1 := hn _ (hc.resolve_left h)
  unfold Xa3 at hd ⊢
  rw [if_neg h] at hd ⊢
  show (if isT 5 Ti ((5, Ti) :: (1, x.capture) :: r) = true then _ else _) = _
  rw [if_pos (show isT 5 Ti ((5, Ti) :: (1, x.capture) :: r) = true by unfold isT; simp)]
  show (if Yt ((1, x.capture) :: r) = true then _ else _) = _
  rw [if_pos (by unfold Yt; simp [h1.1])]
  show (if inC x.capture seen = true then _ else _) = _
  rw [if_neg (fun h => (List.nodup_cons.1 hd).1 (Xc1.1 h))]
  show PQ.ok ({ x with capture := x.capture }, k, (if x.capture = noB then seen else x.capture :: seen)) r = _
  rw [if_neg h]
theorem Xiv {nm : ByteArray → Bool} (hn : Nm nm) {x : ByteArray} (h : nm x = true) (r : List Tk) : Yt ((1, x) :: r) = true := by
 have := (hn x h).1
 unfold Yt
 simp [this]
theorem Xep {nm : ByteArray → Bool} (hn : Nm nm) {x : Ag} (hf : x.field = noB ∨ nm x.field = true) {r : List Tk} (hr : Zq r = false) : Zq (Yp x ++ r) = !decide (x.field = noB) ∧ Xf0 (Yp x ++ r) = x.field ∧ N7 (Yp x ++ r) = r := by
 unfold Xf0 N7 Yp
 by_cases h : x.field = noB
 ·rw [if_pos h, List.nil_append, hr, decide_eq_true h]
  exact ⟨rfl, by rw [if_neg (by simp), h], by rw [if_neg (by simp)]⟩
 ·rw [if_neg h]
  have h1 := hf.resolve_left h
  have h2 : Zq ([(1, x.field), (5, Xfv)] ++ r) = true := by
   unfold Zq
   rw [show ([(1, x.field), (5, Xfv)] ++ r : List Tk) = (1, x.field) :: (5, Xfv) :: r from rfl, Xiv hn h1, List.tail_cons]
   unfold isT
   simp
  rw [h2, decide_eq_false h]
  exact ⟨rfl, by rw [if_pos rfl]; rfl, by rw [if_pos rfl]; rfl⟩
theorem noFd_str (s : ByteArray) (r : List Tk) : Zq ((2, s) :: r) = false := by
 unfold Zq Yt
 simp
theorem Xnk (s : ByteArray) (r : List Tk) : Zq ((5, s) :: r) = false := by
 unfold Zq Yt
 simp
theorem V5 (k : Int) (x : ByteArray) (r : List Tk) : isT k x ((k, x) :: r) = true := by unfold isT; simp
theorem Xbc {k k' : Int} (h : k' ≠ k) (x y : ByteArray) (r : List Tk) : isT k x ((k', y) :: r) = false := by
 unfold isT
 simp [h]
theorem Xbs {k : Int} {x y : ByteArray} (h : y ≠ x) (r : List Tk) : isT k x ((k, y) :: r) = false := by
 unfold isT
 simp [h]
theorem Xed {nm : ByteArray → Bool} (hn : Nm nm) {x : Ag} (hf : x.field = noB ∨ nm x.field = true) {r : List Tk} (hr : Zq r = false) (hb : isT 5 opB r = true ∨ Xb0 r = true) : Qy (Yp x ++ r) = true := by
 unfold Qy
 by_cases h : x.field = noB
 ·unfold Yp
  rw [if_pos h, List.nil_append, hr]
  rcases hb with h | h <;> rw [h] <;> simp
 ·rw [(Xep hn hf hr).1, decide_eq_false h]
  rfl
theorem Xkb {g : PF} {r : List Tk} (hr : Xi6 r) : Xi6 (Eg g ++ r) := by
 cases g with
 | nil => exact hr
 | cons x k s =>
  unfold Xi6 Eg Yp
  by_cases h : x.field = noB
  ·rw [if_pos h, List.nil_append]
   by_cases g : x.lit = true
   ·rw [if_pos g]
    exact Xbc (by decide) _ _ _
   ·rw [if_neg g]
    exact Xbs (by decide) _
  ·rw [if_neg h]
   exact Xbc (by decide) _ _ _
theorem Xl3 {nm : ByteArray → Bool} (hn : Nm nm) : ∀ (f : Nat), (∀ (m : Nat) (seen : List ByteArray) (x : Ag) (k : PF) (r : List Tk), 2 * (Bz (.cons x k .nil)).length ≤ f → Xec (.cons x k .nil) → V3 nm (.cons x k .nil) = true → (J4 (.cons x k .nil) seen).Nodup → m + (Bz (.cons x k .nil)).length ≤ 32 → Xi6 r → Xae f m seen (Eg (.cons x k .nil) ++ r) = .ok (x, k, J4 (.cons x k .nil) seen) r) ∧
  (∀ (m : Nat) (seen : List ByteArray) (g : PF) (r : List Tk), 2 * (Bz g).length + 1 ≤ f → Xec g → V3 nm g = true → (J4 g seen).Nodup → m + (Bz g).length ≤ 32 → kidsT f m seen (Eg g ++ (5, clB) :: r) = .ok (g, J4 g seen) r)
 | 0 => ⟨fun m seen x k r hf => by simp only [Bz, List.length_cons] at hf; omega, fun m seen g r hf => by omega⟩
 | f + 1 => by
  obtain ⟨i1, i2⟩ := Xl3 hn f
  refine ⟨fun m seen x k r hf hfit hg hd hm hr => ?_, fun m seen g r hf hfit hg hd hm => ?_⟩
  ·obtain ⟨g1, g2, g3, g4, g5, _⟩ := Ut hg
   obtain ⟨f1, f2, _⟩ := hfit
   simp only [Bz, List.append_nil, List.length_cons] at hf hm
   have hw : Eg (.cons x k .nil) ++ r = Yp x ++ ((if x.lit = true then [(2, x.name)] else (5, opB) :: Pz x :: (Eg k ++ [(5, clB)])) ++ (Rj x ++ r)) := by
    simp only [Eg, List.append_assoc, List.nil_append]
   rw [hw, S9]
   by_cases hl : x.lit = true
   ·obtain ⟨l1, rfl⟩ := g1 hl
    rw [if_pos hl]
    have hz : Zq ([(2, x.name)] ++ (Rj x ++ r)) = false := noFd_str _ _
    have hst : Xb0 ([(2, x.name)] ++ (Rj x ++ r)) = true := by
     show (decide ((2 : Int) = 2) && !decide (x.name = noB)) = true
     rw [decide_eq_false l1]; rfl
    obtain ⟨e1, e2, e3⟩ := Xep hn g3 hz
    rw [if_pos (Xed hn g3 hz (.inr hst)), if_neg (by omega), e3, if_pos hst, e2]
    show Wj ⟨x.name, true, x.field, noB, 0⟩ .nil seen (Rj x ++ r) = _
    have hx : (⟨x.name, true, x.field, noB, 0⟩ : Ag) = { x with capture := noB } := by
     have : x.kids = 0 := f1
     rw [← hl, ← this]
    rw [hx]
    exact Xig hn hr g4 hd
   ·have hlf : x.lit = false := by simpa using hl
    have g2' := g2 hlf
    rw [if_neg hl]
    have hz : Zq ((5, opB) :: Pz x :: (Eg k ++ [(5, clB)]) ++ (Rj x ++ r)) = false := Xnk _ _
    have hst : isT 5 opB ((5, opB) :: Pz x :: (Eg k ++ [(5, clB)]) ++ (Rj x ++ r)) = true := V5 _ _ _
    have hns : ¬ Xb0 ((5, opB) :: Pz x :: (Eg k ++ [(5, clB)]) ++ (Rj x ++ r)) = true := by
     show ¬ (decide ((5 : Int) = 2) && !decide (opB = noB)) = true
     simp
    obtain ⟨e1, e2, e3⟩ := Xep hn g3 hz
    have hnm : isT 1 Rx (Pz x :: (Eg k ++ [(5, clB)]) ++ (Rj x ++ r)) = decide (x.name = noB) ∧ nmT (Pz x :: (Eg k ++ [(5, clB)]) ++ (Rj x ++ r)) = true ∧ (¬ x.name = noB → hdT (Pz x :: (Eg k ++ [(5, clB)]) ++ (Rj x ++ r)) = x.name) := by
     unfold Pz nmT
     by_cases h : x.name = noB
     ·rw [if_pos h, decide_eq_true h]
      exact ⟨V5 _ _ _, by rw [show isT 1 Rx ((1, Rx) :: (Eg k ++ [(5, clB)]) ++ (Rj x ++ r)) = true from V5 _ _ _]; rfl, fun h' => absurd h h'⟩
     ·rw [if_neg h, decide_eq_false h]
      have h1 := g2'.resolve_left h
      exact ⟨Xbs (hn _ h1).1 _, by rw [show Yt ((1, x.name) :: (Eg k ++ [(5, clB)]) ++ (Rj x ++ r)) = true from Xiv hn h1 _, Bool.or_true], fun _ => rfl⟩
    obtain ⟨n1, n2, n3⟩ := hnm
    rw [if_pos (Xed hn g3 hz (.inl hst)), if_neg (by omega), e3, if_neg hns, if_pos hst, e2]
    have ht : ((5, opB) :: Pz x :: (Eg k ++ [(5, clB)]) ++ (Rj x ++ r)).tail = Pz x :: (Eg k ++ [(5, clB)]) ++ (Rj x ++ r) := rfl
    rw [ht, if_pos n2, n1]
    have ht2 : (Pz x :: (Eg k ++ [(5, clB)]) ++ (Rj x ++ r)).tail = Eg k ++ (5, clB) :: (Rj x ++ r) := by
     show (Eg k ++ [(5, clB)]) ++ (Rj x ++ r) = _
     simp
    have hkn : (J4 k seen).Nodup := by
     have hd' : (Xa3 x.capture (J4 k seen)).Nodup := hd
     obtain ⟨p, hp⟩ := Xfs x.capture (J4 k seen)
     rw [hp] at hd'
     exact (List.nodup_append.1 hd').2.1
    rw [ht2, i2 (m + 1) seen k (Rj x ++ r) (by omega) f2 g5 hkn (by omega)]
    dsimp only
    have hx : (⟨if decide (x.name = noB) = true then noB else hdT (Pz x :: (Eg k ++ [(5, clB)]) ++ (Rj x ++ r)), false, x.field, noB, (Ju k : Int)⟩ : Ag) = { x with capture := noB } := by
     have : (if decide (x.name = noB) = true then noB else hdT (Pz x :: (Eg k ++ [(5, clB)]) ++ (Rj x ++ r))) = x.name := by
      by_cases h : x.name = noB
      ·rw [if_pos (decide_eq_true h), h]
      ·rw [if_neg (by simpa using h), n3 h]
     rw [this, ← hlf, ← f1]
    rw [hx]
    exact Xig hn hr g4 hd
  ·rw [Qh]
   cases g with
   | nil =>
    rw [if_pos (show isT 5 clB (Eg .nil ++ (5, clB) :: r) = true from V5 _ _ _)]
    rfl
   | cons x k s =>
    obtain ⟨g1, g2, g3, g4, g5, g6⟩ := Ut hg
    obtain ⟨f1, f2, f3⟩ := hfit
    simp only [Bz, List.length_cons, List.length_append] at hf hm
    have hw : Eg (.cons x k s) ++ (5, clB) :: r = Eg (.cons x k .nil) ++ (Eg s ++ (5, clB) :: r) := by
     simp only [Eg, List.append_assoc, List.nil_append]
    have hnc : isT 5 clB (Eg (.cons x k s) ++ (5, clB) :: r) = false := by
     unfold Eg Yp
     by_cases h : x.field = noB
     ·rw [if_pos h, List.nil_append]
      by_cases g : x.lit = true
      ·rw [if_pos g]
       exact Xbc (by decide) _ _ _
      ·rw [if_neg g]
       exact Xbs (by decide) _
     ·rw [if_neg h]
      exact Xbc (by decide) _ _ _
    rw [if_neg (by rw [hnc]; simp), hw]
    have hg' : V3 nm (.cons x k .nil) = true := by
     unfold V3 at hg ⊢
     rw [Bool.and_eq_true] at hg ⊢
     exact ⟨hg.1, rfl⟩
    have hd' : (J4 s (J4 (.cons x k .nil) seen)).Nodup := hd
    have hd1 : (J4 (.cons x k .nil) seen).Nodup := by
     obtain ⟨p, hp⟩ := Xal s (J4 (.cons x k .nil) seen)
     rw [hp] at hd'
     exact (List.nodup_append.1 hd').2.1
    have hl : (Bz (.cons x k .nil)).length = (Bz k).length + 1 := by simp only [Bz, List.append_nil, List.length_cons]
    rw [i1 m seen x k (Eg s ++ (5, clB) :: r) (by omega) ⟨f1, f2, trivial⟩ hg' hd1 (by omega) (Xkb (Xbs (by decide) _))]
    dsimp only
    rw [i2 (m + 1 + (Bz k).length) (J4 (.cons x k .nil) seen) s r (by omega) f3 g6 hd' (by omega)]
    rfl
end Go.Proofs.YtjookebbmfiidaaDoor.L
