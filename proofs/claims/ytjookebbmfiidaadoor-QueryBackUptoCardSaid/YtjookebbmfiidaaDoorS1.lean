/- Queries: patterns as forests, their words, the plain parser on words. No condition. -/
import Derived.Test.YtjookebbmfiidaaDoorR
set_option linter.unusedVariables false
namespace Go.Proofs.YtjookebbmfiidaaDoor.L
open Go.Proofs.YtjookebbmfiidaaDoor.R
inductive PF where
 | nil : PF
 | cons (x : Ag) (k s : PF) : PF
def Bz : PF → List Ag
 | .nil => []
 | .cons x k s => x :: (Bz k ++ Bz s)
def Jv : PF → Nat
 | .nil => 0
 | .cons _ _ s => Jv s + 1
def Xdk : PF → Prop
 | .nil => True
 | .cons x k s => x.kids = (Jv k : Int) ∧ Xdk k ∧ Xdk s
abbrev Tk := Int × ByteArray
abbrev Rk : ByteArray := ⟨#[95]⟩
abbrev Xfv : ByteArray := ⟨#[58]⟩
abbrev opB : ByteArray := ⟨#[40]⟩
abbrev clB : ByteArray := ⟨#[41]⟩
abbrev Td : ByteArray := ⟨#[64]⟩
abbrev eqB : ByteArray := ⟨#[61]⟩
abbrev noB : ByteArray := ⟨#[]⟩
def isT (k : Int) (x : ByteArray) : List Tk → Bool
 | [] => false
 | w :: _ => decide (w.1 = k) && decide (w.2 = x)
def Yv : List Tk → Bool
 | [] => false
 | w :: _ => decide (w.1 = 1) && !decide (w.2 = Rk)
def Xaz : List Tk → Bool
 | [] => false
 | w :: _ => decide (w.1 = 2) && !decide (w.2 = noB)
def hdT : List Tk → ByteArray
 | [] => noB
 | w :: _ => w.2
def Zl (t : List Tk) : Bool := Yv t && isT 5 Xfv t.tail
def Rf (t : List Tk) : Bool := Zl t || isT 5 opB t || Xaz t
inductive PQ (α : Type) where
 | ok (a : α) (t : List Tk)
 | no (e : Int) (t : List Tk)
def inC (c : ByteArray) (l : List ByteArray) : Bool := l.any fun y => decide (c = y)
theorem Xby {c : ByteArray} {l : List ByteArray} : inC c l = true ↔ c ∈ l := by
 unfold inC
 rw [List.any_eq_true]
 constructor
 ·rintro ⟨y, hy, e⟩
  rw [of_decide_eq_true e]; exact hy
 ·exact fun h => ⟨c, h, decide_eq_true rfl⟩
def Xa6 (c : ByteArray) (l : List ByteArray) : List ByteArray := if c = noB then l else c :: l
def Wq (x : Ag) (k : PF) (seen : List ByteArray) (t : List Tk) : PQ (Ag × PF × List ByteArray) :=
 if isT 5 Td t = true then
  if Yv t.tail = true then
   if inC (hdT t.tail) seen = true then .no 201 t.tail else .ok ({ x with capture := hdT t.tail }, k, Xa6 (hdT t.tail) seen) t.tail.tail
  else .no 200 t.tail
 else .ok (x, k, seen) t
def nmT (t : List Tk) : Bool := isT 1 Rk t || Yv t
def Xeo (t : List Tk) : ByteArray := if Zl t = true then hdT t else noB
def N7 (t : List Tk) : List Tk := if Zl t = true then t.tail.tail else t
mutual
def Xag : Nat → Nat → List ByteArray → List Tk → PQ (Ag × PF × List ByteArray)
 | 0, _, _, t => .no 0 t
 | f + 1, m, seen, t =>
  if Rf t = true then
   if m ≥ 32 then .no 202 t
   else if Xaz (N7 t) = true then Wq ⟨hdT (N7 t), true, Xeo t, noB, 0⟩ .nil seen (N7 t).tail
   else if isT 5 opB (N7 t) = true then
    if nmT (N7 t).tail = true then
     match kidsT f (m + 1) seen (N7 t).tail.tail with
     | .no e r => .no e r
     | .ok (k, seen') r => Wq ⟨if isT 1 Rk (N7 t).tail = true then noB else hdT (N7 t).tail, false, Xeo t, noB, (Jv k : Int)⟩ k seen' r
    else .no 200 (N7 t).tail
   else .no 200 (N7 t)
  else .no 200 t
def kidsT : Nat → Nat → List ByteArray → List Tk → PQ (PF × List ByteArray)
 | 0, _, _, t => .no 0 t
 | f + 1, m, seen, t =>
  if isT 5 clB t = true then .ok (.nil, seen) t.tail
  else match Xag f m seen t with
   | .no e r => .no e r
   | .ok (x, k, seen') r => match kidsT f (m + 1 + (Bz k).length) seen' r with
    | .no e q => .no e q
    | .ok (s, seen2) q => .ok (.cons x k s, seen2) q
end
theorem S9 (f m : Nat) (seen : List ByteArray) (t : List Tk) : Xag (f + 1) m seen t = if Rf t = true then
   if m ≥ 32 then .no 202 t
   else if Xaz (N7 t) = true then Wq ⟨hdT (N7 t), true, Xeo t, noB, 0⟩ .nil seen (N7 t).tail
   else if isT 5 opB (N7 t) = true then
    if nmT (N7 t).tail = true then
     match kidsT f (m + 1) seen (N7 t).tail.tail with
     | .no e r => .no e r
     | .ok (k, seen') r => Wq ⟨if isT 1 Rk (N7 t).tail = true then noB else hdT (N7 t).tail, false, Xeo t, noB, (Jv k : Int)⟩ k seen' r
    else .no 200 (N7 t).tail
   else .no 200 (N7 t)
  else .no 200 t := rfl
theorem Qi (f m : Nat) (seen : List ByteArray) (t : List Tk) : kidsT (f + 1) m seen t = if isT 5 clB t = true then .ok (.nil, seen) t.tail
  else match Xag f m seen t with
   | .no e r => .no e r
   | .ok (x, k, seen') r => match kidsT f (m + 1 + (Bz k).length) seen' r with
    | .no e q => .no e q
    | .ok (s, seen2) q => .ok (.cons x k s, seen2) q := rfl
def Yt (x : Ag) : List Tk := if x.field = noB then [] else [(1, x.field), (5, Xfv)]
def Rj (x : Ag) : List Tk := if x.capture = noB then [] else [(5, Td), (1, x.capture)]
def Q3 (x : Ag) : Tk := (1, if x.name = noB then Rk else x.name)
def Eg : PF → List Tk
 | .nil => []
 | .cons x k s => Yt x ++ ((if x.lit = true then [(2, x.name)] else (5, opB) :: Q3 x :: (Eg k ++ [(5, clB)])) ++ (Rj x ++ Eg s))
def Jh : PF → List ByteArray → List ByteArray
 | .nil, l => l
 | .cons x k s, l => Jh s (Xa6 x.capture (Jh k l))
theorem Xfi (c : ByteArray) (l : List ByteArray) : ∃ p, Xa6 c l = p ++ l := by
 unfold Xa6
 split
 ·exact ⟨[], rfl⟩
 ·exact ⟨[c], rfl⟩
theorem Xas : ∀ (f : PF) (l : List ByteArray), ∃ p, Jh f l = p ++ l
 | .nil, l => ⟨[], rfl⟩
 | .cons x k s, l => by
  obtain ⟨p1, h1⟩ := Xas k l
  obtain ⟨p2, h2⟩ := Xfi x.capture (Jh k l)
  obtain ⟨p3, h3⟩ := Xas s (Xa6 x.capture (Jh k l))
  exact ⟨p3 ++ (p2 ++ p1), by show Jh s (Xa6 x.capture (Jh k l)) = _; rw [h3, h2, h1]; simp⟩
def Uu (nm : ByteArray → Bool) : PF → Bool
 | .nil => true
 | .cons x k s => (if x.lit = true then !decide (x.name = noB) && decide (Jv k = 0) else (decide (x.name = noB) || nm x.name)) && (decide (x.field = noB) || nm x.field) && (decide (x.capture = noB) || nm x.capture) && Uu nm k && Uu nm s
def Nm (nm : ByteArray → Bool) : Prop := ∀ s, nm s = true → s ≠ Rk ∧ s ≠ noB
theorem Xk1 {k : PF} (h : Jv k = 0) : k = .nil := by cases k with
 | nil => rfl
 | cons x k s => simp [Jv] at h
theorem Ur {nm : ByteArray → Bool} {x : Ag} {k s : PF} (h : Uu nm (.cons x k s) = true) : (x.lit = true → x.name ≠ noB ∧ k = .nil) ∧ (x.lit = false → x.name = noB ∨ nm x.name = true) ∧ (x.field = noB ∨ nm x.field = true) ∧ (x.capture = noB ∨ nm x.capture = true) ∧ Uu nm k = true ∧ Uu nm s = true := by
 simp only [Uu, Bool.and_eq_true, Bool.or_eq_true, decide_eq_true_eq] at h
 obtain ⟨⟨⟨⟨h1, h2⟩, h3⟩, h4⟩, h5⟩ := h
 refine ⟨fun e => ?_, fun e => ?_, h2, h3, h4, h5⟩
 ·rw [if_pos e, Bool.and_eq_true, decide_eq_true_eq] at h1
  exact ⟨by simpa using h1.1, Xk1 h1.2⟩
 ·rw [if_neg (by rw [e]; simp)] at h1
  simpa using h1
def Xi2 (r : List Tk) : Prop := isT 5 Td r = false
theorem Xhz {nm : ByteArray → Bool} (hn : Nm nm) {x : Ag} {k : PF} {seen : List ByteArray} {r : List Tk} (hr : Xi2 r) (hc : x.capture = noB ∨ nm x.capture = true) (hd : (Xa6 x.capture seen).Nodup) : Wq { x with capture := noB } k seen (Rj x ++ r) = .ok (x, k, Xa6 x.capture seen) r := by
 unfold Wq Rj
 by_cases h : x.capture = noB
 ·rw [if_pos h, List.nil_append, if_neg (by rw [hr]; simp)]
  unfold Xa6
  rw [if_pos h]
  obtain ⟨a, b, c, d, e⟩ := x
  dsimp only at h
  rw [h]
 ·rw [if_neg h]
  have h1 := hn _ (hc.resolve_left h)
  unfold Xa6 at hd ⊢
  rw [if_neg h] at hd ⊢
  show (if isT 5 Td ((5, Td) :: (1, x.capture) :: r) = true then _ else _) = _
  rw [if_pos (show isT 5 Td ((5, Td) :: (1, x.capture) :: r) = true by unfold isT; simp)]
  show (if Yv ((1, x.capture) :: r) = true then _ else _) = _
  rw [if_pos (by unfold Yv; simp [h1.1])]
  show (if inC x.capture seen = true then _ else _) = _
  rw [if_neg (fun h => (List.nodup_cons.1 hd).1 (Xby.1 h))]
  show PQ.ok ({ x with capture := x.capture }, k, (if x.capture = noB then seen else x.capture :: seen)) r = _
  rw [if_neg h]
theorem Xjc {nm : ByteArray → Bool} (hn : Nm nm) {x : ByteArray} (h : nm x = true) (r : List Tk) : Yv ((1, x) :: r) = true := by
 have := (hn x h).1
 unfold Yv
 simp [this]
theorem Xf0 {nm : ByteArray → Bool} (hn : Nm nm) {x : Ag} (hf : x.field = noB ∨ nm x.field = true) {r : List Tk} (hr : Zl r = false) : Zl (Yt x ++ r) = !decide (x.field = noB) ∧ Xeo (Yt x ++ r) = x.field ∧ N7 (Yt x ++ r) = r := by
 unfold Xeo N7 Yt
 by_cases h : x.field = noB
 ·rw [if_pos h, List.nil_append, hr, decide_eq_true h]
  exact ⟨rfl, by rw [if_neg (by simp), h], by rw [if_neg (by simp)]⟩
 ·rw [if_neg h]
  have h1 := hf.resolve_left h
  have h2 : Zl ([(1, x.field), (5, Xfv)] ++ r) = true := by
   unfold Zl
   rw [show ([(1, x.field), (5, Xfv)] ++ r : List Tk) = (1, x.field) :: (5, Xfv) :: r from rfl, Xjc hn h1, List.tail_cons]
   unfold isT
   simp
  rw [h2, decide_eq_false h]
  exact ⟨rfl, by rw [if_pos rfl]; rfl, by rw [if_pos rfl]; rfl⟩
theorem noFd_str (s : ByteArray) (r : List Tk) : Zl ((2, s) :: r) = false := by
 unfold Zl Yv
 simp
theorem Xn7 (s : ByteArray) (r : List Tk) : Zl ((5, s) :: r) = false := by
 unfold Zl Yv
 simp
theorem Vh (k : Int) (x : ByteArray) (r : List Tk) : isT k x ((k, x) :: r) = true := by unfold isT; simp
theorem Xb3 {k k' : Int} (h : k' ≠ k) (x y : ByteArray) (r : List Tk) : isT k x ((k', y) :: r) = false := by
 unfold isT
 simp [h]
theorem Xb4 {k : Int} {x y : ByteArray} (h : y ≠ x) (r : List Tk) : isT k x ((k, y) :: r) = false := by
 unfold isT
 simp [h]
theorem Xdo {nm : ByteArray → Bool} (hn : Nm nm) {x : Ag} (hf : x.field = noB ∨ nm x.field = true) {r : List Tk} (hr : Zl r = false) (hb : isT 5 opB r = true ∨ Xaz r = true) : Rf (Yt x ++ r) = true := by
 unfold Rf
 by_cases h : x.field = noB
 ·unfold Yt
  rw [if_pos h, List.nil_append, hr]
  rcases hb with h | h <;> rw [h] <;> simp
 ·rw [(Xf0 hn hf hr).1, decide_eq_false h]
  rfl
theorem Xk8 {g : PF} {r : List Tk} (hr : Xi2 r) : Xi2 (Eg g ++ r) := by
 cases g with
 | nil => exact hr
 | cons x k s =>
  unfold Xi2 Eg Yt
  by_cases h : x.field = noB
  ·rw [if_pos h, List.nil_append]
   by_cases g : x.lit = true
   ·rw [if_pos g]
    exact Xb3 (by decide) _ _ _
   ·rw [if_neg g]
    exact Xb4 (by decide) _
  ·rw [if_neg h]
   exact Xb3 (by decide) _ _ _
theorem Xkx {nm : ByteArray → Bool} (hn : Nm nm) : ∀ (f : Nat), (∀ (m : Nat) (seen : List ByteArray) (x : Ag) (k : PF) (r : List Tk), 2 * (Bz (.cons x k .nil)).length ≤ f → Xdk (.cons x k .nil) → Uu nm (.cons x k .nil) = true → (Jh (.cons x k .nil) seen).Nodup → m + (Bz (.cons x k .nil)).length ≤ 32 → Xi2 r → Xag f m seen (Eg (.cons x k .nil) ++ r) = .ok (x, k, Jh (.cons x k .nil) seen) r) ∧
  (∀ (m : Nat) (seen : List ByteArray) (g : PF) (r : List Tk), 2 * (Bz g).length + 1 ≤ f → Xdk g → Uu nm g = true → (Jh g seen).Nodup → m + (Bz g).length ≤ 32 → kidsT f m seen (Eg g ++ (5, clB) :: r) = .ok (g, Jh g seen) r)
 | 0 => ⟨fun m seen x k r hf => by simp only [Bz, List.length_cons] at hf; omega, fun m seen g r hf => by omega⟩
 | f + 1 => by
  obtain ⟨i1, i2⟩ := Xkx hn f
  refine ⟨fun m seen x k r hf hfit hg hd hm hr => ?_, fun m seen g r hf hfit hg hd hm => ?_⟩
  ·obtain ⟨g1, g2, g3, g4, g5, _⟩ := Ur hg
   obtain ⟨f1, f2, _⟩ := hfit
   simp only [Bz, List.append_nil, List.length_cons] at hf hm
   have hw : Eg (.cons x k .nil) ++ r = Yt x ++ ((if x.lit = true then [(2, x.name)] else (5, opB) :: Q3 x :: (Eg k ++ [(5, clB)])) ++ (Rj x ++ r)) := by
    simp only [Eg, List.append_assoc, List.nil_append]
   rw [hw, S9]
   by_cases hl : x.lit = true
   ·obtain ⟨l1, rfl⟩ := g1 hl
    rw [if_pos hl]
    have hz : Zl ([(2, x.name)] ++ (Rj x ++ r)) = false := noFd_str _ _
    have hst : Xaz ([(2, x.name)] ++ (Rj x ++ r)) = true := by
     show (decide ((2 : Int) = 2) && !decide (x.name = noB)) = true
     rw [decide_eq_false l1]; rfl
    obtain ⟨e1, e2, e3⟩ := Xf0 hn g3 hz
    rw [if_pos (Xdo hn g3 hz (.inr hst)), if_neg (by omega), e3, if_pos hst, e2]
    show Wq ⟨x.name, true, x.field, noB, 0⟩ .nil seen (Rj x ++ r) = _
    have hx : (⟨x.name, true, x.field, noB, 0⟩ : Ag) = { x with capture := noB } := by
     have : x.kids = 0 := f1
     rw [← hl, ← this]
    rw [hx]
    exact Xhz hn hr g4 hd
   ·have hlf : x.lit = false := by simpa using hl
    have g2' := g2 hlf
    rw [if_neg hl]
    have hz : Zl ((5, opB) :: Q3 x :: (Eg k ++ [(5, clB)]) ++ (Rj x ++ r)) = false := Xn7 _ _
    have hst : isT 5 opB ((5, opB) :: Q3 x :: (Eg k ++ [(5, clB)]) ++ (Rj x ++ r)) = true := Vh _ _ _
    have hns : ¬ Xaz ((5, opB) :: Q3 x :: (Eg k ++ [(5, clB)]) ++ (Rj x ++ r)) = true := by
     show ¬ (decide ((5 : Int) = 2) && !decide (opB = noB)) = true
     simp
    obtain ⟨e1, e2, e3⟩ := Xf0 hn g3 hz
    have hnm : isT 1 Rk (Q3 x :: (Eg k ++ [(5, clB)]) ++ (Rj x ++ r)) = decide (x.name = noB) ∧ nmT (Q3 x :: (Eg k ++ [(5, clB)]) ++ (Rj x ++ r)) = true ∧ (¬ x.name = noB → hdT (Q3 x :: (Eg k ++ [(5, clB)]) ++ (Rj x ++ r)) = x.name) := by
     unfold Q3 nmT
     by_cases h : x.name = noB
     ·rw [if_pos h, decide_eq_true h]
      exact ⟨Vh _ _ _, by rw [show isT 1 Rk ((1, Rk) :: (Eg k ++ [(5, clB)]) ++ (Rj x ++ r)) = true from Vh _ _ _]; rfl, fun h' => absurd h h'⟩
     ·rw [if_neg h, decide_eq_false h]
      have h1 := g2'.resolve_left h
      exact ⟨Xb4 (hn _ h1).1 _, by rw [show Yv ((1, x.name) :: (Eg k ++ [(5, clB)]) ++ (Rj x ++ r)) = true from Xjc hn h1 _, Bool.or_true], fun _ => rfl⟩
    obtain ⟨n1, n2, n3⟩ := hnm
    rw [if_pos (Xdo hn g3 hz (.inl hst)), if_neg (by omega), e3, if_neg hns, if_pos hst, e2]
    have ht : ((5, opB) :: Q3 x :: (Eg k ++ [(5, clB)]) ++ (Rj x ++ r)).tail = Q3 x :: (Eg k ++ [(5, clB)]) ++ (Rj x ++ r) := rfl
    rw [ht, if_pos n2, n1]
    have ht2 : (Q3 x :: (Eg k ++ [(5, clB)]) ++ (Rj x ++ r)).tail = Eg k ++ (5, clB) :: (Rj x ++ r) := by
     show (Eg k ++ [(5, clB)]) ++ (Rj x ++ r) = _
     simp
    have hkn : (Jh k seen).Nodup := by
     have hd' : (Xa6 x.capture (Jh k seen)).Nodup := hd
     obtain ⟨p, hp⟩ := Xfi x.capture (Jh k seen)
     rw [hp] at hd'
     exact (List.nodup_append.1 hd').2.1
    rw [ht2, i2 (m + 1) seen k (Rj x ++ r) (by omega) f2 g5 hkn (by omega)]
    dsimp only
    have hx : (⟨if decide (x.name = noB) = true then noB else hdT (Q3 x :: (Eg k ++ [(5, clB)]) ++ (Rj x ++ r)), false, x.field, noB, (Jv k : Int)⟩ : Ag) = { x with capture := noB } := by
     have : (if decide (x.name = noB) = true then noB else hdT (Q3 x :: (Eg k ++ [(5, clB)]) ++ (Rj x ++ r))) = x.name := by
      by_cases h : x.name = noB
      ·rw [if_pos (decide_eq_true h), h]
      ·rw [if_neg (by simpa using h), n3 h]
     rw [this, ← hlf, ← f1]
    rw [hx]
    exact Xhz hn hr g4 hd
  ·rw [Qi]
   cases g with
   | nil =>
    rw [if_pos (show isT 5 clB (Eg .nil ++ (5, clB) :: r) = true from Vh _ _ _)]
    rfl
   | cons x k s =>
    obtain ⟨g1, g2, g3, g4, g5, g6⟩ := Ur hg
    obtain ⟨f1, f2, f3⟩ := hfit
    simp only [Bz, List.length_cons, List.length_append] at hf hm
    have hw : Eg (.cons x k s) ++ (5, clB) :: r = Eg (.cons x k .nil) ++ (Eg s ++ (5, clB) :: r) := by
     simp only [Eg, List.append_assoc, List.nil_append]
    have hnc : isT 5 clB (Eg (.cons x k s) ++ (5, clB) :: r) = false := by
     unfold Eg Yt
     by_cases h : x.field = noB
     ·rw [if_pos h, List.nil_append]
      by_cases g : x.lit = true
      ·rw [if_pos g]
       exact Xb3 (by decide) _ _ _
      ·rw [if_neg g]
       exact Xb4 (by decide) _
     ·rw [if_neg h]
      exact Xb3 (by decide) _ _ _
    rw [if_neg (by rw [hnc]; simp), hw]
    have hg' : Uu nm (.cons x k .nil) = true := by
     unfold Uu at hg ⊢
     rw [Bool.and_eq_true] at hg ⊢
     exact ⟨hg.1, rfl⟩
    have hd' : (Jh s (Jh (.cons x k .nil) seen)).Nodup := hd
    have hd1 : (Jh (.cons x k .nil) seen).Nodup := by
     obtain ⟨p, hp⟩ := Xas s (Jh (.cons x k .nil) seen)
     rw [hp] at hd'
     exact (List.nodup_append.1 hd').2.1
    have hl : (Bz (.cons x k .nil)).length = (Bz k).length + 1 := by simp only [Bz, List.append_nil, List.length_cons]
    rw [i1 m seen x k (Eg s ++ (5, clB) :: r) (by omega) ⟨f1, f2, trivial⟩ hg' hd1 (by omega) (Xk8 (Xb4 (by decide) _))]
    dsimp only
    rw [i2 (m + 1 + (Bz k).length) (Jh (.cons x k .nil) seen) s r (by omega) f3 g6 hd' (by omega)]
    rfl
end Go.Proofs.YtjookebbmfiidaaDoor.L
