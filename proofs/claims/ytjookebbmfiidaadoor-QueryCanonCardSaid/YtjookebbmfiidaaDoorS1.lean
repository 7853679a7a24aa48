/- Queries: patterns as forests, their words, the plain parser on words. No condition. -/
import Derived.Test.YtjookebbmfiidaaDoorR
set_option linter.unusedVariables false
namespace Go.Proofs.YtjookebbmfiidaaDoor.L
open Go.Proofs.YtjookebbmfiidaaDoor.R
inductive PF where
 | nil : PF
 | cons (x : Ag) (k s : PF) : PF
def Bq : PF → List Ag
 | .nil => []
 | .cons x k s => x :: (Bq k ++ Bq s)
def Jb : PF → Nat
 | .nil => 0
 | .cons _ _ s => Jb s + 1
def Xbp : PF → Prop
 | .nil => True
 | .cons x k s => x.kids = (Jb k : Int) ∧ Xbp k ∧ Xbp s
abbrev Tk := Int × ByteArray
abbrev Oy : ByteArray := ⟨#[95]⟩
abbrev Xem : ByteArray := ⟨#[58]⟩
abbrev opB : ByteArray := ⟨#[40]⟩
abbrev clB : ByteArray := ⟨#[41]⟩
abbrev Qi : ByteArray := ⟨#[64]⟩
abbrev eqB : ByteArray := ⟨#[61]⟩
abbrev noB : ByteArray := ⟨#[]⟩
def isT (k : Int) (x : ByteArray) : List Tk → Bool
 | [] => false
 | w :: _ => decide (w.1 = k) && decide (w.2 = x)
def X4 : List Tk → Bool
 | [] => false
 | w :: _ => decide (w.1 = 1) && !decide (w.2 = Oy)
def Zi : List Tk → Bool
 | [] => false
 | w :: _ => decide (w.1 = 2) && !decide (w.2 = noB)
def hdT : List Tk → ByteArray
 | [] => noB
 | w :: _ => w.2
def Xk (t : List Tk) : Bool := X4 t && isT 5 Xem t.tail
def Pn (t : List Tk) : Bool := Xk t || isT 5 opB t || Zi t
inductive PQ (α : Type) where
 | ok (a : α) (t : List Tk)
 | no (e : Int) (t : List Tk)
def inC (c : ByteArray) (l : List ByteArray) : Bool := l.any fun y => decide (c = y)
theorem Ze {c : ByteArray} {l : List ByteArray} : inC c l = true ↔ c ∈ l := by
 unfold inC
 rw [List.any_eq_true]
 constructor
 ·rintro ⟨y, hy, e⟩
  rw [of_decide_eq_true e]; exact hy
 ·exact fun h => ⟨c, h, decide_eq_true rfl⟩
def Xb (c : ByteArray) (l : List ByteArray) : List ByteArray := if c = noB then l else c :: l
def Ul (x : Ag) (k : PF) (seen : List ByteArray) (t : List Tk) : PQ (Ag × PF × List ByteArray) :=
 if isT 5 Qi t = true then
  if X4 t.tail = true then
   if inC (hdT t.tail) seen = true then .no 201 t.tail else .ok ({ x with capture := hdT t.tail }, k, Xb (hdT t.tail) seen) t.tail.tail
  else .no 200 t.tail
 else .ok (x, k, seen) t
def nmT (t : List Tk) : Bool := isT 1 Oy t || X4 t
def Zd (t : List Tk) : ByteArray := if Xk t = true then hdT t else noB
def Ji (t : List Tk) : List Tk := if Xk t = true then t.tail.tail else t
mutual
def Yb : Nat → Nat → List ByteArray → List Tk → PQ (Ag × PF × List ByteArray)
 | 0, _, _, t => .no 0 t
 | f + 1, m, seen, t =>
  if Pn t = true then
   if m ≥ 32 then .no 202 t
   else if Zi (Ji t) = true then Ul ⟨hdT (Ji t), true, Zd t, noB, 0⟩ .nil seen (Ji t).tail
   else if isT 5 opB (Ji t) = true then
    if nmT (Ji t).tail = true then
     match kidsT f (m + 1) seen (Ji t).tail.tail with
     | .no e r => .no e r
     | .ok (k, seen') r => Ul ⟨if isT 1 Oy (Ji t).tail = true then noB else hdT (Ji t).tail, false, Zd t, noB, (Jb k : Int)⟩ k seen' r
    else .no 200 (Ji t).tail
   else .no 200 (Ji t)
  else .no 200 t
def kidsT : Nat → Nat → List ByteArray → List Tk → PQ (PF × List ByteArray)
 | 0, _, _, t => .no 0 t
 | f + 1, m, seen, t =>
  if isT 5 clB t = true then .ok (.nil, seen) t.tail
  else match Yb f m seen t with
   | .no e r => .no e r
   | .ok (x, k, seen') r => match kidsT f (m + 1 + (Bq k).length) seen' r with
    | .no e q => .no e q
    | .ok (s, seen2) q => .ok (.cons x k s, seen2) q
end
theorem Qa (f m : Nat) (seen : List ByteArray) (t : List Tk) : Yb (f + 1) m seen t = if Pn t = true then
   if m ≥ 32 then .no 202 t
   else if Zi (Ji t) = true then Ul ⟨hdT (Ji t), true, Zd t, noB, 0⟩ .nil seen (Ji t).tail
   else if isT 5 opB (Ji t) = true then
    if nmT (Ji t).tail = true then
     match kidsT f (m + 1) seen (Ji t).tail.tail with
     | .no e r => .no e r
     | .ok (k, seen') r => Ul ⟨if isT 1 Oy (Ji t).tail = true then noB else hdT (Ji t).tail, false, Zd t, noB, (Jb k : Int)⟩ k seen' r
    else .no 200 (Ji t).tail
   else .no 200 (Ji t)
  else .no 200 t := rfl
theorem Ol (f m : Nat) (seen : List ByteArray) (t : List Tk) : kidsT (f + 1) m seen t = if isT 5 clB t = true then .ok (.nil, seen) t.tail
  else match Yb f m seen t with
   | .no e r => .no e r
   | .ok (x, k, seen') r => match kidsT f (m + 1 + (Bq k).length) seen' r with
    | .no e q => .no e q
    | .ok (s, seen2) q => .ok (.cons x k s, seen2) q := rfl
def Vg (x : Ag) : List Tk := if x.field = noB then [] else [(1, x.field), (5, Xem)]
def P9 (x : Ag) : List Tk := if x.capture = noB then [] else [(5, Qi), (1, x.capture)]
def N7 (x : Ag) : Tk := (1, if x.name = noB then Oy else x.name)
def Dv : PF → List Tk
 | .nil => []
 | .cons x k s => Vg x ++ ((if x.lit = true then [(2, x.name)] else (5, opB) :: N7 x :: (Dv k ++ [(5, clB)])) ++ (P9 x ++ Dv s))
def Ik : PF → List ByteArray → List ByteArray
 | .nil, l => l
 | .cons x k s, l => Ik s (Xb x.capture (Ik k l))
theorem Xeg (c : ByteArray) (l : List ByteArray) : ∃ p, Xb c l = p ++ l := by
 unfold Xb
 split
 ·exact ⟨[], rfl⟩
 ·exact ⟨[c], rfl⟩
theorem Zk : ∀ (f : PF) (l : List ByteArray), ∃ p, Ik f l = p ++ l
 | .nil, l => ⟨[], rfl⟩
 | .cons x k s, l => by
  obtain ⟨p1, h1⟩ := Zk k l
  obtain ⟨p2, h2⟩ := Xeg x.capture (Ik k l)
  obtain ⟨p3, h3⟩ := Zk s (Xb x.capture (Ik k l))
  exact ⟨p3 ++ (p2 ++ p1), by show Ik s (Xb x.capture (Ik k l)) = _; rw [h3, h2, h1]; simp⟩
def Oz (nm : ByteArray → Bool) : PF → Bool
 | .nil => true
 | .cons x k s => (if x.lit = true then !decide (x.name = noB) && decide (Jb k = 0) else (decide (x.name = noB) || nm x.name)) && (decide (x.field = noB) || nm x.field) && (decide (x.capture = noB) || nm x.capture) && Oz nm k && Oz nm s
def Nm (nm : ByteArray → Bool) : Prop := ∀ s, nm s = true → s ≠ Oy ∧ s ≠ noB
theorem Xjh {k : PF} (h : Jb k = 0) : k = .nil := by cases k with
 | nil => rfl
 | cons x k s => simp [Jb] at h
theorem Qm {nm : ByteArray → Bool} {x : Ag} {k s : PF} (h : Oz nm (.cons x k s) = true) : (x.lit = true → x.name ≠ noB ∧ k = .nil) ∧ (x.lit = false → x.name = noB ∨ nm x.name = true) ∧ (x.field = noB ∨ nm x.field = true) ∧ (x.capture = noB ∨ nm x.capture = true) ∧ Oz nm k = true ∧ Oz nm s = true := by
 simp only [Oz, Bool.and_eq_true, Bool.or_eq_true, decide_eq_true_eq] at h
 obtain ⟨⟨⟨⟨h1, h2⟩, h3⟩, h4⟩, h5⟩ := h
 refine ⟨fun e => ?_, fun e => ?_, h2, h3, h4, h5⟩
 ·rw [if_pos e, Bool.and_eq_true, decide_eq_true_eq] at h1
  exact ⟨by simpa using h1.1, Xjh h1.2⟩
 ·rw [if_neg (by rw [e]; simp)] at h1
  simpa using h1
def Xh6 (r : List Tk) : Prop := isT 5 Qi r = false
theorem Xh2 {nm : ByteArray → Bool} (hn : Nm nm) {x : Ag} {k : PF} {seen : List ByteArray} {r : List Tk} (hr : Xh6 r) (hc : x.capture = noB ∨ nm x.capture = true) (hd : (Xb x.capture seen).Nodup) : Ul { x with capture := noB } k seen (P9 x ++ r) = .ok (x, k, Xb x.capture seen) r := by
 unfold Ul P9
 by_cases h : x.capture = noB
 ·rw [if_pos h, List.nil_append, if_neg (by rw [hr]; simp)]
  unfold Xb
  rw [if_pos h]
  obtain ⟨a, b, c, d, e⟩ := x
  dsimp only at h
  rw [h]
 ·rw [if_neg h]
  have h1 := hn _ (hc.resolve_left h)
  unfold Xb at hd ⊢
  rw [if_neg h] at hd ⊢
  show (if isT 5 Qi ((5, Qi) :: (1, x.capture) :: r) = true then _ else _) = _
  rw [if_pos (show isT 5 Qi ((5, Qi) :: (1, x.capture) :: r) = true by unfold isT; simp)]
  show (if X4 ((1, x.capture) :: r) = true then _ else _) = _
  rw [if_pos (by unfold X4; simp [h1.1])]
  show (if inC x.capture seen = true then _ else _) = _
  rw [if_neg (fun h => (List.nodup_cons.1 hd).1 (Ze.1 h))]
  show PQ.ok ({ x with capture := x.capture }, k, (if x.capture = noB then seen else x.capture :: seen)) r = _
  rw [if_neg h]
theorem Xhd {nm : ByteArray → Bool} (hn : Nm nm) {x : ByteArray} (h : nm x = true) (r : List Tk) : X4 ((1, x) :: r) = true := by
 have := (hn x h).1
 unfold X4
 simp [this]
theorem Xde {nm : ByteArray → Bool} (hn : Nm nm) {x : Ag} (hf : x.field = noB ∨ nm x.field = true) {r : List Tk} (hr : Xk r = false) : Xk (Vg x ++ r) = !decide (x.field = noB) ∧ Zd (Vg x ++ r) = x.field ∧ Ji (Vg x ++ r) = r := by
 unfold Zd Ji Vg
 by_cases h : x.field = noB
 ·rw [if_pos h, List.nil_append, hr, decide_eq_true h]
  exact ⟨rfl, by rw [if_neg (by simp), h], by rw [if_neg (by simp)]⟩
 ·rw [if_neg h]
  have h1 := hf.resolve_left h
  have h2 : Xk ([(1, x.field), (5, Xem)] ++ r) = true := by
   unfold Xk
   rw [show ([(1, x.field), (5, Xem)] ++ r : List Tk) = (1, x.field) :: (5, Xem) :: r from rfl, Xhd hn h1, List.tail_cons]
   unfold isT
   simp
  rw [h2, decide_eq_false h]
  exact ⟨rfl, by rw [if_pos rfl]; rfl, by rw [if_pos rfl]; rfl⟩
theorem noFd_str (s : ByteArray) (r : List Tk) : Xk ((2, s) :: r) = false := by
 unfold Xk X4
 simp
theorem Xm4 (s : ByteArray) (r : List Tk) : Xk ((5, s) :: r) = false := by
 unfold Xk X4
 simp
theorem Ue (k : Int) (x : ByteArray) (r : List Tk) : isT k x ((k, x) :: r) = true := by unfold isT; simp
theorem Xa2 {k k' : Int} (h : k' ≠ k) (x y : ByteArray) (r : List Tk) : isT k x ((k', y) :: r) = false := by
 unfold isT
 simp [h]
theorem Yl {k : Int} {x y : ByteArray} (h : y ≠ x) (r : List Tk) : isT k x ((k, y) :: r) = false := by
 unfold isT
 simp [h]
theorem Xd4 {nm : ByteArray → Bool} (hn : Nm nm) {x : Ag} (hf : x.field = noB ∨ nm x.field = true) {r : List Tk} (hr : Xk r = false) (hb : isT 5 opB r = true ∨ Zi r = true) : Pn (Vg x ++ r) = true := by
 unfold Pn
 by_cases h : x.field = noB
 ·unfold Vg
  rw [if_pos h, List.nil_append, hr]
  rcases hb with h | h <;> rw [h] <;> simp
 ·rw [(Xde hn hf hr).1, decide_eq_false h]
  rfl
theorem Xio {g : PF} {r : List Tk} (hr : Xh6 r) : Xh6 (Dv g ++ r) := by
 cases g with
 | nil => exact hr
 | cons x k s =>
  unfold Xh6 Dv Vg
  by_cases h : x.field = noB
  ·rw [if_pos h, List.nil_append]
   by_cases g : x.lit = true
   ·rw [if_pos g]
    exact Xa2 (by decide) _ _ _
   ·rw [if_neg g]
    exact Yl (by decide) _
  ·rw [if_neg h]
   exact Xa2 (by decide) _ _ _
theorem Xjm {nm : ByteArray → Bool} (hn : Nm nm) : ∀ (f : Nat), (∀ (m : Nat) (seen : List ByteArray) (x : Ag) (k : PF) (r : List Tk), 2 * (Bq (.cons x k .nil)).length ≤ f → Xbp (.cons x k .nil) → Oz nm (.cons x k .nil) = true → (Ik (.cons x k .nil) seen).Nodup → m + (Bq (.cons x k .nil)).length ≤ 32 → Xh6 r → Yb f m seen (Dv (.cons x k .nil) ++ r) = .ok (x, k, Ik (.cons x k .nil) seen) r) ∧
  (∀ (m : Nat) (seen : List ByteArray) (g : PF) (r : List Tk), 2 * (Bq g).length + 1 ≤ f → Xbp g → Oz nm g = true → (Ik g seen).Nodup → m + (Bq g).length ≤ 32 → kidsT f m seen (Dv g ++ (5, clB) :: r) = .ok (g, Ik g seen) r)
 | 0 => ⟨fun m seen x k r hf => by simp only [Bq, List.length_cons] at hf; omega, fun m seen g r hf => by omega⟩
 | f + 1 => by
  obtain ⟨i1, i2⟩ := Xjm hn f
  refine ⟨fun m seen x k r hf hfit hg hd hm hr => ?_, fun m seen g r hf hfit hg hd hm => ?_⟩
  ·obtain ⟨g1, g2, g3, g4, g5, _⟩ := Qm hg
   obtain ⟨f1, f2, _⟩ := hfit
   simp only [Bq, List.append_nil, List.length_cons] at hf hm
   have hw : Dv (.cons x k .nil) ++ r = Vg x ++ ((if x.lit = true then [(2, x.name)] else (5, opB) :: N7 x :: (Dv k ++ [(5, clB)])) ++ (P9 x ++ r)) := by
    simp only [Dv, List.append_assoc, List.nil_append]
   rw [hw, Qa]
   by_cases hl : x.lit = true
   ·obtain ⟨l1, rfl⟩ := g1 hl
    rw [if_pos hl]
    have hz : Xk ([(2, x.name)] ++ (P9 x ++ r)) = false := noFd_str _ _
    have hst : Zi ([(2, x.name)] ++ (P9 x ++ r)) = true := by
     show (decide ((2 : Int) = 2) && !decide (x.name = noB)) = true
     rw [decide_eq_false l1]; rfl
    obtain ⟨e1, e2, e3⟩ := Xde hn g3 hz
    rw [if_pos (Xd4 hn g3 hz (.inr hst)), if_neg (by omega), e3, if_pos hst, e2]
    show Ul ⟨x.name, true, x.field, noB, 0⟩ .nil seen (P9 x ++ r) = _
    have hx : (⟨x.name, true, x.field, noB, 0⟩ : Ag) = { x with capture := noB } := by
     have : x.kids = 0 := f1
     rw [← hl, ← this]
    rw [hx]
    exact Xh2 hn hr g4 hd
   ·have hlf : x.lit = false := by simpa using hl
    have g2' := g2 hlf
    rw [if_neg hl]
    have hz : Xk ((5, opB) :: N7 x :: (Dv k ++ [(5, clB)]) ++ (P9 x ++ r)) = false := Xm4 _ _
    have hst : isT 5 opB ((5, opB) :: N7 x :: (Dv k ++ [(5, clB)]) ++ (P9 x ++ r)) = true := Ue _ _ _
    have hns : ¬ Zi ((5, opB) :: N7 x :: (Dv k ++ [(5, clB)]) ++ (P9 x ++ r)) = true := by
     show ¬ (decide ((5 : Int) = 2) && !decide (opB = noB)) = true
     simp
    obtain ⟨e1, e2, e3⟩ := Xde hn g3 hz
    have hnm : isT 1 Oy (N7 x :: (Dv k ++ [(5, clB)]) ++ (P9 x ++ r)) = decide (x.name = noB) ∧ nmT (N7 x :: (Dv k ++ [(5, clB)]) ++ (P9 x ++ r)) = true ∧ (¬ x.name = noB → hdT (N7 x :: (Dv k ++ [(5, clB)]) ++ (P9 x ++ r)) = x.name) := by
     unfold N7 nmT
     by_cases h : x.name = noB
     ·rw [if_pos h, decide_eq_true h]
      exact ⟨Ue _ _ _, by rw [show isT 1 Oy ((1, Oy) :: (Dv k ++ [(5, clB)]) ++ (P9 x ++ r)) = true from Ue _ _ _]; rfl, fun h' => absurd h h'⟩
     ·rw [if_neg h, decide_eq_false h]
      have h1 := g2'.resolve_left h
      exact ⟨Yl (hn _ h1).1 _, by rw [show X4 ((1, x.name) :: (Dv k ++ [(5, clB)]) ++ (P9 x ++ r)) = true from Xhd hn h1 _, Bool.or_true], fun _ => rfl⟩
    obtain ⟨n1, n2, n3⟩ := hnm
    rw [if_pos (Xd4 hn g3 hz (.inl hst)), if_neg (by omega), e3, if_neg hns, if_pos hst, e2]
    have ht : ((5, opB) :: N7 x :: (Dv k ++ [(5, clB)]) ++ (P9 x ++ r)).tail = N7 x :: (Dv k ++ [(5, clB)]) ++ (P9 x ++ r) := rfl
    rw [ht, if_pos n2, n1]
    have ht2 : (N7 x :: (Dv k ++ [(5, clB)]) ++ (P9 x ++ r)).tail = Dv k ++ (5, clB) :: (P9 x ++ r) := by
     show (Dv k ++ [(5, clB)]) ++ (P9 x ++ r) = _
     simp
    have hkn : (Ik k seen).Nodup := by
     have hd' : (Xb x.capture (Ik k seen)).Nodup := hd
     obtain ⟨p, hp⟩ := Xeg x.capture (Ik k seen)
     rw [hp] at hd'
     exact (List.nodup_append.1 hd').2.1
    rw [ht2, i2 (m + 1) seen k (P9 x ++ r) (by omega) f2 g5 hkn (by omega)]
    dsimp only
    have hx : (⟨if decide (x.name = noB) = true then noB else hdT (N7 x :: (Dv k ++ [(5, clB)]) ++ (P9 x ++ r)), false, x.field, noB, (Jb k : Int)⟩ : Ag) = { x with capture := noB } := by
     have : (if decide (x.name = noB) = true then noB else hdT (N7 x :: (Dv k ++ [(5, clB)]) ++ (P9 x ++ r))) = x.name := by
      by_cases h : x.name = noB
      ·rw [if_pos (decide_eq_true h), h]
      ·rw [if_neg (by simpa using h), n3 h]
     rw [this, ← hlf, ← f1]
    rw [hx]
    exact Xh2 hn hr g4 hd
  ·rw [Ol]
   cases g with
   | nil =>
    rw [if_pos (show isT 5 clB (Dv .nil ++ (5, clB) :: r) = true from Ue _ _ _)]
    rfl
   | cons x k s =>
    obtain ⟨g1, g2, g3, g4, g5, g6⟩ := Qm hg
    obtain ⟨f1, f2, f3⟩ := hfit
    simp only [Bq, List.length_cons, List.length_append] at hf hm
    have hw : Dv (.cons x k s) ++ (5, clB) :: r = Dv (.cons x k .nil) ++ (Dv s ++ (5, clB) :: r) := by
     simp only [Dv, List.append_assoc, List.nil_append]
    have hnc : isT 5 clB (Dv (.cons x k s) ++ (5, clB) :: r) = false := by
     unfold Dv Vg
     by_cases h : x.field = noB
     ·rw [if_pos h, List.nil_append]
      by_cases g : x.lit = true
      ·rw [if_pos g]
       exact Xa2 (by decide) _ _ _
      ·rw [if_neg g]
       exact Yl (by decide) _
     ·rw [if_neg h]
      exact Xa2 (by decide) _ _ _
    rw [if_neg (by rw [hnc]; simp), hw]
    have hg' : Oz nm (.cons x k .nil) = true := by
     unfold Oz at hg ⊢
     rw [Bool.and_eq_true] at hg ⊢
     exact ⟨hg.1, rfl⟩
    have hd' : (Ik s (Ik (.cons x k .nil) seen)).Nodup := hd
    have hd1 : (Ik (.cons x k .nil) seen).Nodup := by
     obtain ⟨p, hp⟩ := Zk s (Ik (.cons x k .nil) seen)
     rw [hp] at hd'
     exact (List.nodup_append.1 hd').2.1
    have hl : (Bq (.cons x k .nil)).length = (Bq k).length + 1 := by simp only [Bq, List.append_nil, List.length_cons]
    rw [i1 m seen x k (Dv s ++ (5, clB) :: r) (by omega) ⟨f1, f2, trivial⟩ hg' hd1 (by omega) (Xio (Yl (by decide) _))]
    dsimp only
    rw [i2 (m + 1 + (Bq k).length) (Ik (.cons x k .nil) seen) s r (by omega) f3 g6 hd' (by omega)]
    rfl
end Go.Proofs.YtjookebbmfiidaaDoor.L
