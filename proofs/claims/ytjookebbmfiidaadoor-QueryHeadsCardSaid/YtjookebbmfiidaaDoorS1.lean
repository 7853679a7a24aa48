/- Queries: patterns as forests, their words, the plain parser on words. No condition. -/
import Derived.Test.YtjookebbmfiidaaDoorR
set_option linter.unusedVariables false
namespace Go.Proofs.YtjookebbmfiidaaDoor.L
open Go.Proofs.YtjookebbmfiidaaDoor.R
inductive PF where
 | nil : PF
 | cons (x : Ag) (k s : PF) : PF
def Bz : PF → List Ag
 | .nil => []
 | .cons x k s => x :: (Bz k ++ Bz s)
def Jm : PF → Nat
 | .nil => 0
 | .cons _ _ s => Jm s + 1
def Xcq : PF → Prop
 | .nil => True
 | .cons x k s => x.kids = (Jm k : Int) ∧ Xcq k ∧ Xcq s
abbrev Tk := Int × ByteArray
abbrev Rf : ByteArray := ⟨#[95]⟩
abbrev Xe9 : ByteArray := ⟨#[58]⟩
abbrev opB : ByteArray := ⟨#[40]⟩
abbrev clB : ByteArray := ⟨#[41]⟩
abbrev Ri : ByteArray := ⟨#[64]⟩
abbrev eqB : ByteArray := ⟨#[61]⟩
abbrev noB : ByteArray := ⟨#[]⟩
def isT (k : Int) (x : ByteArray) : List Tk → Bool
 | [] => false
 | w :: _ => decide (w.1 = k) && decide (w.2 = x)
def Xn : List Tk → Bool
 | [] => false
 | w :: _ => decide (w.1 = 1) && !decide (w.2 = Rf)
def Zm : List Tk → Bool
 | [] => false
 | w :: _ => decide (w.1 = 2) && !decide (w.2 = noB)
def hdT : List Tk → ByteArray
 | [] => noB
 | w :: _ => w.2
def Y8 (t : List Tk) : Bool := Xn t && isT 5 Xe9 t.tail
def Qd (t : List Tk) : Bool := Y8 t || isT 5 opB t || Zm t
inductive PQ (α : Type) where
 | ok (a : α) (t : List Tk)
 | no (e : Int) (t : List Tk)
def inC (c : ByteArray) (l : List ByteArray) : Bool := l.any fun y => decide (c = y)
theorem Xaj {c : ByteArray} {l : List ByteArray} : inC c l = true ↔ c ∈ l := by
 unfold inC
 rw [List.any_eq_true]
 constructor
 ·rintro ⟨y, hy, e⟩
  rw [of_decide_eq_true e]; exact hy
 ·exact fun h => ⟨c, h, decide_eq_true rfl⟩
def Yf (c : ByteArray) (l : List ByteArray) : List ByteArray := if c = noB then l else c :: l
def Um (x : Ag) (k : PF) (seen : List ByteArray) (t : List Tk) : PQ (Ag × PF × List ByteArray) :=
 if isT 5 Ri t = true then
  if Xn t.tail = true then
   if inC (hdT t.tail) seen = true then .no 201 t.tail else .ok ({ x with capture := hdT t.tail }, k, Yf (hdT t.tail) seen) t.tail.tail
  else .no 200 t.tail
 else .ok (x, k, seen) t
def nmT (t : List Tk) : Bool := isT 1 Rf t || Xn t
def Xcz (t : List Tk) : ByteArray := if Y8 t = true then hdT t else noB
def Ld (t : List Tk) : List Tk := if Y8 t = true then t.tail.tail else t
mutual
def Za : Nat → Nat → List ByteArray → List Tk → PQ (Ag × PF × List ByteArray)
 | 0, _, _, t => .no 0 t
 | f + 1, m, seen, t =>
  if Qd t = true then
   if m ≥ 32 then .no 202 t
   else if Zm (Ld t) = true then Um ⟨hdT (Ld t), true, Xcz t, noB, 0⟩ .nil seen (Ld t).tail
   else if isT 5 opB (Ld t) = true then
    if nmT (Ld t).tail = true then
     match kidsT f (m + 1) seen (Ld t).tail.tail with
     | .no e r => .no e r
     | .ok (k, seen') r => Um ⟨if isT 1 Rf (Ld t).tail = true then noB else hdT (Ld t).tail, false, Xcz t, noB, (Jm k : Int)⟩ k seen' r
    else .no 200 (Ld t).tail
   else .no 200 (Ld t)
  else .no 200 t
def kidsT : Nat → Nat → List ByteArray → List Tk → PQ (PF × List ByteArray)
 | 0, _, _, t => .no 0 t
 | f + 1, m, seen, t =>
  if isT 5 clB t = true then .ok (.nil, seen) t.tail
  else match Za f m seen t with
   | .no e r => .no e r
   | .ok (x, k, seen') r => match kidsT f (m + 1 + (Bz k).length) seen' r with
    | .no e q => .no e q
    | .ok (s, seen2) q => .ok (.cons x k s, seen2) q
end
theorem Qw (f m : Nat) (seen : List ByteArray) (t : List Tk) : Za (f + 1) m seen t = if Qd t = true then
   if m ≥ 32 then .no 202 t
   else if Zm (Ld t) = true then Um ⟨hdT (Ld t), true, Xcz t, noB, 0⟩ .nil seen (Ld t).tail
   else if isT 5 opB (Ld t) = true then
    if nmT (Ld t).tail = true then
     match kidsT f (m + 1) seen (Ld t).tail.tail with
     | .no e r => .no e r
     | .ok (k, seen') r => Um ⟨if isT 1 Rf (Ld t).tail = true then noB else hdT (Ld t).tail, false, Xcz t, noB, (Jm k : Int)⟩ k seen' r
    else .no 200 (Ld t).tail
   else .no 200 (Ld t)
  else .no 200 t := rfl
theorem Pi (f m : Nat) (seen : List ByteArray) (t : List Tk) : kidsT (f + 1) m seen t = if isT 5 clB t = true then .ok (.nil, seen) t.tail
  else match Za f m seen t with
   | .no e r => .no e r
   | .ok (x, k, seen') r => match kidsT f (m + 1 + (Bz k).length) seen' r with
    | .no e q => .no e q
    | .ok (s, seen2) q => .ok (.cons x k s, seen2) q := rfl
def Ya (x : Ag) : List Tk := if x.field = noB then [] else [(1, x.field), (5, Xe9)]
def Qr (x : Ag) : List Tk := if x.capture = noB then [] else [(5, Ri), (1, x.capture)]
def Pg (x : Ag) : Tk := (1, if x.name = noB then Rf else x.name)
def Em : PF → List Tk
 | .nil => []
 | .cons x k s => Ya x ++ ((if x.lit = true then [(2, x.name)] else (5, opB) :: Pg x :: (Em k ++ [(5, clB)])) ++ (Qr x ++ Em s))
def Jj : PF → List ByteArray → List ByteArray
 | .nil, l => l
 | .cons x k s, l => Jj s (Yf x.capture (Jj k l))
theorem Xdu (c : ByteArray) (l : List ByteArray) : ∃ p, Yf c l = p ++ l := by
 unfold Yf
 split
 ·exact ⟨[], rfl⟩
 ·exact ⟨[c], rfl⟩
theorem Zf : ∀ (f : PF) (l : List ByteArray), ∃ p, Jj f l = p ++ l
 | .nil, l => ⟨[], rfl⟩
 | .cons x k s, l => by
  obtain ⟨p1, h1⟩ := Zf k l
  obtain ⟨p2, h2⟩ := Xdu x.capture (Jj k l)
  obtain ⟨p3, h3⟩ := Zf s (Yf x.capture (Jj k l))
  exact ⟨p3 ++ (p2 ++ p1), by show Jj s (Yf x.capture (Jj k l)) = _; rw [h3, h2, h1]; simp⟩
def U9 (nm : ByteArray → Bool) : PF → Bool
 | .nil => true
 | .cons x k s => (if x.lit = true then !decide (x.name = noB) && decide (Jm k = 0) else (decide (x.name = noB) || nm x.name)) && (decide (x.field = noB) || nm x.field) && (decide (x.capture = noB) || nm x.capture) && U9 nm k && U9 nm s
def Nm (nm : ByteArray → Bool) : Prop := ∀ s, nm s = true → s ≠ Rf ∧ s ≠ noB
theorem Xih {k : PF} (h : Jm k = 0) : k = .nil := by cases k with
 | nil => rfl
 | cons x k s => simp [Jm] at h
theorem U5 {nm : ByteArray → Bool} {x : Ag} {k s : PF} (h : U9 nm (.cons x k s) = true) : (x.lit = true → x.name ≠ noB ∧ k = .nil) ∧ (x.lit = false → x.name = noB ∨ nm x.name = true) ∧ (x.field = noB ∨ nm x.field = true) ∧ (x.capture = noB ∨ nm x.capture = true) ∧ U9 nm k = true ∧ U9 nm s = true := by
 simp only [U9, Bool.and_eq_true, Bool.or_eq_true, decide_eq_true_eq] at h
 obtain ⟨⟨⟨⟨h1, h2⟩, h3⟩, h4⟩, h5⟩ := h
 refine ⟨fun e => ?_, fun e => ?_, h2, h3, h4, h5⟩
 ·rw [if_pos e, Bool.and_eq_true, decide_eq_true_eq] at h1
  exact ⟨by simpa using h1.1, Xih h1.2⟩
 ·rw [if_neg (by rw [e]; simp)] at h1
  simpa using h1
def Xgr (r : List Tk) : Prop := isT 5 Ri r = false
theorem Xgf {nm : ByteArray → Bool} (hn : Nm nm) {x : Ag} {k : PF} {seen : List ByteArray} {r : List Tk} (hr : Xgr r) (hc : x.capture = noB ∨ nm x.capture = true) (hd : (Yf x.capture seen).Nodup) : Um { x with capture := noB } k seen (Qr x ++ r) = .ok (x, k, Yf x.capture seen) r := by
 unfold Um Qr
 by_cases h : x.capture = noB
 ·rw [if_pos h, List.nil_append, if_neg (by rw [hr]; simp)]
  unfold Yf
  rw [if_pos h]
  obtain ⟨a, b, c, d, e⟩ := x
  dsimp only at h
  rw [h]
 ·rw [if_neg h]
  have h1 := hn _ (hc.resolve_left h)
  unfold Yf at hd ⊢
  rw [if_neg h] at hd ⊢
  show (if isT 5 Ri ((5, Ri) :: (1, x.capture) :: r) = true then _ else _) = _
  rw [if_pos (show isT 5 Ri ((5, Ri) :: (1, x.capture) :: r) = true by unfold isT; simp)]
  show (if Xn ((1, x.capture) :: r) = true then _ else _) = _
  rw [if_pos (by unfold Xn; simp [h1.1])]
  show (if inC x.capture seen = true then _ else _) = _
  rw [if_neg (fun h => (List.nodup_cons.1 hd).1 (Xaj.1 h))]
  show PQ.ok ({ x with capture := x.capture }, k, (if x.capture = noB then seen else x.capture :: seen)) r = _
  rw [if_neg h]
theorem Xhv {nm : ByteArray → Bool} (hn : Nm nm) {x : ByteArray} (h : nm x = true) (r : List Tk) : Xn ((1, x) :: r) = true := by
 have := (hn x h).1
 unfold Xn
 simp [this]
theorem Xd6 {nm : ByteArray → Bool} (hn : Nm nm) {x : Ag} (hf : x.field = noB ∨ nm x.field = true) {r : List Tk} (hr : Y8 r = false) : Y8 (Ya x ++ r) = !decide (x.field = noB) ∧ Xcz (Ya x ++ r) = x.field ∧ Ld (Ya x ++ r) = r := by
 unfold Xcz Ld Ya
 by_cases h : x.field = noB
 ·rw [if_pos h, List.nil_append, hr, decide_eq_true h]
  exact ⟨rfl, by rw [if_neg (by simp), h], by rw [if_neg (by simp)]⟩
 ·rw [if_neg h]
  have h1 := hf.resolve_left h
  have h2 : Y8 ([(1, x.field), (5, Xe9)] ++ r) = true := by
   unfold Y8
   rw [show ([(1, x.field), (5, Xe9)] ++ r : List Tk) = (1, x.field) :: (5, Xe9) :: r from rfl, Xhv hn h1, List.tail_cons]
   unfold isT
   simp
  rw [h2, decide_eq_false h]
  exact ⟨rfl, by rw [if_pos rfl]; rfl, by rw [if_pos rfl]; rfl⟩
theorem noFd_str (s : ByteArray) (r : List Tk) : Y8 ((2, s) :: r) = false := by
 unfold Y8 Xn
 simp
theorem Xlw (s : ByteArray) (r : List Tk) : Y8 ((5, s) :: r) = false := by
 unfold Y8 Xn
 simp
theorem Uc (k : Int) (x : ByteArray) (r : List Tk) : isT k x ((k, x) :: r) = true := by unfold isT; simp
theorem Xaf {k k' : Int} (h : k' ≠ k) (x y : ByteArray) (r : List Tk) : isT k x ((k', y) :: r) = false := by
 unfold isT
 simp [h]
theorem Xah {k : Int} {x y : ByteArray} (h : y ≠ x) (r : List Tk) : isT k x ((k, y) :: r) = false := by
 unfold isT
 simp [h]
theorem Xc6 {nm : ByteArray → Bool} (hn : Nm nm) {x : Ag} (hf : x.field = noB ∨ nm x.field = true) {r : List Tk} (hr : Y8 r = false) (hb : isT 5 opB r = true ∨ Zm r = true) : Qd (Ya x ++ r) = true := by
 unfold Qd
 by_cases h : x.field = noB
 ·unfold Ya
  rw [if_pos h, List.nil_append, hr]
  rcases hb with h | h <;> rw [h] <;> simp
 ·rw [(Xd6 hn hf hr).1, decide_eq_false h]
  rfl
theorem Xj2 {g : PF} {r : List Tk} (hr : Xgr r) : Xgr (Em g ++ r) := by
 cases g with
 | nil => exact hr
 | cons x k s =>
  unfold Xgr Em Ya
  by_cases h : x.field = noB
  ·rw [if_pos h, List.nil_append]
   by_cases g : x.lit = true
   ·rw [if_pos g]
    exact Xaf (by decide) _ _ _
   ·rw [if_neg g]
    exact Xah (by decide) _
  ·rw [if_neg h]
   exact Xaf (by decide) _ _ _
theorem Xin {nm : ByteArray → Bool} (hn : Nm nm) : ∀ (f : Nat), (∀ (m : Nat) (seen : List ByteArray) (x : Ag) (k : PF) (r : List Tk), 2 * (Bz (.cons x k .nil)).length ≤ f → Xcq (.cons x k .nil) → U9 nm (.cons x k .nil) = true → (Jj (.cons x k .nil) seen).Nodup → m + (Bz (.cons x k .nil)).length ≤ 32 → Xgr r → Za f m seen (Em (.cons x k .nil) ++ r) = .ok (x, k, Jj (.cons x k .nil) seen) r) ∧
  (∀ (m : Nat) (seen : List ByteArray) (g : PF) (r : List Tk), 2 * (Bz g).length + 1 ≤ f → Xcq g → U9 nm g = true → (Jj g seen).Nodup → m + (Bz g).length ≤ 32 → kidsT f m seen (Em g ++ (5, clB) :: r) = .ok (g, Jj g seen) r)
 | 0 => ⟨fun m seen x k r hf => by simp only [Bz, List.length_cons] at hf; omega, fun m seen g r hf => by omega⟩
 | f + 1 => by
  obtain ⟨i1, i2⟩ := Xin hn f
  refine ⟨fun m seen x k r hf hfit hg hd hm hr => ?_, fun m seen g r hf hfit hg hd hm => ?_⟩
  ·obtain ⟨g1, g2, g3, g4, g5, _⟩ := U5 hg
   obtain ⟨f1, f2, _⟩ := hfit
   simp only [Bz, List.append_nil, List.length_cons] at hf hm
   have hw : Em (.cons x k .nil) ++ r = Ya x ++ ((if x.lit = true then [(2, x.name)] else (5, opB) :: Pg x :: (Em k ++ [(5, clB)])) ++ (Qr x ++ r)) := by
    simp only [Em, List.append_assoc, List.nil_append]
   rw [hw, Qw]
   by_cases hl : x.lit = true
   ·obtain ⟨l1, rfl⟩ := g1 hl
    rw [if_pos hl]
    have hz : Y8 ([(2, x.name)] ++ (Qr x ++ r)) = false := noFd_str _ _
    have hst : Zm ([(2, x.name)] ++ (Qr x ++ r)) = true := by
     show (decide ((2 : Int) = 2) && !decide (x.name = noB)) = true
     rw [decide_eq_false l1]; rfl
    obtain ⟨e1, e2, e3⟩ := Xd6 hn g3 hz
    rw [if_pos (Xc6 hn g3 hz (.inr hst)), if_neg (by omega), e3, if_pos hst, e2]
    show Um ⟨x.name, true, x.field, noB, 0⟩ .nil seen (Qr x ++ r) = _
    have hx : (⟨x.name, true, x.field, noB, 0⟩ : Ag) = { x with capture := noB } := by
     have : x.kids = 0 := f1
     rw [← hl, ← this]
    rw [hx]
    exact Xgf hn hr g4 hd
   ·have hlf : x.lit = false := by simpa using hl
    have g2' := g2 hlf
    rw [if_neg hl]
    have hz : Y8 ((5, opB) :: Pg x :: (Em k ++ [(5, clB)]) ++ (Qr x ++ r)) = false := Xlw _ _
    have hst : isT 5 opB ((5, opB) :: Pg x :: (Em k ++ [(5, clB)]) ++ (Qr x ++ r)) = true := Uc _ _ _
    have hns : ¬ Zm ((5, opB) :: Pg x :: (Em k ++ [(5, clB)]) ++ (Qr x ++ r)) = true := by
     show ¬ (decide ((5 : Int) = 2) && !decide (opB = noB)) = true
     simp
    obtain ⟨e1, e2, e3⟩ := Xd6 hn g3 hz
    have hnm : isT 1 Rf (Pg x :: (Em k ++ [(5, clB)]) ++ (Qr x ++ r)) = decide (x.name = noB) ∧ nmT (Pg x :: (Em k ++ [(5, clB)]) ++ (Qr x ++ r)) = true ∧ (¬ x.name = noB → hdT (Pg x :: (Em k ++ [(5, clB)]) ++ (Qr x ++ r)) = x.name) := by
     unfold Pg nmT
     by_cases h : x.name = noB
     ·rw [if_pos h, decide_eq_true h]
      exact ⟨Uc _ _ _, by rw [show isT 1 Rf ((1, Rf) :: (Em k ++ [(5, clB)]) ++ (Qr x ++ r)) = true from Uc _ _ _]; rfl, fun h' => absurd h h'⟩
     ·rw [if_neg h, decide_eq_false h]
      have h1 := g2'.resolve_left h
      exact ⟨Xah (hn _ h1).1 _, by rw [show Xn ((1, x.name) :: (Em k ++ [(5, clB)]) ++ (Qr x ++ r)) = true from Xhv hn h1 _, Bool.or_true], fun _ => rfl⟩
    obtain ⟨n1, n2, n3⟩ := hnm
    rw [if_pos (Xc6 hn g3 hz (.inl hst)), if_neg (by omega), e3, if_neg hns, if_pos hst, e2]
    have ht : ((5, opB) :: Pg x :: (Em k ++ [(5, clB)]) ++ (Qr x ++ r)).tail = Pg x :: (Em k ++ [(5, clB)]) ++ (Qr x ++ r) := rfl
    rw [ht, if_pos n2, n1]
    have ht2 : (Pg x :: (Em k ++ [(5, clB)]) ++ (Qr x ++ r)).tail = Em k ++ (5, clB) :: (Qr x ++ r) := by
     show (Em k ++ [(5, clB)]) ++ (Qr x ++ r) = _
     simp
    have hkn : (Jj k seen).Nodup := by
     have hd' : (Yf x.capture (Jj k seen)).Nodup := hd
     obtain ⟨p, hp⟩ := Xdu x.capture (Jj k seen)
     rw [hp] at hd'
     exact (List.nodup_append.1 hd').2.1
    rw [ht2, i2 (m + 1) seen k (Qr x ++ r) (by omega) f2 g5 hkn (by omega)]
    dsimp only
    have hx : (⟨if decide (x.name = noB) = true then noB else hdT (Pg x :: (Em k ++ [(5, clB)]) ++ (Qr x ++ r)), false, x.field, noB, (Jm k : Int)⟩ : Ag) = { x with capture := noB } := by
     have : (if decide (x.name = noB) = true then noB else hdT (Pg x :: (Em k ++ [(5, clB)]) ++ (Qr x ++ r))) = x.name := by
      by_cases h : x.name = noB
      ·rw [if_pos (decide_eq_true h), h]
      ·rw [if_neg (by simpa using h), n3 h]
     rw [this, ← hlf, ← f1]
    rw [hx]
    exact Xgf hn hr g4 hd
  ·rw [Pi]
   cases g with
   | nil =>
    rw [if_pos (show isT 5 clB (Em .nil ++ (5, clB) :: r) = true from Uc _ _ _)]
    rfl
   | cons x k s =>
    obtain ⟨g1, g2, g3, g4, g5, g6⟩ := U5 hg
    obtain ⟨f1, f2, f3⟩ := hfit
    simp only [Bz, List.length_cons, List.length_append] at hf hm
    have hw : Em (.cons x k s) ++ (5, clB) :: r = Em (.cons x k .nil) ++ (Em s ++ (5, clB) :: r) := by
     simp only [Em, List.append_assoc, List.nil_append]
    have hnc : isT 5 clB (Em (.cons x k s) ++ (5, clB) :: r) = false := by
     unfold Em Ya
     by_cases h : x.field = noB
     ·rw [if_pos h, List.nil_append]
      by_cases g : x.lit = true
      ·rw [if_pos g]
       exact Xaf (by decide) _ _ _
      ·rw [if_neg g]
       exact Xah (by decide) _
     ·rw [if_neg h]
      exact Xaf (by decide) _ _ _
    rw [if_neg (by rw [hnc]; simp), hw]
    have hg' : U9 nm (.cons x k .nil) = true := by
     unfold U9 at hg ⊢
     rw [Bool.and_eq_true] at hg ⊢
     exact ⟨hg.1, rfl⟩
    have hd' : (Jj s (Jj (.cons x k .nil) seen)).Nodup := hd
    have hd1 : (Jj (.cons x k .nil) seen).Nodup := by
     obtain ⟨p, hp⟩ := Zf s (Jj (.cons x k .nil) seen)
     rw [hp] at hd'
     exact (List.nodup_append.1 hd').2.1
    have hl : (Bz (.cons x k .nil)).length = (Bz k).length + 1 := by simp only [Bz, List.append_nil, List.length_cons]
    rw [i1 m seen x k (Em s ++ (5, clB) :: r) (by omega) ⟨f1, f2, trivial⟩ hg' hd1 (by omega) (Xj2 (Xah (by decide) _))]
    dsimp only
    rw [i2 (m + 1 + (Bz k).length) (Jj (.cons x k .nil) seen) s r (by omega) f3 g6 hd' (by omega)]
    rfl
end Go.Proofs.YtjookebbmfiidaaDoor.L
