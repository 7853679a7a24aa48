/- Queries: patterns as forests, their words, the plain parser on words. No condition. -/
import Derived.Test.YtjookebbmfiidaaDoorR
set_option linter.unusedVariables false
namespace Go.Proofs.YtjookebbmfiidaaDoor.L
open Go.Proofs.YtjookebbmfiidaaDoor.R
inductive PF where
 | nil : PF
 | cons (x : Ae) (k s : PF) : PF
def B4 : PF → List Ae
 | .nil => []
 | .cons x k s => x :: (B4 k ++ B4 s)
def Fo : PF → Nat
 | .nil => 0
 | .cons _ _ s => Fo s + 1
def U2 : PF → Prop
 | .nil => True
 | .cons x k s => x.kids = (Fo k : Int) ∧ U2 k ∧ U2 s
abbrev Tk := Int × ByteArray
abbrev Ji : ByteArray := ⟨#[95]⟩
abbrev Vu : ByteArray := ⟨#[58]⟩
abbrev opB : ByteArray := ⟨#[40]⟩
abbrev clB : ByteArray := ⟨#[41]⟩
abbrev Jt : ByteArray := ⟨#[64]⟩
abbrev eqB : ByteArray := ⟨#[61]⟩
abbrev noB : ByteArray := ⟨#[]⟩
def isT (k : Int) (x : ByteArray) : List Tk → Bool
 | [] => false
 | w :: _ => decide (w.1 = k) && decide (w.2 = x)
def Oe : List Tk → Bool
 | [] => false
 | w :: _ => decide (w.1 = 1) && !decide (w.2 = Ji)
def Qn : List Tk → Bool
 | [] => false
 | w :: _ => decide (w.1 = 2) && !decide (w.2 = noB)
def hdT : List Tk → ByteArray
 | [] => noB
 | w :: _ => w.2
def P9 (t : List Tk) : Bool := Oe t && isT 5 Vu t.tail
def Jd (t : List Tk) : Bool := P9 t || isT 5 opB t || Qn t
inductive PQ (α : Type) where
 | ok (a : α) (t : List Tk)
 | no (e : Int) (t : List Tk)
def inC (c : ByteArray) (l : List ByteArray) : Bool := l.any fun y => decide (c = y)
theorem Rk {c : ByteArray} {l : List ByteArray} : inC c l = true ↔ c ∈ l := by
 unfold inC
 rw [List.any_eq_true]
 constructor
 ·rintro ⟨y, hy, e⟩
  rw [of_decide_eq_true e]; exact hy
 ·exact fun h => ⟨c, h, decide_eq_true rfl⟩
def Ph (c : ByteArray) (l : List ByteArray) : List ByteArray := if c = noB then l else c :: l
def M3 (x : Ae) (k : PF) (seen : List ByteArray) (t : List Tk) : PQ (Ae × PF × List ByteArray) :=
 if isT 5 Jt t = true then
  if Oe t.tail = true then
   if inC (hdT t.tail) seen = true then .no 201 t.tail else .ok ({ x with capture := hdT t.tail }, k, Ph (hdT t.tail) seen) t.tail.tail
  else .no 200 t.tail
 else .ok (x, k, seen) t
def nmT (t : List Tk) : Bool := isT 1 Ji t || Oe t
def V6 (t : List Tk) : ByteArray := if P9 t = true then hdT t else noB
def Gk (t : List Tk) : List Tk := if P9 t = true then t.tail.tail else t
mutual
def Qe : Nat → Nat → List ByteArray → List Tk → PQ (Ae × PF × List ByteArray)
 | 0, _, _, t => .no 0 t
 | f + 1, m, seen, t =>
  if Jd t = true then
   if m ≥ 32 then .no 202 t
   else if Qn (Gk t) = true then M3 ⟨hdT (Gk t), true, V6 t, noB, 0⟩ .nil seen (Gk t).tail
   else if isT 5 opB (Gk t) = true then
    if nmT (Gk t).tail = true then
     match Ja f (m + 1) seen (Gk t).tail.tail with
     | .no e r => .no e r
     | .ok (k, seen') r => M3 ⟨if isT 1 Ji (Gk t).tail = true then noB else hdT (Gk t).tail, false, V6 t, noB, (Fo k : Int)⟩ k seen' r
    else .no 200 (Gk t).tail
   else .no 200 (Gk t)
  else .no 200 t
def Ja : Nat → Nat → List ByteArray → List Tk → PQ (PF × List ByteArray)
 | 0, _, _, t => .no 0 t
 | f + 1, m, seen, t =>
  if isT 5 clB t = true then .ok (.nil, seen) t.tail
  else match Qe f m seen t with
   | .no e r => .no e r
   | .ok (x, k, seen') r => match Ja f (m + 1 + (B4 k).length) seen' r with
    | .no e q => .no e q
    | .ok (s, seen2) q => .ok (.cons x k s, seen2) q
end
theorem Ju (f m : Nat) (seen : List ByteArray) (t : List Tk) : Qe (f + 1) m seen t = if Jd t = true then
   if m ≥ 32 then .no 202 t
   else if Qn (Gk t) = true then M3 ⟨hdT (Gk t), true, V6 t, noB, 0⟩ .nil seen (Gk t).tail
   else if isT 5 opB (Gk t) = true then
    if nmT (Gk t).tail = true then
     match Ja f (m + 1) seen (Gk t).tail.tail with
     | .no e r => .no e r
     | .ok (k, seen') r => M3 ⟨if isT 1 Ji (Gk t).tail = true then noB else hdT (Gk t).tail, false, V6 t, noB, (Fo k : Int)⟩ k seen' r
    else .no 200 (Gk t).tail
   else .no 200 (Gk t)
  else .no 200 t := rfl
theorem Iu (f m : Nat) (seen : List ByteArray) (t : List Tk) : Ja (f + 1) m seen t = if isT 5 clB t = true then .ok (.nil, seen) t.tail
  else match Qe f m seen t with
   | .no e r => .no e r
   | .ok (x, k, seen') r => match Ja f (m + 1 + (B4 k).length) seen' r with
    | .no e q => .no e q
    | .ok (s, seen2) q => .ok (.cons x k s, seen2) q := rfl
def Od (x : Ae) : List Tk := if x.field = noB then [] else [(1, x.field), (5, Vu)]
def Jf (x : Ae) : List Tk := if x.capture = noB then [] else [(5, Jt), (1, x.capture)]
def Ic (x : Ae) : Tk := (1, if x.name = noB then Ji else x.name)
def C7 : PF → List Tk
 | .nil => []
 | .cons x k s => Od x ++ ((if x.lit = true then [(2, x.name)] else (5, opB) :: Ic x :: (C7 k ++ [(5, clB)])) ++ (Jf x ++ C7 s))
def F8 : PF → List ByteArray → List ByteArray
 | .nil, l => l
 | .cons x k s, l => F8 s (Ph x.capture (F8 k l))
theorem Vf (c : ByteArray) (l : List ByteArray) : ∃ p, Ph c l = p ++ l := by
 unfold Ph
 split
 ·exact ⟨[], rfl⟩
 ·exact ⟨[c], rfl⟩
theorem Qf : ∀ (f : PF) (l : List ByteArray), ∃ p, F8 f l = p ++ l
 | .nil, l => ⟨[], rfl⟩
 | .cons x k s, l => by
  obtain ⟨p1, h1⟩ := Qf k l
  obtain ⟨p2, h2⟩ := Vf x.capture (F8 k l)
  obtain ⟨p3, h3⟩ := Qf s (Ph x.capture (F8 k l))
  exact ⟨p3 ++ (p2 ++ p1), by show F8 s (Ph x.capture (F8 k l)) = _; rw [h3, h2, h1]; simp⟩
def L7 (nm : ByteArray → Bool) : PF → Bool
 | .nil => true
 | .cons x k s => (if x.lit = true then !decide (x.name = noB) && decide (Fo k = 0) else (decide (x.name = noB) || nm x.name)) && (decide (x.field = noB) || nm x.field) && (decide (x.capture = noB) || nm x.capture) && L7 nm k && L7 nm s
def Nm (nm : ByteArray → Bool) : Prop := ∀ s, nm s = true → s ≠ Ji ∧ s ≠ noB
theorem Xap {k : PF} (h : Fo k = 0) : k = .nil := by cases k with
 | nil => rfl
 | cons x k s => simp [Fo] at h
theorem Kv {nm : ByteArray → Bool} {x : Ae} {k s : PF} (h : L7 nm (.cons x k s) = true) : (x.lit = true → x.name ≠ noB ∧ k = .nil) ∧ (x.lit = false → x.name = noB ∨ nm x.name = true) ∧ (x.field = noB ∨ nm x.field = true) ∧ (x.capture = noB ∨ nm x.capture = true) ∧ L7 nm k = true ∧ L7 nm s = true := by
 simp only [L7, Bool.and_eq_true, Bool.or_eq_true, decide_eq_true_eq] at h
 obtain ⟨⟨⟨⟨h1, h2⟩, h3⟩, h4⟩, h5⟩ := h
 refine ⟨fun e => ?_, fun e => ?_, h2, h3, h4, h5⟩
 ·rw [if_pos e, Bool.and_eq_true, decide_eq_true_eq] at h1
  exact ⟨by simpa using h1.1, Xap h1.2⟩
 ·rw [if_neg (by rw [e]; simp)] at h1
  simpa using h1
def Y6 (r : List Tk) : Prop := isT 5 Jt r = false
theorem Y8 {nm : ByteArray → Bool} (hn : Nm nm) {x : Ae} {k : PF} {seen : List ByteArray} {r : List Tk} (hr : Y6 r) (hc : x.capture = noB ∨ nm x.capture = true) (hd : (Ph x.capture seen).Nodup) : M3 { x with capture := noB } k seen (Jf x ++ r) = .ok (x, k, Ph x.capture seen) r := by
 unfold M3 Jf
 by_cases h : x.capture = noB
 ·rw [if_pos h, List.nil_append, if_neg (by rw [hr]; simp)]
  unfold Ph
  rw [if_pos h]
  obtain ⟨a, b, c, d, e⟩ := x
  dsimp only at h
  rw [h]
 ·rw [if_neg h]
  have h1 := hn _ (hc.resolve_left h)
  unfold Ph at hd ⊢
  rw [if_neg h] at hd ⊢
  show (if isT 5 Jt ((5, Jt) :: (1, x.capture) :: r) = true then _ else _) = _
  rw [if_pos (show isT 5 Jt ((5, Jt) :: (1, x.capture) :: r) = true by unfold isT; simp)]
  show (if Oe ((1, x.capture) :: r) = true then _ else _) = _
  rw [if_pos (by unfold Oe; simp [h1.1])]
  show (if inC x.capture seen = true then _ else _) = _
  rw [if_neg (fun h => (List.nodup_cons.1 hd).1 (Rk.1 h))]
  show PQ.ok ({ x with capture := x.capture }, k, (if x.capture = noB then seen else x.capture :: seen)) r = _
  rw [if_neg h]
theorem Zl {nm : ByteArray → Bool} (hn : Nm nm) {x : ByteArray} (h : nm x = true) (r : List Tk) : Oe ((1, x) :: r) = true := by
 have := (hn x h).1
 unfold Oe
 simp [this]
theorem Us {nm : ByteArray → Bool} (hn : Nm nm) {x : Ae} (hf : x.field = noB ∨ nm x.field = true) {r : List Tk} (hr : P9 r = false) : P9 (Od x ++ r) = !decide (x.field = noB) ∧ V6 (Od x ++ r) = x.field ∧ Gk (Od x ++ r) = r := by
 unfold V6 Gk Od
 by_cases h : x.field = noB
 ·rw [if_pos h, List.nil_append, hr, decide_eq_true h]
  exact ⟨rfl, by rw [if_neg (by simp), h], by rw [if_neg (by simp)]⟩
 ·rw [if_neg h]
  have h1 := hf.resolve_left h
  have h2 : P9 ([(1, x.field), (5, Vu)] ++ r) = true := by
   unfold P9
   rw [show ([(1, x.field), (5, Vu)] ++ r : List Tk) = (1, x.field) :: (5, Vu) :: r from rfl, Zl hn h1, List.tail_cons]
   unfold isT
   simp
  rw [h2, decide_eq_false h]
  exact ⟨rfl, by rw [if_pos rfl]; rfl, by rw [if_pos rfl]; rfl⟩
theorem noFd_str (s : ByteArray) (r : List Tk) : P9 ((2, s) :: r) = false := by
 unfold P9 Oe
 simp
theorem Xdn (s : ByteArray) (r : List Tk) : P9 ((5, s) :: r) = false := by
 unfold P9 Oe
 simp
theorem La (k : Int) (x : ByteArray) (r : List Tk) : isT k x ((k, x) :: r) = true := by unfold isT; simp
theorem R4 {k k' : Int} (h : k' ≠ k) (x y : ByteArray) (r : List Tk) : isT k x ((k', y) :: r) = false := by
 unfold isT
 simp [h]
theorem Qs {k : Int} {x y : ByteArray} (h : y ≠ x) (r : List Tk) : isT k x ((k, y) :: r) = false := by
 unfold isT
 simp [h]
theorem U8 {nm : ByteArray → Bool} (hn : Nm nm) {x : Ae} (hf : x.field = noB ∨ nm x.field = true) {r : List Tk} (hr : P9 r = false) (hb : isT 5 opB r = true ∨ Qn r = true) : Jd (Od x ++ r) = true := by
 unfold Jd
 by_cases h : x.field = noB
 ·unfold Od
  rw [if_pos h, List.nil_append, hr]
  rcases hb with h | h <;> rw [h] <;> simp
 ·rw [(Us hn hf hr).1, decide_eq_false h]
  rfl
theorem Xb9 {g : PF} {r : List Tk} (hr : Y6 r) : Y6 (C7 g ++ r) := by
 cases g with
 | nil => exact hr
 | cons x k s =>
  unfold Y6 C7 Od
  by_cases h : x.field = noB
  ·rw [if_pos h, List.nil_append]
   by_cases g : x.lit = true
   ·rw [if_pos g]
    exact R4 (by decide) _ _ _
   ·rw [if_neg g]
    exact Qs (by decide) _
  ·rw [if_neg h]
   exact R4 (by decide) _ _ _
theorem Xay {nm : ByteArray → Bool} (hn : Nm nm) : ∀ (f : Nat), (∀ (m : Nat) (seen : List ByteArray) (x : Ae) (k : PF) (r : List Tk), 2 * (B4 (.cons x k .nil)).length ≤ f → U2 (.cons x k .nil) → L7 nm (.cons x k .nil) = true → (F8 (.cons x k .nil) seen).Nodup → m + (B4 (.cons x k .nil)).length ≤ 32 → Y6 r → Qe f m seen (C7 (.cons x k .nil) ++ r) = .ok (x, k, F8 (.cons x k .nil) seen) r) ∧
  (∀ (m : Nat) (seen : List ByteArray) (g : PF) (r : List Tk), 2 * (B4 g).length + 1 ≤ f → U2 g → L7 nm g = true → (F8 g seen).Nodup → m + (B4 g).length ≤ 32 → Ja f m seen (C7 g ++ (5, clB) :: r) = .ok (g, F8 g seen) r)
 | 0 => ⟨fun m seen x k r hf => by simp only [B4, List.length_cons] at hf; omega, fun m seen g r hf => by omega⟩
 | f + 1 => by
  obtain ⟨i1, i2⟩ := Xay hn f
  refine ⟨fun m seen x k r hf hfit hg hd hm hr => ?_, fun m seen g r hf hfit hg hd hm => ?_⟩
  ·obtain ⟨g1, g2, g3, g4, g5, _⟩ := Kv hg
   obtain ⟨f1, f2, _⟩ := hfit
   simp only [B4, List.append_nil, List.length_cons] at hf hm
   have hw : C7 (.cons x k .nil) ++ r = Od x ++ ((if x.lit = true then [(2, x.name)] else (5, opB) :: Ic x :: (C7 k ++ [(5, clB)])) ++ (Jf x ++ r)) := by
    simp only [C7, List.append_assoc, List.nil_append]
   rw [hw, Ju]
   by_cases hl : x.lit = true
   ·obtain ⟨l1, rfl⟩ := g1 hl
    rw [if_pos hl]
    have hz : P9 ([(2, x.name)] ++ (Jf x ++ r)) = false := noFd_str _ _
    have hst : Qn ([(2, x.name)] ++ (Jf x ++ r)) = true := by
     show (decide ((2 : Int) = 2) && !decide (x.name = noB)) = true
     rw [decide_eq_false l1]; rfl
    obtain ⟨e1, e2, e3⟩ := Us hn g3 hz
    rw [if_pos (U8 hn g3 hz (.inr hst)), if_neg (by omega), e3, if_pos hst, e2]
    show M3 ⟨x.name, true, x.field, noB, 0⟩ .nil seen (Jf x ++ r) = _
    have hx : (⟨x.name, true, x.field, noB, 0⟩ : Ae) = { x with capture := noB } := by
     have : x.kids = 0 := f1
     rw [← hl, ← this]
    rw [hx]
    exact Y8 hn hr g4 hd
   ·have hlf : x.lit = false := by simpa using hl
    have g2' := g2 hlf
    rw [if_neg hl]
    have hz : P9 ((5, opB) :: Ic x :: (C7 k ++ [(5, clB)]) ++ (Jf x ++ r)) = false := Xdn _ _
    have hst : isT 5 opB ((5, opB) :: Ic x :: (C7 k ++ [(5, clB)]) ++ (Jf x ++ r)) = true := La _ _ _
    have hns : ¬ Qn ((5, opB) :: Ic x :: (C7 k ++ [(5, clB)]) ++ (Jf x ++ r)) = true := by
     show ¬ (decide ((5 : Int) = 2) && !decide (opB = noB)) = true
     simp
    obtain ⟨e1, e2, e3⟩ := Us hn g3 hz
    have hnm : isT 1 Ji (Ic x :: (C7 k ++ [(5, clB)]) ++ (Jf x ++ r)) = decide (x.name = noB) ∧ nmT (Ic x :: (C7 k ++ [(5, clB)]) ++ (Jf x ++ r)) = true ∧ (¬ x.name = noB → hdT (Ic x :: (C7 k ++ [(5, clB)]) ++ (Jf x ++ r)) = x.name) := by
     unfold Ic nmT
     by_cases h : x.name = noB
     ·rw [if_pos h, decide_eq_true h]
      exact ⟨La _ _ _, by rw [show isT 1 Ji ((1, Ji) :: (C7 k ++ [(5, clB)]) ++ (Jf x ++ r)) = true from La _ _ _]; rfl, fun h' => absurd h h'⟩
     ·rw [if_neg h, decide_eq_false h]
      have h1 := g2'.resolve_left h
      exact ⟨Qs (hn _ h1).1 _, by rw [show Oe ((1, x.name) :: (C7 k ++ [(5, clB)]) ++ (Jf x ++ r)) = true from Zl hn h1 _, Bool.or_true], fun _ => rfl⟩
    obtain ⟨n1, n2, n3⟩ := hnm
    rw [if_pos (U8 hn g3 hz (.inl hst)), if_neg (by omega), e3, if_neg hns, if_pos hst, e2]
    have ht : ((5, opB) :: Ic x :: (C7 k ++ [(5, clB)]) ++ (Jf x ++ r)).tail = Ic x :: (C7 k ++ [(5, clB)]) ++ (Jf x ++ r) := rfl
    rw [ht, if_pos n2, n1]
    have ht2 : (Ic x :: (C7 k ++ [(5, clB)]) ++ (Jf x ++ r)).tail = C7 k ++ (5, clB) :: (Jf x ++ r) := by
     show (C7 k ++ [(5, clB)]) ++ (Jf x ++ r) = _
     simp
    have hkn : (F8 k seen).Nodup := by
     have hd' : (Ph x.capture (F8 k seen)).Nodup := hd
     obtain ⟨p, hp⟩ := Vf x.capture (F8 k seen)
     rw [hp] at hd'
     exact (List.nodup_append.1 hd').2.1
    rw [ht2, i2 (m + 1) seen k (Jf x ++ r) (by omega) f2 g5 hkn (by omega)]
    dsimp only
    have hx : (⟨if decide (x.name = noB) = true then noB else hdT (Ic x :: (C7 k ++ [(5, clB)]) ++ (Jf x ++ r)), false, x.field, noB, (Fo k : Int)⟩ : Ae) = { x with capture := noB } := by
     have : (if decide (x.name = noB) = true then noB else hdT (Ic x :: (C7 k ++ [(5, clB)]) ++ (Jf x ++ r))) = x.name := by
      by_cases h : x.name = noB
      ·rw [if_pos (decide_eq_true h), h]
      ·rw [if_neg (by simpa using h), n3 h]
     rw [this, ← hlf, ← f1]
    rw [hx]
    exact Y8 hn hr g4 hd
  ·rw [Iu]
   cases g with
   | nil =>
    rw [if_pos (show isT 5 clB (C7 .nil ++ (5, clB) :: r) = true from La _ _ _)]
    rfl
   | cons x k s =>
    obtain ⟨g1, g2, g3, g4, g5, g6⟩ := Kv hg
    obtain ⟨f1, f2, f3⟩ := hfit
    simp only [B4, List.length_cons, List.length_append] at hf hm
    have hw : C7 (.cons x k s) ++ (5, clB) :: r = C7 (.cons x k .nil) ++ (C7 s ++ (5, clB) :: r) := by
     simp only [C7, List.append_assoc, List.nil_append]
    have hnc : isT 5 clB (C7 (.cons x k s) ++ (5, clB) :: r) = false := by
     unfold C7 Od
     by_cases h : x.field = noB
     ·rw [if_pos h, List.nil_append]
      by_cases g : x.lit = true
      ·rw [if_pos g]
       exact R4 (by decide) _ _ _
      ·rw [if_neg g]
       exact Qs (by decide) _
     ·rw [if_neg h]
      exact R4 (by decide) _ _ _
    rw [if_neg (by rw [hnc]; simp), hw]
    have hg' : L7 nm (.cons x k .nil) = true := by
     unfold L7 at hg ⊢
     rw [Bool.and_eq_true] at hg ⊢
     exact ⟨hg.1, rfl⟩
    have hd' : (F8 s (F8 (.cons x k .nil) seen)).Nodup := hd
    have hd1 : (F8 (.cons x k .nil) seen).Nodup := by
     obtain ⟨p, hp⟩ := Qf s (F8 (.cons x k .nil) seen)
     rw [hp] at hd'
     exact (List.nodup_append.1 hd').2.1
    have hl : (B4 (.cons x k .nil)).length = (B4 k).length + 1 := by simp only [B4, List.append_nil, List.length_cons]
    rw [i1 m seen x k (C7 s ++ (5, clB) :: r) (by omega) ⟨f1, f2, trivial⟩ hg' hd1 (by omega) (Xb9 (Qs (by decide) _))]
    dsimp only
    rw [i2 (m + 1 + (B4 k).length) (F8 (.cons x k .nil) seen) s r (by omega) f3 g6 hd' (by omega)]
    rfl
end Go.Proofs.YtjookebbmfiidaaDoor.L
