/- Queries: conditions, whole queries: back from their words; what is read is good; errors. No condition. -/
import Derived.Test.YtjookebbmfiidaaDoorS2
set_option linter.unusedVariables false
namespace Go.Proofs.YtjookebbmfiidaaDoor.L
open Go.Proofs.YtjookebbmfiidaaDoor.R
abbrev whB : ByteArray := ⟨#[119, 104, 101, 110]⟩
abbrev unB : ByteArray := ⟨#[117, 110, 108, 101, 115, 115]⟩
def isS : List Tk → Bool
 | [] => false
 | w :: _ => decide (w.1 = 2)
def kwT (t : List Tk) : Bool := isT 1 unB t || isT 1 whB t
def H8 (caps : List ByteArray) (t : List Tk) : PQ ByteArray :=
 if isT 5 Qi t = true then
  if X4 t.tail = true then
   if inC (hdT t.tail) caps = true then .ok (hdT t.tail) t.tail.tail else .no 201 t.tail
  else .no 200 t.tail
 else .no 200 t
def Xbr (un : Bool) (a : ByteArray) (caps : List ByteArray) (t : List Tk) : PQ Bi :=
 if isS t = true then .ok ⟨un, a, noB, hdT t⟩ t.tail
 else match H8 caps t with
  | .no e r => .no e r
  | .ok b r => .ok ⟨un, a, b, noB⟩ r
def Uk (n : Nat) (caps : List ByteArray) (t : List Tk) : PQ Bi :=
 if kwT t = true then
  if n ≥ 16 then .no 202 t
  else match H8 caps t.tail with
   | .no e r => .no e r
   | .ok a r => if isT 5 eqB r = true then Xbr (isT 1 unB t) a caps r.tail else .no 200 r
 else .no 200 t
def Ua : Nat → Nat → List ByteArray → List Tk → PQ (List Bi)
 | 0, _, _, t => .no 0 t
 | _ + 1, _, _, [] => .ok [] []
 | f + 1, n, caps, w :: t => match Uk n caps (w :: t) with
  | .no e r => .no e r
  | .ok c r => match Ua f (n + 1) caps r with
   | .no e q => .no e q
   | .ok l q => .ok (c :: l) q
theorem Xu (f n : Nat) (caps : List ByteArray) (w : Tk) (t : List Tk) : Ua (f + 1) n caps (w :: t) = match Uk n caps (w :: t) with
  | .no e r => .no e r
  | .ok c r => match Ua f (n + 1) caps r with
   | .no e q => .no e q
   | .ok l q => .ok (c :: l) q := rfl
def Z4 (t : List Tk) : PQ (Ag × PF × List Bi) := match Zu 0 [] t with
 | .no e r => .no e r
 | .ok (x, k, caps) r => match Ua (r.length + 1) 0 caps r with
  | .no e q => .no e q
  | .ok l q => .ok (x, k, l) q
def Gj (c : Bi) : List Tk := (1, if c.not = true then unB else whB) :: (5, Qi) :: (1, c.a) :: (5, eqB) :: (if c.b = noB then [(2, c.text)] else [(5, Qi), (1, c.b)])
def Xcu (caps : List ByteArray) (c : Bi) : Prop := c.a ∈ caps ∧ (c.b = noB ∨ (c.b ∈ caps ∧ c.text = noB))
theorem Xbg {nm : ByteArray → Bool} (hn : Nm nm) {caps : List ByteArray} (hc : ∀ y ∈ caps, nm y = true) {a : ByteArray} (ha : a ∈ caps) (r : List Tk) : H8 caps ((5, Qi) :: (1, a) :: r) = .ok a r := by
 unfold H8
 rw [if_pos (Ue _ _ _), List.tail_cons, if_pos (Xhd hn (hc a ha) _)]
 show (if inC a caps = true then _ else _) = _
 rw [if_pos (Ze.2 ha)]
 rfl
theorem un_ne : whB ≠ unB := by decide +kernel
theorem Xjz {nm : ByteArray → Bool} (hn : Nm nm) {caps : List ByteArray} (hc : ∀ y ∈ caps, nm y = true) {c : Bi} (hg : Xcu caps c) {n : Nat} (h16 : n < 16) (r : List Tk) : Uk n caps (Gj c ++ r) = .ok c r := by
 obtain ⟨g1, g2⟩ := hg
 have hu : isT 1 unB (Gj c ++ r) = c.not ∧ kwT (Gj c ++ r) = true := by
  unfold kwT Gj
  cases h : c.not with
  | true =>
   rw [if_pos rfl]
   have : isT 1 unB ((1, unB) :: (5, Qi) :: (1, c.a) :: (5, eqB) :: (if c.b = noB then [(2, c.text)] else [(5, Qi), (1, c.b)]) ++ r) = true := Ue _ _ _
   rw [this]
   exact ⟨rfl, rfl⟩
  | false =>
   rw [if_neg (by simp)]
   have h1 : isT 1 unB ((1, whB) :: (5, Qi) :: (1, c.a) :: (5, eqB) :: (if c.b = noB then [(2, c.text)] else [(5, Qi), (1, c.b)]) ++ r) = false := Yl un_ne _
   have h2 : isT 1 whB ((1, whB) :: (5, Qi) :: (1, c.a) :: (5, eqB) :: (if c.b = noB then [(2, c.text)] else [(5, Qi), (1, c.b)]) ++ r) = true := Ue _ _ _
   rw [h1, h2]
   exact ⟨rfl, rfl⟩
 obtain ⟨u1, u2⟩ := hu
 unfold Uk
 rw [if_pos u2, if_neg (by omega), u1]
 have ht : (Gj c ++ r).tail = (5, Qi) :: (1, c.a) :: (5, eqB) :: ((if c.b = noB then [(2, c.text)] else [(5, Qi), (1, c.b)]) ++ r) := by
  unfold Gj; rfl
 rw [ht, Xbg hn hc g1]
 dsimp only
 rw [if_pos (Ue _ _ _), List.tail_cons]
 unfold Xbr
 obtain ⟨cn, ca, cb, ct⟩ := c
 dsimp only at g1 g2 ⊢
 by_cases h : cb = noB
 ·rw [if_pos h]
  show (if isS ((2, ct) :: r) = true then _ else _) = _
  rw [if_pos (by unfold isS; simp), h]
  rfl
 ·rw [if_neg h]
  obtain ⟨g3, g4⟩ := g2.resolve_left h
  have hs : isS ([(5, Qi), (1, cb)] ++ r) = false := by
   show decide ((5 : Int) = 2) = false
   decide
  rw [if_neg (by rw [hs]; simp)]
  have he : H8 caps ([(5, Qi), (1, cb)] ++ r) = .ok cb r := Xbg hn hc g3 r
  rw [he, g4]
theorem Xf8 {nm : ByteArray → Bool} (hn : Nm nm) {caps : List ByteArray} (hc : ∀ y ∈ caps, nm y = true) : ∀ (l : List Bi) (f n : Nat), l.length < f → n + l.length ≤ 16 → (∀ c ∈ l, Xcu caps c) → Ua f n caps (l.flatMap Gj) = .ok l []
 | [], 0, n, hf, hl, hg => absurd hf (Nat.not_lt_zero _)
 | [], f + 1, n, hf, hl, hg => rfl
 | c :: l, 0, n, hf, hl, hg => absurd hf (Nat.not_lt_zero _)
 | c :: l, f + 1, n, hf, hl, hg => by
  simp only [List.length_cons] at hf hl
  rw [List.flatMap_cons]
  have hb := Xjz hn hc (hg c (List.mem_cons_self ..)) (n := n) (by omega) (l.flatMap Gj)
  have hw : ∃ (w : Tk) (t : List Tk), Gj c ++ l.flatMap Gj = w :: t := ⟨_, _, rfl⟩
  obtain ⟨w, t, e⟩ := hw
  rw [e] at hb ⊢
  rw [Xu, hb]
  dsimp only
  rw [Xf8 hn hc l f (n + 1) (by omega) (by omega) (fun c' h' => hg c' (List.mem_cons_of_mem _ h'))]
theorem Xcf {nm : ByteArray → Bool} : ∀ (g : PF) (l : List ByteArray), Oz nm g = true → (∀ y ∈ l, nm y = true) → ∀ y ∈ Ik g l, nm y = true
 | .nil, l, hg, hl => hl
 | .cons x k s, l, hg, hl => by
  obtain ⟨g1, g2, g3, g4, g5, g6⟩ := Qm hg
  refine Xcf s _ g6 ?_
  have h1 := Xcf k l g5 hl
  unfold Xb
  by_cases h : x.capture = noB
  ·rw [if_pos h]; exact h1
  ·rw [if_neg h]
   intro y hy
   rcases List.mem_cons.1 hy with rfl | hy
   ·exact g4.resolve_left h
   ·exact h1 y hy
def Nb (x : Ag) (k : PF) (l : List Bi) : List Tk := Dv (.cons x k .nil) ++ l.flatMap Gj
def Rf (nm : ByteArray → Bool) (x : Ag) (k : PF) (l : List Bi) : Prop :=
 Xbp (.cons x k .nil) ∧ Oz nm (.cons x k .nil) = true ∧ (Ik (.cons x k .nil) []).Nodup ∧ (Bq (.cons x k .nil)).length ≤ 32 ∧ l.length ≤ 16 ∧ ∀ c ∈ l, Xcu (Ik (.cons x k .nil) []) c
theorem Xg6 {nm : ByteArray → Bool} (hn : Nm nm) {x : Ag} {k : PF} {l : List Bi} (h : Rf nm x k l) : Z4 (Nb x k l) = .ok (x, k, l) [] := by
 obtain ⟨h1, h2, h3, h4, h5, h6⟩ := h
 have hr : Xh6 (l.flatMap Gj) := by
  cases l with
  | nil => rfl
  | cons c l =>
   rw [List.flatMap_cons]
   unfold Gj
   exact Xa2 (by decide) _ _ _
 have hcap : ∀ y ∈ Ik (.cons x k .nil) [], nm y = true := Xcf _ [] h2 (fun y hy => by cases hy)
 unfold Z4
 have hp : Zu 0 [] (Nb x k l) = .ok (x, k, Ik (.cons x k .nil) []) (l.flatMap Gj) := by
  have hb := (Xjm hn (2 * (Nb x k l).length + 65)).1 0 [] x k (l.flatMap Gj) (by omega) h1 h2 h3 (by omega) hr
  unfold Zu
  rw [(Xcx (2 * (Nb x k l).length + 1) (2 * (Nb x k l).length + 65)).1 0 [] _ (Nat.le_refl _) (by omega)]
  exact hb
 rw [hp]
 dsimp only
 have hle : l.length < (l.flatMap Gj).length + 1 := by
  have : ∀ l : List Bi, l.length ≤ (l.flatMap Gj).length := fun l => by
   induction l with
   | nil => exact Nat.le_refl _
   | cons c l ih =>
    rw [List.flatMap_cons, List.length_append, List.length_cons]
    have : 1 ≤ (Gj c).length := by unfold Gj; simp only [List.length_cons]; omega
    omega
  have := this l
  omega
 rw [Xf8 hn hcap l _ 0 hle (by omega) h6]
theorem Ya {caps : List ByteArray} {t r : List Tk} {a : ByteArray} (h : H8 caps t = .ok a r) : t = (5, Qi) :: (1, a) :: r ∧ a ∈ caps := by
 unfold H8 at h
 by_cases c1 : isT 5 Qi t = true
 ·rw [if_pos c1] at h
  obtain ⟨t1, rfl⟩ := Oo c1
  rw [List.tail_cons] at h
  by_cases c2 : X4 t1 = true
  ·rw [if_pos c2] at h
   obtain ⟨y, t2, rfl, hy⟩ := Xco c2
   have hdy : hdT ((1, y) :: t2) = y := rfl
   rw [hdy] at h
   by_cases c3 : inC y caps = true
   ·rw [if_pos c3] at h
    injection h with h1 h2
    subst h1
    have h2' : t2 = r := h2
    rw [h2']
    exact ⟨rfl, Ze.1 c3⟩
   ·rw [if_neg c3] at h; cases h
  ·rw [if_neg c2] at h; cases h
 ·rw [if_neg c1] at h; cases h
theorem Xjo {nm : ByteArray → Bool} (hn : Nm nm) {n : Nat} {caps : List ByteArray} (hc : ∀ y ∈ caps, nm y = true) {t r : List Tk} {c : Bi} (h : Uk n caps t = .ok c r) : t = Gj c ++ r ∧ Xcu caps c ∧ n < 16 := by
 unfold Uk at h
 by_cases c1 : kwT t = true
 ·rw [if_pos c1] at h
  by_cases c2 : n ≥ 16
  ·rw [if_pos c2] at h; cases h
  rw [if_neg c2] at h
  have hkw : ∃ t1, t = (1, if isT 1 unB t = true then unB else whB) :: t1 := by
   unfold kwT at c1
   by_cases g : isT 1 unB t = true
   ·rw [if_pos g]; exact Oo g
   ·rw [if_neg g]
    rw [Bool.or_eq_true] at c1
    exact Oo (c1.resolve_left g)
  obtain ⟨t1, et⟩ := hkw
  generalize isT 1 unB t = un at h et
  subst et
  rw [List.tail_cons] at h
  cases e1 : H8 caps t1 with
  | no ee q => rw [e1] at h; cases h
  | ok a q =>
   rw [e1] at h
   dsimp only at h
   obtain ⟨rfl, ha⟩ := Ya e1
   by_cases c3 : isT 5 eqB q = true
   ·rw [if_pos c3] at h
    obtain ⟨q1, rfl⟩ := Oo c3
    rw [List.tail_cons] at h
    unfold Xbr at h
    by_cases c4 : isS q1 = true
    ·rw [if_pos c4] at h
     injection h with h1 h2
     subst h1
     cases q1 with
     | nil => cases c4
     | cons w q2 =>
      have hw : w.1 = 2 := by unfold isS at c4; exact of_decide_eq_true c4
      have h2' : q2 = r := h2
      refine ⟨?_, ⟨ha, .inl rfl⟩, by omega⟩
      unfold Gj
      rw [if_pos rfl, h2', ← hw]
      rfl
    ·rw [if_neg c4] at h
     cases e2 : H8 caps q1 with
     | no ee u => rw [e2] at h; cases h
     | ok b u =>
      rw [e2] at h
      dsimp only at h
      injection h with h1 h2
      subst h1 h2
      obtain ⟨rfl, hb⟩ := Ya e2
      refine ⟨?_, ⟨ha, .inr ⟨hb, rfl⟩⟩, by omega⟩
      unfold Gj
      rw [if_neg (hn b (hc b hb)).2]
      rfl
   ·rw [if_neg c3] at h; cases h
 ·rw [if_neg c1] at h; cases h
theorem Xfr {nm : ByteArray → Bool} (hn : Nm nm) {caps : List ByteArray} (hc : ∀ y ∈ caps, nm y = true) : ∀ (f n : Nat) (t : List Tk) (l : List Bi) (q : List Tk), n ≤ 16 → Ua f n caps t = .ok l q → q = [] ∧ t = l.flatMap Gj ∧ (∀ c ∈ l, Xcu caps c) ∧ n + l.length ≤ 16
 | 0, n, t, l, q, hn16, h => by cases h
 | f + 1, n, [], l, q, hn16, h => by
  injection h with h1 h2
  subst h1 h2
  exact ⟨rfl, rfl, fun c hc => (by cases hc), by simpa using hn16⟩
 | f + 1, n, w :: t, l, q, hn16, h => by
  rw [Xu] at h
  cases e1 : Uk n caps (w :: t) with
  | no ee u => rw [e1] at h; cases h
  | ok c u =>
   rw [e1] at h
   dsimp only at h
   obtain ⟨j1, j2, j3⟩ := Xjo hn hc e1
   cases e2 : Ua f (n + 1) caps u with
   | no ee v => rw [e2] at h; cases h
   | ok l2 v =>
    rw [e2] at h
    injection h with h1 h2
    subst h1 h2
    obtain ⟨k1, k2, k3, k4⟩ := Xfr hn hc f (n + 1) u l2 v (by omega) e2
    refine ⟨k1, ?_, fun c' hc' => ?_, by simp only [List.length_cons]; omega⟩
    ·rw [j1, List.flatMap_cons, k2]
    ·rcases List.mem_cons.1 hc' with rfl | hc'
     ·exact j2
     ·exact k3 c' hc'
theorem Xk1 {nm : ByteArray → Bool} (hn : Nm nm) {t : List Tk} (ht : Yq nm t) {x : Ag} {k : PF} {l : List Bi} {q : List Tk} (h : Z4 t = .ok (x, k, l) q) : q = [] ∧ t = Nb x k l ∧ Rf nm x k l := by
 unfold Z4 at h
 cases e1 : Zu 0 [] t with
 | no ee u => rw [e1] at h; cases h
 | ok p u =>
  obtain ⟨x1, k1, caps⟩ := p
  rw [e1] at h
  dsimp only at h
  obtain ⟨j1, j2, j3, j4, j5, j6⟩ := (Xjl hn _).1 0 [] t x1 k1 caps u ht e1
  have hcap : ∀ y ∈ caps, nm y = true := by rw [j4]; exact Xcf _ [] j3 (fun y hy => by cases hy)
  cases e2 : Ua (u.length + 1) 0 caps u with
  | no ee v => rw [e2] at h; cases h
  | ok l2 v =>
   rw [e2] at h
   dsimp only at h
   injection h with h1 h2
   injection h1 with h1 h3
   injection h3 with h3 h4
   subst h1 h2 h3 h4
   obtain ⟨i1, i2, i3, i4⟩ := Xfr hn hcap _ 0 u _ _ (by omega) e2
   refine ⟨i1, by rw [j1, i2]; rfl, j2, j3, ?_, ?_, by omega, ?_⟩
   ·rw [← j4]; exact j5 List.nodup_nil
   ·have := j6 (by omega); omega
   ·rw [← j4]; exact i3
end Go.Proofs.YtjookebbmfiidaaDoor.L
