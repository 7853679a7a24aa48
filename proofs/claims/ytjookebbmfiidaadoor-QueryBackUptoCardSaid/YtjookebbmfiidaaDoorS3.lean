/- Queries: the plain parser's answers: shorter rests, fuel, what is read is good and has just these words. No condition. -/
import Derived.Test.YtjookebbmfiidaaDoorS1
set_option linter.unusedVariables false
namespace Go.Proofs.YtjookebbmfiidaaDoor.L
open Go.Proofs.YtjookebbmfiidaaDoor.R
def ShP {α : Type} (n : Nat) : PQ α → Prop
 | .ok _ r => r.length < n
 | .no _ r => r.length ≤ n
theorem Qj (t : List Tk) : t.tail.length ≤ t.length := by rw [List.length_tail]; omega
theorem Lq {k : Int} {x : ByteArray} {t : List Tk} (h : isT k x t = true) : ∃ r, t = (k, x) :: r := by
 cases t with
 | nil => cases h
 | cons w r =>
  unfold isT at h
  rw [Bool.and_eq_true, decide_eq_true_eq, decide_eq_true_eq] at h
  exact ⟨r, by rw [← h.1, ← h.2]⟩
theorem Zg {t : List Tk} (h : Oe t = true) : ∃ x r, t = (1, x) :: r ∧ x ≠ Ji := by
 cases t with
 | nil => cases h
 | cons w r =>
  unfold Oe at h
  rw [Bool.and_eq_true, decide_eq_true_eq] at h
  exact ⟨w.2, r, by rw [← h.1], by simpa using h.2⟩
theorem Z7 {t : List Tk} (h : Qn t = true) : ∃ x r, t = (2, x) :: r ∧ x ≠ noB := by
 cases t with
 | nil => cases h
 | cons w r =>
  unfold Qn at h
  rw [Bool.and_eq_true, decide_eq_true_eq] at h
  exact ⟨w.2, r, by rw [← h.1], by simpa using h.2⟩
theorem isFd_ex {t : List Tk} (h : P9 t = true) : ∃ x r, t = (1, x) :: (5, Vu) :: r ∧ x ≠ Ji := by
 unfold P9 at h
 rw [Bool.and_eq_true] at h
 obtain ⟨x, r, rfl, hx⟩ := Zg h.1
 obtain ⟨q, hq⟩ := Lq h.2
 exact ⟨x, q, by rw [← hq]; rfl, hx⟩
theorem Ti (t : List Tk) : (Gk t).length ≤ t.length := by
 unfold Gk
 split
 ·have h1 := Qj t
  have h2 := Qj t.tail
  omega
 ·exact Nat.le_refl _
theorem Xcg {n : Nat} {x : Ae} {k : PF} {seen : List ByteArray} {t : List Tk} (h : t.length < n) : ShP n (M3 x k seen t) := by
 have h1 := Qj t
 have h2 := Qj t.tail
 unfold M3
 split
 ·split
  ·split
   ·show _ ≤ _; omega
   ·show _ < _; omega
  ·show _ ≤ _; omega
 ·exact h
theorem X7 : ∀ (f : Nat), (∀ m seen t, ShP t.length (Qe f m seen t)) ∧ (∀ m seen t, ShP t.length (Ja f m seen t))
 | 0 => ⟨fun m seen t => Nat.le_refl _, fun m seen t => Nat.le_refl _⟩
 | f + 1 => by
  obtain ⟨i1, i2⟩ := X7 f
  refine ⟨fun m seen t => ?_, fun m seen t => ?_⟩
  ·rw [Ju]
   have ha := Ti t
   split
   ·split
    ·exact Nat.le_refl _
    split
    ·rename_i h
     obtain ⟨x, r, e, _⟩ := Z7 h
     rw [e] at ha ⊢
     simp only [List.length_cons] at ha
     exact Xcg (by rw [List.tail_cons]; omega)
    split
    ·rename_i h
     obtain ⟨r, e⟩ := Lq h
     rw [e] at ha ⊢
     simp only [List.length_cons] at ha
     rw [List.tail_cons]
     by_cases c5 : nmT r = true
     ·rw [if_pos c5]
      have h3 := i2 (m + 1) seen r.tail
      have h4 := Qj r
      cases e2 : Ja f (m + 1) seen r.tail with
      | no ee q => rw [e2] at h3; have h3' : q.length ≤ r.tail.length := h3; show q.length ≤ _; omega
      | ok p q =>
       rw [e2] at h3
       have h3' : q.length < r.tail.length := h3
       exact Xcg (by omega)
     ·rw [if_neg c5]; show r.length ≤ _; omega
    ·show _ ≤ _; exact ha
   ·exact Nat.le_refl _
  ·rw [Iu]
   split
   ·rename_i h
    obtain ⟨r, e⟩ := Lq h
    rw [e]
    show r.length < _
    simp
   ·have h1 := i1 m seen t
    cases e1 : Qe f m seen t with
    | no ee q => rw [e1] at h1; exact h1
    | ok p q =>
     obtain ⟨x, k, seen'⟩ := p
     rw [e1] at h1
     have h1' : q.length < t.length := h1
     dsimp only
     have h2 := i2 (m + 1 + (B4 k).length) seen' q
     cases e2 : Ja f (m + 1 + (B4 k).length) seen' q with
     | no ee u => rw [e2] at h2; have h2' : u.length ≤ q.length := h2; show u.length ≤ _; omega
     | ok p u =>
      obtain ⟨s, seen2⟩ := p
      rw [e2] at h2
      have h2' : u.length < q.length := h2
      show u.length < _
      omega
theorem Uc : ∀ (f g : Nat), (∀ m seen t, 2 * t.length + 1 ≤ f → 2 * t.length + 1 ≤ g → Qe f m seen t = Qe g m seen t) ∧ (∀ m seen t, 2 * t.length + 2 ≤ f → 2 * t.length + 2 ≤ g → Ja f m seen t = Ja g m seen t)
 | 0, g => ⟨fun m seen t hf => by omega, fun m seen t hf => by omega⟩
 | f + 1, 0 => ⟨fun m seen t hf hg => by omega, fun m seen t hf hg => by omega⟩
 | f + 1, g + 1 => by
  obtain ⟨i1, i2⟩ := Uc f g
  refine ⟨fun m seen t hf hg => ?_, fun m seen t hf hg => ?_⟩
  ·rw [Ju, Ju]
   have ha := Ti t
   by_cases c1 : Jd t = true
   ·rw [if_pos c1, if_pos c1]
    by_cases c2 : m ≥ 32
    ·rw [if_pos c2, if_pos c2]
    rw [if_neg c2, if_neg c2]
    by_cases c3 : Qn (Gk t) = true
    ·rw [if_pos c3, if_pos c3]
    rw [if_neg c3, if_neg c3]
    by_cases c4 : isT 5 opB (Gk t) = true
    ·rw [if_pos c4, if_pos c4]
     obtain ⟨r, e⟩ := Lq c4
     have h4 := Qj r
     rw [e] at ha ⊢
     simp only [List.length_cons] at ha
     rw [List.tail_cons]
     rw [i2 (m + 1) seen r.tail (by omega) (by omega)]
    ·rw [if_neg c4, if_neg c4]
   ·rw [if_neg c1, if_neg c1]
  ·rw [Iu, Iu]
   by_cases c1 : isT 5 clB t = true
   ·rw [if_pos c1, if_pos c1]
   rw [if_neg c1, if_neg c1]
   rw [i1 m seen t (by omega) (by omega)]
   have h1 := (X7 g).1 m seen t
   cases e1 : Qe g m seen t with
   | no ee q => rfl
   | ok p q =>
    obtain ⟨x, k, seen'⟩ := p
    rw [e1] at h1
    have h1' : q.length < t.length := h1
    dsimp only
    rw [i2 (m + 1 + (B4 k).length) seen' q (by omega) (by omega)]
def S6 (m : Nat) (seen : List ByteArray) (t : List Tk) := Qe (2 * t.length + 1) m seen t
def R9 (m : Nat) (seen : List ByteArray) (t : List Tk) := Ja (2 * t.length + 2) m seen t
theorem patN_eq (m : Nat) (seen : List ByteArray) (t : List Tk) : S6 m seen t = if Jd t = true then
   if m ≥ 32 then .no 202 t
   else if Qn (Gk t) = true then M3 ⟨hdT (Gk t), true, V6 t, noB, 0⟩ .nil seen (Gk t).tail
   else if isT 5 opB (Gk t) = true then
    if nmT (Gk t).tail = true then
     match R9 (m + 1) seen (Gk t).tail.tail with
     | .no e r => .no e r
     | .ok (k, seen') r => M3 ⟨if isT 1 Ji (Gk t).tail = true then noB else hdT (Gk t).tail, false, V6 t, noB, (Fo k : Int)⟩ k seen' r
    else .no 200 (Gk t).tail
   else .no 200 (Gk t)
  else .no 200 t := by
 unfold S6 R9
 rw [Ju]
 have ha := Ti t
 by_cases c4 : isT 5 opB (Gk t) = true
 ·obtain ⟨r, e⟩ := Lq c4
  have h4 := Qj r
  rw [e] at ha ⊢
  simp only [List.length_cons] at ha
  rw [List.tail_cons]
  rw [(Uc (2 * t.length) (2 * r.tail.length + 2)).2 (m + 1) seen r.tail (by omega) (Nat.le_refl _)]
  rfl
 ·rw [if_neg c4, if_neg c4]
theorem kidsN_eq (m : Nat) (seen : List ByteArray) (t : List Tk) : R9 m seen t = if isT 5 clB t = true then .ok (.nil, seen) t.tail
  else match S6 m seen t with
   | .no e r => .no e r
   | .ok (x, k, seen') r => match R9 (m + 1 + (B4 k).length) seen' r with
    | .no e q => .no e q
    | .ok (s, seen2) q => .ok (.cons x k s, seen2) q := by
 unfold S6 R9
 rw [Iu]
 by_cases c1 : isT 5 clB t = true
 ·rw [if_pos c1, if_pos c1]
 rw [if_neg c1, if_neg c1]
 have h1 := (X7 (2 * t.length + 1)).1 m seen t
 cases e1 : Qe (2 * t.length + 1) m seen t with
 | no ee q => rfl
 | ok p q =>
  obtain ⟨x, k, seen'⟩ := p
  rw [e1] at h1
  have h1' : q.length < t.length := h1
  dsimp only
  rw [(Uc (2 * t.length + 1) (2 * q.length + 2)).2 (m + 1 + (B4 k).length) seen' q (by omega) (Nat.le_refl _)]
  rfl
def SndT (nm : ByteArray → Bool) (t : List Tk) : Prop := ∀ w ∈ t, w.1 = 1 → w.2 ≠ Ji → nm w.2 = true
theorem SndT.tl {nm : ByteArray → Bool} {t : List Tk} (h : SndT nm t) : SndT nm t.tail := fun w hw => h w (List.mem_of_mem_tail hw)
theorem SndT.app {nm : ByteArray → Bool} {a b : List Tk} (h : SndT nm (a ++ b)) : SndT nm b := fun w hw => h w (List.mem_append_right _ hw)
end Go.Proofs.YtjookebbmfiidaaDoor.L
set_option linter.unusedVariables false
namespace Go.Proofs.YtjookebbmfiidaaDoor.L
open Go.Proofs.YtjookebbmfiidaaDoor.R
abbrev whB : ByteArray := ⟨#[119, 104, 101, 110]⟩
abbrev unB : ByteArray := ⟨#[117, 110, 108, 101, 115, 115]⟩
def isS : List Tk → Bool
 | [] => false
 | w :: _ => decide (w.1 = 2)
def kwT (t : List Tk) : Bool := isT 1 unB t || isT 1 whB t
def Ea (caps : List ByteArray) (t : List Tk) : PQ ByteArray :=
 if isT 5 Jt t = true then
  if Oe t.tail = true then
   if inC (hdT t.tail) caps = true then .ok (hdT t.tail) t.tail.tail else .no 201 t.tail
  else .no 200 t.tail
 else .no 200 t
def Uj (un : Bool) (a : ByteArray) (caps : List ByteArray) (t : List Tk) : PQ Ax :=
 if isS t = true then .ok ⟨un, a, noB, hdT t⟩ t.tail
 else match Ea caps t with
  | .no e r => .no e r
  | .ok b r => .ok ⟨un, a, b, noB⟩ r
def Nv (n : Nat) (caps : List ByteArray) (t : List Tk) : PQ Ax :=
 if kwT t = true then
  if n ≥ 16 then .no 202 t
  else match Ea caps t.tail with
   | .no e r => .no e r
   | .ok a r => if isT 5 eqB r = true then Uj (isT 1 unB t) a caps r.tail else .no 200 r
 else .no 200 t
def Ra : Nat → Nat → List ByteArray → List Tk → PQ (List Ax)
 | 0, _, _, t => .no 0 t
 | _ + 1, _, _, [] => .ok [] []
 | f + 1, n, caps, w :: t => match Nv n caps (w :: t) with
  | .no e r => .no e r
  | .ok c r => match Ra f (n + 1) caps r with
   | .no e q => .no e q
   | .ok l q => .ok (c :: l) q
theorem Vo (f n : Nat) (caps : List ByteArray) (w : Tk) (t : List Tk) : Ra (f + 1) n caps (w :: t) = match Nv n caps (w :: t) with
  | .no e r => .no e r
  | .ok c r => match Ra f (n + 1) caps r with
   | .no e q => .no e q
   | .ok l q => .ok (c :: l) q := rfl
def Zt (t : List Tk) : PQ (Ae × PF × List Ax) := match S6 0 [] t with
 | .no e r => .no e r
 | .ok (x, k, caps) r => match Ra (r.length + 1) 0 caps r with
  | .no e q => .no e q
  | .ok l q => .ok (x, k, l) q
def E8 (c : Ax) : List Tk := (1, if c.not = true then unB else whB) :: (5, Jt) :: (1, c.a) :: (5, eqB) :: (if c.b = noB then [(2, c.text)] else [(5, Jt), (1, c.b)])
def Yc (caps : List ByteArray) (c : Ax) : Prop := c.a ∈ caps ∧ (c.b = noB ∨ (c.b ∈ caps ∧ c.text = noB))
theorem Sd {nm : ByteArray → Bool} (hn : Nm nm) {caps : List ByteArray} (hc : ∀ y ∈ caps, nm y = true) {a : ByteArray} (ha : a ∈ caps) (r : List Tk) : Ea caps ((5, Jt) :: (1, a) :: r) = .ok a r := by
 unfold Ea
 rw [if_pos (La _ _ _), List.tail_cons, if_pos (Zl hn (hc a ha) _)]
 show (if inC a caps = true then _ else _) = _
 rw [if_pos (Rk.2 ha)]
 rfl
theorem un_ne : whB ≠ unB := by decide +kernel
theorem Xby {nm : ByteArray → Bool} (hn : Nm nm) {caps : List ByteArray} (hc : ∀ y ∈ caps, nm y = true) {c : Ax} (hg : Yc caps c) {n : Nat} (h16 : n < 16) (r : List Tk) : Nv n caps (E8 c ++ r) = .ok c r := by
 obtain ⟨g1, g2⟩ := hg
 have hu : isT 1 unB (E8 c ++ r) = c.not ∧ kwT (E8 c ++ r) = true := by
  unfold kwT E8
  cases h : c.not with
  | true =>
   rw [if_pos rfl]
   have : isT 1 unB ((1, unB) :: (5, Jt) :: (1, c.a) :: (5, eqB) :: (if c.b = noB then [(2, c.text)] else [(5, Jt), (1, c.b)]) ++ r) = true := La _ _ _
   rw [this]
   exact ⟨rfl, rfl⟩
  | false =>
   rw [if_neg (by simp)]
   have h1 : isT 1 unB ((1, whB) :: (5, Jt) :: (1, c.a) :: (5, eqB) :: (if c.b = noB then [(2, c.text)] else [(5, Jt), (1, c.b)]) ++ r) = false := Qs un_ne _
   have h2 : isT 1 whB ((1, whB) :: (5, Jt) :: (1, c.a) :: (5, eqB) :: (if c.b = noB then [(2, c.text)] else [(5, Jt), (1, c.b)]) ++ r) = true := La _ _ _
   rw [h1, h2]
   exact ⟨rfl, rfl⟩
 obtain ⟨u1, u2⟩ := hu
 unfold Nv
 rw [if_pos u2, if_neg (by omega), u1]
 have ht : (E8 c ++ r).tail = (5, Jt) :: (1, c.a) :: (5, eqB) :: ((if c.b = noB then [(2, c.text)] else [(5, Jt), (1, c.b)]) ++ r) := by
  unfold E8; rfl
 rw [ht, Sd hn hc g1]
 dsimp only
 rw [if_pos (La _ _ _), List.tail_cons]
 unfold Uj
 obtain ⟨cn, ca, cb, ct⟩ := c
 dsimp only at g1 g2 ⊢
 by_cases h : cb = noB
 ·rw [if_pos h]
  show (if isS ((2, ct) :: r) = true then _ else _) = _
  rw [if_pos (by unfold isS; simp), h]
  rfl
 ·rw [if_neg h]
  obtain ⟨g3, g4⟩ := g2.resolve_left h
  have hs : isS ([(5, Jt), (1, cb)] ++ r) = false := by
   show decide ((5 : Int) = 2) = false
   decide
  rw [if_neg (by rw [hs]; simp)]
  have he : Ea caps ([(5, Jt), (1, cb)] ++ r) = .ok cb r := Sd hn hc g3 r
  rw [he, g4]
theorem Xp {nm : ByteArray → Bool} (hn : Nm nm) {caps : List ByteArray} (hc : ∀ y ∈ caps, nm y = true) : ∀ (l : List Ax) (f n : Nat), l.length < f → n + l.length ≤ 16 → (∀ c ∈ l, Yc caps c) → Ra f n caps (l.flatMap E8) = .ok l []
 | [], 0, n, hf, hl, hg => absurd hf (Nat.not_lt_zero _)
 | [], f + 1, n, hf, hl, hg => rfl
 | c :: l, 0, n, hf, hl, hg => absurd hf (Nat.not_lt_zero _)
 | c :: l, f + 1, n, hf, hl, hg => by
  simp only [List.length_cons] at hf hl
  rw [List.flatMap_cons]
  have hb := Xby hn hc (hg c (List.mem_cons_self ..)) (n := n) (by omega) (l.flatMap E8)
  have hw : ∃ (w : Tk) (t : List Tk), E8 c ++ l.flatMap E8 = w :: t := ⟨_, _, rfl⟩
  obtain ⟨w, t, e⟩ := hw
  rw [e] at hb ⊢
  rw [Vo, hb]
  dsimp only
  rw [Xp hn hc l f (n + 1) (by omega) (by omega) (fun c' h' => hg c' (List.mem_cons_of_mem _ h'))]
theorem W2 {nm : ByteArray → Bool} : ∀ (g : PF) (l : List ByteArray), L7 nm g = true → (∀ y ∈ l, nm y = true) → ∀ y ∈ F8 g l, nm y = true
 | .nil, l, hg, hl => hl
 | .cons x k s, l, hg, hl => by
  obtain ⟨g1, g2, g3, g4, g5, g6⟩ := Kv hg
  refine W2 s _ g6 ?_
  have h1 := W2 k l g5 hl
  unfold Ph
  by_cases h : x.capture = noB
  ·rw [if_pos h]; exact h1
  ·rw [if_neg h]
   intro y hy
   rcases List.mem_cons.1 hy with rfl | hy
   ·exact g4.resolve_left h
   ·exact h1 y hy
def Id (x : Ae) (k : PF) (l : List Ax) : List Tk := C7 (.cons x k .nil) ++ l.flatMap E8
def Kk (nm : ByteArray → Bool) (x : Ae) (k : PF) (l : List Ax) : Prop :=
 U2 (.cons x k .nil) ∧ L7 nm (.cons x k .nil) = true ∧ (F8 (.cons x k .nil) []).Nodup ∧ (B4 (.cons x k .nil)).length ≤ 32 ∧ l.length ≤ 16 ∧ ∀ c ∈ l, Yc (F8 (.cons x k .nil) []) c
theorem Wc {nm : ByteArray → Bool} (hn : Nm nm) {x : Ae} {k : PF} {l : List Ax} (h : Kk nm x k l) : Zt (Id x k l) = .ok (x, k, l) [] := by
 obtain ⟨h1, h2, h3, h4, h5, h6⟩ := h
 have hr : Y6 (l.flatMap E8) := by
  cases l with
  | nil => rfl
  | cons c l =>
   rw [List.flatMap_cons]
   unfold E8
   exact R4 (by decide) _ _ _
 have hcap : ∀ y ∈ F8 (.cons x k .nil) [], nm y = true := W2 _ [] h2 (fun y hy => by cases hy)
 unfold Zt
 have hp : S6 0 [] (Id x k l) = .ok (x, k, F8 (.cons x k .nil) []) (l.flatMap E8) := by
  have hb := (Xay hn (2 * (Id x k l).length + 65)).1 0 [] x k (l.flatMap E8) (by omega) h1 h2 h3 (by omega) hr
  unfold S6
  rw [(Uc (2 * (Id x k l).length + 1) (2 * (Id x k l).length + 65)).1 0 [] _ (Nat.le_refl _) (by omega)]
  exact hb
 rw [hp]
 dsimp only
 have hle : l.length < (l.flatMap E8).length + 1 := by
  have : ∀ l : List Ax, l.length ≤ (l.flatMap E8).length := fun l => by
   induction l with
   | nil => exact Nat.le_refl _
   | cons c l ih =>
    rw [List.flatMap_cons, List.length_append, List.length_cons]
    have : 1 ≤ (E8 c).length := by unfold E8; simp only [List.length_cons]; omega
    omega
  have := this l
  omega
 rw [Xp hn hcap l _ 0 hle (by omega) h6]
theorem Xu {caps : List ByteArray} {t r : List Tk} {a : ByteArray} (h : Ea caps t = .ok a r) : t = (5, Jt) :: (1, a) :: r ∧ a ∈ caps := by
 unfold Ea at h
 by_cases c1 : isT 5 Jt t = true
 ·rw [if_pos c1] at h
  obtain ⟨t1, rfl⟩ := Lq c1
  rw [List.tail_cons] at h
  by_cases c2 : Oe t1 = true
  ·rw [if_pos c2] at h
   obtain ⟨y, t2, rfl, hy⟩ := Zg c2
   have hdy : hdT ((1, y) :: t2) = y := rfl
   rw [hdy] at h
   by_cases c3 : inC y caps = true
   ·rw [if_pos c3] at h
    injection h with h1 h2
    subst h1
    have h2' : t2 = r := h2
    rw [h2']
    exact ⟨rfl, Rk.1 c3⟩
   ·rw [if_neg c3] at h; cases h
  ·rw [if_neg c2] at h; cases h
 ·rw [if_neg c1] at h; cases h
end Go.Proofs.YtjookebbmfiidaaDoor.L
