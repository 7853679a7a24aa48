/- Queries: lists of nodes that are shaped are forests; captures as lists. No condition. -/
import Derived.Test.YtjookebbmfiidaaDoorS3
import Derived.Test.YtjookebbmfiidaaDoorF1
import Derived.Test.YtjookebbmfiidaaDoorB5
set_option linter.unusedVariables false
namespace Go.Proofs.YtjookebbmfiidaaDoor.L
open Go.Proofs.YtjookebbmfiidaaDoor.R
def V4 : List Ag → Nat → Option (List Ag)
 | l, 0 => some l
 | [], _ + 1 => none
 | x :: xs, c + 1 => if x.kids < 0 then none else V4 xs (c + x.kids.toNat)
theorem Wn (l : List Ag) : V4 l 0 = some l := by cases l <;> rfl
theorem Uo (x : Ag) (xs : List Ag) (c : Nat) : V4 (x :: xs) (c + 1) = if x.kids < 0 then none else V4 xs (c + x.kids.toNat) := rfl
theorem Xet : ∀ (f : PF) (r : List Ag) (c : Nat), Xec f → V4 (Bz f ++ r) (Ju f + c) = V4 r c
 | .nil, r, c, _ => by simp [Bz, Ju]
 | .cons x k s, r, c, hf => by
  obtain ⟨f1, f2, f3⟩ := hf
  have e : Ju (.cons x k s) + c = Ju s + c + 1 := by simp only [Ju]; omega
  rw [e]
  simp only [Bz, List.cons_append, List.append_assoc]
  rw [Uo, if_neg (by omega), f1, Int.toNat_natCast, show Ju s + c + Ju k = Ju k + (Ju s + c) by omega, Xet k _ _ f2, Xet s _ _ f3]
theorem Xd7 : ∀ (n : Nat) (l : List Ag) (a b : Nat) (r : List Ag), l.length ≤ n → V4 l (a + b) = some r → ∃ f q, Xec f ∧ Ju f = a ∧ l = Bz f ++ q ∧ V4 q b = some r
 | n, l, 0, b, r, hn, h => ⟨.nil, l, trivial, rfl, rfl, by rwa [Nat.zero_add] at h⟩
 | n, [], a + 1, b, r, hn, h => by rw [show a + 1 + b = a + b + 1 by omega] at h; cases h
 | 0, x :: xs, a + 1, b, r, hn, h => by simp at hn
 | n + 1, x :: xs, a + 1, b, r, hn, h => by
  rw [show a + 1 + b = a + b + 1 by omega, Uo] at h
  by_cases g : x.kids < 0
  ·rw [if_pos g] at h; cases h
  ·rw [if_neg g, show a + b + x.kids.toNat = x.kids.toNat + (a + b) by omega] at h
   simp only [List.length_cons] at hn
   obtain ⟨k, q, k1, k2, k3, k4⟩ := Xd7 n xs x.kids.toNat (a + b) r (by omega) h
   have hq : q.length ≤ n := by
    have := congrArg List.length k3
    rw [List.length_append] at this
    omega
   obtain ⟨s, q2, s1, s2, s3, s4⟩ := Xd7 n q a b r hq k4
   refine ⟨.cons x k s, q2, ⟨by omega, k1, s1⟩, by simp [Ju, s2], ?_, s4⟩
   rw [k3, s3]
   simp [Bz]
theorem behP_ok {l : List Ag} {c : Nat} {r : List Ag} (h : V4 l c = some r) : ∃ f, Xec f ∧ Ju f = c ∧ l = Bz f ++ r := by
 obtain ⟨f, q, h1, h2, h3, h4⟩ := Xd7 l.length l c 0 r (Nat.le_refl _) h
 rw [Wn] at h4
 injection h4 with h4
 subst h4
 exact ⟨f, h1, h2, h3⟩
theorem Xg5 : ∀ f : PF, Ju f ≤ (Bz f).length
 | .nil => Nat.le_refl _
 | .cons x k s => by
  have := Xg5 s
  simp only [Ju, Bz, List.length_cons, List.length_append]
  omega
def sndN (nm : ByteArray → Bool) (x : Ag) : Bool := (if x.lit = true then !decide (x.name = noB) && decide (x.kids = 0) else (decide (x.name = noB) || nm x.name)) && (decide (x.field = noB) || nm x.field) && (decide (x.capture = noB) || nm x.capture)
theorem Xbx {nm : ByteArray → Bool} : ∀ (g : PF), Xec g → V3 nm g = (Bz g).all (sndN nm)
 | .nil, _ => rfl
 | .cons x k s, hf => by
  obtain ⟨f1, f2, f3⟩ := hf
  have e : decide (Ju k = 0) = decide (x.kids = 0) := by rw [f1]; exact decide_eq_decide.2 (by omega)
  unfold V3
  rw [Xbx k f2, Xbx s f3, e]
  simp only [Bz, List.all_cons, List.all_append]
  unfold sndN
  simp only [Bool.and_assoc]
def Oi (v : List Ag) : List ByteArray := (v.map (·.capture)).filter fun c => !decide (c = noB)
theorem Xby (a b : List Ag) : Oi (a ++ b) = Oi a ++ Oi b := by unfold Oi; rw [List.map_append, List.filter_append]
theorem Xgu (x : Ag) (v : List Ag) : Oi (x :: v) = Xa3 x.capture (Oi v) := by
 unfold Oi Xa3
 rw [List.map_cons, List.filter_cons]
 by_cases h : x.capture = noB
 ·rw [if_pos h, if_neg (by simp [h])]
 ·rw [if_neg h, if_pos (by simp [h])]
theorem Yj : ∀ (g : PF) (l : List ByteArray), (J4 g l).Perm (Oi (Bz g) ++ l)
 | .nil, l => List.Perm.refl _
 | .cons x k s, l => by
  have h1 := Yj k l
  have h2 := Yj s (Xa3 x.capture (J4 k l))
  show (J4 s (Xa3 x.capture (J4 k l))).Perm _
  refine h2.trans ?_
  have h4 : (Oi (Bz s) ++ J4 k l).Perm (Oi (Bz k) ++ Oi (Bz s) ++ l) := (List.Perm.append_left _ h1).trans (by
   rw [← List.append_assoc]
   exact List.Perm.append_right _ List.perm_append_comm)
  simp only [Bz]
  rw [Xgu, Xby]
  unfold Xa3
  by_cases h : x.capture = noB
  ·rw [if_pos h, if_pos h]
   exact h4
  ·rw [if_neg h, if_neg h]
   have h3 : (Oi (Bz s) ++ x.capture :: J4 k l).Perm (x.capture :: (Oi (Bz s) ++ J4 k l)) := List.perm_middle
   exact h3.trans (List.Perm.cons _ h4)
theorem Xc3 (g : PF) {y : ByteArray} : y ∈ J4 g [] ↔ y ∈ Oi (Bz g) := by
 have := (Yj g []).mem_iff (a := y)
 rwa [List.append_nil] at this
theorem Xfl (g : PF) : (J4 g []).Nodup ↔ (Oi (Bz g)).Nodup := by
 have := (Yj g []).nodup_iff
 rwa [List.append_nil] at this
def Xj9 (nm : ByteArray → Bool) (v : List Ag) (l : List Bh) : Prop :=
 v.length ≤ 32 ∧ l.length ≤ 16 ∧ V4 v 1 = some [] ∧ (∀ x ∈ v, sndN nm x = true) ∧ (Oi v).Nodup ∧ ∀ c ∈ l, Xie (Oi v) c
theorem Xfq {nm : ByteArray → Bool} {v : List Ag} {l : List Bh} : Xj9 nm v l ↔ ∃ x k, v = Bz (.cons x k .nil) ∧ Ud nm x k l := by
 constructor
 ·rintro ⟨h1, h2, h3, h4, h5, h6⟩
  obtain ⟨f, f1, f2, f3⟩ := behP_ok h3
  rw [List.append_nil] at f3
  obtain ⟨x, k, rfl⟩ : ∃ x k, f = .cons x k .nil := by
   cases f with
   | nil => simp [Ju] at f2
   | cons x k s =>
    simp only [Ju] at f2
    obtain rfl := Xku (show Ju s = 0 by omega)
    exact ⟨x, k, rfl⟩
  subst f3
  refine ⟨x, k, rfl, f1, ?_, (Xfl _).2 h5, h1, h2, fun c hc => ?_⟩
  ·rw [Xbx _ f1, List.all_eq_true]
   exact h4
  ·obtain ⟨g1, g2⟩ := h6 c hc
   exact ⟨(Xc3 _).2 g1, g2.imp id fun g => ⟨(Xc3 _).2 g.1, g.2⟩⟩
 ·rintro ⟨x, k, rfl, h1, h2, h3, h4, h5, h6⟩
  refine ⟨h4, h5, ?_, ?_, (Xfl _).1 h3, fun c hc => ?_⟩
  ·have := Xet (.cons x k .nil) [] 0 h1
   rw [List.append_nil, Nat.add_zero, Wn] at this
   exact this
  ·rw [Xbx _ h1, List.all_eq_true] at h2
   exact h2
  ·obtain ⟨g1, g2⟩ := h6 c hc
   exact ⟨(Xc3 _).1 g1, g2.imp id fun g => ⟨(Xc3 _).1 g.1, g.2⟩⟩
end Go.Proofs.YtjookebbmfiidaaDoor.L
set_option linter.unusedVariables false
namespace Go.Proofs.YtjookebbmfiidaaDoor.L
open Go.Proofs.YtjookebbmfiidaaDoor.R
def ErrQ (e : Int) : Prop := e = 200 ∨ e = 201 ∨ e = 202
theorem Xkw {x : Ag} {k : PF} {seen : List ByteArray} {t r : List Tk} {e : Int} (h : Wj x k seen t = .no e r) : ErrQ e := by
 unfold Wj at h
 split at h
 ·split at h
  ·split at h
   ·injection h with h _; exact .inr (.inl h.symm)
   ·cases h
  ·injection h with h _; exact .inl h.symm
 ·cases h
theorem Xmo : ∀ (f : Nat), (∀ m seen t e r, 2 * t.length + 1 ≤ f → Xae f m seen t = .no e r → ErrQ e) ∧ (∀ m seen t e r, 2 * t.length + 2 ≤ f → kidsT f m seen t = .no e r → ErrQ e)
 | 0 => ⟨fun m seen t e r hf => by omega, fun m seen t e r hf => by omega⟩
 | f + 1 => by
  obtain ⟨i1, i2⟩ := Xmo f
  refine ⟨fun m seen t e r hf h => ?_, fun m seen t e r hf h => ?_⟩
  ·rw [S9] at h
   have ha := Xdm t
   by_cases c1 : Qy t = true
   ·rw [if_pos c1] at h
    by_cases c2 : m ≥ 32
    ·rw [if_pos c2] at h
     injection h with h _; exact .inr (.inr h.symm)
    rw [if_neg c2] at h
    by_cases c3 : Xb0 (N7 t) = true
    ·rw [if_pos c3] at h
     exact Xkw h
    rw [if_neg c3] at h
    by_cases c4 : isT 5 opB (N7 t) = true
    ·rw [if_pos c4] at h
     obtain ⟨r2, e2⟩ := V7 c4
     have h4 := Xav r2
     rw [e2] at h ha
     simp only [List.length_cons] at ha
     rw [List.tail_cons] at h
     by_cases c5 : nmT r2 = true
     ·rw [if_pos c5] at h
      cases e3 : kidsT f (m + 1) seen r2.tail with
      | no ee q =>
       rw [e3] at h
       injection h with h _
       rw [← h]
       exact i2 _ _ _ _ _ (by omega) e3
      | ok p q =>
       rw [e3] at h
       exact Xkw h
     ·rw [if_neg c5] at h
      injection h with h _; exact .inl h.symm
    ·rw [if_neg c4] at h
     injection h with h _; exact .inl h.symm
   ·rw [if_neg c1] at h
    injection h with h _; exact .inl h.symm
  ·rw [Qh] at h
   by_cases c1 : isT 5 clB t = true
   ·rw [if_pos c1] at h; cases h
   rw [if_neg c1] at h
   have h1 := (Xgm f).1 m seen t
   cases e1 : Xae f m seen t with
   | no ee q =>
    rw [e1] at h
    injection h with h _
    rw [← h]
    exact i1 _ _ _ _ _ (by omega) e1
   | ok p q =>
    obtain ⟨x, k, seen'⟩ := p
    rw [e1] at h h1
    have h1' : q.length < t.length := h1
    dsimp only at h
    cases e2 : kidsT f (m + 1 + (Bz k).length) seen' q with
    | no ee u =>
     rw [e2] at h
     injection h with h _
     rw [← h]
     exact i2 _ _ _ _ _ (by omega) e2
    | ok p u => rw [e2] at h; cases h
theorem Xaf {caps : List ByteArray} {t r : List Tk} {e : Int} (h : I7 caps t = .no e r) : ErrQ e := by
 unfold I7 at h
 split at h
 ·split at h
  ·split at h
   ·cases h
   ·injection h with h _; exact .inr (.inl h.symm)
  ·injection h with h _; exact .inl h.symm
 ·injection h with h _; exact .inl h.symm
theorem Xfj {caps : List ByteArray} {t r : List Tk} {a : ByteArray} (h : I7 caps t = .ok a r) : r.length + 2 = t.length := by
 rw [(Xhq h).1]
 rfl
theorem Xn8 {n : Nat} {caps : List ByteArray} {t r : List Tk} {e : Int} (h : Yb n caps t = .no e r) : ErrQ e := by
 unfold Yb at h
 by_cases c1 : kwT t = true
 ·rw [if_pos c1] at h
  by_cases c2 : n ≥ 16
  ·rw [if_pos c2] at h
   injection h with h _; exact .inr (.inr h.symm)
  rw [if_neg c2] at h
  cases e1 : I7 caps t.tail with
  | no ee q =>
   rw [e1] at h
   injection h with h _
   rw [← h]
   exact Xaf e1
  | ok a q =>
   rw [e1] at h
   dsimp only at h
   by_cases c3 : isT 5 eqB q = true
   ·rw [if_pos c3] at h
    unfold Xeo at h
    by_cases c4 : isS q.tail = true
    ·rw [if_pos c4] at h; cases h
    rw [if_neg c4] at h
    cases e2 : I7 caps q.tail with
    | no ee u =>
     rw [e2] at h
     injection h with h _
     rw [← h]
     exact Xaf e2
    | ok b u => rw [e2] at h; cases h
   ·rw [if_neg c3] at h
    injection h with h _; exact .inl h.symm
 ·rw [if_neg c1] at h
  injection h with h _; exact .inl h.symm
theorem condT_sh {n : Nat} {caps : List ByteArray} {t r : List Tk} {c : Bh} (h : Yb n caps t = .ok c r) : r.length < t.length := by
 unfold Yb at h
 have h0 := Xav t
 by_cases c1 : kwT t = true
 ·rw [if_pos c1] at h
  by_cases c2 : n ≥ 16
  ·rw [if_pos c2] at h; cases h
  rw [if_neg c2] at h
  cases e1 : I7 caps t.tail with
  | no ee q => rw [e1] at h; cases h
  | ok a q =>
   have s1 := Xfj e1
   have s2 := Xav q
   have s3 := Xav q.tail
   rw [e1] at h
   dsimp only at h
   by_cases c3 : isT 5 eqB q = true
   ·rw [if_pos c3] at h
    unfold Xeo at h
    by_cases c4 : isS q.tail = true
    ·rw [if_pos c4] at h
     injection h with _ h
     rw [← h]
     omega
    rw [if_neg c4] at h
    cases e2 : I7 caps q.tail with
    | no ee u => rw [e2] at h; cases h
    | ok b u =>
     have s4 := Xfj e2
     rw [e2] at h
     injection h with _ h
     rw [← h]
     omega
   ·rw [if_neg c3] at h; cases h
 ·rw [if_neg c1] at h; cases h
end Go.Proofs.YtjookebbmfiidaaDoor.L
set_option linter.unusedVariables false
namespace Go.Proofs.YtjookebbmfiidaaDoor.L
open Go.Proofs.YtjookebbmfiidaaDoor.B Go.Proofs.YtjookebbmfiidaaDoor.R
def Xdb (W : List Ah) : List Tk := W.map fun w => (w.kind, w.text)
theorem Xh1 (W : List Ah) : (Xdb W).length = W.length := List.length_map _
def Rst (W : List Ah) (t : List Tk) : Prop := t <:+ Xdb W
def psn (W : List Ah) (t : List Tk) : Nat := W.length - t.length
theorem Rst.le {W : List Ah} {t : List Tk} (h : Rst W t) : t.length ≤ W.length := by
 have := List.IsSuffix.length_le h
 rwa [Xh1] at this
theorem Rst.sub {W : List Ah} {t q : List Tk} (h : Rst W t) (hq : q <:+ t) : Rst W q := List.IsSuffix.trans hq h
theorem Rst.tl {W : List Ah} {t : List Tk} (h : Rst W t) : Rst W t.tail := h.sub (List.tail_suffix t)
theorem psn_all (W : List Ah) : psn W (Xdb W) = 0 := by unfold psn; rw [Xh1]; omega
theorem Rst.drop {W : List Ah} {t : List Tk} (h : Rst W t) : Xdb (W.drop (psn W t)) = t := by
 obtain ⟨p, hp⟩ := h
 have hl : p.length = psn W t := by
  have := congrArg List.length hp
  rw [List.length_append, Xh1] at this
  unfold psn
  omega
 unfold Xdb at hp ⊢
 rw [List.map_drop, ← hp, ← hl, List.drop_left]
theorem Rst.hd {W : List Ah} {k : Int} {x : ByteArray} {t : List Tk} (h : Rst W ((k, x) :: t)) : psn W ((k, x) :: t) < W.length ∧ (ix W (psn W ((k, x) :: t) : Int)).kind = k ∧ (ix W (psn W ((k, x) :: t) : Int)).text = x ∧ psn W t = psn W ((k, x) :: t) + 1 := by
 have hd := h.drop
 have hl := h.le
 generalize hn : psn W ((k, x) :: t) = n at hd ⊢
 have hlt : n < W.length := by
  unfold psn at hn
  simp only [List.length_cons] at hn hl
  omega
 have hx : W[((n : Nat) : Int).toNat]? = some (ix W ((n : Nat) : Int)) := Zu ⟨Int.natCast_nonneg n, by omega⟩
 rw [Int.toNat_natCast] at hx
 have hx2 : W.drop n = ix W (n : Int) :: W.drop (n + 1) := by
  have hg : W[n] = ix W (n : Int) := by
   rw [List.getElem?_eq_getElem hlt] at hx
   exact Option.some.inj hx
  rw [List.drop_eq_getElem_cons hlt, hg]
 rw [hx2] at hd
 unfold Xdb at hd
 rw [List.map_cons] at hd
 injection hd with h1 h2
 injection h1 with h3 h4
 refine ⟨hlt, h3, h4, ?_⟩
 unfold psn at hn ⊢
 simp only [List.length_cons] at hn hl
 omega
theorem Z7 (W : List Ah) : psn W [] = W.length := by unfold psn; simp
def plW (W : List Ah) (L : Int) (t : List Tk) : Int := if psn W t < W.length then (ix W (psn W t : Int)).at_ else L
theorem isT_cons (k k' : Int) (x x' : ByteArray) (t : List Tk) : isT k x ((k', x') :: t) = (decide (k' = k) && decide (x' = x)) := rfl
theorem Xhu (k' : Int) (x' : ByteArray) (t : List Tk) : Yt ((k', x') :: t) = (decide (k' = 1) && !decide (x' = Rx)) := rfl
theorem Xi9 (k' : Int) (x' : ByteArray) (t : List Tk) : Xb0 ((k', x') :: t) = (decide (k' = 2) && !decide (x' = noB)) := rfl
def SufP {α : Type} (t : List Tk) : PQ α → Prop
 | .ok _ q => q <:+ t
 | .no _ q => q <:+ t
theorem suf2 (t : List Tk) : t.tail.tail <:+ t := List.IsSuffix.trans (List.tail_suffix _) (List.tail_suffix _)
theorem Xjx (t : List Tk) : N7 t <:+ t := by
 unfold N7
 split
 ·exact suf2 t
 ·exact List.suffix_refl t
theorem Xl6 {x : Ag} {k : PF} {seen : List ByteArray} {t s : List Tk} (h : t <:+ s) : SufP s (Wj x k seen t) := by
 unfold Wj
 split
 ·split
  ·split
   ·exact List.IsSuffix.trans (List.tail_suffix t) h
   ·exact List.IsSuffix.trans (suf2 t) h
  ·exact List.IsSuffix.trans (List.tail_suffix t) h
 ·exact h
theorem Xin : ∀ (f : Nat), (∀ m seen t, SufP t (Xae f m seen t)) ∧ (∀ m seen t, SufP t (kidsT f m seen t))
 | 0 => ⟨fun m seen t => List.suffix_refl t, fun m seen t => List.suffix_refl t⟩
 | f + 1 => by
  obtain ⟨i1, i2⟩ := Xin f
  refine ⟨fun m seen t => ?_, fun m seen t => ?_⟩
  ·rw [S9]
   have ha := Xjx t
   split
   ·split
    ·exact List.suffix_refl t
    split
    ·exact Xl6 (List.IsSuffix.trans (List.tail_suffix _) ha)
    split
    ·split
     ·have h1 := i2 (m + 1) seen (N7 t).tail.tail
      cases e : kidsT f (m + 1) seen (N7 t).tail.tail with
      | no ee q =>
       rw [e] at h1
       exact List.IsSuffix.trans h1 (List.IsSuffix.trans (suf2 _) ha)
      | ok p q =>
       rw [e] at h1
       exact Xl6 (List.IsSuffix.trans h1 (List.IsSuffix.trans (suf2 _) ha))
     ·exact List.IsSuffix.trans (List.tail_suffix _) ha
    ·exact ha
   ·exact List.suffix_refl t
  ·rw [Qh]
   split
   ·exact List.tail_suffix t
   ·have h1 := i1 m seen t
    cases e : Xae f m seen t with
    | no ee q => rw [e] at h1; exact h1
    | ok p q =>
     obtain ⟨x, k, seen'⟩ := p
     rw [e] at h1
     have h1' : q <:+ t := h1
     dsimp only
     have h2 := i2 (m + 1 + (Bz k).length) seen' q
     cases e2 : kidsT f (m + 1 + (Bz k).length) seen' q with
     | no ee u => rw [e2] at h2; exact List.IsSuffix.trans h2 h1'
     | ok p u => rw [e2] at h2; exact List.IsSuffix.trans h2 h1'
theorem Xkr (m : Nat) (seen : List ByteArray) (t : List Tk) : SufP t (Xc9 m seen t) := (Xin _).1 m seen t
theorem Xng (m : Nat) (seen : List ByteArray) (t : List Tk) : SufP t (Xba m seen t) := (Xin _).2 m seen t
theorem patN_sh (m : Nat) (seen : List ByteArray) (t : List Tk) : ShP t.length (Xc9 m seen t) := (Xgm _).1 m seen t
theorem Xif {x x' : Ag} {k k' : PF} {seen seen' : List ByteArray} {t q : List Tk} (hx : x.capture = noB) (h : Wj x k seen t = .ok (x', k', seen') q) : k' = k ∧ seen' = Xa3 x'.capture seen := by
 unfold Wj at h
 split at h
 ·split at h
  ·split at h
   ·cases h
   ·injection h with h _
    injection h with h1 h2
    injection h2 with h2 h3
    subst h1 h2 h3
    exact ⟨rfl, rfl⟩
  ·cases h
 ·injection h with h _
  injection h with h1 h2
  injection h2 with h2 h3
  subst h1 h2 h3
  refine ⟨rfl, ?_⟩
  unfold Xa3
  rw [if_pos hx]
theorem Xgk : ∀ (f : Nat), (∀ m seen t x k seen' q, Xae f m seen t = .ok (x, k, seen') q → seen' = J4 (.cons x k .nil) seen) ∧ (∀ m seen t g seen' q, kidsT f m seen t = .ok (g, seen') q → seen' = J4 g seen)
 | 0 => ⟨fun m seen t x k seen' q h => (by cases h), fun m seen t g seen' q h => (by cases h)⟩
 | f + 1 => by
  obtain ⟨i1, i2⟩ := Xgk f
  refine ⟨fun m seen t x k seen' q h => ?_, fun m seen t g seen' q h => ?_⟩
  ·rw [S9] at h
   split at h
   ·split at h
    ·cases h
    split at h
    ·obtain ⟨rfl, e⟩ := Xif rfl h
     exact e
    split at h
    ·split at h
     ·cases e : kidsT f (m + 1) seen (N7 t).tail.tail with
      | no ee r => rw [e] at h; cases h
      | ok p r =>
       obtain ⟨k0, s0⟩ := p
       rw [e] at h
       obtain ⟨rfl, e2⟩ := Xif rfl h
       rw [e2, i2 _ _ _ _ _ _ e]
       rfl
     ·cases h
    ·cases h
   ·cases h
  ·rw [Qh] at h
   split at h
   ·injection h with h _
    injection h with h1 h2
    subst h1 h2
    rfl
   ·cases e : Xae f m seen t with
    | no ee r => rw [e] at h; cases h
    | ok p r =>
     obtain ⟨x, k, s0⟩ := p
     rw [e] at h
     dsimp only at h
     cases e2 : kidsT f (m + 1 + (Bz k).length) s0 r with
     | no ee u => rw [e2] at h; cases h
     | ok p u =>
      obtain ⟨s, s2⟩ := p
      rw [e2] at h
      injection h with h _
      injection h with h1 h2
      subst h1 h2
      rw [i2 _ _ _ _ _ _ e2, i1 _ _ _ _ _ _ _ e]
      rfl
theorem Xe8 {x x' : Ag} {k k' : PF} {seen seen' : List ByteArray} {t q : List Tk} (h : Wj x k seen t = .ok (x', k', seen') q) : k' = k := by
 unfold Wj at h
 split at h
 ·split at h
  ·split at h
   ·cases h
   ·injection h with h _
    injection h with _ h
    injection h with h _
    exact h.symm
  ·cases h
 ·injection h with h _
  injection h with _ h
  injection h with h _
  exact h.symm
theorem Xix : ∀ (f : Nat), (∀ m seen t x k seen' q, Xae f m seen t = .ok (x, k, seen') q → m + 1 + (Bz k).length ≤ 32) ∧ (∀ m seen t g seen' q, m ≤ 32 → kidsT f m seen t = .ok (g, seen') q → m + (Bz g).length ≤ 32)
 | 0 => ⟨fun m seen t x k seen' q h => (by cases h), fun m seen t g seen' q _ h => (by cases h)⟩
 | f + 1 => by
  obtain ⟨i1, i2⟩ := Xix f
  refine ⟨fun m seen t x k seen' q h => ?_, fun m seen t g seen' q hm h => ?_⟩
  ·rw [S9] at h
   split at h
   ·split at h
    ·cases h
    split at h
    ·rw [Xe8 h]
     simp only [Bz, List.length_nil]
     omega
    split at h
    ·split at h
     ·cases e : kidsT f (m + 1) seen (N7 t).tail.tail with
      | no ee r => rw [e] at h; cases h
      | ok p r =>
       obtain ⟨k0, s0⟩ := p
       rw [e] at h
       rw [Xe8 h]
       exact i2 _ _ _ _ _ _ (by omega) e
     ·cases h
    ·cases h
   ·cases h
  ·rw [Qh] at h
   split at h
   ·injection h with h _
    injection h with h1 h2
    subst h1
    simp only [Bz, List.length_nil]
    omega
   ·cases e : Xae f m seen t with
    | no ee r => rw [e] at h; cases h
    | ok p r =>
     obtain ⟨x, k, s0⟩ := p
     rw [e] at h
     dsimp only at h
     have h1 := i1 _ _ _ _ _ _ _ e
     cases e2 : kidsT f (m + 1 + (Bz k).length) s0 r with
     | no ee u => rw [e2] at h; cases h
     | ok p u =>
      obtain ⟨s, s2⟩ := p
      rw [e2] at h
      injection h with h _
      injection h with h1' h2
      subst h1'
      have := i2 _ _ _ _ _ _ h1 e2
      simp only [Bz, List.length_cons, List.length_append]
      omega
theorem Xk2 {m : Nat} {seen seen' : List ByteArray} {t q : List Tk} {x : Ag} {k : PF} (h : Xc9 m seen t = .ok (x, k, seen') q) : m + 1 + (Bz k).length ≤ 32 := (Xix _).1 _ _ _ _ _ _ _ h
theorem Xia {m : Nat} {seen seen' : List ByteArray} {t q : List Tk} {x : Ag} {k : PF} (h : Xc9 m seen t = .ok (x, k, seen') q) : seen' = J4 (.cons x k .nil) seen := (Xgk _).1 _ _ _ _ _ _ _ h
theorem Xlh {m : Nat} {seen seen' : List ByteArray} {t q : List Tk} {g : PF} (h : Xba m seen t = .ok (g, seen') q) : seen' = J4 g seen := (Xgk _).2 _ _ _ _ _ _ h
theorem Xl4 {m : Nat} {seen : List ByteArray} {t q : List Tk} {e : Int} (h : Xc9 m seen t = .no e q) : e ≠ 0 := by
 rcases (Xmo _).1 _ _ _ _ _ (Nat.le_refl _) h with h | h | h <;> omega
def Jh (o : List Ag) (seen : List ByteArray) : Prop := ∀ c, c ∈ seen ↔ c ∈ Oi o
theorem Jh.app {o : List Ag} {seen : List ByteArray} (h : Jh o seen) (g : PF) : Jh (o ++ Bz g) (J4 g seen) := fun c => by
 rw [(Yj g seen).mem_iff, Xby, List.mem_append, List.mem_append, h c, Or.comm]
theorem Xm4 {x : Ag} (h : x.capture = noB) (v : List Ag) : Oi (x :: v) = Oi v := by
 rw [Xgu]
 unfold Xa3
 rw [if_pos h]
theorem Jh.mid {o v : List Ag} {seen : List ByteArray} {x : Ag} (h : x.capture = noB) : Jh (o ++ x :: v) seen ↔ Jh (o ++ v) seen := by
 unfold Jh
 rw [Xby, Xby, Xm4 h]
theorem Xn7 {c : ByteArray} {v : List Ag} : c ∈ Oi v ↔ c ≠ noB ∧ ∃ x ∈ v, x.capture = c := by
 unfold Oi
 rw [List.mem_filter, List.mem_map]
 simp only [Bool.not_eq_true', decide_eq_false_iff_not]
 exact And.comm
theorem inC_seen {o : List Ag} {seen : List ByteArray} (h : Jh o seen) (c : ByteArray) : inC c seen = true ↔ (c ≠ noB ∧ ∃ x ∈ o, x.capture = c) := by
 rw [Xc1, h c, Xn7]
def U2 (c : ByteArray) (v : List Ag) : Option Nat := v.findIdx? fun x => decide (x.capture = c)
theorem Xkc {c : ByteArray} {v : List Ag} : (U2 c v).isSome = true ↔ ∃ x ∈ v, x.capture = c := by
 unfold U2
 rw [List.findIdx?_isSome, List.any_eq_true]
 simp only [decide_eq_true_eq]
def Qw (c : ByteArray) (v : List Ag) : Int := if c = noB then -1 else match U2 c v with
 | none => -1
 | some i => (i : Int)
theorem Xbf {o : List Ag} {seen : List ByteArray} (h : Jh o seen) (c : ByteArray) : Qw c o ≥ 0 ↔ inC c seen = true := by
 rw [inC_seen h, ← Xkc]
 unfold Qw
 by_cases g : c = noB
 ·rw [if_pos g]
  exact ⟨fun h => absurd h (by decide), fun h => absurd g h.1⟩
 ·rw [if_neg g]
  cases e : U2 c o with
  | none => exact ⟨fun h => absurd h (by decide), fun h => absurd h.2 (by simp)⟩
  | some i => exact ⟨fun h => ⟨g, rfl⟩, fun h => Int.natCast_nonneg i⟩
theorem Xn0 {α : Type} (a v : List α) (x y : α) : (a ++ x :: v).set a.length y = a ++ y :: v := by
 rw [List.set_append_right _ _ (Nat.le_refl _), Nat.sub_self]
 rfl
end Go.Proofs.YtjookebbmfiidaaDoor.L
