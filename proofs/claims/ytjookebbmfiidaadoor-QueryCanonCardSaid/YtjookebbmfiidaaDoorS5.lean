/- Queries: lists of nodes that are shaped are forests; captures as lists. No condition. -/
import Derived.Test.YtjookebbmfiidaaDoorS3
set_option linter.unusedVariables false
namespace Go.Proofs.YtjookebbmfiidaaDoor.L
open Go.Proofs.YtjookebbmfiidaaDoor.R
def Vo : List Ag → Nat → Option (List Ag)
 | l, 0 => some l
 | [], _ + 1 => none
 | x :: xs, c + 1 => if x.kids < 0 then none else Vo xs (c + x.kids.toNat)
theorem Yo (l : List Ag) : Vo l 0 = some l := by cases l <;> rfl
theorem Uu (x : Ag) (xs : List Ag) (c : Nat) : Vo (x :: xs) (c + 1) = if x.kids < 0 then none else Vo xs (c + x.kids.toNat) := rfl
theorem Xdp : ∀ (f : PF) (r : List Ag) (c : Nat), Xbp f → Vo (Bq f ++ r) (Jb f + c) = Vo r c
 | .nil, r, c, _ => by simp [Bq, Jb]
 | .cons x k s, r, c, hf => by
  obtain ⟨f1, f2, f3⟩ := hf
  have e : Jb (.cons x k s) + c = Jb s + c + 1 := by simp only [Jb]; omega
  rw [e]
  simp only [Bq, List.cons_append, List.append_assoc]
  rw [Uu, if_neg (by omega), f1, Int.toNat_natCast, show Jb s + c + Jb k = Jb k + (Jb s + c) by omega, Xdp k _ _ f2, Xdp s _ _ f3]
theorem Xc8 : ∀ (n : Nat) (l : List Ag) (a b : Nat) (r : List Ag), l.length ≤ n → Vo l (a + b) = some r → ∃ f q, Xbp f ∧ Jb f = a ∧ l = Bq f ++ q ∧ Vo q b = some r
 | n, l, 0, b, r, hn, h => ⟨.nil, l, trivial, rfl, rfl, by rwa [Nat.zero_add] at h⟩
 | n, [], a + 1, b, r, hn, h => by rw [show a + 1 + b = a + b + 1 by omega] at h; cases h
 | 0, x :: xs, a + 1, b, r, hn, h => by simp at hn
 | n + 1, x :: xs, a + 1, b, r, hn, h => by
  rw [show a + 1 + b = a + b + 1 by omega, Uu] at h
  by_cases g : x.kids < 0
  ·rw [if_pos g] at h; cases h
  ·rw [if_neg g, show a + b + x.kids.toNat = x.kids.toNat + (a + b) by omega] at h
   simp only [List.length_cons] at hn
   obtain ⟨k, q, k1, k2, k3, k4⟩ := Xc8 n xs x.kids.toNat (a + b) r (by omega) h
   have hq : q.length ≤ n := by
    have := congrArg List.length k3
    rw [List.length_append] at this
    omega
   obtain ⟨s, q2, s1, s2, s3, s4⟩ := Xc8 n q a b r hq k4
   refine ⟨.cons x k s, q2, ⟨by omega, k1, s1⟩, by simp [Jb, s2], ?_, s4⟩
   rw [k3, s3]
   simp [Bq]
theorem behP_ok {l : List Ag} {c : Nat} {r : List Ag} (h : Vo l c = some r) : ∃ f, Xbp f ∧ Jb f = c ∧ l = Bq f ++ r := by
 obtain ⟨f, q, h1, h2, h3, h4⟩ := Xc8 l.length l c 0 r (Nat.le_refl _) h
 rw [Yo] at h4
 injection h4 with h4
 subst h4
 exact ⟨f, h1, h2, h3⟩
theorem Xeu : ∀ f : PF, Jb f ≤ (Bq f).length
 | .nil => Nat.le_refl _
 | .cons x k s => by
  have := Xeu s
  simp only [Jb, Bq, List.length_cons, List.length_append]
  omega
def sndN (nm : ByteArray → Bool) (x : Ag) : Bool := (if x.lit = true then !decide (x.name = noB) && decide (x.kids = 0) else (decide (x.name = noB) || nm x.name)) && (decide (x.field = noB) || nm x.field) && (decide (x.capture = noB) || nm x.capture)
theorem Xb3 {nm : ByteArray → Bool} : ∀ (g : PF), Xbp g → Oz nm g = (Bq g).all (sndN nm)
 | .nil, _ => rfl
 | .cons x k s, hf => by
  obtain ⟨f1, f2, f3⟩ := hf
  have e : decide (Jb k = 0) = decide (x.kids = 0) := by rw [f1]; exact decide_eq_decide.2 (by omega)
  unfold Oz
  rw [Xb3 k f2, Xb3 s f3, e]
  simp only [Bq, List.all_cons, List.all_append]
  unfold sndN
  simp only [Bool.and_assoc]
def O7 (v : List Ag) : List ByteArray := (v.map (·.capture)).filter fun c => !decide (c = noB)
theorem Xb4 (a b : List Ag) : O7 (a ++ b) = O7 a ++ O7 b := by unfold O7; rw [List.map_append, List.filter_append]
theorem Xfh (x : Ag) (v : List Ag) : O7 (x :: v) = Xb x.capture (O7 v) := by
 unfold O7 Xb
 rw [List.map_cons, List.filter_cons]
 by_cases h : x.capture = noB
 ·rw [if_pos h, if_neg (by simp [h])]
 ·rw [if_neg h, if_pos (by simp [h])]
theorem Xa : ∀ (g : PF) (l : List ByteArray), (Ik g l).Perm (O7 (Bq g) ++ l)
 | .nil, l => List.Perm.refl _
 | .cons x k s, l => by
  have h1 := Xa k l
  have h2 := Xa s (Xb x.capture (Ik k l))
  show (Ik s (Xb x.capture (Ik k l))).Perm _
  refine h2.trans ?_
  have h4 : (O7 (Bq s) ++ Ik k l).Perm (O7 (Bq k) ++ O7 (Bq s) ++ l) := (List.Perm.append_left _ h1).trans (by
   rw [← List.append_assoc]
   exact List.Perm.append_right _ List.perm_append_comm)
  simp only [Bq]
  rw [Xfh, Xb4]
  unfold Xb
  by_cases h : x.capture = noB
  ·rw [if_pos h, if_pos h]
   exact h4
  ·rw [if_neg h, if_neg h]
   have h3 : (O7 (Bq s) ++ x.capture :: Ik k l).Perm (x.capture :: (O7 (Bq s) ++ Ik k l)) := List.perm_middle
   exact h3.trans (List.Perm.cons _ h4)
theorem Xb2 (g : PF) {y : ByteArray} : y ∈ Ik g [] ↔ y ∈ O7 (Bq g) := by
 have := (Xa g []).mem_iff (a := y)
 rwa [List.append_nil] at this
theorem Xe9 (g : PF) : (Ik g []).Nodup ↔ (O7 (Bq g)).Nodup := by
 have := (Xa g []).nodup_iff
 rwa [List.append_nil] at this
def Xhl (nm : ByteArray → Bool) (v : List Ag) (l : List Bi) : Prop :=
 v.length ≤ 32 ∧ l.length ≤ 16 ∧ Vo v 1 = some [] ∧ (∀ x ∈ v, sndN nm x = true) ∧ (O7 v).Nodup ∧ ∀ c ∈ l, Xcu (O7 v) c
theorem Xit {nm : ByteArray → Bool} {v : List Ag} {l : List Bi} : Xhl nm v l ↔ ∃ x k, v = Bq (.cons x k .nil) ∧ Rf nm x k l := by
 constructor
 ·rintro ⟨h1, h2, h3, h4, h5, h6⟩
  obtain ⟨f, f1, f2, f3⟩ := behP_ok h3
  rw [List.append_nil] at f3
  obtain ⟨x, k, rfl⟩ : ∃ x k, f = .cons x k .nil := by
   cases f with
   | nil => simp [Jb] at f2
   | cons x k s =>
    simp only [Jb] at f2
    obtain rfl := Xjh (show Jb s = 0 by omega)
    exact ⟨x, k, rfl⟩
  subst f3
  refine ⟨x, k, rfl, f1, ?_, (Xe9 _).2 h5, h1, h2, fun c hc => ?_⟩
  ·rw [Xb3 _ f1, List.all_eq_true]
   exact h4
  ·obtain ⟨g1, g2⟩ := h6 c hc
   exact ⟨(Xb2 _).2 g1, g2.imp id fun g => ⟨(Xb2 _).2 g.1, g.2⟩⟩
 ·rintro ⟨x, k, rfl, h1, h2, h3, h4, h5, h6⟩
  refine ⟨h4, h5, ?_, ?_, (Xe9 _).1 h3, fun c hc => ?_⟩
  ·have := Xdp (.cons x k .nil) [] 0 h1
   rw [List.append_nil, Nat.add_zero, Yo] at this
   exact this
  ·rw [Xb3 _ h1, List.all_eq_true] at h2
   exact h2
  ·obtain ⟨g1, g2⟩ := h6 c hc
   exact ⟨(Xb2 _).1 g1, g2.imp id fun g => ⟨(Xb2 _).1 g.1, g.2⟩⟩
end Go.Proofs.YtjookebbmfiidaaDoor.L
set_option linter.unusedVariables false
namespace Go.Proofs.YtjookebbmfiidaaDoor.L
open Go.Proofs.YtjookebbmfiidaaDoor.R
def ErrQ (e : Int) : Prop := e = 200 ∨ e = 201 ∨ e = 202
theorem Xin {x : Ag} {k : PF} {seen : List ByteArray} {t r : List Tk} {e : Int} (h : Ul x k seen t = .no e r) : ErrQ e := by
 unfold Ul at h
 split at h
 ·split at h
  ·split at h
   ·injection h with h _; exact .inr (.inl h.symm)
   ·cases h
  ·injection h with h _; exact .inl h.symm
 ·cases h
theorem Xhr : ∀ (f : Nat), (∀ m seen t e r, 2 * t.length + 1 ≤ f → Yb f m seen t = .no e r → ErrQ e) ∧ (∀ m seen t e r, 2 * t.length + 2 ≤ f → kidsT f m seen t = .no e r → ErrQ e)
 | 0 => ⟨fun m seen t e r hf => by omega, fun m seen t e r hf => by omega⟩
 | f + 1 => by
  obtain ⟨i1, i2⟩ := Xhr f
  refine ⟨fun m seen t e r hf h => ?_, fun m seen t e r hf h => ?_⟩
  ·rw [Qa] at h
   have ha := Xd8 t
   by_cases c1 : Pn t = true
   ·rw [if_pos c1] at h
    by_cases c2 : m ≥ 32
    ·rw [if_pos c2] at h
     injection h with h _; exact .inr (.inr h.symm)
    rw [if_neg c2] at h
    by_cases c3 : Zi (Ji t) = true
    ·rw [if_pos c3] at h
     exact Xin h
    rw [if_neg c3] at h
    by_cases c4 : isT 5 opB (Ji t) = true
    ·rw [if_pos c4] at h
     obtain ⟨r2, e2⟩ := Oo c4
     have h4 := Zq r2
     rw [e2] at h ha
     simp only [List.length_cons] at ha
     rw [List.tail_cons] at h
     by_cases c5 : nmT r2 = true
     ·rw [if_pos c5] at h
      cases e3 : kidsT f (m + 1) seen r2.tail with
      | no ee q =>
       rw [e3] at h
       injection h with h _
       rw [← h]
       exact i2 _ _ _ _ _ (by omega) e3
      | ok p q =>
       rw [e3] at h
       exact Xin h
     ·rw [if_neg c5] at h
      injection h with h _; exact .inl h.symm
    ·rw [if_neg c4] at h
     injection h with h _; exact .inl h.symm
   ·rw [if_neg c1] at h
    injection h with h _; exact .inl h.symm
  ·rw [Ol] at h
   by_cases c1 : isT 5 clB t = true
   ·rw [if_pos c1] at h; cases h
   rw [if_neg c1] at h
   have h1 := (Xg4 f).1 m seen t
   cases e1 : Yb f m seen t with
   | no ee q =>
    rw [e1] at h
    injection h with h _
    rw [← h]
    exact i1 _ _ _ _ _ (by omega) e1
   | ok p q =>
    obtain ⟨x, k, seen'⟩ := p
    rw [e1] at h h1
    have h1' : q.length < t.length := h1
    dsimp only at h
    cases e2 : kidsT f (m + 1 + (Bq k).length) seen' q with
    | no ee u =>
     rw [e2] at h
     injection h with h _
     rw [← h]
     exact i2 _ _ _ _ _ (by omega) e2
    | ok p u => rw [e2] at h; cases h
theorem Z5 {caps : List ByteArray} {t r : List Tk} {e : Int} (h : H8 caps t = .no e r) : ErrQ e := by
 unfold H8 at h
 split at h
 ·split at h
  ·split at h
   ·cases h
   ·injection h with h _; exact .inr (.inl h.symm)
  ·injection h with h _; exact .inl h.symm
 ·injection h with h _; exact .inl h.symm
theorem Xee {caps : List ByteArray} {t r : List Tk} {a : ByteArray} (h : H8 caps t = .ok a r) : r.length + 2 = t.length := by
 rw [(Ya h).1]
 rfl
theorem Xgt {n : Nat} {caps : List ByteArray} {t r : List Tk} {e : Int} (h : Uk n caps t = .no e r) : ErrQ e := by
 unfold Uk at h
 by_cases c1 : kwT t = true
 ·rw [if_pos c1] at h
  by_cases c2 : n ≥ 16
  ·rw [if_pos c2] at h
   injection h with h _; exact .inr (.inr h.symm)
  rw [if_neg c2] at h
  cases e1 : H8 caps t.tail with
  | no ee q =>
   rw [e1] at h
   injection h with h _
   rw [← h]
   exact Z5 e1
  | ok a q =>
   rw [e1] at h
   dsimp only at h
   by_cases c3 : isT 5 eqB q = true
   ·rw [if_pos c3] at h
    unfold Xbr at h
    by_cases c4 : isS q.tail = true
    ·rw [if_pos c4] at h; cases h
    rw [if_neg c4] at h
    cases e2 : H8 caps q.tail with
    | no ee u =>
     rw [e2] at h
     injection h with h _
     rw [← h]
     exact Z5 e2
    | ok b u => rw [e2] at h; cases h
   ·rw [if_neg c3] at h
    injection h with h _; exact .inl h.symm
 ·rw [if_neg c1] at h
  injection h with h _; exact .inl h.symm
theorem Xjc {n : Nat} {caps : List ByteArray} {t r : List Tk} {c : Bi} (h : Uk n caps t = .ok c r) : r.length < t.length := by
 unfold Uk at h
 have h0 := Zq t
 by_cases c1 : kwT t = true
 ·rw [if_pos c1] at h
  by_cases c2 : n ≥ 16
  ·rw [if_pos c2] at h; cases h
  rw [if_neg c2] at h
  cases e1 : H8 caps t.tail with
  | no ee q => rw [e1] at h; cases h
  | ok a q =>
   have s1 := Xee e1
   have s2 := Zq q
   have s3 := Zq q.tail
   rw [e1] at h
   dsimp only at h
   by_cases c3 : isT 5 eqB q = true
   ·rw [if_pos c3] at h
    unfold Xbr at h
    by_cases c4 : isS q.tail = true
    ·rw [if_pos c4] at h
     injection h with _ h
     rw [← h]
     omega
    rw [if_neg c4] at h
    cases e2 : H8 caps q.tail with
    | no ee u => rw [e2] at h; cases h
    | ok b u =>
     have s4 := Xee e2
     rw [e2] at h
     injection h with _ h
     rw [← h]
     omega
   ·rw [if_neg c3] at h; cases h
 ·rw [if_neg c1] at h; cases h
theorem Xgl {caps : List ByteArray} : ∀ (f n : Nat) (t : List Tk) (e : Int) (r : List Tk), t.length < f → Ua f n caps t = .no e r → ErrQ e
 | 0, n, t, e, r, hf, h => absurd hf (Nat.not_lt_zero _)
 | f + 1, n, [], e, r, hf, h => by cases h
 | f + 1, n, w :: t, e, r, hf, h => by
  rw [Xu] at h
  cases e1 : Uk n caps (w :: t) with
  | no ee u =>
   rw [e1] at h
   injection h with h _
   rw [← h]
   exact Xgt e1
  | ok c u =>
   have hs := Xjc e1
   rw [e1] at h
   dsimp only at h
   cases e2 : Ua f (n + 1) caps u with
   | no ee v =>
    rw [e2] at h
    injection h with h _
    rw [← h]
    exact Xgl f (n + 1) u _ _ (by omega) e2
   | ok l v => rw [e2] at h; cases h
theorem Xly {t r : List Tk} {e : Int} (h : Z4 t = .no e r) : ErrQ e := by
 unfold Z4 at h
 cases e1 : Zu 0 [] t with
 | no ee u =>
  rw [e1] at h
  injection h with h _
  rw [← h]
  exact (Xhr _).1 0 [] t _ _ (Nat.le_refl _) e1
 | ok p u =>
  obtain ⟨x, k, caps⟩ := p
  rw [e1] at h
  dsimp only at h
  cases e2 : Ua (u.length + 1) 0 caps u with
  | no ee v =>
   rw [e2] at h
   injection h with h _
   rw [← h]
   exact Xgl _ 0 u _ _ (Nat.lt_succ_self _) e2
  | ok l v => rw [e2] at h; cases h
end Go.Proofs.YtjookebbmfiidaaDoor.L
