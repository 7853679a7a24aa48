/- Queries: lists of nodes that are shaped are forests; captures as lists. No condition. -/
import Derived.Test.YtjookebbmfiidaaDoorS3
set_option linter.unusedVariables false
namespace Go.Proofs.YtjookebbmfiidaaDoor.L
open Go.Proofs.YtjookebbmfiidaaDoor.R
def Vx : List Ag → Nat → Option (List Ag)
 | l, 0 => some l
 | [], _ + 1 => none
 | x :: xs, c + 1 => if x.kids < 0 then none else Vx xs (c + x.kids.toNat)
theorem Yt (l : List Ag) : Vx l 0 = some l := by cases l <;> rfl
theorem Us (x : Ag) (xs : List Ag) (c : Nat) : Vx (x :: xs) (c + 1) = if x.kids < 0 then none else Vx xs (c + x.kids.toNat) := rfl
theorem Xd8 : ∀ (f : PF) (r : List Ag) (c : Nat), Xcq f → Vx (Bz f ++ r) (Jm f + c) = Vx r c
 | .nil, r, c, _ => by simp [Bz, Jm]
 | .cons x k s, r, c, hf => by
  obtain ⟨f1, f2, f3⟩ := hf
  have e : Jm (.cons x k s) + c = Jm s + c + 1 := by simp only [Jm]; omega
  rw [e]
  simp only [Bz, List.cons_append, List.append_assoc]
  rw [Us, if_neg (by omega), f1, Int.toNat_natCast, show Jm s + c + Jm k = Jm k + (Jm s + c) by omega, Xd8 k _ _ f2, Xd8 s _ _ f3]
theorem Xbs : ∀ (n : Nat) (l : List Ag) (a b : Nat) (r : List Ag), l.length ≤ n → Vx l (a + b) = some r → ∃ f q, Xcq f ∧ Jm f = a ∧ l = Bz f ++ q ∧ Vx q b = some r
 | n, l, 0, b, r, hn, h => ⟨.nil, l, trivial, rfl, rfl, by rwa [Nat.zero_add] at h⟩
 | n, [], a + 1, b, r, hn, h => by rw [show a + 1 + b = a + b + 1 by omega] at h; cases h
 | 0, x :: xs, a + 1, b, r, hn, h => by simp at hn
 | n + 1, x :: xs, a + 1, b, r, hn, h => by
  rw [show a + 1 + b = a + b + 1 by omega, Us] at h
  by_cases g : x.kids < 0
  ·rw [if_pos g] at h; cases h
  ·rw [if_neg g, show a + b + x.kids.toNat = x.kids.toNat + (a + b) by omega] at h
   simp only [List.length_cons] at hn
   obtain ⟨k, q, k1, k2, k3, k4⟩ := Xbs n xs x.kids.toNat (a + b) r (by omega) h
   have hq : q.length ≤ n := by
    have := congrArg List.length k3
    rw [List.length_append] at this
    omega
   obtain ⟨s, q2, s1, s2, s3, s4⟩ := Xbs n q a b r hq k4
   refine ⟨.cons x k s, q2, ⟨by omega, k1, s1⟩, by simp [Jm, s2], ?_, s4⟩
   rw [k3, s3]
   simp [Bz]
theorem behP_ok {l : List Ag} {c : Nat} {r : List Ag} (h : Vx l c = some r) : ∃ f, Xcq f ∧ Jm f = c ∧ l = Bz f ++ r := by
 obtain ⟨f, q, h1, h2, h3, h4⟩ := Xbs l.length l c 0 r (Nat.le_refl _) h
 rw [Yt] at h4
 injection h4 with h4
 subst h4
 exact ⟨f, h1, h2, h3⟩
theorem Xeg : ∀ f : PF, Jm f ≤ (Bz f).length
 | .nil => Nat.le_refl _
 | .cons x k s => by
  have := Xeg s
  simp only [Jm, Bz, List.length_cons, List.length_append]
  omega
def sndN (nm : ByteArray → Bool) (x : Ag) : Bool := (if x.lit = true then !decide (x.name = noB) && decide (x.kids = 0) else (decide (x.name = noB) || nm x.name)) && (decide (x.field = noB) || nm x.field) && (decide (x.capture = noB) || nm x.capture)
theorem Xak {nm : ByteArray → Bool} : ∀ (g : PF), Xcq g → U9 nm g = (Bz g).all (sndN nm)
 | .nil, _ => rfl
 | .cons x k s, hf => by
  obtain ⟨f1, f2, f3⟩ := hf
  have e : decide (Jm k = 0) = decide (x.kids = 0) := by rw [f1]; exact decide_eq_decide.2 (by omega)
  unfold U9
  rw [Xak k f2, Xak s f3, e]
  simp only [Bz, List.all_cons, List.all_append]
  unfold sndN
  simp only [Bool.and_assoc]
def O1 (v : List Ag) : List ByteArray := (v.map (·.capture)).filter fun c => !decide (c = noB)
theorem Xas (a b : List Ag) : O1 (a ++ b) = O1 a ++ O1 b := by unfold O1; rw [List.map_append, List.filter_append]
theorem Xen (x : Ag) (v : List Ag) : O1 (x :: v) = Yf x.capture (O1 v) := by
 unfold O1 Yf
 rw [List.map_cons, List.filter_cons]
 by_cases h : x.capture = noB
 ·rw [if_pos h, if_neg (by simp [h])]
 ·rw [if_neg h, if_pos (by simp [h])]
theorem X8 : ∀ (g : PF) (l : List ByteArray), (Jj g l).Perm (O1 (Bz g) ++ l)
 | .nil, l => List.Perm.refl _
 | .cons x k s, l => by
  have h1 := X8 k l
  have h2 := X8 s (Yf x.capture (Jj k l))
  show (Jj s (Yf x.capture (Jj k l))).Perm _
  refine h2.trans ?_
  have h4 : (O1 (Bz s) ++ Jj k l).Perm (O1 (Bz k) ++ O1 (Bz s) ++ l) := (List.Perm.append_left _ h1).trans (by
   rw [← List.append_assoc]
   exact List.Perm.append_right _ List.perm_append_comm)
  simp only [Bz]
  rw [Xen, Xas]
  unfold Yf
  by_cases h : x.capture = noB
  ·rw [if_pos h, if_pos h]
   exact h4
  ·rw [if_neg h, if_neg h]
   have h3 : (O1 (Bz s) ++ x.capture :: Jj k l).Perm (x.capture :: (O1 (Bz s) ++ Jj k l)) := List.perm_middle
   exact h3.trans (List.Perm.cons _ h4)
theorem Xal (g : PF) {y : ByteArray} : y ∈ Jj g [] ↔ y ∈ O1 (Bz g) := by
 have := (X8 g []).mem_iff (a := y)
 rwa [List.append_nil] at this
theorem Xe0 (g : PF) : (Jj g []).Nodup ↔ (O1 (Bz g)).Nodup := by
 have := (X8 g []).nodup_iff
 rwa [List.append_nil] at this
def Xho (nm : ByteArray → Bool) (v : List Ag) (l : List Bi) : Prop :=
 v.length ≤ 32 ∧ l.length ≤ 16 ∧ Vx v 1 = some [] ∧ (∀ x ∈ v, sndN nm x = true) ∧ (O1 v).Nodup ∧ ∀ c ∈ l, Xgn (O1 v) c
theorem Xdv {nm : ByteArray → Bool} {v : List Ag} {l : List Bi} : Xho nm v l ↔ ∃ x k, v = Bz (.cons x k .nil) ∧ Vf nm x k l := by
 constructor
 ·rintro ⟨h1, h2, h3, h4, h5, h6⟩
  obtain ⟨f, f1, f2, f3⟩ := behP_ok h3
  rw [List.append_nil] at f3
  obtain ⟨x, k, rfl⟩ : ∃ x k, f = .cons x k .nil := by
   cases f with
   | nil => simp [Jm] at f2
   | cons x k s =>
    simp only [Jm] at f2
    obtain rfl := Xih (show Jm s = 0 by omega)
    exact ⟨x, k, rfl⟩
  subst f3
  refine ⟨x, k, rfl, f1, ?_, (Xe0 _).2 h5, h1, h2, fun c hc => ?_⟩
  ·rw [Xak _ f1, List.all_eq_true]
   exact h4
  ·obtain ⟨g1, g2⟩ := h6 c hc
   exact ⟨(Xal _).2 g1, g2.imp id fun g => ⟨(Xal _).2 g.1, g.2⟩⟩
 ·rintro ⟨x, k, rfl, h1, h2, h3, h4, h5, h6⟩
  refine ⟨h4, h5, ?_, ?_, (Xe0 _).1 h3, fun c hc => ?_⟩
  ·have := Xd8 (.cons x k .nil) [] 0 h1
   rw [List.append_nil, Nat.add_zero, Yt] at this
   exact this
  ·rw [Xak _ h1, List.all_eq_true] at h2
   exact h2
  ·obtain ⟨g1, g2⟩ := h6 c hc
   exact ⟨(Xal _).1 g1, g2.imp id fun g => ⟨(Xal _).1 g.1, g.2⟩⟩
end Go.Proofs.YtjookebbmfiidaaDoor.L
set_option linter.unusedVariables false
namespace Go.Proofs.YtjookebbmfiidaaDoor.L
open Go.Proofs.YtjookebbmfiidaaDoor.R
def ErrQ (e : Int) : Prop := e = 200 ∨ e = 201 ∨ e = 202
theorem Xii {x : Ag} {k : PF} {seen : List ByteArray} {t r : List Tk} {e : Int} (h : Um x k seen t = .no e r) : ErrQ e := by
 unfold Um at h
 split at h
 ·split at h
  ·split at h
   ·injection h with h _; exact .inr (.inl h.symm)
   ·cases h
  ·injection h with h _; exact .inl h.symm
 ·cases h
theorem Xkn : ∀ (f : Nat), (∀ m seen t e r, 2 * t.length + 1 ≤ f → Za f m seen t = .no e r → ErrQ e) ∧ (∀ m seen t e r, 2 * t.length + 2 ≤ f → kidsT f m seen t = .no e r → ErrQ e)
 | 0 => ⟨fun m seen t e r hf => by omega, fun m seen t e r hf => by omega⟩
 | f + 1 => by
  obtain ⟨i1, i2⟩ := Xkn f
  refine ⟨fun m seen t e r hf h => ?_, fun m seen t e r hf h => ?_⟩
  ·rw [Qw] at h
   have ha := Xce t
   by_cases c1 : Qd t = true
   ·rw [if_pos c1] at h
    by_cases c2 : m ≥ 32
    ·rw [if_pos c2] at h
     injection h with h _; exact .inr (.inr h.symm)
    rw [if_neg c2] at h
    by_cases c3 : Zm (Ld t) = true
    ·rw [if_pos c3] at h
     exact Xii h
    rw [if_neg c3] at h
    by_cases c4 : isT 5 opB (Ld t) = true
    ·rw [if_pos c4] at h
     obtain ⟨r2, e2⟩ := Ub c4
     have h4 := Zl r2
     rw [e2] at h ha
     simp only [List.length_cons] at ha
     rw [List.tail_cons] at h
     by_cases c5 : nmT r2 = true
     ·rw [if_pos c5] at h
      cases e3 : kidsT f (m + 1) seen r2.tail with
      | no ee q =>
       rw [e3] at h
       injection h with h _
       rw [← h]
       exact i2 _ _ _ _ _ (by omega) e3
      | ok p q =>
       rw [e3] at h
       exact Xii h
     ·rw [if_neg c5] at h
      injection h with h _; exact .inl h.symm
    ·rw [if_neg c4] at h
     injection h with h _; exact .inl h.symm
   ·rw [if_neg c1] at h
    injection h with h _; exact .inl h.symm
  ·rw [Pi] at h
   by_cases c1 : isT 5 clB t = true
   ·rw [if_pos c1] at h; cases h
   rw [if_neg c1] at h
   have h1 := (Xf5 f).1 m seen t
   cases e1 : Za f m seen t with
   | no ee q =>
    rw [e1] at h
    injection h with h _
    rw [← h]
    exact i1 _ _ _ _ _ (by omega) e1
   | ok p q =>
    obtain ⟨x, k, seen'⟩ := p
    rw [e1] at h h1
    have h1' : q.length < t.length := h1
    dsimp only at h
    cases e2 : kidsT f (m + 1 + (Bz k).length) seen' q with
    | no ee u =>
     rw [e2] at h
     injection h with h _
     rw [← h]
     exact i2 _ _ _ _ _ (by omega) e2
    | ok p u => rw [e2] at h; cases h
theorem Yw {caps : List ByteArray} {t r : List Tk} {e : Int} (h : I8 caps t = .no e r) : ErrQ e := by
 unfold I8 at h
 split at h
 ·split at h
  ·split at h
   ·cases h
   ·injection h with h _; exact .inr (.inl h.symm)
  ·injection h with h _; exact .inl h.symm
 ·injection h with h _; exact .inl h.symm
theorem Xdo {caps : List ByteArray} {t r : List Tk} {a : ByteArray} (h : I8 caps t = .ok a r) : r.length + 2 = t.length := by
 rw [(Xg2 h).1]
 rfl
theorem Xl8 {n : Nat} {caps : List ByteArray} {t r : List Tk} {e : Int} (h : Xe n caps t = .no e r) : ErrQ e := by
 unfold Xe at h
 by_cases c1 : kwT t = true
 ·rw [if_pos c1] at h
  by_cases c2 : n ≥ 16
  ·rw [if_pos c2] at h
   injection h with h _; exact .inr (.inr h.symm)
  rw [if_neg c2] at h
  cases e1 : I8 caps t.tail with
  | no ee q =>
   rw [e1] at h
   injection h with h _
   rw [← h]
   exact Yw e1
  | ok a q =>
   rw [e1] at h
   dsimp only at h
   by_cases c3 : isT 5 eqB q = true
   ·rw [if_pos c3] at h
    unfold Xd2 at h
    by_cases c4 : isS q.tail = true
    ·rw [if_pos c4] at h; cases h
    rw [if_neg c4] at h
    cases e2 : I8 caps q.tail with
    | no ee u =>
     rw [e2] at h
     injection h with h _
     rw [← h]
     exact Yw e2
    | ok b u => rw [e2] at h; cases h
   ·rw [if_neg c3] at h
    injection h with h _; exact .inl h.symm
 ·rw [if_neg c1] at h
  injection h with h _; exact .inl h.symm
theorem condT_sh {n : Nat} {caps : List ByteArray} {t r : List Tk} {c : Bi} (h : Xe n caps t = .ok c r) : r.length < t.length := by
 unfold Xe at h
 have h0 := Zl t
 by_cases c1 : kwT t = true
 ·rw [if_pos c1] at h
  by_cases c2 : n ≥ 16
  ·rw [if_pos c2] at h; cases h
  rw [if_neg c2] at h
  cases e1 : I8 caps t.tail with
  | no ee q => rw [e1] at h; cases h
  | ok a q =>
   have s1 := Xdo e1
   have s2 := Zl q
   have s3 := Zl q.tail
   rw [e1] at h
   dsimp only at h
   by_cases c3 : isT 5 eqB q = true
   ·rw [if_pos c3] at h
    unfold Xd2 at h
    by_cases c4 : isS q.tail = true
    ·rw [if_pos c4] at h
     injection h with _ h
     rw [← h]
     omega
    rw [if_neg c4] at h
    cases e2 : I8 caps q.tail with
    | no ee u => rw [e2] at h; cases h
    | ok b u =>
     have s4 := Xdo e2
     rw [e2] at h
     injection h with _ h
     rw [← h]
     omega
   ·rw [if_neg c3] at h; cases h
 ·rw [if_neg c1] at h; cases h
end Go.Proofs.YtjookebbmfiidaaDoor.L
