/- Queries: lists of nodes that are shaped are forests; captures as lists. No condition. -/
import Derived.Test.YtjookebbmfiidaaDoorS3
import Derived.Test.YtjookebbmfiidaaDoorF1
import Derived.Test.YtjookebbmfiidaaDoorB5
set_option linter.unusedVariables false
namespace Go.Proofs.YtjookebbmfiidaaDoor.L
open Go.Proofs.YtjookebbmfiidaaDoor.R
def L8 : List Ae → Nat → Option (List Ae)
 | l, 0 => some l
 | [], _ + 1 => none
 | x :: xs, c + 1 => if x.kids < 0 then none else L8 xs (c + x.kids.toNat)
theorem M7 (l : List Ae) : L8 l 0 = some l := by cases l <;> rfl
theorem Kw (x : Ae) (xs : List Ae) (c : Nat) : L8 (x :: xs) (c + 1) = if x.kids < 0 then none else L8 xs (c + x.kids.toNat) := rfl
theorem Vc : ∀ (f : PF) (r : List Ae) (c : Nat), U2 f → L8 (B4 f ++ r) (Fo f + c) = L8 r c
 | .nil, r, c, _ => by simp [B4, Fo]
 | .cons x k s, r, c, hf => by
  obtain ⟨f1, f2, f3⟩ := hf
  have e : Fo (.cons x k s) + c = Fo s + c + 1 := by simp only [Fo]; omega
  rw [e]
  simp only [B4, List.cons_append, List.append_assoc]
  rw [Kw, if_neg (by omega), f1, Int.toNat_natCast, show Fo s + c + Fo k = Fo k + (Fo s + c) by omega, Vc k _ _ f2, Vc s _ _ f3]
theorem T1 : ∀ (n : Nat) (l : List Ae) (a b : Nat) (r : List Ae), l.length ≤ n → L8 l (a + b) = some r → ∃ f q, U2 f ∧ Fo f = a ∧ l = B4 f ++ q ∧ L8 q b = some r
 | n, l, 0, b, r, hn, h => ⟨.nil, l, trivial, rfl, rfl, by rwa [Nat.zero_add] at h⟩
 | n, [], a + 1, b, r, hn, h => by rw [show a + 1 + b = a + b + 1 by omega] at h; cases h
 | 0, x :: xs, a + 1, b, r, hn, h => by simp at hn
 | n + 1, x :: xs, a + 1, b, r, hn, h => by
  rw [show a + 1 + b = a + b + 1 by omega, Kw] at h
  by_cases g : x.kids < 0
  ·rw [if_pos g] at h; cases h
  ·rw [if_neg g, show a + b + x.kids.toNat = x.kids.toNat + (a + b) by omega] at h
   simp only [List.length_cons] at hn
   obtain ⟨k, q, k1, k2, k3, k4⟩ := T1 n xs x.kids.toNat (a + b) r (by omega) h
   have hq : q.length ≤ n := by
    have := congrArg List.length k3
    rw [List.length_append] at this
    omega
   obtain ⟨s, q2, s1, s2, s3, s4⟩ := T1 n q a b r hq k4
   refine ⟨.cons x k s, q2, ⟨by omega, k1, s1⟩, by simp [Fo, s2], ?_, s4⟩
   rw [k3, s3]
   simp [B4]
theorem behP_ok {l : List Ae} {c : Nat} {r : List Ae} (h : L8 l c = some r) : ∃ f, U2 f ∧ Fo f = c ∧ l = B4 f ++ r := by
 obtain ⟨f, q, h1, h2, h3, h4⟩ := T1 l.length l c 0 r (Nat.le_refl _) h
 rw [M7] at h4
 injection h4 with h4
 subst h4
 exact ⟨f, h1, h2, h3⟩
theorem W6 : ∀ f : PF, Fo f ≤ (B4 f).length
 | .nil => Nat.le_refl _
 | .cons x k s => by
  have := W6 s
  simp only [Fo, B4, List.length_cons, List.length_append]
  omega
def sndN (nm : ByteArray → Bool) (x : Ae) : Bool := (if x.lit = true then !decide (x.name = noB) && decide (x.kids = 0) else (decide (x.name = noB) || nm x.name)) && (decide (x.field = noB) || nm x.field) && (decide (x.capture = noB) || nm x.capture)
theorem Rr {nm : ByteArray → Bool} : ∀ (g : PF), U2 g → L7 nm g = (B4 g).all (sndN nm)
 | .nil, _ => rfl
 | .cons x k s, hf => by
  obtain ⟨f1, f2, f3⟩ := hf
  have e : decide (Fo k = 0) = decide (x.kids = 0) := by rw [f1]; exact decide_eq_decide.2 (by omega)
  unfold L7
  rw [Rr k f2, Rr s f3, e]
  simp only [B4, List.all_cons, List.all_append]
  unfold sndN
  simp only [Bool.and_assoc]
def Hv (v : List Ae) : List ByteArray := (v.map (·.capture)).filter fun c => !decide (c = noB)
theorem Rn (a b : List Ae) : Hv (a ++ b) = Hv a ++ Hv b := by unfold Hv; rw [List.map_append, List.filter_append]
theorem Wp (x : Ae) (v : List Ae) : Hv (x :: v) = Ph x.capture (Hv v) := by
 unfold Hv Ph
 rw [List.map_cons, List.filter_cons]
 by_cases h : x.capture = noB
 ·rw [if_pos h, if_neg (by simp [h])]
 ·rw [if_neg h, if_pos (by simp [h])]
theorem Nn : ∀ (g : PF) (l : List ByteArray), (F8 g l).Perm (Hv (B4 g) ++ l)
 | .nil, l => List.Perm.refl _
 | .cons x k s, l => by
  have h1 := Nn k l
  have h2 := Nn s (Ph x.capture (F8 k l))
  show (F8 s (Ph x.capture (F8 k l))).Perm _
  refine h2.trans ?_
  have h4 : (Hv (B4 s) ++ F8 k l).Perm (Hv (B4 k) ++ Hv (B4 s) ++ l) := (List.Perm.append_left _ h1).trans (by
   rw [← List.append_assoc]
   exact List.Perm.append_right _ List.perm_append_comm)
  simp only [B4]
  rw [Wp, Rn]
  unfold Ph
  by_cases h : x.capture = noB
  ·rw [if_pos h, if_pos h]
   exact h4
  ·rw [if_neg h, if_neg h]
   have h3 : (Hv (B4 s) ++ x.capture :: F8 k l).Perm (x.capture :: (Hv (B4 s) ++ F8 k l)) := List.perm_middle
   exact h3.trans (List.Perm.cons _ h4)
theorem Ro (g : PF) {y : ByteArray} : y ∈ F8 g [] ↔ y ∈ Hv (B4 g) := by
 have := (Nn g []).mem_iff (a := y)
 rwa [List.append_nil] at this
theorem Vq (g : PF) : (F8 g []).Nodup ↔ (Hv (B4 g)).Nodup := by
 have := (Nn g []).nodup_iff
 rwa [List.append_nil] at this
def Yw (nm : ByteArray → Bool) (v : List Ae) (l : List Ax) : Prop :=
 v.length ≤ 32 ∧ l.length ≤ 16 ∧ L8 v 1 = some [] ∧ (∀ x ∈ v, sndN nm x = true) ∧ (Hv v).Nodup ∧ ∀ c ∈ l, Yc (Hv v) c
theorem Vl {nm : ByteArray → Bool} {v : List Ae} {l : List Ax} : Yw nm v l ↔ ∃ x k, v = B4 (.cons x k .nil) ∧ Kk nm x k l := by
 constructor
 ·rintro ⟨h1, h2, h3, h4, h5, h6⟩
  obtain ⟨f, f1, f2, f3⟩ := behP_ok h3
  rw [List.append_nil] at f3
  obtain ⟨x, k, rfl⟩ : ∃ x k, f = .cons x k .nil := by
   cases f with
   | nil => simp [Fo] at f2
   | cons x k s =>
    simp only [Fo] at f2
    obtain rfl := Xap (show Fo s = 0 by omega)
    exact ⟨x, k, rfl⟩
  subst f3
  refine ⟨x, k, rfl, f1, ?_, (Vq _).2 h5, h1, h2, fun c hc => ?_⟩
  ·rw [Rr _ f1, List.all_eq_true]
   exact h4
  ·obtain ⟨g1, g2⟩ := h6 c hc
   exact ⟨(Ro _).2 g1, g2.imp id fun g => ⟨(Ro _).2 g.1, g.2⟩⟩
 ·rintro ⟨x, k, rfl, h1, h2, h3, h4, h5, h6⟩
  refine ⟨h4, h5, ?_, ?_, (Vq _).1 h3, fun c hc => ?_⟩
  ·have := Vc (.cons x k .nil) [] 0 h1
   rw [List.append_nil, Nat.add_zero, M7] at this
   exact this
  ·rw [Rr _ h1, List.all_eq_true] at h2
   exact h2
  ·obtain ⟨g1, g2⟩ := h6 c hc
   exact ⟨(Ro _).1 g1, g2.imp id fun g => ⟨(Ro _).1 g.1, g.2⟩⟩
end Go.Proofs.YtjookebbmfiidaaDoor.L
set_option linter.unusedVariables false
namespace Go.Proofs.YtjookebbmfiidaaDoor.L
open Go.Proofs.YtjookebbmfiidaaDoor.R
def ErrQ (e : Int) : Prop := e = 200 ∨ e = 201 ∨ e = 202
theorem Xak {x : Ae} {k : PF} {seen : List ByteArray} {t r : List Tk} {e : Int} (h : M3 x k seen t = .no e r) : ErrQ e := by
 unfold M3 at h
 split at h
 ·split at h
  ·split at h
   ·injection h with h _; exact .inr (.inl h.symm)
   ·cases h
  ·injection h with h _; exact .inl h.symm
 ·cases h
theorem Xch : ∀ (f : Nat), (∀ m seen t e r, 2 * t.length + 1 ≤ f → Qe f m seen t = .no e r → ErrQ e) ∧ (∀ m seen t e r, 2 * t.length + 2 ≤ f → Ja f m seen t = .no e r → ErrQ e)
 | 0 => ⟨fun m seen t e r hf => by omega, fun m seen t e r hf => by omega⟩
 | f + 1 => by
  obtain ⟨i1, i2⟩ := Xch f
  refine ⟨fun m seen t e r hf h => ?_, fun m seen t e r hf h => ?_⟩
  ·rw [Ju] at h
   have ha := Ti t
   by_cases c1 : Jd t = true
   ·rw [if_pos c1] at h
    by_cases c2 : m ≥ 32
    ·rw [if_pos c2] at h
     injection h with h _; exact .inr (.inr h.symm)
    rw [if_neg c2] at h
    by_cases c3 : Qn (Gk t) = true
    ·rw [if_pos c3] at h
     exact Xak h
    rw [if_neg c3] at h
    by_cases c4 : isT 5 opB (Gk t) = true
    ·rw [if_pos c4] at h
     obtain ⟨r2, e2⟩ := Lq c4
     have h4 := Qj r2
     rw [e2] at h ha
     simp only [List.length_cons] at ha
     rw [List.tail_cons] at h
     by_cases c5 : nmT r2 = true
     ·rw [if_pos c5] at h
      cases e3 : Ja f (m + 1) seen r2.tail with
      | no ee q =>
       rw [e3] at h
       injection h with h _
       rw [← h]
       exact i2 _ _ _ _ _ (by omega) e3
      | ok p q =>
       rw [e3] at h
       exact Xak h
     ·rw [if_neg c5] at h
      injection h with h _; exact .inl h.symm
    ·rw [if_neg c4] at h
     injection h with h _; exact .inl h.symm
   ·rw [if_neg c1] at h
    injection h with h _; exact .inl h.symm
  ·rw [Iu] at h
   by_cases c1 : isT 5 clB t = true
   ·rw [if_pos c1] at h; cases h
   rw [if_neg c1] at h
   have h1 := (X7 f).1 m seen t
   cases e1 : Qe f m seen t with
   | no ee q =>
    rw [e1] at h
    injection h with h _
    rw [← h]
    exact i1 _ _ _ _ _ (by omega) e1
   | ok p q =>
    obtain ⟨x, k, seen'⟩ := p
    rw [e1] at h h1
    have h1' : q.length < t.length := h1
    dsimp only at h
    cases e2 : Ja f (m + 1 + (B4 k).length) seen' q with
    | no ee u =>
     rw [e2] at h
     injection h with h _
     rw [← h]
     exact i2 _ _ _ _ _ (by omega) e2
    | ok p u => rw [e2] at h; cases h
theorem Qc {caps : List ByteArray} {t r : List Tk} {e : Int} (h : Ea caps t = .no e r) : ErrQ e := by
 unfold Ea at h
 split at h
 ·split at h
  ·split at h
   ·cases h
   ·injection h with h _; exact .inr (.inl h.symm)
  ·injection h with h _; exact .inl h.symm
 ·injection h with h _; exact .inl h.symm
theorem Vk {caps : List ByteArray} {t r : List Tk} {a : ByteArray} (h : Ea caps t = .ok a r) : r.length + 2 = t.length := by
 rw [(Xu h).1]
 rfl
theorem Xdp {n : Nat} {caps : List ByteArray} {t r : List Tk} {e : Int} (h : Nv n caps t = .no e r) : ErrQ e := by
 unfold Nv at h
 by_cases c1 : kwT t = true
 ·rw [if_pos c1] at h
  by_cases c2 : n ≥ 16
  ·rw [if_pos c2] at h
   injection h with h _; exact .inr (.inr h.symm)
  rw [if_neg c2] at h
  cases e1 : Ea caps t.tail with
  | no ee q =>
   rw [e1] at h
   injection h with h _
   rw [← h]
   exact Qc e1
  | ok a q =>
   rw [e1] at h
   dsimp only at h
   by_cases c3 : isT 5 eqB q = true
   ·rw [if_pos c3] at h
    unfold Uj at h
    by_cases c4 : isS q.tail = true
    ·rw [if_pos c4] at h; cases h
    rw [if_neg c4] at h
    cases e2 : Ea caps q.tail with
    | no ee u =>
     rw [e2] at h
     injection h with h _
     rw [← h]
     exact Qc e2
    | ok b u => rw [e2] at h; cases h
   ·rw [if_neg c3] at h
    injection h with h _; exact .inl h.symm
 ·rw [if_neg c1] at h
  injection h with h _; exact .inl h.symm
theorem condT_sh {n : Nat} {caps : List ByteArray} {t r : List Tk} {c : Ax} (h : Nv n caps t = .ok c r) : r.length < t.length := by
 unfold Nv at h
 have h0 := Qj t
 by_cases c1 : kwT t = true
 ·rw [if_pos c1] at h
  by_cases c2 : n ≥ 16
  ·rw [if_pos c2] at h; cases h
  rw [if_neg c2] at h
  cases e1 : Ea caps t.tail with
  | no ee q => rw [e1] at h; cases h
  | ok a q =>
   have s1 := Vk e1
   have s2 := Qj q
   have s3 := Qj q.tail
   rw [e1] at h
   dsimp only at h
   by_cases c3 : isT 5 eqB q = true
   ·rw [if_pos c3] at h
    unfold Uj at h
    by_cases c4 : isS q.tail = true
    ·rw [if_pos c4] at h
     injection h with _ h
     rw [← h]
     omega
    rw [if_neg c4] at h
    cases e2 : Ea caps q.tail with
    | no ee u => rw [e2] at h; cases h
    | ok b u =>
     have s4 := Vk e2
     rw [e2] at h
     injection h with _ h
     rw [← h]
     omega
   ·rw [if_neg c3] at h; cases h
 ·rw [if_neg c1] at h; cases h
end Go.Proofs.YtjookebbmfiidaaDoor.L
set_option linter.unusedVariables false
namespace Go.Proofs.YtjookebbmfiidaaDoor.L
open Go.Proofs.YtjookebbmfiidaaDoor.B Go.Proofs.YtjookebbmfiidaaDoor.R
def Sp (W : List Af) : List Tk := W.map fun w => (w.kind, w.text)
theorem Wr (W : List Af) : (Sp W).length = W.length := List.length_map _
def Rst (W : List Af) (t : List Tk) : Prop := t <:+ Sp W
def psn (W : List Af) (t : List Tk) : Nat := W.length - t.length
theorem Rst.le {W : List Af} {t : List Tk} (h : Rst W t) : t.length ≤ W.length := by
 have := List.IsSuffix.length_le h
 rwa [Wr] at this
theorem Rst.sub {W : List Af} {t q : List Tk} (h : Rst W t) (hq : q <:+ t) : Rst W q := List.IsSuffix.trans hq h
theorem Rst.tl {W : List Af} {t : List Tk} (h : Rst W t) : Rst W t.tail := h.sub (List.tail_suffix t)
theorem psn_all (W : List Af) : psn W (Sp W) = 0 := by unfold psn; rw [Wr]; omega
theorem Rst.drop {W : List Af} {t : List Tk} (h : Rst W t) : Sp (W.drop (psn W t)) = t := by
 obtain ⟨p, hp⟩ := h
 have hl : p.length = psn W t := by
  have := congrArg List.length hp
  rw [List.length_append, Wr] at this
  unfold psn
  omega
 unfold Sp at hp ⊢
 rw [List.map_drop, ← hp, ← hl, List.drop_left]
theorem Rst.hd {W : List Af} {k : Int} {x : ByteArray} {t : List Tk} (h : Rst W ((k, x) :: t)) : psn W ((k, x) :: t) < W.length ∧ (ix W (psn W ((k, x) :: t) : Int)).kind = k ∧ (ix W (psn W ((k, x) :: t) : Int)).text = x ∧ psn W t = psn W ((k, x) :: t) + 1 := by
 have hd := h.drop
 have hl := h.le
 generalize hn : psn W ((k, x) :: t) = n at hd ⊢
 have hlt : n < W.length := by
  unfold psn at hn
  simp only [List.length_cons] at hn hl
  omega
 have hx : W[((n : Nat) : Int).toNat]? = some (ix W ((n : Nat) : Int)) := Pa ⟨Int.natCast_nonneg n, by omega⟩
 rw [Int.toNat_natCast] at hx
 have hx2 : W.drop n = ix W (n : Int) :: W.drop (n + 1) := by
  have hg : W[n] = ix W (n : Int) := by
   rw [List.getElem?_eq_getElem hlt] at hx
   exact Option.some.inj hx
  rw [List.drop_eq_getElem_cons hlt, hg]
 rw [hx2] at hd
 unfold Sp at hd
 rw [List.map_cons] at hd
 injection hd with h1 h2
 injection h1 with h3 h4
 refine ⟨hlt, h3, h4, ?_⟩
 unfold psn at hn ⊢
 simp only [List.length_cons] at hn hl
 omega
theorem P4 (W : List Af) : psn W [] = W.length := by unfold psn; simp
def plW (W : List Af) (L : Int) (t : List Tk) : Int := if psn W t < W.length then (ix W (psn W t : Int)).at_ else L
theorem isT_cons (k k' : Int) (x x' : ByteArray) (t : List Tk) : isT k x ((k', x') :: t) = (decide (k' = k) && decide (x' = x)) := rfl
theorem Yh (k' : Int) (x' : ByteArray) (t : List Tk) : Oe ((k', x') :: t) = (decide (k' = 1) && !decide (x' = Ji)) := rfl
theorem Y1 (k' : Int) (x' : ByteArray) (t : List Tk) : Qn ((k', x') :: t) = (decide (k' = 2) && !decide (x' = noB)) := rfl
def SufP {α : Type} (t : List Tk) : PQ α → Prop
 | .ok _ q => q <:+ t
 | .no _ q => q <:+ t
theorem suf2 (t : List Tk) : t.tail.tail <:+ t := List.IsSuffix.trans (List.tail_suffix _) (List.tail_suffix _)
theorem Xb2 (t : List Tk) : Gk t <:+ t := by
 unfold Gk
 split
 ·exact suf2 t
 ·exact List.suffix_refl t
theorem Xag {x : Ae} {k : PF} {seen : List ByteArray} {t s : List Tk} (h : t <:+ s) : SufP s (M3 x k seen t) := by
 unfold M3
 split
 ·split
  ·split
   ·exact List.IsSuffix.trans (List.tail_suffix t) h
   ·exact List.IsSuffix.trans (suf2 t) h
  ·exact List.IsSuffix.trans (List.tail_suffix t) h
 ·exact h
theorem Z2 : ∀ (f : Nat), (∀ m seen t, SufP t (Qe f m seen t)) ∧ (∀ m seen t, SufP t (Ja f m seen t))
 | 0 => ⟨fun m seen t => List.suffix_refl t, fun m seen t => List.suffix_refl t⟩
 | f + 1 => by
  obtain ⟨i1, i2⟩ := Z2 f
  refine ⟨fun m seen t => ?_, fun m seen t => ?_⟩
  ·rw [Ju]
   have ha := Xb2 t
   split
   ·split
    ·exact List.suffix_refl t
    split
    ·exact Xag (List.IsSuffix.trans (List.tail_suffix _) ha)
    split
    ·split
     ·have h1 := i2 (m + 1) seen (Gk t).tail.tail
      cases e : Ja f (m + 1) seen (Gk t).tail.tail with
      | no ee q =>
       rw [e] at h1
       exact List.IsSuffix.trans h1 (List.IsSuffix.trans (suf2 _) ha)
      | ok p q =>
       rw [e] at h1
       exact Xag (List.IsSuffix.trans h1 (List.IsSuffix.trans (suf2 _) ha))
     ·exact List.IsSuffix.trans (List.tail_suffix _) ha
    ·exact ha
   ·exact List.suffix_refl t
  ·rw [Iu]
   split
   ·exact List.tail_suffix t
   ·have h1 := i1 m seen t
    cases e : Qe f m seen t with
    | no ee q => rw [e] at h1; exact h1
    | ok p q =>
     obtain ⟨x, k, seen'⟩ := p
     rw [e] at h1
     have h1' : q <:+ t := h1
     dsimp only
     have h2 := i2 (m + 1 + (B4 k).length) seen' q
     cases e2 : Ja f (m + 1 + (B4 k).length) seen' q with
     | no ee u => rw [e2] at h2; exact List.IsSuffix.trans h2 h1'
     | ok p u => rw [e2] at h2; exact List.IsSuffix.trans h2 h1'
theorem Xaa (m : Nat) (seen : List ByteArray) (t : List Tk) : SufP t (S6 m seen t) := (Z2 _).1 m seen t
theorem Xde (m : Nat) (seen : List ByteArray) (t : List Tk) : SufP t (R9 m seen t) := (Z2 _).2 m seen t
theorem patN_sh (m : Nat) (seen : List ByteArray) (t : List Tk) : ShP t.length (S6 m seen t) := (X7 _).1 m seen t
theorem Ym {x x' : Ae} {k k' : PF} {seen seen' : List ByteArray} {t q : List Tk} (hx : x.capture = noB) (h : M3 x k seen t = .ok (x', k', seen') q) : k' = k ∧ seen' = Ph x'.capture seen := by
 unfold M3 at h
 split at h
 ·split at h
  ·split at h
   ·cases h
   ·injection h with h _
    injection h with h1 h2
    injection h2 with h2 h3
    subst h1 h2 h3
    exact ⟨rfl, rfl⟩
  ·cases h
 ·injection h with h _
  injection h with h1 h2
  injection h2 with h2 h3
  subst h1 h2 h3
  refine ⟨rfl, ?_⟩
  unfold Ph
  rw [if_pos hx]
theorem Ws : ∀ (f : Nat), (∀ m seen t x k seen' q, Qe f m seen t = .ok (x, k, seen') q → seen' = F8 (.cons x k .nil) seen) ∧ (∀ m seen t g seen' q, Ja f m seen t = .ok (g, seen') q → seen' = F8 g seen)
 | 0 => ⟨fun m seen t x k seen' q h => (by cases h), fun m seen t g seen' q h => (by cases h)⟩
 | f + 1 => by
  obtain ⟨i1, i2⟩ := Ws f
  refine ⟨fun m seen t x k seen' q h => ?_, fun m seen t g seen' q h => ?_⟩
  ·rw [Ju] at h
   split at h
   ·split at h
    ·cases h
    split at h
    ·obtain ⟨rfl, e⟩ := Ym rfl h
     exact e
    split at h
    ·split at h
     ·cases e : Ja f (m + 1) seen (Gk t).tail.tail with
      | no ee r => rw [e] at h; cases h
      | ok p r =>
       obtain ⟨k0, s0⟩ := p
       rw [e] at h
       obtain ⟨rfl, e2⟩ := Ym rfl h
       rw [e2, i2 _ _ _ _ _ _ e]
       rfl
     ·cases h
    ·cases h
   ·cases h
  ·rw [Iu] at h
   split at h
   ·injection h with h _
    injection h with h1 h2
    subst h1 h2
    rfl
   ·cases e : Qe f m seen t with
    | no ee r => rw [e] at h; cases h
    | ok p r =>
     obtain ⟨x, k, s0⟩ := p
     rw [e] at h
     dsimp only at h
     cases e2 : Ja f (m + 1 + (B4 k).length) s0 r with
     | no ee u => rw [e2] at h; cases h
     | ok p u =>
      obtain ⟨s, s2⟩ := p
      rw [e2] at h
      injection h with h _
      injection h with h1 h2
      subst h1 h2
      rw [i2 _ _ _ _ _ _ e2, i1 _ _ _ _ _ _ _ e]
      rfl
theorem Ud {x x' : Ae} {k k' : PF} {seen seen' : List ByteArray} {t q : List Tk} (h : M3 x k seen t = .ok (x', k', seen') q) : k' = k := by
 unfold M3 at h
 split at h
 ·split at h
  ·split at h
   ·cases h
   ·injection h with h _
    injection h with _ h
    injection h with h _
    exact h.symm
  ·cases h
 ·injection h with h _
  injection h with _ h
  injection h with h _
  exact h.symm
theorem Zx : ∀ (f : Nat), (∀ m seen t x k seen' q, Qe f m seen t = .ok (x, k, seen') q → m + 1 + (B4 k).length ≤ 32) ∧ (∀ m seen t g seen' q, m ≤ 32 → Ja f m seen t = .ok (g, seen') q → m + (B4 g).length ≤ 32)
 | 0 => ⟨fun m seen t x k seen' q h => (by cases h), fun m seen t g seen' q _ h => (by cases h)⟩
 | f + 1 => by
  obtain ⟨i1, i2⟩ := Zx f
  refine ⟨fun m seen t x k seen' q h => ?_, fun m seen t g seen' q hm h => ?_⟩
  ·rw [Ju] at h
   split at h
   ·split at h
    ·cases h
    split at h
    ·rw [Ud h]
     simp only [B4, List.length_nil]
     omega
    split at h
    ·split at h
     ·cases e : Ja f (m + 1) seen (Gk t).tail.tail with
      | no ee r => rw [e] at h; cases h
      | ok p r =>
       obtain ⟨k0, s0⟩ := p
       rw [e] at h
       rw [Ud h]
       exact i2 _ _ _ _ _ _ (by omega) e
     ·cases h
    ·cases h
   ·cases h
  ·rw [Iu] at h
   split at h
   ·injection h with h _
    injection h with h1 h2
    subst h1
    simp only [B4, List.length_nil]
    omega
   ·cases e : Qe f m seen t with
    | no ee r => rw [e] at h; cases h
    | ok p r =>
     obtain ⟨x, k, s0⟩ := p
     rw [e] at h
     dsimp only at h
     have h1 := i1 _ _ _ _ _ _ _ e
     cases e2 : Ja f (m + 1 + (B4 k).length) s0 r with
     | no ee u => rw [e2] at h; cases h
     | ok p u =>
      obtain ⟨s, s2⟩ := p
      rw [e2] at h
      injection h with h _
      injection h with h1' h2
      subst h1'
      have := i2 _ _ _ _ _ _ h1 e2
      simp only [B4, List.length_cons, List.length_append]
      omega
theorem Xaj {m : Nat} {seen seen' : List ByteArray} {t q : List Tk} {x : Ae} {k : PF} (h : S6 m seen t = .ok (x, k, seen') q) : m + 1 + (B4 k).length ≤ 32 := (Zx _).1 _ _ _ _ _ _ _ h
theorem Yf {m : Nat} {seen seen' : List ByteArray} {t q : List Tk} {x : Ae} {k : PF} (h : S6 m seen t = .ok (x, k, seen') q) : seen' = F8 (.cons x k .nil) seen := (Ws _).1 _ _ _ _ _ _ _ h
theorem Xc6 {m : Nat} {seen seen' : List ByteArray} {t q : List Tk} {g : PF} (h : R9 m seen t = .ok (g, seen') q) : seen' = F8 g seen := (Ws _).2 _ _ _ _ _ _ h
theorem Xad {m : Nat} {seen : List ByteArray} {t q : List Tk} {e : Int} (h : S6 m seen t = .no e q) : e ≠ 0 := by
 rcases (Xch _).1 _ _ _ _ _ (Nat.le_refl _) h with h | h | h <;> omega
def Fe (o : List Ae) (seen : List ByteArray) : Prop := ∀ c, c ∈ seen ↔ c ∈ Hv o
theorem Fe.app {o : List Ae} {seen : List ByteArray} (h : Fe o seen) (g : PF) : Fe (o ++ B4 g) (F8 g seen) := fun c => by
 rw [(Nn g seen).mem_iff, Rn, List.mem_append, List.mem_append, h c, Or.comm]
theorem Xc1 {x : Ae} (h : x.capture = noB) (v : List Ae) : Hv (x :: v) = Hv v := by
 rw [Wp]
 unfold Ph
 rw [if_pos h]
theorem Fe.mid {o v : List Ae} {seen : List ByteArray} {x : Ae} (h : x.capture = noB) : Fe (o ++ x :: v) seen ↔ Fe (o ++ v) seen := by
 unfold Fe
 rw [Rn, Rn, Xc1 h]
theorem Xdi {c : ByteArray} {v : List Ae} : c ∈ Hv v ↔ c ≠ noB ∧ ∃ x ∈ v, x.capture = c := by
 unfold Hv
 rw [List.mem_filter, List.mem_map]
 simp only [Bool.not_eq_true', decide_eq_false_iff_not]
 exact And.comm
theorem inC_seen {o : List Ae} {seen : List ByteArray} (h : Fe o seen) (c : ByteArray) : inC c seen = true ↔ (c ≠ noB ∧ ∃ x ∈ o, x.capture = c) := by
 rw [Rk, h c, Xdi]
def K7 (c : ByteArray) (v : List Ae) : Option Nat := v.findIdx? fun x => decide (x.capture = c)
theorem Xa6 {c : ByteArray} {v : List Ae} : (K7 c v).isSome = true ↔ ∃ x ∈ v, x.capture = c := by
 unfold K7
 rw [List.findIdx?_isSome, List.any_eq_true]
 simp only [decide_eq_true_eq]
def J8 (c : ByteArray) (v : List Ae) : Int := if c = noB then -1 else match K7 c v with
 | none => -1
 | some i => (i : Int)
theorem R8 {o : List Ae} {seen : List ByteArray} (h : Fe o seen) (c : ByteArray) : J8 c o ≥ 0 ↔ inC c seen = true := by
 rw [inC_seen h, ← Xa6]
 unfold J8
 by_cases g : c = noB
 ·rw [if_pos g]
  exact ⟨fun h => absurd h (by decide), fun h => absurd g h.1⟩
 ·rw [if_neg g]
  cases e : K7 c o with
  | none => exact ⟨fun h => absurd h (by decide), fun h => absurd h.2 (by simp)⟩
  | some i => exact ⟨fun h => ⟨g, rfl⟩, fun h => Int.natCast_nonneg i⟩
theorem Xcp {α : Type} (a v : List α) (x y : α) : (a ++ x :: v).set a.length y = a ++ y :: v := by
 rw [List.set_append_right _ _ (Nat.le_refl _), Nat.sub_self]
 rfl
end Go.Proofs.YtjookebbmfiidaaDoor.L
