/- JSON: characters, well formed texts, nodes that are sound by themselves. Condition: sizes. -/
import Derived.Test.YtmfopcbjgbphaaaDoorQ1
import Derived.Test.YtmfopcbjgbphaaaDoorQ2
import Derived.Lib.ValidLaws
set_option linter.unusedVariables false
namespace Go.Proofs.YtmfopcbjgbphaaaDoor.L
open Go.Proofs.YtmfopcbjgbphaaaDoor.B Go.Proofs.YtmfopcbjgbphaaaDoor.R
def rng (b : Int) : Option (List (Int × Int)) :=
 if b < 128 then some []
 else if b < 194 ∨ b > 244 then none
 else if b < 224 then some [(128, 191)]
 else if b = 224 then some [(160, 191), (128, 191)]
 else if b = 237 then some [(128, 159), (128, 191)]
 else if b < 240 then some [(128, 191), (128, 191)]
 else if b = 240 then some [(144, 191), (128, 191), (128, 191)]
 else if b = 244 then some [(128, 143), (128, 191), (128, 191)]
 else some [(128, 191), (128, 191), (128, 191)]
def tailL : List (Int × Int) → List Int → Bool × List Int
 | [], t => (true, t)
 | _ :: _, [] => (false, [])
 | p :: l, y :: t => if y < p.1 ∨ y > p.2 then (false, y :: t) else tailL l t
def charL : List Int → Bool × List Int
 | [] => (false, [])
 | x :: t => match rng x with
  | none => (false, x :: t)
  | some l => tailL l t
def plc (s : ByteArray) (t : List Int) : Nat := s.size - t.length
theorem plc_drop {s : ByteArray} {a : Nat} (h : a ≤ s.size) : plc s ((bsOf s).drop a) = a := by
 unfold plc
 rw [List.length_drop, bsOf_len]
 omega
def Rest (s : ByteArray) (t : List Int) : Prop := t.length ≤ s.size ∧ t = (bsOf s).drop (plc s t)
theorem Rest.drop {s : ByteArray} {a : Nat} (h : a ≤ s.size) : Rest s ((bsOf s).drop a) := by
 refine ⟨by rw [List.length_drop, bsOf_len]; omega, ?_⟩
 rw [plc_drop h]
theorem Rest.tl {s : ByteArray} {x : Int} {t : List Int} (h : Rest s (x :: t)) : Rest s t ∧ plc s t = plc s (x :: t) + 1 := by
 obtain ⟨h1, h2⟩ := h
 simp only [List.length_cons] at h1
 have e : plc s t = plc s (x :: t) + 1 := by unfold plc; simp only [List.length_cons]; omega
 refine ⟨⟨by omega, ?_⟩, e⟩
 rw [e, ← List.drop_drop, ← h2]
 rfl
theorem Rest.bt {s : ByteArray} {x : Int} {t : List Int} (h : Rest s (x :: t)) : bt s (plc s (x :: t) : Int) = x ∧ plc s (x :: t) < s.size := by
 obtain ⟨h1, h2⟩ := h
 have hl : plc s (x :: t) < s.size := by unfold plc; simp only [List.length_cons] at h1 ⊢; omega
 refine ⟨?_, hl⟩
 have := bsOf_cons hl
 rw [← h2] at this
 injection this with h3 _
 exact h3.symm
theorem Rest.nil {s : ByteArray} : plc s [] = s.size := by unfold plc; simp
theorem Rest.none {s : ByteArray} : Rest s [] := ⟨Nat.zero_le _, by rw [Rest.nil, List.drop_eq_nil_of_le (by rw [bsOf_len]; exact Nat.le_refl _)]⟩
theorem Rest.whole {s : ByteArray} : Rest s (bsOf s) ∧ plc s (bsOf s) = 0 := ⟨⟨by rw [bsOf_len]; exact Nat.le_refl _, by unfold plc; rw [bsOf_len, Nat.sub_self]; rfl⟩, by unfold plc; rw [bsOf_len]; omega⟩
theorem tailL_len : ∀ (l : List (Int × Int)) (t : List Int), (tailL l t).2.length ≤ t.length ∧ ((tailL l t).1 = true → (tailL l t).2.length + l.length = t.length)
 | [], t => ⟨Nat.le_refl _, fun _ => rfl⟩
 | _ :: _, [] => ⟨Nat.le_refl _, fun h => by cases h⟩
 | p :: l, y :: t => by
  unfold tailL
  by_cases h : y < p.1 ∨ y > p.2
  ·rw [if_pos h]; exact ⟨Nat.le_refl _, fun h => by cases h⟩
  ·rw [if_neg h]
   obtain ⟨i1, i2⟩ := tailL_len l t
   simp only [List.length_cons]
   exact ⟨by omega, fun h => by have := i2 h; omega⟩
theorem tailL_rest {s : ByteArray} : ∀ (l : List (Int × Int)) (t : List Int), Rest s t → Rest s (tailL l t).2
 | [], t, h => h
 | _ :: _, [], h => h
 | p :: l, y :: t, h => by
  unfold tailL
  by_cases g : y < p.1 ∨ y > p.2
  ·rw [if_pos g]; exact h
  ·rw [if_neg g]; exact tailL_rest l t h.tl.1
theorem charL_none {x : Int} {t : List Int} (h : rng x = none) : charL (x :: t) = (false, x :: t) := by simp only [charL, h]
theorem charL_some {x : Int} {t : List Int} {l : List (Int × Int)} (h : rng x = some l) : charL (x :: t) = tailL l t := by simp only [charL, h]
theorem charL_len (t : List Int) : (charL t).2.length ≤ t.length ∧ ((charL t).1 = true → (charL t).2.length < t.length) := by
 cases t with
 | nil => exact ⟨Nat.le_refl _, fun h => by cases h⟩
 | cons x t =>
  cases e : rng x with
  | none => rw [charL_none e]; exact ⟨Nat.le_refl _, fun h => by cases h⟩
  | some l =>
   rw [charL_some e]
   obtain ⟨h1, h2⟩ := tailL_len l t
   simp only [List.length_cons]
   exact ⟨by omega, fun h => by omega⟩
theorem charL_rest {s : ByteArray} {t : List Int} (h : Rest s t) : Rest s (charL t).2 := by
 cases t with
 | nil => exact h
 | cons x t =>
  cases e : rng x with
  | none => rw [charL_none e]; exact h
  | some l => rw [charL_some e]; exact tailL_rest _ _ h.tl.1
def validL : Nat → List Int → Bool
 | 0, _ => true
 | _ + 1, [] => true
 | f + 1, x :: t => match charL (x :: t) with
  | (true, r) => validL f r
  | (false, _) => false
abbrev bI (l : List UInt8) : List Int := l.map fun b => (b.toNat : Int)
theorem tailL_cons (p : Int × Int) (l : List (Int × Int)) (y : UInt8) (t : List UInt8) : (tailL (p :: l) (bI (y :: t))).1 = true ↔ (p.1 ≤ (y.toNat : Int) ∧ (y.toNat : Int) ≤ p.2) ∧ (tailL l (bI t)).1 = true := by
 show (if (y.toNat : Int) < p.1 ∨ (y.toNat : Int) > p.2 then (false, (y.toNat : Int) :: bI t) else tailL l (bI t)).1 = true ↔ _
 by_cases h : (y.toNat : Int) < p.1 ∨ (y.toNat : Int) > p.2
 ·rw [if_pos h]
  exact ⟨fun h => (by cases h), fun g => by omega⟩
 ·rw [if_neg h]
  exact ⟨fun g => ⟨by omega, g⟩, fun g => g.2⟩
theorem tailL_nil (p : Int × Int) (l : List (Int × Int)) : (tailL (p :: l) (bI [])).1 = true ↔ False := ⟨fun h => (by cases h), False.elim⟩
theorem tailL_end (t : List UInt8) : (tailL [] (bI t)).1 = true ↔ True := ⟨fun _ => trivial, fun _ => rfl⟩
theorem check_1 (n b1 b2 b3 lo hi : Nat) : Lib.checkN n b1 b2 b3 2 lo hi = if n < 2 ∨ b1 < lo ∨ hi < b1 then none else some 2 := rfl
theorem check_2 (n b1 b2 b3 lo hi : Nat) : Lib.checkN n b1 b2 b3 3 lo hi = if n < 3 ∨ b1 < lo ∨ hi < b1 ∨ b2 < 128 ∨ 191 < b2 then none else some 3 := rfl
theorem check_3 (n b1 b2 b3 lo hi : Nat) : Lib.checkN n b1 b2 b3 4 lo hi = if n < 4 ∨ b1 < lo ∨ hi < b1 ∨ b2 < 128 ∨ 191 < b2 ∨ b3 < 128 ∨ 191 < b3 then none else some 4 := rfl
theorem ifs {α : Type} {p q : Prop} [Decidable p] [Decidable q] {x y : α} (h : q ↔ ¬ p) : (if p then x else y) = if q then y else x := by
 by_cases g : p
 ·rw [if_pos g, if_neg (fun k => h.1 k g)]
 ·rw [if_neg g, if_pos (h.2 g)]
theorem tail_1 (t : List UInt8) (lo hi : Nat) : Lib.checkN (t.length + 1) (t.getD 0 0).toNat (t.getD 1 0).toNat (t.getD 2 0).toNat 2 lo hi = if (tailL [((lo : Int), (hi : Int))] (bI t)).1 = true then some 2 else none := by
 rw [check_1]
 refine ifs ?_
 rcases t with _ | ⟨y, t⟩
 ·rw [tailL_nil, List.length_nil]; exact ⟨False.elim, fun h => h (Or.inl (by omega))⟩
 ·rw [tailL_cons, tailL_end, List.length_cons, show (y :: t).getD 0 0 = y from rfl]
  exact ⟨fun h g => (by omega), fun h => ⟨by omega, trivial⟩⟩
theorem tail_2 (t : List UInt8) (lo hi : Nat) : Lib.checkN (t.length + 1) (t.getD 0 0).toNat (t.getD 1 0).toNat (t.getD 2 0).toNat 3 lo hi = if (tailL [((lo : Int), (hi : Int)), (128, 191)] (bI t)).1 = true then some 3 else none := by
 rw [check_2]
 refine ifs ?_
 rcases t with _ | ⟨y, _ | ⟨z, t⟩⟩
 ·rw [tailL_nil, List.length_nil]; exact ⟨False.elim, fun h => h (Or.inl (by omega))⟩
 ·rw [tailL_cons, tailL_nil, List.length_cons, List.length_nil]; exact ⟨fun h => h.2.elim, fun h => (h (Or.inl (by omega))).elim⟩
 ·rw [tailL_cons, tailL_cons, tailL_end, List.length_cons, List.length_cons, show (y :: z :: t).getD 0 0 = y from rfl, show (y :: z :: t).getD 1 0 = z from rfl]
  exact ⟨fun h g => (by omega), fun h => ⟨by omega, by omega, trivial⟩⟩
theorem tail_3 (t : List UInt8) (lo hi : Nat) : Lib.checkN (t.length + 1) (t.getD 0 0).toNat (t.getD 1 0).toNat (t.getD 2 0).toNat 4 lo hi = if (tailL [((lo : Int), (hi : Int)), (128, 191), (128, 191)] (bI t)).1 = true then some 4 else none := by
 rw [check_3]
 refine ifs ?_
 rcases t with _ | ⟨y, _ | ⟨z, _ | ⟨u, t⟩⟩⟩
 ·rw [tailL_nil, List.length_nil]; exact ⟨False.elim, fun h => h (Or.inl (by omega))⟩
 ·rw [tailL_cons, tailL_nil, List.length_cons, List.length_nil]; exact ⟨fun h => h.2.elim, fun h => (h (Or.inl (by omega))).elim⟩
 ·rw [tailL_cons, tailL_cons, tailL_nil, List.length_cons, List.length_cons, List.length_nil]; exact ⟨fun h => h.2.2.elim, fun h => (h (Or.inl (by omega))).elim⟩
 ·rw [tailL_cons, tailL_cons, tailL_cons, tailL_end, List.length_cons, List.length_cons, List.length_cons, show (y :: z :: u :: t).getD 0 0 = y from rfl, show (y :: z :: u :: t).getD 1 0 = z from rfl, show (y :: z :: u :: t).getD 2 0 = u from rfl]
  exact ⟨fun h g => (by omega), fun h => ⟨by omega, by omega, by omega, trivial⟩⟩
theorem tailL_drop : ∀ (l : List (Int × Int)) (t : List Int), (tailL l t).1 = true → (tailL l t).2 = t.drop l.length
 | [], t, _ => rfl
 | _ :: _, [], h => by cases h
 | p :: l, y :: t, h => by
  unfold tailL at h ⊢
  by_cases g : y < p.1 ∨ y > p.2
  ·rw [if_pos g] at h; cases h
  ·rw [if_neg g] at h ⊢
   rw [tailL_drop l t h]; rfl
open Lib in
theorem check_rng (b : UInt8) (t : List UInt8) (h0 : 128 ≤ b.toNat) :
  checkN (t.length + 1) (t.getD 0 0).toNat (t.getD 1 0).toNat (t.getD 2 0).toNat (firstT b.toNat % 8) (accLo (firstT b.toNat / 16)) (accHi (firstT b.toNat / 16)) = match rng (b.toNat : Int) with
   | none => none
   | some l => if (tailL l (bI t)).1 = true then some (l.length + 1) else none := by
 have hlt := b.toNat_lt
 generalize b.toNat = n at h0 hlt
 have red : ∀ (sz lo hi : Nat) (l : List (Int × Int)), firstT n % 8 = sz → accLo (firstT n / 16) = lo → accHi (firstT n / 16) = hi → rng (n : Int) = some l → checkN (t.length + 1) (t.getD 0 0).toNat (t.getD 1 0).toNat (t.getD 2 0).toNat sz lo hi = (if (tailL l (bI t)).1 = true then some (l.length + 1) else none) → checkN (t.length + 1) (t.getD 0 0).toNat (t.getD 1 0).toNat (t.getD 2 0).toNat (firstT n % 8) (accLo (firstT n / 16)) (accHi (firstT n / 16)) = match rng (n : Int) with
   | none => none
   | some l => if (tailL l (bI t)).1 = true then some (l.length + 1) else none := by
  intro sz lo hi l e1 e2 e3 e4 e5
  rw [e1, e2, e3, e4]
  exact e5
 have n1 : ¬ (n : Int) < 128 := by omega
 by_cases c0 : n < 194
 ·have : rng (n : Int) = none := by unfold rng; rw [if_neg n1, if_pos (by omega)]
  rw [this]
  simp [firstT, checkN, show ¬ n < 128 by omega, c0]
 by_cases c8 : n > 244
 ·have : rng (n : Int) = none := by unfold rng; rw [if_neg n1, if_pos (by omega)]
  rw [this]
  simp [firstT, checkN, show ¬ n < 128 by omega, c0, show ¬ n < 224 by omega, show ¬ n = 224 by omega, show ¬ n < 237 by omega, show ¬ n = 237 by omega, show ¬ n < 240 by omega, show ¬ n = 240 by omega, show ¬ n < 244 by omega, show ¬ n = 244 by omega]
 have n2 : ¬ ((n : Int) < 194 ∨ (n : Int) > 244) := by omega
 by_cases c1 : n < 224
 ·exact red 2 128 191 [(128, 191)] (by simp [firstT, show ¬ n < 128 by omega, c0, c1]) (by simp [firstT, accLo, show ¬ n < 128 by omega, c0, c1]) (by simp [firstT, accHi, show ¬ n < 128 by omega, c0, c1]) (by unfold rng; rw [if_neg n1, if_neg n2, if_pos (by omega)]) (tail_1 t 128 191)
 by_cases c2 : n = 224
 ·subst c2; exact red 3 160 191 [(160, 191), (128, 191)] (by decide) (by decide) (by decide) (by decide) (tail_2 t 160 191)
 have n3 : ¬ (n : Int) < 224 := by omega
 have n4 : ¬ (n : Int) = 224 := by omega
 by_cases c4 : n = 237
 ·subst c4; exact red 3 128 159 [(128, 159), (128, 191)] (by decide) (by decide) (by decide) (by decide) (tail_2 t 128 159)
 have n5 : ¬ (n : Int) = 237 := by omega
 by_cases c3 : n < 237
 ·exact red 3 128 191 [(128, 191), (128, 191)] (by simp [firstT, show ¬ n < 128 by omega, c0, c1, c2, c3]) (by simp [firstT, accLo, show ¬ n < 128 by omega, c0, c1, c2, c3]) (by simp [firstT, accHi, show ¬ n < 128 by omega, c0, c1, c2, c3]) (by unfold rng; rw [if_neg n1, if_neg n2, if_neg n3, if_neg n4, if_neg n5, if_pos (by omega)]) (tail_2 t 128 191)
 by_cases c5 : n < 240
 ·exact red 3 128 191 [(128, 191), (128, 191)] (by simp [firstT, show ¬ n < 128 by omega, c0, c1, c2, c3, c4, c5]) (by simp [firstT, accLo, show ¬ n < 128 by omega, c0, c1, c2, c3, c4, c5]) (by simp [firstT, accHi, show ¬ n < 128 by omega, c0, c1, c2, c3, c4, c5]) (by unfold rng; rw [if_neg n1, if_neg n2, if_neg n3, if_neg n4, if_neg n5, if_pos (by omega)]) (tail_2 t 128 191)
 have n6 : ¬ (n : Int) < 240 := by omega
 by_cases c6 : n = 240
 ·subst c6; exact red 4 144 191 [(144, 191), (128, 191), (128, 191)] (by decide) (by decide) (by decide) (by decide) (tail_3 t 144 191)
 have n7 : ¬ (n : Int) = 240 := by omega
 by_cases c7 : n = 244
 ·subst c7; exact red 4 128 143 [(128, 143), (128, 191), (128, 191)] (by decide) (by decide) (by decide) (by decide) (tail_3 t 128 143)
 have n8 : ¬ (n : Int) = 244 := by omega
 exact red 4 128 191 [(128, 191), (128, 191), (128, 191)] (by simp [firstT, show ¬ n < 128 by omega, c0, c1, c2, c3, c4, c5, c6, show n < 244 by omega]) (by simp [firstT, accLo, show ¬ n < 128 by omega, c0, c1, c2, c3, c4, c5, c6, show n < 244 by omega]) (by simp [firstT, accHi, show ¬ n < 128 by omega, c0, c1, c2, c3, c4, c5, c6, show n < 244 by omega]) (by unfold rng; rw [if_neg n1, if_neg n2, if_neg n3, if_neg n4, if_neg n5, if_neg n6, if_neg n7, if_neg n8]) (tail_3 t 128 191)
theorem validL_cons (f : Nat) (x : Int) (t : List Int) : validL (f + 1) (x :: t) = match charL (x :: t) with | (true, r) => validL f r | (false, _) => false := rfl
theorem validL_D : ∀ (f : Nat) (l : List UInt8), l.length < f → validL f (bI l) = Lib.validD l
 | 0, l, h => absurd h (Nat.not_lt_zero _)
 | f + 1, [], h => rfl
 | f + 1, b :: t, h => by
  simp only [List.length_cons] at h
  by_cases h0 : b.toNat < 128
  ·rw [Lib.validD_cons b t h0, ← validL_D f t (by omega)]
   rw [show bI (b :: t) = (b.toNat : Int) :: bI t from rfl, validL_cons]
   rw [charL_some (l := []) (by unfold rng; rw [if_pos (by omega)])]
   rfl
  ·rw [Lib.validD_lead (b :: t) (by simp) (by simp; omega)]
   have := check_rng b t (by omega)
   simp only [List.length_cons, List.getD_cons_zero, List.getD_cons_succ]
   rw [this]
   rw [show bI (b :: t) = (b.toNat : Int) :: bI t from rfl, validL_cons]
   cases hr : rng (b.toNat : Int) with
   | none => rw [charL_none hr]
   | some l =>
    rw [charL_some hr]
    dsimp only
    have hd := tailL_drop l (bI t)
    cases e : tailL l (bI t) with
    | mk ok q =>
     rw [e] at hd
     cases ok with
     | false => rfl
     | true =>
      have hq : q = bI (t.drop l.length) := by rw [show q = (bI t).drop l.length from hd rfl]; simp [bI]
      show validL f q = Lib.validD ((b :: t).drop (l.length + 1))
      rw [hq, validL_D f _ (by rw [List.length_drop]; omega)]
      rfl
def validB (s : ByteArray) : Bool := validL (s.size + 1) (bsOf s)
theorem validB_D (s : ByteArray) : validB s = Lib.validD s.data.toList := by
 have := validL_D (s.size + 1) s.data.toList (by show s.size < s.size + 1; omega)
 exact this
def numB (s : ByteArray) : Bool := (numF s 0).1 && ((numF s 0).2 : Int) == (s.size : Int)
def sndB (x : JNd) : Bool :=
 validB x.key && validB x.text && !decide (x.kids < 0) && (decide (1 ≤ x.kind) && decide (x.kind ≤ 7)) && (isMany x || decide (x.kids = 0)) && (if x.kind = 4 then numB x.text else decide (x.kind = 5) || decide (x.text = ⟨#[]⟩))
theorem seqd (x y : ByteArray) : seq x y = decide (x = y) := by
 have e : ∀ a : ByteArray, a.toList = a.data.toList := fun a => Go.Lib.toList_data a
 unfold seq
 rw [Bool.eq_iff_iff, beq_iff_eq, decide_eq_true_eq, e, e]
 exact ⟨fun h => ByteArray.ext (Array.toList_inj.1 h), fun h => by rw [h]⟩
end Go.Proofs.YtmfopcbjgbphaaaDoor.L
