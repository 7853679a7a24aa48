/- Queries: lists of nodes that are shaped are forests; captures as lists. No condition. -/
import Derived.Test.YtjookebbmfiidaaDoorS3
set_option linter.unusedVariables false
namespace Go.Proofs.YtjookebbmfiidaaDoor.L
open Go.Proofs.YtjookebbmfiidaaDoor.R
def behP : List api_PatNode → Nat → Option (List api_PatNode)
 | l, 0 => some l
 | [], _ + 1 => none
 | x :: xs, c + 1 => if x.kids < 0 then none else behP xs (c + x.kids.toNat)
theorem behP_zero (l : List api_PatNode) : behP l 0 = some l := by cases l <;> rfl
theorem behP_cons (x : api_PatNode) (xs : List api_PatNode) (c : Nat) : behP (x :: xs) (c + 1) = if x.kids < 0 then none else behP xs (c + x.kids.toNat) := rfl
theorem behP_flat : ∀ (f : PF) (r : List api_PatNode) (c : Nat), FitP f → behP (flatP f ++ r) (cntP f + c) = behP r c
 | .nil, r, c, _ => by simp [flatP, cntP]
 | .cons x k s, r, c, hf => by
  obtain ⟨f1, f2, f3⟩ := hf
  have e : cntP (.cons x k s) + c = cntP s + c + 1 := by simp only [cntP]; omega
  rw [e]
  simp only [flatP, List.cons_append, List.append_assoc]
  rw [behP_cons, if_neg (by omega), f1, Int.toNat_natCast, show cntP s + c + cntP k = cntP k + (cntP s + c) by omega, behP_flat k _ _ f2, behP_flat s _ _ f3]
theorem behP_split : ∀ (n : Nat) (l : List api_PatNode) (a b : Nat) (r : List api_PatNode), l.length ≤ n → behP l (a + b) = some r → ∃ f q, FitP f ∧ cntP f = a ∧ l = flatP f ++ q ∧ behP q b = some r
 | n, l, 0, b, r, hn, h => ⟨.nil, l, trivial, rfl, rfl, by rwa [Nat.zero_add] at h⟩
 | n, [], a + 1, b, r, hn, h => by rw [show a + 1 + b = a + b + 1 by omega] at h; cases h
 | 0, x :: xs, a + 1, b, r, hn, h => by simp at hn
 | n + 1, x :: xs, a + 1, b, r, hn, h => by
  rw [show a + 1 + b = a + b + 1 by omega, behP_cons] at h
  by_cases g : x.kids < 0
  ·rw [if_pos g] at h; cases h
  ·rw [if_neg g, show a + b + x.kids.toNat = x.kids.toNat + (a + b) by omega] at h
   simp only [List.length_cons] at hn
   obtain ⟨k, q, k1, k2, k3, k4⟩ := behP_split n xs x.kids.toNat (a + b) r (by omega) h
   have hq : q.length ≤ n := by
    have := congrArg List.length k3
    rw [List.length_append] at this
    omega
   obtain ⟨s, q2, s1, s2, s3, s4⟩ := behP_split n q a b r hq k4
   refine ⟨.cons x k s, q2, ⟨by omega, k1, s1⟩, by simp [cntP, s2], ?_, s4⟩
   rw [k3, s3]
   simp [flatP]
theorem behP_ok {l : List api_PatNode} {c : Nat} {r : List api_PatNode} (h : behP l c = some r) : ∃ f, FitP f ∧ cntP f = c ∧ l = flatP f ++ r := by
 obtain ⟨f, q, h1, h2, h3, h4⟩ := behP_split l.length l c 0 r (Nat.le_refl _) h
 rw [behP_zero] at h4
 injection h4 with h4
 subst h4
 exact ⟨f, h1, h2, h3⟩
theorem cntP_le : ∀ f : PF, cntP f ≤ (flatP f).length
 | .nil => Nat.le_refl _
 | .cons x k s => by
  have := cntP_le s
  simp only [cntP, flatP, List.length_cons, List.length_append]
  omega
def sndN (nm : ByteArray → Bool) (x : api_PatNode) : Bool := (if x.lit = true then !decide (x.name = noB) && decide (x.kids = 0) else (decide (x.name = noB) || nm x.name)) && (decide (x.field = noB) || nm x.field) && (decide (x.capture = noB) || nm x.capture)
theorem goodP_all {nm : ByteArray → Bool} : ∀ (g : PF), FitP g → goodP nm g = (flatP g).all (sndN nm)
 | .nil, _ => rfl
 | .cons x k s, hf => by
  obtain ⟨f1, f2, f3⟩ := hf
  have e : decide (cntP k = 0) = decide (x.kids = 0) := by rw [f1]; exact decide_eq_decide.2 (by omega)
  unfold goodP
  rw [goodP_all k f2, goodP_all s f3, e]
  simp only [flatP, List.all_cons, List.all_append]
  unfold sndN
  simp only [Bool.and_assoc]
def capsL (v : List api_PatNode) : List ByteArray := (v.map (·.capture)).filter fun c => !decide (c = noB)
theorem capsL_app (a b : List api_PatNode) : capsL (a ++ b) = capsL a ++ capsL b := by unfold capsL; rw [List.map_append, List.filter_append]
theorem capsL_cons (x : api_PatNode) (v : List api_PatNode) : capsL (x :: v) = addC x.capture (capsL v) := by
 unfold capsL addC
 rw [List.map_cons, List.filter_cons]
 by_cases h : x.capture = noB
 ·rw [if_pos h, if_neg (by simp [h])]
 ·rw [if_neg h, if_pos (by simp [h])]
theorem capsP_perm : ∀ (g : PF) (l : List ByteArray), (capsP g l).Perm (capsL (flatP g) ++ l)
 | .nil, l => List.Perm.refl _
 | .cons x k s, l => by
  have h1 := capsP_perm k l
  have h2 := capsP_perm s (addC x.capture (capsP k l))
  show (capsP s (addC x.capture (capsP k l))).Perm _
  refine h2.trans ?_
  have h4 : (capsL (flatP s) ++ capsP k l).Perm (capsL (flatP k) ++ capsL (flatP s) ++ l) := (List.Perm.append_left _ h1).trans (by
   rw [← List.append_assoc]
   exact List.Perm.append_right _ List.perm_append_comm)
  simp only [flatP]
  rw [capsL_cons, capsL_app]
  unfold addC
  by_cases h : x.capture = noB
  ·rw [if_pos h, if_pos h]
   exact h4
  ·rw [if_neg h, if_neg h]
   have h3 : (capsL (flatP s) ++ x.capture :: capsP k l).Perm (x.capture :: (capsL (flatP s) ++ capsP k l)) := List.perm_middle
   exact h3.trans (List.Perm.cons _ h4)
theorem capsP_mem (g : PF) {y : ByteArray} : y ∈ capsP g [] ↔ y ∈ capsL (flatP g) := by
 have := (capsP_perm g []).mem_iff (a := y)
 rwa [List.append_nil] at this
theorem capsP_nodup (g : PF) : (capsP g []).Nodup ↔ (capsL (flatP g)).Nodup := by
 have := (capsP_perm g []).nodup_iff
 rwa [List.append_nil] at this
def ShapedV (nm : ByteArray → Bool) (v : List api_PatNode) (l : List api_Cond) : Prop :=
 v.length ≤ 32 ∧ l.length ≤ 16 ∧ behP v 1 = some [] ∧ (∀ x ∈ v, sndN nm x = true) ∧ (capsL v).Nodup ∧ ∀ c ∈ l, goodC (capsL v) c
theorem shaped_iffQ {nm : ByteArray → Bool} {v : List api_PatNode} {l : List api_Cond} : ShapedV nm v l ↔ ∃ x k, v = flatP (.cons x k .nil) ∧ ShapedQ nm x k l := by
 constructor
 ·rintro ⟨h1, h2, h3, h4, h5, h6⟩
  obtain ⟨f, f1, f2, f3⟩ := behP_ok h3
  rw [List.append_nil] at f3
  obtain ⟨x, k, rfl⟩ : ∃ x k, f = .cons x k .nil := by
   cases f with
   | nil => simp [cntP] at f2
   | cons x k s =>
    simp only [cntP] at f2
    obtain rfl := cntP_nil (show cntP s = 0 by omega)
    exact ⟨x, k, rfl⟩
  subst f3
  refine ⟨x, k, rfl, f1, ?_, (capsP_nodup _).2 h5, h1, h2, fun c hc => ?_⟩
  ·rw [goodP_all _ f1, List.all_eq_true]
   exact h4
  ·obtain ⟨g1, g2⟩ := h6 c hc
   exact ⟨(capsP_mem _).2 g1, g2.imp id fun g => ⟨(capsP_mem _).2 g.1, g.2⟩⟩
 ·rintro ⟨x, k, rfl, h1, h2, h3, h4, h5, h6⟩
  refine ⟨h4, h5, ?_, ?_, (capsP_nodup _).1 h3, fun c hc => ?_⟩
  ·have := behP_flat (.cons x k .nil) [] 0 h1
   rw [List.append_nil, Nat.add_zero, behP_zero] at this
   exact this
  ·rw [goodP_all _ h1, List.all_eq_true] at h2
   exact h2
  ·obtain ⟨g1, g2⟩ := h6 c hc
   exact ⟨(capsP_mem _).1 g1, g2.imp id fun g => ⟨(capsP_mem _).1 g.1, g.2⟩⟩
end Go.Proofs.YtjookebbmfiidaaDoor.L
