/- Queries: conditions, whole queries: back from their words; what is read is good; errors. No condition. -/
import Derived.Test.YtjookebbmfiidaaS2
set_option linter.unusedVariables false
namespace Go.Proofs.Ytjookebbmfiidaa.L
open Go.Proofs.Ytjookebbmfiidaa.R
abbrev whB : ByteArray := ⟨#[119, 104, 101, 110]⟩
abbrev unB : ByteArray := ⟨#[117, 110, 108, 101, 115, 115]⟩
def isS : List Tk → Bool
 | [] => false
 | w :: _ => decide (w.1 = 2)
def kwT (t : List Tk) : Bool := isT 1 unB t || isT 1 whB t
def captureT (caps : List ByteArray) (t : List Tk) : PR ByteArray :=
 if isT 5 capB t = true then
  if isNm t.tail = true then
   if inC (hdT t.tail) caps = true then .ok (hdT t.tail) t.tail.tail else .no 201 t.tail
  else .no 200 t.tail
 else .no 200 t
def rightT (un : Bool) (a : ByteArray) (caps : List ByteArray) (t : List Tk) : PR api_Cond :=
 if isS t = true then .ok ⟨un, a, noB, hdT t⟩ t.tail
 else match captureT caps t with
  | .no e r => .no e r
  | .ok b r => .ok ⟨un, a, b, noB⟩ r
def condT (n : Nat) (caps : List ByteArray) (t : List Tk) : PR api_Cond :=
 if kwT t = true then
  if n ≥ 16 then .no 202 t
  else match captureT caps t.tail with
   | .no e r => .no e r
   | .ok a r => if isT 5 eqB r = true then rightT (isT 1 unB t) a caps r.tail else .no 200 r
 else .no 200 t
def condsT : Nat → Nat → List ByteArray → List Tk → PR (List api_Cond)
 | 0, _, _, t => .no 0 t
 | _ + 1, _, _, [] => .ok [] []
 | f + 1, n, caps, w :: t => match condT n caps (w :: t) with
  | .no e r => .no e r
  | .ok c r => match condsT f (n + 1) caps r with
   | .no e q => .no e q
   | .ok l q => .ok (c :: l) q
theorem condsT_cons (f n : Nat) (caps : List ByteArray) (w : Tk) (t : List Tk) : condsT (f + 1) n caps (w :: t) = match condT n caps (w :: t) with
  | .no e r => .no e r
  | .ok c r => match condsT f (n + 1) caps r with
   | .no e q => .no e q
   | .ok l q => .ok (c :: l) q := rfl
def queryT (t : List Tk) : PR (api_PatNode × PF × List api_Cond) := match patN 0 [] t with
 | .no e r => .no e r
 | .ok (x, k, caps) r => match condsT (r.length + 1) 0 caps r with
  | .no e q => .no e q
  | .ok l q => .ok (x, k, l) q
theorem captureT_read {caps : List ByteArray} {t r : List Tk} {a : ByteArray} (h : captureT caps t = .ok a r) : t = (5, capB) :: (1, a) :: r ∧ a ∈ caps := by
 unfold captureT at h
 by_cases c1 : isT 5 capB t = true
 ·rw [if_pos c1] at h
  obtain ⟨t1, rfl⟩ := isT_ex c1
  rw [List.tail_cons] at h
  by_cases c2 : isNm t1 = true
  ·rw [if_pos c2] at h
   obtain ⟨y, t2, rfl, hy⟩ := isNm_ex c2
   have hdy : hdT ((1, y) :: t2) = y := rfl
   rw [hdy] at h
   by_cases c3 : inC y caps = true
   ·rw [if_pos c3] at h
    injection h with h1 h2
    subst h1
    have h2' : t2 = r := h2
    rw [h2']
    exact ⟨rfl, inC_iff.1 c3⟩
   ·rw [if_neg c3] at h; cases h
  ·rw [if_neg c2] at h; cases h
 ·rw [if_neg c1] at h; cases h
end Go.Proofs.Ytjookebbmfiidaa.L
