/- Queries: patterns as forests, their words, the plain parser on words. No condition. -/
import Derived.Test.YtjookebbmfiidaaR
set_option linter.unusedVariables false
namespace Go.Proofs.Ytjookebbmfiidaa.L
open Go.Proofs.Ytjookebbmfiidaa.R
inductive PF where
 | nil : PF
 | cons (x : api_PatNode) (k s : PF) : PF
def flatP : PF → List api_PatNode
 | .nil => []
 | .cons x k s => x :: (flatP k ++ flatP s)
def cntP : PF → Nat
 | .nil => 0
 | .cons _ _ s => cntP s + 1
abbrev Tk := Int × ByteArray
abbrev uscB : ByteArray := ⟨#[95]⟩
abbrev colB : ByteArray := ⟨#[58]⟩
abbrev opB : ByteArray := ⟨#[40]⟩
abbrev clB : ByteArray := ⟨#[41]⟩
abbrev capB : ByteArray := ⟨#[64]⟩
abbrev eqB : ByteArray := ⟨#[61]⟩
abbrev noB : ByteArray := ⟨#[]⟩
def isT (k : Int) (x : ByteArray) : List Tk → Bool
 | [] => false
 | w :: _ => decide (w.1 = k) && decide (w.2 = x)
def isNm : List Tk → Bool
 | [] => false
 | w :: _ => decide (w.1 = 1) && !decide (w.2 = uscB)
def isSt : List Tk → Bool
 | [] => false
 | w :: _ => decide (w.1 = 2) && !decide (w.2 = noB)
def hdT : List Tk → ByteArray
 | [] => noB
 | w :: _ => w.2
def isFd (t : List Tk) : Bool := isNm t && isT 5 colB t.tail
def beginsT (t : List Tk) : Bool := isFd t || isT 5 opB t || isSt t
inductive PR (α : Type) where
 | ok (a : α) (t : List Tk)
 | no (e : Int) (t : List Tk)
def inC (c : ByteArray) (l : List ByteArray) : Bool := l.any fun y => decide (c = y)
theorem inC_iff {c : ByteArray} {l : List ByteArray} : inC c l = true ↔ c ∈ l := by
 unfold inC
 rw [List.any_eq_true]
 constructor
 ·rintro ⟨y, hy, e⟩
  rw [of_decide_eq_true e]; exact hy
 ·exact fun h => ⟨c, h, decide_eq_true rfl⟩
def addC (c : ByteArray) (l : List ByteArray) : List ByteArray := if c = noB then l else c :: l
def capT (x : api_PatNode) (k : PF) (seen : List ByteArray) (t : List Tk) : PR (api_PatNode × PF × List ByteArray) :=
 if isT 5 capB t = true then
  if isNm t.tail = true then
   if inC (hdT t.tail) seen = true then .no 201 t.tail else .ok ({ x with capture := hdT t.tail }, k, addC (hdT t.tail) seen) t.tail.tail
  else .no 200 t.tail
 else .ok (x, k, seen) t
def nmT (t : List Tk) : Bool := isT 1 uscB t || isNm t
def fldT (t : List Tk) : ByteArray := if isFd t = true then hdT t else noB
def aftT (t : List Tk) : List Tk := if isFd t = true then t.tail.tail else t
mutual
def patT : Nat → Nat → List ByteArray → List Tk → PR (api_PatNode × PF × List ByteArray)
 | 0, _, _, t => .no 0 t
 | f + 1, m, seen, t =>
  if beginsT t = true then
   if m ≥ 32 then .no 202 t
   else if isSt (aftT t) = true then capT ⟨hdT (aftT t), true, fldT t, noB, 0⟩ .nil seen (aftT t).tail
   else if isT 5 opB (aftT t) = true then
    if nmT (aftT t).tail = true then
     match kidsT f (m + 1) seen (aftT t).tail.tail with
     | .no e r => .no e r
     | .ok (k, seen') r => capT ⟨if isT 1 uscB (aftT t).tail = true then noB else hdT (aftT t).tail, false, fldT t, noB, (cntP k : Int)⟩ k seen' r
    else .no 200 (aftT t).tail
   else .no 200 (aftT t)
  else .no 200 t
def kidsT : Nat → Nat → List ByteArray → List Tk → PR (PF × List ByteArray)
 | 0, _, _, t => .no 0 t
 | f + 1, m, seen, t =>
  if isT 5 clB t = true then .ok (.nil, seen) t.tail
  else match patT f m seen t with
   | .no e r => .no e r
   | .ok (x, k, seen') r => match kidsT f (m + 1 + (flatP k).length) seen' r with
    | .no e q => .no e q
    | .ok (s, seen2) q => .ok (.cons x k s, seen2) q
end
theorem patT_succ (f m : Nat) (seen : List ByteArray) (t : List Tk) : patT (f + 1) m seen t = if beginsT t = true then
   if m ≥ 32 then .no 202 t
   else if isSt (aftT t) = true then capT ⟨hdT (aftT t), true, fldT t, noB, 0⟩ .nil seen (aftT t).tail
   else if isT 5 opB (aftT t) = true then
    if nmT (aftT t).tail = true then
     match kidsT f (m + 1) seen (aftT t).tail.tail with
     | .no e r => .no e r
     | .ok (k, seen') r => capT ⟨if isT 1 uscB (aftT t).tail = true then noB else hdT (aftT t).tail, false, fldT t, noB, (cntP k : Int)⟩ k seen' r
    else .no 200 (aftT t).tail
   else .no 200 (aftT t)
  else .no 200 t := rfl
theorem kidsT_succ (f m : Nat) (seen : List ByteArray) (t : List Tk) : kidsT (f + 1) m seen t = if isT 5 clB t = true then .ok (.nil, seen) t.tail
  else match patT f m seen t with
   | .no e r => .no e r
   | .ok (x, k, seen') r => match kidsT f (m + 1 + (flatP k).length) seen' r with
    | .no e q => .no e q
    | .ok (s, seen2) q => .ok (.cons x k s, seen2) q := rfl
def capsP : PF → List ByteArray → List ByteArray
 | .nil, l => l
 | .cons x k s, l => capsP s (addC x.capture (capsP k l))
theorem isT_self (k : Int) (x : ByteArray) (r : List Tk) : isT k x ((k, x) :: r) = true := by unfold isT; simp
end Go.Proofs.Ytjookebbmfiidaa.L
