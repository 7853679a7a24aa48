/- Queries: patterns as forests, their words, the plain parser on words. No condition. -/
import Derived.Test.YtjookebbmfiidaaDoorR
set_option linter.unusedVariables false
namespace Go.Proofs.YtjookebbmfiidaaDoor.L
open Go.Proofs.YtjookebbmfiidaaDoor.R
inductive PF where
 | nil : PF
 | cons (x : api_PatNode) (k s : PF) : PF
def flatP : PF → List api_PatNode
 | .nil => []
 | .cons x k s => x :: (flatP k ++ flatP s)
def cntP : PF → Nat
 | .nil => 0
 | .cons _ _ s => cntP s + 1
def FitP : PF → Prop
 | .nil => True
 | .cons x k s => x.kids = (cntP k : Int) ∧ FitP k ∧ FitP s
abbrev Tk := Int × ByteArray
abbrev uscB : ByteArray := ⟨#[95]⟩
abbrev colB : ByteArray := ⟨#[58]⟩
abbrev opB : ByteArray := ⟨#[40]⟩
abbrev clB : ByteArray := ⟨#[41]⟩
abbrev capB : ByteArray := ⟨#[64]⟩
abbrev eqB : ByteArray := ⟨#[61]⟩
abbrev noB : ByteArray := ⟨#[]⟩
def inC (c : ByteArray) (l : List ByteArray) : Bool := l.any fun y => decide (c = y)
theorem inC_iff {c : ByteArray} {l : List ByteArray} : inC c l = true ↔ c ∈ l := by
 unfold inC
 rw [List.any_eq_true]
 constructor
 ·rintro ⟨y, hy, e⟩
  rw [of_decide_eq_true e]; exact hy
 ·exact fun h => ⟨c, h, decide_eq_true rfl⟩
def addC (c : ByteArray) (l : List ByteArray) : List ByteArray := if c = noB then l else c :: l
def fldW (x : api_PatNode) : List Tk := if x.field = noB then [] else [(1, x.field), (5, colB)]
def capW (x : api_PatNode) : List Tk := if x.capture = noB then [] else [(5, capB), (1, x.capture)]
def nameW (x : api_PatNode) : Tk := (1, if x.name = noB then uscB else x.name)
def wordsP : PF → List Tk
 | .nil => []
 | .cons x k s => fldW x ++ ((if x.lit = true then [(2, x.name)] else (5, opB) :: nameW x :: (wordsP k ++ [(5, clB)])) ++ (capW x ++ wordsP s))
def capsP : PF → List ByteArray → List ByteArray
 | .nil, l => l
 | .cons x k s, l => capsP s (addC x.capture (capsP k l))
def goodP (nm : ByteArray → Bool) : PF → Bool
 | .nil => true
 | .cons x k s => (if x.lit = true then !decide (x.name = noB) && decide (cntP k = 0) else (decide (x.name = noB) || nm x.name)) && (decide (x.field = noB) || nm x.field) && (decide (x.capture = noB) || nm x.capture) && goodP nm k && goodP nm s
theorem cntP_nil {k : PF} (h : cntP k = 0) : k = .nil := by cases k with
 | nil => rfl
 | cons x k s => simp [cntP] at h
theorem goodP_parts {nm : ByteArray → Bool} {x : api_PatNode} {k s : PF} (h : goodP nm (.cons x k s) = true) : (x.lit = true → x.name ≠ noB ∧ k = .nil) ∧ (x.lit = false → x.name = noB ∨ nm x.name = true) ∧ (x.field = noB ∨ nm x.field = true) ∧ (x.capture = noB ∨ nm x.capture = true) ∧ goodP nm k = true ∧ goodP nm s = true := by
 simp only [goodP, Bool.and_eq_true, Bool.or_eq_true, decide_eq_true_eq] at h
 obtain ⟨⟨⟨⟨h1, h2⟩, h3⟩, h4⟩, h5⟩ := h
 refine ⟨fun e => ?_, fun e => ?_, h2, h3, h4, h5⟩
 ·rw [if_pos e, Bool.and_eq_true, decide_eq_true_eq] at h1
  exact ⟨by simpa using h1.1, cntP_nil h1.2⟩
 ·rw [if_neg (by rw [e]; simp)] at h1
  simpa using h1
end Go.Proofs.YtjookebbmfiidaaDoor.L
