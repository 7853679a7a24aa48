/- JSON: lists of nodes as forests. No condition. -/
import Derived.Test.YtmfopcbjgbphaaaDoorU1
import Derived.Test.YtmfopcbjgbphaaaDoorU2
import Derived.Test.YtmfopcbjgbphaaaDoorR
set_option linter.unusedVariables false
namespace Go.Proofs.YtmfopcbjgbphaaaDoor.L
open Go.Proofs.YtmfopcbjgbphaaaDoor.B Go.Proofs.YtmfopcbjgbphaaaDoor.R
inductive F where
 | nil : F
 | cons (x : api_JNode) (k s : F) : F
def flat : F → List api_JNode
 | .nil => []
 | .cons x k s => x :: (flat k ++ flat s)
def cnt : F → Nat
 | .nil => 0
 | .cons _ _ s => cnt s + 1
def Fit : F → Prop
 | .nil => True
 | .cons x k s => x.kids = (cnt k : Int) ∧ Fit k ∧ Fit s
def inK (k : ByteArray) (l : List ByteArray) : Bool := l.any fun y => decide (k = y)
theorem inK_iff {k : ByteArray} {l : List ByteArray} : inK k l = true ↔ k ∈ l := by
 unfold inK
 rw [List.any_eq_true]
 constructor
 ·rintro ⟨y, hy, e⟩
  rw [of_decide_eq_true e]; exact hy
 ·exact fun h => ⟨k, h, decide_eq_true rfl⟩
def beh : List api_JNode → Nat → Option (List api_JNode)
 | l, 0 => some l
 | [], _ + 1 => none
 | x :: xs, c + 1 => if x.kids < 0 then none else beh xs (c + x.kids.toNat)
theorem beh_cons (x : api_JNode) (xs : List api_JNode) (c : Nat) : beh (x :: xs) (c + 1) = if x.kids < 0 then none else beh xs (c + x.kids.toNat) := rfl
theorem beh_le : ∀ (l : List api_JNode) (c : Nat) {r : List api_JNode}, beh l c = some r → c ≤ l.length
 | l, 0, r, h => Nat.zero_le _
 | [], c + 1, r, h => by cases h
 | x :: xs, c + 1, r, h => by
  rw [beh_cons] at h
  by_cases g : x.kids < 0
  ·rw [if_pos g] at h; cases h
  ·rw [if_neg g] at h
   have := beh_le xs _ h
   simp only [List.length_cons]; omega
section
variable (snd : api_JNode → Bool)
end
section
variable {snd : api_JNode → Bool}
end
end Go.Proofs.YtmfopcbjgbphaaaDoor.L
