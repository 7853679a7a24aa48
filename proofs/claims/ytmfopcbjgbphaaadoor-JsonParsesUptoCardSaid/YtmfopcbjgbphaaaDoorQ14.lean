/- JSON: what is printed is read again as it was. Condition: sizes. -/
import Derived.Test.YtmfopcbjgbphaaaDoorQ13
set_option linter.unusedVariables false
namespace Go.Proofs.YtmfopcbjgbphaaaDoor.L
open Go.Proofs.YtmfopcbjgbphaaaDoor.B Go.Proofs.YtmfopcbjgbphaaaDoor.R
abbrev numSet : List Int := [48, 49, 50, 51, 52, 53, 54, 55, 56, 57, 46, 101, 69, 43, 45]
def Stop (r : List Int) : Prop := isL numSet r = false
theorem Stop.no {l r : List Int} (h : Stop r) (hl : ∀ x ∈ l, x ∈ numSet) : isL l r = false := by
 cases r with
 | nil => rfl
 | cons x r =>
  rw [Bool.eq_false_iff]
  intro hx
  have := hl x (List.contains_iff_mem.1 hx)
  unfold Stop at h
  rw [isL_cons, List.contains_iff_mem.2 this] at h
  cases h
section
variable {r : List Int}
end
end Go.Proofs.YtmfopcbjgbphaaaDoor.L
