/- JSON: what is printed is read again as it was. Condition: sizes. -/
import Derived.Test.YtmfopcbjgbphaaaDoorQ13
set_option linter.unusedVariables false
namespace Go.Proofs.YtmfopcbjgbphaaaDoor.L
open Go.Proofs.YtmfopcbjgbphaaaDoor.B Go.Proofs.YtmfopcbjgbphaaaDoor.R
abbrev numSet : List Int := [48, 49, 50, 51, 52, 53, 54, 55, 56, 57, 46, 101, 69, 43, 45]
def Stop (r : List Int) : Prop := isL numSet r = false
theorem Stop.no {l r : List Int} (h : Stop r) (hl : ∀ x ∈ l, x ∈ numSet) : isL l r = false := by
 cases r with
 | nil => rfl
 | cons x r =>
  rw [Bool.eq_false_iff]
  intro hx
  have := hl x (List.contains_iff_mem.1 hx)
  unfold Stop at h
  rw [isL_cons, List.contains_iff_mem.2 this] at h
  cases h
theorem isL_app {l t r : List Int} (h : isL l r = false ∨ t ≠ []) : isL l (t ++ r) = isL l t := by
 cases t with
 | nil =>
  rcases h with h | h
  ·rw [List.nil_append, h]; rfl
  ·exact absurd rfl h
 | cons x t => rfl
theorem tail_app {l t r : List Int} (h : isL l t = true) : (t ++ r).tail = t.tail ++ r := by
 obtain ⟨x, t', rfl, _⟩ := isL_ex h
 rfl
theorem skipL_app {l r : List Int} (h : isL l r = false) : ∀ t : List Int, skipL l (t ++ r) = skipL l t ++ r
 | [] => by
  cases r with
  | nil => rfl
  | cons x r =>
   rw [List.nil_append]
   unfold skipL
   rw [isL_cons] at h
   rw [h, if_neg (by simp)]
   rfl
 | x :: t => by
  rw [List.cons_append]
  unfold skipL
  by_cases g : l.contains x = true
  ·rw [if_pos g, if_pos g]; exact skipL_app h t
  ·rw [if_neg g, if_neg g]; rfl
section
variable {r : List Int}
theorem digL_app (h : Stop r) (t : List Int) : digL (t ++ r) = ((digL t).1, (digL t).2 ++ r) := by
 have h1 := h.no (l := digB) (by decide)
 unfold digL
 rw [isL_app (.inl h1)]
 by_cases g : isL digB t = true
 ·rw [if_pos g, if_pos g, skipL_app h1]
 ·rw [if_neg g, if_neg g]
theorem expL_app (h : Stop r) (t : List Int) : expL (t ++ r) = ((expL t).1, (expL t).2 ++ r) := by
 unfold expL
 rw [isL_app (.inl (h.no (by decide)))]
 by_cases g : isL [101, 69] t = true
 ·rw [if_pos g, if_pos g, tail_app g, isL_app (.inl (h.no (by decide)))]
  by_cases g2 : isL [43, 45] t.tail = true
  ·rw [if_pos g2, if_pos g2, tail_app g2]; exact digL_app h _
  ·rw [if_neg g2, if_neg g2]; exact digL_app h _
 ·rw [if_neg g, if_neg g]
theorem fracL_app (h : Stop r) (t : List Int) : fracL (t ++ r) = ((fracL t).1, (fracL t).2 ++ r) := by
 unfold fracL
 rw [isL_app (.inl (h.no (by decide)))]
 by_cases g : isL [46] t = true
 ·rw [if_pos g, if_pos g, tail_app g, isL_app (.inl (h.no (by decide)))]
  by_cases g2 : isL digB t.tail = true
  ·rw [if_pos g2, if_pos g2, digL_app h]; exact expL_app h _
  ·rw [if_neg g2, if_neg g2]
 ·rw [if_neg g, if_neg g]; exact expL_app h _
theorem intL_app (h : Stop r) (t : List Int) : intL (t ++ r) = ((intL t).1, (intL t).2 ++ r) := by
 unfold intL
 rw [isL_app (.inl (h.no (by decide)))]
 by_cases g : isL [48] t = true
 ·rw [if_pos g, if_pos g, tail_app g]; exact fracL_app h _
 ·rw [if_neg g, if_neg g, isL_app (.inl (h.no (by decide)))]
  by_cases g2 : isL digB t = true
  ·rw [if_pos g2, if_pos g2, digL_app h]; exact fracL_app h _
  ·rw [if_neg g2, if_neg g2]
theorem numL_app (h : Stop r) (t : List Int) : numL (t ++ r) = ((numL t).1, (numL t).2 ++ r) := by
 unfold numL
 rw [isL_app (.inl (h.no (by decide)))]
 by_cases g : isL [45] t = true
 ·rw [if_pos g, if_pos g, tail_app g]; exact intL_app h _
 ·rw [if_neg g, if_neg g]; exact intL_app h _
end
end Go.Proofs.YtmfopcbjgbphaaaDoor.L
