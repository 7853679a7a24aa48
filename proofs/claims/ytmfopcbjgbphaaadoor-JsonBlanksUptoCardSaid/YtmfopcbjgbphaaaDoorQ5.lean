/- JSON: the document's Shaped is the program's; the bound on nesting. Condition: sizes. -/
import Derived.Test.YtmfopcbjgbphaaaDoorQ4
set_option linter.unusedVariables false
namespace Go.Proofs.YtmfopcbjgbphaaaDoor.L
open Go.Proofs.YtmfopcbjgbphaaaDoor.B Go.Proofs.YtmfopcbjgbphaaaDoor.R
def Saf (N : Nat) : List JNd → Nat → Prop
 | _, 0 => True
 | [], _ + 1 => True
 | x :: xs, c + 1 => x.kids < 0 ∨ x.kids > (N : Int) ∨ (c + x.kids.toNat ≤ 2 ^ 60 ∧ Saf N xs (c + x.kids.toNat))
theorem Saf.of (N : Nat) : ∀ (l : List JNd) (c : Nat) {r : List JNd}, l.length ≤ 2 ^ 42 → beh l c = some r → Saf N l c
 | l, 0, r, hl, h => by cases l <;> trivial
 | [], c + 1, r, hl, h => trivial
 | x :: xs, c + 1, r, hl, h => by
  rw [beh_cons] at h
  by_cases g : x.kids < 0
  ·exact .inl g
  ·rw [if_neg g] at h
   have := beh_le xs _ h
   simp only [List.length_cons] at hl
   exact .inr (.inr ⟨by omega, Saf.of N xs _ (by omega) h⟩)
section
variable {v : List JNd}
def At (v : List JNd) (a : Nat) (f : F) : Prop := Fit f ∧ a ≤ v.length ∧ ∃ r, v.drop a = flat f ++ r
theorem At.cons {a : Nat} {x : JNd} {k s : F} (h : At v a (.cons x k s)) : a < v.length ∧ ix v (a : Int) = x ∧ At v (a + 1) k ∧ At v (a + 1 + (flat k).length) s ∧ x.kids = (cnt k : Int) := by
 obtain ⟨⟨h1, h2, h3⟩, ha, r, h4⟩ := h
 have hl : a < v.length := by
  have := congrArg List.length h4
  simp only [flat, List.length_drop, List.length_append, List.length_cons] at this
  omega
 have h4' := h4
 rw [drop_ix hl] at h4
 simp only [flat, List.cons_append, List.append_assoc, List.cons.injEq] at h4
 have hlen := congrArg List.length h4.2
 simp only [List.length_drop, List.length_append] at hlen
 refine ⟨hl, h4.1, ⟨h2, by omega, _, h4.2⟩, ⟨h3, by omega, r, ?_⟩, h1⟩
 rw [← List.drop_drop, h4.2, List.drop_left]
theorem At.first {a : Nat} {x : JNd} {k s : F} (h : At v a (.cons x k s)) : At v a (.cons x k .nil) := by
 obtain ⟨⟨h1, h2, h3⟩, ha, r, h4⟩ := h
 exact ⟨⟨h1, h2, trivial⟩, ha, flat s ++ r, by rw [h4]; simp [flat]⟩
theorem At.whole {x : JNd} {k : F} (hf : Fit (.cons x k .nil)) (hv : v = flat (.cons x k .nil)) : At v 0 (.cons x k .nil) := ⟨hf, Nat.zero_le _, [], by rw [List.drop_zero, List.append_nil]; exact hv⟩
end
end Go.Proofs.YtmfopcbjgbphaaaDoor.L
