/- JSON: the program's and the document's Shaped. Condition: sizes. -/
import Derived.Test.YtmfopcbjgbphaaaDoorQ3
set_option linter.unusedVariables false
namespace Go.Proofs.YtmfopcbjgbphaaaDoor.L
open Go.Proofs.YtmfopcbjgbphaaaDoor.B Go.Proofs.YtmfopcbjgbphaaaDoor.R
def Asc (s : ByteArray) (a b : Nat) : Prop := ∀ i, a ≤ i → i < b → bt s (i : Int) < 128
theorem Asc.nil (s : ByteArray) (a : Nat) : Asc s a a := fun i h k => by omega
theorem Asc.app {s : ByteArray} {a b c : Nat} (h : Asc s a b) (k : Asc s b c) : Asc s a c := fun i h1 h2 => by
 rcases Nat.lt_or_ge i b with g | g
 ·exact h i h1 g
 ·exact k i g h2
def low (l : ByteArray) : Bool := (bsOf l).all fun x => decide (x < 128)
theorem Asc.is {s l : ByteArray} {a : Nat} (hl : low l = true) (h : isF s l a = true) : Asc s a (a + 1) := fun i h1 h2 => by
 obtain rfl : i = a := by omega
 unfold isF at h
 rw [Bool.and_eq_true, List.contains_iff_mem] at h
 have := List.all_eq_true.1 hl _ h.2
 simpa using this
theorem Asc.skip {s l : ByteArray} (hl : low l = true) : ∀ (f a : Nat), Asc s a (skipF s l f a)
 | 0, a => Asc.nil s a
 | f + 1, a => by
  unfold skipF
  by_cases h : isF s l a = true
  ·rw [if_pos h]; exact (Asc.is hl h).app (Asc.skip hl f (a + 1))
  ·rw [if_neg h]; exact Asc.nil s a
theorem Asc.dig (s : ByteArray) (a : Nat) : Asc s a (digF s a) := by
 unfold digF
 by_cases h : isF s dgs a = true
 ·rw [if_pos h]; exact (Asc.is (by decide) h).app (Asc.skip (by decide) _ _)
 ·rw [if_neg h]; exact Asc.nil s a
theorem Asc.exp (s : ByteArray) (a : Nat) : Asc s a (expF s a).2 := by
 unfold expF
 by_cases h : isF s ⟨#[101, 69]⟩ a = true
 ·rw [if_pos h]
  dsimp only
  by_cases g : isF s ⟨#[43, 45]⟩ (a + 1) = true
  ·rw [if_pos g]; exact ((Asc.is (by decide) h).app (Asc.is (by decide) g)).app (Asc.dig s _)
  ·rw [if_neg g]; exact (Asc.is (by decide) h).app (Asc.dig s _)
 ·rw [if_neg h]; exact Asc.nil s a
theorem Asc.frac (s : ByteArray) (a : Nat) : Asc s a (fracF s a).2 := by
 unfold fracF
 by_cases h : isF s ⟨#[46]⟩ a = true
 ·rw [if_pos h]
  by_cases g : isF s dgs (a + 1) = true
  ·rw [if_pos g]; exact ((Asc.is (by decide) h).app (Asc.dig s _)).app (Asc.exp s _)
  ·rw [if_neg g]; exact Asc.is (by decide) h
 ·rw [if_neg h]; exact Asc.exp s a
theorem Asc.int (s : ByteArray) (a : Nat) : Asc s a (intF s a).2 := by
 unfold intF
 by_cases h : isF s ⟨#[48]⟩ a = true
 ·rw [if_pos h]; exact (Asc.is (by decide) h).app (Asc.frac s _)
 ·rw [if_neg h]
  by_cases g : isF s dgs a = true
  ·rw [if_pos g]; exact (Asc.dig s _).app (Asc.frac s _)
  ·rw [if_neg g]; exact Asc.nil s a
theorem Asc.num (s : ByteArray) (a : Nat) : Asc s a (numF s a).2 := by
 unfold numF
 by_cases h : isF s ⟨#[45]⟩ a = true
 ·rw [if_pos h]; exact (Asc.is (by decide) h).app (Asc.int s _)
 ·rw [if_neg h]; exact Asc.int s a
def rs (v : List api_JNode) : Option (List api_JNode) → Int
 | none => -1
 | some r => ((v.length - r.length : Nat) : Int)
def Sz (v : List api_JNode) : Prop := v.length ≤ 2 ^ 42 ∧ ∀ x ∈ v, x.key.size ≤ 2 ^ 48 ∧ x.text.size ≤ 2 ^ 48
theorem drop_ix {v : List api_JNode} {a : Nat} (h : a < v.length) : v.drop a = ix v (a : Int) :: v.drop (a + 1) := by
 rw [List.drop_eq_getElem_cons h, ix_nat h]
section
variable {v : List api_JNode}
end
end Go.Proofs.YtmfopcbjgbphaaaDoor.L
