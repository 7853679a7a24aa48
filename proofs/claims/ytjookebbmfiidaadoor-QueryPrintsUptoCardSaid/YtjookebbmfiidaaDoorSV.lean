/- The plain side of chapter 8, more: no idle program; words put together. No condition. -/
import Derived.Test.YtjookebbmfiidaaDoorSO
set_option linter.unusedVariables false
namespace Go.Proofs.YtjookebbmfiidaaDoor.L
open Go.Proofs.YtjookebbmfiidaaDoor.B Go.Proofs.YtjookebbmfiidaaDoor.R
def sp : ByteArray := ⟨#[32]⟩
end Go.Proofs.YtjookebbmfiidaaDoor.L
set_option linter.unusedVariables false
namespace Go.Proofs.YtjookebbmfiidaaDoor.L
open Go.Proofs.YtjookebbmfiidaaDoor.B Go.Proofs.YtjookebbmfiidaaDoor.R
def quE (x : Int) (e : Nat) : Sum (List Int × Nat) (Option Nat) → Sum (List Int × Nat) (Option Nat)
 | .inl (t, k) => .inl (x :: t, k + e)
 | .inr none => .inr none
 | .inr (some d) => .inr (some (d + e))
theorem quF_e {l : List Int} (h : (escF l).2 ≠ 0) : quF (92 :: l) = quE (escF l).1 (escF l).2 (quF (l.drop ((escF l).2 - 1))) := by
 rw [quF]
 simp only [show ¬ (92 : Int) = 10 by decide, show ¬ (92 : Int) = 34 by decide, if_false, if_true, dif_neg h]
 split <;> rename_i e <;> rw [e] <;> rfl
theorem quF_o {c : Int} {l : List Int} (h1 : c ≠ 10) (h2 : c ≠ 34) (h3 : c ≠ 92) : quF (c :: l) = quE c 1 (quF l) := by
 rw [quF]
 simp only [if_neg h1, if_neg h2, if_neg h3]
 split <;> rename_i e <;> rw [e] <;> rfl
def fst (ws : List api_Word) (d : Nat) : Int := match ws with
 | [] => d
 | w :: _ => w.at_
end Go.Proofs.YtjookebbmfiidaaDoor.L
