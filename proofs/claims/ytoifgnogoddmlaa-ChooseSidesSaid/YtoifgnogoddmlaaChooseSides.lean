/- The plain side of ChooseSides. No condition. -/
import Derived.Test.YtoifgnogoddmlaaH6
import Derived.Test.YtoifgnogoddmlaaT
namespace Go.Proofs.Ytoifgnogoddmlaa.chooseSides
open Go.Proofs.Ytoifgnogoddmlaa.B Go.Proofs.Ytoifgnogoddmlaa.K Go.Proofs.Ytoifgnogoddmlaa.R Go.Proofs.Ytoifgnogoddmlaa.L
theorem law (x1 : List api_Node) (x2 : Int) (x3 : Int) (h1 : x1.length * 72 ≤ reachBytes ∧ ∀ x ∈ x1, q_api_Node x) (_ : (Lit.int .i64 x2).wf = true) (h3 : (Lit.int .i64 x3).wf = true) : trellislaw32_ChooseSides x1 x2 x3 true := by
  have a1 : IntKind.i64.min = -9223372036854775808 := rfl
  have a2 : IntKind.i64.max = 9223372036854775807 := rfl
  have hr : reachBytes = 140737488351232 := rfl
  have hf : Fits x1 := by unfold Fits; omega
  have hw : Wf x1 := fun n hn => by
    obtain ⟨_, _, _, _, _, q, _⟩ := h1.2 n hn
    simp only [Lit.wf, Bool.and_eq_true, decide_eq_true_eq] at q
    rw [a1, a2] at q
    exact q
  refine sidesLaw hf hw x2 x3 ?_
  simp only [Lit.wf, Bool.and_eq_true, decide_eq_true_eq] at h3
  rw [a1, a2] at h3
  exact h3
end Go.Proofs.Ytoifgnogoddmlaa.chooseSides
