/- The plain side of ChooseWalks. No condition. -/
import Derived.Test.YtoifgnogoddmlaaF7
import Derived.Test.YtoifgnogoddmlaaT
namespace Go.Proofs.Ytoifgnogoddmlaa.chooseWalks
open Go.Proofs.Ytoifgnogoddmlaa.B Go.Proofs.Ytoifgnogoddmlaa.K Go.Proofs.Ytoifgnogoddmlaa.R Go.Proofs.Ytoifgnogoddmlaa.L
theorem law (x1 : List api_Node) (x2 : Int) (x3 : Int) (h1 : x1.length * 72 ≤ reachBytes ∧ ∀ x ∈ x1, q_api_Node x) (_ : (Lit.int .i64 x2).wf = true) (h3 : (Lit.int .i64 x3).wf = true) : trellislaw32_ChooseWalks x1 x2 x3 true := by
  have a1 : IntKind.i64.min = -9223372036854775808 := rfl
  have a2 : IntKind.i64.max = 9223372036854775807 := rfl
  have hr : reachBytes = 140737488351232 := rfl
  refine walksLaw (by unfold Fits; omega) (fun n hn => ?_) x2 x3 ?_
  · obtain ⟨_, _, _, _, _, q, _⟩ := h1.2 n hn
    simp only [Lit.wf, Bool.and_eq_true, decide_eq_true_eq] at q
    rw [a1, a2] at q
    exact q
  · simp only [Lit.wf, Bool.and_eq_true, decide_eq_true_eq] at h3
    rw [a1, a2] at h3
    exact h3
end Go.Proofs.Ytoifgnogoddmlaa.chooseWalks
