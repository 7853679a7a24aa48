/- The plain side of ChooseGrows. No condition. -/
import Derived.Test.YtoifgnogoddmlaaH12
import Derived.Test.YtoifgnogoddmlaaT
namespace Go.Proofs.Ytoifgnogoddmlaa.chooseGrows
open Go.Proofs.Ytoifgnogoddmlaa.B Go.Proofs.Ytoifgnogoddmlaa.K Go.Proofs.Ytoifgnogoddmlaa.R Go.Proofs.Ytoifgnogoddmlaa.L
theorem law (x1 : List api_Node) (x2 : api_Range) (h1 : x1.length * 72 ≤ reachBytes ∧ ∀ x ∈ x1, q_api_Node x) (_ : q_api_Range x2) : trellislaw32_ChooseGrows x1 x2 true := by
  have a1 : IntKind.i64.min = -9223372036854775808 := rfl
  have a2 : IntKind.i64.max = 9223372036854775807 := rfl
  have hr : reachBytes = 140737488351232 := rfl
  have hf : Fits x1 := by unfold Fits; omega
  have hw : Wf x1 := fun n hn => by
    obtain ⟨_, _, _, _, _, q, _⟩ := h1.2 n hn
    simp only [Lit.wf, Bool.and_eq_true, decide_eq_true_eq] at q
    rw [a1, a2] at q
    exact q
  exact growsLaw hf hw x2
end Go.Proofs.Ytoifgnogoddmlaa.chooseGrows
