/- The plain side of TreeWays. No condition. -/
import Derived.Test.YtmekgfcfooghnaaJ10
import Derived.Test.YtmekgfcfooghnaaT
namespace Go.Proofs.Ytmekgfcfooghnaa.treeWays
open Go.Proofs.Ytmekgfcfooghnaa.B Go.Proofs.Ytmekgfcfooghnaa.K Go.Proofs.Ytmekgfcfooghnaa.R Go.Proofs.Ytmekgfcfooghnaa.L
theorem law (x1 : List api_Node) (h1 : x1.length * 72 ≤ reachBytes ∧ ∀ x ∈ x1, q_api_Node x) : trellislaw15_TreeWays x1 true := by
  have a1 : IntKind.i64.min = -9223372036854775808 := rfl
  have a2 : IntKind.i64.max = 9223372036854775807 := rfl
  have hr : reachBytes = 140737488351232 := rfl
  refine waysLaw (by unfold Fits; omega) (fun n hn => ?_)
  obtain ⟨_, _, _, _, _, q, _⟩ := h1.2 n hn
  simp only [Lit.wf, Bool.and_eq_true, decide_eq_true_eq] at q
  rw [a1, a2] at q
  exact q
end Go.Proofs.Ytmekgfcfooghnaa.treeWays
