/- The plain side of TreeFinds. Its condition: what is handed in is of at most 1048576 bytes in all. -/
import Derived.Test.YtmekgfcfooghnaaJ7
import Derived.Test.YtmekgfcfooghnaaT
namespace Go.Proofs.Ytmekgfcfooghnaa.treeFinds
open Go.Proofs.Ytmekgfcfooghnaa.B Go.Proofs.Ytmekgfcfooghnaa.K Go.Proofs.Ytmekgfcfooghnaa.R Go.Proofs.Ytmekgfcfooghnaa.L
theorem tsz_sum : ∀ t : List api_Node, tsz t ≤ sumL sz_api_Node t
  | [] => Nat.le_refl _
  | n :: t => by
    have := tsz_sum t
    have e : sz_api_Node n = (n.name.size + 1) + 1 + (n.field.size + 1) + 1 + 1 + 1 + 1 + 1 := rfl
    have e2 : sumL sz_api_Node (n :: t) = sz_api_Node n + sumL sz_api_Node t := rfl
    unfold tsz at *
    rw [List.map_cons, List.sum_cons, e2, e]
    unfold nsz at *
    omega
theorem law (x1 : List api_Node) (x2 : Int) (h1 : x1.length * 72 ≤ reachBytes ∧ ∀ x ∈ x1, q_api_Node x) (_ : (Lit.int .i64 x2).wf = true) (hsum : (sumL sz_api_Node x1 + 1) + 1 ≤ 1048576) : trellislaw15_TreeFinds x1 x2 true := by
  have a1 : IntKind.i64.min = -9223372036854775808 := rfl
  have a2 : IntKind.i64.max = 9223372036854775807 := rfl
  have hr : reachBytes = 140737488351232 := rfl
  have := tsz_sum x1
  refine findsLaw (by unfold Fits; omega) (fun n hn => ?_) (by omega) x2
  obtain ⟨_, _, _, _, _, q, _⟩ := h1.2 n hn
  simp only [Lit.wf, Bool.and_eq_true, decide_eq_true_eq] at q
  rw [a1, a2] at q
  exact q
end Go.Proofs.Ytmekgfcfooghnaa.treeFinds
