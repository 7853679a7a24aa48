/- The plain side of JsonAsks. No condition. -/
import Derived.Test.YtmfopcbjgbphaaaDoorQ7
import Derived.Test.YtmfopcbjgbphaaaDoorT
namespace Go.Proofs.YtmfopcbjgbphaaaDoor.jsonAsks
open Go.Proofs.YtmfopcbjgbphaaaDoor.B Go.Proofs.YtmfopcbjgbphaaaDoor.K Go.Proofs.YtmfopcbjgbphaaaDoor.R Go.Proofs.YtmfopcbjgbphaaaDoor.L
theorem law (x1 : List api_JNode) (x2 : Int) (x3 : ByteArray) (h1 : x1.length * 48 ≤ reachBytes ∧ ∀ x ∈ x1, q_api_JNode x) (_ : (Lit.int .i64 x2).wf = true) (_ : x3.size ≤ reachBytes) : trellislaw25_JsonAsks x1 x2 x3 true := by
  have a1 : IntKind.i64.min = -9223372036854775808 := rfl
  have a2 : IntKind.i64.max = 9223372036854775807 := rfl
  have hr : reachBytes = 140737488351232 := rfl
  refine asks_law ⟨by omega, fun n hn => ?_⟩ x2 x3
  obtain ⟨_, q1, q2, q⟩ := h1.2 n hn
  simp only [Lit.wf, Bool.and_eq_true, decide_eq_true_eq] at q
  rw [a1, a2] at q
  exact ⟨by omega, by omega, by unfold In64; omega⟩
end Go.Proofs.YtmfopcbjgbphaaaDoor.jsonAsks
