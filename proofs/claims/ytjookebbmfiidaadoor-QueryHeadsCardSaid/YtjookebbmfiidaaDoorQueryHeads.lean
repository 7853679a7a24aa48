/- The plain side of QueryHeads. No condition. -/
import Derived.Test.YtjookebbmfiidaaDoorX6
import Derived.Test.YtjookebbmfiidaaDoorT
namespace Go.Proofs.YtjookebbmfiidaaDoor.queryHeads
open Go.Proofs.YtjookebbmfiidaaDoor.B Go.Proofs.YtjookebbmfiidaaDoor.K Go.Proofs.YtjookebbmfiidaaDoor.R Go.Proofs.YtjookebbmfiidaaDoor.L
theorem wf64 {n : Int} (h : (Lit.int .i64 n).wf = true) : -9223372036854775808 ≤ n ∧ n ≤ 9223372036854775807 := by
  have a1 : IntKind.i64.min = -9223372036854775808 := rfl
  have a2 : IntKind.i64.max = 9223372036854775807 := rfl
  simp only [Lit.wf, Bool.and_eq_true, decide_eq_true_eq] at h
  rwa [a1, a2] at h
theorem law (x1 : Ag) (x2 : List Ba) (x3 : ByteArray) (h1 : Xbe x1) (h2 : x2.length * 72 ≤ reachBytes ∧ ∀ x ∈ x2, Xbw x) (_ : x3.size ≤ reachBytes) : Ku x1 x2 x3 true := by
  have hr : reachBytes = 140737488351232 := rfl
  obtain ⟨k1, _, k2, _⟩ := h1
  have k1 : x1.name.size ≤ reachBytes := k1
  have k2 : x1.field.size ≤ reachBytes := k2
  refine Xlt ⟨by omega, by omega⟩ (by unfold Xfg; omega) (fun n hn => ?_) x3
  obtain ⟨_, _, _, _, _, q, _⟩ := h2.2 n hn
  exact wf64 q
end Go.Proofs.YtjookebbmfiidaaDoor.queryHeads
