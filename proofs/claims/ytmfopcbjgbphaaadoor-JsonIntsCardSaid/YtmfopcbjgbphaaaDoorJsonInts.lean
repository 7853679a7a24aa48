/- The plain side of JsonInts. No condition. -/
import Derived.Test.YtmfopcbjgbphaaaDoorQ13
import Derived.Test.YtmfopcbjgbphaaaDoorT
namespace Go.Proofs.YtmfopcbjgbphaaaDoor.jsonInts
open Go.Proofs.YtmfopcbjgbphaaaDoor.B Go.Proofs.YtmfopcbjgbphaaaDoor.K Go.Proofs.YtmfopcbjgbphaaaDoor.R Go.Proofs.YtmfopcbjgbphaaaDoor.L
theorem law (x1 : Int) (x2 : ByteArray) (x3 : ByteArray) (h1 : (Lit.int .i64 x1).wf = true) (h2 : x2.size ≤ reachBytes) (_ : x3.size ≤ reachBytes) : trellislaw25_JsonInts x1 x2 x3 true := by
  have a1 : IntKind.i64.min = -9223372036854775808 := rfl
  have a2 : IntKind.i64.max = 9223372036854775807 := rfl
  have hr : reachBytes = 140737488351232 := rfl
  simp only [Lit.wf, Bool.and_eq_true, decide_eq_true_eq] at h1
  rw [a1, a2] at h1
  exact ints_law (by unfold In64; omega) (by omega)
end Go.Proofs.YtmfopcbjgbphaaaDoor.jsonInts
