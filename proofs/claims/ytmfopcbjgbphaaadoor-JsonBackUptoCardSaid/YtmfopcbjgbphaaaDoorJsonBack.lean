/- The plain side of JsonBack. Its condition: what is handed in is of at most 1048576 bytes in all. -/
import Derived.Test.YtmfopcbjgbphaaaDoorQ15
import Derived.Test.YtmfopcbjgbphaaaDoorT
namespace Go.Proofs.YtmfopcbjgbphaaaDoor.jsonBack
open Go.Proofs.YtmfopcbjgbphaaaDoor.B Go.Proofs.YtmfopcbjgbphaaaDoor.K Go.Proofs.YtmfopcbjgbphaaaDoor.R Go.Proofs.YtmfopcbjgbphaaaDoor.L
theorem sumL_mem {α : Type} (f : α → Nat) {l : List α} {a : α} (h : a ∈ l) : f a ≤ sumL f l := by
  induction l with
  | nil => cases h
  | cons b l ih =>
    simp only [sumL] at ih ⊢
    rcases List.mem_cons.1 h with rfl | h
    · omega
    · have := ih h; omega
theorem csz_sum : ∀ v : List api_JNode, cszL v ≤ 6 * sumL sz_api_JNode v
  | [] => Nat.le_refl _
  | x :: v => by
    have := csz_sum v
    have e : sz_api_JNode x = 1 + (x.key.size + 1) + (x.text.size + 1) + 1 + 1 := rfl
    rw [cszL_cons, sumL, e]
    unfold csz
    omega
theorem law (x1 : List api_JNode) (h1 : x1.length * 48 ≤ reachBytes ∧ ∀ x ∈ x1, q_api_JNode x) (hsum : sumL sz_api_JNode x1 + 1 ≤ 1048576) : trellislaw25_JsonBack x1 true := by
  have a1 : IntKind.i64.min = -9223372036854775808 := rfl
  have a2 : IntKind.i64.max = 9223372036854775807 := rfl
  have hr : reachBytes = 140737488351232 := rfl
  have hc := csz_sum x1
  refine back_law ⟨by omega, fun n hn => ?_⟩ (by omega)
  obtain ⟨_, q1, q2, q⟩ := h1.2 n hn
  have := sumL_mem sz_api_JNode hn
  have e : sz_api_JNode n = 1 + (n.key.size + 1) + (n.text.size + 1) + 1 + 1 := rfl
  simp only [Lit.wf, Bool.and_eq_true, decide_eq_true_eq] at q
  rw [a1, a2] at q
  exact ⟨by omega, by omega, by unfold In64; omega⟩
end Go.Proofs.YtmfopcbjgbphaaaDoor.jsonBack
