/- The plain side of WordsSpell. Its condition: all words together are of at most 1048576 bytes. -/
import Derived.Test.YtkaejoffnkhbpaaDoorW
import Derived.Test.YtkaejoffnkhbpaaDoorT
namespace Go.Proofs.YtkaejoffnkhbpaaDoor.wordsSpell
open Go.Proofs.YtkaejoffnkhbpaaDoor.B Go.Proofs.YtkaejoffnkhbpaaDoor.K Go.Proofs.YtkaejoffnkhbpaaDoor.R Go.Proofs.YtkaejoffnkhbpaaDoor.L
theorem law (x1 : List api_Word) (h1 : x1.length * 40 ≤ reachBytes ∧ ∀ x ∈ x1, q_api_Word x) (hsum : sumL sz_api_Word x1 + 1 ≤ 1048576) : trellislaw8_WordsSpell x1 true := by
  refine spellLaw ?_ fun w hw => ?_
  · have := sumL_len sz_api_Word (fun a => by unfold sz_api_Word; omega) x1
    omega
  · have := sumL_mem sz_api_Word hw
    obtain ⟨_, _, q3, _⟩ := h1.2 w hw
    have e : sz_api_Word w = 1 + (w.text.size + 1) + 1 + 1 + 1 := rfl
    simp only [Lit.wf, Bool.and_eq_true, decide_eq_true_eq] at q3
    have a1 : IntKind.i64.min = -9223372036854775808 := rfl
    have a2 : IntKind.i64.max = 9223372036854775807 := rfl
    rw [a1, a2] at q3
    exact ⟨by omega, by omega, by omega⟩
end Go.Proofs.YtkaejoffnkhbpaaDoor.wordsSpell
