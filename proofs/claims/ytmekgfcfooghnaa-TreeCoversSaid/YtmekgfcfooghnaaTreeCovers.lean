/- The plain side of TreeCovers. No condition. -/
import Derived.Test.YtmekgfcfooghnaaJ15
import Derived.Test.YtmekgfcfooghnaaT
namespace Go.Proofs.Ytmekgfcfooghnaa.treeCovers
open Go.Proofs.Ytmekgfcfooghnaa.B Go.Proofs.Ytmekgfcfooghnaa.K Go.Proofs.Ytmekgfcfooghnaa.R Go.Proofs.Ytmekgfcfooghnaa.L
theorem wf64 {n : Int} (h : (Lit.int .i64 n).wf = true) : -9223372036854775808 ≤ n ∧ n ≤ 9223372036854775807 := by
  have a1 : IntKind.i64.min = -9223372036854775808 := rfl
  have a2 : IntKind.i64.max = 9223372036854775807 := rfl
  simp only [Lit.wf, Bool.and_eq_true, decide_eq_true_eq] at h
  rwa [a1, a2] at h
theorem lgOk {x : api_Lang} (h : q_api_Lang x) : LgOk x ∧ ∀ p ∈ x.gram.prods, p.lhs ≤ 9223372036854775807 := by
  have hr : reachBytes = 140737488351232 := rfl
  obtain ⟨_, _, ⟨t1, s1, p1, p2⟩, _⟩ := h
  have t2 : x.gram.terms.length * 24 ≤ reachBytes := t1.1
  have s2 : x.gram.syms.length * 24 ≤ reachBytes := s1.1
  have p3 : x.gram.prods.length * 32 ≤ reachBytes := p1
  refine ⟨⟨by omega, by omega, by omega, fun p hp => ?_⟩, fun p hp => (wf64 (p2 p hp).1).2⟩
  obtain ⟨_, r1, r2⟩ := p2 p hp
  have r3 : p.rhs.length * 40 ≤ reachBytes := r1
  exact ⟨by omega, fun r hr => (wf64 (r2 r hr).1).2⟩
theorem law (x1 : api_Lang) (x2 : List trellislaw15_Op) (x3 : Int) (h1 : q_api_Lang x1) (h2 : x2.length * 24 ≤ reachBytes ∧ ∀ x ∈ x2, q_trellislaw15_Op x) (_ : (Lit.int .i64 x3).wf = true) : trellislaw15_TreeCovers x1 x2 x3 true := by
  have hr : reachBytes = 140737488351232 := rfl
  obtain ⟨l1, l2⟩ := lgOk h1
  exact coversLaw l1 l2 ⟨by omega, fun o ho => wf64 (h2.2 o ho).1⟩ x3
end Go.Proofs.Ytmekgfcfooghnaa.treeCovers
