/- The plain side of FirstCuts. Its condition: the two rows together are of at most 1048576 elements. -/
import Derived.Test.YtelafghkjlpojaaFirstDerives
set_option linter.unusedVariables false
namespace Go.Proofs.Ytelafghkjlpojaa.firstCuts
open Go.Proofs.Ytelafghkjlpojaa.B Go.Proofs.Ytelafghkjlpojaa.K Go.Proofs.Ytelafghkjlpojaa.R Go.Proofs.Ytelafghkjlpojaa.L Go.Proofs.Ytelafghkjlpojaa.firstDerives
theorem law (x1 : api_Gram) (x2 x3 : List api_Ref) (x4 : Int) (h1 : q_api_Gram x1) (h2 : x2.length * 40 ≤ reachBytes ∧ ∀ x ∈ x2, q_api_Ref x) (h3 : x3.length * 40 ≤ reachBytes ∧ ∀ x ∈ x3, q_api_Ref x) (h4 : (Lit.int .u64 x4).wf = true) (hsum : x2.length + x3.length ≤ 1048576) : trellislaw11_FirstCuts x1 x2 x3 x4 true := by
  obtain ⟨⟨a1, _⟩, ⟨a2, _⟩, a3, a4⟩ := h1
  have hl : Lg x1 := lg_of a1 a2 a3 fun p hp => (a4 p hp).2.1
  have hu := U.of_wf h4
  have hx : (x2 ++ x3).length < 2 ^ 60 := by simp; omega
  have fin : trellislaw11_FirstCuts_b2 x3 x1 x4 x2 (x2 ++ x3) x3.length (.inr (.inr true)) := by
    unfold trellislaw11_FirstCuts_b2
    rw [if_neg (by omega)]
    by_cases hg : soundB x1 = true
    · by_cases hk : rowOk x1 (x2 ++ x3) = true
      · obtain ⟨s, hs, hG⟩ := solve_ok hl hg
        obtain ⟨k2, k3⟩ := rowOk_app.1 hk
        refine ⟨_, of_ok hl hg hs hx hk x4, _, sound2 hl, ?_⟩
        rw [if_pos hg]
        refine ⟨_, symbols2 hl hx, ?_⟩
        rw [hk]
        unfold trellislaw11_FirstCuts_j3
        rw [if_neg (by simp)]
        have hU3 := ofV_U hG.ok (row := x3) hu
        refine ⟨_, of_ok hl hg hs (by omega) k3 x4, _, of_ok hl hg hs (by omega) k2 _, ?_⟩
        rw [if_pos]
        · refine ⟨_, of_ok hl hg hs (row := []) (by simp) rfl x4, ?_⟩
          have : ofV s [] x4 = x4 := has_ext (ofV_U hG.ok hu) hu fun t => by rw [ofV_mem hG.ok t hu]; rfl
          rw [this, beq_self_eq_true]
        · refine has_ext (ofV_U hG.ok hu) (ofV_U hG.ok hU3) fun t => ?_
          rw [ofV_mem hG.ok t hu, ofV_mem hG.ok t hU3, ofV_mem hG.ok t hu, mem_app]
      · rw [Bool.not_eq_true] at hk
        refine ⟨0, of_no hl hx (.inr hk) x4, _, sound2 hl, ?_⟩
        rw [if_pos hg]
        refine ⟨_, symbols2 hl hx, ?_⟩
        rw [hk]
        unfold trellislaw11_FirstCuts_j3
        rw [if_pos (by rfl)]
        rfl
    · rw [Bool.not_eq_true] at hg
      refine ⟨0, of_no hl hx (.inl hg) x4, _, sound2 hl, ?_⟩
      rw [hg, if_neg (by simp)]
      unfold trellislaw11_FirstCuts_j3
      rw [if_pos (by rfl)]
      rfl
  unfold trellislaw11_FirstCuts
  refine ⟨true, started_ok, ?_⟩
  rw [if_pos rfl]
  have l2 := Rounds.upto (B := fun (s : (List api_Ref) × Int) o => trellislaw11_FirstCuts_b2 x3 x1 x4 x2 s.1 s.2 o) (r := (.inr true : Sum ((List api_Ref) × Int) Bool)) (fun i => (x2 ++ x3.take i, (i : Int))) x3.length (fun i hi => by
    show trellislaw11_FirstCuts_b2 x3 x1 x4 x2 _ _ _
    unfold trellislaw11_FirstCuts_b2
    rw [if_pos (by omega), w64_nat (by omega)]
    refine ⟨by omega, _, rfl, by simp; omega, ?_⟩
    rw [List.append_assoc, take_snoc hi]
    rfl) (by
    show trellislaw11_FirstCuts_b2 x3 x1 x4 x2 _ _ _
    rw [List.take_length]
    exact fin)
  have l1 := Rounds.upto (B := fun (s : (List api_Ref) × Int) o => trellislaw11_FirstCuts_b1 x2 x3 x1 x4 s.1 s.2 o) (r := true) (fun i => (x2.take i, (i : Int))) x2.length (fun i hi => by
    show trellislaw11_FirstCuts_b1 x2 x3 x1 x4 _ _ _
    unfold trellislaw11_FirstCuts_b1
    rw [if_pos (by omega), w64_nat (by omega)]
    refine ⟨by omega, _, rfl, by simp; omega, ?_⟩
    rw [take_snoc hi]
    rfl) (by
    show trellislaw11_FirstCuts_b1 x2 x3 x1 x4 _ _ _
    unfold trellislaw11_FirstCuts_b1
    rw [if_neg (by omega), List.take_length]
    simpa using l2)
  simpa using l1
end Go.Proofs.Ytelafghkjlpojaa.firstCuts
