/- The plain side of RpcPieces. Its condition: all chunks together are of at most 1048576 bytes. -/
import Derived.Test.YtbejkaeidnajkaaDoorN
set_option linter.unusedVariables false
namespace Go.Proofs.YtbejkaeidnajkaaDoor.rpcPieces
open Go.Proofs.YtbejkaeidnajkaaDoor.B Go.Proofs.YtbejkaeidnajkaaDoor.K Go.Proofs.YtbejkaeidnajkaaDoor.R Go.Proofs.YtbejkaeidnajkaaDoor.L
theorem law (x1 : List (List Int)) (h1 : x1.length * 24 ≤ reachBytes ∧ ∀ c ∈ x1, c.length * 1 ≤ reachBytes ∧ ∀ x ∈ c, (Lit.int .u8 x).wf = true) (hsum : sumL (fun xs : List Int => sumL (fun _ : Int => 1) xs + 1) x1 + 1 ≤ 1048576) : trellislaw26_RpcPieces x1 true := by
  rw [sum_flat] at hsum
  have hB : ∀ c ∈ x1, Bts c := fun c hc => bts_of (h1.2 c hc).2
  unfold trellislaw26_RpcPieces
  refine ⟨true, started_ok, ?_⟩
  rw [if_pos rfl]
  have key := Rounds.upto (B := fun (s : (List Int) × Int) o => trellislaw26_RpcPieces_b1 x1 s.1 s.2 o) (r := true) (fun i => ((x1.take i).flatten, (i : Int))) x1.length (fun i hi => ?_) ?_
  · simpa using key
  · show trellislaw26_RpcPieces_b1 x1 _ (i : Int) _
    have hl2 := flat_le (cs := x1) (i := i + 1)
    rw [flat_take hi, List.length_append] at hl2
    unfold trellislaw26_RpcPieces_b1
    rw [if_pos (by omega), flat_take hi]
    have := Rounds.upto (B := fun (s : (List Int) × Int) o => trellislaw26_RpcPieces_b2 i x1 s.1 s.2 o) (r := (.inl ((x1.take i).flatten ++ x1[i], ((i + 1 : Nat) : Int)) : Sum ((List Int) × Int) Bool)) (fun k => ((x1.take i).flatten ++ x1[i].take k, (k : Int))) x1[i].length (fun k hk => by
      show trellislaw26_RpcPieces_b2 i x1 _ (k : Int) _
      unfold trellislaw26_RpcPieces_b2
      rw [ix_nat hi, if_pos (by omega), w64_nat (by omega)]
      refine ⟨by omega, by omega, _, rfl, by simp only [List.length_append, List.length_take, List.length_cons, List.length_nil]; omega, ?_⟩
      rw [List.append_assoc, take_snoc hk]
      rfl) (by
      show trellislaw26_RpcPieces_b2 i x1 _ (x1[i].length : Int) _
      unfold trellislaw26_RpcPieces_b2
      rw [ix_nat hi, if_neg (by omega), List.take_length, w64_nat (by omega)]
      exact ⟨by omega, rfl⟩)
    simpa using this
  · show trellislaw26_RpcPieces_b1 x1 _ (x1.length : Int) _
    unfold trellislaw26_RpcPieces_b1
    rw [if_neg (by omega), List.take_length]
    refine ⟨_, feeds_ok hB (by omega) (by omega), _, feeds_ok (cs := [x1.flatten]) (by intro c hc; simp at hc; subst hc; exact bts_flat hB) (by rw [show [x1.flatten].flatten = x1.flatten by simp]; omega) (by simp), ?_⟩
    have e : [x1.flatten].flatten = x1.flatten := by simp
    rw [e]
    have hs := loop_size (bts_flat hB)
    rw [if_pos (by rfl), if_pos (by rfl)]
    refine ⟨_, sameTexts_ok (by show (loopF x1.flatten).1.length < _; omega) rfl, ?_⟩
    rw [if_pos rfl, if_pos (by rfl), if_pos (by rfl)]
end Go.Proofs.YtbejkaeidnajkaaDoor.rpcPieces
