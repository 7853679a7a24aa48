/- The plain side of chapter 26, more: buffers. No condition. -/
import Derived.Test.YtbejkaeidnajkaaDoorL
import Derived.SizedLaws
set_option linter.unusedVariables false
namespace Go.Proofs.YtbejkaeidnajkaaDoor.L
open Go.Proofs.YtbejkaeidnajkaaDoor.B Go.Proofs.YtbejkaeidnajkaaDoor.R
/-- all messages that are whole, what is left, the error -/
def loopF (b : List Int) : List ByteArray × List Int × Int :=
  if h : (takeF b).2.2 = 0 ∧ 0 < (takeF b).2.1 ∧ 0 < b.length then
    ((takeF b).1 :: (loopF (b.drop (takeF b).2.1.toNat)).1, (loopF (b.drop (takeF b).2.1.toNat)).2)
  else if (takeF b).2.2 = 260 then ([], b, 0) else ([], [], (takeF b).2.2)
  termination_by b.length
  decreasing_by all_goals (simp; omega)
theorem take_pos {b : List Int} (hB : Bts b) (h : (takeF b).2.2 = 0) : 21 ≤ (takeF b).2.1 ∧ (takeF b).2.1 ≤ (b.length : Int) ∧ (takeF b).2.1.toNat ≤ b.length := by
  obtain ⟨h1, h2, h3⟩ := takeF_inv hB (s := (takeF b).1) (n := (takeF b).2.1) (Prod.ext rfl (Prod.ext rfl h))
  have l1 := frame_len (takeF b).1
  have l2 := congrArg List.length h3
  have l3 := D_pos (takeF b).1.size
  simp only [List.length_append] at l2
  omega
theorem loopF_ok {b : List Int} (hB : Bts b) (h : (takeF b).2.2 = 0) : loopF b = ((takeF b).1 :: (loopF (b.drop (takeF b).2.1.toNat)).1, (loopF (b.drop (takeF b).2.1.toNat)).2) := by
  have := take_pos hB h
  rw [loopF, dif_pos ⟨h, by omega, by omega⟩]
theorem loopF_more {b : List Int} (h : (takeF b).2.2 = 260) : loopF b = ([], b, 0) := by
  rw [loopF, dif_neg (by rw [h]; simp), if_pos h]
theorem loopF_err {b : List Int} (h0 : (takeF b).2.2 ≠ 0) (h : (takeF b).2.2 ≠ 260) : loopF b = ([], [], (takeF b).2.2) := by
  rw [loopF, dif_neg (fun e => h0 e.1), if_neg h]
theorem feedLoop {x : rpc_Buffer} (hx : x.code = 0) : ∀ (n : Nat) {b : List Int} {acc : List ByteArray}, b.length = n → Bts b → b.length + 21 * acc.length ≤ 140737488355328 →
    Rounds (fun (s : (List ByteArray) × (List Int)) o => rpc_Buffer_Feed_b1 x s.1 s.2 o) (acc, b) (acc ++ (loopF b).1, (loopF b).2.2, (⟨(loopF b).2.1, (loopF b).2.2⟩ : rpc_Buffer)) := by
  intro n
  induction n using Nat.strongRecOn with
  | _ n ih =>
    intro b acc hn hB hl
    have ht := take_ok (by omega) hB
    by_cases h0 : (takeF b).2.2 = 0
    · have hp := take_pos hB h0
      have hd : (b.drop (takeF b).2.1.toNat).length = b.length - (takeF b).2.1.toNat := by simp
      refine .next (s' := (acc ++ [(takeF b).1], b.drop (takeF b).2.1.toNat)) ?_ ?_
      · refine ⟨_, ht, ?_⟩
        rw [if_pos h0]
        refine ⟨_, rfl, by simp; omega, by dsimp only; omega, ?_⟩
        rw [show ((b.length : Int) : Int).toNat = b.length by omega, List.take_length]
      · have := ih (b.length - (takeF b).2.1.toNat) (by omega) (b := b.drop (takeF b).2.1.toNat) (acc := acc ++ [(takeF b).1]) hd (hB.drop _) (by rw [hd]; simp; omega)
        rw [loopF_ok hB h0]
        simpa using this
    · refine .done ⟨_, ht, ?_⟩
      rw [if_neg h0]
      by_cases h1 : (takeF b).2.2 = 260
      · rw [if_pos h1, loopF_more h1, hx]; simp
      · rw [if_neg h1, loopF_err h0 h1]; simp
theorem copied_all (a b : List Int) : copied (copied (List.replicate (a.length + b.length) (0 : Int)) 0 (List.replicate (a.length + b.length) (0 : Int)).length a) a.length b.length b = a ++ b := by
  have e1 : copied (List.replicate (a.length + b.length) (0 : Int)) 0 (List.replicate (a.length + b.length) (0 : Int)).length a = a ++ List.replicate b.length 0 := by
    unfold copied
    rw [List.length_replicate, List.take_zero, List.nil_append, List.take_of_length_le (by omega), Nat.zero_add, List.drop_replicate]
    congr 2; omega
  rw [e1]
  unfold copied
  rw [List.take_length, List.take_left' rfl, List.drop_eq_nil_of_le (by simp), List.append_nil]
theorem feed_ok {x : rpc_Buffer} (hx : x.code = 0) {c : List Int} (hB : Bts x.wait) (hC : Bts c) (hl : x.wait.length + c.length ≤ 140737488355328) :
    rpc_Buffer_Feed x c ((loopF (x.wait ++ c)).1, (loopF (x.wait ++ c)).2.2, (⟨(loopF (x.wait ++ c)).2.1, (loopF (x.wait ++ c)).2.2⟩ : rpc_Buffer)) := by
  unfold rpc_Buffer_Feed
  rw [if_pos hx]
  have w : w64 ((x.wait.length : Int) + (c.length : Int)) = ((x.wait.length + c.length : Nat) : Int) := by rw [w64_id (by omega)]; omega
  rw [w, Int.toNat_natCast]
  have e1 : (copied (List.replicate (x.wait.length + c.length) (0 : Int)) 0 (List.replicate (x.wait.length + c.length) (0 : Int)).length x.wait).length = x.wait.length + c.length := by
    unfold copied
    simp
  refine ⟨by omega, _, rfl, _, rfl, by rw [e1]; omega, x.wait ++ c, ?_, ?_⟩
  · rw [show ((x.wait.length : Int) : Int).toNat = x.wait.length by omega]
    have e2 : (List.take (((x.wait.length + c.length : Nat) : Int).toNat - x.wait.length) (List.drop x.wait.length (copied (List.replicate (x.wait.length + c.length) (0 : Int)) 0 (List.replicate (x.wait.length + c.length) (0 : Int)).length x.wait))).length = c.length := by
      rw [List.length_take, List.length_drop, e1]; omega
    rw [e2]
    exact (copied_all _ _).symm
  · simpa using feedLoop hx _ (acc := []) rfl (hB.app hC) (by simp; omega)
theorem feed_no {x : rpc_Buffer} (hx : x.code ≠ 0) (c : List Int) : rpc_Buffer_Feed x c ([], x.code, x) := by
  unfold rpc_Buffer_Feed
  rw [if_neg hx]
def br : ByteArray := ⟨#[123, 125]⟩
theorem take_nil : (takeF []).2.2 = 260 := by decide
theorem frame_loop {s : ByteArray} (hs : s.size ≤ 2097152) (c : List Int) (hC : Bts c) : loopF (frame s ++ c) = (s :: (loopF c).1, (loopF c).2) := by
  have h := frame_take hs c
  rw [loopF_ok ((frame_bts s).app hC) (by rw [h])]
  rw [h]
  simp only [Int.toNat_natCast]
  rw [List.drop_left' rfl]
theorem loop_nil : loopF [] = ([], [], 0) := loopF_more take_nil
theorem started_ok : trellislaw26_started true := by
  have hs : br.size = 2 := rfl
  have hl : (frame br).length = 23 := by rw [frame_len, hs, D_small (by omega)]; rfl
  have h16 : ix (frame br) 16 = 50 := by
    have : frame br = hdL ++ (D 2 ++ (bhL ++ bsOf br)) := rfl
    rw [this, D_small (by omega)]
    rfl
  have ht := frame_take (s := br) (by rw [hs]; omega) []
  rw [List.append_nil] at ht
  have hk := take_ok (b := frame br) (by omega) (frame_bts br)
  rw [ht] at hk
  unfold trellislaw26_started
  refine ⟨_, put_ok (s := br) (by rw [hs]; omega), ?_⟩
  rw [if_pos (by rfl), if_pos (by show ((frame br).length : Int) = 23; omega)]
  refine ⟨by show _ ∧ _ < ((frame br).length : Int); omega, ?_⟩
  unfold trellislaw26_started_j1
  rw [if_neg (by show ¬ (ix (frame br) 16 != 50) = true; rw [h16]; simp)]
  refine ⟨_, hk, _, rfl, ?_⟩
  rw [if_pos (by rfl), if_pos (by rfl)]
  unfold trellislaw26_started_j2
  rw [if_neg (by show ¬ (((frame br).length : Int) != 23) = true; rw [hl]; simp)]
  have hf := feed_ok (x := ⟨[], 0⟩) rfl (c := frame br) (by intro x hx; cases hx) (frame_bts br) (by simp; omega)
  have hlp := frame_loop (s := br) (by rw [hs]; omega) [] (by intro x hx; cases hx)
  rw [List.append_nil, loop_nil] at hlp
  simp only [List.nil_append] at hf
  rw [hlp] at hf
  refine ⟨_, hf, ?_⟩
  rw [if_pos (by rfl), if_pos (by rfl)]
  refine ⟨by simp, ?_⟩
  rw [if_pos (by rfl)]
  exact ⟨_, rfl, rfl⟩
theorem sameBytes_ok {a b : List Int} (ha : a.length < 2 ^ 60) (h : a = b) : trellislaw26_sameBytes a b true := by
  subst h
  unfold trellislaw26_sameBytes
  rw [if_pos rfl]
  refine Rounds.cnt a.length (fun i hi => ?_) ?_
  · unfold trellislaw26_sameBytes_b1
    rw [if_pos (by omega), w64_nat (by omega)]
    exact ⟨by omega, by omega, by rw [if_pos rfl]⟩
  · unfold trellislaw26_sameBytes_b1
    rw [if_neg (by omega)]
theorem take_snoc {α : Type} [Inhabited α] {xs : List α} {i : Nat} (h : i < xs.length) : xs.take i ++ [ix xs (i : Int)] = xs.take (i + 1) := by
  rw [ix_nat h, List.take_succ_eq_append_getElem h]
theorem bts_of {b : List Int} (h : ∀ x ∈ b, (Lit.int .u8 x).wf = true) : Bts b := fun x hx => by
  have := h x hx
  simp only [Lit.wf, Bool.and_eq_true, decide_eq_true_eq] at this
  have h1 : IntKind.u8.min = 0 := rfl
  have h2 : IntKind.u8.max = 255 := rfl
  rw [h1, h2] at this
  exact this
theorem pre_take {b F : List Int} (h : b = F ++ b.drop F.length) : b.take F.length = F := by
  have := congrArg (List.take F.length) h
  rw [List.take_left' rfl] at this
  exact this
theorem canon {b : List Int} (h1 : b.length * 1 ≤ reachBytes ∧ ∀ x ∈ b, (Lit.int .u8 x).wf = true) : trellislaw26_RpcCanon b true := by
  have hr := reachBytes_lt
  have hB := bts_of h1.2
  have hb : b.length < 2 ^ 60 := by omega
  unfold trellislaw26_RpcCanon
  refine ⟨true, started_ok, ?_⟩
  rw [if_pos rfl]
  refine ⟨_, take_ok hb hB, ?_⟩
  by_cases h0 : (takeF b).2.2 = 0
  · rw [if_pos h0]
    obtain ⟨e1, e2, e3⟩ := takeF_inv hB (s := (takeF b).1) (n := (takeF b).2.1) (Prod.ext rfl (Prod.ext rfl h0))
    refine ⟨_, put_ok e1, ?_⟩
    have l2 := congrArg List.length e3
    simp only [List.length_append] at l2
    rw [if_pos (by rfl), if_pos e2, if_pos (by omega)]
    refine ⟨by omega, _, sameBytes_ok (by show (frame (takeF b).1).length < _; omega) ?_, rfl⟩
    rw [e2, Int.toNat_natCast]
    exact (pre_take e3).symm
  · rw [if_neg h0]
    obtain ⟨e1, e2, e3⟩ := takeF_err h0
    rw [if_pos e1, if_pos e2]
    unfold trellislaw26_RpcCanon_j1
    rcases e3 with e3 | e3 | e3
    · rw [if_pos e3]
    · rw [if_neg (by omega), if_pos e3]
    · rw [if_neg (by omega), if_neg (by omega), e3]; rfl
theorem back {s : ByteArray} {b : List Int} {k : Int} (hs : s.size ≤ reachBytes) (h1 : b.length * 1 ≤ reachBytes ∧ ∀ x ∈ b, (Lit.int .u8 x).wf = true) : trellislaw26_RpcBack s b k true := by
  have hr := reachBytes_lt
  have hB := bts_of h1.2
  unfold trellislaw26_RpcBack
  refine ⟨true, started_ok, ?_⟩
  rw [if_pos rfl]
  by_cases hbig : s.size > 2097152
  · refine ⟨_, put_no hbig, ?_⟩
    rw [if_pos (by omega), if_pos (by rfl)]
    rfl
  · have hs2 : s.size ≤ 2097152 := by omega
    refine ⟨_, put_ok hs2, ?_⟩
    rw [if_neg (by omega), if_pos (by rfl)]
    have hl := frame_len s
    have hD : (D s.size).length ≤ 7 := D_len 6 (by omega)
    have fin : trellislaw26_RpcBack_b3 b s k (frame s, 0) (frame s ++ b) b.length (.inr (.inr true)) := by
      unfold trellislaw26_RpcBack_b3
      rw [if_neg (by omega)]
      have ht := take_ok (b := frame s ++ b) (by simp; omega) ((frame_bts s).app hB)
      rw [frame_take hs2 b] at ht
      refine ⟨_, ht, ?_⟩
      rw [if_pos (by rfl), if_pos (by rfl)]
      unfold trellislaw26_RpcBack_j4
      rw [if_neg (by simp)]
      unfold trellislaw26_RpcBack_j5
      by_cases k0 : k < 0
      · rw [if_pos k0, if_pos rfl]
      · rw [if_neg k0]
        by_cases k1 : k ≥ ((frame s).length : Int)
        · rw [if_pos (by exact decide_eq_true k1)]
        · rw [if_neg (by simp only [decide_eq_true_eq]; exact k1)]
          have hk : k.toNat < (frame s).length := by omega
          have hcut : (takeF ((frame s).take k.toNat)).2.2 = 260 := by
            rcases Decidable.em ((takeF ((frame s).take k.toNat)).2.2 = 260) with h | h
            · exact h
            · have h2 := takeF_app ((frame s).drop k.toNat) h
              rw [List.take_append_drop] at h2
              have h3 := frame_take hs2 []
              rw [List.append_nil, h2] at h3
              have h4 := take_pos ((frame_bts s).take k.toNat) (by rw [h3])
              rw [h3] at h4
              have h5 := h4.2.1
              simp only [List.length_take] at h5
              omega
          refine ⟨by dsimp only; omega, _, rfl, _, take_ok (by simp; omega) ((frame_bts s).take _), ?_⟩
          obtain ⟨e1, e2, _⟩ := takeF_err (b := (frame s).take k.toNat) (by rw [hcut]; decide)
          rw [if_pos hcut, if_pos e1, e2]
          rfl
    have l2 := Rounds.upto (B := fun (q : (List Int) × Int) o => trellislaw26_RpcBack_b3 b s k (frame s, 0) q.1 q.2 o) (r := (.inr true : Sum ((List Int) × Int) Bool)) (fun i => (frame s ++ b.take i, (i : Int))) b.length (fun i hi => by
      show trellislaw26_RpcBack_b3 b s k (frame s, 0) _ _ _
      unfold trellislaw26_RpcBack_b3
      rw [if_pos (by omega), w64_nat (by omega)]
      refine ⟨by omega, _, rfl, by simp; omega, ?_⟩
      rw [List.append_assoc, take_snoc hi]
      rfl) (by
      show trellislaw26_RpcBack_b3 b s k (frame s, 0) _ _ _
      rw [List.take_length]
      exact fin)
    have l1 := Rounds.upto (B := fun (q : (List Int) × Int) o => trellislaw26_RpcBack_b2 (frame s, 0) b s k q.1 q.2 o) (r := true) (fun i => ((frame s).take i, (i : Int))) (frame s).length (fun i hi => by
      show trellislaw26_RpcBack_b2 (frame s, 0) b s k _ _ _
      unfold trellislaw26_RpcBack_b2
      rw [if_pos (by show (i : Int) < ((frame s).length : Int); omega), w64_nat (by omega)]
      refine ⟨by show _ ∧ (i : Int) < ((frame s).length : Int); omega, _, rfl, by simp; omega, ?_⟩
      rw [take_snoc hi]
      rfl) (by
      show trellislaw26_RpcBack_b2 (frame s, 0) b s k _ _ _
      unfold trellislaw26_RpcBack_b2
      rw [if_neg (by show ¬ ((frame s).length : Int) < ((frame s).length : Int); omega), List.take_length]
      simpa using l2)
    simpa using l1
end Go.Proofs.YtbejkaeidnajkaaDoor.L
