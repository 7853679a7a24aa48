/- The plain side of chapter 26, more: bytes that come in pieces. No condition. -/
import Derived.Test.YtbejkaeidnajkaaDoorM
import Derived.Test.YtbejkaeidnajkaaDoorT
set_option linter.unusedVariables false
namespace Go.Proofs.YtbejkaeidnajkaaDoor.L
open Go.Proofs.YtbejkaeidnajkaaDoor.B Go.Proofs.YtbejkaeidnajkaaDoor.R
theorem loop_ind {P : List Int → Prop} (step : ∀ b, Bts b → (takeF b).2.2 = 0 → P (b.drop (takeF b).2.1.toNat) → P b) (stay : ∀ b, Bts b → (takeF b).2.2 ≠ 0 → P b) : ∀ (n : Nat) {b : List Int}, b.length = n → Bts b → P b := by
  intro n
  induction n using Nat.strongRecOn with
  | _ n ih =>
    intro b hn hB
    by_cases h0 : (takeF b).2.2 = 0
    · have hp := take_pos hB h0
      exact step b hB h0 (ih (b.length - (takeF b).2.1.toNat) (by omega) (by simp) (hB.drop _))
    · exact stay b hB h0
theorem loop_bts {b : List Int} (hB : Bts b) : Bts (loopF b).2.1 := by
  refine loop_ind (P := fun b => Bts (loopF b).2.1) (fun b hB h0 ih => ?_) (fun b hB h0 => ?_) _ rfl hB
  · rw [loopF_ok hB h0]; exact ih
  · by_cases h1 : (takeF b).2.2 = 260
    · rw [loopF_more h1]; exact hB
    · rw [loopF_err h0 h1]; intro x hx; cases hx
theorem loop_size {b : List Int} (hB : Bts b) : 21 * (loopF b).1.length + (loopF b).2.1.length ≤ b.length := by
  refine loop_ind (P := fun b => 21 * (loopF b).1.length + (loopF b).2.1.length ≤ b.length) (fun b hB h0 ih => ?_) (fun b hB h0 => ?_) _ rfl hB
  · have hp := take_pos hB h0
    rw [loopF_ok hB h0]
    simp only [List.length_cons, List.length_drop] at ih ⊢
    omega
  · by_cases h1 : (takeF b).2.2 = 260
    · rw [loopF_more h1]; simp
    · rw [loopF_err h0 h1]; simp
theorem loop_rest {b : List Int} (hB : Bts b) : (loopF b).2.1.length ≤ 2097179 ∧ ((loopF b).2.2 ≠ 0 → (loopF b).2.1 = []) := by
  refine loop_ind (P := fun b => (loopF b).2.1.length ≤ 2097179 ∧ ((loopF b).2.2 ≠ 0 → (loopF b).2.1 = [])) (fun b hB h0 ih => ?_) (fun b hB h0 => ?_) _ rfl hB
  · rw [loopF_ok hB h0]; exact ih
  · by_cases h1 : (takeF b).2.2 = 260
    · rw [loopF_more h1]; exact ⟨takeF_more h1, fun h => absurd rfl h⟩
    · rw [loopF_err h0 h1]; exact ⟨by simp, fun _ => rfl⟩
theorem loop_app0 {b : List Int} (hB : Bts b) {c : List Int} (hC : Bts c) : (loopF b).2.2 = 0 → loopF (b ++ c) = ((loopF b).1 ++ (loopF ((loopF b).2.1 ++ c)).1, (loopF ((loopF b).2.1 ++ c)).2) := by
  refine loop_ind (P := fun b => (loopF b).2.2 = 0 → loopF (b ++ c) = ((loopF b).1 ++ (loopF ((loopF b).2.1 ++ c)).1, (loopF ((loopF b).2.1 ++ c)).2)) (fun b hB h0 ih => ?_) (fun b hB h0 => ?_) _ rfl hB
  · have hp := take_pos hB h0
    rw [loopF_ok hB h0]
    intro h
    have e := takeF_app (b := b) c (by rw [h0]; decide)
    have ih := ih h
    rw [loopF_ok (hB.app hC) (by rw [e]; exact h0), e, List.drop_append_of_le_length hp.2.2, ih]
    rfl
  · by_cases h1 : (takeF b).2.2 = 260
    · rw [loopF_more h1]; intro _; rfl
    · rw [loopF_err h0 h1]; intro h; exact absurd h h0
theorem loop_app1 {b : List Int} (hB : Bts b) {c : List Int} (hC : Bts c) : (loopF b).2.2 ≠ 0 → loopF (b ++ c) = loopF b := by
  refine loop_ind (P := fun b => (loopF b).2.2 ≠ 0 → loopF (b ++ c) = loopF b) (fun b hB h0 ih => ?_) (fun b hB h0 => ?_) _ rfl hB
  · have hp := take_pos hB h0
    have e := takeF_app (b := b) c (by rw [h0]; decide)
    rw [loopF_ok hB h0]
    intro h
    rw [loopF_ok (hB.app hC) (by rw [e]; exact h0), e, List.drop_append_of_le_length hp.2.2, ih h]
  · by_cases h1 : (takeF b).2.2 = 260
    · rw [loopF_more h1]; intro h; exact absurd rfl h
    · have e := takeF_app (b := b) c h1
      rw [loopF_err h0 h1, loopF_err (b := b ++ c) (by rw [e]; exact h0) (by rw [e]; exact h1), e]
      intro _; rfl
theorem sameTexts_ok {a b : List ByteArray} (ha : a.length < 2 ^ 60) (h : a = b) : trellislaw26_sameTexts a b true := by
  subst h
  unfold trellislaw26_sameTexts
  rw [if_pos rfl]
  refine Rounds.cnt a.length (fun i hi => ?_) ?_
  · unfold trellislaw26_sameTexts_b1
    rw [if_pos (by omega), w64_nat (by omega)]
    exact ⟨by omega, by omega, by rw [if_pos rfl]⟩
  · unfold trellislaw26_sameTexts_b1
    rw [if_neg (by omega)]
theorem bts_flat {cs : List (List Int)} (h : ∀ c ∈ cs, Bts c) : Bts cs.flatten := fun x hx => by
  obtain ⟨c, hc, hx⟩ := List.mem_flatten.1 hx
  exact h c hc x hx
theorem flat_take {cs : List (List Int)} {i : Nat} (hi : i < cs.length) : (cs.take (i + 1)).flatten = (cs.take i).flatten ++ cs[i] := by
  rw [List.take_succ_eq_append_getElem hi, List.flatten_append]
  simp
theorem flat_le {cs : List (List Int)} {i : Nat} : (cs.take i).flatten.length ≤ cs.flatten.length := by
  have := congrArg List.length (congrArg List.flatten (List.take_append_drop i cs))
  rw [List.flatten_append, List.length_append] at this
  omega
/-- what a buffer answers to chunks is what all bytes in one hold -/
theorem feeds_ok {cs : List (List Int)} (hB : ∀ c ∈ cs, Bts c) (h1 : cs.flatten.length < 2 ^ 40) (h2 : cs.length < 2 ^ 40) :
    trellislaw26_feed cs ((loopF cs.flatten).1, (loopF cs.flatten).2.2, ((loopF cs.flatten).2.1.length : Int), true) := by
  have hBt : ∀ i, Bts (cs.take i).flatten := fun i => bts_flat fun c hc => hB c (List.mem_of_mem_take hc)
  unfold trellislaw26_feed
  refine ⟨_, rfl, ?_⟩
  have key := Rounds.upto (B := fun (s : (List ByteArray) × Int × Int × (List Int) × Int) o => trellislaw26_feed_b1 cs s.1 s.2.1 s.2.2.1 s.2.2.2.1 s.2.2.2.2 o) (r := ((loopF cs.flatten).1, (loopF cs.flatten).2.2, ((loopF cs.flatten).2.1.length : Int), true))
    (fun i => ((loopF (cs.take i).flatten).1, (loopF (cs.take i).flatten).2.2, (i : Int), (loopF (cs.take i).flatten).2.1, (loopF (cs.take i).flatten).2.2)) cs.length (fun i hi => ?_) ?_
  · simpa [loop_nil] using key
  · show trellislaw26_feed_b1 cs _ _ (i : Int) _ _ _
    have hc := hB _ (List.getElem_mem hi)
    have hl1 := flat_le (cs := cs) (i := i)
    have hl2 := flat_le (cs := cs) (i := i + 1)
    rw [flat_take hi, List.length_append] at hl2
    have hs1 := loop_size (hBt i)
    have hr1 := loop_rest (hBt i)
    have hr2 := loop_rest (hBt (i + 1))
    have hs2 := loop_size (hBt (i + 1))
    rw [flat_take hi] at hr2 hs2 ⊢
    rw [List.length_append] at hs2
    -- what is gathered
    have fin : ∀ (l : List ByteArray) (M : List ByteArray × List Int × Int), loopF ((cs.take i).flatten ++ cs[i]) = ((loopF (cs.take i).flatten).1 ++ l, M.2) → 
        trellislaw26_feed_j2 (l, M.2.2, ⟨M.2.1, M.2.2⟩) i (loopF (cs.take i).flatten).1 false M.2.1 M.2.2 (.inl ((loopF ((cs.take i).flatten ++ cs[i])).1, (loopF ((cs.take i).flatten ++ cs[i])).2.2, ((i + 1 : Nat) : Int), (loopF ((cs.take i).flatten ++ cs[i])).2.1, (loopF ((cs.take i).flatten ++ cs[i])).2.2)) := by
      intro l M hM
      rw [hM] at hr2 hs2 ⊢
      simp only [List.length_append] at hr2 hs2
      unfold trellislaw26_feed_j2
      rw [if_neg (by simp)]
      have := Rounds.upto (B := fun (s : (List ByteArray) × Int) o => trellislaw26_feed_b3 (l, M.2.2, ⟨M.2.1, M.2.2⟩) M.2.1 M.2.2 i s.1 s.2 o) (r := (.inl ((loopF (cs.take i).flatten).1 ++ l, M.2.2, ((i + 1 : Nat) : Int), M.2.1, M.2.2) : Sum ((List ByteArray) × Int × Int × (List Int) × Int) ((List ByteArray) × Int × Int × Bool))) (fun k => ((loopF (cs.take i).flatten).1 ++ l.take k, (k : Int))) l.length (fun k hk => by
        show trellislaw26_feed_b3 _ _ _ _ _ (k : Int) _
        unfold trellislaw26_feed_b3
        rw [if_pos (by show (k : Int) < (l.length : Int); omega), w64_nat (by omega)]
        refine ⟨by show _ ∧ (k : Int) < (l.length : Int); omega, _, rfl, by simp; omega, ?_⟩
        rw [List.append_assoc, take_snoc hk]
        rfl) (by
        show trellislaw26_feed_b3 _ _ _ _ _ (l.length : Int) _
        unfold trellislaw26_feed_b3
        rw [if_neg (by show ¬ (l.length : Int) < (l.length : Int); omega)]
        refine ⟨_, rfl, ?_⟩
        rw [if_neg (by show ¬ (M.2.1.length : Int) > 2097179; omega), List.take_length, w64_nat (by omega)]
        rfl)
      simpa using this
    unfold trellislaw26_feed_b1
    rw [if_pos (by omega), ix_nat hi]
    refine ⟨by omega, ?_⟩
    by_cases h0 : (loopF (cs.take i).flatten).2.2 = 0
    · have hf := feed_ok (x := ⟨(loopF (cs.take i).flatten).2.1, (loopF (cs.take i).flatten).2.2⟩) h0 (loop_bts (hBt i)) hc (by show _ + _ ≤ _; simp only []; omega)
      refine ⟨_, hf, ?_⟩
      rw [if_pos (by exact h0)]
      exact (fin _ (loopF ((loopF (cs.take i).flatten).2.1 ++ cs[i])) (loop_app0 (hBt i) hc h0))
    · refine ⟨_, feed_no (x := ⟨(loopF (cs.take i).flatten).2.1, (loopF (cs.take i).flatten).2.2⟩) h0 _, ?_⟩
      rw [if_neg (by exact h0), if_pos (by rfl), if_pos (by rfl)]
      have hz := hr1.2 h0
      refine ⟨_, rfl, ?_⟩
      have e := loop_app1 (hBt i) hc h0
      have := fin [] (loopF (cs.take i).flatten) (by rw [e]; simp)
      simp only [hz, List.length_nil] at this ⊢
      exact this
  · show trellislaw26_feed_b1 cs _ _ (cs.length : Int) _ _ _
    unfold trellislaw26_feed_b1
    rw [if_neg (by omega), List.take_length]
    exact ⟨_, rfl, rfl⟩
theorem sum_flat (cs : List (List Int)) : sumL (fun xs : List Int => sumL (fun _ : Int => 1) xs + 1) cs = cs.flatten.length + cs.length := by
  induction cs with
  | nil => rfl
  | cons c cs ih => rw [sumL, ih, sumL_one]; simp; omega
end Go.Proofs.YtbejkaeidnajkaaDoor.L
