/- The plain side of RpcCarries. Its condition: all that is handed in is of bulk at most 1048576. -/
import Derived.Test.YtbejkaeidnajkaaDoorN
set_option linter.unusedVariables false
namespace Go.Proofs.YtbejkaeidnajkaaDoor.rpcCarries
open Go.Proofs.YtbejkaeidnajkaaDoor.B Go.Proofs.YtbejkaeidnajkaaDoor.K Go.Proofs.YtbejkaeidnajkaaDoor.R Go.Proofs.YtbejkaeidnajkaaDoor.L
/-- all frames -/
def F (bs : List ByteArray) : List Int := (bs.map frame).flatten
theorem F_cons (b : ByteArray) (bs : List ByteArray) : F (b :: bs) = frame b ++ F bs := by simp [F]
theorem F_bts (bs : List ByteArray) : Bts (F bs) := bts_flat fun c hc => by
  obtain ⟨b, _, rfl⟩ := List.mem_map.1 hc
  exact frame_bts b
theorem F_take {bs : List ByteArray} {i : Nat} (hi : i < bs.length) : F (bs.take (i + 1)) = F (bs.take i) ++ frame bs[i] := by
  unfold F
  rw [List.take_succ_eq_append_getElem hi, List.map_append, List.flatten_append]
  simp
theorem F_le {bs : List ByteArray} (i : Nat) : (F (bs.take i)).length ≤ (F bs).length := by
  have h : F bs = F (bs.take i) ++ F (bs.drop i) := by
    unfold F
    rw [← List.flatten_append, ← List.map_append, List.take_append_drop]
  rw [h, List.length_append]; omega
theorem F_len {bs : List ByteArray} (hs : ∀ b ∈ bs, b.size ≤ 2097152) : (F bs).length ≤ 27 * sumL (fun s : ByteArray => s.size + 1) bs := by
  induction bs with
  | nil => simp [F]
  | cons b bs ih =>
    have := ih fun c hc => hs c (by simp [hc])
    have hl := frame_len b
    have hD : (D b.size).length ≤ 7 := D_len 6 (by have := hs b (by simp); omega)
    rw [F_cons, List.length_append, sumL]
    omega
/-- how many frames are whole in the first m bytes -/
def cnt : List ByteArray → Nat → Nat
  | [], _ => 0
  | b :: bs, m => if (frame b).length ≤ m then cnt bs (m - (frame b).length) + 1 else 0
theorem cnt_le : ∀ bs m, cnt bs m ≤ bs.length
  | [], m => Nat.le_refl 0
  | b :: bs, m => by
    rw [cnt]
    split
    · have := cnt_le bs (m - (frame b).length); simp; omega
    · simp
theorem cnt_in : ∀ {bs : List ByteArray} {m j : Nat}, j < cnt bs m → (F (bs.take (j + 1))).length ≤ m
  | [], m, j, h => by simp [cnt] at h
  | b :: bs, m, j, h => by
    rw [cnt] at h
    split at h
    · rename_i hb
      rw [List.take_succ_cons, F_cons, List.length_append]
      match j, h with
      | 0, _ => simp [F]; exact hb
      | j + 1, h => have := cnt_in (bs := bs) (m := m - (frame b).length) (j := j) (by omega); omega
    · omega
theorem cnt_out : ∀ {bs : List ByteArray} {m : Nat}, cnt bs m < bs.length → m < (F (bs.take (cnt bs m + 1))).length
  | [], m, h => by simp at h
  | b :: bs, m, h => by
    rw [cnt] at h ⊢
    split
    · rename_i hb
      rw [if_pos hb] at h
      rw [List.take_succ_cons, F_cons, List.length_append]
      have := cnt_out (bs := bs) (m := m - (frame b).length) (by simpa using h)
      omega
    · rename_i hb
      rw [List.take_succ_cons, F_cons, List.length_append]
      omega
theorem cnt_has : ∀ {bs : List ByteArray} {m : Nat}, (F (bs.take (cnt bs m))).length ≤ m
  | [], m => by simp [F]
  | b :: bs, m => by
    rw [cnt]
    split
    · rename_i hb
      rw [List.take_succ_cons, F_cons, List.length_append]
      have := cnt_has (bs := bs) (m := m - (frame b).length)
      omega
    · simp [F]
theorem frame_cut {s : ByteArray} (hs : s.size ≤ 2097152) {k : Nat} (hk : k < (frame s).length) : (takeF ((frame s).take k)).2.2 = 260 := by
  rcases Decidable.em ((takeF ((frame s).take k)).2.2 = 260) with h | h
  · exact h
  · have h2 := takeF_app ((frame s).drop k) h
    rw [List.take_append_drop] at h2
    have h3 := frame_take hs []
    rw [List.append_nil, h2] at h3
    have h4 := take_pos ((frame_bts s).take k) (by rw [h3])
    rw [h3] at h4
    have h5 := h4.2.1
    simp only [List.length_take] at h5
    omega
theorem carries : ∀ {bs : List ByteArray} {m : Nat}, (∀ b ∈ bs, b.size ≤ 2097152) → m ≤ (F bs).length → loopF ((F bs).take m) = (bs.take (cnt bs m), ((F bs).take m).drop (F (bs.take (cnt bs m))).length, 0)
  | [], m, hs, hm => by
    have : F [] = [] := rfl
    rw [this, List.take_nil, loop_nil]; simp
  | b :: bs, m, hs, hm => by
    have hb := hs b (by simp)
    rw [cnt]
    split
    · rename_i h
      have e : (F (b :: bs)).take m = frame b ++ (F bs).take (m - (frame b).length) := by
        rw [F_cons, List.take_append, List.take_of_length_le h]
      have ih := carries (bs := bs) (m := m - (frame b).length) (fun c hc => hs c (by simp [hc])) (by rw [F_cons, List.length_append] at hm; omega)
      rw [e, frame_loop hb _ ((F_bts bs).take _), ih, List.take_succ_cons, F_cons, List.length_append, ← List.drop_drop, List.drop_left' rfl]
    · rename_i h
      have e : (F (b :: bs)).take m = (frame b).take m := by
        rw [F_cons, List.take_append_of_le_length (by omega)]
      rw [e, loopF_more (frame_cut hb (by omega))]
      simp [F]
def ends (bs : List ByteArray) (i : Nat) : List Int := (List.range i).map fun j => ((F (bs.take (j + 1))).length : Int)
theorem ends_succ (bs : List ByteArray) (i : Nat) : ends bs (i + 1) = ends bs i ++ [((F (bs.take (i + 1))).length : Int)] := by
  unfold ends
  rw [List.range_succ, List.map_append]
  rfl
theorem ends_ix {bs : List ByteArray} {n i : Nat} (h : i < n) : ix (ends bs n) (i : Int) = ((F (bs.take (i + 1))).length : Int) := by
  rw [ix_nat (by simp [ends]; omega)]
  simp [ends]
theorem tail_ok {bs : List ByteArray} (hs : ∀ b ∈ bs, b.size ≤ 2097152) (hF : (F bs).length < 2 ^ 40) (hn : bs.length < 2 ^ 40) {m : Nat} (hm : m ≤ (F bs).length) {ps : List Int} (hp : ps.length < 2 ^ 39) (hpr : ∀ x ∈ ps, (Lit.int .i64 x).wf = true) :
    trellislaw26_RpcCarries_j4 ps (ends bs bs.length) bs ((F bs).take m) (.inr true) := by
  have hml : ((F bs).take m).length = m := by rw [List.length_take]; omega
  have hcl := cnt_le bs m
  have fin : ∀ (cs : List (List Int)), (∀ c ∈ cs, Bts c) → cs.flatten = (F bs).take m → cs.length < 2 ^ 40 → ∃ r1471, trellislaw26_feed cs r1471 ∧ Rounds (fun (s : Int × Int) o => trellislaw26_RpcCarries_b9 (ends bs bs.length) ((F bs).take m) r1471 bs s.1 s.2 o) (0, 0) ((.inr (.inr true)) : Sum ((List (List Int)) × Int × Int) (Sum ((List Int) × (List Int) × Int) Bool)) := by
    intro cs hcs hfl hlen
    have hf := feeds_ok hcs (by rw [hfl, hml]; omega) hlen
    rw [hfl, carries hs hm] at hf
    refine ⟨_, hf, ?_⟩
    have hh := cnt_has (bs := bs) (m := m)
    have last : ∀ o : Sum (Int × Int) (Sum ((List (List Int)) × Int × Int) (Sum ((List Int) × (List Int) × Int) Bool)), o = .inr (.inr (.inr true)) →
      (if true = true then
        if (0 : Int) = 0 then
          (0 ≤ (0 : Int) ∧ (0 : Int) ≤ (cnt bs m : Int) ∧ (cnt bs m : Int) ≤ (bs.length : Int)) ∧
          ∃ r1565 : Bool, (trellislaw26_sameTexts (bs.take (cnt bs m)) (bs.take ((cnt bs m : Int) : Int).toNat) r1565) ∧
          if r1565 = true then
            o = .inr (.inr (.inr ((((((F bs).take m).drop (F (bs.take (cnt bs m))).length).length : Int) == (w64 ((((F bs).take m).length : Int) - ((F (bs.take (cnt bs m))).length : Int)))))))
          else
            o = .inr (.inr (.inr (false)))
        else
          o = .inr (.inr (.inr (false)))
      else
        o = .inr (.inr (.inr (false)))) := by
      rintro o rfl
      rw [if_pos rfl, if_pos rfl]
      refine ⟨by omega, _, sameTexts_ok (by rw [List.length_take]; omega) (by rw [Int.toNat_natCast]), ?_⟩
      rw [if_pos rfl, hml, w64_id (by omega), List.length_drop, hml, beq_iff_eq.2 (by omega)]
    have := Rounds.upto (B := fun (s : Int × Int) o => trellislaw26_RpcCarries_b9 (ends bs bs.length) ((F bs).take m) (bs.take (cnt bs m), 0, ((((F bs).take m).drop (F (bs.take (cnt bs m))).length).length : Int), true) bs s.1 s.2 o) (r := ((.inr (.inr true)) : Sum ((List (List Int)) × Int × Int) (Sum ((List Int) × (List Int) × Int) Bool))) (fun j => ((j : Int), ((F (bs.take j)).length : Int))) (cnt bs m) (fun j hj => by
      show trellislaw26_RpcCarries_b9 _ _ _ _ (j : Int) _ _
      have h1 := cnt_in hj
      unfold trellislaw26_RpcCarries_b9
      rw [if_pos (by simp [ends]; omega), ends_ix (by omega), if_pos (by rw [hml]; omega), w64_nat (by omega)]
      exact ⟨by simp [ends]; omega, rfl⟩) (by
      show trellislaw26_RpcCarries_b9 _ _ _ _ (cnt bs m : Int) _ _
      unfold trellislaw26_RpcCarries_b9
      by_cases hc : cnt bs m < bs.length
      · have h2 := cnt_out hc
        rw [if_pos (by simp [ends]; omega), ends_ix hc, if_neg (by rw [hml]; omega)]
        exact ⟨by simp [ends]; omega, last _ rfl⟩
      · rw [if_neg (by simp [ends]; omega)]
        exact last _ rfl)
    simpa [F] using this
  unfold trellislaw26_RpcCarries_j4
  refine Rounds.to (fun q : (List (List Int)) × Int × Int => 0 ≤ q.2.1 ∧ q.2.1 ≤ (m : Int) ∧ 0 ≤ q.2.2 ∧ q.2.2 ≤ (ps.length : Int) ∧ (q.1.length : Int) = q.2.2 ∧ (∀ c ∈ q.1, Bts c) ∧ q.1.flatten = ((F bs).take m).take q.2.1.toNat) (fun q => ((ps.length : Int) - q.2.2).toNat) (fun q hq => ?_) ⟨by simp, by simp, by simp, by simp, by simp, by simp, by simp⟩
  obtain ⟨cs, at_, i⟩ := q
  obtain ⟨i0, i1, i2, i3, i4, i5, i6⟩ := hq
  simp only at i0 i1 i2 i3 i4 i5 i6
  have stop : trellislaw26_RpcCarries_j6 i ps ((F bs).take m) at_ cs (ends bs bs.length) bs false (.inr (.inr true)) := by
    unfold trellislaw26_RpcCarries_j6
    rw [if_neg (by simp)]
    refine ⟨by rw [hml]; omega, _, rfl, by rw [List.length_append]; simp; omega, ?_⟩
    exact fin _ (fun c hc => by
      rcases List.mem_append.1 hc with hc | hc
      · exact i5 c hc
      · simp at hc; subst hc; exact ((F_bts bs).take m).drop _) (by rw [List.flatten_append, i6]; simp) (by rw [List.length_append]; simp; omega)
  show trellislaw26_RpcCarries_b5 ps _ _ bs cs at_ i _ ∨ ∃ s', trellislaw26_RpcCarries_b5 ps _ _ bs cs at_ i (.inl s') ∧ _
  by_cases hi : i < (ps.length : Int)
  · by_cases ha : at_ < (m : Int)
    · right
      have go : ∀ n : Int, 0 ≤ n → at_ + n ≤ m → (∀ o, trellislaw26_RpcCarries_j8 at_ ((F bs).take m) cs i n o → trellislaw26_RpcCarries_b5 ps ((F bs).take m) (ends bs bs.length) bs cs at_ i o) → ∃ s', trellislaw26_RpcCarries_b5 ps ((F bs).take m) (ends bs bs.length) bs cs at_ i (.inl s') ∧ (0 ≤ s'.2.1 ∧ s'.2.1 ≤ (m : Int) ∧ 0 ≤ s'.2.2 ∧ s'.2.2 ≤ (ps.length : Int) ∧ (s'.1.length : Int) = s'.2.2 ∧ (∀ c ∈ s'.1, Bts c) ∧ s'.1.flatten = ((F bs).take m).take s'.2.1.toNat) ∧ ((ps.length : Int) - s'.2.2).toNat < ((ps.length : Int) - i).toNat := by
        intro n n0 n1 hj
        refine ⟨(cs ++ [((((F bs).take m).take (at_ + n).toNat).drop at_.toNat)], at_ + n, i + 1), hj _ ?_, ⟨by show 0 ≤ at_ + n; omega, n1, by show 0 ≤ i + 1; omega, by show i + 1 ≤ _; omega, by show ((cs ++ [_]).length : Int) = i + 1; simp; omega, ?_, ?_⟩, by show ((ps.length : Int) - (i + 1)).toNat < _; omega⟩
        · unfold trellislaw26_RpcCarries_j8
          rw [w64_id (x := at_ + n) (by omega), w64_id (x := i + 1) (by omega)]
          exact ⟨by rw [hml]; omega, _, rfl, by rw [List.length_append]; simp; omega, rfl⟩
        · intro c hc
          rcases List.mem_append.1 hc with hc | hc
          · exact i5 c hc
          · simp at hc; subst hc; exact (((F_bts bs).take m).take _).drop _
        · show (cs ++ [_]).flatten = _
          rw [List.flatten_append, i6]
          simp only [List.flatten_cons, List.flatten_nil, List.append_nil]
          have : (((F bs).take m).take at_.toNat) = ((((F bs).take m).take (at_ + n).toNat).take at_.toNat) := by
            rw [show ((((F bs).take m).take (at_ + n).toNat).take at_.toNat) = ((F bs).take m).take (min at_.toNat (at_ + n).toNat) from List.take_take, show min at_.toNat (at_ + n).toNat = at_.toNat by omega]
          rw [this, List.take_append_drop]
      have pre : ∀ o (x : Int), x = (if ix ps i < 0 then 0 else ix ps i) → trellislaw26_RpcCarries_j7 ((F bs).take m) at_ cs i x o → trellislaw26_RpcCarries_b5 ps ((F bs).take m) (ends bs bs.length) bs cs at_ i o := by
        intro o x hx h
        unfold trellislaw26_RpcCarries_b5
        rw [if_pos hi, decide_eq_true (by rw [hml]; exact ha)]
        unfold trellislaw26_RpcCarries_j6
        rw [if_pos rfl]
        refine ⟨by omega, ?_⟩
        split at hx
        · rename_i hneg; rw [if_pos hneg, ← hx]; exact h
        · rename_i hneg; rw [if_neg hneg, ← hx]; exact h
      obtain ⟨x, hx⟩ : ∃ x, x = (if ix ps i < 0 then 0 else ix ps i) := ⟨_, rfl⟩
      have hx0 : 0 ≤ x := by rw [hx]; split <;> omega
      by_cases hbig : x > (m : Int) - at_
      · refine go ((m : Int) - at_) (by omega) (by omega) fun o ho => pre o x hx ?_
        unfold trellislaw26_RpcCarries_j7
        rw [hml, w64_id (by omega), if_pos hbig]
        exact ho
      · refine go x hx0 (by omega) fun o ho => pre o x hx ?_
        unfold trellislaw26_RpcCarries_j7
        rw [hml, w64_id (by omega), if_neg hbig]
        exact ho
    · left
      unfold trellislaw26_RpcCarries_b5
      rw [if_pos hi, decide_eq_false (by rw [hml]; exact ha)]
      exact stop
  · left
    unfold trellislaw26_RpcCarries_b5
    rw [if_neg hi]
    exact stop
theorem sum_mem {bs : List ByteArray} {b : ByteArray} (h : b ∈ bs) : b.size + 1 ≤ sumL (fun s : ByteArray => s.size + 1) bs := by
  induction bs with
  | nil => cases h
  | cons c bs ih =>
    rw [sumL]
    rcases List.mem_cons.1 h with rfl | h
    · omega
    · have := ih h; omega
theorem sum_len (bs : List ByteArray) : bs.length ≤ sumL (fun s : ByteArray => s.size + 1) bs := by
  induction bs with
  | nil => simp
  | cons c bs ih => rw [sumL, List.length_cons]; omega
theorem law (x1 : List ByteArray) (x2 : List Int) (x3 : Int) (h1 : x1.length * 16 ≤ reachBytes ∧ ∀ s ∈ x1, s.size ≤ reachBytes) (h2 : x2.length * 8 ≤ reachBytes ∧ ∀ x ∈ x2, (Lit.int .i64 x).wf = true) (h3 : (Lit.int .i64 x3).wf = true)
    (hsum : (sumL (fun s : ByteArray => s.size + 1) x1 + 1) + (sumL (fun _ : Int => 1) x2 + 1) + 1 ≤ 1048576) : trellislaw26_RpcCarries x1 x2 x3 true := by
  rw [sumL_one] at hsum
  have hs : ∀ b ∈ x1, b.size ≤ 2097152 := fun b hb => by have := sum_mem hb; omega
  have hlen := sum_len x1
  have hF := F_len hs
  have hx3 : -9223372036854775808 ≤ x3 ∧ x3 ≤ 9223372036854775807 := by
    simp only [Lit.wf, Bool.and_eq_true, decide_eq_true_eq] at h3
    have q1 : IntKind.i64.min = -9223372036854775808 := rfl
    have q2 : IntKind.i64.max = 9223372036854775807 := rfl
    rw [q1, q2] at h3
    exact h3
  unfold trellislaw26_RpcCarries
  refine ⟨true, started_ok, ?_⟩
  rw [if_pos rfl]
  have key := Rounds.upto (B := fun (s : (List Int) × (List Int) × Int) o => trellislaw26_RpcCarries_b1 x1 x3 x2 s.1 s.2.1 s.2.2 o) (r := true) (fun i => (F (x1.take i), ends x1 i, (i : Int))) x1.length (fun i hi => ?_) ?_
  · simpa [F, ends] using key
  · show trellislaw26_RpcCarries_b1 x1 x3 x2 _ _ (i : Int) _
    have hl2 := F_le (bs := x1) (i + 1)
    rw [F_take hi, List.length_append] at hl2
    unfold trellislaw26_RpcCarries_b1
    rw [if_pos (by omega), ix_nat hi]
    refine ⟨by omega, _, put_ok (hs _ (List.getElem_mem hi)), ?_⟩
    rw [if_pos (by rfl)]
    have := Rounds.upto (B := fun (s : (List Int) × Int) o => trellislaw26_RpcCarries_b2 (frame x1[i], 0) (ends x1 i) i s.1 s.2 o) (r := (.inl (F (x1.take (i + 1)), ends x1 (i + 1), ((i + 1 : Nat) : Int)) : Sum ((List Int) × (List Int) × Int) Bool)) (fun k => (F (x1.take i) ++ (frame x1[i]).take k, (k : Int))) (frame x1[i]).length (fun k hk => by
      show trellislaw26_RpcCarries_b2 _ _ _ _ (k : Int) _
      unfold trellislaw26_RpcCarries_b2
      rw [if_pos (by show (k : Int) < ((frame x1[i]).length : Int); omega), w64_nat (by omega)]
      refine ⟨by show _ ∧ (k : Int) < ((frame x1[i]).length : Int); omega, _, rfl, by simp only [List.length_append, List.length_take, List.length_cons, List.length_nil]; omega, ?_⟩
      rw [List.append_assoc, take_snoc hk]
      rfl) (by
      show trellislaw26_RpcCarries_b2 _ _ _ _ ((frame x1[i]).length : Int) _
      unfold trellislaw26_RpcCarries_b2
      rw [if_neg (by show ¬ ((frame x1[i]).length : Int) < ((frame x1[i]).length : Int); omega), List.take_length, w64_nat (by omega), ← F_take hi]
      exact ⟨_, rfl, by simp [ends]; omega, by rw [ends_succ]; rfl⟩)
    simpa using this
  · show trellislaw26_RpcCarries_b1 x1 x3 x2 (F (x1.take x1.length)) (ends x1 x1.length) (x1.length : Int) _
    unfold trellislaw26_RpcCarries_b1
    rw [if_neg (by omega), List.take_length]
    have t1 := fun (m : Nat) (hm : m ≤ (F x1).length) => tail_ok hs (by omega) (by omega) hm (ps := x2) (by omega) h2.2
    have whole : trellislaw26_RpcCarries_j3 (F x1) x3 x2 (ends x1 x1.length) x1 false (.inr true) := by
      unfold trellislaw26_RpcCarries_j3
      rw [if_neg (by simp)]
      have := t1 _ (Nat.le_refl _)
      rwa [List.take_length] at this
    by_cases h0 : x3 > 0
    · rw [if_pos h0]
      by_cases h4 : x3 ≤ ((F x1).length : Int)
      · rw [decide_eq_true h4]
        unfold trellislaw26_RpcCarries_j3
        rw [if_pos rfl, w64_id (by omega)]
        exact ⟨by omega, _, rfl, t1 _ (by omega)⟩
      · rw [decide_eq_false h4]; exact whole
    · rw [if_neg h0]; exact whole
end Go.Proofs.YtbejkaeidnajkaaDoor.rpcCarries
