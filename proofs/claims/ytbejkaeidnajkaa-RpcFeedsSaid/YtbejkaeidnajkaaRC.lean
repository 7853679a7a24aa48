/- The plain side of chapter 26: the document's frames. No condition. -/
import Derived.Test.YtbejkaeidnajkaaRB
set_option linter.unusedVariables false
namespace Go.Proofs.Ytbejkaeidnajkaa.L
open Go.Proofs.Ytbejkaeidnajkaa.B Go.Proofs.Ytbejkaeidnajkaa.R
theorem bs_inj {s t : ByteArray} (h : bsOf s = bsOf t) : s = t := by rw [← ofBs_bsOf s, h, ofBs_bsOf]
def dgB : ByteArray := ⟨#[48, 49, 50, 51, 52, 53, 54, 55, 56, 57]⟩
theorem dg_fin : ∀ k : Fin 10, bsOf (dgB.extract k.val (k.val + 1)) = [48 + (k.val : Int)] := by decide
theorem dg {k : Nat} (h : k < 10) : bsOf (dgB.extract k (k + 1)) = [48 + (k : Int)] := dg_fin ⟨k, h⟩
theorem digits_ok {u : Nat} (hu : u ≤ 2097152) : trellisref26_Digits (u : Int) (itoaB (u : Int)) := by
  unfold trellisref26_Digits
  have h7 : (D u).length ≤ 7 := D_len 6 (by omega)
  refine Rounds.to (fun q : Int × ByteArray => 0 ≤ q.1 ∧ q.1 ≤ (u : Int) ∧ D q.1.toNat ++ bsOf q.2 = D u) (fun q => q.1.toNat) (fun q hq => ?_) ⟨by simp, by simp, by simp [bsOf]⟩
  obtain ⟨n, s⟩ := q
  obtain ⟨n0, n1, n2⟩ := hq
  simp only at n0 n1 n2
  obtain ⟨k, rfl⟩ : ∃ k : Nat, n = k := ⟨n.toNat, by omega⟩
  rw [Int.toNat_natCast] at n2
  have hl := congrArg List.length n2
  rw [List.length_append, bsOf_len] at hl
  show trellisref26_Digits_b1 k s _ ∨ ∃ s', trellisref26_Digits_b1 k s (.inl s') ∧ _
  by_cases hk : (k : Int) ≥ 10
  · right
    have e1 : Int.tmod (k : Int) 10 = ((k % 10 : Nat) : Int) := by rw [Int.tmod_eq_emod_of_nonneg (by omega)]; omega
    have e2 : Int.tdiv (k : Int) 10 = ((k / 10 : Nat) : Int) := by rw [Int.tdiv_eq_ediv_of_nonneg (by omega)]; omega
    have w1 : w64 (((k % 10 : Nat) : Int) + 1) = ((k % 10 + 1 : Nat) : Int) := by rw [w64_id (by omega)]; omega
    have hd := dg (k := k % 10) (by omega)
    have hds : (dgB.extract (k % 10) (k % 10 + 1)).size = 1 := by rw [← bsOf_len, hd]; rfl
    refine ⟨(((k / 10 : Nat) : Int), dgB.extract (k % 10) (k % 10 + 1) ++ s), ?_, ⟨by show 0 ≤ ((k / 10 : Nat) : Int); omega, by show ((k / 10 : Nat) : Int) ≤ _; omega, ?_⟩, by show ((k / 10 : Nat) : Int).toNat < ((k : Nat) : Int).toNat; omega⟩
    · unfold trellisref26_Digits_b1
      rw [if_pos hk, e1, e2, w1, Int.toNat_natCast, Int.toNat_natCast, w64_id (x := ((k / 10 : Nat) : Int)) (by omega)]
      refine ⟨by show _ ∧ _ ∧ _ ≤ (10 : Int); omega, by show (dgB.extract (k % 10) (k % 10 + 1)).size + s.size ≤ _; omega, rfl⟩
    · show D ((k / 10 : Nat) : Int).toNat ++ bsOf (dgB.extract (k % 10) (k % 10 + 1) ++ s) = D u
      rw [Int.toNat_natCast, bsOf_app, hd, ← n2, D_big (u := k) (by omega), List.append_assoc]
  · left
    have w1 : w64 ((k : Int) + 1) = ((k + 1 : Nat) : Int) := by rw [w64_id (by omega)]; omega
    have hd := dg (k := k) (by omega)
    have hds : (dgB.extract k (k + 1)).size = 1 := by rw [← bsOf_len, hd]; rfl
    unfold trellisref26_Digits_b1
    rw [if_neg hk, w1, Int.toNat_natCast, Int.toNat_natCast]
    refine ⟨by show _ ∧ _ ∧ _ ≤ (10 : Int); omega, by show (dgB.extract k (k + 1)).size + s.size ≤ _; omega, ?_⟩
    congr 1
    refine bs_inj ?_
    show bsOf (itoaB (u : Int)) = bsOf (dgB.extract k (k + 1) ++ s)
    rw [D_itoa, bsOf_app, hd, ← n2, D_small (by omega)]
theorem refput_ok {s : ByteArray} (hs : s.size ≤ 2097152) : trellisref26_Put s (frame s, 0) := by
  unfold trellisref26_Put
  rw [if_neg (by omega)]
  have e1 : (itoaB (s.size : Int)).size = (D s.size).length := by rw [← bsOf_len, D_itoa]
  have l3 : (D s.size).length ≤ 7 := D_len 6 (by omega)
  refine ⟨itoaB (s.size : Int), digits_ok hs, ?_⟩
  have a1 : (⟨#[67, 111, 110, 116, 101, 110, 116, 45, 76, 101, 110, 103, 116, 104, 58, 32]⟩ : ByteArray).size = 16 := rfl
  have a2 : (⟨#[13, 10, 13, 10]⟩ : ByteArray).size = 4 := rfl
  simp only [ByteArray.size_append, a1, a2, e1]
  refine ⟨by omega, by omega, by omega, by omega, ?_⟩
  simp only [Prod.mk.injEq, and_true]
  rw [bsOf_app, bsOf_app, bsOf_app, D_itoa, show bsOf (⟨#[67, 111, 110, 116, 101, 110, 116, 45, 76, 101, 110, 103, 116, 104, 58, 32]⟩ : ByteArray) = hdL from hdL_eq, show bsOf (⟨#[13, 10, 13, 10]⟩ : ByteArray) = bhL from bhL_eq]
  simp [frame]
theorem refput_no {s : ByteArray} (hs : s.size > 2097152) : trellisref26_Put s ([], 262) := by
  unfold trellisref26_Put
  rw [if_pos (by omega)]
theorem mark_at {j : Nat} (h : j < 64) : IntKind.u8.wrap (w64 (150 + (j : Int))) = 150 + (j : Int) := by rw [w64_id (by omega), u8_id (by omega)]
def marksL : List Int := (List.range 64).map fun j : Nat => 150 + (j : Int)
theorem marks_len : marksL.length = 64 := by simp [marksL]
theorem marks_bts : Bts marksL := fun x hx => by
  obtain ⟨j, hj, rfl⟩ := List.mem_map.1 hx
  have := List.mem_range.1 hj
  omega
theorem marked_ok {b : List Int} (hb : b.length < 2 ^ 47) : trellislaw26_marked b (b ++ marksL) := by
  unfold trellislaw26_marked
  have l2 := Rounds.upto (B := fun (s : (List Int) × Int) o => trellislaw26_marked_b2 s.1 s.2 o) (r := (.inr (b ++ marksL) : Sum ((List Int) × Int) (List Int))) (fun j => (b ++ marksL.take j, (j : Int))) 64 (fun j hj => by
    show trellislaw26_marked_b2 _ (j : Int) _
    unfold trellislaw26_marked_b2
    rw [if_pos (by omega), w64_nat (by omega), mark_at hj]
    refine ⟨_, rfl, by simp only [List.length_append, List.length_take, List.length_cons, List.length_nil, marks_len]; omega, ?_⟩
    have e : ix marksL (j : Int) = 150 + (j : Int) := by rw [ix_nat (by rw [marks_len]; exact hj)]; simp [marksL]
    rw [List.append_assoc, ← e, take_snoc (by rw [marks_len]; exact hj)]
    rfl) (by
    show trellislaw26_marked_b2 _ ((64 : Nat) : Int) _
    unfold trellislaw26_marked_b2
    rw [if_neg (by omega), List.take_of_length_le (by rw [marks_len]; omega)])
  have l1 := Rounds.upto (B := fun (s : (List Int) × Int) o => trellislaw26_marked_b1 b s.1 s.2 o) (r := b ++ marksL) (fun i => (b.take i, (i : Int))) b.length (fun i hi => by
    show trellislaw26_marked_b1 b _ (i : Int) _
    unfold trellislaw26_marked_b1
    rw [if_pos (by omega), w64_nat (by omega)]
    refine ⟨by omega, _, rfl, by simp only [List.length_append, List.length_take, List.length_cons, List.length_nil]; omega, ?_⟩
    rw [take_snoc hi]
    rfl) (by
    show trellislaw26_marked_b1 b _ (b.length : Int) _
    unfold trellislaw26_marked_b1
    rw [if_neg (by omega), List.take_length]
    simpa using l2)
  simpa using l1
theorem whole_ok {b : List Int} (hb : b.length < 2 ^ 47) : trellislaw26_whole (b ++ marksL) b true := by
  unfold trellislaw26_whole
  refine Rounds.cnt 64 (fun j hj => ?_) ?_
  · unfold trellislaw26_whole_b1
    have e : ix (b ++ marksL) ((b.length : Int) + (j : Int)) = 150 + (j : Int) := by
      rw [show (b.length : Int) + (j : Int) = ((b.length + j : Nat) : Int) by omega, ix_nat (by rw [List.length_append, marks_len]; omega), List.getElem_append_right (by omega)]
      simp [marksL]
    rw [if_pos (by omega), w64_id (x := (b.length : Int) + (j : Int)) (by omega), e, w64_nat (by omega)]
    exact ⟨by rw [List.length_append, marks_len]; omega, by rw [if_pos rfl]⟩
  · unfold trellislaw26_whole_b1
    rw [if_neg (by omega), Int.toNat_natCast, List.take_left' rfl]
    exact ⟨by rw [List.length_append]; omega, _, sameBytes_ok (by omega) rfl, rfl⟩
def st3 (b : List Int) (q : Int × Int × Int × Int) : Prop :=
  (q.2.2.2 ≤ (b.length : Int)) ∧
  ((0 ≤ q.2.2.2 ∧ q.2.2.2 < 16 ∧ q.1 = 0 ∧ q.2.1 = 0 ∧ q.2.2.1 = 0 ∧ stF (b.drop q.2.2.2.toNat) (hdL.drop q.2.2.2.toNat) = stF b hdL) ∨
   (stF b hdL = 0 ∧ 0 ≤ q.1 ∧ q.1 ≤ 2097152 ∧ 0 ≤ q.2.1 ∧ q.2.2.1 = 0 ∧ q.2.2.2 = 16 + q.2.1 ∧ numF (b.drop q.2.2.2.toNat) q.1 q.2.1 = numF (b.drop 16) 0 0) ∨
   (stF b hdL = 0 ∧ 0 ≤ q.1 ∧ q.1 ≤ 2097152 ∧ 0 < q.2.1 ∧ 0 < q.2.2.1 ∧ q.2.2.1 < 4 ∧ q.2.2.2 = 16 + q.2.1 + q.2.2.1 ∧ numF (b.drop 16) 0 0 = (q.1, q.2.1, 0) ∧ stF (b.drop q.2.2.2.toNat) (bhL.drop q.2.2.1.toNat) = stF (b.drop (16 + q.2.1).toNat) bhL))
theorem reftake_ok {b : List Int} (hb : b.length < 2 ^ 60) (hB : Bts b) : trellisref26_Take b (takeF b) := by
  unfold trellisref26_Take
  refine Rounds.to (st3 b) (fun q => ((b.length : Int) - q.2.2.2).toNat) (fun q hq => ?_) ⟨by simp, .inl ⟨by simp, by simp, rfl, rfl, rfl, rfl⟩⟩
  obtain ⟨n, dg_, e, i⟩ := q
  obtain ⟨hle, hq⟩ := hq
  show trellisref26_Take_b1 b n dg_ e i _ ∨ ∃ s', trellisref26_Take_b1 b n dg_ e i (.inl s') ∧ _
  simp only at hle hq
  have hi0 : 0 ≤ i := by rcases hq with h | h | h <;> omega
  obtain ⟨k, rfl⟩ : ∃ k : Nat, i = k := ⟨i.toNat, by omega⟩
  rw [Int.toNat_natCast] at hq
  by_cases hk : k < b.length
  · obtain ⟨b0, b1⟩ := hB _ (List.getElem_mem hk)
    have dk := List.drop_eq_getElem_cons hk
    have red : ∀ o, ((0 ≤ (k : Int) ∧ (k : Int) < (b.length : Int)) ∧ if (k : Int) < 16 then
        (0 ≤ (k : Int) ∧ (k : Int) < ((⟨#[67, 111, 110, 116, 101, 110, 116, 45, 76, 101, 110, 103, 116, 104, 58, 32]⟩ : ByteArray).size : Int)) ∧
        (if b[k] = bt (⟨#[67, 111, 110, 116, 101, 110, 116, 45, 76, 101, 110, 103, 116, 104, 58, 32]⟩ : ByteArray) k then trellisref26_Take_j2 b k n dg_ e o else o = .inr (((⟨#[]⟩ : ByteArray), 0, 261)))
      else
        if e = 0 then (if b[k] ≥ 48 then trellisref26_Take_j3 dg_ n b k e (decide (b[k] ≤ 57)) o else trellisref26_Take_j3 dg_ n b k e false o)
        else trellisref26_Take_j3 dg_ n b k e false o) → trellisref26_Take_b1 b n dg_ e k o := fun o ho => by
      unfold trellisref26_Take_b1
      rw [if_pos (by omega), ix_nat hk]
      exact ho
    rcases hq with ⟨h0, h1, rfl, rfl, rfl, h2⟩ | ⟨h0, h1, h2, h3, rfl, h4, h5⟩ | ⟨h0, h1, h2, h3, h4, h5, h6, h7, h8⟩
    · -- the head
      have hk16 : k < hdL.length := by show k < 16; omega
      have hbt : bt (⟨#[67, 111, 110, 116, 101, 110, 116, 45, 76, 101, 110, 103, 116, 104, 58, 32]⟩ : ByteArray) (k : Int) = hdL[k] := by
        have := bt_ix (s := hdB) (i := k) hk16
        rw [show (⟨#[67, 111, 110, 116, 101, 110, 116, 45, 76, 101, 110, 103, 116, 104, 58, 32]⟩ : ByteArray) = hdB from rfl, this]
        simp only [hdL_eq]
      rw [dk, List.drop_eq_getElem_cons hk16, stF] at h2
      by_cases hc : b[k] = hdL[k]
      · right
        rw [if_pos hc] at h2
        refine ⟨(0, 0, 0, (k : Int) + 1), red _ ⟨by omega, ?_⟩, ⟨by show (k : Int) + 1 ≤ _; omega, ?_⟩, by show ((b.length : Int) - ((k : Int) + 1)).toNat < ((b.length : Int) - (k : Int)).toNat; omega⟩
        · rw [if_pos h1, hbt, if_pos hc]
          refine ⟨by show _ ∧ _ < (16 : Int); omega, ?_⟩
          unfold trellisref26_Take_j2
          rw [if_neg (by decide), w64_nat (by omega)]
        · show (_ ∨ _ ∨ _)
          by_cases h15 : k = 15
          · subst h15
            right; left
            have hz : stF b hdL = 0 := by rw [← h2]; simp [hdL, stF]
            exact ⟨hz, by simp, by simp, by simp, rfl, by simp, rfl⟩
          · left
            refine ⟨by show 0 ≤ (k : Int) + 1; omega, by show (k : Int) + 1 < 16; omega, rfl, rfl, rfl, ?_⟩
            show stF (b.drop ((k : Int) + 1).toNat) (hdL.drop ((k : Int) + 1).toNat) = _
            rw [show ((k : Int) + 1).toNat = k + 1 by omega]
            exact h2
      · left
        rw [if_neg hc] at h2
        refine red _ ⟨by omega, ?_⟩
        rw [if_pos h1, hbt, if_neg hc]
        refine ⟨by show _ ∧ _ < (16 : Int); omega, ?_⟩
        unfold takeF
        rw [if_neg (by rw [← h2]; decide), ← h2]
    · -- the number
      have hk16 : ¬ (k : Int) < 16 := by omega
      rw [dk, numF] at h5
      have hT : ∀ z, numF (b.drop 16) 0 0 = (0, 0, z) → z ≠ 0 → takeF b = (⟨#[]⟩, 0, z) := fun z hz hz0 => by
        unfold takeF
        rw [if_pos h0, hz, if_neg hz0]
      by_cases hd : b[k] < 48 ∨ b[k] > 57
      · rw [if_pos hd] at h5
        have pre : ∀ o, trellisref26_Take_j3 dg_ n b k 0 false o → trellisref26_Take_b1 b n dg_ 0 k o := fun o ho => by
          refine red _ ⟨by omega, ?_⟩
          rw [if_neg hk16, if_pos rfl]
          split
          · rw [decide_eq_false (by omega)]; exact ho
          · exact ho
        by_cases hz : dg_ = 0
        · left
          rw [if_pos hz] at h5
          refine pre _ ?_
          unfold trellisref26_Take_j3
          rw [if_neg (by simp), if_pos hz, hT 261 h5.symm (by decide)]
        · rw [if_neg hz] at h5
          have hk2 : k = 16 + dg_.toNat := by omega
          have dk2 : b.drop (16 + dg_).toNat = b[k] :: b.drop (k + 1) := by rw [show (16 + dg_).toNat = k by omega, dk]
          have hb13 : bt (⟨#[13, 10, 13, 10]⟩ : ByteArray) 0 = 13 := by decide
          by_cases hc : b[k] = 13
          · right
            refine ⟨(n, dg_, 1, (k : Int) + 1), pre _ ?_, ⟨by show (k : Int) + 1 ≤ _; omega, .inr (.inr ⟨h0, h1, h2, by show 0 < dg_; omega, by show (0 : Int) < 1; decide, by show (1 : Int) < 4; decide, by show (k : Int) + 1 = 16 + dg_ + 1; omega, h5.symm, ?_⟩)⟩, by show ((b.length : Int) - ((k : Int) + 1)).toNat < ((b.length : Int) - (k : Int)).toNat; omega⟩
            · unfold trellisref26_Take_j3
              rw [if_neg (by simp), if_neg hz, ix_nat hk, hb13, if_pos hc]
              refine ⟨by show _ ∧ _ < (4 : Int); omega, ?_⟩
              unfold trellisref26_Take_j2
              rw [if_neg (by decide), w64_nat (by omega)]
              rfl
            · show stF (b.drop ((k : Int) + 1).toNat) (bhL.drop 1) = _
              rw [dk2, show ((k : Int) + 1).toNat = k + 1 by omega]
              show _ = stF (b[k] :: b.drop (k + 1)) (13 :: [10, 13, 10])
              rw [stF, if_pos hc]
              rfl
          · left
            refine pre _ ?_
            unfold trellisref26_Take_j3
            rw [if_neg (by simp), if_neg hz, ix_nat hk, hb13, if_neg hc]
            refine ⟨by show _ ∧ _ < (4 : Int); omega, ?_⟩
            unfold takeF
            have h3b : stF (b.drop (16 + dg_).toNat) bhL = 261 := by
              rw [dk2]
              show stF (b[k] :: b.drop (k + 1)) (13 :: [10, 13, 10]) = _
              rw [stF, if_neg hc]
            rw [if_pos h0, ← h5]
            simp only
            rw [if_pos trivial, h3b, if_neg (by decide)]
      · rw [if_neg hd] at h5
        have hw : w64 ((w64 (10 * n)) + (w64 (IntKind.u8.wrap ((b[k]) - 48)))) = 10 * n + (b[k] - 48) := by
          rw [u8_id (by omega), w64_id (x := 10 * n) (by omega), w64_id (x := b[k] - 48) (by omega), w64_id (by omega)]
        have pre : ∀ o, (if dg_ > 0 then trellisref26_Take_j4 n b k dg_ 0 (n == 0) o else trellisref26_Take_j4 n b k dg_ 0 false o) → trellisref26_Take_b1 b n dg_ 0 k o := fun o ho => by
          refine red _ ⟨by omega, ?_⟩
          rw [if_neg hk16, if_pos rfl, if_pos (by omega), decide_eq_true (by omega)]
          unfold trellisref26_Take_j3
          rw [if_pos rfl]
          exact ho
        by_cases hz : dg_ > 0 ∧ n = 0
        · left
          rw [if_pos hz] at h5
          refine pre _ ?_
          rw [if_pos hz.1, hz.2]
          unfold trellisref26_Take_j4
          rw [if_pos (by rfl), hT 261 h5.symm (by decide)]
        · rw [if_neg hz] at h5
          have pre2 : ∀ o, trellisref26_Take_j4 n b k dg_ 0 false o → trellisref26_Take_b1 b n dg_ 0 k o := fun o ho => by
            refine pre _ ?_
            by_cases h9 : dg_ > 0
            · rw [if_pos h9, beq_eq_false_iff_ne.2 (fun e => hz ⟨h9, e⟩)]; exact ho
            · rw [if_neg h9]; exact ho
          by_cases hbig : 10 * n + (b[k] - 48) > 2097152
          · left
            rw [if_pos hbig] at h5
            refine pre2 _ ?_
            unfold trellisref26_Take_j4
            rw [if_neg (by simp), ix_nat hk, hw, if_pos hbig, hT 262 h5.symm (by decide)]
          · right
            rw [if_neg hbig] at h5
            refine ⟨(10 * n + (b[k] - 48), dg_ + 1, 0, (k : Int) + 1), pre2 _ ?_, ⟨by show (k : Int) + 1 ≤ _; omega, .inr (.inl ⟨h0, by show 0 ≤ 10 * n + (b[k] - 48); omega, by show 10 * n + (b[k] - 48) ≤ _; omega, by show 0 ≤ dg_ + 1; omega, rfl, by show (k : Int) + 1 = 16 + (dg_ + 1); omega, ?_⟩)⟩, by show ((b.length : Int) - ((k : Int) + 1)).toNat < ((b.length : Int) - (k : Int)).toNat; omega⟩
            · unfold trellisref26_Take_j4
              rw [if_neg (by simp), ix_nat hk, hw, if_neg hbig]
              unfold trellisref26_Take_j2
              rw [if_neg (by decide), w64_nat (by omega), w64_id (by omega)]
            · show numF (b.drop ((k : Int) + 1).toNat) _ _ = _
              rw [show ((k : Int) + 1).toNat = k + 1 by omega]
              exact h5
    · -- what stands behind it
      have hk16 : ¬ (k : Int) < 16 := by omega
      obtain ⟨q, rfl⟩ : ∃ q : Nat, e = q := ⟨e.toNat, by omega⟩
      rw [Int.toNat_natCast] at h8
      have hq4 : q < bhL.length := by show q < 4; omega
      have hbt : bt (⟨#[13, 10, 13, 10]⟩ : ByteArray) (q : Int) = bhL[q] := by
        have := bt_ix (s := bhB) (i := q) hq4
        rw [show (⟨#[13, 10, 13, 10]⟩ : ByteArray) = bhB from rfl, this]
        simp only [bhL_eq]
      rw [dk, List.drop_eq_getElem_cons hq4, stF] at h8
      have pre : ∀ o, (if b[k] = bhL[q] then trellisref26_Take_j2 b k n dg_ (w64 ((q : Int) + 1)) o else o = .inr (((⟨#[]⟩ : ByteArray), 0, 261))) → trellisref26_Take_b1 b n dg_ q k o := fun o ho => by
        refine red _ ⟨by omega, ?_⟩
        rw [if_neg hk16, if_neg (by omega)]
        unfold trellisref26_Take_j3
        rw [if_neg (by simp), if_neg (by omega), ix_nat hk, hbt]
        exact ⟨by show _ ∧ _ < (4 : Int); omega, ho⟩
      by_cases hc : b[k] = bhL[q]
      · rw [if_pos hc] at h8
        by_cases h3' : q = 3
        · left
          refine pre _ ?_
          rw [if_pos hc]
          have hz : stF (b.drop (16 + dg_).toNat) bhL = 0 := by rw [← h8, h3']; simp [bhL, stF]
          have w1 : w64 ((k : Int) + 1) = (k : Int) + 1 := w64_nat (by omega)
          have w2 : w64 ((b.length : Int) - ((k : Int) + 1)) = (b.length : Int) - ((k : Int) + 1) := w64_id (by omega)
          unfold trellisref26_Take_j2 takeF
          rw [if_pos (by rw [h3', w64_id (by omega)]; rfl), w1, w2, if_pos h0, h7]
          simp only
          rw [if_pos trivial, if_pos hz, show 16 + dg_ + 4 = (k : Int) + 1 by omega]
          by_cases hm : (b.length : Int) - ((k : Int) + 1) < n
          · rw [if_pos hm, if_pos (by omega)]
          · rw [if_neg hm, if_neg (by omega), w64_id (x := (k : Int) + 1 + n) (by omega)]
            exact ⟨by omega, rfl⟩
        · right
          refine ⟨(n, dg_, (q : Int) + 1, (k : Int) + 1), pre _ ?_, ⟨by show (k : Int) + 1 ≤ _; omega, .inr (.inr ⟨h0, h1, h2, h3, by show 0 < (q : Int) + 1; omega, by show (q : Int) + 1 < 4; omega, by show (k : Int) + 1 = 16 + dg_ + ((q : Int) + 1); omega, h7, ?_⟩)⟩, by show ((b.length : Int) - ((k : Int) + 1)).toNat < ((b.length : Int) - (k : Int)).toNat; omega⟩
          · rw [if_pos hc, w64_nat (by omega)]
            unfold trellisref26_Take_j2
            rw [if_neg (by omega), w64_nat (by omega)]
          · show stF (b.drop ((k : Int) + 1).toNat) (bhL.drop ((q : Int) + 1).toNat) = _
            rw [show ((k : Int) + 1).toNat = k + 1 by omega, show ((q : Int) + 1).toNat = q + 1 by omega]
            exact h8
      · left
        rw [if_neg hc] at h8
        refine pre _ ?_
        rw [if_neg hc]
        unfold takeF
        rw [if_pos h0, h7]
        simp only
        rw [if_pos trivial, ← h8, if_neg (by decide)]
  · left
    have hkl : b.drop k = [] := List.drop_eq_nil_of_le (by omega)
    unfold trellisref26_Take_b1
    rw [if_neg (by omega)]
    unfold takeF
    rcases hq with ⟨h0, h1, rfl, rfl, rfl, h2⟩ | ⟨h0, h1, h2, h3, rfl, h4, h5⟩ | ⟨h0, h1, h2, h3, h4, h5, h6, h7, h8⟩
    · have hk16 : k < hdL.length := by show k < 16; omega
      rw [hkl, List.drop_eq_getElem_cons hk16, stF] at h2
      rw [← h2, if_neg (by decide)]
    · rw [hkl, numF] at h5
      rw [if_pos h0, ← h5, if_neg (by decide)]
    · obtain ⟨q, rfl⟩ : ∃ q : Nat, e = q := ⟨e.toNat, by omega⟩
      rw [Int.toNat_natCast] at h8
      have hq4 : q < bhL.length := by show q < 4; omega
      rw [hkl, List.drop_eq_getElem_cons hq4, stF] at h8
      rw [if_pos h0, h7]
      simp only
      rw [if_pos trivial, ← h8, if_neg (by decide)]
end Go.Proofs.Ytbejkaeidnajkaa.L
