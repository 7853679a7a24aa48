/- The law ChooseGrows. Conditions: the list fits in memory, its numbers are ints. -/
import Derived.Test.YtoifgnogoddmlaaH11
namespace Go.Proofs.Ytoifgnogoddmlaa.L
open Go.Proofs.Ytoifgnogoddmlaa.B Go.Proofs.Ytoifgnogoddmlaa.R
theorem sameRanges_ok {a : List api_Range} (ha : a.length ≤ 2 ^ 60) : trellislaw32_sameRanges a a true := by
  unfold trellislaw32_sameRanges
  rw [if_pos rfl]
  refine Rounds.cnt a.length (fun i hi => ?_) ?_
  · unfold trellislaw32_sameRanges_b1
    rw [if_pos (by omega), w64_nat (by omega), if_pos rfl]
    exact ⟨by omega, by omega, rfl⟩
  · unfold trellislaw32_sameRanges_b1
    rw [if_neg (by omega)]
theorem grows_ok {ys : List api_Node} (hl : Fits ys) (hw : Wf ys) (x : api_Range) : trellislaw32_grows (ys ++ marks) ys.length x true := by
  unfold trellislaw32_grows
  rw [take_left' rfl]
  obtain ⟨l, l1, l2, l3⟩ := steps_both hl hw x
  refine ⟨_, twin_ok hl, _, refCover_ok hl x, _, refGrow_ok hl x, l, l3, _, Cover_ok hl hw x, ?_⟩
  rw [if_pos rfl]
  refine ⟨_, Grow_ok hl hw x, ?_⟩
  rw [if_pos rfl]
  refine ⟨l, l2, true, sameRanges_ok (by omega), ?_⟩
  rw [if_pos rfl]
  exact ⟨true, still_ok hl, rfl⟩
theorem growsLaw {t : List api_Node} (hl : Fits t) (hw : Wf t) (x : api_Range) : trellislaw32_ChooseGrows t x true := by
  unfold trellislaw32_ChooseGrows
  obtain ⟨b, hb⟩ := beyond_ok hl hw
  refine ⟨b, hb, ?_⟩
  cases b with
  | true => rw [if_pos rfl]
  | false =>
    rw [if_neg (by simp)]
    obtain ⟨l, l1, l2, l3⟩ := steps_both hl hw x
    refine ⟨_, twin_ok hl, _, lent_ok hl, ?_⟩
    dsimp only
    rw [take_left' rfl]
    refine ⟨_, Cover_ok hl hw x, _, Grow_ok hl hw x, l, l2, l, l3, _, refCover_ok hl x, ?_⟩
    rw [if_pos rfl]
    refine ⟨_, refGrow_ok hl x, ?_⟩
    rw [if_pos rfl]
    refine ⟨true, sameRanges_ok (by omega), ?_⟩
    rw [if_pos rfl]
    refine ⟨true, still_ok hl, ?_⟩
    unfold trellislaw32_ChooseGrows_j1
    rw [if_neg (by simp)]
    dsimp only
    rw [take_left' rfl]
    refine ⟨l, l2, ?_⟩
    have j4 : trellislaw32_ChooseGrows_j4 (t ++ marks, t.length) x false (.inr (.inr true)) := by
      unfold trellislaw32_ChooseGrows_j4
      rw [if_neg (by simp)]
      obtain ⟨zs, o1, o2, o3⟩ := over_ok hl hw
      obtain ⟨us, u1, u2, u3⟩ := bare_ok (ys := zs) (by unfold Fits; omega) o3
      refine ⟨_, o1, true, by have := grows_ok (ys := zs) (by unfold Fits; omega) o3 x; rwa [o2] at this, ?_⟩
      rw [if_pos rfl]
      exact ⟨_, by rw [o2] at u1; exact u1, true, by have := grows_ok (ys := us) (by unfold Fits; omega) u3 x; rwa [u2, o2] at this, rfl⟩
    have b3 : ∀ l' : List api_Range, l'.length = l.length → Rounds (fun (s : (List api_Range) × Int) o => trellislaw32_ChooseGrows_b3 l l (t ++ marks, t.length) t x s.1 s.2 o) (l', 0) (Sum.inr true : Sum ((List api_Range) × Int) Bool) := fun l' h' => by
      have key := Rounds.upto (B := fun (s : (List api_Range) × Int) o => trellislaw32_ChooseGrows_b3 l l (t ++ marks, t.length) t x s.1 s.2 o) (r := (Sum.inr true : Sum ((List api_Range) × Int) Bool)) (fun i => (l' ++ List.replicate i (⟨92, 0⟩ : api_Range), (i : Int))) 70 (fun i hi => ?_) ?_
      · simpa using key
      · show trellislaw32_ChooseGrows_b3 l l _ t x (l' ++ List.replicate i (⟨92, 0⟩ : api_Range)) (i : Int) _
        unfold trellislaw32_ChooseGrows_b3
        rw [if_pos (by omega), w64_nat (by omega)]
        refine ⟨_, rfl, by simp; omega, ?_⟩
        rw [List.append_assoc, ← List.replicate_succ']
        rfl
      · show trellislaw32_ChooseGrows_b3 l l _ t x (l' ++ List.replicate 70 (⟨92, 0⟩ : api_Range)) ((70 : Nat) : Int) _
        unfold trellislaw32_ChooseGrows_b3
        rw [if_neg (by omega)]
        refine ⟨true, sameRanges_ok (by omega), ?_⟩
        rw [if_pos rfl, if_pos (by rw [w64_id (by omega), List.length_append, List.length_replicate, h']; omega)]
        exact ⟨true, still_ok hl, j4⟩
    have key := Rounds.upto (B := fun (s : (List api_Range) × Int) o => trellislaw32_ChooseGrows_b2 l l (t ++ marks, t.length) t x s.1 s.2 o) (r := true) (fun i => (List.replicate i (⟨91, 0⟩ : api_Range) ++ l.drop i, (i : Int))) l.length (fun i hi => ?_) ?_
    · simpa using key
    · show trellislaw32_ChooseGrows_b2 l l _ t x (List.replicate i (⟨91, 0⟩ : api_Range) ++ l.drop i) (i : Int) _
      unfold trellislaw32_ChooseGrows_b2
      have hlen : (List.replicate i (⟨91, 0⟩ : api_Range) ++ l.drop i).length = l.length := by simp; omega
      rw [hlen, if_pos (by omega), w64_nat (by omega)]
      refine ⟨by omega, _, rfl, ?_⟩
      rw [Int.toNat_natCast, List.set_append_right _ _ (by simp), List.length_replicate, Nat.sub_self, List.drop_eq_getElem_cons hi, List.set_cons_zero, List.replicate_succ', List.append_assoc]
      rfl
    · show trellislaw32_ChooseGrows_b2 l l _ t x (List.replicate l.length (⟨91, 0⟩ : api_Range) ++ l.drop l.length) (l.length : Int) _
      unfold trellislaw32_ChooseGrows_b2
      rw [if_neg (by simp)]
      exact b3 _ (by simp)
end Go.Proofs.Ytoifgnogoddmlaa.L
