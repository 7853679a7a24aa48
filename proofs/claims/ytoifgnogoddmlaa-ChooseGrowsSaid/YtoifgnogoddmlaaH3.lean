/- The concrete tree that the laws of chapter 32 begin with. No condition. -/
import Derived.Test.YtoifgnogoddmlaaH2
namespace Go.Proofs.Ytoifgnogoddmlaa.L
open Go.Proofs.Ytoifgnogoddmlaa.B Go.Proofs.Ytoifgnogoddmlaa.R
def tc : List api_Node := ([(⟨(⟨#[115]⟩ : ByteArray), true, (⟨#[]⟩ : ByteArray), 0, 3, 3, -1⟩ : api_Node), (⟨(⟨#[40]⟩ : ByteArray), false, (⟨#[]⟩ : ByteArray), 0, 1, 0, 0⟩ : api_Node), (⟨(⟨#[97]⟩ : ByteArray), true, (⟨#[]⟩ : ByteArray), 1, 2, 0, 1⟩ : api_Node), (⟨(⟨#[41]⟩ : ByteArray), false, (⟨#[]⟩ : ByteArray), 2, 3, 0, 2⟩ : api_Node)] : List api_Node)
theorem tc_fits : Fits tc := by show 4 ≤ 1954687338211; omega
theorem tc_wf : Wf tc := fun n hn => by
  simp only [tc, List.mem_cons, List.not_mem_nil, or_false] at hn
  rcases hn with rfl | rfl | rfl | rfl <;> simp
theorem tc_ok : ∃ S, sf tc 0 = some S ∧ S.length = 1 := by
  cases h : sf tc 0 with
  | none => exact absurd (show (sf tc 0).isSome = true by decide +kernel) (by rw [h]; simp)
  | some S => exact ⟨S, rfl, by have : ((sf tc 0).getD []).length = 1 := by decide +kernel
                                rw [h] at this; exact this⟩
theorem tc_par (i : Nat) (hi : i = 1 ∨ i = 3) : parF tc (i : Int) = 0 := by
  obtain ⟨S, h, hS⟩ := tc_ok
  have e0 : (sub tc 0).2 = 4 := by decide +kernel
  have k0 : (sub tc 0).1.kids.length = 3 := by decide +kernel
  have e1 : (sub tc 1).2 = 2 := by decide +kernel
  have e2 : (sub tc 2).2 = 3 := by decide +kernel
  obtain ⟨r0, h0⟩ := At.sub h (show 0 < tc.length by decide)
  obtain ⟨r1, h1⟩ := At.sub h (show 1 < tc.length by decide)
  obtain ⟨r2, h2⟩ := At.sub h (show 2 < tc.length by decide)
  refine parF_eq ⟨S, h, i, rfl, by rcases hi with rfl | rfl <;> decide, ?_⟩
  rw [hS]
  rcases hi with rfl | rfl
  · refine .down (x := (sub tc 0).1) (e := (sub tc 0).2) h0 (by omega) (by omega) ?_
    rw [k0]
    exact .here
  · refine .down (x := (sub tc 0).1) (e := (sub tc 0).2) h0 (by omega) (by omega) ?_
    rw [k0]
    refine .next (x := (sub tc 1).1) (e := (sub tc 1).2) h1 (by omega) ?_
    rw [e1]
    refine .next (x := (sub tc 2).1) (e := (sub tc 2).2) h2 (by omega) ?_
    rw [e2]
    exact .here
theorem tc_row (i : Nat) (hi : i = 1 ∨ i = 3) : rowF tc (i : Int) = [1, 2, 3] := by
  unfold rowF
  rw [tc_par i hi, if_pos (by rcases hi with rfl | rfl <;> decide +kernel), if_pos (by omega)]
  decide +kernel
theorem started_ok : trellislaw32_started true := by
  unfold trellislaw32_started
  change ∃ r7 : List api_Range, choose_Steps tc ⟨1, 2⟩ r7 ∧ ∃ r76 : Int, choose_Cover tc ⟨1, 2⟩ r76 ∧ if r76 = 2 then ∃ r85 : api_Range, choose_Grow tc ⟨1, 2⟩ r85 ∧ if r85 = ⟨0, 3⟩ then trellislaw32_started_j1 ((r7.length : Int) != 2) true else trellislaw32_started_j1 true true else trellislaw32_started_j1 true true
  refine ⟨_, Steps_nested tc_fits tc_wf _ (by decide +kernel), _, Cover_ok tc_fits tc_wf _, ?_⟩
  rw [if_pos (by decide +kernel)]
  refine ⟨_, Grow_ok tc_fits tc_wf _, ?_⟩
  rw [if_pos (by decide +kernel), show (((stepsF tc ⟨1, 2⟩).length : Int) != 2) = false by decide +kernel]
  unfold trellislaw32_started_j1
  rw [if_neg (by simp)]
  change ∃ r41 : Int, choose_Pair tc 1 r41 ∧ if r41 = 3 then ∃ r50 : Int, choose_Pair tc 3 r50 ∧ if r50 = 1 then ∃ r59 : Int, choose_Beside tc 1 2 r59 ∧ if r59 = 3 then ∃ r68 : Int, choose_Beside tc 3 1 r68 ∧ true = (r68 == (-1)) else true = false else true = false else true = false
  have r1 : rowF tc 1 = [1, 2, 3] := tc_row 1 (.inl rfl)
  have r3 : rowF tc 3 = [1, 2, 3] := tc_row 3 (.inr rfl)
  refine ⟨_, (pair_val tc_fits tc_wf 1).1, ?_⟩
  rw [if_pos (by unfold pairV; rw [r1]; decide +kernel)]
  refine ⟨_, (pair_val tc_fits tc_wf 3).1, ?_⟩
  rw [if_pos (by unfold pairV; rw [r3]; decide +kernel)]
  refine ⟨_, beside_val tc_fits tc_wf (l := [1, 2, 3]) (k := 0) (by decide) r1 (fun j _ h => absurd h (Nat.not_lt_zero _)) (d := 2) ⟨by omega, by omega⟩, ?_⟩
  rw [if_pos (by decide +kernel)]
  exact ⟨_, beside_val tc_fits tc_wf (l := [1, 2, 3]) (k := 2) (by decide) r3 (by decide) (d := 1) ⟨by omega, by omega⟩, by decide +kernel⟩
end Go.Proofs.Ytoifgnogoddmlaa.L
