/- TreeFinds: for every input the law returns true, and what is handed in reads as it did. No condition. -/
import Derived.Test.YtmekgfcfooghnaaRows
import Derived.Test.YtmekgfcfooghnaaK
import Derived.Test.YtmekgfcfooghnaaT
import Derived.Test.YtmekgfcfooghnaaTreeFinds
import Derived.JoinedCond
import Derived.WalkKit
import Derived.ProofKit
import Derived.OpenShut
import Derived.ShutString
import Derived.ChangeOld
import Derived.Below
import Derived.SizedLaws
namespace Go.Proofs.Ytmekgfcfooghnaa.treeFinds
open Go.ChangeShapes Go.WideShapes Go.ChangeAt Go.RowKit
open Go.Proofs.Ytmekgfcfooghnaa.B Go.Proofs.Ytmekgfcfooghnaa.K Go.Proofs.Ytmekgfcfooghnaa.R
set_option linter.unusedVariables false
theorem own : ownKnob Try.prog.godebug = none := by kernel_rfl
theorem laidOut : laidOutB Try.prog = true := by kernel_rfl
theorem reads : ∀ t ∈ ([22, 3] : List TypeId), Try.prog.readableRec t = true ∧ t < Try.prog.types.size := by
  have h : ([22, 3] : List TypeId).all (fun t => Try.prog.readableRec t && decide (t < Try.prog.types.size)) = true := by kernel_rfl
  intro t ht
  have := List.all_eq_true.1 h t ht
  simpa using this
theorem bool4 : Try.prog.underlying 4 = some .bool := by kernel_rfl
theorem params : Try.f5.params.toList = [22, 3] := by kernel_rfl
theorem un3 : Try.prog.underlying 3 = some (.int .i64) := by kernel_rfl
theorem un22 : Try.prog.underlying 22 = some (.slice 39) := by kernel_rfl
set_option maxRecDepth 100000 in
set_option maxHeartbeats 4000000 in
theorem lifted (os : Os) (started : os.Started) (H : Type) (enc : TypeId × Value → H) (F : Stop.Interp) :
    ReturnsInHanded {} Try.checked os 5 .any ((Rows.OpenSpec.upto Rows.treeFindsSpec).pre6 enc Try.prog Try.f5 Rows.treeFindsUptoRow.domain false) (((Rows.OpenSpec.upto Rows.treeFindsSpec).at F).post enc Try.prog Try.f5 false true false false) := by
  refine returnsInHanded_of_cond_sized (C := Try.checked) (hk := rfl) own started (by kernel_rfl) Try.func5
    (OpenSpec.witness (enc := enc) (C := Try.checked) (k := Rows.uptoSmall) rfl false ⟨#[], #[.slice none 0 0, .int .i64 0], []⟩ 8 (by kernel_rfl) (by kernel_rfl) (by kernel_rfl) (x := ([.nil, .lit (.int .i64 0)], [], [])) (by kernel_rfl) (by kernel_rfl) (by kernel_rfl) (by kernel_rfl)) ?_
  intro W base args ds gs before hval0 hW hcnd hbulk hsz _
  have hval : ∀ (j : Nat) t v, Try.f5.params[j]? = some t → args[j]? = some v → Value.okWide Try.prog W .any base t v := hval0
  have hW' := hW
  obtain ⟨p, q, hA0, hV, rfl, hfz, hnd⟩ := hW
  have hA : DataW.TrodAll enc Try.prog W 0 (fun _ => true) true Try.f5.params.toList args.toList ds p := hA0
  have hlt : ∀ x ∈ p, x.block < W.heap.size := fun x hx => hA.lt x hx
  have hA1 := hA
  rw [params] at hA hA1
  rw [show Try.f5.params = #[22, 3] by kernel_rfl] at hval
  have hsz1 := hsz
  rw [params] at hsz1
  obtain ⟨v0, vs0, d0, ds0, p0, q0, e0, rfl, rfl, h0, r0⟩ := trodAll_cons hA1
  obtain ⟨v1, vs1, d1, ds1, p1, q1, e1, rfl, rfl, h1, r1⟩ := trodAll_cons r0
  obtain ⟨e2, rfl, rfl⟩ := trodAll_nil r1
  obtain rfl : args = #[v0, v1] := by
    cases args; simp_all
  obtain ⟨rfl, rfl⟩ := trodVars_none hV
  obtain ⟨x0, k0, Q0, Z0⟩ := op_22.arg h0 (light_of hsz1 (j := 0) rfl rfl)
  obtain ⟨_, _, _, c0, f0_0⟩ := k0
  obtain rfl := cells_one c0 (hval 0 22 v0 rfl rfl) un22 rfl
  obtain ⟨x1, k1, Q1, Z1⟩ := op_3.arg h1 (light_of hsz1 (j := 1) rfl rfl)
  have c1 := k1
  obtain rfl := cells_one c1 (hval 1 3 v1 rfl rfl) un3 rfl
  have Z0 : (sumL sz_api_Node x0 + 1) ≤ Rows.uptoBulk d0 := Z0
  have Z1 : 1 ≤ Rows.uptoBulk d1 := Z1
  have hsum : (sumL sz_api_Node x0 + 1) + 1 ≤ 1048576 := by
    have := of_decide_eq_true hbulk
    simp only [List.append_nil, Rows.uptoBulkAll] at this
    omega
  clear hA0 hval0
  refine Calls.mono (K.trellislaw15_TreeFinds_calls W (fun _ => False) x0 x1 _ _ _ f0_0.st (fun _ h => h.elim) (Loc.start _ _) true (law x0 x1 Q0 Q1 hsum)) ?_
  rintro _ W' ⟨rfl, hL⟩
  have bel := hL.below
  exact ⟨_, rfl, _, _, _, [], _, [], hW', trodAll_mk1 (shut_bool bool4 _), TrodAll.below laidOut bel reads hA hlt, rfl, bel.frame _, fun h => by cases h⟩

theorem over : Rows.treeFindsUptoRow.holds Try.pinned (Rows.OpenSpec.upto Rows.treeFindsSpec) :=
  OpenClaim.holds_of_cond 5 Try.f5 rfl rfl rfl rfl rfl rfl rfl ⟨rfl, rfl, rfl, rfl, rfl⟩ rfl rfl rfl rfl rfl (by kernel_rfl) Try.func5 (by kernel_rfl)
    (of_decide_eq_true (by kernel_rfl)) (by unfold Func.isWrapper; first | (rw [if_pos (by decide +kernel)]; kernel_rfl) | (rw [if_neg (by decide +kernel)]; exact ⟨rfl, rfl⟩))
    (fun os started H enc _ F => lifted os started H enc F)

theorem proved : Rows.TreeFindsUptoSaid := over
end Go.Proofs.Ytmekgfcfooghnaa.treeFinds
