/- JsonBlanks: for every input the law returns true, and what is handed in reads as it did. No condition. -/
import Derived.Test.YtmfopcbjgbphaaaDoorRows
import Derived.Test.YtmfopcbjgbphaaaDoorK
import Derived.Test.YtmfopcbjgbphaaaDoorT
import Derived.Test.YtmfopcbjgbphaaaDoorJsonBlanks
import Derived.JoinedCond
import Derived.WalkKit
import Derived.ProofKit
import Derived.OpenShut
import Derived.ShutString
import Derived.ChangeOld
import Derived.Below
import Derived.SizedLaws
import Derived.Test.YtmfopcbjgbphaaaDoorCards
import Derived.Test.YtmfopcbjgbphaaaDoorTie
import Derived.Test.YtmfopcbjgbphaaaDoorBG
import Derived.Test.YtmfopcbjgbphaaaDoorBX
import Derived.Deep.DeepHandedRow
import Derived.LaidMore
import Derived.LaidHandle
import Derived.Lay
namespace Go.Proofs.YtmfopcbjgbphaaaDoor.jsonBlanks
open Go.ChangeShapes Go.WideShapes Go.ChangeAt Go.RowKit
open Go.Proofs.YtmfopcbjgbphaaaDoor.B Go.Proofs.YtmfopcbjgbphaaaDoor.K Go.Proofs.YtmfopcbjgbphaaaDoor.R
set_option linter.unusedVariables false
theorem own : ownKnob Tryd.prog.godebug = none := by kernel_rfl
theorem laidOut : laidOutB Tryd.prog = true := by kernel_rfl
theorem reads : ∀ t ∈ ([9, 3] : List TypeId), Tryd.prog.readableRec t = true ∧ t < Tryd.prog.types.size := by
  have h : ([9, 3] : List TypeId).all (fun t => Tryd.prog.readableRec t && decide (t < Tryd.prog.types.size)) = true := by kernel_rfl
  intro t ht
  have := List.all_eq_true.1 h t ht
  simpa using this
theorem bool4 : Tryd.prog.underlying 4 = some .bool := by kernel_rfl
theorem params : Tryd.f9.params.toList = [9, 3] := by kernel_rfl
theorem un3 : Tryd.prog.underlying 3 = some (.int .i64) := by kernel_rfl
theorem un9 : Tryd.prog.underlying 9 = some (.string) := by kernel_rfl
theorem n0 : Tryd.prog.globalNamed "trellis/json.written" = some 0 := by kernel_rfl
theorem y0 : (Tryd.prog.globals[0]?).map (·.type) = some 78 := by kernel_rfl
theorem u0 : Tryd.prog.underlying 78 = some (.array 256 5) := by kernel_rfl
theorem tab0 {W : World} (h : laidMetH Tryd.prog Rows.jsonBlanksUptoRow.laid W) : Tt .u8 tb_0 0 (St W []) :=
  Tt.ofTab (tabIs_mem (a := [("unicode/utf8.acceptRanges", Rows.laid_unicode_utf8_acceptRanges), ("trellis/json.says", Rows.laid_trellis_json_says)]) (b := [("unicode/utf8.first", Rows.laid_unicode_utf8_first)]) n0 y0 u0 (by kernel_rfl) (by kernel_rfl) (by kernel_rfl) (by kernel_rfl) (by kernel_rfl) h) n0
theorem n1 : Tryd.prog.globalNamed "unicode/utf8.first" = some 1 := by kernel_rfl
theorem y1 : (Tryd.prog.globals[1]?).map (·.type) = some 78 := by kernel_rfl
theorem u1 : Tryd.prog.underlying 78 = some (.array 256 5) := by kernel_rfl
theorem tab1 {W : World} (h : laidMetH Tryd.prog Rows.jsonBlanksUptoRow.laid W) : Tt .u8 tb_1 1 (St W []) :=
  Tt.ofTab (tabIs_mem (a := [("unicode/utf8.acceptRanges", Rows.laid_unicode_utf8_acceptRanges), ("trellis/json.says", Rows.laid_trellis_json_says), ("trellis/json.written", Rows.laid_trellis_json_written)]) (b := []) n1 y1 u1 (by kernel_rfl) (by kernel_rfl) (by kernel_rfl) (by kernel_rfl) (by kernel_rfl) h) n1
theorem n2 : Tryd.prog.globalNamed "unicode/utf8.acceptRanges" = some 2 := by kernel_rfl
theorem y2 : (Tryd.prog.globals[2]?).map (·.type) = some 109 := by kernel_rfl
theorem u2 : Tryd.prog.underlying 109 = some (.array 16 108) := by kernel_rfl
def zz2 : List (List Int) := [[128, 191], [160, 191], [128, 159], [144, 191], [128, 143], [0, 0], [0, 0], [0, 0], [0, 0], [0, 0], [0, 0], [0, 0], [0, 0], [0, 0], [0, 0], [0, 0]]
theorem s2 : Tryd.prog.underlying 108 = some (.struct (stF Tryd.prog 108)) := by kernel_rfl
theorem f2 : ∀ (i : Nat) (f : Field), (stF Tryd.prog 108)[i]? = some f → Tryd.prog.underlying f.type = some (.int .u8) ∧ f.offset = i ∧ Tryd.prog.cellsOf f.type = 1 := fld_all (m := 2) (by kernel_rfl)
theorem tab2 {W : World} (h : laidMetH Tryd.prog Rows.jsonBlanksUptoRow.laid W) : Tt .u8 tb_2 2 (St W []) :=
  Tt.ofTab (zs := zz2.flatten) (pairs_mem (n := 16) (m := 2) (zs := zz2) (laid_reads (a := []) (b := [("trellis/json.says", Rows.laid_trellis_json_says), ("trellis/json.written", Rows.laid_trellis_json_written), ("unicode/utf8.first", Rows.laid_unicode_utf8_first)]) (by kernel_rfl) (by kernel_rfl) h) n2 y2 u2 s2 f2 (by kernel_rfl) (by kernel_rfl) (by kernel_rfl) (by kernel_rfl)) n2
theorem n3 : Tryd.prog.globalNamed "trellis/json.says" = some 3 := by kernel_rfl
theorem y3 : (Tryd.prog.globals[3]?).map (·.type) = some 78 := by kernel_rfl
theorem u3 : Tryd.prog.underlying 78 = some (.array 256 5) := by kernel_rfl
theorem tab3 {W : World} (h : laidMetH Tryd.prog Rows.jsonBlanksUptoRow.laid W) : Tt .u8 tb_3 3 (St W []) :=
  Tt.ofTab (tabIs_mem (a := [("unicode/utf8.acceptRanges", Rows.laid_unicode_utf8_acceptRanges)]) (b := [("trellis/json.written", Rows.laid_trellis_json_written), ("unicode/utf8.first", Rows.laid_unicode_utf8_first)]) n3 y3 u3 (by kernel_rfl) (by kernel_rfl) (by kernel_rfl) (by kernel_rfl) (by kernel_rfl) h) n3
theorem laid_met (os : Os) : laidMetH Tryd.prog Rows.jsonBlanksUptoRow.laid ((World.laidAll Tryd.prog os Rows.jsonBlanksUptoRow.laid).forCall (fun _ _ => 0) ⟨#[], #[.string .empty, .int .i64 0], []⟩).memory := by
  rw [MakeChecks.laidMetH_plain _ _ _ (by kernel_rfl)]
  exact laidMet_laidAll _ (by kernel_rfl) (by kernel_rfl)
theorem reads0 (os : Os) {H : Type} (enc : TypeId × Value → H) : ∃ places, DataW.whole enc Tryd.prog ((World.laidAll Tryd.prog os Rows.jsonBlanksUptoRow.laid).forCall (fun _ _ => 0) ⟨#[], #[.string .empty, .int .i64 0], []⟩).memory Tryd.f9.params.toList Rows.jsonBlanksSpec.vars false #[Value.string .empty, Value.int .i64 0].toList 8 = some ([.lit (.string []), .lit (.int .i64 0)], [], places) :=
  ⟨[], by kernel_rfl⟩
set_option maxRecDepth 100000 in
set_option maxHeartbeats 4000000 in
theorem lifted (os : Os) (started : os.Started) (H : Type) (enc : TypeId × Value → H) (F : Stop.Interp) :
    ReturnsInHanded {} Tryd.checked os 9 .any ((Rows.OpenSpec.upto Rows.jsonBlanksSpec).preRow enc Tryd.prog Tryd.f9 Rows.jsonBlanksUptoRow.domain false Rows.jsonBlanksUptoRow.laid) (((Rows.OpenSpec.upto Rows.jsonBlanksSpec).at F).post enc Tryd.prog Tryd.f9 false true false false) := by
  obtain ⟨places, hx⟩ := reads0 os enc
  refine returnsInHanded_of_row (C := Tryd.checked) (s := Rows.OpenSpec.upto Rows.jsonBlanksSpec) own started (by kernel_rfl) Tryd.func9
    (witness_row_at (enc := enc) (C := Tryd.checked) false (World.laidAll Tryd.prog os Rows.jsonBlanksUptoRow.laid) #[.string .empty, .int .i64 0] (World.laidAll_os _ _ _) (by kernel_rfl) (by kernel_rfl) (by kernel_rfl)
      (OpenSpec.preRow_of_cond 8 hx (by kernel_rfl) (fun k hk => by cases hk; kernel_rfl) (by kernel_rfl) (laid_met os))) ?_
  intro W base args ds gs before hval0 hW hcnd hcond hsz hLd _ _
  have hbulk := hcond _ rfl
  have hval : ∀ (j : Nat) t v, Tryd.f9.params[j]? = some t → args[j]? = some v → Value.okWide Tryd.prog W .any base t v := hval0
  have hW' := hW
  obtain ⟨p, q, hA0, hV, rfl, hfz, hnd⟩ := hW
  have hA : DataW.TrodAll enc Tryd.prog W 0 (fun _ => true) true Tryd.f9.params.toList args.toList ds p := hA0
  have hlt : ∀ x ∈ p, x.block < W.heap.size := fun x hx => hA.lt x hx
  have hA1 := hA
  rw [params] at hA hA1
  rw [show Tryd.f9.params = #[9, 3] by kernel_rfl] at hval
  have hsz1 := hsz
  rw [params] at hsz1
  obtain ⟨v0, vs0, d0, ds0, p0, q0, e0, rfl, rfl, h0, r0⟩ := trodAll_cons hA1
  obtain ⟨v1, vs1, d1, ds1, p1, q1, e1, rfl, rfl, h1, r1⟩ := trodAll_cons r0
  obtain ⟨e2, rfl, rfl⟩ := trodAll_nil r1
  obtain rfl : args = #[v0, v1] := by
    cases args; simp_all
  obtain ⟨rfl, rfl⟩ := trodVars_none hV
  obtain ⟨x0, k0, Q0, Z0⟩ := op_9.arg h0 (light_of hsz1 (j := 0) rfl rfl)
  have c0 := k0
  obtain rfl := cells_one c0 (hval 0 9 v0 rfl rfl) un9 rfl
  obtain ⟨x1, k1, Q1, Z1⟩ := op_3.arg h1 (light_of hsz1 (j := 1) rfl rfl)
  have c1 := k1
  obtain rfl := cells_one c1 (hval 1 3 v1 rfl rfl) un3 rfl
  have Z0 : (x0.size + 1) ≤ Rows.uptoBulk d0 := Z0
  have Z1 : 1 ≤ Rows.uptoBulk d1 := Z1
  have hsum : (x0.size + 1) + 1 ≤ 1048576 := by
    have := of_decide_eq_true hbulk
    simp only [List.append_nil, Rows.uptoBulkAll] at this
    omega
  clear hA0 hval0
  refine Calls.mono (K.tl_JsonBlanks_calls W (fun _ => False) x0 x1   (tab0 hLd) (tab1 hLd) (tab2 hLd) (tab3 hLd) (fun _ h => h.elim) (Loc.start _ _) true (law x0 x1 Q0 Q1 hsum)) ?_
  rintro _ W' ⟨rfl, hL⟩
  have bel := hL.below
  exact ⟨_, rfl, _, _, _, [], _, [], hW', trodAll_mk1 (shut_bool bool4 _), TrodAll.below laidOut bel reads hA hlt, rfl, bel.frame _, fun h => by cases h⟩

theorem said : Rows.JsonBlanksUptoSaid :=
  OpenClaim.holds_of_cond 9 Tryd.f9 rfl rfl rfl rfl rfl rfl rfl ⟨rfl, rfl, rfl, rfl, rfl⟩ rfl rfl rfl rfl rfl (by kernel_rfl) Tryd.func9 (by kernel_rfl)
    (of_decide_eq_true (by kernel_rfl)) (by unfold Func.isWrapper; first | (rw [if_pos (by decide +kernel)]; kernel_rfl) | (rw [if_neg (by decide +kernel)]; exact ⟨rfl, rfl⟩))
    (fun os started H enc _ F => by rw [OpenClaim.pre_eq_preRow]; exact lifted os started H enc F)
theorem plain (f : FuncId) (fn : Func) (hf : Tryd.pinned.checked.prog.funcNamed "trellis/trellislaw25.JsonBlanks" = some f) (hfn : Tryd.pinned.checked.prog.funcs[f]? = some fn) :
    false = Tryd.pinned.checked.prog.looks [] ∧ ∀ (j : Nat) t, fn.params[j]? = some t → Tryd.pinned.checked.prog.wantsStandIn t = false := by
  obtain rfl : f = 9 := Option.some.inj ((show Tryd.prog.funcNamed "trellis/trellislaw25.JsonBlanks" = some 9 by kernel_rfl).symm.trans hf) |>.symm
  obtain rfl : fn = Tryd.f9 := (Option.some.inj (Tryd.func9.symm.trans hfn)).symm
  refine ⟨by kernel_rfl, fun j t ht => ?_⟩
  have hm : t ∈ ([9, 3] : List TypeId) := by rw [← params]; exact Array.mem_toList_iff.2 (Array.mem_of_getElem? ht)
  have hall : (([9, 3] : List TypeId).all fun u => !Tryd.prog.wantsStandIn u) = true := by kernel_rfl
  exact (show Tryd.prog.wantsStandIn t = false by simpa using List.all_eq_true.1 hall t hm)
theorem proved : Rows.JsonBlanksUptoCardSaid :=
  Claim7.holds_tied_plain_at .later [] _ _ _ _ said (fun _ h => by cases h) (by kernel_rfl) (fun _ h => by cases h) jsonBlanksUpto_row_tie rfl ⟨rfl, rfl⟩ (by kernel_rfl) rfl plain (by kernel_rfl)
end Go.Proofs.YtmfopcbjgbphaaaDoor.jsonBlanks
