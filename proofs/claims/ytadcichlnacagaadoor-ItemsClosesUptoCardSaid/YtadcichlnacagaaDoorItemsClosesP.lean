/- ItemsCloses: for every input the law returns true, and what is handed in reads as it did. No condition. -/
import Derived.Test.YtadcichlnacagaaDoorRows
import Derived.Test.YtadcichlnacagaaDoorK
import Derived.Test.YtadcichlnacagaaDoorT
import Derived.Test.YtadcichlnacagaaDoorItemsCloses
import Derived.JoinedCond
import Derived.WalkKit
import Derived.ProofKit
import Derived.OpenShut
import Derived.ShutString
import Derived.ChangeOld
import Derived.Below
import Derived.SizedLaws
import Derived.Test.YtadcichlnacagaaDoorCards
import Derived.Test.YtadcichlnacagaaDoorTie
import Derived.Test.YtadcichlnacagaaDoorBG
import Derived.Test.YtadcichlnacagaaDoorBX
import Derived.Deep.DeepHandedRow
import Derived.LaidMore
import Derived.LaidHandle
import Derived.Lay
namespace Go.Proofs.YtadcichlnacagaaDoor.itemsCloses
open Go.ChangeShapes Go.WideShapes Go.ChangeAt Go.RowKit
open Go.Proofs.YtadcichlnacagaaDoor.B Go.Proofs.YtadcichlnacagaaDoor.K Go.Proofs.YtadcichlnacagaaDoor.R
set_option linter.unusedVariables false
theorem own:ownKnob Tryd.prog.godebug=none:=by kernel_rfl
theorem laidOut:laidOutB Tryd.prog=true:=by kernel_rfl
theorem reads:∀ t ∈ ([26,27,3]:List TypeId),Tryd.prog.readableRec t=true∧t < Tryd.prog.types.size:=by
  have h:([26,27,3]:List TypeId).all (fun t=>Tryd.prog.readableRec t && decide (t < Tryd.prog.types.size))=true:=by kernel_rfl
  intro t ht
  have:=List.all_eq_true.1 h t ht
  simpa using this
theorem bool4:Tryd.prog.underlying 4=some .bool:=by kernel_rfl
theorem params:Tryd.f3.params.toList=[26,27,3]:=by kernel_rfl
theorem un3:Tryd.prog.underlying 3=some (.int .i64):=by kernel_rfl
theorem un27:Tryd.prog.underlying 27=some (.slice 31):=by kernel_rfl
theorem n0 : Tryd.prog.globalNamed "math/bits.deBruijn64tab" = some 0 := by kernel_rfl
theorem y0:(Tryd.prog.globals[0]?).map (·.type)=some 128:=by kernel_rfl
theorem u0:Tryd.prog.underlying 128=some (.array 64 5):=by kernel_rfl
theorem tab0 {W:World} (h:laidMetH Tryd.prog Rows.itemsClosesUptoRow.laid W):Tt .u8 Zmo 0 (St W []) :=
  Tt.ofTab (Zt7 (a:=[]) (b:=[]) n0 y0 u0 (by kernel_rfl) (by kernel_rfl) (by kernel_rfl) (by kernel_rfl) (by kernel_rfl) h) n0
theorem laid_met (os:Os):laidMetH Tryd.prog Rows.itemsClosesUptoRow.laid ((World.doorLaid Tryd.prog 400 os).forCall (fun _ _=>0) ⟨#[],#[.agg #[.slice none 0 0,.slice none 0 0,.slice none 0 0],.slice none 0 0,.int .i64 0],[]⟩).memory:=by
  rw [MakeChecks.laidMetH_plain _ _ _ (by kernel_rfl)]
  exact laidMet_of_run' 8 (by kernel_rfl) (by kernel_rfl)
theorem reads0 (os:Os) {H:Type} (enc:TypeId × Value→H):∃ places,DataW.whole enc Tryd.prog ((World.doorLaid Tryd.prog 400 os).forCall (fun _ _=>0) ⟨#[],#[.agg #[.slice none 0 0,.slice none 0 0,.slice none 0 0],.slice none 0 0,.int .i64 0],[]⟩).memory Tryd.f3.params.toList Rows.itemsClosesSpec.vars false #[Value.agg #[Value.slice none 0 0,Value.slice none 0 0,Value.slice none 0 0],Value.slice none 0 0,Value.int .i64 0].toList 8=some ([.agg [.nil,.nil,.nil],.nil,.lit (.int .i64 0)],[],places) :=
  ⟨[],by kernel_rfl⟩
set_option maxRecDepth 100000 in
set_option maxHeartbeats 4000000 in
theorem lifted (os : Os) (started : os.Started) (H : Type) (enc : TypeId × Value → H) (F : Stop.Interp) :
    ReturnsInHanded {} Tryd.checked os 3 .any ((Rows.OpenSpec.upto Rows.itemsClosesSpec).preRow enc Tryd.prog Tryd.f3 Rows.itemsClosesUptoRow.domain false Rows.itemsClosesUptoRow.laid) (((Rows.OpenSpec.upto Rows.itemsClosesSpec).at F).post enc Tryd.prog Tryd.f3 false true false false):=by
  obtain ⟨places,hx⟩:=reads0 os enc
  refine returnsInHanded_of_row (C := Tryd.checked) (s := Rows.OpenSpec.upto Rows.itemsClosesSpec) own started (by kernel_rfl) Tryd.func3
    (witness_row_at (enc := enc) (C := Tryd.checked) false (World.doorLaid Tryd.prog 400 os) #[.agg #[.slice none 0 0, .slice none 0 0, .slice none 0 0], .slice none 0 0, .int .i64 0] rfl (by kernel_rfl) (by kernel_rfl) (by kernel_rfl)
      (OpenSpec.preRow_of_cond 8 hx (by kernel_rfl) (fun k hk=>by cases hk; kernel_rfl) (by kernel_rfl) (laid_met os))) ?_
  intro W base args ds gs before hval0 hW hcnd hcond hsz hLd _ _
  have hbulk:=hcond _ rfl
  have hval:∀ (j:Nat) t v,Tryd.f3.params[j]? = some t→args[j]? = some v→Value.okWide Tryd.prog W .any base t v:=hval0
  have hW':=hW
  obtain ⟨p,q,hA0,hV,rfl,hfz,hnd⟩:=hW
  have hA:DataW.TrodAll enc Tryd.prog W 0 (fun _=>true) true Tryd.f3.params.toList args.toList ds p:=hA0
  have hlt:∀ x ∈ p,x.block < W.heap.size:=fun x hx=>hA.lt x hx
  have hA1:=hA
  rw [params] at hA hA1
  rw [show Tryd.f3.params = #[26,27,3] by kernel_rfl] at hval
  have hsz1:=hsz
  rw [params] at hsz1
  obtain ⟨v0,vs0,d0,ds0,p0,q0,e0,rfl,rfl,h0,r0⟩:=trodAll_cons hA1
  obtain ⟨v1,vs1,d1,ds1,p1,q1,e1,rfl,rfl,h1,r1⟩:=trodAll_cons r0
  obtain ⟨v2,vs2,d2,ds2,p2,q2,e2,rfl,rfl,h2,r2⟩:=trodAll_cons r1
  obtain ⟨e3,rfl,rfl⟩:=trodAll_nil r2
  obtain rfl:args = #[v0,v1,v2]:=by
    cases args; simp_all
  obtain ⟨rfl,rfl⟩:=trodVars_none hV
  obtain ⟨x0,k0,Q0,Z0⟩:=op_26.arg h0 (Zne hsz1 (j:=0) rfl rfl)
  obtain ⟨_,_,_,_,_,_,_,_,_,c0,f0_0,f0_1,f0_2⟩:=k0
  obtain rfl:=Ztd c0 (by simp)
  obtain ⟨x1,k1,Q1,Z1⟩:=op_27.arg h1 (Zne hsz1 (j:=1) rfl rfl)
  obtain ⟨_,_,_,c1,f1_0⟩:=k1
  obtain rfl:=Zop c1 (hval 1 27 v1 rfl rfl) un27 rfl
  obtain ⟨x2,k2,Q2,Z2⟩:=op_3.arg h2 (Zne hsz1 (j:=2) rfl rfl)
  have c2:=k2
  obtain rfl:=Zop c2 (hval 2 3 v2 rfl rfl) un3 rfl
  have Z0:(Zda x0)≤Rows.uptoBulk d0:=Z0
  have Z1:(Zcg Zdh x1 + 1)≤Rows.uptoBulk d1:=Z1
  have Z2:1≤Rows.uptoBulk d2:=Z2
  have hsum:(Zda x0) + (Zcg Zdh x1 + 1) + 1≤1048576:=by
    have:=of_decide_eq_true hbulk
    simp only [List.append_nil,Rows.uptoBulkAll] at this
    omega
  clear hA0 hval0
  refine Calls.mono (K.Zff W (fun _=>False) x0 x1 x2 _ _ _ _ _ _ _ _ _ _ _ _ f0_0.st f0_1.st f0_2.st f1_0.st (tab0 hLd) (fun _ h=>h.elim) (Loc.start _ _) true (law x0 x1 x2 Q0 Q1 Q2 hsum)) ?_
  rintro _ W' ⟨rfl,hL⟩
  have bel:=hL.below
  exact ⟨_,rfl,_,_,_,[],_,[],hW',trodAll_mk1 (shut_bool bool4 _),TrodAll.below laidOut bel reads hA hlt,rfl,bel.frame _,fun h=>by cases h⟩

theorem said:Rows.ItemsClosesUptoSaid :=
  OpenClaim.holds_of_cond 3 Tryd.f3 rfl rfl rfl rfl rfl rfl rfl ⟨rfl, rfl, rfl, rfl, rfl⟩ rfl rfl rfl rfl rfl (by kernel_rfl) Tryd.func3 (by kernel_rfl)
    (of_decide_eq_true (by kernel_rfl)) (by unfold Func.isWrapper; first | (rw [if_pos (by decide +kernel)]; kernel_rfl) | (rw [if_neg (by decide +kernel)]; exact ⟨rfl,rfl⟩))
    (fun os started H enc _ F=>by rw [OpenClaim.pre_eq_preRow]; exact lifted os started H enc F)
theorem plain (f : FuncId) (fn : Func) (hf : Tryd.pinned.checked.prog.funcNamed "trellis/trellislaw12.ItemsCloses" = some f) (hfn : Tryd.pinned.checked.prog.funcs[f]? = some fn) :
    false=Tryd.pinned.checked.prog.looks []∧∀ (j:Nat) t,fn.params[j]? = some t→Tryd.pinned.checked.prog.wantsStandIn t=false:=by
  obtain rfl : f = 3 := Option.some.inj ((show Tryd.prog.funcNamed "trellis/trellislaw12.ItemsCloses" = some 3 by kernel_rfl).symm.trans hf) |>.symm
  obtain rfl:fn=Tryd.f3:=(Option.some.inj (Tryd.func3.symm.trans hfn)).symm
  refine ⟨by kernel_rfl,fun j t ht=>?_⟩
  have hm:t ∈ ([26,27,3]:List TypeId):=by rw [← params]; exact Array.mem_toList_iff.2 (Array.mem_of_getElem? ht)
  have hall:(([26,27,3]:List TypeId).all fun u=>!Tryd.prog.wantsStandIn u)=true:=by kernel_rfl
  exact (show Tryd.prog.wantsStandIn t=false by simpa using List.all_eq_true.1 hall t hm)
theorem proved:Rows.ItemsClosesUptoCardSaid :=
  Claim7.holds_tied_plain_at .later [] _ _ _ _ said (fun _ h=>by cases h) (by kernel_rfl) (fun _ h=>by cases h) itemsClosesUpto_row_tie rfl ⟨rfl,rfl⟩ (by kernel_rfl) rfl plain (by kernel_rfl)
end Go.Proofs.YtadcichlnacagaaDoor.itemsCloses
