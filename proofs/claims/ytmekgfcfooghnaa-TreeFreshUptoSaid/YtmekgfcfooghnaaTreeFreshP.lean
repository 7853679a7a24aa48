/- TreeFresh: for every input the law returns true, and what is handed in reads as it did. No condition. -/
import Derived.Test.YtmekgfcfooghnaaRows
import Derived.Test.YtmekgfcfooghnaaK
import Derived.Test.YtmekgfcfooghnaaT
import Derived.Test.YtmekgfcfooghnaaTreeFresh
import Derived.JoinedCond
import Derived.WalkKit
import Derived.ProofKit
import Derived.OpenShut
import Derived.ShutString
import Derived.ChangeOld
import Derived.Below
import Derived.SizedLaws
namespace Go.Proofs.Ytmekgfcfooghnaa.treeFresh
open Go.ChangeShapes Go.WideShapes Go.ChangeAt Go.RowKit
open Go.Proofs.Ytmekgfcfooghnaa.B Go.Proofs.Ytmekgfcfooghnaa.K Go.Proofs.Ytmekgfcfooghnaa.R
set_option linter.unusedVariables false
theorem own:ownKnob Try.prog.godebug=none:=by kernel_rfl
theorem laidOut:laidOutB Try.prog=true:=by kernel_rfl
theorem reads:∀ t ∈ ([58,3,3,59,23]:List TypeId),Try.prog.readableRec t=true∧t < Try.prog.types.size:=by
  have h:([58,3,3,59,23]:List TypeId).all (fun t=>Try.prog.readableRec t && decide (t < Try.prog.types.size))=true:=by kernel_rfl
  intro t ht
  have:=List.all_eq_true.1 h t ht
  simpa using this
theorem bool4:Try.prog.underlying 4=some .bool:=by kernel_rfl
theorem params:Try.f6.params.toList=[58,3,3,59,23]:=by kernel_rfl
theorem un3:Try.prog.underlying 3=some (.int .i64):=by kernel_rfl
theorem un23:Try.prog.underlying 23=some (.slice 3):=by kernel_rfl
theorem un59:Try.prog.underlying 59=some (.slice 22):=by kernel_rfl
set_option maxRecDepth 100000 in
set_option maxHeartbeats 4000000 in
theorem lifted (os : Os) (started : os.Started) (H : Type) (enc : TypeId × Value → H) (F : Stop.Interp) :
    ReturnsInHanded {} Try.checked os 6 .any ((Rows.OpenSpec.upto Rows.treeFreshSpec).pre6 enc Try.prog Try.f6 Rows.treeFreshUptoRow.domain false) (((Rows.OpenSpec.upto Rows.treeFreshSpec).at F).post enc Try.prog Try.f6 false true false false):=by
  refine Xut (C := Try.checked) (hk := rfl) own started (by kernel_rfl) Try.func6
    (OpenSpec.witness (enc:=enc) (C:=Try.checked) (k:=Rows.uptoSmall) rfl false ⟨#[],#[.agg #[.string .empty,.slice none 0 0,.slice none 0 0,.slice none 0 0,.slice none 0 0,.slice none 0 0,.slice none 0 0,.slice none 0 0,.slice none 0 0,.slice none 0 0,.slice none 0 0,.slice none 0 0],.int .i64 0,.int .i64 0,.slice none 0 0,.slice none 0 0],[]⟩ 8 (by kernel_rfl) (by kernel_rfl) (by kernel_rfl) (x:=([.agg [.lit (.string []),.nil,.agg [.nil,.nil,.nil],.nil,.agg [.nil,.nil],.nil,.nil,.nil,.nil],.lit (.int .i64 0),.lit (.int .i64 0),.nil,.nil],[],[])) (by kernel_rfl) (by kernel_rfl) (by kernel_rfl) (by kernel_rfl)) ?_
  intro W base args ds gs before hval0 hW hcnd hbulk hsz _
  have hval:∀ (j:Nat) t v,Try.f6.params[j]? = some t→args[j]? = some v→Value.okWide Try.prog W .any base t v:=hval0
  have hW':=hW
  obtain ⟨p,q,hA0,hV,rfl,hfz,hnd⟩:=hW
  have hA:DataW.TrodAll enc Try.prog W 0 (fun _=>true) true Try.f6.params.toList args.toList ds p:=hA0
  have hlt:∀ x ∈ p,x.block < W.heap.size:=fun x hx=>hA.lt x hx
  have hA1:=hA
  rw [params] at hA hA1
  rw [show Try.f6.params = #[58,3,3,59,23] by kernel_rfl] at hval
  have hsz1:=hsz
  rw [params] at hsz1
  obtain ⟨v0,vs0,d0,ds0,p0,q0,e0,rfl,rfl,h0,r0⟩:=trodAll_cons hA1
  obtain ⟨v1,vs1,d1,ds1,p1,q1,e1,rfl,rfl,h1,r1⟩:=trodAll_cons r0
  obtain ⟨v2,vs2,d2,ds2,p2,q2,e2,rfl,rfl,h2,r2⟩:=trodAll_cons r1
  obtain ⟨v3,vs3,d3,ds3,p3,q3,e3,rfl,rfl,h3,r3⟩:=trodAll_cons r2
  obtain ⟨v4,vs4,d4,ds4,p4,q4,e4,rfl,rfl,h4,r4⟩:=trodAll_cons r3
  obtain ⟨e5,rfl,rfl⟩:=trodAll_nil r4
  obtain rfl:args = #[v0,v1,v2,v3,v4]:=by
    cases args; simp_all
  obtain ⟨rfl,rfl⟩:=trodVars_none hV
  obtain ⟨x0,k0,Q0,Z0⟩:=op_58.arg h0 (Xy2 hsz1 (j:=0) rfl rfl)
  obtain ⟨_,_,_,_,_,_,_,_,_,_,_,_,_,_,_,_,_,_,_,_,_,_,_,_,_,_,_,_,_,_,_,_,_,c0,f0_0,f0_1,f0_2,f0_3,f0_4,f0_5,f0_6,f0_7,f0_8,f0_9,f0_10⟩:=k0
  obtain rfl:=Yhv c0 (by simp)
  obtain ⟨x1,k1,Q1,Z1⟩:=Xys.arg h1 (Xy2 hsz1 (j:=1) rfl rfl)
  have c1:=k1
  obtain rfl:=Xyg c1 (hval 1 3 v1 rfl rfl) un3 rfl
  obtain ⟨x2,k2,Q2,Z2⟩:=Xys.arg h2 (Xy2 hsz1 (j:=2) rfl rfl)
  have c2:=k2
  obtain rfl:=Xyg c2 (hval 2 3 v2 rfl rfl) un3 rfl
  obtain ⟨x3,k3,Q3,Z3⟩:=op_59.arg h3 (Xy2 hsz1 (j:=3) rfl rfl)
  obtain ⟨_,_,_,c3,f3_0⟩:=k3
  obtain rfl:=Xyg c3 (hval 3 59 v3 rfl rfl) un59 rfl
  obtain ⟨x4,k4,Q4,Z4⟩:=op_23.arg h4 (Xy2 hsz1 (j:=4) rfl rfl)
  obtain ⟨_,_,_,c4,f4_0⟩:=k4
  obtain rfl:=Xyg c4 (hval 4 23 v4 rfl rfl) un23 rfl
  have Z0:(Xw7 x0)≤Rows.uptoBulk d0:=Z0
  have Z1:1≤Rows.uptoBulk d1:=Z1
  have Z2:1≤Rows.uptoBulk d2:=Z2
  have Z3:(Xom (fun xs:List Xm4=>Xom Xr5 xs + 1) x3 + 1)≤Rows.uptoBulk d3:=Z3
  have Z4:(Xom (fun _:Int=>1) x4 + 1)≤Rows.uptoBulk d4:=Z4
  have hsum:(Xw7 x0) + 1 + 1 + (Xom (fun xs:List Xm4=>Xom Xr5 xs + 1) x3 + 1) + (Xom (fun _:Int=>1) x4 + 1)≤1048576:=by
    have:=of_decide_eq_true hbulk
    simp only [List.append_nil,Rows.uptoBulkAll] at this
    omega
  clear hA0 hval0
  refine Calls.mono (K.Xux W (fun _=>False) x0 x1 x2 x3 x4 _ _ _ _ _ _ _ _ _ _ _ _ _ _ _ _ _ _ _ _ _ _ _ _ _ _ _ _ _ _ _ _ _ _ _ _ _ _ _ f0_0.st f0_1.st f0_2.st f0_3.st f0_4.st f0_5.st f0_6.st f0_7.st f0_8.st f0_9.st f0_10.st f3_0.st f4_0.st (fun _ h=>h.elim) (Loc.start _ _) true (law x0 x1 x2 x3 x4 Q0 Q1 Q2 Q3 Q4 hsum)) ?_
  rintro _ W' ⟨rfl,hL⟩
  have bel:=hL.below
  exact ⟨_,rfl,_,_,_,[],_,[],hW',trodAll_mk1 (shut_bool bool4 _),TrodAll.below laidOut bel reads hA hlt,rfl,bel.frame _,fun h=>by cases h⟩

theorem over:Rows.treeFreshUptoRow.holds Try.pinned (Rows.OpenSpec.upto Rows.treeFreshSpec) :=
  OpenClaim.holds_of_cond 6 Try.f6 rfl rfl rfl rfl rfl rfl rfl ⟨rfl, rfl, rfl, rfl, rfl⟩ rfl rfl rfl rfl rfl (by kernel_rfl) Try.func6 (by kernel_rfl)
    (of_decide_eq_true (by kernel_rfl)) (by unfold Func.isWrapper; first | (rw [if_pos (by decide +kernel)]; kernel_rfl) | (rw [if_neg (by decide +kernel)]; exact ⟨rfl,rfl⟩))
    (fun os started H enc _ F=>lifted os started H enc F)

theorem proved:Rows.TreeFreshUptoSaid:=over
end Go.Proofs.Ytmekgfcfooghnaa.treeFresh
