/- TreeMakes: for every input the law returns true, and what is handed in reads as it did. No condition. -/
import Derived.Test.YtmekgfcfooghnaaRows
import Derived.Test.YtmekgfcfooghnaaK
import Derived.Test.YtmekgfcfooghnaaT
import Derived.Test.YtmekgfcfooghnaaTreeMakes
import Derived.JoinedCond
import Derived.WalkKit
import Derived.ProofKit
import Derived.OpenShut
import Derived.ShutString
import Derived.ChangeOld
import Derived.Below
import Derived.SizedLaws
namespace Go.Proofs.Ytmekgfcfooghnaa.treeMakes
open Go.ChangeShapes Go.WideShapes Go.ChangeAt Go.RowKit
open Go.Proofs.Ytmekgfcfooghnaa.B Go.Proofs.Ytmekgfcfooghnaa.K Go.Proofs.Ytmekgfcfooghnaa.R
set_option linter.unusedVariables false
theorem own:ownKnob Try.prog.godebug=none:=by kernel_rfl
theorem laidOut:laidOutB Try.prog=true:=by kernel_rfl
theorem reads:∀ t ∈ ([58,3,3,3,3,3,3,59,23]:List TypeId),Try.prog.readableRec t=true∧t < Try.prog.types.size:=by
  have h:([58,3,3,3,3,3,3,59,23]:List TypeId).all (fun t=>Try.prog.readableRec t && decide (t < Try.prog.types.size))=true:=by kernel_rfl
  intro t ht
  have:=List.all_eq_true.1 h t ht
  simpa using this
theorem bool4:Try.prog.underlying 4=some .bool:=by kernel_rfl
theorem params:Try.f4.params.toList=[58,3,3,3,3,3,3,59,23]:=by kernel_rfl
theorem un3:Try.prog.underlying 3=some (.int .i64):=by kernel_rfl
theorem un23:Try.prog.underlying 23=some (.slice 3):=by kernel_rfl
theorem un59:Try.prog.underlying 59=some (.slice 22):=by kernel_rfl
set_option maxRecDepth 100000 in
set_option maxHeartbeats 4000000 in
theorem lifted (os : Os) (started : os.Started) (H : Type) (enc : TypeId × Value → H) (F : Stop.Interp) :
    ReturnsInHanded {} Try.checked os 4 .any ((Rows.OpenSpec.upto Rows.treeMakesSpec).pre6 enc Try.prog Try.f4 Rows.treeMakesUptoRow.domain false) (((Rows.OpenSpec.upto Rows.treeMakesSpec).at F).post enc Try.prog Try.f4 false true false false):=by
  refine Xty (C := Try.checked) (hk := rfl) own started (by kernel_rfl) Try.func4
    (OpenSpec.witness (enc:=enc) (C:=Try.checked) (k:=Rows.uptoSmall) rfl false ⟨#[],#[.agg #[.string .empty,.slice none 0 0,.slice none 0 0,.slice none 0 0,.slice none 0 0,.slice none 0 0,.slice none 0 0,.slice none 0 0,.slice none 0 0,.slice none 0 0,.slice none 0 0,.slice none 0 0],.int .i64 0,.int .i64 0,.int .i64 0,.int .i64 0,.int .i64 0,.int .i64 0,.slice none 0 0,.slice none 0 0],[]⟩ 8 (by kernel_rfl) (by kernel_rfl) (by kernel_rfl) (x:=([.agg [.lit (.string []),.nil,.agg [.nil,.nil,.nil],.nil,.agg [.nil,.nil],.nil,.nil,.nil,.nil],.lit (.int .i64 0),.lit (.int .i64 0),.lit (.int .i64 0),.lit (.int .i64 0),.lit (.int .i64 0),.lit (.int .i64 0),.nil,.nil],[],[])) (by kernel_rfl) (by kernel_rfl) (by kernel_rfl) (by kernel_rfl)) ?_
  intro W base args ds gs before hval0 hW hcnd hbulk hsz _
  have hval:∀ (j:Nat) t v,Try.f4.params[j]? = some t→args[j]? = some v→Value.okWide Try.prog W .any base t v:=hval0
  have hW':=hW
  obtain ⟨p,q,hA0,hV,rfl,hfz,hnd⟩:=hW
  have hA:DataW.TrodAll enc Try.prog W 0 (fun _=>true) true Try.f4.params.toList args.toList ds p:=hA0
  have hlt:∀ x ∈ p,x.block < W.heap.size:=fun x hx=>hA.lt x hx
  have hA1:=hA
  rw [params] at hA hA1
  rw [show Try.f4.params = #[58,3,3,3,3,3,3,59,23] by kernel_rfl] at hval
  have hsz1:=hsz
  rw [params] at hsz1
  obtain ⟨v0,vs0,d0,ds0,p0,q0,e0,rfl,rfl,h0,r0⟩:=trodAll_cons hA1
  obtain ⟨v1,vs1,d1,ds1,p1,q1,e1,rfl,rfl,h1,r1⟩:=trodAll_cons r0
  obtain ⟨v2,vs2,d2,ds2,p2,q2,e2,rfl,rfl,h2,r2⟩:=trodAll_cons r1
  obtain ⟨v3,vs3,d3,ds3,p3,q3,e3,rfl,rfl,h3,r3⟩:=trodAll_cons r2
  obtain ⟨v4,vs4,d4,ds4,p4,q4,e4,rfl,rfl,h4,r4⟩:=trodAll_cons r3
  obtain ⟨v5,vs5,d5,ds5,p5,q5,e5,rfl,rfl,h5,r5⟩:=trodAll_cons r4
  obtain ⟨v6,vs6,d6,ds6,p6,q6,e6,rfl,rfl,h6,r6⟩:=trodAll_cons r5
  obtain ⟨v7,vs7,d7,ds7,p7,q7,e7,rfl,rfl,h7,r7⟩:=trodAll_cons r6
  obtain ⟨v8,vs8,d8,ds8,p8,q8,e8,rfl,rfl,h8,r8⟩:=trodAll_cons r7
  obtain ⟨e9,rfl,rfl⟩:=trodAll_nil r8
  obtain rfl:args = #[v0,v1,v2,v3,v4,v5,v6,v7,v8]:=by
    cases args; simp_all
  obtain ⟨rfl,rfl⟩:=trodVars_none hV
  obtain ⟨x0,k0,Q0,Z0⟩:=op_58.arg h0 (Xtd hsz1 (j:=0) rfl rfl)
  obtain ⟨_,_,_,_,_,_,_,_,_,_,_,_,_,_,_,_,_,_,_,_,_,_,_,_,_,_,_,_,_,_,_,_,_,c0,f0_0,f0_1,f0_2,f0_3,f0_4,f0_5,f0_6,f0_7,f0_8,f0_9,f0_10⟩:=k0
  obtain rfl:=Yfq c0 (by simp)
  obtain ⟨x1,k1,Q1,Z1⟩:=Xw5.arg h1 (Xtd hsz1 (j:=1) rfl rfl)
  have c1:=k1
  obtain rfl:=Xt3 c1 (hval 1 3 v1 rfl rfl) un3 rfl
  obtain ⟨x2,k2,Q2,Z2⟩:=Xw5.arg h2 (Xtd hsz1 (j:=2) rfl rfl)
  have c2:=k2
  obtain rfl:=Xt3 c2 (hval 2 3 v2 rfl rfl) un3 rfl
  obtain ⟨x3,k3,Q3,Z3⟩:=Xw5.arg h3 (Xtd hsz1 (j:=3) rfl rfl)
  have c3:=k3
  obtain rfl:=Xt3 c3 (hval 3 3 v3 rfl rfl) un3 rfl
  obtain ⟨x4,k4,Q4,Z4⟩:=Xw5.arg h4 (Xtd hsz1 (j:=4) rfl rfl)
  have c4:=k4
  obtain rfl:=Xt3 c4 (hval 4 3 v4 rfl rfl) un3 rfl
  obtain ⟨x5,k5,Q5,Z5⟩:=Xw5.arg h5 (Xtd hsz1 (j:=5) rfl rfl)
  have c5:=k5
  obtain rfl:=Xt3 c5 (hval 5 3 v5 rfl rfl) un3 rfl
  obtain ⟨x6,k6,Q6,Z6⟩:=Xw5.arg h6 (Xtd hsz1 (j:=6) rfl rfl)
  have c6:=k6
  obtain rfl:=Xt3 c6 (hval 6 3 v6 rfl rfl) un3 rfl
  obtain ⟨x7,k7,Q7,Z7⟩:=op_59.arg h7 (Xtd hsz1 (j:=7) rfl rfl)
  obtain ⟨_,_,_,c7,f7_0⟩:=k7
  obtain rfl:=Xt3 c7 (hval 7 59 v7 rfl rfl) un59 rfl
  obtain ⟨x8,k8,Q8,Z8⟩:=op_23.arg h8 (Xtd hsz1 (j:=8) rfl rfl)
  obtain ⟨_,_,_,c8,f8_0⟩:=k8
  obtain rfl:=Xt3 c8 (hval 8 23 v8 rfl rfl) un23 rfl
  have Z0:(Xvg x0)≤Rows.uptoBulk d0:=Z0
  have Z1:1≤Rows.uptoBulk d1:=Z1
  have Z2:1≤Rows.uptoBulk d2:=Z2
  have Z3:1≤Rows.uptoBulk d3:=Z3
  have Z4:1≤Rows.uptoBulk d4:=Z4
  have Z5:1≤Rows.uptoBulk d5:=Z5
  have Z6:1≤Rows.uptoBulk d6:=Z6
  have Z7:(Xo8 (fun xs:List Xm4=>Xo8 Xpc xs + 1) x7 + 1)≤Rows.uptoBulk d7:=Z7
  have Z8:(Xo8 (fun _:Int=>1) x8 + 1)≤Rows.uptoBulk d8:=Z8
  have hsum:(Xvg x0) + 1 + 1 + 1 + 1 + 1 + 1 + (Xo8 (fun xs:List Xm4=>Xo8 Xpc xs + 1) x7 + 1) + (Xo8 (fun _:Int=>1) x8 + 1)≤1048576:=by
    have:=of_decide_eq_true hbulk
    simp only [List.append_nil,Rows.uptoBulkAll] at this
    omega
  clear hA0 hval0
  refine Calls.mono (K.Xu8 W (fun _=>False) x0 x1 x2 x3 x4 x5 x6 x7 x8 _ _ _ _ _ _ _ _ _ _ _ _ _ _ _ _ _ _ _ _ _ _ _ _ _ _ _ _ _ _ _ _ _ _ _ _ _ _ _ f0_0.st f0_1.st f0_2.st f0_3.st f0_4.st f0_5.st f0_6.st f0_7.st f0_8.st f0_9.st f0_10.st f7_0.st f8_0.st (fun _ h=>h.elim) (Loc.start _ _) true (law x0 x1 x2 x3 x4 x5 x6 x7 x8 Q0 Q1 Q2 Q3 Q4 Q5 Q6 Q7 Q8 hsum)) ?_
  rintro _ W' ⟨rfl,hL⟩
  have bel:=hL.below
  exact ⟨_,rfl,_,_,_,[],_,[],hW',trodAll_mk1 (shut_bool bool4 _),TrodAll.below laidOut bel reads hA hlt,rfl,bel.frame _,fun h=>by cases h⟩

theorem over:Rows.treeMakesUptoRow.holds Try.pinned (Rows.OpenSpec.upto Rows.treeMakesSpec) :=
  OpenClaim.holds_of_cond 4 Try.f4 rfl rfl rfl rfl rfl rfl rfl ⟨rfl, rfl, rfl, rfl, rfl⟩ rfl rfl rfl rfl rfl (by kernel_rfl) Try.func4 (by kernel_rfl)
    (of_decide_eq_true (by kernel_rfl)) (by unfold Func.isWrapper; first | (rw [if_pos (by decide +kernel)]; kernel_rfl) | (rw [if_neg (by decide +kernel)]; exact ⟨rfl,rfl⟩))
    (fun os started H enc _ F=>lifted os started H enc F)

theorem proved:Rows.TreeMakesUptoSaid:=over
end Go.Proofs.Ytmekgfcfooghnaa.treeMakes
