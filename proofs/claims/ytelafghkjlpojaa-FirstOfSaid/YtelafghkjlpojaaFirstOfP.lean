/- FirstOf: for every input the law returns true, and what is handed in reads as it did. No condition. -/
import Derived.Test.YtelafghkjlpojaaRows
import Derived.Test.YtelafghkjlpojaaK
import Derived.Test.YtelafghkjlpojaaT
import Derived.Test.YtelafghkjlpojaaFirstOf
import Derived.JoinedCond
import Derived.WalkKit
import Derived.ProofKit
import Derived.OpenShut
import Derived.ShutString
import Derived.ChangeOld
import Derived.Below
import Derived.SizedLaws
namespace Go.Proofs.Ytelafghkjlpojaa.firstOf
open Go.ChangeShapes Go.WideShapes Go.ChangeAt Go.RowKit
open Go.Proofs.Ytelafghkjlpojaa.B Go.Proofs.Ytelafghkjlpojaa.K Go.Proofs.Ytelafghkjlpojaa.R
set_option linter.unusedVariables false
theorem own:ownKnob Try.prog.godebug=none:=by kernel_rfl
theorem laidOut:laidOutB Try.prog=true:=by kernel_rfl
theorem reads:∀ t ∈ ([26,27,29]:List TypeId),Try.prog.readableRec t=true∧t < Try.prog.types.size:=by
  have h:([26,27,29]:List TypeId).all (fun t=>Try.prog.readableRec t && decide (t < Try.prog.types.size))=true:=by kernel_rfl
  intro t ht
  have:=List.all_eq_true.1 h t ht
  simpa using this
theorem bool4:Try.prog.underlying 4=some .bool:=by kernel_rfl
theorem params:Try.f3.params.toList=[26,27,29]:=by kernel_rfl
theorem un27:Try.prog.underlying 27=some (.slice 36):=by kernel_rfl
theorem un29:Try.prog.underlying 29=some (.int .u64):=by kernel_rfl
set_option maxRecDepth 100000 in
set_option maxHeartbeats 4000000 in
theorem lifted (os : Os) (started : os.Started) (H : Type) (enc : TypeId × Value → H) :
    ReturnsInHanded {} Try.checked os 3 .any (Rows.firstOfSpec.pre6 enc Try.prog Try.f3 Rows.firstOfRow.domain false) (Rows.firstOfSpec.post enc Try.prog Try.f3 false true false false):=by
  refine returnsInHanded_of_change_sized (C := Try.checked) own started (by kernel_rfl) Try.func3
    (ChangeSpec.witness6 (enc:=enc) (C:=Try.checked) false ⟨#[],#[.agg #[.slice none 0 0,.slice none 0 0,.slice none 0 0],.slice none 0 0,.int .u64 0],[]⟩ 8 (by kernel_rfl) (by kernel_rfl) (by kernel_rfl) (by kernel_rfl)) ?_
  intro W base args ds gs before hval0 hW hcnd hsz _
  have hval:∀ (j:Nat) t v,Try.f3.params[j]? = some t→args[j]? = some v→Value.okWide Try.prog W .any base t v:=hval0
  have hW':=hW
  obtain ⟨p,q,hA0,hV,rfl,hfz,hnd⟩:=hW
  have hA:DataW.TrodAll enc Try.prog W 0 (fun _=>true) true Try.f3.params.toList args.toList ds p:=hA0
  have hlt:∀ x ∈ p,x.block < W.heap.size:=fun x hx=>hA.lt x hx
  have hA1:=hA
  rw [params] at hA hA1
  rw [show Try.f3.params = #[26,27,29] by kernel_rfl] at hval
  have hsz1:=hsz
  rw [params] at hsz1
  obtain ⟨v0,vs0,d0,ds0,p0,q0,e0,rfl,rfl,h0,r0⟩:=trodAll_cons hA1
  obtain ⟨v1,vs1,d1,ds1,p1,q1,e1,rfl,rfl,h1,r1⟩:=trodAll_cons r0
  obtain ⟨v2,vs2,d2,ds2,p2,q2,e2,rfl,rfl,h2,r2⟩:=trodAll_cons r1
  obtain ⟨e3,rfl,rfl⟩:=trodAll_nil r2
  obtain rfl:args = #[v0,v1,v2]:=by
    cases args; simp_all
  obtain ⟨rfl,rfl⟩:=trodVars_none hV
  obtain ⟨x0,k0,Q0,Z0⟩:=op_26.arg h0 (Yqf hsz1 (j:=0) rfl rfl)
  obtain ⟨_,_,_,_,_,_,_,_,_,c0,f0_0,f0_1,f0_2⟩:=k0
  obtain rfl:=Ytv c0 (by simp)
  obtain ⟨x1,k1,Q1,Z1⟩:=op_27.arg h1 (Yqf hsz1 (j:=1) rfl rfl)
  obtain ⟨_,_,_,c1,f1_0⟩:=k1
  obtain rfl:=Yrq c1 (hval 1 27 v1 rfl rfl) un27 rfl
  obtain ⟨x2,k2,Q2,Z2⟩:=op_29.arg h2 (Yqf hsz1 (j:=2) rfl rfl)
  have c2:=k2
  obtain rfl:=Yrq c2 (hval 2 29 v2 rfl rfl) un29 rfl
  clear hA0 hval0
  refine Calls.mono (K.Yms W (fun _=>False) x0 x1 x2 _ _ _ _ _ _ _ _ _ _ _ _ f0_0.st f0_1.st f0_2.st f1_0.st (fun _ h=>h.elim) (Loc.start _ _) true (law x0 x1 x2 Q0 Q1 Q2)) ?_
  rintro _ W' ⟨rfl,hL⟩
  have bel:=hL.below
  exact ⟨_,rfl,_,_,_,[],_,[],hW',trodAll_mk1 (shut_bool bool4 _),TrodAll.below laidOut bel reads hA hlt,rfl,bel.frame _,fun h=>by cases h⟩

theorem over:Rows.firstOfRow.holds Try.pinned (OpenSpec.ofChange Rows.firstOfSpec) :=
  OpenClaim.holds_of_wide 3 Try.f3 rfl rfl rfl rfl rfl rfl rfl ⟨rfl, rfl, rfl, rfl, rfl⟩ rfl rfl rfl rfl rfl (by kernel_rfl) Try.func3 (by kernel_rfl)
    (of_decide_eq_true (by kernel_rfl)) (by unfold Func.isWrapper; first | (rw [if_pos (by decide +kernel)]; kernel_rfl) | (rw [if_neg (by decide +kernel)]; exact ⟨rfl,rfl⟩))
    (fun os started H enc _=>lifted os started H enc)

theorem proved:Rows.FirstOfSaid:=over
end Go.Proofs.Ytelafghkjlpojaa.firstOf
