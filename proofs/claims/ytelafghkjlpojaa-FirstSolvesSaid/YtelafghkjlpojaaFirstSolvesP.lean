/- FirstSolves: for every input the law returns true, and what is handed in reads as it did. No condition. -/
import Derived.Test.YtelafghkjlpojaaRows
import Derived.Test.YtelafghkjlpojaaK
import Derived.Test.YtelafghkjlpojaaT
import Derived.Test.YtelafghkjlpojaaFirstSolves
import Derived.JoinedCond
import Derived.WalkKit
import Derived.ProofKit
import Derived.OpenShut
import Derived.ShutString
import Derived.ChangeOld
import Derived.Below
import Derived.SizedLaws
namespace Go.Proofs.Ytelafghkjlpojaa.firstSolves
open Go.ChangeShapes Go.WideShapes Go.ChangeAt Go.RowKit
open Go.Proofs.Ytelafghkjlpojaa.B Go.Proofs.Ytelafghkjlpojaa.K Go.Proofs.Ytelafghkjlpojaa.R
set_option linter.unusedVariables false
theorem own:ownKnob Try.prog.godebug=none:=by kernel_rfl
theorem laidOut:laidOutB Try.prog=true:=by kernel_rfl
theorem reads:∀ t ∈ ([26]:List TypeId),Try.prog.readableRec t=true∧t < Try.prog.types.size:=by
  have h:([26]:List TypeId).all (fun t=>Try.prog.readableRec t && decide (t < Try.prog.types.size))=true:=by kernel_rfl
  intro t ht
  have:=List.all_eq_true.1 h t ht
  simpa using this
theorem bool4:Try.prog.underlying 4=some .bool:=by kernel_rfl
theorem params:Try.f4.params.toList=[26]:=by kernel_rfl
set_option maxRecDepth 100000 in
set_option maxHeartbeats 4000000 in
theorem lifted (os : Os) (started : os.Started) (H : Type) (enc : TypeId × Value → H) :
    ReturnsInHanded {} Try.checked os 4 .any (Rows.firstSolvesSpec.pre6 enc Try.prog Try.f4 Rows.firstSolvesRow.domain false) (Rows.firstSolvesSpec.post enc Try.prog Try.f4 false true false false):=by
  refine returnsInHanded_of_change_sized (C := Try.checked) own started (by kernel_rfl) Try.func4
    (ChangeSpec.witness6 (enc:=enc) (C:=Try.checked) false ⟨#[],#[.agg #[.slice none 0 0,.slice none 0 0,.slice none 0 0]],[]⟩ 8 (by kernel_rfl) (by kernel_rfl) (by kernel_rfl) (by kernel_rfl)) ?_
  intro W base args ds gs before hval0 hW hcnd hsz _
  have hval:∀ (j:Nat) t v,Try.f4.params[j]? = some t→args[j]? = some v→Value.okWide Try.prog W .any base t v:=hval0
  have hW':=hW
  obtain ⟨p,q,hA0,hV,rfl,hfz,hnd⟩:=hW
  have hA:DataW.TrodAll enc Try.prog W 0 (fun _=>true) true Try.f4.params.toList args.toList ds p:=hA0
  have hlt:∀ x ∈ p,x.block < W.heap.size:=fun x hx=>hA.lt x hx
  have hA1:=hA
  rw [params] at hA hA1
  rw [show Try.f4.params = #[26] by kernel_rfl] at hval
  have hsz1:=hsz
  rw [params] at hsz1
  obtain ⟨v0,vs0,d0,ds0,p0,q0,e0,rfl,rfl,h0,r0⟩:=trodAll_cons hA1
  obtain ⟨e1,rfl,rfl⟩:=trodAll_nil r0
  obtain rfl:args = #[v0]:=by
    cases args; simp_all
  obtain ⟨rfl,rfl⟩:=trodVars_none hV
  obtain ⟨x0,k0,Q0,Z0⟩:=op_26.arg h0 (light_of hsz1 (j:=0) rfl rfl)
  obtain ⟨_,_,_,_,_,_,_,_,_,c0,f0_0,f0_1,f0_2⟩:=k0
  obtain rfl:=Yv9 c0 (by simp)
  clear hA0 hval0
  refine Calls.mono (K.Ymn W (fun _=>False) x0 _ _ _ _ _ _ _ _ _ f0_0.st f0_1.st f0_2.st (fun _ h=>h.elim) (Loc.start _ _) true (law x0 Q0)) ?_
  rintro _ W' ⟨rfl,hL⟩
  have bel:=hL.below
  exact ⟨_,rfl,_,_,_,[],_,[],hW',trodAll_mk1 (shut_bool bool4 _),TrodAll.below laidOut bel reads hA hlt,rfl,bel.frame _,fun h=>by cases h⟩

theorem over:Rows.firstSolvesRow.holds Try.pinned (OpenSpec.ofChange Rows.firstSolvesSpec) :=
  OpenClaim.holds_of_wide 4 Try.f4 rfl rfl rfl rfl rfl rfl rfl ⟨rfl, rfl, rfl, rfl, rfl⟩ rfl rfl rfl rfl rfl (by kernel_rfl) Try.func4 (by kernel_rfl)
    (of_decide_eq_true (by kernel_rfl)) (by unfold Func.isWrapper; first | (rw [if_pos (by decide +kernel)]; kernel_rfl) | (rw [if_neg (by decide +kernel)]; exact ⟨rfl,rfl⟩))
    (fun os started H enc _=>lifted os started H enc)

theorem proved:Rows.FirstSolvesSaid:=over
end Go.Proofs.Ytelafghkjlpojaa.firstSolves
