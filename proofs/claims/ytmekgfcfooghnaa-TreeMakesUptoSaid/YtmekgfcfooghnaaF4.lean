/- Forests: how many roots, parents, children, as plain functions; that the program and the document's own functions answer these. Conditions: the list fits in memory, its numbers are ints. -/
import Derived.Test.YtmekgfcfooghnaaF3
set_option linter.unusedVariables false
namespace Go.Proofs.Ytmekgfcfooghnaa.L
open Go.Proofs.Ytmekgfcfooghnaa.B Go.Proofs.Ytmekgfcfooghnaa.R
def ParOf (t:List Xm4) (i q:Int):Prop:=∃ S0,sf t 0=some S0∧∃ j:Nat,i=(j:Int)∧j < t.length∧PR t 0 S0.length (-1) j q
theorem ParOf.uniq {t:List Xm4} {i q q':Int} (h:ParOf t i q) (h':ParOf t i q'):q=q':=by
 obtain ⟨S,h1,j,rfl,h2,h3⟩:=h
 obtain ⟨S',h1',j',h4,h2',h3'⟩:=h'
 obtain rfl:j=j':=by omega
 rw [h1] at h1'
 injection h1' with e
 subst e
 exact h3.uniq h3'
def sub (t:List Xm4) (i:Nat):Tre × Nat:=((sf (t.drop i) i).getD []).headD (Ycc,0)
theorem sub_at {t:List Xm4} {i:Nat} {y:Tre × Nat} {r:List (Tre × Nat)} (h:At t i (y :: r)):sub t i=y:=by unfold sub; rw [h.2]; rfl
theorem At.sub {t:List Xm4} {S:List (Tre × Nat)} (h:sf t 0=some S) {i:Nat} (hi:i < t.length):∃ r,At t i (sub t i :: r):=by
 obtain ⟨S',h'⟩:=At.from (t:=t) ⟨Nat.zero_le _,h⟩ i (by omega)
 match S',h' with
 | [],h'=>have:=h'.none; omega
 | y :: r,h'=>exact ⟨r,by rw [sub_at h']; exact h'⟩
def Xnq (t:List Xm4):List Int:=((sf t 0).getD []).map (·.1.at_)
def Xxw (t:List Xm4):Int:=if (sf t 0).isSome=true then ((Xnq t).length:Int) else -1
theorem Yfn {t:List Xm4} (hl:Xwd t) {f:Xnu} (hf:Yak t f) {S0:List (Tre × Nat)} (h0:sf t 0=some S0) {a m:Nat} {S:List (Tre × Nat)} (h:At t a S) (hm:m≤S.length):Xqr f (a:Int) (en a (S.take m):Int) ((S.take m).map (·.1.at_)):=by
 have hSl:S.length≤t.length:=by
  have:=(Ya3 _ _ h.2).2
  rw [List.length_drop] at this
  omega
 unfold Xqr
 have key:=Xmh.upto (B:=fun (s:Int × (List Int)) o=>Xns (en a (S.take m):Int) f s.1 s.2 o) (r:=(S.take m).map (·.1.at_)) (fun j=>((en a (S.take j):Int),(S.take j).map (·.1.at_))) m (fun j hj=>?_) ?_
 ·simpa [Xte] using key
 ·show Xns _ f (en a (S.take j):Int) ((S.take j).map (·.1.at_)) _
  obtain ⟨a1,a2⟩:=h.nth (j:=j) (by omega)
  obtain ⟨p1,p2,p3,p4,p5⟩:=a1.pos
  have hlt:=Yff h (show j + 1≤m from hj) hm
  rw [Xxp (by omega)] at hlt
  obtain ⟨_,x,e,r,q1,q2⟩:=hf.2.2.2.2 S0 h0 _ p1
  have hu:=a1.uniq q1
  injection hu with e1 e2
  have e3:(S[j]'(by omega)).2=e:=congrArg (·.2) e1
  have hE:=hf.2.2.1
  unfold Xns
  rw [if_pos (by omega)]
  refine ⟨_,rfl,by simp; omega,by omega,?_⟩
  rw [q2,Xxp (by omega),e3,List.take_succ_eq_append_getElem (by omega),List.map_append]
  simp only [List.map_cons,List.map_nil]
  rw [p2]
 ·show Xns _ f (en a (S.take m):Int) ((S.take m).map (·.1.at_)) _
  unfold Xns
  rw [if_neg (by omega)]
theorem Xz2 {t:List Xm4} (hl:Xwd t) (hw:Wf t):Xsb t (Xnq t):=by
 obtain ⟨f,f1,f2⟩:=Yd4 (t:=t) (by omega) hw
 unfold Xsb Xnq
 refine ⟨f,f1,?_⟩
 rw [f2.2.2.2.1]
 cases h:sf t 0 with
 | none=>rw [if_neg (by simp)]; rfl
 | some S =>
  rw [if_pos (by rfl)]
  have hA:At t 0 S:=⟨Nat.zero_le _,h⟩
  have:=Yfn hl f2 h hA (Nat.le_refl _)
  rw [List.take_length,hA.ens] at this
  exact ⟨_,this,rfl⟩
theorem Roots_ok {t:List Xm4} (hl:Xwd t) (hw:Wf t):Xv1 t (Xxw t):=by
 obtain ⟨f,f1,f2⟩:=Yd4 (t:=t) (by omega) hw
 unfold Xv1 Xxw
 refine ⟨f,f1,?_⟩
 rw [f2.2.2.2.1]
 by_cases h:(sf t 0).isSome=true
 ·rw [if_pos h,if_pos h]
  exact ⟨_,Xz2 hl hw,rfl⟩
 ·rw [if_neg h,if_neg h]
end Go.Proofs.Ytmekgfcfooghnaa.L
