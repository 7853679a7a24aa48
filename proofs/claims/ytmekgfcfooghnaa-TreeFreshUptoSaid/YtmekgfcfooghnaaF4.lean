/- Forests: how many roots, parents, children, as plain functions; that the program and the document's own functions answer these. Conditions: the list fits in memory, its numbers are ints. -/
import Derived.Test.YtmekgfcfooghnaaF3
set_option linter.unusedVariables false
namespace Go.Proofs.Ytmekgfcfooghnaa.L
open Go.Proofs.Ytmekgfcfooghnaa.B Go.Proofs.Ytmekgfcfooghnaa.R
def ParOf (t:List Xm4) (i q:Int):Prop:=∃ S0,sf t 0=some S0∧∃ j:Nat,i=(j:Int)∧j < t.length∧PR t 0 S0.length (-1) j q
theorem ParOf.uniq {t:List Xm4} {i q q':Int} (h:ParOf t i q) (h':ParOf t i q'):q=q':=by
 obtain ⟨S,h1,j,rfl,h2,h3⟩:=h
 obtain ⟨S',h1',j',h4,h2',h3'⟩:=h'
 obtain rfl:j=j':=by omega
 rw [h1] at h1'
 injection h1' with e
 subst e
 exact h3.uniq h3'
def inB (t:List Xm4) (i:Int):Bool:=(sf t 0).isSome && (decide (0≤i) && decide (i < (t.length:Int)))
theorem inB_true {t:List Xm4} {i:Int}:inB t i=true↔(∃ S,sf t 0=some S)∧0≤i∧i < (t.length:Int):=by
 unfold inB
 rw [Bool.and_eq_true,Bool.and_eq_true,decide_eq_true_eq,decide_eq_true_eq,Option.isSome_iff_exists]
def sub (t:List Xm4) (i:Nat):Tre × Nat:=((sf (t.drop i) i).getD []).headD (Yeh,0)
theorem Ygu {t:List Xm4} {i:Nat} {y:Tre × Nat} {r:List (Tre × Nat)} (h:At t i (y :: r)):sub t i=y:=by unfold sub; rw [h.2]; rfl
theorem At.sub {t:List Xm4} {S:List (Tre × Nat)} (h:sf t 0=some S) {i:Nat} (hi:i < t.length):∃ r,At t i (sub t i :: r):=by
 obtain ⟨S',h'⟩:=At.from (t:=t) ⟨Nat.zero_le _,h⟩ i (by omega)
 match S',h' with
 | [],h'=>have:=h'.none; omega
 | y :: r,h'=>exact ⟨r,by rw [Ygu h']; exact h'⟩
def Xzm (t:List Xm4) (i:Nat):Nat:=(sub t i).2
def kidsF (t:List Xm4) (i:Int):List Int:=if inB t i=true then (sub t i.toNat).1.kids.map (·.at_) else []
def Xo3 (t:List Xm4):List Int:=((sf t 0).getD []).map (·.1.at_)
def Xyv (t:List Xm4):Int:=if (sf t 0).isSome=true then ((Xo3 t).length:Int) else -1
theorem has_ok {t:List Xm4} {f:Xn6} (hf:Xzf t f) (i:Int):Xsh f i (inB t i):=by
 unfold Xsh inB
 rw [hf.2.2.2.1,hf.1]
 cases (sf t 0).isSome with
 | false=>rw [if_neg (by simp),Bool.false_and]
 | true =>
  rw [if_pos rfl,Bool.true_and]
  by_cases h:i≥0
  ·rw [if_pos h,decide_eq_true h,Bool.true_and]
  ·rw [if_neg h,decide_eq_false h,Bool.false_and]
theorem Ye0 {t:List Xm4} (hl:Xwg t) {f:Xn6} (hf:Xzf t f) {S0:List (Tre × Nat)} (h0:sf t 0=some S0) {a m:Nat} {S:List (Tre × Nat)} (h:At t a S) (hm:m≤S.length):Xqd f (a:Int) (en a (S.take m):Int) ((S.take m).map (·.1.at_)):=by
 have hSl:S.length≤t.length:=by
  have:=(Ybf _ _ h.2).2
  rw [List.length_drop] at this
  omega
 unfold Xqd
 have key:=Xmi.upto (B:=fun (s:Int × (List Int)) o=>Xo7 (en a (S.take m):Int) f s.1 s.2 o) (r:=(S.take m).map (·.1.at_)) (fun j=>((en a (S.take j):Int),(S.take j).map (·.1.at_))) m (fun j hj=>?_) ?_
 ·simpa [Xse] using key
 ·show Xo7 _ f (en a (S.take j):Int) ((S.take j).map (·.1.at_)) _
  obtain ⟨a1,a2⟩:=h.nth (j:=j) (by omega)
  obtain ⟨p1,p2,p3,p4,p5⟩:=a1.pos
  have hlt:=Yhc h (show j + 1≤m from hj) hm
  rw [Xyl (by omega)] at hlt
  obtain ⟨_,x,e,r,q1,q2⟩:=hf.2.2.2.2 S0 h0 _ p1
  have hu:=a1.uniq q1
  injection hu with e1 e2
  have e3:(S[j]'(by omega)).2=e:=congrArg (·.2) e1
  have hE:=hf.2.2.1
  unfold Xo7
  rw [if_pos (by omega)]
  refine ⟨_,rfl,by simp; omega,by omega,?_⟩
  rw [q2,Xyl (by omega),e3,List.take_succ_eq_append_getElem (by omega),List.map_append]
  simp only [List.map_cons,List.map_nil]
  rw [p2]
 ·show Xo7 _ f (en a (S.take m):Int) ((S.take m).map (·.1.at_)) _
  unfold Xo7
  rw [if_neg (by omega)]
theorem Ya9 {t:List Xm4} (hl:Xwg t) (hw:Wf t):Xsw t (Xo3 t):=by
 obtain ⟨f,f1,f2⟩:=Ya8 (t:=t) (by omega) hw
 unfold Xsw Xo3
 refine ⟨f,f1,?_⟩
 rw [f2.2.2.2.1]
 cases h:sf t 0 with
 | none=>rw [if_neg (by simp)]; rfl
 | some S =>
  rw [if_pos (by rfl)]
  have hA:At t 0 S:=⟨Nat.zero_le _,h⟩
  have:=Ye0 hl f2 h hA (Nat.le_refl _)
  rw [List.take_length,hA.ens] at this
  exact ⟨_,this,rfl⟩
theorem Yg1 {t:List Xm4} (hl:Xwg t) (hw:Wf t):Xuc t (Xyv t):=by
 obtain ⟨f,f1,f2⟩:=Ya8 (t:=t) (by omega) hw
 unfold Xuc Xyv
 refine ⟨f,f1,?_⟩
 rw [f2.2.2.2.1]
 by_cases h:(sf t 0).isSome=true
 ·rw [if_pos h,if_pos h]
  exact ⟨_,Ya9 hl hw,rfl⟩
 ·rw [if_neg h,if_neg h]
theorem Kids_ok {t:List Xm4} (hl:Xwg t) (hw:Wf t) (i:Int):Xwt t i (kidsF t i):=by
 obtain ⟨f,f1,f2⟩:=Ya8 (t:=t) (by omega) hw
 unfold Xwt kidsF
 refine ⟨f,f1,_,has_ok f2 i,?_⟩
 cases h:inB t i with
 | false=>rw [if_neg (by simp),if_neg (by simp)]
 | true =>
  obtain ⟨⟨S,hS⟩,h1,h2⟩:=inB_true.1 h
  obtain ⟨j,rfl⟩:∃ j:Nat,i=j:=⟨i.toNat,by omega⟩
  rw [if_pos rfl,if_pos rfl,Int.toNat_natCast]
  have hj:j < t.length:=by omega
  obtain ⟨_,x,e,r,q1,q2⟩:=f2.2.2.2.2 S hS j hj
  obtain ⟨ts,k1,k2,k3,k4,k5⟩:=q1.kids hj
  refine ⟨by rw [f2.2.2.1]; omega,?_⟩
  rw [Ygu q1,q2,Xsy (by omega)]
  have:=Ye0 hl f2 hS k1 (m:=ts.length) (by rw [List.length_append]; omega)
  rw [List.take_append_of_le_length (Nat.le_refl _),List.take_length,k3] at this
  exact ⟨_,this,by rw [k2,List.map_map]; rfl⟩
end Go.Proofs.Ytmekgfcfooghnaa.L
