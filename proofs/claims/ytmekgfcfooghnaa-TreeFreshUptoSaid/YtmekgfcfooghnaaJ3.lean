/- Trees as texts: Text of the program and of the document answer the same. Conditions: sizes. -/
import Derived.Test.YtmekgfcfooghnaaJ2
set_option linter.unusedVariables false
namespace Go.Proofs.Ytmekgfcfooghnaa.L
open Go.Proofs.Ytmekgfcfooghnaa.B Go.Proofs.Ytmekgfcfooghnaa.R
theorem Yhb {t:List Xm4} {e:Nat}:∀ l:List Int,(clo t e l).2≤l.length
 | []=>Nat.le_refl _
 | k :: l=>by
  unfold clo
  split
  ·have:=Yhb (t:=t) (e:=e) l
   simp only [List.length_cons]; omega
  ·exact Nat.zero_le _
theorem Ya7 {t:List Xm4} (f a:Nat):txG t f a a=[]:=by
 cases f with
 | zero=>rfl
 | succ f=>unfold txG; rw [if_neg (Nat.lt_irrefl _)]
theorem seg_run {t:List Xm4} {fo:Xn6} {r0:ByteArray} (hl:Xwg t) (hE:∀ k:Nat,k < t.length→k < fo.end_.length∧ix fo.end_ (k:Int)=(Xzm t k:Int)) (hn:∀ i,i < t.length→(ix t (i:Int)).name.size≤2 ^ 44∧(ix t (i:Int)).field.size≤2 ^ 44) :
  ∀ (f a:Nat) {S:List (Tre × Nat)} {m:Nat} {l:List Int} {b:Bool} {out:List Int},At t a S→m≤S.length→1≤m→t.length - a < f→l.length≤a→(∀ k ∈ l,0≤k∧k < (a:Int)∧en a (S.take m)≤Xzm t k.toNat) →
  out.length + (txG t f a (en a (S.take m))).length + t.length + 1≤2 ^ 46 →
  Xmi (fun (s:(List Int) × Int × Bool × (List Int)) o=>Xpc t fo s.1 s.2.1 s.2.2.1 s.2.2.2 o) ((clo t (en a (S.take m)) l).1.reverse,((en a (S.take m):Nat):Int),true,out++txG t f a (en a (S.take m))++List.replicate (clo t (en a (S.take m)) l).2 41) r0 →
  Xmi (fun (s:(List Int) × Int × Bool × (List Int)) o=>Xpc t fo s.1 s.2.1 s.2.2.1 s.2.2.2 o) (l.reverse,(a:Int),b,out) r0:=by
 intro f
 induction f with
 | zero=>intro a S m l b out _ _ _ h; omega
 | succ f ih =>
  intro a S m l b out h hm h1 hf hla hk ho hR
  have hlt:=(Xxe h hm).2.2.resolve_left (by omega)
  have hele:=(Xxe h hm).2.1
  obtain ⟨x,e1,r,ts,m',rfl,rfl,g1,g2,g3,g4,g5,g6,g7,g8,g9,g10,g11,g12,g13⟩:=seg_hd h hm hlt
  have hseg2:=Xxe g6 g1
  rw [g7] at hseg2
  have hG:txG t (f + 1) a (en a (((x,e1) :: r).take (m' + 1)))=spL a++(Xza (ix t (a:Int))++((if brF (ix t (a:Int))=true then [40]++(hdL (ix t (a:Int))++(txG t f (a + 1) e1++[41])) else hdL (ix t (a:Int)))++txG t f e1 (en a (((x,e1) :: r).take (m' + 1))))):=by
   rw [txG,if_pos hlt,g5]
  rw [hG] at ho hR
  generalize en a (((x,e1) :: r).take (m' + 1))=e at *
  have hkl:∀ k ∈ l,0≤k∧k < (t.length:Int):=fun k h=>by have:=hk k h; omega
  have hkr:∀ k ∈ l,0≤k∧k < (e1:Int)∧e≤Xzm t k.toNat:=fun k h=>by have:=hk k h; omega
  have hrest:∀ {b:Bool} {o1:List Int},m'≠0→o1.length + (txG t f e1 e).length + t.length + 1≤2 ^ 46 →
    Xmi (fun (s:(List Int) × Int × Bool × (List Int)) o=>Xpc t fo s.1 s.2.1 s.2.2.1 s.2.2.2 o) ((clo t e l).1.reverse,(e:Int),true,o1++txG t f e1 e++List.replicate (clo t e l).2 41) r0 →
    Xmi (fun (s:(List Int) × Int × Bool × (List Int)) o=>Xpc t fo s.1 s.2.1 s.2.2.1 s.2.2.2 o) (l.reverse,(e1:Int),b,o1) r0:=fun {b o1} hm' h2 h3=>by
   have:=ih e1 (S:=r) (m:=m') (l:=l) (b:=b) (out:=o1) g6 g1 (by omega) (by omega) (by omega)
   rw [g7] at this
   exact this hkr h2 h3
  have hcl:=Yhb (t:=t) (e:=a + 1) (if brF (ix t (a:Int))=true then (a:Int) :: l else l)
  have hcl2:(if brF (ix t (a:Int))=true then (a:Int) :: l else l).length≤a + 1:=by
   split
   ·rw [List.length_cons]; omega
   ·omega
  simp only [List.length_append] at ho
  have hnode:=node_run (f:=fo) g2 hl hE (l:=l) (b:=b) (out:=out) hkl hla (hn a g2) (by omega) (by
   simp only [List.length_append]
   cases hbr:brF (ix t (a:Int)) with
   | true=>rw [hbr] at ho; simp only [if_true,List.length_append] at ho ⊢; omega
   | false=>rw [hbr] at ho; simp only [Bool.false_eq_true,if_false,List.length_append,List.length_nil] at ho ⊢; omega)
  refine Xmi.next hnode ?_
  rcases Nat.eq_zero_or_pos ts.length with hts | hts
  ·obtain rfl:=List.eq_nil_of_length_eq_zero hts
   rw [List.length_nil,List.take_zero,Xse] at g9
   subst g9
   rw [Ya7] at hR ho
   have hst:(if brF (ix t (a:Int))=true then (a:Int) :: l else l)=l∧brF (ix t (a:Int))=false∨(if brF (ix t (a:Int))=true then (a:Int) :: l else l)=(a:Int) :: l∧brF (ix t (a:Int))=true:=by
    cases brF (ix t (a:Int)) <;> simp
   have hcs:∀ B:List Int,(clo t (a + 1) (if brF (ix t (a:Int))=true then (a:Int) :: l else l)).1=(clo t (a + 1) l).1∧B++(spL a++(Xza (ix t (a:Int))++((if brF (ix t (a:Int))=true then [40] else [])++hdL (ix t (a:Int)))))++List.replicate (clo t (a + 1) (if brF (ix t (a:Int))=true then (a:Int) :: l else l)).2 41 =
     B++(spL a++(Xza (ix t (a:Int))++(if brF (ix t (a:Int))=true then [40]++(hdL (ix t (a:Int))++([]++[41])) else hdL (ix t (a:Int)))))++List.replicate (clo t (a + 1) l).2 41:=fun B=>by
    rcases hst with ⟨e1',hb⟩ | ⟨e1',hb⟩
    ·rw [e1',hb]; simp
    ·rw [e1',hb]
     have hc:clo t (a + 1) ((a:Int) :: l)=((clo t (a + 1) l).1,(clo t (a + 1) l).2 + 1):=by rw [clo,Int.toNat_natCast,if_pos g5]
     rw [hc]
     refine ⟨rfl,?_⟩
     dsimp only
     rw [List.replicate_succ]
     simp [List.append_assoc]
   rw [(hcs out).1,(hcs out).2]
   rcases Nat.eq_zero_or_pos m' with hm0 | hm0
   ·subst hm0
    rw [List.take_zero,Xse] at g7
    subst g7
    rw [Ya7,List.append_nil] at hR
    exact hR
   ·have hlt2 := hseg2.2.2.resolve_left (by omega)
    rw [Ygm (fun k h=>by have:=hkr k h; omega)]
    rw [List.replicate_zero,List.append_nil]
    refine hrest (by omega) ?_ ?_
    ·simp only [List.length_append]
     cases hbr:brF (ix t (a:Int)) with
     | true=>rw [hbr] at ho; simp only [if_true,List.length_append] at ho ⊢; omega
     | false=>rw [hbr] at ho; simp only [Bool.false_eq_true,if_false,List.length_append] at ho ⊢; omega
    ·simpa [List.append_assoc] using hR
  ·have hbr : brF (ix t (a : Int)) = true := by unfold brF; rw [g12, decide_eq_true (by omega), Bool.or_true]
   have hseg3:=Xxe g8 (m:=ts.length) (by simp)
   rw [g9] at hseg3
   have hlt3:=hseg3.2.2.resolve_left (by omega)
   rw [hbr] at ho hR hnode ⊢
   simp only [if_true] at ho hR ⊢
   have hno:clo t (a + 1) ((a:Int) :: l)=((a:Int) :: l,0):=Ygm (fun k h=>by
    rcases List.mem_cons.1 h with rfl | h
    ·rw [Int.toNat_natCast,g5]; exact hlt3
    ·have:=hkr k h; omega)
   rw [hno]
   rw [List.replicate_zero,List.append_nil]
   simp only [List.length_append] at ho
   have hi:=ih (a + 1) (S:=ts++r) (m:=ts.length) (l:=(a:Int) :: l) (b:=true) (out:=out++(spL a++(Xza (ix t (a:Int))++([40]++hdL (ix t (a:Int)))))) g8 (by simp) hts (by omega) (by simp; omega)
   rw [g9] at hi
   refine hi (fun k h=>?_) (by simp only [List.length_append]; omega) ?_
   ·rcases List.mem_cons.1 h with rfl | h
    ·rw [Int.toNat_natCast,g5]; omega
    ·have:=hk k h; omega
   ·have hc:clo t e1 ((a:Int) :: l)=((clo t e1 l).1,(clo t e1 l).2 + 1):=by rw [clo,Int.toNat_natCast,if_pos g5]
    rw [hc]
    dsimp only
    rcases Nat.eq_zero_or_pos m' with hm0 | hm0
    ·subst hm0
     rw [List.take_zero,Xse] at g7
     subst g7
     rw [Ya7,List.append_nil] at hR
     rw [List.replicate_succ]
     simpa [List.append_assoc] using hR
    ·have hlt2 := hseg2.2.2.resolve_left (by omega)
     rw [Ygm (fun k h=>by have:=hkr k h; omega)]
     refine hrest (by omega) ?_ ?_
     ·simp only [List.length_append,List.length_replicate]
      simp only [List.length_singleton] at ho ⊢
      omega
     ·simpa [List.append_assoc] using hR
def textF (t:List Xm4):ByteArray:=if (sf t 0).isSome=true then Xz3 (txG t (t.length + 1) 0 t.length) else ⟨#[]⟩
structure TxOk (t:List Xm4):Prop where
 nm:∀ i,i < t.length→(ix t (i:Int)).name.size≤2 ^ 44∧(ix t (i:Int)).field.size≤2 ^ 44
 tx:(txG t (t.length + 1) 0 t.length).length + t.length + 1≤2 ^ 46
theorem Text_ok {t:List Xm4} (hl:Xwg t) (hw:Wf t) (ht:(sf t 0).isSome=true→TxOk t):Xww t (textF t):=by
 obtain ⟨f,f1,f2⟩:=Ya8 (t:=t) (by omega) hw
 unfold Xww textF
 refine ⟨f,f1,?_⟩
 rw [f2.2.2.2.1]
 cases h:sf t 0 with
 | none=>rw [if_neg (by simp),if_neg (by simp)]
 | some S =>
  replace ht:=ht (by rw [h]; rfl)
  simp only [Option.isSome_some,if_true]
  have hA:At t 0 S:=⟨Nat.zero_le _,h⟩
  have hens:=hA.ens
  have hE:∀ k:Nat,k < t.length→k < f.end_.length∧ix f.end_ (k:Int)=(Xzm t k:Int):=fun k hk=>by
   obtain ⟨_,x,e,r,q1,q2⟩:=f2.2.2.2.2 S h k hk
   exact ⟨by rw [f2.2.2.1]; exact hk,by rw [q2,Yhh q1]⟩
  have fin:∀ (b:Bool) (out:List Int),Xmi (fun (s:(List Int) × Int × Bool × (List Int)) o=>Xpc t f s.1 s.2.1 s.2.2.1 s.2.2.2 o) (([]:List Int),(t.length:Int),b,out) (Xz3 out):=fun b out=>by
   refine Xmi.done ?_
   show Xpc t f [] (t.length:Int) b out _
   unfold Xpc
   rw [if_neg (by omega)]
   exact ⟨_,rfl,rfl⟩
  rcases Nat.eq_zero_or_pos S.length with h0 | h0
  ·obtain rfl:=List.eq_nil_of_length_eq_zero h0
   rw [Xse] at hens
   have:=fin false []
   rw [← hens] at this ⊢
   rw [Ya7]
   exact this
  ·have := seg_run (r0 := Xz3 (txG t (t.length + 1) 0 t.length)) hl hE ht.nm (t.length + 1) 0 (m := S.length) (l := []) (b := false) (out := []) hA (Nat.le_refl _) h0 (by omega) (Nat.le_refl _) (fun k hk => by cases hk)
   rw [List.take_length,hens] at this
   refine this (by have:=ht.tx; simpa using this) ?_
   have:=fin true (txG t (t.length + 1) 0 t.length)
   simpa [clo] using this
end Go.Proofs.Ytmekgfcfooghnaa.L
