/- Trees as texts: Text of the program and of the document. Conditions: sizes. -/
import Derived.Test.YtmekgfcfooghnaaJ1
set_option linter.unusedVariables false
namespace Go.Proofs.Ytmekgfcfooghnaa.L
open Go.Proofs.Ytmekgfcfooghnaa.B Go.Proofs.Ytmekgfcfooghnaa.R
def Xza (n:Xm4):List Int:=if n.field=(⟨#[]⟩:ByteArray) then [] else Xnr n.field++[58,32]
def hdL (n:Xm4):List Int:=if n.named=true then Xnr n.name else qL n.name
def brF (n:Xm4):Bool:=n.named || decide (n.kids > 0)
def spL (a:Nat):List Int:=if a=0 then [] else [32]
def txG (t:List Xm4):Nat→Nat→Nat→List Int
 | 0,_,_=>[]
 | f + 1,a,e=>if a < e then spL a++(Xza (ix t (a:Int))++((if brF (ix t (a:Int))=true then [40]++(hdL (ix t (a:Int))++(txG t f (a + 1) (Xzm t a)++[41])) else hdL (ix t (a:Int)))++txG t f (Xzm t a) e)) else []
theorem Yhh {t:List Xm4} {i:Nat} {x:Tre} {e:Nat} {r:List (Tre × Nat)} (h:At t i ((x,e) :: r)):Xzm t i=e:=by unfold Xzm; rw [Ygu h]
theorem seg_hd {t:List Xm4} {a m:Nat} {S:List (Tre × Nat)} (h:At t a S) (hm:m≤S.length) (hlt:a < en a (S.take m)):∃ x e r ts m',S=(x,e) :: r∧m=m' + 1∧m'≤r.length∧a < t.length∧a < e∧e≤t.length∧Xzm t a=e ∧
  At t e r∧en e (r.take m')=en a (S.take m)∧At t (a + 1) (ts++r)∧en (a + 1) ((ts++r).take ts.length)=e∧x.kids=ts.map (·.1)∧x.node=ix t (a:Int)∧(ix t (a:Int)).kids=(ts.length:Int)∧x.at_=(a:Int):=by
 match m,S,hm with
 | 0,S,_=>simp [Xse] at hlt
 | m' + 1,[],hm=>simp at hm
 | m' + 1,(x,e) :: r,hm =>
  obtain ⟨h1,h2,h3,h4,h5⟩:=h.pos
  obtain ⟨ts,k1,k2,k3,k4,k5⟩:=h.kids h1
  refine ⟨x,e,r,ts,m',rfl,rfl,by simpa using hm,h1,h3,h4,Yhh h,h5,?_,k1,?_,k2,by rw [k5,Xnu h1],by rw [Xnu h1,k4],h2⟩
  ·rw [List.take_succ_cons,Xt1]
  ·rw [List.take_append_of_le_length (Nat.le_refl _),List.take_length,k3]
theorem Xxe {t:List Xm4} {a m:Nat} {S:List (Tre × Nat)} (h:At t a S) (hm:m≤S.length):a≤en a (S.take m)∧en a (S.take m)≤t.length∧(m=0∨a < en a (S.take m)):=by
 have:=At.skip (t.length - a) a rfl h m hm
 refine ⟨this.2.1,this.1.1,?_⟩
 rcases Nat.eq_zero_or_pos m with g | g
 ·exact .inl g
 ·exact .inr (this.2.2 g)
def clo (t:List Xm4) (e:Nat):List Int→List Int × Nat
 | []=>([],0)
 | k :: l=>if Xzm t k.toNat=e then ((clo t e l).1,(clo t e l).2 + 1) else (k :: l,0)
theorem Ygm {t:List Xm4} {e:Nat} {l:List Int} (h:∀ k ∈ l,e < Xzm t k.toNat):clo t e l=(l,0):=by
 cases l with
 | nil=>rfl
 | cons k l=>unfold clo; rw [if_neg (by have:=h k (by simp); omega)]
section
variable {t:List Xm4} {f:Xn6}
theorem Ydu {i:Nat} (hi:i < 2 ^ 60) (hE:∀ k:Nat,k < t.length→k < f.end_.length∧ix f.end_ (k:Int)=(Xzm t k:Int)):∀ (l:List Int) {b:Bool} {out:List Int},(∀ k ∈ l,0≤k∧k < (t.length:Int))→l.length < 2 ^ 60→out.length + (clo t (i + 1) l).2≤211106232532992→(b=true) →
  Xmi (fun (s:(List Int) × Bool × (List Int)) o=>Xr3 f (i:Int) s.1 s.2.1 s.2.2 o) (l.reverse,b,out) (Sum.inl ((clo t (i + 1) l).1.reverse,((i + 1:Nat):Int),true,out++List.replicate (clo t (i + 1) l).2 41):Sum ((List Int) × Int × Bool × (List Int)) ByteArray)
 | [],b,out,_,_,_,hb=>by
  subst hb
  refine Xmi.done ?_
  show Xr3 f (i:Int) [] true out _
  unfold Xr3 clo
  rw [if_neg (by simp),Xp3 (by omega)]
  simp
 | k :: l,b,out,hk,hl,ho,hb=>by
  subst hb
  obtain ⟨k1,k2⟩:=hk k (by simp)
  have he:=hE k.toNat (by omega)
  rw [Int.toNat_of_nonneg k1] at he
  rw [List.length_cons] at hl
  have hrl:(k :: l).reverse.length=l.length + 1:=by simp
  have e0:w64 (((l.length + 1:Nat):Int) - 1)=(l.length:Int):=by rw [Xsy (by omega)]; omega
  have hlast:ix (k :: l).reverse (l.length:Int)=k:=by
   rw [Xnu (by rw [hrl]; omega)]
   simp
  have step:∀ o,(if ix f.end_ k=w64 ((i:Int) + 1) then ∃ r702:Xmf,(Xne (⟨true,out⟩:Xmf) 41 r702)∧(0≤(0:Int)∧(0:Int)≤(l.length:Int)∧(l.length:Int)≤((l.length + 1:Nat):Int))∧∃ x714:List Int,(x714=(k :: l).reverse.take (l.length:Int).toNat)∧o=.inl (x714,r702.addr,r702.buf) else o=.inr (.inl ((k :: l).reverse,w64 ((i:Int) + 1),true,out)))→Xr3 f (i:Int) (k :: l).reverse true out o:=fun o h=>by
   unfold Xr3
   rw [hrl,if_pos (by omega),e0,hlast]
   exact ⟨by omega,by omega,h⟩
  by_cases g:Xzm t k.toNat=i + 1
  ·have hc:clo t (i + 1) (k :: l)=((clo t (i + 1) l).1,(clo t (i + 1) l).2 + 1):=by rw [clo,if_pos g]
   rw [hc] at ho ⊢
   dsimp only at ho ⊢
   refine Xmi.next (s':=(l.reverse,true,out++[41])) (step _ ?_) ?_
   ·rw [if_pos (by rw [he.2, g, Xp3 (by omega)]; rfl)]
    exact ⟨_,Xt5 (by omega),by omega,_,rfl,by rw [Int.toNat_natCast,List.reverse_cons,List.take_append_of_le_length (by simp),List.take_of_length_le (by simp)]⟩
   ·have := Ydu hi hE l (b := true) (out := out ++ [41]) (fun k h => hk k (by simp [h])) (by omega) (by simp; omega) rfl
    rw [List.append_assoc] at this
    rw [List.replicate_succ]
    exact this
  ·have hc:clo t (i + 1) (k :: l)=(k :: l,0):=by rw [clo,if_neg g]
   rw [hc]
   refine Xmi.done (step _ ?_)
   rw [if_neg (by rw [he.2,Xp3 (by omega)]; omega),Xp3 (by omega)]
   simp
theorem node_run {i:Nat} (hi:i < t.length) (hl:Xwg t) (hE:∀ k:Nat,k < t.length→k < f.end_.length∧ix f.end_ (k:Int)=(Xzm t k:Int)) {l:List Int} {b:Bool} {out:List Int} (hk:∀ k ∈ l,0≤k∧k < (t.length:Int)) (hll:l.length≤i) (hn:(ix t (i:Int)).name.size≤2 ^ 44∧(ix t (i:Int)).field.size≤2 ^ 44)
  (hc:(clo t (i + 1) (if brF (ix t (i:Int))=true then (i:Int) :: l else l)).2≤i + 1)
  (ho:out.length + (i + 1) + (spL i++(Xza (ix t (i:Int))++((if brF (ix t (i:Int))=true then [40] else [])++hdL (ix t (i:Int))))).length≤2 ^ 47) :
  Xpc t f l.reverse (i:Int) b out (.inl ((clo t (i + 1) (if brF (ix t (i:Int))=true then (i:Int) :: l else l)).1.reverse,((i + 1:Nat):Int),true,
   out++(spL i++(Xza (ix t (i:Int))++((if brF (ix t (i:Int))=true then [40] else [])++hdL (ix t (i:Int)))))++List.replicate (clo t (i + 1) (if brF (ix t (i:Int))=true then (i:Int) :: l else l)).2 41)):=by
 simp only [List.length_append] at ho
 have hq:=qL_len (ix t (i:Int)).name
 have j6:∀ (l':List Int) (b':Bool) (o1:List Int) (h:ByteArray),Xnr h=hdL (ix t (i:Int))→(∀ k ∈ l',0≤k∧k < (t.length:Int))→l'.length≤i + 1→(clo t (i + 1) l').2≤i + 1→o1.length + (hdL (ix t (i:Int))).length + (i + 1)≤2 ^ 47 →
   Xt9 h f (i:Int) l'.reverse b' o1 (.inl ((clo t (i + 1) l').1.reverse,((i + 1:Nat):Int),true,o1++hdL (ix t (i:Int))++List.replicate (clo t (i + 1) l').2 41)):=fun l' b' o1 h hh k1 k2 k3 k4=>by
  unfold Xt9
  have hz:=Xyk hh
  refine ⟨_,Xvt (by omega),?_⟩
  dsimp only
  rw [hh]
  exact Ydu (by omega) hE l' k1 (by omega) (by rw [List.length_append]; omega) rfl
 have j5:∀ (b':Bool) (o1:List Int) (h:ByteArray),Xnr h=hdL (ix t (i:Int))→o1.length + (if brF (ix t (i:Int))=true then [40] else ([]:List Int)).length + (hdL (ix t (i:Int))).length + (i + 1)≤2 ^ 47 →
   Xte b' o1 l.reverse (i:Int) h f (brF (ix t (i:Int))) (.inl ((clo t (i + 1) (if brF (ix t (i:Int))=true then (i:Int) :: l else l)).1.reverse,((i + 1:Nat):Int),true,o1++((if brF (ix t (i:Int))=true then [40] else [])++hdL (ix t (i:Int)))++List.replicate (clo t (i + 1) (if brF (ix t (i:Int))=true then (i:Int) :: l else l)).2 41)):=fun b' o1 h hh h4=>by
  unfold Xte
  cases hb:brF (ix t (i:Int)) with
  | true =>
   rw [hb] at hc h4
   rw [if_pos rfl] at hc ⊢
   simp only [if_true] at hc h4 ⊢
   rw [List.length_singleton] at h4
   have:=j6 ((i:Int) :: l) true (o1++[40]) h hh (fun k hk'=>by
    rcases List.mem_cons.1 hk' with rfl | hk'
    ·omega
    ·exact hk k hk') (by simp; omega) hc (by simp; omega)
   refine ⟨_,Xt5 (by omega),_,rfl,by simp; omega,?_⟩
   rw [List.reverse_cons] at this
   rw [← List.append_assoc o1]
   exact this
  | false =>
   rw [hb] at hc h4
   rw [if_neg (by simp)] at hc ⊢
   simp only [Bool.false_eq_true,if_false] at hc h4 ⊢
   rw [List.length_nil] at h4
   rw [List.nil_append]
   exact j6 l b' o1 h hh hk (by omega) hc (by omega)
 have j4:∀ (b':Bool) (o1:List Int) (h:ByteArray),Xnr h=hdL (ix t (i:Int))→o1.length + (if brF (ix t (i:Int))=true then [40] else ([]:List Int)).length + (hdL (ix t (i:Int))).length + (i + 1)≤2 ^ 47 →
   Xt2 t (i:Int) b' o1 l.reverse f h (.inl ((clo t (i + 1) (if brF (ix t (i:Int))=true then (i:Int) :: l else l)).1.reverse,((i + 1:Nat):Int),true,o1++((if brF (ix t (i:Int))=true then [40] else [])++hdL (ix t (i:Int)))++List.replicate (clo t (i + 1) (if brF (ix t (i:Int))=true then (i:Int) :: l else l)).2 41)):=fun b' o1 h hh h4=>by
  unfold Xt2
  have:=j5 b' o1 h hh h4
  by_cases g:(ix t (i:Int)).named=true
  ·rw [if_pos g]
   have e:brF (ix t (i:Int))=true:=by unfold brF; rw [g]; rfl
   rw [e] at this ⊢
   exact this
  ·rw [if_neg g]
   have e:brF (ix t (i:Int))=decide ((ix t (i:Int)).kids > 0):=by unfold brF; rw [Bool.eq_false_iff.2 g]; rfl
   rw [e] at this ⊢
   exact this
 have j3:∀ (b':Bool) (o1:List Int),o1.length + (if brF (ix t (i:Int))=true then [40] else ([]:List Int)).length + (hdL (ix t (i:Int))).length + (i + 1)≤2 ^ 47 →
   Xta t (i:Int) l.reverse f b' o1 (.inl ((clo t (i + 1) (if brF (ix t (i:Int))=true then (i:Int) :: l else l)).1.reverse,((i + 1:Nat):Int),true,o1++((if brF (ix t (i:Int))=true then [40] else [])++hdL (ix t (i:Int)))++List.replicate (clo t (i + 1) (if brF (ix t (i:Int))=true then (i:Int) :: l else l)).2 41)):=fun b' o1 h4=>by
  unfold Xta
  by_cases g:(ix t (i:Int)).named=true
  ·rw [if_pos g]
   exact j4 b' o1 _ (by unfold hdL; rw [if_pos g]) h4
  ·rw [if_neg g]
   exact ⟨_,Yhp hn.1,j4 b' o1 _ (by unfold hdL; rw [if_neg g,Yho (qL_bts _)]) h4⟩
 have j2:∀ (b':Bool) (o1:List Int),o1.length + (Xza (ix t (i:Int))).length + (if brF (ix t (i:Int))=true then [40] else ([]:List Int)).length + (hdL (ix t (i:Int))).length + (i + 1)≤2 ^ 47 →
   Xt7 t (i:Int) l.reverse f b' o1 (.inl ((clo t (i + 1) (if brF (ix t (i:Int))=true then (i:Int) :: l else l)).1.reverse,((i + 1:Nat):Int),true,o1++(Xza (ix t (i:Int))++((if brF (ix t (i:Int))=true then [40] else [])++hdL (ix t (i:Int))))++List.replicate (clo t (i + 1) (if brF (ix t (i:Int))=true then (i:Int) :: l else l)).2 41)):=fun b' o1 h4=>by
  unfold Xt7
  by_cases g:(ix t (i:Int)).field=(⟨#[]⟩:ByteArray)
  ·rw [if_pos g]
   have e:Xza (ix t (i:Int))=[]:=by unfold Xza; rw [if_pos g]
   rw [e] at h4 ⊢
   exact j3 b' o1 (by simpa using h4)
  ·rw [if_neg g]
   have zz:(⟨#[58,32]⟩:ByteArray).size=2:=rfl
   have e:Xnr ((ix t (i:Int)).field++(⟨#[58,32]⟩:ByteArray))=Xza (ix t (i:Int)):=by unfold Xza; rw [if_neg g,Yd6]; rfl
   have hz:=Xyk e
   rw [zz]
   refine ⟨by omega,_,Xvt (by omega),?_⟩
   dsimp only
   rw [e,← List.append_assoc o1]
   exact j3 true _ (by rw [List.length_append]; exact h4)
 unfold Xpc
 rw [if_pos (by omega)]
 refine ⟨by omega,?_⟩
 by_cases g:i=0
 ·have e:spL i=[]:=by unfold spL; rw [if_pos g]
  rw [e] at ho ⊢
  rw [if_neg (by omega)]
  exact j2 b out (by simp at ho ⊢; omega)
 ·have e:spL i=[32]:=by unfold spL; rw [if_neg g]
  rw [e] at ho ⊢
  rw [List.length_singleton] at ho
  rw [if_pos (by omega)]
  refine ⟨_,Xt5 (by omega),?_⟩
  dsimp only
  rw [← List.append_assoc out]
  exact j2 true _ (by rw [List.length_append,List.length_singleton]; omega)
end
end Go.Proofs.Ytmekgfcfooghnaa.L
