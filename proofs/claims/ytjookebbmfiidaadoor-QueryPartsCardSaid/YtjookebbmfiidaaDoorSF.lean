/- Queries: which are well shaped: the program and the document. Condition: sizes. -/
import Derived.Test.YtjookebbmfiidaaDoorS7
import Derived.Test.YtjookebbmfiidaaDoorSX
set_option linter.unusedVariables false
namespace Go.Proofs.YtjookebbmfiidaaDoor.L
open Go.Proofs.YtjookebbmfiidaaDoor.B Go.Proofs.YtjookebbmfiidaaDoor.R
def nmQ (x:ByteArray):Bool:=!decide (x=Tq) && Qi ⟨1,x,0,0⟩
theorem nmQ_nm:Nm nmQ:=fun s h=>by
 unfold nmQ at h
 rw [Bool.and_eq_true] at h
 refine ⟨by simpa using h.1,fun e=>?_⟩
 rw [e] at h
 exact absurd h.2 (by decide)
theorem Xnw {x:ByteArray} (hs:x.size≤2 ^ 50):Qc ⟨1,x,0,0⟩ (Qe ⟨1,x,0,0⟩):=by
 unfold Qc Qe
 refine ⟨_,Xe1 (w:=⟨1,x,0,0⟩) hs,?_⟩
 by_cases h:Qi ⟨1,x,0,0⟩=true
 ·rw [if_pos h,if_pos h]
  rfl
 ·rw [if_neg h,if_neg h]
theorem Xhj {x:ByteArray} (hs:x.size≤2 ^ 50):Qg x (nmQ x):=by
 unfold Qg nmQ
 by_cases h:x=Tq
 ·rw [if_pos h,decide_eq_true h]
  rfl
 ·rw [if_neg h,decide_eq_false h]
  refine ⟨_,Xnw hs,?_⟩
  rw [Vd]
  cases e:Qi ⟨1,x,0,0⟩ with
  | true =>
   rw [decide_eq_false (Xnr e)]
   rfl
  | false =>
   rw [decide_eq_true (sound_no e)]
   rfl
def SzN (x:Ag):Prop:=x.name.size≤1048576∧x.field.size≤1048576∧x.capture.size≤1048576
def SzW (x:Ag):Prop:=x.name.size≤2 ^ 50∧x.field.size≤2 ^ 50∧x.capture.size≤2 ^ 50
theorem Xi2 {x:Ag} (hs:SzW x):Xj x (sndN nmQ x):=by
 obtain ⟨h1,h2,h3⟩:=hs
 have hj:∀ b,Jr x b (!b && (decide (x.field=noB) || nmQ x.field) && (decide (x.capture=noB) || nmQ x.capture)):=fun b=>by
  unfold Jr
  cases b with
  | true =>
   rw [if_pos rfl]
   rfl
  | false =>
   rw [if_neg (by simp),Bool.not_false,Bool.true_and]
   have hc:(if x.capture=noB then (decide (x.capture=noB) || nmQ x.capture)=true else ∃ r42:Bool,Qg x.capture r42∧(decide (x.capture=noB) || nmQ x.capture)=r42):=by
    by_cases g:x.capture=noB
    ·rw [if_pos g,decide_eq_true g]
     rfl
    ·rw [if_neg g,decide_eq_false g,Bool.false_or]
     exact ⟨_,Xhj h3,rfl⟩
   by_cases g:x.field=noB
   ·rw [if_pos g,decide_eq_true g,Bool.true_or,Bool.true_and]
    exact hc
   ·rw [if_neg g,decide_eq_false g,Bool.false_or]
    refine ⟨_,Xhj h2,?_⟩
    cases e:nmQ x.field with
    | false =>
     rw [if_neg (by simp),Bool.false_and]
    | true =>
     rw [if_pos rfl,Bool.true_and]
     exact hc
 unfold Xj sndN
 by_cases hl:x.lit=true
 ·rw [if_pos hl,if_pos hl]
  by_cases hn:x.name=noB
  ·rw [if_pos hn,decide_eq_true hn,Bool.not_true,Bool.false_and]
   exact hj true
  ·rw [if_neg hn,decide_eq_false hn,Bool.not_false,Bool.true_and]
   by_cases hk:x.kids=0
   ·rw [if_pos hk,decide_eq_true hk]
    exact hj false
   ·rw [if_neg hk,decide_eq_false hk]
    exact hj true
 ·rw [if_neg hl,if_neg hl]
  by_cases hn:x.name=noB
  ·rw [if_pos hn,decide_eq_true hn,Bool.true_or]
   exact hj false
  ·rw [if_neg hn,decide_eq_false hn,Bool.false_or]
   refine ⟨_,Xhj h1,?_⟩
   have:=hj (!nmQ x.name)
   rw [Bool.not_not] at this
   exact this
theorem Xl6 (c:Nat):Xw [] (c + 1)=none:=rfl
theorem Xbr : ∀ (l : List Ag) (a b : Nat), Xw l (a + b) = (Xw l a).bind (fun r => Xw r b)
 | l,0,b=>by rw [Nat.zero_add,Xa1]; rfl
 | [],a + 1,b=>by rw [show a + 1 + b=(a + b) + 1 by omega,Xl6,Xl6]; rfl
 | x :: xs,a + 1,b=>by
  rw [show a + 1 + b=(a + b) + 1 by omega,X6,X6]
  by_cases h:x.kids < 0
  ·rw [if_pos h,if_pos h]; rfl
  ·rw [if_neg h,if_neg h,show a + b + x.kids.toNat=(a + x.kids.toNat) + b by omega,Xbr xs]
theorem Xb2:∀ (l:List Ag) (c:Nat) (r:List Ag),Xw l c=some r→r.length + c≤l.length∧r=l.drop (l.length - r.length)
 | l,0,r,h=>by
  rw [Xa1] at h
  injection h with h
  subst h
  simp
 | [],c + 1,r,h=>by cases h
 | x :: xs,c + 1,r,h=>by
  rw [X6] at h
  by_cases g:x.kids < 0
  ·rw [if_pos g] at h; cases h
  ·rw [if_neg g] at h
   obtain ⟨h1,h2⟩:=Xb2 xs _ r h
   refine ⟨by rw [List.length_cons]; omega,?_⟩
   rw [List.length_cons,show xs.length + 1 - r.length=(xs.length - r.length) + 1 by omega,List.drop_succ_cons]
   exact h2
def Xax (v:List Ag) (at_:Nat):Int:=match Xw (v.drop at_) 1 with
 | none=>-1
 | some r=>((v.length - r.length:Nat):Int)
theorem Xiy {v:List Ag} {a:Nat} {r:List Ag} (h:Xw (v.drop a) 1=some r):Xax v a=((v.length - r.length:Nat):Int):=by
 unfold Xax
 rw [h]
theorem Yb {v:List Ag} {a:Nat} (h:Xw (v.drop a) 1=none):Xax v a = -1:=by
 unfold Xax
 rw [h]
theorem drop_ix {v:List Ag} {a:Nat} (h:a < v.length):v.drop a=ix v (a:Int) :: v.drop (a + 1):=by
 have:=Xaf (xs:=v) (i:=(a:Int)) ⟨by omega,by omega⟩
 rw [Int.toNat_natCast,List.getElem?_eq_getElem h] at this
 rw [List.drop_eq_getElem_cons h,Option.some.inj this]
theorem Xle {v:List Ag} (hv:v.length≤2 ^ 40):∀ (n a:Nat),v.length - a < n→Oj n v (a:Int) (Xax v a)
 | 0,a,h=>absurd h (Nat.not_lt_zero _)
 | n + 1,a,h=>by
  show O9 (Oj n) v (a:Int) _
  unfold O9
  by_cases g:a < v.length
  ·rw [if_neg (by omega)]
   refine ⟨⟨by omega,by omega⟩,?_⟩
   have hd:=drop_ix g
   unfold O3
   by_cases k:(ix v (a:Int)).kids < 0
   ·rw [decide_eq_true k,if_pos rfl]
    exact Yb (by rw [hd,X6,if_pos k])
   ·rw [decide_eq_false k, if_neg (by simp)]
    refine ⟨⟨by omega,by omega⟩,?_⟩
    have h1:Xw (v.drop a) 1=Xw (v.drop (a + 1)) (ix v (a:Int)).kids.toNat:=by rw [hd,X6,if_neg k,Nat.zero_add]
    have key:∀ (m:Nat) (r:List Ag) (j:Nat),r.length≤m→j≤(ix v (a:Int)).kids.toNat→Xw (v.drop (a + 1)) j=some r→Bl (fun (s:Int × Int) o=>Ir v (a:Int) (Oj n) s.1 s.2 o) (((v.length - r.length:Nat):Int),(j:Int)) (Xax v a):=by
     intro m
     induction m with
     | zero =>
      intro r j hm hj hr
      obtain ⟨l1,l2⟩:=Xb2 _ _ _ hr
      have hr0:r=[]:=List.eq_nil_of_length_eq_zero (by omega)
      have hs:=Xle hv n (v.length - r.length) (by omega)
      refine .done ?_
      dsimp only
      unfold Ir
      by_cases e:(j:Int) < (ix v (a:Int)).kids
      ·rw [if_pos e]
       have hn:Xax v (v.length - r.length) = -1:=Yb (by rw [hr0]; simp; rfl)
       have hn2:Xax v a = -1:=Yb (by rw [h1,show (ix v (a:Int)).kids.toNat=j + (((ix v (a:Int)).kids.toNat - j - 1) + 1) by omega,Xbr,hr,hr0]; rfl)
       refine ⟨_,hs,?_⟩
       rw [hn,hn2,if_pos (by decide)]
      ·rw [if_neg e]
       have ej:j=(ix v (a:Int)).kids.toNat:=by omega
       rw [Xiy (r:=r) (by rw [h1,← ej,hr])]
     | succ m ih =>
      intro r j hm hj hr
      obtain ⟨l1,l2⟩:=Xb2 _ _ _ hr
      rw [List.length_drop] at l1 l2
      have hrd:v.drop (v.length - r.length)=r:=by
       have e2:a + 1 + (v.length - (a + 1) - r.length)=v.length - r.length:=by omega
       rw [← e2,← List.drop_drop]
       exact l2.symm
      by_cases e:(j:Int) < (ix v (a:Int)).kids
      ·have hs := Xle hv n (v.length - r.length) (by omega)
       cases e1:Xw r 1 with
       | none =>
        have hn:Xax v (v.length - r.length) = -1:=Yb (by rw [hrd,e1])
        have hn2:Xax v a = -1:=Yb (by rw [h1,show (ix v (a:Int)).kids.toNat=j + (1 + ((ix v (a:Int)).kids.toNat - j - 1)) by omega,Xbr,hr]; show Xw r _=none; rw [Xbr,e1]; rfl)
        refine .done ?_
        dsimp only
        unfold Ir
        rw [if_pos e]
        refine ⟨_,hs,?_⟩
        rw [hn,hn2,if_pos (by decide)]
       | some r' =>
        obtain ⟨l3,l4⟩:=Xb2 _ _ _ e1
        have hn:Xax v (v.length - r.length)=((v.length - r'.length:Nat):Int):=Xiy (by rw [hrd,e1])
        refine .next (s':=(((v.length - r'.length:Nat):Int),((j + 1:Nat):Int))) ?_ (ih r' (j + 1) (by omega) (by omega) (by rw [Xbr,hr]; exact e1))
        dsimp only
        unfold Ir
        rw [if_pos e]
        refine ⟨_,hs,?_⟩
        rw [hn,if_neg (by omega),Dn (by omega)]
        rfl
      ·refine .done ?_
       dsimp only
       unfold Ir
       rw [if_neg e]
       have ej:j=(ix v (a:Int)).kids.toNat:=by omega
       rw [Xiy (r:=r) (by rw [h1,← ej,hr])]
    have:=key _ (v.drop (a + 1)) 0 (Nat.le_refl _) (Nat.zero_le _) (Xa1 _)
    have e3:v.length - (v.drop (a + 1)).length=a + 1:=by rw [List.length_drop]; omega
    rw [e3] at this
    rw [Dn (by omega)]
    exact this
  ·rw [if_pos (by omega)]
   unfold O3
   rw [if_pos rfl]
   exact Yb (by rw [List.drop_eq_nil_of_le (by omega)]; rfl)
theorem Xm7 {v:List Ag} (hv:v.length≤2 ^ 40) (a:Nat):Zv v (a:Int) (Xax v a):=⟨_,Xle hv _ a (Nat.lt_succ_self _)⟩
def Xdu (v:List Ag) (i:Nat):Bool:=sndN nmQ (ix v (i:Int)) && (decide ((ix v (i:Int)).capture=noB) || decide (Xq (ix v (i:Int)).capture v=(i:Int)))
def Z5 (v:List Ag) (c:Bh):Bool:=decide (0≤Xq c.a v) && (decide (c.b=noB) || (decide (0≤Xq c.b v) && decide (c.text=noB)))
def Vf (q:Ar):Bool:=decide (q.nodes.length≤32) && (decide (q.conds.length≤16) && (decide (Xax q.nodes 0=(q.nodes.length:Int)) && ((List.range q.nodes.length).all (Xdu q.nodes) && q.conds.all (Z5 q.nodes))))
def SzQ (q:Ar):Prop:=(∀ x ∈ q.nodes,SzN x)∧∀ c ∈ q.conds,c.a.size≤1048576∧c.b.size≤1048576∧c.text.size≤1048576
def SzR (q:Ar):Prop:=∀ x ∈ q.nodes,SzW x
theorem SzQ.w {q:Ar} (h:SzQ q):SzR q:=fun x hx=>by
 obtain ⟨h1,h2,h3⟩:=h.1 x hx
 exact ⟨by omega,by omega,by omega⟩
theorem Xf0 {α:Type} [Inhabited α] {v:List α} {i:Nat} (h:i < v.length):ix v (i:Int) ∈ v:=by
 have:=Xaf (xs:=v) (i:=(i:Int)) ⟨by omega,by omega⟩
 exact List.mem_of_getElem? this
theorem Wi {α:Type} [Inhabited α] {v:List α} {i:Nat} (h:i < v.length):ix v (i:Int)=v[i]:=by
 have:=Xaf (xs:=v) (i:=(i:Int)) ⟨by omega,by omega⟩
 rw [Int.toNat_natCast,List.getElem?_eq_getElem h] at this
 exact (Option.some.inj this).symm
theorem Xap {q:Ar} (hz:SzR q):Qn q (Vf q):=by
 unfold Qn Vf
 have hj:∀ b,q.nodes.length≤32→q.conds.length≤16→Jg q b (!b && ((List.range q.nodes.length).all (Xdu q.nodes) && q.conds.all (Z5 q.nodes))):=fun b hn hc=>by
  unfold Jg
  cases b with
  | true =>
   rw [if_pos rfl]
   rfl
  | false =>
   rw [if_neg (by simp),Bool.not_false,Bool.true_and]
   have hcap:∀ c,Hf q c (Xq c q.nodes):=fun c=>Xiq (show q.nodes.length≤2 ^ 40 by omega) q.conds c
   have hlen:(List.range q.nodes.length).length=q.nodes.length:=List.length_range
   have h3:Bl (fun (s:Int) o=>Kw q s o) 0 (if q.conds.all (Z5 q.nodes)=true then (.inr true:Sum Int Bool) else .inr false):=by
    refine Bl.allThen q.conds (Z5 q.nodes) (fun i hi hp=>?_) (fun i hi hp=>?_) (fun h=>?_)
    ·unfold Kw
     rw [if_pos (by omega)]
     refine ⟨⟨by omega,by omega⟩,_,hcap _,?_⟩
     rw [Wi hi]
     unfold Z5 at hp
     simp only [Bool.and_eq_true,Bool.or_eq_true,decide_eq_true_eq] at hp
     rw [if_neg (by omega)]
     by_cases g:q.conds[i].b=noB
     ·rw [if_pos g,Dn (by omega)]
     ·rw [if_neg g]
      obtain ⟨p1,p2⟩:=hp.2.resolve_left g
      refine ⟨_,hcap _,?_⟩
      rw [if_neg (by omega),if_pos p2,Dn (by omega)]
    ·unfold Kw
     rw [if_pos (by omega)]
     refine ⟨⟨by omega,by omega⟩,_,hcap _,?_⟩
     rw [Wi hi]
     unfold Z5 at hp
     by_cases g1:Xq q.conds[i].a q.nodes < 0
     ·rw [if_pos g1]
     ·rw [if_neg g1]
      rw [decide_eq_true (by omega),Bool.true_and] at hp
      by_cases g:q.conds[i].b=noB
      ·rw [decide_eq_true g] at hp; cases hp
      ·rw [if_neg g]
       rw [decide_eq_false g,Bool.false_or] at hp
       refine ⟨_,hcap _,?_⟩
       by_cases g2:Xq q.conds[i].b q.nodes < 0
       ·rw [if_pos g2]
       ·rw [if_neg g2]
        rw [decide_eq_true (by omega),Bool.true_and] at hp
        rw [if_neg (of_decide_eq_false hp)]
    ·unfold Kw
     rw [if_neg (Int.lt_irrefl _)]
   have h2:Bl (fun (s:Int) o=>Ky q s o) 0 (if (List.range q.nodes.length).all (Xdu q.nodes)=true then q.conds.all (Z5 q.nodes) else false):=by
    refine Bl.allThen (List.range q.nodes.length) (Xdu q.nodes) (fun i hi hp=>?_) (fun i hi hp=>?_) (fun h=>?_)
    ·rw [hlen] at hi
     rw [List.getElem_range] at hp
     unfold Xdu at hp
     rw [Bool.and_eq_true] at hp
     unfold Ky
     rw [if_pos (by omega)]
     refine ⟨⟨by omega,by omega⟩,_,Xi2 (hz _ (Xf0 hi)),?_⟩
     rw [hp.1,if_pos rfl]
     have hp2:=hp.2
     by_cases g:(ix q.nodes (i:Int)).capture=noB
     ·rw [if_pos g,Dn (by omega)]
     ·rw [if_neg g]
      rw [decide_eq_false g,Bool.false_or] at hp2
      refine ⟨_,hcap _,?_⟩
      rw [if_pos (of_decide_eq_true hp2),Dn (by omega)]
    ·rw [hlen] at hi
     rw [List.getElem_range] at hp
     unfold Xdu at hp
     unfold Ky
     rw [if_pos (by omega)]
     refine ⟨⟨by omega,by omega⟩,_,Xi2 (hz _ (Xf0 hi)),?_⟩
     cases e:sndN nmQ (ix q.nodes (i:Int)) with
     | false=>rw [if_neg (by simp)]
     | true =>
      rw [e,Bool.true_and] at hp
      rw [if_pos rfl]
      by_cases g:(ix q.nodes (i:Int)).capture=noB
      ·rw [decide_eq_true g] at hp; cases hp
      ·rw [if_neg g]
       rw [decide_eq_false g,Bool.false_or] at hp
       refine ⟨_,hcap _,?_⟩
       rw [if_neg (of_decide_eq_false hp)]
    ·rw [hlen]
     unfold Ky
     rw [if_neg (Int.lt_irrefl _)]
     cases e:q.conds.all (Z5 q.nodes) with
     | true=>rw [e,if_pos rfl] at h3; exact h3
     | false=>rw [e,if_neg (by simp)] at h3; exact h3
   cases e:(List.range q.nodes.length).all (Xdu q.nodes) with
   | true=>rw [e,if_pos rfl] at h2; exact h2
   | false=>rw [e,if_neg (by simp)] at h2; exact h2
 have hj0:Jg q true false:=by
  unfold Jg
  rw [if_pos rfl]
 by_cases g1:q.nodes.length≤32
 ·rw [decide_eq_true g1, Bool.true_and, if_neg (by omega)]
  by_cases g2:q.conds.length≤16
  ·rw [decide_eq_true g2, Bool.true_and, if_neg (by omega)]
   refine ⟨_,Xm7 (show q.nodes.length≤2 ^ 40 by omega) 0,?_⟩
   have e:(Xax q.nodes 0 != (q.nodes.length:Int)) = !decide (Xax q.nodes 0=(q.nodes.length:Int)):=by
    rw [bne,Bool.beq_eq_decide_eq]
   rw [e]
   have:=hj (!decide (Xax q.nodes 0=(q.nodes.length:Int))) g1 g2
   rw [Bool.not_not] at this
   exact this
  ·rw [decide_eq_false g2, Bool.false_and, if_pos (by omega)]
   exact hj0
 ·rw [decide_eq_false g1, Bool.false_and, if_pos (by omega)]
  exact hj0
end Go.Proofs.YtjookebbmfiidaaDoor.L
