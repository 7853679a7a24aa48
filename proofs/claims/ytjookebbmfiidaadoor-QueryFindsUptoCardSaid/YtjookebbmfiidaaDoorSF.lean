/- Queries: which are well shaped: the program and the document. Condition: sizes. -/
import Derived.Test.YtjookebbmfiidaaDoorSN
import Derived.Test.YtjookebbmfiidaaDoorSX
set_option linter.unusedVariables false
namespace Go.Proofs.YtjookebbmfiidaaDoor.L
open Go.Proofs.YtjookebbmfiidaaDoor.B Go.Proofs.YtjookebbmfiidaaDoor.R
def nmQ (x:ByteArray):Bool:=!decide (x=uscB) && Xz ⟨1,x,0,0⟩
theorem Xm1 {x:ByteArray} (hs:x.size≤2 ^ 50):Xw ⟨1,x,0,0⟩ (Xct ⟨1,x,0,0⟩):=by
 unfold Xw Xct
 refine ⟨_,sound_ok (w:=⟨1,x,0,0⟩) hs,?_⟩
 by_cases h:Xz ⟨1,x,0,0⟩=true
 ·rw [if_pos h,if_pos h]
  rfl
 ·rw [if_neg h,if_neg h]
theorem Xfz {x:ByteArray} (hs:x.size≤2 ^ 50):Rz x (nmQ x):=by
 unfold Rz nmQ
 by_cases h:x=uscB
 ·rw [if_pos h,decide_eq_true h]
  rfl
 ·rw [if_neg h,decide_eq_false h]
  refine ⟨_,Xm1 hs,?_⟩
  rw [Ur]
  cases e:Xz ⟨1,x,0,0⟩ with
  | true =>
   rw [decide_eq_false (Xm0 e)]
   rfl
  | false =>
   rw [decide_eq_true (sound_no e)]
   rfl
theorem Xe1 {x:ByteArray} (hs:x.size≤1048576):J4 x (nmQ x):=by
 unfold J4 nmQ
 by_cases h:x=uscB
 ·rw [if_pos h,decide_eq_true h]
  rfl
 ·rw [if_neg h,decide_eq_false h]
  exact ⟨_,Xj9 (w:=⟨1,x,0,0⟩) hs,rfl⟩
def SzN (x:Aj):Prop:=x.name.size≤1048576∧x.field.size≤1048576∧x.capture.size≤1048576
def SzW (x:Aj):Prop:=x.name.size≤2 ^ 50∧x.field.size≤2 ^ 50∧x.capture.size≤2 ^ 50
theorem Xho {x:Aj} (hs:SzW x):Xv x (sndN nmQ x):=by
 obtain ⟨h1,h2,h3⟩:=hs
 have hj:∀ b,Jz x b (!b && (decide (x.field=noB) || nmQ x.field) && (decide (x.capture=noB) || nmQ x.capture)):=fun b=>by
  unfold Jz
  cases b with
  | true =>
   rw [if_pos rfl]
   rfl
  | false =>
   rw [if_neg (by simp),Bool.not_false,Bool.true_and]
   have hc:(if x.capture=noB then (decide (x.capture=noB) || nmQ x.capture)=true else ∃ r42:Bool,Rz x.capture r42∧(decide (x.capture=noB) || nmQ x.capture)=r42):=by
    by_cases g:x.capture=noB
    ·rw [if_pos g,decide_eq_true g]
     rfl
    ·rw [if_neg g,decide_eq_false g,Bool.false_or]
     exact ⟨_,Xfz h3,rfl⟩
   by_cases g:x.field=noB
   ·rw [if_pos g,decide_eq_true g,Bool.true_or,Bool.true_and]
    exact hc
   ·rw [if_neg g,decide_eq_false g,Bool.false_or]
    refine ⟨_,Xfz h2,?_⟩
    cases e:nmQ x.field with
    | false =>
     rw [if_neg (by simp),Bool.false_and]
    | true =>
     rw [if_pos rfl,Bool.true_and]
     exact hc
 unfold Xv sndN
 by_cases hl:x.lit=true
 ·rw [if_pos hl,if_pos hl]
  by_cases hn:x.name=noB
  ·rw [if_pos hn,decide_eq_true hn,Bool.not_true,Bool.false_and]
   exact hj true
  ·rw [if_neg hn,decide_eq_false hn,Bool.not_false,Bool.true_and]
   by_cases hk:x.kids=0
   ·rw [if_pos hk,decide_eq_true hk]
    exact hj false
   ·rw [if_neg hk,decide_eq_false hk]
    exact hj true
 ·rw [if_neg hl,if_neg hl]
  by_cases hn:x.name=noB
  ·rw [if_pos hn,decide_eq_true hn,Bool.true_or]
   exact hj false
  ·rw [if_neg hn,decide_eq_false hn,Bool.false_or]
   refine ⟨_,Xfz h1,?_⟩
   have:=hj (!nmQ x.name)
   rw [Bool.not_not] at this
   exact this
theorem Xk1 (c:Nat):Vl [] (c + 1)=none:=rfl
theorem Xbd : ∀ (l : List Aj) (a b : Nat), Vl l (a + b) = (Vl l a).bind (fun r => Vl r b)
 | l,0,b=>by rw [Nat.zero_add,Vq]; rfl
 | [],a + 1,b=>by rw [show a + 1 + b=(a + b) + 1 by omega,Xk1,Xk1]; rfl
 | x :: xs,a + 1,b=>by
  rw [show a + 1 + b=(a + b) + 1 by omega,Vt,Vt]
  by_cases h:x.kids < 0
  ·rw [if_pos h,if_pos h]; rfl
  ·rw [if_neg h,if_neg h,show a + b + x.kids.toNat=(a + x.kids.toNat) + b by omega,Xbd xs]
theorem Xa2:∀ (l:List Aj) (c:Nat) (r:List Aj),Vl l c=some r→r.length + c≤l.length∧r=l.drop (l.length - r.length)
 | l,0,r,h=>by
  rw [Vq] at h
  injection h with h
  subst h
  simp
 | [],c + 1,r,h=>by cases h
 | x :: xs,c + 1,r,h=>by
  rw [Vt] at h
  by_cases g:x.kids < 0
  ·rw [if_pos g] at h; cases h
  ·rw [if_neg g] at h
   obtain ⟨h1,h2⟩:=Xa2 xs _ r h
   refine ⟨by rw [List.length_cons]; omega,?_⟩
   rw [List.length_cons,show xs.length + 1 - r.length=(xs.length - r.length) + 1 by omega,List.drop_succ_cons]
   exact h2
def Wy (v:List Aj) (at_:Nat):Int:=match Vl (v.drop at_) 1 with
 | none=>-1
 | some r=>((v.length - r.length:Nat):Int)
theorem Xby {v:List Aj} {a:Nat} {r:List Aj} (h:Vl (v.drop a) 1=some r):Wy v a=((v.length - r.length:Nat):Int):=by
 unfold Wy
 rw [h]
theorem Tq {v:List Aj} {a:Nat} (h:Vl (v.drop a) 1=none):Wy v a = -1:=by
 unfold Wy
 rw [h]
theorem Xky {v:List Aj} {a:Nat} (h:a < v.length):v.drop a=ix v (a:Int) :: v.drop (a + 1):=by
 have:=V6 (xs:=v) (i:=(a:Int)) ⟨by omega,by omega⟩
 rw [Int.toNat_natCast,List.getElem?_eq_getElem h] at this
 rw [List.drop_eq_getElem_cons h,Option.some.inj this]
theorem Xk6 {v:List Aj} (hv:v.length≤2 ^ 40):∀ (n a:Nat),v.length - a < n→Pz n v (a:Int) (Wy v a)
 | 0,a,h=>absurd h (Nat.not_lt_zero _)
 | n + 1,a,h=>by
  show Ou (Pz n) v (a:Int) _
  unfold Ou
  by_cases g:a < v.length
  ·rw [if_neg (by omega)]
   refine ⟨⟨by omega,by omega⟩,?_⟩
   have hd:=Xky g
   unfold Ol
   by_cases k:(ix v (a:Int)).kids < 0
   ·rw [decide_eq_true k,if_pos rfl]
    exact Tq (by rw [hd,Vt,if_pos k])
   ·rw [decide_eq_false k, if_neg (by simp)]
    refine ⟨⟨by omega,by omega⟩,?_⟩
    have h1:Vl (v.drop a) 1=Vl (v.drop (a + 1)) (ix v (a:Int)).kids.toNat:=by rw [hd,Vt,if_neg k,Nat.zero_add]
    have key:∀ (m:Nat) (r:List Aj) (j:Nat),r.length≤m→j≤(ix v (a:Int)).kids.toNat→Vl (v.drop (a + 1)) j=some r→Ar (fun (s:Int × Int) o=>Iq v (a:Int) (Pz n) s.1 s.2 o) (((v.length - r.length:Nat):Int),(j:Int)) (Wy v a):=by
     intro m
     induction m with
     | zero =>
      intro r j hm hj hr
      obtain ⟨l1,l2⟩:=Xa2 _ _ _ hr
      have hr0:r=[]:=List.eq_nil_of_length_eq_zero (by omega)
      have hs:=Xk6 hv n (v.length - r.length) (by omega)
      refine .done ?_
      dsimp only
      unfold Iq
      by_cases e:(j:Int) < (ix v (a:Int)).kids
      ·rw [if_pos e]
       have hn:Wy v (v.length - r.length) = -1:=Tq (by rw [hr0]; simp; rfl)
       have hn2:Wy v a = -1:=Tq (by rw [h1,show (ix v (a:Int)).kids.toNat=j + (((ix v (a:Int)).kids.toNat - j - 1) + 1) by omega,Xbd,hr,hr0]; rfl)
       refine ⟨_,hs,?_⟩
       rw [hn,hn2,if_pos (by decide)]
      ·rw [if_neg e]
       have ej:j=(ix v (a:Int)).kids.toNat:=by omega
       rw [Xby (r:=r) (by rw [h1,← ej,hr])]
     | succ m ih =>
      intro r j hm hj hr
      obtain ⟨l1,l2⟩:=Xa2 _ _ _ hr
      rw [List.length_drop] at l1 l2
      have hrd:v.drop (v.length - r.length)=r:=by
       have e2:a + 1 + (v.length - (a + 1) - r.length)=v.length - r.length:=by omega
       rw [← e2,← List.drop_drop]
       exact l2.symm
      by_cases e:(j:Int) < (ix v (a:Int)).kids
      ·have hs := Xk6 hv n (v.length - r.length) (by omega)
       cases e1:Vl r 1 with
       | none =>
        have hn:Wy v (v.length - r.length) = -1:=Tq (by rw [hrd,e1])
        have hn2:Wy v a = -1:=Tq (by rw [h1,show (ix v (a:Int)).kids.toNat=j + (1 + ((ix v (a:Int)).kids.toNat - j - 1)) by omega,Xbd,hr]; show Vl r _=none; rw [Xbd,e1]; rfl)
        refine .done ?_
        dsimp only
        unfold Iq
        rw [if_pos e]
        refine ⟨_,hs,?_⟩
        rw [hn,hn2,if_pos (by decide)]
       | some r' =>
        obtain ⟨l3,l4⟩:=Xa2 _ _ _ e1
        have hn:Wy v (v.length - r.length)=((v.length - r'.length:Nat):Int):=Xby (by rw [hrd,e1])
        refine .next (s':=(((v.length - r'.length:Nat):Int),((j + 1:Nat):Int))) ?_ (ih r' (j + 1) (by omega) (by omega) (by rw [Xbd,hr]; exact e1))
        dsimp only
        unfold Iq
        rw [if_pos e]
        refine ⟨_,hs,?_⟩
        rw [hn,if_neg (by omega),Dk (by omega)]
        rfl
      ·refine .done ?_
       dsimp only
       unfold Iq
       rw [if_neg e]
       have ej:j=(ix v (a:Int)).kids.toNat:=by omega
       rw [Xby (r:=r) (by rw [h1,← ej,hr])]
    have:=key _ (v.drop (a + 1)) 0 (Nat.le_refl _) (Nat.zero_le _) (Vq _)
    have e3:v.length - (v.drop (a + 1)).length=a + 1:=by rw [List.length_drop]; omega
    rw [e3] at this
    rw [Dk (by omega)]
    exact this
  ·rw [if_pos (by omega)]
   unfold Ol
   rw [if_pos rfl]
   exact Tq (by rw [List.drop_eq_nil_of_le (by omega)]; rfl)
theorem Xke {v:List Aj} (hv:v.length≤2 ^ 40) (a:Nat):Zj v (a:Int) (Wy v a):=⟨_,Xk6 hv _ a (Nat.lt_succ_self _)⟩
theorem Xh2 {v:List Aj} (hv:v.length≤32) {a:Nat} (ha:a≤v.length):Ku v (a:Int) (Wy v a):=by
 have key:∀ (m b c:Nat),v.length - b≤m→b≤v.length→c≤1 + 32 * b→Vl (v.drop a) 1=Vl (v.drop b) c→Ar (fun (s:Int × Int) o=>Ea v s.1 s.2 o) ((b:Int),(c:Int)) (Wy v a):=by
  intro m
  induction m with
  | zero =>
   intro b c hm hb hc he
   have hb':b=v.length:=by omega
   refine .done ?_
   dsimp only
   unfold Ea
   by_cases g:(c:Int) > 0
   ·rw [if_pos g, if_pos (by omega)]
    unfold Eg
    rw [if_pos rfl,Tq (by rw [he,hb',List.drop_length,show c=(c - 1) + 1 by omega]; rfl)]
   ·rw [if_neg g]
    have hc0:c=0:=by omega
    rw [Xby (r:=v.drop b) (by rw [he,hc0,Vq]),List.length_drop,show v.length - (v.length - b)=b by omega]
  | succ m ih =>
   intro b c hm hb hc he
   by_cases g:(c:Int) > 0
   ·by_cases g2:b < v.length
    ·have hd:=Xky g2
     have hcc:c=(c - 1) + 1:=by omega
     have hb1:Vl (v.drop b) c=if (ix v (b:Int)).kids < 0 then none else Vl (v.drop (b + 1)) (c - 1 + (ix v (b:Int)).kids.toNat):=by rw [hd,hcc,Vt]; rfl
     have hno:∀ bb,bb=true→Wy v a = -1→Eg (b:Int) v (c:Int) bb (.inr (Wy v a)):=fun bb h1 h2=>by
      unfold Eg
      rw [if_pos h1,h2]
     by_cases k:(ix v (b:Int)).kids < 0
     ·refine .done ?_
      dsimp only
      unfold Ea
      rw [if_pos g,if_neg (by omega)]
      refine ⟨⟨by omega,by omega⟩,?_⟩
      rw [if_pos k]
      exact hno _ rfl (Tq (by rw [he,hb1,if_pos k]))
     ·by_cases k2:(ix v (b:Int)).kids > (v.length:Int)
      ·refine .done ?_
       dsimp only
       unfold Ea
       rw [if_pos g,if_neg (by omega)]
       refine ⟨⟨by omega,by omega⟩,?_⟩
       rw [if_neg k,decide_eq_true k2]
       refine hno _ rfl (Tq ?_)
       rw [he,hb1,if_neg k]
       cases e:Vl (v.drop (b + 1)) (c - 1 + (ix v (b:Int)).kids.toNat) with
       | none=>rfl
       | some r =>
        have:=(Xa2 _ _ _ e).1
        rw [List.length_drop] at this
        omega
      ·refine .next (s' := (((b + 1 : Nat) : Int), ((c - 1 + (ix v (b : Int)).kids.toNat : Nat) : Int))) ?_ (ih (b + 1) _ (by omega) (by omega) (by omega) (by rw [he, hb1, if_neg k]))
       dsimp only
       unfold Ea
       rw [if_pos g,if_neg (by omega)]
       refine ⟨⟨by omega,by omega⟩,?_⟩
       rw [if_neg k,decide_eq_false k2]
       unfold Eg
       rw [if_neg (by simp)]
       refine ⟨⟨by omega,by omega⟩,?_⟩
       rw [Dk (x:=(b:Int) + 1) (by omega),Dk (x:=(c:Int) - 1) (by omega),Dk (by omega)]
       congr 2
       omega
    ·refine .done ?_
     dsimp only
     unfold Ea
     rw [if_pos g,if_pos (by omega)]
     unfold Eg
     rw [if_pos rfl,Tq (by rw [he,show b=v.length by omega,List.drop_length,show c=(c - 1) + 1 by omega]; rfl)]
   ·refine .done ?_
    dsimp only
    unfold Ea
    rw [if_neg g]
    have hc0:c=0:=by omega
    rw [Xby (r:=v.drop b) (by rw [he,hc0,Vq]),List.length_drop,show v.length - (v.length - b)=b by omega]
 exact key _ a 1 (Nat.le_refl _) ha (by omega) rfl
def Yn (v:List Aj) (i:Nat):Bool:=sndN nmQ (ix v (i:Int)) && (decide ((ix v (i:Int)).capture=noB) || decide (Qu (ix v (i:Int)).capture v=(i:Int)))
def U7 (v:List Aj) (c:D8):Bool:=decide (0≤Qu c.a v) && (decide (c.b=noB) || (decide (0≤Qu c.b v) && decide (c.text=noB)))
def Qh (q:Aq):Bool:=decide (q.nodes.length≤32) && (decide (q.conds.length≤16) && (decide (Wy q.nodes 0=(q.nodes.length:Int)) && ((List.range q.nodes.length).all (Yn q.nodes) && q.conds.all (U7 q.nodes))))
def SzQ (q:Aq):Prop:=(∀ x ∈ q.nodes,SzN x)∧∀ c ∈ q.conds,c.a.size≤1048576∧c.b.size≤1048576∧c.text.size≤1048576
def SzR (q:Aq):Prop:=∀ x ∈ q.nodes,SzW x
theorem SzQ.w {q:Aq} (h:SzQ q):SzR q:=fun x hx=>by
 obtain ⟨h1,h2,h3⟩:=h.1 x hx
 exact ⟨by omega,by omega,by omega⟩
theorem Xap {α:Type} [Inhabited α] {v:List α} {i:Nat} (h:i < v.length):ix v (i:Int) ∈ v:=by
 have:=V6 (xs:=v) (i:=(i:Int)) ⟨by omega,by omega⟩
 exact List.mem_of_getElem? this
theorem U2 {α:Type} [Inhabited α] {v:List α} {i:Nat} (h:i < v.length):ix v (i:Int)=v[i]:=by
 have:=V6 (xs:=v) (i:=(i:Int)) ⟨by omega,by omega⟩
 rw [Int.toNat_natCast,List.getElem?_eq_getElem h] at this
 exact (Option.some.inj this).symm
theorem Xgs {q:Aq} (hz:SzR q):W9 q (Qh q):=by
 unfold W9 Qh
 have hj:∀ b,q.nodes.length≤32→q.conds.length≤16→Jh q b (!b && ((List.range q.nodes.length).all (Yn q.nodes) && q.conds.all (U7 q.nodes))):=fun b hn hc=>by
  unfold Jh
  cases b with
  | true =>
   rw [if_pos rfl]
   rfl
  | false =>
   rw [if_neg (by simp),Bool.not_false,Bool.true_and]
   have hcap:∀ c,Jt q c (Qu c q.nodes):=fun c=>pcapt (show q.nodes.length≤2 ^ 40 by omega) q.conds c
   have hlen:(List.range q.nodes.length).length=q.nodes.length:=List.length_range
   have h3:Ar (fun (s:Int) o=>Kz q s o) 0 (if q.conds.all (U7 q.nodes)=true then (.inr true:Sum Int Bool) else .inr false):=by
    refine Ar.allThen q.conds (U7 q.nodes) (fun i hi hp=>?_) (fun i hi hp=>?_) (fun h=>?_)
    ·unfold Kz
     rw [if_pos (by omega)]
     refine ⟨⟨by omega,by omega⟩,_,hcap _,?_⟩
     rw [U2 hi]
     unfold U7 at hp
     simp only [Bool.and_eq_true,Bool.or_eq_true,decide_eq_true_eq] at hp
     rw [if_neg (by omega)]
     by_cases g:q.conds[i].b=noB
     ·rw [if_pos g,Dk (by omega)]
     ·rw [if_neg g]
      obtain ⟨p1,p2⟩:=hp.2.resolve_left g
      refine ⟨_,hcap _,?_⟩
      rw [if_neg (by omega),if_pos p2,Dk (by omega)]
    ·unfold Kz
     rw [if_pos (by omega)]
     refine ⟨⟨by omega,by omega⟩,_,hcap _,?_⟩
     rw [U2 hi]
     unfold U7 at hp
     by_cases g1:Qu q.conds[i].a q.nodes < 0
     ·rw [if_pos g1]
     ·rw [if_neg g1]
      rw [decide_eq_true (by omega),Bool.true_and] at hp
      by_cases g:q.conds[i].b=noB
      ·rw [decide_eq_true g] at hp; cases hp
      ·rw [if_neg g]
       rw [decide_eq_false g,Bool.false_or] at hp
       refine ⟨_,hcap _,?_⟩
       by_cases g2:Qu q.conds[i].b q.nodes < 0
       ·rw [if_pos g2]
       ·rw [if_neg g2]
        rw [decide_eq_true (by omega),Bool.true_and] at hp
        rw [if_neg (of_decide_eq_false hp)]
    ·unfold Kz
     rw [if_neg (Int.lt_irrefl _)]
   have h2:Ar (fun (s:Int) o=>Ky q s o) 0 (if (List.range q.nodes.length).all (Yn q.nodes)=true then q.conds.all (U7 q.nodes) else false):=by
    refine Ar.allThen (List.range q.nodes.length) (Yn q.nodes) (fun i hi hp=>?_) (fun i hi hp=>?_) (fun h=>?_)
    ·rw [hlen] at hi
     rw [List.getElem_range] at hp
     unfold Yn at hp
     rw [Bool.and_eq_true] at hp
     unfold Ky
     rw [if_pos (by omega)]
     refine ⟨⟨by omega,by omega⟩,_,Xho (hz _ (Xap hi)),?_⟩
     rw [hp.1,if_pos rfl]
     have hp2:=hp.2
     by_cases g:(ix q.nodes (i:Int)).capture=noB
     ·rw [if_pos g,Dk (by omega)]
     ·rw [if_neg g]
      rw [decide_eq_false g,Bool.false_or] at hp2
      refine ⟨_,hcap _,?_⟩
      rw [if_pos (of_decide_eq_true hp2),Dk (by omega)]
    ·rw [hlen] at hi
     rw [List.getElem_range] at hp
     unfold Yn at hp
     unfold Ky
     rw [if_pos (by omega)]
     refine ⟨⟨by omega,by omega⟩,_,Xho (hz _ (Xap hi)),?_⟩
     cases e:sndN nmQ (ix q.nodes (i:Int)) with
     | false=>rw [if_neg (by simp)]
     | true =>
      rw [e,Bool.true_and] at hp
      rw [if_pos rfl]
      by_cases g:(ix q.nodes (i:Int)).capture=noB
      ·rw [decide_eq_true g] at hp; cases hp
      ·rw [if_neg g]
       rw [decide_eq_false g,Bool.false_or] at hp
       refine ⟨_,hcap _,?_⟩
       rw [if_neg (of_decide_eq_false hp)]
    ·rw [hlen]
     unfold Ky
     rw [if_neg (Int.lt_irrefl _)]
     cases e:q.conds.all (U7 q.nodes) with
     | true=>rw [e,if_pos rfl] at h3; exact h3
     | false=>rw [e,if_neg (by simp)] at h3; exact h3
   cases e:(List.range q.nodes.length).all (Yn q.nodes) with
   | true=>rw [e,if_pos rfl] at h2; exact h2
   | false=>rw [e,if_neg (by simp)] at h2; exact h2
 have hj0:Jh q true false:=by
  unfold Jh
  rw [if_pos rfl]
 by_cases g1:q.nodes.length≤32
 ·rw [decide_eq_true g1, Bool.true_and, if_neg (by omega)]
  by_cases g2:q.conds.length≤16
  ·rw [decide_eq_true g2, Bool.true_and, if_neg (by omega)]
   refine ⟨_,Xke (show q.nodes.length≤2 ^ 40 by omega) 0,?_⟩
   have e:(Wy q.nodes 0 != (q.nodes.length:Int)) = !decide (Wy q.nodes 0=(q.nodes.length:Int)):=by
    rw [bne,Bool.beq_eq_decide_eq]
   rw [e]
   have:=hj (!decide (Wy q.nodes 0=(q.nodes.length:Int))) g1 g2
   rw [Bool.not_not] at this
   exact this
  ·rw [decide_eq_false g2, Bool.false_and, if_pos (by omega)]
   exact hj0
 ·rw [decide_eq_false g1, Bool.false_and, if_pos (by omega)]
  exact hj0
end Go.Proofs.YtjookebbmfiidaaDoor.L
