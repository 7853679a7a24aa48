/- Items told as sets of places, and sets told as items. No condition but the size. -/
import Derived.Test.YtadcichlnacagaaDoorI8
set_option linter.unusedVariables false
namespace Go.Proofs.YtadcichlnacagaaDoor.L
open Go.Proofs.YtadcichlnacagaaDoor.B Go.Proofs.YtadcichlnacagaaDoor.R
def isB (g:Yu5) (it:Yud):Bool:=decide (0≤it.prod) && decide (it.prod < (g.prods.length:Int)) && decide (0≤it.dot) && decide (it.dot≤((ix g.prods it.prod).rhs.length:Int)) && decide (0≤it.look) && decide (it.look < (g.terms.length:Int))
def markI (g:Yu5) (it:Yud):Yus:=⟨((atN g it.prod.toNat + it.dot.toNat:Nat):Int),((2 ^ it.look.toNat:Nat):Int)⟩
def Zai (g:Yu5) (l:List Yud):List Yus:=(l.filter (isB g)).map (markI g)
theorem Zh1 {g:Yu5} {it:Yud}:isB g it=true↔((((((0≤it.prod∧it.prod < (g.prods.length:Int))∧0≤it.dot)∧it.dot≤((ix g.prods it.prod).rhs.length:Int))∧0≤it.look)∧it.look < (g.terms.length:Int))):=by
 simp only [isB,Bool.and_eq_true,decide_eq_true_eq]
theorem markI_ok {g:Yu5} (hT:g.terms.length≤64) {it:Yud} (h:isB g it=true):MkOk g (markI g it):=by
 obtain ⟨⟨⟨⟨⟨h1,h2⟩,h3⟩,h4⟩,h5⟩,h6⟩:=Zh1.1 h
 refine ⟨⟨it.prod.toNat,it.dot.toNat,by omega,?_,rfl⟩,U.one (by omega)⟩
 unfold Yvk
 rw [Int.toNat_of_nonneg h1]
 omega
theorem Zjg {g:Yu5} (hT:g.terms.length≤64) (l:List Yud):∀ m ∈ Zai g l,MkOk g m:=fun m hm=>by
 obtain ⟨it,h1,rfl⟩:=List.mem_map.1 hm
 exact markI_ok hT (List.mem_filter.1 h1).2
theorem Zjw {g:Yu5} {l:List Yud} {it:Yud} (h:isB g it=true):Zai g (l++[it])=Zai g l++[markI g it]:=by
 unfold Zai
 rw [List.filter_append,List.filter_cons_of_pos h,List.filter_nil,List.map_append]
 rfl
theorem Zjv {g:Yu5} {l:List Yud} {it:Yud} (h:isB g it=false):Zai g (l++[it])=Zai g l:=by
 unfold Zai
 rw [List.filter_append,List.filter_cons_of_neg (by simp [h]),List.filter_nil,List.append_nil]
theorem Zk1 (g:Yu5) (l:List Yud):(Zai g l).length≤l.length:=by
 unfold Zai
 rw [List.length_map]
 exact List.length_filter_le _ _
theorem Zsv {g:Yu5} (hb:Big g) {it:Yud} (h:isB g it=true):w64 (ix (Za0 g g.prods.length) it.prod + it.dot)=((atN g it.prod.toNat + it.dot.toNat:Nat):Int)∧it.prod.toNat < g.prods.length∧atN g it.prod.toNat + it.dot.toNat < nN g:=by
 have hN:=hb.n
 obtain ⟨⟨⟨⟨⟨h1,h2⟩,h3⟩,h4⟩,h5⟩,h6⟩:=Zh1.1 h
 have hp:it.prod.toNat < g.prods.length:=by omega
 have hz:((it.prod.toNat:Nat):Int)=it.prod:=Int.toNat_of_nonneg h1
 have hin:atN g it.prod.toNat + it.dot.toNat < nN g:=Zcz hp (by unfold Yvk; rw [hz]; omega)
 have e:=Zj0 (g:=g) hp
 rw [hz] at e
 refine ⟨?_,hp,hin⟩
 rw [e,Yyq (by omega)]
 omega
theorem Zqv {g:Yu5} (hb:Big g) (s:Yu8) {l:List Yud} (hT:g.terms.length≤64) (hl:l.length≤2 ^ 40):Zat (Yw2 g s) l (Zai g l,Yw2 g s):=by
 have hP:=hb.lg.p
 unfold Zat
 refine Yui.upto (B:=fun (q:(List Yus) × Int) o=>Yxp l (Yw2 g s) q.1 q.2 o) (r:=(Zai g l,Yw2 g s)) (fun k=>(Zai g (l.take k),(k:Int))) l.length (fun k hk=>?_) ?_
 ·show Yxp l (Yw2 g s) (Zai g (l.take k)) (k:Int) (.inl (Zai g (l.take (k + 1)),((k + 1:Nat):Int)))
  have hle:=Zk1 g (l.take k)
  rw [List.length_take] at hle
  rw [Zfc hk]
  unfold Yxp
  rw [if_pos (by omega),Yvv hk,Yw3 (by omega)]
  have eg:(Yw2 g s).g=g:=rfl
  rw [eg]
  refine ⟨by omega,?_⟩
  cases hB:isB g l[k] with
  | true =>
   obtain ⟨h0,hp,hin⟩:=Zsv hb hB
   obtain ⟨⟨⟨⟨⟨h1,h2⟩,h3⟩,h4⟩,h5⟩,h6⟩:=Zh1.1 hB
   rw [if_pos (by omega),if_pos (by omega),if_pos (by omega)]
   refine ⟨by omega,?_⟩
   rw [if_pos (by omega),if_pos (by omega),if_pos (by omega)]
   refine ⟨⟨by omega,?_⟩,by omega,Zai g (l.take k)++[markI g l[k]],?_,?_,?_⟩
   ·show _ < ((Za0 g g.prods.length).length:Int)
    simp [Za0]; omega
   ·show _=_++[(⟨w64 (ix (Za0 g g.prods.length) l[k].prod + l[k].dot),Zim .u64 1 l[k].look⟩:Yus)]
    have hz:((l[k].look.toNat:Nat):Int)=l[k].look:=Int.toNat_of_nonneg h5
    have:=Zmy (t:=l[k].look.toNat) (by omega)
    rw [hz] at this
    rw [h0,this]
    rfl
   ·rw [List.length_append,List.length_singleton]
    omega
   ·rw [Zjw hB]
    rfl
  | false =>
   rw [Zjv hB]
   have hn:¬ ((((((0≤l[k].prod∧l[k].prod < (g.prods.length:Int))∧0≤l[k].dot)∧l[k].dot≤((ix g.prods l[k].prod).rhs.length:Int))∧0≤l[k].look)∧l[k].look < (g.terms.length:Int))):=fun h=>by
    rw [Zh1.2 h] at hB; cases hB
   split
   ·split
    ·split
     ·refine ⟨by omega, ?_⟩
      split
      ·split
       ·split
        ·exact absurd ⟨⟨⟨⟨⟨by omega,by omega⟩,by omega⟩,by omega⟩,by omega⟩,by omega⟩ hn
        ·rfl
       ·rfl
      ·rfl
     ·rfl
    ·rfl
   ·rfl
 ·show Yxp l (Yw2 g s) (Zai g (l.take l.length)) (l.length:Int) _
  unfold Yxp
  rw [if_neg (by omega),List.take_length]
theorem Is_ok {g:Yu5} (it:Yud):Zcp g it (isB g it):=by
 unfold Zcp
 cases hB:isB g it with
 | true =>
  obtain ⟨⟨⟨⟨⟨h1,h2⟩,h3⟩,h4⟩,h5⟩,h6⟩:=Zh1.1 hB
  rw [if_pos (by omega),if_pos (by omega),if_pos (by omega)]
  refine ⟨by omega,?_⟩
  rw [if_pos (by omega),if_pos (by omega),decide_eq_true (by omega)]
 | false =>
  have hn:¬ ((((((0≤it.prod∧it.prod < (g.prods.length:Int))∧0≤it.dot)∧it.dot≤((ix g.prods it.prod).rhs.length:Int))∧0≤it.look)∧it.look < (g.terms.length:Int))):=fun h=>by
   rw [Zh1.2 h] at hB; cases hB
  split
  ·split
   ·split
    ·refine ⟨by omega, ?_⟩
     split
     ·split
      ·rw [decide_eq_false (fun h=>hn ⟨⟨⟨⟨⟨by omega,by omega⟩,by omega⟩,by omega⟩,by omega⟩,by omega⟩)]
      ·rfl
     ·rfl
    ·rfl
   ·rfl
  ·rfl
theorem Zmg (g:Yu5) (ms:List Yus) (m:Yus):Yxw g (ms++[m])=add (Yxw g ms) m.spot.toNat m.looks:=by
 unfold Yxw
 rw [List.foldl_append]
 rfl
theorem bit_ok {t:Int} (h0:0≤t) (h1:t < 64):Zaw t ((2 ^ t.toNat:Nat):Int):=by
 unfold Zaw
 have e:IntKind.u64.wrap t=t:=Zre ⟨h0,by omega⟩
 have:=Zmy (t:=t.toNat) (by omega)
 rw [Int.toNat_of_nonneg h0] at this
 rw [e]
 exact ⟨h0,this.symm⟩
theorem Zrj {g:Yu5} (hb:Big g) (s:Yu8) {l:List Yud} (hT:g.terms.length≤64) (hl:l.length≤2 ^ 40):Zah (Ywi g s) l (Yxw g (Zai g l),Ywi g s):=by
 have hN:=hb.n
 unfold Zah
 refine ⟨?_,List.replicate (nN g) 0,?_,?_⟩
 ·show (0:Int)≤((nN g:Nat):Int)∧((nN g:Nat):Int) * 8≤_
  omega
 ·show _=List.replicate (((nN g:Nat):Int)).toNat 0
  rw [Int.toNat_natCast]
 refine Yui.upto (B:=fun (q:(List Int) × Int) o=>Yy2 l (Ywi g s) q.1 q.2 o) (r:=(Yxw g (Zai g l),Ywi g s)) (fun k=>(Yxw g (Zai g (l.take k)),(k:Int))) l.length (fun k hk=>?_) ?_
 ·show Yy2 l (Ywi g s) (Yxw g (Zai g (l.take k))) (k:Int) (.inl (Yxw g (Zai g (l.take (k + 1))),((k + 1:Nat):Int)))
  have hlen:=(Zjk (Zjg hT (l.take k))).2
  rw [Zfc hk]
  unfold Yy2
  rw [if_pos (by omega),Yvv hk,Yw3 (by omega)]
  refine ⟨by omega,isB g l[k],Is_ok _,?_⟩
  cases hB:isB g l[k] with
  | true =>
   obtain ⟨h0,hp,hin⟩:=Zsv hb hB
   obtain ⟨⟨⟨⟨⟨h1,h2⟩,h3⟩,h4⟩,h5⟩,h6⟩:=Zh1.1 hB
   rw [if_pos rfl,Zjw hB,Zmg]
   show (_∧_ < ((Za0 g g.prods.length).length:Int))∧(0≤w64 (ix (Za0 g g.prods.length) l[k].prod + l[k].dot)∧w64 (ix (Za0 g g.prods.length) l[k].prod + l[k].dot) < _)∧∃ r274:Int,_∧∃ x279:List Int,(x279=List.set _ (w64 (ix (Za0 g g.prods.length) l[k].prod + l[k].dot)).toNat (OR (ix _ (w64 (ix (Za0 g g.prods.length) l[k].prod + l[k].dot))) r274))∧_
   rw [h0,hlen,Int.toNat_natCast]
   refine ⟨⟨by omega,by simp [Za0]; omega⟩,by omega,_,bit_ok h5 (by omega),_,rfl,?_⟩
   rfl
  | false =>
   rw [if_neg (by simp),Zjv hB]
   rfl
 ·show Yy2 l (Ywi g s) (Yxw g (Zai g (l.take l.length))) (l.length:Int) _
  unfold Yy2
  rw [if_neg (by omega),List.take_length]
def Zby (T:Nat) (x:Int) (p d:Nat):List Yud:=(Zd0 T x).map fun t:Nat=>(⟨(p:Int),(d:Int),(t:Int)⟩:Yud)
def Zj6 (g:Yu5) (T:Nat) (v:List Int) (p:Nat):Nat→List Yud
 | 0=>[]
 | d + 1=>Zj6 g T v p d++Zby T (vx v (atN g p + d)) p d
def Ze3 (g:Yu5) (T:Nat) (v:List Int):Nat→List Yud
 | 0=>[]
 | p + 1=>Ze3 g T v p++Zj6 g T v p ((Yvk g p).length + 1)
def Zj5 (g:Yu5) (v:List Int):List Yud:=Ze3 g g.terms.length v g.prods.length
theorem Zoc (g:Yu5) {T:Nat} (hT:T≤64) (v:List Int) (p:Nat):∀ d,(Zj6 g T v p d).length≤64 * d
 | 0=>Nat.le_refl _
 | d + 1=>by
  have:=Zoc g hT v p d
  have:=Zic T (vx v (atN g p + d))
  rw [Zj6,List.length_append,Zby,List.length_map]
  omega
theorem Zm6 (g:Yu5) {T:Nat} (hT:T≤64) (v:List Int):∀ p,(Ze3 g T v p).length≤64 * atN g p
 | 0=>Nat.le_refl _
 | p + 1=>by
  have:=Zm6 g hT v p
  have:=Zoc g hT v p ((Yvk g p).length + 1)
  rw [Ze3,List.length_append,atN]
  omega
def LowV (T:Nat) (v:List Int):Prop:=∀ j t,has (vx v j) t=true→t < T
theorem rowI_T {g:Yu5} {T:Nat} (hT:T≤64) {v:List Int} (h:LowV T v) (p:Nat):∀ d,Zj6 g 64 v p d=Zj6 g T v p d
 | 0=>rfl
 | d + 1=>by
  rw [Zj6,Zj6,rowI_T hT h p d,Zby,Zby,bitsOf_T hT (h _)]
theorem Zsn {g:Yu5} {T:Nat} (hT:T≤64) {v:List Int} (h:LowV T v):∀ p,Ze3 g 64 v p=Ze3 g T v p
 | 0=>rfl
 | p + 1=>by rw [Ze3,Ze3,Zsn hT h p,rowI_T hT h p]
def Zk4 (g:Yu5) (s:Yu8) (v:List Int):Nat→List Yud
 | 0=>[]
 | i + 1=>Zk4 g s v i++(Zd0 64 (vx v i)).map fun t:Nat=>(⟨(ix (Yw2 g s).spots (i:Int)).prod,(ix (Yw2 g s).spots (i:Int)).dot,(t:Int)⟩:Yud)
theorem Zr9 (g:Yu5) (s:Yu8) (v:List Int):∀ i,(Zk4 g s v i).length≤64 * i
 | 0=>Nat.le_refl _
 | i + 1=>by
  have:=Zr9 g s v i
  have:=Zic 64 (vx v i)
  rw [Zk4,List.length_append,List.length_map]
  omega
theorem Zrb {g:Yu5} {s:Yu8} {v:List Int} {p:Nat} (hp:p < g.prods.length) (h0:Zk4 g s v (atN g p)=Ze3 g 64 v p):∀ d,d≤(Yvk g p).length + 1→Zk4 g s v (atN g p + d)=Ze3 g 64 v p++Zj6 g 64 v p d
 | 0,_=>by rw [Nat.add_zero,h0,Zj6,List.append_nil]
 | d + 1,h=>by
  have ih:=Zrb hp h0 d (by omega)
  have e:ix (Yw2 g s).spots ((atN g p + d:Nat):Int)=Zcn g s p d:=Zg9 hp (by omega)
  show Zk4 g s v (atN g p + d + 1)=_
  rw [Zk4,ih,Zj6,e,List.append_assoc]
  rfl
theorem Zsw {g:Yu5} {s:Yu8} {v:List Int}:∀ p,p≤g.prods.length→Zk4 g s v (atN g p)=Ze3 g 64 v p
 | 0,_=>rfl
 | p + 1,h=>by
  have ih:=Zsw (g:=g) (s:=s) (v:=v) p (by omega)
  have:=Zrb (s:=s) (p:=p) (by omega) ih ((Yvk g p).length + 1) (Nat.le_refl _)
  rw [atN,this,Ze3]
theorem list_x {g:Yu5} (hb:Big g) (s:Yu8) {i:Nat} (hi:i < nN g):∀ (n:Nat) (x:Int) (acc:List Yud),U x→(Zd0 64 x).length=n→acc.length + n≤64 * nN g →
  Yui (fun (q:(List Yud) × Int) o=>Yy3 (i:Int) (Yw2 g s) q.1 q.2 o) (acc,x) (.inl (acc++(Zd0 64 x).map (fun t:Nat=>(⟨(ix (Yw2 g s).spots (i:Int)).prod,(ix (Yw2 g s).spots (i:Int)).dot,(t:Int)⟩:Yud)),(i:Int) + 1):Sum ((List Yud) × Int) (Sum (Int × Int) ((List Yud) × Yuv)))
 | n,x,acc,hx,hn,ha=>by
  have hN:=hb.n
  by_cases h0:x=0
  ·subst h0
   refine .done ?_
   show Yy3 (i:Int) (Yw2 g s) acc 0 _
   unfold Yy3
   rw [if_pos rfl,Zis,Yw3 (by omega)]
   simp
  ·obtain ⟨t,ht,h1,h2,h3⟩:=Zrg hx h0
   cases n with
   | zero=>rw [h2] at hn; cases hn
   | succ n =>
    have hn2:(Zd0 64 (ND x (IntKind.u64.wrap (x - 1)))).length=n:=by rw [h2,List.length_cons] at hn; omega
    have ih:=list_x hb s hi n _ (acc++[(⟨(ix (Yw2 g s).spots (i:Int)).prod,(ix (Yw2 g s).spots (i:Int)).dot,(t:Int)⟩:Yud)]) h3 hn2 (by rw [List.length_append,List.length_singleton]; omega)
    refine .next (s':=(_,_)) ?_ (by rw [h2,List.map_cons]; simpa using ih)
    show Yy3 (i:Int) (Yw2 g s) acc x _
    unfold Yy3
    rw [if_neg h0]
    refine ⟨by rw [Zje]; omega,_,h1,_,rfl,?_,rfl⟩
    rw [List.length_append,List.length_singleton]
    omega
theorem Zsl {g:Yu5} (hb:Big g) (s:Yu8) {v:List Int} (hv:OkV v) (hl:v.length=nN g):Zbf (Yw2 g s) v (Zk4 g s v (nN g),Yw2 g s):=by
 have hN:=hb.n
 have l2:Yui (fun (q:(List Yud) × Int) o=>Yxj v (Yw2 g s) q.1 q.2 o) (([]:List Yud),0) (.inr (Zk4 g s v (nN g),Yw2 g s):Sum (Int × Int) ((List Yud) × Yuv)):=by
  refine Yui.upto (B:=fun (q:(List Yud) × Int) o=>Yxj v (Yw2 g s) q.1 q.2 o) (fun i=>(Zk4 g s v i,(i:Int))) (nN g) (fun i hi=>?_) ?_
  ·show Yxj v (Yw2 g s) (Zk4 g s v i) (i:Int) _
   unfold Yxj
   rw [hl,if_pos (by omega)]
   refine ⟨by omega,?_⟩
   have h1:=Zr9 g s v i
   have h2:=Zic 64 (vx v i)
   exact list_x hb s hi _ (vx v i) (Zk4 g s v i) (hv i) rfl (by omega)
  ·show Yxj v (Yw2 g s) (Zk4 g s v (nN g)) (nN g:Int) _
   unfold Yxj
   rw [hl,if_neg (by omega)]
 unfold Zbf
 refine Yui.to (B:=fun (q:Int × Int) o=>Yyi v (Yw2 g s) q.1 q.2 o) (fun q=>0≤q.2∧q.2≤(nN g:Int)∧0≤q.1∧q.1≤127 * q.2) (fun q=>((nN g:Int) - q.2).toNat) (fun q hq=>?_) ⟨by simp,by simp,by simp,by simp⟩
 obtain ⟨n,i⟩:=q
 obtain ⟨q1,q2,q3,q4⟩:=hq
 simp only at q1 q2 q3 q4
 show Yyi v (Yw2 g s) n i _∨∃ s',Yyi v (Yw2 g s) n i _∧_
 unfold Yyi
 rw [hl]
 by_cases hi:i < (nN g:Int)
 ·right
  obtain ⟨r,r1,r2,r3⟩:=ones_ok (ix v i)
  refine ⟨(n + r,i + 1),?_,⟨by show 0≤i + 1; omega,by show i + 1≤_; omega,by show 0≤n + r; omega,by show n + r≤127 * (i + 1); omega⟩,by show ((nN g:Int) - (i + 1)).toNat < ((nN g:Int) - i).toNat; omega⟩
  rw [if_pos hi,Yyq (x:=i + 1) (by omega)]
  refine ⟨by omega,r,r1,?_⟩
  rw [Yyq (x:=n + r) (by omega)]
 ·left
  rw [if_neg hi]
  exact ⟨by omega,l2⟩
theorem nd_bit {x:Int} (hx:U x) {t:Nat} (ht:t < 64):ND x ((2 ^ t:Nat):Int)=0↔has x t=false:=by
 constructor
 ·intro h
  have:=congrArg (fun z=>has z t) h
  simp only [Zpw hx (U.one ht),Zi3,Zaj,decide_true,Bool.and_true] at this
  exact this
 ·intro h
  refine Zh2 (nd_U hx (U.one ht)) U.zero fun j=>?_
  rw [Zpw hx (U.one ht),Zi3,Zaj]
  by_cases e:t=j
  ·subst e; rw [h]; rfl
  ·rw [decide_eq_false e,Bool.and_false]
theorem sorted_x {g:Yu5} (hb:Big g) (s:Yu8) (hT:g.terms.length≤64) {v:List Int} (hv:OkV v) {p d:Nat} (hp:p < g.prods.length) (hd:d≤(Yvk g p).length) {acc:List Yud} (ha:acc.length≤64 * (atN g p + d)) :
  Yui (fun (q:(List Yud) × Int) o=>Yw0 (Ywi g s) v (p:Int) (d:Int) q.1 q.2 o) (acc,0) (.inl (acc++Zby g.terms.length (vx v (atN g p + d)) p d,(d:Int) + 1):Sum ((List Yud) × Int) (Sum ((List Yud) × Int) ((List Yud) × Yuc))):=by
 have hN:=hb.n
 have hin:=Zcz hp hd
 have ew:w64 (ix (Za0 g g.prods.length) (p:Int) + (d:Int))=((atN g p + d:Nat):Int):=by rw [Zj0 hp,Yyq (by omega)]; omega
 have ed:w64 ((d:Int) + 1)=(d:Int) + 1:=Yyq (by omega)
 have ev:ix v ((atN g p + d:Nat):Int)=vx v (atN g p + d):=rfl
 by_cases h0:vx v (atN g p + d)=0
 ·refine .done ?_
  show Yw0 (Ywi g s) v (p:Int) (d:Int) acc 0 _
  have e:Zby g.terms.length (vx v (atN g p + d)) p d=[]:=by unfold Zby; rw [h0,Zis]; rfl
  rw [e,List.append_nil]
  have eb:(ix v (w64 (ix (Ywi g s).at_ (p:Int) + (d:Int))) != 0)=false:=by
   show (ix v (w64 (ix (Za0 g g.prods.length) (p:Int) + (d:Int))) != 0)=false
   rw [ew,ev,h0]; rfl
  have hj:Yxa 0 v (Ywi g s) (p:Int) (d:Int) acc false (.inr (.inl (acc,(d:Int) + 1))):=by
   unfold Yxa
   rw [if_neg (by simp),ed]
  unfold Yw0
  rw [eb]
  split <;> exact hj
 ·have key := Yui.upto (B := fun (q : (List Yud) × Int) o => Yw0 (Ywi g s) v (p : Int) (d : Int) q.1 q.2 o) (r := (.inl (acc ++ Zby g.terms.length (vx v (atN g p + d)) p d, (d : Int) + 1) : Sum ((List Yud) × Int) (Sum ((List Yud) × Int) ((List Yud) × Yuc)))) (fun t => (acc ++ Zby t (vx v (atN g p + d)) p d, (t : Int))) g.terms.length (fun t ht => ?_) ?_
  ·simpa [Zby,Zd0] using key
  ·show Yw0 (Ywi g s) v (p:Int) (d:Int) (acc++Zby t (vx v (atN g p + d)) p d) (t:Int) _
   have eb:(ix v (w64 (ix (Ywi g s).at_ (p:Int) + (d:Int))) != 0)=true:=by
    show (ix v (w64 (ix (Za0 g g.prods.length) (p:Int) + (d:Int))) != 0)=true
    rw [ew,ev]; simpa using h0
   have hln:(acc++Zby t (vx v (atN g p + d)) p d).length≤64 * (atN g p + d) + 64:=by
    have:=Zic t (vx v (atN g p + d))
    rw [List.length_append,Zby,List.length_map]
    omega
   unfold Yw0
   rw [eb]
   unfold Yxa
   rw [if_pos (show (t:Int) < ((Ywi g s).g.terms.length:Int) from by show (t:Int) < (g.terms.length:Int); omega),if_pos rfl,Yw3 (by omega)]
   refine ⟨_,bit_ok (t:=(t:Int)) (by omega) (by omega),?_⟩
   show if ND (ix v (w64 (ix (Za0 g g.prods.length) (p:Int) + (d:Int)))) ((2 ^ (t:Int).toNat:Nat):Int)=0 then _ else _
   rw [ew,ev,Int.toNat_natCast]
   have eS:Zd0 (t + 1) (vx v (atN g p + d))=Zd0 t (vx v (atN g p + d))++(if has (vx v (atN g p + d)) t=true then [t] else []):=by
    unfold Zd0
    rw [List.range_succ,List.filter_append]
    congr 1
    by_cases h:has (vx v (atN g p + d)) t=true
    ·rw [if_pos h,List.filter_cons_of_pos h,List.filter_nil]
    ·rw [if_neg h,List.filter_cons_of_neg h,List.filter_nil]
   cases hh:has (vx v (atN g p + d)) t with
   | false =>
    rw [if_pos ((nd_bit (hv _) (by omega)).2 hh)]
    rw [hh,if_neg (by simp),List.append_nil] at eS
    unfold Zby
    rw [eS]
    rfl
   | true =>
    rw [if_neg (fun h=>by rw [(nd_bit (hv _) (by omega)).1 h] at hh; cases hh)]
    rw [hh,if_pos rfl] at eS
    refine ⟨_,rfl,by rw [List.length_append,List.length_singleton]; omega,?_⟩
    unfold Zby
    rw [eS,List.map_append,← List.append_assoc]
    rfl
  ·show Yw0 (Ywi g s) v (p:Int) (d:Int) _ (g.terms.length:Int) _
   unfold Yw0
   rw [if_neg (show ¬ ((g.terms.length:Int) < ((Ywi g s).g.terms.length:Int)) from by show ¬ ((g.terms.length:Int) < (g.terms.length:Int)); omega)]
   unfold Yxa
   rw [if_neg (by simp),ed]
theorem Zor {g:Yu5} (hb:Big g) (s:Yu8) (hT:g.terms.length≤64) {v:List Int} (hv:OkV v) (hl:v.length=nN g):Yyw (Ywi g s) v (Zj5 g v,Ywi g s):=by
 have hN:=hb.n
 have hP:=hb.lg.p
 unfold Yyw
 refine Yui.upto (B:=fun (q:(List Yud) × Int) o=>Ywt (Ywi g s) v q.1 q.2 o) (r:=(Zj5 g v,Ywi g s)) (fun p=>(Ze3 g g.terms.length v p,(p:Int))) g.prods.length (fun p hp=>?_) ?_
 ·show Ywt (Ywi g s) v (Ze3 g g.terms.length v p) (p:Int) _
  have hrl:=lgix hb.lg p
  unfold Ywt
  rw [if_pos (show (p:Int) < ((Ywi g s).g.prods.length:Int) from by show (p:Int) < (g.prods.length:Int); omega)]
  have key:=Yui.upto (B:=fun (q:(List Yud) × Int) o=>Ywv (p:Int) (Ywi g s) v q.1 q.2 o) (r:=(.inl (Ze3 g g.terms.length v (p + 1),((p + 1:Nat):Int)):Sum ((List Yud) × Int) ((List Yud) × Yuc))) (fun d=>(Ze3 g g.terms.length v p++Zj6 g g.terms.length v p d,(d:Int))) ((Yvk g p).length + 1) (fun d hd=>?_) ?_
  ·simpa [Zj6] using key
  ·show Ywv (p:Int) (Ywi g s) v (Ze3 g g.terms.length v p++Zj6 g g.terms.length v p d) (d:Int) _
   have hin:=Zcz (g:=g) hp (d:=d) (by omega)
   have h1:=Zm6 g hT v p
   have h2:=Zoc g hT v p d
   unfold Ywv
   refine ⟨⟨by omega,by show (p:Int) < (g.prods.length:Int); omega⟩,?_⟩
   have er:(ix (Ywi g s).g.prods (p:Int)).rhs=Yvk g p:=rfl
   rw [er,if_pos (by omega)]
   show (_∧_ < ((Za0 g g.prods.length).length:Int))∧(_≤w64 (ix (Za0 g g.prods.length) (p:Int) + (d:Int))∧w64 (ix (Za0 g g.prods.length) (p:Int) + (d:Int)) < _)∧_
   have ew:w64 (ix (Za0 g g.prods.length) (p:Int) + (d:Int))=((atN g p + d:Nat):Int):=by rw [Zj0 hp,Yyq (by omega)]; omega
   rw [ew,hl]
   refine ⟨⟨by omega,by simp [Za0]; omega⟩,by omega,?_⟩
   have:=sorted_x hb s hT hv hp (d:=d) (by omega) (acc:=Ze3 g g.terms.length v p++Zj6 g g.terms.length v p d) (by rw [List.length_append]; omega)
   rw [List.append_assoc] at this
   exact this
  ·show Ywv (p:Int) (Ywi g s) v _ (((Yvk g p).length + 1:Nat):Int) _
   unfold Ywv
   refine ⟨⟨by omega,by show (p:Int) < (g.prods.length:Int); omega⟩,?_⟩
   have er:(ix (Ywi g s).g.prods (p:Int)).rhs=Yvk g p:=rfl
   rw [er,if_neg (by omega),Yw3 (by omega)]
   rfl
 ·show Ywt (Ywi g s) v (Ze3 g g.terms.length v g.prods.length) (g.prods.length:Int) _
  unfold Ywt
  rw [if_neg (show ¬ ((g.prods.length:Int) < ((Ywi g s).g.prods.length:Int)) from by show ¬ ((g.prods.length:Int) < (g.prods.length:Int)); omega)]
  rfl
end Go.Proofs.YtadcichlnacagaaDoor.L
