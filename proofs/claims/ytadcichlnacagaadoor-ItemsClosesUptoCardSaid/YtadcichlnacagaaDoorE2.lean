/- The document's First and Of answer as the program's. No condition. -/
import Derived.Test.YtadcichlnacagaaDoorE1
set_option linter.unusedVariables false
namespace Go.Proofs.YtadcichlnacagaaDoor.L
open Go.Proofs.YtadcichlnacagaaDoor.B Go.Proofs.YtadcichlnacagaaDoor.R
def Zbg (nv:Int→Bool):List Yut→List Int
 | []=>[]
 | r :: l=>r.sym :: (if nv r.sym=true then Zbg nv l else [])
def Hd (g:Yu5) (nv:Int→Bool) (x y:Int):Prop:=∃ p ∈ g.prods,0≤p.lhs∧xOf g p=x∧y ∈ Zbg nv p.rhs
inductive Rs (g:Yu5) (nv:Int→Bool) (R:Int→Prop):Int→Prop
 | base {y:Int}:R y→Rs g nv R y
 | step {x y:Int}:Rs g nv R x→Hd g nv x y→Rs g nv R y
theorem Rs.bind {g:Yu5} {nv:Int→Bool} {R R':Int→Prop} (h:∀ z,R z→Rs g nv R' z) {y:Int} (k:Rs g nv R y):Rs g nv R' y:=by
 induction k with
 | base h0=>exact h _ h0
 | step _ h2 ih=>exact .step ih h2
theorem Zhy {nv:Int→Bool}:∀ (i:Nat) (row:List Yut),i≤row.length→(∀ j (h:j < row.length),j < i→nv row[j].sym=true)→Zbg nv row=(row.take i).map (·.sym)++Zbg nv (row.drop i)
 | 0,row,_,_=>rfl
 | i + 1,[],h,_=>by simp at h
 | i + 1,r :: row,h,hn=>by
  have h0:=hn 0 (by simp) (by omega)
  rw [List.getElem_cons_zero] at h0
  rw [Zbg,if_pos h0,Zhy i row (by simpa using h) fun j hj hji=>by have:=hn (j + 1) (by simpa using hj) (by omega); simpa using this]
  rfl
def Zmh (l:List Bool):Nat:=l.count false
theorem Zo9 {a b:List Bool} (hl:a.length=b.length) (h:LeN a b):Zmh b≤Zmh a∧(Zmh b=Zmh a→a=b):=Zqt hl fun i h1 h2 hx=>by
 have:=h (i:Int)
 rw [Yvv h1,Yvv h2] at this
 exact this hx
theorem Zt9 {l:List Bool} {x:Int} (hx:x.toNat < l.length) (h:ix l x=false):Zmh (l.set x.toNat true) < Zmh l:=by
 obtain ⟨h1,h2⟩:=Zo9 (a:=l) (b:=l.set x.toNat true) (by rw [List.length_set]) (fun j hj=>Zmw j hj)
 rcases Nat.lt_or_eq_of_le h1 with h3 | h3
 ·exact h3
 ·have:=h2 h3
  rw [this] at h
  rw [Znz hx rfl] at h
  cases h
structure Led (g:Yu5) (nv:Int→Bool) (seen:List Bool) (row:List Yut) (r:List Bool):Prop where
 len:r.length=nA g
 le:LeN seen r
 hd:∀ y ∈ Zbg nv row,ix r y=true
 cl:∀ y,ix r y=true→ix seen y=false→∀ z,Hd g nv y z→ix r z=true
 rs:∀ y,0≤y→ix r y=true→ix seen y=true∨Rs g nv (· ∈ Zbg nv row) y
structure Mid (g:Yu5) (nv:Int→Bool) (seen:List Bool) (row:List Yut) (i:Nat) (cur:List Bool):Prop where
 hi:i≤row.length
 len:cur.length=nA g
 le:LeN seen cur
 nl:∀ j (h:j < row.length),j < i→nv row[j].sym=true
 hd:∀ j (h:j < row.length),j < i→ix cur row[j].sym=true
 cl:∀ y,ix cur y=true→ix seen y=false→∀ z,Hd g nv y z→ix cur z=true
 rs:∀ y,0≤y→ix cur y=true→ix seen y=true∨Rs g nv (· ∈ Zbg nv row) y
theorem Mid.done {g:Yu5} {nv:Int→Bool} {seen cur:List Bool} {row:List Yut} (h:Mid g nv seen row row.length cur):Led g nv seen row cur:=by
 refine ⟨h.len,h.le,fun y hy=>?_,h.cl,h.rs⟩
 rw [Zhy row.length row (Nat.le_refl _) h.nl,List.take_length,List.drop_length] at hy
 rcases List.mem_append.1 hy with hy | hy
 ·obtain ⟨r,hr,rfl⟩:=List.mem_map.1 hy
  obtain ⟨j,hj,rfl⟩:=List.getElem_of_mem hr
  exact h.hd j hj hj
 ·cases hy
theorem Mid.exit {g:Yu5} {nv:Int→Bool} {seen cur:List Bool} {row:List Yut} {i:Nat} (h:Mid g nv seen row i cur) (hi:i < row.length) (hx:ix cur row[i].sym=true) (hn:nv row[i].sym=false):Led g nv seen row cur:=by
 refine ⟨h.len,h.le,fun y hy=>?_,h.cl,h.rs⟩
 rw [Zhy i row h.hi h.nl,List.drop_eq_getElem_cons hi,Zbg,if_neg (by simp [hn])] at hy
 rcases List.mem_append.1 hy with hy | hy
 ·obtain ⟨r,hr,rfl⟩:=List.mem_map.1 hy
  obtain ⟨j,hj,rfl⟩:=List.getElem_of_mem hr
  rw [List.length_take] at hj
  rw [List.getElem_take]
  exact h.hd j (by omega) (by omega)
 ·rw [List.mem_singleton.1 hy]; exact hx
theorem Mid.next {g:Yu5} {nv:Int→Bool} {seen cur:List Bool} {row:List Yut} {i:Nat} (h:Mid g nv seen row i cur) (hi:i < row.length) (hx:ix cur row[i].sym=true) (hn:nv row[i].sym=true):Mid g nv seen row (i + 1) cur :=
 ⟨hi,h.len,h.le,fun j hj hji=>by
  rcases Nat.lt_or_ge j i with h1 | h1
  ·exact h.nl j hj h1
  ·have:j=i:=by omega
   subst this; exact hn,fun j hj hji=>by
  rcases Nat.lt_or_ge j i with h1 | h1
  ·exact h.hd j hj h1
  ·have:j=i:=by omega
   subst this; exact hx,h.cl,h.rs⟩
theorem Mid.head {g:Yu5} {nv:Int→Bool} {seen cur:List Bool} {row:List Yut} {i:Nat} (h:Mid g nv seen row i cur) (hi:i < row.length):row[i].sym ∈ Zbg nv row:=by
 rw [Zhy i row h.hi h.nl,List.drop_eq_getElem_cons hi,Zbg]
 exact List.mem_append_right _ (List.mem_cons_self ..)
theorem leads_ex {g:Yu5} (hl:Lg g) (hg:Yzm g=true) {s:Yu8} (hs:Zk7 g s):∀ (f:Nat) (seen:List Bool) (row:List Yut),seen.length=nA g→Zhf g row=true→row.length < 2 ^ 60→Zmh seen < f→∃ r,Yxg f g (Yxi g s) row seen r∧Led g (ix (Yxi g s)) seen row r:=by
 obtain ⟨hT1,hT2,hS⟩:=Zcs hg
 have hnA:nA g≤192:=by unfold nA; omega
 have hpn:=hl.p
 have hvl:(Yxi g s).length=nA g:=by simp [Yxi]
 intro f
 induction f with
 | zero=>intro seen row _ _ _ h; omega
 | succ f ih =>
  intro seen row hsl hro hrl hu
  show ∃ r,Yz8 (Yxg f) g (Yxi g s) row seen r∧_
  unfold Yz8
  generalize hnv:ix (Yxi g s)=nv
  have j2:∀ (i:Nat) (hi:i < row.length) (cur:List Bool),Yz2 row (i:Int) (Yxi g s) cur (if nv row[i].sym=true then .inl (cur,((i + 1:Nat):Int)) else .inr cur):=fun i hi cur=>by
   have hsy:=Zfe hro (List.getElem_mem hi)
   unfold Yz2
   rw [Yvv hi,hvl,hnv,Yw3 (by omega)]
   refine ⟨by unfold nA; omega,?_⟩
   cases nv row[i].sym with
   | true=>rw [if_pos rfl,if_pos rfl]; rfl
   | false=>rw [if_neg (by simp),if_neg (by simp)]
  refine Yui.some (fun (q:(List Bool) × Int)=>∃ i:Nat,q.2=(i:Int)∧Mid g nv seen row i q.1) (fun q=>row.length - q.2.toNat) (fun q hq=>?_) ⟨0,rfl,Nat.zero_le _,hsl,LeN.refl _,fun _ _ h=>absurd h (Nat.not_lt_zero _),fun _ _ h=>absurd h (Nat.not_lt_zero _),fun y h1 h2=>(by rw [h1] at h2; cases h2),fun y _ h=>.inl h⟩
  obtain ⟨cur,iI⟩:=q
  obtain ⟨i,rfl,hm⟩:=hq
  dsimp only at hm ⊢
  rcases Nat.lt_or_ge i row.length with hi | hi
  ·have hsy:=Zfe hro (List.getElem_mem hi)
   have hxl:row[i].sym.toNat < cur.length:=by rw [hm.len]; unfold nA; omega
   have fin:∀ (c:List Bool),Mid g nv seen row i c→ix c row[i].sym=true→Ywp row (Yxi g s) g (Yxg f) cur (i:Int) (if nv row[i].sym=true then .inl (c,((i + 1:Nat):Int)) else .inr c)→(∃ r,Ywp row (Yxi g s) g (Yxg f) cur (i:Int) (.inr r)∧Led g nv seen row r)∨∃ s':(List Bool) × Int,Ywp row (Yxi g s) g (Yxg f) cur (i:Int) (.inl s')∧(∃ i:Nat,s'.2=(i:Int)∧Mid g nv seen row i s'.1)∧row.length - s'.2.toNat < row.length - (i:Int).toNat:=fun c hc hx hb=>by
    cases hn:nv row[i].sym with
    | true =>
     rw [hn,if_pos rfl] at hb
     exact .inr ⟨_,hb,⟨i + 1,rfl,hc.next hi hx hn⟩,by dsimp only; omega⟩
    | false =>
     rw [hn,if_neg (by simp)] at hb
     exact .inl ⟨_,hb,hc.exit hi hx hn⟩
   cases hx:ix cur row[i].sym with
   | true =>
    refine fin cur hm hx ?_
    unfold Ywp
    rw [if_pos (by omega),Yvv hi,hm.len,hx,if_pos rfl]
    exact ⟨by omega,by unfold nA; omega,j2 i hi cur⟩
   | false =>
    have hxm:=hm.head hi
    have hset:=Zt9 hxl hx
    have hle1:=Zo9 (a:=seen) (b:=cur) (by rw [hsl,hm.len]) hm.le
    generalize hc1:cur.set row[i].sym.toNat true=cur1 at *
    have hc1l:cur1.length=nA g:=by rw [← hc1,List.length_set,hm.len]
    have hc1x:ix cur1 row[i].sym=true:=by rw [← hc1]; exact Znz hxl rfl
    have hcc:LeN cur cur1:=fun j hj=>by rw [← hc1]; exact Zmw j hj
    have hco:∀ y:Int,ix cur1 y=true→ix cur y=false→y.toNat=row[i].sym.toNat:=fun y h1 h2=>by
     refine Decidable.byContradiction fun hne=>?_
     rw [← hc1,Znt hne,h2] at h1
     cases h1
    have inner:∃ o,Yui (fun (q:(List Bool) × Int) o=>Yxm g row (i:Int) (Yxg f) (Yxi g s) q.1 q.2 o) (cur1,0) o∧∃ c,o=(if nv row[i].sym=true then .inl (c,((i + 1:Nat):Int)) else .inr c:Sum ((List Bool) × Int) (List Bool))∧Mid g nv seen row i c∧ix c row[i].sym=true:=by
     refine Yui.some (fun (q:(List Bool) × Int)=>∃ k:Nat,q.2=(k:Int)∧k≤g.prods.length∧q.1.length=nA g∧LeN cur1 q.1∧(∀ j (h:j < g.prods.length),j < k→0≤g.prods[j].lhs→xOf g g.prods[j]=row[i].sym→∀ z ∈ Zbg nv g.prods[j].rhs,ix q.1 z=true)∧(∀ y,ix q.1 y=true→ix cur1 y=false→∀ z,Hd g nv y z→ix q.1 z=true)∧(∀ y,0≤y→ix q.1 y=true→ix cur1 y=true∨Rs g nv (· ∈ Zbg nv row) y)) (fun q=>g.prods.length - q.2.toNat) (fun q hq=>?_) ⟨0,rfl,Nat.zero_le _,hc1l,LeN.refl _,fun _ _ h=>absurd h (Nat.not_lt_zero _),fun y h1 h2=>(by rw [h1] at h2; cases h2),fun y _ h=>.inl h⟩
     obtain ⟨c,kI⟩:=q
     obtain ⟨k,rfl,hk,hcl,hle,hdn,hcl2,hrs⟩:=hq
     dsimp only at *
     rcases Nat.lt_or_ge k g.prods.length with hkl | hkl
     ·right
      have hpm:=List.getElem_mem hkl
      obtain ⟨p1,p2,p3⟩:=Zeu hg hpm
      have ew:w64 (row[i].sym - (g.terms.length:Int))=row[i].sym - (g.terms.length:Int):=Yyq (by omega)
      by_cases hit:0≤g.prods[k].lhs∧xOf g g.prods[k]=row[i].sym
      ·have hun := Zo9 (a := cur1) (b := c) (by rw [hc1l, hcl]) hle
       obtain ⟨r,hr1,hr2⟩:=ih c g.prods[k].rhs hcl p3 (hl.r _ hpm) (by omega)
       rw [hnv] at hr2
       refine ⟨(r,((k + 1:Nat):Int)),?_,⟨k + 1,rfl,hkl,hr2.len,hle.trans hr2.le,fun j hj hjk h0 hxj z hz=>?_,fun y h1 h2 z hz=>?_,fun y h0 h1=>?_⟩,by dsimp only; omega⟩
       ·unfold Yxm
        rw [if_pos (by omega),Yvv hkl,Yvv hi,ew,Yw3 (by omega),if_pos (show g.prods[k].lhs≥0 from hit.1),if_pos (by have:=hit.2; unfold xOf at this; omega)]
        exact ⟨by omega,_,hr1,rfl⟩
       ·rcases Nat.lt_or_ge j k with h3 | h3
        ·exact hr2.le _ (hdn j hj h3 h0 hxj z hz)
        ·have:j=k:=by omega
         subst this
         exact hr2.hd z hz
       ·cases hcy:ix c y with
        | true=>exact hr2.le _ (hcl2 y hcy h2 z hz)
        | false=>exact hr2.cl y h1 hcy z hz
       ·rcases hr2.rs y h0 h1 with h3 | h3
        ·exact hrs y h0 h3
        ·right
         exact h3.bind fun z hz=>.step (.base hxm) ⟨_,hpm,hit.1,hit.2,hz⟩
      ·refine ⟨(c, ((k + 1 : Nat) : Int)), ?_, ⟨k + 1, rfl, hkl, hcl, hle, fun j hj hjk h0 hxj z hz => ?_, hcl2, hrs⟩, by dsimp only; omega⟩
       ·unfold Yxm
        rw [if_pos (by omega),Yvv hkl,Yvv hi,ew,Yw3 (by omega)]
        refine ⟨by omega,?_⟩
        by_cases h0:g.prods[k].lhs≥0
        ·rw [if_pos h0, if_neg (by intro e; apply hit; unfold xOf; omega)]
         rfl
        ·rw [if_neg h0]
         rfl
       ·rcases Nat.lt_or_ge j k with h3 | h3
        ·exact hdn j hj h3 h0 hxj z hz
        ·have:j=k:=by omega
         subst this
         exact absurd ⟨h0,hxj⟩ hit
     ·left
      refine ⟨_,?_,c,rfl,⟨hm.hi,hcl,(hm.le.trans hcc).trans hle,hm.nl,fun j hj hji=>hle _ (hcc _ (hm.hd j hj hji)),fun y h1 h2 z hz=>?_,fun y h0 h1=>?_⟩,hle _ hc1x⟩
      ·unfold Yxm
       rw [if_neg (by omega)]
       exact ⟨_,rfl,j2 i hi c⟩
      ·cases hcy:ix cur y with
       | true=>exact hle _ (hcc _ (hm.cl y hcy h2 z hz))
       | false =>
        cases hcy1:ix cur1 y with
        | true =>
         have e1:=hco y hcy1 hcy
         obtain ⟨p,hp,h3,h4,h5⟩:=hz
         obtain ⟨j,hj,rfl⟩:=List.getElem_of_mem hp
         have hy0:0≤y:=by rw [← h4]; unfold xOf; omega
         exact hdn j hj (by omega) h3 (by rw [h4]; omega) z h5
        | false=>exact hcl2 y h1 hcy1 z hz
      ·rcases hrs y h0 h1 with h3 | h3
       ·cases hcy:ix cur y with
        | true=>exact hm.rs y h0 hcy
        | false =>
         have e1:=hco y h3 hcy
         right
         have:y=row[i].sym:=by omega
         rw [this]
         exact .base hxm
       ·exact .inr h3
    obtain ⟨o,ho1,c,rfl,hc2,hc3⟩:=inner
    refine fin c hc2 hc3 ?_
    unfold Ywp
    rw [if_pos (by omega),Yvv hi,hm.len,hx,if_neg (by simp),hc1]
    exact ⟨by omega,by unfold nA; omega,_,rfl,ho1⟩
  ·left
   have:i=row.length:=by have:=hm.hi; omega
   subst this
   refine ⟨cur,?_,hm.done⟩
   unfold Ywp
   rw [if_neg (by omega)]
end Go.Proofs.YtadcichlnacagaaDoor.L
