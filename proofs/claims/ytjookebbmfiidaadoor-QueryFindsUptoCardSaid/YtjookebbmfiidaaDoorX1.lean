/- Queries: where patterns fit: the plain search, and the program's. Condition: sizes. -/
import Derived.Test.YtjookebbmfiidaaDoorSQ
import Derived.Test.YtjookebbmfiidaaDoorSI
set_option linter.unusedVariables false
namespace Go.Proofs.YtjookebbmfiidaaDoor.L
open Go.Proofs.YtjookebbmfiidaaDoor.B Go.Proofs.YtjookebbmfiidaaDoor.R
theorem Xd5 {t:List Ai} {i:Int}:∀ x ∈ Vs t i,0≤x∧x < (t.length:Int):=by
 intro x hx
 unfold Vs at hx
 split at hx
 ·rename_i h
  obtain ⟨⟨S,hS⟩,h1,h2⟩:=Zz.1 h
  obtain ⟨j,rfl⟩:∃ j:Nat,i=j:=⟨i.toNat,by omega⟩
  rw [Int.toNat_natCast] at hx
  obtain ⟨r,hr⟩:=At.sub hS (i:=j) (by omega)
  obtain ⟨ts,k1,k2,k3,k4,k5⟩:=(show At t j (((sub t j).1,(sub t j).2) :: r) from hr).kids (by omega)
  rw [k2,List.map_map] at hx
  obtain ⟨y,hy,rfl⟩:=List.mem_map.1 hx
  obtain ⟨q,hq,rfl⟩:=List.getElem_of_mem hy
  obtain ⟨a1,_⟩:=k1.nth (j:=q) (by rw [List.length_append]; omega)
  rw [List.getElem_append_left hq] at a1
  have:=a1.pos
  simp only [Function.comp]
  omega
 ·cases hx
theorem Xgx (t:List Ai) (i:Int):(Vs t i).length≤t.length:=by
 unfold Vs
 split
 ·rename_i h
  obtain ⟨⟨S,hS⟩,h1,h2⟩:=Zz.1 h
  obtain ⟨j,rfl⟩:∃ j:Nat,i=j:=⟨i.toNat,by omega⟩
  rw [Int.toNat_natCast]
  obtain ⟨r,hr⟩:=At.sub hS (i:=j) (by omega)
  obtain ⟨ts,k1,k2,k3,k4,k5⟩:=(show At t j (((sub t j).1,(sub t j).2) :: r) from hr).kids (by omega)
  have:=(Xca _ _ k1.2).2
  rw [List.length_append,List.length_drop] at this
  rw [List.length_map,k2,List.length_map]
  omega
 ·exact Nat.zero_le _
def alone (x:Aj) (n:Ai):Bool:=(decide (x.field=noB) || decide (x.field=n.field)) && (if x.lit=true then !n.named && decide (n.name=x.name) else decide (x.name=noB) || (n.named && decide (n.name=x.name)))
def Xbn (f:Int→Option (List Int)):List Int→Option (List Int × List Int)
 | []=>none
 | c :: cs=>match f c with
  | some l=>some (l,cs)
  | none=>Xbn f cs
def atF (t:List Ai):PF→List Int→Option (List Int)
 | .nil,_=>some []
 | .cons x k s,cs=>match Xbn (fun v=>if alone x (ix t v)=true then (atF t k (Vs t v)).map (v :: ·) else none) cs with
  | none=>none
  | some p=>(atF t s p.2).map (p.1++·)
def atN (t:List Ai) (x:Aj) (k:PF) (v:Int):Option (List Int):=if alone x (ix t v)=true then (atF t k (Vs t v)).map (v :: ·) else none
theorem Xdg (t:List Ai) (x:Aj) (k s:PF) (cs:List Int):atF t (.cons x k s) cs=match Xbn (atN t x k) cs with
  | none=>none
  | some p=>(atF t s p.2).map (p.1++·):=rfl
theorem Xcg {f:Int→Option (List Int)}:∀ {cs:List Int} {l r:List Int},Xbn f cs=some (l,r)→∃ c,c ∈ cs∧f c=some l∧∀ y ∈ r,y ∈ cs
 | [],l,r,h=>by cases h
 | c :: cs,l,r,h=>by
  unfold Xbn at h
  cases e:f c with
  | some l' =>
   rw [e] at h
   injection h with h
   injection h with h1 h2
   subst h1 h2
   exact ⟨c,List.mem_cons_self ..,e,fun y hy=>List.mem_cons_of_mem _ hy⟩
  | none =>
   rw [e] at h
   obtain ⟨c',h1,h2,h3⟩:=Xcg h
   exact ⟨c',List.mem_cons_of_mem _ h1,h2,fun y hy=>List.mem_cons_of_mem _ (h3 y hy)⟩
theorem Xew (t:List Ai):∀ (g:PF) (cs l:List Int),(∀ c ∈ cs,0≤c∧c < (t.length:Int))→atF t g cs=some l→l.length=(Dc g).length∧∀ y ∈ l,0≤y∧y < (t.length:Int)
 | .nil,cs,l,hcs,h=>by
  injection h with h
  subst h
  exact ⟨rfl,fun y hy=>by cases hy⟩
 | .cons x k s,cs,l,hcs,h=>by
  rw [Xdg] at h
  cases e:Xbn (atN t x k) cs with
  | none=>rw [e] at h; cases h
  | some p =>
   obtain ⟨l1,r⟩:=p
   rw [e] at h
   dsimp only at h
   obtain ⟨c,c1,c2,c3⟩:=Xcg e
   unfold atN at c2
   split at c2
   ·cases e2:atF t k (Vs t c) with
    | none=>rw [e2] at c2; cases c2
    | some l2 =>
     rw [e2] at c2
     injection c2 with c2
     obtain ⟨f1,f2⟩:=Xew t k _ l2 Xd5 e2
     cases e3:atF t s r with
     | none=>rw [e3] at h; cases h
     | some l3 =>
      rw [e3] at h
      injection h with h
      obtain ⟨f3,f4⟩:=Xew t s r l3 (fun y hy=>hcs y (c3 y hy)) e3
      subst h c2
      refine ⟨by simp only [List.cons_append,List.length_cons,List.length_append,Dc]; omega,fun y hy=>?_⟩
      rcases List.mem_append.1 hy with hy | hy
      ·rcases List.mem_cons.1 hy with rfl | hy
       ·exact hcs _ c1
       ·exact f2 y hy
      ·exact f4 y hy
   ·cases c2
theorem Yh {t:List Ai} {x:Aj} {k:PF} {v:Int} {l:List Int} (hv:0≤v∧v < (t.length:Int)) (h:atN t x k v=some l):l.length=(Dc k).length + 1∧(∃ l',l=v :: l')∧∀ y ∈ l,0≤y∧y < (t.length:Int):=by
 unfold atN at h
 split at h
 ·cases e:atF t k (Vs t v) with
  | none=>rw [e] at h; cases h
  | some l2 =>
   rw [e] at h
   injection h with h
   obtain ⟨f1,f2⟩:=Xew t k _ l2 Xd5 e
   subst h
   refine ⟨by rw [List.length_cons,f1],⟨_,rfl⟩,fun y hy=>?_⟩
   rcases List.mem_cons.1 hy with rfl | hy
   ·exact hv
   ·exact f2 y hy
 ·cases h
structure MI (t:List Ai) (of:List (List Int)) (kn:List Bool):Prop where
 ho:of.length=t.length
 hk:kn.length=t.length
 kids:∀ i:Nat,i < t.length→ix kn (i:Int)=true→ix of (i:Int)=Vs t (i:Int)
theorem Xl6 {α:Type} [Inhabited α] {v:List α} {i j:Nat} {y:α} (hj:j < v.length):ix (v.set i y) (j:Int)=if i=j then y else ix v (j:Int):=by
 rw [U2 (by rw [List.length_set]; exact hj),List.getElem_set,U2 hj]
theorem mkids {ns:List Aj} {t:List Ai} (hl:X5 t) (hw:Wf t) {of:List (List Int)} {kn:List Bool} (hm:MI t of kn) {v:Int} (hv:0≤v∧v < (t.length:Int)):∃ of' kn',P6 ⟨ns,t,of,kn⟩ v (Vs t v,⟨ns,t,of',kn'⟩)∧MI t of' kn':=by
 obtain ⟨i,rfl⟩:∃ i:Nat,v=(i:Int):=⟨v.toNat,by omega⟩
 obtain ⟨h3,h4,h5⟩:=hm
 have hi:i < t.length:=by omega
 unfold P6
 dsimp only
 by_cases g:ix kn (i:Int)=true
 ·refine ⟨of, kn, ⟨⟨by omega, by omega⟩, ?_⟩, ⟨h3, h4, h5⟩⟩
  rw [if_pos g]
  refine ⟨⟨by omega,by omega⟩,?_⟩
  rw [h5 i hi g]
 ·refine ⟨of.set i (Vs t (i : Int)), kn.set i true, ⟨⟨by omega, by omega⟩, ?_⟩, ⟨by rw [List.length_set]; exact h3, by rw [List.length_set]; exact h4, fun j hj hk => ?_⟩⟩
  ·rw [if_neg g]
   refine ⟨_,Kids_ok hl hw _,⟨by omega,by omega⟩,_,rfl,_,rfl,⟨by omega,by rw [List.length_set]; omega⟩,?_⟩
   rw [Int.toNat_natCast,Xl6 (by omega),if_pos rfl]
  ·rw [Xl6 (by omega)] at hk ⊢
   by_cases e:i=j
   ·rw [if_pos e,e]
   ·rw [if_neg e] at hk ⊢
    exact h5 j hj hk
theorem Xjv {ns:List Aj} (hns:ns.length≤2 ^ 20) {t:List Ai} (hl:X5 t) (hw:Wf t):∀ (n:Nat),
  (∀ (x:Aj) (k:PF) (a b:List Aj) (v:Int) (of:List (List Int)) (kn:List Bool),ns=a++x :: (Dc k++b)→Xda (.cons x k .nil)→2 * (Dc k).length + 2≤n→(0≤v∧v < (t.length:Int))→MI t of kn→∃ of' kn',Ig n ⟨ns,t,of,kn⟩ (a.length:Int) v ((atN t x k v).getD [],⟨ns,t,of',kn'⟩)∧MI t of' kn') ∧
  (∀ (g:PF) (a b:List Aj) (fo cs:List Int) (of:List (List Int)) (kn:List Bool),ns=a++(Dc g++b)→Xda g→2 * (Dc g).length + 1≤n→fo≠[]→fo.length + (Dc g).length≤2 ^ 21→cs.length≤t.length→(∀ c ∈ cs,0≤c∧c < (t.length:Int))→MI t of kn→∃ of' kn',Dl n fo (Qs g:Int) (a.length:Int) cs ⟨ns,t,of,kn⟩ (((atF t g cs).map (fo++·)).getD [],⟨ns,t,of',kn'⟩)∧MI t of' kn')
 | 0=>⟨fun x k a b v of kn h hf hn=>by omega,fun g a b fo cs of kn h hf hn=>by omega⟩
 | n + 1=>by
  obtain ⟨i1,i2⟩:=Xjv hns hl hw n
  refine ⟨fun x k a b v of kn h hf hn hv hm=>?_,fun g a b fo cs of kn h hf hn hfo hfl hcl hcs hm=>?_⟩
  ·obtain ⟨ha,hx⟩:=ix_app h
   obtain ⟨f1,f2,_⟩:=hf
   obtain ⟨of1,kn1,hk1,hk2⟩:=mkids (ns:=ns) hl hw hm hv
   have h2:ns=(a++[x])++(Dc k++b):=by rw [h]; simp
   have hal:(a++[x]).length=a.length + 1:=by simp
   have hkl:(Dc k).length≤2 ^ 20:=by
    have:=congrArg List.length h
    simp only [List.length_append,List.length_cons] at this
    omega
   obtain ⟨of2,kn2,r1,r2⟩:=i2 k (a++[x]) b [v] (Vs t v) of1 kn1 h2 f2 (by omega) (by simp) (by simp only [List.length_cons,List.length_nil]; omega) (Xgx t v) Xd5 hk2
   rw [hal] at r1
   have hgo:∃ of' kn',Dh ⟨ns,t,of,kn⟩ v (Dl n) (a.length:Int) (!alone x (ix t v)) ((atN t x k v).getD [],⟨ns,t,of',kn'⟩)∧MI t of' kn':=by
    unfold Dh atN
    cases e:alone x (ix t v) with
    | false =>
     refine ⟨of,kn,?_,hm⟩
     rw [if_pos (by rfl),if_neg (by simp)]
     rfl
    | true =>
     refine ⟨of2,kn2,?_,r2⟩
     rw [if_neg (by simp),if_pos rfl]
     refine ⟨_,hk1,(((atF t k (Vs t v)).map ([v]++·)).getD [],⟨ns,t,of2,kn2⟩),?_,rfl⟩
     dsimp only
     rw [hx,f1,Dk (by omega)]
     exact r1
   obtain ⟨of',kn',g1,g2⟩:=hgo
   refine ⟨of',kn',?_,g2⟩
   show Jp (Dl n) (Ig n) ⟨ns,t,of,kn⟩ (a.length:Int) v _
   unfold Jp
   dsimp only
   rw [hx]
   refine ⟨⟨by omega,by omega⟩,hv,?_⟩
   unfold alone at g1
   have hfin:∀ bb:Bool,Dh ⟨ns,t,of,kn⟩ v (Dl n) (a.length:Int) (!((decide (x.field=noB) || decide (x.field=(ix t v).field)) && bb)) ((atN t x k v).getD [],⟨ns,t,of',kn'⟩)→bb=true→(if x.field=noB then Dh ⟨ns,t,of,kn⟩ v (Dl n) (a.length:Int) false ((atN t x k v).getD [],⟨ns,t,of',kn'⟩) else Dh ⟨ns,t,of,kn⟩ v (Dl n) (a.length:Int) (!(seq x.field (ix t v).field)) ((atN t x k v).getD [],⟨ns,t,of',kn'⟩)):=fun bb h1 h2=>by
    subst h2
    rw [Bool.and_true] at h1
    by_cases gf:x.field=noB
    ·rw [if_pos gf]
     rw [decide_eq_true gf] at h1
     exact h1
    ·rw [if_neg gf,Ur]
     rw [decide_eq_false gf,Bool.false_or] at h1
     exact h1
   have hbad:∀ bb:Bool,Dh ⟨ns,t,of,kn⟩ v (Dl n) (a.length:Int) (!((decide (x.field=noB) || decide (x.field=(ix t v).field)) && bb)) ((atN t x k v).getD [],⟨ns,t,of',kn'⟩)→bb=false→Dh ⟨ns,t,of,kn⟩ v (Dl n) (a.length:Int) true ((atN t x k v).getD [],⟨ns,t,of',kn'⟩):=fun bb h1 h2=>by
    subst h2
    rw [Bool.and_false] at h1
    exact h1
   by_cases gl:x.lit=true
   ·rw [if_pos gl]
    rw [if_pos gl] at g1
    by_cases gn:(ix t v).named=true
    ·rw [if_pos gn]
     exact hbad _ g1 (by rw [gn]; rfl)
    ·have gn':(ix t v).named=false:=by simpa using gn
     rw [if_neg gn]
     by_cases gm:(ix t v).name=x.name
     ·rw [if_pos gm]
      exact hfin _ g1 (by rw [gn',decide_eq_true gm]; rfl)
     ·rw [if_neg gm]
      exact hbad _ g1 (by rw [decide_eq_false gm,Bool.and_false])
   ·rw [if_neg gl]
    rw [if_neg gl] at g1
    by_cases g0:x.name=noB
    ·rw [if_pos g0]
     exact hfin _ g1 (by rw [decide_eq_true g0]; rfl)
    ·rw [if_neg g0]
     by_cases gn:(ix t v).named=true
     ·rw [if_pos gn]
      by_cases gm:(ix t v).name=x.name
      ·rw [if_pos gm]
       exact hfin _ g1 (by rw [gn,decide_eq_true gm,Bool.and_self,Bool.or_true])
      ·rw [if_neg gm]
       exact hbad _ g1 (by rw [decide_eq_false g0,decide_eq_false gm,Bool.and_false,Bool.or_false])
     ·have gn':(ix t v).named=false:=by simpa using gn
      rw [if_neg gn]
      exact hbad _ g1 (by rw [decide_eq_false g0,gn',Bool.false_and,Bool.or_false])
  ·have hb : ∀ r, (if (Qs g : Int) = 0 then (fo ≠ []) ∧ r = (fo, (⟨ns, t, of, kn⟩ : Az)) else Ar (fun (s : Int × (List (List Int)) × (List Bool)) o => Eu cs (Ig n) ⟨ns, t, of, kn⟩ (a.length : Int) fo (Dl n) (Qs g : Int) s.1 s.2.1 s.2.2 o) (0, of, kn) r) → Dl (n + 1) fo (Qs g : Int) (a.length : Int) cs ⟨ns, t, of, kn⟩ r := fun r h => h
   cases g with
   | nil =>
    refine ⟨of,kn,hb _ ?_,hm⟩
    refine (if_pos (show ((Qs PF.nil:Nat):Int)=0 from rfl)).mpr ⟨hfo,?_⟩
    show ((fo++[]),(⟨ns,t,of,kn⟩:Az))=_
    rw [List.append_nil]
   | cons x k s =>
    obtain ⟨f1,f2,f3⟩:=hf
    have hlen:(Dc (.cons x k s)).length=(Dc k).length + 1 + (Dc s).length:=by simp only [Dc,List.length_cons,List.length_append]; omega
    have h1:ns=a++x :: (Dc k++(Dc s++b)):=by rw [h]; simp [Dc]
    have hcp:=Xi4 s
    have hal20:a.length≤2 ^ 20:=by
     have:=congrArg List.length h1
     rw [List.length_append] at this
     omega
    have key:∀ (d i:Nat) (of1:List (List Int)) (kn1:List Bool),cs.length - i=d→i≤cs.length→MI t of1 kn1→∃ of' kn',Ar (fun (s':Int × (List (List Int)) × (List Bool)) o=>Eu cs (Ig n) ⟨ns,t,of,kn⟩ (a.length:Int) fo (Dl n) (Qs (.cons x k s):Int) s'.1 s'.2.1 s'.2.2 o) ((i:Int),of1,kn1) (((atF t (.cons x k s) (cs.drop i)).map (fo++·)).getD [],⟨ns,t,of',kn'⟩)∧MI t of' kn':=by
     intro d
     induction d with
     | zero =>
      intro i of1 kn1 hd hi hm1
      have hi':i=cs.length:=by omega
      refine ⟨of1,kn1,.done ?_,hm1⟩
      dsimp only
      unfold Eu
      rw [if_neg (by omega),hi',List.drop_length]
      rfl
     | succ d ih =>
      intro i of1 kn1 hd hi hm1
      have hlt:i < cs.length:=by omega
      have hix:=U2 hlt
      have hdr:cs.drop i=cs[i] :: cs.drop (i + 1):=List.drop_eq_getElem_cons hlt
      obtain ⟨of2,kn2,q1,q2⟩:=i1 x k a (Dc s++b) cs[i] of1 kn1 h1 ⟨f1,f2,trivial⟩ (by omega) (hcs _ (List.getElem_mem hlt)) hm1
      have hb1:∀ oo,(∀ b472:Bool,(b472=true↔(atN t x k cs[i]).getD []=[]) →
  if b472=true then
   oo=.inl (w64 ((i:Int) + 1),of2,kn2)
  else
   ∃ x478:List Int,(x478=fo++(atN t x k cs[i]).getD []) ∧
   (x478.length * 8≤211106232532992) ∧
   (0≤w64 ((i:Int) + 1)∧w64 ((i:Int) + 1)≤(cs.length:Int)∧(cs.length:Int)≤(cs.length:Int)) ∧
   ∃ r486:(List Int) × Az,(Dl n x478 (w64 ((Qs (.cons x k s):Int) - 1)) (w64 ((a.length:Int) + (((atN t x k cs[i]).getD []).length:Int))) (cs.drop (w64 ((i:Int) + 1):Int).toNat) ⟨ns,t,of2,kn2⟩ r486) ∧
   oo=.inr ((r486.1,(⟨ns,t,r486.2.of,r486.2.known⟩:Az))))→Eu cs (Ig n) ⟨ns,t,of,kn⟩ (a.length:Int) fo (Dl n) (Qs (.cons x k s):Int) (i:Int) of1 kn1 oo:=fun oo h=>by
       unfold Eu
       rw [if_pos (by omega),hix]
       exact ⟨⟨by omega,by omega⟩,_,q1,h⟩
      rw [hdr,Xdg]
      unfold Xbn
      cases e:atN t x k cs[i] with
      | none =>
       rw [e] at hb1
       obtain ⟨of3,kn3,u1,u2⟩:=ih (i + 1) of2 kn2 (by omega) (by omega) q2
       refine ⟨of3,kn3,.next (hb1 (.inl (((i + 1:Nat):Int),of2,kn2)) (fun bb hbb=>?_)) ?_,u2⟩
       ·rw [hbb.2 rfl, if_pos rfl, Dk (by have := hl; omega)]
        rfl
       ·rw [Xdg] at u1
        exact u1
      | some l =>
       rw [e] at hb1
       obtain ⟨l1,⟨l',l2⟩,l3⟩:=Yh (hcs _ (List.getElem_mem hlt)) e
       have h3:ns=(a++x :: Dc k)++(Dc s++b):=by rw [h1]; simp
       have hal:(a++x :: Dc k).length=a.length + l.length:=by simp only [List.length_append,List.length_cons]; omega
       have hfb:=hl
       obtain ⟨of3,kn3,u1,u2⟩:=i2 s (a++x :: Dc k) b (fo++l) (cs.drop (i + 1)) of2 kn2 h3 f3 (by omega) (by rw [l2]; simp) (by rw [List.length_append]; omega) (by rw [List.length_drop]; omega) (fun c hc=>hcs c (List.mem_of_mem_drop hc)) q2
       rw [hal] at u1
       refine ⟨of3,kn3,.done (hb1 _ (fun bb hbb=>?_)),u2⟩
       have hbf:bb=false:=by
        cases bb with
        | false=>rfl
        | true=>have:=hbb.1 rfl; rw [l2] at this; cases this
       rw [hbf,if_neg (by simp)]
       have ew:w64 ((i:Int) + 1)=((i + 1:Nat):Int):=by rw [Dk (by omega)]; rfl
       rw [ew,Int.toNat_natCast]
       refine ⟨_,rfl,by show (fo++l).length * 8≤_; rw [List.length_append]; omega,⟨by omega,by omega,Int.le_refl _⟩,(((atF t s (cs.drop (i + 1))).map ((fo++l)++·)).getD [],⟨ns,t,of3,kn3⟩),?_,?_⟩
       ·show Dl n (fo++l) (w64 (((Qs s + 1:Nat):Int) - 1)) (w64 ((a.length:Int) + (l.length:Int))) _ _ _
        rw [Dk (x:=((Qs s + 1:Nat):Int) - 1) (by omega),Dk (by omega),show ((Qs s + 1:Nat):Int) - 1=(Qs s:Int) by omega]
        exact u1
       ·dsimp only
        cases atF t s (cs.drop (i + 1)) with
        | none=>rfl
        | some l4=>simp
    obtain ⟨of',kn',r1,r2⟩:=key cs.length 0 of kn rfl (Nat.zero_le _) hm
    refine ⟨of',kn',hb _ ?_,r2⟩
    exact (if_neg (show ¬ ((Qs (.cons x k s):Nat):Int)=0 by simp only [Qs]; omega)).mpr r1
end Go.Proofs.YtjookebbmfiidaaDoor.L
