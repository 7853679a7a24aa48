/- Queries: where patterns fit, by the document; its All. Condition: sizes. -/
import Derived.Test.YtjookebbmfiidaaDoorX9
import Derived.Test.YtjookebbmfiidaaDoorSI
set_option linter.unusedVariables false
namespace Go.Proofs.YtjookebbmfiidaaDoor.L
open Go.Proofs.YtjookebbmfiidaaDoor.B Go.Proofs.YtjookebbmfiidaaDoor.R
theorem find_atQ {t:List Ai} (hl:X5 t) (i:Int):∃ l ok p,H5 t (l,ok)∧((inB t i=false∧Qm l i (-1) (Xaf,-1,false))∨(inB t i=true∧Qm l i (-1) ((sub t i.toNat).1,p,true))):=by
 cases h:sf t 0 with
 | none =>
  refine ⟨_,_,0,Xh1 hl h,.inl ⟨?_,find_nil _ _⟩⟩
  unfold inB; rw [h]; rfl
 | some S =>
  have hA:At t 0 S:=⟨Nat.zero_le _,h⟩
  obtain ⟨g1,g2⟩:=find_ok hl _ 0 hA (Nat.le_refl _) (Nat.lt_succ_self _)
  rw [List.take_length,hA.ens] at g1 g2
  by_cases hi:0≤i∧i < (t.length:Int)
  ·obtain ⟨j, rfl⟩ : ∃ j : Nat, i = j := ⟨i.toNat, by omega⟩
   obtain ⟨x,e,r,q,q1,q2,q3⟩:=g2 j (-1) (by omega) (by omega)
   refine ⟨_,_,q,Xeb hl h,.inr ⟨Zz.2 ⟨⟨S,h⟩,hi.1,hi.2⟩,?_⟩⟩
   rw [Int.toNat_natCast,Xk7 q1]
   exact ⟨_,q3⟩
  ·refine ⟨_, _, 0, Xeb hl h, .inl ⟨?_, _, g1 i (-1) (by omega)⟩⟩
   cases hb:inB t i with
   | false=>rfl
   | true=>exact absurd (Zz.1 hb).2 hi
theorem Xj4 {t:List Ai} (hl:X5 t) (i:Int):U4 t i (Vs t i):=by
 obtain ⟨l,ok,p,h1,⟨h2,h3⟩ | ⟨h2,h3⟩⟩:=find_atQ hl i
 ·refine ⟨_,h1,_,h3,?_⟩
  unfold Vs
  rw [h2,if_neg (by simp)]
  exact Xf9 (x:=Xaf) (by simp [Xaf])
 ·refine ⟨_,h1,_,h3,?_⟩
  unfold Vs
  rw [if_pos h2]
  exact Xf9 (by have:=kids_len h2; omega)
theorem Xjb (x:Aj) (n:Ai):Om x n (alone x n):=by
 have hj:∀ b:Bool,J8 x n b (!b && (if x.lit=true then !n.named && decide (n.name=x.name) else decide (x.name=noB) || (n.named && decide (n.name=x.name)))):=fun b=>by
  unfold J8
  cases b with
  | true=>rw [if_pos rfl]; rfl
  | false =>
   rw [if_neg (by simp)]
   by_cases gl:x.lit=true
   ·rw [if_pos gl,if_pos gl]
    by_cases gn:n.named=true
    ·rw [if_pos gn,gn]; rfl
    ·have gn':n.named=false:=by simpa using gn
     rw [if_neg gn,gn',Ur]; rfl
   ·rw [if_neg gl,if_neg gl]
    by_cases g0:x.name=noB
    ·rw [if_pos g0,decide_eq_true g0]; rfl
    ·rw [if_neg g0,decide_eq_false g0]
     by_cases gn:n.named=true
     ·rw [if_pos gn,gn,Ur]; simp
     ·have gn':n.named=false:=by simpa using gn
      rw [if_neg gn,gn']; rfl
 unfold Om alone
 by_cases gf:x.field=noB
 ·rw [if_pos gf,decide_eq_true gf]
  exact hj false
 ·rw [if_neg gf,decide_eq_false gf,Bool.false_or,Ur]
  have:=hj (!decide (x.field=n.field))
  rw [Bool.not_not] at this
  exact this
theorem rcopy {ns:List Aj} (hns:ns.length≤32) {fd row:List Int} {p:Nat} (hp:p≤ns.length) {fr j:Nat} (h:row.length + fd.length≤2 ^ 40) (hj:j≤2 ^ 40):Ar (fun (s:(List Int) × Int) o=>Ic fd ns (p:Int) (fr:Int) (j:Int) s.1 s.2 o) (row,0) (.inr (.inl (row++fd,(fr:Int),Wy ns p,((j + 1:Nat):Int)))):=by
 have key:∀ (d m:Nat),fd.length - m=d→m≤fd.length→Ar (fun (s:(List Int) × Int) o=>Ic fd ns (p:Int) (fr:Int) (j:Int) s.1 s.2 o) (row++fd.take m,(m:Int)) (.inr (.inl (row++fd,(fr:Int),Wy ns p,((j + 1:Nat):Int)))):=by
  intro d
  induction d with
  | zero =>
   intro m hd hm
   have:m=fd.length:=by omega
   subst this
   refine .done ?_
   dsimp only
   unfold Ic
   rw [if_neg (Int.lt_irrefl _),List.take_length,Dk (by omega)]
   exact ⟨_,Xh2 hns hp,rfl⟩
  | succ d ih =>
   intro m hd hm
   have hlt:m < fd.length:=by omega
   refine .next ?_ (ih (m + 1) (by omega) (by omega))
   dsimp only
   unfold Ic
   rw [if_pos (by omega),U2 hlt]
   refine ⟨⟨by omega,by omega⟩,_,rfl,by rw [List.length_append,List.length_append,List.length_take,List.length_cons,List.length_nil]; omega,?_⟩
   rw [Dk (by omega),List.take_succ_eq_append_getElem hlt,List.append_assoc]
   rfl
 have:=key fd.length 0 rfl (Nat.zero_le _)
 rw [List.take_zero,List.append_nil] at this
 exact this
theorem refAt {ns:List Aj} (hns:ns.length≤32) {t:List Ai} (hl:X5 t):∀ (n:Nat) (x:Aj) (k:PF) (a b:List Aj) (v:Int),ns=a++x :: (Dc k++b)→Xda (.cons x k .nil)→(Dc k).length + 1≤n→(0≤v∧v < (t.length:Int))→Gp n ns (a.length:Int) t v ((atN t x k v).getD [])
 | 0,x,k,a,b,v,h,hf,hn,hv=>by omega
 | n + 1,x,k,a,b,v,h,hf,hn,hv=>by
  have hft:=hl
  obtain ⟨ha,hx⟩:=ix_app h
  obtain ⟨f1,f2,_⟩:=hf
  have hnl:=congrArg List.length h
  simp only [List.length_append,List.length_cons] at hnl
  show Md (Gp n) ns (a.length:Int) t v _
  unfold Md atN
  rw [hx]
  refine ⟨⟨by omega,by omega⟩,hv,_,Xjb x (ix t v),?_⟩
  by_cases g:alone x (ix t v)=true
  ·rw [if_pos g,if_pos g]
   refine ⟨_,Xj4 hl v,?_⟩
   have hkl:=Xgx t v
   have hkm:=fun c (hc:c ∈ Vs t v)=>Xd5 c hc
   generalize Vs t v=cs at hkl hkm ⊢
   -- one part's search
   have search:∀ (y:Aj) (ky:PF) (A B:List Aj) (row:List Int) (j:Nat),ns=A++y :: (Dc ky++B)→Xda (.cons y ky .nil)→(Dc ky).length + 1≤n→row.length≤2 ^ 20→j≤2 ^ 20→∀ (d i:Nat),cs.length - i=d→i≤cs.length→match Xbn (atN t y ky) (cs.drop i) with
    | some p=>∃ i':Nat,i'≤cs.length∧p.2=cs.drop i'∧Ar (fun (z:Int × (List Int)) o=>Fz cs (Gp n) ns (A.length:Int) t (j:Int) row z.1 z.2 o) ((i:Int),[]) (.inl (row++p.1,(i':Int),((A.length + 1 + (Dc ky).length:Nat):Int),((j + 1:Nat):Int)))
    | none=>Ar (fun (z:Int × (List Int)) o=>Fz cs (Gp n) ns (A.length:Int) t (j:Int) row z.1 z.2 o) ((i:Int),[]) (.inr []):=by
    intro y ky A B row j hA hfy hny hrow hj d
    have hAl:=congrArg List.length hA
    simp only [List.length_append,List.length_cons] at hAl
    have hbeh:=Xln hA hfy
    induction d with
    | zero =>
     intro i hd hi
     have:i=cs.length:=by omega
     subst this
     rw [List.drop_length]
     refine .done ?_
     dsimp only
     unfold Fz
     rw [if_neg (Int.lt_irrefl _),if_pos (by rfl)]
    | succ d ih =>
     intro i hd hi
     have hlt:i < cs.length:=by omega
     have hix:=U2 hlt
     have hc:=hkm _ (List.getElem_mem hlt)
     have hstep:Fz cs (Gp n) ns (A.length:Int) t (j:Int) row (i:Int) [] (.inl (((i + 1:Nat):Int),(atN t y ky cs[i]).getD [])):=by
      unfold Fz
      rw [if_pos (by omega),if_pos (by rfl),hix]
      refine ⟨⟨by omega,by omega⟩,_,refAt hns hl n y ky A B cs[i] hA hfy hny hc,?_⟩
      rw [Dk (by omega)]
      rfl
     rw [List.drop_eq_getElem_cons hlt]
     unfold Xbn
     cases e:atN t y ky cs[i] with
     | none =>
      rw [e] at hstep
      have h:=ih (i + 1) (by omega) (by omega)
      dsimp only
      cases e2:Xbn (atN t y ky) (cs.drop (i + 1)) with
      | none =>
       rw [e2] at h
       exact .next hstep h
      | some p =>
       rw [e2] at h
       obtain ⟨i',h1,h2,h3⟩:=h
       exact ⟨i',h1,h2,.next hstep h3⟩
     | some l =>
      rw [e] at hstep
      obtain ⟨l1,⟨l',l2⟩,_⟩:=Yh hc e
      refine ⟨i + 1,by omega,rfl,.next hstep (.done ?_)⟩
      dsimp only [Option.getD]
      have hne:¬ (l.length:Int)=0:=by rw [l1]; omega
      have hcp:=rcopy (ns:=ns) hns (fd:=l) (row:=row) (p:=A.length) (by omega) (fr:=i + 1) (j:=j) (by omega) (by omega)
      rw [hbeh] at hcp
      unfold Fz
      by_cases g:((i + 1:Nat):Int) < (cs.length:Int)
      ·rw [if_pos g,if_neg hne]
       exact hcp
      ·rw [if_neg g,if_neg hne]
       exact hcp
   -- all parts
   have parts:∀ (g:PF) (A B:List Aj) (row:List Int) (i j:Nat),ns=A++(Dc g++B)→Xda g→(Dc g).length≤n→i≤cs.length→row.length + (Dc g).length≤2 ^ 20→(j:Int) + (Qs g:Int)=x.kids→j + Qs g≤2 ^ 20→Ar (fun (s:(List Int) × Int × Int × Int) o=>Ib ns (a.length:Int) cs (Gp n) t s.1 s.2.1 s.2.2.1 s.2.2.2 o) (row,(i:Int),(A.length:Int),(j:Int)) (((atF t g (cs.drop i)).map (row++·)).getD []):=by
    intro g
    induction g with
    | nil =>
     intro A B row i j hA hfg hng hi hrow hj hj2
     refine .done ?_
     dsimp only
     unfold Ib
     rw [hx,if_neg (by have:Qs PF.nil=0:=rfl; omega)]
     show Sum.inr (row++[])=_
     rw [List.append_nil]
    | cons y ky s _ ihs =>
     intro A B row i j hA hfg hng hi hrow hj hj2
     obtain ⟨g1,g2,g3⟩:=hfg
     have e0:(Dc (.cons y ky s)).length=(Dc ky).length + 1 + (Dc s).length:=by simp only [Dc,List.length_append,List.length_cons]; omega
     have ec:Qs (.cons y ky s)=Qs s + 1:=rfl
     have hA1:ns=A++y :: (Dc ky++(Dc s++B)):=by rw [hA]; simp [Dc]
     have hA2:ns=(A++y :: Dc ky)++(Dc s++B):=by rw [hA]; simp [Dc]
     have hs:=search y ky A (Dc s++B) row j hA1 ⟨g1,g2,trivial⟩ (by omega) (by omega) (by omega) (cs.length - i) i rfl hi
     have hb:∀ o,Ar (fun (z:Int × (List Int)) o=>Fz cs (Gp n) ns (A.length:Int) t (j:Int) row z.1 z.2 o) ((i:Int),[]) o→Ib ns (a.length:Int) cs (Gp n) t row (i:Int) (A.length:Int) (j:Int) o:=fun o h=>by
      unfold Ib
      rw [hx,if_pos (by omega)]
      exact h
     rw [Xdg]
     cases e:Xbn (atN t y ky) (cs.drop i) with
     | none =>
      rw [e] at hs
      exact .done (hb _ hs)
     | some p =>
      rw [e] at hs
      obtain ⟨i',i1,i2,i3⟩:=hs
      obtain ⟨l,rest⟩:=p
      dsimp only at i2 i3 ⊢
      obtain ⟨c,c1,c2,_⟩:=Xcg e
      obtain ⟨l1,_,_⟩:=Yh (hkm c (List.mem_of_mem_drop c1)) c2
      have h:=ihs (A++y :: Dc ky) B (row++l) i' (j + 1) hA2 g3 (by omega) i1 (by rw [List.length_append]; omega) (by omega) (by omega)
      rw [← i2] at h
      have e3:((A++y :: Dc ky).length:Int)=((A.length + 1 + (Dc ky).length:Nat):Int):=by rw [List.length_append,List.length_cons]; omega
      rw [e3] at h
      refine .next (hb _ i3) ?_
      have e4:((atF t s rest).map (l++·)).map (row++·)=(atF t s rest).map ((row++l)++·):=by
       cases atF t s rest with
       | none=>rfl
       | some l'=>simp
      rw [e4]
      exact h
   have h2:ns=(a++[x])++(Dc k++b):=by rw [h]; simp
   have hal:((a++[x]).length:Int)=w64 ((a.length:Int) + 1):=by rw [Dk (by omega)]; simp
   have hck:=Xi4 k
   have:=parts k (a++[x]) b [v] 0 0 h2 f2 (by omega) (Nat.zero_le _) (by simp only [List.length_cons,List.length_nil]; omega) (by rw [f1]; omega) (by omega)
   rw [hal,List.drop_zero] at this
   exact this
  ·rw [if_neg g,if_neg g]
   rfl
theorem Xl0 (n:Ai) (s:ByteArray):Na n s (covB n s):=lcov_ok n s
theorem holds_ok {q:Aq} {t:List Ai} {s:ByteArray} {l:List Int} (hq:q.nodes.length≤2 ^ 40) (hcl:q.conds.length≤2 ^ 40) (hl:l.length=q.nodes.length) (hr:Xjy t l) (hc:q.conds.all (U7 q.nodes)=true):S9 q t s l (!q.conds.any (Xb3 q.nodes t s l)):=by
 have e:(!q.conds.any (Xb3 q.nodes t s l))=q.conds.all (fun c=>!Xb3 q.nodes t s l c):=by
  rw [List.not_any_eq_all_not]
 rw [e]
 have step:∀ (j:Nat) (hj:j < q.conds.length) (o:Sum Int Bool),o=(if Xb3 q.nodes t s l q.conds[j]=true then .inr false else .inl ((j:Int) + 1))→I5 q l t s (j:Int) o:=fun j hj o ho=>by
  have hcj:=List.all_eq_true.1 hc _ (List.getElem_mem hj)
  unfold U7 at hcj
  simp only [Bool.and_eq_true,Bool.or_eq_true,decide_eq_true_eq] at hcj
  obtain ⟨c1,c2⟩:=hcj
  have hix:=U2 hj
  have hin:∀ c,0≤Qu c q.nodes→(0≤ix l (Qu c q.nodes)∧ix l (Qu c q.nodes) < (t.length:Int)):=fun c h=>by
   have h1:=Xit (ns:=q.nodes) (c:=c)
   have hm:=hr _ (Xap (v:=l) (i:=(Qu c q.nodes).toNat) (by omega))
   rwa [Int.toNat_of_nonneg h] at hm
  have hlt:∀ c,Qu c q.nodes < (l.length:Int):=fun c=>by
   have h1:=Xit (ns:=q.nodes) (c:=c)
   omega
  have j2:∀ b:ByteArray,Xfx q.nodes t s l q.conds[j]=b→J9 (covB (ix t (ix l (Qu q.conds[j].a q.nodes))) s) q (j:Int) b o:=fun b hb=>by
   unfold J9
   rw [hix,ho]
   unfold Xb3 Xk3
   rw [hb,Ur,Dk (by omega)]
   cases (decide (covB (ix t (ix l (Qu q.conds[j].a q.nodes))) s=b) == q.conds[j].not)
   ·rw [if_neg (by simp),if_neg (by simp)]
   ·rw [if_pos rfl,if_pos rfl]
  unfold I5
  rw [if_pos (by omega),hix]
  refine ⟨⟨by omega,by omega⟩,_,Xin hq q.conds _,⟨c1,hlt _⟩,hin _ c1,_,Xl0 _ _,?_⟩
  by_cases g:q.conds[j].b=noB
  ·rw [if_pos g]
   exact j2 _ (by unfold Xfx; rw [if_pos g])
  ·rw [if_neg g]
   have c3:=(c2.resolve_left g).1
   exact ⟨_,Xin hq q.conds _,⟨c3,hlt _⟩,hin _ c3,_,Xl0 _ _,j2 _ (by unfold Xfx Xk3; rw [if_neg g])⟩
 refine Ar.all q.conds (fun c=>!Xb3 q.nodes t s l c) (fun j hj hp=>step j hj _ ?_) (fun j hj hp=>step j hj _ ?_) ?_
 ·rw [if_neg (by simpa using hp)]
 ·rw [if_pos (by simpa using hp)]
 ·unfold I5
  rw [if_neg (Int.lt_irrefl _)]
theorem Xko {x:Aj} {k:PF} {cs:List D8} (h:Xj nmQ x k cs) (hz:SzQ ⟨x :: Dc k,cs⟩) {t:List Ai} (hl:X5 t) (hr:0≤numF t) (s:ByteArray):Ir ⟨x :: Dc k,cs⟩ t s (allF x k cs t s):=by
 have hsh:=Xgf h
 have hft:=hl
 obtain ⟨hl1,hl2⟩:=h.len
 have hnl:(x :: Dc k).length≤32:=by rw [List.length_cons]; omega
 refine ⟨true,by rw [← hsh]; exact Xdt hz,?_⟩
 rw [if_pos rfl]
 refine ⟨_,Xf1 hl,?_⟩
 unfold J5
 rw [decide_eq_false (by omega),if_neg (by simp)]
 have hcond:cs.all (U7 (x :: Dc k))=true:=by
  have:=hsh
  unfold Qh at this
  simp only [Bool.and_eq_true] at this
  exact this.2.2.2.2
 have hlen:∀ i,((List.range i).filterMap (V4 (x :: Dc k) cs t s x k)).length≤i:=fun i=>by
  have:=List.length_filterMap_le (V4 (x :: Dc k) cs t s x k) (List.range i)
  rwa [List.length_range] at this
 have key:∀ (d i:Nat),t.length - i=d→i≤t.length→Ar (fun (z:(List Be) × Int) o=>Hz t ⟨x :: Dc k,cs⟩ s z.1 z.2 o) ((List.range i).filterMap (V4 (x :: Dc k) cs t s x k),(i:Int)) (allF x k cs t s):=by
  intro d
  induction d with
  | zero =>
   intro i hd hi
   have:i=t.length:=by omega
   subst this
   refine .done ?_
   dsimp only
   unfold Hz
   rw [if_neg (Int.lt_irrefl _)]
   rfl
  | succ d ih =>
   intro i hd hi
   have hlt:i < t.length:=by omega
   have hli:=hlen i
   have hn:=ih (i + 1) (by omega) (by omega)
   rw [List.range_succ,List.filterMap_append] at hn
   have ew:w64 ((i:Int) + 1)=((i + 1:Nat):Int):=by rw [Dk (by omega)]; rfl
   have hat:Y1 (x :: Dc k) 0 t (i:Int) ((atN t x k (i:Int)).getD []):=⟨_,refAt hnl hl ((Dc k).length + 1) x k [] [] (i:Int) (by simp) h.1 (Nat.le_refl _) ⟨by omega,by omega⟩⟩
   have hst:V4 (x :: Dc k) cs t s x k i=(match atN t x k (i:Int) with
    | none=>none
    | some l=>if cs.any (Xb3 (x :: Dc k) t s l)=true then none else some ⟨l⟩):=rfl
   cases e:atN t x k (i:Int) with
   | none =>
    rw [e] at hst hat
    have e2:List.filterMap (V4 (x :: Dc k) cs t s x k) [i]=[]:=by simp [hst]
    rw [e2,List.append_nil] at hn
    refine .next ?_ hn
    dsimp only
    unfold Hz
    rw [if_pos (by omega),ew]
    refine ⟨_,hat,?_⟩
    rw [if_neg (by simp)]
   | some l =>
    rw [e] at hst hat
    obtain ⟨l1,⟨l',l2⟩,l3⟩:=Yh (x:=x) (k:=k) ⟨Int.natCast_nonneg i,by omega⟩ e
    have hh:=holds_ok (q:=⟨x :: Dc k,cs⟩) (s:=s) (by show (x :: Dc k).length≤_; omega) (by show cs.length≤_; omega) (by show l.length=(x :: Dc k).length; rw [List.length_cons]; omega) l3 hcond
    refine .next (s':=((List.range (i + 1)).filterMap (V4 (x :: Dc k) cs t s x k),((i + 1:Nat):Int))) ?_ (by rw [List.range_succ,List.filterMap_append]; exact hn)
    dsimp only
    unfold Hz
    rw [if_pos (by omega),ew]
    refine ⟨_,hat,?_⟩
    rw [if_pos (by show ((l.length:Nat):Int) > 0; omega)]
    refine ⟨_,hh,?_⟩
    rw [List.range_succ,List.filterMap_append]
    show if (!cs.any (Xb3 (x :: Dc k) t s l))=true then _ else _
    dsimp only at hst
    cases ea:cs.any (Xb3 (x :: Dc k) t s l) with
    | true =>
     rw [if_pos ea] at hst
     have e2:List.filterMap (V4 (x :: Dc k) cs t s x k) [i]=[]:=by simp [hst]
     rw [if_neg (by simp),e2,List.append_nil]
    | false =>
     rw [if_neg (by rw [ea]; simp)] at hst
     have e2:List.filterMap (V4 (x :: Dc k) cs t s x k) [i]=[⟨l⟩]:=by simp [hst]
     rw [if_pos (by simp),e2]
     exact ⟨_,rfl,by rw [List.length_append,List.length_cons,List.length_nil]; omega,rfl⟩
 exact key t.length 0 rfl (Nat.zero_le _)
theorem Xll {q:Aq} (hz:SzQ q) {t:List Ai} (hl:X5 t) (h:Qh q=false∨numF t < 0) (s:ByteArray):Ir q t s []:=by
 refine ⟨_,Xdt hz,?_⟩
 have hj:J5 t q s true []:=by
  unfold J5
  rw [if_pos rfl]
 cases e:Qh q with
 | false =>
  rw [if_neg (by simp)]
  exact hj
 | true =>
  rw [if_pos rfl]
  refine ⟨_,Xf1 hl,?_⟩
  rw [decide_eq_true (h.resolve_left (by rw [e]; simp))]
  exact hj
theorem Xjm {q:Aq} (hz:SzQ q) {t:List Ai} (hl:X5 t) (hw:Wf t) (s:ByteArray):∃ L:List Be,Rh q t s L∧Ir q t s L∧L.length≤t.length∧∀ f ∈ L,f.nodes.length≤32:=by
 by_cases h:Qh q=false∨numF t < 0
 ·exact ⟨[],all_no hz.w hl hw h s,Xll hz hl h s,Nat.zero_le _,fun f hf=>by cases hf⟩
 ·have e:Qh q=true:=by
   cases e:Qh q with
   | true=>rfl
   | false=>exact absurd (.inl e) h
  have hr:0≤numF t:=by
   have:=fun g=>h (.inr g)
   omega
  obtain ⟨x,k,e1,e2⟩:=Xfq e
  obtain ⟨ns,cs⟩:=q
  dsimp only at e1 e2
  subst e1
  have hl1:=e2.len.1
  exact ⟨_,all_yes e2 hz.w hl hw hr s,Xko e2 hz hl hr s,allF_len x k cs t s,fun f hf=>by
   have:=(allF_mem hf).1
   rw [List.length_cons] at this
   omega⟩
end Go.Proofs.YtjookebbmfiidaaDoor.L
