/- Queries: conditions only leave out: the law QueryConds. Condition: sizes. -/
import Derived.Test.YtjookebbmfiidaaDoorX6
set_option linter.unusedVariables false
namespace Go.Proofs.YtjookebbmfiidaaDoor.L
open Go.Proofs.YtjookebbmfiidaaDoor.B Go.Proofs.YtjookebbmfiidaaDoor.R
theorem Xjz {q:Ar} (hq:q.nodes.length≤2 ^ 40) (c:ByteArray):Ny q c (Qh c q.nodes):=rnodeD hq q.conds c
theorem Xmh (n:Az) (s:ByteArray):Jc n s (covB n s):=by
 have key:∀ a b:Int,a=max n.from_ 0→b=min n.to (s.size:Int)→I7 a s b (covB n s):=fun a b ha hb=>by
  unfold I7 covB
  rw [← ha,← hb]
  by_cases g:a≥b
  ·rw [if_pos g,if_pos g]
  ·rw [if_neg g,if_neg g]
   exact ⟨⟨by omega,by omega,by omega⟩,rfl⟩
 have k1:∀ a:Int,a=max n.from_ 0→Hz n s a (covB n s):=fun a ha=>by
  unfold Hz
  by_cases g:n.to > (s.size:Int)
  ·rw [if_pos g]; exact key _ _ ha (by omega)
  ·rw [if_neg g]; exact key _ _ ha (by omega)
 unfold Jc
 by_cases g:n.from_ < 0
 ·rw [if_pos g]; exact k1 _ (by omega)
 ·rw [if_neg g]; exact k1 _ (by omega)
theorem Xj0 {a:List Cj} (h:a.length≤2 ^ 60) (hs:∀ f ∈ a,f.nodes.length≤2 ^ 60):Jp a a true:=by
 unfold Jp
 rw [if_pos rfl]
 refine Bl.cnt a.length (fun i hi=>?_) ?_
 ·unfold H6
  rw [if_pos (by omega)]
  refine ⟨⟨by omega,by omega⟩,⟨by omega,by omega⟩,true,Xf8 (hs _ (Xct hi)),?_⟩
  rw [if_pos rfl,Dw (by omega)]
 ·unfold H6
  rw [if_neg (Int.lt_irrefl _)]
theorem Xll {q:Ar} (hq:q.nodes.length≤2 ^ 40) (hcl:q.conds.length≤2 ^ 40) {t:List Az} {s:ByteArray} {F acc:List Cj} {i:Int} {l:List Int} (hF:(ix F i).nodes=l) (hl:l.length=q.nodes.length) (hr:Xi4 t l) (hc:q.conds.all (Vr q.nodes)=true) {good:Bool} {j:Nat} (hj:j < q.conds.length) {o:Sum (Bool × Int) (Sum ((List Cj) × Int) Bool)} (ho:o=.inl ((good && !Vx q.nodes t s l (q.conds[j])),((j + 1:Nat):Int))):Eg q F i t s acc good (j:Int) o:=by
 have hcj:=List.all_eq_true.1 hc _ (List.getElem_mem hj)
 unfold Vr at hcj
 simp only [Bool.and_eq_true,Bool.or_eq_true,decide_eq_true_eq] at hcj
 obtain ⟨c1,c2⟩:=hcj
 have hix:=Yc hj
 have ew:w64 ((j:Int) + 1)=((j + 1:Nat):Int):=by rw [Dw (by omega)]; rfl
 have hin:∀ c,0≤Qh c q.nodes→(0≤ix l (Qh c q.nodes)∧ix l (Qh c q.nodes) < (t.length:Int)):=fun c h=>by
  have h1:=Xjl (ns:=q.nodes) (c:=c)
  have hm:=hr _ (Xct (v:=l) (i:=(Qh c q.nodes).toNat) (by omega))
  rwa [Int.toNat_of_nonneg h] at hm
 have ha:=hin _ c1
 have j7:∀ (b:ByteArray),Xgw q.nodes t s l q.conds[j]=b→Gz F i (Qh q.conds[j].a q.nodes) t s q (j:Int) good b o:=fun b hb=>by
  unfold Gz
  rw [hF,hix,ew]
  refine ⟨ha,_,Xmh _ _,?_⟩
  rw [ho]
  unfold Vx Xk2
  rw [hb,Ue]
  cases (decide (covB (ix t (ix l (Qh q.conds[j].a q.nodes))) s=b) == q.conds[j].not)
  ·rw [if_neg (by simp)]; simp
  ·rw [if_pos rfl]; simp
 have j5:∀ y:Int,(0≤y∧y < (t.length:Int))→Ei q (j:Int) F i (Qh q.conds[j].a q.nodes) t s good y false o→Gw F i (Qh q.conds[j].a q.nodes) q (j:Int) t s good y o:=fun y hy h=>by
  unfold Gw
  rw [hF,if_neg (by omega),if_neg (by omega),if_neg (by omega),decide_eq_false (by omega)]
  exact h
 have hlt:∀ c,Qh c q.nodes < ((ix F i).nodes.length:Int):=fun c=>by
  have h1:=Xjl (ns:=q.nodes) (c:=c)
  rw [hF]; omega
 unfold Eg
 rw [if_pos (by omega),hix]
 refine ⟨⟨by omega,by omega⟩,_,Xjz hq _,⟨c1,hlt _⟩,?_⟩
 by_cases g:q.conds[j].b=noB
 ·rw [if_pos g]
  refine j5 _ (by rw [hF]; exact ha) ?_
  unfold Ei
  rw [if_neg (by simp),hix,if_pos g]
  exact j7 _ (by unfold Xgw; rw [if_pos g])
 ·rw [if_neg g]
  have c3:=(c2.resolve_left g).1
  refine ⟨_,Xjz hq _,⟨c3,hlt _⟩,j5 _ (by rw [hF]; exact hin _ c3) ?_⟩
  unfold Ei
  rw [if_neg (by simp),hix,if_neg g]
  refine ⟨by rw [hF]; exact hin _ c3,_,Xmh _ _,j7 _ ?_⟩
  unfold Xgw Xk2
  rw [if_neg g,hF]
theorem Xlw {q:Ar} (hq:q.nodes.length≤2 ^ 40) (hcl:q.conds.length≤2 ^ 40) {t:List Az} {s:ByteArray} {F acc:List Cj} {i:Nat} {l:List Int} (hi:i < 2 ^ 60) (hacc:acc.length≤2 ^ 42) (hF:ix F (i:Int)=⟨l⟩) (hl:l.length=q.nodes.length) (hr:Xi4 t l) (hc:q.conds.all (Vr q.nodes)=true):Bl (fun (z:Bool × Int) o=>Eg q F (i:Int) t s acc z.1 z.2 o) (true,0) (.inl (acc++(if q.conds.any (Vx q.nodes t s l)=true then [] else [⟨l⟩]),((i + 1:Nat):Int))):=by
 have key:∀ (d j:Nat) (good:Bool),q.conds.length - j=d→j≤q.conds.length→Bl (fun (z:Bool × Int) o=>Eg q F (i:Int) t s acc z.1 z.2 o) (good,(j:Int)) (.inl (acc++(if (good && !(q.conds.drop j).any (Vx q.nodes t s l))=true then [⟨l⟩] else []),((i + 1:Nat):Int))):=by
  intro d
  induction d with
  | zero =>
   intro j good hd hj
   have:j=q.conds.length:=by omega
   subst this
   refine .done ?_
   dsimp only
   unfold Eg
   rw [if_neg (Int.lt_irrefl _),List.drop_length]
   have ew:w64 ((i:Int) + 1)=((i + 1:Nat):Int):=by rw [Dw (by omega)]; rfl
   rw [ew]
   cases good with
   | true =>
    rw [if_pos rfl,if_pos (by simp),hF]
    exact ⟨_,rfl,by rw [List.length_append,List.length_cons,List.length_nil]; omega,rfl⟩
   | false =>
    rw [if_neg (by simp),if_neg (by simp),List.append_nil]
  | succ d ih =>
   intro j good hd hj
   have hlt:j < q.conds.length:=by omega
   have h:=ih (j + 1) (good && !Vx q.nodes t s l q.conds[j]) (by omega) (by omega)
   have e:(good && !Vx q.nodes t s l q.conds[j] && !(q.conds.drop (j + 1)).any (Vx q.nodes t s l))=(good && !(q.conds.drop j).any (Vx q.nodes t s l)):=by
    rw [List.drop_eq_getElem_cons hlt,List.any_cons,Bool.not_or,Bool.and_assoc]
   rw [e] at h
   exact .next (Xll hq hcl (by rw [hF]) hl hr hc hlt rfl) h
 have h:=key q.conds.length 0 true rfl (Nat.zero_le _)
 rw [List.drop_zero] at h
 cases e:q.conds.any (Vx q.nodes t s l) with
 | true=>rw [e,if_neg (by simp)] at h; rw [if_pos rfl]; exact h
 | false=>rw [e,if_pos (by simp)] at h; rw [if_neg (by simp)]; exact h
theorem Xdg {α β:Type} {f g:α→Option β} {p:β→Bool} (h:∀ a,f a=(g a).filter p):∀ l:List α,l.filterMap f=(l.filterMap g).filter p
 | []=>rfl
 | a :: l=>by
  rw [List.filterMap_cons,List.filterMap_cons,h a,Xdg h l]
  cases g a with
  | none=>rfl
  | some b =>
   rw [Option.filter_some]
   cases e:p b
   ·rw [if_neg (by simp),List.filter_cons_of_neg (by rw [e]; simp)]
   ·rw [if_pos rfl,List.filter_cons_of_pos e]
theorem Xk5 (x:Ag) (k:PF) (cs:List Bh) (t:List Az) (s:ByteArray):Xen x k cs t s=(Xen x k [] t s).filter fun f=>!cs.any (Vx (x :: Bz k) t s f.nodes):=by
 refine Xdg (fun v=>?_) _
 unfold Ya
 cases atN t x k (v:Int) with
 | none=>rfl
 | some l =>
  have e0:(if ([]:List Bh).any (Vx (x :: Bz k) t s l)=true then none else some (⟨l⟩:Cj))=some ⟨l⟩:=if_neg (by simp)
  show (if cs.any (Vx (x :: Bz k) t s l)=true then none else some (⟨l⟩:Cj))=Option.filter _ (if ([]:List Bh).any (Vx (x :: Bz k) t s l)=true then none else some (⟨l⟩:Cj))
  rw [e0,Option.filter_some]
  dsimp only
  cases cs.any (Vx (x :: Bz k) t s l)
  ·rw [if_neg (by simp),if_pos (by simp)]
  ·rw [if_pos rfl,if_neg (by simp)]
theorem Xk8 {x:Ag} {k:PF} {cs:List Bh} {t:List Az} {s:ByteArray} {f:Cj} (h:f ∈ Xen x k cs t s):f.nodes.length=(x :: Bz k).length∧Xi4 t f.nodes:=by
 unfold Xen at h
 obtain ⟨v,hv,he⟩:=List.mem_filterMap.1 h
 rw [List.mem_range] at hv
 unfold Ya at he
 cases e:atN t x k (v:Int) with
 | none=>rw [e] at he; cases he
 | some l =>
  rw [e] at he
  dsimp only at he
  obtain ⟨l1,_,l3⟩:=Xe1 (x:=x) (k:=k) ⟨Int.natCast_nonneg v,by omega⟩ e
  split at he
  ·cases he
  ·injection he with he
   subst he
   exact ⟨by rw [l1,List.length_cons],l3⟩
theorem Xkp (x:Ag) (k:PF) (cs:List Bh) (t:List Az) (s:ByteArray):(Xen x k cs t s).length≤t.length:=by
 have:=List.length_filterMap_le (Ya (x :: Bz k) cs t s x k) (List.range t.length)
 rwa [List.length_range] at this
theorem Sv.bare {x:Ag} {k:PF} {cs:List Bh} (h:Sv nmQ x k cs):Sv nmQ x k []:=by
 obtain ⟨h1,h2,h3,h4,h5,h6⟩:=h
 exact ⟨h1,h2,h3,h4,Nat.zero_le _,fun c hc=>by cases hc⟩
theorem Xn7 {q:Ar} (h1:q.nodes.length≤2 ^ 50) (hz:SzR q) {t:List Az} (hl:Xfu t) (hw:Wf t) (s:ByteArray):Md q t s true:=by
 have hft:=hl
 refine ⟨true,qstarted,?_⟩
 rw [if_pos rfl]
 obtain ⟨b,hb⟩:=Xlv h1
 refine ⟨b,hb,?_⟩
 have ht:Ff q t s true true:=by
  unfold Ff
  rw [if_pos rfl]
 cases b with
 | true=>rw [if_pos rfl]; exact ht
 | false =>
 rw [if_neg (by simp)]
 obtain ⟨b,hb⟩:=Xn4 hl hw
 refine ⟨b,hb,?_⟩
 cases b with
 | true=>exact ht
 | false =>
 unfold Ff
 rw [if_neg (by simp)]
 have hj:Fg [] q t s true true:=by
  unfold Fg
  rw [if_pos rfl]
  rfl
 cases e:Va q with
 | false =>
  refine ⟨_,all_no hz hl hw (.inl e) s,_,Vs hz,?_⟩
  rw [e,if_neg (by simp)]
  exact hj
 | true =>
  by_cases hn:numF t < 0
  ·refine ⟨_,all_no hz hl hw (.inr hn) s,_,Vs hz,?_⟩
   rw [e,if_pos rfl]
   refine ⟨_,Xdm hl hw,?_⟩
   rw [decide_eq_true hn]
   exact hj
  ·obtain ⟨x,k,e1,e2⟩:=Xfy e
   obtain ⟨ns,cs⟩:=q
   dsimp only at e1 e2
   subst e1
   refine ⟨_,Xfo e2 hz hl hw (by omega) s,_,Vs hz,?_⟩
   rw [e,if_pos rfl]
   refine ⟨_,Xdm hl hw,?_⟩
   rw [decide_eq_false hn]
   unfold Fg
   rw [if_neg (by simp)]
   refine ⟨_,Xfo (cs:=[]) e2.bare hz hl hw (by omega) s,?_⟩
   have hcond:cs.all (Vr (x :: Bz k))=true:=by
    unfold Va at e
    simp only [Bool.and_eq_true] at e
    exact e.2.2.2.2
   obtain ⟨hl1,hl2⟩:=e2.len
   have hnl:(x :: Bz k).length≤32:=by rw [List.length_cons]; omega
   have hfl:=Xkp x k [] t s
   have hmem:=fun f (h:f ∈ Xen x k [] t s)=>Xk8 h
   have hfin:=Xk5 x k cs t s
   have hal:(Xen x k cs t s).length≤2 ^ 60:=by have:=Xkp x k cs t s; omega
   have hsf:=Xj0 hal (fun f hf=>by have:=(Xk8 hf).1; omega)
   generalize hP:(fun f:Cj=>!cs.any (Vx (x :: Bz k) t s f.nodes))=p at hfin
   have hp:∀ f,p f = !cs.any (Vx (x :: Bz k) t s f.nodes):=fun f=>by rw [← hP]
   generalize Xen x k [] t s=F at hfl hmem hfin ⊢
   generalize Xen x k cs t s=R at hfin hal hsf ⊢
   have key:∀ (d i:Nat),F.length - i=d→i≤F.length→Bl (fun (z:(List Cj) × Int) o=>Fe F ⟨x :: Bz k,cs⟩ t s R z.1 z.2 o) ((F.take i).filter p,(i:Int)) true:=by
    intro d
    induction d with
    | zero =>
     intro i hd hi
     have:i=F.length:=by omega
     subst this
     refine .done ?_
     dsimp only
     unfold Fe
     rw [if_neg (Int.lt_irrefl _),List.take_length,← hfin]
     exact ⟨true,hsf,rfl⟩
    | succ d ih =>
     intro i hd hi
     have hlt:i < F.length:=by omega
     have hix:=Yc hlt
     obtain ⟨m1,m2⟩:=hmem _ (List.getElem_mem hlt)
     have h:=ih (i + 1) (by omega) (by omega)
     rw [List.take_succ_eq_append_getElem hlt,List.filter_append] at h
     have hlp:=Xlw (q:=⟨x :: Bz k,cs⟩) (t:=t) (s:=s) (F:=F) (acc:=(F.take i).filter p) (i:=i) (l:=F[i].nodes) (by show (x :: Bz k).length≤_; omega) (by show cs.length≤_; omega) (by omega) (by have:=List.length_filter_le p (F.take i); rw [List.length_take] at this; omega) (by rw [hix]) m1 m2 hcond
     have e3:List.filter p [F[i]]=(if cs.any (Vx (x :: Bz k) t s F[i].nodes)=true then [] else [⟨F[i].nodes⟩]):=by
      rw [List.filter_cons,hp]
      cases cs.any (Vx (x :: Bz k) t s F[i].nodes)
      ·rw [if_pos (by simp),if_neg (by simp)]; rfl
      ·rw [if_neg (by simp),if_pos rfl]; rfl
     rw [e3] at h
     refine .next ?_ h
     dsimp only
     unfold Fe
     rw [if_pos (by omega),hix]
     refine ⟨⟨by omega,by omega⟩,?_⟩
     rw [if_pos (by show ((F[i].nodes.length:Nat):Int)=(((x :: Bz k).length:Nat):Int); rw [m1])]
     exact hlp
   exact key F.length 0 rfl (Nat.zero_le _)
end Go.Proofs.YtjookebbmfiidaaDoor.L
