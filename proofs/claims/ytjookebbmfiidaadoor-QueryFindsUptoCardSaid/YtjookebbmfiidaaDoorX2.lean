/- Queries: whole queries that are well shaped; what both print. Condition: sizes. -/
import Derived.Test.YtjookebbmfiidaaDoorSI
import Derived.Test.YtjookebbmfiidaaDoorX1
set_option linter.unusedVariables false
namespace Go.Proofs.YtjookebbmfiidaaDoor.L
open Go.Proofs.YtjookebbmfiidaaDoor.B Go.Proofs.YtjookebbmfiidaaDoor.R
theorem Zc.self (v:List Aj):Zc v (Rj v):=fun c=>Iff.rfl
theorem Xje {v:List Aj} {c:ByteArray}:0≤Qu c v↔c ∈ Rj v:=by
 rw [← Xl3]
 exact capN_iff (Zc.self v) c
theorem nodup_of {v:List Aj} (h:∀ i,i < v.length→(ix v (i:Int)).capture=noB∨Qu (ix v (i:Int)).capture v=(i:Int)):(Rj v).Nodup:=by
 unfold Rj
 rw [List.Nodup,List.pairwise_filter,List.pairwise_map,List.pairwise_iff_getElem]
 intro i j hi hj hij hp hq he
 have hp':v[i].capture≠noB:=by simpa using hp
 have h1:=(h j hj).resolve_left (by rw [U2 hj,← he]; exact hp')
 rw [U2 hj,← he] at h1
 unfold Qu at h1
 rw [if_neg hp'] at h1
 cases e:Vd v[i].capture v with
 | none=>rw [e] at h1; dsimp only at h1; omega
 | some m =>
  rw [e] at h1
  dsimp only at h1
  unfold Vd at e
  rw [List.findIdx?_eq_some_iff_getElem] at e
  obtain ⟨h2,h3,h4⟩:=e
  exact h4 i (by omega) (decide_eq_true rfl)
theorem of_nodup {v:List Aj} (h:(Rj v).Nodup) {i:Nat} (hi:i < v.length):(ix v (i:Int)).capture=noB∨Qu (ix v (i:Int)).capture v=(i:Int):=by
 by_cases g:(ix v (i:Int)).capture=noB
 ·exact .inl g
 right
 unfold Qu
 rw [if_neg g]
 have hex:(Vd (ix v (i:Int)).capture v).isSome=true:=Xk0.2 ⟨_,Xap hi,rfl⟩
 cases e:Vd (ix v (i:Int)).capture v with
 | none=>rw [e] at hex; cases hex
 | some m =>
  dsimp only
  unfold Vd at e
  rw [List.findIdx?_eq_some_iff_getElem] at e
  obtain ⟨h2,h3,h4⟩:=e
  have h3':=of_decide_eq_true h3
  rw [U2 hi] at g h3' h4
  have hm:m≤i:=by
   by_cases hc:i < m
   ·exact absurd (decide_eq_true rfl) (h4 i hc)
   ·omega
  by_cases hc:m < i
  ·exfalso
   unfold Rj at h
   rw [List.Nodup,List.pairwise_filter,List.pairwise_map,List.pairwise_iff_getElem] at h
   exact h m i h2 hi hc (by simpa [h3'] using g) (by simpa using g) h3'
  ·congr 1; omega
theorem Xf4 {q:Aq}:Qh q=true↔Xhy nmQ q.nodes q.conds:=by
 unfold Qh Xhy
 simp only [Bool.and_eq_true,decide_eq_true_eq,List.all_eq_true,List.mem_range]
 have hbeh:Wy q.nodes 0=(q.nodes.length:Int)↔Vl q.nodes 1=some []:=by
  unfold Wy
  rw [List.drop_zero]
  cases e:Vl q.nodes 1 with
  | none=>exact ⟨fun h=>(by dsimp only at h; omega),fun h=>by cases h⟩
  | some r =>
   have:=(Xa2 _ _ _ e).1
   constructor
   ·intro h
    dsimp only at h
    rw [List.eq_nil_of_length_eq_zero (show r.length=0 by omega)]
   ·intro h
    injection h with h
    subst h
    simp
 have hcond:∀ c:D8,U7 q.nodes c=true↔goodC (Rj q.nodes) c:=fun c=>by
  unfold U7 goodC
  simp only [Bool.and_eq_true,Bool.or_eq_true,decide_eq_true_eq]
  rw [Xje,Xje]
 constructor
 ·rintro ⟨h1,h2,h3,h4,h5⟩
  have h4':∀ i,i < q.nodes.length→sndN nmQ (ix q.nodes (i:Int))=true∧((ix q.nodes (i:Int)).capture=noB∨Qu (ix q.nodes (i:Int)).capture q.nodes=(i:Int)):=fun i hi=>by
   have:=h4 i hi
   unfold Yn at this
   simpa only [Bool.and_eq_true,Bool.or_eq_true,decide_eq_true_eq] using this
  refine ⟨h1,h2,hbeh.1 h3,fun x hx=>?_,nodup_of fun i hi=>(h4' i hi).2,fun c hc=>(hcond c).1 (h5 c hc)⟩
  obtain ⟨i,hi,rfl⟩:=List.getElem_of_mem hx
  rw [← U2 hi]
  exact (h4' i hi).1
 ·rintro ⟨h1,h2,h3,h4,h5,h6⟩
  refine ⟨h1,h2,hbeh.2 h3,fun i hi=>?_,fun c hc=>(hcond c).2 (h6 c hc)⟩
  unfold Yn
  simp only [Bool.and_eq_true,Bool.or_eq_true,decide_eq_true_eq]
  exact ⟨h4 _ (Xap hi),of_nodup h5 hi⟩
theorem Xfq {q:Aq} (h:Qh q=true):∃ x k,q.nodes=x :: Dc k∧Xj nmQ x k q.conds:=by
 obtain ⟨x,k,h1,h2⟩:=Xfc.1 (Xf4.1 h)
 refine ⟨x,k,?_,h2⟩
 rw [h1]
 simp [Dc]
theorem Xgf {x:Aj} {k:PF} {l:List D8} (h:Xj nmQ x k l):Qh ⟨x :: Dc k,l⟩=true:=by
 refine Xf4.2 (Xfc.2 ⟨x,k,?_,h⟩)
 simp [Dc]
theorem Xj.len {x:Aj} {k:PF} {l:List D8} (h:Xj nmQ x k l):(Dc k).length + 1≤32∧l.length≤16:=by
 obtain ⟨_,_,_,h4,h5,_⟩:=h
 simp only [Dc,List.append_nil,List.length_cons] at h4
 exact ⟨h4,h5⟩
end Go.Proofs.YtjookebbmfiidaaDoor.L
set_option linter.unusedVariables false
namespace Go.Proofs.YtjookebbmfiidaaDoor.L
open Go.Proofs.YtjookebbmfiidaaDoor.B Go.Proofs.YtjookebbmfiidaaDoor.R
def covB (n:Ai) (s:ByteArray):ByteArray:=if max n.from_ 0≥min n.to (s.size:Int) then noB else s.extract (max n.from_ 0).toNat (min n.to (s.size:Int)).toNat
theorem cov_ok (n:Ai) (s:ByteArray):Vf n s (covB n s):=by
  unfold Vf covB
  by_cases h:max n.from_ 0≥min n.to (s.size:Int)
  · rw [if_pos h,if_pos h]
  · rw [if_neg h,if_neg h]
    exact ⟨⟨by omega,by omega,by omega⟩,rfl⟩
def Xk3 (ns:List Aj) (t:List Ai) (s:ByteArray) (l:List Int) (c:ByteArray):ByteArray:=covB (ix t (ix l (Qu c ns))) s
def Xfx (ns:List Aj) (t:List Ai) (s:ByteArray) (l:List Int) (c:D8):ByteArray:=if c.b=noB then c.text else Xk3 ns t s l c.b
def Xb3 (ns:List Aj) (t:List Ai) (s:ByteArray) (l:List Int) (c:D8):Bool:=decide (Xk3 ns t s l c.a=Xfx ns t s l c) == c.not
def Xjy (t:List Ai) (l:List Int):Prop:=∀ y ∈ l,0≤y∧y < (t.length:Int)
section
variable {q:Aq} {t:List Ai} {s:ByteArray} {l:List Int}
theorem Xit {ns:List Aj} {c:ByteArray}:Qu c ns < (ns.length:Int):=by
  unfold Qu
  split
  · omega
  · cases e:Vd c ns with
    | none=>dsimp only; omega
    | some i =>
      dsimp only
      unfold Vd at e
      rw [List.findIdx?_eq_some_iff_getElem] at e
      have:=e.1
      omega
theorem Xhz (hq:q.nodes.length≤2 ^ 40) (hl:l.length=q.nodes.length) (hr:Xjy t l) {c:ByteArray} (hc:0≤Qu c q.nodes):Vx c t l q s (Xk3 q.nodes t s l c,t,l,q,s):=by
  have h1:=Xit (ns:=q.nodes) (c:=c)
  have hin:0≤Qu c q.nodes∧Qu c q.nodes < (l.length:Int):=⟨hc,by omega⟩
  have hm:=hr _ (Xap (v:=l) (i:=(Qu c q.nodes).toNat) (by omega))
  rw [Int.toNat_of_nonneg hc] at hm
  exact ⟨_,pcapt hq q.conds c,hin,hm,_,cov_ok _ _,rfl⟩
theorem all2_ok (hq:q.nodes.length≤2 ^ 40) (hl:l.length=q.nodes.length) (hr:Xjy t l) {c:D8} (hc:U7 q.nodes c=true):Xq c t l q s (Xb3 q.nodes t s l c,t,l,q,s):=by
  unfold U7 at hc
  simp only [Bool.and_eq_true,Bool.or_eq_true,decide_eq_true_eq] at hc
  unfold Xq Xb3 Xfx
  by_cases g:c.b=noB
  · rw [if_pos g,if_pos g,← Ur]
    exact ⟨_,Xhz hq hl hr hc.1,rfl⟩
  · rw [if_neg g,if_neg g,← Ur]
    exact ⟨_,Xhz hq hl hr (hc.2.resolve_left g).1,_,Xhz hq hl hr hc.1,rfl⟩
theorem Xjo (hq:q.nodes.length≤2 ^ 40) (hcl:q.conds.length≤2 ^ 40) (hl:l.length=q.nodes.length) (hr:Xjy t l) (hc:q.conds.all (U7 q.nodes)=true):Ez q.conds t l q s (q.conds.any (Xb3 q.nodes t s l),t,l,q,s):=by
  have key:∀ (d i:Nat),q.conds.length - i=d→i≤q.conds.length→∃ j:Int,Ar (fun (z:Int × ByteArray) o=>Dn q.conds t l q z.1 z.2 o) ((i:Int),s) (j,t,l,q,s)∧decide (j≥0)=(q.conds.drop i).any (Xb3 q.nodes t s l):=by
    intro d
    induction d with
    | zero =>
      intro i hd hi
      have:i=q.conds.length:=by omega
      subst this
      refine ⟨-1,.done ?_,by rw [List.drop_length]; rfl⟩
      dsimp only
      unfold Dn
      rw [if_neg (Int.lt_irrefl _)]
    | succ d ih =>
      intro i hd hi
      have hlt:i < q.conds.length:=by omega
      have hix:=U2 hlt
      have hdr:q.conds.drop i=q.conds[i] :: q.conds.drop (i + 1):=List.drop_eq_getElem_cons hlt
      have h2:=all2_ok (s:=s) hq hl hr (List.all_eq_true.1 hc _ (List.getElem_mem hlt))
      have hb:∀ oo,(if Xb3 q.nodes t s l q.conds[i]=true then oo=.inr ((i:Int),t,l,q,s) else oo=.inl (w64 ((i:Int) + 1),s))→Dn q.conds t l q (i:Int) s oo:=fun oo h=>by
        unfold Dn
        rw [if_pos (by omega),hix]
        exact ⟨⟨by omega,by omega⟩,_,h2,h⟩
      rw [hdr,List.any_cons]
      cases e:Xb3 q.nodes t s l q.conds[i] with
      | true =>
        rw [e] at hb
        exact ⟨(i:Int),.done (hb _ (by rw [if_pos rfl])),by rw [Bool.true_or]; exact decide_eq_true (Int.natCast_nonneg i)⟩
      | false =>
        rw [e] at hb
        obtain ⟨j,j1,j2⟩:=ih (i + 1) (by omega) (by omega)
        refine ⟨j,.next (hb (.inl (((i + 1:Nat):Int),s)) ?_) j1,by rw [Bool.false_or]; exact j2⟩
        rw [if_neg (by simp),Dk (by omega)]
        rfl
  obtain ⟨j,j1,j2⟩:=key q.conds.length 0 rfl (Nat.zero_le _)
  refine ⟨(j,t,l,q,s),j1,?_⟩
  rw [List.drop_zero] at j2
  rw [← j2]
end
def V4 (ns:List Aj) (cs:List D8) (t:List Ai) (s:ByteArray) (x:Aj) (k:PF) (v:Nat):Option Be:=match atN t x k (v:Int) with
  | none=>none
  | some l=>if cs.any (Xb3 ns t s l)=true then none else some ⟨l⟩
def allF (x:Aj) (k:PF) (cs:List D8) (t:List Ai) (s:ByteArray):List Be:=(List.range t.length).filterMap (V4 (x :: Dc k) cs t s x k)
theorem all_yes {x:Aj} {k:PF} {cs:List D8} (h:Xj nmQ x k cs) (hz:SzR ⟨x :: Dc k,cs⟩) {t:List Ai} (hl:X5 t) (hw:Wf t) (hr:0≤numF t) (s:ByteArray):Rh ⟨x :: Dc k,cs⟩ t s (allF x k cs t s):=by
  have hsh:=Xgf h
  have hft:=hl
  obtain ⟨hl1,hl2⟩:=h.len
  have hnl:(x :: Dc k).length≤32:=by rw [List.length_cons]; omega
  refine ⟨true,?_,?_⟩
  · rw [← hsh]; exact Xgs hz
  rw [if_pos rfl]
  refine ⟨_,Xjl hl hw,?_⟩
  unfold Sj
  rw [decide_eq_false (by omega),if_neg (by simp)]
  refine ⟨⟨by omega,by omega⟩,_,rfl,⟨by omega,by omega⟩,_,rfl,?_⟩
  have hcond:cs.all (U7 (x :: Dc k))=true:=by
    have:=hsh
    unfold Qh at this
    simp only [Bool.and_eq_true] at this
    exact this.2.2.2.2
  have hlen:∀ i,((List.range i).filterMap (V4 (x :: Dc k) cs t s x k)).length≤i:=fun i=>by
    have:=List.length_filterMap_le (V4 (x :: Dc k) cs t s x k) (List.range i)
    rwa [List.length_range] at this
  have key:∀ (d i:Nat) (of:List (List Int)) (kn:List Bool),t.length - i=d→i≤t.length→MI t of kn→Ar (fun (z:(List Be) × Int × (List (List Int)) × (List Bool) × ByteArray) o=>Qe t ⟨x :: Dc k,cs⟩ z.1 z.2.1 z.2.2.1 z.2.2.2.1 z.2.2.2.2 o) ((List.range i).filterMap (V4 (x :: Dc k) cs t s x k),(i:Int),of,kn,s) (allF x k cs t s):=by
    intro d
    induction d with
    | zero =>
      intro i of kn hd hi hm
      have:i=t.length:=by omega
      subst this
      refine .done ?_
      dsimp only
      unfold Qe
      rw [if_neg (Int.lt_irrefl _)]
      rfl
    | succ d ih =>
      intro i of kn hd hi hm
      have hlt:i < t.length:=by omega
      have hli:=hlen i
      obtain ⟨of',kn',f1,f2⟩:=(Xjv (ns:=x :: Dc k) (by omega) hl hw (2 * (Dc k).length + 2)).1 x k [] [] (i:Int) of kn (by simp) h.1 (Nat.le_refl _) ⟨by omega,by omega⟩ hm
      have hb:∀ oo,(∀ b285:Bool,(b285=true↔(atN t x k (i:Int)).getD []=[]) →
  if b285=true then
   oo=.inl ((List.range i).filterMap (V4 (x :: Dc k) cs t s x k),w64 ((i:Int) + 1),of',kn',s)
  else
   ∃ r293:Bool × (List Ai) × (List Int) × Aq × ByteArray,(Ez cs t ((atN t x k (i:Int)).getD []) ⟨x :: Dc k,cs⟩ s r293) ∧
   if r293.1=true then
    oo=.inl ((List.range i).filterMap (V4 (x :: Dc k) cs t s x k),w64 ((i:Int) + 1),of',kn',r293.2.2.2.2)
   else
    ∃ x312:List Be,(x312=(List.range i).filterMap (V4 (x :: Dc k) cs t s x k)++([(⟨(atN t x k (i:Int)).getD []⟩:Be)]:List Be)) ∧
    (x312.length * 24≤211106232532992) ∧
    oo=.inl (x312,w64 ((i:Int) + 1),of',kn',r293.2.2.2.2))→Qe t ⟨x :: Dc k,cs⟩ ((List.range i).filterMap (V4 (x :: Dc k) cs t s x k)) (i:Int) of kn s oo:=fun oo h=>by
        unfold Qe
        rw [if_pos (by omega)]
        exact ⟨_,⟨_,f1⟩,h⟩
      have ew:w64 ((i:Int) + 1)=((i + 1:Nat):Int):=by rw [Dk (by omega)]; rfl
      have hn:=ih (i + 1) of' kn' (by omega) (by omega) f2
      rw [List.range_succ,List.filterMap_append] at hn
      rw [ew] at hb
      have hst:V4 (x :: Dc k) cs t s x k i=(match atN t x k (i:Int) with
        | none=>none
        | some l=>if cs.any (Xb3 (x :: Dc k) t s l)=true then none else some ⟨l⟩):=rfl
      cases e:atN t x k (i:Int) with
      | none =>
        rw [e] at hst hb
        have e2:List.filterMap (V4 (x :: Dc k) cs t s x k) [i]=[]:=by simp [hst]
        rw [e2,List.append_nil] at hn
        refine .next (hb _ (fun bb hbb=>?_)) hn
        rw [hbb.2 rfl,if_pos rfl]
      | some l =>
        rw [e] at hst hb
        obtain ⟨l1,⟨l',l2⟩,l3⟩:=Yh (x:=x) (k:=k) ⟨Int.natCast_nonneg i,by omega⟩ e
        have hc:=Xjo (q:=⟨x :: Dc k,cs⟩) (s:=s) (by show (x :: Dc k).length≤_; omega) (by show cs.length≤_; omega) (by show l.length=(x :: Dc k).length; rw [List.length_cons]; omega) l3 hcond
        have hbf:∀ bb:Bool,(bb=true↔l=[])→bb=false:=fun bb hbb=>by
          cases bb with
          | false=>rfl
          | true=>have:=hbb.1 rfl; rw [l2] at this; cases this
        cases ea:cs.any (Xb3 (x :: Dc k) t s l) with
        | true =>
          dsimp only at hst
          rw [if_pos ea] at hst
          have e2:List.filterMap (V4 (x :: Dc k) cs t s x k) [i]=[]:=by simp [hst]
          rw [e2,List.append_nil] at hn
          refine .next (hb _ (fun bb hbb=>?_)) hn
          rw [hbf bb hbb,if_neg (by simp)]
          refine ⟨_,hc,?_⟩
          dsimp only
          rw [if_pos ea]
        | false =>
          dsimp only at hst
          rw [if_neg (by rw [ea]; simp)] at hst
          have e2:List.filterMap (V4 (x :: Dc k) cs t s x k) [i]=[⟨l⟩]:=by simp [hst]
          rw [e2] at hn
          refine .next (hb _ (fun bb hbb=>?_)) hn
          rw [hbf bb hbb,if_neg (by simp)]
          refine ⟨_,hc,?_⟩
          dsimp only
          rw [if_neg (by rw [ea]; simp)]
          exact ⟨_,rfl,by rw [List.length_append,List.length_cons,List.length_nil]; omega,rfl⟩
  have hrep:∀ i:Nat,i < t.length→ix (List.replicate t.length false) (i:Int)=false:=fun i hi=>by
    rw [U2 (by simpa using hi)]
    simp
  have:=key t.length 0 (List.replicate t.length []) (List.replicate t.length false) rfl (Nat.zero_le _) ⟨by simp,by simp,fun i hi hk=>by rw [hrep i hi] at hk; cases hk⟩
  rw [Int.toNat_natCast]
  exact this
theorem all_no {q:Aq} (hz:SzR q) {t:List Ai} (hl:X5 t) (hw:Wf t) (h:Qh q=false∨numF t < 0) (s:ByteArray):Rh q t s []:=by
  refine ⟨_,Xgs hz,?_⟩
  have hj:Sj t q s true []:=by
    unfold Sj
    rw [if_pos rfl]
  cases e:Qh q with
  | false =>
    rw [if_neg (by simp)]
    exact hj
  | true =>
    rw [if_pos rfl]
    refine ⟨_,Xjl hl hw,?_⟩
    rw [decide_eq_true (h.resolve_left (by rw [e]; simp))]
    exact hj
end Go.Proofs.YtjookebbmfiidaaDoor.L
