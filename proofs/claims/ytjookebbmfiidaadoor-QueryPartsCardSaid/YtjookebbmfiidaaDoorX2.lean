/- Queries: whole queries that are well shaped; what both print. Condition: sizes. -/
import Derived.Test.YtjookebbmfiidaaDoorSI
import Derived.Test.YtjookebbmfiidaaDoorX1
set_option linter.unusedVariables false
namespace Go.Proofs.YtjookebbmfiidaaDoor.L
open Go.Proofs.YtjookebbmfiidaaDoor.B Go.Proofs.YtjookebbmfiidaaDoor.R
theorem Jp.self (v:List Ag):Jp v (Oo v):=fun c=>Iff.rfl
theorem Xl0 {v:List Ag} {c:ByteArray}:0≤Xq c v↔c ∈ Oo v:=by
 rw [← Xc0]
 exact Xbs (Jp.self v) c
theorem nodup_of {v:List Ag} (h:∀ i,i < v.length→(ix v (i:Int)).capture=noB∨Xq (ix v (i:Int)).capture v=(i:Int)):(Oo v).Nodup:=by
 unfold Oo
 rw [List.Nodup,List.pairwise_filter,List.pairwise_map,List.pairwise_iff_getElem]
 intro i j hi hj hij hp hq he
 have hp':v[i].capture≠noB:=by simpa using hp
 have h1:=(h j hj).resolve_left (by rw [Wi hj,← he]; exact hp')
 rw [Wi hj,← he] at h1
 unfold Xq at h1
 rw [if_neg hp'] at h1
 cases e:Xh v[i].capture v with
 | none=>rw [e] at h1; dsimp only at h1; omega
 | some m =>
  rw [e] at h1
  dsimp only at h1
  unfold Xh at e
  rw [List.findIdx?_eq_some_iff_getElem] at e
  obtain ⟨h2,h3,h4⟩:=e
  exact h4 i (by omega) (decide_eq_true rfl)
theorem of_nodup {v:List Ag} (h:(Oo v).Nodup) {i:Nat} (hi:i < v.length):(ix v (i:Int)).capture=noB∨Xq (ix v (i:Int)).capture v=(i:Int):=by
 by_cases g:(ix v (i:Int)).capture=noB
 ·exact .inl g
 right
 unfold Xq
 rw [if_neg g]
 have hex:(Xh (ix v (i:Int)).capture v).isSome=true:=Xl4.2 ⟨_,Xf0 hi,rfl⟩
 cases e:Xh (ix v (i:Int)).capture v with
 | none=>rw [e] at hex; cases hex
 | some m =>
  dsimp only
  unfold Xh at e
  rw [List.findIdx?_eq_some_iff_getElem] at e
  obtain ⟨h2,h3,h4⟩:=e
  have h3':=of_decide_eq_true h3
  rw [Wi hi] at g h3' h4
  have hm:m≤i:=by
   by_cases hc:i < m
   ·exact absurd (decide_eq_true rfl) (h4 i hc)
   ·omega
  by_cases hc:m < i
  ·exfalso
   unfold Oo at h
   rw [List.Nodup,List.pairwise_filter,List.pairwise_map,List.pairwise_iff_getElem] at h
   exact h m i h2 hi hc (by simpa [h3'] using g) (by simpa using g) h3'
  ·congr 1; omega
theorem Xfh {q:Ar}:Vf q=true↔Xjb nmQ q.nodes q.conds:=by
 unfold Vf Xjb
 simp only [Bool.and_eq_true,decide_eq_true_eq,List.all_eq_true,List.mem_range]
 have hbeh:Xax q.nodes 0=(q.nodes.length:Int)↔Xw q.nodes 1=some []:=by
  unfold Xax
  rw [List.drop_zero]
  cases e:Xw q.nodes 1 with
  | none=>exact ⟨fun h=>(by dsimp only at h; omega),fun h=>by cases h⟩
  | some r =>
   have:=(Xb2 _ _ _ e).1
   constructor
   ·intro h
    dsimp only at h
    rw [List.eq_nil_of_length_eq_zero (show r.length=0 by omega)]
   ·intro h
    injection h with h
    subst h
    simp
 have hcond:∀ c:Bh,Z5 q.nodes c=true↔Xi8 (Oo q.nodes) c:=fun c=>by
  unfold Z5 Xi8
  simp only [Bool.and_eq_true,Bool.or_eq_true,decide_eq_true_eq]
  rw [Xl0,Xl0]
 constructor
 ·rintro ⟨h1,h2,h3,h4,h5⟩
  have h4':∀ i,i < q.nodes.length→sndN nmQ (ix q.nodes (i:Int))=true∧((ix q.nodes (i:Int)).capture=noB∨Xq (ix q.nodes (i:Int)).capture q.nodes=(i:Int)):=fun i hi=>by
   have:=h4 i hi
   unfold Xdu at this
   simpa only [Bool.and_eq_true,Bool.or_eq_true,decide_eq_true_eq] using this
  refine ⟨h1,h2,hbeh.1 h3,fun x hx=>?_,nodup_of fun i hi=>(h4' i hi).2,fun c hc=>(hcond c).1 (h5 c hc)⟩
  obtain ⟨i,hi,rfl⟩:=List.getElem_of_mem hx
  rw [← Wi hi]
  exact (h4' i hi).1
 ·rintro ⟨h1,h2,h3,h4,h5,h6⟩
  refine ⟨h1,h2,hbeh.2 h3,fun i hi=>?_,fun c hc=>(hcond c).2 (h6 c hc)⟩
  unfold Xdu
  simp only [Bool.and_eq_true,Bool.or_eq_true,decide_eq_true_eq]
  exact ⟨h4 _ (Xf0 hi),of_nodup h5 hi⟩
theorem Xgq {q:Ar} (h:Vf q=true):∃ x k,q.nodes=x :: Bo k∧Na nmQ x k q.conds:=by
 obtain ⟨x,k,h1,h2⟩:=Xfl.1 (Xfh.1 h)
 refine ⟨x,k,?_,h2⟩
 rw [h1]
 simp [Bo]
theorem Xgo {x:Ag} {k:PF} {l:List Bh} (h:Na nmQ x k l):Vf ⟨x :: Bo k,l⟩=true:=by
 refine Xfh.2 (Xfl.2 ⟨x,k,?_,h⟩)
 simp [Bo]
def SzT (t:Tk):Prop:=t.2.size≤1048576
theorem mkW_sz {t:Tk} (h:SzT t):(mkW t).text.size≤1048576∧(-9223372036854775808≤(mkW t).n∧(mkW t).n≤9223372036854775807):=⟨h,show (-9223372036854775808:Int)≤0 by decide,show (0:Int)≤9223372036854775807 by decide⟩
theorem Xf4:∀ (g:PF),(∀ x ∈ Bo g,SzN x)→∀ t ∈ Eu g,SzT t
 | .nil,_,t,ht=>by cases ht
 | .cons x k s,hz,t,ht=>by
  have h0:=hz x (by simp [Bo])
  obtain ⟨h1,h2,h3⟩:=h0
  have hk:=Xf4 k (fun y hy=>hz y (by simp [Bo,hy]))
  have hs:=Xf4 s (fun y hy=>hz y (by simp [Bo,hy]))
  have small:∀ b:ByteArray,b.size≤8→b.size≤1048576:=fun b h=>by omega
  simp only [Eu,List.mem_append] at ht
  rcases ht with ht | ht | ht | ht
  ·unfold Zt at ht
   split at ht
   ·cases ht
   ·rcases List.mem_cons.1 ht with rfl | ht
    ·exact h2
    ·rw [List.mem_singleton.1 ht]; exact small _ (by decide)
  ·split at ht
   ·rw [List.mem_singleton.1 ht]; exact h1
   ·rcases List.mem_cons.1 ht with rfl | ht
    ·exact small _ (by decide)
    rcases List.mem_cons.1 ht with rfl | ht
    ·unfold Qb SzT
     dsimp only
     split
     ·exact small _ (by decide)
     ·exact h1
    rcases List.mem_append.1 ht with ht | ht
    ·exact hk t ht
    ·rw [List.mem_singleton.1 ht]; exact small _ (by decide)
  ·unfold Su at ht
   split at ht
   ·cases ht
   ·rcases List.mem_cons.1 ht with rfl | ht
    ·exact small _ (by decide)
    ·rw [List.mem_singleton.1 ht]; exact h3
  ·exact hs t ht
theorem Xnj {c:Bh} (h:c.a.size≤1048576∧c.b.size≤1048576∧c.text.size≤1048576):∀ t ∈ Iz c,SzT t:=fun t ht=>by
 obtain ⟨h1,h2,h3⟩:=h
 have small:∀ b:ByteArray,b.size≤8→b.size≤1048576:=fun b h=>by omega
 unfold Iz at ht
 rcases List.mem_cons.1 ht with rfl | ht
 ·unfold SzT
  dsimp only
  split
  ·exact small _ (by decide)
  ·exact small _ (by decide)
 rcases List.mem_cons.1 ht with rfl | ht
 ·exact small _ (by decide)
 rcases List.mem_cons.1 ht with rfl | ht
 ·exact h1
 rcases List.mem_cons.1 ht with rfl | ht
 ·exact small _ (by decide)
 split at ht
 ·rw [List.mem_singleton.1 ht]; exact h3
 ·rcases List.mem_cons.1 ht with rfl | ht
  ·exact small _ (by decide)
  ·rw [List.mem_singleton.1 ht]; exact h2
theorem Xn8 {x:Ag} {k:PF} {l:List Bh} (hz:SzQ ⟨x :: Bo k,l⟩):∀ t ∈ Us x k l,SzT t:=fun t ht=>by
 unfold Us at ht
 rcases List.mem_append.1 ht with ht | ht
 ·exact Xf4 (.cons x k .nil) (fun y hy=>hz.1 y (by simpa [Bo] using hy)) t ht
 ·obtain ⟨c,hc,ht⟩:=List.mem_flatMap.1 ht
  exact Xnj (hz.2 c hc) t ht
theorem Xm9 {x:Ag} {k:PF} {l:List Bh} (h:(Bo k).length + 1≤32) (hc:l.length≤16):(Us x k l).length≤400:=by
 have hcw:∀ c:Bh,(Iz c).length≤6:=fun c=>by unfold Iz; by_cases g:c.b=noB <;> simp [g]
 have h1:∀ l:List Bh,(l.flatMap Iz).length≤6 * l.length:=fun l=>by
  induction l with
  | nil=>exact Nat.le_refl _
  | cons c l ih =>
   rw [List.flatMap_cons,List.length_append,List.length_cons]
   have:=hcw c
   omega
 have h2:=Wx (.cons x k .nil)
 simp only [Bo,List.append_nil,List.length_cons] at h2
 unfold Us
 rw [List.length_append]
 have:=h1 l
 omega
def textQ (x:Ag) (k:PF) (l:List Bh):ByteArray:=joinF ((Us x k l).map mkW)
theorem Na.len {x:Ag} {k:PF} {l:List Bh} (h:Na nmQ x k l):(Bo k).length + 1≤32∧l.length≤16:=by
 obtain ⟨_,_,_,h4,h5,_⟩:=h
 simp only [Bo,List.append_nil,List.length_cons] at h4
 exact ⟨h4,h5⟩
theorem Xkw {x:Ag} {k:PF} {l:List Bh} (h:Na nmQ x k l) (hz:SzQ ⟨x :: Bo k,l⟩):((Us x k l).map mkW).length≤400∧∀ w ∈ (Us x k l).map mkW,w.text.size≤1048576∧(-9223372036854775808≤w.n∧w.n≤9223372036854775807):=by
 refine ⟨by rw [List.length_map]; exact Xm9 h.len.1 h.len.2,fun w hw=>?_⟩
 obtain ⟨t,ht,rfl⟩:=List.mem_map.1 hw
 exact mkW_sz (Xn8 hz t ht)
theorem Xj0 {x:Ag} {k:PF} {l:List Bh} (h:Na nmQ x k l) (hz:SzQ ⟨x :: Bo k,l⟩):Ze ⟨x :: Bo k,l⟩ (textQ x k l,0):=by
 obtain ⟨hl1,hl2⟩:=h.len
 obtain ⟨w1,w2⟩:=Xkw h hz
 refine ⟨true,?_,?_⟩
 ·rw [← Xgo h]; exact Xap hz.w
 rw [if_pos rfl]
 have hn:=qnode (q:=⟨x :: Bo k,l⟩) (by simp only [List.length_cons]; omega) ((Bo k).length + 1) x k [] [] [] (by simp) h.1 h.2.1 (Nat.le_refl _) (by simp only [List.length_nil]; omega)
 refine ⟨_,⟨_,hn⟩,?_⟩
 have hwp:=Wx (.cons x k .nil)
 simp only [Bo,List.append_nil,List.length_cons] at hwp
 refine qconds (q:=⟨x :: Bo k,l⟩) hl2 (l:=[]++(Eu (.cons x k .nil)).map mkW) (by rw [List.nil_append,List.length_map]; omega) ?_
 rw [List.nil_append,← List.map_append]
 show Ux ((Us x k l).map mkW) _
 have hsz:=Xnb (fun w hw=>(w2 w hw).1)
 have:((Us x k l).map mkW).length * (4 * 1048576 + 9)≤400 * (4 * 1048576 + 9):=Nat.mul_le_mul_right _ w1
 exact joinF_ok (by omega) w2 (by omega)
end Go.Proofs.YtjookebbmfiidaaDoor.L
set_option linter.unusedVariables false
namespace Go.Proofs.YtjookebbmfiidaaDoor.L
open Go.Proofs.YtjookebbmfiidaaDoor.B Go.Proofs.YtjookebbmfiidaaDoor.R
def covB (n:Az) (s:ByteArray):ByteArray:=if max n.from_ 0≥min n.to (s.size:Int) then noB else s.extract (max n.from_ 0).toNat (min n.to (s.size:Int)).toNat
theorem cov_ok (n:Az) (s:ByteArray):U9 n s (covB n s):=by
  unfold U9 covB
  by_cases h:max n.from_ 0≥min n.to (s.size:Int)
  · rw [if_pos h,if_pos h]
  · rw [if_neg h,if_neg h]
    exact ⟨⟨by omega,by omega,by omega⟩,rfl⟩
def capB_ (ns:List Ag) (t:List Az) (s:ByteArray) (l:List Int) (c:ByteArray):ByteArray:=covB (ix t (ix l (Xq c ns))) s
def rightB (ns:List Ag) (t:List Az) (s:ByteArray) (l:List Int) (c:Bh):ByteArray:=if c.b=noB then c.text else capB_ ns t s l c.b
def badC (ns:List Ag) (t:List Az) (s:ByteArray) (l:List Int) (c:Bh):Bool:=decide (capB_ ns t s l c.a=rightB ns t s l c) == c.not
def Range (t:List Az) (l:List Int):Prop:=∀ y ∈ l,0≤y∧y < (t.length:Int)
section
variable {q:Ar} {t:List Az} {s:ByteArray} {l:List Int}
theorem capN_lt {ns:List Ag} {c:ByteArray}:Xq c ns < (ns.length:Int):=by
  unfold Xq
  split
  · omega
  · cases e:Xh c ns with
    | none=>dsimp only; omega
    | some i =>
      dsimp only
      unfold Xh at e
      rw [List.findIdx?_eq_some_iff_getElem] at e
      have:=e.1
      omega
theorem Xjo (hq:q.nodes.length≤2 ^ 40) (hl:l.length=q.nodes.length) (hr:Range t l) {c:ByteArray} (hc:0≤Xq c q.nodes):Uz c t l q s (capB_ q.nodes t s l c,t,l,q,s):=by
  have h1:=capN_lt (ns:=q.nodes) (c:=c)
  have hin:0≤Xq c q.nodes∧Xq c q.nodes < (l.length:Int):=⟨hc,by omega⟩
  have hm:=hr _ (Xf0 (v:=l) (i:=(Xq c q.nodes).toNat) (by omega))
  rw [Int.toNat_of_nonneg hc] at hm
  exact ⟨_,Xiq hq q.conds c,hin,hm,_,cov_ok _ _,rfl⟩
theorem all2_ok (hq:q.nodes.length≤2 ^ 40) (hl:l.length=q.nodes.length) (hr:Range t l) {c:Bh} (hc:Z5 q.nodes c=true):Xm c t l q s (badC q.nodes t s l c,t,l,q,s):=by
  unfold Z5 at hc
  simp only [Bool.and_eq_true,Bool.or_eq_true,decide_eq_true_eq] at hc
  unfold Xm badC rightB
  by_cases g:c.b=noB
  · rw [if_pos g,if_pos g,← Vd]
    exact ⟨_,Xjo hq hl hr hc.1,rfl⟩
  · rw [if_neg g,if_neg g,← Vd]
    exact ⟨_,Xjo hq hl hr (hc.2.resolve_left g).1,_,Xjo hq hl hr hc.1,rfl⟩
theorem Xko (hq:q.nodes.length≤2 ^ 40) (hcl:q.conds.length≤2 ^ 40) (hl:l.length=q.nodes.length) (hr:Range t l) (hc:q.conds.all (Z5 q.nodes)=true):F6 q.conds t l q s (q.conds.any (badC q.nodes t s l),t,l,q,s):=by
  have key:∀ (d i:Nat),q.conds.length - i=d→i≤q.conds.length→∃ j:Int,Bl (fun (z:Int × ByteArray) o=>Du q.conds t l q z.1 z.2 o) ((i:Int),s) (j,t,l,q,s)∧decide (j≥0)=(q.conds.drop i).any (badC q.nodes t s l):=by
    intro d
    induction d with
    | zero =>
      intro i hd hi
      have:i=q.conds.length:=by omega
      subst this
      refine ⟨-1,.done ?_,by rw [List.drop_length]; rfl⟩
      dsimp only
      unfold Du
      rw [if_neg (Int.lt_irrefl _)]
    | succ d ih =>
      intro i hd hi
      have hlt:i < q.conds.length:=by omega
      have hix:=Wi hlt
      have hdr:q.conds.drop i=q.conds[i] :: q.conds.drop (i + 1):=List.drop_eq_getElem_cons hlt
      have h2:=all2_ok (s:=s) hq hl hr (List.all_eq_true.1 hc _ (List.getElem_mem hlt))
      have hb:∀ oo,(if badC q.nodes t s l q.conds[i]=true then oo=.inr ((i:Int),t,l,q,s) else oo=.inl (w64 ((i:Int) + 1),s))→Du q.conds t l q (i:Int) s oo:=fun oo h=>by
        unfold Du
        rw [if_pos (by omega),hix]
        exact ⟨⟨by omega,by omega⟩,_,h2,h⟩
      rw [hdr,List.any_cons]
      cases e:badC q.nodes t s l q.conds[i] with
      | true =>
        rw [e] at hb
        exact ⟨(i:Int),.done (hb _ (by rw [if_pos rfl])),by rw [Bool.true_or]; exact decide_eq_true (Int.natCast_nonneg i)⟩
      | false =>
        rw [e] at hb
        obtain ⟨j,j1,j2⟩:=ih (i + 1) (by omega) (by omega)
        refine ⟨j,.next (hb (.inl (((i + 1:Nat):Int),s)) ?_) j1,by rw [Bool.false_or]; exact j2⟩
        rw [if_neg (by simp),Dn (by omega)]
        rfl
  obtain ⟨j,j1,j2⟩:=key q.conds.length 0 rfl (Nat.zero_le _)
  refine ⟨(j,t,l,q,s),j1,?_⟩
  rw [List.drop_zero] at j2
  rw [← j2]
end
def Qr (ns:List Ag) (cs:List Bh) (t:List Az) (s:ByteArray) (x:Ag) (k:PF) (v:Nat):Option Bq:=match atN t x k (v:Int) with
  | none=>none
  | some l=>if cs.any (badC ns t s l)=true then none else some ⟨l⟩
def Wh (x:Ag) (k:PF) (cs:List Bh) (t:List Az) (s:ByteArray):List Bq:=(List.range t.length).filterMap (Qr (x :: Bo k) cs t s x k)
theorem Xe2 {x:Ag} {k:PF} {cs:List Bh} (h:Na nmQ x k cs) (hz:SzR ⟨x :: Bo k,cs⟩) {t:List Az} (hl:Xca t) (hw:Wf t) (hr:0≤numF t) (s:ByteArray):Qx ⟨x :: Bo k,cs⟩ t s (Wh x k cs t s):=by
  have hsh:=Xgo h
  have hft:=hl
  obtain ⟨hl1,hl2⟩:=h.len
  have hnl:(x :: Bo k).length≤32:=by rw [List.length_cons]; omega
  refine ⟨true,?_,?_⟩
  · rw [← hsh]; exact Xap hz
  rw [if_pos rfl]
  refine ⟨_,Xgr hl hw,?_⟩
  unfold Qd
  rw [decide_eq_false (by omega),if_neg (by simp)]
  refine ⟨⟨by omega,by omega⟩,_,rfl,⟨by omega,by omega⟩,_,rfl,?_⟩
  have hcond:cs.all (Z5 (x :: Bo k))=true:=by
    have:=hsh
    unfold Vf at this
    simp only [Bool.and_eq_true] at this
    exact this.2.2.2.2
  have hlen:∀ i,((List.range i).filterMap (Qr (x :: Bo k) cs t s x k)).length≤i:=fun i=>by
    have:=List.length_filterMap_le (Qr (x :: Bo k) cs t s x k) (List.range i)
    rwa [List.length_range] at this
  have key:∀ (d i:Nat) (of:List (List Int)) (kn:List Bool),t.length - i=d→i≤t.length→MI t of kn→Bl (fun (z:(List Bq) × Int × (List (List Int)) × (List Bool) × ByteArray) o=>Pg t ⟨x :: Bo k,cs⟩ z.1 z.2.1 z.2.2.1 z.2.2.2.1 z.2.2.2.2 o) ((List.range i).filterMap (Qr (x :: Bo k) cs t s x k),(i:Int),of,kn,s) (Wh x k cs t s):=by
    intro d
    induction d with
    | zero =>
      intro i of kn hd hi hm
      have:i=t.length:=by omega
      subst this
      refine .done ?_
      dsimp only
      unfold Pg
      rw [if_neg (Int.lt_irrefl _)]
      rfl
    | succ d ih =>
      intro i of kn hd hi hm
      have hlt:i < t.length:=by omega
      have hli:=hlen i
      obtain ⟨of',kn',f1,f2⟩:=(Xkq (ns:=x :: Bo k) (by omega) hl hw (2 * (Bo k).length + 2)).1 x k [] [] (i:Int) of kn (by simp) h.1 (Nat.le_refl _) ⟨by omega,by omega⟩ hm
      have hb:∀ oo,(∀ b285:Bool,(b285=true↔(atN t x k (i:Int)).getD []=[]) →
  if b285=true then
   oo=.inl ((List.range i).filterMap (Qr (x :: Bo k) cs t s x k),w64 ((i:Int) + 1),of',kn',s)
  else
   ∃ r293:Bool × (List Az) × (List Int) × Ar × ByteArray,(F6 cs t ((atN t x k (i:Int)).getD []) ⟨x :: Bo k,cs⟩ s r293) ∧
   if r293.1=true then
    oo=.inl ((List.range i).filterMap (Qr (x :: Bo k) cs t s x k),w64 ((i:Int) + 1),of',kn',r293.2.2.2.2)
   else
    ∃ x312:List Bq,(x312=(List.range i).filterMap (Qr (x :: Bo k) cs t s x k)++([(⟨(atN t x k (i:Int)).getD []⟩:Bq)]:List Bq)) ∧
    (x312.length * 24≤211106232532992) ∧
    oo=.inl (x312,w64 ((i:Int) + 1),of',kn',r293.2.2.2.2))→Pg t ⟨x :: Bo k,cs⟩ ((List.range i).filterMap (Qr (x :: Bo k) cs t s x k)) (i:Int) of kn s oo:=fun oo h=>by
        unfold Pg
        rw [if_pos (by omega)]
        exact ⟨_,⟨_,f1⟩,h⟩
      have ew:w64 ((i:Int) + 1)=((i + 1:Nat):Int):=by rw [Dn (by omega)]; rfl
      have hn:=ih (i + 1) of' kn' (by omega) (by omega) f2
      rw [List.range_succ,List.filterMap_append] at hn
      rw [ew] at hb
      have hst:Qr (x :: Bo k) cs t s x k i=(match atN t x k (i:Int) with
        | none=>none
        | some l=>if cs.any (badC (x :: Bo k) t s l)=true then none else some ⟨l⟩):=rfl
      cases e:atN t x k (i:Int) with
      | none =>
        rw [e] at hst hb
        have e2:List.filterMap (Qr (x :: Bo k) cs t s x k) [i]=[]:=by simp [hst]
        rw [e2,List.append_nil] at hn
        refine .next (hb _ (fun bb hbb=>?_)) hn
        rw [hbb.2 rfl,if_pos rfl]
      | some l =>
        rw [e] at hst hb
        obtain ⟨l1,⟨l',l2⟩,l3⟩:=Ye (x:=x) (k:=k) ⟨Int.natCast_nonneg i,by omega⟩ e
        have hc:=Xko (q:=⟨x :: Bo k,cs⟩) (s:=s) (by show (x :: Bo k).length≤_; omega) (by show cs.length≤_; omega) (by show l.length=(x :: Bo k).length; rw [List.length_cons]; omega) l3 hcond
        have hbf:∀ bb:Bool,(bb=true↔l=[])→bb=false:=fun bb hbb=>by
          cases bb with
          | false=>rfl
          | true=>have:=hbb.1 rfl; rw [l2] at this; cases this
        cases ea:cs.any (badC (x :: Bo k) t s l) with
        | true =>
          dsimp only at hst
          rw [if_pos ea] at hst
          have e2:List.filterMap (Qr (x :: Bo k) cs t s x k) [i]=[]:=by simp [hst]
          rw [e2,List.append_nil] at hn
          refine .next (hb _ (fun bb hbb=>?_)) hn
          rw [hbf bb hbb,if_neg (by simp)]
          refine ⟨_,hc,?_⟩
          dsimp only
          rw [if_pos ea]
        | false =>
          dsimp only at hst
          rw [if_neg (by rw [ea]; simp)] at hst
          have e2:List.filterMap (Qr (x :: Bo k) cs t s x k) [i]=[⟨l⟩]:=by simp [hst]
          rw [e2] at hn
          refine .next (hb _ (fun bb hbb=>?_)) hn
          rw [hbf bb hbb,if_neg (by simp)]
          refine ⟨_,hc,?_⟩
          dsimp only
          rw [if_neg (by rw [ea]; simp)]
          exact ⟨_,rfl,by rw [List.length_append,List.length_cons,List.length_nil]; omega,rfl⟩
  have hrep:∀ i:Nat,i < t.length→ix (List.replicate t.length false) (i:Int)=false:=fun i hi=>by
    rw [Wi (by simpa using hi)]
    simp
  have:=key t.length 0 (List.replicate t.length []) (List.replicate t.length false) rfl (Nat.zero_le _) ⟨by simp,by simp,fun i hi hk=>by rw [hrep i hi] at hk; cases hk⟩
  rw [Int.toNat_natCast]
  exact this
theorem all_no {q:Ar} (hz:SzR q) {t:List Az} (hl:Xca t) (hw:Wf t) (h:Vf q=false∨numF t < 0) (s:ByteArray):Qx q t s []:=by
  refine ⟨_,Xap hz,?_⟩
  have hj:Qd t q s true []:=by
    unfold Qd
    rw [if_pos rfl]
  cases e:Vf q with
  | false =>
    rw [if_neg (by simp)]
    exact hj
  | true =>
    rw [if_pos rfl]
    refine ⟨_,Xgr hl hw,?_⟩
    rw [decide_eq_true (h.resolve_left (by rw [e]; simp))]
    exact hj
end Go.Proofs.YtjookebbmfiidaaDoor.L
