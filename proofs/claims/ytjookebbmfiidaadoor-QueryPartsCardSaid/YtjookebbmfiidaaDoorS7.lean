/- Queries: the program's parser reads patterns. Condition: sizes. -/
import Derived.Test.YtjookebbmfiidaaDoorS6
set_option linter.unusedVariables false
namespace Go.Proofs.YtjookebbmfiidaaDoor.L
open Go.Proofs.YtjookebbmfiidaaDoor.B Go.Proofs.YtjookebbmfiidaaDoor.R
abbrev Gv:Ag:=⟨noB,false,noB,noB,0⟩
def QP (W:List Ak) (L:Int) (t:List Tk) (o:List Ag) (cs:List Bh):Ai:=⟨W,(psn W t:Int),L,⟨o,cs⟩,0,0⟩
def ErQ (W:List Ak) (L e:Int) (q:List Tk) (n:Nat) (r:Ai):Prop:=r.words=W∧r.end_=L∧r.code=e∧r.place=plW W L q∧(0≤r.at_∧r.at_≤(W.length:Int))∧n≤r.q.nodes.length
section
variable {W:List Ak} {L:Int}
theorem Xkc (hW:W.length≤2 ^ 40) {k:Int} {x:ByteArray} {t:List Tk} (ht:Rst W ((k,x) :: t)):w64 ((psn W ((k,x) :: t):Int) + 1)=(psn W t:Int):=by
 obtain ⟨h1,h2,h3,h4⟩:=ht.hd
 rw [Dn (by omega),h4]
 rfl
theorem pis {t:List Tk} (ht:Rst W t) {p:Ai} (hp:p.words=W) (k:Int) (x:ByteArray):F9 p (psn W t:Int) k x (isT k x t,p):=by
 unfold F9
 rw [hp]
 cases t with
 | nil =>
  rw [Zk,if_neg (Int.lt_irrefl _)]
  rfl
 | cons w t =>
  obtain ⟨k',x'⟩:=w
  obtain ⟨h1,h2,h3,h4⟩:=ht.hd
  rw [if_pos (by omega)]
  refine ⟨⟨by omega,by omega⟩,?_⟩
  rw [h2,h3,Vd,isT_cons]
  by_cases g:k'=k
  ·rw [if_pos g,decide_eq_true g,Bool.true_and]
  ·rw [if_neg g,decide_eq_false g,Bool.false_and]
theorem pisE {p:Ai} (h0:0≤p.at_) (k:Int) (x:ByteArray):∃ b,F9 p p.at_ k x (b,p)∧(b=true→p.at_ < (p.words.length:Int)):=by
 unfold F9
 by_cases g:p.at_ < (p.words.length:Int)
 ·by_cases g2:(ix p.words p.at_).kind=k
  ·exact ⟨_,by rw [if_pos g]; exact ⟨⟨h0,g⟩,by rw [if_pos g2]⟩,fun _=>g⟩
  ·exact ⟨_,by rw [if_pos g]; exact ⟨⟨h0,g⟩,by rw [if_neg g2]⟩,fun _=>g⟩
 ·exact ⟨_,by rw [if_neg g],fun h=>by cases h⟩
theorem Xfk {t:List Tk} (ht:Rst W t) {p:Ai} (hp:p.words=W) (hL:p.end_=L) (h0:p.code=0) (e:Int):Dx p e (psn W t:Int) ⟨W,p.at_,L,p.q,e,plW W L t⟩:=by
 unfold Dx
 rw [if_pos h0,hp,hL]
 unfold plW
 by_cases g:psn W t < W.length
 ·rw [if_pos (by omega), if_pos g]
  exact ⟨⟨by omega,by omega⟩,rfl⟩
 ·rw [if_neg (by omega),if_neg g]
theorem Xlt {p:Ai} (h0:p.code≠0) (e i:Int):Dx p e i p:=by
 unfold Dx
 rw [if_neg h0]
def QE (W:List Ak) (L e:Int) (t q:List Tk) (o:List Ag) (cs:List Bh):Ai:=⟨W,(psn W t:Int),L,⟨o,cs⟩,e,plW W L q⟩
theorem QE.er {e:Int} {t q:List Tk} {o:List Ag} {cs:List Bh} {n:Nat} (h:n≤o.length):ErQ W L e q n (QE W L e t q o cs):=⟨rfl,rfl,rfl,rfl,⟨Int.natCast_nonneg _,by show (psn W t:Int)≤_; unfold psn; omega⟩,h⟩
theorem Xbi (hW:W.length≤2 ^ 40) {t:List Tk} (ht:Rst W t) {o:List Ag} {cs:List Bh} {x:ByteArray} (h:isT 5 x t=true):Ea (QP W L t o cs) x (QP W L t.tail o cs):=by
 refine ⟨_,pis ht rfl 5 x,?_⟩
 rw [h,if_pos rfl]
 obtain ⟨r,rfl⟩:=W9 h
 obtain ⟨h1,h2,h3,h4⟩:=ht.hd
 show QP W L r o cs=⟨W,w64 ((psn W ((5,x) :: r):Int) + 1),L,⟨o,cs⟩,0,0⟩
 rw [Dn (by omega)]
 unfold QP
 rw [h4]
 rfl
theorem Xgc {t:List Tk} (ht:Rst W t) {o:List Ag} {cs:List Bh} {x:ByteArray} (h:isT 5 x t=false):Ea (QP W L t o cs) x (QE W L 200 t t o cs):=by
 refine ⟨_,pis ht rfl 5 x,?_⟩
 rw [h,if_neg (by simp)]
 exact ⟨_,Xfk ht rfl rfl rfl 200,rfl⟩
theorem Xh0 (hW:W.length≤2 ^ 40) {e:Int} (he:e≠0) {q:List Tk} {n:Nat} {p:Ai} (h:ErQ W L e q n p) (x:ByteArray):∃ r,Ea p x r∧ErQ W L e q n r:=by
 obtain ⟨h1,h2,h3,h4,h5,h6⟩:=h
 obtain ⟨b,hb1,hb2⟩:=pisE h5.1 5 x
 cases b with
 | true =>
  have:=hb2 rfl
  rw [h1] at this
  refine ⟨⟨p.words,w64 (p.at_ + 1),p.end_,p.q,p.code,p.place⟩,⟨_,hb1,by rw [if_pos rfl]⟩,h1,h2,h3,h4,?_,h6⟩
  show 0≤w64 (p.at_ + 1)∧w64 (p.at_ + 1)≤_
  rw [Dn (by omega)]
  omega
 | false=>exact ⟨p,⟨_,hb1,by rw [if_neg (by simp)]; exact ⟨p,Xlt (by rw [h3]; exact he) _ _,rfl⟩⟩,h1,h2,h3,h4,h5,h6⟩
theorem Xb7 (hW:W.length≤2 ^ 40) {t:List Tk} (ht:Rst W t) {o:List Ag} {cs:List Bh} (h:Yt t=true):Em (QP W L t o cs) (hdT t,QP W L t.tail o cs):=by
 obtain ⟨x,r,rfl,hx⟩:=Xj5 h
 obtain ⟨h1,h2,h3,h4⟩:=ht.hd
 unfold Em
 have hne:¬ (psn W ((1,x) :: r):Int)=(W.length:Int):=by omega
 refine (if_neg hne).mpr ?_
 refine ⟨⟨Int.natCast_nonneg _,by show (psn W ((1,x) :: r):Int) < (W.length:Int); omega⟩,?_⟩
 show if (ix W (psn W ((1,x) :: r):Int)).kind=1 then Ec _ (seq (ix W (psn W ((1,x) :: r):Int)).text Tq) _ else _
 rw [if_pos h2,h3,Vd,decide_eq_false hx]
 unfold Ec
 rw [if_neg (by simp)]
 have e1:w64 ((psn W ((1,x) :: r):Int) + 1)=(psn W r:Int):=by rw [Dn (by omega),h4]; rfl
 have e2:w64 ((psn W r:Int) - 1)=(psn W ((1,x) :: r):Int):=by rw [Dn (by omega),h4]; omega
 show (0≤w64 ((w64 ((psn W ((1,x) :: r):Int) + 1)) - 1)∧w64 ((w64 ((psn W ((1,x) :: r):Int) + 1)) - 1) < (W.length:Int))∧_=((ix W (w64 ((w64 ((psn W ((1,x) :: r):Int) + 1)) - 1))).text,(⟨W,w64 ((psn W ((1,x) :: r):Int) + 1),L,⟨o,cs⟩,0,0⟩:Ai))
 rw [e1,e2,h3]
 exact ⟨⟨Int.natCast_nonneg _,by omega⟩,rfl⟩
theorem Xge {t:List Tk} (ht:Rst W t) {o:List Ag} {cs:List Bh} (h:Yt t=false):Em (QP W L t o cs) (noB,QE W L 200 t t o cs):=by
 have hj:Ec (QP W L t o cs) true (noB,QE W L 200 t t o cs):=by
  unfold Ec
  rw [if_pos rfl]
  exact ⟨_,Xfk ht rfl rfl rfl 200,rfl⟩
 unfold Em
 cases t with
 | nil =>
  exact (if_pos (show (psn W []:Int)=(W.length:Int) by rw [Zk])).mpr hj
 | cons w r =>
  obtain ⟨k,x⟩:=w
  obtain ⟨h1,h2,h3,h4⟩:=ht.hd
  have hne:¬ (psn W ((k,x) :: r):Int)=(W.length:Int):=by omega
  refine (if_neg hne).mpr ?_
  refine ⟨⟨Int.natCast_nonneg _,by show (psn W ((k,x) :: r):Int) < (W.length:Int); omega⟩,?_⟩
  show if (ix W (psn W ((k,x) :: r):Int)).kind=1 then Ec _ (seq (ix W (psn W ((k,x) :: r):Int)).text Tq) _ else _
  rw [h2,h3,Vd]
  by_cases g:k=1
  ·rw [if_pos g]
   have:decide (x=Tq)=true:=by
    rw [Xio,decide_eq_true g,Bool.true_and] at h
    simpa using h
   rw [this]
   exact hj
  ·rw [if_neg g]
   exact hj
theorem pname_er (hW:W.length≤2 ^ 40) {e:Int} (he:e≠0) {q:List Tk} {n:Nat} {p:Ai} (h:ErQ W L e q n p):∃ x r,Em p (x,r)∧ErQ W L e q n r:=by
 obtain ⟨h1,h2,h3,h4,h5,h6⟩:=h
 have hj:Ec p true (noB,p):=by
  unfold Ec
  rw [if_pos rfl]
  exact ⟨p,Xlt (by rw [h3]; exact he) _ _,rfl⟩
 unfold Em
 by_cases g:p.at_=(p.words.length:Int)
 ·exact ⟨noB,p,by rw [if_pos g]; exact hj,h1,h2,h3,h4,h5,h6⟩
 ·have hlt:p.at_ < (p.words.length:Int):=by rw [h1] at g ⊢; omega
  by_cases g2:(ix p.words p.at_).kind=1
  ·cases g3:seq (ix p.words p.at_).text Tq with
   | true=>exact ⟨noB,p,by rw [if_neg g,if_pos g2]; exact ⟨⟨h5.1,hlt⟩,hj⟩,h1,h2,h3,h4,h5,h6⟩
   | false =>
    have e1:w64 (p.at_ + 1)=p.at_ + 1:=Dn (by omega)
    have e2:w64 (p.at_ + 1 - 1)=p.at_:=by rw [Dn (by omega)]; omega
    refine ⟨(ix p.words p.at_).text,⟨p.words,p.at_ + 1,p.end_,p.q,p.code,p.place⟩,?_,h1,h2,h3,h4,?_,h6⟩
    ·rw [if_neg g,if_pos g2]
     refine ⟨⟨h5.1,hlt⟩,?_⟩
     unfold Ec
     rw [if_neg (by simp),e1,e2]
     exact ⟨⟨h5.1,hlt⟩,rfl⟩
    ·show 0≤p.at_ + 1∧p.at_ + 1≤_
     rw [h1] at hlt
     omega
  ·exact ⟨noB,p,by rw [if_neg g,if_neg g2]; exact ⟨⟨h5.1,hlt⟩,hj⟩,h1,h2,h3,h4,h5,h6⟩
theorem pbegins (hW:W.length≤2 ^ 40) {t:List Tk} (ht:Rst W t) {o:List Ag} {cs:List Bh}:Ns (QP W L t o cs) (Rj t,QP W L t o cs):=by
 have hj:∀ b,Gi (QP W L t o cs) b W (psn W t:Int) L o cs 0 0 (b || isT 5 opB t || Xay t,QP W L t o cs):=fun b=>by
  unfold Gi
  cases b with
  | true =>
   rw [if_pos rfl]
   rfl
  | false =>
   rw [if_neg (by simp)]
   refine ⟨_,pis ht rfl 5 opB,?_⟩
   cases h5:isT 5 opB t with
   | true =>
    rw [if_pos rfl]
    rfl
   | false =>
    rw [if_neg (by simp),Bool.false_or,Bool.false_or]
    show if (psn W t:Int) < (W.length:Int) then _ else _
    cases t with
    | nil =>
     rw [Zk,if_neg (Int.lt_irrefl _)]
     rfl
    | cons w r =>
     obtain ⟨k,x⟩:=w
     obtain ⟨h1,h2,h3,h4⟩:=ht.hd
     rw [if_pos (by omega)]
     refine ⟨⟨Int.natCast_nonneg _,by show (psn W ((k,x) :: r):Int) < (W.length:Int); omega⟩,?_⟩
     show if (ix W (psn W ((k,x) :: r):Int)).kind=2 then _=(!(seq (ix W (psn W ((k,x) :: r):Int)).text noB),_) else _
     rw [h2,h3,Vd]
     rw [Xi9]
     by_cases g:k=2
     ·rw [if_pos g,decide_eq_true g,Bool.true_and]
      rfl
     ·rw [if_neg g,decide_eq_false g,Bool.false_and]
      rfl
 unfold Ns
 show if (psn W t:Int) < (W.length:Int) then (0≤(psn W t:Int)∧(psn W t:Int) < (W.length:Int))∧(if (ix W (psn W t:Int)).kind=1 then (if (ix W (psn W t:Int)).text=Tq then _ else _) else _) else _
 cases t with
 | nil =>
  rw [Zk,if_neg (Int.lt_irrefl _)]
  have:=hj false
  rwa [Zk] at this
 | cons w r =>
  obtain ⟨k,x⟩:=w
  obtain ⟨h1,h2,h3,h4⟩:=ht.hd
  rw [if_pos (by omega)]
  refine ⟨⟨by omega,by omega⟩,?_⟩
  rw [h2,h3]
  unfold Rj Zn
  rw [Xio]
  by_cases g:k=1
  ·rw [if_pos g,decide_eq_true g,Bool.true_and]
   by_cases g2:x=Tq
   ·rw [if_pos g2,decide_eq_true g2]
    exact hj false
   ·rw [if_neg g2,decide_eq_false g2]
    refine ⟨(isT 5 Xfw r,QP W L ((k,x) :: r) o cs),?_,?_⟩
    ·show F9 _ (w64 ((psn W ((k,x) :: r):Int) + 1)) _ _ _
     rw [Dn (by omega),show (psn W ((k,x) :: r):Int) + 1=(psn W r:Int) by rw [h4]; rfl]
     exact pis ht.tl rfl 5 Xfw
    ·exact hj _
  ·rw [if_neg g,decide_eq_false g]
   exact hj false
theorem pindex {xs:List Ag} (hx:xs.length≤2 ^ 40) (c:ByteArray):G6 xs c ((match Xh c xs with | none=>-1 | some i=>(i:Int)),c):=by
 have key:∀ (d i:Nat),xs.length - i=d→i≤xs.length→Xh c (xs.take i)=none→Bl (fun (s:Int × ByteArray) o=>Di xs s.1 s.2 o) ((i:Int),c) ((match Xh c xs with | none=>-1 | some i=>(i:Int)),c):=by
  intro d
  induction d with
  | zero =>
   intro i hd hi hn
   refine .done ?_
   have:i=xs.length:=by omega
   subst this
   rw [List.take_length] at hn
   unfold Di
   rw [if_neg (Int.lt_irrefl _),hn]
  | succ d ih =>
   intro i hd hi hn
   have hlt:i < xs.length:=by omega
   have hg:ix xs ((i:Nat):Int)=xs[i]:=by
    have:=Xaf (xs:=xs) (i:=(i:Int)) ⟨by omega,by omega⟩
    rw [Int.toNat_natCast,List.getElem?_eq_getElem hlt] at this
    exact (Option.some.inj this).symm
   have hB:∀ oo,(if seq xs[i].capture c=true then oo=.inr (((i:Nat):Int),c) else oo=.inl (w64 (((i:Nat):Int) + 1),c))→Di xs ((i:Nat):Int) c oo:=fun oo h=>by
    unfold Di
    rw [if_pos (by omega)]
    exact ⟨⟨by omega,by omega⟩,(seq (ix xs ((i:Nat):Int)).capture c,c),rfl,by rw [hg]; exact h⟩
   by_cases g:xs[i].capture=c
   ·refine .done (hB _ ?_)
    rw [Vd,decide_eq_true g,if_pos rfl]
    have:Xh c xs=some i:=by
     unfold Xh at hn ⊢
     rw [List.findIdx?_eq_some_iff_getElem]
     refine ⟨hlt,decide_eq_true g,fun j hj=>?_⟩
     rw [List.findIdx?_eq_none_iff] at hn
     have:=hn xs[j] (List.mem_take_iff_getElem.2 ⟨j,by omega,rfl⟩)
     rw [this]
     simp
    rw [this]
   ·refine .next (hB (.inl (((i + 1 : Nat) : Int), c)) ?_) (ih (i + 1) (by omega) (by omega) ?_)
    ·rw [Vd, decide_eq_false g, if_neg (by simp), Dn (by omega)]
     rfl
    ·unfold Xh at hn ⊢
     rw [List.findIdx?_eq_none_iff] at hn ⊢
     intro y hy
     rw [List.take_succ_eq_append_getElem hlt] at hy
     rcases List.mem_append.1 hy with hy | hy
     ·exact hn y hy
     ·rw [List.mem_singleton] at hy
      rw [hy]
      exact decide_eq_false g
 exact key xs.length 0 rfl (Nat.zero_le _) rfl
theorem Xiq {o:List Ag} (ho:o.length≤2 ^ 40) (cs:List Bh) (c:ByteArray):Hf ⟨o,cs⟩ c (Xq c o):=by
 unfold Hf Xq
 by_cases g:c=noB
 ·rw [if_pos g,if_pos g]
 ·rw [if_neg g,if_neg g]
  exact ⟨_,pindex ho c,rfl⟩
end
end Go.Proofs.YtjookebbmfiidaaDoor.L
