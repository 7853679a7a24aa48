/- Queries: the program's parser reads a whole pattern. Condition: sizes. -/
import Derived.Test.YtjookebbmfiidaaDoorS8
set_option linter.unusedVariables false
namespace Go.Proofs.YtjookebbmfiidaaDoor.L
open Go.Proofs.YtjookebbmfiidaaDoor.B Go.Proofs.YtjookebbmfiidaaDoor.R
section
variable {W:List Ak} {L:Int} {cs:List Bh}
theorem pj1 (hW : W.length ≤ 2 ^ 40) {n : Nat} {a : List Tk} (ha : Rst W a) (hn : ∀ t2 : List Tk, t2.length < a.length → Rst W t2 → VP W L cs n t2) {o : List Ag} (ho : o.length < 32) {seen : List ByteArray} (hs : Jp o seen) {r23 : Bool × Ai} (hr : r23.2.q.nodes = o) (fld : ByteArray) :
    ∃ r,Es r23 (D6 n) W (psn W a:Int) L (o++[Gv]) cs 0 0 fld r∧vP W L o cs (if Xay a=true then Wv ⟨hdT a,true,fld,noB,0⟩ .nil seen a.tail
      else if isT 5 opB a=true then
        if nmT a.tail=true then
          match Xbf (o.length + 1) seen a.tail.tail with
          | .no e r=>.no e r
          | .ok (k,seen') r=>Wv ⟨if isT 1 Tq a.tail=true then noB else hdT a.tail,false,fld,noB,(I8 k:Int)⟩ k seen' r
        else .no 200 a.tail
      else .no 200 a) r:=by
  have hal:=ha.le
  have hs1:Jp (o++Gv :: []) seen:=(Jp.mid rfl).2 (by rwa [List.append_nil])
  have hl1:(o++[Gv]).length=o.length + 1:=by simp
  have hj:∀ r,Eb (psn W a:Int) W r23 fld L (o++[Gv]) cs 0 0 (D6 n) (Xay a) r→Es r23 (D6 n) W (psn W a:Int) L (o++[Gv]) cs 0 0 fld r:=fun r h=>by
    unfold Es
    cases a with
    | nil =>
      rw [Zk] at h ⊢
      rw [if_neg (Int.lt_irrefl _)]
      exact h
    | cons w a1 =>
      obtain ⟨k,x⟩:=w
      obtain ⟨h1,h2,h3,h4⟩:=ha.hd
      rw [if_pos (by omega)]
      refine ⟨⟨by omega,by omega⟩,?_⟩
      rw [h2,h3,Vd]
      rw [Xi9] at h
      by_cases g:k=2
      · rw [if_pos g]
        rw [decide_eq_true g,Bool.true_and] at h
        exact h
      · rw [if_neg g]
        rw [decide_eq_false g,Bool.false_and] at h
        exact h
  by_cases c3:Xay a=true
  · rw [if_pos c3]
    rw [c3] at hj
    obtain ⟨x,a1,rfl,hx⟩:=Xjf c3
    obtain ⟨h1,h2,h3,h4⟩:=ha.hd
    obtain ⟨r,r1,r2⟩:=pj3_ok (L:=L) (cs:=cs) hW ha.tl (o:=o) (v:=[]) (by rw [List.length_append,List.length_cons,List.length_nil]; omega) hs1 hr x fld true 0 .nil
    refine ⟨r,hj r ?_,?_⟩
    · unfold Eb
      rw [if_pos rfl]
      refine ⟨⟨by omega,by omega⟩,?_⟩
      rw [h3,Dn (by omega),show (psn W ((2,x) :: a1):Int) + 1=(psn W a1:Int) by rw [h4]; rfl]
      exact r1
    · show vP W L o cs (Wv ⟨x,true,fld,noB,0⟩ .nil seen a1) r
      have r2':(match Wv ⟨x,true,fld,noB,0⟩ PF.nil seen a1 with | .ok p q=>r=QP W L q (o++p.1 :: []) cs | .no e q=>ErQ W L e q o.length r):=r2
      cases e:Wv ⟨x,true,fld,noB,0⟩ PF.nil seen a1 with
      | ok p q =>
        rw [e] at r2'
        obtain ⟨y,k,s2⟩:=p
        have hk:k=.nil:=Xdj e
        rw [hk]
        exact r2'
      | no e q=>rw [e] at r2'; exact r2'
  · rw [if_neg c3]
    have c3':Xay a=false:=by simpa using c3
    rw [c3'] at hj
    by_cases c4:isT 5 opB a=true
    · rw [if_pos c4]
      obtain ⟨a1,rfl⟩:=W9 c4
      have ha1:Rst W a1:=ha.tl
      rw [List.tail_cons]
      have hsg:Ea (⟨W,(psn W ((5,opB) :: a1):Int),L,⟨o++[Gv],cs⟩,0,0⟩:Ai) opB (QP W L a1 (o++[Gv]) cs):=Xbi hW ha c4
      have hj2:∀ nm r,nmT a1=true→nm=(if isT 1 Tq a1=true then noB else hdT a1)→Ef r23 fld (D6 n) W (psn W a1.tail:Int) L (o++[Gv]) cs 0 0 nm r→Es r23 (D6 n) W (psn W ((5,opB) :: a1):Int) L (o++[Gv]) cs 0 0 fld r:=fun nm r hn he h=>by
        refine hj r ?_
        unfold Eb
        rw [if_neg (by simp)]
        refine ⟨_,hsg,_,pis ha1 rfl 1 Tq,?_⟩
        by_cases g:isT 1 Tq a1=true
        · rw [if_pos g]
          rw [if_pos g] at he
          obtain ⟨a2,rfl⟩:=W9 g
          obtain ⟨h1,h2,h3,h4⟩:=ha1.hd
          show Ef r23 fld (D6 n) W (w64 ((psn W ((1,Tq) :: a2):Int) + 1)) L (o++[Gv]) cs 0 0 noB r
          rw [Dn (by omega),show (psn W ((1,Tq) :: a2):Int) + 1=(psn W a2:Int) by rw [h4]; rfl,← he]
          exact h
        · rw [if_neg g]
          rw [if_neg g] at he
          have g2:Yt a1=true:=by
            unfold nmT at hn
            rw [Bool.or_eq_true] at hn
            exact hn.resolve_left g
          refine ⟨_,Xb7 hW ha1 g2,?_⟩
          rw [← he]
          exact h
      by_cases c5:nmT a1=true
      · rw [if_pos c5]
        generalize hnm:(if isT 1 Tq a1=true then noB else hdT a1)=nm
        have hlt1:=Xat a1
        simp only [List.length_cons] at hn hal
        have hkd:=pkids (L:=L) (cs:=cs) hW hr (fld:=fld) (nm:=nm) (n:=n) (a1.tail.length + 1) a1.tail 0 [] seen (Nat.lt_succ_self _) (fun t2 h2 hr2=>hn t2 (by omega) hr2) ha1.tl (by rw [List.length_append,List.length_cons,List.length_nil]; omega) hs1 (by omega)
        rw [hl1] at hkd
        have hsuf:=Xnd (o.length + 1) seen a1.tail
        cases e:Xbf (o.length + 1) seen a1.tail with
        | no ee q =>
          rw [e] at hkd
          obtain ⟨r,k1,k2⟩:=hkd
          exact ⟨r,hj2 nm r c5 hnm.symm (by unfold Ef; exact k1),k2⟩
        | ok p q =>
          obtain ⟨k,seen'⟩:=p
          rw [e] at hkd hsuf
          have hseen:=Xl9 e
          have hmax:=(Xjh _).2 _ _ _ _ _ _ (by omega) e
          have hsuf':q <:+ a1.tail:=hsuf
          have hs2:Jp (o++Gv :: Bo k) seen':=by
            have h1:=hs1.app k
            rw [hseen]
            simpa using h1
          obtain ⟨r,r1,r2⟩:=pj3_ok (L:=L) (cs:=cs) hW (ha1.tl.sub hsuf') (o:=o) (v:=Bo k) (by rw [List.length_append,List.length_cons]; omega) hs2 hr nm fld false (I8 k:Int) k
          refine ⟨r,hj2 nm r c5 hnm.symm ?_,?_⟩
          · unfold Ef
            refine hkd r ?_
            dsimp only
            rw [List.nil_append,Nat.zero_add]
            exact r1
          · dsimp only
            cases e3:Wv ⟨nm,false,fld,noB,(I8 k:Int)⟩ k seen' q with
            | ok p q2 =>
              rw [e3] at r2
              obtain ⟨y,k2,s2⟩:=p
              have hk:k2=k:=Xdj e3
              rw [hk]
              exact r2
            | no ee q2=>rw [e3] at r2; exact r2
      · rw [if_neg c5]
        have c5':isT 1 Tq a1=false∧Yt a1=false:=by
          unfold nmT at c5
          rw [Bool.or_eq_true,not_or] at c5
          exact ⟨by simpa using c5.1,by simpa using c5.2⟩
        have her:ErQ W L 200 a1 (o.length + 1) (QE W L 200 a1 a1 (o++[Gv]) cs):=QE.er (by rw [hl1]; omega)
        obtain ⟨r2,s1,s2⟩:=Xh0 hW (by decide) her clB
        obtain ⟨r3,u1,u2⟩:=Xlm (by decide) hr s2 noB fld false 0
        refine ⟨r3,hj r3 ?_,u2⟩
        unfold Eb
        rw [if_neg (by simp)]
        refine ⟨_,hsg,_,pis ha1 rfl 1 Tq,?_⟩
        rw [c5'.1,if_neg (by simp)]
        refine ⟨_,Xge ha1 c5'.2,?_⟩
        unfold Ef
        refine .done ?_
        show Dk r23 fld noB (D6 n) W (psn W a1:Int) L (o++[Gv]) cs 200 (plW W L a1) 0 _
        unfold Dk
        rw [if_neg (by decide)]
        exact ⟨r2,s1,r3,rfl,u1⟩
    · rw [if_neg c4]
      have c4':isT 5 opB a=false:=by simpa using c4
      have her:ErQ W L 200 a (o.length + 1) (QE W L 200 a a (o++[Gv]) cs):=QE.er (by rw [hl1]; omega)
      have hsg:Ea (⟨W,(psn W a:Int),L,⟨o++[Gv],cs⟩,0,0⟩:Ai) opB (QE W L 200 a a (o++[Gv]) cs):=Xgc ha c4'
      obtain ⟨b,b1,b2⟩:=pisE (p:=QE W L 200 a a (o++[Gv]) cs) (Int.natCast_nonneg _) 1 Tq
      have fin:∀ (nm:ByteArray) (p:Ai),ErQ W L 200 a (o.length + 1) p→∃ r,Ef r23 fld (D6 n) p.words p.at_ p.end_ p.q.nodes p.q.conds p.code p.place nm r∧ErQ W L 200 a o.length r:=fun nm p hp=>by
        obtain ⟨r2,s1,s2⟩:=Xh0 hW (by decide) hp clB
        obtain ⟨r3,u1,u2⟩:=Xlm (by decide) hr s2 nm fld false 0
        refine ⟨r3,?_,u2⟩
        unfold Ef
        refine .done ?_
        show Dk r23 fld nm (D6 n) p.words p.at_ p.end_ p.q.nodes p.q.conds p.code p.place 0 _
        unfold Dk
        rw [if_neg (by rw [hp.2.2.1]; decide)]
        exact ⟨r2,s1,r3,rfl,u1⟩
      cases b with
      | true =>
        have hlt:=b2 rfl
        have hlt':(psn W a:Int) < (W.length:Int):=hlt
        have hp:ErQ W L 200 a (o.length + 1) (⟨W,w64 ((psn W a:Int) + 1),L,⟨o++[Gv],cs⟩,200,plW W L a⟩:Ai):=⟨rfl,rfl,rfl,rfl,by
          show 0≤w64 ((psn W a:Int) + 1)∧w64 ((psn W a:Int) + 1)≤(W.length:Int)
          rw [Dn (by omega)]; omega,by show _≤(o++[Gv]).length; rw [hl1]; omega⟩
        obtain ⟨r,u1,u2⟩:=fin noB _ hp
        refine ⟨r,hj r ?_,u2⟩
        unfold Eb
        rw [if_neg (by simp)]
        refine ⟨_,hsg,_,b1,?_⟩
        rw [if_pos rfl]
        exact u1
      | false =>
        obtain ⟨x,p,p1,p2⟩:=pname_er hW (by decide) her
        obtain ⟨r,u1,u2⟩:=fin x _ p2
        refine ⟨r,hj r ?_,u2⟩
        unfold Eb
        rw [if_neg (by simp)]
        refine ⟨_,hsg,_,b1,?_⟩
        rw [if_neg (by simp)]
        exact ⟨_,p1,u1⟩
theorem Xke {t:List Tk} (h:Rj t=true) (hf:Zn t=false):isT 5 opB t=true∨Xay t=true:=by
  unfold Rj at h
  rw [hf,Bool.false_or,Bool.or_eq_true] at h
  exact h
theorem vp_all (hW:W.length≤2 ^ 40):∀ (n:Nat) (t:List Tk),t.length < n→Rst W t→VP W L cs n t
  | 0,t,hn,ht=>absurd hn (Nat.not_lt_zero _)
  | n + 1,t,hn,ht=>by
    intro o seen ho hs
    have hle:=ht.le
    have key:∀ r,(if Rj t=true then
  if (o.length:Int)=32 then
   ∃ r49:Ai,(Dx (QP W L t o cs) 202 (psn W t:Int) r49) ∧
   r=r49
  else
   ∃ x76:List Ag,(x76=o++[Gv]) ∧
   (x76.length * 64≤211106232532992) ∧
   (0≤(psn W t:Int)∧(psn W t:Int) < (W.length:Int)) ∧
   if (ix W (psn W t:Int)).kind=1 then
    ∃ r1277:ByteArray × Ai,(Em (QP W L t x76 cs) r1277) ∧
    ∃ r1301:Ai,(Ea r1277.2 (⟨#[58]⟩:ByteArray) r1301) ∧
    Es (true,QP W L t o cs) (D6 n) r1301.words r1301.at_ r1301.end_ r1301.q.nodes r1301.q.conds r1301.code r1301.place r1277.1 r
   else
    Es (true,QP W L t o cs) (D6 n) W (psn W t:Int) L x76 cs 0 0 (⟨#[]⟩:ByteArray) r
 else
  ∃ r1325:Ai,(Dx (QP W L t o cs) 200 (psn W t:Int) r1325) ∧
  r=r1325)→D6 (n + 1) (QP W L t o cs) r:=fun r h=>by
      show Iw (D6 n) _ r
      unfold Iw
      refine ⟨_,pbegins hW ht,?_⟩
      cases g:Rj t with
      | true=>rw [g] at h; exact h
      | false=>rw [g] at h; exact h
    rw [patN_eq]
    by_cases c1:Rj t=true
    · rw [if_pos c1]
      by_cases c2:o.length≥32
      · rw [if_pos c2]
        refine ⟨_,key _ ?_,QE.er (t:=t) (o:=o) (cs:=cs) (Nat.le_refl _)⟩
        rw [if_pos c1,if_pos (by omega)]
        exact ⟨_,Xfk ht rfl rfl rfl 202,rfl⟩
      · rw [if_neg c2]
        have hal:=Xe3 t
        have ha:Rst W (Nq t):=ht.sub (Xkv t)
        obtain ⟨r,r1,r2⟩:=pj1 (L:=L) (cs:=cs) hW ha (fun t2 h2 hr2=>vp_all hW n t2 (by omega) hr2) (o:=o) (by omega) hs (r23:=(true,QP W L t o cs)) rfl (Xeu t)
        refine ⟨r,key r ?_,r2⟩
        rw [if_pos c1,if_neg (by omega)]
        have hne:psn W t < W.length:=by
          cases t with
          | nil=>cases c1
          | cons w t1=>exact (Rst.hd (k:=w.1) (x:=w.2) ht).1
        refine ⟨_,rfl,by rw [List.length_append,List.length_cons,List.length_nil]; omega,⟨by omega,by omega⟩,?_⟩
        by_cases c3:Zn t=true
        · obtain ⟨x,t1,rfl,hx⟩:=isFd_ex c3
          obtain ⟨h1,h2,h3,h4⟩:=ht.hd
          rw [if_pos h2]
          have hnm:Yt ((1,x) :: (5,Xfw) :: t1)=true:=by
            unfold Zn at c3
            rw [Bool.and_eq_true] at c3
            exact c3.1
          have ef:Xeu ((1,x) :: (5,Xfw) :: t1)=x:=by unfold Xeu; rw [if_pos c3]; rfl
          have ea:Nq ((1,x) :: (5,Xfw) :: t1)=t1:=by unfold Nq; rw [if_pos c3]; rfl
          rw [ef,ea] at r1
          exact ⟨_,Xb7 hW ht hnm,_,Xbi hW ht.tl (Vx _ _ _),r1⟩
        · have c3':Zn t=false:=by simpa using c3
          have ef:Xeu t=noB:=by unfold Xeu; rw [if_neg c3]
          have ea:Nq t=t:=by unfold Nq; rw [if_neg c3]
          rw [ef,ea] at r1
          have hk:(ix W (psn W t:Int)).kind≠1:=by
            rcases Xke c1 c3' with h | h
            · obtain ⟨t1,rfl⟩:=W9 h
              rw [ht.hd.2.1]; decide
            · obtain ⟨x,t1,rfl,_⟩:=Xjf h
              rw [ht.hd.2.1]; decide
          rw [if_neg hk]
          exact r1
    · rw [if_neg c1]
      refine ⟨_,key _ ?_,QE.er (t:=t) (o:=o) (cs:=cs) (Nat.le_refl _)⟩
      rw [if_neg c1]
      exact ⟨_,Xfk ht rfl rfl rfl 200,rfl⟩
theorem ppattern (hW:W.length≤2 ^ 40) {t:List Tk} (ht:Rst W t) {o:List Ag} {seen:List ByteArray} (ho:o.length≤32) (hs:Jp o seen):∃ r,Rz (QP W L t o cs) r∧vP W L o cs (Xcc o.length seen t) r:=by
  obtain ⟨r,h1,h2⟩:=vp_all (L:=L) (cs:=cs) hW (t.length + 1) t (Nat.lt_succ_self _) ht o seen ho hs
  exact ⟨r,⟨_,h1⟩,h2⟩
end
end Go.Proofs.YtjookebbmfiidaaDoor.L
