/- Queries: conditions, whole texts: the program. Condition: sizes. -/
import Derived.Test.YtjookebbmfiidaaDoorS9
set_option linter.unusedVariables false
namespace Go.Proofs.YtjookebbmfiidaaDoor.L
open Go.Proofs.YtjookebbmfiidaaDoor.B Go.Proofs.YtjookebbmfiidaaDoor.R
theorem ErrQ.ne {e:Int} (h:ErrQ e):e≠0:=by rcases h with h | h | h <;> omega
theorem Xah {caps:List ByteArray} {t:List Tk}:SufP t (Iu caps t):=by
  unfold Iu
  split
  · split
    · split
      · exact suf2 t
      · exact List.tail_suffix t
    · exact List.tail_suffix t
  · exact List.suffix_refl t
theorem Xno {n:Nat} {caps:List ByteArray} {t:List Tk}:SufP t (Yj n caps t):=by
  unfold Yj
  split
  · split
    · exact List.suffix_refl t
    · have h1:=Xah (caps:=caps) (t:=t.tail)
      cases e:Iu caps t.tail with
      | no ee q=>rw [e] at h1; exact List.IsSuffix.trans h1 (List.tail_suffix t)
      | ok a q =>
        rw [e] at h1
        have h1':q <:+ t:=List.IsSuffix.trans h1 (List.tail_suffix t)
        dsimp only
        split
        · unfold Xem
          split
          · exact List.IsSuffix.trans (suf2 q) h1'
          · have h2:=Xah (caps:=caps) (t:=q.tail)
            cases e2:Iu caps q.tail with
            | no ee u=>rw [e2] at h2; exact List.IsSuffix.trans h2 (List.IsSuffix.trans (List.tail_suffix q) h1')
            | ok a u=>rw [e2] at h2; exact List.IsSuffix.trans h2 (List.IsSuffix.trans (List.tail_suffix q) h1')
        · exact h1'
  · exact List.suffix_refl t
theorem condT_lt {n:Nat} {caps:List ByteArray} {t q:List Tk} {c:Bh} (h:Yj n caps t=.ok c q):n < 16:=by
  unfold Yj at h
  split at h
  · split at h
    · cases h
    · omega
  · cases h
def Xm0 (L:Int) (ct:List Ak × Int × Int):Ar × Int × Int :=
  if ct.2.1=0 then match Xj3 (Xfx ct.1) with
    | .ok p _=>(⟨p.1 :: Bo p.2.1,p.2.2⟩,0,0)
    | .no e q=>(⟨[],[]⟩,e,plW ct.1 L q)
  else (⟨[],[]⟩,ct.2.1,ct.2.2)
def ErC (W:List Ak) (L e:Int) (q:List Tk) (o:List Ag) (cs:List Bh) (r:Ai):Prop:=r.words=W∧r.end_=L∧r.code=e∧r.place=plW W L q∧(0≤r.at_∧r.at_≤(W.length:Int))∧r.q=⟨o,cs⟩
section
variable {W:List Ak} {L:Int} {o:List Ag} {cs:List Bh} {caps:List ByteArray}
theorem QE.erC {e:Int} {t q:List Tk}:ErC W L e q o cs (QE W L e t q o cs):=⟨rfl,rfl,rfl,rfl,⟨Int.natCast_nonneg _,by show (psn W t:Int)≤(W.length:Int); unfold psn; omega⟩,rfl⟩
theorem Xkx (hW:W.length≤2 ^ 40) {t:List Tk} (ht:Rst W t) (ho:o.length≤32) (hs:Jp o caps):∃ r,Jm (QP W L t o cs) r∧(match Iu caps t with
    | .ok a q=>r=(a,QP W L q o cs)
    | .no e q=>ErC W L e q o cs r.2):=by
  unfold Iu
  by_cases c1:isT 5 U2 t=true
  · rw [if_pos c1]
    obtain ⟨t1,rfl⟩:=W9 c1
    rw [List.tail_cons]
    have ht1:Rst W t1:=ht.tl
    have hsg:=Xbi (L:=L) (o:=o) (cs:=cs) hW ht c1
    have hk:∀ r,(∃ r48:ByteArray × Ai,(Em (QP W L t1 o cs) r48) ∧
  ∃ r73:Int,(Hf r48.2.q r48.1 r73) ∧
  if r73 < 0 then
   ∃ r82:Ai,(Dx r48.2 201 (psn W t1:Int) r82) ∧
   r=(r48.1,r82)
  else
   r=(r48.1,r48.2))→Jm (QP W L ((5,U2) :: t1) o cs) r:=fun r h=>⟨_,hsg,(if_pos rfl).mpr h⟩
    by_cases c2:Yt t1=true
    · rw [if_pos c2]
      have hc:=Xiq (show o.length≤2 ^ 40 by omega) cs (hdT t1)
      by_cases c3:inC (hdT t1) caps=true
      · rw [if_pos c3]
        have:=(Xbs hs (hdT t1)).2 c3
        exact ⟨_,hk _ ⟨_,Xb7 hW ht1 c2,_,hc,(if_neg (by omega)).mpr rfl⟩,rfl⟩
      · rw [if_neg c3]
        have:=mt (Xbs hs (hdT t1)).1 c3
        exact ⟨_,hk _ ⟨_,Xb7 hW ht1 c2,_,hc,(if_pos (by omega)).mpr ⟨_,Xfk ht1 rfl rfl rfl 201,rfl⟩⟩,QE.erC⟩
    · rw [if_neg c2]
      exact ⟨_,hk _ ⟨_,Xge ht1 (by simpa using c2),_,Xiq (show o.length≤2 ^ 40 by omega) cs noB,(if_pos (by unfold Xq; rw [if_pos rfl]; decide)).mpr ⟨_,Xlt (show (200:Int)≠0 by decide) _ _,rfl⟩⟩,QE.erC⟩
  · rw [if_neg c1]
    exact ⟨_,⟨_,Xgc ht (by simpa using c1),(if_neg (show ¬ (200:Int)=0 by decide)).mpr rfl⟩,QE.erC⟩
theorem pj2_no {e:Int} (he:e≠0) {q:List Tk} (hcs:cs.length≤16) {p:Ai} (h:ErC W L e q o cs p) (un:Bool) (r147:ByteArray × Ai):∃ r,Fh un r147 p.words p.at_ p.end_ p.q.nodes p.q.conds p.code p.place r∧(r.code=e∧r.place=plW W L q):=by
  obtain ⟨h1,h2,h3,h4,h5,h6⟩:=h
  refine ⟨⟨p.words,p.at_,p.end_,⟨p.q.nodes,p.q.conds++[⟨un,r147.1,noB,noB⟩]⟩,p.code,p.place⟩,?_,h3,h4⟩
  unfold Fh
  rw [if_neg (by rw [h3]; exact he)]
  unfold Gn
  rw [if_neg (by simp),if_neg (by rw [h3]; exact he)]
  exact ⟨_,rfl,by rw [h6,List.length_append,List.length_cons,List.length_nil]; show (cs.length + 1) * 56≤_; omega,rfl⟩
theorem pcond (hW:W.length≤2 ^ 40) {t:List Tk} (ht:Rst W t) (ho:o.length≤32) (hcs:cs.length≤16) (hs:Jp o caps):∃ r,J6 (QP W L t o cs) r∧(match Yj cs.length caps t with
    | .ok c q=>r=QP W L q o (cs++[c])
    | .no e q=>r.code=e∧r.place=plW W L q):=by
  have hj:∀ r,(if kwT t=true then Ig W (psn W t:Int) L o cs 0 0 (isT 1 unB t) r else ∃ r398:Ai,(Dx (QP W L t o cs) 200 (psn W t:Int) r398)∧r=r398)→J6 (QP W L t o cs) r:=fun r h=>by
    refine ⟨_,pis ht rfl 1 unB,?_⟩
    unfold kwT at h
    cases g:isT 1 unB t with
    | true =>
      rw [g] at h
      exact (if_pos rfl).mpr h
    | false =>
      rw [g,Bool.false_or] at h
      refine (if_neg (by simp)).mpr ⟨_,pis ht rfl 1 whB,?_⟩
      exact h
  unfold Yj
  by_cases c1:kwT t=true
  · rw [if_pos c1]
    replace hj:=fun r h=>hj r ((if_pos c1).mpr h)
    have hkw:∃ k x t1,t=(k,x) :: t1:=by
      cases t with
      | nil=>cases c1
      | cons w t1=>exact ⟨w.1,w.2,t1,rfl⟩
    by_cases c2:cs.length≥16
    · rw [if_pos c2]
      refine ⟨QE W L 202 t t o cs,hj _ ?_,rfl,rfl⟩
      unfold Ig
      rw [if_pos (by omega)]
      exact ⟨_,Xfk ht rfl rfl rfl 202,rfl⟩
    · rw [if_neg c2]
      obtain ⟨k,x,t1,rfl⟩:=hkw
      rw [List.tail_cons]
      generalize isT 1 unB ((k,x) :: t1)=un at hj ⊢
      have ht1:Rst W t1:=ht.tl
      obtain ⟨r1,p1,p2⟩:=Xkx (L:=L) (cs:=cs) hW ht1 ho hs
      have hj1:∀ r,(if r1.2.code=0 then
    ∃ r349:Ai,(Ea r1.2 (⟨#[61]⟩:ByteArray) r349) ∧
    Fh un r1 r349.words r349.at_ r349.end_ r349.q.nodes r349.q.conds r349.code r349.place r
  else
    Fh un r1 r1.2.words r1.2.at_ r1.2.end_ r1.2.q.nodes r1.2.q.conds r1.2.code r1.2.place r)→J6 (QP W L ((k,x) :: t1) o cs) r:=fun r h=>by
        refine hj r ?_
        unfold Ig
        rw [if_neg (by omega),Xkc hW ht]
        exact ⟨_,p1,h⟩
      have hsuf:=Xah (caps:=caps) (t:=t1)
      cases e1:Iu caps t1 with
      | no ee q =>
        have he:=(Xao e1).ne
        rw [e1] at p2
        have p2':ErC W L ee q o cs r1.2:=p2
        dsimp only
        obtain ⟨r,u1,u2⟩:=pj2_no he hcs p2' un r1
        exact ⟨r,hj1 r ((if_neg (by rw [p2'.2.2.1]; exact he)).mpr u1),u2⟩
      | ok a q =>
        rw [e1] at p2 hsuf
        have p2':r1=(a,QP W L q o cs):=p2
        have hq:Rst W q:=ht1.sub hsuf
        subst p2'
        dsimp only
        replace hj1:=fun r h=>hj1 r ((if_pos rfl).mpr h)
        by_cases c3:isT 5 eqB q=true
        · rw [if_pos c3]
          obtain ⟨q1,rfl⟩:=W9 c3
          rw [List.tail_cons]
          have hq1:Rst W q1:=hq.tl
          have hj3:∀ r,Gn (psn W q1:Int) W cs un (a,QP W L ((5,eqB) :: q1) o cs) L o 0 0 (isS q1) r→J6 (QP W L ((k,x) :: t1) o cs) r:=fun r h=>by
            refine hj1 r ⟨_,Xbi hW hq c3,?_⟩
            show Fh un _ W (psn W q1:Int) L o cs 0 0 r
            unfold Fh
            rw [if_pos rfl]
            cases q1 with
            | nil =>
              rw [Zk] at h ⊢
              rw [if_neg (Int.lt_irrefl _)]
              exact h
            | cons w q2 =>
              obtain ⟨k2,x2⟩:=w
              obtain ⟨h1,h2,h3,h4⟩:=hq1.hd
              rw [if_pos (by omega)]
              refine ⟨⟨by omega,by omega⟩,?_⟩
              rw [h2]
              have:(k2 == 2)=isS ((k2,x2) :: q2):=rfl
              rw [this]
              exact h
          have hcl:(cs++[(default:Bh)]).length * 56≤211106232532992:=by rw [List.length_append,List.length_cons,List.length_nil]; omega
          have hcl2:∀ c:Bh,(cs++[c]).length * 56≤211106232532992:=fun c=>by rw [List.length_append,List.length_cons,List.length_nil]; omega
          unfold Xem
          by_cases c4:isS q1=true
          · rw [if_pos c4]
            cases q1 with
            | nil=>cases c4
            | cons w q2 =>
              obtain ⟨k2,x2⟩:=w
              obtain ⟨h1,h2,h3,h4⟩:=hq1.hd
              refine ⟨QP W L q2 o (cs++[⟨un,a,noB,x2⟩]),hj3 _ ?_,rfl⟩
              unfold Gn
              rw [if_pos c4]
              refine ⟨⟨by omega,by omega⟩,cs++[⟨un,a,noB,x2⟩],by rw [h3],hcl2 _,?_⟩
              rw [Xkc hW hq1]
              rfl
          · rw [if_neg c4]
            obtain ⟨r2,p3,p4⟩:=Xkx (L:=L) (cs:=cs) hW hq1 ho hs
            have hj4:∀ r,(∃ x288:List Bh,(x288=r2.2.q.conds++([(⟨un,a,r2.1,(⟨#[]⟩:ByteArray)⟩:Bh)]:List Bh)) ∧
   (x288.length * 56≤211106232532992) ∧
   r=(⟨r2.2.words,r2.2.at_,r2.2.end_,(⟨r2.2.q.nodes,x288⟩:Ar),r2.2.code,r2.2.place⟩:Ai))→J6 (QP W L ((k,x) :: t1) o cs) r:=fun r h=>by
              refine hj3 r ?_
              unfold Gn
              rw [if_neg c4,if_pos rfl]
              exact ⟨_,p3,h⟩
            cases e2:Iu caps q1 with
            | no ee u =>
              rw [e2] at p4
              have p4':ErC W L ee u o cs r2.2:=p4
              refine ⟨_,hj4 _ ⟨_,rfl,?_,rfl⟩,p4'.2.2.1,p4'.2.2.2.1⟩
              rw [p4'.2.2.2.2.2]
              exact hcl2 _
            | ok b u =>
              rw [e2] at p4
              have p4':r2=(b,QP W L u o cs):=p4
              subst p4'
              exact ⟨_,hj4 _ ⟨_,rfl,hcl2 _,rfl⟩,rfl⟩
        · rw [if_neg c3]
          obtain ⟨r,u1,u2⟩:=pj2_no (show (200:Int)≠0 by decide) hcs (QE.erC (W:=W) (L:=L) (e:=200) (t:=q) (q:=q) (o:=o) (cs:=cs)) un (a,QP W L q o cs)
          exact ⟨r,hj1 r ⟨_,Xgc hq (by simpa using c3),u1⟩,u2⟩
  · rw [if_neg c1]
    exact ⟨QE W L 200 t t o cs,hj _ ((if_neg c1).mpr ⟨_,Xfk ht rfl rfl rfl 200,rfl⟩),rfl,rfl⟩
theorem pconds (hW:W.length≤2 ^ 40) (ho:o.length≤32) (hs:Jp o caps):∀ (f:Nat) (t:List Tk) (cs:List Bh),t.length < f→Rst W t→cs.length≤16→∃ r,Bl (fun (s:(List Ak) × Int × Int × (List Ag) × (List Bh) × Int × Int) oo=>Ht s.1 s.2.1 s.2.2.1 s.2.2.2.1 s.2.2.2.2.1 s.2.2.2.2.2.1 s.2.2.2.2.2.2 oo) (W,(psn W t:Int),L,o,cs,0,0) r∧(match Xbo f cs.length caps t with
    | .ok l q=>r=(⟨o,cs++l⟩,0,0)
    | .no e q=>r=(⟨[],[]⟩,e,plW W L q))
  | 0,t,cs,hf,ht,hcs=>absurd hf (Nat.not_lt_zero _)
  | f + 1,[],cs,hf,ht,hcs=>by
    refine ⟨(⟨o,cs⟩,0,0),.done ?_,?_⟩
    · dsimp only
      unfold Ht
      rw [if_pos rfl,Zk,if_neg (Int.lt_irrefl _)]
    · show ((⟨o,cs⟩,0,0):Ar × Int × Int)=(⟨o,cs++[]⟩,0,0)
      rw [List.append_nil]
  | f + 1,w :: t,cs,hf,ht,hcs=>by
    obtain ⟨r1,p1,p2⟩:=pcond (L:=L) hW ht ho hcs hs
    obtain ⟨k,x⟩:=w
    obtain ⟨h1,h2,h3,h4⟩:=ht.hd
    have hb:Ht W (psn W ((k,x) :: t):Int) L o cs 0 0 (.inl (r1.words,r1.at_,r1.end_,r1.q.nodes,r1.q.conds,r1.code,r1.place)):=by
      unfold Ht
      rw [if_pos rfl,if_pos (by omega)]
      exact ⟨_,p1,rfl⟩
    rw [Xfg]
    have hsuf:=Xno (n:=cs.length) (caps:=caps) (t:=(k,x) :: t)
    cases e1:Yj cs.length caps ((k,x) :: t) with
    | no ee q =>
      rw [e1] at p2
      obtain ⟨p3,p4⟩:=p2
      refine ⟨(⟨[],[]⟩,ee,plW W L q),.next hb (.done ?_),rfl⟩
      show Ht r1.words r1.at_ r1.end_ r1.q.nodes r1.q.conds r1.code r1.place _
      unfold Ht
      rw [if_neg (by rw [p3]; exact (Xnh e1).ne),p3,p4]
    | ok c q =>
      rw [e1] at p2 hsuf
      have p2':r1=QP W L q o (cs++[c]):=p2
      subst p2'
      have hl:=condT_lt e1
      have hsh:=condT_sh e1
      have hlen:(cs++[c]).length=cs.length + 1:=by simp
      simp only [List.length_cons] at hf hsh
      obtain ⟨r,i1,i2⟩:=pconds hW ho hs f q (cs++[c]) (by omega) (ht.sub hsuf) (by omega)
      refine ⟨r,.next hb i1,?_⟩
      dsimp only
      rw [hlen] at i2
      cases e2:Xbo f (cs.length + 1) caps q with
      | no ee u=>rw [e2] at i2; exact i2
      | ok l u =>
        rw [e2] at i2
        show r=(⟨o,cs++c :: l⟩,0,0)
        rw [i2]
        simp
end
theorem Jp.nil:Jp [] []:=fun c=>Iff.rfl
theorem parse_ok {x:ByteArray} {ct:List Ak × Int × Int} (h:Yf x ct) (hl:ct.1.length≤2 ^ 40):Xg x (Xm0 (x.size:Int) ct):=by
  refine ⟨ct,h,?_⟩
  unfold Xm0
  by_cases c1:ct.2.1=0
  · rw [if_pos c1,if_pos c1]
    have ht:Rst ct.1 (Xfx ct.1):=List.suffix_refl _
    obtain ⟨r1,p1,p2⟩:=ppattern (L:=(x.size:Int)) (cs:=[]) hl ht (o:=[]) (seen:=[]) (by decide) Jp.nil
    have e0:QP ct.1 (x.size:Int) (Xfx ct.1) [] []=⟨ct.1,0,(x.size:Int),⟨[],[]⟩,0,0⟩:=by
      unfold QP
      rw [psn_all]
      rfl
    rw [e0] at p1
    refine ⟨r1,p1,?_⟩
    unfold Xj3
    have hsuf:=Xkn 0 [] (Xfx ct.1)
    have e3:([]:List Ag).length=0:=rfl
    rw [e3] at p2
    cases e1:Xcc 0 [] (Xfx ct.1) with
    | no ee q =>
      rw [e1] at p2
      obtain ⟨k1,k2,k3,k4,k5,k6⟩:=p2
      refine .done ?_
      show Ht r1.words r1.at_ r1.end_ r1.q.nodes r1.q.conds r1.code r1.place _
      unfold Ht
      rw [if_neg (by rw [k3]; exact Xl8 e1),k3,k4]
    | ok p q =>
      obtain ⟨y,k,caps⟩:=p
      rw [e1] at p2 hsuf
      have p2':r1=QP ct.1 (x.size:Int) q (y :: Bo k) []:=p2
      subst p2'
      have hq:Rst ct.1 q:=ht.sub hsuf
      have hm:=Xk6 e1
      have hs:Jp (y :: Bo k) caps:=by
        rw [Xir e1]
        have:=Jp.nil.app (.cons y k .nil)
        simpa [Bo] using this
      obtain ⟨r,i1,i2⟩:=pconds (L:=(x.size:Int)) hl (o:=y :: Bo k) (by rw [List.length_cons]; omega) hs (q.length + 1) q [] (Nat.lt_succ_self _) hq (by decide)
      have e4:([]:List Bh).length=0:=rfl
      rw [e4] at i2
      dsimp only
      cases e2:Xbo (q.length + 1) 0 caps q with
      | no ee u =>
        rw [e2] at i2
        have i2':r=(⟨[],[]⟩,ee,plW ct.1 (x.size:Int) u):=i2
        rw [i2'] at i1
        exact i1
      | ok l u =>
        rw [e2] at i2
        have i2':r=(⟨y :: Bo k,[]++l⟩,0,0):=i2
        rw [i2'] at i1
        exact i1
  · rw [if_neg c1,if_neg c1]
end Go.Proofs.YtjookebbmfiidaaDoor.L
