/- Forests: what the program's own 'plant' works out: whether it is a forest, parents, ends. Conditions: the list fits in memory, its numbers are ints. -/
import Derived.Test.YtmekgfcfooghnaaF1
set_option linter.unusedVariables false
namespace Go.Proofs.Ytmekgfcfooghnaa.L
open Go.Proofs.Ytmekgfcfooghnaa.B Go.Proofs.Ytmekgfcfooghnaa.R
theorem Xwt {α:Type} [Inhabited α] {ys:List α} {y:α}:ix (ys++[y]) (ys.length:Int)=y:=by
 rw [Xnk (by simp)]; simp
theorem Ydu {α:Type} {ys:List α} {y v:α}:(ys++[y]).set ys.length v=ys++[v]:=by simp
theorem Yap {α:Type} {ys zs:List α}:(ys++zs).take ys.length=ys:=by simp
theorem Ye4 {α:Type} [Inhabited α] {xs:List α} {i j:Nat} {v:α} (hi:i < xs.length):ix (xs.set i v) (j:Int)=if j=i then v else ix xs (j:Int):=by
 rcases Nat.lt_or_ge j xs.length with h | h
 ·rw [Xnk (by simpa using h), List.getElem_set]
  split
  ·rename_i e; subst e; rw [if_pos rfl]
  ·rename_i e; rw [if_neg (fun g=>e g.symm),Xnk h]
 ·rw [if_neg (by omega)]
  unfold ix
  rw [Int.toNat_natCast,List.getD_eq_getElem?_getD,List.getD_eq_getElem?_getD,List.getElem?_eq_none (by simpa using h),List.getElem?_eq_none h]
def opn (L:List (Nat × Nat)):List Int:=(L.map fun x=>(x.1:Int)).reverse
def lft (L:List (Nat × Nat)):List Int:=(L.map fun x=>(x.2:Int)).reverse
theorem Xw1 (x:Nat × Nat) (L:List (Nat × Nat)):opn (x :: L)=opn L++[(x.1:Int)]:=by simp [opn]
theorem Xur (x:Nat × Nat) (L:List (Nat × Nat)):lft (x :: L)=lft L++[(x.2:Int)]:=by simp [lft]
theorem Xtq (L:List (Nat × Nat)):(opn L).length=L.length:=by simp [opn]
theorem Xue (L:List (Nat × Nat)):(lft L).length=L.length:=by simp [lft]
def need (L:List (Nat × Nat)):Nat:=(L.map (·.2)).sum
theorem Yc6 (x:Nat × Nat) (L:List (Nat × Nat)):need (x :: L)=x.2 + need L:=by simp [need]
def NI (t:List Xm4) (i:Nat) (L:List (Nat × Nat)):Prop:=∀ m U,sf m i=some U→need L≤U.length→(sf (t.take i++m) 0).isSome=true
def Good (t:List Xm4) (m0:Nat):Nat→List (Tre × Nat)→List (Nat × Nat)→Prop
 | i,S,[]=>∀ j q,PR t i S.length (-1) j q→PR t 0 m0 (-1) j q
 | i,S,(a,l) :: r=>l≤S.length∧(∃ x r',At t a ((x,en i (S.take l)) :: r'))∧(∀ j q,PR t i l (a:Int) j q→PR t 0 m0 (-1) j q)∧Good t m0 (en i (S.take l)) (S.drop l) r
theorem PR.lt {t:List Xm4} {a m:Nat} {p:Int} {i:Nat} {q:Int} (h:PR t a m p i q):∀ {S},At t a S→m≤S.length→i < en a (S.take m):=by
 induction h with
 | here=>intro S hS hm; exact (At.skip _ _ rfl hS _ hm).2.2 (by omega)
 | @down a m p x e r i q h h1 h2 k ih =>
  intro S hS hm
  obtain rfl:=hS.uniq h
  rw [List.take_succ_cons,Xsw]
  simp only [List.length_cons] at hm
  have:=(At.skip _ _ rfl h.pos.2.2.2.2 m (by omega)).2.1
  exact Nat.lt_of_lt_of_le h2 this
 | @next a m p x e r i q h h1 k ih =>
  intro S hS hm
  obtain rfl:=hS.uniq h
  rw [List.take_succ_cons,Xsw]
  simp only [List.length_cons] at hm
  exact ih h.pos.2.2.2.2 (by omega)
theorem Good.pop {t:List Xm4} {m0 i a:Nat} {S:List (Tre × Nat)} {r:List (Nat × Nat)} (h:Good t m0 i S ((a,0) :: r)):(∃ x r',At t a ((x,i) :: r'))∧Good t m0 i S r:=by
 obtain ⟨_,h2,_,h4⟩:=h
 simp only [List.take_zero,Xte,List.drop_zero] at h2 h4
 exact ⟨h2,h4⟩
theorem Good.push {t:List Xm4} {m0 i:Nat} {S ts:List (Tre × Nat)} (hi:i < t.length) (hS:At t i S) (hts:At t (i + 1) ts) (hk:0≤t[i].kids∧t[i].kids≤(ts.length:Int))
  (hS2:S=(⟨t[i],(ts.take t[i].kids.toNat).map (·.1),(i:Int)⟩,en (i + 1) (ts.take t[i].kids.toNat)) :: ts.drop t[i].kids.toNat) :
  (∀ {p:Int} {l j:Nat} {q:Int},PR t (i + 1) t[i].kids.toNat (i:Int) j q→PR t i (l + 1) p j q)∧(∀ {p:Int} {l j:Nat} {q:Int},PR t (en (i + 1) (ts.take t[i].kids.toNat)) l p j q→PR t i (l + 1) p j q):=by
 subst hS2
 refine ⟨fun h=>?_,fun h=>.next hS h.le h⟩
 have h1:=h.lt hts (by omega)
 refine .down hS (by have:=h.le; omega) h1 ?_
 simp only [List.length_map,List.length_take]
 rwa [Nat.min_eq_left (by omega)]
def Wf (t:List Xm4):Prop:=∀ n ∈ t,-9223372036854775808≤n.kids∧n.kids≤9223372036854775807
theorem Wf.at {t:List Xm4} (h:Wf t) {i:Nat} (hi:i < t.length):-9223372036854775808≤t[i].kids∧t[i].kids≤9223372036854775807:=h _ (List.getElem_mem hi)
structure PI (t:List Xm4) (i:Nat) (L:List (Nat × Nat)) (P E:List Int):Prop where
 hi:i≤t.length
 hP:P.length=t.length
 hE:E.length=t.length
 hL:L.length≤i
 hb:∀ x ∈ L,x.1 < i∧x.2≤9223372036854775807
 ni:NI t i L
 ok:∀ S0,sf t 0=some S0→∃ S,At t i S∧Good t S0.length i S L∧∀ j,j < i→PR t 0 S0.length (-1) j (ix P (j:Int))∧(j ∈ L.map (·.1)∨∃ x e r,At t j ((x,e) :: r)∧ix E (j:Int)=(e:Int))
def Yak (t:List Xm4) (f:Xnu):Prop:=f.nodes=t∧f.parent.length=t.length∧f.end_.length=t.length∧f.ok=(sf t 0).isSome ∧
 ∀ S0,sf t 0=some S0→∀ j,j < t.length→PR t 0 S0.length (-1) j (ix f.parent (j:Int))∧∃ x e r,At t j ((x,e) :: r)∧ix f.end_ (j:Int)=(e:Int)
def topOk (L:List (Nat × Nat)):Prop:=∀ x r,L=x :: r→x.2≠0
abbrev PSt:=(List Int) × (List Int) × Int × (List Int) × (List Int)
theorem Yfs {t:List Xm4} (hl:t.length≤2 ^ 41) {i:Nat} (hi:i < t.length) {P:List Int}:∀ (n:Nat) {L:List (Nat × Nat)} {E:List Int},L.length=n→PI t (i + 1) L P E →
  ∃ L' E',Xmh (fun (s:(List Int) × (List Int) × (List Int)) o=>Xp4 i P s.1 s.2.1 s.2.2 o) (opn L,lft L,E) ((.inl (opn L',lft L',((i + 1:Nat):Int),P,E')):Sum PSt Xnu)∧PI t (i + 1) L' P E'∧topOk L':=by
 intro n
 induction n with
 | zero =>
  intro L E hn h
  obtain rfl:=List.eq_nil_of_length_eq_zero hn
  refine ⟨[],E,.done ?_,h,fun x r e=>by cases e⟩
  show Xp4 (i:Int) P (opn []) (lft []) E _
  unfold Xp4
  rw [if_neg (by simp [opn]),Xpj (by omega)]
  rfl
 | succ n ih =>
  intro L E hn h
  match L with
  | (a,l) :: r =>
   have hlen:=h.hL
   simp only [List.length_cons] at hlen hn
   have w1:w64 (((opn ((a,l) :: r)).length:Int) - 1)=((opn r).length:Int):=by rw [Xtq,Xtq,List.length_cons,Xqy (by omega)]; omega
   have w2:w64 (((lft ((a,l) :: r)).length:Int) - 1)=((lft r).length:Int):=by rw [Xue,Xue,List.length_cons,Xqy (by omega)]; omega
   have b1:(opn r).length < (opn ((a,l) :: r)).length:=by rw [Xtq,Xtq,List.length_cons]; omega
   have b2:(lft r).length < (lft ((a,l) :: r)).length:=by rw [Xue,Xue,List.length_cons]; omega
   by_cases hl0:l=0
   ·subst hl0
    obtain ⟨ha,_⟩:=h.hb (a,0) (by simp)
    simp only at ha
    have hE:=h.hE
    have hPI:PI t (i + 1) r P (E.set a ((i:Int) + 1)):=by
     refine ⟨h.hi,h.hP,by rw [List.length_set]; exact hE,by omega,fun x hx=>h.hb x (by simp [hx]),fun m U h1 h2=>h.ni m U h1 (by rw [Yc6]; omega),fun S0 hS0=>?_⟩
     obtain ⟨S,s1,s2,s3⟩:=h.ok S0 hS0
     obtain ⟨g1,g2⟩:=s2.pop
     refine ⟨S,s1,g2,fun j hj=>?_⟩
     obtain ⟨q1,q2⟩:=s3 j hj
     refine ⟨q1,?_⟩
     rw [Ye4 (by omega)]
     by_cases e:j=a
     ·subst e
      obtain ⟨x,r',g⟩:=g1
      right
      exact ⟨x,i + 1,r',g,by rw [if_pos rfl]; rfl⟩
     ·rw [if_neg e]
      rcases q2 with q2 | q2
      ·simp only [List.map_cons,List.mem_cons] at q2
       exact .inl (q2.resolve_left e)
      ·exact .inr q2
    obtain ⟨L',E',r1,r2,r3⟩:=ih (by omega) hPI
    refine ⟨L',E',.next ?_ r1,r2,r3⟩
    show Xp4 (i:Int) P (opn ((a,0) :: r)) (lft ((a,0) :: r)) E _
    unfold Xp4
    rw [w1,w2,if_pos (by omega)]
    refine ⟨by omega,?_⟩
    have e1:ix (lft ((a,0) :: r)) ((lft r).length:Int)=0:=by rw [Xur,Xwt]; rfl
    have e2:ix (opn ((a,0) :: r)) ((opn r).length:Int)=(a:Int):=by rw [Xw1,Xwt]
    rw [e1,e2,if_pos rfl]
    refine ⟨by omega,by omega,_,rfl,by omega,_,rfl,by omega,_,rfl,?_⟩
    rw [Int.toNat_natCast,Int.toNat_natCast,Int.toNat_natCast,Xw1,Yap,Xur,Yap,Xpj (by omega)]
   ·refine ⟨(a, l) :: r, E, .done ?_, h, fun x r' e => by injection e with e1 e2; subst e1; exact hl0⟩
    show Xp4 (i:Int) P (opn ((a,l) :: r)) (lft ((a,l) :: r)) E _
    unfold Xp4
    rw [w1,w2,if_pos (by omega)]
    refine ⟨by omega,?_⟩
    have e1:ix (lft ((a,l) :: r)) ((lft r).length:Int)=(l:Int):=by rw [Xur,Xwt]
    rw [e1,if_neg (by omega),Xpj (by omega)]
    rfl
theorem NI.step {t:List Xm4} {i:Nat} (hi:i < t.length) {L r:List (Nat × Nat)} {k:Nat} (h:NI t i L) (hk:t[i].kids=(k:Int)) (hn:need L≤need r + 1):NI t (i + 1) ((i,k) :: r):=fun m U h1 h2=>by
 rw [Yc6] at h2
 simp only at h2
 have e:=Yad (n:=t[i]) h1 (by omega)
 have:=h (t[i] :: m) _ e (by simp; omega)
 rwa [show t.take i++t[i] :: m=t.take (i + 1)++m by rw [List.take_succ_eq_append_getElem hi,List.append_assoc]; rfl] at this
theorem Yd4 {t:List Xm4} (hl:t.length≤2 ^ 41) (hw:Wf t):∃ f,Xtn t f∧Yak t f:=by
 unfold Xtn
 have key:=Xmh.some (B:=fun (s:PSt) o=>Xph t s.1 s.2.1 s.2.2.1 s.2.2.2.1 s.2.2.2.2 o) (P:=Yak t)
  (fun s:PSt=>∃ (i:Nat) (L:List (Nat × Nat)) (P E:List Int),s=(opn L,lft L,(i:Int),P,E)∧PI t i L P E∧topOk L) (fun s=>t.length - s.2.2.1.toNat) (fun s hs=>?_)
  (s:=(([]:List Int),([]:List Int),0,List.replicate t.length (0:Int),List.replicate t.length (0:Int)))
  ⟨0,[],_,_,rfl,⟨Nat.zero_le _,by simp,by simp,by simp,fun x hx=>(by cases hx),fun m U h1 h2=>(by rw [List.take_zero,List.nil_append,h1]; rfl),fun S0 hS0=>⟨S0,⟨Nat.zero_le _,hS0⟩,fun j q h=>h,fun j hj=>absurd hj (Nat.not_lt_zero _)⟩⟩,fun x r e=>by cases e⟩
 ·obtain ⟨f,k1,k2⟩:=key
  exact ⟨f,⟨by omega,_,by rw [Int.toNat_natCast],_,by rw [Int.toNat_natCast],k1⟩,k2⟩
 obtain ⟨i,L,P,E,rfl,h,htop⟩:=hs
 simp only [Int.toNat_natCast]
 by_cases hi:i < t.length
 ·have hP:=h.hP
  have hE:=h.hE
  have hlen:=h.hL
  have wk:=hw.at hi
  -- what is behind the reading of a node
  have j2:∀ (L2:List (Nat × Nat)) (P2:List Int),(t[i].kids < 0→P2.length=t.length)→(∀ k:Nat,t[i].kids=(k:Int)→PI t (i + 1) ((i,k) :: L2) P2 E)→L2.length≤i →
    (∃ r,Xp5 t (i:Int) E (opn L2) (lft L2) P2 (.inr r)∧Yak t r)∨∃ s',Xp5 t (i:Int) E (opn L2) (lft L2) P2 (.inl s')∧(∃ (i:Nat) (L:List (Nat × Nat)) (P E:List Int),s'=(opn L,lft L,(i:Int),P,E)∧PI t i L P E∧topOk L)∧t.length - s'.2.2.1.toNat < t.length - i:=by
   intro L2 P2 hP2 hPI hL2
   by_cases hneg:t[i].kids < 0
   ·left
    refine ⟨⟨t,P2,E,false⟩,?_,rfl,hP2 hneg,hE,?_,?_⟩
    ·unfold Xp5
     rw [Xnk hi,if_pos hneg]
    ·cases hS:sf t 0 with
     | none=>rfl
     | some S0 =>
      obtain ⟨S,s1,_⟩:=h.ok S0 hS
      obtain ⟨ts,_,g,_⟩:=s1.next hi
      omega
    ·intro S0 hS
     obtain ⟨S,s1,_⟩:=h.ok S0 hS
     obtain ⟨ts,_,g,_⟩:=s1.next hi
     omega
   ·right
    obtain ⟨k,hk⟩:∃ k:Nat,t[i].kids=(k:Int):=⟨t[i].kids.toNat,by omega⟩
    obtain ⟨L',E',r1,r2,r3⟩:=Yfs hl hi _ rfl (hPI k hk)
    refine ⟨_,?_,⟨i + 1,L',P2,E',rfl,r2,r3⟩,by simp only [Int.toNat_natCast]; omega⟩
    unfold Xp5
    rw [Xnk hi,if_neg hneg]
    refine ⟨_,rfl,by rw [List.length_append,Xtq]; simp; omega,_,rfl,by rw [List.length_append,Xue]; simp; omega,?_⟩
    rw [hk]
    have e1:=Xw1 (i,k) L2
    have e2:=Xur (i,k) L2
    simp only at e1 e2
    rw [← e1,← e2]
    exact r1
  have red:∀ o,(if ((opn L).length:Int) > 0 then
    (0≤w64 (((opn L).length:Int) - 1)∧w64 (((opn L).length:Int) - 1) < ((opn L).length:Int))∧∃ x891:List Int,(x891=(P.set i (-1)).set i (ix (opn L) (w64 (((opn L).length:Int) - 1)))) ∧
    (0≤w64 (((lft L).length:Int) - 1)∧w64 (((lft L).length:Int) - 1) < ((lft L).length:Int)) ∧
    ∃ x897:List Int,(x897=(lft L).set (w64 (((lft L).length:Int) - 1):Int).toNat (w64 ((ix (lft L) (w64 (((lft L).length:Int) - 1))) - 1)))∧Xp5 t (i:Int) E (opn L) x897 x891 o
    else Xp5 t (i:Int) E (opn L) (lft L) (P.set i (-1)) o)→Xph t (opn L) (lft L) (i:Int) P E o:=fun o ho=>by
   unfold Xph
   rw [if_pos (by omega)]
   refine ⟨by omega,by omega,_,rfl,?_⟩
   rw [Int.toNat_natCast]
   by_cases g:((opn L).length:Int) > 0
   ·rw [if_pos g] at ho ⊢
    obtain ⟨h1,x,h2,h3,y,h4,h5⟩:=ho
    exact ⟨h1,by rw [List.length_set]; omega,x,h2,h3,y,h4,h5⟩
   ·rw [if_neg g] at ho ⊢
    exact ho
  match hL:L,h,htop,hlen,red with
  | [],h,htop,hlen,red =>
   have:=j2 [] (P.set i (-1)) (fun _=>by rw [List.length_set]; exact hP) (fun k hk=>?_) (by simp)
   ·rcases this with ⟨r,g1,g2⟩ | ⟨s',g1,g2⟩
    ·exact .inl ⟨r,red _ (by rw [if_neg (by simp [opn])]; exact g1),g2⟩
    ·exact .inr ⟨s',red _ (by rw [if_neg (by simp [opn])]; exact g1),g2⟩
   ·refine ⟨hi, by rw [List.length_set]; exact hP, hE, by simp, fun x hx => by simp only [List.mem_singleton] at hx; subst hx; exact ⟨by simp only; omega, by simp only; omega⟩, h.ni.step hi hk (by simp [need]), fun S0 hS0 => ?_⟩
    obtain ⟨S,s1,s2,s3⟩:=h.ok S0 hS0
    obtain ⟨ts,t1,t2,t3⟩:=s1.next hi
    obtain ⟨p1,p2⟩:=Good.push (m0:=S0.length) hi s1 t1 t2 t3
    have hkk:t[i].kids.toNat=k:=by omega
    have hSl:S.length=(ts.drop k).length + 1:=by rw [t3,hkk]; rfl
    rw [hkk] at p1 p2 t3
    refine ⟨ts,t1,⟨by omega,⟨_,_,by rw [← t3]; exact s1⟩,fun j q hq=>s2 j q (by rw [hSl]; exact p1 hq),fun j q hq=>s2 j q (by rw [hSl]; exact p2 hq)⟩,fun j hj=>?_⟩
    rw [Ye4 (by omega)]
    by_cases e:j=i
    ·subst e
     rw [if_pos rfl]
     exact ⟨s2 _ _ (by rw [hSl]; exact .here),.inl (by simp)⟩
    ·rw [if_neg e]
     obtain ⟨q1,q2⟩:=s3 j (by omega)
     refine ⟨q1,?_⟩
     rcases q2 with q2 | q2
     ·simp at q2
     ·exact .inr q2
  | (a,l) :: r,h,htop,hlen,red =>
   have hl1:=htop _ _ rfl
   simp only at hl1
   obtain ⟨l,rfl⟩:∃ l',l=l' + 1:=⟨l - 1,by omega⟩
   obtain ⟨ha,hlb⟩:=h.hb (a,l + 1) (by simp)
   simp only at ha hlb
   simp only [List.length_cons] at hlen
   have w1:w64 (((opn ((a,l + 1) :: r)).length:Int) - 1)=((opn r).length:Int):=by rw [Xtq,Xtq,List.length_cons,Xqy (by omega)]; omega
   have w2:w64 (((lft ((a,l + 1) :: r)).length:Int) - 1)=((lft r).length:Int):=by rw [Xue,Xue,List.length_cons,Xqy (by omega)]; omega
   have b1:(opn r).length < (opn ((a,l + 1) :: r)).length:=by rw [Xtq,Xtq,List.length_cons]; omega
   have b2:(lft r).length < (lft ((a,l + 1) :: r)).length:=by rw [Xue,Xue,List.length_cons]; omega
   have e1:ix (lft ((a,l + 1) :: r)) ((lft r).length:Int)=((l + 1:Nat):Int):=by rw [Xur,Xwt]
   have e2:ix (opn ((a,l + 1) :: r)) ((opn r).length:Int)=(a:Int):=by rw [Xw1,Xwt]
   have e3:(lft ((a,l + 1) :: r)).set (lft r).length ((l:Nat):Int)=lft ((a,l) :: r):=by rw [Xur,Ydu,Xur]
   have e4:opn ((a,l) :: r)=opn ((a,l + 1) :: r):=by rw [Xw1,Xw1]
   have red2:∀ o,Xp5 t (i:Int) E (opn ((a,l) :: r)) (lft ((a,l) :: r)) (P.set i (a:Int)) o→Xph t (opn ((a,l + 1) :: r)) (lft ((a,l + 1) :: r)) (i:Int) P E o:=fun o ho=>by
    refine red o ?_
    rw [if_pos (by omega),w1,w2,e1,e2]
    refine ⟨by omega,_,rfl,by omega,_,rfl,?_⟩
    rw [Int.toNat_natCast,show w64 (((l + 1:Nat):Int) - 1)=(l:Int) by rw [Xqy (by omega)]; omega,e3,List.set_set,← e4]
    exact ho
   have:=j2 ((a,l) :: r) (P.set i (a:Int)) (fun _=>by rw [List.length_set]; exact hP) (fun k hk=>?_) (by simp; omega)
   ·rcases this with ⟨r',g1,g2⟩ | ⟨s',g1,g2⟩
    ·exact .inl ⟨r',red2 _ g1,g2⟩
    ·exact .inr ⟨s',red2 _ g1,g2⟩
   ·refine ⟨hi, by rw [List.length_set]; exact hP, hE, by simp; omega, fun x hx => ?_, h.ni.step hi hk (by simp [need]; omega), fun S0 hS0 => ?_⟩
    ·rcases List.mem_cons.1 hx with rfl | hx
     ·exact ⟨by simp only; omega,by simp only; omega⟩
     ·rcases List.mem_cons.1 hx with rfl | hx
      ·exact ⟨by simp only; omega,by simp only; omega⟩
      ·obtain ⟨g1,g2⟩:=h.hb x (by simp [hx]); exact ⟨by omega,g2⟩
    obtain ⟨S,s1,⟨s21,s22,s23,s24⟩,s3⟩:=h.ok S0 hS0
    obtain ⟨ts,t1,t2,t3⟩:=s1.next hi
    obtain ⟨p1,p2⟩:=Good.push (m0:=S0.length) hi s1 t1 t2 t3
    have hkk:t[i].kids.toNat=k:=by omega
    rw [hkk] at p1 p2 t3
    have hd:S.drop (l + 1)=(ts.drop k).drop l:=by rw [t3]; rfl
    have he:en i (S.take (l + 1))=en (en (i + 1) (ts.take k)) ((ts.drop k).take l):=by rw [t3,List.take_succ_cons,Xsw]
    rw [he] at s22 s24
    rw [hd] at s24
    have hSl:S.length=(ts.drop k).length + 1:=by rw [t3]; rfl
    refine ⟨ts,t1,⟨by omega,⟨_,_,by rw [← t3]; exact s1⟩,fun j q hq=>s23 j q (p1 hq),⟨by omega,s22,fun j q hq=>s23 j q (p2 hq),s24⟩⟩,fun j hj=>?_⟩
    rw [Ye4 (by omega)]
    by_cases e:j=i
    ·subst e
     rw [if_pos rfl]
     exact ⟨s23 _ _ .here,.inl (by simp)⟩
    ·rw [if_neg e]
     obtain ⟨q1,q2⟩:=s3 j (by omega)
     refine ⟨q1,?_⟩
     rcases q2 with q2 | q2
     ·left
      simp only [List.map_cons,List.mem_cons] at q2 ⊢
      exact .inr q2
     ·exact .inr q2
 ·left
  have hin:i=t.length:=by have:=h.hi; omega
  subst hin
  refine ⟨⟨t,P,E,((opn L).length:Int) == 0⟩,?_,rfl,h.hP,h.hE,?_,fun S0 hS0 j hj=>?_⟩
  ·show Xph _ _ _ _ _ _ _
   unfold Xph
   rw [if_neg (by omega)]
  ·have hemp:(sf t 0).isSome=true↔L=[]:=by
    constructor
    ·intro hs
     obtain ⟨S0,hS0⟩:=Option.isSome_iff_exists.1 hs
     obtain ⟨S,s1,s2,_⟩:=h.ok S0 hS0
     obtain rfl:=s1.uniq At.last
     match L,s2,htop with
     | [],_,_=>rfl
     | (a,l) :: r,s2,htop =>
      have h1:=s2.1
      have h2:=htop _ _ rfl
      simp at h1 h2
      omega
    ·rintro rfl
     have:=h.ni [] [] rfl (by simp [need])
     rwa [List.append_nil,List.take_length] at this
   rw [Xtq,Bool.eq_iff_iff,hemp]
   simp only [beq_iff_eq]
   constructor
   ·intro g; exact List.eq_nil_of_length_eq_zero (by omega)
   ·rintro rfl; rfl
  ·obtain ⟨S,s1,s2,s3⟩:=h.ok S0 hS0
   obtain rfl:=s1.uniq At.last
   obtain ⟨q1,q2⟩:=s3 j hj
   refine ⟨q1,?_⟩
   rcases q2 with q2 | q2
   ·match L,s2,htop with
    | [],_,_=>simp at q2
    | (a,l) :: r,s2,htop =>
     have h1:=s2.1
     have h2:=htop _ _ rfl
     simp at h1 h2
     omega
   ·exact q2
end Go.Proofs.Ytmekgfcfooghnaa.L
