/- Forests: what the document's own 'Forest' and 'find' answer. Conditions: the list fits in memory. -/
import Derived.Test.YtmekgfcfooghnaaF2
set_option linter.unusedVariables false
namespace Go.Proofs.Ytmekgfcfooghnaa.L
open Go.Proofs.Ytmekgfcfooghnaa.B Go.Proofs.Ytmekgfcfooghnaa.R
abbrev Xwd (t:List Xm4):Prop:=t.length≤1954687338211
def Ycc:Tre:=⟨(⟨(⟨#[]⟩:ByteArray),false,(⟨#[]⟩:ByteArray),0,0,0,0⟩:Xm4),[],0⟩
theorem en_snoc (a:Nat) (l:List (Tre × Nat)) (x:Tre × Nat):en a (l++[x])=x.2:=by
 induction l generalizing a with
 | nil=>rfl
 | cons y l ih=>rw [List.cons_append,Xsw]; exact ih _
theorem Xxp {a j:Nat} {S:List (Tre × Nat)} (h:j < S.length):en a (S.take (j + 1))=S[j].2:=by rw [List.take_succ_eq_append_getElem h,en_snoc]
theorem At.nth {t:List Xm4} {a j:Nat} {S:List (Tre × Nat)} (h:At t a S) (hj:j < S.length):At t (en a (S.take j)) ((S[j].1,S[j].2) :: S.drop (j + 1))∧a≤en a (S.take j):=by
 obtain ⟨h1,h2,_⟩:=At.skip _ _ rfl h j (by omega)
 rw [List.drop_eq_getElem_cons hj] at h1
 exact ⟨h1,h2⟩
theorem Yey (y:Tre):y=⟨y.node,y.kids,y.at_⟩:=by cases y; rfl
theorem take_ok {t:List Xm4} (hl:Xwd t):∀ (f i:Nat) {x:Tre} {e:Nat} {r:List (Tre × Nat)},t.length - i < f→At t i ((x,e) :: r)→Xn2 f t (i:Int) (x,(e:Int),true):=by
 intro f
 induction f with
 | zero=>intro i x e r hf; omega
 | succ f ih =>
  intro i x e r hf h
  obtain ⟨hi,hx,he,hn,hr⟩:=h.pos
  obtain ⟨ts,h1,hk,hen,hlen,hnode⟩:=h.kids hi
  have hts:(ts++r).length≤t.length:=by
   have:=(Ya3 _ _ h1.2).2
   rw [List.length_drop] at this
   omega
  rw [List.length_append] at hts
  show Xnn (Xn2 f) t (i:Int) _
  unfold Xnn
  rw [if_neg (by omega)]
  refine ⟨by omega,?_⟩
  rw [Xnk hi,if_neg (by omega),decide_eq_false (by omega)]
  unfold Xni
  rw [if_neg (by simp)]
  refine ⟨by omega,?_⟩
  rw [Xqy (by omega)]
  have key:=Xmh.upto (B:=fun (s:Int × Int × (List Tre)) o=>Xn5 t (i:Int) (Xn2 f) s.1 s.2.1 s.2.2 o) (r:=(x,(e:Int),true)) (fun j=>((en (i + 1) (ts.take j):Int),(j:Int),(ts.take j).map (·.1))) ts.length (fun j hj=>?_) ?_
  ·simpa [Xte] using key
  ·show Xn5 t (i:Int) _ (en (i + 1) (ts.take j):Int) (j:Int) ((ts.take j).map (·.1)) _
   obtain ⟨a1,a2⟩:=h1.nth (j:=j) (by rw [List.length_append]; omega)
   rw [List.take_append_of_le_length (by omega),List.getElem_append_left hj] at a1
   rw [List.take_append_of_le_length (by omega)] at a2
   have:=a1.pos
   unfold Xn5
   rw [Xnk hi,if_pos (by omega)]
   refine ⟨_,ih _ (by omega) a1,?_⟩
   rw [if_pos rfl]
   refine ⟨_,rfl,by simp; omega,?_⟩
   rw [Xpj (by omega),Xxp hj,List.take_succ_eq_append_getElem hj,List.map_append]
   rfl
  ·show Xn5 t (i:Int) _ (en (i + 1) (ts.take ts.length):Int) (ts.length:Int) ((ts.take ts.length).map (·.1)) _
   unfold Xn5
   rw [Xnk hi,if_neg (by omega),List.take_length,hen,← hk,← hnode,← hx]
   exact congrArg (fun z:Tre=>Sum.inr (z,(e:Int),true)) (Yey x)
theorem Yfa {t:List Xm4} {a b c:Nat} {ts us:List (Tre × Nat)} (hab:a≤b) (hbc:b≤c) (hc:c≤t.length) (h1:sf ((t.take b).drop a) a=some ts) (h2:sf ((t.take c).drop b) b=some us):sf ((t.take c).drop a) a=some (ts++us):=by
 have e:(t.take c).drop a=(t.take b).drop a++(t.take c).drop b:=by
  rw [List.drop_take,List.drop_take,List.drop_take]
  have h3:t.drop b=(t.drop a).drop (b - a):=by rw [List.drop_drop]; congr 1; omega
  rw [h3,show c - a=(b - a) + (c - b) by omega,List.take_add]
 rw [e]
 refine sf_app _ _ _ h1 ?_
 rw [List.length_drop,List.length_take,show a + (min b t.length - a)=b by omega]
 exact h2
theorem take_ex {t:List Xm4} (hl:Xwd t):∀ (f i:Nat),t.length - i < f→i≤t.length→∃ r,Xn2 f t (i:Int) r∧(r.2.2=true→∃ x e,r=(x,((e:Nat):Int),true)∧i < e∧e≤t.length∧sf ((t.take e).drop i) i=some [(x,e)]):=by
 intro f
 induction f with
 | zero=>intro i hf; omega
 | succ f ih =>
  intro i hf hi0
  have j1t:Xni (i:Int) t (Xn2 f) true (Ycc,(i:Int),false):=by unfold Xni; rw [if_pos rfl]; rfl
  have no:∀ r:Tre × Int × Bool,r=(Ycc,(i:Int),false)→(r.2.2=true→∃ x e,r=(x,((e:Nat):Int),true)∧i < e∧e≤t.length∧sf ((t.take e).drop i) i=some [(x,e)]):=fun r hr h=>by subst hr; cases h
  by_cases hi:i < t.length
  ·have red:∀ r,(if t[i].kids < 0 then Xni (i:Int) t (Xn2 f) true r else Xni (i:Int) t (Xn2 f) (decide (t[i].kids > (t.length:Int))) r)→Xn2 (f + 1) t (i:Int) r:=fun r hr=>by
    show Xnn (Xn2 f) t (i:Int) _
    unfold Xnn
    rw [if_neg (by omega),Xnk hi]
    exact ⟨by omega,hr⟩
   by_cases k1:t[i].kids < 0
   ·exact ⟨_,red _ (by rw [if_pos k1]; exact j1t),no _ rfl⟩
   by_cases k2:t[i].kids > (t.length:Int)
   ·exact ⟨_,red _ (by rw [if_neg k1,decide_eq_true k2]; exact j1t),no _ rfl⟩
   obtain ⟨k,hk⟩:∃ k:Nat,t[i].kids=(k:Int):=⟨t[i].kids.toNat,by omega⟩
   have key:=Xmh.some (B:=fun (s:Int × Int × (List Tre)) o=>Xn5 t (i:Int) (Xn2 f) s.1 s.2.1 s.2.2 o) (P:=fun r=>(r.2.2=true→∃ x e,r=(x,((e:Nat):Int),true)∧i < e∧e≤t.length∧sf ((t.take e).drop i) i=some [(x,e)]))
    (fun s=>∃ (b:Nat) (ts:List (Tre × Nat)),s=((b:Int),(ts.length:Int),ts.map (·.1))∧ts.length≤k∧i + 1≤b∧b≤t.length∧sf ((t.take b).drop (i + 1)) (i + 1)=some ts) (fun s=>k - s.2.1.toNat) (fun s hs=>?_) (s:=(((i + 1:Nat):Int),0,[]))
    ⟨i + 1,[],rfl,by simp,by omega,by omega,by rw [List.drop_eq_nil_of_le (by rw [List.length_take]; omega)]; rfl⟩
   ·obtain ⟨r,r1,r2⟩:=key
    refine ⟨r,red _ ?_,r2⟩
    rw [if_neg k1,decide_eq_false k2]
    unfold Xni
    rw [if_neg (by simp)]
    refine ⟨by omega,?_⟩
    rw [Xqy (by omega)]
    exact r1
   ·obtain ⟨b,ts,rfl,s1,s2,s3,s4⟩:=hs
    have hlen:=(Ya3 _ _ s4)
    rw [List.length_drop,List.length_take] at hlen
    simp only [Int.toNat_natCast]
    by_cases hj:ts.length < k
    ·obtain ⟨r, r1, r2⟩ := ih b (by omega) s3
     by_cases hr:r.2.2=true
     ·right
      obtain ⟨x,e,rfl,e1,e2,e3⟩:=r2 hr
      have hseg:=Yfa (t:=t) (a:=i + 1) (by omega) (by omega) e2 s4 e3
      refine ⟨((e:Int),((ts++[(x,e)]).length:Int),(ts++[(x,e)]).map (·.1)),?_,⟨e,ts++[(x,e)],rfl,by simp; omega,by omega,e2,hseg⟩,by simp; omega⟩
      unfold Xn5
      rw [Xnk hi,if_pos (by omega)]
      refine ⟨_,r1,?_⟩
      rw [if_pos rfl]
      refine ⟨_,rfl,by simp; omega,?_⟩
      rw [Xpj (by omega),List.map_append,List.length_append]
      rfl
     ·left
      refine ⟨(Ycc,(i:Int),false),?_,fun h=>by cases h⟩
      unfold Xn5
      rw [Xnk hi,if_pos (by omega)]
      refine ⟨_,r1,?_⟩
      rw [if_neg hr]
      rfl
    ·left
     have hjk:ts.length=k:=by omega
     have e1:(t.take b).drop i=t[i] :: (t.take b).drop (i + 1):=by
      rw [List.drop_eq_getElem_cons (by rw [List.length_take]; omega),List.getElem_take]
     have e2:=Yad (n:=t[i]) s4 (by omega)
     rw [show t[i].kids.toNat=ts.length by omega,List.take_length,List.drop_length,hlen.1] at e2
     refine ⟨(⟨t[i],ts.map (·.1),(i:Int)⟩,(b:Int),true),?_,fun _=>⟨_,b,rfl,by omega,s3,?_⟩⟩
     ·unfold Xn5
      rw [Xnk hi,if_neg (by omega)]
     ·rw [e1,e2,show i + 1 + (min b t.length - (i + 1))=b by omega]
  ·refine ⟨_,?_,no _ rfl⟩
   show Xnn (Xn2 f) t (i:Int) _
   unfold Xnn
   rw [if_pos (by omega)]
   exact j1t
theorem Yfi {t:List Xm4} (hl:Xwd t) {S:List (Tre × Nat)} (h:sf t 0=some S):Xog t (S.map (·.1),true):=by
 have hA:At t 0 S:=⟨Nat.zero_le _,h⟩
 have hS:=(Ya3 _ _ h).2
 unfold Xog
 have key:=Xmh.upto (B:=fun (s:(List Tre) × Int) o=>Xn0 t s.1 s.2 o) (r:=(S.map (·.1),true)) (fun j=>((S.take j).map (·.1),(en 0 (S.take j):Int))) S.length (fun j hj=>?_) ?_
 ·simpa [Xte] using key
 ·show Xn0 t ((S.take j).map (·.1)) (en 0 (S.take j):Int) _
  obtain ⟨a1,a2⟩:=hA.nth hj
  have:=a1.pos
  unfold Xn0
  rw [if_pos (by omega)]
  refine ⟨_,⟨_,take_ok hl _ _ (Nat.lt_succ_self _) a1⟩,?_⟩
  rw [if_pos rfl]
  refine ⟨_,rfl,by simp; omega,?_⟩
  rw [Xxp hj,List.take_succ_eq_append_getElem hj,List.map_append]
  rfl
 ·show Xn0 t ((S.take S.length).map (·.1)) (en 0 (S.take S.length):Int) _
  unfold Xn0
  rw [List.take_length,if_neg (by rw [hA.ens]; omega)]
theorem Yfw {t:List Xm4} (hl:Xwd t) (h:sf t 0=none):Xog t ([],false):=by
 unfold Xog
 have key:=Xmh.some (B:=fun (s:(List Tre) × Int) o=>Xn0 t s.1 s.2 o) (P:=fun r=>r=([],false))
  (fun s=>∃ (b:Nat) (ts:List (Tre × Nat)),s=(ts.map (·.1),(b:Int))∧b≤t.length∧sf ((t.take b).drop 0) 0=some ts) (fun s=>t.length - s.2.toNat) (fun s hs=>?_) (s:=([],0)) ⟨0,[],rfl,Nat.zero_le _,by simp [sf]⟩
 ·obtain ⟨r,r1,r2⟩:=key
  subst r2; exact r1
 ·obtain ⟨b,ts,rfl,s1,s2⟩:=hs
  have hlen:=(Ya3 _ _ s2).2
  rw [List.drop_zero,List.length_take] at hlen
  simp only [Int.toNat_natCast]
  by_cases hb:b < t.length
  ·obtain ⟨r,r1,r2⟩:=take_ex hl _ b (Nat.lt_succ_self _) s1
   by_cases hr:r.2.2=true
   ·right
    obtain ⟨x,e,rfl,e1,e2,e3⟩:=r2 hr
    have hseg:=Yfa (t:=t) (a:=0) (by omega) (by omega) e2 s2 e3
    refine ⟨((ts++[(x,e)]).map (·.1),(e:Int)),?_,⟨e,_,rfl,e2,hseg⟩,by simp; omega⟩
    unfold Xn0
    rw [if_pos (by omega)]
    refine ⟨_,⟨_,r1⟩,?_⟩
    rw [if_pos rfl]
    refine ⟨_,rfl,by simp; omega,?_⟩
    rw [List.map_append]
    rfl
   ·left
    refine ⟨_,?_,rfl⟩
    unfold Xn0
    rw [if_pos (by omega)]
    refine ⟨_,⟨_,r1⟩,?_⟩
    rw [if_neg hr]
  ·rw [List.drop_zero, List.take_of_length_le (by omega), h] at s2
   cases s2
theorem PR.skip {t:List Xm4} {p:Int} {i:Nat} {q:Int}:∀ (j:Nat) {a m:Nat} {S:List (Tre × Nat)},At t a S→j≤m→m≤S.length→PR t (en a (S.take j)) (m - j) p i q→PR t a m p i q
 | 0,a,m,S,hS,hj,hm,h=>by simpa [Xte] using h
 | j + 1,a,m + 1,(x,e) :: S,hS,hj,hm,h=>by
  rw [List.take_succ_cons,Xsw,show m + 1 - (j + 1)=m - j by omega] at h
  have h2:=PR.skip j hS.pos.2.2.2.2 (by omega) (by simpa using hm) h
  exact .next hS h2.le h2
theorem pick {a i:Nat} {S:List (Tre × Nat)}:∀ m,m≤S.length→a≤i→i < en a (S.take m)→∃ j,∃ hj:j < m,∃ hS:j < S.length,en a (S.take j)≤i∧i < S[j].2
 | 0,hm,ha,h=>by simp [Xte] at h; omega
 | m + 1,hm,ha,h=>by
  rcases Nat.lt_or_ge i (en a (S.take m)) with g | g
  ·obtain ⟨j, hj, hS, h1, h2⟩ := pick m (by omega) ha g
   exact ⟨j,by omega,hS,h1,h2⟩
  ·rw [Xxp (by omega)] at h
   exact ⟨m,by omega,by omega,g,h⟩
theorem Yff {t:List Xm4} {a j k:Nat} {S:List (Tre × Nat)} (h:At t a S) (hjk:j≤k) (hk:k≤S.length):en a (S.take j)≤en a (S.take k):=by
 obtain ⟨h1,_⟩:=At.skip _ _ rfl h j (by omega)
 have h2:=(At.skip _ _ rfl h1 (k - j) (by rw [List.length_drop]; omega)).2.1
 have e:=en_app a (S.take k) j
 rw [List.take_take,Nat.min_eq_left hjk,List.drop_take] at e
 omega
theorem Yfg {t:List Xm4} (hl:Xwd t) (hw:Wf t):∃ b,Xof t b:=by
 unfold Xof
 have key:=Xmh.some (B:=fun (s:(List Int) × Int) o=>Xnw t s.1 s.2 o) (P:=fun _=>True)
  (fun s=>∃ i:Nat,s.2=(i:Int)∧i≤t.length∧s.1.length≤i∧∀ x ∈ s.1,x≤9223372036854775807) (fun s=>t.length - s.2.toNat) (fun s hs=>?_) (s:=([],0)) ⟨0,rfl,Nat.zero_le _,by simp,by simp⟩
 ·obtain ⟨r,h,_⟩:=key; exact ⟨r,h⟩
 obtain ⟨L,i_⟩:=s
 obtain ⟨i,hi_,h1,h2,h3⟩:=hs
 simp only at hi_ h2 h3
 subst hi_
 simp only [Int.toNat_natCast]
 by_cases hi:i < t.length
 ·have wk:=hw.at hi
  have fin:∀ L2:List Int,L2.length≤i + 1→(∀ x ∈ L2,x≤9223372036854775807)→∃ r2:Sum (List Int × Int) Bool,(if (L2.length:Int) > 65536 then (.inr r2:Sum (List Int) (Sum (List Int × Int) Bool))=.inr (.inr true) else (.inr r2:Sum (List Int) (Sum (List Int × Int) Bool))=.inr (.inl (L2,w64 ((i:Int) + 1))))∧((∃ r,r2=.inr r)∨∃ s',r2=.inl s'∧(∃ i:Nat,s'.2=(i:Int)∧i≤t.length∧s'.1.length≤i∧∀ x ∈ s'.1,x≤9223372036854775807)∧t.length - s'.2.toNat < t.length - i):=by
   intro L2 g1 g2
   by_cases g:(L2.length:Int) > 65536
   ·exact ⟨.inr true,by rw [if_pos g],.inl ⟨_,rfl⟩⟩
   ·refine ⟨.inl (L2,((i + 1:Nat):Int)),by rw [if_neg g,Xpj (by omega)]; rfl,.inr ⟨_,rfl,⟨i + 1,rfl,hi,g1,g2⟩,by simp only [Int.toNat_natCast]; omega⟩⟩
  have inner:=Xmh.some (B:=fun (s:List Int) o=>Xnz (i:Int) t s o) (P:=fun r2:Sum (List Int × Int) Bool=>((∃ r,r2=.inr r)∨∃ s',r2=.inl s'∧(∃ i:Nat,s'.2=(i:Int)∧i≤t.length∧s'.1.length≤i∧∀ x ∈ s'.1,x≤9223372036854775807)∧t.length - s'.2.toNat < t.length - i))
   (fun L=>L.length≤i∧∀ x ∈ L,x≤9223372036854775807) (fun L=>L.length) (fun L hL=>?_) (s:=L) ⟨h2,h3⟩
  ·obtain ⟨r2,q1,q2⟩:=inner
   rcases q2 with ⟨r,rfl⟩ | ⟨s',rfl,q3,q4⟩
   ·left
    refine ⟨r,?_,trivial⟩
    unfold Xnw
    rw [if_pos (by omega)]
    exact q1
   ·right
    refine ⟨s',?_,q3,q4⟩
    unfold Xnw
    rw [if_pos (by omega)]
    exact q1
  ·obtain ⟨l1,l2⟩:=hL
   rcases List.eq_nil_or_concat L with rfl | ⟨L0,x,rfl⟩
   ·left
    obtain ⟨r2,q1,q2⟩:=fin [t[i].kids] (by simp) (by simp; omega)
    refine ⟨r2,?_,q2⟩
    unfold Xnz
    rw [if_neg (by simp),Xnk hi]
    exact ⟨by omega,_,rfl,by simp,q1⟩
   ·rw [List.concat_eq_append] at l1 l2 ⊢
    have e0:w64 (((L0++[x]).length:Int) - 1)=(L0.length:Int):=by rw [List.length_append,Xqy (by simp at l1 ⊢; omega)]; simp
    by_cases hx:x≤0
    ·right
     refine ⟨L0,?_,⟨by simp at l1; omega,fun y hy=>l2 y (by simp [hy])⟩,by simp⟩
     unfold Xnz
     rw [if_pos (by simp),e0,Xwt,if_pos hx,Int.toNat_natCast,Yap]
     exact ⟨by simp; omega,by simp; omega,_,rfl,rfl⟩
    ·left
     have hxb:=l2 x (by simp)
     obtain ⟨r2,q1,q2⟩:=fin (L0++[x - 1]++[t[i].kids]) (by simp at l1 ⊢; omega) (fun y hy=>by
      simp only [List.mem_append,List.mem_singleton] at hy
      rcases hy with (hy | rfl) | rfl
      ·exact l2 y (by simp [hy])
      ·omega
      ·omega)
     refine ⟨r2,?_,q2⟩
     unfold Xnz
     rw [if_pos (by simp),e0,Xwt,if_neg hx,Int.toNat_natCast,Ydu,Xqy (x:=x - 1) (by omega),Xnk hi]
     exact ⟨by simp; omega,_,rfl,by omega,_,rfl,by simp at l1 ⊢; omega,q1⟩
 ·left
  refine ⟨false,?_,trivial⟩
  unfold Xnw
  rw [if_neg (by omega)]
end Go.Proofs.Ytmekgfcfooghnaa.L
