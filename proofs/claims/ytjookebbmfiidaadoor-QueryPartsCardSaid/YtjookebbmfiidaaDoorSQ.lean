/- Forests: what the document's own 'Forest' and 'find' answer. Conditions: the list fits in memory. -/
import Derived.Test.YtjookebbmfiidaaDoorF2
set_option linter.unusedVariables false
namespace Go.Proofs.YtjookebbmfiidaaDoor.L
open Go.Proofs.YtjookebbmfiidaaDoor.B Go.Proofs.YtjookebbmfiidaaDoor.R
abbrev Xca (t:List Az):Prop:=t.length≤1954687338211
def noTree:Tre:=⟨(⟨(⟨#[]⟩:ByteArray),false,(⟨#[]⟩:ByteArray),0,0,0,0⟩:Az),[],0⟩
theorem en_snoc (a:Nat) (l:List (Tre × Nat)) (x:Tre × Nat):en a (l++[x])=x.2:=by
 induction l generalizing a with
 | nil=>rfl
 | cons y l ih=>rw [List.cons_append,Ui]; exact ih _
theorem Xjv {a j:Nat} {S:List (Tre × Nat)} (h:j < S.length):en a (S.take (j + 1))=S[j].2:=by rw [List.take_succ_eq_append_getElem h,en_snoc]
theorem At.nth {t:List Az} {a j:Nat} {S:List (Tre × Nat)} (h:At t a S) (hj:j < S.length):At t (en a (S.take j)) ((S[j].1,S[j].2) :: S.drop (j + 1))∧a≤en a (S.take j):=by
 obtain ⟨h1,h2,_⟩:=At.skip _ _ rfl h j (by omega)
 rw [List.drop_eq_getElem_cons hj] at h1
 exact ⟨h1,h2⟩
theorem PR.skip {t:List Az} {p:Int} {i:Nat} {q:Int}:∀ (j:Nat) {a m:Nat} {S:List (Tre × Nat)},At t a S→j≤m→m≤S.length→PR t (en a (S.take j)) (m - j) p i q→PR t a m p i q
 | 0,a,m,S,hS,hj,hm,h=>by simpa [Xx] using h
 | j + 1,a,m + 1,(x,e) :: S,hS,hj,hm,h=>by
  rw [List.take_succ_cons,Ui,show m + 1 - (j + 1)=m - j by omega] at h
  have h2:=PR.skip j hS.pos.2.2.2.2 (by omega) (by simpa using hm) h
  exact .next hS h2.le h2
theorem pick {a i:Nat} {S:List (Tre × Nat)}:∀ m,m≤S.length→a≤i→i < en a (S.take m)→∃ j,∃ hj:j < m,∃ hS:j < S.length,en a (S.take j)≤i∧i < S[j].2
 | 0,hm,ha,h=>by simp [Xx] at h; omega
 | m + 1,hm,ha,h=>by
  rcases Nat.lt_or_ge i (en a (S.take m)) with g | g
  ·obtain ⟨j, hj, hS, h1, h2⟩ := pick m (by omega) ha g
   exact ⟨j,by omega,hS,h1,h2⟩
  ·rw [Xjv (by omega)] at h
   exact ⟨m,by omega,by omega,g,h⟩
theorem en_mono {t:List Az} {a j k:Nat} {S:List (Tre × Nat)} (h:At t a S) (hjk:j≤k) (hk:k≤S.length):en a (S.take j)≤en a (S.take k):=by
 obtain ⟨h1,_⟩:=At.skip _ _ rfl h j (by omega)
 have h2:=(At.skip _ _ rfl h1 (k - j) (by rw [List.length_drop]; omega)).2.1
 have e:=en_app a (S.take k) j
 rw [List.take_take,Nat.min_eq_left hjk,List.drop_take] at e
 omega
theorem Xnp {t:List Az} (hl:Xca t) (hw:Wf t):∃ b,Nh t b:=by
 unfold Nh
 have key:=Bl.some (B:=fun (s:(List Int) × Int) o=>Gt t s.1 s.2 o) (P:=fun _=>True)
  (fun s=>∃ i:Nat,s.2=(i:Int)∧i≤t.length∧s.1.length≤i∧∀ x ∈ s.1,x≤9223372036854775807) (fun s=>t.length - s.2.toNat) (fun s hs=>?_) (s:=([],0)) ⟨0,rfl,Nat.zero_le _,by simp,by simp⟩
 ·obtain ⟨r,h,_⟩:=key; exact ⟨r,h⟩
 obtain ⟨L,i_⟩:=s
 obtain ⟨i,hi_,h1,h2,h3⟩:=hs
 simp only at hi_ h2 h3
 subst hi_
 simp only [Int.toNat_natCast]
 by_cases hi:i < t.length
 ·have wk:=hw.at hi
  have fin:∀ L2:List Int,L2.length≤i + 1→(∀ x ∈ L2,x≤9223372036854775807)→∃ r2:Sum (List Int × Int) Bool,(if (L2.length:Int) > 65536 then (.inr r2:Sum (List Int) (Sum (List Int × Int) Bool))=.inr (.inr true) else (.inr r2:Sum (List Int) (Sum (List Int × Int) Bool))=.inr (.inl (L2,w64 ((i:Int) + 1))))∧((∃ r,r2=.inr r)∨∃ s',r2=.inl s'∧(∃ i:Nat,s'.2=(i:Int)∧i≤t.length∧s'.1.length≤i∧∀ x ∈ s'.1,x≤9223372036854775807)∧t.length - s'.2.toNat < t.length - i):=by
   intro L2 g1 g2
   by_cases g:(L2.length:Int) > 65536
   ·exact ⟨.inr true,by rw [if_pos g],.inl ⟨_,rfl⟩⟩
   ·refine ⟨.inl (L2,((i + 1:Nat):Int)),by rw [if_neg g,Xby (by omega)]; rfl,.inr ⟨_,rfl,⟨i + 1,rfl,hi,g1,g2⟩,by simp only [Int.toNat_natCast]; omega⟩⟩
  have inner:=Bl.some (B:=fun (s:List Int) o=>Gs (i:Int) t s o) (P:=fun r2:Sum (List Int × Int) Bool=>((∃ r,r2=.inr r)∨∃ s',r2=.inl s'∧(∃ i:Nat,s'.2=(i:Int)∧i≤t.length∧s'.1.length≤i∧∀ x ∈ s'.1,x≤9223372036854775807)∧t.length - s'.2.toNat < t.length - i))
   (fun L=>L.length≤i∧∀ x ∈ L,x≤9223372036854775807) (fun L=>L.length) (fun L hL=>?_) (s:=L) ⟨h2,h3⟩
  ·obtain ⟨r2,q1,q2⟩:=inner
   rcases q2 with ⟨r,rfl⟩ | ⟨s',rfl,q3,q4⟩
   ·left
    refine ⟨r,?_,trivial⟩
    unfold Gt
    rw [if_pos (by omega)]
    exact q1
   ·right
    refine ⟨s',?_,q3,q4⟩
    unfold Gt
    rw [if_pos (by omega)]
    exact q1
  ·obtain ⟨l1,l2⟩:=hL
   rcases List.eq_nil_or_concat L with rfl | ⟨L0,x,rfl⟩
   ·left
    obtain ⟨r2,q1,q2⟩:=fin [t[i].kids] (by simp) (by simp; omega)
    refine ⟨r2,?_,q2⟩
    unfold Gs
    rw [if_neg (by simp),Xad hi]
    exact ⟨by omega,_,rfl,by simp,q1⟩
   ·rw [List.concat_eq_append] at l1 l2 ⊢
    have e0:w64 (((L0++[x]).length:Int) - 1)=(L0.length:Int):=by rw [List.length_append,Dn (by simp at l1 ⊢; omega)]; simp
    by_cases hx:x≤0
    ·right
     refine ⟨L0,?_,⟨by simp at l1; omega,fun y hy=>l2 y (by simp [hy])⟩,by simp⟩
     unfold Gs
     rw [if_pos (by simp),e0,Xan,if_pos hx,Int.toNat_natCast,Xhh]
     exact ⟨by simp; omega,by simp; omega,_,rfl,rfl⟩
    ·left
     have hxb:=l2 x (by simp)
     obtain ⟨r2,q1,q2⟩:=fin (L0++[x - 1]++[t[i].kids]) (by simp at l1 ⊢; omega) (fun y hy=>by
      simp only [List.mem_append,List.mem_singleton] at hy
      rcases hy with (hy | rfl) | rfl
      ·exact l2 y (by simp [hy])
      ·omega
      ·omega)
     refine ⟨r2,?_,q2⟩
     unfold Gs
     rw [if_pos (by simp),e0,Xan,if_neg hx,Int.toNat_natCast,Xkg,Dn (x:=x - 1) (by omega),Xad hi]
     exact ⟨by simp; omega,_,rfl,by omega,_,rfl,by simp at l1 ⊢; omega,q1⟩
 ·left
  refine ⟨false,?_,trivial⟩
  unfold Gt
  rw [if_neg (by omega)]
end Go.Proofs.YtjookebbmfiidaaDoor.L
set_option linter.unusedVariables false
namespace Go.Proofs.YtjookebbmfiidaaDoor.L
open Go.Proofs.YtjookebbmfiidaaDoor.B Go.Proofs.YtjookebbmfiidaaDoor.R
def ParOf (t:List Az) (i q:Int):Prop:=∃ S0,sf t 0=some S0∧∃ j:Nat,i=(j:Int)∧j < t.length∧PR t 0 S0.length (-1) j q
theorem ParOf.uniq {t:List Az} {i q q':Int} (h:ParOf t i q) (h':ParOf t i q'):q=q':=by
 obtain ⟨S,h1,j,rfl,h2,h3⟩:=h
 obtain ⟨S',h1',j',h4,h2',h3'⟩:=h'
 obtain rfl:j=j':=by omega
 rw [h1] at h1'
 injection h1' with e
 subst e
 exact h3.uniq h3'
def inB (t:List Az) (i:Int):Bool:=(sf t 0).isSome && (decide (0≤i) && decide (i < (t.length:Int)))
theorem Xhl {t:List Az} {i:Int}:inB t i=true↔(∃ S,sf t 0=some S)∧0≤i∧i < (t.length:Int):=by
 unfold inB
 rw [Bool.and_eq_true,Bool.and_eq_true,decide_eq_true_eq,decide_eq_true_eq,Option.isSome_iff_exists]
def sub (t:List Az) (i:Nat):Tre × Nat:=((sf (t.drop i) i).getD []).headD (noTree,0)
theorem sub_at {t:List Az} {i:Nat} {y:Tre × Nat} {r:List (Tre × Nat)} (h:At t i (y :: r)):sub t i=y:=by unfold sub; rw [h.2]; rfl
theorem At.sub {t:List Az} {S:List (Tre × Nat)} (h:sf t 0=some S) {i:Nat} (hi:i < t.length):∃ r,At t i (sub t i :: r):=by
 obtain ⟨S',h'⟩:=At.from (t:=t) ⟨Nat.zero_le _,h⟩ i (by omega)
 match S',h' with
 | [],h'=>have:=h'.none; omega
 | y :: r,h'=>exact ⟨r,by rw [sub_at h']; exact h'⟩
def Wl (t:List Az) (i:Int):List Int:=if inB t i=true then (sub t i.toNat).1.kids.map (·.at_) else []
def Xlp (t:List Az):List Int:=((sf t 0).getD []).map (·.1.at_)
def numF (t:List Az):Int:=if (sf t 0).isSome=true then ((Xlp t).length:Int) else -1
theorem has_ok {t:List Az} {f:Fg} (hf:Xdi t f) (i:Int):Qp f i (inB t i):=by
 unfold Qp inB
 rw [hf.2.2.2.1,hf.1]
 cases (sf t 0).isSome with
 | false=>rw [if_neg (by simp),Bool.false_and]
 | true =>
  rw [if_pos rfl,Bool.true_and]
  by_cases h:i≥0
  ·rw [if_pos h,decide_eq_true h,Bool.true_and]
  ·rw [if_neg h,decide_eq_false h,Bool.false_and]
theorem Xhx {t:List Az} (hl:Xca t) {f:Fg} (hf:Xdi t f) {S0:List (Tre × Nat)} (h0:sf t 0=some S0) {a m:Nat} {S:List (Tre × Nat)} (h:At t a S) (hm:m≤S.length):Lc f (a:Int) (en a (S.take m):Int) ((S.take m).map (·.1.at_)):=by
 have hSl:S.length≤t.length:=by
  have:=(sf_en _ _ h.2).2
  rw [List.length_drop] at this
  omega
 unfold Lc
 have key:=Bl.upto (B:=fun (s:Int × (List Int)) o=>G5 (en a (S.take m):Int) f s.1 s.2 o) (r:=(S.take m).map (·.1.at_)) (fun j=>((en a (S.take j):Int),(S.take j).map (·.1.at_))) m (fun j hj=>?_) ?_
 ·simpa [Xx] using key
 ·show G5 _ f (en a (S.take j):Int) ((S.take j).map (·.1.at_)) _
  obtain ⟨a1,a2⟩:=h.nth (j:=j) (by omega)
  obtain ⟨p1,p2,p3,p4,p5⟩:=a1.pos
  have hlt:=en_mono h (show j + 1≤m from hj) hm
  rw [Xjv (by omega)] at hlt
  obtain ⟨_,x,e,r,q1,q2⟩:=hf.2.2.2.2 S0 h0 _ p1
  have hu:=a1.uniq q1
  injection hu with e1 e2
  have e3:(S[j]'(by omega)).2=e:=congrArg (·.2) e1
  have hE:=hf.2.2.1
  unfold G5
  rw [if_pos (by omega)]
  refine ⟨_,rfl,by simp; omega,by omega,?_⟩
  rw [q2,Xjv (by omega),e3,List.take_succ_eq_append_getElem (by omega),List.map_append]
  simp only [List.map_cons,List.map_nil]
  rw [p2]
 ·show G5 _ f (en a (S.take m):Int) ((S.take m).map (·.1.at_)) _
  unfold G5
  rw [if_neg (by omega)]
theorem roots_ok {t:List Az} (hl:Xca t) (hw:Wf t):Yk t (Xlp t):=by
 obtain ⟨f,f1,f2⟩:=Xg7 (t:=t) (by omega) hw
 unfold Yk Xlp
 refine ⟨f,f1,?_⟩
 rw [f2.2.2.2.1]
 cases h:sf t 0 with
 | none=>rw [if_neg (by simp)]; rfl
 | some S =>
  rw [if_pos (by rfl)]
  have hA:At t 0 S:=⟨Nat.zero_le _,h⟩
  have:=Xhx hl f2 h hA (Nat.le_refl _)
  rw [List.take_length,hA.ens] at this
  exact ⟨_,this,rfl⟩
theorem Xgr {t:List Az} (hl:Xca t) (hw:Wf t):Wy t (numF t):=by
 obtain ⟨f,f1,f2⟩:=Xg7 (t:=t) (by omega) hw
 unfold Wy numF
 refine ⟨f,f1,?_⟩
 rw [f2.2.2.2.1]
 by_cases h:(sf t 0).isSome=true
 ·rw [if_pos h,if_pos h]
  exact ⟨_,roots_ok hl hw,rfl⟩
 ·rw [if_neg h,if_neg h]
theorem Xmt {t:List Az} (hl:Xca t) (hw:Wf t) (i:Int):Yc t i (Wl t i):=by
 obtain ⟨f,f1,f2⟩:=Xg7 (t:=t) (by omega) hw
 unfold Yc Wl
 refine ⟨f,f1,_,has_ok f2 i,?_⟩
 cases h:inB t i with
 | false=>rw [if_neg (by simp),if_neg (by simp)]
 | true =>
  obtain ⟨⟨S,hS⟩,h1,h2⟩:=Xhl.1 h
  obtain ⟨j,rfl⟩:∃ j:Nat,i=j:=⟨i.toNat,by omega⟩
  rw [if_pos rfl,if_pos rfl,Int.toNat_natCast]
  have hj:j < t.length:=by omega
  obtain ⟨_,x,e,r,q1,q2⟩:=f2.2.2.2.2 S hS j hj
  obtain ⟨ts,k1,k2,k3,k4,k5⟩:=q1.kids hj
  refine ⟨by rw [f2.2.2.1]; omega,?_⟩
  rw [sub_at q1,q2,Dn (by omega)]
  have:=Xhx hl f2 hS k1 (m:=ts.length) (by rw [List.length_append]; omega)
  rw [List.take_append_of_le_length (Nat.le_refl _),List.take_length,k3] at this
  exact ⟨_,this,by rw [k2,List.map_map]; rfl⟩
end Go.Proofs.YtjookebbmfiidaaDoor.L
