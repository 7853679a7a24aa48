/- The plain side of chapter 8, more: texts put together. No condition. -/
import Derived.Test.YtjookebbmfiidaaDoorSM
set_option linter.unusedVariables false
namespace Go.Proofs.YtjookebbmfiidaaDoor.L
open Go.Proofs.YtjookebbmfiidaaDoor.B Go.Proofs.YtjookebbmfiidaaDoor.R
def mv (d:Nat) (w:Ak):Ak:=⟨w.kind,w.text,w.n,w.at_ + d⟩
end Go.Proofs.YtjookebbmfiidaaDoor.L
set_option linter.unusedVariables false
namespace Go.Proofs.YtjookebbmfiidaaDoor.L
open Go.Proofs.YtjookebbmfiidaaDoor.B Go.Proofs.YtjookebbmfiidaaDoor.R
def hxB:ByteArray:=⟨#[48,49,50,51,52,53,54,55,56,57,97,98,99,100,101,102]⟩
def Y7 (c:Int):List Int :=
 if c=34 then [92,c] else if c=92 then [92,c] else if c=10 then [92,110] else if c=9 then [92,116] else if c=13 then [92,114]
 else if c < 32∨c > 126 then [92,120,bt hxB (c / 16),bt hxB (c % 16)] else [c]
def Xag (l:List Int):List Int:=34 :: (l.flatMap Y7++[34])
theorem Xkd (c:Int):(Y7 c).length≤4:=by
 unfold Y7
 repeat' split
 all_goals simp
theorem Xdr:∀ l:List Int,(l.flatMap Y7).length≤4 * l.length
 | []=>by simp
 | c :: l=>by
  have:=Xkd c
  have:=Xdr l
  simp only [List.flatMap_cons,List.length_append,List.length_cons]
  omega
theorem quote_ok {s:ByteArray} (hs:s.size≤1048576):Xn s (Qo (Xag (Dq s))):=by
 have hl:=I9 s
 unfold Xn
 have key:=Bl.upto (B:=fun (q:(List Int) × Int) o=>Kr s q.1 q.2 o) (r:=Qo (Xag (Dq s))) (fun i=>(34 :: ((Dq s).take i).flatMap Y7,(i:Int))) s.size (fun i hi=>?_) ?_
 ·simpa using key
 ·have hb:=Xea s i
  have h4:=Xdr ((Dq s).take i)
  have h5:=Xkd (bt s i)
  rw [List.length_take] at h4
  have e:(34:Int) :: ((Dq s).take (i + 1)).flatMap Y7=(34 :: ((Dq s).take i).flatMap Y7)++Y7 (bt s i):=by
   rw [List.take_succ_eq_append_getElem (by omega),List.flatMap_append,← Xhb hi]
   simp
  show Kr s _ (i:Int) (.inl (34 :: ((Dq s).take (i + 1)).flatMap Y7,((i + 1:Nat):Int)))
  rw [e]
  have hacc:((34:Int) :: ((Dq s).take i).flatMap Y7).length≤4 * 1048576 + 1:=by rw [List.length_cons]; omega
  generalize (34:Int) :: ((Dq s).take i).flatMap Y7=acc at *
  have w1:w64 ((i:Int) + 1)=((i + 1:Nat):Int):=by rw [Dn (by omega)]; omega
  have put:∀ x:List Int,x.length≤4→(∃ y:List Int,(y=acc++x)∧(y.length * 1≤211106232532992)∧(.inl (acc++x,((i + 1:Nat):Int)):Sum ((List Int) × Int) ByteArray)=.inl (y,w64 ((i:Int) + 1))):=fun x hx=>⟨_,rfl,by simp; omega,by rw [w1]⟩
  have t1:Int.tdiv (bt s i) 16=bt s i / 16:=Int.tdiv_eq_ediv_of_nonneg (by omega)
  have t2:Int.tmod (bt s i) 16=bt s i % 16:=Int.tmod_eq_emod_of_nonneg (by omega)
  have j3t:∀ o,(∃ y:List Int,(y=acc++[92,120,bt hxB (bt s i / 16),bt hxB (bt s i % 16)])∧(y.length * 1≤211106232532992)∧o=.inl (y,w64 ((i:Int) + 1)))→O7 s i acc true o:=fun o h=>by
   unfold O7
   rw [if_pos rfl,t1,t2,Xdk (by omega)]
   exact ⟨by show _∧_ < (16:Int); omega,by show _∧_ < (16:Int); omega,h⟩
  have j3f:∀ o,(∃ y:List Int,(y=acc++[bt s i])∧(y.length * 1≤211106232532992)∧o=.inl (y,w64 ((i:Int) + 1)))→O7 s i acc false o:=fun o h=>h
  have j2t:∀ o,(∃ y:List Int,(y=acc++[92,bt s i])∧(y.length * 1≤211106232532992)∧o=.inl (y,w64 ((i:Int) + 1)))→Q4 acc s i true o:=fun o h=>h
  unfold Kr
  rw [if_pos (by omega)]
  refine ⟨by omega,?_⟩
  unfold Y7
  by_cases c34:bt s i=34
  ·rw [if_pos c34,if_pos c34]; exact j2t _ (put _ (by simp))
  ·rw [if_neg c34,if_neg c34]
   by_cases c92:bt s i=92
   ·rw [if_pos c92,beq_iff_eq.2 c92]; exact j2t _ (put _ (by simp))
   ·rw [if_neg c92,beq_eq_false_iff_ne.2 c92]
    unfold Q4
    rw [if_neg (show ¬ (false=true) by simp)]
    by_cases c10:bt s i=10
    ·rw [if_pos c10,if_pos c10]; exact put _ (by simp)
    ·rw [if_neg c10,if_neg c10]
     by_cases c9:bt s i=9
     ·rw [if_pos c9,if_pos c9]; exact put _ (by simp)
     ·rw [if_neg c9,if_neg c9]
      by_cases c13:bt s i=13
      ·rw [if_pos c13,if_pos c13]; exact put _ (by simp)
      ·rw [if_neg c13,if_neg c13]
       by_cases c32:bt s i < 32
       ·rw [if_pos c32,if_pos (.inl c32)]; exact j3t _ (put _ (by simp))
       ·rw [if_neg c32]
        by_cases c126:bt s i > 126
        ·rw [decide_eq_true c126,if_pos (.inr c126)]; exact j3t _ (put _ (by simp))
        ·rw [decide_eq_false c126,if_neg (by omega)]; exact j3f _ (put _ (by simp))
 ·have h4:=Xdr (Dq s)
  show Kr s (34 :: ((Dq s).take s.size).flatMap Y7) (s.size:Int) _
  rw [List.take_of_length_le (by omega)]
  unfold Kr
  rw [if_neg (by omega)]
  exact ⟨_,rfl,by simp only [List.length_append,List.length_cons,List.length_nil]; omega,by simp [Xag]⟩

def Xb1:List Int→Bool
 | []=>true
 | c :: l =>
  if c=47 then false else if c=10 then false
  else if c=92 then
   match l with
   | []=>false
   | d :: r=>if d=10 then false else Xb1 r
  else Xb1 l
theorem Xg8 (c:Int) (l:List Int):Xb1 (c :: l)=if c=47 then false else if c=10 then false else if c=92 then (match l with
  | []=>false
  | d :: r=>if d=10 then false else Xb1 r) else Xb1 l:=by
 rw [Xb1.eq_def]
def Xly (l:List Int):Bool:=decide (1≤l.length) && (decide (l.length≤24) && (!(Gy (l.headD 0)) && l.all Rt))
def Qi (w:Ak):Bool :=
 if w.kind=1 then Xly (Dq w.text) else if w.kind=2 then true else if w.kind=3 then Xb1 (Dq w.text)
 else if w.kind=4 then (if w.n≥0 then decide (w.n≤65535) else false)
 else if w.kind=5 then (if (w.text.size:Int)=1 then hasB Xe6 w.text else false) else false
theorem reg_ok {w:Ak} (hs:w.text.size≤2 ^ 50):Bl (fun (q:Int) o=>Jv w q o) 0 (Xb1 (Dq w.text)):=by
 have hl:=I9 w.text
 refine Bl.to (fun q:Int=>0≤q∧q≤(w.text.size:Int)∧Xb1 ((Dq w.text).drop q.toNat)=Xb1 (Dq w.text)) (fun q=>((w.text.size:Int) - q).toNat) (fun q hq=>?_) ⟨by omega,by omega,by simp⟩
 obtain ⟨h0,h1,h3⟩:=hq
 obtain ⟨k,rfl⟩:∃ k:Nat,q=k:=⟨q.toNat,by omega⟩
 rw [Int.toNat_natCast] at h3
 have w1:w64 ((k:Int) + 1)=((k + 1:Nat):Int):=by rw [Dn (by omega)]; omega
 have w2:w64 (((k + 1:Nat):Int) + 1)=((k + 2:Nat):Int):=by rw [Dn (by omega)]; omega
 by_cases hk:k < w.text.size
 ·rw [Xb4 hk,Xg8] at h3
  have red:∀ o,(if bt w.text k=47 then Je w k true o else Je w k (bt w.text k == 10) o)→Jv w k o:=fun o h=>by
   unfold Jv
   rw [if_pos (by omega)]
   refine ⟨by omega,?_⟩
   by_cases c47:bt w.text k=47
   ·rw [if_pos c47] at h ⊢; rw [beq_iff_eq.2 c47]; exact h
   ·rw [if_neg c47] at h ⊢; exact h
  have jt:∀ o,o=.inr false→Je w k true o:=fun o h=>h
  have jf:∀ o,(if bt w.text k=92 then
    if ((k + 1:Nat):Int)=(w.text.size:Int) then o=.inr false else
     (0≤((k + 1:Nat):Int)∧((k + 1:Nat):Int) < (w.text.size:Int))∧if bt w.text ((k + 1:Nat):Int)=10 then o=.inr false else o=.inl ((k + 2:Nat):Int)
   else o=.inl ((k + 1:Nat):Int))→Je w k false o:=fun o h=>by
   unfold Je
   rw [if_neg (show ¬ (false=true) by simp),w1,w2]
   exact h
  by_cases c47:bt w.text k=47
  ·left
   rw [if_pos c47] at h3
   refine red _ ?_
   rw [if_pos c47]
   exact jt _ (by rw [h3])
  ·rw [if_neg c47] at h3
   by_cases c10:bt w.text k=10
   ·left
    rw [if_pos c10] at h3
    refine red _ ?_
    rw [if_neg c47,beq_iff_eq.2 c10]
    exact jt _ (by rw [h3])
   ·rw [if_neg c10] at h3
    have red2:∀ o,Je w k false o→Jv w k o:=fun o h=>red o (by rw [if_neg c47,beq_eq_false_iff_ne.2 c10]; exact h)
    by_cases c92:bt w.text k=92
    ·rw [if_pos c92] at h3
     by_cases hk1:k + 1 < w.text.size
     ·rw [Xb4 hk1] at h3
      simp only at h3
      by_cases d10:bt w.text ((k + 1:Nat):Int)=10
      ·left
       rw [if_pos d10] at h3
       refine red2 _ (jf _ ?_)
       rw [if_pos c92,if_neg (by omega),if_pos d10,h3]
       exact ⟨by omega,rfl⟩
      ·right
       rw [if_neg d10] at h3
       refine ⟨((k + 2:Nat):Int),red2 _ (jf _ ?_),⟨by omega,by omega,by rw [Int.toNat_natCast]; exact h3⟩,by omega⟩
       rw [if_pos c92,if_neg (by omega),if_neg d10]
       exact ⟨by omega,rfl⟩
     ·left
      rw [List.drop_eq_nil_of_le (by omega)] at h3
      refine red2 _ (jf _ ?_)
      rw [if_pos c92,if_pos (by omega),← h3]
    ·right
     rw [if_neg c92] at h3
     refine ⟨((k + 1:Nat):Int),red2 _ (jf _ ?_),⟨by omega,by omega,by rw [Int.toNat_natCast]; exact h3⟩,by omega⟩
     rw [if_neg c92]
 ·left
  unfold Jv
  rw [if_neg (by omega),← h3,List.drop_eq_nil_of_le (by omega)]
  rfl
theorem name_ok {w:Ak} (hs:w.text.size≤2 ^ 50):Bl (fun (q:Int) o=>Oa w q o) 0 ((Dq w.text).all Rt):=by
 have hl:=I9 w.text
 refine Bl.all (Dq w.text) Rt (fun i hi hp=>?_) (fun i hi hp=>?_) ?_ <;> unfold Oa
 ·rw [← Xhb (by omega)] at hp
  rw [if_pos (by omega),Xby (by omega)]
  refine ⟨by omega,_,Xa5 _,?_⟩
  by_cases g:P5 (bt w.text (i:Int))=true
  ·rw [if_pos g]
  ·rw [if_neg g]
   refine ⟨_,Vy _,?_⟩
   rw [Rt,Bool.or_eq_true] at hp
   rw [if_pos (hp.resolve_left g)]
 ·rw [← Xhb (by omega), Rt, Bool.or_eq_false_iff] at hp
  rw [if_pos (by omega)]
  refine ⟨by omega,_,Xa5 _,?_⟩
  rw [if_neg (by rw [hp.1]; simp)]
  refine ⟨_,Vy _,?_⟩
  rw [if_neg (by rw [hp.2]; simp)]
 ·rw [if_neg (by omega)]
theorem Xe1 {w:Ak} (hs:w.text.size≤2 ^ 50):V8 w (Qi w):=by
 have hl:=I9 w.text
 unfold V8 Qi
 by_cases k1:w.kind=1
 ·rw [if_pos k1,if_pos k1]
  have jt:∀ r,r=false→O8 w true r:=fun r h=>h
  have jf:∀ r,Bl (fun (q:Int) o=>Oa w q o) 0 r→O8 w false r:=fun r h=>h
  unfold Xly
  by_cases e0:w.text=(⟨#[]⟩:ByteArray)
  ·rw [if_pos e0]
   refine jt _ ?_
   rw [e0]; rfl
  ·rw [if_neg e0]
   have hp:1≤w.text.size:=by
    rcases Nat.eq_zero_or_pos w.text.size with h | h
    ·exact absurd (Xm8 (by rw [List.eq_nil_of_length_eq_zero (by omega:(Dq w.text).length=0)]; rfl)) e0
    ·exact h
   rw [decide_eq_true (by omega:1≤(Dq w.text).length),Bool.true_and]
   by_cases h24:(w.text.size:Int) > 24
   ·rw [if_pos h24, decide_eq_false (by omega), Bool.false_and]
    exact jt _ rfl
   ·rw [if_neg h24, decide_eq_true (by omega), Bool.true_and]
    refine ⟨by omega,_,Vy _,?_⟩
    have hh:(Dq w.text).headD 0=bt w.text 0:=by
     have:=Xb4 (s:=w.text) (i:=0) (by omega)
     rw [List.drop_zero] at this
     rw [this]; rfl
    rw [hh]
    cases Gy (bt w.text 0) with
    | true=>exact jt _ rfl
    | false=>rw [Bool.not_false,Bool.true_and]; exact jf _ (name_ok hs)
 ·rw [if_neg k1,if_neg k1]
  by_cases k2:w.kind=2
  ·rw [if_pos k2,if_pos k2]
  ·rw [if_neg k2,if_neg k2]
   by_cases k3:w.kind=3
   ·rw [if_pos k3,if_pos k3]; exact reg_ok hs
   ·rw [if_neg k3,if_neg k3]
    by_cases k4:w.kind=4
    ·rw [if_pos k4,if_pos k4]
     split
     ·rfl
     ·rfl
    ·rw [if_neg k4,if_neg k4]
     by_cases k5:w.kind=5
     ·rw [if_pos k5,if_pos k5]
      by_cases h1:(w.text.size:Int)=1
      ·rw [if_pos h1,if_pos h1]
       exact ⟨_,⟨by omega,rfl⟩,rfl⟩
      ·rw [if_neg h1,if_neg h1]
     ·rw [if_neg k5,if_neg k5]
def Qe (w:Ak):ByteArray :=
 if Qi w=true then
  if w.kind=2 then Qo (Xag (Dq w.text)) else if w.kind=3 then ((⟨#[47]⟩:ByteArray)++w.text)++(⟨#[47]⟩:ByteArray)
  else if w.kind=4 then itoaB w.n else w.text
 else ⟨#[]⟩
theorem spell_ok {w:Ak} (hs:w.text.size≤1048576) (hn:-9223372036854775808≤w.n∧w.n≤9223372036854775807):Qc w (Qe w):=by
 unfold Qc Qe
 refine ⟨_,Xe1 (by omega),?_⟩
 by_cases h:Qi w=true
 ·rw [if_pos h,if_pos h]
  by_cases k2:w.kind=2
  ·rw [if_pos k2,if_pos k2]; exact ⟨_,quote_ok hs,rfl⟩
  ·rw [if_neg k2,if_neg k2]
   have a1:(⟨#[47]⟩:ByteArray).size=1:=rfl
   by_cases k3:w.kind=3
   ·rw [if_pos k3,if_pos k3]
    exact ⟨by rw [a1]; omega,by simp only [ByteArray.size_append,a1]; omega,rfl⟩
   ·rw [if_neg k3,if_neg k3]
    by_cases k4:w.kind=4
    ·rw [if_pos k4,if_pos k4]; exact ⟨_,⟨hn,rfl⟩,rfl⟩
    ·rw [if_neg k4,if_neg k4]
 ·rw [if_neg h,if_neg h]
end Go.Proofs.YtjookebbmfiidaaDoor.L
set_option linter.unusedVariables false
namespace Go.Proofs.YtjookebbmfiidaaDoor.L
open Go.Proofs.YtjookebbmfiidaaDoor.B Go.Proofs.YtjookebbmfiidaaDoor.R
def sp:ByteArray:=⟨#[32]⟩
theorem Wp {c:Int} {l t:List Int} {kd n:Int} {pos k:Nat} {ws:List Ak} (h:Xf c l=.word kd t n k) (h2:cutF (l.drop (k - 1)) (pos + k)=(ws,0,0)):cutF (c :: l) pos=(⟨kd,Qo t,n,(pos:Int)⟩ :: ws,0,0):=by
 rw [Xf7 h,h2]; rfl
theorem Xet {c:Int} {l:List Int} {pos k:Nat} {ws:List Ak} (h:Xf c l=.skip k) (h2:cutF (l.drop (k - 1)) (pos + k)=(ws,0,0)):cutF (c :: l) pos=(ws,0,0):=by
 rw [Xeg h,h2]
end Go.Proofs.YtjookebbmfiidaaDoor.L
set_option linter.unusedVariables false
namespace Go.Proofs.YtjookebbmfiidaaDoor.L
open Go.Proofs.YtjookebbmfiidaaDoor.B Go.Proofs.YtjookebbmfiidaaDoor.R
def quE (x:Int) (e:Nat):Sum (List Int × Nat) (Option Nat)→Sum (List Int × Nat) (Option Nat)
 | .inl (t,k)=>.inl (x :: t,k + e)
 | .inr none=>.inr none
 | .inr (some d)=>.inr (some (d + e))
theorem quF_e {l:List Int} (h:(Uo l).2≠0):quF (92 :: l)=quE (Uo l).1 (Uo l).2 (quF (l.drop ((Uo l).2 - 1))):=by
 rw [quF]
 simp only [show ¬ (92:Int)=10 by decide,show ¬ (92:Int)=34 by decide,if_false,if_true,dif_neg h]
 split <;> rename_i e <;> rw [e] <;> rfl
theorem quF_o {c:Int} {l:List Int} (h1:c≠10) (h2:c≠34) (h3:c≠92):quF (c :: l)=quE c 1 (quF l):=by
 rw [quF]
 simp only [if_neg h1,if_neg h2,if_neg h3]
 split <;> rename_i e <;> rw [e] <;> rfl
def fst (ws:List Ak) (d:Nat):Int:=match ws with
 | []=>d
 | w :: _=>w.at_
end Go.Proofs.YtjookebbmfiidaaDoor.L
