/- The plain side of chapter 8, more: texts put together. No condition. -/
import Derived.Test.YtjookebbmfiidaaDoorSM
set_option linter.unusedVariables false
namespace Go.Proofs.YtjookebbmfiidaaDoor.L
open Go.Proofs.YtjookebbmfiidaaDoor.B Go.Proofs.YtjookebbmfiidaaDoor.R
def mv (d:Nat) (w:Ak):Ak:=⟨w.kind,w.text,w.n,w.at_ + d⟩
end Go.Proofs.YtjookebbmfiidaaDoor.L
set_option linter.unusedVariables false
namespace Go.Proofs.YtjookebbmfiidaaDoor.L
open Go.Proofs.YtjookebbmfiidaaDoor.B Go.Proofs.YtjookebbmfiidaaDoor.R
def hxB:ByteArray:=⟨#[48,49,50,51,52,53,54,55,56,57,97,98,99,100,101,102]⟩
def Y1 (c:Int):List Int :=
 if c=34 then [92,c] else if c=92 then [92,c] else if c=10 then [92,110] else if c=9 then [92,116] else if c=13 then [92,114]
 else if c < 32∨c > 126 then [92,120,bt hxB (c / 16),bt hxB (c % 16)] else [c]
def Xa6 (l:List Int):List Int:=34 :: (l.flatMap Y1++[34])
theorem Xk3 (c:Int):(Y1 c).length≤4:=by
 unfold Y1
 repeat' split
 all_goals simp
theorem Xdt:∀ l:List Int,(l.flatMap Y1).length≤4 * l.length
 | []=>by simp
 | c :: l=>by
  have:=Xk3 c
  have:=Xdt l
  simp only [List.flatMap_cons,List.length_append,List.length_cons]
  omega
theorem quote_ok {s:ByteArray} (hs:s.size≤1048576):Xc s (Qv (Xa6 (Dk s))):=by
 have hl:=Hu s
 unfold Xc
 have key:=Bl.upto (B:=fun (q:(List Int) × Int) o=>Jq s q.1 q.2 o) (r:=Qv (Xa6 (Dk s))) (fun i=>(34 :: ((Dk s).take i).flatMap Y1,(i:Int))) s.size (fun i hi=>?_) ?_
 ·simpa using key
 ·have hb:=Xdr s i
  have h4:=Xdt ((Dk s).take i)
  have h5:=Xk3 (bt s i)
  rw [List.length_take] at h4
  have e:(34:Int) :: ((Dk s).take (i + 1)).flatMap Y1=(34 :: ((Dk s).take i).flatMap Y1)++Y1 (bt s i):=by
   rw [List.take_succ_eq_append_getElem (by omega),List.flatMap_append,← Xfs hi]
   simp
  show Jq s _ (i:Int) (.inl (34 :: ((Dk s).take (i + 1)).flatMap Y1,((i + 1:Nat):Int)))
  rw [e]
  have hacc:((34:Int) :: ((Dk s).take i).flatMap Y1).length≤4 * 1048576 + 1:=by rw [List.length_cons]; omega
  generalize (34:Int) :: ((Dk s).take i).flatMap Y1=acc at *
  have w1:w64 ((i:Int) + 1)=((i + 1:Nat):Int):=by rw [Dw (by omega)]; omega
  have put:∀ x:List Int,x.length≤4→(∃ y:List Int,(y=acc++x)∧(y.length * 1≤211106232532992)∧(.inl (acc++x,((i + 1:Nat):Int)):Sum ((List Int) × Int) ByteArray)=.inl (y,w64 ((i:Int) + 1))):=fun x hx=>⟨_,rfl,by simp; omega,by rw [w1]⟩
  have t1:Int.tdiv (bt s i) 16=bt s i / 16:=Int.tdiv_eq_ediv_of_nonneg (by omega)
  have t2:Int.tmod (bt s i) 16=bt s i % 16:=Int.tmod_eq_emod_of_nonneg (by omega)
  have j3t:∀ o,(∃ y:List Int,(y=acc++[92,120,bt hxB (bt s i / 16),bt hxB (bt s i % 16)])∧(y.length * 1≤211106232532992)∧o=.inl (y,w64 ((i:Int) + 1)))→Nz s i acc true o:=fun o h=>by
   unfold Nz
   rw [if_pos rfl,t1,t2,Xdw (by omega)]
   exact ⟨by show _∧_ < (16:Int); omega,by show _∧_ < (16:Int); omega,h⟩
  have j3f:∀ o,(∃ y:List Int,(y=acc++[bt s i])∧(y.length * 1≤211106232532992)∧o=.inl (y,w64 ((i:Int) + 1)))→Nz s i acc false o:=fun o h=>h
  have j2t:∀ o,(∃ y:List Int,(y=acc++[92,bt s i])∧(y.length * 1≤211106232532992)∧o=.inl (y,w64 ((i:Int) + 1)))→Pv acc s i true o:=fun o h=>h
  unfold Jq
  rw [if_pos (by omega)]
  refine ⟨by omega,?_⟩
  unfold Y1
  by_cases c34:bt s i=34
  ·rw [if_pos c34,if_pos c34]; exact j2t _ (put _ (by simp))
  ·rw [if_neg c34,if_neg c34]
   by_cases c92:bt s i=92
   ·rw [if_pos c92,beq_iff_eq.2 c92]; exact j2t _ (put _ (by simp))
   ·rw [if_neg c92,beq_eq_false_iff_ne.2 c92]
    unfold Pv
    rw [if_neg (show ¬ (false=true) by simp)]
    by_cases c10:bt s i=10
    ·rw [if_pos c10,if_pos c10]; exact put _ (by simp)
    ·rw [if_neg c10,if_neg c10]
     by_cases c9:bt s i=9
     ·rw [if_pos c9,if_pos c9]; exact put _ (by simp)
     ·rw [if_neg c9,if_neg c9]
      by_cases c13:bt s i=13
      ·rw [if_pos c13,if_pos c13]; exact put _ (by simp)
      ·rw [if_neg c13,if_neg c13]
       by_cases c32:bt s i < 32
       ·rw [if_pos c32,if_pos (.inl c32)]; exact j3t _ (put _ (by simp))
       ·rw [if_neg c32]
        by_cases c126:bt s i > 126
        ·rw [decide_eq_true c126,if_pos (.inr c126)]; exact j3t _ (put _ (by simp))
        ·rw [decide_eq_false c126,if_neg (by omega)]; exact j3f _ (put _ (by simp))
 ·have h4:=Xdt (Dk s)
  show Jq s (34 :: ((Dk s).take s.size).flatMap Y1) (s.size:Int) _
  rw [List.take_of_length_le (by omega)]
  unfold Jq
  rw [if_neg (by omega)]
  exact ⟨_,rfl,by simp only [List.length_append,List.length_cons,List.length_nil]; omega,by simp [Xa6]⟩

def Xar:List Int→Bool
 | []=>true
 | c :: l =>
  if c=47 then false else if c=10 then false
  else if c=92 then
   match l with
   | []=>false
   | d :: r=>if d=10 then false else Xar r
  else Xar l
theorem Xh0 (c:Int) (l:List Int):Xar (c :: l)=if c=47 then false else if c=10 then false else if c=92 then (match l with
  | []=>false
  | d :: r=>if d=10 then false else Xar r) else Xar l:=by
 rw [Xar.eq_def]
def Xla (l:List Int):Bool:=decide (1≤l.length) && (decide (l.length≤24) && (!(Gm (l.headD 0)) && l.all Rn))
def Qo (w:Ak):Bool :=
 if w.kind=1 then Xla (Dk w.text) else if w.kind=2 then true else if w.kind=3 then Xar (Dk w.text)
 else if w.kind=4 then (if w.n≥0 then decide (w.n≤65535) else false)
 else if w.kind=5 then (if (w.text.size:Int)=1 then hasB Xdo w.text else false) else false
theorem reg_ok {w:Ak} (hs:w.text.size≤2 ^ 50):Bl (fun (q:Int) o=>Jk w q o) 0 (Xar (Dk w.text)):=by
 have hl:=Hu w.text
 refine Bl.to (fun q:Int=>0≤q∧q≤(w.text.size:Int)∧Xar ((Dk w.text).drop q.toNat)=Xar (Dk w.text)) (fun q=>((w.text.size:Int) - q).toNat) (fun q hq=>?_) ⟨by omega,by omega,by simp⟩
 obtain ⟨h0,h1,h3⟩:=hq
 obtain ⟨k,rfl⟩:∃ k:Nat,q=k:=⟨q.toNat,by omega⟩
 rw [Int.toNat_natCast] at h3
 have w1:w64 ((k:Int) + 1)=((k + 1:Nat):Int):=by rw [Dw (by omega)]; omega
 have w2:w64 (((k + 1:Nat):Int) + 1)=((k + 2:Nat):Int):=by rw [Dw (by omega)]; omega
 by_cases hk:k < w.text.size
 ·rw [Xav hk,Xh0] at h3
  have red:∀ o,(if bt w.text k=47 then Iz w k true o else Iz w k (bt w.text k == 10) o)→Jk w k o:=fun o h=>by
   unfold Jk
   rw [if_pos (by omega)]
   refine ⟨by omega,?_⟩
   by_cases c47:bt w.text k=47
   ·rw [if_pos c47] at h ⊢; rw [beq_iff_eq.2 c47]; exact h
   ·rw [if_neg c47] at h ⊢; exact h
  have jt:∀ o,o=.inr false→Iz w k true o:=fun o h=>h
  have jf:∀ o,(if bt w.text k=92 then
    if ((k + 1:Nat):Int)=(w.text.size:Int) then o=.inr false else
     (0≤((k + 1:Nat):Int)∧((k + 1:Nat):Int) < (w.text.size:Int))∧if bt w.text ((k + 1:Nat):Int)=10 then o=.inr false else o=.inl ((k + 2:Nat):Int)
   else o=.inl ((k + 1:Nat):Int))→Iz w k false o:=fun o h=>by
   unfold Iz
   rw [if_neg (show ¬ (false=true) by simp),w1,w2]
   exact h
  by_cases c47:bt w.text k=47
  ·left
   rw [if_pos c47] at h3
   refine red _ ?_
   rw [if_pos c47]
   exact jt _ (by rw [h3])
  ·rw [if_neg c47] at h3
   by_cases c10:bt w.text k=10
   ·left
    rw [if_pos c10] at h3
    refine red _ ?_
    rw [if_neg c47,beq_iff_eq.2 c10]
    exact jt _ (by rw [h3])
   ·rw [if_neg c10] at h3
    have red2:∀ o,Iz w k false o→Jk w k o:=fun o h=>red o (by rw [if_neg c47,beq_eq_false_iff_ne.2 c10]; exact h)
    by_cases c92:bt w.text k=92
    ·rw [if_pos c92] at h3
     by_cases hk1:k + 1 < w.text.size
     ·rw [Xav hk1] at h3
      simp only at h3
      by_cases d10:bt w.text ((k + 1:Nat):Int)=10
      ·left
       rw [if_pos d10] at h3
       refine red2 _ (jf _ ?_)
       rw [if_pos c92,if_neg (by omega),if_pos d10,h3]
       exact ⟨by omega,rfl⟩
      ·right
       rw [if_neg d10] at h3
       refine ⟨((k + 2:Nat):Int),red2 _ (jf _ ?_),⟨by omega,by omega,by rw [Int.toNat_natCast]; exact h3⟩,by omega⟩
       rw [if_pos c92,if_neg (by omega),if_neg d10]
       exact ⟨by omega,rfl⟩
     ·left
      rw [List.drop_eq_nil_of_le (by omega)] at h3
      refine red2 _ (jf _ ?_)
      rw [if_pos c92,if_pos (by omega),← h3]
    ·right
     rw [if_neg c92] at h3
     refine ⟨((k + 1:Nat):Int),red2 _ (jf _ ?_),⟨by omega,by omega,by rw [Int.toNat_natCast]; exact h3⟩,by omega⟩
     rw [if_neg c92]
 ·left
  unfold Jk
  rw [if_neg (by omega),← h3,List.drop_eq_nil_of_le (by omega)]
  rfl
theorem name_ok {w:Ak} (hs:w.text.size≤2 ^ 50):Bl (fun (q:Int) o=>O5 w q o) 0 ((Dk w.text).all Rn):=by
 have hl:=Hu w.text
 refine Bl.all (Dk w.text) Rn (fun i hi hp=>?_) (fun i hi hp=>?_) ?_ <;> unfold O5
 ·rw [← Xfs (by omega)] at hp
  rw [if_pos (by omega),Xbs (by omega)]
  refine ⟨by omega,_,Xa1 _,?_⟩
  by_cases g:Ol (bt w.text (i:Int))=true
  ·rw [if_pos g]
  ·rw [if_neg g]
   refine ⟨_,Vl _,?_⟩
   rw [Rn,Bool.or_eq_true] at hp
   rw [if_pos (hp.resolve_left g)]
 ·rw [← Xfs (by omega), Rn, Bool.or_eq_false_iff] at hp
  rw [if_pos (by omega)]
  refine ⟨by omega,_,Xa1 _,?_⟩
  rw [if_neg (by rw [hp.1]; simp)]
  refine ⟨_,Vl _,?_⟩
  rw [if_neg (by rw [hp.2]; simp)]
 ·rw [if_neg (by omega)]
theorem Xdp {w:Ak} (hs:w.text.size≤2 ^ 50):Uu w (Qo w):=by
 have hl:=Hu w.text
 unfold Uu Qo
 by_cases k1:w.kind=1
 ·rw [if_pos k1,if_pos k1]
  have jt:∀ r,r=false→O7 w true r:=fun r h=>h
  have jf:∀ r,Bl (fun (q:Int) o=>O5 w q o) 0 r→O7 w false r:=fun r h=>h
  unfold Xla
  by_cases e0:w.text=(⟨#[]⟩:ByteArray)
  ·rw [if_pos e0]
   refine jt _ ?_
   rw [e0]; rfl
  ·rw [if_neg e0]
   have hp:1≤w.text.size:=by
    rcases Nat.eq_zero_or_pos w.text.size with h | h
    ·exact absurd (Xlg (by rw [List.eq_nil_of_length_eq_zero (by omega:(Dk w.text).length=0)]; rfl)) e0
    ·exact h
   rw [decide_eq_true (by omega:1≤(Dk w.text).length),Bool.true_and]
   by_cases h24:(w.text.size:Int) > 24
   ·rw [if_pos h24, decide_eq_false (by omega), Bool.false_and]
    exact jt _ rfl
   ·rw [if_neg h24, decide_eq_true (by omega), Bool.true_and]
    refine ⟨by omega,_,Vl _,?_⟩
    have hh:(Dk w.text).headD 0=bt w.text 0:=by
     have:=Xav (s:=w.text) (i:=0) (by omega)
     rw [List.drop_zero] at this
     rw [this]; rfl
    rw [hh]
    cases Gm (bt w.text 0) with
    | true=>exact jt _ rfl
    | false=>rw [Bool.not_false,Bool.true_and]; exact jf _ (name_ok hs)
 ·rw [if_neg k1,if_neg k1]
  by_cases k2:w.kind=2
  ·rw [if_pos k2,if_pos k2]
  ·rw [if_neg k2,if_neg k2]
   by_cases k3:w.kind=3
   ·rw [if_pos k3,if_pos k3]; exact reg_ok hs
   ·rw [if_neg k3,if_neg k3]
    by_cases k4:w.kind=4
    ·rw [if_pos k4,if_pos k4]
     split
     ·rfl
     ·rfl
    ·rw [if_neg k4,if_neg k4]
     by_cases k5:w.kind=5
     ·rw [if_pos k5,if_pos k5]
      by_cases h1:(w.text.size:Int)=1
      ·rw [if_pos h1,if_pos h1]
       exact ⟨_,⟨by omega,rfl⟩,rfl⟩
      ·rw [if_neg h1,if_neg h1]
     ·rw [if_neg k5,if_neg k5]
def Qn (w:Ak):ByteArray :=
 if Qo w=true then
  if w.kind=2 then Qv (Xa6 (Dk w.text)) else if w.kind=3 then ((⟨#[47]⟩:ByteArray)++w.text)++(⟨#[47]⟩:ByteArray)
  else if w.kind=4 then itoaB w.n else w.text
 else ⟨#[]⟩
theorem spell_ok {w:Ak} (hs:w.text.size≤1048576) (hn:-9223372036854775808≤w.n∧w.n≤9223372036854775807):Qa w (Qn w):=by
 unfold Qa Qn
 refine ⟨_,Xdp (by omega),?_⟩
 by_cases h:Qo w=true
 ·rw [if_pos h,if_pos h]
  by_cases k2:w.kind=2
  ·rw [if_pos k2,if_pos k2]; exact ⟨_,quote_ok hs,rfl⟩
  ·rw [if_neg k2,if_neg k2]
   have a1:(⟨#[47]⟩:ByteArray).size=1:=rfl
   by_cases k3:w.kind=3
   ·rw [if_pos k3,if_pos k3]
    exact ⟨by rw [a1]; omega,by simp only [ByteArray.size_append,a1]; omega,rfl⟩
   ·rw [if_neg k3,if_neg k3]
    by_cases k4:w.kind=4
    ·rw [if_pos k4,if_pos k4]; exact ⟨_,⟨hn,rfl⟩,rfl⟩
    ·rw [if_neg k4,if_neg k4]
 ·rw [if_neg h,if_neg h]
end Go.Proofs.YtjookebbmfiidaaDoor.L
set_option linter.unusedVariables false
namespace Go.Proofs.YtjookebbmfiidaaDoor.L
open Go.Proofs.YtjookebbmfiidaaDoor.B Go.Proofs.YtjookebbmfiidaaDoor.R
def sp:ByteArray:=⟨#[32]⟩
theorem Wn {c:Int} {l t:List Int} {kd n:Int} {pos k:Nat} {ws:List Ak} (h:Xa c l=.word kd t n k) (h2:cutF (l.drop (k - 1)) (pos + k)=(ws,0,0)):cutF (c :: l) pos=(⟨kd,Qv t,n,(pos:Int)⟩ :: ws,0,0):=by
 rw [Xel h,h2]; rfl
theorem Xef {c:Int} {l:List Int} {pos k:Nat} {ws:List Ak} (h:Xa c l=.skip k) (h2:cutF (l.drop (k - 1)) (pos + k)=(ws,0,0)):cutF (c :: l) pos=(ws,0,0):=by
 rw [Xes h,h2]
end Go.Proofs.YtjookebbmfiidaaDoor.L
set_option linter.unusedVariables false
namespace Go.Proofs.YtjookebbmfiidaaDoor.L
open Go.Proofs.YtjookebbmfiidaaDoor.B Go.Proofs.YtjookebbmfiidaaDoor.R
def quE (x:Int) (e:Nat):Sum (List Int × Nat) (Option Nat)→Sum (List Int × Nat) (Option Nat)
 | .inl (t,k)=>.inl (x :: t,k + e)
 | .inr none=>.inr none
 | .inr (some d)=>.inr (some (d + e))
theorem quF_e {l:List Int} (h:(Uk l).2≠0):quF (92 :: l)=quE (Uk l).1 (Uk l).2 (quF (l.drop ((Uk l).2 - 1))):=by
 rw [quF]
 simp only [show ¬ (92:Int)=10 by decide,show ¬ (92:Int)=34 by decide,if_false,if_true,dif_neg h]
 split <;> rename_i e <;> rw [e] <;> rfl
theorem quF_o {c:Int} {l:List Int} (h1:c≠10) (h2:c≠34) (h3:c≠92):quF (c :: l)=quE c 1 (quF l):=by
 rw [quF]
 simp only [if_neg h1,if_neg h2,if_neg h3]
 split <;> rename_i e <;> rw [e] <;> rfl
def fst (ws:List Ak) (d:Nat):Int:=match ws with
 | []=>d
 | w :: _=>w.at_
end Go.Proofs.YtjookebbmfiidaaDoor.L
