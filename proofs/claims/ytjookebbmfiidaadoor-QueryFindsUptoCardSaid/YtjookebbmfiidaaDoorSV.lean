/- The plain side of chapter 8, more: how words are spelt. No condition. -/
import Derived.Test.YtjookebbmfiidaaDoorSN
set_option linter.unusedVariables false
namespace Go.Proofs.YtjookebbmfiidaaDoor.L
open Go.Proofs.YtjookebbmfiidaaDoor.B Go.Proofs.YtjookebbmfiidaaDoor.R
def hxB:ByteArray:=⟨#[48,49,50,51,52,53,54,55,56,57,97,98,99,100,101,102]⟩
def Xfe (c:Int):List Int :=
 if c=34 then [92,c] else if c=92 then [92,c] else if c=10 then [92,110] else if c=9 then [92,116] else if c=13 then [92,114]
 else if c < 32∨c > 126 then [92,120,bt hxB (c / 16),bt hxB (c % 16)] else [c]
def Xkj (l:List Int):List Int:=34 :: (l.flatMap Xfe++[34])
def Xaa:List Int→Bool
 | []=>true
 | c :: l =>
  if c=47 then false else if c=10 then false
  else if c=92 then
   match l with
   | []=>false
   | d :: r=>if d=10 then false else Xaa r
  else Xaa l
theorem Xaj (c:Int) (l:List Int):Xaa (c :: l)=if c=47 then false else if c=10 then false else if c=92 then (match l with
  | []=>false
  | d :: r=>if d=10 then false else Xaa r) else Xaa l:=by
 rw [Xaa.eq_def]
def Xht (l:List Int):Bool:=decide (1≤l.length) && (decide (l.length≤24) && (!(N9 (l.headD 0)) && l.all X4))
def Xz (w:Dw):Bool :=
 if w.kind=1 then Xht (Iw w.text) else if w.kind=2 then true else if w.kind=3 then Xaa (Iw w.text)
 else if w.kind=4 then (if w.n≥0 then decide (w.n≤65535) else false)
 else if w.kind=5 then (if (w.text.size:Int)=1 then hasB Xb9 w.text else false) else false
theorem reg_ok {w:Dw} (hs:w.text.size≤2 ^ 50):Ar (fun (q:Int) o=>Kq w q o) 0 (Xaa (Iw w.text)):=by
 have hl:=Sz w.text
 refine Ar.to (fun q:Int=>0≤q∧q≤(w.text.size:Int)∧Xaa ((Iw w.text).drop q.toNat)=Xaa (Iw w.text)) (fun q=>((w.text.size:Int) - q).toNat) (fun q hq=>?_) ⟨by omega,by omega,by simp⟩
 obtain ⟨h0,h1,h3⟩:=hq
 obtain ⟨k,rfl⟩:∃ k:Nat,q=k:=⟨q.toNat,by omega⟩
 rw [Int.toNat_natCast] at h3
 have w1:w64 ((k:Int) + 1)=((k + 1:Nat):Int):=by rw [Dk (by omega)]; omega
 have w2:w64 (((k + 1:Nat):Int) + 1)=((k + 2:Nat):Int):=by rw [Dk (by omega)]; omega
 by_cases hk:k < w.text.size
 ·rw [Xf7 hk,Xaj] at h3
  have red:∀ o,(if bt w.text k=47 then Jf w k true o else Jf w k (bt w.text k == 10) o)→Kq w k o:=fun o h=>by
   unfold Kq
   rw [if_pos (by omega)]
   refine ⟨by omega,?_⟩
   by_cases c47:bt w.text k=47
   ·rw [if_pos c47] at h ⊢; rw [beq_iff_eq.2 c47]; exact h
   ·rw [if_neg c47] at h ⊢; exact h
  have jt:∀ o,o=.inr false→Jf w k true o:=fun o h=>h
  have jf:∀ o,(if bt w.text k=92 then
    if ((k + 1:Nat):Int)=(w.text.size:Int) then o=.inr false else
     (0≤((k + 1:Nat):Int)∧((k + 1:Nat):Int) < (w.text.size:Int))∧if bt w.text ((k + 1:Nat):Int)=10 then o=.inr false else o=.inl ((k + 2:Nat):Int)
   else o=.inl ((k + 1:Nat):Int))→Jf w k false o:=fun o h=>by
   unfold Jf
   rw [if_neg (show ¬ (false=true) by simp),w1,w2]
   exact h
  by_cases c47:bt w.text k=47
  ·left
   rw [if_pos c47] at h3
   refine red _ ?_
   rw [if_pos c47]
   exact jt _ (by rw [h3])
  ·rw [if_neg c47] at h3
   by_cases c10:bt w.text k=10
   ·left
    rw [if_pos c10] at h3
    refine red _ ?_
    rw [if_neg c47,beq_iff_eq.2 c10]
    exact jt _ (by rw [h3])
   ·rw [if_neg c10] at h3
    have red2:∀ o,Jf w k false o→Kq w k o:=fun o h=>red o (by rw [if_neg c47,beq_eq_false_iff_ne.2 c10]; exact h)
    by_cases c92:bt w.text k=92
    ·rw [if_pos c92] at h3
     by_cases hk1:k + 1 < w.text.size
     ·rw [Xf7 hk1] at h3
      simp only at h3
      by_cases d10:bt w.text ((k + 1:Nat):Int)=10
      ·left
       rw [if_pos d10] at h3
       refine red2 _ (jf _ ?_)
       rw [if_pos c92,if_neg (by omega),if_pos d10,h3]
       exact ⟨by omega,rfl⟩
      ·right
       rw [if_neg d10] at h3
       refine ⟨((k + 2:Nat):Int),red2 _ (jf _ ?_),⟨by omega,by omega,by rw [Int.toNat_natCast]; exact h3⟩,by omega⟩
       rw [if_pos c92,if_neg (by omega),if_neg d10]
       exact ⟨by omega,rfl⟩
     ·left
      rw [List.drop_eq_nil_of_le (by omega)] at h3
      refine red2 _ (jf _ ?_)
      rw [if_pos c92,if_pos (by omega),← h3]
    ·right
     rw [if_neg c92] at h3
     refine ⟨((k + 1:Nat):Int),red2 _ (jf _ ?_),⟨by omega,by omega,by rw [Int.toNat_natCast]; exact h3⟩,by omega⟩
     rw [if_neg c92]
 ·left
  unfold Kq
  rw [if_neg (by omega),← h3,List.drop_eq_nil_of_le (by omega)]
  rfl
theorem name_ok {w:Dw} (hs:w.text.size≤2 ^ 50):Ar (fun (q:Int) o=>Ov w q o) 0 ((Iw w.text).all X4):=by
 have hl:=Sz w.text
 refine Ar.all (Iw w.text) X4 (fun i hi hp=>?_) (fun i hi hp=>?_) ?_ <;> unfold Ov
 ·rw [← Xfv (by omega)] at hp
  rw [if_pos (by omega),We (by omega)]
  refine ⟨by omega,_,Xhb _,?_⟩
  by_cases g:U5 (bt w.text (i:Int))=true
  ·rw [if_pos g]
  ·rw [if_neg g]
   refine ⟨_,Xg2 _,?_⟩
   rw [X4,Bool.or_eq_true] at hp
   rw [if_pos (hp.resolve_left g)]
 ·rw [← Xfv (by omega), X4, Bool.or_eq_false_iff] at hp
  rw [if_pos (by omega)]
  refine ⟨by omega,_,Xhb _,?_⟩
  rw [if_neg (by rw [hp.1]; simp)]
  refine ⟨_,Xg2 _,?_⟩
  rw [if_neg (by rw [hp.2]; simp)]
 ·rw [if_neg (by omega)]
theorem sound_ok {w:Dw} (hs:w.text.size≤2 ^ 50):Xo w (Xz w):=by
 have hl:=Sz w.text
 unfold Xo Xz
 by_cases k1:w.kind=1
 ·rw [if_pos k1,if_pos k1]
  have jt:∀ r,r=false→Oy w true r:=fun r h=>h
  have jf:∀ r,Ar (fun (q:Int) o=>Ov w q o) 0 r→Oy w false r:=fun r h=>h
  unfold Xht
  by_cases e0:w.text=(⟨#[]⟩:ByteArray)
  ·rw [if_pos e0]
   refine jt _ ?_
   rw [e0]; rfl
  ·rw [if_neg e0]
   have hp:1≤w.text.size:=by
    rcases Nat.eq_zero_or_pos w.text.size with h | h
    ·exact absurd (bs_inj (by rw [List.eq_nil_of_length_eq_zero (by omega:(Iw w.text).length=0)]; rfl)) e0
    ·exact h
   rw [decide_eq_true (by omega:1≤(Iw w.text).length),Bool.true_and]
   by_cases h24:(w.text.size:Int) > 24
   ·rw [if_pos h24, decide_eq_false (by omega), Bool.false_and]
    exact jt _ rfl
   ·rw [if_neg h24, decide_eq_true (by omega), Bool.true_and]
    refine ⟨by omega,_,Xg2 _,?_⟩
    have hh:(Iw w.text).headD 0=bt w.text 0:=by
     have:=Xf7 (s:=w.text) (i:=0) (by omega)
     rw [List.drop_zero] at this
     rw [this]; rfl
    rw [hh]
    cases N9 (bt w.text 0) with
    | true=>exact jt _ rfl
    | false=>rw [Bool.not_false,Bool.true_and]; exact jf _ (name_ok hs)
 ·rw [if_neg k1,if_neg k1]
  by_cases k2:w.kind=2
  ·rw [if_pos k2,if_pos k2]
  ·rw [if_neg k2,if_neg k2]
   by_cases k3:w.kind=3
   ·rw [if_pos k3,if_pos k3]; exact reg_ok hs
   ·rw [if_neg k3,if_neg k3]
    by_cases k4:w.kind=4
    ·rw [if_pos k4,if_pos k4]
     split
     ·rfl
     ·rfl
    ·rw [if_neg k4,if_neg k4]
     by_cases k5:w.kind=5
     ·rw [if_pos k5,if_pos k5]
      by_cases h1:(w.text.size:Int)=1
      ·rw [if_pos h1,if_pos h1]
       exact ⟨_,⟨by omega,rfl⟩,rfl⟩
      ·rw [if_neg h1,if_neg h1]
     ·rw [if_neg k5,if_neg k5]
def Xct (w:Dw):ByteArray :=
 if Xz w=true then
  if w.kind=2 then Xbk (Xkj (Iw w.text)) else if w.kind=3 then ((⟨#[47]⟩:ByteArray)++w.text)++(⟨#[47]⟩:ByteArray)
  else if w.kind=4 then itoaB w.n else w.text
 else ⟨#[]⟩
end Go.Proofs.YtjookebbmfiidaaDoor.L
set_option linter.unusedVariables false
namespace Go.Proofs.YtjookebbmfiidaaDoor.L
open Go.Proofs.YtjookebbmfiidaaDoor.B Go.Proofs.YtjookebbmfiidaaDoor.R
end Go.Proofs.YtjookebbmfiidaaDoor.L
set_option linter.unusedVariables false
namespace Go.Proofs.YtjookebbmfiidaaDoor.L
open Go.Proofs.YtjookebbmfiidaaDoor.B Go.Proofs.YtjookebbmfiidaaDoor.R
def quE (x:Int) (e:Nat):Sum (List Int × Nat) (Option Nat)→Sum (List Int × Nat) (Option Nat)
 | .inl (t,k)=>.inl (x :: t,k + e)
 | .inr none=>.inr none
 | .inr (some d)=>.inr (some (d + e))
theorem quF_e {l:List Int} (h:(Xfd l).2≠0):quF (92 :: l)=quE (Xfd l).1 (Xfd l).2 (quF (l.drop ((Xfd l).2 - 1))):=by
 rw [quF]
 simp only [show ¬ (92:Int)=10 by decide,show ¬ (92:Int)=34 by decide,if_false,if_true,dif_neg h]
 split <;> rename_i e <;> rw [e] <;> rfl
theorem quF_o {c:Int} {l:List Int} (h1:c≠10) (h2:c≠34) (h3:c≠92):quF (c :: l)=quE c 1 (quF l):=by
 rw [quF]
 simp only [if_neg h1,if_neg h2,if_neg h3]
 split <;> rename_i e <;> rw [e] <;> rfl
def fst (ws:List Dw) (d:Nat):Int:=match ws with
 | []=>d
 | w :: _=>w.at_
end Go.Proofs.YtjookebbmfiidaaDoor.L
