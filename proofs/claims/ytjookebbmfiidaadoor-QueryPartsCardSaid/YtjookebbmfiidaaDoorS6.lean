/- Queries: lists of nodes that are shaped are forests; captures as lists. No condition. -/
import Derived.Test.YtjookebbmfiidaaDoorS3
import Derived.Test.YtjookebbmfiidaaDoorF1
import Derived.Test.YtjookebbmfiidaaDoorB5
set_option linter.unusedVariables false
namespace Go.Proofs.YtjookebbmfiidaaDoor.L
open Go.Proofs.YtjookebbmfiidaaDoor.R
def Xw:List Ag→Nat→Option (List Ag)
 | l,0=>some l
 | [],_ + 1=>none
 | x :: xs,c + 1=>if x.kids < 0 then none else Xw xs (c + x.kids.toNat)
theorem Xa1 (l:List Ag):Xw l 0=some l:=by cases l <;> rfl
theorem X6 (x:Ag) (xs:List Ag) (c:Nat):Xw (x :: xs) (c + 1)=if x.kids < 0 then none else Xw xs (c + x.kids.toNat):=rfl
theorem Xeh:∀ (f:PF) (r:List Ag) (c:Nat),Xbq f→Xw (Bo f++r) (I8 f + c)=Xw r c
 | .nil,r,c,_=>by simp [Bo,I8]
 | .cons x k s,r,c,hf=>by
  obtain ⟨f1,f2,f3⟩:=hf
  have e:I8 (.cons x k s) + c=I8 s + c + 1:=by simp only [I8]; omega
  rw [e]
  simp only [Bo,List.cons_append,List.append_assoc]
  rw [X6,if_neg (by omega),f1,Int.toNat_natCast,show I8 s + c + I8 k=I8 k + (I8 s + c) by omega,Xeh k _ _ f2,Xeh s _ _ f3]
theorem Xcu:∀ (n:Nat) (l:List Ag) (a b:Nat) (r:List Ag),l.length≤n→Xw l (a + b)=some r→∃ f q,Xbq f∧I8 f=a∧l=Bo f++q∧Xw q b=some r
 | n,l,0,b,r,hn,h=>⟨.nil,l,trivial,rfl,rfl,by rwa [Nat.zero_add] at h⟩
 | n,[],a + 1,b,r,hn,h=>by rw [show a + 1 + b=a + b + 1 by omega] at h; cases h
 | 0,x :: xs,a + 1,b,r,hn,h=>by simp at hn
 | n + 1,x :: xs,a + 1,b,r,hn,h=>by
  rw [show a + 1 + b=a + b + 1 by omega,X6] at h
  by_cases g:x.kids < 0
  ·rw [if_pos g] at h; cases h
  ·rw [if_neg g, show a + b + x.kids.toNat = x.kids.toNat + (a + b) by omega] at h
   simp only [List.length_cons] at hn
   obtain ⟨k,q,k1,k2,k3,k4⟩:=Xcu n xs x.kids.toNat (a + b) r (by omega) h
   have hq:q.length≤n:=by
    have:=congrArg List.length k3
    rw [List.length_append] at this
    omega
   obtain ⟨s,q2,s1,s2,s3,s4⟩:=Xcu n q a b r hq k4
   refine ⟨.cons x k s,q2,⟨by omega,k1,s1⟩,by simp [I8,s2],?_,s4⟩
   rw [k3,s3]
   simp [Bo]
theorem behP_ok {l:List Ag} {c:Nat} {r:List Ag} (h:Xw l c=some r):∃ f,Xbq f∧I8 f=c∧l=Bo f++r:=by
 obtain ⟨f,q,h1,h2,h3,h4⟩:=Xcu l.length l c 0 r (Nat.le_refl _) h
 rw [Xa1] at h4
 injection h4 with h4
 subst h4
 exact ⟨f,h1,h2,h3⟩
theorem Z8:∀ f:PF,I8 f≤(Bo f).length
 | .nil=>Nat.le_refl _
 | .cons x k s=>by
  have:=Z8 s
  simp only [I8,Bo,List.length_cons,List.length_append]
  omega
def sndN (nm:ByteArray→Bool) (x:Ag):Bool:=(if x.lit=true then !decide (x.name=noB) && decide (x.kids=0) else (decide (x.name=noB) || nm x.name)) && (decide (x.field=noB) || nm x.field) && (decide (x.capture=noB) || nm x.capture)
theorem Xbx {nm:ByteArray→Bool}:∀ (g:PF),Xbq g→Ro nm g=(Bo g).all (sndN nm)
 | .nil,_=>rfl
 | .cons x k s,hf=>by
  obtain ⟨f1,f2,f3⟩:=hf
  have e:decide (I8 k=0)=decide (x.kids=0):=by rw [f1]; exact decide_eq_decide.2 (by omega)
  unfold Ro
  rw [Xbx k f2,Xbx s f3,e]
  simp only [Bo,List.all_cons,List.all_append]
  unfold sndN
  simp only [Bool.and_assoc]
def Oo (v:List Ag):List ByteArray:=(v.map (·.capture)).filter fun c=>!decide (c=noB)
theorem Xbu (a b:List Ag):Oo (a++b)=Oo a++Oo b:=by unfold Oo; rw [List.map_append,List.filter_append]
theorem Xhk (x:Ag) (v:List Ag):Oo (x :: v)=We x.capture (Oo v):=by
 unfold Oo We
 rw [List.map_cons,List.filter_cons]
 by_cases h:x.capture=noB
 ·rw [if_pos h,if_neg (by simp [h])]
 ·rw [if_neg h,if_pos (by simp [h])]
theorem Yo:∀ (g:PF) (l:List ByteArray),(Hg g l).Perm (Oo (Bo g)++l)
 | .nil,l=>List.Perm.refl _
 | .cons x k s,l=>by
  have h1:=Yo k l
  have h2:=Yo s (We x.capture (Hg k l))
  show (Hg s (We x.capture (Hg k l))).Perm _
  refine h2.trans ?_
  have h4:(Oo (Bo s)++Hg k l).Perm (Oo (Bo k)++Oo (Bo s)++l):=(List.Perm.append_left _ h1).trans (by
   rw [← List.append_assoc]
   exact List.Perm.append_right _ List.perm_append_comm)
  simp only [Bo]
  rw [Xhk,Xbu]
  unfold We
  by_cases h:x.capture=noB
  ·rw [if_pos h,if_pos h]
   exact h4
  ·rw [if_neg h,if_neg h]
   have h3:(Oo (Bo s)++x.capture :: Hg k l).Perm (x.capture :: (Oo (Bo s)++Hg k l)):=List.perm_middle
   exact h3.trans (List.Perm.cons _ h4)
theorem Xbv (g:PF) {y:ByteArray}:y ∈ Hg g []↔y ∈ Oo (Bo g):=by
 have:=(Yo g []).mem_iff (a:=y)
 rwa [List.append_nil] at this
theorem Xfq (g:PF):(Hg g []).Nodup↔(Oo (Bo g)).Nodup:=by
 have:=(Yo g []).nodup_iff
 rwa [List.append_nil] at this
def Xjb (nm:ByteArray→Bool) (v:List Ag) (l:List Bh):Prop :=
 v.length≤32∧l.length≤16∧Xw v 1=some []∧(∀ x ∈ v,sndN nm x=true)∧(Oo v).Nodup∧∀ c ∈ l,Xi8 (Oo v) c
theorem Xfl {nm:ByteArray→Bool} {v:List Ag} {l:List Bh}:Xjb nm v l↔∃ x k,v=Bo (.cons x k .nil)∧Na nm x k l:=by
 constructor
 ·rintro ⟨h1,h2,h3,h4,h5,h6⟩
  obtain ⟨f,f1,f2,f3⟩:=behP_ok h3
  rw [List.append_nil] at f3
  obtain ⟨x,k,rfl⟩:∃ x k,f=.cons x k .nil:=by
   cases f with
   | nil=>simp [I8] at f2
   | cons x k s =>
    simp only [I8] at f2
    obtain rfl:=Xkk (show I8 s=0 by omega)
    exact ⟨x,k,rfl⟩
  subst f3
  refine ⟨x,k,rfl,f1,?_,(Xfq _).2 h5,h1,h2,fun c hc=>?_⟩
  ·rw [Xbx _ f1,List.all_eq_true]
   exact h4
  ·obtain ⟨g1,g2⟩:=h6 c hc
   exact ⟨(Xbv _).2 g1,g2.imp id fun g=>⟨(Xbv _).2 g.1,g.2⟩⟩
 ·rintro ⟨x,k,rfl,h1,h2,h3,h4,h5,h6⟩
  refine ⟨h4,h5,?_,?_,(Xfq _).1 h3,fun c hc=>?_⟩
  ·have:=Xeh (.cons x k .nil) [] 0 h1
   rw [List.append_nil,Nat.add_zero,Xa1] at this
   exact this
  ·rw [Xbx _ h1,List.all_eq_true] at h2
   exact h2
  ·obtain ⟨g1,g2⟩:=h6 c hc
   exact ⟨(Xbv _).1 g1,g2.imp id fun g=>⟨(Xbv _).1 g.1,g.2⟩⟩
end Go.Proofs.YtjookebbmfiidaaDoor.L
set_option linter.unusedVariables false
namespace Go.Proofs.YtjookebbmfiidaaDoor.L
open Go.Proofs.YtjookebbmfiidaaDoor.R
def ErrQ (e:Int):Prop:=e=200∨e=201∨e=202
theorem Xkj {x:Ag} {k:PF} {seen:List ByteArray} {t r:List Tk} {e:Int} (h:Wv x k seen t=.no e r):ErrQ e:=by
 unfold Wv at h
 split at h
 ·split at h
  ·split at h
   ·injection h with h _; exact .inr (.inl h.symm)
   ·cases h
  ·injection h with h _; exact .inl h.symm
 ·cases h
theorem Xmx:∀ (f:Nat),(∀ m seen t e r,2 * t.length + 1≤f→Xab f m seen t=.no e r→ErrQ e)∧(∀ m seen t e r,2 * t.length + 2≤f→kidsT f m seen t=.no e r→ErrQ e)
 | 0=>⟨fun m seen t e r hf=>by omega,fun m seen t e r hf=>by omega⟩
 | f + 1=>by
  obtain ⟨i1,i2⟩:=Xmx f
  refine ⟨fun m seen t e r hf h=>?_,fun m seen t e r hf h=>?_⟩
  ·rw [Tu] at h
   have ha:=Xe3 t
   by_cases c1:Rj t=true
   ·rw [if_pos c1] at h
    by_cases c2:m≥32
    ·rw [if_pos c2] at h
     injection h with h _; exact .inr (.inr h.symm)
    rw [if_neg c2] at h
    by_cases c3:Xay (Nq t)=true
    ·rw [if_pos c3] at h
     exact Xkj h
    rw [if_neg c3] at h
    by_cases c4:isT 5 opB (Nq t)=true
    ·rw [if_pos c4] at h
     obtain ⟨r2,e2⟩:=W9 c4
     have h4:=Xat r2
     rw [e2] at h ha
     simp only [List.length_cons] at ha
     rw [List.tail_cons] at h
     by_cases c5:nmT r2=true
     ·rw [if_pos c5] at h
      cases e3:kidsT f (m + 1) seen r2.tail with
      | no ee q =>
       rw [e3] at h
       injection h with h _
       rw [← h]
       exact i2 _ _ _ _ _ (by omega) e3
      | ok p q =>
       rw [e3] at h
       exact Xkj h
     ·rw [if_neg c5] at h
      injection h with h _; exact .inl h.symm
    ·rw [if_neg c4] at h
     injection h with h _; exact .inl h.symm
   ·rw [if_neg c1] at h
    injection h with h _; exact .inl h.symm
  ·rw [Qh] at h
   by_cases c1:isT 5 clB t=true
   ·rw [if_pos c1] at h; cases h
   rw [if_neg c1] at h
   have h1:=(Xha f).1 m seen t
   cases e1:Xab f m seen t with
   | no ee q =>
    rw [e1] at h
    injection h with h _
    rw [← h]
    exact i1 _ _ _ _ _ (by omega) e1
   | ok p q =>
    obtain ⟨x,k,seen'⟩:=p
    rw [e1] at h h1
    have h1':q.length < t.length:=h1
    dsimp only at h
    cases e2:kidsT f (m + 1 + (Bo k).length) seen' q with
    | no ee u =>
     rw [e2] at h
     injection h with h _
     rw [← h]
     exact i2 _ _ _ _ _ (by omega) e2
    | ok p u=>rw [e2] at h; cases h
theorem Xao {caps:List ByteArray} {t r:List Tk} {e:Int} (h:Iu caps t=.no e r):ErrQ e:=by
 unfold Iu at h
 split at h
 ·split at h
  ·split at h
   ·cases h
   ·injection h with h _; exact .inr (.inl h.symm)
  ·injection h with h _; exact .inl h.symm
 ·injection h with h _; exact .inl h.symm
theorem Xfr {caps:List ByteArray} {t r:List Tk} {a:ByteArray} (h:Iu caps t=.ok a r):r.length + 2=t.length:=by
 rw [(Xhs h).1]
 rfl
theorem Xnh {n:Nat} {caps:List ByteArray} {t r:List Tk} {e:Int} (h:Yj n caps t=.no e r):ErrQ e:=by
 unfold Yj at h
 by_cases c1:kwT t=true
 ·rw [if_pos c1] at h
  by_cases c2:n≥16
  ·rw [if_pos c2] at h
   injection h with h _; exact .inr (.inr h.symm)
  rw [if_neg c2] at h
  cases e1:Iu caps t.tail with
  | no ee q =>
   rw [e1] at h
   injection h with h _
   rw [← h]
   exact Xao e1
  | ok a q =>
   rw [e1] at h
   dsimp only at h
   by_cases c3:isT 5 eqB q=true
   ·rw [if_pos c3] at h
    unfold Xem at h
    by_cases c4:isS q.tail=true
    ·rw [if_pos c4] at h; cases h
    rw [if_neg c4] at h
    cases e2:Iu caps q.tail with
    | no ee u =>
     rw [e2] at h
     injection h with h _
     rw [← h]
     exact Xao e2
    | ok b u=>rw [e2] at h; cases h
   ·rw [if_neg c3] at h
    injection h with h _; exact .inl h.symm
 ·rw [if_neg c1] at h
  injection h with h _; exact .inl h.symm
theorem condT_sh {n:Nat} {caps:List ByteArray} {t r:List Tk} {c:Bh} (h:Yj n caps t=.ok c r):r.length < t.length:=by
 unfold Yj at h
 have h0:=Xat t
 by_cases c1:kwT t=true
 ·rw [if_pos c1] at h
  by_cases c2:n≥16
  ·rw [if_pos c2] at h; cases h
  rw [if_neg c2] at h
  cases e1:Iu caps t.tail with
  | no ee q=>rw [e1] at h; cases h
  | ok a q =>
   have s1:=Xfr e1
   have s2:=Xat q
   have s3:=Xat q.tail
   rw [e1] at h
   dsimp only at h
   by_cases c3:isT 5 eqB q=true
   ·rw [if_pos c3] at h
    unfold Xem at h
    by_cases c4:isS q.tail=true
    ·rw [if_pos c4] at h
     injection h with _ h
     rw [← h]
     omega
    rw [if_neg c4] at h
    cases e2:Iu caps q.tail with
    | no ee u=>rw [e2] at h; cases h
    | ok b u =>
     have s4:=Xfr e2
     rw [e2] at h
     injection h with _ h
     rw [← h]
     omega
   ·rw [if_neg c3] at h; cases h
 ·rw [if_neg c1] at h; cases h
end Go.Proofs.YtjookebbmfiidaaDoor.L
set_option linter.unusedVariables false
namespace Go.Proofs.YtjookebbmfiidaaDoor.L
open Go.Proofs.YtjookebbmfiidaaDoor.B Go.Proofs.YtjookebbmfiidaaDoor.R
def Xfx (W:List Ak):List Tk:=W.map fun w=>(w.kind,w.text)
theorem Xgx (W:List Ak):(Xfx W).length=W.length:=List.length_map _
def Rst (W:List Ak) (t:List Tk):Prop:=t <:+ Xfx W
def psn (W:List Ak) (t:List Tk):Nat:=W.length - t.length
theorem Rst.le {W:List Ak} {t:List Tk} (h:Rst W t):t.length≤W.length:=by
 have:=List.IsSuffix.length_le h
 rwa [Xgx] at this
theorem Rst.sub {W:List Ak} {t q:List Tk} (h:Rst W t) (hq:q <:+ t):Rst W q:=List.IsSuffix.trans hq h
theorem Rst.tl {W:List Ak} {t:List Tk} (h:Rst W t):Rst W t.tail:=h.sub (List.tail_suffix t)
theorem psn_all (W:List Ak):psn W (Xfx W)=0:=by unfold psn; rw [Xgx]; omega
theorem Rst.drop {W:List Ak} {t:List Tk} (h:Rst W t):Xfx (W.drop (psn W t))=t:=by
 obtain ⟨p,hp⟩:=h
 have hl:p.length=psn W t:=by
  have:=congrArg List.length hp
  rw [List.length_append,Xgx] at this
  unfold psn
  omega
 unfold Xfx at hp ⊢
 rw [List.map_drop,← hp,← hl,List.drop_left]
theorem Rst.hd {W:List Ak} {k:Int} {x:ByteArray} {t:List Tk} (h:Rst W ((k,x) :: t)):psn W ((k,x) :: t) < W.length∧(ix W (psn W ((k,x) :: t):Int)).kind=k∧(ix W (psn W ((k,x) :: t):Int)).text=x∧psn W t=psn W ((k,x) :: t) + 1:=by
 have hd:=h.drop
 have hl:=h.le
 generalize hn:psn W ((k,x) :: t)=n at hd ⊢
 have hlt:n < W.length:=by
  unfold psn at hn
  simp only [List.length_cons] at hn hl
  omega
 have hx:W[((n:Nat):Int).toNat]? = some (ix W ((n:Nat):Int)):=Xaf ⟨Int.natCast_nonneg n,by omega⟩
 rw [Int.toNat_natCast] at hx
 have hx2:W.drop n=ix W (n:Int) :: W.drop (n + 1):=by
  have hg:W[n]=ix W (n:Int):=by
   rw [List.getElem?_eq_getElem hlt] at hx
   exact Option.some.inj hx
  rw [List.drop_eq_getElem_cons hlt,hg]
 rw [hx2] at hd
 unfold Xfx at hd
 rw [List.map_cons] at hd
 injection hd with h1 h2
 injection h1 with h3 h4
 refine ⟨hlt,h3,h4,?_⟩
 unfold psn at hn ⊢
 simp only [List.length_cons] at hn hl
 omega
theorem Zk (W:List Ak):psn W []=W.length:=by unfold psn; simp
def plW (W:List Ak) (L:Int) (t:List Tk):Int:=if psn W t < W.length then (ix W (psn W t:Int)).at_ else L
theorem isT_cons (k k':Int) (x x':ByteArray) (t:List Tk):isT k x ((k',x') :: t)=(decide (k'=k) && decide (x'=x)):=rfl
theorem Xio (k':Int) (x':ByteArray) (t:List Tk):Yt ((k',x') :: t)=(decide (k'=1) && !decide (x'=Tq)):=rfl
theorem Xi9 (k':Int) (x':ByteArray) (t:List Tk):Xay ((k',x') :: t)=(decide (k'=2) && !decide (x'=noB)):=rfl
def SufP {α:Type} (t:List Tk):PQ α→Prop
 | .ok _ q=>q <:+ t
 | .no _ q=>q <:+ t
theorem suf2 (t:List Tk):t.tail.tail <:+ t:=List.IsSuffix.trans (List.tail_suffix _) (List.tail_suffix _)
theorem Xkv (t:List Tk):Nq t <:+ t:=by
 unfold Nq
 split
 ·exact suf2 t
 ·exact List.suffix_refl t
theorem Xki {x:Ag} {k:PF} {seen:List ByteArray} {t s:List Tk} (h:t <:+ s):SufP s (Wv x k seen t):=by
 unfold Wv
 split
 ·split
  ·split
   ·exact List.IsSuffix.trans (List.tail_suffix t) h
   ·exact List.IsSuffix.trans (suf2 t) h
  ·exact List.IsSuffix.trans (List.tail_suffix t) h
 ·exact h
theorem Xk2:∀ (f:Nat),(∀ m seen t,SufP t (Xab f m seen t))∧(∀ m seen t,SufP t (kidsT f m seen t))
 | 0=>⟨fun m seen t=>List.suffix_refl t,fun m seen t=>List.suffix_refl t⟩
 | f + 1=>by
  obtain ⟨i1,i2⟩:=Xk2 f
  refine ⟨fun m seen t=>?_,fun m seen t=>?_⟩
  ·rw [Tu]
   have ha:=Xkv t
   split
   ·split
    ·exact List.suffix_refl t
    split
    ·exact Xki (List.IsSuffix.trans (List.tail_suffix _) ha)
    split
    ·split
     ·have h1:=i2 (m + 1) seen (Nq t).tail.tail
      cases e:kidsT f (m + 1) seen (Nq t).tail.tail with
      | no ee q =>
       rw [e] at h1
       exact List.IsSuffix.trans h1 (List.IsSuffix.trans (suf2 _) ha)
      | ok p q =>
       rw [e] at h1
       exact Xki (List.IsSuffix.trans h1 (List.IsSuffix.trans (suf2 _) ha))
     ·exact List.IsSuffix.trans (List.tail_suffix _) ha
    ·exact ha
   ·exact List.suffix_refl t
  ·rw [Qh]
   split
   ·exact List.tail_suffix t
   ·have h1:=i1 m seen t
    cases e:Xab f m seen t with
    | no ee q=>rw [e] at h1; exact h1
    | ok p q =>
     obtain ⟨x,k,seen'⟩:=p
     rw [e] at h1
     have h1':q <:+ t:=h1
     dsimp only
     have h2:=i2 (m + 1 + (Bo k).length) seen' q
     cases e2:kidsT f (m + 1 + (Bo k).length) seen' q with
     | no ee u=>rw [e2] at h2; exact List.IsSuffix.trans h2 h1'
     | ok p u=>rw [e2] at h2; exact List.IsSuffix.trans h2 h1'
theorem Xkn (m:Nat) (seen:List ByteArray) (t:List Tk):SufP t (Xcc m seen t):=(Xk2 _).1 m seen t
theorem Xnd (m:Nat) (seen:List ByteArray) (t:List Tk):SufP t (Xbf m seen t):=(Xk2 _).2 m seen t
theorem patN_sh (m:Nat) (seen:List ByteArray) (t:List Tk):ShP t.length (Xcc m seen t):=(Xha _).1 m seen t
theorem Xi0 {x x':Ag} {k k':PF} {seen seen':List ByteArray} {t q:List Tk} (hx:x.capture=noB) (h:Wv x k seen t=.ok (x',k',seen') q):k'=k∧seen'=We x'.capture seen:=by
 unfold Wv at h
 split at h
 ·split at h
  ·split at h
   ·cases h
   ·injection h with h _
    injection h with h1 h2
    injection h2 with h2 h3
    subst h1 h2 h3
    exact ⟨rfl,rfl⟩
  ·cases h
 ·injection h with h _
  injection h with h1 h2
  injection h2 with h2 h3
  subst h1 h2 h3
  refine ⟨rfl,?_⟩
  unfold We
  rw [if_pos hx]
theorem Xh3:∀ (f:Nat),(∀ m seen t x k seen' q,Xab f m seen t=.ok (x,k,seen') q→seen'=Hg (.cons x k .nil) seen)∧(∀ m seen t g seen' q,kidsT f m seen t=.ok (g,seen') q→seen'=Hg g seen)
 | 0=>⟨fun m seen t x k seen' q h=>(by cases h),fun m seen t g seen' q h=>(by cases h)⟩
 | f + 1=>by
  obtain ⟨i1,i2⟩:=Xh3 f
  refine ⟨fun m seen t x k seen' q h=>?_,fun m seen t g seen' q h=>?_⟩
  ·rw [Tu] at h
   split at h
   ·split at h
    ·cases h
    split at h
    ·obtain ⟨rfl,e⟩:=Xi0 rfl h
     exact e
    split at h
    ·split at h
     ·cases e:kidsT f (m + 1) seen (Nq t).tail.tail with
      | no ee r=>rw [e] at h; cases h
      | ok p r =>
       obtain ⟨k0,s0⟩:=p
       rw [e] at h
       obtain ⟨rfl,e2⟩:=Xi0 rfl h
       rw [e2,i2 _ _ _ _ _ _ e]
       rfl
     ·cases h
    ·cases h
   ·cases h
  ·rw [Qh] at h
   split at h
   ·injection h with h _
    injection h with h1 h2
    subst h1 h2
    rfl
   ·cases e:Xab f m seen t with
    | no ee r=>rw [e] at h; cases h
    | ok p r =>
     obtain ⟨x,k,s0⟩:=p
     rw [e] at h
     dsimp only at h
     cases e2:kidsT f (m + 1 + (Bo k).length) s0 r with
     | no ee u=>rw [e2] at h; cases h
     | ok p u =>
      obtain ⟨s,s2⟩:=p
      rw [e2] at h
      injection h with h _
      injection h with h1 h2
      subst h1 h2
      rw [i2 _ _ _ _ _ _ e2,i1 _ _ _ _ _ _ _ e]
      rfl
theorem Xdj {x x':Ag} {k k':PF} {seen seen':List ByteArray} {t q:List Tk} (h:Wv x k seen t=.ok (x',k',seen') q):k'=k:=by
 unfold Wv at h
 split at h
 ·split at h
  ·split at h
   ·cases h
   ·injection h with h _
    injection h with _ h
    injection h with h _
    exact h.symm
  ·cases h
 ·injection h with h _
  injection h with _ h
  injection h with h _
  exact h.symm
theorem Xjh:∀ (f:Nat),(∀ m seen t x k seen' q,Xab f m seen t=.ok (x,k,seen') q→m + 1 + (Bo k).length≤32)∧(∀ m seen t g seen' q,m≤32→kidsT f m seen t=.ok (g,seen') q→m + (Bo g).length≤32)
 | 0=>⟨fun m seen t x k seen' q h=>(by cases h),fun m seen t g seen' q _ h=>(by cases h)⟩
 | f + 1=>by
  obtain ⟨i1,i2⟩:=Xjh f
  refine ⟨fun m seen t x k seen' q h=>?_,fun m seen t g seen' q hm h=>?_⟩
  ·rw [Tu] at h
   split at h
   ·split at h
    ·cases h
    split at h
    ·rw [Xdj h]
     simp only [Bo,List.length_nil]
     omega
    split at h
    ·split at h
     ·cases e:kidsT f (m + 1) seen (Nq t).tail.tail with
      | no ee r=>rw [e] at h; cases h
      | ok p r =>
       obtain ⟨k0,s0⟩:=p
       rw [e] at h
       rw [Xdj h]
       exact i2 _ _ _ _ _ _ (by omega) e
     ·cases h
    ·cases h
   ·cases h
  ·rw [Qh] at h
   split at h
   ·injection h with h _
    injection h with h1 h2
    subst h1
    simp only [Bo,List.length_nil]
    omega
   ·cases e:Xab f m seen t with
    | no ee r=>rw [e] at h; cases h
    | ok p r =>
     obtain ⟨x,k,s0⟩:=p
     rw [e] at h
     dsimp only at h
     have h1:=i1 _ _ _ _ _ _ _ e
     cases e2:kidsT f (m + 1 + (Bo k).length) s0 r with
     | no ee u=>rw [e2] at h; cases h
     | ok p u =>
      obtain ⟨s,s2⟩:=p
      rw [e2] at h
      injection h with h _
      injection h with h1' h2
      subst h1'
      have:=i2 _ _ _ _ _ _ h1 e2
      simp only [Bo,List.length_cons,List.length_append]
      omega
theorem Xk6 {m:Nat} {seen seen':List ByteArray} {t q:List Tk} {x:Ag} {k:PF} (h:Xcc m seen t=.ok (x,k,seen') q):m + 1 + (Bo k).length≤32:=(Xjh _).1 _ _ _ _ _ _ _ h
theorem Xir {m:Nat} {seen seen':List ByteArray} {t q:List Tk} {x:Ag} {k:PF} (h:Xcc m seen t=.ok (x,k,seen') q):seen'=Hg (.cons x k .nil) seen:=(Xh3 _).1 _ _ _ _ _ _ _ h
theorem Xl9 {m:Nat} {seen seen':List ByteArray} {t q:List Tk} {g:PF} (h:Xbf m seen t=.ok (g,seen') q):seen'=Hg g seen:=(Xh3 _).2 _ _ _ _ _ _ h
theorem Xl8 {m:Nat} {seen:List ByteArray} {t q:List Tk} {e:Int} (h:Xcc m seen t=.no e q):e≠0:=by
 rcases (Xmx _).1 _ _ _ _ _ (Nat.le_refl _) h with h | h | h <;> omega
def Jp (o:List Ag) (seen:List ByteArray):Prop:=∀ c,c ∈ seen↔c ∈ Oo o
theorem Jp.app {o:List Ag} {seen:List ByteArray} (h:Jp o seen) (g:PF):Jp (o++Bo g) (Hg g seen):=fun c=>by
 rw [(Yo g seen).mem_iff,Xbu,List.mem_append,List.mem_append,h c,Or.comm]
theorem Xln {x:Ag} (h:x.capture=noB) (v:List Ag):Oo (x :: v)=Oo v:=by
 rw [Xhk]
 unfold We
 rw [if_pos h]
theorem Jp.mid {o v:List Ag} {seen:List ByteArray} {x:Ag} (h:x.capture=noB):Jp (o++x :: v) seen↔Jp (o++v) seen:=by
 unfold Jp
 rw [Xbu,Xbu,Xln h]
theorem Xnx {c:ByteArray} {v:List Ag}:c ∈ Oo v↔c≠noB∧∃ x ∈ v,x.capture=c:=by
 unfold Oo
 rw [List.mem_filter,List.mem_map]
 simp only [Bool.not_eq_true',decide_eq_false_iff_not]
 exact And.comm
theorem inC_seen {o:List Ag} {seen:List ByteArray} (h:Jp o seen) (c:ByteArray):inC c seen=true↔(c≠noB∧∃ x ∈ o,x.capture=c):=by
 rw [Xc0,h c,Xnx]
def Xh (c:ByteArray) (v:List Ag):Option Nat:=v.findIdx? fun x=>decide (x.capture=c)
theorem Xl4 {c:ByteArray} {v:List Ag}:(Xh c v).isSome=true↔∃ x ∈ v,x.capture=c:=by
 unfold Xh
 rw [List.findIdx?_isSome,List.any_eq_true]
 simp only [decide_eq_true_eq]
def Xq (c:ByteArray) (v:List Ag):Int:=if c=noB then -1 else match Xh c v with
 | none=>-1
 | some i=>(i:Int)
theorem Xbs {o:List Ag} {seen:List ByteArray} (h:Jp o seen) (c:ByteArray):Xq c o≥0↔inC c seen=true:=by
 rw [inC_seen h,← Xl4]
 unfold Xq
 by_cases g:c=noB
 ·rw [if_pos g]
  exact ⟨fun h=>absurd h (by decide),fun h=>absurd g h.1⟩
 ·rw [if_neg g]
  cases e:Xh c o with
  | none=>exact ⟨fun h=>absurd h (by decide),fun h=>absurd h.2 (by simp)⟩
  | some i=>exact ⟨fun h=>⟨g,rfl⟩,fun h=>Int.natCast_nonneg i⟩
theorem Xmq {α:Type} (a v:List α) (x y:α):(a++x :: v).set a.length y=a++y :: v:=by
 rw [List.set_append_right _ _ (Nat.le_refl _),Nat.sub_self]
 rfl
end Go.Proofs.YtjookebbmfiidaaDoor.L
