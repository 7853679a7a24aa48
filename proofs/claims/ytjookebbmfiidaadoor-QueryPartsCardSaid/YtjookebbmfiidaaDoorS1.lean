/- Queries: patterns as forests, their words, the plain parser on words. No condition. -/
import Derived.Test.YtjookebbmfiidaaDoorR
set_option linter.unusedVariables false
namespace Go.Proofs.YtjookebbmfiidaaDoor.L
open Go.Proofs.YtjookebbmfiidaaDoor.R
inductive PF where
 | nil:PF
 | cons (x:Ag) (k s:PF):PF
def Bo:PF→List Ag
 | .nil=>[]
 | .cons x k s=>x :: (Bo k++Bo s)
def I8:PF→Nat
 | .nil=>0
 | .cons _ _ s=>I8 s + 1
def Xbq:PF→Prop
 | .nil=>True
 | .cons x k s=>x.kids=(I8 k:Int)∧Xbq k∧Xbq s
abbrev Tk:=Int × ByteArray
abbrev Tq:ByteArray:=⟨#[95]⟩
abbrev Xfw:ByteArray:=⟨#[58]⟩
abbrev opB:ByteArray:=⟨#[40]⟩
abbrev clB:ByteArray:=⟨#[41]⟩
abbrev U2:ByteArray:=⟨#[64]⟩
abbrev eqB:ByteArray:=⟨#[61]⟩
abbrev noB:ByteArray:=⟨#[]⟩
def isT (k:Int) (x:ByteArray):List Tk→Bool
 | []=>false
 | w :: _=>decide (w.1=k) && decide (w.2=x)
def Yt:List Tk→Bool
 | []=>false
 | w :: _=>decide (w.1=1) && !decide (w.2=Tq)
def Xay:List Tk→Bool
 | []=>false
 | w :: _=>decide (w.1=2) && !decide (w.2=noB)
def hdT:List Tk→ByteArray
 | []=>noB
 | w :: _=>w.2
def Zn (t:List Tk):Bool:=Yt t && isT 5 Xfw t.tail
def Rj (t:List Tk):Bool:=Zn t || isT 5 opB t || Xay t
inductive PQ (α:Type) where
 | ok (a:α) (t:List Tk)
 | no (e:Int) (t:List Tk)
def inC (c:ByteArray) (l:List ByteArray):Bool:=l.any fun y=>decide (c=y)
theorem Xc0 {c:ByteArray} {l:List ByteArray}:inC c l=true↔c ∈ l:=by
 unfold inC
 rw [List.any_eq_true]
 constructor
 ·rintro ⟨y,hy,e⟩
  rw [of_decide_eq_true e]; exact hy
 ·exact fun h=>⟨c,h,decide_eq_true rfl⟩
def We (c:ByteArray) (l:List ByteArray):List ByteArray:=if c=noB then l else c :: l
def Wv (x:Ag) (k:PF) (seen:List ByteArray) (t:List Tk):PQ (Ag × PF × List ByteArray) :=
 if isT 5 U2 t=true then
  if Yt t.tail=true then
   if inC (hdT t.tail) seen=true then .no 201 t.tail else .ok ({ x with capture:=hdT t.tail },k,We (hdT t.tail) seen) t.tail.tail
  else .no 200 t.tail
 else .ok (x,k,seen) t
def nmT (t:List Tk):Bool:=isT 1 Tq t || Yt t
def Xeu (t:List Tk):ByteArray:=if Zn t=true then hdT t else noB
def Nq (t:List Tk):List Tk:=if Zn t=true then t.tail.tail else t
mutual
def Xab:Nat→Nat→List ByteArray→List Tk→PQ (Ag × PF × List ByteArray)
 | 0,_,_,t=>.no 0 t
 | f + 1,m,seen,t =>
  if Rj t=true then
   if m≥32 then .no 202 t
   else if Xay (Nq t)=true then Wv ⟨hdT (Nq t),true,Xeu t,noB,0⟩ .nil seen (Nq t).tail
   else if isT 5 opB (Nq t)=true then
    if nmT (Nq t).tail=true then
     match kidsT f (m + 1) seen (Nq t).tail.tail with
     | .no e r=>.no e r
     | .ok (k,seen') r=>Wv ⟨if isT 1 Tq (Nq t).tail=true then noB else hdT (Nq t).tail,false,Xeu t,noB,(I8 k:Int)⟩ k seen' r
    else .no 200 (Nq t).tail
   else .no 200 (Nq t)
  else .no 200 t
def kidsT:Nat→Nat→List ByteArray→List Tk→PQ (PF × List ByteArray)
 | 0,_,_,t=>.no 0 t
 | f + 1,m,seen,t =>
  if isT 5 clB t=true then .ok (.nil,seen) t.tail
  else match Xab f m seen t with
   | .no e r=>.no e r
   | .ok (x,k,seen') r=>match kidsT f (m + 1 + (Bo k).length) seen' r with
    | .no e q=>.no e q
    | .ok (s,seen2) q=>.ok (.cons x k s,seen2) q
end
theorem Tu (f m:Nat) (seen:List ByteArray) (t:List Tk):Xab (f + 1) m seen t=if Rj t=true then
   if m≥32 then .no 202 t
   else if Xay (Nq t)=true then Wv ⟨hdT (Nq t),true,Xeu t,noB,0⟩ .nil seen (Nq t).tail
   else if isT 5 opB (Nq t)=true then
    if nmT (Nq t).tail=true then
     match kidsT f (m + 1) seen (Nq t).tail.tail with
     | .no e r=>.no e r
     | .ok (k,seen') r=>Wv ⟨if isT 1 Tq (Nq t).tail=true then noB else hdT (Nq t).tail,false,Xeu t,noB,(I8 k:Int)⟩ k seen' r
    else .no 200 (Nq t).tail
   else .no 200 (Nq t)
  else .no 200 t:=rfl
theorem Qh (f m:Nat) (seen:List ByteArray) (t:List Tk):kidsT (f + 1) m seen t=if isT 5 clB t=true then .ok (.nil,seen) t.tail
  else match Xab f m seen t with
   | .no e r=>.no e r
   | .ok (x,k,seen') r=>match kidsT f (m + 1 + (Bo k).length) seen' r with
    | .no e q=>.no e q
    | .ok (s,seen2) q=>.ok (.cons x k s,seen2) q:=rfl
def Zt (x:Ag):List Tk:=if x.field=noB then [] else [(1,x.field),(5,Xfw)]
def Su (x:Ag):List Tk:=if x.capture=noB then [] else [(5,U2),(1,x.capture)]
def Qb (x:Ag):Tk:=(1,if x.name=noB then Tq else x.name)
def Eu:PF→List Tk
 | .nil=>[]
 | .cons x k s=>Zt x++((if x.lit=true then [(2,x.name)] else (5,opB) :: Qb x :: (Eu k++[(5,clB)]))++(Su x++Eu s))
def Hg:PF→List ByteArray→List ByteArray
 | .nil,l=>l
 | .cons x k s,l=>Hg s (We x.capture (Hg k l))
theorem Xff (c:ByteArray) (l:List ByteArray):∃ p,We c l=p++l:=by
 unfold We
 split
 ·exact ⟨[],rfl⟩
 ·exact ⟨[c],rfl⟩
theorem Xae:∀ (f:PF) (l:List ByteArray),∃ p,Hg f l=p++l
 | .nil,l=>⟨[],rfl⟩
 | .cons x k s,l=>by
  obtain ⟨p1,h1⟩:=Xae k l
  obtain ⟨p2,h2⟩:=Xff x.capture (Hg k l)
  obtain ⟨p3,h3⟩:=Xae s (We x.capture (Hg k l))
  exact ⟨p3++(p2++p1),by show Hg s (We x.capture (Hg k l))=_; rw [h3,h2,h1]; simp⟩
def Ro (nm:ByteArray→Bool):PF→Bool
 | .nil=>true
 | .cons x k s=>(if x.lit=true then !decide (x.name=noB) && decide (I8 k=0) else (decide (x.name=noB) || nm x.name)) && (decide (x.field=noB) || nm x.field) && (decide (x.capture=noB) || nm x.capture) && Ro nm k && Ro nm s
def Nm (nm:ByteArray→Bool):Prop:=∀ s,nm s=true→s≠Tq∧s≠noB
theorem Xkk {k:PF} (h:I8 k=0):k=.nil:=by cases k with
 | nil=>rfl
 | cons x k s=>simp [I8] at h
theorem Qa {nm:ByteArray→Bool} {x:Ag} {k s:PF} (h:Ro nm (.cons x k s)=true):(x.lit=true→x.name≠noB∧k=.nil)∧(x.lit=false→x.name=noB∨nm x.name=true)∧(x.field=noB∨nm x.field=true)∧(x.capture=noB∨nm x.capture=true)∧Ro nm k=true∧Ro nm s=true:=by
 simp only [Ro,Bool.and_eq_true,Bool.or_eq_true,decide_eq_true_eq] at h
 obtain ⟨⟨⟨⟨h1,h2⟩,h3⟩,h4⟩,h5⟩:=h
 refine ⟨fun e=>?_,fun e=>?_,h2,h3,h4,h5⟩
 ·rw [if_pos e,Bool.and_eq_true,decide_eq_true_eq] at h1
  exact ⟨by simpa using h1.1,Xkk h1.2⟩
 ·rw [if_neg (by rw [e]; simp)] at h1
  simpa using h1
def Xia (r:List Tk):Prop:=isT 5 U2 r=false
theorem Xi5 {nm:ByteArray→Bool} (hn:Nm nm) {x:Ag} {k:PF} {seen:List ByteArray} {r:List Tk} (hr:Xia r) (hc:x.capture=noB∨nm x.capture=true) (hd:(We x.capture seen).Nodup):Wv { x with capture:=noB } k seen (Su x++r)=.ok (x,k,We x.capture seen) r:=by
 unfold Wv Su
 by_cases h:x.capture=noB
 ·rw [if_pos h, List.nil_append, if_neg (by rw [hr]; simp)]
  unfold We
  rw [if_pos h]
  obtain ⟨a,b,c,d,e⟩:=x
  dsimp only at h
  rw [h]
 ·rw [if_neg h]
  have h1:=hn _ (hc.resolve_left h)
  unfold We at hd ⊢
  rw [if_neg h] at hd ⊢
  show (if isT 5 U2 ((5,U2) :: (1,x.capture) :: r)=true then _ else _)=_
  rw [if_pos (show isT 5 U2 ((5,U2) :: (1,x.capture) :: r)=true by unfold isT; simp)]
  show (if Yt ((1,x.capture) :: r)=true then _ else _)=_
  rw [if_pos (by unfold Yt; simp [h1.1])]
  show (if inC x.capture seen=true then _ else _)=_
  rw [if_neg (fun h=>(List.nodup_cons.1 hd).1 (Xc0.1 h))]
  show PQ.ok ({ x with capture:=x.capture },k,(if x.capture=noB then seen else x.capture :: seen)) r=_
  rw [if_neg h]
theorem Xj2 {nm:ByteArray→Bool} (hn:Nm nm) {x:ByteArray} (h:nm x=true) (r:List Tk):Yt ((1,x) :: r)=true:=by
 have:=(hn x h).1
 unfold Yt
 simp [this]
theorem Xel {nm:ByteArray→Bool} (hn:Nm nm) {x:Ag} (hf:x.field=noB∨nm x.field=true) {r:List Tk} (hr:Zn r=false):Zn (Zt x++r) = !decide (x.field=noB)∧Xeu (Zt x++r)=x.field∧Nq (Zt x++r)=r:=by
 unfold Xeu Nq Zt
 by_cases h:x.field=noB
 ·rw [if_pos h,List.nil_append,hr,decide_eq_true h]
  exact ⟨rfl,by rw [if_neg (by simp),h],by rw [if_neg (by simp)]⟩
 ·rw [if_neg h]
  have h1:=hf.resolve_left h
  have h2:Zn ([(1,x.field),(5,Xfw)]++r)=true:=by
   unfold Zn
   rw [show ([(1,x.field),(5,Xfw)]++r:List Tk)=(1,x.field) :: (5,Xfw) :: r from rfl,Xj2 hn h1,List.tail_cons]
   unfold isT
   simp
  rw [h2,decide_eq_false h]
  exact ⟨rfl,by rw [if_pos rfl]; rfl,by rw [if_pos rfl]; rfl⟩
theorem noFd_str (s:ByteArray) (r:List Tk):Zn ((2,s) :: r)=false:=by
 unfold Zn Yt
 simp
theorem Xn9 (s:ByteArray) (r:List Tk):Zn ((5,s) :: r)=false:=by
 unfold Zn Yt
 simp
theorem Vx (k:Int) (x:ByteArray) (r:List Tk):isT k x ((k,x) :: r)=true:=by unfold isT; simp
theorem Xbb {k k':Int} (h:k'≠k) (x y:ByteArray) (r:List Tk):isT k x ((k',y) :: r)=false:=by
 unfold isT
 simp [h]
theorem Xbc {k:Int} {x y:ByteArray} (h:y≠x) (r:List Tk):isT k x ((k,y) :: r)=false:=by
 unfold isT
 simp [h]
theorem Xdo {nm:ByteArray→Bool} (hn:Nm nm) {x:Ag} (hf:x.field=noB∨nm x.field=true) {r:List Tk} (hr:Zn r=false) (hb:isT 5 opB r=true∨Xay r=true):Rj (Zt x++r)=true:=by
 unfold Rj
 by_cases h:x.field=noB
 ·unfold Zt
  rw [if_pos h,List.nil_append,hr]
  rcases hb with h | h <;> rw [h] <;> simp
 ·rw [(Xel hn hf hr).1,decide_eq_false h]
  rfl
theorem Xkf {g:PF} {r:List Tk} (hr:Xia r):Xia (Eu g++r):=by
 cases g with
 | nil=>exact hr
 | cons x k s =>
  unfold Xia Eu Zt
  by_cases h:x.field=noB
  ·rw [if_pos h,List.nil_append]
   by_cases g:x.lit=true
   ·rw [if_pos g]
    exact Xbb (by decide) _ _ _
   ·rw [if_neg g]
    exact Xbc (by decide) _
  ·rw [if_neg h]
   exact Xbb (by decide) _ _ _
theorem Xk5 {nm:ByteArray→Bool} (hn:Nm nm):∀ (f:Nat),(∀ (m:Nat) (seen:List ByteArray) (x:Ag) (k:PF) (r:List Tk),2 * (Bo (.cons x k .nil)).length≤f→Xbq (.cons x k .nil)→Ro nm (.cons x k .nil)=true→(Hg (.cons x k .nil) seen).Nodup→m + (Bo (.cons x k .nil)).length≤32→Xia r→Xab f m seen (Eu (.cons x k .nil)++r)=.ok (x,k,Hg (.cons x k .nil) seen) r) ∧
  (∀ (m:Nat) (seen:List ByteArray) (g:PF) (r:List Tk),2 * (Bo g).length + 1≤f→Xbq g→Ro nm g=true→(Hg g seen).Nodup→m + (Bo g).length≤32→kidsT f m seen (Eu g++(5,clB) :: r)=.ok (g,Hg g seen) r)
 | 0=>⟨fun m seen x k r hf=>by simp only [Bo,List.length_cons] at hf; omega,fun m seen g r hf=>by omega⟩
 | f + 1=>by
  obtain ⟨i1,i2⟩:=Xk5 hn f
  refine ⟨fun m seen x k r hf hfit hg hd hm hr=>?_,fun m seen g r hf hfit hg hd hm=>?_⟩
  ·obtain ⟨g1,g2,g3,g4,g5,_⟩:=Qa hg
   obtain ⟨f1,f2,_⟩:=hfit
   simp only [Bo,List.append_nil,List.length_cons] at hf hm
   have hw:Eu (.cons x k .nil)++r=Zt x++((if x.lit=true then [(2,x.name)] else (5,opB) :: Qb x :: (Eu k++[(5,clB)]))++(Su x++r)):=by
    simp only [Eu,List.append_assoc,List.nil_append]
   rw [hw,Tu]
   by_cases hl:x.lit=true
   ·obtain ⟨l1,rfl⟩:=g1 hl
    rw [if_pos hl]
    have hz:Zn ([(2,x.name)]++(Su x++r))=false:=noFd_str _ _
    have hst:Xay ([(2,x.name)]++(Su x++r))=true:=by
     show (decide ((2:Int)=2) && !decide (x.name=noB))=true
     rw [decide_eq_false l1]; rfl
    obtain ⟨e1,e2,e3⟩:=Xel hn g3 hz
    rw [if_pos (Xdo hn g3 hz (.inr hst)),if_neg (by omega),e3,if_pos hst,e2]
    show Wv ⟨x.name,true,x.field,noB,0⟩ .nil seen (Su x++r)=_
    have hx:(⟨x.name,true,x.field,noB,0⟩:Ag) = { x with capture:=noB }:=by
     have:x.kids=0:=f1
     rw [← hl,← this]
    rw [hx]
    exact Xi5 hn hr g4 hd
   ·have hlf:x.lit=false:=by simpa using hl
    have g2':=g2 hlf
    rw [if_neg hl]
    have hz:Zn ((5,opB) :: Qb x :: (Eu k++[(5,clB)])++(Su x++r))=false:=Xn9 _ _
    have hst:isT 5 opB ((5,opB) :: Qb x :: (Eu k++[(5,clB)])++(Su x++r))=true:=Vx _ _ _
    have hns:¬ Xay ((5,opB) :: Qb x :: (Eu k++[(5,clB)])++(Su x++r))=true:=by
     show ¬ (decide ((5:Int)=2) && !decide (opB=noB))=true
     simp
    obtain ⟨e1,e2,e3⟩:=Xel hn g3 hz
    have hnm:isT 1 Tq (Qb x :: (Eu k++[(5,clB)])++(Su x++r))=decide (x.name=noB)∧nmT (Qb x :: (Eu k++[(5,clB)])++(Su x++r))=true∧(¬ x.name=noB→hdT (Qb x :: (Eu k++[(5,clB)])++(Su x++r))=x.name):=by
     unfold Qb nmT
     by_cases h:x.name=noB
     ·rw [if_pos h,decide_eq_true h]
      exact ⟨Vx _ _ _,by rw [show isT 1 Tq ((1,Tq) :: (Eu k++[(5,clB)])++(Su x++r))=true from Vx _ _ _]; rfl,fun h'=>absurd h h'⟩
     ·rw [if_neg h,decide_eq_false h]
      have h1:=g2'.resolve_left h
      exact ⟨Xbc (hn _ h1).1 _,by rw [show Yt ((1,x.name) :: (Eu k++[(5,clB)])++(Su x++r))=true from Xj2 hn h1 _,Bool.or_true],fun _=>rfl⟩
    obtain ⟨n1,n2,n3⟩:=hnm
    rw [if_pos (Xdo hn g3 hz (.inl hst)),if_neg (by omega),e3,if_neg hns,if_pos hst,e2]
    have ht:((5,opB) :: Qb x :: (Eu k++[(5,clB)])++(Su x++r)).tail=Qb x :: (Eu k++[(5,clB)])++(Su x++r):=rfl
    rw [ht,if_pos n2,n1]
    have ht2:(Qb x :: (Eu k++[(5,clB)])++(Su x++r)).tail=Eu k++(5,clB) :: (Su x++r):=by
     show (Eu k++[(5,clB)])++(Su x++r)=_
     simp
    have hkn:(Hg k seen).Nodup:=by
     have hd':(We x.capture (Hg k seen)).Nodup:=hd
     obtain ⟨p,hp⟩:=Xff x.capture (Hg k seen)
     rw [hp] at hd'
     exact (List.nodup_append.1 hd').2.1
    rw [ht2,i2 (m + 1) seen k (Su x++r) (by omega) f2 g5 hkn (by omega)]
    dsimp only
    have hx:(⟨if decide (x.name=noB)=true then noB else hdT (Qb x :: (Eu k++[(5,clB)])++(Su x++r)),false,x.field,noB,(I8 k:Int)⟩:Ag) = { x with capture:=noB }:=by
     have:(if decide (x.name=noB)=true then noB else hdT (Qb x :: (Eu k++[(5,clB)])++(Su x++r)))=x.name:=by
      by_cases h:x.name=noB
      ·rw [if_pos (decide_eq_true h),h]
      ·rw [if_neg (by simpa using h),n3 h]
     rw [this,← hlf,← f1]
    rw [hx]
    exact Xi5 hn hr g4 hd
  ·rw [Qh]
   cases g with
   | nil =>
    rw [if_pos (show isT 5 clB (Eu .nil++(5,clB) :: r)=true from Vx _ _ _)]
    rfl
   | cons x k s =>
    obtain ⟨g1,g2,g3,g4,g5,g6⟩:=Qa hg
    obtain ⟨f1,f2,f3⟩:=hfit
    simp only [Bo,List.length_cons,List.length_append] at hf hm
    have hw:Eu (.cons x k s)++(5,clB) :: r=Eu (.cons x k .nil)++(Eu s++(5,clB) :: r):=by
     simp only [Eu,List.append_assoc,List.nil_append]
    have hnc:isT 5 clB (Eu (.cons x k s)++(5,clB) :: r)=false:=by
     unfold Eu Zt
     by_cases h:x.field=noB
     ·rw [if_pos h,List.nil_append]
      by_cases g:x.lit=true
      ·rw [if_pos g]
       exact Xbb (by decide) _ _ _
      ·rw [if_neg g]
       exact Xbc (by decide) _
     ·rw [if_neg h]
      exact Xbb (by decide) _ _ _
    rw [if_neg (by rw [hnc]; simp),hw]
    have hg':Ro nm (.cons x k .nil)=true:=by
     unfold Ro at hg ⊢
     rw [Bool.and_eq_true] at hg ⊢
     exact ⟨hg.1,rfl⟩
    have hd':(Hg s (Hg (.cons x k .nil) seen)).Nodup:=hd
    have hd1:(Hg (.cons x k .nil) seen).Nodup:=by
     obtain ⟨p,hp⟩:=Xae s (Hg (.cons x k .nil) seen)
     rw [hp] at hd'
     exact (List.nodup_append.1 hd').2.1
    have hl:(Bo (.cons x k .nil)).length=(Bo k).length + 1:=by simp only [Bo,List.append_nil,List.length_cons]
    rw [i1 m seen x k (Eu s++(5,clB) :: r) (by omega) ⟨f1,f2,trivial⟩ hg' hd1 (by omega) (Xkf (Xbc (by decide) _))]
    dsimp only
    rw [i2 (m + 1 + (Bo k).length) (Hg (.cons x k .nil) seen) s r (by omega) f3 g6 hd' (by omega)]
    rfl
end Go.Proofs.YtjookebbmfiidaaDoor.L
