/- Queries: patterns as forests, their words, the plain parser on words. No condition. -/
import Derived.Test.YtjookebbmfiidaaDoorR
set_option linter.unusedVariables false
namespace Go.Proofs.YtjookebbmfiidaaDoor.L
open Go.Proofs.YtjookebbmfiidaaDoor.R
inductive PF where
 | nil:PF
 | cons (x:Ag) (k s:PF):PF
def Bz:PF→List Ag
 | .nil=>[]
 | .cons x k s=>x :: (Bz k++Bz s)
def Ku:PF→Nat
 | .nil=>0
 | .cons _ _ s=>Ku s + 1
def Xd7:PF→Prop
 | .nil=>True
 | .cons x k s=>x.kids=(Ku k:Int)∧Xd7 k∧Xd7 s
abbrev Tk:=Int × ByteArray
abbrev Ti:ByteArray:=⟨#[95]⟩
abbrev Xfc:ByteArray:=⟨#[58]⟩
abbrev opB:ByteArray:=⟨#[40]⟩
abbrev clB:ByteArray:=⟨#[41]⟩
abbrev Tf:ByteArray:=⟨#[64]⟩
abbrev eqB:ByteArray:=⟨#[61]⟩
abbrev noB:ByteArray:=⟨#[]⟩
def isT (k:Int) (x:ByteArray):List Tk→Bool
 | []=>false
 | w :: _=>decide (w.1=k) && decide (w.2=x)
def Yl:List Tk→Bool
 | []=>false
 | w :: _=>decide (w.1=1) && !decide (w.2=Ti)
def Xap:List Tk→Bool
 | []=>false
 | w :: _=>decide (w.1=2) && !decide (w.2=noB)
def hdT:List Tk→ByteArray
 | []=>noB
 | w :: _=>w.2
def Zj (t:List Tk):Bool:=Yl t && isT 5 Xfc t.tail
def Ri (t:List Tk):Bool:=Zj t || isT 5 opB t || Xap t
inductive PQ (α:Type) where
 | ok (a:α) (t:List Tk)
 | no (e:Int) (t:List Tk)
def inC (c:ByteArray) (l:List ByteArray):Bool:=l.any fun y=>decide (c=y)
theorem Xbl {c:ByteArray} {l:List ByteArray}:inC c l=true↔c ∈ l:=by
 unfold inC
 rw [List.any_eq_true]
 constructor
 ·rintro ⟨y,hy,e⟩
  rw [of_decide_eq_true e]; exact hy
 ·exact fun h=>⟨c,h,decide_eq_true rfl⟩
def Zk (c:ByteArray) (l:List ByteArray):List ByteArray:=if c=noB then l else c :: l
def Vt (x:Ag) (k:PF) (seen:List ByteArray) (t:List Tk):PQ (Ag × PF × List ByteArray) :=
 if isT 5 Tf t=true then
  if Yl t.tail=true then
   if inC (hdT t.tail) seen=true then .no 201 t.tail else .ok ({ x with capture:=hdT t.tail },k,Zk (hdT t.tail) seen) t.tail.tail
  else .no 200 t.tail
 else .ok (x,k,seen) t
def nmT (t:List Tk):Bool:=isT 1 Ti t || Yl t
def Xe2 (t:List Tk):ByteArray:=if Zj t=true then hdT t else noB
def Nb (t:List Tk):List Tk:=if Zj t=true then t.tail.tail else t
mutual
def Xa4:Nat→Nat→List ByteArray→List Tk→PQ (Ag × PF × List ByteArray)
 | 0,_,_,t=>.no 0 t
 | f + 1,m,seen,t =>
  if Ri t=true then
   if m≥32 then .no 202 t
   else if Xap (Nb t)=true then Vt ⟨hdT (Nb t),true,Xe2 t,noB,0⟩ .nil seen (Nb t).tail
   else if isT 5 opB (Nb t)=true then
    if nmT (Nb t).tail=true then
     match kidsT f (m + 1) seen (Nb t).tail.tail with
     | .no e r=>.no e r
     | .ok (k,seen') r=>Vt ⟨if isT 1 Ti (Nb t).tail=true then noB else hdT (Nb t).tail,false,Xe2 t,noB,(Ku k:Int)⟩ k seen' r
    else .no 200 (Nb t).tail
   else .no 200 (Nb t)
  else .no 200 t
def kidsT:Nat→Nat→List ByteArray→List Tk→PQ (PF × List ByteArray)
 | 0,_,_,t=>.no 0 t
 | f + 1,m,seen,t =>
  if isT 5 clB t=true then .ok (.nil,seen) t.tail
  else match Xa4 f m seen t with
   | .no e r=>.no e r
   | .ok (x,k,seen') r=>match kidsT f (m + 1 + (Bz k).length) seen' r with
    | .no e q=>.no e q
    | .ok (s,seen2) q=>.ok (.cons x k s,seen2) q
end
theorem Tm (f m:Nat) (seen:List ByteArray) (t:List Tk):Xa4 (f + 1) m seen t=if Ri t=true then
   if m≥32 then .no 202 t
   else if Xap (Nb t)=true then Vt ⟨hdT (Nb t),true,Xe2 t,noB,0⟩ .nil seen (Nb t).tail
   else if isT 5 opB (Nb t)=true then
    if nmT (Nb t).tail=true then
     match kidsT f (m + 1) seen (Nb t).tail.tail with
     | .no e r=>.no e r
     | .ok (k,seen') r=>Vt ⟨if isT 1 Ti (Nb t).tail=true then noB else hdT (Nb t).tail,false,Xe2 t,noB,(Ku k:Int)⟩ k seen' r
    else .no 200 (Nb t).tail
   else .no 200 (Nb t)
  else .no 200 t:=rfl
theorem Qg (f m:Nat) (seen:List ByteArray) (t:List Tk):kidsT (f + 1) m seen t=if isT 5 clB t=true then .ok (.nil,seen) t.tail
  else match Xa4 f m seen t with
   | .no e r=>.no e r
   | .ok (x,k,seen') r=>match kidsT f (m + 1 + (Bz k).length) seen' r with
    | .no e q=>.no e q
    | .ok (s,seen2) q=>.ok (.cons x k s,seen2) q:=rfl
def Zc (x:Ag):List Tk:=if x.field=noB then [] else [(1,x.field),(5,Xfc)]
def Ry (x:Ag):List Tk:=if x.capture=noB then [] else [(5,Tf),(1,x.capture)]
def Qb (x:Ag):Tk:=(1,if x.name=noB then Ti else x.name)
def Ep:PF→List Tk
 | .nil=>[]
 | .cons x k s=>Zc x++((if x.lit=true then [(2,x.name)] else (5,opB) :: Qb x :: (Ep k++[(5,clB)]))++(Ry x++Ep s))
def Jw:PF→List ByteArray→List ByteArray
 | .nil,l=>l
 | .cons x k s,l=>Jw s (Zk x.capture (Jw k l))
theorem Xf4 (c:ByteArray) (l:List ByteArray):∃ p,Zk c l=p++l:=by
 unfold Zk
 split
 ·exact ⟨[],rfl⟩
 ·exact ⟨[c],rfl⟩
theorem Xad:∀ (f:PF) (l:List ByteArray),∃ p,Jw f l=p++l
 | .nil,l=>⟨[],rfl⟩
 | .cons x k s,l=>by
  obtain ⟨p1,h1⟩:=Xad k l
  obtain ⟨p2,h2⟩:=Xf4 x.capture (Jw k l)
  obtain ⟨p3,h3⟩:=Xad s (Zk x.capture (Jw k l))
  exact ⟨p3++(p2++p1),by show Jw s (Zk x.capture (Jw k l))=_; rw [h3,h2,h1]; simp⟩
def Vd (nm:ByteArray→Bool):PF→Bool
 | .nil=>true
 | .cons x k s=>(if x.lit=true then !decide (x.name=noB) && decide (Ku k=0) else (decide (x.name=noB) || nm x.name)) && (decide (x.field=noB) || nm x.field) && (decide (x.capture=noB) || nm x.capture) && Vd nm k && Vd nm s
def Nm (nm:ByteArray→Bool):Prop:=∀ s,nm s=true→s≠Ti∧s≠noB
theorem Xko {k:PF} (h:Ku k=0):k=.nil:=by cases k with
 | nil=>rfl
 | cons x k s=>simp [Ku] at h
theorem Xb {nm:ByteArray→Bool} {x:Ag} {k s:PF} (h:Vd nm (.cons x k s)=true):(x.lit=true→x.name≠noB∧k=.nil)∧(x.lit=false→x.name=noB∨nm x.name=true)∧(x.field=noB∨nm x.field=true)∧(x.capture=noB∨nm x.capture=true)∧Vd nm k=true∧Vd nm s=true:=by
 simp only [Vd,Bool.and_eq_true,Bool.or_eq_true,decide_eq_true_eq] at h
 obtain ⟨⟨⟨⟨h1,h2⟩,h3⟩,h4⟩,h5⟩:=h
 refine ⟨fun e=>?_,fun e=>?_,h2,h3,h4,h5⟩
 ·rw [if_pos e,Bool.and_eq_true,decide_eq_true_eq] at h1
  exact ⟨by simpa using h1.1,Xko h1.2⟩
 ·rw [if_neg (by rw [e]; simp)] at h1
  simpa using h1
def Xhz (r:List Tk):Prop:=isT 5 Tf r=false
theorem Xhw {nm:ByteArray→Bool} (hn:Nm nm) {x:Ag} {k:PF} {seen:List ByteArray} {r:List Tk} (hr:Xhz r) (hc:x.capture=noB∨nm x.capture=true) (hd:(Zk x.capture seen).Nodup):Vt { x with capture:=noB } k seen (Ry x++r)=.ok (x,k,Zk x.capture seen) r:=by
 unfold Vt Ry
 by_cases h:x.capture=noB
 ·rw [if_pos h, List.nil_append, if_neg (by rw [hr]; simp)]
  unfold Zk
  rw [if_pos h]
  obtain ⟨a,b,c,d,e⟩:=x
  dsimp only at h
  rw [h]
 ·rw [if_neg h]
  have h1:=hn _ (hc.resolve_left h)
  unfold Zk at hd ⊢
  rw [if_neg h] at hd ⊢
  show (if isT 5 Tf ((5,Tf) :: (1,x.capture) :: r)=true then _ else _)=_
  rw [if_pos (show isT 5 Tf ((5,Tf) :: (1,x.capture) :: r)=true by unfold isT; simp)]
  show (if Yl ((1,x.capture) :: r)=true then _ else _)=_
  rw [if_pos (by unfold Yl; simp [h1.1])]
  show (if inC x.capture seen=true then _ else _)=_
  rw [if_neg (fun h=>(List.nodup_cons.1 hd).1 (Xbl.1 h))]
  show PQ.ok ({ x with capture:=x.capture },k,(if x.capture=noB then seen else x.capture :: seen)) r=_
  rw [if_neg h]
theorem Xid {nm:ByteArray→Bool} (hn:Nm nm) {x:ByteArray} (h:nm x=true) (r:List Tk):Yl ((1,x) :: r)=true:=by
 have:=(hn x h).1
 unfold Yl
 simp [this]
theorem Xdz {nm:ByteArray→Bool} (hn:Nm nm) {x:Ag} (hf:x.field=noB∨nm x.field=true) {r:List Tk} (hr:Zj r=false):Zj (Zc x++r) = !decide (x.field=noB)∧Xe2 (Zc x++r)=x.field∧Nb (Zc x++r)=r:=by
 unfold Xe2 Nb Zc
 by_cases h:x.field=noB
 ·rw [if_pos h,List.nil_append,hr,decide_eq_true h]
  exact ⟨rfl,by rw [if_neg (by simp),h],by rw [if_neg (by simp)]⟩
 ·rw [if_neg h]
  have h1:=hf.resolve_left h
  have h2:Zj ([(1,x.field),(5,Xfc)]++r)=true:=by
   unfold Zj
   rw [show ([(1,x.field),(5,Xfc)]++r:List Tk)=(1,x.field) :: (5,Xfc) :: r from rfl,Xid hn h1,List.tail_cons]
   unfold isT
   simp
  rw [h2,decide_eq_false h]
  exact ⟨rfl,by rw [if_pos rfl]; rfl,by rw [if_pos rfl]; rfl⟩
theorem noFd_str (s:ByteArray) (r:List Tk):Zj ((2,s) :: r)=false:=by
 unfold Zj Yl
 simp
theorem Xn2 (s:ByteArray) (r:List Tk):Zj ((5,s) :: r)=false:=by
 unfold Zj Yl
 simp
theorem V6 (k:Int) (x:ByteArray) (r:List Tk):isT k x ((k,x) :: r)=true:=by unfold isT; simp
theorem Xaz {k k':Int} (h:k'≠k) (x y:ByteArray) (r:List Tk):isT k x ((k',y) :: r)=false:=by
 unfold isT
 simp [h]
theorem Xb4 {k:Int} {x y:ByteArray} (h:y≠x) (r:List Tk):isT k x ((k,y) :: r)=false:=by
 unfold isT
 simp [h]
theorem Xdf {nm:ByteArray→Bool} (hn:Nm nm) {x:Ag} (hf:x.field=noB∨nm x.field=true) {r:List Tk} (hr:Zj r=false) (hb:isT 5 opB r=true∨Xap r=true):Ri (Zc x++r)=true:=by
 unfold Ri
 by_cases h:x.field=noB
 ·unfold Zc
  rw [if_pos h,List.nil_append,hr]
  rcases hb with h | h <;> rw [h] <;> simp
 ·rw [(Xdz hn hf hr).1,decide_eq_false h]
  rfl
theorem Xk9 {g:PF} {r:List Tk} (hr:Xhz r):Xhz (Ep g++r):=by
 cases g with
 | nil=>exact hr
 | cons x k s =>
  unfold Xhz Ep Zc
  by_cases h:x.field=noB
  ·rw [if_pos h,List.nil_append]
   by_cases g:x.lit=true
   ·rw [if_pos g]
    exact Xaz (by decide) _ _ _
   ·rw [if_neg g]
    exact Xb4 (by decide) _
  ·rw [if_neg h]
   exact Xaz (by decide) _ _ _
theorem Xk0 {nm:ByteArray→Bool} (hn:Nm nm):∀ (f:Nat),(∀ (m:Nat) (seen:List ByteArray) (x:Ag) (k:PF) (r:List Tk),2 * (Bz (.cons x k .nil)).length≤f→Xd7 (.cons x k .nil)→Vd nm (.cons x k .nil)=true→(Jw (.cons x k .nil) seen).Nodup→m + (Bz (.cons x k .nil)).length≤32→Xhz r→Xa4 f m seen (Ep (.cons x k .nil)++r)=.ok (x,k,Jw (.cons x k .nil) seen) r) ∧
  (∀ (m:Nat) (seen:List ByteArray) (g:PF) (r:List Tk),2 * (Bz g).length + 1≤f→Xd7 g→Vd nm g=true→(Jw g seen).Nodup→m + (Bz g).length≤32→kidsT f m seen (Ep g++(5,clB) :: r)=.ok (g,Jw g seen) r)
 | 0=>⟨fun m seen x k r hf=>by simp only [Bz,List.length_cons] at hf; omega,fun m seen g r hf=>by omega⟩
 | f + 1=>by
  obtain ⟨i1,i2⟩:=Xk0 hn f
  refine ⟨fun m seen x k r hf hfit hg hd hm hr=>?_,fun m seen g r hf hfit hg hd hm=>?_⟩
  ·obtain ⟨g1,g2,g3,g4,g5,_⟩:=Xb hg
   obtain ⟨f1,f2,_⟩:=hfit
   simp only [Bz,List.append_nil,List.length_cons] at hf hm
   have hw:Ep (.cons x k .nil)++r=Zc x++((if x.lit=true then [(2,x.name)] else (5,opB) :: Qb x :: (Ep k++[(5,clB)]))++(Ry x++r)):=by
    simp only [Ep,List.append_assoc,List.nil_append]
   rw [hw,Tm]
   by_cases hl:x.lit=true
   ·obtain ⟨l1,rfl⟩:=g1 hl
    rw [if_pos hl]
    have hz:Zj ([(2,x.name)]++(Ry x++r))=false:=noFd_str _ _
    have hst:Xap ([(2,x.name)]++(Ry x++r))=true:=by
     show (decide ((2:Int)=2) && !decide (x.name=noB))=true
     rw [decide_eq_false l1]; rfl
    obtain ⟨e1,e2,e3⟩:=Xdz hn g3 hz
    rw [if_pos (Xdf hn g3 hz (.inr hst)),if_neg (by omega),e3,if_pos hst,e2]
    show Vt ⟨x.name,true,x.field,noB,0⟩ .nil seen (Ry x++r)=_
    have hx:(⟨x.name,true,x.field,noB,0⟩:Ag) = { x with capture:=noB }:=by
     have:x.kids=0:=f1
     rw [← hl,← this]
    rw [hx]
    exact Xhw hn hr g4 hd
   ·have hlf:x.lit=false:=by simpa using hl
    have g2':=g2 hlf
    rw [if_neg hl]
    have hz:Zj ((5,opB) :: Qb x :: (Ep k++[(5,clB)])++(Ry x++r))=false:=Xn2 _ _
    have hst:isT 5 opB ((5,opB) :: Qb x :: (Ep k++[(5,clB)])++(Ry x++r))=true:=V6 _ _ _
    have hns:¬ Xap ((5,opB) :: Qb x :: (Ep k++[(5,clB)])++(Ry x++r))=true:=by
     show ¬ (decide ((5:Int)=2) && !decide (opB=noB))=true
     simp
    obtain ⟨e1,e2,e3⟩:=Xdz hn g3 hz
    have hnm:isT 1 Ti (Qb x :: (Ep k++[(5,clB)])++(Ry x++r))=decide (x.name=noB)∧nmT (Qb x :: (Ep k++[(5,clB)])++(Ry x++r))=true∧(¬ x.name=noB→hdT (Qb x :: (Ep k++[(5,clB)])++(Ry x++r))=x.name):=by
     unfold Qb nmT
     by_cases h:x.name=noB
     ·rw [if_pos h,decide_eq_true h]
      exact ⟨V6 _ _ _,by rw [show isT 1 Ti ((1,Ti) :: (Ep k++[(5,clB)])++(Ry x++r))=true from V6 _ _ _]; rfl,fun h'=>absurd h h'⟩
     ·rw [if_neg h,decide_eq_false h]
      have h1:=g2'.resolve_left h
      exact ⟨Xb4 (hn _ h1).1 _,by rw [show Yl ((1,x.name) :: (Ep k++[(5,clB)])++(Ry x++r))=true from Xid hn h1 _,Bool.or_true],fun _=>rfl⟩
    obtain ⟨n1,n2,n3⟩:=hnm
    rw [if_pos (Xdf hn g3 hz (.inl hst)),if_neg (by omega),e3,if_neg hns,if_pos hst,e2]
    have ht:((5,opB) :: Qb x :: (Ep k++[(5,clB)])++(Ry x++r)).tail=Qb x :: (Ep k++[(5,clB)])++(Ry x++r):=rfl
    rw [ht,if_pos n2,n1]
    have ht2:(Qb x :: (Ep k++[(5,clB)])++(Ry x++r)).tail=Ep k++(5,clB) :: (Ry x++r):=by
     show (Ep k++[(5,clB)])++(Ry x++r)=_
     simp
    have hkn:(Jw k seen).Nodup:=by
     have hd':(Zk x.capture (Jw k seen)).Nodup:=hd
     obtain ⟨p,hp⟩:=Xf4 x.capture (Jw k seen)
     rw [hp] at hd'
     exact (List.nodup_append.1 hd').2.1
    rw [ht2,i2 (m + 1) seen k (Ry x++r) (by omega) f2 g5 hkn (by omega)]
    dsimp only
    have hx:(⟨if decide (x.name=noB)=true then noB else hdT (Qb x :: (Ep k++[(5,clB)])++(Ry x++r)),false,x.field,noB,(Ku k:Int)⟩:Ag) = { x with capture:=noB }:=by
     have:(if decide (x.name=noB)=true then noB else hdT (Qb x :: (Ep k++[(5,clB)])++(Ry x++r)))=x.name:=by
      by_cases h:x.name=noB
      ·rw [if_pos (decide_eq_true h),h]
      ·rw [if_neg (by simpa using h),n3 h]
     rw [this,← hlf,← f1]
    rw [hx]
    exact Xhw hn hr g4 hd
  ·rw [Qg]
   cases g with
   | nil =>
    rw [if_pos (show isT 5 clB (Ep .nil++(5,clB) :: r)=true from V6 _ _ _)]
    rfl
   | cons x k s =>
    obtain ⟨g1,g2,g3,g4,g5,g6⟩:=Xb hg
    obtain ⟨f1,f2,f3⟩:=hfit
    simp only [Bz,List.length_cons,List.length_append] at hf hm
    have hw:Ep (.cons x k s)++(5,clB) :: r=Ep (.cons x k .nil)++(Ep s++(5,clB) :: r):=by
     simp only [Ep,List.append_assoc,List.nil_append]
    have hnc:isT 5 clB (Ep (.cons x k s)++(5,clB) :: r)=false:=by
     unfold Ep Zc
     by_cases h:x.field=noB
     ·rw [if_pos h,List.nil_append]
      by_cases g:x.lit=true
      ·rw [if_pos g]
       exact Xaz (by decide) _ _ _
      ·rw [if_neg g]
       exact Xb4 (by decide) _
     ·rw [if_neg h]
      exact Xaz (by decide) _ _ _
    rw [if_neg (by rw [hnc]; simp),hw]
    have hg':Vd nm (.cons x k .nil)=true:=by
     unfold Vd at hg ⊢
     rw [Bool.and_eq_true] at hg ⊢
     exact ⟨hg.1,rfl⟩
    have hd':(Jw s (Jw (.cons x k .nil) seen)).Nodup:=hd
    have hd1:(Jw (.cons x k .nil) seen).Nodup:=by
     obtain ⟨p,hp⟩:=Xad s (Jw (.cons x k .nil) seen)
     rw [hp] at hd'
     exact (List.nodup_append.1 hd').2.1
    have hl:(Bz (.cons x k .nil)).length=(Bz k).length + 1:=by simp only [Bz,List.append_nil,List.length_cons]
    rw [i1 m seen x k (Ep s++(5,clB) :: r) (by omega) ⟨f1,f2,trivial⟩ hg' hd1 (by omega) (Xk9 (Xb4 (by decide) _))]
    dsimp only
    rw [i2 (m + 1 + (Bz k).length) (Jw (.cons x k .nil) seen) s r (by omega) f3 g6 hd' (by omega)]
    rfl
end Go.Proofs.YtjookebbmfiidaaDoor.L
