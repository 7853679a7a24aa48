/- Queries: patterns as forests, their words, the plain parser on words. No condition. -/
import Derived.Test.YtjookebbmfiidaaDoorR
set_option linter.unusedVariables false
namespace Go.Proofs.YtjookebbmfiidaaDoor.L
open Go.Proofs.YtjookebbmfiidaaDoor.R
inductive PF where
 | nil:PF
 | cons (x:Aj) (k s:PF):PF
def Dc:PF→List Aj
 | .nil=>[]
 | .cons x k s=>x :: (Dc k++Dc s)
def Qs:PF→Nat
 | .nil=>0
 | .cons _ _ s=>Qs s + 1
def Xda:PF→Prop
 | .nil=>True
 | .cons x k s=>x.kids=(Qs k:Int)∧Xda k∧Xda s
abbrev Tk:=Int × ByteArray
abbrev uscB:ByteArray:=⟨#[95]⟩
abbrev noB:ByteArray:=⟨#[]⟩
def inC (c:ByteArray) (l:List ByteArray):Bool:=l.any fun y=>decide (c=y)
theorem Xl3 {c:ByteArray} {l:List ByteArray}:inC c l=true↔c ∈ l:=by
 unfold inC
 rw [List.any_eq_true]
 constructor
 ·rintro ⟨y,hy,e⟩
  rw [of_decide_eq_true e]; exact hy
 ·exact fun h=>⟨c,h,decide_eq_true rfl⟩
def Xds (c:ByteArray) (l:List ByteArray):List ByteArray:=if c=noB then l else c :: l
def Qr:PF→List ByteArray→List ByteArray
 | .nil,l=>l
 | .cons x k s,l=>Qr s (Xds x.capture (Qr k l))
def Zo (nm:ByteArray→Bool):PF→Bool
 | .nil=>true
 | .cons x k s=>(if x.lit=true then !decide (x.name=noB) && decide (Qs k=0) else (decide (x.name=noB) || nm x.name)) && (decide (x.field=noB) || nm x.field) && (decide (x.capture=noB) || nm x.capture) && Zo nm k && Zo nm s
theorem Xjq {k:PF} (h:Qs k=0):k=.nil:=by cases k with
 | nil=>rfl
 | cons x k s=>simp [Qs] at h
theorem Xf5 {nm:ByteArray→Bool} {x:Aj} {k s:PF} (h:Zo nm (.cons x k s)=true):(x.lit=true→x.name≠noB∧k=.nil)∧(x.lit=false→x.name=noB∨nm x.name=true)∧(x.field=noB∨nm x.field=true)∧(x.capture=noB∨nm x.capture=true)∧Zo nm k=true∧Zo nm s=true:=by
 simp only [Zo,Bool.and_eq_true,Bool.or_eq_true,decide_eq_true_eq] at h
 obtain ⟨⟨⟨⟨h1,h2⟩,h3⟩,h4⟩,h5⟩:=h
 refine ⟨fun e=>?_,fun e=>?_,h2,h3,h4,h5⟩
 ·rw [if_pos e,Bool.and_eq_true,decide_eq_true_eq] at h1
  exact ⟨by simpa using h1.1,Xjq h1.2⟩
 ·rw [if_neg (by rw [e]; simp)] at h1
  simpa using h1
end Go.Proofs.YtjookebbmfiidaaDoor.L
set_option linter.unusedVariables false
namespace Go.Proofs.YtjookebbmfiidaaDoor.L
open Go.Proofs.YtjookebbmfiidaaDoor.R
def SndT (nm:ByteArray→Bool) (t:List Tk):Prop:=∀ w ∈ t,w.1=1→w.2≠uscB→nm w.2=true
theorem SndT.app {nm:ByteArray→Bool} {a b:List Tk} (h:SndT nm (a++b)):SndT nm b:=fun w hw=>h w (List.mem_append_right _ hw)
end Go.Proofs.YtjookebbmfiidaaDoor.L
set_option linter.unusedVariables false
namespace Go.Proofs.YtjookebbmfiidaaDoor.L
open Go.Proofs.YtjookebbmfiidaaDoor.R
def goodC (caps:List ByteArray) (c:D8):Prop:=c.a ∈ caps∧(c.b=noB∨(c.b ∈ caps∧c.text=noB))
def Xj (nm:ByteArray→Bool) (x:Aj) (k:PF) (l:List D8):Prop :=
 Xda (.cons x k .nil)∧Zo nm (.cons x k .nil)=true∧(Qr (.cons x k .nil) []).Nodup∧(Dc (.cons x k .nil)).length≤32∧l.length≤16∧∀ c ∈ l,goodC (Qr (.cons x k .nil) []) c
end Go.Proofs.YtjookebbmfiidaaDoor.L
set_option linter.unusedVariables false
namespace Go.Proofs.YtjookebbmfiidaaDoor.L
open Go.Proofs.YtjookebbmfiidaaDoor.R
def Vl:List Aj→Nat→Option (List Aj)
 | l,0=>some l
 | [],_ + 1=>none
 | x :: xs,c + 1=>if x.kids < 0 then none else Vl xs (c + x.kids.toNat)
theorem Vq (l:List Aj):Vl l 0=some l:=by cases l <;> rfl
theorem Vt (x:Aj) (xs:List Aj) (c:Nat):Vl (x :: xs) (c + 1)=if x.kids < 0 then none else Vl xs (c + x.kids.toNat):=rfl
theorem Xbu:∀ (f:PF) (r:List Aj) (c:Nat),Xda f→Vl (Dc f++r) (Qs f + c)=Vl r c
 | .nil,r,c,_=>by simp [Dc,Qs]
 | .cons x k s,r,c,hf=>by
  obtain ⟨f1,f2,f3⟩:=hf
  have e:Qs (.cons x k s) + c=Qs s + c + 1:=by simp only [Qs]; omega
  rw [e]
  simp only [Dc,List.cons_append,List.append_assoc]
  rw [Vt,if_neg (by omega),f1,Int.toNat_natCast,show Qs s + c + Qs k=Qs k + (Qs s + c) by omega,Xbu k _ _ f2,Xbu s _ _ f3]
theorem Xcu:∀ (n:Nat) (l:List Aj) (a b:Nat) (r:List Aj),l.length≤n→Vl l (a + b)=some r→∃ f q,Xda f∧Qs f=a∧l=Dc f++q∧Vl q b=some r
 | n,l,0,b,r,hn,h=>⟨.nil,l,trivial,rfl,rfl,by rwa [Nat.zero_add] at h⟩
 | n,[],a + 1,b,r,hn,h=>by rw [show a + 1 + b=a + b + 1 by omega] at h; cases h
 | 0,x :: xs,a + 1,b,r,hn,h=>by simp at hn
 | n + 1,x :: xs,a + 1,b,r,hn,h=>by
  rw [show a + 1 + b=a + b + 1 by omega,Vt] at h
  by_cases g:x.kids < 0
  ·rw [if_pos g] at h; cases h
  ·rw [if_neg g, show a + b + x.kids.toNat = x.kids.toNat + (a + b) by omega] at h
   simp only [List.length_cons] at hn
   obtain ⟨k,q,k1,k2,k3,k4⟩:=Xcu n xs x.kids.toNat (a + b) r (by omega) h
   have hq:q.length≤n:=by
    have:=congrArg List.length k3
    rw [List.length_append] at this
    omega
   obtain ⟨s,q2,s1,s2,s3,s4⟩:=Xcu n q a b r hq k4
   refine ⟨.cons x k s,q2,⟨by omega,k1,s1⟩,by simp [Qs,s2],?_,s4⟩
   rw [k3,s3]
   simp [Dc]
theorem behP_ok {l:List Aj} {c:Nat} {r:List Aj} (h:Vl l c=some r):∃ f,Xda f∧Qs f=c∧l=Dc f++r:=by
 obtain ⟨f,q,h1,h2,h3,h4⟩:=Xcu l.length l c 0 r (Nat.le_refl _) h
 rw [Vq] at h4
 injection h4 with h4
 subst h4
 exact ⟨f,h1,h2,h3⟩
theorem Xi4:∀ f:PF,Qs f≤(Dc f).length
 | .nil=>Nat.le_refl _
 | .cons x k s=>by
  have:=Xi4 s
  simp only [Qs,Dc,List.length_cons,List.length_append]
  omega
def sndN (nm:ByteArray→Bool) (x:Aj):Bool:=(if x.lit=true then !decide (x.name=noB) && decide (x.kids=0) else (decide (x.name=noB) || nm x.name)) && (decide (x.field=noB) || nm x.field) && (decide (x.capture=noB) || nm x.capture)
theorem Xbv {nm:ByteArray→Bool}:∀ (g:PF),Xda g→Zo nm g=(Dc g).all (sndN nm)
 | .nil,_=>rfl
 | .cons x k s,hf=>by
  obtain ⟨f1,f2,f3⟩:=hf
  have e:decide (Qs k=0)=decide (x.kids=0):=by rw [f1]; exact decide_eq_decide.2 (by omega)
  unfold Zo
  rw [Xbv k f2,Xbv s f3,e]
  simp only [Dc,List.all_cons,List.all_append]
  unfold sndN
  simp only [Bool.and_assoc]
def Rj (v:List Aj):List ByteArray:=(v.map (·.capture)).filter fun c=>!decide (c=noB)
theorem Xh6 (a b:List Aj):Rj (a++b)=Rj a++Rj b:=by unfold Rj; rw [List.map_append,List.filter_append]
theorem Xki (x:Aj) (v:List Aj):Rj (x :: v)=Xds x.capture (Rj v):=by
 unfold Rj Xds
 rw [List.map_cons,List.filter_cons]
 by_cases h:x.capture=noB
 ·rw [if_pos h,if_neg (by simp [h])]
 ·rw [if_neg h,if_pos (by simp [h])]
theorem Yr:∀ (g:PF) (l:List ByteArray),(Qr g l).Perm (Rj (Dc g)++l)
 | .nil,l=>List.Perm.refl _
 | .cons x k s,l=>by
  have h1:=Yr k l
  have h2:=Yr s (Xds x.capture (Qr k l))
  show (Qr s (Xds x.capture (Qr k l))).Perm _
  refine h2.trans ?_
  have h4:(Rj (Dc s)++Qr k l).Perm (Rj (Dc k)++Rj (Dc s)++l):=(List.Perm.append_left _ h1).trans (by
   rw [← List.append_assoc]
   exact List.Perm.append_right _ List.perm_append_comm)
  simp only [Dc]
  rw [Xki,Xh6]
  unfold Xds
  by_cases h:x.capture=noB
  ·rw [if_pos h,if_pos h]
   exact h4
  ·rw [if_neg h,if_neg h]
   have h3:(Rj (Dc s)++x.capture :: Qr k l).Perm (x.capture :: (Rj (Dc s)++Qr k l)):=List.perm_middle
   exact h3.trans (List.Perm.cons _ h4)
theorem Xbr (g:PF) {y:ByteArray}:y ∈ Qr g []↔y ∈ Rj (Dc g):=by
 have:=(Yr g []).mem_iff (a:=y)
 rwa [List.append_nil] at this
theorem Xf0 (g:PF):(Qr g []).Nodup↔(Rj (Dc g)).Nodup:=by
 have:=(Yr g []).nodup_iff
 rwa [List.append_nil] at this
def Xhy (nm:ByteArray→Bool) (v:List Aj) (l:List D8):Prop :=
 v.length≤32∧l.length≤16∧Vl v 1=some []∧(∀ x ∈ v,sndN nm x=true)∧(Rj v).Nodup∧∀ c ∈ l,goodC (Rj v) c
theorem Xfc {nm:ByteArray→Bool} {v:List Aj} {l:List D8}:Xhy nm v l↔∃ x k,v=Dc (.cons x k .nil)∧Xj nm x k l:=by
 constructor
 ·rintro ⟨h1,h2,h3,h4,h5,h6⟩
  obtain ⟨f,f1,f2,f3⟩:=behP_ok h3
  rw [List.append_nil] at f3
  obtain ⟨x,k,rfl⟩:∃ x k,f=.cons x k .nil:=by
   cases f with
   | nil=>simp [Qs] at f2
   | cons x k s =>
    simp only [Qs] at f2
    obtain rfl:=Xjq (show Qs s=0 by omega)
    exact ⟨x,k,rfl⟩
  subst f3
  refine ⟨x,k,rfl,f1,?_,(Xf0 _).2 h5,h1,h2,fun c hc=>?_⟩
  ·rw [Xbv _ f1,List.all_eq_true]
   exact h4
  ·obtain ⟨g1,g2⟩:=h6 c hc
   exact ⟨(Xbr _).2 g1,g2.imp id fun g=>⟨(Xbr _).2 g.1,g.2⟩⟩
 ·rintro ⟨x,k,rfl,h1,h2,h3,h4,h5,h6⟩
  refine ⟨h4,h5,?_,?_,(Xf0 _).1 h3,fun c hc=>?_⟩
  ·have:=Xbu (.cons x k .nil) [] 0 h1
   rw [List.append_nil,Nat.add_zero,Vq] at this
   exact this
  ·rw [Xbv _ h1,List.all_eq_true] at h2
   exact h2
  ·obtain ⟨g1,g2⟩:=h6 c hc
   exact ⟨(Xbr _).1 g1,g2.imp id fun g=>⟨(Xbr _).1 g.1,g.2⟩⟩
end Go.Proofs.YtjookebbmfiidaaDoor.L
