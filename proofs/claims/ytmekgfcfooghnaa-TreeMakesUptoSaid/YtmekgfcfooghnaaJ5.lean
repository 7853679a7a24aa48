/- Token, Show and Reduce of the program, as plain functions. Conditions: sizes, numbers are ints. -/
import Derived.Test.YtmekgfcfooghnaaJ4
set_option linter.unusedVariables false
namespace Go.Proofs.Ytmekgfcfooghnaa.L
open Go.Proofs.Ytmekgfcfooghnaa.B Go.Proofs.Ytmekgfcfooghnaa.R
def Sm (t:List Xm4):Prop:=t.length≤2 ^ 39
theorem Sm.fits {t:List Xm4} (h:Sm t):Xwd t:=by unfold Sm at h; show t.length≤_; omega
def tokF (g:Xno) (s:Int):Bool:=decide (0≤s) && decide (s < (g.terms.length:Int))
def pre95 (s:ByteArray):Bool:=decide (1≤s.size) && seq (s.extract 0 1) (⟨#[95]⟩:ByteArray)
def Xtw (g:Xno) (s:Int):Bool:=tokF g s && (!(ix g.terms s).lit && pre95 (ix g.terms s).name)
def Xzb (g:Xno) (s:Int):Bool:=decide (0≤s) && (decide (0≤s - (g.terms.length:Int)) && (decide (s - (g.terms.length:Int) < (g.syms.length:Int)) && (ix g.syms (s - (g.terms.length:Int))).kind == 1))
def Xx3 (l:Xml) (term leaf from_ to:Int):List Xm4:=if term < 1∨term≥(l.gram.terms.length:Int) then [] else [⟨(ix l.gram.terms term).name,!(ix l.gram.terms term).lit,(⟨#[]⟩:ByteArray),from_,to,0,leaf⟩]
def Xxg (l:Xml) (s:Int) (k:List Xm4):List Xm4:=if Xtw l.gram s=true then [] else k
def Xy3 (name:ByteArray) (t:List Xm4) (e:Int):List Xm4:=(if (Xnq t).length > 0 then (⟨name,true,(⟨#[]⟩:ByteArray),(ix t (ix (Xnq t) 0)).from_,(ix t (ix (Xnq t) ((Xnq t).length - 1:Nat))).to,((Xnq t).length:Int),-1⟩:Xm4) else ⟨name,true,(⟨#[]⟩:ByteArray),e,e,0,-1⟩) :: t
def setRF (g:Xm4→Xm4):List Int→List Xm4→List Xm4
 | [],t=>t
 | i :: l,t=>setRF g l (t.set i.toNat (g (ix t i)))
def Xsx (f:ByteArray) (n:Xm4):Xm4:=if n.field=(⟨#[]⟩:ByteArray) then { n with field:=f } else n
def Yba (a:ByteArray) (n:Xm4):Xm4:={ n with name:=a,named:=true }
def Xyy (l:Xml) (r:Xo0) (k:List Xm4) (e:Int):List Xm4:=if r.as=(⟨#[]⟩:ByteArray) then Xxg l r.sym k else if tokF l.gram r.sym=false∧Xzb l.gram r.sym=false then Xy3 r.as k e else setRF (Yba r.as) (Xnq k) k
def Xzz (l:Xml) (r:Xo0) (k:List Xm4) (e:Int):List Xm4:=setRF (Xsx r.field) (Xnq (Xyy l r k e)) (Xyy l r k e)
def redF (l:Xml) (p:Xs0) (kids:List (List Xm4)) (ends:List Int) (i:Nat) (out:List Xm4):Sum (List Xm4) (List Xm4):=if Xxw (ix kids (i:Int)) < 0 then .inr [] else .inl (out++Xzz l (ix p.rhs (i:Int)) (ix kids (i:Int)) (ix ends ((i:Int) + 1)))
def topF (l:Xml) (p:Xs0) (ends:List Int) (out:List Xm4):List Xm4:=if 0≤p.lhs∧p.lhs < (l.gram.syms.length:Int)∧(ix l.gram.syms p.lhs).kind=1 then Xy3 (ix l.gram.syms p.lhs).name out (ix ends (p.rhs.length:Int)) else out
def Xv8 (l:Xml) (prod:Int) (kids:List (List Xm4)) (ends:List Int):List Xm4 :=
 if prod < 0∨prod≥(l.gram.prods.length:Int) then [] else
 if kids.length≠(ix l.gram.prods prod).rhs.length∨ends.length≠(ix l.gram.prods prod).rhs.length + 1 then [] else
 Xwu (redF l (ix l.gram.prods prod) kids ends) (topF l (ix l.gram.prods prod) ends) (List.range (ix l.gram.prods prod).rhs.length) []
theorem Xuq {t:List Xm4} {i:Int} (h:i ∈ Xnq t):0≤i∧i < (t.length:Int):=by
 unfold Xnq at h
 cases hs:sf t 0 with
 | none=>rw [hs] at h; cases h
 | some S =>
  rw [hs] at h
  obtain ⟨y,hy,rfl⟩:=List.mem_map.1 h
  obtain ⟨j,hj,rfl⟩:=List.getElem_of_mem hy
  have hj:j < S.length:=hj
  obtain ⟨h1,_⟩:=At.nth (t:=t) (a:=0) (S:=S) ⟨Nat.zero_le _,hs⟩ hj
  obtain ⟨p1,p2,p3,p4,p5⟩:=h1.pos
  show 0≤(S[j].1).at_∧(S[j].1).at_ < _
  omega
theorem Xxj (t:List Xm4):(Xnq t).length≤t.length:=by
 unfold Xnq
 cases h:sf t 0 with
 | none=>exact Nat.zero_le _
 | some S =>
  have:=(Ya3 (l:=t) (a:=0) h).2
  simpa using this
theorem Xzh (g:Xm4→Xm4):∀ (l:List Int) (t:List Xm4),(setRF g l t).length=t.length
 | [],_=>rfl
 | i :: l,t=>by rw [setRF,Xzh g l,List.length_set]
theorem Wf.set {t:List Xm4} (h:Wf t) {i:Nat} {n:Xm4} (hn:i < t.length→n.kids=(ix t (i:Int)).kids):Wf (t.set i n):=fun m hm=>by
 rcases Nat.lt_or_ge i t.length with g | g
 ·rcases List.mem_or_eq_of_mem_set hm with hm | rfl
  ·exact h m hm
  ·rw [hn g,Xnk g]; exact h _ (List.getElem_mem g)
 ·rw [List.set_eq_of_length_le g] at hm
  exact h m hm
theorem Wf.setRF {g:Xm4→Xm4} (hg:∀ n,(g n).kids=n.kids):∀ {l:List Int} {t:List Xm4},Wf t→(∀ i ∈ l,0≤i)→Wf (setRF g l t)
 | [],_,h,_=>h
 | i :: l,t,h,hi=>by
  have h0:=hi i (by simp)
  exact Wf.setRF hg (l:=l) (Wf.set h fun _=>by rw [Int.toNat_of_nonneg h0,hg]) fun k hk=>hi k (by simp [hk])
theorem Yfr (f:ByteArray) (n:Xm4):(Xsx f n).kids=n.kids:=by unfold Xsx; split <;> rfl
theorem Yen (f:ByteArray) (n:Xm4):(Yba f n).kids=n.kids:=rfl
theorem Wf.over {name:ByteArray} {t:List Xm4} {e:Int} (h:Wf t) (hs:Sm t):Wf (Xy3 name t e):=fun m hm=>by
 have:=Xxj t
 unfold Sm at hs
 unfold Xy3 at hm
 rcases List.mem_cons.1 hm with rfl | hm
 ·split
  ·dsimp only; omega
  ·dsimp only; omega
 ·exact h m hm
theorem Wf.show {l:Xml} {s:Int} {k:List Xm4} (h:Wf k):Wf (Xxg l s k):=by
 unfold Xxg
 split
 ·exact fun m hm=>by cases hm
 ·exact h
theorem Ybs (name:ByteArray) (t:List Xm4) (e:Int):(Xy3 name t e).length=t.length + 1:=by unfold Xy3; rw [List.length_cons]
theorem Ydi {l:Xml} {r:Xo0} {k:List Xm4} {e:Int} (h:Wf k) (hs:Sm k):Wf (Xyy l r k e)∧(Xyy l r k e).length≤k.length + 1:=by
 unfold Xyy
 split
 ·refine ⟨h.show,?_⟩
  unfold Xxg
  split
  ·simp
  ·omega
 ·split
  ·exact ⟨h.over hs,by rw [Ybs]; exact Nat.le_refl _⟩
  ·exact ⟨h.setRF (Yen _) fun i hi=>(Xuq hi).1,by rw [Xzh]; omega⟩
theorem Yaw {l:Xml} {r:Xo0} {k:List Xm4} {e:Int} (h:Wf k) (hs:Sm k):Wf (Xzz l r k e)∧(Xzz l r k e).length≤k.length + 1:=by
 obtain ⟨h1,h2⟩:=Ydi (l:=l) (r:=r) (e:=e) h hs
 unfold Xzz
 exact ⟨h1.setRF (Yfr _) fun i hi=>(Xuq hi).1,by rw [Xzh]; exact h2⟩
theorem Token_ok (l:Xml) (term leaf from_ to:Int):Xuu l term leaf from_ to (Xx3 l term leaf from_ to):=by
 have j1:∀ c:Bool,(c=true↔term < 1∨term≥(l.gram.terms.length:Int))→Xs1 term l from_ to leaf c (Xx3 l term leaf from_ to):=fun c hc=>by
  unfold Xs1 Xx3
  cases c with
  | true=>rw [if_pos rfl,if_pos (hc.1 rfl)]
  | false =>
   have:¬ (term < 1∨term≥(l.gram.terms.length:Int)):=fun h=>by have:=hc.2 h; cases this
   rw [if_neg (by simp),if_neg this]
   exact ⟨by omega,rfl⟩
 unfold Xuu
 by_cases h:term < 1
 ·rw [if_pos h]; exact j1 true (by simp [h])
 ·rw [if_neg h]; exact j1 _ (by simp [h])
theorem Ye0 (g:Xno) (s:Int):Xtp g s (tokF g s):=by
 unfold Xtp tokF
 by_cases h:s≥0
 ·rw [if_pos h,decide_eq_true h,Bool.true_and]
 ·rw [if_neg h,decide_eq_false h,Bool.false_and]
theorem Yfj (s:ByteArray):Xs4 s (⟨#[95]⟩:ByteArray) (pre95 s):=by
 refine ⟨_,?_,rfl⟩
 unfold Xou pre95
 have z:(⟨#[95]⟩:ByteArray).size=1:=rfl
 rw [z]
 by_cases h:1≤s.size
 ·rw [if_pos (by omega), decide_eq_true h, Bool.true_and]
  exact ⟨by omega,rfl⟩
 ·rw [if_neg (by omega),decide_eq_false h,Bool.false_and]
theorem Yft (g:Xno) (s:Int):Xu3 g s (Xtw g s):=by
 unfold Xu3 Xtw
 refine ⟨_,Ye0 g s,?_⟩
 cases h:tokF g s with
 | false=>rw [if_neg (by simp),Bool.false_and]
 | true =>
  rw [if_pos rfl,Bool.true_and]
  unfold tokF at h
  rw [Bool.and_eq_true,decide_eq_true_eq,decide_eq_true_eq] at h
  refine ⟨h,?_⟩
  cases hl:(ix g.terms s).lit with
  | true=>rw [if_pos rfl]; rfl
  | false=>rw [if_neg (by simp)]; exact ⟨_,Yfj _,rfl⟩
theorem Yd8 {t:List Xm4} (h:Xwd t):Xo5 t t:=fun b hb=>by
 cases b with
 | true=>rw [if_pos rfl]; exact hb rfl
 | false=>rw [if_neg (by simp)]; exact ⟨_,rfl,by simp; omega,by simp⟩
theorem Yf4 (l:Xml) (s:Int) {k:List Xm4} (h:Xwd k):Xto l s k (Xxg l s k):=by
 unfold Xto Xxg
 refine ⟨_,Yft _ _,?_⟩
 cases hh:Xtw l.gram s with
 | true=>rw [if_pos rfl,if_pos rfl]
 | false=>rw [if_neg (by simp),if_neg (by simp)]; exact ⟨_,Yd8 h,rfl⟩
structure LgOk (l:Xml):Prop where
 te:l.gram.terms.length≤2 ^ 50
 sy:l.gram.syms.length≤2 ^ 50
 pr:l.gram.prods.length≤2 ^ 50
 rh:∀ p ∈ l.gram.prods,p.rhs.length≤2 ^ 50∧∀ r ∈ p.rhs,r.sym≤9223372036854775807
theorem shown_ok {g:Xno} (h:g.terms.length≤2 ^ 50) {s:Int} (hs:s≤9223372036854775807):Xuw g s (Xzb g s):=by
 unfold Xuw Xzb
 by_cases h0:s≥0
 ·have e : w64 (s - (g.terms.length : Int)) = s - (g.terms.length : Int) := Xqy (by omega)
  rw [if_pos h0,decide_eq_true h0,Bool.true_and,e]
  by_cases h1:s - (g.terms.length:Int)≥0
  ·rw [if_pos h1,decide_eq_true h1,Bool.true_and]
   by_cases h2:s - (g.terms.length:Int) < (g.syms.length:Int)
   ·rw [if_pos h2,decide_eq_true h2,Bool.true_and]
    exact ⟨by omega,rfl⟩
   ·rw [if_neg h2,decide_eq_false h2,Bool.false_and]
  ·rw [if_neg h1,decide_eq_false h1,Bool.false_and]
 ·rw [if_neg h0,decide_eq_false h0,Bool.false_and]
theorem Yf2 {name:ByteArray} {t:List Xm4} {e:Int} (hw:Wf t) (hs:Sm t):Xuo name t e (Xy3 name t e):=by
 have hr:=Xxj t
 unfold Sm at hs
 unfold Xuo Xy3
 refine ⟨_,Xz2 (by show t.length≤_; omega) hw,?_⟩
 by_cases h:(Xnq t).length > 0
 ·have e1 : w64 (((Xnq t).length : Int) - 1) = (((Xnq t).length - 1 : Nat) : Int) := by rw [Xqy (by omega)]; omega
  have m0:=Xuq (t:=t) (i:=ix (Xnq t) 0) (by
   have:=Xnk (xs:=Xnq t) (i:=0) h
   rw [show ((0:Nat):Int)=0 from rfl] at this
   rw [this]; exact List.getElem_mem _)
  have m1:=Xuq (t:=t) (i:=ix (Xnq t) (((Xnq t).length - 1:Nat):Int)) (by rw [Xnk (by omega)]; exact List.getElem_mem _)
  rw [if_pos (by omega),if_pos h,e1]
  exact ⟨by omega,m0,by omega,m1,_,rfl,by simp; omega,rfl⟩
 ·have h0:(Xnq t).length=0:=by omega
  rw [if_neg (by omega),if_neg h,h0]
  exact ⟨_,rfl,by simp; omega,rfl⟩
theorem set_ix {t:List Xm4} {i:Nat} (h:i < t.length):t.set i (ix t (i:Int))=t:=by
 rw [Xnk h]
 exact List.set_getElem_self h
theorem Yav (g : Xm4 → Xm4) (e : List Xm4 → List Xm4) : ∀ (l : List Int) (t : List Xm4), Xwu (fun (i : Int) (s : List Xm4) => (.inl (s.set i.toNat (g (ix s i))) : Sum (List Xm4) (List Xm4))) e l t = e (setRF g l t)
 | [],_=>rfl
 | i :: l,t=>by rw [Xxl rfl,Yav g e l,setRF]
theorem Yd2 {r:Xo0} {t:List Xm4} (hw:Wf t) (hl:Xwd t):Xrv r t (setRF (Xsx r.field) (Xnq t) t):=by
 have hlen:=Xxj t
 unfold Xrv
 refine ⟨_,Xz2 hl hw,?_⟩
 have e:=Yav (Xsx r.field) id (Xnq t) t
 rw [show setRF (Xsx r.field) (Xnq t) t=id (setRF (Xsx r.field) (Xnq t) t) from rfl,← e]
 refine Xmh.row (Xnq t) (fun (s:List Xm4) i=>(s,i)) _ id (fun _ s=>s.length=t.length) (fun j hj s hs=>?_) (fun s hs=>?_) rfl
 ·have hi:=Xuq (List.getElem_mem hj)
  refine ⟨fun s' hs'=>?_,fun r' hr'=>by cases hr'⟩
  injection hs' with hs'
  subst hs'
  refine ⟨?_,by rw [List.length_set]; exact hs⟩
  show Xr1 (Xnq t) r s (j:Int) _
  unfold Xr1
  obtain ⟨n,hn⟩:∃ n:Nat,(Xnq t)[j]=(n:Int):=⟨(Xnq t)[j].toNat,by omega⟩
  rw [if_pos (by omega),Xnk hj,Xpj (by omega),hn]
  rw [hn] at hi
  refine ⟨by omega,by omega,?_⟩
  unfold Xsx
  by_cases g:(ix s (n:Int)).field=(⟨#[]⟩:ByteArray)
  ·rw [if_pos g,if_pos g]
   exact ⟨_,rfl,rfl⟩
  ·rw [if_neg g,if_neg g,Int.toNat_natCast,set_ix (by omega)]
 ·show Xr1 (Xnq t) r s ((Xnq t).length:Int) _
  unfold Xr1
  rw [if_neg (by omega)]
  rfl
theorem part_ok {l:Xml} (hl:LgOk l) {r:Xo0} (hr:r.sym≤9223372036854775807) {k:List Xm4} (hw:Wf k) (hs:Sm k) (e:Int):Xvx l r k e (Xzz l r k e):=by
 have hf:=hs.fits
 obtain ⟨p1,p2⟩:=Ydi (l:=l) (r:=r) (e:=e) hw hs
 have hfit:Xwd (Xyy l r k e):=by unfold Sm at hs; show _≤_; omega
 have hfld:=Yd2 (r:=r) p1 hfit
 unfold Xvx Xzz
 refine ⟨_,Yd8 hf,?_⟩
 unfold Xyy at hfld ⊢
 by_cases h0:r.as=(⟨#[]⟩:ByteArray)
 ·rw [if_pos h0] at hfld ⊢
  rw [if_pos h0]
  exact ⟨_,Yf4 l r.sym hf,hfld⟩
 ·rw [if_neg h0] at hfld ⊢
  rw [if_neg h0]
  refine ⟨_,Ye0 _ _,?_⟩
  have named:Xrx r k e false (setRF (Xsx r.field) (Xnq (setRF (Yba r.as) (Xnq k) k)) (setRF (Yba r.as) (Xnq k) k)):=by
   unfold Xrx
   rw [if_neg (by simp)]
   have hlen:=Xxj k
   refine ⟨_,Xz2 hf hw,?_⟩
   have e:=Yav (Yba r.as) (fun t=>setRF (Xsx r.field) (Xnq t) t) (Xnq k) k
   rw [← e]
   refine Xmh.row (Xnq k) (fun (s:List Xm4) i=>(s,i)) _ (fun t=>setRF (Xsx r.field) (Xnq t) t) (fun _ s=>s.length=k.length∧Wf s) (fun j hj s hs=>?_) (fun s hs=>?_) ⟨rfl,hw⟩
   ·have hi:=Xuq (List.getElem_mem hj)
    refine ⟨fun s' hs'=>?_,fun r' hr'=>by cases hr'⟩
    injection hs' with hs'
    subst hs'
    refine ⟨?_,by rw [List.length_set]; exact hs.1,Wf.set hs.2 fun _=>by rw [Int.toNat_of_nonneg hi.1]; rfl⟩
    show Xr6 (Xnq k) r s (j:Int) _
    unfold Xr6
    have hs1:=hs.1
    obtain ⟨n,hn⟩:∃ n:Nat,(Xnq k)[j]=(n:Int):=⟨(Xnq k)[j].toNat,by omega⟩
    rw [if_pos (by omega),Xnk hj,Xpj (by omega),hn]
    rw [hn] at hi
    refine ⟨by omega,by omega,_,rfl,by rw [List.length_set]; omega,_,rfl,?_⟩
    rw [Int.toNat_natCast,Xnk (xs:=s.set n _) (by rw [List.length_set]; omega),List.getElem_set_self,List.set_set]
    rfl
   ·show Xr6 (Xnq k) r s ((Xnq k).length:Int) _
    unfold Xr6
    rw [if_neg (by omega)]
    exact ⟨_,rfl,Yd2 hs.2 (by have:=hs.1; show s.length≤_; rw [this]; exact hf)⟩
  cases ht:tokF l.gram r.sym with
  | true =>
   rw [ht] at hfld
   rw [if_pos rfl,if_neg (by simp)]
   exact named
  | false =>
   rw [ht] at hfld
   rw [if_neg (by simp)]
   refine ⟨_,shown_ok hl.te hr,?_⟩
   cases hsh:Xzb l.gram r.sym with
   | true=>rw [if_neg (by simp)]; exact named
   | false =>
    rw [hsh] at hfld
    rw [if_pos ⟨rfl,rfl⟩] at hfld ⊢
    unfold Xrx
    rw [if_pos (by rfl)]
    exact ⟨_,Yf2 hw hs,hfld⟩
theorem Yfo {l:Xml} (hl:LgOk l) {prod:Int} {kids:List (List Xm4)} {ends:List Int} {B:Nat} (hk:kids.length≤2 ^ 50) (he:ends.length≤2 ^ 50) (hw:∀ k ∈ kids,Wf k∧k.length + 1≤B) (hB:kids.length * B + B≤2 ^ 39):Xu4 l prod kids ends (Xv8 l prod kids ends):=by
 have j1:∀ c:Bool,(c=true↔prod < 0∨prod≥(l.gram.prods.length:Int))→Xrn prod l kids ends c (Xv8 l prod kids ends):=fun c hc=>by
  unfold Xrn Xv8
  cases c with
  | true=>rw [if_pos rfl,if_pos (hc.1 rfl)]
  | false =>
   have h0:¬ (prod < 0∨prod≥(l.gram.prods.length:Int)):=fun h=>by have:=hc.2 h; cases this
   rw [if_neg (by simp),if_neg h0]
   refine ⟨by omega,?_⟩
   obtain ⟨n,rfl⟩:∃ n:Nat,prod=n:=⟨prod.toNat,by omega⟩
   have hpm:ix l.gram.prods (n:Int) ∈ l.gram.prods:=by rw [Xnk (by omega)]; exact List.getElem_mem _
   obtain ⟨hr1,hr2⟩:=hl.rh _ hpm
   generalize hp:ix l.gram.prods (n:Int)=p at *
   have e0:w64 ((p.rhs.length:Int) + 1)=(p.rhs.length:Int) + 1:=Xpj (by omega)
   by_cases h1:kids.length=p.rhs.length
   ·rw [if_pos (by omega), e0]
    unfold Xro
    by_cases h2:ends.length=p.rhs.length + 1
    ·have eb:((ends.length:Int) != (p.rhs.length:Int) + 1)=false:=by rw [h2]; simp
     rw [eb,if_neg (by simp),if_neg (by omega)]
     refine Xmh.row (List.range p.rhs.length) (fun (s:List Xm4) i=>(s,i)) _ _ (fun i s=>Wf s∧s.length≤i * B) (fun j hj s hs=>?_) (fun s hs=>?_) ⟨fun m hm=>(by cases hm),by simp⟩
     ·rw [List.length_range] at hj
      rw [List.getElem_range]
      have hkm:ix kids (j:Int) ∈ kids:=by rw [Xnk (by omega)]; exact List.getElem_mem _
      obtain ⟨hw1,hw2⟩:=hw _ hkm
      have hjB:j * B + B≤kids.length * B:=by
       have:=Nat.mul_le_mul_right B (show j + 1≤kids.length by omega)
       rw [Nat.add_mul,Nat.one_mul] at this
       exact this
      have hsm:Sm (ix kids (j:Int)):=by unfold Sm; omega
      have hrm:ix p.rhs (j:Int) ∈ p.rhs:=by rw [Xnk (by omega)]; exact List.getElem_mem _
      have hpo:=Yaw (l:=l) (r:=ix p.rhs (j:Int)) (e:=ix ends ((j:Int) + 1)) hw1 hsm
      have key:Xq1 l (n:Int) kids ends s (j:Int) (match redF l p kids ends j s with | .inl s'=>.inl (s',(j:Int) + 1) | .inr r=>.inr r):=by
       unfold Xq1 redF
       rw [hp,if_pos (by omega)]
       refine ⟨by omega,by omega,_,Roots_ok hsm.fits hw1,?_⟩
       by_cases g:Xxw (ix kids (j:Int)) < 0
       ·rw [if_pos g,if_pos g]
       ·rw [if_neg g, if_neg g, Xpj (by omega)]
        refine ⟨by omega,_,part_ok hl (hr2 _ hrm) hw1 hsm _,_,rfl,?_,rfl⟩
        rw [List.length_append]
        have:=hs.2
        omega
      refine ⟨fun s' hs'=>?_,fun r hr=>?_⟩
      ·rw [hs'] at key
       refine ⟨key,?_⟩
       unfold redF at hs'
       split at hs'
       ·cases hs'
       ·injection hs' with hs'
        subst hs'
        refine ⟨fun m hm=>?_,?_⟩
        ·rcases List.mem_append.1 hm with hm | hm
         ·exact hs.1 m hm
         ·exact hpo.1 m hm
        ·rw [List.length_append,Nat.add_mul,Nat.one_mul]
         have:=hs.2
         omega
      ·rw [hr] at key; exact key
     ·show Xq1 l (n:Int) kids ends s ((List.range p.rhs.length).length:Int) _
      rw [List.length_range] at hs ⊢
      unfold Xq1
      rw [hp,if_neg (by omega)]
      have hsm:Sm s:=by unfold Sm; rw [← h1] at hs; have:=hs.2; omega
      have j4:∀ c:Bool,(c=true↔0≤p.lhs∧p.lhs < (l.gram.syms.length:Int)∧(ix l.gram.syms p.lhs).kind=1)→Xqq l (n:Int) ends s c (.inr (topF l p ends s)):=fun c hc=>by
       unfold Xqq topF
       rw [hp]
       cases c with
       | true =>
        have:=hc.1 rfl
        rw [if_pos rfl,if_pos this]
        exact ⟨⟨this.1,this.2.1⟩,by omega,_,Yf2 hs.1 hsm,rfl⟩
       | false=>rw [if_neg (by simp),if_neg (fun h=>by have:=hc.2 h; cases this)]
      by_cases g1:p.lhs≥0
      ·rw [if_pos g1]
       by_cases g2:p.lhs < (l.gram.syms.length:Int)
       ·rw [if_pos g2]
        exact ⟨⟨g1,g2⟩,j4 _ (by simp [g2]; omega)⟩
       ·rw [if_neg g2]
        exact j4 false (by simp; omega)
      ·rw [if_neg g1]
       exact j4 false (by simp; omega)
    ·have eb:((ends.length:Int) != (p.rhs.length:Int) + 1)=true:=by rw [bne_iff_ne]; omega
     rw [eb,if_pos rfl,if_pos (.inr (by omega))]
   ·rw [if_neg (by omega), if_pos (.inl (by omega))]
    unfold Xro
    rw [if_pos rfl]
 unfold Xu4
 by_cases h:prod < 0
 ·rw [if_pos h]; exact j1 true (by simp [h])
 ·rw [if_neg h]; exact j1 _ (by simp [h])
end Go.Proofs.Ytmekgfcfooghnaa.L
