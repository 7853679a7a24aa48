/- Token, Show and Reduce of the program, as plain functions. Conditions: sizes, numbers are ints. -/
import Derived.Test.YtmekgfcfooghnaaJ4
set_option linter.unusedVariables false
namespace Go.Proofs.Ytmekgfcfooghnaa.L
open Go.Proofs.Ytmekgfcfooghnaa.B Go.Proofs.Ytmekgfcfooghnaa.R
def Sm (t:List Xm4):Prop:=t.length≤2 ^ 39
theorem Sm.fits {t:List Xm4} (h:Sm t):Xwg t:=by unfold Sm at h; show t.length≤_; omega
def tokF (g:Xnn) (s:Int):Bool:=decide (0≤s) && decide (s < (g.terms.length:Int))
def pre95 (s:ByteArray):Bool:=decide (1≤s.size) && seq (s.extract 0 1) (⟨#[95]⟩:ByteArray)
def Xv9 (g:Xnn) (s:Int):Bool:=tokF g s && (!(ix g.terms s).lit && pre95 (ix g.terms s).name)
def Yat (g:Xnn) (s:Int):Bool:=decide (0≤s) && (decide (0≤s - (g.terms.length:Int)) && (decide (s - (g.terms.length:Int) < (g.syms.length:Int)) && (ix g.syms (s - (g.terms.length:Int))).kind == 1))
def Yej (l:Xmw) (term leaf from_ to:Int):List Xm4:=if term < 1∨term≥(l.gram.terms.length:Int) then [] else [⟨(ix l.gram.terms term).name,!(ix l.gram.terms term).lit,(⟨#[]⟩:ByteArray),from_,to,0,leaf⟩]
def Xsi (l:Xmw) (s:Int) (k:List Xm4):List Xm4:=if Xv9 l.gram s=true then [] else k
def Xyy (name:ByteArray) (t:List Xm4) (e:Int):List Xm4:=(if (Xo3 t).length > 0 then (⟨name,true,(⟨#[]⟩:ByteArray),(ix t (ix (Xo3 t) 0)).from_,(ix t (ix (Xo3 t) ((Xo3 t).length - 1:Nat))).to,((Xo3 t).length:Int),-1⟩:Xm4) else ⟨name,true,(⟨#[]⟩:ByteArray),e,e,0,-1⟩) :: t
def setRF (g:Xm4→Xm4):List Int→List Xm4→List Xm4
 | [],t=>t
 | i :: l,t=>setRF g l (t.set i.toNat (g (ix t i)))
def Xtu (f:ByteArray) (n:Xm4):Xm4:=if n.field=(⟨#[]⟩:ByteArray) then { n with field:=f } else n
def Ycr (a:ByteArray) (n:Xm4):Xm4:={ n with name:=a,named:=true }
def Xzg (l:Xmw) (r:Xn1) (k:List Xm4) (e:Int):List Xm4:=if r.as=(⟨#[]⟩:ByteArray) then Xsi l r.sym k else if tokF l.gram r.sym=false∧Yat l.gram r.sym=false then Xyy r.as k e else setRF (Ycr r.as) (Xo3 k) k
def Ybb (l:Xmw) (r:Xn1) (k:List Xm4) (e:Int):List Xm4:=setRF (Xtu r.field) (Xo3 (Xzg l r k e)) (Xzg l r k e)
def redF (l:Xmw) (p:Xnz) (kids:List (List Xm4)) (ends:List Int) (i:Nat) (out:List Xm4):Sum (List Xm4) (List Xm4):=if Xyv (ix kids (i:Int)) < 0 then .inr [] else .inl (out++Ybb l (ix p.rhs (i:Int)) (ix kids (i:Int)) (ix ends ((i:Int) + 1)))
def topF (l:Xmw) (p:Xnz) (ends:List Int) (out:List Xm4):List Xm4:=if 0≤p.lhs∧p.lhs < (l.gram.syms.length:Int)∧(ix l.gram.syms p.lhs).kind=1 then Xyy (ix l.gram.syms p.lhs).name out (ix ends (p.rhs.length:Int)) else out
def Xtn (l:Xmw) (prod:Int) (kids:List (List Xm4)) (ends:List Int):List Xm4 :=
 if prod < 0∨prod≥(l.gram.prods.length:Int) then [] else
 if kids.length≠(ix l.gram.prods prod).rhs.length∨ends.length≠(ix l.gram.prods prod).rhs.length + 1 then [] else
 Xxl (redF l (ix l.gram.prods prod) kids ends) (topF l (ix l.gram.prods prod) ends) (List.range (ix l.gram.prods prod).rhs.length) []
theorem Xvm {t:List Xm4} {i:Int} (h:i ∈ Xo3 t):0≤i∧i < (t.length:Int):=by
 unfold Xo3 at h
 cases hs:sf t 0 with
 | none=>rw [hs] at h; cases h
 | some S =>
  rw [hs] at h
  obtain ⟨y,hy,rfl⟩:=List.mem_map.1 h
  obtain ⟨j,hj,rfl⟩:=List.getElem_of_mem hy
  have hj:j < S.length:=hj
  obtain ⟨h1,_⟩:=At.nth (t:=t) (a:=0) (S:=S) ⟨Nat.zero_le _,hs⟩ hj
  obtain ⟨p1,p2,p3,p4,p5⟩:=h1.pos
  show 0≤(S[j].1).at_∧(S[j].1).at_ < _
  omega
theorem Xye (t:List Xm4):(Xo3 t).length≤t.length:=by
 unfold Xo3
 cases h:sf t 0 with
 | none=>exact Nat.zero_le _
 | some S =>
  have:=(Ybf (l:=t) (a:=0) h).2
  simpa using this
theorem Yan (g:Xm4→Xm4):∀ (l:List Int) (t:List Xm4),(setRF g l t).length=t.length
 | [],_=>rfl
 | i :: l,t=>by rw [setRF,Yan g l,List.length_set]
theorem Wf.set {t:List Xm4} (h:Wf t) {i:Nat} {n:Xm4} (hn:i < t.length→n.kids=(ix t (i:Int)).kids):Wf (t.set i n):=fun m hm=>by
 rcases Nat.lt_or_ge i t.length with g | g
 ·rcases List.mem_or_eq_of_mem_set hm with hm | rfl
  ·exact h m hm
  ·rw [hn g,Xnu g]; exact h _ (List.getElem_mem g)
 ·rw [List.set_eq_of_length_le g] at hm
  exact h m hm
theorem Wf.setRF {g:Xm4→Xm4} (hg:∀ n,(g n).kids=n.kids):∀ {l:List Int} {t:List Xm4},Wf t→(∀ i ∈ l,0≤i)→Wf (setRF g l t)
 | [],_,h,_=>h
 | i :: l,t,h,hi=>by
  have h0:=hi i (by simp)
  exact Wf.setRF hg (l:=l) (Wf.set h fun _=>by rw [Int.toNat_of_nonneg h0,hg]) fun k hk=>hi k (by simp [hk])
theorem Yi1 (f:ByteArray) (n:Xm4):(Xtu f n).kids=n.kids:=by unfold Xtu; split <;> rfl
theorem Ygr (f:ByteArray) (n:Xm4):(Ycr f n).kids=n.kids:=rfl
theorem Wf.over {name:ByteArray} {t:List Xm4} {e:Int} (h:Wf t) (hs:Sm t):Wf (Xyy name t e):=fun m hm=>by
 have:=Xye t
 unfold Sm at hs
 unfold Xyy at hm
 rcases List.mem_cons.1 hm with rfl | hm
 ·split
  ·dsimp only; omega
  ·dsimp only; omega
 ·exact h m hm
theorem Wf.show {l:Xmw} {s:Int} {k:List Xm4} (h:Wf k):Wf (Xsi l s k):=by
 unfold Xsi
 split
 ·exact fun m hm=>by cases hm
 ·exact h
theorem Ydx (name:ByteArray) (t:List Xm4) (e:Int):(Xyy name t e).length=t.length + 1:=by unfold Xyy; rw [List.length_cons]
theorem Yfy {l:Xmw} {r:Xn1} {k:List Xm4} {e:Int} (h:Wf k) (hs:Sm k):Wf (Xzg l r k e)∧(Xzg l r k e).length≤k.length + 1:=by
 unfold Xzg
 split
 ·refine ⟨h.show,?_⟩
  unfold Xsi
  split
  ·simp
  ·omega
 ·split
  ·exact ⟨h.over hs,by rw [Ydx]; exact Nat.le_refl _⟩
  ·exact ⟨h.setRF (Ygr _) fun i hi=>(Xvm hi).1,by rw [Yan]; omega⟩
theorem Yd2 {l:Xmw} {r:Xn1} {k:List Xm4} {e:Int} (h:Wf k) (hs:Sm k):Wf (Ybb l r k e)∧(Ybb l r k e).length≤k.length + 1:=by
 obtain ⟨h1,h2⟩:=Yfy (l:=l) (r:=r) (e:=e) h hs
 unfold Ybb
 exact ⟨h1.setRF (Yi1 _) fun i hi=>(Xvm hi).1,by rw [Yan]; exact h2⟩
theorem Token_ok (l:Xmw) (term leaf from_ to:Int):Xvu l term leaf from_ to (Yej l term leaf from_ to):=by
 have j1:∀ c:Bool,(c=true↔term < 1∨term≥(l.gram.terms.length:Int))→Xsm term l from_ to leaf c (Yej l term leaf from_ to):=fun c hc=>by
  unfold Xsm Yej
  cases c with
  | true=>rw [if_pos rfl,if_pos (hc.1 rfl)]
  | false =>
   have:¬ (term < 1∨term≥(l.gram.terms.length:Int)):=fun h=>by have:=hc.2 h; cases this
   rw [if_neg (by simp),if_neg this]
   exact ⟨by omega,rfl⟩
 unfold Xvu
 by_cases h:term < 1
 ·rw [if_pos h]; exact j1 true (by simp [h])
 ·rw [if_neg h]; exact j1 _ (by simp [h])
theorem Yfe (g:Xnn) (s:Int):Xud g s (tokF g s):=by
 unfold Xud tokF
 by_cases h:s≥0
 ·rw [if_pos h,decide_eq_true h,Bool.true_and]
 ·rw [if_neg h,decide_eq_false h,Bool.false_and]
theorem Yhn (s:ByteArray):Xsq s (⟨#[95]⟩:ByteArray) (pre95 s):=by
 refine ⟨_,?_,rfl⟩
 unfold Xpf pre95
 have z:(⟨#[95]⟩:ByteArray).size=1:=rfl
 rw [z]
 by_cases h:1≤s.size
 ·rw [if_pos (by omega), decide_eq_true h, Bool.true_and]
  exact ⟨by omega,rfl⟩
 ·rw [if_neg (by omega),decide_eq_false h,Bool.false_and]
theorem Yhz (g:Xnn) (s:Int):Xul g s (Xv9 g s):=by
 unfold Xul Xv9
 refine ⟨_,Yfe g s,?_⟩
 cases h:tokF g s with
 | false=>rw [if_neg (by simp),Bool.false_and]
 | true =>
  rw [if_pos rfl,Bool.true_and]
  unfold tokF at h
  rw [Bool.and_eq_true,decide_eq_true_eq,decide_eq_true_eq] at h
  refine ⟨h,?_⟩
  cases hl:(ix g.terms s).lit with
  | true=>rw [if_pos rfl]; rfl
  | false=>rw [if_neg (by simp)]; exact ⟨_,Yhn _,rfl⟩
theorem Yf8 {t:List Xm4} (h:Xwg t):Xol t t:=fun b hb=>by
 cases b with
 | true=>rw [if_pos rfl]; exact hb rfl
 | false=>rw [if_neg (by simp)]; exact ⟨_,rfl,by simp; omega,by simp⟩
theorem Yh8 (l:Xmw) (s:Int) {k:List Xm4} (h:Xwg k):Xue l s k (Xsi l s k):=by
 unfold Xue Xsi
 refine ⟨_,Yhz _ _,?_⟩
 cases hh:Xv9 l.gram s with
 | true=>rw [if_pos rfl,if_pos rfl]
 | false=>rw [if_neg (by simp),if_neg (by simp)]; exact ⟨_,Yf8 h,rfl⟩
structure LgOk (l:Xmw):Prop where
 te:l.gram.terms.length≤2 ^ 50
 sy:l.gram.syms.length≤2 ^ 50
 pr:l.gram.prods.length≤2 ^ 50
 rh:∀ p ∈ l.gram.prods,p.rhs.length≤2 ^ 50∧∀ r ∈ p.rhs,r.sym≤9223372036854775807
theorem shown_ok {g:Xnn} (h:g.terms.length≤2 ^ 50) {s:Int} (hs:s≤9223372036854775807):Xvs g s (Yat g s):=by
 unfold Xvs Yat
 by_cases h0:s≥0
 ·have e : w64 (s - (g.terms.length : Int)) = s - (g.terms.length : Int) := Xsy (by omega)
  rw [if_pos h0,decide_eq_true h0,Bool.true_and,e]
  by_cases h1:s - (g.terms.length:Int)≥0
  ·rw [if_pos h1,decide_eq_true h1,Bool.true_and]
   by_cases h2:s - (g.terms.length:Int) < (g.syms.length:Int)
   ·rw [if_pos h2,decide_eq_true h2,Bool.true_and]
    exact ⟨by omega,rfl⟩
   ·rw [if_neg h2,decide_eq_false h2,Bool.false_and]
  ·rw [if_neg h1,decide_eq_false h1,Bool.false_and]
 ·rw [if_neg h0,decide_eq_false h0,Bool.false_and]
theorem Yhm {name:ByteArray} {t:List Xm4} {e:Int} (hw:Wf t) (hs:Sm t):Xvl name t e (Xyy name t e):=by
 have hr:=Xye t
 unfold Sm at hs
 unfold Xvl Xyy
 refine ⟨_,Ya9 (by show t.length≤_; omega) hw,?_⟩
 by_cases h:(Xo3 t).length > 0
 ·have e1 : w64 (((Xo3 t).length : Int) - 1) = (((Xo3 t).length - 1 : Nat) : Int) := by rw [Xsy (by omega)]; omega
  have m0:=Xvm (t:=t) (i:=ix (Xo3 t) 0) (by
   have:=Xnu (xs:=Xo3 t) (i:=0) h
   rw [show ((0:Nat):Int)=0 from rfl] at this
   rw [this]; exact List.getElem_mem _)
  have m1:=Xvm (t:=t) (i:=ix (Xo3 t) (((Xo3 t).length - 1:Nat):Int)) (by rw [Xnu (by omega)]; exact List.getElem_mem _)
  rw [if_pos (by omega),if_pos h,e1]
  exact ⟨by omega,m0,by omega,m1,_,rfl,by simp; omega,rfl⟩
 ·have h0:(Xo3 t).length=0:=by omega
  rw [if_neg (by omega),if_neg h,h0]
  exact ⟨_,rfl,by simp; omega,rfl⟩
theorem set_ix {t:List Xm4} {i:Nat} (h:i < t.length):t.set i (ix t (i:Int))=t:=by
 rw [Xnu h]
 exact List.set_getElem_self h
theorem Ycp (g : Xm4 → Xm4) (e : List Xm4 → List Xm4) : ∀ (l : List Int) (t : List Xm4), Xxl (fun (i : Int) (s : List Xm4) => (.inl (s.set i.toNat (g (ix s i))) : Sum (List Xm4) (List Xm4))) e l t = e (setRF g l t)
 | [],_=>rfl
 | i :: l,t=>by rw [Xyj rfl,Ycp g e l,setRF]
theorem Yfa {r:Xn1} {t:List Xm4} (hw:Wf t) (hl:Xwg t):Xsa r t (setRF (Xtu r.field) (Xo3 t) t):=by
 have hlen:=Xye t
 unfold Xsa
 refine ⟨_,Ya9 hl hw,?_⟩
 have e:=Ycp (Xtu r.field) id (Xo3 t) t
 rw [show setRF (Xtu r.field) (Xo3 t) t=id (setRF (Xtu r.field) (Xo3 t) t) from rfl,← e]
 refine Xmi.row (Xo3 t) (fun (s:List Xm4) i=>(s,i)) _ id (fun _ s=>s.length=t.length) (fun j hj s hs=>?_) (fun s hs=>?_) rfl
 ·have hi:=Xvm (List.getElem_mem hj)
  refine ⟨fun s' hs'=>?_,fun r' hr'=>by cases hr'⟩
  injection hs' with hs'
  subst hs'
  refine ⟨?_,by rw [List.length_set]; exact hs⟩
  show Xrl (Xo3 t) r s (j:Int) _
  unfold Xrl
  obtain ⟨n,hn⟩:∃ n:Nat,(Xo3 t)[j]=(n:Int):=⟨(Xo3 t)[j].toNat,by omega⟩
  rw [if_pos (by omega),Xnu hj,Xp3 (by omega),hn]
  rw [hn] at hi
  refine ⟨by omega,by omega,?_⟩
  unfold Xtu
  by_cases g:(ix s (n:Int)).field=(⟨#[]⟩:ByteArray)
  ·rw [if_pos g,if_pos g]
   exact ⟨_,rfl,rfl⟩
  ·rw [if_neg g,if_neg g,Int.toNat_natCast,set_ix (by omega)]
 ·show Xrl (Xo3 t) r s ((Xo3 t).length:Int) _
  unfold Xrl
  rw [if_neg (by omega)]
  rfl
theorem part_ok {l:Xmw} (hl:LgOk l) {r:Xn1} (hr:r.sym≤9223372036854775807) {k:List Xm4} (hw:Wf k) (hs:Sm k) (e:Int):Xx0 l r k e (Ybb l r k e):=by
 have hf:=hs.fits
 obtain ⟨p1,p2⟩:=Yfy (l:=l) (r:=r) (e:=e) hw hs
 have hfit:Xwg (Xzg l r k e):=by unfold Sm at hs; show _≤_; omega
 have hfld:=Yfa (r:=r) p1 hfit
 unfold Xx0 Ybb
 refine ⟨_,Yf8 hf,?_⟩
 unfold Xzg at hfld ⊢
 by_cases h0:r.as=(⟨#[]⟩:ByteArray)
 ·rw [if_pos h0] at hfld ⊢
  rw [if_pos h0]
  exact ⟨_,Yh8 l r.sym hf,hfld⟩
 ·rw [if_neg h0] at hfld ⊢
  rw [if_neg h0]
  refine ⟨_,Yfe _ _,?_⟩
  have named:Xsc r k e false (setRF (Xtu r.field) (Xo3 (setRF (Ycr r.as) (Xo3 k) k)) (setRF (Ycr r.as) (Xo3 k) k)):=by
   unfold Xsc
   rw [if_neg (by simp)]
   have hlen:=Xye k
   refine ⟨_,Ya9 hf hw,?_⟩
   have e:=Ycp (Ycr r.as) (fun t=>setRF (Xtu r.field) (Xo3 t) t) (Xo3 k) k
   rw [← e]
   refine Xmi.row (Xo3 k) (fun (s:List Xm4) i=>(s,i)) _ (fun t=>setRF (Xtu r.field) (Xo3 t) t) (fun _ s=>s.length=k.length∧Wf s) (fun j hj s hs=>?_) (fun s hs=>?_) ⟨rfl,hw⟩
   ·have hi:=Xvm (List.getElem_mem hj)
    refine ⟨fun s' hs'=>?_,fun r' hr'=>by cases hr'⟩
    injection hs' with hs'
    subst hs'
    refine ⟨?_,by rw [List.length_set]; exact hs.1,Wf.set hs.2 fun _=>by rw [Int.toNat_of_nonneg hi.1]; rfl⟩
    show Xri (Xo3 k) r s (j:Int) _
    unfold Xri
    have hs1:=hs.1
    obtain ⟨n,hn⟩:∃ n:Nat,(Xo3 k)[j]=(n:Int):=⟨(Xo3 k)[j].toNat,by omega⟩
    rw [if_pos (by omega),Xnu hj,Xp3 (by omega),hn]
    rw [hn] at hi
    refine ⟨by omega,by omega,_,rfl,by rw [List.length_set]; omega,_,rfl,?_⟩
    rw [Int.toNat_natCast,Xnu (xs:=s.set n _) (by rw [List.length_set]; omega),List.getElem_set_self,List.set_set]
    rfl
   ·show Xri (Xo3 k) r s ((Xo3 k).length:Int) _
    unfold Xri
    rw [if_neg (by omega)]
    exact ⟨_,rfl,Yfa hs.2 (by have:=hs.1; show s.length≤_; rw [this]; exact hf)⟩
  cases ht:tokF l.gram r.sym with
  | true =>
   rw [ht] at hfld
   rw [if_pos rfl,if_neg (by simp)]
   exact named
  | false =>
   rw [ht] at hfld
   rw [if_neg (by simp)]
   refine ⟨_,shown_ok hl.te hr,?_⟩
   cases hsh:Yat l.gram r.sym with
   | true=>rw [if_neg (by simp)]; exact named
   | false =>
    rw [hsh] at hfld
    rw [if_pos ⟨rfl,rfl⟩] at hfld ⊢
    unfold Xsc
    rw [if_pos (by rfl)]
    exact ⟨_,Yhm hw hs,hfld⟩
theorem Yag {l:Xmw} (hl:LgOk l) {prod:Int} {kids:List (List Xm4)} {ends:List Int} {B:Nat} (hk:kids.length≤2 ^ 50) (he:ends.length≤2 ^ 50) (hw:∀ k ∈ kids,Wf k∧k.length + 1≤B) (hB:kids.length * B + B≤2 ^ 39):Xr4 l prod kids ends (Xtn l prod kids ends):=by
 have j1:∀ c:Bool,(c=true↔prod < 0∨prod≥(l.gram.prods.length:Int))→Xrz prod l kids ends c (Xtn l prod kids ends):=fun c hc=>by
  unfold Xrz Xtn
  cases c with
  | true=>rw [if_pos rfl,if_pos (hc.1 rfl)]
  | false =>
   have h0:¬ (prod < 0∨prod≥(l.gram.prods.length:Int)):=fun h=>by have:=hc.2 h; cases this
   rw [if_neg (by simp),if_neg h0]
   refine ⟨by omega,?_⟩
   obtain ⟨n,rfl⟩:∃ n:Nat,prod=n:=⟨prod.toNat,by omega⟩
   have hpm:ix l.gram.prods (n:Int) ∈ l.gram.prods:=by rw [Xnu (by omega)]; exact List.getElem_mem _
   obtain ⟨hr1,hr2⟩:=hl.rh _ hpm
   generalize hp:ix l.gram.prods (n:Int)=p at *
   have e0:w64 ((p.rhs.length:Int) + 1)=(p.rhs.length:Int) + 1:=Xp3 (by omega)
   by_cases h1:kids.length=p.rhs.length
   ·rw [if_pos (by omega), e0]
    unfold Xs5
    by_cases h2:ends.length=p.rhs.length + 1
    ·have eb:((ends.length:Int) != (p.rhs.length:Int) + 1)=false:=by rw [h2]; simp
     rw [eb,if_neg (by simp),if_neg (by omega)]
     refine Xmi.row (List.range p.rhs.length) (fun (s:List Xm4) i=>(s,i)) _ _ (fun i s=>Wf s∧s.length≤i * B) (fun j hj s hs=>?_) (fun s hs=>?_) ⟨fun m hm=>(by cases hm),by simp⟩
     ·rw [List.length_range] at hj
      rw [List.getElem_range]
      have hkm:ix kids (j:Int) ∈ kids:=by rw [Xnu (by omega)]; exact List.getElem_mem _
      obtain ⟨hw1,hw2⟩:=hw _ hkm
      have hjB:j * B + B≤kids.length * B:=by
       have:=Nat.mul_le_mul_right B (show j + 1≤kids.length by omega)
       rw [Nat.add_mul,Nat.one_mul] at this
       exact this
      have hsm:Sm (ix kids (j:Int)):=by unfold Sm; omega
      have hrm:ix p.rhs (j:Int) ∈ p.rhs:=by rw [Xnu (by omega)]; exact List.getElem_mem _
      have hpo:=Yd2 (l:=l) (r:=ix p.rhs (j:Int)) (e:=ix ends ((j:Int) + 1)) hw1 hsm
      have key:Xql l (n:Int) kids ends s (j:Int) (match redF l p kids ends j s with | .inl s'=>.inl (s',(j:Int) + 1) | .inr r=>.inr r):=by
       unfold Xql redF
       rw [hp,if_pos (by omega)]
       refine ⟨by omega,by omega,_,Yg1 hsm.fits hw1,?_⟩
       by_cases g:Xyv (ix kids (j:Int)) < 0
       ·rw [if_pos g,if_pos g]
       ·rw [if_neg g, if_neg g, Xp3 (by omega)]
        refine ⟨by omega,_,part_ok hl (hr2 _ hrm) hw1 hsm _,_,rfl,?_,rfl⟩
        rw [List.length_append]
        have:=hs.2
        omega
      refine ⟨fun s' hs'=>?_,fun r hr=>?_⟩
      ·rw [hs'] at key
       refine ⟨key,?_⟩
       unfold redF at hs'
       split at hs'
       ·cases hs'
       ·injection hs' with hs'
        subst hs'
        refine ⟨fun m hm=>?_,?_⟩
        ·rcases List.mem_append.1 hm with hm | hm
         ·exact hs.1 m hm
         ·exact hpo.1 m hm
        ·rw [List.length_append,Nat.add_mul,Nat.one_mul]
         have:=hs.2
         omega
      ·rw [hr] at key; exact key
     ·show Xql l (n:Int) kids ends s ((List.range p.rhs.length).length:Int) _
      rw [List.length_range] at hs ⊢
      unfold Xql
      rw [hp,if_neg (by omega)]
      have hsm:Sm s:=by unfold Sm; rw [← h1] at hs; have:=hs.2; omega
      have j4:∀ c:Bool,(c=true↔0≤p.lhs∧p.lhs < (l.gram.syms.length:Int)∧(ix l.gram.syms p.lhs).kind=1)→Xr9 l (n:Int) ends s c (.inr (topF l p ends s)):=fun c hc=>by
       unfold Xr9 topF
       rw [hp]
       cases c with
       | true =>
        have:=hc.1 rfl
        rw [if_pos rfl,if_pos this]
        exact ⟨⟨this.1,this.2.1⟩,by omega,_,Yhm hs.1 hsm,rfl⟩
       | false=>rw [if_neg (by simp),if_neg (fun h=>by have:=hc.2 h; cases this)]
      by_cases g1:p.lhs≥0
      ·rw [if_pos g1]
       by_cases g2:p.lhs < (l.gram.syms.length:Int)
       ·rw [if_pos g2]
        exact ⟨⟨g1,g2⟩,j4 _ (by simp [g2]; omega)⟩
       ·rw [if_neg g2]
        exact j4 false (by simp; omega)
      ·rw [if_neg g1]
       exact j4 false (by simp; omega)
    ·have eb:((ends.length:Int) != (p.rhs.length:Int) + 1)=true:=by rw [bne_iff_ne]; omega
     rw [eb,if_pos rfl,if_pos (.inr (by omega))]
   ·rw [if_neg (by omega), if_pos (.inl (by omega))]
    unfold Xs5
    rw [if_pos rfl]
 unfold Xr4
 by_cases h:prod < 0
 ·rw [if_pos h]; exact j1 true (by simp [h])
 ·rw [if_neg h]; exact j1 _ (by simp [h])
end Go.Proofs.Ytmekgfcfooghnaa.L
