/- What begins a symbol and what vanishes: 'first' answers what is closed under the productions, and least. No condition. -/
import Derived.Test.YtelafghkjlpojaaU1
import Derived.Test.YtelafghkjlpojaaR
import Derived.SizedLaws
set_option linter.unusedVariables false
namespace Go.Proofs.Ytelafghkjlpojaa.L
open Go.Proofs.Ytelafghkjlpojaa.B Go.Proofs.Ytelafghkjlpojaa.R

structure Lg (g:Yfz):Prop where
 t:g.terms.length < 2 ^ 60
 s:g.syms.length < 2 ^ 60
 p:g.prods.length < 2 ^ 60
 r:∀ p ∈ g.prods,p.rhs.length < 2 ^ 60
def Ypx (g:Yfz) (r:Yg6):Bool:=decide (0≤r.sym) && decide (r.sym < (g.terms.length:Int) + (g.syms.length:Int))
def Ym7 (g:Yfz) (row:List Yg6):Bool:=row.all (Ypx g)
def Ymp (g:Yfz) (p:Yg8):Bool:=decide (-1≤p.lhs) && decide (p.lhs < (g.syms.length:Int)) && Ym7 g p.rhs
def Yim (g:Yfz):Bool:=decide (1≤g.terms.length) && decide (g.terms.length≤64) && decide (g.syms.length≤128) && g.prods.all (Ymp g)
theorem wA {g:Yfz} (h:Lg g):w64 ((g.terms.length:Int) + (g.syms.length:Int))=(g.terms.length:Int) + (g.syms.length:Int):=Yll (by have:=h.t; have:=h.s; omega)
theorem Yoy {g:Yfz} (h:Lg g) {row:List Yg6} (hr:row.length < 2 ^ 60):Yks g row (Ym7 g row):=by
 unfold Yks Ym7
 refine Yga.all row (Ypx g) (fun i hi hp=>?_) (fun i hi hp=>?_) ?_ <;> unfold Ykg
 ·rw [if_pos (by omega), Yhs hi, wA h, Yi6 (by omega)]
  simp only [Ypx,Bool.and_eq_true,decide_eq_true_eq] at hp
  exact ⟨by omega,by rw [if_neg (by omega),if_neg (by omega)]⟩
 ·rw [if_pos (by omega), Yhs hi, wA h]
  refine ⟨by omega,?_⟩
  split
  ·rfl
  ·rw [if_pos]
   simp only [Ypx,Bool.and_eq_false_iff,decide_eq_false_iff_not] at hp
   omega
 ·rw [if_neg (by omega)]
theorem prods1 {g:Yfz} (h:Lg g):Yga (fun (s:Int) o=>Ykh g s o) 0 (g.prods.all (Ymp g)):=by
 refine Yga.all g.prods (Ymp g) (fun i hi hp=>?_) (fun i hi hp=>?_) ?_ <;> unfold Ykh
 ·rw [if_pos (by omega), Yhs hi, Yi6 (by have := h.p; omega)]
  simp only [Ymp,Bool.and_eq_true,decide_eq_true_eq] at hp
  exact ⟨by omega,by rw [if_neg (by omega),if_neg (by omega)]; exact ⟨_,Yoy h (h.r _ (List.getElem_mem hi)),by rw [if_pos hp.2]⟩⟩
 ·rw [if_pos (by omega), Yhs hi]
  refine ⟨by omega,?_⟩
  split
  ·rfl
  ·split
   ·rfl
   ·refine ⟨_,Yoy h (h.r _ (List.getElem_mem hi)),?_⟩
    rw [if_neg]
    simp only [Ymp,Bool.and_eq_false_iff,decide_eq_false_iff_not] at hp
    rcases hp with (hp | hp) | hp
    ·omega
    ·omega
    ·rw [hp]; simp
 ·rw [if_neg (by omega)]
theorem sound1 {g:Yfz} (h:Lg g):Ym2 g (Yim g):=by
 unfold Ym2 Ykk Yim
 by_cases h1:g.terms.length < 1
 ·rw [if_pos (by omega),if_pos rfl]; simp; omega
 ·rw [if_neg (by omega)]
  by_cases h2:g.terms.length > 64
  ·rw [if_pos (by omega),if_pos rfl]; simp; omega
  ·rw [if_neg (by omega)]
   by_cases h3:g.syms.length > 128
   ·rw [if_pos (by simp; omega)]; simp; omega
   ·rw [if_neg (by simp; omega)]
    have:(decide (1≤g.terms.length) && decide (g.terms.length≤64) && decide (g.syms.length≤128) && g.prods.all (Ymp g))=g.prods.all (Ymp g):=by
     rw [decide_eq_true (by omega),decide_eq_true (by omega),decide_eq_true (by omega)]; rfl
    rw [this]
    exact prods1 h
def ofF (s:Yg0) (r:Yg6) (out:Int):Sum Int (Int × Bool):=if s.vanishes r.sym=true then .inl (OR out (s.first r.sym)) else .inr (OR out (s.first r.sym),false)
def ofS (s:Yg0) (row:List Yg6) (out:Int):Int × Bool:=Ypq (ofF s) (fun out=>(out,true)) row out
theorem ofS_nil (s:Yg0) (out:Int):ofS s [] out=(out,true):=rfl
theorem Yno {s:Yg0} {r:Yg6} {l:List Yg6} {out:Int} (h:s.vanishes r.sym=true):ofS s (r :: l) out=ofS s l (OR out (s.first r.sym)):=Yow (by simp [ofF,h])
theorem Ymx {s:Yg0} {r:Yg6} {l:List Yg6} {out:Int} (h:s.vanishes r.sym=false):ofS s (r :: l) out=(OR out (s.first r.sym),false):=Ynz (by simp [ofF,h])
def Ok (s:Yg0):Prop:=∀ j,U (s.first j)
theorem Yqk {s:Yg0} (hs:Ok s):∀ {row:List Yg6} {out:Int},U out→U (ofS s row out).1
 | [],out,h=>h
 | r :: l,out,h=>by
  cases hv:s.vanishes r.sym with
  | true=>rw [Yno hv]; exact Yqk hs (h.or (hs _))
  | false=>rw [Ymx hv]; exact h.or (hs _)
theorem Yl4 {g:Yfz} {row:List Yg6} (h:Ym7 g row=true) {r:Yg6} (hr:r ∈ row):0≤r.sym∧r.sym < (g.terms.length:Int) + (g.syms.length:Int):=by
 have:=List.all_eq_true.1 h r hr
 simpa [Ypx] using this
theorem Ylr {g:Yfz} (h:Yim g=true):1≤g.terms.length∧g.terms.length≤64∧g.syms.length≤128:=by
 simp only [Yim,Bool.and_eq_true,decide_eq_true_eq] at h
 exact ⟨h.1.1.1,h.1.1.2,h.1.2⟩
theorem Ylw {g:Yfz} (h:Yim g=true) {p:Yg8} (hp:p ∈ g.prods):-1≤p.lhs∧p.lhs < (g.syms.length:Int)∧Ym7 g p.rhs=true:=by
 simp only [Yim,Bool.and_eq_true,decide_eq_true_eq] at h
 have:=List.all_eq_true.1 h.2 p hp
 simp only [Ymp,Bool.and_eq_true,decide_eq_true_eq] at this
 exact ⟨this.1.1,this.1.2,this.2⟩
theorem Yga.pair {α σ τ ρ:Type} (xs:List α) (mk:σ→Int→τ) {B:τ→Sum τ ρ→Prop} {κ:Type} (f:α→σ→Sum σ κ) (e:σ→κ) (g:κ→ρ)
  (hB:∀ i (hi:i < xs.length) s,(∀ s',f xs[i] s=.inl s'→B (mk s i) (.inl (mk s' ((i:Int) + 1))))∧(∀ r,f xs[i] s=.inr r→B (mk s i) (.inr (g r))))
  (hE:∀ s,B (mk s xs.length) (.inr (g (e s)))) (s:σ):Yga B (mk s 0) (g (Ypq f e xs s)):=by
 have h1:∀ (l:List α) (s:σ),g (Ypq f e l s)=Ypq (fun a s=>match f a s with | .inl s'=>.inl s' | .inr r=>.inr (g r)) (fun s=>g (e s)) l s:=by
  intro l
  induction l with
  | nil=>intro s; rfl
  | cons a l ih =>
   intro s
   cases h:f a s with
   | inl s'=>rw [Yow h,Yow (s':=s') (by simp [h]),ih]
   | inr r=>rw [Ynz h,Ynz (r:=g r) (by simp [h])]
 rw [h1]
 refine Yga.row xs mk _ _ (fun _ _=>True) (fun i hi s _=>⟨fun s' hs=>⟨(hB i hi s).1 s' ?_,trivial⟩,fun r hr=>?_⟩) (fun s _=>hE s) trivial
 ·cases h:f xs[i] s with
  | inl x=>simp [h] at hs; rw [hs]
  | inr x=>simp [h] at hs
 ·cases h:f xs[i] s with
  | inl x=>simp [h] at hr
  | inr x=>simp [h] at hr; rw [← hr]; exact (hB i hi s).2 x h
theorem of1 {g:Yfz} (hg:Yim g=true) (s:Yg0) {row:List Yg6} (hl:row.length < 2 ^ 60) (hr:Ym7 g row=true):Ykt s row ((ofS s row 0).1,(ofS s row 0).2,s):=by
 obtain ⟨_,t1,t2⟩:=Ylr hg
 unfold Ykt
 refine Yga.pair row (fun out i=>((out,i):Int × Int)) (ofF s) (fun out=>(out,true)) (fun x=>(x.1,x.2,s)) (fun i hi out=>?_) (fun out=>?_) 0
 ·obtain ⟨h1,h2⟩:=Yl4 hr (List.getElem_mem hi)
  constructor
  ·intro s' h
   unfold ofF at h
   split at h
   ·rename_i hv
    injection h with h
    subst h
    unfold Yj8
    simp only
    rw [if_pos (by omega),Yhs hi,Yi6 (by omega)]
    exact ⟨by omega,by omega,by rw [if_pos hv]⟩
   ·cases h
  ·intro r h
   unfold ofF at h
   split at h
   ·cases h
   ·rename_i hv
    injection h with h
    subst h
    unfold Yj8
    simp only
    rw [if_pos (by omega),Yhs hi]
    exact ⟨by omega,by omega,by rw [if_neg hv]⟩
 ·unfold Yj8
  rw [if_neg (by show ¬ _ < _; omega)]

def LeS (s s':Yg0):Prop:=∀ j,Sub (s.first j) (s'.first j)∧(s.vanishes j=true→s'.vanishes j=true)
theorem LeS.refl (s:Yg0):LeS s s:=fun j=>⟨Sub.refl _,id⟩
theorem LeS.trans {a b c:Yg0} (h:LeS a b) (k:LeS b c):LeS a c:=fun j=>⟨(h j).1.trans (k j).1,fun hv=>(k j).2 ((h j).2 hv)⟩
theorem Yti {s:Yg0} (hs:Ok s):∀ {row:List Yg6} {out:Int},U out→Sub out (ofS s row out).1
 | [],out,h=>Sub.refl _
 | r :: l,out,h=>by
  cases hv:s.vanishes r.sym with
  | true=>rw [Yno hv]; exact (Sub.l h (hs _)).trans (Yti hs (h.or (hs _)))
  | false=>rw [Ymx hv]; exact Sub.l h (hs _)
theorem ofS_le {s s':Yg0} (hs:Ok s) (hs':Ok s') (h:LeS s s'):∀ {row:List Yg6} {out out':Int},U out→U out'→Sub out out'→Sub (ofS s row out).1 (ofS s' row out').1∧((ofS s row out).2=true→(ofS s' row out').2=true)
 | [],out,out',_,_,k=>⟨k,fun _=>rfl⟩
 | r :: l,out,out',u,u',k=>by
  have k2:Sub (OR out (s.first r.sym)) (OR out' (s'.first r.sym)):=Sub.or u (hs _) (k.trans (Sub.l u' (hs' _))) ((h r.sym).1.trans (Sub.r u' (hs' _)))
  cases hv:s.vanishes r.sym with
  | true=>rw [Yno hv,Yno ((h r.sym).2 hv)]; exact ofS_le hs hs' h (u.or (hs _)) (u'.or (hs' _)) k2
  | false =>
   rw [Ymx hv]
   refine ⟨?_,fun hc=>by cases hc⟩
   cases hv':s'.vanishes r.sym with
   | true=>rw [Yno hv']; exact k2.trans (Yti hs' (u'.or (hs' _)))
   | false=>rw [Ymx hv']; exact k2
def Yos (n:Nat) (s s':Yg0):Prop:=∀ j:Int,0≤j→j < n→s.first j=s'.first j∧s.vanishes j=s'.vanishes j
theorem Yrl {n:Nat} {s s':Yg0} (h:Yos n s s'):∀ {row:List Yg6} {out:Int},(∀ r ∈ row,0≤r.sym∧r.sym < n)→ofS s row out=ofS s' row out
 | [],out,_=>rfl
 | r :: l,out,hr=>by
  obtain ⟨h1,h2⟩:=h r.sym (hr r (by simp)).1 (hr r (by simp)).2
  have ih:=fun out=>Yrl (out:=out) h (fun x hx=>hr x (by simp [hx]):∀ x ∈ l,0≤x.sym∧x.sym < n)
  cases hv:s.vanishes r.sym with
  | true=>rw [Yno hv,Yno (h2 ▸ hv),ih,h1]
  | false=>rw [Ymx hv,Ymx (h2 ▸ hv),h1]

def xOf (g:Yfz) (p:Yg8):Int:=(g.terms.length:Int) + p.lhs
def step (g:Yfz) (s:Yg0) (p:Yg8):Yg0 :=
 if p.lhs < 0 then s else
  ⟨upd s.first (xOf g p) (OR (s.first (xOf g p)) (ofS s p.rhs 0).1),upd s.vanishes (xOf g p) (if s.vanishes (xOf g p)=true then true else (ofS s p.rhs 0).2)⟩
def Yoh (g:Yfz) (s:Yg0) (l:List Yg8):Yg0:=l.foldl (step g) s
def ClAt (g:Yfz) (s:Yg0) (p:Yg8):Prop:=0≤p.lhs→Sub (ofS s p.rhs 0).1 (s.first (xOf g p))∧((ofS s p.rhs 0).2=true→s.vanishes (xOf g p)=true)
def Cl (g:Yfz) (s:Yg0):Prop:=∀ p ∈ g.prods,ClAt g s p
theorem Ymq {α:Type} (f:Int→α) (i:Int) (y:α):upd f i y i=y:=by simp [upd]
theorem Ynr {α:Type} (f:Int→α) {i j:Int} (y:α) (h:j≠i):upd f i y j=f j:=by simp [upd,h]
theorem Ys7 {g:Yfz} {s:Yg0} {p:Yg8} (hs:Ok s):Ok (step g s p):=by
 unfold step
 split
 ·exact hs
 ·intro j
  show U (upd _ _ _ j)
  by_cases hj:j=xOf g p
  ·subst hj; rw [Ymq]; exact (hs _).or (Yqk hs U.zero)
  ·rw [Ynr _ _ hj]; exact hs j
theorem Yru {g:Yfz} {s:Yg0} {p:Yg8} (hs:Ok s):LeS s (step g s p):=by
 unfold step
 split
 ·exact LeS.refl _
 ·intro j
  show Sub _ (upd _ _ _ j)∧(_→upd _ _ _ j=true)
  by_cases hj:j=xOf g p
  ·subst hj; rw [Ymq,Ymq]; exact ⟨Sub.l (hs _) (Yqk hs U.zero),fun h=>by rw [if_pos h]⟩
  ·rw [Ynr _ _ hj,Ynr _ _ hj]; exact ⟨Sub.refl _,id⟩
theorem Yt5 {g:Yfz} {s s':Yg0} {p:Yg8} (hs:Ok s) (hs':Ok s') (h:LeS s s') (hc:ClAt g s' p):LeS (step g s p) s':=by
 unfold step
 split
 ·exact h
 ·rename_i hp
  obtain ⟨c1,c2⟩:=hc (by omega)
  obtain ⟨l1,l2⟩:=ofS_le hs hs' h (row:=p.rhs) U.zero U.zero (Sub.refl 0)
  intro j
  show Sub (upd _ _ _ j) _∧(upd _ _ _ j=true→_)
  by_cases hj:j=xOf g p
  ·subst hj
   rw [Ymq,Ymq]
   refine ⟨Sub.or (hs _) (Yqk hs U.zero) (h _).1 (l1.trans c1),fun hv=>?_⟩
   split at hv
   ·rename_i hv2; exact (h _).2 hv2
   ·exact c2 (l2 hv)
  ·rw [Ynr _ _ hj,Ynr _ _ hj]; exact h j
theorem Yt9 {g:Yfz} {s:Yg0} {p:Yg8} {n:Nat} (hs:Ok s) (ha:Yos n (step g s p) s) (hx:0≤xOf g p∧xOf g p < n):ClAt g s p:=by
 intro hp
 obtain ⟨h1,h2⟩:=ha _ hx.1 hx.2
 unfold step at h1 h2
 rw [if_neg (by omega)] at h1 h2
 have h1:upd _ _ _ (xOf g p)=_:=h1
 have h2:upd _ _ _ (xOf g p)=_:=h2
 rw [Ymq] at h1 h2
 refine ⟨or_same (hs _) (Yqk hs U.zero) h1,fun hv=>?_⟩
 rw [hv] at h2
 rw [← h2]
 split <;> rfl
theorem Yq5 {g:Yfz}:∀ {l:List Yg8} {s:Yg0},Ok s→LeS s (Yoh g s l)
 | [],s,h=>LeS.refl _
 | p :: l,s,h=>(Yru h).trans (Yq5 (l:=l) (Ys7 h))
theorem Yrd {n:Nat} {a b c:Yg0} (ha:Ok a) (hb:Ok b) (h1:LeS a b) (h2:LeS b c) (h:Yos n c a):Yos n b a:=fun j j0 j1=>by
 obtain ⟨e1,e2⟩:=h j j0 j1
 have k1:=(h1 j); have k2:=(h2 j)
 rw [e1,e2] at k2
 refine ⟨Sub.eq (hb j) (ha j) k2.1 k1.1,?_⟩
 rw [Bool.eq_iff_iff]
 exact ⟨k2.2,k1.2⟩
theorem ClAt.agree {g:Yfz} {n:Nat} {s u:Yg0} {p:Yg8} (h:Yos n u s) (hx:0≤p.lhs→0≤xOf g p∧xOf g p < n) (hr:∀ r ∈ p.rhs,0≤r.sym∧r.sym < n) (hc:ClAt g u p):ClAt g s p:=fun hp=>by
 obtain ⟨x0,x1⟩:=hx hp
 obtain ⟨e1,e2⟩:=h _ x0 x1
 have:=hc hp
 rwa [Yrl h hr,e1,e2] at this
theorem Yq0 {g:Yfz} {n:Nat} {s:Yg0} (hs:Ok s):∀ {l:List Yg8} {u:Yg0},Ok u→LeS s u→Yos n (Yoh g u l) s→(∀ p ∈ l,(0≤p.lhs→0≤xOf g p∧xOf g p < n)∧∀ r ∈ p.rhs,0≤r.sym∧r.sym < n)→∀ p ∈ l,ClAt g s p
 | [],u,hu,hle,ha,hb,p,hp=>by simp at hp
 | p0 :: l,u,hu,hle,ha,hb,p,hp=>by
  have hl1:LeS u (step g u p0):=Yru hu
  have ho1:Ok (step g u p0):=Ys7 hu
  have ha1:Yos n (step g u p0) s:=Yrd hs ho1 (hle.trans hl1) (Yq5 (l:=l) ho1) ha
  have ha0:Yos n u s:=Yrd hs hu hle ((Yru hu).trans (Yq5 (l:=l) ho1)) ha
  rcases List.mem_cons.1 hp with rfl | hp
  ·obtain ⟨b1, b2⟩ := hb p (by simp)
   refine ClAt.agree (n:=n) ha0 b1 b2 fun h0=>?_
   refine Yt9 (n:=n) hu (fun j j0 j1=>?_) (b1 h0) h0
   obtain ⟨e1,e2⟩:=ha1 j j0 j1
   obtain ⟨e3,e4⟩:=ha0 j j0 j1
   exact ⟨e1.trans e3.symm,e2.trans e4.symm⟩
  ·exact Yq0 hs (l:=l) ho1 (hle.trans hl1) ha (fun q hq=>hb q (by simp [hq])) p hp

def s0 (i:Nat):Yg0:=⟨fun j=>if 0≤j∧j < (i:Int) then ((2 ^ j.toNat:Nat):Int) else 0,fun _=>false⟩
theorem s0_succ {i:Nat} (hi:i < 64):({ s0 i with first:=upd (s0 i).first i (shlV .u64 1 i) }:Yg0)=s0 (i + 1):=by
 unfold s0
 simp only [Yg0.mk.injEq,and_true]
 funext j
 by_cases hj:j=(i:Int)
 ·subst hj; rw [Ymq,Ytf hi,if_pos (by omega)]; simp
 ·rw [Ynr _ _ hj]
  by_cases h:0≤j∧j < (i:Int)
  ·rw [if_pos h,if_pos (by omega)]
  ·rw [if_neg h,if_neg (by omega)]
theorem s0_ok {i:Nat} (hi:i≤64):Ok (s0 i):=fun j=>by
 unfold s0
 show U (if _ then _ else _)
 split
 ·exact U.one (by omega)
 ·exact U.zero
structure Yr6 (g:Yfz) (s:Yg0):Prop where
 ok:Ok s
 f:∀ t:Nat,t < g.terms.length→s.first t=((2 ^ t:Nat):Int)
 v:∀ t:Nat,t < g.terms.length→s.vanishes t=false
 least:∀ s',Ok s'→(∀ t:Nat,t < g.terms.length→has (s'.first t) t=true)→Cl g s'→LeS s s'
theorem Yt8 {g:Yfz} {s:Yg0} {p:Yg8} (h:Yr6 g s) (hp:p ∈ g.prods):Yr6 g (step g s p):=by
 have hne:0≤p.lhs→∀ t:Nat,t < g.terms.length→(t:Int)≠xOf g p:=fun h0 t ht=>by unfold xOf; omega
 refine ⟨Ys7 h.ok,fun t ht=>?_,fun t ht=>?_,fun s' o1 o2 o3=>Yt5 h.ok o1 (h.least s' o1 o2 o3) (o3 p hp)⟩
 ·unfold step
  split
  ·exact h.f t ht
  ·rw [← h.f t ht]; exact Ynr _ _ (hne (by omega) t ht)
 ·unfold step
  split
  ·exact h.v t ht
  ·rw [← h.v t ht]; exact Ynr _ _ (hne (by omega) t ht)
theorem Yqv {g:Yfz}:∀ {l:List Yg8} {s:Yg0},Yr6 g s→(∀ p ∈ l,p ∈ g.prods)→Yr6 g (Yoh g s l)
 | [],s,h,_=>h
 | p :: l,s,h,hl=>Yqv (l:=l) (Yt8 h (hl p (by simp))) fun q hq=>hl q (by simp [hq])
def mu1 (s:Yg0) (j:Nat):Nat:=(18446744073709551616 - s.first j).toNat + (if s.vanishes j=true then 0 else 1)
def mu (s:Yg0):Nat→Nat
 | 0=>0
 | n + 1=>mu s n + mu1 s n
theorem mu1_le {s s':Yg0} (hs:Ok s) (hs':Ok s') (h:LeS s s') (j:Nat):mu1 s' j≤mu1 s j:=by
 obtain ⟨h1,h2⟩:=h j
 have h3:s.first j≤s'.first j:=by
  have e:OR (s.first j) (s'.first j)=s'.first j:=Sub.eq ((hs _).or (hs' _)) (hs' _) (Sub.or (hs _) (hs' _) h1 (Sub.refl _)) (Sub.r (hs _) (hs' _))
  rw [← e]; exact le_or (hs _) (hs' _)
 unfold mu1
 cases hv:s.vanishes j with
 | true=>rw [h2 hv]; simp; omega
 | false=>split <;> simp <;> omega
theorem mu1_eq {s s':Yg0} (hs:Ok s) (hs':Ok s') (h:LeS s s') (j:Nat) (he:mu1 s' j=mu1 s j):s'.first j=s.first j∧s'.vanishes j=s.vanishes j:=by
 obtain ⟨h1,h2⟩:=h j
 have h3:s.first j≤s'.first j:=by
  have e:OR (s.first j) (s'.first j)=s'.first j:=Sub.eq ((hs _).or (hs' _)) (hs' _) (Sub.or (hs _) (hs' _) h1 (Sub.refl _)) (Sub.r (hs _) (hs' _))
  rw [← e]; exact le_or (hs _) (hs' _)
 have u:=hs j; have u':=hs' j
 unfold U at u u'
 unfold mu1 at he
 cases hv:s.vanishes j with
 | true=>rw [hv,h2 hv] at he; simp at he; exact ⟨by omega,h2 hv⟩
 | false =>
  rw [hv] at he
  cases hv':s'.vanishes j with
  | true=>rw [hv'] at he; simp at he; omega
  | false=>rw [hv'] at he; simp at he; exact ⟨by omega,rfl⟩
theorem mu_le {s s':Yg0} (hs:Ok s) (hs':Ok s') (h:LeS s s'):∀ n,mu s' n≤mu s n
 | 0=>Nat.le_refl _
 | n + 1=>Nat.add_le_add (mu_le hs hs' h n) (mu1_le hs hs' h n)
theorem mu_eq {s s':Yg0} (hs:Ok s) (hs':Ok s') (h:LeS s s'):∀ n,mu s' n=mu s n→∀ j,j < n→s'.first j=s.first j∧s'.vanishes j=s.vanishes j
 | 0,_,j,hj=>by omega
 | n + 1,he,j,hj=>by
  have k1:=mu_le hs hs' h n; have k2:=mu1_le hs hs' h n
  simp only [mu] at he
  rcases Nat.lt_or_ge j n with hj2 | hj2
  ·exact mu_eq hs hs' h n (by omega) j hj2
  ·obtain rfl:j=n:=by omega
   exact mu1_eq hs hs' h j (by omega)
theorem Yq7 {α:Type} [DecidableEq α] {n:Nat} {f g:Int→α}:aeq n f g=true↔∀ j:Nat,j < n→f j=g j:=by
 simp [aeq]
theorem Ytz {g:Yfz} {s:Yg0} {i:Nat} (h:i < g.prods.length):Yoh g s (g.prods.take (i + 1))=step g (Yoh g s (g.prods.take i)) g.prods[i]:=by
 show List.foldl _ _ _=_
 rw [show g.prods.take (i + 1)=g.prods.take i++[g.prods[i]] from List.take_succ_eq_append_getElem h,List.foldl_append]
 rfl
theorem loop3 {g:Yfz} (hl:Lg g) (hg:Yim g=true) (s:Yg0) {o:Sum Yg0 (Sum (Int × Yg0) Yg0)} (he:Yi9 g s g.prods.length (Yoh g s g.prods) (.inr o)):Yga (fun (q:Int × Yg0) o=>Yi9 g s q.1 q.2 o) (0,s) o:=by
 have h:=Yga.upto (B:=fun (q:Int × Yg0) o=>Yi9 g s q.1 q.2 o) (r:=o) (fun i=>((i:Int),Yoh g s (g.prods.take i))) g.prods.length (fun i hi=>?_) (by rw [List.take_length]; exact he)
 ·simpa [Yoh] using h
 ·show Yi9 g s (i:Int) _ _
  obtain ⟨p1,p2,p3⟩:=Ylw hg (List.getElem_mem hi)
  obtain ⟨_,t1,t2⟩:=Ylr hg
  rw [Ytz hi]
  unfold Yi9
  rw [if_pos (by omega),Yhs hi,Yi6 (by have:=hl.p; omega)]
  refine ⟨by omega,?_⟩
  by_cases h0:g.prods[i].lhs < 0
  ·rw [if_pos h0]; unfold step; rw [if_pos h0]; rfl
  ·rw [if_neg h0]
   have hw:w64 ((g.terms.length:Int) + g.prods[i].lhs)=xOf g g.prods[i]:=Yll (by omega)
   refine ⟨_,of1 hg _ (hl.r _ (List.getElem_mem hi)) p3,?_⟩
   rw [hw]
   refine ⟨by unfold xOf; omega,_,rfl,?_⟩
   unfold step
   rw [if_neg h0]
   split
   ·rename_i hv
    refine ⟨_,rfl,?_⟩
    have hv:(Yoh g s (List.take i g.prods)).vanishes (xOf g g.prods[i])=true:=hv
    first | rfl | (rw [if_pos hv]; rfl)
   ·rename_i hv
    refine ⟨_,rfl,?_⟩
    have hv:¬ (Yoh g s (List.take i g.prods)).vanishes (xOf g g.prods[i])=true:=hv
    first | rfl | (rw [if_neg hv]; rfl)
structure Yqq (g:Yfz) (s:Yg0):Prop extends Yr6 g s where
 cl:Cl g s
theorem inA {g:Yfz} (hg:Yim g=true):∀ p ∈ g.prods,(0≤p.lhs→0≤xOf g p∧xOf g p < (192:Nat))∧∀ r ∈ p.rhs,0≤r.sym∧r.sym < (192:Nat):=fun p hp=>by
 obtain ⟨p1,p2,p3⟩:=Ylw hg hp
 obtain ⟨_,t1,t2⟩:=Ylr hg
 refine ⟨fun h0=>by unfold xOf; omega,fun r hr=>?_⟩
 have:=Yl4 p3 hr
 omega
theorem solve_ok {g:Yfz} (hl:Lg g) (hg:Yim g=true):∃ s,Ylo g s∧Yqq g s:=by
 obtain ⟨t0,t1,t2⟩:=Ylr hg
 have hst:Yr6 g (s0 g.terms.length):=by
  refine ⟨s0_ok t1,fun t ht=>?_,fun t ht=>rfl,fun s' o1 o2 o3 j=>⟨?_,fun h=>by cases h⟩⟩
  ·show (if _ then _ else _)=_
   rw [if_pos (by omega)]; simp
  ·show Sub (if _ then _ else _) _
   split
   ·rename_i h
    intro i hi
    rw [Yrz,decide_eq_true_eq] at hi
    have:=o2 j.toNat (by omega)
    rw [show ((j.toNat:Nat):Int)=j by omega] at this
    rw [← hi]; exact this
   ·exact Sub.zero _
 have h2:=Yga.some (B:=fun (s:Yg0) o=>Yjx g s o) (P:=fun r:Sum (Int × Yg0) Yg0=>∃ s,r=.inr s∧Yqq g s) (Yr6 g) (fun s=>mu s 192) (fun s hs=>?_) hst
 ·obtain ⟨r,h3,s,rfl,h4⟩:=h2
  refine ⟨s,?_,h4⟩
  unfold Ylo
  have:=Yga.upto (B:=fun (q:Int × Yg0) o=>Yiw g q.1 q.2 o) (r:=s) (fun i=>((i:Int),s0 i)) g.terms.length (fun i hi=>?_) ?_
  ·have e:s0 0=(⟨(fun _=>0),(fun _=>false)⟩:Yg0):=by
    unfold s0
    simp only [Yg0.mk.injEq,and_true]
    funext j
    rw [if_neg (by omega)]
   rw [← e]; simpa using this
  ·show Yiw g (i:Int) _ _
   unfold Yiw
   rw [if_pos (by omega),Yi6 (by omega),s0_succ (by omega)]
   exact ⟨by omega,by omega,_,rfl,rfl⟩
  ·show Yiw g (g.terms.length:Int) _ _
   unfold Yiw
   rw [if_neg (by omega)]
   exact h3
 ·have hp := Yqv (l := g.prods) hs fun _ h => h
  have hle:=Yq5 (g:=g) (l:=g.prods) hs.ok
  by_cases ha:Yos 192 (Yoh g s g.prods) s
  ·left
   refine ⟨.inr s,?_,s,rfl,{ hs with cl:=Yq0 (n:=192) hs.ok hs.ok (LeS.refl s) ha (inA hg) }⟩
   unfold Yjx
   refine ⟨_,rfl,loop3 hl hg s ?_⟩
   unfold Yi9
   rw [if_neg (by omega),if_pos (Yq7.2 fun j hj=>(ha j (by omega) (by omega)).1),if_pos (Yq7.2 fun j hj=>(ha j (by omega) (by omega)).2)]
   exact ⟨_,rfl,rfl⟩
  ·right
   refine ⟨Yoh g s g.prods,?_,hp,?_⟩
   ·unfold Yjx
    refine ⟨_,rfl,loop3 hl hg s ?_⟩
    unfold Yi9
    rw [if_neg (by omega)]
    by_cases h5:aeq 192 (Yoh g s g.prods).first s.first=true
    ·rw [if_pos h5,if_neg]
     ·exact ⟨_,rfl,rfl⟩
     ·intro h6
      apply ha
      intro j j0 j1
      have e1:=Yq7.1 h5 j.toNat (by omega)
      have e2:=Yq7.1 h6 j.toNat (by omega)
      rw [show ((j.toNat:Nat):Int)=j by omega] at e1 e2
      exact ⟨e1,e2⟩
    ·rw [if_neg h5]
     exact ⟨_,rfl,rfl⟩
   ·show mu (Yoh g s g.prods) 192 < mu s 192
    rcases Nat.lt_or_ge (mu (Yoh g s g.prods) 192) (mu s 192) with h | h
    ·exact h
    ·exact absurd (fun j j0 j1=>by
      have:=mu_eq hs.ok hp.ok hle 192 (Nat.le_antisymm (mu_le hs.ok hp.ok hle 192) h) j.toNat (by omega)
      rw [show ((j.toNat:Nat):Int)=j by omega] at this
      exact this) ha

def nA (g:Yfz):Nat:=g.terms.length + g.syms.length
theorem wN {g:Yfz} (hl:Lg g):w64 ((g.terms.length:Int) + (g.syms.length:Int))=(nA g:Int):=by rw [wA hl]; unfold nA; omega
def Yjd (g:Yfz) (s:Yg0):List Bool:=(List.range (nA g)).map fun j:Nat=>s.vanishes (j:Int)
def ofV (s:Yg0) (row:List Yg6) (behind:Int):Int:=if (ofS s row 0).2=true then OR (ofS s row 0).1 behind else (ofS s row 0).1
theorem of_ok {g:Yfz} (hl:Lg g) (hg:Yim g=true) {s:Yg0} (hs:Ylo g s) {row:List Yg6} (hr:row.length < 2 ^ 60) (hk:Ym7 g row=true) (behind:Int):Yl2 g row behind (ofV s row behind):=by
 unfold Yl2 Yln
 refine ⟨true,hg ▸ sound1 hl,?_⟩
 rw [if_pos rfl]
 refine ⟨true,hk ▸ Yoy hl hr,?_⟩
 rw [if_neg (by simp)]
 refine ⟨s,hs,_,rfl,_,of1 hg s hr hk,?_⟩
 unfold ofV
 show if (ofS s row 0).2=true then _ else _
 split <;> rfl
theorem of_no {g:Yfz} (hl:Lg g) {row:List Yg6} (hr:row.length < 2 ^ 60) (hk:Yim g=false∨Ym7 g row=false) (behind:Int):Yl2 g row behind 0:=by
 unfold Yl2 Yln
 refine ⟨Yim g,sound1 hl,?_⟩
 by_cases h:Yim g=true
 ·rw [if_pos h]
  rcases hk with hk | hk
  ·rw [h] at hk; cases hk
  ·exact ⟨false,hk ▸ Yoy hl hr,by rw [if_pos (show (!false)=true from rfl)]⟩
 ·rw [if_neg h,if_pos rfl]
theorem Ys0 {g:Yfz} {s:Yg0} {j:Nat} (h:j < nA g):ix (Yjd g s) (j:Int)=s.vanishes j:=by
 rw [Yhs (by simp [Yjd]; omega)]; simp [Yjd]
end Go.Proofs.Ytelafghkjlpojaa.L
