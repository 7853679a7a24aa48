/- What begins a symbol and what vanishes: 'first' answers what is closed under the productions, and least. No condition. -/
import Derived.Test.YtadcichlnacagaaDoorU1
import Derived.Test.YtadcichlnacagaaDoorR
import Derived.SizedLaws
set_option linter.unusedVariables false
namespace Go.Proofs.YtadcichlnacagaaDoor.L
open Go.Proofs.YtadcichlnacagaaDoor.B Go.Proofs.YtadcichlnacagaaDoor.R

structure Lg (g:Yu5):Prop where
 t:g.terms.length < 2 ^ 60
 s:g.syms.length < 2 ^ 60
 p:g.prods.length < 2 ^ 60
 r:∀ p ∈ g.prods,p.rhs.length < 2 ^ 60
def Zjr (g:Yu5) (r:Yut):Bool:=decide (0≤r.sym) && decide (r.sym < (g.terms.length:Int) + (g.syms.length:Int))
def Zhf (g:Yu5) (row:List Yut):Bool:=row.all (Zjr g)
def Zg0 (g:Yu5) (p:Yuf):Bool:=decide (-1≤p.lhs) && decide (p.lhs < (g.syms.length:Int)) && Zhf g p.rhs
def Yzm (g:Yu5):Bool:=decide (1≤g.terms.length) && decide (g.terms.length≤64) && decide (g.syms.length≤128) && g.prods.all (Zg0 g)
theorem wA {g:Yu5} (h:Lg g):w64 ((g.terms.length:Int) + (g.syms.length:Int))=(g.terms.length:Int) + (g.syms.length:Int):=Yyq (by have:=h.t; have:=h.s; omega)
theorem Zqx {g:Yu5} (h:Lg g) {row:List Yut} (hr:row.length < 2 ^ 60):Zdx g row (Zhf g row):=by
 unfold Zdx Zhf
 refine Yui.all row (Zjr g) (fun i hi hp=>?_) (fun i hi hp=>?_) ?_ <;> unfold Zc0
 ·rw [if_pos (by omega), Yvv hi, wA h, Yw3 (by omega)]
  simp only [Zjr,Bool.and_eq_true,decide_eq_true_eq] at hp
  exact ⟨by omega,by rw [if_neg (by omega),if_neg (by omega)]⟩
 ·rw [if_pos (by omega), Yvv hi, wA h]
  refine ⟨by omega,?_⟩
  split
  ·rfl
  ·rw [if_pos]
   simp only [Zjr,Bool.and_eq_false_iff,decide_eq_false_iff_not] at hp
   omega
 ·rw [if_neg (by omega)]
theorem prods1 {g:Yu5} (h:Lg g):Yui (fun (s:Int) o=>Zcb g s o) 0 (g.prods.all (Zg0 g)):=by
 refine Yui.all g.prods (Zg0 g) (fun i hi hp=>?_) (fun i hi hp=>?_) ?_ <;> unfold Zcb
 ·rw [if_pos (by omega), Yvv hi, Yw3 (by have := h.p; omega)]
  simp only [Zg0,Bool.and_eq_true,decide_eq_true_eq] at hp
  exact ⟨by omega,by rw [if_neg (by omega),if_neg (by omega)]; exact ⟨_,Zqx h (h.r _ (List.getElem_mem hi)),by rw [if_pos hp.2]⟩⟩
 ·rw [if_pos (by omega), Yvv hi]
  refine ⟨by omega,?_⟩
  split
  ·rfl
  ·split
   ·rfl
   ·refine ⟨_,Zqx h (h.r _ (List.getElem_mem hi)),?_⟩
    rw [if_neg]
    simp only [Zg0,Bool.and_eq_false_iff,decide_eq_false_iff_not] at hp
    rcases hp with (hp | hp) | hp
    ·omega
    ·omega
    ·rw [hp]; simp
 ·rw [if_neg (by omega)]
theorem sound1 {g:Yu5} (h:Lg g):Zeq g (Yzm g):=by
 unfold Zeq Zc5 Yzm
 by_cases h1:g.terms.length < 1
 ·rw [if_pos (by omega),if_pos rfl]; simp; omega
 ·rw [if_neg (by omega)]
  by_cases h2:g.terms.length > 64
  ·rw [if_pos (by omega),if_pos rfl]; simp; omega
  ·rw [if_neg (by omega)]
   by_cases h3:g.syms.length > 128
   ·rw [if_pos (by simp; omega)]; simp; omega
   ·rw [if_neg (by simp; omega)]
    have:(decide (1≤g.terms.length) && decide (g.terms.length≤64) && decide (g.syms.length≤128) && g.prods.all (Zg0 g))=g.prods.all (Zg0 g):=by
     rw [decide_eq_true (by omega),decide_eq_true (by omega),decide_eq_true (by omega)]; rfl
    rw [this]
    exact prods1 h
def ofF (s:Yu8) (r:Yut) (out:Int):Sum Int (Int × Bool):=if s.vanishes r.sym=true then .inl (OR out (s.first r.sym)) else .inr (OR out (s.first r.sym),false)
def ofS (s:Yu8) (row:List Yut) (out:Int):Int × Bool:=Zkp (ofF s) (fun out=>(out,true)) row out
theorem Zq1 (s:Yu8) (out:Int):ofS s [] out=(out,true):=rfl
theorem Zhd {s:Yu8} {r:Yut} {l:List Yut} {out:Int} (h:s.vanishes r.sym=true):ofS s (r :: l) out=ofS s l (OR out (s.first r.sym)):=Zjh (by simp [ofF,h])
theorem Zg3 {s:Yu8} {r:Yut} {l:List Yut} {out:Int} (h:s.vanishes r.sym=false):ofS s (r :: l) out=(OR out (s.first r.sym),false):=Zhk (by simp [ofF,h])
def Ok (s:Yu8):Prop:=∀ j,U (s.first j)
theorem Zfq {s:Yu8} (hs:Ok s):∀ {row:List Yut} {out:Int},U out→U (ofS s row out).1
 | [],out,h=>h
 | r :: l,out,h=>by
  cases hv:s.vanishes r.sym with
  | true=>rw [Zhd hv]; exact Zfq hs (h.or (hs _))
  | false=>rw [Zg3 hv]; exact h.or (hs _)
theorem Zfe {g:Yu5} {row:List Yut} (h:Zhf g row=true) {r:Yut} (hr:r ∈ row):0≤r.sym∧r.sym < (g.terms.length:Int) + (g.syms.length:Int):=by
 have:=List.all_eq_true.1 h r hr
 simpa [Zjr] using this
theorem Zcs {g:Yu5} (h:Yzm g=true):1≤g.terms.length∧g.terms.length≤64∧g.syms.length≤128:=by
 simp only [Yzm,Bool.and_eq_true,decide_eq_true_eq] at h
 exact ⟨h.1.1.1,h.1.1.2,h.1.2⟩
theorem Zeu {g:Yu5} (h:Yzm g=true) {p:Yuf} (hp:p ∈ g.prods):-1≤p.lhs∧p.lhs < (g.syms.length:Int)∧Zhf g p.rhs=true:=by
 simp only [Yzm,Bool.and_eq_true,decide_eq_true_eq] at h
 have:=List.all_eq_true.1 h.2 p hp
 simp only [Zg0,Bool.and_eq_true,decide_eq_true_eq] at this
 exact ⟨this.1.1,this.1.2,this.2⟩
theorem Yui.pair {α σ τ ρ:Type} (xs:List α) (mk:σ→Int→τ) {B:τ→Sum τ ρ→Prop} {κ:Type} (f:α→σ→Sum σ κ) (e:σ→κ) (g:κ→ρ)
  (hB:∀ i (hi:i < xs.length) s,(∀ s',f xs[i] s=.inl s'→B (mk s i) (.inl (mk s' ((i:Int) + 1))))∧(∀ r,f xs[i] s=.inr r→B (mk s i) (.inr (g r))))
  (hE:∀ s,B (mk s xs.length) (.inr (g (e s)))) (s:σ):Yui B (mk s 0) (g (Zkp f e xs s)):=by
 have h1:∀ (l:List α) (s:σ),g (Zkp f e l s)=Zkp (fun a s=>match f a s with | .inl s'=>.inl s' | .inr r=>.inr (g r)) (fun s=>g (e s)) l s:=by
  intro l
  induction l with
  | nil=>intro s; rfl
  | cons a l ih =>
   intro s
   cases h:f a s with
   | inl s'=>rw [Zjh h,Zjh (s':=s') (by simp [h]),ih]
   | inr r=>rw [Zhk h,Zhk (r:=g r) (by simp [h])]
 rw [h1]
 refine Yui.row xs mk _ _ (fun _ _=>True) (fun i hi s _=>⟨fun s' hs=>⟨(hB i hi s).1 s' ?_,trivial⟩,fun r hr=>?_⟩) (fun s _=>hE s) trivial
 ·cases h:f xs[i] s with
  | inl x=>simp [h] at hs; rw [hs]
  | inr x=>simp [h] at hs
 ·cases h:f xs[i] s with
  | inl x=>simp [h] at hr
  | inr x=>simp [h] at hr; rw [← hr]; exact (hB i hi s).2 x h
theorem of1 {g:Yu5} (hg:Yzm g=true) (s:Yu8) {row:List Yut} (hl:row.length < 2 ^ 60) (hr:Zhf g row=true):Ze2 s row ((ofS s row 0).1,(ofS s row 0).2,s):=by
 obtain ⟨_,t1,t2⟩:=Zcs hg
 unfold Ze2
 refine Yui.pair row (fun out i=>((out,i):Int × Int)) (ofF s) (fun out=>(out,true)) (fun x=>(x.1,x.2,s)) (fun i hi out=>?_) (fun out=>?_) 0
 ·obtain ⟨h1,h2⟩:=Zfe hr (List.getElem_mem hi)
  constructor
  ·intro s' h
   unfold ofF at h
   split at h
   ·rename_i hv
    injection h with h
    subst h
    unfold Za2
    simp only
    rw [if_pos (by omega),Yvv hi,Yw3 (by omega)]
    exact ⟨by omega,by omega,by rw [if_pos hv]⟩
   ·cases h
  ·intro r h
   unfold ofF at h
   split at h
   ·cases h
   ·rename_i hv
    injection h with h
    subst h
    unfold Za2
    simp only
    rw [if_pos (by omega),Yvv hi]
    exact ⟨by omega,by omega,by rw [if_neg hv]⟩
 ·unfold Za2
  rw [if_neg (by show ¬ _ < _; omega)]

def LeS (s s':Yu8):Prop:=∀ j,Sub (s.first j) (s'.first j)∧(s.vanishes j=true→s'.vanishes j=true)
theorem LeS.refl (s:Yu8):LeS s s:=fun j=>⟨Sub.refl _,id⟩
theorem LeS.trans {a b c:Yu8} (h:LeS a b) (k:LeS b c):LeS a c:=fun j=>⟨(h j).1.trans (k j).1,fun hv=>(k j).2 ((h j).2 hv)⟩
theorem Zst {s:Yu8} (hs:Ok s):∀ {row:List Yut} {out:Int},U out→Sub out (ofS s row out).1
 | [],out,h=>Sub.refl _
 | r :: l,out,h=>by
  cases hv:s.vanishes r.sym with
  | true=>rw [Zhd hv]; exact (Sub.l h (hs _)).trans (Zst hs (h.or (hs _)))
  | false=>rw [Zg3 hv]; exact Sub.l h (hs _)
theorem ofS_le {s s':Yu8} (hs:Ok s) (hs':Ok s') (h:LeS s s'):∀ {row:List Yut} {out out':Int},U out→U out'→Sub out out'→Sub (ofS s row out).1 (ofS s' row out').1∧((ofS s row out).2=true→(ofS s' row out').2=true)
 | [],out,out',_,_,k=>⟨k,fun _=>rfl⟩
 | r :: l,out,out',u,u',k=>by
  have k2:Sub (OR out (s.first r.sym)) (OR out' (s'.first r.sym)):=Sub.or u (hs _) (k.trans (Sub.l u' (hs' _))) ((h r.sym).1.trans (Sub.r u' (hs' _)))
  cases hv:s.vanishes r.sym with
  | true=>rw [Zhd hv,Zhd ((h r.sym).2 hv)]; exact ofS_le hs hs' h (u.or (hs _)) (u'.or (hs' _)) k2
  | false =>
   rw [Zg3 hv]
   refine ⟨?_,fun hc=>by cases hc⟩
   cases hv':s'.vanishes r.sym with
   | true=>rw [Zhd hv']; exact k2.trans (Zst hs' (u'.or (hs' _)))
   | false=>rw [Zg3 hv']; exact k2
def Zkv (n:Nat) (s s':Yu8):Prop:=∀ j:Int,0≤j→j < n→s.first j=s'.first j∧s.vanishes j=s'.vanishes j
theorem Zon {n:Nat} {s s':Yu8} (h:Zkv n s s'):∀ {row:List Yut} {out:Int},(∀ r ∈ row,0≤r.sym∧r.sym < n)→ofS s row out=ofS s' row out
 | [],out,_=>rfl
 | r :: l,out,hr=>by
  obtain ⟨h1,h2⟩:=h r.sym (hr r (by simp)).1 (hr r (by simp)).2
  have ih:=fun out=>Zon (out:=out) h (fun x hx=>hr x (by simp [hx]):∀ x ∈ l,0≤x.sym∧x.sym < n)
  cases hv:s.vanishes r.sym with
  | true=>rw [Zhd hv,Zhd (h2 ▸ hv),ih,h1]
  | false=>rw [Zg3 hv,Zg3 (h2 ▸ hv),h1]

def xOf (g:Yu5) (p:Yuf):Int:=(g.terms.length:Int) + p.lhs
def step (g:Yu5) (s:Yu8) (p:Yuf):Yu8 :=
 if p.lhs < 0 then s else
  ⟨upd s.first (xOf g p) (OR (s.first (xOf g p)) (ofS s p.rhs 0).1),upd s.vanishes (xOf g p) (if s.vanishes (xOf g p)=true then true else (ofS s p.rhs 0).2)⟩
def Zki (g:Yu5) (s:Yu8) (l:List Yuf):Yu8:=l.foldl (step g) s
def ClAt (g:Yu5) (s:Yu8) (p:Yuf):Prop:=0≤p.lhs→Sub (ofS s p.rhs 0).1 (s.first (xOf g p))∧((ofS s p.rhs 0).2=true→s.vanishes (xOf g p)=true)
def Cl (g:Yu5) (s:Yu8):Prop:=∀ p ∈ g.prods,ClAt g s p
theorem Zge {α:Type} (f:Int→α) (i:Int) (y:α):upd f i y i=y:=by simp [upd]
theorem Zit {α:Type} (f:Int→α) {i j:Int} (y:α) (h:j≠i):upd f i y j=f j:=by simp [upd,h]
theorem Zpl {g:Yu5} {s:Yu8} {p:Yuf} (hs:Ok s):Ok (step g s p):=by
 unfold step
 split
 ·exact hs
 ·intro j
  show U (upd _ _ _ j)
  by_cases hj:j=xOf g p
  ·subst hj; rw [Zge]; exact (hs _).or (Zfq hs U.zero)
  ·rw [Zit _ _ hj]; exact hs j
theorem Zps {g:Yu5} {s:Yu8} {p:Yuf} (hs:Ok s):LeS s (step g s p):=by
 unfold step
 split
 ·exact LeS.refl _
 ·intro j
  show Sub _ (upd _ _ _ j)∧(_→upd _ _ _ j=true)
  by_cases hj:j=xOf g p
  ·subst hj; rw [Zge,Zge]; exact ⟨Sub.l (hs _) (Zfq hs U.zero),fun h=>by rw [if_pos h]⟩
  ·rw [Zit _ _ hj,Zit _ _ hj]; exact ⟨Sub.refl _,id⟩
theorem Zrs {g:Yu5} {s s':Yu8} {p:Yuf} (hs:Ok s) (hs':Ok s') (h:LeS s s') (hc:ClAt g s' p):LeS (step g s p) s':=by
 unfold step
 split
 ·exact h
 ·rename_i hp
  obtain ⟨c1,c2⟩:=hc (by omega)
  obtain ⟨l1,l2⟩:=ofS_le hs hs' h (row:=p.rhs) U.zero U.zero (Sub.refl 0)
  intro j
  show Sub (upd _ _ _ j) _∧(upd _ _ _ j=true→_)
  by_cases hj:j=xOf g p
  ·subst hj
   rw [Zge,Zge]
   refine ⟨Sub.or (hs _) (Zfq hs U.zero) (h _).1 (l1.trans c1),fun hv=>?_⟩
   split at hv
   ·rename_i hv2; exact (h _).2 hv2
   ·exact c2 (l2 hv)
  ·rw [Zit _ _ hj,Zit _ _ hj]; exact h j
theorem Zs6 {g:Yu5} {s:Yu8} {p:Yuf} {n:Nat} (hs:Ok s) (ha:Zkv n (step g s p) s) (hx:0≤xOf g p∧xOf g p < n):ClAt g s p:=by
 intro hp
 obtain ⟨h1,h2⟩:=ha _ hx.1 hx.2
 unfold step at h1 h2
 rw [if_neg (by omega)] at h1 h2
 have h1:upd _ _ _ (xOf g p)=_:=h1
 have h2:upd _ _ _ (xOf g p)=_:=h2
 rw [Zge] at h1 h2
 refine ⟨Zsk (hs _) (Zfq hs U.zero) h1,fun hv=>?_⟩
 rw [hv] at h2
 rw [← h2]
 split <;> rfl
theorem Zmu {g:Yu5}:∀ {l:List Yuf} {s:Yu8},Ok s→LeS s (Zki g s l)
 | [],s,h=>LeS.refl _
 | p :: l,s,h=>(Zps h).trans (Zmu (l:=l) (Zpl h))
theorem Zou {n:Nat} {a b c:Yu8} (ha:Ok a) (hb:Ok b) (h1:LeS a b) (h2:LeS b c) (h:Zkv n c a):Zkv n b a:=fun j j0 j1=>by
 obtain ⟨e1,e2⟩:=h j j0 j1
 have k1:=(h1 j); have k2:=(h2 j)
 rw [e1,e2] at k2
 refine ⟨Sub.eq (hb j) (ha j) k2.1 k1.1,?_⟩
 rw [Bool.eq_iff_iff]
 exact ⟨k2.2,k1.2⟩
theorem ClAt.agree {g:Yu5} {n:Nat} {s u:Yu8} {p:Yuf} (h:Zkv n u s) (hx:0≤p.lhs→0≤xOf g p∧xOf g p < n) (hr:∀ r ∈ p.rhs,0≤r.sym∧r.sym < n) (hc:ClAt g u p):ClAt g s p:=fun hp=>by
 obtain ⟨x0,x1⟩:=hx hp
 obtain ⟨e1,e2⟩:=h _ x0 x1
 have:=hc hp
 rwa [Zon h hr,e1,e2] at this
theorem Zmi {g:Yu5} {n:Nat} {s:Yu8} (hs:Ok s):∀ {l:List Yuf} {u:Yu8},Ok u→LeS s u→Zkv n (Zki g u l) s→(∀ p ∈ l,(0≤p.lhs→0≤xOf g p∧xOf g p < n)∧∀ r ∈ p.rhs,0≤r.sym∧r.sym < n)→∀ p ∈ l,ClAt g s p
 | [],u,hu,hle,ha,hb,p,hp=>by simp at hp
 | p0 :: l,u,hu,hle,ha,hb,p,hp=>by
  have hl1:LeS u (step g u p0):=Zps hu
  have ho1:Ok (step g u p0):=Zpl hu
  have ha1:Zkv n (step g u p0) s:=Zou hs ho1 (hle.trans hl1) (Zmu (l:=l) ho1) ha
  have ha0:Zkv n u s:=Zou hs hu hle ((Zps hu).trans (Zmu (l:=l) ho1)) ha
  rcases List.mem_cons.1 hp with rfl | hp
  ·obtain ⟨b1, b2⟩ := hb p (by simp)
   refine ClAt.agree (n:=n) ha0 b1 b2 fun h0=>?_
   refine Zs6 (n:=n) hu (fun j j0 j1=>?_) (b1 h0) h0
   obtain ⟨e1,e2⟩:=ha1 j j0 j1
   obtain ⟨e3,e4⟩:=ha0 j j0 j1
   exact ⟨e1.trans e3.symm,e2.trans e4.symm⟩
  ·exact Zmi hs (l:=l) ho1 (hle.trans hl1) ha (fun q hq=>hb q (by simp [hq])) p hp

def s0 (i:Nat):Yu8:=⟨fun j=>if 0≤j∧j < (i:Int) then ((2 ^ j.toNat:Nat):Int) else 0,fun _=>false⟩
theorem s0_succ {i:Nat} (hi:i < 64):({ s0 i with first:=upd (s0 i).first i (Zim .u64 1 i) }:Yu8)=s0 (i + 1):=by
 unfold s0
 simp only [Yu8.mk.injEq,and_true]
 funext j
 by_cases hj:j=(i:Int)
 ·subst hj; rw [Zge,Zmy hi,if_pos (by omega)]; simp
 ·rw [Zit _ _ hj]
  by_cases h:0≤j∧j < (i:Int)
  ·rw [if_pos h,if_pos (by omega)]
  ·rw [if_neg h,if_neg (by omega)]
theorem s0_ok {i:Nat} (hi:i≤64):Ok (s0 i):=fun j=>by
 unfold s0
 show U (if _ then _ else _)
 split
 ·exact U.one (by omega)
 ·exact U.zero
structure Znk (g:Yu5) (s:Yu8):Prop where
 ok:Ok s
 f:∀ t:Nat,t < g.terms.length→s.first t=((2 ^ t:Nat):Int)
 v:∀ t:Nat,t < g.terms.length→s.vanishes t=false
 least:∀ s',Ok s'→(∀ t:Nat,t < g.terms.length→has (s'.first t) t=true)→Cl g s'→LeS s s'
theorem Zs8 {g:Yu5} {s:Yu8} {p:Yuf} (h:Znk g s) (hp:p ∈ g.prods):Znk g (step g s p):=by
 have hne:0≤p.lhs→∀ t:Nat,t < g.terms.length→(t:Int)≠xOf g p:=fun h0 t ht=>by unfold xOf; omega
 refine ⟨Zpl h.ok,fun t ht=>?_,fun t ht=>?_,fun s' o1 o2 o3=>Zrs h.ok o1 (h.least s' o1 o2 o3) (o3 p hp)⟩
 ·unfold step
  split
  ·exact h.f t ht
  ·rw [← h.f t ht]; exact Zit _ _ (hne (by omega) t ht)
 ·unfold step
  split
  ·exact h.v t ht
  ·rw [← h.v t ht]; exact Zit _ _ (hne (by omega) t ht)
theorem Zna {g:Yu5}:∀ {l:List Yuf} {s:Yu8},Znk g s→(∀ p ∈ l,p ∈ g.prods)→Znk g (Zki g s l)
 | [],s,h,_=>h
 | p :: l,s,h,hl=>Zna (l:=l) (Zs8 h (hl p (by simp))) fun q hq=>hl q (by simp [hq])
def mu1 (s:Yu8) (j:Nat):Nat:=(18446744073709551616 - s.first j).toNat + (if s.vanishes j=true then 0 else 1)
def mu (s:Yu8):Nat→Nat
 | 0=>0
 | n + 1=>mu s n + mu1 s n
theorem mu1_le {s s':Yu8} (hs:Ok s) (hs':Ok s') (h:LeS s s') (j:Nat):mu1 s' j≤mu1 s j:=by
 obtain ⟨h1,h2⟩:=h j
 have h3:s.first j≤s'.first j:=by
  have e:OR (s.first j) (s'.first j)=s'.first j:=Sub.eq ((hs _).or (hs' _)) (hs' _) (Sub.or (hs _) (hs' _) h1 (Sub.refl _)) (Sub.r (hs _) (hs' _))
  rw [← e]; exact le_or (hs _) (hs' _)
 unfold mu1
 cases hv:s.vanishes j with
 | true=>rw [h2 hv]; simp; omega
 | false=>split <;> simp <;> omega
theorem mu1_eq {s s':Yu8} (hs:Ok s) (hs':Ok s') (h:LeS s s') (j:Nat) (he:mu1 s' j=mu1 s j):s'.first j=s.first j∧s'.vanishes j=s.vanishes j:=by
 obtain ⟨h1,h2⟩:=h j
 have h3:s.first j≤s'.first j:=by
  have e:OR (s.first j) (s'.first j)=s'.first j:=Sub.eq ((hs _).or (hs' _)) (hs' _) (Sub.or (hs _) (hs' _) h1 (Sub.refl _)) (Sub.r (hs _) (hs' _))
  rw [← e]; exact le_or (hs _) (hs' _)
 have u:=hs j; have u':=hs' j
 unfold U at u u'
 unfold mu1 at he
 cases hv:s.vanishes j with
 | true=>rw [hv,h2 hv] at he; simp at he; exact ⟨by omega,h2 hv⟩
 | false =>
  rw [hv] at he
  cases hv':s'.vanishes j with
  | true=>rw [hv'] at he; simp at he; omega
  | false=>rw [hv'] at he; simp at he; exact ⟨by omega,rfl⟩
theorem mu_le {s s':Yu8} (hs:Ok s) (hs':Ok s') (h:LeS s s'):∀ n,mu s' n≤mu s n
 | 0=>Nat.le_refl _
 | n + 1=>Nat.add_le_add (mu_le hs hs' h n) (mu1_le hs hs' h n)
theorem mu_eq {s s':Yu8} (hs:Ok s) (hs':Ok s') (h:LeS s s'):∀ n,mu s' n=mu s n→∀ j,j < n→s'.first j=s.first j∧s'.vanishes j=s.vanishes j
 | 0,_,j,hj=>by omega
 | n + 1,he,j,hj=>by
  have k1:=mu_le hs hs' h n; have k2:=mu1_le hs hs' h n
  simp only [mu] at he
  rcases Nat.lt_or_ge j n with hj2 | hj2
  ·exact mu_eq hs hs' h n (by omega) j hj2
  ·obtain rfl:j=n:=by omega
   exact mu1_eq hs hs' h j (by omega)
theorem Zn0 {α:Type} [DecidableEq α] {n:Nat} {f g:Int→α}:aeq n f g=true↔∀ j:Nat,j < n→f j=g j:=by
 simp [aeq]
theorem Zsz {g:Yu5} {s:Yu8} {i:Nat} (h:i < g.prods.length):Zki g s (g.prods.take (i + 1))=step g (Zki g s (g.prods.take i)) g.prods[i]:=by
 show List.foldl _ _ _=_
 rw [show g.prods.take (i + 1)=g.prods.take i++[g.prods[i]] from List.take_succ_eq_append_getElem h,List.foldl_append]
 rfl
theorem loop3 {g:Yu5} (hl:Lg g) (hg:Yzm g=true) (s:Yu8) {o:Sum Yu8 (Sum (Int × Yu8) Yu8)} (he:Yyf g s g.prods.length (Zki g s g.prods) (.inr o)):Yui (fun (q:Int × Yu8) o=>Yyf g s q.1 q.2 o) (0,s) o:=by
 have h:=Yui.upto (B:=fun (q:Int × Yu8) o=>Yyf g s q.1 q.2 o) (r:=o) (fun i=>((i:Int),Zki g s (g.prods.take i))) g.prods.length (fun i hi=>?_) (by rw [List.take_length]; exact he)
 ·simpa [Zki] using h
 ·show Yyf g s (i:Int) _ _
  obtain ⟨p1,p2,p3⟩:=Zeu hg (List.getElem_mem hi)
  obtain ⟨_,t1,t2⟩:=Zcs hg
  rw [Zsz hi]
  unfold Yyf
  rw [if_pos (by omega),Yvv hi,Yw3 (by have:=hl.p; omega)]
  refine ⟨by omega,?_⟩
  by_cases h0:g.prods[i].lhs < 0
  ·rw [if_pos h0]; unfold step; rw [if_pos h0]; rfl
  ·rw [if_neg h0]
   have hw:w64 ((g.terms.length:Int) + g.prods[i].lhs)=xOf g g.prods[i]:=Yyq (by omega)
   refine ⟨_,of1 hg _ (hl.r _ (List.getElem_mem hi)) p3,?_⟩
   rw [hw]
   refine ⟨by unfold xOf; omega,_,rfl,?_⟩
   unfold step
   rw [if_neg h0]
   split
   ·rename_i hv
    refine ⟨_,rfl,?_⟩
    have hv:(Zki g s (List.take i g.prods)).vanishes (xOf g g.prods[i])=true:=hv
    first | rfl | (rw [if_pos hv]; rfl)
   ·rename_i hv
    refine ⟨_,rfl,?_⟩
    have hv:¬ (Zki g s (List.take i g.prods)).vanishes (xOf g g.prods[i])=true:=hv
    first | rfl | (rw [if_neg hv]; rfl)
structure Zk7 (g:Yu5) (s:Yu8):Prop extends Znk g s where
 cl:Cl g s
theorem inA {g:Yu5} (hg:Yzm g=true):∀ p ∈ g.prods,(0≤p.lhs→0≤xOf g p∧xOf g p < (192:Nat))∧∀ r ∈ p.rhs,0≤r.sym∧r.sym < (192:Nat):=fun p hp=>by
 obtain ⟨p1,p2,p3⟩:=Zeu hg hp
 obtain ⟨_,t1,t2⟩:=Zcs hg
 refine ⟨fun h0=>by unfold xOf; omega,fun r hr=>?_⟩
 have:=Zfe p3 hr
 omega
theorem Zr1 {g:Yu5} (hl:Lg g) (hg:Yzm g=true):∃ s,Zbn g s∧Zk7 g s:=by
 obtain ⟨t0,t1,t2⟩:=Zcs hg
 have hst:Znk g (s0 g.terms.length):=by
  refine ⟨s0_ok t1,fun t ht=>?_,fun t ht=>rfl,fun s' o1 o2 o3 j=>⟨?_,fun h=>by cases h⟩⟩
  ·show (if _ then _ else _)=_
   rw [if_pos (by omega)]; simp
  ·show Sub (if _ then _ else _) _
   split
   ·rename_i h
    intro i hi
    rw [Zi3,decide_eq_true_eq] at hi
    have:=o2 j.toNat (by omega)
    rw [show ((j.toNat:Nat):Int)=j by omega] at this
    rw [← hi]; exact this
   ·exact Sub.zero _
 have h2:=Yui.some (B:=fun (s:Yu8) o=>Zb6 g s o) (P:=fun r:Sum (Int × Yu8) Yu8=>∃ s,r=.inr s∧Zk7 g s) (Znk g) (fun s=>mu s 192) (fun s hs=>?_) hst
 ·obtain ⟨r,h3,s,rfl,h4⟩:=h2
  refine ⟨s,?_,h4⟩
  unfold Zbn
  have:=Yui.upto (B:=fun (q:Int × Yu8) o=>Yzf g q.1 q.2 o) (r:=s) (fun i=>((i:Int),s0 i)) g.terms.length (fun i hi=>?_) ?_
  ·have e:s0 0=(⟨(fun _=>0),(fun _=>false)⟩:Yu8):=by
    unfold s0
    simp only [Yu8.mk.injEq,and_true]
    funext j
    rw [if_neg (by omega)]
   rw [← e]; simpa using this
  ·show Yzf g (i:Int) _ _
   unfold Yzf
   rw [if_pos (by omega),Yw3 (by omega),s0_succ (by omega)]
   exact ⟨by omega,by omega,_,rfl,rfl⟩
  ·show Yzf g (g.terms.length:Int) _ _
   unfold Yzf
   rw [if_neg (by omega)]
   exact h3
 ·have hp := Zna (l := g.prods) hs fun _ h => h
  have hle:=Zmu (g:=g) (l:=g.prods) hs.ok
  by_cases ha:Zkv 192 (Zki g s g.prods) s
  ·left
   refine ⟨.inr s,?_,s,rfl,{ hs with cl:=Zmi (n:=192) hs.ok hs.ok (LeS.refl s) ha (inA hg) }⟩
   unfold Zb6
   refine ⟨_,rfl,loop3 hl hg s ?_⟩
   unfold Yyf
   rw [if_neg (by omega),if_pos (Zn0.2 fun j hj=>(ha j (by omega) (by omega)).1),if_pos (Zn0.2 fun j hj=>(ha j (by omega) (by omega)).2)]
   exact ⟨_,rfl,rfl⟩
  ·right
   refine ⟨Zki g s g.prods,?_,hp,?_⟩
   ·unfold Zb6
    refine ⟨_,rfl,loop3 hl hg s ?_⟩
    unfold Yyf
    rw [if_neg (by omega)]
    by_cases h5:aeq 192 (Zki g s g.prods).first s.first=true
    ·rw [if_pos h5,if_neg]
     ·exact ⟨_,rfl,rfl⟩
     ·intro h6
      apply ha
      intro j j0 j1
      have e1:=Zn0.1 h5 j.toNat (by omega)
      have e2:=Zn0.1 h6 j.toNat (by omega)
      rw [show ((j.toNat:Nat):Int)=j by omega] at e1 e2
      exact ⟨e1,e2⟩
    ·rw [if_neg h5]
     exact ⟨_,rfl,rfl⟩
   ·show mu (Zki g s g.prods) 192 < mu s 192
    rcases Nat.lt_or_ge (mu (Zki g s g.prods) 192) (mu s 192) with h | h
    ·exact h
    ·exact absurd (fun j j0 j1=>by
      have:=mu_eq hs.ok hp.ok hle 192 (Nat.le_antisymm (mu_le hs.ok hp.ok hle 192) h) j.toNat (by omega)
      rw [show ((j.toNat:Nat):Int)=j by omega] at this
      exact this) ha

def nA (g:Yu5):Nat:=g.terms.length + g.syms.length
theorem wN {g:Yu5} (hl:Lg g):w64 ((g.terms.length:Int) + (g.syms.length:Int))=(nA g:Int):=by rw [wA hl]; unfold nA; omega
def Yxi (g:Yu5) (s:Yu8):List Bool:=(List.range (nA g)).map fun j:Nat=>s.vanishes (j:Int)
def Yyb (g:Yu5) (s:Yu8):List Int:=(List.range (nA g)).map fun j:Nat=>s.first (j:Int)
theorem Zrd {g:Yu5} (hl:Lg g) (hg:Yzm g=true) {s:Yu8} (hs:Zbn g s):Zdc g (Yxi g s):=by
 obtain ⟨t0,t1,t2⟩:=Zcs hg
 have hn:nA g≤192:=by unfold nA; omega
 unfold Zdc
 refine ⟨true,hg ▸ sound1 hl,?_⟩
 rw [if_pos rfl,wN hl]
 refine ⟨s,hs,_,rfl,by omega,Yxi g s,?_,?_,rfl⟩
 ·simp [Yxi]
 ·simp [Yxi]; omega
theorem first_ok {g:Yu5} (hl:Lg g) (hg:Yzm g=true) {s:Yu8} (hs:Zbn g s):Zfp g (Yyb g s):=by
 obtain ⟨t0,t1,t2⟩:=Zcs hg
 have hn:nA g≤192:=by unfold nA; omega
 unfold Zfp
 refine ⟨true,hg ▸ sound1 hl,?_⟩
 rw [if_pos rfl,wN hl]
 refine ⟨s,hs,_,rfl,by omega,Yyb g s,?_,?_,rfl⟩
 ·simp [Yyb]
 ·simp [Yyb]; omega
def ofV (s:Yu8) (row:List Yut) (behind:Int):Int:=if (ofS s row 0).2=true then OR (ofS s row 0).1 behind else (ofS s row 0).1
theorem Zmz {g:Yu5} {s:Yu8} {j:Nat} (h:j < nA g):ix (Yxi g s) (j:Int)=s.vanishes j:=by
 rw [Yvv (by simp [Yxi]; omega)]; simp [Yxi]
theorem Zog {g:Yu5} {s:Yu8} {j:Nat} (h:j < nA g):ix (Yyb g s) (j:Int)=s.first j:=by
 rw [Yvv (by simp [Yyb]; omega)]; simp [Yyb]

end Go.Proofs.YtadcichlnacagaaDoor.L
