/- Closure and Goto: both answer the same. No condition but the size. -/
import Derived.Test.YtadcichlnacagaaDoorI9
set_option linter.unusedVariables false
namespace Go.Proofs.YtadcichlnacagaaDoor.L
open Go.Proofs.YtadcichlnacagaaDoor.B Go.Proofs.YtadcichlnacagaaDoor.R
theorem Zqo {t j : Nat} : ∀ (ms : List Yus) (v : List Int), OkV v → (∀ m ∈ ms, U m.looks) → (has (vx (ms.foldl (fun v m => add v m.spot.toNat m.looks) v) j) t = true ↔ (has (vx v j) t = true ∨ (j < v.length ∧ ∃ m ∈ ms, m.spot.toNat = j ∧ has m.looks t = true)))
 | [],v,hv,_=>by simp
 | m :: ms,v,hv,hm=>by
  have hu:=hm m (List.mem_cons_self ..)
  rw [List.foldl_cons,Zqo ms _ (Zpq hv hu) (fun x hx=>hm x (List.mem_cons_of_mem _ hx)),Zl1]
  have e:has (vx (add v m.spot.toNat m.looks) j) t=true↔(has (vx v j) t=true∨(j < v.length∧m.spot.toNat=j∧has m.looks t=true)):=by
   rcases Nat.lt_or_ge m.spot.toNat v.length with h | h
   ·rw [Zk2 h]
    by_cases e:j=m.spot.toNat
    ·subst e
     rw [if_pos rfl,Zgl (hv _) hu,Bool.or_eq_true]
     simp [h]
    ·rw [if_neg e]
     constructor
     ·exact .inl
     ·rintro (k | ⟨_,k,_⟩)
      ·exact k
      ·exact absurd k.symm e
   ·unfold add
    rw [List.set_eq_of_length_le h]
    constructor
    ·exact .inl
    ·rintro (k | ⟨k1,k2,_⟩)
     ·exact k
     ·omega
  rw [e]
  constructor
  ·rintro ((k | ⟨k1,k2,k3⟩) | ⟨k1,x,k2,k3⟩)
   ·exact .inl k
   ·exact .inr ⟨k1,m,List.mem_cons_self ..,k2,k3⟩
   ·exact .inr ⟨k1,x,List.mem_cons_of_mem _ k2,k3⟩
  ·rintro (k | ⟨k1,x,k2,k3⟩)
   ·exact .inl (.inl k)
   ·rcases List.mem_cons.1 k2 with rfl | k2
    ·exact .inl (.inr ⟨k1,k3⟩)
    ·exact .inr ⟨k1,x,k2,k3⟩
theorem Zjz {g:Yu5} {ms:List Yus} (hm:∀ m ∈ ms,U m.looks) {j t:Nat}:has (vx (Yxw g ms) j) t=true↔(j < nN g∧∃ m ∈ ms,m.spot.toNat=j∧has m.looks t=true):=by
 unfold Yxw
 rw [Zqo ms _ (Znh _) hm,Zl4,Zaj,List.length_replicate]
 simp
def Zmf (T:Nat):Int:=((2 ^ T - 1:Nat):Int)
theorem Zsu {T:Nat} (h:T≤64):U (Zmf T):=by
 have h1:2 ^ T≤2 ^ 64:=Nat.pow_le_pow_right (by omega) h
 have h2:0 < 2 ^ T:=Nat.pow_pos (by omega)
 unfold Zmf
 exact ⟨by omega,by omega⟩
theorem Zl2 {T t:Nat}:has (Zmf T) t=decide (t < T):=by
 unfold has Zmf
 rw [Int.toNat_natCast]
 exact Zri t
theorem Zt2 {g:Yu5} (hr:Yxx g=true) {s:Yu8} (hG:Zk7 g s) {v0 v:List Int} (hl:v0.length=nN g) (h:Zju g s v0 v) (h0:LowV g.terms.length v0):LowV g.terms.length v:=by
 obtain ⟨t1,t2,t3,t4⟩:=Zi6 hr
 have hvx:∀ j,vx (List.replicate (nN g) (Zmf g.terms.length)) j=if j < nN g then Zmf g.terms.length else 0:=fun j=>by
  by_cases hj:j < nN g
  ·rw [Zhw (by simpa using hj),List.getElem_replicate,if_pos hj]
  ·rw [Zk8 (by simpa using hj),if_neg hj]
 have hle:=h.least (List.replicate (nN g) (Zmf g.terms.length)) (fun j=>by
  rw [hvx]; split
  ·exact Zsu t2
  ·exact U.zero) (fun p hp d hd hne hT q hq he=>by
  have hin:=Zcz (g:=g) hq (d:=0) (Nat.zero_le _)
  rw [hvx (atN g q),if_pos (by omega)]
  intro t ht
  rw [Zl2,decide_eq_true_eq]
  unfold ofV at ht
  have hb:∀ t,has (ofS s (behind g p d) 0).1 t=true→t < g.terms.length:=fun t ht=>by
   rcases (Zep hG.ok U.zero t).1 ht with k | ⟨y,k1,k2⟩
   ·rw [Zaj] at k; cases k
   ·exact ((Zj9 (Zft hr) hG).1 k2).1
  have hm:U (vx (List.replicate (nN g) (Zmf g.terms.length)) (atN g p + d)):=by
   rw [hvx]; split
   ·exact Zsu t2
   ·exact U.zero
  split at ht
  ·rw [Zgl (Zfq hG.ok U.zero) hm,Bool.or_eq_true] at ht
   rcases ht with ht | ht
   ·exact hb t ht
   ·rw [hvx] at ht
    split at ht
    ·rwa [Zl2,decide_eq_true_eq] at ht
    ·rw [Zaj] at ht; cases ht
  ·exact hb t ht) (fun j t ht=>by
  rw [hvx]
  by_cases hj:j < nN g
  ·rw [if_pos hj,Zl2,decide_eq_true_eq]
   exact h0 j t ht
  ·rw [Zk8 (by omega),Zaj] at ht; cases ht)
 intro j t ht
 have:=hle j t ht
 rw [hvx] at this
 split at this
 ·rwa [Zl2,decide_eq_true_eq] at this
 ·rw [Zaj] at this; cases this
theorem Zp9 {g:Yu5} (hr:Yxx g=true) {s:Yu8} {v:List Int} (h:LowV g.terms.length v):Zk4 g s v (nN g)=Zj5 g v:=by
 obtain ⟨t1,t2,t3,t4⟩:=Zi6 hr
 unfold nN Zj5
 rw [Zsw _ (Nat.le_refl _),Zsn t2 h]
theorem Zo7 {g:Yu5} (hT:g.terms.length≤64) (l:List Yud):LowV g.terms.length (Yxw g (Zai g l)):=fun j t ht=>by
 obtain ⟨_,m,h1,_,h3⟩:=(Zjz (fun m hm=>(Zjg hT l m hm).u)).1 ht
 obtain ⟨it,h4,rfl⟩:=List.mem_map.1 h1
 have hB:=(List.mem_filter.1 h4).2
 obtain ⟨⟨⟨⟨⟨b1,b2⟩,b3⟩,b4⟩,b5⟩,b6⟩:=Zh1.1 hB
 have h3:has ((2 ^ it.look.toNat:Nat):Int) t=true:=h3
 rw [Zi3,decide_eq_true_eq] at h3
 omega
theorem Znf {g:Yu5} (hT:g.terms.length≤64) (v:List Int):(Zj5 g v).length≤64 * nN g:=Zm6 g hT v _
theorem Zkc {g:Yu5} (hb:Big g) (hr:Yxx g=true) {s:Yu8} (hG:Zk7 g s) {ms:List Yus} (hl:ms.length < 2 ^ 60) (hm:∀ m ∈ ms,MkOk g m) (hlow:LowV g.terms.length (Yxw g ms)):∃ v,Yy9 (Yw2 g s) ms (v,Yw2 g s)∧Yxq (Ywi g s) (Yxw g ms) (v,Ywi g s)∧Zju g s (Yxw g ms) v∧LowV g.terms.length v:=by
 obtain ⟨v,h1,h2⟩:=Zsd hb hr hG.ok hl hm
 obtain ⟨k1,k2⟩:=Zjk hm
 obtain ⟨v',h3,h4⟩:=Zrx hb hr hG.ok k2 k1
 have e:=h2.uniq h4
 subst e
 exact ⟨v,h1,h3,h2,Zt2 hr hG k2 h2 hlow⟩
theorem Zq6 {g:Yu5} (hb:Big g) {l:List Yud} (hl:l.length≤2 ^ 40):∃ r,Zac g l r∧Ze0 g l r∧r.length≤64 * 2 ^ 32:=by
 have hN:=hb.n
 unfold Zac Ze0
 cases hr:Yxx g with
 | false=>exact ⟨[],⟨false,hr ▸ Zld hb.lg,by rw [if_neg (by simp)]⟩,⟨false,hr ▸ Zix hb.lg,by rw [if_neg (by simp)]⟩,by simp⟩
 | true =>
  obtain ⟨t1,t2,t3,t4⟩:=Zi6 hr
  obtain ⟨s,hs,hG⟩:=Zr1 hb.lg (Zft hr)
  have hml:=Zk1 g l
  obtain ⟨v,c1,c2,c3,c4⟩:=Zkc hb hr hG (ms:=Zai g l) (by omega) (Zjg t2 l) (Zo7 t2 l)
  have hil:=Znf t2 v
  refine ⟨Zj5 g v,⟨true,hr ▸ Zld hb.lg,?_⟩,⟨true,hr ▸ Zix hb.lg,?_⟩,by omega⟩
  ·rw [if_pos rfl]
   exact ⟨Ywi g s,Zo8 hb hr hG,_,Zrj hb s t2 hl,_,c2,_,Zor hb s t2 c3.ok c3.len,rfl⟩
  ·rw [if_pos rfl]
   refine ⟨Yw2 g s,Zno hb hr hs hG,_,Zqv hb s t2 hl,_,c1,_,Zsl hb s c3.ok c3.len,?_⟩
   rw [Zp9 hr c4]
def Ywn (g:Yu5) (s:Yu8) (v:List Int) (x:Int):Nat→List Yus
 | 0=>[]
 | i + 1=>if vx v i≠0∧0≤x∧(ix (Yw2 g s).spots (i:Int)).sym=x then Ywn g s v x i++[⟨((i + 1:Nat):Int),vx v i⟩] else Ywn g s v x i
theorem Zr4 {g:Yu5} {i:Nat}:∀ {n:Nat},n≤g.prods.length→i < atN g n→∃ p d,p < n∧d≤(Yvk g p).length∧i=atN g p + d
 | 0,_,h=>absurd h (Nat.not_lt_zero _)
 | n + 1,hn,h=>by
  rcases Nat.lt_or_ge i (atN g n) with k | k
  ·obtain ⟨p, d, h1, h2⟩ := Zr4 (n := n) (by omega) k
   exact ⟨p,d,by omega,h2⟩
  ·rw [atN] at h
   exact ⟨n,i - atN g n,Nat.lt_succ_self _,by omega,by omega⟩
theorem Zs2 {g:Yu5} (hr:Yxx g=true) {s:Yu8} {i:Nat} (hi:i < nN g) (h:0≤(ix (Yw2 g s).spots (i:Int)).sym):(ix (Yw2 g s).spots (i:Int)).sym < (nA g:Int)∧1≤(ix (Yw2 g s).spots (i:Int)).sym∧∃ p d,p < g.prods.length∧d < (Yvk g p).length∧i=atN g p + d:=by
 obtain ⟨p,d,h1,h2,rfl⟩:=Zr4 (Nat.le_refl _) hi
 have e:ix (Yw2 g s).spots ((atN g p + d:Nat):Int)=Zcn g s p d:=Zg9 h1 h2
 rw [e] at h ⊢
 have h:0≤Yw5 g p d:=h
 show Yw5 g p d < _∧1≤Yw5 g p d∧_
 have hd:d < (Yvk g p).length:=by
  rcases Nat.lt_or_ge d (Yvk g p).length with k | k
  ·exact k
  ·unfold Yw5 at h; rw [if_neg (by omega)] at h; omega
 have:=Zlb hr h1 hd
 rw [Zhg hd] at this
 refine ⟨by unfold nA; omega,by omega,p,d,h1,hd,rfl⟩
theorem Zfb {g:Yu5} {s:Yu8} {v:List Int} {x:Int}:∀ {n:Nat} {m:Yus},m ∈ Ywn g s v x n→∃ i,i < n∧vx v i≠0∧0≤x∧(ix (Yw2 g s).spots (i:Int)).sym=x∧m=⟨((i + 1:Nat):Int),vx v i⟩
 | 0,m,h=>by cases h
 | n + 1,m,h=>by
  rw [Ywn] at h
  split at h
  ·rename_i hc
   rcases List.mem_append.1 h with h | h
   ·obtain ⟨i,h1,h2⟩:=Zfb h
    exact ⟨i,by omega,h2⟩
   ·exact ⟨n,Nat.lt_succ_self _,hc.1,hc.2.1,hc.2.2,List.mem_singleton.1 h⟩
  ·obtain ⟨i,h1,h2⟩:=Zfb h
   exact ⟨i,by omega,h2⟩
theorem Zkb (g:Yu5) (s:Yu8) (v:List Int) (x:Int):∀ n,(Ywn g s v x n).length≤n
 | 0=>Nat.le_refl _
 | n + 1=>by
  have:=Zkb g s v x n
  rw [Ywn]
  split
  ·rw [List.length_append,List.length_singleton]; omega
  ·omega
theorem Zjc {g:Yu5} (hr:Yxx g=true) {s:Yu8} {v:List Int} (hv:OkV v) {x:Int} {n:Nat} (hn:n≤nN g):∀ m ∈ Ywn g s v x n,MkOk g m:=fun m hm=>by
 obtain ⟨i,h1,h2,h3,h4,rfl⟩:=Zfb hm
 obtain ⟨_,_,p,d,h5,h6,rfl⟩:=Zs2 hr (s:=s) (i:=i) (by omega) (by rw [h4]; exact h3)
 exact ⟨⟨p,d + 1,h5,by omega,rfl⟩,hv _⟩
theorem Zs3 {g:Yu5} (hr:Yxx g=true) {s:Yu8} {v:List Int} (hv:OkV v) {T:Nat} (h:LowV T v) {x:Int} {n:Nat} (hn:n≤nN g):LowV T (Yxw g (Ywn g s v x n)):=fun j t ht=>by
 obtain ⟨_,m,h1,_,h3⟩:=(Zjz (fun m hm=>(Zjc hr hv hn m hm).u)).1 ht
 obtain ⟨i,_,_,_,_,rfl⟩:=Zfb h1
 exact h i t h3
theorem moved_ok {g:Yu5} (hb:Big g) (hr:Yxx g=true) (s:Yu8) {v:List Int} (hl:v.length=nN g):Zc8 (Yw2 g s) v ((List.range (nA g)).map (fun x:Nat=>Ywn g s v (x:Int) (nN g)),Yw2 g s):=by
 have hN:=hb.n
 obtain ⟨t1,t2,t3,t4⟩:=Zi6 hr
 have eA:w64 (((Yw2 g s).g.terms.length:Int) + ((Yw2 g s).g.syms.length:Int))=((nA g:Nat):Int):=wN hb.lg
 have hA:nA g≤192:=by unfold nA; omega
 unfold Zc8
 rw [eA]
 refine ⟨by omega,List.replicate (nA g) [],by rw [Int.toNat_natCast],?_⟩
 have key:=Yui.upto (B:=fun (q:(List (List Yus)) × Int) o=>Yxo v (Yw2 g s) q.1 q.2 o) (r:=((List.range (nA g)).map (fun x:Nat=>Ywn g s v (x:Int) (nN g)),Yw2 g s)) (fun i=>((List.range (nA g)).map (fun x:Nat=>Ywn g s v (x:Int) i),(i:Int))) (nN g) (fun i hi=>?_) ?_
 ·have e : (List.range (nA g)).map (fun x : Nat => Ywn g s v (x : Int) 0) = List.replicate (nA g) [] := List.ext_getElem (by simp) fun i h1 h2 => by simp [Ywn]
  rw [← e]; exact key
 ·show Yxo v (Yw2 g s) ((List.range (nA g)).map (fun x : Nat => Ywn g s v (x : Int) i)) (i : Int) _
  unfold Yxo
  rw [hl,if_pos (by omega),Yw3 (by omega),Zje]
  refine ⟨by omega,by omega,?_⟩
  show if vx v i=0 then _ else _
  by_cases h0:vx v i=0
  ·rw [if_pos h0]
   have:(fun x:Nat=>Ywn g s v (x:Int) (i + 1))=fun x:Nat=>Ywn g s v (x:Int) i:=funext fun x=>by
    rw [Ywn,if_neg (fun h=>h.1 h0)]
   rw [this]
   rfl
  ·rw [if_neg h0]
   by_cases h1:0≤(ix (Yw2 g s).spots (i:Int)).sym
   ·obtain ⟨a1,a2,_⟩:=Zs2 hr (s:=s) hi h1
    rw [if_pos (by omega)]
    have hz:(((ix (Yw2 g s).spots (i:Int)).sym.toNat:Nat):Int)=(ix (Yw2 g s).spots (i:Int)).sym:=Int.toNat_of_nonneg h1
    have hlt:(ix (Yw2 g s).spots (i:Int)).sym.toNat < nA g:=by omega
    have eix:ix ((List.range (nA g)).map (fun x:Nat=>Ywn g s v (x:Int) i)) (ix (Yw2 g s).spots (i:Int)).sym=Ywn g s v (ix (Yw2 g s).spots (i:Int)).sym i:=by
     rw [← hz,Yvv (by simpa using hlt)]
     simp
    have hml:=Zkb g s v (ix (Yw2 g s).spots (i:Int)).sym i
    refine ⟨⟨h1,by simp; omega⟩,_,rfl,?_,_,rfl,?_⟩
    ·rw [eix,List.length_append,List.length_singleton]; omega
    ·rw [eix]
     congr 2
     refine List.ext_getElem (by simp) fun j h2 h3=>?_
     rw [List.getElem_set]
     simp only [List.getElem_map,List.getElem_range]
     rw [Ywn]
     by_cases e:(ix (Yw2 g s).spots (i:Int)).sym.toNat=j
     ·rw [if_pos e, if_pos ⟨h0, by omega, by omega⟩, ← e, hz]
      rfl
     ·rw [if_neg e,if_neg (fun h=>e (by omega))]
   ·rw [if_neg (by omega)]
    have:(fun x:Nat=>Ywn g s v (x:Int) (i + 1))=fun x:Nat=>Ywn g s v (x:Int) i:=funext fun x=>by
     rw [Ywn,if_neg (fun h=>h1 (by rw [h.2.2]; exact h.2.1))]
    rw [this]
    rfl
 ·show Yxo v (Yw2 g s) _ ((nN g:Nat):Int) _
  unfold Yxo
  rw [hl,if_neg (by omega)]
theorem Zqb {g:Yu5} (hr:Yxx g=true) {s:Yu8} {v:List Int} (hv:OkV v) {x:Int} {i:Nat} (hi:i + 1 < nN g) (hc:vx v i≠0∧0≤x∧(ix (Yw2 g s).spots (i:Int)).sym=x):Yxw g (Ywn g s v x (i + 1))=(Yxw g (Ywn g s v x i)).set (i + 1) (vx v i):=by
 rw [Ywn,if_pos hc,Zmg]
 show add _ (((i + 1:Nat):Int)).toNat (vx v i)=_
 rw [Int.toNat_natCast]
 have hok:=Zjc hr hv (s:=s) (x:=x) (n:=i) (by omega)
 have e:vx (Yxw g (Ywn g s v x i)) (i + 1)=0:=Zh2 ((Zjk hok).1 _) U.zero fun t=>by
  rw [Zaj,Bool.eq_false_iff]
  intro ht
  obtain ⟨_,m,h1,h2,_⟩:=(Zjz (fun m hm=>(hok m hm).u)).1 ht
  obtain ⟨k,h3,_,_,_,rfl⟩:=Zfb h1
  have h2:(((k + 1:Nat):Int)).toNat=i + 1:=h2
  omega
 unfold add
 rw [e]
 congr 1
 exact Zpm (hv i)
def Zgs (g:Yu5) (s:Yu8) (v:List Int) (x:Int) (n:Nat):Bool:=!(Ywn g s v x n).isEmpty
theorem behind_d {g:Yu5} (hb:Big g) (hr:Yxx g=true) {s:Yu8} {v:List Int} (hv:OkV v) (hl:v.length=nN g) (x:Int) {p d:Nat} (hp:p < g.prods.length) (hd:d < (Yvk g p).length) :
  Ywf (Ywi g s) (p:Int) x v (Yxw g (Ywn g s v x (atN g p + d))) (Zgs g s v x (atN g p + d)) (d:Int) (.inl (Yxw g (Ywn g s v x (atN g p + (d + 1))),Zgs g s v x (atN g p + (d + 1)),((d + 1:Nat):Int))):=by
 have hN:=hb.n
 have hin:=Zcz hp hd
 have hrl:=lgix hb.lg p
 have hrl:(Yvk g p).length < 2 ^ 60:=hrl
 have er:(ix (Ywi g s).g.prods (p:Int)).rhs=Yvk g p:=rfl
 have ew:w64 (ix (Ywi g s).at_ (p:Int) + (d:Int))=((atN g p + d:Nat):Int):=by
  show w64 (ix (Za0 g g.prods.length) (p:Int) + (d:Int))=_
  rw [Zj0 hp,Yyq (by omega)]; omega
 have ew1:w64 (((atN g p + d:Nat):Int) + 1)=((atN g p + d + 1:Nat):Int):=by rw [Yyq (by omega)]; omega
 have la:(Ywi g s).at_.length=g.prods.length:=by show (Za0 g g.prods.length).length=_; simp [Za0]
 have esp:ix (Yw2 g s).spots ((atN g p + d:Nat):Int)=Zcn g s p d:=Zg9 hp (Nat.le_of_lt hd)
 have esy:(ix (Yw2 g s).spots ((atN g p + d:Nat):Int)).sym=Yw5 g p d:=by rw [esp]; rfl
 have hlen:(Yxw g (Ywn g s v x (atN g p + d))).length=nN g:=(Zjk (Zjc hr hv (s:=s) (by omega))).2
 have hge:=Zlb hr hp hd
 rw [Zhg hd] at hge
 show Ywf _ _ _ _ _ _ _ (.inl (Yxw g (Ywn g s v x (atN g p + d + 1)),Zgs g s v x (atN g p + d + 1),_))
 have no:¬ (vx v (atN g p + d)≠0∧0≤x∧(ix (Yw2 g s).spots ((atN g p + d:Nat):Int)).sym=x)→Yxe (p:Int) (Ywi g s) (d:Int) v (Yxw g (Ywn g s v x (atN g p + d))) (Zgs g s v x (atN g p + d)) false (.inl (Yxw g (Ywn g s v x (atN g p + d + 1)),Zgs g s v x (atN g p + d + 1),((d + 1:Nat):Int))):=fun h=>by
  unfold Yxe Zgs
  rw [Ywn,if_neg h,if_neg (by simp),Yw3 (by omega)]
  rfl
 unfold Ywf
 rw [er,if_pos (by omega),Zhg hd]
 refine ⟨by omega,?_⟩
 by_cases h1:Yw5 g p d=x
 ·rw [if_pos h1,la,ew,hl]
  refine ⟨by omega,by omega,?_⟩
  show Yxe (p:Int) (Ywi g s) (d:Int) v (Yxw g (Ywn g s v x (atN g p + d))) (Zgs g s v x (atN g p + d)) (vx v (atN g p + d) != 0) _
  by_cases h0:vx v (atN g p + d)=0
  ·have:(vx v (atN g p + d) != 0)=false:=by rw [h0]; rfl
   rw [this]
   exact no fun h=>h.1 h0
  ·have:(vx v (atN g p + d) != 0)=true:=by simpa using h0
   rw [this]
   have hc:vx v (atN g p + d)≠0∧0≤x∧(ix (Yw2 g s).spots ((atN g p + d:Nat):Int)).sym=x:=⟨h0,by omega,by rw [esy]; exact h1⟩
   have hset:=Zqb hr hv (s:=s) (x:=x) (i:=atN g p + d) hin hc
   have hany:Zgs g s v x (atN g p + d + 1)=true:=by
    unfold Zgs
    rw [Ywn,if_pos hc]
    simp
   unfold Yxe
   rw [if_pos rfl,la,ew,hl,hlen,ew1]
   refine ⟨by omega,by omega,by omega,_,rfl,?_⟩
   rw [hset,hany,Yw3 (by omega),Int.toNat_natCast]
   rfl
 ·rw [if_neg h1]
  exact no fun h=>h1 (by rw [← esy]; exact h.2.2)
theorem Znl {g:Yu5} (hb:Big g) (hr:Yxx g=true) {s:Yu8} {v:List Int} (hv:OkV v) (hl:v.length=nN g) (x:Int) {r:(List Int) × Bool × Yuc} (hend:if Zgs g s v x (nN g)=true then ∃ u,Yxq (Ywi g s) (Yxw g (Ywn g s v x (nN g))) (u,Ywi g s)∧r=(u,true,Ywi g s) else r=([],false,Ywi g s)):Yzk (Ywi g s) v x r:=by
 have hN:=hb.n
 have hP:=hb.lg.p
 unfold Yzk
 refine ⟨?_,List.replicate (nN g) 0,?_,?_⟩
 ·show (0:Int)≤((nN g:Nat):Int)∧((nN g:Nat):Int) * 8≤_
  omega
 ·show _=List.replicate (((nN g:Nat):Int)).toNat 0
  rw [Int.toNat_natCast]
 refine Yui.upto (B:=fun (q:(List Int) × Bool × Int) o=>Ywu (Ywi g s) x v q.1 q.2.1 q.2.2 o) (fun p=>(Yxw g (Ywn g s v x (atN g p)),Zgs g s v x (atN g p),(p:Int))) g.prods.length (fun p hp=>?_) ?_
 ·show Ywu (Ywi g s) x v (Yxw g (Ywn g s v x (atN g p))) (Zgs g s v x (atN g p)) (p:Int) _
  have er:(ix (Ywi g s).g.prods (p:Int)).rhs=Yvk g p:=rfl
  have eP:(Ywi g s).g.prods.length=g.prods.length:=rfl
  unfold Ywu
  rw [eP,if_pos (by omega)]
  refine ⟨by omega,?_⟩
  have hlast:Ywn g s v x (atN g (p + 1))=Ywn g s v x (atN g p + (Yvk g p).length):=by
   rw [atN]
   show Ywn g s v x (atN g p + (Yvk g p).length + 1)=_
   rw [Ywn,if_neg]
   have esp:ix (Yw2 g s).spots ((atN g p + (Yvk g p).length:Nat):Int)=Zcn g s p (Yvk g p).length:=Zg9 hp (Nat.le_refl _)
   rw [esp,Zp0]
   rintro ⟨_,h1,h2⟩
   have h2:(-1:Int)=x:=h2
   omega
  refine Yui.upto (B:=fun (q:(List Int) × Bool × Int) o=>Ywf (Ywi g s) (p:Int) x v q.1 q.2.1 q.2.2 o) (fun d=>(Yxw g (Ywn g s v x (atN g p + d)),Zgs g s v x (atN g p + d),(d:Int))) (Yvk g p).length (fun d hd=>?_) ?_
  ·exact behind_d hb hr hv hl x hp hd
  ·show Ywf (Ywi g s) (p:Int) x v _ _ ((Yvk g p).length:Int) _
   unfold Ywf
   rw [er,if_neg (by omega),Yw3 (by omega)]
   unfold Zgs
   rw [hlast]
   rfl
 ·show Ywu (Ywi g s) x v (Yxw g (Ywn g s v x (nN g))) (Zgs g s v x (nN g)) (g.prods.length:Int) _
  have eP:(Ywi g s).g.prods.length=g.prods.length:=rfl
  unfold Ywu
  rw [eP,if_neg (by omega)]
  cases ha:Zgs g s v x (nN g) with
  | true =>
   rw [ha,if_pos rfl] at hend
   obtain ⟨u,h1,rfl⟩:=hend
   rw [if_pos rfl]
   exact ⟨_,h1,rfl⟩
  | false =>
   rw [ha,if_neg (by simp)] at hend
   rw [if_neg (by simp),hend]
theorem Zoi {g:Yu5} {T:Nat} {v:List Int} (h:∀ j,vx v j=0) (p:Nat):∀ d,Zj6 g T v p d=[]
 | 0=>rfl
 | d + 1=>by rw [Zj6,Zoi h p d,Zby,h,Zis]; rfl
theorem Zob {g:Yu5} {T:Nat} {v:List Int} (h:∀ j,vx v j=0):∀ p,Ze3 g T v p=[]
 | 0=>rfl
 | p + 1=>by rw [Ze3,Zob h p,Zoi h]; rfl
theorem Zs9 {g:Yu5} {s:Yu8} {v:List Int} (h:Zju g s (Yxw g []) v) (j:Nat):vx v j=0:=by
 have:=h.least (List.replicate (nN g) 0) (Znh _) (fun p hp d hd hne=>absurd (Zl4 _ _) hne) (LeV.refl _) j
 rw [Zl4] at this
 exact Sub.eq (h.ok j) U.zero this (Sub.zero _)
theorem Ztb {g:Yu5} (hb:Big g) {l:List Yud} (hl:l.length≤2 ^ 40) (x:Int):∃ r,Zbo g l x r∧Zgf g l x r∧r.length≤64 * 2 ^ 32:=by
 have hN:=hb.n
 unfold Zbo Zgf
 cases hr:Yxx g with
 | false =>
  refine ⟨[],⟨false,hr ▸ Zld hb.lg,by rw [if_neg (by simp)]⟩,⟨false,hr ▸ Zix hb.lg,?_⟩,by simp⟩
  rw [if_neg (by simp)]
  unfold Za7
  rw [if_pos rfl]
 | true =>
  obtain ⟨t1,t2,t3,t4⟩:=Zi6 hr
  obtain ⟨s,hs,hG⟩:=Zr1 hb.lg (Zft hr)
  have hml:=Zk1 g l
  obtain ⟨v,c1,c2,c3,c4⟩:=Zkc hb hr hG (ms:=Zai g l) (by omega) (Zjg t2 l) (Zo7 t2 l)
  have mo:=Zjc hr c3.ok (s:=s) (x:=x) (n:=nN g) (Nat.le_refl _)
  have mlen:=Zkb g s v x (nN g)
  obtain ⟨u,d1,d2,d3,d4⟩:=Zkc hb hr hG (ms:=Ywn g s v x (nN g)) (by omega) mo (Zs3 hr c3.ok c4 (Nat.le_refl _))
  have hil:=Znf t2 u
  have hdoc:∀ r,(if Zgs g s v x (nN g)=true then r=Zj5 g u else r=[])→∃ r25:Bool,Yz6 g r25∧if r25=true then ∃ r34:Yuc,(Yyh g r34)∧∃ r82:(List Int) × Yuc,(Zah r34 l r82)∧∃ r121:(List Int) × Yuc,(Yxq r82.2 r82.1 r121)∧∃ r160:(List Int) × Bool × Yuc,(Yzk r121.2 r121.1 x r160)∧if r160.2.1=true then ∃ r200:(List Yud) × Yuc,(Yyw r160.2.2 r160.1 r200)∧r=r200.1 else r=([]:List Yud) else r=([]:List Yud):=fun r h=>by
   refine ⟨true,hr ▸ Zld hb.lg,?_⟩
   rw [if_pos rfl]
   refine ⟨Ywi g s,Zo8 hb hr hG,_,Zrj hb s t2 hl,_,c2,?_⟩
   cases ha:Zgs g s v x (nN g) with
   | true =>
    rw [ha,if_pos rfl] at h
    refine ⟨(u,true,Ywi g s),Znl hb hr c3.ok c3.len x ?_,?_⟩
    ·rw [ha,if_pos rfl]
     exact ⟨u,d2,rfl⟩
    ·rw [if_pos rfl]
     exact ⟨_,Zor hb s t2 d3.ok d3.len,h⟩
   | false =>
    rw [ha,if_neg (by simp)] at h
    refine ⟨([],false,Ywi g s),Znl hb hr c3.ok c3.len x ?_,?_⟩
    ·rw [ha,if_neg (by simp)]
    ·rw [if_neg (by simp)]
     exact h
  have hempty:¬ (0≤x∧x < (nA g:Int))→Zgs g s v x (nN g)=false:=fun h=>by
   unfold Zgs
   have:Ywn g s v x (nN g)=[]:=by
    rw [List.eq_nil_iff_forall_not_mem]
    intro m hm
    obtain ⟨i,h1,h2,h3,h4,_⟩:=Zfb hm
    have:=Zs2 hr (s:=s) h1 (by rw [h4]; exact h3)
    rw [h4] at this
    exact h ⟨h3,this.1⟩
   rw [this]; rfl
  have eA:=wN hb.lg
  by_cases hx:0≤x∧x < (nA g:Int)
  ·refine ⟨Zj5 g u, hdoc _ ?_, ⟨true, hr ▸ Zix hb.lg, ?_⟩, by omega⟩
   ·cases ha:Zgs g s v x (nN g) with
    | true=>rw [if_pos rfl]
    | false =>
     rw [if_neg (by simp)]
     have:Ywn g s v x (nN g)=[]:=by
      unfold Zgs at ha
      simpa using ha
     rw [this] at d3
     exact Zob (Zs9 d3) _
   ·rw [if_pos rfl, if_neg (by omega), eA, decide_eq_false (by omega)]
    unfold Za7
    rw [if_neg (by simp)]
    have eix:ix ((List.range (nA g)).map (fun x:Nat=>Ywn g s v (x:Int) (nN g))) x=Ywn g s v x (nN g):=by
     have hz:((x.toNat:Nat):Int)=x:=Int.toNat_of_nonneg hx.1
     rw [← hz,Yvv (by simp; omega)]
     simp
    refine ⟨Yw2 g s,Zno hb hr hs hG,_,Zqv hb s t2 hl,_,c1,_,moved_ok hb hr s c3.len,?_⟩
    refine ⟨⟨hx.1,by simp; omega⟩,(u,Yw2 g s),?_,_,Zsl hb s d3.ok d3.len,?_⟩
    ·show Yy9 (Yw2 g s) (ix ((List.range (nA g)).map (fun x : Nat => Ywn g s v (x : Int) (nN g))) x) _
     rw [eix]
     exact d1
    ·rw [Zp9 hr d4]
  ·refine ⟨[], hdoc _ ?_, ⟨true, hr ▸ Zix hb.lg, ?_⟩, by simp⟩
   ·rw [hempty hx,if_neg (by simp)]
   ·rw [if_pos rfl]
    by_cases h0:x < 0
    ·rw [if_pos h0]
     unfold Za7
     rw [if_pos rfl]
    ·rw [if_neg h0, eA, decide_eq_true (by omega)]
     unfold Za7
     rw [if_pos rfl]
theorem Zpo {l:List Yud} (h:l.length < 2 ^ 60):Yzd l l true:=by
 unfold Yzd
 rw [if_pos rfl]
 refine Yui.cnt l.length (fun i hi=>?_) ?_ <;> unfold Zad
 ·rw [if_pos (by omega), if_pos rfl, Yw3 (by omega)]
  exact ⟨by omega,by omega,rfl⟩
 ·rw [if_neg (by omega)]
end Go.Proofs.YtadcichlnacagaaDoor.L
