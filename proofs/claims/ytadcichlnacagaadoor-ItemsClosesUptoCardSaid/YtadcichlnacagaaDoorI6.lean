/- The program's closing answers the least closed set. No condition but the size. -/
import Derived.Test.YtadcichlnacagaaDoorI5
set_option linter.unusedVariables false
namespace Go.Proofs.YtadcichlnacagaaDoor.L
open Go.Proofs.YtadcichlnacagaaDoor.B Go.Proofs.YtadcichlnacagaaDoor.R
def ad (a:List Int × List Int) (i:Nat) (x:Int):List Int × List Int:=if OR (vx a.1 i) x=vx a.1 i then a else (add a.1 i x,a.2++[(i:Int)])
theorem Zro (a:List Int × List Int) (i:Nat) (x:Int):(ad a i x).1=add a.1 i x:=by
 unfold ad
 split
 ·rename_i h; exact (Zra h).symm
 ·rfl
def Zla (g:Yu5) (z:Int):Prop:=∃ p d,p < g.prods.length∧d≤(Yvk g p).length∧z=((atN g p + d:Nat):Int)
structure Stk (g:Yu5) (a:List Int × List Int):Prop where
 len:a.1.length=nN g
 ok:OkV a.1
 pl:∀ z ∈ a.2,Zla g z
 nz:∀ z ∈ a.2,vx a.1 z.toNat≠0
structure Mv (g:Yu5) (a b:List Int × List Int):Prop where
 st:Stk g b
 le:LeV a.1 b.1
 n:b.2.length + Zbp b.1≤a.2.length + Zbp a.1
 n2:b.2.length + 2 * Zbp b.1≤a.2.length + 2 * Zbp a.1
 keep:∀ z ∈ a.2,z ∈ b.2
 new:∀ j:Nat,vx b.1 j≠vx a.1 j→(j:Int) ∈ b.2
theorem Mv.refl {g:Yu5} {a:List Int × List Int} (h:Stk g a):Mv g a a:=⟨h,LeV.refl _,Nat.le_refl _,Nat.le_refl _,fun _ h=>h,fun _ h=>absurd rfl h⟩
theorem Mv.trans {g:Yu5} {a b c:List Int × List Int} (h:Mv g a b) (k:Mv g b c):Mv g a c:=⟨k.st,h.le.trans k.le,Nat.le_trans k.n h.n,Nat.le_trans k.n2 h.n2,fun z hz=>k.keep z (h.keep z hz),fun j hj=>by
 by_cases e:vx c.1 j=vx b.1 j
 ·exact k.keep _ (h.new j (by rw [← e]; exact hj))
 ·exact k.new j e⟩
theorem ad_mv {g:Yu5} {a:List Int × List Int} (h:Stk g a) {i:Nat} {x:Int} (hx:U x) (hi:Zla g (i:Int)):Mv g a (ad a i x):=by
 have hin:i < a.1.length:=by
  obtain ⟨p,d,h1,h2,h3⟩:=hi
  rw [h.len]
  have:=Zcz h1 h2
  omega
 unfold ad
 split
 ·exact Mv.refl h
 ·rename_i hne
  have hm:=(Zqz h.ok hx).2 hne hin
  refine ⟨⟨by rw [Zl1]; exact h.len,Zpq h.ok hx,fun z hz=>?_,fun z hz=>?_⟩,Zrr h.ok _ hx,?_,?_,fun z hz=>List.mem_append_left _ hz,fun j hj=>?_⟩
  ·rcases List.mem_append.1 hz with hz | hz
   ·exact h.pl z hz
   ·rw [List.mem_singleton.1 hz]; exact hi
  ·rcases List.mem_append.1 hz with hz | hz
   ·exact Zse (h.ok _) (Zpq h.ok hx _) (Zrr h.ok _ hx _) (h.nz z hz)
   ·rw [List.mem_singleton.1 hz,Int.toNat_natCast]
    show vx (add a.1 i x) i≠0
    rw [Zk2 hin,if_pos rfl]
    intro e
    apply hne
    have e0:vx a.1 i=0:=Sub.eq (h.ok i) U.zero (by rw [← e]; exact Sub.l (h.ok i) hx) (Sub.zero _)
    rw [e,e0]
  ·show (a.2++[(i:Int)]).length + Zbp (add a.1 i x)≤_
   rw [List.length_append,List.length_singleton]; omega
  ·show (a.2++[(i:Int)]).length + 2 * Zbp (add a.1 i x)≤_
   rw [List.length_append,List.length_singleton]; omega
  ·rw [Zk2 hin] at hj
   by_cases e:j=i
   ·subst e; simp
   ·rw [if_neg e] at hj; exact absurd rfl hj
theorem ad_rel {g:Yu5} (hb:Big g) {a:List Int × List Int} (h:Stk g a) {i:Nat} (hi:Zla g (i:Int)) {x:Int} (hx:U x) (hn:a.2.length + Zbp a.1≤64 * nN g):Yzj (i:Int) x a.1 a.2 (ad a i x):=by
 have hN:=hb.n
 have hin:i < a.1.length:=by
  obtain ⟨p,d,h1,h2,h3⟩:=hi
  rw [h.len]
  have:=Zcz h1 h2
  omega
 have hmv:=(ad_mv h hx hi).n
 unfold Yzj
 refine ⟨by omega,?_⟩
 show if OR (vx a.1 i) x=vx a.1 i then _ else _
 unfold ad at hmv ⊢
 split
 ·rfl
 ·rename_i hne
  rw [if_neg hne] at hmv
  refine ⟨_,rfl,_,rfl,?_,rfl⟩
  have:(a.2++[(i:Int)]).length + Zbp (add a.1 i x)≤a.2.length + Zbp a.1:=hmv
  omega
def Yxw (g:Yu5) (ms:List Yus):List Int:=ms.foldl (fun v m=>add v m.spot.toNat m.looks) (List.replicate (nN g) 0)
structure MkOk (g:Yu5) (m:Yus):Prop where
 pl:Zla g m.spot
 u:U m.looks
theorem Zla.nn {g:Yu5} {z:Int} (h:Zla g z):((z.toNat:Nat):Int)=z:=by
 obtain ⟨p,d,_,_,rfl⟩:=h
 omega
def adM (a:List Int × List Int) (m:Yus):List Int × List Int:=ad a m.spot.toNat m.looks
theorem Znh (n:Nat):OkV (List.replicate n 0):=fun j=>by
 rcases Nat.lt_or_ge j n with h | h
 ·rw [Zhw (by simpa using h),List.getElem_replicate]; exact U.zero
 ·rw [Zk8 (by simpa using h)]; exact U.zero
theorem Zl4 (n j:Nat):vx (List.replicate n 0) j=0:=by
 rcases Nat.lt_or_ge j n with h | h
 ·rw [Zhw (by simpa using h),List.getElem_replicate]
 ·rw [Zk8 (by simpa using h)]
theorem Zqe : ∀ (ms : List Yus) (a : List Int × List Int), (ms.foldl adM a).1 = ms.foldl (fun v m => add v m.spot.toNat m.looks) a.1
 | [],a=>rfl
 | m :: ms,a=>by
  rw [List.foldl_cons,List.foldl_cons,Zqe ms]
  congr 1
  exact Zro _ _ _
theorem Zq5 {g:Yu5}:∀ (ms:List Yus) (hm:∀ m ∈ ms,MkOk g m) (a:List Int × List Int),Stk g a→Mv g a (ms.foldl adM a)
 | [],_,a,h=>Mv.refl h
 | m :: ms,hm,a,h=>by
  have hk:=hm m (List.mem_cons_self ..)
  have h1:Mv g a (adM a m):=ad_mv h hk.u (by rw [hk.pl.nn]; exact hk.pl)
  rw [List.foldl_cons]
  exact h1.trans (Zq5 ms (fun x hx=>hm x (List.mem_cons_of_mem _ hx)) _ h1.st)
def a0 (g:Yu5):List Int × List Int:=(List.replicate (nN g) 0,[])
theorem a0_st (g:Yu5):Stk g (a0 g):=⟨by simp [a0],Znh _,fun z hz=>(by cases hz),fun z hz=>(by cases hz)⟩
theorem Zjk {g:Yu5} {ms:List Yus} (hm:∀ m ∈ ms,MkOk g m):OkV (Yxw g ms)∧(Yxw g ms).length=nN g:=by
 have h:=(Zq5 ms hm (a0 g) (a0_st g)).st
 have e:(ms.foldl adM (a0 g)).1=Yxw g ms:=Zqe ms _
 exact ⟨e ▸ h.ok,e ▸ h.len⟩
structure Wl (g:Yu5) (s:Yu8) (v0:List Int) (a:List Int × List Int):Prop where
 st:Stk g a
 le:LeV v0 a.1
 low:∀ u,OkV u→ClV g s u→LeV v0 u→LeV a.1 u
 n:a.2.length + Zbp a.1≤64 * nN g
 rule:∀ p d,p < g.prods.length→d < (Yvk g p).length→vx a.1 (atN g p + d)≠0→((atN g p + d:Nat):Int) ∈ a.2∨Zle g s a.1 p d
theorem Zmt {g:Yu5} {x:Int} {z:Int}:∀ {n:Nat},z ∈ ofL g x n↔∃ q,q < n∧Zc4 g q=x∧z=((atN g q:Nat):Int)
 | 0=>⟨fun h=>(by cases h),fun ⟨q,h,_⟩=>absurd h (Nat.not_lt_zero _)⟩
 | n + 1=>by
  have ih:=Zmt (g:=g) (x:=x) (z:=z) (n:=n)
  rw [ofL]
  constructor
  ·intro h
   split at h
   ·rename_i e
    rcases List.mem_append.1 h with h | h
    ·obtain ⟨q,h1,h2⟩:=ih.1 h
     exact ⟨q,by omega,h2⟩
    ·exact ⟨n,Nat.lt_succ_self _,e,List.mem_singleton.1 h⟩
   ·obtain ⟨q,h1,h2⟩:=ih.1 h
    exact ⟨q,by omega,h2⟩
  ·rintro ⟨q,h1,h2,h3⟩
   rcases Nat.lt_or_ge q n with h4 | h4
   ·have:=ih.2 ⟨q,h4,h2,h3⟩
    split
    ·exact List.mem_append_left _ this
    ·exact this
   ·have:q=n:=by omega
    subst this
    rw [if_pos h2]
    exact List.mem_append_right _ (by rw [h3]; simp)
def adL (L:Int) (a:List Int × List Int) (l:List Int):List Int × List Int:=l.foldl (fun a z=>ad a z.toNat L) a
theorem Zq8 {g:Yu5} {L:Int} (hL:U L):∀ (l:List Int),(∀ z ∈ l,Zla g z)→∀ a:List Int × List Int,Stk g a→Mv g a (adL L a l)∧(∀ z ∈ l,Sub L (vx (adL L a l).1 z.toNat))∧∀ u,OkV u→LeV a.1 u→(∀ z ∈ l,Sub L (vx u z.toNat))→LeV (adL L a l).1 u
 | [],_,a,h=>⟨Mv.refl h,fun z hz=>(by cases hz),fun u _ h _=>h⟩
 | z :: l,hz,a,h=>by
  have hp:=hz z (List.mem_cons_self ..)
  have h1:Mv g a (ad a z.toNat L):=ad_mv h hL (by rw [hp.nn]; exact hp)
  obtain ⟨i1,i2,i3⟩:=Zq8 hL l (fun y hy=>hz y (List.mem_cons_of_mem _ hy)) _ h1.st
  have hin:z.toNat < a.1.length:=by
   obtain ⟨p,d,h1,h2,h3⟩:=hp
   rw [h.len]
   have:=Zcz h1 h2
   omega
  refine ⟨h1.trans i1,fun y hy=>?_,fun u hu hle hs=>?_⟩
  ·rcases List.mem_cons.1 hy with rfl | hy
   ·refine Sub.trans ?_ (i1.le _)
    rw [Zro,Zk2 hin,if_pos rfl]
    exact Sub.r (h.ok _) hL
   ·exact i2 y hy
  ·refine i3 u hu ?_ fun y hy => hs y (List.mem_cons_of_mem _ hy)
   rw [Zro]
   exact Zom h.ok hL hle (hs z (List.mem_cons_self ..))
theorem Zlf {g:Yu5} {x:Int} {z:Int} (h:z ∈ ofL g x g.prods.length):Zla g z:=by
 obtain ⟨q,h1,h2,h3⟩:=Zmt.1 h
 exact ⟨q,0,h1,Nat.zero_le _,h3⟩
theorem wl_pop {g:Yu5} {s:Yu8} (hs:Ok s) {v0 v st:List Int} {p d:Nat} (hp:p < g.prods.length) (hd:d≤(Yvk g p).length) (h:Wl g s v0 (v,st++[((atN g p + d:Nat):Int)])) :
  Wl g s v0 (if (g.terms.length:Int)≤Yw5 g p d then adL (ofV s (behind g p d) (vx v (atN g p + d))) (v,st) (ofL g (Yw5 g p d - (g.terms.length:Int)) g.prods.length) else (v,st)):=by
 have hst:Stk g (v,st):=⟨h.st.len,h.st.ok,fun z hz=>h.st.pl z (List.mem_append_left _ hz),fun z hz=>h.st.nz z (List.mem_append_left _ hz)⟩
 have hn:=h.n
 have hn:(st++[((atN g p + d:Nat):Int)]).length + Zbp v≤64 * nN g:=hn
 rw [List.length_append,List.length_singleton] at hn
 by_cases hT:(g.terms.length:Int)≤Yw5 g p d
 ·rw [if_pos hT]
  have hd2:d < (Yvk g p).length:=by
   rcases Nat.lt_or_ge d (Yvk g p).length with h | h
   ·exact h
   ·unfold Yw5 at hT
    rw [if_neg (by omega)] at hT
    omega
  have hne:vx v (atN g p + d)≠0:=by
   have:=h.st.nz ((atN g p + d:Nat):Int) (List.mem_append_right _ (List.mem_singleton.2 rfl))
   rwa [Int.toNat_natCast] at this
  have hU:U (ofV s (behind g p d) (vx v (atN g p + d))):=ofV_U hs (h.st.ok _)
  obtain ⟨m1,m2,m3⟩:=Zq8 hU (ofL g (Yw5 g p d - (g.terms.length:Int)) g.prods.length) (fun z hz=>Zlf hz) (v,st) hst
  refine ⟨m1.st,h.le.trans m1.le,fun u k1 k2 k3=>m3 u k1 (h.low u k1 k2 k3) fun z hz=>?_,Nat.le_trans m1.n (by show st.length + Zbp v≤_; omega),fun p' d' hp' hd' hv=>?_⟩
  ·obtain ⟨q,q1,q2,q3⟩:=Zmt.1 hz
   rw [q3,Int.toNat_natCast]
   exact Zsg hs h.st.ok k1 k2 (h.low u k1 k2 k3) hp hd2 hne hT q1 (by omega)
  ·by_cases hin:((atN g p' + d':Nat):Int) ∈ (adL (ofV s (behind g p d) (vx v (atN g p + d))) (v,st) (ofL g (Yw5 g p d - (g.terms.length:Int)) g.prods.length)).2
   ·exact .inl hin
   ·right
    have he:vx (adL (ofV s (behind g p d) (vx v (atN g p + d))) (v,st) (ofL g (Yw5 g p d - (g.terms.length:Int)) g.prods.length)).1 (atN g p' + d')=vx v (atN g p' + d'):=by
     by_cases e:vx (adL (ofV s (behind g p d) (vx v (atN g p + d))) (v,st) (ofL g (Yw5 g p d - (g.terms.length:Int)) g.prods.length)).1 (atN g p' + d')=vx v (atN g p' + d')
     ·exact e
     ·exact absurd (m1.new _ e) hin
    rw [he] at hv
    have hrule:Zle g s v p' d'∨(((atN g p' + d':Nat):Int)=((atN g p + d:Nat):Int)):=by
     rcases h.rule p' d' hp' hd' hv with k | k
     ·rcases List.mem_append.1 k with k | k
      ·exact absurd (m1.keep _ k) hin
      ·exact .inr (List.mem_singleton.1 k)
     ·exact .inl k
    rcases hrule with k | k
    ·intro a1 a2 q a3 a4
     rw [he]
     exact (k hv a2 q a3 a4).trans (m1.le _)
    ·have hpd:p'=p∧d'=d:=by
      have e:atN g p' + d'=atN g p + d:=by omega
      rcases Nat.lt_trichotomy p' p with c | c | c
      ·have : atN g (p' + 1) ≤ atN g p := Zmd (by omega)
       rw [atN] at this
       omega
      ·subst c; exact ⟨rfl,by omega⟩
      ·have : atN g (p + 1) ≤ atN g p' := Zmd (by omega)
       rw [atN] at this
       omega
     obtain ⟨rfl,rfl⟩:=hpd
     intro a1 a2 q a3 a4
     rw [he]
     have:=m2 ((atN g q:Nat):Int) (Zmt.2 ⟨q,a3,by omega,rfl⟩)
     rwa [Int.toNat_natCast] at this
 ·rw [if_neg hT]
  refine ⟨hst,h.le,h.low,by show st.length + Zbp v≤_; omega,fun p' d' hp' hd' hv=>?_⟩
  rcases h.rule p' d' hp' hd' hv with k | k
  ·rcases List.mem_append.1 k with k | k
   ·exact .inl k
   ·right
    have k:=List.mem_singleton.1 k
    have hpd:p'=p∧d'=d:=by
     have e:atN g p' + d'=atN g p + d:=by omega
     rcases Nat.lt_trichotomy p' p with c | c | c
     ·have : atN g (p' + 1) ≤ atN g p := Zmd (by omega)
      rw [atN] at this
      omega
     ·subst c; exact ⟨rfl,by omega⟩
     ·have : atN g (p + 1) ≤ atN g p' := Zmd (by omega)
      rw [atN] at this
      omega
    obtain ⟨rfl,rfl⟩:=hpd
    exact fun _ a2=>absurd a2 hT
  ·exact .inr k
end Go.Proofs.YtadcichlnacagaaDoor.L
