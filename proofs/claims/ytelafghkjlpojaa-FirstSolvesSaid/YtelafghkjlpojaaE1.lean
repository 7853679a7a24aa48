/- The document's Nullable, First and Of answer as the program's. No condition. -/
import Derived.Test.YtelafghkjlpojaaEL
set_option linter.unusedVariables false
namespace Go.Proofs.Ytelafghkjlpojaa.L
open Go.Proofs.Ytelafghkjlpojaa.B Go.Proofs.Ytelafghkjlpojaa.R
theorem refRow {g:Yfz} (h:Lg g) {row:List Yg9} (hr:row.length < 2 ^ 60):Yl6 g row (Yog g row):=by
 unfold Yl6 Yog
 refine Yga.all row (Ypl g) (fun i hi hp=>?_) (fun i hi hp=>?_) ?_
 ·unfold Yit
  unfold Ypl at hp
  rw [Bool.and_eq_true,decide_eq_true_eq,decide_eq_true_eq] at hp
  rw [if_pos (by omega),Yhu hi,wA h,if_neg (by omega),if_neg (by omega),Yi9 (by omega)]
  exact ⟨by omega,rfl⟩
 ·unfold Yit
  unfold Ypl at hp
  rw [Bool.and_eq_false_iff,decide_eq_false_iff_not,decide_eq_false_iff_not] at hp
  rw [if_pos (by omega),Yhu hi,wA h]
  refine ⟨by omega,?_⟩
  by_cases h0:row[i].sym < 0
  ·rw [if_pos h0]
  ·rw [if_neg h0,if_pos (by omega)]
 ·unfold Yit
  rw [if_neg (by omega)]
theorem Ypm {g:Yfz} (h:Lg g):Yjo g (Yj6 g):=by
 have j1:∀ c:Bool,(c=false↔1≤g.terms.length∧g.terms.length≤64∧g.syms.length≤128)→Yie g c (Yj6 g):=fun c hc=>by
  unfold Yie Yj6
  cases c with
  | true =>
   rw [if_pos rfl]
   have h0:¬ (1≤g.terms.length∧g.terms.length≤64∧g.syms.length≤128):=fun g=>by have:=hc.2 g; cases this
   have:(decide (1≤g.terms.length) && decide (g.terms.length≤64) && decide (g.syms.length≤128))=false:=by
    rw [Bool.eq_false_iff]; intro h1
    simp only [Bool.and_eq_true,decide_eq_true_eq] at h1
    exact h0 ⟨h1.1.1,h1.1.2,h1.2⟩
   rw [this,Bool.false_and]
  | false =>
   obtain ⟨h1,h2,h3⟩:=hc.1 rfl
   rw [if_neg (by simp),decide_eq_true h1,decide_eq_true h2,decide_eq_true h3,Bool.true_and,Bool.true_and,Bool.true_and]
   refine Yga.all g.prods (Yne g) (fun i hi hp=>?_) (fun i hi hp=>?_) ?_
   ·have hlen:=h.r _ (List.getElem_mem hi)
    have hpn:=h.p
    unfold Yne at hp
    simp only [Bool.and_eq_true,decide_eq_true_eq] at hp
    unfold Yid
    rw [if_pos (by omega),Yhu hi,if_neg (by omega),if_neg (by omega),Yi9 (by omega)]
    refine ⟨by omega,_,refRow h hlen,?_⟩
    rw [hp.2,if_pos rfl]
   ·have hlen:=h.r _ (List.getElem_mem hi)
    unfold Yne at hp
    unfold Yid
    rw [if_pos (by omega),Yhu hi]
    refine ⟨by omega,?_⟩
    by_cases p1:g.prods[i].lhs < -1
    ·rw [if_pos p1]
    ·rw [if_neg p1]
     by_cases p2:g.prods[i].lhs≥(g.syms.length:Int)
     ·rw [if_pos p2]
     ·rw [if_neg p2]
      refine ⟨_,refRow h hlen,?_⟩
      rw [decide_eq_true (show -1≤g.prods[i].lhs by omega),decide_eq_true (show g.prods[i].lhs < (g.syms.length:Int) by omega),Bool.true_and,Bool.true_and] at hp
      rw [hp,if_neg (by simp)]
   ·unfold Yid
    rw [if_neg (by omega)]
 unfold Yjo
 by_cases h1:(g.terms.length:Int) < 1
 ·rw [if_pos h1]; exact j1 true ⟨fun h=>(by cases h),fun h=>by omega⟩
 ·rw [if_neg h1]
  by_cases h2:(g.terms.length:Int) > 64
  ·rw [if_pos h2]; exact j1 true ⟨fun h=>(by cases h),fun h=>by omega⟩
  ·rw [if_neg h2]
   refine j1 _ ?_
   rw [decide_eq_false_iff_not]
   omega
def Ys2 (f:Int→Bool) (row:List Yg9):Bool:=row.all fun r=>f r.sym
theorem Ypn {s:Yg0}:∀ (row:List Yg9) (out:Int),(ofS s row out).2=Ys2 s.vanishes row
 | [],out=>rfl
 | r :: l,out=>by
  unfold Ys2
  rw [List.all_cons]
  cases h:s.vanishes r.sym with
  | true=>rw [Yod h,Ypn l]; rfl
  | false=>rw [Yni h]; rfl
theorem goes_ok {known:List Bool} {row:List Yg9} (hr:row.length < 2 ^ 60) (hk:∀ r ∈ row,0≤r.sym∧r.sym < (known.length:Int)):Yku known row (Ys2 (ix known) row):=by
 unfold Yku Ys2
 refine Yga.all row (fun r=>ix known r.sym) (fun i hi hp=>?_) (fun i hi hp=>?_) ?_
 ·have:=hk _ (List.getElem_mem hi)
  unfold Yik
  rw [if_pos (by omega),Yhu hi,Yi9 (by omega),hp,if_pos rfl]
  exact ⟨by omega,by omega,rfl⟩
 ·have:=hk _ (List.getElem_mem hi)
  unfold Yik
  rw [if_pos (by omega),Yhu hi,hp,if_neg (by simp)]
  exact ⟨by omega,by omega,rfl⟩
 ·unfold Yik
  rw [if_neg (by omega)]
def Ymg (g:Yfz) (known:List Bool) (p:Yg8):List Bool:=if 0≤p.lhs∧Ys2 (ix known) p.rhs=true then known.set (xOf g p).toNat true else known
def Ylp (g:Yfz) (known:List Bool) (l:List Yg8):List Bool:=l.foldl (Ymg g) known
def itN (g:Yfz):Nat→List Bool
 | 0=>List.replicate (nA g) false
 | k + 1=>Ylp g (itN g k) g.prods
def ClN (g:Yfz) (known:List Bool):Prop:=∀ p ∈ g.prods,0≤p.lhs→Ys2 (ix known) p.rhs=true→ix known (xOf g p)=true
def LeN (a b:List Bool):Prop:=∀ j:Int,ix a j=true→ix b j=true
theorem Ysf (g:Yfz) (known:List Bool) (p:Yg8):(Ymg g known p).length=known.length:=by unfold Ymg; split <;> simp
theorem Yq4 (g:Yfz):∀ (l:List Yg8) (known:List Bool),(Ylp g known l).length=known.length
 | [],_=>rfl
 | p :: l,known=>by
  show (Ylp g (Ymg g known p) l).length=_
  rw [Yq4 g l,Ysf]
theorem Ynh (g:Yfz):∀ k,(itN g k).length=nA g
 | 0=>List.length_replicate
 | k + 1=>by rw [itN,Yq4,Ynh g k]
theorem Yr3 {l:List Bool} {i:Nat} (j:Int) (h:ix l j=true):ix (l.set i true) j=true:=by
 unfold ix at h ⊢
 rw [List.getD_eq_getElem?_getD] at h ⊢
 rw [List.getElem?_set]
 by_cases e:i=j.toNat
 ·rw [if_pos e]
  by_cases h1:i < l.length
  ·rw [if_pos h1]; rfl
  ·rw [List.getElem?_eq_none (by omega)] at h; exact absurd h (by decide)
 ·rw [if_neg e]; exact h
theorem ix_inB {l:List Bool} {j:Int} (h:ix l j=true):j.toNat < l.length:=by
 unfold ix at h
 rw [List.getD_eq_getElem?_getD] at h
 rcases Nat.lt_or_ge j.toNat l.length with h1 | h1
 ·exact h1
 ·rw [List.getElem?_eq_none h1] at h
  exact absurd h (by decide)
theorem Yri {l:List Bool} {i:Nat} (h:i < l.length) {j:Int} (hj:j.toNat=i):ix (l.set i true) j=true:=by
 unfold ix
 rw [List.getD_eq_getElem?_getD,hj,List.getElem?_set_self h]
 rfl
theorem Yre {l:List Bool} {i:Nat} {v:Bool} {j:Int} (hj:j.toNat≠i):ix (l.set i v) j=ix l j:=by
 unfold ix
 rw [List.getD_eq_getElem?_getD,List.getD_eq_getElem?_getD,List.getElem?_set_ne (fun e=>hj e.symm)]
theorem LeN.refl (a:List Bool):LeN a a:=fun _ h=>h
theorem LeN.trans {a b c:List Bool} (h:LeN a b) (k:LeN b c):LeN a c:=fun j hj=>k j (h j hj)
theorem Yrc (g:Yfz) (known:List Bool) (p:Yg8):LeN known (Ymg g known p):=fun j h=>by
 unfold Ymg
 split
 ·exact Yr3 j h
 ·exact h
theorem Yu1 (g:Yfz):∀ (l:List Yg8) (known:List Bool),LeN known (Ylp g known l)
 | [],_=>LeN.refl _
 | p :: l,known=>(Yrc g known p).trans (Yu1 g l (Ymg g known p))
theorem LeN.anti {a b:List Bool} (hl:a.length=b.length) (h:LeN a b) (k:LeN b a):a=b:=by
 apply List.ext_getElem hl
 intro i h1 h2
 have e1:=h (i:Int)
 have e2:=k (i:Int)
 rw [Yhu h1,Yhu h2] at e1 e2
 cases ha:a[i] <;> cases hb:b[i] <;> simp_all
theorem Ys7 {g:Yfz} {known:List Bool} (hn:known.length=nA g):∀ (l:List Yg8) (u:List Bool),u.length=known.length→LeN known u→Ylp g u l=known→(∀ p ∈ l,0≤p.lhs→(xOf g p).toNat < nA g)→u=known∧∀ p ∈ l,0≤p.lhs→Ys2 (ix known) p.rhs=true→ix known (xOf g p)=true
 | [],u,_,_,h,_=>⟨h,fun p hp=>by cases hp⟩
 | p :: l,u,hl,hu,h,hx=>by
  have h':Ylp g (Ymg g u p) l=known:=h
  obtain ⟨e1,e2⟩:=Ys7 hn l (Ymg g u p) (by rw [Ysf,hl]) (hu.trans (Yrc g u p)) h' (fun q hq=>hx q (List.mem_cons_of_mem _ hq))
  have e3:u=known:=LeN.anti hl (e1 ▸ Yrc g u p) hu
  refine ⟨e3,fun q hq h0 hv=>?_⟩
  rcases List.mem_cons.1 hq with rfl | hq
  ·rw [← e1]
   unfold Ymg
   rw [e3,if_pos ⟨h0,hv⟩]
   exact Yri (by rw [hn]; exact hx q (List.mem_cons_self ..) h0) rfl
  ·exact e2 q hq h0 hv
def lack (g:Yfz) (known:List Bool):Nat:=(known.drop g.terms.length).count false
theorem Ytm {a b:List Bool} (hl:a.length=b.length) (h:∀ i (h1:i < a.length) (h2:i < b.length),a[i]=true→b[i]=true):b.count false≤a.count false∧(b.count false=a.count false→a=b):=by
 induction a generalizing b with
 | nil =>
  cases b with
  | nil=>exact ⟨Nat.le_refl _,fun _=>rfl⟩
  | cons y b=>simp at hl
 | cons x a ih =>
  cases b with
  | nil=>simp at hl
  | cons y b =>
   obtain ⟨i1,i2⟩:=ih (b:=b) (by simpa using hl) (fun i h1 h2 hx=>by have:=h (i + 1) (by simpa using h1) (by simpa using h2) (by simpa using hx); simpa using this)
   have h0:=h 0 (by simp) (by simp)
   simp only [List.getElem_cons_zero] at h0
   cases x <;> cases y
   ·simp only [List.count_cons_self]
    exact ⟨by omega,fun e=>by rw [i2 (by omega)]⟩
   ·simp only [List.count_cons_self, List.count_cons_of_ne (show (true : Bool) ≠ false by decide)]
    exact ⟨by omega,fun e=>by omega⟩
   ·exact absurd (h0 rfl) (by decide)
   ·simp only [List.count_cons_of_ne (show (true : Bool) ≠ false by decide)]
    exact ⟨i1,fun e=>by rw [i2 e]⟩
theorem lack_le {g:Yfz} {a b:List Bool} (hl:a.length=b.length) (h:LeN a b):lack g b≤lack g a∧(lack g b=lack g a→a.drop g.terms.length=b.drop g.terms.length) :=
 Ytm (by rw [List.length_drop,List.length_drop,hl]) fun i h1 h2 hx=>by
  rw [List.getElem_drop] at hx ⊢
  have:=h ((g.terms.length + i:Nat):Int)
  rw [List.length_drop] at h1 h2
  rw [Yhu (by omega),Yhu (by omega)] at this
  exact this hx
theorem Yr9 {g:Yfz}:∀ (l:List Yg8) (u:List Bool),(Ylp g u l).take g.terms.length=u.take g.terms.length
 | [],_=>rfl
 | p :: l,u=>by
  show (Ylp g (Ymg g u p) l).take _=_
  rw [Yr9 l]
  unfold Ymg
  split
  ·rename_i h
   rw [List.take_set_of_le]
   unfold xOf
   omega
  ·rfl
theorem Yrt {g:Yfz} (hg:Yj6 g=true):∀ k,ClN g (itN g k)∨lack g (itN g k) + k≤g.syms.length
 | 0=>.inr (by
  unfold lack itN nA
  rw [List.drop_replicate,List.count_replicate_self]
  omega)
 | k + 1=>by
  have hx:∀ p ∈ g.prods,0≤p.lhs→(xOf g p).toNat < nA g:=fun p hp h0=>by
   have:=(Ymi hg hp).2.1
   unfold xOf nA; omega
  rcases Yrt hg k with h | h
  ·left
   have e:∀ (l:List Yg8),(∀ p ∈ l,p ∈ g.prods)→Ylp g (itN g k) l=itN g k:=fun l=>by
    induction l with
    | nil=>intro _; rfl
    | cons p l ih =>
     intro hl
     have hs:Ymg g (itN g k) p=itN g k:=by
      unfold Ymg
      split
      ·rename_i hc
       have:=h p (hl p (List.mem_cons_self ..)) hc.1 hc.2
       refine LeN.anti (by rw [List.length_set]) (fun j hj=>?_) (fun j hj=>Yr3 j hj)
       by_cases ej:j.toNat=(xOf g p).toNat
       ·have:ix (itN g k) j=ix (itN g k) (xOf g p):=by unfold ix; rw [ej]
        rw [this]; assumption
       ·rwa [Yre ej] at hj
      ·rfl
     show Ylp g (Ymg g (itN g k) p) l=_
     rw [hs]
     exact ih fun q hq=>hl q (List.mem_cons_of_mem _ hq)
   show ClN g (Ylp g (itN g k) g.prods)
   rw [e g.prods fun p hp=>hp]
   exact h
  ·obtain ⟨l1, l2⟩ := lack_le (g := g) (a := itN g k) (b := itN g (k + 1)) (by rw [Ynh, Ynh]) (Yu1 g g.prods (itN g k))
   by_cases e:lack g (itN g (k + 1))=lack g (itN g k)
   ·left
    have e1:=l2 e
    have e2:(itN g (k + 1)).take g.terms.length=(itN g k).take g.terms.length:=Yr9 g.prods (itN g k)
    have e3:Ylp g (itN g k) g.prods=itN g k:=by
     show itN g (k + 1)=itN g k
     rw [← List.take_append_drop g.terms.length (itN g (k + 1)),e2,← e1,List.take_append_drop]
    obtain ⟨_,h2⟩:=Ys7 (Ynh g k) g.prods (itN g k) rfl (LeN.refl _) e3 hx
    show ClN g (Ylp g (itN g k) g.prods)
    rw [e3]
    exact fun p hp=>h2 p hp
   ·right; omega
theorem itN_all {g:Yfz} (hg:Yj6 g=true):ClN g (itN g g.syms.length):=by
 rcases Yrt hg g.syms.length with h | h
 ·exact h
 ·intro p hp h0 _
  have h1:lack g (itN g g.syms.length)=0:=by omega
  unfold lack at h1
  rw [List.count_eq_zero] at h1
  have h2:=(Ymi hg hp).2.1
  have hlt:(xOf g p).toNat < (itN g g.syms.length).length:=by rw [Ynh]; unfold xOf nA; omega
  have hx:((xOf g p).toNat:Int)=xOf g p:=by unfold xOf; omega
  rw [← hx,Yhu hlt]
  cases hv:(itN g g.syms.length)[(xOf g p).toNat] with
  | true=>rfl
  | false =>
   exfalso
   apply h1
   rw [List.mem_iff_getElem]
   refine ⟨(xOf g p).toNat - g.terms.length,by rw [List.length_drop]; unfold xOf at hlt ⊢; omega,?_⟩
   rw [List.getElem_drop,← hv]
   congr 1
   unfold xOf; omega
theorem Yv2 {g:Yfz} (hg:Yj6 g=true) {s:Yg0} (hs:Yrh g s):∀ k (j:Int),0≤j→ix (itN g k) j=true→s.vanishes j=true:=by
 have pas:∀ (l:List Yg8) (u:List Bool),(∀ p ∈ l,p ∈ g.prods)→(∀ j:Int,0≤j→ix u j=true→s.vanishes j=true)→∀ j:Int,0≤j→ix (Ylp g u l) j=true→s.vanishes j=true:=fun l=>by
  induction l with
  | nil=>intro u _ h; exact h
  | cons p l ih =>
   intro u hl h
   refine ih (Ymg g u p) (fun q hq=>hl q (List.mem_cons_of_mem _ hq)) fun j hj hv=>?_
   unfold Ymg at hv
   split at hv
   ·rename_i hc
    by_cases e:j.toNat=(xOf g p).toNat
    ·have hxj:j=xOf g p:=by unfold xOf at e ⊢; omega
     have hcl:=hs.cl p (hl p (List.mem_cons_self ..)) hc.1
     rw [hxj]
     refine hcl.2 ?_
     rw [Ypn]
     unfold Ys2 at hc ⊢
     rw [List.all_eq_true] at hc ⊢
     intro r hr
     have h3:=hc.2 r hr
     exact h r.sym (Ymm (Ymi hg (hl p (List.mem_cons_self ..))).2.2 hr).1 h3
    ·rw [Yre e] at hv
     exact h j hj hv
   ·exact h j hj hv
 intro k
 induction k with
 | zero =>
  intro j hj h
  unfold itN at h
  have hlt:=ix_inB h
  rw [List.length_replicate] at hlt
  have:ix (List.replicate (nA g) false) ((j.toNat:Nat):Int)=true:=by rwa [Int.toNat_of_nonneg hj]
  rw [Yhu (by rw [List.length_replicate]; exact hlt),List.getElem_replicate] at this
  cases this
 | succ k ih=>exact pas g.prods (itN g k) (fun p hp=>hp) ih
def topS (known:List Bool):Yg0:=⟨fun _=>18446744073709551615,fun j=>decide (0≤j) && ix known j⟩
theorem top_U:U 18446744073709551615:=⟨by omega,by omega⟩
theorem Yus {t:Nat} (h:t < 64):has 18446744073709551615 t=true:=by
 show (18446744073709551615:Int).toNat.testBit t=true
 have:(18446744073709551615:Int).toNat=2 ^ 64 - 1:=by decide
 rw [this,Nat.testBit_two_pow_sub_one]
 simpa using h
theorem Yv8 {g:Yfz} (hg:Yj6 g=true) {s:Yg0} (hs:Yrh g s) {known:List Bool} (hk:ClN g known) {j:Int} (hv:s.vanishes j=true):ix known j=true:=by
 have hT:=(Yl1 hg).2.1
 have:=hs.least (topS known) (fun _=>top_U) (fun t ht=>Yus (by omega)) (fun p hp h0=>⟨fun t ht=>Yus (has_lt (Yqp (s:=topS known) (fun _=>top_U) U.zero) ht),fun hv=>?_⟩)
 ·have h1:=(this j).2 hv
  unfold topS at h1
  simp only [Bool.and_eq_true] at h1
  exact h1.2
 ·rw [Ypn] at hv
  have h2:=hk p hp h0 (by
   unfold Ys2 at hv ⊢
   rw [List.all_eq_true] at hv ⊢
   intro r hr
   have h3:=hv r hr
   unfold topS at h3
   simp only [Bool.and_eq_true] at h3
   exact h3.2)
  show (decide (0≤xOf g p) && ix known (xOf g p))=true
  rw [h2,decide_eq_true (by unfold xOf; omega)]
  rfl
theorem itN_eq {g:Yfz} (hg:Yj6 g=true) {s:Yg0} (hs:Yrh g s):itN g g.syms.length=Yjd g s:=by
 apply List.ext_getElem
 ·rw [Ynh]; simp [Yjd]
 ·intro i h1 h2
  have hi:i < nA g:=by rwa [Ynh] at h1
  have e1:ix (Yjd g s) (i:Int)=s.vanishes (i:Int):=Yuy hi
  rw [Yhu h2] at e1
  have e2:ix (itN g g.syms.length) (i:Int)=(itN g g.syms.length)[i]:=Yhu h1
  rw [e1,← e2]
  cases hv:s.vanishes (i:Int) with
  | true=>exact Yv8 hg hs (itN_all hg) hv
  | false =>
   cases h:ix (itN g g.syms.length) (i:Int) with
   | false=>rfl
   | true=>rw [Yv2 hg hs _ _ (by omega) h] at hv; cases hv
theorem Yql {g:Yfz} (hl:Lg g) (hg:Yj6 g=true) {s:Yg0} (hs:Yrh g s):Yi1 g (Yjd g s):=by
 obtain ⟨hT1,hT2,hS⟩:=Yl1 hg
 have hpn:=hl.p
 refine ⟨true,hg ▸ Ypm hl,?_⟩
 rw [if_pos rfl,wN hl]
 have hnA:nA g≤192:=by unfold nA; omega
 refine ⟨by omega,_,rfl,?_⟩
 rw [Int.toNat_natCast,← itN_eq hg hs]
 have key:=Yga.upto (B:=fun (s:(List Bool) × Int) o=>Yh8 g s.1 s.2 o) (r:=itN g g.syms.length) (fun j=>(itN g j,(j:Int))) g.syms.length (fun i hi=>?_) ?_
 ·exact key
 ·show Yh8 g (itN g i) (i:Int) _
  unfold Yh8
  rw [if_pos (by omega)]
  have k2:=Yga.upto (B:=fun (s:(List Bool) × Int) o=>Yh7 g (i:Int) s.1 s.2 o) (r:=(.inl (itN g (i + 1),((i + 1:Nat):Int)):Sum ((List Bool) × Int) (List Bool))) (fun j=>(Ylp g (itN g i) (g.prods.take j),(j:Int))) g.prods.length (fun j hj=>?_) ?_
  ·exact k2
  ·have hpm:=List.getElem_mem hj
   obtain ⟨p1,p2,p3⟩:=Ymi hg hpm
   have hlen:(Ylp g (itN g i) (g.prods.take j)).length=nA g:=by rw [Yq4,Ynh]
   have hnx:Ylp g (itN g i) (g.prods.take (j + 1))=Ymg g (Ylp g (itN g i) (g.prods.take j)) g.prods[j]:=by
    unfold Ylp
    rw [List.take_succ_eq_append_getElem hj,List.foldl_append]
    rfl
   show Yh7 g (i:Int) (Ylp g (itN g i) (g.prods.take j)) (j:Int) _
   rw [hnx]
   unfold Yh7 Ymg
   have ew:w64 ((g.terms.length:Int) + g.prods[j].lhs)=xOf g g.prods[j]:=by unfold xOf; exact Ylg (by omega)
   rw [if_pos (by omega),Yhu hj,Yi9 (by omega),ew]
   refine ⟨by omega,?_⟩
   by_cases h0:0≤g.prods[j].lhs
   ·rw [if_pos (show g.prods[j].lhs≥0 from h0)]
    refine ⟨_,goes_ok (hl.r _ hpm) (fun r hr=>by rw [hlen]; have:=Ymm p3 hr; unfold nA; omega),?_⟩
    cases hv:Ys2 (ix (Ylp g (itN g i) (g.prods.take j))) g.prods[j].rhs with
    | true =>
     rw [if_pos rfl,if_pos ⟨h0,rfl⟩]
     refine ⟨by rw [hlen]; unfold xOf nA; omega,_,rfl,rfl⟩
    | false =>
     rw [if_neg (by simp),if_neg (by simp)]
     rfl
   ·rw [if_neg (show ¬ g.prods[j].lhs ≥ 0 from h0), if_neg (fun h => h0 h.1)]
    rfl
  ·show Yh7 g (i:Int) (Ylp g (itN g i) (g.prods.take g.prods.length)) (g.prods.length:Int) _
   unfold Yh7
   rw [if_neg (by omega),List.take_length,Yi9 (by omega)]
   rfl
 ·show Yh8 g (itN g g.syms.length) (g.syms.length:Int) _
  unfold Yh8
  rw [if_neg (by omega)]
theorem Yrp {g:Yfz} (hl:Lg g) (hg:Yj6 g=false):Yi1 g []:=by
 refine ⟨false,hg ▸ Ypm hl,?_⟩
 rw [if_neg (by simp)]
end Go.Proofs.Ytelafghkjlpojaa.L
