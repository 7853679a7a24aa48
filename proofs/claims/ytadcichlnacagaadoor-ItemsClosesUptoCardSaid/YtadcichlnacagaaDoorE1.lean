/- The document's Nullable, First and Of answer as the program's. No condition. -/
import Derived.Test.YtadcichlnacagaaDoorEL
set_option linter.unusedVariables false
namespace Go.Proofs.YtadcichlnacagaaDoor.L
open Go.Proofs.YtadcichlnacagaaDoor.B Go.Proofs.YtadcichlnacagaaDoor.R
theorem refRow {g:Yu5} (h:Lg g) {row:List Yut} (hr:row.length < 2 ^ 60):Zc6 g row (Zhf g row):=by
 unfold Zc6 Zhf
 refine Yui.all row (Zjr g) (fun i hi hp=>?_) (fun i hi hp=>?_) ?_
 ·unfold Yyu
  unfold Zjr at hp
  rw [Bool.and_eq_true,decide_eq_true_eq,decide_eq_true_eq] at hp
  rw [if_pos (by omega),Yvv hi,wA h,if_neg (by omega),if_neg (by omega),Yw3 (by omega)]
  exact ⟨by omega,rfl⟩
 ·unfold Yyu
  unfold Zjr at hp
  rw [Bool.and_eq_false_iff,decide_eq_false_iff_not,decide_eq_false_iff_not] at hp
  rw [if_pos (by omega),Yvv hi,wA h]
  refine ⟨by omega,?_⟩
  by_cases h0:row[i].sym < 0
  ·rw [if_pos h0]
  ·rw [if_neg h0,if_pos (by omega)]
 ·unfold Yyu
  rw [if_neg (by omega)]
theorem Zqi {g:Yu5} (h:Lg g):Za1 g (Yzm g):=by
 have j1:∀ c:Bool,(c=false↔1≤g.terms.length∧g.terms.length≤64∧g.syms.length≤128)→Yy8 g c (Yzm g):=fun c hc=>by
  unfold Yy8 Yzm
  cases c with
  | true =>
   rw [if_pos rfl]
   have h0:¬ (1≤g.terms.length∧g.terms.length≤64∧g.syms.length≤128):=fun g=>by have:=hc.2 g; cases this
   have:(decide (1≤g.terms.length) && decide (g.terms.length≤64) && decide (g.syms.length≤128))=false:=by
    rw [Bool.eq_false_iff]; intro h1
    simp only [Bool.and_eq_true,decide_eq_true_eq] at h1
    exact h0 ⟨h1.1.1,h1.1.2,h1.2⟩
   rw [this,Bool.false_and]
  | false =>
   obtain ⟨h1,h2,h3⟩:=hc.1 rfl
   rw [if_neg (by simp),decide_eq_true h1,decide_eq_true h2,decide_eq_true h3,Bool.true_and,Bool.true_and,Bool.true_and]
   refine Yui.all g.prods (Zg0 g) (fun i hi hp=>?_) (fun i hi hp=>?_) ?_
   ·have hlen:=h.r _ (List.getElem_mem hi)
    have hpn:=h.p
    unfold Zg0 at hp
    simp only [Bool.and_eq_true,decide_eq_true_eq] at hp
    unfold Yy7
    rw [if_pos (by omega),Yvv hi,if_neg (by omega),if_neg (by omega),Yw3 (by omega)]
    refine ⟨by omega,_,refRow h hlen,?_⟩
    rw [hp.2,if_pos rfl]
   ·have hlen:=h.r _ (List.getElem_mem hi)
    unfold Zg0 at hp
    unfold Yy7
    rw [if_pos (by omega),Yvv hi]
    refine ⟨by omega,?_⟩
    by_cases p1:g.prods[i].lhs < -1
    ·rw [if_pos p1]
    ·rw [if_neg p1]
     by_cases p2:g.prods[i].lhs≥(g.syms.length:Int)
     ·rw [if_pos p2]
     ·rw [if_neg p2]
      refine ⟨_,refRow h hlen,?_⟩
      rw [decide_eq_true (show -1≤g.prods[i].lhs by omega),decide_eq_true (show g.prods[i].lhs < (g.syms.length:Int) by omega),Bool.true_and,Bool.true_and] at hp
      rw [hp,if_neg (by simp)]
   ·unfold Yy7
    rw [if_neg (by omega)]
 unfold Za1
 by_cases h1:(g.terms.length:Int) < 1
 ·rw [if_pos h1]; exact j1 true ⟨fun h=>(by cases h),fun h=>by omega⟩
 ·rw [if_neg h1]
  by_cases h2:(g.terms.length:Int) > 64
  ·rw [if_pos h2]; exact j1 true ⟨fun h=>(by cases h),fun h=>by omega⟩
  ·rw [if_neg h2]
   refine j1 _ ?_
   rw [decide_eq_false_iff_not]
   omega
def Zn9 (f:Int→Bool) (row:List Yut):Bool:=row.all fun r=>f r.sym
theorem Zig {s:Yu8}:∀ (row:List Yut) (out:Int),(ofS s row out).2=Zn9 s.vanishes row
 | [],out=>rfl
 | r :: l,out=>by
  unfold Zn9
  rw [List.all_cons]
  cases h:s.vanishes r.sym with
  | true=>rw [Zhd h,Zig l]; rfl
  | false=>rw [Zg3 h]; rfl
theorem goes_ok {known:List Bool} {row:List Yut} (hr:row.length < 2 ^ 60) (hk:∀ r ∈ row,0≤r.sym∧r.sym < (known.length:Int)):Zbj known row (Zn9 (ix known) row):=by
 unfold Zbj Zn9
 refine Yui.all row (fun r=>ix known r.sym) (fun i hi hp=>?_) (fun i hi hp=>?_) ?_
 ·have:=hk _ (List.getElem_mem hi)
  unfold Yyk
  rw [if_pos (by omega),Yvv hi,Yw3 (by omega),hp,if_pos rfl]
  exact ⟨by omega,by omega,rfl⟩
 ·have:=hk _ (List.getElem_mem hi)
  unfold Yyk
  rw [if_pos (by omega),Yvv hi,hp,if_neg (by simp)]
  exact ⟨by omega,by omega,rfl⟩
 ·unfold Yyk
  rw [if_neg (by omega)]
def Zf1 (g:Yu5) (known:List Bool) (p:Yuf):List Bool:=if 0≤p.lhs∧Zn9 (ix known) p.rhs=true then known.set (xOf g p).toNat true else known
def Zdo (g:Yu5) (known:List Bool) (l:List Yuf):List Bool:=l.foldl (Zf1 g) known
def itN (g:Yu5):Nat→List Bool
 | 0=>List.replicate (nA g) false
 | k + 1=>Zdo g (itN g k) g.prods
def ClN (g:Yu5) (known:List Bool):Prop:=∀ p ∈ g.prods,0≤p.lhs→Zn9 (ix known) p.rhs=true→ix known (xOf g p)=true
def LeN (a b:List Bool):Prop:=∀ j:Int,ix a j=true→ix b j=true
theorem Zoo (g:Yu5) (known:List Bool) (p:Yuf):(Zf1 g known p).length=known.length:=by unfold Zf1; split <;> simp
theorem Zlp (g:Yu5):∀ (l:List Yuf) (known:List Bool),(Zdo g known l).length=known.length
 | [],_=>rfl
 | p :: l,known=>by
  show (Zdo g (Zf1 g known p) l).length=_
  rw [Zlp g l,Zoo]
theorem Zgx (g:Yu5):∀ k,(itN g k).length=nA g
 | 0=>List.length_replicate
 | k + 1=>by rw [itN,Zlp,Zgx g k]
theorem Zmw {l:List Bool} {i:Nat} (j:Int) (h:ix l j=true):ix (l.set i true) j=true:=by
 unfold ix at h ⊢
 rw [List.getD_eq_getElem?_getD] at h ⊢
 rw [List.getElem?_set]
 by_cases e:i=j.toNat
 ·rw [if_pos e]
  by_cases h1:i < l.length
  ·rw [if_pos h1]; rfl
  ·rw [List.getElem?_eq_none (by omega)] at h; exact absurd h (by decide)
 ·rw [if_neg e]; exact h
theorem ix_inB {l:List Bool} {j:Int} (h:ix l j=true):j.toNat < l.length:=by
 unfold ix at h
 rw [List.getD_eq_getElem?_getD] at h
 rcases Nat.lt_or_ge j.toNat l.length with h1 | h1
 ·exact h1
 ·rw [List.getElem?_eq_none h1] at h
  exact absurd h (by decide)
theorem Znz {l:List Bool} {i:Nat} (h:i < l.length) {j:Int} (hj:j.toNat=i):ix (l.set i true) j=true:=by
 unfold ix
 rw [List.getD_eq_getElem?_getD,hj,List.getElem?_set_self h]
 rfl
theorem Znt {l:List Bool} {i:Nat} {v:Bool} {j:Int} (hj:j.toNat≠i):ix (l.set i v) j=ix l j:=by
 unfold ix
 rw [List.getD_eq_getElem?_getD,List.getD_eq_getElem?_getD,List.getElem?_set_ne (fun e=>hj e.symm)]
theorem LeN.refl (a:List Bool):LeN a a:=fun _ h=>h
theorem LeN.trans {a b c:List Bool} (h:LeN a b) (k:LeN b c):LeN a c:=fun j hj=>k j (h j hj)
theorem Zn6 (g:Yu5) (known:List Bool) (p:Yuf):LeN known (Zf1 g known p):=fun j h=>by
 unfold Zf1
 split
 ·exact Zmw j h
 ·exact h
theorem Zr0 (g:Yu5):∀ (l:List Yuf) (known:List Bool),LeN known (Zdo g known l)
 | [],_=>LeN.refl _
 | p :: l,known=>(Zn6 g known p).trans (Zr0 g l (Zf1 g known p))
theorem LeN.anti {a b:List Bool} (hl:a.length=b.length) (h:LeN a b) (k:LeN b a):a=b:=by
 apply List.ext_getElem hl
 intro i h1 h2
 have e1:=h (i:Int)
 have e2:=k (i:Int)
 rw [Yvv h1,Yvv h2] at e1 e2
 cases ha:a[i] <;> cases hb:b[i] <;> simp_all
theorem Zpc {g:Yu5} {known:List Bool} (hn:known.length=nA g):∀ (l:List Yuf) (u:List Bool),u.length=known.length→LeN known u→Zdo g u l=known→(∀ p ∈ l,0≤p.lhs→(xOf g p).toNat < nA g)→u=known∧∀ p ∈ l,0≤p.lhs→Zn9 (ix known) p.rhs=true→ix known (xOf g p)=true
 | [],u,_,_,h,_=>⟨h,fun p hp=>by cases hp⟩
 | p :: l,u,hl,hu,h,hx=>by
  have h':Zdo g (Zf1 g u p) l=known:=h
  obtain ⟨e1,e2⟩:=Zpc hn l (Zf1 g u p) (by rw [Zoo,hl]) (hu.trans (Zn6 g u p)) h' (fun q hq=>hx q (List.mem_cons_of_mem _ hq))
  have e3:u=known:=LeN.anti hl (e1 ▸ Zn6 g u p) hu
  refine ⟨e3,fun q hq h0 hv=>?_⟩
  rcases List.mem_cons.1 hq with rfl | hq
  ·rw [← e1]
   unfold Zf1
   rw [e3,if_pos ⟨h0,hv⟩]
   exact Znz (by rw [hn]; exact hx q (List.mem_cons_self ..) h0) rfl
  ·exact e2 q hq h0 hv
def lack (g:Yu5) (known:List Bool):Nat:=(known.drop g.terms.length).count false
theorem Zqt {a b:List Bool} (hl:a.length=b.length) (h:∀ i (h1:i < a.length) (h2:i < b.length),a[i]=true→b[i]=true):b.count false≤a.count false∧(b.count false=a.count false→a=b):=by
 induction a generalizing b with
 | nil =>
  cases b with
  | nil=>exact ⟨Nat.le_refl _,fun _=>rfl⟩
  | cons y b=>simp at hl
 | cons x a ih =>
  cases b with
  | nil=>simp at hl
  | cons y b =>
   obtain ⟨i1,i2⟩:=ih (b:=b) (by simpa using hl) (fun i h1 h2 hx=>by have:=h (i + 1) (by simpa using h1) (by simpa using h2) (by simpa using hx); simpa using this)
   have h0:=h 0 (by simp) (by simp)
   simp only [List.getElem_cons_zero] at h0
   cases x <;> cases y
   ·simp only [List.count_cons_self]
    exact ⟨by omega,fun e=>by rw [i2 (by omega)]⟩
   ·simp only [List.count_cons_self, List.count_cons_of_ne (show (true : Bool) ≠ false by decide)]
    exact ⟨by omega,fun e=>by omega⟩
   ·exact absurd (h0 rfl) (by decide)
   ·simp only [List.count_cons_of_ne (show (true : Bool) ≠ false by decide)]
    exact ⟨i1,fun e=>by rw [i2 e]⟩
theorem lack_le {g:Yu5} {a b:List Bool} (hl:a.length=b.length) (h:LeN a b):lack g b≤lack g a∧(lack g b=lack g a→a.drop g.terms.length=b.drop g.terms.length) :=
 Zqt (by rw [List.length_drop,List.length_drop,hl]) fun i h1 h2 hx=>by
  rw [List.getElem_drop] at hx ⊢
  have:=h ((g.terms.length + i:Nat):Int)
  rw [List.length_drop] at h1 h2
  rw [Yvv (by omega),Yvv (by omega)] at this
  exact this hx
theorem Znv {g:Yu5}:∀ (l:List Yuf) (u:List Bool),(Zdo g u l).take g.terms.length=u.take g.terms.length
 | [],_=>rfl
 | p :: l,u=>by
  show (Zdo g (Zf1 g u p) l).take _=_
  rw [Znv l]
  unfold Zf1
  split
  ·rename_i h
   rw [List.take_set_of_le]
   unfold xOf
   omega
  ·rfl
theorem Zn2 {g:Yu5} (hg:Yzm g=true):∀ k,ClN g (itN g k)∨lack g (itN g k) + k≤g.syms.length
 | 0=>.inr (by
  unfold lack itN nA
  rw [List.drop_replicate,List.count_replicate_self]
  omega)
 | k + 1=>by
  have hx:∀ p ∈ g.prods,0≤p.lhs→(xOf g p).toNat < nA g:=fun p hp h0=>by
   have:=(Zeu hg hp).2.1
   unfold xOf nA; omega
  rcases Zn2 hg k with h | h
  ·left
   have e:∀ (l:List Yuf),(∀ p ∈ l,p ∈ g.prods)→Zdo g (itN g k) l=itN g k:=fun l=>by
    induction l with
    | nil=>intro _; rfl
    | cons p l ih =>
     intro hl
     have hs:Zf1 g (itN g k) p=itN g k:=by
      unfold Zf1
      split
      ·rename_i hc
       have:=h p (hl p (List.mem_cons_self ..)) hc.1 hc.2
       refine LeN.anti (by rw [List.length_set]) (fun j hj=>?_) (fun j hj=>Zmw j hj)
       by_cases ej:j.toNat=(xOf g p).toNat
       ·have:ix (itN g k) j=ix (itN g k) (xOf g p):=by unfold ix; rw [ej]
        rw [this]; assumption
       ·rwa [Znt ej] at hj
      ·rfl
     show Zdo g (Zf1 g (itN g k) p) l=_
     rw [hs]
     exact ih fun q hq=>hl q (List.mem_cons_of_mem _ hq)
   show ClN g (Zdo g (itN g k) g.prods)
   rw [e g.prods fun p hp=>hp]
   exact h
  ·obtain ⟨l1, l2⟩ := lack_le (g := g) (a := itN g k) (b := itN g (k + 1)) (by rw [Zgx, Zgx]) (Zr0 g g.prods (itN g k))
   by_cases e:lack g (itN g (k + 1))=lack g (itN g k)
   ·left
    have e1:=l2 e
    have e2:(itN g (k + 1)).take g.terms.length=(itN g k).take g.terms.length:=Znv g.prods (itN g k)
    have e3:Zdo g (itN g k) g.prods=itN g k:=by
     show itN g (k + 1)=itN g k
     rw [← List.take_append_drop g.terms.length (itN g (k + 1)),e2,← e1,List.take_append_drop]
    obtain ⟨_,h2⟩:=Zpc (Zgx g k) g.prods (itN g k) rfl (LeN.refl _) e3 hx
    show ClN g (Zdo g (itN g k) g.prods)
    rw [e3]
    exact fun p hp=>h2 p hp
   ·right; omega
theorem itN_all {g:Yu5} (hg:Yzm g=true):ClN g (itN g g.syms.length):=by
 rcases Zn2 hg g.syms.length with h | h
 ·exact h
 ·intro p hp h0 _
  have h1:lack g (itN g g.syms.length)=0:=by omega
  unfold lack at h1
  rw [List.count_eq_zero] at h1
  have h2:=(Zeu hg hp).2.1
  have hlt:(xOf g p).toNat < (itN g g.syms.length).length:=by rw [Zgx]; unfold xOf nA; omega
  have hx:((xOf g p).toNat:Int)=xOf g p:=by unfold xOf; omega
  rw [← hx,Yvv hlt]
  cases hv:(itN g g.syms.length)[(xOf g p).toNat] with
  | true=>rfl
  | false =>
   exfalso
   apply h1
   rw [List.mem_iff_getElem]
   refine ⟨(xOf g p).toNat - g.terms.length,by rw [List.length_drop]; unfold xOf at hlt ⊢; omega,?_⟩
   rw [List.getElem_drop,← hv]
   congr 1
   unfold xOf; omega
theorem Ztg {g:Yu5} (hg:Yzm g=true) {s:Yu8} (hs:Zk7 g s):∀ k (j:Int),0≤j→ix (itN g k) j=true→s.vanishes j=true:=by
 have pas:∀ (l:List Yuf) (u:List Bool),(∀ p ∈ l,p ∈ g.prods)→(∀ j:Int,0≤j→ix u j=true→s.vanishes j=true)→∀ j:Int,0≤j→ix (Zdo g u l) j=true→s.vanishes j=true:=fun l=>by
  induction l with
  | nil=>intro u _ h; exact h
  | cons p l ih =>
   intro u hl h
   refine ih (Zf1 g u p) (fun q hq=>hl q (List.mem_cons_of_mem _ hq)) fun j hj hv=>?_
   unfold Zf1 at hv
   split at hv
   ·rename_i hc
    by_cases e:j.toNat=(xOf g p).toNat
    ·have hxj:j=xOf g p:=by unfold xOf at e ⊢; omega
     have hcl:=hs.cl p (hl p (List.mem_cons_self ..)) hc.1
     rw [hxj]
     refine hcl.2 ?_
     rw [Zig]
     unfold Zn9 at hc ⊢
     rw [List.all_eq_true] at hc ⊢
     intro r hr
     have h3:=hc.2 r hr
     exact h r.sym (Zfe (Zeu hg (hl p (List.mem_cons_self ..))).2.2 hr).1 h3
    ·rw [Znt e] at hv
     exact h j hj hv
   ·exact h j hj hv
 intro k
 induction k with
 | zero =>
  intro j hj h
  unfold itN at h
  have hlt:=ix_inB h
  rw [List.length_replicate] at hlt
  have:ix (List.replicate (nA g) false) ((j.toNat:Nat):Int)=true:=by rwa [Int.toNat_of_nonneg hj]
  rw [Yvv (by rw [List.length_replicate]; exact hlt),List.getElem_replicate] at this
  cases this
 | succ k ih=>exact pas g.prods (itN g k) (fun p hp=>hp) ih
def topS (known:List Bool):Yu8:=⟨fun _=>18446744073709551615,fun j=>decide (0≤j) && ix known j⟩
theorem top_U:U 18446744073709551615:=⟨by omega,by omega⟩
theorem Zsh {t:Nat} (h:t < 64):has 18446744073709551615 t=true:=by
 show (18446744073709551615:Int).toNat.testBit t=true
 have:(18446744073709551615:Int).toNat=2 ^ 64 - 1:=by decide
 rw [this,Nat.testBit_two_pow_sub_one]
 simpa using h
theorem Ztc {g:Yu5} (hg:Yzm g=true) {s:Yu8} (hs:Zk7 g s) {known:List Bool} (hk:ClN g known) {j:Int} (hv:s.vanishes j=true):ix known j=true:=by
 have hT:=(Zcs hg).2.1
 have:=hs.least (topS known) (fun _=>top_U) (fun t ht=>Zsh (by omega)) (fun p hp h0=>⟨fun t ht=>Zsh (has_lt (Zfq (s:=topS known) (fun _=>top_U) U.zero) ht),fun hv=>?_⟩)
 ·have h1:=(this j).2 hv
  unfold topS at h1
  simp only [Bool.and_eq_true] at h1
  exact h1.2
 ·rw [Zig] at hv
  have h2:=hk p hp h0 (by
   unfold Zn9 at hv ⊢
   rw [List.all_eq_true] at hv ⊢
   intro r hr
   have h3:=hv r hr
   unfold topS at h3
   simp only [Bool.and_eq_true] at h3
   exact h3.2)
  show (decide (0≤xOf g p) && ix known (xOf g p))=true
  rw [h2,decide_eq_true (by unfold xOf; omega)]
  rfl
theorem itN_eq {g:Yu5} (hg:Yzm g=true) {s:Yu8} (hs:Zk7 g s):itN g g.syms.length=Yxi g s:=by
 apply List.ext_getElem
 ·rw [Zgx]; simp [Yxi]
 ·intro i h1 h2
  have hi:i < nA g:=by rwa [Zgx] at h1
  have e1:ix (Yxi g s) (i:Int)=s.vanishes (i:Int):=Zmz hi
  rw [Yvv h2] at e1
  have e2:ix (itN g g.syms.length) (i:Int)=(itN g g.syms.length)[i]:=Yvv h1
  rw [e1,← e2]
  cases hv:s.vanishes (i:Int) with
  | true=>exact Ztc hg hs (itN_all hg) hv
  | false =>
   cases h:ix (itN g g.syms.length) (i:Int) with
   | false=>rfl
   | true=>rw [Ztg hg hs _ _ (by omega) h] at hv; cases hv
theorem Zme {g:Yu5} (hl:Lg g) (hg:Yzm g=true) {s:Yu8} (hs:Zk7 g s):Yzt g (Yxi g s):=by
 obtain ⟨hT1,hT2,hS⟩:=Zcs hg
 have hpn:=hl.p
 refine ⟨true,hg ▸ Zqi hl,?_⟩
 rw [if_pos rfl,wN hl]
 have hnA:nA g≤192:=by unfold nA; omega
 refine ⟨by omega,_,rfl,?_⟩
 rw [Int.toNat_natCast,← itN_eq hg hs]
 have key:=Yui.upto (B:=fun (s:(List Bool) × Int) o=>Ywc g s.1 s.2 o) (r:=itN g g.syms.length) (fun j=>(itN g j,(j:Int))) g.syms.length (fun i hi=>?_) ?_
 ·exact key
 ·show Ywc g (itN g i) (i:Int) _
  unfold Ywc
  rw [if_pos (by omega)]
  have k2:=Yui.upto (B:=fun (s:(List Bool) × Int) o=>Ywg g (i:Int) s.1 s.2 o) (r:=(.inl (itN g (i + 1),((i + 1:Nat):Int)):Sum ((List Bool) × Int) (List Bool))) (fun j=>(Zdo g (itN g i) (g.prods.take j),(j:Int))) g.prods.length (fun j hj=>?_) ?_
  ·exact k2
  ·have hpm:=List.getElem_mem hj
   obtain ⟨p1,p2,p3⟩:=Zeu hg hpm
   have hlen:(Zdo g (itN g i) (g.prods.take j)).length=nA g:=by rw [Zlp,Zgx]
   have hnx:Zdo g (itN g i) (g.prods.take (j + 1))=Zf1 g (Zdo g (itN g i) (g.prods.take j)) g.prods[j]:=by
    unfold Zdo
    rw [List.take_succ_eq_append_getElem hj,List.foldl_append]
    rfl
   show Ywg g (i:Int) (Zdo g (itN g i) (g.prods.take j)) (j:Int) _
   rw [hnx]
   unfold Ywg Zf1
   have ew:w64 ((g.terms.length:Int) + g.prods[j].lhs)=xOf g g.prods[j]:=by unfold xOf; exact Yyq (by omega)
   rw [if_pos (by omega),Yvv hj,Yw3 (by omega),ew]
   refine ⟨by omega,?_⟩
   by_cases h0:0≤g.prods[j].lhs
   ·rw [if_pos (show g.prods[j].lhs≥0 from h0)]
    refine ⟨_,goes_ok (hl.r _ hpm) (fun r hr=>by rw [hlen]; have:=Zfe p3 hr; unfold nA; omega),?_⟩
    cases hv:Zn9 (ix (Zdo g (itN g i) (g.prods.take j))) g.prods[j].rhs with
    | true =>
     rw [if_pos rfl,if_pos ⟨h0,rfl⟩]
     refine ⟨by rw [hlen]; unfold xOf nA; omega,_,rfl,rfl⟩
    | false =>
     rw [if_neg (by simp),if_neg (by simp)]
     rfl
   ·rw [if_neg (show ¬ g.prods[j].lhs ≥ 0 from h0), if_neg (fun h => h0 h.1)]
    rfl
  ·show Ywg g (i:Int) (Zdo g (itN g i) (g.prods.take g.prods.length)) (g.prods.length:Int) _
   unfold Ywg
   rw [if_neg (by omega),List.take_length,Yw3 (by omega)]
   rfl
 ·show Ywc g (itN g g.syms.length) (g.syms.length:Int) _
  unfold Ywc
  rw [if_neg (by omega)]
end Go.Proofs.YtadcichlnacagaaDoor.L
