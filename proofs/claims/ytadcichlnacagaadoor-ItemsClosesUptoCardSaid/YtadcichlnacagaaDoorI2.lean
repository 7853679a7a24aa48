/- The places of a grammar's productions, and the program's book of them. No condition but the size. -/
import Derived.Test.YtadcichlnacagaaDoorI1
set_option linter.unusedVariables false
namespace Go.Proofs.YtadcichlnacagaaDoor.L
open Go.Proofs.YtadcichlnacagaaDoor.B Go.Proofs.YtadcichlnacagaaDoor.R
def Yvk (g:Yu5) (p:Nat):List Yut:=(ix g.prods (p:Int)).rhs
def atN (g:Yu5):Nat→Nat
 | 0=>0
 | p + 1=>atN g p + ((Yvk g p).length + 1)
def nN (g:Yu5):Nat:=atN g g.prods.length
structure Big (g:Yu5):Prop where
 lg:Lg g
 n:nN g≤2 ^ 32
theorem Zmd {g:Yu5} {p q:Nat} (h:p≤q):atN g p≤atN g q:=by
 induction q with
 | zero=>rw [Nat.le_zero.1 h]; exact Nat.le_refl _
 | succ q ih =>
  rcases Nat.lt_or_ge q p with h1 | h1
  ·have:p=q + 1:=by omega
   rw [this]; exact Nat.le_refl _
  ·have:=ih h1
   rw [atN]; omega
theorem Zcz {g:Yu5} {p d:Nat} (hp:p < g.prods.length) (hd:d≤(Yvk g p).length):atN g p + d < nN g:=by
 have h1:atN g (p + 1)≤nN g:=Zmd (by omega)
 rw [atN] at h1
 omega
def Yw5 (g:Yu5) (p d:Nat):Int:=if d < (Yvk g p).length then (ix (Yvk g p) (d:Int)).sym else -1
def behind (g:Yu5) (p d:Nat):List Yut:=(Yvk g p).drop (d + 1)
def Zcn (g:Yu5) (s:Yu8) (p d:Nat):Yuu:=⟨(p:Int),(d:Int),Yw5 g p d,(ofS s (behind g p d) 0).1,(ofS s (behind g p d) 0).2⟩
def Zb3 (g:Yu5) (s:Yu8):Nat→List Yuu
 | 0=>[]
 | p + 1=>Zb3 g s p++(List.range ((Yvk g p).length + 1)).map (Zcn g s p)
theorem Zeg (g:Yu5) (s:Yu8):∀ p,(Zb3 g s p).length=atN g p
 | 0=>rfl
 | p + 1=>by rw [Zb3,List.length_append,Zeg g s p,atN]; simp
theorem Zsj {α:Type} [Inhabited α] {A B:List α} {i:Nat} (h:i < A.length):ix (A++B) (i:Int)=ix A (i:Int):=by
 rw [Yvv (by rw [List.length_append]; omega),Yvv h,List.getElem_append_left h]
theorem Zmb {α:Type} [Inhabited α] {A:List α} {f:Nat→α} {n d:Nat} (h:d < n) {z:Int} (hz:z=((A.length + d:Nat):Int)):ix (A++(List.range n).map f) z=f d:=by
 subst hz
 rw [Yvv (by simp; omega),List.getElem_append_right (by omega)]
 simp
theorem Zmx {α:Type} {A:List α} {f:Nat→α} {n d:Nat} (y:α) {z:Int} (hz:z=((A.length + d:Nat):Int)):(A++(List.range n).map f).set z.toNat y=A++(List.range n).map (fun j=>if j=d then y else f j):=by
 subst hz
 rw [Int.toNat_natCast,List.set_append_right _ _ (by omega),Nat.add_sub_cancel_left]
 congr 1
 refine List.ext_getElem (by simp) fun i h1 h2=>?_
 rw [List.getElem_set]
 simp only [List.getElem_map,List.getElem_range]
 by_cases e:d=i
 ·rw [if_pos e,if_pos e.symm]
 ·rw [if_neg e,if_neg (fun h=>e h.symm)]
theorem Zjf {α:Type} {f h:Nat→α} {n:Nat} (k:∀ j,j < n→f j=h j):(List.range n).map f=(List.range n).map h:=List.map_congr_left fun j hj=>k j (List.mem_range.1 hj)
theorem Zg9 {g:Yu5} {s:Yu8}:∀ {n p d:Nat},p < n→d≤(Yvk g p).length→ix (Zb3 g s n) ((atN g p + d:Nat):Int)=Zcn g s p d
 | 0,p,d,h,_=>absurd h (Nat.not_lt_zero _)
 | n + 1,p,d,h,hd=>by
  rw [Zb3]
  rcases Nat.lt_or_ge p n with h1 | h1
  ·have:atN g p + d < atN g n:=by
    have h2:atN g (p + 1)≤atN g n:=Zmd (by omega)
    rw [atN] at h2
    omega
   rw [Zsj (by rw [Zeg]; exact this)]
   exact Zg9 h1 hd
  ·have e:p=n:=by omega
   subst e
   exact Zmb (by omega) (by rw [Zeg])
def Zc4 (g:Yu5) (q:Nat):Int:=(ix g.prods (q:Int)).lhs
def ofL (g:Yu5) (x:Int):Nat→List Int
 | 0=>[]
 | p + 1=>if Zc4 g p=x then ofL g x p++[((atN g p:Nat):Int)] else ofL g x p
def Zfg (g:Yu5) (p:Nat):List (List Int):=(List.range g.syms.length).map fun x:Nat=>ofL g (x:Int) p
def Za0 (g:Yu5) (p:Nat):List Int:=(List.range p).map fun q=>((atN g q:Nat):Int)
def Yw2 (g:Yu5) (s:Yu8):Yuv:=⟨g,Zb3 g s g.prods.length,Za0 g g.prods.length,Zfg g g.prods.length⟩
theorem Zpu (g:Yu5) (x:Int):∀ p,(ofL g x p).length≤p
 | 0=>Nat.le_refl _
 | p + 1=>by
  rw [ofL]
  have:=Zpu g x p
  split
  ·simp; omega
  ·omega
theorem Zpg (g:Yu5):∀ p,p≤atN g p
 | 0=>Nat.le_refl _
 | p + 1=>by have:=Zpg g p; rw [atN]; omega
theorem ofS_add {s:Yu8} (hs:Ok s):∀ (l:List Yut) {a:Int},U a→(ofS s l a).1=OR a (ofS s l 0).1
 | l,a,ha=>by
  refine Zh2 (Zfq hs ha) (ha.or (Zfq hs U.zero)) fun t=>?_
  rw [Zgl ha (Zfq hs U.zero),Bool.eq_iff_iff,Zep hs ha,Bool.or_eq_true,Zep hs U.zero,Zaj]
  simp
theorem Zpm {a:Int} (ha:U a):OR 0 a=a:=Zh2 (U.zero.or ha) ha fun t=>by rw [Zgl U.zero ha,Zaj,Bool.false_or]
def Zes (g:Yu5) (s:Yu8) (p k d:Nat):Yuu:=if k≤d then Zcn g s p d else ⟨(p:Int),(d:Int),-1,0,true⟩
theorem Zlb {g:Yu5} (h:Yxx g=true) {p:Nat} (hp:p < g.prods.length) {d:Nat} (hd:d < (Yvk g p).length):1≤(ix (Yvk g p) (d:Int)).sym∧(ix (Yvk g p) (d:Int)).sym < (g.terms.length:Int) + (g.syms.length:Int):=by
 simp only [Yxx,Bool.and_eq_true,List.all_eq_true,List.mem_range] at h
 have:=(h.2.2 p hp)
 simp only [Zf6,rhsR,refR,Bool.and_eq_true,decide_eq_true_eq,List.all_eq_true] at this
 have h2:=this.2 (ix (Yvk g p) (d:Int)) (by rw [Yvv hd]; exact List.getElem_mem hd)
 exact h2
theorem Zpa {g:Yu5} (h:Yxx g=true) {p:Nat} (hp:p < g.prods.length) (h0:p≠0):0≤Zc4 g p∧Zc4 g p < (g.syms.length:Int):=by
 simp only [Yxx,Bool.and_eq_true,List.all_eq_true,List.mem_range] at h
 have:=(h.2.2 p hp)
 simp only [Zf6,lhsR,Bool.and_eq_true,Bool.or_eq_true,decide_eq_true_eq] at this
 have h2:=this.1.resolve_left h0
 exact h2
theorem Zso {g:Yu5} (h:Yxx g=true):Zc4 g 0 = -1∧(Yvk g 0).length=1∧Yw5 g 0 0=(g.terms.length:Int):=by
 simp only [Yxx,Zi0,Bool.and_eq_true,decide_eq_true_eq] at h
 obtain ⟨_,⟨⟨h1,h2⟩,h3⟩,_⟩:=h
 refine ⟨h1,h2,?_⟩
 unfold Yw5
 rw [if_pos (by show 0 < (ix g.prods 0).rhs.length; omega)]
 exact h3
theorem Zi6 {g:Yu5} (h:Yxx g=true):1≤g.terms.length∧g.terms.length≤64∧g.syms.length≤128∧1≤g.prods.length:=by
 simp only [Yxx,Zl9,Bool.and_eq_true,decide_eq_true_eq] at h
 exact ⟨h.1.1.1.1,h.1.1.1.2,h.1.1.2,h.1.2⟩
theorem Zp0 {g:Yu5} {s:Yu8} {p:Nat}:Zcn g s p (Yvk g p).length=⟨(p:Int),(((Yvk g p).length:Nat):Int),-1,0,true⟩:=by
 unfold Zcn Yw5 behind
 rw [if_neg (by omega),List.drop_of_length_le (by omega),Zq1]
theorem Zt5 {g:Yu5} (hb:Big g) (hr:Yxx g=true) {s:Yu8} (hs:Ok s) {p d:Nat} (hp:p < g.prods.length) (hd:d < (Yvk g p).length) (A:List Yuu) (hA:A.length=atN g p) (ats:List Int) (ofs:List (List Int)) :
  Yxt A g (p:Int) (Yyb g s) (Yxi g s) ats ofs (d:Int) (A++(List.range ((Yvk g p).length + 1)).map (Zes g s p (d + 1))) (.inl ((d:Int) - 1,A++(List.range ((Yvk g p).length + 1)).map (Zes g s p d))):=by
 have hN:=hb.n
 have hin:=Zcz hp (Nat.le_of_lt hd)
 have hin2:=Zcz hp hd
 have hlen:∀ f:Nat→Yuu,((A++(List.range ((Yvk g p).length + 1)).map f).length:Int)=((atN g p + ((Yvk g p).length + 1):Nat):Int):=fun f=>by simp [hA]
 have e0:w64 ((A.length:Int) + (d:Int))=((A.length + d:Nat):Int):=by rw [Yyq (by omega)]; omega
 have e1:w64 ((d:Int) + 1)=((d + 1:Nat):Int):=by rw [Yyq (by omega)]; omega
 have e2:w64 (((A.length + d:Nat):Int) + 1)=((A.length + (d + 1):Nat):Int):=by rw [Yyq (by omega)]; omega
 have e3:w64 ((d:Int) - 1)=(d:Int) - 1:=Yyq (by omega)
 have hrow:(ix g.prods (p:Int)).rhs=Yvk g p:=rfl
 have hbl:Zes g s p (d + 1) d=⟨(p:Int),(d:Int),-1,0,true⟩:=by unfold Zes; rw [if_neg (by omega)]
 have hsym:Yw5 g p d=(ix (Yvk g p) (d:Int)).sym:=by unfold Yw5; rw [if_pos hd]
 unfold Yxt
 rw [if_pos (by omega),e0,e1,e2,e3,hrow]
 refine ⟨by rw [hlen]; omega,by omega,_,rfl,?_⟩
 rw [Zmb (d:=d) (by omega) rfl,Zmx (d:=d) _ rfl,hbl]
 have fin:∀ y:Yuu,y=Zcn g s p d→(List.range ((Yvk g p).length + 1)).map (fun j=>if j=d then y else Zes g s p (d + 1) j)=(List.range ((Yvk g p).length + 1)).map (Zes g s p d):=fun y hy=>Zjf fun j hj=>by
  by_cases e:j=d
  ·subst e
   rw [if_pos rfl,hy]; unfold Zes; rw [if_pos (Nat.le_refl _)]
  ·rw [if_neg e]
   unfold Zes
   by_cases k:d≤j
   ·rw [if_pos k,if_pos (by omega)]
   ·rw [if_neg k,if_neg (by omega)]
 by_cases hl:d + 1 < (Yvk g p).length
 ·obtain ⟨b1,b2⟩:=Zlb hr hp hl
  have hj:(ix (Yvk g p) ((d + 1:Nat):Int)).sym.toNat < nA g:=by unfold nA; omega
  have hjz:(((ix (Yvk g p) ((d + 1:Nat):Int)).sym.toNat:Nat):Int)=(ix (Yvk g p) ((d + 1:Nat):Int)).sym:=Int.toNat_of_nonneg (by omega)
  have hv:=Zmz (g:=g) (s:=s) hj
  have hf:=Zog (g:=g) (s:=s) hj
  rw [hjz] at hv hf
  have lv:(Yxi g s).length=nA g:=by simp [Yxi]
  have lf:(Yyb g s).length=nA g:=by simp [Yyb]
  have hdrop:behind g p d=ix (Yvk g p) ((d + 1:Nat):Int) :: behind g p (d + 1):=by
   unfold behind
   rw [List.drop_eq_getElem_cons hl,Yvv hl]
  have hnx:∀ (f':Nat→Yuu) (y:Yuu),f' (d + 1)=Zcn g s p (d + 1)→ix (A++(List.range ((Yvk g p).length + 1)).map (fun j=>if j=d then y else f' j)) ((A.length + (d + 1):Nat):Int)=Zcn g s p (d + 1):=fun f' y h=>by
   rw [Zmb (d:=d + 1) (by omega) rfl]
   show (if d + 1=d then y else f' (d + 1))=_
   rw [if_neg (by omega),h]
  have hfs:Zes g s p (d + 1) (d + 1)=Zcn g s p (d + 1):=by unfold Zes; rw [if_pos (Nat.le_refl _)]
  rw [if_pos (by omega)]
  refine ⟨by rw [hlen]; omega,by omega,by rw [lf]; unfold nA; omega,by rw [lv]; unfold nA; omega,?_⟩
  rw [hv,hf,hnx _ _ hfs]
  cases hvn:s.vanishes (ix (Yvk g p) ((d + 1:Nat):Int)).sym with
  | true =>
   rw [if_pos rfl]
   refine ⟨_,rfl,_,rfl,?_⟩
   simp only [Zmx (A:=A) (d:=d) _ rfl,Zmb (A:=A) (d:=d) (n:=(Yvk g p).length + 1) (by omega) rfl,if_true]
   unfold Zau
   rw [e1,e3,e0,e2,hrow,hv,hvn,if_pos rfl]
   refine ⟨by rw [lv]; unfold nA; omega,_,rfl,?_⟩
   rw [hnx _ _ hfs]
   simp only [Zmx (A:=A) (d:=d) _ rfl,Zmb (A:=A) (d:=d) (n:=(Yvk g p).length + 1) (by omega) rfl,if_true]
   congr 3
   have:∀ (y1 y2 y3 y4:Yuu),(fun j=>if j=d then y4 else if j=d then y3 else if j=d then y2 else if j=d then y1 else Zes g s p (d + 1) j)=fun j=>if j=d then y4 else Zes g s p (d + 1) j:=fun y1 y2 y3 y4=>by
    funext j
    by_cases e:j=d
    ·rw [if_pos e,if_pos e]
    ·simp only [if_neg e]
   rw [this]
   refine (fin _ ?_).symm
   unfold Zcn
   rw [hdrop,Zhd hvn,Zpm (hs _),ofS_add hs _ (hs _),hsym,Zig,Zig]
  | false =>
   rw [if_neg (by simp)]
   refine ⟨_,rfl,_,rfl,?_⟩
   simp only [Zmx (A:=A) (d:=d) _ rfl,Zmb (A:=A) (d:=d) (n:=(Yvk g p).length + 1) (by omega) rfl,if_true]
   unfold Zau
   rw [e1,e3,hrow,hv,hvn,if_neg (by simp)]
   refine ⟨by rw [lv]; unfold nA; omega,?_⟩
   congr 3
   have:∀ (y1 y2 y3:Yuu),(fun j=>if j=d then y3 else if j=d then y2 else if j=d then y1 else Zes g s p (d + 1) j)=fun j=>if j=d then y3 else Zes g s p (d + 1) j:=fun y1 y2 y3=>by
    funext j
    by_cases e:j=d
    ·rw [if_pos e,if_pos e]
    ·simp only [if_neg e]
   rw [this]
   refine (fin _ ?_).symm
   unfold Zcn
   rw [hdrop,Zg3 hvn,Zpm (hs _),hsym]
 ·rw [if_neg (by omega)]
  congr 3
  refine (fin _ ?_).symm
  unfold Zcn behind
  rw [List.drop_of_length_le (by omega),Zq1,hsym]
end Go.Proofs.YtadcichlnacagaaDoor.L
