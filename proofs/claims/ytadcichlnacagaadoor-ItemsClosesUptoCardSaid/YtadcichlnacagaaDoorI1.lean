/- When a grammar is right (chapter 12): the program and the document say the same. No condition but the rows' lengths. -/
import Derived.Test.YtadcichlnacagaaDoorE3
set_option linter.unusedVariables false
namespace Go.Proofs.YtadcichlnacagaaDoor.L
open Go.Proofs.YtadcichlnacagaaDoor.B Go.Proofs.YtadcichlnacagaaDoor.R
def refR (g:Yu5) (r:Yut):Bool:=decide (1≤r.sym) && decide (r.sym < (g.terms.length:Int) + (g.syms.length:Int))
def rhsR (g:Yu5) (p:Yuf):Bool:=p.rhs.all (refR g)
def lhsR (g:Yu5) (i:Nat):Bool:=decide (i=0) || (decide (0≤(ix g.prods (i:Int)).lhs) && decide ((ix g.prods (i:Int)).lhs < (g.syms.length:Int)))
def Zf6 (g:Yu5) (i:Nat):Bool:=lhsR g i && rhsR g (ix g.prods (i:Int))
def Zi0 (g:Yu5):Bool:=decide ((ix g.prods 0).lhs = -1) && decide ((ix g.prods 0).rhs.length=1) && decide ((ix (ix g.prods 0).rhs 0).sym=(g.terms.length:Int))
def Zl9 (g:Yu5):Bool:=decide (1≤g.terms.length) && decide (g.terms.length≤64) && decide (g.syms.length≤128) && decide (1≤g.prods.length)
def Yxx (g:Yu5):Bool:=Zl9 g && (Zi0 g && (List.range g.prods.length).all (Zf6 g))
theorem lgix {g:Yu5} (hl:Lg g) (i:Nat):(ix g.prods (i:Int)).rhs.length < 2 ^ 60:=by
 by_cases h:i < g.prods.length
 ·rw [Yvv h]; exact hl.r _ (List.getElem_mem h)
 ·have:ix g.prods (i:Int)=default:=by
   unfold ix
   rw [List.getD_eq_getElem?_getD,Int.toNat_natCast,List.getElem?_eq_none (by omega)]
   rfl
  rw [this]
  show ([]:List Yut).length < _
  simp
theorem Zox {g:Yu5} (hl:Lg g) (i:Nat) (hi:i < g.prods.length):Yui (fun (s:Int) o=>Zc7 g (i:Int) s o) 0 (if rhsR g (ix g.prods (i:Int))=true then .inl ((i:Int) + 1) else .inr false:Sum Int Bool):=by
 have hr:=lgix hl i
 have hp:=hl.p
 refine Yui.allThen (ix g.prods (i:Int)).rhs (refR g) (fun j hj hp=>?_) (fun j hj hp=>?_) (fun _=>?_) <;> unfold Zc7
 ·simp only [refR,Bool.and_eq_true,decide_eq_true_eq] at hp
  rw [if_pos (by omega),Yvv hj,wA hl,if_neg (by omega),if_neg (by omega),Yw3 (by omega)]
  exact ⟨by omega,rfl⟩
 ·simp only [refR,Bool.and_eq_false_iff,decide_eq_false_iff_not] at hp
  rw [if_pos (by omega),Yvv hj,wA hl]
  refine ⟨by omega,?_⟩
  split
  ·rfl
  ·rw [if_pos (by omega)]
 ·rw [if_neg (by omega),Yw3 (by omega)]
theorem Zix {g:Yu5} (hl:Lg g):Zer g (Yxx g):=by
 have hp:=hl.p
 unfold Zer Yxx
 by_cases hs:Zl9 g=true
 ·have hs2:=hs
  simp only [Zl9,Bool.and_eq_true,decide_eq_true_eq] at hs2
  obtain ⟨⟨⟨h1,h2⟩,h3⟩,h4⟩:=hs2
  rw [if_neg (by omega),if_neg (by omega),if_neg (by omega),hs,Bool.true_and]
  have e0:((g.prods.length:Int) == 0)=false:=by
   rw [beq_eq_false_iff_ne]; omega
  rw [e0]
  unfold Zae
  rw [if_neg (by simp)]
  have key:=Yui.allThen (List.range g.prods.length) (Zf6 g) (B:=fun (s:Int) o=>Zaa g s o) (r:=Zi0 g) (f:=false) (fun i hi hp2=>?_) (fun i hi hp2=>?_) (fun _=>?_)
  ·cases h:(List.range g.prods.length).all (Zf6 g) with
   | true=>rw [h,if_pos rfl] at key; rw [Bool.and_true]; exact key
   | false=>rw [h,if_neg (by simp)] at key; rw [Bool.and_false]; exact key
  ·rw [List.length_range] at hi
   rw [List.getElem_range] at hp2
   simp only [Zf6,Bool.and_eq_true] at hp2
   have hrow:=Zox hl i hi
   rw [if_pos hp2.2] at hrow
   have hlh:=hp2.1
   simp only [lhsR,Bool.or_eq_true,Bool.and_eq_true,decide_eq_true_eq] at hlh
   unfold Zaa
   rw [if_pos (by omega)]
   refine ⟨by omega,?_⟩
   split
   ·rw [if_neg (by omega), decide_eq_false (by omega)]
    unfold Yyl
    rw [if_neg (by simp)]
    exact hrow
   ·unfold Yyl
    rw [if_neg (by simp)]
    exact hrow
  ·rw [List.length_range] at hi
   rw [List.getElem_range] at hp2
   have hrow:=Zox hl i hi
   unfold Zaa
   rw [if_pos (by omega)]
   refine ⟨by omega,?_⟩
   by_cases hlh:lhsR g i=true
   ·have hr0:rhsR g (ix g.prods (i:Int))=false:=by
     simp only [Zf6,hlh,Bool.true_and] at hp2
     exact hp2
    rw [hr0,if_neg (by simp)] at hrow
    simp only [lhsR,Bool.or_eq_true,Bool.and_eq_true,decide_eq_true_eq] at hlh
    split
    ·rw [if_neg (by omega), decide_eq_false (by omega)]
     unfold Yyl
     rw [if_neg (by simp)]
     exact hrow
    ·unfold Yyl
     rw [if_neg (by simp)]
     exact hrow
   ·simp only [lhsR,Bool.or_eq_true,Bool.and_eq_true,decide_eq_true_eq] at hlh
    rw [if_pos (by omega)]
    split
    ·unfold Yyl
     rw [if_pos rfl]
    ·rw [decide_eq_true (by omega)]
     unfold Yyl
     rw [if_pos rfl]
  ·rw [List.length_range]
   unfold Zaa Zi0
   rw [if_neg (by omega)]
   refine ⟨by omega,?_⟩
   by_cases a1:(ix g.prods 0).lhs = -1
   ·rw [if_pos a1,decide_eq_true a1,Bool.true_and]
    by_cases a2:(ix g.prods 0).rhs.length=1
    ·rw [if_pos (by omega), decide_eq_true a2, Bool.true_and]
     exact ⟨by omega,rfl⟩
    ·rw [if_neg (by omega),decide_eq_false a2]; rfl
   ·rw [if_neg a1,decide_eq_false a1]; rfl
 ·rw [Bool.not_eq_true] at hs
  rw [hs,Bool.false_and]
  simp only [Zl9,Bool.and_eq_false_iff,decide_eq_false_iff_not] at hs
  unfold Zae
  split
  ·rw [if_pos rfl]
  split
  ·rw [if_pos rfl]
  split
  ·rw [if_pos rfl]
  rw [if_pos (by rw [beq_iff_eq]; omega)]
theorem Ztf {g:Yu5} (hl:Lg g) (i:Nat) (hi:i < g.prods.length):Yui (fun (s:Int) o=>Yz1 g (i:Int) s o) 0 (if rhsR g (ix g.prods (i:Int))=true then .inl ((i:Int) + 1) else .inr false:Sum Int Bool):=by
 have hr:=lgix hl i
 have hp:=hl.p
 refine Yui.allThen (ix g.prods (i:Int)).rhs (refR g) (fun j hj hp=>?_) (fun j hj hp=>?_) (fun _=>?_) <;> unfold Yz1
 ·simp only [refR,Bool.and_eq_true,decide_eq_true_eq] at hp
  rw [if_pos (by omega),Yvv hj,wA hl,if_neg (by omega),if_neg (by omega),Yw3 (by omega)]
  exact ⟨by omega,rfl⟩
 ·simp only [refR,Bool.and_eq_false_iff,decide_eq_false_iff_not] at hp
  rw [if_pos (by omega),Yvv hj,wA hl]
  refine ⟨by omega,?_⟩
  split
  ·rfl
  ·rw [if_pos (by omega)]
 ·rw [if_neg (by omega),Yw3 (by omega)]
def Zm3 (g:Yu5) (i:Nat):Bool:=(if i=0 then Zi0 g else true) && Zf6 g i
theorem Zsa {g:Yu5} (h:1≤g.prods.length):(List.range g.prods.length).all (Zm3 g)=(Zi0 g && (List.range g.prods.length).all (Zf6 g)):=by
 rw [Bool.eq_iff_iff,Bool.and_eq_true,List.all_eq_true,List.all_eq_true]
 simp only [Zm3,Bool.and_eq_true,List.mem_range]
 constructor
 ·intro k
  refine ⟨?_,fun x hx=>(k x hx).2⟩
  have:=(k 0 (by omega)).1
  rwa [if_pos rfl] at this
 ·rintro ⟨k1,k2⟩ x hx
  refine ⟨?_,k2 x hx⟩
  split
  ·exact k1
  ·rfl
theorem Zld {g:Yu5} (hl:Lg g):Yz6 g (Yxx g):=by
 have hp:=hl.p
 unfold Yz6 Yxx
 by_cases hs:Zl9 g=true
 ·have hs2:=hs
  simp only [Zl9,Bool.and_eq_true,decide_eq_true_eq] at hs2
  obtain ⟨⟨⟨h1,h2⟩,h3⟩,h4⟩:=hs2
  rw [if_neg (by omega),if_neg (by omega),if_neg (by omega),hs,Bool.true_and,decide_eq_false (by omega),← Zsa h4]
  unfold Yxl
  rw [if_neg (by simp)]
  have mid:∀ (i:Nat),i < g.prods.length→(if (i:Int) > 0 then (if (ix g.prods (i:Int)).lhs < 0 then Yvg g (i:Int) true (if Zf6 g i=true then .inl ((i:Int) + 1) else .inr false:Sum Int Bool) else Yvg g (i:Int) (decide ((ix g.prods (i:Int)).lhs≥(g.syms.length:Int))) (if Zf6 g i=true then .inl ((i:Int) + 1) else .inr false:Sum Int Bool)) else Yvg g (i:Int) false (if Zf6 g i=true then .inl ((i:Int) + 1) else .inr false:Sum Int Bool)):=fun i hi=>by
   have hrow:=Ztf hl i hi
   unfold Yvg
   by_cases hlh:lhsR g i=true
   ·have e:Zf6 g i=rhsR g (ix g.prods (i:Int)):=by unfold Zf6; rw [hlh,Bool.true_and]
    rw [e]
    simp only [lhsR,Bool.or_eq_true,Bool.and_eq_true,decide_eq_true_eq] at hlh
    split
    ·rw [if_neg (by omega), decide_eq_false (by omega), if_neg (by simp)]
     exact hrow
    ·rw [if_neg (by simp)]
     exact hrow
   ·have e:Zf6 g i=false:=by
     unfold Zf6
     rw [Bool.not_eq_true] at hlh
     rw [hlh,Bool.false_and]
    rw [e,if_neg (by simp:¬ (false=true))]
    simp only [lhsR,Bool.or_eq_true,Bool.and_eq_true,decide_eq_true_eq] at hlh
    rw [if_pos (by omega)]
    split
    ·rw [if_pos rfl]
    ·rw [decide_eq_true (by omega),if_pos rfl]
  refine Yui.all (List.range g.prods.length) (Zm3 g) (fun i hi hp2=>?_) (fun i hi hp2=>?_) ?_ <;> unfold Yzw
  ·rw [List.length_range] at hi
   rw [List.getElem_range] at hp2
   simp only [Zm3,Bool.and_eq_true] at hp2
   have hm:=mid i hi
   rw [if_pos hp2.2] at hm
   rw [if_pos (by omega)]
   refine ⟨by omega,?_⟩
   by_cases h0:i=0
   ·subst h0
    have hst:=hp2.1
    rw [if_pos rfl] at hst
    simp only [Zi0,Bool.and_eq_true,decide_eq_true_eq] at hst
    have z:((0:Nat):Int)=0:=rfl
    rw [z] at hm ⊢
    rw [if_pos rfl,if_pos hst.1.1,if_pos (by omega)]
    refine ⟨by omega,?_⟩
    rw [if_pos hst.2]
    exact hm
   ·rw [if_neg (by omega)]
    exact hm
  ·rw [List.length_range] at hi
   rw [List.getElem_range] at hp2
   have hm:=mid i hi
   rw [if_pos (by omega)]
   refine ⟨by omega,?_⟩
   by_cases h0:i=0
   ·subst h0
    have z:((0:Nat):Int)=0:=rfl
    rw [z] at hm ⊢
    rw [if_pos rfl]
    by_cases a1:(ix g.prods 0).lhs = -1
    ·rw [if_pos a1]
     by_cases a2:(ix g.prods 0).rhs.length=1
     ·rw [if_pos (by omega)]
      refine ⟨by omega,?_⟩
      by_cases a3:(ix (ix g.prods 0).rhs 0).sym=(g.terms.length:Int)
      ·rw [if_pos a3]
       have:Zf6 g 0=false:=by
        simp only [Zm3,Zi0,a1,a2,a3,decide_true,Bool.and_true,if_true,Bool.true_and] at hp2
        exact hp2
       rw [this,if_neg (by simp:¬ (false=true))] at hm
       exact hm
      ·rw [if_neg a3]
       unfold Yvg
       rw [if_pos rfl]
     ·rw [if_neg (by omega)]
      unfold Yvg
      rw [if_pos rfl]
    ·rw [if_neg a1]
     unfold Yvg
     rw [if_pos rfl]
   ·rw [if_neg (by omega)]
    have:Zf6 g i=false:=by
     simp only [Zm3,if_neg h0,Bool.true_and] at hp2
     exact hp2
    rw [this,if_neg (by simp:¬ (false=true))] at hm
    exact hm
  ·rw [List.length_range,if_neg (by omega)]
 ·rw [Bool.not_eq_true] at hs
  rw [hs,Bool.false_and]
  simp only [Zl9,Bool.and_eq_false_iff,decide_eq_false_iff_not] at hs
  unfold Yxl
  split
  ·rw [if_pos rfl]
  split
  ·rw [if_pos rfl]
  split
  ·rw [if_pos rfl]
  rw [decide_eq_true (by omega),if_pos rfl]
theorem Zft {g:Yu5} (h:Yxx g=true):Yzm g=true:=by
 simp only [Yxx,Zl9,Zi0,Bool.and_eq_true,decide_eq_true_eq,List.all_eq_true,List.mem_range] at h
 obtain ⟨⟨⟨⟨h1,h2⟩,h3⟩,h4⟩,⟨⟨h5,h6⟩,h7⟩,h8⟩:=h
 simp only [Yzm,Bool.and_eq_true,decide_eq_true_eq,List.all_eq_true]
 refine ⟨⟨⟨h1,h2⟩,h3⟩,fun p hp=>?_⟩
 obtain ⟨i,hi,rfl⟩:=List.getElem_of_mem hp
 have:=h8 i hi
 simp only [Zf6,lhsR,rhsR,refR,Yvv hi,Bool.and_eq_true,Bool.or_eq_true,decide_eq_true_eq,List.all_eq_true] at this
 simp only [Zg0,Zhf,Zjr,Bool.and_eq_true,decide_eq_true_eq,List.all_eq_true]
 refine ⟨?_,fun r hr=>by have:=this.2 r hr; omega⟩
 rcases this.1 with h0 | h0
 ·subst h0
  have e:ix g.prods 0=g.prods[0]:=Yvv hi
  rw [e] at h5
  omega
 ·omega
end Go.Proofs.YtadcichlnacagaaDoor.L
