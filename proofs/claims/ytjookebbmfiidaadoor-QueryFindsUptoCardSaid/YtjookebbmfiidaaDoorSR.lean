/- Queries: the document's place of a capture. Condition: sizes. -/
import Derived.Test.YtjookebbmfiidaaDoorSN
set_option linter.unusedVariables false
namespace Go.Proofs.YtjookebbmfiidaaDoor.L
open Go.Proofs.YtjookebbmfiidaaDoor.B Go.Proofs.YtjookebbmfiidaaDoor.R
theorem Xin {xs:List Aj} (hx:xs.length≤2 ^ 40) (cs:List D8) (c:ByteArray):H8 ⟨xs,cs⟩ c (Qu c xs):=by
 have key:∀ (d i:Nat),xs.length - i=d→i≤xs.length→(c=noB∨Vd c (xs.take i)=none)→Ar (fun (s:Int) o=>Gm ⟨xs,cs⟩ c s o) (i:Int) (Qu c xs):=by
  intro d
  induction d with
  | zero =>
   intro i hd hi hn
   refine .done ?_
   have:i=xs.length:=by omega
   subst this
   rw [List.take_length] at hn
   unfold Gm
   dsimp only
   rw [if_neg (Int.lt_irrefl _)]
   unfold Qu
   rcases hn with hn | hn
   ·rw [if_pos hn]
   ·rw [hn]
    split <;> rfl
  | succ d ih =>
   intro i hd hi hn
   have hlt:i < xs.length:=by omega
   have hg:ix xs ((i:Nat):Int)=xs[i]:=by
    have:=V6 (xs:=xs) (i:=(i:Int)) ⟨by omega,by omega⟩
    rw [Int.toNat_natCast,List.getElem?_eq_getElem hlt] at this
    exact (Option.some.inj this).symm
   by_cases g0:c=noB
   ·refine .next (s' := ((i + 1 : Nat) : Int)) ?_ (ih (i + 1) (by omega) (by omega) (.inl g0))
    unfold Gm
    dsimp only
    rw [if_pos (by omega),if_pos g0,Dk (by omega)]
    rfl
   have hn':=hn.resolve_left g0
   by_cases g:xs[i].capture=c
   ·refine .done ?_
    unfold Gm
    dsimp only
    rw [if_pos (by omega),if_neg g0,hg,if_pos g]
    refine ⟨⟨by omega,by omega⟩,?_⟩
    have:Vd c xs=some i:=by
     unfold Vd at hn' ⊢
     rw [List.findIdx?_eq_some_iff_getElem]
     refine ⟨hlt,decide_eq_true g,fun j hj=>?_⟩
     rw [List.findIdx?_eq_none_iff] at hn'
     have:=hn' xs[j] (List.mem_take_iff_getElem.2 ⟨j,by omega,rfl⟩)
     rw [this]
     simp
    unfold Qu
    rw [if_neg g0,this]
   ·refine .next (s' := ((i + 1 : Nat) : Int)) ?_ (ih (i + 1) (by omega) (by omega) (.inr ?_))
    ·unfold Gm
     dsimp only
     rw [if_pos (by omega),if_neg g0,hg,if_neg g,Dk (by omega)]
     exact ⟨⟨by omega,by omega⟩,rfl⟩
    ·unfold Vd at hn' ⊢
     rw [List.findIdx?_eq_none_iff] at hn' ⊢
     intro y hy
     rw [List.take_succ_eq_append_getElem hlt] at hy
     rcases List.mem_append.1 hy with hy | hy
     ·exact hn' y hy
     ·rw [List.mem_singleton] at hy
      rw [hy]
      exact decide_eq_false g
 exact key xs.length 0 rfl (Nat.zero_le _) (.inr rfl)
end Go.Proofs.YtjookebbmfiidaaDoor.L
