/- Lemmas of my own on the machine: a row that has been appended to, read by its elder name; rows of rows, cut, appended. No condition. -/
import Derived.Test.YtadcichlnacagaaDoorBS
set_option linter.unusedVariables false
set_option linter.unusedSimpArgs false
namespace Go.Proofs.YtadcichlnacagaaDoor.B
open Go.RowKit
theorem deep_ok {w:World} {v:Value} {bs:List Nat} {p:World→Prop} (h:(Ent.deep v bs p).ok w):p w:=h.2 w (Nat.le_refl _) fun _ _=>rfl
theorem Loc.absorb {w0 w : World} {M : List Ent} {S : List Yva} {i j : Nat} {e1 e2 e1' e2' : Ent} (h : Loc w0 w M S) (hij : i ≠ j) (hj : M[j]? = some e1) (hi : M[i]? = some e2) (ok1 : e1'.ok w) (ok2 : e2'.ok w) (hn : e1'.blk = []) (hb : ∀ b ∈ e2'.blk, b ∈ e1.blk ∨ b ∈ e2.blk) :
    Loc w0 w ((M.set j e1').set i e2') S:=by
  have get:∀ k y,((M.set j e1').set i e2')[k]? = some y→(k=i∧y=e2')∨(k=j∧k≠i∧y=e1')∨(k≠i∧k≠j∧M[k]? = some y):=by
    intro k y hk
    rw [List.getElem?_set] at hk
    by_cases c1:i=k
    · subst c1
      rw [if_pos rfl] at hk
      split at hk
      · injection hk with hk; exact .inl ⟨rfl,hk.symm⟩
      · cases hk
    · rw [if_neg c1,List.getElem?_set] at hk
      by_cases c2:j=k
      · subst c2
        rw [if_pos rfl] at hk
        split at hk
        · injection hk with hk; exact .inr (.inl ⟨rfl,fun e=>c1 e.symm,hk.symm⟩)
        · cases hk
      · rw [if_neg c2] at hk
        exact .inr (.inr ⟨fun e=>c1 e.symm,fun e=>c2 e.symm,hk⟩)
  have hfar:∀ k y,k≠i→k≠j→M[k]? = some y→far y.blk e2'.blk:=fun k y h1 h2 hk b hb1 hb2=>by
    rcases hb b hb2 with g | g
    · exact Zc3 h.apart h2 hk hj b hb1 g
    · exact Zc3 h.apart h1 hk hi b hb1 g
  refine ⟨h.env,fun e he=>?_,?_,fun s hs=>?_⟩
  · obtain ⟨k,hk⟩:=List.mem_iff_getElem?.1 he
    rcases get k e hk with ⟨_,rfl⟩ | ⟨_,_,rfl⟩ | ⟨_,_,hk⟩
    · exact ok2
    · exact ok1
    · exact h.ok e (List.mem_iff_getElem?.2 ⟨k,hk⟩)
  · refine List.pairwise_iff_getElem.2 fun a b ha hb' hab => ?_
    have g1:=get a _ (List.getElem?_eq_getElem ha)
    have g2:=get b _ (List.getElem?_eq_getElem hb')
    generalize ((M.set j e1').set i e2')[a]=x at *
    generalize ((M.set j e1').set i e2')[b]=y at *
    rcases g1 with ⟨c1,rfl⟩ | ⟨c1,_,rfl⟩ | ⟨c1,c1',hk1⟩
    · rcases g2 with ⟨c2,rfl⟩ | ⟨c2,_,rfl⟩ | ⟨c2,c2',hk2⟩
      · omega
      · rw [hn]; intro z _ hz; cases hz
      · exact far.symm' (hfar b y c2 c2' hk2)
    · rw [hn]; intro z hz; cases hz
    · rcases g2 with ⟨c2,rfl⟩ | ⟨c2,_,rfl⟩ | ⟨c2,c2',hk2⟩
      · exact hfar a x c1 c1' hk1
      · rw [hn]; intro z _ hz; cases hz
      · exact Zc3 h.apart (by omega) hk1 hk2
  · obtain ⟨h1,h2⟩:=h.snap s hs
    refine ⟨h1,fun b hb1=>⟨(h2 b hb1).1,fun e he=>?_⟩⟩
    obtain ⟨k,hk⟩:=List.mem_iff_getElem?.1 he
    rcases get k e hk with ⟨_,rfl⟩ | ⟨_,_,rfl⟩ | ⟨_,_,hk⟩
    · intro hz
      rcases hb b hz with g | g
      · exact (h2 b hb1).2 e1 (List.mem_iff_getElem?.2 ⟨j,hj⟩) g
      · exact (h2 b hb1).2 e2 (List.mem_iff_getElem?.2 ⟨i,hi⟩) g
    · rw [hn]; intro hz; cases hz
    · exact (h2 b hb1).2 e (List.mem_iff_getElem?.2 ⟨k,hk⟩)
section ops
variable {C:Cx} {ops:Array Oper} {k:List Item} {l l':Fm} {M M' M0 rest:List Ent} {S S':List Yva} {ty:TypeId} {pos:String} {after:Ed} {g:Gu} {d:Nat} {Nx:Fm→List Ent→List Yva→Prop}
end ops
end Go.Proofs.YtadcichlnacagaaDoor.B
