/- Queries: the law QueryPrints. Condition: sizes. -/
import Derived.Test.YtjookebbmfiidaaDoorX2
import Derived.Test.YtjookebbmfiidaaDoorX9
set_option linter.unusedVariables false
namespace Go.Proofs.YtjookebbmfiidaaDoor.L
open Go.Proofs.YtjookebbmfiidaaDoor.B Go.Proofs.YtjookebbmfiidaaDoor.R
abbrev markN (i:Nat):Aj:=⟨noB,false,noB,noB,900 + (i:Int)⟩
abbrev Xb8:D8:=⟨false,noB,noB,⟨#[109,97,114,107]⟩⟩
def Um (n:Nat):List Aj:=(List.range n).map markN
theorem Xjt (n:Nat):Um (n + 1)=Um n++[markN n]:=by unfold Um; rw [List.range_succ,List.map_append]; rfl
theorem Xgh (n:Nat):(Um n).length=n:=by unfold Um; simp
theorem qlent {q:Aq} (h1:q.nodes.length≤2 ^ 30) (h2:q.conds.length≤2 ^ 30):U9 q (⟨q.nodes++Um 20,q.conds++List.replicate 20 Xb8⟩,q.nodes.length,q.conds.length):=by
 refine ⟨q,Xjx (by omega) (by omega),?_⟩
 have key:∀ (d i:Nat),20 - i=d→i≤20→Ar (fun (s:Int × (List Aj) × (List D8)) o=>Ih q s.1 s.2.1 s.2.2 o) ((i:Int),q.nodes++Um i,q.conds++List.replicate i Xb8) (⟨q.nodes++Um 20,q.conds++List.replicate 20 Xb8⟩,q.nodes.length,q.conds.length):=by
  intro d
  induction d with
  | zero =>
   intro i hd hi
   have:i=20:=by omega
   subst this
   refine .done ?_
   dsimp only
   unfold Ih
   rw [if_neg (by decide)]
   refine ⟨⟨by omega,by omega,by rw [List.length_append]; omega⟩,⟨by omega,by omega,by rw [List.length_append]; omega⟩,?_⟩
   rw [Int.toNat_natCast,Int.toNat_natCast]
  | succ d ih =>
   intro i hd hi
   refine .next (s':=(((i + 1:Nat):Int),q.nodes++Um (i + 1),q.conds++List.replicate (i + 1) Xb8)) ?_ (ih (i + 1) (by omega) (by omega))
   dsimp only
   unfold Ih
   rw [if_pos (by omega)]
   have hn:=Xgh i
   refine ⟨_,rfl,by simp only [List.length_append,List.length_cons,List.length_nil]; omega,_,rfl,by simp only [List.length_append,List.length_cons,List.length_nil,List.length_replicate]; omega,?_⟩
   rw [Dk (x:=900 + (i:Int)) (by omega),Dk (by omega),Xjt,List.replicate_succ',List.append_assoc,List.append_assoc]
   rfl
 have:=key _ 0 rfl (by decide)
 simpa [Um] using this
theorem qstill {q:Aq} (h1:q.nodes.length≤2 ^ 30) (h2:q.conds.length≤2 ^ 30):P7 ⟨q.nodes++Um 20,q.conds++List.replicate 20 Xb8⟩ q.nodes.length q.conds.length q true:=by
 unfold P7
 have hl1:(q.nodes++Um 20).length=q.nodes.length + 20:=by rw [List.length_append,Xgh]
 have hl2:(q.conds++List.replicate 20 Xb8).length=q.conds.length + 20:=by rw [List.length_append,List.length_replicate]
 have e1:w64 ((q.nodes.length:Int) + 20)=((q.nodes.length + 20:Nat):Int):=by rw [Dk (by omega)]; rfl
 have e2:w64 ((q.conds.length:Int) + 20)=((q.conds.length + 20:Nat):Int):=by rw [Dk (by omega)]; rfl
 refine ⟨⟨by rw [e1]; omega,by rw [e1]; show _≤((q.nodes++Um 20).length:Int); rw [hl1]; exact Int.le_refl _⟩,⟨by rw [e2]; omega,by rw [e2]; show _≤((q.conds++List.replicate 20 Xb8).length:Int); rw [hl2]; exact Int.le_refl _⟩,?_⟩
 have t1:(q.nodes++Um 20).take (q.nodes.length + 20)=q.nodes++Um 20:=List.take_of_length_le (by omega)
 have t2:(q.conds++List.replicate 20 Xb8).take (q.conds.length + 20)=q.conds++List.replicate 20 Xb8:=List.take_of_length_le (by omega)
 refine Ar.cnt 20 (fun i hi=>?_) ?_
 ·unfold Ja
  dsimp only
  rw [if_pos (by omega),e1,e2,Int.toNat_natCast,Int.toNat_natCast,t1,t2,Dk (x:=(q.nodes.length:Int) + (i:Int)) (by omega),Dk (x:=(q.conds.length:Int) + (i:Int)) (by omega),Dk (x:=900 + (i:Int)) (by omega),hl1,hl2]
  refine ⟨⟨by omega,by omega⟩,?_⟩
  have x1:ix (q.nodes++Um 20) ((q.nodes.length:Int) + (i:Int))=markN i:=by
   rw [show (q.nodes.length:Int) + (i:Int)=((q.nodes.length + i:Nat):Int) by omega,U2 (by omega),List.getElem_append_right (by omega)]
   simp [Um]
  have x2:ix (q.conds++List.replicate 20 Xb8) ((q.conds.length:Int) + (i:Int))=Xb8:=by
   rw [show (q.conds.length:Int) + (i:Int)=((q.conds.length + i:Nat):Int) by omega,U2 (by omega),List.getElem_append_right (by omega),List.getElem_replicate]
  rw [x1,if_pos rfl]
  refine ⟨⟨by omega,by omega⟩,?_⟩
  rw [x2,if_pos rfl,Dk (by omega)]
 ·unfold Ja
  rw [if_neg (by decide)]
  refine ⟨true,?_,rfl⟩
  dsimp only
  rw [List.take_left,List.take_left]
  exact qsame (q:=q) (by omega) (by omega)
theorem Xdi {α:Type} {A:List α} {i:Nat} {y x:α} (h:x ∈ A.set i y):x=y∨x ∈ A:=(List.mem_or_eq_of_mem_set h).symm
theorem Xfk {α:Type} [Inhabited α] {v:List α} {i:Int} (h:0≤i∧i < (v.length:Int)):ix v i ∈ v:=by
 have:=Xap (v:=v) (i:=i.toNat) (by omega)
 rwa [Int.toNat_of_nonneg h.1] at this
end Go.Proofs.YtjookebbmfiidaaDoor.L
