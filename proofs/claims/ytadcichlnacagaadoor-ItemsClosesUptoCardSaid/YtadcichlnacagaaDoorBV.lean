/- Lemmas of my own on the machine: package-level tables of numbers, read alone. No condition. -/
import Derived.Test.YtadcichlnacagaaDoorBM
set_option linter.unusedVariables false
set_option linter.unusedSimpArgs false
namespace Go.Proofs.YtadcichlnacagaaDoor.B
open Go.RowKit
def Tt (k:IntKind) (zs:List Int) (g:Nat) (s:Yva):Prop:=s.av g∧∃ T fz,s.w.heap[g]? = some (.cells (zs.map (Value.int k)).toArray T fz)
theorem Loc.tt {w0 w:World} {M M0 rest:List Ent} {S:List Yva} {s:Yva} {k:IntKind} {zs:List Int} {g:Nat} (hL:Loc w0 w M S) (hp:M.Perm (M0++rest)) (h:Tt k zs g s) (hs:s ∈ S):Tt k zs g (St w (M0.map Ent.blk)):=by
 obtain ⟨h1,h2⟩:=hL.snap s hs
 obtain ⟨hav,T,fz,hc⟩:=h
 obtain ⟨h3,h4⟩:=h2 g hav
 refine ⟨⟨Nat.lt_of_lt_of_le hav.1 h1,fun o ho e1=>?_,trivial⟩,T,fz,h3.trans hc⟩
 obtain ⟨e,he,rfl⟩:=List.mem_map.1 ho
 exact h4 e (hp.mem_iff.2 (List.mem_append.2 (.inl he))) e1
theorem Tt.start {k:IntKind} {zs:List Int} {g:Nat} {w:World} {T:TypeId} {fz:Nat × Nat} (h:w.heap[g]? = some (.cells (zs.map (Value.int k)).toArray T fz)):Tt k zs g (St w []) :=
 ⟨⟨(Array.getElem?_eq_some_iff.1 h).1,by simp,trivial⟩,T,fz,h⟩
section
variable {C:Cx} {l:Fm} {M:List Ent} {S:List Yva} {d:Nat} {ty:TypeId} {pos:String} {after:Ed} {g:Gu}
theorem v_ldT {T gb:Nat} {x:Operand} {k:IntKind} {zs:List Int} {j:Int} (s:Yva) (hG:Tt k zs gb s) (hs:s ∈ S) (hT:ldK C.P T=some none) (hx:evl l x=some (.pointer (some ⟨gb,0 + j.toNat * 1,none⟩))) (hj:0≤j∧j < (zs.length:Int)) :
  Val C ⟨some d,.load T x,ty,pos,after,g⟩ l M S (.int k (ix zs j)):=fun a' w hF hL=>by
 obtain ⟨hav,T',fz,hc⟩:=hG
 have h2:=((hL.snap s hs).2 gb hav).1.trans hc
 have h3:w.cell? ⟨gb,0 + j.toNat * 1,none⟩=some (.int k (ix zs j)):=by
  simp only [World.cell?,h2]
  have:=Zfh hj
  simp [this]
 have h1:=Zcr (P:=C.P) (w:=w) (a:=⟨gb,0 + j.toNat * 1,none⟩) hT h3
 rw [Nat.zero_add,Nat.mul_one] at h1 hx
 simp [execOp,hF.ev hx,Instr.loadAt,Instr.sureAddr,h1,Sem.run_pure,Sem.run_bind]
end
end Go.Proofs.YtadcichlnacagaaDoor.B
