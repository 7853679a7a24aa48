/- What the rows lay of tables, at a law's beginning. No condition. -/
import Derived.Test.YtmfopcbjgbphaaaDoorT0
import Derived.Test.YtmfopcbjgbphaaaDoorBW
import Derived.Test.YtmfopcbjgbphaaaDoorBG
import Derived.Lib.LaidU8
set_option linter.unusedVariables false
namespace Go.Proofs.YtmfopcbjgbphaaaDoor.B
open Go.RowKit
theorem Tt.ofTab {P : Program} {W : World} {name : String} {k : IntKind} {zs : List Int} {g : Nat} (h : Lib.TabIs P W name k zs) (hg : P.globalNamed name = some g) : Tt k zs g (St W []) := by
 unfold Lib.TabIs World.var? at h
 rw [hg] at h
 simp only [Option.bind_some] at h
 split at h
 ·rename_i cs T fz hc
  injection h with h
  subst h
  exact Tt.start hc
 ·cases h
theorem laid_reads {P : Program} {W : World} {laid a b : List (String × DataW Unit)} {name : String} {d : DataW Unit} (hn : (laid.all fun x => x.2.handleName?.isNone) = true) (hl : laid = a ++ (name, d) :: b) (h : laidMetH P laid W) : Lib.VarReads P W name d := by
 rw [MakeChecks.laidMetH_plain _ _ _ hn] at h
 obtain ⟨ps, h1, _⟩ := h
 exact Lib.LaidVars_reads h1 name d (by rw [hl]; simp)
theorem fld_all {P : Program} {fs : Array Field} {k : IntKind} {m : Nat} (h : (fs.toList.map fun f => (P.underlying f.type, f.offset, P.cellsOf f.type)) = (List.range m).map fun i => (some (.int k), i, 1)) :
  ∀ (i : Nat) (f : Field), fs[i]? = some f → P.underlying f.type = some (.int k) ∧ f.offset = i ∧ P.cellsOf f.type = 1 := by
 intro i f hf
 have h1 := congrArg (·[i]?) h
 simp only [List.getElem?_map, Array.getElem?_toList, hf, Option.map_some] at h1
 cases h2 : (List.range m)[i]? with
 | none => rw [h2] at h1; cases h1
 | some j =>
  rw [h2] at h1
  obtain ⟨hj, rfl⟩ := List.getElem?_eq_some_iff.1 h2
  simp only [List.getElem_range, Option.map_some, Option.some.injEq, Prod.mk.injEq] at h1
  exact h1
theorem pairs_mem {P : Program} {W : World} {name : String} {k : IntKind} {zs : List (List Int)} {t e : TypeId} {n m : Nat} {fs : Array Field} {g : Nat} (h : Lib.VarReads P W name (.agg (zs.map fun l => .agg (l.map fun z => .lit (.int k z)))))
  (hg : P.globalNamed name = some g) (hty : (P.globals[g]?).map (·.type) = some t) (ht : P.underlying t = some (.array n e)) (he : P.underlying e = some (.struct fs)) (hf : ∀ (i : Nat) (f : Field), fs[i]? = some f → P.underlying f.type = some (.int k) ∧ f.offset = i ∧ P.cellsOf f.type = 1)
  (hce : P.cellsOf e = m) (hcs : fs.size = m) (hct : P.cellsOf t = n * m) (hzn : zs.length = n) : Lib.TabIs P W name k zs.flatten := by
 obtain ⟨g', t', cs, fuel, p, hg', ht', hvar, hd⟩ := h
 obtain rfl := Option.some.inj (hg.symm.trans hg')
 obtain rfl := Option.some.inj (hty.symm.trans ht')
 obtain ⟨xs, q, _, _, hlen, _, _⟩ := DataW.trod_array ht hd
 rw [hct] at hlen
 have key : cs.toList = (List.range n).flatMap fun i => ((zs[i]?).getD []).map fun z => Value.int k z := by
  refine segs hlen fun i hi => ?_
  obtain ⟨f2, d, q2, h1, h2⟩ := Lib.array_elem ht hd i hi
  rw [List.getElem?_map, List.getElem?_eq_getElem (by omega)] at h1
  injection h1 with h1
  subst h1
  rw [hce] at h2
  rw [Lib.ints_of_struct he hf (by rw [hce, hcs]) h2, List.getElem?_eq_getElem (by omega)]
  rfl
 have e2 : (List.range n).flatMap (fun i => ((zs[i]?).getD []).map fun z => Value.int k z) = zs.flatten.map fun z => Value.int k z := by
  rw [← hzn, List.map_flatten, ← List.flatMap_def]
  have : ∀ l : List (List Int), (List.range l.length).flatMap (fun i => ((l[i]?).getD []).map fun z => Value.int k z) = l.flatMap fun l => l.map fun z => Value.int k z := by
   intro l
   induction l with
   | nil => rfl
   | cons a l ih =>
    rw [List.length_cons, List.range_succ_eq_map, List.flatMap_cons, List.flatMap_cons, ← ih, List.flatMap_map]
    rfl
  exact this zs
 unfold Lib.TabIs
 rw [hvar, ← e2, ← key]
end Go.Proofs.YtmfopcbjgbphaaaDoor.B
