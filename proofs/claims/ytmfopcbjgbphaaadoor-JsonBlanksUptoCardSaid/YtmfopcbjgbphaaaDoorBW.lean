/- The two tables of unicode/utf8, for the kit's contract of ValidString. No condition. -/
import Derived.Test.YtmfopcbjgbphaaaDoorBV
import Derived.Shelf.Unicode.DecodeSlow
set_option linter.unusedVariables false
namespace Go.Proofs.YtmfopcbjgbphaaaDoor.B
open Go.RowKit
theorem tbh {zs : List Int} {n : Nat} {j : Int} (h : zs.length = n) (hj : 0 ≤ j ∧ j < (n : Int)) : 0 ≤ j ∧ j < (zs.length : Int) := by rw [h]; exact hj
def firstL : List Int := (List.range 256).map fun c => (Lib.firstT c : Int)
def accL : List Int := (List.range 32).map fun i => if i % 2 = 0 then (Lib.accLo (i / 2) : Int) else (Lib.accHi (i / 2) : Int)
theorem tt_cell {k : IntKind} {zs : List Int} {g : Nat} {w : World} {bs : List (List Nat)} (h : Tt k zs g (St w bs)) {i : Nat} {v : Int} (hi : zs[i]? = some v) : w.cell? ⟨g, i, none⟩ = some (.int k v) := by
 obtain ⟨_, T, fz, hc⟩ := h
 have hc : w.heap[g]? = some (.cells (zs.map (Value.int k)).toArray T fz) := hc
 simp [World.cell?, hc, hi]
theorem utf8T {z1 z2 : List Int} {g3 g4 : Nat} {w : World} {bs : List (List Nat)} (h1 : z1 = firstL) (h2 : z2 = accL) (hG1 : Tt .u8 z1 g3 (St w bs)) (hG2 : Tt .u8 z2 g4 (St w bs)) : Lib.Utf8Tabs g3 g4 w := by
 subst h1 h2
 refine ⟨fun c hc => tt_cell hG1 ?_, fun i hi => ⟨tt_cell hG2 ?_, tt_cell hG2 ?_⟩⟩
 ·unfold firstL; rw [List.getElem?_map, List.getElem?_range hc]; rfl
 ·unfold accL
  rw [List.getElem?_map, List.getElem?_range (by omega)]
  have e1 : 2 * i % 2 = 0 := by omega
  have e2 : 2 * i / 2 = i := by omega
  simp [e1, e2]
 ·unfold accL
  rw [List.getElem?_map, List.getElem?_range (by omega)]
  have e1 : ¬ (2 * i + 1) % 2 = 0 := by omega
  have e2 : (2 * i + 1) / 2 = i := by omega
  simp [e1, e2]
end Go.Proofs.YtmfopcbjgbphaaaDoor.B
