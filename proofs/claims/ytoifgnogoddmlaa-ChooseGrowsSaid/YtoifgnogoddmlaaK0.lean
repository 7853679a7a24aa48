/- The kinds of this seat's values and closed facts on its types, printed by my own tool. No condition. -/
import Derived.Test.YtoifgnogoddmlaaB9
import Derived.Test.YtoifgnogoddmlaaR
import Derived.Test.YtoifgnogoddmlaaProg
set_option linter.unusedVariables false
set_option maxRecDepth 100000
set_option maxHeartbeats 4000000
namespace Go.Proofs.Ytoifgnogoddmlaa.K
open Go.Proofs.Ytoifgnogoddmlaa.B Go.Proofs.Ytoifgnogoddmlaa.R Go.RowKit
def enc_api_Node (x : api_Node) : List Value := [.string x.name, .bool x.named, .string x.field, .int .i64 x.from_, .int .i64 x.to, .int .i64 x.kids, .int .i64 x.leaf]
theorem hl_api_Node : ∀ x, (enc_api_Node x).length = 7 := fun _ => rfl
theorem h1_api_Node : ∀ x, ∀ u ∈ enc_api_Node x, u.oneCell' = true := fun x u hu => List.all_eq_true.1 (show (enc_api_Node x).all Value.oneCell' = true from rfl) u hu
abbrev k_api_Node : Kd api_Node := Kd.flat 7 enc_api_Node hl_api_Node h1_api_Node
def enc_api_Range (x : api_Range) : List Value := [.int .i64 x.from_, .int .i64 x.to]
theorem hl_api_Range : ∀ x, (enc_api_Range x).length = 2 := fun _ => rfl
theorem h1_api_Range : ∀ x, ∀ u ∈ enc_api_Range x, u.oneCell' = true := fun x u hu => List.all_eq_true.1 (show (enc_api_Range x).all Value.oneCell' = true from rfl) u hu
abbrev k_api_Range : Kd api_Range := Kd.flat 2 enc_api_Range hl_api_Range h1_api_Range
def k_tree_forest : Kd tree_forest := { sz := 4, K := (fun w F x cs => ∃ (A0 : Option Addr), ∃ (n0 : Nat), ∃ (c0 : Nat), ∃ (A1 : Option Addr), ∃ (n1 : Nat), ∃ (c1 : Nat), ∃ (A2 : Option Addr), ∃ (n2 : Nat), ∃ (c2 : Nat), cs = [.slice A0 n0 c0, .slice A1 n1 c1, .slice A2 n2 c2, .bool x.ok] ∧ Rw k_api_Node w F A0 n0 c0 x.nodes ∧ Rw (kInt .i64) w F A1 n1 c1 x.parent ∧ Rw (kInt .i64) w F A2 n2 c2 x.end_), len := (by rintro w F x cs ⟨_, _, _, _, _, _, _, _, _, rfl, _⟩; rfl), one := (by rintro w F x cs ⟨_, _, _, _, _, _, _, _, _, rfl, _⟩; exact fun u hu => List.all_eq_true.1 rfl u hu), mono := (by rintro w w' F F' x cs ⟨_, _, _, _, _, _, _, _, _, rfl, h0, h1, h2⟩ hF; exact ⟨_, _, _, _, _, _, _, _, _, rfl, h0.mono hF, h1.mono hF, h2.mono hF⟩) }
def kn_trellisref15_Tree : Nat → Kd trellisref15_Tree
  | 0 => { sz := 9, K := fun _ _ _ _ => False, len := fun h => h.elim, one := fun h => h.elim, mono := fun h => h.elim }
  | m + 1 => { sz := 9, K := (fun w F x cs => ∃ (A0 : Option Addr), ∃ (n0 : Nat), ∃ (c0 : Nat), cs = [.string x.node.name, .bool x.node.named, .string x.node.field, .int .i64 x.node.from_, .int .i64 x.node.to, .int .i64 x.node.kids, .int .i64 x.node.leaf, .slice A0 n0 c0, .int .i64 x.at_] ∧ Rw (kn_trellisref15_Tree m) w F A0 n0 c0 x.kids), len := (by rintro w F x cs ⟨_, _, _, rfl, _⟩; rfl), one := (by rintro w F x cs ⟨_, _, _, rfl, _⟩; exact fun u hu => List.all_eq_true.1 rfl u hu), mono := (by rintro w w' F F' x cs ⟨_, _, _, rfl, h0⟩ hF; exact ⟨_, _, _, rfl, h0.mono hF⟩) }
theorem kn_trellisref15_Tree_up (m : Nat) : ∀ {w F x cs}, (kn_trellisref15_Tree m).K w F x cs → (kn_trellisref15_Tree (m + 1)).K w F x cs := by
  induction m with
  | zero => exact fun h => h.elim
  | succ m ih => rintro w F x cs ⟨_, _, _, rfl, h0⟩; exact ⟨_, _, _, rfl, Rw.up (by cases m <;> rfl) (fun h => ih h) h0⟩
theorem kn_trellisref15_Tree_sz (m : Nat) : (kn_trellisref15_Tree m).sz = 9 := by cases m <;> rfl
def k_trellisref15_Tree : Kd trellisref15_Tree := Kd.union 9 kn_trellisref15_Tree kn_trellisref15_Tree_sz
theorem k_trellisref15_Tree_out {w : World} {F : Nat → Prop} {x : trellisref15_Tree} {cs : List Value} (h : (k_trellisref15_Tree).K w F x cs) : ∃ (A0 : Option Addr), ∃ (n0 : Nat), ∃ (c0 : Nat), cs = [.string x.node.name, .bool x.node.named, .string x.node.field, .int .i64 x.node.from_, .int .i64 x.node.to, .int .i64 x.node.kids, .int .i64 x.node.leaf, .slice A0 n0 c0, .int .i64 x.at_] ∧ Rw k_trellisref15_Tree w F A0 n0 c0 x.kids := by
  obtain ⟨m, h⟩ := h
  cases m with
  | zero => exact h.elim
  | succ m =>
    obtain ⟨_, _, _, rfl, h0⟩ := h
    exact ⟨_, _, _, rfl, Rw.up (kn_trellisref15_Tree_sz m).symm (fun h => ⟨m, h⟩) h0⟩
theorem k_trellisref15_Tree_in {w : World} {F : Nat → Prop} {x : trellisref15_Tree} {cs : List Value} (h : ∃ (A0 : Option Addr), ∃ (n0 : Nat), ∃ (c0 : Nat), cs = [.string x.node.name, .bool x.node.named, .string x.node.field, .int .i64 x.node.from_, .int .i64 x.node.to, .int .i64 x.node.kids, .int .i64 x.node.leaf, .slice A0 n0 c0, .int .i64 x.at_] ∧ Rw k_trellisref15_Tree w F A0 n0 c0 x.kids) : (k_trellisref15_Tree).K w F x cs := by
  obtain ⟨_, _, _, rfl, h0⟩ := h
  obtain ⟨m, h'⟩ := Rw.level kn_trellisref15_Tree_sz kn_trellisref15_Tree_up h0
  exact ⟨m + 1, _, _, _, rfl, h'⟩
theorem eqd_api_Range (x y : api_Range) : eqRun (enc_api_Range x).toArray (enc_api_Range y).toArray [(0, 1), (1, 1)] = some (decide (x = y)) := by
  cases x; cases y; refine congrArg some ?_; rw [Bool.eq_iff_iff]; simp [seq_dec]
theorem eqd_api_Node (x y : api_Node) : eqRun (enc_api_Node x).toArray (enc_api_Node y).toArray [(0, 2), (1, 0), (2, 2), (3, 1), (4, 1), (5, 1), (6, 1)] = some (decide (x = y)) := by
  cases x; cases y; refine congrArg some ?_; rw [Bool.eq_iff_iff]; simp [seq_dec]
theorem mix : Try.prog.follows .mixedOrders = true := by kernel_rfl
theorem un_22 : Try.prog.underlying 22 = some (.slice 39) := by kernel_rfl
theorem un_45 : Try.prog.underlying 45 = some (.slice 3) := by kernel_rfl
theorem slE_22 : slE Try.prog 22 = some (39, 7) := by kernel_rfl
theorem fo_39_5 : fOff Try.prog 39 5 = some 5 := by kernel_rfl
theorem ld_3 : ldK Try.prog 3 = some none := by kernel_rfl
theorem bs_45_1 : bldS Try.prog 45 1 = some (3, 1, #[.int .i64 0]) := by kernel_rfl
theorem ap_45 : apK Try.prog 45 = some (3, 1, 8) := by kernel_rfl
theorem slE_45 : slE Try.prog 45 = some (3, 1) := by kernel_rfl
theorem sz_3 : szK Try.prog 3 = some 1 := by kernel_rfl
theorem ld_39 : ldK Try.prog 39 = some (some 7) := by kernel_rfl
theorem bs_22_1 : bldS Try.prog 22 1 = some (39, 7, #[.string (⟨#[]⟩ : ByteArray), .bool false, .string (⟨#[]⟩ : ByteArray), .int .i64 0, .int .i64 0, .int .i64 0, .int .i64 0]) := by kernel_rfl
theorem ap_22 : apK Try.prog 22 = some (39, 7, 72) := by kernel_rfl
theorem bd_39 : bld Try.prog 39 = some (#[.string (⟨#[]⟩ : ByteArray), .bool false, .string (⟨#[]⟩ : ByteArray), .int .i64 0, .int .i64 0, .int .i64 0, .int .i64 0], [(0, 1), (1, 1), (2, 1), (3, 1), (4, 1), (5, 1), (6, 1)]) := by kernel_rfl
theorem zr_24 : zrK Try.prog 24 = some [.int .i64 0, .int .i64 0] := by kernel_rfl
theorem fo_24_0 : fOff Try.prog 24 0 = some 0 := by kernel_rfl
theorem fo_24_1 : fOff Try.prog 24 1 = some 1 := by kernel_rfl
theorem bd_24 : bld Try.prog 24 = some (#[.int .i64 0, .int .i64 0], [(0, 1), (1, 1)]) := by kernel_rfl
theorem sz_24 : szK Try.prog 24 = some 2 := by kernel_rfl
theorem ld_24 : ldK Try.prog 24 = some (some 2) := by kernel_rfl
theorem zr_54 : zrK Try.prog 54 = some [.slice none 0 0, .slice none 0 0, .slice none 0 0, .bool false] := by kernel_rfl
theorem mk_45 : mkK Try.prog 45 = some (3, [.int .i64 0], 8) := by kernel_rfl
theorem bd_54 : bld Try.prog 54 = some (#[.slice none 0 0, .slice none 0 0, .slice none 0 0, .bool false], [(0, 1), (1, 1), (2, 1), (3, 1)]) := by kernel_rfl
theorem sz_54 : szK Try.prog 54 = some 4 := by kernel_rfl
theorem zr_39 : zrK Try.prog 39 = some [.string (⟨#[]⟩ : ByteArray), .bool false, .string (⟨#[]⟩ : ByteArray), .int .i64 0, .int .i64 0, .int .i64 0, .int .i64 0] := by kernel_rfl
theorem sz_39 : szK Try.prog 39 = some 7 := by kernel_rfl
theorem fo_54_1 : fOff Try.prog 54 1 = some 1 := by kernel_rfl
theorem ld_45 : ldK Try.prog 45 = some none := by kernel_rfl
theorem ld_54 : ldK Try.prog 54 = some (some 4) := by kernel_rfl
theorem fo_54_2 : fOff Try.prog 54 2 = some 2 := by kernel_rfl
theorem fo_54_3 : fOff Try.prog 54 3 = some 3 := by kernel_rfl
theorem sz_4 : szK Try.prog 4 = some 1 := by kernel_rfl
theorem ld_4 : ldK Try.prog 4 = some none := by kernel_rfl
theorem fd_54_3 : fdK Try.prog 54 3 = some (3, none) := by kernel_rfl
theorem fo_39_3 : fOff Try.prog 39 3 = some 3 := by kernel_rfl
theorem fo_39_4 : fOff Try.prog 39 4 = some 4 := by kernel_rfl
theorem un_29 : Try.prog.underlying 29 = some (.slice 24) := by kernel_rfl
theorem slE_29 : slE Try.prog 29 = some (24, 2) := by kernel_rfl
theorem eq_24 : eqK Try.prog 24 = some [(0, 1), (1, 1)] := by kernel_rfl
theorem bs_29_1 : bldS Try.prog 29 1 = some (24, 2, #[.int .i64 0, .int .i64 0]) := by kernel_rfl
theorem ap_29 : apK Try.prog 29 = some (24, 2, 16) := by kernel_rfl
theorem zr_70 : zrK Try.prog 70 = some [.string (⟨#[]⟩ : ByteArray), .bool false, .string (⟨#[]⟩ : ByteArray), .int .i64 0, .int .i64 0, .int .i64 0, .int .i64 0, .slice none 0 0, .int .i64 0] := by kernel_rfl
theorem bd_70 : bld Try.prog 70 = some (#[.string (⟨#[]⟩ : ByteArray), .bool false, .string (⟨#[]⟩ : ByteArray), .int .i64 0, .int .i64 0, .int .i64 0, .int .i64 0, .slice none 0 0, .int .i64 0], [(0, 7), (7, 1), (8, 1)]) := by kernel_rfl
theorem sz_70 : szK Try.prog 70 = some 9 := by kernel_rfl
theorem fo_70_1 : fOff Try.prog 70 1 = some 7 := by kernel_rfl
theorem ld_66 : ldK Try.prog 66 = some none := by kernel_rfl
theorem ld_70 : ldK Try.prog 70 = some (some 9) := by kernel_rfl
theorem bs_66_1 : bldS Try.prog 66 1 = some (70, 9, #[.string (⟨#[]⟩ : ByteArray), .bool false, .string (⟨#[]⟩ : ByteArray), .int .i64 0, .int .i64 0, .int .i64 0, .int .i64 0, .slice none 0 0, .int .i64 0]) := by kernel_rfl
theorem ap_66 : apK Try.prog 66 = some (70, 9, 104) := by kernel_rfl
theorem sz_66 : szK Try.prog 66 = some 1 := by kernel_rfl
theorem un_66 : Try.prog.underlying 66 = some (.slice 70) := by kernel_rfl
theorem slE_66 : slE Try.prog 66 = some (70, 9) := by kernel_rfl
theorem fo_70_2 : fOff Try.prog 70 2 = some 8 := by kernel_rfl
theorem fd_24_0 : fdK Try.prog 24 0 = some (0, none) := by kernel_rfl
theorem fd_24_1 : fdK Try.prog 24 1 = some (1, none) := by kernel_rfl
theorem eq_39 : eqK Try.prog 39 = some [(0, 2), (1, 0), (2, 2), (3, 1), (4, 1), (5, 1), (6, 1)] := by kernel_rfl
theorem fo_39_0 : fOff Try.prog 39 0 = some 0 := by kernel_rfl
theorem ld_9 : ldK Try.prog 9 = some none := by kernel_rfl
theorem sz_9 : szK Try.prog 9 = some 1 := by kernel_rfl
theorem bA_65 : bldA Try.prog 65 = some (#[.string (⟨#[]⟩ : ByteArray), .string (⟨#[]⟩ : ByteArray), .string (⟨#[]⟩ : ByteArray), .string (⟨#[]⟩ : ByteArray), .string (⟨#[]⟩ : ByteArray), .string (⟨#[]⟩ : ByteArray), .string (⟨#[]⟩ : ByteArray)], 1) := by kernel_rfl
theorem zr_65 : zrK Try.prog 65 = some (encA 7 fun j => [.string ((fun _ => (⟨#[]⟩ : ByteArray)) j)]) := by kernel_rfl
theorem sz_65 : szK Try.prog 65 = some 7 := by kernel_rfl
theorem fo_39_1 : fOff Try.prog 39 1 = some 1 := by kernel_rfl
theorem ar_65 : arK Try.prog 65 = some (7, 1) := by kernel_rfl
theorem fo_54_0 : fOff Try.prog 54 0 = some 0 := by kernel_rfl
theorem ld_22 : ldK Try.prog 22 = some none := by kernel_rfl
theorem bs_22_4 : bldS Try.prog 22 4 = some (39, 7, #[.string (⟨#[]⟩ : ByteArray), .bool false, .string (⟨#[]⟩ : ByteArray), .int .i64 0, .int .i64 0, .int .i64 0, .int .i64 0, .string (⟨#[]⟩ : ByteArray), .bool false, .string (⟨#[]⟩ : ByteArray), .int .i64 0, .int .i64 0, .int .i64 0, .int .i64 0, .string (⟨#[]⟩ : ByteArray), .bool false, .string (⟨#[]⟩ : ByteArray), .int .i64 0, .int .i64 0, .int .i64 0, .int .i64 0, .string (⟨#[]⟩ : ByteArray), .bool false, .string (⟨#[]⟩ : ByteArray), .int .i64 0, .int .i64 0, .int .i64 0, .int .i64 0]) := by kernel_rfl
theorem un_4 : Try.prog.underlying 4 = some (.bool) := by kernel_rfl
end Go.Proofs.Ytoifgnogoddmlaa.K
