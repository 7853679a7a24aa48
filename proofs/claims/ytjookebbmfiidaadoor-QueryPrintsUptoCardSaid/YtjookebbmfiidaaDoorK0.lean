/- The kinds of this seat's values and closed facts on its types, printed by my own tool. No condition. -/
import Derived.Test.YtjookebbmfiidaaDoorBW
import Derived.Test.YtjookebbmfiidaaDoorR
import Derived.Test.YtjookebbmfiidaaDoorProg
import Derived.Test.YtjookebbmfiidaaDoorBG
import Derived.Test.YtjookebbmfiidaaDoorS
set_option linter.unusedVariables false
set_option maxRecDepth 100000
set_option maxHeartbeats 4000000
namespace Go.Proofs.YtjookebbmfiidaaDoor.K
open Go.Proofs.YtjookebbmfiidaaDoor.B Go.Proofs.YtjookebbmfiidaaDoor.R Go.RowKit
def enc_api_PatNode (x : api_PatNode) : List Value := [.string x.name, .bool x.lit, .string x.field, .string x.capture, .int .i64 x.kids]
theorem hl_api_PatNode : ∀ x, (enc_api_PatNode x).length = 5 := fun _ => rfl
theorem h1_api_PatNode : ∀ x, ∀ u ∈ enc_api_PatNode x, u.oneCell' = true := fun x u hu => List.all_eq_true.1 (show (enc_api_PatNode x).all Value.oneCell' = true from rfl) u hu
abbrev k_api_PatNode : Kd api_PatNode := Kd.flat 5 enc_api_PatNode hl_api_PatNode h1_api_PatNode
def enc_api_Cond (x : api_Cond) : List Value := [.bool x.not, .string x.a, .string x.b, .string x.text]
theorem hl_api_Cond : ∀ x, (enc_api_Cond x).length = 4 := fun _ => rfl
theorem h1_api_Cond : ∀ x, ∀ u ∈ enc_api_Cond x, u.oneCell' = true := fun x u hu => List.all_eq_true.1 (show (enc_api_Cond x).all Value.oneCell' = true from rfl) u hu
abbrev k_api_Cond : Kd api_Cond := Kd.flat 4 enc_api_Cond hl_api_Cond h1_api_Cond
def k_api_Query : Kd api_Query := { sz := 2, K := (fun w F x cs => ∃ (A0 : Option Addr), ∃ (n0 : Nat), ∃ (c0 : Nat), ∃ (A1 : Option Addr), ∃ (n1 : Nat), ∃ (c1 : Nat), cs = [.slice A0 n0 c0, .slice A1 n1 c1] ∧ Rw k_api_PatNode w F A0 n0 c0 x.nodes ∧ Rw k_api_Cond w F A1 n1 c1 x.conds), len := (by rintro w F x cs ⟨_, _, _, _, _, _, rfl, _⟩; rfl), one := (by rintro w F x cs ⟨_, _, _, _, _, _, rfl, _⟩; exact fun u hu => List.all_eq_true.1 rfl u hu), mono := (by rintro w w' F F' x cs ⟨_, _, _, _, _, _, rfl, h0, h1⟩ hF; exact ⟨_, _, _, _, _, _, rfl, h0.mono hF, h1.mono hF⟩) }
def enc_api_Word (x : api_Word) : List Value := [.int .i64 x.kind, .string x.text, .int .i64 x.n, .int .i64 x.at_]
theorem hl_api_Word : ∀ x, (enc_api_Word x).length = 4 := fun _ => rfl
theorem h1_api_Word : ∀ x, ∀ u ∈ enc_api_Word x, u.oneCell' = true := fun x u hu => List.all_eq_true.1 (show (enc_api_Word x).all Value.oneCell' = true from rfl) u hu
abbrev k_api_Word : Kd api_Word := Kd.flat 4 enc_api_Word hl_api_Word h1_api_Word
theorem eqd_api_PatNode (x y : api_PatNode) : eqRun (enc_api_PatNode x).toArray (enc_api_PatNode y).toArray [(0, 2), (1, 0), (2, 2), (3, 2), (4, 1)] = some (decide (x = y)) := by
  cases x; cases y; refine congrArg some ?_; rw [Bool.eq_iff_iff]; simp [seq_dec]
theorem eqd_api_Cond (x y : api_Cond) : eqRun (enc_api_Cond x).toArray (enc_api_Cond y).toArray [(0, 0), (1, 2), (2, 2), (3, 2)] = some (decide (x = y)) := by
  cases x; cases y; refine congrArg some ?_; rw [Bool.eq_iff_iff]; simp [seq_dec]
theorem mix : Tryd.prog.follows .mixedOrders = true := by kernel_rfl
theorem un_22 : Tryd.prog.underlying 22 = some (.slice 45) := by kernel_rfl
theorem un_36 : Tryd.prog.underlying 36 = some (.slice 3) := by kernel_rfl
theorem slE_22 : slE Tryd.prog 22 = some (45, 5) := by kernel_rfl
theorem fo_45_4 : fOff Tryd.prog 45 4 = some 4 := by kernel_rfl
theorem ld_3 : ldK Tryd.prog 3 = some none := by kernel_rfl
theorem bs_36_1 : bldS Tryd.prog 36 1 = some (3, 1, #[.int .i64 0]) := by kernel_rfl
theorem ap_36 : apK Tryd.prog 36 = some (3, 1, 8) := by kernel_rfl
theorem slE_36 : slE Tryd.prog 36 = some (3, 1) := by kernel_rfl
theorem sz_3 : szK Tryd.prog 3 = some 1 := by kernel_rfl
theorem zr_25 : zrK Tryd.prog 25 = some [.slice none 0 0, .slice none 0 0] := by kernel_rfl
theorem fo_25_0 : fOff Tryd.prog 25 0 = some 0 := by kernel_rfl
theorem ld_22 : ldK Tryd.prog 22 = some none := by kernel_rfl
theorem ld_45 : ldK Tryd.prog 45 = some (some 5) := by kernel_rfl
theorem bs_22_1 : bldS Tryd.prog 22 1 = some (45, 5, #[.string (⟨#[]⟩ : ByteArray), .bool false, .string (⟨#[]⟩ : ByteArray), .string (⟨#[]⟩ : ByteArray), .int .i64 0]) := by kernel_rfl
theorem ap_22 : apK Tryd.prog 22 = some (45, 5, 64) := by kernel_rfl
theorem sz_22 : szK Tryd.prog 22 = some 1 := by kernel_rfl
theorem fo_25_1 : fOff Tryd.prog 25 1 = some 1 := by kernel_rfl
theorem ld_23 : ldK Tryd.prog 23 = some none := by kernel_rfl
theorem un_23 : Tryd.prog.underlying 23 = some (.slice 47) := by kernel_rfl
theorem slE_23 : slE Tryd.prog 23 = some (47, 4) := by kernel_rfl
theorem ld_47 : ldK Tryd.prog 47 = some (some 4) := by kernel_rfl
theorem bs_23_1 : bldS Tryd.prog 23 1 = some (47, 4, #[.bool false, .string (⟨#[]⟩ : ByteArray), .string (⟨#[]⟩ : ByteArray), .string (⟨#[]⟩ : ByteArray)]) := by kernel_rfl
theorem ap_23 : apK Tryd.prog 23 = some (47, 4, 56) := by kernel_rfl
theorem sz_23 : szK Tryd.prog 23 = some 1 := by kernel_rfl
theorem ld_25 : ldK Tryd.prog 25 = some (some 2) := by kernel_rfl
theorem sz_25 : szK Tryd.prog 25 = some 2 := by kernel_rfl
theorem un_9 : Tryd.prog.underlying 9 = some (.string) := by kernel_rfl
theorem fo_84_0 : fOff Tryd.prog 84 0 = some 0 := by kernel_rfl
theorem ld_79 : ldK Tryd.prog 79 = some none := by kernel_rfl
theorem fo_84_1 : fOff Tryd.prog 84 1 = some 1 := by kernel_rfl
theorem ld_9 : ldK Tryd.prog 9 = some none := by kernel_rfl
theorem fo_84_2 : fOff Tryd.prog 84 2 = some 2 := by kernel_rfl
theorem bd_84 : bld Tryd.prog 84 = some (#[.int .i64 0, .string (⟨#[]⟩ : ByteArray), .int .i64 0, .int .i64 0], [(0, 1), (1, 1), (2, 1), (3, 1)]) := by kernel_rfl
theorem fo_45_3 : fOff Tryd.prog 45 3 = some 3 := by kernel_rfl
theorem zr_45 : zrK Tryd.prog 45 = some [.string (⟨#[]⟩ : ByteArray), .bool false, .string (⟨#[]⟩ : ByteArray), .string (⟨#[]⟩ : ByteArray), .int .i64 0] := by kernel_rfl
theorem sz_45 : szK Tryd.prog 45 = some 5 := by kernel_rfl
theorem fo_45_1 : fOff Tryd.prog 45 1 = some 1 := by kernel_rfl
theorem ld_4 : ldK Tryd.prog 4 = some none := by kernel_rfl
theorem fo_45_0 : fOff Tryd.prog 45 0 = some 0 := by kernel_rfl
theorem fo_45_2 : fOff Tryd.prog 45 2 = some 2 := by kernel_rfl
theorem zr_47 : zrK Tryd.prog 47 = some [.bool false, .string (⟨#[]⟩ : ByteArray), .string (⟨#[]⟩ : ByteArray), .string (⟨#[]⟩ : ByteArray)] := by kernel_rfl
theorem sz_47 : szK Tryd.prog 47 = some 4 := by kernel_rfl
theorem fo_47_1 : fOff Tryd.prog 47 1 = some 1 := by kernel_rfl
theorem fo_47_2 : fOff Tryd.prog 47 2 = some 2 := by kernel_rfl
theorem fo_47_3 : fOff Tryd.prog 47 3 = some 3 := by kernel_rfl
theorem fo_47_0 : fOff Tryd.prog 47 0 = some 0 := by kernel_rfl
theorem un_4 : Tryd.prog.underlying 4 = some (.bool) := by kernel_rfl
theorem bd_45 : bld Tryd.prog 45 = some (#[.string (⟨#[]⟩ : ByteArray), .bool false, .string (⟨#[]⟩ : ByteArray), .string (⟨#[]⟩ : ByteArray), .int .i64 0], [(0, 1), (1, 1), (2, 1), (3, 1), (4, 1)]) := by kernel_rfl
theorem bd_47 : bld Tryd.prog 47 = some (#[.bool false, .string (⟨#[]⟩ : ByteArray), .string (⟨#[]⟩ : ByteArray), .string (⟨#[]⟩ : ByteArray)], [(0, 1), (1, 1), (2, 1), (3, 1)]) := by kernel_rfl
theorem bs_108_1 : bldS Tryd.prog 108 1 = some (5, 1, #[.int .u8 0]) := by kernel_rfl
theorem bs_108_2 : bldS Tryd.prog 108 2 = some (5, 1, #[.int .u8 0, .int .u8 0]) := by kernel_rfl
theorem ap_108 : apK Tryd.prog 108 = some (5, 1, 1) := by kernel_rfl
theorem bs_108_4 : bldS Tryd.prog 108 4 = some (5, 1, #[.int .u8 0, .int .u8 0, .int .u8 0, .int .u8 0]) := by kernel_rfl
theorem u8_108 : u8K Tryd.prog 108 = true := by kernel_rfl
theorem ld_84 : ldK Tryd.prog 84 = some (some 4) := by kernel_rfl
theorem eq_45 : eqK Tryd.prog 45 = some [(0, 2), (1, 0), (2, 2), (3, 2), (4, 1)] := by kernel_rfl
theorem eq_47 : eqK Tryd.prog 47 = some [(0, 0), (1, 2), (2, 2), (3, 2)] := by kernel_rfl
theorem sz_9 : szK Tryd.prog 9 = some 1 := by kernel_rfl
theorem bs_75_1 : bldS Tryd.prog 75 1 = some (84, 4, #[.int .i64 0, .string (⟨#[]⟩ : ByteArray), .int .i64 0, .int .i64 0]) := by kernel_rfl
theorem un_75 : Tryd.prog.underlying 75 = some (.slice 84) := by kernel_rfl
theorem slE_75 : slE Tryd.prog 75 = some (84, 4) := by kernel_rfl
theorem ap_75 : apK Tryd.prog 75 = some (84, 4, 40) := by kernel_rfl
theorem ld_75 : ldK Tryd.prog 75 = some none := by kernel_rfl
theorem sz_75 : szK Tryd.prog 75 = some 1 := by kernel_rfl
theorem ld_85 : ldK Tryd.prog 85 = some none := by kernel_rfl
theorem ld_1 : ldK Tryd.prog 1 = some none := by kernel_rfl
theorem zr_84 : zrK Tryd.prog 84 = some [.int .i64 0, .string (⟨#[]⟩ : ByteArray), .int .i64 0, .int .i64 0] := by kernel_rfl
theorem sz_84 : szK Tryd.prog 84 = some 4 := by kernel_rfl
theorem bs_106_1 : bldS Tryd.prog 106 1 = some (9, 1, #[.string (⟨#[]⟩ : ByteArray)]) := by kernel_rfl
theorem ap_106 : apK Tryd.prog 106 = some (9, 1, 16) := by kernel_rfl
theorem zr_75 : zrK Tryd.prog 75 = some [.slice none 0 0] := by kernel_rfl
theorem zr_85 : zrK Tryd.prog 85 = some [.nilFunc] := by kernel_rfl
theorem sz_85 : szK Tryd.prog 85 = some 1 := by kernel_rfl
theorem zr_3 : zrK Tryd.prog 3 = some [.int .i64 0] := by kernel_rfl
theorem zr_1 : zrK Tryd.prog 1 = some [.nilFunc] := by kernel_rfl
theorem sz_1 : szK Tryd.prog 1 = some 1 := by kernel_rfl
end Go.Proofs.YtjookebbmfiidaaDoor.K
