/- The kinds of this seat's values and closed facts on its types, printed by my own tool. No condition. -/
import Derived.Test.YtjookebbmfiidaaBE
import Derived.Test.YtjookebbmfiidaaR
import Derived.Test.YtjookebbmfiidaaProg
set_option linter.unusedVariables false
set_option maxRecDepth 100000
set_option maxHeartbeats 4000000
namespace Go.Proofs.Ytjookebbmfiidaa.K
open Go.Proofs.Ytjookebbmfiidaa.B Go.Proofs.Ytjookebbmfiidaa.R Go.RowKit
def enc_api_Word (x : api_Word) : List Value := [.int .i64 x.kind, .string x.text, .int .i64 x.n, .int .i64 x.at_]
theorem hl_api_Word : ∀ x, (enc_api_Word x).length = 4 := fun _ => rfl
theorem h1_api_Word : ∀ x, ∀ u ∈ enc_api_Word x, u.oneCell' = true := fun x u hu => List.all_eq_true.1 (show (enc_api_Word x).all Value.oneCell' = true from rfl) u hu
abbrev k_api_Word : Kd api_Word := Kd.flat 4 enc_api_Word hl_api_Word h1_api_Word
def enc_api_PatNode (x : api_PatNode) : List Value := [.string x.name, .bool x.lit, .string x.field, .string x.capture, .int .i64 x.kids]
theorem hl_api_PatNode : ∀ x, (enc_api_PatNode x).length = 5 := fun _ => rfl
theorem h1_api_PatNode : ∀ x, ∀ u ∈ enc_api_PatNode x, u.oneCell' = true := fun x u hu => List.all_eq_true.1 (show (enc_api_PatNode x).all Value.oneCell' = true from rfl) u hu
abbrev k_api_PatNode : Kd api_PatNode := Kd.flat 5 enc_api_PatNode hl_api_PatNode h1_api_PatNode
def enc_api_Cond (x : api_Cond) : List Value := [.bool x.not, .string x.a, .string x.b, .string x.text]
theorem hl_api_Cond : ∀ x, (enc_api_Cond x).length = 4 := fun _ => rfl
theorem h1_api_Cond : ∀ x, ∀ u ∈ enc_api_Cond x, u.oneCell' = true := fun x u hu => List.all_eq_true.1 (show (enc_api_Cond x).all Value.oneCell' = true from rfl) u hu
abbrev k_api_Cond : Kd api_Cond := Kd.flat 4 enc_api_Cond hl_api_Cond h1_api_Cond
theorem eqd_api_PatNode (x y : api_PatNode) : eqRun (enc_api_PatNode x).toArray (enc_api_PatNode y).toArray [(0, 2), (1, 0), (2, 2), (3, 2), (4, 1)] = some (decide (x = y)) := by
  cases x; cases y; refine congrArg some ?_; rw [Bool.eq_iff_iff]; simp [seq_dec]
theorem eqd_api_Cond (x y : api_Cond) : eqRun (enc_api_Cond x).toArray (enc_api_Cond y).toArray [(0, 0), (1, 2), (2, 2), (3, 2)] = some (decide (x = y)) := by
  cases x; cases y; refine congrArg some ?_; rw [Bool.eq_iff_iff]; simp [seq_dec]
theorem mix : Try.prog.follows .mixedOrders = true := by kernel_rfl
theorem un_9 : Try.prog.underlying 9 = some (.string) := by kernel_rfl
theorem un_5 : Try.prog.underlying 5 = some (.int .u8) := by kernel_rfl
theorem un_3 : Try.prog.underlying 3 = some (.int .i64) := by kernel_rfl
theorem u8_58 : u8K Try.prog 58 = true := by kernel_rfl
theorem bs_58_1 : bldS Try.prog 58 1 = some (5, 1, #[.int .u8 0]) := by kernel_rfl
theorem ap_58 : apK Try.prog 58 = some (5, 1, 1) := by kernel_rfl
theorem zr_41 : zrK Try.prog 41 = some [.int .i64 0, .string (⟨#[]⟩ : ByteArray), .int .i64 0, .int .i64 0] := by kernel_rfl
theorem bd_41 : bld Try.prog 41 = some (#[.int .i64 0, .string (⟨#[]⟩ : ByteArray), .int .i64 0, .int .i64 0], [(0, 1), (1, 1), (2, 1), (3, 1)]) := by kernel_rfl
theorem sz_41 : szK Try.prog 41 = some 4 := by kernel_rfl
theorem ld_41 : ldK Try.prog 41 = some (some 4) := by kernel_rfl
theorem bs_33_1 : bldS Try.prog 33 1 = some (41, 4, #[.int .i64 0, .string (⟨#[]⟩ : ByteArray), .int .i64 0, .int .i64 0]) := by kernel_rfl
theorem ap_33 : apK Try.prog 33 = some (41, 4, 40) := by kernel_rfl
theorem fo_38_0 : fOff Try.prog 38 0 = some 0 := by kernel_rfl
theorem ld_33 : ldK Try.prog 33 = some none := by kernel_rfl
theorem un_33 : Try.prog.underlying 33 = some (.slice 41) := by kernel_rfl
theorem slE_33 : slE Try.prog 33 = some (41, 4) := by kernel_rfl
theorem fo_41_0 : fOff Try.prog 41 0 = some 0 := by kernel_rfl
theorem ld_39 : ldK Try.prog 39 = some none := by kernel_rfl
theorem fo_41_1 : fOff Try.prog 41 1 = some 1 := by kernel_rfl
theorem ld_9 : ldK Try.prog 9 = some none := by kernel_rfl
theorem fo_38_3 : fOff Try.prog 38 3 = some 4 := by kernel_rfl
theorem ld_26 : ldK Try.prog 26 = some none := by kernel_rfl
theorem sz_26 : szK Try.prog 26 = some 1 := by kernel_rfl
theorem fo_38_4 : fOff Try.prog 38 4 = some 5 := by kernel_rfl
theorem sz_3 : szK Try.prog 3 = some 1 := by kernel_rfl
theorem fo_38_1 : fOff Try.prog 38 1 = some 1 := by kernel_rfl
theorem ld_3 : ldK Try.prog 3 = some none := by kernel_rfl
theorem fo_25_0 : fOff Try.prog 25 0 = some 0 := by kernel_rfl
theorem ld_22 : ldK Try.prog 22 = some none := by kernel_rfl
theorem un_22 : Try.prog.underlying 22 = some (.slice 46) := by kernel_rfl
theorem slE_22 : slE Try.prog 22 = some (46, 5) := by kernel_rfl
theorem fo_46_3 : fOff Try.prog 46 3 = some 3 := by kernel_rfl
theorem fo_38_2 : fOff Try.prog 38 2 = some 2 := by kernel_rfl
theorem zr_46 : zrK Try.prog 46 = some [.string (⟨#[]⟩ : ByteArray), .bool false, .string (⟨#[]⟩ : ByteArray), .string (⟨#[]⟩ : ByteArray), .int .i64 0] := by kernel_rfl
theorem ld_46 : ldK Try.prog 46 = some (some 5) := by kernel_rfl
theorem bs_22_1 : bldS Try.prog 22 1 = some (46, 5, #[.string (⟨#[]⟩ : ByteArray), .bool false, .string (⟨#[]⟩ : ByteArray), .string (⟨#[]⟩ : ByteArray), .int .i64 0]) := by kernel_rfl
theorem ap_22 : apK Try.prog 22 = some (46, 5, 64) := by kernel_rfl
theorem sz_22 : szK Try.prog 22 = some 1 := by kernel_rfl
theorem fo_46_2 : fOff Try.prog 46 2 = some 2 := by kernel_rfl
theorem sz_9 : szK Try.prog 9 = some 1 := by kernel_rfl
theorem fo_46_1 : fOff Try.prog 46 1 = some 1 := by kernel_rfl
theorem sz_4 : szK Try.prog 4 = some 1 := by kernel_rfl
theorem fo_46_0 : fOff Try.prog 46 0 = some 0 := by kernel_rfl
theorem fo_46_4 : fOff Try.prog 46 4 = some 4 := by kernel_rfl
theorem ld_25 : ldK Try.prog 25 = some (some 2) := by kernel_rfl
theorem sz_46 : szK Try.prog 46 = some 5 := by kernel_rfl
theorem fo_25_1 : fOff Try.prog 25 1 = some 1 := by kernel_rfl
theorem ld_23 : ldK Try.prog 23 = some none := by kernel_rfl
theorem un_23 : Try.prog.underlying 23 = some (.slice 48) := by kernel_rfl
theorem bd_48 : bld Try.prog 48 = some (#[.bool false, .string (⟨#[]⟩ : ByteArray), .string (⟨#[]⟩ : ByteArray), .string (⟨#[]⟩ : ByteArray)], [(0, 1), (1, 1), (2, 1), (3, 1)]) := by kernel_rfl
theorem zr_48 : zrK Try.prog 48 = some [.bool false, .string (⟨#[]⟩ : ByteArray), .string (⟨#[]⟩ : ByteArray), .string (⟨#[]⟩ : ByteArray)] := by kernel_rfl
theorem sz_48 : szK Try.prog 48 = some 4 := by kernel_rfl
theorem fo_48_3 : fOff Try.prog 48 3 = some 3 := by kernel_rfl
theorem ld_48 : ldK Try.prog 48 = some (some 4) := by kernel_rfl
theorem bs_23_1 : bldS Try.prog 23 1 = some (48, 4, #[.bool false, .string (⟨#[]⟩ : ByteArray), .string (⟨#[]⟩ : ByteArray), .string (⟨#[]⟩ : ByteArray)]) := by kernel_rfl
theorem ap_23 : apK Try.prog 23 = some (48, 4, 56) := by kernel_rfl
theorem sz_23 : szK Try.prog 23 = some 1 := by kernel_rfl
theorem fo_48_2 : fOff Try.prog 48 2 = some 2 := by kernel_rfl
theorem zr_25 : zrK Try.prog 25 = some [.slice none 0 0, .slice none 0 0] := by kernel_rfl
theorem bd_38 : bld Try.prog 38 = some (#[.slice none 0 0, .int .i64 0, .slice none 0 0, .slice none 0 0, .int .i64 0, .int .i64 0], [(0, 1), (1, 1), (2, 2), (4, 1), (5, 1)]) := by kernel_rfl
theorem sz_25 : szK Try.prog 25 = some 2 := by kernel_rfl
theorem bd_25 : bld Try.prog 25 = some (#[.slice none 0 0, .slice none 0 0], [(0, 1), (1, 1)]) := by kernel_rfl
theorem fo_41_3 : fOff Try.prog 41 3 = some 3 := by kernel_rfl
theorem slE_58 : slE Try.prog 58 = some (5, 1) := by kernel_rfl
theorem fo_44_0 : fOff Try.prog 44 0 = some 0 := by kernel_rfl
theorem fo_44_1 : fOff Try.prog 44 1 = some 1 := by kernel_rfl
theorem fo_44_4 : fOff Try.prog 44 4 = some 5 := by kernel_rfl
theorem fo_44_2 : fOff Try.prog 44 2 = some 2 := by kernel_rfl
theorem fo_44_5 : fOff Try.prog 44 5 = some 6 := by kernel_rfl
theorem fo_44_3 : fOff Try.prog 44 3 = some 3 := by kernel_rfl
theorem bd_46 : bld Try.prog 46 = some (#[.string (⟨#[]⟩ : ByteArray), .bool false, .string (⟨#[]⟩ : ByteArray), .string (⟨#[]⟩ : ByteArray), .int .i64 0], [(0, 1), (1, 1), (2, 1), (3, 1), (4, 1)]) := by kernel_rfl
theorem fo_48_0 : fOff Try.prog 48 0 = some 0 := by kernel_rfl
theorem fo_48_1 : fOff Try.prog 48 1 = some 1 := by kernel_rfl
theorem bd_44 : bld Try.prog 44 = some (#[.slice none 0 0, .int .i64 0, .int .i64 0, .slice none 0 0, .slice none 0 0, .int .i64 0, .int .i64 0], [(0, 1), (1, 1), (2, 1), (3, 2), (5, 1), (6, 1)]) := by kernel_rfl
theorem slE_23 : slE Try.prog 23 = some (48, 4) := by kernel_rfl
theorem eq_46 : eqK Try.prog 46 = some [(0, 2), (1, 0), (2, 2), (3, 2), (4, 1)] := by kernel_rfl
theorem eq_48 : eqK Try.prog 48 = some [(0, 0), (1, 2), (2, 2), (3, 2)] := by kernel_rfl
end Go.Proofs.Ytjookebbmfiidaa.K
