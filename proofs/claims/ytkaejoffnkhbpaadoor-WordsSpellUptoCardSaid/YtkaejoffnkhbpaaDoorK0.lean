/- The kinds of this seat's values and closed facts on its types, printed by my own tool. No condition. -/
import Derived.Test.YtkaejoffnkhbpaaDoorB9
import Derived.Test.YtkaejoffnkhbpaaDoorR
import Derived.Test.YtkaejoffnkhbpaaDoorProg
import Derived.Test.YtkaejoffnkhbpaaDoorBG
import Derived.Test.YtkaejoffnkhbpaaDoorS
set_option linter.unusedVariables false
set_option maxRecDepth 100000
set_option maxHeartbeats 4000000
namespace Go.Proofs.YtkaejoffnkhbpaaDoor.K
open Go.Proofs.YtkaejoffnkhbpaaDoor.B Go.Proofs.YtkaejoffnkhbpaaDoor.R Go.RowKit
def enc_api_Word (x : api_Word) : List Value := [.int .i64 x.kind, .string x.text, .int .i64 x.n, .int .i64 x.at_]
theorem hl_api_Word : ∀ x, (enc_api_Word x).length = 4 := fun _ => rfl
theorem h1_api_Word : ∀ x, ∀ u ∈ enc_api_Word x, u.oneCell' = true := fun x u hu => List.all_eq_true.1 (show (enc_api_Word x).all Value.oneCell' = true from rfl) u hu
abbrev k_api_Word : Kd api_Word := Kd.flat 4 enc_api_Word hl_api_Word h1_api_Word
theorem mix : Tryd.prog.follows .mixedOrders = true := by kernel_rfl
theorem un_22 : Tryd.prog.underlying 22 = some (.slice 27) := by kernel_rfl
theorem slE_22 : slE Tryd.prog 22 = some (27, 4) := by kernel_rfl
theorem ld_27 : ldK Tryd.prog 27 = some (some 4) := by kernel_rfl
theorem bs_22_1 : bldS Tryd.prog 22 1 = some (27, 4, #[.int .i64 0, .string (⟨#[]⟩ : ByteArray), .int .i64 0, .int .i64 0]) := by kernel_rfl
theorem ap_22 : apK Tryd.prog 22 = some (27, 4, 40) := by kernel_rfl
theorem fo_27_0 : fOff Tryd.prog 27 0 = some 0 := by kernel_rfl
theorem ld_25 : ldK Tryd.prog 25 = some none := by kernel_rfl
theorem fo_27_1 : fOff Tryd.prog 27 1 = some 1 := by kernel_rfl
theorem ld_9 : ldK Tryd.prog 9 = some none := by kernel_rfl
theorem un_9 : Tryd.prog.underlying 9 = some (.string) := by kernel_rfl
theorem fo_27_2 : fOff Tryd.prog 27 2 = some 2 := by kernel_rfl
theorem ld_3 : ldK Tryd.prog 3 = some none := by kernel_rfl
theorem bs_44_1 : bldS Tryd.prog 44 1 = some (5, 1, #[.int .u8 0]) := by kernel_rfl
theorem bs_44_2 : bldS Tryd.prog 44 2 = some (5, 1, #[.int .u8 0, .int .u8 0]) := by kernel_rfl
theorem ap_44 : apK Tryd.prog 44 = some (5, 1, 1) := by kernel_rfl
theorem bs_44_4 : bldS Tryd.prog 44 4 = some (5, 1, #[.int .u8 0, .int .u8 0, .int .u8 0, .int .u8 0]) := by kernel_rfl
theorem u8_44 : u8K Tryd.prog 44 = true := by kernel_rfl
theorem bd_27 : bld Tryd.prog 27 = some (#[.int .i64 0, .string (⟨#[]⟩ : ByteArray), .int .i64 0, .int .i64 0], [(0, 1), (1, 1), (2, 1), (3, 1)]) := by kernel_rfl
theorem zr_27 : zrK Tryd.prog 27 = some [.int .i64 0, .string (⟨#[]⟩ : ByteArray), .int .i64 0, .int .i64 0] := by kernel_rfl
theorem sz_27 : szK Tryd.prog 27 = some 4 := by kernel_rfl
theorem bs_41_1 : bldS Tryd.prog 41 1 = some (9, 1, #[.string (⟨#[]⟩ : ByteArray)]) := by kernel_rfl
theorem ap_41 : apK Tryd.prog 41 = some (9, 1, 16) := by kernel_rfl
theorem fo_27_3 : fOff Tryd.prog 27 3 = some 3 := by kernel_rfl
theorem slE_44 : slE Tryd.prog 44 = some (5, 1) := by kernel_rfl
theorem un_5 : Tryd.prog.underlying 5 = some (.int .u8) := by kernel_rfl
theorem un_3 : Tryd.prog.underlying 3 = some (.int .i64) := by kernel_rfl
theorem sz_9 : szK Tryd.prog 9 = some 1 := by kernel_rfl
theorem sz_3 : szK Tryd.prog 3 = some 1 := by kernel_rfl
theorem un_69 : Tryd.prog.underlying 69 = some (.int .u64) := by kernel_rfl
theorem un_44 : Tryd.prog.underlying 44 = some (.slice 5) := by kernel_rfl
theorem un_81 : Tryd.prog.underlying 81 = some (.int .u32) := by kernel_rfl
theorem fo_54_0 : fOff Tryd.prog 54 0 = some 0 := by kernel_rfl
theorem ld_52 : ldK Tryd.prog 52 = some none := by kernel_rfl
theorem fo_54_1 : fOff Tryd.prog 54 1 = some 1 := by kernel_rfl
theorem ld_44 : ldK Tryd.prog 44 = some none := by kernel_rfl
theorem bA_88 : bldA Tryd.prog 88 = some (#[.int .u8 0, .int .u8 0, .int .u8 0, .int .u8 0, .int .u8 0, .int .u8 0, .int .u8 0, .int .u8 0, .int .u8 0, .int .u8 0, .int .u8 0, .int .u8 0, .int .u8 0, .int .u8 0, .int .u8 0, .int .u8 0, .int .u8 0, .int .u8 0, .int .u8 0, .int .u8 0, .int .u8 0, .int .u8 0, .int .u8 0, .int .u8 0, .int .u8 0, .int .u8 0, .int .u8 0, .int .u8 0, .int .u8 0, .int .u8 0, .int .u8 0, .int .u8 0], 1) := by kernel_rfl
end Go.Proofs.YtkaejoffnkhbpaaDoor.K
