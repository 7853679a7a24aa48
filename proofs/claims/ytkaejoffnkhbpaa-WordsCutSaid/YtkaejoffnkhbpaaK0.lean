/- The kinds of this seat's values and closed facts on its types, printed by my own tool. No condition. -/
import Derived.Test.YtkaejoffnkhbpaaB8
import Derived.Test.YtkaejoffnkhbpaaR
import Derived.Test.YtkaejoffnkhbpaaProg
set_option linter.unusedVariables false
set_option maxRecDepth 100000
namespace Go.Proofs.Ytkaejoffnkhbpaa.K
open Go.Proofs.Ytkaejoffnkhbpaa.B Go.Proofs.Ytkaejoffnkhbpaa.R Go.RowKit
def enc_api_Word (x : api_Word) : List Value := [.int .i64 x.kind, .string x.text, .int .i64 x.n, .int .i64 x.at_]
theorem hl_api_Word : ∀ x, (enc_api_Word x).length = 4 := fun _ => rfl
theorem h1_api_Word : ∀ x, ∀ u ∈ enc_api_Word x, u.oneCell' = true := fun x u hu => List.all_eq_true.1 (show (enc_api_Word x).all Value.oneCell' = true from rfl) u hu
abbrev k_api_Word : Kd api_Word := Kd.flat 4 enc_api_Word hl_api_Word h1_api_Word
theorem mix : Try.prog.follows .mixedOrders = true := by kernel_rfl
theorem un_9 : Try.prog.underlying 9 = some (.string) := by kernel_rfl
theorem bs_31_1 : bldS Try.prog 31 1 = some (5, 1, #[.int .u8 0]) := by kernel_rfl
theorem ap_31 : apK Try.prog 31 = some (5, 1, 1) := by kernel_rfl
theorem u8_31 : u8K Try.prog 31 = true := by kernel_rfl
theorem bd_29 : bld Try.prog 29 = some (#[.int .i64 0, .string (⟨#[]⟩ : ByteArray), .int .i64 0, .int .i64 0], [(0, 1), (1, 1), (2, 1), (3, 1)]) := by kernel_rfl
theorem bs_22_1 : bldS Try.prog 22 1 = some (29, 4, #[.int .i64 0, .string (⟨#[]⟩ : ByteArray), .int .i64 0, .int .i64 0]) := by kernel_rfl
theorem ap_22 : apK Try.prog 22 = some (29, 4, 40) := by kernel_rfl
theorem un_5 : Try.prog.underlying 5 = some (.int .u8) := by kernel_rfl
theorem un_3 : Try.prog.underlying 3 = some (.int .i64) := by kernel_rfl
theorem zr_29 : zrK Try.prog 29 = some [.int .i64 0, .string (⟨#[]⟩ : ByteArray), .int .i64 0, .int .i64 0] := by kernel_rfl
theorem sz_29 : szK Try.prog 29 = some 4 := by kernel_rfl
theorem ld_29 : ldK Try.prog 29 = some (some 4) := by kernel_rfl
theorem fo_29_0 : fOff Try.prog 29 0 = some 0 := by kernel_rfl
theorem ld_27 : ldK Try.prog 27 = some none := by kernel_rfl
theorem fo_29_1 : fOff Try.prog 29 1 = some 1 := by kernel_rfl
theorem ld_9 : ldK Try.prog 9 = some none := by kernel_rfl
theorem fo_29_2 : fOff Try.prog 29 2 = some 2 := by kernel_rfl
theorem ld_3 : ldK Try.prog 3 = some none := by kernel_rfl
theorem fo_29_3 : fOff Try.prog 29 3 = some 3 := by kernel_rfl
theorem un_22 : Try.prog.underlying 22 = some (.slice 29) := by kernel_rfl
theorem slE_22 : slE Try.prog 22 = some (29, 4) := by kernel_rfl
end Go.Proofs.Ytkaejoffnkhbpaa.K
