/- The kinds of this seat's values and closed facts on its types, printed by my own tool. No condition. -/
import Derived.Test.YtmfopcbjgbphaaaDoorBW
import Derived.Test.YtmfopcbjgbphaaaDoorR
import Derived.Test.YtmfopcbjgbphaaaDoorProg
import Derived.Test.YtmfopcbjgbphaaaDoorBG
import Derived.Test.YtmfopcbjgbphaaaDoorS
set_option linter.unusedVariables false
set_option maxRecDepth 100000
set_option maxHeartbeats 4000000
namespace Go.Proofs.YtmfopcbjgbphaaaDoor.K
open Go.Proofs.YtmfopcbjgbphaaaDoor.B Go.Proofs.YtmfopcbjgbphaaaDoor.R Go.RowKit
def eJN (x : JNd) : List Value := [.int .i64 x.kind, .string x.key, .string x.text, .int .i64 x.kids]
theorem hl_api_JNode : ∀ x, (eJN x).length = 4 := fun _ => rfl
theorem h1_api_JNode : ∀ x, ∀ u ∈ eJN x, u.oneCell' = true := fun x u hu => List.all_eq_true.1 (show (eJN x).all Value.oneCell' = true from rfl) u hu
abbrev k_api_JNode : Kd JNd := Kd.flat 4 eJN hl_api_JNode h1_api_JNode
theorem eqd_api_JNode (x y : JNd) : eqRun (eJN x).toArray (eJN y).toArray [(0, 1), (1, 2), (2, 2), (3, 1)] = some (decide (x = y)) := by
  cases x; cases y; refine congrArg some ?_; rw [Bool.eq_iff_iff]; simp [seq_dec]
theorem mix : Tryd.prog.follows .mixedOrders = true := by kernel_rfl
theorem un_22 : Tryd.prog.underlying 22 = some (.slice 31) := by kernel_rfl
theorem slE_22 : slE Tryd.prog 22 = some (31, 4) := by kernel_rfl
theorem fo_31_3 : fOff Tryd.prog 31 3 = some 3 := by kernel_rfl
theorem ld_3 : ldK Tryd.prog 3 = some none := by kernel_rfl
theorem sz_3 : szK Tryd.prog 3 = some 1 := by kernel_rfl
theorem ld_31 : ldK Tryd.prog 31 = some (some 4) := by kernel_rfl
theorem bs_22_1 : bldS Tryd.prog 22 1 = some (31, 4, #[.int .i64 0, .string (⟨#[]⟩ : ByteArray), .string (⟨#[]⟩ : ByteArray), .int .i64 0]) := by kernel_rfl
theorem ap_22 : apK Tryd.prog 22 = some (31, 4, 48) := by kernel_rfl
theorem bd_31 : bld Tryd.prog 31 = some (#[.int .i64 0, .string (⟨#[]⟩ : ByteArray), .string (⟨#[]⟩ : ByteArray), .int .i64 0], [(0, 1), (1, 1), (2, 1), (3, 1)]) := by kernel_rfl
theorem fo_70_1 : fOff Tryd.prog 70 1 = some 1 := by kernel_rfl
theorem fo_70_0 : fOff Tryd.prog 70 0 = some 0 := by kernel_rfl
theorem ld_9 : ldK Tryd.prog 9 = some none := by kernel_rfl
theorem un_9 : Tryd.prog.underlying 9 = some (.string) := by kernel_rfl
theorem fo_31_1 : fOff Tryd.prog 31 1 = some 1 := by kernel_rfl
theorem fo_31_0 : fOff Tryd.prog 31 0 = some 0 := by kernel_rfl
theorem ld_29 : ldK Tryd.prog 29 = some none := by kernel_rfl
theorem fo_31_2 : fOff Tryd.prog 31 2 = some 2 := by kernel_rfl
theorem bd_70 : bld Tryd.prog 70 = some (#[.string (⟨#[]⟩ : ByteArray), .int .i64 0, .slice none 0 0, .int .i64 0, .int .i64 0], [(0, 1), (1, 1), (2, 1), (3, 1), (4, 1)]) := by kernel_rfl
theorem zr_31 : zrK Tryd.prog 31 = some [.int .i64 0, .string (⟨#[]⟩ : ByteArray), .string (⟨#[]⟩ : ByteArray), .int .i64 0] := by kernel_rfl
theorem sz_31 : szK Tryd.prog 31 = some 4 := by kernel_rfl
theorem mp_77 : mpK Tryd.prog 77 = some .i64 := by kernel_rfl
theorem un_5 : Tryd.prog.underlying 5 = some (.int .u8) := by kernel_rfl
theorem un_50 : Tryd.prog.underlying 50 = some (.int .u64) := by kernel_rfl
theorem un_3 : Tryd.prog.underlying 3 = some (.int .i64) := by kernel_rfl
theorem ld_34 : ldK Tryd.prog 34 = some none := by kernel_rfl
theorem sz_34 : szK Tryd.prog 34 = some 1 := by kernel_rfl
theorem eq_31 : eqK Tryd.prog 31 = some [(0, 1), (1, 2), (2, 2), (3, 1)] := by kernel_rfl
theorem sz_9 : szK Tryd.prog 9 = some 1 := by kernel_rfl
theorem fo_56_0 : fOff Tryd.prog 56 0 = some 0 := by kernel_rfl
theorem ld_53 : ldK Tryd.prog 53 = some none := by kernel_rfl
theorem un_53 : Tryd.prog.underlying 53 = some (.pointer 56) := by kernel_rfl
theorem pt_53 : ptK Tryd.prog 53 = true := by kernel_rfl
theorem un_92 : Tryd.prog.underlying 92 = some .unsafePointer := by kernel_rfl
theorem li_53_56_0 : lieK Tryd.prog 53 56 2 0 = true := by kernel_rfl
theorem sz_53 : szK Tryd.prog 53 = some 1 := by kernel_rfl
theorem fo_56_1 : fOff Tryd.prog 56 1 = some 1 := by kernel_rfl
theorem ld_54 : ldK Tryd.prog 54 = some none := by kernel_rfl
theorem bs_54_1 : bldS Tryd.prog 54 1 = some (5, 1, #[.int .u8 0]) := by kernel_rfl
theorem ap_54 : apK Tryd.prog 54 = some (5, 1, 1) := by kernel_rfl
theorem sz_54 : szK Tryd.prog 54 = some 1 := by kernel_rfl
theorem as_54_9 : asK Tryd.prog 54 9 5 = true := by kernel_rfl
theorem ar_78 : arK Tryd.prog 78 = some (256, 1) := by kernel_rfl
theorem ld_5 : ldK Tryd.prog 5 = some none := by kernel_rfl
theorem ld_22 : ldK Tryd.prog 22 = some none := by kernel_rfl
theorem ld_57 : ldK Tryd.prog 57 = some none := by kernel_rfl
theorem un_79 : Tryd.prog.underlying 79 = some (.pointer 5) := by kernel_rfl
theorem un_54 : Tryd.prog.underlying 54 = some (.slice 5) := by kernel_rfl
theorem by_79_5 : byK Tryd.prog 79 5 = true := by kernel_rfl
theorem zr_56 : zrK Tryd.prog 56 = some [.pointer none, .slice none 0 0] := by kernel_rfl
theorem zr_3 : zrK Tryd.prog 3 = some [.int .i64 0] := by kernel_rfl
theorem zr_57 : zrK Tryd.prog 57 = some [.nilFunc] := by kernel_rfl
theorem sz_57 : szK Tryd.prog 57 = some 1 := by kernel_rfl
theorem un_21 : Tryd.prog.underlying 21 = some (.int .i32) := by kernel_rfl
theorem bA_42 : bldA Tryd.prog 42 = some (#[.string (⟨#[]⟩ : ByteArray), .string (⟨#[]⟩ : ByteArray), .string (⟨#[]⟩ : ByteArray), .string (⟨#[]⟩ : ByteArray)], 1) := by kernel_rfl
theorem ai_42 : aiK Tryd.prog 42 = some 4 := by kernel_rfl
theorem un_120 : Tryd.prog.underlying 120 = some (.int .u32) := by kernel_rfl
theorem bs_54_2 : bldS Tryd.prog 54 2 = some (5, 1, #[.int .u8 0, .int .u8 0]) := by kernel_rfl
theorem bs_54_3 : bldS Tryd.prog 54 3 = some (5, 1, #[.int .u8 0, .int .u8 0, .int .u8 0]) := by kernel_rfl
theorem bs_54_4 : bldS Tryd.prog 54 4 = some (5, 1, #[.int .u8 0, .int .u8 0, .int .u8 0, .int .u8 0]) := by kernel_rfl
theorem u8_54 : u8K Tryd.prog 54 = true := by kernel_rfl
theorem fo_70_2 : fOff Tryd.prog 70 2 = some 2 := by kernel_rfl
theorem sz_22 : szK Tryd.prog 22 = some 1 := by kernel_rfl
theorem sz_29 : szK Tryd.prog 29 = some 1 := by kernel_rfl
theorem fo_70_3 : fOff Tryd.prog 70 3 = some 3 := by kernel_rfl
theorem fo_70_4 : fOff Tryd.prog 70 4 = some 4 := by kernel_rfl
theorem zr_42 : zrK Tryd.prog 42 = some (encA 4 fun j => [.string ((fun _ => (⟨#[]⟩ : ByteArray)) j)]) := by kernel_rfl
theorem sz_42 : szK Tryd.prog 42 = some 4 := by kernel_rfl
theorem ar_42 : arK Tryd.prog 42 = some (4, 1) := by kernel_rfl
end Go.Proofs.YtmfopcbjgbphaaaDoor.K
