/- The kinds of this seat's values and closed facts on its types, printed by my own tool. No condition. -/
import Derived.Test.YtbejkaeidnajkaaDoorB9
import Derived.Test.YtbejkaeidnajkaaDoorR
import Derived.Test.YtbejkaeidnajkaaDoorProg
import Derived.Test.YtbejkaeidnajkaaDoorBG
import Derived.Test.YtbejkaeidnajkaaDoorS
set_option linter.unusedVariables false
set_option maxRecDepth 100000
set_option maxHeartbeats 4000000
namespace Go.Proofs.YtbejkaeidnajkaaDoor.K
open Go.Proofs.YtbejkaeidnajkaaDoor.B Go.Proofs.YtbejkaeidnajkaaDoor.R Go.RowKit
def k_rpc_Buffer : Kd rpc_Buffer := { sz := 2, K := (fun w F x cs => ∃ (A0 : Option Addr), ∃ (n0 : Nat), ∃ (c0 : Nat), cs = [.slice A0 n0 c0, .int .i64 x.code] ∧ Rw (kInt .u8) w F A0 n0 c0 x.wait), len := (by rintro w F x cs ⟨_, _, _, rfl, _⟩; rfl), one := (by rintro w F x cs ⟨_, _, _, rfl, _⟩; exact fun u hu => List.all_eq_true.1 rfl u hu), mono := (by rintro w w' F F' x cs ⟨_, _, _, rfl, h0⟩ hF; exact ⟨_, _, _, rfl, h0.mono hF⟩) }
theorem mix : Tryd.prog.follows .mixedOrders = true := by kernel_rfl
theorem un_9 : Tryd.prog.underlying 9 = some (.string) := by kernel_rfl
theorem slE_22 : slE Tryd.prog 22 = some (5, 1) := by kernel_rfl
theorem un_5 : Tryd.prog.underlying 5 = some (.int .u8) := by kernel_rfl
theorem un_22 : Tryd.prog.underlying 22 = some (.slice 5) := by kernel_rfl
theorem ld_5 : ldK Tryd.prog 5 = some none := by kernel_rfl
theorem bs_22_1 : bldS Tryd.prog 22 1 = some (5, 1, #[.int .u8 0]) := by kernel_rfl
theorem ap_22 : apK Tryd.prog 22 = some (5, 1, 1) := by kernel_rfl
theorem un_3 : Tryd.prog.underlying 3 = some (.int .i64) := by kernel_rfl
theorem u8_22 : u8K Tryd.prog 22 = true := by kernel_rfl
theorem sz_5 : szK Tryd.prog 5 = some 1 := by kernel_rfl
theorem bd_52 : bld Tryd.prog 52 = some (#[.slice none 0 0, .int .i64 0], [(0, 1), (1, 1)]) := by kernel_rfl
theorem fo_52_1 : fOff Tryd.prog 52 1 = some 1 := by kernel_rfl
theorem ld_23 : ldK Tryd.prog 23 = some none := by kernel_rfl
theorem fo_52_0 : fOff Tryd.prog 52 0 = some 0 := by kernel_rfl
theorem ld_22 : ldK Tryd.prog 22 = some none := by kernel_rfl
theorem mk_22 : mkK Tryd.prog 22 = some (5, [.int .u8 0], 1) := by kernel_rfl
theorem sz_22 : szK Tryd.prog 22 = some 1 := by kernel_rfl
theorem bs_35_1 : bldS Tryd.prog 35 1 = some (9, 1, #[.string (⟨#[]⟩ : ByteArray)]) := by kernel_rfl
theorem ap_35 : apK Tryd.prog 35 = some (9, 1, 16) := by kernel_rfl
theorem sz_23 : szK Tryd.prog 23 = some 1 := by kernel_rfl
theorem un_46 : Tryd.prog.underlying 46 = some (.pointer 52) := by kernel_rfl
theorem un_35 : Tryd.prog.underlying 35 = some (.slice 9) := by kernel_rfl
theorem slE_35 : slE Tryd.prog 35 = some (9, 1) := by kernel_rfl
theorem ld_9 : ldK Tryd.prog 9 = some none := by kernel_rfl
theorem un_34 : Tryd.prog.underlying 34 = some (.slice 22) := by kernel_rfl
theorem slE_34 : slE Tryd.prog 34 = some (22, 1) := by kernel_rfl
theorem bs_34_1 : bldS Tryd.prog 34 1 = some (22, 1, #[.slice none 0 0]) := by kernel_rfl
theorem bs_40_1 : bldS Tryd.prog 40 1 = some (3, 1, #[.int .i64 0]) := by kernel_rfl
theorem ap_40 : apK Tryd.prog 40 = some (3, 1, 8) := by kernel_rfl
theorem un_40 : Tryd.prog.underlying 40 = some (.slice 3) := by kernel_rfl
theorem slE_40 : slE Tryd.prog 40 = some (3, 1) := by kernel_rfl
theorem ld_3 : ldK Tryd.prog 3 = some none := by kernel_rfl
theorem ap_34 : apK Tryd.prog 34 = some (22, 1, 24) := by kernel_rfl
theorem un_55 : Tryd.prog.underlying 55 = some (.int .u64) := by kernel_rfl
theorem un_63 : Tryd.prog.underlying 63 = some (.int .u32) := by kernel_rfl
end Go.Proofs.YtbejkaeidnajkaaDoor.K
