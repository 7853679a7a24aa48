/- The kinds of this seat's values and closed facts on its types, printed by my own tool. No condition. -/
import Derived.Test.YtbejkaeidnajkaaBE
import Derived.Test.YtbejkaeidnajkaaBF
import Derived.Test.YtbejkaeidnajkaaR
import Derived.Test.YtbejkaeidnajkaaProg
set_option linter.unusedVariables false
set_option maxRecDepth 100000
set_option maxHeartbeats 4000000
namespace Go.Proofs.Ytbejkaeidnajkaa.K
open Go.Proofs.Ytbejkaeidnajkaa.B Go.Proofs.Ytbejkaeidnajkaa.R Go.RowKit
def k_rpc_Buffer : Kd rpc_Buffer := { sz := 2, K := (fun w F x cs => ∃ (A0 : Option Addr), ∃ (n0 : Nat), ∃ (c0 : Nat), cs = [.slice A0 n0 c0, .int .i64 x.code] ∧ Rw (kInt .u8) w F A0 n0 c0 x.wait), len := (by rintro w F x cs ⟨_, _, _, rfl, _⟩; rfl), one := (by rintro w F x cs ⟨_, _, _, rfl, _⟩; exact fun u hu => List.all_eq_true.1 rfl u hu), mono := (by rintro w w' F F' x cs ⟨_, _, _, rfl, h0⟩ hF; exact ⟨_, _, _, rfl, h0.mono hF⟩) }
def k_trellisref26_Model : Kd trellisref26_Model := { sz := 2, K := (fun w F x cs => ∃ (A0 : Option Addr), ∃ (n0 : Nat), ∃ (c0 : Nat), cs = [.slice A0 n0 c0, .int .i64 x.code] ∧ Rw (kInt .u8) w F A0 n0 c0 x.b), len := (by rintro w F x cs ⟨_, _, _, rfl, _⟩; rfl), one := (by rintro w F x cs ⟨_, _, _, rfl, _⟩; exact fun u hu => List.all_eq_true.1 rfl u hu), mono := (by rintro w w' F F' x cs ⟨_, _, _, rfl, h0⟩ hF; exact ⟨_, _, _, rfl, h0.mono hF⟩) }
abbrev fk_33 : Fk (List ByteArray) := { α := ByteArray, inn := fun x => x, enc := eS, e := 9, sz := 1, so := 1, cl := fun x d => [.slice d.A d.n d.c], hl := hlS, h1 := hone_str, hcl := fun _ _ => rfl, inj := fun x d d' h => by cases d; cases d'; simpa using h }
theorem mix : Try.prog.follows .mixedOrders = true := by kernel_rfl
theorem bd_41 : bld Try.prog 41 = some (#[.slice none 0 0, .int .i64 0], [(0, 1), (1, 1)]) := by kernel_rfl
theorem fo_41_0 : fOff Try.prog 41 0 = some 0 := by kernel_rfl
theorem ld_27 : ldK Try.prog 27 = some none := by kernel_rfl
theorem un_27 : Try.prog.underlying 27 = some (.slice 5) := by kernel_rfl
theorem un_9 : Try.prog.underlying 9 = some (.string) := by kernel_rfl
theorem slE_27 : slE Try.prog 27 = some (5, 1) := by kernel_rfl
theorem un_5 : Try.prog.underlying 5 = some (.int .u8) := by kernel_rfl
theorem ld_5 : ldK Try.prog 5 = some none := by kernel_rfl
theorem un_3 : Try.prog.underlying 3 = some (.int .i64) := by kernel_rfl
theorem u8_27 : u8K Try.prog 27 = true := by kernel_rfl
theorem fo_41_1 : fOff Try.prog 41 1 = some 1 := by kernel_rfl
theorem ld_34 : ldK Try.prog 34 = some none := by kernel_rfl
theorem mk_27 : mkK Try.prog 27 = some (5, [.int .u8 0], 1) := by kernel_rfl
theorem sz_27 : szK Try.prog 27 = some 1 := by kernel_rfl
theorem bs_33_1 : bldS Try.prog 33 1 = some (9, 1, #[.string (⟨#[]⟩ : ByteArray)]) := by kernel_rfl
theorem ap_33 : apK Try.prog 33 = some (9, 1, 16) := by kernel_rfl
theorem sz_34 : szK Try.prog 34 = some 1 := by kernel_rfl
theorem un_33 : Try.prog.underlying 33 = some (.slice 9) := by kernel_rfl
theorem slE_33 : slE Try.prog 33 = some (9, 1) := by kernel_rfl
theorem ld_9 : ldK Try.prog 9 = some none := by kernel_rfl
theorem un_23 : Try.prog.underlying 23 = some (.pointer 41) := by kernel_rfl
theorem bs_27_0 : bldS Try.prog 27 0 = some (5, 1, #[]) := by kernel_rfl
theorem ap_27 : apK Try.prog 27 = some (5, 1, 1) := by kernel_rfl
theorem bs_33_2 : bldS Try.prog 33 2 = some (9, 1, #[.string (⟨#[]⟩ : ByteArray), .string (⟨#[]⟩ : ByteArray)]) := by kernel_rfl
theorem sz_9 : szK Try.prog 9 = some 1 := by kernel_rfl
theorem un_22 : Try.prog.underlying 22 = some (.slice 27) := by kernel_rfl
theorem slE_22 : slE Try.prog 22 = some (27, 1) := by kernel_rfl
theorem bd_45 : bld Try.prog 45 = some (#[.slice none 0 0, .int .i64 0], [(0, 1), (1, 1)]) := by kernel_rfl
theorem bs_27_1 : bldS Try.prog 27 1 = some (5, 1, #[.int .u8 0]) := by kernel_rfl
theorem fo_45_1 : fOff Try.prog 45 1 = some 1 := by kernel_rfl
theorem fo_45_0 : fOff Try.prog 45 0 = some 0 := by kernel_rfl
theorem sz_5 : szK Try.prog 5 = some 1 := by kernel_rfl
theorem bs_31_1 : bldS Try.prog 31 1 = some (33, 1, #[.slice none 0 0]) := by kernel_rfl
theorem ap_31 : apK Try.prog 31 = some (33, 1, 24) := by kernel_rfl
theorem un_31 : Try.prog.underlying 31 = some (.slice 33) := by kernel_rfl
theorem slE_31 : slE Try.prog 31 = some (33, 1) := by kernel_rfl
theorem ld_33 : ldK Try.prog 33 = some none := by kernel_rfl
end Go.Proofs.Ytbejkaeidnajkaa.K
