/- The kinds of this seat's values and closed facts on its types, printed by my own tool. No condition. -/
import Derived.Test.YtelafghkjlpojaaB9
import Derived.Test.YtelafghkjlpojaaR
import Derived.Test.YtelafghkjlpojaaProg
set_option linter.unusedVariables false
set_option maxRecDepth 100000
set_option maxHeartbeats 4000000
namespace Go.Proofs.Ytelafghkjlpojaa.K
open Go.Proofs.Ytelafghkjlpojaa.B Go.Proofs.Ytelafghkjlpojaa.R Go.RowKit
def enc_api_Ref (x : api_Ref) : List Value := [.int .i64 x.sym, .string x.field, .string x.as]
theorem hl_api_Ref : ∀ x, (enc_api_Ref x).length = 3 := fun _ => rfl
theorem h1_api_Ref : ∀ x, ∀ u ∈ enc_api_Ref x, u.oneCell' = true := fun x u hu => List.all_eq_true.1 (show (enc_api_Ref x).all Value.oneCell' = true from rfl) u hu
abbrev k_api_Ref : Kd api_Ref := Kd.flat 3 enc_api_Ref hl_api_Ref h1_api_Ref
def enc_api_TermDef (x : api_TermDef) : List Value := [.string x.name, .bool x.lit]
theorem hl_api_TermDef : ∀ x, (enc_api_TermDef x).length = 2 := fun _ => rfl
theorem h1_api_TermDef : ∀ x, ∀ u ∈ enc_api_TermDef x, u.oneCell' = true := fun x u hu => List.all_eq_true.1 (show (enc_api_TermDef x).all Value.oneCell' = true from rfl) u hu
abbrev k_api_TermDef : Kd api_TermDef := Kd.flat 2 enc_api_TermDef hl_api_TermDef h1_api_TermDef
def enc_api_Sym (x : api_Sym) : List Value := [.string x.name, .int .i64 x.kind]
theorem hl_api_Sym : ∀ x, (enc_api_Sym x).length = 2 := fun _ => rfl
theorem h1_api_Sym : ∀ x, ∀ u ∈ enc_api_Sym x, u.oneCell' = true := fun x u hu => List.all_eq_true.1 (show (enc_api_Sym x).all Value.oneCell' = true from rfl) u hu
abbrev k_api_Sym : Kd api_Sym := Kd.flat 2 enc_api_Sym hl_api_Sym h1_api_Sym
def k_api_Prod : Kd api_Prod := { sz := 2, K := (fun w F x cs => ∃ (A0 : Option Addr), ∃ (n0 : Nat), ∃ (c0 : Nat), cs = [.int .i64 x.lhs, .slice A0 n0 c0] ∧ Rw k_api_Ref w F A0 n0 c0 x.rhs), len := (by rintro w F x cs ⟨_, _, _, rfl, _⟩; rfl), one := (by rintro w F x cs ⟨_, _, _, rfl, _⟩; exact fun u hu => List.all_eq_true.1 rfl u hu), mono := (by rintro w w' F F' x cs ⟨_, _, _, rfl, h0⟩ hF; exact ⟨_, _, _, rfl, h0.mono hF⟩) }
def k_api_Gram : Kd api_Gram := { sz := 3, K := (fun w F x cs => ∃ (A0 : Option Addr), ∃ (n0 : Nat), ∃ (c0 : Nat), ∃ (A1 : Option Addr), ∃ (n1 : Nat), ∃ (c1 : Nat), ∃ (A2 : Option Addr), ∃ (n2 : Nat), ∃ (c2 : Nat), cs = [.slice A0 n0 c0, .slice A1 n1 c1, .slice A2 n2 c2] ∧ Rw k_api_TermDef w F A0 n0 c0 x.terms ∧ Rw k_api_Sym w F A1 n1 c1 x.syms ∧ Rw k_api_Prod w F A2 n2 c2 x.prods), len := (by rintro w F x cs ⟨_, _, _, _, _, _, _, _, _, rfl, _⟩; rfl), one := (by rintro w F x cs ⟨_, _, _, _, _, _, _, _, _, rfl, _⟩; exact fun u hu => List.all_eq_true.1 rfl u hu), mono := (by rintro w w' F F' x cs ⟨_, _, _, _, _, _, _, _, _, rfl, h0, h1, h2⟩ hF; exact ⟨_, _, _, _, _, _, _, _, _, rfl, h0.mono hF, h1.mono hF, h2.mono hF⟩) }
def enc_first_sets (x : first_sets) : List Value := (encA 192 fun j => [.int .u64 (x.first j)]) ++ ((encA 192 fun j => [.bool (x.vanishes j)]))
theorem hl_first_sets (x : first_sets) : (enc_first_sets x).length = 384 := by
  unfold enc_first_sets
  have e0 : ((encA 192 fun j => [.int .u64 (x.first j)]) : List Value).length = 192 := (encA_len (sz := 1) (f := fun j => [.int .u64 (x.first j)]) (fun j => rfl) 192)
  have e1 : ((encA 192 fun j => [.bool (x.vanishes j)]) : List Value).length = 192 := (encA_len (sz := 1) (f := fun j => [.bool (x.vanishes j)]) (fun j => rfl) 192)
  simp only [List.length_append, e0, e1]
theorem ho_first_sets (x : first_sets) : (enc_first_sets x).all Value.oneCell' = true := by
  unfold enc_first_sets
  simp only [List.all_append, Bool.and_eq_true]
  exact ⟨(encA_one (f := fun j => [.int .u64 (x.first j)]) (fun j => rfl) 192), (encA_one (f := fun j => [.bool (x.vanishes j)]) (fun j => rfl) 192)⟩
theorem h1_first_sets : ∀ x, ∀ u ∈ enc_first_sets x, u.oneCell' = true := fun x u hu => List.all_eq_true.1 (ho_first_sets x) u hu
abbrev k_first_sets : Kd first_sets := Kd.flat 384 enc_first_sets hl_first_sets h1_first_sets
theorem pt_first_sets_first (x : first_sets) (y : Int → Int) : Pt (enc_first_sets x) 0 ((encA 192 fun j => [.int .u64 (x.first j)])) ((encA 192 fun j => [.int .u64 (y j)])) (enc_first_sets { x with first := y }) := ⟨[], (encA 192 fun j => [.bool (x.vanishes j)]), by simp [enc_first_sets], by simp [enc_first_sets], by
  simp only [List.length_append, List.length_nil]⟩
theorem pt_first_sets_vanishes (x : first_sets) (y : Int → Bool) : Pt (enc_first_sets x) 192 ((encA 192 fun j => [.bool (x.vanishes j)])) ((encA 192 fun j => [.bool (y j)])) (enc_first_sets { x with vanishes := y }) := ⟨(encA 192 fun j => [.int .u64 (x.first j)]), [], by simp [enc_first_sets], by simp [enc_first_sets], by
  have e0 : ((encA 192 fun j => [.int .u64 (x.first j)]) : List Value).length = 192 := (encA_len (sz := 1) (f := fun j => [.int .u64 (x.first j)]) (fun j => rfl) 192)
  simp only [List.length_append, List.length_nil, e0]⟩
def enc_trellislaw11_Replace (x : trellislaw11_Replace) : List Value := [.int .i64 x.at_, .int .i64 x.prod]
theorem hl_trellislaw11_Replace : ∀ x, (enc_trellislaw11_Replace x).length = 2 := fun _ => rfl
theorem h1_trellislaw11_Replace : ∀ x, ∀ u ∈ enc_trellislaw11_Replace x, u.oneCell' = true := fun x u hu => List.all_eq_true.1 (show (enc_trellislaw11_Replace x).all Value.oneCell' = true from rfl) u hu
abbrev k_trellislaw11_Replace : Kd trellislaw11_Replace := Kd.flat 2 enc_trellislaw11_Replace hl_trellislaw11_Replace h1_trellislaw11_Replace
theorem eqd_api_Ref (x y : api_Ref) : eqRun (enc_api_Ref x).toArray (enc_api_Ref y).toArray [(0, 1), (1, 2), (2, 2)] = some (decide (x = y)) := by
  cases x; cases y; refine congrArg some ?_; rw [Bool.eq_iff_iff]; simp [seq_dec]
theorem eqd_api_TermDef (x y : api_TermDef) : eqRun (enc_api_TermDef x).toArray (enc_api_TermDef y).toArray [(0, 2), (1, 0)] = some (decide (x = y)) := by
  cases x; cases y; refine congrArg some ?_; rw [Bool.eq_iff_iff]; simp [seq_dec]
theorem eqd_api_Sym (x y : api_Sym) : eqRun (enc_api_Sym x).toArray (enc_api_Sym y).toArray [(0, 2), (1, 1)] = some (decide (x = y)) := by
  cases x; cases y; refine congrArg some ?_; rw [Bool.eq_iff_iff]; simp [seq_dec]
theorem mix : Try.prog.follows .mixedOrders = true := by kernel_rfl
theorem un_27 : Try.prog.underlying 27 = some (.slice 36) := by kernel_rfl
theorem slE_27 : slE Try.prog 27 = some (36, 3) := by kernel_rfl
theorem ld_36 : ldK Try.prog 36 = some (some 3) := by kernel_rfl
theorem bs_27_1 : bldS Try.prog 27 1 = some (36, 3, #[.int .i64 0, .string (⟨#[]⟩ : ByteArray), .string (⟨#[]⟩ : ByteArray)]) := by kernel_rfl
theorem ap_27 : apK Try.prog 27 = some (36, 3, 40) := by kernel_rfl
theorem zr_26 : zrK Try.prog 26 = some [.slice none 0 0, .slice none 0 0, .slice none 0 0] := by kernel_rfl
theorem fo_26_0 : fOff Try.prog 26 0 = some 0 := by kernel_rfl
theorem ld_22 : ldK Try.prog 22 = some none := by kernel_rfl
theorem un_22 : Try.prog.underlying 22 = some (.slice 58) := by kernel_rfl
theorem slE_22 : slE Try.prog 22 = some (58, 2) := by kernel_rfl
theorem ld_58 : ldK Try.prog 58 = some (some 2) := by kernel_rfl
theorem bs_22_1 : bldS Try.prog 22 1 = some (58, 2, #[.string (⟨#[]⟩ : ByteArray), .bool false]) := by kernel_rfl
theorem ap_22 : apK Try.prog 22 = some (58, 2, 24) := by kernel_rfl
theorem sz_22 : szK Try.prog 22 = some 1 := by kernel_rfl
theorem fo_26_1 : fOff Try.prog 26 1 = some 1 := by kernel_rfl
theorem ld_23 : ldK Try.prog 23 = some none := by kernel_rfl
theorem un_23 : Try.prog.underlying 23 = some (.slice 61) := by kernel_rfl
theorem slE_23 : slE Try.prog 23 = some (61, 2) := by kernel_rfl
theorem ld_61 : ldK Try.prog 61 = some (some 2) := by kernel_rfl
theorem bs_23_1 : bldS Try.prog 23 1 = some (61, 2, #[.string (⟨#[]⟩ : ByteArray), .int .i64 0]) := by kernel_rfl
theorem ap_23 : apK Try.prog 23 = some (61, 2, 24) := by kernel_rfl
theorem sz_23 : szK Try.prog 23 = some 1 := by kernel_rfl
theorem fo_26_2 : fOff Try.prog 26 2 = some 2 := by kernel_rfl
theorem ld_24 : ldK Try.prog 24 = some none := by kernel_rfl
theorem un_24 : Try.prog.underlying 24 = some (.slice 38) := by kernel_rfl
theorem slE_24 : slE Try.prog 24 = some (38, 2) := by kernel_rfl
theorem fo_38_0 : fOff Try.prog 38 0 = some 0 := by kernel_rfl
theorem ld_3 : ldK Try.prog 3 = some none := by kernel_rfl
theorem fo_38_1 : fOff Try.prog 38 1 = some 1 := by kernel_rfl
theorem ld_27 : ldK Try.prog 27 = some none := by kernel_rfl
theorem bd_38 : bld Try.prog 38 = some (#[.int .i64 0, .slice none 0 0], [(0, 1), (1, 1)]) := by kernel_rfl
theorem bs_24_1 : bldS Try.prog 24 1 = some (38, 2, #[.int .i64 0, .slice none 0 0]) := by kernel_rfl
theorem ap_24 : apK Try.prog 24 = some (38, 2, 32) := by kernel_rfl
theorem sz_24 : szK Try.prog 24 = some 1 := by kernel_rfl
theorem ld_26 : ldK Try.prog 26 = some (some 3) := by kernel_rfl
theorem sz_26 : szK Try.prog 26 = some 3 := by kernel_rfl
theorem fo_36_0 : fOff Try.prog 36 0 = some 0 := by kernel_rfl
theorem ld_38 : ldK Try.prog 38 = some (some 2) := by kernel_rfl
theorem zr_38 : zrK Try.prog 38 = some [.int .i64 0, .slice none 0 0] := by kernel_rfl
theorem sz_38 : szK Try.prog 38 = some 2 := by kernel_rfl
theorem slE_40 : slE Try.prog 40 = some (4, 1) := by kernel_rfl
theorem ld_4 : ldK Try.prog 4 = some none := by kernel_rfl
theorem mk_40 : mkK Try.prog 40 = some (4, [.bool false], 1) := by kernel_rfl
theorem sz_4 : szK Try.prog 4 = some 1 := by kernel_rfl
theorem un_3 : Try.prog.underlying 3 = some (.int .i64) := by kernel_rfl
theorem un_49 : Try.prog.underlying 49 = some (.int .u64) := by kernel_rfl
theorem bd_36 : bld Try.prog 36 = some (#[.int .i64 0, .string (⟨#[]⟩ : ByteArray), .string (⟨#[]⟩ : ByteArray)], [(0, 1), (1, 1), (2, 1)]) := by kernel_rfl
theorem bd_58 : bld Try.prog 58 = some (#[.string (⟨#[]⟩ : ByteArray), .bool false], [(0, 1), (1, 1)]) := by kernel_rfl
theorem bd_61 : bld Try.prog 61 = some (#[.string (⟨#[]⟩ : ByteArray), .int .i64 0], [(0, 1), (1, 1)]) := by kernel_rfl
theorem sz_27 : szK Try.prog 27 = some 1 := by kernel_rfl
theorem zr_36 : zrK Try.prog 36 = some [.int .i64 0, .string (⟨#[]⟩ : ByteArray), .string (⟨#[]⟩ : ByteArray)] := by kernel_rfl
theorem sz_36 : szK Try.prog 36 = some 3 := by kernel_rfl
theorem fo_67_0 : fOff Try.prog 67 0 = some 0 := by kernel_rfl
theorem ar_64 : arK Try.prog 64 = some (192, 1) := by kernel_rfl
theorem ld_29 : ldK Try.prog 29 = some none := by kernel_rfl
theorem fo_67_1 : fOff Try.prog 67 1 = some 192 := by kernel_rfl
theorem ar_65 : arK Try.prog 65 = some (192, 1) := by kernel_rfl
theorem zr_67 : zrK Try.prog 67 = some (enc_first_sets (⟨(fun _ => 0), (fun _ => false)⟩ : first_sets)) := by kernel_rfl
theorem sz_29 : szK Try.prog 29 = some 1 := by kernel_rfl
theorem ld_67 : ldK Try.prog 67 = some (some 384) := by kernel_rfl
theorem sz_67 : szK Try.prog 67 = some 384 := by kernel_rfl
theorem ld_64 : ldK Try.prog 64 = some (some 192) := by kernel_rfl
theorem ae_64 : aeK Try.prog 64 = some (192, 1) := by kernel_rfl
theorem ld_65 : ldK Try.prog 65 = some (some 192) := by kernel_rfl
theorem ae_65 : aeK Try.prog 65 = some (192, 0) := by kernel_rfl
theorem eq_36 : eqK Try.prog 36 = some [(0, 1), (1, 2), (2, 2)] := by kernel_rfl
theorem eq_58 : eqK Try.prog 58 = some [(0, 2), (1, 0)] := by kernel_rfl
theorem eq_61 : eqK Try.prog 61 = some [(0, 2), (1, 1)] := by kernel_rfl
theorem bs_42_1 : bldS Try.prog 42 1 = some (29, 1, #[.int .u64 0]) := by kernel_rfl
theorem ap_42 : apK Try.prog 42 = some (29, 1, 8) := by kernel_rfl
theorem ap_40 : apK Try.prog 40 = some (4, 1, 1) := by kernel_rfl
theorem un_40 : Try.prog.underlying 40 = some (.slice 4) := by kernel_rfl
theorem un_4 : Try.prog.underlying 4 = some (.bool) := by kernel_rfl
theorem un_42 : Try.prog.underlying 42 = some (.slice 29) := by kernel_rfl
theorem slE_42 : slE Try.prog 42 = some (29, 1) := by kernel_rfl
theorem bs_40_1 : bldS Try.prog 40 1 = some (4, 1, #[.bool false]) := by kernel_rfl
theorem bs_22_2 : bldS Try.prog 22 2 = some (58, 2, #[.string (⟨#[]⟩ : ByteArray), .bool false, .string (⟨#[]⟩ : ByteArray), .bool false]) := by kernel_rfl
theorem bs_27_2 : bldS Try.prog 27 2 = some (36, 3, #[.int .i64 0, .string (⟨#[]⟩ : ByteArray), .string (⟨#[]⟩ : ByteArray), .int .i64 0, .string (⟨#[]⟩ : ByteArray), .string (⟨#[]⟩ : ByteArray)]) := by kernel_rfl
theorem bs_24_3 : bldS Try.prog 24 3 = some (38, 2, #[.int .i64 0, .slice none 0 0, .int .i64 0, .slice none 0 0, .int .i64 0, .slice none 0 0]) := by kernel_rfl
theorem fo_54_0 : fOff Try.prog 54 0 = some 0 := by kernel_rfl
theorem fo_54_1 : fOff Try.prog 54 1 = some 1 := by kernel_rfl
theorem un_50 : Try.prog.underlying 50 = some (.slice 54) := by kernel_rfl
theorem slE_50 : slE Try.prog 50 = some (54, 2) := by kernel_rfl
theorem ld_54 : ldK Try.prog 54 = some (some 2) := by kernel_rfl
end Go.Proofs.Ytelafghkjlpojaa.K
