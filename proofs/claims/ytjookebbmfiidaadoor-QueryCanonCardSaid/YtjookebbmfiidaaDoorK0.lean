/- The kinds of this seat's values and closed facts on its types, printed by my own tool. No condition. -/
import Derived.Test.YtjookebbmfiidaaDoorBW
import Derived.Test.YtjookebbmfiidaaDoorR
import Derived.Test.YtjookebbmfiidaaDoorProg
import Derived.Test.YtjookebbmfiidaaDoorBG
import Derived.Test.YtjookebbmfiidaaDoorS
set_option linter.unusedVariables false
set_option maxRecDepth 100000
set_option maxHeartbeats 4000000
namespace Go.Proofs.YtjookebbmfiidaaDoor.K
open Go.Proofs.YtjookebbmfiidaaDoor.B Go.Proofs.YtjookebbmfiidaaDoor.R Go.RowKit
def Am (x : Ag) : List Value := [.string x.name, .bool x.lit, .string x.field, .string x.capture, .int .i64 x.kids]
theorem Gi : ∀ x, (Am x).length = 5 := fun _ => rfl
theorem I7 : ∀ x, ∀ u ∈ Am x, u.oneCell' = true := fun x u hu => List.all_eq_true.1 (show (Am x).all Value.oneCell' = true from rfl) u hu
abbrev Di : Kd Ag := Kd.flat 5 Am Gi I7
def W9 (x : Bd) : List Value := [.string x.name, .bool x.named, .string x.field, .int .i64 x.from_, .int .i64 x.to, .int .i64 x.kids, .int .i64 x.leaf]
theorem Xy : ∀ x, (W9 x).length = 7 := fun _ => rfl
theorem Y3 : ∀ x, ∀ u ∈ W9 x, u.oneCell' = true := fun x u hu => List.all_eq_true.1 (show (W9 x).all Value.oneCell' = true from rfl) u hu
abbrev Fz : Kd Bd := Kd.flat 7 W9 Xy Y3
def Bf (x : Bi) : List Value := [.bool x.not, .string x.a, .string x.b, .string x.text]
theorem O3 : ∀ x, (Bf x).length = 4 := fun _ => rfl
theorem Og : ∀ x, ∀ u ∈ Bf x, u.oneCell' = true := fun x u hu => List.all_eq_true.1 (show (Bf x).all Value.oneCell' = true from rfl) u hu
abbrev Eu : Kd Bi := Kd.flat 4 Bf O3 Og
def D5 (x : Aj) : List Value := [.int .i64 x.kind, .string x.text, .int .i64 x.n, .int .i64 x.at_]
theorem Ef : ∀ x, (D5 x).length = 4 := fun _ => rfl
theorem Ee : ∀ x, ∀ u ∈ D5 x, u.oneCell' = true := fun x u hu => List.all_eq_true.1 (show (D5 x).all Value.oneCell' = true from rfl) u hu
abbrev Cc : Kd Aj := Kd.flat 4 D5 Ef Ee
def Pi : Kd Em := { sz := 1, K := (fun w F x cs => ∃ (A0 : Option Addr), ∃ (n0 : Nat), ∃ (c0 : Nat), cs = [.slice A0 n0 c0] ∧ Rw (G6 .i64) w F A0 n0 c0 x.nodes), len := (by rintro w F x cs ⟨_, _, _, rfl, _⟩; rfl), one := (by rintro w F x cs ⟨_, _, _, rfl, _⟩; exact fun u hu => List.all_eq_true.1 rfl u hu), mono := (by rintro w w' F F' x cs ⟨_, _, _, rfl, h0⟩ hF; exact ⟨_, _, _, rfl, h0.mono hF⟩) }
theorem Xej (x y : Ag) : Xeh (Am x).toArray (Am y).toArray [(0, 2), (1, 0), (2, 2), (3, 2), (4, 1)] = some (decide (x = y)) := by
  cases x; cases y; refine congrArg some ?_; rw [Bool.eq_iff_iff]; simp [Qx]
theorem Xhs (x y : Bi) : Xeh (Bf x).toArray (Bf y).toArray [(0, 0), (1, 2), (2, 2), (3, 2)] = some (decide (x = y)) := by
  cases x; cases y; refine congrArg some ?_; rw [Bool.eq_iff_iff]; simp [Qx]
theorem mix : Tryd.prog.follows .mixedOrders = true := by kernel_rfl
theorem Xp : Tryd.prog.underlying 22 = some (.slice 45) := by kernel_rfl
theorem Vh : Tryd.prog.underlying 36 = some (.slice 3) := by kernel_rfl
theorem X7 : slE Tryd.prog 22 = some (45, 5) := by kernel_rfl
theorem Yx : Pe Tryd.prog 45 4 = some 4 := by kernel_rfl
theorem Ho : ldK Tryd.prog 3 = some none := by kernel_rfl
theorem Zb : Xdb Tryd.prog 36 1 = some (3, 1, #[.int .i64 0]) := by kernel_rfl
theorem Xe7 : apK Tryd.prog 36 = some (3, 1, 8) := by kernel_rfl
theorem Qn : slE Tryd.prog 36 = some (3, 1) := by kernel_rfl
theorem Xbb : szK Tryd.prog 3 = some 1 := by kernel_rfl
theorem Xec : Tryd.prog.underlying 26 = some (.slice 56) := by kernel_rfl
theorem Xkd : slE Tryd.prog 26 = some (56, 7) := by kernel_rfl
theorem Xl7 : Pe Tryd.prog 56 5 = some 5 := by kernel_rfl
theorem zr_25 : zrK Tryd.prog 25 = some [.slice none 0 0, .slice none 0 0] := by kernel_rfl
theorem J9 : Pe Tryd.prog 25 0 = some 0 := by kernel_rfl
theorem Qj : ldK Tryd.prog 22 = some none := by kernel_rfl
theorem Xbh : ldK Tryd.prog 45 = some (some 5) := by kernel_rfl
theorem bs_22_1 : Xdb Tryd.prog 22 1 = some (45, 5, #[.string (⟨#[]⟩ : ByteArray), .bool false, .string (⟨#[]⟩ : ByteArray), .string (⟨#[]⟩ : ByteArray), .int .i64 0]) := by kernel_rfl
theorem ap_22 : apK Tryd.prog 22 = some (45, 5, 64) := by kernel_rfl
theorem sz_22 : szK Tryd.prog 22 = some 1 := by kernel_rfl
theorem Lp : Pe Tryd.prog 25 1 = some 1 := by kernel_rfl
theorem Vy : ldK Tryd.prog 23 = some none := by kernel_rfl
theorem Xa6 : Tryd.prog.underlying 23 = some (.slice 47) := by kernel_rfl
theorem Xfe : slE Tryd.prog 23 = some (47, 4) := by kernel_rfl
theorem Xe5 : ldK Tryd.prog 47 = some (some 4) := by kernel_rfl
theorem Xi1 : Xdb Tryd.prog 23 1 = some (47, 4, #[.bool false, .string (⟨#[]⟩ : ByteArray), .string (⟨#[]⟩ : ByteArray), .string (⟨#[]⟩ : ByteArray)]) := by kernel_rfl
theorem ap_23 : apK Tryd.prog 23 = some (47, 4, 56) := by kernel_rfl
theorem sz_23 : szK Tryd.prog 23 = some 1 := by kernel_rfl
theorem Rt : ldK Tryd.prog 25 = some (some 2) := by kernel_rfl
theorem Xgq : szK Tryd.prog 25 = some 2 := by kernel_rfl
theorem ld_56 : ldK Tryd.prog 56 = some (some 7) := by kernel_rfl
theorem Ko : Tryd.prog.underlying 9 = some (.string) := by kernel_rfl
theorem Uh : Pe Tryd.prog 84 0 = some 0 := by kernel_rfl
theorem Xak : ldK Tryd.prog 79 = some none := by kernel_rfl
theorem J8 : Pe Tryd.prog 84 1 = some 1 := by kernel_rfl
theorem H9 : ldK Tryd.prog 9 = some none := by kernel_rfl
theorem Xi9 : Pe Tryd.prog 84 2 = some 2 := by kernel_rfl
theorem Xff : bld Tryd.prog 84 = some (#[.int .i64 0, .string (⟨#[]⟩ : ByteArray), .int .i64 0, .int .i64 0], [(0, 1), (1, 1), (2, 1), (3, 1)]) := by kernel_rfl
theorem U9 : Pe Tryd.prog 45 3 = some 3 := by kernel_rfl
theorem Xjb : zrK Tryd.prog 45 = some [.string (⟨#[]⟩ : ByteArray), .bool false, .string (⟨#[]⟩ : ByteArray), .string (⟨#[]⟩ : ByteArray), .int .i64 0] := by kernel_rfl
theorem Xf1 : szK Tryd.prog 45 = some 5 := by kernel_rfl
theorem Xx : Pe Tryd.prog 45 1 = some 1 := by kernel_rfl
theorem Xc3 : ldK Tryd.prog 4 = some none := by kernel_rfl
theorem Uj : Pe Tryd.prog 45 0 = some 0 := by kernel_rfl
theorem U7 : Pe Tryd.prog 45 2 = some 2 := by kernel_rfl
theorem zr_47 : zrK Tryd.prog 47 = some [.bool false, .string (⟨#[]⟩ : ByteArray), .string (⟨#[]⟩ : ByteArray), .string (⟨#[]⟩ : ByteArray)] := by kernel_rfl
theorem sz_47 : szK Tryd.prog 47 = some 4 := by kernel_rfl
theorem Xcp : Pe Tryd.prog 47 1 = some 1 := by kernel_rfl
theorem Z9 : Pe Tryd.prog 47 2 = some 2 := by kernel_rfl
theorem Xet : Pe Tryd.prog 47 3 = some 3 := by kernel_rfl
theorem Xia : Pe Tryd.prog 56 2 = some 2 := by kernel_rfl
theorem Xky : Pe Tryd.prog 56 1 = some 1 := by kernel_rfl
theorem Xl5 : Pe Tryd.prog 56 0 = some 0 := by kernel_rfl
theorem fo_56_3 : Pe Tryd.prog 56 3 = some 3 := by kernel_rfl
theorem fo_56_4 : Pe Tryd.prog 56 4 = some 4 := by kernel_rfl
theorem Xew : Pe Tryd.prog 47 0 = some 0 := by kernel_rfl
theorem un_4 : Tryd.prog.underlying 4 = some (.bool) := by kernel_rfl
theorem bd_38 : bld Tryd.prog 38 = some (#[.slice none 0 0], [(0, 1)]) := by kernel_rfl
theorem bs_31_1 : Xdb Tryd.prog 31 1 = some (38, 1, #[.slice none 0 0]) := by kernel_rfl
theorem ap_31 : apK Tryd.prog 31 = some (38, 1, 24) := by kernel_rfl
theorem bd_45 : bld Tryd.prog 45 = some (#[.string (⟨#[]⟩ : ByteArray), .bool false, .string (⟨#[]⟩ : ByteArray), .string (⟨#[]⟩ : ByteArray), .int .i64 0], [(0, 1), (1, 1), (2, 1), (3, 1), (4, 1)]) := by kernel_rfl
theorem bd_56 : bld Tryd.prog 56 = some (#[.string (⟨#[]⟩ : ByteArray), .bool false, .string (⟨#[]⟩ : ByteArray), .int .i64 0, .int .i64 0, .int .i64 0, .int .i64 0], [(0, 1), (1, 1), (2, 1), (3, 1), (4, 1), (5, 1), (6, 1)]) := by kernel_rfl
theorem Xa8 : Xdb Tryd.prog 108 1 = some (5, 1, #[.int .u8 0]) := by kernel_rfl
theorem Xd7 : Xdb Tryd.prog 108 2 = some (5, 1, #[.int .u8 0, .int .u8 0]) := by kernel_rfl
theorem Yw : apK Tryd.prog 108 = some (5, 1, 1) := by kernel_rfl
theorem bs_108_4 : Xdb Tryd.prog 108 4 = some (5, 1, #[.int .u8 0, .int .u8 0, .int .u8 0, .int .u8 0]) := by kernel_rfl
theorem Xkm : u8K Tryd.prog 108 = true := by kernel_rfl
theorem ld_84 : ldK Tryd.prog 84 = some (some 4) := by kernel_rfl
theorem Xef : zrK Tryd.prog 92 = some [.slice none 0 0, .slice none 0 0, .slice none 0 0, .bool false] := by kernel_rfl
theorem Xbm : mkK Tryd.prog 36 = some (3, [.int .i64 0], 8) := by kernel_rfl
theorem Xh1 : bld Tryd.prog 92 = some (#[.slice none 0 0, .slice none 0 0, .slice none 0 0, .bool false], [(0, 1), (1, 1), (2, 1), (3, 1)]) := by kernel_rfl
theorem Xbi : szK Tryd.prog 92 = some 4 := by kernel_rfl
theorem zr_56 : zrK Tryd.prog 56 = some [.string (⟨#[]⟩ : ByteArray), .bool false, .string (⟨#[]⟩ : ByteArray), .int .i64 0, .int .i64 0, .int .i64 0, .int .i64 0] := by kernel_rfl
theorem sz_56 : szK Tryd.prog 56 = some 7 := by kernel_rfl
theorem Xl2 : Pe Tryd.prog 92 1 = some 1 := by kernel_rfl
theorem Xan : ldK Tryd.prog 36 = some none := by kernel_rfl
theorem Xfc : ldK Tryd.prog 92 = some (some 4) := by kernel_rfl
theorem Xhk : Pe Tryd.prog 92 2 = some 2 := by kernel_rfl
theorem Xha : Pe Tryd.prog 92 3 = some 3 := by kernel_rfl
theorem Xbz : szK Tryd.prog 4 = some 1 := by kernel_rfl
theorem fd_92_3 : fdK Tryd.prog 92 3 = some (3, none) := by kernel_rfl
theorem fo_92_0 : Pe Tryd.prog 92 0 = some 0 := by kernel_rfl
theorem Yn : ldK Tryd.prog 26 = some none := by kernel_rfl
theorem Xlb : Pe Tryd.prog 70 3 = some 3 := by kernel_rfl
theorem Xbj : ldK Tryd.prog 68 = some none := by kernel_rfl
theorem Ux : slE Tryd.prog 68 = some (4, 1) := by kernel_rfl
theorem Xhi : Pe Tryd.prog 70 2 = some 2 := by kernel_rfl
theorem Xa0 : ldK Tryd.prog 67 = some none := by kernel_rfl
theorem Um : slE Tryd.prog 67 = some (36, 1) := by kernel_rfl
theorem Xkz : Pe Tryd.prog 70 1 = some 1 := by kernel_rfl
theorem Ym : szK Tryd.prog 36 = some 1 := by kernel_rfl
theorem ld_66 : ldK Tryd.prog 66 = some none := by kernel_rfl
theorem ld_101 : ldK Tryd.prog 101 = some none := by kernel_rfl
theorem fo_70_0 : Pe Tryd.prog 70 0 = some 0 := by kernel_rfl
theorem zr_101 : zrK Tryd.prog 101 = some [.nilFunc] := by kernel_rfl
theorem sz_101 : szK Tryd.prog 101 = some 1 := by kernel_rfl
theorem ld_72 : ldK Tryd.prog 72 = some none := by kernel_rfl
theorem mk_67 : mkK Tryd.prog 67 = some (36, [.slice none 0 0], 24) := by kernel_rfl
theorem mk_68 : mkK Tryd.prog 68 = some (4, [.bool false], 1) := by kernel_rfl
theorem bd_70 : bld Tryd.prog 70 = some (#[.slice none 0 0, .slice none 0 0, .slice none 0 0, .slice none 0 0], [(0, 1), (1, 1), (2, 1), (3, 1)]) := by kernel_rfl
theorem zr_36 : zrK Tryd.prog 36 = some [.slice none 0 0] := by kernel_rfl
theorem zr_72 : zrK Tryd.prog 72 = some [.nilFunc] := by kernel_rfl
theorem sz_72 : szK Tryd.prog 72 = some 1 := by kernel_rfl
theorem un_31 : Tryd.prog.underlying 31 = some (.slice 38) := by kernel_rfl
theorem slE_31 : slE Tryd.prog 31 = some (38, 1) := by kernel_rfl
theorem fo_38_0 : Pe Tryd.prog 38 0 = some 0 := by kernel_rfl
theorem eq_45 : eqK Tryd.prog 45 = some [(0, 2), (1, 0), (2, 2), (3, 2), (4, 1)] := by kernel_rfl
theorem eq_47 : eqK Tryd.prog 47 = some [(0, 0), (1, 2), (2, 2), (3, 2)] := by kernel_rfl
theorem sz_9 : szK Tryd.prog 9 = some 1 := by kernel_rfl
theorem Xb5 : Xdb Tryd.prog 75 1 = some (84, 4, #[.int .i64 0, .string (⟨#[]⟩ : ByteArray), .int .i64 0, .int .i64 0]) := by kernel_rfl
theorem Y1 : Tryd.prog.underlying 75 = some (.slice 84) := by kernel_rfl
theorem Pj : slE Tryd.prog 75 = some (84, 4) := by kernel_rfl
theorem Xgk : apK Tryd.prog 75 = some (84, 4, 40) := by kernel_rfl
theorem Ld : ldK Tryd.prog 75 = some none := by kernel_rfl
theorem sz_75 : szK Tryd.prog 75 = some 1 := by kernel_rfl
theorem Vm : ldK Tryd.prog 85 = some none := by kernel_rfl
theorem ld_1 : ldK Tryd.prog 1 = some none := by kernel_rfl
theorem zr_84 : zrK Tryd.prog 84 = some [.int .i64 0, .string (⟨#[]⟩ : ByteArray), .int .i64 0, .int .i64 0] := by kernel_rfl
theorem sz_84 : szK Tryd.prog 84 = some 4 := by kernel_rfl
theorem bs_106_1 : Xdb Tryd.prog 106 1 = some (9, 1, #[.string (⟨#[]⟩ : ByteArray)]) := by kernel_rfl
theorem ap_106 : apK Tryd.prog 106 = some (9, 1, 16) := by kernel_rfl
theorem zr_75 : zrK Tryd.prog 75 = some [.slice none 0 0] := by kernel_rfl
theorem zr_85 : zrK Tryd.prog 85 = some [.nilFunc] := by kernel_rfl
theorem sz_85 : szK Tryd.prog 85 = some 1 := by kernel_rfl
theorem zr_3 : zrK Tryd.prog 3 = some [.int .i64 0] := by kernel_rfl
theorem zr_1 : zrK Tryd.prog 1 = some [.nilFunc] := by kernel_rfl
theorem sz_1 : szK Tryd.prog 1 = some 1 := by kernel_rfl
theorem slE_108 : slE Tryd.prog 108 = some (5, 1) := by kernel_rfl
theorem un_5 : Tryd.prog.underlying 5 = some (.int .u8) := by kernel_rfl
theorem un_3 : Tryd.prog.underlying 3 = some (.int .i64) := by kernel_rfl
theorem Gq : Pe Tryd.prog 90 0 = some 0 := by kernel_rfl
theorem Ec : Pe Tryd.prog 90 1 = some 1 := by kernel_rfl
theorem Pq : Pe Tryd.prog 90 4 = some 5 := by kernel_rfl
theorem Xo : ldK Tryd.prog 40 = some none := by kernel_rfl
theorem fo_90_2 : Pe Tryd.prog 90 2 = some 2 := by kernel_rfl
theorem sz_40 : szK Tryd.prog 40 = some 1 := by kernel_rfl
theorem Xic : Pe Tryd.prog 90 5 = some 6 := by kernel_rfl
theorem fo_84_3 : Pe Tryd.prog 84 3 = some 3 := by kernel_rfl
theorem O6 : Pe Tryd.prog 90 3 = some 3 := by kernel_rfl
theorem bd_90 : bld Tryd.prog 90 = some (#[.slice none 0 0, .int .i64 0, .int .i64 0, .slice none 0 0, .slice none 0 0, .int .i64 0, .int .i64 0], [(0, 1), (1, 1), (2, 1), (3, 2), (5, 1), (6, 1)]) := by kernel_rfl
theorem bd_25 : bld Tryd.prog 25 = some (#[.slice none 0 0, .slice none 0 0], [(0, 1), (1, 1)]) := by kernel_rfl
theorem bs_26_3 : Xdb Tryd.prog 26 3 = some (56, 7, #[.string (⟨#[]⟩ : ByteArray), .bool false, .string (⟨#[]⟩ : ByteArray), .int .i64 0, .int .i64 0, .int .i64 0, .int .i64 0, .string (⟨#[]⟩ : ByteArray), .bool false, .string (⟨#[]⟩ : ByteArray), .int .i64 0, .int .i64 0, .int .i64 0, .int .i64 0, .string (⟨#[]⟩ : ByteArray), .bool false, .string (⟨#[]⟩ : ByteArray), .int .i64 0, .int .i64 0, .int .i64 0, .int .i64 0]) := by kernel_rfl
theorem bs_36_2 : Xdb Tryd.prog 36 2 = some (3, 1, #[.int .i64 0, .int .i64 0]) := by kernel_rfl
end Go.Proofs.YtjookebbmfiidaaDoor.K
