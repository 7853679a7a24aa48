/- The test of choose.Steps' loop, in any order of its reads. Condition: what lies in the cells that it reads. -/
import Derived.Test.YtoifgnogoddmlaaG1
import Derived.Shelf.RegionOpen
namespace Go.Proofs.Ytoifgnogoddmlaa.W
open Go.RowKit Go.Shelf Go.Proofs.Ytoifgnogoddmlaa.B Go.Proofs.Ytoifgnogoddmlaa.K Go.Proofs.Ytoifgnogoddmlaa.R
attribute [local go_sem] Oper.semAt_some
set_option maxRecDepth 100000 in
set_option maxHeartbeats 4000000 in
theorem reg8_eq {lr n : Nat} {Q : Exit → Act → World → Prop} {W : World} {m8 m5 g K cap : Nat} {u v : Int} {t0 t1 t2 t3 t4 t6 t7 t9 t10 t11 t12 t13 t14 t15 t16 t17 t18 t19 t20 t21 t22 t23 t24 t25 t26 t27 t28 t29 : Value} (c80 : W.cell? ⟨m8, 0, none⟩ = some (.int .i64 u)) (c81 : W.cell? ⟨m8, 1, none⟩ = some (.int .i64 v))
    (c50 : W.cell? ⟨m5, 0, none⟩ = some (.slice (some ⟨g, 0, none⟩) (K + 1) cap)) (z0 : W.cell? ⟨g, K * 2, none⟩ = some (.int .i64 u)) (z1 : W.cell? ⟨g, K * 2 + 1, none⟩ = some (.int .i64 v)) (hw0 : IntKind.i64.wrap (K : Int) = (K : Int))
    (hQ : Q .normal { tmps := #[t0, t1, t2, t3, t4, .pointer (some ⟨m5, 0, none⟩), t6, t7, .pointer (some ⟨m8, 0, none⟩), t9, t10, t11, t12, t13, t14, t15, t16, t17, t18, t19, t20, t21, t22, t23, t24, t25, t26, t27, t28, t29, .agg #[.int .i64 u, .int .i64 v], .slice (some ⟨g, 0, none⟩) (K + 1) cap, .slice (some ⟨g, 0, none⟩) (K + 1) cap, .int .i64 ((K + 1 : Nat) : Int), .int .i64 (K : Int), .pointer (some ⟨g, K * 2, none⟩), .agg #[.int .i64 u, .int .i64 v], .bool false, undef, undef, undef, undef, undef], defers := [] } W.drew) :
    Code.wpIn (Fence.wide.inRound lr) n Try.prog (Code.region 8
      #[{ dst := some 30, op := Op.load 24 (Operand.tmp 8), type := 24, pos := "choose.go:93", after := #[],
          guard := none },
        { dst := some 31, op := Op.load 29 (Operand.tmp 5), type := 29, pos := "choose.go:93", after := #[],
          guard := none },
        { dst := some 32, op := Op.load 29 (Operand.tmp 5), type := 29, pos := "choose.go:93", after := #[],
          guard := none },
        { dst := some 33,
          op := Op.call { callee := Callee.builtin Builtin.len, args := #[Operand.tmp 32], argTypes := #[29] },
          type := 3, pos := "choose.go:93", after := #[{ on := 2, ground := Ground.data }], guard := none },
        { dst := some 34, op := Op.binOp BinOp.sub 3 (Operand.tmp 33) (Operand.const (Value.int IntKind.i64 1)) 3,
          type := 3, pos := "choose.go:93", after := #[{ on := 3, ground := Ground.data }], guard := none },
        { dst := some 35, op := Op.indexAddr 29 (Operand.tmp 31) (Operand.tmp 34), type := 0, pos := "choose.go:93",
          after := #[{ on := 1, ground := Ground.data }, { on := 4, ground := Ground.data }], guard := none },
        { dst := some 36, op := Op.load 24 (Operand.tmp 35), type := 24, pos := "choose.go:93",
          after := #[{ on := 5, ground := Ground.data }], guard := none },
        { dst := some 37, op := Op.binOp BinOp.neq 24 (Operand.tmp 30) (Operand.tmp 36) 24, type := 4,
          pos := "choose.go:93", after := #[{ on := 0, ground := Ground.data }, { on := 6, ground := Ground.data }],
          guard := none }] true) Q { tmps := #[t0, t1, t2, t3, t4, .pointer (some ⟨m5, 0, none⟩), t6, t7, .pointer (some ⟨m8, 0, none⟩), t9, t10, t11, t12, t13, t14, t15, t16, t17, t18, t19, t20, t21, t22, t23, t24, t25, t26, t27, t28, t29, undef, undef, undef, undef, undef, undef, undef, undef, undef, undef, undef, undef, undef], defers := [] } W := by
  have hmx : Try.prog.follows .mixedOrders = true := by kernel_rfl
  have hw1 : (K : Int) < (K : Int) + 1 := by omega
  have hw2 : (0 : Int) ≤ (K : Int) := by omega
  have hw3 : ((K + 1 : Nat) : Int) - 1 = (K : Int) := by omega
  gi_region_with_o (skip)
  all_goals exact hQ
set_option maxRecDepth 100000 in
set_option maxHeartbeats 4000000 in
theorem reg8_ne1 {lr n : Nat} {Q : Exit → Act → World → Prop} {W : World} {m8 m5 g K cap : Nat} {u v u' v' : Int} {t0 t1 t2 t3 t4 t6 t7 t9 t10 t11 t12 t13 t14 t15 t16 t17 t18 t19 t20 t21 t22 t23 t24 t25 t26 t27 t28 t29 : Value} (c80 : W.cell? ⟨m8, 0, none⟩ = some (.int .i64 u)) (c81 : W.cell? ⟨m8, 1, none⟩ = some (.int .i64 v))
    (c50 : W.cell? ⟨m5, 0, none⟩ = some (.slice (some ⟨g, 0, none⟩) (K + 1) cap)) (z0 : W.cell? ⟨g, K * 2, none⟩ = some (.int .i64 u')) (z1 : W.cell? ⟨g, K * 2 + 1, none⟩ = some (.int .i64 v')) (hne : ¬ u = u') (hw0 : IntKind.i64.wrap (K : Int) = (K : Int))
    (hQ : Q .normal { tmps := #[t0, t1, t2, t3, t4, .pointer (some ⟨m5, 0, none⟩), t6, t7, .pointer (some ⟨m8, 0, none⟩), t9, t10, t11, t12, t13, t14, t15, t16, t17, t18, t19, t20, t21, t22, t23, t24, t25, t26, t27, t28, t29, .agg #[.int .i64 u, .int .i64 v], .slice (some ⟨g, 0, none⟩) (K + 1) cap, .slice (some ⟨g, 0, none⟩) (K + 1) cap, .int .i64 ((K + 1 : Nat) : Int), .int .i64 (K : Int), .pointer (some ⟨g, K * 2, none⟩), .agg #[.int .i64 u', .int .i64 v'], .bool true, undef, undef, undef, undef, undef], defers := [] } W.drew) :
    Code.wpIn (Fence.wide.inRound lr) n Try.prog (Code.region 8
      #[{ dst := some 30, op := Op.load 24 (Operand.tmp 8), type := 24, pos := "choose.go:93", after := #[],
          guard := none },
        { dst := some 31, op := Op.load 29 (Operand.tmp 5), type := 29, pos := "choose.go:93", after := #[],
          guard := none },
        { dst := some 32, op := Op.load 29 (Operand.tmp 5), type := 29, pos := "choose.go:93", after := #[],
          guard := none },
        { dst := some 33,
          op := Op.call { callee := Callee.builtin Builtin.len, args := #[Operand.tmp 32], argTypes := #[29] },
          type := 3, pos := "choose.go:93", after := #[{ on := 2, ground := Ground.data }], guard := none },
        { dst := some 34, op := Op.binOp BinOp.sub 3 (Operand.tmp 33) (Operand.const (Value.int IntKind.i64 1)) 3,
          type := 3, pos := "choose.go:93", after := #[{ on := 3, ground := Ground.data }], guard := none },
        { dst := some 35, op := Op.indexAddr 29 (Operand.tmp 31) (Operand.tmp 34), type := 0, pos := "choose.go:93",
          after := #[{ on := 1, ground := Ground.data }, { on := 4, ground := Ground.data }], guard := none },
        { dst := some 36, op := Op.load 24 (Operand.tmp 35), type := 24, pos := "choose.go:93",
          after := #[{ on := 5, ground := Ground.data }], guard := none },
        { dst := some 37, op := Op.binOp BinOp.neq 24 (Operand.tmp 30) (Operand.tmp 36) 24, type := 4,
          pos := "choose.go:93", after := #[{ on := 0, ground := Ground.data }, { on := 6, ground := Ground.data }],
          guard := none }] true) Q { tmps := #[t0, t1, t2, t3, t4, .pointer (some ⟨m5, 0, none⟩), t6, t7, .pointer (some ⟨m8, 0, none⟩), t9, t10, t11, t12, t13, t14, t15, t16, t17, t18, t19, t20, t21, t22, t23, t24, t25, t26, t27, t28, t29, undef, undef, undef, undef, undef, undef, undef, undef, undef, undef, undef, undef, undef], defers := [] } W := by
  have hmx : Try.prog.follows .mixedOrders = true := by kernel_rfl
  have hw1 : (K : Int) < (K : Int) + 1 := by omega
  have hw2 : (0 : Int) ≤ (K : Int) := by omega
  have hw3 : ((K + 1 : Nat) : Int) - 1 = (K : Int) := by omega
  gi_region_with_o (skip)
  all_goals exact hQ
set_option maxRecDepth 100000 in
set_option maxHeartbeats 4000000 in
theorem reg8_ne2 {lr n : Nat} {Q : Exit → Act → World → Prop} {W : World} {m8 m5 g K cap : Nat} {u v v' : Int} {t0 t1 t2 t3 t4 t6 t7 t9 t10 t11 t12 t13 t14 t15 t16 t17 t18 t19 t20 t21 t22 t23 t24 t25 t26 t27 t28 t29 : Value} (c80 : W.cell? ⟨m8, 0, none⟩ = some (.int .i64 u)) (c81 : W.cell? ⟨m8, 1, none⟩ = some (.int .i64 v))
    (c50 : W.cell? ⟨m5, 0, none⟩ = some (.slice (some ⟨g, 0, none⟩) (K + 1) cap)) (z0 : W.cell? ⟨g, K * 2, none⟩ = some (.int .i64 u)) (z1 : W.cell? ⟨g, K * 2 + 1, none⟩ = some (.int .i64 v')) (hne : ¬ v = v') (hw0 : IntKind.i64.wrap (K : Int) = (K : Int))
    (hQ : Q .normal { tmps := #[t0, t1, t2, t3, t4, .pointer (some ⟨m5, 0, none⟩), t6, t7, .pointer (some ⟨m8, 0, none⟩), t9, t10, t11, t12, t13, t14, t15, t16, t17, t18, t19, t20, t21, t22, t23, t24, t25, t26, t27, t28, t29, .agg #[.int .i64 u, .int .i64 v], .slice (some ⟨g, 0, none⟩) (K + 1) cap, .slice (some ⟨g, 0, none⟩) (K + 1) cap, .int .i64 ((K + 1 : Nat) : Int), .int .i64 (K : Int), .pointer (some ⟨g, K * 2, none⟩), .agg #[.int .i64 u, .int .i64 v'], .bool true, undef, undef, undef, undef, undef], defers := [] } W.drew) :
    Code.wpIn (Fence.wide.inRound lr) n Try.prog (Code.region 8
      #[{ dst := some 30, op := Op.load 24 (Operand.tmp 8), type := 24, pos := "choose.go:93", after := #[],
          guard := none },
        { dst := some 31, op := Op.load 29 (Operand.tmp 5), type := 29, pos := "choose.go:93", after := #[],
          guard := none },
        { dst := some 32, op := Op.load 29 (Operand.tmp 5), type := 29, pos := "choose.go:93", after := #[],
          guard := none },
        { dst := some 33,
          op := Op.call { callee := Callee.builtin Builtin.len, args := #[Operand.tmp 32], argTypes := #[29] },
          type := 3, pos := "choose.go:93", after := #[{ on := 2, ground := Ground.data }], guard := none },
        { dst := some 34, op := Op.binOp BinOp.sub 3 (Operand.tmp 33) (Operand.const (Value.int IntKind.i64 1)) 3,
          type := 3, pos := "choose.go:93", after := #[{ on := 3, ground := Ground.data }], guard := none },
        { dst := some 35, op := Op.indexAddr 29 (Operand.tmp 31) (Operand.tmp 34), type := 0, pos := "choose.go:93",
          after := #[{ on := 1, ground := Ground.data }, { on := 4, ground := Ground.data }], guard := none },
        { dst := some 36, op := Op.load 24 (Operand.tmp 35), type := 24, pos := "choose.go:93",
          after := #[{ on := 5, ground := Ground.data }], guard := none },
        { dst := some 37, op := Op.binOp BinOp.neq 24 (Operand.tmp 30) (Operand.tmp 36) 24, type := 4,
          pos := "choose.go:93", after := #[{ on := 0, ground := Ground.data }, { on := 6, ground := Ground.data }],
          guard := none }] true) Q { tmps := #[t0, t1, t2, t3, t4, .pointer (some ⟨m5, 0, none⟩), t6, t7, .pointer (some ⟨m8, 0, none⟩), t9, t10, t11, t12, t13, t14, t15, t16, t17, t18, t19, t20, t21, t22, t23, t24, t25, t26, t27, t28, t29, undef, undef, undef, undef, undef, undef, undef, undef, undef, undef, undef, undef, undef], defers := [] } W := by
  have hmx : Try.prog.follows .mixedOrders = true := by kernel_rfl
  have hw1 : (K : Int) < (K : Int) + 1 := by omega
  have hw2 : (0 : Int) ≤ (K : Int) := by omega
  have hw3 : ((K + 1 : Nat) : Int) - 1 = (K : Int) := by omega
  gi_region_with_o (skip)
  all_goals exact hQ
end Go.Proofs.Ytoifgnogoddmlaa.W
