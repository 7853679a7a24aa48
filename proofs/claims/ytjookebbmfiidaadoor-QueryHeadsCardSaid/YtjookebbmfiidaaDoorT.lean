/- What a reading of the arguments tells, type by type, printed by my own tool. No condition. -/
import Derived.Test.YtjookebbmfiidaaDoorT0
import Derived.Test.YtjookebbmfiidaaDoorK0
set_option linter.unusedVariables false
set_option maxRecDepth 100000
namespace Go.Proofs.YtjookebbmfiidaaDoor.K
open Go.Proofs.YtjookebbmfiidaaDoor.B Go.Proofs.YtjookebbmfiidaaDoor.R Go.RowKit
theorem op_9 : Ky Tryd.prog 9 kStr (fun s : ByteArray => s.size ≤ reachBytes) (fun s : ByteArray => s.size + 1) := Ky.str (by kernel_rfl)
theorem op_4 : Ky Tryd.prog 4 kBool (fun _ : Bool => True) (fun _ : Bool => 1) := Ky.bool (by kernel_rfl)
theorem op_3 : Ky Tryd.prog 3 (Gf .i64) (fun n : Int => (Lit.int .i64 n).wf = true) (fun _ : Int => 1) := Ky.int (by kernel_rfl)
def Xew (x : Ag) : Nat := (x.name.size + 1) + 1 + (x.field.size + 1) + (x.capture.size + 1) + 1 + 1
def Xbe (x : Ag) : Prop := (fun s : ByteArray => s.size ≤ reachBytes) x.name ∧ (fun _ : Bool => True) x.lit ∧ (fun s : ByteArray => s.size ≤ reachBytes) x.field ∧ (fun s : ByteArray => s.size ≤ reachBytes) x.capture ∧ (fun n : Int => (Lit.int .i64 n).wf = true) x.kids
theorem op_45 : Ky Tryd.prog 45 Dn Xbe Xew := by
 refine Ky.struct (fs := stF Tryd.prog 45) (fl := [fdA Tryd.prog 45 0, fdA Tryd.prog 45 1, fdA Tryd.prog 45 2, fdA Tryd.prog 45 3, fdA Tryd.prog 45 4]) (by kernel_rfl) (by kernel_rfl) (by kernel_rfl) (fun m => (Oi.cons (f := fdA Tryd.prog 45 0) (ft := 9) (by kernel_rfl) (by kernel_rfl) (by kernel_rfl) (op_9 m) (Oi.cons (f := fdA Tryd.prog 45 1) (ft := 4) (by kernel_rfl) (by kernel_rfl) (by kernel_rfl) (op_4 m) (Oi.cons (f := fdA Tryd.prog 45 2) (ft := 9) (by kernel_rfl) (by kernel_rfl) (by kernel_rfl) (op_9 m) (Oi.cons (f := fdA Tryd.prog 45 3) (ft := 9) (by kernel_rfl) (by kernel_rfl) (by kernel_rfl) (op_9 m) (Oi.cons (f := fdA Tryd.prog 45 4) (ft := 3) (by kernel_rfl) (by kernel_rfl) (by kernel_rfl) (op_3 m) Oi.nil)))))) ?_
 intro w cs n hl hr
 obtain ⟨y0, h0, q0, n0, m0, rfl, z0, hr⟩ := hr
 have e0 := h0
 obtain ⟨r0, rfl, d0⟩ := tkN e0 rfl
 rw [d0] at hr
 replace hl := rz hl
 obtain ⟨y1, h1, q1, n1, m1, rfl, z1, hr⟩ := hr
 have e1 := h1
 obtain ⟨r1, rfl, d1⟩ := tkN e1 rfl
 rw [d1] at hr
 replace hl := rz hl
 obtain ⟨y2, h2, q2, n2, m2, rfl, z2, hr⟩ := hr
 have e2 := h2
 obtain ⟨r2, rfl, d2⟩ := tkN e2 rfl
 rw [d2] at hr
 replace hl := rz hl
 obtain ⟨y3, h3, q3, n3, m3, rfl, z3, hr⟩ := hr
 have e3 := h3
 obtain ⟨r3, rfl, d3⟩ := tkN e3 rfl
 rw [d3] at hr
 replace hl := rz hl
 obtain ⟨y4, h4, q4, n4, m4, rfl, z4, hr⟩ := hr
 have e4 := h4
 obtain ⟨r4, rfl, d4⟩ := tkN e4 rfl
 replace hl := rz hl
 obtain rfl := List.eq_nil_of_length_eq_zero hl
 exact ⟨⟨y0, y1, y2, y3, y4⟩, rfl, ⟨q0, q1, q2, q3, q4⟩, by show (y0.size + 1) + 1 + (y2.size + 1) + (y3.size + 1) + 1 + 1 ≤ _; omega⟩
def Xdq (x : Ba) : Nat := (x.name.size + 1) + 1 + (x.field.size + 1) + 1 + 1 + 1 + 1 + 1
def Xbw (x : Ba) : Prop := (fun s : ByteArray => s.size ≤ reachBytes) x.name ∧ (fun _ : Bool => True) x.named ∧ (fun s : ByteArray => s.size ≤ reachBytes) x.field ∧ (fun n : Int => (Lit.int .i64 n).wf = true) x.from_ ∧ (fun n : Int => (Lit.int .i64 n).wf = true) x.to ∧ (fun n : Int => (Lit.int .i64 n).wf = true) x.kids ∧ (fun n : Int => (Lit.int .i64 n).wf = true) x.leaf
theorem op_56 : Ky Tryd.prog 56 Eu Xbw Xdq := by
 refine Ky.struct (fs := stF Tryd.prog 56) (fl := [fdA Tryd.prog 56 0, fdA Tryd.prog 56 1, fdA Tryd.prog 56 2, fdA Tryd.prog 56 3, fdA Tryd.prog 56 4, fdA Tryd.prog 56 5, fdA Tryd.prog 56 6]) (by kernel_rfl) (by kernel_rfl) (by kernel_rfl) (fun m => (Oi.cons (f := fdA Tryd.prog 56 0) (ft := 9) (by kernel_rfl) (by kernel_rfl) (by kernel_rfl) (op_9 m) (Oi.cons (f := fdA Tryd.prog 56 1) (ft := 4) (by kernel_rfl) (by kernel_rfl) (by kernel_rfl) (op_4 m) (Oi.cons (f := fdA Tryd.prog 56 2) (ft := 9) (by kernel_rfl) (by kernel_rfl) (by kernel_rfl) (op_9 m) (Oi.cons (f := fdA Tryd.prog 56 3) (ft := 3) (by kernel_rfl) (by kernel_rfl) (by kernel_rfl) (op_3 m) (Oi.cons (f := fdA Tryd.prog 56 4) (ft := 3) (by kernel_rfl) (by kernel_rfl) (by kernel_rfl) (op_3 m) (Oi.cons (f := fdA Tryd.prog 56 5) (ft := 3) (by kernel_rfl) (by kernel_rfl) (by kernel_rfl) (op_3 m) (Oi.cons (f := fdA Tryd.prog 56 6) (ft := 3) (by kernel_rfl) (by kernel_rfl) (by kernel_rfl) (op_3 m) Oi.nil)))))))) ?_
 intro w cs n hl hr
 obtain ⟨y0, h0, q0, n0, m0, rfl, z0, hr⟩ := hr
 have e0 := h0
 obtain ⟨r0, rfl, d0⟩ := tkN e0 rfl
 rw [d0] at hr
 replace hl := rz hl
 obtain ⟨y1, h1, q1, n1, m1, rfl, z1, hr⟩ := hr
 have e1 := h1
 obtain ⟨r1, rfl, d1⟩ := tkN e1 rfl
 rw [d1] at hr
 replace hl := rz hl
 obtain ⟨y2, h2, q2, n2, m2, rfl, z2, hr⟩ := hr
 have e2 := h2
 obtain ⟨r2, rfl, d2⟩ := tkN e2 rfl
 rw [d2] at hr
 replace hl := rz hl
 obtain ⟨y3, h3, q3, n3, m3, rfl, z3, hr⟩ := hr
 have e3 := h3
 obtain ⟨r3, rfl, d3⟩ := tkN e3 rfl
 rw [d3] at hr
 replace hl := rz hl
 obtain ⟨y4, h4, q4, n4, m4, rfl, z4, hr⟩ := hr
 have e4 := h4
 obtain ⟨r4, rfl, d4⟩ := tkN e4 rfl
 rw [d4] at hr
 replace hl := rz hl
 obtain ⟨y5, h5, q5, n5, m5, rfl, z5, hr⟩ := hr
 have e5 := h5
 obtain ⟨r5, rfl, d5⟩ := tkN e5 rfl
 rw [d5] at hr
 replace hl := rz hl
 obtain ⟨y6, h6, q6, n6, m6, rfl, z6, hr⟩ := hr
 have e6 := h6
 obtain ⟨r6, rfl, d6⟩ := tkN e6 rfl
 replace hl := rz hl
 obtain rfl := List.eq_nil_of_length_eq_zero hl
 exact ⟨⟨y0, y1, y2, y3, y4, y5, y6⟩, rfl, ⟨q0, q1, q2, q3, q4, q5, q6⟩, by show (y0.size + 1) + 1 + (y2.size + 1) + 1 + 1 + 1 + 1 + 1 ≤ _; omega⟩
theorem op_26 : Ky Tryd.prog 26 (Kd.slice Eu) (fun xs : List Ba => xs.length * 72 ≤ reachBytes ∧ ∀ x ∈ xs, Xbw x) (fun xs : List Ba => sumL Xdq xs + 1) := Ky.slice (e := 56) (by kernel_rfl) (by kernel_rfl) (by kernel_rfl) (by decide) op_56
end Go.Proofs.YtjookebbmfiidaaDoor.K
