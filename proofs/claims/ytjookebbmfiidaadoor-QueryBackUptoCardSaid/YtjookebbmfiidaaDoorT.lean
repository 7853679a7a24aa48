/- What a reading of the arguments tells, type by type, printed by my own tool. No condition. -/
import Derived.Test.YtjookebbmfiidaaDoorT0
import Derived.Test.YtjookebbmfiidaaDoorK0
set_option linter.unusedVariables false
set_option maxRecDepth 100000
namespace Go.Proofs.YtjookebbmfiidaaDoor.K
open Go.Proofs.YtjookebbmfiidaaDoor.B Go.Proofs.YtjookebbmfiidaaDoor.R Go.RowKit
theorem op_9 : Je Tryd.prog 9 kStr (fun s : ByteArray => s.size ≤ reachBytes) (fun s : ByteArray => s.size + 1) := Je.str (by kernel_rfl)
theorem op_4 : Je Tryd.prog 4 kBool (fun _ : Bool => True) (fun _ : Bool => 1) := Je.bool (by kernel_rfl)
theorem op_3 : Je Tryd.prog 3 (Gi .i64) (fun n : Int => (Lit.int .i64 n).wf = true) (fun _ : Int => 1) := Je.int (by kernel_rfl)
def Ji (x : Ag) : Nat := (x.name.size + 1) + 1 + (x.field.size + 1) + (x.capture.size + 1) + 1 + 1
def Zm (x : Ag) : Prop := (fun s : ByteArray => s.size ≤ reachBytes) x.name ∧ (fun _ : Bool => True) x.lit ∧ (fun s : ByteArray => s.size ≤ reachBytes) x.field ∧ (fun s : ByteArray => s.size ≤ reachBytes) x.capture ∧ (fun n : Int => (Lit.int .i64 n).wf = true) x.kids
theorem op_45 : Je Tryd.prog 45 Di Zm Ji := by
 refine Je.struct (fs := stF Tryd.prog 45) (fl := [fdA Tryd.prog 45 0, fdA Tryd.prog 45 1, fdA Tryd.prog 45 2, fdA Tryd.prog 45 3, fdA Tryd.prog 45 4]) (by kernel_rfl) (by kernel_rfl) (by kernel_rfl) (fun m => (Pg.cons (f := fdA Tryd.prog 45 0) (ft := 9) (by kernel_rfl) (by kernel_rfl) (by kernel_rfl) (op_9 m) (Pg.cons (f := fdA Tryd.prog 45 1) (ft := 4) (by kernel_rfl) (by kernel_rfl) (by kernel_rfl) (op_4 m) (Pg.cons (f := fdA Tryd.prog 45 2) (ft := 9) (by kernel_rfl) (by kernel_rfl) (by kernel_rfl) (op_9 m) (Pg.cons (f := fdA Tryd.prog 45 3) (ft := 9) (by kernel_rfl) (by kernel_rfl) (by kernel_rfl) (op_9 m) (Pg.cons (f := fdA Tryd.prog 45 4) (ft := 3) (by kernel_rfl) (by kernel_rfl) (by kernel_rfl) (op_3 m) Pg.nil)))))) ?_
 intro w cs n hl hr
 obtain ⟨y0, h0, q0, n0, m0, rfl, z0, hr⟩ := hr
 have e0 := h0
 obtain ⟨r0, rfl, d0⟩ := tkN e0 rfl
 rw [d0] at hr
 replace hl := rz hl
 obtain ⟨y1, h1, q1, n1, m1, rfl, z1, hr⟩ := hr
 have e1 := h1
 obtain ⟨r1, rfl, d1⟩ := tkN e1 rfl
 rw [d1] at hr
 replace hl := rz hl
 obtain ⟨y2, h2, q2, n2, m2, rfl, z2, hr⟩ := hr
 have e2 := h2
 obtain ⟨r2, rfl, d2⟩ := tkN e2 rfl
 rw [d2] at hr
 replace hl := rz hl
 obtain ⟨y3, h3, q3, n3, m3, rfl, z3, hr⟩ := hr
 have e3 := h3
 obtain ⟨r3, rfl, d3⟩ := tkN e3 rfl
 rw [d3] at hr
 replace hl := rz hl
 obtain ⟨y4, h4, q4, n4, m4, rfl, z4, hr⟩ := hr
 have e4 := h4
 obtain ⟨r4, rfl, d4⟩ := tkN e4 rfl
 replace hl := rz hl
 obtain rfl := List.eq_nil_of_length_eq_zero hl
 exact ⟨⟨y0, y1, y2, y3, y4⟩, rfl, ⟨q0, q1, q2, q3, q4⟩, by show (y0.size + 1) + 1 + (y2.size + 1) + (y3.size + 1) + 1 + 1 ≤ _; omega⟩
theorem op_22 : Je Tryd.prog 22 (Kd.slice Di) (fun xs : List Ag => xs.length * 64 ≤ reachBytes ∧ ∀ x ∈ xs, Zm x) (fun xs : List Ag => Xas Ji xs + 1) := Je.slice (e := 45) (by kernel_rfl) (by kernel_rfl) (by kernel_rfl) (by decide) op_45
def Ro (x : Bh) : Nat := 1 + (x.a.size + 1) + (x.b.size + 1) + (x.text.size + 1) + 1
def Xcv (x : Bh) : Prop := (fun _ : Bool => True) x.not ∧ (fun s : ByteArray => s.size ≤ reachBytes) x.a ∧ (fun s : ByteArray => s.size ≤ reachBytes) x.b ∧ (fun s : ByteArray => s.size ≤ reachBytes) x.text
theorem op_47 : Je Tryd.prog 47 Ey Xcv Ro := by
 refine Je.struct (fs := stF Tryd.prog 47) (fl := [fdA Tryd.prog 47 0, fdA Tryd.prog 47 1, fdA Tryd.prog 47 2, fdA Tryd.prog 47 3]) (by kernel_rfl) (by kernel_rfl) (by kernel_rfl) (fun m => (Pg.cons (f := fdA Tryd.prog 47 0) (ft := 4) (by kernel_rfl) (by kernel_rfl) (by kernel_rfl) (op_4 m) (Pg.cons (f := fdA Tryd.prog 47 1) (ft := 9) (by kernel_rfl) (by kernel_rfl) (by kernel_rfl) (op_9 m) (Pg.cons (f := fdA Tryd.prog 47 2) (ft := 9) (by kernel_rfl) (by kernel_rfl) (by kernel_rfl) (op_9 m) (Pg.cons (f := fdA Tryd.prog 47 3) (ft := 9) (by kernel_rfl) (by kernel_rfl) (by kernel_rfl) (op_9 m) Pg.nil))))) ?_
 intro w cs n hl hr
 obtain ⟨y0, h0, q0, n0, m0, rfl, z0, hr⟩ := hr
 have e0 := h0
 obtain ⟨r0, rfl, d0⟩ := tkN e0 rfl
 rw [d0] at hr
 replace hl := rz hl
 obtain ⟨y1, h1, q1, n1, m1, rfl, z1, hr⟩ := hr
 have e1 := h1
 obtain ⟨r1, rfl, d1⟩ := tkN e1 rfl
 rw [d1] at hr
 replace hl := rz hl
 obtain ⟨y2, h2, q2, n2, m2, rfl, z2, hr⟩ := hr
 have e2 := h2
 obtain ⟨r2, rfl, d2⟩ := tkN e2 rfl
 rw [d2] at hr
 replace hl := rz hl
 obtain ⟨y3, h3, q3, n3, m3, rfl, z3, hr⟩ := hr
 have e3 := h3
 obtain ⟨r3, rfl, d3⟩ := tkN e3 rfl
 replace hl := rz hl
 obtain rfl := List.eq_nil_of_length_eq_zero hl
 exact ⟨⟨y0, y1, y2, y3⟩, rfl, ⟨q0, q1, q2, q3⟩, by show 1 + (y1.size + 1) + (y2.size + 1) + (y3.size + 1) + 1 ≤ _; omega⟩
theorem op_23 : Je Tryd.prog 23 (Kd.slice Ey) (fun xs : List Bh => xs.length * 56 ≤ reachBytes ∧ ∀ x ∈ xs, Xcv x) (fun xs : List Bh => Xas Ro xs + 1) := Je.slice (e := 47) (by kernel_rfl) (by kernel_rfl) (by kernel_rfl) (by decide) op_47
def Vl (x : Am) : Nat := (Xas Ji x.nodes + 1) + (Xas Ro x.conds + 1) + 1
def Xfm (x : Am) : Prop := (fun xs : List Ag => xs.length * 64 ≤ reachBytes ∧ ∀ x ∈ xs, Zm x) x.nodes ∧ (fun xs : List Bh => xs.length * 56 ≤ reachBytes ∧ ∀ x ∈ xs, Xcv x) x.conds
theorem op_25 : Je Tryd.prog 25 Xki Xfm Vl := by
 refine Je.struct (fs := stF Tryd.prog 25) (fl := [fdA Tryd.prog 25 0, fdA Tryd.prog 25 1]) (by kernel_rfl) (by kernel_rfl) (by kernel_rfl) (fun m => (Pg.cons (f := fdA Tryd.prog 25 0) (ft := 22) (by kernel_rfl) (by kernel_rfl) (by kernel_rfl) (op_22 m) (Pg.cons (f := fdA Tryd.prog 25 1) (ft := 23) (by kernel_rfl) (by kernel_rfl) (by kernel_rfl) (op_23 m) Pg.nil))) ?_
 intro w cs n hl hr
 obtain ⟨y0, h0, q0, n0, m0, rfl, z0, hr⟩ := hr
 obtain ⟨_, _, _, e0, k0_0⟩ := h0
 obtain ⟨r0, rfl, d0⟩ := tkN e0 rfl
 rw [d0] at hr
 replace hl := rz hl
 obtain ⟨y1, h1, q1, n1, m1, rfl, z1, hr⟩ := hr
 obtain ⟨_, _, _, e1, k1_0⟩ := h1
 obtain ⟨r1, rfl, d1⟩ := tkN e1 rfl
 replace hl := rz hl
 obtain rfl := List.eq_nil_of_length_eq_zero hl
 exact ⟨⟨y0, y1⟩, ⟨_, _, _, _, _, _, rfl, k0_0, k1_0⟩, ⟨q0, q1⟩, by show (Xas Ji y0 + 1) + (Xas Ro y1 + 1) + 1 ≤ _; omega⟩
end Go.Proofs.YtjookebbmfiidaaDoor.K
