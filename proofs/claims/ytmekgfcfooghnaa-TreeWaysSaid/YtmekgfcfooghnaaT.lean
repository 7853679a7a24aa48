/- What a reading of the arguments tells, type by type, printed by my own tool. No condition. -/
import Derived.Test.YtmekgfcfooghnaaT0
import Derived.Test.YtmekgfcfooghnaaK0
set_option linter.unusedVariables false
set_option maxRecDepth 100000
namespace Go.Proofs.Ytmekgfcfooghnaa.K
open Go.Proofs.Ytmekgfcfooghnaa.B Go.Proofs.Ytmekgfcfooghnaa.R Go.RowKit
theorem op_9 : OpensA Try.prog 9 kStr (fun s : ByteArray => s.size ≤ reachBytes) (fun s : ByteArray => s.size + 1) := OpensA.str (by kernel_rfl)
theorem op_4 : OpensA Try.prog 4 kBool (fun _ : Bool => True) (fun _ : Bool => 1) := OpensA.bool (by kernel_rfl)
theorem op_3 : OpensA Try.prog 3 (kInt .i64) (fun n : Int => (Lit.int .i64 n).wf = true) (fun _ : Int => 1) := OpensA.int (by kernel_rfl)
def sz_api_Node (x : api_Node) : Nat := (x.name.size + 1) + 1 + (x.field.size + 1) + 1 + 1 + 1 + 1 + 1
def q_api_Node (x : api_Node) : Prop := (fun s : ByteArray => s.size ≤ reachBytes) x.name ∧ (fun _ : Bool => True) x.named ∧ (fun s : ByteArray => s.size ≤ reachBytes) x.field ∧ (fun n : Int => (Lit.int .i64 n).wf = true) x.from_ ∧ (fun n : Int => (Lit.int .i64 n).wf = true) x.to ∧ (fun n : Int => (Lit.int .i64 n).wf = true) x.kids ∧ (fun n : Int => (Lit.int .i64 n).wf = true) x.leaf
theorem op_39 : OpensA Try.prog 39 k_api_Node q_api_Node sz_api_Node := by
  refine OpensA.struct (fs := stF Try.prog 39) (fl := [fdA Try.prog 39 0, fdA Try.prog 39 1, fdA Try.prog 39 2, fdA Try.prog 39 3, fdA Try.prog 39 4, fdA Try.prog 39 5, fdA Try.prog 39 6]) (by kernel_rfl) (by kernel_rfl) (by kernel_rfl) (fun m => (OpensL.cons (f := fdA Try.prog 39 0) (ft := 9) (by kernel_rfl) (by kernel_rfl) (by kernel_rfl) (op_9 m) (OpensL.cons (f := fdA Try.prog 39 1) (ft := 4) (by kernel_rfl) (by kernel_rfl) (by kernel_rfl) (op_4 m) (OpensL.cons (f := fdA Try.prog 39 2) (ft := 9) (by kernel_rfl) (by kernel_rfl) (by kernel_rfl) (op_9 m) (OpensL.cons (f := fdA Try.prog 39 3) (ft := 3) (by kernel_rfl) (by kernel_rfl) (by kernel_rfl) (op_3 m) (OpensL.cons (f := fdA Try.prog 39 4) (ft := 3) (by kernel_rfl) (by kernel_rfl) (by kernel_rfl) (op_3 m) (OpensL.cons (f := fdA Try.prog 39 5) (ft := 3) (by kernel_rfl) (by kernel_rfl) (by kernel_rfl) (op_3 m) (OpensL.cons (f := fdA Try.prog 39 6) (ft := 3) (by kernel_rfl) (by kernel_rfl) (by kernel_rfl) (op_3 m) OpensL.nil)))))))) ?_
  intro w cs n hl hr
  obtain ⟨y0, h0, q0, n0, m0, rfl, z0, hr⟩ := hr
  have e0 := h0
  obtain ⟨r0, rfl, d0⟩ := tkN e0 rfl
  rw [d0] at hr
  replace hl := rz hl
  obtain ⟨y1, h1, q1, n1, m1, rfl, z1, hr⟩ := hr
  have e1 := h1
  obtain ⟨r1, rfl, d1⟩ := tkN e1 rfl
  rw [d1] at hr
  replace hl := rz hl
  obtain ⟨y2, h2, q2, n2, m2, rfl, z2, hr⟩ := hr
  have e2 := h2
  obtain ⟨r2, rfl, d2⟩ := tkN e2 rfl
  rw [d2] at hr
  replace hl := rz hl
  obtain ⟨y3, h3, q3, n3, m3, rfl, z3, hr⟩ := hr
  have e3 := h3
  obtain ⟨r3, rfl, d3⟩ := tkN e3 rfl
  rw [d3] at hr
  replace hl := rz hl
  obtain ⟨y4, h4, q4, n4, m4, rfl, z4, hr⟩ := hr
  have e4 := h4
  obtain ⟨r4, rfl, d4⟩ := tkN e4 rfl
  rw [d4] at hr
  replace hl := rz hl
  obtain ⟨y5, h5, q5, n5, m5, rfl, z5, hr⟩ := hr
  have e5 := h5
  obtain ⟨r5, rfl, d5⟩ := tkN e5 rfl
  rw [d5] at hr
  replace hl := rz hl
  obtain ⟨y6, h6, q6, n6, m6, rfl, z6, hr⟩ := hr
  have e6 := h6
  obtain ⟨r6, rfl, d6⟩ := tkN e6 rfl
  replace hl := rz hl
  obtain rfl := List.eq_nil_of_length_eq_zero hl
  exact ⟨⟨y0, y1, y2, y3, y4, y5, y6⟩, rfl, ⟨q0, q1, q2, q3, q4, q5, q6⟩, by show (y0.size + 1) + 1 + (y2.size + 1) + 1 + 1 + 1 + 1 + 1 ≤ _; omega⟩
theorem op_22 : OpensA Try.prog 22 (Kd.slice k_api_Node) (fun xs : List api_Node => xs.length * 72 ≤ reachBytes ∧ ∀ x ∈ xs, q_api_Node x) (fun xs : List api_Node => sumL sz_api_Node xs + 1) := OpensA.slice (e := 39) (by kernel_rfl) (by kernel_rfl) (by kernel_rfl) (by decide) op_39
end Go.Proofs.Ytmekgfcfooghnaa.K
