/- What a reading of the arguments tells, type by type, printed by my own tool. No condition. -/
import Derived.Test.YtmfopcbjgbphaaaDoorT0
import Derived.Test.YtmfopcbjgbphaaaDoorK0
set_option linter.unusedVariables false
set_option maxRecDepth 100000
namespace Go.Proofs.YtmfopcbjgbphaaaDoor.K
open Go.Proofs.YtmfopcbjgbphaaaDoor.B Go.Proofs.YtmfopcbjgbphaaaDoor.R Go.RowKit
theorem op_29 : OpensA Tryd.prog 29 (kInt .i64) (fun n : Int => (Lit.int .i64 n).wf = true) (fun _ : Int => 1) := OpensA.int (by kernel_rfl)
theorem op_9 : OpensA Tryd.prog 9 kStr (fun s : ByteArray => s.size ≤ reachBytes) (fun s : ByteArray => s.size + 1) := OpensA.str (by kernel_rfl)
theorem op_3 : OpensA Tryd.prog 3 (kInt .i64) (fun n : Int => (Lit.int .i64 n).wf = true) (fun _ : Int => 1) := OpensA.int (by kernel_rfl)
def sz_api_JNode (x : api_JNode) : Nat := 1 + (x.key.size + 1) + (x.text.size + 1) + 1 + 1
def q_api_JNode (x : api_JNode) : Prop := (fun n : Int => (Lit.int .i64 n).wf = true) x.kind ∧ (fun s : ByteArray => s.size ≤ reachBytes) x.key ∧ (fun s : ByteArray => s.size ≤ reachBytes) x.text ∧ (fun n : Int => (Lit.int .i64 n).wf = true) x.kids
theorem op_31 : OpensA Tryd.prog 31 k_api_JNode q_api_JNode sz_api_JNode := by
 refine OpensA.struct (fs := stF Tryd.prog 31) (fl := [fdA Tryd.prog 31 0, fdA Tryd.prog 31 1, fdA Tryd.prog 31 2, fdA Tryd.prog 31 3]) (by kernel_rfl) (by kernel_rfl) (by kernel_rfl) (fun m => (OpensL.cons (f := fdA Tryd.prog 31 0) (ft := 29) (by kernel_rfl) (by kernel_rfl) (by kernel_rfl) (op_29 m) (OpensL.cons (f := fdA Tryd.prog 31 1) (ft := 9) (by kernel_rfl) (by kernel_rfl) (by kernel_rfl) (op_9 m) (OpensL.cons (f := fdA Tryd.prog 31 2) (ft := 9) (by kernel_rfl) (by kernel_rfl) (by kernel_rfl) (op_9 m) (OpensL.cons (f := fdA Tryd.prog 31 3) (ft := 3) (by kernel_rfl) (by kernel_rfl) (by kernel_rfl) (op_3 m) OpensL.nil))))) ?_
 intro w cs n hl hr
 obtain ⟨y0, h0, q0, n0, m0, rfl, z0, hr⟩ := hr
 have e0 := h0
 obtain ⟨r0, rfl, d0⟩ := tkN e0 rfl
 rw [d0] at hr
 replace hl := rz hl
 obtain ⟨y1, h1, q1, n1, m1, rfl, z1, hr⟩ := hr
 have e1 := h1
 obtain ⟨r1, rfl, d1⟩ := tkN e1 rfl
 rw [d1] at hr
 replace hl := rz hl
 obtain ⟨y2, h2, q2, n2, m2, rfl, z2, hr⟩ := hr
 have e2 := h2
 obtain ⟨r2, rfl, d2⟩ := tkN e2 rfl
 rw [d2] at hr
 replace hl := rz hl
 obtain ⟨y3, h3, q3, n3, m3, rfl, z3, hr⟩ := hr
 have e3 := h3
 obtain ⟨r3, rfl, d3⟩ := tkN e3 rfl
 replace hl := rz hl
 obtain rfl := List.eq_nil_of_length_eq_zero hl
 exact ⟨⟨y0, y1, y2, y3⟩, rfl, ⟨q0, q1, q2, q3⟩, by show 1 + (y1.size + 1) + (y2.size + 1) + 1 + 1 ≤ _; omega⟩
theorem op_22 : OpensA Tryd.prog 22 (Kd.slice k_api_JNode) (fun xs : List api_JNode => xs.length * 48 ≤ reachBytes ∧ ∀ x ∈ xs, q_api_JNode x) (fun xs : List api_JNode => sumL sz_api_JNode xs + 1) := OpensA.slice (e := 31) (by kernel_rfl) (by kernel_rfl) (by kernel_rfl) (by decide) op_31
end Go.Proofs.YtmfopcbjgbphaaaDoor.K
