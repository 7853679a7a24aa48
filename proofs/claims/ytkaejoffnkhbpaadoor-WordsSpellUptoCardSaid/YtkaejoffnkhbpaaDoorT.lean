/- What a reading of the arguments tells, type by type, printed by my own tool. No condition. -/
import Derived.Test.YtkaejoffnkhbpaaDoorT0
import Derived.Test.YtkaejoffnkhbpaaDoorK0
set_option linter.unusedVariables false
set_option maxRecDepth 100000
namespace Go.Proofs.YtkaejoffnkhbpaaDoor.K
open Go.Proofs.YtkaejoffnkhbpaaDoor.B Go.Proofs.YtkaejoffnkhbpaaDoor.R Go.RowKit
theorem op_9 : OpensA Tryd.prog 9 kStr (fun s : ByteArray => s.size ≤ reachBytes) (fun s : ByteArray => s.size + 1) := OpensA.str (by kernel_rfl)
theorem op_25 : OpensA Tryd.prog 25 (kInt .i64) (fun n : Int => (Lit.int .i64 n).wf = true) (fun _ : Int => 1) := OpensA.int (by kernel_rfl)
theorem op_3 : OpensA Tryd.prog 3 (kInt .i64) (fun n : Int => (Lit.int .i64 n).wf = true) (fun _ : Int => 1) := OpensA.int (by kernel_rfl)
def sz_api_Word (x : api_Word) : Nat := 1 + (x.text.size + 1) + 1 + 1 + 1
def q_api_Word (x : api_Word) : Prop := (fun n : Int => (Lit.int .i64 n).wf = true) x.kind ∧ (fun s : ByteArray => s.size ≤ reachBytes) x.text ∧ (fun n : Int => (Lit.int .i64 n).wf = true) x.n ∧ (fun n : Int => (Lit.int .i64 n).wf = true) x.at_
theorem op_27 : OpensA Tryd.prog 27 k_api_Word q_api_Word sz_api_Word := by
  refine OpensA.struct (fs := stF Tryd.prog 27) (fl := [fdA Tryd.prog 27 0, fdA Tryd.prog 27 1, fdA Tryd.prog 27 2, fdA Tryd.prog 27 3]) (by kernel_rfl) (by kernel_rfl) (by kernel_rfl) (fun m => (OpensL.cons (f := fdA Tryd.prog 27 0) (ft := 25) (by kernel_rfl) (by kernel_rfl) (by kernel_rfl) (op_25 m) (OpensL.cons (f := fdA Tryd.prog 27 1) (ft := 9) (by kernel_rfl) (by kernel_rfl) (by kernel_rfl) (op_9 m) (OpensL.cons (f := fdA Tryd.prog 27 2) (ft := 3) (by kernel_rfl) (by kernel_rfl) (by kernel_rfl) (op_3 m) (OpensL.cons (f := fdA Tryd.prog 27 3) (ft := 3) (by kernel_rfl) (by kernel_rfl) (by kernel_rfl) (op_3 m) OpensL.nil))))) ?_
  intro w cs n hl hr
  obtain ⟨y0, h0, q0, n0, m0, rfl, z0, hr⟩ := hr
  have e0 := h0
  obtain ⟨r0, rfl, d0⟩ := tkN e0 rfl
  rw [d0] at hr
  replace hl := rz hl
  obtain ⟨y1, h1, q1, n1, m1, rfl, z1, hr⟩ := hr
  have e1 := h1
  obtain ⟨r1, rfl, d1⟩ := tkN e1 rfl
  rw [d1] at hr
  replace hl := rz hl
  obtain ⟨y2, h2, q2, n2, m2, rfl, z2, hr⟩ := hr
  have e2 := h2
  obtain ⟨r2, rfl, d2⟩ := tkN e2 rfl
  rw [d2] at hr
  replace hl := rz hl
  obtain ⟨y3, h3, q3, n3, m3, rfl, z3, hr⟩ := hr
  have e3 := h3
  obtain ⟨r3, rfl, d3⟩ := tkN e3 rfl
  replace hl := rz hl
  obtain rfl := List.eq_nil_of_length_eq_zero hl
  exact ⟨⟨y0, y1, y2, y3⟩, rfl, ⟨q0, q1, q2, q3⟩, by show 1 + (y1.size + 1) + 1 + 1 + 1 ≤ _; omega⟩
theorem op_22 : OpensA Tryd.prog 22 (Kd.slice k_api_Word) (fun xs : List api_Word => xs.length * 40 ≤ reachBytes ∧ ∀ x ∈ xs, q_api_Word x) (fun xs : List api_Word => sumL sz_api_Word xs + 1) := OpensA.slice (e := 27) (by kernel_rfl) (by kernel_rfl) (by kernel_rfl) (by decide) op_27
end Go.Proofs.YtkaejoffnkhbpaaDoor.K
