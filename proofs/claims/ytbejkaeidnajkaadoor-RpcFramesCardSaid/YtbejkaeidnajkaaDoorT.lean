/- What a reading of the arguments tells, type by type, printed by my own tool. No condition. -/
import Derived.Test.YtbejkaeidnajkaaDoorT0
import Derived.Test.YtbejkaeidnajkaaDoorK0
set_option linter.unusedVariables false
set_option maxRecDepth 100000
namespace Go.Proofs.YtbejkaeidnajkaaDoor.K
open Go.Proofs.YtbejkaeidnajkaaDoor.B Go.Proofs.YtbejkaeidnajkaaDoor.R Go.RowKit
theorem op_5 : OpensA Tryd.prog 5 (kInt .u8) (fun n : Int => (Lit.int .u8 n).wf = true) (fun _ : Int => 1) := OpensA.int (by kernel_rfl)
theorem op_22 : OpensA Tryd.prog 22 (Kd.slice (kInt .u8)) (fun xs : List Int => xs.length * 1 ≤ reachBytes ∧ ∀ x ∈ xs, (fun n : Int => (Lit.int .u8 n).wf = true) x) (fun xs : List Int => sumL (fun _ : Int => 1) xs + 1) := OpensA.slice (e := 5) (by kernel_rfl) (by kernel_rfl) (by kernel_rfl) (by decide) op_5
theorem op_9 : OpensA Tryd.prog 9 kStr (fun s : ByteArray => s.size ≤ reachBytes) (fun s : ByteArray => s.size + 1) := OpensA.str (by kernel_rfl)
theorem op_3 : OpensA Tryd.prog 3 (kInt .i64) (fun n : Int => (Lit.int .i64 n).wf = true) (fun _ : Int => 1) := OpensA.int (by kernel_rfl)
theorem op_34 : OpensA Tryd.prog 34 (Kd.slice (Kd.slice (kInt .u8))) (fun xs : List (List Int) => xs.length * 24 ≤ reachBytes ∧ ∀ x ∈ xs, (fun xs : List Int => xs.length * 1 ≤ reachBytes ∧ ∀ x ∈ xs, (fun n : Int => (Lit.int .u8 n).wf = true) x) x) (fun xs : List (List Int) => sumL (fun xs : List Int => sumL (fun _ : Int => 1) xs + 1) xs + 1) := OpensA.slice (e := 22) (by kernel_rfl) (by kernel_rfl) (by kernel_rfl) (by decide) op_22
theorem op_35 : OpensA Tryd.prog 35 (Kd.slice kStr) (fun xs : List ByteArray => xs.length * 16 ≤ reachBytes ∧ ∀ x ∈ xs, (fun s : ByteArray => s.size ≤ reachBytes) x) (fun xs : List ByteArray => sumL (fun s : ByteArray => s.size + 1) xs + 1) := OpensA.slice (e := 9) (by kernel_rfl) (by kernel_rfl) (by kernel_rfl) (by decide) op_9
theorem op_40 : OpensA Tryd.prog 40 (Kd.slice (kInt .i64)) (fun xs : List Int => xs.length * 8 ≤ reachBytes ∧ ∀ x ∈ xs, (fun n : Int => (Lit.int .i64 n).wf = true) x) (fun xs : List Int => sumL (fun _ : Int => 1) xs + 1) := OpensA.slice (e := 3) (by kernel_rfl) (by kernel_rfl) (by kernel_rfl) (by decide) op_3
end Go.Proofs.YtbejkaeidnajkaaDoor.K
