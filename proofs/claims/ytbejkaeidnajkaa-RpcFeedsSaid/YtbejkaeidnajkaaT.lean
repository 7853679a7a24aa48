/- What a reading of the arguments tells, type by type, printed by my own tool. No condition. -/
import Derived.Test.YtbejkaeidnajkaaT0
import Derived.Test.YtbejkaeidnajkaaK0
set_option linter.unusedVariables false
set_option maxRecDepth 100000
namespace Go.Proofs.Ytbejkaeidnajkaa.K
open Go.Proofs.Ytbejkaeidnajkaa.B Go.Proofs.Ytbejkaeidnajkaa.R Go.RowKit
theorem op_5 : OpensA Try.prog 5 (kInt .u8) (fun n : Int => (Lit.int .u8 n).wf = true) (fun _ : Int => 1) := OpensA.int (by kernel_rfl)
theorem op_27 : OpensA Try.prog 27 (Kd.slice (kInt .u8)) (fun xs : List Int => xs.length * 1 ≤ reachBytes ∧ ∀ x ∈ xs, (fun n : Int => (Lit.int .u8 n).wf = true) x) (fun xs : List Int => sumL (fun _ : Int => 1) xs + 1) := OpensA.slice (e := 5) (by kernel_rfl) (by kernel_rfl) (by kernel_rfl) (by decide) op_5
theorem op_22 : OpensA Try.prog 22 (Kd.slice (Kd.slice (kInt .u8))) (fun xs : List (List Int) => xs.length * 24 ≤ reachBytes ∧ ∀ x ∈ xs, (fun xs : List Int => xs.length * 1 ≤ reachBytes ∧ ∀ x ∈ xs, (fun n : Int => (Lit.int .u8 n).wf = true) x) x) (fun xs : List (List Int) => sumL (fun xs : List Int => sumL (fun _ : Int => 1) xs + 1) xs + 1) := OpensA.slice (e := 27) (by kernel_rfl) (by kernel_rfl) (by kernel_rfl) (by decide) op_27
end Go.Proofs.Ytbejkaeidnajkaa.K
