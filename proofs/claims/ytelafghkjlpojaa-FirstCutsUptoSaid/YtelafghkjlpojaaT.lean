/- What a reading of the arguments tells, type by type, printed by my own tool. No condition. -/
import Derived.Test.YtelafghkjlpojaaT0
import Derived.Test.YtelafghkjlpojaaK0
set_option linter.unusedVariables false
set_option maxRecDepth 100000
namespace Go.Proofs.Ytelafghkjlpojaa.K
open Go.Proofs.Ytelafghkjlpojaa.B Go.Proofs.Ytelafghkjlpojaa.R Go.RowKit
theorem op_9 : OpensA Try.prog 9 kStr (fun s : ByteArray => s.size ≤ reachBytes) := OpensA.str (by kernel_rfl)
theorem op_4 : OpensA Try.prog 4 kBool (fun _ : Bool => True) := OpensA.bool (by kernel_rfl)
def q_api_TermDef (x : api_TermDef) : Prop := (fun s : ByteArray => s.size ≤ reachBytes) x.name ∧ (fun _ : Bool => True) x.lit
theorem op_58 : OpensA Try.prog 58 k_api_TermDef q_api_TermDef := by
  refine OpensA.struct (fs := stF Try.prog 58) (fl := [fdA Try.prog 58 0, fdA Try.prog 58 1]) (by kernel_rfl) (by kernel_rfl) (by kernel_rfl) (fun m => (OpensL.cons (f := fdA Try.prog 58 0) (ft := 9) (by kernel_rfl) (by kernel_rfl) (by kernel_rfl) (op_9 m) (OpensL.cons (f := fdA Try.prog 58 1) (ft := 4) (by kernel_rfl) (by kernel_rfl) (by kernel_rfl) (op_4 m) OpensL.nil))) ?_
  intro w cs hl hr
  obtain ⟨y0, h0, q0, hr⟩ := hr
  have e0 := h0
  obtain ⟨r0, rfl, d0⟩ := tkN e0 rfl
  rw [d0] at hr
  replace hl := rz hl
  obtain ⟨y1, h1, q1, hr⟩ := hr
  have e1 := h1
  obtain ⟨r1, rfl, d1⟩ := tkN e1 rfl
  replace hl := rz hl
  obtain rfl := List.eq_nil_of_length_eq_zero hl
  exact ⟨⟨y0, y1⟩, rfl, q0, q1⟩
theorem op_22 : OpensA Try.prog 22 (Kd.slice k_api_TermDef) (fun xs : List api_TermDef => xs.length * 24 ≤ reachBytes ∧ ∀ x ∈ xs, q_api_TermDef x) := OpensA.slice (e := 58) (by kernel_rfl) (by kernel_rfl) (by kernel_rfl) (by decide) op_58
theorem op_59 : OpensA Try.prog 59 (kInt .i64) (fun n : Int => (Lit.int .i64 n).wf = true) := OpensA.int (by kernel_rfl)
def q_api_Sym (x : api_Sym) : Prop := (fun s : ByteArray => s.size ≤ reachBytes) x.name ∧ (fun n : Int => (Lit.int .i64 n).wf = true) x.kind
theorem op_61 : OpensA Try.prog 61 k_api_Sym q_api_Sym := by
  refine OpensA.struct (fs := stF Try.prog 61) (fl := [fdA Try.prog 61 0, fdA Try.prog 61 1]) (by kernel_rfl) (by kernel_rfl) (by kernel_rfl) (fun m => (OpensL.cons (f := fdA Try.prog 61 0) (ft := 9) (by kernel_rfl) (by kernel_rfl) (by kernel_rfl) (op_9 m) (OpensL.cons (f := fdA Try.prog 61 1) (ft := 59) (by kernel_rfl) (by kernel_rfl) (by kernel_rfl) (op_59 m) OpensL.nil))) ?_
  intro w cs hl hr
  obtain ⟨y0, h0, q0, hr⟩ := hr
  have e0 := h0
  obtain ⟨r0, rfl, d0⟩ := tkN e0 rfl
  rw [d0] at hr
  replace hl := rz hl
  obtain ⟨y1, h1, q1, hr⟩ := hr
  have e1 := h1
  obtain ⟨r1, rfl, d1⟩ := tkN e1 rfl
  replace hl := rz hl
  obtain rfl := List.eq_nil_of_length_eq_zero hl
  exact ⟨⟨y0, y1⟩, rfl, q0, q1⟩
theorem op_23 : OpensA Try.prog 23 (Kd.slice k_api_Sym) (fun xs : List api_Sym => xs.length * 24 ≤ reachBytes ∧ ∀ x ∈ xs, q_api_Sym x) := OpensA.slice (e := 61) (by kernel_rfl) (by kernel_rfl) (by kernel_rfl) (by decide) op_61
theorem op_3 : OpensA Try.prog 3 (kInt .i64) (fun n : Int => (Lit.int .i64 n).wf = true) := OpensA.int (by kernel_rfl)
def q_api_Ref (x : api_Ref) : Prop := (fun n : Int => (Lit.int .i64 n).wf = true) x.sym ∧ (fun s : ByteArray => s.size ≤ reachBytes) x.field ∧ (fun s : ByteArray => s.size ≤ reachBytes) x.as
theorem op_36 : OpensA Try.prog 36 k_api_Ref q_api_Ref := by
  refine OpensA.struct (fs := stF Try.prog 36) (fl := [fdA Try.prog 36 0, fdA Try.prog 36 1, fdA Try.prog 36 2]) (by kernel_rfl) (by kernel_rfl) (by kernel_rfl) (fun m => (OpensL.cons (f := fdA Try.prog 36 0) (ft := 3) (by kernel_rfl) (by kernel_rfl) (by kernel_rfl) (op_3 m) (OpensL.cons (f := fdA Try.prog 36 1) (ft := 9) (by kernel_rfl) (by kernel_rfl) (by kernel_rfl) (op_9 m) (OpensL.cons (f := fdA Try.prog 36 2) (ft := 9) (by kernel_rfl) (by kernel_rfl) (by kernel_rfl) (op_9 m) OpensL.nil)))) ?_
  intro w cs hl hr
  obtain ⟨y0, h0, q0, hr⟩ := hr
  have e0 := h0
  obtain ⟨r0, rfl, d0⟩ := tkN e0 rfl
  rw [d0] at hr
  replace hl := rz hl
  obtain ⟨y1, h1, q1, hr⟩ := hr
  have e1 := h1
  obtain ⟨r1, rfl, d1⟩ := tkN e1 rfl
  rw [d1] at hr
  replace hl := rz hl
  obtain ⟨y2, h2, q2, hr⟩ := hr
  have e2 := h2
  obtain ⟨r2, rfl, d2⟩ := tkN e2 rfl
  replace hl := rz hl
  obtain rfl := List.eq_nil_of_length_eq_zero hl
  exact ⟨⟨y0, y1, y2⟩, rfl, q0, q1, q2⟩
theorem op_27 : OpensA Try.prog 27 (Kd.slice k_api_Ref) (fun xs : List api_Ref => xs.length * 40 ≤ reachBytes ∧ ∀ x ∈ xs, q_api_Ref x) := OpensA.slice (e := 36) (by kernel_rfl) (by kernel_rfl) (by kernel_rfl) (by decide) op_36
def q_api_Prod (x : api_Prod) : Prop := (fun n : Int => (Lit.int .i64 n).wf = true) x.lhs ∧ (fun xs : List api_Ref => xs.length * 40 ≤ reachBytes ∧ ∀ x ∈ xs, q_api_Ref x) x.rhs
theorem op_38 : OpensA Try.prog 38 k_api_Prod q_api_Prod := by
  refine OpensA.struct (fs := stF Try.prog 38) (fl := [fdA Try.prog 38 0, fdA Try.prog 38 1]) (by kernel_rfl) (by kernel_rfl) (by kernel_rfl) (fun m => (OpensL.cons (f := fdA Try.prog 38 0) (ft := 3) (by kernel_rfl) (by kernel_rfl) (by kernel_rfl) (op_3 m) (OpensL.cons (f := fdA Try.prog 38 1) (ft := 27) (by kernel_rfl) (by kernel_rfl) (by kernel_rfl) (op_27 m) OpensL.nil))) ?_
  intro w cs hl hr
  obtain ⟨y0, h0, q0, hr⟩ := hr
  have e0 := h0
  obtain ⟨r0, rfl, d0⟩ := tkN e0 rfl
  rw [d0] at hr
  replace hl := rz hl
  obtain ⟨y1, h1, q1, hr⟩ := hr
  obtain ⟨_, _, _, e1, k1_0⟩ := h1
  obtain ⟨r1, rfl, d1⟩ := tkN e1 rfl
  replace hl := rz hl
  obtain rfl := List.eq_nil_of_length_eq_zero hl
  exact ⟨⟨y0, y1⟩, ⟨_, _, _, rfl, k1_0⟩, q0, q1⟩
theorem op_24 : OpensA Try.prog 24 (Kd.slice k_api_Prod) (fun xs : List api_Prod => xs.length * 32 ≤ reachBytes ∧ ∀ x ∈ xs, q_api_Prod x) := OpensA.slice (e := 38) (by kernel_rfl) (by kernel_rfl) (by kernel_rfl) (by decide) op_38
def q_api_Gram (x : api_Gram) : Prop := (fun xs : List api_TermDef => xs.length * 24 ≤ reachBytes ∧ ∀ x ∈ xs, q_api_TermDef x) x.terms ∧ (fun xs : List api_Sym => xs.length * 24 ≤ reachBytes ∧ ∀ x ∈ xs, q_api_Sym x) x.syms ∧ (fun xs : List api_Prod => xs.length * 32 ≤ reachBytes ∧ ∀ x ∈ xs, q_api_Prod x) x.prods
theorem op_26 : OpensA Try.prog 26 k_api_Gram q_api_Gram := by
  refine OpensA.struct (fs := stF Try.prog 26) (fl := [fdA Try.prog 26 0, fdA Try.prog 26 1, fdA Try.prog 26 2]) (by kernel_rfl) (by kernel_rfl) (by kernel_rfl) (fun m => (OpensL.cons (f := fdA Try.prog 26 0) (ft := 22) (by kernel_rfl) (by kernel_rfl) (by kernel_rfl) (op_22 m) (OpensL.cons (f := fdA Try.prog 26 1) (ft := 23) (by kernel_rfl) (by kernel_rfl) (by kernel_rfl) (op_23 m) (OpensL.cons (f := fdA Try.prog 26 2) (ft := 24) (by kernel_rfl) (by kernel_rfl) (by kernel_rfl) (op_24 m) OpensL.nil)))) ?_
  intro w cs hl hr
  obtain ⟨y0, h0, q0, hr⟩ := hr
  obtain ⟨_, _, _, e0, k0_0⟩ := h0
  obtain ⟨r0, rfl, d0⟩ := tkN e0 rfl
  rw [d0] at hr
  replace hl := rz hl
  obtain ⟨y1, h1, q1, hr⟩ := hr
  obtain ⟨_, _, _, e1, k1_0⟩ := h1
  obtain ⟨r1, rfl, d1⟩ := tkN e1 rfl
  rw [d1] at hr
  replace hl := rz hl
  obtain ⟨y2, h2, q2, hr⟩ := hr
  obtain ⟨_, _, _, e2, k2_0⟩ := h2
  obtain ⟨r2, rfl, d2⟩ := tkN e2 rfl
  replace hl := rz hl
  obtain rfl := List.eq_nil_of_length_eq_zero hl
  exact ⟨⟨y0, y1, y2⟩, ⟨_, _, _, _, _, _, _, _, _, rfl, k0_0, k1_0, k2_0⟩, q0, q1, q2⟩
theorem op_40 : OpensA Try.prog 40 (Kd.slice kBool) (fun xs : List Bool => xs.length * 1 ≤ reachBytes ∧ ∀ x ∈ xs, (fun _ : Bool => True) x) := OpensA.slice (e := 4) (by kernel_rfl) (by kernel_rfl) (by kernel_rfl) (by decide) op_4
theorem op_29 : OpensA Try.prog 29 (kInt .u64) (fun n : Int => (Lit.int .u64 n).wf = true) := OpensA.int (by kernel_rfl)
theorem op_42 : OpensA Try.prog 42 (Kd.slice (kInt .u64)) (fun xs : List Int => xs.length * 8 ≤ reachBytes ∧ ∀ x ∈ xs, (fun n : Int => (Lit.int .u64 n).wf = true) x) := OpensA.slice (e := 29) (by kernel_rfl) (by kernel_rfl) (by kernel_rfl) (by decide) op_29
def q_trellislaw11_Replace (x : trellislaw11_Replace) : Prop := (fun n : Int => (Lit.int .i64 n).wf = true) x.at_ ∧ (fun n : Int => (Lit.int .i64 n).wf = true) x.prod
theorem op_54 : OpensA Try.prog 54 k_trellislaw11_Replace q_trellislaw11_Replace := by
  refine OpensA.struct (fs := stF Try.prog 54) (fl := [fdA Try.prog 54 0, fdA Try.prog 54 1]) (by kernel_rfl) (by kernel_rfl) (by kernel_rfl) (fun m => (OpensL.cons (f := fdA Try.prog 54 0) (ft := 3) (by kernel_rfl) (by kernel_rfl) (by kernel_rfl) (op_3 m) (OpensL.cons (f := fdA Try.prog 54 1) (ft := 3) (by kernel_rfl) (by kernel_rfl) (by kernel_rfl) (op_3 m) OpensL.nil))) ?_
  intro w cs hl hr
  obtain ⟨y0, h0, q0, hr⟩ := hr
  have e0 := h0
  obtain ⟨r0, rfl, d0⟩ := tkN e0 rfl
  rw [d0] at hr
  replace hl := rz hl
  obtain ⟨y1, h1, q1, hr⟩ := hr
  have e1 := h1
  obtain ⟨r1, rfl, d1⟩ := tkN e1 rfl
  replace hl := rz hl
  obtain rfl := List.eq_nil_of_length_eq_zero hl
  exact ⟨⟨y0, y1⟩, rfl, q0, q1⟩
theorem op_50 : OpensA Try.prog 50 (Kd.slice k_trellislaw11_Replace) (fun xs : List trellislaw11_Replace => xs.length * 16 ≤ reachBytes ∧ ∀ x ∈ xs, q_trellislaw11_Replace x) := OpensA.slice (e := 54) (by kernel_rfl) (by kernel_rfl) (by kernel_rfl) (by decide) op_54
end Go.Proofs.Ytelafghkjlpojaa.K
