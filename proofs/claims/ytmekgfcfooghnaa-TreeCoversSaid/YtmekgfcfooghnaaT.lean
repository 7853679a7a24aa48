/- What a reading of the arguments tells, type by type, printed by my own tool. No condition. -/
import Derived.Test.YtmekgfcfooghnaaT0
import Derived.Test.YtmekgfcfooghnaaK0
set_option linter.unusedVariables false
set_option maxRecDepth 100000
namespace Go.Proofs.Ytmekgfcfooghnaa.K
open Go.Proofs.Ytmekgfcfooghnaa.B Go.Proofs.Ytmekgfcfooghnaa.R Go.RowKit
theorem op_9 : OpensA Try.prog 9 kStr (fun s : ByteArray => s.size ≤ reachBytes) (fun s : ByteArray => s.size + 1) := OpensA.str (by kernel_rfl)
theorem op_4 : OpensA Try.prog 4 kBool (fun _ : Bool => True) (fun _ : Bool => 1) := OpensA.bool (by kernel_rfl)
def sz_api_ModeDef (x : api_ModeDef) : Nat := (x.name.size + 1) + 1 + 1
def q_api_ModeDef (x : api_ModeDef) : Prop := (fun s : ByteArray => s.size ≤ reachBytes) x.name ∧ (fun _ : Bool => True) x.open_
theorem op_152 : OpensA Try.prog 152 k_api_ModeDef q_api_ModeDef sz_api_ModeDef := by
 refine OpensA.struct (fs := stF Try.prog 152) (fl := [fdA Try.prog 152 0, fdA Try.prog 152 1]) (by kernel_rfl) (by kernel_rfl) (by kernel_rfl) (fun m => (OpensL.cons (f := fdA Try.prog 152 0) (ft := 9) (by kernel_rfl) (by kernel_rfl) (by kernel_rfl) (op_9 m) (OpensL.cons (f := fdA Try.prog 152 1) (ft := 4) (by kernel_rfl) (by kernel_rfl) (by kernel_rfl) (op_4 m) OpensL.nil))) ?_
 intro w cs n hl hr
 obtain ⟨y0, h0, q0, n0, m0, rfl, z0, hr⟩ := hr
 have e0 := h0
 obtain ⟨r0, rfl, d0⟩ := tkN e0 rfl
 rw [d0] at hr
 replace hl := rz hl
 obtain ⟨y1, h1, q1, n1, m1, rfl, z1, hr⟩ := hr
 have e1 := h1
 obtain ⟨r1, rfl, d1⟩ := tkN e1 rfl
 replace hl := rz hl
 obtain rfl := List.eq_nil_of_length_eq_zero hl
 exact ⟨⟨y0, y1⟩, rfl, ⟨q0, q1⟩, by show (y0.size + 1) + 1 + 1 ≤ _; omega⟩
theorem op_42 : OpensA Try.prog 42 (Kd.slice k_api_ModeDef) (fun xs : List api_ModeDef => xs.length * 24 ≤ reachBytes ∧ ∀ x ∈ xs, q_api_ModeDef x) (fun xs : List api_ModeDef => sumL sz_api_ModeDef xs + 1) := OpensA.slice (e := 152) (by kernel_rfl) (by kernel_rfl) (by kernel_rfl) (by decide) op_152
def sz_api_TermDef (x : api_TermDef) : Nat := (x.name.size + 1) + 1 + 1
def q_api_TermDef (x : api_TermDef) : Prop := (fun s : ByteArray => s.size ≤ reachBytes) x.name ∧ (fun _ : Bool => True) x.lit
theorem op_100 : OpensA Try.prog 100 k_api_TermDef q_api_TermDef sz_api_TermDef := by
 refine OpensA.struct (fs := stF Try.prog 100) (fl := [fdA Try.prog 100 0, fdA Try.prog 100 1]) (by kernel_rfl) (by kernel_rfl) (by kernel_rfl) (fun m => (OpensL.cons (f := fdA Try.prog 100 0) (ft := 9) (by kernel_rfl) (by kernel_rfl) (by kernel_rfl) (op_9 m) (OpensL.cons (f := fdA Try.prog 100 1) (ft := 4) (by kernel_rfl) (by kernel_rfl) (by kernel_rfl) (op_4 m) OpensL.nil))) ?_
 intro w cs n hl hr
 obtain ⟨y0, h0, q0, n0, m0, rfl, z0, hr⟩ := hr
 have e0 := h0
 obtain ⟨r0, rfl, d0⟩ := tkN e0 rfl
 rw [d0] at hr
 replace hl := rz hl
 obtain ⟨y1, h1, q1, n1, m1, rfl, z1, hr⟩ := hr
 have e1 := h1
 obtain ⟨r1, rfl, d1⟩ := tkN e1 rfl
 replace hl := rz hl
 obtain rfl := List.eq_nil_of_length_eq_zero hl
 exact ⟨⟨y0, y1⟩, rfl, ⟨q0, q1⟩, by show (y0.size + 1) + 1 + 1 ≤ _; omega⟩
theorem op_43 : OpensA Try.prog 43 (Kd.slice k_api_TermDef) (fun xs : List api_TermDef => xs.length * 24 ≤ reachBytes ∧ ∀ x ∈ xs, q_api_TermDef x) (fun xs : List api_TermDef => sumL sz_api_TermDef xs + 1) := OpensA.slice (e := 100) (by kernel_rfl) (by kernel_rfl) (by kernel_rfl) (by decide) op_100
theorem op_72 : OpensA Try.prog 72 (kInt .i64) (fun n : Int => (Lit.int .i64 n).wf = true) (fun _ : Int => 1) := OpensA.int (by kernel_rfl)
def sz_api_Sym (x : api_Sym) : Nat := (x.name.size + 1) + 1 + 1
def q_api_Sym (x : api_Sym) : Prop := (fun s : ByteArray => s.size ≤ reachBytes) x.name ∧ (fun n : Int => (Lit.int .i64 n).wf = true) x.kind
theorem op_74 : OpensA Try.prog 74 k_api_Sym q_api_Sym sz_api_Sym := by
 refine OpensA.struct (fs := stF Try.prog 74) (fl := [fdA Try.prog 74 0, fdA Try.prog 74 1]) (by kernel_rfl) (by kernel_rfl) (by kernel_rfl) (fun m => (OpensL.cons (f := fdA Try.prog 74 0) (ft := 9) (by kernel_rfl) (by kernel_rfl) (by kernel_rfl) (op_9 m) (OpensL.cons (f := fdA Try.prog 74 1) (ft := 72) (by kernel_rfl) (by kernel_rfl) (by kernel_rfl) (op_72 m) OpensL.nil))) ?_
 intro w cs n hl hr
 obtain ⟨y0, h0, q0, n0, m0, rfl, z0, hr⟩ := hr
 have e0 := h0
 obtain ⟨r0, rfl, d0⟩ := tkN e0 rfl
 rw [d0] at hr
 replace hl := rz hl
 obtain ⟨y1, h1, q1, n1, m1, rfl, z1, hr⟩ := hr
 have e1 := h1
 obtain ⟨r1, rfl, d1⟩ := tkN e1 rfl
 replace hl := rz hl
 obtain rfl := List.eq_nil_of_length_eq_zero hl
 exact ⟨⟨y0, y1⟩, rfl, ⟨q0, q1⟩, by show (y0.size + 1) + 1 + 1 ≤ _; omega⟩
theorem op_44 : OpensA Try.prog 44 (Kd.slice k_api_Sym) (fun xs : List api_Sym => xs.length * 24 ≤ reachBytes ∧ ∀ x ∈ xs, q_api_Sym x) (fun xs : List api_Sym => sumL sz_api_Sym xs + 1) := OpensA.slice (e := 74) (by kernel_rfl) (by kernel_rfl) (by kernel_rfl) (by decide) op_74
theorem op_3 : OpensA Try.prog 3 (kInt .i64) (fun n : Int => (Lit.int .i64 n).wf = true) (fun _ : Int => 1) := OpensA.int (by kernel_rfl)
def sz_api_Ref (x : api_Ref) : Nat := 1 + (x.field.size + 1) + (x.as.size + 1) + 1
def q_api_Ref (x : api_Ref) : Prop := (fun n : Int => (Lit.int .i64 n).wf = true) x.sym ∧ (fun s : ByteArray => s.size ≤ reachBytes) x.field ∧ (fun s : ByteArray => s.size ≤ reachBytes) x.as
theorem op_104 : OpensA Try.prog 104 k_api_Ref q_api_Ref sz_api_Ref := by
 refine OpensA.struct (fs := stF Try.prog 104) (fl := [fdA Try.prog 104 0, fdA Try.prog 104 1, fdA Try.prog 104 2]) (by kernel_rfl) (by kernel_rfl) (by kernel_rfl) (fun m => (OpensL.cons (f := fdA Try.prog 104 0) (ft := 3) (by kernel_rfl) (by kernel_rfl) (by kernel_rfl) (op_3 m) (OpensL.cons (f := fdA Try.prog 104 1) (ft := 9) (by kernel_rfl) (by kernel_rfl) (by kernel_rfl) (op_9 m) (OpensL.cons (f := fdA Try.prog 104 2) (ft := 9) (by kernel_rfl) (by kernel_rfl) (by kernel_rfl) (op_9 m) OpensL.nil)))) ?_
 intro w cs n hl hr
 obtain ⟨y0, h0, q0, n0, m0, rfl, z0, hr⟩ := hr
 have e0 := h0
 obtain ⟨r0, rfl, d0⟩ := tkN e0 rfl
 rw [d0] at hr
 replace hl := rz hl
 obtain ⟨y1, h1, q1, n1, m1, rfl, z1, hr⟩ := hr
 have e1 := h1
 obtain ⟨r1, rfl, d1⟩ := tkN e1 rfl
 rw [d1] at hr
 replace hl := rz hl
 obtain ⟨y2, h2, q2, n2, m2, rfl, z2, hr⟩ := hr
 have e2 := h2
 obtain ⟨r2, rfl, d2⟩ := tkN e2 rfl
 replace hl := rz hl
 obtain rfl := List.eq_nil_of_length_eq_zero hl
 exact ⟨⟨y0, y1, y2⟩, rfl, ⟨q0, q1, q2⟩, by show 1 + (y1.size + 1) + (y2.size + 1) + 1 ≤ _; omega⟩
theorem op_105 : OpensA Try.prog 105 (Kd.slice k_api_Ref) (fun xs : List api_Ref => xs.length * 40 ≤ reachBytes ∧ ∀ x ∈ xs, q_api_Ref x) (fun xs : List api_Ref => sumL sz_api_Ref xs + 1) := OpensA.slice (e := 104) (by kernel_rfl) (by kernel_rfl) (by kernel_rfl) (by decide) op_104
def sz_api_Prod (x : api_Prod) : Nat := 1 + (sumL sz_api_Ref x.rhs + 1) + 1
def q_api_Prod (x : api_Prod) : Prop := (fun n : Int => (Lit.int .i64 n).wf = true) x.lhs ∧ (fun xs : List api_Ref => xs.length * 40 ≤ reachBytes ∧ ∀ x ∈ xs, q_api_Ref x) x.rhs
theorem op_107 : OpensA Try.prog 107 k_api_Prod q_api_Prod sz_api_Prod := by
 refine OpensA.struct (fs := stF Try.prog 107) (fl := [fdA Try.prog 107 0, fdA Try.prog 107 1]) (by kernel_rfl) (by kernel_rfl) (by kernel_rfl) (fun m => (OpensL.cons (f := fdA Try.prog 107 0) (ft := 3) (by kernel_rfl) (by kernel_rfl) (by kernel_rfl) (op_3 m) (OpensL.cons (f := fdA Try.prog 107 1) (ft := 105) (by kernel_rfl) (by kernel_rfl) (by kernel_rfl) (op_105 m) OpensL.nil))) ?_
 intro w cs n hl hr
 obtain ⟨y0, h0, q0, n0, m0, rfl, z0, hr⟩ := hr
 have e0 := h0
 obtain ⟨r0, rfl, d0⟩ := tkN e0 rfl
 rw [d0] at hr
 replace hl := rz hl
 obtain ⟨y1, h1, q1, n1, m1, rfl, z1, hr⟩ := hr
 obtain ⟨_, _, _, e1, k1_0⟩ := h1
 obtain ⟨r1, rfl, d1⟩ := tkN e1 rfl
 replace hl := rz hl
 obtain rfl := List.eq_nil_of_length_eq_zero hl
 exact ⟨⟨y0, y1⟩, ⟨_, _, _, rfl, k1_0⟩, ⟨q0, q1⟩, by show 1 + (sumL sz_api_Ref y1 + 1) + 1 ≤ _; omega⟩
theorem op_45 : OpensA Try.prog 45 (Kd.slice k_api_Prod) (fun xs : List api_Prod => xs.length * 32 ≤ reachBytes ∧ ∀ x ∈ xs, q_api_Prod x) (fun xs : List api_Prod => sumL sz_api_Prod xs + 1) := OpensA.slice (e := 107) (by kernel_rfl) (by kernel_rfl) (by kernel_rfl) (by decide) op_107
def sz_api_Gram (x : api_Gram) : Nat := (sumL sz_api_TermDef x.terms + 1) + (sumL sz_api_Sym x.syms + 1) + (sumL sz_api_Prod x.prods + 1) + 1
def q_api_Gram (x : api_Gram) : Prop := (fun xs : List api_TermDef => xs.length * 24 ≤ reachBytes ∧ ∀ x ∈ xs, q_api_TermDef x) x.terms ∧ (fun xs : List api_Sym => xs.length * 24 ≤ reachBytes ∧ ∀ x ∈ xs, q_api_Sym x) x.syms ∧ (fun xs : List api_Prod => xs.length * 32 ≤ reachBytes ∧ ∀ x ∈ xs, q_api_Prod x) x.prods
theorem op_47 : OpensA Try.prog 47 k_api_Gram q_api_Gram sz_api_Gram := by
 refine OpensA.struct (fs := stF Try.prog 47) (fl := [fdA Try.prog 47 0, fdA Try.prog 47 1, fdA Try.prog 47 2]) (by kernel_rfl) (by kernel_rfl) (by kernel_rfl) (fun m => (OpensL.cons (f := fdA Try.prog 47 0) (ft := 43) (by kernel_rfl) (by kernel_rfl) (by kernel_rfl) (op_43 m) (OpensL.cons (f := fdA Try.prog 47 1) (ft := 44) (by kernel_rfl) (by kernel_rfl) (by kernel_rfl) (op_44 m) (OpensL.cons (f := fdA Try.prog 47 2) (ft := 45) (by kernel_rfl) (by kernel_rfl) (by kernel_rfl) (op_45 m) OpensL.nil)))) ?_
 intro w cs n hl hr
 obtain ⟨y0, h0, q0, n0, m0, rfl, z0, hr⟩ := hr
 obtain ⟨_, _, _, e0, k0_0⟩ := h0
 obtain ⟨r0, rfl, d0⟩ := tkN e0 rfl
 rw [d0] at hr
 replace hl := rz hl
 obtain ⟨y1, h1, q1, n1, m1, rfl, z1, hr⟩ := hr
 obtain ⟨_, _, _, e1, k1_0⟩ := h1
 obtain ⟨r1, rfl, d1⟩ := tkN e1 rfl
 rw [d1] at hr
 replace hl := rz hl
 obtain ⟨y2, h2, q2, n2, m2, rfl, z2, hr⟩ := hr
 obtain ⟨_, _, _, e2, k2_0⟩ := h2
 obtain ⟨r2, rfl, d2⟩ := tkN e2 rfl
 replace hl := rz hl
 obtain rfl := List.eq_nil_of_length_eq_zero hl
 exact ⟨⟨y0, y1, y2⟩, ⟨_, _, _, _, _, _, _, _, _, rfl, k0_0, k1_0, k2_0⟩, ⟨q0, q1, q2⟩, by show (sumL sz_api_TermDef y0 + 1) + (sumL sz_api_Sym y1 + 1) + (sumL sz_api_Prod y2 + 1) + 1 ≤ _; omega⟩
theorem op_153 : OpensA Try.prog 153 (kInt .i64) (fun n : Int => (Lit.int .i64 n).wf = true) (fun _ : Int => 1) := OpensA.int (by kernel_rfl)
theorem op_166 : OpensA Try.prog 166 (kInt .i64) (fun n : Int => (Lit.int .i64 n).wf = true) (fun _ : Int => 1) := OpensA.int (by kernel_rfl)
theorem op_167 : OpensA Try.prog 167 (kInt .u64) (fun n : Int => (Lit.int .u64 n).wf = true) (fun _ : Int => 1) := OpensA.int (by kernel_rfl)
theorem op_169 : OpensA Try.prog 169 (Kd.flat 4 (fun f : Int → Int => (encA 4 fun j => [.int .u64 (f j)])) (fun f => (encA_len (sz := 1) (f := fun j => [.int .u64 (f j)]) (fun j => rfl) 4)) (fun f u hu => List.all_eq_true.1 ((encA_one (f := fun j => [.int .u64 (f j)]) (fun j => rfl) 4) : List.all (encA 4 fun j => [.int .u64 (f j)]) Value.oneCell' = true) u hu)) (fun f : Int → Int => ∀ j : Nat, j < 4 → (fun n : Int => (Lit.int .u64 n).wf = true) (f j)) (fun _ : (Int → Int) => 1) := OpensA.arr (e := 167) (n := 4) (sz := 1) (enc := fun y => [.int .u64 y]) (by kernel_rfl) (by kernel_rfl) rfl (by kernel_rfl) (fun _ _ _ _ h => h) op_167
def sz_api_ReNode (x : api_ReNode) : Nat := 1 + 1 + 1 + 1 + 1
def q_api_ReNode (x : api_ReNode) : Prop := (fun n : Int => (Lit.int .i64 n).wf = true) x.op ∧ (fun f : Int → Int => ∀ j : Nat, j < 4 → (fun n : Int => (Lit.int .u64 n).wf = true) (f j)) x.set_ ∧ (fun n : Int => (Lit.int .i64 n).wf = true) x.a ∧ (fun n : Int => (Lit.int .i64 n).wf = true) x.b
theorem op_171 : OpensA Try.prog 171 k_api_ReNode q_api_ReNode sz_api_ReNode := by
 refine OpensA.struct (fs := stF Try.prog 171) (fl := [fdA Try.prog 171 0, fdA Try.prog 171 1, fdA Try.prog 171 2, fdA Try.prog 171 3]) (by kernel_rfl) (by kernel_rfl) (by kernel_rfl) (fun m => (OpensL.cons (f := fdA Try.prog 171 0) (ft := 166) (by kernel_rfl) (by kernel_rfl) (by kernel_rfl) (op_166 m) (OpensL.cons (f := fdA Try.prog 171 1) (ft := 169) (by kernel_rfl) (by kernel_rfl) (by kernel_rfl) (op_169 m) (OpensL.cons (f := fdA Try.prog 171 2) (ft := 3) (by kernel_rfl) (by kernel_rfl) (by kernel_rfl) (op_3 m) (OpensL.cons (f := fdA Try.prog 171 3) (ft := 3) (by kernel_rfl) (by kernel_rfl) (by kernel_rfl) (op_3 m) OpensL.nil))))) ?_
 intro w cs n hl hr
 obtain ⟨y0, h0, q0, n0, m0, rfl, z0, hr⟩ := hr
 have e0 := h0
 obtain ⟨r0, rfl, d0⟩ := tkN e0 rfl
 rw [d0] at hr
 replace hl := rz hl
 obtain ⟨y1, h1, q1, n1, m1, rfl, z1, hr⟩ := hr
 have e1 := h1
 obtain ⟨r1, rfl, d1⟩ := tkN e1 (encA_len (sz := 1) (fun _ => rfl) 4)
 rw [d1] at hr
 replace hl := rz hl
 obtain ⟨y2, h2, q2, n2, m2, rfl, z2, hr⟩ := hr
 have e2 := h2
 obtain ⟨r2, rfl, d2⟩ := tkN e2 rfl
 rw [d2] at hr
 replace hl := rz hl
 obtain ⟨y3, h3, q3, n3, m3, rfl, z3, hr⟩ := hr
 have e3 := h3
 obtain ⟨r3, rfl, d3⟩ := tkN e3 rfl
 replace hl := rz hl
 obtain rfl := List.eq_nil_of_length_eq_zero hl
 exact ⟨⟨y0, y1, y2, y3⟩, rfl, ⟨q0, q1, q2, q3⟩, by show 1 + 1 + 1 + 1 + 1 ≤ _; omega⟩
theorem op_154 : OpensA Try.prog 154 (Kd.slice k_api_ReNode) (fun xs : List api_ReNode => xs.length * 56 ≤ reachBytes ∧ ∀ x ∈ xs, q_api_ReNode x) (fun xs : List api_ReNode => sumL sz_api_ReNode xs + 1) := OpensA.slice (e := 171) (by kernel_rfl) (by kernel_rfl) (by kernel_rfl) (by decide) op_171
theorem op_23 : OpensA Try.prog 23 (Kd.slice (kInt .i64)) (fun xs : List Int => xs.length * 8 ≤ reachBytes ∧ ∀ x ∈ xs, (fun n : Int => (Lit.int .i64 n).wf = true) x) (fun xs : List Int => sumL (fun _ : Int => 1) xs + 1) := OpensA.slice (e := 3) (by kernel_rfl) (by kernel_rfl) (by kernel_rfl) (by decide) op_3
theorem op_172 : OpensA Try.prog 172 (kInt .i64) (fun n : Int => (Lit.int .i64 n).wf = true) (fun _ : Int => 1) := OpensA.int (by kernel_rfl)
def sz_api_Test (x : api_Test) : Nat := 1 + 1 + 1
def q_api_Test (x : api_Test) : Prop := (fun n : Int => (Lit.int .i64 n).wf = true) x.kind ∧ (fun n : Int => (Lit.int .i64 n).wf = true) x.n
theorem op_174 : OpensA Try.prog 174 k_api_Test q_api_Test sz_api_Test := by
 refine OpensA.struct (fs := stF Try.prog 174) (fl := [fdA Try.prog 174 0, fdA Try.prog 174 1]) (by kernel_rfl) (by kernel_rfl) (by kernel_rfl) (fun m => (OpensL.cons (f := fdA Try.prog 174 0) (ft := 172) (by kernel_rfl) (by kernel_rfl) (by kernel_rfl) (op_172 m) (OpensL.cons (f := fdA Try.prog 174 1) (ft := 3) (by kernel_rfl) (by kernel_rfl) (by kernel_rfl) (op_3 m) OpensL.nil))) ?_
 intro w cs n hl hr
 obtain ⟨y0, h0, q0, n0, m0, rfl, z0, hr⟩ := hr
 have e0 := h0
 obtain ⟨r0, rfl, d0⟩ := tkN e0 rfl
 rw [d0] at hr
 replace hl := rz hl
 obtain ⟨y1, h1, q1, n1, m1, rfl, z1, hr⟩ := hr
 have e1 := h1
 obtain ⟨r1, rfl, d1⟩ := tkN e1 rfl
 replace hl := rz hl
 obtain rfl := List.eq_nil_of_length_eq_zero hl
 exact ⟨⟨y0, y1⟩, rfl, ⟨q0, q1⟩, by show 1 + 1 + 1 ≤ _; omega⟩
theorem op_155 : OpensA Try.prog 155 (Kd.slice k_api_Test) (fun xs : List api_Test => xs.length * 16 ≤ reachBytes ∧ ∀ x ∈ xs, q_api_Test x) (fun xs : List api_Test => sumL sz_api_Test xs + 1) := OpensA.slice (e := 174) (by kernel_rfl) (by kernel_rfl) (by kernel_rfl) (by decide) op_174
theorem op_175 : OpensA Try.prog 175 (kInt .i64) (fun n : Int => (Lit.int .i64 n).wf = true) (fun _ : Int => 1) := OpensA.int (by kernel_rfl)
def sz_api_Act (x : api_Act) : Nat := 1 + 1 + 1 + 1
def q_api_Act (x : api_Act) : Prop := (fun n : Int => (Lit.int .i64 n).wf = true) x.kind ∧ (fun n : Int => (Lit.int .i64 n).wf = true) x.n ∧ (fun n : Int => (Lit.int .i64 n).wf = true) x.m
theorem op_177 : OpensA Try.prog 177 k_api_Act q_api_Act sz_api_Act := by
 refine OpensA.struct (fs := stF Try.prog 177) (fl := [fdA Try.prog 177 0, fdA Try.prog 177 1, fdA Try.prog 177 2]) (by kernel_rfl) (by kernel_rfl) (by kernel_rfl) (fun m => (OpensL.cons (f := fdA Try.prog 177 0) (ft := 175) (by kernel_rfl) (by kernel_rfl) (by kernel_rfl) (op_175 m) (OpensL.cons (f := fdA Try.prog 177 1) (ft := 3) (by kernel_rfl) (by kernel_rfl) (by kernel_rfl) (op_3 m) (OpensL.cons (f := fdA Try.prog 177 2) (ft := 3) (by kernel_rfl) (by kernel_rfl) (by kernel_rfl) (op_3 m) OpensL.nil)))) ?_
 intro w cs n hl hr
 obtain ⟨y0, h0, q0, n0, m0, rfl, z0, hr⟩ := hr
 have e0 := h0
 obtain ⟨r0, rfl, d0⟩ := tkN e0 rfl
 rw [d0] at hr
 replace hl := rz hl
 obtain ⟨y1, h1, q1, n1, m1, rfl, z1, hr⟩ := hr
 have e1 := h1
 obtain ⟨r1, rfl, d1⟩ := tkN e1 rfl
 rw [d1] at hr
 replace hl := rz hl
 obtain ⟨y2, h2, q2, n2, m2, rfl, z2, hr⟩ := hr
 have e2 := h2
 obtain ⟨r2, rfl, d2⟩ := tkN e2 rfl
 replace hl := rz hl
 obtain rfl := List.eq_nil_of_length_eq_zero hl
 exact ⟨⟨y0, y1, y2⟩, rfl, ⟨q0, q1, q2⟩, by show 1 + 1 + 1 + 1 ≤ _; omega⟩
theorem op_156 : OpensA Try.prog 156 (Kd.slice k_api_Act) (fun xs : List api_Act => xs.length * 24 ≤ reachBytes ∧ ∀ x ∈ xs, q_api_Act x) (fun xs : List api_Act => sumL sz_api_Act xs + 1) := OpensA.slice (e := 177) (by kernel_rfl) (by kernel_rfl) (by kernel_rfl) (by decide) op_177
def sz_api_Rule (x : api_Rule) : Nat := 1 + 1 + (sumL sz_api_ReNode x.re + 1) + (x.lit.size + 1) + (sumL (fun _ : Int => 1) x.in_ + 1) + (sumL sz_api_Test x.tests + 1) + (sumL sz_api_Act x.acts + 1) + 1
def q_api_Rule (x : api_Rule) : Prop := (fun n : Int => (Lit.int .i64 n).wf = true) x.term ∧ (fun n : Int => (Lit.int .i64 n).wf = true) x.pat ∧ (fun xs : List api_ReNode => xs.length * 56 ≤ reachBytes ∧ ∀ x ∈ xs, q_api_ReNode x) x.re ∧ (fun s : ByteArray => s.size ≤ reachBytes) x.lit ∧ (fun xs : List Int => xs.length * 8 ≤ reachBytes ∧ ∀ x ∈ xs, (fun n : Int => (Lit.int .i64 n).wf = true) x) x.in_ ∧ (fun xs : List api_Test => xs.length * 16 ≤ reachBytes ∧ ∀ x ∈ xs, q_api_Test x) x.tests ∧ (fun xs : List api_Act => xs.length * 24 ≤ reachBytes ∧ ∀ x ∈ xs, q_api_Act x) x.acts
theorem op_158 : OpensA Try.prog 158 k_api_Rule q_api_Rule sz_api_Rule := by
 refine OpensA.struct (fs := stF Try.prog 158) (fl := [fdA Try.prog 158 0, fdA Try.prog 158 1, fdA Try.prog 158 2, fdA Try.prog 158 3, fdA Try.prog 158 4, fdA Try.prog 158 5, fdA Try.prog 158 6]) (by kernel_rfl) (by kernel_rfl) (by kernel_rfl) (fun m => (OpensL.cons (f := fdA Try.prog 158 0) (ft := 3) (by kernel_rfl) (by kernel_rfl) (by kernel_rfl) (op_3 m) (OpensL.cons (f := fdA Try.prog 158 1) (ft := 153) (by kernel_rfl) (by kernel_rfl) (by kernel_rfl) (op_153 m) (OpensL.cons (f := fdA Try.prog 158 2) (ft := 154) (by kernel_rfl) (by kernel_rfl) (by kernel_rfl) (op_154 m) (OpensL.cons (f := fdA Try.prog 158 3) (ft := 9) (by kernel_rfl) (by kernel_rfl) (by kernel_rfl) (op_9 m) (OpensL.cons (f := fdA Try.prog 158 4) (ft := 23) (by kernel_rfl) (by kernel_rfl) (by kernel_rfl) (op_23 m) (OpensL.cons (f := fdA Try.prog 158 5) (ft := 155) (by kernel_rfl) (by kernel_rfl) (by kernel_rfl) (op_155 m) (OpensL.cons (f := fdA Try.prog 158 6) (ft := 156) (by kernel_rfl) (by kernel_rfl) (by kernel_rfl) (op_156 m) OpensL.nil)))))))) ?_
 intro w cs n hl hr
 obtain ⟨y0, h0, q0, n0, m0, rfl, z0, hr⟩ := hr
 have e0 := h0
 obtain ⟨r0, rfl, d0⟩ := tkN e0 rfl
 rw [d0] at hr
 replace hl := rz hl
 obtain ⟨y1, h1, q1, n1, m1, rfl, z1, hr⟩ := hr
 have e1 := h1
 obtain ⟨r1, rfl, d1⟩ := tkN e1 rfl
 rw [d1] at hr
 replace hl := rz hl
 obtain ⟨y2, h2, q2, n2, m2, rfl, z2, hr⟩ := hr
 obtain ⟨_, _, _, e2, k2_0⟩ := h2
 obtain ⟨r2, rfl, d2⟩ := tkN e2 rfl
 rw [d2] at hr
 replace hl := rz hl
 obtain ⟨y3, h3, q3, n3, m3, rfl, z3, hr⟩ := hr
 have e3 := h3
 obtain ⟨r3, rfl, d3⟩ := tkN e3 rfl
 rw [d3] at hr
 replace hl := rz hl
 obtain ⟨y4, h4, q4, n4, m4, rfl, z4, hr⟩ := hr
 obtain ⟨_, _, _, e4, k4_0⟩ := h4
 obtain ⟨r4, rfl, d4⟩ := tkN e4 rfl
 rw [d4] at hr
 replace hl := rz hl
 obtain ⟨y5, h5, q5, n5, m5, rfl, z5, hr⟩ := hr
 obtain ⟨_, _, _, e5, k5_0⟩ := h5
 obtain ⟨r5, rfl, d5⟩ := tkN e5 rfl
 rw [d5] at hr
 replace hl := rz hl
 obtain ⟨y6, h6, q6, n6, m6, rfl, z6, hr⟩ := hr
 obtain ⟨_, _, _, e6, k6_0⟩ := h6
 obtain ⟨r6, rfl, d6⟩ := tkN e6 rfl
 replace hl := rz hl
 obtain rfl := List.eq_nil_of_length_eq_zero hl
 exact ⟨⟨y0, y1, y2, y3, y4, y5, y6⟩, ⟨_, _, _, _, _, _, _, _, _, _, _, _, rfl, k2_0, k4_0, k5_0, k6_0⟩, ⟨q0, q1, q2, q3, q4, q5, q6⟩, by show 1 + 1 + (sumL sz_api_ReNode y2 + 1) + (y3.size + 1) + (sumL (fun _ : Int => 1) y4 + 1) + (sumL sz_api_Test y5 + 1) + (sumL sz_api_Act y6 + 1) + 1 ≤ _; omega⟩
theorem op_48 : OpensA Try.prog 48 (Kd.slice k_api_Rule) (fun xs : List api_Rule => xs.length * 128 ≤ reachBytes ∧ ∀ x ∈ xs, q_api_Rule x) (fun xs : List api_Rule => sumL sz_api_Rule xs + 1) := OpensA.slice (e := 158) (by kernel_rfl) (by kernel_rfl) (by kernel_rfl) (by decide) op_158
theorem op_178 : OpensA Try.prog 178 (kInt .i64) (fun n : Int => (Lit.int .i64 n).wf = true) (fun _ : Int => 1) := OpensA.int (by kernel_rfl)
def sz_api_Action (x : api_Action) : Nat := 1 + 1 + 1
def q_api_Action (x : api_Action) : Prop := (fun n : Int => (Lit.int .i64 n).wf = true) x.kind ∧ (fun n : Int => (Lit.int .i64 n).wf = true) x.n
theorem op_180 : OpensA Try.prog 180 k_api_Action q_api_Action sz_api_Action := by
 refine OpensA.struct (fs := stF Try.prog 180) (fl := [fdA Try.prog 180 0, fdA Try.prog 180 1]) (by kernel_rfl) (by kernel_rfl) (by kernel_rfl) (fun m => (OpensL.cons (f := fdA Try.prog 180 0) (ft := 178) (by kernel_rfl) (by kernel_rfl) (by kernel_rfl) (op_178 m) (OpensL.cons (f := fdA Try.prog 180 1) (ft := 3) (by kernel_rfl) (by kernel_rfl) (by kernel_rfl) (op_3 m) OpensL.nil))) ?_
 intro w cs n hl hr
 obtain ⟨y0, h0, q0, n0, m0, rfl, z0, hr⟩ := hr
 have e0 := h0
 obtain ⟨r0, rfl, d0⟩ := tkN e0 rfl
 rw [d0] at hr
 replace hl := rz hl
 obtain ⟨y1, h1, q1, n1, m1, rfl, z1, hr⟩ := hr
 have e1 := h1
 obtain ⟨r1, rfl, d1⟩ := tkN e1 rfl
 replace hl := rz hl
 obtain rfl := List.eq_nil_of_length_eq_zero hl
 exact ⟨⟨y0, y1⟩, rfl, ⟨q0, q1⟩, by show 1 + 1 + 1 ≤ _; omega⟩
theorem op_159 : OpensA Try.prog 159 (Kd.slice k_api_Action) (fun xs : List api_Action => xs.length * 16 ≤ reachBytes ∧ ∀ x ∈ xs, q_api_Action x) (fun xs : List api_Action => sumL sz_api_Action xs + 1) := OpensA.slice (e := 180) (by kernel_rfl) (by kernel_rfl) (by kernel_rfl) (by decide) op_180
theorem op_49 : OpensA Try.prog 49 (Kd.slice (Kd.slice k_api_Action)) (fun xs : List (List api_Action) => xs.length * 24 ≤ reachBytes ∧ ∀ x ∈ xs, (fun xs : List api_Action => xs.length * 16 ≤ reachBytes ∧ ∀ x ∈ xs, q_api_Action x) x) (fun xs : List (List api_Action) => sumL (fun xs : List api_Action => sumL sz_api_Action xs + 1) xs + 1) := OpensA.slice (e := 159) (by kernel_rfl) (by kernel_rfl) (by kernel_rfl) (by decide) op_159
theorem op_50 : OpensA Try.prog 50 (Kd.slice (Kd.slice (kInt .i64))) (fun xs : List (List Int) => xs.length * 24 ≤ reachBytes ∧ ∀ x ∈ xs, (fun xs : List Int => xs.length * 8 ≤ reachBytes ∧ ∀ x ∈ xs, (fun n : Int => (Lit.int .i64 n).wf = true) x) x) (fun xs : List (List Int) => sumL (fun xs : List Int => sumL (fun _ : Int => 1) xs + 1) xs + 1) := OpensA.slice (e := 23) (by kernel_rfl) (by kernel_rfl) (by kernel_rfl) (by decide) op_23
def sz_api_Table (x : api_Table) : Nat := (sumL (fun xs : List api_Action => sumL sz_api_Action xs + 1) x.actions + 1) + (sumL (fun xs : List Int => sumL (fun _ : Int => 1) xs + 1) x.gotos + 1) + 1
def q_api_Table (x : api_Table) : Prop := (fun xs : List (List api_Action) => xs.length * 24 ≤ reachBytes ∧ ∀ x ∈ xs, (fun xs : List api_Action => xs.length * 16 ≤ reachBytes ∧ ∀ x ∈ xs, q_api_Action x) x) x.actions ∧ (fun xs : List (List Int) => xs.length * 24 ≤ reachBytes ∧ ∀ x ∈ xs, (fun xs : List Int => xs.length * 8 ≤ reachBytes ∧ ∀ x ∈ xs, (fun n : Int => (Lit.int .i64 n).wf = true) x) x) x.gotos
theorem op_52 : OpensA Try.prog 52 k_api_Table q_api_Table sz_api_Table := by
 refine OpensA.struct (fs := stF Try.prog 52) (fl := [fdA Try.prog 52 0, fdA Try.prog 52 1]) (by kernel_rfl) (by kernel_rfl) (by kernel_rfl) (fun m => (OpensL.cons (f := fdA Try.prog 52 0) (ft := 49) (by kernel_rfl) (by kernel_rfl) (by kernel_rfl) (op_49 m) (OpensL.cons (f := fdA Try.prog 52 1) (ft := 50) (by kernel_rfl) (by kernel_rfl) (by kernel_rfl) (op_50 m) OpensL.nil))) ?_
 intro w cs n hl hr
 obtain ⟨y0, h0, q0, n0, m0, rfl, z0, hr⟩ := hr
 obtain ⟨_, _, _, e0, k0_0⟩ := h0
 obtain ⟨r0, rfl, d0⟩ := tkN e0 rfl
 rw [d0] at hr
 replace hl := rz hl
 obtain ⟨y1, h1, q1, n1, m1, rfl, z1, hr⟩ := hr
 obtain ⟨_, _, _, e1, k1_0⟩ := h1
 obtain ⟨r1, rfl, d1⟩ := tkN e1 rfl
 replace hl := rz hl
 obtain rfl := List.eq_nil_of_length_eq_zero hl
 exact ⟨⟨y0, y1⟩, ⟨_, _, _, _, _, _, rfl, k0_0, k1_0⟩, ⟨q0, q1⟩, by show (sumL (fun xs : List api_Action => sumL sz_api_Action xs + 1) y0 + 1) + (sumL (fun xs : List Int => sumL (fun _ : Int => 1) xs + 1) y1 + 1) + 1 ≤ _; omega⟩
def sz_api_PaintDef (x : api_PaintDef) : Nat := (x.name.size + 1) + (x.class_.size + 1) + 1
def q_api_PaintDef (x : api_PaintDef) : Prop := (fun s : ByteArray => s.size ≤ reachBytes) x.name ∧ (fun s : ByteArray => s.size ≤ reachBytes) x.class_
theorem op_161 : OpensA Try.prog 161 k_api_PaintDef q_api_PaintDef sz_api_PaintDef := by
 refine OpensA.struct (fs := stF Try.prog 161) (fl := [fdA Try.prog 161 0, fdA Try.prog 161 1]) (by kernel_rfl) (by kernel_rfl) (by kernel_rfl) (fun m => (OpensL.cons (f := fdA Try.prog 161 0) (ft := 9) (by kernel_rfl) (by kernel_rfl) (by kernel_rfl) (op_9 m) (OpensL.cons (f := fdA Try.prog 161 1) (ft := 9) (by kernel_rfl) (by kernel_rfl) (by kernel_rfl) (op_9 m) OpensL.nil))) ?_
 intro w cs n hl hr
 obtain ⟨y0, h0, q0, n0, m0, rfl, z0, hr⟩ := hr
 have e0 := h0
 obtain ⟨r0, rfl, d0⟩ := tkN e0 rfl
 rw [d0] at hr
 replace hl := rz hl
 obtain ⟨y1, h1, q1, n1, m1, rfl, z1, hr⟩ := hr
 have e1 := h1
 obtain ⟨r1, rfl, d1⟩ := tkN e1 rfl
 replace hl := rz hl
 obtain rfl := List.eq_nil_of_length_eq_zero hl
 exact ⟨⟨y0, y1⟩, rfl, ⟨q0, q1⟩, by show (y0.size + 1) + (y1.size + 1) + 1 ≤ _; omega⟩
theorem op_53 : OpensA Try.prog 53 (Kd.slice k_api_PaintDef) (fun xs : List api_PaintDef => xs.length * 32 ≤ reachBytes ∧ ∀ x ∈ xs, q_api_PaintDef x) (fun xs : List api_PaintDef => sumL sz_api_PaintDef xs + 1) := OpensA.slice (e := 161) (by kernel_rfl) (by kernel_rfl) (by kernel_rfl) (by decide) op_161
theorem op_54 : OpensA Try.prog 54 (Kd.slice kStr) (fun xs : List ByteArray => xs.length * 16 ≤ reachBytes ∧ ∀ x ∈ xs, (fun s : ByteArray => s.size ≤ reachBytes) x) (fun xs : List ByteArray => sumL (fun s : ByteArray => s.size + 1) xs + 1) := OpensA.slice (e := 9) (by kernel_rfl) (by kernel_rfl) (by kernel_rfl) (by decide) op_9
def sz_api_MarkDef (x : api_MarkDef) : Nat := (x.name.size + 1) + (x.field.size + 1) + 1
def q_api_MarkDef (x : api_MarkDef) : Prop := (fun s : ByteArray => s.size ≤ reachBytes) x.name ∧ (fun s : ByteArray => s.size ≤ reachBytes) x.field
theorem op_163 : OpensA Try.prog 163 k_api_MarkDef q_api_MarkDef sz_api_MarkDef := by
 refine OpensA.struct (fs := stF Try.prog 163) (fl := [fdA Try.prog 163 0, fdA Try.prog 163 1]) (by kernel_rfl) (by kernel_rfl) (by kernel_rfl) (fun m => (OpensL.cons (f := fdA Try.prog 163 0) (ft := 9) (by kernel_rfl) (by kernel_rfl) (by kernel_rfl) (op_9 m) (OpensL.cons (f := fdA Try.prog 163 1) (ft := 9) (by kernel_rfl) (by kernel_rfl) (by kernel_rfl) (op_9 m) OpensL.nil))) ?_
 intro w cs n hl hr
 obtain ⟨y0, h0, q0, n0, m0, rfl, z0, hr⟩ := hr
 have e0 := h0
 obtain ⟨r0, rfl, d0⟩ := tkN e0 rfl
 rw [d0] at hr
 replace hl := rz hl
 obtain ⟨y1, h1, q1, n1, m1, rfl, z1, hr⟩ := hr
 have e1 := h1
 obtain ⟨r1, rfl, d1⟩ := tkN e1 rfl
 replace hl := rz hl
 obtain rfl := List.eq_nil_of_length_eq_zero hl
 exact ⟨⟨y0, y1⟩, rfl, ⟨q0, q1⟩, by show (y0.size + 1) + (y1.size + 1) + 1 ≤ _; omega⟩
theorem op_55 : OpensA Try.prog 55 (Kd.slice k_api_MarkDef) (fun xs : List api_MarkDef => xs.length * 32 ≤ reachBytes ∧ ∀ x ∈ xs, q_api_MarkDef x) (fun xs : List api_MarkDef => sumL sz_api_MarkDef xs + 1) := OpensA.slice (e := 163) (by kernel_rfl) (by kernel_rfl) (by kernel_rfl) (by decide) op_163
def sz_api_InjectDef (x : api_InjectDef) : Nat := (x.name.size + 1) + (x.lang.size + 1) + 1
def q_api_InjectDef (x : api_InjectDef) : Prop := (fun s : ByteArray => s.size ≤ reachBytes) x.name ∧ (fun s : ByteArray => s.size ≤ reachBytes) x.lang
theorem op_165 : OpensA Try.prog 165 k_api_InjectDef q_api_InjectDef sz_api_InjectDef := by
 refine OpensA.struct (fs := stF Try.prog 165) (fl := [fdA Try.prog 165 0, fdA Try.prog 165 1]) (by kernel_rfl) (by kernel_rfl) (by kernel_rfl) (fun m => (OpensL.cons (f := fdA Try.prog 165 0) (ft := 9) (by kernel_rfl) (by kernel_rfl) (by kernel_rfl) (op_9 m) (OpensL.cons (f := fdA Try.prog 165 1) (ft := 9) (by kernel_rfl) (by kernel_rfl) (by kernel_rfl) (op_9 m) OpensL.nil))) ?_
 intro w cs n hl hr
 obtain ⟨y0, h0, q0, n0, m0, rfl, z0, hr⟩ := hr
 have e0 := h0
 obtain ⟨r0, rfl, d0⟩ := tkN e0 rfl
 rw [d0] at hr
 replace hl := rz hl
 obtain ⟨y1, h1, q1, n1, m1, rfl, z1, hr⟩ := hr
 have e1 := h1
 obtain ⟨r1, rfl, d1⟩ := tkN e1 rfl
 replace hl := rz hl
 obtain rfl := List.eq_nil_of_length_eq_zero hl
 exact ⟨⟨y0, y1⟩, rfl, ⟨q0, q1⟩, by show (y0.size + 1) + (y1.size + 1) + 1 ≤ _; omega⟩
theorem op_56 : OpensA Try.prog 56 (Kd.slice k_api_InjectDef) (fun xs : List api_InjectDef => xs.length * 32 ≤ reachBytes ∧ ∀ x ∈ xs, q_api_InjectDef x) (fun xs : List api_InjectDef => sumL sz_api_InjectDef xs + 1) := OpensA.slice (e := 165) (by kernel_rfl) (by kernel_rfl) (by kernel_rfl) (by decide) op_165
def sz_api_Lang (x : api_Lang) : Nat := (x.name.size + 1) + (sumL sz_api_ModeDef x.modes + 1) + (sz_api_Gram x.gram) + (sumL sz_api_Rule x.rules + 1) + (sz_api_Table x.table) + (sumL sz_api_PaintDef x.paints + 1) + (sumL (fun s : ByteArray => s.size + 1) x.folds + 1) + (sumL sz_api_MarkDef x.marks + 1) + (sumL sz_api_InjectDef x.injects + 1) + 1
def q_api_Lang (x : api_Lang) : Prop := (fun s : ByteArray => s.size ≤ reachBytes) x.name ∧ (fun xs : List api_ModeDef => xs.length * 24 ≤ reachBytes ∧ ∀ x ∈ xs, q_api_ModeDef x) x.modes ∧ q_api_Gram x.gram ∧ (fun xs : List api_Rule => xs.length * 128 ≤ reachBytes ∧ ∀ x ∈ xs, q_api_Rule x) x.rules ∧ q_api_Table x.table ∧ (fun xs : List api_PaintDef => xs.length * 32 ≤ reachBytes ∧ ∀ x ∈ xs, q_api_PaintDef x) x.paints ∧ (fun xs : List ByteArray => xs.length * 16 ≤ reachBytes ∧ ∀ x ∈ xs, (fun s : ByteArray => s.size ≤ reachBytes) x) x.folds ∧ (fun xs : List api_MarkDef => xs.length * 32 ≤ reachBytes ∧ ∀ x ∈ xs, q_api_MarkDef x) x.marks ∧ (fun xs : List api_InjectDef => xs.length * 32 ≤ reachBytes ∧ ∀ x ∈ xs, q_api_InjectDef x) x.injects
theorem op_58 : OpensA Try.prog 58 k_api_Lang q_api_Lang sz_api_Lang := by
 refine OpensA.struct (fs := stF Try.prog 58) (fl := [fdA Try.prog 58 0, fdA Try.prog 58 1, fdA Try.prog 58 2, fdA Try.prog 58 3, fdA Try.prog 58 4, fdA Try.prog 58 5, fdA Try.prog 58 6, fdA Try.prog 58 7, fdA Try.prog 58 8]) (by kernel_rfl) (by kernel_rfl) (by kernel_rfl) (fun m => (OpensL.cons (f := fdA Try.prog 58 0) (ft := 9) (by kernel_rfl) (by kernel_rfl) (by kernel_rfl) (op_9 m) (OpensL.cons (f := fdA Try.prog 58 1) (ft := 42) (by kernel_rfl) (by kernel_rfl) (by kernel_rfl) (op_42 m) (OpensL.cons (f := fdA Try.prog 58 2) (ft := 47) (by kernel_rfl) (by kernel_rfl) (by kernel_rfl) (op_47 m) (OpensL.cons (f := fdA Try.prog 58 3) (ft := 48) (by kernel_rfl) (by kernel_rfl) (by kernel_rfl) (op_48 m) (OpensL.cons (f := fdA Try.prog 58 4) (ft := 52) (by kernel_rfl) (by kernel_rfl) (by kernel_rfl) (op_52 m) (OpensL.cons (f := fdA Try.prog 58 5) (ft := 53) (by kernel_rfl) (by kernel_rfl) (by kernel_rfl) (op_53 m) (OpensL.cons (f := fdA Try.prog 58 6) (ft := 54) (by kernel_rfl) (by kernel_rfl) (by kernel_rfl) (op_54 m) (OpensL.cons (f := fdA Try.prog 58 7) (ft := 55) (by kernel_rfl) (by kernel_rfl) (by kernel_rfl) (op_55 m) (OpensL.cons (f := fdA Try.prog 58 8) (ft := 56) (by kernel_rfl) (by kernel_rfl) (by kernel_rfl) (op_56 m) OpensL.nil)))))))))) ?_
 intro w cs n hl hr
 obtain ⟨y0, h0, q0, n0, m0, rfl, z0, hr⟩ := hr
 have e0 := h0
 obtain ⟨r0, rfl, d0⟩ := tkN e0 rfl
 rw [d0] at hr
 replace hl := rz hl
 obtain ⟨y1, h1, q1, n1, m1, rfl, z1, hr⟩ := hr
 obtain ⟨_, _, _, e1, k1_0⟩ := h1
 obtain ⟨r1, rfl, d1⟩ := tkN e1 rfl
 rw [d1] at hr
 replace hl := rz hl
 obtain ⟨y2, h2, q2, n2, m2, rfl, z2, hr⟩ := hr
 obtain ⟨_, _, _, _, _, _, _, _, _, e2, k2_0, k2_1, k2_2⟩ := h2
 obtain ⟨r2, rfl, d2⟩ := tkN e2 rfl
 rw [d2] at hr
 replace hl := rz hl
 obtain ⟨y3, h3, q3, n3, m3, rfl, z3, hr⟩ := hr
 obtain ⟨_, _, _, e3, k3_0⟩ := h3
 obtain ⟨r3, rfl, d3⟩ := tkN e3 rfl
 rw [d3] at hr
 replace hl := rz hl
 obtain ⟨y4, h4, q4, n4, m4, rfl, z4, hr⟩ := hr
 obtain ⟨_, _, _, _, _, _, e4, k4_0, k4_1⟩ := h4
 obtain ⟨r4, rfl, d4⟩ := tkN e4 rfl
 rw [d4] at hr
 replace hl := rz hl
 obtain ⟨y5, h5, q5, n5, m5, rfl, z5, hr⟩ := hr
 obtain ⟨_, _, _, e5, k5_0⟩ := h5
 obtain ⟨r5, rfl, d5⟩ := tkN e5 rfl
 rw [d5] at hr
 replace hl := rz hl
 obtain ⟨y6, h6, q6, n6, m6, rfl, z6, hr⟩ := hr
 obtain ⟨_, _, _, e6, k6_0⟩ := h6
 obtain ⟨r6, rfl, d6⟩ := tkN e6 rfl
 rw [d6] at hr
 replace hl := rz hl
 obtain ⟨y7, h7, q7, n7, m7, rfl, z7, hr⟩ := hr
 obtain ⟨_, _, _, e7, k7_0⟩ := h7
 obtain ⟨r7, rfl, d7⟩ := tkN e7 rfl
 rw [d7] at hr
 replace hl := rz hl
 obtain ⟨y8, h8, q8, n8, m8, rfl, z8, hr⟩ := hr
 obtain ⟨_, _, _, e8, k8_0⟩ := h8
 obtain ⟨r8, rfl, d8⟩ := tkN e8 rfl
 replace hl := rz hl
 obtain rfl := List.eq_nil_of_length_eq_zero hl
 exact ⟨⟨y0, y1, y2, y3, y4, y5, y6, y7, y8⟩, ⟨_, _, _, _, _, _, _, _, _, _, _, _, _, _, _, _, _, _, _, _, _, _, _, _, _, _, _, _, _, _, _, _, _, rfl, k1_0, k2_0, k2_1, k2_2, k3_0, k4_0, k4_1, k5_0, k6_0, k7_0, k8_0⟩, ⟨q0, q1, q2, q3, q4, q5, q6, q7, q8⟩, by show (y0.size + 1) + (sumL sz_api_ModeDef y1 + 1) + (sz_api_Gram y2) + (sumL sz_api_Rule y3 + 1) + (sz_api_Table y4) + (sumL sz_api_PaintDef y5 + 1) + (sumL (fun s : ByteArray => s.size + 1) y6 + 1) + (sumL sz_api_MarkDef y7 + 1) + (sumL sz_api_InjectDef y8 + 1) + 1 ≤ _; omega⟩
def sz_trellislaw15_Op (x : trellislaw15_Op) : Nat := 1 + 1 + 1 + 1
def q_trellislaw15_Op (x : trellislaw15_Op) : Prop := (fun n : Int => (Lit.int .i64 n).wf = true) x.n ∧ (fun n : Int => (Lit.int .i64 n).wf = true) x.pad ∧ (fun n : Int => (Lit.int .i64 n).wf = true) x.len
theorem op_115 : OpensA Try.prog 115 k_trellislaw15_Op q_trellislaw15_Op sz_trellislaw15_Op := by
 refine OpensA.struct (fs := stF Try.prog 115) (fl := [fdA Try.prog 115 0, fdA Try.prog 115 1, fdA Try.prog 115 2]) (by kernel_rfl) (by kernel_rfl) (by kernel_rfl) (fun m => (OpensL.cons (f := fdA Try.prog 115 0) (ft := 3) (by kernel_rfl) (by kernel_rfl) (by kernel_rfl) (op_3 m) (OpensL.cons (f := fdA Try.prog 115 1) (ft := 3) (by kernel_rfl) (by kernel_rfl) (by kernel_rfl) (op_3 m) (OpensL.cons (f := fdA Try.prog 115 2) (ft := 3) (by kernel_rfl) (by kernel_rfl) (by kernel_rfl) (op_3 m) OpensL.nil)))) ?_
 intro w cs n hl hr
 obtain ⟨y0, h0, q0, n0, m0, rfl, z0, hr⟩ := hr
 have e0 := h0
 obtain ⟨r0, rfl, d0⟩ := tkN e0 rfl
 rw [d0] at hr
 replace hl := rz hl
 obtain ⟨y1, h1, q1, n1, m1, rfl, z1, hr⟩ := hr
 have e1 := h1
 obtain ⟨r1, rfl, d1⟩ := tkN e1 rfl
 rw [d1] at hr
 replace hl := rz hl
 obtain ⟨y2, h2, q2, n2, m2, rfl, z2, hr⟩ := hr
 have e2 := h2
 obtain ⟨r2, rfl, d2⟩ := tkN e2 rfl
 replace hl := rz hl
 obtain rfl := List.eq_nil_of_length_eq_zero hl
 exact ⟨⟨y0, y1, y2⟩, rfl, ⟨q0, q1, q2⟩, by show 1 + 1 + 1 + 1 ≤ _; omega⟩
theorem op_71 : OpensA Try.prog 71 (Kd.slice k_trellislaw15_Op) (fun xs : List trellislaw15_Op => xs.length * 24 ≤ reachBytes ∧ ∀ x ∈ xs, q_trellislaw15_Op x) (fun xs : List trellislaw15_Op => sumL sz_trellislaw15_Op xs + 1) := OpensA.slice (e := 115) (by kernel_rfl) (by kernel_rfl) (by kernel_rfl) (by decide) op_115
end Go.Proofs.Ytmekgfcfooghnaa.K
