/- Lemmas of my own on the machine: memory that is read, blocks and rows of the call's own. No condition. -/
import Derived.Test.YtkaejoffnkhbpaaB2
set_option linter.unusedVariables false
set_option linter.unusedSimpArgs false
namespace Go.Proofs.Ytkaejoffnkhbpaa.B
open Go.RowKit

/-! ### closed facts on types -/
def fOff (P : Program) (T f : Nat) : Option Nat :=
  match P.underlying T with
  | some (.struct fs) => match fs[f]? with
    | some fd => match P.info? fd.type with
      | some i => if i.size = 0 then none else some fd.offset
      | none => none
    | none => none
  | _ => none
def slE (P : Program) (T : Nat) : Option (Nat × Nat) :=
  match P.underlying T with
  | some (.slice e) => (P.info? e).map fun i => (e, i.size)
  | _ => none
def ldK (P : Program) (T : Nat) : Option (Option Nat) :=
  match P.underlying T with
  | some (.struct _) => (P.info? T).map fun i => some i.size
  | some (.array _ _) => (P.info? T).map fun i => some i.size
  | some _ => some none
  | none => none
def szK (P : Program) (T : Nat) : Option Nat := (P.info? T).map (·.size)
def zrK (P : Program) (T : Nat) : Option (List Value) := (P.info? T).bind fun i => i.zero.map fun z => z.cells.toList
theorem slE_spec {P : Program} {T e sz : Nat} (h : slE P T = some (e, sz)) : P.underlying T = some (.slice e) ∧ ∃ i, P.info? e = some i ∧ i.size = sz := by
  unfold slE at h
  split at h
  · rename_i e' he
    rcases hi : P.info? e' with _ | i
    · rw [hi] at h; cases h
    · rw [hi] at h
      simp only [Option.map_some, Option.some.injEq, Prod.mk.injEq] at h
      obtain ⟨rfl, h2⟩ := h
      exact ⟨he, i, hi, h2⟩
  · cases h
theorem fOff_spec {P : Program} {T f off : Nat} (h : fOff P T f = some off) : ∃ fs fd i, P.underlying T = some (.struct fs) ∧ fs[f]? = some fd ∧ P.info? fd.type = some i ∧ i.size ≠ 0 ∧ fd.offset = off := by
  unfold fOff at h
  split at h
  · rename_i fs hfs
    split at h
    · rename_i fd hfd
      split at h
      · rename_i i hi
        split at h
        · cases h
        · rename_i hz
          injection h with h
          exact ⟨fs, fd, i, hfs, hfd, hi, hz, h⟩
      · cases h
    · cases h
  · cases h
theorem ldK_one {P : Program} {T : Nat} (h : ldK P T = some none) : (isAgg T).run P = fun w => .ok false w := by
  unfold ldK at h
  funext w
  split at h
  · rename_i fs hf; rcases hi : P.info? T with _ | i <;> rw [hi] at h <;> simp at h
  · rename_i fs hf; rcases hi : P.info? T with _ | i <;> rw [hi] at h <;> simp at h
  · rename_i u h1 h2 hu
    unfold isAgg
    simp only [Sem.run_bind, run_underlying hu, Result.andThen_ok]
    cases u <;> first | rfl | exact absurd rfl (h1 _) | exact absurd rfl (h2 _ _)
  · cases h
theorem ldK_agg {P : Program} {T m : Nat} (h : ldK P T = some (some m)) : ((isAgg T).run P = fun w => .ok true w) ∧ ∃ i, P.info? T = some i ∧ i.size = m := by
  unfold ldK at h
  split at h
  · rename_i fs hf
    rcases hi : P.info? T with _ | i
    · rw [hi] at h; simp at h
    · rw [hi] at h
      simp at h
      exact ⟨by funext w; unfold isAgg; simp [run_underlying hf], i, rfl, h⟩
  · rename_i fs n hf
    rcases hi : P.info? T with _ | i
    · rw [hi] at h; simp at h
    · rw [hi] at h
      simp at h
      exact ⟨by funext w; unfold isAgg; simp [run_underlying hf], i, rfl, h⟩
  · simp at h
  · cases h

/-! ### addresses -/
abbrev ad0 : Addr := ⟨0, 0, none⟩
def eA (A : Option Addr) (kk : Nat) : Value := .pointer (some ((A.getD ad0).add kk))
def celA (w : World) (A : Option Addr) (kk : Nat) : Option Value := w.cell? ((A.getD ad0).add kk)
def blkA (A : Option Addr) : Nat := (A.getD ad0).block
theorem add_block (a : Addr) (n : Nat) : (a.add n).block = a.block := by unfold Addr.add; split <;> rfl
theorem add_add' (a : Addr) (i j : Nat) : (a.add i).add j = a.add (i + j) := by
  unfold Addr.add
  by_cases hi : i = 0 <;> by_cases hj : j = 0 <;> simp [hi, hj, Nat.add_assoc]
theorem add_box (g o n : Nat) : (⟨g, o, none⟩ : Addr).add n = ⟨g, o + n, none⟩ := by unfold Addr.add; split <;> simp_all
theorem celA_of {w w' : World} {A : Option Addr} {kk : Nat} (h : w'.heap[blkA A]? = w.heap[blkA A]?) : celA w' A kk = celA w A kk := World.cell?_of_block (w := w) (by rw [add_block]; exact h)
def Rd (s : Snap) (A : Option Addr) (kk : Nat) (cs : List Value) : Prop := s.av (blkA A) ∧ ∀ i u, cs[i]? = some u → celA s.w A (kk + i) = some u
theorem Rd.now {w0 w : World} {M : List Ent} {S : List Snap} {s : Snap} {A : Option Addr} {kk : Nat} {cs : List Value} (hr : Rd s A kk cs) (hL : Loc w0 w M S) (hs : s ∈ S) {i : Nat} {u : Value} (hi : cs[i]? = some u) : celA w A (kk + i) = some u :=
  (celA_of ((hL.snap s hs).2 _ hr.1).1).trans (hr.2 i u hi)

/-! ### kinds of elements: how cells tell a value; what is reached lies in blocks that meet F -/
structure Kd (α : Type) where
  sz : Nat
  K : World → (Nat → Prop) → α → List Value → Prop
  len : ∀ {w F x cs}, K w F x cs → cs.length = sz
  one : ∀ {w F x cs}, K w F x cs → ∀ u ∈ cs, u.oneCell' = true
  mono : ∀ {w w' F F' x cs}, K w F x cs → (∀ b, F b → F' b ∧ w'.heap[b]? = w.heap[b]?) → K w' F' x cs
def RowOf {α : Type} (d : Kd α) (w : World) (F : Nat → Prop) (A : Option Addr) (xs : List α) : Prop :=
  (0 < xs.length → A.isSome = true ∧ F (blkA A)) ∧ ∀ j x, xs[j]? = some x → ∃ cs, d.K w F x cs ∧ ∀ i u, cs[i]? = some u → celA w A (j * d.sz + i) = some u
theorem RowOf.mono {α : Type} {d : Kd α} {w w' : World} {F F' : Nat → Prop} {A : Option Addr} {xs : List α} (h : RowOf d w F A xs) (hF : ∀ b, F b → F' b ∧ w'.heap[b]? = w.heap[b]?) : RowOf d w' F' A xs := by
  refine ⟨fun hp => ⟨(h.1 hp).1, (hF _ (h.1 hp).2).1⟩, fun j x hj => ?_⟩
  obtain ⟨cs, h1, h2⟩ := h.2 j x hj
  have hp : 0 < xs.length := Nat.lt_of_le_of_lt (Nat.zero_le _) (List.getElem?_eq_some_iff.1 hj).1
  exact ⟨cs, d.mono h1 hF, fun i u hu => (celA_of (hF _ (h.1 hp).2).2).trans (h2 i u hu)⟩
theorem RowOf.nil {α : Type} (d : Kd α) (w : World) (F : Nat → Prop) (A : Option Addr) : RowOf d w F A [] := ⟨fun h => absurd h (Nat.lt_irrefl 0), fun j x hj => by simp at hj⟩
def Kd.slice {α : Type} (d : Kd α) : Kd (List α) where
  sz := 1
  K w F xs cs := ∃ A c, cs = [.slice A xs.length c] ∧ xs.length ≤ c ∧ c ≤ maxLen ∧ RowOf d w F A xs
  len := by rintro w F x cs ⟨A, c, rfl, _⟩; rfl
  one := by rintro w F x cs ⟨A, c, rfl, _⟩ u hu; simp at hu; subst hu; rfl
  mono := by rintro w w' F F' x cs ⟨A, c, rfl, h1, h2, h3⟩ hF; exact ⟨A, c, rfl, h1, h2, h3.mono hF⟩
/-- A kind whose cells hang on the value alone. -/
def Kd.flat {α : Type} (sz : Nat) (enc : α → List Value) (hl : ∀ x, (enc x).length = sz) (h1 : ∀ x, ∀ u ∈ enc x, u.oneCell' = true) : Kd α where
  sz := sz
  K _ _ x cs := cs = enc x
  len := by rintro w F x cs rfl; exact hl x
  one := by rintro w F x cs rfl; exact h1 x
  mono := by rintro w w' F F' x cs h _; exact h
theorem hone_int (k : IntKind) : ∀ x, ∀ u ∈ (fun x => [Value.int k x]) x, u.oneCell' = true := fun x u hu => by simp at hu; subst hu; rfl
theorem hone_bool : ∀ x, ∀ u ∈ (fun x => [Value.bool x]) x, u.oneCell' = true := fun x u hu => by simp at hu; subst hu; rfl
theorem hone_str : ∀ x, ∀ u ∈ (fun x => [Value.string x]) x, u.oneCell' = true := fun x u hu => by simp at hu; subst hu; rfl
abbrev kInt (k : IntKind) : Kd Int := Kd.flat 1 (fun x => [.int k x]) (fun _ => rfl) (hone_int k)
abbrev kBool : Kd Bool := Kd.flat 1 (fun x => [.bool x]) (fun _ => rfl) hone_bool
abbrev kStr : Kd ByteArray := Kd.flat 1 (fun x => [.string x]) (fun _ => rfl) hone_str
def Kd.prod {α β : Type} (a : Kd α) (b : Kd β) : Kd (α × β) where
  sz := a.sz + b.sz
  K w F x cs := ∃ c1 c2, cs = c1 ++ c2 ∧ a.K w F x.1 c1 ∧ b.K w F x.2 c2
  len := by rintro w F x cs ⟨c1, c2, rfl, h1, h2⟩; rw [List.length_append, a.len h1, b.len h2]
  one := by
    rintro w F x cs ⟨c1, c2, rfl, h1, h2⟩ u hu
    rcases List.mem_append.1 hu with hu | hu
    · exact a.one h1 u hu
    · exact b.one h2 u hu
  mono := by rintro w w' F F' x cs ⟨c1, c2, rfl, h1, h2⟩ hF; exact ⟨c1, c2, rfl, a.mono h1 hF, b.mono h2 hF⟩
def Kd.map {α β : Type} (f : β → α) (a : Kd α) : Kd β where
  sz := a.sz
  K w F y cs := a.K w F (f y) cs
  len h := a.len h
  one h := a.one h
  mono h hF := a.mono h hF

theorem RowOf.read {α : Type} [Inhabited α] {d : Kd α} {s : Snap} {A : Option Addr} {xs : List α} (h : RowOf d s.w s.av A xs) {i : Int} (hi : 0 ≤ i ∧ i < (xs.length : Int)) : ∃ cs, d.K s.w s.av (ix xs i) cs ∧ Rd s A (i.toNat * d.sz) cs := by
  obtain ⟨cs, h1, h2⟩ := h.2 _ _ (ix_get hi)
  exact ⟨cs, h1, (h.1 (by omega)).2, h2⟩
theorem RowOf.readF {α : Type} [Inhabited α] {sz : Nat} {enc : α → List Value} {hl : ∀ x, (enc x).length = sz} {h1 : ∀ x, ∀ u ∈ enc x, u.oneCell' = true} {s : Snap} {A : Option Addr} {xs : List α} (h : RowOf (Kd.flat sz enc hl h1) s.w s.av A xs) {i : Int}
    (hi : 0 ≤ i ∧ i < (xs.length : Int)) : Rd s A (i.toNat * sz) (enc (ix xs i)) := by
  obtain ⟨cs, h1, h2⟩ := h.read hi
  have h1' : cs = enc (ix xs i) := h1
  subst h1'
  exact h2
theorem RowOf.some_ {α : Type} {d : Kd α} {w : World} {F : Nat → Prop} {A : Option Addr} {xs : List α} (h : RowOf d w F A xs) {i : Int} (hi : 0 ≤ i ∧ i < (xs.length : Int)) : A.isSome = true := (h.1 (by omega)).1

section ops
variable {C : Cx} {ops : Array Oper} {k : List Item} {l l' : Fm} {M M' : List Ent} {S S' : List Snap} {ty : TypeId} {pos : String} {after : Ed} {g : Gu} {d : Nat}

/-! ### addresses of elements and fields -/
theorem v_idx {T e sz : Nat} {x y : Operand} {A : Option Addr} {n c : Nat} {kk : IntKind} {j : Int} (hT : slE C.P T = some (e, sz)) (hx : evl l x = some (.slice A n c)) (hy : evl l y = some (.int kk j))
 (hj : 0 ≤ j ∧ j < (n : Int)) (hA : A.isSome = true) : Val C ⟨some d, .indexAddr T x y, ty, pos, after, g⟩ l M S (eA A (j.toNat * sz)) :=
  fun a' w hF _ => by
    obtain ⟨h1, inf, h2, h3⟩ := slE_spec hT
    obtain ⟨a, rfl⟩ := Option.isSome_iff_exists.1 hA
    simp [execOp, hF.ev hx, hF.ev hy, Instr.indexAt, run_underlying h1, asIntOf, sizeOf, typeInfo, h2, h3, hj.1, hj.2, eA, Sem.run_pure, Sem.run_bind]
theorem v_fldA {T f off : Nat} {x : Operand} {A : Option Addr} {kk : Nat} (hT : fOff C.P T f = some off) (hx : evl l x = some (eA A kk)) : Val C ⟨some d, .fieldAddr T x f, ty, pos, after, g⟩ l M S (eA A (kk + off)) :=
  fun a' w hF _ => by
    obtain ⟨fs, fd, inf, h1, h2, h3, h4, h5⟩ := fOff_spec hT
    have hx' := hF.ev hx
    unfold eA at hx'
    simp [execOp, hx', Instr.fieldAt, run_underlying h1, h2, Instr.sureAddr, fieldPlace, sizeOf, typeInfo, h3, h4, h5, eA, add_add', Sem.run_pure, Sem.run_bind]
theorem v_fldB {T f off : Nat} {x : Operand} {gb o : Nat} (hT : fOff C.P T f = some off) (hx : evl l x = some (.pointer (some ⟨gb, o, none⟩))) : Val C ⟨some d, .fieldAddr T x f, ty, pos, after, g⟩ l M S (.pointer (some ⟨gb, o + off, none⟩)) :=
  fun a' w hF _ => by
    obtain ⟨fs, fd, inf, h1, h2, h3, h4, h5⟩ := fOff_spec hT
    simp [execOp, hF.ev hx, Instr.fieldAt, run_underlying h1, h2, Instr.sureAddr, fieldPlace, sizeOf, typeInfo, h3, h4, h5, add_box, Sem.run_pure, Sem.run_bind]
/-! ### loads -/
theorem run_loadVar_one {P : Program} {w : World} {T : Nat} {a : Addr} {v : Value} (hT : ldK P T = some none) (hc : w.cell? a = some v) : (loadVar T a).run P w = .ok v w := by
  unfold loadVar
  simp [ldK_one hT, hc]
theorem run_loadVar_agg {P : Program} {w : World} {T m : Nat} {a : Addr} {cs : List Value} (hT : ldK P T = some (some m)) (hm : cs.length = m) (hc : ∀ i u, cs[i]? = some u → w.cell? (a.add i) = some u) : (loadVar T a).run P w = .ok (.agg cs.toArray) w := by
  obtain ⟨h1, inf, h2, h3⟩ := ldK_agg hT
  unfold loadVar
  have h4 := run_loadCells_list (P := P) (w := w) a cs hc
  simp [h1, sizeOf, typeInfo, h2, h3, ← hm, h4]
theorem v_ldA1 {T : Nat} {x : Operand} {A : Option Addr} {kk j : Nat} {cs : List Value} {v : Value} (s : Snap) (hT : ldK C.P T = some none) (hx : evl l x = some (eA A (kk + j))) (hr : Rd s A kk cs) (hv : cs[j]? = some v) (hs : s ∈ S) : Val C ⟨some d, .load T x, ty, pos, after, g⟩ l M S (v) :=
  fun a' w hF hL => by
    have hx' := hF.ev hx
    unfold eA at hx'
    have h1 := run_loadVar_one hT (hr.now hL hs hv)
    simp [execOp, hx', Instr.loadAt, Instr.sureAddr, h1, Sem.run_pure, Sem.run_bind]
theorem v_ldA {T m : Nat} {x : Operand} {A : Option Addr} {kk : Nat} {cs : List Value} (s : Snap) (hT : ldK C.P T = some (some m)) (hx : evl l x = some (eA A kk)) (hr : Rd s A kk cs) (hm : cs.length = m) (hs : s ∈ S) : Val C ⟨some d, .load T x, ty, pos, after, g⟩ l M S (.agg cs.toArray) :=
  fun a' w hF hL => by
    have hx' := hF.ev hx
    unfold eA at hx'
    have h1 := run_loadVar_agg hT hm (fun i u hu => by rw [add_add']; exact hr.now hL hs hu)
    simp [execOp, hx', Instr.loadAt, Instr.sureAddr, h1, Sem.run_pure, Sem.run_bind]
theorem box_cell {w : World} {gb : Nat} {T : TypeId} {cs : List Value} (h : (Ent.box gb T cs).ok w) (o : Nat) : w.cell? ⟨gb, o, none⟩ = cs[o]? := by
  have h' : w.heap[gb]? = some (.cells cs.toArray T (0, 0)) := h
  simp [World.cell?, h']
theorem box_free {w : World} {gb : Nat} {T : TypeId} {cs : List Value} (h : (Ent.box gb T cs).ok w) (o : Nat) : w.frozen? ⟨gb, o, none⟩ = false := by
  have h' : w.heap[gb]? = some (.cells cs.toArray T (0, 0)) := h
  simp [World.frozen?, h']
theorem v_ldB1 {T : Nat} {x : Operand} {gb o Tb : Nat} {cs : List Value} {v : Value} (j : Nat) (hT : ldK C.P T = some none) (hx : evl l x = some (.pointer (some ⟨gb, o, none⟩))) (hM : M[j]? = some (.box gb Tb cs)) (hv : cs[o]? = some v) : Val C ⟨some d, .load T x, ty, pos, after, g⟩ l M S (v) :=
  fun a' w hF hL => by
    have h1 := run_loadVar_one (P := C.P) (w := w) (a := ⟨gb, o, none⟩) (v := v) hT ((box_cell (hL.ok _ (List.mem_iff_getElem?.2 ⟨j, hM⟩)) o).trans hv)
    simp [execOp, hF.ev hx, Instr.loadAt, Instr.sureAddr, h1, Sem.run_pure, Sem.run_bind]
theorem v_ldB {T m : Nat} {x : Operand} {gb o Tb : Nat} {cs : List Value} (vs : List Value) (j : Nat) (hT : ldK C.P T = some (some m)) (hx : evl l x = some (.pointer (some ⟨gb, o, none⟩))) (hM : M[j]? = some (.box gb Tb cs)) (hv : (cs.drop o).take m = vs)
 (hm : vs.length = m) : Val C ⟨some d, .load T x, ty, pos, after, g⟩ l M S (.agg vs.toArray) :=
  fun a' w hF hL => by
    have h1 := run_loadVar_agg (P := C.P) (w := w) (a := ⟨gb, o, none⟩) hT hm (fun q u hu => by
      rw [add_box, box_cell (hL.ok _ (List.mem_iff_getElem?.2 ⟨j, hM⟩)) (o + q)]
      rw [← hv, List.getElem?_take] at hu
      split at hu
      · rwa [List.getElem?_drop] at hu
      · cases hu)
    simp [execOp, hF.ev hx, Instr.loadAt, Instr.sureAddr, h1, Sem.run_pure, Sem.run_bind]
/-! ### new variables -/
theorem run_newVar {P : Program} {w : World} (T : TypeId) (v : Value) : (newVar T v).run P w = .ok ⟨w.heap.size, 0, none⟩ (w.alloc (.cells v.cells T)) := by
  unfold newVar newRow newObj
  simp [Sem.run]
theorem Loc.box {w0 w : World} (h : Loc w0 w M S) (T : TypeId) (cs : List Value) : Loc w0 (w.alloc (.cells cs.toArray T)) (.box w.heap.size T cs :: M) S :=
  h.add (Chg.alloc w _ none) _ (by show (w.alloc _).heap[w.heap.size]? = _; exact heap_alloc_new w _) (fun b hb => by simp [Ent.blk] at hb; omega)
theorem zrK_spec {P : Program} {T : Nat} {zs : List Value} (h : zrK P T = some zs) : ∃ z, (∀ w, (zeroValue T).run P w = .ok z w) ∧ z.cells = zs.toArray := by
  unfold zrK at h
  rcases hi : P.info? T with _ | inf
  · rw [hi] at h; cases h
  · rw [hi] at h
    rcases hz : inf.zero with _ | z
    · simp [hz] at h
    · simp [hz] at h
      exact ⟨z, fun w => by simp [zeroValue, typeInfo, hi, hz], by rw [← h]⟩
theorem s_alloc {Nx : Fm → List Ent → List Snap → Prop} {T : Nat} (zs : List Value) (hT : zrK C.P T = some zs) (hd : Nat.ble (d + 1) C.n = true)
    (h : ∀ gb, Nx ((d, .pointer (some ⟨gb, 0, none⟩)) :: l) (.box gb T zs :: M) S) : Stp C ⟨some d, .alloc T, ty, pos, after, g⟩ l M S Nx :=
  s_run hd fun a w hF hL => by
    obtain ⟨z, h1, h2⟩ := zrK_spec hT
    refine ⟨.pointer (some ⟨w.heap.size, 0, none⟩), w.alloc (.cells zs.toArray T), _, _, ?_, hL.box T zs, h _⟩
    simp [execOp, Instr.alloc, h1, run_newVar, h2, Sem.run_pure, Sem.run_bind]
theorem s_box {Nx : Fm → List Ent → List Snap → Prop} {T : Nat} {x : Operand} {v : Value} (zs : List Value) (hx : evl l x = some v) (hv : v.cells = zs.toArray) (hd : Nat.ble (d + 1) C.n = true)
    (h : ∀ gb, Nx ((d, .pointer (some ⟨gb, 0, none⟩)) :: l) (.box gb T zs :: M) S) : Stp C ⟨some d, .box T x, ty, pos, after, g⟩ l M S Nx :=
  s_run hd fun a w hF hL => by
    refine ⟨.pointer (some ⟨w.heap.size, 0, none⟩), w.alloc (.cells zs.toArray T), _, _, ?_, hL.box T zs, h _⟩
    simp [execOp, Instr.box, hF.ev hx, run_newVar, hv, Sem.run_pure, Sem.run_bind]
/-! ### stores -/
def setsL (cs : List Value) (o : Nat) : List Value → List Value
  | [] => cs
  | v :: r => setsL (cs.set o v) (o + 1) r
theorem setsL_length (o : Nat) : ∀ (vs cs : List Value), ∀ o, (setsL cs o vs).length = cs.length
  | [], _, _ => rfl
  | v :: r, cs, o => by simp [setsL, setsL_length 0 r]
theorem box_set {w : World} {gb : Nat} {T : TypeId} {cs : List Value} (h : (Ent.box gb T cs).ok w) (o : Nat) (v : Value) : (Ent.box gb T (cs.set o v)).ok (w.setCell ⟨gb, o, none⟩ v) := by
  have h' : w.heap[gb]? = some (.cells cs.toArray T (0, 0)) := h
  show (w.setCell ⟨gb, o, none⟩ v).heap[gb]? = _
  simp [World.setCell, Array.getElem?_modify, h']
theorem run_stores {P : Program} (gb : Nat) (T : TypeId) : ∀ (vs cs : List Value) (o j : Nat) (w : World), (Ent.box gb T cs).ok w → o + j + vs.length ≤ cs.length → (∀ v ∈ vs, v.oneCell' = true) →
    ∃ w', (storeCells ⟨gb, o, none⟩ vs j).run P w = .ok () w' ∧ (Ent.box gb T (setsL cs (o + j) vs)).ok w' ∧ Chg (some gb) w w'
  | [], cs, o, j, w, h, _, _ => ⟨w, by simp [storeCells], h, ⟨Env.refl w, fun _ _ _ => rfl⟩⟩
  | v :: r, cs, o, j, w, h, hl, h1 => by
    simp only [List.length_cons] at hl
    have hc : w.cell? ⟨gb, o + j, none⟩ = some (cs[o + j]'(by omega)) := (box_cell h _).trans (List.getElem?_eq_getElem (by omega))
    have hs : (store ((⟨gb, o, none⟩ : Addr).add j) v).run P w = .ok () (w.setCell ⟨gb, o + j, none⟩ v) := by
      rw [add_box, run_store P w _ v _ (h1 v (by simp)), hc, box_free h]
      rfl
    obtain ⟨w', h2, h3, h4⟩ := run_stores (P := P) gb T r (cs.set (o + j) v) o (j + 1) (w.setCell ⟨gb, o + j, none⟩ v) (box_set h _ v) (by simp; omega) (fun u hu => h1 u (by simp [hu]))
    refine ⟨w', ?_, by simpa [setsL, Nat.add_assoc] using h3, (Chg.set w ⟨gb, o + j, none⟩ v).trans h4⟩
    simp [storeCells, hs, h2]
theorem run_storeVar_box {P : Program} {gb T Tb m : Nat} {cs vs : List Value} {o : Nat} {w : World} {v : Value} (hT : szK P T = some m) (hv : v.cells.toList = vs) (hm : vs.length = m) (hl : o + m ≤ cs.length) (h1 : ∀ u ∈ vs, u.oneCell' = true) (h : (Ent.box gb Tb cs).ok w) :
    ∃ w', (storeVar T ⟨gb, o, none⟩ v).run P w = .ok () w' ∧ (Ent.box gb Tb (setsL cs o vs)).ok w' ∧ Chg (some gb) w w' := by
  obtain ⟨w', h2, h3, h4⟩ := run_stores (P := P) gb Tb vs cs o 0 w h (by omega) h1
  refine ⟨w', ?_, h3, h4⟩
  unfold szK at hT
  rcases hi : P.info? T with _ | inf
  · rw [hi] at hT; cases hT
  · rw [hi] at hT
    simp at hT
    have hsz : v.cells.size = inf.size := by rw [hT, ← hm, ← hv]; simp
    unfold storeVar
    simp [sizeOf, typeInfo, hi, hsz, hv, h2]
theorem s_stB {Nx : Fm → List Ent → List Snap → Prop} {T m : Nat} {x y : Operand} {gb o Tb : Nat} {cs cs' vs : List Value} {v : Value} (j : Nat) (hT : szK C.P T = some m) (hx : evl l x = some (.pointer (some ⟨gb, o, none⟩))) (hy : evl l y = some v)
    (hM : M[j]? = some (.box gb Tb cs)) (hv : v.cells.toList = vs) (hm : vs.length = m) (hl : Nat.ble (o + m) cs.length = true) (h1 : vs.all Value.oneCell' = true) (hc : setsL cs o vs = cs') (hM' : M.set j (.box gb Tb cs') = M') 
    (h : Nx l M' S) : Stp C ⟨none, .store T x y, ty, pos, after, g⟩ l M S Nx :=
  s_do fun a w hF hL => by
    obtain ⟨w', h2, h3, h4⟩ := run_storeVar_box (P := C.P) (o := o) hT hv hm (Nat.le_of_ble_eq_true hl) (fun u hu => List.all_eq_true.1 h1 u hu) (hL.ok _ (List.mem_iff_getElem?.2 ⟨j, hM⟩))
    refine ⟨w', _, _, by simp [execOp, hF.ev hx, hF.ev hy, Instr.storeAt, Instr.sureAddr, h2, Sem.run_pure, Sem.run_bind], ?_, h⟩
    subst hM'
    subst hc
    exact hL.upd hM h4 h3 (.inl rfl)
/-! ### building values -/
def evP (l : Fm) : List (Nat × Operand) → Option (List (Nat × Value))
  | [] => some []
  | p :: r => match evl l p.2, evP l r with
    | some v, some q => some ((p.1, v) :: q)
    | _, _ => none
theorem evP_spec {l : Fm} {n : Nat} {a : Act} (hF : Fr n l a) : ∀ (ps : List (Nat × Operand)) (vs : List (Nat × Value)), evP l ps = some vs → ps.map (fun p => (p.1, a.eval p.2)) = vs
  | [], vs, h => by simp [evP] at h; subst h; rfl
  | p :: r, vs, h => by
    simp only [evP] at h
    split at h
    · rename_i v q h1 h2
      injection h with h
      subst h
      simp [hF.ev h1, evP_spec hF r q h2]
    · cases h
def bld (P : Program) (T : Nat) : Option (Array Value × List (Nat × Nat)) :=
  match P.info? T, P.underlying T with
  | some it, some (.struct fields) =>
    match it.zero, fields.toList.mapM (fun f => (P.info? f.type).map fun i => (f.offset, i.size)) with
    | some z, some places => some (z.cells, places)
    | _, _ => none
  | _, _ => none
theorem bld_spec {P : Program} {T : Nat} {zs : Array Value} {pl : List (Nat × Nat)} (h : bld P T = some (zs, pl)) (ps : List (Nat × Value)) : P.built T ps = Instr.fill (pl.toArray[·]?) zs ps := by
  unfold bld at h
  unfold Program.built
  split at h
  · rename_i it fs h1 h2
    split at h
    · rename_i z places h3 h4
      simp at h
      obtain ⟨rfl, rfl⟩ := h
      simp [h1, h2, h3, h4]
    · cases h
  · cases h
theorem v_build {T : Nat} {ps : Array (Nat × Operand)} {pv : List (Nat × Value)} {zs : Array Value} {pl : List (Nat × Nat)} (cells : Array Value) (hT : bld C.P T = some (zs, pl)) (hp : evP l ps.toList = some pv)
 (hf : Instr.fill (pl.toArray[·]?) zs pv = some cells) : Val C ⟨some d, .build T ps, ty, pos, after, g⟩ l M S (.agg cells) :=
  fun a w hF hL => by
    have h1 := evP_spec hF ps.toList pv hp
    have h2 : (ps.map fun (i, x) => (i, a.eval x)).toList = pv := by simpa using h1
    have h3 := run_build (P := C.P) w T (ps.map fun (i, x) => (i, a.eval x)) cells (by rw [h2, bld_spec hT]; exact hf)
    simp only [execOp, Sem.run_bind, h3, Result.andThen_ok, Sem.run_pure]
def bldS (P : Program) (T n : Nat) : Option (Nat × Nat × Array Value) :=
  match P.underlying T with
  | some (.slice e) => match P.info? e with
    | some ie => match ie.zero with
      | some z => if n * ie.size > 2 ^ 24 then none else some (e, ie.size, (Array.range (n * ie.size)).map ((if n * ie.size = 0 then #[] else z.cells)[· % (if n * ie.size = 0 then #[] else z.cells).size]!))
      | none => none
    | none => none
  | _ => none
theorem Loc.lit {w0 w : World} (h : Loc w0 w M S) (e sz n : Nat) (cells : Array Value) (hm : n ≤ maxLen) (hs : cells.size = n * sz) : Loc w0 (w.alloc (.cells cells e)) (.own (.slice (some ⟨w.heap.size, 0, none⟩) n n) e sz n cells.toList :: M) S :=
  h.add (Chg.alloc w _ none) _ (World.ownsRow_lit w cells n (Nat.zero_le _) hm hs) (fun b hb => by simp [Ent.blk, Value.ownBlock] at hb; omega)
theorem run_lit {P : Program} {w : World} {T n e sz : Nat} {pv : Array (Nat × Value)} {zs cells : Array Value} (hT : bldS P T n = some (e, sz, zs)) (hf : Instr.fill (fun i => some (i * sz, sz)) zs pv.toList = some cells) :
    (Instr.buildSlice T n pv).run P w = .ok (.slice (some ⟨w.heap.size, 0, none⟩) n n) (w.alloc (.cells cells e)) := by
  unfold bldS at hT
  split at hT
  · rename_i e' hu
    split at hT
    · rename_i ie hie
      split at hT
      · rename_i z hz
        split at hT
        · cases hT
        · rename_i hbig
          simp only [Option.some.injEq, Prod.mk.injEq] at hT
          obtain ⟨rfl, rfl, rfl⟩ := hT
          have hsz : ∀ w, (sizeOf e').run P w = .ok ie.size w := fun w => by simp [sizeOf, typeInfo, hie]
          have hzr : ∀ w, (zeroValue e').run P w = .ok z w := fun w => by simp [zeroValue, typeInfo, hie, hz]
          have hnr : ∀ w c, (newRow e' c).run P w = .ok ⟨w.heap.size, 0, none⟩ (w.alloc (.cells c e')) := fun w c => by unfold newRow newObj; simp [Sem.run]
          unfold Instr.buildSlice
          simp only [Sem.run_bind, run_underlying hu, Result.andThen_ok, hsz]
          rw [if_neg hbig]
          by_cases h0 : n * ie.size = 0
          · simp only [if_pos h0] at hf ⊢
            simp only [Sem.run_bind, Sem.run_pure, Result.andThen_ok, hf, hnr]
          · simp only [if_neg h0] at hf ⊢
            simp only [Sem.run_bind, Sem.run_pure, Result.andThen_ok, hzr, hf, hnr]
      · cases hT
    · cases hT
  · cases hT
theorem s_lit {Nx : Fm → List Ent → List Snap → Prop} {T n e sz : Nat} {ps : Array (Nat × Operand)} {pv : List (Nat × Value)} {zs : Array Value} (cells : List Value) (hT : bldS C.P T n = some (e, sz, zs)) (hp : evP l ps.toList = some pv)
    (hf : Instr.fill (fun i => some (i * sz, sz)) zs pv = some cells.toArray) (hs : cells.length = n * sz) (hm : Nat.ble n 1000000 = true) (hd : Nat.ble (d + 1) C.n = true)
    (h : ∀ gb, Nx ((d, .slice (some ⟨gb, 0, none⟩) n n) :: l) (.own (.slice (some ⟨gb, 0, none⟩) n n) e sz n cells :: M) S) : Stp C ⟨some d, .buildSlice T n ps, ty, pos, after, g⟩ l M S Nx :=
  s_run hd fun a w hF hL => by
    have h1 := evP_spec hF ps.toList pv hp
    have h2 : (ps.map fun (i, x) => (i, a.eval x)).toList = pv := by simpa using h1
    have hm' : n ≤ maxLen := by have := Nat.le_of_ble_eq_true hm; unfold maxLen; omega
    refine ⟨.slice (some ⟨w.heap.size, 0, none⟩) n n, w.alloc (.cells cells.toArray e), _, _, ?_, by simpa using hL.lit e sz n cells.toArray hm' (by simpa using hs), h _⟩
    have hrun := run_lit (P := C.P) (w := w) (pv := ps.map fun (i, x) => (i, a.eval x)) hT (by rw [h2]; exact hf)
    simp only [execOp, Sem.run_bind, hrun, Result.andThen_ok, Sem.run_pure]

/-! ### rows of the call's own -/
theorem own_addr {w : World} {A : Option Addr} {e sz n c : Nat} {cells : List Value} (h : w.ownsRow 0 e sz (.slice A n c) n cells) (hp : 0 < n) : ∃ gb, A = some ⟨gb, 0, none⟩ := by
  rcases h.2 with ⟨_, rfl⟩ | ⟨gb, cap, cur, hv, _⟩
  · omega
  · injection hv with hv
    exact ⟨gb, hv⟩
theorem own_form {w : World} {v : Value} {e sz n : Nat} {cells : List Value} (h : w.ownsRow 0 e sz v n cells) : ∃ A c, v = .slice A n c ∧ n ≤ c ∧ c ≤ maxLen ∧ (0 < n → A.isSome = true) := by
  rcases h.2 with ⟨rfl, rfl⟩ | ⟨gb, cap, cur, rfl, _, _, h1, h2, _⟩
  · exact ⟨none, 0, rfl, Nat.le_refl _, Nat.zero_le _, fun h => absurd h (Nat.lt_irrefl 0)⟩
  · exact ⟨_, cap, rfl, h1, h2, fun _ => rfl⟩
theorem own_cell {w : World} {A : Option Addr} {e sz n c : Nat} {cells : List Value} (h : w.ownsRow 0 e sz (.slice A n c) n cells) {kk : Nat} {v : Value} (hv : cells[kk]? = some v) : celA w A kk = some v := by
  have hp : 0 < n := by
    rcases Nat.eq_zero_or_pos n with h0 | h0
    · have := h.1; rw [h0] at this; simp at this; subst this; simp at hv
    · exact h0
  obtain ⟨gb, rfl⟩ := own_addr h hp
  exact h.cells (g := gb) rfl kk v hv
theorem v_ldO1 {T : Nat} {x : Operand} {A : Option Addr} {kk e sz n c : Nat} {cells : List Value} (v : Value) (j : Nat) (hT : ldK C.P T = some none) (hx : evl l x = some (eA A kk)) (hM : M[j]? = some (.own (.slice A n c) e sz n cells)) (hv : cells[kk]? = some v) : Val C ⟨some d, .load T x, ty, pos, after, g⟩ l M S (v) :=
  fun a' w hF hL => by
    have hx' := hF.ev hx
    unfold eA at hx'
    have h1 := run_loadVar_one hT (own_cell (hL.ok _ (List.mem_iff_getElem?.2 ⟨j, hM⟩)) hv)
    simp [execOp, hx', Instr.loadAt, Instr.sureAddr, h1, Sem.run_pure, Sem.run_bind]
theorem v_ldO {T m : Nat} {x : Operand} {A : Option Addr} {kk e sz n c : Nat} {cells : List Value} (vs : List Value) (j : Nat) (hT : ldK C.P T = some (some m)) (hx : evl l x = some (eA A kk)) (hM : M[j]? = some (.own (.slice A n c) e sz n cells))
 (hv : (cells.drop kk).take m = vs) (hm : vs.length = m) : Val C ⟨some d, .load T x, ty, pos, after, g⟩ l M S (.agg vs.toArray) :=
  fun a' w hF hL => by
    have hx' := hF.ev hx
    unfold eA at hx'
    have h1 := run_loadVar_agg hT hm (fun q u hu => by
      rw [add_add']
      rw [← hv, List.getElem?_take] at hu
      split at hu
      · rw [List.getElem?_drop] at hu
        exact own_cell (hL.ok _ (List.mem_iff_getElem?.2 ⟨j, hM⟩)) hu
      · cases hu)
    simp [execOp, hx', Instr.loadAt, Instr.sureAddr, h1, Sem.run_pure, Sem.run_bind]
theorem run_storesO {P : Program} (gb e sz n c : Nat) : ∀ (vs cs : List Value) (o j : Nat) (w : World), w.ownsRow 0 e sz (.slice (some ⟨gb, 0, none⟩) n c) n cs → o + j + vs.length ≤ cs.length → (∀ v ∈ vs, v.oneCell' = true) →
    ∃ w', (storeCells ⟨gb, o, none⟩ vs j).run P w = .ok () w' ∧ w'.ownsRow 0 e sz (.slice (some ⟨gb, 0, none⟩) n c) n (setsL cs (o + j) vs) ∧ Chg (some gb) w w'
  | [], cs, o, j, w, h, _, _ => ⟨w, by simp [storeCells], h, ⟨Env.refl w, fun _ _ _ => rfl⟩⟩
  | v :: r, cs, o, j, w, h, hl, h1 => by
    simp only [List.length_cons] at hl
    have hlt : o + j < n * sz := by have := h.1; omega
    have hc : w.cell? ⟨gb, o + j, none⟩ = some (cs[o + j]'(by omega)) := (h.cellAt _ hlt).trans (List.getElem?_eq_getElem (by omega))
    have hs : (store ((⟨gb, o, none⟩ : Addr).add j) v).run P w = .ok () (w.setCell ⟨gb, o + j, none⟩ v) := by
      rw [add_box, run_store P w _ v _ (h1 v (by simp)), hc, h.frozenAt]
      rfl
    obtain ⟨w', h2, h3, h4⟩ := run_storesO (P := P) gb e sz n c r (cs.set (o + j) v) o (j + 1) (w.setCell ⟨gb, o + j, none⟩ v) (h.stored _ v).1 (by simp; omega) (fun u hu => h1 u (by simp [hu]))
    refine ⟨w', ?_, by simpa [setsL, Nat.add_assoc] using h3, (Chg.set w ⟨gb, o + j, none⟩ v).trans h4⟩
    simp [storeCells, hs, h2]
theorem s_stO {Nx : Fm → List Ent → List Snap → Prop} {T m : Nat} {x y : Operand} {A : Option Addr} {kk e sz n c : Nat} {cells vs : List Value} {v : Value} (j : Nat) (hT : szK C.P T = some m) (hx : evl l x = some (eA A kk)) (hy : evl l y = some v)
    (hM : M[j]? = some (.own (.slice A n c) e sz n cells)) (hv : v.cells.toList = vs) (hm : vs.length = m) (hl : kk + m ≤ cells.length) (h0 : 0 < n) (h1 : vs.all Value.oneCell' = true) (hM' : M.set j (.own (.slice A n c) e sz n (setsL cells kk vs)) = M') 
    (h : Nx l M' S) : Stp C ⟨none, .store T x y, ty, pos, after, g⟩ l M S Nx :=
  s_do fun a w hF hL => by
    have hown : w.ownsRow 0 e sz (.slice A n c) n cells := hL.ok _ (List.mem_iff_getElem?.2 ⟨j, hM⟩)
    obtain ⟨gb, rfl⟩ := own_addr hown h0
    obtain ⟨w', h2, h3, h4⟩ := run_storesO (P := C.P) gb e sz n c vs cells kk 0 w hown (by omega) (fun u hu => List.all_eq_true.1 h1 u hu)
    have hx' := hF.ev hx
    unfold eA at hx'
    have hst : (storeVar T (⟨gb, kk, none⟩ : Addr) v).run C.P w = .ok () w' := by
      unfold szK at hT
      rcases hi : C.P.info? T with _ | inf
      · rw [hi] at hT; cases hT
      · rw [hi] at hT
        simp at hT
        have hsz : v.cells.size = inf.size := by rw [hT, ← hm, ← hv]; simp
        unfold storeVar
        simp [sizeOf, typeInfo, hi, hsz, hv, h2]
    refine ⟨w', _, _, by simp [execOp, hx', hF.ev hy, Instr.storeAt, Instr.sureAddr, add_box, hst, Sem.run_pure, Sem.run_bind], ?_, h⟩
    subst hM'
    exact hL.upd (e' := .own (.slice (some ⟨gb, 0, none⟩) n c) e sz n (setsL cells kk vs)) hM h4 (by rw [Nat.add_zero] at h3; exact h3) (.inl rfl)
/-! ### append -/
def apK (P : Program) (T : Nat) : Option (Nat × Nat × Nat) :=
  match P.underlying T with
  | some (.slice e) => match P.info? e with
    | some ie => match ie.zero with
      | some z => if z.cells.size = ie.size ∧ 0 < ie.size then some (e, ie.size, ie.bytes) else none
      | none => none
    | none => none
  | _ => none
theorem apK_spec {P : Program} {T e sz bytes : Nat} (h : apK P T = some (e, sz, bytes)) : P.underlying T = some (.slice e) ∧ ∃ i z, P.info? e = some i ∧ i.zero = some z ∧ i.size = sz ∧ i.bytes = bytes ∧ z.cells.size = sz ∧ 0 < sz := by
  unfold apK at h
  split at h
  · rename_i e' hu
    split at h
    · rename_i ie hie
      split at h
      · rename_i z hz
        split at h
        · rename_i hc
          simp only [Option.some.injEq, Prod.mk.injEq] at h
          obtain ⟨rfl, rfl, rfl⟩ := h
          exact ⟨hu, ie, z, hie, hz, rfl, rfl, hc.1, hc.2⟩
        · cases h
      · cases h
    · cases h
  · cases h
theorem upd_app {w0 w w' : World} (hL : Loc w0 w M S) {j : Nat} {v v' : Value} {e sz n n' : Nat} {cells cells' : List Value} (hM : M[j]? = some (.own v e sz n cells)) (h2 : w'.ownsRow 0 e sz v' n' cells') (h3 : w.grownBy w' v.ownBlock) (h5 : v'.ownBlock = v.ownBlock ∨ v'.ownBlock = some w.heap.size) :
    Loc w0 w' (M.set j (.own v' e sz n' cells')) S :=
  hL.upd (e' := .own v' e sz n' cells') hM (Chg.of_grown h3) h2 (h5.imp id fun h5 b hb => by
    simp only [Ent.blk] at hb
    rw [h5] at hb
    injection hb with hb
    omega)
/-- append(s, x..) where what is appended lies in a row of the call's own (its first m elements). -/
theorem s_appO {Nx : Fm → List Ent → List Snap → Prop} {T e sz bytes : Nat} {x y : Operand} {A B : Option Addr} {n c m n2 c2 c3 n' : Nat} {cells cells2 news cells' : List Value} (j j2 : Nat) (hT : apK C.P T = some (e, sz, bytes))
    (hx : evl l x = some (.slice A n c)) (hy : evl l y = some (.slice B m c2)) (hM : M[j]? = some (.own (.slice A n c) e sz n cells)) (hM2 : M[j2]? = some (.own (.slice B n2 c3) e sz n2 cells2)) (hm : m ≤ n2) (hnews : cells2.take (m * sz) = news) (h1 : news.all Value.oneCell' = true) (hn : n + m = n') (hc : cells ++ news = cells') (hb : n' * bytes ≤ 140737488355328) (hn' : n' ≤ 140737488355328) (hB : 0 < m)
    (hd : Nat.ble (d + 1) C.n = true)
    (h : ∀ A' c', (0 < n' → A'.isSome = true) → n' ≤ c' → c' ≤ maxLen → Nx ((d, .slice A' n' c') :: l) (M.set j (.own (.slice A' n' c') e sz n' cells')) S) : Stp C ⟨some d, .call { callee := .builtin .append, args := #[x, y], argTypes := #[T, T] }, ty, pos, after, g⟩ l M S Nx :=
  s_run hd fun a w hF hL => by
    subst hn
    subst hc
    obtain ⟨t1, inf, z, t2, t3, t4, t5, t6, t7⟩ := apK_spec hT
    have hown : w.ownsRow 0 e sz (.slice A n c) n cells := hL.ok _ (List.mem_iff_getElem?.2 ⟨j, hM⟩)
    have hown2 : w.ownsRow 0 e sz (.slice B n2 c3) n2 cells2 := hL.ok _ (List.mem_iff_getElem?.2 ⟨j2, hM2⟩)
    obtain ⟨gb, rfl⟩ := own_addr hown2 (by omega)
    have hlen : news.length = m * sz := by rw [← hnews, List.length_take, hown2.1, Nat.min_eq_left (Nat.mul_le_mul_right _ hm)]
    obtain ⟨v', w', hrun, h2, h3, _, h5⟩ := run_append_own_at (P := C.P) w 0 T ty e inf z sz bytes t1 t2 t3 t4 t5 t6 t7 (.slice A n c) n cells hown ⟨gb, 0, none⟩ m c2 news hlen (fun q u hu => hown2.cells (g := gb) rfl q u (by
      rw [← hnews, List.getElem?_take] at hu
      split at hu
      · exact hu
      · cases hu)) (fun u hu => List.all_eq_true.1 h1 u hu) (by unfold maxLen; omega) hb (Nat.zero_le _)
    obtain ⟨A', c', rfl, f1, f2, f3⟩ := own_form h2
    refine ⟨_, w', _, _, ?_, upd_app hL hM h2 h3 h5, h A' c' f3 f1 f2⟩
    simp [execOp, resolve, invoke, builtin, hF.ev hx, hF.ev hy, hrun, Sem.run_pure, Sem.run_bind]
/-- An empty row, told as one of the call's own. -/
theorem w_nil {ops : Array Oper} {i : Nat} (e sz : Nat) (h : WL C ops i k l (.own (.slice none 0 0) e sz 0 [] :: M) S) : WL C ops i k l M S := fun a w hF hL =>
  h a w hF (hL.add (e := .own (.slice none 0 0) e sz 0 []) ⟨Env.refl w, fun _ _ _ => rfl⟩ (World.ownsRow_nil w 0 e sz) (fun b hb => by simp [Ent.blk, Value.ownBlock] at hb))
theorem g_nil (e sz : Nat) (h : G C k l (.own (.slice none 0 0) e sz 0 [] :: M) S) : G C k l M S := fun a w hF hL =>
  h a w hF (hL.add (e := .own (.slice none 0 0) e sz 0 []) ⟨Env.refl w, fun _ _ _ => rfl⟩ (World.ownsRow_nil w 0 e sz) (fun b hb => by simp [Ent.blk, Value.ownBlock] at hb))
end ops
end Go.Proofs.Ytkaejoffnkhbpaa.B
