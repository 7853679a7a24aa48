/- Lemmas of my own on the machine: calls, cuts, what is appended, regions in any order. No condition. -/
import Derived.Test.YtkaejoffnkhbpaaB3
set_option linter.unusedVariables false
set_option linter.unusedSimpArgs false
namespace Go.Proofs.Ytkaejoffnkhbpaa.B
open Go.RowKit
theorem me {α : Type} {S : List α} {s : α} (j : Nat) (h : S[j]? = some s) : s ∈ S := List.mem_iff_getElem?.2 ⟨j, h⟩

/-! ### flat elements in a row -/
section flat
variable {α : Type} {sz : Nat} {enc : α → List Value}
theorem fm_len (hl : ∀ x, (enc x).length = sz) (xs : List α) : (xs.flatMap enc).length = xs.length * sz := by
  induction xs with
  | nil => simp
  | cons x xs ih => simp [List.flatMap_cons, hl, ih, Nat.add_mul]; omega
theorem fm_drop (hl : ∀ x, (enc x).length = sz) : ∀ (xs : List α) (j : Nat), (xs.flatMap enc).drop (j * sz) = (xs.drop j).flatMap enc
  | xs, 0 => by simp
  | [], j + 1 => by simp
  | x :: xs, j + 1 => by
    have : (j + 1) * sz = (enc x).length + j * sz := by rw [hl, Nat.add_mul]; omega
    rw [List.flatMap_cons, List.drop_succ_cons, ← fm_drop hl xs j, this, List.drop_length_add_append]
theorem fm_take (hl : ∀ x, (enc x).length = sz) : ∀ (xs : List α) (j : Nat), (xs.flatMap enc).take (j * sz) = (xs.take j).flatMap enc
  | xs, 0 => by simp
  | [], j + 1 => by simp
  | x :: xs, j + 1 => by
    have : (j + 1) * sz = (enc x).length + j * sz := by rw [hl, Nat.add_mul]; omega
    rw [List.flatMap_cons, List.take_succ_cons, List.flatMap_cons, ← fm_take hl xs j, this, List.take_length_add_append]
theorem fm_get [Inhabited α] (hl : ∀ x, (enc x).length = sz) {xs : List α} {i : Int} (hi : 0 ≤ i ∧ i < (xs.length : Int)) {o : Nat} {v : Value} (ho : (enc (ix xs i))[o]? = some v) : (xs.flatMap enc)[i.toNat * sz + o]? = some v := by
  rw [← List.getElem?_drop, fm_drop hl, List.drop_eq_getElem_cons (by omega : i.toNat < xs.length), List.flatMap_cons]
  have h1 := ix_get hi
  rw [List.getElem?_eq_getElem (by omega)] at h1
  injection h1 with h1
  rw [h1, List.getElem?_append_left ((List.getElem?_eq_some_iff.1 ho).1)]
  exact ho
theorem fm_get0 [Inhabited α] (hl : ∀ x, (enc x).length = sz) {xs : List α} {i : Int} (hi : 0 ≤ i ∧ i < (xs.length : Int)) {v : Value} (ho : (enc (ix xs i))[0]? = some v) : (xs.flatMap enc)[i.toNat * sz]? = some v := fm_get hl hi ho
theorem fm_one [Inhabited α] (hl : ∀ x, (enc x).length = sz) {xs : List α} {i : Int} (hi : 0 ≤ i ∧ i < (xs.length : Int)) : ((xs.flatMap enc).drop (i.toNat * sz)).take sz = enc (ix xs i) := by
  rw [fm_drop hl, List.drop_eq_getElem_cons (by omega : i.toNat < xs.length), List.flatMap_cons]
  have h1 := ix_get hi
  rw [List.getElem?_eq_getElem (by omega)] at h1
  injection h1 with h1
  rw [h1, ← hl (ix xs i), List.take_left]
theorem setsL_eq : ∀ (vs cs : List Value) (o : Nat), o + vs.length ≤ cs.length → setsL cs o vs = cs.take o ++ vs ++ cs.drop (o + vs.length)
  | [], cs, o, _ => by simp [setsL]
  | v :: r, cs, o, h => by
    simp only [List.length_cons] at h
    rw [setsL, setsL_eq r (cs.set o v) (o + 1) (by simp; omega)]
    apply List.ext_getElem?
    intro q
    simp only [List.getElem?_append, List.getElem?_take, List.getElem?_drop, List.length_append, List.length_take, List.length_set, List.length_cons, List.getElem?_set]
    by_cases h1 : q < o
    · simp [show q < o + 1 by omega, h1, show o ≤ cs.length by omega, show o + 1 ≤ cs.length by omega, show ¬ o = q by omega, show q < o + 1 + r.length by omega, show q < o + (r.length + 1) by omega]
    · by_cases h2 : q = o
      · subst h2
        simp [show q < cs.length by omega, show q + 1 ≤ cs.length by omega, show q ≤ cs.length by omega]
        intro h2; omega
      · by_cases h3 : q < o + 1 + r.length
        · have e : q - o = (q - (o + 1)) + 1 := by omega
          simp [show o ≤ cs.length by omega, show o + 1 ≤ cs.length by omega, show ¬ q < o + 1 by omega, h1, h3, show q < o + (r.length + 1) by omega, e]
        · have e : o + (r.length + 1) + (q - (o + (r.length + 1))) = o + 1 + r.length + (q - (o + 1 + r.length)) := by omega
          simp [show o ≤ cs.length by omega, show o + 1 ≤ cs.length by omega, h3, show ¬ q < o + (r.length + 1) by omega, e, show ¬ o = o + 1 + r.length + (q - (o + 1 + r.length)) by omega]
theorem fm_set [Inhabited α] (hl : ∀ x, (enc x).length = sz) {xs : List α} {i : Int} (hi : 0 ≤ i ∧ i < (xs.length : Int)) {o : Nat} {vs : List Value} {y : α} (hy : setsL (enc (ix xs i)) o vs = enc y) (ho : o + vs.length ≤ sz) :
    setsL (xs.flatMap enc) (i.toNat * sz + o) vs = (xs.set i.toNat y).flatMap enc := by
  have hlt : i.toNat < xs.length := by omega
  have hle : (i.toNat + 1) * sz ≤ xs.length * sz := Nat.mul_le_mul_right _ hlt
  rw [Nat.add_mul, Nat.one_mul] at hle
  have h1 := ix_get hi
  rw [List.getElem?_eq_getElem hlt] at h1
  injection h1 with h1
  have hsplit : xs = xs.take i.toNat ++ ix xs i :: xs.drop (i.toNat + 1) := by
    rw [← h1, ← List.drop_eq_getElem_cons hlt, List.take_append_drop]
  have hlen : ((xs.take i.toNat).flatMap enc).length = i.toNat * sz := by rw [fm_len hl, List.length_take, Nat.min_eq_left (Nat.le_of_lt hlt)]
  have hset : xs.set i.toNat y = xs.take i.toNat ++ y :: xs.drop (i.toNat + 1) := by rw [List.set_eq_take_append_cons_drop, if_pos hlt]
  rw [hset, List.flatMap_append, List.flatMap_cons, ← hy, setsL_eq _ _ _ (by rw [fm_len hl]; omega), setsL_eq _ _ _ (by rw [hl]; omega)]
  conv => lhs; rw [hsplit]
  rw [List.flatMap_append, List.flatMap_cons]
  have t1 : ((xs.take i.toNat).flatMap enc ++ (enc (ix xs i) ++ (xs.drop (i.toNat + 1)).flatMap enc)).take (i.toNat * sz + o) = (xs.take i.toNat).flatMap enc ++ (enc (ix xs i)).take o := by
    rw [← hlen, List.take_length_add_append, List.take_append_of_le_length (by rw [hl]; omega)]
  have t2 : ((xs.take i.toNat).flatMap enc ++ (enc (ix xs i) ++ (xs.drop (i.toNat + 1)).flatMap enc)).drop (i.toNat * sz + o + vs.length) = (enc (ix xs i)).drop (o + vs.length) ++ (xs.drop (i.toNat + 1)).flatMap enc := by
    rw [← hlen, Nat.add_assoc, List.drop_length_add_append, List.drop_append_of_le_length (by rw [hl]; omega)]
  rw [t1, t2]
  simp [List.append_assoc]
theorem fm_snoc (xs : List α) (y : α) : xs.flatMap enc ++ enc y = (xs ++ [y]).flatMap enc := by simp [List.flatMap_append]
theorem fm_all (h1 : ∀ x, ∀ u ∈ enc x, u.oneCell' = true) (xs : List α) : (xs.flatMap enc).all Value.oneCell' = true := by
  rw [List.all_eq_true]
  intro u hu
  obtain ⟨x, _, hx⟩ := List.mem_flatMap.1 hu
  exact h1 x u hx
end flat

/-! ### what is told of slices, from one world to the next -/
def Fs (S : List Snap) (b : Nat) : Prop := ∃ s ∈ S, s.sh = true ∧ s.av b
theorem Loc.Fs {w0 w : World} {M : List Ent} {S : List Snap} (hL : Loc w0 w M S) {b : Nat} (h : Fs S b) : b < w.heap.size ∧ ∀ o ∈ M.map Ent.blk, o ≠ some b := by
  obtain ⟨s, hs, _, hb⟩ := h
  obtain ⟨h1, h2⟩ := hL.snap s hs
  refine ⟨Nat.lt_of_lt_of_le hb.1 h1, fun o ho => ?_⟩
  obtain ⟨e, he, rfl⟩ := List.mem_map.1 ho
  exact (h2 b hb).2 e he
theorem Loc.K {α : Type} {w0 w : World} {M : List Ent} {S : List Snap} {s : Snap} {d : Kd α} {x : α} {cs : List Value} (hL : Loc w0 w M S) (hs : s ∈ S) (hsh : s.sh = true) (h : d.K s.w s.av x cs) : d.K w (B.Fs S) x cs :=
  d.mono h fun b hb => ⟨⟨s, hs, hsh, hb⟩, ((hL.snap s hs).2 b hb).1⟩
theorem Loc.row {α : Type} {w0 w : World} {M : List Ent} {S : List Snap} {s : Snap} {d : Kd α} {A : Option Addr} {xs : List α} (hL : Loc w0 w M S) (hs : s ∈ S) (hsh : s.sh = true) (h : RowOf d s.w s.av A xs) : RowOf d w (B.Fs S) A xs :=
  h.mono fun b hb => ⟨⟨s, hs, hsh, hb⟩, ((hL.snap s hs).2 b hb).1⟩
/-- where a call's results may lie: in new memory, or in F -/
def Nw (w w' : World) (F : Nat → Prop) (b : Nat) : Prop := b < w'.heap.size ∧ (w.heap.size ≤ b ∨ F b)
def okS (lo : Nat) (F : Nat → Prop) (S : List Snap) : Prop := ∀ s ∈ S, s.sh = true → ∀ b, s.av b → lo ≤ b ∨ F b
theorem okS.nil (lo : Nat) (F : Nat → Prop) (w : World) (bs : List (Option Nat)) : okS lo F [St w bs] := fun s hs h => by simp at hs; subst hs; cases h
theorem okS.cons {lo : Nat} {F : Nat → Prop} {S : List Snap} (h : okS lo F S) (w : World) (bs : List (Option Nat)) : okS lo F (Sm lo F w bs :: S) := fun s hs h' b hb => by
  rcases List.mem_cons.1 hs with rfl | hs
  · exact hb.2.2
  · exact h s hs h' b hb

theorem Loc.back {w0 w w' : World} {M : List Ent} {S : List Snap} (hL : Loc w0 w M S) (hb : Below w.heap.size w w') (F : Nat → Prop) : Loc w0 w' M (Sm w0.heap.size F w' (M.map Ent.blk) :: S) := (hL.same (Chg.of_below hb none)).mark _
theorem Loc.res {w0 w w' : World} {M : List Ent} {S : List Snap} (hL : Loc w0 w M S) {F : Nat → Prop} (hS : okS w0.heap.size F S) {b : Nat} (h : Nw w w' (B.Fs S) b) : (Sm w0.heap.size F w' (M.map Ent.blk)).av b := by
  refine ⟨h.1, fun o ho => ?_, ?_⟩
  · obtain ⟨e, he, rfl⟩ := List.mem_map.1 ho
    rcases h.2 with h2 | h2
    · intro e1; have := Ent.lt (hL.ok e he) e1; omega
    · exact (hL.Fs h2).2 e.blk ho
  · rcases h.2 with h2 | ⟨s, hs, hsh, hb⟩
    · exact .inl (Nat.le_trans hL.env.size h2)
    · exact hS s hs hsh b hb
/-- A call's slice, told behind the call. -/
theorem Loc.resR {α : Type} {d : Kd α} {A : Option Addr} {xs : List α} {w0 w w' : World} {M : List Ent} {S : List Snap} (hL : Loc w0 w M S) {F : Nat → Prop} (hS : okS w0.heap.size F S) (h : RowOf d w' (Nw w w' (B.Fs S)) A xs) :
    RowOf d (Sm w0.heap.size F w' (M.map Ent.blk)).w (Sm w0.heap.size F w' (M.map Ent.blk)).av A xs := h.mono fun b hb => ⟨hL.res hS hb, rfl⟩
/-- What is handed back, told behind the call. -/
theorem Loc.out {w0 w : World} {M : List Ent} {S : List Snap} {s : Snap} {F : Nat → Prop} (hL : Loc w0 w M S) (hs : s ∈ S) (hsh : s.sh = true) (hS : okS w0.heap.size F S) {b : Nat} (h : s.av b) : Nw w0 w F b ∧ w.heap[b]? = s.w.heap[b]? :=
  ⟨⟨Nat.lt_of_lt_of_le h.1 (hL.snap s hs).1, hS s hs hsh b h⟩, ((hL.snap s hs).2 b h).1⟩
theorem Loc.outR {α : Type} {d : Kd α} {A : Option Addr} {xs : List α} {w0 w : World} {M : List Ent} {S : List Snap} {s : Snap} {F : Nat → Prop} (hL : Loc w0 w M S) (hs : s ∈ S) (hsh : s.sh = true) (hS : okS w0.heap.size F S) (h : RowOf d s.w s.av A xs) : RowOf d w (Nw w0 w F) A xs :=
  h.mono fun b hb => hL.out hs hsh hS hb
/-- What came in, as the first snapshot tells it. -/
theorem row_in {α : Type} {d : Kd α} {A : Option Addr} {xs : List α} {w : World} {F : Nat → Prop} (hF : ∀ b, F b → b < w.heap.size) (h : RowOf d w F A xs) : RowOf d (Sm w.heap.size F w []).w (Sm w.heap.size F w []).av A xs :=
  h.mono fun b hb => ⟨⟨hF b hb, (fun _ h => by cases h), .inr hb⟩, rfl⟩
/-- A new row's block lies in new memory. -/
theorem Loc.new {w0 w : World} {M : List Ent} {S : List Snap} (hL : Loc w0 w M S) (hs : St w0 [] ∈ S) {e : Ent} (he : e ∈ M) {b : Nat} (hb : e.blk = some b) : w0.heap.size ≤ b ∧ b < w.heap.size := by
  refine ⟨?_, Ent.lt (hL.ok e he) hb⟩
  rcases Nat.lt_or_ge b w0.heap.size with h | h
  · exact absurd hb (((hL.snap _ hs).2 b ⟨h, (fun _ h => by cases h), trivial⟩).2 e he)
  · exact h

/-- A row of the call's own, told as one that is read. -/
theorem own_row {α : Type} {sz : Nat} {enc : α → List Value} {hl : ∀ x, (enc x).length = sz} {h1 : ∀ x, ∀ u ∈ enc x, u.oneCell' = true} {w : World} {A : Option Addr} {e c : Nat} {xs : List α} {F : Nat → Prop} (h : w.ownsRow 0 e sz (.slice A xs.length c) xs.length (xs.flatMap enc))
    (hF : ∀ b, (Value.slice A xs.length c).ownBlock = some b → F b) : RowOf (Kd.flat sz enc hl h1) w F A xs := by
  refine ⟨fun hp => ?_, fun j x hj => ⟨enc x, rfl, fun i u hu => ?_⟩⟩
  · obtain ⟨gb, rfl⟩ := own_addr h hp
    exact ⟨rfl, hF gb rfl⟩
  · refine own_cell h ?_
    show (xs.flatMap enc)[j * sz + i]? = some u
    have hj' := (List.getElem?_eq_some_iff.1 hj).1
    rw [← List.getElem?_drop, fm_drop hl, List.drop_eq_getElem_cons hj', List.flatMap_cons]
    have : xs[j] = x := by rw [List.getElem?_eq_getElem hj'] at hj; injection hj
    rw [this, List.getElem?_append_left (List.getElem?_eq_some_iff.1 hu).1]
    exact hu

section ops
variable {C : Cx} {ops : Array Oper} {k : List Item} {l l' : Fm} {M M' : List Ent} {S S' : List Snap} {ty : TypeId} {pos : String} {after : Ed} {g : Gu} {d : Nat} {Nx : Fm → List Ent → List Snap → Prop}
/-! ### calls -/
def evA (l : Fm) : List Operand → Option (List Value)
  | [] => some []
  | x :: r => match evl l x, evA l r with
    | some v, some q => some (v :: q)
    | _, _ => none
theorem evA_spec {l : Fm} {n : Nat} {a : Act} (hF : Fr n l a) : ∀ (xs : List Operand) (vs : List Value), evA l xs = some vs → xs.map a.eval = vs
  | [], vs, h => by simp [evA] at h; subst h; rfl
  | x :: r, vs, h => by
    simp only [evA] at h
    split at h
    · rename_i v q h1 h2
      injection h with h
      subst h
      simp [hF.ev h1, evA_spec hF r q h2]
    · cases h
theorem run_call {P : Program} {w : World} {a : Act} {fn' : Func} {gf : Nat} {xs : Array Operand} {ts : Array TypeId} {dst : Option Nat} {vs : List Value} (hx : xs.toList.map a.eval = vs) (hf : P.funcs[gf]? = some fn') (hn : (fn'.name == "runtime.NumGoroutine") = false) (hb : fn'.body.isNone = false) :
    (execOp a.eval ⟨dst, .call { callee := .value (.func gf), args := xs, argTypes := ts }, ty, pos, after, g⟩).run P w = .ok (.enter gf vs.toArray) w := by
  have hx' : xs.map a.eval = vs.toArray := by
    apply Array.ext'
    rw [Array.toList_map, hx]
  have hn' : ¬ fn'.name = "runtime.NumGoroutine" := beq_eq_false_iff_ne.1 hn
  have hb' : ¬ fn'.body = none := by intro e; rw [e] at hb; cases hb
  simp [hn', hb', execOp, resolve, Act.eval, Deferred.ofValue, invoke, callFunc, hf, hx', Sem.run_pure, Sem.run_bind]
theorem s_call {fn' : Func} {gf : Nat} {xs : Array Operand} {ts : Array TypeId} (vs : List Value) (hx : evA l xs.toList = some vs) (hf : C.P.funcs[gf]? = some fn') (hn : (fn'.name == "runtime.NumGoroutine") = false) (hb : fn'.body.isNone = false) (hd : Nat.ble (d + 1) C.n = true)
    (h : ∀ w, Loc C.w0 w M S → Calls C.P gf vs.toArray w (fun e w' => ∃ v M' S', e = .returned v ∧ Loc C.w0 w' M' S' ∧ Nx ((d, v) :: l) M' S')) : Stp C ⟨some d, .call { callee := .value (.func gf), args := xs, argTypes := ts }, ty, pos, after, g⟩ l M S Nx := by
  intro a w hF hL Q
  unfold Oper.wp
  rw [run_call (evA_spec hF _ _ hx) hf hn hb]
  refine Calls.mono (h w hL) ?_
  rintro e w' ⟨v, M', S', rfl, h1, h2⟩
  exact ⟨_, _, _, hF.put (Nat.le_of_ble_eq_true hd) v, h1, h2⟩
theorem s_callN {fn' : Func} {gf : Nat} {xs : Array Operand} {ts : Array TypeId} (vs : List Value) (hx : evA l xs.toList = some vs) (hf : C.P.funcs[gf]? = some fn') (hn : (fn'.name == "runtime.NumGoroutine") = false) (hb : fn'.body.isNone = false)
    (h : ∀ w, Loc C.w0 w M S → Calls C.P gf vs.toArray w (fun e w' => ∃ v M' S', e = .returned v ∧ Loc C.w0 w' M' S' ∧ Nx l M' S')) : Stp C ⟨none, .call { callee := .value (.func gf), args := xs, argTypes := ts }, ty, pos, after, g⟩ l M S Nx := by
  intro a w hF hL Q
  unfold Oper.wp
  rw [run_call (evA_spec hF _ _ hx) hf hn hb]
  refine Calls.mono (h w hL) ?_
  rintro e w' ⟨v, M', S', rfl, h1, h2⟩
  exact ⟨_, _, _, hF, h1, h2⟩

/-! ### append -/
/-- append(s, x...): x a slice that is read, of flat elements -/
theorem s_appR {α : Type} {T e sz bytes : Nat} {enc : α → List Value} {hl : ∀ x, (enc x).length = sz} {h1 : ∀ x, ∀ u ∈ enc x, u.oneCell' = true} {x y : Operand} {A B : Option Addr} {n c c2 n' : Nat} {cells cells' : List Value} {ys : List α} (s : Snap) (j : Nat) (hT : apK C.P T = some (e, sz, bytes))
    (hx : evl l x = some (.slice A n c)) (hy : evl l y = some (.slice B ys.length c2)) (hM : M[j]? = some (.own (.slice A n c) e sz n cells)) (hR : RowOf (Kd.flat sz enc hl h1) s.w s.av B ys) (hs : s ∈ S) (hsh : s.sh = true) (hn : n + ys.length = n') (hc : cells ++ ys.flatMap enc = cells') (hb : n' * bytes ≤ 140737488355328) (hn' : n' ≤ 140737488355328)
    (hd : Nat.ble (d + 1) C.n = true)
    (h : ∀ A' c', (0 < n' → A'.isSome = true) → n' ≤ c' → c' ≤ maxLen → Nx ((d, .slice A' n' c') :: l) (M.set j (.own (.slice A' n' c') e sz n' cells')) S) :
    Stp C ⟨some d, .call { callee := .builtin .append, args := #[x, y], argTypes := #[T, T] }, ty, pos, after, g⟩ l M S Nx :=
  s_run hd fun a w hF hL => by
    subst hn
    subst hc
    obtain ⟨t1, inf, z, t2, t3, t4, t5, t6, t7⟩ := apK_spec hT
    have hown : w.ownsRow 0 e sz (.slice A n c) n cells := hL.ok _ (List.mem_iff_getElem?.2 ⟨j, hM⟩)
    have hrow := hL.row hs hsh hR
    rcases Nat.eq_zero_or_pos ys.length with h0 | h0
    · have hys : ys = [] := List.eq_nil_of_length_eq_zero h0
      subst hys
      obtain ⟨A', c', hv, f1, f2, f3⟩ := own_form hown
      injection hv with hv1 _ hv2
      subst hv1; subst hv2
      have hMM : M.set j (.own (.slice A n c) e sz n cells) = M := by
        apply List.ext_getElem?
        intro q
        rw [List.getElem?_set]
        split
        · rename_i e1; subst e1; rw [hM]; simp [(List.getElem?_eq_some_iff.1 hM).1]
        · rfl
      have hh := h A c (by simpa using f3) (by simpa using f1) f2
      simp only [List.length_nil, Nat.add_zero, List.flatMap_nil, List.append_nil] at hh
      rw [hMM] at hh
      refine ⟨.slice A n c, w, M, S, ?_, hL, hh⟩
      have hrun : (Builtin.append_ #[T, T] ty #[.slice A n c, .slice B 0 c2]).run C.P w = .ok (.slice A n c) w := by
        rcases hown.2 with ⟨hv, hn0⟩ | ⟨gb, cap, cur, hv, _, hg, hnc, _⟩
        · injection hv with e1 e2 e3
          subst e1; subst e2; subst e3
          cases B <;> simp [Builtin.append_, run_underlying t1, sizeOf, typeInfo, t2, Builtin.lenOf, Builtin.firstCells, loadCells, loadCellsFrom]
        · injection hv with e1 e2 e3
          subst e1; subst e3
          cases B <;> simp [Builtin.append_, run_underlying t1, sizeOf, typeInfo, t2, Builtin.lenOf, Builtin.firstCells, hnc, storeCells, loadCells, loadCellsFrom]
      simp [execOp, resolve, invoke, builtin, hF.ev hx, hF.ev hy, hrun, Sem.run_pure, Sem.run_bind]
    · obtain ⟨hA, _⟩ := hrow.1 h0
      obtain ⟨ad, rfl⟩ := Option.isSome_iff_exists.1 hA
      obtain ⟨v', w', hrun, h2, h3, _, h5⟩ := run_append_own_at (P := C.P) w 0 T ty e inf z sz bytes t1 t2 t3 t4 t5 t6 t7 (.slice A n c) n cells hown ad ys.length c2 (ys.flatMap enc) (fm_len hl ys) (fun q u hu => by
        have hsz := t7
        have hq : q < ys.length * sz := by rw [← fm_len hl ys]; exact (List.getElem?_eq_some_iff.1 hu).1
        have hdv : q / sz < ys.length := by rw [Nat.div_lt_iff_lt_mul hsz]; exact hq
        obtain ⟨cs, hcs0, hcs⟩ := hrow.2 (q / sz) ys[q / sz] (List.getElem?_eq_getElem hdv)
        have hcs0 : cs = enc ys[q / sz] := hcs0
        subst hcs0
        have e1 : q = q / sz * sz + q % sz := by have := Nat.div_add_mod q sz; rw [Nat.mul_comm] at this; omega
        have h9 := hcs (q % sz) u (by
          rw [e1, ← List.getElem?_drop, fm_drop hl, List.drop_eq_getElem_cons hdv, List.flatMap_cons, List.getElem?_append_left (by rw [hl]; exact Nat.mod_lt _ hsz)] at hu
          exact hu)
        have e2 : celA w (some ad) (q / sz * sz + q % sz) = w.cell? (ad.add q) := by rw [← e1]; rfl
        rw [← e2]
        exact h9) (fun u hu => List.all_eq_true.1 (fm_all h1 ys) u hu) (by unfold maxLen; omega) hb (Nat.zero_le _)
      obtain ⟨A', c', rfl, f1, f2, f3⟩ := own_form h2
      refine ⟨_, w', _, _, ?_, upd_app hL hM h2 h3 h5, h A' c' f3 f1 f2⟩
      simp [execOp, resolve, invoke, builtin, hF.ev hx, hF.ev hy, hrun, Sem.run_pure, Sem.run_bind]

/-! ### cuts -/
theorem RowOf.take {α : Type} {d : Kd α} {w : World} {F : Nat → Prop} {A : Option Addr} {xs : List α} (h : RowOf d w F A xs) (m : Nat) : RowOf d w F A (xs.take m) := by
  refine ⟨fun hp => h.1 (by rw [List.length_take] at hp; omega), fun j x hj => h.2 j x ?_⟩
  rw [List.getElem?_take] at hj
  split at hj
  · exact hj
  · cases hj
theorem RowOf.drop {α : Type} {d : Kd α} {w : World} {F : Nat → Prop} {A : Option Addr} {xs : List α} (h : RowOf d w F A xs) (m c : Nat) (hc : xs.length ≤ c) : RowOf d w F (if c = m then A else A.map (·.add (m * d.sz))) (xs.drop m) := by
  have key : 0 < (xs.drop m).length → c ≠ m ∧ ∃ ad, A = some ad := fun hp => by
    rw [List.length_drop] at hp
    exact ⟨by omega, Option.isSome_iff_exists.1 (h.1 (by omega)).1⟩
  refine ⟨fun hp => ?_, fun j x hj => ?_⟩
  · obtain ⟨h1, ad, rfl⟩ := key hp
    rw [List.length_drop] at hp
    rw [if_neg h1]
    refine ⟨rfl, ?_⟩
    have h2 := (h.1 (by omega)).2
    simpa [blkA, add_block] using h2
  · obtain ⟨h1, ad, rfl⟩ := key (Nat.lt_of_le_of_lt (Nat.zero_le j) (List.getElem?_eq_some_iff.1 hj).1)
    rw [List.getElem?_drop] at hj
    obtain ⟨cs, h3, h4⟩ := h.2 _ x hj
    refine ⟨cs, h3, fun i u hu => ?_⟩
    rw [if_neg h1]
    have h5 := h4 i u hu
    simp only [celA, Option.map_some, Option.getD_some, add_add'] at h5 ⊢
    rw [show m * d.sz + (j * d.sz + i) = (m + j) * d.sz + i by rw [Nat.add_mul]; omega]
    exact h5
theorem run_cut {P : Program} {w : World} {T e sz : Nat} {A : Option Addr} {n c : Nat} (hT : slE P T = some (e, sz)) (lo hi : Option Int) (kl kh : IntKind) (h1 : ∀ i, lo = some i → 0 ≤ i) (h2 : ∀ i, hi = some i → 0 ≤ i ∧ i ≤ (c : Int)) (h3 : (lo.map Int.toNat).getD 0 ≤ (hi.map Int.toNat).getD n) (hnc : n ≤ c) :
    (Instr.sliceAt T (.slice A n c) (lo.map (.int kl)) (hi.map (.int kh)) none).run P w = .ok (.slice (if c = (lo.map Int.toNat).getD 0 then A else A.map (·.add ((lo.map Int.toNat).getD 0 * sz))) ((hi.map Int.toNat).getD n - (lo.map Int.toNat).getD 0) (c - (lo.map Int.toNat).getD 0)) w := by
  obtain ⟨t1, inf, t2, t3⟩ := slE_spec hT
  rcases lo with _ | lo <;> rcases hi with _ | hi <;> simp only [Option.map_none, Option.map_some, Option.getD_none, Option.getD_some] at h3 ⊢
  · simp [Instr.sliceAt, run_underlying t1, Instr.slice, Instr.sliceBounds, sizeOf, typeInfo, t2, t3]
  · have := h2 hi rfl
    simp [Instr.sliceAt, run_underlying t1, Instr.slice, Instr.sliceBounds, Instr.sliceBound, asIntOf, this.1, this.2, sizeOf, typeInfo, t2, t3]
  · have := h1 lo rfl
    have h4 : lo ≤ (n : Int) := by omega
    simp [Instr.sliceAt, run_underlying t1, Instr.slice, Instr.sliceBounds, Instr.sliceBound, asIntOf, this, h4, sizeOf, typeInfo, t2, t3]
  · have := h1 lo rfl
    have h5 := h2 hi rfl
    have h4 : lo ≤ hi := by omega
    simp [Instr.sliceAt, run_underlying t1, Instr.slice, Instr.sliceBounds, Instr.sliceBound, asIntOf, this, h4, h5.1, h5.2, sizeOf, typeInfo, t2, t3]
    exact fun h => absurd h (by omega)
end ops
end Go.Proofs.Ytkaejoffnkhbpaa.B
