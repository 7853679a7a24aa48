/- Lemmas of my own on the machine: cuts, makes, strings, regions in any order, results in memory. No condition. -/
import Derived.Test.YtkaejoffnkhbpaaB4
set_option linter.unusedVariables false
set_option linter.unusedSimpArgs false
namespace Go.Proofs.Ytkaejoffnkhbpaa.B
open Go.RowKit
section ops
variable {C : Cx} {ops : Array Oper} {k : List Item} {l l' : Fm} {M M' : List Ent} {S S' : List Snap} {ty : TypeId} {pos : String} {after : Ed} {g : Gu} {d : Nat} {Nx : Fm → List Ent → List Snap → Prop}
/-! ### cuts -/
theorem v_cutHi {T e sz : Nat} {x y : Operand} {A : Option Addr} {n c : Nat} {kk : IntKind} {i : Int} (hT : slE C.P T = some (e, sz)) (hx : evl l x = some (.slice A n c)) (hy : evl l y = some (.int kk i)) (hi : 0 ≤ i ∧ i ≤ (c : Int)) (hnc : n ≤ c) {n' : Nat} (hn' : i.toNat = n') : Val C ⟨some d, .slice T x none (some y) none, ty, pos, after, g⟩ l M S (.slice A n' c) :=
  fun a w hF _ => by
    subst hn'
    have h := run_cut (P := C.P) (w := w) (A := A) (n := n) (c := c) hT none (some i) .i64 kk (fun i h => by cases h) (fun i h => by cases h; exact hi) (by simp) hnc
    simp only [Option.map_none, Option.map_some, Option.getD_none, Option.getD_some, Nat.sub_zero, Nat.zero_mul] at h
    have hA : (if c = 0 then A else A.map fun x => x.add 0) = A := by
      split
      · rfl
      · cases A <;> simp [Addr.add]
    rw [hA] at h
    simp [execOp, hF.ev hx, hF.ev hy, h, Sem.run_pure, Sem.run_bind]
theorem v_cutAll {T e sz : Nat} {x : Operand} {A : Option Addr} {n c : Nat} (hT : slE C.P T = some (e, sz)) (hx : evl l x = some (.slice A n c)) (hnc : n ≤ c) : Val C ⟨some d, .slice T x none none none, ty, pos, after, g⟩ l M S (.slice A n c) :=
  fun a w hF _ => by
    have h := run_cut (P := C.P) (w := w) (A := A) (n := n) (c := c) hT none none .i64 .i64 (fun i h => by cases h) (fun i h => by cases h) (by simp) hnc
    simp only [Option.map_none, Option.getD_none, Nat.sub_zero, Nat.zero_mul] at h
    have hA : (if c = 0 then A else A.map fun x => x.add 0) = A := by
      split
      · rfl
      · cases A <;> simp [Addr.add]
    rw [hA] at h
    simp [execOp, hF.ev hx, h, Sem.run_pure, Sem.run_bind]
/-- s[lo:] of a slice that is read -/
theorem cut_lo {α : Type} {dk : Kd α} {T e : Nat} {x y : Operand} {A : Option Addr} {xs : List α} {c : Nat} {kk : IntKind} {i : Int} {s : Snap} (hT : slE C.P T = some (e, dk.sz)) (hx : evl l x = some (.slice A xs.length c)) (hy : evl l y = some (.int kk i)) (hi : 0 ≤ i ∧ i ≤ (xs.length : Int)) (hnc : xs.length ≤ c) (hm : c ≤ maxLen) (hR : RowOf dk s.w s.av A xs) :
    ∃ A' c', RowOf dk s.w s.av A' (xs.drop i.toNat) ∧ (xs.drop i.toNat).length ≤ c' ∧ c' ≤ maxLen ∧ ∀ d ty pos after g M S, Val C ⟨some d, .slice T x (some y) none none, ty, pos, after, g⟩ l M S (.slice A' (xs.drop i.toNat).length c') := by
  refine ⟨_, _, hR.drop i.toNat c hnc, (by rw [List.length_drop]; omega : (xs.drop i.toNat).length ≤ c - i.toNat), by omega, fun d ty pos after g M S a w hF _ => ?_⟩
  have h := run_cut (P := C.P) (w := w) (A := A) (n := xs.length) (c := c) hT (some i) none kk .i64 (fun i h => by cases h; exact hi.1) (fun i h => by cases h) (by simp; omega) hnc
  simp only [Option.map_none, Option.map_some, Option.getD_none, Option.getD_some] at h
  simp [execOp, hF.ev hx, hF.ev hy, h, Sem.run_pure, Sem.run_bind]
/-- s[lo:hi] of a slice that is read -/
theorem cut_lh {α : Type} {dk : Kd α} {T e : Nat} {x y z : Operand} {A : Option Addr} {xs : List α} {c : Nat} {kk k2 : IntKind} {i j : Int} {s : Snap} (hT : slE C.P T = some (e, dk.sz)) (hx : evl l x = some (.slice A xs.length c)) (hy : evl l y = some (.int kk i)) (hz : evl l z = some (.int k2 j)) (hi : 0 ≤ i ∧ i ≤ j) (hj : j ≤ (xs.length : Int)) (hnc : xs.length ≤ c) (hm : c ≤ maxLen)
    (hR : RowOf dk s.w s.av A xs) :
    ∃ A' c', RowOf dk s.w s.av A' ((xs.take j.toNat).drop i.toNat) ∧ ((xs.take j.toNat).drop i.toNat).length ≤ c' ∧ c' ≤ maxLen ∧ ∀ d ty pos after g M S, Val C ⟨some d, .slice T x (some y) (some z) none, ty, pos, after, g⟩ l M S (.slice A' ((xs.take j.toNat).drop i.toNat).length c') := by
  have hl : ((xs.take j.toNat).drop i.toNat).length = j.toNat - i.toNat := by rw [List.length_drop, List.length_take]; omega
  refine ⟨_, _, (hR.take j.toNat).drop i.toNat c (by rw [List.length_take]; omega), (by rw [hl]; omega : ((xs.take j.toNat).drop i.toNat).length ≤ c - i.toNat), by omega, fun d ty pos after g M S a w hF _ => ?_⟩
  have h := run_cut (P := C.P) (w := w) (A := A) (n := xs.length) (c := c) hT (some i) (some j) kk k2 (fun i h => by cases h; exact hi.1) (fun i h => by cases h; omega) (by simp; omega) hnc
  simp only [Option.map_some, Option.getD_some] at h
  simp [execOp, hF.ev hx, hF.ev hy, hF.ev hz, h, hl, Sem.run_pure, Sem.run_bind]
theorem v_cutS {T : Nat} {x : Operand} {lo hi : Option Operand} {s : ByteArray} (lv hv : Int) (hT : C.P.underlying T = some .string) (hx : evl l x = some (.string s)) (hlo : lo = none ∧ lv = 0 ∨ ∃ y kk, lo = some y ∧ evl l y = some (.int kk lv)) (hhi : hi = none ∧ hv = s.size ∨ ∃ y kk, hi = some y ∧ evl l y = some (.int kk hv)) (h1 : 0 ≤ lv ∧ lv ≤ hv)
    (h2 : hv ≤ (s.size : Int)) : Val C ⟨some d, .slice T x lo hi none, ty, pos, after, g⟩ l M S (.string (s.extract lv.toNat hv.toNat)) :=
  fun a w hF _ => by
    have h3 : 0 ≤ hv := by omega
    have h4 : 0 ≤ lv ∧ lv ≤ (s.size : Int) := by omega
    rcases hlo with ⟨rfl, rfl⟩ | ⟨y, kk, rfl, hy⟩ <;> rcases hhi with ⟨rfl, rfl⟩ | ⟨z, k2, rfl, hz⟩
    · simp [execOp, hF.ev hx, Instr.sliceAt, run_underlying hT, Instr.slice, Instr.sliceBounds, Sem.run_pure, Sem.run_bind]
    · simp [execOp, hF.ev hx, hF.ev hz, Instr.sliceAt, run_underlying hT, Instr.slice, Instr.sliceBounds, Instr.sliceBound, asIntOf, h2, h3, Sem.run_pure, Sem.run_bind]
    · simp [execOp, hF.ev hx, hF.ev hy, Instr.sliceAt, run_underlying hT, Instr.slice, Instr.sliceBounds, Instr.sliceBound, asIntOf, h1.1, h4.2, Sem.run_pure, Sem.run_bind]
    · have h5 : ((hv.toNat : Nat) : Int) = hv := by omega
      simp only [execOp, hF.ev hx, hF.ev hy, hF.ev hz, Option.map_some, Option.map_none, Instr.sliceAt, run_underlying hT, Instr.slice, Instr.sliceBounds, Instr.sliceBound, asIntOf, Sem.run_pure, Sem.run_bind, Result.andThen_ok, h2, h3, and_self, if_true, h5, h1.1, h1.2, Option.isSome_none, Bool.false_eq_true, if_false]
/-- A row of the call's own, made shorter. -/
theorem own_short {w : World} {A : Option Addr} {e sz n c m : Nat} {cells : List Value} (h : w.ownsRow 0 e sz (.slice A n c) n cells) (hm : m ≤ n) : w.ownsRow 0 e sz (.slice A m c) m (cells.take (m * sz)) := by
  have hle : m * sz ≤ n * sz := Nat.mul_le_mul_right _ hm
  refine ⟨by rw [List.length_take, h.1, Nat.min_eq_left hle], ?_⟩
  rcases h.2 with ⟨hv, h0⟩ | ⟨gb, cap, cur, hv, h1, h2, h3, h4, h5, h6⟩
  · injection hv with e1 e2 e3
    subst e1; subst e3
    exact .inl ⟨by have : m = 0 := by omega
                   rw [this], by omega⟩
  · injection hv with e1 e2 e3
    subst e1; subst e3
    refine .inr ⟨gb, c, cur, rfl, h1, h2, by omega, h4, h5, ?_⟩
    rw [← h6, List.take_take, Nat.min_eq_left hle]
theorem w_short {i j : Nat} {A : Option Addr} {e sz n c m : Nat} {cells cells' : List Value} (hM : M[j]? = some (.own (.slice A n c) e sz n cells)) (hm : m ≤ n) (hc : cells.take (m * sz) = cells') (h : WL C ops i k l (M.set j (.own (.slice A m c) e sz m cells')) S) : WL C ops i k l M S := fun a w hF hL => by
  subst hc
  exact h a w hF (hL.upd (e' := .own (.slice A m c) e sz m (cells.take (m * sz))) hM ⟨Env.refl w, fun _ _ _ => rfl⟩ (own_short (hL.ok _ (List.mem_iff_getElem?.2 ⟨j, hM⟩)) hm) (.inl (by simp only [Ent.blk]; cases A <;> rfl)))
/-! ### make -/
def mkK (P : Program) (T : Nat) : Option (Nat × List Value × Nat) :=
  match P.underlying T with
  | some (.slice e) => match P.info? e with
    | some ie => match ie.zero with
      | some z => if z.cells.size = ie.size then some (e, z.cells.toList, ie.bytes) else none
      | none => none
    | none => none
  | _ => none
theorem made_flat {α : Type} {enc : α → List Value} {z : α} {zs : List Value} (hz : enc z = zs) (h0 : 0 < zs.length) : ∀ n : Nat, (madeCells zs.toArray (n * zs.length)).toList = (List.replicate n z).flatMap enc := by
  have hl : ∀ n, ((List.replicate n z).flatMap enc).length = n * zs.length := by
    intro n
    induction n with
    | zero => simp
    | succ n ih => rw [List.replicate_succ, List.flatMap_cons, List.length_append, ih, hz, Nat.add_mul]; omega
  have hg : ∀ n q, q < n * zs.length → ((List.replicate n z).flatMap enc)[q]? = zs[q % zs.length]? := by
    intro n
    induction n with
    | zero => intro q hq; omega
    | succ n ih =>
      intro q hq
      rw [List.replicate_succ, List.flatMap_cons, hz]
      by_cases h : q < zs.length
      · rw [List.getElem?_append_left h, Nat.mod_eq_of_lt h]
      · rw [List.getElem?_append_right (by omega), ih (q - zs.length) (by rw [Nat.add_mul] at hq; omega), Nat.mod_eq_sub_mod (by omega : zs.length ≤ q)]
  intro n
  apply List.ext_getElem?
  intro q
  by_cases hq : q < n * zs.length
  · rw [hg n q hq]
    have hm : q % zs.length < zs.length := Nat.mod_lt _ h0
    simp [madeCells, hq, hm]
  · rw [List.getElem?_eq_none (by rw [Array.length_toList, size_madeCells]; omega), List.getElem?_eq_none (by rw [hl]; omega)]
theorem s_make {α : Type} {enc : α → List Value} {z : α} {T e bytes : Nat} {zs : List Value} {x y : Operand} {kk : IntKind} {i : Int} (hT : mkK C.P T = some (e, zs, bytes)) (hz : enc z = zs) (h0 : 0 < zs.length) (hx : evl l x = some (.int kk i)) (hy : evl l y = some (.int kk i)) (hi : 0 ≤ i) (hb : i * bytes ≤ 281474976710656) (hb0 : 0 < bytes) (hd : Nat.ble (d + 1) C.n = true)
    (h : ∀ A, (0 < i.toNat → A.isSome = true) → i.toNat ≤ maxLen → Nx ((d, .slice A i.toNat i.toNat) :: l) (.own (.slice A i.toNat i.toNat) e zs.length i.toNat ((List.replicate i.toNat z).flatMap enc) :: M) S) :
    Stp C ⟨some d, .makeSlice T x y, ty, pos, after, g⟩ l M S Nx :=
  s_run hd fun a w hF hL => by
    unfold mkK at hT
    split at hT
    · rename_i e' hu
      split at hT
      · rename_i ie hie
        split at hT
        · rename_i z' hz'
          split at hT
          · rename_i hsz
            simp only [Option.some.injEq, Prod.mk.injEq] at hT
            obtain ⟨rfl, rfl, rfl⟩ := hT
            obtain ⟨n, rfl⟩ := Int.eq_ofNat_of_zero_le hi
            have hb' : ie.bytes * n ≤ 281474976710656 := by
              have : ((n * ie.bytes : Nat) : Int) ≤ 281474976710656 := by rw [Int.natCast_mul]; exact hb
              rw [Nat.mul_comm]; omega
            have hn : n ≤ 281474976710656 := Nat.le_trans (Nat.le_mul_of_pos_left _ hb0) hb'
            have hsl : z'.cells.toList.length = ie.size := by simpa using hsz
            obtain ⟨w', h1, h2, h3⟩ := run_make_full (P := C.P) w 0 T e' ie z' ie.size hu hie hz' rfl kk kk n hb' (by unfold maxLen; omega) (Nat.zero_le _)
            rw [show (madeCells z'.cells (n * ie.size)).toList = (List.replicate n z).flatMap enc from by
              have := made_flat hz h0 n
              rw [hsl] at this
              simpa using this] at h2
            simp only [Int.toNat_natCast] at h ⊢
            rw [hsl] at h
            refine ⟨_, w', _, _, ?_, hL.add (e := .own (.slice (some ⟨w.heap.size, 0, none⟩) n n) e' ie.size n ((List.replicate n z).flatMap enc)) (Chg.of_grown h3) h2 (fun b hb => by simp [Ent.blk, Value.ownBlock] at hb; omega), h _ (fun _ => rfl) (by unfold maxLen; omega)⟩
            simp [execOp, hF.ev hx, hF.ev hy, h1, Sem.run_pure, Sem.run_bind]
          · cases hT
        · cases hT
      · cases hT
    · cases hT

/-! ### a region in any order -/
def Held (C : Cx) (Mi : List Ent) (Si : List Snap) (w : World) : Prop := Loc C.w0 w Mi Si
def WA (C : Cx) (ops : Array Oper) (Mi : List Ent) (Si : List Snap) (fuel : Nat) (lst : Array Bool) (k : List Item) (l : Fm) (M : List Ent) (S : List Snap) : Prop :=
  ∀ a w, Fr C.n l a → Loc C.w0 w M S → Held C Mi Si w → wpAnyH C.P .any ops (Qk C k) (Held C Mi Si) fuel lst a w
theorem Held.mem {Mi : List Ent} {Si : List Snap} {w w' : World} (h0 : Held C Mi Si w) (h : Loc C.w0 w' M S) (hM : ∀ e ∈ Mi, e ∈ M) (hS : ∀ s ∈ Si, s ∈ S) : Held C Mi Si w' :=
  ⟨h.env, fun e he => h.ok e (hM e he), h0.apart, fun s hs => ⟨(h.snap s (hS s hs)).1, fun b hb => ⟨((h.snap s (hS s hs)).2 b hb).1, fun e he => ((h.snap s (hS s hs)).2 b hb).2 e (hM e he)⟩⟩⟩
theorem g_draw {c : Code} (Mi : List Ent) (Si : List Snap) (n : Nat) (hc : Code.tag c = 1) (hd : Code.draw c = true) (hm : C.P.follows .mixedOrders = true) (hn : (Code.ops c).size = n) (hM : Mi.Sublist M) (hS : ∀ s ∈ Si, s ∈ S) (h : WA C (Code.ops c) Mi Si n (Array.replicate n false) k l M S) : G C (.code c :: k) l M S := by
  cases c <;> simp [Code.tag] at hc
  rename_i id ops d
  simp [Code.draw] at hd
  subst hd
  subst hn
  intro a w h1 h2
  have h2' : Loc C.w0 { w with drawn := w.drawn + 1 } M S := h2.same ⟨⟨rfl, rfl, rfl, Nat.le_refl _⟩, fun _ _ _ => rfl⟩
  have hw : (Code.region id ops true).wp C.P (Qk C k) a w := wp_region_held hm (h a _ h1 h2' (h2'.drop hM hS))
  intro cs
  obtain ⟨e, a', w', ⟨rfl, hD⟩, harr⟩ := hw C.b k cs
  obtain ⟨e2, w2, fr, r1, r2, r3⟩ := hD cs
  exact ⟨e2, w2, fr, r1, r2.of_steps harr, r3⟩
section any
variable {Mi : List Ent} {Si : List Snap} {fuel : Nat} {lst lst' : Array Bool}
theorem Qk_panic {C : Cx} {k : List Item} (dst : Option Nat) (v : Value) : ∀ c a w, Qk C k (.panic c) (a.put dst v) w → Qk C k (.panic c) a w := fun c a w h => by cases h.1
theorem wa_v (i : Nat) {op : Op} {v : Value} (ho : ops[i]? = some ⟨some d, op, ty, pos, after, g⟩) (hv : Val C ⟨some d, op, ty, pos, after, g⟩ l Mi Si v) (hg : Gd ops l g) (hd : Nat.ble (d + 1) C.n = true) (hs : Region.noSelect ops = true) (hf : Region.free .any ops lst i = true) (hr : (Region.ready .any ops lst).contains i = true)
    (hl : lst.setIfInBounds i true = lst') (h : WA C ops Mi Si fuel lst' k ((d, v) :: l) M S) : WA C ops Mi Si (fuel + 1) lst k l M S := fun a w hF hL hH => by
  subst hl
  exact wpAnyH_take ho hs hf hr (Qk_panic _ _) (.inl ⟨wanted_of hF hg, fun w' hw' => hv a w' hF hw'⟩) hH (h _ w (hF.put (Nat.le_of_ble_eq_true hd) v) hL hH)
theorem wa_skip (i : Nat) {op : Op} {j t : Nat} {b b' : Bool} (ho : ops[i]? = some ⟨some d, op, ty, pos, after, some (j, b)⟩) (h1 : (ops[j]?).bind (·.dst) = some t) (h2 : look l t = some (.bool b')) (hb : b' = !b) (hd : look l d = none) (hs : Region.noSelect ops = true) (hf : Region.free .any ops lst i = true)
    (hr : (Region.ready .any ops lst).contains i = true) (hl : lst.setIfInBounds i true = lst') (h : WA C ops Mi Si fuel lst' k l M S) : WA C ops Mi Si (fuel + 1) lst k l M S := fun a w hF hL hH => by
  subst hl
  have hw : Region.wanted (⟨some d, op, ty, pos, after, some (j, b)⟩ : Oper) (yielded ops a.tmps) = false := by
    simp only [Region.wanted, yielded_of hF h1 h2, hb]
    cases b <;> simp
  refine wpAnyH_take ho hs hf hr (Qk_panic _ _) (.inr ⟨hw, rfl⟩) hH (h _ w ⟨hF.1, by simp [Act.put, hF.2.1], fun t' v ht => ?_⟩ hL hH)
  have e : ¬ d = t' := fun e => by subst e; rw [hd] at ht; cases ht
  have := hF.2.2 t' v ht
  simpa [Act.put, Array.getD_eq_getD_getElem?, Array.getElem?_setIfInBounds, e] using this
/-- what goes on behind an operation that is carried out -/
def NxA (C : Cx) (ops : Array Oper) (Mi : List Ent) (Si : List Snap) (fuel : Nat) (lst : Array Bool) (k : List Item) (l : Fm) (M : List Ent) (S : List Snap) : Prop := (∀ e ∈ Mi, e ∈ M) ∧ (∀ s ∈ Si, s ∈ S) ∧ WA C ops Mi Si fuel lst k l M S
theorem wa_op (i : Nat) {o : Oper} (ho : ops[i]? = some o) (hs : Stp C o l M S (NxA C ops Mi Si fuel lst' k)) (hg : Gd ops l o.guard) {a : Act} {w : World} (hF : Fr C.n l a) (hL : Loc C.w0 w M S) (hH : Held C Mi Si w) :
    wpOp C.P ops (Qk C k) i (fun a' w' => Held C Mi Si w' ∧ wpAnyH C.P .any ops (Qk C k) (Held C Mi Si) fuel lst' a' w') a w := by
  unfold Go.wpOp
  simp only [ho, wanted_of hF hg, if_true]
  left
  exact Oper.wp_mono (fun a' w' h => by
    obtain ⟨l2, M2, S2, h1, h2, h3, h4, h5⟩ := h
    have hH' := hH.mem h2 h3 h4
    exact ⟨hH', h5 a' w' h1 h2 hH'⟩) (hs a w hF hL _)
theorem wa_s (i : Nat) {o : Oper} (ho : ops[i]? = some o) (hr : Region.ready .any ops lst = [i]) (hs : Stp C o l M S (NxA C ops Mi Si fuel (lst.setIfInBounds i true) k)) (hg : Gd ops l o.guard) : WA C ops Mi Si (fuel + 1) lst k l M S := fun a w hF hL hH =>
  wpAnyH_all hr (by simp) fun j hj => by
    simp at hj
    subst hj
    exact wa_op _ ho hs hg hF hL hH
theorem wa_2 (i j : Nat) {o p : Oper} (ho : ops[i]? = some o) (hp : ops[j]? = some p) (hr : Region.ready .any ops lst = [i, j]) (hs : Stp C o l M S (NxA C ops Mi Si fuel (lst.setIfInBounds i true) k)) (hs2 : Stp C p l M S (NxA C ops Mi Si fuel (lst.setIfInBounds j true) k)) (hg : Gd ops l o.guard) (hg2 : Gd ops l p.guard) :
    WA C ops Mi Si (fuel + 1) lst k l M S := fun a w hF hL hH =>
  wpAnyH_all hr (by simp) fun q hq => by
    simp at hq
    rcases hq with rfl | rfl
    · exact wa_op q ho hs hg hF hL hH
    · exact wa_op q hp hs2 hg2 hF hL hH
theorem wa_3 (i j q : Nat) {o p r : Oper} (ho : ops[i]? = some o) (hp : ops[j]? = some p) (hq : ops[q]? = some r) (hr : Region.ready .any ops lst = [i, j, q]) (hs : Stp C o l M S (NxA C ops Mi Si fuel (lst.setIfInBounds i true) k)) (hs2 : Stp C p l M S (NxA C ops Mi Si fuel (lst.setIfInBounds j true) k))
    (hs3 : Stp C r l M S (NxA C ops Mi Si fuel (lst.setIfInBounds q true) k)) (hg : Gd ops l o.guard) (hg2 : Gd ops l p.guard) (hg3 : Gd ops l r.guard) : WA C ops Mi Si (fuel + 1) lst k l M S := fun a w hF hL hH =>
  wpAnyH_all hr (by simp) fun x hx => by
    simp at hx
    rcases hx with rfl | rfl | rfl
    · exact wa_op x ho hs hg hF hL hH
    · exact wa_op x hp hs2 hg2 hF hL hH
    · exact wa_op x hq hs3 hg3 hF hL hH
theorem wa_end (hr : Region.ready .any ops lst = []) (h : G C k l M S) : WA C ops Mi Si fuel lst k l M S := fun a w hF hL hH => wpAnyH_done hr ⟨rfl, h a w hF hL⟩ fuel
theorem wa_sub (hf : subf l' l) (hM : M'.Sublist M) (hS : ∀ s ∈ S', s ∈ S) (h : WA C ops Mi Si fuel lst k l' M' S') : WA C ops Mi Si fuel lst k l M S := fun a w h1 h2 => h a w (h1.sub hf) (h2.drop hM hS)
end any
/-- The blocks in another order. -/
theorem Loc.perm {w0 w : World} (h : Loc w0 w M S) (hp : M.Perm M') : Loc w0 w M' S :=
  ⟨h.env, fun e he => h.ok e (hp.mem_iff.2 he), (List.Perm.pairwise_iff (fun h => far.symm' h) hp).1 h.apart, fun s hs => ⟨(h.snap s hs).1, fun b hb => ⟨((h.snap s hs).2 b hb).1, fun e he => ((h.snap s hs).2 b hb).2 e (hp.mem_iff.2 he)⟩⟩⟩
theorem g_perm (hp : M.Perm M') (h : G C k l M' S) : G C k l M S := fun a w h1 h2 => h a w h1 (h2.perm hp)
theorem sels {α : Type} {S S' : List α} (is : List Nat) (h : is.map (S[·]?) = S'.map some) : ∀ s ∈ S', s ∈ S := fun s hs => by
  have : some s ∈ is.map (S[·]?) := by rw [h]; exact List.mem_map.2 ⟨s, hs, rfl⟩
  obtain ⟨i, _, hi⟩ := List.mem_map.1 this
  exact List.mem_iff_getElem?.2 ⟨i, hi⟩
theorem g_go (is : List Nat) (h : G C k l' M' S') (hf : subf l' l) (hM : M'.Sublist M) (hS : is.map (S[·]?) = S'.map some) : G C k l M S := g_sub hf hM (sels is hS) h
theorem Fr.bool {n : Nat} {a : Act} (t : Nat) {b b' : Bool} (h : Fr n l a) (h1 : look l t = some (.bool b)) (h2 : b = b') : Fr n ((t, .bool b') :: l) a := by
  subst h2
  refine ⟨h.1, h.2.1, fun u v hu => ?_⟩
  simp only [look] at hu
  by_cases e : t = u
  · subst e
    simp at hu
    subst hu
    exact h.2.2 _ _ h1
  · rw [nbeq e] at hu
    exact h.2.2 _ _ hu
theorem w_bool {i : Nat} (t : Nat) {b b' : Bool} (h1 : look l t = some (.bool b)) (h2 : b = b') (h : WL C ops i k ((t, .bool b') :: l) M S) : WL C ops i k l M S := fun a w hF hL => h a w (hF.bool t h1 h2) hL
theorem wa_bool {Mi : List Ent} {Si : List Snap} {fuel : Nat} {lst : Array Bool} (t : Nat) {b b' : Bool} (h1 : look l t = some (.bool b)) (h2 : b = b') (h : WA C ops Mi Si fuel lst k ((t, .bool b') :: l) M S) : WA C ops Mi Si fuel lst k l M S := fun a w hF hL => h a w (hF.bool t h1 h2) hL
theorem g_bool (t : Nat) {b b' : Bool} (h1 : look l t = some (.bool b)) (h2 : b = b') (h : G C k ((t, .bool b') :: l) M S) : G C k l M S := fun a w hF hL => h a w (hF.bool t h1 h2) hL
theorem s_val {op : Op} {v : Value} (hv : Val C ⟨some d, op, ty, pos, after, g⟩ l M S v) (hd : Nat.ble (d + 1) C.n = true) (h : Nx ((d, v) :: l) M S) : Stp C ⟨some d, op, ty, pos, after, g⟩ l M S Nx :=
  s_run hd fun a w hF hL => ⟨v, w, M, S, hv a w hF hL, hL, h⟩
theorem g_short {j : Nat} {A : Option Addr} {e sz n c m : Nat} {cells cells' : List Value} (hM : M[j]? = some (.own (.slice A n c) e sz n cells)) (hm : m ≤ n) (hc : cells.take (m * sz) = cells') (h : G C k l (M.set j (.own (.slice A m c) e sz m cells')) S) : G C k l M S := fun a w hF hL => by
  subst hc
  exact h a w hF (hL.upd (e' := .own (.slice A m c) e sz m (cells.take (m * sz))) hM ⟨Env.refl w, fun _ _ _ => rfl⟩ (own_short (hL.ok _ (List.mem_iff_getElem?.2 ⟨j, hM⟩)) hm) (.inl (by simp only [Ent.blk]; cases A <;> rfl)))
/-! ### results in memory -/
inductive RV (C : Cx) (l : Fm) (M : List Ent) : List ResultVar → List Value → Prop
  | nil : RV C l M [] []
  | tmp {t : Nat} {v : Value} {r : List ResultVar} {vs : List Value} (hv : look l t = some v) (h : RV C l M r vs) : RV C l M (.tmp t :: r) (v :: vs)
  | cell {a T m gb o Tb : Nat} {cs us : List Value} {r : List ResultVar} {vs : List Value} (j : Nat) (hp : look l a = some (.pointer (some ⟨gb, o, none⟩))) (hT : ldK C.P T = some (some m)) (hM : M[j]? = some (.box gb Tb cs)) (hv : (cs.drop o).take m = us) (hm : us.length = m) (h : RV C l M r vs) : RV C l M (.cell a T :: r) (.agg us.toArray :: vs)
  | cell1 {a T gb o Tb : Nat} {cs : List Value} {u : Value} {r : List ResultVar} {vs : List Value} (j : Nat) (hp : look l a = some (.pointer (some ⟨gb, o, none⟩))) (hT : ldK C.P T = some none) (hM : M[j]? = some (.box gb Tb cs)) (hv : cs[o]? = some u) (h : RV C l M r vs) : RV C l M (.cell a T :: r) (u :: vs)
def packV : List Value → Value
  | [v] => v
  | vs => .tuple vs.toArray
theorem RV.run {rs : List ResultVar} {vs : List Value} (h : RV C l M rs vs) (hr : C.fn.results.toList = rs) {a : Act} {w : World} (hF : Fr C.n l a) (hL : Loc C.w0 w M S) : (results C.fn a.tmps).run C.P w = .ok (packV vs) w := by
  have key : (rs.mapM (m := Sem) fun | .tmp t => pure (a.tmps.getD t undef) | .cell q t => do loadVar t (← asAddr (a.tmps.getD q undef))).run C.P w = .ok vs w := by
    clear hr
    induction h with
    | nil => simp
    | tmp hv h ih =>
      simp only [List.mapM_cons, Sem.run_bind, Sem.run_pure, Result.andThen_ok, hF.2.2 _ _ hv, ih]
    | cell j hp hT hM hv hm h ih =>
      have h1 := run_loadVar_agg (P := C.P) (w := w) hT hm (fun q u hu => by
        rw [add_box, box_cell (hL.ok _ (List.mem_iff_getElem?.2 ⟨j, hM⟩)) _]
        rw [← hv, List.getElem?_take] at hu
        split at hu
        · rwa [List.getElem?_drop] at hu
        · cases hu)
      have ha : ∀ x : Addr, asAddr (.pointer (some x)) = pure x := fun _ => rfl
      simp only [List.mapM_cons, Sem.run_bind, Sem.run_pure, Result.andThen_ok, hF.2.2 _ _ hp, ha, h1, ih]
    | cell1 j hp hT hM hv h ih =>
      have h1 := run_loadVar_one (P := C.P) (w := w) hT ((box_cell (hL.ok _ (List.mem_iff_getElem?.2 ⟨j, hM⟩)) _).trans hv)
      have ha : ∀ x : Addr, asAddr (.pointer (some x)) = pure x := fun _ => rfl
      simp only [List.mapM_cons, Sem.run_bind, Sem.run_pure, Result.andThen_ok, hF.2.2 _ _ hp, ha, h1, ih]
  unfold results
  rw [Array.mapM_eq_mapM_toList, hr]
  simp only [Sem.run_bind, Sem.run_map]
  refine (congrArg (fun r => Result.andThen (Result.andThen r _) _) key).trans ?_
  simp only [Result.andThen_ok, Sem.run_pure]
  match vs with
  | [] => rfl
  | [v] => rfl
  | v :: u :: r => simp [packV]
theorem g_retR {c : Code} {rs : List ResultVar} (vs : List Value) (hc : Code.tag c = 10) (hf : C.P.funcs[C.f]? = some C.fn) (hr : C.fn.results.toList = rs) (hv : RV C l M rs vs) (h : ∀ w, Loc C.w0 w M S → C.R (.returned (packV vs)) w) : G C (.code c :: k) l M S :=
  g_ret hc _ hf (fun a w hF hL => hv.run hr hF hL) h
theorem g_endR {rs : List ResultVar} (vs : List Value) (hf : C.P.funcs[C.f]? = some C.fn) (hr : C.fn.results.toList = rs) (hv : RV C l M rs vs) (h : ∀ w, Loc C.w0 w M S → C.R (.returned (packV vs)) w) : G C [] l M S :=
  g_end _ hf (fun a w hF hL => hv.run hr hF hL) h
end ops
end Go.Proofs.Ytkaejoffnkhbpaa.B
