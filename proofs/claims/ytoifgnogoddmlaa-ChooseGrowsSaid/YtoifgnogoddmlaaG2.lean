/- choose.Grow, walked by hand: a range over slices.Backward. Conditions: contracts of the functions that it calls. -/
import Derived.Test.YtoifgnogoddmlaaG1
namespace Go.Proofs.Ytoifgnogoddmlaa.W
open Go.RowKit Go.Shelf Go.Proofs.Ytoifgnogoddmlaa.B Go.Proofs.Ytoifgnogoddmlaa.K Go.Proofs.Ytoifgnogoddmlaa.R
attribute [local go_sem] Oper.semAt_some
theorem loc0 (w : World) (F : Nat → Prop) : B.Loc w w [] [Sm w.heap.size F w [], St w []] := ⟨Env.refl w, by simp, by simp, fun s hs => by
  simp only [List.mem_cons, List.not_mem_nil, or_false] at hs
  rcases hs with rfl | rfl <;> exact ⟨Nat.le_refl _, fun b _ => ⟨rfl, by simp⟩⟩⟩
theorem Loc.keeps {w w' : World} {M : List Ent} (h : B.Loc w w' M [St w []]) : KeepsOthers w w' ∧ Below w.heap.size w w' := by
  obtain ⟨h1, h2⟩ := h.snap _ (List.mem_singleton.2 rfl)
  have hk : ∀ b, b < w.heap.size → w'.heap[b]? = w.heap[b]? := fun b hb => (h2 b ⟨hb, by simp, trivial⟩).1
  exact ⟨⟨h1, fun l o hl _ => (hk l (Array.getElem?_eq_some_iff.1 hl).1).trans hl⟩, ⟨h.env.os, h.env.tape, h.env.output, h1, hk⟩⟩
def Box (W : World) (b T : Nat) (cs : Array Value) : Prop := W.heap[b]? = some (.cells cs T (0, 0))
theorem Box.cell {W : World} {b T : Nat} {cs : Array Value} (h : Box W b T cs) (i : Nat) : W.cell? ⟨b, i, none⟩ = cs[i]? := by unfold Box at h; simp [World.cell?, h]
theorem Box.froz {W : World} {b T : Nat} {cs : Array Value} (h : Box W b T cs) (i : Nat) : W.frozen? ⟨b, i, none⟩ = false := by unfold Box at h; simp [World.frozen?, h]
theorem Box.keep {W W' : World} {b T : Nat} {cs : Array Value} (h : Box W b T cs) {n : Nat} (hb : Below n W W') (hl : b < n) : Box W' b T cs := (hb.block b hl).trans h
theorem Box.lt {W : World} {b T : Nat} {cs : Array Value} (h : Box W b T cs) : b < W.heap.size := (Array.getElem?_eq_some_iff.1 h).1
theorem Box.set {W : World} {b T : Nat} {cs : Array Value} (h : Box W b T cs) (i : Nat) (v : Value) : Box (W.setCell ⟨b, i, none⟩ v) b T (cs.setIfInBounds i v) := by unfold Box at *; simp [World.setCell, Array.getElem?_modify, h]
theorem Box.other {W : World} {b T : Nat} {cs : Array Value} (h : Box W b T cs) {p : Addr} (v : Value) (hne : b ≠ p.block) : Box (W.setCell p v) b T cs := (Below.heap_setCell _ _ _ _ hne).trans h
theorem Box.alloc {W : World} {b T : Nat} {cs : Array Value} (h : Box W b T cs) (o : Obj) : Box (W.alloc o) b T cs := (Below.heap_alloc _ _ _ h.lt).trans h
theorem upto_snd (l : List Int) : ∀ k, k ≤ l.length → (upto (bk l) k).map (·.2) = l.reverse.take k := by
  intro k hk
  apply List.ext_getElem
  · simp [upto]; omega
  · intro i h1 h2
    simp [upto, bk] at h1 h2 ⊢
    rw [List.getElem?_eq_getElem (by omega)]
    rfl
theorem grow_none {α : Type} [DecidableEq α] {b : Int → α} {q : α} {l : List Int} (h : ∀ y ∈ l.reverse, b y = q) : growB b q l = q := by
  unfold growB
  rw [List.find?_eq_none.2 (fun z hz => by obtain ⟨y, hy, rfl⟩ := List.mem_map.1 hz; simpa using h y hy)]
  rfl
theorem grow_some {α : Type} [DecidableEq α] {b : Int → α} {q : α} {l : List Int} {k : Nat} {pre : List Int} {y : Int} (hk : l.reverse.take k = pre ++ [y]) (h : ∀ z ∈ pre, b z = q) (hy : b y ≠ q) : growB b q l = b y := by
  unfold growB
  have e : l.reverse = (pre ++ [y]) ++ l.reverse.drop k := by rw [← hk, List.take_append_drop]
  rw [e, List.map_append, List.map_append, List.append_assoc, List.find?_append, List.find?_eq_none.2 (fun z hz => by obtain ⟨u, hu, rfl⟩ := List.mem_map.1 hz; simpa using h u hu)]
  simp [hy]
theorem node_cells {W : World} {F : Nat → Prop} {A : Option Addr} {n c : Nat} {x1 : List api_Node} (h : Rw k_api_Node W F A n c x1) {j : Nat} (hj : j < x1.length) : ∃ b off, A = some ⟨b, off, none⟩ ∧
    W.cell? ⟨b, off + j * 7, none⟩ = some (.string (ix x1 (j : Int)).name) ∧ W.cell? ⟨b, off + j * 7 + 1, none⟩ = some (.bool (ix x1 (j : Int)).named) ∧ W.cell? ⟨b, off + j * 7 + 2, none⟩ = some (.string (ix x1 (j : Int)).field) ∧
    W.cell? ⟨b, off + j * 7 + 3, none⟩ = some (.int .i64 (ix x1 (j : Int)).from_) ∧ W.cell? ⟨b, off + j * 7 + 4, none⟩ = some (.int .i64 (ix x1 (j : Int)).to) ∧ W.cell? ⟨b, off + j * 7 + 5, none⟩ = some (.int .i64 (ix x1 (j : Int)).kids) ∧ W.cell? ⟨b, off + j * 7 + 6, none⟩ = some (.int .i64 (ix x1 (j : Int)).leaf) := by
  obtain ⟨h1, _⟩ := h.row.1 (by omega)
  obtain ⟨⟨b, off, sp⟩, rfl⟩ := Option.isSome_iff_exists.1 h1
  have e : ix x1 (j : Int) = x1[j] := by simp [ix, hj]
  obtain ⟨cs, g1, g2⟩ := h.row.2 j x1[j] (List.getElem?_eq_getElem hj)
  rw [← e] at g1
  generalize ix x1 (j : Int) = y at *
  have g1' : cs = [.string y.name, .bool y.named, .string y.field, .int .i64 y.from_, .int .i64 y.to, .int .i64 y.kids, .int .i64 y.leaf] := g1
  subst g1'
  have cell : ∀ i u, [Value.string y.name, .bool y.named, .string y.field, .int .i64 y.from_, .int .i64 y.to, .int .i64 y.kids, .int .i64 y.leaf][i]? = some u → celA W (some ⟨b, off, sp⟩) (j * 7 + i) = some u := g2
  have hsp : sp = none := by
    obtain ⟨cs, u1, u2⟩ := h.row.2 0 (x1[0]'(by omega)) (List.getElem?_eq_getElem _)
    have u1' : cs = [.string (x1[0]'(by omega)).name, .bool (x1[0]'(by omega)).named, .string (x1[0]'(by omega)).field, .int .i64 (x1[0]'(by omega)).from_, .int .i64 (x1[0]'(by omega)).to, .int .i64 (x1[0]'(by omega)).kids, .int .i64 (x1[0]'(by omega)).leaf] := u1
    subst u1'
    have := u2 0 _ rfl
    unfold celA at this
    have := spot_none this
    simpa [Addr.add] using this
  subst hsp
  have cell' : ∀ i u, [Value.string y.name, .bool y.named, .string y.field, .int .i64 y.from_, .int .i64 y.to, .int .i64 y.kids, .int .i64 y.leaf][i]? = some u → W.cell? ⟨b, off + j * 7 + i, none⟩ = some u := fun i u hi => by
    have := cell i u hi
    unfold celA at this
    have e : (⟨b, off, none⟩ : Addr).add (j * 7 + i) = ⟨b, off + j * 7 + i, none⟩ := by unfold Addr.add; split <;> simp_all [Nat.add_assoc]
    simpa [e] using this
  exact ⟨b, off, rfl, cell' 0 _ rfl, cell' 1 _ rfl, cell' 2 _ rfl, cell' 3 _ rfl, cell' 4 _ rfl, cell' 5 _ rfl, cell' 6 _ rfl⟩
theorem leave {W : World} {b : Nat} {cs : Int × Int} (h : Box W b 24 #[.int .i64 cs.1, .int .i64 cs.2]) {u v : Int} :
    KeepsOthers W (((W.alloc (.cells #[.int .i64 u, .int .i64 v] 24)).setCell ⟨b, 0, none⟩ (.int .i64 u)).setCell ⟨b, 1, none⟩ (.int .i64 v)) ∧ Below b W (((W.alloc (.cells #[.int .i64 u, .int .i64 v] 24)).setCell ⟨b, 0, none⟩ (.int .i64 u)).setCell ⟨b, 1, none⟩ (.int .i64 v)) ∧
    (((W.alloc (.cells #[.int .i64 u, .int .i64 v] 24)).setCell ⟨b, 0, none⟩ (.int .i64 u)).setCell ⟨b, 1, none⟩ (.int .i64 v)).cell? ⟨b, 0, none⟩ = some (.int .i64 u) ∧
    (((W.alloc (.cells #[.int .i64 u, .int .i64 v] 24)).setCell ⟨b, 0, none⟩ (.int .i64 u)).setCell ⟨b, 1, none⟩ (.int .i64 v)).cell? ⟨b, 1, none⟩ = some (.int .i64 v) := by
  have h1 := ((h.alloc (.cells #[.int .i64 u, .int .i64 v] 24)).set 0 (.int .i64 u)).set 1 (.int .i64 v)
  refine ⟨((KeepsOthers.alloc _ _).trans (KeepsOthers.setCell _ _ _)).trans (KeepsOthers.setCell _ _ _), (((Below.refl b W).alloc (Nat.le_of_lt h.lt) _).setCell (Nat.le_refl _) _).setCell (Nat.le_refl _) _, h1.cell 0, h1.cell 1⟩
set_option maxRecDepth 100000 in
set_option maxHeartbeats 4000000 in
theorem grow_calls {w : World} {x1 : List api_Node} {x6 q : api_Range} {A2 : Option Addr} {n3 c4 : Nat} {l : List Int} {r : api_Range} (h5 : Rw k_api_Node w (St w []).av A2 n3 c4 x1)
    (hT : ∀ w1, Calls Try.prog 34 #[.agg #[.int .i64 x6.from_, .int .i64 x6.to]] w1 (fun e w' => e = .returned (.agg #[.int .i64 q.from_, .int .i64 q.to]) ∧ B.Loc w1 w' [] [St w1 []]))
    (hW : ∀ w1, Rw k_api_Node w1 (St w1 []).av A2 n3 c4 x1 → Calls Try.prog 33 #[.slice A2 n3 c4, .agg #[.int .i64 q.from_, .int .i64 q.to]] w1 (fun e w' => ∃ A0 : Option Addr, ∃ n0 : Nat, ∃ c0 : Nat, e = .returned (.slice A0 n0 c0) ∧ B.Loc w1 w' [.own (.slice A0 n0 c0) 3 1 n0 (l.flatMap (eI .i64))] [St w1 []] ∧ Ow w1.heap.size A0 n0 c0 l))
    (hB : ∀ w1 (x : api_Node), Calls Try.prog 36 #[.agg #[.string x.name, .bool x.named, .string x.field, .int .i64 x.from_, .int .i64 x.to, .int .i64 x.kids, .int .i64 x.leaf]] w1 (fun e w' => e = .returned (.agg #[.int .i64 x.from_, .int .i64 x.to]) ∧ B.Loc w1 w' [] [St w1 []]))
    (hin : ∀ y ∈ l, 0 ≤ y ∧ y < (x1.length : Int)) (hll : l.length * 8 ≤ 140737488355328) (hr : r = growB (fun y => byt (ix x1 y)) q l) :
    Calls Try.prog 13 #[.slice A2 n3 c4, .agg #[.int .i64 x6.from_, .int .i64 x6.to]] w (fun e w' => e = .returned (.agg #[.int .i64 r.from_, .int .i64 r.to]) ∧ B.Loc w w' [] [St w []]) := by
  refine (callsIn_wide (n := 9)).1 ?_
  refine callsIn_of_wp_marks Try.func13 rfl trivial ?_ rfl
  simp only [Try.ntmps13, List.size_toArray, List.length_cons, List.length_nil, Nat.reduceAdd, Nat.reduceSub, Array.replicate_succ, Array.replicate_zero, List.push_toArray, List.append_toArray, List.nil_append, List.cons_append]
  have h34 : Fence.wide.fn 34 := trivial
  have h33 : Fence.wide.fn 33 := trivial
  have h35 : Fence.wide.fn 35 := trivial
  have h36 : Fence.wide.fn 36 := trivial
  have hT' : CallsIn Fence.wide 8 Try.prog 34 #[.agg #[.int .i64 x6.from_, .int .i64 x6.to]] (((w.alloc (.cells #[.slice A2 n3 c4] 22)).alloc (.cells #[.int .i64 x6.from_, .int .i64 x6.to] 24)).alloc (.cells #[.int .i64 0, .int .i64 0] 24))
      (fun e w1 => e = .returned (.agg #[.int .i64 q.from_, .int .i64 q.to]) ∧ Box w1 w.heap.size 22 #[.slice A2 n3 c4] ∧ Box w1 (w.heap.size + 1) 24 #[.int .i64 x6.from_, .int .i64 x6.to] ∧ Box w1 (w.heap.size + 1 + 1) 24 #[.int .i64 0, .int .i64 0] ∧ Below w.heap.size w w1 ∧
        w1.cell? ⟨w.heap.size + 1, 0, none⟩ = some (.int .i64 x6.from_) ∧ w1.cell? ⟨w.heap.size + 1, 1, none⟩ = some (.int .i64 x6.to) ∧ w1.frozen? ⟨w.heap.size + 1, 0, none⟩ = false ∧ w1.frozen? ⟨w.heap.size + 1, 1, none⟩ = false ∧ w1.cell? ⟨w.heap.size, 0, none⟩ = some (.slice A2 n3 c4)) := by
    refine ((callsIn_wide (n := 8)).2 (hT _)).mono ?_
    rintro e w1 ⟨rfl, hL1⟩
    obtain ⟨W0, hW0⟩ : ∃ W0, ((w.alloc (.cells #[.slice A2 n3 c4] 22)).alloc (.cells #[.int .i64 x6.from_, .int .i64 x6.to] 24)).alloc (.cells #[.int .i64 0, .int .i64 0] 24) = W0 := ⟨_, rfl⟩
    rw [hW0] at hL1
    have hs0 : W0.heap.size = w.heap.size + 3 := by rw [← hW0]; simp
    have b0 : Box W0 w.heap.size 22 #[.slice A2 n3 c4] := by
      unfold Box; rw [← hW0]; exact ((Below.heap_alloc _ _ _ (by simp; omega)).trans (Below.heap_alloc _ _ _ (by simp))).trans (World.alloc_heap_new w _)
    have b1 : Box W0 (w.heap.size + 1) 24 #[.int .i64 x6.from_, .int .i64 x6.to] := by
      unfold Box; rw [← hW0]; refine (Below.heap_alloc _ _ _ (by simp)).trans ?_
      have := World.alloc_heap_new (w.alloc (.cells #[.slice A2 n3 c4] 22)) (.cells #[.int .i64 x6.from_, .int .i64 x6.to] 24); rwa [World.size_alloc] at this
    have b2 : Box W0 (w.heap.size + 1 + 1) 24 #[.int .i64 0, .int .i64 0] := by
      unfold Box; rw [← hW0]; have := World.alloc_heap_new ((w.alloc (.cells #[.slice A2 n3 c4] 22)).alloc (.cells #[.int .i64 x6.from_, .int .i64 x6.to] 24)) (.cells #[.int .i64 0, .int .i64 0] 24); rwa [World.size_alloc, World.size_alloc] at this
    have hBW : Below w.heap.size w W0 := by rw [← hW0]; exact (((Below.refl _ w).alloc (Nat.le_refl _) _).alloc (by simp) _).alloc (by simp; omega) _
    obtain ⟨_, hb1⟩ := Loc.keeps hL1
    have b0' := b0.keep hb1 (by omega)
    have b1' := b1.keep hb1 (by omega)
    have b2' := b2.keep hb1 (by omega)
    exact ⟨rfl, b0', b1', b2', hBW.trans (hb1.mono (by omega)), b1'.cell 0, b1'.cell 1, b1'.froz 0, b1'.froz 1, b0'.cell 0⟩
  gi_wp2_with (gi_at_call 34; refine hT'.mono ?_; rintro e w1 ⟨rfl, b0, b1, b2, hBW, c10, c11, f10, f11, c00⟩)
  have d1 := (b1.set 0 (.int .i64 q.from_)).set 1 (.int .i64 q.to)
  simp only [List.setIfInBounds_toArray, List.set_cons_zero, List.set_cons_succ] at d1
  have d0 := (b0.other (p := ⟨w.heap.size + 1, 0, none⟩) (.int .i64 q.from_) (by simp)).other (p := ⟨w.heap.size + 1, 1, none⟩) (.int .i64 q.to) (by simp)
  have d2 := (b2.other (p := ⟨w.heap.size + 1, 0, none⟩) (.int .i64 q.from_) (by simp)).other (p := ⟨w.heap.size + 1, 1, none⟩) (.int .i64 q.to) (by simp)
  have hBW2 := (hBW.setCell (p := ⟨w.heap.size + 1, 0, none⟩) (by simp) (.int .i64 q.from_)).setCell (p := ⟨w.heap.size + 1, 1, none⟩) (by simp) (.int .i64 q.to)
  clear b0 b1 b2 hBW c10 c11 f10 f11 c00
  generalize (w1.setCell { block := w.heap.size + 1, off := 0 } (Value.int IntKind.i64 q.from_)).setCell { block := w.heap.size + 1, off := 1 } (Value.int IntKind.i64 q.to) = W2 at *
  have hrow : ∀ {W : World}, Below w.heap.size w W → Rw k_api_Node W (St W []).av A2 n3 c4 x1 := fun hb => h5.mono fun b hb2 => ⟨⟨Nat.lt_of_lt_of_le hb2.1 hb.size, by simp, trivial⟩, hb.block b hb2.1⟩
  refine ((callsIn_wide (n := 8)).2 (hW W2 (hrow hBW2))).mono ?_
  rintro e w2 ⟨A0, n0, c0, rfl, hL2, hO⟩
  obtain ⟨hk2, hb2⟩ := Loc.keeps hL2
  have e0 := d0.keep hb2 d0.lt
  have e1 := d1.keep hb2 d1.lt
  have e2 := d2.keep hb2 d2.lt
  have hBW3 := hBW2.trans (hb2.mono hBW2.size)
  gi_wp2_with (gi_at_call 35; refine (backward_in Fence.wide 8 trivial rfl _ _ _ _).mono ?_; rintro e w' ⟨rfl, rfl⟩)
  obtain ⟨W3, hW3⟩ : ∃ W3, w2.alloc (.cells #[.slice A0 n0 c0] 45) = W3 := ⟨_, rfl⟩
  have hs3 : W3.heap.size = w2.heap.size + 1 := by rw [← hW3]; simp
  have hl2 : Below w2.heap.size w2 W3 := by rw [← hW3]; exact (Below.refl _ w2).alloc (Nat.le_refl _) _
  have g0 := e0.keep hl2 e0.lt
  have g1 := e1.keep hl2 e1.lt
  have g2 := e2.keep hl2 e2.lt
  have gx : Box W3 w2.heap.size 45 #[.slice A0 n0 c0] := by unfold Box; rw [← hW3]; exact World.alloc_heap_new w2 _
  have hBW4 : Below w.heap.size w W3 := hBW3.trans (hl2.mono hBW3.size)
  have hsz := hBW3.size
  have z0 := e0.lt
  have z1 := e1.lt
  have z2 := e2.lt
  -- the row that was made
  have hR0 : Rw (kInt .i64) w2 (St w2 []).av A0 n0 c0 l := by
    have := hL2.argO (dk := kInt .i64) (M0 := []) (rest := [.own (.slice A0 n0 c0) 3 1 n0 (l.flatMap (eI .i64))]) (List.Perm.refl _) [] rfl 0 rfl rfl hO (List.mem_singleton.2 rfl) (Cells.flat _)
    exact this
  have hI0 : Ints W3.heap.size W3 A0 l := Ints.of_row (hR0.mono (w' := W3) (F' := (St w2 []).av) fun b hb => ⟨hb, hl2.block b hb.1⟩) (fun b hb => by have := hb.1; show b < W3.heap.size; have h9 : b < w2.heap.size := this; omega)
  have hn0 : n0 = l.length := hO.hq
  subst hn0
  rw [hW3]
  refine wpIn_rangeFunc_ownF rfl (by omega) (gf := 51) (lb := #[.pointer (some ⟨w2.heap.size, 0, none⟩)]) rfl trivial (enters_of Try.func51 (by kernel_rfl) rfl)
    (backward_stops Fence.wide 8 trivial rfl (by omega) w2.heap.size W3.heap.size c0 A0 l hll (fun x => 0 ≤ x.2 ∧ x.2 < (x1.length : Int)) (fun k hk => ?hp) W3 (by omega) (Nat.le_refl _) (gx.cell 0) hI0)
    (fun h1 h2 => h1.trans h2) (belowK_b (Nat.le_refl _)) (Below.refl _ _) (fun _ => rfl)
    (fun pre W => (∀ y ∈ pre, byt (ix x1 y.1.2) = q) ∧ Below W3.heap.size W3 W)
    (fun c pre W => (c = .ret ∧ ∃ pre' y, pre = pre' ++ [y] ∧ (∀ z ∈ pre', byt (ix x1 z.1.2) = q) ∧ byt (ix x1 y.1.2) ≠ q ∧ W.cell? ⟨w.heap.size + 1 + 1, 0, none⟩ = some (.int .i64 (ix x1 y.1.2).from_) ∧ W.cell? ⟨w.heap.size + 1 + 1, 1, none⟩ = some (.int .i64 (ix x1 y.1.2).to)) ∧ Below w.heap.size w W)
    (OwnFrom.and (fun _ _ _ _ h _ _ => h) (ownFrom_below (Nat.le_refl _) (Nat.le_refl _)))
    (fun c => OwnFrom.and (Own.from (fun s A B row hs hg hr => by obtain ⟨s1, p', y, s2, s3, s4, s5, s6⟩ := hs; exact ⟨s1, p', y, s2, s3, s4, cell_kept s5 hg hr, cell_kept s6 hg hr⟩) _) (ownFrom_below (Nat.le_refl _) (by omega)))
    ⟨by simp, Below.refl _ _⟩
    (fun x => { tmps := #[.slice A2 n3 c4, .agg #[.int .i64 x6.from_, .int .i64 x6.to], .pointer (some ⟨w.heap.size, 0, none⟩), .pointer (some ⟨w.heap.size + 1, 0, none⟩), .pointer (some ⟨w.heap.size + 1 + 1, 0, none⟩), undef, .int .i64 x.1.2, undef, .agg #[.int .i64 x6.from_, .int .i64 x6.to], .agg #[.int .i64 q.from_, .int .i64 q.to], .slice A2 n3 c4, .agg #[.int .i64 q.from_, .int .i64 q.to], .slice A0 l.length c0, .func (.func 51) #[] #[.pointer (some ⟨w2.heap.size, 0, none⟩)], .int .i64 x.1.1, .int .i64 x.1.2, undef, undef, undef, undef, undef, undef, undef, undef, undef, undef], defers := [] }) ?assign ?body ?done ?stop
  case hp =>
    have hk' : l.length - 1 - k < l.length := by omega
    have e : (bk l k).2 = l[l.length - 1 - k] := by unfold bk; simp [hk']
    show 0 ≤ (bk l k).2 ∧ (bk l k).2 < _
    rw [e]
    exact hin _ (List.getElem_mem hk')
  case assign =>
    intro l x W K hK
    gi_wp2
    exact hK
  case body =>
    rintro lr pre x W ⟨hp, hB4⟩ _
    have hd : 1 ≤ 9 - 1 - 1 := by omega
    have k0 := g0.keep hB4 (by omega)
    have k1 := g1.keep hB4 (by omega)
    have k2 := g2.keep hB4 (by omega)
    obtain ⟨j, hj⟩ : ∃ j : Nat, x.1.2 = (j : Int) := ⟨x.1.2.toNat, by have := x.2.1; omega⟩
    have hjl : j < x1.length := by have := x.2.2; omega
    have hRW := hrow (hBW4.trans (hB4.mono (by omega)))
    have c00 := k0.cell 0
    have c10 := k1.cell 0
    have c11 := k1.cell 1
    have c20 := k2.cell 0
    have c21 := k2.cell 1
    have f20 := k2.froz 0
    have f21 := k2.froz 1
    simp at c00 c10 c11 c20 c21
    have hlen := hRW.hq
    subst hlen
    obtain ⟨b9, off9, rfl, hc9⟩ := node_cells hRW hjl
    obtain ⟨y, hy⟩ : ∃ y, ix x1 (j : Int) = y := ⟨_, rfl⟩
    rw [hy] at hc9
    obtain ⟨hb0, hb1, hb2, hb3, hb4, hb5, hb6⟩ := hc9
    rw [hj]
    gi_wp2_with (gi_at_call 36; refine (CallsIn.inRound lr ((callsIn_wide (n := 9 - 1 - 1 - 1)).2 (hB _ y))).mono ?_; rintro e w5 ⟨rfl, hL5⟩; obtain ⟨hko, hb5⟩ := Loc.keeps hL5; have m1 := k1.keep hb5 k1.lt; have m2 := k2.keep hb5 k2.lt; have c10 := m1.cell 0; have c11 := m1.cell 1; have c20 := m2.cell 0; have c21 := m2.cell 1; have f20 := m2.froz 0; have f21 := m2.froz 1; simp at c10 c11 c20 c21; have n10 := fun u v => (m1.alloc (.cells #[.int .i64 u, .int .i64 v] 24)).cell 0; have n11 := fun u v => (m1.alloc (.cells #[.int .i64 u, .int .i64 v] 24)).cell 1; have n20 := fun u v => (m2.alloc (.cells #[.int .i64 u, .int .i64 v] 24)).cell 0; have n21 := fun u v => (m2.alloc (.cells #[.int .i64 u, .int .i64 v] 24)).cell 1; have n30 := fun u v => (m2.alloc (.cells #[.int .i64 u, .int .i64 v] 24)).froz 0; have n31 := fun u v => (m2.alloc (.cells #[.int .i64 u, .int .i64 v] 24)).froz 1; simp at n10 n11 n20 n21)
    · rename_i h1 h2
      refine ⟨hko.trans (KeepsOthers.alloc _ _), (hb5.mono hB4.size).alloc (Nat.le_trans hB4.size hb5.size) _, fun z hz => ?_, hB4.trans ((hb5.mono hB4.size).alloc (Nat.le_trans hB4.size hb5.size) _)⟩
      rcases List.mem_append.1 hz with hz | hz
      · exact hp z hz
      · rw [List.mem_singleton.1 hz, hj, hy]
        unfold byt; rw [h1, h2]
    · rename_i h1 h2
      have hX := leave (cs := (0, 0)) (v := y.to) (u := y.from_) m2
      rw [h1] at hX
      refine ⟨hko.trans hX.1, ⟨rfl, pre, x, rfl, hp, ?_, ?_, ?_⟩, (hBW4.trans (hB4.mono (by omega))).trans (((hb5.mono (by have := hB4.size; omega))).trans (hX.2.1.mono (by omega)))⟩
      · rw [hj, hy]; intro e; exact h2 (by rw [← e]; rfl)
      · rw [hj, hy, h1]; exact hX.2.2.1
      · rw [hj, hy]; exact hX.2.2.2
    · rename_i h1
      have hX := leave (cs := (0, 0)) (v := y.to) (u := y.from_) m2
      refine ⟨hko.trans hX.1, ⟨rfl, pre, x, rfl, hp, ?_, ?_, ?_⟩, (hBW4.trans (hB4.mono (by omega))).trans (((hb5.mono (by have := hB4.size; omega))).trans (hX.2.1.mono (by omega)))⟩
      · rw [hj, hy]; intro e; exact h1 (by rw [← e]; rfl)
      · rw [hj, hy]; exact hX.2.2.1
      · rw [hj, hy]; exact hX.2.2.2
  case done =>
    rintro D xs W hD hall ⟨hp, hB4⟩ hK
    have k1 := g1.keep hB4 (by omega)
    have k2 := g2.keep hB4 (by omega)
    have c10 := k1.cell 0
    have c11 := k1.cell 1
    have c20 := k2.cell 0
    have c21 := k2.cell 1
    have f20 := k2.froz 0
    have f21 := k2.froz 1
    simp at c10 c11 c20 c21
    gi_wp2
    obtain ⟨W', hW'⟩ : ∃ W', (W.setCell { block := w.heap.size + 1 + 1, off := 0 } (Value.int IntKind.i64 q.from_)).setCell { block := w.heap.size + 1 + 1, off := 1 } (Value.int IntKind.i64 q.to) = W' := ⟨_, rfl⟩
    have hK' : W'.heap[D]? = some (.deferred (some [])) := by rw [← hW']; exact ((KeepsOthers.setCell W _ _).trans (KeepsOthers.setCell _ _ _)).same D _ hK rfl
    have kb := (k2.set 0 (.int .i64 q.from_)).set 1 (.int .i64 q.to)
    rw [hW'] at kb
    have hBW' : Below w.heap.size w W' := by rw [← hW']; exact ((hBW4.trans (hB4.mono (by omega))).setCell (p := ⟨w.heap.size + 1 + 1, 0, none⟩) (by show w.heap.size ≤ w.heap.size + 1 + 1; omega) _).setCell (p := ⟨w.heap.size + 1 + 1, 1, none⟩) (by show w.heap.size ≤ w.heap.size + 1 + 1; omega) _
    rw [hW']
    refine ⟨by simp, .inl ⟨_, _, rfl, run_takeDeferred hK', ?_⟩⟩
    have hc5 := cell_kept (kb.cell 0) (grownBy_putObj' _ D (.deferred none)) (fun r e => by cases e; exact ⟨_, hK', rfl⟩)
    have hc6 := cell_kept (kb.cell 1) (grownBy_putObj' _ D (.deferred none)) (fun r e => by cases e; exact ⟨_, hK', rfl⟩)
    simp at hc5 hc6
    have hrq : r = q := by
      rw [hr]
      refine grow_none fun y hy => ?_
      have e := congrArg (List.map Prod.snd) hall
      rw [upto_snd l _ (Nat.le_refl _), List.take_of_length_le (by simp)] at e
      rw [← e] at hy
      obtain ⟨u, hu, rfl⟩ := List.mem_map.1 hy
      obtain ⟨z, hz, rfl⟩ := List.mem_map.1 hu
      exact hp z hz
    refine ⟨.agg #[.int .i64 q.from_, .int .i64 q.to], ?_, ⟨by rw [hrq], Loc.of_below (hBW'.trans (belowK_b (w := w) (Nat.le_refl _) _ D _ _ (by omega) hK' rfl rfl))⟩⟩
    simp [results, Try.f13, go_sem, hc5, hc6]
  case stop =>
    rintro D c pre W hD ⟨k, hk, hmap⟩ ⟨⟨rfl, pre', y, rfl, h1, h2, c5, c6⟩, hB⟩ hK
    gi_wp2
    refine ⟨by simp, .inl ⟨_, _, rfl, run_takeDeferred hK, ?_⟩⟩
    have hc5 := cell_kept c5 (grownBy_putObj' _ D (.deferred none)) (fun r e => by cases e; exact ⟨_, hK, rfl⟩)
    have hc6 := cell_kept c6 (grownBy_putObj' _ D (.deferred none)) (fun r e => by cases e; exact ⟨_, hK, rfl⟩)
    have hrq : r = byt (ix x1 y.1.2) := by
      rw [hr]
      have e := congrArg (List.map Prod.snd) hmap
      rw [upto_snd l _ hk] at e
      simp only [List.map_append, List.map_cons, List.map_nil] at e
      refine grow_some (b := fun y => byt (ix x1 y)) e.symm (fun z hz => ?_) h2
      obtain ⟨u, hu, rfl⟩ := List.mem_map.1 hz
      obtain ⟨t, ht, rfl⟩ := List.mem_map.1 hu
      exact h1 t ht
    refine ⟨.agg #[.int .i64 (ix x1 y.1.2).from_, .int .i64 (ix x1 y.1.2).to], ?_, ⟨by rw [hrq]; rfl, Loc.of_below (hB.trans (belowK_b (w := w) (Nat.le_refl _) W D _ _ (by omega) hK rfl rfl))⟩⟩
    simp [results, Try.f13, go_sem, hc5, hc6]
end Go.Proofs.Ytoifgnogoddmlaa.W
