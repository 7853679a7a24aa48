/- choose.Steps, walked by hand: a range over slices.Backward whose body appends. Conditions: contracts of the functions that it calls. -/
import Derived.Test.YtoifgnogoddmlaaG2
import Derived.Maps.AppendAt
import Derived.Test.YtoifgnogoddmlaaG4
namespace Go.Proofs.Ytoifgnogoddmlaa.W
open Go.RowKit Go.Shelf Go.Proofs.Ytoifgnogoddmlaa.B Go.Proofs.Ytoifgnogoddmlaa.K Go.Proofs.Ytoifgnogoddmlaa.R
attribute [local go_sem] Oper.semAt_some
/-- these blocks lie as they lay -/
structure Kept (S : Nat → Prop) (A B : World) : Prop where
  size : A.heap.size ≤ B.heap.size
  block : ∀ b, S b → B.heap[b]? = A.heap[b]?
theorem Kept.refl (S : Nat → Prop) (A : World) : Kept S A A := ⟨Nat.le_refl _, fun _ _ => rfl⟩
theorem Kept.trans {S : Nat → Prop} {A B C : World} (h : Kept S A B) (k : Kept S B C) : Kept S A C := ⟨Nat.le_trans h.size k.size, fun b hb => (k.block b hb).trans (h.block b hb)⟩
theorem Kept.cell {S : Nat → Prop} {A B : World} (h : Kept S A B) {p : Addr} (hp : S p.block) : B.cell? p = A.cell? p := World.cell?_of_block (w := A) (h.block _ hp)
theorem Kept.of_below {S : Nat → Prop} {A B : World} {n : Nat} (hS : ∀ b, S b → b < n) (h : Below n A B) : Kept S A B := ⟨h.size, fun b hb => h.block b (hS b hb)⟩
theorem Kept.setCell {S : Nat → Prop} {A B : World} (h : Kept S A B) {p : Addr} (hp : ¬ S p.block) (v : Value) : Kept S A (B.setCell p v) := ⟨by simpa using h.size, fun b hb => (Below.heap_setCell _ _ _ _ (fun e => hp (by rw [← e]; exact hb))).trans (h.block b hb)⟩
theorem Kept.alloc {S : Nat → Prop} {A B : World} (hS : ∀ b, S b → b < A.heap.size) (h : Kept S A B) (o : Obj) : Kept S A (B.alloc o) := ⟨by have := h.size; simp; omega, fun b hb => (Below.heap_alloc _ _ _ (by have := hS b hb; have := h.size; omega)).trans (h.block b hb)⟩
theorem Kept.grown {S : Nat → Prop} {A B C : World} {row : Option Nat} (hS : ∀ b, S b → b < A.heap.size) (h : Kept S A B) (hg : B.grownBy C row) (hr : ∀ k, row = some k → ¬ S k) : Kept S A C :=
  ⟨Nat.le_trans h.size hg.size, fun b hb => (hg.block b (Nat.lt_of_lt_of_le (hS b hb) h.size) (fun e => hr b e.symm hb)).trans (h.block b hb)⟩
theorem ownFrom_kept {β : Type} {S : Nat → Prop} {B : Nat} {w₀ : World} (hS : ∀ b, S b → b < w₀.heap.size) (hB : ∀ b, S b → b < B) : OwnFrom B (fun (_ : β) W => Kept S w₀ W) :=
  fun _ _ _ _ hs hg hr => hs.grown hS hg (fun k e hk => Nat.lt_irrefl _ (Nat.lt_of_lt_of_le (hB k hk) (hr k e).1))
def IntsS (S : Nat → Prop) (W : World) (A : Option Addr) (zs : List Int) : Prop := zs = [] ∨ ∃ b off, A = some ⟨b, off, none⟩ ∧ S b ∧ ∀ j, j < zs.length → W.cell? ⟨b, off + j, none⟩ = some (.int .i64 (zs[j]?.getD 0))
theorem IntsS.kept {S : Nat → Prop} {A B : World} (h : Kept S A B) {sv : Option Addr} {zs : List Int} : IntsS S A sv zs → IntsS S B sv zs
  | .inl e => .inl e
  | .inr ⟨b, off, e, hb, hc⟩ => .inr ⟨b, off, e, hb, fun j hj => (h.cell (p := ⟨b, off + j, none⟩) hb).trans (hc j hj)⟩
theorem Ints.toS {n₀ : Nat} {S : Nat → Prop} {W : World} {A : Option Addr} {zs : List Int} (h : Ints n₀ W A zs) (hS : ∀ b off, A = some ⟨b, off, none⟩ → 0 < zs.length → S b) : IntsS S W A zs := by
  rcases h with h | ⟨b, off, e, hb, hc⟩
  · exact .inl h
  · rcases Nat.eq_zero_or_pos zs.length with h0 | h0
    · exact .inl (List.eq_nil_of_length_eq_zero h0)
    · exact .inr ⟨b, off, e, hS b off e h0, hc⟩
set_option maxRecDepth 100000 in
set_option maxHeartbeats 2000000 in
theorem backward1_keptS (F : Fence) (n : Nat) (h7 : F.fn 51) (hro : F.round = none) (hn : 1 ≤ n) (S : Nat → Prop) (l Bs b off cap : Nat) (zs : List Int) (hreach : zs.length * 8 ≤ 140737488355328) (hb : S b) (J Jx : List (Int × Int) → World → Prop) (p : Int × Int → Prop) (hp : ∀ k, k < zs.length → p (bk zs k))
    (hY : ∀ pre x W, p x → J pre W → pre.length < zs.length → YieldAt F (n - 1) Try.prog l #[.int .i64 x.1, .int .i64 x.2] W fun e W' =>
      (e = .returned (.bool true) ∧ J (pre ++ [x]) W' ∧ Kept S W W') ∨ (e = .returned (.bool false) ∧ Jx (pre ++ [x]) W'))
    (W : World) (hBs : W.cell? ⟨Bs, 0, none⟩ = some (.slice (some ⟨b, off, none⟩) zs.length cap)) (hBn : S Bs) (hc : ∀ j, j < zs.length → W.cell? ⟨b, off + j, none⟩ = some (.int .i64 (zs[j]?.getD 0))) (h0 : J [] W) :
    CallsIn F n Try.prog 51 #[.func (.yield l) #[] #[], .pointer (some ⟨Bs, 0, none⟩)] W fun e W' => (∃ v, e = .returned v) ∧
      ((∃ ys, ys = upto (bk zs) zs.length ∧ J ys W') ∨ (∃ pre, (∃ k, k ≤ zs.length ∧ pre = upto (bk zs) k) ∧ Jx pre W')) := by
  refine callsIn_of_wp Try.func51 rfl h7 ?_ hro
  simp only [Try.ntmps51, List.size_toArray, List.length_cons, List.length_nil, Nat.reduceAdd, Nat.reduceSub, Array.replicate_succ, Array.replicate_zero, List.push_toArray, List.append_toArray, List.nil_append, List.cons_append]
  gi_wp2
  gi_loopw [3] (fun i wr => ∃ k : Nat, k ≤ zs.length ∧ i = .int .i64 ((zs.length : Int) - 1 - (k : Int)) ∧ J (upto (bk zs) k) wr ∧ Kept S W wr)
    (fun i _ => (intOf i + 1).toNat)
  case atStart => exact ⟨0, Nat.zero_le _, by simp, h0, Kept.refl _ _⟩
  case round =>
    obtain ⟨k, hk, rfl, hJs, hnx⟩ := hrel
    have hBs' : wr.cell? ⟨Bs, 0, none⟩ = some (.slice (some ⟨b, off, none⟩) zs.length cap) := (hnx.cell (p := ⟨Bs, 0, none⟩) hBn).trans hBs
    by_cases hlt : k < zs.length
    · obtain ⟨m, hm⟩ : ∃ m, zs.length - 1 - k = m := ⟨_, rfl⟩
      have hcx : wr.cell? ⟨b, off + m, none⟩ = some (.int .i64 (zs[m]?.getD 0)) := (hnx.cell (p := ⟨b, off + m, none⟩) hb).trans (hc m (by omega))
      have hi : (zs.length : Int) - 1 - (k : Int) = (m : Int) := by omega
      obtain ⟨fn, tmps, assign, body, hy, hR⟩ := hY _ (bk zs k) wr (hp k hlt) hJs (by rw [upto_length]; exact hlt)
      dsimp only [bk] at hy
      rw [hm, hi] at hy
      rw [hi]
      gi_wp2
      refine hR.mono ?_
      rintro e W3 (⟨rfl, hJ3, hk3⟩ | ⟨rfl, hJx3⟩)
      · gi_wp2
        go_roundw
        case rel => exact ⟨k + 1, by omega, by congr 1; omega, by rw [upto_succ]; exact hJ3, hnx.trans hk3⟩
        case measure => simp [intOf]
      · gi_wp2
        refine bodyPost_ret (results_none rfl _ _ _) rfl ?_
        exact ⟨⟨_, rfl⟩, .inr ⟨_, ⟨k + 1, by omega, (upto_succ _ _).symm⟩, hJx3⟩⟩
    · obtain rfl : k = zs.length := by omega
      have hi : (zs.length : Int) - 1 - (zs.length : Int) = -1 := by omega
      rw [hi]
      gi_wp2
      go_end0
      exact ⟨⟨_, rfl⟩, .inl ⟨_, rfl, hJs⟩⟩
/-- what slices.Backward hands back stops; it keeps what lies below a bound -/
theorem backward_stopsS (F : Fence) (n : Nat) (h7 : F.fn 51) (hro : F.round = none) (hn : 1 ≤ n) (w : World) (S : Nat → Prop) (hSs : ∀ b, S b → b < w.heap.size) (Bs cap : Nat) (A : Option Addr) (zs : List Int) (hreach : zs.length * 8 ≤ 140737488355328) (p : Int × Int → Prop) (hp : ∀ k, k < zs.length → p (bk zs k)) (hBs : S Bs)
    (hc : w.cell? ⟨Bs, 0, none⟩ = some (.slice A zs.length cap)) (hI : IntsS S w A zs) :
    SeqStopsK F n Try.prog 51 #[.pointer (some ⟨Bs, 0, none⟩)] (fun x : { x : Int × Int // p x } => #[Value.int .i64 x.1.1, Value.int .i64 x.1.2]) (Kept S) (fun ys => ys.map (·.1) = upto (bk zs) zs.length)
      (fun pre => ∃ k, k ≤ zs.length ∧ pre.map (·.1) = upto (bk zs) k) zs.length w := fun l J Jx W hW _ _ hY h0 => by
  have hc' := (hW.cell (p := ⟨Bs, 0, none⟩) (hSs _ hBs)).trans hc
  rcases hI.kept (Kept.of_below hSs hW) with rfl | ⟨b, off, rfl, hb, hcs⟩
  · exact (backward1_nil_in F n h7 hro l Bs cap A (fun _ W => J [] W) W hc' h0).mono fun e W' ⟨he, hj⟩ => ⟨he, .inl ⟨[], rfl, hj⟩⟩
  · refine (backward1_keptS F n h7 hro hn S l Bs b off cap zs hreach hb (fun pre W => ∃ pre' : List { x : Int × Int // p x }, pre'.map (·.1) = pre ∧ J pre' W) (fun pre W => ∃ pre' : List { x : Int × Int // p x }, pre'.map (·.1) = pre ∧ Jx pre' W) p hp ?_ W hc' hBs hcs ⟨[], rfl, h0⟩).mono ?_
    · rintro pre x W1 hx ⟨pre', rfl, hj⟩ hlen
      refine YieldAt.mono (hY pre' ⟨x, hx⟩ W1 hj (by simpa using hlen)) ?_
      rintro e W' (⟨he, g1, g2⟩ | ⟨he, g1⟩)
      · exact .inl ⟨he, ⟨pre' ++ [⟨x, hx⟩], by simp, g1⟩, g2⟩
      · exact .inr ⟨he, ⟨pre' ++ [⟨x, hx⟩], by simp, g1⟩⟩
    · rintro e W' ⟨he, ⟨ys, rfl, pre', h1, h2⟩ | ⟨pre, ⟨k, hk, rfl⟩, pre', h1, h2⟩⟩
      · exact ⟨he, .inl ⟨pre', h1, h2⟩⟩
      · exact ⟨he, .inr ⟨pre', ⟨k, hk, h1⟩, h2⟩⟩
theorem flat_at {α : Type} {sz : Nat} {enc : α → List Value} (hl : ∀ x, (enc x).length = sz) {xs : List α} {j : Nat} {x : α} (hx : xs[j]? = some x) {i : Nat} (hi : i < sz) : (xs.flatMap enc)[j * sz + i]? = (enc x)[i]? := by
  induction xs generalizing j with
  | nil => simp at hx
  | cons y ys ih =>
    cases j with
    | zero =>
      simp at hx; subst hx
      simp [List.getElem?_append_left (show i < (enc y).length by rw [hl]; exact hi)]
    | succ j =>
      simp at hx
      rw [List.flatMap_cons, List.getElem?_append_right (by rw [hl, Nat.succ_mul]; omega), ← ih hx, hl]
      congr 1; rw [Nat.succ_mul]; omega
theorem add_none (b o n : Nat) : (⟨b, o, none⟩ : Addr).add n = ⟨b, o + n, none⟩ := by unfold Addr.add; split <;> simp_all
theorem cell_two_new (w : World) (x y : Value) (t : TypeId) : ∀ j u, [x, y][j]? = some u → (w.alloc (.cells #[x, y] t)).cell? ((⟨w.heap.size, 0, none⟩ : Addr).add j) = some u := by
  intro j u hj
  have hb : Box (w.alloc (.cells #[x, y] t)) w.heap.size t #[x, y] := World.alloc_heap_new w _
  rw [show (⟨w.heap.size, 0, none⟩ : Addr).add j = ⟨w.heap.size, j, none⟩ by unfold Addr.add; split <;> simp_all, hb.cell j]
  simpa using hj
theorem info24 : (Try.prog.info? 24).map (fun i => (i.zero, i.size, i.bytes)) = some (some (.agg #[.int .i64 0, .int .i64 0]), 2, 16) := by kernel_rfl
/-- what has been collected -/
def collB (x1 : List api_Node) (q : api_Range) (pre : List { x : Int × Int // 0 ≤ x.2 ∧ x.2 < (x1.length : Int) }) : List api_Range := (pre.map fun y => byt (ix x1 y.1.2)).foldl (stepS q) [q]
theorem collB_snoc {x1 : List api_Node} {q : api_Range} {pre : List { x : Int × Int // 0 ≤ x.2 ∧ x.2 < (x1.length : Int) }} (x : { x : Int × Int // 0 ≤ x.2 ∧ x.2 < (x1.length : Int) }) : collB x1 q (pre ++ [x]) = stepS q (collB x1 q pre) (byt (ix x1 x.1.2)) := by simp [collB]
theorem stepS_le {α : Type} [DecidableEq α] (q : α) (out : List α) (z : α) : out.length ≤ (stepS q out z).length ∧ (stepS q out z).length ≤ out.length + 1 := by unfold stepS; split <;> simp
theorem collB_len {x1 : List api_Node} {q : api_Range} (pre : List { x : Int × Int // 0 ≤ x.2 ∧ x.2 < (x1.length : Int) }) : 0 < (collB x1 q pre).length ∧ (collB x1 q pre).length ≤ pre.length + 1 := by
  unfold collB
  suffices h : ∀ (zs : List api_Range) (out : List api_Range), out.length ≤ (zs.foldl (stepS q) out).length ∧ (zs.foldl (stepS q) out).length ≤ zs.length + out.length by
    have := h (pre.map fun y => byt (ix x1 y.1.2)) [q]; simp at this; omega
  intro zs
  induction zs with
  | nil => intro out; simp
  | cons z zs ih => intro out; have := ih (stepS q out z); have := stepS_le q out z; simp; omega
theorem Loc.of_own {w w' : World} {r : List api_Range} {v : Value} (h : w'.ownsRow w.heap.size 24 2 v r.length (r.flatMap enc_api_Range)) (hb : Below w.heap.size w w') :
    ∃ A0 : Option Addr, ∃ n0 : Nat, ∃ c0 : Nat, v = .slice A0 n0 c0 ∧ B.Loc w w' [.own (.slice A0 n0 c0) 24 2 n0 (r.flatMap enc_api_Range)] [St w []] ∧ Ow w.heap.size A0 n0 c0 r := by
  have h9 := Orow.of_owns h
  rcases h.2 with ⟨rfl, h0⟩ | ⟨g, cap, cur, rfl, h1, h2, h3, h4, h5, h6⟩
  · have hr : r = [] := List.eq_nil_of_length_eq_zero h0
    subst hr
    exact ⟨none, 0, 0, rfl, ⟨⟨hb.os, hb.tape, hb.output, hb.size⟩, fun e he => by rw [List.mem_singleton.1 he]; exact h9, by simp, fun s hs => by
      rw [List.mem_singleton.1 hs]; exact ⟨hb.size, fun b hb2 => ⟨hb.block b hb2.1, fun e he => by rw [List.mem_singleton.1 he]; simp [Ent.blk, Value.ownBlock]⟩⟩⟩, Ow.nil⟩
  · refine ⟨some ⟨g, 0, none⟩, r.length, cap, rfl, ⟨⟨hb.os, hb.tape, hb.output, hb.size⟩, fun e he => by rw [List.mem_singleton.1 he]; exact h9, by simp, fun s hs => ?_⟩, ⟨rfl, fun _ => rfl, h3, h4, fun b hb2 => by simp [Value.ownBlock] at hb2; omega⟩⟩
    rw [List.mem_singleton.1 hs]
    refine ⟨hb.size, fun b hb2 => ⟨hb.block b hb2.1, fun e he => ?_⟩⟩
    rw [List.mem_singleton.1 he]
    have := hb2.1
    simp [Ent.blk, Value.ownBlock]
    intro e; subst e
    have h7 : b < w.heap.size := this
    omega
set_option maxRecDepth 100000 in
set_option maxHeartbeats 4000000 in
theorem steps_fast {w : World} {x1 : List api_Node} {x6 q : api_Range} {A2 : Option Addr} {n3 c4 : Nat} {l : List Int} {r : List api_Range} (h5 : Rw k_api_Node w (St w []).av A2 n3 c4 x1)
    (hT : ∀ w1, Calls Try.prog 34 #[.agg #[.int .i64 x6.from_, .int .i64 x6.to]] w1 (fun e w' => e = .returned (.agg #[.int .i64 q.from_, .int .i64 q.to]) ∧ B.Loc w1 w' [] [St w1 []]))
    (hN : ∀ w1, Rw k_api_Node w1 (St w1 []).av A2 n3 c4 x1 → Calls Try.prog 37 #[.slice A2 n3 c4] w1 (fun e w' => e = .returned (.bool true) ∧ B.Loc w1 w' [] [St w1 []]))
    (hW : ∀ w1, Rw k_api_Node w1 (St w1 []).av A2 n3 c4 x1 → Calls Try.prog 33 #[.slice A2 n3 c4, .agg #[.int .i64 q.from_, .int .i64 q.to]] w1 (fun e w' => ∃ A0 : Option Addr, ∃ n0 : Nat, ∃ c0 : Nat, e = .returned (.slice A0 n0 c0) ∧ B.Loc w1 w' [.own (.slice A0 n0 c0) 3 1 n0 (l.flatMap (eI .i64))] [St w1 []] ∧ Ow w1.heap.size A0 n0 c0 l))
    (hB : ∀ w1 (x : api_Node), Calls Try.prog 36 #[.agg #[.string x.name, .bool x.named, .string x.field, .int .i64 x.from_, .int .i64 x.to, .int .i64 x.kids, .int .i64 x.leaf]] w1 (fun e w' => e = .returned (.agg #[.int .i64 x.from_, .int .i64 x.to]) ∧ B.Loc w1 w' [] [St w1 []]))
    (hin : ∀ y ∈ l, 0 ≤ y ∧ y < (x1.length : Int)) (hll : (l.length + 1) * 16 ≤ 140737488355328) (hr : r = stepsB (fun y => byt (ix x1 y)) q l) :
    Calls Try.prog 14 #[.slice A2 n3 c4, .agg #[.int .i64 x6.from_, .int .i64 x6.to]] w (fun e w' => ∃ A0 : Option Addr, ∃ n0 : Nat, ∃ c0 : Nat, e = .returned (.slice A0 n0 c0) ∧ B.Loc w w' [.own (.slice A0 n0 c0) 24 2 n0 (r.flatMap enc_api_Range)] [St w []] ∧ Ow w.heap.size A0 n0 c0 r) := by
  refine (callsIn_wide (n := 9)).1 ?_
  refine callsIn_of_wp_marks Try.func14 rfl trivial ?_ rfl
  simp only [Try.ntmps14, List.size_toArray, List.length_cons, List.length_nil, Nat.reduceAdd, Nat.reduceSub, Array.replicate_succ, Array.replicate_zero, List.push_toArray, List.append_toArray, List.nil_append, List.cons_append]
  have h34 : Fence.wide.fn 34 := trivial
  have h33 : Fence.wide.fn 33 := trivial
  have h35 : Fence.wide.fn 35 := trivial
  have h36 : Fence.wide.fn 36 := trivial
  have h37 : Fence.wide.fn 37 := trivial
  have hrow : ∀ {W : World}, Below w.heap.size w W → Rw k_api_Node W (St W []).av A2 n3 c4 x1 := fun hb => h5.mono fun b hb2 => ⟨⟨Nat.lt_of_lt_of_le hb2.1 hb.size, by simp, trivial⟩, hb.block b hb2.1⟩
  have hT' : CallsIn Fence.wide 8 Try.prog 34 #[.agg #[.int .i64 x6.from_, .int .i64 x6.to]] ((w.alloc (.cells #[.slice A2 n3 c4] 22)).alloc (.cells #[.int .i64 x6.from_, .int .i64 x6.to] 24))
      (fun e w1 => e = .returned (.agg #[.int .i64 q.from_, .int .i64 q.to]) ∧ Box w1 w.heap.size 22 #[.slice A2 n3 c4] ∧ Box w1 (w.heap.size + 1) 24 #[.int .i64 x6.from_, .int .i64 x6.to] ∧ Below w.heap.size w w1 ∧
        w1.cell? ⟨w.heap.size + 1, 0, none⟩ = some (.int .i64 x6.from_) ∧ w1.cell? ⟨w.heap.size + 1, 1, none⟩ = some (.int .i64 x6.to) ∧ w1.frozen? ⟨w.heap.size + 1, 0, none⟩ = false ∧ w1.frozen? ⟨w.heap.size + 1, 1, none⟩ = false ∧ w1.cell? ⟨w.heap.size, 0, none⟩ = some (.slice A2 n3 c4)) := by
    refine ((callsIn_wide (n := 8)).2 (hT _)).mono ?_
    rintro e w1 ⟨rfl, hL1⟩
    obtain ⟨W0, hW0⟩ : ∃ W0, (w.alloc (.cells #[.slice A2 n3 c4] 22)).alloc (.cells #[.int .i64 x6.from_, .int .i64 x6.to] 24) = W0 := ⟨_, rfl⟩
    rw [hW0] at hL1
    have hs0 : W0.heap.size = w.heap.size + 2 := by rw [← hW0]; simp
    have b0 : Box W0 w.heap.size 22 #[.slice A2 n3 c4] := by
      unfold Box; rw [← hW0]; exact (Below.heap_alloc _ _ _ (by simp)).trans (World.alloc_heap_new w _)
    have b1 : Box W0 (w.heap.size + 1) 24 #[.int .i64 x6.from_, .int .i64 x6.to] := by
      unfold Box; rw [← hW0]
      have := World.alloc_heap_new (w.alloc (.cells #[.slice A2 n3 c4] 22)) (.cells #[.int .i64 x6.from_, .int .i64 x6.to] 24); rwa [World.size_alloc] at this
    have hBW : Below w.heap.size w W0 := by rw [← hW0]; exact ((Below.refl _ w).alloc (Nat.le_refl _) _).alloc (by simp) _
    obtain ⟨_, hb1⟩ := Loc.keeps hL1
    have b0' := b0.keep hb1 (by omega)
    have b1' := b1.keep hb1 (by omega)
    exact ⟨rfl, b0', b1', hBW.trans (hb1.mono (by omega)), b1'.cell 0, b1'.cell 1, b1'.froz 0, b1'.froz 1, b0'.cell 0⟩
  gi_wp2_with (gi_at_call 34; refine hT'.mono ?_; rintro e w1 ⟨rfl, b0, b1, hBW, c10, c11, f10, f11, c00⟩; have d0 := (((b0.other (p := ⟨w.heap.size + 1, 0, none⟩) (.int .i64 q.from_) (by simp)).other (p := ⟨w.heap.size + 1, 1, none⟩) (.int .i64 q.to) (by simp)).alloc (.cells #[.int .i64 q.from_, .int .i64 q.to] 24)).alloc (.cells #[.slice (some ⟨w1.heap.size, 0, none⟩) 1 1] 29); have d00 := d0.cell 0; simp at d00)
  have d1 := (((b1.set 0 (.int .i64 q.from_)).set 1 (.int .i64 q.to)).alloc (.cells #[.int .i64 q.from_, .int .i64 q.to] 24)).alloc (.cells #[.slice (some ⟨w1.heap.size, 0, none⟩) 1 1] 29)
  simp only [List.setIfInBounds_toArray, List.set_cons_zero, List.set_cons_succ] at d1
  have hBW2 := (((hBW.setCell (p := ⟨w.heap.size + 1, 0, none⟩) (by show w.heap.size ≤ w.heap.size + 1; omega) (.int .i64 q.from_)).setCell (p := ⟨w.heap.size + 1, 1, none⟩) (by show w.heap.size ≤ w.heap.size + 1; omega) (.int .i64 q.to)).alloc (by simpa using hBW.size) (.cells #[.int .i64 q.from_, .int .i64 q.to] 24)).alloc (by have := hBW.size; simp; omega) (.cells #[.slice (some ⟨w1.heap.size, 0, none⟩) 1 1] 29)
  have dr : Box ((((w1.setCell ⟨w.heap.size + 1, 0, none⟩ (.int .i64 q.from_)).setCell ⟨w.heap.size + 1, 1, none⟩ (.int .i64 q.to)).alloc (.cells #[.int .i64 q.from_, .int .i64 q.to] 24)).alloc (.cells #[.slice (some ⟨w1.heap.size, 0, none⟩) 1 1] 29)) w1.heap.size 24 #[.int .i64 q.from_, .int .i64 q.to] := by
    refine Box.alloc ?_ _
    unfold Box
    have := World.alloc_heap_new ((w1.setCell ⟨w.heap.size + 1, 0, none⟩ (.int .i64 q.from_)).setCell ⟨w.heap.size + 1, 1, none⟩ (.int .i64 q.to)) (.cells #[.int .i64 q.from_, .int .i64 q.to] 24)
    simpa using this
  have d5 : Box ((((w1.setCell ⟨w.heap.size + 1, 0, none⟩ (.int .i64 q.from_)).setCell ⟨w.heap.size + 1, 1, none⟩ (.int .i64 q.to)).alloc (.cells #[.int .i64 q.from_, .int .i64 q.to] 24)).alloc (.cells #[.slice (some ⟨w1.heap.size, 0, none⟩) 1 1] 29)) (w1.heap.size + 1) 29 #[.slice (some ⟨w1.heap.size, 0, none⟩) 1 1] := by
    unfold Box
    have := World.alloc_heap_new (((w1.setCell ⟨w.heap.size + 1, 0, none⟩ (.int .i64 q.from_)).setCell ⟨w.heap.size + 1, 1, none⟩ (.int .i64 q.to)).alloc (.cells #[.int .i64 q.from_, .int .i64 q.to] 24)) (.cells #[.slice (some ⟨w1.heap.size, 0, none⟩) 1 1] 29)
    rw [World.size_alloc] at this
    simpa using this
  have hsw := b1.lt
  obtain ⟨m1, hm1⟩ : ∃ m1, w1.heap.size = m1 := ⟨_, rfl⟩
  rw [hm1] at hsw d0 d1 dr d5 hBW2 ⊢
  clear d00 b0 b1 hBW c10 c11 f10 f11 c00
  generalize (((w1.setCell { block := w.heap.size + 1, off := 0 } (Value.int IntKind.i64 q.from_)).setCell { block := w.heap.size + 1, off := 1 } (Value.int IntKind.i64 q.to)).alloc (Obj.cells #[Value.int IntKind.i64 q.from_, Value.int IntKind.i64 q.to] 24)).alloc (Obj.cells #[Value.slice (some { block := m1, off := 0 }) 1 1] 29) = W2 at *
  clear hm1
  refine ((callsIn_wide (n := 8)).2 (hN W2 (hrow hBW2))).mono ?_
  rintro e w2 ⟨rfl, hL2⟩
  obtain ⟨_, hb2⟩ := Loc.keeps hL2
  have e0 := d0.keep hb2 d0.lt
  have e1 := d1.keep hb2 d1.lt
  have e5 := d5.keep hb2 d5.lt
  have er := dr.keep hb2 dr.lt
  have hBW3 := hBW2.trans (hb2.mono hBW2.size)
  have c00 := e0.cell 0
  have c10 := e1.cell 0
  have c11 := e1.cell 1
  simp at c00 c10 c11
  gi_wp2
  refine ((callsIn_wide (n := 8)).2 (hW w2 (hrow hBW3))).mono ?_
  rintro e w4 ⟨A0, n0, c0, rfl, hL4, hO⟩
  obtain ⟨hk4, hb4⟩ := Loc.keeps hL4
  have u0 := e0.keep hb4 e0.lt
  have u5 := e5.keep hb4 e5.lt
  have ur := er.keep hb4 er.lt
  have hBW4 := hBW3.trans (hb4.mono hBW3.size)
  gi_wp2_with (gi_at_call 35; refine (backward_in Fence.wide 8 trivial rfl _ _ _ _).mono ?_; rintro e w' ⟨rfl, rfl⟩)
  obtain ⟨W3, hW3⟩ : ∃ W3, w4.alloc (.cells #[.slice A0 n0 c0] 45) = W3 := ⟨_, rfl⟩
  have hs3 : W3.heap.size = w4.heap.size + 1 := by rw [← hW3]; simp
  have hl4 : Below w4.heap.size w4 W3 := by rw [← hW3]; exact (Below.refl _ w4).alloc (Nat.le_refl _) _
  have g0 := u0.keep hl4 u0.lt
  have g5 := u5.keep hl4 u5.lt
  have gr := ur.keep hl4 ur.lt
  have gx : Box W3 w4.heap.size 45 #[.slice A0 n0 c0] := by unfold Box; rw [← hW3]; exact World.alloc_heap_new w4 _
  have hBW5 : Below w.heap.size w W3 := hBW4.trans (hl4.mono hBW4.size)
  have hsz := hBW4.size
  have z0 := u0.lt
  have z5 := u5.lt
  have hR0 : Rw (kInt .i64) w4 (St w4 []).av A0 n0 c0 l := by
    have := hL4.argO (dk := kInt .i64) (M0 := []) (rest := [.own (.slice A0 n0 c0) 3 1 n0 (l.flatMap (eI .i64))]) (List.Perm.refl _) [] rfl 0 rfl rfl hO (List.mem_singleton.2 rfl) (Cells.flat _)
    exact this
  have hI0 : Ints W3.heap.size W3 A0 l := Ints.of_row (hR0.mono (w' := W3) (F' := (St w4 []).av) fun b hb => ⟨hb, hl4.block b hb.1⟩) (fun b hb => by have := hb.1; show b < W3.heap.size; have h9 : b < w4.heap.size := this; omega)
  have hOr := hL4.ok _ (List.mem_singleton.2 rfl)
  have hn0 : n0 = l.length := hO.hq
  subst hn0
  rw [hW3]
  let S : Nat → Prop := fun b => ∃ cs T fz, W3.heap[b]? = some (.cells cs T fz) ∧ T ≠ 24 ∧ T ≠ 29
  have hSs : ∀ b, S b → b < W3.heap.size := fun b ⟨_, _, _, hb, _⟩ => (Array.getElem?_eq_some_iff.1 hb).1
  have hSx : S w4.heap.size := ⟨_, _, _, gx, by decide, by decide⟩
  have hS0 : S w.heap.size := ⟨_, _, _, g0, by decide, by decide⟩
  have hS5 : ¬ S (m1 + 1) := fun ⟨_, _, _, hb, _, h9⟩ => by rw [show W3.heap[m1 + 1]? = _ from g5] at hb; cases hb; exact h9 rfl
  have hIS : IntsS S W3 A0 l := hI0.toS fun b off e hp => by
    rcases hOr.2 with ⟨_, h9⟩ | ⟨g, cap, cur, fz, hv, hg, _⟩
    · omega
    · cases e; cases hv
      exact ⟨_, _, _, (hl4.block _ (Array.getElem?_eq_some_iff.1 hg).1).trans hg, by decide, by decide⟩
  refine wpIn_rangeFunc_ownF rfl (by omega) (gf := 51) (lb := #[.pointer (some ⟨w4.heap.size, 0, none⟩)]) rfl trivial (enters_of Try.func51 (by kernel_rfl) rfl)
    (backward_stopsS Fence.wide 8 trivial rfl (by omega) W3 S hSs w4.heap.size c0 A0 l (by omega) (fun x => 0 ≤ x.2 ∧ x.2 < (x1.length : Int)) (fun k hk => ?hp) hSx (gx.cell 0) hIS)
    (fun h1 h2 => h1.trans h2) (fun W l o o' hl h h1 h2 => (Kept.refl S W).grown (fun b hb => ?sz) (grownBy_putObj' W l o') (fun k e hk => by cases e; exact Nat.lt_irrefl _ (Nat.lt_of_lt_of_le (hSs _ hk) hl))) (Below.refl _ _) (fun _ => rfl)
    (fun pre W => (∃ v, Boxed W (m1 + 1) 29 v ∧ W.ownsRow w.heap.size 24 2 v (collB x1 q pre).length ((collB x1 q pre).flatMap enc_api_Range) ∧ True) ∧ (Below w.heap.size w W ∧ Kept S W3 W))
    (fun c pre W => False)
    (OwnFrom.and (Own.from (holdsRow_own w.heap.size (m1 + 1) 29 24 2 (fun pre => (collB x1 q pre).length) (fun pre => (collB x1 q pre).flatMap enc_api_Range) (fun _ _ => True)) _) (OwnFrom.and (ownFrom_below (Nat.le_refl _) (by omega)) (ownFrom_kept hSs hSs)))
    (fun c _ _ _ _ hs _ _ => hs)
    ⟨⟨_, g5, ⟨rfl, .inr ⟨m1, 1, _, rfl, by omega, gr, Nat.le_refl _, by decide, rfl, rfl⟩⟩, trivial⟩, hBW5, Kept.refl _ _⟩
    (fun x => { tmps := #[.slice A2 n3 c4, .agg #[.int .i64 x6.from_, .int .i64 x6.to], .pointer (some ⟨w.heap.size, 0, none⟩), .pointer (some ⟨w.heap.size + 1, 0, none⟩), .slice none 0 0, .pointer (some ⟨m1 + 1, 0, none⟩), undef, .int .i64 x.1.2, undef, .agg #[.int .i64 x6.from_, .int .i64 x6.to], .agg #[.int .i64 q.from_, .int .i64 q.to], .agg #[.int .i64 q.from_, .int .i64 q.to], .slice (some ⟨m1, 0, none⟩) 1 1, .slice A2 n3 c4, .bool true, .bool false, undef, undef, undef, .slice A2 n3 c4, .agg #[.int .i64 q.from_, .int .i64 q.to], .slice A0 l.length c0, .func (.func 51) #[] #[.pointer (some ⟨w4.heap.size, 0, none⟩)], .int .i64 x.1.1, .int .i64 x.1.2, undef, undef, undef, undef, undef, undef, undef, undef, undef, undef, undef, undef, undef, undef, undef, undef, undef, undef], defers := [] }) ?assign ?body ?done ?stop
  case hp =>
    have hk' : l.length - 1 - k < l.length := by omega
    have e : (bk l k).2 = l[l.length - 1 - k] := by unfold bk; simp [hk']
    show 0 ≤ (bk l k).2 ∧ (bk l k).2 < _
    rw [e]
    exact hin _ (List.getElem_mem hk')
  case sz => have := hSs b hb; have := (Array.getElem?_eq_some_iff.1 h).1; omega
  case assign =>
    intro l x W K hK
    gi_wp2
    exact hK
  case body =>
    rintro lr pre x W ⟨⟨v, hv, hrw, -⟩, hB4, hKS⟩ hlt
    have hd : 1 ≤ 9 - 1 - 1 := by omega
    have k0 : Box W w.heap.size 22 #[.slice A2 n3 c4] := (hKS.block _ hS0).trans g0
    obtain ⟨j, hj⟩ : ∃ j : Nat, x.1.2 = (j : Int) := ⟨x.1.2.toNat, by have := x.2.1; omega⟩
    have hjl : j < x1.length := by have := x.2.2; omega
    have hRW := hrow hB4
    have hcl := collB_len (x1 := x1) (q := q) pre
    have hcs := collB_snoc (x1 := x1) (q := q) (pre := pre) x
    obtain ⟨out, hout⟩ : ∃ out, collB x1 q pre = out := ⟨_, rfl⟩
    rw [hout] at hrw hcl hcs
    obtain ⟨K, hK⟩ : ∃ K, out.length = K + 1 := ⟨out.length - 1, by omega⟩
    rw [hK] at hrw
    obtain ⟨g', cap', rfl⟩ := ownsRow_succ hrw
    have c00 := k0.cell 0
    simp at c00
    have hlen := hRW.hq
    subst hlen
    obtain ⟨b9, off9, rfl, hc9⟩ := node_cells hRW hjl
    obtain ⟨y, hy⟩ : ∃ y, ix x1 (j : Int) = y := ⟨_, rfl⟩
    rw [hy] at hc9
    obtain ⟨hb0, hb1, hb2, hb3, hb4, hb5, hb6⟩ := hc9
    rw [hj, hy] at hcs
    rw [hj]
    gi_wp2_with (gi_at_call 36; refine (CallsIn.inRound lr ((callsIn_wide (n := 9 - 1 - 1 - 1)).2 (hB _ y))).mono ?_; rintro e w5 ⟨rfl, hL5⟩)
    obtain ⟨hko, hb5w⟩ := Loc.keeps hL5
    have hv5 : Box w5 (m1 + 1) 29 #[.slice (some ⟨g', 0, none⟩) (K + 1) cap'] := Box.keep hv hb5w (Boxed.lt hv)
    have hrw5 : w5.ownsRow w.heap.size 24 2 (.slice (some ⟨g', 0, none⟩) (K + 1) cap') (K + 1) (out.flatMap enc_api_Range) := by
      have h9 := hrw.lt g' rfl
      refine ⟨hrw.1, .inr ?_⟩
      rcases hrw.2 with ⟨h0, _⟩ | ⟨g, cap, cur, hv9, h1, h2, h3⟩
      · cases h0
      · cases hv9
        exact ⟨_, _, cur, rfl, h1, (hb5w.block _ h9.2).trans h2, h3⟩
    have v8 : Box (w5.alloc (.cells #[.int .i64 y.from_, .int .i64 y.to] 24)) w5.heap.size 24 #[.int .i64 y.from_, .int .i64 y.to] := by unfold Box; exact World.alloc_heap_new w5 _
    have v5 := hv5.alloc (.cells #[.int .i64 y.from_, .int .i64 y.to] 24)
    have rw6 := hrw5.alloc (.cells #[.int .i64 y.from_, .int .i64 y.to] 24)
    have hk6 := hko.trans (KeepsOthers.alloc w5 (.cells #[.int .i64 y.from_, .int .i64 y.to] 24))
    have hb6 : Below W.heap.size W (w5.alloc (.cells #[.int .i64 y.from_, .int .i64 y.to] 24)) := hb5w.alloc hb5w.size _
    obtain ⟨m8, hm8⟩ : ∃ m8, w5.heap.size = m8 := ⟨_, rfl⟩
    rw [hm8] at v8 ⊢
    have hm8W : W.heap.size ≤ m8 := by rw [← hm8]; exact hb5w.size
    have hm8' : m1 + 1 < m8 := by have := Boxed.lt hv; omega
    generalize w5.alloc (.cells #[.int .i64 y.from_, .int .i64 y.to] 24) = W6 at *
    obtain ⟨z, hz⟩ : ∃ z, out[K]? = some z := ⟨out[K], List.getElem?_eq_getElem _⟩
    have hcell := rw6.cells (g := g') rfl
    have z0' : W6.cell? ⟨g', K * 2, none⟩ = some (.int .i64 z.from_) := by
      have := hcell (K * 2) (.int .i64 z.from_) (flat_at (enc := enc_api_Range) hl_api_Range hz (show 0 < 2 by omega))
      simpa [add_none] using this
    have z1' : W6.cell? ⟨g', K * 2 + 1, none⟩ = some (.int .i64 z.to) := by
      have := hcell (K * 2 + 1) (.int .i64 z.to) (flat_at (enc := enc_api_Range) hl_api_Range hz (show 1 < 2 by omega))
      simpa [add_none] using this
    have c80 := v8.cell 0
    have c81 := v8.cell 1
    have c50 := v5.cell 0
    simp at c80 c81 c50
    have hw0 : IntKind.i64.wrap (K : Int) = (K : Int) := by rw [show IntKind.i64.wrap (K : Int) = wrap64 (K : Int) from IntWalk.i64_left _]; unfold wrap64; omega
    have hlast : out.getLast?.getD q = z := by rw [List.getLast?_eq_getElem?, hK, Nat.add_sub_cancel, hz]; rfl
    have hYz : byt y = z ↔ y.from_ = z.from_ ∧ y.to = z.to := by unfold byt; rcases z with ⟨z1, z2⟩; simp
    have rwd : W6.drew.ownsRow w.heap.size 24 2 (.slice (some ⟨g', 0, none⟩) (K + 1) cap') (K + 1) (out.flatMap enc_api_Range) := rw6
    have vd : Boxed W6.drew (m1 + 1) 29 (.slice (some ⟨g', 0, none⟩) (K + 1) cap') := v5
    obtain ⟨i0, hi, hz0, hz1, hz2⟩ := info_parts info24
    have hm1 : K + 1 + 1 ≤ maxLen := by show K + 1 + 1 ≤ 9223372036854775807; omega
    have hm2 : (K + 1 + 1) * 16 ≤ 140737488355328 := by omega
    have hm4 : w.heap.size ≤ W6.drew.heap.size := by show w.heap.size ≤ W6.heap.size; have := hB4.size; have := hb6.size; omega
    have hm3 : w.heap.size ≤ (W6.drew.alloc (.cells #[.int .i64 y.from_, .int .i64 y.to] 24)).heap.size := by rw [World.size_alloc]; omega
    have hm5 : w.heap.size ≤ m1 + 1 := by omega
    have hSW : ∀ b, S b → b < W.heap.size := fun b hb => Nat.lt_of_lt_of_le (hSs b hb) hKS.size
    have hnS : ∀ k, some g' = some k → ¬ S k := fun k e ⟨cs, T, fz, h1, h2, h3⟩ => by
      cases e
      rcases hrw.2 with ⟨h0, _⟩ | ⟨g, cap, cur, hv9, h4, h5, h6⟩
      · cases h0
      · cases hv9
        have := (hKS.block g' ⟨cs, T, fz, h1, h2, h3⟩).symm.trans h5
        rw [h1] at this
        simp at this
        exact h2 this.2.1
    have fin : ∀ {w1 : World} {v' : Value}, byt y ≠ z → Boxed (w1.setCell ⟨m1 + 1, 0, none⟩ v') (m1 + 1) 29 v' → (w1.setCell ⟨m1 + 1, 0, none⟩ v').ownsRow w.heap.size 24 2 v' (K + 1 + 1) (out.flatMap enc_api_Range ++ enc_api_Range (byt y)) →
        KeepsOthers W6.drew (w1.setCell ⟨m1 + 1, 0, none⟩ v') → Below w.heap.size W6.drew (w1.setCell ⟨m1 + 1, 0, none⟩ v') → Kept S W w1 →
        KeepsOthers W (w1.setCell ⟨m1 + 1, 0, none⟩ v') ∧ Kept S W (w1.setCell ⟨m1 + 1, 0, none⟩ v') ∧ ((∃ v, Boxed (w1.setCell ⟨m1 + 1, 0, none⟩ v') (m1 + 1) 29 v ∧ (w1.setCell ⟨m1 + 1, 0, none⟩ v').ownsRow w.heap.size 24 2 v (collB x1 q (pre ++ [x])).length ((collB x1 q (pre ++ [x])).flatMap enc_api_Range) ∧ True) ∧ (Below w.heap.size w (w1.setCell ⟨m1 + 1, 0, none⟩ v') ∧ Kept S W3 (w1.setCell ⟨m1 + 1, 0, none⟩ v'))) := by
      intro w1 v' hd h1 h2 h3 h4 h5
      have h6 := h5.setCell (p := ⟨m1 + 1, 0, none⟩) hS5 v'
      refine ⟨(hk6.trans (KeepsOthers.drew _)).trans h3, h6, ⟨v', h1, ?_, trivial⟩, (hB4.trans ((hb6.mono hB4.size).drew)).trans h4, hKS.trans h6⟩
      rw [hcs]
      unfold stepS
      rw [hlast, if_neg hd, List.length_append, hK, List.flatMap_append]
      simpa using h2
    by_cases hq1 : y.from_ = z.from_
    · by_cases hq2 : y.to = z.to
      · rw [← hq1] at z0'
        rw [← hq2] at z1'
        refine reg8_eq c80 c81 c50 z0' z1' hw0 ?_
        have he := hYz.2 ⟨hq1, hq2⟩
        clear hq1 hq2
        gi_wp2
        refine ⟨hk6.trans (KeepsOthers.drew _), Kept.of_below hSW hb6.drew, ⟨_, vd, ?_, trivial⟩, hB4.trans (hb6.mono hB4.size).drew, hKS.trans (Kept.of_below hSW hb6.drew)⟩
        rw [hcs]
        unfold stepS
        rw [hlast, if_pos he, hK]
        exact rwd
      · rw [← hq1] at z0'
        refine reg8_ne2 c80 c81 c50 z0' z1' hq2 hw0 ?_
        have hd : byt y ≠ z := fun e => hq2 (hYz.1 e).2
        clear hq1 hq2
        gi_wp2_with (gi_at_builtin; refine wpListIn_append_own _ rfl _ _ 29 rfl w.heap.size 24 i0 (.agg #[.int .i64 0, .int .i64 0]) 2 16 un_29 hi hz0 hz1 hz2 rfl (by decide) _ _ _ rfl (rwd.alloc _) ⟨W6.heap.size, 0, none⟩ 1 1 (enc_api_Range (byt y)) rfl rfl (cell_two_new _ _ _ _) (h1_api_Range _) hm1 hm2 hm3 ?_; intro v' w1 hown' hgrow _; obtain ⟨g2, cap2, rfl⟩ := ownsRow_succ hown'; obtain ⟨hv1, hv2, hr2, hk2, hb2'⟩ := Boxed.appended (tmp := .cells #[.int .i64 y.from_, .int .i64 y.to] 24) vd (by decide) rwd hm4 hm5 hown' hgrow; have hc1 := hv1.cell; have hf1 := hv1.frozen)
        exact fin hd hv2 hr2 hk2 hb2' (Kept.grown (B := W6.drew.alloc (.cells #[.int .i64 y.from_, .int .i64 y.to] 24)) hSW (Kept.alloc hSW (Kept.of_below hSW hb6.drew) _) hgrow hnS)
    · refine reg8_ne1 c80 c81 c50 z0' z1' hq1 hw0 ?_
      have hd : byt y ≠ z := fun e => hq1 (hYz.1 e).1
      clear hq1
      gi_wp2_with (gi_at_builtin; refine wpListIn_append_own _ rfl _ _ 29 rfl w.heap.size 24 i0 (.agg #[.int .i64 0, .int .i64 0]) 2 16 un_29 hi hz0 hz1 hz2 rfl (by decide) _ _ _ rfl (rwd.alloc _) ⟨W6.heap.size, 0, none⟩ 1 1 (enc_api_Range (byt y)) rfl rfl (cell_two_new _ _ _ _) (h1_api_Range _) hm1 hm2 hm3 ?_; intro v' w1 hown' hgrow _; obtain ⟨g2, cap2, rfl⟩ := ownsRow_succ hown'; obtain ⟨hv1, hv2, hr2, hk2, hb2'⟩ := Boxed.appended (tmp := .cells #[.int .i64 y.from_, .int .i64 y.to] 24) vd (by decide) rwd hm4 hm5 hown' hgrow; have hc1 := hv1.cell; have hf1 := hv1.frozen)
      exact fin hd hv2 hr2 hk2 hb2' (Kept.grown (B := W6.drew.alloc (.cells #[.int .i64 y.from_, .int .i64 y.to] 24)) hSW (Kept.alloc hSW (Kept.of_below hSW hb6.drew) _) hgrow hnS)
  case done =>
    rintro D xs W hD hall ⟨⟨v, hv, hrw, -⟩, hB4, hKS⟩ hK
    have hc := hv.cell
    gi_wp2
    refine ⟨by simp, .inl ⟨_, _, rfl, run_takeDeferred hK, ?_⟩⟩
    have hrq : r = collB x1 q xs := by
      rw [hr]
      have e := congrArg (List.map Prod.snd) hall
      rw [upto_snd l _ (Nat.le_refl _), List.take_of_length_le (by simp)] at e
      unfold stepsB collB
      rw [← e]
      simp [List.map_map, Function.comp_def]
    rw [← hrq] at hrw
    exact ⟨_, results_tmp rfl _ _ _, by
      obtain ⟨A1, n1, c1, rfl, h1, h2⟩ := Loc.of_own (ownsRow_putObj hrw (.deferred none) hK rfl) (hB4.trans (belowK_b (w := w) (Nat.le_refl _) W D _ _ (by omega) hK rfl rfl))
      exact ⟨A1, n1, c1, rfl, h1, h2⟩⟩
  case stop =>
    rintro D c pre W hD _ h _
    exact h.elim
end Go.Proofs.Ytoifgnogoddmlaa.W
