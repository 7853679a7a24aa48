/- choose.Steps, walked by hand: the way on which the list is handed on (a forest that is not nested). Conditions: contracts of the functions that it calls. -/
import Derived.Test.YtoifgnogoddmlaaG3
namespace Go.Proofs.Ytoifgnogoddmlaa.W
open Go.RowKit Go.Shelf Go.Proofs.Ytoifgnogoddmlaa.B Go.Proofs.Ytoifgnogoddmlaa.K Go.Proofs.Ytoifgnogoddmlaa.R
attribute [local go_sem] Oper.semAt_some
theorem Loc.down {w w2 w' : World} {M : List Ent} {m1 : Nat} (h : B.Loc w2 w' M [St w2 [[m1]]]) (hb : Below w.heap.size w w2) (hm : w.heap.size ≤ m1) : B.Loc w w' M [St w []] := by
  refine ⟨Env.trans ⟨hb.os, hb.tape, hb.output, hb.size⟩ h.env, h.ok, h.apart, fun s hs => ?_⟩
  rw [List.mem_singleton.1 hs]
  obtain ⟨h1, h2⟩ := h.snap _ (List.mem_singleton.2 rfl)
  refine ⟨Nat.le_trans hb.size h1, fun b hb2 => ?_⟩
  have h3 : b < w.heap.size := hb2.1
  have h4 := h2 b ⟨Nat.lt_of_lt_of_le h3 hb.size, by simp; omega, trivial⟩
  exact ⟨h4.1.trans (hb.block b h3), h4.2⟩
set_option maxRecDepth 100000 in
set_option maxHeartbeats 4000000 in
theorem steps_slow {w : World} {x1 : List api_Node} {x6 q : api_Range} {A2 : Option Addr} {n3 c4 : Nat} {r : List api_Range} (h5 : Rw k_api_Node w (St w []).av A2 n3 c4 x1)
    (hT : ∀ w1, Calls Try.prog 34 #[.agg #[.int .i64 x6.from_, .int .i64 x6.to]] w1 (fun e w' => e = .returned (.agg #[.int .i64 q.from_, .int .i64 q.to]) ∧ B.Loc w1 w' [] [St w1 []]))
    (hN : ∀ w1, Rw k_api_Node w1 (St w1 []).av A2 n3 c4 x1 → Calls Try.prog 37 #[.slice A2 n3 c4] w1 (fun e w' => e = .returned (.bool false) ∧ B.Loc w1 w' [] [St w1 []]))
    (hS : ∀ w1 (A7 : Option Addr) (n8 c9 z : Nat), Rw k_api_Node w1 (St w1 [(Value.slice A7 n8 c9).ownBlock.toList]).av A2 n3 c4 x1 → z ≤ w1.heap.size → Ow z A7 n8 c9 [q] → B.Loc w1 w1 [.own (.slice A7 n8 c9) 24 2 n8 ([q].flatMap enc_api_Range)] [Sm w1.heap.size (fun _ => False) w1 [(Value.slice A7 n8 c9).ownBlock.toList], St w1 [(Value.slice A7 n8 c9).ownBlock.toList]] →
      Calls Try.prog 38 #[.slice A2 n3 c4, .slice A7 n8 c9] w1 (fun e w' => ∃ A0 : Option Addr, ∃ n0 : Nat, ∃ c0 : Nat, e = .returned (.slice A0 n0 c0) ∧ B.Loc w1 w' [.own (.slice A0 n0 c0) 24 2 n0 (r.flatMap enc_api_Range)] [St w1 [(Value.slice A7 n8 c9).ownBlock.toList]] ∧ Ow z A0 n0 c0 r)) :
    Calls Try.prog 14 #[.slice A2 n3 c4, .agg #[.int .i64 x6.from_, .int .i64 x6.to]] w (fun e w' => ∃ A0 : Option Addr, ∃ n0 : Nat, ∃ c0 : Nat, e = .returned (.slice A0 n0 c0) ∧ B.Loc w w' [.own (.slice A0 n0 c0) 24 2 n0 (r.flatMap enc_api_Range)] [St w []] ∧ Ow w.heap.size A0 n0 c0 r) := by
  refine (callsIn_wide (n := 9)).1 ?_
  refine callsIn_of_wp_marks Try.func14 rfl trivial ?_ rfl
  simp only [Try.ntmps14, List.size_toArray, List.length_cons, List.length_nil, Nat.reduceAdd, Nat.reduceSub, Array.replicate_succ, Array.replicate_zero, List.push_toArray, List.append_toArray, List.nil_append, List.cons_append]
  have h34 : Fence.wide.fn 34 := trivial
  have h33 : Fence.wide.fn 33 := trivial
  have h35 : Fence.wide.fn 35 := trivial
  have h36 : Fence.wide.fn 36 := trivial
  have h37 : Fence.wide.fn 37 := trivial
  have h38 : Fence.wide.fn 38 := trivial
  have hrow : ∀ {W : World}, Below w.heap.size w W → Rw k_api_Node W (St W []).av A2 n3 c4 x1 := fun hb => h5.mono fun b hb2 => ⟨⟨Nat.lt_of_lt_of_le hb2.1 hb.size, by simp, trivial⟩, hb.block b hb2.1⟩
  have hT' : CallsIn Fence.wide 8 Try.prog 34 #[.agg #[.int .i64 x6.from_, .int .i64 x6.to]] ((w.alloc (.cells #[.slice A2 n3 c4] 22)).alloc (.cells #[.int .i64 x6.from_, .int .i64 x6.to] 24))
      (fun e w1 => e = .returned (.agg #[.int .i64 q.from_, .int .i64 q.to]) ∧ Box w1 w.heap.size 22 #[.slice A2 n3 c4] ∧ Box w1 (w.heap.size + 1) 24 #[.int .i64 x6.from_, .int .i64 x6.to] ∧ Below w.heap.size w w1 ∧
        w1.cell? ⟨w.heap.size + 1, 0, none⟩ = some (.int .i64 x6.from_) ∧ w1.cell? ⟨w.heap.size + 1, 1, none⟩ = some (.int .i64 x6.to) ∧ w1.frozen? ⟨w.heap.size + 1, 0, none⟩ = false ∧ w1.frozen? ⟨w.heap.size + 1, 1, none⟩ = false ∧ w1.cell? ⟨w.heap.size, 0, none⟩ = some (.slice A2 n3 c4)) := by
    refine ((callsIn_wide (n := 8)).2 (hT _)).mono ?_
    rintro e w1 ⟨rfl, hL1⟩
    obtain ⟨W0, hW0⟩ : ∃ W0, (w.alloc (.cells #[.slice A2 n3 c4] 22)).alloc (.cells #[.int .i64 x6.from_, .int .i64 x6.to] 24) = W0 := ⟨_, rfl⟩
    rw [hW0] at hL1
    have hs0 : W0.heap.size = w.heap.size + 2 := by rw [← hW0]; simp
    have b0 : Box W0 w.heap.size 22 #[.slice A2 n3 c4] := by
      unfold Box; rw [← hW0]; exact (Below.heap_alloc _ _ _ (by simp)).trans (World.alloc_heap_new w _)
    have b1 : Box W0 (w.heap.size + 1) 24 #[.int .i64 x6.from_, .int .i64 x6.to] := by
      unfold Box; rw [← hW0]
      have := World.alloc_heap_new (w.alloc (.cells #[.slice A2 n3 c4] 22)) (.cells #[.int .i64 x6.from_, .int .i64 x6.to] 24); rwa [World.size_alloc] at this
    have hBW : Below w.heap.size w W0 := by rw [← hW0]; exact ((Below.refl _ w).alloc (Nat.le_refl _) _).alloc (by simp) _
    obtain ⟨_, hb1⟩ := Loc.keeps hL1
    have b0' := b0.keep hb1 (by omega)
    have b1' := b1.keep hb1 (by omega)
    exact ⟨rfl, b0', b1', hBW.trans (hb1.mono (by omega)), b1'.cell 0, b1'.cell 1, b1'.froz 0, b1'.froz 1, b0'.cell 0⟩
  gi_wp2_with (gi_at_call 34; refine hT'.mono ?_; rintro e w1 ⟨rfl, b0, b1, hBW, c10, c11, f10, f11, c00⟩; have d0 := (((b0.other (p := ⟨w.heap.size + 1, 0, none⟩) (.int .i64 q.from_) (by simp)).other (p := ⟨w.heap.size + 1, 1, none⟩) (.int .i64 q.to) (by simp)).alloc (.cells #[.int .i64 q.from_, .int .i64 q.to] 24)).alloc (.cells #[.slice (some ⟨w1.heap.size, 0, none⟩) 1 1] 29); have d00 := d0.cell 0; simp at d00)
  have d1 := (((b1.set 0 (.int .i64 q.from_)).set 1 (.int .i64 q.to)).alloc (.cells #[.int .i64 q.from_, .int .i64 q.to] 24)).alloc (.cells #[.slice (some ⟨w1.heap.size, 0, none⟩) 1 1] 29)
  simp only [List.setIfInBounds_toArray, List.set_cons_zero, List.set_cons_succ] at d1
  have hBW2 := (((hBW.setCell (p := ⟨w.heap.size + 1, 0, none⟩) (by show w.heap.size ≤ w.heap.size + 1; omega) (.int .i64 q.from_)).setCell (p := ⟨w.heap.size + 1, 1, none⟩) (by show w.heap.size ≤ w.heap.size + 1; omega) (.int .i64 q.to)).alloc (by simpa using hBW.size) (.cells #[.int .i64 q.from_, .int .i64 q.to] 24)).alloc (by have := hBW.size; simp; omega) (.cells #[.slice (some ⟨w1.heap.size, 0, none⟩) 1 1] 29)
  have dr : Box ((((w1.setCell ⟨w.heap.size + 1, 0, none⟩ (.int .i64 q.from_)).setCell ⟨w.heap.size + 1, 1, none⟩ (.int .i64 q.to)).alloc (.cells #[.int .i64 q.from_, .int .i64 q.to] 24)).alloc (.cells #[.slice (some ⟨w1.heap.size, 0, none⟩) 1 1] 29)) w1.heap.size 24 #[.int .i64 q.from_, .int .i64 q.to] := by
    refine Box.alloc ?_ _
    unfold Box
    have := World.alloc_heap_new ((w1.setCell ⟨w.heap.size + 1, 0, none⟩ (.int .i64 q.from_)).setCell ⟨w.heap.size + 1, 1, none⟩ (.int .i64 q.to)) (.cells #[.int .i64 q.from_, .int .i64 q.to] 24)
    simpa using this
  have d5 : Box ((((w1.setCell ⟨w.heap.size + 1, 0, none⟩ (.int .i64 q.from_)).setCell ⟨w.heap.size + 1, 1, none⟩ (.int .i64 q.to)).alloc (.cells #[.int .i64 q.from_, .int .i64 q.to] 24)).alloc (.cells #[.slice (some ⟨w1.heap.size, 0, none⟩) 1 1] 29)) (w1.heap.size + 1) 29 #[.slice (some ⟨w1.heap.size, 0, none⟩) 1 1] := by
    unfold Box
    have := World.alloc_heap_new (((w1.setCell ⟨w.heap.size + 1, 0, none⟩ (.int .i64 q.from_)).setCell ⟨w.heap.size + 1, 1, none⟩ (.int .i64 q.to)).alloc (.cells #[.int .i64 q.from_, .int .i64 q.to] 24)) (.cells #[.slice (some ⟨w1.heap.size, 0, none⟩) 1 1] 29)
    rw [World.size_alloc] at this
    simpa using this
  have hsw := b1.lt
  obtain ⟨m1, hm1⟩ : ∃ m1, w1.heap.size = m1 := ⟨_, rfl⟩
  rw [hm1] at hsw d0 d1 dr d5 hBW2 ⊢
  clear d00 b0 b1 hBW c10 c11 f10 f11 c00
  generalize (((w1.setCell { block := w.heap.size + 1, off := 0 } (Value.int IntKind.i64 q.from_)).setCell { block := w.heap.size + 1, off := 1 } (Value.int IntKind.i64 q.to)).alloc (Obj.cells #[Value.int IntKind.i64 q.from_, Value.int IntKind.i64 q.to] 24)).alloc (Obj.cells #[Value.slice (some { block := m1, off := 0 }) 1 1] 29) = W2 at *
  clear hm1
  refine ((callsIn_wide (n := 8)).2 (hN W2 (hrow hBW2))).mono ?_
  rintro e w2 ⟨rfl, hL2⟩
  obtain ⟨_, hb2⟩ := Loc.keeps hL2
  have e0 := d0.keep hb2 d0.lt
  have e5 := d5.keep hb2 d5.lt
  have er := dr.keep hb2 dr.lt
  have hBW3 := hBW2.trans (hb2.mono hBW2.size)
  have c00 := e0.cell 0
  have c50 := e5.cell 0
  simp at c00 c50
  have hsz := hBW3.size
  gi_wp2
  have hw0 : Orow w2 24 2 (.slice (some ⟨m1, 0, none⟩) 1 1) 1 ([q].flatMap enc_api_Range) := Orow.of_owns (base := w.heap.size) ⟨rfl, .inr ⟨m1, 1, _, rfl, by omega, er, Nat.le_refl _, by decide, rfl, rfl⟩⟩
  refine ((callsIn_wide (n := 8)).2 (hS w2 (some ⟨m1, 0, none⟩) 1 1 w.heap.size ?r1 hsz ⟨rfl, fun _ => rfl, Nat.le_refl _, by decide, fun b hb => by simp [Value.ownBlock] at hb; omega⟩ ?r2)).mono ?_
  case r1 =>
    exact h5.mono fun b hb => ⟨⟨Nat.lt_of_lt_of_le hb.1 hBW3.size, fun o ho => by simp [Value.ownBlock] at ho; subst ho; have := hb.1; have h9 : b < w.heap.size := this; simp; omega, trivial⟩, hBW3.block b hb.1⟩
  case r2 =>
    refine ⟨Env.refl _, fun e he => by rw [List.mem_singleton.1 he]; exact hw0, by simp, fun s hs => ?_⟩
    simp only [List.mem_cons, List.not_mem_nil, or_false] at hs
    rcases hs with rfl | rfl
    · refine ⟨Nat.le_refl _, fun b hb => ?_⟩
      have h1 : b < w2.heap.size := hb.1
      rcases hb.2.2 with h2 | h2
      · have h3 : w2.heap.size ≤ b := h2
        omega
      · exact h2.elim
    · refine ⟨Nat.le_refl _, fun b hb => ⟨rfl, fun e he => ?_⟩⟩
      rw [List.mem_singleton.1 he]
      exact hb.2.1 _ (by simp [Ent.blk])
  rintro e w9 ⟨A0, n0, c0, rfl, hL9, hO9⟩
  gi_wp2
  exact ⟨_, results_tmp rfl _ _ _, A0, n0, c0, rfl, Loc.down (m1 := m1) hL9 hBW3 (by omega), hO9⟩
end Go.Proofs.Ytoifgnogoddmlaa.W
