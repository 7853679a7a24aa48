/- Queries: the law QueryPrints. Condition: sizes. -/
import Derived.Test.YtjookebbmfiidaaDoorSJ
import Derived.Test.YtjookebbmfiidaaDoorST
set_option linter.unusedVariables false
namespace Go.Proofs.YtjookebbmfiidaaDoor.L
open Go.Proofs.YtjookebbmfiidaaDoor.B Go.Proofs.YtjookebbmfiidaaDoor.R
abbrev markN (i : Nat) : api_PatNode := ⟨noB, false, noB, noB, 900 + (i : Int)⟩
abbrev markC : api_Cond := ⟨false, noB, noB, ⟨#[109, 97, 114, 107]⟩⟩
def marksN (n : Nat) : List api_PatNode := (List.range n).map markN
theorem marksN_succ (n : Nat) : marksN (n + 1) = marksN n ++ [markN n] := by unfold marksN; rw [List.range_succ, List.map_append]; rfl
theorem marksN_len (n : Nat) : (marksN n).length = n := by unfold marksN; simp
theorem qlent {q : api_Query} (h1 : q.nodes.length ≤ 2 ^ 30) (h2 : q.conds.length ≤ 2 ^ 30) : trellislaw20_lent q (⟨q.nodes ++ marksN 20, q.conds ++ List.replicate 20 markC⟩, q.nodes.length, q.conds.length) := by
 refine ⟨q, qtwin (by omega) (by omega), ?_⟩
 have key : ∀ (d i : Nat), 20 - i = d → i ≤ 20 → Rounds (fun (s : Int × (List api_PatNode) × (List api_Cond)) o => trellislaw20_lent_b1 q s.1 s.2.1 s.2.2 o) ((i : Int), q.nodes ++ marksN i, q.conds ++ List.replicate i markC) (⟨q.nodes ++ marksN 20, q.conds ++ List.replicate 20 markC⟩, q.nodes.length, q.conds.length) := by
  intro d
  induction d with
  | zero =>
   intro i hd hi
   have : i = 20 := by omega
   subst this
   refine .done ?_
   dsimp only
   unfold trellislaw20_lent_b1
   rw [if_neg (by decide)]
   refine ⟨⟨by omega, by omega, by rw [List.length_append]; omega⟩, ⟨by omega, by omega, by rw [List.length_append]; omega⟩, ?_⟩
   rw [Int.toNat_natCast, Int.toNat_natCast]
  | succ d ih =>
   intro i hd hi
   refine .next (s' := (((i + 1 : Nat) : Int), q.nodes ++ marksN (i + 1), q.conds ++ List.replicate (i + 1) markC)) ?_ (ih (i + 1) (by omega) (by omega))
   dsimp only
   unfold trellislaw20_lent_b1
   rw [if_pos (by omega)]
   have hn := marksN_len i
   refine ⟨_, rfl, by simp only [List.length_append, List.length_cons, List.length_nil]; omega, _, rfl, by simp only [List.length_append, List.length_cons, List.length_nil, List.length_replicate]; omega, ?_⟩
   rw [w64_id (x := 900 + (i : Int)) (by omega), w64_id (by omega), marksN_succ, List.replicate_succ', List.append_assoc, List.append_assoc]
   rfl
 have := key _ 0 rfl (by decide)
 simpa [marksN] using this
theorem qstill {q : api_Query} (h1 : q.nodes.length ≤ 2 ^ 30) (h2 : q.conds.length ≤ 2 ^ 30) : trellislaw20_still ⟨q.nodes ++ marksN 20, q.conds ++ List.replicate 20 markC⟩ q.nodes.length q.conds.length q true := by
 unfold trellislaw20_still
 have hl1 : (q.nodes ++ marksN 20).length = q.nodes.length + 20 := by rw [List.length_append, marksN_len]
 have hl2 : (q.conds ++ List.replicate 20 markC).length = q.conds.length + 20 := by rw [List.length_append, List.length_replicate]
 have e1 : w64 ((q.nodes.length : Int) + 20) = ((q.nodes.length + 20 : Nat) : Int) := by rw [w64_id (by omega)]; rfl
 have e2 : w64 ((q.conds.length : Int) + 20) = ((q.conds.length + 20 : Nat) : Int) := by rw [w64_id (by omega)]; rfl
 refine ⟨⟨by rw [e1]; omega, by rw [e1]; show _ ≤ ((q.nodes ++ marksN 20).length : Int); rw [hl1]; exact Int.le_refl _⟩, ⟨by rw [e2]; omega, by rw [e2]; show _ ≤ ((q.conds ++ List.replicate 20 markC).length : Int); rw [hl2]; exact Int.le_refl _⟩, ?_⟩
 have t1 : (q.nodes ++ marksN 20).take (q.nodes.length + 20) = q.nodes ++ marksN 20 := List.take_of_length_le (by omega)
 have t2 : (q.conds ++ List.replicate 20 markC).take (q.conds.length + 20) = q.conds ++ List.replicate 20 markC := List.take_of_length_le (by omega)
 refine Rounds.cnt 20 (fun i hi => ?_) ?_
 ·unfold trellislaw20_still_b1
  dsimp only
  rw [if_pos (by omega), e1, e2, Int.toNat_natCast, Int.toNat_natCast, t1, t2, w64_id (x := (q.nodes.length : Int) + (i : Int)) (by omega), w64_id (x := (q.conds.length : Int) + (i : Int)) (by omega), w64_id (x := 900 + (i : Int)) (by omega), hl1, hl2]
  refine ⟨⟨by omega, by omega⟩, ?_⟩
  have x1 : ix (q.nodes ++ marksN 20) ((q.nodes.length : Int) + (i : Int)) = markN i := by
   rw [show (q.nodes.length : Int) + (i : Int) = ((q.nodes.length + i : Nat) : Int) by omega, ix_el (by omega), List.getElem_append_right (by omega)]
   simp [marksN]
  have x2 : ix (q.conds ++ List.replicate 20 markC) ((q.conds.length : Int) + (i : Int)) = markC := by
   rw [show (q.conds.length : Int) + (i : Int) = ((q.conds.length + i : Nat) : Int) by omega, ix_el (by omega), List.getElem_append_right (by omega), List.getElem_replicate]
  rw [x1, if_pos rfl]
  refine ⟨⟨by omega, by omega⟩, ?_⟩
  rw [x2, if_pos rfl, w64_id (by omega)]
 ·unfold trellislaw20_still_b1
  rw [if_neg (by decide)]
  refine ⟨true, ?_, rfl⟩
  dsimp only
  rw [List.take_left, List.take_left]
  exact qsame (q := q) (by omega) (by omega)
theorem qagain {q : api_Query} (h1 : q.nodes.length ≤ 2 ^ 30) (h2 : q.conds.length ≤ 2 ^ 30) (hz : SzQ q) : trellislaw20_again q true := by
 obtain ⟨p, p1, p2⟩ := print_both hz
 refine ⟨q, qtwin (by omega) (by omega), p, p2, _, refshaped_ok hz, _, qshaped_ok hz, p, p1, ?_⟩
 rw [if_pos (by simp), if_pos rfl, if_pos rfl]
 exact ⟨true, qsame (by omega) (by omega), rfl⟩
theorem mem_setQ {α : Type} {A : List α} {i : Nat} {y x : α} (h : x ∈ A.set i y) : x = y ∨ x ∈ A := (List.mem_or_eq_of_mem_set h).symm
theorem ix_memI {α : Type} [Inhabited α] {v : List α} {i : Int} (h : 0 ≤ i ∧ i < (v.length : Int)) : ix v i ∈ v := by
 have := ix_mem (v := v) (i := i.toNat) (by omega)
 rwa [Int.toNat_of_nonneg h.1] at this
def SzC (c : api_Cond) : Prop := c.a.size ≤ 1048576 ∧ c.b.size ≤ 1048576 ∧ c.text.size ≤ 1048576
theorem take_sz {q : List api_PatNode} {c : List api_Cond} (h1 : ∀ x ∈ q, SzN x) (h2 : ∀ x ∈ c, SzC x) (k m : Nat) : SzQ ⟨q.take k, c.take m⟩ := ⟨fun x hx => h1 x (List.mem_of_mem_take hx), fun x hx => h2 x (List.mem_of_mem_take hx)⟩
theorem prints_law {q : api_Query} (h1 : q.nodes.length ≤ 2 ^ 21) (h2 : q.conds.length ≤ 2 ^ 21) (hz : SzQ q) : trellislaw20_QueryPrints q true := by
 obtain ⟨b, hb⟩ := beyond_some (v := q.nodes) (by omega)
 refine ⟨b, hb, ?_⟩
 cases b with
 | true => rw [if_pos rfl]
 | false =>
 rw [if_neg (by simp)]
 obtain ⟨p, p1, p2⟩ := print_both hz
 have hmn : (marksN 20).length = 20 := marksN_len 20
 have hN : (q.nodes ++ marksN 20).length = q.nodes.length + 20 := by rw [List.length_append, hmn]
 have hC : (q.conds ++ List.replicate 20 markC).length = q.conds.length + 20 := by rw [List.length_append, List.length_replicate]
 have zN : ∀ x ∈ q.nodes ++ marksN 20, SzN x := fun x hx => by
  rcases List.mem_append.1 hx with hx | hx
  ·exact hz.1 x hx
  ·unfold marksN at hx
   obtain ⟨j, _, rfl⟩ := List.mem_map.1 hx
   have h0 : noB.size ≤ 1048576 := by decide
   exact ⟨h0, h0, h0⟩
 have zC : ∀ x ∈ q.conds ++ List.replicate 20 markC, SzC x := fun x hx => by
  rcases List.mem_append.1 hx with hx | hx
  ·exact hz.2 x hx
  ·rw [List.eq_of_mem_replicate hx]
   exact ⟨by decide, by decide, by decide⟩
 refine ⟨q, qtwin (by omega) (by omega), p, p2, _, refshaped_ok hz, _, qlent (by omega) (by omega), ?_⟩
 dsimp only
 rw [List.take_left, List.take_left]
 refine ⟨_, qshaped_ok hz, p, p1, ?_⟩
 rw [if_neg (by simp), if_pos rfl, if_pos rfl]
 refine ⟨true, qstill (by omega) (by omega), ?_⟩
 unfold trellislaw20_QueryPrints_j1
 rw [if_neg (by simp)]
 have hag : ∀ (A : List api_PatNode) (Cc : List api_Cond), A.length = q.nodes.length + 20 → Cc.length = q.conds.length + 20 → (∀ x ∈ A, SzN x) → (∀ x ∈ Cc, SzC x) → trellislaw20_again ⟨A.take q.nodes.length, Cc.take q.conds.length⟩ true := fun A Cc a1 a2 a3 a4 => qagain (by simp only [List.length_take]; omega) (by simp only [List.length_take]; omega) (take_sz a3 a4 _ _)
 have tl : ∀ (A : List api_PatNode), A.length = q.nodes.length + 20 → (A.take q.nodes.length).length = q.nodes.length := fun A a1 => by rw [List.length_take]; omega
 have tc : ∀ (A : List api_Cond), A.length = q.conds.length + 20 → (A.take q.conds.length).length = q.conds.length := fun A a1 => by rw [List.length_take]; omega
 refine Rounds.to (fun s => s.2.length = q.nodes.length + 20 ∧ (∀ x ∈ s.2, SzN x) ∧ 0 ≤ s.1 ∧ s.1 ≤ (q.nodes.length : Int)) (fun s => ((q.nodes.length : Int) - s.1).toNat) (fun s hi => ?_) ⟨hN, zN, Int.le_refl _, Int.natCast_nonneg _⟩
 obtain ⟨i, A⟩ := s
 obtain ⟨a1, a2, a3, a4⟩ := hi
 dsimp only at a1 a2 a3 a4
 unfold trellislaw20_QueryPrints_b2
 dsimp only
 rw [tl A a1]
 by_cases g : i < (q.nodes.length : Int)
 ·right
  have hm := ix_memI (v := A) (i := i) ⟨a3, by omega⟩
  have hl2 : (A.set i.toNat { (ix A i) with kids := 0 }).length = q.nodes.length + 20 := by rw [List.length_set]; exact a1
  have z2 : ∀ x ∈ A.set i.toNat { (ix A i) with kids := 0 }, SzN x := fun x hx => by
   rcases mem_setQ hx with rfl | hx
   ·exact (show SzN (ix A i) from a2 _ hm)
   ·exact a2 x hx
  have hm2 := ix_memI (v := A.set i.toNat { (ix A i) with kids := 0 }) (i := i) ⟨a3, by omega⟩
  refine ⟨(i + 1, (A.set i.toNat { (ix A i) with kids := 0 }).set i.toNat { (ix (A.set i.toNat { (ix A i) with kids := 0 }) i) with name := ⟨#[119]⟩ }), ?_, ⟨by rw [List.length_set]; exact hl2, fun x hx => ?_, by dsimp only; omega, by dsimp only; omega⟩, by dsimp only; omega⟩
  ·rw [if_pos g]
   refine ⟨⟨a3, g⟩, _, rfl, ⟨a3, by rw [tl _ hl2]; exact g⟩, _, rfl, ?_⟩
   rw [w64_id (by omega)]
  ·rcases mem_setQ hx with rfl | hx
   ·exact ⟨by show (⟨#[119]⟩ : ByteArray).size ≤ _; decide, (z2 _ hm2).2⟩
   ·exact z2 x hx
 ·left
  rw [if_neg g]
  refine Rounds.to (fun s => s.2.length = q.conds.length + 20 ∧ (∀ x ∈ s.2, SzC x) ∧ 0 ≤ s.1 ∧ s.1 ≤ (q.conds.length : Int)) (fun s => ((q.conds.length : Int) - s.1).toNat) (fun s hi => ?_) ⟨hC, zC, Int.le_refl _, Int.natCast_nonneg _⟩
  obtain ⟨j, Cc⟩ := s
  obtain ⟨c1, c2, c3, c4⟩ := hi
  dsimp only at c1 c2 c3 c4
  unfold trellislaw20_QueryPrints_b3
  dsimp only
  rw [tc Cc c1]
  by_cases g2 : j < (q.conds.length : Int)
  ·right
   have e1 : w64 ((q.conds.length : Int) - 1) = (q.conds.length : Int) - 1 := w64_id (by omega)
   have hm := ix_memI (v := Cc) (i := (q.conds.length : Int) - 1) ⟨by omega, by omega⟩
   refine ⟨(j + 1, Cc.set j.toNat (ix Cc ((q.conds.length : Int) - 1))), ?_, ⟨by rw [List.length_set]; exact c1, fun x hx => ?_, by dsimp only; omega, by dsimp only; omega⟩, by dsimp only; omega⟩
   ·rw [if_pos g2, e1]
    refine ⟨⟨by omega, by omega⟩, ⟨c3, g2⟩, _, rfl, ?_⟩
    rw [w64_id (by omega)]
   ·rcases mem_setQ hx with rfl | hx
    ·exact c2 _ hm
    ·exact c2 x hx
  ·left
   rw [if_neg g2]
   refine ⟨true, hag A Cc a1 c1 a2 c2, ?_⟩
   rw [if_pos rfl]
   refine Rounds.to (fun s => s.2.length = q.nodes.length + 20 ∧ (∀ x ∈ s.2, SzN x) ∧ 0 ≤ s.1 ∧ s.1 ≤ (q.nodes.length : Int)) (fun s => ((q.nodes.length : Int) - s.1).toNat) (fun s hi => ?_) ⟨a1, a2, Int.le_refl _, Int.natCast_nonneg _⟩
   obtain ⟨m, D⟩ := s
   obtain ⟨d1, d2, d3, d4⟩ := hi
   dsimp only at d1 d2 d3 d4
   unfold trellislaw20_QueryPrints_b4
   dsimp only
   rw [tl D d1]
   by_cases g3 : m < (q.nodes.length : Int)
   ·right
    refine ⟨(m + 1, D.set m.toNat ⟨⟨#[118]⟩, false, noB, noB, 1⟩), ?_, ⟨by rw [List.length_set]; exact d1, fun x hx => ?_, by dsimp only; omega, by dsimp only; omega⟩, by dsimp only; omega⟩
    ·rw [if_pos g3]
     refine ⟨⟨d3, g3⟩, _, rfl, ?_⟩
     rw [w64_id (by omega)]
    ·rcases mem_setQ hx with rfl | hx
     ·exact ⟨by decide, by decide, by decide⟩
     ·exact d2 x hx
   ·left
    rw [if_neg g3]
    by_cases g4 : (q.nodes.length : Int) > 0
    ·rw [if_pos g4]
     have e1 : w64 ((q.nodes.length : Int) - 1) = (q.nodes.length : Int) - 1 := w64_id (by omega)
     rw [e1]
     have hm := ix_memI (v := D) (i := (q.nodes.length : Int) - 1) ⟨by omega, by omega⟩
     have l5 : (D.set ((q.nodes.length : Int) - 1).toNat { (ix D ((q.nodes.length : Int) - 1)) with kids := 0 }).length = q.nodes.length + 20 := by rw [List.length_set]; exact d1
     have z5 : ∀ x ∈ D.set ((q.nodes.length : Int) - 1).toNat { (ix D ((q.nodes.length : Int) - 1)) with kids := 0 }, SzN x := fun x hx => by
      rcases mem_setQ hx with rfl | hx
      ·exact (show SzN (ix D ((q.nodes.length : Int) - 1)) from d2 _ hm)
      ·exact d2 x hx
     obtain ⟨b, hb⟩ := beyond_some (v := (D.set ((q.nodes.length : Int) - 1).toNat { (ix D ((q.nodes.length : Int) - 1)) with kids := 0 }).take q.nodes.length) (by rw [tl _ l5]; omega)
     refine ⟨⟨by omega, by omega⟩, _, rfl, b, hb, ?_⟩
     cases b with
     | true => rw [if_pos rfl]
     | false =>
      rw [if_neg (by simp)]
      exact ⟨true, hag _ Cc l5 c1 z5 c2, rfl⟩
    ·rw [if_neg g4]
     obtain ⟨b, hb⟩ := beyond_some (v := D.take q.nodes.length) (by rw [tl _ d1]; omega)
     refine ⟨b, hb, ?_⟩
     cases b with
     | true => rw [if_pos rfl]
     | false =>
      rw [if_neg (by simp)]
      exact ⟨true, hag _ Cc d1 c1 d2 c2, rfl⟩
end Go.Proofs.YtjookebbmfiidaaDoor.L
