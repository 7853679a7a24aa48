/- Chapter 32: Pair of the program and of the document; the law ChooseWalks. Conditions: the list fits in memory, its numbers are ints. -/
import Derived.Test.YtoifgnogoddmlaaF6
set_option linter.unusedVariables false
namespace Go.Proofs.Ytoifgnogoddmlaa.L
open Go.Proofs.Ytoifgnogoddmlaa.B Go.Proofs.Ytoifgnogoddmlaa.R
def kx (t : List api_Node) (x : Int) : Int := nk (ix t x)
/-- what one node of the row does -/
def pairF (t : List api_Node) (at_ : Int) (x : Int) (S : List Int) : Sum (List Int) Int :=
  if kx t x > 0 then .inl (S ++ [x])
  else if kx t x < 0 then
    match S.getLast? with
    | none => .inl S
    | some y => if kx t y = - kx t x then (if y = at_ then .inr x else if x = at_ then .inr y else .inl S.dropLast) else .inl S
  else .inl S
theorem nk_named {n : api_Node} (h : n.named = true) : nk n = 0 := by unfold nk; rw [if_pos h]
noncomputable def pairV (t : List api_Node) (i : Int) : Int := runL (pairF t i) (fun _ => -1) (rowF t i) []
theorem pair_val {t : List api_Node} (hl : Fits t) (hw : Wf t) (i : Int) : choose_Pair t i (pairV t i) ∧ trellisref32_Pair t i (pairV t i) := by
  have hn := row_len (t := t) (i := i)
  have hmem := row_mem (t := t) (i := i)
  unfold pairV
  refine ⟨?_, ?_⟩
  all_goals (first | (unfold choose_Pair; refine ⟨_, row_ok hl hw i, ?_⟩) | (unfold trellisref32_Pair; refine ⟨_, refBeside_row hl i, ?_⟩))
  all_goals generalize rowF t i = l at *
  · refine Rounds.row l (fun (S : List Int) j => (S, j)) (pairF t i) (fun _ => -1) (fun j S => S.length ≤ j ∧ ∀ y ∈ S, kx t y > 0 ∧ 0 ≤ y ∧ y < (t.length : Int)) (fun j hj S hS => ?_) (fun S hS => ?_) ⟨Nat.zero_le _, fun y hy => by cases hy⟩
    · obtain ⟨hS1, hS2⟩ := hS
      have hx := hmem _ (List.getElem_mem hj)
      generalize hxe : l[j] = x at *
      have key : choose_Pair_b1 l t i S (j : Int) (match pairF t i x S with | .inl S' => .inl (S', (j : Int) + 1) | .inr r => .inr r) := by
        unfold choose_Pair_b1
        rw [if_pos (by omega), ix_nat hj, hxe, w64_nat (by omega)]
        refine ⟨by omega, hx, ?_⟩
        by_cases n0 : (ix t x).named = true
        · rw [if_pos n0]
          unfold pairF kx
          rw [nk_named n0]
          rfl
        rw [if_neg n0]
        have push : kx t x > 0 → choose_Pair_j2 S l (j : Int) t i true (match pairF t i x S with | .inl S' => .inl (S', (j : Int) + 1) | .inr r => .inr r) := fun h => by
          unfold choose_Pair_j2 pairF
          rw [if_pos rfl, if_pos h, ix_nat hj, hxe, w64_nat (by omega)]
          exact ⟨_, rfl, by simp; omega, rfl⟩
        have none_ : kx t x = 0 → choose_Pair_j3 S (j : Int) i l t false (match pairF t i x S with | .inl S' => .inl (S', (j : Int) + 1) | .inr r => .inr r) := fun h => by
          unfold choose_Pair_j3 pairF
          rw [if_neg (by simp), h, w64_nat (by omega)]
          rfl
        have j4t : ∀ o, o = .inl (S, (j : Int) + 1) → choose_Pair_j4 S (j : Int) i l true o := fun o h => by
          unfold choose_Pair_j4
          rw [if_pos rfl, w64_nat (by omega)]; exact h
        have clo : kx t x < 0 → choose_Pair_j3 S (j : Int) i l t true (match pairF t i x S with | .inl S' => .inl (S', (j : Int) + 1) | .inr r => .inr r) := fun h => by
          have hp : pairF t i x S = (match S.getLast? with | none => .inl S | some y => if kx t y = - kx t x then (if y = i then .inr x else if x = i then .inr y else .inl S.dropLast) else .inl S) := by unfold pairF; rw [if_neg (by omega), if_pos h]
          rw [hp]
          clear hp
          unfold choose_Pair_j3
          rw [if_pos rfl]
          rcases List.eq_nil_or_concat S with rfl | ⟨S0, y, rfl⟩
          · rw [if_pos (by decide)]
            exact j4t _ rfl
          · rw [List.concat_eq_append] at *
            have e0 : w64 (((S0 ++ [y]).length : Int) - 1) = (S0.length : Int) := by rw [w64_id (by simp at hS1 ⊢; omega)]; simp
            obtain ⟨y1, y2⟩ := hS2 y (by simp)
            rw [e0, if_neg (by omega), ix_snoc, List.getLast?_concat]
            refine ⟨by simp; omega, y2, ?_⟩
            rw [ix_nat hj, hxe]
            obtain ⟨c, hc⟩ : ∃ c, choose_opens (ix t x).name c := by
              unfold choose_opens
              by_cases g1 : (ix t x).name = (⟨#[41]⟩ : ByteArray)
              · exact ⟨_, by rw [if_pos g1]⟩
              · by_cases g2 : (ix t x).name = (⟨#[93]⟩ : ByteArray)
                · exact ⟨_, by rw [if_neg g1, if_pos g2]⟩
                · exact ⟨_, by rw [if_neg g1, if_neg g2]⟩
            refine ⟨c, hc, ?_⟩
            have hk := opens_kind (n := ix t x) (m := ix t y) h y1 hc
            simp only
            by_cases g : kx t y = - kx t x
            · rw [if_pos g, seq_t (hk.2 g)]
              show choose_Pair_j4 (S0 ++ [y]) (j : Int) i l false _
              unfold choose_Pair_j4
              rw [if_neg (by simp), ix_nat hj, hxe, e0, ix_snoc, Int.toNat_natCast, take_len, w64_nat (by omega)]
              by_cases g1 : i = x
              · rw [if_pos g1]
                refine ⟨by simp; omega, ?_⟩
                by_cases g2 : y = i
                · rw [if_pos g2]; simp only; rw [g2, ← g1]
                · rw [if_neg g2, if_pos g1.symm]
              · rw [if_neg g1]
                refine ⟨by simp; omega, ?_⟩
                by_cases g2 : i = y
                · rw [if_pos g2, if_pos g2.symm]
                · rw [if_neg g2, if_neg (fun e => g2 e.symm), if_neg (fun e => g1 e.symm)]
                  exact ⟨by simp; omega, _, rfl, by simp⟩
            · rw [if_neg g, seq_f (fun e => g (hk.1 e))]
              exact j4t _ rfl
        have kxe : kx t x = nk (ix t x) := rfl
        unfold nk at kxe
        rw [if_neg n0] at kxe
        have d : ∀ a b : ByteArray, (ix t x).name = a → a ≠ b → (ix t x).name ≠ b := fun a b h1 h2 => by rw [h1]; exact h2
        by_cases c1 : (ix t x).name = (⟨#[40]⟩ : ByteArray)
        · rw [if_neg (d _ _ c1 (by decide)), if_neg (d _ _ c1 (by decide)), if_neg (d _ _ c1 (by decide)), if_pos c1] at kxe
          rw [if_pos c1, seq_t c1]; exact push (by omega)
        rw [if_neg c1]
        by_cases c2 : (ix t x).name = (⟨#[91]⟩ : ByteArray)
        · rw [if_neg (d _ _ c2 (by decide)), if_neg (d _ _ c2 (by decide)), if_neg (d _ _ c2 (by decide)), if_neg c1, if_pos c2] at kxe
          rw [if_pos c2, seq_t c2]; exact push (by omega)
        rw [if_neg c2]
        by_cases c3 : (ix t x).name = (⟨#[123]⟩ : ByteArray)
        · rw [if_neg (d _ _ c3 (by decide)), if_neg (d _ _ c3 (by decide)), if_neg (d _ _ c3 (by decide)), if_neg c1, if_neg c2, if_pos c3] at kxe
          rw [seq_t c3]; exact push (by omega)
        rw [seq_f c3]
        unfold choose_Pair_j2
        rw [if_neg (by simp), ix_nat hj, hxe]
        by_cases c4 : (ix t x).name = (⟨#[41]⟩ : ByteArray)
        · rw [if_neg (d _ _ c4 (by decide)), if_neg (d _ _ c4 (by decide)), if_pos c4] at kxe
          rw [if_pos c4, seq_t c4]; exact clo (by omega)
        rw [if_neg c4]
        by_cases c5 : (ix t x).name = (⟨#[93]⟩ : ByteArray)
        · rw [if_neg (d _ _ c5 (by decide)), if_pos c5] at kxe
          rw [if_pos c5, seq_t c5]; exact clo (by omega)
        rw [if_neg c5]
        by_cases c6 : (ix t x).name = (⟨#[125]⟩ : ByteArray)
        · rw [if_pos c6] at kxe
          rw [seq_t c6]; exact clo (by omega)
        · rw [if_neg c6, if_neg c5, if_neg c4, if_neg c1, if_neg c2, if_neg c3] at kxe
          rw [seq_f c6]; exact none_ (by omega)
      refine ⟨fun S' hS' => ?_, fun r hr => ?_⟩
      · rw [hS'] at key
        refine ⟨key, ?_⟩
        unfold pairF at hS'
        split at hS'
        · rename_i g
          injection hS' with hS'
          subst hS'
          refine ⟨by simp; omega, fun y hy => ?_⟩
          rcases List.mem_append.1 hy with hy | hy
          · exact hS2 y hy
          · simp only [List.mem_singleton] at hy; subst hy; exact ⟨g, hx⟩
        · repeat' split at hS'
          all_goals (first | (cases hS'; done) | (injection hS' with hS'; subst hS'; first | exact ⟨by omega, hS2⟩ | exact ⟨by rw [List.length_dropLast]; omega, fun y hy => hS2 y ((List.dropLast_sublist _).subset hy)⟩))
      · rw [hr] at key; exact key
    · show choose_Pair_b1 l t i S (l.length : Int) _
      unfold choose_Pair_b1
      rw [if_neg (by omega)]
  · refine Rounds.row l (fun (S : List Int) j => (S, j)) (pairF t i) (fun _ => -1) (fun j S => S.length ≤ j ∧ ∀ y ∈ S, 0 ≤ y ∧ y < (t.length : Int)) (fun j hj S hS => ?_) (fun S hS => ?_) ⟨Nat.zero_le _, fun y hy => by cases hy⟩
    · obtain ⟨hS1, hS2⟩ := hS
      have hx := hmem _ (List.getElem_mem hj)
      generalize hxe : l[j] = x at *
      have key : trellisref32_Pair_b1 l t i S (j : Int) (match pairF t i x S with | .inl S' => .inl (S', (j : Int) + 1) | .inr r => .inr r) := by
        unfold trellisref32_Pair_b1
        rw [if_pos (by omega), ix_nat hj, hxe]
        refine ⟨by omega, hx, _, kind_ok _, ?_⟩
        have j3f : ∀ S2 o, o = .inl (S2, (j : Int) + 1) → trellisref32_Pair_j3 S2 i l (j : Int) false o := fun S2 o h => by
          unfold trellisref32_Pair_j3
          rw [if_neg (by simp), w64_nat (by omega)]; exact h
        unfold pairF
        by_cases g1 : kx t x > 0
        · rw [if_pos g1, if_pos (by exact g1)]
          refine ⟨_, rfl, by simp; omega, ?_⟩
          unfold trellisref32_Pair_j2
          rw [if_neg (by have : nk (ix t x) > 0 := g1; omega)]
          exact j3f _ _ rfl
        rw [if_neg g1, if_neg (by exact g1)]
        unfold trellisref32_Pair_j2
        by_cases g2 : kx t x < 0
        · rw [if_pos g2, if_pos (by exact g2)]
          rcases List.eq_nil_or_concat S with rfl | ⟨S0, y, rfl⟩
          · rw [if_neg (by simp)]
            exact j3f _ _ rfl
          · rw [List.concat_eq_append] at *
            have e0 : w64 (((S0 ++ [y]).length : Int) - 1) = (S0.length : Int) := by rw [w64_id (by simp at hS1 ⊢; omega)]; simp
            have y2 := hS2 y (by simp)
            rw [if_pos (by simp), e0, ix_snoc, List.getLast?_concat]
            refine ⟨by simp; omega, y2, _, kind_ok _, ?_⟩
            have hk0 : w64 (0 - nk (ix t x)) = - kx t x := by
              have : -3 ≤ nk (ix t x) ∧ nk (ix t x) ≤ 3 := by unfold nk; repeat' split; all_goals omega
              rw [w64_id (by omega)]; unfold kx; omega
            rw [hk0]
            simp only
            by_cases g : kx t y = - kx t x
            · rw [if_pos g, show (nk (ix t y) == - kx t x) = true by rw [beq_iff_eq]; exact g]
              unfold trellisref32_Pair_j3
              rw [if_pos rfl, e0, ix_snoc, ix_nat hj, hxe, Int.toNat_natCast, take_len, w64_nat (by omega)]
              refine ⟨by simp; omega, by simp; omega, _, rfl, ?_⟩
              by_cases g3 : y = i
              · rw [if_pos g3, if_pos g3]
              · rw [if_neg g3, if_neg g3]
                by_cases g4 : x = i
                · rw [if_pos g4, if_pos g4]
                · rw [if_neg g4, if_neg g4]; simp
            · rw [if_neg g, show (nk (ix t y) == - kx t x) = false by rw [beq_eq_false_iff_ne]; exact g]
              exact j3f _ _ rfl
        · rw [if_neg g2, if_neg (by exact g2)]
          exact j3f _ _ rfl
      refine ⟨fun S' hS' => ?_, fun r hr => ?_⟩
      · rw [hS'] at key
        refine ⟨key, ?_⟩
        unfold pairF at hS'
        split at hS'
        · injection hS' with hS'
          subst hS'
          refine ⟨by simp; omega, fun y hy => ?_⟩
          rcases List.mem_append.1 hy with hy | hy
          · exact hS2 y hy
          · simp only [List.mem_singleton] at hy; subst hy; exact hx
        · repeat' split at hS'
          all_goals (first | (cases hS'; done) | (injection hS' with hS'; subst hS'; first | exact ⟨by omega, hS2⟩ | exact ⟨by rw [List.length_dropLast]; omega, fun y hy => hS2 y ((List.dropLast_sublist _).subset hy)⟩))
      · rw [hr] at key; exact key
    · show trellisref32_Pair_b1 l t i S (l.length : Int) _
      unfold trellisref32_Pair_b1
      rw [if_neg (by omega)]
/-! ### lists lent -/
theorem pair_both {t : List api_Node} (hl : Fits t) (hw : Wf t) (i : Int) : ∃ r, choose_Pair t i r ∧ trellisref32_Pair t i r := ⟨_, pair_val hl hw i⟩
theorem take_snocN {xs : List api_Node} {i : Nat} (h : i < xs.length) : xs.take i ++ [ix xs (i : Int)] = xs.take (i + 1) := by
  rw [ix_nat h, List.take_succ_eq_append_getElem h]
theorem twin_ok {ws : List api_Node} (hl : Fits ws) : trellislaw32_twin ws ws := by
  unfold trellislaw32_twin
  have key := Rounds.upto (B := fun (s : (List api_Node) × Int) o => trellislaw32_twin_b1 ws s.1 s.2 o) (r := ws) (fun i => (ws.take i, (i : Int))) ws.length (fun i hi => ?_) ?_
  · simpa using key
  · show trellislaw32_twin_b1 ws (ws.take i) (i : Int) _
    unfold trellislaw32_twin_b1
    rw [if_pos (by omega), w64_nat (by omega)]
    refine ⟨by omega, _, rfl, by simp; omega, ?_⟩
    rw [take_snocN hi]
    rfl
  · show trellislaw32_twin_b1 ws (ws.take ws.length) (ws.length : Int) _
    unfold trellislaw32_twin_b1
    rw [if_neg (by omega), List.take_length]
def mark (i : Nat) : api_Node := ⟨(⟨#[109, 97, 114, 107]⟩ : ByteArray), false, (⟨#[]⟩ : ByteArray), 900 + (i : Int), 0, 0, 0⟩
def marks : List api_Node := (List.range 20).map mark
theorem marks_take (i : Nat) (hi : i < 20) : ((List.range 20).take i).map mark ++ [mark i] = ((List.range 20).take (i + 1)).map mark := by
  rw [List.take_succ_eq_append_getElem (by simpa using hi), List.map_append]
  simp
theorem lent_ok {ws : List api_Node} (hl : Fits ws) : trellislaw32_lent ws (ws ++ marks, ws.length) := by
  unfold trellislaw32_lent
  refine ⟨_, twin_ok hl, ?_⟩
  have key := Rounds.upto (B := fun (s : (List api_Node) × Int) o => trellislaw32_lent_b1 ws s.1 s.2 o) (r := (ws ++ marks, ws.length)) (fun i => (ws ++ ((List.range 20).take i).map mark, (i : Int))) 20 (fun i hi => ?_) ?_
  · simpa using key
  · show trellislaw32_lent_b1 ws (ws ++ ((List.range 20).take i).map mark) (i : Int) _
    unfold trellislaw32_lent_b1
    rw [if_pos (by omega), w64_nat (by omega), w64_id (x := 900 + (i : Int)) (by omega)]
    refine ⟨_, rfl, by simp; omega, ?_⟩
    rw [List.append_assoc, ← marks_take i hi]
    rfl
  · show trellislaw32_lent_b1 ws (ws ++ ((List.range 20).take 20).map mark) ((20 : Nat) : Int) _
    unfold trellislaw32_lent_b1
    rw [if_neg (by omega)]
    refine ⟨by simp; omega, ?_⟩
    rw [Int.toNat_natCast]
    rfl
theorem same_ok {a b : List api_Node} (ha : Fits a) (h : a = b) : trellislaw32_same a b true := by
  subst h
  unfold trellislaw32_same
  rw [if_pos rfl]
  refine Rounds.cnt a.length (fun i hi => ?_) ?_
  · unfold trellislaw32_same_b1
    rw [if_pos (by omega), w64_nat (by omega), if_pos rfl]
    exact ⟨by omega, by omega, rfl⟩
  · unfold trellislaw32_same_b1
    rw [if_neg (by omega)]
theorem still_ok {ws : List api_Node} (hl : Fits ws) : trellislaw32_still (ws ++ marks) ws.length ws true := by
  have hm : marks.length = 20 := rfl
  unfold trellislaw32_still
  have w1 : w64 ((ws.length : Int) + 20) = ((ws.length + 20 : Nat) : Int) := by rw [w64_id (by omega)]; omega
  rw [w1]
  refine ⟨by rw [List.length_append, hm]; omega, ?_⟩
  refine Rounds.cnt 20 (fun i hi => ?_) ?_ <;> unfold trellislaw32_still_b1
  · rw [if_pos (by omega), w1, Int.toNat_natCast, w64_id (x := (ws.length : Int) + (i : Int)) (by omega), w64_id (x := 900 + (i : Int)) (by omega), w64_nat (by omega), show (ws.length : Int) + (i : Int) = ((ws.length + i : Nat) : Int) by omega]
    rw [List.take_of_length_le (by rw [List.length_append, hm]; exact Nat.le_refl _), ix_nat (by rw [List.length_append, hm]; omega)]
    refine ⟨by rw [List.length_append, hm]; omega, ?_⟩
    have e : (ws ++ marks)[ws.length + i]'(by rw [List.length_append, hm]; omega) = mark i := by
      rw [List.getElem_append_right (by omega)]
      simp [marks]
    rw [if_pos (by rw [e]; rfl)]
  · rw [if_neg (by omega), List.take_append_of_le_length (Nat.le_refl _), List.take_length]
    exact ⟨true, same_ok hl rfl, rfl⟩
theorem walks_ok {ys : List api_Node} (hl : Fits ys) (hw : Wf ys) (i d : Int) (hd : i64 d) : trellislaw32_walks (ys ++ marks) ys.length i d true := by
  unfold trellislaw32_walks
  rw [List.take_append_of_le_length (Nat.le_refl _), List.take_length]
  obtain ⟨b, b1, b2⟩ := beside_both hl hw i d hd
  obtain ⟨p, p1, p2⟩ := pair_both hl hw i
  refine ⟨_, twin_ok hl, b, b2, p, p2, b, b1, ?_⟩
  rw [if_pos rfl]
  refine ⟨p, p1, ?_⟩
  rw [if_pos rfl]
  exact ⟨true, still_ok hl, rfl⟩
/-- a node put in that has no other number of children -/
theorem put_ok {ys : List api_Node} (hw : Wf ys) {j : Nat} (hj : j < ys.length) {v : api_Node} (hv : v.kids = ys[j].kids ∨ v.kids = 0) : (ys ++ marks).set j v = ys.set j v ++ marks ∧ (ys.set j v).length = ys.length ∧ Wf (ys.set j v) := by
  refine ⟨List.set_append_left _ _ hj, List.length_set, fun n hn => ?_⟩
  rcases List.mem_or_eq_of_mem_set hn with h | rfl
  · exact hw n h
  · rcases hv with h | h
    · rw [h]; exact hw _ (List.getElem_mem hj)
    · omega
theorem ix_left {ys : List api_Node} {j : Nat} (hj : j < ys.length) : ix (ys ++ marks) (j : Int) = ys[j] := by
  rw [ix_nat (by rw [List.length_append]; omega), List.getElem_append_left hj]
theorem take_left' {ys : List api_Node} {n : Nat} (h : ys.length = n) : (ys ++ marks).take n = ys := by subst h; rw [List.take_append_of_le_length (Nat.le_refl _), List.take_length]
theorem over_ok {ys : List api_Node} (hl : Fits ys) (hw : Wf ys) : ∃ zs, trellislaw32_over (ys ++ marks) ys.length (zs ++ marks) ∧ zs.length = ys.length ∧ Wf zs := by
  unfold trellislaw32_over
  obtain ⟨n, hn⟩ : ∃ n, n = ys.length := ⟨_, rfl⟩
  have hl : n ≤ 1954687338211 := hn ▸ hl
  rw [← hn]
  have key := Rounds.some (B := fun (s : (List api_Node) × Int) o => trellislaw32_over_b1 n s.1 s.2 o) (P := fun r => ∃ zs, r = zs ++ marks ∧ zs.length = n ∧ Wf zs)
    (fun s => ∃ (j : Nat) (zs : List api_Node), s = (zs ++ marks, (j : Int)) ∧ j ≤ n ∧ zs.length = n ∧ Wf zs) (fun s => n - s.2.toNat) (fun s hs => ?_) (s := (ys ++ marks, 0)) ⟨0, ys, rfl, Nat.zero_le _, hn.symm, hw⟩
  · obtain ⟨r, k1, zs, rfl, k2, k3⟩ := key
    exact ⟨zs, k1, k2, k3⟩
  · obtain ⟨j, zs, rfl, h1, h2, h3⟩ := hs
    simp only [Int.toNat_natCast]
    by_cases hj : j < n
    · right
      have step : ∀ (ws : List api_Node), ws.length = n → Wf ws → ∀ (v : api_Node), v.kids = (ix (ws ++ marks) (j : Int)).kids → (ws ++ marks).set j v = ws.set j v ++ marks ∧ (ws.set j v).length = n ∧ Wf (ws.set j v) := fun ws g1 g2 v hv => by
        have := put_ok g2 (j := j) (by omega) (v := v) (.inl (by rw [hv, ix_left (by omega)]))
        rwa [g1] at this
      have w0 : ∀ ws : List api_Node, ws.length = n → (0 ≤ w64 ((((ws ++ marks).take n).length : Int) - 1) ∧ w64 ((((ws ++ marks).take n).length : Int) - 1) < (((ws ++ marks).take n).length : Int)) ∧ (0 ≤ (j : Int) ∧ (j : Int) < (((ws ++ marks).take n).length : Int)) := fun ws g => by
        rw [take_left' g, g, w64_id (by omega)]
        omega
      obtain ⟨a1, a2, a3⟩ := step zs h2 h3 { (ix (zs ++ marks) (j : Int)) with name := (ix (zs ++ marks) (w64 ((((zs ++ marks).take n).length : Int) - 1))).name } rfl
      generalize zs.set j _ = z1 at a1 a2 a3
      obtain ⟨b1, b2, b3⟩ := step z1 a2 a3 { (ix (z1 ++ marks) (j : Int)) with from_ := (ix (z1 ++ marks) (w64 ((((z1 ++ marks).take n).length : Int) - 1))).from_ } rfl
      generalize z1.set j _ = z2 at b1 b2 b3
      obtain ⟨c1, c2, c3⟩ := step z2 b2 b3 { (ix (z2 ++ marks) (j : Int)) with to := (ix (z2 ++ marks) (w64 ((((z2 ++ marks).take n).length : Int) - 1))).to } rfl
      generalize z2.set j _ = z3 at c1 c2 c3
      refine ⟨(z3 ++ marks, ((j + 1 : Nat) : Int)), ?_, ⟨j + 1, z3, rfl, hj, c2, c3⟩, by simp only [Int.toNat_natCast]; omega⟩
      show trellislaw32_over_b1 n (zs ++ marks) (j : Int) _
      unfold trellislaw32_over_b1
      rw [if_pos (w0 zs h2).2.2]
      refine ⟨(w0 zs h2).1, (w0 zs h2).2, z1 ++ marks, by rw [Int.toNat_natCast]; exact a1.symm, (w0 z1 a2).1, (w0 z1 a2).2, z2 ++ marks, by rw [Int.toNat_natCast]; exact b1.symm, (w0 z2 b2).1, (w0 z2 b2).2, z3 ++ marks, by rw [Int.toNat_natCast]; exact c1.symm, ?_⟩
      rw [w64_nat (by omega)]
      rfl
    · left
      refine ⟨_, ?_, zs, rfl, h2, h3⟩
      show trellislaw32_over_b1 n (zs ++ marks) (j : Int) _
      unfold trellislaw32_over_b1
      rw [take_left' h2, if_neg (by omega)]
theorem bare_ok {ys : List api_Node} (hl : Fits ys) (hw : Wf ys) : ∃ zs, trellislaw32_bare (ys ++ marks) ys.length (zs ++ marks) ∧ zs.length = ys.length ∧ Wf zs := by
  unfold trellislaw32_bare
  obtain ⟨n, hn⟩ : ∃ n, n = ys.length := ⟨_, rfl⟩
  have hl : n ≤ 1954687338211 := hn ▸ hl
  rw [← hn]
  have key := Rounds.some (B := fun (s : (List api_Node) × Int) o => trellislaw32_bare_b1 n s.1 s.2 o) (P := fun r => ∃ zs, r = zs ++ marks ∧ zs.length = n ∧ Wf zs)
    (fun s => ∃ (j : Nat) (zs : List api_Node), s = (zs ++ marks, (j : Int)) ∧ j ≤ n ∧ zs.length = n ∧ Wf zs) (fun s => n - s.2.toNat) (fun s hs => ?_) (s := (ys ++ marks, 0)) ⟨0, ys, rfl, Nat.zero_le _, hn.symm, hw⟩
  · obtain ⟨r, k1, zs, rfl, k2, k3⟩ := key
    exact ⟨zs, k1, k2, k3⟩
  · obtain ⟨j, zs, rfl, h1, h2, h3⟩ := hs
    simp only [Int.toNat_natCast]
    by_cases hj : j < n
    · right
      obtain ⟨a1, a2, a3⟩ := put_ok h3 (j := j) (by omega) (v := { (ix (zs ++ marks) (j : Int)) with kids := 0 }) (.inr rfl)
      generalize zs.set j _ = z1 at a1 a2 a3
      refine ⟨(z1 ++ marks, ((j + 1 : Nat) : Int)), ?_, ⟨j + 1, z1, rfl, hj, by omega, a3⟩, by simp only [Int.toNat_natCast]; omega⟩
      show trellislaw32_bare_b1 n (zs ++ marks) (j : Int) _
      unfold trellislaw32_bare_b1
      rw [take_left' h2, if_pos (by omega)]
      refine ⟨by omega, z1 ++ marks, by rw [Int.toNat_natCast]; exact a1.symm, ?_⟩
      rw [w64_nat (by omega)]
      rfl
    · left
      refine ⟨_, ?_, zs, rfl, h2, h3⟩
      show trellislaw32_bare_b1 n (zs ++ marks) (j : Int) _
      unfold trellislaw32_bare_b1
      rw [take_left' h2, if_neg (by omega)]
theorem walksLaw {t : List api_Node} (hl : Fits t) (hw : Wf t) (i d : Int) (hd : i64 d) : trellislaw32_ChooseWalks t i d true := by
  unfold trellislaw32_ChooseWalks
  obtain ⟨b, hb⟩ := beyond_ok hl hw
  refine ⟨b, hb, ?_⟩
  cases b with
  | true => rw [if_pos rfl]
  | false =>
    rw [if_neg (by simp)]
    refine ⟨_, lent_ok hl, true, walks_ok hl hw i d hd, ?_⟩
    rw [if_pos rfl]
    refine ⟨true, by rw [take_left' rfl]; exact same_ok hl rfl, ?_⟩
    show trellislaw32_ChooseWalks_j1 _ i d false true
    unfold trellislaw32_ChooseWalks_j1
    rw [if_neg (by simp)]
    obtain ⟨zs, o1, o2, o3⟩ := over_ok hl hw
    obtain ⟨us, u1, u2, u3⟩ := bare_ok (ys := zs) (by unfold Fits; omega) o3
    refine ⟨_, o1, true, by have := walks_ok (ys := zs) (by unfold Fits; omega) o3 i d hd; rwa [o2] at this, ?_⟩
    rw [if_pos rfl]
    refine ⟨_, by rw [o2] at u1; exact u1, true, by have := walks_ok (ys := us) (by unfold Fits; omega) u3 i d hd; rwa [u2, o2] at this, rfl⟩
end Go.Proofs.Ytoifgnogoddmlaa.L
