/- Forests: who stands beside whom: the program's row and the document's. Conditions: the list fits in memory, its numbers are ints. -/
import Derived.Test.YtoifgnogoddmlaaF4
set_option linter.unusedVariables false
namespace Go.Proofs.Ytoifgnogoddmlaa.L
open Go.Proofs.Ytoifgnogoddmlaa.B Go.Proofs.Ytoifgnogoddmlaa.R
/-- by place how many nodes the subtree has -/
def szL (t : List api_Node) : List Int := (List.range t.length).map fun i => ((endF t i : Int) - (i : Int))
def szF (t : List api_Node) : List Int := if (sf t 0).isSome = true then szL t else []
theorem szL_len (t : List api_Node) : (szL t).length = t.length := by simp [szL]
theorem szL_get {t : List api_Node} {i : Nat} (h : i < t.length) : (szL t)[i]'(by rw [szL_len]; exact h) = (endF t i : Int) - (i : Int) := by simp [szL]
theorem num_neg {t : List api_Node} : numF t < 0 ↔ (sf t 0).isSome = false := by
  unfold numF
  cases (sf t 0).isSome with
  | true => simp
  | false => simp
theorem end_at {t : List api_Node} {i : Nat} {x : Tre} {e : Nat} {r : List (Tre × Nat)} (h : At t i ((x, e) :: r)) : endF t i = e := by unfold endF; rw [sub_at h]
/-- the sizes, worked out from the end on -/
theorem sizes_run {t : List api_Node} (hl : Fits t) {S0 : List (Tre × Nat)} (h0 : sf t 0 = some S0) : Rounds (fun (s : (List Int) × Int) o => choose_sizes_b1 t s.1 s.2 o) (List.replicate t.length (0 : Int), w64 ((t.length : Int) - 1)) (szL t) := by
  have w0 : w64 ((t.length : Int) - 1) = (t.length : Int) - 1 := w64_id (by omega)
  rw [w0]
  -- what is known behind i
  refine Rounds.to (fun s : (List Int) × Int => ∃ i : Nat, s.2 = (i : Int) - 1 ∧ i ≤ t.length ∧ s.1.length = t.length ∧ ∀ j (hj : j < t.length), i ≤ j → ix s.1 (j : Int) = (endF t j : Int) - (j : Int)) (fun s => (s.2 + 1).toNat) (fun s hs => ?_) ⟨t.length, rfl, Nat.le_refl _, by simp, fun j hj hij => by omega⟩
  obtain ⟨L, k_⟩ := s
  obtain ⟨i, hk, hi, hL, hj⟩ := hs
  simp only at hk hL hj
  subst hk
  cases i with
  | zero =>
    left
    show choose_sizes_b1 t L _ _
    unfold choose_sizes_b1
    rw [if_neg (by omega)]
    refine congrArg Sum.inr ?_
    refine List.ext_getElem (by rw [hL, szL_len]) fun j h1 h2 => ?_
    have := hj j (by omega) (Nat.zero_le _)
    rw [ix_nat h2] at this
    rw [this, szL_get (by omega)]
  | succ i =>
    right
    rw [show ((i + 1 : Nat) : Int) - 1 = (i : Int) by omega]
    obtain ⟨r, hr⟩ := At.sub h0 (i := i) (by omega)
    have hr : At t i (((sub t i).1, (sub t i).2) :: r) := hr
    obtain ⟨ts, k1, k2, k3, k4, k5⟩ := hr.kids (by omega)
    have hp := hr.pos
    have hend : endF t i = (sub t i).2 := rfl
    have hts : ts.length ≤ t.length := by
      have := (sf_en _ _ k1.2).2
      rw [List.length_drop, List.length_append] at this
      omega
    have inner := Rounds.upto (B := fun (s : (List Int) × Int) o => choose_sizes_b2 t (i : Int) s.1 s.2 o) (r := (.inl (L.set i ((endF t i : Int) - (i : Int)), (i : Int) - 1) : Sum ((List Int) × Int) (List Int))) (fun j => (L.set i ((en (i + 1) (ts.take j) : Int) - (i : Int)), (j : Int))) ts.length (fun j hj' => ?_) ?_
    · refine ⟨(L.set i ((endF t i : Int) - (i : Int)), (i : Int) - 1), ?_, ⟨i, rfl, by omega, by rw [List.length_set]; exact hL, fun j hj2 hij => ?_⟩, by simp only; omega⟩
      · show choose_sizes_b1 t L (i : Int) _
        unfold choose_sizes_b1
        rw [if_pos (by omega), Int.toNat_natCast]
        refine ⟨by omega, _, rfl, by omega, ?_⟩
        simpa [en_nil, show ((i : Int) + 1) - (i : Int) = 1 by omega] using inner
      · show ix (L.set i _) (j : Int) = _
        rw [ix_set (by omega)]
        by_cases e : j = i
        · subst e; rw [if_pos rfl]
        · rw [if_neg e]; exact hj j hj2 (by omega)
    · show choose_sizes_b2 t (i : Int) (L.set i ((en (i + 1) (ts.take j) : Int) - (i : Int))) (j : Int) _
      obtain ⟨a1, a2⟩ := k1.nth (j := j) (by rw [List.length_append]; omega)
      rw [List.take_append_of_le_length (by omega)] at a1 a2
      rw [List.getElem_append_left hj'] at a1
      have p := a1.pos
      have hle : en (i + 1) (ts.take (j + 1)) ≤ t.length := by rw [en_take hj']; exact p.2.2.2.1
      unfold choose_sizes_b2
      rw [ix_nat (show i < t.length by omega), if_pos (by omega), ix_set (by omega), if_pos rfl, w64_id (x := (i : Int) + _) (by omega), show (i : Int) + ((en (i + 1) (ts.take j) : Int) - (i : Int)) = (en (i + 1) (ts.take j) : Int) by omega, ix_set (by omega), if_neg (by omega), hj _ p.1 (by omega), end_at a1, w64_nat (by omega)]
      refine ⟨by rw [List.length_set]; omega, by rw [List.length_set]; omega, _, rfl, ?_⟩
      rw [Int.toNat_natCast, List.set_set, w64_id (by omega), en_take hj', show ((en (i + 1) (ts.take j) : Int) - (i : Int)) + ((ts[j].2 : Int) - (en (i + 1) (ts.take j) : Int)) = (ts[j].2 : Int) - (i : Int) by omega]
      rfl
    · show choose_sizes_b2 t (i : Int) (L.set i ((en (i + 1) (ts.take ts.length) : Int) - (i : Int))) (ts.length : Int) _
      unfold choose_sizes_b2
      rw [ix_nat (show i < t.length by omega), if_neg (by omega), List.take_length, k3, hend, w64_id (by omega)]
theorem sizes_ok {t : List api_Node} (hl : Fits t) (hw : Wf t) : choose_sizes t (szF t) := by
  unfold choose_sizes szF
  refine ⟨_, Roots_ok hl hw, ?_⟩
  cases h : sf t 0 with
  | none => rw [if_pos (num_neg.2 (by rw [h]; rfl)), if_neg (by simp)]
  | some S =>
    rw [if_neg (fun g => by have := num_neg.1 g; rw [h] at this; cases this), if_pos (by rfl)]
    exact ⟨by omega, _, by rw [Int.toNat_natCast], sizes_run hl h⟩
/-- the row in which a node stands -/
noncomputable def rowF (t : List api_Node) (i : Int) : List Int := if inB t i = true then (if parF t i ≥ 0 then kidsF t (parF t i) else rootsF t) else []
theorem szF_len {t : List api_Node} {i : Int} : inB t i = true ↔ 0 ≤ i ∧ i < ((szF t).length : Int) := by
  unfold szF
  rw [inB_true]
  cases h : sf t 0 with
  | none => simp
  | some S => simp [szL_len]
theorem row_ok {t : List api_Node} (hl : Fits t) (hw : Wf t) (i : Int) : choose_row t i (rowF t i) := by
  unfold choose_row rowF
  refine ⟨_, sizes_ok hl hw, ?_⟩
  have jt : inB t i = false → choose_row_j1 t i (szF t) true (if inB t i = true then (if parF t i ≥ 0 then kidsF t (parF t i) else rootsF t) else []) := fun h => by
    unfold choose_row_j1
    rw [if_pos rfl, h, if_neg (by simp)]
  cases h : inB t i with
  | false =>
    rw [h] at jt
    by_cases g : i < 0
    · rw [if_pos g]; exact jt rfl
    · rw [if_neg g, decide_eq_true (by have := mt szF_len.2 (by rw [h]; simp); omega)]; exact jt rfl
  | true =>
    have hb := szF_len.1 h
    obtain ⟨⟨S, hS⟩, _⟩ := inB_true.1 h
    rw [if_neg (by omega), decide_eq_false (by omega), if_pos rfl]
    unfold choose_row_j1
    rw [if_neg (by simp)]
    refine ⟨_, Parent_ok hl hw i, ?_⟩
    by_cases g : parF t i ≥ 0
    · rw [if_pos g, if_pos g]
      exact ⟨_, Kids_ok hl hw _, rfl⟩
    · rw [if_neg g, if_neg g]
      have hA : At t 0 S := ⟨Nat.zero_le _, hS⟩
      have hSl : S.length ≤ t.length := (sf_en _ _ hS).2
      have esz : szF t = szL t := by unfold szF; rw [hS, if_pos (by rfl)]
      have er : rootsF t = S.map (·.1.at_) := by unfold rootsF; rw [hS]; rfl
      rw [er, esz]
      have key := Rounds.upto (B := fun (s : (List Int) × Int) o => choose_row_b2 t (szL t) s.1 s.2 o) (r := S.map (·.1.at_)) (fun j => ((S.take j).map (·.1.at_), (en 0 (S.take j) : Int))) S.length (fun j hj => ?_) ?_
      · simpa [en_nil] using key
      · show choose_row_b2 t (szL t) ((S.take j).map (·.1.at_)) (en 0 (S.take j) : Int) _
        obtain ⟨a1, a2⟩ := hA.nth hj
        have p := a1.pos
        unfold choose_row_b2
        rw [if_pos (by omega)]
        refine ⟨_, rfl, by simp; omega, by rw [szL_len]; omega, ?_⟩
        rw [ix_nat (by rw [szL_len]; exact p.1), szL_get p.1, end_at a1, w64_id (by omega), show (en 0 (S.take j) : Int) + ((S[j].2 : Int) - (en 0 (S.take j) : Int)) = (S[j].2 : Int) by omega, en_take hj, List.take_succ_eq_append_getElem hj, List.map_append]
        simp only [List.map_cons, List.map_nil]
        rw [p.2.1]
      · show choose_row_b2 t (szL t) ((S.take S.length).map (·.1.at_)) (en 0 (S.take S.length) : Int) _
        unfold choose_row_b2
        rw [List.take_length, hA.ens, if_neg (by omega)]
/-- the document's own roots, one by one -/
theorem refRoots_run {t : List api_Node} (hl : Fits t) : Rounds (fun (s : (List Int) × Int) o => trellisref32_Row_b1 t s.1 s.2 o) (([] : List Int), 0) (rootsF t) := by
  cases h : sf t 0 with
  | none =>
    have er : rootsF t = [] := by unfold rootsF; rw [h]; rfl
    rw [er]
    refine .done ?_
    show trellisref32_Row_b1 t [] 0 _
    have jf : ∀ i : Int, trellisref32_Row_j2 t i [] false (.inr []) := fun i => by unfold trellisref32_Row_j2; rw [if_neg (by simp)]
    unfold trellisref32_Row_b1
    by_cases g : (0 : Int) < (t.length : Int)
    · rw [if_pos g]
      refine ⟨_, refRoots_ok hl, ?_⟩
      rw [decide_eq_false (by have := (num_neg (t := t)).2 (by rw [h]; rfl); omega)]
      exact jf _
    · rw [if_neg g]; exact jf _
  | some S =>
    have hA : At t 0 S := ⟨Nat.zero_le _, h⟩
    have hSl : S.length ≤ t.length := (sf_en _ _ h).2
    have er : rootsF t = S.map (·.1.at_) := by unfold rootsF; rw [h]; rfl
    rw [er]
    have hnum : numF t ≥ 0 := by
      have := mt (num_neg (t := t)).1 (by rw [h]; simp)
      omega
    refine Rounds.to (fun s : (List Int) × Int => ∃ i j : Nat, s = ((S.take j).map (·.1.at_), (i : Int)) ∧ j ≤ S.length ∧ i ≤ en 0 (S.take j) ∧ ∀ i', i ≤ i' → i' < en 0 (S.take j) → parF t (i' : Int) ≥ 0) (fun s => t.length - s.2.toNat) (fun s hs => ?_) ⟨0, 0, rfl, Nat.zero_le _, Nat.zero_le _, fun i' h1 h2 => by simp [en_nil] at h2⟩
    obtain ⟨i, j, rfl, hj, hi, hpar⟩ := hs
    have hle : en 0 (S.take j) ≤ t.length := (At.skip _ _ rfl hA j hj).1.1
    simp only [Int.toNat_natCast]
    by_cases hlast : i = t.length
    · left
      have hjj : j = S.length := by
        rcases Nat.lt_or_ge j S.length with g | g
        · have := (hA.nth g).1.pos.1; omega
        · omega
      subst hjj
      show trellisref32_Row_b1 t _ (i : Int) _
      unfold trellisref32_Row_b1
      rw [if_neg (by omega), List.take_length]
      unfold trellisref32_Row_j2
      rw [if_neg (by simp)]
    · right
      have red : ∀ o, (if parF t (i : Int) < 0 then ∃ x134 : List Int, (x134 = (S.take j).map (·.1.at_) ++ ([(i : Int)] : List Int)) ∧ (x134.length * 8 ≤ 211106232532992) ∧ o = .inl (x134, w64 ((i : Int) + 1)) else o = .inl ((S.take j).map (·.1.at_), w64 ((i : Int) + 1))) → trellisref32_Row_b1 t ((S.take j).map (·.1.at_)) (i : Int) o := fun o ho => by
        unfold trellisref32_Row_b1
        rw [if_pos (by omega)]
        refine ⟨_, refRoots_ok hl, ?_⟩
        rw [decide_eq_true hnum]
        unfold trellisref32_Row_j2
        rw [if_pos rfl]
        exact ⟨_, refParent_ok hl _, ho⟩
      by_cases hlt : i < en 0 (S.take j)
      · refine ⟨_, red _ ?_, ⟨i + 1, j, rfl, hj, hlt, fun i' h1 h2 => hpar i' (by omega) h2⟩, by simp only [Int.toNat_natCast]; omega⟩
        have := hpar i (Nat.le_refl _) hlt
        rw [if_neg (by omega), w64_nat (by omega)]
        rfl
      · have hie : i = en 0 (S.take j) := by omega
        have hj2 : j < S.length := by
          rcases Nat.lt_or_ge j S.length with g | g
          · exact g
          · rw [List.take_of_length_le g, hA.ens] at hie; omega
        obtain ⟨a1, a2⟩ := hA.nth hj2
        rw [← hie] at a1
        have p := a1.pos
        obtain ⟨mj, hmj⟩ : ∃ mj, S.length - j = mj + 1 := ⟨S.length - j - 1, by omega⟩
        have hroot : parF t (i : Int) = -1 := parF_eq ⟨S, h, i, rfl, p.1, PR.skip j hA (by omega) (Nat.le_refl _) (by rw [← hie, hmj]; exact .here)⟩
        refine ⟨((S.take (j + 1)).map (·.1.at_), ((i + 1 : Nat) : Int)), red _ ?_, ⟨i + 1, j + 1, rfl, hj2, by rw [en_take hj2]; omega, fun i' h1 h2 => ?_⟩, by simp only [Int.toNat_natCast]; omega⟩
        · rw [hroot, if_pos (by omega), w64_nat (by omega), List.take_succ_eq_append_getElem hj2, List.map_append]
          simp only [List.map_cons, List.map_nil]
          rw [p.2.1]
          exact ⟨_, rfl, by simp; omega, rfl⟩
        · rw [en_take hj2] at h2
          obtain ⟨ts, k1, k2, k3, k4, k5⟩ := a1.kids p.1
          obtain ⟨x, e, r, q, q1, q2, q3⟩ := (find_ok hl _ (i + 1) k1 (m := ts.length) (by rw [List.length_append]; omega) (Nat.lt_succ_self _)).2 i' (i : Int) h1 (by rw [List.take_append_of_le_length (Nat.le_refl _), List.take_length, k3]; exact h2)
          have hq : PR t 0 S.length (-1) i' q := PR.skip j hA (by omega) (Nat.le_refl _) (by
            rw [← hie, hmj]
            refine .down a1 (by omega) h2 ?_
            rw [k2, List.length_map]
            exact q2)
          rw [parF_eq ⟨S, h, i', rfl, by omega, hq⟩]
          rcases q2.par with rfl | ⟨z1, z2⟩
          · omega
          · omega
theorem refBeside_row {t : List api_Node} (hl : Fits t) (i : Int) : trellisref32_beside t i (rowF t i) := by
  unfold trellisref32_beside rowF
  have jt : inB t i = false → trellisref32_beside_j1 t i true (if inB t i = true then (if parF t i ≥ 0 then kidsF t (parF t i) else rootsF t) else []) := fun h => by
    unfold trellisref32_beside_j1
    rw [if_pos rfl, h, if_neg (by simp)]
  by_cases g1 : i < 0
  · rw [if_pos g1]
    refine jt ?_
    cases h : inB t i with
    | false => rfl
    | true => have := (inB_true.1 h).2; omega
  rw [if_neg g1]
  by_cases g2 : i ≥ (t.length : Int)
  · rw [if_pos g2]
    refine jt ?_
    cases h : inB t i with
    | false => rfl
    | true => have := (inB_true.1 h).2; omega
  rw [if_neg g2]
  refine ⟨_, refRoots_ok hl, ?_⟩
  by_cases g3 : numF t < 0
  · rw [decide_eq_true g3]
    refine jt ?_
    have := num_neg.1 g3
    unfold inB
    rw [this]; rfl
  · rw [decide_eq_false g3]
    have hs : (sf t 0).isSome = true := by
      cases h : (sf t 0).isSome with
      | true => rfl
      | false => exact absurd (num_neg.2 h) g3
    rw [if_pos (inB_true.2 ⟨Option.isSome_iff_exists.1 hs, by omega, by omega⟩)]
    unfold trellisref32_beside_j1
    rw [if_neg (by simp)]
    refine ⟨_, refParent_ok hl i, ?_⟩
    by_cases g : parF t i ≥ 0
    · rw [if_pos g]
      refine ⟨_, ?_, rfl⟩
      unfold trellisref32_Row
      rw [if_pos g]
      exact ⟨_, refKids_ok hl _, rfl⟩
    · rw [if_neg g]
      refine ⟨_, ?_, rfl⟩
      unfold trellisref32_Row
      rw [if_neg g]
      exact refRoots_run hl
end Go.Proofs.Ytoifgnogoddmlaa.L
