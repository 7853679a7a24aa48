/- The law ChoosePairs. Conditions: the list fits in memory, its numbers are ints. -/
import Derived.Test.YtoifgnogoddmlaaH7
namespace Go.Proofs.Ytoifgnogoddmlaa.L
open Go.Proofs.Ytoifgnogoddmlaa.B Go.Proofs.Ytoifgnogoddmlaa.R
theorem lawkind_ok (n : api_Node) : trellislaw32_kind n (nk n) := by
  have d : ∀ a b : ByteArray, n.name = a → a ≠ b → ¬ n.name = b := fun a b h1 h2 => by rw [h1]; exact h2
  have e : ∀ x, nk n = x → (∀ r, r = x → trellislaw32_kind n r) → trellislaw32_kind n (nk n) := fun x h1 h2 => h2 _ h1
  by_cases hn : n.named = true
  · exact e 0 (nk_named hn) fun r hr => by unfold trellislaw32_kind; rw [if_pos hn]; exact hr
  by_cases c1 : n.name = (⟨#[40]⟩ : ByteArray)
  · exact e 1 (by unfold nk; rw [if_neg hn, if_neg (d _ _ c1 (by decide)), if_neg (d _ _ c1 (by decide)), if_neg (d _ _ c1 (by decide)), if_pos c1]) fun r hr => by unfold trellislaw32_kind; rw [if_neg hn, if_pos c1]; exact hr
  by_cases c2 : n.name = (⟨#[91]⟩ : ByteArray)
  · exact e 2 (by unfold nk; rw [if_neg hn, if_neg (d _ _ c2 (by decide)), if_neg (d _ _ c2 (by decide)), if_neg (d _ _ c2 (by decide)), if_neg c1, if_pos c2]) fun r hr => by unfold trellislaw32_kind; rw [if_neg hn, if_neg c1, if_pos c2]; exact hr
  by_cases c3 : n.name = (⟨#[123]⟩ : ByteArray)
  · exact e 3 (by unfold nk; rw [if_neg hn, if_neg (d _ _ c3 (by decide)), if_neg (d _ _ c3 (by decide)), if_neg (d _ _ c3 (by decide)), if_neg c1, if_neg c2, if_pos c3]) fun r hr => by unfold trellislaw32_kind; rw [if_neg hn, if_neg c1, if_neg c2, if_pos c3]; exact hr
  by_cases c4 : n.name = (⟨#[41]⟩ : ByteArray)
  · exact e (-1) (by unfold nk; rw [if_neg hn, if_neg (d _ _ c4 (by decide)), if_neg (d _ _ c4 (by decide)), if_pos c4]) fun r hr => by unfold trellislaw32_kind; rw [if_neg hn, if_neg c1, if_neg c2, if_neg c3, if_pos c4]; exact hr
  by_cases c5 : n.name = (⟨#[93]⟩ : ByteArray)
  · exact e (-2) (by unfold nk; rw [if_neg hn, if_neg (d _ _ c5 (by decide)), if_pos c5]) fun r hr => by unfold trellislaw32_kind; rw [if_neg hn, if_neg c1, if_neg c2, if_neg c3, if_neg c4, if_pos c5]; exact hr
  by_cases c6 : n.name = (⟨#[125]⟩ : ByteArray)
  · exact e (-3) (by unfold nk; rw [if_neg hn, if_pos c6]) fun r hr => by unfold trellislaw32_kind; rw [if_neg hn, if_neg c1, if_neg c2, if_neg c3, if_neg c4, if_neg c5, if_pos c6]; exact hr
  · exact e 0 (by unfold nk; rw [if_neg hn, if_neg c6, if_neg c5, if_neg c4, if_neg c1, if_neg c2, if_neg c3]) fun r hr => by unfold trellislaw32_kind; rw [if_neg hn, if_neg c1, if_neg c2, if_neg c3, if_neg c4, if_neg c5, if_neg c6]; exact hr
theorem nk_le (n : api_Node) : -3 ≤ nk n ∧ nk n ≤ 3 := by unfold nk; repeat' split; all_goals omega
/-- two that belong together -/
def Link (t : List api_Node) (L : Nat → Int) (m : Nat) (a b : Int) : Prop := ∃ j y, Ev t L m j y ∧ ((a = y ∧ b = L j) ∨ (a = L j ∧ b = y))
theorem Link.symm {t : List api_Node} {L : Nat → Int} {m : Nat} {a b : Int} (h : Link t L m a b) : Link t L m b a := by
  obtain ⟨j, y, h1, h2 | h2⟩ := h
  · exact ⟨j, y, h1, .inr ⟨h2.2, h2.1⟩⟩
  · exact ⟨j, y, h1, .inl ⟨h2.2, h2.1⟩⟩
theorem Link.uniq {t : List api_Node} {L : Nat → Int} {m : Nat} (hL : ∀ b a, a < b → b < m → L a < L b) {a b c : Int} (h : Link t L m a b) (h' : Link t L m a c) : b = c := by
  obtain ⟨j, y, h1, h2⟩ := h
  obtain ⟨j', y', h1', h2'⟩ := h'
  obtain ⟨_, i, i1, ei, i2⟩ := h1.open_
  obtain ⟨_, i', i1', ei', i2'⟩ := h1'.open_
  have k1 := h1.2.1
  have k1' := h1'.2.1
  rcases h2 with ⟨e1, e2⟩ | ⟨e1, e2⟩ <;> rcases h2' with ⟨e3, e4⟩ | ⟨e3, e4⟩
  · have e : y = y' := e1.symm.trans e3
    rw [← e] at h1'
    rw [e2, e4, ev_uniq hL h1 h1']
  · rw [e1.symm.trans e3] at i2; omega
  · rw [e3.symm.trans e1] at i2'; omega
  · have : j = j' := by
      have e : L j = L j' := e1.symm.trans e3
      rcases Nat.lt_trichotomy j j' with g | g | g
      · have := hL j' j g h1'.1; omega
      · exact g
      · have := hL j j' g h1.1; omega
    subst this
    have := h1.2.2.1.symm.trans h1'.2.2.1
    injection this with e
    rw [e2, e4, e]
/-- what Pair answers at a row's node -/
theorem pairV_row {t : List api_Node} {L : Nat → Int} {m : Nat} {i : Int} (hr : rowF t i = (List.range m).map L) : (pairV t i = -1 ∧ ∀ b, ¬ Link t L m i b) ∨ Link t L m i (pairV t i) := by
  unfold pairV
  rw [hr, List.range_eq_range']
  rcases run_cases (t := t) (L := L) (m := m) i m 0 (by omega) with ⟨h1, h2⟩ | ⟨j, y, h1, h2, h3⟩
  · refine .inl ⟨h1, fun b hb => ?_⟩
    obtain ⟨j, y, e, g⟩ := hb
    have := h2 j y (Nat.zero_le _) e
    rcases g with ⟨g, _⟩ | ⟨g, _⟩
    · exact this.1 g.symm
    · exact this.2 g.symm
  · right
    have h3 := h3
    show Link t L m i (runL (pairF t i) (fun _ => (-1 : Int)) ((List.range' 0 m).map L) [])
    rcases h3 with ⟨g, h3⟩ | ⟨_, g, h3⟩
    · have h3 : runL (pairF t i) (fun _ => (-1 : Int)) ((List.range' 0 m).map L) [] = L j := h3
      rw [h3]
      exact ⟨j, y, h2, .inl ⟨g.symm, rfl⟩⟩
    · have h3 : runL (pairF t i) (fun _ => (-1 : Int)) ((List.range' 0 m).map L) [] = y := h3
      rw [h3]
      exact ⟨j, y, h2, .inr ⟨g.symm, rfl⟩⟩
theorem Link.in_ {t : List api_Node} {L : Nat → Int} {m : Nat} {a b : Int} (h : Link t L m a b) : ∃ x z, x < m ∧ z < m ∧ a = L x ∧ b = L z ∧ kx t b = - kx t a ∧ kx t a ≠ 0 ∧ (x < z ↔ kx t a > 0) ∧ x ≠ z := by
  obtain ⟨j, y, h1, h2⟩ := h
  obtain ⟨_, i, i1, rfl, i2⟩ := h1.open_
  obtain ⟨k1, k2, k3, k4⟩ := h1
  rcases h2 with ⟨rfl, rfl⟩ | ⟨rfl, rfl⟩
  · exact ⟨i, j, by omega, k1, rfl, rfl, by omega, by omega, ⟨fun _ => by omega, fun _ => i1⟩, by omega⟩
  · exact ⟨j, i, k1, by omega, rfl, rfl, k4, by omega, ⟨fun _ => by omega, fun _ => by omega⟩, by omega⟩
theorem pairV_out {t : List api_Node} {i : Int} (h : inB t i = false) : pairV t i = -1 := by
  unfold pairV rowF
  rw [h, if_neg (by simp)]
  rfl
/-- between two that belong together -/
theorem link_in {t : List api_Node} {L : Nat → Int} {m : Nat} (hL : ∀ b a, a < b → b < m → L a < L b) {j j' : Nat} {y y' : Int} (h : Ev t L m j y) (h' : Ev t L m j' y') {v q : Int} (hv : y < v ∧ v < L j) (hq : (v = y' ∧ q = L j') ∨ (v = L j' ∧ q = y')) : y < q ∧ q < L j := by
  obtain ⟨_, i, i1, e, i2⟩ := h.open_
  obtain ⟨_, i', i1', e', i2'⟩ := h'.open_
  have l1 : y < L j := by omega
  have l1' : y' < L j' := by rw [e']; exact hL _ _ i1' h'.1
  rcases hq with ⟨rfl, rfl⟩ | ⟨rfl, rfl⟩
  · have := ev_in1 hL h h' hv.1 hv.2
    have := hL j j' this h.1
    omega
  · have := ev_in2 hL h h' hv.1 hv.2
    omega
theorem find_seg {R : Nat → Nat} {a j v : Nat} (hR : ∀ i, i < j → R i < R (i + 1)) : ∀ d, a + d = j → R a ≤ v → v < R j → ∃ b, a ≤ b ∧ b < j ∧ R b ≤ v ∧ v < R (b + 1) := by
  intro d
  induction d generalizing a with
  | zero =>
    intro h h1 h2
    have : a = j := by omega
    subst this
    omega
  | succ d ih =>
    intro h h1 h2
    rcases Nat.lt_or_ge v (R (a + 1)) with g | g
    · exact ⟨a, Nat.le_refl _, by omega, h1, g⟩
    · obtain ⟨b, b1, b2, b3, b4⟩ := ih (a := a + 1) (by omega) g h2
      exact ⟨b, by omega, b2, b3, b4⟩
theorem pairs_between {t : List api_Node} (hl : Fits t) (hw : Wf t) {S : List (Tre × Nat)} (h : sf t 0 = some S) {R : Nat → Nat} {m : Nat} {c : Int}
    (r4 : ∀ j, j < m → R j < t.length ∧ parF t (R j : Int) = c ∧ endF t (R j) = R (j + 1) ∧ R j < R (j + 1)) (r6 : ∀ j, j < m → rowF t (R j : Int) = (List.range m).map fun j => (R j : Int))
    {j : Nat} {y : Int} (hE : Ev t (fun j => (R j : Int)) m j y) {v : Nat} (h1 : y < (v : Int)) (h2 : (v : Int) < (R j : Int)) : pairV t (v : Int) = -1 ∨ (y < pairV t (v : Int) ∧ pairV t (v : Int) < (R j : Int)) := by
  have hmono := row_mono (R := R) (m := m) fun j hj => (r4 j hj).2.2.2
  have hL : ∀ b a, a < b → b < m → (R a : Int) < (R b : Int) := fun b a h1 h2 => by have := hmono b a h1 (by omega); omega
  obtain ⟨_, a, ha, e, i2⟩ := hE.open_
  subst e
  have hjm := hE.1
  obtain ⟨b, b1, b2, b3, b4⟩ := find_seg (R := R) (a := a) (j := j) (v := v) (fun i hi => (r4 i (by omega)).2.2.2) (j - a) (by omega) (by omega) (by omega)
  have hbm : b < m := by omega
  rcases Nat.eq_or_lt_of_le b3 with g | g
  · subst g
    rcases pairV_row (r6 b hbm) with ⟨e, _⟩ | ⟨j', y', e1, e2⟩
    · exact .inl e
    · exact .inr (link_in hL hE e1 ⟨h1, h2⟩ e2)
  · have hRj := (r4 j hjm).1
    have hv : v < t.length := by omega
    have hin := row_in hl hw h (c := R b) (v := v) (r4 b hbm).1 g (by rw [(r4 b hbm).2.2.1]; exact b4)
    rw [(r4 b hbm).2.2.1] at hin
    obtain ⟨R', m', k', s1, s2, s3, s4, s5, s6⟩ := row_struct hl hw h hv
    have s7 := s6 k' s1
    rw [s3] at s7
    rcases pairV_row s7 with ⟨e, _⟩ | e
    · exact .inl e
    · right
      obtain ⟨x, z, x1, z1, _, z2, _⟩ := e.in_
      have hz : pairV t (v : Int) ∈ rowF t (v : Int) := by
        rw [z2, s7]
        exact List.mem_map.2 ⟨z, List.mem_range.2 z1, rfl⟩
      have := hin _ hz
      have u1 : R a ≤ R b := by
        rcases Nat.eq_or_lt_of_le b1 with g | g
        · subst g; exact Nat.le_refl _
        · have := hmono b a g (by omega); omega
      have u2 : R (b + 1) ≤ R j := by
        rcases Nat.eq_or_lt_of_le (show b + 1 ≤ j from b2) with g | g
        · rw [g]; exact Nat.le_refl _
        · have := hmono j (b + 1) g (by omega); omega
      omega
theorem pairsLaw {t : List api_Node} (hl : Fits t) (hw : Wf t) (i : Int) : trellislaw32_ChoosePairs t i true := by
  unfold trellislaw32_ChoosePairs
  refine ⟨true, started_ok, ?_⟩
  rw [if_pos rfl]
  obtain ⟨b, hb⟩ := beyond_ok (t := t) hl hw
  refine ⟨b, hb, ?_⟩
  cases b with
  | true => rw [if_pos rfl]
  | false =>
    rw [if_neg (by simp)]
    refine ⟨_, (pair_val hl hw i).1, _, Roots_ok hl hw, ?_⟩
    have j1 : pairV t i = -1 → trellislaw32_ChoosePairs_j1 (pairV t i) t i true true := fun e => by
      unfold trellislaw32_ChoosePairs_j1
      rw [if_pos rfl, e]
      rfl
    cases hin : inB t i with
    | false =>
      have e := pairV_out hin
      cases h : sf t 0 with
      | none => rw [if_pos (num_neg.2 (by rw [h]; rfl))]; exact j1 e
      | some S =>
        rw [if_neg (fun g => by have := num_neg.1 g; rw [h] at this; cases this)]
        by_cases h0 : i < 0
        · rw [if_pos h0]; exact j1 e
        · have h1 : ¬ (i < (t.length : Int)) := fun g => by have := inB_true.2 ⟨⟨S, h⟩, (show 0 ≤ i by omega), g⟩; rw [hin] at this; cases this
          rw [if_neg h0, if_pos (by omega)]; exact j1 e
    | true =>
      obtain ⟨⟨S, h⟩, h0, h1⟩ := inB_true.1 hin
      obtain ⟨n, rfl⟩ : ∃ n : Nat, i = n := ⟨i.toNat, by omega⟩
      obtain ⟨R, m, k, r1, r2, rfl, r4, r5, r6⟩ := row_struct hl hw h (i := n) (by omega)
      have hmono := row_mono (R := R) (m := m) fun j hj => (r4 j hj).2.2.2
      have hL : ∀ b a, a < b → b < m → (R a : Int) < (R b : Int) := fun b a h1 h2 => by have := hmono b a h1 (by omega); omega
      rw [if_neg (fun g => by have := num_neg.1 g; rw [h] at this; cases this), if_neg (by omega), if_neg (by omega)]
      refine ⟨⟨h0, h1⟩, _, lawkind_ok _, ?_⟩
      have hp := pairV_row (r6 k r1)
      by_cases hk0 : nk (ix t (R k : Int)) = 0
      · rw [hk0]
        refine j1 ?_
        rcases hp with ⟨e, _⟩ | e
        · exact e
        · obtain ⟨x, z, _, _, _, _, _, g, _⟩ := e.in_
          exact absurd hk0 g
      · rw [show (nk (ix t (R k : Int)) == 0) = false from beq_eq_false_iff_ne.2 hk0]
        unfold trellislaw32_ChoosePairs_j1
        rw [if_neg (by simp)]
        rcases hp with ⟨e, e2⟩ | e
        · rw [if_pos e]
          refine ⟨_, row_beside hl hw r2 (fun j hj => (r4 j hj).2.2.2) r6 r1 (d := 1) ⟨by omega, by omega⟩, ⟨h0, h1⟩, _, lawkind_ok _, ?_⟩
          by_cases g : nk (ix t (R k : Int)) < 0
          · rw [if_pos g]
            unfold trellislaw32_ChoosePairs_j2
            rfl
          · rw [if_neg g]
            by_cases g2 : k + 1 < m
            · rw [besV_in (j := k + 1) (by omega) g2, if_neg (by omega)]
              have := (r4 (k + 1) g2).1
              refine ⟨⟨by omega, by omega⟩, _, lawkind_ok _, _, lawkind_ok _, ?_⟩
              have hle := nk_le (ix t (R k : Int))
              rw [w64_id (by omega)]
              have hne : nk (ix t (R (k + 1) : Int)) ≠ 0 - nk (ix t (R k : Int)) := fun e3 => by
                refine e2 _ ⟨k + 1, (R k : Int), ⟨g2, ?_, ?_, ?_⟩, .inl ⟨rfl, rfl⟩⟩
                · show nk (ix t (R (k + 1) : Int)) < 0
                  omega
                · show (stp t (st t (fun j => (R j : Int)) k) (R k : Int)).getLast? = _
                  unfold stp
                  rw [if_pos (show kx t (R k : Int) > 0 by show nk (ix t (R k : Int)) > 0; omega), List.getLast?_concat]
                · show nk (ix t (R k : Int)) = - nk (ix t (R (k + 1) : Int))
                  omega
              unfold trellislaw32_ChoosePairs_j2
              exact (bne_iff_ne.2 hne).symm
            · rw [besV_out (by omega), if_pos (by omega)]
              unfold trellislaw32_ChoosePairs_j2
              rfl
        · obtain ⟨x, z, x1, z1, ex, ez, g1, g2, g3, g4⟩ := e.in_
          have hxk : x = k := by
            rcases Nat.lt_trichotomy x k with g | g | g
            · have := hL k x g r1; have ex : (R k : Int) = (R x : Int) := ex; omega
            · exact g
            · have := hL x k g x1; have ex : (R k : Int) = (R x : Int) := ex; omega
          subst hxk
          have ez : pairV t (R x : Int) = (R z : Int) := ez
          have hz := (r4 z z1).1
          have hback : pairV t (R z : Int) = (R x : Int) := by
            rcases pairV_row (r6 z z1) with ⟨_, e5⟩ | e5
            · rw [← ez] at e5
              exact absurd e.symm (e5 _)
            · have e6 := e.symm
              rw [ez] at e6
              exact (e5.uniq hL e6)
          rw [ez] at g1 e ⊢
          rw [if_neg (by omega), if_neg (by omega), if_neg (by omega)]
          refine ⟨⟨by omega, by omega⟩, _, lawkind_ok _, ⟨h0, h1⟩, _, lawkind_ok _, ?_⟩
          have hle := nk_le (ix t (R x : Int))
          have g1 : nk (ix t (R z : Int)) = - nk (ix t (R x : Int)) := g1
          have g3 : x < z ↔ nk (ix t (R x : Int)) > 0 := g3
          rw [w64_id (by omega), if_pos (by omega)]
          refine ⟨_, lawkind_ok _, ?_⟩
          have hlt : ((R z : Int) > (R x : Int)) ↔ nk (ix t (R x : Int)) > 0 := by
            rw [← g3]
            rcases Nat.lt_trichotomy x z with g | g | g
            · have := hL z x g z1
              exact ⟨fun _ => g, fun _ => by omega⟩
            · exact absurd g g4
            · have := hL x z g x1
              exact ⟨fun _ => by omega, fun _ => by omega⟩
          rw [show decide ((R z : Int) > (R x : Int)) = decide (nk (ix t (R x : Int)) > 0) from decide_eq_decide.2 hlt, if_neg (by simp)]
          refine ⟨_, (pair_val hl hw _).1, ?_⟩
          rw [hback, if_pos rfl]
          refine ⟨_, Parent_ok hl hw _, _, Parent_ok hl hw _, ?_⟩
          rw [(r4 z z1).2.1, show (parF t (R x : Int) != parF t (R x : Int)) = false by simp]
          unfold trellislaw32_ChoosePairs_j3
          rw [if_neg (by simp)]
          have run : ∀ {j : Nat} {y : Int}, Ev t (fun j => (R j : Int)) m j y → trellislaw32_ChoosePairs_j4 t y (R j : Int) true := fun {j y} hE => by
            unfold trellislaw32_ChoosePairs_j4
            obtain ⟨_, a, ha, ea, _⟩ := hE.open_
            have ea : y = (R a : Int) := ea
            subst ea
            have := (r4 a (by have := hE.1; omega)).1
            have := (r4 j hE.1).1
            have := hL j a ha hE.1
            rw [w64_id (by omega)]
            have key := Rounds.upto (B := fun (s : Int) o => trellislaw32_ChoosePairs_b5 (R j : Int) t (R a : Int) s o) (r := true) (fun i => (R a : Int) + 1 + (i : Int)) (R j - (R a + 1)) (fun i hi => ?_) ?_
            · simpa using key
            · show trellislaw32_ChoosePairs_b5 (R j : Int) t (R a : Int) ((R a : Int) + 1 + (i : Int)) _
              unfold trellislaw32_ChoosePairs_b5
              have ev : (R a : Int) + 1 + (i : Int) = ((R a + 1 + i : Nat) : Int) := by omega
              have hbt := pairs_between hl hw h r4 r6 hE (v := R a + 1 + i) (by omega) (by omega)
              rw [if_pos (by omega)]
              refine ⟨_, (pair_val hl hw _).1, ?_⟩
              rw [ev]
              rcases hbt with g | g
              · rw [if_neg (by omega), w64_id (by omega)]
                exact congrArg Sum.inl (by omega)
              · rw [if_pos (by omega), if_neg (by omega), if_neg (by omega), w64_id (by omega)]
                exact congrArg Sum.inl (by omega)
            · show trellislaw32_ChoosePairs_b5 (R j : Int) t (R a : Int) ((R a : Int) + 1 + ((R j - (R a + 1) : Nat) : Int)) _
              unfold trellislaw32_ChoosePairs_b5
              rw [if_neg (by omega)]
          obtain ⟨j, y, e7, e8⟩ := e
          obtain ⟨_, a, ha, ea, i2⟩ := e7.open_
          have e9 := hL j a ha e7.1
          rcases e8 with ⟨u1, u2⟩ | ⟨u1, u2⟩
          · have u2 : (R z : Int) = (R j : Int) := u2
            rw [if_neg (by omega), u1, u2]
            exact run e7
          · have u1 : (R x : Int) = (R j : Int) := u1
            have ea : y = (R a : Int) := ea
            rw [if_pos (by omega), u1, u2]
            exact run e7
end Go.Proofs.Ytoifgnogoddmlaa.L
