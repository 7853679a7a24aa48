/- The law ChooseSides. Conditions: the list fits in memory, its numbers are ints. -/
import Derived.Test.YtoifgnogoddmlaaH5
namespace Go.Proofs.Ytoifgnogoddmlaa.L
open Go.Proofs.Ytoifgnogoddmlaa.B Go.Proofs.Ytoifgnogoddmlaa.R
theorem Size_ok {t : List api_Node} (hl : Fits t) (hw : Wf t) {S : List (Tre × Nat)} (h : sf t 0 = some S) {i : Nat} (hi : i < t.length) : tree_Size t (i : Int) ((endF t i : Int) - (i : Int)) := by
  obtain ⟨f, f1, f2⟩ := plant_ok (t := t) (by omega) hw
  obtain ⟨x, e, r, h1, h2⟩ := (f2.2.2.2.2 S h i hi).2
  have hp := h1.pos
  unfold tree_Size
  refine ⟨f, f1, _, has_ok f2 _, ?_⟩
  rw [if_pos (inB_true.2 ⟨⟨S, h⟩, by omega, by omega⟩)]
  refine ⟨by rw [f2.2.2.1]; omega, ?_⟩
  rw [h2, end_at h1, w64_id (by omega)]
theorem beside_out {t : List api_Node} (hl : Fits t) (hw : Wf t) {i : Int} (h : inB t i = false) (d : Int) : choose_Beside t i d (-1) := by
  unfold choose_Beside
  have hx := row_ok hl hw i
  have e : rowF t i = [] := by unfold rowF; rw [h, if_neg (by simp)]
  rw [e] at hx
  refine ⟨_, hx, -1, ?_, ?_⟩
  · unfold slices_Index_int_int
    refine Rounds.done ?_
    unfold slices_Index_int_int_b1
    rw [if_neg (by simp)]
  · rw [if_pos (by omega)]
    unfold choose_Beside_j1
    rw [if_pos rfl]
/-- a row, as numbers -/
theorem row_beside {t : List api_Node} (hl : Fits t) (hw : Wf t) {R : Nat → Nat} {m : Nat} (_ : m ≤ t.length) (h1 : ∀ j, j < m → R j < R (j + 1)) (h2 : ∀ j, j < m → rowF t (R j : Int) = (List.range m).map fun j => (R j : Int)) {k : Nat} (hk : k < m) {d : Int} (hd : i64 d) :
    choose_Beside t (R k : Int) d (besV ((List.range m).map fun j => (R j : Int)) k d) := by
  have hlt : ∀ b a, a < b → b < m → R a < R b := by
    intro b
    induction b with
    | zero => intro a h; omega
    | succ b ih =>
      intro a h hb
      have := h1 b (by omega)
      rcases Nat.lt_or_ge a b with g | g
      · have := ih a g (by omega); omega
      · obtain rfl : a = b := by omega
        exact this
  have e : ((List.range m).map fun j => (R j : Int))[k]'(by simpa using hk) = (R k : Int) := by simp
  have := beside_val hl hw (l := (List.range m).map fun j => (R j : Int)) (k := k) (by simpa using hk) (by rw [e]; exact h2 k hk) (fun j hj hjk => by
    simp at hj ⊢
    have := hlt k j hjk hk
    omega) hd
  rw [e] at this
  exact this
theorem row_mono {R : Nat → Nat} {m : Nat} (h1 : ∀ j, j < m → R j < R (j + 1)) : ∀ b a, a < b → b ≤ m → R a < R b := by
  intro b
  induction b with
  | zero => intro a h; omega
  | succ b ih =>
    intro a h hb
    have := h1 b (by omega)
    rcases Nat.lt_or_ge a b with g | g
    · have := ih a g (by omega); omega
    · obtain rfl : a = b := by omega
      exact this
theorem besV_in {R : Nat → Nat} {m k : Nat} {d : Int} {j : Nat} (hj : (k : Int) + d = (j : Int)) (hm : j < m) : besV ((List.range m).map fun j => (R j : Int)) k d = (R j : Int) := by
  unfold besV
  rw [if_pos (by simp; omega), hj, ix_nat (by simpa using hm)]
  simp
theorem besV_out {R : Nat → Nat} {m k : Nat} {d : Int} (h : ¬ (0 ≤ (k : Int) + d ∧ (k : Int) + d < (m : Int))) : besV ((List.range m).map fun j => (R j : Int)) k d = -1 := by
  unfold besV
  rw [if_neg (by simp; omega)]
theorem sidesLaw {t : List api_Node} (hl : Fits t) (hw : Wf t) (i d : Int) (hd : i64 d) : trellislaw32_ChooseSides t i d true := by
  unfold trellislaw32_ChooseSides
  refine ⟨true, started_ok, ?_⟩
  rw [if_pos rfl]
  obtain ⟨b, hb⟩ := beyond_ok (t := t) hl hw
  refine ⟨b, hb, ?_⟩
  cases b with
  | true => rw [if_pos rfl]
  | false =>
    rw [if_neg (by simp)]
    have j1 : trellislaw32_ChooseSides_j1 (-1) t i d true true := by
      unfold trellislaw32_ChooseSides_j1
      rw [if_pos rfl]
      rfl
    cases hin : inB t i with
    | false =>
      refine ⟨-1, beside_out hl hw hin d, _, Roots_ok hl hw, ?_⟩
      cases h : sf t 0 with
      | none => rw [if_pos (num_neg.2 (by rw [h]; rfl))]; exact j1
      | some S =>
        rw [if_neg (fun g => by have := num_neg.1 g; rw [h] at this; cases this)]
        by_cases h0 : i < 0
        · rw [if_pos h0]; exact j1
        · have h1 : ¬ (i < (t.length : Int)) := fun g => by have := inB_true.2 ⟨⟨S, h⟩, (show 0 ≤ i by omega), g⟩; rw [hin] at this; cases this
          rw [if_neg h0, decide_eq_true (by omega)]; exact j1
    | true =>
      obtain ⟨⟨S, h⟩, h0, h1⟩ := inB_true.1 hin
      obtain ⟨n, rfl⟩ : ∃ n : Nat, i = n := ⟨i.toNat, by omega⟩
      obtain ⟨R, m, k, r1, r2, rfl, r4, r5, r6⟩ := row_struct hl hw h (i := n) (by omega)
      have hmono := row_mono (R := R) (m := m) fun j hj => (r4 j hj).2.2.2
      have hb : ∀ {k : Nat} (hk : k < m) {d : Int} (hd : i64 d), choose_Beside t (R k : Int) d (besV ((List.range m).map fun j => (R j : Int)) k d) := fun hk _ hd => row_beside hl hw r2 (fun j hj => (r4 j hj).2.2.2) r6 hk hd
      refine ⟨_, hb r1 hd, _, Roots_ok hl hw, ?_⟩
      rw [if_neg (fun g => by have := num_neg.1 g; rw [h] at this; cases this), if_neg (by omega), decide_eq_false (by omega)]
      have hbes : besV ((List.range m).map fun j => (R j : Int)) k d = -1 ∧ d ≠ 0 ∨ ∃ j : Nat, (k : Int) + d = (j : Int) ∧ j < m ∧ besV ((List.range m).map fun j => (R j : Int)) k d = (R j : Int) := by
        by_cases g : 0 ≤ (k : Int) + d ∧ (k : Int) + d < (m : Int)
        · exact .inr ⟨((k : Int) + d).toNat, by omega, by omega, besV_in (by omega) (by omega)⟩
        · exact .inl ⟨besV_out g, fun e => g (by omega)⟩
      generalize hB : besV ((List.range m).map fun j => (R j : Int)) k d = b at *
      unfold trellislaw32_ChooseSides_j1
      rw [if_neg (by simp)]
      refine ⟨_, hb r1 (d := 0) ⟨by omega, by omega⟩, ?_⟩
      rw [besV_in (j := k) (by omega) r1, if_pos rfl]
      have hbb : ¬ b < -1 ∧ ¬ b ≥ (t.length : Int) := by
        rcases hbes with ⟨e, _⟩ | ⟨j, _, g1, e⟩
        · omega
        · have := (r4 j g1).1; omega
      rw [if_neg hbb.1, decide_eq_false hbb.2]
      unfold trellislaw32_ChooseSides_j2
      rw [if_neg (by simp)]
      refine ⟨_, Size_ok hl hw h (by omega), ?_⟩
      have hk4 := r4 k r1
      have hR1 : (R (k + 1) : Nat) ≤ t.length := by
        obtain ⟨r, hr⟩ := At.sub h (show R k < t.length by omega)
        have := (show At t (R k) (((sub t (R k)).1, (sub t (R k)).2) :: r) from hr).pos
        have e : endF t (R k) = (sub t (R k)).2 := rfl
        omega
      have en : w64 ((R k : Int) + ((endF t (R k) : Int) - (R k : Int))) = (R (k + 1) : Int) := by rw [hk4.2.2.1, w64_id (by omega)]; omega
      have key : ∀ want : Int, want = besV ((List.range m).map fun j => (R j : Int)) k 1 → trellislaw32_ChooseSides_j4 t (R k : Int) b d want true := by
        intro want hwant
        unfold trellislaw32_ChooseSides_j4
        refine ⟨_, hb r1 (d := 1) ⟨by omega, by omega⟩, ?_⟩
        rw [if_pos hwant.symm]
        rcases hbes with ⟨e, e1⟩ | ⟨j, e1, g1, e⟩
        · rw [if_pos e]
          simp [e1]
        · rw [if_neg (by omega), e]
          refine ⟨_, Parent_ok hl hw _, _, Parent_ok hl hw _, ?_⟩
          rw [if_pos (r4 j g1).2.1]
          refine ⟨_, hb g1 (d := w64 (0 - d)) (by rw [w64_id (by omega)]; exact ⟨by omega, by omega⟩), ?_⟩
          rw [besV_in (j := k) (by rw [w64_id (by omega)]; omega) r1, if_pos rfl]
          have hlt : ((R j : Int) > (R k : Int)) ↔ d > 0 := by
            rcases Nat.lt_trichotomy k j with g | g | g
            · have := hmono j k g (by omega); omega
            · subst g; omega
            · have := hmono k j g (by omega); omega
          have heq : ((R j : Int) = (R k : Int)) ↔ d = 0 := by
            rcases Nat.lt_trichotomy k j with g | g | g
            · have := hmono j k g (by omega); omega
            · subst g; omega
            · have := hmono k j g (by omega); omega
          have c1 : (decide ((R j : Int) > (R k : Int)) != decide (d > 0)) = false := by
            by_cases g : d > 0
            · rw [decide_eq_true g, decide_eq_true (hlt.2 g)]; rfl
            · rw [decide_eq_false g, decide_eq_false (fun e => g (hlt.1 e))]; rfl
          have c2 : (((R j : Int) == (R k : Int)) != (d == 0)) = false := by
            by_cases g : d = 0
            · have := heq.2 g; simp [g, this]
            · have : ¬ (R j : Int) = (R k : Int) := fun e => g (heq.1 e)
              simp only [beq_eq_false_iff_ne.2 this, beq_eq_false_iff_ne.2 g]; rfl
          rw [c1, c2, if_neg (by simp)]
          unfold trellislaw32_ChooseSides_j5
          rw [if_neg (by simp)]
      rw [en]
      have fin : ∀ c : Bool, (c = true ↔ k + 1 < m) → trellislaw32_ChooseSides_j3 t (R k : Int) b d ((endF t (R k) : Int) - (R k : Int)) c true := fun c hc => by
        unfold trellislaw32_ChooseSides_j3
        rw [en]
        by_cases g : k + 1 < m
        · rw [if_pos (hc.2 g)]
          exact key _ (besV_in (by omega) g).symm
        · rw [if_neg (fun e => g (hc.1 e))]
          exact key _ (besV_out (by omega)).symm
      by_cases g : k + 1 < m
      · have hk5 := r4 (k + 1) g
        rw [if_pos (by omega)]
        refine ⟨_, Parent_ok hl hw _, _, Parent_ok hl hw _, fin _ ?_⟩
        rw [hk5.2.1]
        simp [g]
      · have hkm : k + 1 = m := by omega
        by_cases g2 : (R (k + 1) : Int) < (t.length : Int)
        · rw [if_pos g2]
          refine ⟨_, Parent_ok hl hw _, _, Parent_ok hl hw _, fin _ ?_⟩
          rw [hkm] at g2 ⊢
          have := r5 (by omega)
          constructor
          · intro e; exact absurd (by simpa using e) this
          · intro e; omega
        · rw [if_neg g2]
          exact fin _ ⟨fun e => (by cases e), fun e => absurd e g⟩
end Go.Proofs.Ytoifgnogoddmlaa.L
