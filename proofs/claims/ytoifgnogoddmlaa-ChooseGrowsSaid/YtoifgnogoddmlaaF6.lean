/- Chapter 32: Beside and Pair of the program and of the document; lists lent and written over. Conditions: the list fits in memory, its numbers are ints. -/
import Derived.Test.YtoifgnogoddmlaaF5
import Derived.Test.YtoifgnogoddmlaaB5
import Derived.KernelRfl
set_option linter.unusedVariables false
namespace Go.Proofs.Ytoifgnogoddmlaa.L
open Go.Proofs.Ytoifgnogoddmlaa.B Go.Proofs.Ytoifgnogoddmlaa.R
theorem kids_mem {t : List api_Node} {i : Int} : ∀ x ∈ kidsF t i, 0 ≤ x ∧ x < (t.length : Int) := by
  intro x hx
  unfold kidsF at hx
  split at hx
  · rename_i h
    obtain ⟨⟨S, hS⟩, h1, h2⟩ := inB_true.1 h
    obtain ⟨j, rfl⟩ : ∃ j : Nat, i = j := ⟨i.toNat, by omega⟩
    rw [Int.toNat_natCast] at hx
    obtain ⟨r, hr⟩ := At.sub hS (i := j) (by omega)
    obtain ⟨ts, k1, k2, k3, k4, k5⟩ := (show At t j (((sub t j).1, (sub t j).2) :: r) from hr).kids (by omega)
    rw [k2, List.map_map] at hx
    obtain ⟨y, hy, rfl⟩ := List.mem_map.1 hx
    obtain ⟨q, hq, rfl⟩ := List.getElem_of_mem hy
    obtain ⟨a1, _⟩ := k1.nth (j := q) (by rw [List.length_append]; omega)
    rw [List.getElem_append_left hq] at a1
    have := a1.pos
    simp only [Function.comp]
    omega
  · cases hx
theorem roots_mem {t : List api_Node} : ∀ x ∈ rootsF t, 0 ≤ x ∧ x < (t.length : Int) := by
  intro x hx
  unfold rootsF at hx
  cases h : sf t 0 with
  | none => rw [h] at hx; cases hx
  | some S =>
    rw [h] at hx
    obtain ⟨y, hy, rfl⟩ := List.mem_map.1 hx
    obtain ⟨q, hq, rfl⟩ := List.getElem_of_mem hy
    obtain ⟨a1, _⟩ := (show At t 0 S from ⟨Nat.zero_le _, h⟩).nth (j := q) hq
    have := a1.pos
    simp only [Option.getD_some]
    omega
theorem row_mem {t : List api_Node} {i : Int} : ∀ x ∈ rowF t i, 0 ≤ x ∧ x < (t.length : Int) := by
  intro x hx
  unfold rowF at hx
  split at hx
  · split at hx
    · exact kids_mem x hx
    · exact roots_mem x hx
  · cases hx
theorem row_len {t : List api_Node} {i : Int} : (rowF t i).length ≤ t.length := by
  unfold rowF
  split
  · split
    · unfold kidsF
      split
      · rename_i h; rw [List.length_map]; exact kids_len h
      · simp
    · unfold rootsF
      cases h : sf t 0 with
      | none => simp
      | some S => simp only [Option.getD_some, List.length_map]; exact (sf_en _ _ h).2
  · simp
/-- the first place of a number in a list: the program's and the document's -/
theorem idx_ok {l : List Int} (hl : l.length ≤ 2 ^ 60) (x : Int) : ∃ k : Int, (k = -1 ∨ 0 ≤ k ∧ k < (l.length : Int)) ∧ slices_Index_int_int l x k ∧ trellisref32_place l x k := by
  have step : ∀ i (hi : i < l.length), l[i] ≠ x → slices_Index_int_int_b1 l x (i : Int) (.inl ((i : Int) + 1)) ∧ trellisref32_place_b1 l x (i : Int) (.inl ((i : Int) + 1)) := fun i hi h => by
    constructor
    · unfold slices_Index_int_int_b1
      rw [if_pos (by omega), ix_nat hi, if_neg (fun e => h e.symm), w64_nat (by omega)]
      exact ⟨by omega, rfl⟩
    · unfold trellisref32_place_b1
      rw [if_pos (by omega), ix_nat hi, if_neg h, w64_nat (by omega)]
      exact ⟨by omega, rfl⟩
  have first : ∀ m : List Int, (∀ y ∈ m, y ≠ x) ∨ ∃ i, ∃ hi : i < m.length, m[i] = x ∧ ∀ j (hj : j < m.length), j < i → m[j] ≠ x := by
    intro m
    induction m with
    | nil => exact .inl (by simp)
    | cons a m ih =>
      by_cases ha : a = x
      · exact .inr ⟨0, by simp, ha, fun j _ hj => absurd hj (Nat.not_lt_zero _)⟩
      · rcases ih with h | ⟨i, hi, h1, h2⟩
        · exact .inl fun y hy => by rcases List.mem_cons.1 hy with rfl | hy; exact ha; exact h y hy
        · refine .inr ⟨i + 1, by simpa using hi, h1, fun j hj hji => ?_⟩
          match j with
          | 0 => exact ha
          | j + 1 => exact h2 j (by simpa using hj) (by omega)
  rcases first l with h | ⟨i, hi, h1, h2⟩
  · refine ⟨-1, .inl rfl, ?_, ?_⟩
    · unfold slices_Index_int_int
      refine Rounds.cnt l.length (fun i hi => (step i hi (h _ (List.getElem_mem hi))).1) ?_
      unfold slices_Index_int_int_b1
      rw [if_neg (by omega)]
    · unfold trellisref32_place
      refine Rounds.cnt l.length (fun i hi => (step i hi (h _ (List.getElem_mem hi))).2) ?_
      unfold trellisref32_place_b1
      rw [if_neg (by omega)]
  · refine ⟨i, .inr ⟨by omega, by omega⟩, ?_, ?_⟩
    · unfold slices_Index_int_int
      refine Rounds.cnt i (fun j hj => (step j (by omega) (h2 j (by omega) hj)).1) ?_
      unfold slices_Index_int_int_b1
      rw [if_pos (by omega), ix_nat hi, if_pos h1.symm]
      exact ⟨by omega, rfl⟩
    · unfold trellisref32_place
      refine Rounds.cnt i (fun j hj => (step j (by omega) (h2 j (by omega) hj)).2) ?_
      unfold trellisref32_place_b1
      rw [if_pos (by omega), ix_nat hi, if_pos h1]
      exact ⟨by omega, rfl⟩
def i64 (d : Int) : Prop := -9223372036854775808 ≤ d ∧ d ≤ 9223372036854775807
theorem beside_both {t : List api_Node} (hl : Fits t) (hw : Wf t) (i d : Int) (hd : i64 d) : ∃ r, choose_Beside t i d r ∧ trellisref32_Beside t i d r := by
  have hn := row_len (t := t) (i := i)
  obtain ⟨k, hk, k1, k2⟩ := idx_ok (l := rowF t i) (by omega) i
  have hd1 := hd.1
  have hd2 := hd.2
  generalize hL : rowF t i = l at *
  have jp : ∀ r, r = -1 → choose_Beside_j1 k d l true r := fun r h => by unfold choose_Beside_j1; rw [if_pos rfl]; exact h
  have jr : ∀ r, r = -1 → trellisref32_Beside_j1 k d l true r := fun r h => by unfold trellisref32_Beside_j1; rw [if_pos rfl]; exact h
  have red1 : ∀ r, (if k < 0 then choose_Beside_j1 k d l true r else if d < w64 (0 - k) then choose_Beside_j1 k d l true r else choose_Beside_j1 k d l (decide (d > w64 ((w64 ((l.length : Int) - 1)) - k))) r) → choose_Beside t i d r := fun r h => by
    unfold choose_Beside
    exact ⟨_, by have := row_ok hl hw i; rwa [hL] at this, _, k1, h⟩
  have red2 : ∀ r, (if k < 0 then trellisref32_Beside_j1 k d l true r else if d > (l.length : Int) then trellisref32_Beside_j1 k d l true r else if d < w64 (0 - (l.length : Int)) then trellisref32_Beside_j1 k d l true r else if w64 (k + d) < 0 then trellisref32_Beside_j1 k d l true r else trellisref32_Beside_j1 k d l (decide (w64 (k + d) ≥ (l.length : Int))) r) → trellisref32_Beside t i d r := fun r h => by
    unfold trellisref32_Beside
    exact ⟨_, by have := refBeside_row hl i; rwa [hL] at this, _, k2, h⟩
  rcases hk with rfl | ⟨h0, h1⟩
  · exact ⟨-1, red1 _ (by rw [if_pos (by omega)]; exact jp _ rfl), red2 _ (by rw [if_pos (by omega)]; exact jr _ rfl)⟩
  · have w1 : w64 (0 - k) = -k := by rw [w64_id (by omega)]; omega
    have w2 : w64 ((w64 ((l.length : Int) - 1)) - k) = (l.length : Int) - 1 - k := by rw [w64_id (x := (l.length : Int) - 1) (by omega), w64_id (by omega)]
    have w3 : w64 (0 - (l.length : Int)) = -(l.length : Int) := by rw [w64_id (by omega)]; omega
    rw [w1, w2] at red1
    rw [w3] at red2
    by_cases hin : -k ≤ d ∧ d ≤ (l.length : Int) - 1 - k
    · refine ⟨ix l (k + d), red1 _ ?_, red2 _ ?_⟩
      · rw [if_neg (by omega), if_neg (by omega), decide_eq_false (by omega)]
        unfold choose_Beside_j1
        rw [if_neg (by simp), w64_id (by omega)]
        exact ⟨by omega, rfl⟩
      · rw [if_neg (by omega), if_neg (by omega), if_neg (by omega), w64_id (by omega), if_neg (by omega), decide_eq_false (by omega)]
        unfold trellisref32_Beside_j1
        rw [if_neg (by simp), w64_id (by omega)]
        exact ⟨by omega, rfl⟩
    · refine ⟨-1, red1 _ ?_, red2 _ ?_⟩
      · rw [if_neg (by omega)]
        by_cases g : d < -k
        · rw [if_pos g]; exact jp _ rfl
        · rw [if_neg g, decide_eq_true (by omega)]; exact jp _ rfl
      · rw [if_neg (by omega)]
        by_cases g1 : d > (l.length : Int)
        · rw [if_pos g1]; exact jr _ rfl
        rw [if_neg g1]
        by_cases g2 : d < -(l.length : Int)
        · rw [if_pos g2]; exact jr _ rfl
        rw [if_neg g2, w64_id (by omega)]
        by_cases g3 : k + d < 0
        · rw [if_pos g3]; exact jr _ rfl
        rw [if_neg g3, decide_eq_true (by omega)]
        exact jr _ rfl
/-! ### brackets -/
def nk (n : api_Node) : Int := if n.named = true then 0 else if n.name = (⟨#[125]⟩ : ByteArray) then -3 else if n.name = (⟨#[93]⟩ : ByteArray) then -2 else if n.name = (⟨#[41]⟩ : ByteArray) then -1 else if n.name = (⟨#[40]⟩ : ByteArray) then 1 else if n.name = (⟨#[91]⟩ : ByteArray) then 2 else if n.name = (⟨#[123]⟩ : ByteArray) then 3 else 0
def allB : Int → ByteArray := arrL ([(⟨#[125]⟩ : ByteArray), (⟨#[93]⟩ : ByteArray), (⟨#[41]⟩ : ByteArray), (⟨#[]⟩ : ByteArray), (⟨#[40]⟩ : ByteArray), (⟨#[91]⟩ : ByteArray), (⟨#[123]⟩ : ByteArray)] : List ByteArray)
theorem kind_ok (n : api_Node) : trellisref32_kind n (nk n) := by
  unfold trellisref32_kind
  refine ⟨_, rfl, ?_⟩
  show Rounds (fun (s : Int) o => trellisref32_kind_b1 n allB s o) 0 (nk n)
  have go : ∀ (k : Nat) (r : Int), k ≤ 7 → (∀ j : Nat, j < k → n.named = true ∨ n.name ≠ allB (j : Int) ∨ j = 3) → trellisref32_kind_b1 n allB (k : Int) (.inr r) → Rounds (fun (s : Int) o => trellisref32_kind_b1 n allB s o) 0 r := fun k r hk h he => by
    refine Rounds.cnt k (fun j hj => ?_) he
    unfold trellisref32_kind_b1
    rw [if_pos (by omega), w64_nat (by omega)]
    by_cases hn : n.named = true
    · rw [if_pos hn]
    · rw [if_neg hn]
      refine ⟨by omega, ?_⟩
      by_cases hm : n.name = allB (j : Int)
      · rw [if_pos hm]
        have : j = 3 := by
          rcases h j hj with g | g | g
          · exact absurd g hn
          · exact absurd hm g
          · exact g
        rw [if_pos (by omega)]
      · rw [if_neg hm]
  have fin : ∀ (k : Nat) (r : Int), k < 7 → k ≠ 3 → n.named ≠ true → n.name = allB (k : Int) → r = (k : Int) - 3 → trellisref32_kind_b1 n allB (k : Int) (.inr r) := fun k r hk h3 hn hm hr => by
    unfold trellisref32_kind_b1
    rw [if_pos (by omega), if_neg hn, if_pos hm, if_neg (by omega), w64_id (by omega), hr]
    exact ⟨by omega, rfl⟩
  have last : trellisref32_kind_b1 n allB ((7 : Nat) : Int) (.inr 0) := by unfold trellisref32_kind_b1; rw [if_neg (by omega)]
  have a0 : allB ((0 : Nat) : Int) = ⟨#[125]⟩ := rfl
  have a1 : allB ((1 : Nat) : Int) = ⟨#[93]⟩ := rfl
  have a2 : allB ((2 : Nat) : Int) = ⟨#[41]⟩ := rfl
  have a4 : allB ((4 : Nat) : Int) = ⟨#[40]⟩ := rfl
  have a5 : allB ((5 : Nat) : Int) = ⟨#[91]⟩ := rfl
  have a6 : allB ((6 : Nat) : Int) = ⟨#[123]⟩ := rfl
  unfold nk
  by_cases hn : n.named = true
  · rw [if_pos hn]
    exact go 7 _ (by omega) (fun j _ => .inl hn) last
  rw [if_neg hn]
  by_cases c0 : n.name = (⟨#[125]⟩ : ByteArray)
  · rw [if_pos c0]; exact go 0 _ (by omega) (fun j hj => by omega) (fin 0 _ (by omega) (by omega) hn (by rw [a0]; exact c0) rfl)
  rw [if_neg c0]
  by_cases c1 : n.name = (⟨#[93]⟩ : ByteArray)
  · rw [if_pos c1]
    refine go 1 _ (by omega) (fun j hj => ?_) (fin 1 _ (by omega) (by omega) hn (by rw [a1]; exact c1) rfl)
    obtain rfl : j = 0 := by omega
    right; left; rw [a0]; exact c0
  rw [if_neg c1]
  by_cases c2 : n.name = (⟨#[41]⟩ : ByteArray)
  · rw [if_pos c2]
    refine go 2 _ (by omega) (fun j hj => ?_) (fin 2 _ (by omega) (by omega) hn (by rw [a2]; exact c2) rfl)
    rcases (by omega : j = 0 ∨ j = 1) with rfl | rfl
    · right; left; rw [a0]; exact c0
    · right; left; rw [a1]; exact c1
  rw [if_neg c2]
  have h4 : ∀ j : Nat, j < 4 → n.named = true ∨ n.name ≠ allB (j : Int) ∨ j = 3 := fun j hj => by
    rcases (by omega : j = 0 ∨ j = 1 ∨ j = 2 ∨ j = 3) with rfl | rfl | rfl | rfl
    · right; left; rw [a0]; exact c0
    · right; left; rw [a1]; exact c1
    · right; left; rw [a2]; exact c2
    · right; right; rfl
  by_cases c4 : n.name = (⟨#[40]⟩ : ByteArray)
  · rw [if_pos c4]; exact go 4 _ (by omega) h4 (fin 4 _ (by omega) (by omega) hn (by rw [a4]; exact c4) rfl)
  rw [if_neg c4]
  have h5 : ∀ j : Nat, j < 5 → n.named = true ∨ n.name ≠ allB (j : Int) ∨ j = 3 := fun j hj => by
    rcases Nat.lt_or_ge j 4 with g | g
    · exact h4 j g
    · obtain rfl : j = 4 := by omega
      right; left; rw [a4]; exact c4
  by_cases c5 : n.name = (⟨#[91]⟩ : ByteArray)
  · rw [if_pos c5]; exact go 5 _ (by omega) h5 (fin 5 _ (by omega) (by omega) hn (by rw [a5]; exact c5) rfl)
  rw [if_neg c5]
  have h6 : ∀ j : Nat, j < 6 → n.named = true ∨ n.name ≠ allB (j : Int) ∨ j = 3 := fun j hj => by
    rcases Nat.lt_or_ge j 5 with g | g
    · exact h5 j g
    · obtain rfl : j = 5 := by omega
      right; left; rw [a5]; exact c5
  by_cases c6 : n.name = (⟨#[123]⟩ : ByteArray)
  · rw [if_pos c6]; exact go 6 _ (by omega) h6 (fin 6 _ (by omega) (by omega) hn (by rw [a6]; exact c6) rfl)
  rw [if_neg c6]
  refine go 7 _ (by omega) (fun j hj => ?_) last
  rcases Nat.lt_or_ge j 6 with g | g
  · exact h6 j g
  · obtain rfl : j = 6 := by omega
    right; left; rw [a6]; exact c6
/-- the name of what a closing bracket closes -/
theorem opens_kind {n m : api_Node} {c : ByteArray} (hn : nk n < 0) (hm : nk m > 0) (hc : choose_opens n.name c) : (m.name = c ↔ nk m = - nk n) := by
  unfold choose_opens at hc
  unfold nk at hn hm ⊢
  by_cases n0 : n.named = true
  · rw [if_pos n0] at hn; omega
  rw [if_neg n0] at hn ⊢
  by_cases m0 : m.named = true
  · rw [if_pos m0] at hm; omega
  rw [if_neg m0] at hm ⊢
  have d1 : (⟨#[40]⟩ : ByteArray) ≠ ⟨#[91]⟩ := by decide
  have d2 : (⟨#[40]⟩ : ByteArray) ≠ ⟨#[123]⟩ := by decide
  have d3 : (⟨#[91]⟩ : ByteArray) ≠ ⟨#[123]⟩ := by decide
  have mk : (m.name = ⟨#[40]⟩ ∧ nk m = 1) ∨ (m.name = ⟨#[91]⟩ ∧ nk m = 2) ∨ (m.name = ⟨#[123]⟩ ∧ nk m = 3) := by
    unfold nk
    rw [if_neg m0]
    repeat' split at hm
    all_goals (first | omega | skip)
    all_goals simp_all
  unfold nk at mk
  rw [if_neg m0] at mk
  repeat' split at hn
  all_goals (first | omega | skip)
  all_goals (rename_i e; first | rw [e] at hc | skip)
  all_goals simp_all
  all_goals (rcases mk with ⟨h1, h2⟩ | ⟨h1, h2⟩ | ⟨h1, h2⟩ <;> simp_all)
end Go.Proofs.Ytoifgnogoddmlaa.L
