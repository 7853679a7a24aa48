/- The plain side of chapter 8, more: texts put together. No condition. -/
import Derived.Test.YtkaejoffnkhbpaaDoorM
set_option linter.unusedVariables false
namespace Go.Proofs.YtkaejoffnkhbpaaDoor.L
open Go.Proofs.YtkaejoffnkhbpaaDoor.B Go.Proofs.YtkaejoffnkhbpaaDoor.R
def mv (d : Nat) (w : api_Word) : api_Word := ⟨w.kind, w.text, w.n, w.at_ + d⟩
def mvR (d : Nat) (r : List api_Word × Int × Int) : List api_Word × Int × Int := if r.2.1 = 0 then (r.1.map (mv d), 0, 0) else ([], r.2.1, r.2.2 + d)
theorem cutF_mv (d : Nat) : ∀ (n : Nat) {b : List Int} {pos : Nat}, b.length = n → cutF b (pos + d) = mvR d (cutF b pos) := by
  intro n
  induction n using Nat.strongRecOn with
  | _ n ih =>
    intro b pos hn
    match b with
    | [] => rw [cutF_nil, cutF_nil]; rfl
    | c :: l =>
      simp only [List.length_cons] at hn
      cases ht : tokF c l with
      | skip k => rw [cutF_skip ht, cutF_skip ht, show pos + d + k = pos + k + d by omega]; exact ih _ (by simp; omega) rfl
      | word kd t m k =>
        rw [cutF_word ht, cutF_word ht, show pos + d + k = pos + k + d by omega, ih (l.drop (k - 1)).length (by simp; omega) rfl]
        unfold mvR
        by_cases h : (cutF (l.drop (k - 1)) (pos + k)).2.1 = 0
        · simp [h, mv]
        · simp [h]
      | err e off =>
        rw [cutF_err ht, cutF_err ht]
        unfold mvR
        rw [if_neg (by exact tokF_err ht)]
        simp only [Prod.mk.injEq, true_and]
        omega
theorem cutF_nl (r : List Int) : ∀ (n : Nat) {b : List Int} {pos : Nat}, b.length = n → cutF (b ++ 10 :: r) pos = if (cutF b pos).2.1 = 0 then resR (cutF b pos).1 (cutF r (pos + b.length + 1)) else cutF b pos := by
  intro n
  induction n using Nat.strongRecOn with
  | _ n ih =>
    intro b pos hn
    match b with
    | [] =>
      rw [List.nil_append, cutF_skip (k := 1) (by unfold tokF; rw [if_pos (by decide)]), cutF_nil, if_pos rfl]
      exact (resR_nil _ _).symm
    | c :: l =>
      simp only [List.length_cons] at hn
      rw [List.cons_append]
      cases ht : tokF c l with
      | skip k =>
        obtain ⟨k1, k2⟩ := tokF_len.1 k ht
        rw [cutF_skip (by rw [tokF_nl]; exact ht), cutF_skip ht, List.drop_append_of_le_length (by omega), ih (l.drop (k - 1)).length (by simp; omega) rfl]
        rw [show pos + k + (l.drop (k - 1)).length + 1 = pos + (c :: l).length + 1 by simp; omega]
      | word kd t m k =>
        obtain ⟨k1, k2⟩ := tokF_len.2 kd t m k ht
        rw [cutF_word (by rw [tokF_nl]; exact ht), cutF_word ht, List.drop_append_of_le_length (by omega), ih (l.drop (k - 1)).length (by simp; omega) rfl]
        rw [show pos + k + (l.drop (k - 1)).length + 1 = pos + (c :: l).length + 1 by simp; omega]
        by_cases h : (cutF (l.drop (k - 1)) (pos + k)).2.1 = 0
        · simp only [if_pos h]
          unfold resR
          by_cases h2 : (cutF r (pos + (c :: l).length + 1)).2.1 = 0
          · simp only [if_pos h2]
            simp
          · simp only [if_neg h2]
            simp
        · simp only [if_neg h]
      | err e off =>
        rw [cutF_err (by rw [tokF_nl]; exact ht), cutF_err ht, if_neg (by exact tokF_err ht)]
theorem sameWord_ok (w : api_Word) : trellislaw8_sameWord w w true := by
  unfold trellislaw8_sameWord
  rw [if_pos rfl, if_pos rfl, if_pos rfl, beq_self_eq_true]
theorem same_ok {a b : List api_Word} (ha : a.length < 2 ^ 60) (h : a = b) : trellislaw8_same a b true := by
  subst h
  unfold trellislaw8_same
  rw [if_pos rfl]
  refine Rounds.cnt a.length (fun i hi => ?_) ?_
  · unfold trellislaw8_same_b1
    rw [if_pos (by omega), w64_nat (by omega)]
    exact ⟨by omega, by omega, true, sameWord_ok _, by rw [if_pos rfl]⟩
  · unfold trellislaw8_same_b1
    rw [if_neg (by omega)]
theorem cutF_size : ∀ (n : Nat) {b : List Int} {pos : Nat}, b.length = n → (cutF b pos).1.length ≤ b.length ∧ (∀ w ∈ (cutF b pos).1, 0 ≤ w.at_ ∧ w.at_ ≤ ((pos + b.length : Nat) : Int)) := by
  intro n
  induction n using Nat.strongRecOn with
  | _ n ih =>
    intro b pos hn
    match b with
    | [] => rw [cutF_nil]; simp
    | c :: l =>
      simp only [List.length_cons] at hn
      cases ht : tokF c l with
      | skip k =>
        obtain ⟨k1, k2⟩ := tokF_len.1 k ht
        obtain ⟨i1, i2⟩ := ih (l.drop (k - 1)).length (by simp; omega) (b := l.drop (k - 1)) (pos := pos + k) rfl
        rw [cutF_skip ht]
        simp only [List.length_drop] at i1 i2
        exact ⟨by simp; omega, fun w hw => by have := i2 w hw; simp; omega⟩
      | word kd t m k =>
        obtain ⟨k1, k2⟩ := tokF_len.2 kd t m k ht
        obtain ⟨i1, i2⟩ := ih (l.drop (k - 1)).length (by simp; omega) (b := l.drop (k - 1)) (pos := pos + k) rfl
        rw [cutF_word ht]
        simp only [List.length_drop] at i1 i2
        split
        · refine ⟨by simp; omega, fun w hw => ?_⟩
          rcases List.mem_cons.1 hw with rfl | hw
          · simp; omega
          · have := i2 w hw; simp; omega
        · simp
      | err e off => rw [cutF_err ht]; simp
theorem take_snocW {α : Type} [Inhabited α] {xs : List α} {i : Nat} (h : i < xs.length) : xs.take i ++ [ix xs (i : Int)] = xs.take (i + 1) := by
  rw [ix_nat h, List.take_succ_eq_append_getElem h]
theorem cutF_codes (b : List Int) (pos : Nat) : (cutF b pos).2.1 = 0 → (cutF b pos).2.2 = 0 := (cutF_form b.length (b := b) (pos := pos) rfl).1
theorem cutF_none (b : List Int) (pos : Nat) : (cutF b pos).2.1 ≠ 0 → (cutF b pos).1 = [] := (cutF_form b.length (b := b) (pos := pos) rfl).2
theorem quF_off : ∀ (n : Nat) {l : List Int} {d : Nat}, l.length = n → quF l = .inr (some d) → d ≤ l.length := by
  intro n
  induction n using Nat.strongRecOn with
  | _ n ih =>
    intro l d hn h
    match l with
    | [] => rw [quF_nil] at h; cases h
    | c :: l =>
      rw [quF] at h
      simp only [List.length_cons] at hn ⊢
      split at h
      · cases h
      · split at h
        · cases h
        · split at h
          · split at h
            · simp only [Sum.inr.injEq, Option.some.injEq] at h; omega
            · rename_i e0
              have hle := escF_le _ e0
              split at h
              · cases h
              · cases h
              · rename_i d' e
                have := ih (l.drop ((escF l).2 - 1)).length (by simp; omega) rfl e
                simp only [Sum.inr.injEq, Option.some.injEq, List.length_drop] at h this
                omega
          · split at h
            · cases h
            · cases h
            · rename_i d' e
              have := ih l.length (by omega) rfl e
              simp only [Sum.inr.injEq, Option.some.injEq] at h
              omega
theorem tokF_off {c : Int} {l : List Int} {e : Int} {off : Nat} (h : tokF c l = .err e off) : off ≤ l.length + 1 := by
  unfold tokF at h
  repeat' split at h
  all_goals (first | (cases h; done) | (injection h with h1 h2; subst h2; first | omega | (rename_i hm; have := quF_off _ rfl hm; omega)))
theorem cutF_at : ∀ (n : Nat) {b : List Int} {pos : Nat}, b.length = n → 0 ≤ (cutF b pos).2.2 ∧ (cutF b pos).2.2 ≤ ((pos + b.length : Nat) : Int) := by
  intro n
  induction n using Nat.strongRecOn with
  | _ n ih =>
    intro b pos hn
    match b with
    | [] => rw [cutF_nil]; simp
    | c :: l =>
      simp only [List.length_cons] at hn
      cases ht : tokF c l with
      | skip k =>
        obtain ⟨k1, k2⟩ := tokF_len.1 k ht
        have := ih (l.drop (k - 1)).length (by simp; omega) (b := l.drop (k - 1)) (pos := pos + k) rfl
        rw [cutF_skip ht]
        simp only [List.length_drop, List.length_cons] at this ⊢
        omega
      | word kd t m k =>
        obtain ⟨k1, k2⟩ := tokF_len.2 kd t m k ht
        have := ih (l.drop (k - 1)).length (by simp; omega) (b := l.drop (k - 1)) (pos := pos + k) rfl
        rw [cutF_word ht]
        simp only [List.length_drop, List.length_cons] at this ⊢
        split
        · simp; omega
        · simp only; omega
      | err e off =>
        have := tokF_off ht
        rw [cutF_err ht]
        simp only [List.length_cons]
        omega
theorem apart (hst : trellislaw8_started true) (x1 x2 : ByteArray) (h1 : x1.size ≤ 140737488351232) (h2 : x2.size ≤ 140737488351232) : trellislaw8_WordsApart x1 x2 true := by
  unfold trellislaw8_WordsApart
  refine ⟨true, hst, ?_⟩
  rw [if_pos rfl, w64_id (by omega)]
  by_cases hbig : (x1.size : Int) + (x2.size : Int) ≥ 16384
  · rw [if_pos hbig]
  rw [if_neg hbig]
  have s1 : (⟨#[10]⟩ : ByteArray).size = 1 := rfl
  have hA : bsOf ((x1 ++ (⟨#[10]⟩ : ByteArray)) ++ x2) = bsOf x1 ++ 10 :: bsOf x2 := by rw [bsOf_app, bsOf_app]; simp [bsOf]
  have l1 := bsOf_len x1
  have l2 := bsOf_len x2
  have hc := cut_ok (s := (x1 ++ (⟨#[10]⟩ : ByteArray)) ++ x2) (by simp only [ByteArray.size_append, s1]; omega)
  rw [hA, cutF_nl _ _ rfl, l1, show 0 + x1.size + 1 = 0 + (x1.size + 1) by omega, cutF_mv _ _ rfl] at hc
  refine ⟨_, cut_ok (by omega), _, cut_ok (by omega), by rw [s1]; omega, by simp only [ByteArray.size_append, s1]; omega, _, hc, ?_⟩
  obtain ⟨z1, z2⟩ := cutF_size _ (b := bsOf x1) (pos := 0) rfl
  obtain ⟨z3, z4⟩ := cutF_size _ (b := bsOf x2) (pos := 0) rfl
  obtain ⟨z5, z6⟩ := cutF_at _ (b := bsOf x2) (pos := 0) rfl
  by_cases c1 : (cutF (bsOf x1) 0).2.1 = 0
  · rw [if_pos c1, if_pos c1]
    by_cases c2 : (cutF (bsOf x2) 0).2.1 = 0
    · rw [if_pos c2]
      have hR : resR (cutF (bsOf x1) 0).1 (mvR (x1.size + 1) (cutF (bsOf x2) 0)) = ((cutF (bsOf x1) 0).1 ++ (cutF (bsOf x2) 0).1.map (mv (x1.size + 1)), 0, 0) := by
        unfold mvR resR
        rw [if_pos c2]
        simp
      rw [hR]
      have b2 := Rounds.upto (B := fun (s : (List api_Word) × Int) o => trellislaw8_WordsApart_b2 (cutF (bsOf x2) 0) x1 ((cutF (bsOf x1) 0).1 ++ (cutF (bsOf x2) 0).1.map (mv (x1.size + 1)), 0, 0) s.1 s.2 o) (r := (.inr true : Sum ((List api_Word) × Int) Bool)) (fun i => ((cutF (bsOf x1) 0).1 ++ ((cutF (bsOf x2) 0).1.take i).map (mv (x1.size + 1)), (i : Int))) (cutF (bsOf x2) 0).1.length (fun i hi => by
        show trellislaw8_WordsApart_b2 _ _ _ _ (i : Int) _
        have hw := z4 _ (List.getElem_mem hi)
        unfold trellislaw8_WordsApart_b2
        rw [if_pos (by omega), ix_nat hi, w64_id (x := _ + (x1.size : Int)) (by omega), w64_id (x := _ + (x1.size : Int) + 1) (by omega), w64_nat (by omega)]
        refine ⟨by omega, _, rfl, by simp; omega, ?_⟩
        rw [List.take_succ_eq_append_getElem hi, List.map_append, List.append_assoc]
        simp only [List.map_cons, List.map_nil, mv]
        rw [show (cutF (bsOf x2) 0).1[i].at_ + ((x1.size + 1 : Nat) : Int) = (cutF (bsOf x2) 0).1[i].at_ + (x1.size : Int) + 1 by omega]
        rfl) (by
        show trellislaw8_WordsApart_b2 _ _ _ _ ((cutF (bsOf x2) 0).1.length : Int) _
        unfold trellislaw8_WordsApart_b2
        rw [if_neg (by omega), if_pos rfl, List.take_length]
        exact ⟨true, same_ok (by simp; omega) rfl, rfl⟩)
      have b1 := Rounds.upto (B := fun (s : (List api_Word) × Int) o => trellislaw8_WordsApart_b1 (cutF (bsOf x1) 0) (cutF (bsOf x2) 0) x1 ((cutF (bsOf x1) 0).1 ++ (cutF (bsOf x2) 0).1.map (mv (x1.size + 1)), 0, 0) s.1 s.2 o) (r := true) (fun i => ((cutF (bsOf x1) 0).1.take i, (i : Int))) (cutF (bsOf x1) 0).1.length (fun i hi => by
        show trellislaw8_WordsApart_b1 _ _ _ _ _ (i : Int) _
        unfold trellislaw8_WordsApart_b1
        rw [if_pos (by omega), w64_nat (by omega)]
        refine ⟨by omega, _, rfl, by simp; omega, ?_⟩
        rw [take_snocW hi]
        rfl) (by
        show trellislaw8_WordsApart_b1 _ _ _ _ _ ((cutF (bsOf x1) 0).1.length : Int) _
        unfold trellislaw8_WordsApart_b1
        rw [if_neg (by omega), List.take_length]
        simpa using b2)
      simpa using b1
    · rw [if_neg c2]
      have hR : resR (cutF (bsOf x1) 0).1 (mvR (x1.size + 1) (cutF (bsOf x2) 0)) = ([], (cutF (bsOf x2) 0).2.1, (cutF (bsOf x2) 0).2.2 + ((x1.size + 1 : Nat) : Int)) := by
        unfold mvR resR
        rw [if_neg c2]
        simp [c2]
      rw [hR, w64_id (x := _ + (x1.size : Int)) (by omega), w64_id (by omega), if_pos rfl, if_pos (by show _ + ((x1.size + 1 : Nat) : Int) = _; omega)]
      rfl
  · rw [if_neg c1, if_neg c1, if_pos rfl, if_pos rfl, cutF_none _ _ c1]
    rfl
end Go.Proofs.YtkaejoffnkhbpaaDoor.L
