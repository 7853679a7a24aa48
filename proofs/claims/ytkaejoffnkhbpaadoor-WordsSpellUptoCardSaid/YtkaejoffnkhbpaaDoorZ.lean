/- The plain side of chapter 8, more: what is spelt is read. No condition. -/
import Derived.Test.YtkaejoffnkhbpaaDoorY
import Derived.Test.YtkaejoffnkhbpaaDoorT0
set_option linter.unusedVariables false
namespace Go.Proofs.YtkaejoffnkhbpaaDoor.L
open Go.Proofs.YtkaejoffnkhbpaaDoor.B Go.Proofs.YtkaejoffnkhbpaaDoor.R
theorem sound_no {w : api_Word} (h : soundF w = false) : spellF w = ⟨#[]⟩ := by unfold spellF; rw [if_neg (by rw [h]; simp)]
theorem sound_yes {w : api_Word} (h : soundF w = true) : spellF w ≠ ⟨#[]⟩ := fun e => by
  obtain ⟨c, l, e2, _⟩ := tok_spell h
  rw [e] at e2
  cases e2
/-- Join of any list -/
def joinF (ws : List api_Word) : ByteArray := if ws.all soundF = true then joinB (ws.map spellF) sp else ⟨#[]⟩
theorem joinF_ok {ws : List api_Word} (hl : ws.length ≤ 2 ^ 30) (h1 : ∀ w ∈ ws, w.text.size ≤ 1048576 ∧ (-9223372036854775808 ≤ w.n ∧ w.n ≤ 9223372036854775807)) (h3 : (joinB (ws.map spellF) sp).size ≤ 140737488355328) : words_Join ws (joinF ws) := by
  unfold words_Join joinF
  have e : ∀ l : List api_Word, ∀ acc : List ByteArray, runL (fun w (acc : List ByteArray) => if soundF w = true then .inl (acc ++ [spellF w]) else .inr (⟨#[]⟩ : ByteArray)) (fun acc => joinB acc sp) l acc = if l.all soundF = true then joinB (acc ++ l.map spellF) sp else ⟨#[]⟩ := by
    intro l
    induction l with
    | nil => intro acc; simp [runL]
    | cons a l ih =>
      intro acc
      cases h : soundF a with
      | true => rw [runL_go (s' := acc ++ [spellF a]) (by simp [h]), ih, List.all_cons, h, Bool.true_and]; simp
      | false => rw [runL_end (r := (⟨#[]⟩ : ByteArray)) (by simp [h]), List.all_cons, h, Bool.false_and]; rfl
  have e0 := e ws []
  rw [List.nil_append] at e0
  rw [← e0]
  refine Rounds.row ws (fun (acc : List ByteArray) i => (acc, i)) _ _ (fun i acc => acc = (ws.take i).map spellF) (fun i hi s hs => ⟨fun s' hs' => ?_, fun r hr => ?_⟩) (fun s hs => ?_) (by simp)
  · subst hs
    obtain ⟨q1, q2⟩ := h1 _ (List.getElem_mem hi)
    cases h : soundF ws[i] with
    | false => simp [h] at hs'
    | true =>
      simp only [h, if_true, Sum.inl.injEq] at hs'
      subst hs'
      refine ⟨?_, by rw [List.take_succ_eq_append_getElem hi, List.map_append]; rfl⟩
      show words_Join_b1 ws _ (i : Int) _
      unfold words_Join_b1
      rw [if_pos (by omega), ix_nat hi, w64_nat (by omega)]
      refine ⟨by omega, _, sound_ok (by omega), ?_⟩
      rw [if_pos h]
      exact ⟨_, spell_ok q1 q2, _, rfl, by simp; omega, rfl⟩
  · obtain ⟨q1, q2⟩ := h1 _ (List.getElem_mem hi)
    cases h : soundF ws[i] with
    | true => simp [h] at hr
    | false =>
      simp only [h] at hr
      simp only [Bool.false_eq_true, if_false, Sum.inr.injEq] at hr
      subst hr
      show words_Join_b1 ws _ (i : Int) _
      unfold words_Join_b1
      rw [if_pos (by omega), ix_nat hi]
      refine ⟨by omega, _, sound_ok (by omega), ?_⟩
      rw [if_neg (by rw [h]; simp)]
  · subst hs
    show words_Join_b1 ws _ (ws.length : Int) _
    unfold words_Join_b1
    rw [if_neg (by omega), List.take_length]
    exact ⟨_, ⟨by simp; omega, h3, rfl⟩, rfl⟩
theorem placed_snoc : ∀ (ws : List api_Word) (w : api_Word) (pos : Nat), placed (ws ++ [w]) pos = placed ws pos ++ [(⟨w.kind, ofBs (txF w), nF w, ((pos + sumL (fun v => (spellF v).size + 1) ws : Nat) : Int)⟩ : api_Word)]
  | [], w, pos => rfl
  | v :: ws, w, pos => by
    rw [List.cons_append, placed, placed, placed_snoc ws w, List.cons_append]
    rw [show pos + (spellF v).size + 1 + sumL (fun v => (spellF v).size + 1) ws = pos + sumL (fun v => (spellF v).size + 1) (v :: ws) by simp only [sumL]; omega]
theorem jn_sum : ∀ xs : List (List Int), xs ≠ [] → (jn xs).length + 1 = sumL (fun x => x.length + 1) xs
  | [], h => absurd rfl h
  | [x], h => by simp [jn, sumL]
  | x :: y :: r, h => by
    have ih := jn_sum (y :: r) (by simp)
    simp only [sumL] at ih ⊢
    rw [jn, List.length_append, List.length_cons]
    omega
theorem sumL_mapW {α β : Type} (f : β → Nat) (g : α → β) : ∀ l : List α, sumL f (l.map g) = sumL (fun a => f (g a)) l
  | [] => rfl
  | a :: l => by rw [List.map_cons, sumL, sumL, sumL_mapW f g l]
theorem sumL_snocW {α : Type} (f : α → Nat) (a : α) : ∀ l : List α, sumL f (l ++ [a]) = sumL f l + f a
  | [] => by simp [sumL]
  | b :: l => by rw [List.cons_append, sumL, sumL, sumL_snocW f a l]; omega
theorem sumL_mem {α : Type} (f : α → Nat) {l : List α} {a : α} (h : a ∈ l) : f a ≤ sumL f l := by
  induction l with
  | nil => cases h
  | cons b l ih =>
    simp only [sumL] at ih ⊢
    rcases List.mem_cons.1 h with rfl | h
    · omega
    · have := ih h; omega
theorem sumL_len {α : Type} (f : α → Nat) (hf : ∀ a, 1 ≤ f a) (l : List α) : l.length ≤ sumL f l := by
  induction l with
  | nil => simp [sumL]
  | cons b l ih =>
    simp only [sumL, List.length_cons] at ih ⊢
    have := hf b; omega
theorem sumL_leW {α : Type} (f : α → Nat) (M : Nat) : ∀ (l : List α), (∀ a ∈ l, f a ≤ M) → sumL f l ≤ l.length * M
  | [], h => by simp [sumL]
  | b :: l, h => by
    have ih := sumL_leW f M l fun a ha => h a (by simp [ha])
    simp only [sumL, List.length_cons, Nat.succ_mul] at ih ⊢
    have := h b (by simp); omega
theorem back (hst : trellislaw8_started true) {x1 : List api_Word} (hl : x1.length ≤ 1048576) (h1 : ∀ w ∈ x1, w.text.size ≤ 1048576 ∧ (-9223372036854775808 ≤ w.n ∧ w.n ≤ 9223372036854775807)) : trellislaw8_WordsBack x1 true := by
  unfold trellislaw8_WordsBack
  refine ⟨true, hst, ?_⟩
  rw [if_pos rfl]
  have hj := join_size (ws := x1) (M := 1048576) fun w hw => (h1 w hw).1
  have hj2 : x1.length * (4 * 1048576 + 9) ≤ 1048576 * (4 * 1048576 + 9) := Nat.mul_le_mul_right _ hl
  refine ⟨_, joinF_ok (by omega) h1 (by omega), ?_⟩
  have hM : ∀ i, ∀ v ∈ x1.take i, (spellF v).size + 1 ≤ 4194313 := fun i v hv => by
    have := spell_size (w := v)
    have := (h1 v (List.mem_of_mem_take hv)).1
    omega
  have hsum : ∀ i, sumL (fun v => (spellF v).size + 1) (x1.take i) ≤ 1048576 * 4194313 := fun i => by
    have h2 := sumL_leW (fun v => (spellF v).size + 1) 4194313 (x1.take i) (hM i)
    have h3 : (x1.take i).length * 4194313 ≤ 1048576 * 4194313 := Nat.mul_le_mul_right _ (by rw [List.length_take]; omega)
    exact Nat.le_trans h2 h3
  -- the way to the first that has no spelling, or through all
  have step : ∀ i (hi : i < x1.length), soundF x1[i] = true → trellislaw8_WordsBack_b1 x1 (joinF x1) ((sumL (fun v => (spellF v).size + 1) (x1.take i) : Nat) : Int) (placed (x1.take i) 0) (i : Int) (.inl (((sumL (fun v => (spellF v).size + 1) (x1.take (i + 1)) : Nat) : Int), placed (x1.take (i + 1)) 0, ((i + 1 : Nat) : Int))) := by
    intro i hi hs
    obtain ⟨q1, q2⟩ := h1 _ (List.getElem_mem hi)
    have hz := hsum i
    have hz2 := spell_size (w := x1[i])
    have hn := placed_len (x1.take i) 0
    rw [List.length_take] at hn
    have e : sumL (fun v => (spellF v).size + 1) (x1.take (i + 1)) = sumL (fun v => (spellF v).size + 1) (x1.take i) + ((spellF x1[i]).size + 1) := by
      rw [List.take_succ_eq_append_getElem hi, sumL_snocW]
    unfold trellislaw8_WordsBack_b1
    rw [if_pos (by omega), ix_nat hi]
    refine ⟨by omega, _, spell_ok q1 q2, ?_⟩
    rw [if_neg (sound_yes hs), e, List.take_succ_eq_append_getElem hi, placed_snoc, Nat.zero_add]
    have j2 : ∀ t n, ofBs (txF x1[i]) = t → nF x1[i] = n → trellislaw8_WordsBack_j2 (placed (x1.take i) 0) x1 (i : Int) ((sumL (fun v => (spellF v).size + 1) (x1.take i) : Nat) : Int) (spellF x1[i]) t n (.inl (((sumL (fun v => (spellF v).size + 1) (x1.take i) + ((spellF x1[i]).size + 1) : Nat) : Int), placed (x1.take i) 0 ++ [(⟨x1[i].kind, ofBs (txF x1[i]), nF x1[i], ((sumL (fun v => (spellF v).size + 1) (x1.take i) : Nat) : Int)⟩ : api_Word)], ((i + 1 : Nat) : Int))) := by
      rintro _ _ rfl rfl
      unfold trellislaw8_WordsBack_j2
      rw [ix_nat hi, w64_id (x := _ + ((spellF x1[i]).size : Int)) (by omega), w64_id (by omega), w64_nat (by omega)]
      refine ⟨_, rfl, by simp; omega, ?_⟩
      congr 2
    by_cases k4 : x1[i].kind = 4
    · rw [if_pos k4]
      exact j2 _ _ (by unfold txF; rw [if_pos k4]; rfl) (by unfold nF; rw [if_pos k4])
    · rw [if_neg k4]
      exact j2 _ _ (by unfold txF; rw [if_neg k4, ofBs_bsOf]) (by unfold nF; rw [if_neg k4])
  have hlen := joinF x1
  by_cases hall : x1.all soundF = true
  · have hj' : joinF x1 = joinB (x1.map spellF) sp := by unfold joinF; rw [if_pos hall]
    rw [hj'] at step ⊢
    have hsnd := List.all_eq_true.1 hall
    have key := Rounds.upto (B := fun (s : Int × (List api_Word) × Int) o => trellislaw8_WordsBack_b1 x1 (joinB (x1.map spellF) sp) s.1 s.2.1 s.2.2 o) (r := true) (fun i => (((sumL (fun v => (spellF v).size + 1) (x1.take i) : Nat) : Int), placed (x1.take i) 0, (i : Int))) x1.length (fun i hi => step i hi (hsnd _ (List.getElem_mem hi))) ?_
    · simpa [sumL, placed] using key
    · show trellislaw8_WordsBack_b1 x1 _ _ _ (x1.length : Int) _
      have hz := hsum x1.length
      rw [List.take_length] at hz ⊢
      have j3 : trellislaw8_WordsBack_j3 (joinB (x1.map spellF) sp) (placed x1 0) false (.inr true) := by
        unfold trellislaw8_WordsBack_j3
        rw [if_neg (by simp)]
        by_cases hb : (joinB (x1.map spellF) sp).size > 16384
        · refine ⟨_, cut_long hb, ?_⟩
          rw [if_pos (by omega), if_pos (by rfl), if_pos (by rfl)]
          rfl
        · refine ⟨_, cut_ok (by omega), ?_⟩
          rw [bsOf_join, cutF_join x1 0 hsnd, if_neg (by omega), if_pos rfl, if_pos (by rfl)]
          exact ⟨true, same_ok (by rw [placed_len]; omega) rfl, rfl⟩
      unfold trellislaw8_WordsBack_b1
      rw [if_neg (by omega)]
      by_cases hp : (x1.length : Int) > 0
      · rw [if_pos hp]
        have hs : (joinB (x1.map spellF) sp).size + 1 = sumL (fun v => (spellF v).size + 1) x1 := by
          rw [← bsOf_len, bsOf_join, jn_sum _ (by intro e; have := congrArg List.length e; simp at this; subst this; simp at hp), sumL_mapW, sumL_mapW]
          simp only [bsOf_len]
        rw [w64_id (by omega), show (((joinB (x1.map spellF) sp).size : Int) != ((sumL (fun v => (spellF v).size + 1) x1 : Nat) : Int) - 1) = false by rw [bne_eq_false_iff_eq]; omega]
        exact j3
      · rw [if_neg hp]; exact j3
  · have hj' : joinF x1 = ⟨#[]⟩ := by unfold joinF; rw [if_neg hall]
    rw [hj'] at step ⊢
    have e : ∀ l : List api_Word, l.all soundF = false → ∃ i, ∃ hi : i < l.length, soundF l[i] = false ∧ ∀ j (hj : j < l.length), j < i → soundF l[j] = true := by
      intro l
      induction l with
      | nil => intro h; simp at h
      | cons a l ih =>
        intro h
        cases ha : soundF a with
        | false => exact ⟨0, by simp, ha, fun j _ hj => absurd hj (Nat.not_lt_zero _)⟩
        | true =>
          rw [List.all_cons, ha, Bool.true_and] at h
          obtain ⟨i, hi, h1, h2⟩ := ih h
          refine ⟨i + 1, by simpa using hi, h1, fun j hj hji => ?_⟩
          match j with
          | 0 => exact ha
          | j + 1 => exact h2 j (by simpa using hj) (by omega)
    obtain ⟨n, hn, hn1, hn2⟩ := e x1 (by simpa using hall)
    have key := Rounds.upto (B := fun (s : Int × (List api_Word) × Int) o => trellislaw8_WordsBack_b1 x1 (⟨#[]⟩ : ByteArray) s.1 s.2.1 s.2.2 o) (r := true) (fun i => (((sumL (fun v => (spellF v).size + 1) (x1.take i) : Nat) : Int), placed (x1.take i) 0, (i : Int))) n (fun i hi => step i (by omega) (hn2 i (by omega) hi)) ?_
    · simpa [sumL, placed] using key
    · show trellislaw8_WordsBack_b1 x1 _ _ _ (n : Int) _
      obtain ⟨q1, q2⟩ := h1 _ (List.getElem_mem hn)
      unfold trellislaw8_WordsBack_b1
      rw [if_pos (by omega), ix_nat hn]
      refine ⟨by omega, _, spell_ok q1 q2, ?_⟩
      rw [if_pos (sound_no hn1)]
      simp [seq]
end Go.Proofs.YtkaejoffnkhbpaaDoor.L
