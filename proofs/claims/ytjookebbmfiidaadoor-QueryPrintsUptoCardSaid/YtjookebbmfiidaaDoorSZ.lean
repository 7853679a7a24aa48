/- The plain side of chapter 8, more: what is spelt is read. No condition. -/
import Derived.Test.YtjookebbmfiidaaDoorSY
import Derived.Test.YtjookebbmfiidaaDoorT0
set_option linter.unusedVariables false
namespace Go.Proofs.YtjookebbmfiidaaDoor.L
open Go.Proofs.YtjookebbmfiidaaDoor.B Go.Proofs.YtjookebbmfiidaaDoor.R
theorem sound_no {w : api_Word} (h : soundF w = false) : spellF w = ⟨#[]⟩ := by unfold spellF; rw [if_neg (by rw [h]; simp)]
theorem sound_yes {w : api_Word} (h : soundF w = true) : spellF w ≠ ⟨#[]⟩ := fun e => by
 obtain ⟨c, l, e2, _⟩ := tok_spell h
 rw [e] at e2
 cases e2
def joinF (ws : List api_Word) : ByteArray := if ws.all soundF = true then joinB (ws.map spellF) sp else ⟨#[]⟩
theorem joinF_ok {ws : List api_Word} (hl : ws.length ≤ 2 ^ 30) (h1 : ∀ w ∈ ws, w.text.size ≤ 1048576 ∧ (-9223372036854775808 ≤ w.n ∧ w.n ≤ 9223372036854775807)) (h3 : (joinB (ws.map spellF) sp).size ≤ 140737488355328) : words_Join ws (joinF ws) := by
 unfold words_Join joinF
 have e : ∀ l : List api_Word, ∀ acc : List ByteArray, runL (fun w (acc : List ByteArray) => if soundF w = true then .inl (acc ++ [spellF w]) else .inr (⟨#[]⟩ : ByteArray)) (fun acc => joinB acc sp) l acc = if l.all soundF = true then joinB (acc ++ l.map spellF) sp else ⟨#[]⟩ := by
  intro l
  induction l with
  | nil => intro acc; simp [runL]
  | cons a l ih =>
   intro acc
   cases h : soundF a with
   | true => rw [runL_go (s' := acc ++ [spellF a]) (by simp [h]), ih, List.all_cons, h, Bool.true_and]; simp
   | false => rw [runL_end (r := (⟨#[]⟩ : ByteArray)) (by simp [h]), List.all_cons, h, Bool.false_and]; rfl
 have e0 := e ws []
 rw [List.nil_append] at e0
 rw [← e0]
 refine Rounds.row ws (fun (acc : List ByteArray) i => (acc, i)) _ _ (fun i acc => acc = (ws.take i).map spellF) (fun i hi s hs => ⟨fun s' hs' => ?_, fun r hr => ?_⟩) (fun s hs => ?_) (by simp)
 ·subst hs
  obtain ⟨q1, q2⟩ := h1 _ (List.getElem_mem hi)
  cases h : soundF ws[i] with
  | false => simp [h] at hs'
  | true =>
   simp only [h, if_true, Sum.inl.injEq] at hs'
   subst hs'
   refine ⟨?_, by rw [List.take_succ_eq_append_getElem hi, List.map_append]; rfl⟩
   show words_Join_b1 ws _ (i : Int) _
   unfold words_Join_b1
   rw [if_pos (by omega), ix_nat hi, w64_nat (by omega)]
   refine ⟨by omega, _, sound_ok (by omega), ?_⟩
   rw [if_pos h]
   exact ⟨_, spell_ok q1 q2, _, rfl, by simp; omega, rfl⟩
 ·obtain ⟨q1, q2⟩ := h1 _ (List.getElem_mem hi)
  cases h : soundF ws[i] with
  | true => simp [h] at hr
  | false =>
   simp only [h] at hr
   simp only [Bool.false_eq_true, if_false, Sum.inr.injEq] at hr
   subst hr
   show words_Join_b1 ws _ (i : Int) _
   unfold words_Join_b1
   rw [if_pos (by omega), ix_nat hi]
   refine ⟨by omega, _, sound_ok (by omega), ?_⟩
   rw [if_neg (by rw [h]; simp)]
 ·subst hs
  show words_Join_b1 ws _ (ws.length : Int) _
  unfold words_Join_b1
  rw [if_neg (by omega), List.take_length]
  exact ⟨_, ⟨by simp; omega, h3, rfl⟩, rfl⟩
theorem sumL_mem {α : Type} (f : α → Nat) {l : List α} {a : α} (h : a ∈ l) : f a ≤ sumL f l := by
 induction l with
 | nil => cases h
 | cons b l ih =>
  simp only [sumL] at ih ⊢
  rcases List.mem_cons.1 h with rfl | h
  ·omega
  ·have := ih h; omega
theorem sumL_len {α : Type} (f : α → Nat) (hf : ∀ a, 1 ≤ f a) (l : List α) : l.length ≤ sumL f l := by
 induction l with
 | nil => simp [sumL]
 | cons b l ih =>
  simp only [sumL, List.length_cons] at ih ⊢
  have := hf b; omega
end Go.Proofs.YtjookebbmfiidaaDoor.L
