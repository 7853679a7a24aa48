/- The plain side of chapter 8, more: no idle program; words put together. No condition. -/
import Derived.Test.YtkaejoffnkhbpaaDoorO
set_option linter.unusedVariables false
namespace Go.Proofs.YtkaejoffnkhbpaaDoor.L
open Go.Proofs.YtkaejoffnkhbpaaDoor.B Go.Proofs.YtkaejoffnkhbpaaDoor.R
def sp : ByteArray := ⟨#[32]⟩
theorem join_ok {ws : List api_Word} (hl : ws.length ≤ 2 ^ 30) (h1 : ∀ w ∈ ws, w.text.size ≤ 1048576 ∧ (-9223372036854775808 ≤ w.n ∧ w.n ≤ 9223372036854775807)) (h2 : ∀ w ∈ ws, soundF w = true) (h3 : (joinB (ws.map spellF) sp).size ≤ 140737488355328) : words_Join ws (joinB (ws.map spellF) sp) := by
  unfold words_Join
  have key := Rounds.upto (B := fun (q : (List ByteArray) × Int) o => words_Join_b1 ws q.1 q.2 o) (r := joinB (ws.map spellF) sp) (fun i => ((ws.take i).map spellF, (i : Int))) ws.length (fun i hi => ?_) ?_
  · simpa using key
  · show words_Join_b1 ws _ (i : Int) _
    obtain ⟨q1, q2⟩ := h1 _ (List.getElem_mem hi)
    unfold words_Join_b1
    rw [if_pos (by omega), ix_nat hi, w64_nat (by omega)]
    refine ⟨by omega, _, sound_ok (by omega), ?_⟩
    rw [if_pos (h2 _ (List.getElem_mem hi))]
    refine ⟨_, spell_ok q1 q2, _, rfl, by simp; omega, ?_⟩
    rw [List.take_succ_eq_append_getElem hi, List.map_append]
    rfl
  · show words_Join_b1 ws _ (ws.length : Int) _
    unfold words_Join_b1
    rw [if_neg (by omega), List.take_length]
    exact ⟨_, ⟨by simp; omega, h3, rfl⟩, rfl⟩
def stB : ByteArray := ⟨#[97, 32, 61, 32, 34, 92, 110, 34, 32, 47, 98, 47, 32, 48, 55, 59]⟩
def stW : List api_Word := [⟨1, ⟨#[97]⟩, 0, 0⟩, ⟨5, ⟨#[61]⟩, 0, 2⟩, ⟨2, ⟨#[10]⟩, 0, 4⟩, ⟨3, ⟨#[98]⟩, 0, 9⟩, ⟨4, ⟨#[]⟩, 7, 13⟩, ⟨5, ⟨#[59]⟩, 0, 15⟩]
theorem st_qu (r : List Int) : quF (92 :: 110 :: 34 :: r) = .inl ([10], 3) := by
  rw [quF]
  simp only [show ¬ (92 : Int) = 10 by decide, show ¬ (92 : Int) = 34 by decide, if_false, if_true]
  rw [dif_neg (by show ¬ (escC 110 _).2 = 0; unfold escC; simp)]
  have e : escF (110 :: 34 :: r) = (10, 2) := by rw [escF_cons]; unfold escC; simp
  rw [e]
  simp only [show 2 - 1 = 1 from rfl, List.drop_succ_cons, List.drop_zero, quF_end]
theorem cutF_w {c : Int} {l t : List Int} {kd n : Int} {pos k : Nat} {ws : List api_Word} (h : tokF c l = .word kd t n k) (h2 : cutF (l.drop (k - 1)) (pos + k) = (ws, 0, 0)) : cutF (c :: l) pos = (⟨kd, ofBs t, n, (pos : Int)⟩ :: ws, 0, 0) := by
  rw [cutF_word h, h2]; rfl
theorem cutF_s {c : Int} {l : List Int} {pos k : Nat} {ws : List api_Word} (h : tokF c l = .skip k) (h2 : cutF (l.drop (k - 1)) (pos + k) = (ws, 0, 0)) : cutF (c :: l) pos = (ws, 0, 0) := by
  rw [cutF_skip h, h2]
theorem st_cut : cutF (bsOf stB) 0 = (stW, 0, 0) := by
  rw [show bsOf stB = [97, 32, 61, 32, 34, 92, 110, 34, 32, 47, 98, 47, 32, 48, 55, 59] by decide]
  have f1 : cutF [59] 15 = ([⟨5, ⟨#[59]⟩, 0, 15⟩], 0, 0) := cutF_w (kd := 5) (t := [59]) (n := 0) (k := 1) (by rfl) (cutF_nil _)
  have f2 : cutF [48, 55, 59] 13 = ([⟨4, ⟨#[]⟩, 7, 13⟩, ⟨5, ⟨#[59]⟩, 0, 15⟩], 0, 0) := cutF_w (kd := 4) (t := []) (n := 7) (k := 2) (by rfl) f1
  have f2' : cutF [32, 48, 55, 59] 12 = ([⟨4, ⟨#[]⟩, 7, 13⟩, ⟨5, ⟨#[59]⟩, 0, 15⟩], 0, 0) := cutF_s (k := 1) (by rfl) f2
  have f3 : cutF [47, 98, 47, 32, 48, 55, 59] 9 = ([⟨3, ⟨#[98]⟩, 0, 9⟩, ⟨4, ⟨#[]⟩, 7, 13⟩, ⟨5, ⟨#[59]⟩, 0, 15⟩], 0, 0) := cutF_w (kd := 3) (t := [98]) (n := 0) (k := 3) (by rfl) f2'
  have f3' : cutF [32, 47, 98, 47, 32, 48, 55, 59] 8 = ([⟨3, ⟨#[98]⟩, 0, 9⟩, ⟨4, ⟨#[]⟩, 7, 13⟩, ⟨5, ⟨#[59]⟩, 0, 15⟩], 0, 0) := cutF_s (k := 1) (by rfl) f3
  have f4 : cutF [34, 92, 110, 34, 32, 47, 98, 47, 32, 48, 55, 59] 4 = ([⟨2, ⟨#[10]⟩, 0, 4⟩, ⟨3, ⟨#[98]⟩, 0, 9⟩, ⟨4, ⟨#[]⟩, 7, 13⟩, ⟨5, ⟨#[59]⟩, 0, 15⟩], 0, 0) := cutF_w (kd := 2) (t := [10]) (n := 0) (k := 4) (by
      show (match quF [92, 110, 34, 32, 47, 98, 47, 32, 48, 55, 59] with
        | .inl (t, k) => Item.word 2 t 0 (k + 1)
        | .inr none => .err 82 0
        | .inr (some d) => .err 82 (d + 1)) = _
      rw [st_qu]) f3'
  have f4' : cutF [32, 34, 92, 110, 34, 32, 47, 98, 47, 32, 48, 55, 59] 3 = _ := cutF_s (k := 1) (by rfl) f4
  have f5 : cutF [61, 32, 34, 92, 110, 34, 32, 47, 98, 47, 32, 48, 55, 59] 2 = _ := cutF_w (kd := 5) (t := [61]) (n := 0) (k := 1) (by rfl) f4'
  have f5' : cutF [32, 61, 32, 34, 92, 110, 34, 32, 47, 98, 47, 32, 48, 55, 59] 1 = _ := cutF_s (k := 1) (by rfl) f5
  exact cutF_w (kd := 1) (t := [97]) (n := 0) (k := 1) (by rfl) f5'
theorem started_ok : trellislaw8_started true := by
  have hc := cut_ok (s := stB) (by decide)
  rw [st_cut] at hc
  have hj := join_ok (ws := stW) (by decide) (by intro w hw; simp [stW] at hw; rcases hw with rfl | rfl | rfl | rfl | rfl | rfl <;> decide) (by intro w hw; simp [stW] at hw; rcases hw with rfl | rfl | rfl | rfl | rfl | rfl <;> decide +kernel) (by decide +kernel)
  unfold trellislaw8_started
  refine ⟨_, hc, ?_⟩
  rw [if_pos rfl, if_pos rfl, if_pos (by rfl)]
  refine ⟨by decide, ?_⟩
  rw [if_pos (by rfl)]
  refine ⟨by decide, ?_⟩
  rw [if_pos (by rfl)]
  refine ⟨by decide, ?_⟩
  unfold trellislaw8_started_j1
  rw [if_neg (by decide)]
  exact ⟨_, hj, by decide +kernel⟩
end Go.Proofs.YtkaejoffnkhbpaaDoor.L
