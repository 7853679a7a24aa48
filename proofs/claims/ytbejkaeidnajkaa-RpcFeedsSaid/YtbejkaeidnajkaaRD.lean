/- The plain side of chapter 26: Feed of the program and of the document. No condition. -/
import Derived.Test.YtbejkaeidnajkaaRC
set_option linter.unusedVariables false
namespace Go.Proofs.Ytbejkaeidnajkaa.L
open Go.Proofs.Ytbejkaeidnajkaa.B Go.Proofs.Ytbejkaeidnajkaa.R
theorem refLoop {x : trellisref26_Model} (hx : x.code = 0) {b : List Int} (hB : Bts b) (hb : b.length ≤ 140738562097152) : ∀ (n pos : Nat) (acc : List ByteArray), b.length - pos = n → pos ≤ b.length → 21 * acc.length ≤ pos →
    Rounds (fun (s : (List ByteArray) × Int) o => trellisref26_Model_Feed_b3 b x s.1 s.2 o) (acc, (pos : Int)) (.inr (.inr (acc ++ (loopF (b.drop pos)).1, (loopF (b.drop pos)).2.2, (⟨(loopF (b.drop pos)).2.1, (loopF (b.drop pos)).2.2⟩ : trellisref26_Model)))) := by
  intro n
  induction n using Nat.strongRecOn with
  | _ n ih =>
    intro pos acc hn hp ha
    have hBd := hB.drop pos
    have hdl : (b.drop pos).length = b.length - pos := List.length_drop ..
    have ht := reftake_ok (b := b.drop pos) (by omega) hBd
    have e : (b.drop ((pos : Int)).toNat).take (((b.length : Int)).toNat - ((pos : Int)).toNat) = b.drop pos := by
      rw [Int.toNat_natCast, Int.toNat_natCast, List.take_of_length_le (by omega)]
    have hb3 : ∀ o, (if (takeF (b.drop pos)).2.2 = 260 then
  o = .inr (.inr (.inr ((acc, 0, (⟨b.drop pos, x.code⟩ : trellisref26_Model)))))
 else
  if (takeF (b.drop pos)).2.2 = 0 then
   ∃ x923 : List ByteArray, (x923 = acc ++ ([(takeF (b.drop pos)).1] : List ByteArray)) ∧
   (x923.length * 16 ≤ 211106232532992) ∧
   o = .inl (x923, w64 ((pos : Int) + (takeF (b.drop pos)).2.1))
  else
   o = .inr (.inr (.inr ((acc, (takeF (b.drop pos)).2.2, (⟨([] : List Int), (takeF (b.drop pos)).2.2⟩ : trellisref26_Model)))))) → trellisref26_Model_Feed_b3 b x acc (pos : Int) o := fun o h => by
      unfold trellisref26_Model_Feed_b3
      rw [e]
      exact ⟨⟨by omega, by omega, Int.le_refl _⟩, _, ht, h⟩
    by_cases h0 : (takeF (b.drop pos)).2.2 = 0
    · obtain ⟨p1, p2, p3⟩ := take_pos hBd h0
      have ew : w64 ((pos : Int) + (takeF (b.drop pos)).2.1) = ((pos + (takeF (b.drop pos)).2.1.toNat : Nat) : Int) := by rw [w64_id (by omega)]; omega
      refine .next (hb3 (.inl (acc ++ [(takeF (b.drop pos)).1], ((pos + (takeF (b.drop pos)).2.1.toNat : Nat) : Int))) ?_) ?_
      · rw [if_neg (by rw [h0]; decide), if_pos h0, ew]
        exact ⟨_, rfl, by rw [List.length_append, List.length_cons, List.length_nil]; omega, rfl⟩
      · have := ih (b.length - (pos + (takeF (b.drop pos)).2.1.toNat)) (by omega) (pos + (takeF (b.drop pos)).2.1.toNat) (acc ++ [(takeF (b.drop pos)).1]) rfl (by omega) (by rw [List.length_append, List.length_cons, List.length_nil]; omega)
        rw [loopF_ok hBd h0]
        rw [← List.drop_drop] at this
        simpa using this
    · refine .done (hb3 _ ?_)
      by_cases h1 : (takeF (b.drop pos)).2.2 = 260
      · rw [if_pos h1, loopF_more h1, hx]; simp
      · rw [if_neg h1, if_neg h0, loopF_err h0 h1]; simp
def feedF (p : List Int × Int) (c : List Int) : List ByteArray × List Int × Int := if p.2 = 0 then loopF (p.1 ++ c) else ([], p.1, p.2)
structure FOk (p : List Int × Int) : Prop where
  b : Bts p.1
  l : p.1.length ≤ 2097179
  e : p.2 ≠ 0 → p.1 = []
theorem feedF_ok {p : List Int × Int} (h : FOk p) {c : List Int} (hC : Bts c) : FOk (feedF p c).2 ∧ 21 * (feedF p c).1.length ≤ p.1.length + c.length := by
  unfold feedF
  by_cases g : p.2 = 0
  · rw [if_pos g]
    have hB := h.b.app hC
    have h1 := loop_rest hB
    have h2 := loop_size hB
    rw [List.length_append] at h2
    exact ⟨⟨loop_bts hB, h1.1, h1.2⟩, by omega⟩
  · rw [if_neg g]
    exact ⟨h, Nat.zero_le _⟩
theorem pfeed {p : List Int × Int} (h : FOk p) {c : List Int} (hC : Bts c) (hl : c.length ≤ 140737488355328) : rpc_Buffer_Feed ⟨p.1, p.2⟩ c ((feedF p c).1, (feedF p c).2.2, (⟨(feedF p c).2.1, (feedF p c).2.2⟩ : rpc_Buffer)) := by
  have := h.l
  unfold feedF
  by_cases g : p.2 = 0
  · rw [if_pos g]
    exact feed_ok (x := ⟨p.1, p.2⟩) g h.b hC (by show p.1.length + c.length ≤ _; omega)
  · rw [if_neg g]
    exact feed_no (x := ⟨p.1, p.2⟩) g c
theorem rfeed {p : List Int × Int} (h : FOk p) {c : List Int} (hC : Bts c) (hl : c.length ≤ 140737488355328) : trellisref26_Model_Feed ⟨p.1, p.2⟩ c ((feedF p c).1, (feedF p c).2.2, (⟨(feedF p c).2.1, (feedF p c).2.2⟩ : trellisref26_Model)) := by
  have hpl := h.l
  unfold feedF trellisref26_Model_Feed
  by_cases g : p.2 = 0
  · rw [if_pos g, if_pos g]
    have l3 := refLoop (x := ⟨p.1, p.2⟩) g (h.b.app hC) (by rw [List.length_append]; omega) _ 0 [] rfl (Nat.zero_le _) (Nat.zero_le _)
    rw [List.drop_zero, List.nil_append] at l3
    have l2 := Rounds.upto (B := fun (s : (List Int) × Int) o => trellisref26_Model_Feed_b2 c ⟨p.1, p.2⟩ s.1 s.2 o) (r := (.inr ((loopF (p.1 ++ c)).1, (loopF (p.1 ++ c)).2.2, (⟨(loopF (p.1 ++ c)).2.1, (loopF (p.1 ++ c)).2.2⟩ : trellisref26_Model)) : Sum ((List Int) × Int) ((List ByteArray) × Int × trellisref26_Model))) (fun j => (p.1 ++ c.take j, (j : Int))) c.length (fun j hj => by
      show trellisref26_Model_Feed_b2 c _ _ (j : Int) _
      unfold trellisref26_Model_Feed_b2
      rw [if_pos (by omega), w64_nat (by omega)]
      refine ⟨by omega, _, rfl, by simp only [List.length_append, List.length_take, List.length_cons, List.length_nil]; omega, ?_⟩
      rw [List.append_assoc, take_snoc hj]
      rfl) (by
      show trellisref26_Model_Feed_b2 c _ _ (c.length : Int) _
      unfold trellisref26_Model_Feed_b2
      rw [if_neg (by omega), List.take_length]
      exact l3)
    have l1 := Rounds.upto (B := fun (s : (List Int) × Int) o => trellisref26_Model_Feed_b1 ⟨p.1, p.2⟩ c s.1 s.2 o) (r := ((loopF (p.1 ++ c)).1, (loopF (p.1 ++ c)).2.2, (⟨(loopF (p.1 ++ c)).2.1, (loopF (p.1 ++ c)).2.2⟩ : trellisref26_Model))) (fun i => (p.1.take i, (i : Int))) p.1.length (fun i hi => by
      show trellisref26_Model_Feed_b1 _ c _ (i : Int) _
      unfold trellisref26_Model_Feed_b1
      rw [if_pos (by show (i : Int) < (p.1.length : Int); omega), w64_nat (by omega)]
      refine ⟨by show _ ∧ (i : Int) < (p.1.length : Int); omega, _, rfl, by simp only [List.length_append, List.length_take, List.length_cons, List.length_nil]; omega, ?_⟩
      show Sum.inl (p.1.take (i + 1), ((i + 1 : Nat) : Int)) = _
      rw [← take_snoc hi]
      rfl) (by
      show trellisref26_Model_Feed_b1 _ c _ (p.1.length : Int) _
      unfold trellisref26_Model_Feed_b1
      rw [if_neg (by show ¬ (p.1.length : Int) < (p.1.length : Int); omega), List.take_length]
      simpa using l2)
    simpa using l1
  · rw [if_neg g, if_neg g]
def aB : ByteArray := ⟨#[97]⟩
def bcB : ByteArray := ⟨#[98, 99]⟩
def spB : ByteArray := ⟨#[115, 112, 111, 105, 108, 116]⟩
def moB : ByteArray := ⟨#[109, 111, 114, 101]⟩
theorem apart_ok : trellislaw26_apart true := by
  have sa : aB.size = 1 := rfl
  have sb : bcB.size = 2 := rfl
  have la : (frame aB).length ≤ 40 := by rw [frame_len, sa, D_small (by omega)]; simp
  have lb : (frame bcB).length ≤ 40 := by rw [frame_len, sb, D_small (by omega)]; simp
  have h0 : FOk ([], 0) := ⟨fun x hx => (by cases hx), by simp, fun h => rfl⟩
  have f1 : feedF ([], 0) (frame aB) = ([aB], [], 0) := by
    have := frame_loop (s := aB) (by rw [sa]; omega) [] (by intro x hx; cases hx)
    rw [List.append_nil, loop_nil] at this
    unfold feedF
    rw [if_pos rfl]
    exact this
  have f2 : feedF ([], 0) (frame bcB) = ([bcB], [], 0) := by
    have := frame_loop (s := bcB) (by rw [sb]; omega) [] (by intro x hx; cases hx)
    rw [List.append_nil, loop_nil] at this
    unfold feedF
    rw [if_pos rfl]
    exact this
  have f3 : feedF ([], 0) (frame bcB ++ frame aB) = ([bcB, aB], [], 0) := by
    have h1 := frame_loop (s := aB) (by rw [sa]; omega) [] (by intro x hx; cases hx)
    rw [List.append_nil, loop_nil] at h1
    have := frame_loop (s := bcB) (by rw [sb]; omega) (frame aB) (frame_bts aB)
    rw [h1] at this
    unfold feedF
    rw [if_pos rfl]
    exact this
  have p1 := pfeed h0 (frame_bts aB) (by omega)
  have p2 := pfeed h0 (frame_bts bcB) (by omega)
  have p3 := pfeed h0 ((frame_bts bcB).app (frame_bts aB)) (by rw [List.length_append]; omega)
  rw [f1] at p1
  rw [f2] at p2
  rw [f3] at p3
  refine ⟨_, rfl, _, refput_ok (s := aB) (by rw [sa]; omega), _, refput_ok (s := bcB) (by rw [sb]; omega), _, p1, frame bcB, (List.nil_append _).symm, by omega, _, rfl, by rw [List.length_append]; show ((frame bcB).length + (frame aB).length) * 1 ≤ _; omega, _, p3, ?_⟩
  rw [if_pos rfl, if_pos rfl]
  refine ⟨true, sameTexts_ok (by simp) rfl, ?_⟩
  rw [if_pos rfl]
  refine ⟨true, sameTexts_ok (by simp) rfl, ?_⟩
  unfold trellislaw26_apart_j1
  rw [if_neg (by simp)]
  refine ⟨⟨by decide, by show (0 : Int) < (([aB] : List ByteArray).length : Int); decide⟩, [spB], rfl, ?_⟩
  have := Rounds.upto (B := fun (s : (List ByteArray) × Int) o => trellislaw26_apart_b2 ([bcB, aB], 0, ⟨[], 0⟩) (frame bcB, 0) [spB] s.1 s.2 o) (r := true) (fun j => (spB :: List.replicate j moB, (j : Int))) 70 (fun j hj => by
    show trellislaw26_apart_b2 _ _ _ _ (j : Int) _
    unfold trellislaw26_apart_b2
    rw [if_pos (by omega), w64_nat (by omega)]
    refine ⟨_, rfl, by simp; omega, ?_⟩
    show Sum.inl (spB :: List.replicate (j + 1) moB, ((j + 1 : Nat) : Int)) = _
    rw [List.replicate_succ']
    rfl) (by
    show trellislaw26_apart_b2 _ _ _ _ ((70 : Nat) : Int) _
    unfold trellislaw26_apart_b2
    rw [if_neg (by omega)]
    refine ⟨_, p2, true, sameTexts_ok (by simp) rfl, ?_⟩
    rw [if_pos rfl]
    refine ⟨true, sameTexts_ok (by simp) rfl, ?_⟩
    rw [if_pos rfl]
    refine ⟨true, sameTexts_ok (by simp) rfl, ?_⟩
    rw [if_pos rfl, List.length_cons, List.length_replicate]
    rfl)
  simpa using this
end Go.Proofs.Ytbejkaeidnajkaa.L
