/- The plain side of chapter 26, more: buffers. No condition. -/
import Derived.Test.YtbejkaeidnajkaaRA
import Derived.SizedLaws
set_option linter.unusedVariables false
namespace Go.Proofs.Ytbejkaeidnajkaa.L
open Go.Proofs.Ytbejkaeidnajkaa.B Go.Proofs.Ytbejkaeidnajkaa.R
def loopF (b : List Int) : List ByteArray × List Int × Int :=
 if h : (takeF b).2.2 = 0 ∧ 0 < (takeF b).2.1 ∧ 0 < b.length then
  ((takeF b).1 :: (loopF (b.drop (takeF b).2.1.toNat)).1, (loopF (b.drop (takeF b).2.1.toNat)).2)
 else if (takeF b).2.2 = 260 then ([], b, 0) else ([], [], (takeF b).2.2)
 termination_by b.length
 decreasing_by all_goals (simp; omega)
theorem take_pos {b : List Int} (hB : Bts b) (h : (takeF b).2.2 = 0) : 21 ≤ (takeF b).2.1 ∧ (takeF b).2.1 ≤ (b.length : Int) ∧ (takeF b).2.1.toNat ≤ b.length := by
 obtain ⟨h1, h2, h3⟩ := takeF_inv hB (s := (takeF b).1) (n := (takeF b).2.1) (Prod.ext rfl (Prod.ext rfl h))
 have l1 := frame_len (takeF b).1
 have l2 := congrArg List.length h3
 have l3 := D_pos (takeF b).1.size
 simp only [List.length_append] at l2
 omega
theorem loopF_ok {b : List Int} (hB : Bts b) (h : (takeF b).2.2 = 0) : loopF b = ((takeF b).1 :: (loopF (b.drop (takeF b).2.1.toNat)).1, (loopF (b.drop (takeF b).2.1.toNat)).2) := by
 have := take_pos hB h
 rw [loopF, dif_pos ⟨h, by omega, by omega⟩]
theorem loopF_more {b : List Int} (h : (takeF b).2.2 = 260) : loopF b = ([], b, 0) := by
 rw [loopF, dif_neg (by rw [h]; simp), if_pos h]
theorem loopF_err {b : List Int} (h0 : (takeF b).2.2 ≠ 0) (h : (takeF b).2.2 ≠ 260) : loopF b = ([], [], (takeF b).2.2) := by
 rw [loopF, dif_neg (fun e => h0 e.1), if_neg h]
theorem feedLoop {x : rpc_Buffer} (hx : x.code = 0) : ∀ (n : Nat) {b : List Int} {acc : List ByteArray}, b.length = n → Bts b → b.length + 21 * acc.length ≤ 140738562097152 →
  Rounds (fun (s : (List ByteArray) × (List Int)) o => rpc_Buffer_Feed_b1 x s.1 s.2 o) (acc, b) (acc ++ (loopF b).1, (loopF b).2.2, (⟨(loopF b).2.1, (loopF b).2.2⟩ : rpc_Buffer)) := by
 intro n
 induction n using Nat.strongRecOn with
 | _ n ih =>
  intro b acc hn hB hl
  have ht := take_ok (by omega) hB
  by_cases h0 : (takeF b).2.2 = 0
  ·have hp := take_pos hB h0
   have hd : (b.drop (takeF b).2.1.toNat).length = b.length - (takeF b).2.1.toNat := by simp
   refine .next (s' := (acc ++ [(takeF b).1], b.drop (takeF b).2.1.toNat)) ?_ ?_
   ·refine ⟨_, ht, ?_⟩
    rw [if_pos h0]
    refine ⟨_, rfl, by simp; omega, by dsimp only; omega, ?_⟩
    rw [show ((b.length : Int) : Int).toNat = b.length by omega, List.take_length]
   ·have := ih (b.length - (takeF b).2.1.toNat) (by omega) (b := b.drop (takeF b).2.1.toNat) (acc := acc ++ [(takeF b).1]) hd (hB.drop _) (by rw [hd]; simp; omega)
    rw [loopF_ok hB h0]
    simpa using this
  ·refine .done ⟨_, ht, ?_⟩
   rw [if_neg h0]
   by_cases h1 : (takeF b).2.2 = 260
   ·rw [if_pos h1, loopF_more h1, hx]; simp
   ·rw [if_neg h1, loopF_err h0 h1]; simp
theorem copied_all (a b : List Int) : copied (copied (List.replicate (a.length + b.length) (0 : Int)) 0 (List.replicate (a.length + b.length) (0 : Int)).length a) a.length b.length b = a ++ b := by
 have e1 : copied (List.replicate (a.length + b.length) (0 : Int)) 0 (List.replicate (a.length + b.length) (0 : Int)).length a = a ++ List.replicate b.length 0 := by
  unfold copied
  rw [List.length_replicate, List.take_zero, List.nil_append, List.take_of_length_le (by omega), Nat.zero_add, List.drop_replicate]
  congr 2; omega
 rw [e1]
 unfold copied
 rw [List.take_length, List.take_left' rfl, List.drop_eq_nil_of_le (by simp), List.append_nil]
theorem feed_ok {x : rpc_Buffer} (hx : x.code = 0) {c : List Int} (hB : Bts x.wait) (hC : Bts c) (hl : x.wait.length + c.length ≤ 140738562097152) :
  rpc_Buffer_Feed x c ((loopF (x.wait ++ c)).1, (loopF (x.wait ++ c)).2.2, (⟨(loopF (x.wait ++ c)).2.1, (loopF (x.wait ++ c)).2.2⟩ : rpc_Buffer)) := by
 unfold rpc_Buffer_Feed
 rw [if_pos hx]
 have w : w64 ((x.wait.length : Int) + (c.length : Int)) = ((x.wait.length + c.length : Nat) : Int) := by rw [w64_id (by omega)]; omega
 rw [w, Int.toNat_natCast]
 have e1 : (copied (List.replicate (x.wait.length + c.length) (0 : Int)) 0 (List.replicate (x.wait.length + c.length) (0 : Int)).length x.wait).length = x.wait.length + c.length := by
  unfold copied
  simp
 refine ⟨by omega, _, rfl, _, rfl, by rw [e1]; omega, x.wait ++ c, ?_, ?_⟩
 ·rw [show ((x.wait.length : Int) : Int).toNat = x.wait.length by omega]
  have e2 : (List.take (((x.wait.length + c.length : Nat) : Int).toNat - x.wait.length) (List.drop x.wait.length (copied (List.replicate (x.wait.length + c.length) (0 : Int)) 0 (List.replicate (x.wait.length + c.length) (0 : Int)).length x.wait))).length = c.length := by
   rw [List.length_take, List.length_drop, e1]; omega
  rw [e1, e2]
  exact (copied_all _ _).symm
 ·simpa using feedLoop hx _ (acc := []) rfl (hB.app hC) (by simp; omega)
theorem feed_no {x : rpc_Buffer} (hx : x.code ≠ 0) (c : List Int) : rpc_Buffer_Feed x c ([], x.code, x) := by
 unfold rpc_Buffer_Feed
 rw [if_neg hx]
def br : ByteArray := ⟨#[123, 125]⟩
theorem take_nil : (takeF []).2.2 = 260 := by decide
theorem frame_loop {s : ByteArray} (hs : s.size ≤ 2097152) (c : List Int) (hC : Bts c) : loopF (frame s ++ c) = (s :: (loopF c).1, (loopF c).2) := by
 have h := frame_take hs c
 rw [loopF_ok ((frame_bts s).app hC) (by rw [h])]
 rw [h]
 simp only [Int.toNat_natCast]
 rw [List.drop_left' rfl]
theorem loop_nil : loopF [] = ([], [], 0) := loopF_more take_nil
theorem sameBytes_ok {a b : List Int} (ha : a.length < 2 ^ 60) (h : a = b) : trellislaw26_sameBytes a b true := by
 subst h
 unfold trellislaw26_sameBytes
 rw [if_pos rfl]
 refine Rounds.cnt a.length (fun i hi => ?_) ?_
 ·unfold trellislaw26_sameBytes_b1
  rw [if_pos (by omega), w64_nat (by omega)]
  exact ⟨by omega, by omega, by rw [if_pos rfl]⟩
 ·unfold trellislaw26_sameBytes_b1
  rw [if_neg (by omega)]
theorem take_snoc {α : Type} [Inhabited α] {xs : List α} {i : Nat} (h : i < xs.length) : xs.take i ++ [ix xs (i : Int)] = xs.take (i + 1) := by
 rw [ix_nat h, List.take_succ_eq_append_getElem h]
theorem bts_of {b : List Int} (h : ∀ x ∈ b, (Lit.int .u8 x).wf = true) : Bts b := fun x hx => by
 have := h x hx
 simp only [Lit.wf, Bool.and_eq_true, decide_eq_true_eq] at this
 have h1 : IntKind.u8.min = 0 := rfl
 have h2 : IntKind.u8.max = 255 := rfl
 rw [h1, h2] at this
 exact this
theorem pre_take {b F : List Int} (h : b = F ++ b.drop F.length) : b.take F.length = F := by
 have := congrArg (List.take F.length) h
 rw [List.take_left' rfl] at this
 exact this
theorem loop_ind {P : List Int → Prop} (step : ∀ b, Bts b → (takeF b).2.2 = 0 → P (b.drop (takeF b).2.1.toNat) → P b) (stay : ∀ b, Bts b → (takeF b).2.2 ≠ 0 → P b) : ∀ (n : Nat) {b : List Int}, b.length = n → Bts b → P b := by
 intro n
 induction n using Nat.strongRecOn with
 | _ n ih =>
  intro b hn hB
  by_cases h0 : (takeF b).2.2 = 0
  ·have hp := take_pos hB h0
   exact step b hB h0 (ih (b.length - (takeF b).2.1.toNat) (by omega) (by simp) (hB.drop _))
  ·exact stay b hB h0
theorem loop_bts {b : List Int} (hB : Bts b) : Bts (loopF b).2.1 := by
 refine loop_ind (P := fun b => Bts (loopF b).2.1) (fun b hB h0 ih => ?_) (fun b hB h0 => ?_) _ rfl hB
 ·rw [loopF_ok hB h0]; exact ih
 ·by_cases h1 : (takeF b).2.2 = 260
  ·rw [loopF_more h1]; exact hB
  ·rw [loopF_err h0 h1]; intro x hx; cases hx
theorem loop_size {b : List Int} (hB : Bts b) : 21 * (loopF b).1.length + (loopF b).2.1.length ≤ b.length := by
 refine loop_ind (P := fun b => 21 * (loopF b).1.length + (loopF b).2.1.length ≤ b.length) (fun b hB h0 ih => ?_) (fun b hB h0 => ?_) _ rfl hB
 ·have hp := take_pos hB h0
  rw [loopF_ok hB h0]
  simp only [List.length_cons, List.length_drop] at ih ⊢
  omega
 ·by_cases h1 : (takeF b).2.2 = 260
  ·rw [loopF_more h1]; simp
  ·rw [loopF_err h0 h1]; simp
theorem loop_rest {b : List Int} (hB : Bts b) : (loopF b).2.1.length ≤ 2097179 ∧ ((loopF b).2.2 ≠ 0 → (loopF b).2.1 = []) := by
 refine loop_ind (P := fun b => (loopF b).2.1.length ≤ 2097179 ∧ ((loopF b).2.2 ≠ 0 → (loopF b).2.1 = [])) (fun b hB h0 ih => ?_) (fun b hB h0 => ?_) _ rfl hB
 ·rw [loopF_ok hB h0]; exact ih
 ·by_cases h1 : (takeF b).2.2 = 260
  ·rw [loopF_more h1]; exact ⟨takeF_more h1, fun h => absurd rfl h⟩
  ·rw [loopF_err h0 h1]; exact ⟨by simp, fun _ => rfl⟩
theorem sameTexts_ok {a b : List ByteArray} (ha : a.length < 2 ^ 60) (h : a = b) : trellislaw26_sameTexts a b true := by
 subst h
 unfold trellislaw26_sameTexts
 rw [if_pos rfl]
 refine Rounds.cnt a.length (fun i hi => ?_) ?_
 ·unfold trellislaw26_sameTexts_b1
  rw [if_pos (by omega), w64_nat (by omega)]
  exact ⟨by omega, by omega, by rw [if_pos rfl]⟩
 ·unfold trellislaw26_sameTexts_b1
  rw [if_neg (by omega)]
end Go.Proofs.Ytbejkaeidnajkaa.L
