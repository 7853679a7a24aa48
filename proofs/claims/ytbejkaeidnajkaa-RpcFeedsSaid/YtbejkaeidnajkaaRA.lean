/- The plain side of chapter 26: frames and bytes. No condition. -/
import Derived.Test.YtbejkaeidnajkaaU1
import Derived.Test.YtbejkaeidnajkaaR
import Derived.Lib.ItoaMem
set_option linter.unusedVariables false
namespace Go.Proofs.Ytbejkaeidnajkaa.L
open Go.Proofs.Ytbejkaeidnajkaa.B Go.Proofs.Ytbejkaeidnajkaa.R
def Bts (b : List Int) : Prop := ∀ x ∈ b, 0 ≤ x ∧ x ≤ 255
def hdB : ByteArray := ⟨#[67, 111, 110, 116, 101, 110, 116, 45, 76, 101, 110, 103, 116, 104, 58, 32]⟩
def bhB : ByteArray := ⟨#[13, 10, 13, 10]⟩
def hdL : List Int := [67, 111, 110, 116, 101, 110, 116, 45, 76, 101, 110, 103, 116, 104, 58, 32]
def bhL : List Int := [13, 10, 13, 10]
theorem hdL_eq : bsOf hdB = hdL := by decide
theorem bhL_eq : bsOf bhB = bhL := by decide
theorem bt_ix {s : ByteArray} {i : Nat} (h : i < s.size) : bt s i = (bsOf s)[i]'(by rw [bsOf_len]; exact h) := by
 unfold bt bsOf
 rw [Int.toNat_natCast, getElem?_pos s i h]
 simp
 rfl
theorem bsOf_app (s t : ByteArray) : bsOf (s ++ t) = bsOf s ++ bsOf t := by simp [bsOf]
theorem bsOf_ofBs {l : List Int} (h : Bts l) : bsOf (ofBs l) = l := by
 unfold bsOf ofBs
 simp only [List.map_map]
 refine (List.map_congr_left fun x hx => ?_).trans (List.map_id l)
 obtain ⟨h0, h1⟩ := h x hx
 simp only [Function.comp, id_eq]
 rw [UInt8.toNat_ofNat']
 omega
theorem ofBs_bsOf (s : ByteArray) : ofBs (bsOf s) = s := by
 unfold bsOf ofBs
 rw [List.map_map]
 have : s.data.toList.map ((fun x : Int => UInt8.ofNat x.toNat) ∘ fun b => (b.toNat : Int)) = s.data.toList := by
  refine (List.map_congr_left fun x _ => ?_).trans (List.map_id _)
  simp
 rw [this]
theorem bsOf_bts (s : ByteArray) : Bts (bsOf s) := fun x hx => by
 unfold bsOf at hx
 obtain ⟨b, _, rfl⟩ := List.mem_map.1 hx
 have := b.toNat_lt
 omega
theorem Bts.app {a b : List Int} (h : Bts a) (k : Bts b) : Bts (a ++ b) := fun x hx => by
 rcases List.mem_append.1 hx with hx | hx
 ·exact h x hx
 ·exact k x hx
theorem Bts.l {a b : List Int} (h : Bts (a ++ b)) : Bts a := fun x hx => h x (List.mem_append.2 (.inl hx))
theorem Bts.r {a b : List Int} (h : Bts (a ++ b)) : Bts b := fun x hx => h x (List.mem_append.2 (.inr hx))
theorem Bts.drop {a : List Int} (h : Bts a) (n : Nat) : Bts (a.drop n) := fun x hx => h x (List.mem_of_mem_drop hx)
theorem Bts.take {a : List Int} (h : Bts a) (n : Nat) : Bts (a.take n) := fun x hx => h x (List.mem_of_mem_take hx)

def stF : List Int → List Int → Int
 | _, [] => 0
 | [], _ :: _ => 260
 | x :: b, y :: s => if x = y then stF b s else 261
theorem stF_cases : ∀ b s, stF b s = 0 ∨ stF b s = 260 ∨ stF b s = 261
 | _, [] => .inl (by simp [stF])
 | [], _ :: _ => .inr (.inl (by simp [stF]))
 | x :: b, y :: s => by
  rw [stF]
  split
  ·exact stF_cases b s
  ·exact .inr (.inr rfl)
theorem stF_self : ∀ s c, stF (s ++ c) s = 0
 | [], c => by simp [stF]
 | x :: s, c => by rw [List.cons_append, stF, if_pos rfl, stF_self]
theorem stF_inv : ∀ {b s}, stF b s = 0 → b = s ++ b.drop s.length
 | b, [], _ => by simp
 | [], y :: s, h => by simp [stF] at h
 | x :: b, y :: s, h => by
  rw [stF] at h
  split at h
  ·rename_i e
   subst e
   have := stF_inv h
   simp only [List.length_cons, List.drop_succ_cons, List.cons_append]
   rw [← this]
  ·cases h
theorem stF_app : ∀ {b s} (c : List Int), stF b s ≠ 260 → stF (b ++ c) s = stF b s
 | b, [], c, _ => by simp [stF]
 | [], y :: s, c, h => by simp [stF] at h
 | x :: b, y :: s, c, h => by
  rw [List.cons_append, stF, stF]
  rw [stF] at h
  split
  ·rename_i e; rw [if_pos e] at h; exact stF_app c h
  ·rfl
theorem stF_more : ∀ {b s}, stF b s = 260 → b.length < s.length
 | b, [], h => by simp [stF] at h
 | [], y :: s, _ => by simp
 | x :: b, y :: s, h => by
  rw [stF] at h
  split at h
  ·have := stF_more h; simp; omega
  ·cases h
theorem stands_ok {b : List Int} (hb : b.length < 2 ^ 60) {s : ByteArray} (hs : s.size < 1000) : rpc_stands b s (stF b (bsOf s)) := by
 unfold rpc_stands
 have hl := bsOf_len s
 refine Rounds.to (fun i : Int => 0 ≤ i ∧ i ≤ (s.size : Int) ∧ i ≤ (b.length : Int) ∧ stF (b.drop i.toNat) ((bsOf s).drop i.toNat) = stF b (bsOf s)) (fun i => ((s.size : Int) - i).toNat) (fun i hi => ?_) ⟨by omega, by omega, by omega, rfl⟩
 obtain ⟨h0, h1, h2, h3⟩ := hi
 obtain ⟨n, rfl⟩ : ∃ n : Nat, i = n := ⟨i.toNat, by omega⟩
 rw [Int.toNat_natCast] at h3
 unfold rpc_stands_b1
 by_cases hc : (n : Int) < (s.size : Int)
 ·have hn : n < (bsOf s).length := by omega
  by_cases he : (n : Int) = (b.length : Int)
  ·left
   rw [if_pos hc, if_pos he, ← h3, List.drop_eq_nil_of_le (by omega), List.drop_eq_getElem_cons hn]
   simp [stF]
  ·have hnb : n < b.length := by omega
   rw [List.drop_eq_getElem_cons hn, List.drop_eq_getElem_cons hnb, stF] at h3
   by_cases hx : b[n] = (bsOf s)[n]
   ·right
    rw [if_pos hx] at h3
    refine ⟨(n : Int) + 1, by rw [if_pos hc, if_neg he, ix_nat hnb, bt_ix (by omega)]; exact ⟨by omega, by omega, by rw [if_pos hx, w64_nat (by omega)]⟩, ⟨by omega, by omega, by omega, ?_⟩, by omega⟩
    rw [show ((n : Int) + 1).toNat = n + 1 by omega, h3]
   ·left
    rw [if_neg hx] at h3
    rw [if_pos hc, if_neg he, ix_nat hnb, bt_ix (by omega)]
    exact ⟨by omega, by omega, by rw [if_neg hx, ← h3]⟩
 ·left
  rw [if_neg hc, ← h3, List.drop_eq_nil_of_le (as := bsOf s) (by omega)]
  simp [stF]

def numF : List Int → Int → Int → Int × Int × Int
 | [], _, _ => (0, 0, 260)
 | c :: l, n, k =>
  if c < 48 ∨ c > 57 then (if k = 0 then (0, 0, 261) else (n, k, 0))
  else if k > 0 ∧ n = 0 then (0, 0, 261)
  else if 10 * n + (c - 48) > 2097152 then (0, 0, 262) else numF l (10 * n + (c - 48)) (k + 1)
theorem number_ok {b : List Int} (hb : b.length < 2 ^ 60) (hB : Bts b) : rpc_number b (numF b 0 0) := by
 unfold rpc_number
 refine Rounds.to (fun q : Int × Int => 0 ≤ q.1 ∧ q.1 ≤ 2097152 ∧ 0 ≤ q.2 ∧ q.2 ≤ (b.length : Int) ∧ numF (b.drop q.2.toNat) q.1 q.2 = numF b 0 0) (fun q => ((b.length : Int) - q.2).toNat) (fun q hq => ?_) ⟨by simp, by simp, by simp, by simp, by simp⟩
 obtain ⟨n, i⟩ := q
 obtain ⟨h0, h1, h2, h3, h4⟩ := hq
 simp only at h0 h1 h2 h3 h4
 obtain ⟨k, rfl⟩ : ∃ k : Nat, i = k := ⟨i.toNat, by omega⟩
 rw [Int.toNat_natCast] at h4
 simp only
 by_cases he : (k : Int) = (b.length : Int)
 ·left
  unfold rpc_number_b1
  rw [if_pos he, ← h4, List.drop_eq_nil_of_le (by omega), numF]
 ·have hk : k < b.length := by omega
  obtain ⟨b0, b1⟩ := hB _ (List.getElem_mem hk)
  rw [List.drop_eq_getElem_cons hk, numF] at h4
  have red : ∀ o, ((0 ≤ (k : Int) ∧ (k : Int) < (b.length : Int)) ∧ if b[k] < 48 then rpc_number_j2 k n b true o else rpc_number_j2 k n b (decide (b[k] > 57)) o) → rpc_number_b1 b n k o := fun o ho => by
   unfold rpc_number_b1
   rw [if_neg he, ix_nat hk]
   exact ho
  have hj2 : b[k] < 48 ∨ b[k] > 57 → rpc_number_j2 k n b true (.inr (numF b 0 0)) := fun hd => by
   rw [if_pos hd] at h4
   unfold rpc_number_j2
   rw [if_pos rfl, ← h4]
   split <;> rfl
  by_cases hd : b[k] < 48 ∨ b[k] > 57
  ·left
   refine red _ ⟨by omega, ?_⟩
   split
   ·exact hj2 hd
   ·rw [decide_eq_true (by omega)]; exact hj2 hd
  ·rw [if_neg hd] at h4
   have hw : w64 ((w64 (10 * n)) + (w64 (IntKind.u8.wrap ((b[k]) - 48)))) = 10 * n + (b[k] - 48) := by
    rw [u8_id (by omega), w64_id (x := 10 * n) (by omega), w64_id (x := b[k] - 48) (by omega), w64_id (by omega)]
   by_cases hz : (k : Int) > 0 ∧ n = 0
   ·left
    rw [if_pos hz] at h4
    refine red _ ⟨by omega, ?_⟩
    rw [if_neg (by omega), decide_eq_false (by omega)]
    unfold rpc_number_j2
    rw [if_neg (by simp), if_pos hz.1, hz.2]
    unfold rpc_number_j3
    rw [if_pos (by rfl), ← h4]
   ·rw [if_neg hz] at h4
    have key : ∀ o, rpc_number_j3 k b n false o → rpc_number_b1 b n k o := fun o ho => by
     refine red _ ⟨by omega, ?_⟩
     rw [if_neg (by omega), decide_eq_false (by omega)]
     unfold rpc_number_j2
     rw [if_neg (by simp)]
     by_cases hk0 : (k : Int) > 0
     ·rw [if_pos hk0, beq_eq_false_iff_ne.2 (fun e => hz ⟨hk0, e⟩)]; exact ho
     ·rw [if_neg hk0]; exact ho
    by_cases hbig : 10 * n + (b[k] - 48) > 2097152
    ·left
     rw [if_pos hbig] at h4
     refine key _ ?_
     unfold rpc_number_j3
     rw [if_neg (by simp), ix_nat hk, hw]
     exact ⟨by omega, by rw [if_pos hbig, ← h4]⟩
    ·right
     rw [if_neg hbig] at h4
     refine ⟨(10 * n + (b[k] - 48), (k : Int) + 1), key _ ?_, ⟨by show 0 ≤ 10 * n + (b[k] - 48); omega, by show 10 * n + (b[k] - 48) ≤ _; omega, by show 0 ≤ (k : Int) + 1; omega, by show (k : Int) + 1 ≤ _; omega, ?_⟩, by show ((b.length : Int) - ((k : Int) + 1)).toNat < ((b.length : Int) - (k : Int)).toNat; omega⟩
     ·unfold rpc_number_j3
      rw [if_neg (by simp), ix_nat hk, hw]
      exact ⟨by omega, by rw [if_neg hbig, w64_nat (by omega)]⟩
     ·show numF (b.drop ((k : Int) + 1).toNat) _ _ = _
      rw [show ((k : Int) + 1).toNat = k + 1 by omega]
      exact h4
theorem numF_app (c : List Int) : ∀ {b : List Int} {n k : Int}, (numF b n k).2.2 ≠ 260 → numF (b ++ c) n k = numF b n k
 | [], n, k, h => by simp [numF] at h
 | x :: b, n, k, h => by
  rw [List.cons_append, numF, numF]
  rw [numF] at h
  split
  ·rfl
  ·rename_i h1
   rw [if_neg h1] at h
   split
   ·rfl
   ·rename_i h2
    rw [if_neg h2] at h
    split
    ·rfl
    ·rename_i h3
     rw [if_neg h3] at h
     exact numF_app c h
theorem numF_err : ∀ {b : List Int} {n k : Int}, (numF b n k).2.2 = 0 ∨ ((numF b n k).2.2 = 260 ∨ (numF b n k).2.2 = 261 ∨ (numF b n k).2.2 = 262)
 | [], n, k => .inr (.inl (by simp [numF]))
 | x :: b, n, k => by
  rw [numF]
  split
  ·split
   ·exact .inr (.inr (.inl rfl))
   ·exact .inl rfl
  ·split
   ·exact .inr (.inr (.inl rfl))
   ·split
    ·exact .inr (.inr (.inr rfl))
    ·exact numF_err
def D (u : Nat) : List Int := (Lib.decDigits u).map fun b => (b.toNat : Int)
theorem D_small {u : Nat} (h : u < 10) : D u = [48 + (u : Int)] := by
 unfold D
 rw [Lib.decDigits_one h]
 simp
 omega
theorem D_big {u : Nat} (h : ¬ u < 10) : D u = D (u / 10) ++ [48 + ((u % 10 : Nat) : Int)] := by
 unfold D
 rw [Lib.decDigits, dif_neg h, List.map_append]
 congr 1
 simp
 omega
theorem D_itoa (u : Nat) : bsOf (itoaB (u : Int)) = D u := by
 unfold bsOf itoaB D
 rw [Lib.itoa_nonneg]
theorem D_pos (u : Nat) : 1 ≤ (D u).length := by
 by_cases h : u < 10
 ·rw [D_small h]; simp
 ·rw [D_big h]; simp
theorem D_len : ∀ (m : Nat) {u : Nat}, u < 10 ^ (m + 1) → (D u).length ≤ m + 1
 | 0, u, h => by rw [D_small (by omega)]; simp
 | m + 1, u, h => by
  by_cases h1 : u < 10
  ·rw [D_small h1]; simp
  ·rw [D_big h1]
   have := D_len m (u := u / 10) (by rw [Nat.pow_succ] at h; omega)
   simp; omega
theorem D_dig : ∀ {u : Nat}, ∀ x ∈ D u, 48 ≤ x ∧ x ≤ 57 := by
 intro u
 induction u using Nat.strongRecOn with
 | _ u ih =>
  intro x hx
  by_cases h : u < 10
  ·rw [D_small h] at hx; simp at hx; omega
  ·rw [D_big h] at hx
   rcases List.mem_append.1 hx with hx | hx
   ·exact ih (u / 10) (by omega) x hx
   ·simp at hx; omega
theorem numF_step {c : Int} {l : List Int} {n k : Int} (hc : 48 ≤ c ∧ c ≤ 57) (hz : ¬ (k > 0 ∧ n = 0)) (hb : 10 * n + (c - 48) ≤ 2097152) : numF (c :: l) n k = numF l (10 * n + (c - 48)) (k + 1) := by
 rw [numF, if_neg (by omega), if_neg hz, if_neg (by omega)]
theorem numF_D : ∀ {u : Nat} (l : List Int), u ≤ 2097152 → numF (D u ++ l) 0 0 = numF l u (D u).length := by
 intro u
 induction u using Nat.strongRecOn with
 | _ u ih =>
  intro l hu
  by_cases h : u < 10
  ·rw [D_small h, List.singleton_append, numF_step (by omega) (by omega) (by omega)]
   simp
   congr 1 <;> omega
  ·rw [D_big h, List.append_assoc, ih (u / 10) (by omega) _ (by omega), List.singleton_append, numF_step (by omega) (by omega) (by omega)]
   simp
   congr 1 <;> omega
theorem numF_stop {c : Int} {l : List Int} {n k : Int} (hc : c < 48 ∨ c > 57) (hk : k ≠ 0) : numF (c :: l) n k = (n, k, 0) := by rw [numF, if_pos hc, if_neg hk]
theorem numF_inv : ∀ {l : List Int} {n : Nat} {N K : Int}, numF l n (D n).length = (N, K, 0) → ∃ (u : Nat) (x : Int) (c : List Int), N = u ∧ K = (D u).length ∧ D n ++ l = D u ++ x :: c ∧ (x < 48 ∨ x > 57)
 | [], n, N, K, h => by simp [numF] at h
 | x :: l, n, N, K, h => by
  have hp := D_pos n
  rw [numF] at h
  split at h
  ·rename_i hx
   rw [if_neg (by omega)] at h
   simp only [Prod.mk.injEq, and_true] at h
   exact ⟨n, x, l, h.1.symm, h.2.symm, rfl, hx⟩
  ·rename_i hx
   split at h
   ·simp at h
   ·rename_i hz
    split at h
    ·simp at h
    ·have hn : n ≠ 0 := fun e => hz ⟨by omega, by omega⟩
     have e : D (10 * n + (x - 48).toNat) = D n ++ [x] := by
      rw [D_big (by omega), show (10 * n + (x - 48).toNat) / 10 = n by omega]
      congr 2; omega
     have e2 : (10 * (n : Int) + (x - 48)) = ((10 * n + (x - 48).toNat : Nat) : Int) := by omega
     have e3 : (((D n).length : Nat) : Int) + 1 = ((D (10 * n + (x - 48).toNat)).length : Nat) := by rw [e]; simp
     rw [e2, e3] at h
     obtain ⟨u, y, c, h1, h2, h3, h4⟩ := numF_inv h
     exact ⟨u, y, c, h1, h2, by rw [← h3, e]; simp, h4⟩
theorem numF_inv0 {l : List Int} {N K : Int} (h : numF l 0 0 = (N, K, 0)) : ∃ (u : Nat) (x : Int) (c : List Int), N = u ∧ K = (D u).length ∧ l = D u ++ x :: c ∧ (x < 48 ∨ x > 57) := by
 match l, h with
 | [], h => simp [numF] at h
 | x :: l, h =>
  rw [numF] at h
  split at h
  ·simp at h
  ·rename_i hx
   rw [if_neg (by omega)] at h
   split at h
   ·simp at h
   ·have e : D (x - 48).toNat = [x] := by rw [D_small (by omega)]; congr 1; omega
    have e3 : (0 : Int) + 1 = ((D (x - 48).toNat).length : Nat) := by rw [e]; rfl
    rw [show (10 * (0 : Int) + (x - 48)) = (((x - 48).toNat : Nat) : Int) by omega, e3] at h
    obtain ⟨u, y, c, h1, h2, h3, h4⟩ := numF_inv h
    exact ⟨u, y, c, h1, h2, by rw [← h3, e]; rfl, h4⟩
theorem numF_le : ∀ {l : List Int} {n k : Int}, n ≤ 2097152 → (numF l n k).2.2 = 0 → (numF l n k).1 ≤ 2097152
 | [], n, k, hn, h => by simp [numF] at h
 | x :: l, n, k, hn, h => by
  rw [numF] at h ⊢
  split
  ·split
   ·simp
   ·exact hn
  ·rename_i h1
   rw [if_neg h1] at h
   split
   ·simp
   ·rename_i h2
    rw [if_neg h2] at h
    split
    ·simp
    ·rename_i h3
     rw [if_neg h3] at h
     exact numF_le (by omega) h
theorem numF_more : ∀ {l : List Int} {n : Nat}, 1 ≤ n → (numF l n (D n).length).2.2 = 260 → n ≤ 2097152 → ∃ u : Nat, u ≤ 2097152 ∧ D n ++ l = D u
 | [], n, hn, h, hu => ⟨n, hu, by simp⟩
 | x :: l, n, hn, h, hu => by
  have hp := D_pos n
  rw [numF] at h
  split at h
  ·rw [if_neg (by omega)] at h; simp at h
  ·rename_i hx
   rw [if_neg (by omega)] at h
   split at h
   ·simp at h
   ·have e : D (10 * n + (x - 48).toNat) = D n ++ [x] := by
     rw [D_big (by omega), show (10 * n + (x - 48).toNat) / 10 = n by omega]
     congr 2; omega
    have e2 : (10 * (n : Int) + (x - 48)) = ((10 * n + (x - 48).toNat : Nat) : Int) := by omega
    have e3 : (((D n).length : Nat) : Int) + 1 = ((D (10 * n + (x - 48).toNat)).length : Nat) := by rw [e]; simp
    rw [e2, e3] at h
    obtain ⟨u, h1, h2⟩ := numF_more (by omega) h (by omega)
    exact ⟨u, h1, by rw [← h2, e]; simp⟩
theorem numF_more0 {l : List Int} (h : (numF l 0 0).2.2 = 260) : l.length ≤ 7 := by
 match l, h with
 | [], _ => simp
 | x :: l, h =>
  rw [numF] at h
  split at h
  ·simp at h
  ·rename_i hx
   rw [if_neg (by omega)] at h
   split at h
   ·simp at h
   ·have e : D (x - 48).toNat = [x] := by rw [D_small (by omega)]; congr 1; omega
    have e3 : (0 : Int) + 1 = ((D (x - 48).toNat).length : Nat) := by rw [e]; rfl
    rw [show (10 * (0 : Int) + (x - 48)) = (((x - 48).toNat : Nat) : Int) by omega, e3] at h
    rcases Nat.eq_zero_or_pos (x - 48).toNat with h0 | h0
    ·rw [h0] at h
     match l, h with
     | [], _ => simp
     | y :: l, h =>
      have hp := D_pos 0
      rw [numF] at h
      split at h
      ·rw [if_neg (by omega)] at h; simp at h
      ·rw [if_pos ⟨by omega, rfl⟩] at h; simp at h
    ·obtain ⟨u, h1, h2⟩ := numF_more h0 h (by omega)
     have h3 := D_len 6 (u := u) (by omega)
     rw [← h2, e] at h3
     simpa using h3

def takeF (b : List Int) : ByteArray × Int × Int :=
 if stF b hdL = 0 then
  if (numF (b.drop 16) 0 0).2.2 = 0 then
   if stF (b.drop (16 + (numF (b.drop 16) 0 0).2.1).toNat) bhL = 0 then
    if (numF (b.drop 16) 0 0).1 > (b.length : Int) - (16 + (numF (b.drop 16) 0 0).2.1 + 4) then (⟨#[]⟩, 0, 260)
    else (ofBs ((b.take (16 + (numF (b.drop 16) 0 0).2.1 + 4 + (numF (b.drop 16) 0 0).1).toNat).drop (16 + (numF (b.drop 16) 0 0).2.1 + 4).toNat), 16 + (numF (b.drop 16) 0 0).2.1 + 4 + (numF (b.drop 16) 0 0).1, 0)
   else (⟨#[]⟩, 0, stF (b.drop (16 + (numF (b.drop 16) 0 0).2.1).toNat) bhL)
  else (⟨#[]⟩, 0, (numF (b.drop 16) 0 0).2.2)
 else (⟨#[]⟩, 0, stF b hdL)
theorem st_len {b s : List Int} (h : stF b s = 0) : s.length ≤ b.length := by
 have := congrArg List.length (stF_inv h)
 simp at this; omega
theorem num_parts {b : List Int} (h : (numF b 0 0).2.2 = 0) : ∃ u : Nat, (numF b 0 0).1 = u ∧ (numF b 0 0).2.1 = (D u).length ∧ u ≤ 2097152 ∧ b = D u ++ b.drop (D u).length := by
 have hle := numF_le (l := b) (n := 0) (k := 0) (by omega) h
 obtain ⟨u, x, c, h1, h2, h3, h4⟩ := numF_inv0 (l := b) (N := (numF b 0 0).1) (K := (numF b 0 0).2.1) (Prod.ext rfl (Prod.ext rfl h))
 refine ⟨u, h1, h2, by omega, ?_⟩
 conv => lhs; rw [h3]
 rw [h3]
 simp
theorem take_ok {b : List Int} (hb : b.length < 2 ^ 60) (hB : Bts b) : rpc_Take b (takeF b) := by
 unfold rpc_Take takeF
 refine ⟨_, stands_ok hb (s := hdB) (by decide), ?_⟩
 rw [hdL_eq]
 by_cases h1 : stF b hdL = 0
 ·rw [if_pos h1, if_pos h1]
  have l1 : 16 ≤ b.length := st_len h1
  refine ⟨by omega, _, number_ok (by simp; omega) (hB.drop 16), ?_⟩
  rw [show (16 : Int).toNat = 16 from rfl]
  show if (numF (b.drop 16) 0 0).2.2 = 0 then _ else _
  by_cases h2 : (numF (b.drop 16) 0 0).2.2 = 0
  ·rw [if_pos h2, if_pos h2]
   obtain ⟨u, e1, e2, hu, e3⟩ := num_parts h2
   have l2 := congrArg List.length e3
   simp only [List.length_append, List.length_drop] at l2
   have l3 : (D u).length ≤ 7 := D_len 6 (by omega)
   rw [e1, e2]
   have w1 : w64 (16 + ((D u).length : Int)) = 16 + ((D u).length : Int) := w64_id (by omega)
   have w2 : w64 (16 + ((D u).length : Int) + 4) = 16 + ((D u).length : Int) + 4 := w64_id (by omega)
   have w3 : w64 ((b.length : Int) - (16 + ((D u).length : Int) + 4)) = (b.length : Int) - (16 + ((D u).length : Int) + 4) := w64_id (by omega)
   have w4 : w64 (16 + ((D u).length : Int) + 4 + (u : Int)) = 16 + ((D u).length : Int) + 4 + (u : Int) := w64_id (by omega)
   rw [w1]
   refine ⟨by omega, _, stands_ok (by simp; omega) (s := bhB) (by decide), ?_⟩
   rw [bhL_eq]
   by_cases h3 : stF (b.drop (16 + ((D u).length : Int)).toNat) bhL = 0
   ·rw [if_pos h3, if_pos h3, w2, w3]
    have l4 : 4 ≤ (b.drop (16 + ((D u).length : Int)).toNat).length := st_len h3
    simp only [List.length_drop] at l4
    by_cases h4 : (u : Int) > (b.length : Int) - (16 + ((D u).length : Int) + 4)
    ·rw [if_pos h4, if_pos h4]
    ·rw [if_neg h4, if_neg h4, w4]
     exact ⟨by omega, rfl⟩
   ·rw [if_neg h3, if_neg h3]
  ·rw [if_neg h2, if_neg h2]
 ·rw [if_neg h1, if_neg h1]
def frame (s : ByteArray) : List Int := hdL ++ (D s.size ++ (bhL ++ bsOf s))
theorem frame_len (s : ByteArray) : (frame s).length = 20 + (D s.size).length + s.size := by simp [frame, hdL, bhL, bsOf_len]; omega
theorem frame_take {s : ByteArray} (hs : s.size ≤ 2097152) (c : List Int) : takeF (frame s ++ c) = (s, ((frame s).length : Int), 0) := by
 have e0 : frame s ++ c = hdL ++ (D s.size ++ (bhL ++ (bsOf s ++ c))) := by simp [frame]
 have d1 : (frame s ++ c).drop 16 = D s.size ++ (bhL ++ (bsOf s ++ c)) := by rw [e0]; exact List.drop_left' rfl
 have n1 : numF ((frame s ++ c).drop 16) 0 0 = ((s.size : Int), ((D s.size).length : Int), 0) := by
  rw [d1, numF_D _ hs]
  exact numF_stop (by omega) (by have := D_pos s.size; omega)
 have d2 : (frame s ++ c).drop (16 + ((D s.size).length : Int)).toNat = bhL ++ (bsOf s ++ c) := by
  rw [show (16 + ((D s.size).length : Int)).toNat = 16 + (D s.size).length by omega, ← List.drop_drop, d1]
  exact List.drop_left' rfl
 have l0 : (frame s ++ c).length = 20 + (D s.size).length + s.size + c.length := by rw [List.length_append, frame_len]
 have d3 : ((frame s ++ c).take (16 + ((D s.size).length : Int) + 4 + (s.size : Int)).toNat).drop (16 + ((D s.size).length : Int) + 4).toNat = bsOf s := by
  rw [show (16 + ((D s.size).length : Int) + 4 + (s.size : Int)).toNat = (frame s).length by rw [frame_len]; omega, List.take_left' rfl]
  rw [show frame s = (hdL ++ D s.size ++ bhL) ++ bsOf s by simp [frame]]
  exact List.drop_left' (by simp [hdL, bhL]; omega)
 unfold takeF
 rw [n1]
 simp only
 rw [if_pos (by rw [e0]; exact stF_self _ _), if_pos trivial, d2, if_pos (stF_self _ _), if_neg (by rw [l0]; omega), d3, ofBs_bsOf]
 simp only [Prod.mk.injEq, and_true, true_and]
 rw [frame_len]; omega
theorem takeF_inv {b : List Int} (hB : Bts b) {s : ByteArray} {n : Int} (h : takeF b = (s, n, 0)) : s.size ≤ 2097152 ∧ n = (frame s).length ∧ b = frame s ++ b.drop (frame s).length := by
 unfold takeF at h
 split at h
 ·rename_i h1
  split at h
  ·rename_i h2
   obtain ⟨u, e1, e2, hu, e3⟩ := num_parts h2
   rw [e1, e2] at h
   split at h
   ·rename_i h3
    split at h
    ·simp at h
    ·rename_i h4
     have f1 : b = hdL ++ b.drop 16 := stF_inv h1
     have f2 : b.drop (16 + (D u).length) = bhL ++ b.drop (20 + (D u).length) := by
      have := stF_inv h3
      rw [show (16 + ((D u).length : Int)).toNat = 16 + (D u).length by omega, List.drop_drop] at this
      rw [this]
      congr 2
      simp [bhL]; omega
     have f3 : b = hdL ++ (D u ++ (bhL ++ b.drop (20 + (D u).length))) := by
      rw [← f2, ← List.drop_drop, ← e3]
      exact f1
     simp only [Prod.mk.injEq, and_true] at h
     obtain ⟨rfl, rfl⟩ := h
     have l1 := congrArg List.length f3
     simp [hdL, bhL] at l1
     have hbody : ((b.take (16 + ((D u).length : Int) + 4 + (u : Int)).toNat).drop (16 + ((D u).length : Int) + 4).toNat) = (b.drop (20 + (D u).length)).take u := by
      rw [show (16 + ((D u).length : Int) + 4 + (u : Int)).toNat = 20 + (D u).length + u by omega, show (16 + ((D u).length : Int) + 4).toNat = 20 + (D u).length by omega, List.drop_take]
      congr 1; omega
     rw [hbody]
     have hbl : ((b.drop (20 + (D u).length)).take u).length = u := by simp; omega
     have hsz : (ofBs ((b.drop (20 + (D u).length)).take u)).size = u := by
      rw [← bsOf_len, bsOf_ofBs ((hB.drop _).take _), hbl]
     have hfr : frame (ofBs ((b.drop (20 + (D u).length)).take u)) = hdL ++ (D u ++ (bhL ++ (b.drop (20 + (D u).length)).take u)) := by
      unfold frame
      rw [hsz, bsOf_ofBs ((hB.drop _).take _)]
     have hfl := frame_len (ofBs ((b.drop (20 + (D u).length)).take u))
     rw [hsz] at hfl
     refine ⟨by omega, by rw [hfl]; omega, ?_⟩
     rw [hfl, hfr]
     conv => lhs; rw [f3]
     simp only [List.append_assoc]
     rw [show b.drop (20 + (D u).length + u) = (b.drop (20 + (D u).length)).drop u from List.drop_drop.symm, List.take_append_drop]
   ·rename_i h3
    simp only [Prod.mk.injEq] at h
    exact absurd h.2.2 h3
  ·rename_i h2
   simp only [Prod.mk.injEq] at h
   exact absurd h.2.2 h2
 ·rename_i h1
  simp only [Prod.mk.injEq] at h
  exact absurd h.2.2 h1
theorem takeF_err {b : List Int} (h : (takeF b).2.2 ≠ 0) : (takeF b).1 = ⟨#[]⟩ ∧ (takeF b).2.1 = 0 ∧ ((takeF b).2.2 = 260 ∨ (takeF b).2.2 = 261 ∨ (takeF b).2.2 = 262) := by
 unfold takeF at h ⊢
 split
 ·rename_i h1
  rw [if_pos h1] at h
  split
  ·rename_i h2
   rw [if_pos h2] at h
   split
   ·rename_i h3
    rw [if_pos h3] at h
    split
    ·exact ⟨rfl, rfl, .inl rfl⟩
    ·rename_i h4; rw [if_neg h4] at h; exact absurd rfl h
   ·rename_i h3
    rcases stF_cases (b.drop (16 + (numF (b.drop 16) 0 0).2.1).toNat) bhL with h4 | h4 | h4
    ·exact absurd h4 h3
    ·exact ⟨rfl, rfl, .inl h4⟩
    ·exact ⟨rfl, rfl, .inr (.inl h4)⟩
  ·rename_i h2
   rcases numF_err (b := b.drop 16) (n := 0) (k := 0) with h4 | h4 | h4 | h4
   ·exact absurd h4 h2
   ·exact ⟨rfl, rfl, .inl h4⟩
   ·exact ⟨rfl, rfl, .inr (.inl h4)⟩
   ·exact ⟨rfl, rfl, .inr (.inr h4)⟩
 ·rename_i h1
  rcases stF_cases b hdL with h4 | h4 | h4
  ·exact absurd h4 h1
  ·exact ⟨rfl, rfl, .inl h4⟩
  ·exact ⟨rfl, rfl, .inr (.inl h4)⟩
theorem takeF_app {b : List Int} (c : List Int) (h : (takeF b).2.2 ≠ 260) : takeF (b ++ c) = takeF b := by
 have s1 : stF b hdL ≠ 260 := fun e => h (by unfold takeF; rw [if_neg (by rw [e]; decide)]; exact e)
 have t1 := stF_app c s1
 unfold takeF
 rw [t1]
 by_cases h1 : stF b hdL = 0
 ·have l1 : 16 ≤ b.length := st_len h1
  have d1 : (b ++ c).drop 16 = b.drop 16 ++ c := List.drop_append_of_le_length (by omega)
  have s2 : (numF (b.drop 16) 0 0).2.2 ≠ 260 := fun e => h (by unfold takeF; rw [if_pos h1, if_neg (by rw [e]; decide)]; exact e)
  have t2 := numF_app c s2
  rw [if_pos h1, if_pos h1, d1, t2]
  by_cases h2 : (numF (b.drop 16) 0 0).2.2 = 0
  ·rw [if_pos h2, if_pos h2]
   obtain ⟨u, e1, e2, hu, e3⟩ := num_parts h2
   have l2 := congrArg List.length e3
   simp only [List.length_append, List.length_drop] at l2
   have g0 : takeF b = takeF b := rfl
   conv at g0 => rhs; unfold takeF
   rw [if_pos h1, if_pos h2, e1, e2] at g0
   rw [e1, e2]
   have d2 : (b ++ c).drop (16 + ((D u).length : Int)).toNat = b.drop (16 + ((D u).length : Int)).toNat ++ c := List.drop_append_of_le_length (by omega)
   rw [d2]
   have s3 : stF (b.drop (16 + ((D u).length : Int)).toNat) bhL ≠ 260 := fun e => h (by rw [g0, if_neg (by rw [e]; decide)]; exact e)
   rw [stF_app c s3]
   by_cases h3 : stF (b.drop (16 + ((D u).length : Int)).toNat) bhL = 0
   ·rw [if_pos h3, if_pos h3]
    rw [if_pos h3] at g0
    have h4 : ¬ (u : Int) > (b.length : Int) - (16 + ((D u).length : Int) + 4) := fun e => h (by rw [g0, if_pos e])
    rw [if_neg h4, if_neg (by simp; omega)]
    rw [List.take_append_of_le_length (by omega)]
   ·rw [if_neg h3, if_neg h3]
  ·rw [if_neg h2, if_neg h2]
 ·rw [if_neg h1, if_neg h1]
theorem takeF_more {b : List Int} (h : (takeF b).2.2 = 260) : b.length ≤ 2097179 := by
 unfold takeF at h
 split at h
 ·rename_i h1
  have l1 : 16 ≤ b.length := st_len h1
  split at h
  ·rename_i h2
   obtain ⟨u, e1, e2, hu, e3⟩ := num_parts h2
   have l3 : (D u).length ≤ 7 := D_len 6 (by omega)
   rw [e1, e2] at h
   split at h
   ·split at h
    ·omega
    ·simp at h
   ·have := stF_more (s := bhL) h
    simp [bhL] at this
    omega
  ·have := numF_more0 (l := b.drop 16) h
   simp at this
   omega
 ·have := stF_more (s := hdL) h
  simp [hdL] at this
  omega
theorem frame_bts (s : ByteArray) : Bts (frame s) := by
 unfold frame
 refine Bts.app (fun x hx => ?_) (Bts.app (fun x hx => ?_) (Bts.app (fun x hx => ?_) (bsOf_bts s)))
 ·simp [hdL] at hx; omega
 ·have := D_dig x hx; omega
 ·simp [bhL] at hx; omega
end Go.Proofs.Ytbejkaeidnajkaa.L
