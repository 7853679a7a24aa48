/- The plain side of chapter 8, more: all words of a text. No condition. -/
import Derived.Test.YtjookebbmfiidaaDoorSL
set_option linter.unusedVariables false
namespace Go.Proofs.YtjookebbmfiidaaDoor.L
open Go.Proofs.YtjookebbmfiidaaDoor.B Go.Proofs.YtjookebbmfiidaaDoor.R
def twl (p : Int → Bool) : List Int → Nat
 | [] => 0
 | c :: l => if p c = true then twl p l + 1 else 0
theorem twl_le (p : Int → Bool) : ∀ l, twl p l ≤ l.length
 | [] => Nat.le_refl 0
 | c :: l => by
  rw [twl]
  split
  ·have := twl_le p l; simp; omega
  ·simp
theorem twl_in (p : Int → Bool) : ∀ {l : List Int} {j : Nat} (h : j < twl p l), ∃ h2 : j < l.length, p l[j] = true
 | [], j, h => by simp [twl] at h
 | c :: l, j, h => by
  rw [twl] at h
  split at h
  ·rename_i hc
   match j, h with
   | 0, _ => exact ⟨by simp, hc⟩
   | j + 1, h =>
    obtain ⟨h2, h3⟩ := twl_in p (l := l) (j := j) (by omega)
    exact ⟨by simp; omega, by simpa using h3⟩
  ·omega
theorem twl_out (p : Int → Bool) : ∀ {l : List Int} (h : twl p l < l.length), p l[twl p l] = false
 | [], h => by simp at h
 | c :: l, h => by
  by_cases hc : p c = true
  ·have e : twl p (c :: l) = twl p l + 1 := by rw [twl, if_pos hc]
   have h2 : twl p l < l.length := by rw [e] at h; simpa using h
   have := twl_out p h2
   simp only [e, List.getElem_cons_succ]
   exact this
  ·have e : twl p (c :: l) = 0 := by rw [twl, if_neg hc]
   simp only [e, List.getElem_cons_zero]
   simpa using hc
theorem inScan {s : ByteArray} {p : Int → Bool} {a j : Nat} (h : j < twl p ((bsOf s).drop a)) : a + j < s.size ∧ p (bt s ((a + j : Nat) : Int)) = true := by
 obtain ⟨h2, h3⟩ := twl_in p h
 simp only [List.length_drop, bsOf_len] at h2
 rw [List.getElem_drop] at h3
 exact ⟨by omega, by rw [bt_ix (by omega)]; exact h3⟩
theorem outScan {s : ByteArray} {p : Int → Bool} {a : Nat} (h : a + twl p ((bsOf s).drop a) < s.size) : p (bt s ((a + twl p ((bsOf s).drop a) : Nat) : Int)) = false := by
 have h2 : twl p ((bsOf s).drop a) < ((bsOf s).drop a).length := by simp only [List.length_drop, bsOf_len]; omega
 have := twl_out p h2
 rw [List.getElem_drop] at this
 rw [bt_ix h]; exact this
inductive Item
 | skip (k : Nat)
 | word (kind : Int) (text : List Int) (n : Int) (k : Nat)
 | err (code : Int) (off : Nat)
def numV (l : List Int) (n : Int) : Int := l.foldl (fun n c => min (10 * n + (c - 48)) 65536) n
def signs : ByteArray := ⟨#[123, 125, 40, 41, 124, 42, 43, 63, 58, 59, 44, 61, 64]⟩
def tokF (c : Int) (l : List Int) : Item :=
 if blankP c = true then .skip 1
 else if c = 35 then .skip (twl (fun c => c != 10) (c :: l))
 else if letterP c = true then (if twl nameP (c :: l) > 24 then .err 83 0 else .word 1 ((c :: l).take (twl nameP (c :: l))) 0 (twl nameP (c :: l)))
 else if digitP c = true then (if numV ((c :: l).take (twl digitP (c :: l))) 0 > 65535 then .err 84 0 else .word 4 [] (numV ((c :: l).take (twl digitP (c :: l))) 0) (twl digitP (c :: l)))
 else if c = 34 then (match quF l with
  | .inl (t, k) => .word 2 t 0 (k + 1)
  | .inr none => .err 82 0
  | .inr (some d) => .err 82 (d + 1))
 else if c = 47 then (match slF l with
  | none => .err 82 0
  | some k => .word 3 (l.take k) 0 (k + 2))
 else if idxB signs c ≥ 0 then .word 5 [c] 0 1
 else .err 81 0
theorem numV_snoc (l : List Int) (c n : Int) : numV (l ++ [c]) n = min (10 * numV l n + (c - 48)) 65536 := by simp [numV, List.foldl_append]
end Go.Proofs.YtjookebbmfiidaaDoor.L
