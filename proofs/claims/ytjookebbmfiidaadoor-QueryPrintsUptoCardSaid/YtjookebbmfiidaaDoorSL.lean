/- The plain side of chapter 8: the words of a text, as plain functions on lists of bytes. No condition. -/
import Derived.Test.YtjookebbmfiidaaDoorU1
import Derived.Test.YtjookebbmfiidaaDoorR
import Derived.Lib.ItoaMem
import Derived.KernelRfl
set_option linter.unusedVariables false
namespace Go.Proofs.YtjookebbmfiidaaDoor.L
open Go.Proofs.YtjookebbmfiidaaDoor.B Go.Proofs.YtjookebbmfiidaaDoor.R
def Bts (b : List Int) : Prop := ∀ x ∈ b, 0 ≤ x ∧ x ≤ 255
theorem bt_ix {s : ByteArray} {i : Nat} (h : i < s.size) : bt s i = (bsOf s)[i]'(by rw [bsOf_len]; exact h) := by
 unfold bt bsOf
 rw [Int.toNat_natCast, getElem?_pos s i h]
 simp
 rfl
theorem bsOf_app (s t : ByteArray) : bsOf (s ++ t) = bsOf s ++ bsOf t := by simp [bsOf]
theorem bsOf_ofBs {l : List Int} (h : Bts l) : bsOf (ofBs l) = l := by
 unfold bsOf ofBs
 simp only [List.map_map]
 refine (List.map_congr_left fun x hx => ?_).trans (List.map_id l)
 obtain ⟨h0, h1⟩ := h x hx
 simp only [Function.comp, id_eq]
 rw [UInt8.toNat_ofNat']
 omega
theorem ofBs_bsOf (s : ByteArray) : ofBs (bsOf s) = s := by
 unfold bsOf ofBs
 rw [List.map_map]
 have : s.data.toList.map ((fun x : Int => UInt8.ofNat x.toNat) ∘ fun b => (b.toNat : Int)) = s.data.toList := by
  refine (List.map_congr_left fun x _ => ?_).trans (List.map_id _)
  simp
 rw [this]
theorem bsOf_bts (s : ByteArray) : Bts (bsOf s) := fun x hx => by
 unfold bsOf at hx
 obtain ⟨b, _, rfl⟩ := List.mem_map.1 hx
 have := b.toNat_lt
 omega
theorem bs_inj {s t : ByteArray} (h : bsOf s = bsOf t) : s = t := by rw [← ofBs_bsOf s, h, ofBs_bsOf]
theorem Bts.app {a b : List Int} (h : Bts a) (k : Bts b) : Bts (a ++ b) := fun x hx => by
 rcases List.mem_append.1 hx with hx | hx
 ·exact h x hx
 ·exact k x hx
theorem Bts.drop {a : List Int} (h : Bts a) (n : Nat) : Bts (a.drop n) := fun x hx => h x (List.mem_of_mem_drop hx)
theorem Bts.take {a : List Int} (h : Bts a) (n : Nat) : Bts (a.take n) := fun x hx => h x (List.mem_of_mem_take hx)
theorem dropB {s : ByteArray} {i : Nat} (h : i < s.size) : (bsOf s).drop i = bt s i :: (bsOf s).drop (i + 1) := by
 rw [bt_ix h]; exact List.drop_eq_getElem_cons _

def letterP (b : Int) : Bool := (decide (97 ≤ b) && decide (b ≤ 122)) || (decide (65 ≤ b) && decide (b ≤ 90)) || b == 95
def digitP (b : Int) : Bool := decide (48 ≤ b) && decide (b ≤ 57)
def blankP (b : Int) : Bool := b == 32 || b == 9 || b == 13 || b == 10
def nameP (b : Int) : Bool := letterP b || digitP b
theorem letter_ok (b : Int) : words_letter b (letterP b) := by
 unfold words_letter letterP
 split
 ·split
  ·rename_i h1 h2; simp; omega
  ·split
   ·split <;> simp <;> rename_i h1 h2 h3 <;> (try rename_i h4) <;> by_cases h5 : b = 95 <;> simp_all <;> omega
   ·rename_i h1 h2 h3; by_cases h5 : b = 95 <;> simp_all <;> omega
 ·split
  ·split
   ·rename_i h1 h2 h3; simp; omega
   ·rename_i h1 h2 h3; by_cases h5 : b = 95 <;> simp_all <;> omega
  ·rename_i h1 h2; by_cases h5 : b = 95 <;> simp_all <;> omega
theorem digit_ok (b : Int) : words_digit b (digitP b) := by
 unfold words_digit digitP
 split
 ·simp_all
 ·simp; omega
def hexF (c : Int) : Int × Bool := if digitP c = true then (c - 48, true) else if 97 ≤ c ∧ c ≤ 102 then (c - 87, true) else if 65 ≤ c ∧ c ≤ 70 then (c - 55, true) else (0, false)
def escX : List Int → Int × Nat
 | a :: b :: _ => if (hexF a).2 = true then (if (hexF b).2 = true then (16 * (hexF a).1 + (hexF b).1, 4) else (0, 0)) else (0, 0)
 | _ => (0, 0)
def escC (c : Int) (l : List Int) : Int × Nat :=
 if c = 34 then (c, 2) else if c = 92 then (c, 2) else if c = 110 then (10, 2) else if c = 116 then (9, 2) else if c = 114 then (13, 2) else if c = 120 then escX l else (0, 0)
def escF : List Int → Int × Nat
 | [] => (0, 0)
 | c :: l => escC c l
theorem escX_cons (a b : Int) (l : List Int) : escX (a :: b :: l) = if (hexF a).2 = true then (if (hexF b).2 = true then (16 * (hexF a).1 + (hexF b).1, 4) else (0, 0)) else (0, 0) := rfl
theorem escF_cons (c : Int) (l : List Int) : escF (c :: l) = escC c l := rfl
def quF (b : List Int) : Sum (List Int × Nat) (Option Nat) :=
 match b with
 | [] => .inr none
 | c :: l =>
  if c = 10 then .inr none else if c = 34 then .inl ([], 1)
  else if c = 92 then
   if h : (escF l).2 = 0 then .inr (some 0)
   else match quF (l.drop ((escF l).2 - 1)) with
    | .inl (t, k) => .inl ((escF l).1 :: t, k + (escF l).2)
    | .inr none => .inr none
    | .inr (some d) => .inr (some (d + (escF l).2))
  else match quF l with
   | .inl (t, k) => .inl (c :: t, k + 1)
   | .inr none => .inr none
   | .inr (some d) => .inr (some (d + 1))
 termination_by b.length
 decreasing_by all_goals (simp; try omega)
theorem quF_end (l : List Int) : quF (34 :: l) = .inl ([], 1) := by rw [quF]; simp
def slF : List Int → Option Nat
 | [] => none
 | c :: l =>
  if c = 10 then none else if c = 47 then some 0
  else if c = 92 then
   match l with
   | [] => none
   | d :: r => if d = 10 then none else (slF r).map (· + 2)
  else (slF l).map (· + 1)
theorem slF_cons (c : Int) (l : List Int) : slF (c :: l) = if c = 10 then none else if c = 47 then some 0 else if c = 92 then (match l with
  | [] => none
  | d :: r => if d = 10 then none else (slF r).map (· + 2)) else (slF l).map (· + 1) := by
 rw [slF.eq_def]
end Go.Proofs.YtjookebbmfiidaaDoor.L
