/- Plain words and their laws: bytes and texts. No condition. -/
import Derived.Test.YtmfopcbjgbphaaaDoorU1
set_option linter.unusedVariables false
namespace Go.Proofs.YtmfopcbjgbphaaaDoor.B
def Bts (b : List Int) : Prop := ∀ x ∈ b, 0 ≤ x ∧ x ≤ 255
theorem bt_ix {s : ByteArray} {i : Nat} (h : i < s.size) : bt s i = (bsOf s)[i]'(by rw [bsOf_len]; exact h) := by
 unfold bt bsOf
 rw [Int.toNat_natCast, getElem?_pos s i h]
 simp
 rfl
theorem bsOf_app (s t : ByteArray) : bsOf (s ++ t) = bsOf s ++ bsOf t := by simp [bsOf]
theorem ofBs_bsOf (s : ByteArray) : ofBs (bsOf s) = s := by
 unfold bsOf ofBs
 rw [List.map_map]
 have : s.data.toList.map ((fun x : Int => UInt8.ofNat x.toNat) ∘ fun b => (b.toNat : Int)) = s.data.toList := by
  refine (List.map_congr_left fun x _ => ?_).trans (List.map_id _)
  simp
 rw [this]
theorem bsOf_bts (s : ByteArray) : Bts (bsOf s) := fun x hx => by
 unfold bsOf at hx
 obtain ⟨b, _, rfl⟩ := List.mem_map.1 hx
 have := b.toNat_lt
 omega
theorem bs_inj {s t : ByteArray} (h : bsOf s = bsOf t) : s = t := by rw [← ofBs_bsOf s, h, ofBs_bsOf]
theorem Bts.app {a b : List Int} (h : Bts a) (k : Bts b) : Bts (a ++ b) := fun x hx => by
 rcases List.mem_append.1 hx with hx | hx
 ·exact h x hx
 ·exact k x hx
theorem Bts.drop {a : List Int} (h : Bts a) (n : Nat) : Bts (a.drop n) := fun x hx => h x (List.mem_of_mem_drop hx)
theorem Bts.take {a : List Int} (h : Bts a) (n : Nat) : Bts (a.take n) := fun x hx => h x (List.mem_of_mem_take hx)
theorem Bts.of {l : List Int} (h : l.all (fun x => decide (0 ≤ x) && decide (x ≤ 255)) = true) : Bts l := fun x hx => by
 have := List.all_eq_true.1 h x hx
 simpa using this
theorem bsOf_extract (s : ByteArray) (i j : Nat) : bsOf (s.extract i j) = ((bsOf s).take j).drop i := by
 unfold bsOf
 simp [ByteArray.data_extract, List.drop_take, List.map_take, List.map_drop]
theorem bsOf_cons {s : ByteArray} {i : Nat} (h : i < s.size) : (bsOf s).drop i = bt s (i : Int) :: (bsOf s).drop (i + 1) := by
 rw [List.drop_eq_getElem_cons (by rw [bsOf_len]; exact h), ← bt_ix h]
theorem bsOf_take {s : ByteArray} {i : Nat} (h : i < s.size) : (bsOf s).take (i + 1) = (bsOf s).take i ++ [bt s (i : Int)] := by
 rw [List.take_succ_eq_append_getElem (by rw [bsOf_len]; exact h), ← bt_ix h]
end Go.Proofs.YtmfopcbjgbphaaaDoor.B
