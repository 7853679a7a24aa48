/- The plain side of WordsCut: the program's words and the document's are the same. No condition. -/
import Derived.Test.YtjookebbmfiidaaU0
import Derived.KernelRfl
import Derived.Test.YtjookebbmfiidaaR
set_option linter.unusedVariables false
namespace Go.Proofs.Ytjookebbmfiidaa.L
open Go.Proofs.Ytjookebbmfiidaa.B Go.Proofs.Ytjookebbmfiidaa.R

def letterP (b : Int) : Bool := (decide (97 ≤ b) && decide (b ≤ 122)) || (decide (65 ≤ b) && decide (b ≤ 90)) || b == 95
def digitP (b : Int) : Bool := decide (48 ≤ b) && decide (b ≤ 57)
def blankP (b : Int) : Bool := b == 32 || b == 9 || b == 13 || b == 10
theorem blank_ok (b : Int) : words_blank b (blankP b) := by
 unfold words_blank blankP
 split
 ·simp_all
 ·split
  ·simp_all
  ·split <;> simp_all
theorem letter_ok (b : Int) : words_letter b (letterP b) := by
 unfold words_letter letterP
 split
 ·split
  ·rename_i h1 h2; simp; omega
  ·split
   ·split <;> simp <;> rename_i h1 h2 h3 <;> (try rename_i h4) <;> by_cases h5 : b = 95 <;> simp_all <;> omega
   ·rename_i h1 h2 h3; by_cases h5 : b = 95 <;> simp_all <;> omega
 ·split
  ·split
   ·rename_i h1 h2 h3; simp; omega
   ·rename_i h1 h2 h3; by_cases h5 : b = 95 <;> simp_all <;> omega
  ·rename_i h1 h2; by_cases h5 : b = 95 <;> simp_all <;> omega
theorem digit_ok (b : Int) : words_digit b (digitP b) := by
 unfold words_digit digitP
 split
 ·simp_all
 ·simp; omega
theorem in_ok (s : ByteArray) (b : Int) (hs : s.size ≤ 1000) : trellisref8_in s b (inB s b) := by
 have hlen : s.data.toList.length = s.size := by simp
 have key : ∀ i : Int, 0 ≤ i → i ≤ (s.size : Int) → ((s.data.toList.drop i.toNat).any fun c => (c.toNat : Int) == b) = inB s b → Rounds (fun (s' : Int) o => trellisref8_in_b1 s b s' o) i (inB s b) := by
  intro i h0 h1 h2
  refine Rounds.to (r := inB s b) (fun i => 0 ≤ i ∧ i ≤ (s.size : Int) ∧ ((s.data.toList.drop i.toNat).any fun c => (c.toNat : Int) == b) = inB s b) (fun i => ((s.size : Int) - i).toNat) (fun i hi => ?_) ⟨h0, h1, h2⟩
  obtain ⟨h0, h1, h2⟩ := hi
  unfold trellisref8_in_b1
  by_cases hc : i < (s.size : Int)
  ·have hi : i.toNat < s.data.toList.length := by omega
   have hb : bt s i = ((s.data.toList[i.toNat]).toNat : Int) := by
    unfold bt
    rw [getElem?_pos s i.toNat (by omega)]
    rfl
   rw [List.drop_eq_getElem_cons hi, List.any_cons] at h2
   by_cases he : bt s i = b
   ·left
    rw [if_pos hc]
    refine ⟨⟨h0, hc⟩, ?_⟩
    rw [if_pos he]
    rw [hb] at he
    rw [← h2, beq_iff_eq.2 he]
    rfl
   ·right
    refine ⟨i + 1, ?_, ⟨by omega, by omega, ?_⟩, by omega⟩
    ·rw [if_pos hc]
     refine ⟨⟨h0, hc⟩, ?_⟩
     rw [if_neg he, w64_id (by omega)]
    ·rw [show (i + 1).toNat = i.toNat + 1 by omega, ← h2]
     rw [hb] at he
     rw [beq_eq_false_iff_ne.2 he]
     rfl
  ·left
   rw [if_neg hc]
   rw [← h2, List.drop_eq_nil_of_le (by omega)]
   rfl
 exact key 0 (by omega) (by omega) (by simp [inB])
def letters : ByteArray := ⟨#[65, 66, 67, 68, 69, 70, 71, 72, 73, 74, 75, 76, 77, 78, 79, 80, 81, 82, 83, 84, 85, 86, 87, 88, 89, 90, 97, 98, 99, 100, 101, 102, 103, 104, 105, 106, 107, 108, 109, 110, 111, 112, 113, 114, 115, 116, 117, 118, 119, 120, 121, 122, 95]⟩
def lettersDigits : ByteArray := ⟨#[65, 66, 67, 68, 69, 70, 71, 72, 73, 74, 75, 76, 77, 78, 79, 80, 81, 82, 83, 84, 85, 86, 87, 88, 89, 90, 97, 98, 99, 100, 101, 102, 103, 104, 105, 106, 107, 108, 109, 110, 111, 112, 113, 114, 115, 116, 117, 118, 119, 120, 121, 122, 95, 48, 49, 50, 51, 52, 53, 54, 55, 56, 57]⟩
def digits : ByteArray := ⟨#[48, 49, 50, 51, 52, 53, 54, 55, 56, 57]⟩
def hexes : ByteArray := ⟨#[48, 49, 50, 51, 52, 53, 54, 55, 56, 57, 97, 98, 99, 100, 101, 102, 65, 66, 67, 68, 69, 70]⟩
def blanks : ByteArray := ⟨#[32, 9, 13, 10]⟩
def signs : ByteArray := ⟨#[123, 125, 40, 41, 124, 42, 43, 63, 58, 59, 44, 61, 64]⟩
theorem all256 {p : Int → Bool} (h : (List.range 256).all (fun n => p (n : Int)) = true) {b : Int} (hb : 0 ≤ b ∧ b ≤ 255) : p b = true := by
 have := List.all_eq_true.1 h b.toNat (List.mem_range.2 (by omega))
 rwa [show ((b.toNat : Nat) : Int) = b by omega] at this
def nameP (b : Int) : Bool := letterP b || digitP b
def hexP (b : Int) : Bool := digitP b || (decide (97 ≤ b) && decide (b ≤ 102)) || (decide (65 ≤ b) && decide (b ≤ 70))
theorem in_letters {b : Int} (hb : 0 ≤ b ∧ b ≤ 255) : inB letters b = letterP b := eq_of_beq (all256 (p := fun b => inB letters b == letterP b) (by kernel_rfl) hb)
theorem in_names {b : Int} (hb : 0 ≤ b ∧ b ≤ 255) : inB lettersDigits b = nameP b := eq_of_beq (all256 (p := fun b => inB lettersDigits b == nameP b) (by kernel_rfl) hb)
theorem in_digits {b : Int} (hb : 0 ≤ b ∧ b ≤ 255) : inB digits b = digitP b := eq_of_beq (all256 (p := fun b => inB digits b == digitP b) (by kernel_rfl) hb)
theorem in_hexes {b : Int} (hb : 0 ≤ b ∧ b ≤ 255) : inB hexes b = hexP b := eq_of_beq (all256 (p := fun b => inB hexes b == hexP b) (by kernel_rfl) hb)
theorem in_blanks {b : Int} (hb : 0 ≤ b ∧ b ≤ 255) : inB blanks b = blankP b := eq_of_beq (all256 (p := fun b => inB blanks b == blankP b) (by kernel_rfl) hb)
theorem idx_signs {b : Int} (hb : 0 ≤ b ∧ b ≤ 255) : inB signs b = decide (idxB signs b ≥ 0) := eq_of_beq (all256 (p := fun b => inB signs b == decide (idxB signs b ≥ 0)) (by kernel_rfl) hb)
theorem stop_congr {p q : Int → Bool} {x : ByteArray} (h : ∀ b, 0 ≤ b ∧ b ≤ 255 → p b = q b) : ∀ {i : Int}, stop p x i = stop q x i := by
 intro i
 generalize hn : ((x.size : Int) - i).toNat = n
 induction n generalizing i with
 | zero => rw [stop_end (by omega), stop_end (by omega)]
 | succ n ih =>
  have hb := h _ (bt_range x i)
  by_cases hc : i < (x.size : Int) ∧ p (bt x i) = true
  ·rw [stop_go hc.1 hc.2, stop_go hc.1 (hb ▸ hc.2), ih (by omega)]
  ·rw [stop_end hc, stop_end (hb ▸ hc)]
theorem run_ok {x : ByteArray} (hx : x.size ≤ 16384) {s : ByteArray} (hs : s.size ≤ 1000) {a : Int} (ha : 0 ≤ a ∧ a ≤ (x.size : Int)) : trellisref8_run x a s (stop (inB s) x a - a) := by
 unfold trellisref8_run
 refine Rounds.to (fun i => 0 ≤ i ∧ a + i ≤ (x.size : Int) ∧ stop (inB s) x (a + i) = stop (inB s) x a) (fun i => ((x.size : Int) - a - i).toNat) (fun i hi => ?_) ⟨by omega, by omega, by rw [Int.add_zero]⟩
 obtain ⟨h0, h1, h2⟩ := hi
 unfold trellisref8_run_b1
 rw [w64_id (by omega)]
 by_cases hc : a + i < (x.size : Int)
 ·by_cases hp : inB s (bt x (a + i)) = true
  ·right
   refine ⟨i + 1, ?_, ⟨by omega, by omega, ?_⟩, by omega⟩
   ·rw [if_pos hc]
    refine ⟨⟨by omega, hc⟩, _, in_ok s _ hs, ?_⟩
    rw [if_pos hp, w64_id (by omega)]
   ·rw [← h2, stop_go hc hp, Int.add_assoc]
  ·left
   rw [if_pos hc]
   refine ⟨⟨by omega, hc⟩, _, in_ok s _ hs, ?_⟩
   rw [if_neg hp, ← h2, stop_end (fun h => hp h.2)]
   congr 1; omega
 ·left
  rw [if_neg hc, ← h2, stop_end (fun h => hc h.1)]
  congr 1; omega
def numStep (v b : Int) : Int := if 10 * v + (b - 48) > 65535 then 65536 else 10 * v + (b - 48)
def numF (x : ByteArray) (e : Int) (i v : Int) : Int := if h : i < e then numF x e (i + 1) (numStep v (bt x i)) else v
 termination_by (e - i).toNat
 decreasing_by omega
theorem bt_extract {x : ByteArray} {a e i : Int} (ha : 0 ≤ a) (hae : a ≤ e) (he : e ≤ (x.size : Int)) (hi : 0 ≤ i ∧ i < e - a) : bt (x.extract a.toNat e.toNat) i = bt x (a + i) := by
 have h1 : i.toNat < (x.extract a.toNat e.toNat).size := by rw [ByteArray.size_extract]; omega
 unfold bt
 rw [getElem?_pos _ i.toNat h1, getElem?_pos x (a + i).toNat (by omega), ByteArray.getElem_extract]
 simp only [show a.toNat + i.toNat = (a + i).toNat by omega]
theorem number_ok {x : ByteArray} (hx : x.size ≤ 16384) {a e : Int} (ha : 0 ≤ a ∧ a ≤ e) (he : e ≤ (x.size : Int)) (hd : ∀ i, a ≤ i → i < e → digitP (bt x i) = true) : trellisref8_number (x.extract a.toNat e.toNat) (numF x e a 0) := by
 unfold trellisref8_number
 have hsz : ((x.extract a.toNat e.toNat).size : Int) = e - a := by rw [ByteArray.size_extract]; omega
 refine Rounds.to (fun s => 0 ≤ s.1 ∧ s.1 ≤ 65536 ∧ 0 ≤ s.2 ∧ s.2 ≤ e - a ∧ numF x e (a + s.2) s.1 = numF x e a 0) (fun s => (e - a - s.2).toNat) (fun s hi => ?_) ⟨by simp, by simp, by simp, by simp; omega, by simp⟩
 obtain ⟨v, i⟩ := s
 obtain ⟨h0, h1, h2, h3, h4⟩ := hi
 simp only at h0 h1 h2 h3 h4 ⊢
 unfold trellisref8_number_b1
 rw [hsz]
 by_cases hc : i < e - a
 ·right
  have hb := bt_extract ha.1 ha.2 he ⟨h2, hc⟩
  have hdg := hd (a + i) (by omega) (by omega)
  have hr : 48 ≤ bt x (a + i) ∧ bt x (a + i) ≤ 57 := by simpa [digitP] using hdg
  rw [hb, u8_id (by omega), w64_id (x := bt x (a + i) - 48) (by omega), w64_id (x := 10 * v) (by omega), w64_id (x := 10 * v + (bt x (a + i) - 48)) (by omega), w64_id (x := i + 1) (by omega)]
  refine ⟨(numStep v (bt x (a + i)), i + 1), ?_, ⟨?_, ?_, by simp; omega, by simp; omega, ?_⟩, by simp; omega⟩
  ·rw [if_pos hc]
   refine ⟨⟨h2, hc⟩, ?_⟩
   unfold numStep
   split <;> rfl
  ·simp only [numStep]; split <;> omega
  ·simp only [numStep]; split <;> omega
  ·simp only
   rw [← h4]
   conv => rhs; rw [numF, dif_pos (by omega)]
   rw [Int.add_assoc]
 ·left
  rw [if_neg hc, ← h4, numF, dif_neg (by omega)]
def hexV (b : Int) : Int := if digitP b then b - 48 else if decide (97 ≤ b) && decide (b ≤ 102) then b - 87 else b - 55
theorem hex_ok {b : Int} (hb : 0 ≤ b ∧ b ≤ 255) : words_hex b (if hexP b then hexV b else 0, hexP b) := by
 unfold words_hex
 refine ⟨_, digit_ok b, ?_⟩
 by_cases h1 : digitP b = true
 ·rw [if_pos h1]
  have h1' := h1
  simp only [digitP, Bool.and_eq_true, decide_eq_true_eq] at h1'
  rw [u8_id (by omega)]
  simp [hexP, hexV, h1]
 ·rw [if_neg h1]
  have h1' := h1
  simp only [digitP, Bool.and_eq_true, decide_eq_true_eq] at h1'
  by_cases h2 : b ≥ 97
  ·rw [if_pos h2]
   unfold words_hex_j1
   by_cases h3 : b ≤ 102
   ·rw [if_pos (decide_eq_true h3), u8_id (x := b - 97) (by omega), u8_id (by omega)]
    simp [hexP, hexV, h1, h2, h3]; omega
   ·rw [if_neg (by simpa using h3), if_pos (by omega)]
    unfold words_hex_j2
    rw [if_neg (by simp; omega)]
    have : hexP b = false := by simp [hexP, h1]; omega
    simp [this]
  ·rw [if_neg h2]
   unfold words_hex_j1
   rw [if_neg (by simp)]
   by_cases h3 : b ≥ 65
   ·rw [if_pos h3]
    unfold words_hex_j2
    by_cases h4 : b ≤ 70
    ·rw [if_pos (decide_eq_true h4), u8_id (x := b - 65) (by omega), u8_id (by omega)]
     have h6 : ¬ (97 ≤ b) := h2
     simp [hexP, hexV, h1, h6, h4]; omega
    ·rw [if_neg (by simpa using h4)]
     have : hexP b = false := by simp [hexP, h1]; omega
     simp [this]
   ·rw [if_neg h3]
    unfold words_hex_j2
    rw [if_neg (by simp)]
    have : hexP b = false := by simp [hexP, h1]; omega
    simp [this]
theorem refhex_ok {b : Int} (hb : 0 ≤ b ∧ b ≤ 255) (hp : hexP b = true) : trellisref8_hex b (hexV b) := by
 unfold trellisref8_hex
 have key : ∀ i : Int, 0 ≤ i ∧ i < 16 → bt hexes i = (if i < 10 then i + 48 else i + 87) := fun i hi => by
  have := all256 (p := fun i => decide (i < 16 → bt hexes i = if i < 10 then i + 48 else i + 87)) (by kernel_rfl) (b := i) (by omega)
  exact of_decide_eq_true this hi.2
 have hs : ((hexes).size : Int) = 22 := rfl
 have hv : hexV b = if b ≤ 57 then b - 48 else if 97 ≤ b then b - 87 else b - 55 := by
  unfold hexV
  have hp' := hp
  simp only [hexP, digitP, Bool.or_eq_true, Bool.and_eq_true, decide_eq_true_eq] at hp'
  by_cases h1 : b ≤ 57
  ·rw [if_pos (by simp [digitP]; omega), if_pos h1]
  ·rw [if_neg (by simp [digitP]; omega), if_neg h1]
   by_cases h2 : 97 ≤ b
   ·rw [if_pos (by simp; omega), if_pos h2]
   ·rw [if_neg (by simp; omega), if_neg h2]
 have hp' := hp
 simp only [hexP, digitP, Bool.or_eq_true, Bool.and_eq_true, decide_eq_true_eq] at hp'
 refine Rounds.to (fun i => 0 ≤ i ∧ i ≤ 16 ∧ ((b ≤ 57 ∨ 97 ≤ b) → i ≤ hexV b)) (fun i => (16 - i).toNat) (fun i hi => ?_) ⟨by omega, by omega, fun h => by rw [hv]; split <;> (try split) <;> omega⟩
 obtain ⟨h0, h1, h2⟩ := hi
 have hB : ∀ (i : Int) (o : Sum Int Int), trellisref8_hex_b1 b i o = (if i < 16 then (0 ≤ i ∧ i < (hexes.size : Int)) ∧ (if bt hexes i = b then o = .inr i else o = .inl (w64 (i + 1))) else o = .inr (w64 ((w64 (IntKind.u8.wrap (b - 65))) + 10))) := fun _ _ => rfl
 simp only [hB]
 by_cases hc : i < 16
 ·have hk := key i ⟨h0, hc⟩
  by_cases he : bt hexes i = b
  ·left
   rw [if_pos hc]
   refine ⟨⟨h0, by omega⟩, ?_⟩
   rw [if_pos he]
   rw [hk] at he
   congr 1
   rw [hv]
   split at he <;> split <;> (try split) <;> omega
  ·right
   refine ⟨i + 1, ?_, ⟨by omega, by omega, fun h => ?_⟩, by omega⟩
   ·rw [if_pos hc]
    refine ⟨⟨h0, by omega⟩, ?_⟩
    rw [if_neg he, w64_id (by omega)]
   ·have := h2 h
    rw [hk] at he
    rw [hv] at this ⊢
    split at he <;> split at this <;> (try split at this) <;> (try split) <;> (try split) <;> omega
 ·left
  rw [if_neg hc]
  have hn : ¬ (b ≤ 57 ∨ 97 ≤ b) := fun h => by
   have := h2 h
   rw [hv] at this
   split at this <;> (try split at this) <;> omega
  rw [u8_id (by omega), w64_id (x := b - 65) (by omega), w64_id (by omega)]
  congr 1
  rw [hv, if_neg (by omega), if_neg (by omega)]
  omega
def esc (x : ByteArray) (a : Int) : Int × Int :=
 if a + 1 ≥ (x.size : Int) then (0, 0)
 else let b := bt x (a + 1)
  if b = 34 then (34, 2) else if b = 92 then (92, 2) else if b = 110 then (10, 2) else if b = 116 then (9, 2) else if b = 114 then (13, 2)
  else if b = 120 then (if a + 3 < (x.size : Int) ∧ hexP (bt x (a + 2)) = true ∧ hexP (bt x (a + 3)) = true then (16 * hexV (bt x (a + 2)) + hexV (bt x (a + 3)), 4) else (0, 0))
  else (0, 0)
theorem hexV_range {b : Int} (hp : hexP b = true) : 0 ≤ hexV b ∧ hexV b ≤ 15 := by
 simp only [hexP, digitP, Bool.or_eq_true, Bool.and_eq_true, decide_eq_true_eq] at hp
 unfold hexV
 simp only [digitP, Bool.and_eq_true, decide_eq_true_eq]
 split
 ·omega
 ·split <;> omega
theorem esc_bd (x : ByteArray) (a : Int) : (esc x a).2 = 0 ∨ (2 ≤ (esc x a).2 ∧ a + (esc x a).2 ≤ (x.size : Int)) := by
 unfold esc
 by_cases h : a + 1 ≥ (x.size : Int)
 ·rw [if_pos h]; exact .inl rfl
 ·rw [if_neg h]
  simp only
  repeat' split
  all_goals simp
  all_goals omega
theorem escape_ok {x : ByteArray} (hx : x.size ≤ 16384) {a : Int} (ha : 0 ≤ a ∧ a ≤ (x.size : Int)) : words_escape x a (esc x a) := by
 unfold words_escape esc
 rw [w64_id (x := a + 1) (by omega)]
 by_cases h : a + 1 ≥ (x.size : Int)
 ·rw [if_pos h, if_pos h]
 ·rw [if_neg h, if_neg h]
  refine ⟨⟨by omega, by omega⟩, ?_⟩
  simp only
  by_cases h1 : bt x (a + 1) = 34
  ·rw [if_pos h1, if_pos h1]
   unfold words_escape_j1
   rw [w64_id (x := a + 1) (by omega), if_pos (by rw [h1]; rfl), h1]
  ·rw [if_neg h1, if_neg h1]
   unfold words_escape_j1
   rw [w64_id (x := a + 1) (by omega)]
   by_cases h2 : bt x (a + 1) = 92
   ·rw [if_pos (by rw [h2]; rfl), if_pos h2, h2]
   ·rw [if_neg (by simpa using h2), if_neg h2]
    by_cases h3 : bt x (a + 1) = 110
    ·rw [if_pos h3, if_pos h3]
    ·rw [if_neg h3, if_neg h3]
     by_cases h4 : bt x (a + 1) = 116
     ·rw [if_pos h4, if_pos h4]
     ·rw [if_neg h4, if_neg h4]
      by_cases h5 : bt x (a + 1) = 114
      ·rw [if_pos h5, if_pos h5]
      ·rw [if_neg h5, if_neg h5]
       by_cases h6 : bt x (a + 1) = 120
       ·rw [if_pos h6, if_pos h6, w64_id (x := a + 3) (by omega), w64_id (x := a + 2) (by omega)]
        by_cases h7 : a + 3 < (x.size : Int)
        ·rw [if_pos h7]
         refine ⟨⟨by omega, by omega⟩, _, hex_ok (bt_range x _), ⟨by omega, by omega⟩, _, hex_ok (bt_range x _), ?_⟩
         simp only
         by_cases h8 : hexP (bt x (a + 2)) = true
         ·rw [if_pos h8]
          unfold words_escape_j2
          by_cases h9 : hexP (bt x (a + 3)) = true
          ·have v1 := hexV_range h8
           have v2 := hexV_range h9
           rw [if_pos h9, if_pos ⟨h7, h8, h9⟩]
           simp only [h8, h9, if_true]
           rw [u8_id (x := 16 * hexV (bt x (a + 2))) (by omega), u8_id (by omega)]
          ·rw [if_neg h9, if_neg (fun h => h9 h.2.2)]
         ·rw [if_neg h8]
          unfold words_escape_j2
          rw [if_neg (by simp), if_neg (fun h => h8 h.2.1)]
        ·rw [if_neg h7, if_neg (fun h => h7 h.1)]
       ·rw [if_neg h6, if_neg h6]
theorem refEscape_ok {x : ByteArray} (hx : x.size ≤ 16384) {a : Int} (ha : 0 ≤ a ∧ a ≤ (x.size : Int)) : trellisref8_Escape x a ((esc x a).2, (esc x a).1) := by
 unfold trellisref8_Escape esc
 rw [w64_id (x := a + 1) (by omega)]
 by_cases h : a + 1 ≥ (x.size : Int)
 ·rw [if_pos h, if_pos h]
 ·rw [if_neg h, if_neg h]
  refine ⟨⟨by omega, by omega⟩, ?_⟩
  simp only
  by_cases h1 : bt x (a + 1) = 34
  ·rw [if_pos h1, if_pos h1]
  ·rw [if_neg h1, if_neg h1]
   by_cases h2 : bt x (a + 1) = 92
   ·rw [if_pos h2, if_pos h2]
   ·rw [if_neg h2, if_neg h2]
    by_cases h3 : bt x (a + 1) = 110
    ·rw [if_pos h3, if_pos h3]
    ·rw [if_neg h3, if_neg h3]
     by_cases h4 : bt x (a + 1) = 116
     ·rw [if_pos h4, if_pos h4]
     ·rw [if_neg h4, if_neg h4]
      by_cases h5 : bt x (a + 1) = 114
      ·rw [if_pos h5, if_pos h5]
      ·rw [if_neg h5, if_neg h5]
       by_cases h6 : bt x (a + 1) = 120
       ·rw [if_pos h6, if_pos h6, w64_id (x := a + 2) (by omega), w64_id (x := a + 3) (by omega)]
        refine ⟨_, run_ok hx (s := hexes) (by decide) (a := a + 2) (by omega), ?_⟩
        have hst : stop (inB hexes) x (a + 2) = stop hexP x (a + 2) := stop_congr (fun b hb => in_hexes hb)
        rw [hst]
        have hbd := stop_bd (p := hexP) (x := x) (i := a + 2) (by omega)
        by_cases h7 : a + 3 < (x.size : Int) ∧ hexP (bt x (a + 2)) = true ∧ hexP (bt x (a + 3)) = true
        ·have hge : stop hexP x (a + 2) - (a + 2) ≥ 2 := by
          rw [stop_go (by omega) h7.2.1, show a + 2 + 1 = a + 3 by omega, stop_go h7.1 h7.2.2]
          have := stop_bd (p := hexP) (x := x) (i := a + 3 + 1) (by omega)
          omega
         rw [if_pos hge, if_pos h7]
         have v1 := hexV_range h7.2.1
         have v2 := hexV_range h7.2.2
         refine ⟨⟨by omega, by omega⟩, _, refhex_ok (bt_range x _) h7.2.1, ⟨by omega, by omega⟩, _, refhex_ok (bt_range x _) h7.2.2, ?_⟩
         rw [w64_id (x := 16 * hexV (bt x (a + 2))) (by omega), w64_id (x := 16 * hexV (bt x (a + 2)) + hexV (bt x (a + 3))) (by omega), u8_id (by omega)]
        ·have hlt : ¬ (stop hexP x (a + 2) - (a + 2) ≥ 2) := fun hge => h7 (by
          by_cases g1 : a + 2 < (x.size : Int) ∧ hexP (bt x (a + 2)) = true
          ·rw [stop_go g1.1 g1.2, show a + 2 + 1 = a + 3 by omega] at hge
           by_cases g2 : a + 3 < (x.size : Int) ∧ hexP (bt x (a + 3)) = true
           ·exact ⟨g2.1, g1.2, g2.2⟩
           ·rw [stop_end g2] at hge; omega
          ·rw [stop_end g1] at hge; omega)
         rw [if_neg hlt, if_neg h7]
       ·rw [if_neg h6, if_neg h6]
def strF (x : ByteArray) (fr : Int) (acc : List Int) (i : Int) : List Int × Int × Int :=
 if h : i < (x.size : Int) then
  if bt x i = 10 then ([], 82, fr)
  else if bt x i = 34 then (acc, 0, i + 1)
  else if bt x i = 92 then (if h2 : (esc x i).2 = 0 then ([], 82, i) else strF x fr (acc ++ [(esc x i).1]) (i + (esc x i).2))
  else strF x fr (acc ++ [bt x i]) (i + 1)
 else ([], 82, fr)
 termination_by ((x.size : Int) - i).toNat
 decreasing_by
  ·have := esc_bd x i; omega
  ·omega
theorem quoted_ok {x : ByteArray} (hx : x.size ≤ 16384) {a : Int} (ha : 0 ≤ a ∧ a < (x.size : Int)) : words_quoted x a (strF x a [] (a + 1)) := by
 unfold words_quoted
 rw [w64_id (by omega)]
 refine Rounds.to (fun s => 0 ≤ s.2 ∧ s.2 ≤ (x.size : Int) ∧ (s.1.length : Int) ≤ s.2 ∧ strF x a s.1 s.2 = strF x a [] (a + 1)) (fun s => ((x.size : Int) - s.2).toNat) (fun s hi => ?_) ⟨by simp; omega, by simp; omega, by simp; omega, rfl⟩
 obtain ⟨acc, i⟩ := s
 obtain ⟨h0, h1, h2, h3⟩ := hi
 simp only at h0 h1 h2 h3 ⊢
 rw [← h3]
 unfold words_quoted_b1
 by_cases hc : i = (x.size : Int)
 ·left
  rw [if_pos hc]
  unfold words_quoted_j2
  rw [if_pos rfl, strF, dif_neg (by omega)]
 ·simp only [if_neg hc]
  unfold words_quoted_j2
  by_cases hn : bt x i = 10
  ·left
   refine ⟨⟨h0, by omega⟩, ?_⟩
   rw [if_pos (by rw [hn]; rfl), strF, dif_pos (by omega), if_pos hn]
  ·have hn' : ¬ ((bt x i == 10) = true) := by simpa using hn
   simp only [if_neg hn']
   by_cases hq : bt x i = 34
   ·left
    refine ⟨⟨h0, by omega⟩, ⟨h0, by omega⟩, ?_⟩
    rw [if_pos hq, strF, dif_pos (by omega), if_neg hn, if_pos hq, w64_id (by omega)]
   ·simp only [if_neg hq]
    by_cases hb : bt x i = 92
    ·simp only [if_pos hb]
     have hbd := esc_bd x i
     by_cases he : (esc x i).2 = 0
     ·left
      refine ⟨⟨h0, by omega⟩, ⟨h0, by omega⟩, _, escape_ok hx ⟨h0, h1⟩, ?_⟩
      rw [if_pos he, strF, dif_pos (by omega), if_neg hn, if_neg hq, if_pos hb, dif_pos he]
     ·right
      refine ⟨(acc ++ [(esc x i).1], i + (esc x i).2), ⟨⟨h0, by omega⟩, ⟨h0, by omega⟩, _, escape_ok hx ⟨h0, h1⟩, ?_⟩, ⟨by simp; omega, by simp; omega, by simp; omega, ?_⟩, by simp; omega⟩
      ·rw [if_neg he]
       refine ⟨_, rfl, by simp; omega, ?_⟩
       rw [w64_id (by omega)]
      ·conv => rhs; rw [strF, dif_pos (by omega), if_neg hn, if_neg hq, if_pos hb, dif_neg he]
    ·simp only [if_neg hb]
     right
     refine ⟨(acc ++ [bt x i], i + 1), ⟨⟨h0, by omega⟩, ⟨h0, by omega⟩, _, rfl, by simp; omega, ?_⟩, ⟨by simp; omega, by simp; omega, by simp; omega, ?_⟩, by simp; omega⟩
     ·rw [w64_id (by omega)]
     ·conv => rhs; rw [strF, dif_pos (by omega), if_neg hn, if_neg hq, if_neg hb]
def strR (r : List Int × Int × Int) : Int × ByteArray × Int × Int := if r.2.1 = 0 then (r.2.2, ofBs r.1, 0, 0) else (0, ⟨#[]⟩, 82, r.2.2)
theorem str_ok {x : ByteArray} (hx : x.size ≤ 16384) {a : Int} (ha : 0 ≤ a ∧ a < (x.size : Int)) : trellisref8_str x a (strR (strF x a [] (a + 1))) := by
 unfold trellisref8_str
 rw [w64_id (by omega)]
 refine Rounds.to (fun s => 0 ≤ s.2 ∧ s.2 ≤ (x.size : Int) ∧ (s.1.length : Int) ≤ s.2 ∧ strF x a s.1 s.2 = strF x a [] (a + 1)) (fun s => ((x.size : Int) - s.2).toNat) (fun s hi => ?_) ⟨by simp; omega, by simp; omega, by simp; omega, rfl⟩
 obtain ⟨acc, i⟩ := s
 obtain ⟨h0, h1, h2, h3⟩ := hi
 simp only at h0 h1 h2 h3 ⊢
 rw [← h3]
 unfold trellisref8_str_b1
 by_cases hc : i < (x.size : Int)
 ·simp only [if_pos hc]
  unfold trellisref8_str_j2
  by_cases hn : bt x i = 10
  ·left
   refine ⟨⟨h0, by omega⟩, ?_⟩
   rw [if_neg (by simp [hn]), strF, dif_pos (by omega), if_pos hn]
   rfl
  ·have hn' : (bt x i != 10) = true := by simpa using hn
   simp only [if_pos hn']
   by_cases hq : bt x i = 34
   ·left
    refine ⟨⟨h0, by omega⟩, ⟨h0, by omega⟩, ?_⟩
    rw [if_pos hq, strF, dif_pos (by omega), if_neg hn, if_pos hq, w64_id (by omega)]
    rfl
   ·simp only [if_neg hq]
    by_cases hb : bt x i = 92
    ·simp only [if_pos hb]
     have hbd := esc_bd x i
     by_cases he : (esc x i).2 = 0
     ·left
      refine ⟨⟨h0, by omega⟩, ⟨h0, by omega⟩, _, refEscape_ok hx ⟨h0, h1⟩, ?_⟩
      rw [if_pos he, strF, dif_pos (by omega), if_neg hn, if_neg hq, if_pos hb, dif_pos he]
      rfl
     ·right
      refine ⟨(acc ++ [(esc x i).1], i + (esc x i).2), ⟨⟨h0, by omega⟩, ⟨h0, by omega⟩, _, refEscape_ok hx ⟨h0, h1⟩, ?_⟩, ⟨by simp; omega, by simp; omega, by simp; omega, ?_⟩, by simp; omega⟩
      ·rw [if_neg he]
       refine ⟨_, rfl, by simp; omega, ?_⟩
       rw [w64_id (by omega)]
      ·conv => rhs; rw [strF, dif_pos (by omega), if_neg hn, if_neg hq, if_pos hb, dif_neg he]
    ·simp only [if_neg hb]
     right
     refine ⟨(acc ++ [bt x i], i + 1), ⟨⟨h0, by omega⟩, ⟨h0, by omega⟩, _, rfl, by simp; omega, ?_⟩, ⟨by simp; omega, by simp; omega, by simp; omega, ?_⟩, by simp; omega⟩
     ·rw [w64_id (by omega)]
     ·conv => rhs; rw [strF, dif_pos (by omega), if_neg hn, if_neg hq, if_neg hb]
 ·left
  rw [if_neg hc]
  unfold trellisref8_str_j2
  rw [if_neg (by simp), strF, dif_neg hc]
  rfl
def rxF (x : ByteArray) (i : Int) : Int :=
 if h : i < (x.size : Int) then
  if bt x i = 10 then 0
  else if bt x i = 47 then i + 1
  else if bt x i = 92 ∧ i + 1 < (x.size : Int) ∧ bt x (i + 1) ≠ 10 then rxF x (i + 2)
  else rxF x (i + 1)
 else 0
 termination_by ((x.size : Int) - i).toNat
 decreasing_by all_goals omega
theorem rxF_bd {x : ByteArray} : ∀ {i : Int}, 0 ≤ i → rxF x i = 0 ∨ (i < rxF x i ∧ rxF x i ≤ (x.size : Int)) := by
 intro i hi
 generalize hn : ((x.size : Int) - i).toNat = n
 induction n using Nat.strongRecOn generalizing i with
 | _ n ih =>
  rw [rxF]
  by_cases hc : i < (x.size : Int)
  ·rw [dif_pos hc]
   split
   ·exact .inl rfl
   ·split
    ·right; omega
    ·split
     ·have := ih _ (by omega) (i := i + 2) (by omega) rfl
      omega
     ·have := ih _ (by omega) (i := i + 1) (by omega) rfl
      omega
  ·rw [dif_neg hc]; exact .inl rfl
theorem regex_ok {x : ByteArray} (hx : x.size ≤ 16384) {a : Int} (ha : 0 ≤ a ∧ a < (x.size : Int)) : trellisref8_regex x a (rxF x (a + 1)) := by
 unfold trellisref8_regex
 rw [w64_id (by omega)]
 refine Rounds.to (fun i => 0 ≤ i ∧ i ≤ (x.size : Int) ∧ rxF x i = rxF x (a + 1)) (fun i => ((x.size : Int) - i).toNat) (fun i hi => ?_) ⟨by omega, by omega, rfl⟩
 obtain ⟨h0, h1, h2⟩ := hi
 rw [← h2]
 unfold trellisref8_regex_b1
 by_cases hc : i < (x.size : Int)
 ·simp only [if_pos hc]
  unfold trellisref8_regex_j2
  by_cases hn : bt x i = 10
  ·left
   refine ⟨⟨h0, by omega⟩, ?_⟩
   rw [if_neg (by simp [hn]), rxF, dif_pos (by omega), if_pos hn]
  ·have hn' : (bt x i != 10) = true := by simpa using hn
   simp only [if_pos hn']
   by_cases hq : bt x i = 47
   ·left
    refine ⟨⟨h0, by omega⟩, ⟨h0, by omega⟩, ?_⟩
    rw [if_pos hq, rxF, dif_pos (by omega), if_neg hn, if_pos hq, w64_id (by omega)]
   ·simp only [if_neg hq]
    right
    by_cases hb : bt x i = 92 ∧ i + 1 < (x.size : Int) ∧ bt x (i + 1) ≠ 10
    ·refine ⟨i + 2, ⟨⟨h0, by omega⟩, ⟨h0, by omega⟩, ?_⟩, ⟨by omega, by omega, ?_⟩, by omega⟩
     ·rw [if_pos hb.1, w64_id (x := i + 1) (by omega), if_pos hb.2.1]
      refine ⟨⟨by omega, by omega⟩, ?_⟩
      rw [if_neg hb.2.2, w64_id (by omega)]
      congr 1; omega
     ·conv => rhs; rw [rxF, dif_pos (by omega), if_neg hn, if_neg hq, if_pos hb]
    ·refine ⟨i + 1, ⟨⟨h0, by omega⟩, ⟨h0, by omega⟩, ?_⟩, ⟨by omega, by omega, ?_⟩, by omega⟩
     ·rw [w64_id (x := i + 1) (by omega)]
      by_cases g1 : bt x i = 92
      ·rw [if_pos g1]
       by_cases g2 : i + 1 < (x.size : Int)
       ·rw [if_pos g2]
        refine ⟨⟨by omega, by omega⟩, ?_⟩
        rw [if_pos (Classical.byContradiction fun g3 => hb ⟨g1, g2, g3⟩)]
       ·rw [if_neg g2]
      ·rw [if_neg g1]
     ·conv => rhs; rw [rxF, dif_pos (by omega), if_neg hn, if_neg hq, if_neg hb]
 ·left
  rw [if_neg hc]
  unfold trellisref8_regex_j2
  rw [if_neg (by simp), rxF, dif_neg hc]
def rxR (x : ByteArray) (a e : Int) : List Int × Int × Int := if e = 0 then ([], 82, a) else (bsOf (x.extract (a + 1).toNat (e - 1).toNat), 0, e)
theorem slashed_ok {x : ByteArray} (hx : x.size ≤ 16384) {a : Int} (ha : 0 ≤ a ∧ a < (x.size : Int)) : words_slashed x a (rxR x a (rxF x (a + 1))) := by
 unfold words_slashed
 rw [w64_id (by omega)]
 refine Rounds.to (fun i => a + 1 ≤ i ∧ i ≤ (x.size : Int) ∧ rxF x i = rxF x (a + 1)) (fun i => ((x.size : Int) - i).toNat) (fun i hi => ?_) ⟨by omega, by omega, rfl⟩
 obtain ⟨h0, h1, h2⟩ := hi
 rw [← h2]
 unfold words_slashed_b1
 by_cases hc : i = (x.size : Int)
 ·left
  rw [if_pos hc]
  unfold words_slashed_j2
  rw [if_pos rfl, rxF, dif_neg (by omega)]
  rfl
 ·simp only [if_neg hc]
  unfold words_slashed_j2
  by_cases hn : bt x i = 10
  ·left
   refine ⟨⟨by omega, by omega⟩, ?_⟩
   rw [if_pos (by rw [hn]; rfl), rxF, dif_pos (by omega), if_pos hn]
   rfl
  ·have hn' : ¬ ((bt x i == 10) = true) := by simpa using hn
   simp only [if_neg hn']
   by_cases hq : bt x i = 47
   ·left
    refine ⟨⟨by omega, by omega⟩, ⟨by omega, by omega⟩, ?_⟩
    rw [if_pos hq, rxF, dif_pos (by omega), if_neg hn, if_pos hq, w64_id (x := a + 1) (by omega), w64_id (x := i + 1) (by omega)]
    refine ⟨⟨by omega, by omega, by omega⟩, by rw [ByteArray.size_extract]; omega, ?_⟩
    rw [rxR, if_neg (by omega), show i + 1 - 1 = i by omega]
   ·simp only [if_neg hq]
    right
    by_cases hb : bt x i = 92 ∧ i + 1 < (x.size : Int) ∧ bt x (i + 1) ≠ 10
    ·refine ⟨i + 2, ⟨⟨by omega, by omega⟩, ⟨by omega, by omega⟩, ?_⟩, ⟨by omega, by omega, ?_⟩, by omega⟩
     ·rw [if_pos hb.1, w64_id (x := i + 1) (by omega), if_pos hb.2.1]
      refine ⟨⟨by omega, by omega⟩, ?_⟩
      unfold words_slashed_j3
      rw [if_pos (by simpa using hb.2.2), w64_id (x := i + 1) (by omega), w64_id (by omega)]
      congr 1; omega
     ·conv => rhs; rw [rxF, dif_pos (by omega), if_neg hn, if_neg hq, if_pos hb]
    ·refine ⟨i + 1, ⟨⟨by omega, by omega⟩, ⟨by omega, by omega⟩, ?_⟩, ⟨by omega, by omega, ?_⟩, by omega⟩
     ·rw [w64_id (x := i + 1) (by omega)]
      unfold words_slashed_j3
      by_cases g1 : bt x i = 92
      ·rw [if_pos g1]
       by_cases g2 : i + 1 < (x.size : Int)
       ·rw [if_pos g2]
        refine ⟨⟨by omega, by omega⟩, ?_⟩
        rw [if_neg (by simpa using (Classical.byContradiction fun g3 => hb ⟨g1, g2, g3⟩ : bt x (i + 1) = 10)), w64_id (by omega)]
       ·rw [if_neg g2, if_neg (by simp), w64_id (by omega)]
      ·rw [if_neg g1, if_neg (by simp), w64_id (by omega)]
     ·conv => rhs; rw [rxF, dif_pos (by omega), if_neg hn, if_neg hq, if_neg hb]
theorem ofBs_bsOf (s : ByteArray) : ofBs (bsOf s) = s := by
 cases s with
 | mk d =>
  simp only [ofBs, bsOf, List.map_map]
  congr 1
  have : ((fun x : Int => UInt8.ofNat x.toNat) ∘ fun b : UInt8 => (b.toNat : Int)) = id := by
   funext b
   simp
  rw [this]
  simp
def step (x : ByteArray) (s : List api_Word × Int) : Sum (List api_Word × Int) (List api_Word × Int × Int) :=
 let acc := s.1
 let a := s.2
 if ¬ a < (x.size : Int) then .inr (acc, 0, 0) else
 let b := bt x a
 if blankP b = true then .inl (acc, a + 1)
 else if b = 35 then .inl (acc, stop (fun b => b != 10) x a)
 else if letterP b = true then
  let e := stop nameP x a
  if e - a > 24 then .inr ([], 83, a) else .inl (acc ++ [⟨1, x.extract a.toNat e.toNat, 0, a⟩], e)
 else if digitP b = true then
  let e := stop digitP x a
  if numF x e a 0 > 65535 then .inr ([], 84, a) else .inl (acc ++ [⟨4, ⟨#[]⟩, numF x e a 0, a⟩], e)
 else if b = 34 then
  let r := strF x a [] (a + 1)
  if r.2.1 = 0 then .inl (acc ++ [⟨2, ofBs r.1, 0, a⟩], r.2.2) else .inr ([], r.2.1, r.2.2)
 else if b = 47 then
  let e := rxF x (a + 1)
  if e = 0 then .inr ([], 82, a) else .inl (acc ++ [⟨3, x.extract (a + 1).toNat (e - 1).toNat, 0, a⟩], e)
 else if inB signs b = true then .inl (acc ++ [⟨5, x.extract a.toNat (a + 1).toNat, 0, a⟩], a + 1)
 else .inr ([], 81, a)
def Inv (x : ByteArray) (s : List api_Word × Int) : Prop := 0 ≤ s.2 ∧ s.2 ≤ (x.size : Int) ∧ (s.1.length : Int) ≤ s.2
theorem strF_bd {x : ByteArray} {fr : Int} : ∀ {acc : List Int} {i : Int}, 0 ≤ i → 0 ≤ fr → (strF x fr acc i).2.1 = 0 ∧ i < (strF x fr acc i).2.2 ∧ (strF x fr acc i).2.2 ≤ (x.size : Int) ∨ (strF x fr acc i).2.1 = 82 := by
 intro acc i hi hf
 generalize hn : ((x.size : Int) - i).toNat = n
 induction n using Nat.strongRecOn generalizing acc i with
 | _ n ih =>
  rw [strF]
  by_cases hc : i < (x.size : Int)
  ·rw [dif_pos hc]
   split
   ·exact .inr rfl
   ·split
    ·left; simp; omega
    ·split
     ·have hbd := esc_bd x i
      by_cases he : (esc x i).2 = 0
      ·rw [dif_pos he]; exact .inr rfl
      ·rw [dif_neg he]
       have := ih _ (by omega) (acc := acc ++ [(esc x i).1]) (i := i + (esc x i).2) (by omega) rfl
       omega
     ·have := ih _ (by omega) (acc := acc ++ [bt x i]) (i := i + 1) (by omega) rfl
      omega
  ·rw [dif_neg hc]; exact .inr rfl
theorem step_ok {x : ByteArray} {s s' : List api_Word × Int} (hi : Inv x s) (h : step x s = .inl s') : Inv x s' ∧ ((x.size : Int) - s'.2).toNat < ((x.size : Int) - s.2).toNat := by
 obtain ⟨acc, a⟩ := s
 obtain ⟨h0, h1, h2⟩ := hi
 simp only at h0 h1 h2
 unfold step at h
 simp only at h
 by_cases hc : a < (x.size : Int)
 ·rw [if_neg (fun h => h hc)] at h
  split at h
  ·injection h with h; subst h; exact ⟨⟨by simp; omega, by simp; omega, by simp; omega⟩, by simp; omega⟩
  ·split at h
   ·rename_i hb
    injection h with h; subst h
    rw [stop_go hc (by rw [hb]; rfl)]
    have := stop_bd (p := fun b => b != 10) (x := x) (i := a + 1) (by omega)
    exact ⟨⟨by simp; omega, by simp; omega, by simp; omega⟩, by simp; omega⟩
   ·split at h
    ·rename_i hb
     split at h
     ·cases h
     ·injection h with h; subst h
      rw [stop_go hc (by simp [nameP, hb])]
      have := stop_bd (p := nameP) (x := x) (i := a + 1) (by omega)
      exact ⟨⟨by simp; omega, by simp; omega, by simp; omega⟩, by simp; omega⟩
    ·split at h
     ·rename_i hb
      split at h
      ·cases h
      ·injection h with h; subst h
       rw [stop_go hc hb]
       have := stop_bd (p := digitP) (x := x) (i := a + 1) (by omega)
       exact ⟨⟨by simp; omega, by simp; omega, by simp; omega⟩, by simp; omega⟩
     ·split at h
      ·split at h
       ·rename_i he
        injection h with h; subst h
        have := strF_bd (x := x) (fr := a) (acc := []) (i := a + 1) (by omega) h0
        exact ⟨⟨by simp; omega, by simp; omega, by simp; omega⟩, by simp; omega⟩
       ·cases h
      ·split at h
       ·split at h
        ·cases h
        ·rename_i he
         injection h with h; subst h
         have := rxF_bd (x := x) (i := a + 1) (by omega)
         exact ⟨⟨by simp; omega, by simp; omega, by simp; omega⟩, by simp; omega⟩
       ·split at h
        ·injection h with h; subst h
         exact ⟨⟨by simp; omega, by simp; omega, by simp; omega⟩, by simp; omega⟩
        ·cases h
 ·rw [if_pos hc] at h; cases h
theorem comment_ok {x : ByteArray} (hx : x.size ≤ 16384) {acc : List api_Word} {a : Int} (ha : 0 ≤ a ∧ a ≤ (x.size : Int)) : Rounds (fun (s : Int) o => words_Cut_b2 x acc s o) a (.inl (acc, stop (fun b => b != 10) x a)) := by
 refine Rounds.to (fun i => 0 ≤ i ∧ i ≤ (x.size : Int) ∧ stop (fun b => b != 10) x i = stop (fun b => b != 10) x a) (fun i => ((x.size : Int) - i).toNat) (fun i hi => ?_) ⟨by omega, by omega, rfl⟩
 obtain ⟨h0, h1, h2⟩ := hi
 rw [← h2]
 unfold words_Cut_b2 words_Cut_j3
 by_cases hc : i < (x.size : Int)
 ·simp only [if_pos hc]
  by_cases hp : (bt x i != 10) = true
  ·right
   refine ⟨i + 1, ⟨⟨h0, hc⟩, ?_⟩, ⟨by omega, by omega, (stop_go (p := fun b => b != 10) hc hp).symm⟩, by omega⟩
   rw [if_pos hp, w64_id (by omega)]
  ·left
   refine ⟨⟨h0, hc⟩, ?_⟩
   rw [if_neg hp, stop_end (fun h => hp h.2)]
 ·left
  rw [if_neg hc, if_neg (by simp), stop_end (fun h => hc h.1)]
theorem name_ok {x : ByteArray} (hx : x.size ≤ 16384) {acc : List api_Word} {a : Int} (ha : 0 ≤ a ∧ a ≤ (x.size : Int)) (hl : (acc.length : Int) ≤ a) :
  Rounds (fun (s : Int) o => words_Cut_b4 x a acc s o) a (if stop nameP x a - a > 24 then .inr ([], 83, a) else .inl (acc ++ [⟨1, x.extract a.toNat (stop nameP x a).toNat, 0, a⟩], stop nameP x a)) := by
 refine Rounds.to (fun i => a ≤ i ∧ i ≤ (x.size : Int) ∧ stop nameP x i = stop nameP x a) (fun i => ((x.size : Int) - i).toNat) (fun i hi => ?_) ⟨by omega, by omega, rfl⟩
 obtain ⟨h0, h1, h2⟩ := hi
 rw [← h2]
 have hend : stop nameP x i = i → words_Cut_j5 i a x acc false (.inr (if stop nameP x i - a > 24 then .inr ([], 83, a) else .inl (acc ++ [⟨1, x.extract a.toNat (stop nameP x i).toNat, 0, a⟩], stop nameP x i))) := fun e => by
  unfold words_Cut_j5
  rw [if_neg (by simp), w64_id (by omega), e]
  split
  ·rfl
  ·exact ⟨⟨by omega, by omega, by omega⟩, _, rfl, by simp; omega, rfl⟩
 have hgo : words_Cut_j5 i a x acc true (.inl (w64 (i + 1))) := by unfold words_Cut_j5; rw [if_pos rfl]
 unfold words_Cut_b4
 by_cases hc : i < (x.size : Int)
 ·simp only [if_pos hc]
  by_cases hp : nameP (bt x i) = true
  ·right
   refine ⟨i + 1, ⟨⟨by omega, hc⟩, _, letter_ok _, ?_⟩, ⟨by omega, by omega, (stop_go hc hp).symm⟩, by omega⟩
   rw [w64_id (by omega)] at hgo
   by_cases hq : letterP (bt x i) = true
   ·rw [if_pos hq]; exact hgo
   ·rw [if_neg hq]
    refine ⟨_, digit_ok _, ?_⟩
    have : digitP (bt x i) = true := by simpa [nameP, hq] using hp
    rw [this]; exact hgo
  ·left
   have hp1 : letterP (bt x i) = false ∧ digitP (bt x i) = false := by simpa [nameP] using hp
   refine ⟨⟨by omega, hc⟩, _, letter_ok _, ?_⟩
   rw [if_neg (by simp [hp1.1])]
   refine ⟨_, digit_ok _, ?_⟩
   rw [hp1.2]
   exact hend (stop_end (fun h => hp h.2))
 ·left
  rw [if_neg hc]
  exact hend (stop_end (fun h => hc h.1))
theorem num_ok {x : ByteArray} (hx : x.size ≤ 16384) {acc : List api_Word} {a : Int} (ha : 0 ≤ a ∧ a ≤ (x.size : Int)) (hl : (acc.length : Int) ≤ a) :
  Rounds (fun (s : Int × Int) o => words_Cut_b6 x a acc s.1 s.2 o) (a, 0) (if numF x (stop digitP x a) a 0 > 65535 then .inr ([], 84, a) else .inl (acc ++ [⟨4, ⟨#[]⟩, numF x (stop digitP x a) a 0, a⟩], stop digitP x a)) := by
 refine Rounds.to (fun s => a ≤ s.1 ∧ s.1 ≤ (x.size : Int) ∧ 0 ≤ s.2 ∧ s.2 ≤ 65536 ∧ stop digitP x s.1 = stop digitP x a ∧ numF x (stop digitP x a) s.1 s.2 = numF x (stop digitP x a) a 0) (fun s => ((x.size : Int) - s.1).toNat) (fun s hi => ?_) ⟨by simp, by simp; omega, by simp, by simp, rfl, rfl⟩
 obtain ⟨i, v⟩ := s
 obtain ⟨h0, h1, h2, h3, h4, h5⟩ := hi
 simp only at h0 h1 h2 h3 h4 h5 ⊢
 rw [← h5, ← h4]
 have hend : stop digitP x i = i → words_Cut_j7 i x v a acc false (.inr (if numF x (stop digitP x i) i v > 65535 then .inr ([], 84, a) else .inl (acc ++ [⟨4, ⟨#[]⟩, numF x (stop digitP x i) i v, a⟩], stop digitP x i))) := fun e => by
  unfold words_Cut_j7
  rw [if_neg (by simp), e, numF, dif_neg (by omega)]
  split
  ·rfl
  ·exact ⟨_, rfl, by simp; omega, rfl⟩
 unfold words_Cut_b6
 by_cases hc : i < (x.size : Int)
 ·simp only [if_pos hc]
  by_cases hp : digitP (bt x i) = true
  ·right
   have hr : 48 ≤ bt x i ∧ bt x i ≤ 57 := by simpa [digitP] using hp
   have hst := stop_go hc hp
   have hbd := stop_bd (p := digitP) (x := x) (i := i + 1) (by omega)
   refine ⟨(i + 1, numStep v (bt x i)), ⟨⟨by omega, hc⟩, _, digit_ok _, ?_⟩, ⟨by simp; omega, by simp; omega, ?_, ?_, ?_, ?_⟩, by simp; omega⟩
   ·rw [hp]
    unfold words_Cut_j7
    rw [if_pos rfl]
    refine ⟨⟨by omega, hc⟩, ?_⟩
    rw [u8_id (by omega), w64_id (x := i + 1) (by omega), w64_id (x := 10 * v) (by omega), w64_id (x := bt x i - 48) (by omega), w64_id (by omega)]
    congr 2
    unfold numStep
    split <;> omega
   ·simp only [numStep]; split <;> omega
   ·simp only [numStep]; split <;> omega
   ·exact hst.symm
   ·simp only
    conv => rhs; rw [numF, dif_pos (by omega)]
  ·left
   have hp1 : digitP (bt x i) = false := by simpa using hp
   refine ⟨⟨by omega, hc⟩, _, digit_ok _, ?_⟩
   rw [hp1]
   exact hend (stop_end (fun h => hp h.2))
 ·left
  rw [if_neg hc]
  exact hend (stop_end (fun h => hc h.1))
theorem prog_step {x : ByteArray} (hx : x.size ≤ 16384) {s : List api_Word × Int} (hi : Inv x s) : words_Cut_b1 x s.1 s.2 (step x s) := by
 obtain ⟨acc, a⟩ := s
 obtain ⟨h0, h1, h2⟩ := hi
 simp only at h0 h1 h2 ⊢
 unfold words_Cut_b1 step
 simp only
 by_cases hc : a = (x.size : Int)
 ·rw [if_pos hc, if_pos (by omega)]
 ·rw [if_neg hc, if_neg (fun h => h (by omega))]
  refine ⟨⟨h0, by omega⟩, _, blank_ok _, ?_⟩
  by_cases g1 : blankP (bt x a) = true
  ·rw [if_pos g1, if_pos g1, w64_id (by omega)]
  ·rw [if_neg g1, if_neg g1]
   by_cases g2 : bt x a = 35
   ·rw [if_pos g2, if_pos g2]; exact comment_ok hx ⟨h0, h1⟩
   ·rw [if_neg g2, if_neg g2]
    refine ⟨_, letter_ok _, ?_⟩
    by_cases g3 : letterP (bt x a) = true
    ·rw [if_pos g3, if_pos g3]; exact name_ok hx ⟨h0, h1⟩ h2
    ·rw [if_neg g3, if_neg g3]
     refine ⟨_, digit_ok _, ?_⟩
     by_cases g4 : digitP (bt x a) = true
     ·rw [if_pos g4, if_pos g4]; exact num_ok hx ⟨h0, h1⟩ h2
     ·rw [if_neg g4, if_neg g4]
      by_cases g5 : bt x a = 34
      ·rw [if_pos g5, if_pos g5]
       refine ⟨_, quoted_ok hx ⟨h0, by omega⟩, ?_⟩
       by_cases g6 : (strF x a [] (a + 1)).2.1 = 0
       ·rw [if_pos g6, if_pos g6]
        exact ⟨_, rfl, by simp; omega, rfl⟩
       ·rw [if_neg g6, if_neg g6]
      ·rw [if_neg g5, if_neg g5]
       by_cases g6 : bt x a = 47
       ·rw [if_pos g6, if_pos g6]
        refine ⟨_, slashed_ok hx ⟨h0, by omega⟩, ?_⟩
        unfold rxR
        by_cases g7 : rxF x (a + 1) = 0
        ·simp [g7]
        ·simp only [if_neg g7, if_true]
         exact ⟨_, rfl, by simp; omega, by rw [ofBs_bsOf]⟩
       ·rw [if_neg g6, if_neg g6]
        refine ⟨_, ⟨_, rfl, rfl⟩, ?_⟩
        have g7 := idx_signs (bt_range x a)
        by_cases g8 : idxB signs (bt x a) ≥ 0
        ·rw [decide_eq_true g8] at g7
         rw [if_pos g7]
         show (if idxB signs (bt x a) ≥ 0 then _ else _)
         rw [if_pos g8, w64_id (by omega)]
         exact ⟨⟨h0, by omega, by omega⟩, _, rfl, by simp; omega, rfl⟩
        ·rw [decide_eq_false g8] at g7
         show (if idxB signs (bt x a) ≥ 0 then _ else _)
         rw [if_neg g8, if_neg (by simp [g7])]
theorem refcomment_ok {x : ByteArray} (hx : x.size ≤ 16384) {acc : List api_Word} {a : Int} (ha : 0 ≤ a ∧ a ≤ (x.size : Int)) : Rounds (fun (s : Int) o => trellisref8_Cut_b2 x acc s o) a (.inl (acc, stop (fun b => b != 10) x a)) := by
 refine Rounds.to (fun i => 0 ≤ i ∧ i ≤ (x.size : Int) ∧ stop (fun b => b != 10) x i = stop (fun b => b != 10) x a) (fun i => ((x.size : Int) - i).toNat) (fun i hi => ?_) ⟨by omega, by omega, rfl⟩
 obtain ⟨h0, h1, h2⟩ := hi
 rw [← h2]
 unfold trellisref8_Cut_b2
 by_cases hc : i < (x.size : Int)
 ·simp only [if_pos hc]
  by_cases hp : (bt x i != 10) = true
  ·right
   refine ⟨i + 1, ⟨⟨h0, hc⟩, ?_⟩, ⟨by omega, by omega, (stop_go (p := fun b => b != 10) hc hp).symm⟩, by omega⟩
   rw [if_neg (by simpa using hp), w64_id (by omega)]
  ·left
   refine ⟨⟨h0, hc⟩, ?_⟩
   rw [if_pos (by simpa using hp), stop_end (fun h => hp h.2)]
 ·left
  rw [if_neg hc, stop_end (fun h => hc h.1)]
def wordR (x : ByteArray) (a : Int) : api_Word × Int × Int × Int :=
 let b := bt x a
 let z : api_Word := ⟨0, ⟨#[]⟩, 0, 0⟩
 if letterP b = true then
  let e := stop nameP x a
  if e - a > 24 then (z, 0, 83, a) else (⟨1, x.extract a.toNat e.toNat, 0, a⟩, e, 0, 0)
 else if digitP b = true then
  let e := stop digitP x a
  if numF x e a 0 > 65535 then (z, 0, 84, a) else (⟨4, ⟨#[]⟩, numF x e a 0, a⟩, e, 0, 0)
 else if b = 34 then
  let r := strF x a [] (a + 1)
  if r.2.1 = 0 then (⟨2, ofBs r.1, 0, a⟩, r.2.2, 0, 0) else (z, 0, r.2.1, r.2.2)
 else if b = 47 then
  let e := rxF x (a + 1)
  if e = 0 then (z, 0, 82, a) else (⟨3, x.extract (a + 1).toNat (e - 1).toNat, 0, a⟩, e, 0, 0)
 else if inB signs b = true then (⟨5, x.extract a.toNat (a + 1).toNat, 0, a⟩, a + 1, 0, 0)
 else (z, 0, 81, a)
theorem stop_all {p : Int → Bool} {x : ByteArray} {a : Int} : ∀ {i : Int}, a ≤ i → i < stop p x a → p (bt x i) = true := by
 intro i h1 h2
 generalize hn : (i - a).toNat = n
 induction n generalizing a with
 | zero =>
  have : a = i := by omega
  subst this
  by_cases h : a < (x.size : Int) ∧ p (bt x a) = true
  ·exact h.2
  ·rw [stop_end h] at h2; omega
 | succ n ih =>
  by_cases h : a < (x.size : Int) ∧ p (bt x a) = true
  ·rw [stop_go h.1 h.2] at h2
   exact ih (a := a + 1) (by omega) h2 (by omega)
  ·rw [stop_end h] at h2; omega
theorem Word_ok {x : ByteArray} (hx : x.size ≤ 16384) {a : Int} (ha : 0 ≤ a ∧ a < (x.size : Int)) : trellisref8_Word x a (wordR x a) := by
 unfold trellisref8_Word
 refine ⟨ha, _, in_ok letters _ (by decide), ?_⟩
 unfold wordR
 rw [in_letters (bt_range x a)]
 simp only
 have hbn := stop_bd (p := nameP) (x := x) (i := a) (by omega)
 have hbd := stop_bd (p := digitP) (x := x) (i := a) (by omega)
 by_cases g1 : letterP (bt x a) = true
 ·rw [if_pos g1, if_pos g1]
  refine ⟨_, run_ok hx (s := lettersDigits) (by decide) ⟨ha.1, by omega⟩, ?_⟩
  rw [stop_congr (fun b hb => in_names hb)]
  by_cases g2 : stop nameP x a - a > 24
  ·rw [if_pos g2, if_pos g2]
  ·rw [if_neg g2, if_neg g2, show a + (stop nameP x a - a) = stop nameP x a by omega, w64_id (by omega)]
   exact ⟨⟨ha.1, by omega, by omega⟩, rfl⟩
 ·rw [if_neg g1, if_neg g1]
  refine ⟨_, in_ok digits _ (by decide), ?_⟩
  rw [in_digits (bt_range x a)]
  by_cases g2 : digitP (bt x a) = true
  ·rw [if_pos g2, if_pos g2]
   refine ⟨_, run_ok hx (s := digits) (by decide) ⟨ha.1, by omega⟩, ?_⟩
   rw [stop_congr (fun b hb => in_digits hb), show a + (stop digitP x a - a) = stop digitP x a by omega, w64_id (by omega)]
   refine ⟨⟨ha.1, by omega, by omega⟩, _, number_ok hx ⟨ha.1, hbd.1⟩ hbd.2 (fun i hi1 hi2 => stop_all hi1 hi2), ?_⟩
   split <;> rfl
  ·rw [if_neg g2, if_neg g2]
   by_cases g3 : bt x a = 34
   ·rw [if_pos g3, if_pos g3]
    refine ⟨_, str_ok hx ha, ?_⟩
    have hs := strF_bd (x := x) (fr := a) (acc := []) (i := a + 1) (by omega) ha.1
    unfold strR
    by_cases g4 : (strF x a [] (a + 1)).2.1 = 0
    ·simp [g4]
    ·have g5 : (strF x a [] (a + 1)).2.1 = 82 := by omega
     simp [g5]
   ·rw [if_neg g3, if_neg g3]
    by_cases g4 : bt x a = 47
    ·rw [if_pos g4, if_pos g4]
     refine ⟨_, regex_ok hx ha, ?_⟩
     have hr := rxF_bd (x := x) (i := a + 1) (by omega)
     by_cases g5 : rxF x (a + 1) = 0
     ·rw [if_pos g5, if_pos g5]
     ·rw [if_neg g5, if_neg g5, w64_id (x := a + 1) (by omega), w64_id (by omega)]
      exact ⟨⟨by omega, by omega, by omega⟩, rfl⟩
    ·rw [if_neg g4, if_neg g4]
     refine ⟨_, in_ok signs _ (by decide), ?_⟩
     split
     ·rw [w64_id (by omega)]
      exact ⟨⟨ha.1, by omega, by omega⟩, rfl⟩
     ·rfl
theorem ref_step {x : ByteArray} (hx : x.size ≤ 16384) {s : List api_Word × Int} (hi : Inv x s) : trellisref8_Cut_b1 x s.1 s.2 (step x s) := by
 obtain ⟨acc, a⟩ := s
 obtain ⟨h0, h1, h2⟩ := hi
 simp only at h0 h1 h2 ⊢
 unfold trellisref8_Cut_b1 step
 simp only
 by_cases hc : a < (x.size : Int)
 ·rw [if_pos hc, if_neg (fun h => h hc)]
  refine ⟨⟨h0, hc⟩, _, in_ok blanks _ (by decide), ?_⟩
  rw [in_blanks (bt_range x a)]
  by_cases g1 : blankP (bt x a) = true
  ·rw [if_pos g1, if_pos g1, w64_id (by omega)]
  ·rw [if_neg g1, if_neg g1]
   by_cases g2 : bt x a = 35
   ·rw [if_pos g2, if_pos g2]; exact refcomment_ok hx ⟨h0, h1⟩
   ·rw [if_neg g2, if_neg g2]
    refine ⟨_, Word_ok hx ⟨h0, hc⟩, ?_⟩
    have hs := strF_bd (x := x) (fr := a) (acc := []) (i := a + 1) (by omega) h0
    unfold wordR
    simp only
    by_cases g3 : letterP (bt x a) = true
    ·simp only [if_pos g3]
     by_cases g4 : stop nameP x a - a > 24
     ·simp [if_pos g4]
     ·simp only [if_neg g4, if_true]
      exact ⟨_, rfl, by simp; omega, rfl⟩
    ·simp only [if_neg g3]
     by_cases g4 : digitP (bt x a) = true
     ·simp only [if_pos g4]
      by_cases g5 : numF x (stop digitP x a) a 0 > 65535
      ·simp [if_pos g5]
      ·simp only [if_neg g5, if_true]
       exact ⟨_, rfl, by simp; omega, rfl⟩
     ·simp only [if_neg g4]
      by_cases g5 : bt x a = 34
      ·simp only [if_pos g5]
       by_cases g6 : (strF x a [] (a + 1)).2.1 = 0
       ·simp only [if_pos g6, if_true]
        exact ⟨_, rfl, by simp; omega, rfl⟩
       ·simp [if_neg g6]
      ·simp only [if_neg g5]
       by_cases g6 : bt x a = 47
       ·simp only [if_pos g6]
        by_cases g7 : rxF x (a + 1) = 0
        ·simp [if_pos g7]
        ·simp only [if_neg g7, if_true]
         exact ⟨_, rfl, by simp; omega, rfl⟩
       ·simp only [if_neg g6]
        by_cases g7 : inB signs (bt x a) = true
        ·simp only [if_pos g7, if_true]
         exact ⟨_, rfl, by simp; omega, rfl⟩
        ·simp [if_neg g7]
 ·rw [if_neg hc, if_pos hc]
def cut (x : ByteArray) : List api_Word × Int × Int := if (x.size : Int) > 16384 then ([], 80, 16384) else stepsF (step x) ([], 0, 0) (x.size + 1) ([], 0)
theorem cut_prog (x : ByteArray) : words_Cut x (cut x) := by
 unfold words_Cut cut
 split
 ·rfl
 ·exact Rounds.many (step x) _ (Inv x) (fun s => ((x.size : Int) - s.2).toNat) (fun s hi => prog_step (by omega) hi) (fun s s' hi h => step_ok hi h) _ _ ⟨by simp, by simp, by simp⟩ (by simp)
theorem cut_ref (x : ByteArray) : trellisref8_Cut x (cut x) := by
 unfold trellisref8_Cut cut
 split
 ·rfl
 ·exact Rounds.many (step x) _ (Inv x) (fun s => ((x.size : Int) - s.2).toNat) (fun s hi => ref_step (by omega) hi) (fun s s' hi h => step_ok hi h) _ _ ⟨by simp, by simp, by simp⟩ (by simp)
theorem step_len {x : ByteArray} {s : List api_Word × Int} (hi : Inv x s) {r : List api_Word × Int × Int} (h : step x s = .inr r) : (r.1.length : Int) ≤ (x.size : Int) := by
 obtain ⟨acc, a⟩ := s
 obtain ⟨h0, h1, h2⟩ := hi
 simp only at h0 h1 h2
 unfold step at h
 simp only at h
 repeat' split at h
 all_goals first
  | (cases h; done)
  | (injection h with h; subst h; simp; done)
  | (injection h with h; subst h; simp; omega)
theorem steps_len {x : ByteArray} : ∀ (k : Nat) (s : List api_Word × Int), Inv x s → ((stepsF (step x) ([], 0, 0) k s).1.length : Int) ≤ (x.size : Int)
 | 0, s, _ => by simp [stepsF]
 | k + 1, s, hi => by
  unfold stepsF
  cases e : step x s with
  | inr r => exact step_len hi e
  | inl s' => exact steps_len k s' (step_ok hi e).1
theorem cut_len (x : ByteArray) : (cut x).1.length ≤ 16384 := by
 unfold cut
 split
 ·simp
 ·have := steps_len (x := x) (x.size + 1) ([], 0) ⟨by simp, by simp, by simp⟩
  omega
end Go.Proofs.Ytjookebbmfiidaa.L
