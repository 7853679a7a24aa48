/- The plain side of chapter 8, more: the document's own spelling; rows lent with marks behind them. No condition. -/
import Derived.Test.YtjookebbmfiidaaDoorSZ
set_option linter.unusedVariables false
namespace Go.Proofs.YtjookebbmfiidaaDoor.L
open Go.Proofs.YtjookebbmfiidaaDoor.B Go.Proofs.YtjookebbmfiidaaDoor.R
def inF (s : ByteArray) (b : Int) : Bool := if (bsOf s).all (fun c => c != b) = true then false else true
theorem in_ok {s : ByteArray} (hs : s.size ≤ 2 ^ 50) (b : Int) : trellisref8_in s b (inF s b) := by
 have hl := bsOf_len s
 unfold trellisref8_in inF
 refine Rounds.allThen (bsOf s) (fun c => c != b) (fun i hi hp => ?_) (fun i hi hp => ?_) (fun _ => ?_) <;> unfold trellisref8_in_b1
 ·rw [← bt_ix (by omega)] at hp
  rw [if_pos (by omega), if_neg (by simpa using hp), w64_nat (by omega)]
  exact ⟨by omega, rfl⟩
 ·rw [← bt_ix (by omega)] at hp
  rw [if_pos (by omega), if_pos (by simpa using hp)]
  exact ⟨by omega, rfl⟩
 ·rw [if_neg (by omega)]
def namesB : ByteArray := ⟨#[65, 66, 67, 68, 69, 70, 71, 72, 73, 74, 75, 76, 77, 78, 79, 80, 81, 82, 83, 84, 85, 86, 87, 88, 89, 90, 97, 98, 99, 100, 101, 102, 103, 104, 105, 106, 107, 108, 109, 110, 111, 112, 113, 114, 115, 116, 117, 118, 119, 120, 121, 122, 95, 48, 49, 50, 51, 52, 53, 54, 55, 56, 57]⟩
def digitsB : ByteArray := ⟨#[48, 49, 50, 51, 52, 53, 54, 55, 56, 57]⟩
def hexesB : ByteArray := ⟨#[48, 49, 50, 51, 52, 53, 54, 55, 56, 57, 97, 98, 99, 100, 101, 102, 65, 66, 67, 68, 69, 70]⟩
theorem in_all : ∀ n : Fin 256, inF namesB ((n.val : Nat) : Int) = nameP ((n.val : Nat) : Int) ∧ inF digitsB ((n.val : Nat) : Int) = digitP ((n.val : Nat) : Int) ∧ inF signs ((n.val : Nat) : Int) = decide (0 ≤ idxB signs ((n.val : Nat) : Int)) := by decide +kernel
theorem in_at {c : Int} (h : 0 ≤ c ∧ c ≤ 255) : inF namesB c = nameP c ∧ inF digitsB c = digitP c ∧ inF signs c = decide (0 ≤ idxB signs c) := by
 have := in_all ⟨c.toNat, by omega⟩
 simpa only [Int.toNat_of_nonneg h.1] using this
theorem run_ok {x : ByteArray} (hx : x.size ≤ 2 ^ 50) : trellisref8_run x 0 namesB (twl nameP (bsOf x) : Int) := by
 have hl := bsOf_len x
 have hle := twl_le nameP (bsOf x)
 have hn : namesB.size ≤ 2 ^ 50 := by decide
 unfold trellisref8_run
 refine Rounds.cnt (twl nameP (bsOf x)) (fun i hi => ?_) ?_ <;> unfold trellisref8_run_b1
 ·obtain ⟨g1, g2⟩ := inScan (s := x) (a := 0) (p := nameP) (by simpa using hi)
  rw [Nat.zero_add] at g1 g2
  rw [Int.zero_add, w64_id (by omega), if_pos (by omega)]
  refine ⟨by omega, _, in_ok hn _, ?_⟩
  rw [(in_at (bt_range x i)).1, g2, if_pos rfl, w64_nat (by omega)]
 ·rw [Int.zero_add, w64_id (by omega)]
  by_cases g : twl nameP (bsOf x) < x.size
  ·have := outScan (s := x) (a := 0) (p := nameP) (by simpa using g)
   simp only [List.drop_zero, Nat.zero_add] at this
   rw [if_pos (by omega)]
   refine ⟨by omega, _, in_ok hn _, ?_⟩
   rw [(in_at (bt_range x _)).1, this, if_neg (by simp)]
  ·rw [if_neg (by omega)]
theorem twl_full {p : Int → Bool} : ∀ l : List Int, (twl p l == l.length) = l.all p
 | [] => rfl
 | c :: l => by
  have ih := twl_full (p := p) l
  have hle := twl_le p l
  rw [twl, List.all_cons]
  by_cases hc : p c = true
  ·rw [if_pos hc, hc, Bool.true_and, ← ih, List.length_cons, Bool.eq_iff_iff]
   simp
  ·rw [if_neg hc, Bool.not_eq_true] at *
   rw [hc, Bool.false_and]
   simp
def rxR : Option Nat → Nat → Int
 | some k, a => ((a + k + 1 : Nat) : Int)
 | none, _ => 0
theorem regex_ok {x : ByteArray} (hx : x.size ≤ 2 ^ 50) (h1 : 1 ≤ x.size) : trellisref8_regex x 0 (rxR (slF ((bsOf x).drop 1)) 1) := by
 have hl := bsOf_len x
 unfold trellisref8_regex
 rw [show w64 (0 + 1) = ((1 : Nat) : Int) by rfl]
 refine Rounds.to (fun q : Int => 1 ≤ q ∧ q ≤ (x.size : Int) ∧ rxR (slF ((bsOf x).drop q.toNat)) q.toNat = rxR (slF ((bsOf x).drop 1)) 1) (fun q => ((x.size : Int) - q).toNat) (fun q hq => ?_) ⟨by omega, by omega, rfl⟩
 obtain ⟨h0, h1, h3⟩ := hq
 obtain ⟨k, rfl⟩ : ∃ k : Nat, q = k := ⟨q.toNat, by omega⟩
 rw [Int.toNat_natCast] at h3
 have w1 : w64 ((k : Int) + 1) = ((k + 1 : Nat) : Int) := by rw [w64_id (by omega)]; omega
 have w2 : w64 (((k + 1 : Nat) : Int) + 1) = ((k + 2 : Nat) : Int) := by rw [w64_id (by omega)]; omega
 have j2f : ∀ o, o = .inr 0 → trellisref8_regex_j2 k x false o := fun o h => h
 by_cases he : k = x.size
 ·left
  unfold trellisref8_regex_b1
  rw [if_neg (by omega)]
  refine j2f _ ?_
  rw [← h3, he, List.drop_eq_nil_of_le (by omega)]
  rfl
 ·have hk : k < x.size := by omega
  have red : ∀ o, trellisref8_regex_j2 k x (bt x k != 10) o → trellisref8_regex_b1 x k o := fun o h => by
   unfold trellisref8_regex_b1
   rw [if_pos (by omega)]
   exact ⟨by omega, h⟩
  rw [dropB hk, slF_cons] at h3
  by_cases c10 : bt x k = 10
  ·left
   refine red _ ?_
   rw [c10]
   refine j2f _ ?_
   rw [if_pos c10] at h3
   rw [← h3]; rfl
  ·rw [if_neg c10] at h3
   have red2 : ∀ o, ((0 ≤ (k : Int) ∧ (k : Int) < (x.size : Int)) ∧ if bt x k = 47 then o = .inr ((k + 1 : Nat) : Int) else if bt x k = 92 then
     if ((k + 1 : Nat) : Int) < (x.size : Int) then (0 ≤ ((k + 1 : Nat) : Int) ∧ ((k + 1 : Nat) : Int) < (x.size : Int)) ∧ if bt x ((k + 1 : Nat) : Int) = 10 then o = .inl ((k + 1 : Nat) : Int) else o = .inl ((k + 2 : Nat) : Int)
     else o = .inl ((k + 1 : Nat) : Int) else o = .inl ((k + 1 : Nat) : Int)) → trellisref8_regex_b1 x k o := fun o h => by
    refine red o ?_
    rw [bne_iff_ne.2 c10]
    unfold trellisref8_regex_j2
    rw [if_pos rfl, w1, w2]
    exact h
   by_cases c47 : bt x k = 47
   ·left
    refine red2 _ ⟨by omega, ?_⟩
    rw [if_pos c47] at h3 ⊢
    rw [← h3]; rfl
   ·rw [if_neg c47] at h3
    by_cases c92 : bt x k = 92
    ·rw [if_pos c92] at h3
     right
     by_cases hk1 : k + 1 < x.size
     ·rw [dropB hk1] at h3
      simp only at h3
      by_cases d10 : bt x ((k + 1 : Nat) : Int) = 10
      ·rw [if_pos d10] at h3
       refine ⟨((k + 1 : Nat) : Int), red2 _ ⟨by omega, ?_⟩, ⟨by omega, by omega, ?_⟩, by omega⟩
       ·rw [if_neg c47, if_pos c92, if_pos (by omega), if_pos d10]; exact ⟨by omega, rfl⟩
       ·rw [Int.toNat_natCast, dropB hk1, slF_cons, if_pos d10, ← h3]; rfl
      ·rw [if_neg d10] at h3
       refine ⟨((k + 2 : Nat) : Int), red2 _ ⟨by omega, ?_⟩, ⟨by omega, by omega, ?_⟩, by omega⟩
       ·rw [if_neg c47, if_pos c92, if_pos (by omega), if_neg d10]; exact ⟨by omega, rfl⟩
       ·rw [Int.toNat_natCast, ← h3, show k + 1 + 1 = k + 2 from rfl]
        cases slF ((bsOf x).drop (k + 2)) with
        | none => rfl
        | some z => show ((k + 2 + z + 1 : Nat) : Int) = ((k + (z + 2) + 1 : Nat) : Int); omega
     ·refine ⟨((k + 1 : Nat) : Int), red2 _ ⟨by omega, ?_⟩, ⟨by omega, by omega, ?_⟩, by omega⟩
      ·rw [if_neg c47, if_pos c92, if_neg (by omega)]
      ·rw [Int.toNat_natCast, ← h3, List.drop_eq_nil_of_le (by omega)]; rfl
    ·rw [if_neg c92] at h3
     right
     refine ⟨((k + 1 : Nat) : Int), red2 _ ⟨by omega, ?_⟩, ⟨by omega, by omega, ?_⟩, by omega⟩
     ·rw [if_neg c47, if_neg c92]
     ·rw [Int.toNat_natCast, ← h3]
      cases slF ((bsOf x).drop (k + 1)) with
      | none => rfl
      | some z => show ((k + 1 + z + 1 : Nat) : Int) = ((k + (z + 1) + 1 : Nat) : Int); omega
theorem refSound_ok {w : api_Word} (hs : w.text.size ≤ 1048576) : trellisref8_Sound w (soundF w) := by
 have hl := bsOf_len w.text
 have hbt := bsOf_bts w.text
 unfold trellisref8_Sound soundF
 by_cases k1 : w.kind = 1
 ·rw [if_pos k1, if_pos k1]
  unfold nameOk
  by_cases g1 : (w.text.size : Int) > 0
  ·rw [if_pos g1, decide_eq_true (by omega : 1 ≤ (bsOf w.text).length), Bool.true_and]
   by_cases g2 : (w.text.size : Int) ≤ 24
   ·rw [if_pos g2, decide_eq_true (by omega : (bsOf w.text).length ≤ 24), Bool.true_and]
    have hh : (bsOf w.text).headD 0 = bt w.text 0 := by
     have := dropB (s := w.text) (i := 0) (by omega)
     rw [List.drop_zero] at this
     rw [this]; rfl
    refine ⟨by omega, _, in_ok (s := digitsB) (by decide) _, ?_⟩
    rw [(in_at (bt_range w.text 0)).2.1, hh]
    cases hd : digitP (bt w.text 0) with
    | true => rw [if_pos rfl]; rfl
    | false =>
     rw [if_neg (by simp), Bool.not_false, Bool.true_and]
     refine ⟨_, run_ok (by omega), ?_⟩
     rw [← twl_full, hl, Bool.eq_iff_iff]
     simp only [beq_iff_eq]
     omega
   ·rw [if_neg g2, decide_eq_false (by omega : ¬ (bsOf w.text).length ≤ 24), Bool.false_and]
  ·rw [if_neg g1, decide_eq_false (by omega : ¬ 1 ≤ (bsOf w.text).length), Bool.false_and]
 rw [if_neg k1, if_neg k1]
 by_cases k2 : w.kind = 2
 ·rw [if_pos k2, if_pos k2]
 rw [if_neg k2, if_neg k2]
 have a1 : (⟨#[47]⟩ : ByteArray).size = 1 := rfl
 by_cases k3 : w.kind = 3
 ·rw [if_pos k3, if_pos k3]
  have hsz : (((⟨#[47]⟩ : ByteArray) ++ w.text) ++ (⟨#[47]⟩ : ByteArray)).size = w.text.size + 2 := by simp only [ByteArray.size_append, a1]; omega
  refine ⟨by rw [a1]; omega, by simp only [ByteArray.size_append, a1]; omega, _, regex_ok (by omega) (by omega), ?_⟩
  rw [hsz]
  have e : (bsOf (((⟨#[47]⟩ : ByteArray) ++ w.text) ++ (⟨#[47]⟩ : ByteArray))).drop 1 = bsOf w.text ++ 47 :: [] := by rw [bsOf_app, bsOf_app]; rfl
  rw [e]
  cases hr : regOk (bsOf w.text) with
  | true =>
   rw [slF_all [] _ rfl hr]
   symm; rw [beq_iff_eq]
   show ((1 + (bsOf w.text).length + 1 : Nat) : Int) = _
   omega
  | false =>
   symm; rw [beq_eq_false_iff_ne]
   intro h
   cases hm : slF (bsOf w.text ++ 47 :: []) with
   | none => rw [hm] at h; have h : (0 : Int) = _ := h; omega
   | some k =>
    rw [hm] at h
    have h : ((1 + k + 1 : Nat) : Int) = _ := h
    obtain rfl : k = (bsOf w.text).length := by omega
    have := slF_reg _ rfl hm
    rw [List.take_append_of_le_length (Nat.le_refl _), List.take_length, hr] at this
    cases this
 rw [if_neg k3, if_neg k3]
 by_cases k4 : w.kind = 4
 ·rw [if_pos k4, if_pos k4]
  split <;> rfl
 rw [if_neg k4, if_neg k4]
 by_cases k5 : w.kind = 5
 ·rw [if_pos k5, if_pos k5]
  by_cases g : (w.text.size : Int) = 1
  ·rw [if_pos g, if_pos g]
   refine ⟨by omega, _, in_ok (s := signs) (by decide) _, ?_⟩
   have hd := dropB (s := w.text) (i := 0) (by omega)
   rw [List.drop_zero, List.drop_eq_nil_of_le (by omega)] at hd
   rw [hasB_one hd, (in_at (bt_range w.text _)).2.2]
   rfl
  ·rw [if_neg g, if_neg g]
 ·rw [if_neg k5, if_neg k5]
theorem ofBs_app (a b : List Int) : ofBs (a ++ b) = ofBs a ++ ofBs b := by
 unfold ofBs
 rw [List.map_append]
 apply ByteArray.ext
 simp
theorem hexes_at : ∀ i : Fin 16, hexesB.extract ((i.val : Nat) : Int).toNat (((i.val : Nat) : Int) + 1).toNat = ofBs [bt hxB ((i.val : Nat) : Int)] := by decide +kernel
theorem hexes_ok {c : Int} (h0 : 0 ≤ c) (h1 : c < 16) : hexesB.extract c.toNat (c + 1).toNat = ofBs [bt hxB c] := by
 have := hexes_at ⟨c.toNat, by omega⟩
 simpa only [Int.toNat_of_nonneg h0] using this
theorem byteOf_ok {c : Int} (h : 0 ≤ c ∧ c ≤ 255) : trellisref8_byteOf c (ofBs (escB c)) := by
 have j1t : escB c = [92, 120, bt hxB (c / 16), bt hxB (c % 16)] → trellisref8_byteOf_j1 c true (ofBs (escB c)) := fun e => by
  have t1 : Int.tdiv c 16 = c / 16 := Int.tdiv_eq_ediv_of_nonneg (by omega)
  have t2 : Int.tmod c 16 = c % 16 := Int.tmod_eq_emod_of_nonneg (by omega)
  unfold trellisref8_byteOf_j1
  rw [if_pos rfl, t1, t2, u8_id (x := c / 16) (by omega), u8_id (x := c / 16 + 1) (by omega), u8_id (x := c % 16 + 1) (by omega)]
  have e1 := hexes_ok (c := c / 16) (by omega) (by omega)
  have e2 := hexes_ok (c := c % 16) (by omega) (by omega)
  unfold hexesB at e1 e2
  rw [e1, e2]
  have s0 : (⟨#[48, 49, 50, 51, 52, 53, 54, 55, 56, 57, 97, 98, 99, 100, 101, 102, 65, 66, 67, 68, 69, 70]⟩ : ByteArray).size = 22 := rfl
  have s1 : (⟨#[92, 120]⟩ : ByteArray).size = 2 := rfl
  have s2 : ∀ x : Int, (ofBs [x]).size = 1 := fun x => rfl
  refine ⟨by rw [s0]; omega, by rw [s1, s2]; decide, by rw [s0]; omega, by rw [ByteArray.size_append, s1, s2, s2]; decide, ?_⟩
  rw [e, show [92, 120, bt hxB (c / 16), bt hxB (c % 16)] = ([92, 120] ++ [bt hxB (c / 16)]) ++ [bt hxB (c % 16)] from rfl, ofBs_app, ofBs_app]
  rfl
 have j1f : escB c = [c] → trellisref8_byteOf_j1 c false (ofBs (escB c)) := fun e => by
  unfold trellisref8_byteOf_j1
  rw [if_neg (by simp), e]
 unfold trellisref8_byteOf
 by_cases c34 : c = 34
 ·subst c34; rfl
 rw [if_neg c34]
 by_cases c92 : c = 92
 ·subst c92; rfl
 rw [if_neg c92]
 by_cases c10 : c = 10
 ·subst c10; rfl
 rw [if_neg c10]
 by_cases c9 : c = 9
 ·subst c9; rfl
 rw [if_neg c9]
 by_cases c13 : c = 13
 ·subst c13; rfl
 rw [if_neg c13]
 by_cases g : c < 32
 ·rw [if_pos g]
  exact j1t (by unfold escB; rw [if_neg c34, if_neg c92, if_neg c10, if_neg c9, if_neg c13, if_pos (.inl g)])
 ·rw [if_neg g]
  by_cases g2 : c > 126
  ·rw [decide_eq_true g2]
   exact j1t (by unfold escB; rw [if_neg c34, if_neg c92, if_neg c10, if_neg c9, if_neg c13, if_pos (.inr g2)])
  ·rw [decide_eq_false g2]
   exact j1f (by unfold escB; rw [if_neg c34, if_neg c92, if_neg c10, if_neg c9, if_neg c13, if_neg (by omega)])
theorem ofBs_size (l : List Int) : (ofBs l).size = l.length := by simp [ofBs, ByteArray.size]
theorem refSpell_ok {w : api_Word} (hs : w.text.size ≤ 1048576) (hn : -9223372036854775808 ≤ w.n ∧ w.n ≤ 9223372036854775807) : trellisref8_Spell w (spellF w) := by
 have hl := bsOf_len w.text
 unfold trellisref8_Spell spellF
 refine ⟨_, refSound_ok hs, ?_⟩
 by_cases h : soundF w = true
 ·rw [if_pos h, if_pos h]
  have a1 : (⟨#[47]⟩ : ByteArray).size = 1 := rfl
  by_cases k2 : w.kind = 2
  ·rw [if_pos k2, if_pos k2]
   have hsz : ∀ i, (ofBs (34 :: ((bsOf w.text).take i).flatMap escB)).size ≤ 4 * 1048576 + 1 := fun i => by
    have := escB_sum ((bsOf w.text).take i)
    rw [List.length_take] at this
    rw [ofBs_size, List.length_cons]
    omega
   have key := Rounds.upto (B := fun (s : ByteArray × Int) o => trellisref8_Spell_b1 w s.1 s.2 o) (r := ofBs (quoteF (bsOf w.text))) (fun i => (ofBs (34 :: ((bsOf w.text).take i).flatMap escB), (i : Int))) w.text.size (fun i hi => ?_) ?_
   ·exact key
   ·show trellisref8_Spell_b1 w (ofBs (34 :: ((bsOf w.text).take i).flatMap escB)) (i : Int) _
    have hb := bt_range w.text i
    have h4 := escB_len (bt w.text i)
    have h5 := hsz i
    unfold trellisref8_Spell_b1
    rw [if_pos (by omega), w64_nat (by omega)]
    refine ⟨by omega, _, byteOf_ok hb, by rw [ofBs_size (escB _)]; omega, ?_⟩
    rw [List.take_succ_eq_append_getElem (by omega), List.flatMap_append, ← bt_ix hi, ← ofBs_app]
    simp
   ·show trellisref8_Spell_b1 w (ofBs (34 :: ((bsOf w.text).take w.text.size).flatMap escB)) (w.text.size : Int) _
    have h5 := hsz w.text.size
    unfold trellisref8_Spell_b1
    rw [if_neg (by omega)]
    refine ⟨by rw [show (⟨#[34]⟩ : ByteArray).size = 1 from rfl]; omega, ?_⟩
    rw [List.take_of_length_le (by omega)]
    unfold quoteF
    rw [← List.cons_append, ofBs_app]
    rfl
  ·rw [if_neg k2, if_neg k2]
   by_cases k3 : w.kind = 3
   ·rw [if_pos k3, if_pos k3]
    exact ⟨by rw [a1]; omega, by simp only [ByteArray.size_append, a1]; omega, rfl⟩
   ·rw [if_neg k3, if_neg k3]
    by_cases k4 : w.kind = 4
    ·rw [if_pos k4, if_pos k4]; exact ⟨_, ⟨hn, rfl⟩, rfl⟩
    ·rw [if_neg k4, if_neg k4]
 ·rw [if_neg h, if_neg h]
theorem first_no {α : Type} (p : α → Bool) : ∀ l : List α, l.all p = false → ∃ i, ∃ hi : i < l.length, p l[i] = false ∧ ∀ j (hj : j < l.length), j < i → p l[j] = true
 | [], h => by simp at h
 | a :: l, h => by
  cases ha : p a with
  | false => exact ⟨0, by simp, ha, fun j _ hj => absurd hj (Nat.not_lt_zero _)⟩
  | true =>
   rw [List.all_cons, ha, Bool.true_and] at h
   obtain ⟨i, hi, h1, h2⟩ := first_no p l h
   refine ⟨i + 1, by simpa using hi, h1, fun j hj hji => ?_⟩
   match j with
   | 0 => exact ha
   | j + 1 => exact h2 j (by simpa using hj) (by omega)
theorem jn_snoc : ∀ (xs : List (List Int)) (y : List Int), xs ≠ [] → jn (xs ++ [y]) = jn xs ++ 32 :: y
 | [], y, h => absurd rfl h
 | [x], y, h => rfl
 | x :: z :: r, y, h => by
  have ih := jn_snoc (z :: r) y (by simp)
  rw [List.cons_append] at ih ⊢
  rw [List.cons_append, jn, jn, ih]
  simp
theorem join_snoc {xs : List ByteArray} (h : xs ≠ []) (y : ByteArray) : joinB (xs ++ [y]) sp = (joinB xs sp ++ sp) ++ y := by
 refine bs_inj ?_
 rw [bsOf_join, bsOf_app, bsOf_app, bsOf_join, List.map_append, List.map_cons, List.map_nil, jn_snoc _ _ (by simpa using h), List.append_assoc]
 rfl
theorem join_one (y : ByteArray) : joinB [y] sp = (⟨#[]⟩ : ByteArray) ++ y := by
 refine bs_inj ?_
 rw [bsOf_join, bsOf_app]
 rfl
theorem refJoin_ok {ws : List api_Word} (hl : ws.length ≤ 1048576) (h1 : ∀ w ∈ ws, w.text.size ≤ 1048576 ∧ (-9223372036854775808 ≤ w.n ∧ w.n ≤ 9223372036854775807)) : trellisref8_Join ws (joinF ws) := by
 have hj : ∀ i, (joinB ((ws.take i).map spellF) sp).size ≤ 1048576 * (4 * 1048576 + 9) := fun i => by
  have h2 := join_size (ws := ws.take i) (M := 1048576) fun w hw => (h1 w (List.mem_of_mem_take hw)).1
  have h3 : (ws.take i).length * (4 * 1048576 + 9) ≤ 1048576 * (4 * 1048576 + 9) := Nat.mul_le_mul_right _ (by rw [List.length_take]; omega)
  exact Nat.le_trans h2 h3
 have step : ∀ i (hi : i < ws.length), soundF ws[i] = true → trellisref8_Join_b1 ws (joinB ((ws.take i).map spellF) sp) (i : Int) (.inl (joinB ((ws.take (i + 1)).map spellF) sp, ((i + 1 : Nat) : Int))) := by
  intro i hi hs
  obtain ⟨q1, q2⟩ := h1 _ (List.getElem_mem hi)
  have h5 := hj i
  have h6 := spell_size (w := ws[i])
  have a1 : (⟨#[32]⟩ : ByteArray).size = 1 := rfl
  unfold trellisref8_Join_b1
  rw [if_pos (by omega), ix_nat hi, w64_nat (by omega)]
  refine ⟨by omega, _, refSound_ok q1, ?_⟩
  rw [if_pos hs, List.take_succ_eq_append_getElem hi, List.map_append, List.map_cons, List.map_nil]
  by_cases g : (i : Int) > 0
  ·rw [if_pos g]
   refine ⟨by rw [a1]; omega, _, refSpell_ok q1 q2, by simp only [ByteArray.size_append, a1]; omega, ?_⟩
   rw [join_snoc (by intro e; have := congrArg List.length e; simp only [List.length_map, List.length_take, List.length_nil] at this; omega)]
   rfl
  ·rw [if_neg g]
   obtain rfl : i = 0 := by omega
   refine ⟨_, refSpell_ok q1 q2, by omega, ?_⟩
   rw [List.take_zero, List.map_nil, List.nil_append, join_one]
   rfl
 unfold trellisref8_Join joinF
 by_cases hall : ws.all soundF = true
 ·rw [if_pos hall]
  have key := Rounds.upto (B := fun (s : ByteArray × Int) o => trellisref8_Join_b1 ws s.1 s.2 o) (r := joinB (ws.map spellF) sp) (fun i => (joinB ((ws.take i).map spellF) sp, (i : Int))) ws.length (fun i hi => step i hi (List.all_eq_true.1 hall _ (List.getElem_mem hi))) ?_
  ·exact key
  ·show trellisref8_Join_b1 ws _ (ws.length : Int) _
   unfold trellisref8_Join_b1
   rw [if_neg (by omega), List.take_length]
 ·rw [if_neg hall]
  obtain ⟨n, hn, hn1, hn2⟩ := first_no soundF ws (by simpa using hall)
  have key := Rounds.upto (B := fun (s : ByteArray × Int) o => trellisref8_Join_b1 ws s.1 s.2 o) (r := (⟨#[]⟩ : ByteArray)) (fun i => (joinB ((ws.take i).map spellF) sp, (i : Int))) n (fun i hi => step i (by omega) (hn2 i (by omega) hi)) ?_
  ·exact key
  ·show trellisref8_Join_b1 ws _ (n : Int) _
   unfold trellisref8_Join_b1
   rw [if_pos (by omega), ix_nat hn]
   refine ⟨by omega, _, refSound_ok (h1 _ (List.getElem_mem hn)).1, ?_⟩
   rw [hn1, if_neg (by simp)]
def mark (i : Nat) : api_Word := ⟨0, (⟨#[]⟩ : ByteArray), 900 + (i : Int), 7⟩
def marks : List api_Word := (List.range 20).map mark
end Go.Proofs.YtjookebbmfiidaaDoor.L
