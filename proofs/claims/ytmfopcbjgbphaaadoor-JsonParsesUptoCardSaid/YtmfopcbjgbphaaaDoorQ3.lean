/- JSON: characters, well formed texts, nodes that are sound by themselves. Condition: sizes. -/
import Derived.Test.YtmfopcbjgbphaaaDoorQ1
import Derived.Test.YtmfopcbjgbphaaaDoorQ2
import Derived.Lib.ValidLaws
set_option linter.unusedVariables false
namespace Go.Proofs.YtmfopcbjgbphaaaDoor.L
open Go.Proofs.YtmfopcbjgbphaaaDoor.B Go.Proofs.YtmfopcbjgbphaaaDoor.R
def rng (b : Int) : Option (List (Int × Int)) :=
 if b < 128 then some []
 else if b < 194 ∨ b > 244 then none
 else if b < 224 then some [(128, 191)]
 else if b = 224 then some [(160, 191), (128, 191)]
 else if b = 237 then some [(128, 159), (128, 191)]
 else if b < 240 then some [(128, 191), (128, 191)]
 else if b = 240 then some [(144, 191), (128, 191), (128, 191)]
 else if b = 244 then some [(128, 143), (128, 191), (128, 191)]
 else some [(128, 191), (128, 191), (128, 191)]
def flatR (l : List (Int × Int)) : List Int := l.flatMap fun p => [p.1, p.2]
def tailL : List (Int × Int) → List Int → Bool × List Int
 | [], t => (true, t)
 | _ :: _, [] => (false, [])
 | p :: l, y :: t => if y < p.1 ∨ y > p.2 then (false, y :: t) else tailL l t
def charL : List Int → Bool × List Int
 | [] => (false, [])
 | x :: t => match rng x with
  | none => (false, x :: t)
  | some l => tailL l t
theorem rng_ok (b : Int) : trellisref25_Ranges b (match rng b with | none => ([], false) | some l => (flatR l, true)) := by
 unfold trellisref25_Ranges rng
 by_cases h1 : b < 128
 ·rw [if_pos h1, if_pos h1]; rfl
 rw [if_neg h1, if_neg h1]
 by_cases h2 : b < 194
 ·rw [if_pos h2, if_pos (.inl h2)]
  rfl
 rw [if_neg h2]
 unfold trellisref25_Ranges_j1
 by_cases h3 : b > 244
 ·rw [if_pos (decide_eq_true h3), if_pos (Or.inr h3)]
 rw [if_neg (by rw [decide_eq_true_eq]; exact h3), if_neg (show ¬ (b < 194 ∨ b > 244) by omega)]
 by_cases h4 : b < 224
 ·rw [if_pos h4, if_pos h4]; rfl
 rw [if_neg h4, if_neg h4]
 by_cases h5 : b = 224
 ·rw [if_pos h5, if_pos h5]; rfl
 rw [if_neg h5, if_neg h5]
 by_cases h6 : b = 237
 ·rw [if_pos h6, if_pos h6]; rfl
 rw [if_neg h6, if_neg h6]
 by_cases h7 : b < 240
 ·rw [if_pos h7, if_pos h7]; rfl
 rw [if_neg h7, if_neg h7]
 by_cases h8 : b = 240
 ·rw [if_pos h8, if_pos h8]; rfl
 rw [if_neg h8, if_neg h8]
 by_cases h9 : b = 244
 ·rw [if_pos h9, if_pos h9]; rfl
 rw [if_neg h9, if_neg h9]; rfl
def plc (s : ByteArray) (t : List Int) : Nat := s.size - t.length
theorem plc_drop {s : ByteArray} {a : Nat} (h : a ≤ s.size) : plc s ((bsOf s).drop a) = a := by
 unfold plc
 rw [List.length_drop, bsOf_len]
 omega
def Rest (s : ByteArray) (t : List Int) : Prop := t.length ≤ s.size ∧ t = (bsOf s).drop (plc s t)
theorem Rest.drop {s : ByteArray} {a : Nat} (h : a ≤ s.size) : Rest s ((bsOf s).drop a) := by
 refine ⟨by rw [List.length_drop, bsOf_len]; omega, ?_⟩
 rw [plc_drop h]
theorem Rest.tl {s : ByteArray} {x : Int} {t : List Int} (h : Rest s (x :: t)) : Rest s t ∧ plc s t = plc s (x :: t) + 1 := by
 obtain ⟨h1, h2⟩ := h
 simp only [List.length_cons] at h1
 have e : plc s t = plc s (x :: t) + 1 := by unfold plc; simp only [List.length_cons]; omega
 refine ⟨⟨by omega, ?_⟩, e⟩
 rw [e, ← List.drop_drop, ← h2]
 rfl
theorem Rest.bt {s : ByteArray} {x : Int} {t : List Int} (h : Rest s (x :: t)) : bt s (plc s (x :: t) : Int) = x ∧ plc s (x :: t) < s.size := by
 obtain ⟨h1, h2⟩ := h
 have hl : plc s (x :: t) < s.size := by unfold plc; simp only [List.length_cons] at h1 ⊢; omega
 refine ⟨?_, hl⟩
 have := bsOf_cons hl
 rw [← h2] at this
 injection this with h3 _
 exact h3.symm
theorem Rest.nil {s : ByteArray} : plc s [] = s.size := by unfold plc; simp
theorem Rest.none {s : ByteArray} : Rest s [] := ⟨Nat.zero_le _, by rw [Rest.nil, List.drop_eq_nil_of_le (by rw [bsOf_len]; exact Nat.le_refl _)]⟩
theorem Rest.whole {s : ByteArray} : Rest s (bsOf s) ∧ plc s (bsOf s) = 0 := ⟨⟨by rw [bsOf_len]; exact Nat.le_refl _, by unfold plc; rw [bsOf_len, Nat.sub_self]; rfl⟩, by unfold plc; rw [bsOf_len]; omega⟩
theorem tailL_len : ∀ (l : List (Int × Int)) (t : List Int), (tailL l t).2.length ≤ t.length ∧ ((tailL l t).1 = true → (tailL l t).2.length + l.length = t.length)
 | [], t => ⟨Nat.le_refl _, fun _ => rfl⟩
 | _ :: _, [] => ⟨Nat.le_refl _, fun h => by cases h⟩
 | p :: l, y :: t => by
  unfold tailL
  by_cases h : y < p.1 ∨ y > p.2
  ·rw [if_pos h]; exact ⟨Nat.le_refl _, fun h => by cases h⟩
  ·rw [if_neg h]
   obtain ⟨i1, i2⟩ := tailL_len l t
   simp only [List.length_cons]
   exact ⟨by omega, fun h => by have := i2 h; omega⟩
theorem tailL_rest {s : ByteArray} : ∀ (l : List (Int × Int)) (t : List Int), Rest s t → Rest s (tailL l t).2
 | [], t, h => h
 | _ :: _, [], h => h
 | p :: l, y :: t, h => by
  unfold tailL
  by_cases g : y < p.1 ∨ y > p.2
  ·rw [if_pos g]; exact h
  ·rw [if_neg g]; exact tailL_rest l t h.tl.1
theorem flatR_len (l : List (Int × Int)) : (flatR l).length = 2 * l.length := by
 induction l with
 | nil => rfl
 | cons p l ih =>
  unfold flatR at ih ⊢
  rw [List.flatMap_cons, List.length_append, ih]
  simp only [List.length_cons, List.length_nil]
  omega
theorem rtail_ok {r : trellisref25_Reader} (he : r.e = 0) (hs : r.s.size ≤ 2 ^ 48) (b : Bool) : ∀ (l pre : List (Int × Int)) (t : List Int), pre.length + l.length ≤ 8 → Rest r.s t →
  Rounds (fun (q : Int × Int) o => trellisref25_Reader_char_b1 (flatR (pre ++ l), b) r q.1 q.2 o) ((plc r.s t : Int), ((2 * pre.length : Nat) : Int)) ((plc r.s (tailL l t).2 : Int), rdE r (tailL l t).1 (plc r.s (tailL l t).2))
 | [], pre, t, hl, hr => by
  refine .done ?_
  show trellisref25_Reader_char_b1 _ _ _ _ _
  unfold trellisref25_Reader_char_b1
  rw [if_neg (by dsimp only; rw [List.append_nil, flatR_len]; omega)]
  rfl
 | p :: l, pre, t, hl, hr => by
  have hfl := flatR_len
  simp only [List.length_cons] at hl
  have hlen : (flatR (pre ++ p :: l)).length = 2 * pre.length + (2 * l.length + 2) := by rw [hfl, List.length_append, List.length_cons]; omega
  have hx : flatR (pre ++ p :: l) = flatR pre ++ p.1 :: p.2 :: flatR l := by simp [flatR]
  have g0 : ix (flatR (pre ++ p :: l)) ((2 * pre.length : Nat) : Int) = p.1 := by
   rw [hx]; unfold ix; rw [Int.toNat_natCast, List.getD_eq_getElem?_getD, List.getElem?_append_right (by rw [hfl]; exact Nat.le_refl _), hfl, Nat.sub_self]; rfl
  have g1 : ix (flatR (pre ++ p :: l)) ((2 * pre.length + 1 : Nat) : Int) = p.2 := by
   rw [hx]; unfold ix; rw [Int.toNat_natCast, List.getD_eq_getElem?_getD, List.getElem?_append_right (by rw [hfl]; omega), hfl, show 2 * pre.length + 1 - 2 * pre.length = 1 by omega]; rfl
  have hw1 : w64 (((2 * pre.length : Nat) : Int) + 1) = ((2 * pre.length + 1 : Nat) : Int) := by rw [w64_id (by omega)]; omega
  have hstop : ∀ a : Nat, trellisref25_Reader_stop r 250 (a : Int) ((a : Int), rdE r false a) := fun a => by unfold trellisref25_Reader_stop; rw [if_pos he]; rfl
  cases t with
  | nil =>
   refine .done ?_
   show trellisref25_Reader_char_b1 _ _ _ _ _
   unfold trellisref25_Reader_char_b1 trellisref25_Reader_char_j2
   dsimp only
   rw [if_pos (by rw [hlen]; omega), Rest.nil, if_pos (by omega)]
   refine ⟨_, hstop _, ?_⟩
   unfold tailL
   rw [Rest.nil]
  | cons y t =>
   obtain ⟨hb, hlt⟩ := hr.bt
   have hrng := bt_range r.s (plc r.s (y :: t) : Int)
   unfold tailL
   by_cases g : y < p.1 ∨ y > p.2
   ·rw [if_pos g]
    refine .done ?_
    show trellisref25_Reader_char_b1 _ _ _ _ _
    unfold trellisref25_Reader_char_b1
    dsimp only
    rw [if_pos (by rw [hlen]; omega), if_neg (by omega), hlen]
    refine ⟨by omega, by omega, ?_⟩
    rw [g0, w64_id (by omega), hb]
    by_cases g2 : y < p.1
    ·rw [if_pos g2]
     unfold trellisref25_Reader_char_j2
     rw [if_pos rfl]
     exact ⟨_, hstop _, rfl⟩
    ·rw [if_neg g2, hw1]
     refine ⟨by omega, ?_⟩
     rw [g1, decide_eq_true (by omega)]
     unfold trellisref25_Reader_char_j2
     rw [if_pos rfl]
     exact ⟨_, hstop _, rfl⟩
   ·rw [if_neg g]
    obtain ⟨hr2, hp2⟩ := hr.tl
    have ih := rtail_ok he hs b l (pre ++ [p]) t (by rw [List.length_append, List.length_singleton]; omega) hr2
    rw [List.append_assoc, List.singleton_append, List.length_append, List.length_singleton, hp2] at ih
    refine .next ?_ ih
    show trellisref25_Reader_char_b1 _ _ _ _ _
    unfold trellisref25_Reader_char_b1
    dsimp only
    rw [if_pos (by rw [hlen]; omega), if_neg (by omega), hlen]
    refine ⟨by omega, by omega, ?_⟩
    rw [g0, w64_id (by omega), hb, if_neg (by omega), hw1]
    refine ⟨by omega, ?_⟩
    rw [g1, decide_eq_false (by omega)]
    unfold trellisref25_Reader_char_j2
    rw [if_neg (by simp), w64_nat (by omega), w64_id (by omega)]
    congr 2
theorem charL_none {x : Int} {t : List Int} (h : rng x = none) : charL (x :: t) = (false, x :: t) := by simp only [charL, h]
theorem charL_some {x : Int} {t : List Int} {l : List (Int × Int)} (h : rng x = some l) : charL (x :: t) = tailL l t := by simp only [charL, h]
theorem charL_len (t : List Int) : (charL t).2.length ≤ t.length ∧ ((charL t).1 = true → (charL t).2.length < t.length) := by
 cases t with
 | nil => exact ⟨Nat.le_refl _, fun h => by cases h⟩
 | cons x t =>
  cases e : rng x with
  | none => rw [charL_none e]; exact ⟨Nat.le_refl _, fun h => by cases h⟩
  | some l =>
   rw [charL_some e]
   obtain ⟨h1, h2⟩ := tailL_len l t
   simp only [List.length_cons]
   exact ⟨by omega, fun h => by omega⟩
theorem charL_rest {s : ByteArray} {t : List Int} (h : Rest s t) : Rest s (charL t).2 := by
 cases t with
 | nil => exact h
 | cons x t =>
  cases e : rng x with
  | none => rw [charL_none e]; exact h
  | some l => rw [charL_some e]; exact tailL_rest _ _ h.tl.1
theorem rng_len {b : Int} {l : List (Int × Int)} (h : rng b = some l) : l.length ≤ 3 := by
 unfold rng at h
 repeat' split at h
 all_goals first | (cases h; done) | (injection h with h; subst h; simp)
theorem rchar_ok {r : trellisref25_Reader} (he : r.e = 0) (hs : r.s.size ≤ 2 ^ 48) {t : List Int} (hr : Rest r.s t) (hne : t ≠ []) : trellisref25_Reader_char r (plc r.s t : Int) ((plc r.s (charL t).2 : Int), rdE r (charL t).1 (plc r.s (charL t).2)) := by
 cases t with
 | nil => exact absurd rfl hne
 | cons x t =>
  obtain ⟨hb, hlt⟩ := hr.bt
  unfold trellisref25_Reader_char
  refine ⟨by omega, _, rng_ok _, ?_⟩
  rw [hb]
  cases h : rng x with
  | none =>
   rw [charL_none h]
   dsimp only
   rw [if_neg (by simp)]
   refine ⟨((plc r.s (x :: t) : Int), rdE r false (plc r.s (x :: t))), ?_, rfl⟩
   unfold trellisref25_Reader_stop
   rw [if_pos he]
   rfl
  | some l =>
   rw [charL_some h]
   dsimp only
   rw [if_pos rfl]
   obtain ⟨hr2, hp2⟩ := hr.tl
   have hl := rng_len h
   have := rtail_ok he hs true l [] t (by simp only [List.length_nil]; omega) hr2
   rw [hp2] at this
   rw [w64_nat (by omega)]
   exact this
end Go.Proofs.YtmfopcbjgbphaaaDoor.L
