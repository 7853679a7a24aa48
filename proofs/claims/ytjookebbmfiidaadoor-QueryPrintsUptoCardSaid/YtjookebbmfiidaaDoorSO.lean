/- The plain side of chapter 8, more: how words are spelt. No condition. -/
import Derived.Test.YtjookebbmfiidaaDoorSN
set_option linter.unusedVariables false
namespace Go.Proofs.YtjookebbmfiidaaDoor.L
open Go.Proofs.YtjookebbmfiidaaDoor.B Go.Proofs.YtjookebbmfiidaaDoor.R
def hxB : ByteArray := ⟨#[48, 49, 50, 51, 52, 53, 54, 55, 56, 57, 97, 98, 99, 100, 101, 102]⟩
def escB (c : Int) : List Int :=
 if c = 34 then [92, c] else if c = 92 then [92, c] else if c = 10 then [92, 110] else if c = 9 then [92, 116] else if c = 13 then [92, 114]
 else if c < 32 ∨ c > 126 then [92, 120, bt hxB (c / 16), bt hxB (c % 16)] else [c]
def quoteF (l : List Int) : List Int := 34 :: (l.flatMap escB ++ [34])
theorem escB_len (c : Int) : (escB c).length ≤ 4 := by
 unfold escB
 repeat' split
 all_goals simp
theorem escB_sum : ∀ l : List Int, (l.flatMap escB).length ≤ 4 * l.length
 | [] => by simp
 | c :: l => by
  have := escB_len c
  have := escB_sum l
  simp only [List.flatMap_cons, List.length_append, List.length_cons]
  omega
theorem quote_ok {s : ByteArray} (hs : s.size ≤ 1048576) : words_quote s (ofBs (quoteF (bsOf s))) := by
 have hl := bsOf_len s
 unfold words_quote
 have key := Rounds.upto (B := fun (q : (List Int) × Int) o => words_quote_b1 s q.1 q.2 o) (r := ofBs (quoteF (bsOf s))) (fun i => (34 :: ((bsOf s).take i).flatMap escB, (i : Int))) s.size (fun i hi => ?_) ?_
 ·simpa using key
 ·have hb := bt_range s i
  have h4 := escB_sum ((bsOf s).take i)
  have h5 := escB_len (bt s i)
  rw [List.length_take] at h4
  have e : (34 : Int) :: ((bsOf s).take (i + 1)).flatMap escB = (34 :: ((bsOf s).take i).flatMap escB) ++ escB (bt s i) := by
   rw [List.take_succ_eq_append_getElem (by omega), List.flatMap_append, ← bt_ix hi]
   simp
  show words_quote_b1 s _ (i : Int) (.inl (34 :: ((bsOf s).take (i + 1)).flatMap escB, ((i + 1 : Nat) : Int)))
  rw [e]
  have hacc : ((34 : Int) :: ((bsOf s).take i).flatMap escB).length ≤ 4 * 1048576 + 1 := by rw [List.length_cons]; omega
  generalize (34 : Int) :: ((bsOf s).take i).flatMap escB = acc at *
  have w1 : w64 ((i : Int) + 1) = ((i + 1 : Nat) : Int) := by rw [w64_id (by omega)]; omega
  have put : ∀ x : List Int, x.length ≤ 4 → (∃ y : List Int, (y = acc ++ x) ∧ (y.length * 1 ≤ 211106232532992) ∧ (.inl (acc ++ x, ((i + 1 : Nat) : Int)) : Sum ((List Int) × Int) ByteArray) = .inl (y, w64 ((i : Int) + 1))) := fun x hx => ⟨_, rfl, by simp; omega, by rw [w1]⟩
  have t1 : Int.tdiv (bt s i) 16 = bt s i / 16 := Int.tdiv_eq_ediv_of_nonneg (by omega)
  have t2 : Int.tmod (bt s i) 16 = bt s i % 16 := Int.tmod_eq_emod_of_nonneg (by omega)
  have j3t : ∀ o, (∃ y : List Int, (y = acc ++ [92, 120, bt hxB (bt s i / 16), bt hxB (bt s i % 16)]) ∧ (y.length * 1 ≤ 211106232532992) ∧ o = .inl (y, w64 ((i : Int) + 1))) → words_quote_j3 s i acc true o := fun o h => by
   unfold words_quote_j3
   rw [if_pos rfl, t1, t2, u8_id (by omega)]
   exact ⟨by show _ ∧ _ < (16 : Int); omega, by show _ ∧ _ < (16 : Int); omega, h⟩
  have j3f : ∀ o, (∃ y : List Int, (y = acc ++ [bt s i]) ∧ (y.length * 1 ≤ 211106232532992) ∧ o = .inl (y, w64 ((i : Int) + 1))) → words_quote_j3 s i acc false o := fun o h => h
  have j2t : ∀ o, (∃ y : List Int, (y = acc ++ [92, bt s i]) ∧ (y.length * 1 ≤ 211106232532992) ∧ o = .inl (y, w64 ((i : Int) + 1))) → words_quote_j2 acc s i true o := fun o h => h
  unfold words_quote_b1
  rw [if_pos (by omega)]
  refine ⟨by omega, ?_⟩
  unfold escB
  by_cases c34 : bt s i = 34
  ·rw [if_pos c34, if_pos c34]; exact j2t _ (put _ (by simp))
  ·rw [if_neg c34, if_neg c34]
   by_cases c92 : bt s i = 92
   ·rw [if_pos c92, beq_iff_eq.2 c92]; exact j2t _ (put _ (by simp))
   ·rw [if_neg c92, beq_eq_false_iff_ne.2 c92]
    unfold words_quote_j2
    rw [if_neg (show ¬ (false = true) by simp)]
    by_cases c10 : bt s i = 10
    ·rw [if_pos c10, if_pos c10]; exact put _ (by simp)
    ·rw [if_neg c10, if_neg c10]
     by_cases c9 : bt s i = 9
     ·rw [if_pos c9, if_pos c9]; exact put _ (by simp)
     ·rw [if_neg c9, if_neg c9]
      by_cases c13 : bt s i = 13
      ·rw [if_pos c13, if_pos c13]; exact put _ (by simp)
      ·rw [if_neg c13, if_neg c13]
       by_cases c32 : bt s i < 32
       ·rw [if_pos c32, if_pos (.inl c32)]; exact j3t _ (put _ (by simp))
       ·rw [if_neg c32]
        by_cases c126 : bt s i > 126
        ·rw [decide_eq_true c126, if_pos (.inr c126)]; exact j3t _ (put _ (by simp))
        ·rw [decide_eq_false c126, if_neg (by omega)]; exact j3f _ (put _ (by simp))
 ·have h4 := escB_sum (bsOf s)
  show words_quote_b1 s (34 :: ((bsOf s).take s.size).flatMap escB) (s.size : Int) _
  rw [List.take_of_length_le (by omega)]
  unfold words_quote_b1
  rw [if_neg (by omega)]
  exact ⟨_, rfl, by simp only [List.length_append, List.length_cons, List.length_nil]; omega, by simp [quoteF]⟩

def regOk : List Int → Bool
 | [] => true
 | c :: l =>
  if c = 47 then false else if c = 10 then false
  else if c = 92 then
   match l with
   | [] => false
   | d :: r => if d = 10 then false else regOk r
  else regOk l
theorem regOk_cons (c : Int) (l : List Int) : regOk (c :: l) = if c = 47 then false else if c = 10 then false else if c = 92 then (match l with
  | [] => false
  | d :: r => if d = 10 then false else regOk r) else regOk l := by
 rw [regOk.eq_def]
def nameOk (l : List Int) : Bool := decide (1 ≤ l.length) && (decide (l.length ≤ 24) && (!(digitP (l.headD 0)) && l.all nameP))
def soundF (w : api_Word) : Bool :=
 if w.kind = 1 then nameOk (bsOf w.text) else if w.kind = 2 then true else if w.kind = 3 then regOk (bsOf w.text)
 else if w.kind = 4 then (if w.n ≥ 0 then decide (w.n ≤ 65535) else false)
 else if w.kind = 5 then (if (w.text.size : Int) = 1 then hasB signs w.text else false) else false
theorem reg_ok {w : api_Word} (hs : w.text.size ≤ 2 ^ 50) : Rounds (fun (q : Int) o => words_sound_b3 w q o) 0 (regOk (bsOf w.text)) := by
 have hl := bsOf_len w.text
 refine Rounds.to (fun q : Int => 0 ≤ q ∧ q ≤ (w.text.size : Int) ∧ regOk ((bsOf w.text).drop q.toNat) = regOk (bsOf w.text)) (fun q => ((w.text.size : Int) - q).toNat) (fun q hq => ?_) ⟨by omega, by omega, by simp⟩
 obtain ⟨h0, h1, h3⟩ := hq
 obtain ⟨k, rfl⟩ : ∃ k : Nat, q = k := ⟨q.toNat, by omega⟩
 rw [Int.toNat_natCast] at h3
 have w1 : w64 ((k : Int) + 1) = ((k + 1 : Nat) : Int) := by rw [w64_id (by omega)]; omega
 have w2 : w64 (((k + 1 : Nat) : Int) + 1) = ((k + 2 : Nat) : Int) := by rw [w64_id (by omega)]; omega
 by_cases hk : k < w.text.size
 ·rw [dropB hk, regOk_cons] at h3
  have red : ∀ o, (if bt w.text k = 47 then words_sound_j4 w k true o else words_sound_j4 w k (bt w.text k == 10) o) → words_sound_b3 w k o := fun o h => by
   unfold words_sound_b3
   rw [if_pos (by omega)]
   refine ⟨by omega, ?_⟩
   by_cases c47 : bt w.text k = 47
   ·rw [if_pos c47] at h ⊢; rw [beq_iff_eq.2 c47]; exact h
   ·rw [if_neg c47] at h ⊢; exact h
  have jt : ∀ o, o = .inr false → words_sound_j4 w k true o := fun o h => h
  have jf : ∀ o, (if bt w.text k = 92 then
    if ((k + 1 : Nat) : Int) = (w.text.size : Int) then o = .inr false else
     (0 ≤ ((k + 1 : Nat) : Int) ∧ ((k + 1 : Nat) : Int) < (w.text.size : Int)) ∧ if bt w.text ((k + 1 : Nat) : Int) = 10 then o = .inr false else o = .inl ((k + 2 : Nat) : Int)
   else o = .inl ((k + 1 : Nat) : Int)) → words_sound_j4 w k false o := fun o h => by
   unfold words_sound_j4
   rw [if_neg (show ¬ (false = true) by simp), w1, w2]
   exact h
  by_cases c47 : bt w.text k = 47
  ·left
   rw [if_pos c47] at h3
   refine red _ ?_
   rw [if_pos c47]
   exact jt _ (by rw [h3])
  ·rw [if_neg c47] at h3
   by_cases c10 : bt w.text k = 10
   ·left
    rw [if_pos c10] at h3
    refine red _ ?_
    rw [if_neg c47, beq_iff_eq.2 c10]
    exact jt _ (by rw [h3])
   ·rw [if_neg c10] at h3
    have red2 : ∀ o, words_sound_j4 w k false o → words_sound_b3 w k o := fun o h => red o (by rw [if_neg c47, beq_eq_false_iff_ne.2 c10]; exact h)
    by_cases c92 : bt w.text k = 92
    ·rw [if_pos c92] at h3
     by_cases hk1 : k + 1 < w.text.size
     ·rw [dropB hk1] at h3
      simp only at h3
      by_cases d10 : bt w.text ((k + 1 : Nat) : Int) = 10
      ·left
       rw [if_pos d10] at h3
       refine red2 _ (jf _ ?_)
       rw [if_pos c92, if_neg (by omega), if_pos d10, h3]
       exact ⟨by omega, rfl⟩
      ·right
       rw [if_neg d10] at h3
       refine ⟨((k + 2 : Nat) : Int), red2 _ (jf _ ?_), ⟨by omega, by omega, by rw [Int.toNat_natCast]; exact h3⟩, by omega⟩
       rw [if_pos c92, if_neg (by omega), if_neg d10]
       exact ⟨by omega, rfl⟩
     ·left
      rw [List.drop_eq_nil_of_le (by omega)] at h3
      refine red2 _ (jf _ ?_)
      rw [if_pos c92, if_pos (by omega), ← h3]
    ·right
     rw [if_neg c92] at h3
     refine ⟨((k + 1 : Nat) : Int), red2 _ (jf _ ?_), ⟨by omega, by omega, by rw [Int.toNat_natCast]; exact h3⟩, by omega⟩
     rw [if_neg c92]
 ·left
  unfold words_sound_b3
  rw [if_neg (by omega), ← h3, List.drop_eq_nil_of_le (by omega)]
  rfl
theorem name_ok {w : api_Word} (hs : w.text.size ≤ 2 ^ 50) : Rounds (fun (q : Int) o => words_sound_b2 w q o) 0 ((bsOf w.text).all nameP) := by
 have hl := bsOf_len w.text
 refine Rounds.all (bsOf w.text) nameP (fun i hi hp => ?_) (fun i hi hp => ?_) ?_ <;> unfold words_sound_b2
 ·rw [← bt_ix (by omega)] at hp
  rw [if_pos (by omega), w64_nat (by omega)]
  refine ⟨by omega, _, letter_ok _, ?_⟩
  by_cases g : letterP (bt w.text (i : Int)) = true
  ·rw [if_pos g]
  ·rw [if_neg g]
   refine ⟨_, digit_ok _, ?_⟩
   rw [nameP, Bool.or_eq_true] at hp
   rw [if_pos (hp.resolve_left g)]
 ·rw [← bt_ix (by omega), nameP, Bool.or_eq_false_iff] at hp
  rw [if_pos (by omega)]
  refine ⟨by omega, _, letter_ok _, ?_⟩
  rw [if_neg (by rw [hp.1]; simp)]
  refine ⟨_, digit_ok _, ?_⟩
  rw [if_neg (by rw [hp.2]; simp)]
 ·rw [if_neg (by omega)]
theorem sound_ok {w : api_Word} (hs : w.text.size ≤ 2 ^ 50) : words_sound w (soundF w) := by
 have hl := bsOf_len w.text
 unfold words_sound soundF
 by_cases k1 : w.kind = 1
 ·rw [if_pos k1, if_pos k1]
  have jt : ∀ r, r = false → words_sound_j1 w true r := fun r h => h
  have jf : ∀ r, Rounds (fun (q : Int) o => words_sound_b2 w q o) 0 r → words_sound_j1 w false r := fun r h => h
  unfold nameOk
  by_cases e0 : w.text = (⟨#[]⟩ : ByteArray)
  ·rw [if_pos e0]
   refine jt _ ?_
   rw [e0]; rfl
  ·rw [if_neg e0]
   have hp : 1 ≤ w.text.size := by
    rcases Nat.eq_zero_or_pos w.text.size with h | h
    ·exact absurd (bs_inj (by rw [List.eq_nil_of_length_eq_zero (by omega : (bsOf w.text).length = 0)]; rfl)) e0
    ·exact h
   rw [decide_eq_true (by omega : 1 ≤ (bsOf w.text).length), Bool.true_and]
   by_cases h24 : (w.text.size : Int) > 24
   ·rw [if_pos h24, decide_eq_false (by omega), Bool.false_and]
    exact jt _ rfl
   ·rw [if_neg h24, decide_eq_true (by omega), Bool.true_and]
    refine ⟨by omega, _, digit_ok _, ?_⟩
    have hh : (bsOf w.text).headD 0 = bt w.text 0 := by
     have := dropB (s := w.text) (i := 0) (by omega)
     rw [List.drop_zero] at this
     rw [this]; rfl
    rw [hh]
    cases digitP (bt w.text 0) with
    | true => exact jt _ rfl
    | false => rw [Bool.not_false, Bool.true_and]; exact jf _ (name_ok hs)
 ·rw [if_neg k1, if_neg k1]
  by_cases k2 : w.kind = 2
  ·rw [if_pos k2, if_pos k2]
  ·rw [if_neg k2, if_neg k2]
   by_cases k3 : w.kind = 3
   ·rw [if_pos k3, if_pos k3]; exact reg_ok hs
   ·rw [if_neg k3, if_neg k3]
    by_cases k4 : w.kind = 4
    ·rw [if_pos k4, if_pos k4]
     split
     ·rfl
     ·rfl
    ·rw [if_neg k4, if_neg k4]
     by_cases k5 : w.kind = 5
     ·rw [if_pos k5, if_pos k5]
      by_cases h1 : (w.text.size : Int) = 1
      ·rw [if_pos h1, if_pos h1]
       exact ⟨_, ⟨by omega, rfl⟩, rfl⟩
      ·rw [if_neg h1, if_neg h1]
     ·rw [if_neg k5, if_neg k5]
def spellF (w : api_Word) : ByteArray :=
 if soundF w = true then
  if w.kind = 2 then ofBs (quoteF (bsOf w.text)) else if w.kind = 3 then ((⟨#[47]⟩ : ByteArray) ++ w.text) ++ (⟨#[47]⟩ : ByteArray)
  else if w.kind = 4 then itoaB w.n else w.text
 else ⟨#[]⟩
theorem spell_ok {w : api_Word} (hs : w.text.size ≤ 1048576) (hn : -9223372036854775808 ≤ w.n ∧ w.n ≤ 9223372036854775807) : words_Spell w (spellF w) := by
 unfold words_Spell spellF
 refine ⟨_, sound_ok (by omega), ?_⟩
 by_cases h : soundF w = true
 ·rw [if_pos h, if_pos h]
  by_cases k2 : w.kind = 2
  ·rw [if_pos k2, if_pos k2]; exact ⟨_, quote_ok hs, rfl⟩
  ·rw [if_neg k2, if_neg k2]
   have a1 : (⟨#[47]⟩ : ByteArray).size = 1 := rfl
   by_cases k3 : w.kind = 3
   ·rw [if_pos k3, if_pos k3]
    exact ⟨by rw [a1]; omega, by simp only [ByteArray.size_append, a1]; omega, rfl⟩
   ·rw [if_neg k3, if_neg k3]
    by_cases k4 : w.kind = 4
    ·rw [if_pos k4, if_pos k4]; exact ⟨_, ⟨hn, rfl⟩, rfl⟩
    ·rw [if_neg k4, if_neg k4]
 ·rw [if_neg h, if_neg h]
end Go.Proofs.YtjookebbmfiidaaDoor.L
