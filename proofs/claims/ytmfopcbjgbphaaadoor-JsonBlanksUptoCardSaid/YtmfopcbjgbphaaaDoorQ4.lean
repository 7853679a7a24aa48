/- JSON: the program's and the document's Shaped. Condition: sizes. -/
import Derived.Test.YtmfopcbjgbphaaaDoorQ3
set_option linter.unusedVariables false
namespace Go.Proofs.YtmfopcbjgbphaaaDoor.L
open Go.Proofs.YtmfopcbjgbphaaaDoor.B Go.Proofs.YtmfopcbjgbphaaaDoor.R
def Asc (s : ByteArray) (a b : Nat) : Prop := ∀ i, a ≤ i → i < b → bt s (i : Int) < 128
theorem Asc.nil (s : ByteArray) (a : Nat) : Asc s a a := fun i h k => by omega
theorem Asc.app {s : ByteArray} {a b c : Nat} (h : Asc s a b) (k : Asc s b c) : Asc s a c := fun i h1 h2 => by
 rcases Nat.lt_or_ge i b with g | g
 ·exact h i h1 g
 ·exact k i g h2
def low (l : ByteArray) : Bool := (bsOf l).all fun x => decide (x < 128)
theorem Asc.is {s l : ByteArray} {a : Nat} (hl : low l = true) (h : isF s l a = true) : Asc s a (a + 1) := fun i h1 h2 => by
 obtain rfl : i = a := by omega
 unfold isF at h
 rw [Bool.and_eq_true, List.contains_iff_mem] at h
 have := List.all_eq_true.1 hl _ h.2
 simpa using this
theorem Asc.skip {s l : ByteArray} (hl : low l = true) : ∀ (f a : Nat), Asc s a (skipF s l f a)
 | 0, a => Asc.nil s a
 | f + 1, a => by
  unfold skipF
  by_cases h : isF s l a = true
  ·rw [if_pos h]; exact (Asc.is hl h).app (Asc.skip hl f (a + 1))
  ·rw [if_neg h]; exact Asc.nil s a
theorem Asc.dig (s : ByteArray) (a : Nat) : Asc s a (digF s a) := by
 unfold digF
 by_cases h : isF s dgs a = true
 ·rw [if_pos h]; exact (Asc.is (by decide) h).app (Asc.skip (by decide) _ _)
 ·rw [if_neg h]; exact Asc.nil s a
theorem Asc.exp (s : ByteArray) (a : Nat) : Asc s a (expF s a).2 := by
 unfold expF
 by_cases h : isF s ⟨#[101, 69]⟩ a = true
 ·rw [if_pos h]
  dsimp only
  by_cases g : isF s ⟨#[43, 45]⟩ (a + 1) = true
  ·rw [if_pos g]; exact ((Asc.is (by decide) h).app (Asc.is (by decide) g)).app (Asc.dig s _)
  ·rw [if_neg g]; exact (Asc.is (by decide) h).app (Asc.dig s _)
 ·rw [if_neg h]; exact Asc.nil s a
theorem Asc.frac (s : ByteArray) (a : Nat) : Asc s a (fracF s a).2 := by
 unfold fracF
 by_cases h : isF s ⟨#[46]⟩ a = true
 ·rw [if_pos h]
  by_cases g : isF s dgs (a + 1) = true
  ·rw [if_pos g]; exact ((Asc.is (by decide) h).app (Asc.dig s _)).app (Asc.exp s _)
  ·rw [if_neg g]; exact Asc.is (by decide) h
 ·rw [if_neg h]; exact Asc.exp s a
theorem Asc.int (s : ByteArray) (a : Nat) : Asc s a (intF s a).2 := by
 unfold intF
 by_cases h : isF s ⟨#[48]⟩ a = true
 ·rw [if_pos h]; exact (Asc.is (by decide) h).app (Asc.frac s _)
 ·rw [if_neg h]
  by_cases g : isF s dgs a = true
  ·rw [if_pos g]; exact (Asc.dig s _).app (Asc.frac s _)
  ·rw [if_neg g]; exact Asc.nil s a
theorem Asc.num (s : ByteArray) (a : Nat) : Asc s a (numF s a).2 := by
 unfold numF
 by_cases h : isF s ⟨#[45]⟩ a = true
 ·rw [if_pos h]; exact (Asc.is (by decide) h).app (Asc.int s _)
 ·rw [if_neg h]; exact Asc.int s a
theorem valid_low : ∀ (f : Nat) (t : List Int), (∀ x ∈ t, x < 128) → validL f t = true
 | 0, t, _ => rfl
 | f + 1, [], _ => rfl
 | f + 1, x :: t, h => by
  rw [validL_cons, charL_some (l := []) (by unfold rng; rw [if_pos (h x (List.mem_cons_self ..))])]
  exact valid_low f t fun y hy => h y (List.mem_cons_of_mem _ hy)
theorem num_valid {s : ByteArray} (h : numB s = true) : validB s = true := by
 unfold numB at h
 rw [Bool.and_eq_true, beq_iff_eq] at h
 refine valid_low _ _ fun x hx => ?_
 obtain ⟨i, hi, rfl⟩ := List.getElem_of_mem hx
 have hl := hi
 rw [bsOf_len] at hl
 rw [← bt_ix hl]
 exact Asc.num s 0 i (Nat.zero_le _) (by omega)
theorem num_empty : numB ⟨#[]⟩ = false := by decide
theorem valid_empty : validB ⟨#[]⟩ = true := rfl
theorem jsound_ok {x : JNd} (hk : x.key.size ≤ 2 ^ 48) (ht : x.text.size ≤ 2 ^ 48) : json_sound x (sndB x) := by
 unfold json_sound
 by_cases h1 : x.kids < 0
 ·rw [if_pos h1]
  unfold json_sound_j1
  rw [if_pos rfl]
  unfold sndB
  rw [decide_eq_true h1]
  simp
 rw [if_neg h1]
 refine ⟨validB x.key, ⟨by omega, validB_D _⟩, ?_⟩
 unfold json_sound_j1
 by_cases h2 : validB x.key = true
 ·rw [h2, if_neg (by simp)]
  have j2 : x.kind = 6 ∨ x.kind = 7 → json_sound_j2 x true (sndB x) := fun g => by
   unfold json_sound_j2
   rw [if_pos rfl, seqd]
   unfold sndB
   rw [h2, decide_eq_false h1, decide_eq_true (show 1 ≤ x.kind by omega), decide_eq_true (show x.kind ≤ 7 by omega), show isMany x = true by rcases g with g | g <;> simp [isMany, g], if_neg (by omega), decide_eq_false (show ¬ x.kind = 5 by omega)]
   by_cases e : x.text = ⟨#[]⟩
   ·rw [decide_eq_true e, e, valid_empty]; rfl
   ·rw [decide_eq_false e]; simp
  by_cases h6 : x.kind = 6
  ·rw [if_pos h6, show (x.kind == 6) = true by rw [h6]; rfl]
   exact j2 (.inl h6)
  rw [if_neg h6]
  by_cases h7 : x.kind = 7
  ·rw [show (x.kind == 7) = true by rw [h7]; rfl]
   exact j2 (.inr h7)
  rw [show (x.kind == 7) = false from beq_eq_false_iff_ne.2 h7]
  have hm : isMany x = false := by rw [isMany, decide_eq_false h6, decide_eq_false h7]; rfl
  unfold json_sound_j2
  rw [if_neg (by simp)]
  unfold sndB
  rw [h2, decide_eq_false h1, hm]
  by_cases h4 : x.kind = 4
  ·rw [if_pos h4, if_pos h4, decide_eq_true (show 1 ≤ x.kind by omega), decide_eq_true (show x.kind ≤ 7 by omega)]
   by_cases h0 : x.kids = 0
   ·rw [if_pos h0, decide_eq_true h0]
    by_cases e : x.text = ⟨#[]⟩
    ·rw [if_pos e, e, num_empty]; rfl
    ·rw [if_neg e]
     refine ⟨_, number_ok (p := ⟨x.text, 0, [], 0, 0⟩) ht (a := 0) rfl (Nat.zero_le _), ?_⟩
     dsimp only
     cases hn : numB x.text with
     | true =>
      rw [num_valid hn]
      unfold numB at hn
      rw [Bool.and_eq_true] at hn
      rw [if_pos hn.1, hn.2]; rfl
     | false =>
      unfold numB at hn
      by_cases e2 : (numF x.text 0).1 = true
      ·rw [if_pos e2]
       rw [e2, Bool.true_and] at hn
       rw [hn]; simp
      ·rw [if_neg e2]; simp
   ·rw [if_neg h0, decide_eq_false h0]; simp
  ·rw [if_neg h4, if_neg h4]
   by_cases h5 : x.kind = 5
   ·rw [if_pos h5, decide_eq_true (show 1 ≤ x.kind by omega), decide_eq_true (show x.kind ≤ 7 by omega), decide_eq_true h5]
    by_cases h0 : x.kids = 0
    ·rw [if_pos h0, decide_eq_true h0]
     refine ⟨validB x.text, ⟨by omega, validB_D _⟩, ?_⟩
     cases validB x.text <;> rfl
    ·rw [if_neg h0, decide_eq_false h0]; simp
   ·rw [if_neg h5, decide_eq_false h5]
    have j3 : x.kind = 1 ∨ x.kind = 2 ∨ x.kind = 3 → json_sound_j3 x true (true && validB x.text && !false && (decide (1 ≤ x.kind) && decide (x.kind ≤ 7)) && (false || decide (x.kids = 0)) && (false || decide (x.text = ⟨#[]⟩))) := fun g => by
     unfold json_sound_j3
     rw [if_pos rfl, decide_eq_true (show 1 ≤ x.kind by omega), decide_eq_true (show x.kind ≤ 7 by omega)]
     by_cases h0 : x.kids = 0
     ·rw [if_pos h0, decide_eq_true h0, seqd]
      by_cases e : x.text = ⟨#[]⟩
      ·rw [decide_eq_true e, e, valid_empty]; rfl
      ·rw [decide_eq_false e]; simp
     ·rw [if_neg h0, decide_eq_false h0]; simp
    by_cases k1 : x.kind = 1
    ·rw [if_pos k1, show (x.kind == 1) = true by rw [k1]; rfl]
     exact j3 (.inl k1)
    rw [if_neg k1]
    by_cases k2 : x.kind = 2
    ·rw [if_pos k2, show (x.kind == 2) = true by rw [k2]; rfl]
     exact j3 (.inr (.inl k2))
    rw [if_neg k2]
    by_cases k3 : x.kind = 3
    ·rw [show (x.kind == 3) = true by rw [k3]; rfl]
     exact j3 (.inr (.inr k3))
    rw [show (x.kind == 3) = false from beq_eq_false_iff_ne.2 k3]
    unfold json_sound_j3
    rw [if_neg (by simp)]
    have : (decide (1 ≤ x.kind) && decide (x.kind ≤ 7)) = false := by
     by_cases g : 1 ≤ x.kind
     ·rw [decide_eq_false (show ¬ x.kind ≤ 7 by omega)]; simp
     ·rw [decide_eq_false g]; rfl
    rw [this]
    simp
 ·rw [Bool.not_eq_true] at h2
  rw [h2, if_pos (show (!false) = true from rfl)]
  unfold sndB
  rw [h2]; rfl
theorem snd_kids {x : JNd} (h : sndB x = true) : 0 ≤ x.kids ∧ (isMany x = false → x.kids = 0) := by
 unfold sndB at h
 simp only [Bool.and_eq_true, Bool.or_eq_true, decide_eq_true_eq, Bool.not_eq_true', decide_eq_false_iff_not] at h
 obtain ⟨⟨⟨⟨⟨h1, h2⟩, h3⟩, h4⟩, h5⟩, h6⟩ := h
 refine ⟨by omega, fun hm => ?_⟩
 rcases h5 with h5 | h5
 ·simp only [isMany, Bool.or_eq_false_iff, decide_eq_false_iff_not] at hm; omega
 ·exact h5
theorem subs_len {snd : JNd → Bool} (hs : ∀ x, snd x = true → 0 ≤ x.kids ∧ (isMany x = false → x.kids = 0)) {n : Nat} {l r : List JNd} {c d : Nat} {key : Bool} {seen : List ByteArray} (h : subs snd n l c d key seen = some r) : r.length ≤ l.length ∧ l.length - r.length ≥ c ∧ r = l.drop (l.length - r.length) := by
 obtain ⟨f, f1, f2, f3, _, _⟩ := subs_ok hs n l r c d key seen h
 have := cnt_le f
 have e := congrArg List.length f3
 rw [List.length_append] at e
 refine ⟨by omega, by omega, ?_⟩
 rw [show l.length - r.length = (flat f).length by omega, f3, List.drop_left]
theorem subs_fuel {snd : JNd → Bool} (hs : ∀ x, snd x = true → 0 ≤ x.kids ∧ (isMany x = false → x.kids = 0)) {n m : Nat} {l : List JNd} {c d : Nat} {key : Bool} {seen : List ByteArray} (hn : l.length < n) (hm : l.length < m) : subs snd n l c d key seen = subs snd m l c d key seen := by
 have one : ∀ {n m : Nat}, l.length < n → l.length < m → ∀ r, subs snd n l c d key seen = some r → subs snd m l c d key seen = some r := by
  intro n m hn hm r h
  obtain ⟨f, f1, f2, f3, f4, f5⟩ := subs_ok hs n l r c d key seen h
  rw [f3] at hm ⊢
  rw [List.length_append] at hm
  exact subs_of hs f m r d c key seen f1 f2 (by omega) f4 f5
 cases h1 : subs snd n l c d key seen with
 | some r => exact (one hn hm r h1).symm
 | none => cases h2 : subs snd m l c d key seen with
  | some r => rw [one hm hn r h2] at h1; cases h1
  | none => rfl
def shp (l : List JNd) (c d : Nat) (key : Bool) (seen : List ByteArray) : Option (List JNd) := subs sndB (l.length + 1) l c d key seen
theorem shp_zero (l : List JNd) (d : Nat) (key : Bool) (seen : List ByteArray) : shp l 0 d key seen = some l := rfl
theorem shp_nil (c d : Nat) (key : Bool) (seen : List ByteArray) : shp [] (c + 1) d key seen = none := rfl
theorem shp_cons (x : JNd) (xs : List JNd) (c d : Nat) (key : Bool) (seen : List ByteArray) : shp (x :: xs) (c + 1) d key seen = if (sndB x && (key || decide (x.key = ⟨#[]⟩))) = true then
   match (if isMany x = true then (if d < 64 then shp xs x.kids.toNat (d + 1) (isObj x) [] else none) else some xs) with
   | none => none
   | some r => if (key && inK x.key seen) = true then none else shp r c d key (x.key :: seen)
  else none := by
 show subs sndB (xs.length + 1 + 1) (x :: xs) (c + 1) d key seen = _
 rw [subs]
 by_cases h : (sndB x && (key || decide (x.key = ⟨#[]⟩))) = true
 ·rw [if_pos h, if_pos h]
  show (match (if isMany x = true then (if d < 64 then shp xs x.kids.toNat (d + 1) (isObj x) [] else none) else some xs) with
   | none => none
   | some r => if (key && inK x.key seen) = true then none else subs sndB (xs.length + 1) r c d key (x.key :: seen)) = _
  generalize hq : (if isMany x = true then (if d < 64 then shp xs x.kids.toNat (d + 1) (isObj x) [] else none) else some xs) = q
  cases q with
  | none => rfl
  | some r =>
   dsimp only
   have hl : r.length ≤ xs.length := by
    by_cases g : isMany x = true
    ·rw [if_pos g] at hq
     by_cases g2 : d < 64
     ·rw [if_pos g2] at hq; exact (subs_len (fun _ => snd_kids) hq).1
     ·rw [if_neg g2] at hq; cases hq
    ·rw [if_neg g] at hq; injection hq with hq; rw [hq]; exact Nat.le_refl _
   rw [show shp r c d key (x.key :: seen) = subs sndB (xs.length + 1) r c d key (x.key :: seen) from subs_fuel (fun _ => snd_kids) (by omega) (by omega)]
 ·rw [if_neg h, if_neg h]
theorem shp_one (x : JNd) (xs : List JNd) (d : Nat) (key : Bool) : shp (x :: xs) 1 d key [] = if (sndB x && (key || decide (x.key = ⟨#[]⟩))) = true then (if isMany x = true then (if d < 64 then shp xs x.kids.toNat (d + 1) (isObj x) [] else none) else some xs) else none := by
 rw [shp_cons]
 by_cases h : (sndB x && (key || decide (x.key = ⟨#[]⟩))) = true
 ·rw [if_pos h, if_pos h]
  generalize (if isMany x = true then (if d < 64 then shp xs x.kids.toNat (d + 1) (isObj x) [] else none) else some xs) = q
  cases q with
  | none => rfl
  | some r =>
   dsimp only
   rw [show (key && inK x.key []) = false by cases key <;> rfl, if_neg (by simp), shp_zero]
 ·rw [if_neg h, if_neg h]
theorem shp_step (x : JNd) (xs : List JNd) (c d : Nat) (key : Bool) (seen : List ByteArray) : shp (x :: xs) (c + 1) d key seen = match shp (x :: xs) 1 d key [] with
   | none => none
   | some r => if (key && inK x.key seen) = true then none else shp r c d key (x.key :: seen) := by
 rw [shp_one, shp_cons]
 by_cases h : (sndB x && (key || decide (x.key = ⟨#[]⟩))) = true
 ·rw [if_pos h, if_pos h]
 ·rw [if_neg h, if_neg h]
theorem shp_len {l r : List JNd} {c d : Nat} {key : Bool} {seen : List ByteArray} (h : shp l c d key seen = some r) : r.length ≤ l.length ∧ l.length - r.length ≥ c ∧ r = l.drop (l.length - r.length) := subs_len (fun _ => snd_kids) h
def rs (v : List JNd) : Option (List JNd) → Int
 | none => -1
 | some r => ((v.length - r.length : Nat) : Int)
theorem rs_none (v : List JNd) : rs v none = -1 := rfl
theorem rs_some (v r : List JNd) : rs v (some r) = ((v.length - r.length : Nat) : Int) := rfl
theorem rs_drop {v : List JNd} {b : Nat} (h : b ≤ v.length) : rs v (some (v.drop b)) = (b : Int) := by rw [rs_some, List.length_drop, show v.length - (v.length - b) = b by omega]
def Sz (v : List JNd) : Prop := v.length ≤ 2 ^ 42 ∧ ∀ x ∈ v, x.key.size ≤ 2 ^ 48 ∧ x.text.size ≤ 2 ^ 48
theorem drop_ix {v : List JNd} {a : Nat} (h : a < v.length) : v.drop a = ix v (a : Int) :: v.drop (a + 1) := by
 rw [List.drop_eq_getElem_cons h, ix_nat h]
section
variable {v : List JNd}
theorem jsub_loop (hv : Sz v) {n a d : Nat} (hd : d < 64) (hrc : ∀ b : Nat, a < b → b ≤ v.length → ∀ key, json_subtree_n n v (b : Int) ((d + 1 : Nat) : Int) key (rs v (shp (v.drop b) 1 (d + 1) key []))) (hk : 0 ≤ (ix v (a : Int)).kids) : ∀ (m b i c : Nat) (keys : ByteArray → Int) (seen : List ByteArray), v.length - b < m → a < b → b ≤ v.length → i ≤ b → ((i + c : Nat) : Int) = (ix v (a : Int)).kids → (∀ k, keys k = if inK k seen = true then 1 else 0) →
  Rounds (fun (s : Int × Int × (ByteArray → Int)) o => json_subtree_b3 v (a : Int) (json_subtree_n n) (d : Int) s.1 s.2.1 s.2.2 o) ((b : Int), (i : Int), (if ((ix v (a : Int)).kind == 7) = true then keys else fun _ => 0)) (rs v (shp (v.drop b) c (d + 1) ((ix v (a : Int)).kind == 7) seen))
 | 0, b, i, c, keys, seen, hm, hab, hb, hi, hc, hks => absurd hm (Nat.not_lt_zero _)
 | m + 1, b, i, 0, keys, seen, hm, hab, hb, hi, hc, hks => by
  refine .done ?_
  show json_subtree_b3 v (a : Int) (json_subtree_n n) (d : Int) (b : Int) (i : Int) _ _
  unfold json_subtree_b3
  rw [if_neg (by omega), shp_zero, rs_drop hb]
 | m + 1, b, i, c + 1, keys, seen, hm, hab, hb, hi, hc, hks => by
  have hrcb := hrc b hab hb ((ix v (a : Int)).kind == 7)
  have hv1 := hv.1
  have go : ∀ o ks, (∃ r75 : Int, (json_subtree_n n v (b : Int) ((d + 1 : Nat) : Int) ((ix v (a : Int)).kind == 7) r75) ∧ if r75 < 0 then o = .inr (-1) else if (ix v (a : Int)).kind = 7 then (0 ≤ (b : Int) ∧ (b : Int) < (v.length : Int)) ∧ if ks ((ix v (b : Int)).key) > 0 then o = .inr (-1) else o = .inl (r75, w64 ((i : Int) + 1), (updM ks ((ix v (b : Int)).key) 1)) else o = .inl (r75, w64 ((i : Int) + 1), ks)) → json_subtree_b3 v (a : Int) (json_subtree_n n) (d : Int) (b : Int) (i : Int) ks o := fun o ks h => by
   unfold json_subtree_b3
   rw [if_pos (by omega), w64_nat (by omega)]
   exact h
  by_cases hbl : b < v.length
  ·rw [drop_ix hbl] at hrcb ⊢
   rw [shp_step]
   cases hsh : shp (ix v (b : Int) :: v.drop (b + 1)) 1 (d + 1) ((ix v (a : Int)).kind == 7) [] with
   | none =>
    rw [hsh] at hrcb
    refine .done (go _ _ ⟨_, hrcb, ?_⟩)
    rw [if_pos (by rw [rs_none]; omega)]
    rfl
   | some r =>
    rw [hsh] at hrcb
    obtain ⟨l1, l2, l3⟩ := shp_len hsh
    simp only [List.length_cons, List.length_drop] at l1 l2 l3
    have hr : r = v.drop (v.length - r.length) := by
     rw [l3, ← drop_ix hbl, List.drop_drop]
     congr 1
     rw [List.length_drop]
     omega
    have hrs : rs v (some r) = ((v.length - r.length : Nat) : Int) := rfl
    dsimp only
    by_cases h7 : (ix v (a : Int)).kind = 7
    ·rw [show ((ix v (a : Int)).kind == 7) = true by rw [h7]; rfl]
     rw [Bool.true_and, if_pos rfl]
     by_cases hin : inK (ix v (b : Int)).key seen = true
     ·rw [if_pos hin]
      refine .done (go _ _ ⟨_, hrcb, ?_⟩)
      rw [if_neg (by rw [hrs]; omega), if_pos h7]
      refine ⟨by omega, ?_⟩
      rw [if_pos (by dsimp only; rw [hks, if_pos hin]; omega)]
      rfl
     ·rw [if_neg hin]
      have ih := jsub_loop hv hd hrc hk m (v.length - r.length) (i + 1) c (updM keys ((ix v (b : Int)).key) 1) ((ix v (b : Int)).key :: seen) (by omega) (by omega) (by omega) (by omega) (by omega) (fun k => by
       unfold updM inK
       rw [List.any_cons]
       by_cases g : k = (ix v (b : Int)).key
       ·rw [if_pos g, decide_eq_true g]; rfl
       ·rw [if_neg g, decide_eq_false g, Bool.false_or, hks]; rfl)
      rw [← hr, show ((ix v (a : Int)).kind == 7) = true by rw [h7]; rfl, if_pos rfl] at ih
      refine .next (go _ _ ⟨_, hrcb, ?_⟩) ih
      rw [if_neg (by rw [hrs]; omega), if_pos h7]
      refine ⟨by omega, ?_⟩
      rw [if_neg (by dsimp only; rw [hks, if_neg hin]; omega), hrs, w64_nat (by omega)]
      rfl
    ·rw [show ((ix v (a : Int)).kind == 7) = false from beq_eq_false_iff_ne.2 h7]
     rw [Bool.false_and, if_neg (by simp), if_neg (by simp)]
     have ih := jsub_loop hv hd hrc hk m (v.length - r.length) (i + 1) c (fun k => if inK k ((ix v (b : Int)).key :: seen) = true then 1 else 0) ((ix v (b : Int)).key :: seen) (by omega) (by omega) (by omega) (by omega) (by omega) (fun k => rfl)
     rw [← hr, show ((ix v (a : Int)).kind == 7) = false from beq_eq_false_iff_ne.2 h7, if_neg (by simp)] at ih
     refine .next (go _ _ ⟨_, hrcb, ?_⟩) ih
     rw [if_neg (by rw [hrs]; omega), if_neg h7, hrs, w64_nat (by omega)]
     rfl
  ·have hnil : v.drop b = [] := List.drop_eq_nil_of_le (by omega)
   rw [hnil] at hrcb ⊢
   rw [shp_nil] at hrcb ⊢
   refine .done (go _ _ ⟨_, hrcb, ?_⟩)
   rw [if_pos (by rw [rs_none]; omega)]
   rfl
theorem jsub_ok (hv : Sz v) : ∀ (n a d : Nat) (key : Bool), v.length - a < n → a ≤ v.length → d ≤ 64 → json_subtree_n n v (a : Int) (d : Int) key (rs v (shp (v.drop a) 1 d key []))
 | 0, a, d, key, hn, ha, hd => absurd hn (Nat.not_lt_zero _)
 | n + 1, a, d, key, hn, ha, hd => by
  show json_subtree_body (json_subtree_n n) v (a : Int) (d : Int) key _
  unfold json_subtree_body
  have hv1 := hv.1
  have no : ∀ r : Int, r = -1 → json_subtree_j1 (a : Int) v (d : Int) (json_subtree_n n) true r := fun r h => by
   unfold json_subtree_j1
   rw [if_pos rfl]
   exact h
  by_cases hal : a < v.length
  ·rw [if_neg (by omega)]
   refine ⟨by omega, ?_⟩
   have hx := hv.2 (ix v (a : Int)) (by rw [ix_nat hal]; exact List.getElem_mem _)
   refine ⟨_, jsound_ok hx.1 hx.2, ?_⟩
   rw [drop_ix hal, shp_one]
   have hmain : sndB (ix v (a : Int)) = true → json_subtree_j1 (a : Int) v (d : Int) (json_subtree_n n) false (rs v (if isMany (ix v (a : Int)) = true then (if d < 64 then shp (v.drop (a + 1)) (ix v (a : Int)).kids.toNat (d + 1) (isObj (ix v (a : Int))) [] else none) else some (v.drop (a + 1)))) := by
    intro hs
    obtain ⟨hk0, _⟩ := snd_kids hs
    unfold json_subtree_j1
    rw [if_neg (by simp)]
    refine ⟨by omega, ?_⟩
    have hmany : isMany (ix v (a : Int)) = true → json_subtree_j2 (a : Int) (d : Int) v (json_subtree_n n) false (rs v (if isMany (ix v (a : Int)) = true then (if d < 64 then shp (v.drop (a + 1)) (ix v (a : Int)).kids.toNat (d + 1) (isObj (ix v (a : Int))) [] else none) else some (v.drop (a + 1)))) := by
     intro hm
     unfold json_subtree_j2
     rw [if_neg (by simp), if_pos hm]
     by_cases hd2 : d < 64
     ·rw [if_neg (by omega), if_pos hd2]
      have := jsub_loop hv hd2 (n := n) (a := a) (fun b h1 h2 key => jsub_ok hv n b (d + 1) key (by omega) h2 (by omega)) hk0 (v.length + 1) (a + 1) 0 (ix v (a : Int)).kids.toNat (fun _ => 0) [] (by omega) (by omega) (by omega) (by omega) (by omega) (fun k => rfl)
      rw [w64_nat (by omega)]
      rw [show (if ((ix v (a : Int)).kind == 7) = true then (fun _ => 0 : ByteArray → Int) else fun _ => 0) = (fun _ => 0) by split <;> rfl] at this
      exact this
     ·rw [if_pos (by omega), if_neg hd2]
      rfl
    by_cases h6 : (ix v (a : Int)).kind = 6
    ·rw [if_pos h6]
     exact hmany (by rw [isMany, decide_eq_true h6]; rfl)
    rw [if_neg h6]
    by_cases h7 : (ix v (a : Int)).kind = 7
    ·rw [show ((ix v (a : Int)).kind != 7) = false by rw [h7]; rfl]
     exact hmany (by rw [isMany, decide_eq_true h7]; simp)
    ·rw [show ((ix v (a : Int)).kind != 7) = true from bne_iff_ne.2 h7]
     unfold json_subtree_j2
     rw [if_pos rfl, if_neg (by rw [isMany, decide_eq_false h6, decide_eq_false h7]; simp), w64_nat (by omega)]
     rw [rs_drop (by omega)]
     rfl
   by_cases hs : sndB (ix v (a : Int)) = true
   ·rw [if_pos hs, hs, Bool.true_and]
    cases key with
    | true =>
     rw [if_pos rfl, Bool.true_or, if_pos rfl]
     exact hmain hs
    | false =>
     rw [if_neg (by simp), Bool.false_or, seqd]
     by_cases hk : (ix v (a : Int)).key = ⟨#[]⟩
     ·rw [decide_eq_true hk, if_pos rfl]
      exact hmain hs
     ·rw [decide_eq_false hk, if_neg (by simp)]
      exact no _ rfl
   ·rw [if_neg hs, if_neg (by rw [Bool.and_eq_true]; exact fun h => hs h.1)]
    exact no _ rfl
  ·rw [if_pos (by omega), List.drop_eq_nil_of_le (by omega), shp_nil]
   exact no _ rfl
def shaped (v : List JNd) : Bool := match shp v 1 0 false [] with
 | some [] => true
 | _ => false
theorem jshaped_ok (hv : Sz v) : json_Shaped v (shaped v) := by
 unfold json_Shaped
 cases v with
 | nil => rfl
 | cons x xs =>
  rw [if_pos (by simp only [List.length_cons]; omega)]
  refine ⟨_, ⟨(x :: xs).length + 1, jsub_ok hv _ 0 0 false (by omega) (by omega) (by omega)⟩, ?_⟩
  rw [List.drop_zero]
  unfold shaped
  cases h : shp (x :: xs) 1 0 false [] with
  | none => rw [rs_none]; symm; rw [beq_eq_false_iff_ne]; omega
  | some r =>
   obtain ⟨l1, _, _⟩ := shp_len h
   cases r with
   | nil => rw [rs_some]; simp
   | cons y r => rw [rs_some]; symm; rw [beq_eq_false_iff_ne]; simp only [List.length_cons] at l1 ⊢; omega
theorem shaped_iff : shaped v = true ↔ ∃ x k, Fit (.cons x k .nil) ∧ v = flat (.cons x k .nil) ∧ good sndB (.cons x k .nil) 0 false = true := by
 unfold shaped
 constructor
 ·intro h
  split at h
  ·rename_i e
   obtain ⟨f, f1, f2, f3, f4, _⟩ := subs_ok (fun _ => snd_kids) _ _ _ _ _ _ _ e
   cases f with
   | nil => cases f2
   | cons x k s =>
    obtain rfl : s = .nil := cnt_nil (by simp only [cnt] at f2; omega)
    exact ⟨x, k, f1, by rw [f3, List.append_nil], f4⟩
  ·cases h
 ·rintro ⟨x, k, f1, f3, f4⟩
  have := subs_of (fun _ => snd_kids) (.cons x k .nil) (v.length + 1) [] 0 1 false [] f1 rfl (by rw [← f3]; omega) f4 (fun h => by cases h)
  rw [List.append_nil, ← f3] at this
  rw [show shp v 1 0 false [] = some [] from this]
end
end Go.Proofs.YtmfopcbjgbphaaaDoor.L
