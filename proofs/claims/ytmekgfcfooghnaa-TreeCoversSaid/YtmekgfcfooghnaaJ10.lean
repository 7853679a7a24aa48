/- The law TreeWays, joined. Conditions: the list fits in memory, its numbers are ints. -/
import Derived.Test.YtmekgfcfooghnaaJ9
set_option linter.unusedVariables false
namespace Go.Proofs.Ytmekgfcfooghnaa.L
open Go.Proofs.Ytmekgfcfooghnaa.B Go.Proofs.Ytmekgfcfooghnaa.R
section
variable {t : List api_Node} {f : tree_forest} {S : List (Tre × Nat)}
theorem root_iff (hl : Fits t) (h : sf t 0 = some S) {i : Nat} (hi : i < t.length) : parF t (i : Int) = -1 ↔ ∃ j, j < S.length ∧ en 0 (S.take j) = i := by
 obtain ⟨p1, p2⟩ := par_at hl h hi
 have hA : At t 0 S := ⟨Nat.zero_le _, h⟩
 constructor
 ·intro g
  rcases row_of hl h p1 with ⟨hq, j, hR⟩ | ⟨b, ts, r, hq, _⟩
  ·exact (hR.all i).1 p2
  ·omega
 ·rintro ⟨j, hj, g⟩
  obtain ⟨mj, hmj⟩ : ∃ mj, S.length - j = mj + 1 := ⟨S.length - j - 1, by omega⟩
  exact parF_eq ⟨S, h, i, rfl, hi, PR.skip j hA (by omega) (Nat.le_refl _) (by rw [hmj, g]; exact .here)⟩
noncomputable def rcnt (t : List api_Node) : Nat → Nat
 | 0 => 0
 | n + 1 => rcnt t n + if parF t (n : Int) = -1 then 1 else 0
theorem rcnt_succ (t : List api_Node) (n : Nat) : rcnt t (n + 1) = rcnt t n + if parF t (n : Int) = -1 then 1 else 0 := rfl
theorem rcnt_le (t : List api_Node) : ∀ n, rcnt t n ≤ n
 | 0 => Nat.le_refl _
 | n + 1 => by
  have := rcnt_le t n
  unfold rcnt
  split <;> omega
theorem rcnt_at (hl : Fits t) (h : sf t 0 = some S) : ∀ (i j : Nat), i ≤ t.length → j ≤ S.length → i ≤ en 0 (S.take j) → (∀ j', j = j' + 1 → en 0 (S.take j') < i) → rcnt t i = j := by
 have hA : At t 0 S := ⟨Nat.zero_le _, h⟩
 intro i
 induction i with
 | zero =>
  intro j _ _ _ g
  match j with
  | 0 => rfl
  | j + 1 => have := g j rfl; omega
 | succ i ih =>
  intro j hi hj h1 g
  match j with
  | 0 => simp [en_nil] at h1
  | j + 1 =>
   have g := g j rfl
   unfold rcnt
   by_cases e : i = en 0 (S.take j)
   ·rw [ih j (by omega) (by omega) (by omega) (fun j' hj' => by rw [e]; exact en_lt hA (by omega) (by omega)), if_pos ((root_iff hl h (by omega)).2 ⟨j, by omega, e.symm⟩)]
   ·rw [ih (j + 1) (by omega) hj (by omega) (fun j' hj' => by have e3 : j = j' := Nat.succ.inj hj'; rw [← e3]; omega), if_neg]
    intro g2
    obtain ⟨k, hk, g3⟩ := (root_iff hl h (by omega)).1 g2
    rcases Nat.lt_trichotomy k j with g4 | g4 | g4
    ·have := en_lt hA g4 (by omega); omega
    ·subst g4; omega
    ·have := en_mono hA (j := j + 1) (k := k) (by omega) (by omega); omega
theorem rcnt_all (hl : Fits t) (h : sf t 0 = some S) : rcnt t t.length = S.length := by
 have hA : At t 0 S := ⟨Nat.zero_le _, h⟩
 refine rcnt_at hl h _ _ (Nat.le_refl _) (Nat.le_refl _) (by rw [List.take_length, hA.ens]; exact Nat.le_refl _) (fun j hj => ?_)
 have := en_lt hA (j := j) (k := S.length) (by omega) (Nat.le_refl _)
 rw [List.take_length, hA.ens] at this
 exact this
theorem kids_at (hl : Fits t) (h : sf t 0 = some S) {a : Nat} (ha : a < t.length) : ∃ ts r, At t (a + 1) (ts ++ r) ∧ kidsF t (a : Int) = ts.map (·.1.at_) ∧ en (a + 1) ts = endF t a ∧ (ts.length : Int) = (ix t (a : Int)).kids ∧ ∀ j, j < ts.length → ix (kidsF t (a : Int)) (j : Int) = (en (a + 1) (ts.take j) : Int) ∧ en (a + 1) (ts.take j) < t.length ∧ parF t (en (a + 1) (ts.take j) : Int) = (a : Int) ∧ endF t (en (a + 1) (ts.take j)) = en (a + 1) (ts.take (j + 1)) := by
 obtain ⟨r', hr⟩ := At.sub h ha
 have hr : At t a (((sub t a).1, (sub t a).2) :: r') := hr
 obtain ⟨ts, k1, k2, k3, k4, k5⟩ := hr.kids ha
 have hA : At t 0 S := ⟨Nat.zero_le _, h⟩
 obtain ⟨p1, _⟩ := par_at hl h ha
 have hk : kidsF t (a : Int) = ts.map (·.1.at_) := by
  unfold kidsF
  rw [if_pos (inB_true.2 ⟨⟨S, h⟩, by omega, by omega⟩), Int.toNat_natCast, k2, List.map_map]
  rfl
 refine ⟨ts, r', k1, hk, k3, by rw [k4, ix_nat ha], fun j hj => ?_⟩
 have hj2 : j < (ts ++ r').length := by rw [List.length_append]; omega
 have hn := (k1.nth hj2).1
 rw [List.take_append_of_le_length (by omega), List.getElem_append_left hj] at hn
 have hp := hn.pos
 refine ⟨?_, hp.1, parF_eq ⟨S, h, _, rfl, hp.1, p1.sub hr k1 k2 hj rfl hA (Nat.le_refl _)⟩, ?_⟩
 ·rw [hk, ix_nat (by rw [List.length_map]; exact hj), List.getElem_map]
  exact hp.2.1
 ·rw [end_at' hn, en_take hj]
abbrev WSt := Int × Int × (List api_Node) × (List Int) × (List Int) × Bool × Int
theorem ways_step (hl : Fits t) (hw : Wf t) (f2 : Planted t f) (h : sf t 0 = some S) {a : Nat} (ha : a < t.length) {num : Int} : ∃ p' : Int, (a + 1 < t.length → p' = ((a + 1 : Nat) : Int)) ∧
  trellislaw15_TreeWays_b3 t num (rcnt t a) (a : Int) f.nodes f.parent f.end_ f.ok (a : Int) (.inl ((rcnt t (a + 1) : Int), ((a + 1 : Nat) : Int), f.nodes, f.parent, f.end_, f.ok, p')) := by
 obtain ⟨ts, r, k1, k2, k3, k4, k5⟩ := kids_at hl h ha
 have hin : inB t (a : Int) = true := inB_true.2 ⟨⟨S, h⟩, by omega, by omega⟩
 have hlen : (kidsF t (a : Int)).length = ts.length := by rw [k2, List.length_map]
 have hts : ts.length ≤ t.length := by
  have := (sf_en _ _ k1.2).2
  rw [List.length_append, List.length_drop] at this
  omega
 have hE := end_le h ha
 have hrc := rcnt_le t a
 -- the moves
 have moves : ∀ rt : Int, ∃ p' : Int, (a + 1 < t.length → p' = ((a + 1 : Nat) : Int)) ∧ trellislaw15_TreeWays_j7 ((a : Int), ⟨f, (a : Int)⟩) (kidsF t (a : Int)) t (a : Int) rt (.inr (.inl (rt, ((a + 1 : Nat) : Int), f.nodes, f.parent, f.end_, f.ok, p'))) := fun rt => by
  have hd := down_at hl f2 h ha
  by_cases g : (ix t (a : Int)).kids > 0
  ·rw [decide_eq_true g, if_pos g] at hd
   have hlt : a + 1 < t.length := by
    obtain ⟨_, q2, _, q4⟩ := k5 0 (by omega)
    simp only [List.take_zero, en_nil] at q2
    exact q2
   refine ⟨((a + 1 : Nat) : Int), fun _ => rfl, ?_⟩
   unfold trellislaw15_TreeWays_j7
   refine ⟨_, hd, ?_⟩
   rw [hlen, decide_eq_true (by omega), if_neg (by simp)]
   exact exit8 hl ha (by simp [hlt]) (fun g => by cases g)
  ·rw [decide_eq_false g, if_neg g] at hd
   have h0 : ts.length = 0 := by omega
   have : ts = [] := List.length_eq_zero_iff.1 h0
   subst this
   rw [en_nil] at k3
   obtain ⟨p', q1, q2⟩ := climb (rt := rt) hl f2 h ha a 0 (Nat.le_refl _) k3.symm (by omega) (by omega)
   refine ⟨p', q1, ?_⟩
   unfold trellislaw15_TreeWays_j7
   refine ⟨_, hd, ?_⟩
   rw [hlen, decide_eq_false (by simp), if_neg (by simp)]
   exact q2
 obtain ⟨p', m1, m2⟩ := moves (rcnt t (a + 1))
 refine ⟨p', m1, ?_⟩
 unfold trellislaw15_TreeWays_b3
 rw [if_pos (by omega)]
 refine ⟨_, rfl, ?_⟩
 rw [if_pos rfl]
 refine ⟨_, Kids_ok hl hw _, ?_⟩
 have e0 : ((1 : Int), (0 : Int)) = (fun j : Nat => (((en (a + 1) (ts.take j) - a : Nat) : Int), ((j : Nat) : Int))) 0 := by
  simp only [List.take_zero, en_nil]
  refine Prod.ext ?_ rfl
  show (1 : Int) = ((a + 1 - a : Nat) : Int)
  omega
 rw [e0]
 refine Rounds.upto (B := fun (s : Int × Int) o => trellislaw15_TreeWays_b4 (kidsF t (a : Int)) (a : Int) t ((a : Int), ⟨f, (a : Int)⟩) (rcnt t a) s.1 s.2 o) (fun j : Nat => (((en (a + 1) (ts.take j) - a : Nat) : Int), ((j : Nat) : Int))) ts.length (fun j hj => ?_) ?_
 ·obtain ⟨q1, q2, q3, q4⟩ := k5 j hj
  have hm := en_mono k1 (j := 0) (k := j) (by omega) (by rw [List.length_append]; omega)
  rw [List.take_zero, en_nil, List.take_append_of_le_length (by omega)] at hm
  have hm2 := en_lt k1 (j := j) (k := j + 1) (by omega) (by rw [List.length_append]; omega)
  rw [List.take_append_of_le_length (by omega), List.take_append_of_le_length (by omega)] at hm2
  have hE2 := end_le h q2
  show trellislaw15_TreeWays_b4 (kidsF t (a : Int)) (a : Int) t ((a : Int), ⟨f, (a : Int)⟩) (rcnt t a) ((en (a + 1) (ts.take j) - a : Nat) : Int) (j : Int) _
  unfold trellislaw15_TreeWays_b4
  rw [if_pos (by omega)]
  refine ⟨by omega, ?_⟩
  rw [q1, w64_id (by omega), if_pos (by omega)]
  refine ⟨_, Parent_ok hl hw _, ?_⟩
  rw [q3]
  unfold trellislaw15_TreeWays_j5
  rw [if_neg (by simp)]
  refine ⟨by omega, _, Size_ok hl hw _, ?_⟩
  rw [q1, if_pos (inB_true.2 ⟨⟨S, h⟩, by omega, by omega⟩), Int.toNat_natCast, q4, w64_nat (by omega), w64_id (by omega)]
  congr 2
  omega
 ·show trellislaw15_TreeWays_b4 (kidsF t (a : Int)) (a : Int) t ((a : Int), ⟨f, (a : Int)⟩) (rcnt t a) ((en (a + 1) (ts.take ts.length) - a : Nat) : Int) (ts.length : Int) _
  rw [List.take_length, k3]
  unfold trellislaw15_TreeWays_b4
  rw [if_neg (by omega)]
  refine ⟨_, Size_ok hl hw _, ?_⟩
  rw [if_pos hin, Int.toNat_natCast, if_pos (by omega)]
  refine ⟨by omega, ?_⟩
  rw [hlen, ← k4]
  unfold trellislaw15_TreeWays_j6
  rw [if_neg (by simp)]
  refine ⟨_, Parent_ok hl hw _, ?_⟩
  by_cases g : parF t (a : Int) = -1
  ·rw [if_pos g, w64_nat (by omega)]
   rw [rcnt_succ, if_pos g] at m2 ⊢
   exact m2
  ·rw [if_neg g]
   rw [rcnt_succ, if_neg g] at m2 ⊢
   exact m2
theorem waysLaw (hl : Fits t) (hw : Wf t) : trellislaw15_TreeWays t true := by
 unfold trellislaw15_TreeWays
 refine ⟨true, alive_ok, ?_⟩
 rw [if_pos rfl]
 obtain ⟨b, hb⟩ := beyond_ok hl hw
 refine ⟨b, hb, ?_⟩
 cases b with
 | true => rw [if_pos rfl]
 | false =>
  rw [if_neg (by simp)]
  obtain ⟨f, f1, f2⟩ := plant_ok (t := t) (by omega) hw
  refine ⟨_, Roots_ok hl hw, ?_⟩
  have walk : ∀ p, (if inB t 0 = true then p = 0 else p = -1) → tree_Walk t (Cur f p) := fun p hp => by
   unfold tree_Walk
   refine ⟨_, rfl, by rw [List.nil_append]; omega, f, by rw [List.nil_append]; exact f1, _, has_ok f2 0, ?_⟩
   by_cases h : inB t 0 = true
   ·rw [if_pos h] at hp
    subst hp
    exact ⟨(true, ⟨f, 0⟩), by unfold tree_stand_to; rw [if_pos h, h], rfl⟩
   ·rw [if_neg h] at hp
    subst hp
    rw [Bool.not_eq_true] at h
    exact ⟨(false, ⟨f, -1⟩), by unfold tree_stand_to; rw [h, if_neg (by simp)], rfl⟩
  by_cases hin : inB t 0 = true
  ·refine ⟨Cur f 0, walk 0 (by rw [if_pos hin]), ?_⟩
   obtain ⟨⟨S, h⟩, _, h2⟩ := inB_true.1 hin
   have hn : numF t = ((rootsF t).length : Int) := by unfold numF; rw [h]; rfl
   have hr : (rootsF t).length = S.length := by unfold rootsF; rw [h, List.length_map]; rfl
   rw [hn, if_neg (by omega)]
   unfold trellislaw15_TreeWays_j1
   rw [show ((t.length : Int) == 0) = false from beq_eq_false_iff_ne.2 (by omega), if_neg (by simp)]
   have fin : trellislaw15_TreeWays_b3 t ((rootsF t).length : Int) (rcnt t t.length) (t.length : Int) f.nodes f.parent f.end_ f.ok (-7) (.inr true) ∧ ∀ p, trellislaw15_TreeWays_b3 t ((rootsF t).length : Int) (rcnt t t.length) (t.length : Int) f.nodes f.parent f.end_ f.ok p (.inr true) := by
    have : ∀ p, trellislaw15_TreeWays_b3 t ((rootsF t).length : Int) (rcnt t t.length) (t.length : Int) f.nodes f.parent f.end_ f.ok p (.inr true) := fun p => by
     unfold trellislaw15_TreeWays_b3
     rw [if_neg (by omega), rcnt_all hl h, hr]
     simp
    exact ⟨this _, this⟩
   refine Rounds.to (fun s : WSt => ∃ (a : Nat) (p : Int), s = ((rcnt t a : Int), (a : Int), f.nodes, f.parent, f.end_, f.ok, p) ∧ a ≤ t.length ∧ (a < t.length → p = (a : Int))) (fun s => t.length - s.2.1.toNat) (fun s hs => ?_) ⟨0, 0, rfl, Nat.zero_le _, fun _ => rfl⟩
   obtain ⟨a, p, rfl, ha, hp⟩ := hs
   simp only [Int.toNat_natCast]
   by_cases hlt : a < t.length
   ·right
    obtain ⟨p', q1, q2⟩ := ways_step (num := ((rootsF t).length : Int)) hl hw f2 h hlt
    rw [hp hlt]
    exact ⟨_, q2, ⟨a + 1, p', rfl, hlt, q1⟩, by simp only [Int.toNat_natCast]; omega⟩
   ·left
    obtain rfl : a = t.length := by omega
    exact fin.2 p
  ·refine ⟨Cur f (-1), walk (-1) (by rw [if_neg hin]), ?_⟩
   have stay : ∀ p : Int, inB t p = false → tree_Cursor_Down (Cur f p) (false, Cur f p) ∧ tree_Cursor_Next (Cur f p) (false, Cur f p) ∧ tree_Cursor_Up (Cur f p) (false, Cur f p) := fun p hp => by
    have hh := has_ok f2 p
    rw [hp] at hh
    refine ⟨?_, ?_, ?_⟩
    ·unfold tree_Cursor_Down
     refine ⟨_, hh, ?_⟩
     rw [if_neg (by simp)]
     exact ⟨_, to_f, rfl⟩
    ·unfold tree_Cursor_Next
     refine ⟨_, hh, ?_⟩
     rw [if_neg (by simp)]
    ·unfold tree_Cursor_Up
     refine ⟨_, hh, ?_⟩
     rw [if_neg (by simp)]
   have hno : inB t (-1) = false := by
    cases hi : inB t (-1) with
    | false => rfl
    | true => have := (inB_true.1 hi).2.1; omega
   obtain ⟨s1, s2, s3⟩ := stay (-1) hno
   have j1 : trellislaw15_TreeWays_j1 (Cur f (-1)) (numF t) t true true := by
    unfold trellislaw15_TreeWays_j1
    rw [if_pos rfl]
    refine ⟨_, rfl, ?_⟩
    rw [if_pos (by rfl)]
    refine ⟨_, s1, ?_⟩
    rw [if_neg (by simp)]
    refine ⟨_, s2, ?_⟩
    rw [if_neg (by simp)]
    refine ⟨_, s3, ?_⟩
    rw [if_neg (by simp)]
    unfold trellislaw15_TreeWays_j2
    cases hS : sf t 0 with
    | none =>
     have hn : t.length ≠ 0 := fun g => by
      obtain rfl := List.length_eq_zero_iff.1 g
      rw [sf_nil] at hS; cases hS
     have : numF t = -1 := by unfold numF; rw [hS]; rfl
     rw [this, decide_eq_true (by omega : (-1 : Int) < 0), decide_eq_true (by omega)]
     rfl
    | some S =>
     have hn : t.length = 0 := by
      rcases Nat.eq_zero_or_pos t.length with g | g
      ·exact g
      ·exact absurd (inB_true.2 ⟨⟨S, hS⟩, by omega, by omega⟩) hin
     have : numF t = ((rootsF t).length : Int) := by unfold numF; rw [hS]; rfl
     rw [this, decide_eq_false (by omega), decide_eq_false (by omega)]
     rfl
   by_cases g : numF t < 0
   ·rw [if_pos g]; exact j1
   ·rw [if_neg g]
    have hz : t.length = 0 := by
     rcases Nat.eq_zero_or_pos t.length with g2 | g2
     ·exact g2
     ·exfalso
      apply hin
      refine inB_true.2 ⟨?_, by omega, by omega⟩
      cases hS : sf t 0 with
      | none => exfalso; apply g; unfold numF; rw [hS]; simp
      | some S => exact ⟨S, rfl⟩
    rw [show ((t.length : Int) == 0) = true from beq_iff_eq.2 (by omega)]
    exact j1
end
end Go.Proofs.Ytmekgfcfooghnaa.L
