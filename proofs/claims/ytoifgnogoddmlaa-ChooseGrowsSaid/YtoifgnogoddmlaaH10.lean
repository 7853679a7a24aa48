/- The law ChooseMore. Conditions: the list fits in memory, its numbers are ints. -/
import Derived.Test.YtoifgnogoddmlaaH9
namespace Go.Proofs.Ytoifgnogoddmlaa.L
open Go.Proofs.Ytoifgnogoddmlaa.B Go.Proofs.Ytoifgnogoddmlaa.R
theorem GS.nth {t : List api_Node} {q : api_Range} {l : List api_Range} (h : GS t q l) : Tk q → (∀ (i : Nat) (_ : i < l.length), Tk (ix (q :: l) (i : Int)) ∧ growF t (ix (q :: l) (i : Int)) = ix (q :: l) ((i : Int) + 1) ∧ ix (q :: l) ((i : Int) + 1) ≠ ix (q :: l) (i : Int)) ∧ growF t (ix (q :: l) (l.length : Int)) = ix (q :: l) (l.length : Int) := by
  have sh : ∀ (q b : api_Range) (l : List api_Range) (i : Nat), ix (q :: b :: l) ((i + 1 : Nat) : Int) = ix (b :: l) (i : Int) := fun q b l i => by unfold ix; rw [Int.toNat_natCast, Int.toNat_natCast]; rfl
  have sh2 : ∀ (q b : api_Range) (l : List api_Range) (i : Nat), ix (q :: b :: l) ((i + 1 : Nat) + 1 : Int) = ix (b :: l) ((i : Int) + 1) := fun q b l i => by
    rw [show ((i + 1 : Nat) : Int) + 1 = ((i + 1 + 1 : Nat) : Int) by omega, sh, show (i : Int) + 1 = ((i + 1 : Nat) : Int) by omega]
  induction h with
  | @fin q h =>
    intro _
    exact ⟨fun i hi => absurd hi (Nat.not_lt_zero _), h⟩
  | @go q b l h h1 k ih =>
    intro hq
    have hb : Tk b := by
      rcases growF_cases (t := t) hq with g | ⟨v, hv, g1, g2⟩
      · exact absurd (h.symm.trans g) h1
      · rw [← h, g1]
        exact bw_tk hq (wayF_mem v hv).2
    obtain ⟨k1, k2⟩ := ih hb
    refine ⟨fun i hi => ?_, ?_⟩
    · match i, hi with
      | 0, _ => exact ⟨hq, h, h1⟩
      | i + 1, hi =>
        rw [sh, sh2]
        exact k1 i (by simpa using hi)
    · rw [List.length_cons, sh]
      exact k2
theorem within_ok {a b : api_Range} (h1 : b.from_ ≤ a.from_) (h2 : a.to ≤ b.to) : trellislaw32_within a b true := by
  unfold trellislaw32_within
  rw [if_pos h1, decide_eq_true h2]
theorem found_run {t : List api_Node} (hl : Fits t) {L : List api_Range} {i : Nat} (hi : i < L.length) (hi2 : i ≤ 2 ^ 60) (h : ∃ v, v < t.length ∧ bw t v = ix L (i : Int)) : Rounds (fun (s : Bool × Int) o => trellislaw32_ChooseMore_b4 t (i : Int) L s.1 s.2 o) (false, 0) (Sum.inl ((i : Int) + 1) : Sum Int Bool) := by
  have key := Rounds.upto (B := fun (s : Bool × Int) o => trellislaw32_ChooseMore_b4 t (i : Int) L s.1 s.2 o) (r := (Sum.inl ((i : Int) + 1) : Sum Int Bool))
    (fun v => ((List.range v).any fun u => decide ((ix t (u : Int)).from_ = (ix L (i : Int)).from_) && decide ((ix t (u : Int)).to = (ix L (i : Int)).to), (v : Int))) t.length (fun v hv => ?_) ?_
  · simpa using key
  · show trellislaw32_ChooseMore_b4 t (i : Int) L _ (v : Int) _
    unfold trellislaw32_ChooseMore_b4
    rw [if_pos (by omega), w64_nat (by omega)]
    refine ⟨by omega, by omega, ?_⟩
    rw [List.range_succ, List.any_append, List.any_cons, List.any_nil, Bool.or_false]
    by_cases g1 : (ix t (v : Int)).from_ = (ix L (i : Int)).from_
    · rw [if_pos g1, decide_eq_true g1, Bool.true_and]
      by_cases g2 : (ix t (v : Int)).to = (ix L (i : Int)).to
      · rw [if_pos g2, decide_eq_true g2, Bool.or_true]; rfl
      · rw [if_neg g2, decide_eq_false g2, Bool.or_false]; rfl
    · rw [if_neg g1, decide_eq_false g1, Bool.false_and, Bool.or_false]; rfl
  · show trellislaw32_ChooseMore_b4 t (i : Int) L _ (t.length : Int) _
    unfold trellislaw32_ChooseMore_b4
    obtain ⟨v, hv, e⟩ := h
    rw [if_neg (by omega), w64_nat (by omega), if_pos]
    refine List.any_eq_true.2 ⟨v, List.mem_range.2 hv, ?_⟩
    rw [← e]
    simp [bw, byt]
theorem moreLaw {t : List api_Node} (hl : Fits t) (hw : Wf t) (x : api_Range) : trellislaw32_ChooseMore t x true := by
  unfold trellislaw32_ChooseMore
  refine ⟨true, started_ok, ?_⟩
  rw [if_pos rfl]
  obtain ⟨b, hb⟩ := beyond_ok (t := t) hl hw
  refine ⟨b, hb, ?_⟩
  cases b with
  | true => rw [if_pos rfl]
  | false =>
    rw [if_neg (by simp)]
    obtain ⟨l, h1, h2, h3⟩ := Steps_ok hl hw x
    refine ⟨_, h3, ?_⟩
    have hlen : (tkn x :: l).length = l.length + 1 := rfl
    rw [hlen, if_neg (by omega), w64_id (x := (t.length : Int) + 1) (by omega), if_neg (by omega)]
    refine ⟨by omega, ?_⟩
    have e0 : ix (tkn x :: l) 0 = tkn x := rfl
    have htk := tkn_tk x
    have key : trellislaw32_ChooseMore_j1 (tkn x :: l) t false true := by
      unfold trellislaw32_ChooseMore_j1
      rw [if_neg (by simp)]
      obtain ⟨n1, n2⟩ := h1.nth (tkn_tk x)
      have key := Rounds.upto (B := fun (s : Int) o => trellislaw32_ChooseMore_b2 (tkn x :: l) t s o) (r := true) (fun i => (i : Int) + 1) l.length (fun i hi => ?_) ?_
      · simpa using key
      · show trellislaw32_ChooseMore_b2 (tkn x :: l) t ((i : Int) + 1) _
        unfold trellislaw32_ChooseMore_b2
        obtain ⟨m0, m1, m2⟩ := n1 i hi
        have ew : w64 ((i : Int) + 1 - 1) = (i : Int) := by rw [w64_id (by omega)]; omega
        rw [hlen, if_pos (by omega), ew]
        refine ⟨by omega, by omega, true, ?_, ?_⟩
        · rcases growF_cases (t := t) m0 with g | ⟨v, hv, g1, g2⟩
          · exact absurd (m1.symm.trans g) m2
          · have := hasN_true.1 (wayF_mem v hv).2
            rw [← m1, g1]
            exact within_ok this.1 this.2
        · rw [if_pos rfl, if_neg m2]
          refine ⟨_, Grow_ok hl hw _, ?_⟩
          rw [m1, decide_eq_true rfl]
          unfold trellislaw32_ChooseMore_j3
          rw [if_neg (by simp)]
          have hf := found_run hl (L := tkn x :: l) (i := i + 1) (by simpa using hi) (by omega) (by
            rcases growF_cases (t := t) m0 with g | ⟨v, hv, g1, g2⟩
            · exact absurd (m1.symm.trans g) m2
            · exact ⟨v, (wayF_mem v hv).1, by rw [← g1, m1]; rfl⟩)
          exact hf
      · show trellislaw32_ChooseMore_b2 (tkn x :: l) t ((l.length : Int) + 1) _
        unfold trellislaw32_ChooseMore_b2
        have ew : w64 (((l.length + 1 : Nat) : Int) - 1) = (l.length : Int) := by rw [w64_id (by omega)]; omega
        rw [hlen, if_neg (by omega), ew]
        refine ⟨by omega, _, Grow_ok hl hw _, ?_⟩
        rw [n2, decide_eq_true rfl]
    rw [e0, if_pos (show (tkn x).from_ = x.from_ from rfl), if_neg (by unfold Tk at htk; omega)]
    by_cases g : x.to ≥ x.from_
    · have e : (tkn x).to = x.to := Int.max_eq_right g
      rw [if_pos g, if_pos e, if_neg (by omega)]
      exact key
    · have e : (tkn x).to = x.from_ := Int.max_eq_left (by omega)
      rw [if_neg g, if_pos (by omega), e, show (x.from_ != x.from_) = false by simp]
      exact key
end Go.Proofs.Ytoifgnogoddmlaa.L
