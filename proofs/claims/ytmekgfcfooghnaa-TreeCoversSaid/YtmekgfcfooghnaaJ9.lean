/- The law TreeWays. Conditions: the list fits in memory, its numbers are ints. -/
import Derived.Test.YtmekgfcfooghnaaJ8
set_option linter.unusedVariables false
namespace Go.Proofs.Ytmekgfcfooghnaa.L
open Go.Proofs.Ytmekgfcfooghnaa.B Go.Proofs.Ytmekgfcfooghnaa.R
def Cur (f : tree_forest) (p : Int) : tree_Cursor := ⟨⟨f, p⟩⟩
section
variable {t : List api_Node} {f : tree_forest} {S : List (Tre × Nat)}
theorem par_of (hl : Fits t) (f2 : Planted t f) (h : sf t 0 = some S) {k : Nat} (hk : k < t.length) : k < f.parent.length ∧ ix f.parent (k : Int) = parF t (k : Int) := by
 obtain ⟨p1, _⟩ := par_at hl h hk
 exact ⟨by rw [f2.2.1]; exact hk, ((f2.2.2.2.2 S h k hk).1).uniq p1⟩
theorem end_le (h : sf t 0 = some S) {k : Nat} (hk : k < t.length) : k < endF t k ∧ endF t k ≤ t.length := by
 obtain ⟨r, hr⟩ := At.sub h hk
 have := (show At t k (((sub t k).1, (sub t k).2) :: r) from hr).pos
 have e : endF t k = (sub t k).2 := rfl
 omega
theorem end_cases (hl : Fits t) (h : sf t 0 = some S) {k : Nat} (hk : k < t.length) : (endF t k < t.length ∧ parF t (endF t k : Int) = parF t (k : Int)) ∨ ((endF t k < t.length → parF t (endF t k : Int) ≠ parF t (k : Int)) ∧ ((parF t (k : Int) = -1 ∧ endF t k = t.length) ∨ ∃ b : Nat, parF t (k : Int) = (b : Int) ∧ b < k ∧ endF t b = endF t k)) := by
 obtain ⟨p1, p2⟩ := par_at hl h hk
 have hA : At t 0 S := ⟨Nat.zero_le _, h⟩
 have main : ∀ (a m j : Nat) (R : List (Tre × Nat)), RowOf' t k (parF t (k : Int)) a m j R → ((endF t k < t.length ∧ parF t (endF t k : Int) = parF t (k : Int)) ∧ j + 1 < m) ∨ ((endF t k < t.length → parF t (endF t k : Int) ≠ parF t (k : Int)) ∧ j + 1 = m ∧ endF t k = en a (R.take m)) := by
  intro a m j R hR
  have hj := hR.hj
  have hm := hR.hm
  have hnj := (hR.at_.nth (j := j) (by omega)).1
  rw [hR.hi] at hnj
  have he : endF t k = en a (R.take (j + 1)) := by rw [en_take (by omega)]; exact end_at' hnj
  by_cases hlast : j + 1 < m
  ·left
   have hn := (hR.at_.nth (j := j + 1) (by omega)).1.pos
   exact ⟨⟨by rw [he]; exact hn.1, parF_eq ((hR.all _).2 ⟨j + 1, hlast, he.symm⟩)⟩, hlast⟩
  ·right
   have hjm : j + 1 = m := by omega
   refine ⟨fun hlt g => ?_, hjm, by rw [he, hjm]⟩
   have := (par_at hl h hlt).2
   rw [g] at this
   obtain ⟨j', hj', g'⟩ := (hR.all _).1 this
   have lt := en_lt hR.at_ (j := j') (k := j + 1) (by omega) (by omega)
   omega
 rcases row_of hl h p1 with ⟨hq, j, hR⟩ | ⟨b, ts, r, hq, hb, hkk, j, hR⟩
 ·rcases main _ _ _ _ hR with ⟨g, _⟩ | ⟨g1, g2, g3⟩
  ·exact .inl g
  ·rw [List.take_length, hA.ens] at g3
   exact .inr ⟨g1, .inl ⟨hq, g3⟩⟩
 ·rcases main _ _ _ _ hR with ⟨g, _⟩ | ⟨g1, g2, g3⟩
  ·exact .inl g
  ·obtain ⟨r', hr⟩ := At.sub h hb
   have hr : At t b (((sub t b).1, (sub t b).2) :: r') := hr
   obtain ⟨us, k1, k2, k3, k4, k5⟩ := hr.kids hb
   have hlen : ts.length = us.length := by have := congrArg List.length (hkk.symm.trans k2); simpa using this
   have hu := hR.at_.uniq k1
   have hts : ts = us := (List.append_inj hu hlen).1
   rw [List.take_append_of_le_length (Nat.le_refl _), List.take_length, hts, k3] at g3
   have hpar := p1.par
   exact .inr ⟨g1, .inr ⟨b, hq, by rcases hpar with g | g <;> omega, by rw [g3]; rfl⟩⟩
theorem to_t {s : tree_stand} {x : Int} : tree_stand_to s x true (true, ⟨s.forest, x⟩) := by unfold tree_stand_to; rw [if_pos rfl]
theorem to_f {s : tree_stand} {x : Int} : tree_stand_to s x false (false, s) := by unfold tree_stand_to; rw [if_neg (by simp)]
theorem has_at (f2 : Planted t f) (h : sf t 0 = some S) {k : Nat} (hk : k < t.length) : tree_forest_has f (k : Int) true := by
 have := has_ok f2 (k : Int)
 rwa [inB_true.2 ⟨⟨S, h⟩, by omega, by omega⟩] at this
theorem down_at (hl : Fits t) (f2 : Planted t f) (h : sf t 0 = some S) {k : Nat} (hk : k < t.length) : tree_Cursor_Down (Cur f k) (decide ((ix t (k : Int)).kids > 0), Cur f (if (ix t (k : Int)).kids > 0 then ((k + 1 : Nat) : Int) else k)) := by
 unfold tree_Cursor_Down Cur
 refine ⟨_, has_at f2 h hk, ?_⟩
 rw [if_pos rfl]
 dsimp only
 rw [f2.1, w64_nat (by omega)]
 refine ⟨by omega, ?_⟩
 by_cases g : (ix t (k : Int)).kids > 0
 ·rw [decide_eq_true g, if_pos g]
  exact ⟨_, to_t, rfl⟩
 ·rw [decide_eq_false g, if_neg g]
  exact ⟨_, to_f, rfl⟩
theorem up_at (hl : Fits t) (f2 : Planted t f) (h : sf t 0 = some S) {k : Nat} (hk : k < t.length) : tree_Cursor_Up (Cur f k) (decide (parF t (k : Int) ≥ 0), Cur f (if parF t (k : Int) ≥ 0 then parF t (k : Int) else k)) := by
 obtain ⟨e1, e2⟩ := par_of hl f2 h hk
 unfold tree_Cursor_Up Cur
 refine ⟨_, has_at f2 h hk, ?_⟩
 rw [if_pos rfl]
 dsimp only
 rw [e2]
 refine ⟨by omega, ?_⟩
 by_cases g : parF t (k : Int) ≥ 0
 ·rw [decide_eq_true g, if_pos g]
  exact ⟨_, to_t, rfl⟩
 ·rw [decide_eq_false g, if_neg g]
  exact ⟨_, to_f, rfl⟩
theorem next_at (hl : Fits t) (f2 : Planted t f) (h : sf t 0 = some S) {k : Nat} (hk : k < t.length) {b : Bool} (hb : b = true ↔ endF t k < t.length ∧ parF t (endF t k : Int) = parF t (k : Int)) : tree_Cursor_Next (Cur f k) (b, Cur f (if b = true then (endF t k : Int) else k)) := by
 obtain ⟨e1, e2⟩ := ends_of f2 h k hk
 obtain ⟨p1, p2⟩ := par_of hl f2 h hk
 unfold tree_Cursor_Next Cur
 refine ⟨_, has_at f2 h hk, ?_⟩
 rw [if_pos rfl]
 dsimp only
 rw [e2]
 refine ⟨by omega, _, has_ok f2 _, ?_⟩
 by_cases g : endF t k < t.length
 ·obtain ⟨q1, q2⟩ := par_of hl f2 h g
  rw [inB_true.2 ⟨⟨S, h⟩, by omega, by omega⟩, if_pos rfl, p2, q2]
  refine ⟨by omega, by omega, ?_⟩
  by_cases g2 : parF t (endF t k : Int) = parF t (k : Int)
  ·obtain rfl : b = true := hb.2 ⟨g, g2⟩
   rw [beq_iff_eq.2 g2, if_pos rfl]
   exact ⟨_, to_t, rfl⟩
  ·obtain rfl : b = false := by cases b with | false => rfl | true => exact absurd (hb.1 rfl).2 g2
   rw [beq_eq_false_iff_ne.2 g2, if_neg (by simp)]
   exact ⟨_, to_f, rfl⟩
 ·obtain rfl : b = false := by cases b with | false => rfl | true => exact absurd (hb.1 rfl).1 g
  have : inB t (endF t k : Int) = false := by
   cases hi : inB t (endF t k : Int) with
   | false => rfl
   | true => have := (inB_true.1 hi).2.2; omega
  rw [this, if_neg (by simp), if_neg (by simp)]
  exact ⟨_, to_f, rfl⟩
theorem exit8 {f : tree_forest} (hl : Fits t) {at_ : Nat} (ha : at_ < t.length) {rt : Int} {b : Bool} {k2 p' : Int} (hb : b = true ↔ at_ + 1 < t.length) (hk2 : b = false → ¬ k2 ≤ (t.length : Int)) : Rounds (fun (s : Bool × Int × (List api_Node) × (List Int) × (List Int) × Bool × Int) o => trellislaw15_TreeWays_b8 t (at_ : Int) rt s.1 s.2.1 s.2.2.1 s.2.2.2.1 s.2.2.2.2.1 s.2.2.2.2.2.1 s.2.2.2.2.2.2 o) (b, k2, f.nodes, f.parent, f.end_, f.ok, p') (Sum.inr (Sum.inl (rt, ((at_ + 1 : Nat) : Int), f.nodes, f.parent, f.end_, f.ok, p')) : Sum (Int × Int) (Sum (Int × Int × (List api_Node) × (List Int) × (List Int) × Bool × Int) Bool)) := by
 have e1 : w64 ((t.length : Int) - 1) = (t.length : Int) - 1 := w64_id (by omega)
 refine Rounds.done ?_
 show trellislaw15_TreeWays_b8 t (at_ : Int) rt b k2 f.nodes f.parent f.end_ f.ok p' _
 have j9 : trellislaw15_TreeWays_j9 f.nodes f.parent f.end_ f.ok p' k2 t b (at_ : Int) rt false (.inr (.inr (.inl (rt, ((at_ + 1 : Nat) : Int), f.nodes, f.parent, f.end_, f.ok, p')))) := by
  unfold trellislaw15_TreeWays_j9
  rw [if_neg (by simp), e1]
  have : (b != decide ((at_ : Int) < (t.length : Int) - 1)) = false := by
   cases b with
   | true => rw [decide_eq_true (by have := hb.1 rfl; omega)]; rfl
   | false =>
    have : ¬ (at_ : Int) < (t.length : Int) - 1 := fun g => by have := hb.2 (by omega); cases this
    rw [decide_eq_false this]; rfl
  rw [this, if_neg (by simp), w64_nat (by omega)]
  rfl
 unfold trellislaw15_TreeWays_b8
 by_cases g : k2 ≤ (t.length : Int)
 ·rw [if_pos g]
  cases b with
  | true => exact j9
  | false => exact absurd g (hk2 rfl)
 ·rw [if_neg g]; exact j9
theorem climb (hl : Fits t) (f2 : Planted t f) (h : sf t 0 = some S) {at_ : Nat} (ha : at_ < t.length) {rt : Int} : ∀ (p : Nat) (k : Nat), p ≤ at_ → endF t p = at_ + 1 → k + p ≤ at_ + 1 → k ≤ at_ + 1 → ∃ p' : Int, (at_ + 1 < t.length → p' = ((at_ + 1 : Nat) : Int)) ∧
  Rounds (fun (s : Bool × Int × (List api_Node) × (List Int) × (List Int) × Bool × Int) o => trellislaw15_TreeWays_b8 t (at_ : Int) rt s.1 s.2.1 s.2.2.1 s.2.2.2.1 s.2.2.2.2.1 s.2.2.2.2.2.1 s.2.2.2.2.2.2 o) (false, (k : Int), f.nodes, f.parent, f.end_, f.ok, (p : Int)) (Sum.inr (Sum.inl (rt, ((at_ + 1 : Nat) : Int), f.nodes, f.parent, f.end_, f.ok, p')) : Sum (Int × Int) (Sum (Int × Int × (List api_Node) × (List Int) × (List Int) × Bool × Int) Bool)) := by
 intro p
 induction p using Nat.strongRecOn with
 | _ p ih =>
  intro k hp he hk hk2
  have hpt : p < t.length := by omega
  have e1 : w64 ((t.length : Int) - 1) = (t.length : Int) - 1 := w64_id (by omega)
  have step : ∀ o, (∃ r2802 : Bool × tree_Cursor, (tree_Cursor_Next (Cur f p) r2802) ∧ if r2802.1 = true then o = .inl (r2802.1, w64 ((k : Int) + 1), r2802.2.stand.forest.nodes, r2802.2.stand.forest.parent, r2802.2.stand.forest.end_, r2802.2.stand.forest.ok, r2802.2.stand.at_) else
    ∃ r2825 : Bool × tree_Cursor, (tree_Cursor_Up r2802.2 r2825) ∧ if r2825.1 = true then o = .inl (r2802.1, w64 ((k : Int) + 1), r2825.2.stand.forest.nodes, r2825.2.stand.forest.parent, r2825.2.stand.forest.end_, r2825.2.stand.forest.ok, r2825.2.stand.at_) else o = .inl (r2802.1, w64 ((t.length : Int) + 1), r2825.2.stand.forest.nodes, r2825.2.stand.forest.parent, r2825.2.stand.forest.end_, r2825.2.stand.forest.ok, r2825.2.stand.at_)) →
    trellislaw15_TreeWays_b8 t (at_ : Int) rt false (k : Int) f.nodes f.parent f.end_ f.ok (p : Int) o := fun o ho => by
   unfold trellislaw15_TreeWays_b8
   rw [if_pos (by omega)]
   unfold trellislaw15_TreeWays_j9
   rw [if_pos (show (!false) = true from rfl)]
   exact ho
  rcases end_cases hl h hpt with ⟨g1, g2⟩ | ⟨g1, g2⟩
  ·rw [he] at g1
   have hnx := next_at (b := true) hl f2 h hpt (by rw [he] at g2 ⊢; exact ⟨fun _ => ⟨g1, g2⟩, fun _ => rfl⟩)
   rw [if_pos rfl, he] at hnx
   refine ⟨((at_ + 1 : Nat) : Int), fun _ => rfl, Rounds.next (s' := (true, w64 ((k : Int) + 1), f.nodes, f.parent, f.end_, f.ok, ((at_ + 1 : Nat) : Int))) (step _ ⟨_, hnx, ?_⟩) (exit8 hl ha (by simp [g1]) (fun g => by cases g))⟩
   rw [if_pos rfl]
   rfl
  ·have hnx := next_at (b := false) hl f2 h hpt ⟨fun g => (by cases g), fun g => absurd g.2 (g1 g.1)⟩
   rw [if_neg (by simp)] at hnx
   have hup := up_at hl f2 h hpt
   rcases g2 with ⟨g2, g3⟩ | ⟨b, g2, g3, g4⟩
   ·rw [g2, decide_eq_false (by omega), if_neg (by omega)] at hup
    refine ⟨(p : Int), fun g => by omega, Rounds.next (s' := (false, w64 ((t.length : Int) + 1), f.nodes, f.parent, f.end_, f.ok, (p : Int))) (step _ ⟨_, hnx, ?_⟩) (exit8 hl ha (by constructor <;> intro g; cases g; omega) (fun _ => by rw [w64_nat (by omega)]; omega))⟩
    rw [if_neg (by simp)]
    refine ⟨_, hup, ?_⟩
    rw [if_neg (by simp)]
    rfl
   ·rw [g2, decide_eq_true (by omega), if_pos (by omega)] at hup
    obtain ⟨p', q1, q2⟩ := ih b g3 (k + 1) (by omega) (by omega) (by omega) (by omega)
    refine ⟨p', q1, Rounds.next (s' := (false, ((k + 1 : Nat) : Int), f.nodes, f.parent, f.end_, f.ok, (b : Int))) (step _ ⟨_, hnx, ?_⟩) q2⟩
    rw [if_neg (by simp)]
    refine ⟨_, hup, ?_⟩
    rw [if_pos rfl, w64_nat (by omega)]
    rfl
end
end Go.Proofs.Ytmekgfcfooghnaa.L
