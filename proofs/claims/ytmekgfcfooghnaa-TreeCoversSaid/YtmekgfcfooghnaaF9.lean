/- Chapter 15: the law TreeWalks. Conditions: the list fits in memory, its numbers are ints. -/
import Derived.Test.YtmekgfcfooghnaaF8
set_option linter.unusedVariables false
namespace Go.Proofs.Ytmekgfcfooghnaa.L
open Go.Proofs.Ytmekgfcfooghnaa.B Go.Proofs.Ytmekgfcfooghnaa.R
def rooms : List api_Node := [⟨(⟨#[]⟩ : ByteArray), false, (⟨#[]⟩ : ByteArray), 0, 0, -71, 0⟩, ⟨(⟨#[]⟩ : ByteArray), false, (⟨#[]⟩ : ByteArray), 0, 0, -72, 0⟩]
theorem take_rooms {ys : List api_Node} {n : Nat} (h : ys.length = n) : (ys ++ rooms).take n = ys := by subst h; rw [List.take_append_of_le_length (Nat.le_refl _), List.take_length]
theorem twin_ok {t : List api_Node} (hl : Fits t) : trellisref15_Twin t t := by
 unfold trellisref15_Twin
 exact ⟨_, rfl, by rw [List.nil_append]; omega, by rw [List.nil_append]⟩
theorem roomy_ok {t : List api_Node} (hl : Fits t) : trellislaw15_roomy t (t ++ rooms, t.length) := by
 unfold trellislaw15_roomy
 exact ⟨_, twin_ok hl, _, rfl, by simp; omega, by simp; omega, by rw [Int.toNat_natCast]; rfl⟩
theorem same_ok {a : List api_Node} (ha : Fits a) : trellisref15_Same a a true := by
 unfold trellisref15_Same
 rw [if_pos rfl]
 refine Rounds.cnt a.length (fun i hi => ?_) ?_
 ·unfold trellisref15_Same_b1
  rw [if_pos (by omega), w64_nat (by omega), if_pos rfl]
  exact ⟨by omega, by omega, rfl⟩
 ·unfold trellisref15_Same_b1
  rw [if_neg (by omega)]
theorem stays_ok {t : List api_Node} (hl : Fits t) : trellislaw15_stays (t ++ rooms) t.length t true := by
 unfold trellislaw15_stays
 have hm : rooms.length = 2 := rfl
 have w2 : w64 ((t.length : Int) + 2) = ((t.length + 2 : Nat) : Int) := by rw [w64_id (by omega)]; omega
 have w1 : w64 ((t.length : Int) + 1) = ((t.length + 1 : Nat) : Int) := by rw [w64_id (by omega)]; omega
 rw [w1, w2, Int.toNat_natCast, take_rooms rfl, List.take_of_length_le (by rw [List.length_append, hm]; exact Nat.le_refl _)]
 refine ⟨true, same_ok hl, by rw [List.length_append, hm]; omega, ?_⟩
 rw [if_pos rfl]
 refine ⟨by rw [List.length_append, hm]; omega, ?_⟩
 have e1 : ix (t ++ rooms) (t.length : Int) = rooms[0] := by rw [ix_nat (by rw [List.length_append, hm]; omega), List.getElem_append_right (by omega)]; simp
 have e2 : ix (t ++ rooms) ((t.length + 1 : Nat) : Int) = rooms[1] := by rw [ix_nat (by rw [List.length_append, hm]; omega), List.getElem_append_right (by omega)]; simp
 rw [e1, e2, if_pos (by rfl)]
 exact ⟨by rw [List.length_append, hm]; omega, rfl⟩
abbrev MSt := Int × (List Tre) × Int × (List api_Node) × (List Int) × (List Int) × Bool × Int
theorem moves_run {t : List api_Node} (hl : Fits t) {f : tree_forest} {l : List Tre} (h : Both t f l) {ms : List Int} (hms : ms.length ≤ 2 ^ 50) {p : Int} (hp : Ok t p) :
  Rounds (fun (s : MSt) o => trellislaw15_TreeWalks_b3 ms s.1 s.2.1 s.2.2.1 s.2.2.2.1 s.2.2.2.2.1 s.2.2.2.2.2.1 s.2.2.2.2.2.2.1 s.2.2.2.2.2.2.2 o) (0, l, p, f.nodes, f.parent, f.end_, f.ok, p) (.inr true : Sum ((List api_Node) × Int) Bool) := by
 refine Rounds.to (fun s : MSt => ∃ (i : Nat) (p : Int), s = ((i : Int), l, p, f.nodes, f.parent, f.end_, f.ok, p) ∧ i ≤ ms.length ∧ Ok t p) (fun s => ms.length - s.1.toNat) (fun s hs => ?_) ⟨0, p, rfl, Nat.zero_le _, hp⟩
 obtain ⟨i, p, rfl, hi, hp⟩ := hs
 simp only [Int.toNat_natCast]
 by_cases hlt : i < ms.length
 ·right
  have j4 : ∀ p', trellislaw15_TreeWalks_j4 (i : Int) true l p' f.nodes f.parent f.end_ f.ok p' (.inl (((i + 1 : Nat) : Int), l, p', f.nodes, f.parent, f.end_, f.ok, p')) := fun p' => by
   unfold trellislaw15_TreeWalks_j4
   rw [if_pos rfl]
   refine ⟨(p', ⟨f, p'⟩), rfl, (p', ⟨l, p'⟩), rfl, ?_⟩
   rw [if_pos rfl, w64_nat (by omega)]
   rfl
  have red : ∀ o, (if ms[i] = 1 then
    ∃ r3235 : Bool × tree_Cursor, (tree_Cursor_Down (cur f p) r3235) ∧ ∃ r3257 : Bool × trellisref15_Model, (trellisref15_Model_Down (mdl l p) r3257) ∧ trellislaw15_TreeWalks_j4 i (r3235.1 == r3257.1) r3257.2.f r3257.2.at_ r3235.2.stand.forest.nodes r3235.2.stand.forest.parent r3235.2.stand.forest.end_ r3235.2.stand.forest.ok r3235.2.stand.at_ o
   else if ms[i] = 2 then
    ∃ r3235 : Bool × tree_Cursor, (tree_Cursor_Next (cur f p) r3235) ∧ ∃ r3257 : Bool × trellisref15_Model, (trellisref15_Model_Next (mdl l p) r3257) ∧ trellislaw15_TreeWalks_j4 i (r3235.1 == r3257.1) r3257.2.f r3257.2.at_ r3235.2.stand.forest.nodes r3235.2.stand.forest.parent r3235.2.stand.forest.end_ r3235.2.stand.forest.ok r3235.2.stand.at_ o
   else if ms[i] = 3 then
    ∃ r3235 : Bool × tree_Cursor, (tree_Cursor_Up (cur f p) r3235) ∧ ∃ r3257 : Bool × trellisref15_Model, (trellisref15_Model_Up (mdl l p) r3257) ∧ trellislaw15_TreeWalks_j4 i (r3235.1 == r3257.1) r3257.2.f r3257.2.at_ r3235.2.stand.forest.nodes r3235.2.stand.forest.parent r3235.2.stand.forest.end_ r3235.2.stand.forest.ok r3235.2.stand.at_ o
   else trellislaw15_TreeWalks_j4 i true l p f.nodes f.parent f.end_ f.ok p o) → trellislaw15_TreeWalks_b3 ms i l p f.nodes f.parent f.end_ f.ok p o := fun o ho => by
   unfold trellislaw15_TreeWalks_b3
   rw [if_pos (by omega), ix_nat hlt]
   exact ⟨by omega, ho⟩
  have fin : ∀ p', Ok t p' → trellislaw15_TreeWalks_b3 ms i l p f.nodes f.parent f.end_ f.ok p (.inl (((i + 1 : Nat) : Int), l, p', f.nodes, f.parent, f.end_, f.ok, p')) → ∃ s' : MSt, trellislaw15_TreeWalks_b3 ms i l p f.nodes f.parent f.end_ f.ok p (.inl s') ∧ (∃ (i : Nat) (p : Int), s' = ((i : Int), l, p, f.nodes, f.parent, f.end_, f.ok, p) ∧ i ≤ ms.length ∧ Ok t p) ∧ ms.length - s'.1.toNat < ms.length - i := fun p' h1 h2 => ⟨_, h2, ⟨i + 1, p', rfl, hlt, h1⟩, by simp only [Int.toNat_natCast]; omega⟩
  by_cases m1 : ms[i] = 1
  ·obtain ⟨b, p', o1, o2, o3⟩ := down_ok hl h hp
   refine fin p' o1 (red _ ?_)
   rw [if_pos m1]
   refine ⟨_, o2, _, o3, ?_⟩
   rw [beq_self_eq_true]
   exact j4 p'
  by_cases m2 : ms[i] = 2
  ·obtain ⟨b, p', o1, o2, o3⟩ := next_ok hl h hp
   refine fin p' o1 (red _ ?_)
   rw [if_neg m1, if_pos m2]
   refine ⟨_, o2, _, o3, ?_⟩
   rw [beq_self_eq_true]
   exact j4 p'
  by_cases m3 : ms[i] = 3
  ·obtain ⟨b, p', o1, o2, o3⟩ := up_ok hl h hp
   refine fin p' o1 (red _ ?_)
   rw [if_neg m1, if_neg m2, if_pos m3]
   refine ⟨_, o2, _, o3, ?_⟩
   rw [beq_self_eq_true]
   exact j4 p'
  ·refine fin p hp (red _ ?_)
   rw [if_neg m1, if_neg m2, if_neg m3]
   exact j4 p
 ·left
  show trellislaw15_TreeWalks_b3 ms i l p f.nodes f.parent f.end_ f.ok p _
  unfold trellislaw15_TreeWalks_b3
  rw [if_neg (by omega)]
theorem walksLaw {t : List api_Node} (hl : Fits t) (hw : Wf t) {ms : List Int} (hms : ms.length ≤ 2 ^ 50) : trellislaw15_TreeWalks t ms true := by
 unfold trellislaw15_TreeWalks
 obtain ⟨b, hb⟩ := beyond_ok hl hw
 refine ⟨b, hb, ?_⟩
 cases b with
 | true => rw [if_pos rfl]
 | false =>
  rw [if_neg (by simp)]
  obtain ⟨f, l, p, h, hp, w1, w2⟩ := walk_ok hl hw
  refine ⟨_, roomy_ok hl, cur f p, by rw [take_rooms rfl]; exact w1, mdl l p, w2, (p, ⟨f, p⟩), rfl, (p, ⟨l, p⟩), rfl, ?_⟩
  rw [if_pos rfl]
  refine ⟨true, stays_ok hl, ?_⟩
  show trellislaw15_TreeWalks_j1 _ ms false l p f.nodes f.parent f.end_ f.ok p true
  unfold trellislaw15_TreeWalks_j1
  rw [if_neg (by simp)]
  refine Rounds.to (fun s : (List api_Node) × Int => ∃ (j : Nat) (zs : List api_Node), s = (zs ++ rooms, (j : Int)) ∧ j ≤ t.length ∧ zs.length = t.length ∧ Wf zs) (fun s => t.length - s.2.toNat) (fun s hs => ?_) ⟨0, t, rfl, Nat.zero_le _, rfl, hw⟩
  obtain ⟨j, zs, rfl, h1, h2, h3⟩ := hs
  simp only [Int.toNat_natCast]
  by_cases hj : j < t.length
  ·right
   refine ⟨((zs.set j ⟨(⟨#[]⟩ : ByteArray), false, (⟨#[]⟩ : ByteArray), 0, 0, -1, 0⟩) ++ rooms, ((j + 1 : Nat) : Int)), ?_, ⟨j + 1, _, rfl, hj, by rw [List.length_set]; exact h2, fun n hn => ?_⟩, by simp only [Int.toNat_natCast]; omega⟩
   ·unfold trellislaw15_TreeWalks_b2
    dsimp only
    rw [take_rooms h2, if_pos (by omega), w64_nat (by omega)]
    refine ⟨by omega, _, rfl, ?_⟩
    rw [Int.toNat_natCast, List.set_append_left _ _ (by omega)]
    rfl
   ·rcases List.mem_or_eq_of_mem_set hn with g | rfl
    ·exact h3 n g
    ·exact ⟨by decide, by decide⟩
  ·left
   have hlz : Fits zs := by unfold Fits; omega
   obtain ⟨f2, l2, p2, h', hp', v1, v2⟩ := walk_ok hlz h3
   unfold trellislaw15_TreeWalks_b2
   dsimp only
   rw [take_rooms h2, if_neg (by omega)]
   refine ⟨_, twin_ok hlz, _, v2, _, v1, (p2, ⟨f2, p2⟩), rfl, (p2, ⟨l2, p2⟩), rfl, ?_⟩
   rw [if_pos rfl]
   exact moves_run hl h hms hp
end Go.Proofs.Ytmekgfcfooghnaa.L
