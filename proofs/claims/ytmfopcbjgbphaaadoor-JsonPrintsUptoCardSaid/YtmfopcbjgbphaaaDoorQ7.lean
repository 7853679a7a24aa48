/- JSON: copies, lists that are written over; the law JsonAsks. Condition: sizes. -/
import Derived.Test.YtmfopcbjgbphaaaDoorQ6
set_option linter.unusedVariables false
namespace Go.Proofs.YtmfopcbjgbphaaaDoor.L
open Go.Proofs.YtmfopcbjgbphaaaDoor.B Go.Proofs.YtmfopcbjgbphaaaDoor.R
def ArgN (B : Nat) (v : List api_JNode) : Prop := v.length * 48 ≤ 140737488351232 ∧ ∀ x ∈ v, x.key.size ≤ B ∧ x.text.size ≤ B ∧ In64 x.kids
abbrev Arg (v : List api_JNode) : Prop := ArgN 140737488351232 v
theorem ArgN.szN {B : Nat} {v : List api_JNode} (h : ArgN B v) (hB : B ≤ 2 ^ 48) : Sz v := ⟨by have := h.1; omega, fun x hx => by have := h.2 x hx; omega⟩
theorem ArgN.up {B C : Nat} {v : List api_JNode} (h : ArgN B v) (hB : B ≤ C) : ArgN C v := ⟨h.1, fun x hx => by have := h.2 x hx; exact ⟨by omega, by omega, this.2.2⟩⟩
theorem Arg.sz {v : List api_JNode} (h : Arg v) : Sz v := h.szN (by omega)
section
variable {v : List api_JNode}
theorem twin_ok (hv : Sz v) : trellislaw25_twin v v := by
 have hl := hv.1
 have := Rounds.upto (B := fun (s : (List api_JNode) × Int) o => trellislaw25_twin_b1 v s.1 s.2 o) (r := v) (fun i => (v.take i, (i : Int))) v.length (fun i hi => ?_) ?_
 ·exact this
 ·show trellislaw25_twin_b1 _ _ _ _
  unfold trellislaw25_twin_b1
  rw [if_pos (by omega)]
  refine ⟨by omega, _, rfl, ?_, ?_⟩
  ·rw [List.length_append, List.length_take, List.length_singleton]; omega
  ·rw [w64_nat (by omega), ix_nat hi, ← List.take_succ_eq_append_getElem hi]
   rfl
 ·show trellislaw25_twin_b1 _ _ _ _
  unfold trellislaw25_twin_b1
  rw [if_neg (by omega), List.take_length]
abbrev mark : api_JNode := ⟨0, ⟨#[109, 97, 114, 107]⟩, ⟨#[]⟩, 0⟩
theorem roomy_ok (hv : Arg v) : trellislaw25_roomy v (v ++ [mark, mark]) := by
 have hl := hv.1
 exact ⟨v, twin_ok hv.sz, _, rfl, by rw [List.length_append]; simp only [List.length_cons, List.length_nil]; omega, rfl⟩
theorem same_ok {w : List api_JNode} (hv : v.length ≤ 2 ^ 42) : trellislaw25_same v w (decide (v = w)) := by
 unfold trellislaw25_same
 by_cases hl : v.length = w.length
 ·rw [if_pos (by omega)]
  by_cases e : v = w
  ·subst e
   rw [decide_eq_true rfl]
   refine Rounds.cnt v.length (fun i hi => ?_) ?_
   ·unfold trellislaw25_same_b1
    rw [if_pos (by omega)]
    refine ⟨by omega, by omega, ?_⟩
    rw [if_pos rfl, w64_nat (by omega)]
   ·unfold trellislaw25_same_b1
    rw [if_neg (by omega)]
  ·rw [decide_eq_false e]
   have h1 : v.all (fun _ => true) = true := List.all_eq_true.2 fun _ _ => rfl
   have key : ∃ n, n < v.length ∧ (∀ i, i < n → ix v (i : Int) = ix w (i : Int)) ∧ ¬ ix v (n : Int) = ix w (n : Int) := by
    have ex : ∃ n, n < v.length ∧ ¬ ix v (n : Int) = ix w (n : Int) := by
     refine Classical.byContradiction fun hno => e (List.ext_getElem hl fun i h1 h2 => ?_)
     have : ix v (i : Int) = ix w (i : Int) := Classical.byContradiction fun h => hno ⟨i, h1, h⟩
     rwa [ix_nat h1, ix_nat h2] at this
    obtain ⟨n, hn⟩ := ex
    induction n using Nat.strongRecOn with
    | _ n ih =>
     by_cases g : ∀ i, i < n → ix v (i : Int) = ix w (i : Int)
     ·exact ⟨n, hn.1, g, hn.2⟩
     ·obtain ⟨i, hi⟩ := Classical.not_forall.1 g
      obtain ⟨hi1, hi2⟩ := Classical.not_imp.1 hi
      exact ih i hi1 ⟨by omega, hi2⟩
   obtain ⟨n, n1, n2, n3⟩ := key
   refine Rounds.cnt n (fun i hi => ?_) ?_
   ·unfold trellislaw25_same_b1
    rw [if_pos (by omega)]
    refine ⟨by omega, by omega, ?_⟩
    rw [if_pos (n2 i hi), w64_nat (by omega)]
   ·unfold trellislaw25_same_b1
    rw [if_pos (by omega)]
    refine ⟨by omega, by omega, ?_⟩
    rw [if_neg n3]
 ·rw [if_neg (by omega), decide_eq_false (fun e => hl (by rw [e]))]
theorem spared_ok (hv : v.length ≤ 2 ^ 42) : trellislaw25_spared (v ++ [mark, mark]) v true := by
 have hlen : (v ++ [mark, mark]).length = v.length + 2 := by rw [List.length_append]; rfl
 have e0 : ix (v ++ [mark, mark]) (v.length : Int) = mark := ix_app v mark [mark]
 have e1 : ix (v ++ [mark, mark]) ((v.length + 1 : Nat) : Int) = mark := by
  have := ix_app (v ++ [mark]) mark []
  rw [List.append_assoc, List.length_append] at this
  exact this
 unfold trellislaw25_spared
 refine ⟨by omega, true, ?_, ?_⟩
 ·rw [Int.toNat_natCast, List.take_left]
  have := same_ok (v := v) (w := v) hv
  rwa [decide_eq_true rfl] at this
 ·rw [if_pos rfl]
  refine ⟨by omega, ?_⟩
  rw [if_pos e0, w64_nat (by omega)]
  refine ⟨by omega, ?_⟩
  have e2 : ix (v ++ [mark, mark]) ((v.length : Int) + 1) = mark := e1
  rw [e2]
  exact (decide_eq_true rfl).symm
theorem over_ok {B : Nat} (hv : ArgN B v) : ∃ w, trellislaw25_over v w ∧ ArgN B w ∧ w.length = v.length ∧ w.map (·.kids) = v.map (·.kids) := by
 have hl : v.length ≤ 2 ^ 42 := by have := hv.1; omega
 refine Rounds.some (B := fun (s : (List api_JNode) × Int) o => trellislaw25_over_b1 s.1 s.2 o) (P := fun w => ArgN B w ∧ w.length = v.length ∧ w.map (·.kids) = v.map (·.kids)) (fun s => ArgN B s.1 ∧ s.1.length = v.length ∧ s.1.map (·.kids) = v.map (·.kids) ∧ 0 ≤ s.2 ∧ s.2 ≤ (v.length : Int)) (fun s => v.length - s.2.toNat) (fun s hs => ?_) (s := (v, 0)) ⟨hv, rfl, rfl, by omega, by omega⟩
 obtain ⟨x, i⟩ := s
 obtain ⟨h1, h2, h3, h4, h5⟩ := hs
 dsimp only at h1 h2 h3 h4 h5
 show (∃ r, trellislaw25_over_b1 x i (.inr r) ∧ _) ∨ ∃ s', trellislaw25_over_b1 x i (.inl s') ∧ _
 by_cases hi : i < (x.length : Int)
 ·right
  have hb : ∀ y z : List api_JNode, y = x.set i.toNat { (ix x i) with key := (ix x ((x.length : Int) - 1)).key } → z = y.set i.toNat { (ix y i) with text := (ix y ((y.length : Int) - 1)).text } → trellislaw25_over_b1 x i (.inl (z, i + 1)) := fun y z hy hz => by
   have hyl : y.length = x.length := by rw [hy, List.length_set]
   unfold trellislaw25_over_b1
   rw [if_pos hi, w64_id (x := (x.length : Int) - 1) (by omega)]
   refine ⟨by omega, by omega, y, hy, ?_⟩
   rw [w64_id (x := (y.length : Int) - 1) (by omega), w64_id (x := i + 1) (by omega)]
   exact ⟨by omega, by omega, z, hz, rfl⟩
  have inw : ∀ (y : List api_JNode) (j : Int), 0 ≤ j → j < (y.length : Int) → ix y j ∈ y := fun y j g1 g2 => by
   obtain ⟨n, rfl⟩ : ∃ n : Nat, j = (n : Int) := ⟨j.toNat, by omega⟩
   rw [ix_nat (by omega)]; exact List.getElem_mem _
  have kds : ∀ (y : List api_JNode) (j : Int) (z : api_JNode), 0 ≤ j → j < (y.length : Int) → z.kids = (ix y j).kids → (y.set j.toNat z).map (·.kids) = y.map (·.kids) := fun y j z g1 g2 g3 => by
   obtain ⟨n, rfl⟩ : ∃ n : Nat, j = (n : Int) := ⟨j.toNat, by omega⟩
   rw [Int.toNat_natCast, List.map_set, g3, ix_nat (by omega)]
   refine List.ext_getElem (by rw [List.length_set]) fun a a1 a2 => ?_
   rw [List.getElem_set]
   by_cases e : n = a
   ·subst e; rw [if_pos rfl, List.getElem_map]
   ·rw [if_neg e]
  have args : ∀ (y : List api_JNode) (j : Int) (z : api_JNode), ArgN B y → (z.key.size ≤ B ∧ z.text.size ≤ B ∧ In64 z.kids) → ArgN B (y.set j.toNat z) := fun y j z g1 g2 => by
   refine ⟨by rw [List.length_set]; exact g1.1, fun q hq => ?_⟩
   rcases List.mem_or_eq_of_mem_set hq with hq | rfl
   ·exact g1.2 q hq
   ·exact g2
  have hxi := h1.2 _ (inw x i h4 hi)
  have hxl := h1.2 _ (inw x ((x.length : Int) - 1) (by omega) (by omega))
  obtain ⟨y, hyd⟩ : ∃ y, y = x.set i.toNat { (ix x i) with key := (ix x ((x.length : Int) - 1)).key } := ⟨_, rfl⟩
  obtain ⟨z, hzd⟩ : ∃ z, z = y.set i.toNat { (ix y i) with text := (ix y ((y.length : Int) - 1)).text } := ⟨_, rfl⟩
  have hy : y.length = x.length := by rw [hyd, List.length_set]
  have hz : z.length = y.length := by rw [hzd, List.length_set]
  have ay : ArgN B y := by rw [hyd]; exact args x i _ h1 ⟨hxl.1, hxi.2.1, hxi.2.2⟩
  have ky : y.map (·.kids) = x.map (·.kids) := by rw [hyd]; exact kds x i _ h4 hi rfl
  have hyi := ay.2 _ (inw y i h4 (by omega))
  have hyl := ay.2 _ (inw y ((y.length : Int) - 1) (by omega) (by omega))
  have az : ArgN B z := by rw [hzd]; exact args y i _ ay ⟨hyi.1, hyl.2.1, hyi.2.2⟩
  have kz : z.map (·.kids) = y.map (·.kids) := by rw [hzd]; exact kds y i _ h4 (by omega) rfl
  exact ⟨(z, i + 1), hb y z hyd hzd, ⟨az, by dsimp only; omega, kz.trans (ky.trans h3), by dsimp only; omega, by dsimp only; omega⟩, by dsimp only; omega⟩
 ·left
  refine ⟨x, ?_, h1, h2, h3⟩
  unfold trellislaw25_over_b1
  rw [if_neg hi]
theorem bey_kids : ∀ (v w : List api_JNode) (st : List Int), w.map (·.kids) = v.map (·.kids) → bey w st = bey v st
 | [], [], st, h => rfl
 | [], y :: w, st, h => by simp at h
 | x :: v, [], st, h => by simp at h
 | x :: v, y :: w, st, h => by
  rw [List.map_cons, List.map_cons] at h
  injection h with h1 h2
  have h1' : y.kids = x.kids := h1
  unfold bey
  rw [h1', bey_kids v w _ h2]
theorem asks_tail {w : List api_JNode} (hw : Sz w) (hs : Saf w.length w 1) (key : ByteArray) : Rounds (fun (s : Int) o => trellislaw25_JsonAsks_b6 w w key s o) 0 (.inr true) := by
 have hl := hw.1
 have hstop : ∀ i : Nat, ¬ (i < w.length ∧ i < 20) → trellislaw25_JsonAsks_b6 w w key (i : Int) (.inr (.inr true)) := fun i h => by
  unfold trellislaw25_JsonAsks_b6
  by_cases g : (i : Int) < (w.length : Int)
  ·rw [if_pos g, decide_eq_false (by omega)]
   unfold trellislaw25_JsonAsks_j7
   rw [if_neg (by simp)]
  ·rw [if_neg g]
   unfold trellislaw25_JsonAsks_j7
   rw [if_neg (by simp)]
 refine Rounds.cnt (min w.length 20) (fun i hi => ?_) (hstop _ (by omega))
 unfold trellislaw25_JsonAsks_b6
 rw [if_pos (by omega), decide_eq_true (by omega)]
 unfold trellislaw25_JsonAsks_j7
 rw [if_pos rfl]
 obtain ⟨a, a1, a2⟩ := int_ok2 hw hs (i : Int)
 obtain ⟨b, b1, b2⟩ := member_ok hw hs (i : Int) key
 refine ⟨a, a1, a, a2, b, b1, b, b2, ?_⟩
 rw [if_pos rfl, if_pos rfl, if_neg (by simp), w64_nat (by omega)]
theorem asks_law (hv : Arg v) (at_ : Int) (key : ByteArray) : trellislaw25_JsonAsks v at_ key true := by
 have hz := hv.sz
 have hl := hz.1
 unfold trellislaw25_JsonAsks
 refine ⟨_, rbeyond_ok hl (fun x hx => (hv.2 x hx).2.2), ?_⟩
 by_cases hb : bey v [] = true
 ·rw [if_pos hb]
 rw [if_neg hb]
 rw [Bool.not_eq_true] at hb
 have hs := saf_of hl hb
 obtain ⟨m, m1, m2⟩ := member_ok hz hs at_ key
 obtain ⟨n, n1, n2⟩ := int_ok2 hz hs at_
 have htake : (v ++ [mark, mark]).take ((v.length : Int) : Int).toNat = v := by rw [Int.toNat_natCast, List.take_left]
 refine ⟨_, twin_ok hz, _, roomy_ok hv, by rw [List.length_append]; simp only [List.length_cons, List.length_nil]; omega, v, htake.symm, m, m1, n, n1, n, n2, m, m2, ?_⟩
 rw [if_pos rfl, if_pos rfl, if_neg (by simp)]
 refine ⟨_, spared_ok hl, ?_⟩
 unfold trellislaw25_JsonAsks_j1
 rw [if_neg (by simp)]
 obtain ⟨w, o1, o2, o3, o4⟩ := over_ok hv
 have hw := Arg.sz o2
 have hsw : Saf w.length w 1 := saf_of hw.1 (by rw [bey_kids v w [] o4]; exact hb)
 have main : ∀ last : ByteArray, trellislaw25_JsonAsks_j2 v at_ key last true := by
  intro last
  unfold trellislaw25_JsonAsks_j2
  have hend : trellislaw25_JsonAsks_j4 v ((min v.length 20 : Nat) : Int) last at_ key false (.inr true) := by
   unfold trellislaw25_JsonAsks_j4
   rw [if_neg (by simp)]
   obtain ⟨a, a1, a2⟩ := int_ok2 hw hsw at_
   obtain ⟨b, b1, b2⟩ := member_ok hw hsw at_ key
   refine ⟨w, o1, w, twin_ok hw, a, a1, a, a2, b, b1, b, b2, ?_⟩
   rw [if_pos rfl, if_pos rfl]
   unfold trellislaw25_JsonAsks_j5
   rw [if_neg (by simp)]
   exact asks_tail hw hsw last
  refine Rounds.cnt (min v.length 20) (fun i hi => ?_) ?_
  ·unfold trellislaw25_JsonAsks_b3
   rw [if_pos (by omega), decide_eq_true (by omega)]
   unfold trellislaw25_JsonAsks_j4
   rw [if_pos rfl]
   obtain ⟨a, a1, a2⟩ := int_ok2 hz hs (i : Int)
   obtain ⟨b, b1, b2⟩ := member_ok hz hs (i : Int) last
   exact ⟨b, b1, a, a1, by rw [w64_nat (by omega)]⟩
  ·unfold trellislaw25_JsonAsks_b3
   by_cases g : ((min v.length 20 : Nat) : Int) < (v.length : Int)
   ·rw [if_pos g, decide_eq_false (by omega)]
    exact hend
   ·rw [if_neg g]
    exact hend
 by_cases hpos : (v.length : Int) > 0
 ·rw [if_pos hpos, w64_id (by omega)]
  exact ⟨by omega, main _⟩
 ·rw [if_neg hpos]
  exact main _
end
end Go.Proofs.YtmfopcbjgbphaaaDoor.L
