/- Cover, Grow, Steps (of a nested forest), Beside: what they answer. No condition. -/
import Derived.Test.YtoifgnogoddmlaaH1
namespace Go.Proofs.Ytoifgnogoddmlaa.L
open Go.Proofs.Ytoifgnogoddmlaa.B Go.Proofs.Ytoifgnogoddmlaa.R
def tkn (x : api_Range) : api_Range := ⟨x.from_, max x.from_ x.to⟩
theorem wayG_len {t : List api_Node} (q : api_Range) : ∀ (f a : Nat) {S : List (Tre × Nat)} {m : Nat}, At t a S → m ≤ S.length → (wayG t q f a (en a (S.take m))).length + a ≤ en a (S.take m) := by
  intro f
  induction f with
  | zero => intro a S m h hm; simp [wayG]; exact (At.skip (t.length - a) a rfl h m hm).2.1
  | succ f ih =>
    intro a S m h hm
    unfold wayG
    by_cases hlt : a < en a (S.take m)
    · rw [if_pos hlt]
      obtain ⟨x, e, r, ts, m', rfl, rfl, g1, g2, g3, g4, g5, g6, g7, g8, g9, g10⟩ := seg_head h hm hlt
      have hle : e ≤ en a (((x, e) :: r).take (m' + 1)) := by rw [← g7]; exact (At.skip (t.length - e) e rfl g6 m' g1).2.1
      rw [g5]
      split
      · have := ih (a + 1) (S := ts ++ r) (m := ts.length) g8 (by simp)
        rw [g9] at this
        rw [List.length_cons]; omega
      · have := ih e g6 g1
        rw [g7] at this
        omega
    · rw [if_neg hlt]
      simp; exact (At.skip (t.length - a) a rfl h m hm).2.1
theorem wayF_len (t : List api_Node) (q : api_Range) : (wayF t q).length ≤ t.length := by
  unfold wayF
  cases h : sf t 0 with
  | none => simp
  | some S =>
    simp only [Option.isSome_some, if_true]
    have hA : At t 0 S := ⟨Nat.zero_le _, h⟩
    have := wayG_len q (t.length + 1) 0 (m := S.length) hA (Nat.le_refl _)
    rw [List.take_length, hA.ens] at this
    omega
theorem wayF_mem {t : List api_Node} {q : api_Range} : ∀ v ∈ wayF t q, v < t.length ∧ hasN (ix t (v : Int)) q = true := by
  intro v hv
  unfold wayF at hv
  cases h : sf t 0 with
  | none => rw [h] at hv; simp at hv
  | some S =>
    rw [h] at hv
    simp only [Option.isSome_some, if_true] at hv
    have hA : At t 0 S := ⟨Nat.zero_le _, h⟩
    have := wayG_mem q (t.length + 1) 0 (m := S.length) hA (Nat.le_refl _) v (by rw [List.take_length, hA.ens]; exact hv)
    rw [List.take_length, hA.ens] at this
    exact this.2
theorem wayI_mem {t : List api_Node} {q : api_Range} : ∀ y ∈ wayI t q, 0 ≤ y ∧ y < (t.length : Int) := by
  intro y hy
  obtain ⟨v, hv, rfl⟩ := List.mem_map.1 hy
  have := (wayF_mem v hv).1
  omega
theorem wayI_len (t : List api_Node) (q : api_Range) : (wayI t q).length ≤ t.length := by unfold wayI; rw [List.length_map]; exact wayF_len t q
def coverF (t : List api_Node) (x : api_Range) : Int := lastD (-1) (wayF t (tkn x))
theorem Cover_ok {t : List api_Node} (hl : Fits t) (hw : Wf t) (x : api_Range) : choose_Cover t x (coverF t x) := by
  unfold choose_Cover
  refine ⟨tkn x, rfl, _, way_ok hl hw _, ?_⟩
  have hn := wayI_len t (tkn x)
  unfold coverF
  unfold wayI at hn ⊢
  rcases List.eq_nil_or_concat (wayF t (tkn x)) with h | ⟨l, v, h⟩
  · rw [h, if_pos (by simp)]; rfl
  · rw [List.concat_eq_append] at h
    rw [h] at hn ⊢
    simp only [List.map_append, List.map_cons, List.map_nil, List.length_append, List.length_map, List.length_cons, List.length_nil] at hn ⊢
    rw [if_neg (by omega)]
    have e0 : w64 (((l.length + (0 + 1) : Nat) : Int) - 1) = (l.length : Int) := by rw [w64_id (by omega)]; omega
    rw [e0]
    refine ⟨by omega, ?_⟩
    have := ix_snoc (ys := l.map fun (n : Nat) => (n : Int)) (y := (v : Int))
    rw [List.length_map] at this
    rw [this]
    simp [lastD]
def growF (t : List api_Node) (x : api_Range) : api_Range := growB (fun y => byt (ix t y)) (tkn x) (wayI t (tkn x))
theorem Grow_ok {t : List api_Node} (hl : Fits t) (hw : Wf t) (x : api_Range) : choose_Grow t x (growF t x) := by
  have hn := wayI_len t (tkn x)
  exact ⟨tkn x, rfl, _, way_ok hl hw _, wayI_mem, by omega, rfl⟩
/-! ### nested -/
def kidsIn (t : List api_Node) (n : api_Node) : Nat → Nat → Bool
  | 0, _ => true
  | m + 1, a => hasN n (byt (ix t (a : Int))) && kidsIn t n m (endF t a)
def nestF (t : List api_Node) : Bool := !(sf t 0).isSome || (List.range t.length).all fun i => kidsIn t (ix t (i : Int)) (ix t (i : Int)).kids.toNat (i + 1)
theorem kidsIn_run {t : List api_Node} (hl : Fits t) (i : Nat) (hi : i < t.length) (k : Nat) (hk : (ix t (i : Int)).kids = (k : Int)) (hk2 : k ≤ t.length) : ∀ (m j a : Nat) {S : List (Tre × Nat)}, At t a S → m ≤ S.length → j + m = k →
    Rounds (fun (s : Int × Int) o => choose_nested_b2 t (i : Int) (szL t) s.1 s.2 o) ((a : Int), (j : Int)) (if kidsIn t (ix t (i : Int)) m a = true then Sum.inl ((i : Int) + 1) else Sum.inr false) := by
  intro m
  induction m with
  | zero =>
    intro j a S h hm hj
    refine Rounds.done ?_
    show choose_nested_b2 t (i : Int) (szL t) (a : Int) (j : Int) _
    unfold choose_nested_b2 kidsIn
    rw [if_neg (by omega), if_pos rfl, w64_nat (by omega)]
  | succ m ih =>
    intro j a S h hm hj
    match S, hm with
    | (x, e) :: r, hm =>
      obtain ⟨h1, h2, h3, h4, h5⟩ := h.pos
      have hsz : ix (szL t) (a : Int) = (e : Int) - (a : Int) := by rw [ix_nat (by rw [szL_len]; exact h1), szL_get h1, end_at h]
      unfold kidsIn
      rw [end_at h]
      by_cases hh : hasN (ix t (i : Int)) (byt (ix t (a : Int))) = true
      · rw [hh, Bool.true_and]
        refine Rounds.next (s' := ((e : Int), ((j + 1 : Nat) : Int))) ?_ (ih (j + 1) e h5 (by simpa using hm) (by omega))
        show choose_nested_b2 t (i : Int) (szL t) (a : Int) (j : Int) _
        unfold choose_nested_b2
        rw [if_pos (by omega)]
        refine ⟨by omega, _, rfl, _, hasN_ok _ _, ?_⟩
        rw [show hasN (ix t (i : Int)) ⟨(ix t (a : Int)).from_, (ix t (a : Int)).to⟩ = true from hh, if_pos rfl]
        exact ⟨by rw [szL_len]; omega, by rw [hsz, w64_id (by omega), w64_nat (by omega), show (a : Int) + ((e : Int) - (a : Int)) = (e : Int) by omega]; rfl⟩
      · rw [Bool.eq_false_iff.2 hh, Bool.false_and, if_neg (by simp)]
        refine Rounds.done ?_
        show choose_nested_b2 t (i : Int) (szL t) (a : Int) (j : Int) _
        unfold choose_nested_b2
        rw [if_pos (by omega)]
        refine ⟨by omega, _, rfl, _, hasN_ok _ _, ?_⟩
        rw [show hasN (ix t (i : Int)) ⟨(ix t (a : Int)).from_, (ix t (a : Int)).to⟩ = false from Bool.eq_false_iff.2 hh, if_neg (by simp)]
theorem nested_ok {t : List api_Node} (hl : Fits t) (hw : Wf t) : choose_nested t (nestF t) := by
  unfold choose_nested
  refine ⟨_, sizes_ok hl hw, ?_⟩
  unfold nestF szF
  cases h : sf t 0 with
  | none =>
    rw [if_neg (by simp)]
    refine Rounds.done ?_
    unfold choose_nested_b1
    rw [if_neg (by simp)]
    rfl
  | some S =>
    simp only [Option.isSome_some, if_true, Bool.not_true, Bool.false_or]
    have hstep : ∀ i (hi : i < t.length), Rounds (fun (s : Int × Int) o => choose_nested_b2 t (i : Int) (szL t) s.1 s.2 o) (w64 ((i : Int) + 1), 0) (if kidsIn t (ix t (i : Int)) (ix t (i : Int)).kids.toNat (i + 1) = true then Sum.inl ((i : Int) + 1) else Sum.inr false) := by
      intro i hi
      obtain ⟨S1, hA⟩ := At.from ⟨Nat.zero_le _, h⟩ i (Nat.le_of_lt hi)
      obtain ⟨ts, k1, k2, k3⟩ := hA.next hi
      have hlen := (sf_en _ _ k1.2).2
      rw [List.length_drop] at hlen
      have e : ix t (i : Int) = t[i] := ix_nat hi
      rw [w64_nat (by omega)]
      have := kidsIn_run hl i hi t[i].kids.toNat (by rw [e]; omega) (by omega) t[i].kids.toNat 0 (i + 1) k1 (by omega) (by omega)
      rw [e] at this ⊢
      exact this
    have hb := Rounds.all (List.range t.length) (fun i => kidsIn t (ix t (i : Int)) (ix t (i : Int)).kids.toNat (i + 1)) (B := fun (s : Int) o => choose_nested_b1 (szL t) t s o)
      (fun i hi hp => by
        rw [List.length_range] at hi
        rw [List.getElem_range] at hp
        unfold choose_nested_b1
        rw [if_pos (by rw [szL_len]; omega)]
        refine ⟨by omega, ?_⟩
        have := hstep i hi
        rwa [if_pos hp] at this)
      (fun i hi hp => by
        rw [List.length_range] at hi
        rw [List.getElem_range] at hp
        unfold choose_nested_b1
        rw [if_pos (by rw [szL_len]; omega)]
        refine ⟨by omega, ?_⟩
        have := hstep i hi
        rwa [if_neg (by rw [hp]; simp)] at this)
      (by
        unfold choose_nested_b1
        rw [List.length_range, szL_len, if_neg (by omega)])
    exact hb
def stepsF (t : List api_Node) (x : api_Range) : List api_Range := stepsB (fun y => byt (ix t y)) (tkn x) (wayI t (tkn x))
theorem Steps_nested {t : List api_Node} (hl : Fits t) (hw : Wf t) (x : api_Range) (hn : nestF t = true) : choose_Steps t x (stepsF t x) := by
  have hm := wayI_len t (tkn x)
  exact ⟨tkn x, rfl, _, nested_ok hl hw, fun h => (by rw [hn] at h; cases h), fun _ => ⟨_, way_ok hl hw _, wayI_mem, by omega, rfl⟩⟩
/-! ### Beside -/
theorem idx_val {l : List Int} (hl : l.length ≤ 2 ^ 60) {i : Nat} (hi : i < l.length) (h2 : ∀ j (hj : j < l.length), j < i → l[j] ≠ l[i]) : slices_Index_int_int l l[i] (i : Int) := by
  unfold slices_Index_int_int
  refine Rounds.cnt i (fun j hj => ?_) ?_
  · unfold slices_Index_int_int_b1
    rw [if_pos (by omega), ix_nat (show j < l.length by omega), if_neg (fun e => h2 j (by omega) hj e.symm), w64_nat (by omega)]
    exact ⟨by omega, rfl⟩
  · unfold slices_Index_int_int_b1
    rw [if_pos (by omega), ix_nat hi, if_pos rfl]
    exact ⟨by omega, rfl⟩
def besV (l : List Int) (k : Nat) (d : Int) : Int := if -(k : Int) ≤ d ∧ d ≤ (l.length : Int) - 1 - k then ix l (k + d) else -1
theorem beside_val {t : List api_Node} (hl : Fits t) (hw : Wf t) {l : List Int} {k : Nat} (hk : k < l.length) (hr : rowF t l[k] = l) (h2 : ∀ j (hj : j < l.length), j < k → l[j] ≠ l[k]) {d : Int} (hd : i64 d) : choose_Beside t l[k] d (besV l k d) := by
  have hn := row_len (t := t) (i := l[k])
  rw [hr] at hn
  have hd1 := hd.1
  have hd2 := hd.2
  unfold choose_Beside
  have hx := row_ok hl hw l[k]
  rw [hr] at hx
  refine ⟨_, hx, _, idx_val (by omega) hk h2, ?_⟩
  have w1 : w64 (0 - (k : Int)) = -(k : Int) := by rw [w64_id (by omega)]; omega
  have w2 : w64 ((w64 ((l.length : Int) - 1)) - (k : Int)) = (l.length : Int) - 1 - k := by rw [w64_id (x := (l.length : Int) - 1) (by omega), w64_id (by omega)]
  rw [w1, w2, if_neg (by omega)]
  unfold besV
  by_cases hin : -(k : Int) ≤ d ∧ d ≤ (l.length : Int) - 1 - k
  · rw [if_pos hin, if_neg (by omega), decide_eq_false (by omega)]
    unfold choose_Beside_j1
    rw [if_neg (by simp), w64_id (by omega)]
    exact ⟨by omega, rfl⟩
  · rw [if_neg hin]
    by_cases g : d < -(k : Int)
    · rw [if_pos g]
      unfold choose_Beside_j1
      rw [if_pos rfl]
    · rw [if_neg g, decide_eq_true (by omega)]
      unfold choose_Beside_j1
      rw [if_pos rfl]
end Go.Proofs.Ytoifgnogoddmlaa.L
