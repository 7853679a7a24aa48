/- Ways: the nodes on the way to a range, and what Cover, Grow and Steps make of them. No condition. -/
import Derived.Test.YtoifgnogoddmlaaF7
namespace Go.Proofs.Ytoifgnogoddmlaa.L
open Go.Proofs.Ytoifgnogoddmlaa.B Go.Proofs.Ytoifgnogoddmlaa.R
def hasN (n : api_Node) (q : api_Range) : Bool := decide (n.from_ ≤ q.from_) && decide (n.to ≥ q.to)
theorem hasN_true {n : api_Node} {q : api_Range} : hasN n q = true ↔ n.from_ ≤ q.from_ ∧ n.to ≥ q.to := by simp [hasN]
theorem hasN_ok (n : api_Node) (q : api_Range) : choose_has n q (hasN n q) := by
  unfold choose_has hasN
  by_cases h : n.from_ ≤ q.from_
  · rw [if_pos h, decide_eq_true h, Bool.true_and]
  · rw [if_neg h, decide_eq_false h, Bool.false_and]
/-- the way within a segment -/
def wayG (t : List api_Node) (q : api_Range) : Nat → Nat → Nat → List Nat
  | 0, _, _ => []
  | f + 1, a, e => if a < e then (if hasN (ix t (a : Int)) q = true then a :: wayG t q f (a + 1) (endF t a) else wayG t q f (endF t a) e) else []
def wayF (t : List api_Node) (q : api_Range) : List Nat := if (sf t 0).isSome = true then wayG t q (t.length + 1) 0 t.length else []
def wayI (t : List api_Node) (q : api_Range) : List Int := (wayF t q).map fun (n : Nat) => (n : Int)
/-- the head of a segment -/
theorem seg_head {t : List api_Node} {a m : Nat} {S : List (Tre × Nat)} (h : At t a S) (hm : m ≤ S.length) (hlt : a < en a (S.take m)) : ∃ x e r ts m', S = (x, e) :: r ∧ m = m' + 1 ∧ m' ≤ r.length ∧ a < t.length ∧ a < e ∧ e ≤ t.length ∧ endF t a = e ∧
    At t e r ∧ en e (r.take m') = en a (S.take m) ∧ At t (a + 1) (ts ++ r) ∧ en (a + 1) ((ts ++ r).take ts.length) = e ∧ x.kids.length = ts.length := by
  match m, S, hm with
  | 0, S, _ => simp [en_nil] at hlt
  | m' + 1, [], hm => simp at hm
  | m' + 1, (x, e) :: r, hm =>
    obtain ⟨h1, h2, h3, h4, h5⟩ := h.pos
    obtain ⟨ts, k1, k2, k3, k4, k5⟩ := h.kids h1
    refine ⟨x, e, r, ts, m', rfl, rfl, by simpa using hm, h1, h3, h4, end_at h, h5, ?_, k1, ?_, by rw [k2, List.length_map]⟩
    · rw [List.take_succ_cons, en_cons]
    · rw [List.take_append_of_le_length (Nat.le_refl _), List.take_length, k3]
theorem seg_le {t : List api_Node} {a m : Nat} {S : List (Tre × Nat)} (h : At t a S) (hm : m ≤ S.length) : en a (S.take m) ≤ t.length := by
  have := (At.skip (t.length - a) a rfl h m hm).1
  exact this.1
theorem wayG_run {t : List api_Node} (hl : Fits t) (q : api_Range) : ∀ (f a : Nat) {S : List (Tre × Nat)} {m : Nat} {out : List Int}, At t a S → m ≤ S.length → t.length - a < f → out.length ≤ a →
    Rounds (fun (s : (List Int) × Int × Int) o => choose_way_b1 t q (szL t) s.1 s.2.1 s.2.2 o) (out, (a : Int), (en a (S.take m) : Int)) (out ++ (wayG t q f a (en a (S.take m))).map fun (n : Nat) => (n : Int)) := by
  intro f
  induction f with
  | zero => intro a S m out _ _ h; omega
  | succ f ih =>
    intro a S m out h hm hf ho
    unfold wayG
    by_cases hlt : a < en a (S.take m)
    · rw [if_pos hlt]
      obtain ⟨x, e, r, ts, m', rfl, rfl, g1, g2, g3, g4, g5, g6, g7, g8, g9, g10⟩ := seg_head h hm hlt
      have hsz : ix (szL t) (a : Int) = (e : Int) - (a : Int) := by rw [ix_nat (by rw [szL_len]; exact g2), szL_get g2, g5]
      have hend : w64 ((a : Int) + ix (szL t) (a : Int)) = (e : Int) := by rw [hsz, w64_id (by omega)]; omega
      have hb := szL_len t
      rw [g5]
      by_cases hh : hasN (ix t (a : Int)) q = true
      · rw [if_pos hh]
        have hi := ih (a + 1) (S := ts ++ r) (m := ts.length) (out := out ++ [(a : Int)]) g8 (by simp) (by omega) (by simp; omega)
        rw [g9] at hi
        refine Rounds.next (s' := (out ++ [(a : Int)], ((a + 1 : Nat) : Int), (e : Int))) ?_ ?_
        · show choose_way_b1 t q (szL t) out (a : Int) (en a (((x, e) :: r).take (m' + 1)) : Int) _
          unfold choose_way_b1
          rw [if_pos (by omega)]
          refine ⟨by omega, _, hasN_ok _ _, ?_⟩
          rw [if_pos hh]
          exact ⟨_, rfl, by simp; omega, by omega, by rw [w64_nat (by omega), hend]; rfl⟩
        · simpa [List.append_assoc] using hi
      · rw [if_neg hh]
        have hi := ih e (S := r) (m := m') (out := out) g6 g1 (by omega) (by omega)
        rw [g7] at hi
        refine Rounds.next (s' := (out, (e : Int), (en a (((x, e) :: r).take (m' + 1)) : Int))) ?_ hi
        show choose_way_b1 t q (szL t) out (a : Int) (en a (((x, e) :: r).take (m' + 1)) : Int) _
        unfold choose_way_b1
        rw [if_pos (by omega)]
        refine ⟨by omega, _, hasN_ok _ _, ?_⟩
        rw [if_neg hh]
        exact ⟨by omega, by rw [hend]⟩
    · rw [if_neg hlt]
      refine Rounds.done ?_
      show choose_way_b1 t q (szL t) out (a : Int) (en a (S.take m) : Int) _
      unfold choose_way_b1
      rw [if_neg (by omega), List.map_nil, List.append_nil]
theorem way_ok {t : List api_Node} (hl : Fits t) (hw : Wf t) (q : api_Range) : choose_way t q (wayI t q) := by
  unfold choose_way
  refine ⟨_, sizes_ok hl hw, ?_⟩
  unfold wayI wayF szF
  cases h : sf t 0 with
  | none =>
    rw [if_neg (by simp), if_neg (by simp)]
    refine Rounds.done ?_
    show choose_way_b1 t q [] [] 0 _ _
    unfold choose_way_b1
    rw [if_neg (by simp)]
    rfl
  | some S =>
    simp only [Option.isSome_some, if_true]
    have hA : At t 0 S := ⟨Nat.zero_le _, h⟩
    have hens := hA.ens
    have := wayG_run hl q (t.length + 1) 0 (m := S.length) (out := []) hA (Nat.le_refl _) (by omega) (Nat.le_refl _)
    rw [List.take_length, hens] at this
    rw [szL_len]
    simpa using this
/-- what is on the way lies in the segment, and is in order -/
theorem wayG_mem {t : List api_Node} (q : api_Range) : ∀ (f a : Nat) {S : List (Tre × Nat)} {m : Nat}, At t a S → m ≤ S.length → ∀ v ∈ wayG t q f a (en a (S.take m)), a ≤ v ∧ v < en a (S.take m) ∧ hasN (ix t (v : Int)) q = true := by
  intro f
  induction f with
  | zero => intro a S m _ _ v hv; simp [wayG] at hv
  | succ f ih =>
    intro a S m h hm v hv
    unfold wayG at hv
    by_cases hlt : a < en a (S.take m)
    · rw [if_pos hlt] at hv
      obtain ⟨x, e, r, ts, m', rfl, rfl, g1, g2, g3, g4, g5, g6, g7, g8, g9, g10⟩ := seg_head h hm hlt
      have hle : e ≤ en a (((x, e) :: r).take (m' + 1)) := by rw [← g7]; exact (At.skip (t.length - e) e rfl g6 m' g1).2.1
      rw [g5] at hv
      by_cases hh : hasN (ix t (a : Int)) q = true
      · rw [if_pos hh] at hv
        rcases List.mem_cons.1 hv with rfl | hv
        · exact ⟨Nat.le_refl _, hlt, hh⟩
        · have := ih (a + 1) (S := ts ++ r) (m := ts.length) g8 (by simp) v (by rw [g9]; exact hv)
          rw [g9] at this
          exact ⟨by omega, by omega, this.2.2⟩
      · rw [if_neg hh] at hv
        have := ih e g6 g1 v (by rw [g7]; exact hv)
        rw [g7] at this
        exact ⟨by omega, this.2⟩
    · rw [if_neg hlt] at hv
      simp at hv
def lastD (p : Int) (l : List Nat) : Int := (l.getLast?.map fun (n : Nat) => (n : Int)).getD p
theorem lastD_nil (p : Int) : lastD p [] = p := rfl
theorem lastD_cons (p : Int) (a : Nat) (l : List Nat) : lastD p (a :: l) = lastD (a : Int) l := by
  unfold lastD
  cases l with
  | nil => rfl
  | cons b l => rw [List.getLast?_cons_cons]; cases h : (b :: l).getLast? with
    | none => simp at h
    | some c => rfl
theorem lastD_mem (p : Int) (l : List Nat) : (l = [] ∧ lastD p l = p) ∨ ∃ v ∈ l, lastD p l = (v : Int) := by
  cases l with
  | nil => exact .inl ⟨rfl, rfl⟩
  | cons b l =>
    right
    obtain ⟨c, hc⟩ := Option.isSome_iff_exists.1 (show (b :: l).getLast?.isSome = true by simp)
    exact ⟨c, List.mem_of_getLast? hc, by unfold lastD; rw [hc]; rfl⟩
/-- a chain: each one's parent is the one ahead -/
def Chain (t : List api_Node) : Int → List Nat → Prop
  | _, [] => True
  | p, v :: l => ParOf t (v : Int) p ∧ Chain t (v : Int) l
theorem Chain.snoc {t : List api_Node} : ∀ {p : Int} {l : List Nat} {v : Nat}, Chain t p (l ++ [v]) → Chain t p l ∧ ParOf t (v : Int) (lastD p l)
  | p, [], v, h => ⟨trivial, h.1⟩
  | p, a :: l, v, h => by
    obtain ⟨h1, h2⟩ := Chain.snoc (l := l) h.2
    exact ⟨⟨h.1, h1⟩, by rw [lastD_cons]; exact h2⟩
theorem wayG_spec {t : List api_Node} (q : api_Range) : ∀ (f a : Nat) {S : List (Tre × Nat)} {m : Nat} {p : Int}, At t a S → m ≤ S.length → t.length - a < f → p < (a : Int) → (∀ i q', PR t a m p i q' → ParOf t (i : Int) q') →
    Chain t p (wayG t q f a (en a (S.take m))) ∧ ∀ (i : Nat) q', PR t a m p i q' → q' = lastD p (wayG t q f a (en a (S.take m))) → hasN (ix t (i : Int)) q = false := by
  intro f
  induction f with
  | zero => intro a S m p _ _ h; omega
  | succ f ih =>
    intro a S m p h hm hf hp hpr
    by_cases hlt : a < en a (S.take m)
    · have hmem := wayG_mem q (f + 1) a h hm
      obtain ⟨x, e, r, ts, m', rfl, rfl, g1, g2, g3, g4, g5, g6, g7, g8, g9, g10⟩ := seg_head h hm hlt
      have hall : ∀ i q', PR t (a + 1) ts.length (a : Int) i q' → a < i ∧ i < e ∧ PR t a (m' + 1) p i q' := fun i q' hi => by
        have h1 := hi.le
        have h2 := hi.lt g8 (by simp)
        rw [g9] at h2
        exact ⟨by omega, h2, .down h (by omega) h2 (by rw [g10]; exact hi)⟩
      have hnx : ∀ i q', PR t e m' p i q' → PR t a (m' + 1) p i q' := fun i q' hi => .next h hi.le hi
      unfold wayG at hmem ⊢
      rw [if_pos hlt] at hmem ⊢
      rw [g5] at hmem ⊢
      by_cases hh : hasN (ix t (a : Int)) q = true
      · rw [if_pos hh] at hmem ⊢
        have hi := ih (a + 1) (S := ts ++ r) (m := ts.length) (p := (a : Int)) g8 (by simp) (by omega) (by omega) (fun i q' hi => hpr i q' (hall i q' hi).2.2)
        have hin := wayG_mem q f (a + 1) (S := ts ++ r) (m := ts.length) g8 (by simp)
        rw [g9] at hi hin
        have hla : (a : Int) ≤ lastD (a : Int) (wayG t q f (a + 1) e) ∧ lastD (a : Int) (wayG t q f (a + 1) e) < (e : Int) := by
          rcases lastD_mem (a : Int) (wayG t q f (a + 1) e) with ⟨_, h1⟩ | ⟨v, hv, h1⟩
          · rw [h1]; omega
          · rw [h1]; have := hin v hv; omega
        refine ⟨⟨hpr a p .here, hi.1⟩, fun i q' hi' hq' => ?_⟩
        rw [lastD_cons] at hq'
        cases hi' with
        | here => omega
        | down h' h1' h2' k' =>
          have hx := At.uniq h h'
          simp only [List.cons.injEq, Prod.mk.injEq] at hx
          obtain ⟨⟨rfl, rfl⟩, rfl⟩ := hx
          rw [g10] at k'
          exact hi.2 i q' k' hq'
        | next h' h1' k' =>
          have hx := At.uniq h h'
          simp only [List.cons.injEq, Prod.mk.injEq] at hx
          obtain ⟨⟨rfl, rfl⟩, rfl⟩ := hx
          rcases k'.par with h3 | h3 <;> omega
      · rw [if_neg hh] at hmem ⊢
        have hi := ih e (S := r) (m := m') (p := p) g6 g1 (by omega) (by omega) (fun i q' hi => hpr i q' (hnx i q' hi))
        have hin := wayG_mem q f e (S := r) (m := m') g6 g1
        rw [g7] at hi hin
        refine ⟨hi.1, fun i q' hi' hq' => ?_⟩
        cases hi' with
        | here => exact Bool.eq_false_iff.2 hh
        | down h' h1' h2' k' =>
          have hx := At.uniq h h'
          simp only [List.cons.injEq, Prod.mk.injEq] at hx
          obtain ⟨⟨rfl, rfl⟩, rfl⟩ := hx
          rw [g10] at k'
          exfalso
          have h3 := k'.par
          rcases lastD_mem p (wayG t q f e (en a (((x, e) :: r).take (m' + 1)))) with ⟨_, h4⟩ | ⟨v, hv, h4⟩
          · rw [h4] at hq'; omega
          · have := (hin v hv).1
            rw [h4] at hq'; omega
        | next h' h1' k' =>
          have hx := At.uniq h h'
          simp only [List.cons.injEq, Prod.mk.injEq] at hx
          obtain ⟨⟨rfl, rfl⟩, rfl⟩ := hx
          exact hi.2 i q' k' hq'
    · unfold wayG
      rw [if_neg hlt]
      refine ⟨trivial, fun i q' hi' _ => ?_⟩
      have h1 := hi'.le
      have h2 := hi'.lt h hm
      omega
end Go.Proofs.Ytoifgnogoddmlaa.L
