/- The law ChooseInner. Conditions: the list fits in memory, its numbers are ints. -/
import Derived.Test.YtoifgnogoddmlaaH3
namespace Go.Proofs.Ytoifgnogoddmlaa.L
open Go.Proofs.Ytoifgnogoddmlaa.B Go.Proofs.Ytoifgnogoddmlaa.R
theorem par_at {t : List api_Node} (hl : Fits t) (hw : Wf t) {S : List (Tre × Nat)} (h : sf t 0 = some S) {v : Nat} (hv : v < t.length) : PR t 0 S.length (-1) v (parF t (v : Int)) := by
  obtain ⟨f, f1, f2⟩ := plant_ok (t := t) (by omega) hw
  have := (f2.2.2.2.2 S h v hv).1
  rw [parF_eq ⟨S, h, v, rfl, hv, this⟩]
  exact this
theorem way_spec {t : List api_Node} (hl : Fits t) (hw : Wf t) (q : api_Range) {S : List (Tre × Nat)} (h : sf t 0 = some S) : Chain t (-1) (wayF t q) ∧ ∀ v, v < t.length → parF t (v : Int) = lastD (-1) (wayF t q) → hasN (ix t (v : Int)) q = false := by
  have hA : At t 0 S := ⟨Nat.zero_le _, h⟩
  have := wayG_spec q (t.length + 1) 0 (m := S.length) (p := -1) hA (Nat.le_refl _) (by omega) (by omega) (fun i q' hi => by
    have h2 := hi.lt hA (Nat.le_refl _)
    rw [List.take_length, hA.ens] at h2
    exact ⟨S, h, i, rfl, h2, hi⟩)
  rw [List.take_length, hA.ens] at this
  unfold wayF
  rw [h]
  simp only [Option.isSome_some, if_true]
  exact ⟨this.1, fun v hv e => this.2 v _ (par_at hl hw h hv) e⟩
theorem chain_run {t : List api_Node} (hl : Fits t) (hw : Wf t) {x : api_Range} {c : Int} : ∀ (n : Nat) {l : List Nat}, l.length = n → Chain t (-1) l → (∀ v ∈ l, v < t.length ∧ (ix t (v : Int)).from_ ≤ x.from_ ∧ (ix t (v : Int)).to ≥ c) →
    Rounds (fun (s : Int) o => trellislaw32_ChooseInner_b5 t x c s o) (lastD (-1) l) (Sum.inr true : Sum Int Bool) := by
  intro n
  induction n with
  | zero =>
    intro l hn _ _
    obtain rfl := List.eq_nil_of_length_eq_zero hn
    refine Rounds.done ?_
    show trellislaw32_ChooseInner_b5 t x c (-1) _
    unfold trellislaw32_ChooseInner_b5
    rw [if_neg (by omega)]
  | succ n ih =>
    intro l hn hc hm
    rcases List.eq_nil_or_concat l with rfl | ⟨l1, v, rfl⟩
    · simp at hn
    · rw [List.concat_eq_append] at *
      obtain ⟨c1, c2⟩ := hc.snoc
      obtain ⟨g1, g2, g3⟩ := hm v (by simp)
      have e : lastD (-1) (l1 ++ [v]) = (v : Int) := by unfold lastD; simp
      rw [e]
      refine Rounds.next (s' := lastD (-1) l1) ?_ (ih (by simpa using hn) c1 fun u hu => hm u (by simp [hu]))
      show trellislaw32_ChooseInner_b5 t x c (v : Int) _
      unfold trellislaw32_ChooseInner_b5
      rw [if_pos (by omega), if_neg (by omega), if_neg (by omega)]
      exact ⟨by omega, _, Parent_ok hl hw _, by rw [parF_eq c2]⟩
theorem innerLaw {t : List api_Node} (hl : Fits t) (hw : Wf t) (x : api_Range) : trellislaw32_ChooseInner t x true := by
  unfold trellislaw32_ChooseInner
  refine ⟨true, started_ok, ?_⟩
  rw [if_pos rfl]
  obtain ⟨b, hb⟩ := beyond_ok (t := t) hl hw
  refine ⟨b, hb, ?_⟩
  cases b with
  | true => rw [if_pos rfl]
  | false =>
    rw [if_neg (by simp)]
    refine ⟨_, Cover_ok hl hw x, ?_⟩
    have key : trellislaw32_ChooseInner_j1 t (coverF t x) x (tkn x).to true := by
      unfold trellislaw32_ChooseInner_j1
      refine ⟨_, Roots_ok hl hw, ?_⟩
      unfold coverF
      cases h : sf t 0 with
      | none =>
        rw [if_pos (num_neg.2 (by rw [h]; rfl))]
        unfold wayF
        rw [h]
        rfl
      | some S =>
        rw [if_neg (fun g => by have := num_neg.1 g; rw [h] at this; cases this)]
        obtain ⟨w1, w2⟩ := way_spec hl hw (tkn x) h
        have hm := wayF_mem (t := t) (q := tkn x)
        have hlast : -1 ≤ lastD (-1) (wayF t (tkn x)) ∧ lastD (-1) (wayF t (tkn x)) < (t.length : Int) := by
          rcases lastD_mem (-1) (wayF t (tkn x)) with ⟨_, h1⟩ | ⟨v, hv, h1⟩
          · rw [h1]; omega
          · rw [h1]; have := (hm v hv).1; omega
        rw [if_neg (by omega), decide_eq_false (by omega)]
        unfold trellislaw32_ChooseInner_j2
        rw [if_neg (by simp)]
        refine Rounds.cnt (B := fun (s : Int) o => trellislaw32_ChooseInner_b3 t x (lastD (-1) (wayF t (tkn x))) (tkn x).to s o) t.length (fun v hv => ?_) ?_
        · unfold trellislaw32_ChooseInner_b3
          rw [if_pos (by omega)]
          refine ⟨by omega, ?_⟩
          have h2 := w2 v hv
          have j4 : ∀ c : Bool, (parF t (v : Int) = lastD (-1) (wayF t (tkn x)) → c = false) → trellislaw32_ChooseInner_j4 t (v : Int) (lastD (-1) (wayF t (tkn x))) c (.inl ((v : Int) + 1)) := fun c hc => by
            unfold trellislaw32_ChooseInner_j4
            refine ⟨_, Parent_ok hl hw _, ?_⟩
            by_cases g : parF t (v : Int) = lastD (-1) (wayF t (tkn x))
            · rw [if_pos g, hc g, if_neg (by simp), w64_nat (by omega)]
            · rw [if_neg g, w64_nat (by omega)]
          split
          · rename_i g
            refine j4 _ fun hp => ?_
            have := h2 hp
            unfold hasN at this
            rw [show (decide ((ix t (v : Int)).from_ ≤ (tkn x).from_)) = true from decide_eq_true g, Bool.true_and] at this
            exact this
          · exact j4 _ fun _ => rfl
        · unfold trellislaw32_ChooseInner_b3
          rw [if_neg (by omega)]
          exact chain_run hl hw _ rfl w1 fun v hv => ⟨(hm v hv).1, (hasN_true.1 (hm v hv).2).1, (hasN_true.1 (hm v hv).2).2⟩
    split
    · rename_i g
      have e : (tkn x).to = x.from_ := by unfold tkn; show max x.from_ x.to = x.from_; omega
      rw [e] at key
      exact key
    · rename_i g
      have e : (tkn x).to = x.to := by unfold tkn; show max x.from_ x.to = x.to; omega
      rw [e] at key
      exact key
end Go.Proofs.Ytoifgnogoddmlaa.L
