/- Rows: the nodes that stand beside a node. Conditions: the list fits in memory, its numbers are ints. -/
import Derived.Test.YtoifgnogoddmlaaH4
namespace Go.Proofs.Ytoifgnogoddmlaa.L
open Go.Proofs.Ytoifgnogoddmlaa.B Go.Proofs.Ytoifgnogoddmlaa.R
theorem At.mono {t : List api_Node} {a m : Nat} {S : List (Tre × Nat)} (h : At t a S) (hm : m ≤ S.length) : a ≤ en a (S.take m) := (At.skip (t.length - a) a rfl h m hm).2.1
theorem PR.seg {t : List api_Node} {a m : Nat} {p : Int} {i : Nat} {q : Int} (h : PR t a m p i q) : ∀ {S}, At t a S → m ≤ S.length → p < (a : Int) → ∃ a' S' m' k, At t a' S' ∧ m' ≤ S'.length ∧ k < m' ∧ en a' (S'.take k) = i ∧
    (∀ j, j < m' → PR t a m p (en a' (S'.take j)) q) ∧ (∀ q', PR t a m p (en a' (S'.take m')) q' → q' ≠ q) ∧ a ≤ a' ∧
    ((a' = a ∧ S' = S ∧ m' = m ∧ q = p) ∨ (∃ c x e r, q = ((c : Nat) : Int) ∧ At t c ((x, e) :: r) ∧ a' = c + 1 ∧ m' = x.kids.length)) := by
  have hroot : ∀ {a m : Nat} {p : Int} {S : List (Tre × Nat)}, At t a S → m ≤ S.length → (∀ j, j < m → PR t a m p (en a (S.take j)) p) ∧ (∀ q', PR t a m p (en a (S.take m)) q' → q' ≠ p) := by
    intro a m p S hA hm
    refine ⟨fun j hj => PR.skip j hA (Nat.le_of_lt hj) hm ?_, fun q' hq => absurd (hq.lt hA hm) (Nat.lt_irrefl _)⟩
    obtain ⟨m1, hm1⟩ : ∃ m1, m - j = m1 + 1 := ⟨m - j - 1, by omega⟩
    rw [hm1]
    exact .here
  induction h with
  | @here a m p =>
    intro S hA hm hp
    obtain ⟨h1, h2⟩ := hroot (p := p) hA hm
    exact ⟨a, S, m + 1, 0, hA, hm, by omega, by simp [en_nil], h1, h2, Nat.le_refl _, .inl ⟨rfl, rfl, rfl, rfl⟩⟩
  | @down a m p x e r i q hd h1 h2 k ih =>
    intro S hA hm hp
    obtain rfl := At.uniq hA hd
    obtain ⟨p1, p2, p3, p4, p5⟩ := hd.pos
    obtain ⟨ts, k1, k2, k3, k4, k5⟩ := hd.kids p1
    have hkl : x.kids.length = ts.length := by rw [k2, List.length_map]
    have htk : (ts ++ r).take x.kids.length = ts := by rw [hkl, List.take_append_of_le_length (Nat.le_refl _), List.take_length]
    obtain ⟨a', S', m', kk, g1, g2, g3, g4, g5, g6, g7, g8⟩ := ih k1 (by rw [hkl]; simp) (by omega)
    have hq := k.par
    have hqi : q < (i : Int) := by rcases hq with h | h <;> omega
    refine ⟨a', S', m', kk, g1, g2, g3, g4, fun j hj => ?_, fun q' hq' => ?_, by omega, ?_⟩
    · have u1 := (g5 j hj).le
      have u2 := (g5 j hj).lt k1 (by rw [hkl]; simp)
      rw [htk, k3] at u2
      exact .down hd (by omega) u2 (g5 j hj)
    · have u3 := g1.mono g2
      have u1 : a < en a' (S'.take m') := by omega
      cases hq' with
      | here => omega
      | down h' h1' h2' k' =>
        have hx := At.uniq hd h'
        simp only [List.cons.injEq, Prod.mk.injEq] at hx
        obtain ⟨⟨rfl, rfl⟩, rfl⟩ := hx
        exact g6 q' k'
      | next h' h1' k' =>
        have hx := At.uniq hd h'
        simp only [List.cons.injEq, Prod.mk.injEq] at hx
        obtain ⟨⟨rfl, rfl⟩, rfl⟩ := hx
        have := k'.par
        rcases hq with h | h <;> rcases this with g | g <;> omega
    · rcases g8 with ⟨rfl, rfl, rfl, rfl⟩ | g8
      · exact .inr ⟨a, x, e, r, rfl, hd, rfl, rfl⟩
      · exact .inr g8
  | @next a m p x e r i q hd h1 k ih =>
    intro S hA hm hp
    obtain rfl := At.uniq hA hd
    obtain ⟨p1, p2, p3, p4, p5⟩ := hd.pos
    obtain ⟨a', S', m', kk, g1, g2, g3, g4, g5, g6, g7, g8⟩ := ih p5 (by simpa using hm) (by omega)
    rcases g8 with ⟨rfl, rfl, rfl, rfl⟩ | g8
    · obtain ⟨h3, h4⟩ := hroot (p := q) hA hm
      exact ⟨a, (x, a') :: S', m' + 1, kk + 1, hA, hm, by omega, by rw [List.take_succ_cons, en_cons]; exact g4, h3, h4, Nat.le_refl _, .inl ⟨rfl, rfl, rfl, rfl⟩⟩
    · refine ⟨a', S', m', kk, g1, g2, g3, g4, fun j hj => ?_, fun q' hq' => ?_, by omega, .inr g8⟩
      · exact .next hd (g5 j hj).le (g5 j hj)
      · have u3 := g1.mono g2
        cases hq' with
        | here => omega
        | down h' h1' h2' k' =>
          have hx := At.uniq hd h'
          simp only [List.cons.injEq, Prod.mk.injEq] at hx
          obtain ⟨⟨rfl, rfl⟩, rfl⟩ := hx
          omega
        | next h' h1' k' =>
          have hx := At.uniq hd h'
          simp only [List.cons.injEq, Prod.mk.injEq] at hx
          obtain ⟨⟨rfl, rfl⟩, rfl⟩ := hx
          exact g6 q' k'
theorem row_struct {t : List api_Node} (hl : Fits t) (hw : Wf t) {S : List (Tre × Nat)} (h : sf t 0 = some S) {i : Nat} (hi : i < t.length) : ∃ (R : Nat → Nat) (m k : Nat), k < m ∧ m ≤ t.length ∧ R k = i ∧
    (∀ j, j < m → R j < t.length ∧ parF t (R j : Int) = parF t (i : Int) ∧ endF t (R j) = R (j + 1) ∧ R j < R (j + 1)) ∧ (R m < t.length → parF t (R m : Int) ≠ parF t (i : Int)) ∧
    ∀ j, j < m → rowF t (R j : Int) = (List.range m).map fun j => (R j : Int) := by
  have hA : At t 0 S := ⟨Nat.zero_le _, h⟩
  obtain ⟨a', S', m, k, g1, g2, g3, g4, g5, g6, g7, g8⟩ := (par_at hl hw h hi).seg hA (Nat.le_refl _) (by omega)
  have hpos : ∀ j (hj : j < m), en a' (S'.take j) < t.length ∧ (S'[j]'(by omega)).1.at_ = (en a' (S'.take j) : Int) ∧ endF t (en a' (S'.take j)) = en a' (S'.take (j + 1)) ∧ en a' (S'.take j) < en a' (S'.take (j + 1)) := by
    intro j hj
    obtain ⟨u1, u2⟩ := g1.nth (j := j) (by omega)
    obtain ⟨v1, v2, v3, v4, v5⟩ := u1.pos
    have e := en_take (a := a') (S := S') (j := j) (by omega)
    exact ⟨v1, v2, by rw [end_at u1, e], by rw [e]; exact v3⟩
  have hpar : ∀ j, j < m → parF t (en a' (S'.take j) : Int) = parF t (i : Int) := fun j hj => parF_eq ⟨S, h, _, rfl, (hpos j hj).1, g5 j hj⟩
  have hlen : m ≤ t.length := by
    have := (sf_en _ _ g1.2).2
    rw [List.length_drop] at this
    omega
  refine ⟨fun j => en a' (S'.take j), m, k, g3, hlen, g4, fun j hj => ⟨(hpos j hj).1, hpar j hj, (hpos j hj).2.2⟩, fun hm hp => g6 _ (par_at hl hw h hm) hp, fun j hj => ?_⟩
  have hin : inB t (en a' (S'.take j) : Int) = true := inB_true.2 ⟨⟨S, h⟩, by omega, by have := (hpos j hj).1; omega⟩
  have hrow : (S'.take m).map (fun y => y.1.at_) = (List.range m).map fun j => (en a' (S'.take j) : Int) := by
    apply List.ext_getElem
    · simp; omega
    · intro n h1 h2
      simp at h1 h2 ⊢
      exact (hpos n h2).2.1
  unfold rowF
  rw [if_pos hin]
  dsimp only
  rw [hpar j hj, ← hrow]
  rcases g8 with ⟨rfl, rfl, rfl, hq⟩ | ⟨c, x, e, r, hq, hc, rfl, rfl⟩
  · rw [hq, if_neg (by omega), List.take_length]
    unfold rootsF
    rw [h]
    rfl
  · obtain ⟨c1, c2, c3, c4, c5⟩ := hc.pos
    obtain ⟨ts, k1, k2, k3, k4, k5⟩ := hc.kids c1
    obtain rfl := At.uniq g1 k1
    rw [hq, if_pos (by omega)]
    unfold kidsF
    rw [if_pos (inB_true.2 ⟨⟨S, h⟩, by omega, by omega⟩), Int.toNat_natCast, sub_at hc]
    dsimp only
    rw [k2, List.length_map, List.take_append_of_le_length (Nat.le_refl _), List.take_length, List.map_map]
    rfl
end Go.Proofs.Ytoifgnogoddmlaa.L
