/- Brackets of a row: which belong together. Nodes between two that belong together. No condition. -/
import Derived.Test.YtoifgnogoddmlaaH6
namespace Go.Proofs.Ytoifgnogoddmlaa.L
open Go.Proofs.Ytoifgnogoddmlaa.B Go.Proofs.Ytoifgnogoddmlaa.R
/-! ### what lies below a node -/
theorem PR.total {t : List api_Node} : ∀ (n a : Nat) {S : List (Tre × Nat)} {m : Nat} {p : Int} {i : Nat}, t.length - a ≤ n → At t a S → m ≤ S.length → a ≤ i → i < en a (S.take m) → ∃ q, PR t a m p i q := by
  intro n
  induction n with
  | zero =>
    intro a S m p i hn h hm hi hlt
    have := seg_le h hm
    omega
  | succ n ih =>
    intro a S m p i hn h hm hi hlt
    obtain ⟨x, e, r, ts, m', rfl, rfl, g1, g2, g3, g4, g5, g6, g7, g8, g9, g10⟩ := seg_head h hm (by omega)
    rcases Nat.lt_or_ge a i with hai | hai
    · rcases Nat.lt_or_ge i e with hie | hie
      · obtain ⟨q, hq⟩ := ih (a + 1) (S := ts ++ r) (m := ts.length) (p := (a : Int)) (i := i) (by omega) g8 (by simp) (by omega) (by rw [g9]; exact hie)
        exact ⟨q, .down h hai hie (by rw [g10]; exact hq)⟩
      · obtain ⟨q, hq⟩ := ih e (m := m') (p := p) (i := i) (by omega) g6 g1 hie (by rw [g7]; exact hlt)
        exact ⟨q, .next h hie hq⟩
    · obtain rfl : i = a := by omega
      exact ⟨p, .here⟩
theorem kids_seg {t : List api_Node} {c : Nat} {x : Tre} {e : Nat} {r : List (Tre × Nat)} (h : At t c ((x, e) :: r)) {v : Nat} {q : Int} (hv : PR t (c + 1) x.kids.length (c : Int) v q) : c < v ∧ v < e := by
  obtain ⟨p1, p2, p3, p4, p5⟩ := h.pos
  obtain ⟨ts, k1, k2, k3, k4, k5⟩ := h.kids p1
  have hkl : x.kids.length = ts.length := by rw [k2, List.length_map]
  have h1 := hv.le
  have h2 := hv.lt k1 (by rw [hkl]; simp)
  rw [hkl, List.take_append_of_le_length (Nat.le_refl _), List.take_length, k3] at h2
  exact ⟨by omega, h2⟩
theorem PR.comp {t : List api_Node} {a m : Nat} {p : Int} {c : Nat} {q : Int} (h : PR t a m p c q) {x : Tre} {e : Nat} {r : List (Tre × Nat)} (hc : At t c ((x, e) :: r)) {v : Nat} {q' : Int} (hv : PR t (c + 1) x.kids.length (c : Int) v q') : PR t a m p v q' := by
  induction h with
  | here => exact .down hc (kids_seg hc hv).1 (kids_seg hc hv).2 hv
  | down h' h1 h2 k ih =>
    have := ih hc hv
    have := kids_seg h' this
    exact .down h' this.1 this.2 (ih hc hv)
  | next h' h1 k ih => exact .next h' (by have := (ih hc hv).le; omega) (ih hc hv)
theorem sub_par {t : List api_Node} (hl : Fits t) (hw : Wf t) {S : List (Tre × Nat)} (h : sf t 0 = some S) {c v : Nat} (hc : c < t.length) (h1 : c < v) (h2 : v < endF t c) : (c : Int) ≤ parF t (v : Int) := by
  obtain ⟨r, hr⟩ := At.sub h hc
  have hr : At t c (((sub t c).1, (sub t c).2) :: r) := hr
  have h2 : v < (sub t c).2 := h2
  obtain ⟨p1, p2, p3, p4, p5⟩ := hr.pos
  obtain ⟨ts, k1, k2, k3, k4, k5⟩ := hr.kids p1
  have hkl : (sub t c).1.kids.length = ts.length := by rw [k2, List.length_map]
  obtain ⟨q, hq⟩ := PR.total (t.length - (c + 1)) (c + 1) (m := (sub t c).1.kids.length) (p := (c : Int)) (i := v) (Nat.le_refl _) k1 (by rw [hkl]; simp) (by omega) (by rw [hkl, List.take_append_of_le_length (Nat.le_refl _), List.take_length, k3]; exact h2)
  have h3 := (par_at hl hw h hc).comp hr hq
  have h4 := (par_at hl hw h (show v < t.length by omega)).uniq h3
  have h5 := hq.par
  omega
theorem end_nest {t : List api_Node} {S : List (Tre × Nat)} (h : sf t 0 = some S) : ∀ (n : Nat) {a c : Nat}, endF t a - a ≤ n → a < t.length → a ≤ c → c < endF t a → endF t c ≤ endF t a := by
  intro n
  induction n with
  | zero =>
    intro a c hn ha h1 h2
    omega
  | succ n ih =>
    intro a c hn ha h1 h2
    rcases Nat.lt_or_ge a c with hac | hac
    · obtain ⟨r, hr⟩ := At.sub h ha
      have hr : At t a (((sub t a).1, (sub t a).2) :: r) := hr
      have hE : endF t a = (sub t a).2 := rfl
      obtain ⟨p1, p2, p3, p4, p5⟩ := hr.pos
      obtain ⟨ts, k1, k2, k3, k4, k5⟩ := hr.kids p1
      have htk : (ts ++ r).take ts.length = ts := by rw [List.take_append_of_le_length (Nat.le_refl _), List.take_length]
      obtain ⟨j, hj, hS, j1, j2⟩ := pick (a := a + 1) (i := c) (S := ts ++ r) ts.length (by simp) (by omega) (by rw [htk, k3]; omega)
      have hn2 := (k1.nth (j := j) hS).1
      have he : endF t (en (a + 1) ((ts ++ r).take j)) = (ts ++ r)[j].2 := end_at hn2
      have hm := en_mono k1 (show j + 1 ≤ ts.length by omega) (by simp)
      rw [en_take hS, htk, k3] at hm
      have hp := hn2.pos
      have := ih (a := en (a + 1) ((ts ++ r).take j)) (c := c) (by have := k1.mono (m := j) (by omega); omega) hp.1 j1 (by omega)
      omega
    · obtain rfl : a = c := by omega
      exact Nat.le_refl _
theorem kid_in {t : List api_Node} {p : Int} {x : Int} (hx : x ∈ kidsF t p) : ∃ c : Nat, p = (c : Int) ∧ c < t.length ∧ (c : Int) < x ∧ x < (endF t c : Int) := by
  unfold kidsF at hx
  split at hx
  · rename_i h
    obtain ⟨⟨S, hS⟩, h1, h2⟩ := inB_true.1 h
    obtain ⟨j, rfl⟩ : ∃ j : Nat, p = j := ⟨p.toNat, by omega⟩
    rw [Int.toNat_natCast] at hx
    obtain ⟨r, hr⟩ := At.sub hS (i := j) (by omega)
    have hr : At t j (((sub t j).1, (sub t j).2) :: r) := hr
    have hE : endF t j = (sub t j).2 := rfl
    obtain ⟨ts, k1, k2, k3, k4, k5⟩ := hr.kids (by omega)
    have htk : (ts ++ r).take ts.length = ts := by rw [List.take_append_of_le_length (Nat.le_refl _), List.take_length]
    rw [k2, List.map_map] at hx
    obtain ⟨y, hy, rfl⟩ := List.mem_map.1 hx
    obtain ⟨q, hq, rfl⟩ := List.getElem_of_mem hy
    obtain ⟨a1, a2⟩ := k1.nth (j := q) (by rw [List.length_append]; omega)
    have hm := en_mono k1 (show q + 1 ≤ ts.length by omega) (by simp)
    rw [en_take (by rw [List.length_append]; omega), htk, k3] at hm
    have := a1.pos
    rw [List.getElem_append_left hq] at this hm
    simp only [Function.comp]
    exact ⟨j, rfl, by omega, by omega, by omega⟩
  · cases hx
theorem row_in {t : List api_Node} (hl : Fits t) (hw : Wf t) {S : List (Tre × Nat)} (h : sf t 0 = some S) {c v : Nat} (hc : c < t.length) (h1 : c < v) (h2 : v < endF t c) : ∀ x ∈ rowF t (v : Int), (c : Int) < x ∧ x < (endF t c : Int) := by
  intro x hx
  have hp := sub_par hl hw h hc h1 h2
  obtain ⟨r, hr⟩ := At.sub h hc
  have hEc := (show At t c (((sub t c).1, (sub t c).2) :: r) from hr).pos
  have hE : endF t c = (sub t c).2 := rfl
  have hv : v < t.length := by omega
  have hpv := (par_at hl hw h hv).par
  unfold rowF at hx
  rw [if_pos (inB_true.2 ⟨⟨S, h⟩, by omega, by omega⟩), if_pos (by omega)] at hx
  obtain ⟨p, e, g1, g2, g3⟩ := kid_in hx
  have hpc : c ≤ p ∧ p < v := by omega
  have := end_nest h (endF t c - c) (a := c) (c := p) (Nat.le_refl _) hc hpc.1 (by omega)
  omega
/-! ### the stack of open brackets -/
def stp (t : List api_Node) (S : List Int) (x : Int) : List Int :=
  if kx t x > 0 then S ++ [x]
  else if kx t x < 0 then
    match S.getLast? with
    | none => S
    | some y => if kx t y = - kx t x then S.dropLast else S
  else S
def st (t : List api_Node) (L : Nat → Int) : Nat → List Int
  | 0 => []
  | j + 1 => stp t (st t L j) (L j)
def Ev (t : List api_Node) (L : Nat → Int) (m j : Nat) (y : Int) : Prop := j < m ∧ kx t (L j) < 0 ∧ (st t L j).getLast? = some y ∧ kx t y = - kx t (L j)
theorem stp_mem {t : List api_Node} {S : List Int} {x y : Int} (h : y ∈ stp t S x) : y ∈ S ∨ (y = x ∧ kx t x > 0) := by
  unfold stp at h
  split at h
  · rename_i g
    rcases List.mem_append.1 h with h | h
    · exact .inl h
    · exact .inr ⟨List.mem_singleton.1 h, g⟩
  · split at h
    · split at h
      · exact .inl h
      · split at h
        · exact .inl (List.dropLast_subset _ h)
        · exact .inl h
    · exact .inl h
section
variable {t : List api_Node} {L : Nat → Int} {m : Nat}
theorem st_mem : ∀ j, ∀ y ∈ st t L j, ∃ a, a < j ∧ y = L a ∧ kx t y > 0 := by
  intro j
  induction j with
  | zero => intro y hy; cases hy
  | succ j ih =>
    intro y hy
    rcases stp_mem hy with h | ⟨rfl, h⟩
    · obtain ⟨a, h1, h2, h3⟩ := ih y h
      exact ⟨a, by omega, h2, h3⟩
    · exact ⟨j, by omega, rfl, h⟩
theorem st_sorted (hL : ∀ b a, a < b → b < m → L a < L b) : ∀ j, j ≤ m → (st t L j).Pairwise (· < ·) := by
  intro j
  induction j with
  | zero => intro _; exact .nil
  | succ j ih =>
    intro hj
    have h := ih (by omega)
    show (stp t (st t L j) (L j)).Pairwise (· < ·)
    unfold stp
    split
    · refine List.pairwise_append.2 ⟨h, List.pairwise_singleton _ _, fun a ha b hb => ?_⟩
      obtain ⟨c, c1, rfl, _⟩ := st_mem j a ha
      rw [List.mem_singleton.1 hb]
      exact hL j c c1 (by omega)
    · split
      · split
        · exact h
        · split
          · exact h.sublist (List.dropLast_sublist _)
          · exact h
      · exact h
theorem st_keep (hL : ∀ b a, a < b → b < m → L a < L b) {a : Nat} {j : Nat} (ha : a < j) : ∀ d, j + d ≤ m → L a ∈ st t L (j + d) → L a ∈ st t L j := by
  intro d
  induction d with
  | zero => intro _ h; exact h
  | succ d ih =>
    intro hj h
    rcases stp_mem (show L a ∈ stp t (st t L (j + d)) (L (j + d)) from h) with h | ⟨h, _⟩
    · exact ih (by omega) h
    · have := hL (j + d) a (by omega) (by omega)
      omega
theorem ev_pop {j : Nat} {y : Int} (h : Ev t L m j y) : st t L (j + 1) = (st t L j).dropLast := by
  obtain ⟨h1, h2, h3, h4⟩ := h
  show stp t (st t L j) (L j) = _
  unfold stp
  rw [if_neg (by omega), if_pos h2, h3]
  simp only
  rw [if_pos h4]
theorem sorted_last {S : List Int} {y z : Int} (h : S.Pairwise (· < ·)) (hy : S.getLast? = some y) (hz : z ∈ S) : z = y ∨ (z < y ∧ z ∈ S.dropLast) := by
  rcases List.eq_nil_or_concat S with rfl | ⟨S0, w, rfl⟩
  · cases hz
  · rw [List.concat_eq_append] at *
    rw [List.getLast?_concat] at hy
    cases hy
    rcases List.mem_append.1 hz with h1 | h1
    · exact .inr ⟨(List.pairwise_append.1 h).2.2 z h1 _ (List.mem_singleton.2 rfl), by rw [List.dropLast_concat]; exact h1⟩
    · exact .inl (List.mem_singleton.1 h1)
theorem drop_lt {S : List Int} {y z : Int} (h : S.Pairwise (· < ·)) (hy : S.getLast? = some y) (hz : z ∈ S.dropLast) : z < y := by
  rcases List.eq_nil_or_concat S with rfl | ⟨S0, w, rfl⟩
  · cases hz
  · rw [List.concat_eq_append] at *
    rw [List.getLast?_concat] at hy
    cases hy
    rw [List.dropLast_concat] at hz
    exact (List.pairwise_append.1 h).2.2 z hz _ (List.mem_singleton.2 rfl)
theorem Ev.open_ {j : Nat} {y : Int} (h : Ev t L m j y) : y ∈ st t L j ∧ ∃ a, a < j ∧ y = L a ∧ kx t y > 0 := ⟨List.mem_of_getLast? h.2.2.1, st_mem j y (List.mem_of_getLast? h.2.2.1)⟩
theorem ev_uniq (hL : ∀ b a, a < b → b < m → L a < L b) {j j' : Nat} {y : Int} (h : Ev t L m j y) (h' : Ev t L m j' y) : j = j' := by
  have one : ∀ {j j' : Nat}, Ev t L m j y → Ev t L m j' y → ¬ j < j' := by
    intro j j' h h' hlt
    obtain ⟨h1, a, h2, rfl, h3⟩ := h.open_
    obtain ⟨d, rfl⟩ : ∃ d, j' = (j + 1) + d := ⟨j' - (j + 1), by omega⟩
    have h4 := st_keep hL (j := j + 1) (a := a) (by omega) d (by have := h'.1; omega) h'.open_.1
    rw [ev_pop h] at h4
    have := drop_lt (st_sorted hL j (by have := h.1; omega)) h.2.2.1 h4
    omega
  rcases Nat.lt_trichotomy j j' with g | g | g
  · exact absurd g (one h h')
  · exact g
  · exact absurd g (one h' h)
theorem ev_in1 (hL : ∀ b a, a < b → b < m → L a < L b) {j j' : Nat} {y y' : Int} (h : Ev t L m j y) (h' : Ev t L m j' y') (h1 : y < y') (h2 : y' < L j) : j' < j := by
  rcases Nat.lt_trichotomy j j' with g | g | g
  · obtain ⟨u1, a, u2, rfl, u3⟩ := h'.open_
    have ha : a < j := by
      rcases Nat.lt_or_ge a j with g2 | g2
      · exact g2
      · rcases Nat.eq_or_lt_of_le g2 with g3 | g3
        · subst g3; omega
        · have := hL a j g3 (by have := h'.1; omega); omega
    obtain ⟨d, rfl⟩ : ∃ d, j' = j + d := ⟨j' - j, by omega⟩
    have h4 := st_keep hL ha d (by have := h'.1; omega) u1
    rcases sorted_last (st_sorted hL j (by have := h.1; omega)) h.2.2.1 h4 with e | ⟨e, _⟩ <;> omega
  · subst g
    have := h.2.2.1.symm.trans h'.2.2.1
    cases this
    omega
  · exact g
theorem ev_in2 (hL : ∀ b a, a < b → b < m → L a < L b) {j j' : Nat} {y y' : Int} (h : Ev t L m j y) (h' : Ev t L m j' y') (h1 : y < L j') (h2 : L j' < L j) : y < y' := by
  have hj : j' < j := by
    rcases Nat.lt_trichotomy j j' with g | g | g
    · have := hL j' j g h'.1; omega
    · subst g; omega
    · exact g
  obtain ⟨u1, a, u2, rfl, u3⟩ := h.open_
  have ha : a < j' := by
    rcases Nat.lt_or_ge a j' with g2 | g2
    · exact g2
    · rcases Nat.eq_or_lt_of_le g2 with g3 | g3
      · subst g3; omega
      · have := hL a j' g3 (by have := h.1; omega); omega
  obtain ⟨d, rfl⟩ : ∃ d, j = (j' + 1) + d := ⟨j - (j' + 1), by omega⟩
  have h4 := st_keep hL (j := j' + 1) (a := a) (by omega) d (by have := h.1; omega) u1
  rw [ev_pop h'] at h4
  exact drop_lt (st_sorted hL j' (by have := h'.1; omega)) h'.2.2.1 h4
/-- what a run over the row from place j on answers -/
theorem run_cases (i : Int) : ∀ n j, j + n = m →
    (runL (pairF t i) (fun _ => (-1 : Int)) ((List.range' j n).map L) (st t L j) = -1 ∧ ∀ j' y, j ≤ j' → Ev t L m j' y → y ≠ i ∧ L j' ≠ i) ∨
    ∃ j' y, j ≤ j' ∧ Ev t L m j' y ∧ ((y = i ∧ runL (pairF t i) (fun _ => (-1 : Int)) ((List.range' j n).map L) (st t L j) = L j') ∨ (y ≠ i ∧ L j' = i ∧ runL (pairF t i) (fun _ => (-1 : Int)) ((List.range' j n).map L) (st t L j) = y)) := by
  intro n
  induction n with
  | zero =>
    intro j hj
    refine .inl ⟨rfl, fun j' y h1 h2 => ?_⟩
    have := h2.1
    omega
  | succ n ih =>
    intro j hj
    rw [List.range'_succ, List.map_cons]
    by_cases hev : ∃ y, Ev t L m j y ∧ (y = i ∨ L j = i)
    · obtain ⟨y, h, hy⟩ := hev
      right
      refine ⟨j, y, Nat.le_refl _, h, ?_⟩
      obtain ⟨h1, h2, h3, h4⟩ := h
      by_cases hyi : y = i
      · exact .inl ⟨hyi, runL_end (by unfold pairF; rw [if_neg (by omega), if_pos h2, h3]; simp only; rw [if_pos h4, if_pos hyi])⟩
      · have hLi : L j = i := hy.resolve_left hyi
        exact .inr ⟨hyi, hLi, runL_end (by unfold pairF; rw [if_neg (by omega), if_pos h2, h3]; simp only; rw [if_pos h4, if_neg hyi, if_pos hLi])⟩
    · have hgo : pairF t i (L j) (st t L j) = Sum.inl (st t L (j + 1)) := by
        show _ = Sum.inl (stp t (st t L j) (L j))
        unfold pairF stp
        split
        · rfl
        · split
          · rename_i h1 h2
            cases h3 : (st t L j).getLast? with
            | none => rfl
            | some y =>
              simp only
              split
              · rename_i h4
                have h5 : Ev t L m j y := ⟨by omega, h2, h3, h4⟩
                rw [if_neg (fun e => hev ⟨y, h5, .inl e⟩), if_neg (fun e => hev ⟨y, h5, .inr e⟩)]
              · rfl
          · rfl
      rw [runL_go hgo]
      rcases ih (j + 1) (by omega) with ⟨h1, h2⟩ | ⟨j', y, h1, h2, h3⟩
      · refine .inl ⟨h1, fun j' y h3 h4 => ?_⟩
        rcases Nat.eq_or_lt_of_le h3 with g | g
        · subst g
          exact ⟨fun e => hev ⟨y, h4, .inl e⟩, fun e => hev ⟨y, h4, .inr e⟩⟩
        · exact h2 j' y g h4
      · exact .inr ⟨j', y, by omega, h2, h3⟩
end
end Go.Proofs.Ytoifgnogoddmlaa.L
