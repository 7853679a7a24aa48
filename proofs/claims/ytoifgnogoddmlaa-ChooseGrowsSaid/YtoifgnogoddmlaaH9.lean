/- Growing: what a range grows to, step by step; each step has more, and there is an end; of a nested forest the steps are those of one way. Conditions: the list fits in memory, its numbers are ints. -/
import Derived.Test.YtoifgnogoddmlaaH8
namespace Go.Proofs.Ytoifgnogoddmlaa.L
open Go.Proofs.Ytoifgnogoddmlaa.B Go.Proofs.Ytoifgnogoddmlaa.R
def bw (t : List api_Node) (v : Nat) : api_Range := byt (ix t (v : Int))
def Tk (q : api_Range) : Prop := q.from_ ≤ q.to
theorem tkn_id {q : api_Range} (h : Tk q) : tkn q = q := by
  unfold tkn
  rw [show max q.from_ q.to = q.to from Int.max_eq_right h]
theorem tkn_tk (q : api_Range) : Tk (tkn q) := Int.le_max_left _ _
theorem growF_eq {t : List api_Node} {q : api_Range} (h : Tk q) : growF t q = (((wayF t q).reverse.map (bw t)).find? (fun z => decide (z ≠ q))).getD q := by
  unfold growF growB wayI
  rw [tkn_id h, ← List.map_reverse, List.map_map]
  rfl
theorem growF_tkn (t : List api_Node) (q : api_Range) : growF t (tkn q) = growF t q := by
  unfold growF
  rw [tkn_id (tkn_tk q)]
theorem growF_cases {t : List api_Node} {q : api_Range} (h : Tk q) : growF t q = q ∨ ∃ v ∈ wayF t q, growF t q = bw t v ∧ bw t v ≠ q := by
  rw [growF_eq h]
  cases hf : ((wayF t q).reverse.map (bw t)).find? (fun z => decide (z ≠ q)) with
  | none => exact .inl rfl
  | some b =>
    right
    have h1 := List.mem_of_find?_eq_some hf
    have h2 := List.find?_some hf
    obtain ⟨v, hv, rfl⟩ := List.mem_map.1 h1
    exact ⟨v, List.mem_reverse.1 hv, rfl, by simpa using h2⟩
theorem filter_lt {α : Type} {p p' : α → Bool} : ∀ {l : List α}, (∀ v ∈ l, p v = true → p' v = true) → (∃ w ∈ l, p' w = true ∧ p w = false) → (l.filter p).length < (l.filter p').length
  | [], _, h => by obtain ⟨w, hw, _⟩ := h; cases hw
  | a :: l, h1, h2 => by
    have hle : ∀ l : List α, (∀ v ∈ l, p v = true → p' v = true) → (l.filter p).length ≤ (l.filter p').length := by
      intro l
      induction l with
      | nil => intro _; exact Nat.le_refl _
      | cons b l ih =>
        intro hb
        have := ih fun v hv => hb v (List.mem_cons_of_mem _ hv)
        cases hp : p b with
        | true => rw [List.filter_cons, List.filter_cons, hp, hb b (by simp) hp, if_pos rfl, if_pos rfl]; simpa using this
        | false =>
          rw [List.filter_cons, hp, if_neg (by simp), List.filter_cons]
          split
          · rw [List.length_cons]; omega
          · exact this
    obtain ⟨w, hw, g1, g2⟩ := h2
    have hl := hle l fun v hv => h1 v (List.mem_cons_of_mem _ hv)
    rcases List.mem_cons.1 hw with rfl | hw
    · rw [List.filter_cons, g2, if_neg (by simp), List.filter_cons, g1, if_pos rfl, List.length_cons]; omega
    · have ih := filter_lt (l := l) (fun v hv => h1 v (List.mem_cons_of_mem _ hv)) ⟨w, hw, g1, g2⟩
      cases hp : p a with
      | true => rw [List.filter_cons, List.filter_cons, hp, h1 a (by simp) hp, if_pos rfl, if_pos rfl]; simpa using ih
      | false =>
        rw [List.filter_cons, hp, if_neg (by simp), List.filter_cons]
        split
        · rw [List.length_cons]; omega
        · exact ih
def cntF (t : List api_Node) (q : api_Range) : Nat := ((List.range t.length).filter fun (v : Nat) => hasN (ix t (v : Int)) q && decide (bw t v ≠ q)).length
theorem cntF_le (t : List api_Node) (q : api_Range) : cntF t q ≤ t.length := by
  unfold cntF
  have := List.length_filter_le (fun v : Nat => hasN (ix t (v : Int)) q && decide (bw t v ≠ q)) (List.range t.length)
  rwa [List.length_range] at this
theorem hasN_trans {a b : api_Node} {q : api_Range} (h1 : hasN a (byt b) = true) (h2 : hasN b q = true) : hasN a q = true := by
  have h1 := hasN_true.1 h1
  have h2 := hasN_true.1 h2
  unfold byt at h1
  dsimp only at h1
  exact hasN_true.2 ⟨by omega, by omega⟩
theorem hasN_anti {a b : api_Node} (h1 : hasN a (byt b) = true) (h2 : hasN b (byt a) = true) : byt a = byt b := by
  have h1 := hasN_true.1 h1
  have h2 := hasN_true.1 h2
  unfold byt at *
  dsimp only at *
  rw [show a.from_ = b.from_ by omega, show a.to = b.to by omega]
theorem hasN_self (a : api_Node) : hasN a (byt a) = true := hasN_true.2 ⟨Int.le_refl _, Int.le_refl _⟩
theorem bw_tk {t : List api_Node} {q : api_Range} (h : Tk q) {v : Nat} (hv : hasN (ix t (v : Int)) q = true) : Tk (bw t v) := by
  have := hasN_true.1 hv
  unfold Tk at *
  unfold bw byt
  dsimp only
  omega
theorem hasN_mono {a b : api_Node} {q : api_Range} (hb : hasN b q = true) (h : hasN a (byt b) = true) : hasN a q = true := hasN_trans h hb
theorem cnt_lt {t : List api_Node} {q : api_Range} {v : Nat} (hv : v < t.length) (h1 : hasN (ix t (v : Int)) q = true) (h2 : bw t v ≠ q) : cntF t (bw t v) < cntF t q := by
  unfold cntF
  refine filter_lt (fun u _ hu => ?_) ⟨v, List.mem_range.2 hv, by rw [h1, decide_eq_true h2]; rfl, by rw [decide_eq_false (fun e => e rfl), Bool.and_false]⟩
  rw [Bool.and_eq_true] at hu ⊢
  refine ⟨hasN_mono h1 hu.1, decide_eq_true fun e => ?_⟩
  have e1 : hasN (ix t (v : Int)) (byt (ix t (u : Int))) = true := by
    have e2 : byt (ix t (u : Int)) = q := e
    rw [e2]; exact h1
  exact of_decide_eq_true hu.2 (hasN_anti hu.1 e1)
/-- what follows a range, grown step by step -/
inductive GS (t : List api_Node) : api_Range → List api_Range → Prop
  | fin {q : api_Range} (h : growF t q = q) : GS t q []
  | go {q b : api_Range} {l : List api_Range} (h : growF t q = b) (h1 : b ≠ q) (k : GS t b l) : GS t q (b :: l)
theorem GS.uniq {t : List api_Node} {q : api_Range} {l : List api_Range} (h : GS t q l) : ∀ {l'}, GS t q l' → l = l' := by
  induction h with
  | fin h =>
    intro l' h'
    cases h' with
    | fin _ => rfl
    | go h' h1 k => exact absurd (h'.symm.trans h) h1
  | go h h1 k ih =>
    intro l' h'
    cases h' with
    | fin h' => exact absurd (h.symm.trans h') h1
    | go h' h1' k' =>
      have e := h.symm.trans h'
      subst e
      rw [ih k']
theorem GS.ex {t : List api_Node} : ∀ (n : Nat) {q : api_Range}, Tk q → cntF t q ≤ n → ∃ l, GS t q l ∧ l.length ≤ cntF t q := by
  intro n
  induction n with
  | zero =>
    intro q hq hn
    rcases growF_cases (t := t) hq with h | ⟨v, hv, h1, h2⟩
    · exact ⟨[], .fin h, Nat.zero_le _⟩
    · have h3 := wayF_mem v hv
      have := cnt_lt h3.1 h3.2 h2
      omega
  | succ n ih =>
    intro q hq hn
    rcases growF_cases (t := t) hq with h | ⟨v, hv, h1, h2⟩
    · exact ⟨[], .fin h, Nat.zero_le _⟩
    · have h3 := wayF_mem v hv
      have := cnt_lt h3.1 h3.2 h2
      obtain ⟨l, g1, g2⟩ := ih (q := bw t v) (bw_tk hq h3.2) (by omega)
      exact ⟨bw t v :: l, .go h1 h2 g1, by rw [List.length_cons]; omega⟩
theorem slowly_ok {t : List api_Node} (hl : Fits t) (hw : Wf t) {q : api_Range} {l : List api_Range} (h : GS t q l) : ∀ (pre : List api_Range), (pre.length + 1 + l.length) * 16 ≤ 211106232532992 → choose_slowly t (pre ++ [q]) (pre ++ q :: l) := by
  induction h with
  | @fin q h =>
    intro pre hp
    refine Rounds.done ?_
    show choose_slowly_b1 t (pre ++ [q]) _
    unfold choose_slowly_b1
    have e0 : w64 (((pre ++ [q]).length : Int) - 1) = (pre.length : Int) := by rw [w64_id (by simp at hp ⊢; omega)]; simp
    rw [e0]
    refine ⟨by simp; omega, _, Grow_ok hl hw _, ?_⟩
    rw [ix_snoc, h, if_pos rfl]
  | @go q b l h h1 k ih =>
    intro pre hp
    rw [List.length_cons] at hp
    refine Rounds.next (s' := (pre ++ [q]) ++ [b]) ?_ ?_
    · show choose_slowly_b1 t (pre ++ [q]) _
      unfold choose_slowly_b1
      have e0 : w64 (((pre ++ [q]).length : Int) - 1) = (pre.length : Int) := by rw [w64_id (by simp at hp ⊢; omega)]; simp
      rw [e0]
      refine ⟨by simp; omega, _, Grow_ok hl hw _, ?_⟩
      rw [ix_snoc, h, if_neg h1]
      exact ⟨_, rfl, by simp; omega, rfl⟩
    · have := ih (pre ++ [q]) (by simp; omega)
      have e2 : pre ++ [q] ++ b :: l = pre ++ q :: b :: l := by simp
      rw [e2] at this
      exact this
/-! ### nested -/
def Nst (t : List api_Node) : Prop := ∀ v p : Nat, ParOf t (v : Int) (p : Int) → hasN (ix t (p : Int)) (bw t v) = true
theorem PR.inner {t : List api_Node} {a m : Nat} {p : Int} {v : Nat} {q : Int} (h : PR t a m p v q) : q ≠ p → ∃ c x e r, q = ((c : Nat) : Int) ∧ At t c ((x, e) :: r) ∧ PR t (c + 1) x.kids.length (c : Int) v (c : Int) := by
  induction h with
  | here => intro h; exact absurd rfl h
  | @down a m p x e r i q hd h1 h2 k ih =>
    intro _
    by_cases hq : q = (a : Int)
    · subst hq
      exact ⟨a, x, e, r, rfl, hd, k⟩
    · exact ih hq
  | next hd h1 k ih => exact ih
theorem kidsIn_at {t : List api_Node} {n : api_Node} {a m : Nat} {p : Int} {v : Nat} {q : Int} (h : PR t a m p v q) : q = p → p < (a : Int) → kidsIn t n m a = true → hasN n (bw t v) = true := by
  induction h with
  | here =>
    intro _ _ hk
    unfold kidsIn at hk
    rw [Bool.and_eq_true] at hk
    exact hk.1
  | down hd h1 h2 k ih =>
    intro hq hp _
    have := k.par
    omega
  | next hd h1 k ih =>
    intro hq hp hk
    unfold kidsIn at hk
    rw [Bool.and_eq_true, end_at hd] at hk
    have := hd.pos
    exact ih hq (by omega) hk.2
theorem nest_nst {t : List api_Node} (h : nestF t = true) : Nst t := by
  rintro v p ⟨S, hS, j, hj, hj2, hp⟩
  obtain rfl : v = j := by omega
  obtain ⟨c, x, e, r, hc, hA, hPR⟩ := hp.inner (by omega)
  obtain rfl : p = c := by omega
  unfold nestF at h
  rw [hS] at h
  simp only [Option.isSome_some, Bool.not_true, Bool.false_or] at h
  have hpos := hA.pos
  have h1 := List.all_eq_true.1 h p (List.mem_range.2 hpos.1)
  obtain ⟨ts, k1, k2, k3, k4, k5⟩ := hA.kids hpos.1
  refine kidsIn_at hPR rfl (by omega) ?_
  have e1 : (ix t (p : Int)).kids.toNat = x.kids.length := by rw [ix_nat hpos.1, k2, List.length_map]; omega
  rw [← e1]
  exact h1
theorem chain_post {t : List api_Node} (hn : Nst t) : ∀ {l : List Nat} {w : Nat}, Chain t (w : Int) l → ∀ u ∈ l, hasN (ix t (w : Int)) (bw t u) = true
  | [], _, _, _, hu => by cases hu
  | v :: l, w, h, u, hu => by
    have h1 := hn v w h.1
    rcases List.mem_cons.1 hu with rfl | hu
    · exact h1
    · exact hasN_trans h1 (chain_post hn h.2 u hu)
theorem chain_pre {t : List api_Node} (hn : Nst t) {w : Nat} {post : List Nat} : ∀ {pre : List Nat} {p : Int}, Chain t p (pre ++ w :: post) → (∀ u ∈ pre, hasN (ix t (u : Int)) (bw t w) = true) ∧ Chain t (w : Int) post
  | [], _, h => ⟨fun _ hu => (by cases hu), h.2⟩
  | v :: pre, p, h => by
    obtain ⟨h1, h2⟩ := chain_pre hn (pre := pre) h.2
    refine ⟨fun u hu => ?_, h2⟩
    rcases List.mem_cons.1 hu with rfl | hu
    · exact chain_post hn h.2 w (by simp)
    · exact h1 u hu
theorem wayG_cut {t : List api_Node} {q q' : api_Range} (hqq : ∀ n, hasN n q' = true → hasN n q = true) : ∀ (f a e : Nat) {pre : List Nat} {w : Nat} {post : List Nat}, wayG t q f a e = pre ++ w :: post → (∀ u ∈ pre, hasN (ix t (u : Int)) q' = true) → hasN (ix t (w : Int)) q' = true → ∃ post', wayG t q' f a e = pre ++ w :: post' := by
  intro f
  induction f with
  | zero => intro a e pre w post h; unfold wayG at h; cases pre <;> cases h
  | succ f ih =>
    intro a e pre w post h h1 h2
    unfold wayG at h ⊢
    by_cases hlt : a < e
    · rw [if_pos hlt] at h ⊢
      by_cases hh : hasN (ix t (a : Int)) q = true
      · rw [if_pos hh] at h
        match pre, h, h1 with
        | [], h, _ =>
          injection h with e1 e2
          subst e1
          rw [if_pos h2]
          exact ⟨_, rfl⟩
        | v :: pre, h, h1 =>
          injection h with e1 e2
          subst e1
          rw [if_pos (h1 a (by simp))]
          obtain ⟨post', g⟩ := ih (a + 1) (endF t a) e2 (fun u hu => h1 u (by simp [hu])) h2
          exact ⟨post', by rw [g]; rfl⟩
      · rw [if_neg hh] at h
        rw [if_neg (fun g => hh (hqq _ g))]
        exact ih _ _ h h1 h2
    · rw [if_neg hlt] at h
      cases pre <;> cases h
theorem way_cut {t : List api_Node} (hl : Fits t) (hw : Wf t) (hn : Nst t) {z : api_Range} {pre : List Nat} {w : Nat} {post : List Nat} (h : wayF t z = pre ++ w :: post) : ∃ post', wayF t (bw t w) = pre ++ w :: post' ∧ ∀ u ∈ post', bw t u = bw t w := by
  cases hS : sf t 0 with
  | none =>
    unfold wayF at h
    rw [hS] at h
    simp at h
  | some S =>
    have hc := (way_spec hl hw z hS).1
    rw [h] at hc
    have hz := (wayF_mem w (by rw [h]; simp)).2
    have hpre := (chain_pre hn hc).1
    obtain ⟨post', g⟩ : ∃ post', wayF t (bw t w) = pre ++ w :: post' := by
      unfold wayF at h ⊢
      rw [hS] at h ⊢
      simp only [Option.isSome_some, if_true] at h ⊢
      exact wayG_cut (fun n hq => hasN_mono hz hq) _ _ _ h hpre (hasN_self _)
    refine ⟨post', g, fun u hu => ?_⟩
    have hc2 := (way_spec hl hw (bw t w) hS).1
    rw [g] at hc2
    have h1 := chain_post hn (chain_pre hn hc2).2 u hu
    have h2 := (wayF_mem (q := bw t w) u (by rw [g]; simp [hu])).2
    exact hasN_anti h2 h1
theorem find_rev {t : List api_Node} {z : api_Range} {pre post : List Nat} (h : ∀ u ∈ post, bw t u = z) : ((pre ++ post).reverse.map (bw t)).find? (fun y => decide (y ≠ z)) = (pre.reverse.map (bw t)).find? (fun y => decide (y ≠ z)) := by
  rw [List.reverse_append, List.map_append, List.find?_append, List.find?_eq_none.2 (fun y hy => by
    obtain ⟨u, hu, rfl⟩ := List.mem_map.1 hy
    simpa using h u (List.mem_reverse.1 hu))]
  rfl
theorem steps_run {t : List api_Node} (hl : Fits t) (hw : Wf t) (hn : Nst t) (q : api_Range) : ∀ (n : Nat) {pre post : List Nat} {z : api_Range} (out : List api_Range), pre.length = n → Tk z → wayF t z = pre ++ post → (∀ u ∈ post, bw t u = z) → ∃ l, (pre.reverse.map (bw t)).foldl (stepS q) (out ++ [z]) = out ++ z :: l ∧ GS t z l := by
  intro n
  induction n with
  | zero =>
    intro pre post z out hpn hz hway hpost
    obtain rfl := List.eq_nil_of_length_eq_zero hpn
    refine ⟨[], rfl, .fin ?_⟩
    rw [growF_eq hz, hway, find_rev hpost]
    rfl
  | succ n ih =>
    intro pre post z out hpn hz hway hpost
    rcases List.eq_nil_or_concat pre with rfl | ⟨pre, w, rfl⟩
    · simp at hpn
    · rw [List.concat_eq_append] at *
      have hpn : pre.length = n := by simpa using hpn
      have hway2 : wayF t z = pre ++ w :: post := by rw [hway]; simp
      have hst : stepS q (out ++ [z]) (bw t w) = if bw t w = z then out ++ [z] else out ++ [z] ++ [bw t w] := by
        unfold stepS
        rw [List.getLast?_concat]
        rfl
      rw [List.reverse_append, List.reverse_singleton, List.singleton_append, List.map_cons, List.foldl_cons, hst]
      by_cases hb : bw t w = z
      · rw [if_pos hb]
        exact ih out hpn hz hway2 fun u hu => by
          rcases List.mem_cons.1 hu with rfl | hu
          · exact hb
          · exact hpost u hu
      · rw [if_neg hb]
        have hm := wayF_mem (q := z) w (by rw [hway2]; simp)
        obtain ⟨post', g1, g2⟩ := way_cut hl hw hn hway2
        obtain ⟨l, k1, k2⟩ := ih (z := bw t w) (out ++ [z]) hpn (bw_tk hz hm.2) g1 fun u hu => by
          rcases List.mem_cons.1 hu with rfl | hu
          · rfl
          · exact g2 u hu
        refine ⟨bw t w :: l, by rw [k1]; simp, .go ?_ hb k2⟩
        rw [growF_eq hz, hway, find_rev hpost, List.reverse_append, List.reverse_singleton, List.singleton_append, List.map_cons, List.find?_cons_of_pos (by simpa using hb)]
        rfl
theorem Steps_ok {t : List api_Node} (hl : Fits t) (hw : Wf t) (x : api_Range) : ∃ l, GS t (tkn x) l ∧ l.length ≤ t.length ∧ choose_Steps t x (tkn x :: l) := by
  obtain ⟨l, h1, h2⟩ := GS.ex (t := t) _ (tkn_tk x) (Nat.le_refl _)
  have h3 := cntF_le t (tkn x)
  refine ⟨l, h1, by omega, ?_⟩
  cases hn : nestF t with
  | false =>
    refine ⟨tkn x, rfl, _, nested_ok hl hw, fun _ => ?_, fun h => (by rw [hn] at h; cases h)⟩
    have := slowly_ok hl hw h1 [] (by simp; omega)
    simpa using this
  | true =>
    have := Steps_nested hl hw x hn
    obtain ⟨l', k1, k2⟩ := steps_run hl hw (nest_nst hn) (tkn x) _ (pre := wayF t (tkn x)) (post := []) (z := tkn x) [] rfl (tkn_tk x) (by simp) (fun u hu => (by cases hu))
    obtain rfl := h1.uniq k2
    have e : stepsF t x = tkn x :: l := by
      unfold stepsF stepsB wayI
      rw [← List.map_reverse, List.map_map]
      exact k1
    rwa [e] at this
end Go.Proofs.Ytoifgnogoddmlaa.L
