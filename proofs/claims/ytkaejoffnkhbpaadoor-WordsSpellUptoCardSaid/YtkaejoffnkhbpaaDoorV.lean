/- The plain side of chapter 8, more: a word is cut as it is, whatever stands behind it; places. No condition. -/
import Derived.Test.YtkaejoffnkhbpaaDoorQ
set_option linter.unusedVariables false
namespace Go.Proofs.YtkaejoffnkhbpaaDoor.L
open Go.Proofs.YtkaejoffnkhbpaaDoor.B Go.Proofs.YtkaejoffnkhbpaaDoor.R
theorem twl_take (p : Int → Bool) : ∀ (l : List Int) (m : Nat), twl p l ≤ m → twl p (l.take m) = twl p l
  | [], m, h => by simp [twl]
  | c :: l, 0, h => by
    have e : twl p (c :: l) = 0 := by omega
    rw [e]; simp [twl]
  | c :: l, m + 1, h => by
    rw [List.take_succ_cons, twl, twl]
    by_cases hc : p c = true
    · rw [if_pos hc, if_pos hc, twl_take p l m (by rw [twl, if_pos hc] at h; omega)]
    · rw [if_neg hc, if_neg hc]
theorem escX_four {l : List Int} (h : (escX l).2 ≠ 0) : (escX l).2 = 4 := by
  match l with
  | [] => simp [escX] at h
  | [a] => simp [escX] at h
  | a :: b :: r =>
    rw [escX_cons] at h ⊢
    by_cases h1 : (hexF a).2 = true
    · rw [if_pos h1] at h ⊢
      by_cases h2 : (hexF b).2 = true
      · rw [if_pos h2]
      · rw [if_neg h2] at h; simp at h
    · rw [if_neg h1] at h; simp at h
theorem escF_take {l : List Int} {m : Nat} (h0 : (escF l).2 ≠ 0) (hm : (escF l).2 - 1 ≤ m) : escF (l.take m) = escF l := by
  match l, m with
  | [], _ => simp
  | c :: l, 0 => have := escF_le _ h0; omega
  | c :: l, m + 1 =>
    rw [List.take_succ_cons, escF_cons, escF_cons]
    rw [escF_cons] at h0 hm
    have key : (escX l).2 ≠ 0 → (escX l).2 - 1 ≤ m + 1 → escX (l.take m) = escX l := by
      intro g0 gm
      have g4 := escX_four g0
      match l, m with
      | [], _ => simp
      | [a], _ => simp [escX] at g0
      | a :: b :: r, 0 => omega
      | a :: b :: r, 1 => omega
      | a :: b :: r, m + 2 => rfl
    unfold escC at h0 hm ⊢
    by_cases h1 : c = 34
    · simp [h1]
    by_cases h2 : c = 92
    · simp [h2]
    by_cases h3 : c = 110
    · simp [h3]
    by_cases h4 : c = 116
    · simp [h4]
    by_cases h5 : c = 114
    · simp [h5]
    by_cases h6 : c = 120
    · simp only [if_neg h1, if_neg h2, if_neg h3, if_neg h4, if_neg h5, if_pos h6] at h0 hm ⊢
      exact key h0 hm
    · simp only [if_neg h1, if_neg h2, if_neg h3, if_neg h4, if_neg h5, if_neg h6]
def quE (x : Int) (e : Nat) : Sum (List Int × Nat) (Option Nat) → Sum (List Int × Nat) (Option Nat)
  | .inl (t, k) => .inl (x :: t, k + e)
  | .inr none => .inr none
  | .inr (some d) => .inr (some (d + e))
theorem quF_e {l : List Int} (h : (escF l).2 ≠ 0) : quF (92 :: l) = quE (escF l).1 (escF l).2 (quF (l.drop ((escF l).2 - 1))) := by
  rw [quF]
  simp only [show ¬ (92 : Int) = 10 by decide, show ¬ (92 : Int) = 34 by decide, if_false, if_true, dif_neg h]
  split <;> rename_i e <;> rw [e] <;> rfl
theorem quF_o {c : Int} {l : List Int} (h1 : c ≠ 10) (h2 : c ≠ 34) (h3 : c ≠ 92) : quF (c :: l) = quE c 1 (quF l) := by
  rw [quF]
  simp only [if_neg h1, if_neg h2, if_neg h3]
  split <;> rename_i e <;> rw [e] <;> rfl
theorem quE_inv {x : Int} {e : Nat} {r : Sum (List Int × Nat) (Option Nat)} {t : List Int} {k : Nat} (h : quE x e r = .inl (t, k)) : ∃ t' k', r = .inl (t', k') ∧ t = x :: t' ∧ k = k' + e := by
  match r with
  | .inl (t', k') => simp only [quE, Sum.inl.injEq, Prod.mk.injEq] at h; exact ⟨t', k', rfl, h.1.symm, h.2.symm⟩
  | .inr none => simp [quE] at h
  | .inr (some d) => simp [quE] at h
theorem quF_take : ∀ (n : Nat) {l t : List Int} {k m : Nat}, l.length = n → quF l = .inl (t, k) → k ≤ m → quF (l.take m) = .inl (t, k) := by
  intro n
  induction n using Nat.strongRecOn with
  | _ n ih =>
    intro l t k m hn h hk
    match l with
    | [] => rw [quF_nil] at h; cases h
    | c :: l =>
      simp only [List.length_cons] at hn
      by_cases c10 : c = 10
      · subst c10; rw [quF_nl] at h; cases h
      by_cases c34 : c = 34
      · subst c34
        rw [quF_end] at h
        simp only [Sum.inl.injEq, Prod.mk.injEq] at h
        obtain ⟨m, rfl⟩ : ∃ q, m = q + 1 := ⟨m - 1, by omega⟩
        rw [List.take_succ_cons, quF_end, ← h.1, ← h.2]
      by_cases c92 : c = 92
      · subst c92
        by_cases e0 : (escF l).2 = 0
        · rw [quF_bad e0] at h; cases h
        · rw [quF_e e0] at h
          have hle := escF_le _ e0
          obtain ⟨t', k', h1, h2, h3⟩ := quE_inv h
          obtain ⟨m, rfl⟩ : ∃ q, m = q + 1 := ⟨m - 1, by omega⟩
          have et := escF_take (m := m) e0 (by omega)
          rw [List.take_succ_cons, quF_e (by rw [et]; exact e0), et, List.drop_take, ih (l.drop ((escF l).2 - 1)).length (by simp; omega) rfl h1 (by omega), h2, h3]
          rfl
      · rw [quF_o c10 c34 c92] at h
        obtain ⟨t', k', h1, h2, h3⟩ := quE_inv h
        obtain ⟨m, rfl⟩ : ∃ q, m = q + 1 := ⟨m - 1, by omega⟩
        rw [List.take_succ_cons, quF_o c10 c34 c92, ih l.length (by omega) rfl h1 (by omega), h2, h3]
        rfl
theorem slF_take : ∀ (n : Nat) {l : List Int} {k m : Nat}, l.length = n → slF l = some k → k < m → slF (l.take m) = some k := by
  intro n
  induction n using Nat.strongRecOn with
  | _ n ih =>
    intro l k m hn h hk
    match l with
    | [] => simp [slF] at h
    | c :: l =>
      simp only [List.length_cons] at hn
      obtain ⟨m, rfl⟩ : ∃ q, m = q + 1 := ⟨m - 1, by omega⟩
      rw [slF_cons] at h
      rw [List.take_succ_cons, slF_cons]
      by_cases c10 : c = 10
      · rw [if_pos c10] at h; cases h
      rw [if_neg c10] at h ⊢
      by_cases c47 : c = 47
      · rw [if_pos c47] at h ⊢; exact h
      rw [if_neg c47] at h ⊢
      by_cases c92 : c = 92
      · rw [if_pos c92] at h ⊢
        match l, m with
        | [], _ => cases h
        | d :: r, 0 =>
          simp only at h
          by_cases d10 : d = 10
          · rw [if_pos d10] at h; cases h
          rw [if_neg d10] at h
          obtain ⟨z, hz, hz2⟩ := Option.map_eq_some_iff.1 h
          omega
        | d :: r, m + 1 =>
          rw [List.take_succ_cons]
          simp only at h ⊢
          by_cases d10 : d = 10
          · rw [if_pos d10] at h; cases h
          rw [if_neg d10] at h ⊢
          obtain ⟨z, hz, hz2⟩ := Option.map_eq_some_iff.1 h
          rw [ih r.length (by simp at hn; omega) rfl hz (by omega)]
          simp [hz2]
      · rw [if_neg c92] at h ⊢
        obtain ⟨z, hz, hz2⟩ := Option.map_eq_some_iff.1 h
        rw [ih l.length (by omega) rfl hz (by omega)]
        simp [hz2]
theorem take_take' {l : List Int} {k m : Nat} (h : k ≤ m) : (l.take m).take k = l.take k := by rw [List.take_take, Nat.min_eq_left h]
theorem tokF_skip_take {c : Int} {l : List Int} {k m : Nat} (h : tokF c l = .skip k) (hm : k ≤ m + 1) : tokF c (l.take m) = .skip k := by
  unfold tokF at h ⊢
  by_cases cb : blankP c = true
  · rw [if_pos cb] at h ⊢; exact h
  rw [if_neg cb] at h ⊢
  by_cases c35 : c = 35
  · rw [if_pos c35] at h ⊢
    injection h with h
    rw [← List.take_succ_cons, twl_take _ _ _ (by omega), h]
  rw [if_neg c35] at h
  repeat' split at h
  all_goals cases h
theorem tokF_word_take {c : Int} {l t : List Int} {kd n : Int} {k m : Nat} (h : tokF c l = .word kd t n k) (hm : k ≤ m + 1) : tokF c (l.take m) = .word kd t n k := by
  unfold tokF at h ⊢
  by_cases cb : blankP c = true
  · rw [if_pos cb] at h; cases h
  rw [if_neg cb] at h ⊢
  by_cases c35 : c = 35
  · rw [if_pos c35] at h; cases h
  rw [if_neg c35] at h ⊢
  by_cases cl : letterP c = true
  · rw [if_pos cl] at h ⊢
    by_cases g : twl nameP (c :: l) > 24
    · rw [if_pos g] at h; cases h
    rw [if_neg g] at h
    injection h with h1 h2 h3 h4
    have e : twl nameP (c :: l.take m) = twl nameP (c :: l) := by rw [← List.take_succ_cons, twl_take _ _ _ (by omega)]
    rw [e, if_neg g, ← List.take_succ_cons, take_take' (by omega), h1, h2, h3, h4]
  rw [if_neg cl] at h ⊢
  by_cases cd : digitP c = true
  · rw [if_pos cd] at h ⊢
    by_cases g : numV ((c :: l).take (twl digitP (c :: l))) 0 > 65535
    · rw [if_pos g] at h; cases h
    rw [if_neg g] at h
    injection h with h1 h2 h3 h4
    have e : twl digitP (c :: l.take m) = twl digitP (c :: l) := by rw [← List.take_succ_cons, twl_take _ _ _ (by omega)]
    rw [e, ← List.take_succ_cons, take_take' (by omega), if_neg g, h1, h2, h3, h4]
  rw [if_neg cd] at h ⊢
  by_cases c34 : c = 34
  · rw [if_pos c34] at h ⊢
    cases hm' : quF l with
    | inl x =>
      obtain ⟨t', k'⟩ := x
      rw [hm'] at h
      injection h with h1 h2 h3 h4
      rw [quF_take _ rfl hm' (by omega)]
      show Item.word 2 t' 0 (k' + 1) = _
      rw [h1, h2, h3, h4]
    | inr y => rw [hm'] at h; cases y <;> cases h
  rw [if_neg c34] at h ⊢
  by_cases c47 : c = 47
  · rw [if_pos c47] at h ⊢
    cases hm' : slF l with
    | none => rw [hm'] at h; cases h
    | some k' =>
      rw [hm'] at h
      injection h with h1 h2 h3 h4
      rw [slF_take _ rfl hm' (by omega)]
      show Item.word 3 ((l.take m).take k') 0 (k' + 2) = _
      rw [take_take' (by omega), h1, h2, h3, h4]
  rw [if_neg c47] at h ⊢
  exact h
/-- where the first word stands -/
def fst (ws : List api_Word) (d : Nat) : Int := match ws with
  | [] => d
  | w :: _ => w.at_
theorem piece {b : List Int} {k x y : Nat} (h : k ≤ y) (h2 : y ≤ x) : (b.take x).drop y = ((b.drop k).take (x - k)).drop (y - k) := by
  rw [List.drop_take, List.drop_take, List.drop_drop]
  congr 1
  · omega
  · congr 1; omega
theorem cutF_pl : ∀ (n : Nat) {b : List Int} {pos : Nat} {ws : List api_Word}, b.length = n → cutF b pos = (ws, 0, 0) →
    ∃ f : Nat, fst ws (pos + b.length) = f ∧ pos ≤ f ∧ f ≤ pos + b.length ∧ (∀ q, cutF (b.take (f - pos)) q = ([], 0, 0)) ∧
      ∀ i (hi : i < ws.length), ∃ a t : Nat, ws[i].at_ = a ∧ fst (ws.drop (i + 1)) (pos + b.length) = t ∧ pos ≤ a ∧ a < t ∧ t ≤ pos + b.length ∧
        ∀ q : Nat, cutF ((b.take (t - pos)).drop (a - pos)) q = ([(⟨ws[i].kind, ws[i].text, ws[i].n, (q : Int)⟩ : api_Word)], 0, 0) := by
  intro n
  induction n using Nat.strongRecOn with
  | _ n ih =>
    intro b pos ws hn h
    match b with
    | [] =>
      rw [cutF_nil] at h
      simp only [Prod.mk.injEq, and_true] at h
      subst h
      exact ⟨pos, rfl, by simp, by simp, fun q => by simp [cutF_nil], fun i hi => by simp at hi⟩
    | c :: l =>
      simp only [List.length_cons] at hn
      cases ht : tokF c l with
      | skip k =>
        obtain ⟨k1, k2⟩ := tokF_len.1 k ht
        rw [cutF_skip ht] at h
        obtain ⟨f, f1, f2, f3, f4, f5⟩ := ih (l.drop (k - 1)).length (by simp; omega) rfl h
        have hlen : pos + k + (l.drop (k - 1)).length = pos + (c :: l).length := by simp; omega
        rw [hlen] at f1 f3
        refine ⟨f, f1, by omega, f3, fun q => ?_, fun i hi => ?_⟩
        · obtain ⟨j, hj⟩ : ∃ j, f - pos = j + 1 := ⟨f - pos - 1, by omega⟩
          rw [hj, List.take_succ_cons, cutF_skip (tokF_skip_take ht (by omega)), List.drop_take, show j - (k - 1) = f - (pos + k) by omega]
          exact f4 _
        · obtain ⟨a, t, a1, a2, a3, a4, a5, a6⟩ := f5 i hi
          rw [hlen] at a2 a5
          refine ⟨a, t, a1, a2, by omega, a4, a5, fun q => ?_⟩
          rw [piece (k := k) (by omega) (by omega), show (c :: l).drop k = l.drop (k - 1) by obtain ⟨j, rfl⟩ : ∃ j, k = j + 1 := ⟨k - 1, by omega⟩; rfl, show t - pos - k = t - (pos + k) by omega, show a - pos - k = a - (pos + k) by omega]
          exact a6 q
      | word kd tx m k =>
        obtain ⟨k1, k2⟩ := tokF_len.2 kd tx m k ht
        rw [cutF_word ht] at h
        have hlen : pos + k + (l.drop (k - 1)).length = pos + (c :: l).length := by simp; omega
        by_cases h0 : (cutF (l.drop (k - 1)) (pos + k)).2.1 = 0
        · rw [if_pos h0] at h
          simp only [Prod.mk.injEq, and_true] at h
          have h2 := cutF_codes _ _ h0
          obtain ⟨f, f1, f2, f3, f4, f5⟩ := ih (l.drop (k - 1)).length (by simp; omega) rfl (show cutF (l.drop (k - 1)) (pos + k) = ((cutF (l.drop (k - 1)) (pos + k)).1, 0, 0) from Prod.ext rfl (Prod.ext h0 h2))
          generalize (cutF (l.drop (k - 1)) (pos + k)).1 = ws' at *
          subst h
          rw [hlen] at f1 f3
          refine ⟨pos, rfl, by omega, by omega, fun q => by rw [Nat.sub_self, List.take_zero, cutF_nil], fun i hi => ?_⟩
          match i with
          | 0 =>
            refine ⟨pos, f, rfl, f1, by omega, by omega, f3, fun q => ?_⟩
            obtain ⟨j, hj⟩ : ∃ j, f - pos = j + 1 := ⟨f - pos - 1, by omega⟩
            rw [Nat.sub_self, List.drop_zero, hj, List.take_succ_cons]
            refine cutF_w (tokF_word_take ht (by omega)) ?_
            rw [List.drop_take, show j - (k - 1) = f - (pos + k) by omega]
            exact f4 _
          | i + 1 =>
            obtain ⟨a, t, a1, a2, a3, a4, a5, a6⟩ := f5 i (by simpa using hi)
            rw [hlen] at a2 a5
            refine ⟨a, t, a1, a2, by omega, a4, a5, fun q => ?_⟩
            rw [piece (k := k) (by omega) (by omega), show (c :: l).drop k = l.drop (k - 1) by obtain ⟨j, rfl⟩ : ∃ j, k = j + 1 := ⟨k - 1, by omega⟩; rfl, show t - pos - k = t - (pos + k) by omega, show a - pos - k = a - (pos + k) by omega]
            exact a6 q
        · rw [if_neg h0] at h
          simp only [Prod.mk.injEq] at h
          exact absurd (congrArg Prod.fst h.2) h0
      | err e off =>
        rw [cutF_err ht] at h
        simp only [Prod.mk.injEq] at h
        exact absurd h.2.1 (tokF_err ht)
theorem alike_ok {a b : List api_Word} (ha : a.length < 2 ^ 60) (h : a.length = b.length) (h2 : ∀ i (hi : i < a.length), a[i].kind = (b[i]'(h ▸ hi)).kind ∧ a[i].text = (b[i]'(h ▸ hi)).text ∧ a[i].n = (b[i]'(h ▸ hi)).n) : trellislaw8_alike a b true := by
  unfold trellislaw8_alike
  rw [if_pos (by omega)]
  refine Rounds.cnt a.length (fun i hi => ?_) ?_
  · obtain ⟨q1, q2, q3⟩ := h2 i hi
    unfold trellislaw8_alike_b1
    rw [if_pos (by omega), w64_nat (by omega), ix_nat hi, ix_nat (by omega), if_pos q1, if_pos q2, if_pos q3]
    exact ⟨by omega, by omega, rfl⟩
  · unfold trellislaw8_alike_b1
    rw [if_neg (by omega)]
theorem places (hst : trellislaw8_started true) (x1 : ByteArray) : trellislaw8_WordsPlaces x1 true := by
  unfold trellislaw8_WordsPlaces
  refine ⟨true, hst, ?_⟩
  rw [if_pos rfl]
  by_cases hbig : x1.size > 16384
  · refine ⟨_, cut_long hbig, ?_⟩
    rw [if_neg (by show ¬ (80 : Int) = 0; decide)]
  have hs : x1.size ≤ 16384 := by omega
  refine ⟨_, cut_ok hs, ?_⟩
  by_cases h0 : (cutF (bsOf x1) 0).2.1 = 0
  · rw [if_pos h0]
    have h2 := cutF_codes _ _ h0
    obtain ⟨z1, z2⟩ := cutF_size _ (b := bsOf x1) (pos := 0) rfl
    obtain ⟨f, f1, f2, f3, f4, f5⟩ := cutF_pl _ rfl (show cutF (bsOf x1) 0 = ((cutF (bsOf x1) 0).1, 0, 0) from Prod.ext rfl (Prod.ext h0 h2))
    have hl := bsOf_len x1
    generalize cutF (bsOf x1) 0 = R at *
    obtain ⟨ws, e1, e2⟩ := R
    simp only at h0 h2 z1 z2 f1 f2 f3 f4 f5
    subst h0 h2
    simp only [Nat.zero_add, Nat.sub_zero] at f1 f2 f3 f4 f5
    rw [hl] at f1 f3 z1
    have ext : ∀ a t : Nat, bsOf (x1.extract a t) = ((bsOf x1).take t).drop a := fun a t => bsOf_extract _ _ _
    refine Rounds.cnt ws.length (fun i hi => ?_) ?_
    · obtain ⟨a, t, a1, a2, a3, a4, a5, a6⟩ := f5 i hi
      rw [hl] at a2 a5
      have j3 : trellislaw8_WordsPlaces_j3 (i : Int) (ws, 0, 0) (t : Int) x1 false (.inl ((i : Int) + 1)) := by
        unfold trellislaw8_WordsPlaces_j3
        rw [if_neg (by simp)]
        simp only
        rw [ix_nat hi, a1]
        refine ⟨by omega, by omega, _, cut_ok (by simp only [Int.toNat_natCast]; rw [ByteArray.size_extract]; omega), ?_⟩
        simp only [Int.toNat_natCast]
        rw [ext, a6 0]
        rw [if_pos rfl, if_pos (by rfl), w64_nat (by omega)]
        refine ⟨by simp, ?_⟩
        rw [if_pos (by rfl)]
        refine ⟨by omega, true, alike_ok (by simp) (by simp; omega) (fun j hj => ?_), rfl⟩
        simp only [List.length_cons, List.length_nil] at hj
        obtain rfl : j = 0 := by omega
        simp
      have j2 : trellislaw8_WordsPlaces_j2 (i : Int) (ws, 0, 0) x1 (t : Int) (.inl ((i : Int) + 1)) := by
        unfold trellislaw8_WordsPlaces_j2
        simp only
        refine ⟨by omega, ?_⟩
        rw [ix_nat hi, a1, if_neg (by omega), if_neg (by omega), if_neg (by omega)]
        by_cases hi0 : (i : Int) > 0
        · rw [if_pos hi0]
          obtain ⟨a', t', b1, b2, b3, b4, b5, b6⟩ := f5 (i - 1) (by omega)
          have hw : w64 ((i : Int) - 1) = ((i - 1 : Nat) : Int) := by rw [w64_id (by omega)]; omega
          rw [hw, ix_nat (by omega), b1]
          rw [show i - 1 + 1 = i by omega, List.drop_eq_getElem_cons hi] at b2
          have : ws[i].at_ = (t' : Int) := b2
          rw [decide_eq_false (by omega)]
          exact ⟨by omega, j3⟩
        · rw [if_neg hi0]; exact j3
      unfold trellislaw8_WordsPlaces_b1
      simp only
      rw [if_pos (by omega), w64_nat (by omega)]
      by_cases hlast : ((i : Int) + 1) < (ws.length : Int)
      · rw [if_pos hlast, show (i : Int) + 1 = ((i + 1 : Nat) : Int) by omega, ix_nat (by omega)]
        rw [List.drop_eq_getElem_cons (by omega)] at a2
        rw [show ws[i + 1].at_ = (t : Int) from a2]
        exact ⟨by omega, j2⟩
      · rw [if_neg hlast]
        rw [List.drop_eq_nil_of_le (by omega)] at a2
        have : (x1.size : Int) = (t : Int) := a2
        rw [this]
        exact j2
    · have j4 : ∀ d : Int, d = f → trellislaw8_WordsPlaces_j4 x1 d (.inr true) := by
        rintro _ rfl
        unfold trellislaw8_WordsPlaces_j4
        refine ⟨by omega, _, cut_ok (by rw [ByteArray.size_extract]; simp only [Int.toNat_natCast]; omega), ?_⟩
        have e : bsOf (x1.extract (0 : Int).toNat (f : Int).toNat) = (bsOf x1).take f := by rw [Int.toNat_natCast, show (0 : Int).toNat = 0 from rfl, ext, List.drop_zero]
        rw [e, f4 0, if_pos rfl]
        rfl
      unfold trellislaw8_WordsPlaces_b1
      simp only
      rw [if_neg (by omega)]
      match ws with
      | [] =>
        rw [if_neg (by simp)]
        exact j4 _ f1
      | w :: ws =>
        rw [if_pos (by simp)]
        exact ⟨by simp, j4 _ f1⟩
  · rw [if_neg h0]
end Go.Proofs.YtkaejoffnkhbpaaDoor.L
