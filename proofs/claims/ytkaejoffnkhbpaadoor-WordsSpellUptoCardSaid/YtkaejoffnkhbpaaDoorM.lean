/- The plain side of chapter 8, more: all words of a text. No condition. -/
import Derived.Test.YtkaejoffnkhbpaaDoorL
set_option linter.unusedVariables false
namespace Go.Proofs.YtkaejoffnkhbpaaDoor.L
open Go.Proofs.YtkaejoffnkhbpaaDoor.B Go.Proofs.YtkaejoffnkhbpaaDoor.R
/-- how many bytes from the beginning on meet p -/
def twl (p : Int → Bool) : List Int → Nat
  | [] => 0
  | c :: l => if p c = true then twl p l + 1 else 0
theorem twl_le (p : Int → Bool) : ∀ l, twl p l ≤ l.length
  | [] => Nat.le_refl 0
  | c :: l => by
    rw [twl]
    split
    · have := twl_le p l; simp; omega
    · simp
theorem twl_in (p : Int → Bool) : ∀ {l : List Int} {j : Nat} (h : j < twl p l), ∃ h2 : j < l.length, p l[j] = true
  | [], j, h => by simp [twl] at h
  | c :: l, j, h => by
    rw [twl] at h
    split at h
    · rename_i hc
      match j, h with
      | 0, _ => exact ⟨by simp, hc⟩
      | j + 1, h =>
        obtain ⟨h2, h3⟩ := twl_in p (l := l) (j := j) (by omega)
        exact ⟨by simp; omega, by simpa using h3⟩
    · omega
theorem twl_out (p : Int → Bool) : ∀ {l : List Int} (h : twl p l < l.length), p l[twl p l] = false
  | [], h => by simp at h
  | c :: l, h => by
    by_cases hc : p c = true
    · have e : twl p (c :: l) = twl p l + 1 := by rw [twl, if_pos hc]
      have h2 : twl p l < l.length := by rw [e] at h; simpa using h
      have := twl_out p h2
      simp only [e, List.getElem_cons_succ]
      exact this
    · have e : twl p (c :: l) = 0 := by rw [twl, if_neg hc]
      simp only [e, List.getElem_cons_zero]
      simpa using hc
theorem inScan {s : ByteArray} {p : Int → Bool} {a j : Nat} (h : j < twl p ((bsOf s).drop a)) : a + j < s.size ∧ p (bt s ((a + j : Nat) : Int)) = true := by
  obtain ⟨h2, h3⟩ := twl_in p h
  simp only [List.length_drop, bsOf_len] at h2
  rw [List.getElem_drop] at h3
  exact ⟨by omega, by rw [bt_ix (by omega)]; exact h3⟩
theorem outScan {s : ByteArray} {p : Int → Bool} {a : Nat} (h : a + twl p ((bsOf s).drop a) < s.size) : p (bt s ((a + twl p ((bsOf s).drop a) : Nat) : Int)) = false := by
  have h2 : twl p ((bsOf s).drop a) < ((bsOf s).drop a).length := by simp only [List.length_drop, bsOf_len]; omega
  have := twl_out p h2
  rw [List.getElem_drop] at this
  rw [bt_ix h]; exact this
theorem scan_le {s : ByteArray} {p : Int → Bool} {a : Nat} (ha : a ≤ s.size) : a + twl p ((bsOf s).drop a) ≤ s.size := by
  have := twl_le p ((bsOf s).drop a)
  simp only [List.length_drop, bsOf_len] at this
  omega
inductive Item
  | skip (k : Nat)
  | word (kind : Int) (text : List Int) (n : Int) (k : Nat)
  | err (code : Int) (off : Nat)
def numV (l : List Int) (n : Int) : Int := l.foldl (fun n c => min (10 * n + (c - 48)) 65536) n
def signs : ByteArray := ⟨#[123, 125, 40, 41, 124, 42, 43, 63, 58, 59, 44, 61, 64]⟩
def tokF (c : Int) (l : List Int) : Item :=
  if blankP c = true then .skip 1
  else if c = 35 then .skip (twl (fun c => c != 10) (c :: l))
  else if letterP c = true then (if twl nameP (c :: l) > 24 then .err 83 0 else .word 1 ((c :: l).take (twl nameP (c :: l))) 0 (twl nameP (c :: l)))
  else if digitP c = true then (if numV ((c :: l).take (twl digitP (c :: l))) 0 > 65535 then .err 84 0 else .word 4 [] (numV ((c :: l).take (twl digitP (c :: l))) 0) (twl digitP (c :: l)))
  else if c = 34 then (match quF l with
    | .inl (t, k) => .word 2 t 0 (k + 1)
    | .inr none => .err 82 0
    | .inr (some d) => .err 82 (d + 1))
  else if c = 47 then (match slF l with
    | none => .err 82 0
    | some k => .word 3 (l.take k) 0 (k + 2))
  else if idxB signs c ≥ 0 then .word 5 [c] 0 1
  else .err 81 0
def cutF (b : List Int) (pos : Nat) : List api_Word × Int × Int :=
  match b with
  | [] => ([], 0, 0)
  | c :: l =>
    match tokF c l with
    | .skip k => cutF (l.drop (k - 1)) (pos + k)
    | .word kd t n k =>
      if (cutF (l.drop (k - 1)) (pos + k)).2.1 = 0 then (⟨kd, ofBs t, n, (pos : Int)⟩ :: (cutF (l.drop (k - 1)) (pos + k)).1, 0, 0)
      else ([], (cutF (l.drop (k - 1)) (pos + k)).2)
    | .err e off => ([], e, ((pos + off : Nat) : Int))
  termination_by b.length
  decreasing_by all_goals (simp; omega)
theorem cutF_nil (pos : Nat) : cutF [] pos = ([], 0, 0) := by rw [cutF]
theorem cutF_skip {c : Int} {l : List Int} {pos k : Nat} (h : tokF c l = .skip k) : cutF (c :: l) pos = cutF (l.drop (k - 1)) (pos + k) := by rw [cutF, h]
theorem cutF_word {c : Int} {l t : List Int} {kd n : Int} {pos k : Nat} (h : tokF c l = .word kd t n k) : cutF (c :: l) pos = if (cutF (l.drop (k - 1)) (pos + k)).2.1 = 0 then (⟨kd, ofBs t, n, (pos : Int)⟩ :: (cutF (l.drop (k - 1)) (pos + k)).1, 0, 0) else ([], (cutF (l.drop (k - 1)) (pos + k)).2) := by
  rw [cutF, h]
theorem cutF_err {c : Int} {l : List Int} {e : Int} {pos off : Nat} (h : tokF c l = .err e off) : cutF (c :: l) pos = ([], e, ((pos + off : Nat) : Int)) := by rw [cutF, h]
/-- the answer, behind words that were told -/
def resR (acc : List api_Word) (r : List api_Word × Int × Int) : List api_Word × Int × Int := if r.2.1 = 0 then (acc ++ r.1, 0, 0) else ([], r.2)
theorem resR_word (acc : List api_Word) (w : api_Word) (r : List api_Word × Int × Int) : resR acc (if r.2.1 = 0 then (w :: r.1, 0, 0) else ([], r.2)) = resR (acc ++ [w]) r := by
  unfold resR
  by_cases h : r.2.1 = 0
  · simp [h]
  · rw [if_neg h, if_neg h, if_neg h]
theorem tokF_err {c : Int} {l : List Int} {e : Int} {off : Nat} (h : tokF c l = .err e off) : e ≠ 0 := by
  unfold tokF at h
  repeat' split at h
  all_goals (first | (cases h; done) | (injection h with h1 h2; omega))
theorem cutF_form : ∀ (n : Nat) {b : List Int} {pos : Nat}, b.length = n → ((cutF b pos).2.1 = 0 → (cutF b pos).2.2 = 0) ∧ ((cutF b pos).2.1 ≠ 0 → (cutF b pos).1 = []) := by
  intro n
  induction n using Nat.strongRecOn with
  | _ n ih =>
    intro b pos hn
    match b with
    | [] => rw [cutF_nil]; simp
    | c :: l =>
      simp only [List.length_cons] at hn
      cases ht : tokF c l with
      | skip k => rw [cutF_skip ht]; exact ih _ (by simp; omega) rfl
      | word kd t m k =>
        rw [cutF_word ht]
        split
        · simp
        · rename_i h; exact ⟨fun e => absurd e h, fun _ => rfl⟩
      | err e off =>
        rw [cutF_err ht]
        exact ⟨fun e0 => absurd e0 (tokF_err ht), fun _ => rfl⟩
theorem resR_nil (b : List Int) (pos : Nat) : resR [] (cutF b pos) = cutF b pos := by
  obtain ⟨h1, h2⟩ := cutF_form b.length (b := b) (pos := pos) rfl
  unfold resR
  split
  · rename_i h; rw [List.nil_append]; exact Prod.ext rfl (Prod.ext h.symm (h1 h).symm)
  · rename_i h; exact Prod.ext (h2 h).symm rfl
theorem index_ok (c : Int) : strings_IndexByte (⟨#[123, 125, 40, 41, 124, 42, 43, 63, 58, 59, 44, 61, 64]⟩ : ByteArray) c (idxB signs c) := by
  unfold strings_IndexByte
  first | rfl | (refine ⟨_, rfl, rfl⟩) | (unfold internal_stringslite_IndexByte; rfl)
theorem extract_eq {s : ByteArray} {a k : Nat} : s.extract a (a + k) = ofBs (((bsOf s).drop a).take k) := by
  refine bs_inj ?_
  have hB : Bts (((bsOf s).drop a).take k) := ((bsOf_bts s).drop _).take _
  rw [bsOf_ofBs hB, bsOf_extract, List.drop_take]
  congr 1
  omega
theorem numV_cap (l : List Int) : ∀ {n : Int}, n ≤ 65536 → numV l n ≤ 65536 := by
  induction l with
  | nil => intro n h; exact h
  | cons c l ih => intro n h; exact ih (Int.min_le_right _ _)
theorem numV_nn (l : List Int) : ∀ {n : Int}, 0 ≤ n → (∀ c ∈ l, 48 ≤ c) → 0 ≤ numV l n := by
  induction l with
  | nil => intro n h _; exact h
  | cons c l ih =>
    intro n h hc
    refine ih ?_ fun d hd => hc d (by simp [hd])
    have := hc c (by simp)
    show 0 ≤ min (10 * n + (c - 48)) 65536
    omega
theorem numV_snoc (l : List Int) (c n : Int) : numV (l ++ [c]) n = min (10 * numV l n + (c - 48)) 65536 := by simp [numV, List.foldl_append]
theorem quF_le : ∀ (n : Nat) {l t : List Int} {k : Nat}, l.length = n → quF l = .inl (t, k) → k ≤ l.length := by
  intro n
  induction n using Nat.strongRecOn with
  | _ n ih =>
    intro l t k hn h
    match l with
    | [] => rw [quF_nil] at h; cases h
    | c :: l =>
      rw [quF] at h
      simp only [List.length_cons] at hn ⊢
      split at h
      · cases h
      · split at h
        · simp only [Sum.inl.injEq, Prod.mk.injEq] at h; omega
        · split at h
          · split at h
            · cases h
            · rename_i e0
              have hle := escF_le _ e0
              split at h
              · rename_i t' k' e
                have := ih (l.drop ((escF l).2 - 1)).length (by simp; omega) rfl e
                simp only [Sum.inl.injEq, Prod.mk.injEq, List.length_drop] at h this
                omega
              · cases h
              · cases h
          · split at h
            · rename_i t' k' e
              have := ih l.length (by omega) rfl e
              simp only [Sum.inl.injEq, Prod.mk.injEq] at h
              omega
            · cases h
            · cases h
theorem slF_le : ∀ (n : Nat) {l : List Int} {k : Nat}, l.length = n → slF l = some k → k + 1 ≤ l.length := by
  intro n
  induction n using Nat.strongRecOn with
  | _ n ih =>
    intro l k hn h
    match l with
    | [] => simp [slF] at h
    | c :: l =>
      rw [slF_cons] at h
      simp only [List.length_cons] at hn ⊢
      split at h
      · cases h
      · split at h
        · simp only [Option.some.injEq] at h; omega
        · split at h
          · match l with
            | [] => cases h
            | d :: r =>
              simp only at h
              split at h
              · cases h
              · obtain ⟨z, hz, hz2⟩ := Option.map_eq_some_iff.1 h
                have := ih r.length (by simp at hn; omega) rfl hz
                simp only [List.length_cons]
                omega
          · obtain ⟨z, hz, hz2⟩ := Option.map_eq_some_iff.1 h
            have := ih l.length (by omega) rfl hz
            omega
theorem cut_ok {s : ByteArray} (hs : s.size ≤ 16384) : words_Cut s (cutF (bsOf s) 0) := by
  have hl := bsOf_len s
  unfold words_Cut
  rw [if_neg (by omega)]
  have e0 : cutF (bsOf s) 0 = resR [] (cutF (bsOf s) 0) := (resR_nil _ _).symm
  rw [e0]
  refine Rounds.to (fun q : (List api_Word) × Int => 0 ≤ q.2 ∧ q.2 ≤ (s.size : Int) ∧ (q.1.length : Int) ≤ q.2 ∧ resR q.1 (cutF ((bsOf s).drop q.2.toNat) q.2.toNat) = resR [] (cutF (bsOf s) 0)) (fun q => ((s.size : Int) - q.2).toNat) (fun q hq => ?_) ⟨by simp, by simp, by simp, by simp⟩
  obtain ⟨acc, at_⟩ := q
  obtain ⟨h0, h1, h2, h3⟩ := hq
  simp only at h0 h1 h2 h3
  obtain ⟨a, rfl⟩ : ∃ a : Nat, at_ = a := ⟨at_.toNat, by omega⟩
  rw [Int.toNat_natCast] at h3
  show words_Cut_b1 s acc a _ ∨ ∃ s', words_Cut_b1 s acc a (.inl s') ∧ _
  by_cases he : a = s.size
  · left
    unfold words_Cut_b1
    rw [if_pos (by omega), ← h3, he, List.drop_eq_nil_of_le (by omega), cutF_nil]
    simp [resR]
  have ha : a < s.size := by omega
  have hd := dropB ha
  have red : ∀ o, (∃ r872 : Bool, (words_blank (bt s a) r872) ∧
      if r872 = true then o = .inl (acc, ((a + 1 : Nat) : Int)) else
      if bt s a = 35 then Rounds (fun (q : Int) o => words_Cut_b2 s acc q o) a o else
        ∃ r903 : Bool, (words_letter (bt s a) r903) ∧ if r903 = true then Rounds (fun (q : Int) o => words_Cut_b4 s a acc q o) a o else
          ∃ r1068 : Bool, (words_digit (bt s a) r1068) ∧ if r1068 = true then Rounds (fun (q : Int × Int) o => words_Cut_b6 s a acc q.1 q.2 o) (a, 0) o else
            if bt s a = 34 then
              ∃ r1203 : (List Int) × Int × Int, (words_quoted s a r1203) ∧ if r1203.2.1 = 0 then ∃ x1220 : List api_Word, (x1220 = acc ++ ([(⟨2, ofBs r1203.1, 0, a⟩ : api_Word)] : List api_Word)) ∧ (x1220.length * 40 ≤ 211106232532992) ∧ o = .inl (x1220, r1203.2.2)
              else o = .inr ((([] : List api_Word), r1203.2.1, r1203.2.2))
            else if bt s a = 47 then
              ∃ r1251 : (List Int) × Int × Int, (words_slashed s a r1251) ∧ if r1251.2.1 = 0 then ∃ x1268 : List api_Word, (x1268 = acc ++ ([(⟨3, ofBs r1251.1, 0, a⟩ : api_Word)] : List api_Word)) ∧ (x1268.length * 40 ≤ 211106232532992) ∧ o = .inl (x1268, r1251.2.2)
              else o = .inr ((([] : List api_Word), r1251.2.1, r1251.2.2))
            else ∃ r1274 : Int, (strings_IndexByte (⟨#[123, 125, 40, 41, 124, 42, 43, 63, 58, 59, 44, 61, 64]⟩ : ByteArray) (bt s a) r1274) ∧ if r1274 ≥ 0 then
                (0 ≤ (a : Int) ∧ (a : Int) ≤ ((a + 1 : Nat) : Int) ∧ ((a + 1 : Nat) : Int) ≤ (s.size : Int)) ∧
                ∃ x1287 : List api_Word, (x1287 = acc ++ ([(⟨5, s.extract (a : Int).toNat ((a + 1 : Nat) : Int).toNat, 0, a⟩ : api_Word)] : List api_Word)) ∧ (x1287.length * 40 ≤ 211106232532992) ∧ o = .inl (x1287, ((a + 1 : Nat) : Int))
              else o = .inr ((([] : List api_Word), 81, (a : Int)))) → words_Cut_b1 s acc a o := fun o h => by
    unfold words_Cut_b1
    rw [if_neg (by omega), show w64 ((a : Int) + 1) = ((a + 1 : Nat) : Int) by rw [w64_id (by omega)]; omega]
    exact ⟨by omega, h⟩
  rw [hd] at h3
  -- what a token leaves
  have skip : ∀ k, 1 ≤ k → a + k ≤ s.size → tokF (bt s a) ((bsOf s).drop (a + 1)) = .skip k → words_Cut_b1 s acc a (.inl (acc, ((a + k : Nat) : Int))) → ∃ s', words_Cut_b1 s acc a (.inl s') ∧ (0 ≤ s'.2 ∧ s'.2 ≤ (s.size : Int) ∧ (s'.1.length : Int) ≤ s'.2 ∧ resR s'.1 (cutF ((bsOf s).drop s'.2.toNat) s'.2.toNat) = resR [] (cutF (bsOf s) 0)) ∧ ((s.size : Int) - s'.2).toNat < ((s.size : Int) - (a : Int)).toNat := by
    intro k k1 k2 ht hb
    refine ⟨_, hb, ⟨by show 0 ≤ ((a + k : Nat) : Int); omega, by show ((a + k : Nat) : Int) ≤ _; omega, by show (acc.length : Int) ≤ ((a + k : Nat) : Int); omega, ?_⟩, by show ((s.size : Int) - ((a + k : Nat) : Int)).toNat < _; omega⟩
    show resR acc (cutF ((bsOf s).drop ((a + k : Nat) : Int).toNat) ((a + k : Nat) : Int).toNat) = _
    rw [Int.toNat_natCast, ← h3, cutF_skip ht, List.drop_drop, show a + 1 + (k - 1) = a + k by omega]
  have word : ∀ kd t n k, 1 ≤ k → a + k ≤ s.size → tokF (bt s a) ((bsOf s).drop (a + 1)) = .word kd t n k → words_Cut_b1 s acc a (.inl (acc ++ [(⟨kd, ofBs t, n, a⟩ : api_Word)], ((a + k : Nat) : Int))) → ∃ s', words_Cut_b1 s acc a (.inl s') ∧ (0 ≤ s'.2 ∧ s'.2 ≤ (s.size : Int) ∧ (s'.1.length : Int) ≤ s'.2 ∧ resR s'.1 (cutF ((bsOf s).drop s'.2.toNat) s'.2.toNat) = resR [] (cutF (bsOf s) 0)) ∧ ((s.size : Int) - s'.2).toNat < ((s.size : Int) - (a : Int)).toNat := by
    intro kd t n k k1 k2 ht hb
    refine ⟨_, hb, ⟨by show 0 ≤ ((a + k : Nat) : Int); omega, by show ((a + k : Nat) : Int) ≤ _; omega, by show ((acc ++ [_]).length : Int) ≤ ((a + k : Nat) : Int); simp; omega, ?_⟩, by show ((s.size : Int) - ((a + k : Nat) : Int)).toNat < _; omega⟩
    show resR (acc ++ [_]) (cutF ((bsOf s).drop ((a + k : Nat) : Int).toNat) ((a + k : Nat) : Int).toNat) = _
    rw [Int.toNat_natCast, ← h3, cutF_word ht, resR_word, List.drop_drop, show a + 1 + (k - 1) = a + k by omega]
  have err : ∀ e off, e ≠ 0 → tokF (bt s a) ((bsOf s).drop (a + 1)) = .err e off → resR [] (cutF (bsOf s) 0) = ([], e, ((a + off : Nat) : Int)) := by
    intro e off he ht
    rw [← h3, cutF_err ht]
    unfold resR
    rw [if_neg he]
  by_cases cb : blankP (bt s a) = true
  · right
    refine skip 1 (by omega) (by omega) (by unfold tokF; rw [if_pos cb]) (red _ ⟨_, blank_ok _, ?_⟩)
    rw [if_pos cb]
  have red2 := fun o h => red o ⟨_, blank_ok _, by rw [if_neg cb]; exact h⟩
  by_cases c35 : bt s a = 35
  · right
    have hk : 1 ≤ twl (fun c => c != 10) ((bsOf s).drop a) := by rw [hd, twl, if_pos (by rw [c35]; decide)]; omega
    have hle := scan_le (p := fun c => c != 10) (a := a) (s := s) (by omega)
    refine skip _ hk hle (by unfold tokF; rw [if_neg cb, if_pos c35, ← hd]) (red2 _ ?_)
    rw [if_pos c35]
    refine Rounds.upto (B := fun (q : Int) o => words_Cut_b2 s acc q o) (fun j => ((a + j : Nat) : Int)) (twl (fun c => c != 10) ((bsOf s).drop a)) (fun j hj => ?_) ?_
    · obtain ⟨g1, g2⟩ := inScan hj
      unfold words_Cut_b2 words_Cut_j3
      rw [if_pos (by omega), if_pos (by exact g2), w64_id (x := ((a + j : Nat) : Int) + 1) (by omega)]
      exact ⟨by omega, rfl⟩
    · unfold words_Cut_b2 words_Cut_j3
      by_cases g : a + twl (fun c => c != 10) ((bsOf s).drop a) < s.size
      · have := outScan g
        rw [if_pos (by omega), if_neg (by rw [this]; simp)]
        exact ⟨by omega, rfl⟩
      · rw [if_neg (by omega), if_neg (by simp)]
  have red3 := fun o h => red2 o (by rw [if_neg c35]; exact ⟨_, letter_ok _, h⟩)
  by_cases cl : letterP (bt s a) = true
  · have hk : 1 ≤ twl nameP ((bsOf s).drop a) := by rw [hd, twl, if_pos (by rw [nameP, cl]; rfl)]; omega
    have hle := scan_le (p := nameP) (a := a) (s := s) (by omega)
    have ht : tokF (bt s a) ((bsOf s).drop (a + 1)) = if twl nameP ((bsOf s).drop a) > 24 then .err 83 0 else .word 1 (((bsOf s).drop a).take (twl nameP ((bsOf s).drop a))) 0 (twl nameP ((bsOf s).drop a)) := by
      unfold tokF; rw [if_neg cb, if_neg c35, if_pos cl, ← hd]
    have run : ∀ r : Sum ((List api_Word) × Int) ((List api_Word) × Int × Int), words_Cut_j5 ((a + twl nameP ((bsOf s).drop a) : Nat) : Int) a s acc false (.inr r) → Rounds (fun (q : Int) o => words_Cut_b4 s a acc q o) a r := fun r hr => by
      refine Rounds.upto (B := fun (q : Int) o => words_Cut_b4 s a acc q o) (fun j => ((a + j : Nat) : Int)) (twl nameP ((bsOf s).drop a)) (fun j hj => ?_) ?_
      · obtain ⟨g1, g2⟩ := inScan hj
        have jt : words_Cut_j5 ((a + j : Nat) : Int) a s acc true (.inl ((a + (j + 1) : Nat) : Int)) := by
          show Sum.inl _ = Sum.inl (w64 (((a + j : Nat) : Int) + 1))
          rw [w64_id (by omega)]
          congr 1
        unfold words_Cut_b4
        rw [if_pos (by omega)]
        refine ⟨by omega, _, letter_ok _, ?_⟩
        by_cases g3 : letterP (bt s ((a + j : Nat) : Int)) = true
        · rw [if_pos g3]; exact jt
        · rw [if_neg g3]
          refine ⟨_, digit_ok _, ?_⟩
          have : digitP (bt s ((a + j : Nat) : Int)) = true := by
            have g4 := g2
            rw [nameP, Bool.or_eq_true] at g4
            exact g4.resolve_left g3
          rw [this]; exact jt
      · unfold words_Cut_b4
        by_cases g : a + twl nameP ((bsOf s).drop a) < s.size
        · have := outScan g
          simp only [nameP, Bool.or_eq_false_iff] at this
          rw [if_pos (by omega)]
          refine ⟨by omega, _, letter_ok _, ?_⟩
          rw [if_neg (by rw [show letterP _ = false from this.1]; simp)]
          refine ⟨_, digit_ok _, ?_⟩
          rw [show digitP _ = false from this.2]
          exact hr
        · rw [if_neg (by omega)]; exact hr
    have w : w64 (((a + twl nameP ((bsOf s).drop a) : Nat) : Int) - (a : Int)) = (twl nameP ((bsOf s).drop a) : Int) := by rw [w64_id (by omega)]; omega
    by_cases hbig : twl nameP ((bsOf s).drop a) > 24
    · left
      rw [if_pos hbig] at ht
      rw [err 83 0 (by decide) ht]
      refine red3 _ ?_
      rw [if_pos cl]
      refine run _ ?_
      unfold words_Cut_j5
      rw [if_neg (by simp), w, if_pos (by omega)]
      rfl
    · right
      rw [if_neg hbig] at ht
      refine word _ _ _ _ hk hle ht (red3 _ ?_)
      rw [if_pos cl]
      refine run _ ?_
      unfold words_Cut_j5
      rw [if_neg (by simp), w, if_neg (by omega)]
      refine ⟨by omega, _, rfl, by simp; omega, ?_⟩
      rw [Int.toNat_natCast, Int.toNat_natCast, extract_eq]
  have red4 := fun o h => red3 o (by rw [if_neg cl]; exact ⟨_, digit_ok _, h⟩)
  by_cases cd : digitP (bt s a) = true
  · have hk : 1 ≤ twl digitP ((bsOf s).drop a) := by rw [hd, twl, if_pos cd]; omega
    have hle := scan_le (p := digitP) (a := a) (s := s) (by omega)
    have ht : tokF (bt s a) ((bsOf s).drop (a + 1)) = if numV (((bsOf s).drop a).take (twl digitP ((bsOf s).drop a))) 0 > 65535 then .err 84 0 else .word 4 [] (numV (((bsOf s).drop a).take (twl digitP ((bsOf s).drop a))) 0) (twl digitP ((bsOf s).drop a)) := by
      unfold tokF; rw [if_neg cb, if_neg c35, if_neg cl, if_pos cd, ← hd]
    have run : ∀ r : Sum ((List api_Word) × Int) ((List api_Word) × Int × Int), words_Cut_j7 ((a + twl digitP ((bsOf s).drop a) : Nat) : Int) s (numV (((bsOf s).drop a).take (twl digitP ((bsOf s).drop a))) 0) a acc false (.inr r) → Rounds (fun (q : Int × Int) o => words_Cut_b6 s a acc q.1 q.2 o) (a, 0) r := fun r hr => by
      refine Rounds.upto (B := fun (q : Int × Int) o => words_Cut_b6 s a acc q.1 q.2 o) (fun j => (((a + j : Nat) : Int), numV (((bsOf s).drop a).take j) 0)) (twl digitP ((bsOf s).drop a)) (fun j hj => ?_) ?_
      · obtain ⟨g1, g2⟩ := inScan hj
        have hdg : ∀ c ∈ ((bsOf s).drop a).take j, 48 ≤ c := fun c hc => by
          obtain ⟨q, hq, rfl⟩ := List.getElem_of_mem hc
          simp only [List.length_take] at hq
          obtain ⟨q1, q2⟩ := twl_in digitP (l := (bsOf s).drop a) (j := q) (by omega)
          rw [List.getElem_take]
          simp only [digitP, Bool.and_eq_true, decide_eq_true_eq] at q2
          exact q2.1
        have n0 := numV_nn _ (Int.le_refl 0) hdg
        have n1 := numV_cap (((bsOf s).drop a).take j) (n := 0) (by omega)
        have hsn : ((bsOf s).drop a).take (j + 1) = ((bsOf s).drop a).take j ++ [bt s ((a + j : Nat) : Int)] := by
          have hj2 : j < ((bsOf s).drop a).length := by simp only [List.length_drop]; omega
          rw [List.take_succ_eq_append_getElem hj2, List.getElem_drop, bt_ix g1]
        have g3 := g2
        simp only [digitP, Bool.and_eq_true, decide_eq_true_eq] at g3
        show words_Cut_b6 s a acc ((a + j : Nat) : Int) (numV (((bsOf s).drop a).take j) 0) (.inl (((a + (j + 1) : Nat) : Int), numV (((bsOf s).drop a).take (j + 1)) 0))
        unfold words_Cut_b6
        rw [if_pos (by omega)]
        refine ⟨by omega, _, digit_ok _, ?_⟩
        rw [g2]
        unfold words_Cut_j7
        rw [if_pos rfl, u8_id (by omega), w64_id (x := 10 * _) (by omega), w64_id (x := bt s _ - 48) (by omega), w64_id (x := 10 * _ + _) (by omega), w64_id (x := ((a + j : Nat) : Int) + 1) (by omega), hsn, numV_snoc]
        exact ⟨by omega, rfl⟩
      · show words_Cut_b6 s a acc ((a + twl digitP ((bsOf s).drop a) : Nat) : Int) _ _
        unfold words_Cut_b6
        by_cases g : a + twl digitP ((bsOf s).drop a) < s.size
        · have := outScan g
          rw [if_pos (by omega)]
          refine ⟨by omega, _, digit_ok _, ?_⟩
          rw [this]; exact hr
        · rw [if_neg (by omega)]; exact hr
    by_cases hbig : numV (((bsOf s).drop a).take (twl digitP ((bsOf s).drop a))) 0 > 65535
    · left
      rw [if_pos hbig] at ht
      rw [err 84 0 (by decide) ht]
      refine red4 _ ?_
      rw [if_pos cd]
      refine run _ ?_
      unfold words_Cut_j7
      rw [if_neg (by simp), if_pos hbig]
      rfl
    · right
      rw [if_neg hbig] at ht
      refine word _ _ _ _ hk hle ht (red4 _ ?_)
      rw [if_pos cd]
      refine run _ ?_
      unfold words_Cut_j7
      rw [if_neg (by simp), if_neg hbig]
      exact ⟨_, rfl, by simp; omega, rfl⟩
  have red5 := fun o h => red4 o (by rw [if_neg cd]; exact h)
  have tk : tokF (bt s a) ((bsOf s).drop (a + 1)) = if bt s a = 34 then (match quF ((bsOf s).drop (a + 1)) with
    | .inl (t, k) => .word 2 t 0 (k + 1)
    | .inr none => .err 82 0
    | .inr (some d) => .err 82 (d + 1)) else if bt s a = 47 then (match slF ((bsOf s).drop (a + 1)) with
    | none => .err 82 0
    | some k => .word 3 (((bsOf s).drop (a + 1)).take k) 0 (k + 2)) else if idxB signs (bt s a) ≥ 0 then .word 5 [bt s a] 0 1 else .err 81 0 := by
    unfold tokF; rw [if_neg cb, if_neg c35, if_neg cl, if_neg cd]
  by_cases c34 : bt s a = 34
  · have hq := quoted_ok hs ha
    rw [if_pos c34] at tk
    cases hm : quF ((bsOf s).drop (a + 1)) with
    | inl x =>
      obtain ⟨t, k⟩ := x
      rw [hm] at tk hq
      have hle := quF_le _ rfl hm
      simp only [List.length_drop] at hle
      right
      refine word 2 t 0 (k + 1) (by omega) (by omega) tk (red5 _ ?_)
      rw [if_pos c34]
      refine ⟨_, hq, ?_⟩
      rw [if_pos (by rfl)]
      refine ⟨_, rfl, by simp; omega, ?_⟩
      show Sum.inl _ = Sum.inl (acc ++ [(⟨2, ofBs ([] ++ t), 0, (a : Int)⟩ : api_Word)], ((a + 1 : Nat) : Int) + (k : Int))
      rw [List.nil_append, show ((a + (k + 1) : Nat) : Int) = ((a + 1 : Nat) : Int) + (k : Int) by omega]
    | inr y =>
      left
      rw [hm] at hq tk
      cases y with
      | none =>
        rw [err 82 0 (by decide) tk]
        refine red5 _ ?_
        rw [if_pos c34]
        refine ⟨_, hq, ?_⟩
        rw [if_neg (by show ¬ (82 : Int) = 0; decide)]
        rfl
      | some d =>
        rw [err 82 (d + 1) (by decide) tk]
        refine red5 _ ?_
        rw [if_pos c34]
        refine ⟨_, hq, ?_⟩
        rw [if_neg (by show ¬ (82 : Int) = 0; decide)]
        show Sum.inr _ = Sum.inr (([] : List api_Word), (82 : Int), ((a + 1 : Nat) : Int) + (d : Int))
        rw [show ((a + (d + 1) : Nat) : Int) = ((a + 1 : Nat) : Int) + (d : Int) by omega]
  have red6 := fun o h => red5 o (by rw [if_neg c34]; exact h)
  rw [if_neg c34] at tk
  by_cases c47 : bt s a = 47
  · have hq := slashed_ok hs ha
    rw [if_pos c47] at tk
    cases hm : slF ((bsOf s).drop (a + 1)) with
    | none =>
      left
      rw [hm] at hq tk
      rw [err 82 0 (by decide) tk]
      refine red6 _ ?_
      rw [if_pos c47]
      refine ⟨_, hq, ?_⟩
      rw [if_neg (by show ¬ (82 : Int) = 0; decide)]
      rfl
    | some k =>
      right
      rw [hm] at hq tk
      have hle := slF_le _ rfl hm
      simp only [List.length_drop] at hle
      refine word 3 _ 0 (k + 2) (by omega) (by omega) tk (red6 _ ?_)
      rw [if_pos c47]
      refine ⟨_, hq, ?_⟩
      rw [if_pos (by rfl)]
      refine ⟨_, rfl, by simp; omega, ?_⟩
      show Sum.inl _ = Sum.inl (acc ++ [(⟨3, ofBs (((bsOf s).take (a + 1 + k)).drop ((a : Int) + 1).toNat), 0, (a : Int)⟩ : api_Word)], ((a + 1 + k + 1 : Nat) : Int))
      rw [show ((a : Int) + 1).toNat = a + 1 by omega, List.drop_take, show a + 1 + k - (a + 1) = k by omega, show a + (k + 2) = a + 1 + k + 1 by omega]
  have red7 := fun o h => red6 o (by rw [if_neg c47]; exact ⟨_, index_ok _, h⟩)
  rw [if_neg c47] at tk
  by_cases cs : idxB signs (bt s a) ≥ 0
  · right
    rw [if_pos cs] at tk
    refine word 5 _ 0 1 (by omega) (by omega) tk (red7 _ ?_)
    rw [if_pos cs]
    refine ⟨by omega, _, rfl, by simp; omega, ?_⟩
    rw [Int.toNat_natCast, Int.toNat_natCast, extract_eq, hd]
    rfl
  · left
    rw [if_neg cs] at tk
    rw [err 81 0 (by decide) tk]
    refine red7 _ ?_
    rw [if_neg cs]
    rfl
theorem cut_long {s : ByteArray} (hs : s.size > 16384) : words_Cut s ([], 80, 16384) := by
  unfold words_Cut
  rw [if_pos (by omega)]

/-! ### a line end parts texts -/
theorem twl_nl {p : Int → Bool} (h : p 10 = false) (r : List Int) : ∀ l : List Int, twl p (l ++ 10 :: r) = twl p l
  | [] => by simp [twl, h]
  | c :: l => by rw [List.cons_append, twl, twl, twl_nl h r l]
theorem escF_nl (r : List Int) : ∀ l : List Int, escF (l ++ 10 :: r) = escF l
  | [] => by simp [escF, escC]
  | c :: l => by
    rw [List.cons_append, escF_cons, escF_cons]
    unfold escC
    have e : escX (l ++ 10 :: r) = escX l := by
      have h10 : (hexF 10).2 = false := by decide
      match l with
      | [] =>
        match r with
        | [] => rfl
        | d :: r => simp [escX, h10]
      | [a] => simp [escX, h10]
      | a :: b :: l => rfl
    rw [e]
theorem quF_nl2 (r : List Int) : ∀ (n : Nat) {l : List Int}, l.length = n → quF (l ++ 10 :: r) = quF l := by
  intro n
  induction n using Nat.strongRecOn with
  | _ n ih =>
    intro l hn
    match l with
    | [] => rw [List.nil_append, quF_nl, quF_nil]
    | c :: l =>
      simp only [List.length_cons] at hn
      rw [List.cons_append, quF, quF, escF_nl]
      split
      · rfl
      · split
        · rfl
        · split
          · split
            · rfl
            · rename_i e0
              have hle := escF_le _ e0
              rw [List.drop_append_of_le_length (by omega), ih (l.drop ((escF l).2 - 1)).length (by simp; omega) rfl]
          · rw [ih l.length (by omega) rfl]
theorem slF_nl (r : List Int) : ∀ (n : Nat) {l : List Int}, l.length = n → slF (l ++ 10 :: r) = slF l := by
  intro n
  induction n using Nat.strongRecOn with
  | _ n ih =>
    intro l hn
    match l with
    | [] => rw [List.nil_append, slF_cons, if_pos rfl]; rfl
    | c :: l =>
      simp only [List.length_cons] at hn
      rw [List.cons_append, slF_cons, slF_cons]
      split
      · rfl
      · split
        · rfl
        · split
          · match l with
            | [] => simp
            | d :: l =>
              simp only [List.cons_append]
              split
              · rfl
              · rw [ih l.length (by simp at hn; omega) rfl]
          · rw [ih l.length (by omega) rfl]
theorem take_twl {p : Int → Bool} {l m : List Int} : (l ++ m).take (twl p l) = l.take (twl p l) := List.take_append_of_le_length (twl_le p l)
theorem tokF_nl (c : Int) (l r : List Int) : tokF c (l ++ 10 :: r) = tokF c l := by
  unfold tokF
  have e1 : ∀ p : Int → Bool, p 10 = false → twl p (c :: (l ++ 10 :: r)) = twl p (c :: l) := fun p h => by rw [← List.cons_append, twl_nl h]
  have e2 : ∀ p : Int → Bool, (c :: (l ++ 10 :: r)).take (twl p (c :: l)) = (c :: l).take (twl p (c :: l)) := fun p => by rw [← List.cons_append]; exact take_twl
  rw [e1 _ (by decide), e1 nameP (by decide), e1 digitP (by decide), e2, e2, quF_nl2 r _ rfl, slF_nl r _ rfl]
  cases hm : slF l with
  | none => rfl
  | some k =>
    have := slF_le _ rfl hm
    simp only
    rw [List.take_append_of_le_length (by omega)]
theorem tokF_len {c : Int} {l : List Int} : (∀ k, tokF c l = .skip k → 1 ≤ k ∧ k ≤ l.length + 1) ∧ (∀ kd t n k, tokF c l = .word kd t n k → 1 ≤ k ∧ k ≤ l.length + 1) := by
  have t1 : ∀ p : Int → Bool, p c = true → 1 ≤ twl p (c :: l) ∧ twl p (c :: l) ≤ l.length + 1 := fun p h => by
    have := twl_le p (c :: l)
    rw [List.length_cons] at this
    refine ⟨?_, this⟩
    rw [twl, if_pos h]; omega
  constructor
  · intro k h
    unfold tokF at h
    repeat' split at h
    all_goals (first | (injection h with h; subst h; first | omega | (rename_i g; exact t1 _ (by rw [g]; decide))) | (cases h; done))
  · intro kd t n k h
    unfold tokF at h
    repeat' split at h
    all_goals (first
      | (cases h; done)
      | (injection h with h1 h2 h3 h4; subst h4; first
        | omega
        | (rename_i g _; exact t1 nameP (by rw [nameP, g]; rfl))
        | (rename_i g _; exact t1 digitP g)
        | (rename_i hm; have := quF_le _ rfl hm; omega)
        | (rename_i hm; have := slF_le _ rfl hm; omega)))
end Go.Proofs.YtkaejoffnkhbpaaDoor.L
