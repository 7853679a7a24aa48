/- JSON: what is read hangs on what was read alone: texts with more behind them; the law JsonFirm. Condition: sizes. -/
import Derived.Test.YtmfopcbjgbphaaaDoorQ15
set_option linter.unusedVariables false
namespace Go.Proofs.YtmfopcbjgbphaaaDoor.L
open Go.Proofs.YtmfopcbjgbphaaaDoor.B Go.Proofs.YtmfopcbjgbphaaaDoor.R
section
variable {o : List Int}
theorem isL_ne {l t : List Int} (h : t ≠ []) : isL l (t ++ o) = isL l t := isL_app (.inr h)
theorem tail_ne {t : List Int} (h : t ≠ []) : (t ++ o).tail = t.tail ++ o := by
 cases t with
 | nil => exact absurd rfl h
 | cons x t => rfl
theorem tailL_loc : ∀ {l : List (Int × Int)} {t : List Int}, (tailL l t).2 ≠ [] ∨ (tailL l t).1 = true → tailL l (t ++ o) = ((tailL l t).1, (tailL l t).2 ++ o)
 | [], t, h => rfl
 | p :: l, [], h => by
  rcases h with h | h
  ·exact absurd rfl h
  ·cases h
 | p :: l, y :: t, h => by
  rw [List.cons_append]
  unfold tailL at h ⊢
  by_cases g : y < p.1 ∨ y > p.2
  ·rw [if_pos g, if_pos g]; rfl
  ·rw [if_neg g] at h ⊢; rw [if_neg g]; exact tailL_loc h
theorem charL_loc {t : List Int} (h : (charL t).2 ≠ [] ∨ (charL t).1 = true) : charL (t ++ o) = ((charL t).1, (charL t).2 ++ o) := by
 cases t with
 | nil =>
  rcases h with h | h
  ·exact absurd rfl h
  ·cases h
 | cons x t =>
  rw [List.cons_append]
  cases e : rng x with
  | none => rw [charL_none e, charL_none e]; rfl
  | some l =>
   rw [charL_some e] at h
   rw [charL_some e, charL_some e]
   exact tailL_loc h
def ext {α : Type} (o : List Int) : Res α → Res α
 | .ok a q => .ok a (q ++ o)
 | .no e q => .no e (q ++ o)
end
theorem val_deep : ∀ (f : Nat), (∀ d key t e r, valL f d key t = .no e r → e ≠ 0 → (e = 250 ∨ e = 251 ∧ r ≠ [])) ∧ (∀ d obj seen t e r, itemsL f d obj seen t = .no e r → e ≠ 0 → (e = 250 ∨ e = 251 ∧ r ≠ []))
 | 0 => ⟨fun d key t e r h h0 => by injection h with h _; exact absurd h.symm h0, fun d obj seen t e r h h0 => by injection h with h _; exact absurd h.symm h0⟩
 | f + 1 => by
  obtain ⟨i1, i2⟩ := val_deep f
  refine ⟨fun d key t e r h h0 => ?_, fun d obj seen t e r h h0 => ?_⟩
  ·rw [valL_succ] at h
   cases e1 : headL d key t with
   | done r0 =>
    rw [e1] at h
    dsimp only at h
    subst h
    have hd : ∀ r0 : Res (api_JNode × F), (∀ e r, r0 = .no e r → (e = 250 ∨ e = 251 ∧ r ≠ [])) → Head.done r0 = .done (.no e r) → (e = 250 ∨ e = 251 ∧ r ≠ []) := fun r0 g e => by
     injection e with e
     exact g _ _ e
    have hw : ∀ (kind : Int) (w : List Int), ∀ e r, wordH kind w key t = .no e r → (e = 250 ∨ e = 251 ∧ r ≠ []) := fun kind w e r h => by
     unfold wordH at h
     split at h
     ·cases h
     ·injection h with h _; exact .inl h.symm
    unfold headL at e1
    split at e1
    ·exact hd _ (hw _ _) e1
    split at e1
    ·exact hd _ (hw _ _) e1
    split at e1
    ·exact hd _ (hw _ _) e1
    split at e1
    ·refine hd _ (fun e r h => ?_) e1
     unfold strH at h
     split at h
     ·cases h
     ·injection h with h _; exact .inl h.symm
    split at e1
    ·rename_i g
     unfold manyH at e1
     split at e1
     ·refine hd _ (fun e r h => ?_) e1
      injection h with h1 h2
      refine .inr ⟨h1.symm, ?_⟩
      rw [← h2]
      intro e2
      rw [e2] at g
      cases g
     split at e1
     ·exact hd _ (fun e r h => by cases h) e1
     ·cases e1
    ·refine hd _ (fun e r h => ?_) e1
     unfold numH at h
     split at h
     ·cases h
     ·injection h with h _; exact .inl h.symm
   | many obj t1 =>
    rw [e1] at h
    dsimp only at h
    cases e2 : itemsL f (d + 1) obj [] t1 with
    | ok k q => rw [e2] at h; cases h
    | no ee q =>
     rw [e2] at h
     injection h with h1 h2
     rw [← h1, ← h2]
     exact i2 _ _ _ _ _ _ e2 (by rw [h1]; exact h0)
  ·rw [itemsL_succ] at h
   cases e1 : keyL obj seen t with
   | no ee q =>
    rw [e1] at h
    injection h with h1 h2
    left
    rw [← h1]
    unfold keyL at e1
    split at e1
    ·split at e1
     ·injection e1 with e1 _; exact e1.symm
     ·split at e1
      ·injection e1 with e1 _; exact e1.symm
      split at e1
      ·cases e1
      ·injection e1 with e1 _; exact e1.symm
    ·cases e1
   | ok key t2 =>
    rw [e1] at h
    dsimp only at h
    cases e2 : valL f d key t2 with
    | no ee q =>
     rw [e2] at h
     injection h with h1 h2
     rw [← h1, ← h2]
     exact i1 _ _ _ _ _ e2 (by rw [h1]; exact h0)
    | ok p q =>
     rw [e2] at h
     dsimp only at h
     split at h
     ·cases h
     split at h
     ·cases e3 : itemsL f d obj (key :: seen) (blL (blL q).tail) with
      | ok s u => rw [e3] at h; cases h
      | no ee u =>
       rw [e3] at h
       injection h with h1 h2
       rw [← h1, ← h2]
       exact i2 _ _ _ _ _ _ e3 (by rw [h1]; exact h0)
     ·injection h with h1 _; exact .inl h1.symm
theorem val_zero : ∀ (f : Nat), (∀ d key t r, 2 * t.length + 1 ≤ f → valL f d key t ≠ .no 0 r) ∧ (∀ d obj seen t r, 2 * t.length + 2 ≤ f → itemsL f d obj seen t ≠ .no 0 r)
 | 0 => ⟨fun d key t r h => by omega, fun d obj seen t r h => by omega⟩
 | f + 1 => by
  obtain ⟨i1, i2⟩ := val_zero f
  refine ⟨fun d key t r hf h => ?_, fun d obj seen t r hf h => ?_⟩
  ·rw [valL_succ] at h
   obtain ⟨s1, s2⟩ := headL_sh d key t
   cases e1 : headL d key t with
   | done r0 =>
    rw [e1] at h
    dsimp only at h
    subst h
    have hd : ∀ r0 : Res (api_JNode × F), (∀ r, r0 ≠ .no 0 r) → Head.done r0 = .done (.no 0 r) → False := fun r0 g e => by
     injection e with e
     exact g _ e
    have hw : ∀ (kind : Int) (w : List Int), ∀ r, wordH kind w key t ≠ .no 0 r := fun kind w r h => by
     unfold wordH at h
     split at h
     ·cases h
     ·injection h with h _; exact absurd h (by decide)
    unfold headL at e1
    split at e1
    ·exact hd _ (hw _ _) e1
    split at e1
    ·exact hd _ (hw _ _) e1
    split at e1
    ·exact hd _ (hw _ _) e1
    split at e1
    ·refine hd _ (fun r h => ?_) e1
     unfold strH at h
     split at h
     ·cases h
     ·injection h with h _; exact absurd h (by decide)
    split at e1
    ·unfold manyH at e1
     split at e1
     ·refine hd _ (fun r h => ?_) e1
      injection h with h1 _; exact absurd h1 (by decide)
     split at e1
     ·exact hd _ (fun r h => by cases h) e1
     ·cases e1
    ·refine hd _ (fun r h => ?_) e1
     unfold numH at h
     split at h
     ·cases h
     ·injection h with h _; exact absurd h (by decide)
   | many obj t1 =>
    rw [e1] at h
    dsimp only at h
    have hlt := s2 obj t1 e1
    cases e2 : itemsL f (d + 1) obj [] t1 with
    | ok k q => rw [e2] at h; cases h
    | no ee q =>
     rw [e2] at h
     injection h with h1 h2
     rw [h1] at e2
     exact i2 _ _ _ _ _ (by omega) e2
  ·rw [itemsL_succ] at h
   have hks := keyL_sh obj seen t
   cases e1 : keyL obj seen t with
   | no ee q =>
    rw [e1] at h
    injection h with h1 h2
    have : ee = 250 := by
     unfold keyL at e1
     split at e1
     ·split at e1
      ·injection e1 with e1 _; exact e1.symm
      ·split at e1
       ·injection e1 with e1 _; exact e1.symm
       split at e1
       ·cases e1
       ·injection e1 with e1 _; exact e1.symm
     ·cases e1
    omega
   | ok key t2 =>
    rw [e1] at h hks
    have hks' : t2.length < t.length + 1 := hks
    dsimp only at h
    have hvs := (val_sh f).1 d key t2
    cases e2 : valL f d key t2 with
    | no ee q =>
     rw [e2] at h
     injection h with h1 h2
     rw [h1] at e2
     exact i1 _ _ _ _ (by omega) e2
    | ok p q =>
     rw [e2] at h hvs
     have hvs' : q.length < t2.length := hvs
     dsimp only at h
     have hl1 := blL_len q
     have hl2 := tail_le (blL q)
     have hl3 := blL_len (blL q).tail
     split at h
     ·cases h
     split at h
     ·rename_i g
      have hl4 := isL_tail g
      cases e3 : itemsL f d obj (key :: seen) (blL (blL q).tail) with
      | ok s u => rw [e3] at h; cases h
      | no ee u =>
       rw [e3] at h
       injection h with h1 h2
       rw [h1] at e3
       exact i2 _ _ _ _ _ (by omega) e3
     ·injection h with h1 _; exact absurd h1 (by decide)
theorem parse_err {t : List Int} {e : Int} {r : List Int} (h : parseL t = .no e r) : e = 250 ∨ e = 251 ∧ r ≠ [] := by
 unfold parseL at h
 cases e2 : valN 0 ⟨#[]⟩ (blL t) with
 | no ee q =>
  rw [e2] at h
  injection h with h1 h2
  have h0 : ee ≠ 0 := by
   intro h3
   rw [h3] at e2
   exact (val_zero _).1 _ _ _ _ (Nat.le_refl _) e2
  rw [← h1, ← h2]
  exact (val_deep _).1 _ _ _ _ _ e2 h0
 | ok p q =>
  rw [e2] at h
  dsimp only at h
  split at h
  ·cases h
  ·injection h with h1 _; exact .inl h1.symm
end Go.Proofs.YtmfopcbjgbphaaaDoor.L
