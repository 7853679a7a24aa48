/- JSON: what is read hangs on what was read alone: texts with more behind them; the law JsonFirm. Condition: sizes. -/
import Derived.Test.YtmfopcbjgbphaaaDoorQ15
set_option linter.unusedVariables false
namespace Go.Proofs.YtmfopcbjgbphaaaDoor.L
open Go.Proofs.YtmfopcbjgbphaaaDoor.B Go.Proofs.YtmfopcbjgbphaaaDoor.R
section
variable {o : List Int}
end
theorem val_zero : ∀ (f : Nat), (∀ d key t r, 2 * t.length + 1 ≤ f → valL f d key t ≠ .no 0 r) ∧ (∀ d obj seen t r, 2 * t.length + 2 ≤ f → itemsL f d obj seen t ≠ .no 0 r)
 | 0 => ⟨fun d key t r h => by omega, fun d obj seen t r h => by omega⟩
 | f + 1 => by
  obtain ⟨i1, i2⟩ := val_zero f
  refine ⟨fun d key t r hf h => ?_, fun d obj seen t r hf h => ?_⟩
  ·rw [valL_succ] at h
   obtain ⟨s1, s2⟩ := headL_sh d key t
   cases e1 : headL d key t with
   | done r0 =>
    rw [e1] at h
    dsimp only at h
    subst h
    have hd : ∀ r0 : Res (api_JNode × F), (∀ r, r0 ≠ .no 0 r) → Head.done r0 = .done (.no 0 r) → False := fun r0 g e => by
     injection e with e
     exact g _ e
    have hw : ∀ (kind : Int) (w : List Int), ∀ r, wordH kind w key t ≠ .no 0 r := fun kind w r h => by
     unfold wordH at h
     split at h
     ·cases h
     ·injection h with h _; exact absurd h (by decide)
    unfold headL at e1
    split at e1
    ·exact hd _ (hw _ _) e1
    split at e1
    ·exact hd _ (hw _ _) e1
    split at e1
    ·exact hd _ (hw _ _) e1
    split at e1
    ·refine hd _ (fun r h => ?_) e1
     unfold strH at h
     split at h
     ·cases h
     ·injection h with h _; exact absurd h (by decide)
    split at e1
    ·unfold manyH at e1
     split at e1
     ·refine hd _ (fun r h => ?_) e1
      injection h with h1 _; exact absurd h1 (by decide)
     split at e1
     ·exact hd _ (fun r h => by cases h) e1
     ·cases e1
    ·refine hd _ (fun r h => ?_) e1
     unfold numH at h
     split at h
     ·cases h
     ·injection h with h _; exact absurd h (by decide)
   | many obj t1 =>
    rw [e1] at h
    dsimp only at h
    have hlt := s2 obj t1 e1
    cases e2 : itemsL f (d + 1) obj [] t1 with
    | ok k q => rw [e2] at h; cases h
    | no ee q =>
     rw [e2] at h
     injection h with h1 h2
     rw [h1] at e2
     exact i2 _ _ _ _ _ (by omega) e2
  ·rw [itemsL_succ] at h
   have hks := keyL_sh obj seen t
   cases e1 : keyL obj seen t with
   | no ee q =>
    rw [e1] at h
    injection h with h1 h2
    have : ee = 250 := by
     unfold keyL at e1
     split at e1
     ·split at e1
      ·injection e1 with e1 _; exact e1.symm
      ·split at e1
       ·injection e1 with e1 _; exact e1.symm
       split at e1
       ·cases e1
       ·injection e1 with e1 _; exact e1.symm
     ·cases e1
    omega
   | ok key t2 =>
    rw [e1] at h hks
    have hks' : t2.length < t.length + 1 := hks
    dsimp only at h
    have hvs := (val_sh f).1 d key t2
    cases e2 : valL f d key t2 with
    | no ee q =>
     rw [e2] at h
     injection h with h1 h2
     rw [h1] at e2
     exact i1 _ _ _ _ (by omega) e2
    | ok p q =>
     rw [e2] at h hvs
     have hvs' : q.length < t2.length := hvs
     dsimp only at h
     have hl1 := blL_len q
     have hl2 := tail_le (blL q)
     have hl3 := blL_len (blL q).tail
     split at h
     ·cases h
     split at h
     ·rename_i g
      have hl4 := isL_tail g
      cases e3 : itemsL f d obj (key :: seen) (blL (blL q).tail) with
      | ok s u => rw [e3] at h; cases h
      | no ee u =>
       rw [e3] at h
       injection h with h1 h2
       rw [h1] at e3
       exact i2 _ _ _ _ _ (by omega) e3
     ·injection h with h1 _; exact absurd h1 (by decide)
end Go.Proofs.YtmfopcbjgbphaaaDoor.L
