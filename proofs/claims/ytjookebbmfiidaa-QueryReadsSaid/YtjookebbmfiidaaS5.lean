/- Queries: the codes of errors. No condition. -/
import Derived.Test.YtjookebbmfiidaaS4
set_option linter.unusedVariables false
namespace Go.Proofs.Ytjookebbmfiidaa.L
open Go.Proofs.Ytjookebbmfiidaa.R
def ErrQ (e : Int) : Prop := e = 200 ∨ e = 201 ∨ e = 202
theorem capT_err {x : api_PatNode} {k : PF} {seen : List ByteArray} {t r : List Tk} {e : Int} (h : capT x k seen t = .no e r) : ErrQ e := by
 unfold capT at h
 split at h
 ·split at h
  ·split at h
   ·injection h with h _; exact .inr (.inl h.symm)
   ·cases h
  ·injection h with h _; exact .inl h.symm
 ·cases h
theorem pat_err : ∀ (f : Nat), (∀ m seen t e r, 2 * t.length + 1 ≤ f → patT f m seen t = .no e r → ErrQ e) ∧ (∀ m seen t e r, 2 * t.length + 2 ≤ f → kidsT f m seen t = .no e r → ErrQ e)
 | 0 => ⟨fun m seen t e r hf => by omega, fun m seen t e r hf => by omega⟩
 | f + 1 => by
  obtain ⟨i1, i2⟩ := pat_err f
  refine ⟨fun m seen t e r hf h => ?_, fun m seen t e r hf h => ?_⟩
  ·rw [patT_succ] at h
   have ha := aftT_le t
   by_cases c1 : beginsT t = true
   ·rw [if_pos c1] at h
    by_cases c2 : m ≥ 32
    ·rw [if_pos c2] at h
     injection h with h _; exact .inr (.inr h.symm)
    rw [if_neg c2] at h
    by_cases c3 : isSt (aftT t) = true
    ·rw [if_pos c3] at h
     exact capT_err h
    rw [if_neg c3] at h
    by_cases c4 : isT 5 opB (aftT t) = true
    ·rw [if_pos c4] at h
     obtain ⟨r2, e2⟩ := isT_ex c4
     have h4 := tl_le r2
     rw [e2] at h ha
     simp only [List.length_cons] at ha
     rw [List.tail_cons] at h
     by_cases c5 : nmT r2 = true
     ·rw [if_pos c5] at h
      cases e3 : kidsT f (m + 1) seen r2.tail with
      | no ee q =>
       rw [e3] at h
       injection h with h _
       rw [← h]
       exact i2 _ _ _ _ _ (by omega) e3
      | ok p q =>
       rw [e3] at h
       exact capT_err h
     ·rw [if_neg c5] at h
      injection h with h _; exact .inl h.symm
    ·rw [if_neg c4] at h
     injection h with h _; exact .inl h.symm
   ·rw [if_neg c1] at h
    injection h with h _; exact .inl h.symm
  ·rw [kidsT_succ] at h
   by_cases c1 : isT 5 clB t = true
   ·rw [if_pos c1] at h; cases h
   rw [if_neg c1] at h
   have h1 := (pat_sh f).1 m seen t
   cases e1 : patT f m seen t with
   | no ee q =>
    rw [e1] at h
    injection h with h _
    rw [← h]
    exact i1 _ _ _ _ _ (by omega) e1
   | ok p q =>
    obtain ⟨x, k, seen'⟩ := p
    rw [e1] at h h1
    have h1' : q.length < t.length := h1
    dsimp only at h
    cases e2 : kidsT f (m + 1 + (flatP k).length) seen' q with
    | no ee u =>
     rw [e2] at h
     injection h with h _
     rw [← h]
     exact i2 _ _ _ _ _ (by omega) e2
    | ok p u => rw [e2] at h; cases h
theorem captureT_err {caps : List ByteArray} {t r : List Tk} {e : Int} (h : captureT caps t = .no e r) : ErrQ e := by
 unfold captureT at h
 split at h
 ·split at h
  ·split at h
   ·cases h
   ·injection h with h _; exact .inr (.inl h.symm)
  ·injection h with h _; exact .inl h.symm
 ·injection h with h _; exact .inl h.symm
theorem captureT_sh {caps : List ByteArray} {t r : List Tk} {a : ByteArray} (h : captureT caps t = .ok a r) : r.length + 2 = t.length := by
 rw [(captureT_read h).1]
 rfl
theorem condT_err {n : Nat} {caps : List ByteArray} {t r : List Tk} {e : Int} (h : condT n caps t = .no e r) : ErrQ e := by
 unfold condT at h
 by_cases c1 : kwT t = true
 ·rw [if_pos c1] at h
  by_cases c2 : n ≥ 16
  ·rw [if_pos c2] at h
   injection h with h _; exact .inr (.inr h.symm)
  rw [if_neg c2] at h
  cases e1 : captureT caps t.tail with
  | no ee q =>
   rw [e1] at h
   injection h with h _
   rw [← h]
   exact captureT_err e1
  | ok a q =>
   rw [e1] at h
   dsimp only at h
   by_cases c3 : isT 5 eqB q = true
   ·rw [if_pos c3] at h
    unfold rightT at h
    by_cases c4 : isS q.tail = true
    ·rw [if_pos c4] at h; cases h
    rw [if_neg c4] at h
    cases e2 : captureT caps q.tail with
    | no ee u =>
     rw [e2] at h
     injection h with h _
     rw [← h]
     exact captureT_err e2
    | ok b u => rw [e2] at h; cases h
   ·rw [if_neg c3] at h
    injection h with h _; exact .inl h.symm
 ·rw [if_neg c1] at h
  injection h with h _; exact .inl h.symm
theorem condT_sh {n : Nat} {caps : List ByteArray} {t r : List Tk} {c : api_Cond} (h : condT n caps t = .ok c r) : r.length < t.length := by
 unfold condT at h
 have h0 := tl_le t
 by_cases c1 : kwT t = true
 ·rw [if_pos c1] at h
  by_cases c2 : n ≥ 16
  ·rw [if_pos c2] at h; cases h
  rw [if_neg c2] at h
  cases e1 : captureT caps t.tail with
  | no ee q => rw [e1] at h; cases h
  | ok a q =>
   have s1 := captureT_sh e1
   have s2 := tl_le q
   have s3 := tl_le q.tail
   rw [e1] at h
   dsimp only at h
   by_cases c3 : isT 5 eqB q = true
   ·rw [if_pos c3] at h
    unfold rightT at h
    by_cases c4 : isS q.tail = true
    ·rw [if_pos c4] at h
     injection h with _ h
     rw [← h]
     omega
    rw [if_neg c4] at h
    cases e2 : captureT caps q.tail with
    | no ee u => rw [e2] at h; cases h
    | ok b u =>
     have s4 := captureT_sh e2
     rw [e2] at h
     injection h with _ h
     rw [← h]
     omega
   ·rw [if_neg c3] at h; cases h
 ·rw [if_neg c1] at h; cases h
end Go.Proofs.Ytjookebbmfiidaa.L
