/- Queries: the plain parser's answers: shorter rests, fuel, what is read is good and has just these words. No condition. -/
import Derived.Test.YtjookebbmfiidaaS1
set_option linter.unusedVariables false
namespace Go.Proofs.Ytjookebbmfiidaa.L
open Go.Proofs.Ytjookebbmfiidaa.R
def ShP {α : Type} (n : Nat) : PR α → Prop
 | .ok _ r => r.length < n
 | .no _ r => r.length ≤ n
theorem tl_le (t : List Tk) : t.tail.length ≤ t.length := by rw [List.length_tail]; omega
theorem isT_ex {k : Int} {x : ByteArray} {t : List Tk} (h : isT k x t = true) : ∃ r, t = (k, x) :: r := by
 cases t with
 | nil => cases h
 | cons w r =>
  unfold isT at h
  rw [Bool.and_eq_true, decide_eq_true_eq, decide_eq_true_eq] at h
  exact ⟨r, by rw [← h.1, ← h.2]⟩
theorem isNm_ex {t : List Tk} (h : isNm t = true) : ∃ x r, t = (1, x) :: r ∧ x ≠ uscB := by
 cases t with
 | nil => cases h
 | cons w r =>
  unfold isNm at h
  rw [Bool.and_eq_true, decide_eq_true_eq] at h
  exact ⟨w.2, r, by rw [← h.1], by simpa using h.2⟩
theorem isSt_ex {t : List Tk} (h : isSt t = true) : ∃ x r, t = (2, x) :: r ∧ x ≠ noB := by
 cases t with
 | nil => cases h
 | cons w r =>
  unfold isSt at h
  rw [Bool.and_eq_true, decide_eq_true_eq] at h
  exact ⟨w.2, r, by rw [← h.1], by simpa using h.2⟩
theorem isFd_ex {t : List Tk} (h : isFd t = true) : ∃ x r, t = (1, x) :: (5, colB) :: r ∧ x ≠ uscB := by
 unfold isFd at h
 rw [Bool.and_eq_true] at h
 obtain ⟨x, r, rfl, hx⟩ := isNm_ex h.1
 obtain ⟨q, hq⟩ := isT_ex h.2
 exact ⟨x, q, by rw [← hq]; rfl, hx⟩
theorem aftT_le (t : List Tk) : (aftT t).length ≤ t.length := by
 unfold aftT
 split
 ·have h1 := tl_le t
  have h2 := tl_le t.tail
  omega
 ·exact Nat.le_refl _
theorem capT_sh {n : Nat} {x : api_PatNode} {k : PF} {seen : List ByteArray} {t : List Tk} (h : t.length < n) : ShP n (capT x k seen t) := by
 have h1 := tl_le t
 have h2 := tl_le t.tail
 unfold capT
 split
 ·split
  ·split
   ·show _ ≤ _; omega
   ·show _ < _; omega
  ·show _ ≤ _; omega
 ·exact h
theorem pat_sh : ∀ (f : Nat), (∀ m seen t, ShP t.length (patT f m seen t)) ∧ (∀ m seen t, ShP t.length (kidsT f m seen t))
 | 0 => ⟨fun m seen t => Nat.le_refl _, fun m seen t => Nat.le_refl _⟩
 | f + 1 => by
  obtain ⟨i1, i2⟩ := pat_sh f
  refine ⟨fun m seen t => ?_, fun m seen t => ?_⟩
  ·rw [patT_succ]
   have ha := aftT_le t
   split
   ·split
    ·exact Nat.le_refl _
    split
    ·rename_i h
     obtain ⟨x, r, e, _⟩ := isSt_ex h
     rw [e] at ha ⊢
     simp only [List.length_cons] at ha
     exact capT_sh (by rw [List.tail_cons]; omega)
    split
    ·rename_i h
     obtain ⟨r, e⟩ := isT_ex h
     rw [e] at ha ⊢
     simp only [List.length_cons] at ha
     rw [List.tail_cons]
     by_cases c5 : nmT r = true
     ·rw [if_pos c5]
      have h3 := i2 (m + 1) seen r.tail
      have h4 := tl_le r
      cases e2 : kidsT f (m + 1) seen r.tail with
      | no ee q => rw [e2] at h3; have h3' : q.length ≤ r.tail.length := h3; show q.length ≤ _; omega
      | ok p q =>
       rw [e2] at h3
       have h3' : q.length < r.tail.length := h3
       exact capT_sh (by omega)
     ·rw [if_neg c5]; show r.length ≤ _; omega
    ·show _ ≤ _; exact ha
   ·exact Nat.le_refl _
  ·rw [kidsT_succ]
   split
   ·rename_i h
    obtain ⟨r, e⟩ := isT_ex h
    rw [e]
    show r.length < _
    simp
   ·have h1 := i1 m seen t
    cases e1 : patT f m seen t with
    | no ee q => rw [e1] at h1; exact h1
    | ok p q =>
     obtain ⟨x, k, seen'⟩ := p
     rw [e1] at h1
     have h1' : q.length < t.length := h1
     dsimp only
     have h2 := i2 (m + 1 + (flatP k).length) seen' q
     cases e2 : kidsT f (m + 1 + (flatP k).length) seen' q with
     | no ee u => rw [e2] at h2; have h2' : u.length ≤ q.length := h2; show u.length ≤ _; omega
     | ok p u =>
      obtain ⟨s, seen2⟩ := p
      rw [e2] at h2
      have h2' : u.length < q.length := h2
      show u.length < _
      omega
theorem pat_fuel : ∀ (f g : Nat), (∀ m seen t, 2 * t.length + 1 ≤ f → 2 * t.length + 1 ≤ g → patT f m seen t = patT g m seen t) ∧ (∀ m seen t, 2 * t.length + 2 ≤ f → 2 * t.length + 2 ≤ g → kidsT f m seen t = kidsT g m seen t)
 | 0, g => ⟨fun m seen t hf => by omega, fun m seen t hf => by omega⟩
 | f + 1, 0 => ⟨fun m seen t hf hg => by omega, fun m seen t hf hg => by omega⟩
 | f + 1, g + 1 => by
  obtain ⟨i1, i2⟩ := pat_fuel f g
  refine ⟨fun m seen t hf hg => ?_, fun m seen t hf hg => ?_⟩
  ·rw [patT_succ, patT_succ]
   have ha := aftT_le t
   by_cases c1 : beginsT t = true
   ·rw [if_pos c1, if_pos c1]
    by_cases c2 : m ≥ 32
    ·rw [if_pos c2, if_pos c2]
    rw [if_neg c2, if_neg c2]
    by_cases c3 : isSt (aftT t) = true
    ·rw [if_pos c3, if_pos c3]
    rw [if_neg c3, if_neg c3]
    by_cases c4 : isT 5 opB (aftT t) = true
    ·rw [if_pos c4, if_pos c4]
     obtain ⟨r, e⟩ := isT_ex c4
     have h4 := tl_le r
     rw [e] at ha ⊢
     simp only [List.length_cons] at ha
     rw [List.tail_cons]
     rw [i2 (m + 1) seen r.tail (by omega) (by omega)]
    ·rw [if_neg c4, if_neg c4]
   ·rw [if_neg c1, if_neg c1]
  ·rw [kidsT_succ, kidsT_succ]
   by_cases c1 : isT 5 clB t = true
   ·rw [if_pos c1, if_pos c1]
   rw [if_neg c1, if_neg c1]
   rw [i1 m seen t (by omega) (by omega)]
   have h1 := (pat_sh g).1 m seen t
   cases e1 : patT g m seen t with
   | no ee q => rfl
   | ok p q =>
    obtain ⟨x, k, seen'⟩ := p
    rw [e1] at h1
    have h1' : q.length < t.length := h1
    dsimp only
    rw [i2 (m + 1 + (flatP k).length) seen' q (by omega) (by omega)]
def patN (m : Nat) (seen : List ByteArray) (t : List Tk) := patT (2 * t.length + 1) m seen t
def kidsN (m : Nat) (seen : List ByteArray) (t : List Tk) := kidsT (2 * t.length + 2) m seen t
theorem patN_eq (m : Nat) (seen : List ByteArray) (t : List Tk) : patN m seen t = if beginsT t = true then
   if m ≥ 32 then .no 202 t
   else if isSt (aftT t) = true then capT ⟨hdT (aftT t), true, fldT t, noB, 0⟩ .nil seen (aftT t).tail
   else if isT 5 opB (aftT t) = true then
    if nmT (aftT t).tail = true then
     match kidsN (m + 1) seen (aftT t).tail.tail with
     | .no e r => .no e r
     | .ok (k, seen') r => capT ⟨if isT 1 uscB (aftT t).tail = true then noB else hdT (aftT t).tail, false, fldT t, noB, (cntP k : Int)⟩ k seen' r
    else .no 200 (aftT t).tail
   else .no 200 (aftT t)
  else .no 200 t := by
 unfold patN kidsN
 rw [patT_succ]
 have ha := aftT_le t
 by_cases c4 : isT 5 opB (aftT t) = true
 ·obtain ⟨r, e⟩ := isT_ex c4
  have h4 := tl_le r
  rw [e] at ha ⊢
  simp only [List.length_cons] at ha
  rw [List.tail_cons]
  rw [(pat_fuel (2 * t.length) (2 * r.tail.length + 2)).2 (m + 1) seen r.tail (by omega) (Nat.le_refl _)]
  rfl
 ·rw [if_neg c4, if_neg c4]
theorem kidsN_eq (m : Nat) (seen : List ByteArray) (t : List Tk) : kidsN m seen t = if isT 5 clB t = true then .ok (.nil, seen) t.tail
  else match patN m seen t with
   | .no e r => .no e r
   | .ok (x, k, seen') r => match kidsN (m + 1 + (flatP k).length) seen' r with
    | .no e q => .no e q
    | .ok (s, seen2) q => .ok (.cons x k s, seen2) q := by
 unfold patN kidsN
 rw [kidsT_succ]
 by_cases c1 : isT 5 clB t = true
 ·rw [if_pos c1, if_pos c1]
 rw [if_neg c1, if_neg c1]
 have h1 := (pat_sh (2 * t.length + 1)).1 m seen t
 cases e1 : patT (2 * t.length + 1) m seen t with
 | no ee q => rfl
 | ok p q =>
  obtain ⟨x, k, seen'⟩ := p
  rw [e1] at h1
  have h1' : q.length < t.length := h1
  dsimp only
  rw [(pat_fuel (2 * t.length + 1) (2 * q.length + 2)).2 (m + 1 + (flatP k).length) seen' q (by omega) (Nat.le_refl _)]
  rfl
def SndT (nm : ByteArray → Bool) (t : List Tk) : Prop := ∀ w ∈ t, w.1 = 1 → w.2 ≠ uscB → nm w.2 = true
theorem SndT.tl {nm : ByteArray → Bool} {t : List Tk} (h : SndT nm t) : SndT nm t.tail := fun w hw => h w (List.mem_of_mem_tail hw)
theorem SndT.app {nm : ByteArray → Bool} {a b : List Tk} (h : SndT nm (a ++ b)) : SndT nm b := fun w hw => h w (List.mem_append_right _ hw)
end Go.Proofs.Ytjookebbmfiidaa.L
