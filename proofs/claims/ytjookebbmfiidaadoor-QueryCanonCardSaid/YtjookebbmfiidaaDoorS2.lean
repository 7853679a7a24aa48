/- Queries: the plain parser's answers: shorter rests, fuel, what is read is good and has just these words. No condition. -/
import Derived.Test.YtjookebbmfiidaaDoorS1
set_option linter.unusedVariables false
namespace Go.Proofs.YtjookebbmfiidaaDoor.L
open Go.Proofs.YtjookebbmfiidaaDoor.R
def ShP {α : Type} (n : Nat) : PQ α → Prop
 | .ok _ r => r.length < n
 | .no _ r => r.length ≤ n
theorem Zq (t : List Tk) : t.tail.length ≤ t.length := by rw [List.length_tail]; omega
theorem Oo {k : Int} {x : ByteArray} {t : List Tk} (h : isT k x t = true) : ∃ r, t = (k, x) :: r := by
 cases t with
 | nil => cases h
 | cons w r =>
  unfold isT at h
  rw [Bool.and_eq_true, decide_eq_true_eq, decide_eq_true_eq] at h
  exact ⟨r, by rw [← h.1, ← h.2]⟩
theorem Xco {t : List Tk} (h : X4 t = true) : ∃ x r, t = (1, x) :: r ∧ x ≠ Oy := by
 cases t with
 | nil => cases h
 | cons w r =>
  unfold X4 at h
  rw [Bool.and_eq_true, decide_eq_true_eq] at h
  exact ⟨w.2, r, by rw [← h.1], by simpa using h.2⟩
theorem Xex {t : List Tk} (h : Zi t = true) : ∃ x r, t = (2, x) :: r ∧ x ≠ noB := by
 cases t with
 | nil => cases h
 | cons w r =>
  unfold Zi at h
  rw [Bool.and_eq_true, decide_eq_true_eq] at h
  exact ⟨w.2, r, by rw [← h.1], by simpa using h.2⟩
theorem Xkp {t : List Tk} (h : Xk t = true) : ∃ x r, t = (1, x) :: (5, Xem) :: r ∧ x ≠ Oy := by
 unfold Xk at h
 rw [Bool.and_eq_true] at h
 obtain ⟨x, r, rfl, hx⟩ := Xco h.1
 obtain ⟨q, hq⟩ := Oo h.2
 exact ⟨x, q, by rw [← hq]; rfl, hx⟩
theorem Xd8 (t : List Tk) : (Ji t).length ≤ t.length := by
 unfold Ji
 split
 ·have h1 := Zq t
  have h2 := Zq t.tail
  omega
 ·exact Nat.le_refl _
theorem Xl1 {n : Nat} {x : Ag} {k : PF} {seen : List ByteArray} {t : List Tk} (h : t.length < n) : ShP n (Ul x k seen t) := by
 have h1 := Zq t
 have h2 := Zq t.tail
 unfold Ul
 split
 ·split
  ·split
   ·show _ ≤ _; omega
   ·show _ < _; omega
  ·show _ ≤ _; omega
 ·exact h
theorem Xg4 : ∀ (f : Nat), (∀ m seen t, ShP t.length (Yb f m seen t)) ∧ (∀ m seen t, ShP t.length (kidsT f m seen t))
 | 0 => ⟨fun m seen t => Nat.le_refl _, fun m seen t => Nat.le_refl _⟩
 | f + 1 => by
  obtain ⟨i1, i2⟩ := Xg4 f
  refine ⟨fun m seen t => ?_, fun m seen t => ?_⟩
  ·rw [Qa]
   have ha := Xd8 t
   split
   ·split
    ·exact Nat.le_refl _
    split
    ·rename_i h
     obtain ⟨x, r, e, _⟩ := Xex h
     rw [e] at ha ⊢
     simp only [List.length_cons] at ha
     exact Xl1 (by rw [List.tail_cons]; omega)
    split
    ·rename_i h
     obtain ⟨r, e⟩ := Oo h
     rw [e] at ha ⊢
     simp only [List.length_cons] at ha
     rw [List.tail_cons]
     by_cases c5 : nmT r = true
     ·rw [if_pos c5]
      have h3 := i2 (m + 1) seen r.tail
      have h4 := Zq r
      cases e2 : kidsT f (m + 1) seen r.tail with
      | no ee q => rw [e2] at h3; have h3' : q.length ≤ r.tail.length := h3; show q.length ≤ _; omega
      | ok p q =>
       rw [e2] at h3
       have h3' : q.length < r.tail.length := h3
       exact Xl1 (by omega)
     ·rw [if_neg c5]; show r.length ≤ _; omega
    ·show _ ≤ _; exact ha
   ·exact Nat.le_refl _
  ·rw [Ol]
   split
   ·rename_i h
    obtain ⟨r, e⟩ := Oo h
    rw [e]
    show r.length < _
    simp
   ·have h1 := i1 m seen t
    cases e1 : Yb f m seen t with
    | no ee q => rw [e1] at h1; exact h1
    | ok p q =>
     obtain ⟨x, k, seen'⟩ := p
     rw [e1] at h1
     have h1' : q.length < t.length := h1
     dsimp only
     have h2 := i2 (m + 1 + (Bq k).length) seen' q
     cases e2 : kidsT f (m + 1 + (Bq k).length) seen' q with
     | no ee u => rw [e2] at h2; have h2' : u.length ≤ q.length := h2; show u.length ≤ _; omega
     | ok p u =>
      obtain ⟨s, seen2⟩ := p
      rw [e2] at h2
      have h2' : u.length < q.length := h2
      show u.length < _
      omega
theorem Xcx : ∀ (f g : Nat), (∀ m seen t, 2 * t.length + 1 ≤ f → 2 * t.length + 1 ≤ g → Yb f m seen t = Yb g m seen t) ∧ (∀ m seen t, 2 * t.length + 2 ≤ f → 2 * t.length + 2 ≤ g → kidsT f m seen t = kidsT g m seen t)
 | 0, g => ⟨fun m seen t hf => by omega, fun m seen t hf => by omega⟩
 | f + 1, 0 => ⟨fun m seen t hf hg => by omega, fun m seen t hf hg => by omega⟩
 | f + 1, g + 1 => by
  obtain ⟨i1, i2⟩ := Xcx f g
  refine ⟨fun m seen t hf hg => ?_, fun m seen t hf hg => ?_⟩
  ·rw [Qa, Qa]
   have ha := Xd8 t
   by_cases c1 : Pn t = true
   ·rw [if_pos c1, if_pos c1]
    by_cases c2 : m ≥ 32
    ·rw [if_pos c2, if_pos c2]
    rw [if_neg c2, if_neg c2]
    by_cases c3 : Zi (Ji t) = true
    ·rw [if_pos c3, if_pos c3]
    rw [if_neg c3, if_neg c3]
    by_cases c4 : isT 5 opB (Ji t) = true
    ·rw [if_pos c4, if_pos c4]
     obtain ⟨r, e⟩ := Oo c4
     have h4 := Zq r
     rw [e] at ha ⊢
     simp only [List.length_cons] at ha
     rw [List.tail_cons]
     rw [i2 (m + 1) seen r.tail (by omega) (by omega)]
    ·rw [if_neg c4, if_neg c4]
   ·rw [if_neg c1, if_neg c1]
  ·rw [Ol, Ol]
   by_cases c1 : isT 5 clB t = true
   ·rw [if_pos c1, if_pos c1]
   rw [if_neg c1, if_neg c1]
   rw [i1 m seen t (by omega) (by omega)]
   have h1 := (Xg4 g).1 m seen t
   cases e1 : Yb g m seen t with
   | no ee q => rfl
   | ok p q =>
    obtain ⟨x, k, seen'⟩ := p
    rw [e1] at h1
    have h1' : q.length < t.length := h1
    dsimp only
    rw [i2 (m + 1 + (Bq k).length) seen' q (by omega) (by omega)]
def Zu (m : Nat) (seen : List ByteArray) (t : List Tk) := Yb (2 * t.length + 1) m seen t
def Xaq (m : Nat) (seen : List ByteArray) (t : List Tk) := kidsT (2 * t.length + 2) m seen t
theorem patN_eq (m : Nat) (seen : List ByteArray) (t : List Tk) : Zu m seen t = if Pn t = true then
   if m ≥ 32 then .no 202 t
   else if Zi (Ji t) = true then Ul ⟨hdT (Ji t), true, Zd t, noB, 0⟩ .nil seen (Ji t).tail
   else if isT 5 opB (Ji t) = true then
    if nmT (Ji t).tail = true then
     match Xaq (m + 1) seen (Ji t).tail.tail with
     | .no e r => .no e r
     | .ok (k, seen') r => Ul ⟨if isT 1 Oy (Ji t).tail = true then noB else hdT (Ji t).tail, false, Zd t, noB, (Jb k : Int)⟩ k seen' r
    else .no 200 (Ji t).tail
   else .no 200 (Ji t)
  else .no 200 t := by
 unfold Zu Xaq
 rw [Qa]
 have ha := Xd8 t
 by_cases c4 : isT 5 opB (Ji t) = true
 ·obtain ⟨r, e⟩ := Oo c4
  have h4 := Zq r
  rw [e] at ha ⊢
  simp only [List.length_cons] at ha
  rw [List.tail_cons]
  rw [(Xcx (2 * t.length) (2 * r.tail.length + 2)).2 (m + 1) seen r.tail (by omega) (Nat.le_refl _)]
  rfl
 ·rw [if_neg c4, if_neg c4]
theorem kidsN_eq (m : Nat) (seen : List ByteArray) (t : List Tk) : Xaq m seen t = if isT 5 clB t = true then .ok (.nil, seen) t.tail
  else match Zu m seen t with
   | .no e r => .no e r
   | .ok (x, k, seen') r => match Xaq (m + 1 + (Bq k).length) seen' r with
    | .no e q => .no e q
    | .ok (s, seen2) q => .ok (.cons x k s, seen2) q := by
 unfold Zu Xaq
 rw [Ol]
 by_cases c1 : isT 5 clB t = true
 ·rw [if_pos c1, if_pos c1]
 rw [if_neg c1, if_neg c1]
 have h1 := (Xg4 (2 * t.length + 1)).1 m seen t
 cases e1 : Yb (2 * t.length + 1) m seen t with
 | no ee q => rfl
 | ok p q =>
  obtain ⟨x, k, seen'⟩ := p
  rw [e1] at h1
  have h1' : q.length < t.length := h1
  dsimp only
  rw [(Xcx (2 * t.length + 1) (2 * q.length + 2)).2 (m + 1 + (Bq k).length) seen' q (by omega) (Nat.le_refl _)]
  rfl
def Yq (nm : ByteArray → Bool) (t : List Tk) : Prop := ∀ w ∈ t, w.1 = 1 → w.2 ≠ Oy → nm w.2 = true
def Read (nm : ByteArray → Bool) (m : Nat) (seen : List ByteArray) (t : List Tk) (g : PF) (seen' : List ByteArray) (r : List Tk) : Prop :=
 t = Dv g ++ r ∧ Xbp g ∧ Oz nm g = true ∧ seen' = Ik g seen ∧ (seen.Nodup → seen'.Nodup) ∧ (m ≤ 32 → m + (Bq g).length ≤ 32)
theorem Xgh {nm : ByteArray → Bool} (hn : Nm nm) {x x' : Ag} {k k' : PF} {seen seen' : List ByteArray} {t r : List Tk} (ht : Yq nm t) (hx : x.capture = noB) (h : Ul x k seen t = .ok (x', k', seen') r) : k' = k ∧ x'.name = x.name ∧ x'.lit = x.lit ∧ x'.field = x.field ∧ x'.kids = x.kids ∧ (x'.capture = noB ∨ nm x'.capture = true) ∧ t = P9 x' ++ r ∧ seen' = Xb x'.capture seen ∧ (seen.Nodup → seen'.Nodup) := by
 unfold Ul at h
 by_cases c1 : isT 5 Qi t = true
 ·rw [if_pos c1] at h
  obtain ⟨t1, rfl⟩ := Oo c1
  rw [List.tail_cons] at h
  by_cases c2 : X4 t1 = true
  ·rw [if_pos c2] at h
   obtain ⟨y, t2, rfl, hy⟩ := Xco c2
   have hdy : hdT ((1, y) :: t2) = y := rfl
   rw [hdy] at h
   by_cases c3 : inC y seen = true
   ·rw [if_pos c3] at h; cases h
   ·rw [if_neg c3] at h
    injection h with h1 h2
    injection h1 with h1 h3
    injection h3 with h3 h4
    subst h1 h3 h4
    have hny : nm y = true := ht (1, y) (by simp) rfl hy
    have hne := (hn y hny).2
    refine ⟨rfl, rfl, rfl, rfl, rfl, .inr hny, ?_, rfl, fun hs => ?_⟩
    ·unfold P9
     rw [if_neg hne, ← h2]
     rfl
    ·unfold Xb
     rw [if_neg hne]
     exact List.nodup_cons.2 ⟨fun hm => c3 (Ze.2 hm), hs⟩
  ·rw [if_neg c2] at h; cases h
 ·rw [if_neg c1] at h
  injection h with h1 h2
  injection h1 with h1 h3
  injection h3 with h3 h4
  subst h1 h3 h4
  refine ⟨rfl, rfl, rfl, rfl, rfl, .inl hx, ?_, ?_, fun hs => hs⟩
  ·unfold P9
   rw [if_pos hx, h2]
   rfl
  ·unfold Xb
   rw [if_pos hx]
theorem Yq.tl {nm : ByteArray → Bool} {t : List Tk} (h : Yq nm t) : Yq nm t.tail := fun w hw => h w (List.mem_of_mem_tail hw)
theorem Yq.aft {nm : ByteArray → Bool} {t : List Tk} (h : Yq nm t) : Yq nm (Ji t) := by
 unfold Ji
 split
 ·exact h.tl.tl
 ·exact h
theorem Yq.app {nm : ByteArray → Bool} {a b : List Tk} (h : Yq nm (a ++ b)) : Yq nm b := fun w hw => h w (List.mem_append_right _ hw)
theorem fld_read {nm : ByteArray → Bool} (hn : Nm nm) {t : List Tk} (ht : Yq nm t) : (Zd t = noB ∨ nm (Zd t) = true) ∧ ∀ x : Ag, x.field = Zd t → t = Vg x ++ Ji t := by
 unfold Zd Ji
 by_cases h : Xk t = true
 ·rw [if_pos h, if_pos h]
  obtain ⟨y, r, rfl, hy⟩ := Xkp h
  have hny : nm y = true := ht (1, y) (by simp) rfl hy
  refine ⟨.inr hny, fun x hx => ?_⟩
  have hx' : x.field = y := hx
  unfold Vg
  rw [hx', if_neg (hn y hny).2]
  rfl
 ·rw [if_neg h, if_neg h]
  refine ⟨.inl rfl, fun x hx => ?_⟩
  unfold Vg
  rw [if_pos hx]
  rfl
theorem Xjl {nm : ByteArray → Bool} (hn : Nm nm) : ∀ (f : Nat), (∀ m seen t x k seen' r, Yq nm t → Yb f m seen t = .ok (x, k, seen') r → Read nm m seen t (.cons x k .nil) seen' r) ∧ (∀ m seen t g seen' r, Yq nm t → kidsT f m seen t = .ok (g, seen') r → Read nm m seen t g seen' ((5, clB) :: r))
 | 0 => ⟨fun m seen t x k seen' r ht h => (by cases h), fun m seen t g seen' r ht h => (by cases h)⟩
 | f + 1 => by
  obtain ⟨i1, i2⟩ := Xjl hn f
  refine ⟨fun m seen t x k seen' r ht h => ?_, fun m seen t g seen' r ht h => ?_⟩
  ·rw [Qa] at h
   obtain ⟨hf1, hf2⟩ := fld_read hn ht
   have hta := ht.aft
   by_cases c1 : Pn t = true
   ·rw [if_pos c1] at h
    by_cases c2 : m ≥ 32
    ·rw [if_pos c2] at h; cases h
    rw [if_neg c2] at h
    by_cases c3 : Zi (Ji t) = true
    ·rw [if_pos c3] at h
     obtain ⟨y, r2, e, hy⟩ := Xex c3
     rw [e] at h hta hf2
     obtain ⟨k1, k2, k3, k4, k5, k6, k7, k8, k9⟩ := Xgh hn hta.tl rfl h
     have k2' : x.name = y := k2
     have k3' : x.lit = true := k3
     have k4' : x.field = Zd t := k4
     have k5' : x.kids = 0 := k5
     have k7' : r2 = P9 x ++ r := k7
     subst k1
     refine ⟨?_, ⟨by rw [k5']; rfl, trivial, trivial⟩, ?_, k8, k9, fun hm => by simp only [Bq, List.append_nil, List.length_cons, List.length_nil]; omega⟩
     ·rw [hf2 x k4', k7']
      simp only [Dv, List.append_assoc, List.nil_append]
      rw [if_pos k3', k2']
      rfl
     ·unfold Oz
      rw [if_pos k3', k2', k4', decide_eq_false hy]
      simp only [Jb, Oz, Bool.and_eq_true, Bool.or_eq_true, decide_eq_true_eq]
      exact ⟨⟨⟨⟨⟨rfl, trivial⟩, hf1⟩, k6⟩, trivial⟩, trivial⟩
    rw [if_neg c3] at h
    by_cases c4 : isT 5 opB (Ji t) = true
    ·rw [if_pos c4] at h
     obtain ⟨r2, e⟩ := Oo c4
     rw [e] at h hta hf2
     rw [List.tail_cons] at h
     have ht2 : Yq nm r2 := hta.tl
     by_cases c5 : nmT r2 = true
     ·rw [if_pos c5] at h
      have hname : ∃ y, r2 = (1, y) :: r2.tail ∧ (if isT 1 Oy r2 = true then noB else hdT r2) = (if y = Oy then noB else y) ∧ (y = Oy ∨ nm y = true) := by
       have c5' := c5
       unfold nmT at c5'
       rw [Bool.or_eq_true] at c5'
       rcases c5' with c5 | c5
       ·obtain ⟨r3, rfl⟩ := Oo c5
        exact ⟨Oy, rfl, by rw [if_pos c5, if_pos rfl], .inl rfl⟩
       ·obtain ⟨y, r3, rfl, hy⟩ := Xco c5
        refine ⟨y, rfl, ?_, .inr (ht2 (1, y) (by simp) rfl hy)⟩
        rw [if_neg (by rw [Yl hy]; simp), if_neg hy]
        rfl
      obtain ⟨y, y1, y2, y3⟩ := hname
      cases e2 : kidsT f (m + 1) seen r2.tail with
      | no ee q => rw [e2] at h; cases h
      | ok p q =>
       obtain ⟨k0, seen0⟩ := p
       rw [e2] at h
       dsimp only at h
       obtain ⟨j1, j2, j3, j4, j5, j6⟩ := i2 _ _ _ _ _ _ ht2.tl e2
       have hq : Yq nm q := by
        have h1 : Yq nm (Dv k0 ++ (5, clB) :: q) := by rw [← j1]; exact ht2.tl
        exact h1.app.tl
       obtain ⟨k1, k2, k3, k4, k5, k6, k7, k8, k9⟩ := Xgh hn hq rfl h
       have k2' : x.name = (if y = Oy then noB else y) := by rw [k2]; exact y2
       have k3' : ¬ x.lit = true := by rw [k3]; simp
       have k4' : x.field = Zd t := k4
       have k5' : x.kids = (Jb k0 : Int) := k5
       subst k1
       have hnameW : N7 x = (1, y) := by
        unfold N7
        rw [k2']
        by_cases g : y = Oy
        ·rw [if_pos g, if_pos rfl, g]
        ·rw [if_neg g, if_neg (hn y (y3.resolve_left g)).2]
       refine ⟨?_, ⟨k5', j2, trivial⟩, ?_, ?_, fun hs => k9 (j5 hs), fun hm => ?_⟩
       ·rw [hf2 x k4', y1, j1, k7]
        simp only [Dv, List.append_assoc, List.nil_append]
        rw [if_neg k3', hnameW]
        simp
       ·unfold Oz
        rw [if_neg k3', k4']
        simp only [Oz, Bool.and_eq_true, Bool.or_eq_true, decide_eq_true_eq]
        refine ⟨⟨⟨⟨?_, hf1⟩, k6⟩, j3⟩, trivial⟩
        rw [k2']
        by_cases g : y = Oy
        ·rw [if_pos g]; exact .inl rfl
        ·rw [if_neg g]; exact .inr (y3.resolve_left g)
       ·rw [k8, j4]
        rfl
       ·have := j6 (by omega)
        simp only [Bq, List.append_nil, List.length_cons]
        omega
     ·rw [if_neg c5] at h; cases h
    ·rw [if_neg c4] at h; cases h
   ·rw [if_neg c1] at h; cases h
  ·rw [Ol] at h
   by_cases c1 : isT 5 clB t = true
   ·rw [if_pos c1] at h
    obtain ⟨r2, rfl⟩ := Oo c1
    injection h with h1 h2
    injection h1 with h1 h3
    subst h1 h3
    have h2' : r2 = r := h2
    subst h2'
    exact ⟨rfl, trivial, rfl, rfl, fun hs => hs, fun hm => by simp only [Bq, List.length_nil]; omega⟩
   ·rw [if_neg c1] at h
    cases e1 : Yb f m seen t with
    | no ee q => rw [e1] at h; cases h
    | ok p q =>
     obtain ⟨x, k, seen1⟩ := p
     rw [e1] at h
     dsimp only at h
     obtain ⟨j1, j2, j3, j4, j5, j6⟩ := i1 _ _ _ _ _ _ _ ht e1
     have hq : Yq nm q := by
      have h1 : Yq nm (Dv (.cons x k .nil) ++ q) := by rw [← j1]; exact ht
      exact h1.app
     cases e2 : kidsT f (m + 1 + (Bq k).length) seen1 q with
     | no ee u => rw [e2] at h; cases h
     | ok p u =>
      obtain ⟨s, seen2⟩ := p
      rw [e2] at h
      dsimp only at h
      injection h with h1 h2
      injection h1 with h1 h3
      subst h1 h2 h3
      obtain ⟨l1, l2, l3, l4, l5, l6⟩ := i2 _ _ _ _ _ _ hq e2
      have hl : (Bq (.cons x k .nil)).length = (Bq k).length + 1 := by simp only [Bq, List.append_nil, List.length_cons]
      refine ⟨?_, ⟨j2.1, j2.2.1, l2⟩, ?_, ?_, fun hs => l5 (j5 hs), fun hm => ?_⟩
      ·rw [j1, l1]
       simp only [Dv, List.append_assoc, List.nil_append]
      ·unfold Oz at j3 ⊢
       rw [Bool.and_eq_true] at j3 ⊢
       exact ⟨j3.1, l3⟩
      ·rw [l4, j4]; rfl
      ·have h4 := j6 hm
       rw [hl] at h4
       have h5 := l6 (by omega)
       simp only [Bq, List.length_cons, List.length_append]
       omega
end Go.Proofs.YtjookebbmfiidaaDoor.L
