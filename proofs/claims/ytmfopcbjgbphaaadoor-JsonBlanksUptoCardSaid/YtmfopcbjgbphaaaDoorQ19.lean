/- JSON: texts that end too early, with blanks behind them; depth and keys. No condition. -/
import Derived.Test.YtmfopcbjgbphaaaDoorQ16
set_option linter.unusedVariables false
namespace Go.Proofs.YtmfopcbjgbphaaaDoor.L
open Go.Proofs.YtmfopcbjgbphaaaDoor.B Go.Proofs.YtmfopcbjgbphaaaDoor.R
def Bl (o : List Int) : Prop := ∀ x ∈ o, x ∈ blankB
theorem Bl.no {l o : List Int} (h : Bl o) (hl : ∀ x ∈ l, x ∉ blankB) : isL l o = false := by
 cases o with
 | nil => rfl
 | cons x o =>
  rw [Bool.eq_false_iff]
  intro hx
  exact hl x (List.contains_iff_mem.1 hx) (h x (List.mem_cons_self ..))
theorem Bl.stop {o : List Int} (h : Bl o) : Stop o := h.no (by decide)
theorem Bl.bl {o : List Int} (h : Bl o) : blL o = [] := skip_all _ _ fun x hx => List.contains_iff_mem.2 (h x hx)
theorem Bl.app {a b : List Int} (ha : Bl a) (hb : Bl b) : Bl (a ++ b) := fun x hx => by
 rcases List.mem_append.1 hx with hx | hx
 ·exact ha x hx
 ·exact hb x hx
theorem bl_of : ∀ {q : List Int}, blL q = [] → Bl q
 | [], h => fun x hx => by cases hx
 | y :: q, h => by
  unfold blL skipL at h
  by_cases g : blankB.contains y = true
  ·rw [if_pos g] at h
   have := bl_of (q := q) h
   intro x hx
   rcases List.mem_cons.1 hx with rfl | hx
   ·exact List.contains_iff_mem.1 g
   ·exact this x hx
  ·rw [if_neg g] at h; cases h
theorem blL_ahead : ∀ {a t : List Int}, Bl a → blL (a ++ t) = blL t
 | [], t, h => rfl
 | x :: a, t, h => by
  rw [List.cons_append]
  have hx := List.contains_iff_mem.2 (h x (List.mem_cons_self ..))
  have e : blL (x :: (a ++ t)) = blL (a ++ t) := by unfold blL; rw [skipL, if_pos hx]
  rw [e]
  exact blL_ahead fun y hy => h y (List.mem_cons_of_mem _ hy)
section
variable {o : List Int}
theorem wordL_end (ho : Bl o) : ∀ {w t : List Int}, (∀ x ∈ w, x ∉ blankB) → wordL w t = (false, []) → wordL w (t ++ o) = (false, o)
 | [], t, hw, h => by cases h
 | x :: w, [], hw, h => by
  rw [List.nil_append]
  unfold wordL
  rw [ho.no (l := [x]) (fun y hy => by rw [List.mem_singleton] at hy; rw [hy]; exact hw x (List.mem_cons_self ..)), if_neg (by simp)]
 | x :: w, y :: t, hw, h => by
  unfold wordL at h ⊢
  rw [isL_ne (by simp)]
  by_cases g : isL [x] (y :: t) = true
  ·rw [if_pos g] at h ⊢
   exact wordL_end ho (fun z hz => hw z (List.mem_cons_of_mem _ hz)) h
  ·rw [if_neg g] at h
   injection h with _ h
   cases h
theorem digsL_end (ho : Bl o) : ∀ {ls : List (List Int)} {t : List Int} {c : Int}, (∀ l ∈ ls, ∀ x ∈ l, x ∉ blankB) → digsL ls t c = (none, []) → digsL ls (t ++ o) c = (none, o)
 | [], t, c, hl, h => by cases h
 | l :: ls, [], c, hl, h => by
  rw [List.nil_append]
  have hn := ho.no (l := l) (hl l (List.mem_cons_self ..))
  cases o with
  | nil => rfl
  | cons x o =>
   unfold digsL
   dsimp only
   rw [isL_cons] at hn
   rw [hn, if_neg (by simp)]
 | l :: ls, x :: t, c, hl, h => by
  rw [List.cons_append]
  unfold digsL at h ⊢
  dsimp only at h ⊢
  by_cases g : l.contains x = true
  ·rw [if_pos g] at h ⊢
   exact digsL_end ho (fun z hz => hl z (List.mem_cons_of_mem _ hz)) h
  ·rw [if_neg g] at h
   injection h with _ h
   cases h
theorem unitL_end (ho : Bl o) {t : List Int} (h : unitL t = (none, [])) : unitL (t ++ o) = (none, o) := by
 have e0 : isL [100, 68] (t ++ o) = isL [100, 68] t := isL_app (.inl (ho.no (by decide)))
 unfold unitL at h ⊢
 rw [e0]
 have hsets : ∀ l ∈ ([hexs, if isL [100, 68] t = true then high2 else hexs, hexs, hexs] : List (List Int)), ∀ x ∈ l, x ∉ blankB := by
  intro l hl x hx
  have h1 : ∀ x ∈ hexs, x ∉ blankB := by decide
  have h2 : ∀ x ∈ high2, x ∉ blankB := by decide
  simp only [List.mem_cons, List.not_mem_nil, or_false] at hl
  rcases hl with rfl | rfl | rfl | rfl
  ·exact h1 x hx
  ·split at hx
   ·exact h2 x hx
   ·exact h1 x hx
  ·exact h1 x hx
  ·exact h1 x hx
 have hd := @digsL_loc o [hexs, if isL [100, 68] t = true then high2 else hexs, hexs, hexs] t 0
 have he := digsL_end ho (t := t) (c := 0) hsets
 generalize digsL [hexs, if isL [100, 68] t = true then high2 else hexs, hexs, hexs] t 0 = p at h hd he
 obtain ⟨q, r⟩ := p
 cases q with
 | none =>
  have hr : r = [] := by injection h with _ h
  subst hr
  rw [he rfl]
 | some v =>
  rw [hd (.inr rfl)]
  dsimp only at h ⊢
  by_cases g : 55296 ≤ v ∧ v ≤ 56319
  ·rw [if_pos g] at h ⊢
   rw [isL_app (.inl (ho.no (by decide)))]
   by_cases g1 : isL [92] r = true
   ·rw [if_pos g1] at h ⊢
    rw [tail_app g1, isL_app (.inl (ho.no (by decide)))]
    by_cases g2 : isL [117] r.tail = true
    ·rw [if_pos g2] at h ⊢
     rw [tail_app g2]
     have hs2 : ∀ l ∈ ([[100, 68], lows, hexs, hexs] : List (List Int)), ∀ x ∈ l, x ∉ blankB := by decide
     have he2 := digsL_end ho (t := r.tail.tail) (c := 0) hs2
     generalize digsL [[100, 68], lows, hexs, hexs] r.tail.tail 0 = p at h he2
     obtain ⟨q2, u⟩ := p
     cases q2 with
     | none =>
      have hu : u = [] := by injection h with _ h
      subst hu
      rw [he2 rfl]
     | some w => cases h
    ·rw [if_neg g2] at h ⊢
     injection h with _ h
     rw [h]; rfl
   ·rw [if_neg g1] at h ⊢
    injection h with _ h
    rw [h]; rfl
  ·rw [if_neg g] at h; cases h
theorem escL_end (ho : Bl o) {t : List Int} (h : escL t = (none, [])) : escL (t ++ o) = (none, o) := by
 cases t with
 | nil =>
  rw [List.nil_append]
  cases o with
  | nil => rfl
  | cons x o =>
   have hx := ho x (List.mem_cons_self ..)
   have : ∀ x ∈ blankB, saysL x = 0 ∧ x ≠ 117 := by decide
   rw [escL_cons, if_pos (this x hx).1, if_neg (this x hx).2]
 | cons x t =>
  rw [List.cons_append, escL_cons]
  rw [escL_cons] at h
  by_cases g : saysL x = 0
  ·rw [if_pos g] at h ⊢
   by_cases g2 : x = 117
   ·rw [if_pos g2] at h ⊢; exact unitL_end ho h
   ·rw [if_neg g2] at h; injection h with _ h; cases h
  ·rw [if_neg g] at h; cases h
theorem tailL_end2 (ho : Bl o) : ∀ {l : List (Int × Int)} {t : List Int}, (∀ p ∈ l, 128 ≤ p.1) → tailL l t = (false, []) → tailL l (t ++ o) = (false, o)
 | [], t, hl, h => by cases h
 | p :: l, [], hl, h => by
  rw [List.nil_append]
  cases o with
  | nil => rfl
  | cons x o =>
   have hx := ho x (List.mem_cons_self ..)
   have : ∀ x ∈ blankB, x < 128 := by decide
   have h1 := this x hx
   have h2 := hl p (List.mem_cons_self ..)
   unfold tailL
   rw [if_pos (by omega)]
 | p :: l, y :: t, hl, h => by
  rw [List.cons_append]
  unfold tailL at h ⊢
  by_cases g : y < p.1 ∨ y > p.2
  ·rw [if_pos g] at h; injection h with _ h; cases h
  ·rw [if_neg g] at h ⊢
   exact tailL_end2 ho (fun z hz => hl z (List.mem_cons_of_mem _ hz)) h
theorem str_blanks : ∀ (g : Nat) (o acc : List Int), Bl o → o.length < g → ∃ r, strL g o acc = (none, r) ∧ r.length ≤ o.length
 | 0, o, acc, ho, hg => absurd hg (Nat.not_lt_zero _)
 | g + 1, [], acc, ho, hg => ⟨[], rfl, Nat.le_refl _⟩
 | g + 1, x :: o, acc, ho, hg => by
  have hx := ho x (List.mem_cons_self ..)
  have hb : ∀ x ∈ blankB, x ≠ 34 ∧ x ≠ 92 ∧ x < 128 := by decide
  obtain ⟨b1, b2, b3⟩ := hb x hx
  simp only [List.length_cons] at hg
  unfold strL
  rw [if_neg b1, if_neg b2]
  by_cases g3 : x < 32
  ·rw [if_pos g3]; exact ⟨_, rfl, Nat.le_refl _⟩
  ·rw [if_neg g3, charL_some (rng_low b3)]
   show ∃ r, strL g o _ = (none, r) ∧ _
   obtain ⟨r, r1, r2⟩ := str_blanks g o (acc ++ (x :: o).take ((x :: o).length - o.length)) (fun y hy => ho y (List.mem_cons_of_mem _ hy)) (by omega)
   exact ⟨r, r1, by simp only [List.length_cons]; omega⟩
theorem strL_end (ho : Bl o) : ∀ (f g : Nat) (t acc : List Int), t.length < f → (t ++ o).length < g → strL f t acc = (none, []) → ∃ r, strL g (t ++ o) acc = (none, r) ∧ r.length ≤ o.length
 | 0, g, t, acc, hf, hg, h => absurd hf (Nat.not_lt_zero _)
 | f + 1, 0, t, acc, hf, hg, h => absurd hg (Nat.not_lt_zero _)
 | f + 1, g + 1, [], acc, hf, hg, h => str_blanks (g + 1) o acc ho hg
 | f + 1, g + 1, x :: t, acc, hf, hg, h => by
  simp only [List.length_cons, List.cons_append, List.length_append] at hf hg
  rw [List.cons_append]
  unfold strL at h ⊢
  by_cases g1 : x = 34
  ·rw [if_pos g1] at h; cases h
  rw [if_neg g1] at h ⊢
  by_cases g2 : x = 92
  ·rw [if_pos g2] at h ⊢
   have he := @escL_loc o t
   have hn := @escL_end o ho t
   have hl := escL_len t
   generalize escL t = p at h he hl hn
   obtain ⟨q, r⟩ := p
   cases q with
   | none =>
    have hr : r = [] := by injection h with _ h
    subst hr
    rw [hn rfl]
    exact ⟨o, rfl, Nat.le_refl _⟩
   | some b =>
    rw [he (.inr rfl)]
    dsimp only at h hl ⊢
    exact strL_end ho f g r _ (by omega) (by rw [List.length_append]; omega) h
  rw [if_neg g2] at h ⊢
  by_cases g3 : x < 32
  ·rw [if_pos g3] at h; injection h with _ h; cases h
  rw [if_neg g3] at h ⊢
  have he := @charL_loc o (x :: t)
  have hl := charL_len (x :: t)
  have hn : charL (x :: t) = (false, []) → charL (x :: (t ++ o)) = (false, o) := fun hc => by
   cases e : rng x with
   | none => rw [charL_none e] at hc; injection hc with _ hc; cases hc
   | some l =>
    rw [charL_some e] at hc ⊢
    rcases rng_high e with ⟨_, rfl⟩ | ⟨_, h2⟩
    ·cases hc
    ·exact tailL_end2 ho h2 hc
  rw [List.cons_append] at he
  generalize charL (x :: t) = p at h he hl hn
  obtain ⟨q, r⟩ := p
  cases q with
  | false =>
   have hr : r = [] := by injection h with _ h
   subst hr
   rw [hn rfl]
   exact ⟨o, rfl, Nat.le_refl _⟩
  | true =>
   rw [he (.inr rfl)]
   have hl2 := hl.2 rfl
   simp only [List.length_cons] at hl2
   dsimp only at h ⊢
   have et : (x :: (t ++ o)).take ((x :: (t ++ o)).length - (r ++ o).length) = (x :: t).take ((x :: t).length - r.length) := by
    rw [show x :: (t ++ o) = (x :: t) ++ o from rfl, List.length_append, List.length_append, show (x :: t).length + o.length - (r.length + o.length) = (x :: t).length - r.length by omega, List.take_append_of_le_length (by omega)]
   rw [et]
   exact strL_end ho f g r _ (by omega) (by rw [List.length_append]; omega) h
theorem strQ_end (ho : Bl o) {t : List Int} (h : strQ t = (none, [])) : ∃ r, strQ (t ++ o) = (none, r) ∧ r.length ≤ o.length := by
 unfold strQ at h ⊢
 rw [isL_app (.inl (ho.no (by decide)))]
 by_cases g : isL [34] t = true
 ·rw [if_pos g] at h ⊢
  rw [tail_app g]
  have := isL_tail g
  exact strL_end ho _ _ t.tail [] (by omega) (by rw [List.length_append, List.length_append]; omega) h
 ·rw [if_neg g] at h ⊢
  injection h with _ h
  rw [h]
  exact ⟨o, rfl, Nat.le_refl _⟩
def Late {α : Type} (o : List Int) (r : Res α) : Prop := ∃ q, r = .no 250 q ∧ q.length ≤ o.length
theorem val_blanks (ho : Bl o) (d : Nat) (key : ByteArray) : valN d key o = .no 250 o := by
 rw [valN_eq]
 have e : headL d key o = .done (numH key o) := by
  unfold headL
  rw [ho.no (l := [110]) (by decide), ho.no (l := [102]) (by decide), ho.no (l := [116]) (by decide), ho.no (l := [34]) (by decide), ho.no (l := [91, 123]) (by decide)]
  rfl
 rw [e]
 show numH key o = _
 have hn : numL o = (false, o) := by
  have := numL_app (r := o) ho.stop []
  rw [List.nil_append] at this
  rw [this]
  rfl
 unfold numH
 rw [hn]
 rfl
theorem items_blanks (ho : Bl o) (d : Nat) (obj : Bool) (seen : List ByteArray) : itemsN d obj seen o = .no 250 o := by
 rw [itemsN_eq]
 cases obj with
 | false =>
  show (match valN d ⟨#[]⟩ o with
   | .no e r => Res.no e r
   | .ok p r => _) = _
  rw [val_blanks ho]
 | true =>
  have e : keyL true seen o = .no 250 o := by
   unfold keyL strQ
   rw [if_pos rfl, ho.no (l := [34]) (by decide)]
   rfl
  rw [e]
theorem headL_end (ho : Bl o) {d : Nat} {key : ByteArray} {t : List Int} (hne : t ≠ []) : (∀ e, headL d key t = .done (.no e []) → ∃ r, headL d key (t ++ o) = .done r ∧ Late o r) ∧ (∀ obj, headL d key t = .many obj [] → headL d key (t ++ o) = .many obj []) := by
 unfold headL
 rw [isL_ne hne, isL_ne hne, isL_ne hne, isL_ne hne, isL_ne hne, isL_ne hne]
 have hw : ∀ {n : Int} {w : List Int}, (∀ x ∈ w, x ∉ blankB) → (∀ e, Head.done (wordH n w key t) = .done (.no e []) → ∃ r, Head.done (wordH n w key (t ++ o)) = .done r ∧ Late o r) ∧ (∀ obj, Head.done (wordH n w key t) = .many obj [] → Head.done (wordH n w key (t ++ o)) = .many obj []) := fun {n w} hw => ⟨fun e h => by
  injection h with h
  unfold wordH at h
  by_cases g : (wordL w t).1 = true
  ·rw [if_pos g] at h; cases h
  ·rw [if_neg g] at h
   injection h with _ h
   rw [Bool.not_eq_true] at g
   have := wordL_end ho hw (t := t) (Prod.ext g h)
   refine ⟨_, rfl, o, ?_, Nat.le_refl _⟩
   unfold wordH
   rw [this]
   rfl, fun obj h => (by cases h)⟩
 split
 ·exact hw (by decide)
 split
 ·exact hw (by decide)
 split
 ·exact hw (by decide)
 split
 ·refine ⟨fun e h => ?_, fun obj h => (by cases h)⟩
  injection h with h
  unfold strH at h ⊢
  have hs := @strQ_end o ho t
  generalize strQ t = p at h hs
  obtain ⟨q, r⟩ := p
  cases q with
  | some b => cases h
  | none =>
   injection h with _ h
   subst h
   obtain ⟨r', h1, h2⟩ := hs rfl
   rw [h1]
   exact ⟨_, rfl, r', rfl, h2⟩
 split
 ·rename_i g
  unfold manyH
  split
  ·refine ⟨fun e h => ?_, fun obj h => (by cases h)⟩
   injection h with h
   injection h with _ h
   exact absurd h hne
  rename_i g6
  rw [tail_ne hne]
  by_cases hb : blL t.tail = []
  ·rw [hb]
   have hb2 : blL (t.tail ++ o) = [] := by rw [blL_ahead (bl_of hb)]; exact ho.bl
   rw [hb2]
   refine ⟨fun e h => ?_, fun obj h => ?_⟩
   ·rw [isL_nil, if_neg (by simp)] at h; cases h
   ·exact h
  ·refine ⟨fun e h => ?_, fun obj h => ?_⟩
   ·split at h
    ·injection h with h; cases h
    ·cases h
   ·split at h
    ·cases h
    ·injection h with _ h; exact absurd h hb
 ·refine ⟨fun e h => ?_, fun obj h => (by cases h)⟩
  injection h with h
  unfold numH at h
  by_cases g : (numL t).1 = true
  ·rw [if_pos g] at h; cases h
  ·rw [if_neg g] at h
   injection h with _ h
   refine ⟨_, rfl, o, ?_, Nat.le_refl _⟩
   unfold numH
   rw [numL_app ho.stop, if_neg g, h]
   rfl
theorem keyL_end (ho : Bl o) {obj : Bool} {seen : List ByteArray} {t : List Int} : (∀ e, keyL obj seen t = .no e [] → Late o (keyL obj seen (t ++ o))) ∧ (∀ key, keyL obj seen t = .ok key [] → ∃ q, keyL obj seen (t ++ o) = .ok key q ∧ Bl q ∧ q.length ≤ o.length) := by
 cases obj with
 | false =>
  refine ⟨fun e h => (by cases h), fun key h => ?_⟩
  have h' : (Res.ok (⟨#[]⟩ : ByteArray) t) = .ok key [] := h
  injection h' with h1 h2
  subst h1 h2
  exact ⟨o, rfl, ho, Nat.le_refl _⟩
 | true =>
  unfold keyL
  rw [if_pos rfl, if_pos rfl]
  have hs := @strQ_end o ho t
  have hloc := @strQ_loc o t
  generalize strQ t = p at hs hloc
  obtain ⟨w, r⟩ := p
  cases w with
  | none =>
   refine ⟨fun e h => ?_, fun key h => (by cases h)⟩
   injection h with _ h
   subst h
   obtain ⟨r', h1, h2⟩ := hs rfl
   rw [h1]
   exact ⟨r', rfl, h2⟩
  | some k =>
   rw [hloc (.inr rfl)]
   dsimp only
   by_cases g1 : inK (ofBs k) seen = true
   ·rw [if_pos g1, if_pos g1]
    refine ⟨fun e h => ?_, fun key h => (by cases h)⟩
    injection h with _ h
    exfalso
    subst h
    have := hloc (.inr rfl)
    rw [List.nil_append] at this
    have hq : strQ o = (none, o) := by unfold strQ; rw [ho.no (l := [34]) (by decide)]; rfl
    rw [hq] at this
    cases this
   ·rw [if_neg g1, if_neg g1]
    by_cases hb : blL r = []
    ·have hb2 : blL (r ++ o) = [] := by rw [blL_ahead (bl_of hb)]; exact ho.bl
     rw [hb, hb2]
     exact ⟨fun e h => ⟨[], rfl, Nat.zero_le _⟩, fun key h => (by cases h)⟩
    ·rw [blL_loc hb, isL_ne hb]
     by_cases g2 : isL [58] (blL r) = true
     ·rw [if_pos g2, if_pos g2, tail_ne hb]
      refine ⟨fun e h => (by cases h), fun key h => ?_⟩
      injection h with h1 h2
      rw [h1]
      exact ⟨_, rfl, by rw [blL_ahead (bl_of h2), ho.bl]; exact fun x hx => (by cases hx), by rw [blL_ahead (bl_of h2), ho.bl]; exact Nat.zero_le _⟩
     ·rw [if_neg g2, if_neg g2]
      refine ⟨fun e h => ?_, fun key h => (by cases h)⟩
      injection h with _ h
      exact absurd h hb
theorem val_end (ho : Bl o) : ∀ (n : Nat), (∀ (d : Nat) (key : ByteArray) (t : List Int) (e : Int), t.length ≤ n → valN d key t = .no e [] → Late o (valN d key (t ++ o))) ∧ (∀ (d : Nat) (obj : Bool) (seen : List ByteArray) (t : List Int) (e : Int), t.length ≤ n → itemsN d obj seen t = .no e [] → Late o (itemsN d obj seen (t ++ o))) := by
 intro n
 induction n using Nat.strongRecOn with
 | _ n ih =>
  have VV : ∀ (d : Nat) (key : ByteArray) (t : List Int) (e : Int), t.length ≤ n → valN d key t = .no e [] → Late o (valN d key (t ++ o)) := by
   intro d key t e hn h
   by_cases hne : t = []
   ·subst hne
    rw [List.nil_append, val_blanks ho]
    exact ⟨o, rfl, Nat.le_refl _⟩
   ·rw [valN_eq] at h
    have hs := headL_sh d key t
    obtain ⟨h1, h2⟩ := headL_end ho (d := d) (key := key) hne
    have hloc := @headL_loc o d key t
    cases e1 : headL d key t with
    | done r =>
     rw [e1] at h
     dsimp only at h
     subst h
     obtain ⟨r', r1, r2⟩ := h1 e e1
     rw [valN_eq, r1]
     exact r2
    | many obj t1 =>
     rw [e1] at h hloc
     dsimp only at h
     have hlt := hs.2 obj t1 e1
     cases e2 : itemsN (d + 1) obj [] t1 with
     | ok k q => rw [e2] at h; cases h
     | no ee q =>
      rw [e2] at h
      injection h with h3 h4
      subst h4
      by_cases ht1 : t1 = []
      ·subst ht1
       rw [valN_eq, h2 obj e1]
       show Late o (manyR obj key (itemsN (d + 1) obj [] []))
       rw [items_blanks (o := []) (fun x hx => by cases hx)]
       exact ⟨[], rfl, Nat.zero_le _⟩
      ·rw [valN_eq, hloc ht1]
       show Late o (manyR obj key (itemsN (d + 1) obj [] (t1 ++ o)))
       obtain ⟨q', q1, q2⟩ := (ih t1.length (by omega)).2 (d + 1) obj [] t1 ee (Nat.le_refl _) e2
       rw [q1]
       exact ⟨q', rfl, q2⟩
  refine ⟨VV, fun d obj seen t e hn h => ?_⟩
  rw [itemsN_eq] at h
  obtain ⟨k1, k2⟩ := @keyL_end o ho obj seen t
  have hkl := @keyL_loc o obj seen t
  have hks := keyL_sh obj seen t
  cases e1 : keyL obj seen t with
  | no ee q =>
   rw [e1] at h
   injection h with h3 h4
   subst h4
   obtain ⟨q', q1, q2⟩ := k1 ee e1
   rw [itemsN_eq, q1]
   exact ⟨q', rfl, q2⟩
  | ok key t2 =>
   rw [e1] at h hkl hks
   have hks' : t2.length < t.length + 1 := hks
   dsimp only at h
   by_cases ht2 : t2 = []
   ·subst ht2
    obtain ⟨q, q1, q2, q3⟩ := k2 key e1
    rw [itemsN_eq, q1]
    dsimp only
    rw [val_blanks q2]
    exact ⟨q, rfl, q3⟩
   ·rw [itemsN_eq, hkl ht2]
    show Late o (match valN d key (t2 ++ o) with
     | .no e r => Res.no e r
     | .ok p r => if isL (endO obj) (blL r) = true then Res.ok (F.cons p.1 p.2 .nil) (blL r).tail
      else if isL [44] (blL r) = true then consR p.1 p.2 (itemsN d obj (key :: seen) (blL (blL r).tail))
      else .no 250 (blL r))
    have hvs := valN_sh d key t2
    have hvl := @valN_loc o d key t2
    cases e2 : valN d key t2 with
    | no ee q =>
     rw [e2] at h
     injection h with h3 h4
     subst h4
     obtain ⟨q', q1, q2⟩ := VV d key t2 ee (by omega) e2
     rw [q1]
     exact ⟨q', rfl, q2⟩
    | ok p q =>
     rw [e2] at h hvs hvl
     have hvs' : q.length < t2.length := hvs
     rw [hvl (.inr ⟨rfl, ho.stop⟩)]
     dsimp only at h
     show Late o (if isL (endO obj) (blL (q ++ o)) = true then Res.ok (F.cons p.1 p.2 .nil) (blL (q ++ o)).tail
      else if isL [44] (blL (q ++ o)) = true then consR p.1 p.2 (itemsN d obj (key :: seen) (blL (blL (q ++ o)).tail))
      else .no 250 (blL (q ++ o)))
     by_cases hb : blL q = []
     ·have hb2 : blL (q ++ o) = [] := by rw [blL_ahead (bl_of hb)]; exact ho.bl
      rw [hb2, isL_nil, if_neg (by simp), isL_nil, if_neg (by simp)]
      exact ⟨[], rfl, Nat.zero_le _⟩
     ·rw [blL_loc hb, isL_ne hb, isL_ne hb]
      by_cases g1 : isL (endO obj) (blL q) = true
      ·rw [if_pos g1] at h; cases h
      ·rw [if_neg g1] at h ⊢
       by_cases g2 : isL [44] (blL q) = true
       ·rw [if_pos g2] at h ⊢
        rw [tail_ne hb]
        have hl1 := blL_len q
        have hl2 := tail_le (blL q)
        have hl3 := blL_len (blL q).tail
        cases e3 : itemsN d obj (key :: seen) (blL (blL q).tail) with
        | ok f u => rw [e3] at h; cases h
        | no ee u =>
         rw [e3] at h
         injection h with h3 h4
         subst h4
         by_cases hb3 : blL (blL q).tail = []
         ·have hb4 : blL ((blL q).tail ++ o) = [] := by rw [blL_ahead (bl_of hb3)]; exact ho.bl
          rw [hb4, items_blanks (o := []) (fun x hx => by cases hx)]
          exact ⟨[], rfl, Nat.zero_le _⟩
         ·rw [blL_loc hb3]
          obtain ⟨q', q1, q2⟩ := (ih (blL (blL q).tail).length (by omega)).2 d obj (key :: seen) _ ee (Nat.le_refl _) e3
          rw [q1]
          exact ⟨q', rfl, q2⟩
       ·rw [if_neg g2] at h
        injection h with _ h4
        exact absurd h4 hb
theorem parse_end (ho : Bl o) {t : List Int} {e : Int} (h : parseL t = .no e []) : Late o (parseL (t ++ o)) := by
 unfold parseL at h ⊢
 by_cases hb : blL t = []
 ·have hb2 : blL (t ++ o) = [] := by rw [blL_ahead (bl_of hb)]; exact ho.bl
  rw [hb2, val_blanks (o := []) (fun x hx => by cases hx)]
  exact ⟨[], rfl, Nat.zero_le _⟩
 ·rw [blL_loc hb]
  cases e2 : valN 0 ⟨#[]⟩ (blL t) with
  | no ee q =>
   rw [e2] at h
   injection h with h3 h4
   subst h4
   obtain ⟨q', q1, q2⟩ := (val_end ho _).1 0 ⟨#[]⟩ (blL t) ee (Nat.le_refl _) e2
   rw [q1]
   exact ⟨q', rfl, q2⟩
  | ok p q =>
   rw [e2] at h
   dsimp only at h
   by_cases g : blL q = []
   ·rw [if_pos g] at h; cases h
   ·rw [if_neg g] at h
    injection h with _ h4
    exact absurd h4 g
end
end Go.Proofs.YtmfopcbjgbphaaaDoor.L
