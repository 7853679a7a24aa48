/- JSON: the program's reading of strings, words, numbers. Condition: sizes. -/
import Derived.Test.YtmfopcbjgbphaaaDoorQ10
set_option linter.unusedVariables false
namespace Go.Proofs.YtmfopcbjgbphaaaDoor.L
open Go.Proofs.YtmfopcbjgbphaaaDoor.B Go.Proofs.YtmfopcbjgbphaaaDoor.R
abbrev LIM2 : Nat := 211106232532992
abbrev J (s : ByteArray) (t : List Int) (o : List JNd) (d c : Int) : jps := ⟨s, (plc s t : Int), o, d, c⟩
section
variable {s : ByteArray}
theorem isF_L {l : ByteArray} {L t : List Int} (hl : bsOf l = L) (hr : Rest s t) : isF s l (plc s t) = isL L t := by
  cases t with
  | nil =>
    unfold isF
    rw [Rest.nil, decide_eq_false (Nat.lt_irrefl _)]
    rfl
  | cons x t =>
    obtain ⟨h1, h2⟩ := hr.bt
    unfold isF
    rw [decide_eq_true h2, h1, hl]
    rfl
theorem Rest.tail {t : List Int} (h : Rest s t) : Rest s t.tail := by
  cases t with
  | nil => exact h
  | cons x t => exact h.tl.1
theorem plc_tail {l t : List Int} (h : Rest s t) (hl : isL l t = true) : plc s t.tail = plc s t + 1 := by
  obtain ⟨x, t', rfl, _⟩ := isL_ex hl
  exact h.tl.2
theorem plc_le (t : List Int) : plc s t ≤ s.size := Nat.sub_le _ _
theorem Rest.skip {l : List Int} : ∀ {t : List Int}, Rest s t → Rest s (skipL l t)
  | [], h => h
  | x :: t, h => by
    unfold skipL
    split
    · exact Rest.skip h.tl.1
    · exact h
theorem Rest.bl {t : List Int} (h : Rest s t) : Rest s (blL t) := Rest.skip h
theorem skipF_L {l : ByteArray} {L : List Int} (hl : bsOf l = L) : ∀ (f : Nat) (t : List Int), t.length < f → Rest s t → skipF s l f (plc s t) = plc s (skipL L t)
  | 0, t, hf, hr => absurd hf (Nat.not_lt_zero _)
  | f + 1, [], hf, hr => by
    unfold skipF
    rw [isF_L hl hr, if_neg (by simp [isL])]
    rfl
  | f + 1, x :: t, hf, hr => by
    simp only [List.length_cons] at hf
    unfold skipF skipL
    rw [isF_L hl hr, isL_cons]
    by_cases h : L.contains x = true
    · rw [if_pos h, if_pos h, ← hr.tl.2]
      exact skipF_L hl f t (by omega) hr.tl.1
    · rw [if_neg h, if_neg h]
theorem digF_L {t : List Int} (hr : Rest s t) : digF s (plc s t) = plc s (digL t).2 ∧ isF s dgs (plc s t) = (digL t).1 ∧ Rest s (digL t).2 := by
  have h1 := isF_L (l := dgs) (L := digB) rfl hr
  unfold digF digL
  rw [h1]
  by_cases h : isL digB t = true
  · rw [if_pos h, if_pos h]
    refine ⟨?_, h, hr.skip⟩
    rw [← plc_tail hr h, skipF_L (l := dgs) (L := digB) rfl _ _ (by have := hr.tail.1; omega) hr.tail]
    obtain ⟨x, t', rfl, hx⟩ := isL_ex h
    conv => rhs; rw [skipL, if_pos hx]
    rfl
  · rw [if_neg h, if_neg h]
    rw [Bool.not_eq_true] at h
    exact ⟨rfl, h, hr⟩
theorem expF_L {t : List Int} (hr : Rest s t) : expF s (plc s t) = ((expL t).1, plc s (expL t).2) ∧ Rest s (expL t).2 := by
  have h1 := isF_L (l := ⟨#[101, 69]⟩) (L := [101, 69]) rfl hr
  unfold expF expL
  rw [h1]
  by_cases h : isL [101, 69] t = true
  · rw [if_pos h, if_pos h]
    dsimp only
    rw [← plc_tail hr h]
    have h2 := isF_L (l := ⟨#[43, 45]⟩) (L := [43, 45]) rfl hr.tail
    rw [h2]
    by_cases g : isL [43, 45] t.tail = true
    · rw [if_pos g, if_pos g, show plc s t + 2 = plc s t.tail.tail by rw [plc_tail hr.tail g, plc_tail hr h]]
      obtain ⟨e1, e2, e3⟩ := digF_L hr.tail.tail
      rw [e1, e2]
      exact ⟨rfl, e3⟩
    · rw [if_neg g, if_neg g]
      obtain ⟨e1, e2, e3⟩ := digF_L hr.tail
      rw [e1, e2]
      exact ⟨rfl, e3⟩
  · rw [if_neg h, if_neg h]
    exact ⟨rfl, hr⟩
theorem fracF_L {t : List Int} (hr : Rest s t) : fracF s (plc s t) = ((fracL t).1, plc s (fracL t).2) ∧ Rest s (fracL t).2 := by
  have h1 := isF_L (l := ⟨#[46]⟩) (L := [46]) rfl hr
  unfold fracF fracL
  rw [h1]
  by_cases h : isL [46] t = true
  · rw [if_pos h, if_pos h, ← plc_tail hr h]
    obtain ⟨e1, e2, e3⟩ := digF_L hr.tail
    have h2 := isF_L (l := dgs) (L := digB) rfl hr.tail
    rw [h2]
    by_cases g : isL digB t.tail = true
    · rw [if_pos g, if_pos g, e1]
      exact expF_L e3
    · rw [if_neg g, if_neg g]
      exact ⟨rfl, hr.tail⟩
  · rw [if_neg h, if_neg h]
    exact expF_L hr
theorem intF_L {t : List Int} (hr : Rest s t) : intF s (plc s t) = ((intL t).1, plc s (intL t).2) ∧ Rest s (intL t).2 := by
  have h1 := isF_L (l := ⟨#[48]⟩) (L := [48]) rfl hr
  unfold intF intL
  rw [h1]
  by_cases h : isL [48] t = true
  · rw [if_pos h, if_pos h, ← plc_tail hr h]
    exact fracF_L hr.tail
  · rw [if_neg h, if_neg h]
    obtain ⟨e1, e2, e3⟩ := digF_L hr
    have h2 := isF_L (l := dgs) (L := digB) rfl hr
    rw [h2]
    by_cases g : isL digB t = true
    · rw [if_pos g, if_pos g, e1]
      exact fracF_L e3
    · rw [if_neg g, if_neg g]
      exact ⟨rfl, hr⟩
theorem numF_L {t : List Int} (hr : Rest s t) : numF s (plc s t) = ((numL t).1, plc s (numL t).2) ∧ Rest s (numL t).2 := by
  have h1 := isF_L (l := ⟨#[45]⟩) (L := [45]) rfl hr
  unfold numF numL
  rw [h1]
  by_cases h : isL [45] t = true
  · rw [if_pos h, if_pos h, ← plc_tail hr h]
    exact intF_L hr.tail
  · rw [if_neg h, if_neg h]
    exact intF_L hr
theorem Rest.num {t : List Int} (h : Rest s t) : Rest s (numL t).2 := (numF_L h).2
variable {o : List JNd} {d c : Int}
theorem jis {l : ByteArray} {L t : List Int} (hl : bsOf l = L) (hr : Rest s t) : jps_is (J s t o d c) l (isL L t, J s t o d c) := by
  rw [← isF_L hl hr]
  exact is_ok rfl
theorem jtake {l : ByteArray} {L t : List Int} (hs : s.size ≤ 2 ^ 40) (hl : bsOf l = L) (hr : Rest s t) : jps_take (J s t o d c) l (isL L t, J s (if isL L t = true then t.tail else t) o d c) := by
  have := take_ok (p := J s t o d c) (l := l) (a := plc s t) rfl (by show s.size ≤ _; omega)
  have e : isF (J s t o d c).text l (plc s t) = isL L t := isF_L hl hr
  rw [e] at this
  by_cases h : isL L t = true
  · rw [if_pos h] at this ⊢
    rw [← plc_tail hr h] at this
    exact this
  · rw [if_neg h] at this ⊢
    exact this
theorem jnum {t : List Int} (hs : s.size ≤ 2 ^ 40) (hr : Rest s t) : jps_number (J s t o d c) ((numL t).1, J s (numL t).2 o d c) := by
  have := number_ok (p := J s t o d c) (by show s.size ≤ _; omega) (a := plc s t) rfl (plc_le t)
  have e : numF (J s t o d c).text (plc s t) = ((numL t).1, plc s (numL t).2) := (numF_L hr).1
  rw [e] at this
  exact this
theorem jblanks (hs : s.size ≤ 2 ^ 40) : ∀ {t : List Int}, Rest s t → jps_blanks (J s t o d c) (J s (blL t) o d c)
  | [], hr => by
    refine .done ?_
    show jps_blanks_b1 _ _ _ _ _ _
    unfold jps_blanks_b1
    refine ⟨_, jis (l := ⟨#[32, 9, 10, 13]⟩) (L := blankB) rfl hr, ?_⟩
    rw [if_neg (by simp [isL])]
    rfl
  | x :: t, hr => by
    have hpl := plc_le (s := s) (x :: t)
    by_cases h : blankB.contains x = true
    · have ih := jblanks hs hr.tl.1
      have e : blL (x :: t) = blL t := by unfold blL; rw [skipL, if_pos h]
      rw [e]
      refine .next ?_ ih
      show jps_blanks_b1 _ _ _ _ _ _
      unfold jps_blanks_b1
      refine ⟨_, jis (l := ⟨#[32, 9, 10, 13]⟩) (L := blankB) rfl hr, ?_⟩
      rw [if_pos (show isL blankB (x :: t) = true from h)]
      dsimp only
      rw [w64_nat (by omega), hr.tl.2]
      rfl
    · have e : blL (x :: t) = x :: t := by unfold blL; rw [skipL, if_neg h]
      rw [e]
      refine .done ?_
      show jps_blanks_b1 _ _ _ _ _ _
      unfold jps_blanks_b1
      refine ⟨_, jis (l := ⟨#[32, 9, 10, 13]⟩) (L := blankB) rfl hr, ?_⟩
      rw [if_neg (show ¬ isL blankB (x :: t) = true from h)]
theorem Rest.word : ∀ {w t : List Int}, Rest s t → Rest s (wordL w t).2
  | [], t, h => h
  | w :: ws, t, h => by
    unfold wordL
    split
    · exact Rest.word h.tail
    · exact h
theorem jword_loop {w : ByteArray} (hs : s.size ≤ 2 ^ 40) (hw : w.size ≤ 10) : ∀ (m i : Nat) (t : List Int), w.size - i < m → i ≤ w.size → Rest s t →
    Rounds (fun (q : Int × ByteArray × Int × (List JNd) × Int × Int) o => jps_word_b1 w q.1 q.2.1 q.2.2.1 q.2.2.2.1 q.2.2.2.2.1 q.2.2.2.2.2 o) ((i : Int), s, (plc s t : Int), o, d, c) ((wordL ((bsOf w).drop i) t).1, J s (wordL ((bsOf w).drop i) t).2 o d c)
  | 0, i, t, hm, hi, hr => absurd hm (Nat.not_lt_zero _)
  | m + 1, i, t, hm, hi, hr => by
    by_cases hil : i < w.size
    · rw [bsOf_cons hil, wordL]
      have hext : bsOf (w.extract i (i + 1)) = [bt w (i : Int)] := by
        rw [bsOf_extract, bsOf_take hil]
        exact List.drop_left' (by rw [List.length_take, bsOf_len]; omega)
      have hb : ∀ q, (if isL [bt w (i : Int)] t = true then q = .inl (((i + 1 : Nat) : Int), s, (plc s t.tail : Int), o, d, c) else q = .inr (false, J s t o d c)) → jps_word_b1 w (i : Int) s (plc s t : Int) o d c q := fun q hq => by
        unfold jps_word_b1
        rw [if_pos (by omega), w64_nat (by omega)]
        refine ⟨by omega, _, jtake hs (l := w.extract (i : Int).toNat ((i : Int) + 1).toNat) (L := [bt w (i : Int)]) (by rw [Int.toNat_natCast, show ((i : Int) + 1).toNat = i + 1 by omega]; exact hext) hr, ?_⟩
        by_cases h : isL [bt w (i : Int)] t = true
        · rw [if_pos h] at hq ⊢
          rw [if_pos h]
          exact hq
        · rw [if_neg h] at hq ⊢
          rw [if_neg h]
          rw [Bool.not_eq_true] at h
          exact hq
      by_cases h : isL [bt w (i : Int)] t = true
      · rw [if_pos h]
        exact .next (hb _ (by rw [if_pos h])) (jword_loop hs hw m (i + 1) t.tail (by omega) (by omega) hr.tail)
      · rw [if_neg h]
        exact .done (hb _ (by rw [if_neg h]))
    · rw [List.drop_eq_nil_of_le (by rw [bsOf_len]; omega)]
      refine .done ?_
      show jps_word_b1 _ _ _ _ _ _ _ _
      unfold jps_word_b1
      rw [if_neg (by dsimp only; omega)]
      rfl
theorem jword {w : ByteArray} {W t : List Int} (hs : s.size ≤ 2 ^ 40) (hw : bsOf w = W) (hl : w.size ≤ 10) (hr : Rest s t) : jps_word (J s t o d c) w ((wordL W t).1, J s (wordL W t).2 o d c) := by
  have := jword_loop (o := o) (d := d) (c := c) hs hl (w.size + 1) 0 t (by omega) (by omega) hr
  rw [List.drop_zero, hw] at this
  exact this
theorem hexV_ok : ∀ n : Fin 256, hexs.contains (n.val : Int) = true → (0 ≤ hexV (n.val : Int) ∧ hexV (n.val : Int) < 16) ∧ (if (n.val : Int) ≤ 57 then IntKind.i32.wrap (IntKind.u8.wrap ((n.val : Int) - 48)) else IntKind.i32.wrap ((IntKind.i32.wrap ((IntKind.i32.wrap (bits .or .u8 (n.val : Int) 32)) - 97)) + 10)) = hexV (n.val : Int) := by decide +kernel
theorem hexV_in {x : Int} (h : hexs.contains x = true) : 0 ≤ hexV x ∧ hexV x < 16 := by
  have hx : 0 ≤ x ∧ x ≤ 255 := by
    rw [List.contains_iff_mem] at h
    have : ∀ y ∈ hexs, 0 ≤ y ∧ y ≤ 255 := by decide
    exact this x h
  have e : ((x.toNat : Nat) : Int) = x := by omega
  have := hexV_ok ⟨x.toNat, by omega⟩
  simp only [e] at this
  exact (this h).1
theorem hexV_val {x : Int} (h : hexs.contains x = true) : (if x ≤ 57 then IntKind.i32.wrap (IntKind.u8.wrap (x - 48)) else IntKind.i32.wrap ((IntKind.i32.wrap ((IntKind.i32.wrap (bits .or .u8 x 32)) - 97)) + 10)) = hexV x := by
  have hx : 0 ≤ x ∧ x ≤ 255 := by
    rw [List.contains_iff_mem] at h
    have : ∀ y ∈ hexs, 0 ≤ y ∧ y ≤ 255 := by decide
    exact this x h
  have e : ((x.toNat : Nat) : Int) = x := by omega
  have := hexV_ok ⟨x.toNat, by omega⟩
  simp only [e] at this
  exact (this h).2
def hexQ (s : ByteArray) (o : List JNd) (d c : Int) (L : List Int) : List Int → Int × Bool × jps
  | [] => (0, false, J s [] o d c)
  | x :: t => if L.contains x = true then (hexV x, true, J s t o d c) else (0, false, J s (x :: t) o d c)
theorem hexQ_cons (L : List Int) (x : Int) (t : List Int) : hexQ s o d c L (x :: t) = if L.contains x = true then (hexV x, true, J s t o d c) else (0, false, J s (x :: t) o d c) := rfl
theorem jhex {l : ByteArray} {L t : List Int} (hs : s.size ≤ 2 ^ 40) (hl : bsOf l = L) (hL : ∀ x ∈ L, x ∈ hexs) (hr : Rest s t) : jps_hex (J s t o d c) l (hexQ s o d c L t) := by
  unfold jps_hex
  refine ⟨_, jtake hs hl hr, ?_⟩
  cases t with
  | nil => rw [if_neg (by simp [isL])]; rfl
  | cons x t =>
    obtain ⟨h1, h2⟩ := hr.bt
    rw [hexQ_cons]
    by_cases h : L.contains x = true
    · rw [if_pos (show isL L (x :: t) = true from h), if_pos h]
      have e : (if isL L (x :: t) = true then (x :: t).tail else x :: t) = t := if_pos h
      rw [e]
      dsimp only
      have hp : w64 ((plc s t : Int) - 1) = (plc s (x :: t) : Int) := by rw [hr.tl.2, w64_id (by omega)]; omega
      have hx : hexs.contains x = true := List.contains_iff_mem.2 (hL x (List.contains_iff_mem.1 h))
      have hv := hexV_val hx
      refine ⟨by rw [hp]; omega, ?_⟩
      by_cases g : x ≤ 57
      · rw [if_pos (show bt s (w64 ((plc s t : Int) - 1)) ≤ 57 by rw [hp, h1]; exact g), hp, h1]
        rw [if_pos g] at hv
        rw [hv]
      · rw [if_neg (show ¬ bt s (w64 ((plc s t : Int) - 1)) ≤ 57 by rw [hp, h1]; exact g), hp, h1]
        rw [if_neg g] at hv
        rw [hv]
    · rw [if_neg (show ¬ isL L (x :: t) = true from h), if_neg h]
      have e : (if isL L (x :: t) = true then (x :: t).tail else x :: t) = x :: t := if_neg h
      rw [e]
def fourR (s : ByteArray) (o : List JNd) (d c : Int) : Option Int × List Int → Int × Bool × jps
  | (none, r) => (0, false, J s r o d c)
  | (some v, r) => (v, true, J s r o d c)
theorem Rest.digs : ∀ {ls : List (List Int)} {t : List Int} {v : Int}, Rest s t → Rest s (digsL ls t v).2
  | [], t, v, h => h
  | l :: ls, [], v, h => h
  | l :: ls, x :: t, v, h => by
    unfold digsL
    dsimp only
    split
    · exact Rest.digs h.tl.1
    · exact h
theorem jfour_loop (hs : s.size ≤ 2 ^ 40) {a b : ByteArray} {fs : List ByteArray} (hfs : fs = [a, b, (⟨#[48, 49, 50, 51, 52, 53, 54, 55, 56, 57, 97, 98, 99, 100, 101, 102, 65, 66, 67, 68, 69, 70]⟩ : ByteArray), (⟨#[48, 49, 50, 51, 52, 53, 54, 55, 56, 57, 97, 98, 99, 100, 101, 102, 65, 66, 67, 68, 69, 70]⟩ : ByteArray)]) :
    ∀ (gs : List ByteArray) (ls : List (List Int)) (i : Nat) (t : List Int) (v : Int), fs.drop i = gs → gs.map bsOf = ls → (∀ l ∈ ls, ∀ x ∈ l, x ∈ hexs) → i + gs.length = 4 → 0 ≤ v → v < 16 ^ i → Rest s t →
    Rounds (fun (q : Int × Int × ByteArray × Int × (List JNd) × Int × Int) o => jps_four_b2 a b q.1 q.2.1 q.2.2.1 q.2.2.2.1 q.2.2.2.2.1 q.2.2.2.2.2.1 q.2.2.2.2.2.2 o) (v, (i : Int), s, (plc s t : Int), o, d, c) (fourR s o d c (digsL ls t v))
  | [], ls, i, t, v, hg, hm, hh, hi, h0, h1, hr => by
    subst hm
    refine .done ?_
    show jps_four_b2 _ _ _ _ _ _ _ _ _ _
    unfold jps_four_b2
    simp only [List.length_nil] at hi
    rw [if_neg (by dsimp only; omega)]
    rfl
  | g :: gs, ls, i, t, v, hg, hm, hh, hi, h0, h1, hr => by
    simp only [List.length_cons] at hi
    rw [List.map_cons] at hm
    subst hm
    have hgi : arrL fs (i : Int) = g := by
      unfold arrL
      rw [Int.toNat_natCast]
      have := congrArg (fun l => l.getD 0 default) hg
      rw [List.getD_eq_getElem?_getD] at this ⊢
      rw [List.getElem?_drop, Nat.add_zero] at this
      exact this
    have hdrop : fs.drop (i + 1) = gs := by rw [← List.drop_drop, hg]; rfl
    have hb : ∀ q, (if (hexQ s o d c (bsOf g) t).2.1 = true then q = .inl (16 * v + (hexQ s o d c (bsOf g) t).1, ((i + 1 : Nat) : Int), (hexQ s o d c (bsOf g) t).2.2.text, (hexQ s o d c (bsOf g) t).2.2.at_, (hexQ s o d c (bsOf g) t).2.2.out, (hexQ s o d c (bsOf g) t).2.2.in_, (hexQ s o d c (bsOf g) t).2.2.code) else q = .inr (0, false, (hexQ s o d c (bsOf g) t).2.2)) → jps_four_b2 a b v (i : Int) s (plc s t : Int) o d c q := fun q hq => by
      unfold jps_four_b2
      rw [if_pos (by omega), ← hfs]
      refine ⟨by omega, _, jhex hs (l := arrL fs (i : Int)) (L := bsOf g) (by rw [hgi]) (hh _ (List.mem_cons_self ..)) hr, ?_⟩
      have hval : 0 ≤ (hexQ s o d c (bsOf g) t).1 ∧ (hexQ s o d c (bsOf g) t).1 < 16 := by
        cases t with
        | nil => exact ⟨Int.le_refl _, show (0 : Int) < 16 by omega⟩
        | cons x t =>
          rw [hexQ_cons]
          split
          · rename_i h
            exact hexV_in (List.contains_iff_mem.2 (hh _ (List.mem_cons_self ..) x (List.contains_iff_mem.1 h)))
          · exact ⟨Int.le_refl _, show (0 : Int) < 16 by omega⟩
      generalize hexQ s o d c (bsOf g) t = p at hq hval ⊢
      have hp : (16 : Int) ^ i ≤ 4096 := by
        rcases (show i = 0 ∨ i = 1 ∨ i = 2 ∨ i = 3 by omega) with rfl | rfl | rfl | rfl <;> decide
      by_cases h : p.2.1 = true
      · rw [if_pos h] at hq ⊢
        rw [w64_nat (by omega), show IntKind.i32.wrap (16 * v) = 16 * v by rw [IntKind.wrap_i32]; omega, show IntKind.i32.wrap (16 * v + p.1) = 16 * v + p.1 by rw [IntKind.wrap_i32]; omega]
        exact hq
      · rw [if_neg h] at hq ⊢
        exact hq
    cases t with
    | nil => exact .done (hb _ rfl)
    | cons x t =>
      rw [digsL]
      rw [hexQ_cons] at hb
      by_cases h : (bsOf g).contains x = true
      · rw [if_pos h]
        rw [if_pos h] at hb
        have hx : hexs.contains x = true := List.contains_iff_mem.2 (hh _ (List.mem_cons_self ..) x (List.contains_iff_mem.1 h))
        have hv := hexV_in hx
        have hpow : (16 : Int) ^ (i + 1) = 16 ^ i * 16 := Int.pow_succ ..
        exact .next (hb _ (by rw [if_pos rfl])) (jfour_loop hs hfs gs _ (i + 1) t _ hdrop rfl (fun l hl => hh l (List.mem_cons_of_mem _ hl)) (by omega) (by omega) (by omega) hr.tl.1)
      · rw [if_neg h]
        rw [if_neg h] at hb
        exact .done (hb _ (by rw [if_neg (by simp)]; rfl))
theorem jfour_low {t : List Int} (hs : s.size ≤ 2 ^ 40) (hr : Rest s t) : jps_four (J s t o d c) true (fourR s o d c (digsL [[100, 68], lows, hexs, hexs] t 0)) := by
  unfold jps_four
  rw [if_pos rfl]
  exact jfour_loop hs rfl _ _ 0 t 0 rfl rfl (by decide) rfl (by omega) (by decide) hr
theorem jfour_high {t : List Int} (hs : s.size ≤ 2 ^ 40) (hr : Rest s t) : jps_four (J s t o d c) false (fourR s o d c (digsL [hexs, if isL [100, 68] t = true then high2 else hexs, hexs, hexs] t 0)) := by
  unfold jps_four
  rw [if_neg (by simp)]
  refine ⟨_, jis (l := ⟨#[100, 68]⟩) (L := [100, 68]) rfl hr, ?_⟩
  by_cases h : isL [100, 68] t = true
  · rw [if_pos h, if_pos h]
    exact jfour_loop hs rfl _ _ 0 t 0 rfl rfl (by decide) rfl (by omega) (by decide) hr
  · rw [if_neg h, if_neg h]
    exact jfour_loop hs rfl _ _ 0 t 0 rfl rfl (by decide) rfl (by omega) (by decide) hr
end
theorem or_192 : ∀ n : Fin 32, bits .or .u8 192 (n.val : Int) = 192 + (n.val : Int) := by decide +kernel
theorem or_224 : ∀ n : Fin 16, bits .or .u8 224 (n.val : Int) = 224 + (n.val : Int) := by decide +kernel
theorem or_240 : ∀ n : Fin 8, bits .or .u8 240 (n.val : Int) = 240 + (n.val : Int) := by decide +kernel
theorem or_128 : ∀ n : Fin 256, bits .or .u8 128 (bits .and .u8 (n.val : Int) 63) = 128 + (n.val : Int) % 64 := by decide +kernel
theorem b_192 {x : Int} (h : 0 ≤ x ∧ x < 32) : bits .or .u8 192 x = 192 + x := by
  have := or_192 ⟨x.toNat, by omega⟩
  have e : ((x.toNat : Nat) : Int) = x := by omega
  simpa only [e] using this
theorem b_224 {x : Int} (h : 0 ≤ x ∧ x < 16) : bits .or .u8 224 x = 224 + x := by
  have := or_224 ⟨x.toNat, by omega⟩
  have e : ((x.toNat : Nat) : Int) = x := by omega
  simpa only [e] using this
theorem b_240 {x : Int} (h : 0 ≤ x ∧ x < 8) : bits .or .u8 240 x = 240 + x := by
  have := or_240 ⟨x.toNat, by omega⟩
  have e : ((x.toNat : Nat) : Int) = x := by omega
  simpa only [e] using this
theorem b_128 (x : Int) : bits .or .u8 128 (bits .and .u8 (IntKind.u8.wrap x) 63) = 128 + x % 64 := by
  have hr : 0 ≤ IntKind.u8.wrap x ∧ IntKind.u8.wrap x < 256 := by rw [IntKind.wrap_u8]; omega
  have := or_128 ⟨(IntKind.u8.wrap x).toNat, by omega⟩
  have e : (((IntKind.u8.wrap x).toNat : Nat) : Int) = IntKind.u8.wrap x := by omega
  simp only [e] at this
  rw [this, IntKind.wrap_u8]
  omega
theorem shr_i32 {x : Int} (k : Nat) (hk : k ≤ 32) (h : 0 ≤ x) : shrV .i32 x (k : Int) = x / ((2 ^ k : Nat) : Int) := by
  unfold shrV
  rw [show min ((k : Int)).toNat IntKind.i32.bits = k by simp [IntKind.bits]; omega, show ((2 : Int) ^ k) = ((2 ^ k : Nat) : Int) by simp, Int.fdiv_eq_ediv_of_nonneg _ (Int.natCast_nonneg _)]
theorem utf8L_len (c : Int) : (utf8L c).length ≤ 4 := by
  unfold utf8L
  repeat' split
  all_goals simp
theorem appendRune_ok {acc : List Int} {c : Int} (h0 : 0 ≤ c) (h1 : c ≤ 1114111) (hs : c < 55296 ∨ 57343 < c) (hl : acc.length + 4 ≤ LIM2) : unicode_utf8_AppendRune acc c (acc ++ utf8L c) := by
  have hu : IntKind.u32.wrap c = c := by rw [IntKind.wrap_u32]; omega
  have s6 : shrV .i32 c 6 = c / 64 := shr_i32 6 (by omega) h0
  have s12 : shrV .i32 c 12 = c / 4096 := shr_i32 12 (by omega) h0
  have s18 : shrV .i32 c 18 = c / 262144 := shr_i32 18 (by omega) h0
  have e0 : c < 128 → utf8L c = [c] := fun h => by unfold utf8L; rw [if_pos h]
  have e1 : ¬ c < 128 → c < 2048 → utf8L c = [192 + c / 64, 128 + c % 64] := fun h g => by unfold utf8L; rw [if_neg h, if_pos g]
  have e2 : ¬ c < 2048 → c < 65536 → utf8L c = [224 + c / 4096, 128 + c / 64 % 64, 128 + c % 64] := fun h g => by unfold utf8L; rw [if_neg (show ¬ c < 128 by omega), if_neg h, if_pos g]
  have e3 : ¬ c < 65536 → utf8L c = [240 + c / 262144, 128 + c / 4096 % 64, 128 + c / 64 % 64, 128 + c % 64] := fun h => by unfold utf8L; rw [if_neg (show ¬ c < 128 by omega), if_neg (show ¬ c < 2048 by omega), if_neg h]
  unfold unicode_utf8_AppendRune
  rw [hu]
  by_cases k1 : c ≤ 127
  · rw [if_pos k1, e0 (by omega)]
    refine ⟨_, rfl, by rw [List.length_append, List.length_singleton]; show _ ≤ LIM2; omega, ?_⟩
    rw [u8_id (by omega)]
  rw [if_neg k1]
  refine ⟨_, ?_, rfl⟩
  unfold unicode_utf8_appendRuneNonASCII
  rw [hu]
  by_cases k2 : c ≤ 2047
  · rw [if_pos k2, e1 (by omega) (by omega)]
    refine ⟨_, rfl, by rw [List.length_append]; simp only [List.length_cons, List.length_nil]; show _ ≤ LIM2; omega, ?_⟩
    rw [s6, u8_id (x := c / 64) (by omega), b_192 (by omega), b_128]
  rw [if_neg k2]
  have j1 : c ≤ 65535 → unicode_utf8_appendRuneNonASCII_j1 acc c true (acc ++ utf8L c) := fun h => by
    rw [e2 (by omega) (by omega)]
    unfold unicode_utf8_appendRuneNonASCII_j1
    rw [if_pos rfl]
    refine ⟨_, rfl, by rw [List.length_append]; simp only [List.length_cons, List.length_nil]; show _ ≤ LIM2; omega, ?_⟩
    rw [s12, s6, u8_id (x := c / 4096) (by omega), b_224 (by omega), b_128, b_128]
  by_cases k3 : c < 65536
  · by_cases k4 : c < 55296
    · rw [if_pos k4, decide_eq_true k4]
      exact j1 (by omega)
    · rw [if_neg k4, if_pos (show 57343 < c by omega), decide_eq_true (show c ≤ 65535 by omega)]
      exact j1 (by omega)
  · rw [if_neg (show ¬ c < 55296 by omega), if_pos (show 57343 < c by omega), decide_eq_false (show ¬ c ≤ 65535 by omega), e3 k3]
    unfold unicode_utf8_appendRuneNonASCII_j1
    rw [if_neg (show ¬ (false = true) by simp), hu, if_pos (show c > 65535 by omega), decide_eq_true (show c ≤ 1114111 by omega)]
    unfold unicode_utf8_appendRuneNonASCII_j2
    rw [if_pos rfl]
    refine ⟨_, rfl, by rw [List.length_append]; simp only [List.length_cons, List.length_nil]; show _ ≤ LIM2; omega, ?_⟩
    rw [s18, s12, s6, u8_id (x := c / 262144) (by omega), b_240 (by omega), b_128, b_128, b_128]
theorem digs4 {l0 l1 l2 l3 t : List Int} {c : Int} {r : List Int} (h : digsL [l0, l1, l2, l3] t 0 = (some c, r)) : ∃ x0 x1 x2 x3, t = x0 :: x1 :: x2 :: x3 :: r ∧ x0 ∈ l0 ∧ x1 ∈ l1 ∧ x2 ∈ l2 ∧ x3 ∈ l3 ∧ c = 16 * (16 * (16 * hexV x0 + hexV x1) + hexV x2) + hexV x3 := by
  have step : ∀ (l : List Int) (ls : List (List Int)) (t : List Int) (v c : Int) (r : List Int), digsL (l :: ls) t v = (some c, r) → ∃ x t', t = x :: t' ∧ x ∈ l ∧ digsL ls t' (16 * v + hexV x) = (some c, r) := by
    intro l ls t v c r h
    cases t with
    | nil => rw [digsL] at h; cases h
    | cons x t =>
      rw [digsL] at h
      split at h
      · rename_i g; exact ⟨x, t, rfl, List.contains_iff_mem.1 g, h⟩
      · cases h
  obtain ⟨x0, t0, rfl, m0, h⟩ := step _ _ _ _ _ _ h
  obtain ⟨x1, t1, rfl, m1, h⟩ := step _ _ _ _ _ _ h
  obtain ⟨x2, t2, rfl, m2, h⟩ := step _ _ _ _ _ _ h
  obtain ⟨x3, t3, rfl, m3, h⟩ := step _ _ _ _ _ _ h
  rw [digsL] at h
  injection h with h1 h2
  injection h1 with h1
  subst h2
  exact ⟨x0, x1, x2, x3, rfl, m0, m1, m2, m3, by rw [← h1]; omega⟩
theorem hex_mem {x : Int} (h : x ∈ hexs) : 0 ≤ hexV x ∧ hexV x < 16 := hexV_in (List.contains_iff_mem.2 h)
theorem high2_mem : ∀ x ∈ high2, hexV x < 12 ∧ x ∈ hexs := by decide
theorem lows_mem : ∀ x ∈ lows, 12 ≤ hexV x ∧ x ∈ hexs := by decide
theorem dd_mem : ∀ x ∈ ([100, 68] : List Int), hexV x = 13 := by decide
theorem not_dd : ∀ x ∈ hexs, ¬ x ∈ ([100, 68] : List Int) → hexV x ≠ 13 := by decide
theorem unit_high {t : List Int} {c : Int} {r : List Int} (h : digsL [hexs, if isL [100, 68] t = true then high2 else hexs, hexs, hexs] t 0 = (some c, r)) : 0 ≤ c ∧ c ≤ 65535 ∧ (c < 55296 ∨ 57343 < c ∨ c ≤ 56319) := by
  obtain ⟨x0, x1, x2, x3, e, m0, m1, m2, m3, ec⟩ := digs4 h
  have h0 := hex_mem m0
  have h2 := hex_mem m2
  have h3 := hex_mem m3
  rw [e] at m1
  by_cases g : isL [100, 68] (x0 :: x1 :: x2 :: x3 :: r) = true
  · rw [if_pos g] at m1
    have h1 := high2_mem x1 m1
    have h1' := hex_mem h1.2
    have hd := dd_mem x0 (List.contains_iff_mem.1 g)
    rw [hd] at ec
    omega
  · rw [if_neg g] at m1
    have h1 := hex_mem m1
    have hd := not_dd x0 m0 (fun hm => g (List.contains_iff_mem.2 hm))
    omega
theorem unit_low {t : List Int} {c : Int} {r : List Int} (h : digsL [[100, 68], lows, hexs, hexs] t 0 = (some c, r)) : 56320 ≤ c ∧ c ≤ 57343 := by
  obtain ⟨x0, x1, x2, x3, e, m0, m1, m2, m3, ec⟩ := digs4 h
  have h0 := dd_mem x0 m0
  have h1 := lows_mem x1 m1
  have h1' := hex_mem h1.2
  have h2 := hex_mem m2
  have h3 := hex_mem m3
  rw [h0] at ec
  omega
section
variable {s : ByteArray} {o : List JNd} {d c : Int}
theorem Rest.unit {t : List Int} (h : Rest s t) : Rest s (unitL t).2 := by
  unfold unitL
  have h1 := Rest.digs (ls := [hexs, if isL [100, 68] t = true then high2 else hexs, hexs, hexs]) (v := 0) h
  generalize digsL [hexs, if isL [100, 68] t = true then high2 else hexs, hexs, hexs] t 0 = p at h1 ⊢
  obtain ⟨q, r⟩ := p
  cases q with
  | none => exact h1
  | some v =>
    dsimp only at h1 ⊢
    split
    · split
      · split
        · have h4 := Rest.digs (ls := [[100, 68], lows, hexs, hexs]) (v := 0) h1.tail.tail
          generalize digsL [[100, 68], lows, hexs, hexs] r.tail.tail 0 = p at h4 ⊢
          obtain ⟨q, u⟩ := p
          cases q <;> exact h4
        · exact h1.tail
      · exact h1
    · exact h1
theorem Rest.esc {t : List Int} (h : Rest s t) : Rest s (escL t).2 := by
  cases t with
  | nil => exact h
  | cons x t =>
    rw [escL_cons]
    split
    · split
      · exact h.tl.1.unit
      · exact h
    · exact h.tl.1
theorem escL_four {t b r : List Int} (h : escL t = (some b, r)) : b.length ≤ 4 := by
  cases t with
  | nil => cases h
  | cons x t =>
    rw [escL_cons] at h
    split at h
    · split at h
      · unfold unitL at h
        split at h
        · cases h
        · split at h
          · split at h
            · split at h
              · split at h
                · cases h
                · injection h with h _; injection h with h; rw [← h]; exact utf8L_len _
              · cases h
            · cases h
          · injection h with h _; injection h with h; rw [← h]; exact utf8L_len _
      · cases h
    · injection h with h _; injection h with h; rw [← h]; simp
theorem tb3_says : ∀ n : Fin 256, ix tb_3 (n.val : Int) = saysL (n.val : Int) := by decide +kernel
theorem tb3_ok {x : Int} (h : 0 ≤ x ∧ x ≤ 255) : ix tb_3 x = saysL x := by
  have := tb3_says ⟨x.toNat, by omega⟩
  have e : ((x.toNat : Nat) : Int) = x := by omega
  simpa only [e] using this
def escR (s : ByteArray) (o : List JNd) (d c : Int) (acc : List Int) : Option (List Int) × List Int → (List Int) × Bool × jps
  | (none, r) => (acc, false, J s r o d c)
  | (some b, r) => (acc ++ b, true, J s r o d c)
theorem junit_ok {t acc : List Int} (hs : s.size ≤ 2 ^ 40) (hr : Rest s t) (hl : acc.length + 4 ≤ LIM2) : ∃ r65, jps_four (J s t o d c) false r65 ∧
    (if r65.2.1 = true then
    if r65.1 ≥ 55296 then
     jps_escape_j2 r65 acc (decide (r65.1 ≤ 56319)) (escR s o d c acc (unitL t))
    else
     jps_escape_j2 r65 acc false (escR s o d c acc (unitL t))
   else
    (escR s o d c acc (unitL t)) = (acc, false, r65.2.2)) := by
  refine ⟨_, jfour_high hs hr, ?_⟩
  have hrd := Rest.digs (ls := [hexs, if isL [100, 68] t = true then high2 else hexs, hexs, hexs]) (v := 0) hr
  have hc := @unit_high t
  unfold unitL
  generalize digsL [hexs, if isL [100, 68] t = true then high2 else hexs, hexs, hexs] t 0 = p at hrd hc ⊢
  obtain ⟨q, r⟩ := p
  cases q with
  | none => rw [if_neg (by simp [fourR])]; rfl
  | some v =>
    obtain ⟨c0, c1, c2⟩ := hc rfl
    dsimp only at hrd ⊢
    rw [if_pos (show (fourR s o d c (some v, r)).2.1 = true from rfl)]
    show if v ≥ 55296 then jps_escape_j2 (v, true, J s r o d c) acc (decide (v ≤ 56319)) _ else jps_escape_j2 (v, true, J s r o d c) acc false _
    have hplain : ¬ (55296 ≤ v ∧ v ≤ 56319) → jps_escape_j2 (v, true, J s r o d c) acc false (escR s o d c acc (if 55296 ≤ v ∧ v ≤ 56319 then
      (if isL [92] r = true then (if isL [117] r.tail = true then (match digsL [[100, 68], lows, hexs, hexs] r.tail.tail 0 with
        | (none, q) => (none, q)
        | (some d, q) => (some (utf8L (65536 + 1024 * (v - 55296) + (d - 56320))), q)) else (none, r.tail)) else (none, r))
    else (some (utf8L v), r))) := fun h => by
      rw [if_neg h]
      unfold jps_escape_j2
      rw [if_neg (by simp)]
      exact ⟨_, appendRune_ok c0 (by omega) (by omega) hl, rfl⟩
    by_cases k1 : v ≥ 55296
    · rw [if_pos k1]
      by_cases k2 : v ≤ 56319
      · rw [decide_eq_true k2, if_pos ⟨k1, k2⟩]
        unfold jps_escape_j2
        rw [if_pos rfl]
        refine ⟨_, jtake hs (l := ⟨#[92]⟩) (L := [92]) rfl hrd, ?_⟩
        by_cases g1 : isL [92] r = true
        · rw [if_pos g1, if_pos g1, if_pos g1]
          refine ⟨_, jtake hs (l := ⟨#[117]⟩) (L := [117]) rfl hrd.tail, ?_⟩
          unfold jps_escape_j3
          by_cases g2 : isL [117] r.tail = true
          · rw [if_pos g2, if_pos g2, g2, if_neg (show ¬ (!true) = true by simp)]
            refine ⟨_, jfour_low hs hrd.tail.tail, ?_⟩
            have hc2 := @unit_low r.tail.tail
            generalize digsL [[100, 68], lows, hexs, hexs] r.tail.tail 0 = p at hc2 ⊢
            obtain ⟨q2, u⟩ := p
            cases q2 with
            | none => rw [if_neg (by simp [fourR])]; rfl
            | some w =>
              obtain ⟨e1, e2⟩ := hc2 rfl
              rw [if_pos (show (fourR s o d c (some w, u)).2.1 = true from rfl)]
              dsimp only
              have ea : shlV .i32 (IntKind.i32.wrap (v - 55296)) 10 = 1024 * (v - 55296) := by
                unfold shlV
                rw [show min (10 : Int).toNat IntKind.i32.bits = 10 by rfl, show IntKind.i32.wrap (v - 55296) = v - 55296 by rw [IntKind.wrap_i32]; omega, IntKind.wrap_i32]
                omega
              have eb : IntKind.i32.wrap ((IntKind.i32.wrap (65536 + (shlV .i32 (IntKind.i32.wrap (v - 55296)) 10))) + (IntKind.i32.wrap (w - 56320))) = 65536 + 1024 * (v - 55296) + (w - 56320) := by
                rw [ea, show IntKind.i32.wrap (65536 + 1024 * (v - 55296)) = 65536 + 1024 * (v - 55296) by rw [IntKind.wrap_i32]; omega, show IntKind.i32.wrap (w - 56320) = w - 56320 by rw [IntKind.wrap_i32]; omega, IntKind.wrap_i32]
                omega
              refine ⟨acc ++ utf8L (65536 + 1024 * (v - 55296) + (w - 56320)), ?_, rfl⟩
              show unicode_utf8_AppendRune acc (IntKind.i32.wrap ((IntKind.i32.wrap (65536 + (shlV .i32 (IntKind.i32.wrap (v - 55296)) 10))) + (IntKind.i32.wrap (w - 56320)))) _
              rw [eb]
              exact appendRune_ok (by omega) (by omega) (by omega) hl
          · rw [if_neg g2, if_neg g2]
            rw [Bool.not_eq_true] at g2
            rw [g2, if_pos (show (!false) = true from rfl)]
            rfl
        · rw [if_neg g1, if_neg g1, if_neg g1]
          unfold jps_escape_j3
          rw [if_pos rfl]
          rfl
      · rw [decide_eq_false k2]
        exact hplain (by omega)
    · rw [if_neg k1]
      exact hplain (by omega)
theorem jescape {t acc : List Int} (hs : s.size ≤ 2 ^ 40) (hr : Rest s t) (hl : acc.length + 4 ≤ LIM2) : jps_escape (J s t o d c) acc (escR s o d c acc (escL t)) := by
  unfold jps_escape
  cases t with
  | nil =>
    rw [if_neg (by dsimp only; rw [Rest.nil]; omega)]
    unfold jps_escape_j1
    rw [if_neg (by simp)]
    refine ⟨_, jtake hs (l := ⟨#[117]⟩) (L := [117]) rfl hr, ?_⟩
    rw [if_neg (by simp [isL])]
    rfl
  | cons x t =>
    obtain ⟨h1, h2⟩ := hr.bt
    have hb := bt_range s (plc s (x :: t) : Int)
    rw [if_pos (by dsimp only; omega)]
    refine ⟨by dsimp only; omega, by dsimp only; omega, ?_⟩
    dsimp only
    rw [h1, tb3_ok (by omega)]
    unfold jps_escape_j1
    rw [escL_cons]
    by_cases g : saysL x = 0
    · rw [if_pos g, g, if_neg (by simp)]
      refine ⟨_, jtake hs (l := ⟨#[117]⟩) (L := [117]) rfl hr, ?_⟩
      by_cases g2 : x = 117
      · have hi : isL [117] (x :: t) = true := by rw [isL_cons, g2]; rfl
        rw [if_pos g2, if_pos hi, if_pos hi]
        exact junit_ok hs hr.tl.1 hl
      · have hi : ¬ isL [117] (x :: t) = true := by
          rw [isL_cons, List.contains_iff_mem, List.mem_singleton]; exact g2
        rw [if_neg g2, if_neg hi, if_neg hi]
        rfl
    · rw [if_neg g, if_pos (bne_iff_ne.2 g)]
      have hp : w64 (w64 ((plc s (x :: t) : Int) + 1) - 1) = (plc s (x :: t) : Int) := by rw [w64_nat (by omega), w64_id (by omega)]; omega
      dsimp only
      rw [hp]
      refine ⟨by omega, by omega, _, rfl, by rw [List.length_append, List.length_singleton]; show _ ≤ LIM2; omega, ?_⟩
      rw [h1, tb3_ok (by omega), w64_nat (by omega)]
      show (acc ++ [saysL x], true, (⟨s, (plc s t : Int), o, d, c⟩ : jps)) = _
      rw [hr.tl.2]
      rfl
def prl : Nat → Int → Int → List (Int × Int)
  | 0, _, _ => []
  | n + 1, lo, hi => (lo, hi) :: prl n 128 191
theorem bs_between {t r : List Int} (ht : Rest s t) (hr : Rest s r) (hle : r.length ≤ t.length) : bsOf (s.extract (plc s t) (plc s r)) = t.take (t.length - r.length) := by
  obtain ⟨t1, t2⟩ := ht
  obtain ⟨r1, r2⟩ := hr
  rw [bsOf_extract, List.drop_take]
  conv => rhs; rw [t2]
  congr 1
  unfold plc
  rw [List.length_drop, bsOf_len]
  omega
def chR (s : ByteArray) (o : List JNd) (d c : Int) (acc t : List Int) (p : Bool × List Int) : (List Int) × Bool × jps :=
  if p.1 = true then (acc ++ t.take (t.length - p.2.length), true, J s p.2 o d c) else (acc, false, J s p.2 o d c)
theorem jchar_loop {t acc : List Int} (hs : s.size ≤ 2 ^ 40) (ht : Rest s t) (hl : acc.length + t.length ≤ LIM2) : ∀ (n : Nat) (lo hi : Int) (t' : List Int), n ≤ 3 → t'.length ≤ t.length → Rest s t' →
    Rounds (fun (q : Int × Int × Int × Int) o' => jps_char_b3 (J s t o d c) acc q.1 q.2.1 q.2.2.1 q.2.2.2 o') ((n : Int), lo, hi, (plc s t' : Int)) (chR s o d c acc t (tailL (prl n lo hi) t'))
  | 0, lo, hi, t', hn, hle, hr => by
    refine .done ?_
    show jps_char_b3 _ _ _ _ _ _ _
    unfold jps_char_b3
    rw [if_neg (by dsimp only; omega)]
    have hpl := plc_le (s := s) t'
    have hpm : plc s t ≤ plc s t' := by unfold plc; omega
    dsimp only
    refine ⟨by omega, _, rfl, ?_, ?_⟩
    · rw [Int.toNat_natCast, Int.toNat_natCast, bs_between ht hr hle, List.length_append, List.length_take]
      show _ ≤ LIM2
      omega
    · rw [Int.toNat_natCast, Int.toNat_natCast, bs_between ht hr hle]
      rfl
  | n + 1, lo, hi, [], hn, hle, hr => by
    refine .done ?_
    show jps_char_b3 _ _ _ _ _ _ _
    unfold jps_char_b3 jps_char_j4
    rw [if_pos (by dsimp only; omega), if_pos (by dsimp only; rw [Rest.nil])]
    rfl
  | n + 1, lo, hi, y :: t', hn, hle, hr => by
    obtain ⟨h1, h2⟩ := hr.bt
    simp only [List.length_cons] at hle
    have hb : ∀ q, (if y < lo ∨ y > hi then q = .inr (acc, false, J s (y :: t') o d c) else q = .inl ((n : Int), 128, 191, (plc s t' : Int))) → jps_char_b3 (J s t o d c) acc ((n + 1 : Nat) : Int) lo hi (plc s (y :: t') : Int) q := fun q hq => by
      unfold jps_char_b3
      rw [if_pos (by omega), if_neg (by dsimp only; omega)]
      refine ⟨by dsimp only; omega, ?_⟩
      dsimp only
      rw [h1]
      unfold jps_char_j4
      by_cases g1 : y < lo
      · rw [if_pos g1, if_pos rfl]
        rw [if_pos (Or.inl g1)] at hq
        exact hq
      · rw [if_neg g1]
        by_cases g2 : y > hi
        · rw [decide_eq_true g2, if_pos rfl]
          rw [if_pos (Or.inr g2)] at hq
          exact hq
        · rw [decide_eq_false g2, if_neg (by simp)]
          rw [if_neg (by omega)] at hq
          rw [hq, w64_id (by omega), w64_nat (by omega), hr.tl.2]
          congr 2
          omega
    have e : tailL (prl (n + 1) lo hi) (y :: t') = if y < lo ∨ y > hi then (false, y :: t') else tailL (prl n 128 191) t' := rfl
    rw [e]
    by_cases g : y < lo ∨ y > hi
    · rw [if_pos g]
      exact .done (hb _ (by rw [if_pos g]; rfl))
    · rw [if_neg g]
      exact .next (hb _ (by rw [if_neg g])) (jchar_loop hs ht hl n 128 191 t' (by omega) (by omega) hr.tl.1)
theorem jchar {x : Int} {t acc : List Int} (hs : s.size ≤ 2 ^ 40) (ht : Rest s (x :: t)) (hl : acc.length + (x :: t).length ≤ LIM2) : jps_char (J s (x :: t) o d c) acc (chR s o d c acc (x :: t) (if x < 32 then (false, x :: t) else charL (x :: t))) := by
  obtain ⟨h1, h2⟩ := ht.bt
  have hx := bt_range s (plc s (x :: t) : Int)
  rw [h1] at hx
  unfold jps_char
  refine ⟨by dsimp only; omega, ?_⟩
  dsimp only
  rw [h1]
  by_cases k0 : x < 32
  · rw [if_pos k0, if_pos k0]; rfl
  rw [if_neg k0, if_neg k0]
  have j2 : ∀ (n : Nat) (lo hi : Int), n ≤ 3 → rng x = some (prl n lo hi) → jps_char_j2 (J s (x :: t) o d c) acc (n : Int) lo hi (chR s o d c acc (x :: t) (charL (x :: t))) := fun n lo hi hn h => by
    rw [charL_some h]
    unfold jps_char_j2
    have := jchar_loop (o := o) (d := d) (c := c) (acc := acc) hs ht hl n lo hi t hn (by simp) ht.tl.1
    rw [ht.tl.2] at this
    rw [w64_nat (by omega)]
    exact this
  have j1 : ∀ (n : Nat), n ≤ 3 → (∀ lo hi, (lo, hi) = (if x = 224 then ((160 : Int), (191 : Int)) else if x = 237 then (128, 159) else if x = 240 then (144, 191) else if x = 244 then (128, 143) else (128, 191)) → rng x = some (prl n lo hi)) → jps_char_j1 (J s (x :: t) o d c) acc (n : Int) (chR s o d c acc (x :: t) (charL (x :: t))) := fun n hn h => by
    unfold jps_char_j1
    dsimp only
    rw [h1]
    by_cases c1 : x = 224
    · rw [if_pos c1] at h ⊢; exact j2 n _ _ hn (h _ _ rfl)
    rw [if_neg c1] at h ⊢
    by_cases c2 : x = 237
    · rw [if_pos c2] at h ⊢; exact j2 n _ _ hn (h _ _ rfl)
    rw [if_neg c2] at h ⊢
    by_cases c3 : x = 240
    · rw [if_pos c3] at h ⊢; exact j2 n _ _ hn (h _ _ rfl)
    rw [if_neg c3] at h ⊢
    by_cases c4 : x = 244
    · rw [if_pos c4] at h ⊢; exact j2 n _ _ hn (h _ _ rfl)
    rw [if_neg c4] at h ⊢
    exact j2 n _ _ hn (h _ _ rfl)
  have hrng : ∀ n, (∀ lo hi, (lo, hi) = (if x = 224 then ((160 : Int), (191 : Int)) else if x = 237 then (128, 159) else if x = 240 then (144, 191) else if x = 244 then (128, 143) else (128, 191)) → rng x = some (prl n lo hi)) ↔ rng x = some (prl n (if x = 224 then ((160 : Int), (191 : Int)) else if x = 237 then (128, 159) else if x = 240 then (144, 191) else if x = 244 then (128, 143) else (128, 191)).1 (if x = 224 then ((160 : Int), (191 : Int)) else if x = 237 then (128, 159) else if x = 240 then (144, 191) else if x = 244 then (128, 143) else (128, 191)).2) := fun n => ⟨fun h => h _ _ rfl, fun h lo hi e => by rw [← e] at h; exact h⟩
  have all : ∀ n : Fin 256, 32 ≤ n.val → rng (n.val : Int) = (if (n.val : Int) < 128 ∨ ((194 ≤ (n.val : Int)) ∧ (n.val : Int) ≤ 244) then some (prl (if (n.val : Int) < 128 then 0 else if (n.val : Int) ≤ 223 then 1 else if (n.val : Int) ≤ 239 then 2 else 3) (if (n.val : Int) = 224 then ((160 : Int), (191 : Int)) else if (n.val : Int) = 237 then (128, 159) else if (n.val : Int) = 240 then (144, 191) else if (n.val : Int) = 244 then (128, 143) else (128, 191)).1 (if (n.val : Int) = 224 then ((160 : Int), (191 : Int)) else if (n.val : Int) = 237 then (128, 159) else if (n.val : Int) = 240 then (144, 191) else if (n.val : Int) = 244 then (128, 143) else (128, 191)).2) else none) := by decide +kernel
  have hall := all ⟨x.toNat, by omega⟩ (by dsimp only; omega)
  have ex : ((x.toNat : Nat) : Int) = x := by omega
  simp only [ex] at hall
  have no : ¬ (x < 128 ∨ (194 ≤ x ∧ x ≤ 244)) → (acc, false, J s (x :: t) o d c) = chR s o d c acc (x :: t) (charL (x :: t)) := fun h => by
    rw [if_neg h] at hall
    rw [charL_none hall]
    rfl
  by_cases k1 : x < 128
  · rw [if_pos k1]
    rw [if_pos (Or.inl k1), if_pos k1] at hall
    exact j1 0 (by omega) ((hrng 0).2 hall)
  rw [if_neg k1]
  by_cases k2 : x ≥ 194
  · rw [if_pos k2]
    unfold jps_char_j5
    by_cases k3 : x ≤ 223
    · rw [decide_eq_true k3, if_pos rfl]
      rw [if_pos (Or.inr ⟨k2, by omega⟩), if_neg k1, if_pos k3] at hall
      exact j1 1 (by omega) ((hrng 1).2 hall)
    · rw [decide_eq_false k3, if_neg (by simp)]
      dsimp only
      rw [h1, if_pos (by omega)]
      unfold jps_char_j6
      by_cases k4 : x ≤ 239
      · rw [decide_eq_true k4, if_pos rfl]
        rw [if_pos (Or.inr ⟨k2, by omega⟩), if_neg k1, if_neg k3, if_pos k4] at hall
        exact j1 2 (by omega) ((hrng 2).2 hall)
      · rw [decide_eq_false k4, if_neg (by simp)]
        dsimp only
        rw [h1, if_pos (by omega)]
        by_cases k5 : x ≤ 244
        · rw [if_pos k5]
          rw [if_pos (Or.inr ⟨k2, by omega⟩), if_neg k1, if_neg k3, if_neg k4] at hall
          exact j1 3 (by omega) ((hrng 3).2 hall)
        · rw [if_neg k5]
          exact (no (by omega)).symm
  · rw [if_neg k2]
    unfold jps_char_j5
    rw [if_neg (by simp)]
    dsimp only
    rw [h1, if_neg (by omega)]
    unfold jps_char_j6
    rw [if_neg (by simp)]
    dsimp only
    rw [h1, if_neg (by omega)]
    exact (no (by omega)).symm
theorem Rest.str : ∀ {f : Nat} {t acc : List Int}, Rest s t → Rest s (strL f t acc).2
  | 0, t, acc, h => h
  | f + 1, [], acc, h => h
  | f + 1, x :: t, acc, h => by
    unfold strL
    split
    · exact h.tl.1
    split
    · have h1 := h.tl.1.esc
      generalize escL t = p at h1 ⊢
      obtain ⟨q, r⟩ := p
      cases q with
      | none => exact h1
      | some b => exact Rest.str h1
    split
    · exact h
    · have h1 := charL_rest h
      generalize charL (x :: t) = p at h1 ⊢
      obtain ⟨q, r⟩ := p
      cases q with
      | false => exact h1
      | true => exact Rest.str h1
def strR (s : ByteArray) (o : List JNd) (d c : Int) : Option (List Int) × List Int → ByteArray × Bool × jps
  | (none, r) => (⟨#[]⟩, false, J s r o d c)
  | (some b, r) => (ofBs b, true, J s r o d c)
theorem jstr_loop (hs : s.size ≤ 2 ^ 40) : ∀ (f : Nat) (t acc : List Int), t.length < f → Rest s t → acc.length + 4 * t.length ≤ 2 ^ 43 →
    Rounds (fun (q : (List Int) × ByteArray × Int × (List JNd) × Int × Int) o => jps_str_b1 q.1 q.2.1 q.2.2.1 q.2.2.2.1 q.2.2.2.2.1 q.2.2.2.2.2 o) (acc, s, (plc s t : Int), o, d, c) (strR s o d c (strL f t acc))
  | 0, t, acc, hf, hr, hl => absurd hf (Nat.not_lt_zero _)
  | f + 1, [], acc, hf, hr, hl => by
    refine .done ?_
    show jps_str_b1 _ _ _ _ _ _ _
    unfold jps_str_b1
    refine ⟨_, jtake hs (l := ⟨#[34]⟩) (L := [34]) rfl hr, ?_⟩
    rw [if_neg (by simp [isL]), if_pos (by show ((plc s (if isL [34] ([] : List Int) = true then _ else []) : Nat) : Int) = _; rw [if_neg (by simp [isL]), Rest.nil])]
    rfl
  | f + 1, x :: t, acc, hf, hr, hl => by
    obtain ⟨h1, h2⟩ := hr.bt
    simp only [List.length_cons] at hf hl
    have hL : LIM2 = 211106232532992 := rfl
    have hi34 : isL [34] (x :: t) = true ↔ x = 34 := by rw [isL_cons, List.contains_iff_mem, List.mem_singleton]
    have hb : ∀ q, (if x = 34 then q = .inr (ofBs acc, true, J s t o d c) else if x = 92 then ∃ r171 : (List Int) × Bool × jps, (jps_escape (J s t o d c) acc r171) ∧
     if r171.2.1 = true then q = .inl (r171.1, r171.2.2.text, r171.2.2.at_, r171.2.2.out, r171.2.2.in_, r171.2.2.code) else q = .inr (((⟨#[]⟩ : ByteArray), false, r171.2.2))
      else ∃ r190 : (List Int) × Bool × jps, (jps_char (J s (x :: t) o d c) acc r190) ∧
    if r190.2.1 = true then q = .inl (r190.1, r190.2.2.text, r190.2.2.at_, r190.2.2.out, r190.2.2.in_, r190.2.2.code) else q = .inr (((⟨#[]⟩ : ByteArray), false, r190.2.2))) → jps_str_b1 acc s (plc s (x :: t) : Int) o d c q := fun q hq => by
      unfold jps_str_b1
      refine ⟨_, jtake hs (l := ⟨#[34]⟩) (L := [34]) rfl hr, ?_⟩
      by_cases g : x = 34
      · rw [if_pos (hi34.2 g), if_pos (hi34.2 g)]
        rw [if_pos g] at hq
        exact hq
      · have gi : ¬ isL [34] (x :: t) = true := fun h => g (hi34.1 h)
        rw [if_neg gi, if_neg gi]
        rw [if_neg g] at hq
        dsimp only
        rw [if_neg (by omega)]
        refine ⟨by omega, ?_⟩
        rw [h1]
        by_cases g2 : x = 92
        · rw [if_pos g2] at hq ⊢
          rw [w64_nat (by omega)]
          have : ((plc s (x :: t) : Nat) : Int) + 1 = (plc s t : Int) := by rw [hr.tl.2]; omega
          rw [this]
          exact hq
        · rw [if_neg g2] at hq ⊢
          exact hq
    unfold strL
    by_cases g : x = 34
    · rw [if_pos g]
      exact .done (hb _ (by rw [if_pos g]; rfl))
    rw [if_neg g]
    by_cases g2 : x = 92
    · rw [if_pos g2]
      have he := jescape (o := o) (d := d) (c := c) (acc := acc) hs hr.tl.1 (by omega)
      have h3 := escL_len t
      have h4 := hr.tl.1.esc
      have h5 := @escL_four t
      generalize escL t = p at he h3 h4 h5 ⊢
      obtain ⟨q, r⟩ := p
      cases q with
      | none => exact .done (hb _ (by rw [if_neg g, if_pos g2]; exact ⟨_, he, by rw [if_neg (by simp [escR])]; rfl⟩))
      | some b =>
        have h6 := h5 rfl
        dsimp only at h3 h4 ⊢
        refine .next (hb _ (by rw [if_neg g, if_pos g2]; exact ⟨_, he, by rw [if_pos (show (escR s o d c acc (some b, r)).2.1 = true from rfl)]; rfl⟩)) (jstr_loop hs f r (acc ++ b) (by omega) h4 (by rw [List.length_append]; omega))
    rw [if_neg g2]
    have hc := jchar (o := o) (d := d) (c := c) (acc := acc) hs hr (by simp only [List.length_cons]; omega)
    by_cases g3 : x < 32
    · rw [if_pos g3]
      rw [if_pos g3] at hc
      exact .done (hb _ (by rw [if_neg g, if_neg g2]; exact ⟨_, hc, by rw [if_neg (by simp [chR])]; rfl⟩))
    rw [if_neg g3]
    rw [if_neg g3] at hc
    have h3 := charL_len (x :: t)
    have h4 := charL_rest hr
    generalize charL (x :: t) = p at hc h3 h4 ⊢
    obtain ⟨q, r⟩ := p
    cases q with
    | false => exact .done (hb _ (by rw [if_neg g, if_neg g2]; exact ⟨_, hc, by rw [if_neg (by simp [chR])]; rfl⟩))
    | true =>
      have h6 := h3.2 rfl
      simp only [List.length_cons] at h6
      dsimp only at h4 ⊢
      refine .next (hb _ (by rw [if_neg g, if_neg g2]; exact ⟨_, hc, by rw [if_pos (show (chR s o d c acc (x :: t) (true, r)).2.1 = true from rfl)]; rfl⟩)) (jstr_loop hs f r _ (by omega) h4 ?_)
      rw [List.length_append, List.length_take, List.length_cons]
      omega
theorem Rest.strQ {t : List Int} (h : Rest s t) : Rest s (strQ t).2 := by
  unfold L.strQ
  split
  · exact h.tail.str
  · exact h
theorem jstr {t : List Int} (hs : s.size ≤ 2 ^ 40) (hr : Rest s t) : jps_str (J s t o d c) (strR s o d c (strQ t)) := by
  unfold jps_str
  refine ⟨_, jtake hs (l := ⟨#[34]⟩) (L := [34]) rfl hr, ?_⟩
  unfold strQ
  have hlen := hr.1
  by_cases h : isL [34] t = true
  · rw [if_pos h, if_pos h, if_pos h]
    have := isL_tail h
    exact jstr_loop hs (t.length + 1) t.tail [] (by omega) hr.tail (by simp only [List.length_nil]; omega)
  · rw [if_neg h, if_neg h, if_neg h]
    rfl
end
end Go.Proofs.YtmfopcbjgbphaaaDoor.L
