/- JSON: what is printed is read again as it was. Condition: sizes. -/
import Derived.Test.YtmfopcbjgbphaaaDoorQ13
set_option linter.unusedVariables false
namespace Go.Proofs.YtmfopcbjgbphaaaDoor.L
open Go.Proofs.YtmfopcbjgbphaaaDoor.B Go.Proofs.YtmfopcbjgbphaaaDoor.R
abbrev numSet : List Int := [48, 49, 50, 51, 52, 53, 54, 55, 56, 57, 46, 101, 69, 43, 45]
def Stop (r : List Int) : Prop := isL numSet r = false
theorem Stop.no {l r : List Int} (h : Stop r) (hl : ∀ x ∈ l, x ∈ numSet) : isL l r = false := by
 cases r with
 | nil => rfl
 | cons x r =>
  rw [Bool.eq_false_iff]
  intro hx
  have := hl x (List.contains_iff_mem.1 hx)
  unfold Stop at h
  rw [isL_cons, List.contains_iff_mem.2 this] at h
  cases h
theorem isL_app {l t r : List Int} (h : isL l r = false ∨ t ≠ []) : isL l (t ++ r) = isL l t := by
 cases t with
 | nil =>
  rcases h with h | h
  ·rw [List.nil_append, h]; rfl
  ·exact absurd rfl h
 | cons x t => rfl
theorem tail_app {l t r : List Int} (h : isL l t = true) : (t ++ r).tail = t.tail ++ r := by
 obtain ⟨x, t', rfl, _⟩ := isL_ex h
 rfl
theorem skipL_app {l r : List Int} (h : isL l r = false) : ∀ t : List Int, skipL l (t ++ r) = skipL l t ++ r
 | [] => by
  cases r with
  | nil => rfl
  | cons x r =>
   rw [List.nil_append]
   unfold skipL
   rw [isL_cons] at h
   rw [h, if_neg (by simp)]
   rfl
 | x :: t => by
  rw [List.cons_append]
  unfold skipL
  by_cases g : l.contains x = true
  ·rw [if_pos g, if_pos g]; exact skipL_app h t
  ·rw [if_neg g, if_neg g]; rfl
section
variable {r : List Int}
theorem digL_app (h : Stop r) (t : List Int) : digL (t ++ r) = ((digL t).1, (digL t).2 ++ r) := by
 have h1 := h.no (l := digB) (by decide)
 unfold digL
 rw [isL_app (.inl h1)]
 by_cases g : isL digB t = true
 ·rw [if_pos g, if_pos g, skipL_app h1]
 ·rw [if_neg g, if_neg g]
theorem expL_app (h : Stop r) (t : List Int) : expL (t ++ r) = ((expL t).1, (expL t).2 ++ r) := by
 unfold expL
 rw [isL_app (.inl (h.no (by decide)))]
 by_cases g : isL [101, 69] t = true
 ·rw [if_pos g, if_pos g, tail_app g, isL_app (.inl (h.no (by decide)))]
  by_cases g2 : isL [43, 45] t.tail = true
  ·rw [if_pos g2, if_pos g2, tail_app g2]; exact digL_app h _
  ·rw [if_neg g2, if_neg g2]; exact digL_app h _
 ·rw [if_neg g, if_neg g]
theorem fracL_app (h : Stop r) (t : List Int) : fracL (t ++ r) = ((fracL t).1, (fracL t).2 ++ r) := by
 unfold fracL
 rw [isL_app (.inl (h.no (by decide)))]
 by_cases g : isL [46] t = true
 ·rw [if_pos g, if_pos g, tail_app g, isL_app (.inl (h.no (by decide)))]
  by_cases g2 : isL digB t.tail = true
  ·rw [if_pos g2, if_pos g2, digL_app h]; exact expL_app h _
  ·rw [if_neg g2, if_neg g2]
 ·rw [if_neg g, if_neg g]; exact expL_app h _
theorem intL_app (h : Stop r) (t : List Int) : intL (t ++ r) = ((intL t).1, (intL t).2 ++ r) := by
 unfold intL
 rw [isL_app (.inl (h.no (by decide)))]
 by_cases g : isL [48] t = true
 ·rw [if_pos g, if_pos g, tail_app g]; exact fracL_app h _
 ·rw [if_neg g, if_neg g, isL_app (.inl (h.no (by decide)))]
  by_cases g2 : isL digB t = true
  ·rw [if_pos g2, if_pos g2, digL_app h]; exact fracL_app h _
  ·rw [if_neg g2, if_neg g2]
theorem numL_app (h : Stop r) (t : List Int) : numL (t ++ r) = ((numL t).1, (numL t).2 ++ r) := by
 unfold numL
 rw [isL_app (.inl (h.no (by decide)))]
 by_cases g : isL [45] t = true
 ·rw [if_pos g, if_pos g, tail_app g]; exact intL_app h _
 ·rw [if_neg g, if_neg g]; exact intL_app h _
end
theorem rng_low {x : Int} (h : x < 128) : rng x = some [] := by unfold rng; rw [if_pos h]
theorem rng_high {x : Int} {l : List (Int × Int)} (h : rng x = some l) : x < 128 ∧ l = [] ∨ 128 ≤ x ∧ (∀ p ∈ l, 128 ≤ p.1) := by
 by_cases g : x < 128
 ·rw [rng_low g] at h
  injection h with h
  exact .inl ⟨g, h.symm⟩
 ·refine .inr ⟨by omega, ?_⟩
  unfold rng at h
  rw [if_neg g] at h
  repeat' split at h
  all_goals first | (cases h; done) | (injection h with h; subst h; intro p hp; simp only [List.mem_cons, List.not_mem_nil, or_false] at hp; rcases hp with rfl | rfl | rfl <;> decide) | (injection h with h; subst h; intro p hp; simp only [List.mem_cons, List.not_mem_nil, or_false] at hp; rcases hp with rfl | rfl <;> decide) | (injection h with h; subst h; intro p hp; simp only [List.mem_cons, List.not_mem_nil, or_false] at hp; rcases hp with rfl; decide)
theorem tailL_high : ∀ (l : List (Int × Int)) (t q : List Int), (∀ p ∈ l, 128 ≤ p.1) → tailL l t = (true, q) → ∃ u, t = u ++ q ∧ (∀ x ∈ u, 128 ≤ x) ∧ ∀ r, tailL l (u ++ r) = (true, r)
 | [], t, q, hl, h => by unfold tailL at h; injection h with _ h; exact ⟨[], h, fun x hx => (by cases hx), fun r => rfl⟩
 | p :: l, [], q, hl, h => by cases h
 | p :: l, y :: t, q, hl, h => by
  unfold tailL at h
  by_cases g : y < p.1 ∨ y > p.2
  ·rw [if_pos g] at h; cases h
  ·rw [if_neg g] at h
   obtain ⟨u, h1, h2, h3⟩ := tailL_high l t q (fun p hp => hl p (List.mem_cons_of_mem _ hp)) h
   have hp := hl p (List.mem_cons_self ..)
   refine ⟨y :: u, by rw [h1]; rfl, fun x hx => ?_, fun r => ?_⟩
   ·rcases List.mem_cons.1 hx with rfl | hx
    ·omega
    ·exact h2 x hx
   ·rw [List.cons_append]
    unfold tailL
    rw [if_neg g]
    exact h3 r
theorem escB_high : ∀ (u : List Int), (∀ x ∈ u, 128 ≤ x) → u.flatMap escB = u
 | [], _ => rfl
 | x :: u, h => by
  have hx := h x (List.mem_cons_self ..)
  rw [List.flatMap_cons, escB_high u fun y hy => h y (List.mem_cons_of_mem _ hy)]
  have : escB x = [x] := by
   unfold escB
   rw [if_neg (by omega), if_neg (by omega), if_neg (by omega), if_neg (by omega), if_neg (by omega), if_neg (by omega), if_neg (by omega), if_neg (by omega)]
  rw [this]
  rfl
theorem esc_back : ∀ n : Fin 128, (∃ x, escB (n.val : Int) = [x] ∧ x = (n.val : Int) ∧ 32 ≤ x ∧ x ≠ 34 ∧ x ≠ 92) ∨ (∃ y, escB (n.val : Int) = [92, y] ∧ saysL y = (n.val : Int) ∧ (n.val : Int) ≠ 0) ∨ (∃ a b, escB (n.val : Int) = [92, 117, 48, 48, a, b] ∧ a ∈ hexs ∧ b ∈ hexs ∧ 16 * hexV a + hexV b = (n.val : Int)) := by
 have H : ∀ n : Fin 128, (match escB (n.val : Int) with
  | [x] => decide (x = (n.val : Int)) && decide (32 ≤ x) && decide (x ≠ 34) && decide (x ≠ 92)
  | [c, y] => decide (c = 92) && decide (saysL y = (n.val : Int)) && decide ((n.val : Int) ≠ 0)
  | [c, d, e, f, a, b] => decide (c = 92) && decide (d = 117) && decide (e = 48) && decide (f = 48) && decide (a ∈ hexs) && decide (b ∈ hexs) && decide (16 * hexV a + hexV b = (n.val : Int))
  | _ => false) = true := by decide +kernel
 intro n
 have h := H n
 split at h
 ·rename_i x e
  simp only [Bool.and_eq_true, decide_eq_true_eq] at h
  exact .inl ⟨x, e, h.1.1.1, h.1.1.2, h.1.2, h.2⟩
 ·rename_i c y e
  simp only [Bool.and_eq_true, decide_eq_true_eq] at h
  exact .inr (.inl ⟨y, by rw [e, h.1.1], h.1.2, h.2⟩)
 ·rename_i c d e f a b e2
  simp only [Bool.and_eq_true, decide_eq_true_eq] at h
  exact .inr (.inr ⟨a, b, by rw [e2, h.1.1.1.1.1.1, h.1.1.1.1.1.2, h.1.1.1.1.2, h.1.1.1.2], h.1.1.2, h.1.2, h.2⟩)
 ·cases h
theorem digs_two {a b : Int} (ha : a ∈ hexs) (hb : b ∈ hexs) (r : List Int) : digsL [hexs, if isL [100, 68] (48 :: 48 :: a :: b :: r) = true then high2 else hexs, hexs, hexs] (48 :: 48 :: a :: b :: r) 0 = (some (16 * hexV a + hexV b), r) := by
 have hn : ¬ isL [100, 68] (48 :: 48 :: a :: b :: r) = true := by rw [isL_cons]; decide
 rw [if_neg hn]
 rw [digsL, if_pos (by decide), digsL, if_pos (by decide), digsL, if_pos (List.contains_iff_mem.2 ha), digsL, if_pos (List.contains_iff_mem.2 hb), digsL]
 have : hexV 48 = 0 := by decide
 rw [this]
 congr 2
 omega
theorem str_back : ∀ (f g : Nat) (t acc r : List Int), validL g t = true → t.length < g → (∀ x ∈ t, 0 ≤ x ∧ x ≤ 255) → (t.flatMap escB ++ 34 :: r).length < f → strL f (t.flatMap escB ++ 34 :: r) acc = (some (acc ++ t), r)
 | 0, g, t, acc, r, hv, hg, ht, hf => absurd hf (Nat.not_lt_zero _)
 | f + 1, 0, t, acc, r, hv, hg, ht, hf => absurd hg (Nat.not_lt_zero _)
 | f + 1, g + 1, [], acc, r, hv, hg, ht, hf => by
  rw [List.flatMap_nil, List.nil_append, List.append_nil]
  unfold strL
  rw [if_pos rfl]
 | f + 1, g + 1, x :: t, acc, r, hv, hg, ht, hf => by
  simp only [List.length_cons] at hg
  have hx := ht x (List.mem_cons_self ..)
  have htt : ∀ y ∈ t, 0 ≤ y ∧ y ≤ 255 := fun y hy => ht y (List.mem_cons_of_mem _ hy)
  rw [validL_cons] at hv
  cases hr : rng x with
  | none => rw [charL_none hr] at hv; cases hv
  | some l =>
   rw [charL_some hr] at hv
   rcases rng_high hr with ⟨h1, rfl⟩ | ⟨h1, h2⟩
   ·-- below 128
    have hv' : validL g t = true := hv
    rw [List.flatMap_cons, List.append_assoc] at hf ⊢
    have hb := esc_back ⟨x.toNat, by omega⟩
    have e : ((x.toNat : Nat) : Int) = x := by omega
    simp only [e] at hb
    rcases hb with ⟨y, e1, e2, e3, e4, e5⟩ | ⟨y, e1, e2, e3⟩ | ⟨a, b, e1, e2, e3, e4⟩
    ·rw [e1] at hf ⊢
     subst e2
     simp only [List.cons_append, List.nil_append, List.length_cons] at hf ⊢
     unfold strL
     rw [if_neg e4, if_neg e5, if_neg (by omega), charL_some hr]
     show strL f (t.flatMap escB ++ 34 :: r) (acc ++ (y :: (t.flatMap escB ++ 34 :: r)).take ((y :: (t.flatMap escB ++ 34 :: r)).length - (t.flatMap escB ++ 34 :: r).length)) = _
     rw [List.length_cons, Nat.add_sub_cancel_left, List.take_succ_cons, List.take_zero, str_back f g t _ r hv' (by omega) htt (by omega), List.append_assoc]
     rfl
    ·rw [e1] at hf ⊢
     simp only [List.cons_append, List.nil_append, List.length_cons] at hf ⊢
     unfold strL
     rw [if_neg (by decide), if_pos rfl, escL_cons, if_neg (by rw [e2]; exact e3), e2]
     dsimp only
     rw [str_back f g t _ r hv' (by omega) htt (by omega), List.append_assoc]
     rfl
    ·rw [e1] at hf ⊢
     simp only [List.cons_append, List.nil_append, List.length_cons] at hf ⊢
     unfold strL
     rw [if_neg (by decide), if_pos rfl, escL_cons, if_pos (by decide), if_pos rfl]
     unfold unitL
     rw [digs_two e2 e3]
     dsimp only
     rw [e4, if_neg (by omega)]
     dsimp only
     have eu : utf8L x = [x] := by unfold utf8L; rw [if_pos h1]
     rw [eu, str_back f g t _ r hv' (by omega) htt (by omega), List.append_assoc]
     rfl
   ·-- a character of several bytes
    cases h3 : tailL l t with
    | mk ok q =>
     rw [h3] at hv
     cases ok with
     | false => cases hv
     | true =>
      have hv' : validL g q = true := hv
      obtain ⟨u, e1, e2, e3⟩ := tailL_high l t q h2 h3
      have hq : q.length ≤ t.length := by rw [e1, List.length_append]; omega
      have hxu : ∀ y ∈ x :: u, 128 ≤ y := fun y hy => by
       rcases List.mem_cons.1 hy with rfl | hy
       ·exact h1
       ·exact e2 y hy
      have efm : (x :: t).flatMap escB = (x :: u) ++ q.flatMap escB := by
       rw [e1, show x :: (u ++ q) = (x :: u) ++ q from rfl, List.flatMap_append, escB_high _ hxu]
      rw [efm, List.append_assoc] at hf ⊢
      simp only [List.cons_append, List.length_cons, List.length_append] at hf ⊢
      unfold strL
      rw [if_neg (by omega), if_neg (by omega), if_neg (by omega), charL_some hr, e3]
      dsimp only
      have etake : (x :: (u ++ (q.flatMap escB ++ 34 :: r))).take ((x :: (u ++ (q.flatMap escB ++ 34 :: r))).length - (q.flatMap escB ++ 34 :: r).length) = x :: u := by
       have : (x :: (u ++ (q.flatMap escB ++ 34 :: r))).length - (q.flatMap escB ++ 34 :: r).length = (x :: u).length := by simp only [List.length_cons, List.length_append]; omega
       rw [this]
       exact List.take_left (l₁ := x :: u)
      rw [etake, str_back f g q _ r hv' (by omega) (fun y hy => htt y (by rw [e1]; exact List.mem_append_right _ hy)) (by simp only [List.length_append, List.length_cons]; omega), List.append_assoc, e1]
      rfl
theorem strQ_back {s : ByteArray} (hv : validB s = true) (r : List Int) : strQ (quoteL (bsOf s) ++ r) = (some (bsOf s), r) := by
 unfold quoteL strQ
 rw [List.cons_append, if_pos (by rfl), List.append_assoc]
 have := str_back (((34 : Int) :: ((bsOf s).flatMap escB ++ ([34] ++ r))).length + 1) (s.size + 1) (bsOf s) [] r hv (by rw [bsOf_len]; omega) (fun x hx => bsOf_bts s x hx) (by simp only [List.length_cons, List.length_append, List.length_nil]; omega)
 rw [List.nil_append] at this
 exact this
end Go.Proofs.YtmfopcbjgbphaaaDoor.L
