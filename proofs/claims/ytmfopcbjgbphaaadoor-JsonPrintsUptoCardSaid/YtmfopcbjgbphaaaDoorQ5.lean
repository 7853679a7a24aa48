/- JSON: the document's Shaped is the program's; the bound on nesting. Condition: sizes. -/
import Derived.Test.YtmfopcbjgbphaaaDoorQ4
set_option linter.unusedVariables false
namespace Go.Proofs.YtmfopcbjgbphaaaDoor.L
open Go.Proofs.YtmfopcbjgbphaaaDoor.B Go.Proofs.YtmfopcbjgbphaaaDoor.R
def Saf (N : Nat) : List api_JNode → Nat → Prop
 | _, 0 => True
 | [], _ + 1 => True
 | x :: xs, c + 1 => x.kids < 0 ∨ x.kids > (N : Int) ∨ (c + x.kids.toNat ≤ 2 ^ 60 ∧ Saf N xs (c + x.kids.toNat))
theorem Saf.of (N : Nat) : ∀ (l : List api_JNode) (c : Nat) {r : List api_JNode}, l.length ≤ 2 ^ 42 → beh l c = some r → Saf N l c
 | l, 0, r, hl, h => by cases l <;> trivial
 | [], c + 1, r, hl, h => trivial
 | x :: xs, c + 1, r, hl, h => by
  rw [beh_cons] at h
  by_cases g : x.kids < 0
  ·exact .inl g
  ·rw [if_neg g] at h
   have := beh_le xs _ h
   simp only [List.length_cons] at hl
   exact .inr (.inr ⟨by omega, Saf.of N xs _ (by omega) h⟩)
section
variable {v : List api_JNode}
theorem rbehind_ok (hl : v.length ≤ 2 ^ 42) : ∀ (m a c : Nat), v.length - a < m → a ≤ v.length → c ≤ 2 ^ 60 → Saf v.length (v.drop a) c →
  Rounds (fun (s : Int × Int) o => trellisref25_Behind_b1 v s.1 s.2 o) ((a : Int), (c : Int)) (rs v (beh (v.drop a) c))
 | 0, a, c, hm, ha, hc, hs => absurd hm (Nat.not_lt_zero _)
 | m + 1, a, 0, hm, ha, hc, hs => by
  refine .done ?_
  show trellisref25_Behind_b1 v _ _ _
  unfold trellisref25_Behind_b1
  rw [if_neg (by omega), beh_zero, rs_drop ha]
 | m + 1, a, c + 1, hm, ha, hc, hs => by
  by_cases hal : a < v.length
  ·rw [drop_ix hal] at hs ⊢
   have hno : beh (ix v (a : Int) :: v.drop (a + 1)) (c + 1) = none → trellisref25_Behind_j2 (a : Int) v ((c + 1 : Nat) : Int) true (.inr (rs v (beh (ix v (a : Int) :: v.drop (a + 1)) (c + 1)))) := fun h => by
    rw [h, rs_none]
    unfold trellisref25_Behind_j2
    rw [if_pos rfl]
   have hb1 : ∀ o, ((0 ≤ (a : Int) ∧ (a : Int) < (v.length : Int)) ∧ if (ix v (a : Int)).kids < 0 then trellisref25_Behind_j2 (a : Int) v ((c + 1 : Nat) : Int) true o else trellisref25_Behind_j2 (a : Int) v ((c + 1 : Nat) : Int) (decide ((ix v (a : Int)).kids > (v.length : Int))) o) → trellisref25_Behind_b1 v (a : Int) ((c + 1 : Nat) : Int) o := fun o h => by
    unfold trellisref25_Behind_b1
    rw [if_pos (by omega), if_neg (by omega)]
    exact h
   by_cases g : (ix v (a : Int)).kids < 0
   ·refine .done (hb1 _ ⟨by omega, ?_⟩)
    rw [if_pos g]
    exact hno (by rw [beh_cons, if_pos g])
   ·by_cases g2 : (ix v (a : Int)).kids > (v.length : Int)
    ·refine .done (hb1 _ ⟨by omega, ?_⟩)
     rw [if_neg g, decide_eq_true g2]
     refine hno ?_
     rw [beh_cons, if_neg g]
     cases e : beh (v.drop (a + 1)) (c + (ix v (a : Int)).kids.toNat) with
     | none => rfl
     | some r =>
      have := beh_le _ _ e
      rw [List.length_drop] at this
      omega
    ·obtain ⟨s1, s2⟩ : c + (ix v (a : Int)).kids.toNat ≤ 2 ^ 60 ∧ Saf v.length (v.drop (a + 1)) (c + (ix v (a : Int)).kids.toNat) := by
      rcases hs with h | h | h
      ·exact absurd h g
      ·exact absurd h g2
      ·exact h
     have ih := rbehind_ok hl m (a + 1) (c + (ix v (a : Int)).kids.toNat) (by omega) (by omega) s1 s2
     rw [beh_cons, if_neg g]
     refine .next (hb1 _ ⟨by omega, ?_⟩) ih
     rw [if_neg g, decide_eq_false g2]
     unfold trellisref25_Behind_j2
     rw [if_neg (by simp)]
     refine ⟨by omega, ?_⟩
     rw [w64_nat (by omega), w64_id (x := ((c + 1 : Nat) : Int) - 1) (by omega), w64_id (by omega)]
     have e1 : ((a + 1 : Nat) : Int) = (a : Int) + 1 := by omega
     have e2 : ((c + (ix v (a : Int)).kids.toNat : Nat) : Int) = ((c + 1 : Nat) : Int) - 1 + (ix v (a : Int)).kids := by omega
     rw [e1, e2]
  ·refine .done ?_
   show trellisref25_Behind_b1 v _ _ _
   unfold trellisref25_Behind_b1
   rw [if_pos (by omega), if_pos (by omega), List.drop_eq_nil_of_le (by omega), beh_nil, rs_none]
   unfold trellisref25_Behind_j2
   rw [if_pos rfl]
def At (v : List api_JNode) (a : Nat) (f : F) : Prop := Fit f ∧ a ≤ v.length ∧ ∃ r, v.drop a = flat f ++ r
theorem At.cons {a : Nat} {x : api_JNode} {k s : F} (h : At v a (.cons x k s)) : a < v.length ∧ ix v (a : Int) = x ∧ At v (a + 1) k ∧ At v (a + 1 + (flat k).length) s ∧ x.kids = (cnt k : Int) := by
 obtain ⟨⟨h1, h2, h3⟩, ha, r, h4⟩ := h
 have hl : a < v.length := by
  have := congrArg List.length h4
  simp only [flat, List.length_drop, List.length_append, List.length_cons] at this
  omega
 have h4' := h4
 rw [drop_ix hl] at h4
 simp only [flat, List.cons_append, List.append_assoc, List.cons.injEq] at h4
 have hlen := congrArg List.length h4.2
 simp only [List.length_drop, List.length_append] at hlen
 refine ⟨hl, h4.1, ⟨h2, by omega, _, h4.2⟩, ⟨h3, by omega, r, ?_⟩, h1⟩
 rw [← List.drop_drop, h4.2, List.drop_left]
theorem At.first {a : Nat} {x : api_JNode} {k s : F} (h : At v a (.cons x k s)) : At v a (.cons x k .nil) := by
 obtain ⟨⟨h1, h2, h3⟩, ha, r, h4⟩ := h
 exact ⟨⟨h1, h2, trivial⟩, ha, flat s ++ r, by rw [h4]; simp [flat]⟩
theorem rbehind_at (hl : v.length ≤ 2 ^ 42) {a : Nat} {x : api_JNode} {k s : F} (h : At v a (.cons x k s)) : trellisref25_Behind v (a : Int) ((a + 1 + (flat k).length : Nat) : Int) := by
 obtain ⟨h1, h2, h3, h4, h5⟩ := h.cons
 obtain ⟨hf, ha, r, e⟩ := h.first
 have hb : beh (v.drop a) 1 = some r := by
  have := beh_flat (.cons x k .nil) r 0 hf
  rw [← e, beh_zero] at this
  exact this
 have := rbehind_ok hl (v.length + 1) a 1 (by omega) ha (by omega) (Saf.of _ _ _ (by rw [List.length_drop]; omega) hb)
 rw [hb, rs_some] at this
 have hlen := congrArg List.length e
 simp only [flat, List.length_drop, List.length_append, List.length_cons, List.length_nil] at hlen
 rw [show v.length - r.length = a + 1 + (flat k).length by omega] at this
 exact this
def plcs : Nat → F → List Int
 | _, .nil => []
 | a, .cons x k s => (a : Int) :: plcs (a + 1 + (flat k).length) s
theorem plcs_len : ∀ (a : Nat) (f : F), (plcs a f).length = cnt f
 | _, .nil => rfl
 | a, .cons x k s => by simp only [plcs, List.length_cons, cnt]; rw [plcs_len]
theorem rkids_loop (hl : v.length ≤ 2 ^ 42) {p : Nat} {n : Nat} (hp : p < v.length) (hk : (ix v (p : Int)).kids = (n : Int)) (hn : n ≤ v.length) : ∀ (s : F) (a i : Nat) (out : List Int), At v a s → i + cnt s = n → out.length = i →
  Rounds (fun (s : (List Int) × Int × Int) o => trellisref25_kids_b1 (p : Int) v s.1 s.2.1 s.2.2 o) (out, (a : Int), (i : Int)) (out ++ plcs a s)
 | .nil, a, i, out, h, hi, ho => by
  refine .done ?_
  show trellisref25_kids_b1 (p : Int) v _ _ _ _
  unfold trellisref25_kids_b1
  refine ⟨by omega, ?_⟩
  simp only [cnt] at hi
  rw [if_neg (by dsimp only; rw [hk]; omega)]
  simp [plcs]
 | .cons x k s, a, i, out, h, hi, ho => by
  obtain ⟨h1, h2, h3, h4, h5⟩ := h.cons
  simp only [cnt] at hi
  have ih := rkids_loop hl hp hk hn s (a + 1 + (flat k).length) (i + 1) (out ++ [(a : Int)]) h4 (by omega) (by rw [List.length_append, ho]; rfl)
  rw [List.append_assoc, List.singleton_append] at ih
  refine .next ?_ ih
  show trellisref25_kids_b1 (p : Int) v _ _ _ _
  unfold trellisref25_kids_b1
  refine ⟨by omega, ?_⟩
  rw [if_pos (by dsimp only; rw [hk]; omega)]
  refine ⟨_, rfl, ?_, _, rbehind_at hl h, ?_⟩
  ·rw [List.length_append, ho, List.length_singleton]; omega
  ·rw [w64_nat (by omega)]; rfl
theorem rkids_ok (hl : v.length ≤ 2 ^ 42) {a : Nat} {x : api_JNode} {k s : F} (h : At v a (.cons x k s)) : trellisref25_kids v (a : Int) (plcs (a + 1) k) := by
 obtain ⟨h1, h2, h3, h4, h5⟩ := h.cons
 unfold trellisref25_kids
 have hn : cnt k ≤ v.length := by
  obtain ⟨_, _, r, e⟩ := h3
  have := congrArg List.length e
  have := cnt_le k
  simp only [List.length_drop, List.length_append] at *
  omega
 have := rkids_loop hl h1 (by rw [h2]; exact h5) hn k (a + 1) 0 [] h3 (by omega) rfl
 rw [w64_nat (by omega)]
 exact this
def insk (li ob : Bool) : List ByteArray → F → Nat → Bool
 | _, .nil, _ => true
 | pre, .cons x k s, d => (!li || decide (x.key = ⟨#[]⟩)) && (!ob || !inK x.key pre) && ins (.cons x k .nil) d && insk li ob (pre ++ [x.key]) s d
theorem insk_eq (li ob : Bool) : ∀ (k : F) (pre : List ByteArray) (d : Nat), insk li ob pre k d = ((!li || (keysF k).all (fun y => decide (y = ⟨#[]⟩))) && (!ob || (decide (keysF k).Nodup && (keysF k).all (fun y => !inK y pre))) && ins k d)
 | .nil, pre, d => by cases li <;> cases ob <;> rfl
 | .cons x k s, pre, d => by
  have key : (decide (keysF s).Nodup && (keysF s).all (fun y => !inK y (pre ++ [x.key]))) = (decide (keysF (.cons x k s)).Nodup && (keysF s).all (fun y => !inK y pre)) := by
   rw [Bool.eq_iff_iff, Bool.and_eq_true, Bool.and_eq_true, decide_eq_true_iff, decide_eq_true_iff, List.all_eq_true, List.all_eq_true, show keysF (.cons x k s) = x.key :: keysF s from rfl, List.nodup_cons]
   constructor
   ·rintro ⟨h1, h2⟩
    have h3 : ∀ y ∈ keysF s, y ∉ pre ++ [x.key] := fun y hy => inK_no.1 (by simpa using h2 y hy)
    exact ⟨⟨fun hm => h3 _ hm (by simp), h1⟩, fun y hy => by rw [inK_no.2 (fun hm => h3 y hy (List.mem_append_left _ hm))]; rfl⟩
   ·rintro ⟨⟨h1, h2⟩, h3⟩
    refine ⟨h2, fun y hy => ?_⟩
    rw [inK_no.2 (fun hm => ?_)]
    ·rfl
    ·rcases List.mem_append.1 hm with hm | hm
     ·exact inK_no.1 (by simpa using h3 y hy) hm
     ·rw [List.mem_singleton] at hm; exact h1 (hm ▸ hy)
  have e1 : ins (.cons x k s) d = (ins (.cons x k .nil) d && ins s d) := by
   show (_ && ins s d) = (_ && ins .nil d && ins s d)
   rw [show ins .nil d = true from rfl, Bool.and_true]
  rw [insk, insk_eq li ob s (pre ++ [x.key]) d, e1, key]
  have e2 : (decide (keysF (.cons x k s)).Nodup && (keysF (.cons x k s)).all fun y => !inK y pre) = (decide (keysF (.cons x k s)).Nodup && (!inK x.key pre && (keysF s).all fun y => !inK y pre)) := by rw [show keysF (.cons x k s) = x.key :: keysF s from rfl, List.all_cons]
  rw [e2, show ((keysF (.cons x k s)).all fun y => decide (y = ⟨#[]⟩)) = (decide (x.key = ⟨#[]⟩) && (keysF s).all fun y => decide (y = ⟨#[]⟩)) from rfl]
  generalize decide (keysF (.cons x k s)).Nodup = a
  generalize ((keysF s).all fun y => !inK y pre) = b
  generalize inK x.key pre = c
  generalize decide (x.key = ⟨#[]⟩) = e
  generalize ((keysF s).all fun y => decide (y = ⟨#[]⟩)) = f
  generalize ins (.cons x k .nil) d = g
  generalize ins s d = h
  cases li <;> cases ob <;> cases a <;> cases b <;> cases c <;> cases e <;> cases f <;> cases g <;> cases h <;> rfl
theorem ix_app {α : Type} [Inhabited α] (a : List α) (x : α) (b : List α) : ix (a ++ x :: b) (a.length : Int) = x := by
 unfold ix
 rw [Int.toNat_natCast, List.getD_eq_getElem?_getD, List.getElem?_append_right (Nat.le_refl _), Nat.sub_self]
 rfl
theorem rins_loop (hl : v.length ≤ 2 ^ 42) {n p d : Nat} (hp : p < v.length) (hd : d < 64) {P : List Int} (hP : P.length ≤ v.length)
  (hpl : ∀ j (h : j < P.length), ∃ q : Nat, P[j] = (q : Int) ∧ q < v.length)
  (hrc : ∀ (b : Nat) (x : api_JNode) (k s : F), p < b → At v b (.cons x k s) → trellisref25_inside_n n v (b : Int) ((d + 1 : Nat) : Int) (ins (.cons x k .nil) (d + 1))) :
  ∀ (s : F) (a : Nat) (done : List Int), p < a → At v a s → P = done ++ plcs a s →
  Rounds (fun (s : Int) o => trellisref25_inside_b3 P (p : Int) v (trellisref25_inside_n n) (d : Int) s o) (done.length : Int) (insk (decide ((ix v (p : Int)).kind = 6)) (decide ((ix v (p : Int)).kind = 7)) (done.map fun q => (ix v q).key) s (d + 1))
 | .nil, a, done, hpa, h, hs => by
  refine .done ?_
  show trellisref25_inside_b3 _ _ _ _ _ _ _
  unfold trellisref25_inside_b3
  rw [if_neg (by rw [hs]; simp [plcs])]
  rfl
 | .cons x k s, a, done, hpa, h, hs => by
  obtain ⟨h1, h2, h3, h4, h5⟩ := h.cons
  have ih := rins_loop hl hp hd hP hpl hrc s (a + 1 + (flat k).length) (done ++ [(a : Int)]) (by omega) h4 (by rw [hs]; simp [plcs])
  have hix : ix P (done.length : Int) = (a : Int) := by rw [hs]; exact ix_app _ _ _
  have hlen : done.length < P.length := by rw [hs, List.length_append]; simp only [plcs, List.length_cons]; omega
  have hr := hrc a x k s hpa h
  rw [List.length_append, List.map_append, List.length_singleton] at ih
  rw [insk]
  simp only [List.map_cons, List.map_nil, h2] at ih
  have main : ∀ (R : Bool) (o : Sum Int Bool), R = (!decide ((ix v (p : Int)).kind = 7) || !inK x.key (done.map fun q => (ix v q).key)) → (o = if R = true then (if ins (.cons x k .nil) (d + 1) = true then .inl ((done.length + 1 : Nat) : Int) else .inr false) else .inr false) → trellisref25_inside_j4 (done.length : Int) (p : Int) v P (trellisref25_inside_n n) (d : Int) false o := by
   intro R o hR ho
   unfold trellisref25_inside_j4
   rw [if_neg (by simp)]
   have hend : trellisref25_inside_b5 (done.length : Int) (p : Int) v P (trellisref25_inside_n n) (d : Int) (done.length : Int) (.inr (if ins (.cons x k .nil) (d + 1) = true then .inl ((done.length + 1 : Nat) : Int) else .inr false)) := by
    unfold trellisref25_inside_b5
    rw [if_neg (by omega)]
    refine ⟨by omega, ?_⟩
    rw [hix, w64_nat (by omega)]
    refine ⟨_, hr, ?_⟩
    by_cases g : ins (.cons x k .nil) (d + 1) = true
    ·rw [if_pos g, if_pos g, w64_nat (by omega)]; rfl
    ·rw [if_neg g, if_neg g]
   have all := Rounds.allThen (B := fun (s : Int) o => trellisref25_inside_b5 (done.length : Int) (p : Int) v P (trellisref25_inside_n n) (d : Int) s o) done (fun q => !decide ((ix v (p : Int)).kind = 7) || !decide (x.key = (ix v q).key)) (r := if ins (.cons x k .nil) (d + 1) = true then .inl ((done.length + 1 : Nat) : Int) else .inr false) (f := .inr false) (fun i hi hpi => ?_) (fun i hi hpi => ?_) (fun _ => hend)
   ·have e : (done.all fun q => !decide ((ix v (p : Int)).kind = 7) || !decide (x.key = (ix v q).key)) = R := by
     rw [hR]
     unfold inK
     rw [List.any_map]
     generalize decide ((ix v (p : Int)).kind = 7) = b
     cases b with
     | false => simp
     | true =>
      simp only [Bool.not_true, Bool.false_or]
      rw [List.not_any_eq_all_not]
      rfl
    rw [e] at all
    rw [ho]
    exact all
   all_goals
    have hi' : i < P.length := by omega
    have hPi : ix P (i : Int) = done[i] := by
     rw [ix_nat hi']
     simp only [hs, List.getElem_append_left hi]
    obtain ⟨q, hq1, hq2⟩ := hpl i hi'
    have hPq : ix P (i : Int) = (q : Int) := by rw [ix_nat hi']; exact hq1
    unfold trellisref25_inside_b5
    rw [if_pos (by omega)]
    refine ⟨by omega, ?_⟩
    by_cases g7 : (ix v (p : Int)).kind = 7
    ·rw [if_pos g7]
     refine ⟨by omega, by rw [hPq]; omega, by omega, by rw [hix]; omega, ?_⟩
     rw [hix, h2, hPi]
     simp only [g7, decide_true, Bool.not_true, Bool.false_or, Bool.not_eq_true', Bool.not_eq_false', decide_eq_true_eq, decide_eq_false_iff_not] at hpi
     first
     | rw [if_neg (fun e => hpi e.symm), w64_nat (by omega)]
     | rw [if_pos hpi.symm]
    ·rw [if_neg g7]
     first
     | (rw [decide_eq_false g7] at hpi; simp at hpi; done)
     | rw [w64_nat (by omega)]
  have hb3 : ∀ o, (if (ix v (p : Int)).kind = 6 then trellisref25_inside_j4 (done.length : Int) (p : Int) v P (trellisref25_inside_n n) (d : Int) (!(decide (x.key = ⟨#[]⟩))) o else trellisref25_inside_j4 (done.length : Int) (p : Int) v P (trellisref25_inside_n n) (d : Int) false o) → trellisref25_inside_b3 P (p : Int) v (trellisref25_inside_n n) (d : Int) (done.length : Int) o := fun o ho => by
   unfold trellisref25_inside_b3
   rw [if_pos (by omega)]
   refine ⟨by omega, ?_⟩
   by_cases g6 : (ix v (p : Int)).kind = 6
   ·rw [if_pos g6] at ho ⊢
    refine ⟨by omega, by rw [hix]; omega, ?_⟩
    rw [hix, h2, seqd]
    exact ho
   ·rw [if_neg g6] at ho ⊢
    exact ho
  by_cases c1 : (!decide ((ix v (p : Int)).kind = 6) || decide (x.key = ⟨#[]⟩)) = true
  ·rw [c1, Bool.true_and]
   have hb : ∀ o, trellisref25_inside_j4 (done.length : Int) (p : Int) v P (trellisref25_inside_n n) (d : Int) false o → trellisref25_inside_b3 P (p : Int) v (trellisref25_inside_n n) (d : Int) (done.length : Int) o := fun o ho => by
    refine hb3 o ?_
    by_cases g6 : (ix v (p : Int)).kind = 6
    ·rw [if_pos g6]
     rw [decide_eq_true g6, Bool.not_true, Bool.false_or] at c1
     rw [c1]
     exact ho
    ·rw [if_neg g6]; exact ho
   cases c2 : (!decide ((ix v (p : Int)).kind = 7) || !inK x.key (done.map fun q => (ix v q).key)) with
   | true =>
    rw [Bool.true_and]
    cases c3 : ins (.cons x k .nil) (d + 1) with
    | true => exact .next (hb _ (main true _ c2.symm (by rw [if_pos rfl, if_pos c3]))) ih
    | false => exact .done (hb _ (main true _ c2.symm (by rw [if_pos rfl, if_neg (by rw [c3]; simp)]; rfl)))
   | false => exact .done (hb _ (main false _ c2.symm (by rw [if_neg (by simp)]; rfl)))
  ·rw [Bool.not_eq_true] at c1
   rw [c1]
   refine .done (hb3 _ ?_)
   rw [Bool.or_eq_false_iff] at c1
   have g6 : (ix v (p : Int)).kind = 6 := by simpa using c1.1
   rw [if_pos g6, c1.2]
   unfold trellisref25_inside_j4
   rw [if_pos (show (!false) = true from rfl)]
   rfl
theorem plcs_lt : ∀ (f : F) (a : Nat), At v a f → ∀ j (h : j < (plcs a f).length), ∃ q : Nat, (plcs a f)[j] = (q : Int) ∧ q < v.length
 | .nil, a, h, j, hj => by simp [plcs] at hj
 | .cons x k s, a, h, 0, hj => ⟨a, rfl, h.cons.1⟩
 | .cons x k s, a, h, j + 1, hj => by
  simp only [plcs, List.length_cons] at hj
  obtain ⟨q, h1, h2⟩ := plcs_lt s _ h.cons.2.2.2.1 j (by omega)
  exact ⟨q, by simpa [plcs] using h1, h2⟩
theorem rins_ok (hl : v.length ≤ 2 ^ 42) (hal : ∀ x ∈ v, sndB x = true) : ∀ (n a d : Nat) (x : api_JNode) (k s : F), v.length - a < n → d ≤ 64 → At v a (.cons x k s) → trellisref25_inside_n n v (a : Int) (d : Int) (ins (.cons x k .nil) d)
 | 0, a, d, x, k, s, hn, hd, h => absurd hn (Nat.not_lt_zero _)
 | n + 1, a, d, x, k, s, hn, hd, h => by
  obtain ⟨h1, h2, h3, h4, h5⟩ := h.cons
  show trellisref25_inside_body (trellisref25_inside_n n) v (a : Int) (d : Int) _
  unfold trellisref25_inside_body
  refine ⟨by omega, ?_⟩
  rw [h2]
  have hsx : sndB x = true := hal x (by rw [← h2, ix_nat h1]; exact List.getElem_mem _)
  have e0 : ins (.cons x k .nil) d = ((!isMany x || decide (d < 64)) && insk (decide (x.kind = 6)) (decide (x.kind = 7)) [] k (d + 1)) := by
   rw [insk_eq]
   have : ((keysF k).all fun y => !inK y []) = true := List.all_eq_true.2 fun y _ => rfl
   rw [this]
   show ((!isMany x || decide (d < 64)) && (!decide (x.kind = 6) || (keysF k).all (fun y => decide (y = ⟨#[]⟩))) && (!isObj x || decide (keysF k).Nodup) && ins k (d + 1) && true) = _
   simp only [Bool.and_true, Bool.and_assoc]
  have j2 : ∀ b : Bool, b = (isMany x && !decide (d < 64)) → trellisref25_inside_j2 v (a : Int) (trellisref25_inside_n n) (d : Int) b (ins (.cons x k .nil) d) := by
   intro b hb
   unfold trellisref25_inside_j2
   rw [e0]
   cases b with
   | true =>
    rw [if_pos rfl]
    symm at hb
    rw [Bool.and_eq_true] at hb
    rw [hb.1]
    have : decide (d < 64) = false := by simpa using hb.2
    rw [this]; rfl
   | false =>
    rw [if_neg (by simp)]
    have hb' : (!isMany x || decide (d < 64)) = true := by
     revert hb
     cases isMany x <;> cases decide (d < 64) <;> simp
    rw [hb', Bool.true_and]
    refine ⟨_, rkids_ok hl h, ?_⟩
    by_cases hd2 : d < 64
    ·have hP : (plcs (a + 1) k).length ≤ v.length := by
      rw [plcs_len]
      obtain ⟨_, _, r, e⟩ := h3
      have := congrArg List.length e
      have := cnt_le k
      simp only [List.length_drop, List.length_append] at *
      omega
     have := rins_loop hl h1 hd2 hP (plcs_lt k _ h3) (fun b x k s hb hat => rins_ok hl hal n b (d + 1) x k s (by omega) (by omega) hat) k (a + 1) [] (by omega) h3 rfl
     rw [h2] at this
     exact this
    ·have hm : isMany x = false := by
      rw [decide_eq_false hd2, Bool.or_false] at hb'
      simpa using hb'
     have hc := (snd_kids hsx).2 hm
     obtain rfl : k = .nil := cnt_nil (by omega)
     refine .done ?_
     show trellisref25_inside_b3 _ _ _ _ _ _ _
     unfold trellisref25_inside_b3
     rw [if_neg (by simp [plcs])]
     rfl
  have hdec : decide ((d : Int) ≥ 64) = !decide (d < 64) := by
   by_cases g : d < 64
   ·rw [decide_eq_true g, decide_eq_false (by omega)]; rfl
   ·rw [decide_eq_false g, decide_eq_true (by omega)]; rfl
  by_cases h6 : x.kind = 6
  ·rw [if_pos h6]
   unfold trellisref25_inside_j1
   rw [if_pos rfl, hdec]
   exact j2 _ (by rw [isMany, decide_eq_true h6]; rfl)
  rw [if_neg h6]
  unfold trellisref25_inside_j1
  by_cases h7 : x.kind = 7
  ·rw [show (x.kind == 7) = true by rw [h7]; rfl, if_pos rfl, hdec]
   exact j2 _ (by rw [isMany, decide_eq_true h7, Bool.or_true]; rfl)
  ·rw [show (x.kind == 7) = false from beq_eq_false_iff_ne.2 h7, if_neg (by simp)]
   exact j2 _ (by rw [isMany, decide_eq_false h6, decide_eq_false h7]; rfl)
theorem At.whole {x : api_JNode} {k : F} (hf : Fit (.cons x k .nil)) (hv : v = flat (.cons x k .nil)) : At v 0 (.cons x k .nil) := ⟨hf, Nat.zero_le _, [], by rw [List.drop_zero, List.append_nil]; exact hv⟩
theorem rshaped_ok (hv : Sz v) (hs : Saf v.length v 1) : trellisref25_Shaped v (shaped v) := by
 unfold trellisref25_Shaped
 have no : ∀ b, b = false → trellisref25_Shaped_j1 v true b := fun b hb => by
  unfold trellisref25_Shaped_j1
  rw [if_pos rfl]
  exact hb
 by_cases h0 : v = []
 ·subst h0
  rw [if_pos (by simp)]
  exact no _ rfl
 have hpos : 0 < v.length := List.length_pos_iff.2 h0
 rw [if_neg (by omega)]
 refine ⟨_, rbehind_ok hv.1 (v.length + 1) 0 1 (by omega) (by omega) (by omega) (by rw [List.drop_zero]; exact hs), ?_⟩
 rw [List.drop_zero]
 have hbn : beh v 1 ≠ some [] → shaped v = false := fun h => by
  rw [Bool.eq_false_iff]
  intro hsh
  obtain ⟨x, k, f1, f2, f3⟩ := shaped_iff.1 hsh
  apply h
  have := beh_flat (.cons x k .nil) [] 0 f1
  rw [List.append_nil, ← f2] at this
  exact this
 by_cases hb : beh v 1 = some []
 ·rw [hb, rs_some, if_pos (by simp)]
  refine ⟨by omega, ?_⟩
  rw [seqd]
  obtain ⟨f, f1, f2, f3⟩ := beh_ok hb
  rw [List.append_nil] at f3
  cases f with
  | nil => cases f2
  | cons x k s =>
   obtain rfl : s = .nil := cnt_nil (by simp only [cnt] at f2; omega)
   have hat := At.whole f1 f3
   have hx : ix v (0 : Int) = x := hat.cons.2.1
   have hsh : shaped v = (v.all sndB && decide (x.key = ⟨#[]⟩) && ins (.cons x k .nil) 0) := by
    have e : good sndB (.cons x k .nil) 0 false = (v.all sndB && decide (x.key = ⟨#[]⟩) && ins (.cons x k .nil) 0) := by
     rw [good_ins (fun _ => snd_kids) _ _ _ f1, ← f3]
     simp [keysF]
    rw [← e, Bool.eq_iff_iff, shaped_iff]
    constructor
    ·rintro ⟨x', k', g1, g2, g3⟩
     obtain ⟨e1, _⟩ := fit_uniq _ _ [] [] f1 g1 rfl (by rw [List.append_nil, List.append_nil, ← f3, ← g2])
     rw [e1]; exact g3
    ·exact fun h => ⟨x, k, f1, f3, h⟩
   rw [hx]
   by_cases hk : x.key = ⟨#[]⟩
   ·rw [decide_eq_true hk]
    unfold trellisref25_Shaped_j1
    rw [if_neg (by simp), hsh, decide_eq_true hk, Bool.and_true]
    have := Rounds.allThen (B := fun (s : Int) o => trellisref25_Shaped_b2 v s o) v sndB (r := ins (.cons x k .nil) 0) (f := false) (fun i hi hp => ?_) (fun i hi hp => ?_) (fun hall => ?_)
    ·have e2 : (v.all sndB && ins (.cons x k .nil) 0) = if v.all sndB = true then ins (.cons x k .nil) 0 else false := by cases v.all sndB <;> rfl
     rw [e2]
     exact this
    ·unfold trellisref25_Shaped_b2
     have hz := hv.2 v[i] (List.getElem_mem _)
     have hl := hv.1
     rw [if_pos (by omega)]
     refine ⟨by omega, ?_⟩
     rw [ix_nat hi]
     refine ⟨_, ralone_ok hz.1 hz.2, ?_⟩
     rw [if_pos hp, w64_nat (by omega)]
    ·unfold trellisref25_Shaped_b2
     have hz := hv.2 v[i] (List.getElem_mem _)
     have hl := hv.1
     rw [if_pos (by omega)]
     refine ⟨by omega, ?_⟩
     rw [ix_nat hi]
     refine ⟨_, ralone_ok hz.1 hz.2, ?_⟩
     rw [if_neg (by rw [hp]; simp)]
    ·unfold trellisref25_Shaped_b2
     rw [if_neg (by omega)]
     exact ⟨_, ⟨v.length + 1, rins_ok hv.1 (List.all_eq_true.1 hall) _ 0 0 x k .nil (by omega) (by omega) hat⟩, rfl⟩
   ·rw [decide_eq_false hk]
    exact no _ (by rw [hsh, decide_eq_false hk]; simp)
 ·have hne : ¬ rs v (beh v 1) = (v.length : Int) := by
   cases e : beh v 1 with
   | none => rw [rs_none]; omega
   | some r =>
    rw [rs_some]
    cases r with
    | nil => exact absurd e hb
    | cons y r => simp only [List.length_cons]; omega
  rw [if_neg hne]
  exact no _ (hbn hb)
end
end Go.Proofs.YtmfopcbjgbphaaaDoor.L
