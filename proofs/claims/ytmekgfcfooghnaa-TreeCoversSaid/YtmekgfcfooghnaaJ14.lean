/- The law TreeGrows. Conditions: sizes, numbers are ints. -/
import Derived.Test.YtmekgfcfooghnaaJ13
import Derived.Test.YtmekgfcfooghnaaB5
set_option linter.unusedVariables false
namespace Go.Proofs.Ytmekgfcfooghnaa.L
open Go.Proofs.Ytmekgfcfooghnaa.B Go.Proofs.Ytmekgfcfooghnaa.R
theorem pre_at {s : ByteArray} (h : pre95 s = true) : ¬ s = (⟨#[]⟩ : ByteArray) ∧ 0 < s.size ∧ bt s 0 = 95 := by
 unfold pre95 at h
 rw [Bool.and_eq_true, decide_eq_true_eq] at h
 obtain ⟨h1, h2⟩ := h
 rw [seq_dec, decide_eq_true_eq] at h2
 refine ⟨fun g => (by subst g; exact absurd h1 (by decide)), by omega, ?_⟩
 have h3 := congrArg bsOf h2
 rw [bsOf_extract, List.drop_zero] at h3
 have e : bsOf (⟨#[95]⟩ : ByteArray) = [95] := by decide
 rw [e] at h3
 have hl : (bsOf s).length = s.size := bsOf_len s
 have := bt_ix (s := s) (i := 0) (by omega)
 rw [show ((0 : Nat) : Int) = 0 from rfl] at this
 rw [this]
 have h4 : ((bsOf s).take 1)[0]? = some 95 := by rw [h3]; rfl
 rw [List.getElem?_take_of_lt (by omega), List.getElem?_eq_getElem (by omega)] at h4
 injection h4
theorem root_key {t : List api_Node} (hn : Nice (keys t)) {S : List (Tre × Nat)} (h : sf t 0 = some S) : S.length = (gr (keys t)).length ∧ ∀ j (hj : j < (gr (keys t)).length), key (ix t (en 0 (S.take j) : Int)) = (gr (keys t))[j] := by
 obtain ⟨S', s1, s2⟩ := sfN t hn 0
 rw [h] at s1
 injection s1 with s1
 subst s1
 have hlen : S.length = (gr (keys t)).length := by rw [← s2, List.length_map]
 refine ⟨hlen, fun j hj => ?_⟩
 have hA : At t 0 S := ⟨Nat.zero_le _, h⟩
 have e3 : (gr (keys t))[j] = key S[j].1.node := by
  have : (gr (keys t))[j] = (S.map (fun y => key y.1.node))[j]'(by rw [List.length_map]; omega) := by congr 1; exact s2.symm
  rw [this, List.getElem_map]
 rw [e3]
 exact ((row_at hn (hA.nth (j := j) (by omega)).1).1).symm
theorem nested_kids {t : List api_Node} (hl : Fits t) (hw : Wf t) (hn : Nice (keys t)) {S : List (Tre × Nat)} (h : sf t 0 = some S) {a : Nat} (ha : a < t.length) (last : Int) : trellislaw15_nested_j2 t (a : Int) last (.inl (last, ((a + 1 : Nat) : Int))) := by
 obtain ⟨k1, k2, k3⟩ := kids_row hl hn h ha
 unfold trellislaw15_nested_j2
 refine ⟨_, Kids_ok hl hw _, ?_⟩
 rw [if_pos k1]
 generalize hK : kidsF t (a : Int) = K at *
 have hlen : K.length ≤ t.length := by
  rw [← hK]
  unfold kidsF
  split
  ·rename_i g
   rw [List.length_map]
   exact kids_len g
  ·exact Nat.zero_le _
 refine Rounds.cnt K.length (fun i hi => ?_) ?_
 ·have g : 0 < (K.map fun k => key (ix t k)).length := by rw [List.length_map]; omega
  obtain ⟨q1, q2, q3⟩ := k2 g
  have hm : K[i] ∈ K := List.getElem_mem hi
  obtain ⟨m1, m2, m3⟩ := k3 _ hm
  have ei : ix K (i : Int) = K[i] := ix_nat hi
  have F0 : (i : Int) = 0 → (ix t (ix K (i : Int))).from_ = (ix t (a : Int)).from_ := fun c => by
   obtain rfl : i = 0 := by omega
   rw [List.getElem_map] at q2
   rw [ei]; exact q2
  have FL : (i : Int) = w64 ((K.length : Int) - 1) → (ix t (ix K (i : Int))).to = (ix t (a : Int)).to := fun c => by
   rw [w64_id (by omega)] at c
   obtain rfl : i = K.length - 1 := by omega
   rw [List.getElem_map] at q3
   simp only [List.length_map] at q3
   rw [ei]; exact q3
  have FP : (i : Int) > 0 → (0 ≤ w64 ((i : Int) - 1) ∧ w64 ((i : Int) - 1) < (K.length : Int)) ∧ (0 ≤ ix K (w64 ((i : Int) - 1)) ∧ ix K (w64 ((i : Int) - 1)) < (t.length : Int)) ∧ ¬ (ix t (ix K (w64 ((i : Int) - 1)))).to > (ix t (ix K (i : Int))).from_ := fun c => by
   rw [w64_id (by omega), show (i : Int) - 1 = ((i - 1 : Nat) : Int) by omega, ix_nat (by omega : i - 1 < K.length), ei]
   obtain ⟨p1, p2, _⟩ := k3 _ (List.getElem_mem (by omega : i - 1 < K.length))
   refine ⟨by omega, ⟨p1, p2⟩, ?_⟩
   have := (q1.nth (i - 1) (by rw [List.length_map]; omega)).2.2.2 i (by rw [List.length_map]; omega) (by omega)
   rw [List.getElem_map, List.getElem_map] at this
   have h2 : (ix t K[i - 1]).to ≤ (ix t K[i]).from_ := this
   omega
  unfold trellislaw15_nested_b3
  rw [if_pos (by omega)]
  refine ⟨by omega, by rw [ei]; exact ⟨m1, m2⟩, _, Parent_ok hl hw _, ?_⟩
  rw [ei, m3, if_pos rfl, ← ei, w64_nat (by omega)]
  by_cases c0 : (i : Int) = 0
  ·rw [if_pos c0, if_pos (F0 c0)]
   by_cases cl : (i : Int) = w64 ((K.length : Int) - 1)
   ·rw [if_pos cl, if_pos (FL cl), if_neg (by omega)]
   ·rw [if_neg cl, if_neg (by omega)]
  ·obtain ⟨f1, f2, f3⟩ := FP (by omega)
   rw [if_neg c0]
   by_cases cl : (i : Int) = w64 ((K.length : Int) - 1)
   ·rw [if_pos cl, if_pos (FL cl), if_pos (by omega)]
    exact ⟨f1, f2, by rw [if_neg f3]⟩
   ·rw [if_neg cl, if_pos (by omega)]
    exact ⟨f1, f2, by rw [if_neg f3]⟩
 ·unfold trellislaw15_nested_b3
  rw [if_neg (by omega), w64_nat (by omega)]
  rfl
theorem nested_ok {t : List api_Node} (hl : Fits t) (hw : Wf t) (hn : Nice (keys t)) {lo hi : Int} (hs : Span lo hi (gr (keys t))) : trellislaw15_nested t true := by
 obtain ⟨S, h, _, _, _, _⟩ := roots_key hn
 obtain ⟨hlen, hk⟩ := root_key hn h
 have hA : At t 0 S := ⟨Nat.zero_le _, h⟩
 unfold trellislaw15_nested
 refine Rounds.to (fun s : Int × Int => ∃ a : Nat, s.2 = (a : Int) ∧ a ≤ t.length ∧ s.1 = if rcnt t a = 0 then -1 else (en 0 (S.take (rcnt t a - 1)) : Int)) (fun s => t.length - s.2.toNat) (fun s hs2 => ?_) ⟨0, rfl, Nat.zero_le _, rfl⟩
 obtain ⟨last, _⟩ := s
 obtain ⟨a, rfl, ha, hlast⟩ := hs2
 dsimp only at hlast
 simp only [Int.toNat_natCast]
 by_cases hlt : a < t.length
 ·right
  obtain ⟨r', hr⟩ := At.sub h hlt
  have hr : At t a (((sub t a).1, (sub t a).2) :: r') := hr
  obtain ⟨_, q2, _⟩ := row_at hn hr
  have nk := nested_kids hl hw hn h hlt
  by_cases g : parF t (a : Int) = -1
  ·obtain ⟨j, hj, ej⟩ := (root_iff hl h hlt).1 g
   have hrc : rcnt t a = j := rcnt_at hl h a j (by omega) (by omega) (by omega) (fun j' hj' => by rw [← ej]; exact en_lt hA (by omega) (by omega))
   refine ⟨((a : Int), ((a + 1 : Nat) : Int)), ?_, ⟨a + 1, rfl, hlt, ?_⟩, by simp only [Int.toNat_natCast]; omega⟩
   ·show trellislaw15_nested_b1 t last (a : Int) _
    unfold trellislaw15_nested_b1
    rw [if_pos (by omega)]
    refine ⟨by omega, ?_⟩
    rw [if_neg (by omega)]
    refine ⟨_, Parent_ok hl hw _, ?_⟩
    rw [if_pos g]
    rw [hrc] at hlast
    by_cases gj : j = 0
    ·rw [if_pos gj] at hlast
     rw [if_neg (by omega)]
     exact nk _
    ·rw [if_neg gj] at hlast
     have h1 := hk (j - 1) (by omega)
     have h2 := hk j (by omega)
     have h3 := (hs.nth (j - 1) (by omega)).2.2.2 j (by omega) (by omega)
     rw [← h1, ← h2, ej] at h3
     have h4 : (ix t (en 0 (S.take (j - 1)) : Int)).to ≤ (ix t (a : Int)).from_ := h3
     have h5 := en_lt hA (j := j - 1) (k := j) (by omega) (by omega)
     rw [if_pos (by omega)]
     refine ⟨by omega, ?_⟩
     rw [if_neg (by rw [hlast]; omega)]
     exact nk _
   ·show (a : Int) = _
    rw [rcnt_succ, if_pos g, hrc, if_neg (by omega), Nat.add_sub_cancel, ej]
  ·refine ⟨(last, ((a + 1 : Nat) : Int)), ?_, ⟨a + 1, rfl, hlt, ?_⟩, by simp only [Int.toNat_natCast]; omega⟩
   ·show trellislaw15_nested_b1 t last (a : Int) _
    unfold trellislaw15_nested_b1
    rw [if_pos (by omega)]
    refine ⟨by omega, ?_⟩
    rw [if_neg (by omega)]
    refine ⟨_, Parent_ok hl hw _, ?_⟩
    rw [if_neg g]
    exact nk _
   ·show last = _
    rw [rcnt_succ, if_neg g, Nat.add_zero]
    exact hlast
 ·left
  show trellislaw15_nested_b1 t last (a : Int) _
  unfold trellislaw15_nested_b1
  rw [if_neg (by omega)]
theorem Lv.none {tk : List api_Node} {a b : Nat} {L : List Key} (h : Lv tk a b L) : L = [] → a ≤ b ∧ ∀ x, a ≤ x → x < b → x < tk.length ∧ pre95 (ix tk (x : Int)).name = true := by
 induction h with
 | nil => exact fun _ => ⟨Nat.le_refl _, fun x h1 h2 => by omega⟩
 | take h r ih => exact fun g => (by cases g)
 | skip h g r ih =>
  intro e
  obtain ⟨i1, i2⟩ := ih e
  refine ⟨by omega, fun x h1 h2 => ?_⟩
  rcases Nat.eq_or_lt_of_le h1 with g2 | g2
  ·subst g2; exact ⟨h, g⟩
  ·exact i2 x g2 h2
theorem Lv.head {tk : List api_Node} {a b : Nat} {L : List Key} (h : Lv tk a b L) : ∀ {k : Key} {L' : List Key}, L = k :: L' → ∃ d, a ≤ d ∧ d < tk.length ∧ k = ⟨(ix tk (d : Int)).from_, (ix tk (d : Int)).to, 0, (d : Int)⟩ ∧ (∀ x, a ≤ x → x < d → x < tk.length ∧ pre95 (ix tk (x : Int)).name = true) ∧ Lv tk (d + 1) b L' := by
 induction h with
 | nil => exact fun g => (by cases g)
 | @take a b L h r ih =>
  intro k L' e
  injection e with e1 e2
  subst e1 e2
  exact ⟨a, Nat.le_refl _, h, rfl, fun x h1 h2 => by omega, r⟩
 | skip h g r ih =>
  intro k L' e
  obtain ⟨d, i1, i2, i3, i4, i5⟩ := ih e
  refine ⟨d, by omega, i2, i3, fun x h1 h2 => ?_, i5⟩
  rcases Nat.eq_or_lt_of_le h1 with g2 | g2
  ·subst g2; exact ⟨h, g⟩
  ·exact i4 x g2 h2
theorem Stk.at {l : api_Lang} {tk : List api_Node} {s : List Made} {lo hi : Int} {a b : Nat} (h : Stk l tk s lo a hi b) {i : Nat} (hi' : i < s.length) : ∃ lo' a' c', En l tk s[i] lo' a' c' := by
 have e : s = s.take i ++ s.drop i := (List.take_append_drop i s).symm
 rw [e] at h
 obtain ⟨m, c, _, h2⟩ := Stk.app.1 h
 rw [List.drop_eq_getElem_cons hi'] at h2
 obtain ⟨d, h3, _⟩ := h2
 exact ⟨_, _, _, h3⟩
section
variable {l : api_Lang} {rr : (List Made) × (List api_Node) × Bool}
theorem grow_row (hr2 : rr.2.1.length ≤ 65536) {i : Nat} {m : Made} (hm : ix rr.1 (i : Int) = m) (hi : i < 2 ^ 40) (hml : m.t.length ≤ 2 ^ 40) {a c : Nat} (ha : a ≤ 65536) (h : Lv rr.2.1 a c (lv (keys m.t))) : ∃ a' : Nat, a' ≤ 65536 ∧ Lv rr.2.1 a' c [] ∧
  Rounds (fun (s : Int × Int) o => trellislaw15_TreeGrows_b4 rr (i : Int) s.1 s.2 o) ((a : Int), 0) (.inl ((a' : Int), ((i + 1 : Nat) : Int)) : Sum (Int × Int) (Sum Int Bool)) := by
 have key := Rounds.some (B := fun (s : Int × Int) (o : Sum (Int × Int) (Sum (Int × Int) (Sum Int Bool))) => trellislaw15_TreeGrows_b4 rr (i : Int) s.1 s.2 o) (P := fun r => ∃ a' : Nat, r = .inl ((a' : Int), ((i + 1 : Nat) : Int)) ∧ a' ≤ 65536 ∧ Lv rr.2.1 a' c []) (fun s => ∃ a j : Nat, s = ((a : Int), (j : Int)) ∧ a ≤ 65536 ∧ j ≤ m.t.length ∧ Lv rr.2.1 a c (lv (keys (m.t.drop j)))) (fun s => m.t.length - s.2.toNat) (fun s hs => ?_) (s := ((a : Int), 0)) ⟨a, 0, rfl, ha, Nat.zero_le _, by rwa [List.drop_zero]⟩
 ·obtain ⟨r, h1, a', rfl, h2, h3⟩ := key
  exact ⟨a', h2, h3, h1⟩
 obtain ⟨a, j, rfl, ha, hj, hv⟩ := hs
 simp only [Int.toNat_natCast]
 by_cases hlt : j < m.t.length
 ·right
  rw [List.drop_eq_getElem_cons hlt] at hv
  have ej : ix m.t (j : Int) = m.t[j] := ix_nat hlt
  have b4 : ∀ o, (if (ix m.t (j : Int)).leaf < 0 then o = .inl ((a : Int), w64 ((j : Int) + 1)) else
    if (ix m.t (j : Int)).leaf ≥ (rr.2.1.length : Int) then trellislaw15_TreeGrows_j5 rr (i : Int) (j : Int) (a : Int) true o else
    if (ix m.t (j : Int)).leaf < (a : Int) then trellislaw15_TreeGrows_j5 rr (i : Int) (j : Int) (a : Int) true o else
    if (ix m.t (j : Int)).kids = 0 then (0 ≤ (ix m.t (j : Int)).leaf ∧ (ix m.t (j : Int)).leaf < (rr.2.1.length : Int)) ∧
     if (ix m.t (j : Int)).from_ = (ix rr.2.1 (ix m.t (j : Int)).leaf).from_ then trellislaw15_TreeGrows_j5 rr (i : Int) (j : Int) (a : Int) ((ix m.t (j : Int)).to != (ix rr.2.1 (ix m.t (j : Int)).leaf).to) o
     else trellislaw15_TreeGrows_j5 rr (i : Int) (j : Int) (a : Int) true o
    else trellislaw15_TreeGrows_j5 rr (i : Int) (j : Int) (a : Int) true o) → trellislaw15_TreeGrows_b4 rr (i : Int) (a : Int) (j : Int) o := fun o ho => by
   unfold trellislaw15_TreeGrows_b4
   rw [hm, if_pos (by omega)]
   exact ⟨by omega, ho⟩
  by_cases g : m.t[j].leaf < 0
  ·refine ⟨((a : Int), ((j + 1 : Nat) : Int)), b4 _ ?_, ⟨a, j + 1, rfl, ha, hlt, ?_⟩, by simp only [Int.toNat_natCast]; omega⟩
   ·rw [ej, if_pos g, w64_nat (by omega)]; rfl
   ·have : lv (keys (m.t[j] :: m.t.drop (j + 1))) = lv (keys (m.t.drop (j + 1))) := by
     show List.filter _ (key m.t[j] :: keys (m.t.drop (j + 1))) = _
     rw [List.filter_cons_of_neg]
     ·rfl
     ·show ¬ decide (0 ≤ m.t[j].leaf) = true
      rw [decide_eq_false (by omega)]
      simp
    rwa [this] at hv
  ·have e : lv (keys (m.t[j] :: m.t.drop (j + 1))) = key m.t[j] :: lv (keys (m.t.drop (j + 1))) := by
    show List.filter _ (key m.t[j] :: keys (m.t.drop (j + 1))) = _
    rw [List.filter_cons_of_pos]
    ·rfl
    ·show decide (0 ≤ m.t[j].leaf) = true
     exact decide_eq_true (by omega)
   rw [e] at hv
   obtain ⟨d, d1, d2, d3, d4, d5⟩ := hv.head rfl
   have k1 : m.t[j].from_ = (ix rr.2.1 (d : Int)).from_ := congrArg Key.f d3
   have k2 : m.t[j].to = (ix rr.2.1 (d : Int)).to := congrArg Key.t d3
   have k3 : m.t[j].kids = 0 := congrArg Key.k d3
   have k4 : m.t[j].leaf = (d : Int) := congrArg Key.l d3
   refine ⟨(((d + 1 : Nat) : Int), ((j + 1 : Nat) : Int)), b4 _ ?_, ⟨d + 1, j + 1, rfl, by omega, hlt, d5⟩, by simp only [Int.toNat_natCast]; omega⟩
   rw [ej, k4, if_neg (by omega), if_neg (by omega), if_neg (by omega), if_pos k3]
   refine ⟨by omega, ?_⟩
   rw [if_pos k1, k2, bne_self_eq_false]
   unfold trellislaw15_TreeGrows_j5
   rw [if_neg (by simp)]
   obtain ⟨n, rfl⟩ : ∃ n, d = a + n := ⟨d - a, by omega⟩
   refine Rounds.upto (B := fun (s : Int) o => trellislaw15_TreeGrows_b6 rr (i : Int) (j : Int) s o) (fun x : Nat => ((a + x : Nat) : Int)) n (fun x hx => ?_) ?_
   ·obtain ⟨x1, x2⟩ := d4 (a + x) (by omega) (by omega)
    obtain ⟨y1, y2, y3⟩ := pre_at x2
    unfold trellislaw15_TreeGrows_b6
    rw [hm, ej, k4, if_pos (by omega)]
    refine ⟨by omega, ?_⟩
    rw [if_neg y1]
    refine ⟨by omega, ?_⟩
    rw [if_pos y3, w64_nat (by omega)]
    rfl
   ·unfold trellislaw15_TreeGrows_b6
    rw [hm, ej, k4, if_neg (by omega), w64_nat (by omega), w64_nat (by omega)]
    rfl
 ·left
  obtain rfl : j = m.t.length := by omega
  rw [List.drop_length] at hv
  refine ⟨_, ?_, a, rfl, ha, hv⟩
  show trellislaw15_TreeGrows_b4 rr (i : Int) (a : Int) (m.t.length : Int) _
  unfold trellislaw15_TreeGrows_b4
  rw [hm, if_neg (by omega), w64_nat (by omega)]
  rfl
theorem grows_run (hP : MkP l rr) : Rounds (fun (s : Int × Int) o => trellislaw15_TreeGrows_b2 rr l s.1 s.2 o) (0, 0) (.inr true : Sum Int Bool) := by
 obtain ⟨p1, p2, p3, E, hE⟩ := hP
 have hsl := wt_len rr.1
 refine Rounds.to (fun s : Int × Int => ∃ a i : Nat, s = ((a : Int), (i : Int)) ∧ a ≤ 65536 ∧ i ≤ rr.1.length ∧ ∃ lo c, Lv rr.2.1 a c [] ∧ Stk l rr.2.1 (rr.1.drop i) lo c E rr.2.1.length) (fun s => rr.1.length - s.2.toNat) (fun s hs => ?_) ⟨0, 0, rfl, Nat.zero_le _, Nat.zero_le _, 0, 0, .nil, by rw [List.drop_zero]; exact hE⟩
 obtain ⟨a, i, rfl, ha, hi, lo, c, hv, hS⟩ := hs
 simp only [Int.toNat_natCast]
 by_cases hlt : i < rr.1.length
 ·right
  have em : ix rr.1 (i : Int) = rr.1[i] := ix_nat hlt
  rw [List.drop_eq_getElem_cons hlt] at hS
  obtain ⟨c', en, hS2⟩ := hS
  have hwm := wt_mem (List.getElem_mem hlt)
  generalize hm : rr.1[i] = m at *
  have hf : Fits m.t := by show m.t.length ≤ _; omega
  obtain ⟨S, _, _, _, hnum, _⟩ := roots_key en.nice
  obtain ⟨a', ha', hv', hrow⟩ := grow_row (rr := rr) p3 em (by omega) (by omega) ha (hv.app en.leaf)
  refine ⟨((a' : Int), ((i + 1 : Nat) : Int)), ?_, ⟨a', i + 1, rfl, ha', hlt, m.ends, c', hv', hS2⟩, by simp only [Int.toNat_natCast]; omega⟩
  have j3 : trellislaw15_TreeGrows_j3 rr (i : Int) (a : Int) false (.inl ((a' : Int), ((i + 1 : Nat) : Int))) := by
   unfold trellislaw15_TreeGrows_j3
   rw [if_neg (by simp), em]
   refine ⟨true, nested_ok hf en.wf en.nice en.span, ?_⟩
   rw [if_pos rfl]
   exact hrow
  show trellislaw15_TreeGrows_b2 rr l (a : Int) (i : Int) _
  unfold trellislaw15_TreeGrows_b2
  rw [if_pos (by omega)]
  refine ⟨by omega, numF m.t, by rw [em]; exact Roots_ok hf en.wf, ?_⟩
  rw [hnum, if_neg (by omega), em]
  by_cases g1 : w64 (m.sym - (l.gram.terms.length : Int)) ≥ 0
  ·rw [if_pos g1]
   by_cases g2 : w64 (m.sym - (l.gram.terms.length : Int)) < (l.gram.syms.length : Int)
   ·rw [if_pos g2]
    refine ⟨⟨g1, g2⟩, ?_⟩
    by_cases g3 : (ix l.gram.syms (w64 (m.sym - (l.gram.terms.length : Int)))).kind = 1
    ·rw [if_pos g3, en.one g1 g2 g3]
     exact j3
    ·rw [if_neg g3]; exact j3
   ·rw [if_neg g2]; exact j3
  ·rw [if_neg g1]; exact j3
 ·left
  obtain rfl : i = rr.1.length := by omega
  rw [List.drop_length] at hS
  obtain ⟨_, rfl⟩ := hS
  obtain ⟨n1, n2⟩ := hv.none rfl
  show trellislaw15_TreeGrows_b2 rr l (a : Int) (rr.1.length : Int) _
  unfold trellislaw15_TreeGrows_b2
  rw [if_neg (by omega)]
  obtain ⟨n, hn⟩ : ∃ n, rr.2.1.length = a + n := ⟨rr.2.1.length - a, by omega⟩
  refine Rounds.upto (B := fun (s : Int) o => trellislaw15_TreeGrows_b7 rr s o) (fun x : Nat => ((a + x : Nat) : Int)) n (fun x hx => ?_) ?_
  ·obtain ⟨x1, x2⟩ := n2 (a + x) (by omega) (by omega)
   obtain ⟨y1, y2, y3⟩ := pre_at x2
   unfold trellislaw15_TreeGrows_b7
   rw [if_pos (by omega)]
   refine ⟨by omega, ?_⟩
   rw [if_neg y1]
   refine ⟨by omega, ?_⟩
   rw [if_pos y3, w64_nat (by omega)]
   rfl
  ·unfold trellislaw15_TreeGrows_b7
   rw [if_neg (by omega)]
theorem growsLaw (hl : LgOk l) (hlh : ∀ p ∈ l.gram.prods, p.lhs ≤ 9223372036854775807) {steps : List trellislaw15_Op} (hs : OpOk steps) : trellislaw15_TreeGrows l steps true := by
 have hsy := hl.sy
 unfold trellislaw15_TreeGrows
 refine ⟨true, alive_ok, ?_⟩
 rw [if_pos rfl]
 refine Rounds.to (fun s : Int => ∃ i : Nat, s = (i : Int) ∧ i ≤ l.gram.syms.length) (fun s => l.gram.syms.length - s.toNat) (fun s hs2 => ?_) ⟨0, rfl, Nat.zero_le _⟩
 obtain ⟨i, rfl, hi⟩ := hs2
 simp only [Int.toNat_natCast]
 have red : ∀ o, i < l.gram.syms.length → (if (ix l.gram.syms (i : Int)).kind < 1 then o = .inr true else if (ix l.gram.syms (i : Int)).kind > 3 then o = .inr true else o = .inl (w64 ((i : Int) + 1))) → trellislaw15_TreeGrows_b1 l steps (i : Int) o := fun o hlt ho => by
  unfold trellislaw15_TreeGrows_b1
  rw [if_pos (by omega)]
  exact ⟨by omega, ho⟩
 by_cases hlt : i < l.gram.syms.length
 ·by_cases g1 : (ix l.gram.syms (i : Int)).kind < 1
  ·exact .inl (red _ hlt (by rw [if_pos g1]))
  by_cases g2 : (ix l.gram.syms (i : Int)).kind > 3
  ·exact .inl (red _ hlt (by rw [if_neg g1, if_pos g2]))
  ·exact .inr ⟨((i + 1 : Nat) : Int), red _ hlt (by rw [if_neg g1, if_neg g2, w64_nat (by omega)]; rfl), ⟨i + 1, rfl, hlt⟩, by simp only [Int.toNat_natCast]; omega⟩
 ·left
  unfold trellislaw15_TreeGrows_b1
  rw [if_neg (by omega)]
  obtain ⟨r, h1, h2⟩ := made_ok hl hlh hs
  refine ⟨r, h1, ?_⟩
  rw [if_pos h2.1]
  exact grows_run h2
end
end Go.Proofs.Ytmekgfcfooghnaa.L
