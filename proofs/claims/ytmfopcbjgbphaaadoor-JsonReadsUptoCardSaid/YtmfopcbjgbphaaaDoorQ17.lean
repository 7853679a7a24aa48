/- JSON: what is read is well shaped, and its print is no longer; the law JsonReads. Condition: sizes. -/
import Derived.Test.YtmfopcbjgbphaaaDoorQ16
set_option linter.unusedVariables false
namespace Go.Proofs.YtmfopcbjgbphaaaDoor.L
open Go.Proofs.YtmfopcbjgbphaaaDoor.B Go.Proofs.YtmfopcbjgbphaaaDoor.R
theorem validL_fuel : ∀ (f g : Nat) (t : List Int), t.length < f → t.length < g → validL f t = validL g t
 | 0, g, t, hf, hg => absurd hf (Nat.not_lt_zero _)
 | f + 1, 0, t, hf, hg => absurd hg (Nat.not_lt_zero _)
 | f + 1, g + 1, [], hf, hg => rfl
 | f + 1, g + 1, x :: t, hf, hg => by
  rw [validL_cons, validL_cons]
  have h := charL_len (x :: t)
  generalize charL (x :: t) = p at h ⊢
  obtain ⟨q, r⟩ := p
  cases q with
  | false => rfl
  | true =>
   have := h.2 rfl
   simp only [List.length_cons] at this hf hg
   exact validL_fuel f g r (by omega) (by omega)
def Vld (t : List Int) : Prop := validL (t.length + 1) t = true
theorem Vld.nil : Vld [] := rfl
theorem Vld.step {x : Int} {t r : List Int} (h : charL (x :: t) = (true, r)) (hr : Vld r) : Vld (x :: t) := by
 have hl := (charL_len (x :: t)).2 (by rw [h])
 rw [h] at hl
 simp only [List.length_cons] at hl
 unfold Vld
 rw [List.length_cons, validL_cons, h]
 show validL (t.length + 1) r = true
 rw [validL_fuel _ (r.length + 1) r (by omega) (by omega)]
 exact hr
theorem Vld.app {a b : List Int} (ha : Vld a) (hb : Vld b) : Vld (a ++ b) := by
 generalize hn : a.length = n
 induction n using Nat.strongRecOn generalizing a with
 | _ n ih =>
  cases a with
  | nil => exact hb
  | cons x t =>
   unfold Vld at ha
   rw [List.length_cons, validL_cons] at ha
   have hl := charL_len (x :: t)
   have hc := @charL_loc b (x :: t)
   generalize charL (x :: t) = p at ha hl hc
   obtain ⟨q, r⟩ := p
   cases q with
   | false => cases ha
   | true =>
    have hl2 := hl.2 rfl
    simp only [List.length_cons] at hl2 hn
    have hr : Vld r := by
     unfold Vld
     rw [validL_fuel _ (t.length + 1) r (by omega) (by omega)]
     exact ha
    have := hc (.inr rfl)
    rw [List.cons_append] at this ⊢
    exact Vld.step this (ih r.length (by omega) hr rfl)
theorem Vld.low {x : Int} (h : x < 128) : Vld [x] := Vld.step (r := []) (charL_some (rng_low h)) Vld.nil
theorem Vld.B {b : List Int} (hb : Bts b) (h : Vld b) : validB (ofBs b) = true := by
 unfold validB
 rw [bsOf_ofBs hb, ofBs_size]
 exact h
theorem saysL_low (x : Int) : 0 ≤ saysL x ∧ saysL x < 128 := by
 unfold saysL
 repeat' split
 all_goals omega
theorem rng_2 {x : Int} (h : 194 ≤ x ∧ x < 224) : rng x = some [(128, 191)] := by
 unfold rng
 rw [if_neg (by omega), if_neg (by omega), if_pos (by omega)]
theorem utf8_vld {c : Int} (h0 : 0 ≤ c) (h1 : c ≤ 1114111) (hs : c < 55296 ∨ 57343 < c) : Vld (utf8L c) ∧ Bts (utf8L c) := by
 have tail1 : ∀ {lo hi y : Int}, lo ≤ y ∧ y ≤ hi → tailL [(lo, hi)] [y] = (true, []) := fun {lo hi y} h => by
  unfold tailL
  rw [if_neg (by dsimp only; omega)]; rfl
 have tail2 : ∀ {lo hi y z : Int}, lo ≤ y ∧ y ≤ hi → 128 ≤ z ∧ z ≤ 191 → tailL [(lo, hi), (128, 191)] [y, z] = (true, []) := fun {lo hi y z} h k => by
  unfold tailL
  rw [if_neg (by dsimp only; omega)]; exact tail1 k
 have tail3 : ∀ {lo hi y z u : Int}, lo ≤ y ∧ y ≤ hi → 128 ≤ z ∧ z ≤ 191 → 128 ≤ u ∧ u ≤ 191 → tailL [(lo, hi), (128, 191), (128, 191)] [y, z, u] = (true, []) := fun {lo hi y z u} h k l => by
  unfold tailL
  rw [if_neg (by dsimp only; omega)]; exact tail2 k l
 unfold utf8L
 by_cases k1 : c < 128
 ·rw [if_pos k1]
  exact ⟨Vld.low k1, fun x hx => by rw [List.mem_singleton] at hx; omega⟩
 rw [if_neg k1]
 by_cases k2 : c < 2048
 ·rw [if_pos k2]
  refine ⟨Vld.step (r := []) ?_ Vld.nil, fun x hx => ?_⟩
  ·rw [charL_some (rng_2 (by omega))]
   exact tail1 (by omega)
  ·simp only [List.mem_cons, List.not_mem_nil, or_false] at hx; omega
 rw [if_neg k2]
 by_cases k3 : c < 65536
 ·rw [if_pos k3]
  refine ⟨Vld.step (r := []) ?_ Vld.nil, fun x hx => ?_⟩
  ·by_cases c1 : c / 4096 = 0
   ·rw [charL_some (l := [(160, 191), (128, 191)]) (by unfold rng; rw [if_neg (by omega), if_neg (by omega), if_neg (by omega), if_pos (by omega)])]
    exact tail2 (by omega) (by omega)
   by_cases c2 : c / 4096 = 13
   ·rw [charL_some (l := [(128, 159), (128, 191)]) (by unfold rng; rw [if_neg (by omega), if_neg (by omega), if_neg (by omega), if_neg (by omega), if_pos (by omega)])]
    exact tail2 (by omega) (by omega)
   ·rw [charL_some (l := [(128, 191), (128, 191)]) (by unfold rng; rw [if_neg (by omega), if_neg (by omega), if_neg (by omega), if_neg (by omega), if_neg (by omega), if_pos (by omega)])]
    exact tail2 (by omega) (by omega)
  ·simp only [List.mem_cons, List.not_mem_nil, or_false] at hx; omega
 ·rw [if_neg k3]
  refine ⟨Vld.step (r := []) ?_ Vld.nil, fun x hx => ?_⟩
  ·by_cases c1 : c / 262144 = 0
   ·rw [charL_some (l := [(144, 191), (128, 191), (128, 191)]) (by unfold rng; rw [if_neg (by omega), if_neg (by omega), if_neg (by omega), if_neg (by omega), if_neg (by omega), if_neg (by omega), if_pos (by omega)])]
    exact tail3 (by omega) (by omega) (by omega)
   by_cases c2 : c / 262144 = 4
   ·rw [charL_some (l := [(128, 143), (128, 191), (128, 191)]) (by unfold rng; rw [if_neg (by omega), if_neg (by omega), if_neg (by omega), if_neg (by omega), if_neg (by omega), if_neg (by omega), if_neg (by omega), if_pos (by omega)])]
    exact tail3 (by omega) (by omega) (by omega)
   ·rw [charL_some (l := [(128, 191), (128, 191), (128, 191)]) (by unfold rng; rw [if_neg (by omega), if_neg (by omega), if_neg (by omega), if_neg (by omega), if_neg (by omega), if_neg (by omega), if_neg (by omega), if_neg (by omega)])]
    exact tail3 (by omega) (by omega) (by omega)
  ·simp only [List.mem_cons, List.not_mem_nil, or_false] at hx; omega
theorem utf8_esc (c : Int) (h0 : 0 ≤ c) : ((utf8L c).flatMap escB).length ≤ 6 := by
 by_cases k1 : c < 128
 ·have : utf8L c = [c] := by unfold utf8L; rw [if_pos k1]
  rw [this, List.flatMap_cons, List.flatMap_nil, List.append_nil]
  exact (escB_len c).2
 ·have hh : ∀ x ∈ utf8L c, 128 ≤ x := by
   unfold utf8L
   rw [if_neg k1]
   intro x hx
   repeat' split at hx
   all_goals (simp only [List.mem_cons, List.not_mem_nil, or_false] at hx; omega)
  rw [escB_high _ hh]
  have := utf8L_len c
  omega
theorem escL_sz {t b r : List Int} (h : escL t = (some b, r)) : (b.flatMap escB).length + r.length ≤ t.length + 1 ∧ Vld b ∧ Bts b := by
 cases t with
 | nil => cases h
 | cons x t =>
  rw [escL_cons] at h
  by_cases g : saysL x = 0
  ·rw [if_pos g] at h
   by_cases g2 : x = 117
   ·rw [if_pos g2] at h
    unfold unitL at h
    have hh := @unit_high t
    have hd := @digs4 hexs (if isL [100, 68] t = true then high2 else hexs) hexs hexs t
    generalize digsL [hexs, if isL [100, 68] t = true then high2 else hexs, hexs, hexs] t 0 = p at h hh hd
    obtain ⟨q, u⟩ := p
    cases q with
    | none => cases h
    | some v =>
     obtain ⟨c0, c1, c2⟩ := hh rfl
     obtain ⟨x0, x1, x2, x3, et, _⟩ := hd rfl
     dsimp only at h
     have ht : t.length = 4 + u.length := by rw [et]; simp only [List.length_cons]; omega
     by_cases g3 : 55296 ≤ v ∧ v ≤ 56319
     ·rw [if_pos g3] at h
      by_cases g4 : isL [92] u = true
      ·rw [if_pos g4] at h
       by_cases g5 : isL [117] u.tail = true
       ·rw [if_pos g5] at h
        have h4 := isL_tail g4
        have h5 := isL_tail g5
        have hl := @unit_low u.tail.tail
        have hln := digsL_len [[100, 68], lows, hexs, hexs] u.tail.tail 0
        generalize digsL [[100, 68], lows, hexs, hexs] u.tail.tail 0 = p at h hl hln
        obtain ⟨q2, w⟩ := p
        cases q2 with
        | none => cases h
        | some z =>
         obtain ⟨e1, e2⟩ := hl rfl
         injection h with h1 h2
         injection h1 with h1
         dsimp only at hln
         have hu := utf8_vld (c := 65536 + 1024 * (v - 55296) + (z - 56320)) (by omega) (by omega) (by omega)
         have he := utf8_esc (65536 + 1024 * (v - 55296) + (z - 56320)) (by omega)
         rw [← h1, ← h2]
         simp only [List.length_cons]
         exact ⟨by omega, hu⟩
       ·rw [if_neg g5] at h; cases h
      ·rw [if_neg g4] at h; cases h
     ·rw [if_neg g3] at h
      injection h with h1 h2
      injection h1 with h1
      have hu := utf8_vld (c := v) (by omega) (by omega) (by omega)
      have he := utf8_esc v (by omega)
      rw [← h1, ← h2]
      simp only [List.length_cons]
      exact ⟨by omega, hu⟩
   ·rw [if_neg g2] at h; cases h
  ·rw [if_neg g] at h
   injection h with h1 h2
   injection h1 with h1
   have hs := saysL_low x
   rw [← h1, ← h2]
   refine ⟨?_, Vld.low hs.2, fun y hy => by rw [List.mem_singleton] at hy; omega⟩
   have he : ∀ y : Int, (∃ x, saysL x = y ∧ y ≠ 0) → (escB y).length ≤ 2 := by
    rintro y ⟨x, hx, hy⟩
    unfold saysL at hx
    repeat' split at hx
    all_goals first | (subst hx; decide) | (exact absurd hx.symm hy)
   rw [List.flatMap_cons, List.flatMap_nil, List.append_nil, List.length_cons]
   have := he (saysL x) ⟨x, rfl, g⟩
   omega
theorem strL_sz : ∀ (f : Nat) (t acc b r : List Int), Bts t → strL f t acc = (some b, r) → Vld acc → Bts acc → (b.flatMap escB).length + 1 + r.length ≤ (acc.flatMap escB).length + t.length ∧ Vld b ∧ Bts b
 | 0, t, acc, b, r, ht, h, ha, hb => by cases h
 | f + 1, [], acc, b, r, ht, h, ha, hb => by cases h
 | f + 1, x :: t, acc, b, r, ht, h, ha, hb => by
  have htt : Bts t := fun y hy => ht y (List.mem_cons_of_mem _ hy)
  unfold strL at h
  by_cases g1 : x = 34
  ·rw [if_pos g1] at h
   injection h with h1 h2
   injection h1 with h1
   rw [← h1, ← h2]
   exact ⟨by rw [List.length_cons]; omega, ha, hb⟩
  rw [if_neg g1] at h
  by_cases g2 : x = 92
  ·rw [if_pos g2] at h
   have hs := @escL_sz t
   have hbr : ∀ y ∈ (escL t).2, y ∈ t := by
    have : ∃ n, (escL t).2 = t.drop n := by
     have hw := Rest.whole (s := ofBs t)
     rw [bsOf_ofBs htt] at hw
     have h1 := hw.1.esc
     refine ⟨plc (ofBs t) (escL t).2, ?_⟩
     have := h1.2
     rw [bsOf_ofBs htt] at this
     exact this
    obtain ⟨n, hn⟩ := this
    intro y hy
    rw [hn] at hy
    exact List.mem_of_mem_drop hy
   generalize escL t = p at h hs hbr
   obtain ⟨q, u⟩ := p
   cases q with
   | none => cases h
   | some w =>
    obtain ⟨s1, s2, s3⟩ := hs rfl
    dsimp only at h hbr
    obtain ⟨i1, i2, i3⟩ := strL_sz f u (acc ++ w) b r (fun y hy => htt y (hbr y hy)) h (ha.app s2) (hb.app s3)
    refine ⟨?_, i2, i3⟩
    rw [List.flatMap_append, List.length_append] at i1
    rw [List.length_cons]
    omega
  rw [if_neg g2] at h
  by_cases g3 : x < 32
  ·rw [if_pos g3] at h; cases h
  rw [if_neg g3] at h
  cases hr : rng x with
  | none => rw [charL_none hr] at h; cases h
  | some l =>
   rw [charL_some hr] at h
   cases h3 : tailL l t with
   | mk ok u =>
    rw [h3] at h
    cases ok with
    | false => cases h
    | true =>
     dsimp only at h
     rcases rng_high hr with ⟨k1, rfl⟩ | ⟨k1, k2⟩
     ·have eu : u = t := by
       have : tailL [] t = (true, t) := rfl
       rw [this] at h3
       injection h3 with _ h3
       exact h3.symm
      subst eu
      have et : (x :: u).take ((x :: u).length - u.length) = [x] := by
       rw [List.length_cons, Nat.add_sub_cancel_left]; rfl
      rw [et] at h
      obtain ⟨i1, i2, i3⟩ := strL_sz f u (acc ++ [x]) b r htt h (ha.app (Vld.low k1)) (hb.app (fun y hy => by rw [List.mem_singleton] at hy; rw [hy]; exact ht x (List.mem_cons_self ..)))
      refine ⟨?_, i2, i3⟩
      have e1 : escB x = [x] := by
       unfold escB
       rw [if_neg g1, if_neg g2, if_neg (by omega), if_neg (by omega), if_neg (by omega), if_neg (by omega), if_neg (by omega), if_neg g3]
      rw [List.flatMap_append, List.length_append, List.flatMap_cons, List.flatMap_nil, List.append_nil, e1] at i1
      simp only [List.length_cons, List.length_nil] at i1 ⊢
      omega
     ·obtain ⟨w, e1, e2, e3⟩ := tailL_high l t u k2 h3
      have et : (x :: t).take ((x :: t).length - u.length) = x :: w := by
       rw [e1, show x :: (w ++ u) = (x :: w) ++ u from rfl, take_back]
      rw [et] at h
      have hw : ∀ y ∈ x :: w, 128 ≤ y := fun y hy => by
       rcases List.mem_cons.1 hy with rfl | hy
       ·exact k1
       ·exact e2 y hy
      have hv : Vld (x :: w) := by
       refine Vld.step (r := []) ?_ Vld.nil
       rw [charL_some hr]
       have := e3 []
       rwa [List.append_nil] at this
      obtain ⟨i1, i2, i3⟩ := strL_sz f u (acc ++ x :: w) b r (fun y hy => htt y (by rw [e1]; exact List.mem_append_right _ hy)) h (ha.app hv) (hb.app (fun y hy => ht y (by
       rcases List.mem_cons.1 hy with rfl | hy
       ·exact List.mem_cons_self ..
       ·rw [e1]; exact List.mem_cons_of_mem _ (List.mem_append_left _ hy))))
      refine ⟨?_, i2, i3⟩
      rw [List.flatMap_append, List.length_append, escB_high _ hw] at i1
      rw [e1]
      simp only [List.length_cons, List.length_append] at i1 ⊢
      omega
theorem strQ_sz {t b r : List Int} (ht : Bts t) (h : strQ t = (some b, r)) : (quoteL b).length + r.length ≤ t.length ∧ validB (ofBs b) = true ∧ Bts b := by
 unfold strQ at h
 by_cases g : isL [34] t = true
 ·rw [if_pos g] at h
  have h1 := isL_tail g
  obtain ⟨i1, i2, i3⟩ := strL_sz _ _ _ _ _ (fun y hy => ht y (List.mem_of_mem_tail hy)) h Vld.nil (fun y hy => by cases hy)
  refine ⟨?_, i2.B i3, i3⟩
  unfold quoteL
  rw [List.length_cons, List.length_append, List.length_singleton]
  simp only [List.flatMap_nil, List.length_nil] at i1
  omega
 ·rw [if_neg g] at h; cases h
section
variable {o : List Int}
theorem skipL_cut {l : List Int} : ∀ {u : List Int}, o.length ≤ (skipL l (u ++ o)).length → skipL l (u ++ o) = skipL l u ++ o
 | [], h => by
  rw [List.nil_append] at h ⊢
  show skipL l o = o
  cases o with
  | nil => rfl
  | cons x o =>
   unfold skipL at h ⊢
   by_cases g : l.contains x = true
   ·rw [if_pos g] at h
    have := skipL_len l o
    rw [List.length_cons] at h
    omega
   ·rw [if_neg g]
 | x :: u, h => by
  rw [List.cons_append] at h ⊢
  unfold skipL at h ⊢
  by_cases g : l.contains x = true
  ·rw [if_pos g] at h ⊢; rw [if_pos g]; exact skipL_cut h
  ·rw [if_neg g, if_neg g]; rfl
theorem ne_cut {u : List Int} {f : List Int → Bool × List Int} (hf : ∀ t, (f t).1 = true → (f t).2.length < t.length) (h1 : (f (u ++ o)).1 = true) (h2 : o.length ≤ (f (u ++ o)).2.length) : u ≠ [] := by
 intro e
 rw [e, List.nil_append] at h1 h2
 have := hf o h1
 omega
theorem digL_cut {u : List Int} (h1 : (digL (u ++ o)).1 = true) (h2 : o.length ≤ (digL (u ++ o)).2.length) : digL u = (true, (digL u).2) ∧ digL (u ++ o) = (true, (digL u).2 ++ o) := by
 have hu := ne_cut (f := digL) (fun t h => (digL_len t).2 h) h1 h2
 unfold digL at h1 h2 ⊢
 rw [isL_ne hu] at h1 h2 ⊢
 by_cases g : isL digB u = true
 ·rw [if_pos g] at h2 ⊢
  rw [if_pos g]
  exact ⟨rfl, by rw [skipL_cut h2]⟩
 ·rw [if_neg g] at h1; cases h1
theorem expL_cut {u : List Int} (h1 : (expL (u ++ o)).1 = true) (h2 : o.length ≤ (expL (u ++ o)).2.length) : (expL u).1 = true ∧ expL (u ++ o) = (true, (expL u).2 ++ o) := by
 cases u with
 | nil =>
  rw [List.nil_append] at h1 h2 ⊢
  have e : (expL o) = (true, o) := by
   unfold expL at h1 h2 ⊢
   by_cases g : isL [101, 69] o = true
   ·exfalso
    rw [if_pos g] at h1 h2
    have h3 := isL_tail g
    have h4 := (digL_len o.tail).1
    have h5 := (digL_len o.tail.tail).1
    have h6 := tail_le o.tail
    split at h2 <;> omega
   ·rw [if_neg g]
  rw [e]
  exact ⟨rfl, rfl⟩
 | cons x u =>
  unfold expL at h1 h2 ⊢
  rw [isL_ne (by simp)] at h1 h2 ⊢
  by_cases g : isL [101, 69] (x :: u) = true
  ·rw [if_pos g] at h1 h2 ⊢
   rw [if_pos g]
   rw [tail_ne (by simp), List.tail_cons] at h1 h2 ⊢
   by_cases hu : u = []
   ·exfalso
    subst hu
    rw [List.nil_append] at h1 h2
    have h4 := (digL_len o).2
    have h5 := (digL_len o.tail).2
    have h6 := tail_le o
    split at h1
    ·rename_i g2
     rw [if_pos g2] at h2
     have := h5 h1
     omega
    ·rename_i g2
     rw [if_neg g2] at h2
     have := h4 h1
     omega
   ·rw [isL_ne hu] at h1 h2 ⊢
    by_cases g2 : isL [43, 45] u = true
    ·rw [if_pos g2] at h1 h2 ⊢
     rw [if_pos g2]
     rw [tail_ne hu] at h1 h2 ⊢
     obtain ⟨e1, e2⟩ := digL_cut h1 h2
     rw [e2]
     exact ⟨by rw [e1], rfl⟩
    ·rw [if_neg g2] at h1 h2 ⊢
     rw [if_neg g2]
     obtain ⟨e1, e2⟩ := digL_cut h1 h2
     rw [e2]
     exact ⟨by rw [e1], rfl⟩
  ·rw [if_neg g, if_neg g]
   exact ⟨rfl, rfl⟩
theorem fracL_cut {u : List Int} (h1 : (fracL (u ++ o)).1 = true) (h2 : o.length ≤ (fracL (u ++ o)).2.length) : (fracL u).1 = true ∧ fracL (u ++ o) = (true, (fracL u).2 ++ o) := by
 by_cases hu : u = []
 ·subst hu
  rw [List.nil_append] at h1 h2 ⊢
  have e : fracL o = (true, o) := by
   unfold fracL at h1 h2 ⊢
   by_cases g : isL [46] o = true
   ·exfalso
    rw [if_pos g] at h1 h2
    have h3 := isL_tail g
    by_cases g2 : isL digB o.tail = true
    ·rw [if_pos g2] at h1 h2
     have h4 := expL_len (digL o.tail).2
     have h5 := (digL_len o.tail).1
     omega
    ·rw [if_neg g2] at h1; cases h1
   ·rw [if_neg g] at h1 h2 ⊢
    have := expL_cut (u := []) (o := o) h1 h2
    exact this.2
  rw [e]
  exact ⟨rfl, rfl⟩
 ·unfold fracL at h1 h2 ⊢
  rw [isL_ne hu] at h1 h2 ⊢
  by_cases g : isL [46] u = true
  ·rw [if_pos g] at h1 h2 ⊢
   rw [if_pos g]
   rw [tail_ne hu] at h1 h2 ⊢
   by_cases g2 : isL digB (u.tail ++ o) = true
   ·rw [if_pos g2] at h1 h2 ⊢
    have h3 := expL_len (digL (u.tail ++ o)).2
    have hd1 : (digL (u.tail ++ o)).1 = true := by unfold digL; rw [if_pos g2]
    obtain ⟨e1, e2⟩ := digL_cut hd1 (by omega)
    have g3 : isL digB u.tail = true := by
     have : (digL u.tail).1 = true := by rw [e1]
     unfold digL at this
     by_cases g3 : isL digB u.tail = true
     ·exact g3
     ·rw [if_neg g3] at this; cases this
    rw [e2] at h1 h2 ⊢
    rw [if_pos g3]
    exact expL_cut h1 h2
   ·rw [if_neg g2] at h1; cases h1
  ·rw [if_neg g] at h1 h2 ⊢
   rw [if_neg g]
   exact expL_cut h1 h2
theorem intL_cut {u : List Int} (h1 : (intL (u ++ o)).1 = true) (h2 : o.length ≤ (intL (u ++ o)).2.length) : (intL u).1 = true ∧ intL (u ++ o) = (true, (intL u).2 ++ o) := by
 have hu := ne_cut (f := intL) (fun t h => (intL_len t).2 h) h1 h2
 unfold intL at h1 h2 ⊢
 rw [isL_ne hu] at h1 h2 ⊢
 by_cases g : isL [48] u = true
 ·rw [if_pos g] at h1 h2 ⊢
  rw [if_pos g]
  rw [tail_ne hu] at h1 h2 ⊢
  exact fracL_cut h1 h2
 ·rw [if_neg g] at h1 h2 ⊢
  rw [if_neg g]
  rw [isL_ne hu] at h1 h2 ⊢
  by_cases g2 : isL digB u = true
  ·rw [if_pos g2] at h1 h2 ⊢
   rw [if_pos g2]
   have h3 := fracL_len (digL (u ++ o)).2
   have hd1 : (digL (u ++ o)).1 = true := by unfold digL; rw [isL_ne hu, if_pos g2]
   obtain ⟨e1, e2⟩ := digL_cut hd1 (by omega)
   rw [e2] at h1 h2 ⊢
   exact fracL_cut h1 h2
  ·rw [if_neg g2] at h1; cases h1
theorem numL_cut {u : List Int} (h1 : (numL (u ++ o)).1 = true) (h2 : o.length ≤ (numL (u ++ o)).2.length) : (numL u).1 = true ∧ numL (u ++ o) = (true, (numL u).2 ++ o) := by
 have hu := ne_cut (f := numL) (fun t h => (numL_len t).2 h) h1 h2
 unfold numL at h1 h2 ⊢
 rw [isL_ne hu] at h1 h2 ⊢
 by_cases g : isL [45] u = true
 ·rw [if_pos g] at h1 h2 ⊢
  rw [if_pos g]
  rw [tail_ne hu] at h1 h2 ⊢
  exact intL_cut h1 h2
 ·rw [if_neg g] at h1 h2 ⊢
  rw [if_neg g]
  exact intL_cut h1 h2
end
end Go.Proofs.YtmfopcbjgbphaaaDoor.L
