/- JSON: the document's Reader on strings, words, digits. Condition: sizes. -/
import Derived.Test.YtmfopcbjgbphaaaDoorQ16
set_option linter.unusedVariables false
namespace Go.Proofs.YtmfopcbjgbphaaaDoor.L
open Go.Proofs.YtmfopcbjgbphaaaDoor.B Go.Proofs.YtmfopcbjgbphaaaDoor.R
abbrev Gd (s : ByteArray) (K : List api_JNode) : trellisref25_Reader := ⟨s, K, 0, 0⟩
abbrev Bd (s : ByteArray) (K : List api_JNode) (e : Int) (t : List Int) : trellisref25_Reader := ⟨s, K, e, (plc s t : Int)⟩
abbrev HX : ByteArray := ⟨#[48, 49, 50, 51, 52, 53, 54, 55, 56, 57, 97, 98, 99, 100, 101, 102, 65, 66, 67, 68, 69, 70]⟩
abbrev SPS : ByteArray := ⟨#[32, 9, 10, 13]⟩
section
variable {s : ByteArray} {K : List api_JNode}
theorem rhas {r : trellisref25_Reader} {l : ByteArray} {L t : List Int} (hl : bsOf l = L) (hz : l.size ≤ 2 ^ 40) (h : r.s = s) (hr : Rest s t) : trellisref25_Reader_has r (plc s t : Int) l (isL L t, r) := by
 subst h
 have := has_ok (r := r) (l := l) (a := plc r.s t) hz
 rwa [isF_L hl hr] at this
theorem rneed {l : ByteArray} {L t : List Int} (hs : s.size ≤ 2 ^ 40) (hl : bsOf l = L) (hz : l.size ≤ 2 ^ 40) (hr : Rest s t) : trellisref25_Reader_need (Gd s K) (plc s t : Int) l (if isL L t = true then ((plc s t.tail : Int), Gd s K) else ((plc s t : Int), Bd s K 250 t)) := by
 have := need_ok (r := Gd s K) (l := l) rfl hz (by show s.size ≤ _; omega) (a := plc s t)
 have e : isF (Gd s K).s l (plc s t) = isL L t := isF_L hl hr
 rw [e] at this
 by_cases h : isL L t = true
 ·rw [if_pos h] at this ⊢
  rw [← plc_tail hr h, h] at this
  exact this
 ·rw [if_neg h] at this ⊢
  rw [Bool.not_eq_true] at h
  rw [h] at this
  exact this
theorem rneed_yes {l : ByteArray} {L t : List Int} (hs : s.size ≤ 2 ^ 40) (hl : bsOf l = L) (hz : l.size ≤ 2 ^ 40) (hr : Rest s t) (h : isL L t = true) : trellisref25_Reader_need (Gd s K) (plc s t : Int) l ((plc s t.tail : Int), Gd s K) := by
 have := rneed (K := K) hs hl hz hr
 rwa [if_pos h] at this
theorem rneed_not {l : ByteArray} {L t : List Int} (hs : s.size ≤ 2 ^ 40) (hl : bsOf l = L) (hz : l.size ≤ 2 ^ 40) (hr : Rest s t) (h : ¬ isL L t = true) : trellisref25_Reader_need (Gd s K) (plc s t : Int) l ((plc s t : Int), Bd s K 250 t) := by
 have := rneed (K := K) hs hl hz hr
 rwa [if_neg h] at this
theorem rskip {t : List Int} (hs : s.size ≤ 2 ^ 40) (hr : Rest s t) : trellisref25_Reader_skip (Gd s K) (plc s t : Int) SPS ((plc s (blL t) : Int), Gd s K) := by
 have := skip_ok (r := Gd s K) (l := SPS) rfl (by decide) (by show s.size ≤ _; omega) (s.size + 1) (plc s t) (by show s.size - _ < _; omega)
 have e : skipF (Gd s K).s SPS (s.size + 1) (plc s t) = plc s (blL t) := skipF_L (l := SPS) (L := blankB) rfl _ _ (by have := hr.1; omega) hr
 rw [e] at this
 exact this
theorem rstop {e x : Int} : trellisref25_Reader_stop (Gd s K) e x (x, ⟨s, K, e, x⟩) := by
 unfold trellisref25_Reader_stop
 rw [if_pos rfl]
def wR (s : ByteArray) (K : List api_JNode) (p : Bool × List Int) : Int × trellisref25_Reader := if p.1 = true then ((plc s p.2 : Int), Gd s K) else ((plc s p.2 : Int), Bd s K 250 p.2)
theorem rword_e {w : ByteArray} (hw : w.size ≤ 10) {e a x : Int} (he : ¬ e = 0) : ∀ (m i : Nat), w.size - i < m → i ≤ w.size →
  Rounds (fun (q : Int × Int × ByteArray × (List api_JNode) × Int × Int) o => trellisref25_Reader_word_b1 w q.1 q.2.1 q.2.2.1 q.2.2.2.1 q.2.2.2.2.1 q.2.2.2.2.2 o) (x, (i : Int), s, K, e, a) (x, ⟨s, K, e, a⟩)
 | 0, i, hm, hi => absurd hm (Nat.not_lt_zero _)
 | m + 1, i, hm, hi => by
  by_cases hil : i < w.size
  ·refine .next (s' := (x, ((i + 1 : Nat) : Int), s, K, e, a)) ?_ (rword_e hw he m (i + 1) (by omega) (by omega))
   show trellisref25_Reader_word_b1 w x (i : Int) s K e a _
   unfold trellisref25_Reader_word_b1
   rw [if_pos (by omega), w64_nat (by omega)]
   exact ⟨by omega, _, need_no he, rfl⟩
  ·refine .done ?_
   show trellisref25_Reader_word_b1 _ _ _ _ _ _ _ _
   unfold trellisref25_Reader_word_b1
   rw [if_neg (by dsimp only; omega)]
theorem rword_loop {w : ByteArray} (hs : s.size ≤ 2 ^ 40) (hw : w.size ≤ 10) : ∀ (m i : Nat) (t : List Int), w.size - i < m → i ≤ w.size → Rest s t →
  Rounds (fun (q : Int × Int × ByteArray × (List api_JNode) × Int × Int) o => trellisref25_Reader_word_b1 w q.1 q.2.1 q.2.2.1 q.2.2.2.1 q.2.2.2.2.1 q.2.2.2.2.2 o) ((plc s t : Int), (i : Int), s, K, 0, 0) (wR s K (wordL ((bsOf w).drop i) t))
 | 0, i, t, hm, hi, hr => absurd hm (Nat.not_lt_zero _)
 | m + 1, i, t, hm, hi, hr => by
  by_cases hil : i < w.size
  ·rw [bsOf_cons hil, wordL]
   have hext : bsOf (w.extract i (i + 1)) = [bt w (i : Int)] := by
    rw [bsOf_extract, bsOf_take hil]
    exact List.drop_left' (by rw [List.length_take, bsOf_len]; omega)
   have hesz : (w.extract i (i + 1)).size ≤ 2 ^ 40 := by
    have := congrArg List.length hext
    rw [bsOf_len] at this
    rw [this]; show (1 : Nat) ≤ 2 ^ 40; decide
   have hb : ∀ q r58, trellisref25_Reader_need (Gd s K) (plc s t : Int) (w.extract i (i + 1)) r58 → q = .inl (r58.1, ((i + 1 : Nat) : Int), r58.2.s, r58.2.l, r58.2.e, r58.2.at_) → trellisref25_Reader_word_b1 w (plc s t : Int) (i : Int) s K 0 0 q := fun q r58 hn hq => by
    unfold trellisref25_Reader_word_b1
    rw [if_pos (by omega), w64_nat (by omega)]
    refine ⟨by omega, r58, ?_, hq⟩
    rw [Int.toNat_natCast, show ((i : Int) + 1).toNat = i + 1 by omega]
    exact hn
   by_cases h : isL [bt w (i : Int)] t = true
   ·rw [if_pos h]
    exact .next (hb _ _ (rneed_yes hs hext hesz hr h) rfl) (rword_loop hs hw m (i + 1) t.tail (by omega) (by omega) hr.tail)
   ·rw [if_neg h]
    exact .next (hb _ _ (rneed_not hs hext hesz hr h) rfl) (rword_e hw (show ¬ (250 : Int) = 0 by decide) m (i + 1) (by omega) (by omega))
  ·rw [List.drop_eq_nil_of_le (by rw [bsOf_len]; omega)]
   refine .done ?_
   show trellisref25_Reader_word_b1 _ _ _ _ _ _ _ _
   unfold trellisref25_Reader_word_b1
   rw [if_neg (by dsimp only; omega)]
   rfl
theorem rword {w : ByteArray} {W t : List Int} (hs : s.size ≤ 2 ^ 40) (hw : bsOf w = W) (hl : w.size ≤ 10) (hr : Rest s t) : trellisref25_Reader_word (Gd s K) (plc s t : Int) w (wR s K (wordL W t)) := by
 have := rword_loop (K := K) hs hl (w.size + 1) 0 t (by omega) (Nat.zero_le _) hr
 rw [List.drop_zero, hw] at this
 exact this
def dgo : Nat → Nat → Int → Int
 | 0, _, _ => 0
 | f + 1, i, x => if i < 16 then (if hexs.getD i 0 = x then (i : Int) else dgo f (i + 1) x) else x - 65 + 10
theorem hx_at : ∀ i : Fin 22, bt HX ((i.val : Nat) : Int) = hexs.getD i.val 0 := by decide +kernel
theorem dgo_ok : ∀ x ∈ hexs, dgo 17 0 x = hexV x ∧ 48 ≤ x ∧ x ≤ 102 := by decide +kernel
theorem digit_loop {x : Int} (hx : 48 ≤ x ∧ x ≤ 102) : ∀ (f i : Nat), 16 < f + i → i ≤ 16 → Rounds (fun (q : Int) o => trellisref25_digitOf_b1 x q o) (i : Int) (dgo f i x)
 | 0, i, hf, hi => by
  exfalso
  omega
 | f + 1, i, hf, hi => by
  unfold dgo
  by_cases h : i < 16
  ·rw [if_pos h]
   have hz : (HX.size : Int) = 22 := rfl
   have hb := hx_at ⟨i, by omega⟩
   dsimp only at hb
   by_cases g : hexs.getD i 0 = x
   ·rw [if_pos g]
    refine .done ?_
    show trellisref25_digitOf_b1 _ _ _
    unfold trellisref25_digitOf_b1
    rw [if_pos (by omega)]
    refine ⟨⟨by omega, show (i : Int) < 22 by omega⟩, ?_⟩
    rw [if_pos (by rw [hb]; exact g)]
   ·rw [if_neg g]
    refine .next (s' := ((i + 1 : Nat) : Int)) ?_ (digit_loop hx f (i + 1) (by omega) (by omega))
    show trellisref25_digitOf_b1 _ _ _
    unfold trellisref25_digitOf_b1
    rw [if_pos (by omega)]
    refine ⟨⟨by omega, show (i : Int) < 22 by omega⟩, ?_⟩
    rw [if_neg (by rw [hb]; exact g), w64_nat (by omega)]
    rfl
  ·rw [if_neg h]
   refine .done ?_
   show trellisref25_digitOf_b1 _ _ _
   unfold trellisref25_digitOf_b1
   rw [if_neg (by omega), w64_id (x := x) (by omega), w64_id (x := x - 65) (by omega), w64_id (by omega)]
theorem digitOf_ok {x : Int} (h : x ∈ hexs) : trellisref25_digitOf x (hexV x) := by
 obtain ⟨h1, h2⟩ := dgo_ok x h
 have := digit_loop h2 17 0 (by omega) (by omega)
 rw [h1] at this
 exact this
def fR (s : ByteArray) (K : List api_JNode) : Option Int × List Int → Int × Int × trellisref25_Reader
 | (some v, q) => (v, (plc s q : Int), Gd s K)
 | (none, q) => (0, (plc s q : Int), Bd s K 250 q)
theorem rfour_loop (hs : s.size ≤ 2 ^ 40) {a b : ByteArray} (hz : a.size ≤ 2 ^ 40 ∧ b.size ≤ 2 ^ 40) {fs : List ByteArray} (hfs : fs = [a, b, HX, HX]) :
  ∀ (gs : List ByteArray) (i : Nat) (t : List Int) (v : Int), fs.drop i = gs → (∀ g ∈ gs, ∀ x ∈ bsOf g, x ∈ hexs) → i + gs.length = 4 → 0 ≤ v → v < 16 ^ i → Rest s t →
  Rounds (fun (q : Int × Int × Int × ByteArray × (List api_JNode) × Int × Int) o => trellisref25_Reader_four_b1 b a q.1 q.2.1 q.2.2.1 q.2.2.2.1 q.2.2.2.2.1 q.2.2.2.2.2.1 q.2.2.2.2.2.2 o) ((plc s t : Int), v, (i : Int), s, K, 0, 0) (fR s K (digsL (gs.map bsOf) t v))
 | [], i, t, v, hg, hh, hi, h0, h1, hr => by
  refine .done ?_
  show trellisref25_Reader_four_b1 b a (plc s t : Int) v (i : Int) s K 0 0 _
  unfold trellisref25_Reader_four_b1
  simp only [List.length_nil] at hi
  rw [if_neg (by omega)]
  rfl
 | g :: gs, i, t, v, hg, hh, hi, h0, h1, hr => by
  simp only [List.length_cons] at hi
  have hdrop : fs.drop (i + 1) = gs := by rw [← List.drop_drop, hg]; rfl
  have hp : (16 : Int) ^ i ≤ 4096 := by
   rcases (show i = 0 ∨ i = 1 ∨ i = 2 ∨ i = 3 by omega) with rfl | rfl | rfl | rfl <;> decide
  have hzg : g.size ≤ 2 ^ 40 ∧ ∀ q, trellisref25_Reader_four_j3 s K 0 0 (plc s t : Int) v (i : Int) g q → trellisref25_Reader_four_b1 b a (plc s t : Int) v (i : Int) s K 0 0 q := by
   rcases (show i = 0 ∨ i = 1 ∨ i = 2 ∨ i = 3 by omega) with rfl | rfl | rfl | rfl
   ·rw [hfs] at hg
    injection hg with hg _
    subst hg
    exact ⟨hz.1, fun q h => h⟩
   ·rw [hfs] at hg
    injection hg with hg _
    subst hg
    exact ⟨hz.2, fun q h => h⟩
   ·rw [hfs] at hg
    injection hg with hg _
    subst hg
    exact ⟨by decide, fun q h => h⟩
   ·rw [hfs] at hg
    injection hg with hg _
    subst hg
    exact ⟨by decide, fun q h => h⟩
  obtain ⟨hzg, hb⟩ := hzg
  rw [List.map_cons]
  have hno : ¬ isL (bsOf g) t = true → trellisref25_Reader_four_j3 s K 0 0 (plc s t : Int) v (i : Int) g (.inr (0, (plc s t : Int), Bd s K 250 t)) := fun h => by
   unfold trellisref25_Reader_four_j3
   refine ⟨_, rneed_not hs rfl hzg hr h, ?_⟩
   rw [if_neg (show ¬ (250 : Int) = 0 by decide)]
  cases t with
  | nil => exact .done (hb _ (hno (by simp [isL])))
  | cons x t =>
   obtain ⟨b1, b2⟩ := hr.bt
   rw [digsL]
   by_cases h : (bsOf g).contains x = true
   ·rw [if_pos h]
    have hx : x ∈ hexs := hh _ (List.mem_cons_self ..) x (List.contains_iff_mem.1 h)
    have hv := hex_mem hx
    have hpow : (16 : Int) ^ (i + 1) = 16 ^ i * 16 := Int.pow_succ ..
    refine .next (s' := ((plc s t : Int), 16 * v + hexV x, ((i + 1 : Nat) : Int), s, K, 0, 0)) (hb _ ?_) (rfour_loop hs hz hfs gs (i + 1) t _ hdrop (fun g' hg' => hh g' (List.mem_cons_of_mem _ hg')) (by omega) (by omega) (by omega) hr.tl.1)
    unfold trellisref25_Reader_four_j3
    refine ⟨_, rneed_yes hs rfl hzg hr h, ?_⟩
    rw [if_pos rfl]
    have hpl : w64 ((plc s t : Int) - 1) = (plc s (x :: t) : Int) := by rw [hr.tl.2, w64_id (by omega)]; omega
    have hpl' : w64 ((plc s (x :: t).tail : Int) - 1) = (plc s (x :: t) : Int) := hpl
    dsimp only
    rw [hpl', b1]
    refine ⟨by omega, _, digitOf_ok hx, ?_⟩
    rw [w64_id (x := 16 * v) (by omega), w64_id (x := 16 * v + hexV x) (by omega), w64_nat (by omega)]
    rfl
   ·rw [if_neg h]
    exact .done (hb _ (hno h))
theorem rfour {a b : ByteArray} {A B : List Int} (hs : s.size ≤ 2 ^ 40) (ha : bsOf a = A) (hb : bsOf b = B) (hz : a.size ≤ 2 ^ 40 ∧ b.size ≤ 2 ^ 40) (hA : ∀ x ∈ A, x ∈ hexs) (hB : ∀ x ∈ B, x ∈ hexs) {t : List Int} (hr : Rest s t) : trellisref25_Reader_four (Gd s K) (plc s t : Int) a b (fR s K (digsL [A, B, hexs, hexs] t 0)) := by
 have := rfour_loop (K := K) hs hz rfl [a, b, HX, HX] 0 t 0 rfl (fun g hg => by
  simp only [List.mem_cons, List.not_mem_nil, or_false] at hg
  rcases hg with rfl | rfl | rfl | rfl
  ·rw [ha]; exact hA
  ·rw [hb]; exact hB
  ·exact fun x h => h
  ·exact fun x h => h) rfl (Int.le_refl _) (by decide) hr
 have e : ([a, b, HX, HX] : List ByteArray).map bsOf = [A, B, hexs, hexs] := by
  rw [← ha, ← hb]; rfl
 rw [e] at this
 exact this
theorem rfour_e {a b : ByteArray} {e at1 x : Int} (he : ¬ e = 0) : trellisref25_Reader_four (⟨s, K, e, at1⟩ : trellisref25_Reader) x a b (0, x, ⟨s, K, e, at1⟩) := by
 unfold trellisref25_Reader_four
 refine .done ?_
 show trellisref25_Reader_four_b1 b a x 0 0 s K e at1 _
 unfold trellisref25_Reader_four_b1
 rw [if_pos (by decide), if_pos rfl]
 unfold trellisref25_Reader_four_j2
 rw [if_neg (by decide)]
 unfold trellisref25_Reader_four_j3
 refine ⟨_, need_no he, ?_⟩
 rw [if_neg he]
theorem rutf8 {c : Int} (h0 : 0 ≤ c) (h1 : c ≤ 2097151) : trellisref25_utf8 c (utf8L c) := by
 have d64 : Int.tdiv c 64 = c / 64 := Int.tdiv_eq_ediv_of_nonneg h0
 have d4 : Int.tdiv c 4096 = c / 4096 := Int.tdiv_eq_ediv_of_nonneg h0
 have d2 : Int.tdiv c 262144 = c / 262144 := Int.tdiv_eq_ediv_of_nonneg h0
 have m64 : Int.tmod c 64 = c % 64 := Int.tmod_eq_emod_of_nonneg h0
 have w1 : w64 (c / 64) = c / 64 := w64_id (by omega)
 have w2 : w64 (c / 4096) = c / 4096 := w64_id (by omega)
 have w3 : w64 (c / 262144) = c / 262144 := w64_id (by omega)
 have m1 : Int.tmod (c / 64) 64 = c / 64 % 64 := Int.tmod_eq_emod_of_nonneg (by omega)
 have m2 : Int.tmod (c / 4096) 64 = c / 4096 % 64 := Int.tmod_eq_emod_of_nonneg (by omega)
 have a1 : w64 (128 + c % 64) = 128 + c % 64 := w64_id (by omega)
 have a2 : w64 (128 + c / 64 % 64) = 128 + c / 64 % 64 := w64_id (by omega)
 have a3 : w64 (128 + c / 4096 % 64) = 128 + c / 4096 % 64 := w64_id (by omega)
 have u1 : IntKind.u8.wrap (128 + c % 64) = 128 + c % 64 := u8_id (by omega)
 have u2 : IntKind.u8.wrap (128 + c / 64 % 64) = 128 + c / 64 % 64 := u8_id (by omega)
 have u3 : IntKind.u8.wrap (128 + c / 4096 % 64) = 128 + c / 4096 % 64 := u8_id (by omega)
 unfold trellisref25_utf8 utf8L
 rw [d64, d4, d2, m64, w1, w2, w3, m1, m2, a1, a2, a3, u1, u2, u3]
 by_cases k1 : c < 128
 ·rw [if_pos k1, if_pos k1, u8_id (by omega)]
 rw [if_neg k1, if_neg k1]
 by_cases k2 : c < 2048
 ·rw [if_pos k2, if_pos k2, w64_id (by omega), u8_id (by omega)]
 rw [if_neg k2, if_neg k2]
 by_cases k3 : c < 65536
 ·rw [if_pos k3, if_pos k3, w64_id (by omega), u8_id (by omega)]
 rw [if_neg k3, if_neg k3, w64_id (by omega), u8_id (by omega)]
end
end Go.Proofs.YtmfopcbjgbphaaaDoor.L
