/- JSON: the document's Reader on escapes, strings, keys. Condition: sizes. -/
import Derived.Test.YtmfopcbjgbphaaaDoorQ21
set_option linter.unusedVariables false
namespace Go.Proofs.YtmfopcbjgbphaaaDoor.L
open Go.Proofs.YtmfopcbjgbphaaaDoor.B Go.Proofs.YtmfopcbjgbphaaaDoor.R
abbrev H2 : ByteArray := ⟨#[48, 49, 50, 51, 52, 53, 54, 55, 56, 57, 97, 98, 65, 66]⟩
abbrev LTS : ByteArray := ⟨#[34, 92, 47, 98, 102, 110, 114, 116]⟩
abbrev BTS : ByteArray := ⟨#[34, 92, 47, 8, 12, 10, 13, 9]⟩
abbrev LT : List Int := [34, 92, 47, 98, 102, 110, 114, 116]
section
variable {s : ByteArray} {K : List api_JNode}
def eP (s : ByteArray) (K : List api_JNode) : Option (List Int) × List Int → (List Int) × Int × trellisref25_Reader → Prop
  | (some b, q), r => r = (b, (plc s q : Int), Gd s K)
  | (none, q), r => r.1.length ≤ 4 ∧ r.2.2 = Bd s K 250 q
theorem resc_j3_yes {c x : Int} {r : trellisref25_Reader} (h0 : 0 ≤ c) (h1 : c ≤ 2097151) : trellisref25_Reader_escape_j3 (c, x, r) true (.inr (utf8L c, x, r)) := by
  unfold trellisref25_Reader_escape_j3
  rw [if_pos rfl]
  exact ⟨_, rutf8 h0 h1, rfl⟩
theorem n250 : ¬ (250 : Int) = 0 := by decide
theorem resc_unit (hs : s.size ≤ 2 ^ 40) {t : List Int} (hr : Rest s t) {L2 : ByteArray} (hL2 : L2 = if isL [100, 68] t = true then H2 else HX) : ∃ r, trellisref25_Reader_escape_j2 (isL [100, 68] t, Gd s K) ((plc s t : Int), Gd s K) L2 (.inr r) ∧ eP s K (unitL t) r := by
  have hfour := rfour (K := K) (a := HX) (b := L2) (A := hexs) (B := if isL [100, 68] t = true then high2 else hexs) hs rfl (by rw [hL2]; split <;> rfl) (by rw [hL2]; split <;> decide) (fun x h => h) (fun x h => by
    split at h
    · exact (high2_mem x h).2
    · exact h) hr
  have hunit := @unit_high t
  have hrd := hr.digs (ls := [hexs, if isL [100, 68] t = true then high2 else hexs, hexs, hexs]) (v := 0)
  unfold unitL
  generalize digsL [hexs, if isL [100, 68] t = true then high2 else hexs, hexs, hexs] t 0 = p at hfour hunit hrd
  obtain ⟨o, q⟩ := p
  cases o with
  | none =>
    refine ⟨(utf8L 0, (plc s q : Int), Bd s K 250 q), ⟨_, hfour, ?_⟩, utf8L_len 0, rfl⟩
    show (if (250 : Int) = 0 then _ else _)
    rw [if_neg n250]
    exact resc_j3_yes (by decide) (by decide)
  | some c =>
    obtain ⟨u1, u2, u3⟩ := hunit rfl
    have hq : Rest s q := hrd
    dsimp only
    have hj : ∀ r, (if c < 55296 then trellisref25_Reader_escape_j3 (c, (plc s q : Int), Gd s K) true (.inr r) else trellisref25_Reader_escape_j3 (c, (plc s q : Int), Gd s K) (decide (c > 56319)) (.inr r)) → trellisref25_Reader_escape_j2 (isL [100, 68] t, Gd s K) ((plc s t : Int), Gd s K) L2 (.inr r) := fun r h => by
      refine ⟨_, hfour, ?_⟩
      show (if (0 : Int) = 0 then _ else _)
      rw [if_pos rfl]
      exact h
    by_cases hc : 55296 ≤ c ∧ c ≤ 56319
    · rw [if_pos hc]
      have hj2 : ∀ r r1 r2 (r3 : Int × Int × trellisref25_Reader), trellisref25_Reader_need (Gd s K) (plc s q : Int) ⟨#[92]⟩ r1 → trellisref25_Reader_need r1.2 r1.1 ⟨#[117]⟩ r2 → trellisref25_Reader_four r2.2 r2.1 ⟨#[100, 68]⟩ ⟨#[99, 100, 101, 102, 67, 68, 69, 70]⟩ r3 → 0 ≤ r3.1 → r3.1 ≤ 57343 → r = (utf8L (65536 + 1024 * (c - 55296) + (r3.1 - 56320)), r3.2.1, r3.2.2) → trellisref25_Reader_escape_j2 (isL [100, 68] t, Gd s K) ((plc s t : Int), Gd s K) L2 (.inr r) := fun r r1 r2 r3 h1 h2 h3 h4 h5 h6 => by
        refine hj r ?_
        rw [if_neg (by omega), decide_eq_false (by omega)]
        unfold trellisref25_Reader_escape_j3
        rw [if_neg (by simp)]
        refine ⟨_, h1, _, h2, _, h3, _, ?_, congrArg Sum.inr h6⟩
        dsimp only
        rw [w64_id (x := c - 55296) (by omega), w64_id (x := 1024 * (c - 55296)) (by omega), w64_id (x := 65536 + 1024 * (c - 55296)) (by omega), w64_id (x := 65536 + 1024 * (c - 55296) + r3.1) (by omega), w64_id (by omega), show 65536 + 1024 * (c - 55296) + r3.1 - 56320 = 65536 + 1024 * (c - 55296) + (r3.1 - 56320) by omega]
        exact rutf8 (by omega) (by omega)
      by_cases g1 : isL [92] q = true
      · rw [if_pos g1]
        have n1 := rneed_yes (K := K) (l := ⟨#[92]⟩) hs rfl (by decide) hq g1
        by_cases g2 : isL [117] q.tail = true
        · rw [if_pos g2]
          have n2 := rneed_yes (K := K) (l := ⟨#[117]⟩) hs rfl (by decide) hq.tail g2
          have n3 := rfour (K := K) (a := ⟨#[100, 68]⟩) (b := ⟨#[99, 100, 101, 102, 67, 68, 69, 70]⟩) (A := [100, 68]) (B := lows) hs rfl rfl (by decide) (by decide) (fun x h => (lows_mem x h).2) hq.tail.tail
          have hlow := @unit_low q.tail.tail
          generalize digsL [[100, 68], lows, hexs, hexs] q.tail.tail 0 = p at n3 hlow
          obtain ⟨o2, q2⟩ := p
          cases o2 with
          | none => exact ⟨_, hj2 _ _ _ _ n1 n2 n3 (Int.le_refl _) (show (0 : Int) ≤ 57343 by decide) rfl, utf8L_len _, rfl⟩
          | some d =>
            obtain ⟨l1, l2⟩ := hlow rfl
            exact ⟨_, hj2 _ _ _ _ n1 n2 n3 (by show 0 ≤ d; omega) l2 rfl, rfl⟩
        · rw [if_neg g2]
          have n2 := rneed_not (K := K) (l := ⟨#[117]⟩) hs rfl (by decide) hq.tail g2
          exact ⟨_, hj2 _ _ _ _ n1 n2 (rfour_e n250) (Int.le_refl _) (show (0 : Int) ≤ 57343 by decide) rfl, utf8L_len _, rfl⟩
      · rw [if_neg g1]
        have n1 := rneed_not (K := K) (l := ⟨#[92]⟩) hs rfl (by decide) hq g1
        exact ⟨_, hj2 _ _ _ _ n1 (need_no n250) (rfour_e n250) (Int.le_refl _) (show (0 : Int) ≤ 57343 by decide) rfl, utf8L_len _, rfl⟩
    · rw [if_neg hc]
      refine ⟨_, hj _ ?_, rfl⟩
      by_cases g : c < 55296
      · rw [if_pos g]
        exact resc_j3_yes u1 (by omega)
      · rw [if_neg g, decide_eq_true (by omega)]
        exact resc_j3_yes u1 (by omega)
theorem esc_fin : ∀ i : Fin 8, bsOf (LTS.extract i.val (i.val + 1)) = [LT.getD i.val 0] ∧ (LTS.extract i.val (i.val + 1)).size ≤ 1 ∧ bt BTS ((i.val : Nat) : Int) = saysL (LT.getD i.val 0) ∧ saysL (LT.getD i.val 0) ≠ 0 := by decide +kernel
theorem says_none {x : Int} (h : ∀ i : Nat, i < 8 → LT.getD i 0 ≠ x) : saysL x = 0 := by
  have h0 : (34 : Int) ≠ x := h 0 (by decide)
  have h1 : (92 : Int) ≠ x := h 1 (by decide)
  have h2 : (47 : Int) ≠ x := h 2 (by decide)
  have h3 : (98 : Int) ≠ x := h 3 (by decide)
  have h4 : (102 : Int) ≠ x := h 4 (by decide)
  have h5 : (110 : Int) ≠ x := h 5 (by decide)
  have h6 : (114 : Int) ≠ x := h 6 (by decide)
  have h7 : (116 : Int) ≠ x := h 7 (by decide)
  unfold saysL
  rw [if_neg (Ne.symm h0), if_neg (Ne.symm h1), if_neg (Ne.symm h2), if_neg (Ne.symm h3), if_neg (Ne.symm h4), if_neg (Ne.symm h5), if_neg (Ne.symm h6), if_neg (Ne.symm h7)]
theorem resc_loop (hs : s.size ≤ 2 ^ 40) {y : Int} {t : List Int} (hy : Rest s (y :: t)) : ∀ (k i : Nat), i + k = 8 → (∀ j, j < i → isL [LT.getD j 0] t = false) →
    ∃ r, Rounds (fun (q : Int × ByteArray × (List api_JNode) × Int × Int) o => trellisref25_Reader_escape_b1 (plc s (y :: t) : Int) q.1 q.2.1 q.2.2.1 q.2.2.2.1 q.2.2.2.2 o) ((i : Int), s, K, 0, 0) r ∧ eP s K (escL t) r
  | 0, i, hi, hno => by
    have hr := hy.tl.1
    have h1 := hy.bt.2
    have hpl : w64 ((plc s (y :: t) : Int) + 1) = (plc s t : Int) := by rw [w64_nat (by omega), hy.tl.2]; rfl
    have hb : ∀ q, (∃ r198 : Int × trellisref25_Reader, (trellisref25_Reader_need (Gd s K) (plc s t : Int) (⟨#[117]⟩ : ByteArray) r198) ∧
  if r198.2.e = 0 then
   ∃ r212 : Bool × trellisref25_Reader, (trellisref25_Reader_has r198.2 r198.1 (⟨#[100, 68]⟩ : ByteArray) r212) ∧
   if r212.1 = true then
    trellisref25_Reader_escape_j2 r212 r198 H2 q
   else
    trellisref25_Reader_escape_j2 r212 r198 HX q
  else
   q = .inr ((([] : List Int), r198.1, r198.2))) → trellisref25_Reader_escape_b1 (plc s (y :: t) : Int) (i : Int) s K 0 0 q := fun q h => by
      unfold trellisref25_Reader_escape_b1
      rw [if_neg (by omega), hpl]
      exact h
    by_cases g : isL [117] t = true
    · obtain ⟨x, t', rfl, hx⟩ := isL_ex g
      have hx' : x = 117 := List.mem_singleton.1 (List.contains_iff_mem.1 hx)
      subst hx'
      have hr' := hr.tl.1
      obtain ⟨r, r1, r2⟩ := resc_unit (K := K) hs hr' rfl
      refine ⟨r, .done (hb _ ⟨_, rneed_yes hs rfl (by decide) hr g, ?_⟩), ?_⟩
      · rw [if_pos rfl]
        refine ⟨(isL [100, 68] t', Gd s K), rhas (r := Gd s K) (l := ⟨#[100, 68]⟩) (L := [100, 68]) rfl (by decide) rfl hr', ?_⟩
        show (if isL [100, 68] t' = true then _ else _)
        by_cases g2 : isL [100, 68] t' = true
        · rw [if_pos g2]
          rw [if_pos g2] at r1
          exact r1
        · rw [if_neg g2]
          rw [if_neg g2] at r1
          exact r1
      · rw [escL_cons]
        rw [if_pos (by decide), if_pos rfl]
        exact r2
    · refine ⟨([], (plc s t : Int), Bd s K 250 t), .done (hb _ ⟨_, rneed_not hs rfl (by decide) hr g, by rw [if_neg (show ¬ (250 : Int) = 0 by decide)]⟩), ?_⟩
      cases t with
      | nil => exact ⟨Nat.zero_le _, rfl⟩
      | cons x t' =>
        have h0 : saysL x = 0 := says_none fun j hj e => by
          have := hno j (by omega)
          rw [e, isL_cons] at this
          simp at this
        have hx : ¬ x = 117 := fun e => g (by rw [e, isL_cons]; decide)
        rw [escL_cons, if_pos h0, if_neg hx]
        exact ⟨Nat.zero_le _, rfl⟩
  | k + 1, i, hi, hno => by
    have hr := hy.tl.1
    have h1 := hy.bt.2
    have hpl : w64 ((plc s (y :: t) : Int) + 1) = (plc s t : Int) := by rw [w64_nat (by omega), hy.tl.2]; rfl
    obtain ⟨f1, f2, f3, f4⟩ := esc_fin ⟨i, by omega⟩
    dsimp only at f1 f2 f3 f4
    have hh := rhas (r := Gd s K) f1 (by omega) rfl hr
    have hb : ∀ q, (if isL [LT.getD i 0] t = true then q = .inr (([bt BTS (i : Int)] : List Int), w64 ((plc s (y :: t) : Int) + 2), Gd s K) else q = .inl (((i + 1 : Nat) : Int), s, K, 0, 0)) → trellisref25_Reader_escape_b1 (plc s (y :: t) : Int) (i : Int) s K 0 0 q := fun q h => by
      unfold trellisref25_Reader_escape_b1
      rw [if_pos (by omega), hpl, w64_nat (by omega)]
      refine ⟨⟨by omega, by omega, show (i : Int) + 1 ≤ 8 by omega⟩, (isL [LT.getD i 0] t, Gd s K), ?_, ?_⟩
      · rw [Int.toNat_natCast, show ((i : Int) + 1).toNat = i + 1 by omega]
        exact hh
      by_cases g : isL [LT.getD i 0] t = true
      · rw [if_pos g] at h
        rw [if_pos g]
        exact ⟨⟨by omega, show (i : Int) < 8 by omega⟩, h⟩
      · rw [if_neg g] at h
        rw [if_neg g]
        exact h
    by_cases g : isL [LT.getD i 0] t = true
    · obtain ⟨x, t', rfl, hx⟩ := isL_ex g
      have hx' : x = LT.getD i 0 := List.mem_singleton.1 (List.contains_iff_mem.1 hx)
      refine ⟨_, .done (hb _ (by rw [if_pos g])), ?_⟩
      rw [escL_cons, if_neg (by rw [hx']; exact f4), f3, ← hx']
      have e2 := hy.tl.1.bt.2
      have e3 := hy.tl.1.tl.2
      have e4 := hy.tl.2
      rw [w64_id (x := (plc s (y :: x :: t') : Int) + 2) (by omega)]
      show (_, _, _) = (_, _, _)
      rw [show ((plc s (y :: x :: t') : Int) + 2) = (plc s t' : Int) by omega]
    · rw [Bool.not_eq_true] at g
      obtain ⟨r, r1, r2⟩ := resc_loop hs hy k (i + 1) (by omega) (fun j hj => by
        by_cases e : j = i
        · rw [e]; exact g
        · exact hno j (by omega))
      exact ⟨r, .next (hb _ (by rw [g, if_neg (by simp)])) r1, r2⟩
theorem rescape (hs : s.size ≤ 2 ^ 40) {y : Int} {t : List Int} (hy : Rest s (y :: t)) : ∃ r, trellisref25_Reader_escape (Gd s K) (plc s (y :: t) : Int) r ∧ eP s K (escL t) r := resc_loop hs hy 8 0 rfl (fun j h => absurd h (Nat.not_lt_zero _))
def sP (s : ByteArray) (K : List api_JNode) : Option (List Int) × List Int → ByteArray × Int × trellisref25_Reader → Prop
  | (some b, q), r => r = (ofBs b, (plc s q : Int), Gd s K)
  | (none, q), r => r.2.2 = Bd s K 250 q
theorem rstr_e {e a x : Int} {acc : List Int} (he : ¬ e = 0) : Rounds (fun (q : Int × (List Int) × ByteArray × (List api_JNode) × Int × Int) o => trellisref25_Reader_str_b1 q.1 q.2.1 q.2.2.1 q.2.2.2.1 q.2.2.2.2.1 q.2.2.2.2.2 o) (x, acc, s, K, e, a) (ofBs acc, w64 (x + 1), ⟨s, K, e, a⟩) := by
  refine .done ?_
  show trellisref25_Reader_str_b1 x acc s K e a _
  unfold trellisref25_Reader_str_b1
  rw [if_neg he]
  unfold trellisref25_Reader_str_j2
  rw [if_neg (by simp)]
theorem rstr_loop (hs : s.size ≤ 2 ^ 40) : ∀ (f : Nat) (t acc : List Int), t.length < f → Rest s t → acc.length + 4 * t.length ≤ 2 ^ 43 →
    ∃ r, Rounds (fun (q : Int × (List Int) × ByteArray × (List api_JNode) × Int × Int) o => trellisref25_Reader_str_b1 q.1 q.2.1 q.2.2.1 q.2.2.2.1 q.2.2.2.2.1 q.2.2.2.2.2 o) ((plc s t : Int), acc, s, K, 0, 0) r ∧ sP s K (strL f t acc) r
  | 0, t, acc, hf, hr, hl => absurd hf (Nat.not_lt_zero _)
  | f + 1, t, acc, hf, hr, hl => by
    have hstop : ∀ t', t = t' → trellisref25_Reader_str_j3 s K 0 0 (plc s t : Int) acc true (.inl ((plc s t : Int), acc, s, K, 250, (plc s t : Int))) := fun t' _ => by
      unfold trellisref25_Reader_str_j3
      rw [if_pos rfl]
      exact ⟨_, rstop, rfl⟩
    have hb : ∀ q, trellisref25_Reader_str_j2 (plc s t : Int) acc (!isL [34] t) s K 0 0 q → trellisref25_Reader_str_b1 (plc s t : Int) acc s K 0 0 q := fun q h => by
      unfold trellisref25_Reader_str_b1
      rw [if_pos rfl]
      exact ⟨_, rhas (r := Gd s K) (l := ⟨#[34]⟩) (L := [34]) rfl (by decide) rfl hr, h⟩
    have h250 : ¬ (250 : Int) = 0 := by decide
    cases t with
    | nil =>
      refine ⟨_, .next (hb _ ?_) (rstr_e (x := (plc s [] : Int)) (acc := acc) h250), rfl⟩
      unfold trellisref25_Reader_str_j2
      rw [if_pos (show (!isL [34] ([] : List Int)) = true from rfl), if_pos (by rw [Rest.nil]; omega)]
      exact hstop _ rfl
    | cons x t =>
      obtain ⟨h1, h2⟩ := hr.bt
      simp only [List.length_cons] at hf hl
      have hi34 : isL [34] (x :: t) = true ↔ x = 34 := by rw [isL_cons, List.contains_iff_mem, List.mem_singleton]
      unfold strL
      by_cases g : x = 34
      · rw [if_pos g]
        refine ⟨_, .done (hb _ ?_), rfl⟩
        unfold trellisref25_Reader_str_j2
        rw [if_neg (by rw [hi34.2 g]; simp), w64_nat (by omega), hr.tl.2]
        rfl
      rw [if_neg g]
      have gi : isL [34] (x :: t) = false := by
        rw [← Bool.not_eq_true]; exact fun h => g (hi34.1 h)
      have hb2 : ∀ q, trellisref25_Reader_str_j3 s K 0 0 (plc s (x :: t) : Int) acc (decide (x < 32)) q → trellisref25_Reader_str_b1 (plc s (x :: t) : Int) acc s K 0 0 q := fun q h => by
        refine hb q ?_
        unfold trellisref25_Reader_str_j2
        rw [if_pos (by rw [gi]; rfl), if_neg (by omega)]
        refine ⟨by omega, ?_⟩
        rw [h1]
        exact h
      by_cases g2 : x = 92
      · rw [if_pos g2]
        obtain ⟨r, e1, e2⟩ := rescape (K := K) hs hr
        have hb3 : ∀ q, q = .inl (r.2.1, acc ++ r.1, r.2.2.s, r.2.2.l, r.2.2.e, r.2.2.at_) → r.1.length ≤ 4 → trellisref25_Reader_str_b1 (plc s (x :: t) : Int) acc s K 0 0 q := fun q h h4 => by
          refine hb2 q ?_
          unfold trellisref25_Reader_str_j3
          rw [decide_eq_false (by omega), if_neg (by simp)]
          refine ⟨by omega, ?_⟩
          rw [h1, if_pos g2]
          exact ⟨r, e1, _, rfl, by rw [List.length_append]; omega, h⟩
        have h3 := escL_len t
        have h4 := hr.tl.1.esc
        have h5 := @escL_four t
        generalize escL t = p at e2 h3 h4 h5 ⊢
        obtain ⟨o, q⟩ := p
        cases o with
        | none =>
          obtain ⟨e3, e4⟩ := e2
          obtain ⟨b0, x0, rr⟩ := r
          have e5 : rr = Bd s K 250 q := e4
          subst e5
          exact ⟨(ofBs (acc ++ b0), w64 (x0 + 1), Bd s K 250 q), .next (hb3 _ rfl e3) (rstr_e h250), rfl⟩
        | some b =>
          have e3 : r = (b, (plc s q : Int), Gd s K) := e2
          subst e3
          have h6 := h5 rfl
          dsimp only at h3 h4
          obtain ⟨r', r1, r2⟩ := rstr_loop hs f q (acc ++ b) (by omega) h4 (by rw [List.length_append]; omega)
          exact ⟨r', .next (hb3 _ rfl h6) r1, r2⟩
      rw [if_neg g2]
      by_cases g3 : x < 32
      · rw [if_pos g3]
        refine ⟨_, .next (hb2 _ ?_) (rstr_e (x := (plc s (x :: t) : Int)) (acc := acc) h250), rfl⟩
        rw [decide_eq_true g3]
        exact hstop _ rfl
      rw [if_neg g3]
      have hc := rchar_ok (r := Gd s K) rfl (by show s.size ≤ _; omega) hr (by simp)
      have hb3 : ∀ q r, trellisref25_Reader_char (Gd s K) (plc s (x :: t) : Int) r → (if r.2.e = 0 then
    (0 ≤ (plc s (x :: t) : Int) ∧ (plc s (x :: t) : Int) ≤ r.1 ∧ r.1 ≤ (r.2.s.size : Int)) ∧
    ∃ x340 : List Int, (x340 = acc ++ bsOf (r.2.s.extract (plc s (x :: t) : Int).toNat (r.1 : Int).toNat)) ∧
    (x340.length * 1 ≤ 211106232532992) ∧
    q = .inl (r.1, x340, r.2.s, r.2.l, r.2.e, r.2.at_)
   else
    q = .inl (r.1, acc, r.2.s, r.2.l, r.2.e, r.2.at_)) → trellisref25_Reader_str_b1 (plc s (x :: t) : Int) acc s K 0 0 q := fun q r hr1 h => by
        refine hb2 q ?_
        unfold trellisref25_Reader_str_j3
        rw [decide_eq_false g3, if_neg (by simp)]
        refine ⟨by omega, ?_⟩
        rw [h1, if_neg g2]
        exact ⟨r, hr1, h⟩
      have h3 := charL_len (x :: t)
      have h4 := charL_rest hr
      generalize charL (x :: t) = p at hc h3 h4 ⊢
      obtain ⟨o, q⟩ := p
      cases o with
      | false =>
        have hc' : trellisref25_Reader_char (Gd s K) (plc s (x :: t) : Int) ((plc s q : Int), Bd s K 250 q) := hc
        exact ⟨(ofBs acc, w64 ((plc s q : Int) + 1), Bd s K 250 q), .next (hb3 (.inl ((plc s q : Int), acc, s, K, 250, (plc s q : Int))) _ hc' (by rw [if_neg (show ¬ (250 : Int) = 0 from h250)])) (rstr_e h250), rfl⟩
      | true =>
        have hc' : trellisref25_Reader_char (Gd s K) (plc s (x :: t) : Int) ((plc s q : Int), Gd s K) := hc
        have h6 := h3.2 rfl
        simp only [List.length_cons] at h6
        dsimp only at h4 ⊢
        have hbb := bs_between hr h4 (by simp only [List.length_cons]; omega)
        obtain ⟨r', r1, r2⟩ := rstr_loop hs f q (acc ++ (x :: t).take ((x :: t).length - q.length)) (by omega) h4 (by rw [List.length_append, List.length_take, List.length_cons]; omega)
        refine ⟨r', .next (hb3 _ _ hc' ?_) r1, r2⟩
        rw [if_pos (show (0 : Int) = 0 from rfl)]
        have hpl : plc s (x :: t) ≤ plc s q := by unfold plc; simp only [List.length_cons]; omega
        have hpl2 := plc_le (s := s) q
        refine ⟨⟨by omega, by show (plc s (x :: t) : Int) ≤ (plc s q : Int); omega, by show (plc s q : Int) ≤ (s.size : Int); omega⟩, _, rfl, ?_, ?_⟩
        · show (acc ++ bsOf (s.extract (plc s (x :: t) : Int).toNat (plc s q : Int).toNat)).length * 1 ≤ _
          rw [Int.toNat_natCast, Int.toNat_natCast, hbb, List.length_append, List.length_take, List.length_cons]
          omega
        · show _ = Sum.inl ((plc s q : Int), acc ++ bsOf (s.extract (plc s (x :: t) : Int).toNat (plc s q : Int).toNat), s, K, 0, 0)
          rw [Int.toNat_natCast, Int.toNat_natCast, hbb]
theorem rstr {t : List Int} (hs : s.size ≤ 2 ^ 40) (hr : Rest s t) : ∃ r, trellisref25_Reader_str (Gd s K) (plc s t : Int) r ∧ sP s K (strQ t) r := by
  unfold trellisref25_Reader_str strQ
  have hlen := hr.1
  by_cases h : isL [34] t = true
  · rw [if_pos h]
    have := isL_tail h
    obtain ⟨r, r1, r2⟩ := rstr_loop (K := K) hs (t.length + 1) t.tail [] (by omega) hr.tail (by simp only [List.length_nil]; omega)
    exact ⟨r, ⟨_, rneed_yes hs rfl (by decide) hr h, r1⟩, r2⟩
  · rw [if_neg h]
    exact ⟨_, ⟨_, rneed_not hs rfl (by decide) hr h, rstr_e n250⟩, rfl⟩
def kP (s : ByteArray) (K : List api_JNode) : Res ByteArray → ByteArray × Int × trellisref25_Reader → Prop
  | .ok k q, r => r = (k, (plc s q : Int), Gd s K)
  | .no e q, r => r.2.2 = Bd s K e q
theorem rkey_e {keys : List ByteArray} {r19 : ByteArray × Int × trellisref25_Reader} {x a e : Int} (he : ¬ e = 0) (i : Int) : Rounds (fun (q : Int × ByteArray × (List api_JNode) × Int × Int) o => trellisref25_Reader_key_b1 keys r19 x q.1 q.2.1 q.2.2.1 q.2.2.2.1 q.2.2.2.2 o) (i, s, K, e, a) (r19.1, r19.2.1, ⟨s, K, e, a⟩) := by
  have hj : trellisref25_Reader_key_j2 i keys r19 s K e a x false (.inr (r19.1, r19.2.1, ⟨s, K, e, a⟩)) := by
    unfold trellisref25_Reader_key_j2
    rw [if_neg (by simp)]
    exact ⟨_, skip_no he, _, need_no he, _, skip_no he, rfl⟩
  refine .done ?_
  show trellisref25_Reader_key_b1 keys r19 x i s K e a _
  unfold trellisref25_Reader_key_b1
  split
  · rw [show (e == 0) = false from beq_eq_false_iff_ne.2 he]
    exact hj
  · exact hj
theorem rkey_loop (hs : s.size ≤ 2 ^ 40) {t q : List Int} (hq : Rest s q) {keys : List ByteArray} (hlen : keys.length ≤ 2 ^ 41) {k : ByteArray} : ∀ (m i : Nat), i + m = keys.length → (∀ j, j < i → ix keys (j : Int) ≠ k) →
    ∃ r, Rounds (fun (z : Int × ByteArray × (List api_JNode) × Int × Int) o => trellisref25_Reader_key_b1 keys (k, (plc s q : Int), Gd s K) (plc s t : Int) z.1 z.2.1 z.2.2.1 z.2.2.2.1 z.2.2.2.2 o) ((i : Int), s, K, 0, 0) r ∧
      (if inK k keys = true then r.2.2 = Bd s K 250 t else kP s K (if isL [58] (blL q) = true then .ok k (blL (blL q).tail) else .no 250 (blL q)) r)
  | 0, i, hi, hno => by
    have hk : ¬ inK k keys = true := fun h => by
      obtain ⟨j, hj, e⟩ := List.getElem_of_mem (inK_iff.1 h)
      exact hno j (by omega) (by rw [ix_nat hj, e])
    have hb : ∀ o, trellisref25_Reader_key_j2 (i : Int) keys (k, (plc s q : Int), Gd s K) s K 0 0 (plc s t : Int) false o → trellisref25_Reader_key_b1 keys (k, (plc s q : Int), Gd s K) (plc s t : Int) (i : Int) s K 0 0 o := fun o h => by
      unfold trellisref25_Reader_key_b1
      rw [if_neg (by omega)]
      exact h
    by_cases g : isL [58] (blL q) = true
    · refine ⟨(k, (plc s (blL (blL q).tail) : Int), Gd s K), .done (hb _ ?_), by rw [if_neg hk, if_pos g]; rfl⟩
      unfold trellisref25_Reader_key_j2
      rw [if_neg (by simp)]
      exact ⟨_, rskip hs hq, _, rneed_yes hs rfl (by decide) hq.bl g, _, rskip hs hq.bl.tail, rfl⟩
    · refine ⟨(k, (plc s (blL q) : Int), Bd s K 250 (blL q)), .done (hb _ ?_), by rw [if_neg hk, if_neg g]; rfl⟩
      unfold trellisref25_Reader_key_j2
      rw [if_neg (by simp)]
      exact ⟨_, rskip hs hq, _, rneed_not hs rfl (by decide) hq.bl g, _, skip_no n250, rfl⟩
  | m + 1, i, hi, hno => by
    have hb : ∀ o, (if ix keys (i : Int) = k then o = .inl (((i + 1 : Nat) : Int), s, K, 250, (plc s t : Int)) else o = .inl (((i + 1 : Nat) : Int), s, K, 0, 0)) → trellisref25_Reader_key_b1 keys (k, (plc s q : Int), Gd s K) (plc s t : Int) (i : Int) s K 0 0 o := fun o h => by
      unfold trellisref25_Reader_key_b1
      rw [if_pos (by omega)]
      unfold trellisref25_Reader_key_j2
      rw [if_pos (by decide)]
      refine ⟨by omega, ?_⟩
      rw [w64_nat (by omega)]
      by_cases g : ix keys (i : Int) = k
      · rw [if_pos g] at h
        rw [if_pos g]
        exact ⟨_, rstop, h⟩
      · rw [if_neg g] at h
        rw [if_neg g]
        exact h
    by_cases g : ix keys (i : Int) = k
    · have hk : inK k keys = true := by
        rw [inK_iff, ← g, ix_nat (show i < keys.length by omega)]
        exact List.getElem_mem _
      exact ⟨(k, (plc s q : Int), Bd s K 250 t), .next (hb _ (by rw [if_pos g])) (rkey_e n250 _), by rw [if_pos hk]⟩
    · obtain ⟨r, r1, r2⟩ := rkey_loop hs (t := t) hq hlen (k := k) m (i + 1) (by omega) (fun j hj => by
        by_cases e : j = i
        · rw [e]; exact g
        · exact hno j (by omega))
      exact ⟨r, .next (hb _ (by rw [if_neg g])) r1, r2⟩
theorem rkey (hs : s.size ≤ 2 ^ 40) {t : List Int} (hr : Rest s t) {keys seen : List ByteArray} (hlen : keys.length ≤ 2 ^ 41) (hk : ∀ q, q ∈ keys ↔ q ∈ seen) : ∃ r, trellisref25_Reader_key (Gd s K) (plc s t : Int) keys r ∧ kP s K (keyL true seen t) r := by
  obtain ⟨r1, h1, h2⟩ := rstr (K := K) hs hr
  have h3 := hr.strQ
  unfold keyL
  rw [if_pos rfl]
  generalize strQ t = p at h2 h3 ⊢
  obtain ⟨o, q⟩ := p
  cases o with
  | none =>
    obtain ⟨k0, x0, rr⟩ := r1
    have h4 : rr = Bd s K 250 q := h2
    subst h4
    exact ⟨(k0, x0, Bd s K 250 q), ⟨_, h1, rkey_e n250 _⟩, rfl⟩
  | some k =>
    have h4 : r1 = (ofBs k, (plc s q : Int), Gd s K) := h2
    subst h4
    obtain ⟨r, r1, r2⟩ := rkey_loop (K := K) hs (t := t) h3 hlen (k := ofBs k) keys.length 0 (by omega) (fun j hj => absurd hj (Nat.not_lt_zero _))
    refine ⟨r, ⟨_, h1, r1⟩, ?_⟩
    dsimp only
    by_cases g : inK (ofBs k) keys = true
    · rw [if_pos g] at r2
      rw [if_pos (inK_iff.2 ((hk _).1 (inK_iff.1 g)))]
      exact r2
    · rw [if_neg g] at r2
      rw [if_neg (fun h => g (inK_iff.2 ((hk _).2 (inK_iff.1 h))))]
      exact r2
end
end Go.Proofs.YtmfopcbjgbphaaaDoor.L
