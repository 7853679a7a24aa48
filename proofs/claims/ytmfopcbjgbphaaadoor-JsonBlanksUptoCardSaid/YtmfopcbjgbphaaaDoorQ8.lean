/- JSON: strings and values printed. Condition: sizes. -/
import Derived.Test.YtmfopcbjgbphaaaDoorQ7
set_option linter.unusedVariables false
namespace Go.Proofs.YtmfopcbjgbphaaaDoor.L
open Go.Proofs.YtmfopcbjgbphaaaDoor.B Go.Proofs.YtmfopcbjgbphaaaDoor.R
abbrev LIM : Nat := 211106232532992
theorem bcheck_ok (b : strings_Builder) : strings_Builder_copyCheck b ⟨true, b.buf⟩ := by
 unfold strings_Builder_copyCheck
 by_cases h : b.addr = true
 ·rw [if_pos h, ← h]
 ·rw [if_neg h]
theorem wbyte_ok {b : strings_Builder} {x : Int} (h : b.buf.length + 1 ≤ LIM) : strings_Builder_WriteByte b x ⟨true, b.buf ++ [x]⟩ :=
 ⟨_, bcheck_ok b, _, rfl, by rw [List.length_append, List.length_singleton]; show _ ≤ LIM; omega, rfl⟩
theorem wstr_ok {b : strings_Builder} {s : ByteArray} (h : b.buf.length + s.size ≤ LIM) : strings_Builder_WriteString b s ((s.size : Int), ⟨true, b.buf ++ bsOf s⟩) :=
 ⟨_, bcheck_ok b, _, rfl, by rw [List.length_append, bsOf_len]; show _ ≤ LIM; omega, rfl⟩
abbrev hexB : List Int := [48, 49, 50, 51, 52, 53, 54, 55, 56, 57, 97, 98, 99, 100, 101, 102]
def escB (x : Int) : List Int :=
 if x = 34 then [92, 34] else if x = 92 then [92, 92] else if x = 8 then [92, 98] else if x = 12 then [92, 102] else if x = 10 then [92, 110] else if x = 13 then [92, 114] else if x = 9 then [92, 116]
 else if x < 32 then [92, 117, 48, 48, hexB.getD (x / 16).toNat 0, hexB.getD (x % 16).toNat 0] else [x]
def quoteL (t : List Int) : List Int := 34 :: (t.flatMap escB ++ [34])
theorem escB_len (x : Int) : 1 ≤ (escB x).length ∧ (escB x).length ≤ 6 := by
 unfold escB
 repeat' split
 all_goals simp
theorem fm_escB_len (t : List Int) : (t.flatMap escB).length ≤ 6 * t.length := by
 induction t with
 | nil => exact Nat.le_refl _
 | cons x t ih =>
  rw [List.flatMap_cons, List.length_append, List.length_cons]
  have := (escB_len x).2
  omega
theorem quoteL_len (t : List Int) : (quoteL t).length ≤ 6 * t.length + 2 := by
 unfold quoteL
 rw [List.length_cons, List.length_append, List.length_singleton]
 have := fm_escB_len t
 omega
theorem tb0_esc : ∀ n : Fin 256, (if ix tb_0 (n.val : Int) = 0 then (if (n.val : Int) < 32 then [92, 117, 48, 48, hexB.getD ((n.val : Int) / 16).toNat 0, hexB.getD ((n.val : Int) % 16).toNat 0] else [(n.val : Int)]) else [92, ix tb_0 (n.val : Int)]) = escB (n.val : Int) := by decide +kernel
theorem tb0_ok {x : Int} (h : 0 ≤ x ∧ x ≤ 255) : (if ix tb_0 x = 0 then (if x < 32 then [92, 117, 48, 48, hexB.getD (x / 16).toNat 0, hexB.getD (x % 16).toNat 0] else [x]) else [92, ix tb_0 x]) = escB x := by
 have := tb0_esc ⟨x.toNat, by omega⟩
 have e : ((x.toNat : Nat) : Int) = x := by omega
 simp only [e] at this
 exact this
abbrev hexA : ByteArray := ⟨#[48, 49, 50, 51, 52, 53, 54, 55, 56, 57, 97, 98, 99, 100, 101, 102]⟩
theorem hexA_bt : ∀ n : Fin 16, bt hexA (n.val : Int) = hexB.getD n.val 0 := by decide +kernel
theorem hexA_ok {x : Int} (h : 0 ≤ x ∧ x < 16) : bt hexA x = hexB.getD x.toNat 0 := by
 have := hexA_bt ⟨x.toNat, by omega⟩
 have e : ((x.toNat : Nat) : Int) = x := by omega
 simp only [e] at this
 exact this
theorem jquote_loop {s : ByteArray} (hs : s.size ≤ 2 ^ 48) : ∀ (m i : Nat) (b : Bool) (buf : List Int), s.size - i < m → i ≤ s.size → buf.length + (((bsOf s).drop i).flatMap escB ++ [34]).length ≤ LIM →
  Rounds (fun (q : Int × Bool × (List Int)) o => json_quote_b1 s q.1 q.2.1 q.2.2 o) ((i : Int), b, buf) ⟨true, buf ++ (((bsOf s).drop i).flatMap escB ++ [34])⟩
 | 0, i, b, buf, hm, hi, hl => absurd hm (Nat.not_lt_zero _)
 | m + 1, i, b, buf, hm, hi, hl => by
  by_cases hil : i < s.size
  ·have hr := bt_range s (i : Int)
   rw [bsOf_cons hil, List.flatMap_cons, List.append_assoc] at hl ⊢
   rw [List.length_append] at hl
   have hle := escB_len (bt s (i : Int))
   have htl : 1 ≤ (((bsOf s).drop (i + 1)).flatMap escB ++ [34]).length := by rw [List.length_append]; simp
   have ih := jquote_loop hs m (i + 1) true (buf ++ escB (bt s (i : Int))) (by omega) (by omega) (by rw [List.length_append (as := buf)]; omega)
   rw [List.append_assoc] at ih
   refine .next ?_ ih
   show json_quote_b1 _ _ _ _ _
   unfold json_quote_b1
   dsimp only
   have he := tb0_ok hr
   rw [if_pos (by omega)]
   refine ⟨by omega, by omega, ?_⟩
   by_cases h0 : ix tb_0 (bt s (i : Int)) = 0
   ·rw [if_pos h0]
    rw [if_pos h0] at he
    by_cases h32 : bt s (i : Int) < 32
    ·rw [if_pos h32]
     rw [if_pos h32] at he
     rw [← he] at hl ⊢
     simp only [List.length_cons, List.length_nil] at hl
     have q1 : IntKind.u8.wrap (Int.tdiv (bt s (i : Int)) 16) = bt s (i : Int) / 16 := by rw [Int.tdiv_eq_ediv_of_nonneg (by omega), u8_id (by omega)]
     have q2 : Int.tmod (bt s (i : Int)) 16 = bt s (i : Int) % 16 := by rw [Int.tmod_eq_emod_of_nonneg (by omega)]
     rw [q1, q2]
     have hsz : ((⟨#[48, 49, 50, 51, 52, 53, 54, 55, 56, 57, 97, 98, 99, 100, 101, 102]⟩ : ByteArray).size : Int) = 16 := rfl
     have hu : bsOf (⟨#[92, 117, 48, 48]⟩ : ByteArray) = [92, 117, 48, 48] := rfl
     have hus : (⟨#[92, 117, 48, 48]⟩ : ByteArray).size = 4 := rfl
     refine ⟨_, wstr_ok (by rw [hus]; dsimp only; omega), by rw [hsz]; omega, _, wbyte_ok (by dsimp only; rw [List.length_append, hu]; simp only [List.length_cons, List.length_nil]; omega), by rw [hsz]; omega, _, wbyte_ok (by dsimp only; rw [List.length_append, List.length_append, hu]; simp only [List.length_cons, List.length_nil]; omega), ?_⟩
     rw [w64_nat (by omega), hexA_ok (x := bt s (i : Int) / 16) (by omega), hexA_ok (x := bt s (i : Int) % 16) (by omega), hu]
     simp only [List.append_assoc, List.cons_append, List.nil_append]
     rfl
    ·rw [if_neg h32]
     rw [if_neg h32] at he
     rw [← he] at hl ⊢
     simp only [List.length_cons, List.length_nil] at hl
     refine ⟨_, wbyte_ok (by dsimp only; omega), ?_⟩
     rw [w64_nat (by omega)]
     rfl
   ·rw [if_neg h0]
    rw [if_neg h0] at he
    rw [← he] at hl ⊢
    simp only [List.length_cons, List.length_nil] at hl
    refine ⟨_, wbyte_ok (by dsimp only; omega), _, wbyte_ok (by dsimp only; rw [List.length_append, List.length_singleton]; omega), ?_⟩
    rw [w64_nat (by omega)]
    simp only [List.append_assoc, List.cons_append, List.nil_append]
    rfl
  ·have hnil : (bsOf s).drop i = [] := List.drop_eq_nil_of_le (by rw [bsOf_len]; omega)
   rw [hnil] at hl ⊢
   refine .done ?_
   show json_quote_b1 _ _ _ _ _
   unfold json_quote_b1
   rw [if_neg (by dsimp only; omega)]
   refine ⟨_, wbyte_ok (by simp only [List.flatMap_nil, List.nil_append, List.length_singleton] at hl; dsimp only; omega), rfl⟩
theorem jquote_ok {s : ByteArray} (hs : s.size ≤ 2 ^ 48) {b : strings_Builder} (hl : b.buf.length + (quoteL (bsOf s)).length ≤ LIM) : json_quote b s ⟨true, b.buf ++ quoteL (bsOf s)⟩ := by
 unfold quoteL at hl ⊢
 rw [List.length_cons] at hl
 unfold json_quote
 refine ⟨_, wbyte_ok (by omega), ?_⟩
 have := jquote_loop hs (s.size + 1) 0 true (b.buf ++ [34]) (by omega) (by omega) (by rw [List.length_append, List.length_singleton, List.drop_zero]; omega)
 rw [List.drop_zero, List.append_assoc, List.singleton_append] at this
 exact this
def textF : F → Bool → Bool → List Int
 | .nil, _, _ => []
 | .cons x k s, obj, first => (if first = true then [] else [44]) ++ ((if obj = true then quoteL (bsOf x.key) ++ [58] else []) ++ ((if x.kind = 1 then [110, 117, 108, 108] else if x.kind = 2 then [102, 97, 108, 115, 101] else if x.kind = 3 then [116, 114, 117, 101] else if x.kind = 4 then bsOf x.text else if x.kind = 5 then quoteL (bsOf x.text) else if x.kind = 7 then 123 :: (textF k true true ++ [125]) else 91 :: (textF k false true ++ [93])) ++ textF s obj false))
def valT (x : JNd) (k : F) : List Int := if x.kind = 1 then [110, 117, 108, 108] else if x.kind = 2 then [102, 97, 108, 115, 101] else if x.kind = 3 then [116, 114, 117, 101] else if x.kind = 4 then bsOf x.text else if x.kind = 5 then quoteL (bsOf x.text) else if x.kind = 7 then 123 :: (textF k true true ++ [125]) else 91 :: (textF k false true ++ [93])
def keyT (x : JNd) (obj : Bool) : List Int := if obj = true then quoteL (bsOf x.key) ++ [58] else []
def sepT (first : Bool) : List Int := if first = true then [] else [44]
theorem textF_cons (x : JNd) (k s : F) (obj first : Bool) : textF (.cons x k s) obj first = sepT first ++ (keyT x obj ++ (valT x k ++ textF s obj false)) := rfl
theorem Bts.cons {x : Int} {l : List Int} (h : 0 ≤ x ∧ x ≤ 255) (hl : Bts l) : Bts (x :: l) := fun y hy => by
 rcases List.mem_cons.1 hy with rfl | hy
 ·exact h
 ·exact hl y hy
section
variable {v : List JNd}
theorem jprint_kids (hv : Sz v) {n p : Nat} {obj : Bool} (mk : ByteArray) (hmk : mk.size = 2) (hobj : ((ix v (p : Int)).kind == 7) = obj) {c : Nat} (hk : (ix v (p : Int)).kids = (c : Int)) (hc : c ≤ 2 ^ 42)
  (hrc : ∀ (b : Nat) (x : JNd) (k s : F) (key q : Bool) (buf : List Int), p < b → At v b (.cons x k s) → buf.length + (keyT x key ++ valT x k).length ≤ LIM → json_Print_1_n n key v (b : Int) ⟨q, buf⟩ (v, ((b + 1 + (flat k).length : Nat) : Int), ⟨true, buf ++ (keyT x key ++ valT x k)⟩)) :
  ∀ (s : F) (a i : Nat) (q : Bool) (buf : List Int), p < a → At v a s → i + cnt s = c → buf.length + (textF s obj (decide (i = 0)) ++ [bt mk 1]).length ≤ LIM →
  Rounds (fun (s : Int × Bool × (List Int) × (List JNd) × Int) o => json_Print_1_b3 v (p : Int) (json_Print_1_n n) mk s.1 s.2.1 s.2.2.1 s.2.2.2.1 s.2.2.2.2 o) ((i : Int), q, buf, v, (a : Int)) (v, ((a + (flat s).length : Nat) : Int), ⟨true, buf ++ (textF s obj (decide (i = 0)) ++ [bt mk 1])⟩)
 | .nil, a, i, q, buf, hpa, h, hi, hl => by
  refine .done ?_
  show json_Print_1_b3 _ _ _ _ _ _ _ _ _ _
  unfold json_Print_1_b3
  simp only [cnt] at hi
  rw [if_neg (by dsimp only; rw [hk]; omega)]
  simp only [textF, List.nil_append, List.length_singleton] at hl ⊢
  refine ⟨by rw [hmk]; omega, _, wbyte_ok (by dsimp only; omega), rfl⟩
 | .cons x k s, a, i, q, buf, hpa, h, hi, hl => by
  obtain ⟨h1, h2, h3, h4, h5⟩ := h.cons
  simp only [cnt] at hi
  rw [textF_cons] at hl ⊢
  simp only [List.length_append, List.length_singleton] at hl
  have hs0 : decide (i + 1 = 0) = false := decide_eq_false (by omega)
  have ih := jprint_kids hv mk hmk hobj hk hc hrc s (a + 1 + (flat k).length) (i + 1) true (buf ++ (sepT (decide (i = 0)) ++ (keyT x obj ++ valT x k))) (by omega) h4 (by omega) (by rw [hs0]; simp only [List.length_append, List.length_singleton]; omega)
  rw [hs0] at ih
  have e1 : a + 1 + (flat k).length + (flat s).length = a + (flat (.cons x k s)).length := by simp only [flat, List.length_cons, List.length_append]; omega
  have e2 : buf ++ (sepT (decide (i = 0)) ++ (keyT x obj ++ valT x k)) ++ (textF s obj false ++ [bt mk 1]) = buf ++ (sepT (decide (i = 0)) ++ (keyT x obj ++ (valT x k ++ textF s obj false)) ++ [bt mk 1]) := by simp only [List.append_assoc]
  rw [e1, e2] at ih
  refine .next ?_ ih
  show json_Print_1_b3 _ _ _ _ _ _ _ _ _ _
  unfold json_Print_1_b3
  dsimp only
  rw [if_pos (by rw [hk]; omega), hobj]
  by_cases hi0 : i = 0
  ·rw [if_neg (by omega), decide_eq_true hi0]
   refine ⟨_, hrc a x k s obj q buf hpa h (by rw [List.length_append]; omega), ?_⟩
   rw [w64_nat (by omega)]
   rfl
  ·rw [if_pos (by omega), decide_eq_false hi0]
   rw [decide_eq_false hi0] at hl
   have hs1 : (sepT false).length = 1 := rfl
   refine ⟨_, wbyte_ok (by dsimp only; omega), _, hrc a x k s obj true (buf ++ [44]) hpa h (by simp only [List.length_append, List.length_singleton]; omega), ?_⟩
   rw [w64_nat (by omega)]
   simp only [List.append_assoc]
   rfl
theorem jprint_ok (hv : Sz v) (hal : ∀ x ∈ v, sndB x = true) : ∀ (n a : Nat) (x : JNd) (k s : F) (key q : Bool) (buf : List Int), v.length - a < n → At v a (.cons x k s) → buf.length + (keyT x key ++ valT x k).length ≤ LIM → json_Print_1_n n key v (a : Int) ⟨q, buf⟩ (v, ((a + 1 + (flat k).length : Nat) : Int), ⟨true, buf ++ (keyT x key ++ valT x k)⟩)
 | 0, a, x, k, s, key, q, buf, hn, h, hl => absurd hn (Nat.not_lt_zero _)
 | n + 1, a, x, k, s, key, q, buf, hn, h, hl => by
  obtain ⟨h1, h2, h3, h4, h5⟩ := h.cons
  have hsz := hv.2 x (by rw [← h2, ix_nat h1]; exact List.getElem_mem _)
  have hv1 := hv.1
  show json_Print_1_body (json_Print_1_n n) key v (a : Int) ⟨q, buf⟩ _
  unfold json_Print_1_body
  refine ⟨by omega, ?_⟩
  have hcnt : cnt k ≤ 2 ^ 42 := by
   obtain ⟨_, _, r, e⟩ := h3
   have := congrArg List.length e
   have := cnt_le k
   simp only [List.length_drop, List.length_append] at *
   omega
  have main : ∀ (q2 : Bool) (b2 : List Int), b2.length + (valT x k).length ≤ LIM → (k = .nil ∨ x.kind = 6 ∨ x.kind = 7 ∨ ¬ (1 ≤ x.kind ∧ x.kind ≤ 5) ) → json_Print_1_j1 v (a : Int) (json_Print_1_n n) q2 b2 (v, ((a + 1 + (flat k).length : Nat) : Int), ⟨true, b2 ++ valT x k⟩) := by
   intro q2 b2 hb hk0
   unfold json_Print_1_j1
   rw [h2]
   unfold valT at hb ⊢
   have hw : w64 ((a : Int) + 1) = (a : Int) + 1 := w64_nat (by omega)
   have hnil : 1 ≤ x.kind ∧ x.kind ≤ 5 → ((a + 1 + (flat k).length : Nat) : Int) = (a : Int) + 1 := fun g => by
    rcases hk0 with e | e | e | e
    ·rw [e]; rfl
    ·omega
    ·omega
    ·exact absurd g e
   rw [hw]
   by_cases k1 : x.kind = 1
   ·rw [if_pos k1, hnil (by omega)]
    rw [if_pos k1] at hb ⊢
    exact ⟨_, wstr_ok hb, rfl⟩
   rw [if_neg k1] at hb ⊢
   rw [if_neg k1]
   by_cases k2 : x.kind = 2
   ·rw [if_pos k2, hnil (by omega)]
    rw [if_pos k2] at hb ⊢
    exact ⟨_, wstr_ok hb, rfl⟩
   rw [if_neg k2] at hb ⊢
   rw [if_neg k2]
   by_cases k3 : x.kind = 3
   ·rw [if_pos k3, hnil (by omega)]
    rw [if_pos k3] at hb ⊢
    exact ⟨_, wstr_ok hb, rfl⟩
   rw [if_neg k3] at hb ⊢
   rw [if_neg k3]
   by_cases k4 : x.kind = 4
   ·rw [if_pos k4, hnil (by omega)]
    rw [if_pos k4] at hb ⊢
    exact ⟨_, wstr_ok (by rw [bsOf_len] at hb; exact hb), rfl⟩
   rw [if_neg k4] at hb ⊢
   rw [if_neg k4]
   by_cases k5 : x.kind = 5
   ·rw [if_pos k5, hnil (by omega)]
    rw [if_pos k5] at hb ⊢
    exact ⟨_, jquote_ok hsz.2 hb, rfl⟩
   rw [if_neg k5] at hb ⊢
   rw [if_neg k5]
   have hkids : (ix v (a : Int)).kids = (cnt k : Int) := by rw [h2]; exact h5
   have hrc : ∀ (b : Nat) (x : JNd) (k s : F) (key q : Bool) (buf : List Int), a < b → At v b (.cons x k s) → buf.length + (keyT x key ++ valT x k).length ≤ LIM → json_Print_1_n n key v (b : Int) ⟨q, buf⟩ (v, ((b + 1 + (flat k).length : Nat) : Int), ⟨true, buf ++ (keyT x key ++ valT x k)⟩) := fun b x k s key q buf hb hat hl => jprint_ok hv hal n b x k s key q buf (by omega) hat hl
   by_cases k7 : x.kind = 7
   ·rw [if_pos k7]
    rw [if_pos k7] at hb ⊢
    rw [List.length_cons] at hb
    have hlast : 1 ≤ (textF k true true ++ [125]).length := by rw [List.length_append, List.length_singleton]; omega
    have := jprint_kids hv (n := n) (p := a) (obj := true) ⟨#[123, 125]⟩ rfl (by rw [h2, k7]; rfl) hkids hcnt hrc k (a + 1) 0 true (b2 ++ [123]) (by omega) h3 (by omega) (by rw [List.length_append, List.length_singleton, show bt (⟨#[123, 125]⟩ : ByteArray) 1 = 125 by rfl, decide_eq_true rfl]; omega)
    rw [decide_eq_true rfl, show bt (⟨#[123, 125]⟩ : ByteArray) 1 = 125 by rfl] at this
    unfold json_Print_1_j2
    refine ⟨by show 0 ≤ (0 : Int) ∧ (0 : Int) < 2; omega, _, wbyte_ok (by dsimp only; omega), ?_⟩
    rw [hw, show bt (⟨#[123, 125]⟩ : ByteArray) 0 = 123 by rfl]
    rw [List.append_assoc] at this
    exact this
   ·rw [if_neg k7]
    rw [if_neg k7] at hb ⊢
    rw [List.length_cons] at hb
    have hlast : 1 ≤ (textF k false true ++ [93]).length := by rw [List.length_append, List.length_singleton]; omega
    have := jprint_kids hv (n := n) (p := a) (obj := false) ⟨#[91, 93]⟩ rfl (by rw [h2]; exact beq_eq_false_iff_ne.2 k7) hkids hcnt hrc k (a + 1) 0 true (b2 ++ [91]) (by omega) h3 (by omega) (by rw [List.length_append, List.length_singleton, show bt (⟨#[91, 93]⟩ : ByteArray) 1 = 93 by rfl, decide_eq_true rfl]; omega)
    rw [decide_eq_true rfl, show bt (⟨#[91, 93]⟩ : ByteArray) 1 = 93 by rfl] at this
    unfold json_Print_1_j2
    refine ⟨by show 0 ≤ (0 : Int) ∧ (0 : Int) < 2; omega, _, wbyte_ok (by dsimp only; omega), ?_⟩
    rw [hw, show bt (⟨#[91, 93]⟩ : ByteArray) 0 = 91 by rfl]
    rw [List.append_assoc] at this
    exact this
  have hk0 : k = .nil ∨ x.kind = 6 ∨ x.kind = 7 ∨ ¬ (1 ≤ x.kind ∧ x.kind ≤ 5) := by
   have hx := hal x (by rw [← h2, ix_nat h1]; exact List.getElem_mem _)
   cases hm : isMany x with
   | false =>
    left
    have := (snd_kids hx).2 hm
    exact cnt_nil (by omega)
   | true =>
    simp only [isMany, Bool.or_eq_true, decide_eq_true_eq] at hm
    omega
  rw [List.length_append] at hl
  rw [h2]
  cases key with
  | false =>
   rw [if_neg (by simp)]
   have e : keyT x false = [] := rfl
   rw [e, List.nil_append]
   exact main q buf (by omega) hk0
  | true =>
   rw [if_pos rfl]
   have e : keyT x true = quoteL (bsOf x.key) ++ [58] := rfl
   rw [e, List.length_append, List.length_singleton] at hl
   refine ⟨_, jquote_ok hsz.1 (by dsimp only; omega), _, wbyte_ok (by dsimp only; rw [List.length_append]; omega), ?_⟩
   have := main true (buf ++ quoteL (bsOf x.key) ++ [58]) (by simp only [List.length_append, List.length_singleton]; omega) hk0
   rw [e]
   simp only [List.append_assoc] at this ⊢
   exact this
end
end Go.Proofs.YtmfopcbjgbphaaaDoor.L
