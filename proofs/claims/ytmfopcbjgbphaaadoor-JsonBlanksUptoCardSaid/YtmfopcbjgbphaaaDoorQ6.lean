/- JSON: the bound on nesting, Member, Int. Condition: sizes. -/
import Derived.Test.YtmfopcbjgbphaaaDoorQ5
set_option linter.unusedVariables false
namespace Go.Proofs.YtmfopcbjgbphaaaDoor.L
open Go.Proofs.YtmfopcbjgbphaaaDoor.B Go.Proofs.YtmfopcbjgbphaaaDoor.R
def In64 (x : Int) : Prop := -9223372036854775808 ≤ x ∧ x ≤ 9223372036854775807
section
variable {v : List JNd}
end
section
variable {v : List JNd}
theorem jsize_loop (hl : v.length ≤ 2 ^ 42) {a : Nat} : ∀ (m n c : Nat) {r : List JNd}, v.length - (a + n) < m → a + n ≤ v.length → beh (v.drop (a + n)) c = some r →
  Rounds (fun (s : Int × Int) o => json_size_b1 (a : Int) v s.1 s.2 o) ((n : Int), (c : Int)) ((v.length - r.length - a : Nat) : Int)
 | 0, n, c, r, hm, hn, h => absurd hm (Nat.not_lt_zero _)
 | m + 1, n, 0, r, hm, hn, h => by
  refine .done ?_
  show json_size_b1 _ _ _ _ _
  unfold json_size_b1
  rw [if_neg (by omega)]
  rw [beh_zero] at h
  injection h with h
  rw [← h, List.length_drop]
  congr 1
  omega
 | m + 1, n, c + 1, r, hm, hn, h => by
  by_cases hal : a + n < v.length
  ·rw [drop_ix hal, beh_cons] at h
   by_cases g : (ix v ((a + n : Nat) : Int)).kids < 0
   ·rw [if_pos g] at h; cases h
   ·rw [if_neg g] at h
    have hb := beh_le _ _ h
    rw [List.length_drop] at hb
    refine .next ?_ (jsize_loop hl m (n + 1) _ (by omega) (by omega) h)
    show json_size_b1 _ _ _ _ _
    unfold json_size_b1
    have e : w64 ((a : Int) + (n : Int)) = ((a + n : Nat) : Int) := by rw [w64_id (by omega)]; omega
    rw [if_pos (by omega), e]
    refine ⟨by omega, ?_⟩
    rw [w64_nat (by omega), w64_id (x := ((c + 1 : Nat) : Int) + _) (by omega), w64_id (by omega)]
    congr 2
    omega
  ·rw [List.drop_eq_nil_of_le (by omega), beh_nil] at h; cases h
theorem jsize_ok (hl : v.length ≤ 2 ^ 42) {a : Nat} {x : JNd} {k s : F} (h : At v a (.cons x k s)) : json_size v (a : Int) ((1 + (flat k).length : Nat) : Int) := by
 obtain ⟨h1, h2, h3, h4, h5⟩ := h.cons
 obtain ⟨hk, ha, r, e⟩ := h3
 unfold json_size
 refine ⟨by omega, ?_⟩
 have hb := beh_flat k r 0 hk
 rw [← e, beh_zero] at hb
 have := jsize_loop hl (v.length + 1) 1 (cnt k) (by omega) ha hb
 have hlen := congrArg List.length e
 rw [List.length_drop, List.length_append] at hlen
 rw [show v.length - r.length - a = 1 + (flat k).length by omega] at this
 rw [h2, h5]
 exact this
def memF (key : ByteArray) : F → Nat → Int
 | .nil, _ => -1
 | .cons x k s, a => if x.key = key then (a : Int) else memF key s (a + 1 + (flat k).length)
theorem jmem_loop (hl : v.length ≤ 2 ^ 42) {p n : Nat} {key : ByteArray} (hk : (ix v (p : Int)).kids = (n : Int)) (hn : n ≤ v.length) : ∀ (s : F) (a i : Nat), At v a s → i + cnt s = n →
  Rounds (fun (s : Int × Int) o => json_Member_b2 v (p : Int) key s.1 s.2 o) ((a : Int), (i : Int)) (memF key s a)
 | .nil, a, i, h, hi => by
  refine .done ?_
  show json_Member_b2 _ _ _ _ _ _
  unfold json_Member_b2
  simp only [cnt] at hi
  rw [hk, if_neg (by omega)]
  rfl
 | .cons x k s, a, i, h, hi => by
  obtain ⟨h1, h2, h3, h4, h5⟩ := h.cons
  simp only [cnt] at hi
  have hb : ∀ o, (if x.key = key then o = .inr (a : Int) else o = .inl (w64 ((a : Int) + ((1 + (flat k).length : Nat) : Int)), w64 ((i : Int) + 1))) → json_Member_b2 v (p : Int) key (a : Int) (i : Int) o := fun o ho => by
   unfold json_Member_b2
   rw [hk, if_pos (by omega)]
   refine ⟨by omega, ?_⟩
   rw [h2]
   by_cases g : x.key = key
   ·rw [if_pos g] at ho ⊢; exact ho
   ·rw [if_neg g] at ho ⊢
    exact ⟨_, jsize_ok hl h, ho⟩
  unfold memF
  by_cases g : x.key = key
  ·rw [if_pos g]
   exact .done (hb _ (by rw [if_pos g]))
  ·rw [if_neg g]
   have h41 := h4.2.1
   refine .next (hb _ ?_) (jmem_loop hl hk hn s (a + 1 + (flat k).length) (i + 1) h4 (by omega))
   rw [if_neg g, w64_id (by omega), w64_nat (by omega)]
   congr 2
   omega
theorem good_all {snd : JNd → Bool} : ∀ (f : F) (d : Nat) (key : Bool), Fit f → (∀ x, snd x = true → 0 ≤ x.kids ∧ (isMany x = false → x.kids = 0)) → good snd f d key = true → ∀ x ∈ flat f, snd x = true := by
 intro f d key hf hs h
 rw [good_ins hs f d key hf, Bool.and_eq_true, Bool.and_eq_true] at h
 exact List.all_eq_true.1 h.1.1
theorem shaped_snd (h : shaped v = true) : ∀ x ∈ v, sndB x = true := by
 obtain ⟨x, k, f1, f2, f3⟩ := shaped_iff.1 h
 rw [f2]
 exact good_all _ _ _ f1 (fun _ => snd_kids) f3
end
def digI : List Int → Int → Option Int
 | [], n => some n
 | x :: l, n => if x < 48 ∨ x > 57 then none else if n > (9223372036854775808 - (x - 48)) / 10 then none else digI l (10 * n + (x - 48))
def finI (minus : Bool) : Option Int → Int × Bool
 | none => (0, false)
 | some m => if minus = true then (-m, true) else if m > 9223372036854775807 then (0, false) else (m, true)
theorem jint_loop {s : ByteArray} {minus : Bool} (hs : s.size ≤ 2 ^ 48) : ∀ (m i : Nat) (n : Int), s.size - i < m → i ≤ s.size → 0 ≤ n ∧ n ≤ 9223372036854775808 →
  Rounds (fun (q : Int × Int) o => json_Int_b2 (s, minus) q.1 q.2 o) (n, (i : Int)) (finI minus (digI ((bsOf s).drop i) n))
 | 0, i, n, hm, hi, hn => absurd hm (Nat.not_lt_zero _)
 | m + 1, i, n, hm, hi, hn => by
  by_cases hil : i < s.size
  ·rw [bsOf_cons hil]
   have hr := bt_range s (i : Int)
   have hb : ∀ o, json_Int_j3 (i : Int) (s, minus) n (decide (bt s (i : Int) < 48 ∨ bt s (i : Int) > 57)) o → json_Int_b2 (s, minus) n (i : Int) o := fun o ho => by
    unfold json_Int_b2
    rw [if_pos (show (i : Int) < (s.size : Int) by omega)]
    refine ⟨by show 0 ≤ (i : Int) ∧ (i : Int) < (s.size : Int); omega, ?_⟩
    show if bt s (i : Int) < 48 then _ else json_Int_j3 (i : Int) (s, minus) n (decide (bt s (i : Int) > 57)) o
    by_cases g : bt s (i : Int) < 48
    ·rw [if_pos g]; rw [decide_eq_true (Or.inl g)] at ho; exact ho
    ·rw [if_neg g]
     by_cases g2 : bt s (i : Int) > 57
     ·rw [decide_eq_true (Or.inr g2)] at ho; rw [decide_eq_true g2]; exact ho
     ·rw [decide_eq_false (by omega)] at ho; rw [decide_eq_false g2]; exact ho
   unfold digI
   by_cases g : bt s (i : Int) < 48 ∨ bt s (i : Int) > 57
   ·rw [if_pos g]
    refine .done (hb _ ?_)
    rw [decide_eq_true g]
    unfold json_Int_j3
    rw [if_pos rfl]
    rfl
   ·rw [if_neg g]
    have e1 : IntKind.u64.wrap (IntKind.u8.wrap (bt s (i : Int) - 48)) = bt s (i : Int) - 48 := by rw [u8_id (by omega), IntKind.wrap_u64]; omega
    have e2 : IntKind.u64.wrap (Int.tdiv (IntKind.u64.wrap (9223372036854775808 - (bt s (i : Int) - 48))) 10) = (9223372036854775808 - (bt s (i : Int) - 48)) / 10 := by
     rw [show IntKind.u64.wrap (9223372036854775808 - (bt s (i : Int) - 48)) = 9223372036854775808 - (bt s (i : Int) - 48) by rw [IntKind.wrap_u64]; omega, Int.tdiv_eq_ediv_of_nonneg (by omega), IntKind.wrap_u64]
     omega
    have hj : ∀ o, (if n > (9223372036854775808 - (bt s (i : Int) - 48)) / 10 then o = .inr ((0, false)) else o = .inl (10 * n + (bt s (i : Int) - 48), ((i + 1 : Nat) : Int))) → json_Int_j3 (i : Int) (s, minus) n false o := fun o ho => by
     unfold json_Int_j3
     rw [if_neg (by simp)]
     refine ⟨by show 0 ≤ (i : Int) ∧ (i : Int) < (s.size : Int); omega, ?_⟩
     show if n > IntKind.u64.wrap (Int.tdiv (IntKind.u64.wrap (9223372036854775808 - (IntKind.u64.wrap (IntKind.u8.wrap ((bt s (i : Int)) - 48))))) 10) then _ else o = .inl (IntKind.u64.wrap ((IntKind.u64.wrap (10 * n)) + (IntKind.u64.wrap (IntKind.u8.wrap ((bt s (i : Int)) - 48)))), w64 ((i : Int) + 1))
     rw [e1, e2]
     by_cases g2 : n > (9223372036854775808 - (bt s (i : Int) - 48)) / 10
     ·rw [if_pos g2] at ho ⊢; exact ho
     ·rw [if_neg g2] at ho ⊢
      rw [ho, w64_nat (by omega), show IntKind.u64.wrap (10 * n) = 10 * n by rw [IntKind.wrap_u64]; omega, show IntKind.u64.wrap (10 * n + (bt s (i : Int) - 48)) = 10 * n + (bt s (i : Int) - 48) by rw [IntKind.wrap_u64]; omega]
      rfl
    by_cases g2 : n > (9223372036854775808 - (bt s (i : Int) - 48)) / 10
    ·rw [if_pos g2]
     refine .done (hb _ ?_)
     rw [decide_eq_false g]
     exact hj _ (by rw [if_pos g2]; rfl)
    ·rw [if_neg g2]
     refine .next (hb _ ?_) (jint_loop hs m (i + 1) _ (by omega) (by omega) (by omega))
     rw [decide_eq_false g]
     exact hj _ (by rw [if_neg g2])
  ·rw [List.drop_eq_nil_of_le (by rw [bsOf_len]; omega)]
   refine .done ?_
   show json_Int_b2 _ _ _ _
   unfold json_Int_b2
   rw [if_neg (show ¬ (i : Int) < (s.size : Int) by omega)]
   unfold digI finI
   dsimp only
   cases minus with
   | true =>
    rw [if_pos rfl, if_pos rfl]
    have : w64 (IntKind.u64.wrap (0 - n)) = -n := by
     unfold w64
     rw [IntKind.wrap_u64, IntKind.wrap_i64]
     omega
    rw [this]
   | false =>
    rw [if_neg (show ¬ (false = true) by simp), if_neg (show ¬ (false = true) by simp)]
    by_cases g : n > 9223372036854775807
    ·rw [if_pos g, if_pos g]
    ·rw [if_neg g, if_neg g, w64_id (by omega)]
theorem cut_ok {s : ByteArray} (hs : 0 < s.size) : strings_CutPrefix s ⟨#[45]⟩ (if bt s 0 = 45 then (s.extract 1 s.size, true) else (s, false)) := by
 have hseq : seq (s.extract (0 : Int).toNat (((⟨#[45]⟩ : ByteArray).size : Int) : Int).toNat) ⟨#[45]⟩ = decide (bt s 0 = 45) := by
  rw [seqd, Bool.eq_iff_iff, decide_eq_true_eq, decide_eq_true_eq]
  have e : bsOf (s.extract (0 : Int).toNat (((⟨#[45]⟩ : ByteArray).size : Int) : Int).toNat) = [bt s 0] := by
   rw [bsOf_extract]
   show ((bsOf s).take 1).drop 0 = _
   have := bsOf_take (s := s) (i := 0) hs
   rw [List.take_zero, List.nil_append] at this
   rw [List.drop_zero]
   exact this
  constructor
  ·intro h
   rw [h] at e
   have : [(45 : Int)] = [bt s 0] := e
   injection this with this _
   exact this.symm
  ·intro h
   apply bs_inj
   rw [e, h]
   rfl
 have h1 : ((⟨#[45]⟩ : ByteArray).size : Int) = 1 := rfl
 have hp : internal_stringslite_HasPrefix s ⟨#[45]⟩ (decide (bt s 0 = 45)) := by
  unfold internal_stringslite_HasPrefix
  rw [if_pos (by rw [h1]; omega)]
  exact ⟨by rw [h1]; omega, hseq.symm⟩
 unfold strings_CutPrefix internal_stringslite_CutPrefix
 by_cases g : bt s 0 = 45
 ·rw [if_pos g]
  rw [decide_eq_true g] at hp
  refine ⟨(s.extract 1 s.size, true), ⟨_, hp, ?_⟩, rfl⟩
  rw [if_pos rfl]
  exact ⟨by rw [h1]; omega, by rw [Int.toNat_natCast]; rfl⟩
 ·rw [if_neg g]
  rw [decide_eq_false g] at hp
  refine ⟨(s, false), ⟨_, hp, ?_⟩, rfl⟩
  rw [if_neg (by simp)]
end Go.Proofs.YtmfopcbjgbphaaaDoor.L
