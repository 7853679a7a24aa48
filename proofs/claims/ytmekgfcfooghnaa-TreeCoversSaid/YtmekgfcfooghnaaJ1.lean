/- Trees as texts: names in quotes. Conditions: sizes. -/
import Derived.Test.YtmekgfcfooghnaaF9
import Derived.Test.YtmekgfcfooghnaaU2
import Derived.KernelRfl
set_option linter.unusedVariables false
namespace Go.Proofs.Ytmekgfcfooghnaa.L
open Go.Proofs.Ytmekgfcfooghnaa.B Go.Proofs.Ytmekgfcfooghnaa.R
def hxD : ByteArray := ⟨#[48, 49, 50, 51, 52, 53, 54, 55, 56, 57, 97, 98, 99, 100, 101, 102]⟩
def qc (c : Int) : List Int := if c = 34 ∨ c = 92 then [92, c] else if c = 10 then [92, 110] else if c < 32 ∨ c > 126 then [92, 120, bt hxD (c / 16), bt hxD (c % 16)] else [c]
def qL (s : ByteArray) : List Int := 34 :: ((bsOf s).flatMap qc ++ [34])
theorem qc_len (c : Int) : (qc c).length ≤ 4 := by
 unfold qc
 split
 ·simp
 ·split
  ·simp
  ·split <;> simp
theorem qcs_len (l : List Int) : (l.flatMap qc).length ≤ 4 * l.length := by
 induction l with
 | nil => simp
 | cons a l ih => rw [List.flatMap_cons, List.length_append, List.length_cons]; have := qc_len a; omega
theorem qc_bts {c : Int} (h : 0 ≤ c ∧ c ≤ 255) : Bts (qc c) := by
 unfold qc
 split
 ·exact fun x hx => by simp at hx; omega
 ·split
  ·exact fun x hx => by simp at hx; omega
  ·split
   ·exact fun x hx => by
     simp only [List.mem_cons, List.not_mem_nil, or_false] at hx
     have h1 := bt_range hxD (c / 16)
     have h2 := bt_range hxD (c % 16)
     rcases hx with rfl | rfl | rfl | rfl <;> omega
   ·exact fun x hx => by simp at hx; omega
theorem qL_bts (s : ByteArray) : Bts (qL s) := by
 intro x hx
 unfold qL at hx
 rcases List.mem_cons.1 hx with rfl | hx
 ·omega
 ·rcases List.mem_append.1 hx with hx | hx
  ·obtain ⟨c, hc, hx⟩ := List.mem_flatMap.1 hx
   exact qc_bts (bsOf_bts s c hc) x hx
  ·simp at hx; omega
theorem qL_len (s : ByteArray) : (qL s).length ≤ 4 * s.size + 2 := by
 unfold qL
 have := qcs_len (bsOf s)
 rw [bsOf_len] at this
 simp only [List.length_cons, List.length_append, List.length_nil]
 omega
theorem writeByte_ok {b : Bool} {xs : List Int} {c : Int} (h : xs.length + 1 ≤ 211106232532992) : strings_Builder_WriteByte ⟨b, xs⟩ c ⟨true, xs ++ [c]⟩ := by
 refine ⟨⟨true, xs⟩, ?_, _, rfl, by simp; omega, rfl⟩
 unfold strings_Builder_copyCheck
 cases b
 ·rw [if_neg (by simp)]
 ·rw [if_pos rfl]
theorem writeString_ok {b : Bool} {xs : List Int} {s : ByteArray} (h : xs.length + s.size ≤ 211106232532992) : strings_Builder_WriteString ⟨b, xs⟩ s ((s.size : Int), ⟨true, xs ++ bsOf s⟩) := by
 refine ⟨⟨true, xs⟩, ?_, _, rfl, by rw [List.length_append, bsOf_len]; show (xs.length + s.size) * 1 ≤ _; omega, rfl⟩
 unfold strings_Builder_copyCheck
 cases b
 ·rw [if_neg (by simp)]
 ·rw [if_pos rfl]
theorem hex_fin : ∀ c : Fin 256, (shrV .u8 ((c.val : Nat) : Int) 4 = ((c.val : Nat) : Int) / 16 ∧ bits .and .u8 ((c.val : Nat) : Int) 15 = ((c.val : Nat) : Int) % 16) ∧ Int.tdiv ((c.val : Nat) : Int) 16 = ((c.val : Nat) : Int) / 16 ∧ Int.tmod ((c.val : Nat) : Int) 16 = ((c.val : Nat) : Int) % 16 := by decide +kernel
theorem chr_fin : ∀ k : Fin 16, bsOf (chrB (bt hxD ((k.val : Nat) : Int))) = [bt hxD ((k.val : Nat) : Int)] := by decide +kernel
theorem chr_hex {k : Int} (h : 0 ≤ k ∧ k < 16) : bsOf (chrB (bt hxD k)) = [bt hxD k] := by
 have := chr_fin ⟨k.toNat, by omega⟩
 simpa only [Int.toNat_of_nonneg h.1] using this
theorem hex_at {c : Int} (h : 0 ≤ c ∧ c ≤ 255) : shrV .u8 c 4 = c / 16 ∧ bits .and .u8 c 15 = c % 16 ∧ Int.tdiv c 16 = c / 16 ∧ Int.tmod c 16 = c % 16 := by
 have := hex_fin ⟨c.toNat, by omega⟩
 simp only [Int.toNat_of_nonneg h.1] at this
 exact ⟨this.1.1, this.1.2, this.2.1, this.2.2⟩
theorem chr34 : bsOf ((⟨#[92]⟩ : ByteArray) ++ chrB (IntKind.i32.wrap 34)) = [92, 34] := by decide +kernel
theorem chr92 : bsOf ((⟨#[92]⟩ : ByteArray) ++ chrB (IntKind.i32.wrap 92)) = [92, 92] := by decide +kernel
theorem size_bs {s : ByteArray} {l : List Int} (h : bsOf s = l) : s.size = l.length := by rw [← h, bsOf_len]
theorem quoted_ok {s : ByteArray} (hs : s.size ≤ 2 ^ 44) : tree_quoted s (ofBs (qL s)) := by
 unfold tree_quoted
 refine ⟨_, writeByte_ok (by simp), by omega, ?_⟩
 have hq : ∀ i, i ≤ s.size → (34 :: ((bsOf s).take i).flatMap qc).length ≤ 4 * i + 1 := fun i hi => by
  have hl := qcs_len ((bsOf s).take i)
  rw [List.length_take, bsOf_len] at hl
  rw [List.length_cons]
  omega
 have key := Rounds.upto (B := fun (q : Int × Bool × (List Int)) o => tree_quoted_b1 s q.1 q.2.1 q.2.2 o) (r := ofBs (qL s)) (fun i => ((i : Int), true, 34 :: ((bsOf s).take i).flatMap qc)) s.size (fun i hi => ?_) ?_
 ·simpa using key
 ·show tree_quoted_b1 s (i : Int) true (34 :: ((bsOf s).take i).flatMap qc) _
  have hol := hq i (by omega)
  have hc := bt_range s (i : Int)
  have hst : ((i + 1 : Nat) : Int) = w64 ((i : Int) + 1) := by rw [w64_nat (by omega)]; rfl
  have hnext : (34 :: ((bsOf s).take (i + 1)).flatMap qc) = (34 :: ((bsOf s).take i).flatMap qc) ++ qc (bt s (i : Int)) := by rw [bsOf_take hi, List.flatMap_append]; simp
  rw [hnext, hst]
  unfold tree_quoted_b1
  rw [bsOf_len, if_pos (by omega), ix_bs hi]
  refine ⟨by omega, ?_⟩
  generalize 34 :: ((bsOf s).take i).flatMap qc = out at *
  have hbt : ix (bsOf s) (i : Int) = bt s (i : Int) := ix_bs hi
  have two : ∀ t : ByteArray, bsOf t = qc (bt s (i : Int)) → strings_Builder_WriteString ⟨true, out⟩ t ((t.size : Int), ⟨true, out ++ qc (bt s (i : Int))⟩) := fun t ht => by
   have := qc_len (bt s (i : Int))
   have h1 := size_bs ht
   have := writeString_ok (b := true) (xs := out) (s := t) (by omega)
   rwa [ht] at this
  have j2 : ∀ x : Bool, (x = true ↔ bt s (i : Int) = 34 ∨ bt s (i : Int) = 92) → tree_quoted_j2 s (i : Int) true out x (.inl (w64 ((i : Int) + 1), true, out ++ qc (bt s (i : Int)))) := fun x hx => by
   unfold tree_quoted_j2
   rw [hbt]
   cases x with
   | true =>
    rw [if_pos rfl]
    have hv := hx.1 rfl
    have hb : bsOf ((⟨#[92]⟩ : ByteArray) ++ chrB (IntKind.i32.wrap (bt s (i : Int)))) = qc (bt s (i : Int)) := by
     unfold qc
     rw [if_pos hv]
     rcases hv with hv | hv <;> rw [hv]
     ·exact chr34
     ·exact chr92
    have hz := size_bs hb
    have := qc_len (bt s (i : Int))
    rw [ByteArray.size_append] at hz
    exact ⟨by omega, _, two _ hb, rfl⟩
   | false =>
    have hv : ¬ (bt s (i : Int) = 34 ∨ bt s (i : Int) = 92) := fun e => by have := hx.2 e; cases this
    rw [if_neg (by simp)]
    by_cases h10 : bt s (i : Int) = 10
    ·rw [if_pos h10]
     exact ⟨_, two _ (by unfold qc; rw [if_neg hv, if_pos h10]; rfl), rfl⟩
    ·rw [if_neg h10]
     have j3 : ∀ y : Bool, (y = true ↔ bt s (i : Int) < 32 ∨ bt s (i : Int) > 126) → tree_quoted_j3 s (i : Int) true out y (.inl (w64 ((i : Int) + 1), true, out ++ qc (bt s (i : Int)))) := fun y hy => by
      unfold tree_quoted_j3
      rw [hbt]
      obtain ⟨q1, q2, _, _⟩ := hex_at hc
      rw [q1, q2]
      cases y with
      | true =>
       rw [if_pos rfl]
       have hv2 := hy.1 rfl
       have e1 := chr_hex (k := bt s (i : Int) / 16) (by omega)
       have e2 := chr_hex (k := bt s (i : Int) % 16) (by omega)
       have z1 := size_bs e1
       have z2 := size_bs e2
       change (chrB (bt hxD _)).size = 1 at z1
       change (chrB (bt hxD _)).size = 1 at z2
       have zz : (⟨#[92, 120]⟩ : ByteArray).size = 2 := rfl
       have zd : hxD.size = 16 := rfl
       change (0 ≤ bt s (i : Int) / 16 ∧ bt s (i : Int) / 16 < (hxD.size : Int)) ∧ ((⟨#[92, 120]⟩ : ByteArray).size + (chrB (bt hxD (bt s (i : Int) / 16))).size ≤ 9223372036854775807) ∧ (0 ≤ bt s (i : Int) % 16 ∧ bt s (i : Int) % 16 < (hxD.size : Int)) ∧ (((⟨#[92, 120]⟩ : ByteArray) ++ chrB (bt hxD (bt s (i : Int) / 16))).size + (chrB (bt hxD (bt s (i : Int) % 16))).size ≤ 9223372036854775807) ∧ _
       rw [ByteArray.size_append, z1, z2, zz, zd]
       refine ⟨by omega, by omega, by omega, by omega, _, two _ ?_, rfl⟩
       rw [bsOf_app, bsOf_app]
       unfold qc
       rw [if_neg hv, if_neg h10, if_pos hv2]
       have e3 : ∀ a b : List Int, a = [bt hxD (bt s (i : Int) / 16)] → b = [bt hxD (bt s (i : Int) % 16)] → bsOf (⟨#[92, 120]⟩ : ByteArray) ++ a ++ b = [92, 120, bt hxD (bt s (i : Int) / 16), bt hxD (bt s (i : Int) % 16)] := fun a b ha hb => by rw [ha, hb]; rfl
       exact e3 _ _ e1 e2
      | false =>
       have hv2 : ¬ (bt s (i : Int) < 32 ∨ bt s (i : Int) > 126) := fun e => by have := hy.2 e; cases this
       rw [if_neg (by simp)]
       have e : qc (bt s (i : Int)) = [bt s (i : Int)] := by unfold qc; rw [if_neg hv, if_neg h10, if_neg hv2]
       rw [e]
       exact ⟨_, writeByte_ok (by omega), rfl⟩
     by_cases g1 : bt s (i : Int) < 32
     ·rw [if_pos g1]; exact j3 true (by simp [g1])
     ·rw [if_neg g1]; exact j3 _ (by simp [g1])
  by_cases g : bt s (i : Int) = 34
  ·rw [if_pos g]; exact j2 true (by simp [g])
  ·rw [if_neg g]; exact j2 _ (by simp [g])
 ·show tree_quoted_b1 s (s.size : Int) true (34 :: ((bsOf s).take s.size).flatMap qc) _
  have hol := hq s.size (Nat.le_refl _)
  unfold tree_quoted_b1
  rw [bsOf_len, if_neg (by omega)]
  refine ⟨_, writeByte_ok (by omega), _, rfl, ?_⟩
  rw [← bsOf_len s, List.take_length]
  rfl
theorem refQuoted_ok {s : ByteArray} (hs : s.size ≤ 2 ^ 44) : trellisref15_Quoted s (ofBs (qL s)) := by
 unfold trellisref15_Quoted
 have hq : ∀ i, i ≤ s.size → (34 :: ((bsOf s).take i).flatMap qc).length ≤ 4 * i + 1 := fun i hi => by
  have hl := qcs_len ((bsOf s).take i)
  rw [List.length_take, bsOf_len] at hl
  rw [List.length_cons]
  omega
 have key := Rounds.upto (B := fun (q : (List Int) × Int) o => trellisref15_Quoted_b1 s q.1 q.2 o) (r := ofBs (qL s)) (fun i => (34 :: ((bsOf s).take i).flatMap qc, (i : Int))) s.size (fun i hi => ?_) ?_
 ·simpa using key
 ·show trellisref15_Quoted_b1 s (34 :: ((bsOf s).take i).flatMap qc) (i : Int) _
  have hol := hq i (by omega)
  have hc := bt_range s (i : Int)
  have hql := qc_len (bt s (i : Int))
  have hst : ((i + 1 : Nat) : Int) = w64 ((i : Int) + 1) := by rw [w64_nat (by omega)]; rfl
  have hnext : (34 :: ((bsOf s).take (i + 1)).flatMap qc) = (34 :: ((bsOf s).take i).flatMap qc) ++ qc (bt s (i : Int)) := by rw [bsOf_take hi, List.flatMap_append]; simp
  rw [hnext, hst]
  unfold trellisref15_Quoted_b1
  have hw : w64 (bt s (i : Int)) = bt s (i : Int) := w64_id (by omega)
  rw [if_pos (by omega), hw]
  refine ⟨by omega, ?_⟩
  generalize 34 :: ((bsOf s).take i).flatMap qc = out at *
  have app : ∀ l : List Int, l = qc (bt s (i : Int)) → ∃ x : List Int, x = out ++ l ∧ x.length * 1 ≤ 211106232532992 ∧ (Sum.inl (x, w64 ((i : Int) + 1)) : Sum ((List Int) × Int) ByteArray) = .inl (out ++ qc (bt s (i : Int)), w64 ((i : Int) + 1)) := fun l hl => ⟨_, rfl, by rw [List.length_append, hl]; omega, by rw [hl]⟩
  have j2 : ∀ x : Bool, (x = true ↔ bt s (i : Int) = 34 ∨ bt s (i : Int) = 92) → trellisref15_Quoted_j2 out s (i : Int) x (.inl (out ++ qc (bt s (i : Int)), w64 ((i : Int) + 1))) := fun x hx => by
   unfold trellisref15_Quoted_j2
   rw [hw]
   cases x with
   | true =>
    rw [if_pos rfl]
    obtain ⟨x, g1, g2, g3⟩ := app _ (show [92, bt s (i : Int)] = _ by unfold qc; rw [if_pos (hx.1 rfl)])
    exact ⟨x, g1, g2, g3.symm⟩
   | false =>
    have hv : ¬ (bt s (i : Int) = 34 ∨ bt s (i : Int) = 92) := fun e => by have := hx.2 e; cases this
    rw [if_neg (by simp)]
    by_cases h10 : bt s (i : Int) = 10
    ·rw [if_pos h10]
     obtain ⟨x, g1, g2, g3⟩ := app _ (show [92, 110] = _ by unfold qc; rw [if_neg hv, if_pos h10])
     exact ⟨x, g1, g2, g3.symm⟩
    ·rw [if_neg h10]
     have j3 : ∀ y : Bool, (y = true ↔ bt s (i : Int) < 32 ∨ bt s (i : Int) > 126) → trellisref15_Quoted_j3 s (i : Int) out y (.inl (out ++ qc (bt s (i : Int)), w64 ((i : Int) + 1))) := fun y hy => by
      unfold trellisref15_Quoted_j3
      obtain ⟨_, _, q1, q2⟩ := hex_at hc
      rw [hw, q1, q2, w64_id (x := bt s (i : Int) / 16) (by omega)]
      cases y with
      | true =>
       rw [if_pos rfl]
       have zd : hxD.size = 16 := rfl
       change (0 ≤ bt s (i : Int) / 16 ∧ bt s (i : Int) / 16 < (hxD.size : Int)) ∧ (0 ≤ bt s (i : Int) % 16 ∧ bt s (i : Int) % 16 < (hxD.size : Int)) ∧ _
       rw [zd]
       refine ⟨by omega, by omega, ?_⟩
       obtain ⟨x, g1, g2, g3⟩ := app _ (show [92, 120, bt hxD (bt s (i : Int) / 16), bt hxD (bt s (i : Int) % 16)] = _ by unfold qc; rw [if_neg hv, if_neg h10, if_pos (hy.1 rfl)])
       exact ⟨x, g1, g2, g3.symm⟩
      | false =>
       have hv2 : ¬ (bt s (i : Int) < 32 ∨ bt s (i : Int) > 126) := fun e => by have := hy.2 e; cases this
       rw [if_neg (by simp)]
       obtain ⟨x, g1, g2, g3⟩ := app _ (show [bt s (i : Int)] = _ by unfold qc; rw [if_neg hv, if_neg h10, if_neg hv2])
       exact ⟨x, g1, g2, g3.symm⟩
     by_cases g1 : bt s (i : Int) < 32
     ·rw [if_pos g1]; exact j3 true (by simp [g1])
     ·rw [if_neg g1]; exact j3 _ (by simp [g1])
  by_cases g : bt s (i : Int) = 34
  ·rw [if_pos g]; exact j2 true (by simp [g])
  ·rw [if_neg g]; exact j2 _ (by simp [g])
 ·show trellisref15_Quoted_b1 s (34 :: ((bsOf s).take s.size).flatMap qc) (s.size : Int) _
  have hol := hq s.size (Nat.le_refl _)
  unfold trellisref15_Quoted_b1
  rw [if_neg (by omega)]
  refine ⟨_, rfl, by simp only [List.length_append, List.length_singleton]; omega, ?_⟩
  rw [← bsOf_len s, List.take_length]
  rfl
end Go.Proofs.Ytmekgfcfooghnaa.L
