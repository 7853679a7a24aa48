/- JSON: the laws that need the program's answers alone: started, JsonSpares, JsonInts. Condition: sizes. -/
import Derived.Test.YtmfopcbjgbphaaaDoorQ9
import Derived.Test.YtmfopcbjgbphaaaDoorQ12
import Derived.Lib.ItoaMem
import Derived.Lib.ItoaLen
set_option linter.unusedVariables false
namespace Go.Proofs.YtmfopcbjgbphaaaDoor.L
open Go.Proofs.YtmfopcbjgbphaaaDoor.B Go.Proofs.YtmfopcbjgbphaaaDoor.R
section
variable {v : List api_JNode}
theorem jmember_yes (hv : Sz v) (hs : shaped v = true) {a : Nat} {x : api_JNode} {k : F} (hat : At v a (.cons x k .nil)) (h7 : x.kind = 7) (key : ByteArray) : json_Member v (a : Int) key (memF key k (a + 1)) := by
 obtain ⟨g1, g2, g3, g4, g5⟩ := hat.cons
 have hl := hv.1
 have hn : cnt k ≤ v.length := by
  obtain ⟨_, _, r, e⟩ := g3
  have := congrArg List.length e
  have := cnt_le k
  simp only [List.length_drop, List.length_append] at *
  omega
 unfold json_Member
 rw [if_neg (by omega), if_neg (by omega)]
 refine ⟨by omega, ?_⟩
 rw [g2, if_pos h7]
 refine ⟨_, jshaped_ok hv, ?_⟩
 rw [hs]
 unfold json_Member_j1
 rw [if_neg (by simp), w64_nat (by omega)]
 exact ⟨by omega, jmem_loop hl (by rw [g2]; exact g5) hn k (a + 1) 0 g3 (by omega)⟩
theorem jmember_no (hv : Sz v) (hs : shaped v = false) (hpos : 0 < v.length) (key : ByteArray) : json_Member v 0 key (-1) := by
 unfold json_Member
 have jno : json_Member_j1 0 v key true (-1) := by unfold json_Member_j1; rw [if_pos rfl]
 rw [if_neg (by omega), if_neg (by omega)]
 refine ⟨by omega, ?_⟩
 by_cases g : (ix v 0).kind = 7
 ·rw [if_pos g]
  refine ⟨_, jshaped_ok hv, ?_⟩
  rw [hs]; exact jno
 ·rw [if_neg g]; exact jno
theorem jint_val (hv : Sz v) (hs : shaped v = true) {a : Nat} {x : api_JNode} {k : F} (hat : At v a (.cons x k .nil)) (h4 : x.kind = 4) (hpos : 0 < x.text.size) : json_Int v (a : Int) (if bt x.text 0 = 45 then finI true (digI (bsOf (x.text.extract 1 x.text.size)) 0) else finI false (digI (bsOf x.text) 0)) := by
 obtain ⟨g1, g2, g3, g4, g5⟩ := hat.cons
 have hl := hv.1
 have hsz := (hv.2 x (by rw [← g2, ix_nat g1]; exact List.getElem_mem _)).2
 have hcut := cut_ok hpos
 unfold json_Int
 rw [if_neg (by omega), if_neg (by omega)]
 refine ⟨by omega, ?_⟩
 rw [g2, if_pos h4]
 refine ⟨_, jshaped_ok hv, ?_⟩
 rw [hs]
 unfold json_Int_j1
 rw [if_neg (by simp)]
 refine ⟨by omega, ?_⟩
 rw [g2]
 by_cases g : bt x.text 0 = 45
 ·rw [if_pos g] at hcut ⊢
  have hxs : (x.text.extract 1 x.text.size).size ≤ 2 ^ 48 := by rw [ByteArray.size_extract]; omega
  have := jint_loop (s := x.text.extract 1 x.text.size) (minus := true) hxs _ 0 0 (Nat.lt_succ_self _) (Nat.zero_le _) (by omega)
  rw [List.drop_zero] at this
  exact ⟨_, hcut, this⟩
 ·rw [if_neg g] at hcut ⊢
  have := jint_loop (s := x.text) (minus := false) hsz _ 0 0 (Nat.lt_succ_self _) (Nat.zero_le _) (by omega)
  rw [List.drop_zero] at this
  exact ⟨_, hcut, this⟩
end
abbrev S0 : ByteArray := ⟨#[32, 123, 34, 97, 34, 58, 91, 49, 44, 34, 92, 117, 48, 48, 101, 57, 34, 93, 125]⟩
abbrev m0 : api_JNode := ⟨7, ⟨#[]⟩, ⟨#[]⟩, 1⟩
abbrev m1 : api_JNode := ⟨6, ⟨#[97]⟩, ⟨#[]⟩, 2⟩
abbrev m2 : api_JNode := ⟨4, ⟨#[]⟩, ⟨#[49]⟩, 0⟩
abbrev m3 : api_JNode := ⟨5, ⟨#[]⟩, ⟨#[195, 169]⟩, 0⟩
abbrev v0 : List api_JNode := [m0, m1, m2, m3]
abbrev k0 : F := .cons m1 (.cons m2 .nil (.cons m3 .nil .nil)) .nil
theorem s0_parse : parseR S0 (parseL (bsOf S0)) = (v0, 0, 0) := by decide +kernel
theorem v0_fit : Fit (.cons m0 k0 .nil) := ⟨rfl, ⟨rfl, ⟨rfl, trivial, ⟨rfl, trivial, trivial⟩⟩, trivial⟩, trivial⟩
theorem v0_good : good sndB (.cons m0 k0 .nil) 0 false = true := by decide +kernel
theorem v0_text : ofBs (valT m0 k0) = ⟨#[123, 34, 97, 34, 58, 91, 49, 44, 34, 195, 169, 34, 93, 125]⟩ := by decide +kernel
theorem v0_sz : Sz v0 := ⟨by decide, by
 intro x hx
 simp only [List.mem_cons, List.not_mem_nil, or_false] at hx
 rcases hx with rfl | rfl | rfl | rfl <;> exact ⟨by decide, by decide⟩⟩
theorem started_ok : trellislaw25_started true := by
 have hs : shaped v0 = true := shaped_iff.2 ⟨m0, k0, v0_fit, rfl, v0_good⟩
 have hat := At.whole (v := v0) v0_fit rfl
 unfold trellislaw25_started
 refine ⟨(v0, 0, 0), by rw [← s0_parse]; exact jparse_ok (by decide), _, jprint_yes v0_sz v0_fit rfl v0_good (by decide), _, jint_val v0_sz hs (a := 2) (x := m2) (k := .nil) hat.cons.2.2.1.cons.2.2.1.first rfl (by decide), ?_⟩
 rw [if_pos rfl, if_pos rfl, if_pos (by rfl)]
 refine ⟨by decide, ?_⟩
 rw [if_pos (by rfl)]
 refine ⟨by decide, ?_⟩
 rw [if_pos (by rfl), if_pos rfl, if_pos v0_text]
 refine ⟨_, jmember_yes v0_sz hs (a := 0) hat rfl _, ?_⟩
 rw [if_pos (by decide +kernel), if_pos (by decide +kernel)]
 decide +kernel
def dd (u : Nat) : List Int := (Lib.decDigits u).map fun b => (b.toNat : Int)
theorem dd_small {u : Nat} (h : u < 10) : dd u = [48 + (u : Int)] := by
 unfold dd
 rw [Lib.decDigits_one h]
 simp only [List.map_cons, List.map_nil, UInt8.toNat_ofNat']
 congr 1
 omega
theorem dd_big {u : Nat} (h : ¬ u < 10) : dd u = dd (u / 10) ++ [48 + ((u % 10 : Nat) : Int)] := by
 unfold dd
 conv => lhs; rw [Lib.decDigits, dif_neg h]
 rw [List.map_append]
 simp only [List.map_cons, List.map_nil, UInt8.toNat_ofNat']
 congr 2
 omega
theorem dd_dig : ∀ (u : Nat), (∀ x ∈ dd u, 48 ≤ x ∧ x ≤ 57) ∧ ∃ x l, dd u = x :: l ∧ (x = 48 → l = []) := by
 intro u
 induction u using Nat.strongRecOn with
 | _ u ih =>
  by_cases h : u < 10
  ·rw [dd_small h]
   exact ⟨fun x hx => by rw [List.mem_singleton] at hx; omega, _, _, rfl, fun _ => rfl⟩
  ·rw [dd_big h]
   obtain ⟨i1, x, l, i2, i3⟩ := ih (u / 10) (by omega)
   refine ⟨fun y hy => ?_, x, l ++ [48 + ((u % 10 : Nat) : Int)], by rw [i2]; rfl, fun hx => ?_⟩
   ·rcases List.mem_append.1 hy with hy | hy
    ·exact i1 y hy
    ·rw [List.mem_singleton] at hy; omega
   ·exfalso
    have hl := i3 hx
    rw [hl, hx] at i2
    by_cases h2 : u / 10 < 10
    ·rw [dd_small h2] at i2
     injection i2 with i2 _
     omega
    ·rw [dd_big h2] at i2
     have := congrArg List.length i2
     rw [List.length_append, List.length_singleton, List.length_singleton] at this
     obtain ⟨_, x2, l2, i4, _⟩ := ih (u / 10 / 10) (by omega)
     rw [i4] at this
     simp at this
theorem dig_mem {x : Int} (h : 48 ≤ x ∧ x ≤ 57) : digB.contains x = true := by
 rw [List.contains_iff_mem]
 simp only [List.mem_cons, List.not_mem_nil, or_false]
 omega
theorem skip_all (l : List Int) : ∀ t : List Int, (∀ x ∈ t, l.contains x = true) → skipL l t = []
 | [], _ => rfl
 | x :: t, h => by
  unfold skipL
  rw [if_pos (h x (List.mem_cons_self ..))]
  exact skip_all l t fun y hy => h y (List.mem_cons_of_mem _ hy)
theorem intL_dd (u : Nat) : intL (dd u) = (true, []) := by
 obtain ⟨h1, x, l, h2, h3⟩ := dd_dig u
 have hx := h1 x (by rw [h2]; exact List.mem_cons_self ..)
 unfold intL
 by_cases g : x = 48
 ·rw [h2, h3 g, g]; rfl
 ·have g1 : ¬ isL [48] (dd u) = true := by rw [h2, isL_cons, List.contains_iff_mem, List.mem_singleton]; exact g
  have g2 : isL digB (dd u) = true := by rw [h2, isL_cons]; exact dig_mem hx
  rw [if_neg g1, if_pos g2]
  have e : (digL (dd u)).2 = [] := by
   unfold digL
   rw [if_pos g2]
   exact skip_all _ _ fun y hy => dig_mem (h1 y hy)
  rw [e]; rfl
theorem digI_app : ∀ (l : List Int) (x n m : Int), digI l n = some m → digI (l ++ [x]) n = digI [x] m
 | [], x, n, m, h => by
  unfold digI at h
  injection h with h
  rw [h]; rfl
 | y :: l, x, n, m, h => by
  unfold digI at h
  rw [List.cons_append]
  conv => lhs; unfold digI
  split at h
  ·cases h
  ·rename_i h1
   split at h
   ·cases h
   ·rename_i h2
    rw [if_neg h1, if_neg h2]
    exact digI_app l x _ m h
theorem digI_dd : ∀ (u : Nat), (u : Int) ≤ 9223372036854775808 → digI (dd u) 0 = some (u : Int) := by
 intro u
 induction u using Nat.strongRecOn with
 | _ u ih =>
  intro hu
  by_cases h : u < 10
  ·rw [dd_small h]
   unfold digI
   rw [if_neg (by omega), if_neg (by omega)]
   unfold digI
   congr 1
   omega
  ·rw [dd_big h, digI_app _ _ _ _ (ih (u / 10) (by omega) (by omega))]
   unfold digI
   rw [if_neg (by omega), if_neg (by omega)]
   unfold digI
   congr 1
   omega
theorem itoa_bs (n : Int) : bsOf (itoaB n) = if n < 0 then 45 :: dd n.natAbs else dd n.toNat := by
 unfold bsOf itoaB Lib.itoa dd
 by_cases h : n < 0
 ·rw [if_pos h, if_pos h]; rfl
 ·rw [if_neg h, if_neg h]
theorem itoa_num (n : Int) : numB (itoaB n) = true := by
 have hw := Rest.whole (s := itoaB n)
 have h := (numF_L hw.1).1
 rw [hw.2] at h
 have e : numL (bsOf (itoaB n)) = (true, []) := by
  rw [itoa_bs]
  unfold numL
  by_cases g : n < 0
  ·rw [if_pos g, if_pos (show isL [45] (45 :: dd n.natAbs) = true from rfl)]
   exact intL_dd _
  ·rw [if_neg g]
   have : ¬ isL [45] (dd n.toNat) = true := by
    obtain ⟨h1, x, l, h2, h3⟩ := dd_dig n.toNat
    have hx := h1 x (by rw [h2]; exact List.mem_cons_self ..)
    rw [h2, isL_cons, List.contains_iff_mem, List.mem_singleton]
    omega
   rw [if_neg this]
   exact intL_dd _
 rw [e] at h
 unfold numB
 rw [h, Rest.nil]
 simp
theorem ints_law {n : Int} {key other : ByteArray} (hn : In64 n) (hk : key.size ≤ 2 ^ 48) : trellislaw25_JsonInts n key other true := by
 unfold trellislaw25_JsonInts
 refine ⟨_, started_ok, ?_⟩
 rw [if_pos rfl]
 refine ⟨itoaB n, ⟨hn, rfl⟩, ?_⟩
 have hlen : (itoaB n).size ≤ 2 ^ 48 := by
  have := Lib.itoa_length_le n hn.1 hn.2
  have e : (itoaB n).size = (Lib.itoa n).length := by unfold itoaB; rfl
  omega
 obtain ⟨v, hvd⟩ : ∃ v : List api_JNode, v = [(⟨7, (⟨#[]⟩ : ByteArray), (⟨#[]⟩ : ByteArray), 1⟩ : api_JNode), (⟨4, key, itoaB n, 0⟩ : api_JNode)] := ⟨_, rfl⟩
 rw [← hvd]
 have hz : Sz v := by
  refine ⟨by rw [hvd]; show 2 ≤ 2 ^ 42; omega, fun x hx => ?_⟩
  rw [hvd] at hx
  simp only [List.mem_cons, List.not_mem_nil, or_false] at hx
  rcases hx with rfl | rfl
  ·exact ⟨by decide, by decide⟩
  ·exact ⟨hk, hlen⟩
 have hfit : Fit (.cons ⟨7, ⟨#[]⟩, ⟨#[]⟩, 1⟩ (.cons ⟨4, key, itoaB n, 0⟩ .nil .nil) .nil) := ⟨rfl, ⟨rfl, trivial, trivial⟩, trivial⟩
 have hfl : v = flat (.cons ⟨7, ⟨#[]⟩, ⟨#[]⟩, 1⟩ (.cons ⟨4, key, itoaB n, 0⟩ .nil .nil) .nil) := hvd
 refine ⟨_, jshaped_ok hz, ?_⟩
 cases hs : shaped v with
 | false =>
  rw [if_neg (by simp)]
  exact ⟨_, jmember_no hz hs (by rw [hvd]; show 0 < 2; omega) key, rfl⟩
 | true =>
  rw [if_pos rfl]
  have hat := At.whole hfit hfl
  have hat1 := hat.cons.2.2.1
  have hpos : 0 < (itoaB n).size := by
   rcases Nat.eq_zero_or_pos (itoaB n).size with h | h
   ·exfalso
    have := itoa_num n
    have he : itoaB n = ⟨#[]⟩ := by
     apply bs_inj
     rw [List.eq_nil_of_length_eq_zero (show (bsOf (itoaB n)).length = 0 by rw [bsOf_len]; exact h)]
     rfl
    rw [he, num_empty] at this
    cases this
   ·exact h
  have hint : json_Int v 1 (n, true) := by
   have := jint_val hz hs (a := 0 + 1) hat1 rfl hpos
   have e : (if bt (itoaB n) 0 = 45 then finI true (digI (bsOf ((itoaB n).extract 1 (itoaB n).size)) 0) else finI false (digI (bsOf (itoaB n)) 0)) = (n, true) := by
    have hb0 : bsOf (itoaB n) = bt (itoaB n) 0 :: (bsOf (itoaB n)).drop 1 := by
     have := bsOf_cons (s := itoaB n) (i := 0) hpos
     rw [List.drop_zero] at this
     exact this
    have hx1 : bsOf ((itoaB n).extract 1 (itoaB n).size) = (bsOf (itoaB n)).drop 1 := by
     rw [bsOf_extract, List.take_of_length_le (by rw [bsOf_len]; exact Nat.le_refl _)]
    unfold In64 at hn
    by_cases g : n < 0
    ·have hb := itoa_bs n
     rw [if_pos g] at hb
     rw [hb] at hb0 hx1
     injection hb0 with h1 _
     rw [if_pos h1.symm, hx1]
     show finI true (digI (dd n.natAbs) 0) = _
     rw [digI_dd _ (by omega)]
     show (-((n.natAbs : Nat) : Int), true) = _
     congr 1
     omega
    ·have hb := itoa_bs n
     rw [if_neg g] at hb
     obtain ⟨h1, x, l, h2, h3⟩ := dd_dig n.toNat
     have hx := h1 x (by rw [h2]; exact List.mem_cons_self ..)
     have hne : ¬ bt (itoaB n) 0 = 45 := by
      rw [hb, h2] at hb0
      injection hb0 with h4 _
      omega
     rw [if_neg hne, hb, digI_dd _ (by omega)]
     show (if ((n.toNat : Nat) : Int) > 9223372036854775807 then ((0 : Int), false) else (((n.toNat : Nat) : Int), true)) = _
     rw [if_neg (by omega)]
     congr 1
     omega
   dsimp only at this
   rw [e] at this
   exact this
  have hmem : ∀ q : ByteArray, json_Member v 0 q (if key = q then 1 else -1) := fun q => jmember_yes hz hs (a := 0) hat rfl q
  refine ⟨_, hint, _, hmem other, ?_⟩
  rw [if_pos rfl, if_pos rfl]
  refine ⟨_, hmem key, ?_⟩
  rw [if_pos (if_pos rfl), seqd]
  by_cases g : key = other
  ·rw [if_pos g, decide_eq_true g.symm]; rfl
  ·rw [if_neg g, decide_eq_false (fun e => g e.symm)]; rfl
end Go.Proofs.YtmfopcbjgbphaaaDoor.L
