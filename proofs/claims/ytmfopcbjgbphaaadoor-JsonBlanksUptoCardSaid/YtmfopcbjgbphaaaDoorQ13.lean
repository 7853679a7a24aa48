/- JSON: the laws that need the program's answers alone: started, JsonSpares, JsonInts. Condition: sizes. -/
import Derived.Test.YtmfopcbjgbphaaaDoorQ9
import Derived.Test.YtmfopcbjgbphaaaDoorQ12
import Derived.Lib.ItoaMem
import Derived.Lib.ItoaLen
set_option linter.unusedVariables false
namespace Go.Proofs.YtmfopcbjgbphaaaDoor.L
open Go.Proofs.YtmfopcbjgbphaaaDoor.B Go.Proofs.YtmfopcbjgbphaaaDoor.R
section
variable {v : List JNd}
theorem jmember_yes (hv : Sz v) (hs : shaped v = true) {a : Nat} {x : JNd} {k : F} (hat : At v a (.cons x k .nil)) (h7 : x.kind = 7) (key : ByteArray) : json_Member v (a : Int) key (memF key k (a + 1)) := by
 obtain ⟨g1, g2, g3, g4, g5⟩ := hat.cons
 have hl := hv.1
 have hn : cnt k ≤ v.length := by
  obtain ⟨_, _, r, e⟩ := g3
  have := congrArg List.length e
  have := cnt_le k
  simp only [List.length_drop, List.length_append] at *
  omega
 unfold json_Member
 rw [if_neg (by omega), if_neg (by omega)]
 refine ⟨by omega, ?_⟩
 rw [g2, if_pos h7]
 refine ⟨_, jshaped_ok hv, ?_⟩
 rw [hs]
 unfold json_Member_j1
 rw [if_neg (by simp), w64_nat (by omega)]
 exact ⟨by omega, jmem_loop hl (by rw [g2]; exact g5) hn k (a + 1) 0 g3 (by omega)⟩
theorem jint_val (hv : Sz v) (hs : shaped v = true) {a : Nat} {x : JNd} {k : F} (hat : At v a (.cons x k .nil)) (h4 : x.kind = 4) (hpos : 0 < x.text.size) : json_Int v (a : Int) (if bt x.text 0 = 45 then finI true (digI (bsOf (x.text.extract 1 x.text.size)) 0) else finI false (digI (bsOf x.text) 0)) := by
 obtain ⟨g1, g2, g3, g4, g5⟩ := hat.cons
 have hl := hv.1
 have hsz := (hv.2 x (by rw [← g2, ix_nat g1]; exact List.getElem_mem _)).2
 have hcut := cut_ok hpos
 unfold json_Int
 rw [if_neg (by omega), if_neg (by omega)]
 refine ⟨by omega, ?_⟩
 rw [g2, if_pos h4]
 refine ⟨_, jshaped_ok hv, ?_⟩
 rw [hs]
 unfold json_Int_j1
 rw [if_neg (by simp)]
 refine ⟨by omega, ?_⟩
 rw [g2]
 by_cases g : bt x.text 0 = 45
 ·rw [if_pos g] at hcut ⊢
  have hxs : (x.text.extract 1 x.text.size).size ≤ 2 ^ 48 := by rw [ByteArray.size_extract]; omega
  have := jint_loop (s := x.text.extract 1 x.text.size) (minus := true) hxs _ 0 0 (Nat.lt_succ_self _) (Nat.zero_le _) (by omega)
  rw [List.drop_zero] at this
  exact ⟨_, hcut, this⟩
 ·rw [if_neg g] at hcut ⊢
  have := jint_loop (s := x.text) (minus := false) hsz _ 0 0 (Nat.lt_succ_self _) (Nat.zero_le _) (by omega)
  rw [List.drop_zero] at this
  exact ⟨_, hcut, this⟩
end
abbrev S0 : ByteArray := ⟨#[32, 123, 34, 97, 34, 58, 91, 49, 44, 34, 92, 117, 48, 48, 101, 57, 34, 93, 125]⟩
abbrev m0 : JNd := ⟨7, ⟨#[]⟩, ⟨#[]⟩, 1⟩
abbrev m1 : JNd := ⟨6, ⟨#[97]⟩, ⟨#[]⟩, 2⟩
abbrev m2 : JNd := ⟨4, ⟨#[]⟩, ⟨#[49]⟩, 0⟩
abbrev m3 : JNd := ⟨5, ⟨#[]⟩, ⟨#[195, 169]⟩, 0⟩
abbrev v0 : List JNd := [m0, m1, m2, m3]
abbrev k0 : F := .cons m1 (.cons m2 .nil (.cons m3 .nil .nil)) .nil
theorem s0_parse : parseR S0 (parseL (bsOf S0)) = (v0, 0, 0) := by decide +kernel
theorem v0_fit : Fit (.cons m0 k0 .nil) := ⟨rfl, ⟨rfl, ⟨rfl, trivial, ⟨rfl, trivial, trivial⟩⟩, trivial⟩, trivial⟩
theorem v0_good : good sndB (.cons m0 k0 .nil) 0 false = true := by decide +kernel
theorem v0_text : ofBs (valT m0 k0) = ⟨#[123, 34, 97, 34, 58, 91, 49, 44, 34, 195, 169, 34, 93, 125]⟩ := by decide +kernel
theorem v0_sz : Sz v0 := ⟨by decide, by
 intro x hx
 simp only [List.mem_cons, List.not_mem_nil, or_false] at hx
 rcases hx with rfl | rfl | rfl | rfl <;> exact ⟨by decide, by decide⟩⟩
theorem started_ok : tl_started true := by
 have hs : shaped v0 = true := shaped_iff.2 ⟨m0, k0, v0_fit, rfl, v0_good⟩
 have hat := At.whole (v := v0) v0_fit rfl
 unfold tl_started
 refine ⟨(v0, 0, 0), by rw [← s0_parse]; exact jparse_ok (by decide), _, jprint_yes v0_sz v0_fit rfl v0_good (by decide), _, jint_val v0_sz hs (a := 2) (x := m2) (k := .nil) hat.cons.2.2.1.cons.2.2.1.first rfl (by decide), ?_⟩
 rw [if_pos rfl, if_pos rfl, if_pos (by rfl)]
 refine ⟨by decide, ?_⟩
 rw [if_pos (by rfl)]
 refine ⟨by decide, ?_⟩
 rw [if_pos (by rfl), if_pos rfl, if_pos v0_text]
 refine ⟨_, jmember_yes v0_sz hs (a := 0) hat rfl _, ?_⟩
 rw [if_pos (by decide +kernel), if_pos (by decide +kernel)]
 decide +kernel
theorem parse_len {s : ByteArray} : (parseR s (parseL (bsOf s))).1.length ≤ s.size := by
 unfold parseL
 have h1 := blL_len (bsOf s)
 rw [bsOf_len] at h1
 cases e : valN 0 ⟨#[]⟩ (blL (bsOf s)) with
 | no ee q => exact Nat.zero_le _
 | ok p q =>
  have h2 := valN_sz e
  dsimp only
  split
  ·show (flat (.cons p.1 p.2 .nil)).length ≤ _
   simp only [flat, List.append_nil, List.length_cons]
   omega
  ·exact Nat.zero_le _
theorem skip_all (l : List Int) : ∀ t : List Int, (∀ x ∈ t, l.contains x = true) → skipL l t = []
 | [], _ => rfl
 | x :: t, h => by
  unfold skipL
  rw [if_pos (h x (List.mem_cons_self ..))]
  exact skip_all l t fun y hy => h y (List.mem_cons_of_mem _ hy)
end Go.Proofs.YtmfopcbjgbphaaaDoor.L
