/- JSON: Print of the program and of the document; the law JsonPrints. Condition: sizes. -/
import Derived.Test.YtmfopcbjgbphaaaDoorQ8
set_option linter.unusedVariables false
namespace Go.Proofs.YtmfopcbjgbphaaaDoor.L
open Go.Proofs.YtmfopcbjgbphaaaDoor.B Go.Proofs.YtmfopcbjgbphaaaDoor.R
def csz (x : api_JNode) : Nat := 6 * x.key.size + 6 * x.text.size + 12
def cszL (l : List api_JNode) : Nat := (l.map csz).sum
theorem cszL_app (a b : List api_JNode) : cszL (a ++ b) = cszL a + cszL b := by unfold cszL; rw [List.map_append, List.sum_append]
theorem cszL_cons (a : api_JNode) (b : List api_JNode) : cszL (a :: b) = csz a + cszL b := by unfold cszL; rw [List.map_cons, List.sum_cons]
theorem valT_len (x : api_JNode) (k : F) (hk : ∀ obj first, (textF k obj first).length ≤ cszL (flat k)) : (valT x k).length ≤ 6 * x.text.size + 5 + cszL (flat k) := by
 unfold valT
 have hq := quoteL_len (bsOf x.text)
 rw [bsOf_len] at hq
 have h1 := hk true true
 have h2 := hk false true
 split
 ·simp only [List.length_cons, List.length_nil]; omega
 split
 ·simp only [List.length_cons, List.length_nil]; omega
 split
 ·simp only [List.length_cons, List.length_nil]; omega
 split
 ·rw [bsOf_len]; omega
 split
 ·omega
 split
 ·rw [List.length_cons, List.length_append, List.length_singleton]; omega
 ·rw [List.length_cons, List.length_append, List.length_singleton]; omega
theorem textF_len : ∀ (f : F) (obj first : Bool), (textF f obj first).length ≤ cszL (flat f)
 | .nil, _, _ => Nat.zero_le _
 | .cons x k s, obj, first => by
  have h1 := valT_len x k fun o f => textF_len k o f
  have h2 := textF_len s obj false
  have hq := quoteL_len (bsOf x.key)
  rw [bsOf_len] at hq
  have h3 : (sepT first).length ≤ 1 := by unfold sepT; split <;> simp
  have h4 : (keyT x obj).length ≤ 6 * x.key.size + 3 := by
   unfold keyT
   split
   ·rw [List.length_append, List.length_singleton]; omega
   ·simp
  rw [textF_cons]
  simp only [flat, List.length_append]
  rw [cszL_cons, cszL_app]
  unfold csz
  omega
theorem valT_le (x : api_JNode) (k : F) : (valT x k).length ≤ cszL (flat (.cons x k .nil)) := by
 have := valT_len x k fun o f => textF_len k o f
 simp only [flat, List.append_nil]
 rw [cszL_cons]
 unfold csz
 omega
section
variable {v : List api_JNode}
theorem jprint_yes (hv : Sz v) {x : api_JNode} {k : F} (f1 : Fit (.cons x k .nil)) (f2 : v = flat (.cons x k .nil)) (f3 : good sndB (.cons x k .nil) 0 false = true) (hc : cszL v ≤ LIM) : json_Print v (ofBs (valT x k), 0) := by
 unfold json_Print
 have hs : shaped v = true := shaped_iff.2 ⟨x, k, f1, f2, f3⟩
 have hal := shaped_snd hs
 have hle := valT_le x k
 rw [← f2] at hle
 refine ⟨_, jshaped_ok hv, ?_⟩
 rw [hs, if_pos rfl]
 have := jprint_ok hv hal (v.length + 1) 0 x k .nil false false [] (by omega) (At.whole f1 f2) (by show 0 + (valT x k).length ≤ LIM; omega)
 exact ⟨_, ⟨_, this⟩, _, rfl, rfl⟩
theorem jprint_no (hv : Sz v) (hs : shaped v = false) : json_Print v (⟨#[]⟩, 43) := by
 unfold json_Print
 refine ⟨_, jshaped_ok hv, ?_⟩
 rw [hs, if_neg (by simp)]
theorem rprint_yes (hv : Sz v) (hsf : Saf v.length v 1) {x : api_JNode} {k : F} (f1 : Fit (.cons x k .nil)) (f2 : v = flat (.cons x k .nil)) (f3 : good sndB (.cons x k .nil) 0 false = true) (hc : cszL v ≤ LIM) : trellisref25_Print v (ofBs (valT x k), 0) := by
 unfold trellisref25_Print
 have hs : shaped v = true := shaped_iff.2 ⟨x, k, f1, f2, f3⟩
 have hal := shaped_snd hs
 have hle := valT_le x k
 rw [← f2] at hle
 refine ⟨_, rshaped_ok hv hsf, ?_⟩
 rw [hs, if_pos rfl]
 exact ⟨_, ⟨_, rtext_ok hv hal (v.length + 1) 0 x k .nil (by omega) (At.whole f1 f2) (by have hL : LIM = 211106232532992 := rfl; omega)⟩, rfl⟩
theorem print_ok (hv : Sz v) (hsf : Saf v.length v 1) (hc : cszL v ≤ LIM) : ∃ r, json_Print v r ∧ trellisref25_Print v r := by
 cases hs : shaped v with
 | true =>
  obtain ⟨x, k, f1, f2, f3⟩ := shaped_iff.1 hs
  exact ⟨_, jprint_yes hv f1 f2 f3 hc, rprint_yes hv hsf f1 f2 f3 hc⟩
 | false =>
  refine ⟨_, jprint_no hv hs, ?_⟩
  unfold trellisref25_Print
  refine ⟨_, rshaped_ok hv hsf, ?_⟩
  rw [hs, if_neg (by simp)]
theorem cszL_le {B : Nat} : ∀ (v : List api_JNode), (∀ x ∈ v, x.key.size ≤ B ∧ x.text.size ≤ B) → cszL v ≤ v.length * (12 * B + 12)
 | [], _ => Nat.zero_le _
 | x :: v, h => by
  have h1 := h x (List.mem_cons_self ..)
  have h2 := cszL_le v fun y hy => h y (List.mem_cons_of_mem _ hy)
  rw [cszL_cons, List.length_cons, Nat.add_mul]
  unfold csz
  omega
theorem prints_law (hv : ArgN 1048576 v) (hn : v.length ≤ 1048576) : trellislaw25_JsonPrints v true := by
 have hA : Arg v := hv.up (by omega)
 have hz := hA.sz
 have hl := hz.1
 have hcs : ∀ w : List api_JNode, ArgN 1048576 w → w.length ≤ 1048576 → cszL w ≤ LIM := fun w hw hn => by
  have h1 := cszL_le (B := 1048576) w fun x hx => ⟨(hw.2 x hx).1, (hw.2 x hx).2.1⟩
  have h2 : w.length * (12 * 1048576 + 12) ≤ 1048576 * (12 * 1048576 + 12) := Nat.mul_le_mul_right _ hn
  have hL : LIM = 211106232532992 := rfl
  omega
 unfold trellislaw25_JsonPrints
 refine ⟨_, rbeyond_ok hl (fun x hx => (hv.2 x hx).2.2), ?_⟩
 by_cases hb : bey v [] = true
 ·rw [if_pos hb]
 rw [if_neg hb]
 rw [Bool.not_eq_true] at hb
 have hs := saf_of hl hb
 obtain ⟨p, p1, p2⟩ := print_ok hz hs (hcs v hv hn)
 have htake : (v ++ [mark, mark]).take ((v.length : Int) : Int).toNat = v := by rw [Int.toNat_natCast, List.take_left]
 refine ⟨_, twin_ok hz, _, roomy_ok hA, by rw [List.length_append]; simp only [List.length_cons, List.length_nil]; omega, v, htake.symm, _, jshaped_ok hz, v, htake.symm, p, p1, p, p2, _, rshaped_ok hz hs, ?_⟩
 rw [if_neg (by simp), if_pos rfl, if_pos rfl]
 refine ⟨_, spared_ok hl, ?_⟩
 unfold trellislaw25_JsonPrints_j1
 rw [if_neg (by simp)]
 obtain ⟨w, o1, o2, o3, o4⟩ := over_ok hv
 have hw := Arg.sz (o2.up (show 1048576 ≤ 140737488351232 by omega))
 have hsw : Saf w.length w 1 := saf_of hw.1 (by rw [bey_kids v w [] o4]; exact hb)
 obtain ⟨q, q1, q2⟩ := print_ok hw hsw (hcs w o2 (by omega))
 refine ⟨_, twin_ok hz, _, jshaped_ok hz, p, p1, w, o1, q, q1, _, twin_ok hw, q, q2, _, jshaped_ok hw, _, twin_ok hw, _, rshaped_ok hw hsw, ?_⟩
 rw [if_pos (by simp), if_pos rfl]
 simp
end
end Go.Proofs.YtmfopcbjgbphaaaDoor.L
