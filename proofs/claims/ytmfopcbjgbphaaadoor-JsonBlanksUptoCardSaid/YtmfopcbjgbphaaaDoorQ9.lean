/- JSON: Print of the program and of the document; the law JsonPrints. Condition: sizes. -/
import Derived.Test.YtmfopcbjgbphaaaDoorQ8
set_option linter.unusedVariables false
namespace Go.Proofs.YtmfopcbjgbphaaaDoor.L
open Go.Proofs.YtmfopcbjgbphaaaDoor.B Go.Proofs.YtmfopcbjgbphaaaDoor.R
def csz (x : JNd) : Nat := 6 * x.key.size + 6 * x.text.size + 12
def cszL (l : List JNd) : Nat := (l.map csz).sum
theorem cszL_app (a b : List JNd) : cszL (a ++ b) = cszL a + cszL b := by unfold cszL; rw [List.map_append, List.sum_append]
theorem cszL_cons (a : JNd) (b : List JNd) : cszL (a :: b) = csz a + cszL b := by unfold cszL; rw [List.map_cons, List.sum_cons]
theorem valT_len (x : JNd) (k : F) (hk : ∀ obj first, (textF k obj first).length ≤ cszL (flat k)) : (valT x k).length ≤ 6 * x.text.size + 5 + cszL (flat k) := by
 unfold valT
 have hq := quoteL_len (bsOf x.text)
 rw [bsOf_len] at hq
 have h1 := hk true true
 have h2 := hk false true
 split
 ·simp only [List.length_cons, List.length_nil]; omega
 split
 ·simp only [List.length_cons, List.length_nil]; omega
 split
 ·simp only [List.length_cons, List.length_nil]; omega
 split
 ·rw [bsOf_len]; omega
 split
 ·omega
 split
 ·rw [List.length_cons, List.length_append, List.length_singleton]; omega
 ·rw [List.length_cons, List.length_append, List.length_singleton]; omega
theorem textF_len : ∀ (f : F) (obj first : Bool), (textF f obj first).length ≤ cszL (flat f)
 | .nil, _, _ => Nat.zero_le _
 | .cons x k s, obj, first => by
  have h1 := valT_len x k fun o f => textF_len k o f
  have h2 := textF_len s obj false
  have hq := quoteL_len (bsOf x.key)
  rw [bsOf_len] at hq
  have h3 : (sepT first).length ≤ 1 := by unfold sepT; split <;> simp
  have h4 : (keyT x obj).length ≤ 6 * x.key.size + 3 := by
   unfold keyT
   split
   ·rw [List.length_append, List.length_singleton]; omega
   ·simp
  rw [textF_cons]
  simp only [flat, List.length_append]
  rw [cszL_cons, cszL_app]
  unfold csz
  omega
theorem valT_le (x : JNd) (k : F) : (valT x k).length ≤ cszL (flat (.cons x k .nil)) := by
 have := valT_len x k fun o f => textF_len k o f
 simp only [flat, List.append_nil]
 rw [cszL_cons]
 unfold csz
 omega
section
variable {v : List JNd}
theorem jprint_yes (hv : Sz v) {x : JNd} {k : F} (f1 : Fit (.cons x k .nil)) (f2 : v = flat (.cons x k .nil)) (f3 : good sndB (.cons x k .nil) 0 false = true) (hc : cszL v ≤ LIM) : json_Print v (ofBs (valT x k), 0) := by
 unfold json_Print
 have hs : shaped v = true := shaped_iff.2 ⟨x, k, f1, f2, f3⟩
 have hal := shaped_snd hs
 have hle := valT_le x k
 rw [← f2] at hle
 refine ⟨_, jshaped_ok hv, ?_⟩
 rw [hs, if_pos rfl]
 have := jprint_ok hv hal (v.length + 1) 0 x k .nil false false [] (by omega) (At.whole f1 f2) (by show 0 + (valT x k).length ≤ LIM; omega)
 exact ⟨_, ⟨_, this⟩, _, rfl, rfl⟩
end
end Go.Proofs.YtmfopcbjgbphaaaDoor.L
