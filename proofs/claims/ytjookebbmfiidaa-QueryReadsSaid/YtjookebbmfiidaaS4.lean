/- Queries: lists of nodes that are shaped are forests; captures as lists. No condition. -/
import Derived.Test.YtjookebbmfiidaaS3
set_option linter.unusedVariables false
namespace Go.Proofs.Ytjookebbmfiidaa.L
open Go.Proofs.Ytjookebbmfiidaa.R
def capsL (v : List api_PatNode) : List ByteArray := (v.map (·.capture)).filter fun c => !decide (c = noB)
theorem capsL_app (a b : List api_PatNode) : capsL (a ++ b) = capsL a ++ capsL b := by unfold capsL; rw [List.map_append, List.filter_append]
theorem capsL_cons (x : api_PatNode) (v : List api_PatNode) : capsL (x :: v) = addC x.capture (capsL v) := by
 unfold capsL addC
 rw [List.map_cons, List.filter_cons]
 by_cases h : x.capture = noB
 ·rw [if_pos h, if_neg (by simp [h])]
 ·rw [if_neg h, if_pos (by simp [h])]
theorem capsP_perm : ∀ (g : PF) (l : List ByteArray), (capsP g l).Perm (capsL (flatP g) ++ l)
 | .nil, l => List.Perm.refl _
 | .cons x k s, l => by
  have h1 := capsP_perm k l
  have h2 := capsP_perm s (addC x.capture (capsP k l))
  show (capsP s (addC x.capture (capsP k l))).Perm _
  refine h2.trans ?_
  have h4 : (capsL (flatP s) ++ capsP k l).Perm (capsL (flatP k) ++ capsL (flatP s) ++ l) := (List.Perm.append_left _ h1).trans (by
   rw [← List.append_assoc]
   exact List.Perm.append_right _ List.perm_append_comm)
  simp only [flatP]
  rw [capsL_cons, capsL_app]
  unfold addC
  by_cases h : x.capture = noB
  ·rw [if_pos h, if_pos h]
   exact h4
  ·rw [if_neg h, if_neg h]
   have h3 : (capsL (flatP s) ++ x.capture :: capsP k l).Perm (x.capture :: (capsL (flatP s) ++ capsP k l)) := List.perm_middle
   exact h3.trans (List.Perm.cons _ h4)
end Go.Proofs.Ytjookebbmfiidaa.L
