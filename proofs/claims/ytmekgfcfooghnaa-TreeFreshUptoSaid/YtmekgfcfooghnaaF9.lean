/- Chapter 15: the law TreeWalks. Conditions: the list fits in memory, its numbers are ints. -/
import Derived.Test.YtmekgfcfooghnaaF8
set_option linter.unusedVariables false
namespace Go.Proofs.Ytmekgfcfooghnaa.L
open Go.Proofs.Ytmekgfcfooghnaa.B Go.Proofs.Ytmekgfcfooghnaa.R
theorem twin_ok {t:List Xm4} (hl:Xwg t):Xp1 t t:=by
 unfold Xp1
 exact ⟨_,rfl,by rw [List.nil_append]; omega,by rw [List.nil_append]⟩
theorem same_ok {a:List Xm4} (ha:Xwg a):Xo4 a a true:=by
 unfold Xo4
 rw [if_pos rfl]
 refine Xmi.cnt a.length (fun i hi=>?_) ?_
 ·unfold Xpt
  rw [if_pos (by omega),Xp3 (by omega),if_pos rfl]
  exact ⟨by omega,by omega,rfl⟩
 ·unfold Xpt
  rw [if_neg (by omega)]
end Go.Proofs.Ytmekgfcfooghnaa.L
