/- The concrete calls that the laws of chapter 15 begin with; the law TreeFinds. Conditions: sizes. -/
import Derived.Test.YtmekgfcfooghnaaJ5
set_option linter.unusedVariables false
namespace Go.Proofs.Ytmekgfcfooghnaa.L
open Go.Proofs.Ytmekgfcfooghnaa.B Go.Proofs.Ytmekgfcfooghnaa.R
theorem Ydw {a:List Int} (h:a.length≤2 ^ 60):Xpt a a true:=by
 unfold Xpt
 rw [if_pos rfl]
 refine Xmh.cnt a.length (fun i hi=>?_) ?_
 ·unfold Xoe
  rw [if_pos (by omega),Xpj (by omega),if_pos rfl]
  exact ⟨by omega,by omega,rfl⟩
 ·unfold Xoe
  rw [if_neg (by omega)]
end Go.Proofs.Ytmekgfcfooghnaa.L
