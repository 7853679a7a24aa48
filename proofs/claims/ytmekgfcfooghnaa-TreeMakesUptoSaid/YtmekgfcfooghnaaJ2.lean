/- Trees as texts: Text of the program and of the document. Conditions: sizes. -/
import Derived.Test.YtmekgfcfooghnaaJ1
set_option linter.unusedVariables false
namespace Go.Proofs.Ytmekgfcfooghnaa.L
open Go.Proofs.Ytmekgfcfooghnaa.B Go.Proofs.Ytmekgfcfooghnaa.R
section
variable {t:List Xm4} {f:Xnu}
end
end Go.Proofs.Ytmekgfcfooghnaa.L
