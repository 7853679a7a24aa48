/- Trees as texts: Text of the program and of the document answer the same. Conditions: sizes. -/
import Derived.Test.YtmekgfcfooghnaaJ2
set_option linter.unusedVariables false
namespace Go.Proofs.Ytmekgfcfooghnaa.L
open Go.Proofs.Ytmekgfcfooghnaa.B Go.Proofs.Ytmekgfcfooghnaa.R
end Go.Proofs.Ytmekgfcfooghnaa.L
