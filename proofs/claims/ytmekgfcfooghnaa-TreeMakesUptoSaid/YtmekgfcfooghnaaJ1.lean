/- Trees as texts: names in quotes. Conditions: sizes. -/
import Derived.Test.YtmekgfcfooghnaaF9
import Derived.Test.YtmekgfcfooghnaaU2
import Derived.KernelRfl
set_option linter.unusedVariables false
namespace Go.Proofs.Ytmekgfcfooghnaa.L
open Go.Proofs.Ytmekgfcfooghnaa.B Go.Proofs.Ytmekgfcfooghnaa.R
end Go.Proofs.Ytmekgfcfooghnaa.L
