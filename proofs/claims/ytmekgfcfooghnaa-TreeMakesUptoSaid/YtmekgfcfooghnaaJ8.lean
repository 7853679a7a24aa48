/- The concrete calls that the laws of chapter 15 begin with. No condition. -/
import Derived.Test.YtmekgfcfooghnaaJ6
set_option linter.unusedVariables false
namespace Go.Proofs.Ytmekgfcfooghnaa.L
open Go.Proofs.Ytmekgfcfooghnaa.B Go.Proofs.Ytmekgfcfooghnaa.R
end Go.Proofs.Ytmekgfcfooghnaa.L
