/- The plain side of WordsCanon. No condition. -/
import Derived.Test.YtkaejoffnkhbpaaDoorY
import Derived.Test.YtkaejoffnkhbpaaDoorT
namespace Go.Proofs.YtkaejoffnkhbpaaDoor.wordsCanon
open Go.Proofs.YtkaejoffnkhbpaaDoor.B Go.Proofs.YtkaejoffnkhbpaaDoor.K Go.Proofs.YtkaejoffnkhbpaaDoor.R Go.Proofs.YtkaejoffnkhbpaaDoor.L
theorem law (x1 : ByteArray) (_ : x1.size ≤ reachBytes) : trellislaw8_WordsCanon x1 true := canon started_ok x1
end Go.Proofs.YtkaejoffnkhbpaaDoor.wordsCanon
