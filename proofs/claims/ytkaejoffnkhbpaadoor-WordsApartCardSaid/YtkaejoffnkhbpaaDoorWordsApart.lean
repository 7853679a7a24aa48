/- The plain side of WordsApart. No condition. -/
import Derived.Test.YtkaejoffnkhbpaaDoorQ
import Derived.Test.YtkaejoffnkhbpaaDoorT
namespace Go.Proofs.YtkaejoffnkhbpaaDoor.wordsApart
open Go.Proofs.YtkaejoffnkhbpaaDoor.B Go.Proofs.YtkaejoffnkhbpaaDoor.K Go.Proofs.YtkaejoffnkhbpaaDoor.R Go.Proofs.YtkaejoffnkhbpaaDoor.L
theorem law (x1 x2 : ByteArray) (h1 : x1.size ≤ reachBytes) (h2 : x2.size ≤ reachBytes) : trellislaw8_WordsApart x1 x2 true := apart started_ok x1 x2 h1 h2
end Go.Proofs.YtkaejoffnkhbpaaDoor.wordsApart
