/- The plain side of WordsPlaces. No condition. -/
import Derived.Test.YtkaejoffnkhbpaaDoorV
import Derived.Test.YtkaejoffnkhbpaaDoorT
namespace Go.Proofs.YtkaejoffnkhbpaaDoor.wordsPlaces
open Go.Proofs.YtkaejoffnkhbpaaDoor.B Go.Proofs.YtkaejoffnkhbpaaDoor.K Go.Proofs.YtkaejoffnkhbpaaDoor.R Go.Proofs.YtkaejoffnkhbpaaDoor.L
theorem law (x1 : ByteArray) (h1 : x1.size ≤ reachBytes) : trellislaw8_WordsPlaces x1 true := places started_ok x1
end Go.Proofs.YtkaejoffnkhbpaaDoor.wordsPlaces
