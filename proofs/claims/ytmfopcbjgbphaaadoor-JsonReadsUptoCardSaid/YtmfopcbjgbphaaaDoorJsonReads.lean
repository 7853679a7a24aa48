/- The plain side of JsonReads. Its condition: the text is of at most 1048576 bytes. -/
import Derived.Test.YtmfopcbjgbphaaaDoorQ18
import Derived.Test.YtmfopcbjgbphaaaDoorT
namespace Go.Proofs.YtmfopcbjgbphaaaDoor.jsonReads
open Go.Proofs.YtmfopcbjgbphaaaDoor.B Go.Proofs.YtmfopcbjgbphaaaDoor.K Go.Proofs.YtmfopcbjgbphaaaDoor.R Go.Proofs.YtmfopcbjgbphaaaDoor.L
theorem law (x1 : ByteArray) (h1 : x1.size ≤ reachBytes) (hsum : x1.size + 1 ≤ 1048576) : trellislaw25_JsonReads x1 true := reads_law (by omega)
end Go.Proofs.YtmfopcbjgbphaaaDoor.jsonReads
