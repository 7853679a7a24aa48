/- The plain side of JsonSpares. Its condition: the text is of at most 1048576 bytes. -/
import Derived.Test.YtmfopcbjgbphaaaDoorQ13
import Derived.Test.YtmfopcbjgbphaaaDoorT
namespace Go.Proofs.YtmfopcbjgbphaaaDoor.jsonSpares
open Go.Proofs.YtmfopcbjgbphaaaDoor.B Go.Proofs.YtmfopcbjgbphaaaDoor.K Go.Proofs.YtmfopcbjgbphaaaDoor.R Go.Proofs.YtmfopcbjgbphaaaDoor.L
theorem law (x1 : ByteArray) (h1 : x1.size ≤ reachBytes) (hsum : x1.size + 1 ≤ 1048576) : trellislaw25_JsonSpares x1 true := spares_law (by omega)
end Go.Proofs.YtmfopcbjgbphaaaDoor.jsonSpares
