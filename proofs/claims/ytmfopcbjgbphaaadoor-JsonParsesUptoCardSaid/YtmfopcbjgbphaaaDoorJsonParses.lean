/- The plain side of JsonParses. Its condition: the text is of at most 1048576 bytes. -/
import Derived.Test.YtmfopcbjgbphaaaDoorQ23
import Derived.Test.YtmfopcbjgbphaaaDoorT
namespace Go.Proofs.YtmfopcbjgbphaaaDoor.jsonParses
open Go.Proofs.YtmfopcbjgbphaaaDoor.B Go.Proofs.YtmfopcbjgbphaaaDoor.K Go.Proofs.YtmfopcbjgbphaaaDoor.R Go.Proofs.YtmfopcbjgbphaaaDoor.L
theorem law (x1 : ByteArray) (h1 : x1.size ≤ reachBytes) (hsum : x1.size + 1 ≤ 1048576) : trellislaw25_JsonParses x1 true := parses_law (by omega)
end Go.Proofs.YtmfopcbjgbphaaaDoor.jsonParses
