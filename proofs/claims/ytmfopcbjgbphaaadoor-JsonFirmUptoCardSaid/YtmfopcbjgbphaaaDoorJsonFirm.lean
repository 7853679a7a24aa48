/- The plain side of JsonFirm. Its condition: the texts are of at most 1048576 bytes in all. -/
import Derived.Test.YtmfopcbjgbphaaaDoorQ16
import Derived.Test.YtmfopcbjgbphaaaDoorT
namespace Go.Proofs.YtmfopcbjgbphaaaDoor.jsonFirm
open Go.Proofs.YtmfopcbjgbphaaaDoor.B Go.Proofs.YtmfopcbjgbphaaaDoor.K Go.Proofs.YtmfopcbjgbphaaaDoor.R Go.Proofs.YtmfopcbjgbphaaaDoor.L
theorem law (x1 : ByteArray) (x2 : ByteArray) (x3 : Int) (h1 : x1.size ≤ reachBytes) (h2 : x2.size ≤ reachBytes) (_ : (Lit.int .i64 x3).wf = true) (hsum : (x1.size + 1) + (x2.size + 1) + 1 ≤ 1048576) : trellislaw25_JsonFirm x1 x2 x3 true := firm_law (by omega) (by omega)
end Go.Proofs.YtmfopcbjgbphaaaDoor.jsonFirm
