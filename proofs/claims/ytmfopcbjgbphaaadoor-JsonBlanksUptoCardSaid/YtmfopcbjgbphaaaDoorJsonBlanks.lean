/- The plain side of JsonBlanks. Its condition: the text is of at most 1048576 bytes. -/
import Derived.Test.YtmfopcbjgbphaaaDoorQ20
import Derived.Test.YtmfopcbjgbphaaaDoorT
namespace Go.Proofs.YtmfopcbjgbphaaaDoor.jsonBlanks
open Go.Proofs.YtmfopcbjgbphaaaDoor.B Go.Proofs.YtmfopcbjgbphaaaDoor.K Go.Proofs.YtmfopcbjgbphaaaDoor.R Go.Proofs.YtmfopcbjgbphaaaDoor.L
theorem law (x1 : ByteArray) (x2 : Int) (h1 : x1.size ≤ reachBytes) (_ : (Lit.int .i64 x2).wf = true) (hsum : (x1.size + 1) + 1 ≤ 1048576) : tl_JsonBlanks x1 x2 true := blanks_law (by omega)
end Go.Proofs.YtmfopcbjgbphaaaDoor.jsonBlanks
