/- What the machine's calls do, function by function, printed by my own tool. Condition of each: its relation holds of the answer, and what is handed in lies in memory as told. -/
import Derived.Test.YtadcichlnacagaaDoorK5
set_option linter.unusedVariables false
set_option maxRecDepth 100000
set_option maxHeartbeats 4000000
namespace Go.Proofs.YtadcichlnacagaaDoor.K
open Go.Proofs.YtadcichlnacagaaDoor.B Go.Proofs.YtadcichlnacagaaDoor.R Go.RowKit
abbrev Zcd (w:World) (F:Nat→Prop) (r:Int):Ending→World→Prop:=fun e w'=>e=.returned (.int .i64 r)∧B.Loc w w' [] [St w []]
noncomputable abbrev Zhe (w:World) (F:Nat→Prop) (r:Int):Cx:=⟨Tryd.prog,53,Tryd.f53,35,Zcd w F  r,w⟩
theorem Zg6 (w:World) (F:Nat→Prop) (x1:Int) (hF:∀ b,F b→b < w.heap.size∧∀ o ∈ ([]:List (List Nat)),b ∉ o) (hL0:B.Loc w w [] [Sm w.heap.size F w [],St w []]) (r:Int) (h:Yzy x1 r):Calls Tryd.prog 53 #[.int .u64 x1] w (Zcd w F  r):=by
 unfold Yzy at h
 refine Yv5 (vs:=[.int .u64 x1]) 35 Tryd.func53 rfl Tryd.ntmps53 rfl hL0 ?_
 show G (Zhe w F r) _ _ _ _
 refine Yu9 rfl<|Yu4 rfl rfl<|Yu2 0 rfl (Yu7 rfl) gn rfl<|Yua 1 rfl<|Yu9 rfl<|Yu4 rfl rfl<|Yu2 0 rfl (Yu3 rfl) gn rfl<|Yu2 1 rfl (Zny rfl rfl (by decide)) gn rfl<|Yu2 2 rfl (Yug rfl rfl rfl) gn rfl<|Yu2 3 rfl (Yu3 rfl) gn rfl<|Yu2 4 rfl (Yug rfl rfl rfl) gn rfl<|Yu2 5 rfl (Yug rfl rfl rfl) gn rfl ?_
 refine Yu2 6 rfl (Yu7 rfl) gn rfl<|Yua 7 rfl<|Yu9 rfl<|Yu4 rfl rfl<|Yu2 0 rfl (Yu3 rfl) gn rfl<|Yu2 1 rfl (Zny rfl rfl (by decide)) gn rfl<|Yu2 2 rfl (Yug rfl rfl rfl) gn rfl<|Yu2 3 rfl (Yu3 rfl) gn rfl<|Yu2 4 rfl (Yug rfl rfl rfl) gn rfl<|Yu2 5 rfl (Yug rfl rfl rfl) gn rfl<|Yu2 6 rfl (Yu7 rfl) gn rfl<|Yua 7 rfl ?_
 refine Yu9 rfl<|Yu4 rfl rfl<|Yu2 0 rfl (Yu3 rfl) gn rfl<|Yu2 1 rfl (Zny rfl rfl (by decide)) gn rfl<|Yu2 2 rfl (Yu3 rfl) gn rfl<|Yu2 3 rfl (Yug rfl rfl rfl) gn rfl<|Yu2 4 rfl (Yug rfl rfl rfl) gn rfl<|Yu2 5 rfl (Yu7 rfl) gn rfl<|Yua 6 rfl<|Yu9 rfl<|Yu4 rfl rfl<|Yu2 0 rfl (Yu3 rfl) gn rfl ?_
 refine Yu2 1 rfl (Yu3 rfl) gn rfl<|Yu2 2 rfl (Zny rfl rfl (by decide)) gn rfl<|Yu2 3 rfl (Yug rfl rfl rfl) gn rfl<|Yu2 4 rfl (Yu7 rfl) gn rfl<|Yua 5 rfl<|Yu9 rfl<|Yu4 rfl rfl<|Yu2 0 rfl (Yu3 rfl) gn rfl<|Yu2 1 rfl (Yu3 rfl) gn rfl<|Yu2 2 rfl (Zny rfl rfl (by decide)) gn rfl<|Yu2 3 rfl (Yug rfl rfl rfl) gn rfl<|Yu2 4 rfl (Yu7 rfl) gn rfl ?_
 refine Yua 5 rfl<|Yu9 rfl<|Yu4 rfl rfl<|Yu2 0 rfl (Yu3 rfl) gn rfl<|Yu2 1 rfl (Yu3 rfl) gn rfl<|Yu2 2 rfl (Zny rfl rfl (by decide)) gn rfl<|Yu2 3 rfl (Yug rfl rfl rfl) gn rfl<|Yu2 4 rfl (Yu7 rfl) gn rfl<|Yua 5 rfl<|Yu9 rfl<|Yu4 rfl rfl<|Yu2 0 rfl (Yu3 rfl) gn rfl ?_
 refine Yu2 1 rfl (Zpk ⟨_,un_75⟩ un_3 rfl) gn rfl<|Yu2 2 rfl (Yug rfl rfl rfl) gn rfl<|Yu2 3 rfl (Yu7 rfl) gn rfl<|Yua 4 rfl ?_
 refine Yvb [.int .i64 (bits .and .i64 (w64 (IntKind.u64.wrap ((IntKind.u64.wrap ((IntKind.u64.wrap ((bits .and .u64 (IntKind.u64.wrap ((Yvd .u64 (IntKind.u64.wrap ((bits .and .u64 (Yvd .u64 (IntKind.u64.wrap ((bits .and .u64 (Yvd .u64 x1 1) 6148914691236517205) + (bits .and .u64 x1 6148914691236517205))) 2) 3689348814741910323) + (bits .and .u64 (IntKind.u64.wrap ((bits .and .u64 (Yvd .u64 x1 1) 6148914691236517205) + (bits .and .u64 x1 6148914691236517205))) 3689348814741910323))) 4) + (IntKind.u64.wrap ((bits .and .u64 (Yvd .u64 (IntKind.u64.wrap ((bits .and .u64 (Yvd .u64 x1 1) 6148914691236517205) + (bits .and .u64 x1 6148914691236517205))) 2) 3689348814741910323) + (bits .and .u64 (IntKind.u64.wrap ((bits .and .u64 (Yvd .u64 x1 1) 6148914691236517205) + (bits .and .u64 x1 6148914691236517205))) 3689348814741910323))))) 1085102592571150095) + (Yvd .u64 (bits .and .u64 (IntKind.u64.wrap ((Yvd .u64 (IntKind.u64.wrap ((bits .and .u64 (Yvd .u64 (IntKind.u64.wrap ((bits .and .u64 (Yvd .u64 x1 1) 6148914691236517205) + (bits .and .u64 x1 6148914691236517205))) 2) 3689348814741910323) + (bits .and .u64 (IntKind.u64.wrap ((bits .and .u64 (Yvd .u64 x1 1) 6148914691236517205) + (bits .and .u64 x1 6148914691236517205))) 3689348814741910323))) 4) + (IntKind.u64.wrap ((bits .and .u64 (Yvd .u64 (IntKind.u64.wrap ((bits .and .u64 (Yvd .u64 x1 1) 6148914691236517205) + (bits .and .u64 x1 6148914691236517205))) 2) 3689348814741910323) + (bits .and .u64 (IntKind.u64.wrap ((bits .and .u64 (Yvd .u64 x1 1) 6148914691236517205) + (bits .and .u64 x1 6148914691236517205))) 3689348814741910323))))) 1085102592571150095) 8))) + (Yvd .u64 (IntKind.u64.wrap ((bits .and .u64 (IntKind.u64.wrap ((Yvd .u64 (IntKind.u64.wrap ((bits .and .u64 (Yvd .u64 (IntKind.u64.wrap ((bits .and .u64 (Yvd .u64 x1 1) 6148914691236517205) + (bits .and .u64 x1 6148914691236517205))) 2) 3689348814741910323) + (bits .and .u64 (IntKind.u64.wrap ((bits .and .u64 (Yvd .u64 x1 1) 6148914691236517205) + (bits .and .u64 x1 6148914691236517205))) 3689348814741910323))) 4) + (IntKind.u64.wrap ((bits .and .u64 (Yvd .u64 (IntKind.u64.wrap ((bits .and .u64 (Yvd .u64 x1 1) 6148914691236517205) + (bits .and .u64 x1 6148914691236517205))) 2) 3689348814741910323) + (bits .and .u64 (IntKind.u64.wrap ((bits .and .u64 (Yvd .u64 x1 1) 6148914691236517205) + (bits .and .u64 x1 6148914691236517205))) 3689348814741910323))))) 1085102592571150095) + (Yvd .u64 (bits .and .u64 (IntKind.u64.wrap ((Yvd .u64 (IntKind.u64.wrap ((bits .and .u64 (Yvd .u64 (IntKind.u64.wrap ((bits .and .u64 (Yvd .u64 x1 1) 6148914691236517205) + (bits .and .u64 x1 6148914691236517205))) 2) 3689348814741910323) + (bits .and .u64 (IntKind.u64.wrap ((bits .and .u64 (Yvd .u64 x1 1) 6148914691236517205) + (bits .and .u64 x1 6148914691236517205))) 3689348814741910323))) 4) + (IntKind.u64.wrap ((bits .and .u64 (Yvd .u64 (IntKind.u64.wrap ((bits .and .u64 (Yvd .u64 x1 1) 6148914691236517205) + (bits .and .u64 x1 6148914691236517205))) 2) 3689348814741910323) + (bits .and .u64 (IntKind.u64.wrap ((bits .and .u64 (Yvd .u64 x1 1) 6148914691236517205) + (bits .and .u64 x1 6148914691236517205))) 3689348814741910323))))) 1085102592571150095) 8))) 16))) + (Yvd .u64 (IntKind.u64.wrap ((IntKind.u64.wrap ((bits .and .u64 (IntKind.u64.wrap ((Yvd .u64 (IntKind.u64.wrap ((bits .and .u64 (Yvd .u64 (IntKind.u64.wrap ((bits .and .u64 (Yvd .u64 x1 1) 6148914691236517205) + (bits .and .u64 x1 6148914691236517205))) 2) 3689348814741910323) + (bits .and .u64 (IntKind.u64.wrap ((bits .and .u64 (Yvd .u64 x1 1) 6148914691236517205) + (bits .and .u64 x1 6148914691236517205))) 3689348814741910323))) 4) + (IntKind.u64.wrap ((bits .and .u64 (Yvd .u64 (IntKind.u64.wrap ((bits .and .u64 (Yvd .u64 x1 1) 6148914691236517205) + (bits .and .u64 x1 6148914691236517205))) 2) 3689348814741910323) + (bits .and .u64 (IntKind.u64.wrap ((bits .and .u64 (Yvd .u64 x1 1) 6148914691236517205) + (bits .and .u64 x1 6148914691236517205))) 3689348814741910323))))) 1085102592571150095) + (Yvd .u64 (bits .and .u64 (IntKind.u64.wrap ((Yvd .u64 (IntKind.u64.wrap ((bits .and .u64 (Yvd .u64 (IntKind.u64.wrap ((bits .and .u64 (Yvd .u64 x1 1) 6148914691236517205) + (bits .and .u64 x1 6148914691236517205))) 2) 3689348814741910323) + (bits .and .u64 (IntKind.u64.wrap ((bits .and .u64 (Yvd .u64 x1 1) 6148914691236517205) + (bits .and .u64 x1 6148914691236517205))) 3689348814741910323))) 4) + (IntKind.u64.wrap ((bits .and .u64 (Yvd .u64 (IntKind.u64.wrap ((bits .and .u64 (Yvd .u64 x1 1) 6148914691236517205) + (bits .and .u64 x1 6148914691236517205))) 2) 3689348814741910323) + (bits .and .u64 (IntKind.u64.wrap ((bits .and .u64 (Yvd .u64 x1 1) 6148914691236517205) + (bits .and .u64 x1 6148914691236517205))) 3689348814741910323))))) 1085102592571150095) 8))) + (Yvd .u64 (IntKind.u64.wrap ((bits .and .u64 (IntKind.u64.wrap ((Yvd .u64 (IntKind.u64.wrap ((bits .and .u64 (Yvd .u64 (IntKind.u64.wrap ((bits .and .u64 (Yvd .u64 x1 1) 6148914691236517205) + (bits .and .u64 x1 6148914691236517205))) 2) 3689348814741910323) + (bits .and .u64 (IntKind.u64.wrap ((bits .and .u64 (Yvd .u64 x1 1) 6148914691236517205) + (bits .and .u64 x1 6148914691236517205))) 3689348814741910323))) 4) + (IntKind.u64.wrap ((bits .and .u64 (Yvd .u64 (IntKind.u64.wrap ((bits .and .u64 (Yvd .u64 x1 1) 6148914691236517205) + (bits .and .u64 x1 6148914691236517205))) 2) 3689348814741910323) + (bits .and .u64 (IntKind.u64.wrap ((bits .and .u64 (Yvd .u64 x1 1) 6148914691236517205) + (bits .and .u64 x1 6148914691236517205))) 3689348814741910323))))) 1085102592571150095) + (Yvd .u64 (bits .and .u64 (IntKind.u64.wrap ((Yvd .u64 (IntKind.u64.wrap ((bits .and .u64 (Yvd .u64 (IntKind.u64.wrap ((bits .and .u64 (Yvd .u64 x1 1) 6148914691236517205) + (bits .and .u64 x1 6148914691236517205))) 2) 3689348814741910323) + (bits .and .u64 (IntKind.u64.wrap ((bits .and .u64 (Yvd .u64 x1 1) 6148914691236517205) + (bits .and .u64 x1 6148914691236517205))) 3689348814741910323))) 4) + (IntKind.u64.wrap ((bits .and .u64 (Yvd .u64 (IntKind.u64.wrap ((bits .and .u64 (Yvd .u64 x1 1) 6148914691236517205) + (bits .and .u64 x1 6148914691236517205))) 2) 3689348814741910323) + (bits .and .u64 (IntKind.u64.wrap ((bits .and .u64 (Yvd .u64 x1 1) 6148914691236517205) + (bits .and .u64 x1 6148914691236517205))) 3689348814741910323))))) 1085102592571150095) 8))) 16))) 32)))) 127)] rfl Tryd.func53 rfl (.tmp rfl (.nil)) fun wr hLr=>?_
 have hMr:=hLr.pk0 (.c 1 rfl .n)
 show Zcd w F  r (.returned (Yvl [.int .i64 (bits .and .i64 (w64 (IntKind.u64.wrap ((IntKind.u64.wrap ((IntKind.u64.wrap ((bits .and .u64 (IntKind.u64.wrap ((Yvd .u64 (IntKind.u64.wrap ((bits .and .u64 (Yvd .u64 (IntKind.u64.wrap ((bits .and .u64 (Yvd .u64 x1 1) 6148914691236517205) + (bits .and .u64 x1 6148914691236517205))) 2) 3689348814741910323) + (bits .and .u64 (IntKind.u64.wrap ((bits .and .u64 (Yvd .u64 x1 1) 6148914691236517205) + (bits .and .u64 x1 6148914691236517205))) 3689348814741910323))) 4) + (IntKind.u64.wrap ((bits .and .u64 (Yvd .u64 (IntKind.u64.wrap ((bits .and .u64 (Yvd .u64 x1 1) 6148914691236517205) + (bits .and .u64 x1 6148914691236517205))) 2) 3689348814741910323) + (bits .and .u64 (IntKind.u64.wrap ((bits .and .u64 (Yvd .u64 x1 1) 6148914691236517205) + (bits .and .u64 x1 6148914691236517205))) 3689348814741910323))))) 1085102592571150095) + (Yvd .u64 (bits .and .u64 (IntKind.u64.wrap ((Yvd .u64 (IntKind.u64.wrap ((bits .and .u64 (Yvd .u64 (IntKind.u64.wrap ((bits .and .u64 (Yvd .u64 x1 1) 6148914691236517205) + (bits .and .u64 x1 6148914691236517205))) 2) 3689348814741910323) + (bits .and .u64 (IntKind.u64.wrap ((bits .and .u64 (Yvd .u64 x1 1) 6148914691236517205) + (bits .and .u64 x1 6148914691236517205))) 3689348814741910323))) 4) + (IntKind.u64.wrap ((bits .and .u64 (Yvd .u64 (IntKind.u64.wrap ((bits .and .u64 (Yvd .u64 x1 1) 6148914691236517205) + (bits .and .u64 x1 6148914691236517205))) 2) 3689348814741910323) + (bits .and .u64 (IntKind.u64.wrap ((bits .and .u64 (Yvd .u64 x1 1) 6148914691236517205) + (bits .and .u64 x1 6148914691236517205))) 3689348814741910323))))) 1085102592571150095) 8))) + (Yvd .u64 (IntKind.u64.wrap ((bits .and .u64 (IntKind.u64.wrap ((Yvd .u64 (IntKind.u64.wrap ((bits .and .u64 (Yvd .u64 (IntKind.u64.wrap ((bits .and .u64 (Yvd .u64 x1 1) 6148914691236517205) + (bits .and .u64 x1 6148914691236517205))) 2) 3689348814741910323) + (bits .and .u64 (IntKind.u64.wrap ((bits .and .u64 (Yvd .u64 x1 1) 6148914691236517205) + (bits .and .u64 x1 6148914691236517205))) 3689348814741910323))) 4) + (IntKind.u64.wrap ((bits .and .u64 (Yvd .u64 (IntKind.u64.wrap ((bits .and .u64 (Yvd .u64 x1 1) 6148914691236517205) + (bits .and .u64 x1 6148914691236517205))) 2) 3689348814741910323) + (bits .and .u64 (IntKind.u64.wrap ((bits .and .u64 (Yvd .u64 x1 1) 6148914691236517205) + (bits .and .u64 x1 6148914691236517205))) 3689348814741910323))))) 1085102592571150095) + (Yvd .u64 (bits .and .u64 (IntKind.u64.wrap ((Yvd .u64 (IntKind.u64.wrap ((bits .and .u64 (Yvd .u64 (IntKind.u64.wrap ((bits .and .u64 (Yvd .u64 x1 1) 6148914691236517205) + (bits .and .u64 x1 6148914691236517205))) 2) 3689348814741910323) + (bits .and .u64 (IntKind.u64.wrap ((bits .and .u64 (Yvd .u64 x1 1) 6148914691236517205) + (bits .and .u64 x1 6148914691236517205))) 3689348814741910323))) 4) + (IntKind.u64.wrap ((bits .and .u64 (Yvd .u64 (IntKind.u64.wrap ((bits .and .u64 (Yvd .u64 x1 1) 6148914691236517205) + (bits .and .u64 x1 6148914691236517205))) 2) 3689348814741910323) + (bits .and .u64 (IntKind.u64.wrap ((bits .and .u64 (Yvd .u64 x1 1) 6148914691236517205) + (bits .and .u64 x1 6148914691236517205))) 3689348814741910323))))) 1085102592571150095) 8))) 16))) + (Yvd .u64 (IntKind.u64.wrap ((IntKind.u64.wrap ((bits .and .u64 (IntKind.u64.wrap ((Yvd .u64 (IntKind.u64.wrap ((bits .and .u64 (Yvd .u64 (IntKind.u64.wrap ((bits .and .u64 (Yvd .u64 x1 1) 6148914691236517205) + (bits .and .u64 x1 6148914691236517205))) 2) 3689348814741910323) + (bits .and .u64 (IntKind.u64.wrap ((bits .and .u64 (Yvd .u64 x1 1) 6148914691236517205) + (bits .and .u64 x1 6148914691236517205))) 3689348814741910323))) 4) + (IntKind.u64.wrap ((bits .and .u64 (Yvd .u64 (IntKind.u64.wrap ((bits .and .u64 (Yvd .u64 x1 1) 6148914691236517205) + (bits .and .u64 x1 6148914691236517205))) 2) 3689348814741910323) + (bits .and .u64 (IntKind.u64.wrap ((bits .and .u64 (Yvd .u64 x1 1) 6148914691236517205) + (bits .and .u64 x1 6148914691236517205))) 3689348814741910323))))) 1085102592571150095) + (Yvd .u64 (bits .and .u64 (IntKind.u64.wrap ((Yvd .u64 (IntKind.u64.wrap ((bits .and .u64 (Yvd .u64 (IntKind.u64.wrap ((bits .and .u64 (Yvd .u64 x1 1) 6148914691236517205) + (bits .and .u64 x1 6148914691236517205))) 2) 3689348814741910323) + (bits .and .u64 (IntKind.u64.wrap ((bits .and .u64 (Yvd .u64 x1 1) 6148914691236517205) + (bits .and .u64 x1 6148914691236517205))) 3689348814741910323))) 4) + (IntKind.u64.wrap ((bits .and .u64 (Yvd .u64 (IntKind.u64.wrap ((bits .and .u64 (Yvd .u64 x1 1) 6148914691236517205) + (bits .and .u64 x1 6148914691236517205))) 2) 3689348814741910323) + (bits .and .u64 (IntKind.u64.wrap ((bits .and .u64 (Yvd .u64 x1 1) 6148914691236517205) + (bits .and .u64 x1 6148914691236517205))) 3689348814741910323))))) 1085102592571150095) 8))) + (Yvd .u64 (IntKind.u64.wrap ((bits .and .u64 (IntKind.u64.wrap ((Yvd .u64 (IntKind.u64.wrap ((bits .and .u64 (Yvd .u64 (IntKind.u64.wrap ((bits .and .u64 (Yvd .u64 x1 1) 6148914691236517205) + (bits .and .u64 x1 6148914691236517205))) 2) 3689348814741910323) + (bits .and .u64 (IntKind.u64.wrap ((bits .and .u64 (Yvd .u64 x1 1) 6148914691236517205) + (bits .and .u64 x1 6148914691236517205))) 3689348814741910323))) 4) + (IntKind.u64.wrap ((bits .and .u64 (Yvd .u64 (IntKind.u64.wrap ((bits .and .u64 (Yvd .u64 x1 1) 6148914691236517205) + (bits .and .u64 x1 6148914691236517205))) 2) 3689348814741910323) + (bits .and .u64 (IntKind.u64.wrap ((bits .and .u64 (Yvd .u64 x1 1) 6148914691236517205) + (bits .and .u64 x1 6148914691236517205))) 3689348814741910323))))) 1085102592571150095) + (Yvd .u64 (bits .and .u64 (IntKind.u64.wrap ((Yvd .u64 (IntKind.u64.wrap ((bits .and .u64 (Yvd .u64 (IntKind.u64.wrap ((bits .and .u64 (Yvd .u64 x1 1) 6148914691236517205) + (bits .and .u64 x1 6148914691236517205))) 2) 3689348814741910323) + (bits .and .u64 (IntKind.u64.wrap ((bits .and .u64 (Yvd .u64 x1 1) 6148914691236517205) + (bits .and .u64 x1 6148914691236517205))) 3689348814741910323))) 4) + (IntKind.u64.wrap ((bits .and .u64 (Yvd .u64 (IntKind.u64.wrap ((bits .and .u64 (Yvd .u64 x1 1) 6148914691236517205) + (bits .and .u64 x1 6148914691236517205))) 2) 3689348814741910323) + (bits .and .u64 (IntKind.u64.wrap ((bits .and .u64 (Yvd .u64 x1 1) 6148914691236517205) + (bits .and .u64 x1 6148914691236517205))) 3689348814741910323))))) 1085102592571150095) 8))) 16))) 32)))) 127)])) wr
 rw [h]
 exact ⟨rfl,hMr⟩
abbrev Yza (w:World) (F:Nat→Prop) (r:Int):Ending→World→Prop:=fun e w'=>e=.returned (.int .i64 r)∧B.Loc w w' [] [St w []]
noncomputable abbrev Zg5 (w:World) (F:Nat→Prop) (r:Int):Cx:=⟨Tryd.prog,54,Tryd.f54,14,Yza w F  r,w⟩
theorem Zf7 (w:World) (F:Nat→Prop) (x1:Int) (hG0:Tt .u8 Zmo 0 (St w [])) (hF:∀ b,F b→b < w.heap.size∧∀ o ∈ ([]:List (List Nat)),b ∉ o) (hL0:B.Loc w w [] [Sm w.heap.size F w [],St w []]) (r:Int) (h:Yy1 x1 r):Calls Tryd.prog 54 #[.int .u64 x1] w (Yza w F  r):=by
 unfold Yy1 at h
 refine Yv5 (vs:=[.int .u64 x1]) 14 Tryd.func54 rfl Tryd.ntmps54 rfl hL0 ?_
 show G (Zg5 w F r) _ _ _ _
 refine Yu9 rfl<|Yu4 rfl rfl<|Yu2 0 rfl (Yu7 rfl) gn rfl<|Yua 1 rfl<|Yu9 rfl<|Yu9 rfl<|Yu4 rfl rfl<|Yu2 0 rfl (Yu3 rfl) gn rfl<|Yu2 1 rfl (Yug rfl rfl rfl) gn rfl<|Yua 2 rfl ?_
 by_cases hp2:x1=0
 ·have h:=Yul hp2 h
  refine Yv4 rfl _ rfl ((eqi hp2))<|Yu9 rfl<|Yu4 rfl rfl<|Yu2 0 rfl (Yu7 rfl) gn rfl<|Yua 1 rfl ?_
  refine Yvb [.int .i64 64] rfl Tryd.func54 rfl (.tmp rfl (.nil)) fun wr hLr=>?_
  have hMr:=hLr.pk0 (.c 1 rfl .n)
  show Yza w F  r (.returned (Yvl [.int .i64 64])) wr
  rw [h]
  exact ⟨rfl,hMr⟩
 ·have h:=Yum hp2 h
  refine Yur rfl _ rfl ((nei hp2))<|Yv2 rfl<|Yu9 rfl<|Yu4 rfl rfl<|Yu2 0 rfl (Yu3 rfl) gn rfl<|Yu2 1 rfl (Yu3 rfl) gn rfl<|Yu2 2 rfl (v_neg rfl) gn rfl<|Yu2 3 rfl (Yug rfl rfl rfl) gn rfl<|Yu2 4 rfl (Yug rfl rfl rfl) gn rfl<|Yu2 5 rfl (Zny rfl rfl (by decide)) gn rfl ?_
  obtain ⟨hb3,h⟩:=h
  refine Yu2 6 rfl (Zi9 ar_128 rfl rfl hb3) gn rfl<|Yu2 7 rfl (v_ldT (zs:=Zmo) (j:=Yvd .u64 (IntKind.u64.wrap ((bits .and .u64 x1 (IntKind.u64.wrap (0 - x1))) * 285870213051353865)) 58) (St w []) hG0 (me 1 rfl) ld_5 rfl (tbh rfl hb3)) gn rfl<|Yu2 8 rfl (Zpk ⟨_,un_5⟩ un_3 rfl) gn rfl<|Yu2 9 rfl (Yu7 rfl) gn rfl<|Yua 10 rfl ?_
  refine Yvb [.int .i64 (w64 (ix Zmo (Yvd .u64 (IntKind.u64.wrap ((bits .and .u64 x1 (IntKind.u64.wrap (0 - x1))) * 285870213051353865)) 58)))] rfl Tryd.func54 rfl (.tmp rfl (.nil)) fun wr hLr=>?_
  have hMr:=hLr.pk0 (.c 1 rfl .n)
  show Yza w F  r (.returned (Yvl [.int .i64 (w64 (ix Zmo (Yvd .u64 (IntKind.u64.wrap ((bits .and .u64 x1 (IntKind.u64.wrap (0 - x1))) * 285870213051353865)) 58)))])) wr
  rw [h]
  exact ⟨rfl,hMr⟩
noncomputable abbrev Zoj:=Code.snd (Code.snd (Code.snd (Yvq Tryd.f38)))
noncomputable abbrev Zlx:=Code.fst (Code.fst (Code.snd (Code.fst (Code.snd (Code.snd (Yvq Tryd.f38))))))
noncomputable abbrev Ziu:=Code.snd (Code.snd Zoj)
noncomputable abbrev Zfz:=Code.fst (Code.fst (Code.snd (Code.fst (Code.snd Zoj))))
noncomputable abbrev Zpn:=Code.snd (Code.snd (Code.snd Zfz))
noncomputable abbrev Zk0:=Code.fst (Code.fst (Code.snd (Code.fst (Code.fst (Code.snd (Code.snd Zfz))))))
noncomputable abbrev q38c53:=Code.fst (Code.fst (Code.snd Zk0))
abbrev Zev (w:World) (F:Nat→Prop) (g2:Nat) (Tb3:Nat) (r:(List Yud) × Yuv):Ending→World→Prop:=fun e w'=>∃ A0:Option Addr,∃ n0:Nat,∃ c0:Nat,∃ A1:Option Addr,∃ n1:Nat,∃ c1:Nat,∃ A2:Option Addr,∃ n2:Nat,∃ c2:Nat,∃ A3:Option Addr,∃ n3:Nat,∃ c3:Nat,∃ A4:Option Addr,∃ n4:Nat,∃ c4:Nat,∃ A5:Option Addr,∃ n5:Nat,∃ c5:Nat,∃ A6:Option Addr,∃ n6:Nat,∃ c6:Nat,e=.returned (.slice A0 n0 c0)∧B.Loc w w' [.box g2 Tb3 [.slice A1 n1 c1,.slice A2 n2 c2,.slice A3 n3 c3,.slice A4 n4 c4,.slice A5 n5 c5,.slice A6 n6 c6],.own (.slice A0 n0 c0) 31 3 n0 (r.1.flatMap Yv0)] [St w [[g2]]]∧Ow w.heap.size A0 n0 c0 r.1∧Rw Yuj w' (Nw w w' F [.box g2 Tb3 [.slice A1 n1 c1,.slice A2 n2 c2,.slice A3 n3 c3,.slice A4 n4 c4,.slice A5 n5 c5,.slice A6 n6 c6],.own (.slice A0 n0 c0) 31 3 n0 (r.1.flatMap Yv0)]) A1 n1 c1 r.2.g.terms∧Rw Yuq w' (Nw w w' F [.box g2 Tb3 [.slice A1 n1 c1,.slice A2 n2 c2,.slice A3 n3 c3,.slice A4 n4 c4,.slice A5 n5 c5,.slice A6 n6 c6],.own (.slice A0 n0 c0) 31 3 n0 (r.1.flatMap Yv0)]) A2 n2 c2 r.2.g.syms∧Rw Yun w' (Nw w w' F [.box g2 Tb3 [.slice A1 n1 c1,.slice A2 n2 c2,.slice A3 n3 c3,.slice A4 n4 c4,.slice A5 n5 c5,.slice A6 n6 c6],.own (.slice A0 n0 c0) 31 3 n0 (r.1.flatMap Yv0)]) A3 n3 c3 r.2.g.prods∧Rw Yx2 w' (Nw w w' F [.box g2 Tb3 [.slice A1 n1 c1,.slice A2 n2 c2,.slice A3 n3 c3,.slice A4 n4 c4,.slice A5 n5 c5,.slice A6 n6 c6],.own (.slice A0 n0 c0) 31 3 n0 (r.1.flatMap Yv0)]) A4 n4 c4 r.2.spots∧Rw (Yw6 .i64) w' (Nw w w' F [.box g2 Tb3 [.slice A1 n1 c1,.slice A2 n2 c2,.slice A3 n3 c3,.slice A4 n4 c4,.slice A5 n5 c5,.slice A6 n6 c6],.own (.slice A0 n0 c0) 31 3 n0 (r.1.flatMap Yv0)]) A5 n5 c5 r.2.at_∧Rw (Kd.slice (Yw6 .i64)) w' (Nw w w' F [.box g2 Tb3 [.slice A1 n1 c1,.slice A2 n2 c2,.slice A3 n3 c3,.slice A4 n4 c4,.slice A5 n5 c5,.slice A6 n6 c6],.own (.slice A0 n0 c0) 31 3 n0 (r.1.flatMap Yv0)]) A6 n6 c6 r.2.of
noncomputable abbrev Yxv (w:World) (F:Nat→Prop) (g2:Nat) (Tb3:Nat) (r:(List Yud) × Yuv):Cx:=⟨Tryd.prog,38,Tryd.f38,61,Zev w F g2 Tb3 r,w⟩
theorem Zfa (w:World) (F:Nat→Prop) (x1:Yuv) (x28:List Int) (g2:Nat) (Tb3:Nat) (A4:Option Addr) (n5:Nat) (c6:Nat) (A8:Option Addr) (n9:Nat) (c10:Nat) (A12:Option Addr) (n13:Nat) (c14:Nat) (A16:Option Addr) (n17:Nat) (c18:Nat) (A20:Option Addr) (n21:Nat) (c22:Nat) (A24:Option Addr) (n25:Nat) (c26:Nat) (A29:Option Addr) (n30:Nat) (c31:Nat) (h7:Rw Yuj w F A4 n5 c6 x1.g.terms) (h11:Rw Yuq w F A8 n9 c10 x1.g.syms) (h15:Rw Yun w F A12 n13 c14 x1.g.prods) (h19:Rw Yx2 w F A16 n17 c18 x1.spots) (h23:Rw (Yw6 .i64) w F A20 n21 c22 x1.at_) (h27:Rw (Kd.slice (Yw6 .i64)) w F A24 n25 c26 x1.of) (h32:Rw (Yw6 .u64) w (St w [[g2]]).av A29 n30 c31 x28) (hG0:Tt .u8 Zmo 0 (St w [[g2]])) (hF:∀ b,F b→b < w.heap.size∧∀ o ∈ ([[g2]]:List (List Nat)),b ∉ o) (hL0:B.Loc w w [.box g2 Tb3 [.slice A4 n5 c6,.slice A8 n9 c10,.slice A12 n13 c14,.slice A16 n17 c18,.slice A20 n21 c22,.slice A24 n25 c26]] [Sm w.heap.size F w [[g2]],St w [[g2]]]) (r:(List Yud) × Yuv) (h:Zbf x1 x28 r):Calls Tryd.prog 38 #[.pointer (some ⟨g2,0,none⟩),.slice A29 n30 c31] w (Zev w F g2 Tb3 r):=by
 unfold Zbf at h
 have h7:=Rw.into (bs:=[[g2]]) hF h7
 have h11:=Rw.into (bs:=[[g2]]) hF h11
 have h15:=Rw.into (bs:=[[g2]]) hF h15
 have h19:=Rw.into (bs:=[[g2]]) hF h19
 have h23:=Rw.into (bs:=[[g2]]) hF h23
 have h27:=Rw.into (bs:=[[g2]]) hF h27
 refine Yv5 (vs:=[.pointer (some ⟨g2,0,none⟩),.slice A29 n30 c31]) 61 Tryd.func38 rfl Tryd.ntmps38 rfl hL0 ?_
 show G (Yxv w F g2 Tb3 r) _ _ _ _
 refine Yu9 rfl<|Yu4 rfl rfl<|Yu2 0 rfl (Yu7 rfl) gn rfl<|Yua 1 rfl<|Yu9 rfl<|Yu4 rfl rfl<|Yu2 0 rfl (Yu7 rfl) gn rfl<|Yua 1 rfl<|Yu9 rfl<|Yu9 rfl<|Yu4 rfl rfl<|Yu2 0 rfl (Yu3 rfl) gn rfl ?_
 refine Yu2 1 rfl (Yuo un_71 rfl h32.hq) gn rfl<|Yu2 2 rfl (Yu3 rfl) gn rfl<|Yua 3 rfl<|Yuw rfl<|Ywm rfl ?_
 have key1:∀ s,Yui (fun (s:Int × Int) o=>Yyi x28 x1 s.1 s.2 o) s r→(fun (s:Int × Int)=>∀ (_:Unit),G (Yxv w F g2 Tb3 r) [.code Zlx,.inLoop Zlx,.inBlock 0,.code Zoj] [(0,.pointer (some ⟨g2,0,none⟩)),(1,.slice A29 n30 c31),(5,.int .i64 s.1),(11,.slice A29 n30 c31),(12,.int .i64 (x28.length:Int)),(13,.int .i64 s.2)] [.box g2 Tb3 [.slice A4 n5 c6,.slice A8 n9 c10,.slice A12 n13 c14,.slice A16 n17 c18,.slice A20 n21 c22,.slice A24 n25 c26]] [Sm w.heap.size F w [[g2]],St w [[g2]]]) s:=by
  intro s hs
  refine Yui.ind (mot:=(fun (s:Int × Int)=>∀ (_:Unit),G (Yxv w F g2 Tb3 r) [.code Zlx,.inLoop Zlx,.inBlock 0,.code Zoj] [(0,.pointer (some ⟨g2,0,none⟩)),(1,.slice A29 n30 c31),(5,.int .i64 s.1),(11,.slice A29 n30 c31),(12,.int .i64 (x28.length:Int)),(13,.int .i64 s.2)] [.box g2 Tb3 [.slice A4 n5 c6,.slice A8 n9 c10,.slice A12 n13 c14,.slice A16 n17 c18,.slice A20 n21 c22,.slice A24 n25 c26]] [Sm w.heap.size F w [[g2]],St w [[g2]]])) ?_ hs
  clear hs s
  intro s o1 h hO1
  obtain ⟨x52,x53⟩:=s
  show ∀ (_:Unit),G (Yxv w F g2 Tb3 r) [.code Zlx,.inLoop Zlx,.inBlock 0,.code Zoj] [(0,.pointer (some ⟨g2,0,none⟩)),(1,.slice A29 n30 c31),(5,.int .i64 x52),(11,.slice A29 n30 c31),(12,.int .i64 (x28.length:Int)),(13,.int .i64 x53)] [.box g2 Tb3 [.slice A4 n5 c6,.slice A8 n9 c10,.slice A12 n13 c14,.slice A16 n17 c18,.slice A20 n21 c22,.slice A24 n25 c26]] [Sm w.heap.size F w [[g2]],St w [[g2]]]
  intro _
  have h:Yyi x28 x1 x52 x53 o1:=h
  unfold Yyi at h
  refine Yu9 rfl<|Yu4 rfl rfl<|Yu2 0 rfl (Yug rfl rfl rfl) gn rfl<|Yua 1 rfl<|Yu9 rfl ?_
  by_cases hp673:x53 < (x28.length:Int)
  ·have h:=Yul hp673 h
   refine Yv4 rfl _ rfl ((decide_eq_true hp673))<|Yv2 rfl<|Yu9 rfl<|Yuw rfl<|Yu9 rfl<|Yu4 rfl rfl ?_
   obtain ⟨hb674,h⟩:=h
   have hr675:=Rw.readF (s:=St w [[g2]]) (hl:=(hlI .u64)) (h1:=(Yya .u64)) h32 hb674
   refine Yu2 0 rfl (Yv7 (s:=St w [[g2]]) Ziy rfl rfl h32 hb674) gn rfl<|Yu2 1 rfl (Yvj (kk:=(x53:Int).toNat * 1) (j:=0) (St w [[g2]]) Zdt rfl hr675 rfl (me 1 rfl)) gn rfl<|Yu2 2 rfl (Yu7 rfl) gn rfl<|Yua 3 rfl<|Yu4 rfl rfl<|Yu2 0 rfl (Yu3 rfl) gn rfl<|Yu2 1 rfl (Yu3 rfl) gn rfl ?_
   obtain ⟨r679,hv680,h⟩:=h
   refine Yve 2 rfl (Yvz [.int .u64 (ix x28 x53)] rfl Tryd.func53 rfl rfl rfl fun w676 hL677=>?_) gn
   have hp678:=pmI hL677 .n (.c 0 rfl .n) (by kernel_rfl)
   refine Calls.mono (Zg6 w676 (Fl ([]:List Yva)) (ix x28 x53) (hL677.hFl hp678 (Yvm [] rfl)) (hL677.into hp678 _) r679 hv680) ?_
   rintro _ w681 ⟨rfl,hM682⟩
   have hL683:=hL677.call hp678 hM682
   refine ⟨_,_,_,rfl,hL683,?_⟩
   refine Yu2 3 rfl (Yug rfl rfl rfl) gn rfl<|Yu2 4 rfl (Yu7 rfl) gn rfl<|Yua 5 rfl<|Yux<|Yu4 rfl rfl<|Yu2 0 rfl (Yug rfl rfl rfl) gn rfl<|Yu2 1 rfl (Yu3 rfl) gn rfl<|Yua 2 rfl<|Yv1 ?_
   have ih:=Out.inl hO1 h
   exact Yvh [0,1] (ih ()) ⟨rfl,rfl,rfl,rfl,rfl,rfl,trivial⟩ (.cons_cons _ (.slnil)) rfl
  ·have h:=Yum hp673 h
   refine Yur rfl _ rfl ((decide_eq_false hp673))<|Ywa [.code Zoj] rfl rfl<|Yu9 rfl<|Yu4 rfl rfl<|Yu2 0 rfl (Yu3 rfl) gn rfl ?_
   obtain ⟨hb684,h⟩:=h
   refine Yve 1 rfl (s_make0 (enc:=Yv0) (xs:=([]:List Yud)) mk_27 rfl rfl hb684.1 hb684.2 (by decide) rfl rfl fun A685 h686=>?_) gn
   refine Yu2 2 rfl (Yu7 rfl) gn rfl<|Yua 3 rfl<|Yu9 rfl<|Yu9 rfl<|Yu4 rfl rfl<|Yu2 0 rfl (Yu3 rfl) gn rfl<|Yu2 1 rfl (Yuo un_71 rfl h32.hq) gn rfl<|Yu2 2 rfl (Yu3 rfl) gn rfl<|Yua 3 rfl<|Yuw rfl<|Ywm rfl ?_
   have key2:∀ s,Yui (fun (s:(List Yud) × Int) o=>Yxj x28 x1 s.1 s.2 o) s o1→(fun (s:(List Yud) × Int)=>∀ (A889:Option Addr) (n890:Nat) (c891:Nat) (h892:Ow w.heap.size A889 n890 c891 s.1),G (Yxv w F g2 Tb3 r) [.code Zfz,.inLoop Zfz,.inBlock 2,.code Ziu] [(0,.pointer (some ⟨g2,0,none⟩)),(8,.slice A889 n890 c891),(24,.slice A29 n30 c31),(25,.int .i64 (x28.length:Int)),(26,.int .i64 s.2)] [.own (.slice A889 n890 c891) 31 3 n890 (s.1.flatMap Yv0),.box g2 Tb3 [.slice A4 n5 c6,.slice A8 n9 c10,.slice A12 n13 c14,.slice A16 n17 c18,.slice A20 n21 c22,.slice A24 n25 c26]] [Sm w.heap.size F w [[g2]],St w [[g2]]]) s:=by
    intro s hs
    refine Yui.ind (mot:=(fun (s:(List Yud) × Int)=>∀ (A889:Option Addr) (n890:Nat) (c891:Nat) (h892:Ow w.heap.size A889 n890 c891 s.1),G (Yxv w F g2 Tb3 r) [.code Zfz,.inLoop Zfz,.inBlock 2,.code Ziu] [(0,.pointer (some ⟨g2,0,none⟩)),(8,.slice A889 n890 c891),(24,.slice A29 n30 c31),(25,.int .i64 (x28.length:Int)),(26,.int .i64 s.2)] [.own (.slice A889 n890 c891) 31 3 n890 (s.1.flatMap Yv0),.box g2 Tb3 [.slice A4 n5 c6,.slice A8 n9 c10,.slice A12 n13 c14,.slice A16 n17 c18,.slice A20 n21 c22,.slice A24 n25 c26]] [Sm w.heap.size F w [[g2]],St w [[g2]]])) ?_ hs
    clear hs s
    intro s o2 h hO2
    obtain ⟨x888,x893⟩:=s
    show ∀ (A889:Option Addr) (n890:Nat) (c891:Nat) (h892:Ow w.heap.size A889 n890 c891 x888),G (Yxv w F g2 Tb3 r) [.code Zfz,.inLoop Zfz,.inBlock 2,.code Ziu] [(0,.pointer (some ⟨g2,0,none⟩)),(8,.slice A889 n890 c891),(24,.slice A29 n30 c31),(25,.int .i64 (x28.length:Int)),(26,.int .i64 x893)] [.own (.slice A889 n890 c891) 31 3 n890 (x888.flatMap Yv0),.box g2 Tb3 [.slice A4 n5 c6,.slice A8 n9 c10,.slice A12 n13 c14,.slice A16 n17 c18,.slice A20 n21 c22,.slice A24 n25 c26]] [Sm w.heap.size F w [[g2]],St w [[g2]]]
    intro A889 n890 c891 h892
    have h:Yxj x28 x1 x888 x893 o2:=h
    unfold Yxj at h
    refine Yu9 rfl<|Yu4 rfl rfl<|Yu2 0 rfl (Yug rfl rfl rfl) gn rfl<|Yua 1 rfl<|Yu9 rfl ?_
    by_cases hp1093:x893 < (x28.length:Int)
    ·have h:=Yul hp1093 h
     refine Yv4 rfl _ rfl ((decide_eq_true hp1093))<|Yv2 rfl<|Yu9 rfl<|Yuw rfl<|Yu9 rfl<|Yu4 rfl rfl<|Yu2 0 rfl (Yu3 rfl) gn rfl ?_
     obtain ⟨hb1094,h⟩:=h
     have hr1095:=Rw.readF (s:=St w [[g2]]) (hl:=(hlI .u64)) (h1:=(Yya .u64)) h32 hb1094
     refine Yu2 1 rfl (Yv7 (s:=St w [[g2]]) Ziy rfl rfl h32 hb1094) gn rfl<|Yu2 2 rfl (Yvj (kk:=(x893:Int).toNat * 1) (j:=0) (St w [[g2]]) Zdt rfl hr1095 rfl (me 1 rfl)) gn rfl<|Yu2 3 rfl (Yu7 rfl) gn rfl<|Yu2 4 rfl (Yu7 rfl) gn rfl<|Yua 5 rfl<|Yuw rfl<|Ywm rfl ?_
     have key3:∀ s,Yui (fun (s:(List Yud) × Int) o=>Yy3 x893 x1 s.1 s.2 o) s o2→(fun (s:(List Yud) × Int)=>∀ (A1161:Option Addr) (n1162:Nat) (c1163:Nat) (h1164:Ow w.heap.size A1161 n1162 c1163 s.1),G (Yxv w F g2 Tb3 r) [.code Zk0,.inLoop Zk0,.inBlock 4,.inBlock 3,.code Zpn,.inLoop Zfz,.inBlock 2,.code Ziu] [(0,.pointer (some ⟨g2,0,none⟩)),(8,.slice A1161 n1162 c1163),(9,.int .i64 x893),(10,.int .u64 s.2),(24,.slice A29 n30 c31),(25,.int .i64 (x28.length:Int)),(26,.int .i64 x893)] [.own (.slice A1161 n1162 c1163) 31 3 n1162 (s.1.flatMap Yv0),.box g2 Tb3 [.slice A4 n5 c6,.slice A8 n9 c10,.slice A12 n13 c14,.slice A16 n17 c18,.slice A20 n21 c22,.slice A24 n25 c26]] [Sm w.heap.size F w [[g2]],St w [[g2]]]) s:=by
      intro s hs
      refine Yui.ind (mot:=(fun (s:(List Yud) × Int)=>∀ (A1161:Option Addr) (n1162:Nat) (c1163:Nat) (h1164:Ow w.heap.size A1161 n1162 c1163 s.1),G (Yxv w F g2 Tb3 r) [.code Zk0,.inLoop Zk0,.inBlock 4,.inBlock 3,.code Zpn,.inLoop Zfz,.inBlock 2,.code Ziu] [(0,.pointer (some ⟨g2,0,none⟩)),(8,.slice A1161 n1162 c1163),(9,.int .i64 x893),(10,.int .u64 s.2),(24,.slice A29 n30 c31),(25,.int .i64 (x28.length:Int)),(26,.int .i64 x893)] [.own (.slice A1161 n1162 c1163) 31 3 n1162 (s.1.flatMap Yv0),.box g2 Tb3 [.slice A4 n5 c6,.slice A8 n9 c10,.slice A12 n13 c14,.slice A16 n17 c18,.slice A20 n21 c22,.slice A24 n25 c26]] [Sm w.heap.size F w [[g2]],St w [[g2]]])) ?_ hs
      clear hs s
      intro s o3 h hO3
      obtain ⟨x1160,x1165⟩:=s
      show ∀ (A1161:Option Addr) (n1162:Nat) (c1163:Nat) (h1164:Ow w.heap.size A1161 n1162 c1163 x1160),G (Yxv w F g2 Tb3 r) [.code Zk0,.inLoop Zk0,.inBlock 4,.inBlock 3,.code Zpn,.inLoop Zfz,.inBlock 2,.code Ziu] [(0,.pointer (some ⟨g2,0,none⟩)),(8,.slice A1161 n1162 c1163),(9,.int .i64 x893),(10,.int .u64 x1165),(24,.slice A29 n30 c31),(25,.int .i64 (x28.length:Int)),(26,.int .i64 x893)] [.own (.slice A1161 n1162 c1163) 31 3 n1162 (x1160.flatMap Yv0),.box g2 Tb3 [.slice A4 n5 c6,.slice A8 n9 c10,.slice A12 n13 c14,.slice A16 n17 c18,.slice A20 n21 c22,.slice A24 n25 c26]] [Sm w.heap.size F w [[g2]],St w [[g2]]]
      intro A1161 n1162 c1163 h1164
      have h:Yy3 x893 x1 x1160 x1165 o3:=h
      unfold Yy3 at h
      refine Yu9 rfl<|Yu9 rfl<|Yu4 rfl rfl<|Yu2 0 rfl (Yu3 rfl) gn rfl<|Yu2 1 rfl (Yug rfl rfl rfl) gn rfl<|Yua 2 rfl ?_
      by_cases hp1229:x1165=0
      ·have h:=Yul hp1229 h
       refine Yur rfl _ rfl ((Zgg hp1229))<|Ywa [.inBlock 3,.code Zpn,.inLoop Zfz,.inBlock 2,.code Ziu] rfl rfl<|Yux<|Yu4 rfl rfl<|Yu2 0 rfl (Yug rfl rfl rfl) gn rfl<|Yu2 1 rfl (Yu3 rfl) gn rfl<|Yua 2 rfl<|Yv1 ?_
       have h:=Out.inr hO3 h
       have ih:=Out.inl hO2 h
       exact Yvh [0,1] (ih A1161 n1162 c1163 h1164) ⟨rfl,rfl,rfl,rfl,rfl,trivial⟩ (.cons_cons _ (.cons_cons _ (.slnil))) rfl
      ·have h:=Yum hp1229 h
       refine Yv4 rfl _ rfl ((Zkm hp1229))<|Yv2 rfl<|Yu9 rfl<|Yuw rfl ?_
       obtain ⟨hb1230,h⟩:=h
       obtain ⟨r1236,hv1237,h⟩:=h
       obtain ⟨x1247,hv1248,h⟩:=h
       obtain ⟨hb1249,h⟩:=h
       have hns:Region.noSelect (Code.ops q38c53)=true:=by kernel_rfl
       refine Yvr [21,22] 23 rfl rfl mix rfl (.c 0 rfl (.c 1 rfl .n))<|wfv 0 rfl (Yu3 rfl) gn hns (by kernel_rfl)<|wfv 1 rfl (Yu3 rfl) gn hns (by kernel_rfl)<|wfv 2 rfl (Yuy rfl) gn hns (by kernel_rfl)<|wfv 3 rfl (Yub Ze6 rfl) gn hns (by kernel_rfl)<|wfv 4 rfl (Yue 1 Zi8 rfl rfl rfl) gn hns (by kernel_rfl)<|wfv 5 rfl (Yu3 rfl) gn hns (by kernel_rfl) ?_
       have hr1271:=Rw.readF (s:=Sm w.heap.size F w [[g2]]) (hl:=Yx6) (h1:=Zct) h19 hb1230
       refine wfv 6 rfl (Yv7 (s:=Sm w.heap.size F w [[g2]]) Zjm rfl rfl h19 hb1230) gn hns (by kernel_rfl)<|wfv 7 rfl (Yvo fo_107_0 rfl) gn hns (by kernel_rfl)<|wfv 8 rfl (Yvj (kk:=(x893:Int).toNat * 5) (j:=0) (Sm w.heap.size F w [[g2]]) Yvt rfl hr1271 rfl (me 0 rfl)) gn hns (by kernel_rfl)<|wfv 9 rfl (Yu3 rfl) gn hns (by kernel_rfl)<|wfv 10 rfl (Yuy rfl) gn hns (by kernel_rfl)<|wfv 11 rfl (Yub Ze6 rfl) gn hns (by kernel_rfl)<|wfv 12 rfl (Yue 1 Zi8 rfl rfl rfl) gn hns (by kernel_rfl)<|wfv 13 rfl (Yu3 rfl) gn hns (by kernel_rfl) ?_
       have hr1272:=Rw.readF (s:=Sm w.heap.size F w [[g2]]) (hl:=Yx6) (h1:=Zct) h19 hb1230
       refine wfv 14 rfl (Yv7 (s:=Sm w.heap.size F w [[g2]]) Zjm rfl rfl h19 hb1230) gn hns (by kernel_rfl)<|wfv 15 rfl (Yvo fo_107_1 rfl) gn hns (by kernel_rfl)<|wfv 16 rfl (Yvj (kk:=(x893:Int).toNat * 5) (j:=1) (Sm w.heap.size F w [[g2]]) Yvt rfl hr1272 rfl (me 0 rfl)) gn hns (by kernel_rfl)<|wfv 17 rfl (Yu3 rfl) gn hns (by kernel_rfl) ?_
       refine Ywl [18] (by kernel_rfl) rfl ⟨Zdm 18 rfl gn rfl (Yvz [.int .u64 x1165] rfl Tryd.func54 rfl rfl rfl fun w1279 hL1280=>?_),trivial⟩
       have hp1281:=pmI hL1280 .n (.c 0 rfl (.c 1 rfl .n)) (by kernel_rfl)
       refine Calls.mono (Zf7 w1279 (Fl ([]:List Yva)) x1165 (hL1280.tt hp1281 hG0 (me 1 rfl)) (hL1280.hFl hp1281 (Yvm [] rfl)) (hL1280.into hp1281 _) r1236 hv1237) ?_
       rintro _ w1282 ⟨rfl,hM1283⟩
       have hL1284:=hL1280.call hp1281 hM1283
       refine ⟨_,_,_,rfl,hL1284,?_⟩
       refine ⟨Yvm [0,1] rfl,Yvm [0,1] rfl,?_⟩
       refine wfv 19 rfl (Zap #[.int .i64 ((ix x1.spots x893).prod),.int .i64 ((ix x1.spots x893).dot),.int .i64 r1236] bd_31 rfl (by kernel_rfl)) gn hns (by kernel_rfl) ?_
       refine Ywl [20] (by kernel_rfl) rfl ⟨Zdm 20 rfl gn rfl (Zdd (xs:=([(⟨(ix x1.spots x893).prod,(ix x1.spots x893).dot,r1236⟩:Yud)]:List Yud)) [.int .i64 ((ix x1.spots x893).prod),.int .i64 ((ix x1.spots x893).dot),.int .i64 r1236] Zsp rfl (by kernel_rfl) rfl rfl rfl rfl fun gb1287 h1288=>?_),trivial⟩
       refine ⟨Yvm [1,2] rfl,Yvm [0,1] rfl,?_⟩
       refine Ywl [21] (by kernel_rfl) rfl ⟨Zi7 21 rfl gn rfl (Zdj (zs:=x1247) (cells':=x1247.flatMap Yv0) 1 ap_27 rfl rfl rfl h1164 (Nat.le_refl _) (Src.ownF (hl:=Yyz) (h1:=Yyy) 0 rfl h1288) (by rw [hv1248,List.flatMap_append] <;> rfl) (Yzh hv1248 h1288.hq) hb1249 rfl rfl fun A1289 c1290 h1291=>?_),trivial⟩
       unfold NxL
       refine Ywl [22] (by kernel_rfl) rfl ⟨Zi7 22 rfl gn rfl (Zov (Yu7 rfl) rfl ?_),trivial⟩
       unfold NxL
       refine Yvx (by kernel_rfl)<|Yux<|Yu4 rfl rfl<|Yu2 0 rfl (Yu3 rfl) gn rfl<|Yu2 1 rfl (Yu3 rfl) gn rfl<|Yu2 2 rfl (Yug rfl rfl rfl) gn rfl<|Yu2 3 rfl (Yug rfl rfl rfl) gn rfl<|Yu2 4 rfl (Yu7 rfl) gn rfl<|Yua 5 rfl<|Yv1 ?_
       have ih:=Out.inl hO3 h
       exact Yvh [0,1] (ih A1289 (n1162 + 1) c1290 h1291) ⟨rfl,rfl,rfl,rfl,rfl,rfl,rfl,trivial⟩ (.cons _ (.cons_cons _ (.cons_cons _ (.slnil)))) rfl
     exact Yvh [0,1] (key3 _ h A889 n890 c891 h892) ⟨rfl,rfl,rfl,rfl,rfl,rfl,rfl,trivial⟩ (.cons_cons _ (.cons_cons _ (.slnil))) rfl
    ·have h:=Yum hp1093 h
     refine Yur rfl _ rfl ((decide_eq_false hp1093))<|Ywa [.code Ziu] rfl rfl<|Yu9 rfl<|Yu4 rfl rfl<|Yu2 0 rfl (Yu3 rfl) gn rfl<|Yu2 1 rfl (Yu7 rfl) gn rfl<|Yua 2 rfl ?_
     have h:=Out.inr hO2 h
     have h:=Out.inr hO1 h
     refine Yvb [.slice A889 n890 c891] rfl Tryd.func38 rfl (.tmp rfl (.nil)) fun wr hLr=>?_
     have hMr:=hLr.pkI (.c 1 rfl (.c 0 rfl .n)) .n (by kernel_rfl) (.c 1 rfl .n)
     have hMi:=hLr.selI (.c 1 rfl (.c 0 rfl .n))
     show Zev w F g2 Tb3 r (.returned (Yvl [.slice A889 n890 c891])) wr
     rw [h]
     exact ⟨A889,n890,c891,A4,n5,c6,A8,n9,c10,A12,n13,c14,A16,n17,c18,A20,n21,c22,A24,n25,c26,rfl,hMr,h892,(hLr.outR (s:=Sm w.heap.size F w [[g2]]) hMi (me 0 rfl) Sm.ok h7),(hLr.outR (s:=Sm w.heap.size F w [[g2]]) hMi (me 0 rfl) Sm.ok h11),(hLr.outR (s:=Sm w.heap.size F w [[g2]]) hMi (me 0 rfl) Sm.ok h15),(hLr.outR (s:=Sm w.heap.size F w [[g2]]) hMi (me 0 rfl) Sm.ok h19),(hLr.outR (s:=Sm w.heap.size F w [[g2]]) hMi (me 0 rfl) Sm.ok h23),(hLr.outR (s:=Sm w.heap.size F w [[g2]]) hMi (me 0 rfl) Sm.ok h27)⟩
   exact Yvh [0,1] (key2 _ h A685 0 ((x52:Int).toNat) h686) ⟨rfl,rfl,rfl,rfl,rfl,trivial⟩ (.cons_cons _ (.cons_cons _ (.slnil))) rfl
 exact Yvh [0,1] (key1 _ h ()) ⟨rfl,rfl,rfl,rfl,rfl,rfl,trivial⟩ (.cons_cons _ (.slnil)) rfl
abbrev Zec (w:World) (F:Nat→Prop) (r:List Yud):Ending→World→Prop:=fun e w'=>∃ A0:Option Addr,∃ n0:Nat,∃ c0:Nat,e=.returned (.slice A0 n0 c0)∧B.Loc w w' [.own (.slice A0 n0 c0) 31 3 n0 (r.flatMap Yv0)] [St w []]∧Ow w.heap.size A0 n0 c0 r
noncomputable abbrev Zmr (w:World) (F:Nat→Prop) (r:List Yud):Cx:=⟨Tryd.prog,16,Tryd.f16,18,Zec w F  r,w⟩
theorem Zjp (w:World) (F:Nat→Prop) (x1:Yu5) (x14:List Yud) (A2:Option Addr) (n3:Nat) (c4:Nat) (A6:Option Addr) (n7:Nat) (c8:Nat) (A10:Option Addr) (n11:Nat) (c12:Nat) (A15:Option Addr) (n16:Nat) (c17:Nat) (h5:Rw Yuj w (St w []).av A2 n3 c4 x1.terms) (h9:Rw Yuq w (St w []).av A6 n7 c8 x1.syms) (h13:Rw Yun w (St w []).av A10 n11 c12 x1.prods) (h18:Rw Yxu w (St w []).av A15 n16 c17 x14) (hG0:Tt .u8 Zmo 0 (St w [])) (hF:∀ b,F b→b < w.heap.size∧∀ o ∈ ([]:List (List Nat)),b ∉ o) (hL0:B.Loc w w [] [Sm w.heap.size F w [],St w []]) (r:List Yud) (h:Ze0 x1 x14 r):Calls Tryd.prog 16 #[.agg #[.slice A2 n3 c4,.slice A6 n7 c8,.slice A10 n11 c12],.slice A15 n16 c17] w (Zec w F  r):=by
 unfold Ze0 at h
 refine Yv5 (vs:=[.agg #[.slice A2 n3 c4,.slice A6 n7 c8,.slice A10 n11 c12],.slice A15 n16 c17]) 18 Tryd.func16 rfl Tryd.ntmps16 rfl hL0 ?_
 show G (Zmr w F r) _ _ _ _
 refine Yu9 rfl<|Yu4 rfl rfl ?_
 refine Yve 0 rfl (Zas [.slice A2 n3 c4,.slice A6 n7 c8,.slice A10 n11 c12] rfl rfl rfl fun gb19=>?_) gn
 refine Yu2 1 rfl (Yu7 rfl) gn rfl<|Yua 2 rfl<|Yu9 rfl<|Yu9 rfl<|Yu4 rfl rfl<|Yu2 0 rfl (Yyr [.slice A2 n3 c4,.slice A6 n7 c8,.slice A10 n11 c12] 0 Yys rfl rfl rfl rfl) gn rfl ?_
 obtain ⟨r24,hv25,h⟩:=h
 refine Yve 1 rfl (Yvz [.agg #[.slice A2 n3 c4,.slice A6 n7 c8,.slice A10 n11 c12]] rfl Tryd.func36 rfl rfl rfl fun w21 hL22=>?_) gn
 have hp23:=pmI hL22 .n (.c 0 rfl .n) (by kernel_rfl)
 refine Calls.mono (Zh3 w21 (Fl ([]:List Yva)) x1 A2 n3 c4 A6 n7 c8 A10 n11 c12 (Rw.mono h5 (hL22.toSt hp23 (me 1 rfl))) (Rw.mono h9 (hL22.toSt hp23 (me 1 rfl))) (Rw.mono h13 (hL22.toSt hp23 (me 1 rfl))) (hL22.hFl hp23 (Yvm [] rfl)) (hL22.into hp23 _) r24 hv25) ?_
 rintro _ w26 ⟨rfl,hM27⟩
 have hL28:=hL22.call hp23 hM27
 refine ⟨_,_,_,rfl,hL28,?_⟩
 refine Yu2 2 rfl (Zf9 rfl) gn rfl<|Yua 3 rfl ?_
 by_cases hp29:r24=true
 ·have h:=Yul hp29 h
  refine Yur rfl _ rfl ((nf hp29))<|Yv2 rfl<|Yu9 rfl<|Yu4 rfl rfl<|Yu2 0 rfl (Yyr [.slice A2 n3 c4,.slice A6 n7 c8,.slice A10 n11 c12] 0 Yys rfl rfl rfl rfl) gn rfl ?_
  obtain ⟨r33,hv34,h⟩:=h
  refine Yve 1 rfl (Yvz [.agg #[.slice A2 n3 c4,.slice A6 n7 c8,.slice A10 n11 c12]] rfl Tryd.func37 rfl rfl rfl fun w30 hL31=>?_) gn
  have hp32:=pmI hL31 .n (.c 0 rfl .n) (by kernel_rfl)
  refine Calls.mono (Zg1 w30 (Fl ([St w []]:List Yva)) x1 A2 n3 c4 A6 n7 c8 A10 n11 c12 (Rw.mono h5 (hL31.toFl (me 1 rfl) (me 0 rfl))) (Rw.mono h9 (hL31.toFl (me 1 rfl) (me 0 rfl))) (Rw.mono h13 (hL31.toFl (me 1 rfl) (me 0 rfl))) (hL31.hFl hp32 (Yvm [1] rfl)) (hL31.into hp32 _) r33 hv34) ?_
  rintro _ w65 ⟨gb70,A47,n48,c49,A52,n53,c54,A57,n58,c59,cs62,A35,n36,c37,A39,n40,c41,A43,n44,c45,rfl,hM66,h50,h55,h60,hC63,h38,h42,h46⟩
  obtain ⟨sv69,hL67,hv68⟩:=hL31.callN (Sl:=([St w []]:List Yva)) hp32 hM66 (Yvm [1] rfl)
  have h38:At Yuj (sv69) A35 n36 c37 r33.g.terms:=Rw.mono h38 hv68
  have h42:At Yuq (sv69) A39 n40 c41 r33.g.syms:=Rw.mono h42 hv68
  have h46:At Yun (sv69) A43 n44 c45 r33.g.prods:=Rw.mono h46 hv68
  have hC63:Cells (Kd.slice (Yw6 .i64)) (sv69).w (sv69).av r33.of cs62:=Cells.mono hv68 hC63
  refine ⟨_,_,_,rfl,hL67,?_⟩
  refine Yu2 2 rfl (Yu7 rfl) gn rfl<|Yua 3 rfl<|Yu9 rfl<|Yu4 rfl rfl<|Yu2 0 rfl (Yu3 rfl) gn rfl<|Yu2 1 rfl (Yu3 rfl) gn rfl<|Yu2 2 rfl (Yu3 rfl) gn rfl<|Yu2 3 rfl (Yu3 rfl) gn rfl ?_
  obtain ⟨r83,hv84,h⟩:=h
  refine Ze5 (F:=F) (dk:=Yx2) (Sm w.heap.size F w []) 1 rfl (Ow.weak hL31.env.size h50) (me 1 rfl) Sm.ok (Cells.flat _) fun sw76 sb77 h75=>?_
  refine Ze5 (F:=F) (dk:=(Yw6 .i64)) (Sm w.heap.size F w []) 1 rfl (Ow.weak hL31.env.size h55) (me 2 rfl) Sm.ok (Cells.flat _) fun sw79 sb80 h78=>?_
  refine Zp8 (dk:=(Kd.slice (Yw6 .i64))) (sv69) 1 rfl (Ow.weak hL31.env.size h60) (me 2 rfl) hC63 fun sv82 h81=>?_
  refine Yve 4 rfl (Yvz [.pointer (some ⟨gb70,0,none⟩),.slice A15 n16 c17] rfl Tryd.func40 rfl rfl rfl fun w72 hL73=>?_) gn
  have hp74:=pmI hL73 (.c 0 rfl .n) (.c 1 rfl .n) (by kernel_rfl)
  refine Calls.mono (Zex w72 (Fl ([sv69,Sm w.heap.size F sw76 sb77,Sm w.heap.size F sw79 sb80,sv82]:List Yva)) r33 x14 gb70 102 A35 n36 c37 A39 n40 c41 A43 n44 c45 A47 n48 c49 A52 n53 c54 A57 n58 c59 A15 n16 c17 (Rw.mono h38 (hL73.toFl (me 3 rfl) (me 0 rfl))) (Rw.mono h42 (hL73.toFl (me 3 rfl) (me 0 rfl))) (Rw.mono h46 (hL73.toFl (me 3 rfl) (me 0 rfl))) (Rw.mono h75 (hL73.toFl (me 2 rfl) (me 1 rfl))) (Rw.mono h78 (hL73.toFl (me 1 rfl) (me 2 rfl))) (Rw.mono h81 (hL73.toFl (me 0 rfl) (me 3 rfl))) (Rw.mono h18 (hL73.toSt hp74 (me 5 rfl))) (hL73.hFl hp74 (Yvm [3,2,1,0] rfl)) (hL73.into hp74 _) r83 hv84) ?_
  rintro _ w114 ⟨A85,n86,c87,A90,n91,c92,A94,n95,c96,A98,n99,c100,A102,n103,c104,A106,n107,c108,A110,n111,c112,rfl,hM115,h88,h93,h97,h101,h105,h109,h113⟩
  obtain ⟨sv118,hL116,hv117⟩:=hL73.callN (Sl:=([sv69,Sm w.heap.size F sw76 sb77,Sm w.heap.size F sw79 sb80,sv82]:List Yva)) hp74 hM115 (Yvm [3,2,1,0] rfl)
  have h93:At Yuj (sv118) A90 n91 c92 r83.2.g.terms:=Rw.mono h93 hv117
  have h97:At Yuq (sv118) A94 n95 c96 r83.2.g.syms:=Rw.mono h97 hv117
  have h101:At Yun (sv118) A98 n99 c100 r83.2.g.prods:=Rw.mono h101 hv117
  have h105:At Yx2 (sv118) A102 n103 c104 r83.2.spots:=Rw.mono h105 hv117
  have h109:At (Yw6 .i64) (sv118) A106 n107 c108 r83.2.at_:=Rw.mono h109 hv117
  have h113:At (Kd.slice (Yw6 .i64)) (sv118) A110 n111 c112 r83.2.of:=Rw.mono h113 hv117
  refine ⟨_,_,_,rfl,hL116,?_⟩
  obtain ⟨r122,hv123,h⟩:=h
  refine Yve 5 rfl (Yvz [.pointer (some ⟨gb70,0,none⟩),.slice A85 n86 c87] rfl Tryd.func39 rfl rfl rfl fun w119 hL120=>?_) gn
  have hp121:=pmI hL120 (.c 0 rfl .n) (.c 1 rfl (.c 2 rfl .n)) (by kernel_rfl)
  refine Calls.mono (Zbz w119 (Fl ([sv118]:List Yva)) r83.2 r83.1 gb70 102 A90 n91 c92 A94 n95 c96 A98 n99 c100 A102 n103 c104 A106 n107 c108 A110 n111 c112 A85 n86 c87 (Rw.mono h93 (hL120.toFl (me 0 rfl) (me 0 rfl))) (Rw.mono h97 (hL120.toFl (me 0 rfl) (me 0 rfl))) (Rw.mono h101 (hL120.toFl (me 0 rfl) (me 0 rfl))) (Rw.mono h105 (hL120.toFl (me 0 rfl) (me 0 rfl))) (Rw.mono h109 (hL120.toFl (me 0 rfl) (me 0 rfl))) (Rw.mono h113 (hL120.toFl (me 0 rfl) (me 0 rfl))) (hL120.argO (dk:=Zdn) hp121 [0] rfl 1 rfl rfl (Ow.weak hL73.env.size h88) (me 5 rfl) (Cells.flat _)) (hL120.hFl hp121 (Yvm [0] rfl)) (hL120.into hp121 _) r122 hv123) ?_
  rintro _ w153 ⟨A124,n125,c126,A129,n130,c131,A133,n134,c135,A137,n138,c139,A141,n142,c143,A145,n146,c147,A149,n150,c151,rfl,hM154,h127,h132,h136,h140,h144,h148,h152⟩
  obtain ⟨sv157,hL155,hv156⟩:=hL120.callN (Sl:=([sv118]:List Yva)) hp121 hM154 (Yvm [0] rfl)
  have h132:At Yuj (sv157) A129 n130 c131 r122.2.g.terms:=Rw.mono h132 hv156
  have h136:At Yuq (sv157) A133 n134 c135 r122.2.g.syms:=Rw.mono h136 hv156
  have h140:At Yun (sv157) A137 n138 c139 r122.2.g.prods:=Rw.mono h140 hv156
  have h144:At Yx2 (sv157) A141 n142 c143 r122.2.spots:=Rw.mono h144 hv156
  have h148:At (Yw6 .i64) (sv157) A145 n146 c147 r122.2.at_:=Rw.mono h148 hv156
  have h152:At (Kd.slice (Yw6 .i64)) (sv157) A149 n150 c151 r122.2.of:=Rw.mono h152 hv156
  refine ⟨_,_,_,rfl,hL155,?_⟩
  obtain ⟨r161,hv162,h⟩:=h
  refine Yve 6 rfl (Yvz [.pointer (some ⟨gb70,0,none⟩),.slice A124 n125 c126] rfl Tryd.func38 rfl rfl rfl fun w158 hL159=>?_) gn
  have hp160:=pmI hL159 (.c 0 rfl .n) (.c 1 rfl (.c 2 rfl (.c 3 rfl .n))) (by kernel_rfl)
  refine Calls.mono (Zfa w158 (Fl ([sv157]:List Yva)) r122.2 r122.1 gb70 102 A129 n130 c131 A133 n134 c135 A137 n138 c139 A141 n142 c143 A145 n146 c147 A149 n150 c151 A124 n125 c126 (Rw.mono h132 (hL159.toFl (me 0 rfl) (me 0 rfl))) (Rw.mono h136 (hL159.toFl (me 0 rfl) (me 0 rfl))) (Rw.mono h140 (hL159.toFl (me 0 rfl) (me 0 rfl))) (Rw.mono h144 (hL159.toFl (me 0 rfl) (me 0 rfl))) (Rw.mono h148 (hL159.toFl (me 0 rfl) (me 0 rfl))) (Rw.mono h152 (hL159.toFl (me 0 rfl) (me 0 rfl))) (hL159.argO (dk:=(Yw6 .u64)) hp160 [0] rfl 1 rfl rfl (Ow.weak hL120.env.size h127) (me 6 rfl) (Cells.flat _)) (hL159.tt hp160 hG0 (me 7 rfl)) (hL159.hFl hp160 (Yvm [0] rfl)) (hL159.into hp160 _) r161 hv162) ?_
  rintro _ w192 ⟨A163,n164,c165,A168,n169,c170,A172,n173,c174,A176,n177,c178,A180,n181,c182,A184,n185,c186,A188,n189,c190,rfl,hM193,h166,h171,h175,h179,h183,h187,h191⟩
  obtain ⟨sv196,hL194,hv195⟩:=hL159.callN (Sl:=([sv157]:List Yva)) hp160 hM193 (Yvm [0] rfl)
  have h171:At Yuj (sv196) A168 n169 c170 r161.2.g.terms:=Rw.mono h171 hv195
  have h175:At Yuq (sv196) A172 n173 c174 r161.2.g.syms:=Rw.mono h175 hv195
  have h179:At Yun (sv196) A176 n177 c178 r161.2.g.prods:=Rw.mono h179 hv195
  have h183:At Yx2 (sv196) A180 n181 c182 r161.2.spots:=Rw.mono h183 hv195
  have h187:At (Yw6 .i64) (sv196) A184 n185 c186 r161.2.at_:=Rw.mono h187 hv195
  have h191:At (Kd.slice (Yw6 .i64)) (sv196) A188 n189 c190 r161.2.of:=Rw.mono h191 hv195
  refine ⟨_,_,_,rfl,hL194,?_⟩
  refine Yu2 7 rfl (Yu7 rfl) gn rfl<|Yua 8 rfl ?_
  refine Yvb [.slice A163 n164 c165] rfl Tryd.func16 rfl (.tmp rfl (.nil)) fun wr hLr=>?_
  have hMr:=hLr.pkI (.c 1 rfl .n) (.c 0 rfl (.c 2 rfl (.c 3 rfl (.c 4 rfl .n)))) (by kernel_rfl) (.c 8 rfl .n)
  show Zec w F  r (.returned (Yvl [.slice A163 n164 c165])) wr
  rw [h]
  exact ⟨A163,n164,c165,rfl,hMr,(Ow.weak hL159.env.size h166)⟩
 ·have h:=Yum hp29 h
  refine Yv4 rfl _ rfl ((nt (bf hp29)))<|Yu9 rfl<|Yu4 rfl rfl<|Yu2 0 rfl (Yu7 rfl) gn rfl<|Yua 1 rfl<|Zf4 31 3 ?_
  refine Yvb [.slice none 0 0] rfl Tryd.func16 rfl (.tmp rfl (.nil)) fun wr hLr=>?_
  have hMr:=hLr.pkI (.c 0 rfl .n) (.c 1 rfl .n) (by kernel_rfl) (.c 1 rfl .n)
  show Zec w F  r (.returned (Yvl [.slice none 0 0])) wr
  rw [h]
  exact ⟨none,0,0,rfl,hMr,(Ow.nil (z:=w.heap.size))⟩
noncomputable abbrev q42c3:=Code.fst (Code.snd (Yvq Tryd.f42))
noncomputable abbrev q42c6:=Code.snd (Code.snd (Code.snd (Yvq Tryd.f42)))
noncomputable abbrev Zlo:=Code.fst (Code.fst (Code.snd (Code.fst (Code.snd (Code.snd (Yvq Tryd.f42))))))
abbrev Zen (w:World) (F:Nat→Prop) (g2:Nat) (Tb3:Nat) (r:(List (List Yus)) × Yuv):Ending→World→Prop:=fun e w'=>∃ A0:Option Addr,∃ n0:Nat,∃ c0:Nat,∃ cs0:List Value,∃ A1:Option Addr,∃ n1:Nat,∃ c1:Nat,∃ A2:Option Addr,∃ n2:Nat,∃ c2:Nat,∃ A3:Option Addr,∃ n3:Nat,∃ c3:Nat,∃ A4:Option Addr,∃ n4:Nat,∃ c4:Nat,∃ A5:Option Addr,∃ n5:Nat,∃ c5:Nat,∃ A6:Option Addr,∃ n6:Nat,∃ c6:Nat,e=.returned (.slice A0 n0 c0)∧B.Loc w w' [.box g2 Tb3 [.slice A1 n1 c1,.slice A2 n2 c2,.slice A3 n3 c3,.slice A4 n4 c4,.slice A5 n5 c5,.slice A6 n6 c6],.own (.slice A0 n0 c0) 73 1 n0 cs0] [St w [[g2]]]∧Ow w.heap.size A0 n0 c0 r.1∧Cells (Kd.slice Zdn) w' (Nw w w' F [.box g2 Tb3 [.slice A1 n1 c1,.slice A2 n2 c2,.slice A3 n3 c3,.slice A4 n4 c4,.slice A5 n5 c5,.slice A6 n6 c6],.own (.slice A0 n0 c0) 73 1 n0 cs0]) r.1 cs0∧Rw Yuj w' (Nw w w' F [.box g2 Tb3 [.slice A1 n1 c1,.slice A2 n2 c2,.slice A3 n3 c3,.slice A4 n4 c4,.slice A5 n5 c5,.slice A6 n6 c6],.own (.slice A0 n0 c0) 73 1 n0 cs0]) A1 n1 c1 r.2.g.terms∧Rw Yuq w' (Nw w w' F [.box g2 Tb3 [.slice A1 n1 c1,.slice A2 n2 c2,.slice A3 n3 c3,.slice A4 n4 c4,.slice A5 n5 c5,.slice A6 n6 c6],.own (.slice A0 n0 c0) 73 1 n0 cs0]) A2 n2 c2 r.2.g.syms∧Rw Yun w' (Nw w w' F [.box g2 Tb3 [.slice A1 n1 c1,.slice A2 n2 c2,.slice A3 n3 c3,.slice A4 n4 c4,.slice A5 n5 c5,.slice A6 n6 c6],.own (.slice A0 n0 c0) 73 1 n0 cs0]) A3 n3 c3 r.2.g.prods∧Rw Yx2 w' (Nw w w' F [.box g2 Tb3 [.slice A1 n1 c1,.slice A2 n2 c2,.slice A3 n3 c3,.slice A4 n4 c4,.slice A5 n5 c5,.slice A6 n6 c6],.own (.slice A0 n0 c0) 73 1 n0 cs0]) A4 n4 c4 r.2.spots∧Rw (Yw6 .i64) w' (Nw w w' F [.box g2 Tb3 [.slice A1 n1 c1,.slice A2 n2 c2,.slice A3 n3 c3,.slice A4 n4 c4,.slice A5 n5 c5,.slice A6 n6 c6],.own (.slice A0 n0 c0) 73 1 n0 cs0]) A5 n5 c5 r.2.at_∧Rw (Kd.slice (Yw6 .i64)) w' (Nw w w' F [.box g2 Tb3 [.slice A1 n1 c1,.slice A2 n2 c2,.slice A3 n3 c3,.slice A4 n4 c4,.slice A5 n5 c5,.slice A6 n6 c6],.own (.slice A0 n0 c0) 73 1 n0 cs0]) A6 n6 c6 r.2.of
noncomputable abbrev Zch (w:World) (F:Nat→Prop) (g2:Nat) (Tb3:Nat) (r:(List (List Yus)) × Yuv):Cx:=⟨Tryd.prog,42,Tryd.f42,59,Zen w F g2 Tb3 r,w⟩
theorem Zie (w:World) (F:Nat→Prop) (x1:Yuv) (x28:List Int) (g2:Nat) (Tb3:Nat) (A4:Option Addr) (n5:Nat) (c6:Nat) (A8:Option Addr) (n9:Nat) (c10:Nat) (A12:Option Addr) (n13:Nat) (c14:Nat) (A16:Option Addr) (n17:Nat) (c18:Nat) (A20:Option Addr) (n21:Nat) (c22:Nat) (A24:Option Addr) (n25:Nat) (c26:Nat) (A29:Option Addr) (n30:Nat) (c31:Nat) (h7:Rw Yuj w F A4 n5 c6 x1.g.terms) (h11:Rw Yuq w F A8 n9 c10 x1.g.syms) (h15:Rw Yun w F A12 n13 c14 x1.g.prods) (h19:Rw Yx2 w F A16 n17 c18 x1.spots) (h23:Rw (Yw6 .i64) w F A20 n21 c22 x1.at_) (h27:Rw (Kd.slice (Yw6 .i64)) w F A24 n25 c26 x1.of) (h32:Rw (Yw6 .u64) w (St w [[g2]]).av A29 n30 c31 x28) (hF:∀ b,F b→b < w.heap.size∧∀ o ∈ ([[g2]]:List (List Nat)),b ∉ o) (hL0:B.Loc w w [.box g2 Tb3 [.slice A4 n5 c6,.slice A8 n9 c10,.slice A12 n13 c14,.slice A16 n17 c18,.slice A20 n21 c22,.slice A24 n25 c26]] [Sm w.heap.size F w [[g2]],St w [[g2]]]) (r:(List (List Yus)) × Yuv) (h:Zc8 x1 x28 r):Calls Tryd.prog 42 #[.pointer (some ⟨g2,0,none⟩),.slice A29 n30 c31] w (Zen w F g2 Tb3 r):=by
 unfold Zc8 at h
 have h7:=Rw.into (bs:=[[g2]]) hF h7
 have h11:=Rw.into (bs:=[[g2]]) hF h11
 have h15:=Rw.into (bs:=[[g2]]) hF h15
 have h19:=Rw.into (bs:=[[g2]]) hF h19
 have h23:=Rw.into (bs:=[[g2]]) hF h23
 have h27:=Rw.into (bs:=[[g2]]) hF h27
 refine Yv5 (vs:=[.pointer (some ⟨g2,0,none⟩),.slice A29 n30 c31]) 59 Tryd.func42 rfl Tryd.ntmps42 rfl hL0 ?_
 show G (Zch w F g2 Tb3 r) _ _ _ _
 refine Yu9 rfl<|Yu4 rfl rfl<|Yu2 0 rfl (Yu7 rfl) gn rfl<|Yua 1 rfl<|Yu9 rfl ?_
 obtain ⟨hb33,h⟩:=h
 obtain ⟨x38,hv39,h⟩:=h
 have hns:Region.noSelect (Code.ops q42c3)=true:=by kernel_rfl
 refine Yvr [] 15 rfl rfl mix rfl (.c 0 rfl (.c 1 rfl .n))<|wfv 0 rfl (Yu3 rfl) gn hns rfl<|wfv 1 rfl (Yuy rfl) gn hns rfl<|wfv 2 rfl (Yub Zcc rfl) gn hns rfl<|wfv 3 rfl (Yub Yw7 rfl) gn hns rfl<|wfv 4 rfl (Yue 0 Yz4 rfl rfl rfl) gn hns rfl<|wfv 5 rfl (Yuo Yze rfl h7.hq) gn hns rfl<|wfv 6 rfl (Yu3 rfl) gn hns rfl<|wfv 7 rfl (Yuy rfl) gn hns rfl<|wfv 8 rfl (Yub Zcc rfl) gn hns rfl<|wfv 9 rfl (Yub Yxd rfl) gn hns rfl<|wfv 10 rfl (Yue 0 Zak rfl rfl rfl) gn hns rfl ?_
 refine wfv 11 rfl (Yuo Zbm rfl h11.hq) gn hns rfl<|wfv 12 rfl (Yug rfl rfl rfl) gn hns rfl ?_
 refine Ywl [13] (by kernel_rfl) rfl ⟨Zdm 13 rfl gn rfl (Zib (enc:=(fun _:List Yus=>[Value.slice none 0 0])) (z:=([]:List Yus)) mk_82 rfl (by decide) rfl rfl hb33.1 hb33.2 (by decide) hv39 rfl fun A50 h51=>?_),trivial⟩
 refine ⟨Yvm [1] rfl,Yvm [0,1] rfl,?_⟩
 refine Zok (z:=w.heap.size) Zku ([]:List Yus) [Value.slice none 0 0] rfl rfl trivial hv39<|wfv 14 rfl (Yu7 rfl) gn hns rfl<|Yvx (by kernel_rfl)<|Yu9 rfl<|Yu9 rfl<|Yu4 rfl rfl<|Yu2 0 rfl (Yu3 rfl) gn rfl<|Yu2 1 rfl (Yuo un_71 rfl h32.hq) gn rfl<|Yu2 2 rfl (Yu3 rfl) gn rfl<|Yua 3 rfl<|Yuw rfl<|Ywm rfl ?_
 have key1:∀ s,Yui (fun (s:(List (List Yus)) × Int) o=>Yxo x28 x1 s.1 s.2 o) s r→(fun (s:(List (List Yus)) × Int)=>∀ (bs94:List Nat) (A95:Option Addr) (n96:Nat) (c97:Nat) (cs98:List Value) (h99:Ow w.heap.size A95 n96 c97 s.1),G (Zch w F g2 Tb3 r) [.code Zlo,.inLoop Zlo,.inBlock 0,.code q42c6] [(0,.pointer (some ⟨g2,0,none⟩)),(5,.slice A95 n96 c97),(23,.slice A29 n30 c31),(24,.int .i64 (x28.length:Int)),(25,.int .i64 s.2)] [Ywj Zku (w.heap.size) none s.1 cs98 bs94,.own (.slice A95 n96 c97) 73 1 n96 cs98,.box g2 Tb3 [.slice A4 n5 c6,.slice A8 n9 c10,.slice A12 n13 c14,.slice A16 n17 c18,.slice A20 n21 c22,.slice A24 n25 c26]] [Sm w.heap.size F w [[g2]],St w [[g2]]]) s:=by
  intro s hs
  refine Yui.ind (mot:=(fun (s:(List (List Yus)) × Int)=>∀ (bs94:List Nat) (A95:Option Addr) (n96:Nat) (c97:Nat) (cs98:List Value) (h99:Ow w.heap.size A95 n96 c97 s.1),G (Zch w F g2 Tb3 r) [.code Zlo,.inLoop Zlo,.inBlock 0,.code q42c6] [(0,.pointer (some ⟨g2,0,none⟩)),(5,.slice A95 n96 c97),(23,.slice A29 n30 c31),(24,.int .i64 (x28.length:Int)),(25,.int .i64 s.2)] [Ywj Zku (w.heap.size) none s.1 cs98 bs94,.own (.slice A95 n96 c97) 73 1 n96 cs98,.box g2 Tb3 [.slice A4 n5 c6,.slice A8 n9 c10,.slice A12 n13 c14,.slice A16 n17 c18,.slice A20 n21 c22,.slice A24 n25 c26]] [Sm w.heap.size F w [[g2]],St w [[g2]]])) ?_ hs
  clear hs s
  intro s o1 h hO1
  obtain ⟨x93,x100⟩:=s
  show ∀ (bs94:List Nat) (A95:Option Addr) (n96:Nat) (c97:Nat) (cs98:List Value) (h99:Ow w.heap.size A95 n96 c97 x93),G (Zch w F g2 Tb3 r) [.code Zlo,.inLoop Zlo,.inBlock 0,.code q42c6] [(0,.pointer (some ⟨g2,0,none⟩)),(5,.slice A95 n96 c97),(23,.slice A29 n30 c31),(24,.int .i64 (x28.length:Int)),(25,.int .i64 x100)] [Ywj Zku (w.heap.size) none x93 cs98 bs94,.own (.slice A95 n96 c97) 73 1 n96 cs98,.box g2 Tb3 [.slice A4 n5 c6,.slice A8 n9 c10,.slice A12 n13 c14,.slice A16 n17 c18,.slice A20 n21 c22,.slice A24 n25 c26]] [Sm w.heap.size F w [[g2]],St w [[g2]]]
  intro bs94 A95 n96 c97 cs98 h99
  have h:Yxo x28 x1 x93 x100 o1:=h
  unfold Yxo at h
  refine Yu9 rfl<|Yu4 rfl rfl<|Yu2 0 rfl (Yug rfl rfl rfl) gn rfl<|Yua 1 rfl<|Yu9 rfl ?_
  by_cases hp140:x100 < (x28.length:Int)
  ·have h:=Yul hp140 h
   refine Yv4 rfl _ rfl ((decide_eq_true hp140))<|Yv2 rfl<|Yu9 rfl<|Yuw rfl<|Yu9 rfl<|Yu4 rfl rfl<|Yu2 0 rfl (Yu3 rfl) gn rfl ?_
   obtain ⟨hb141,h⟩:=h
   have hr142:=Rw.readF (s:=St w [[g2]]) (hl:=(hlI .u64)) (h1:=(Yya .u64)) h32 hb141
   refine Yu2 1 rfl (Yv7 (s:=St w [[g2]]) Ziy rfl rfl h32 hb141) gn rfl<|Yu2 2 rfl (Yvj (kk:=(x100:Int).toNat * 1) (j:=0) (St w [[g2]]) Zdt rfl hr142 rfl (me 1 rfl)) gn rfl<|Yu2 3 rfl (Yu7 rfl) gn rfl<|Yu2 4 rfl (Yu7 rfl) gn rfl<|Yua 5 rfl<|Yu9 rfl<|Yu4 rfl rfl<|Yu2 0 rfl (Yu3 rfl) gn rfl<|Yu2 1 rfl (Yuy rfl) gn rfl<|Yu2 2 rfl (Yub Ze6 rfl) gn rfl<|Yu2 3 rfl (Yue 2 Zi8 rfl rfl rfl) gn rfl<|Yu2 4 rfl (Yu3 rfl) gn rfl ?_
   obtain ⟨hb143,h⟩:=h
   have hr144:=Rw.readF (s:=Sm w.heap.size F w [[g2]]) (hl:=Yx6) (h1:=Zct) h19 hb143
   refine Yu2 5 rfl (Yv7 (s:=Sm w.heap.size F w [[g2]]) Zjm rfl rfl h19 hb143) gn rfl<|Yu2 6 rfl (Yvo Zkn rfl) gn rfl<|Yu2 7 rfl (Yvj (kk:=(x100:Int).toNat * 5) (j:=2) (Sm w.heap.size F w [[g2]]) Yvt rfl hr144 rfl (me 0 rfl)) gn rfl<|Yu2 8 rfl (Yu7 rfl) gn rfl<|Yua 9 rfl<|Yu9 rfl<|Yu4 rfl rfl<|Yu2 0 rfl (Yu3 rfl) gn rfl<|Yu2 1 rfl (Yug rfl rfl rfl) gn rfl<|Yu2 2 rfl (Yu3 rfl) gn rfl ?_
   by_cases hp145:ix x28 x100=0
   ·have h:=Yul hp145 h
    refine Yvi 40 rfl ((Zgg hp145))<|Yu6 3 rfl (ps 40 rfl rfl rfl)<|Yu6 4 rfl (ps 40 rfl rfl rfl)<|Yu2 5 rfl (Yuk (b:=false) rfl rfl) gn rfl<|Yua 6 rfl<|Yur rfl _ rfl (rfl)<|Yv2 rfl<|Yux<|Yu4 rfl rfl<|Yu2 0 rfl (Yug rfl rfl rfl) gn rfl<|Yu2 1 rfl (Yu3 rfl) gn rfl<|Yua 2 rfl ?_
    refine Yv1 ?_
    have ih:=Out.inl hO1 h
    exact Yvh [0,1] (ih bs94 A95 n96 c97 cs98 h99) ⟨rfl,rfl,rfl,rfl,rfl,trivial⟩ (.cons_cons _ (.cons_cons _ (.cons_cons _ (.slnil)))) rfl
   ·have h:=Yum hp145 h
    refine Yvi 40 rfl ((Zkm hp145))<|Yu2 3 rfl (Yu3 rfl) (gy 40 rfl rfl) rfl<|Yu2 4 rfl (Yug rfl rfl rfl) (gy 40 rfl rfl) rfl<|Yu2 5 rfl (Yuk (b:=true) rfl rfl) gn rfl<|Yua 6 rfl ?_
    by_cases hp146:(ix x1.spots x100).sym≥0
    ·have h:=Yul hp146 h
     refine Yv4 rfl _ rfl ((decide_eq_true hp146))<|Yu4 rfl rfl<|Yu2 0 rfl (Yu3 rfl) gn rfl<|Yu2 1 rfl (Yu3 rfl) gn rfl<|Yu2 2 rfl (Yu3 rfl) gn rfl<|Yu2 3 rfl (Yu3 rfl) gn rfl ?_
     obtain ⟨hb147,h⟩:=h
     refine Zlc (fk:=Zku) (z:=w.heap.size) (j:=0) rfl hb147 fun A148 n149 c150 h151 ht152 hg153=>?_
     refine Yu2 4 rfl (Yyn Zsb rfl rfl h99 hb147) gn rfl<|Yu2 5 rfl (Zbb (.slice A148 n149 c150) 1 ld_73 rfl rfl (hg153 0 _ rfl)) gn rfl<|Yu2 6 rfl (Yu3 rfl) gn rfl<|Yu2 7 rfl (Yug rfl rfl rfl) gn rfl<|Yu2 8 rfl (Yu3 rfl) gn rfl<|Yu2 9 rfl (Zap #[.int .i64 (w64 (x100 + 1)),.int .u64 (ix x28 x100)] bd_78 rfl (by kernel_rfl)) gn rfl ?_
     refine Yve 10 rfl (Zdd (xs:=([(⟨w64 (x100 + 1),ix x28 x100⟩:Yus)]:List Yus)) [.int .i64 (w64 (x100 + 1)),.int .u64 (ix x28 x100)] Zsx rfl (by kernel_rfl) rfl rfl rfl rfl fun gb155 h156=>?_) gn
     obtain ⟨x162,hv163,h⟩:=h
     obtain ⟨hb164,h⟩:=h
     refine w_take (fk:=Zku) (z:=w.heap.size) (j:=1) rfl hb147 ht152 fun bs158=>?_
     refine Yve 11 rfl (Zdj (zs:=x162) (cells':=x162.flatMap Yw9) 0 ap_73 rfl rfl rfl h151 (Nat.le_refl _) (Src.ownF (hl:=Zdy) (h1:=Ze8) 1 rfl h156) (by rw [hv163,List.flatMap_append] <;> rfl) (Yzh hv163 h156.hq) hb164 rfl rfl fun A159 c160 h161=>?_) gn
     refine Zlc (fk:=Zku) (z:=w.heap.size) (j:=2) rfl hb147 fun A165 n166 c167 h168 ht169 hg170=>?_
     refine Yu2 12 rfl (Yyn Zsb rfl rfl h99 hb147) gn rfl ?_
     obtain ⟨x171,hv172,h⟩:=h
     refine Yve 13 rfl (Zpf (fk:=Zku) (z:=w.heap.size) (off:=0) (vs:=[.slice A159 (n149 + 1) c160]) (A1:=A165) (n1:=n166) (c1:=c167) (q:=((ix x1.spots x100).sym)) 3 2 0 rfl rfl rfl sz_73 rfl rfl rfl h99 rfl (.inr rfl) rfl hb147 x162 h161 rfl rfl rfl rfl ht169 rfl trivial rfl hv172 fun cs173 bs174 h175=>?_) gn
     refine Yua 14 rfl<|Yux<|Yu4 rfl rfl<|Yu2 0 rfl (Yug rfl rfl rfl) gn rfl<|Yu2 1 rfl (Yu3 rfl) gn rfl<|Yua 2 rfl<|Yv1 ?_
     have ih:=Out.inl hO1 h
     exact Yvh [0,1] (ih bs174 A95 n96 c97 cs173 h175) ⟨rfl,rfl,rfl,rfl,rfl,trivial⟩ (.cons _ (.cons_cons _ (.cons_cons _ (.cons_cons _ (.slnil))))) rfl
    ·have h:=Yum hp146 h
     refine Yur rfl _ rfl ((decide_eq_false hp146))<|Yv2 rfl<|Yux<|Yu4 rfl rfl<|Yu2 0 rfl (Yug rfl rfl rfl) gn rfl<|Yu2 1 rfl (Yu3 rfl) gn rfl<|Yua 2 rfl<|Yv1 ?_
     have ih:=Out.inl hO1 h
     exact Yvh [0,1] (ih bs94 A95 n96 c97 cs98 h99) ⟨rfl,rfl,rfl,rfl,rfl,trivial⟩ (.cons_cons _ (.cons_cons _ (.cons_cons _ (.slnil)))) rfl
  ·have h:=Yum hp140 h
   refine Yur rfl _ rfl ((decide_eq_false hp140))<|Ywa [.code q42c6] rfl rfl<|Yu9 rfl<|Yu4 rfl rfl<|Yu2 0 rfl (Yu3 rfl) gn rfl<|Yu2 1 rfl (Yu7 rfl) gn rfl<|Yua 2 rfl ?_
   refine Zsf (fk:=Zku) (dk:=(Kd.slice Zdn)) (F:=F) (j:=0) rfl (fun _ _ _ _ _ h=>⟨_,_,_,rfl,h⟩) fun sw176 sb177 hC178=>?_
   have h:=Out.inr hO1 h
   refine Yvb [.slice A95 n96 c97] rfl Tryd.func42 rfl (.tmp rfl (.nil)) fun wr hLr=>?_
   have hMr:=hLr.pkI (.c 1 rfl (.c 0 rfl .n)) .n (by kernel_rfl) (.c 2 rfl .n)
   have hMi:=hLr.selI (.c 1 rfl (.c 0 rfl .n))
   show Zen w F g2 Tb3 r (.returned (Yvl [.slice A95 n96 c97])) wr
   rw [h]
   exact ⟨A95,n96,c97,cs98,A4,n5,c6,A8,n9,c10,A12,n13,c14,A16,n17,c18,A20,n21,c22,A24,n25,c26,rfl,hMr,h99,(hLr.outC (s:=Sm w.heap.size F sw176 sb177) hMi (me 0 rfl) Sm.ok hC178),(hLr.outR (s:=Sm w.heap.size F w [[g2]]) hMi (me 1 rfl) Sm.ok h7),(hLr.outR (s:=Sm w.heap.size F w [[g2]]) hMi (me 1 rfl) Sm.ok h11),(hLr.outR (s:=Sm w.heap.size F w [[g2]]) hMi (me 1 rfl) Sm.ok h15),(hLr.outR (s:=Sm w.heap.size F w [[g2]]) hMi (me 1 rfl) Sm.ok h19),(hLr.outR (s:=Sm w.heap.size F w [[g2]]) hMi (me 1 rfl) Sm.ok h23),(hLr.outR (s:=Sm w.heap.size F w [[g2]]) hMi (me 1 rfl) Sm.ok h27)⟩
 exact Yvh [0,1] (key1 _ h [] A50 ((w64 ((x1.g.terms.length:Int) + (x1.g.syms.length:Int)):Int).toNat) ((w64 ((x1.g.terms.length:Int) + (x1.g.syms.length:Int)):Int).toNat) (x38.flatMap (fun _:List Yus=>[Value.slice none 0 0])) h51) ⟨rfl,rfl,rfl,rfl,rfl,trivial⟩ (.cons_cons _ (.cons_cons _ (.cons_cons _ (.slnil)))) rfl
noncomputable abbrev q21c4:=Code.snd (Code.snd (Yvq Tryd.f21))
noncomputable abbrev q21c6:=Code.snd (Code.fst (Code.snd (Yvq Tryd.f21)))
abbrev Zg4 (w:World) (F:Nat→Prop) (r:List Yud):Ending→World→Prop:=fun e w'=>∃ A0:Option Addr,∃ n0:Nat,∃ c0:Nat,e=.returned (.slice A0 n0 c0)∧B.Loc w w' [.own (.slice A0 n0 c0) 31 3 n0 (r.flatMap Yv0)] [St w []]∧Ow w.heap.size A0 n0 c0 r
noncomputable abbrev Zkt (w:World) (F:Nat→Prop) (r:List Yud):Cx:=⟨Tryd.prog,21,Tryd.f21,42,Zg4 w F  r,w⟩
theorem Zll (w:World) (F:Nat→Prop) (x1:Yu5) (x14:List Yud) (x19:Int) (A2:Option Addr) (n3:Nat) (c4:Nat) (A6:Option Addr) (n7:Nat) (c8:Nat) (A10:Option Addr) (n11:Nat) (c12:Nat) (A15:Option Addr) (n16:Nat) (c17:Nat) (h5:Rw Yuj w (St w []).av A2 n3 c4 x1.terms) (h9:Rw Yuq w (St w []).av A6 n7 c8 x1.syms) (h13:Rw Yun w (St w []).av A10 n11 c12 x1.prods) (h18:Rw Yxu w (St w []).av A15 n16 c17 x14) (hG0:Tt .u8 Zmo 0 (St w [])) (hF:∀ b,F b→b < w.heap.size∧∀ o ∈ ([]:List (List Nat)),b ∉ o) (hL0:B.Loc w w [] [Sm w.heap.size F w [],St w []]) (r:List Yud) (h:Zgf x1 x14 x19 r):Calls Tryd.prog 21 #[.agg #[.slice A2 n3 c4,.slice A6 n7 c8,.slice A10 n11 c12],.slice A15 n16 c17,.int .i64 x19] w (Zg4 w F  r):=by
 unfold Zgf at h
 refine Yv5 (vs:=[.agg #[.slice A2 n3 c4,.slice A6 n7 c8,.slice A10 n11 c12],.slice A15 n16 c17,.int .i64 x19]) 42 Tryd.func21 rfl Tryd.ntmps21 rfl hL0 ?_
 show G (Zkt w F r) _ _ _ _
 refine Yu9 rfl<|Yu4 rfl rfl ?_
 refine Yve 0 rfl (Zas [.slice A2 n3 c4,.slice A6 n7 c8,.slice A10 n11 c12] rfl rfl rfl fun gb20=>?_) gn
 refine Yu2 1 rfl (Yu7 rfl) gn rfl<|Yua 2 rfl<|Yu9 rfl<|Yu9 rfl ?_
 have j1:∀ (x33:Bool) (h:Za7 x1 x14 x19 x33 r) ,G (Zkt w F r) [.code q21c6,.code q21c4] [(1,.slice A15 n16 c17),(2,.int .i64 x19),(3,.pointer (some ⟨gb20,0,none⟩)),(25,.bool x33)] [.box gb20 26 [.slice A2 n3 c4,.slice A6 n7 c8,.slice A10 n11 c12]] [Sm w.heap.size F w [],St w []]:=by
  intro x33 h
  unfold Za7 at h
  by_cases hp34:x33=true
  ·have h:=Yul hp34 h
   refine Yv4 rfl _ rfl (hp34)<|Yu9 rfl<|Yu4 rfl rfl<|Yu2 0 rfl (Yu7 rfl) gn rfl<|Yua 1 rfl<|Zf4 31 3 ?_
   refine Yvb [.slice none 0 0] rfl Tryd.func21 rfl (.tmp rfl (.nil)) fun wr hLr=>?_
   have hMr:=hLr.pkI (.c 0 rfl .n) (.c 1 rfl .n) (by kernel_rfl) (.c 1 rfl .n)
   show Zg4 w F  r (.returned (Yvl [.slice none 0 0])) wr
   rw [h]
   exact ⟨none,0,0,rfl,hMr,(Ow.nil (z:=w.heap.size))⟩
  ·have h:=Yum hp34 h
   refine Yur rfl _ rfl ((bf hp34))<|Yv2 rfl<|Yu9 rfl<|Yu4 rfl rfl<|Yu2 0 rfl (Yyr [.slice A2 n3 c4,.slice A6 n7 c8,.slice A10 n11 c12] 0 Yys rfl rfl rfl rfl) gn rfl ?_
   obtain ⟨r38,hv39,h⟩:=h
   refine Yve 1 rfl (Yvz [.agg #[.slice A2 n3 c4,.slice A6 n7 c8,.slice A10 n11 c12]] rfl Tryd.func37 rfl rfl rfl fun w35 hL36=>?_) gn
   have hp37:=pmI hL36 .n (.c 0 rfl .n) (by kernel_rfl)
   refine Calls.mono (Zg1 w35 (Fl ([St w []]:List Yva)) x1 A2 n3 c4 A6 n7 c8 A10 n11 c12 (Rw.mono h5 (hL36.toFl (me 1 rfl) (me 0 rfl))) (Rw.mono h9 (hL36.toFl (me 1 rfl) (me 0 rfl))) (Rw.mono h13 (hL36.toFl (me 1 rfl) (me 0 rfl))) (hL36.hFl hp37 (Yvm [1] rfl)) (hL36.into hp37 _) r38 hv39) ?_
   rintro _ w69 ⟨gb74,A52,n53,c54,A57,n58,c59,A62,n63,c64,cs67,A40,n41,c42,A44,n45,c46,A48,n49,c50,rfl,hM70,h55,h60,h65,hC68,h43,h47,h51⟩
   obtain ⟨sv73,hL71,hv72⟩:=hL36.callN (Sl:=([St w []]:List Yva)) hp37 hM70 (Yvm [1] rfl)
   have h43:At Yuj (sv73) A40 n41 c42 r38.g.terms:=Rw.mono h43 hv72
   have h47:At Yuq (sv73) A44 n45 c46 r38.g.syms:=Rw.mono h47 hv72
   have h51:At Yun (sv73) A48 n49 c50 r38.g.prods:=Rw.mono h51 hv72
   have hC68:Cells (Kd.slice (Yw6 .i64)) (sv73).w (sv73).av r38.of cs67:=Cells.mono hv72 hC68
   refine ⟨_,_,_,rfl,hL71,?_⟩
   refine Yu2 2 rfl (Yu7 rfl) gn rfl<|Yua 3 rfl<|Yu9 rfl<|Yu4 rfl rfl<|Yu2 0 rfl (Yu3 rfl) gn rfl<|Yu2 1 rfl (Yu3 rfl) gn rfl<|Yu2 2 rfl (Yu3 rfl) gn rfl<|Yu2 3 rfl (Yu3 rfl) gn rfl<|Yu2 4 rfl (Yu3 rfl) gn rfl<|Yu2 5 rfl (Yu3 rfl) gn rfl ?_
   obtain ⟨r87,hv88,h⟩:=h
   refine Ze5 (F:=F) (dk:=Yx2) (Sm w.heap.size F w []) 1 rfl (Ow.weak hL36.env.size h55) (me 1 rfl) Sm.ok (Cells.flat _) fun sw80 sb81 h79=>?_
   refine Ze5 (F:=F) (dk:=(Yw6 .i64)) (Sm w.heap.size F w []) 1 rfl (Ow.weak hL36.env.size h60) (me 2 rfl) Sm.ok (Cells.flat _) fun sw83 sb84 h82=>?_
   refine Zp8 (dk:=(Kd.slice (Yw6 .i64))) (sv73) 1 rfl (Ow.weak hL36.env.size h65) (me 2 rfl) hC68 fun sv86 h85=>?_
   refine Yve 6 rfl (Yvz [.pointer (some ⟨gb74,0,none⟩),.slice A15 n16 c17] rfl Tryd.func40 rfl rfl rfl fun w76 hL77=>?_) gn
   have hp78:=pmI hL77 (.c 0 rfl .n) (.c 1 rfl .n) (by kernel_rfl)
   refine Calls.mono (Zex w76 (Fl ([sv73,Sm w.heap.size F sw80 sb81,Sm w.heap.size F sw83 sb84,sv86]:List Yva)) r38 x14 gb74 102 A40 n41 c42 A44 n45 c46 A48 n49 c50 A52 n53 c54 A57 n58 c59 A62 n63 c64 A15 n16 c17 (Rw.mono h43 (hL77.toFl (me 3 rfl) (me 0 rfl))) (Rw.mono h47 (hL77.toFl (me 3 rfl) (me 0 rfl))) (Rw.mono h51 (hL77.toFl (me 3 rfl) (me 0 rfl))) (Rw.mono h79 (hL77.toFl (me 2 rfl) (me 1 rfl))) (Rw.mono h82 (hL77.toFl (me 1 rfl) (me 2 rfl))) (Rw.mono h85 (hL77.toFl (me 0 rfl) (me 3 rfl))) (Rw.mono h18 (hL77.toSt hp78 (me 5 rfl))) (hL77.hFl hp78 (Yvm [3,2,1,0] rfl)) (hL77.into hp78 _) r87 hv88) ?_
   rintro _ w118 ⟨A89,n90,c91,A94,n95,c96,A98,n99,c100,A102,n103,c104,A106,n107,c108,A110,n111,c112,A114,n115,c116,rfl,hM119,h92,h97,h101,h105,h109,h113,h117⟩
   obtain ⟨sv122,hL120,hv121⟩:=hL77.callN (Sl:=([sv73,Sm w.heap.size F sw80 sb81,Sm w.heap.size F sw83 sb84,sv86]:List Yva)) hp78 hM119 (Yvm [3,2,1,0] rfl)
   have h97:At Yuj (sv122) A94 n95 c96 r87.2.g.terms:=Rw.mono h97 hv121
   have h101:At Yuq (sv122) A98 n99 c100 r87.2.g.syms:=Rw.mono h101 hv121
   have h105:At Yun (sv122) A102 n103 c104 r87.2.g.prods:=Rw.mono h105 hv121
   have h109:At Yx2 (sv122) A106 n107 c108 r87.2.spots:=Rw.mono h109 hv121
   have h113:At (Yw6 .i64) (sv122) A110 n111 c112 r87.2.at_:=Rw.mono h113 hv121
   have h117:At (Kd.slice (Yw6 .i64)) (sv122) A114 n115 c116 r87.2.of:=Rw.mono h117 hv121
   refine ⟨_,_,_,rfl,hL120,?_⟩
   obtain ⟨r126,hv127,h⟩:=h
   refine Yve 7 rfl (Yvz [.pointer (some ⟨gb74,0,none⟩),.slice A89 n90 c91] rfl Tryd.func39 rfl rfl rfl fun w123 hL124=>?_) gn
   have hp125:=pmI hL124 (.c 0 rfl .n) (.c 1 rfl (.c 2 rfl .n)) (by kernel_rfl)
   refine Calls.mono (Zbz w123 (Fl ([sv122]:List Yva)) r87.2 r87.1 gb74 102 A94 n95 c96 A98 n99 c100 A102 n103 c104 A106 n107 c108 A110 n111 c112 A114 n115 c116 A89 n90 c91 (Rw.mono h97 (hL124.toFl (me 0 rfl) (me 0 rfl))) (Rw.mono h101 (hL124.toFl (me 0 rfl) (me 0 rfl))) (Rw.mono h105 (hL124.toFl (me 0 rfl) (me 0 rfl))) (Rw.mono h109 (hL124.toFl (me 0 rfl) (me 0 rfl))) (Rw.mono h113 (hL124.toFl (me 0 rfl) (me 0 rfl))) (Rw.mono h117 (hL124.toFl (me 0 rfl) (me 0 rfl))) (hL124.argO (dk:=Zdn) hp125 [0] rfl 1 rfl rfl (Ow.weak hL77.env.size h92) (me 5 rfl) (Cells.flat _)) (hL124.hFl hp125 (Yvm [0] rfl)) (hL124.into hp125 _) r126 hv127) ?_
   rintro _ w157 ⟨A128,n129,c130,A133,n134,c135,A137,n138,c139,A141,n142,c143,A145,n146,c147,A149,n150,c151,A153,n154,c155,rfl,hM158,h131,h136,h140,h144,h148,h152,h156⟩
   obtain ⟨sv161,hL159,hv160⟩:=hL124.callN (Sl:=([sv122]:List Yva)) hp125 hM158 (Yvm [0] rfl)
   have h136:At Yuj (sv161) A133 n134 c135 r126.2.g.terms:=Rw.mono h136 hv160
   have h140:At Yuq (sv161) A137 n138 c139 r126.2.g.syms:=Rw.mono h140 hv160
   have h144:At Yun (sv161) A141 n142 c143 r126.2.g.prods:=Rw.mono h144 hv160
   have h148:At Yx2 (sv161) A145 n146 c147 r126.2.spots:=Rw.mono h148 hv160
   have h152:At (Yw6 .i64) (sv161) A149 n150 c151 r126.2.at_:=Rw.mono h152 hv160
   have h156:At (Kd.slice (Yw6 .i64)) (sv161) A153 n154 c155 r126.2.of:=Rw.mono h156 hv160
   refine ⟨_,_,_,rfl,hL159,?_⟩
   obtain ⟨r165,hv166,h⟩:=h
   refine Yve 8 rfl (Yvz [.pointer (some ⟨gb74,0,none⟩),.slice A128 n129 c130] rfl Tryd.func42 rfl rfl rfl fun w162 hL163=>?_) gn
   have hp164:=pmI hL163 (.c 0 rfl .n) (.c 1 rfl (.c 2 rfl (.c 3 rfl .n))) (by kernel_rfl)
   refine Calls.mono (Zie w162 (Fl ([sv161]:List Yva)) r126.2 r126.1 gb74 102 A133 n134 c135 A137 n138 c139 A141 n142 c143 A145 n146 c147 A149 n150 c151 A153 n154 c155 A128 n129 c130 (Rw.mono h136 (hL163.toFl (me 0 rfl) (me 0 rfl))) (Rw.mono h140 (hL163.toFl (me 0 rfl) (me 0 rfl))) (Rw.mono h144 (hL163.toFl (me 0 rfl) (me 0 rfl))) (Rw.mono h148 (hL163.toFl (me 0 rfl) (me 0 rfl))) (Rw.mono h152 (hL163.toFl (me 0 rfl) (me 0 rfl))) (Rw.mono h156 (hL163.toFl (me 0 rfl) (me 0 rfl))) (hL163.argO (dk:=(Yw6 .u64)) hp164 [0] rfl 1 rfl rfl (Ow.weak hL124.env.size h131) (me 6 rfl) (Cells.flat _)) (hL163.hFl hp164 (Yvm [0] rfl)) (hL163.into hp164 _) r165 hv166) ?_
   rintro _ w198 ⟨A167,n168,c169,cs172,A174,n175,c176,A178,n179,c180,A182,n183,c184,A186,n187,c188,A190,n191,c192,A194,n195,c196,rfl,hM199,h170,hC173,h177,h181,h185,h189,h193,h197⟩
   obtain ⟨sv202,hL200,hv201⟩:=hL163.callN (Sl:=([sv161]:List Yva)) hp164 hM199 (Yvm [0] rfl)
   have hC173:Cells (Kd.slice Zdn) (sv202).w (sv202).av r165.1 cs172:=Cells.mono hv201 hC173
   have h177:At Yuj (sv202) A174 n175 c176 r165.2.g.terms:=Rw.mono h177 hv201
   have h181:At Yuq (sv202) A178 n179 c180 r165.2.g.syms:=Rw.mono h181 hv201
   have h185:At Yun (sv202) A182 n183 c184 r165.2.g.prods:=Rw.mono h185 hv201
   have h189:At Yx2 (sv202) A186 n187 c188 r165.2.spots:=Rw.mono h189 hv201
   have h193:At (Yw6 .i64) (sv202) A190 n191 c192 r165.2.at_:=Rw.mono h193 hv201
   have h197:At (Kd.slice (Yw6 .i64)) (sv202) A194 n195 c196 r165.2.of:=Rw.mono h197 hv201
   refine ⟨_,_,_,rfl,hL200,?_⟩
   refine Yu2 9 rfl (Yu3 rfl) gn rfl ?_
   obtain ⟨hb203,h⟩:=h
   obtain ⟨ce204,hK205,ht206,hg207⟩:=Cells.get hC173 hb203
   obtain ⟨A208,n209,c210,rfl,h211⟩:=hK205
   refine Yu2 10 rfl (Yyn Zsb rfl rfl (Ow.weak hL163.env.size h170) hb203) gn rfl<|Yu2 11 rfl (Zbb (.slice A208 n209 c210) 1 ld_73 rfl rfl (hg207 0 _ rfl)) gn rfl ?_
   obtain ⟨r215,hv216,h⟩:=h
   refine Yve 12 rfl (Yvz [.pointer (some ⟨gb74,0,none⟩),.slice A208 n209 c210] rfl Tryd.func39 rfl rfl rfl fun w212 hL213=>?_) gn
   have hp214:=pmI hL213 (.c 0 rfl .n) (.c 1 rfl (.c 2 rfl (.c 3 rfl (.c 4 rfl .n)))) (by kernel_rfl)
   refine Calls.mono (Zbz w212 (Fl ([sv202]:List Yva)) r165.2 (ix r165.1 x19) gb74 102 A174 n175 c176 A178 n179 c180 A182 n183 c184 A186 n187 c188 A190 n191 c192 A194 n195 c196 A208 n209 c210 (Rw.mono h177 (hL213.toFl (me 0 rfl) (me 0 rfl))) (Rw.mono h181 (hL213.toFl (me 0 rfl) (me 0 rfl))) (Rw.mono h185 (hL213.toFl (me 0 rfl) (me 0 rfl))) (Rw.mono h189 (hL213.toFl (me 0 rfl) (me 0 rfl))) (Rw.mono h193 (hL213.toFl (me 0 rfl) (me 0 rfl))) (Rw.mono h197 (hL213.toFl (me 0 rfl) (me 0 rfl))) (Rw.mono h211 (hL213.toSt hp214 (me 0 rfl))) (hL213.hFl hp214 (Yvm [0] rfl)) (hL213.into hp214 _) r215 hv216) ?_
   rintro _ w246 ⟨A217,n218,c219,A222,n223,c224,A226,n227,c228,A230,n231,c232,A234,n235,c236,A238,n239,c240,A242,n243,c244,rfl,hM247,h220,h225,h229,h233,h237,h241,h245⟩
   obtain ⟨sv250,hL248,hv249⟩:=hL213.callN (Sl:=([sv202]:List Yva)) hp214 hM247 (Yvm [0] rfl)
   have h225:At Yuj (sv250) A222 n223 c224 r215.2.g.terms:=Rw.mono h225 hv249
   have h229:At Yuq (sv250) A226 n227 c228 r215.2.g.syms:=Rw.mono h229 hv249
   have h233:At Yun (sv250) A230 n231 c232 r215.2.g.prods:=Rw.mono h233 hv249
   have h237:At Yx2 (sv250) A234 n235 c236 r215.2.spots:=Rw.mono h237 hv249
   have h241:At (Yw6 .i64) (sv250) A238 n239 c240 r215.2.at_:=Rw.mono h241 hv249
   have h245:At (Kd.slice (Yw6 .i64)) (sv250) A242 n243 c244 r215.2.of:=Rw.mono h245 hv249
   refine ⟨_,_,_,rfl,hL248,?_⟩
   obtain ⟨r254,hv255,h⟩:=h
   refine Yve 13 rfl (Yvz [.pointer (some ⟨gb74,0,none⟩),.slice A217 n218 c219] rfl Tryd.func38 rfl rfl rfl fun w251 hL252=>?_) gn
   have hp253:=pmI hL252 (.c 0 rfl .n) (.c 1 rfl (.c 2 rfl (.c 3 rfl (.c 4 rfl (.c 5 rfl .n))))) (by kernel_rfl)
   refine Calls.mono (Zfa w251 (Fl ([sv250]:List Yva)) r215.2 r215.1 gb74 102 A222 n223 c224 A226 n227 c228 A230 n231 c232 A234 n235 c236 A238 n239 c240 A242 n243 c244 A217 n218 c219 (Rw.mono h225 (hL252.toFl (me 0 rfl) (me 0 rfl))) (Rw.mono h229 (hL252.toFl (me 0 rfl) (me 0 rfl))) (Rw.mono h233 (hL252.toFl (me 0 rfl) (me 0 rfl))) (Rw.mono h237 (hL252.toFl (me 0 rfl) (me 0 rfl))) (Rw.mono h241 (hL252.toFl (me 0 rfl) (me 0 rfl))) (Rw.mono h245 (hL252.toFl (me 0 rfl) (me 0 rfl))) (hL252.argO (dk:=(Yw6 .u64)) hp253 [0] rfl 1 rfl rfl (Ow.weak hL213.env.size h220) (me 8 rfl) (Cells.flat _)) (hL252.tt hp253 hG0 (me 9 rfl)) (hL252.hFl hp253 (Yvm [0] rfl)) (hL252.into hp253 _) r254 hv255) ?_
   rintro _ w285 ⟨A256,n257,c258,A261,n262,c263,A265,n266,c267,A269,n270,c271,A273,n274,c275,A277,n278,c279,A281,n282,c283,rfl,hM286,h259,h264,h268,h272,h276,h280,h284⟩
   obtain ⟨sv289,hL287,hv288⟩:=hL252.callN (Sl:=([sv250]:List Yva)) hp253 hM286 (Yvm [0] rfl)
   have h264:At Yuj (sv289) A261 n262 c263 r254.2.g.terms:=Rw.mono h264 hv288
   have h268:At Yuq (sv289) A265 n266 c267 r254.2.g.syms:=Rw.mono h268 hv288
   have h272:At Yun (sv289) A269 n270 c271 r254.2.g.prods:=Rw.mono h272 hv288
   have h276:At Yx2 (sv289) A273 n274 c275 r254.2.spots:=Rw.mono h276 hv288
   have h280:At (Yw6 .i64) (sv289) A277 n278 c279 r254.2.at_:=Rw.mono h280 hv288
   have h284:At (Kd.slice (Yw6 .i64)) (sv289) A281 n282 c283 r254.2.of:=Rw.mono h284 hv288
   refine ⟨_,_,_,rfl,hL287,?_⟩
   refine Yu2 14 rfl (Yu7 rfl) gn rfl<|Yua 15 rfl ?_
   refine Yvb [.slice A256 n257 c258] rfl Tryd.func21 rfl (.tmp rfl (.nil)) fun wr hLr=>?_
   have hMr:=hLr.pkI (.c 1 rfl .n) (.c 0 rfl (.c 2 rfl (.c 3 rfl (.c 4 rfl (.c 5 rfl (.c 6 rfl .n)))))) (by kernel_rfl) (.c 10 rfl .n)
   show Zg4 w F  r (.returned (Yvl [.slice A256 n257 c258])) wr
   rw [h]
   exact ⟨A256,n257,c258,rfl,hMr,(Ow.weak hL252.env.size h259)⟩
 refine Yu4 rfl rfl<|Yu2 0 rfl (Yyr [.slice A2 n3 c4,.slice A6 n7 c8,.slice A10 n11 c12] 0 Yys rfl rfl rfl rfl) gn rfl ?_
 obtain ⟨r293,hv294,h⟩:=h
 refine Yve 1 rfl (Yvz [.agg #[.slice A2 n3 c4,.slice A6 n7 c8,.slice A10 n11 c12]] rfl Tryd.func36 rfl rfl rfl fun w290 hL291=>?_) gn
 have hp292:=pmI hL291 .n (.c 0 rfl .n) (by kernel_rfl)
 refine Calls.mono (Zh3 w290 (Fl ([]:List Yva)) x1 A2 n3 c4 A6 n7 c8 A10 n11 c12 (Rw.mono h5 (hL291.toSt hp292 (me 1 rfl))) (Rw.mono h9 (hL291.toSt hp292 (me 1 rfl))) (Rw.mono h13 (hL291.toSt hp292 (me 1 rfl))) (hL291.hFl hp292 (Yvm [] rfl)) (hL291.into hp292 _) r293 hv294) ?_
 rintro _ w295 ⟨rfl,hM296⟩
 have hL297:=hL291.call hp292 hM296
 refine ⟨_,_,_,rfl,hL297,?_⟩
 refine Yu2 2 rfl (Zf9 rfl) gn rfl<|Yu2 3 rfl (Yu3 rfl) gn rfl ?_
 by_cases hp298:r293=true
 ·have h:=Yul hp298 h
  refine Yvi 11 rfl ((nf hp298))<|Yu2 4 rfl (Yu3 rfl) (gy 11 rfl rfl) rfl<|Yu2 5 rfl (Yug rfl rfl rfl) (gy 11 rfl rfl) rfl<|Yu2 6 rfl (Yuk (b:=false) rfl rfl) gn rfl<|Yu2 7 rfl (Yu3 rfl) gn rfl ?_
  by_cases hp299:x19 < 0
  ·have h:=Yul hp299 h
   refine Yvi 15 rfl ((decide_eq_true hp299))<|Yu6 8 rfl (ps 15 rfl rfl rfl)<|Yu6 9 rfl (ps 15 rfl rfl rfl)<|Yu6 10 rfl (ps 15 rfl rfl rfl)<|Yu6 11 rfl (ps 15 rfl rfl rfl)<|Yu6 12 rfl (ps 15 rfl rfl rfl)<|Yu6 13 rfl (ps 15 rfl rfl rfl)<|Yu6 14 rfl (ps 15 rfl rfl rfl)<|Yu6 15 rfl (ps 15 rfl rfl rfl)<|Yu6 16 rfl (ps 15 rfl rfl rfl)<|Yu2 17 rfl (Yuk (b:=true) rfl rfl) gn rfl<|Yua 18 rfl ?_
   exact Yvh [0,1] (j1 true h) ⟨rfl,rfl,rfl,rfl,trivial⟩ (.cons_cons _ (.slnil)) rfl
  ·have h:=Yum hp299 h
   refine Yvi 15 rfl ((decide_eq_false hp299))<|Yu2 8 rfl (Yu3 rfl) (gy 15 rfl rfl) rfl<|Yu2 9 rfl (Yub Yw7 rfl) (gy 15 rfl rfl) rfl<|Yu2 10 rfl (Yue 0 Yz4 rfl rfl rfl) (gy 15 rfl rfl) rfl<|Yu2 11 rfl (Yuo Yze rfl h5.hq) (gy 15 rfl rfl) rfl<|Yu2 12 rfl (Yub Yxd rfl) (gy 15 rfl rfl) rfl<|Yu2 13 rfl (Yue 0 Zak rfl rfl rfl) (gy 15 rfl rfl) rfl<|Yu2 14 rfl (Yuo Zbm rfl h9.hq) (gy 15 rfl rfl) rfl<|Yu2 15 rfl (Yug rfl rfl rfl) (gy 15 rfl rfl) rfl<|Yu2 16 rfl (Yug rfl rfl rfl) (gy 15 rfl rfl) rfl<|Yu2 17 rfl (Yuk (b:=false) rfl rfl) gn rfl<|Yua 18 rfl ?_
   exact Yvh [0,1] (j1 (decide (x19≥w64 ((x1.terms.length:Int) + (x1.syms.length:Int)))) h) ⟨rfl,rfl,rfl,rfl,trivial⟩ (.cons_cons _ (.slnil)) rfl
 ·have h:=Yum hp298 h
  refine Yvi 11 rfl ((nt (bf hp298)))<|Yu6 4 rfl (ps 11 rfl rfl rfl)<|Yu6 5 rfl (ps 11 rfl rfl rfl)<|Yu2 6 rfl (Yuk (b:=true) rfl rfl) gn rfl<|Yu2 7 rfl (Yu3 rfl) gn rfl<|Yu6 8 rfl (ps 15 rfl rfl rfl)<|Yu6 9 rfl (ps 15 rfl rfl rfl)<|Yu6 10 rfl (ps 15 rfl rfl rfl)<|Yu6 11 rfl (ps 15 rfl rfl rfl)<|Yu6 12 rfl (ps 15 rfl rfl rfl)<|Yu6 13 rfl (ps 15 rfl rfl rfl)<|Yu6 14 rfl (ps 15 rfl rfl rfl) ?_
  refine Yu6 15 rfl (ps 15 rfl rfl rfl)<|Yu6 16 rfl (ps 15 rfl rfl rfl)<|Yu2 17 rfl (Yuk (b:=true) rfl rfl) gn rfl<|Yua 18 rfl ?_
  exact Yvh [0,1] (j1 true h) ⟨rfl,rfl,rfl,rfl,trivial⟩ (.cons_cons _ (.slnil)) rfl
noncomputable abbrev Zpe:=Code.snd (Code.snd (Code.snd (Yvq Tryd.f17)))
noncomputable abbrev Zka:=Code.fst (Code.fst (Code.snd (Code.fst (Code.snd (Code.snd (Yvq Tryd.f17))))))
noncomputable abbrev q17c24:=Code.fst (Code.fst (Code.fst (Code.snd Zka)))
abbrev Zan (w:World) (F:Nat→Prop) (r:Bool):Ending→World→Prop:=fun e w'=>e=.returned (.bool r)∧B.Loc w w' [] [St w []]
noncomputable abbrev Zbt (w:World) (F:Nat→Prop) (r:Bool):Cx:=⟨Tryd.prog,17,Tryd.f17,26,Zan w F  r,w⟩
theorem Zc1 (w:World) (F:Nat→Prop) (x1:List Yud) (x6:List Yud) (A2:Option Addr) (n3:Nat) (c4:Nat) (A7:Option Addr) (n8:Nat) (c9:Nat) (h5:Rw Yxu w (St w []).av A2 n3 c4 x1) (h10:Rw Yxu w (St w []).av A7 n8 c9 x6) (hF:∀ b,F b→b < w.heap.size∧∀ o ∈ ([]:List (List Nat)),b ∉ o) (hL0:B.Loc w w [] [Sm w.heap.size F w [],St w []]) (r:Bool) (h:Yzd x1 x6 r):Calls Tryd.prog 17 #[.slice A2 n3 c4,.slice A7 n8 c9] w (Zan w F  r):=by
 unfold Yzd at h
 refine Yv5 (vs:=[.slice A2 n3 c4,.slice A7 n8 c9]) 26 Tryd.func17 rfl Tryd.ntmps17 rfl hL0 ?_
 show G (Zbt w F r) _ _ _ _
 refine Yu9 rfl<|Yu4 rfl rfl<|Yu2 0 rfl (Yu7 rfl) gn rfl<|Yua 1 rfl<|Yu9 rfl<|Yu9 rfl<|Yu4 rfl rfl<|Yu2 0 rfl (Yu3 rfl) gn rfl<|Yu2 1 rfl (Yuo Zl5 rfl h5.hq) gn rfl<|Yu2 2 rfl (Yu3 rfl) gn rfl<|Yu2 3 rfl (Yuo Zl5 rfl h10.hq) gn rfl<|Yu2 4 rfl (Yug rfl rfl rfl) gn rfl ?_
 refine Yua 5 rfl ?_
 by_cases hp11:(x1.length:Int)=(x6.length:Int)
 ·have h:=Yul hp11 h
  refine Yur rfl _ rfl ((Zgg hp11))<|Yv2 rfl<|Yu9 rfl<|Yu9 rfl<|Yu4 rfl rfl<|Yu2 0 rfl (Yu7 rfl) gn rfl<|Yua 1 rfl<|Yuw rfl<|Ywm rfl ?_
  have key1:∀ s,Yui (fun (s:Int) o=>Zad x1 x6 s o) s r→(fun (s:Int)=>∀ (_:Unit),G (Zbt w F r) [.code Zka,.inLoop Zka,.inBlock 0,.code Zpe] [(0,.slice A2 n3 c4),(1,.slice A7 n8 c9),(5,.int .i64 s)] [] [Sm w.heap.size F w [],St w []]) s:=by
   intro s hs
   refine Yui.ind (mot:=(fun (s:Int)=>∀ (_:Unit),G (Zbt w F r) [.code Zka,.inLoop Zka,.inBlock 0,.code Zpe] [(0,.slice A2 n3 c4),(1,.slice A7 n8 c9),(5,.int .i64 s)] [] [Sm w.heap.size F w [],St w []])) ?_ hs
   clear hs s
   intro x23 o1 h hO1
   show ∀ (_:Unit),G (Zbt w F r) [.code Zka,.inLoop Zka,.inBlock 0,.code Zpe] [(0,.slice A2 n3 c4),(1,.slice A7 n8 c9),(5,.int .i64 x23)] [] [Sm w.heap.size F w [],St w []]
   intro _
   have h:Zad x1 x6 x23 o1:=h
   unfold Zad at h
   refine Yu9 rfl<|Yu9 rfl<|Yu4 rfl rfl<|Yu2 0 rfl (Yu3 rfl) gn rfl<|Yu2 1 rfl (Yu3 rfl) gn rfl<|Yu2 2 rfl (Yuo Zl5 rfl h5.hq) gn rfl<|Yu2 3 rfl (Yug rfl rfl rfl) gn rfl<|Yua 4 rfl ?_
   by_cases hp34:x23 < (x1.length:Int)
   ·have h:=Yul hp34 h
    refine Yv4 rfl _ rfl ((decide_eq_true hp34))<|Yv2 rfl<|Yu9 rfl<|Yuw rfl<|Yu9 rfl ?_
    obtain ⟨hb35,h⟩:=h
    obtain ⟨hb37,h⟩:=h
    have hns:Region.noSelect (Code.ops q17c24)=true:=by kernel_rfl
    refine Yvr [] 9 rfl rfl mix rfl (.c 0 rfl (.c 1 rfl .n))<|wfv 0 rfl (Yu3 rfl) gn hns rfl<|wfv 1 rfl (Yu3 rfl) gn hns rfl ?_
    have hr41:=Rw.readF (s:=St w []) (hl:=Yyz) (h1:=Yyy) h5 hb35
    refine wfv 2 rfl (Yv7 (s:=St w []) Zgd rfl rfl h5 hb35) gn hns rfl<|wfv 3 rfl (Zdb (St w []) ld_31 rfl hr41 rfl (me 1 rfl)) gn hns rfl<|wfv 4 rfl (Yu3 rfl) gn hns rfl<|wfv 5 rfl (Yu3 rfl) gn hns rfl ?_
    have hr42:=Rw.readF (s:=St w []) (hl:=Yyz) (h1:=Yyy) h10 hb37
    refine wfv 6 rfl (Yv7 (s:=St w []) Zgd rfl rfl h10 hb37) gn hns rfl<|wfv 7 rfl (Zdb (St w []) ld_31 rfl hr42 rfl (me 1 rfl)) gn hns rfl<|wfv 8 rfl (Zqc eq_31 rfl rfl (Zq3 (ix x1 x23) (ix x6 x23))) gn hns rfl<|Yvx (by kernel_rfl) ?_
    by_cases hp43:ix x1 x23=ix x6 x23
    ·have h:=Yul hp43 h
     refine Yur rfl _ rfl ((nf (decide_eq_true hp43)))<|Yv2 rfl<|Yux<|Yu4 rfl rfl<|Yu2 0 rfl (Yu3 rfl) gn rfl<|Yu2 1 rfl (Yug rfl rfl rfl) gn rfl<|Yu2 2 rfl (Yu7 rfl) gn rfl<|Yua 3 rfl<|Yv1 ?_
     have ih:=Out.inl hO1 h
     exact Yvh [0,1] (ih ()) ⟨rfl,rfl,rfl,trivial⟩ (.slnil) rfl
    ·have h:=Yum hp43 h
     refine Yv4 rfl _ rfl ((nt (decide_eq_false hp43)))<|Yu9 rfl<|Yu4 rfl rfl<|Yu2 0 rfl (Yu7 rfl) gn rfl<|Yua 1 rfl ?_
     have h:=Out.inr hO1 h
     refine Yvb [.bool false] rfl Tryd.func17 rfl (.tmp rfl (.nil)) fun wr hLr=>?_
     have hMr:=hLr.pk0 (.c 1 rfl .n)
     show Zan w F  r (.returned (Yvl [.bool false])) wr
     rw [h]
     exact ⟨rfl,hMr⟩
   ·have h:=Yum hp34 h
    refine Yur rfl _ rfl ((decide_eq_false hp34))<|Ywa [.code Zpe] rfl rfl<|Yu9 rfl<|Yu4 rfl rfl<|Yu2 0 rfl (Yu7 rfl) gn rfl<|Yua 1 rfl ?_
    have h:=Out.inr hO1 h
    refine Yvb [.bool true] rfl Tryd.func17 rfl (.tmp rfl (.nil)) fun wr hLr=>?_
    have hMr:=hLr.pk0 (.c 1 rfl .n)
    show Zan w F  r (.returned (Yvl [.bool true])) wr
    rw [h]
    exact ⟨rfl,hMr⟩
  exact Yvh [0,1] (key1 _ h ()) ⟨rfl,rfl,rfl,trivial⟩ (.slnil) rfl
 ·have h:=Yum hp11 h
  refine Yv4 rfl _ rfl ((Zkm hp11))<|Yu9 rfl<|Yu4 rfl rfl<|Yu2 0 rfl (Yu7 rfl) gn rfl<|Yua 1 rfl ?_
  refine Yvb [.bool false] rfl Tryd.func17 rfl (.tmp rfl (.nil)) fun wr hLr=>?_
  have hMr:=hLr.pk0 (.c 1 rfl .n)
  show Zan w F  r (.returned (Yvl [.bool false])) wr
  rw [h]
  exact ⟨rfl,hMr⟩
noncomputable abbrev q32c4:=Code.snd (Code.snd (Yvq Tryd.f32))
noncomputable abbrev q32c6:=Code.snd (Code.fst (Code.snd (Yvq Tryd.f32)))
noncomputable abbrev Zly:=Code.snd q32c4
noncomputable abbrev Zk9:=Code.fst (Code.fst (Code.snd (Code.fst q32c4)))
noncomputable abbrev q32c26:=Code.fst (Code.fst (Code.fst (Code.snd Zk9)))
noncomputable abbrev Zmc:=Code.snd Zly
noncomputable abbrev Zjy:=Code.fst (Code.fst (Code.snd (Code.fst Zly)))
noncomputable abbrev q32c47:=Code.fst (Code.fst (Code.fst (Code.snd Zjy)))
noncomputable abbrev Zif:=Code.snd Zmc
noncomputable abbrev Zei:=Code.fst (Code.fst (Code.snd (Code.fst Zmc)))
noncomputable abbrev Zn1:=Code.snd (Code.snd Zei)
noncomputable abbrev q32c69:=Code.snd (Code.fst (Code.fst (Code.snd Zei)))
noncomputable abbrev q32c70:=Code.fst (Code.fst (Code.fst (Code.fst (Code.snd Zei))))
noncomputable abbrev q32c71:=Code.snd (Code.fst (Code.fst (Code.fst (Code.snd Zei))))
noncomputable abbrev Zkj:=Code.fst (Code.fst (Code.snd q32c69))
noncomputable abbrev q32c89:=Code.fst (Code.fst (Code.fst (Code.snd Zkj)))
abbrev Yy0 (w:World) (F:Nat→Prop) (r:Bool):Ending→World→Prop:=fun e w'=>e=.returned (.bool r)∧B.Loc w w' [] [St w []]
noncomputable abbrev Yvs (w:World) (F:Nat→Prop) (r:Bool):Cx:=⟨Tryd.prog,32,Tryd.f32,137,Yy0 w F  r,w⟩
theorem Zh5 (w:World) (F:Nat→Prop) (x1:Yu5) (x14:Yu5) (A2:Option Addr) (n3:Nat) (c4:Nat) (A6:Option Addr) (n7:Nat) (c8:Nat) (A10:Option Addr) (n11:Nat) (c12:Nat) (A15:Option Addr) (n16:Nat) (c17:Nat) (A19:Option Addr) (n20:Nat) (c21:Nat) (A23:Option Addr) (n24:Nat) (c25:Nat) (h5:Rw Yuj w (St w []).av A2 n3 c4 x1.terms) (h9:Rw Yuq w (St w []).av A6 n7 c8 x1.syms) (h13:Rw Yun w (St w []).av A10 n11 c12 x1.prods) (h18:Rw Yuj w (St w []).av A15 n16 c17 x14.terms) (h22:Rw Yuq w (St w []).av A19 n20 c21 x14.syms) (h26:Rw Yun w (St w []).av A23 n24 c25 x14.prods) (hF:∀ b,F b→b < w.heap.size∧∀ o ∈ ([]:List (List Nat)),b ∉ o) (hL0:B.Loc w w [] [Sm w.heap.size F w [],St w []]) (r:Bool) (h:Zay x1 x14 r):Calls Tryd.prog 32 #[.agg #[.slice A2 n3 c4,.slice A6 n7 c8,.slice A10 n11 c12],.agg #[.slice A15 n16 c17,.slice A19 n20 c21,.slice A23 n24 c25]] w (Yy0 w F  r):=by
 unfold Zay at h
 refine Yv5 (vs:=[.agg #[.slice A2 n3 c4,.slice A6 n7 c8,.slice A10 n11 c12],.agg #[.slice A15 n16 c17,.slice A19 n20 c21,.slice A23 n24 c25]]) 137 Tryd.func32 rfl Tryd.ntmps32 rfl hL0 ?_
 show G (Yvs w F r) _ _ _ _
 refine Yu9 rfl<|Yu4 rfl rfl ?_
 refine Yve 0 rfl (Zas [.slice A2 n3 c4,.slice A6 n7 c8,.slice A10 n11 c12] rfl rfl rfl fun gb27=>?_) gn
 refine Yve 1 rfl (Zas [.slice A15 n16 c17,.slice A19 n20 c21,.slice A23 n24 c25] rfl rfl rfl fun gb29=>?_) gn
 refine Yu2 2 rfl (Yu7 rfl) gn rfl<|Yua 3 rfl<|Yu9 rfl<|Yu9 rfl ?_
 have j1:∀ (x34:Bool) (h:Yz0 x1 x14 x34 r) ,G (Yvs w F r) [.code q32c6,.code q32c4] [(2,.pointer (some ⟨gb27,0,none⟩)),(3,.pointer (some ⟨gb29,0,none⟩)),(33,.bool x34)] [.box gb29 26 [.slice A15 n16 c17,.slice A19 n20 c21,.slice A23 n24 c25],.box gb27 26 [.slice A2 n3 c4,.slice A6 n7 c8,.slice A10 n11 c12]] [Sm w.heap.size F w [],St w []]:=by
  intro x34 h
  unfold Yz0 at h
  by_cases hp35:x34=true
  ·have h:=Yul hp35 h
   refine Yv4 rfl _ rfl (hp35)<|Yu9 rfl<|Yu4 rfl rfl<|Yu2 0 rfl (Yu7 rfl) gn rfl<|Yua 1 rfl ?_
   refine Yvb [.bool false] rfl Tryd.func32 rfl (.tmp rfl (.nil)) fun wr hLr=>?_
   have hMr:=hLr.pk0 (.c 1 rfl .n)
   show Yy0 w F  r (.returned (Yvl [.bool false])) wr
   rw [h]
   exact ⟨rfl,hMr⟩
  ·have h:=Yum hp35 h
   refine Yur rfl _ rfl ((bf hp35))<|Yv2 rfl<|Yu9 rfl<|Yu9 rfl<|Yu4 rfl rfl<|Yu2 0 rfl (Yu7 rfl) gn rfl<|Yua 1 rfl<|Yuw rfl<|Ywm rfl ?_
   have key2:∀ s,Yui (fun (s:Int) o=>Yzu x1 x14 s o) s r→(fun (s:Int)=>∀ (_:Unit),G (Yvs w F r) [.code Zk9,.inLoop Zk9,.inBlock 0,.code Zly] [(2,.pointer (some ⟨gb27,0,none⟩)),(3,.pointer (some ⟨gb29,0,none⟩)),(5,.int .i64 s)] [.box gb29 26 [.slice A15 n16 c17,.slice A19 n20 c21,.slice A23 n24 c25],.box gb27 26 [.slice A2 n3 c4,.slice A6 n7 c8,.slice A10 n11 c12]] [Sm w.heap.size F w [],St w []]) s:=by
    intro s hs
    refine Yui.ind (mot:=(fun (s:Int)=>∀ (_:Unit),G (Yvs w F r) [.code Zk9,.inLoop Zk9,.inBlock 0,.code Zly] [(2,.pointer (some ⟨gb27,0,none⟩)),(3,.pointer (some ⟨gb29,0,none⟩)),(5,.int .i64 s)] [.box gb29 26 [.slice A15 n16 c17,.slice A19 n20 c21,.slice A23 n24 c25],.box gb27 26 [.slice A2 n3 c4,.slice A6 n7 c8,.slice A10 n11 c12]] [Sm w.heap.size F w [],St w []])) ?_ hs
    clear hs s
    intro x3856 o1 h hO1
    show ∀ (_:Unit),G (Yvs w F r) [.code Zk9,.inLoop Zk9,.inBlock 0,.code Zly] [(2,.pointer (some ⟨gb27,0,none⟩)),(3,.pointer (some ⟨gb29,0,none⟩)),(5,.int .i64 x3856)] [.box gb29 26 [.slice A15 n16 c17,.slice A19 n20 c21,.slice A23 n24 c25],.box gb27 26 [.slice A2 n3 c4,.slice A6 n7 c8,.slice A10 n11 c12]] [Sm w.heap.size F w [],St w []]
    intro _
    have h:Yzu x1 x14 x3856 o1:=h
    unfold Yzu at h
    refine Yu9 rfl<|Yu9 rfl<|Yu4 rfl rfl<|Yu2 0 rfl (Yu3 rfl) gn rfl<|Yu2 1 rfl (Yub Yw7 rfl) gn rfl<|Yu2 2 rfl (Yue 1 Yz4 rfl rfl rfl) gn rfl<|Yu2 3 rfl (Yuo Yze rfl h5.hq) gn rfl<|Yu2 4 rfl (Yug rfl rfl rfl) gn rfl<|Yua 5 rfl ?_
    by_cases hp7676:x3856 < (x1.terms.length:Int)
    ·have h:=Yul hp7676 h
     refine Yv4 rfl _ rfl ((decide_eq_true hp7676))<|Yv2 rfl<|Yu9 rfl<|Yuw rfl<|Yu9 rfl ?_
     obtain ⟨hb7677,h⟩:=h
     obtain ⟨hb7679,h⟩:=h
     have hns:Region.noSelect (Code.ops q32c26)=true:=by kernel_rfl
     refine Yvr [] 11 rfl rfl mix rfl (.c 0 rfl (.c 1 rfl .n))<|wfv 0 rfl (Yub Yw7 rfl) gn hns rfl<|wfv 1 rfl (Yue 1 Yz4 rfl rfl rfl) gn hns rfl<|wfv 2 rfl (Yu3 rfl) gn hns rfl ?_
     have hr7683:=Rw.readF (s:=St w []) (hl:=Zaz) (h1:=Zb1) h5 hb7677
     refine wfv 3 rfl (Yv7 (s:=St w []) Zls rfl rfl h5 hb7677) gn hns rfl<|wfv 4 rfl (Zdb (St w []) ld_57 rfl hr7683 rfl (me 1 rfl)) gn hns rfl<|wfv 5 rfl (Yub Yw7 rfl) gn hns rfl<|wfv 6 rfl (Yue 0 Yz4 rfl rfl rfl) gn hns rfl<|wfv 7 rfl (Yu3 rfl) gn hns rfl ?_
     have hr7684:=Rw.readF (s:=St w []) (hl:=Zaz) (h1:=Zb1) h18 hb7679
     refine wfv 8 rfl (Yv7 (s:=St w []) Zls rfl rfl h18 hb7679) gn hns rfl<|wfv 9 rfl (Zdb (St w []) ld_57 rfl hr7684 rfl (me 1 rfl)) gn hns rfl<|wfv 10 rfl (Zqc eq_57 rfl rfl (Zmp (ix x1.terms x3856) (ix x14.terms x3856))) gn hns rfl<|Yvx (by kernel_rfl) ?_
     by_cases hp7685:ix x1.terms x3856=ix x14.terms x3856
     ·have h:=Yul hp7685 h
      refine Yur rfl _ rfl ((nf (decide_eq_true hp7685)))<|Yv2 rfl<|Yux<|Yu4 rfl rfl<|Yu2 0 rfl (Yu3 rfl) gn rfl<|Yu2 1 rfl (Yug rfl rfl rfl) gn rfl<|Yu2 2 rfl (Yu7 rfl) gn rfl<|Yua 3 rfl<|Yv1 ?_
      have ih:=Out.inl hO1 h
      exact Yvh [0,1] (ih ()) ⟨rfl,rfl,rfl,trivial⟩ (.cons_cons _ (.cons_cons _ (.slnil))) rfl
     ·have h:=Yum hp7685 h
      refine Yv4 rfl _ rfl ((nt (decide_eq_false hp7685)))<|Yu9 rfl<|Yu4 rfl rfl<|Yu2 0 rfl (Yu7 rfl) gn rfl<|Yua 1 rfl ?_
      have h:=Out.inr hO1 h
      refine Yvb [.bool false] rfl Tryd.func32 rfl (.tmp rfl (.nil)) fun wr hLr=>?_
      have hMr:=hLr.pk0 (.c 1 rfl .n)
      show Yy0 w F  r (.returned (Yvl [.bool false])) wr
      rw [h]
      exact ⟨rfl,hMr⟩
    ·have h:=Yum hp7676 h
     refine Yur rfl _ rfl ((decide_eq_false hp7676))<|Ywa [.code Zly] rfl rfl<|Yu9 rfl<|Yu9 rfl<|Yu4 rfl rfl<|Yu2 0 rfl (Yu7 rfl) gn rfl<|Yua 1 rfl<|Yuw rfl<|Ywm rfl ?_
     have key3:∀ s,Yui (fun (s:Int) o=>Yzp x1 x14 s o) s o1→(fun (s:Int)=>∀ (_:Unit),G (Yvs w F r) [.code Zjy,.inLoop Zjy,.inBlock 2,.code Zmc] [(2,.pointer (some ⟨gb27,0,none⟩)),(3,.pointer (some ⟨gb29,0,none⟩)),(6,.int .i64 s)] [.box gb29 26 [.slice A15 n16 c17,.slice A19 n20 c21,.slice A23 n24 c25],.box gb27 26 [.slice A2 n3 c4,.slice A6 n7 c8,.slice A10 n11 c12]] [Sm w.heap.size F w [],St w []]) s:=by
      intro s hs
      refine Yui.ind (mot:=(fun (s:Int)=>∀ (_:Unit),G (Yvs w F r) [.code Zjy,.inLoop Zjy,.inBlock 2,.code Zmc] [(2,.pointer (some ⟨gb27,0,none⟩)),(3,.pointer (some ⟨gb29,0,none⟩)),(6,.int .i64 s)] [.box gb29 26 [.slice A15 n16 c17,.slice A19 n20 c21,.slice A23 n24 c25],.box gb27 26 [.slice A2 n3 c4,.slice A6 n7 c8,.slice A10 n11 c12]] [Sm w.heap.size F w [],St w []])) ?_ hs
      clear hs s
      intro x8956 o2 h hO2
      show ∀ (_:Unit),G (Yvs w F r) [.code Zjy,.inLoop Zjy,.inBlock 2,.code Zmc] [(2,.pointer (some ⟨gb27,0,none⟩)),(3,.pointer (some ⟨gb29,0,none⟩)),(6,.int .i64 x8956)] [.box gb29 26 [.slice A15 n16 c17,.slice A19 n20 c21,.slice A23 n24 c25],.box gb27 26 [.slice A2 n3 c4,.slice A6 n7 c8,.slice A10 n11 c12]] [Sm w.heap.size F w [],St w []]
      intro _
      have h:Yzp x1 x14 x8956 o2:=h
      unfold Yzp at h
      refine Yu9 rfl<|Yu9 rfl<|Yu4 rfl rfl<|Yu2 0 rfl (Yu3 rfl) gn rfl<|Yu2 1 rfl (Yub Yxd rfl) gn rfl<|Yu2 2 rfl (Yue 1 Zak rfl rfl rfl) gn rfl<|Yu2 3 rfl (Yuo Zbm rfl h9.hq) gn rfl<|Yu2 4 rfl (Yug rfl rfl rfl) gn rfl<|Yua 5 rfl ?_
      by_cases hp10226:x8956 < (x1.syms.length:Int)
      ·have h:=Yul hp10226 h
       refine Yv4 rfl _ rfl ((decide_eq_true hp10226))<|Yv2 rfl<|Yu9 rfl<|Yuw rfl<|Yu9 rfl ?_
       obtain ⟨hb10227,h⟩:=h
       obtain ⟨hb10229,h⟩:=h
       have hns:Region.noSelect (Code.ops q32c47)=true:=by kernel_rfl
       refine Yvr [] 11 rfl rfl mix rfl (.c 0 rfl (.c 1 rfl .n))<|wfv 0 rfl (Yub Yxd rfl) gn hns rfl<|wfv 1 rfl (Yue 1 Zak rfl rfl rfl) gn hns rfl<|wfv 2 rfl (Yu3 rfl) gn hns rfl ?_
       have hr10233:=Rw.readF (s:=St w []) (hl:=Zeh) (h1:=Zef) h9 hb10227
       refine wfv 3 rfl (Yv7 (s:=St w []) Zlk rfl rfl h9 hb10227) gn hns rfl<|wfv 4 rfl (Zdb (St w []) ld_60 rfl hr10233 rfl (me 1 rfl)) gn hns rfl<|wfv 5 rfl (Yub Yxd rfl) gn hns rfl<|wfv 6 rfl (Yue 0 Zak rfl rfl rfl) gn hns rfl<|wfv 7 rfl (Yu3 rfl) gn hns rfl ?_
       have hr10234:=Rw.readF (s:=St w []) (hl:=Zeh) (h1:=Zef) h22 hb10229
       refine wfv 8 rfl (Yv7 (s:=St w []) Zlk rfl rfl h22 hb10229) gn hns rfl<|wfv 9 rfl (Zdb (St w []) ld_60 rfl hr10234 rfl (me 1 rfl)) gn hns rfl<|wfv 10 rfl (Zqc eq_60 rfl rfl (Zr3 (ix x1.syms x8956) (ix x14.syms x8956))) gn hns rfl<|Yvx (by kernel_rfl) ?_
       by_cases hp10235:ix x1.syms x8956=ix x14.syms x8956
       ·have h:=Yul hp10235 h
        refine Yur rfl _ rfl ((nf (decide_eq_true hp10235)))<|Yv2 rfl<|Yux<|Yu4 rfl rfl<|Yu2 0 rfl (Yu3 rfl) gn rfl<|Yu2 1 rfl (Yug rfl rfl rfl) gn rfl<|Yu2 2 rfl (Yu7 rfl) gn rfl<|Yua 3 rfl<|Yv1 ?_
        have ih:=Out.inl hO2 h
        exact Yvh [0,1] (ih ()) ⟨rfl,rfl,rfl,trivial⟩ (.cons_cons _ (.cons_cons _ (.slnil))) rfl
       ·have h:=Yum hp10235 h
        refine Yv4 rfl _ rfl ((nt (decide_eq_false hp10235)))<|Yu9 rfl<|Yu4 rfl rfl<|Yu2 0 rfl (Yu7 rfl) gn rfl<|Yua 1 rfl ?_
        have h:=Out.inr hO2 h
        have h:=Out.inr hO1 h
        refine Yvb [.bool false] rfl Tryd.func32 rfl (.tmp rfl (.nil)) fun wr hLr=>?_
        have hMr:=hLr.pk0 (.c 1 rfl .n)
        show Yy0 w F  r (.returned (Yvl [.bool false])) wr
        rw [h]
        exact ⟨rfl,hMr⟩
      ·have h:=Yum hp10226 h
       refine Yur rfl _ rfl ((decide_eq_false hp10226))<|Ywa [.code Zmc] rfl rfl<|Yu9 rfl<|Yu9 rfl<|Yu4 rfl rfl<|Yu2 0 rfl (Yu7 rfl) gn rfl<|Yua 1 rfl<|Yuw rfl<|Ywm rfl ?_
       have key4:∀ s,Yui (fun (s:Int) o=>Yzx x1 x14 s o) s o2→(fun (s:Int)=>∀ (_:Unit),G (Yvs w F r) [.code Zei,.inLoop Zei,.inBlock 4,.code Zif] [(2,.pointer (some ⟨gb27,0,none⟩)),(3,.pointer (some ⟨gb29,0,none⟩)),(7,.int .i64 s)] [.box gb29 26 [.slice A15 n16 c17,.slice A19 n20 c21,.slice A23 n24 c25],.box gb27 26 [.slice A2 n3 c4,.slice A6 n7 c8,.slice A10 n11 c12]] [Sm w.heap.size F w [],St w []]) s:=by
        intro s hs
        refine Yui.ind (mot:=(fun (s:Int)=>∀ (_:Unit),G (Yvs w F r) [.code Zei,.inLoop Zei,.inBlock 4,.code Zif] [(2,.pointer (some ⟨gb27,0,none⟩)),(3,.pointer (some ⟨gb29,0,none⟩)),(7,.int .i64 s)] [.box gb29 26 [.slice A15 n16 c17,.slice A19 n20 c21,.slice A23 n24 c25],.box gb27 26 [.slice A2 n3 c4,.slice A6 n7 c8,.slice A10 n11 c12]] [Sm w.heap.size F w [],St w []])) ?_ hs
        clear hs s
        intro x10656 o3 h hO3
        show ∀ (_:Unit),G (Yvs w F r) [.code Zei,.inLoop Zei,.inBlock 4,.code Zif] [(2,.pointer (some ⟨gb27,0,none⟩)),(3,.pointer (some ⟨gb29,0,none⟩)),(7,.int .i64 x10656)] [.box gb29 26 [.slice A15 n16 c17,.slice A19 n20 c21,.slice A23 n24 c25],.box gb27 26 [.slice A2 n3 c4,.slice A6 n7 c8,.slice A10 n11 c12]] [Sm w.heap.size F w [],St w []]
        intro _
        have h:Yzx x1 x14 x10656 o3:=h
        unfold Yzx at h
        refine Yu9 rfl<|Yu9 rfl<|Yu4 rfl rfl<|Yu2 0 rfl (Yu3 rfl) gn rfl<|Yu2 1 rfl (Yub Yvf rfl) gn rfl<|Yu2 2 rfl (Yue 1 Ywb rfl rfl rfl) gn rfl<|Yu2 3 rfl (Yuo Za3 rfl h13.hq) gn rfl<|Yu2 4 rfl (Yug rfl rfl rfl) gn rfl<|Yua 5 rfl ?_
        by_cases hp11076:x10656 < (x1.prods.length:Int)
        ·have h:=Yul hp11076 h
         refine Yv4 rfl _ rfl ((decide_eq_true hp11076))<|Yv2 rfl<|Yu9 rfl<|Yuw rfl<|Yu9 rfl<|Yu9 rfl ?_
         have j5:∀ (x11193:Bool) (h:Yzs x10656 x1 x14 x11193 o3) ,G (Yvs w F r) [.code q32c71,.code q32c69,.inBlock 5,.code Zn1,.inLoop Zei,.inBlock 4,.code Zif] [(2,.pointer (some ⟨gb27,0,none⟩)),(3,.pointer (some ⟨gb29,0,none⟩)),(7,.int .i64 x10656),(106,.bool x11193)] [.box gb29 26 [.slice A15 n16 c17,.slice A19 n20 c21,.slice A23 n24 c25],.box gb27 26 [.slice A2 n3 c4,.slice A6 n7 c8,.slice A10 n11 c12]] [Sm w.heap.size F w [],St w []]:=by
          intro x11193 h
          unfold Yzs at h
          by_cases hp11194:x11193=true
          ·have h:=Yul hp11194 h
           refine Yv4 rfl _ rfl (hp11194)<|Yu9 rfl<|Yu4 rfl rfl<|Yu2 0 rfl (Yu7 rfl) gn rfl<|Yua 1 rfl ?_
           have h:=Out.inr hO3 h
           have h:=Out.inr hO2 h
           have h:=Out.inr hO1 h
           refine Yvb [.bool false] rfl Tryd.func32 rfl (.tmp rfl (.nil)) fun wr hLr=>?_
           have hMr:=hLr.pk0 (.c 1 rfl .n)
           show Yy0 w F  r (.returned (Yvl [.bool false])) wr
           rw [h]
           exact ⟨rfl,hMr⟩
          ·have h:=Yum hp11194 h
           refine Yur rfl _ rfl ((bf hp11194))<|Yv2 rfl<|Yu9 rfl<|Yu4 rfl rfl<|Yu2 0 rfl (Yu7 rfl) gn rfl<|Yua 1 rfl<|Yuw rfl<|Ywm rfl ?_
           have key6:∀ s,Yui (fun (s:Int) o=>Yzv x10656 x1 x14 s o) s o3→(fun (s:Int)=>∀ (_:Unit),G (Yvs w F r) [.code Zkj,.inLoop Zkj,.inBlock 6,.inBlock 5,.code Zn1,.inLoop Zei,.inBlock 4,.code Zif] [(2,.pointer (some ⟨gb27,0,none⟩)),(3,.pointer (some ⟨gb29,0,none⟩)),(7,.int .i64 x10656),(8,.int .i64 s)] [.box gb29 26 [.slice A15 n16 c17,.slice A19 n20 c21,.slice A23 n24 c25],.box gb27 26 [.slice A2 n3 c4,.slice A6 n7 c8,.slice A10 n11 c12]] [Sm w.heap.size F w [],St w []]) s:=by
            intro s hs
            refine Yui.ind (mot:=(fun (s:Int)=>∀ (_:Unit),G (Yvs w F r) [.code Zkj,.inLoop Zkj,.inBlock 6,.inBlock 5,.code Zn1,.inLoop Zei,.inBlock 4,.code Zif] [(2,.pointer (some ⟨gb27,0,none⟩)),(3,.pointer (some ⟨gb29,0,none⟩)),(7,.int .i64 x10656),(8,.int .i64 s)] [.box gb29 26 [.slice A15 n16 c17,.slice A19 n20 c21,.slice A23 n24 c25],.box gb27 26 [.slice A2 n3 c4,.slice A6 n7 c8,.slice A10 n11 c12]] [Sm w.heap.size F w [],St w []])) ?_ hs
            clear hs s
            intro x11257 o4 h hO4
            show ∀ (_:Unit),G (Yvs w F r) [.code Zkj,.inLoop Zkj,.inBlock 6,.inBlock 5,.code Zn1,.inLoop Zei,.inBlock 4,.code Zif] [(2,.pointer (some ⟨gb27,0,none⟩)),(3,.pointer (some ⟨gb29,0,none⟩)),(7,.int .i64 x10656),(8,.int .i64 x11257)] [.box gb29 26 [.slice A15 n16 c17,.slice A19 n20 c21,.slice A23 n24 c25],.box gb27 26 [.slice A2 n3 c4,.slice A6 n7 c8,.slice A10 n11 c12]] [Sm w.heap.size F w [],St w []]
            intro _
            have h:Yzv x10656 x1 x14 x11257 o4:=h
            unfold Yzv at h
            refine Yu9 rfl<|Yu9 rfl<|Yu4 rfl rfl<|Yu2 0 rfl (Yu3 rfl) gn rfl<|Yu2 1 rfl (Yub Yvf rfl) gn rfl<|Yu2 2 rfl (Yue 1 Ywb rfl rfl rfl) gn rfl<|Yu2 3 rfl (Yu3 rfl) gn rfl ?_
            obtain ⟨hb11319,h⟩:=h
            obtain ⟨ce11321,hK11322,hr11320⟩:=Rw.read (s:=St w []) h13 hb11319
            obtain ⟨A11323,n11324,c11325,rfl,h11326⟩:=hK11322
            refine Yu2 4 rfl (Yv7 (s:=St w []) Yxh rfl rfl h13 hb11319) gn rfl<|Yu2 5 rfl (Yvo Yw1 rfl) gn rfl<|Yu2 6 rfl (Yvj (kk:=(x10656:Int).toNat * 2) (j:=1) (St w []) Yyc rfl hr11320 rfl (me 1 rfl)) gn rfl<|Yu2 7 rfl (Yuo Za5 rfl h11326.hq) gn rfl<|Yu2 8 rfl (Yug rfl rfl rfl) gn rfl<|Yua 9 rfl ?_
            by_cases hp11327:x11257 < (((ix x1.prods x10656).rhs).length:Int)
            ·have h:=Yul hp11327 h
             refine Yv4 rfl _ rfl ((decide_eq_true hp11327))<|Yv2 rfl<|Yu9 rfl<|Yuw rfl<|Yu9 rfl ?_
             obtain ⟨hb11335,h⟩:=h
             obtain ⟨hb11337,h⟩:=h
             obtain ⟨hb11345,h⟩:=h
             have hns:Region.noSelect (Code.ops q32c89)=true:=by kernel_rfl
             refine Yvr [] 19 rfl rfl mix rfl (.c 0 rfl (.c 1 rfl .n))<|wfv 0 rfl (Yub Yvf rfl) gn hns rfl<|wfv 1 rfl (Yue 1 Ywb rfl rfl rfl) gn hns rfl<|wfv 2 rfl (Yu3 rfl) gn hns rfl ?_
             obtain ⟨ce11364,hK11365,hr11363⟩:=Rw.read (s:=St w []) h13 hb11319
             obtain ⟨A11366,n11367,c11368,rfl,h11369⟩:=hK11365
             refine wfv 3 rfl (Yv7 (s:=St w []) Yxh rfl rfl h13 hb11319) gn hns rfl<|wfv 4 rfl (Yvo Yw1 rfl) gn hns rfl<|wfv 5 rfl (Yvj (kk:=(x10656:Int).toNat * 2) (j:=1) (St w []) Yyc rfl hr11363 rfl (me 1 rfl)) gn hns rfl<|wfv 6 rfl (Yu3 rfl) gn hns rfl ?_
             have hr11370:=Rw.readF (s:=St w []) (hl:=Yvw) (h1:=Yvy) h11369 hb11335
             refine wfv 7 rfl (Yv7 (s:=St w []) Yz5 rfl rfl h11369 hb11335) gn hns rfl<|wfv 8 rfl (Zdb (St w []) Zot rfl hr11370 rfl (me 1 rfl)) gn hns rfl<|wfv 9 rfl (Yub Yvf rfl) gn hns rfl<|wfv 10 rfl (Yue 0 Ywb rfl rfl rfl) gn hns rfl<|wfv 11 rfl (Yu3 rfl) gn hns rfl ?_
             obtain ⟨ce11372,hK11373,hr11371⟩:=Rw.read (s:=St w []) h26 hb11337
             obtain ⟨A11374,n11375,c11376,rfl,h11377⟩:=hK11373
             refine wfv 12 rfl (Yv7 (s:=St w []) Yxh rfl rfl h26 hb11337) gn hns rfl<|wfv 13 rfl (Yvo Yw1 rfl) gn hns rfl<|wfv 14 rfl (Yvj (kk:=(x10656:Int).toNat * 2) (j:=1) (St w []) Yyc rfl hr11371 rfl (me 1 rfl)) gn hns rfl<|wfv 15 rfl (Yu3 rfl) gn hns rfl ?_
             have hr11378:=Rw.readF (s:=St w []) (hl:=Yvw) (h1:=Yvy) h11377 hb11345
             refine wfv 16 rfl (Yv7 (s:=St w []) Yz5 rfl rfl h11377 hb11345) gn hns rfl<|wfv 17 rfl (Zdb (St w []) Zot rfl hr11378 rfl (me 1 rfl)) gn hns rfl<|wfv 18 rfl (Zqc eq_65 rfl rfl (Zqq (ix ((ix x1.prods x10656).rhs) x11257) (ix ((ix x14.prods x10656).rhs) x11257))) gn hns rfl<|Yvx (by kernel_rfl) ?_
             by_cases hp11379:ix ((ix x1.prods x10656).rhs) x11257=ix ((ix x14.prods x10656).rhs) x11257
             ·have h:=Yul hp11379 h
              refine Yur rfl _ rfl ((nf (decide_eq_true hp11379)))<|Yv2 rfl<|Yux<|Yu4 rfl rfl<|Yu2 0 rfl (Yu3 rfl) gn rfl<|Yu2 1 rfl (Yug rfl rfl rfl) gn rfl<|Yu2 2 rfl (Yu7 rfl) gn rfl<|Yua 3 rfl<|Yv1 ?_
              have ih:=Out.inl hO4 h
              exact Yvh [0,1] (ih ()) ⟨rfl,rfl,rfl,rfl,trivial⟩ (.cons_cons _ (.cons_cons _ (.slnil))) rfl
             ·have h:=Yum hp11379 h
              refine Yv4 rfl _ rfl ((nt (decide_eq_false hp11379)))<|Yu9 rfl<|Yu4 rfl rfl<|Yu2 0 rfl (Yu7 rfl) gn rfl<|Yua 1 rfl ?_
              have h:=Out.inr hO4 h
              have h:=Out.inr hO3 h
              have h:=Out.inr hO2 h
              have h:=Out.inr hO1 h
              refine Yvb [.bool false] rfl Tryd.func32 rfl (.tmp rfl (.nil)) fun wr hLr=>?_
              have hMr:=hLr.pk0 (.c 1 rfl .n)
              show Yy0 w F  r (.returned (Yvl [.bool false])) wr
              rw [h]
              exact ⟨rfl,hMr⟩
            ·have h:=Yum hp11327 h
             refine Yur rfl _ rfl ((decide_eq_false hp11327))<|Ywa [.inBlock 5,.code Zn1,.inLoop Zei,.inBlock 4,.code Zif] rfl rfl<|Yux<|Yu4 rfl rfl<|Yu2 0 rfl (Yu3 rfl) gn rfl<|Yu2 1 rfl (Yug rfl rfl rfl) gn rfl<|Yu2 2 rfl (Yu7 rfl) gn rfl<|Yua 3 rfl<|Yv1 ?_
             have h:=Out.inr hO4 h
             have ih:=Out.inl hO3 h
             exact Yvh [0,1] (ih ()) ⟨rfl,rfl,rfl,trivial⟩ (.cons_cons _ (.cons_cons _ (.slnil))) rfl
           exact Yvh [0,1] (key6 _ h ()) ⟨rfl,rfl,rfl,rfl,trivial⟩ (.cons_cons _ (.cons_cons _ (.slnil))) rfl
         obtain ⟨hb11380,h⟩:=h
         obtain ⟨hb11388,h⟩:=h
         by_cases hp11396:(ix x1.prods x10656).lhs=(ix x14.prods x10656).lhs
         ·have h:=Yul hp11396 h
          have hns:Region.noSelect (Code.ops q32c70)=true:=by kernel_rfl
          refine Yvr [] 30 rfl rfl mix rfl (.c 0 rfl (.c 1 rfl .n))<|wfv 0 rfl (Yub Yvf rfl) gn hns rfl<|wfv 1 rfl (Yue 1 Ywb rfl rfl rfl) gn hns rfl<|wfv 2 rfl (Yu3 rfl) gn hns rfl ?_
          obtain ⟨ce11440,hK11441,hr11439⟩:=Rw.read (s:=St w []) h13 hb11380
          obtain ⟨A11442,n11443,c11444,rfl,h11445⟩:=hK11441
          refine wfv 3 rfl (Yv7 (s:=St w []) Yxh rfl rfl h13 hb11380) gn hns rfl<|wfv 4 rfl (Yvo Yx3 rfl) gn hns rfl<|wfv 5 rfl (Yvj (kk:=(x10656:Int).toNat * 2) (j:=0) (St w []) Yvt rfl hr11439 rfl (me 1 rfl)) gn hns rfl<|wfv 6 rfl (Yub Yvf rfl) gn hns rfl<|wfv 7 rfl (Yue 0 Ywb rfl rfl rfl) gn hns rfl<|wfv 8 rfl (Yu3 rfl) gn hns rfl ?_
          obtain ⟨ce11447,hK11448,hr11446⟩:=Rw.read (s:=St w []) h26 hb11388
          obtain ⟨A11449,n11450,c11451,rfl,h11452⟩:=hK11448
          refine wfv 9 rfl (Yv7 (s:=St w []) Yxh rfl rfl h26 hb11388) gn hns rfl<|wfv 10 rfl (Yvo Yx3 rfl) gn hns rfl<|wfv 11 rfl (Yvj (kk:=(x10656:Int).toNat * 2) (j:=0) (St w []) Yvt rfl hr11446 rfl (me 1 rfl)) gn hns rfl<|wfv 12 rfl (Yug rfl rfl rfl) gn hns rfl<|wfv 13 rfl (Yu3 rfl) gn hns rfl<|Yv8 90 rfl ((Zgg hp11396))<|wfv 14 rfl (Yub Yvf rfl) (gy 90 rfl rfl) hns rfl<|wfv 15 rfl (Yue 1 Ywb rfl rfl rfl) (gy 90 rfl rfl) hns rfl<|wfv 16 rfl (Yu3 rfl) (gy 90 rfl rfl) hns rfl ?_
          obtain ⟨ce11454,hK11455,hr11453⟩:=Rw.read (s:=St w []) h13 hb11380
          obtain ⟨A11456,n11457,c11458,rfl,h11459⟩:=hK11455
          refine wfv 17 rfl (Yv7 (s:=St w []) Yxh rfl rfl h13 hb11380) (gy 90 rfl rfl) hns rfl<|wfv 18 rfl (Yvo Yw1 rfl) (gy 90 rfl rfl) hns rfl<|wfv 19 rfl (Yvj (kk:=(x10656:Int).toNat * 2) (j:=1) (St w []) Yyc rfl hr11453 rfl (me 1 rfl)) (gy 90 rfl rfl) hns rfl<|wfv 20 rfl (Yuo Za5 rfl h11459.hq) (gy 90 rfl rfl) hns rfl<|wfv 21 rfl (Yub Yvf rfl) (gy 90 rfl rfl) hns rfl<|wfv 22 rfl (Yue 0 Ywb rfl rfl rfl) (gy 90 rfl rfl) hns rfl<|wfv 23 rfl (Yu3 rfl) (gy 90 rfl rfl) hns rfl ?_
          obtain ⟨ce11461,hK11462,hr11460⟩:=Rw.read (s:=St w []) h26 hb11388
          obtain ⟨A11463,n11464,c11465,rfl,h11466⟩:=hK11462
          refine wfv 24 rfl (Yv7 (s:=St w []) Yxh rfl rfl h26 hb11388) (gy 90 rfl rfl) hns rfl<|wfv 25 rfl (Yvo Yw1 rfl) (gy 90 rfl rfl) hns rfl<|wfv 26 rfl (Yvj (kk:=(x10656:Int).toNat * 2) (j:=1) (St w []) Yyc rfl hr11460 rfl (me 1 rfl)) (gy 90 rfl rfl) hns rfl<|wfv 27 rfl (Yuo Za5 rfl h11466.hq) (gy 90 rfl rfl) hns rfl<|wfv 28 rfl (Yug rfl rfl rfl) (gy 90 rfl rfl) hns rfl<|wfv 29 rfl (Yuk (b:=false) rfl rfl) gn hns rfl<|Yvx (by kernel_rfl) ?_
          exact Yvh [0,1] (j5 ((((ix x1.prods x10656).rhs).length:Int) != (((ix x14.prods x10656).rhs).length:Int)) h) ⟨rfl,rfl,rfl,rfl,trivial⟩ (.cons_cons _ (.cons_cons _ (.slnil))) rfl
         ·have h:=Yum hp11396 h
          have hns:Region.noSelect (Code.ops q32c70)=true:=by kernel_rfl
          refine Yvr [] 30 rfl rfl mix rfl (.c 0 rfl (.c 1 rfl .n))<|wfv 0 rfl (Yub Yvf rfl) gn hns rfl<|wfv 1 rfl (Yue 1 Ywb rfl rfl rfl) gn hns rfl<|wfv 2 rfl (Yu3 rfl) gn hns rfl ?_
          obtain ⟨ce11482,hK11483,hr11481⟩:=Rw.read (s:=St w []) h13 hb11380
          obtain ⟨A11484,n11485,c11486,rfl,h11487⟩:=hK11483
          refine wfv 3 rfl (Yv7 (s:=St w []) Yxh rfl rfl h13 hb11380) gn hns rfl<|wfv 4 rfl (Yvo Yx3 rfl) gn hns rfl<|wfv 5 rfl (Yvj (kk:=(x10656:Int).toNat * 2) (j:=0) (St w []) Yvt rfl hr11481 rfl (me 1 rfl)) gn hns rfl<|wfv 6 rfl (Yub Yvf rfl) gn hns rfl<|wfv 7 rfl (Yue 0 Ywb rfl rfl rfl) gn hns rfl<|wfv 8 rfl (Yu3 rfl) gn hns rfl ?_
          obtain ⟨ce11489,hK11490,hr11488⟩:=Rw.read (s:=St w []) h26 hb11388
          obtain ⟨A11491,n11492,c11493,rfl,h11494⟩:=hK11490
          refine wfv 9 rfl (Yv7 (s:=St w []) Yxh rfl rfl h26 hb11388) gn hns rfl<|wfv 10 rfl (Yvo Yx3 rfl) gn hns rfl<|wfv 11 rfl (Yvj (kk:=(x10656:Int).toNat * 2) (j:=0) (St w []) Yvt rfl hr11488 rfl (me 1 rfl)) gn hns rfl<|wfv 12 rfl (Yug rfl rfl rfl) gn hns rfl<|wfv 13 rfl (Yu3 rfl) gn hns rfl<|Yv8 90 rfl ((Zkm hp11396))<|wfp 14 rfl (ps 90 rfl rfl rfl) hns rfl<|wfp 15 rfl (ps 90 rfl rfl rfl) hns rfl<|wfp 16 rfl (ps 90 rfl rfl rfl) hns rfl<|wfp 17 rfl (ps 90 rfl rfl rfl) hns rfl<|wfp 18 rfl (ps 90 rfl rfl rfl) hns rfl<|wfp 19 rfl (ps 90 rfl rfl rfl) hns rfl ?_
          refine wfp 20 rfl (ps 90 rfl rfl rfl) hns rfl<|wfp 21 rfl (ps 90 rfl rfl rfl) hns rfl<|wfp 22 rfl (ps 90 rfl rfl rfl) hns rfl<|wfp 23 rfl (ps 90 rfl rfl rfl) hns rfl<|wfp 24 rfl (ps 90 rfl rfl rfl) hns rfl<|wfp 25 rfl (ps 90 rfl rfl rfl) hns rfl<|wfp 26 rfl (ps 90 rfl rfl rfl) hns rfl<|wfp 27 rfl (ps 90 rfl rfl rfl) hns rfl<|wfp 28 rfl (ps 90 rfl rfl rfl) hns rfl<|wfv 29 rfl (Yuk (b:=true) rfl rfl) gn hns rfl<|Yvx (by kernel_rfl) ?_
          exact Yvh [0,1] (j5 true h) ⟨rfl,rfl,rfl,rfl,trivial⟩ (.cons_cons _ (.cons_cons _ (.slnil))) rfl
        ·have h:=Yum hp11076 h
         refine Yur rfl _ rfl ((decide_eq_false hp11076))<|Ywa [.code Zif] rfl rfl<|Yu9 rfl<|Yu4 rfl rfl<|Yu2 0 rfl (Yu7 rfl) gn rfl<|Yua 1 rfl ?_
         have h:=Out.inr hO3 h
         have h:=Out.inr hO2 h
         have h:=Out.inr hO1 h
         refine Yvb [.bool true] rfl Tryd.func32 rfl (.tmp rfl (.nil)) fun wr hLr=>?_
         have hMr:=hLr.pk0 (.c 1 rfl .n)
         show Yy0 w F  r (.returned (Yvl [.bool true])) wr
         rw [h]
         exact ⟨rfl,hMr⟩
       exact Yvh [0,1] (key4 _ h ()) ⟨rfl,rfl,rfl,trivial⟩ (.cons_cons _ (.cons_cons _ (.slnil))) rfl
     exact Yvh [0,1] (key3 _ h ()) ⟨rfl,rfl,rfl,trivial⟩ (.cons_cons _ (.cons_cons _ (.slnil))) rfl
   exact Yvh [0,1] (key2 _ h ()) ⟨rfl,rfl,rfl,trivial⟩ (.cons_cons _ (.cons_cons _ (.slnil))) rfl
 refine Yu4 rfl rfl<|Yu2 0 rfl (Yub Yw7 rfl) gn rfl<|Yu2 1 rfl (Yue 1 Yz4 rfl rfl rfl) gn rfl<|Yu2 2 rfl (Yuo Yze rfl h5.hq) gn rfl<|Yu2 3 rfl (Yub Yw7 rfl) gn rfl<|Yu2 4 rfl (Yue 0 Yz4 rfl rfl rfl) gn rfl<|Yu2 5 rfl (Yuo Yze rfl h18.hq) gn rfl<|Yu2 6 rfl (Yug rfl rfl rfl) gn rfl<|Yu2 7 rfl (Yu3 rfl) gn rfl ?_
 by_cases hp11495:(x1.terms.length:Int)=(x14.terms.length:Int)
 ·have h:=Yul hp11495 h
  refine Yvi 16 rfl ((Zgg hp11495))<|Yu2 8 rfl (Yub Yxd rfl) (gy 16 rfl rfl) rfl<|Yu2 9 rfl (Yue 1 Zak rfl rfl rfl) (gy 16 rfl rfl) rfl<|Yu2 10 rfl (Yuo Zbm rfl h9.hq) (gy 16 rfl rfl) rfl<|Yu2 11 rfl (Yub Yxd rfl) (gy 16 rfl rfl) rfl<|Yu2 12 rfl (Yue 0 Zak rfl rfl rfl) (gy 16 rfl rfl) rfl<|Yu2 13 rfl (Yuo Zbm rfl h22.hq) (gy 16 rfl rfl) rfl<|Yu2 14 rfl (Yug rfl rfl rfl) (gy 16 rfl rfl) rfl<|Yu2 15 rfl (Yuk (b:=false) rfl rfl) gn rfl<|Yu2 16 rfl (Yu3 rfl) gn rfl ?_
  by_cases hp11496:(x1.syms.length:Int)=(x14.syms.length:Int)
  ·have h:=Yul hp11496 h
   refine Yvi 25 rfl ((Zgg hp11496))<|Yu2 17 rfl (Yub Yvf rfl) (gy 25 rfl rfl) rfl<|Yu2 18 rfl (Yue 1 Ywb rfl rfl rfl) (gy 25 rfl rfl) rfl<|Yu2 19 rfl (Yuo Za3 rfl h13.hq) (gy 25 rfl rfl) rfl<|Yu2 20 rfl (Yub Yvf rfl) (gy 25 rfl rfl) rfl<|Yu2 21 rfl (Yue 0 Ywb rfl rfl rfl) (gy 25 rfl rfl) rfl<|Yu2 22 rfl (Yuo Za3 rfl h26.hq) (gy 25 rfl rfl) rfl<|Yu2 23 rfl (Yug rfl rfl rfl) (gy 25 rfl rfl) rfl<|Yu2 24 rfl (Yuk (b:=false) rfl rfl) gn rfl<|Yua 25 rfl ?_
   exact Yvh [0,1] (j1 ((x1.prods.length:Int) != (x14.prods.length:Int)) h) ⟨rfl,rfl,rfl,trivial⟩ (.cons_cons _ (.cons_cons _ (.slnil))) rfl
  ·have h:=Yum hp11496 h
   refine Yvi 25 rfl ((Zkm hp11496))<|Yu6 17 rfl (ps 25 rfl rfl rfl)<|Yu6 18 rfl (ps 25 rfl rfl rfl)<|Yu6 19 rfl (ps 25 rfl rfl rfl)<|Yu6 20 rfl (ps 25 rfl rfl rfl)<|Yu6 21 rfl (ps 25 rfl rfl rfl)<|Yu6 22 rfl (ps 25 rfl rfl rfl)<|Yu6 23 rfl (ps 25 rfl rfl rfl)<|Yu2 24 rfl (Yuk (b:=true) rfl rfl) gn rfl<|Yua 25 rfl ?_
   exact Yvh [0,1] (j1 true h) ⟨rfl,rfl,rfl,trivial⟩ (.cons_cons _ (.cons_cons _ (.slnil))) rfl
 ·have h:=Yum hp11495 h
  refine Yvi 16 rfl ((Zkm hp11495))<|Yu6 8 rfl (ps 16 rfl rfl rfl)<|Yu6 9 rfl (ps 16 rfl rfl rfl)<|Yu6 10 rfl (ps 16 rfl rfl rfl)<|Yu6 11 rfl (ps 16 rfl rfl rfl)<|Yu6 12 rfl (ps 16 rfl rfl rfl)<|Yu6 13 rfl (ps 16 rfl rfl rfl)<|Yu6 14 rfl (ps 16 rfl rfl rfl)<|Yu2 15 rfl (Yuk (b:=true) rfl rfl) gn rfl<|Yu2 16 rfl (Yu3 rfl) gn rfl<|Yu6 17 rfl (ps 25 rfl rfl rfl)<|Yu6 18 rfl (ps 25 rfl rfl rfl) ?_
  refine Yu6 19 rfl (ps 25 rfl rfl rfl)<|Yu6 20 rfl (ps 25 rfl rfl rfl)<|Yu6 21 rfl (ps 25 rfl rfl rfl)<|Yu6 22 rfl (ps 25 rfl rfl rfl)<|Yu6 23 rfl (ps 25 rfl rfl rfl)<|Yu2 24 rfl (Yuk (b:=true) rfl rfl) gn rfl<|Yua 25 rfl ?_
  exact Yvh [0,1] (j1 true h) ⟨rfl,rfl,rfl,trivial⟩ (.cons_cons _ (.cons_cons _ (.slnil))) rfl
end Go.Proofs.YtadcichlnacagaaDoor.K
