/- What the machine's calls do, function by function, printed by my own tool. Condition of each: its relation holds of the answer, and what is handed in lies in memory as told. -/
import Derived.Test.YtjookebbmfiidaaDoorK5
set_option linter.unusedVariables false
set_option maxRecDepth 100000
set_option maxHeartbeats 4000000
namespace Go.Proofs.YtjookebbmfiidaaDoor.K
open Go.Proofs.YtjookebbmfiidaaDoor.B Go.Proofs.YtjookebbmfiidaaDoor.R Go.RowKit
noncomputable abbrev q45c11:=Code.fst (Code.snd (Code.snd (Code.snd (Df Tryd.f45))))
abbrev Xi (w:World) (F:Nat→Prop) (g2:Nat) (g5:Nat) (g12:Nat) (g19:Nat) (g30:Nat) (Tb3:Nat) (Tb6:Nat) (Tb13:Nat) (Tb20:Nat) (Tb31:Nat) (A7:Option Addr) (n8:Nat) (c9:Nat) (A14:Option Addr) (n15:Nat) (c16:Nat) (A21:Option Addr) (n22:Nat) (c23:Nat) (A25:Option Addr) (n26:Nat) (c27:Nat) (r:Bool × (List Ai) × (List Int) × Aq × ByteArray):Ending→World→Prop:=fun e w'=>e=.returned (.bool r.1)∧B.Loc w w' [.box g2 Tb3 [.func (.func 41) #[] #[.pointer (some ⟨g5,0,none⟩),.pointer (some ⟨g12,0,none⟩),.pointer (some ⟨g19,0,none⟩),.pointer (some ⟨g30,0,none⟩)]],.box g5 Tb6 [.slice A7 n8 c9],.box g12 Tb13 [.slice A14 n15 c16],.box g19 Tb20 [.slice A21 n22 c23,.slice A25 n26 c27],.box g30 Tb31 [.string r.2.2.2.2]] [St w [[g2],[g5],[g12],[g19],[g30]]]
noncomputable abbrev Xgv (w:World) (F:Nat→Prop) (g2:Nat) (g5:Nat) (g12:Nat) (g19:Nat) (g30:Nat) (Tb3:Nat) (Tb6:Nat) (Tb13:Nat) (Tb20:Nat) (Tb31:Nat) (A7:Option Addr) (n8:Nat) (c9:Nat) (A14:Option Addr) (n15:Nat) (c16:Nat) (A21:Option Addr) (n22:Nat) (c23:Nat) (A25:Option Addr) (n26:Nat) (c27:Nat) (r:Bool × (List Ai) × (List Int) × Aq × ByteArray):Cx:=⟨Tryd.prog,45,Tryd.f45,23,Xi w F g2 g5 g12 g19 g30 Tb3 Tb6 Tb13 Tb20 Tb31 A7 n8 c9 A14 n15 c16 A21 n22 c23 A25 n26 c27 r,w⟩
theorem Xdo (w:World) (F:Nat→Prop) (x1:D8) (x4:List Ai) (x11:List Int) (x18:Aq) (x29:ByteArray) (g2:Nat) (Tb3:Nat) (g5:Nat) (Tb6:Nat) (A7:Option Addr) (n8:Nat) (c9:Nat) (g12:Nat) (Tb13:Nat) (A14:Option Addr) (n15:Nat) (c16:Nat) (g19:Nat) (Tb20:Nat) (A21:Option Addr) (n22:Nat) (c23:Nat) (A25:Option Addr) (n26:Nat) (c27:Nat) (g30:Nat) (Tb31:Nat) (h10:Rw D9 w (St w [[g2],[g5],[g12],[g19],[g30]]).av A7 n8 c9 x4) (h17:Rw (Gs .i64) w (St w [[g2],[g5],[g12],[g19],[g30]]).av A14 n15 c16 x11) (h24:Rw Cb w (St w [[g2],[g5],[g12],[g19],[g30]]).av A21 n22 c23 x18.nodes) (h28:Rw Dq w (St w [[g2],[g5],[g12],[g19],[g30]]).av A25 n26 c27 x18.conds) (hF:∀ b,F b→b < w.heap.size∧∀ o ∈ ([[g2],[g5],[g12],[g19],[g30]]:List (List Nat)),b ∉ o) (hL0:B.Loc w w [.box g2 Tb3 [.func (.func 41) #[] #[.pointer (some ⟨g5,0,none⟩),.pointer (some ⟨g12,0,none⟩),.pointer (some ⟨g19,0,none⟩),.pointer (some ⟨g30,0,none⟩)]],.box g5 Tb6 [.slice A7 n8 c9],.box g12 Tb13 [.slice A14 n15 c16],.box g19 Tb20 [.slice A21 n22 c23,.slice A25 n26 c27],.box g30 Tb31 [.string x29]] [Sm w.heap.size F w [[g2],[g5],[g12],[g19],[g30]],St w [[g2],[g5],[g12],[g19],[g30]]]) (r:Bool × (List Ai) × (List Int) × Aq × ByteArray) (h:Xq x1 x4 x11 x18 x29 r):Calls Tryd.prog 45 #[.agg #[.bool x1.not,.string x1.a,.string x1.b,.string x1.text],.pointer (some ⟨g2,0,none⟩)] w (Xi w F g2 g5 g12 g19 g30 Tb3 Tb6 Tb13 Tb20 Tb31 A7 n8 c9 A14 n15 c16 A21 n22 c23 A25 n26 c27 r):=by
 unfold Xq at h
 refine Bl (vs:=[.agg #[.bool x1.not,.string x1.a,.string x1.b,.string x1.text],.pointer (some ⟨g2,0,none⟩)]) 23 Tryd.func45 rfl Tryd.ntmps45 rfl hL0 ?_
 show G (Xgv w F g2 g5 g12 g19 g30 Tb3 Tb6 Tb13 Tb20 Tb31 A7 n8 c9 A14 n15 c16 A21 n22 c23 A25 n26 c27 r) _ _ _ _
 refine Ag rfl<|Ac rfl rfl ?_
 refine Ci 0 rfl (O3 [.bool x1.not,.string x1.a,.string x1.b,.string x1.text] rfl rfl rfl fun gb32=>?_) gn
 refine Aa 1 rfl (Af rfl) gn rfl<|Ah 2 rfl<|Ag rfl<|Ac rfl rfl<|Aa 0 rfl (Bd Xfl rfl) gn rfl<|Aa 1 rfl (Au 0 Gw rfl rfl rfl) gn rfl<|Aa 2 rfl (Af rfl) gn rfl<|Ah 3 rfl<|Ag rfl<|Ag rfl<|Ac rfl rfl<|Aa 0 rfl (Bd Z9 rfl) gn rfl ?_
 refine Aa 1 rfl (Au 0 Gw rfl rfl rfl) gn rfl<|Aa 2 rfl (Rt rfl rfl) gn rfl<|Ah 3 rfl ?_
 by_cases hp34:x1.b=(⟨#[]⟩:ByteArray)
 ·have h:=Ap hp34 h
  refine Bc rfl _ rfl ((nf (Ox hp34)))<|Bo rfl<|Ag rfl ?_
  obtain ⟨r38,hv39,h⟩:=h
  have hns:Region.noSelect (Code.ops q45c11)=true:=by kernel_rfl
  refine Xbt [.box gb32 47 [.bool x1.not,.string x1.a,.string x1.b,.string x1.text],.box g2 Tb3 [.func (.func 41) #[] #[.pointer (some ⟨g5,0,none⟩),.pointer (some ⟨g12,0,none⟩),.pointer (some ⟨g19,0,none⟩),.pointer (some ⟨g30,0,none⟩)]]] [Sm w.heap.size F w [[g2],[g5],[g12],[g19],[g30]],St w [[g2],[g5],[g12],[g19],[g30]]] [] 10 rfl rfl mix rfl (.cons_cons _ (.cons_cons _ (.cons _ (.cons _ (.cons _ (.cons _ (.slnil))))))) (Bf [0,1] rfl)<|wfv 0 rfl (Au 1 ld_72 rfl rfl rfl) gn hns rfl<|wfv 1 rfl (Bd Xdh rfl) gn hns rfl<|wfv 2 rfl (Au 0 Gw rfl rfl rfl) gn hns rfl<|wfv 4 rfl (Ae rfl) gn hns rfl<|wfv 6 rfl (Bd Xiu rfl) gn hns rfl<|wfv 7 rfl (Au 0 Xao rfl rfl rfl) gn hns rfl ?_
  refine Cf [3] (by kernel_rfl) rfl ⟨Ej 3 rfl gn rfl (Xal [.string x1.a] [.pointer (some ⟨g5,0,none⟩),.pointer (some ⟨g12,0,none⟩),.pointer (some ⟨g19,0,none⟩),.pointer (some ⟨g30,0,none⟩)] rfl rfl Tryd.func41 rfl rfl rfl fun w98 hL99=>?_),trivial⟩
  have hp100:=pmI hL99 (.c 2 rfl (.c 3 rfl (.c 4 rfl (.c 5 rfl .n)))) (.c 0 rfl (.c 1 rfl .n)) (by kernel_rfl)
  refine Calls.mono (Wj w98 (Fl ([]:List Cc)) x1.a x4 x11 x18 x29 g5 Tb6 A7 n8 c9 g12 Tb13 A14 n15 c16 g19 Tb20 A21 n22 c23 A25 n26 c27 g30 Tb31 (Rw.mono h10 (hL99.toSt hp100 (me 1 rfl))) (Rw.mono h17 (hL99.toSt hp100 (me 1 rfl))) (Rw.mono h24 (hL99.toSt hp100 (me 1 rfl))) (Rw.mono h28 (hL99.toSt hp100 (me 1 rfl))) (hL99.hFl hp100 (Bf [] rfl)) (hL99.into hp100 _) r38 hv39) ?_
  rintro _ w101 ⟨rfl,hM102⟩
  have hL103:=hL99.call hp100 hM102
  refine ⟨_,_,_,rfl,hL103,?_⟩
  refine ⟨Bf [4,5] rfl,Bf [0,1] rfl,?_⟩
  refine wfv 5 rfl (Yp rfl rfl) gn hns rfl<|wfv 8 rfl (v_eqB un_4 rfl rfl) gn hns rfl<|wfv 9 rfl (Af rfl) gn hns rfl<|Et (by kernel_rfl) ?_
  refine Bg [.bool ((seq r38.1 x1.text) == x1.not)] rfl Tryd.func45 rfl (.tmp rfl (.nil)) fun wr hLr=>?_
  have hMr:=hLr.pkI (.c 5 rfl (.c 0 rfl (.c 1 rfl (.c 2 rfl (.c 3 rfl .n))))) (.c 4 rfl .n) (by kernel_rfl) (.c 1 rfl .n)
  show Xi w F g2 g5 g12 g19 g30 Tb3 Tb6 Tb13 Tb20 Tb31 A7 n8 c9 A14 n15 c16 A21 n22 c23 A25 n26 c27 r (.returned (Bz [.bool ((seq r38.1 x1.text) == x1.not)])) wr
  rw [h]
  exact ⟨rfl,hMr⟩
 ·have h:=Am hp34 h
  refine Bi rfl _ rfl ((nt (Oo hp34)))<|Ac rfl rfl<|Aa 0 rfl (Au 1 ld_72 rfl rfl rfl) gn rfl<|Aa 1 rfl (Bd Z9 rfl) gn rfl<|Aa 2 rfl (Au 0 Gw rfl rfl rfl) gn rfl ?_
  obtain ⟨r107,hv108,h⟩:=h
  refine Ci 3 rfl (Xal [.string x1.b] [.pointer (some ⟨g5,0,none⟩),.pointer (some ⟨g12,0,none⟩),.pointer (some ⟨g19,0,none⟩),.pointer (some ⟨g30,0,none⟩)] rfl rfl Tryd.func41 rfl rfl rfl fun w104 hL105=>?_) gn
  have hp106:=pmI hL105 (.c 2 rfl (.c 3 rfl (.c 4 rfl (.c 5 rfl .n)))) (.c 0 rfl (.c 1 rfl .n)) (by kernel_rfl)
  refine Calls.mono (Wj w104 (Fl ([]:List Cc)) x1.b x4 x11 x18 x29 g5 Tb6 A7 n8 c9 g12 Tb13 A14 n15 c16 g19 Tb20 A21 n22 c23 A25 n26 c27 g30 Tb31 (Rw.mono h10 (hL105.toSt hp106 (me 1 rfl))) (Rw.mono h17 (hL105.toSt hp106 (me 1 rfl))) (Rw.mono h24 (hL105.toSt hp106 (me 1 rfl))) (Rw.mono h28 (hL105.toSt hp106 (me 1 rfl))) (hL105.hFl hp106 (Bf [] rfl)) (hL105.into hp106 _) r107 hv108) ?_
  rintro _ w109 ⟨rfl,hM110⟩
  have hL111:=hL105.call hp106 hM110
  refine ⟨_,_,_,rfl,hL111,?_⟩
  refine Aa 4 rfl (Af rfl) gn rfl<|Ah 5 rfl<|Ag rfl ?_
  obtain ⟨r115,hv116,h⟩:=h
  have hns:Region.noSelect (Code.ops q45c11)=true:=by kernel_rfl
  refine Xbt [.box gb32 47 [.bool x1.not,.string x1.a,.string x1.b,.string x1.text],.box g2 Tb3 [.func (.func 41) #[] #[.pointer (some ⟨g5,0,none⟩),.pointer (some ⟨g12,0,none⟩),.pointer (some ⟨g19,0,none⟩),.pointer (some ⟨g30,0,none⟩)]]] [Sm w.heap.size F w [[g2],[g5],[g12],[g19],[g30]],St w [[g2],[g5],[g12],[g19],[g30]]] [] 10 rfl rfl mix rfl (.cons _ (.cons _ (.cons _ (.cons _ (.cons_cons _ (.cons_cons _ (.slnil))))))) (Bf [0,1] rfl)<|wfv 0 rfl (Au 1 ld_72 rfl rfl rfl) gn hns rfl<|wfv 1 rfl (Bd Xdh rfl) gn hns rfl<|wfv 2 rfl (Au 0 Gw rfl rfl rfl) gn hns rfl<|wfv 4 rfl (Ae rfl) gn hns rfl<|wfv 6 rfl (Bd Xiu rfl) gn hns rfl<|wfv 7 rfl (Au 0 Xao rfl rfl rfl) gn hns rfl ?_
  refine Cf [3] (by kernel_rfl) rfl ⟨Ej 3 rfl gn rfl (Xal [.string x1.a] [.pointer (some ⟨g5,0,none⟩),.pointer (some ⟨g12,0,none⟩),.pointer (some ⟨g19,0,none⟩),.pointer (some ⟨g30,0,none⟩)] rfl rfl Tryd.func41 rfl rfl rfl fun w174 hL175=>?_),trivial⟩
  have hp176:=pmI hL175 (.c 0 rfl (.c 1 rfl (.c 2 rfl (.c 3 rfl .n)))) (.c 4 rfl (.c 5 rfl .n)) (by kernel_rfl)
  refine Calls.mono (Wj w174 (Fl ([]:List Cc)) x1.a x4 x11 x18 r107.2.2.2.2 g5 Tb6 A7 n8 c9 g12 Tb13 A14 n15 c16 g19 Tb20 A21 n22 c23 A25 n26 c27 g30 Tb31 (Rw.mono h10 (hL175.toSt hp176 (me 1 rfl))) (Rw.mono h17 (hL175.toSt hp176 (me 1 rfl))) (Rw.mono h24 (hL175.toSt hp176 (me 1 rfl))) (Rw.mono h28 (hL175.toSt hp176 (me 1 rfl))) (hL175.hFl hp176 (Bf [] rfl)) (hL175.into hp176 _) r115 hv116) ?_
  rintro _ w177 ⟨rfl,hM178⟩
  have hL179:=hL175.call hp176 hM178
  refine ⟨_,_,_,rfl,hL179,?_⟩
  refine ⟨Bf [4,5] rfl,Bf [0,1] rfl,?_⟩
  refine wfv 5 rfl (Yp rfl rfl) gn hns rfl<|wfv 8 rfl (v_eqB un_4 rfl rfl) gn hns rfl<|wfv 9 rfl (Af rfl) gn hns rfl<|Et (by kernel_rfl) ?_
  refine Bg [.bool ((seq r115.1 r107.1) == x1.not)] rfl Tryd.func45 rfl (.tmp rfl (.nil)) fun wr hLr=>?_
  have hMr:=hLr.pkI (.c 5 rfl (.c 0 rfl (.c 1 rfl (.c 2 rfl (.c 3 rfl .n))))) (.c 4 rfl .n) (by kernel_rfl) (.c 1 rfl .n)
  show Xi w F g2 g5 g12 g19 g30 Tb3 Tb6 Tb13 Tb20 Tb31 A7 n8 c9 A14 n15 c16 A21 n22 c23 A25 n26 c27 r (.returned (Bz [.bool ((seq r115.1 r107.1) == x1.not)])) wr
  rw [h]
  exact ⟨rfl,hMr⟩
noncomputable abbrev q74c4:=Code.snd (Code.snd (Df Tryd.f74))
noncomputable abbrev Xhi:=Code.fst (Code.fst (Code.snd (Code.fst (Code.snd (Df Tryd.f74)))))
abbrev Gz (w:World) (F:Nat→Prop) (g6:Nat) (g9:Nat) (g16:Nat) (g23:Nat) (g34:Nat) (Tb7:Nat) (Tb10:Nat) (Tb17:Nat) (Tb24:Nat) (Tb35:Nat) (A11:Option Addr) (n12:Nat) (c13:Nat) (A18:Option Addr) (n19:Nat) (c20:Nat) (A25:Option Addr) (n26:Nat) (c27:Nat) (A29:Option Addr) (n30:Nat) (c31:Nat) (r:Int × (List Ai) × (List Int) × Aq × ByteArray):Ending→World→Prop:=fun e w'=>e=.returned (.int .i64 r.1)∧B.Loc w w' [.box g6 Tb7 [.func (.func 41) #[] #[.pointer (some ⟨g9,0,none⟩),.pointer (some ⟨g16,0,none⟩),.pointer (some ⟨g23,0,none⟩),.pointer (some ⟨g34,0,none⟩)]],.box g9 Tb10 [.slice A11 n12 c13],.box g16 Tb17 [.slice A18 n19 c20],.box g23 Tb24 [.slice A25 n26 c27,.slice A29 n30 c31],.box g34 Tb35 [.string r.2.2.2.2]] [St w [[g6],[g9],[g16],[g23],[g34]]]
noncomputable abbrev Gy (w:World) (F:Nat→Prop) (g6:Nat) (g9:Nat) (g16:Nat) (g23:Nat) (g34:Nat) (Tb7:Nat) (Tb10:Nat) (Tb17:Nat) (Tb24:Nat) (Tb35:Nat) (A11:Option Addr) (n12:Nat) (c13:Nat) (A18:Option Addr) (n19:Nat) (c20:Nat) (A25:Option Addr) (n26:Nat) (c27:Nat) (A29:Option Addr) (n30:Nat) (c31:Nat) (r:Int × (List Ai) × (List Int) × Aq × ByteArray):Cx:=⟨Tryd.prog,74,Tryd.f74,19,Gz w F g6 g9 g16 g23 g34 Tb7 Tb10 Tb17 Tb24 Tb35 A11 n12 c13 A18 n19 c20 A25 n26 c27 A29 n30 c31 r,w⟩
theorem Tu (w:World) (F:Nat→Prop) (x1:List D8) (x8:List Ai) (x15:List Int) (x22:Aq) (x33:ByteArray) (A2:Option Addr) (n3:Nat) (c4:Nat) (g6:Nat) (Tb7:Nat) (g9:Nat) (Tb10:Nat) (A11:Option Addr) (n12:Nat) (c13:Nat) (g16:Nat) (Tb17:Nat) (A18:Option Addr) (n19:Nat) (c20:Nat) (g23:Nat) (Tb24:Nat) (A25:Option Addr) (n26:Nat) (c27:Nat) (A29:Option Addr) (n30:Nat) (c31:Nat) (g34:Nat) (Tb35:Nat) (h5:Rw Dq w (St w [[g6],[g9],[g16],[g23],[g34]]).av A2 n3 c4 x1) (h14:Rw D9 w (St w [[g6],[g9],[g16],[g23],[g34]]).av A11 n12 c13 x8) (h21:Rw (Gs .i64) w (St w [[g6],[g9],[g16],[g23],[g34]]).av A18 n19 c20 x15) (h28:Rw Cb w (St w [[g6],[g9],[g16],[g23],[g34]]).av A25 n26 c27 x22.nodes) (h32:Rw Dq w (St w [[g6],[g9],[g16],[g23],[g34]]).av A29 n30 c31 x22.conds) (hF:∀ b,F b→b < w.heap.size∧∀ o ∈ ([[g6],[g9],[g16],[g23],[g34]]:List (List Nat)),b ∉ o) (hL0:B.Loc w w [.box g6 Tb7 [.func (.func 41) #[] #[.pointer (some ⟨g9,0,none⟩),.pointer (some ⟨g16,0,none⟩),.pointer (some ⟨g23,0,none⟩),.pointer (some ⟨g34,0,none⟩)]],.box g9 Tb10 [.slice A11 n12 c13],.box g16 Tb17 [.slice A18 n19 c20],.box g23 Tb24 [.slice A25 n26 c27,.slice A29 n30 c31],.box g34 Tb35 [.string x33]] [Sm w.heap.size F w [[g6],[g9],[g16],[g23],[g34]],St w [[g6],[g9],[g16],[g23],[g34]]]) (r:Int × (List Ai) × (List Int) × Aq × ByteArray) (h:Jj x1 x8 x15 x22 x33 r):Calls Tryd.prog 74 #[.slice A2 n3 c4,.func (.func 45) #[] #[.pointer (some ⟨g6,0,none⟩)]] w (Gz w F g6 g9 g16 g23 g34 Tb7 Tb10 Tb17 Tb24 Tb35 A11 n12 c13 A18 n19 c20 A25 n26 c27 A29 n30 c31 r):=by
 unfold Jj at h
 refine Bl (vs:=[.slice A2 n3 c4,.func (.func 45) #[] #[.pointer (some ⟨g6,0,none⟩)]]) 19 Tryd.func74 rfl Tryd.ntmps74 rfl hL0 ?_
 show G (Gy w F g6 g9 g16 g23 g34 Tb7 Tb10 Tb17 Tb24 Tb35 A11 n12 c13 A18 n19 c20 A25 n26 c27 A29 n30 c31 r) _ _ _ _
 refine Ag rfl<|Ac rfl rfl<|Aa 0 rfl (Af rfl) gn rfl<|Ah 1 rfl<|Ag rfl<|Ag rfl<|Ac rfl rfl<|Aa 0 rfl (Ae rfl) gn rfl<|Aa 1 rfl (D5 Yu rfl h5.hq) gn rfl<|Aa 2 rfl (Ae rfl) gn rfl<|Ah 3 rfl<|Bv rfl ?_
 refine Ei rfl ?_
 have key1:∀ s,Ar (fun (s:Int × ByteArray) o=>Dn x1 x8 x15 x22 s.1 s.2 o) s r→(fun (s:Int × ByteArray)=>∀ (_:Unit),G (Gy w F g6 g9 g16 g23 g34 Tb7 Tb10 Tb17 Tb24 Tb35 A11 n12 c13 A18 n19 c20 A25 n26 c27 A29 n30 c31 r) [.code Xhi,.inLoop Xhi,.inBlock 0,.code q74c4] [(0,.slice A2 n3 c4),(1,.func (.func 45) #[] #[.pointer (some ⟨g6,0,none⟩)]),(7,.int .i64 (x1.length:Int)),(8,.int .i64 s.1)] [.box g6 Tb7 [.func (.func 41) #[] #[.pointer (some ⟨g9,0,none⟩),.pointer (some ⟨g16,0,none⟩),.pointer (some ⟨g23,0,none⟩),.pointer (some ⟨g34,0,none⟩)]],.box g9 Tb10 [.slice A11 n12 c13],.box g16 Tb17 [.slice A18 n19 c20],.box g23 Tb24 [.slice A25 n26 c27,.slice A29 n30 c31],.box g34 Tb35 [.string s.2]] [Sm w.heap.size F w [[g6],[g9],[g16],[g23],[g34]],St w [[g6],[g9],[g16],[g23],[g34]]]) s:=by
  intro s hs
  refine Ar.ind (mot:=(fun (s:Int × ByteArray)=>∀ (_:Unit),G (Gy w F g6 g9 g16 g23 g34 Tb7 Tb10 Tb17 Tb24 Tb35 A11 n12 c13 A18 n19 c20 A25 n26 c27 A29 n30 c31 r) [.code Xhi,.inLoop Xhi,.inBlock 0,.code q74c4] [(0,.slice A2 n3 c4),(1,.func (.func 45) #[] #[.pointer (some ⟨g6,0,none⟩)]),(7,.int .i64 (x1.length:Int)),(8,.int .i64 s.1)] [.box g6 Tb7 [.func (.func 41) #[] #[.pointer (some ⟨g9,0,none⟩),.pointer (some ⟨g16,0,none⟩),.pointer (some ⟨g23,0,none⟩),.pointer (some ⟨g34,0,none⟩)]],.box g9 Tb10 [.slice A11 n12 c13],.box g16 Tb17 [.slice A18 n19 c20],.box g23 Tb24 [.slice A25 n26 c27,.slice A29 n30 c31],.box g34 Tb35 [.string s.2]] [Sm w.heap.size F w [[g6],[g9],[g16],[g23],[g34]],St w [[g6],[g9],[g16],[g23],[g34]]])) ?_ hs
  clear hs s
  intro s o1 h hO1
  obtain ⟨x49,x50⟩:=s
  show ∀ (_:Unit),G (Gy w F g6 g9 g16 g23 g34 Tb7 Tb10 Tb17 Tb24 Tb35 A11 n12 c13 A18 n19 c20 A25 n26 c27 A29 n30 c31 r) [.code Xhi,.inLoop Xhi,.inBlock 0,.code q74c4] [(0,.slice A2 n3 c4),(1,.func (.func 45) #[] #[.pointer (some ⟨g6,0,none⟩)]),(7,.int .i64 (x1.length:Int)),(8,.int .i64 x49)] [.box g6 Tb7 [.func (.func 41) #[] #[.pointer (some ⟨g9,0,none⟩),.pointer (some ⟨g16,0,none⟩),.pointer (some ⟨g23,0,none⟩),.pointer (some ⟨g34,0,none⟩)]],.box g9 Tb10 [.slice A11 n12 c13],.box g16 Tb17 [.slice A18 n19 c20],.box g23 Tb24 [.slice A25 n26 c27,.slice A29 n30 c31],.box g34 Tb35 [.string x50]] [Sm w.heap.size F w [[g6],[g9],[g16],[g23],[g34]],St w [[g6],[g9],[g16],[g23],[g34]]]
  intro _
  have h:Dn x1 x8 x15 x22 x49 x50 o1:=h
  unfold Dn at h
  refine Ag rfl<|Ac rfl rfl<|Aa 0 rfl (Ba rfl rfl rfl) gn rfl<|Ah 1 rfl<|Ag rfl ?_
  by_cases hp63:x49 < (x1.length:Int)
  ·have h:=Ap hp63 h
   refine Bi rfl _ rfl ((decide_eq_true hp63))<|Bo rfl<|Ag rfl<|Bv rfl<|Ag rfl<|Ac rfl rfl<|Aa 0 rfl (Ae rfl) gn rfl<|Aa 1 rfl (Af rfl) gn rfl<|Ah 2 rfl<|Ag rfl<|Ac rfl rfl<|Aa 0 rfl (Ae rfl) gn rfl ?_
   refine Aa 1 rfl (Ae rfl) gn rfl<|Aa 2 rfl (Ae rfl) gn rfl ?_
   obtain ⟨hb64,h⟩:=h
   have hr65:=Rw.readF (s:=St w [[g6],[g9],[g16],[g23],[g34]]) (hl:=Nh) (h1:=Nc) h5 hb64
   refine Aa 3 rfl (Ef (s:=St w [[g6],[g9],[g16],[g23],[g34]]) Zl rfl rfl h5 hb64) gn rfl<|Aa 4 rfl (Q8 (St w [[g6],[g9],[g16],[g23],[g34]]) Xf3 rfl hr65 rfl (me 1 rfl)) gn rfl ?_
   obtain ⟨r69,hv70,h⟩:=h
   refine Ci 5 rfl (Xal [.agg #[.bool ((ix x1 x49).not),.string ((ix x1 x49).a),.string ((ix x1 x49).b),.string ((ix x1 x49).text)]] [.pointer (some ⟨g6,0,none⟩)] rfl rfl Tryd.func45 rfl rfl rfl fun w66 hL67=>?_) gn
   have hp68:=pmI hL67 (.c 0 rfl (.c 1 rfl (.c 2 rfl (.c 3 rfl (.c 4 rfl .n))))) .n (by kernel_rfl)
   refine Calls.mono (Xdo w66 (Fl ([]:List Cc)) (ix x1 x49) x8 x15 x22 x50 g6 Tb7 g9 Tb10 A11 n12 c13 g16 Tb17 A18 n19 c20 g23 Tb24 A25 n26 c27 A29 n30 c31 g34 Tb35 (Rw.mono h14 (hL67.toSt hp68 (me 1 rfl))) (Rw.mono h21 (hL67.toSt hp68 (me 1 rfl))) (Rw.mono h28 (hL67.toSt hp68 (me 1 rfl))) (Rw.mono h32 (hL67.toSt hp68 (me 1 rfl))) (hL67.hFl hp68 (Bf [] rfl)) (hL67.into hp68 _) r69 hv70) ?_
   rintro _ w71 ⟨rfl,hM72⟩
   have hL73:=hL67.call hp68 hM72
   refine ⟨_,_,_,rfl,hL73,?_⟩
   refine Ah 6 rfl ?_
   by_cases hp74:r69.1=true
   ·have h:=Ap hp74 h
    refine Bi rfl _ rfl (hp74)<|Ag rfl<|Ac rfl rfl<|Aa 0 rfl (Ae rfl) gn rfl<|Aa 1 rfl (Af rfl) gn rfl<|Ah 2 rfl ?_
    have h:=Out.inr hO1 h
    refine Bg [.int .i64 x49] rfl Tryd.func74 rfl (.tmp rfl (.nil)) fun wr hLr=>?_
    have hMr:=hLr.pkI (.c 0 rfl (.c 1 rfl (.c 2 rfl (.c 3 rfl (.c 4 rfl .n))))) .n (by kernel_rfl) (.c 1 rfl .n)
    show Gz w F g6 g9 g16 g23 g34 Tb7 Tb10 Tb17 Tb24 Tb35 A11 n12 c13 A18 n19 c20 A25 n26 c27 A29 n30 c31 r (.returned (Bz [.int .i64 x49])) wr
    rw [h]
    exact ⟨rfl,hMr⟩
   ·have h:=Am hp74 h
    refine Bc rfl _ rfl ((bf hp74))<|Bo rfl<|Bj<|Ac rfl rfl<|Aa 0 rfl (Ba rfl rfl rfl) gn rfl<|Aa 1 rfl (Ae rfl) gn rfl<|Ah 2 rfl<|Cm ?_
    have ih:=Out.inl hO1 h
    exact D6 [0,1] (ih ()) ⟨rfl,rfl,rfl,rfl,trivial⟩ (.cons_cons _ (.cons_cons _ (.cons_cons _ (.cons_cons _ (.cons_cons _ (.slnil)))))) rfl
  ·have h:=Am hp63 h
   refine Bc rfl _ rfl ((decide_eq_false hp63))<|E8 [.code q74c4] rfl rfl<|Ag rfl<|Ac rfl rfl<|Aa 0 rfl (Af rfl) gn rfl<|Ah 1 rfl ?_
   have h:=Out.inr hO1 h
   refine Bg [.int .i64 (-1)] rfl Tryd.func74 rfl (.tmp rfl (.nil)) fun wr hLr=>?_
   have hMr:=hLr.pkI (.c 0 rfl (.c 1 rfl (.c 2 rfl (.c 3 rfl (.c 4 rfl .n))))) .n (by kernel_rfl) (.c 1 rfl .n)
   show Gz w F g6 g9 g16 g23 g34 Tb7 Tb10 Tb17 Tb24 Tb35 A11 n12 c13 A18 n19 c20 A25 n26 c27 A29 n30 c31 r (.returned (Bz [.int .i64 (-1)])) wr
   rw [h]
   exact ⟨rfl,hMr⟩
 exact D6 [0,1] (key1 _ h ()) ⟨rfl,rfl,rfl,rfl,trivial⟩ (.cons_cons _ (.cons_cons _ (.cons_cons _ (.cons_cons _ (.cons_cons _ (.slnil)))))) rfl
abbrev Ia (w:World) (F:Nat→Prop) (g6:Nat) (g9:Nat) (g16:Nat) (g23:Nat) (g34:Nat) (Tb7:Nat) (Tb10:Nat) (Tb17:Nat) (Tb24:Nat) (Tb35:Nat) (A11:Option Addr) (n12:Nat) (c13:Nat) (A18:Option Addr) (n19:Nat) (c20:Nat) (A25:Option Addr) (n26:Nat) (c27:Nat) (A29:Option Addr) (n30:Nat) (c31:Nat) (r:Bool × (List Ai) × (List Int) × Aq × ByteArray):Ending→World→Prop:=fun e w'=>e=.returned (.bool r.1)∧B.Loc w w' [.box g6 Tb7 [.func (.func 41) #[] #[.pointer (some ⟨g9,0,none⟩),.pointer (some ⟨g16,0,none⟩),.pointer (some ⟨g23,0,none⟩),.pointer (some ⟨g34,0,none⟩)]],.box g9 Tb10 [.slice A11 n12 c13],.box g16 Tb17 [.slice A18 n19 c20],.box g23 Tb24 [.slice A25 n26 c27,.slice A29 n30 c31],.box g34 Tb35 [.string r.2.2.2.2]] [St w [[g6],[g9],[g16],[g23],[g34]]]
noncomputable abbrev Ua (w:World) (F:Nat→Prop) (g6:Nat) (g9:Nat) (g16:Nat) (g23:Nat) (g34:Nat) (Tb7:Nat) (Tb10:Nat) (Tb17:Nat) (Tb24:Nat) (Tb35:Nat) (A11:Option Addr) (n12:Nat) (c13:Nat) (A18:Option Addr) (n19:Nat) (c20:Nat) (A25:Option Addr) (n26:Nat) (c27:Nat) (A29:Option Addr) (n30:Nat) (c31:Nat) (r:Bool × (List Ai) × (List Int) × Aq × ByteArray):Cx:=⟨Tryd.prog,44,Tryd.f44,9,Ia w F g6 g9 g16 g23 g34 Tb7 Tb10 Tb17 Tb24 Tb35 A11 n12 c13 A18 n19 c20 A25 n26 c27 A29 n30 c31 r,w⟩
theorem Rq (w:World) (F:Nat→Prop) (x1:List D8) (x8:List Ai) (x15:List Int) (x22:Aq) (x33:ByteArray) (A2:Option Addr) (n3:Nat) (c4:Nat) (g6:Nat) (Tb7:Nat) (g9:Nat) (Tb10:Nat) (A11:Option Addr) (n12:Nat) (c13:Nat) (g16:Nat) (Tb17:Nat) (A18:Option Addr) (n19:Nat) (c20:Nat) (g23:Nat) (Tb24:Nat) (A25:Option Addr) (n26:Nat) (c27:Nat) (A29:Option Addr) (n30:Nat) (c31:Nat) (g34:Nat) (Tb35:Nat) (h5:Rw Dq w (St w [[g6],[g9],[g16],[g23],[g34]]).av A2 n3 c4 x1) (h14:Rw D9 w (St w [[g6],[g9],[g16],[g23],[g34]]).av A11 n12 c13 x8) (h21:Rw (Gs .i64) w (St w [[g6],[g9],[g16],[g23],[g34]]).av A18 n19 c20 x15) (h28:Rw Cb w (St w [[g6],[g9],[g16],[g23],[g34]]).av A25 n26 c27 x22.nodes) (h32:Rw Dq w (St w [[g6],[g9],[g16],[g23],[g34]]).av A29 n30 c31 x22.conds) (hF:∀ b,F b→b < w.heap.size∧∀ o ∈ ([[g6],[g9],[g16],[g23],[g34]]:List (List Nat)),b ∉ o) (hL0:B.Loc w w [.box g6 Tb7 [.func (.func 41) #[] #[.pointer (some ⟨g9,0,none⟩),.pointer (some ⟨g16,0,none⟩),.pointer (some ⟨g23,0,none⟩),.pointer (some ⟨g34,0,none⟩)]],.box g9 Tb10 [.slice A11 n12 c13],.box g16 Tb17 [.slice A18 n19 c20],.box g23 Tb24 [.slice A25 n26 c27,.slice A29 n30 c31],.box g34 Tb35 [.string x33]] [Sm w.heap.size F w [[g6],[g9],[g16],[g23],[g34]],St w [[g6],[g9],[g16],[g23],[g34]]]) (r:Bool × (List Ai) × (List Int) × Aq × ByteArray) (h:Ez x1 x8 x15 x22 x33 r):Calls Tryd.prog 44 #[.slice A2 n3 c4,.func (.func 45) #[] #[.pointer (some ⟨g6,0,none⟩)]] w (Ia w F g6 g9 g16 g23 g34 Tb7 Tb10 Tb17 Tb24 Tb35 A11 n12 c13 A18 n19 c20 A25 n26 c27 A29 n30 c31 r):=by
 unfold Ez at h
 refine Bl (vs:=[.slice A2 n3 c4,.func (.func 45) #[] #[.pointer (some ⟨g6,0,none⟩)]]) 9 Tryd.func44 rfl Tryd.ntmps44 rfl hL0 ?_
 show G (Ua w F g6 g9 g16 g23 g34 Tb7 Tb10 Tb17 Tb24 Tb35 A11 n12 c13 A18 n19 c20 A25 n26 c27 A29 n30 c31 r) _ _ _ _
 refine Ag rfl<|Ac rfl rfl<|Aa 0 rfl (Af rfl) gn rfl<|Ah 1 rfl<|Ag rfl<|Ac rfl rfl<|Aa 0 rfl (Ae rfl) gn rfl<|Aa 1 rfl (Ae rfl) gn rfl ?_
 obtain ⟨r39,hv40,h⟩:=h
 refine Ci 2 rfl (D7 [.slice A2 n3 c4,.func (.func 45) #[] #[.pointer (some ⟨g6,0,none⟩)]] rfl Tryd.func74 rfl rfl rfl fun w36 hL37=>?_) gn
 have hp38:=pmI hL37 (.c 0 rfl (.c 1 rfl (.c 2 rfl (.c 3 rfl (.c 4 rfl .n))))) .n (by kernel_rfl)
 refine Calls.mono (Tu w36 (Fl ([]:List Cc)) x1 x8 x15 x22 x33 A2 n3 c4 g6 Tb7 g9 Tb10 A11 n12 c13 g16 Tb17 A18 n19 c20 g23 Tb24 A25 n26 c27 A29 n30 c31 g34 Tb35 (Rw.mono h5 (hL37.toSt hp38 (me 1 rfl))) (Rw.mono h14 (hL37.toSt hp38 (me 1 rfl))) (Rw.mono h21 (hL37.toSt hp38 (me 1 rfl))) (Rw.mono h28 (hL37.toSt hp38 (me 1 rfl))) (Rw.mono h32 (hL37.toSt hp38 (me 1 rfl))) (hL37.hFl hp38 (Bf [] rfl)) (hL37.into hp38 _) r39 hv40) ?_
 rintro _ w41 ⟨rfl,hM42⟩
 have hL43:=hL37.call hp38 hM42
 refine ⟨_,_,_,rfl,hL43,?_⟩
 refine Aa 3 rfl (Ba rfl rfl rfl) gn rfl<|Aa 4 rfl (Af rfl) gn rfl<|Ah 5 rfl ?_
 refine Bg [.bool (decide (r39.1≥0))] rfl Tryd.func44 rfl (.tmp rfl (.nil)) fun wr hLr=>?_
 have hMr:=hLr.pkI (.c 0 rfl (.c 1 rfl (.c 2 rfl (.c 3 rfl (.c 4 rfl .n))))) .n (by kernel_rfl) (.c 1 rfl .n)
 show Ia w F g6 g9 g16 g23 g34 Tb7 Tb10 Tb17 Tb24 Tb35 A11 n12 c13 A18 n19 c20 A25 n26 c27 A29 n30 c31 r (.returned (Bz [.bool (decide (r39.1≥0))])) wr
 rw [h]
 exact ⟨rfl,hMr⟩
noncomputable abbrev q17c4:=Code.snd (Code.snd (Df Tryd.f17))
noncomputable abbrev q17c6:=Code.snd (Code.fst (Code.snd (Df Tryd.f17)))
noncomputable abbrev q17c11:=Code.fst q17c4
noncomputable abbrev Xkr:=Code.snd q17c4
noncomputable abbrev Xgr:=Code.snd (Code.snd Xkr)
noncomputable abbrev Xbb:=Code.fst (Code.fst (Code.snd (Code.fst (Code.snd Xkr))))
noncomputable abbrev q17c28:=Code.snd (Code.snd (Code.snd Xbb))
abbrev Z8 (w:World) (F:Nat→Prop) (r:List Be):Ending→World→Prop:=fun e w'=>∃ A0:Option Addr,∃ n0:Nat,∃ c0:Nat,∃ cs0:List Value,∃ bs0:List Nat,e=.returned (.slice A0 n0 c0)∧B.Loc w w' [.own (.slice A0 n0 c0) 38 1 n0 cs0,Hr Ey (w.heap.size) none r cs0 bs0] [St w []]∧Ow w.heap.size A0 n0 c0 r
noncomputable abbrev Vu (w:World) (F:Nat→Prop) (r:List Be):Cx:=⟨Tryd.prog,17,Tryd.f17,54,Z8 w F  r,w⟩
theorem Sv (w:World) (F:Nat→Prop) (x1:Aq) (x10:List Ai) (x15:ByteArray) (A2:Option Addr) (n3:Nat) (c4:Nat) (A6:Option Addr) (n7:Nat) (c8:Nat) (A11:Option Addr) (n12:Nat) (c13:Nat) (h5:Rw Cb w (St w []).av A2 n3 c4 x1.nodes) (h9:Rw Dq w (St w []).av A6 n7 c8 x1.conds) (h14:Rw D9 w (St w []).av A11 n12 c13 x10) (hG:Tb Tryd.prog (St w [])) (hF:∀ b,F b→b < w.heap.size∧∀ o ∈ ([]:List (List Nat)),b ∉ o) (hL0:B.Loc w w [] [Sm w.heap.size F w [],St w []]) (r:List Be) (h:Rh x1 x10 x15 r):Calls Tryd.prog 17 #[.agg #[.slice A2 n3 c4,.slice A6 n7 c8],.slice A11 n12 c13,.string x15] w (Z8 w F  r):=by
 unfold Rh at h
 refine Bl (vs:=[.agg #[.slice A2 n3 c4,.slice A6 n7 c8],.slice A11 n12 c13,.string x15]) 54 Tryd.func17 rfl Tryd.ntmps17 rfl hL0 ?_
 show G (Vu w F r) _ _ _ _
 refine Ag rfl<|Ac rfl rfl ?_
 refine Ci 0 rfl (O3 [.slice A2 n3 c4,.slice A6 n7 c8] rfl rfl rfl fun gb16=>?_) gn
 refine Ci 1 rfl (O3 [.slice A11 n12 c13] rfl rfl rfl fun gb18=>?_) gn
 refine Ci 2 rfl (O3 [.string x15] rfl rfl rfl fun gb20=>?_) gn
 refine Aa 3 rfl (Af rfl) gn rfl<|Ah 4 rfl<|Ag rfl<|Ag rfl ?_
 have j1:∀ (x40:Bool) (h:Sj x10 x1 x15 x40 r) ,G (Vu w F r) [.code q17c6,.code q17c4] [(3,.pointer (some ⟨gb16,0,none⟩)),(4,.pointer (some ⟨gb18,0,none⟩)),(5,.pointer (some ⟨gb20,0,none⟩)),(19,.bool x40)] [.box gb20 9 [.string x15],.box gb18 26 [.slice A11 n12 c13],.box gb16 25 [.slice A2 n3 c4,.slice A6 n7 c8]] [Sm w.heap.size F w [],St w []]:=by
  intro x40 h
  unfold Sj at h
  by_cases hp41:x40=true
  ·have h:=Ap hp41 h
   refine Bi rfl _ rfl (hp41)<|Ag rfl<|Ac rfl rfl<|Aa 0 rfl (Af rfl) gn rfl<|Ah 1 rfl<|Td 38 1<|g_fam0 Ey w.heap.size ?_
   refine Bg [.slice none 0 0] rfl Tryd.func17 rfl (.tmp rfl (.nil)) fun wr hLr=>?_
   have hMr:=hLr.pkI (.c 1 rfl (.c 0 rfl .n)) (.c 2 rfl (.c 3 rfl (.c 4 rfl .n))) (by kernel_rfl) (.c 1 rfl .n)
   show Z8 w F  r (.returned (Bz [.slice none 0 0])) wr
   rw [h]
   exact ⟨none,0,0,[],[],rfl,hMr,(Ow.nil (z:=w.heap.size))⟩
  ·have h:=Am hp41 h
   refine Bc rfl _ rfl ((bf hp41))<|Bo rfl<|Ag rfl ?_
   obtain ⟨hb42,h⟩:=h
   obtain ⟨x47,hv48,h⟩:=h
   obtain ⟨hb49,h⟩:=h
   obtain ⟨x53,hv54,h⟩:=h
   have d1:∀ (gb88:Nat) (A89:Option Addr) (n90:Nat) (c91:Nat) (h92:Ow w.heap.size A89 n90 c91 x47) (cs93:List Value) (hC94:Cells (Kd.slice (Gs .i64)) (Sm w.heap.size F w []).w (Sm w.heap.size F w []).av x47 cs93) (A95:Option Addr) (n96:Nat) (c97:Nat) (h98:Ow w.heap.size A95 n96 c97 x53),G (Vu w F r) [.code Xkr] [(3,.pointer (some ⟨gb16,0,none⟩)),(4,.pointer (some ⟨gb18,0,none⟩)),(5,.pointer (some ⟨gb20,0,none⟩)),(7,.pointer (some ⟨gb88,0,none⟩))] [.box gb88 70 [.slice A2 n3 c4,.slice A11 n12 c13,.slice A89 n90 c91,.slice A95 n96 c97],.own (.slice A95 n96 c97) 4 1 n96 (x53.flatMap eB),.own (.slice A89 n90 c91) 36 1 n90 cs93,.box gb20 9 [.string x15],.box gb18 26 [.slice A11 n12 c13],.box gb16 25 [.slice A2 n3 c4,.slice A6 n7 c8]] [Sm w.heap.size F w [],St w []]:=by
    intro gb88 A89 n90 c91 h92 cs93 hC94 A95 n96 c97 h98
    refine Ag rfl<|Ac rfl rfl<|Aa 0 rfl (Af rfl) gn rfl<|Ah 1 rfl<|Ag rfl<|Ag rfl<|Ac rfl rfl<|Aa 0 rfl (Au 4 Zv rfl rfl rfl) gn rfl<|Aa 1 rfl (D5 V3 rfl h14.hq) gn rfl<|Aa 2 rfl (Ae rfl) gn rfl<|Ah 3 rfl<|Bv rfl ?_
    refine Ei rfl ?_
    have key2:∀ s,Ar (fun (s:(List Be) × Int × (List (List Int)) × (List Bool) × ByteArray) o=>Qe x10 x1 s.1 s.2.1 s.2.2.1 s.2.2.2.1 s.2.2.2.2 o) s r→(fun (s:(List Be) × Int × (List (List Int)) × (List Bool) × ByteArray)=>∀ (A162:Option Addr) (n163:Nat) (c164:Nat) (cs165:List Value) (bs166:List Nat) (h167:Ow w.heap.size A162 n163 c164 s.1) (A170:Option Addr) (n171:Nat) (c172:Nat) (h173:Ow w.heap.size A170 n171 c172 s.2.2.1) (cs174:List Value) (sw175:World) (sb176:List (List Nat)) (hC177:Cells (Kd.slice (Gs .i64)) (Sm w.heap.size F sw175 sb176).w (Sm w.heap.size F sw175 sb176).av s.2.2.1 cs174) (A179:Option Addr) (n180:Nat) (c181:Nat) (h182:Ow w.heap.size A179 n180 c181 s.2.2.2.1),G (Vu w F r) [.code Xbb,.inLoop Xbb,.inBlock 0,.code Xgr] [(3,.pointer (some ⟨gb16,0,none⟩)),(4,.pointer (some ⟨gb18,0,none⟩)),(5,.pointer (some ⟨gb20,0,none⟩)),(7,.pointer (some ⟨gb88,0,none⟩)),(8,.slice A162 n163 c164),(32,.int .i64 (x10.length:Int)),(33,.int .i64 s.2.1)] [Hr Ey (w.heap.size) none s.1 cs165 bs166,.own (.slice A162 n163 c164) 38 1 n163 cs165,.own (.slice A170 n171 c172) 36 1 n171 cs174,.own (.slice A179 n180 c181) 4 1 n180 (s.2.2.2.1.flatMap eB),.box gb88 70 [.slice A2 n3 c4,.slice A11 n12 c13,.slice A170 n171 c172,.slice A179 n180 c181],.box gb20 9 [.string s.2.2.2.2],.box gb18 26 [.slice A11 n12 c13],.box gb16 25 [.slice A2 n3 c4,.slice A6 n7 c8]] [Sm w.heap.size F sw175 sb176,Sm w.heap.size F w [],St w []]) s:=by
     intro s hs
     refine Ar.ind (mot:=(fun (s:(List Be) × Int × (List (List Int)) × (List Bool) × ByteArray)=>∀ (A162:Option Addr) (n163:Nat) (c164:Nat) (cs165:List Value) (bs166:List Nat) (h167:Ow w.heap.size A162 n163 c164 s.1) (A170:Option Addr) (n171:Nat) (c172:Nat) (h173:Ow w.heap.size A170 n171 c172 s.2.2.1) (cs174:List Value) (sw175:World) (sb176:List (List Nat)) (hC177:Cells (Kd.slice (Gs .i64)) (Sm w.heap.size F sw175 sb176).w (Sm w.heap.size F sw175 sb176).av s.2.2.1 cs174) (A179:Option Addr) (n180:Nat) (c181:Nat) (h182:Ow w.heap.size A179 n180 c181 s.2.2.2.1),G (Vu w F r) [.code Xbb,.inLoop Xbb,.inBlock 0,.code Xgr] [(3,.pointer (some ⟨gb16,0,none⟩)),(4,.pointer (some ⟨gb18,0,none⟩)),(5,.pointer (some ⟨gb20,0,none⟩)),(7,.pointer (some ⟨gb88,0,none⟩)),(8,.slice A162 n163 c164),(32,.int .i64 (x10.length:Int)),(33,.int .i64 s.2.1)] [Hr Ey (w.heap.size) none s.1 cs165 bs166,.own (.slice A162 n163 c164) 38 1 n163 cs165,.own (.slice A170 n171 c172) 36 1 n171 cs174,.own (.slice A179 n180 c181) 4 1 n180 (s.2.2.2.1.flatMap eB),.box gb88 70 [.slice A2 n3 c4,.slice A11 n12 c13,.slice A170 n171 c172,.slice A179 n180 c181],.box gb20 9 [.string s.2.2.2.2],.box gb18 26 [.slice A11 n12 c13],.box gb16 25 [.slice A2 n3 c4,.slice A6 n7 c8]] [Sm w.heap.size F sw175 sb176,Sm w.heap.size F w [],St w []])) ?_ hs
     clear hs s
     intro s o1 h hO1
     obtain ⟨x161,x168,x169,x178,x183⟩:=s
     show ∀ (A162:Option Addr) (n163:Nat) (c164:Nat) (cs165:List Value) (bs166:List Nat) (h167:Ow w.heap.size A162 n163 c164 x161) (A170:Option Addr) (n171:Nat) (c172:Nat) (h173:Ow w.heap.size A170 n171 c172 x169) (cs174:List Value) (sw175:World) (sb176:List (List Nat)) (hC177:Cells (Kd.slice (Gs .i64)) (Sm w.heap.size F sw175 sb176).w (Sm w.heap.size F sw175 sb176).av x169 cs174) (A179:Option Addr) (n180:Nat) (c181:Nat) (h182:Ow w.heap.size A179 n180 c181 x178),G (Vu w F r) [.code Xbb,.inLoop Xbb,.inBlock 0,.code Xgr] [(3,.pointer (some ⟨gb16,0,none⟩)),(4,.pointer (some ⟨gb18,0,none⟩)),(5,.pointer (some ⟨gb20,0,none⟩)),(7,.pointer (some ⟨gb88,0,none⟩)),(8,.slice A162 n163 c164),(32,.int .i64 (x10.length:Int)),(33,.int .i64 x168)] [Hr Ey (w.heap.size) none x161 cs165 bs166,.own (.slice A162 n163 c164) 38 1 n163 cs165,.own (.slice A170 n171 c172) 36 1 n171 cs174,.own (.slice A179 n180 c181) 4 1 n180 (x178.flatMap eB),.box gb88 70 [.slice A2 n3 c4,.slice A11 n12 c13,.slice A170 n171 c172,.slice A179 n180 c181],.box gb20 9 [.string x183],.box gb18 26 [.slice A11 n12 c13],.box gb16 25 [.slice A2 n3 c4,.slice A6 n7 c8]] [Sm w.heap.size F sw175 sb176,Sm w.heap.size F w [],St w []]
     intro A162 n163 c164 cs165 bs166 h167 A170 n171 c172 h173 cs174 sw175 sb176 hC177 A179 n180 c181 h182
     have h:Qe x10 x1 x161 x168 x169 x178 x183 o1:=h
     unfold Qe at h
     refine Ag rfl<|Ac rfl rfl<|Aa 0 rfl (Ba rfl rfl rfl) gn rfl<|Ah 1 rfl<|Ag rfl ?_
     by_cases hp243:x168 < (x10.length:Int)
     ·have h:=Ap hp243 h
      refine Bi rfl _ rfl ((decide_eq_true hp243))<|Bo rfl<|Ag rfl<|Bv rfl<|Ag rfl<|Ac rfl rfl<|Aa 0 rfl (Ae rfl) gn rfl<|Aa 1 rfl (Af rfl) gn rfl<|Ah 2 rfl<|Ag rfl<|Ac rfl rfl<|Aa 0 rfl (Ae rfl) gn rfl ?_
      refine Aa 1 rfl (Ae rfl) gn rfl ?_
      obtain ⟨r247,hv248,h⟩:=h
      refine Ci 2 rfl (D7 [.pointer (some ⟨gb88,0,none⟩),.int .i64 0,.int .i64 x168] rfl Tryd.func40 rfl rfl rfl fun w244 hL245=>?_) gn
      have hp246:=pmI hL245 (.c 4 rfl (.c 2 rfl (.c 3 rfl .n))) (.c 0 rfl (.c 1 rfl (.c 5 rfl (.c 6 rfl (.c 7 rfl .n))))) (by kernel_rfl)
      refine Calls.mono (Zf w244 (Fl ([Sm w.heap.size F sw175 sb176]:List Cc)) (⟨x1.nodes,x10,x169,x178⟩:Az) 0 x168 gb88 70 A2 n3 c4 A11 n12 c13 w.heap.size A170 n171 c172 cs174 w.heap.size A179 n180 c181 (Rw.mono h5 (hL245.toSt hp246 (me 2 rfl))) (Rw.mono h14 (hL245.toSt hp246 (me 2 rfl))) hL245.env.size h173 (Cells.mono (hL245.toFl (me 0 rfl) (me 0 rfl)) hC177) hL245.env.size h182 (hL245.hFl hp246 (Bf [0] rfl)) (hL245.into hp246 _) r247 hv248) ?_
      rintro _ w267 ⟨A249,n250,c251,A255,n256,c257,cs260,A262,n263,c264,rfl,hM268,h252,ht254,h258,hC261,h265⟩
      obtain ⟨sb271,hL269,hv270⟩:=hL245.callB (Sl:=([Sm w.heap.size F sw175 sb176]:List Cc)) hp246 hM268 F (Bf [0] rfl) ⟨Sm.ok,trivial⟩
      have hC261:Cells (Kd.slice (Gs .i64)) (Sm w.heap.size F w267 sb271).w (Sm w.heap.size F w267 sb271).av r247.2.of cs260:=Cells.mono hv270 hC261
      refine ⟨_,_,_,rfl,hL269,?_⟩
      refine Ci 3 rfl (G9 [.slice none 0 0] zr_36 rfl fun gb272=>?_) gn
      refine Ci 4 rfl (I9 (vs:=[.slice A249 n250 c251]) (cs':=[.slice A249 n250 c251]) (M':=[.box gb272 36 [.slice A249 n250 c251],.box gb88 70 [.slice A2 n3 c4,.slice A11 n12 c13,.slice A255 n256 c257,.slice A262 n263 c264],.own (.slice A249 n250 c251) 3 1 n250 (r247.1.flatMap (eI .i64)),.own (.slice A255 n256 c257) 36 1 n256 cs260,.own (.slice A262 n263 c264) 4 1 n263 (r247.2.known.flatMap eB),Hr Ey (w.heap.size) none x161 cs165 bs166,.own (.slice A162 n163 c164) 38 1 n163 cs165,.box gb20 9 [.string x183],.box gb18 26 [.slice A11 n12 c13],.box gb16 25 [.slice A2 n3 c4,.slice A6 n7 c8]]) 0 Zx rfl rfl rfl rfl rfl rfl rfl rfl rfl ?_) gn
      refine Ah 5 rfl<|Ag rfl<|Ag rfl<|Ac rfl rfl<|Aa 0 rfl (Au 0 Xm rfl rfl rfl) gn rfl ?_
      obtain ⟨b274,hb275⟩:∃ b,b=A249.isNone:=⟨_,rfl⟩
      have h:=h b274 ⟨nil_of hb275 (Ow.weak hL245.env.size h252).hA (Ow.weak hL245.env.size h252).hq,fun e=>by rw [hb275,ht254 e]; rfl⟩
      refine Aa 1 rfl (v_eqSL Iy rfl hb275.symm) gn rfl<|Ah 2 rfl ?_
      by_cases hp276:b274=true
      ·have h:=Ap hp276 h
       refine Bi rfl _ rfl (hp276)<|E8 [.code q17c28,.inLoop Xbb,.inBlock 0,.code Xgr] rfl rfl<|Ac rfl rfl<|Aa 0 rfl (Ba rfl rfl rfl) gn rfl<|Aa 1 rfl (Ae rfl) gn rfl<|Ah 2 rfl<|Cm<|Cj 9 rfl<|Cj 9 rfl<|Cj 9 rfl<|Cj 4 rfl<|Cj 7 rfl ?_
       refine Cj 7 rfl<|Cj 9 rfl<|Cj 9 rfl ?_
       have ih:=Out.inl hO1 h
       exact D6 [0,2,3] (ih A162 n163 c164 cs165 bs166 h167 A255 n256 c257 h258 cs260 w267 sb271 hC261 A262 n263 c264 h265) ⟨rfl,rfl,rfl,rfl,rfl,rfl,rfl,trivial⟩ (.cons_cons _ (.cons_cons _ (.cons_cons _ (.cons_cons _ (.cons_cons _ (.cons_cons _ (.cons_cons _ (.cons_cons _ (.cons _ (.cons _ (.slnil))))))))))) rfl
      ·have h:=Am hp276 h
       refine Bc rfl _ rfl ((bf hp276))<|Bo rfl<|Ag rfl<|Ac rfl rfl<|Aa 0 rfl (Xak [.pointer (some ⟨gb18,0,none⟩),.pointer (some ⟨gb272,0,none⟩),.pointer (some ⟨gb16,0,none⟩),.pointer (some ⟨gb20,0,none⟩)] rfl) gn rfl ?_
       refine Ci 1 rfl (G9 [.nilFunc] zr_72 rfl fun gb277=>?_) gn
       refine Ci 2 rfl (I9 (vs:=[.func (.func 41) #[] #[.pointer (some ⟨gb18,0,none⟩),.pointer (some ⟨gb272,0,none⟩),.pointer (some ⟨gb16,0,none⟩),.pointer (some ⟨gb20,0,none⟩)]]) (cs':=[.func (.func 41) #[] #[.pointer (some ⟨gb18,0,none⟩),.pointer (some ⟨gb272,0,none⟩),.pointer (some ⟨gb16,0,none⟩),.pointer (some ⟨gb20,0,none⟩)]]) (M':=[.box gb277 72 [.func (.func 41) #[] #[.pointer (some ⟨gb18,0,none⟩),.pointer (some ⟨gb272,0,none⟩),.pointer (some ⟨gb16,0,none⟩),.pointer (some ⟨gb20,0,none⟩)]],.box gb272 36 [.slice A249 n250 c251],.box gb88 70 [.slice A2 n3 c4,.slice A11 n12 c13,.slice A255 n256 c257,.slice A262 n263 c264],.own (.slice A249 n250 c251) 3 1 n250 (r247.1.flatMap (eI .i64)),.own (.slice A255 n256 c257) 36 1 n256 cs260,.own (.slice A262 n263 c264) 4 1 n263 (r247.2.known.flatMap eB),Hr Ey (w.heap.size) none x161 cs165 bs166,.own (.slice A162 n163 c164) 38 1 n163 cs165,.box gb20 9 [.string x183],.box gb18 26 [.slice A11 n12 c13],.box gb16 25 [.slice A2 n3 c4,.slice A6 n7 c8]]) 0 sz_72 rfl rfl rfl rfl rfl rfl rfl rfl rfl ?_) gn
       refine Ah 3 rfl<|Ag rfl<|Ac rfl rfl<|Aa 0 rfl (Bd Ik rfl) gn rfl<|Aa 1 rfl (Au 10 U8 rfl rfl rfl) gn rfl<|Aa 2 rfl (Xak [.pointer (some ⟨gb277,0,none⟩)] rfl) gn rfl ?_
       obtain ⟨r282,hv283,h⟩:=h
       refine Ci 3 rfl (D7 [.slice A6 n7 c8,.func (.func 45) #[] #[.pointer (some ⟨gb277,0,none⟩)]] rfl Tryd.func44 rfl rfl rfl fun w279 hL280=>?_) gn
       have hp281:=pmI hL280 (.c 0 rfl (.c 9 rfl (.c 1 rfl (.c 10 rfl (.c 8 rfl .n))))) (.c 2 rfl (.c 3 rfl (.c 4 rfl (.c 5 rfl (.c 6 rfl (.c 7 rfl .n)))))) (by kernel_rfl)
       refine Calls.mono (Rq w279 (Fl ([]:List Cc)) x1.conds x10 r247.1 x1 x183 A6 n7 c8 gb277 72 gb18 26 A11 n12 c13 gb272 36 A249 n250 c251 gb16 25 A2 n3 c4 A6 n7 c8 gb20 9 (Rw.mono h9 (hL280.toSt hp281 (me 3 rfl))) (Rw.mono h14 (hL280.toSt hp281 (me 3 rfl))) (hL280.argO (dk:=(Gs .i64)) hp281 [0,9,1,10,8] rfl 3 rfl rfl (Ow.weak hL245.env.size h252) (me 2 rfl) (Cells.flat _)) (Rw.mono h5 (hL280.toSt hp281 (me 3 rfl))) (Rw.mono h9 (hL280.toSt hp281 (me 3 rfl))) (hL280.hFl hp281 (Bf [] rfl)) (hL280.into hp281 _) r282 hv283) ?_
       rintro _ w284 ⟨rfl,hM285⟩
       have hL286:=hL280.call hp281 hM285
       refine ⟨_,_,_,rfl,hL286,?_⟩
       refine Aa 4 rfl (Oi rfl) gn rfl<|Ah 5 rfl ?_
       by_cases hp287:r282.1=true
       ·have h:=Ap hp287 h
        refine Bc rfl _ rfl ((nf hp287))<|Bo rfl<|Bj<|Ac rfl rfl<|Aa 0 rfl (Ba rfl rfl rfl) gn rfl<|Aa 1 rfl (Ae rfl) gn rfl<|Ah 2 rfl<|Cm<|Cj 3 rfl<|Cj 2 rfl<|Cj 4 rfl<|Cj 5 rfl ?_
        refine Cj 8 rfl<|Cj 8 rfl<|Cj 10 rfl<|Cj 10 rfl ?_
        have ih:=Out.inl hO1 h
        exact D6 [0,2,3] (ih A162 n163 c164 cs165 bs166 h167 A255 n256 c257 h258 cs260 w267 sb271 hC261 A262 n263 c264 h265) ⟨rfl,rfl,rfl,rfl,rfl,rfl,rfl,trivial⟩ (.cons_cons _ (.cons_cons _ (.cons_cons _ (.cons_cons _ (.cons_cons _ (.cons_cons _ (.cons_cons _ (.cons_cons _ (.cons _ (.cons _ (.cons _ (.slnil)))))))))))) rfl
       ·have h:=Am hp287 h
        refine Bi rfl _ rfl ((nt (bf hp287)))<|Ac rfl rfl<|Aa 0 rfl (Ae rfl) gn rfl<|Aa 1 rfl (Au 2 Xm rfl rfl rfl) gn rfl<|Aa 2 rfl (L6 #[.slice A249 n250 c251] bd_38 rfl (by kernel_rfl)) gn rfl ?_
        refine w_fam1 (z:=w.heap.size) (j:=6) Ey (⟨r247.1⟩:Be) rfl (Ow.weak hL245.env.size h252) rfl fun bs288=>?_
        refine Ci 3 rfl (Io (xs:=([(⟨r247.1⟩:Be)]:List Be)) [.slice A249 n250 c251] Xle rfl (by kernel_rfl) rfl rfl rfl rfl fun gb291 h292=>?_) gn
        obtain ⟨x297,hv298,h⟩:=h
        obtain ⟨hb299,h⟩:=h
        obtain ⟨cs300,hc301⟩:∃ x:List Value,x=cs165++[.slice A249 n250 c251]:=⟨_,rfl⟩
        refine Ci 4 rfl (Pn (zs:=x297) 11 ap_31 rfl rfl rfl h167 (Nat.le_refl _) (Src.raw 0 rfl h292 rfl rfl) hc301.symm (H9 hv298 h292.hq) hb299 rfl rfl fun A293 c294 h295=>?_) gn
        refine w_famcat (fk:=Ey) (z:=w.heap.size) (j1:=7) (j:=10) (by decide) rfl rfl hv298 hc301 fun bs296=>?_
        refine Aa 5 rfl (Af rfl) gn rfl<|Ah 6 rfl<|Bj<|Ac rfl rfl<|Aa 0 rfl (Ba rfl rfl rfl) gn rfl<|Aa 1 rfl (Ae rfl) gn rfl<|Ah 2 rfl<|Cm<|Cj 4 rfl<|Cj 3 rfl<|Cj 5 rfl<|Cj 6 rfl ?_
        refine Cj 8 rfl<|Cj 8 rfl<|Cj 10 rfl<|Cj 10 rfl ?_
        have ih:=Out.inl hO1 h
        exact D6 [0,2,3] (ih A293 (n163 + 1) c294 cs300 bs296 h295 A255 n256 c257 h258 cs260 w267 sb271 hC261 A262 n263 c264 h265) ⟨rfl,rfl,rfl,rfl,rfl,rfl,rfl,trivial⟩ (.cons_cons _ (.cons_cons _ (.cons_cons _ (.cons_cons _ (.cons_cons _ (.cons_cons _ (.cons_cons _ (.cons_cons _ (.cons _ (.cons _ (.cons _ (.slnil)))))))))))) rfl
     ·have h:=Am hp243 h
      refine Bc rfl _ rfl ((decide_eq_false hp243))<|E8 [.code Xgr] rfl rfl<|Ag rfl<|Ac rfl rfl<|Aa 0 rfl (Ae rfl) gn rfl<|Aa 1 rfl (Af rfl) gn rfl<|Ah 2 rfl ?_
      have h:=Out.inr hO1 h
      refine Bg [.slice A162 n163 c164] rfl Tryd.func17 rfl (.tmp rfl (.nil)) fun wr hLr=>?_
      have hMr:=hLr.pkI (.c 1 rfl (.c 0 rfl .n)) (.c 2 rfl (.c 3 rfl (.c 4 rfl (.c 5 rfl (.c 6 rfl (.c 7 rfl .n)))))) (by kernel_rfl) (.c 2 rfl .n)
      show Z8 w F  r (.returned (Bz [.slice A162 n163 c164])) wr
      rw [h]
      exact ⟨A162,n163,c164,cs165,bs166,rfl,hMr,h167⟩
    refine Td 38 1<|g_fam0 Ey w.heap.size<|Cj 7 rfl<|Cj 7 rfl<|Cj 7 rfl<|Cj 5 rfl<|Cj 6 rfl<|Cj 7 rfl<|Cj 7 rfl<|Cj 7 rfl ?_
    exact D6 [0,0,1] (key2 _ h none 0 0 [] [] (Ow.nil (z:=w.heap.size)) A89 n90 c91 h92 cs93 w [] hC94 A95 n96 c97 h98) ⟨rfl,rfl,rfl,rfl,rfl,rfl,rfl,trivial⟩ (.cons_cons _ (.cons_cons _ (.cons_cons _ (.cons_cons _ (.cons_cons _ (.cons_cons _ (.cons_cons _ (.cons_cons _ (.slnil))))))))) rfl
   have hns:Region.noSelect (Code.ops q17c11)=true:=by kernel_rfl
   refine J7 [] 12 rfl rfl mix rfl (.c 0 rfl (.c 1 rfl .n))<|wfv 0 rfl (Bd Ew rfl) gn hns rfl<|wfv 1 rfl (Au 2 Kr rfl rfl rfl) gn hns rfl<|wfv 2 rfl (Au 1 Zv rfl rfl rfl) gn hns rfl<|wfv 3 rfl (Au 1 Zv rfl rfl rfl) gn hns rfl<|wfv 4 rfl (D5 V3 rfl h14.hq) gn hns rfl<|wfv 6 rfl (Au 1 Zv rfl rfl rfl) gn hns rfl<|wfv 7 rfl (D5 V3 rfl h14.hq) gn hns rfl ?_
   refine Cf [5,8] (by kernel_rfl) rfl ⟨?_,?_,trivial⟩
   ·have hC315 : Cells (Kd.slice (Gs .i64)) (Sm w.heap.size F w []).w (Sm w.heap.size F w []).av x47 (x47.flatMap (fun _ : List Int => [Value.slice none 0 0])) := by rw [hv48]; exact Cells.rep (dk := (Kd.slice (Gs .i64))) ⟨none, 0, 0, rfl, Rw.nil⟩ _
    refine Ej 5 rfl gn rfl (U0 (enc:=(fun _:List Int=>[Value.slice none 0 0])) (z:=([]:List Int)) mk_67 rfl (by decide) rfl rfl hb42.1 hb42.2 (by decide) hv48 rfl fun A313 h314=>?_)
    refine ⟨Bf [1,2,3] rfl,Bf [0,1] rfl,?_⟩
    refine Cf [8] (by kernel_rfl) rfl ⟨Ej 8 rfl gn rfl (U0 (enc:=eB) (z:=false) mk_68 rfl (by decide) rfl rfl hb49.1 hb49.2 (by decide) hv54 rfl fun A318 h319=>?_),trivial⟩
    refine ⟨Bf [2,3,4] rfl,Bf [0,1] rfl,?_⟩
    refine wfv 9 rfl (L6 #[.slice A2 n3 c4,.slice A11 n12 c13,.slice A313 (((x10.length:Int):Int).toNat) (((x10.length:Int):Int).toNat),.slice A318 (((x10.length:Int):Int).toNat) (((x10.length:Int):Int).toNat)] bd_70 rfl (by kernel_rfl)) gn hns rfl ?_
    refine Cf [10] (by kernel_rfl) rfl ⟨Ej 10 rfl gn rfl (O3 [.slice A2 n3 c4,.slice A11 n12 c13,.slice A313 (((x10.length:Int):Int).toNat) (((x10.length:Int):Int).toNat),.slice A318 (((x10.length:Int):Int).toNat) (((x10.length:Int):Int).toNat)] rfl rfl rfl fun gb321=>?_),trivial⟩
    refine ⟨Bf [3,4,5] rfl,Bf [0,1] rfl,?_⟩
    refine wfv 11 rfl (Af rfl) gn hns rfl<|Et (by kernel_rfl) ?_
    exact D6 [0,1] (d1 gb321 A313 (((x10.length:Int):Int).toNat) (((x10.length:Int):Int).toNat) h314 (x47.flatMap (fun _:List Int=>[Value.slice none 0 0])) hC315 A318 (((x10.length:Int):Int).toNat) (((x10.length:Int):Int).toNat) h319) ⟨rfl,rfl,rfl,rfl,trivial⟩ (.cons_cons _ (.cons_cons _ (.cons_cons _ (.cons_cons _ (.cons_cons _ (.cons_cons _ (.slnil))))))) rfl
   ·refine Ej 8 rfl gn rfl (U0 (enc := eB) (z := false) mk_68 rfl (by decide) rfl rfl hb49.1 hb49.2 (by decide) hv54 rfl fun A322 h323 => ?_)
    refine ⟨Bf [1,2,3] rfl,Bf [0,1] rfl,?_⟩
    have hC329:Cells (Kd.slice (Gs .i64)) (Sm w.heap.size F w []).w (Sm w.heap.size F w []).av x47 (x47.flatMap (fun _:List Int=>[Value.slice none 0 0])):=by rw [hv48]; exact Cells.rep (dk:=(Kd.slice (Gs .i64))) ⟨none,0,0,rfl,Rw.nil⟩ _
    refine Cf [5] (by kernel_rfl) rfl ⟨Ej 5 rfl gn rfl (U0 (enc:=(fun _:List Int=>[Value.slice none 0 0])) (z:=([]:List Int)) mk_67 rfl (by decide) rfl rfl hb42.1 hb42.2 (by decide) hv48 rfl fun A327 h328=>?_),trivial⟩
    refine ⟨Bf [2,3,4] rfl,Bf [0,1] rfl,?_⟩
    refine wfv 9 rfl (L6 #[.slice A2 n3 c4,.slice A11 n12 c13,.slice A327 (((x10.length:Int):Int).toNat) (((x10.length:Int):Int).toNat),.slice A322 (((x10.length:Int):Int).toNat) (((x10.length:Int):Int).toNat)] bd_70 rfl (by kernel_rfl)) gn hns rfl ?_
    refine Cf [10] (by kernel_rfl) rfl ⟨Ej 10 rfl gn rfl (O3 [.slice A2 n3 c4,.slice A11 n12 c13,.slice A327 (((x10.length:Int):Int).toNat) (((x10.length:Int):Int).toNat),.slice A322 (((x10.length:Int):Int).toNat) (((x10.length:Int):Int).toNat)] rfl rfl rfl fun gb331=>?_),trivial⟩
    refine ⟨Bf [3,4,5] rfl,Bf [0,1] rfl,?_⟩
    refine wfv 11 rfl (Af rfl) gn hns rfl<|Et (by kernel_rfl)<|Cj 5 rfl<|Cj 5 rfl<|Cj 5 rfl<|Cj 4 rfl<|Cj 5 rfl<|Cj 5 rfl ?_
    exact D6 [0,1] (d1 gb331 A327 (((x10.length:Int):Int).toNat) (((x10.length:Int):Int).toNat) h328 (x47.flatMap (fun _:List Int=>[Value.slice none 0 0])) hC329 A322 (((x10.length:Int):Int).toNat) (((x10.length:Int):Int).toNat) h323) ⟨rfl,rfl,rfl,rfl,trivial⟩ (.cons_cons _ (.cons_cons _ (.cons_cons _ (.cons_cons _ (.cons_cons _ (.cons_cons _ (.slnil))))))) rfl
 refine Ac rfl rfl<|Aa 0 rfl (Ji [.slice A2 n3 c4,.slice A6 n7 c8] 2 O5 rfl rfl rfl rfl) gn rfl ?_
 obtain ⟨r335,hv336,h⟩:=h
 refine Ci 1 rfl (D7 [.agg #[.slice A2 n3 c4,.slice A6 n7 c8]] rfl Tryd.func24 rfl rfl rfl fun w332 hL333=>?_) gn
 have hp334:=pmI hL333 .n (.c 0 rfl (.c 1 rfl (.c 2 rfl .n))) (by kernel_rfl)
 refine Calls.mono (Xcf w332 (Fl ([]:List Cc)) x1 A2 n3 c4 A6 n7 c8 (Rw.mono h5 (hL333.toSt hp334 (me 1 rfl))) (Rw.mono h9 (hL333.toSt hp334 (me 1 rfl))) (hL333.tb hp334 hG (me 1 rfl)) (hL333.hFl hp334 (Bf [] rfl)) (hL333.into hp334 _) r335 hv336) ?_
 rintro _ w337 ⟨rfl,hM338⟩
 have hL339:=hL333.call hp334 hM338
 refine ⟨_,_,_,rfl,hL339,?_⟩
 refine Aa 2 rfl (Oi rfl) gn rfl<|Aa 3 rfl (Ae rfl) gn rfl ?_
 by_cases hp340:r335=true
 ·have h:=Ap hp340 h
  refine Bh 15 rfl ((nf hp340))<|Aa 4 rfl (Au 1 Zv rfl rfl rfl) (gy 15 rfl rfl) rfl ?_
  obtain ⟨r344,hv345,h⟩:=h
  refine Ci 5 rfl (D7 [.slice A11 n12 c13] rfl Tryd.func30 rfl rfl rfl fun w341 hL342=>?_) (gy 15 rfl rfl)
  have hp343:=pmI hL342 .n (.c 0 rfl (.c 1 rfl (.c 2 rfl .n))) (by kernel_rfl)
  refine Calls.mono (Xec w341 (Fl ([]:List Cc)) x10 A11 n12 c13 (Rw.mono h14 (hL342.toSt hp343 (me 1 rfl))) (hL342.hFl hp343 (Bf [] rfl)) (hL342.into hp343 _) r344 hv345) ?_
  rintro _ w346 ⟨rfl,hM347⟩
  have hL348:=hL342.call hp343 hM347
  refine ⟨_,_,_,rfl,hL348,?_⟩
  refine Aa 6 rfl (Ba rfl rfl rfl) (gy 15 rfl rfl) rfl<|Aa 7 rfl (Aw (b:=false) rfl rfl) gn rfl<|Ah 8 rfl ?_
  exact D6 [0,1] (j1 (decide (r344 < 0)) h) ⟨rfl,rfl,rfl,rfl,trivial⟩ (.cons_cons _ (.cons_cons _ (.cons_cons _ (.slnil)))) rfl
 ·have h:=Am hp340 h
  refine Bh 15 rfl ((nt (bf hp340)))<|Ad 4 rfl (ps 15 rfl rfl rfl)<|Ad 5 rfl (ps 15 rfl rfl rfl)<|Ad 6 rfl (ps 15 rfl rfl rfl)<|Aa 7 rfl (Aw (b:=true) rfl rfl) gn rfl<|Ah 8 rfl ?_
  exact D6 [0,1] (j1 true h) ⟨rfl,rfl,rfl,rfl,trivial⟩ (.cons_cons _ (.cons_cons _ (.cons_cons _ (.slnil)))) rfl
noncomputable abbrev Xhp:=Code.snd (Code.snd (Code.snd (Df Tryd.f36)))
noncomputable abbrev Xco:=Code.fst (Code.fst (Code.snd (Code.fst (Code.snd (Code.snd (Df Tryd.f36))))))
noncomputable abbrev q36c24:=Code.fst (Code.fst (Code.fst (Code.snd Xco)))
abbrev Jm (w:World) (F:Nat→Prop) (r:Bool):Ending→World→Prop:=fun e w'=>e=.returned (.bool r)∧B.Loc w w' [] [St w []]
noncomputable abbrev Ny (w:World) (F:Nat→Prop) (r:Bool):Cx:=⟨Tryd.prog,36,Tryd.f36,26,Jm w F  r,w⟩
theorem Y8 (w:World) (F:Nat→Prop) (x1:List Int) (x6:List Int) (A2:Option Addr) (n3:Nat) (c4:Nat) (A7:Option Addr) (n8:Nat) (c9:Nat) (h5:Rw (Gs .i64) w (St w []).av A2 n3 c4 x1) (h10:Rw (Gs .i64) w (St w []).av A7 n8 c9 x6) (hF:∀ b,F b→b < w.heap.size∧∀ o ∈ ([]:List (List Nat)),b ∉ o) (hL0:B.Loc w w [] [Sm w.heap.size F w [],St w []]) (r:Bool) (h:L9 x1 x6 r):Calls Tryd.prog 36 #[.slice A2 n3 c4,.slice A7 n8 c9] w (Jm w F  r):=by
 unfold L9 at h
 refine Bl (vs:=[.slice A2 n3 c4,.slice A7 n8 c9]) 26 Tryd.func36 rfl Tryd.ntmps36 rfl hL0 ?_
 show G (Ny w F r) _ _ _ _
 refine Ag rfl<|Ac rfl rfl<|Aa 0 rfl (Af rfl) gn rfl<|Ah 1 rfl<|Ag rfl<|Ag rfl<|Ac rfl rfl<|Aa 0 rfl (Ae rfl) gn rfl<|Aa 1 rfl (D5 Iy rfl h5.hq) gn rfl<|Aa 2 rfl (Ae rfl) gn rfl<|Aa 3 rfl (D5 Iy rfl h10.hq) gn rfl<|Aa 4 rfl (Ba rfl rfl rfl) gn rfl ?_
 refine Ah 5 rfl ?_
 by_cases hp11:(x1.length:Int)=(x6.length:Int)
 ·have h:=Ap hp11 h
  refine Bc rfl _ rfl ((eqib hp11))<|Bo rfl<|Ag rfl<|Ag rfl<|Ac rfl rfl<|Aa 0 rfl (Af rfl) gn rfl<|Ah 1 rfl<|Bv rfl<|Ei rfl ?_
  have key1:∀ s,Ar (fun (s:Int) o=>Hw x1 x6 s o) s r→(fun (s:Int)=>∀ (_:Unit),G (Ny w F r) [.code Xco,.inLoop Xco,.inBlock 0,.code Xhp] [(0,.slice A2 n3 c4),(1,.slice A7 n8 c9),(5,.int .i64 s)] [] [Sm w.heap.size F w [],St w []]) s:=by
   intro s hs
   refine Ar.ind (mot:=(fun (s:Int)=>∀ (_:Unit),G (Ny w F r) [.code Xco,.inLoop Xco,.inBlock 0,.code Xhp] [(0,.slice A2 n3 c4),(1,.slice A7 n8 c9),(5,.int .i64 s)] [] [Sm w.heap.size F w [],St w []])) ?_ hs
   clear hs s
   intro x23 o1 h hO1
   show ∀ (_:Unit),G (Ny w F r) [.code Xco,.inLoop Xco,.inBlock 0,.code Xhp] [(0,.slice A2 n3 c4),(1,.slice A7 n8 c9),(5,.int .i64 x23)] [] [Sm w.heap.size F w [],St w []]
   intro _
   have h:Hw x1 x6 x23 o1:=h
   unfold Hw at h
   refine Ag rfl<|Ag rfl<|Ac rfl rfl<|Aa 0 rfl (Ae rfl) gn rfl<|Aa 1 rfl (Ae rfl) gn rfl<|Aa 2 rfl (D5 Iy rfl h5.hq) gn rfl<|Aa 3 rfl (Ba rfl rfl rfl) gn rfl<|Ah 4 rfl ?_
   by_cases hp34:x23 < (x1.length:Int)
   ·have h:=Ap hp34 h
    refine Bi rfl _ rfl ((decide_eq_true hp34))<|Bo rfl<|Ag rfl<|Bv rfl<|Ag rfl ?_
    obtain ⟨hb35,h⟩:=h
    obtain ⟨hb37,h⟩:=h
    have hns:Region.noSelect (Code.ops q36c24)=true:=by kernel_rfl
    refine J7 [] 9 rfl rfl mix rfl (.c 0 rfl (.c 1 rfl .n))<|wfv 0 rfl (Ae rfl) gn hns rfl<|wfv 1 rfl (Ae rfl) gn hns rfl ?_
    have hr41:=Rw.readF (s:=St w []) (hl:=(hlI .i64)) (h1:=(F9 .i64)) h5 hb35
    refine wfv 2 rfl (Ef (s:=St w []) Jb rfl rfl h5 hb35) gn hns rfl<|wfv 3 rfl (Le (kk:=(x23:Int).toNat * 1) (j:=0) (St w []) O9 rfl hr41 rfl (me 1 rfl)) gn hns rfl<|wfv 4 rfl (Ae rfl) gn hns rfl<|wfv 5 rfl (Ae rfl) gn hns rfl ?_
    have hr42:=Rw.readF (s:=St w []) (hl:=(hlI .i64)) (h1:=(F9 .i64)) h10 hb37
    refine wfv 6 rfl (Ef (s:=St w []) Jb rfl rfl h10 hb37) gn hns rfl<|wfv 7 rfl (Le (kk:=(x23:Int).toNat * 1) (j:=0) (St w []) O9 rfl hr42 rfl (me 1 rfl)) gn hns rfl<|wfv 8 rfl (Ba rfl rfl rfl) gn hns rfl<|Et (by kernel_rfl) ?_
    by_cases hp43:ix x1 x23=ix x6 x23
    ·have h:=Ap hp43 h
     refine Bc rfl _ rfl ((eqib hp43))<|Bo rfl<|Bj<|Ac rfl rfl<|Aa 0 rfl (Ae rfl) gn rfl<|Aa 1 rfl (Ba rfl rfl rfl) gn rfl<|Aa 2 rfl (Af rfl) gn rfl<|Ah 3 rfl<|Cm ?_
     have ih:=Out.inl hO1 h
     exact D6 [0,1] (ih ()) ⟨rfl,rfl,rfl,trivial⟩ (.slnil) rfl
    ·have h:=Am hp43 h
     refine Bi rfl _ rfl ((neib hp43))<|Ag rfl<|Ac rfl rfl<|Aa 0 rfl (Af rfl) gn rfl<|Ah 1 rfl ?_
     have h:=Out.inr hO1 h
     refine Bg [.bool false] rfl Tryd.func36 rfl (.tmp rfl (.nil)) fun wr hLr=>?_
     have hMr:=hLr.pk0 (.c 1 rfl .n)
     show Jm w F  r (.returned (Bz [.bool false])) wr
     rw [h]
     exact ⟨rfl,hMr⟩
   ·have h:=Am hp34 h
    refine Bc rfl _ rfl ((decide_eq_false hp34))<|E8 [.code Xhp] rfl rfl<|Ag rfl<|Ac rfl rfl<|Aa 0 rfl (Af rfl) gn rfl<|Ah 1 rfl ?_
    have h:=Out.inr hO1 h
    refine Bg [.bool true] rfl Tryd.func36 rfl (.tmp rfl (.nil)) fun wr hLr=>?_
    have hMr:=hLr.pk0 (.c 1 rfl .n)
    show Jm w F  r (.returned (Bz [.bool true])) wr
    rw [h]
    exact ⟨rfl,hMr⟩
  exact D6 [0,1] (key1 _ h ()) ⟨rfl,rfl,rfl,trivial⟩ (.slnil) rfl
 ·have h:=Am hp11 h
  refine Bi rfl _ rfl ((neib hp11))<|Ag rfl<|Ac rfl rfl<|Aa 0 rfl (Af rfl) gn rfl<|Ah 1 rfl ?_
  refine Bg [.bool false] rfl Tryd.func36 rfl (.tmp rfl (.nil)) fun wr hLr=>?_
  have hMr:=hLr.pk0 (.c 1 rfl .n)
  show Jm w F  r (.returned (Bz [.bool false])) wr
  rw [h]
  exact ⟨rfl,hMr⟩
noncomputable abbrev Xhs:=Code.snd (Code.snd (Code.snd (Df Tryd.f18)))
noncomputable abbrev Xcp:=Code.fst (Code.fst (Code.snd (Code.fst (Code.snd (Code.snd (Df Tryd.f18))))))
noncomputable abbrev q18c24:=Code.fst (Code.fst (Code.fst (Code.snd Xcp)))
abbrev Jc (w:World) (F:Nat→Prop) (r:Bool):Ending→World→Prop:=fun e w'=>e=.returned (.bool r)∧B.Loc w w' [] [St w []]
noncomputable abbrev Ll (w:World) (F:Nat→Prop) (r:Bool):Cx:=⟨Tryd.prog,18,Tryd.f18,29,Jc w F  r,w⟩
theorem Jg (w:World) (F:Nat→Prop) (x1:List Be) (x6:List Be) (A2:Option Addr) (n3:Nat) (c4:Nat) (A7:Option Addr) (n8:Nat) (c9:Nat) (h5:Rw F6 w (St w []).av A2 n3 c4 x1) (h10:Rw F6 w (St w []).av A7 n8 c9 x6) (hF:∀ b,F b→b < w.heap.size∧∀ o ∈ ([]:List (List Nat)),b ∉ o) (hL0:B.Loc w w [] [Sm w.heap.size F w [],St w []]) (r:Bool) (h:Eh x1 x6 r):Calls Tryd.prog 18 #[.slice A2 n3 c4,.slice A7 n8 c9] w (Jc w F  r):=by
 unfold Eh at h
 refine Bl (vs:=[.slice A2 n3 c4,.slice A7 n8 c9]) 29 Tryd.func18 rfl Tryd.ntmps18 rfl hL0 ?_
 show G (Ll w F r) _ _ _ _
 refine Ag rfl<|Ac rfl rfl<|Aa 0 rfl (Af rfl) gn rfl<|Ah 1 rfl<|Ag rfl<|Ag rfl<|Ac rfl rfl<|Aa 0 rfl (Ae rfl) gn rfl<|Aa 1 rfl (D5 Xh0 rfl h5.hq) gn rfl<|Aa 2 rfl (Ae rfl) gn rfl<|Aa 3 rfl (D5 Xh0 rfl h10.hq) gn rfl<|Aa 4 rfl (Ba rfl rfl rfl) gn rfl ?_
 refine Ah 5 rfl ?_
 by_cases hp11:(x1.length:Int)=(x6.length:Int)
 ·have h:=Ap hp11 h
  refine Bc rfl _ rfl ((eqib hp11))<|Bo rfl<|Ag rfl<|Ag rfl<|Ac rfl rfl<|Aa 0 rfl (Af rfl) gn rfl<|Ah 1 rfl<|Bv rfl<|Ei rfl ?_
  have key1:∀ s,Ar (fun (s:Int) o=>Hg x1 x6 s o) s r→(fun (s:Int)=>∀ (_:Unit),G (Ll w F r) [.code Xcp,.inLoop Xcp,.inBlock 0,.code Xhs] [(0,.slice A2 n3 c4),(1,.slice A7 n8 c9),(5,.int .i64 s)] [] [Sm w.heap.size F w [],St w []]) s:=by
   intro s hs
   refine Ar.ind (mot:=(fun (s:Int)=>∀ (_:Unit),G (Ll w F r) [.code Xcp,.inLoop Xcp,.inBlock 0,.code Xhs] [(0,.slice A2 n3 c4),(1,.slice A7 n8 c9),(5,.int .i64 s)] [] [Sm w.heap.size F w [],St w []])) ?_ hs
   clear hs s
   intro x91 o1 h hO1
   show ∀ (_:Unit),G (Ll w F r) [.code Xcp,.inLoop Xcp,.inBlock 0,.code Xhs] [(0,.slice A2 n3 c4),(1,.slice A7 n8 c9),(5,.int .i64 x91)] [] [Sm w.heap.size F w [],St w []]
   intro _
   have h:Hg x1 x6 x91 o1:=h
   unfold Hg at h
   refine Ag rfl<|Ag rfl<|Ac rfl rfl<|Aa 0 rfl (Ae rfl) gn rfl<|Aa 1 rfl (Ae rfl) gn rfl<|Aa 2 rfl (D5 Xh0 rfl h5.hq) gn rfl<|Aa 3 rfl (Ba rfl rfl rfl) gn rfl<|Ah 4 rfl ?_
   by_cases hp170:x91 < (x1.length:Int)
   ·have h:=Ap hp170 h
    refine Bi rfl _ rfl ((decide_eq_true hp170))<|Bo rfl<|Ag rfl<|Bv rfl<|Ag rfl ?_
    obtain ⟨hb171,h⟩:=h
    obtain ⟨hb179,h⟩:=h
    obtain ⟨r190,hv191,h⟩:=h
    have hns:Region.noSelect (Code.ops q18c24)=true:=by kernel_rfl
    refine J7 [] 12 rfl rfl mix rfl (.c 0 rfl (.c 1 rfl .n))<|wfv 0 rfl (Ae rfl) gn hns rfl<|wfv 1 rfl (Ae rfl) gn hns rfl ?_
    obtain ⟨ce222,hK223,hr221⟩:=Rw.read (s:=St w []) h5 hb171
    obtain ⟨A224,n225,c226,rfl,h227⟩:=hK223
    refine wfv 2 rfl (Ef (s:=St w []) Xci rfl rfl h5 hb171) gn hns rfl<|wfv 3 rfl (Jq Xam rfl) gn hns rfl<|wfv 4 rfl (Le (kk:=(x91:Int).toNat * 1) (j:=0) (St w []) Xm rfl hr221 rfl (me 1 rfl)) gn hns rfl<|wfv 5 rfl (Ae rfl) gn hns rfl<|wfv 6 rfl (Ae rfl) gn hns rfl ?_
    obtain ⟨ce229,hK230,hr228⟩:=Rw.read (s:=St w []) h10 hb179
    obtain ⟨A231,n232,c233,rfl,h234⟩:=hK230
    refine wfv 7 rfl (Ef (s:=St w []) Xci rfl rfl h10 hb179) gn hns rfl<|wfv 8 rfl (Jq Xam rfl) gn hns rfl<|wfv 9 rfl (Le (kk:=(x91:Int).toNat * 1) (j:=0) (St w []) Xm rfl hr228 rfl (me 1 rfl)) gn hns rfl ?_
    refine Cf [10] (by kernel_rfl) rfl ⟨Ej 10 rfl gn rfl (D7 [.slice A224 n225 c226,.slice A231 n232 c233] rfl Tryd.func36 rfl rfl rfl fun w241 hL242=>?_),trivial⟩
    have hp243:=pmI hL242 .n .n (by kernel_rfl)
    refine Calls.mono (Y8 w241 (Fl ([]:List Cc)) ((ix x1 x91).nodes) ((ix x6 x91).nodes) A224 n225 c226 A231 n232 c233 (Rw.mono h227 (hL242.toSt hp243 (me 1 rfl))) (Rw.mono h234 (hL242.toSt hp243 (me 1 rfl))) (hL242.hFl hp243 (Bf [] rfl)) (hL242.into hp243 _) r190 hv191) ?_
    rintro _ w244 ⟨rfl,hM245⟩
    have hL246:=hL242.call hp243 hM245
    refine ⟨_,_,_,rfl,hL246,?_⟩
    refine ⟨Bf [] rfl,Bf [0,1] rfl,?_⟩
    refine wfv 11 rfl (Oi rfl) gn hns rfl<|Et (by kernel_rfl) ?_
    by_cases hp247:r190=true
    ·have h:=Ap hp247 h
     refine Bc rfl _ rfl ((nf hp247))<|Bo rfl<|Bj<|Ac rfl rfl<|Aa 0 rfl (Ae rfl) gn rfl<|Aa 1 rfl (Ba rfl rfl rfl) gn rfl<|Aa 2 rfl (Af rfl) gn rfl<|Ah 3 rfl<|Cm ?_
     have ih:=Out.inl hO1 h
     exact D6 [0,1] (ih ()) ⟨rfl,rfl,rfl,trivial⟩ (.slnil) rfl
    ·have h:=Am hp247 h
     refine Bi rfl _ rfl ((nt (bf hp247)))<|Ag rfl<|Ac rfl rfl<|Aa 0 rfl (Af rfl) gn rfl<|Ah 1 rfl ?_
     have h:=Out.inr hO1 h
     refine Bg [.bool false] rfl Tryd.func18 rfl (.tmp rfl (.nil)) fun wr hLr=>?_
     have hMr:=hLr.pk0 (.c 1 rfl .n)
     show Jc w F  r (.returned (Bz [.bool false])) wr
     rw [h]
     exact ⟨rfl,hMr⟩
   ·have h:=Am hp170 h
    refine Bc rfl _ rfl ((decide_eq_false hp170))<|E8 [.code Xhs] rfl rfl<|Ag rfl<|Ac rfl rfl<|Aa 0 rfl (Af rfl) gn rfl<|Ah 1 rfl ?_
    have h:=Out.inr hO1 h
    refine Bg [.bool true] rfl Tryd.func18 rfl (.tmp rfl (.nil)) fun wr hLr=>?_
    have hMr:=hLr.pk0 (.c 1 rfl .n)
    show Jc w F  r (.returned (Bz [.bool true])) wr
    rw [h]
    exact ⟨rfl,hMr⟩
  exact D6 [0,1] (key1 _ h ()) ⟨rfl,rfl,rfl,trivial⟩ (.slnil) rfl
 ·have h:=Am hp11 h
  refine Bi rfl _ rfl ((neib hp11))<|Ag rfl<|Ac rfl rfl<|Aa 0 rfl (Af rfl) gn rfl<|Ah 1 rfl ?_
  refine Bg [.bool false] rfl Tryd.func18 rfl (.tmp rfl (.nil)) fun wr hLr=>?_
  have hMr:=hLr.pk0 (.c 1 rfl .n)
  show Jc w F  r (.returned (Bz [.bool false])) wr
  rw [h]
  exact ⟨rfl,hMr⟩
noncomputable abbrev q29c4:=Code.snd (Code.snd (Df Tryd.f29))
noncomputable abbrev q29c6:=Code.snd (Code.fst (Code.snd (Df Tryd.f29)))
noncomputable abbrev Xea:=Code.snd q29c4
noncomputable abbrev Xcx:=Code.fst (Code.fst (Code.snd (Code.fst q29c4)))
noncomputable abbrev q29c26:=Code.fst (Code.fst (Code.fst (Code.snd Xcx)))
noncomputable abbrev Xi7:=Code.snd Xea
noncomputable abbrev Xcq:=Code.fst (Code.fst (Code.snd (Code.fst Xea)))
noncomputable abbrev q29c47:=Code.fst (Code.fst (Code.fst (Code.snd Xcq)))
abbrev Kt (w:World) (F:Nat→Prop) (r:Bool):Ending→World→Prop:=fun e w'=>e=.returned (.bool r)∧B.Loc w w' [] [St w []]
noncomputable abbrev Hy (w:World) (F:Nat→Prop) (r:Bool):Cx:=⟨Tryd.prog,29,Tryd.f29,59,Kt w F  r,w⟩
theorem Xa8 (w:World) (F:Nat→Prop) (x1:Aq) (x10:Aq) (A2:Option Addr) (n3:Nat) (c4:Nat) (A6:Option Addr) (n7:Nat) (c8:Nat) (A11:Option Addr) (n12:Nat) (c13:Nat) (A15:Option Addr) (n16:Nat) (c17:Nat) (h5:Rw Cb w (St w []).av A2 n3 c4 x1.nodes) (h9:Rw Dq w (St w []).av A6 n7 c8 x1.conds) (h14:Rw Cb w (St w []).av A11 n12 c13 x10.nodes) (h18:Rw Dq w (St w []).av A15 n16 c17 x10.conds) (hF:∀ b,F b→b < w.heap.size∧∀ o ∈ ([]:List (List Nat)),b ∉ o) (hL0:B.Loc w w [] [Sm w.heap.size F w [],St w []]) (r:Bool) (h:Qj x1 x10 r):Calls Tryd.prog 29 #[.agg #[.slice A2 n3 c4,.slice A6 n7 c8],.agg #[.slice A11 n12 c13,.slice A15 n16 c17]] w (Kt w F  r):=by
 unfold Qj at h
 refine Bl (vs:=[.agg #[.slice A2 n3 c4,.slice A6 n7 c8],.agg #[.slice A11 n12 c13,.slice A15 n16 c17]]) 59 Tryd.func29 rfl Tryd.ntmps29 rfl hL0 ?_
 show G (Hy w F r) _ _ _ _
 refine Ag rfl<|Ac rfl rfl ?_
 refine Ci 0 rfl (O3 [.slice A2 n3 c4,.slice A6 n7 c8] rfl rfl rfl fun gb19=>?_) gn
 refine Ci 1 rfl (O3 [.slice A11 n12 c13,.slice A15 n16 c17] rfl rfl rfl fun gb21=>?_) gn
 refine Aa 2 rfl (Af rfl) gn rfl<|Ah 3 rfl<|Ag rfl<|Ag rfl ?_
 have j1:∀ (x25:Bool) (h:Nj x1 x10 x25 r) ,G (Hy w F r) [.code q29c6,.code q29c4] [(2,.pointer (some ⟨gb19,0,none⟩)),(3,.pointer (some ⟨gb21,0,none⟩)),(22,.bool x25)] [.box gb21 25 [.slice A11 n12 c13,.slice A15 n16 c17],.box gb19 25 [.slice A2 n3 c4,.slice A6 n7 c8]] [Sm w.heap.size F w [],St w []]:=by
  intro x25 h
  unfold Nj at h
  by_cases hp26:x25=true
  ·have h:=Ap hp26 h
   refine Bi rfl _ rfl (hp26)<|Ag rfl<|Ac rfl rfl<|Aa 0 rfl (Af rfl) gn rfl<|Ah 1 rfl ?_
   refine Bg [.bool false] rfl Tryd.func29 rfl (.tmp rfl (.nil)) fun wr hLr=>?_
   have hMr:=hLr.pk0 (.c 1 rfl .n)
   show Kt w F  r (.returned (Bz [.bool false])) wr
   rw [h]
   exact ⟨rfl,hMr⟩
  ·have h:=Am hp26 h
   refine Bc rfl _ rfl ((bf hp26))<|Bo rfl<|Ag rfl<|Ag rfl<|Ac rfl rfl<|Aa 0 rfl (Af rfl) gn rfl<|Ah 1 rfl<|Bv rfl<|Ei rfl ?_
   have key2:∀ s,Ar (fun (s:Int) o=>Me x1 x10 s o) s r→(fun (s:Int)=>∀ (_:Unit),G (Hy w F r) [.code Xcx,.inLoop Xcx,.inBlock 0,.code Xea] [(2,.pointer (some ⟨gb19,0,none⟩)),(3,.pointer (some ⟨gb21,0,none⟩)),(5,.int .i64 s)] [.box gb21 25 [.slice A11 n12 c13,.slice A15 n16 c17],.box gb19 25 [.slice A2 n3 c4,.slice A6 n7 c8]] [Sm w.heap.size F w [],St w []]) s:=by
    intro s hs
    refine Ar.ind (mot:=(fun (s:Int)=>∀ (_:Unit),G (Hy w F r) [.code Xcx,.inLoop Xcx,.inBlock 0,.code Xea] [(2,.pointer (some ⟨gb19,0,none⟩)),(3,.pointer (some ⟨gb21,0,none⟩)),(5,.int .i64 s)] [.box gb21 25 [.slice A11 n12 c13,.slice A15 n16 c17],.box gb19 25 [.slice A2 n3 c4,.slice A6 n7 c8]] [Sm w.heap.size F w [],St w []])) ?_ hs
    clear hs s
    intro x70 o1 h hO1
    show ∀ (_:Unit),G (Hy w F r) [.code Xcx,.inLoop Xcx,.inBlock 0,.code Xea] [(2,.pointer (some ⟨gb19,0,none⟩)),(3,.pointer (some ⟨gb21,0,none⟩)),(5,.int .i64 x70)] [.box gb21 25 [.slice A11 n12 c13,.slice A15 n16 c17],.box gb19 25 [.slice A2 n3 c4,.slice A6 n7 c8]] [Sm w.heap.size F w [],St w []]
    intro _
    have h:Me x1 x10 x70 o1:=h
    unfold Me at h
    refine Ag rfl<|Ag rfl<|Ac rfl rfl<|Aa 0 rfl (Ae rfl) gn rfl<|Aa 1 rfl (Bd Ew rfl) gn rfl<|Aa 2 rfl (Au 1 Kr rfl rfl rfl) gn rfl<|Aa 3 rfl (D5 Tm rfl h5.hq) gn rfl<|Aa 4 rfl (Ba rfl rfl rfl) gn rfl<|Ah 5 rfl ?_
    by_cases hp113:x70 < (x1.nodes.length:Int)
    ·have h:=Ap hp113 h
     refine Bi rfl _ rfl ((decide_eq_true hp113))<|Bo rfl<|Ag rfl<|Bv rfl<|Ag rfl ?_
     obtain ⟨hb114,h⟩:=h
     obtain ⟨hb116,h⟩:=h
     have hns:Region.noSelect (Code.ops q29c26)=true:=by kernel_rfl
     refine J7 [] 11 rfl rfl mix rfl (.c 0 rfl (.c 1 rfl .n))<|wfv 0 rfl (Bd Ew rfl) gn hns rfl<|wfv 1 rfl (Au 1 Kr rfl rfl rfl) gn hns rfl<|wfv 2 rfl (Ae rfl) gn hns rfl ?_
     have hr120:=Rw.readF (s:=St w []) (hl:=Dp) (h1:=Du) h5 hb114
     refine wfv 3 rfl (Ef (s:=St w []) Oq rfl rfl h5 hb114) gn hns rfl<|wfv 4 rfl (Q8 (St w []) Xc5 rfl hr120 rfl (me 1 rfl)) gn hns rfl<|wfv 5 rfl (Bd Ew rfl) gn hns rfl<|wfv 6 rfl (Au 0 Kr rfl rfl rfl) gn hns rfl<|wfv 7 rfl (Ae rfl) gn hns rfl ?_
     have hr121:=Rw.readF (s:=St w []) (hl:=Dp) (h1:=Du) h14 hb116
     refine wfv 8 rfl (Ef (s:=St w []) Oq rfl rfl h14 hb116) gn hns rfl<|wfv 9 rfl (Q8 (St w []) Xc5 rfl hr121 rfl (me 1 rfl)) gn hns rfl<|wfv 10 rfl (Xej eq_45 rfl rfl (Xav (ix x1.nodes x70) (ix x10.nodes x70))) gn hns rfl<|Et (by kernel_rfl) ?_
     by_cases hp122:ix x1.nodes x70=ix x10.nodes x70
     ·have h:=Ap hp122 h
      refine Bc rfl _ rfl ((nf (decide_eq_true hp122)))<|Bo rfl<|Bj<|Ac rfl rfl<|Aa 0 rfl (Ae rfl) gn rfl<|Aa 1 rfl (Ba rfl rfl rfl) gn rfl<|Aa 2 rfl (Af rfl) gn rfl<|Ah 3 rfl<|Cm ?_
      have ih:=Out.inl hO1 h
      exact D6 [0,1] (ih ()) ⟨rfl,rfl,rfl,trivial⟩ (.cons_cons _ (.cons_cons _ (.slnil))) rfl
     ·have h:=Am hp122 h
      refine Bi rfl _ rfl ((nt (decide_eq_false hp122)))<|Ag rfl<|Ac rfl rfl<|Aa 0 rfl (Af rfl) gn rfl<|Ah 1 rfl ?_
      have h:=Out.inr hO1 h
      refine Bg [.bool false] rfl Tryd.func29 rfl (.tmp rfl (.nil)) fun wr hLr=>?_
      have hMr:=hLr.pk0 (.c 1 rfl .n)
      show Kt w F  r (.returned (Bz [.bool false])) wr
      rw [h]
      exact ⟨rfl,hMr⟩
    ·have h:=Am hp113 h
     refine Bc rfl _ rfl ((decide_eq_false hp113))<|E8 [.code Xea] rfl rfl<|Ag rfl<|Ag rfl<|Ac rfl rfl<|Aa 0 rfl (Af rfl) gn rfl<|Ah 1 rfl<|Bv rfl<|Ei rfl ?_
     have key3:∀ s,Ar (fun (s:Int) o=>Mc x1 x10 s o) s o1→(fun (s:Int)=>∀ (_:Unit),G (Hy w F r) [.code Xcq,.inLoop Xcq,.inBlock 2,.code Xi7] [(2,.pointer (some ⟨gb19,0,none⟩)),(3,.pointer (some ⟨gb21,0,none⟩)),(6,.int .i64 s)] [.box gb21 25 [.slice A11 n12 c13,.slice A15 n16 c17],.box gb19 25 [.slice A2 n3 c4,.slice A6 n7 c8]] [Sm w.heap.size F w [],St w []]) s:=by
      intro s hs
      refine Ar.ind (mot:=(fun (s:Int)=>∀ (_:Unit),G (Hy w F r) [.code Xcq,.inLoop Xcq,.inBlock 2,.code Xi7] [(2,.pointer (some ⟨gb19,0,none⟩)),(3,.pointer (some ⟨gb21,0,none⟩)),(6,.int .i64 s)] [.box gb21 25 [.slice A11 n12 c13,.slice A15 n16 c17],.box gb19 25 [.slice A2 n3 c4,.slice A6 n7 c8]] [Sm w.heap.size F w [],St w []])) ?_ hs
      clear hs s
      intro x134 o2 h hO2
      show ∀ (_:Unit),G (Hy w F r) [.code Xcq,.inLoop Xcq,.inBlock 2,.code Xi7] [(2,.pointer (some ⟨gb19,0,none⟩)),(3,.pointer (some ⟨gb21,0,none⟩)),(6,.int .i64 x134)] [.box gb21 25 [.slice A11 n12 c13,.slice A15 n16 c17],.box gb19 25 [.slice A2 n3 c4,.slice A6 n7 c8]] [Sm w.heap.size F w [],St w []]
      intro _
      have h:Mc x1 x10 x134 o2:=h
      unfold Mc at h
      refine Ag rfl<|Ag rfl<|Ac rfl rfl<|Aa 0 rfl (Ae rfl) gn rfl<|Aa 1 rfl (Bd Ik rfl) gn rfl<|Aa 2 rfl (Au 1 U8 rfl rfl rfl) gn rfl<|Aa 3 rfl (D5 Yu rfl h9.hq) gn rfl<|Aa 4 rfl (Ba rfl rfl rfl) gn rfl<|Ah 5 rfl ?_
      by_cases hp145:x134 < (x1.conds.length:Int)
      ·have h:=Ap hp145 h
       refine Bi rfl _ rfl ((decide_eq_true hp145))<|Bo rfl<|Ag rfl<|Bv rfl<|Ag rfl ?_
       obtain ⟨hb146,h⟩:=h
       obtain ⟨hb148,h⟩:=h
       have hns:Region.noSelect (Code.ops q29c47)=true:=by kernel_rfl
       refine J7 [] 11 rfl rfl mix rfl (.c 0 rfl (.c 1 rfl .n))<|wfv 0 rfl (Bd Ik rfl) gn hns rfl<|wfv 1 rfl (Au 1 U8 rfl rfl rfl) gn hns rfl<|wfv 2 rfl (Ae rfl) gn hns rfl ?_
       have hr152:=Rw.readF (s:=St w []) (hl:=Nh) (h1:=Nc) h9 hb146
       refine wfv 3 rfl (Ef (s:=St w []) Zl rfl rfl h9 hb146) gn hns rfl<|wfv 4 rfl (Q8 (St w []) Xf3 rfl hr152 rfl (me 1 rfl)) gn hns rfl<|wfv 5 rfl (Bd Ik rfl) gn hns rfl<|wfv 6 rfl (Au 0 U8 rfl rfl rfl) gn hns rfl<|wfv 7 rfl (Ae rfl) gn hns rfl ?_
       have hr153:=Rw.readF (s:=St w []) (hl:=Nh) (h1:=Nc) h18 hb148
       refine wfv 8 rfl (Ef (s:=St w []) Zl rfl rfl h18 hb148) gn hns rfl<|wfv 9 rfl (Q8 (St w []) Xf3 rfl hr153 rfl (me 1 rfl)) gn hns rfl<|wfv 10 rfl (Xej eq_47 rfl rfl (Xdn (ix x1.conds x134) (ix x10.conds x134))) gn hns rfl<|Et (by kernel_rfl) ?_
       by_cases hp154:ix x1.conds x134=ix x10.conds x134
       ·have h:=Ap hp154 h
        refine Bc rfl _ rfl ((nf (decide_eq_true hp154)))<|Bo rfl<|Bj<|Ac rfl rfl<|Aa 0 rfl (Ae rfl) gn rfl<|Aa 1 rfl (Ba rfl rfl rfl) gn rfl<|Aa 2 rfl (Af rfl) gn rfl<|Ah 3 rfl<|Cm ?_
        have ih:=Out.inl hO2 h
        exact D6 [0,1] (ih ()) ⟨rfl,rfl,rfl,trivial⟩ (.cons_cons _ (.cons_cons _ (.slnil))) rfl
       ·have h:=Am hp154 h
        refine Bi rfl _ rfl ((nt (decide_eq_false hp154)))<|Ag rfl<|Ac rfl rfl<|Aa 0 rfl (Af rfl) gn rfl<|Ah 1 rfl ?_
        have h:=Out.inr hO2 h
        have h:=Out.inr hO1 h
        refine Bg [.bool false] rfl Tryd.func29 rfl (.tmp rfl (.nil)) fun wr hLr=>?_
        have hMr:=hLr.pk0 (.c 1 rfl .n)
        show Kt w F  r (.returned (Bz [.bool false])) wr
        rw [h]
        exact ⟨rfl,hMr⟩
      ·have h:=Am hp145 h
       refine Bc rfl _ rfl ((decide_eq_false hp145))<|E8 [.code Xi7] rfl rfl<|Ag rfl<|Ac rfl rfl<|Aa 0 rfl (Af rfl) gn rfl<|Ah 1 rfl ?_
       have h:=Out.inr hO2 h
       have h:=Out.inr hO1 h
       refine Bg [.bool true] rfl Tryd.func29 rfl (.tmp rfl (.nil)) fun wr hLr=>?_
       have hMr:=hLr.pk0 (.c 1 rfl .n)
       show Kt w F  r (.returned (Bz [.bool true])) wr
       rw [h]
       exact ⟨rfl,hMr⟩
     exact D6 [0,1] (key3 _ h ()) ⟨rfl,rfl,rfl,trivial⟩ (.cons_cons _ (.cons_cons _ (.slnil))) rfl
   exact D6 [0,1] (key2 _ h ()) ⟨rfl,rfl,rfl,trivial⟩ (.cons_cons _ (.cons_cons _ (.slnil))) rfl
 refine Ac rfl rfl<|Aa 0 rfl (Bd Ew rfl) gn rfl<|Aa 1 rfl (Au 1 Kr rfl rfl rfl) gn rfl<|Aa 2 rfl (D5 Tm rfl h5.hq) gn rfl<|Aa 3 rfl (Bd Ew rfl) gn rfl<|Aa 4 rfl (Au 0 Kr rfl rfl rfl) gn rfl<|Aa 5 rfl (D5 Tm rfl h14.hq) gn rfl<|Aa 6 rfl (Ba rfl rfl rfl) gn rfl<|Aa 7 rfl (Ae rfl) gn rfl ?_
 by_cases hp155:(x1.nodes.length:Int)=(x10.nodes.length:Int)
 ·have h:=Ap hp155 h
  refine Bh 14 rfl ((eqib hp155))<|Aa 8 rfl (Bd Ik rfl) (gy 14 rfl rfl) rfl<|Aa 9 rfl (Au 1 U8 rfl rfl rfl) (gy 14 rfl rfl) rfl<|Aa 10 rfl (D5 Yu rfl h9.hq) (gy 14 rfl rfl) rfl<|Aa 11 rfl (Bd Ik rfl) (gy 14 rfl rfl) rfl<|Aa 12 rfl (Au 0 U8 rfl rfl rfl) (gy 14 rfl rfl) rfl<|Aa 13 rfl (D5 Yu rfl h18.hq) (gy 14 rfl rfl) rfl<|Aa 14 rfl (Ba rfl rfl rfl) (gy 14 rfl rfl) rfl<|Aa 15 rfl (Aw (b:=false) rfl rfl) gn rfl<|Ah 16 rfl ?_
  exact D6 [0,1] (j1 ((x1.conds.length:Int) != (x10.conds.length:Int)) h) ⟨rfl,rfl,rfl,trivial⟩ (.cons_cons _ (.cons_cons _ (.slnil))) rfl
 ·have h:=Am hp155 h
  refine Bh 14 rfl ((neib hp155))<|Ad 8 rfl (ps 14 rfl rfl rfl)<|Ad 9 rfl (ps 14 rfl rfl rfl)<|Ad 10 rfl (ps 14 rfl rfl rfl)<|Ad 11 rfl (ps 14 rfl rfl rfl)<|Ad 12 rfl (ps 14 rfl rfl rfl)<|Ad 13 rfl (ps 14 rfl rfl rfl)<|Ad 14 rfl (ps 14 rfl rfl rfl)<|Aa 15 rfl (Aw (b:=true) rfl rfl) gn rfl<|Ah 16 rfl ?_
  exact D6 [0,1] (j1 true h) ⟨rfl,rfl,rfl,trivial⟩ (.cons_cons _ (.cons_cons _ (.slnil))) rfl
noncomputable abbrev q19c8:=Code.snd (Code.snd (Code.snd (Code.snd (Df Tryd.f19))))
noncomputable abbrev Xef:=Code.fst (Code.fst (Code.snd (Code.fst (Code.snd (Code.snd (Code.snd (Df Tryd.f19)))))))
abbrev Lu (w:World) (F:Nat→Prop) (r:Bool):Ending→World→Prop:=fun e w'=>e=.returned (.bool r)∧B.Loc w w' [] [St w []]
noncomputable abbrev Ql (w:World) (F:Nat→Prop) (r:Bool):Cx:=⟨Tryd.prog,19,Tryd.f19,53,Lu w F  r,w⟩
theorem Zh (w:World) (F:Nat→Prop) (x1:Aq) (k6:Nat) (k13:Nat) (x16:Aq) (A2:Option Addr) (n3:Nat) (c4:Nat) (A9:Option Addr) (n10:Nat) (c11:Nat) (A17:Option Addr) (n18:Nat) (c19:Nat) (A21:Option Addr) (n22:Nat) (c23:Nat) (h5:Rw Cb w (St w []).av A2 n3 c4 x1.nodes) (hk7:k6≤n3) (h12:Rw Dq w (St w []).av A9 n10 c11 x1.conds) (hk14:k13≤n10) (h20:Rw Cb w (St w []).av A17 n18 c19 x16.nodes) (h24:Rw Dq w (St w []).av A21 n22 c23 x16.conds) (hF:∀ b,F b→b < w.heap.size∧∀ o ∈ ([]:List (List Nat)),b ∉ o) (hL0:B.Loc w w [] [Sm w.heap.size F w [],St w []]) (r:Bool) (h:P7 x1 k6 k13 x16 r):Calls Tryd.prog 19 #[.agg #[.slice A2 k6 c4,.slice A9 k13 c11],.agg #[.slice A17 n18 c19,.slice A21 n22 c23]] w (Lu w F  r):=by
 unfold P7 at h
 have h8:=Rw.pre h5 hk7
 have h15:=Rw.pre h12 hk14
 refine Bl (vs:=[.agg #[.slice A2 k6 c4,.slice A9 k13 c11],.agg #[.slice A17 n18 c19,.slice A21 n22 c23]]) 53 Tryd.func19 rfl Tryd.ntmps19 rfl hL0 ?_
 show G (Ql w F r) _ _ _ _
 refine Ag rfl<|Ac rfl rfl ?_
 refine Ci 0 rfl (O3 [.slice A2 k6 c4,.slice A9 k13 c11] rfl rfl rfl fun gb25=>?_) gn
 refine Ci 1 rfl (O3 [.slice A17 n18 c19,.slice A21 n22 c23] rfl rfl rfl fun gb27=>?_) gn
 refine Aa 2 rfl (Af rfl) gn rfl<|Ah 3 rfl<|Ag rfl<|Ac rfl rfl<|Aa 0 rfl (Bd Ew rfl) gn rfl<|Aa 1 rfl (Au 1 Kr rfl rfl rfl) gn rfl<|Aa 2 rfl (Bd Ew rfl) gn rfl<|Aa 3 rfl (Au 0 Kr rfl rfl rfl) gn rfl<|Aa 4 rfl (D5 Tm rfl h20.hq) gn rfl<|Aa 5 rfl (Ba rfl rfl rfl) gn rfl ?_
 obtain ⟨hb29,h⟩:=h
 have hle30:(w64 ((x16.nodes.length:Int) + 20):Int).toNat≤n3:=by have q:=hb29; have q1:=h5.hq; omega
 have h31:=Rw.pre h5 hle30
 refine Aa 6 rfl (Xc (i:=w64 ((x16.nodes.length:Int) + 20)) Oq rfl rfl (by have q:=hb29; have q1:=h5.hq; have q2:=h5.hn; omega) h8.hn rfl) gn rfl<|Aa 7 rfl (Af rfl) gn rfl<|Ah 8 rfl<|Ag rfl<|Ac rfl rfl<|Aa 0 rfl (Bd Ik rfl) gn rfl<|Aa 1 rfl (Au 1 U8 rfl rfl rfl) gn rfl<|Aa 2 rfl (Bd Ik rfl) gn rfl<|Aa 3 rfl (Au 0 U8 rfl rfl rfl) gn rfl<|Aa 4 rfl (D5 Yu rfl h24.hq) gn rfl<|Aa 5 rfl (Ba rfl rfl rfl) gn rfl ?_
 obtain ⟨hb32,h⟩:=h
 have hle33:(w64 ((x16.conds.length:Int) + 20):Int).toNat≤n10:=by have q:=hb32; have q1:=h12.hq; omega
 have h34:=Rw.pre h12 hle33
 refine Aa 6 rfl (Xc (i:=w64 ((x16.conds.length:Int) + 20)) Zl rfl rfl (by have q:=hb32; have q1:=h12.hq; have q2:=h12.hn; omega) h15.hn rfl) gn rfl<|Aa 7 rfl (Af rfl) gn rfl<|Ah 8 rfl<|Ag rfl<|Ag rfl<|Ac rfl rfl<|Aa 0 rfl (Af rfl) gn rfl<|Ah 1 rfl<|Bv rfl<|Ei rfl ?_
 have key1:∀ s,Ar (fun (s:Int) o=>Ja x16 x1 k6 k13 s o) s r→(fun (s:Int)=>∀ (_:Unit),G (Ql w F r) [.code Xef,.inLoop Xef,.inBlock 0,.code q19c8] [(2,.pointer (some ⟨gb25,0,none⟩)),(3,.pointer (some ⟨gb27,0,none⟩)),(5,.slice A2 ((w64 ((x16.nodes.length:Int) + 20):Int).toNat) c4),(6,.slice A9 ((w64 ((x16.conds.length:Int) + 20):Int).toNat) c11),(7,.int .i64 s)] [.box gb27 25 [.slice A17 n18 c19,.slice A21 n22 c23],.box gb25 25 [.slice A2 k6 c4,.slice A9 k13 c11]] [Sm w.heap.size F w [],St w []]) s:=by
  intro s hs
  refine Ar.ind (mot:=(fun (s:Int)=>∀ (_:Unit),G (Ql w F r) [.code Xef,.inLoop Xef,.inBlock 0,.code q19c8] [(2,.pointer (some ⟨gb25,0,none⟩)),(3,.pointer (some ⟨gb27,0,none⟩)),(5,.slice A2 ((w64 ((x16.nodes.length:Int) + 20):Int).toNat) c4),(6,.slice A9 ((w64 ((x16.conds.length:Int) + 20):Int).toNat) c11),(7,.int .i64 s)] [.box gb27 25 [.slice A17 n18 c19,.slice A21 n22 c23],.box gb25 25 [.slice A2 k6 c4,.slice A9 k13 c11]] [Sm w.heap.size F w [],St w []])) ?_ hs
  clear hs s
  intro x42 o1 h hO1
  show ∀ (_:Unit),G (Ql w F r) [.code Xef,.inLoop Xef,.inBlock 0,.code q19c8] [(2,.pointer (some ⟨gb25,0,none⟩)),(3,.pointer (some ⟨gb27,0,none⟩)),(5,.slice A2 ((w64 ((x16.nodes.length:Int) + 20):Int).toNat) c4),(6,.slice A9 ((w64 ((x16.conds.length:Int) + 20):Int).toNat) c11),(7,.int .i64 x42)] [.box gb27 25 [.slice A17 n18 c19,.slice A21 n22 c23],.box gb25 25 [.slice A2 k6 c4,.slice A9 k13 c11]] [Sm w.heap.size F w [],St w []]
  intro _
  have h:Ja x16 x1 k6 k13 x42 o1:=h
  unfold Ja at h
  refine Ag rfl<|Ag rfl<|Ac rfl rfl<|Aa 0 rfl (Ae rfl) gn rfl<|Aa 1 rfl (Ba rfl rfl rfl) gn rfl<|Ah 2 rfl ?_
  by_cases hp58:x42 < 20
  ·have h:=Ap hp58 h
   refine Bi rfl _ rfl ((decide_eq_true hp58))<|Bo rfl<|Ag rfl<|Bv rfl<|Ag rfl<|Ac rfl rfl<|Aa 0 rfl (Ae rfl) gn rfl<|Aa 1 rfl (Bd Ew rfl) gn rfl<|Aa 2 rfl (Au 0 Kr rfl rfl rfl) gn rfl<|Aa 3 rfl (D5 Tm rfl h20.hq) gn rfl<|Aa 4 rfl (Ae rfl) gn rfl<|Aa 5 rfl (Ba rfl rfl rfl) gn rfl ?_
   obtain ⟨hb59,h⟩:=h
   have hr60:=Rw.readF (s:=St w []) (hl:=Dp) (h1:=Du) h31 hb59
   refine Aa 6 rfl (Ef (s:=St w []) Oq rfl rfl h31 hb59) gn rfl<|Aa 7 rfl (Q8 (St w []) Xc5 rfl hr60 rfl (me 1 rfl)) gn rfl<|Aa 8 rfl (Ae rfl) gn rfl<|Aa 9 rfl (Ba rfl rfl rfl) gn rfl<|Aa 10 rfl (L6 #[.string (⟨#[]⟩:ByteArray),.bool false,.string (⟨#[]⟩:ByteArray),.string (⟨#[]⟩:ByteArray),.int .i64 (w64 (900 + x42))] bd_45 rfl (by kernel_rfl)) gn rfl<|Aa 11 rfl (Xej eq_45 rfl rfl (Xav (ix (x1.nodes.take ((w64 ((x16.nodes.length:Int) + 20):Int).toNat)) (w64 ((x16.nodes.length:Int) + x42))) (⟨(⟨#[]⟩:ByteArray),false,(⟨#[]⟩:ByteArray),(⟨#[]⟩:ByteArray),w64 (900 + x42)⟩:Aj))) gn rfl<|Aa 12 rfl (Ae rfl) gn rfl ?_
   by_cases hp61:ix (x1.nodes.take ((w64 ((x16.nodes.length:Int) + 20):Int).toNat)) (w64 ((x16.nodes.length:Int) + x42))=(⟨(⟨#[]⟩:ByteArray),false,(⟨#[]⟩:ByteArray),(⟨#[]⟩:ByteArray),w64 (900 + x42)⟩:Aj)
   ·have h:=Ap hp61 h
    refine Bh 38 rfl ((nf (decide_eq_true hp61)))<|Aa 13 rfl (Ae rfl) (gy 38 rfl rfl) rfl<|Aa 14 rfl (Bd Ik rfl) (gy 38 rfl rfl) rfl<|Aa 15 rfl (Au 0 U8 rfl rfl rfl) (gy 38 rfl rfl) rfl<|Aa 16 rfl (D5 Yu rfl h24.hq) (gy 38 rfl rfl) rfl<|Aa 17 rfl (Ae rfl) (gy 38 rfl rfl) rfl<|Aa 18 rfl (Ba rfl rfl rfl) (gy 38 rfl rfl) rfl ?_
    obtain ⟨hb62,h⟩:=h
    have hr63:=Rw.readF (s:=St w []) (hl:=Nh) (h1:=Nc) h34 hb62
    refine Aa 19 rfl (Ef (s:=St w []) Zl rfl rfl h34 hb62) (gy 38 rfl rfl) rfl<|Aa 20 rfl (Q8 (St w []) Xf3 rfl hr63 rfl (me 1 rfl)) (gy 38 rfl rfl) rfl<|Aa 21 rfl (L6 #[.bool false,.string (⟨#[]⟩:ByteArray),.string (⟨#[]⟩:ByteArray),.string (⟨#[109,97,114,107]⟩:ByteArray)] bd_47 rfl (by kernel_rfl)) (gy 38 rfl rfl) rfl<|Aa 22 rfl (Xej eq_47 rfl rfl (Xdn (ix (x1.conds.take ((w64 ((x16.conds.length:Int) + 20):Int).toNat)) (w64 ((x16.conds.length:Int) + x42))) (⟨false,(⟨#[]⟩:ByteArray),(⟨#[]⟩:ByteArray),(⟨#[109,97,114,107]⟩:ByteArray)⟩:D8))) (gy 38 rfl rfl) rfl<|Aa 23 rfl (Aw (b:=false) rfl rfl) gn rfl<|Ah 24 rfl ?_
    by_cases hp64:ix (x1.conds.take ((w64 ((x16.conds.length:Int) + 20):Int).toNat)) (w64 ((x16.conds.length:Int) + x42))=(⟨false,(⟨#[]⟩:ByteArray),(⟨#[]⟩:ByteArray),(⟨#[109,97,114,107]⟩:ByteArray)⟩:D8)
    ·have h:=Ap hp64 h
     refine Bc rfl _ rfl ((nf (decide_eq_true hp64)))<|Bo rfl<|Bj<|Ac rfl rfl<|Aa 0 rfl (Ae rfl) gn rfl<|Aa 1 rfl (Ba rfl rfl rfl) gn rfl<|Aa 2 rfl (Af rfl) gn rfl<|Ah 3 rfl<|Cm ?_
     have ih:=Out.inl hO1 h
     exact D6 [0,1] (ih ()) ⟨rfl,rfl,rfl,rfl,rfl,trivial⟩ (.cons_cons _ (.cons_cons _ (.slnil))) rfl
    ·have h:=Am hp64 h
     refine Bi rfl _ rfl ((nt (decide_eq_false hp64)))<|Ag rfl<|Ac rfl rfl<|Aa 0 rfl (Af rfl) gn rfl<|Ah 1 rfl ?_
     have h:=Out.inr hO1 h
     refine Bg [.bool false] rfl Tryd.func19 rfl (.tmp rfl (.nil)) fun wr hLr=>?_
     have hMr:=hLr.pk0 (.c 1 rfl .n)
     show Lu w F  r (.returned (Bz [.bool false])) wr
     rw [h]
     exact ⟨rfl,hMr⟩
   ·have h:=Am hp61 h
    refine Bh 38 rfl ((nt (decide_eq_false hp61)))<|Ad 13 rfl (ps 38 rfl rfl rfl)<|Ad 14 rfl (ps 38 rfl rfl rfl)<|Ad 15 rfl (ps 38 rfl rfl rfl)<|Ad 16 rfl (ps 38 rfl rfl rfl)<|Ad 17 rfl (ps 38 rfl rfl rfl)<|Ad 18 rfl (ps 38 rfl rfl rfl)<|Ad 19 rfl (ps 38 rfl rfl rfl)<|Ad 20 rfl (ps 38 rfl rfl rfl)<|Ad 21 rfl (ps 38 rfl rfl rfl)<|Ad 22 rfl (ps 38 rfl rfl rfl)<|Aa 23 rfl (Aw (b:=true) rfl rfl) gn rfl ?_
    refine Ah 24 rfl<|Bi rfl _ rfl (rfl)<|Ag rfl<|Ac rfl rfl<|Aa 0 rfl (Af rfl) gn rfl<|Ah 1 rfl ?_
    have h:=Out.inr hO1 h
    refine Bg [.bool false] rfl Tryd.func19 rfl (.tmp rfl (.nil)) fun wr hLr=>?_
    have hMr:=hLr.pk0 (.c 1 rfl .n)
    show Lu w F  r (.returned (Bz [.bool false])) wr
    rw [h]
    exact ⟨rfl,hMr⟩
  ·have h:=Am hp58 h
   refine Bc rfl _ rfl ((decide_eq_false hp58))<|E8 [.code q19c8] rfl rfl<|Ag rfl<|Ac rfl rfl<|Aa 0 rfl (Ji [.slice A2 k6 c4,.slice A9 k13 c11] 1 O5 rfl rfl rfl rfl) gn rfl<|Aa 1 rfl (Ji [.slice A17 n18 c19,.slice A21 n22 c23] 0 O5 rfl rfl rfl rfl) gn rfl ?_
   obtain ⟨r68,hv69,h⟩:=h
   refine Ci 2 rfl (D7 [.agg #[.slice A2 k6 c4,.slice A9 k13 c11],.agg #[.slice A17 n18 c19,.slice A21 n22 c23]] rfl Tryd.func29 rfl rfl rfl fun w65 hL66=>?_) gn
   have hp67:=pmI hL66 .n (.c 0 rfl (.c 1 rfl .n)) (by kernel_rfl)
   refine Calls.mono (Xa8 w65 (Fl ([]:List Cc)) (⟨(x1.nodes.take k6),(x1.conds.take k13)⟩:Aq) x16 A2 k6 c4 A9 k13 c11 A17 n18 c19 A21 n22 c23 (Rw.mono h8 (hL66.toSt hp67 (me 1 rfl))) (Rw.mono h15 (hL66.toSt hp67 (me 1 rfl))) (Rw.mono h20 (hL66.toSt hp67 (me 1 rfl))) (Rw.mono h24 (hL66.toSt hp67 (me 1 rfl))) (hL66.hFl hp67 (Bf [] rfl)) (hL66.into hp67 _) r68 hv69) ?_
   rintro _ w70 ⟨rfl,hM71⟩
   have hL72:=hL66.call hp67 hM71
   refine ⟨_,_,_,rfl,hL72,?_⟩
   refine Aa 3 rfl (Af rfl) gn rfl<|Ah 4 rfl ?_
   have h:=Out.inr hO1 h
   refine Bg [.bool r68] rfl Tryd.func19 rfl (.tmp rfl (.nil)) fun wr hLr=>?_
   have hMr:=hLr.pk0 (.c 1 rfl .n)
   show Lu w F  r (.returned (Bz [.bool r68])) wr
   rw [h]
   exact ⟨rfl,hMr⟩
 exact D6 [0,1] (key1 _ h ()) ⟨rfl,rfl,rfl,rfl,rfl,trivial⟩ (.cons_cons _ (.cons_cons _ (.slnil))) rfl
noncomputable abbrev Xil:=Code.snd (Code.snd (Code.snd (Df Tryd.f46)))
noncomputable abbrev Xce:=Code.fst (Code.fst (Code.snd (Code.fst (Code.snd (Code.snd (Df Tryd.f46))))))
noncomputable abbrev q46c24:=Code.fst (Code.fst (Code.fst (Code.snd Xce)))
abbrev Jo (w:World) (F:Nat→Prop) (r:Bool):Ending→World→Prop:=fun e w'=>e=.returned (.bool r)∧B.Loc w w' [] [St w []]
noncomputable abbrev Nk (w:World) (F:Nat→Prop) (r:Bool):Cx:=⟨Tryd.prog,46,Tryd.f46,26,Jo w F  r,w⟩
theorem Yb (w:World) (F:Nat→Prop) (x1:List Ai) (x6:List Ai) (A2:Option Addr) (n3:Nat) (c4:Nat) (A7:Option Addr) (n8:Nat) (c9:Nat) (h5:Rw D9 w (St w []).av A2 n3 c4 x1) (h10:Rw D9 w (St w []).av A7 n8 c9 x6) (hF:∀ b,F b→b < w.heap.size∧∀ o ∈ ([]:List (List Nat)),b ∉ o) (hL0:B.Loc w w [] [Sm w.heap.size F w [],St w []]) (r:Bool) (h:La x1 x6 r):Calls Tryd.prog 46 #[.slice A2 n3 c4,.slice A7 n8 c9] w (Jo w F  r):=by
 unfold La at h
 refine Bl (vs:=[.slice A2 n3 c4,.slice A7 n8 c9]) 26 Tryd.func46 rfl Tryd.ntmps46 rfl hL0 ?_
 show G (Nk w F r) _ _ _ _
 refine Ag rfl<|Ac rfl rfl<|Aa 0 rfl (Af rfl) gn rfl<|Ah 1 rfl<|Ag rfl<|Ag rfl<|Ac rfl rfl<|Aa 0 rfl (Ae rfl) gn rfl<|Aa 1 rfl (D5 V3 rfl h5.hq) gn rfl<|Aa 2 rfl (Ae rfl) gn rfl<|Aa 3 rfl (D5 V3 rfl h10.hq) gn rfl<|Aa 4 rfl (Ba rfl rfl rfl) gn rfl ?_
 refine Ah 5 rfl ?_
 by_cases hp11:(x1.length:Int)=(x6.length:Int)
 ·have h:=Ap hp11 h
  refine Bc rfl _ rfl ((eqib hp11))<|Bo rfl<|Ag rfl<|Ag rfl<|Ac rfl rfl<|Aa 0 rfl (Af rfl) gn rfl<|Ah 1 rfl<|Bv rfl<|Ei rfl ?_
  have key1:∀ s,Ar (fun (s:Int) o=>Hu x1 x6 s o) s r→(fun (s:Int)=>∀ (_:Unit),G (Nk w F r) [.code Xce,.inLoop Xce,.inBlock 0,.code Xil] [(0,.slice A2 n3 c4),(1,.slice A7 n8 c9),(5,.int .i64 s)] [] [Sm w.heap.size F w [],St w []]) s:=by
   intro s hs
   refine Ar.ind (mot:=(fun (s:Int)=>∀ (_:Unit),G (Nk w F r) [.code Xce,.inLoop Xce,.inBlock 0,.code Xil] [(0,.slice A2 n3 c4),(1,.slice A7 n8 c9),(5,.int .i64 s)] [] [Sm w.heap.size F w [],St w []])) ?_ hs
   clear hs s
   intro x23 o1 h hO1
   show ∀ (_:Unit),G (Nk w F r) [.code Xce,.inLoop Xce,.inBlock 0,.code Xil] [(0,.slice A2 n3 c4),(1,.slice A7 n8 c9),(5,.int .i64 x23)] [] [Sm w.heap.size F w [],St w []]
   intro _
   have h:Hu x1 x6 x23 o1:=h
   unfold Hu at h
   refine Ag rfl<|Ag rfl<|Ac rfl rfl<|Aa 0 rfl (Ae rfl) gn rfl<|Aa 1 rfl (Ae rfl) gn rfl<|Aa 2 rfl (D5 V3 rfl h5.hq) gn rfl<|Aa 3 rfl (Ba rfl rfl rfl) gn rfl<|Ah 4 rfl ?_
   by_cases hp34:x23 < (x1.length:Int)
   ·have h:=Ap hp34 h
    refine Bi rfl _ rfl ((decide_eq_true hp34))<|Bo rfl<|Ag rfl<|Bv rfl<|Ag rfl ?_
    obtain ⟨hb35,h⟩:=h
    obtain ⟨hb37,h⟩:=h
    have hns:Region.noSelect (Code.ops q46c24)=true:=by kernel_rfl
    refine J7 [] 9 rfl rfl mix rfl (.c 0 rfl (.c 1 rfl .n))<|wfv 0 rfl (Ae rfl) gn hns rfl<|wfv 1 rfl (Ae rfl) gn hns rfl ?_
    have hr41:=Rw.readF (s:=St w []) (hl:=Fh) (h1:=Gg) h5 hb35
    refine wfv 2 rfl (Ef (s:=St w []) Ro rfl rfl h5 hb35) gn hns rfl<|wfv 3 rfl (Q8 (St w []) Xb5 rfl hr41 rfl (me 1 rfl)) gn hns rfl<|wfv 4 rfl (Ae rfl) gn hns rfl<|wfv 5 rfl (Ae rfl) gn hns rfl ?_
    have hr42:=Rw.readF (s:=St w []) (hl:=Fh) (h1:=Gg) h10 hb37
    refine wfv 6 rfl (Ef (s:=St w []) Ro rfl rfl h10 hb37) gn hns rfl<|wfv 7 rfl (Q8 (St w []) Xb5 rfl hr42 rfl (me 1 rfl)) gn hns rfl<|wfv 8 rfl (Xej eq_56 rfl rfl (Xdf (ix x1 x23) (ix x6 x23))) gn hns rfl<|Et (by kernel_rfl) ?_
    by_cases hp43:ix x1 x23=ix x6 x23
    ·have h:=Ap hp43 h
     refine Bc rfl _ rfl ((nf (decide_eq_true hp43)))<|Bo rfl<|Bj<|Ac rfl rfl<|Aa 0 rfl (Ae rfl) gn rfl<|Aa 1 rfl (Ba rfl rfl rfl) gn rfl<|Aa 2 rfl (Af rfl) gn rfl<|Ah 3 rfl<|Cm ?_
     have ih:=Out.inl hO1 h
     exact D6 [0,1] (ih ()) ⟨rfl,rfl,rfl,trivial⟩ (.slnil) rfl
    ·have h:=Am hp43 h
     refine Bi rfl _ rfl ((nt (decide_eq_false hp43)))<|Ag rfl<|Ac rfl rfl<|Aa 0 rfl (Af rfl) gn rfl<|Ah 1 rfl ?_
     have h:=Out.inr hO1 h
     refine Bg [.bool false] rfl Tryd.func46 rfl (.tmp rfl (.nil)) fun wr hLr=>?_
     have hMr:=hLr.pk0 (.c 1 rfl .n)
     show Jo w F  r (.returned (Bz [.bool false])) wr
     rw [h]
     exact ⟨rfl,hMr⟩
   ·have h:=Am hp34 h
    refine Bc rfl _ rfl ((decide_eq_false hp34))<|E8 [.code Xil] rfl rfl<|Ag rfl<|Ac rfl rfl<|Aa 0 rfl (Af rfl) gn rfl<|Ah 1 rfl ?_
    have h:=Out.inr hO1 h
    refine Bg [.bool true] rfl Tryd.func46 rfl (.tmp rfl (.nil)) fun wr hLr=>?_
    have hMr:=hLr.pk0 (.c 1 rfl .n)
    show Jo w F  r (.returned (Bz [.bool true])) wr
    rw [h]
    exact ⟨rfl,hMr⟩
  exact D6 [0,1] (key1 _ h ()) ⟨rfl,rfl,rfl,trivial⟩ (.slnil) rfl
 ·have h:=Am hp11 h
  refine Bi rfl _ rfl ((neib hp11))<|Ag rfl<|Ac rfl rfl<|Aa 0 rfl (Af rfl) gn rfl<|Ah 1 rfl ?_
  refine Bg [.bool false] rfl Tryd.func46 rfl (.tmp rfl (.nil)) fun wr hLr=>?_
  have hMr:=hLr.pk0 (.c 1 rfl .n)
  show Jo w F  r (.returned (Bz [.bool false])) wr
  rw [h]
  exact ⟨rfl,hMr⟩
noncomputable abbrev q20c6:=Code.snd (Code.snd (Code.snd (Df Tryd.f20)))
noncomputable abbrev Xem:=Code.fst (Code.fst (Code.snd (Code.fst (Code.snd (Code.snd (Df Tryd.f20))))))
abbrev Ls (w:World) (F:Nat→Prop) (r:Bool):Ending→World→Prop:=fun e w'=>e=.returned (.bool r)∧B.Loc w w' [] [St w []]
noncomputable abbrev Lp (w:World) (F:Nat→Prop) (r:Bool):Cx:=⟨Tryd.prog,20,Tryd.f20,30,Ls w F  r,w⟩
theorem Xx (w:World) (F:Nat→Prop) (x1:List Ai) (k6:Nat) (x9:List Ai) (A2:Option Addr) (n3:Nat) (c4:Nat) (A10:Option Addr) (n11:Nat) (c12:Nat) (h5:Rw D9 w (St w []).av A2 n3 c4 x1) (hk7:k6≤n3) (h13:Rw D9 w (St w []).av A10 n11 c12 x9) (hF:∀ b,F b→b < w.heap.size∧∀ o ∈ ([]:List (List Nat)),b ∉ o) (hL0:B.Loc w w [] [Sm w.heap.size F w [],St w []]) (r:Bool) (h:Jw x1 k6 x9 r):Calls Tryd.prog 20 #[.slice A2 k6 c4,.slice A10 n11 c12] w (Ls w F  r):=by
 unfold Jw at h
 have h8:=Rw.pre h5 hk7
 refine Bl (vs:=[.slice A2 k6 c4,.slice A10 n11 c12]) 30 Tryd.func20 rfl Tryd.ntmps20 rfl hL0 ?_
 show G (Lp w F r) _ _ _ _
 refine Ag rfl<|Ac rfl rfl<|Aa 0 rfl (Af rfl) gn rfl<|Ah 1 rfl<|Ag rfl<|Ac rfl rfl<|Aa 0 rfl (Ae rfl) gn rfl<|Aa 1 rfl (Ae rfl) gn rfl<|Aa 2 rfl (D5 V3 rfl h13.hq) gn rfl<|Aa 3 rfl (Ba rfl rfl rfl) gn rfl ?_
 obtain ⟨hb14,h⟩:=h
 have hle15:(w64 ((x9.length:Int) + 20):Int).toNat≤n3:=by have q:=hb14; have q1:=h5.hq; omega
 have h16:=Rw.pre h5 hle15
 refine Aa 4 rfl (Xc (i:=w64 ((x9.length:Int) + 20)) Ro rfl rfl (by have q:=hb14; have q1:=h5.hq; have q2:=h5.hn; omega) h8.hn rfl) gn rfl<|Aa 5 rfl (Af rfl) gn rfl<|Ah 6 rfl<|Ag rfl<|Ag rfl<|Ac rfl rfl<|Aa 0 rfl (Af rfl) gn rfl<|Ah 1 rfl<|Bv rfl<|Ei rfl ?_
 have key1:∀ s,Ar (fun (s:Int) o=>Hf x9 x1 k6 s o) s r→(fun (s:Int)=>∀ (_:Unit),G (Lp w F r) [.code Xem,.inLoop Xem,.inBlock 0,.code q20c6] [(0,.slice A2 k6 c4),(1,.slice A10 n11 c12),(5,.slice A2 ((w64 ((x9.length:Int) + 20):Int).toNat) c4),(6,.int .i64 s)] [] [Sm w.heap.size F w [],St w []]) s:=by
  intro s hs
  refine Ar.ind (mot:=(fun (s:Int)=>∀ (_:Unit),G (Lp w F r) [.code Xem,.inLoop Xem,.inBlock 0,.code q20c6] [(0,.slice A2 k6 c4),(1,.slice A10 n11 c12),(5,.slice A2 ((w64 ((x9.length:Int) + 20):Int).toNat) c4),(6,.int .i64 s)] [] [Sm w.heap.size F w [],St w []])) ?_ hs
  clear hs s
  intro x21 o1 h hO1
  show ∀ (_:Unit),G (Lp w F r) [.code Xem,.inLoop Xem,.inBlock 0,.code q20c6] [(0,.slice A2 k6 c4),(1,.slice A10 n11 c12),(5,.slice A2 ((w64 ((x9.length:Int) + 20):Int).toNat) c4),(6,.int .i64 x21)] [] [Sm w.heap.size F w [],St w []]
  intro _
  have h:Hf x9 x1 k6 x21 o1:=h
  unfold Hf at h
  refine Ag rfl<|Ag rfl<|Ac rfl rfl<|Aa 0 rfl (Ae rfl) gn rfl<|Aa 1 rfl (Ba rfl rfl rfl) gn rfl<|Ah 2 rfl ?_
  by_cases hp34:x21 < 20
  ·have h:=Ap hp34 h
   refine Bi rfl _ rfl ((decide_eq_true hp34))<|Bo rfl<|Ag rfl<|Bv rfl<|Ag rfl<|Ac rfl rfl<|Aa 0 rfl (Ae rfl) gn rfl<|Aa 1 rfl (Ae rfl) gn rfl<|Aa 2 rfl (D5 V3 rfl h13.hq) gn rfl<|Aa 3 rfl (Ae rfl) gn rfl<|Aa 4 rfl (Ba rfl rfl rfl) gn rfl ?_
   obtain ⟨hb35,h⟩:=h
   have hr36:=Rw.readF (s:=St w []) (hl:=Fh) (h1:=Gg) h16 hb35
   refine Aa 5 rfl (Ef (s:=St w []) Ro rfl rfl h16 hb35) gn rfl<|Aa 6 rfl (Q8 (St w []) Xb5 rfl hr36 rfl (me 1 rfl)) gn rfl<|Aa 7 rfl (Ae rfl) gn rfl<|Aa 8 rfl (Ba rfl rfl rfl) gn rfl<|Aa 9 rfl (L6 #[.string (⟨#[109,97,114,107]⟩:ByteArray),.bool false,.string (⟨#[]⟩:ByteArray),.int .i64 (w64 (900 + x21)),.int .i64 0,.int .i64 0,.int .i64 0] bd_56 rfl (by kernel_rfl)) gn rfl<|Aa 10 rfl (Xej eq_56 rfl rfl (Xdf (ix (x1.take ((w64 ((x9.length:Int) + 20):Int).toNat)) (w64 ((x9.length:Int) + x21))) (⟨(⟨#[109,97,114,107]⟩:ByteArray),false,(⟨#[]⟩:ByteArray),w64 (900 + x21),0,0,0⟩:Ai))) gn rfl<|Ah 11 rfl ?_
   by_cases hp37:ix (x1.take ((w64 ((x9.length:Int) + 20):Int).toNat)) (w64 ((x9.length:Int) + x21))=(⟨(⟨#[109,97,114,107]⟩:ByteArray),false,(⟨#[]⟩:ByteArray),w64 (900 + x21),0,0,0⟩:Ai)
   ·have h:=Ap hp37 h
    refine Bc rfl _ rfl ((nf (decide_eq_true hp37)))<|Bo rfl<|Bj<|Ac rfl rfl<|Aa 0 rfl (Ae rfl) gn rfl<|Aa 1 rfl (Ba rfl rfl rfl) gn rfl<|Aa 2 rfl (Af rfl) gn rfl<|Ah 3 rfl<|Cm ?_
    have ih:=Out.inl hO1 h
    exact D6 [0,1] (ih ()) ⟨rfl,rfl,rfl,rfl,trivial⟩ (.slnil) rfl
   ·have h:=Am hp37 h
    refine Bi rfl _ rfl ((nt (decide_eq_false hp37)))<|Ag rfl<|Ac rfl rfl<|Aa 0 rfl (Af rfl) gn rfl<|Ah 1 rfl ?_
    have h:=Out.inr hO1 h
    refine Bg [.bool false] rfl Tryd.func20 rfl (.tmp rfl (.nil)) fun wr hLr=>?_
    have hMr:=hLr.pk0 (.c 1 rfl .n)
    show Ls w F  r (.returned (Bz [.bool false])) wr
    rw [h]
    exact ⟨rfl,hMr⟩
  ·have h:=Am hp34 h
   refine Bc rfl _ rfl ((decide_eq_false hp34))<|E8 [.code q20c6] rfl rfl<|Ag rfl<|Ac rfl rfl<|Aa 0 rfl (Ae rfl) gn rfl<|Aa 1 rfl (Ae rfl) gn rfl ?_
   obtain ⟨r41,hv42,h⟩:=h
   refine Ci 2 rfl (D7 [.slice A2 k6 c4,.slice A10 n11 c12] rfl Tryd.func46 rfl rfl rfl fun w38 hL39=>?_) gn
   have hp40:=pmI hL39 .n .n (by kernel_rfl)
   refine Calls.mono (Yb w38 (Fl ([]:List Cc)) (x1.take k6) x9 A2 k6 c4 A10 n11 c12 (Rw.mono h8 (hL39.toSt hp40 (me 1 rfl))) (Rw.mono h13 (hL39.toSt hp40 (me 1 rfl))) (hL39.hFl hp40 (Bf [] rfl)) (hL39.into hp40 _) r41 hv42) ?_
   rintro _ w43 ⟨rfl,hM44⟩
   have hL45:=hL39.call hp40 hM44
   refine ⟨_,_,_,rfl,hL45,?_⟩
   refine Aa 3 rfl (Af rfl) gn rfl<|Ah 4 rfl ?_
   have h:=Out.inr hO1 h
   refine Bg [.bool r41] rfl Tryd.func20 rfl (.tmp rfl (.nil)) fun wr hLr=>?_
   have hMr:=hLr.pk0 (.c 1 rfl .n)
   show Ls w F  r (.returned (Bz [.bool r41])) wr
   rw [h]
   exact ⟨rfl,hMr⟩
 exact D6 [0,1] (key1 _ h ()) ⟨rfl,rfl,rfl,rfl,trivial⟩ (.slnil) rfl
end Go.Proofs.YtjookebbmfiidaaDoor.K
