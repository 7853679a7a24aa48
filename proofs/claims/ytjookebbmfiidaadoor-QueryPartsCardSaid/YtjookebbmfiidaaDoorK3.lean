/- What the machine's calls do, function by function, printed by my own tool. Condition of each: its relation holds of the answer, and what is handed in lies in memory as told. -/
import Derived.Test.YtjookebbmfiidaaDoorK2
set_option linter.unusedVariables false
set_option maxRecDepth 100000
set_option maxHeartbeats 4000000
namespace Go.Proofs.YtjookebbmfiidaaDoor.K
open Go.Proofs.YtjookebbmfiidaaDoor.B Go.Proofs.YtjookebbmfiidaaDoor.R Go.RowKit
noncomputable abbrev Xjm:=Code.snd (Code.snd (Code.snd (Dv Tryd.f71)))
noncomputable abbrev Xd0:=Code.fst (Code.fst (Code.snd (Code.fst (Code.snd (Code.snd (Dv Tryd.f71))))))
noncomputable abbrev q71c34:=Code.fst (Code.fst (Code.snd (Code.snd (Code.snd (Code.fst (Code.fst (Code.snd (Code.snd Xd0))))))))
abbrev Ko (w:World) (F:Nat→Prop) (g15:Nat) (g17:Nat) (g20:Nat) (Tb16:Nat) (Tb18:Nat) (Tb21:Nat) (A2:Option Addr) (n3:Nat) (c4:Nat) (z6:Nat) (A30:Option Addr) (n31:Nat) (c32:Nat) (z34:Nat) (A38:Option Addr) (n39:Nat) (c40:Nat) (z42:Nat) (A22:Option Addr) (n23:Nat) (c24:Nat) (A26:Option Addr) (n27:Nat) (c28:Nat) (r:(List Int) × Bf):Ending→World→Prop:=fun e w'=>∃ Ar0:Option Addr,∃ nr0:Nat,∃ cr0:Nat,∃ Ar3:Option Addr,∃ nr3:Nat,∃ cr3:Nat,∃ cs3:List Value,∃ Ar4:Option Addr,∃ nr4:Nat,∃ cr4:Nat,e=.returned (.slice Ar0 nr0 cr0)∧B.Loc w w' [.box g15 Tb16 [.pointer (some ⟨g20,0,none⟩)],.box g17 Tb18 [.func (.func 71) #[] #[.pointer (some ⟨g15,0,none⟩),.pointer (some ⟨g17,0,none⟩)]],.box g20 Tb21 [.slice A22 n23 c24,.slice A26 n27 c28,.slice Ar3 nr3 cr3,.slice Ar4 nr4 cr4],.own (.slice Ar0 nr0 cr0) 3 1 nr0 (r.1.flatMap (eI .i64)),.own (.slice Ar3 nr3 cr3) 36 1 nr3 cs3,.own (.slice Ar4 nr4 cr4) 4 1 nr4 (r.2.known.flatMap eB)] [St w [(Value.slice A2 n3 c4).ownBlock.toList,[g15],[g17],[g20],(Value.slice A30 n31 c32).ownBlock.toList,(Value.slice A38 n39 c40).ownBlock.toList]]∧Ow z6 Ar0 nr0 cr0 r.1∧(r.1=[]→Ar0=none)∧Ow z34 Ar3 nr3 cr3 r.2.of∧Cells (Kd.slice (G8 .i64)) w' (Nw w w' F [.box g15 Tb16 [.pointer (some ⟨g20,0,none⟩)],.box g17 Tb18 [.func (.func 71) #[] #[.pointer (some ⟨g15,0,none⟩),.pointer (some ⟨g17,0,none⟩)]],.box g20 Tb21 [.slice A22 n23 c24,.slice A26 n27 c28,.slice Ar3 nr3 cr3,.slice Ar4 nr4 cr4],.own (.slice Ar0 nr0 cr0) 3 1 nr0 (r.1.flatMap (eI .i64)),.own (.slice Ar3 nr3 cr3) 36 1 nr3 cs3,.own (.slice Ar4 nr4 cr4) 4 1 nr4 (r.2.known.flatMap eB)]) r.2.of cs3∧Ow z42 Ar4 nr4 cr4 r.2.known
noncomputable abbrev Ny (w:World) (F:Nat→Prop) (g15:Nat) (g17:Nat) (g20:Nat) (Tb16:Nat) (Tb18:Nat) (Tb21:Nat) (A2:Option Addr) (n3:Nat) (c4:Nat) (z6:Nat) (A30:Option Addr) (n31:Nat) (c32:Nat) (z34:Nat) (A38:Option Addr) (n39:Nat) (c40:Nat) (z42:Nat) (A22:Option Addr) (n23:Nat) (c24:Nat) (A26:Option Addr) (n27:Nat) (c28:Nat) (r:(List Int) × Bf):Cx:=⟨Tryd.prog,71,Tryd.f71,46,Ko w F g15 g17 g20 Tb16 Tb18 Tb21 A2 n3 c4 z6 A30 n31 c32 z34 A38 n39 c40 z42 A22 n23 c24 A26 n27 c28 r,w⟩
def Me (rl:(List Int)→Int→Int→(List Int)→Bf→((List Int) × Bf)→Prop):Prop:=∀ (w:World) (F:Nat→Prop) (x1:List Int) (x8:Int) (x9:Int) (x10:List Int) (x19:Bf) (z6:Nat) (A2:Option Addr) (n3:Nat) (c4:Nat) (A11:Option Addr) (n12:Nat) (c13:Nat) (g15:Nat) (Tb16:Nat) (g17:Nat) (Tb18:Nat) (g20:Nat) (Tb21:Nat) (A22:Option Addr) (n23:Nat) (c24:Nat) (A26:Option Addr) (n27:Nat) (c28:Nat) (z34:Nat) (A30:Option Addr) (n31:Nat) (c32:Nat) (cs36:List Value) (z42:Nat) (A38:Option Addr) (n39:Nat) (c40:Nat) (hz7:z6≤w.heap.size) (h5:Ow z6 A2 n3 c4 x1) (h14:Rw (G8 .i64) w (St w [(Value.slice A2 n3 c4).ownBlock.toList,[g15],[g17],[g20],(Value.slice A30 n31 c32).ownBlock.toList,(Value.slice A38 n39 c40).ownBlock.toList]).av A11 n12 c13 x10) (h25:Rw Dl w (St w [(Value.slice A2 n3 c4).ownBlock.toList,[g15],[g17],[g20],(Value.slice A30 n31 c32).ownBlock.toList,(Value.slice A38 n39 c40).ownBlock.toList]).av A22 n23 c24 x19.nodes) (h29:Rw F8 w (St w [(Value.slice A2 n3 c4).ownBlock.toList,[g15],[g17],[g20],(Value.slice A30 n31 c32).ownBlock.toList,(Value.slice A38 n39 c40).ownBlock.toList]).av A26 n27 c28 x19.tree) (hz35:z34≤w.heap.size) (h33:Ow z34 A30 n31 c32 x19.of) (hC37:Cells (Kd.slice (G8 .i64)) w F x19.of cs36) (hz43:z42≤w.heap.size) (h41:Ow z42 A38 n39 c40 x19.known) (hF:∀ b,F b→b < w.heap.size∧∀ o ∈ ([(Value.slice A2 n3 c4).ownBlock.toList,[g15],[g17],[g20],(Value.slice A30 n31 c32).ownBlock.toList,(Value.slice A38 n39 c40).ownBlock.toList]:List (List Nat)),b ∉ o) (hL0:B.Loc w w [.own (.slice A2 n3 c4) 3 1 n3 (x1.flatMap (eI .i64)),.box g15 Tb16 [.pointer (some ⟨g20,0,none⟩)],.box g17 Tb18 [.func (.func 71) #[] #[.pointer (some ⟨g15,0,none⟩),.pointer (some ⟨g17,0,none⟩)]],.box g20 Tb21 [.slice A22 n23 c24,.slice A26 n27 c28,.slice A30 n31 c32,.slice A38 n39 c40],.own (.slice A30 n31 c32) 36 1 n31 cs36,.own (.slice A38 n39 c40) 4 1 n39 (x19.known.flatMap eB)] [Sm w.heap.size F w [(Value.slice A2 n3 c4).ownBlock.toList,[g15],[g17],[g20],(Value.slice A30 n31 c32).ownBlock.toList,(Value.slice A38 n39 c40).ownBlock.toList],St w [(Value.slice A2 n3 c4).ownBlock.toList,[g15],[g17],[g20],(Value.slice A30 n31 c32).ownBlock.toList,(Value.slice A38 n39 c40).ownBlock.toList]]) (r:(List Int) × Bf) (h:rl x1 x8 x9 x10 x19 r),Calls Tryd.prog 71 #[.slice A2 n3 c4,.int .i64 x8,.int .i64 x9,.slice A11 n12 c13,.pointer (some ⟨g15,0,none⟩),.pointer (some ⟨g17,0,none⟩)] w (Ko w F g15 g17 g20 Tb16 Tb18 Tb21 A2 n3 c4 z6 A30 n31 c32 z34 A38 n39 c40 z42 A22 n23 c24 A26 n27 c28 r)
noncomputable abbrev q40c3:=Code.fst (Code.snd (Dv Tryd.f40))
noncomputable abbrev q40c4:=Code.snd (Code.snd (Dv Tryd.f40))
noncomputable abbrev q40c6:=Code.snd q40c4
noncomputable abbrev q40c8:=Code.snd (Code.fst q40c4)
abbrev Lr (w:World) (F:Nat→Prop) (g2:Nat) (Tb3:Nat) (A12:Option Addr) (n13:Nat) (c14:Nat) (z16:Nat) (A20:Option Addr) (n21:Nat) (c22:Nat) (z24:Nat) (A4:Option Addr) (n5:Nat) (c6:Nat) (A8:Option Addr) (n9:Nat) (c10:Nat) (r:(List Int) × Bf):Ending→World→Prop:=fun e w'=>∃ Ar0:Option Addr,∃ nr0:Nat,∃ cr0:Nat,∃ Ar3:Option Addr,∃ nr3:Nat,∃ cr3:Nat,∃ cs3:List Value,∃ Ar4:Option Addr,∃ nr4:Nat,∃ cr4:Nat,e=.returned (.slice Ar0 nr0 cr0)∧B.Loc w w' [.box g2 Tb3 [.slice A4 n5 c6,.slice A8 n9 c10,.slice Ar3 nr3 cr3,.slice Ar4 nr4 cr4],.own (.slice Ar0 nr0 cr0) 3 1 nr0 (r.1.flatMap (eI .i64)),.own (.slice Ar3 nr3 cr3) 36 1 nr3 cs3,.own (.slice Ar4 nr4 cr4) 4 1 nr4 (r.2.known.flatMap eB)] [St w [[g2],(Value.slice A12 n13 c14).ownBlock.toList,(Value.slice A20 n21 c22).ownBlock.toList]]∧Ow w.heap.size Ar0 nr0 cr0 r.1∧(r.1=[]→Ar0=none)∧Ow z16 Ar3 nr3 cr3 r.2.of∧Cells (Kd.slice (G8 .i64)) w' (Nw w w' F [.box g2 Tb3 [.slice A4 n5 c6,.slice A8 n9 c10,.slice Ar3 nr3 cr3,.slice Ar4 nr4 cr4],.own (.slice Ar0 nr0 cr0) 3 1 nr0 (r.1.flatMap (eI .i64)),.own (.slice Ar3 nr3 cr3) 36 1 nr3 cs3,.own (.slice Ar4 nr4 cr4) 4 1 nr4 (r.2.known.flatMap eB)]) r.2.of cs3∧Ow z24 Ar4 nr4 cr4 r.2.known
noncomputable abbrev Sj (w:World) (F:Nat→Prop) (g2:Nat) (Tb3:Nat) (A12:Option Addr) (n13:Nat) (c14:Nat) (z16:Nat) (A20:Option Addr) (n21:Nat) (c22:Nat) (z24:Nat) (A4:Option Addr) (n5:Nat) (c6:Nat) (A8:Option Addr) (n9:Nat) (c10:Nat) (r:(List Int) × Bf):Cx:=⟨Tryd.prog,40,Tryd.f40,85,Lr w F g2 Tb3 A12 n13 c14 z16 A20 n21 c22 z24 A4 n5 c6 A8 n9 c10 r,w⟩
def Oc (rl:Bf→Int→Int→((List Int) × Bf)→Prop):Prop:=∀ (w:World) (F:Nat→Prop) (x1:Bf) (x26:Int) (x27:Int) (g2:Nat) (Tb3:Nat) (A4:Option Addr) (n5:Nat) (c6:Nat) (A8:Option Addr) (n9:Nat) (c10:Nat) (z16:Nat) (A12:Option Addr) (n13:Nat) (c14:Nat) (cs18:List Value) (z24:Nat) (A20:Option Addr) (n21:Nat) (c22:Nat) (h7:Rw Dl w (St w [[g2],(Value.slice A12 n13 c14).ownBlock.toList,(Value.slice A20 n21 c22).ownBlock.toList]).av A4 n5 c6 x1.nodes) (h11:Rw F8 w (St w [[g2],(Value.slice A12 n13 c14).ownBlock.toList,(Value.slice A20 n21 c22).ownBlock.toList]).av A8 n9 c10 x1.tree) (hz17:z16≤w.heap.size) (h15:Ow z16 A12 n13 c14 x1.of) (hC19:Cells (Kd.slice (G8 .i64)) w F x1.of cs18) (hz25:z24≤w.heap.size) (h23:Ow z24 A20 n21 c22 x1.known) (hF:∀ b,F b→b < w.heap.size∧∀ o ∈ ([[g2],(Value.slice A12 n13 c14).ownBlock.toList,(Value.slice A20 n21 c22).ownBlock.toList]:List (List Nat)),b ∉ o) (hL0:B.Loc w w [.box g2 Tb3 [.slice A4 n5 c6,.slice A8 n9 c10,.slice A12 n13 c14,.slice A20 n21 c22],.own (.slice A12 n13 c14) 36 1 n13 cs18,.own (.slice A20 n21 c22) 4 1 n21 (x1.known.flatMap eB)] [Sm w.heap.size F w [[g2],(Value.slice A12 n13 c14).ownBlock.toList,(Value.slice A20 n21 c22).ownBlock.toList],St w [[g2],(Value.slice A12 n13 c14).ownBlock.toList,(Value.slice A20 n21 c22).ownBlock.toList]]) (r:(List Int) × Bf) (h:rl x1 x26 x27 r),Calls Tryd.prog 40 #[.pointer (some ⟨g2,0,none⟩),.int .i64 x26,.int .i64 x27] w (Lr w F g2 Tb3 A12 n13 c14 z16 A20 n21 c22 z24 A4 n5 c6 A8 n9 c10 r)
theorem Yv (rc_query_matcher_fits_1:(List Int)→Int→Int→(List Int)→Bf→((List Int) × Bf)→Prop) (rc_query_matcher_fits:Bf→Int→Int→((List Int) × Bf)→Prop) (ih_query_matcher_fits_1:Me rc_query_matcher_fits_1) (ih_query_matcher_fits:Oc rc_query_matcher_fits):Me (Oe rc_query_matcher_fits_1 rc_query_matcher_fits):=by
 intro w F x1 x8 x9 x10 x19 z6 A2 n3 c4 A11 n12 c13 g15 Tb16 g17 Tb18 g20 Tb21 A22 n23 c24 A26 n27 c28 z34 A30 n31 c32 cs36 z42 A38 n39 c40 hz7 h5 h14 h25 h29 hz35 h33 hC37 hz43 h41 hF hL0 r h
 unfold Oe at h
 have hC37:=Cells.into (bs:=[(Value.slice A2 n3 c4).ownBlock.toList,[g15],[g17],[g20],(Value.slice A30 n31 c32).ownBlock.toList,(Value.slice A38 n39 c40).ownBlock.toList]) hF hC37
 refine Ce (vs:=[.slice A2 n3 c4,.int .i64 x8,.int .i64 x9,.slice A11 n12 c13,.pointer (some ⟨g15,0,none⟩),.pointer (some ⟨g17,0,none⟩)]) 46 Tryd.func71 rfl Tryd.ntmps71 rfl hL0 ?_
 show G (Ny w F g15 g17 g20 Tb16 Tb18 Tb21 A2 n3 c4 z6 A30 n31 c32 z34 A38 n39 c40 z42 A22 n23 c24 A26 n27 c28 r) _ _ _ _
 refine Ah rfl<|Ac rfl rfl<|Aa 0 rfl (Af rfl) gn rfl<|Aj 1 rfl<|Ah rfl<|Ah rfl<|Ac rfl rfl<|Aa 0 rfl (Ad rfl) gn rfl<|Aa 1 rfl (Be rfl rfl rfl) gn rfl<|Aj 2 rfl ?_
 by_cases hp44:x8=0
 ·have h:=Ap hp44 h
  refine Bz rfl _ rfl ((eqi hp44))<|Ah rfl<|Ac rfl rfl<|Aa 0 rfl (Ad rfl) gn rfl<|Aa 1 rfl (Af rfl) gn rfl<|Aj 2 rfl ?_
  obtain ⟨hne,h⟩:=h
  refine C9 [.slice A2 n3 c4] rfl Tryd.func71 rfl (.tmp rfl (.nil)) fun wr hLr=>?_
  have hMr:=hLr.pkI (.c 1 rfl (.c 2 rfl (.c 3 rfl (.c 0 rfl (.c 4 rfl (.c 5 rfl .n)))))) .n (by kernel_rfl) (.c 1 rfl .n)
  have hMi:=hLr.selI (.c 1 rfl (.c 2 rfl (.c 3 rfl (.c 0 rfl (.c 4 rfl (.c 5 rfl .n))))))
  show Ko w F g15 g17 g20 Tb16 Tb18 Tb21 A2 n3 c4 z6 A30 n31 c32 z34 A38 n39 c40 z42 A22 n23 c24 A26 n27 c28 r (.returned (Ci [.slice A2 n3 c4])) wr
  rw [h]
  exact ⟨A2,n3,c4,A30,n31,c32,cs36,A38,n39,c40,rfl,hMr,h5,(fun e=>absurd e hne),h33,(hLr.outC (s:=Sm w.heap.size F w [(Value.slice A2 n3 c4).ownBlock.toList,[g15],[g17],[g20],(Value.slice A30 n31 c32).ownBlock.toList,(Value.slice A38 n39 c40).ownBlock.toList]) hMi (me 0 rfl) Sm.ok hC37),h41⟩
 ·have h:=Aq hp44 h
  refine Bg rfl _ rfl ((nei hp44))<|Cb rfl<|Ah rfl<|Ah rfl<|Ac rfl rfl<|Aa 0 rfl (Ad rfl) gn rfl<|Aa 1 rfl (Dj Jc rfl h14.hq) gn rfl<|Aa 2 rfl (Ad rfl) gn rfl<|Aj 3 rfl<|Df rfl<|Io rfl ?_
  have key1:∀ s,Bl (fun (s:Int × (List (List Int)) × (List Bool)) o=>F7 x10 rc_query_matcher_fits x19 x9 x1 rc_query_matcher_fits_1 x8 s.1 s.2.1 s.2.2 o) s r→(fun (s:Int × (List (List Int)) × (List Bool))=>∀ (A238:Option Addr) (n239:Nat) (c240:Nat) (h241:Ow z34 A238 n239 c240 s.2.1) (cs242:List Value) (sw243:World) (sb244:List (List Nat)) (hC245:Cells (Kd.slice (G8 .i64)) (Sm w.heap.size F sw243 sb244).w (Sm w.heap.size F sw243 sb244).av s.2.1 cs242) (A247:Option Addr) (n248:Nat) (c249:Nat) (h250:Ow z42 A247 n248 c249 s.2.2),G (Ny w F g15 g17 g20 Tb16 Tb18 Tb21 A2 n3 c4 z6 A30 n31 c32 z34 A38 n39 c40 z42 A22 n23 c24 A26 n27 c28 r) [.code Xd0,.inLoop Xd0,.inBlock 0,.code Xjm] [(0,.slice A2 n3 c4),(1,.int .i64 x8),(2,.int .i64 x9),(3,.slice A11 n12 c13),(4,.pointer (some ⟨g15,0,none⟩)),(5,.pointer (some ⟨g17,0,none⟩)),(17,.slice A11 n12 c13),(18,.int .i64 (x10.length:Int)),(19,.int .i64 s.1)] [.own (.slice A238 n239 c240) 36 1 n239 cs242,.own (.slice A247 n248 c249) 4 1 n248 (s.2.2.flatMap eB),.own (.slice A2 n3 c4) 3 1 n3 (x1.flatMap (eI .i64)),.box g15 Tb16 [.pointer (some ⟨g20,0,none⟩)],.box g17 Tb18 [.func (.func 71) #[] #[.pointer (some ⟨g15,0,none⟩),.pointer (some ⟨g17,0,none⟩)]],.box g20 Tb21 [.slice A22 n23 c24,.slice A26 n27 c28,.slice A238 n239 c240,.slice A247 n248 c249]] [Sm w.heap.size F sw243 sb244,Sm w.heap.size F w [(Value.slice A2 n3 c4).ownBlock.toList,[g15],[g17],[g20],(Value.slice A30 n31 c32).ownBlock.toList,(Value.slice A38 n39 c40).ownBlock.toList],St w [(Value.slice A2 n3 c4).ownBlock.toList,[g15],[g17],[g20],(Value.slice A30 n31 c32).ownBlock.toList,(Value.slice A38 n39 c40).ownBlock.toList]]) s:=by
   intro s hs
   refine Bl.ind (mot:=(fun (s:Int × (List (List Int)) × (List Bool))=>∀ (A238:Option Addr) (n239:Nat) (c240:Nat) (h241:Ow z34 A238 n239 c240 s.2.1) (cs242:List Value) (sw243:World) (sb244:List (List Nat)) (hC245:Cells (Kd.slice (G8 .i64)) (Sm w.heap.size F sw243 sb244).w (Sm w.heap.size F sw243 sb244).av s.2.1 cs242) (A247:Option Addr) (n248:Nat) (c249:Nat) (h250:Ow z42 A247 n248 c249 s.2.2),G (Ny w F g15 g17 g20 Tb16 Tb18 Tb21 A2 n3 c4 z6 A30 n31 c32 z34 A38 n39 c40 z42 A22 n23 c24 A26 n27 c28 r) [.code Xd0,.inLoop Xd0,.inBlock 0,.code Xjm] [(0,.slice A2 n3 c4),(1,.int .i64 x8),(2,.int .i64 x9),(3,.slice A11 n12 c13),(4,.pointer (some ⟨g15,0,none⟩)),(5,.pointer (some ⟨g17,0,none⟩)),(17,.slice A11 n12 c13),(18,.int .i64 (x10.length:Int)),(19,.int .i64 s.1)] [.own (.slice A238 n239 c240) 36 1 n239 cs242,.own (.slice A247 n248 c249) 4 1 n248 (s.2.2.flatMap eB),.own (.slice A2 n3 c4) 3 1 n3 (x1.flatMap (eI .i64)),.box g15 Tb16 [.pointer (some ⟨g20,0,none⟩)],.box g17 Tb18 [.func (.func 71) #[] #[.pointer (some ⟨g15,0,none⟩),.pointer (some ⟨g17,0,none⟩)]],.box g20 Tb21 [.slice A22 n23 c24,.slice A26 n27 c28,.slice A238 n239 c240,.slice A247 n248 c249]] [Sm w.heap.size F sw243 sb244,Sm w.heap.size F w [(Value.slice A2 n3 c4).ownBlock.toList,[g15],[g17],[g20],(Value.slice A30 n31 c32).ownBlock.toList,(Value.slice A38 n39 c40).ownBlock.toList],St w [(Value.slice A2 n3 c4).ownBlock.toList,[g15],[g17],[g20],(Value.slice A30 n31 c32).ownBlock.toList,(Value.slice A38 n39 c40).ownBlock.toList]])) ?_ hs
   clear hs s
   intro s o1 h hO1
   obtain ⟨x236,x237,x246⟩:=s
   show ∀ (A238:Option Addr) (n239:Nat) (c240:Nat) (h241:Ow z34 A238 n239 c240 x237) (cs242:List Value) (sw243:World) (sb244:List (List Nat)) (hC245:Cells (Kd.slice (G8 .i64)) (Sm w.heap.size F sw243 sb244).w (Sm w.heap.size F sw243 sb244).av x237 cs242) (A247:Option Addr) (n248:Nat) (c249:Nat) (h250:Ow z42 A247 n248 c249 x246),G (Ny w F g15 g17 g20 Tb16 Tb18 Tb21 A2 n3 c4 z6 A30 n31 c32 z34 A38 n39 c40 z42 A22 n23 c24 A26 n27 c28 r) [.code Xd0,.inLoop Xd0,.inBlock 0,.code Xjm] [(0,.slice A2 n3 c4),(1,.int .i64 x8),(2,.int .i64 x9),(3,.slice A11 n12 c13),(4,.pointer (some ⟨g15,0,none⟩)),(5,.pointer (some ⟨g17,0,none⟩)),(17,.slice A11 n12 c13),(18,.int .i64 (x10.length:Int)),(19,.int .i64 x236)] [.own (.slice A238 n239 c240) 36 1 n239 cs242,.own (.slice A247 n248 c249) 4 1 n248 (x246.flatMap eB),.own (.slice A2 n3 c4) 3 1 n3 (x1.flatMap (eI .i64)),.box g15 Tb16 [.pointer (some ⟨g20,0,none⟩)],.box g17 Tb18 [.func (.func 71) #[] #[.pointer (some ⟨g15,0,none⟩),.pointer (some ⟨g17,0,none⟩)]],.box g20 Tb21 [.slice A22 n23 c24,.slice A26 n27 c28,.slice A238 n239 c240,.slice A247 n248 c249]] [Sm w.heap.size F sw243 sb244,Sm w.heap.size F w [(Value.slice A2 n3 c4).ownBlock.toList,[g15],[g17],[g20],(Value.slice A30 n31 c32).ownBlock.toList,(Value.slice A38 n39 c40).ownBlock.toList],St w [(Value.slice A2 n3 c4).ownBlock.toList,[g15],[g17],[g20],(Value.slice A30 n31 c32).ownBlock.toList,(Value.slice A38 n39 c40).ownBlock.toList]]
   intro A238 n239 c240 h241 cs242 sw243 sb244 hC245 A247 n248 c249 h250
   have h:F7 x10 rc_query_matcher_fits x19 x9 x1 rc_query_matcher_fits_1 x8 x236 x237 x246 o1:=h
   unfold F7 at h
   refine Ah rfl<|Ac rfl rfl<|Aa 0 rfl (Be rfl rfl rfl) gn rfl<|Aj 1 rfl<|Ah rfl ?_
   by_cases hp441:x236 < (x10.length:Int)
   ·have h:=Ap hp441 h
    refine Bz rfl _ rfl ((decide_eq_true hp441))<|Cb rfl<|Ah rfl<|Df rfl<|Ah rfl<|Ac rfl rfl<|Aa 0 rfl (Ad rfl) gn rfl ?_
    obtain ⟨hb442,h⟩:=h
    have hr443:=Rw.readF (s:=St w [(Value.slice A2 n3 c4).ownBlock.toList,[g15],[g17],[g20],(Value.slice A30 n31 c32).ownBlock.toList,(Value.slice A38 n39 c40).ownBlock.toList]) (hl:=(hlI .i64)) (h1:=(Ey .i64)) h14 hb442
    refine Aa 1 rfl (F5 (s:=St w [(Value.slice A2 n3 c4).ownBlock.toList,[g15],[g17],[g20],(Value.slice A30 n31 c32).ownBlock.toList,(Value.slice A38 n39 c40).ownBlock.toList]) Jt rfl rfl h14 hb442) gn rfl<|Aa 2 rfl (Hq (kk:=(x236:Int).toNat * 1) (j:=0) (St w [(Value.slice A2 n3 c4).ownBlock.toList,[g15],[g17],[g20],(Value.slice A30 n31 c32).ownBlock.toList,(Value.slice A38 n39 c40).ownBlock.toList]) H9 rfl hr443 rfl (me 2 rfl)) gn rfl<|Aa 3 rfl (Af rfl) gn rfl<|Aa 4 rfl (Af rfl) gn rfl<|Aj 5 rfl<|Ah rfl<|Ac rfl rfl<|Aa 0 rfl (Au 3 ld_66 rfl rfl rfl) gn rfl<|Aa 1 rfl (Ad rfl) gn rfl<|Aa 2 rfl (Ad rfl) gn rfl ?_
    obtain ⟨r447,hv448,h⟩:=h
    refine Cf 3 rfl (D8 [.pointer (some ⟨g20,0,none⟩),.int .i64 x9,.int .i64 (ix x10 x236)] rfl Tryd.func40 rfl rfl rfl fun w444 hL445=>?_) gn
    have hp446:=pmI hL445 (.c 5 rfl (.c 0 rfl (.c 1 rfl .n))) (.c 2 rfl (.c 3 rfl (.c 4 rfl .n))) (by kernel_rfl)
    refine Calls.mono (ih_query_matcher_fits w444 (Fl ([Sm w.heap.size F sw243 sb244]:List Cc)) (⟨x19.nodes,x19.tree,x237,x246⟩:Bf) x9 (ix x10 x236) g20 Tb21 A22 n23 c24 A26 n27 c28 z34 A238 n239 c240 cs242 z42 A247 n248 c249 (Rw.mono h25 (hL445.toSt hp446 (me 2 rfl))) (Rw.mono h29 (hL445.toSt hp446 (me 2 rfl))) (Nat.le_trans hz35 hL445.env.size) h241 (Cells.mono (hL445.toFl (me 0 rfl) (me 0 rfl)) hC245) (Nat.le_trans hz43 hL445.env.size) h250 (hL445.hFl hp446 (Bi [0] rfl)) (hL445.into hp446 _) r447 hv448) ?_
    rintro _ w467 ⟨A449,n450,c451,A455,n456,c457,cs460,A462,n463,c464,rfl,hM468,h452,ht454,h458,hC461,h465⟩
    obtain ⟨sb471,hL469,hv470⟩:=hL445.callB (Sl:=([Sm w.heap.size F sw243 sb244]:List Cc)) hp446 hM468 F (Bi [0] rfl) ⟨Sm.ok,trivial⟩
    have hC461:Cells (Kd.slice (G8 .i64)) (Sm w.heap.size F w467 sb471).w (Sm w.heap.size F w467 sb471).av r447.2.of cs460:=Cells.mono hv470 hC461
    refine ⟨_,_,_,rfl,hL469,?_⟩
    refine Aa 4 rfl (Af rfl) gn rfl<|Aj 5 rfl<|Ah rfl<|Ac rfl rfl<|Aa 0 rfl (Ad rfl) gn rfl ?_
    obtain ⟨b472,hb473⟩:∃ b,b=A449.isNone:=⟨_,rfl⟩
    have h:=h b472 ⟨Xll hb473 (Ow.weak hL445.env.size h452).hA (Ow.weak hL445.env.size h452).hq,fun e=>by rw [hb473,ht454 e]; rfl⟩
    refine Aa 1 rfl (v_neSL Jc rfl hb473.symm) gn rfl<|Aj 2 rfl ?_
    by_cases hp474:b472=true
    ·have h:=Ap hp474 h
     refine Bg rfl _ rfl ((nf hp474))<|Cb rfl<|D7<|Ac rfl rfl<|Aa 0 rfl (Be rfl rfl rfl) gn rfl<|Aa 1 rfl (Ad rfl) gn rfl<|Aj 2 rfl<|Dp<|Ba 0 rfl<|Ba 6 rfl<|Ba 6 rfl<|Ba 6 rfl ?_
     refine Ba 6 rfl<|Ba 6 rfl ?_
     have ih:=Out.inl hO1 h
     exact Dc [0,2,3] (ih A455 n456 c457 h458 cs460 w467 sb471 hC461 A462 n463 c464 h465) ⟨rfl,rfl,rfl,rfl,rfl,rfl,rfl,rfl,rfl,trivial⟩ (.cons_cons _ (.cons_cons _ (.cons_cons _ (.cons_cons _ (.cons_cons _ (.cons_cons _ (.cons _ (.slnil)))))))) rfl
    ·have h:=Aq hp474 h
     refine Bz rfl _ rfl ((nt (bf hp474)))<|Ah rfl ?_
     obtain ⟨x478,hv479,h⟩:=h
     obtain ⟨hb480,h⟩:=h
     obtain ⟨hb481,h⟩:=h
     obtain ⟨r486,hv487,h⟩:=h
     have hns:Region.noSelect (Code.ops q71c34)=true:=by kernel_rfl
     refine Vu [.box g20 Tb21 [.slice A22 n23 c24,.slice A26 n27 c28,.slice A455 n456 c457,.slice A462 n463 c464],.own (.slice A449 n450 c451) 3 1 n450 (r447.1.flatMap (eI .i64)),.own (.slice A455 n456 c457) 36 1 n456 cs460,.own (.slice A462 n463 c464) 4 1 n463 (r447.2.known.flatMap eB),.box g15 Tb16 [.pointer (some ⟨g20,0,none⟩)],.box g17 Tb18 [.func (.func 71) #[] #[.pointer (some ⟨g15,0,none⟩),.pointer (some ⟨g17,0,none⟩)]]] [Sm w.heap.size F w467 sb471,Sm w.heap.size F sw243 sb244,Sm w.heap.size F w [(Value.slice A2 n3 c4).ownBlock.toList,[g15],[g17],[g20],(Value.slice A30 n31 c32).ownBlock.toList,(Value.slice A38 n39 c40).ownBlock.toList],St w [(Value.slice A2 n3 c4).ownBlock.toList,[g15],[g17],[g20],(Value.slice A30 n31 c32).ownBlock.toList,(Value.slice A38 n39 c40).ownBlock.toList]] [14,15] 16 rfl rfl mix rfl (.cons_cons _ (.cons_cons _ (.cons_cons _ (.cons_cons _ (.cons _ (.cons_cons _ (.cons_cons _ (.slnil)))))))) (Bi [0,1,2,3] rfl)<|wfv 0 rfl (Au 5 ld_101 rfl rfl rfl) gn hns (by kernel_rfl)<|wfv 1 rfl (Ad rfl) gn hns (by kernel_rfl)<|wfv 2 rfl (Ad rfl) gn hns (by kernel_rfl)<|wfv 4 rfl (Ad rfl) gn hns (by kernel_rfl)<|wfv 5 rfl (Be rfl rfl rfl) gn hns (by kernel_rfl)<|wfv 6 rfl (Ad rfl) gn hns (by kernel_rfl)<|wfv 7 rfl (Ad rfl) gn hns (by kernel_rfl)<|wfv 8 rfl (Dj Jc rfl (Ow.weak hL445.env.size h452).hq) gn hns (by kernel_rfl)<|wfv 9 rfl (Be rfl rfl rfl) gn hns (by kernel_rfl)<|wfv 10 rfl (Ad rfl) gn hns (by kernel_rfl)<|wfv 11 rfl (Ad rfl) gn hns (by kernel_rfl) ?_
     refine wfv 12 rfl (Be rfl rfl rfl) gn hns (by kernel_rfl) ?_
     have h601:=Rw.cut (sz:=1) (lv:=w64 (x236 + 1)) (hv:=((n12:Nat):Int)) (mv:=((c13:Nat):Int)) h14 rfl (by have q:=hb481; have q1:=h14.hq; have q2:=h14.hn; omega) (by have q:=hb481; have q1:=h14.hq; have q2:=h14.hn; omega) (by have q:=hb481; have q1:=h14.hq; have q2:=h14.hn; omega)
     rw [cut_all h14.hq] at h601
     refine wfv 13 rfl (v_cut (sz:=1) (n:=n12) (c:=c13) (w64 (x236 + 1)) ((n12:Nat):Int) ((c13:Nat):Int) Jt rfl (by_ rfl) bn bn (by have q:=hb481; have q1:=h14.hq; have q2:=h14.hn; omega) (by have q:=hb481; have q1:=h14.hq; have q2:=h14.hn; omega) (by have q:=hb481; have q1:=h14.hq; have q2:=h14.hn; omega) h14.hn rfl) gn hns (by kernel_rfl) ?_
     refine Cm [3] (by kernel_rfl) rfl ⟨Et 3 rfl gn rfl (L8 (zs:=x478) (cells':=x478.flatMap (eI .i64)) 4 Zg rfl rfl rfl h5 hz7 (Src.ownF (hl:=(hlI .i64)) (h1:=(Ey .i64)) 1 rfl (Ow.weak hL445.env.size h452)) (by rw [hv479,List.flatMap_append] <;> rfl) (Ff hv479 (Ow.weak hL445.env.size h452).hq) hb480 rfl rfl fun A605 c606 h607=>?_),trivial⟩
     refine ⟨Bi [0,1,2,3,5,6] rfl,Bi [0,1,2,3] rfl,?_⟩
     refine Cm [14] (by kernel_rfl) rfl ⟨Q7 14 rfl gn rfl (J7 [.slice A605 (n3 + n450) c606,.int .i64 (w64 (x8 - 1)),.int .i64 (w64 (x9 + (r447.1.length:Int))),.slice (if (((c13:Nat):Int):Int).toNat=(w64 (x236 + 1):Int).toNat then A11 else A11.map (·.add ((w64 (x236 + 1):Int).toNat * 1))) ((((n12:Nat):Int):Int).toNat - (w64 (x236 + 1):Int).toNat) ((((c13:Nat):Int):Int).toNat - (w64 (x236 + 1):Int).toNat)] [.pointer (some ⟨g15,0,none⟩),.pointer (some ⟨g17,0,none⟩)] rfl rfl Tryd.func71 rfl rfl rfl fun w608 hL609=>?_),trivial⟩
     have hp610:=pmI hL609 (.c 4 rfl (.c 5 rfl (.c 6 rfl (.c 0 rfl (.c 2 rfl (.c 3 rfl .n)))))) (.c 1 rfl .n) (by kernel_rfl)
     refine Calls.mono (ih_query_matcher_fits_1 w608 (Fl ([Sm w.heap.size F w467 sb471]:List Cc)) x478 (w64 (x8 - 1)) (w64 (x9 + (r447.1.length:Int))) (x10.drop (w64 (x236 + 1):Int).toNat) (⟨x19.nodes,x19.tree,r447.2.of,r447.2.known⟩:Bf) z6 A605 (n3 + n450) c606 (if (((c13:Nat):Int):Int).toNat=(w64 (x236 + 1):Int).toNat then A11 else A11.map (·.add ((w64 (x236 + 1):Int).toNat * 1))) ((((n12:Nat):Int):Int).toNat - (w64 (x236 + 1):Int).toNat) ((((c13:Nat):Int):Int).toNat - (w64 (x236 + 1):Int).toNat) g15 Tb16 g17 Tb18 g20 Tb21 A22 n23 c24 A26 n27 c28 z34 A455 n456 c457 cs460 z42 A462 n463 c464 (Nat.le_trans hz7 hL609.env.size) h607 (Rw.mono h601 (hL609.toSt hp610 (me 3 rfl))) (Rw.mono h25 (hL609.toSt hp610 (me 3 rfl))) (Rw.mono h29 (hL609.toSt hp610 (me 3 rfl))) (Nat.le_trans hz35 hL609.env.size) h458 (Cells.mono (hL609.toFl (me 0 rfl) (me 0 rfl)) hC461) (Nat.le_trans hz43 hL609.env.size) h465 (hL609.hFl hp610 (Bi [0] rfl)) (hL609.into hp610 _) r486 hv487) ?_
     rintro _ w626 ⟨A611,n612,c613,A616,n617,c618,cs620,A622,n623,c624,rfl,hM627,h614,ht615,h619,hC621,h625⟩
     obtain ⟨sb630,hL628,hv629⟩:=hL609.callB (Sl:=([Sm w.heap.size F w467 sb471]:List Cc)) hp610 hM627 F (Bi [0] rfl) ⟨Sm.ok,trivial⟩
     have hC621:Cells (Kd.slice (G8 .i64)) (Sm w.heap.size F w626 sb630).w (Sm w.heap.size F w626 sb630).av r486.2.of cs620:=Cells.mono hv629 hC621
     refine ⟨_,_,_,rfl,hL628,?_⟩
     unfold NxL
     refine Cm [15] (by kernel_rfl) rfl ⟨Q7 15 rfl gn rfl (Nk (Af rfl) rfl ?_),trivial⟩
     unfold NxL
     refine E8 (by kernel_rfl) ?_
     have h:=Out.inr hO1 h
     refine C9 [.slice A611 n612 c613] rfl Tryd.func71 rfl (.tmp rfl (.nil)) fun wr hLr=>?_
     have hMr:=hLr.pkI (.c 0 rfl (.c 1 rfl (.c 2 rfl (.c 3 rfl (.c 4 rfl (.c 5 rfl .n)))))) (.c 6 rfl .n) (by kernel_rfl) (.c 4 rfl .n)
     have hMi:=hLr.selI (.c 0 rfl (.c 1 rfl (.c 2 rfl (.c 3 rfl (.c 4 rfl (.c 5 rfl .n))))))
     show Ko w F g15 g17 g20 Tb16 Tb18 Tb21 A2 n3 c4 z6 A30 n31 c32 z34 A38 n39 c40 z42 A22 n23 c24 A26 n27 c28 r (.returned (Ci [.slice A611 n612 c613])) wr
     rw [h]
     exact ⟨A611,n612,c613,A616,n617,c618,cs620,A622,n623,c624,rfl,hMr,h614,ht615,h619,(hLr.outC (s:=Sm w.heap.size F w626 sb630) hMi (me 0 rfl) Sm.ok hC621),h625⟩
   ·have h:=Aq hp441 h
    refine Bg rfl _ rfl ((decide_eq_false hp441))<|Gp [.code Xjm] rfl rfl<|Ah rfl<|Ac rfl rfl<|Aa 0 rfl (Af rfl) gn rfl<|Aj 1 rfl<|Nr 3 1 ?_
    have h:=Out.inr hO1 h
    refine C9 [.slice none 0 0] rfl Tryd.func71 rfl (.tmp rfl (.nil)) fun wr hLr=>?_
    have hMr:=hLr.pkI (.c 4 rfl (.c 5 rfl (.c 6 rfl (.c 0 rfl (.c 1 rfl (.c 2 rfl .n)))))) (.c 3 rfl .n) (by kernel_rfl) (.c 2 rfl .n)
    have hMi:=hLr.selI (.c 4 rfl (.c 5 rfl (.c 6 rfl (.c 0 rfl (.c 1 rfl (.c 2 rfl .n))))))
    show Ko w F g15 g17 g20 Tb16 Tb18 Tb21 A2 n3 c4 z6 A30 n31 c32 z34 A38 n39 c40 z42 A22 n23 c24 A26 n27 c28 r (.returned (Ci [.slice none 0 0])) wr
    rw [h]
    exact ⟨none,0,0,A238,n239,c240,cs242,A247,n248,c249,rfl,hMr,(Ow.weak hz7 (Ow.nil (z:=w.heap.size))),(fun _=>rfl),h241,(hLr.outC (s:=Sm w.heap.size F sw243 sb244) hMi (me 0 rfl) Sm.ok hC245),h250⟩
  refine Ba 3 rfl<|Ba 3 rfl<|Ba 3 rfl<|Ba 3 rfl<|Ba 5 rfl<|Ba 5 rfl ?_
  exact Dc [0,0,1] (key1 _ h A30 n31 c32 h33 cs36 w [(Value.slice A2 n3 c4).ownBlock.toList,[g15],[g17],[g20],(Value.slice A30 n31 c32).ownBlock.toList,(Value.slice A38 n39 c40).ownBlock.toList] hC37 A38 n39 c40 h41) ⟨rfl,rfl,rfl,rfl,rfl,rfl,rfl,rfl,rfl,trivial⟩ (.cons_cons _ (.cons_cons _ (.cons_cons _ (.cons_cons _ (.cons_cons _ (.cons_cons _ (.slnil))))))) rfl
theorem Xa7 (rc_query_matcher_fits_1:(List Int)→Int→Int→(List Int)→Bf→((List Int) × Bf)→Prop) (rc_query_matcher_fits:Bf→Int→Int→((List Int) × Bf)→Prop) (ih_query_matcher_fits_1:Me rc_query_matcher_fits_1) (ih_query_matcher_fits:Oc rc_query_matcher_fits):Oc (Ji rc_query_matcher_fits_1 rc_query_matcher_fits):=by
 intro w F x1 x26 x27 g2 Tb3 A4 n5 c6 A8 n9 c10 z16 A12 n13 c14 cs18 z24 A20 n21 c22 h7 h11 hz17 h15 hC19 hz25 h23 hF hL0 r h
 unfold Ji at h
 have hC19:=Cells.into (bs:=[[g2],(Value.slice A12 n13 c14).ownBlock.toList,(Value.slice A20 n21 c22).ownBlock.toList]) hF hC19
 refine Ce (vs:=[.pointer (some ⟨g2,0,none⟩),.int .i64 x26,.int .i64 x27]) 85 Tryd.func40 rfl Tryd.ntmps40 rfl hL0 ?_
 show G (Sj w F g2 Tb3 A12 n13 c14 z16 A20 n21 c22 z24 A4 n5 c6 A8 n9 c10 r) _ _ _ _
 refine Ah rfl<|Ac rfl rfl ?_
 refine Cf 0 rfl (V5 [.pointer (some ⟨g2,0,none⟩)] rfl rfl rfl fun gb28=>?_) gn
 refine Aa 1 rfl (Af rfl) gn rfl<|Aj 2 rfl<|Ah rfl ?_
 obtain ⟨hb30,h⟩:=h
 obtain ⟨hb32,h⟩:=h
 have d1:∀ (gb49:Nat) (gb50:Nat),G (Sj w F g2 Tb3 A12 n13 c14 z16 A20 n21 c22 z24 A4 n5 c6 A8 n9 c10 r) [.code q40c4] [(1,.int .i64 x26),(2,.int .i64 x27),(3,.pointer (some ⟨gb28,0,none⟩)),(7,.pointer (some ⟨gb50,0,none⟩)),(8,.pointer (some ⟨gb49,0,none⟩))] [.box gb49 56 [.string ((ix x1.tree x27).name),.bool ((ix x1.tree x27).named),.string ((ix x1.tree x27).field),.int .i64 ((ix x1.tree x27).from_),.int .i64 ((ix x1.tree x27).to),.int .i64 ((ix x1.tree x27).kids),.int .i64 ((ix x1.tree x27).leaf)],.box gb50 45 [.string ((ix x1.nodes x26).name),.bool ((ix x1.nodes x26).lit),.string ((ix x1.nodes x26).field),.string ((ix x1.nodes x26).capture),.int .i64 ((ix x1.nodes x26).kids)],.box gb28 66 [.pointer (some ⟨g2,0,none⟩)],.box g2 Tb3 [.slice A4 n5 c6,.slice A8 n9 c10,.slice A12 n13 c14,.slice A20 n21 c22],.own (.slice A12 n13 c14) 36 1 n13 cs18,.own (.slice A20 n21 c22) 4 1 n21 (x1.known.flatMap eB)] [Sm w.heap.size F w [[g2],(Value.slice A12 n13 c14).ownBlock.toList,(Value.slice A20 n21 c22).ownBlock.toList],St w [[g2],(Value.slice A12 n13 c14).ownBlock.toList,(Value.slice A20 n21 c22).ownBlock.toList]]:=by
  intro gb49 gb50
  refine Ah rfl<|Ah rfl ?_
  have j1:∀ (x61:Bool) (h:Dh x1 x27 rc_query_matcher_fits_1 x26 x61 r) ,G (Sj w F g2 Tb3 A12 n13 c14 z16 A20 n21 c22 z24 A4 n5 c6 A8 n9 c10 r) [.code q40c8,.code q40c6] [(1,.int .i64 x26),(2,.int .i64 x27),(3,.pointer (some ⟨gb28,0,none⟩)),(7,.pointer (some ⟨gb50,0,none⟩)),(71,.bool x61)] [.box gb50 45 [.string ((ix x1.nodes x26).name),.bool ((ix x1.nodes x26).lit),.string ((ix x1.nodes x26).field),.string ((ix x1.nodes x26).capture),.int .i64 ((ix x1.nodes x26).kids)],.box gb28 66 [.pointer (some ⟨g2,0,none⟩)],.box g2 Tb3 [.slice A4 n5 c6,.slice A8 n9 c10,.slice A12 n13 c14,.slice A20 n21 c22],.own (.slice A12 n13 c14) 36 1 n13 cs18,.own (.slice A20 n21 c22) 4 1 n21 (x1.known.flatMap eB)] [Sm w.heap.size F w [[g2],(Value.slice A12 n13 c14).ownBlock.toList,(Value.slice A20 n21 c22).ownBlock.toList],St w [[g2],(Value.slice A12 n13 c14).ownBlock.toList,(Value.slice A20 n21 c22).ownBlock.toList]]:=by
   intro x61 h
   unfold Dh at h
   by_cases hp62:x61=true
   ·have h:=Ap hp62 h
    refine Bz rfl _ rfl (hp62)<|Ah rfl<|Ac rfl rfl<|Aa 0 rfl (Af rfl) gn rfl<|Aj 1 rfl<|Nr 3 1 ?_
    refine C9 [.slice none 0 0] rfl Tryd.func40 rfl (.tmp rfl (.nil)) fun wr hLr=>?_
    have hMr:=hLr.pkI (.c 3 rfl (.c 0 rfl (.c 4 rfl (.c 5 rfl .n)))) (.c 1 rfl (.c 2 rfl .n)) (by kernel_rfl) (.c 1 rfl .n)
    have hMi:=hLr.selI (.c 3 rfl (.c 0 rfl (.c 4 rfl (.c 5 rfl .n))))
    show Lr w F g2 Tb3 A12 n13 c14 z16 A20 n21 c22 z24 A4 n5 c6 A8 n9 c10 r (.returned (Ci [.slice none 0 0])) wr
    rw [h]
    exact ⟨none,0,0,A12,n13,c14,cs18,A20,n21,c22,rfl,hMr,(Ow.nil (z:=w.heap.size)),(fun _=>rfl),h15,(hLr.outC (s:=Sm w.heap.size F w [[g2],(Value.slice A12 n13 c14).ownBlock.toList,(Value.slice A20 n21 c22).ownBlock.toList]) hMi (me 0 rfl) Sm.ok hC19),h23⟩
   ·have h:=Aq hp62 h
    refine Bg rfl _ rfl ((bf hp62))<|Cb rfl<|Ah rfl<|Ac rfl rfl<|Aa 0 rfl (Au 1 ld_66 rfl rfl rfl) gn rfl<|Aa 1 rfl (Ad rfl) gn rfl ?_
    obtain ⟨r66,hv67,h⟩:=h
    refine Cf 2 rfl (D8 [.pointer (some ⟨g2,0,none⟩),.int .i64 x27] rfl Tryd.func70 rfl rfl rfl fun w63 hL64=>?_) gn
    have hp65:=pmI hL64 (.c 2 rfl (.c 3 rfl (.c 4 rfl .n))) (.c 0 rfl (.c 1 rfl .n)) (by kernel_rfl)
    refine Calls.mono (Zp w63 (Fl ([Sm w.heap.size F w [[g2],(Value.slice A12 n13 c14).ownBlock.toList,(Value.slice A20 n21 c22).ownBlock.toList]]:List Cc)) x1 x27 g2 Tb3 A4 n5 c6 A8 n9 c10 z16 A12 n13 c14 cs18 z24 A20 n21 c22 (Rw.mono h7 (hL64.toSt hp65 (me 1 rfl))) (Rw.mono h11 (hL64.toSt hp65 (me 1 rfl))) (Nat.le_trans hz17 hL64.env.size) h15 (Cells.mono (hL64.toFl (me 0 rfl) (me 0 rfl)) hC19) (Nat.le_trans hz25 hL64.env.size) h23 (hL64.hFl hp65 (Bi [0] rfl)) (hL64.into hp65 _) r66 hv67) ?_
    rintro _ w84 ⟨A72,n73,c74,cs77,A79,n80,c81,A68,n69,c70,rfl,hM85,h75,hC78,h82,h71⟩
    obtain ⟨sb88,hL86,hv87⟩:=hL64.callB (Sl:=([Sm w.heap.size F w [[g2],(Value.slice A12 n13 c14).ownBlock.toList,(Value.slice A20 n21 c22).ownBlock.toList]]:List Cc)) hp65 hM85 F (Bi [0] rfl) ⟨Sm.ok,trivial⟩
    have h71:At (G8 .i64) (Sm w.heap.size F w84 sb88) A68 n69 c70 r66.1:=Rw.mono h71 hv87
    have hC78:Cells (Kd.slice (G8 .i64)) (Sm w.heap.size F w84 sb88).w (Sm w.heap.size F w84 sb88).av r66.2.of cs77:=Cells.mono hv87 hC78
    refine ⟨_,_,_,rfl,hL86,?_⟩
    refine Aa 3 rfl (Af rfl) gn rfl<|Aj 4 rfl<|Ah rfl<|Ac rfl rfl ?_
    refine Cf 0 rfl (Gz [.nilFunc] zr_101 rfl fun gb89=>?_) gn
    refine Aj 1 rfl<|Ah rfl<|Ac rfl rfl<|Aa 0 rfl (X0 [.pointer (some ⟨gb28,0,none⟩),.pointer (some ⟨gb89,0,none⟩)] rfl) gn rfl ?_
    refine Cf 1 rfl (Fp (vs:=[.func (.func 71) #[] #[.pointer (some ⟨gb28,0,none⟩),.pointer (some ⟨gb89,0,none⟩)]]) (cs':=[.func (.func 71) #[] #[.pointer (some ⟨gb28,0,none⟩),.pointer (some ⟨gb89,0,none⟩)]]) (M':=[.box gb89 101 [.func (.func 71) #[] #[.pointer (some ⟨gb28,0,none⟩),.pointer (some ⟨gb89,0,none⟩)]],.box g2 Tb3 [.slice A4 n5 c6,.slice A8 n9 c10,.slice A72 n73 c74,.slice A79 n80 c81],.own (.slice A72 n73 c74) 36 1 n73 cs77,.own (.slice A79 n80 c81) 4 1 n80 (r66.2.known.flatMap eB),.box gb50 45 [.string ((ix x1.nodes x26).name),.bool ((ix x1.nodes x26).lit),.string ((ix x1.nodes x26).field),.string ((ix x1.nodes x26).capture),.int .i64 ((ix x1.nodes x26).kids)],.box gb28 66 [.pointer (some ⟨g2,0,none⟩)]]) 0 sz_101 rfl rfl rfl rfl rfl rfl rfl rfl rfl ?_) gn
    refine Aj 2 rfl<|Ah rfl<|Ac rfl rfl<|Aa 0 rfl (Au 0 ld_101 rfl rfl rfl) gn rfl<|Aa 1 rfl (Ad rfl) gn rfl ?_
    refine Cf 2 rfl (Gw (xs:=([x27]:List Int)) [.int .i64 x27] Rx rfl (by kernel_rfl) rfl rfl rfl rfl fun gb92 h93=>?_) gn
    refine Aa 3 rfl (Aw Uj rfl) gn rfl<|Aa 4 rfl (Au 5 H9 rfl rfl rfl) gn rfl<|Aa 5 rfl (Ad rfl) gn rfl<|Aa 6 rfl (Be rfl rfl rfl) gn rfl<|Aa 7 rfl (Ad rfl) gn rfl ?_
    obtain ⟨r97,hv98,h⟩:=h
    refine Cf 8 rfl (J7 [.slice (some ⟨gb92,0,none⟩) 1 1,.int .i64 ((ix x1.nodes x26).kids),.int .i64 (w64 (x26 + 1)),.slice A68 n69 c70] [.pointer (some ⟨gb28,0,none⟩),.pointer (some ⟨gb89,0,none⟩)] rfl rfl Tryd.func71 rfl rfl rfl fun w94 hL95=>?_) gn
    have hp96:=pmI hL95 (.c 0 rfl (.c 6 rfl (.c 1 rfl (.c 2 rfl (.c 3 rfl (.c 4 rfl .n)))))) (.c 5 rfl .n) (by kernel_rfl)
    refine Calls.mono (ih_query_matcher_fits_1 w94 (Fl ([Sm w.heap.size F w84 sb88]:List Cc)) ([x27]:List Int) ((ix x1.nodes x26).kids) (w64 (x26 + 1)) r66.1 (⟨x1.nodes,x1.tree,r66.2.of,r66.2.known⟩:Bf) w.heap.size (some ⟨gb92,0,none⟩) 1 1 A68 n69 c70 gb28 66 gb89 101 g2 Tb3 A4 n5 c6 A8 n9 c10 z16 A72 n73 c74 cs77 z24 A79 n80 c81 hL95.env.size h93 (Rw.mono h71 (hL95.toSt hp96 (me 0 rfl))) (Rw.mono h7 (hL95.toSt hp96 (me 2 rfl))) (Rw.mono h11 (hL95.toSt hp96 (me 2 rfl))) (Nat.le_trans hz17 hL95.env.size) h75 (Cells.mono (hL95.toFl (me 0 rfl) (me 0 rfl)) hC78) (Nat.le_trans hz25 hL95.env.size) h82 (hL95.hFl hp96 (Bi [0] rfl)) (hL95.into hp96 _) r97 hv98) ?_
    rintro _ w117 ⟨A99,n100,c101,A105,n106,c107,cs110,A112,n113,c114,rfl,hM118,h102,ht104,h108,hC111,h115⟩
    obtain ⟨sb121,hL119,hv120⟩:=hL95.callB (Sl:=([Sm w.heap.size F w84 sb88]:List Cc)) hp96 hM118 F (Bi [0] rfl) ⟨Sm.ok,trivial⟩
    have hC111:Cells (Kd.slice (G8 .i64)) (Sm w.heap.size F w117 sb121).w (Sm w.heap.size F w117 sb121).av r97.2.of cs110:=Cells.mono hv120 hC111
    refine ⟨_,_,_,rfl,hL119,?_⟩
    refine Aa 9 rfl (Af rfl) gn rfl<|Aj 10 rfl ?_
    refine C9 [.slice A99 n100 c101] rfl Tryd.func40 rfl (.tmp rfl (.nil)) fun wr hLr=>?_
    have hMr:=hLr.pkI (.c 2 rfl (.c 3 rfl (.c 4 rfl (.c 5 rfl .n)))) (.c 0 rfl (.c 1 rfl (.c 6 rfl .n))) (by kernel_rfl) (.c 3 rfl .n)
    have hMi:=hLr.selI (.c 2 rfl (.c 3 rfl (.c 4 rfl (.c 5 rfl .n))))
    show Lr w F g2 Tb3 A12 n13 c14 z16 A20 n21 c22 z24 A4 n5 c6 A8 n9 c10 r (.returned (Ci [.slice A99 n100 c101])) wr
    rw [h]
    exact ⟨A99,n100,c101,A105,n106,c107,cs110,A112,n113,c114,rfl,hMr,h102,ht104,h108,(hLr.outC (s:=Sm w.heap.size F w117 sb121) hMi (me 0 rfl) Sm.ok hC111),h115⟩
  refine Ac rfl rfl<|Aa 0 rfl (Aw Zl rfl) gn rfl<|Aa 1 rfl (Au 1 Xcy rfl rfl rfl) gn rfl<|Aa 2 rfl (Ad rfl) gn rfl ?_
  by_cases hp122:((ix x1.nodes x26).lit)=true
  ·have h:=Ap hp122 h
   refine Bv 27 rfl (hp122)<|Aa 3 rfl (Aw Xn3 rfl) (gy 27 rfl rfl) rfl<|Aa 4 rfl (Au 0 Xcy rfl rfl rfl) (gy 27 rfl rfl) rfl<|Aa 5 rfl (Ad rfl) (gy 27 rfl rfl) rfl ?_
   by_cases hp123:((ix x1.tree x27).named)=true
   ·have h:=Ap hp123 h
    refine Bv 30 rfl (hp123)<|Ae 6 rfl (ps 30 rfl rfl rfl)<|Ae 7 rfl (ps 30 rfl rfl rfl)<|Ae 8 rfl (ps 30 rfl rfl rfl)<|Ae 9 rfl (ps 30 rfl rfl rfl)<|Ae 10 rfl (ps 30 rfl rfl rfl)<|Aa 11 rfl (Bd (b:=true) rfl rfl) (gy 27 rfl rfl) rfl<|Aa 12 rfl (Bd (b:=true) rfl rfl) gn rfl<|Aa 13 rfl (Ad rfl) gn rfl<|Ae 14 rfl (ps 38 rfl rfl rfl)<|Ae 15 rfl (ps 38 rfl rfl rfl)<|Ae 16 rfl (ps 38 rfl rfl rfl) ?_
    refine Ae 17 rfl (ps 38 rfl rfl rfl)<|Ae 18 rfl (pu 42 rfl rfl)<|Ae 19 rfl (pu 42 rfl rfl)<|Ae 20 rfl (pu 42 rfl rfl)<|Ae 21 rfl (ps 38 rfl rfl rfl)<|Ae 22 rfl (ps 38 rfl rfl rfl)<|Ae 23 rfl (pu 47 rfl rfl)<|Ae 24 rfl (pu 47 rfl rfl)<|Ae 25 rfl (pu 47 rfl rfl)<|Ae 26 rfl (pu 47 rfl rfl)<|Ae 27 rfl (pu 51 rfl rfl)<|Ae 28 rfl (pu 51 rfl rfl) ?_
    refine Ae 29 rfl (pu 51 rfl rfl)<|Ae 30 rfl (pu 51 rfl rfl)<|Ae 31 rfl (pu 51 rfl rfl)<|Ae 32 rfl (pu 47 rfl rfl)<|Ae 33 rfl (ps 38 rfl rfl rfl)<|Aa 34 rfl (Bd (b:=true) rfl rfl) gn rfl<|Aa 35 rfl (Ad rfl) gn rfl<|Ae 36 rfl (ps 60 rfl rfl rfl)<|Ae 37 rfl (ps 60 rfl rfl rfl)<|Ae 38 rfl (ps 60 rfl rfl rfl)<|Ae 39 rfl (ps 60 rfl rfl rfl)<|Ae 40 rfl (pu 64 rfl rfl) ?_
    refine Ae 41 rfl (pu 64 rfl rfl)<|Ae 42 rfl (pu 64 rfl rfl)<|Ae 43 rfl (pu 64 rfl rfl)<|Ae 44 rfl (pu 64 rfl rfl)<|Ae 45 rfl (ps 60 rfl rfl rfl)<|Aa 46 rfl (Bd (b:=true) rfl rfl) gn rfl<|Aj 47 rfl ?_
    exact Dc [0,1] (j1 true h) ⟨rfl,rfl,rfl,rfl,rfl,trivial⟩ (.cons _ (.cons_cons _ (.cons_cons _ (.cons_cons _ (.cons_cons _ (.cons_cons _ (.slnil))))))) rfl
   ·have h:=Aq hp123 h
    refine Bv 30 rfl ((bf hp123))<|Aa 6 rfl (Aw Xn2 rfl) (gy 30 rfl rfl) rfl<|Aa 7 rfl (Au 0 Ib rfl rfl rfl) (gy 30 rfl rfl) rfl<|Aa 8 rfl (Aw Vt rfl) (gy 30 rfl rfl) rfl<|Aa 9 rfl (Au 1 Ib rfl rfl rfl) (gy 30 rfl rfl) rfl<|Aa 10 rfl (Uf rfl rfl) (gy 30 rfl rfl) rfl<|Aa 11 rfl (Bd (b:=false) rfl rfl) (gy 27 rfl rfl) rfl<|Aa 12 rfl (Bd (b:=true) rfl rfl) gn rfl<|Aa 13 rfl (Ad rfl) gn rfl ?_
    by_cases hp124:(ix x1.tree x27).name=(ix x1.nodes x26).name
    ·have h:=Ap hp124 h
     refine Bv 38 rfl ((nf (Qw hp124)))<|Aa 14 rfl (Aw Zl rfl) (gy 38 rfl rfl) rfl<|Aa 15 rfl (Au 1 Xcy rfl rfl rfl) (gy 38 rfl rfl) rfl<|Aa 16 rfl (Qv rfl) (gy 38 rfl rfl) rfl<|Aa 17 rfl (Ad rfl) (gy 38 rfl rfl) rfl<|Bv 42 rfl ((nf hp122))<|Ae 18 rfl (ps 42 rfl rfl rfl)<|Ae 19 rfl (ps 42 rfl rfl rfl)<|Ae 20 rfl (ps 42 rfl rfl rfl)<|Aa 21 rfl (Bd (b:=false) rfl rfl) (gy 38 rfl rfl) rfl<|Aa 22 rfl (Ad rfl) (gy 38 rfl rfl) rfl<|Ae 23 rfl (ps 47 rfl rfl rfl) ?_
     refine Ae 24 rfl (ps 47 rfl rfl rfl)<|Ae 25 rfl (ps 47 rfl rfl rfl)<|Ae 26 rfl (ps 47 rfl rfl rfl)<|Ae 27 rfl (pu 51 rfl rfl)<|Ae 28 rfl (pu 51 rfl rfl)<|Ae 29 rfl (pu 51 rfl rfl)<|Ae 30 rfl (pu 51 rfl rfl)<|Ae 31 rfl (pu 51 rfl rfl)<|Ae 32 rfl (ps 47 rfl rfl rfl)<|Aa 33 rfl (Bd (b:=false) rfl rfl) (gy 38 rfl rfl) rfl<|Aa 34 rfl (Bd (b:=false) rfl rfl) gn rfl<|Aa 35 rfl (Ad rfl) gn rfl ?_
     refine Aa 36 rfl (Aw Vb rfl) (gy 60 rfl rfl) rfl<|Aa 37 rfl (Au 1 Ib rfl rfl rfl) (gy 60 rfl rfl) rfl<|Aa 38 rfl (Uf rfl rfl) (gy 60 rfl rfl) rfl<|Aa 39 rfl (Ad rfl) (gy 60 rfl rfl) rfl ?_
     by_cases hp125:(ix x1.nodes x26).field=(⟨#[]⟩:ByteArray)
     ·have h:=Ap hp125 h
      refine Bv 64 rfl ((nf (Qw hp125)))<|Ae 40 rfl (ps 64 rfl rfl rfl)<|Ae 41 rfl (ps 64 rfl rfl rfl)<|Ae 42 rfl (ps 64 rfl rfl rfl)<|Ae 43 rfl (ps 64 rfl rfl rfl)<|Ae 44 rfl (ps 64 rfl rfl rfl)<|Aa 45 rfl (Bd (b:=false) rfl rfl) (gy 60 rfl rfl) rfl<|Aa 46 rfl (Bd (b:=false) rfl rfl) gn rfl<|Aj 47 rfl ?_
      exact Dc [0,1] (j1 false h) ⟨rfl,rfl,rfl,rfl,rfl,trivial⟩ (.cons _ (.cons_cons _ (.cons_cons _ (.cons_cons _ (.cons_cons _ (.cons_cons _ (.slnil))))))) rfl
     ·have h:=Aq hp125 h
      refine Bv 64 rfl ((nt (Rq hp125)))<|Aa 40 rfl (Aw Vb rfl) (gy 64 rfl rfl) rfl<|Aa 41 rfl (Au 1 Ib rfl rfl rfl) (gy 64 rfl rfl) rfl<|Aa 42 rfl (Aw Xiz rfl) (gy 64 rfl rfl) rfl<|Aa 43 rfl (Au 0 Ib rfl rfl rfl) (gy 64 rfl rfl) rfl<|Aa 44 rfl (Uf rfl rfl) (gy 64 rfl rfl) rfl<|Aa 45 rfl (Bd (b:=true) rfl rfl) (gy 60 rfl rfl) rfl<|Aa 46 rfl (Bd (b:=false) rfl rfl) gn rfl<|Aj 47 rfl ?_
      exact Dc [0,1] (j1 (!(seq ((ix x1.nodes x26).field) ((ix x1.tree x27).field))) h) ⟨rfl,rfl,rfl,rfl,rfl,trivial⟩ (.cons _ (.cons_cons _ (.cons_cons _ (.cons_cons _ (.cons_cons _ (.cons_cons _ (.slnil))))))) rfl
    ·have h:=Aq hp124 h
     refine Bv 38 rfl ((nt (Rq hp124)))<|Ae 14 rfl (ps 38 rfl rfl rfl)<|Ae 15 rfl (ps 38 rfl rfl rfl)<|Ae 16 rfl (ps 38 rfl rfl rfl)<|Ae 17 rfl (ps 38 rfl rfl rfl)<|Ae 18 rfl (pu 42 rfl rfl)<|Ae 19 rfl (pu 42 rfl rfl)<|Ae 20 rfl (pu 42 rfl rfl)<|Ae 21 rfl (ps 38 rfl rfl rfl)<|Ae 22 rfl (ps 38 rfl rfl rfl)<|Ae 23 rfl (pu 47 rfl rfl)<|Ae 24 rfl (pu 47 rfl rfl) ?_
     refine Ae 25 rfl (pu 47 rfl rfl)<|Ae 26 rfl (pu 47 rfl rfl)<|Ae 27 rfl (pu 51 rfl rfl)<|Ae 28 rfl (pu 51 rfl rfl)<|Ae 29 rfl (pu 51 rfl rfl)<|Ae 30 rfl (pu 51 rfl rfl)<|Ae 31 rfl (pu 51 rfl rfl)<|Ae 32 rfl (pu 47 rfl rfl)<|Ae 33 rfl (ps 38 rfl rfl rfl)<|Aa 34 rfl (Bd (b:=true) rfl rfl) gn rfl<|Aa 35 rfl (Ad rfl) gn rfl<|Ae 36 rfl (ps 60 rfl rfl rfl) ?_
     refine Ae 37 rfl (ps 60 rfl rfl rfl)<|Ae 38 rfl (ps 60 rfl rfl rfl)<|Ae 39 rfl (ps 60 rfl rfl rfl)<|Ae 40 rfl (pu 64 rfl rfl)<|Ae 41 rfl (pu 64 rfl rfl)<|Ae 42 rfl (pu 64 rfl rfl)<|Ae 43 rfl (pu 64 rfl rfl)<|Ae 44 rfl (pu 64 rfl rfl)<|Ae 45 rfl (ps 60 rfl rfl rfl)<|Aa 46 rfl (Bd (b:=true) rfl rfl) gn rfl<|Aj 47 rfl ?_
     exact Dc [0,1] (j1 true h) ⟨rfl,rfl,rfl,rfl,rfl,trivial⟩ (.cons _ (.cons_cons _ (.cons_cons _ (.cons_cons _ (.cons_cons _ (.cons_cons _ (.slnil))))))) rfl
  ·have h:=Aq hp122 h
   refine Bv 27 rfl ((bf hp122))<|Ae 3 rfl (ps 27 rfl rfl rfl)<|Ae 4 rfl (ps 27 rfl rfl rfl)<|Ae 5 rfl (ps 27 rfl rfl rfl)<|Ae 6 rfl (pu 30 rfl rfl)<|Ae 7 rfl (pu 30 rfl rfl)<|Ae 8 rfl (pu 30 rfl rfl)<|Ae 9 rfl (pu 30 rfl rfl)<|Ae 10 rfl (pu 30 rfl rfl)<|Ae 11 rfl (ps 27 rfl rfl rfl)<|Aa 12 rfl (Bd (b:=false) rfl rfl) gn rfl<|Aa 13 rfl (Ad rfl) gn rfl ?_
   refine Aa 14 rfl (Aw Zl rfl) (gy 38 rfl rfl) rfl<|Aa 15 rfl (Au 1 Xcy rfl rfl rfl) (gy 38 rfl rfl) rfl<|Aa 16 rfl (Qv rfl) (gy 38 rfl rfl) rfl<|Aa 17 rfl (Ad rfl) (gy 38 rfl rfl) rfl<|Bv 42 rfl ((nt (bf hp122)))<|Aa 18 rfl (Aw Vt rfl) (gy 42 rfl rfl) rfl<|Aa 19 rfl (Au 1 Ib rfl rfl rfl) (gy 42 rfl rfl) rfl<|Aa 20 rfl (Uf rfl rfl) (gy 42 rfl rfl) rfl<|Aa 21 rfl (Bd (b:=true) rfl rfl) (gy 38 rfl rfl) rfl<|Aa 22 rfl (Ad rfl) (gy 38 rfl rfl) rfl ?_
   by_cases hp126:(ix x1.nodes x26).name=(⟨#[]⟩:ByteArray)
   ·have h:=Ap hp126 h
    refine Bv 47 rfl ((nf (Qw hp126)))<|Ae 23 rfl (ps 47 rfl rfl rfl)<|Ae 24 rfl (ps 47 rfl rfl rfl)<|Ae 25 rfl (ps 47 rfl rfl rfl)<|Ae 26 rfl (ps 47 rfl rfl rfl)<|Ae 27 rfl (pu 51 rfl rfl)<|Ae 28 rfl (pu 51 rfl rfl)<|Ae 29 rfl (pu 51 rfl rfl)<|Ae 30 rfl (pu 51 rfl rfl)<|Ae 31 rfl (pu 51 rfl rfl)<|Ae 32 rfl (ps 47 rfl rfl rfl)<|Aa 33 rfl (Bd (b:=false) rfl rfl) (gy 38 rfl rfl) rfl ?_
    refine Aa 34 rfl (Bd (b:=false) rfl rfl) gn rfl<|Aa 35 rfl (Ad rfl) gn rfl<|Aa 36 rfl (Aw Vb rfl) (gy 60 rfl rfl) rfl<|Aa 37 rfl (Au 1 Ib rfl rfl rfl) (gy 60 rfl rfl) rfl<|Aa 38 rfl (Uf rfl rfl) (gy 60 rfl rfl) rfl<|Aa 39 rfl (Ad rfl) (gy 60 rfl rfl) rfl ?_
    by_cases hp127:(ix x1.nodes x26).field=(⟨#[]⟩:ByteArray)
    ·have h:=Ap hp127 h
     refine Bv 64 rfl ((nf (Qw hp127)))<|Ae 40 rfl (ps 64 rfl rfl rfl)<|Ae 41 rfl (ps 64 rfl rfl rfl)<|Ae 42 rfl (ps 64 rfl rfl rfl)<|Ae 43 rfl (ps 64 rfl rfl rfl)<|Ae 44 rfl (ps 64 rfl rfl rfl)<|Aa 45 rfl (Bd (b:=false) rfl rfl) (gy 60 rfl rfl) rfl<|Aa 46 rfl (Bd (b:=false) rfl rfl) gn rfl<|Aj 47 rfl ?_
     exact Dc [0,1] (j1 false h) ⟨rfl,rfl,rfl,rfl,rfl,trivial⟩ (.cons _ (.cons_cons _ (.cons_cons _ (.cons_cons _ (.cons_cons _ (.cons_cons _ (.slnil))))))) rfl
    ·have h:=Aq hp127 h
     refine Bv 64 rfl ((nt (Rq hp127)))<|Aa 40 rfl (Aw Vb rfl) (gy 64 rfl rfl) rfl<|Aa 41 rfl (Au 1 Ib rfl rfl rfl) (gy 64 rfl rfl) rfl<|Aa 42 rfl (Aw Xiz rfl) (gy 64 rfl rfl) rfl<|Aa 43 rfl (Au 0 Ib rfl rfl rfl) (gy 64 rfl rfl) rfl<|Aa 44 rfl (Uf rfl rfl) (gy 64 rfl rfl) rfl<|Aa 45 rfl (Bd (b:=true) rfl rfl) (gy 60 rfl rfl) rfl<|Aa 46 rfl (Bd (b:=false) rfl rfl) gn rfl<|Aj 47 rfl ?_
     exact Dc [0,1] (j1 (!(seq ((ix x1.nodes x26).field) ((ix x1.tree x27).field))) h) ⟨rfl,rfl,rfl,rfl,rfl,trivial⟩ (.cons _ (.cons_cons _ (.cons_cons _ (.cons_cons _ (.cons_cons _ (.cons_cons _ (.slnil))))))) rfl
   ·have h:=Aq hp126 h
    refine Bv 47 rfl ((nt (Rq hp126)))<|Aa 23 rfl (Aw Xn3 rfl) (gy 47 rfl rfl) rfl<|Aa 24 rfl (Au 0 Xcy rfl rfl rfl) (gy 47 rfl rfl) rfl<|Aa 25 rfl (Qv rfl) (gy 47 rfl rfl) rfl<|Aa 26 rfl (Ad rfl) (gy 47 rfl rfl) rfl ?_
    by_cases hp128:((ix x1.tree x27).named)=true
    ·have h:=Ap hp128 h
     refine Bv 51 rfl ((nf hp128))<|Aa 27 rfl (Aw Xn2 rfl) (gy 51 rfl rfl) rfl<|Aa 28 rfl (Au 0 Ib rfl rfl rfl) (gy 51 rfl rfl) rfl<|Aa 29 rfl (Aw Vt rfl) (gy 51 rfl rfl) rfl<|Aa 30 rfl (Au 1 Ib rfl rfl rfl) (gy 51 rfl rfl) rfl<|Aa 31 rfl (Uf rfl rfl) (gy 51 rfl rfl) rfl<|Aa 32 rfl (Bd (b:=false) rfl rfl) (gy 47 rfl rfl) rfl<|Aa 33 rfl (Bd (b:=true) rfl rfl) (gy 38 rfl rfl) rfl<|Aa 34 rfl (Bd (b:=false) rfl rfl) gn rfl<|Aa 35 rfl (Ad rfl) gn rfl ?_
     by_cases hp129:(ix x1.tree x27).name=(ix x1.nodes x26).name
     ·have h:=Ap hp129 h
      refine Bv 60 rfl ((nf (Qw hp129)))<|Aa 36 rfl (Aw Vb rfl) (gy 60 rfl rfl) rfl<|Aa 37 rfl (Au 1 Ib rfl rfl rfl) (gy 60 rfl rfl) rfl<|Aa 38 rfl (Uf rfl rfl) (gy 60 rfl rfl) rfl<|Aa 39 rfl (Ad rfl) (gy 60 rfl rfl) rfl ?_
      by_cases hp130:(ix x1.nodes x26).field=(⟨#[]⟩:ByteArray)
      ·have h:=Ap hp130 h
       refine Bv 64 rfl ((nf (Qw hp130)))<|Ae 40 rfl (ps 64 rfl rfl rfl)<|Ae 41 rfl (ps 64 rfl rfl rfl)<|Ae 42 rfl (ps 64 rfl rfl rfl)<|Ae 43 rfl (ps 64 rfl rfl rfl)<|Ae 44 rfl (ps 64 rfl rfl rfl)<|Aa 45 rfl (Bd (b:=false) rfl rfl) (gy 60 rfl rfl) rfl<|Aa 46 rfl (Bd (b:=false) rfl rfl) gn rfl<|Aj 47 rfl ?_
       exact Dc [0,1] (j1 false h) ⟨rfl,rfl,rfl,rfl,rfl,trivial⟩ (.cons _ (.cons_cons _ (.cons_cons _ (.cons_cons _ (.cons_cons _ (.cons_cons _ (.slnil))))))) rfl
      ·have h:=Aq hp130 h
       refine Bv 64 rfl ((nt (Rq hp130)))<|Aa 40 rfl (Aw Vb rfl) (gy 64 rfl rfl) rfl<|Aa 41 rfl (Au 1 Ib rfl rfl rfl) (gy 64 rfl rfl) rfl<|Aa 42 rfl (Aw Xiz rfl) (gy 64 rfl rfl) rfl<|Aa 43 rfl (Au 0 Ib rfl rfl rfl) (gy 64 rfl rfl) rfl<|Aa 44 rfl (Uf rfl rfl) (gy 64 rfl rfl) rfl<|Aa 45 rfl (Bd (b:=true) rfl rfl) (gy 60 rfl rfl) rfl<|Aa 46 rfl (Bd (b:=false) rfl rfl) gn rfl<|Aj 47 rfl ?_
       exact Dc [0,1] (j1 (!(seq ((ix x1.nodes x26).field) ((ix x1.tree x27).field))) h) ⟨rfl,rfl,rfl,rfl,rfl,trivial⟩ (.cons _ (.cons_cons _ (.cons_cons _ (.cons_cons _ (.cons_cons _ (.cons_cons _ (.slnil))))))) rfl
     ·have h:=Aq hp129 h
      refine Bv 60 rfl ((nt (Rq hp129)))<|Ae 36 rfl (ps 60 rfl rfl rfl)<|Ae 37 rfl (ps 60 rfl rfl rfl)<|Ae 38 rfl (ps 60 rfl rfl rfl)<|Ae 39 rfl (ps 60 rfl rfl rfl)<|Ae 40 rfl (pu 64 rfl rfl)<|Ae 41 rfl (pu 64 rfl rfl)<|Ae 42 rfl (pu 64 rfl rfl)<|Ae 43 rfl (pu 64 rfl rfl)<|Ae 44 rfl (pu 64 rfl rfl)<|Ae 45 rfl (ps 60 rfl rfl rfl)<|Aa 46 rfl (Bd (b:=true) rfl rfl) gn rfl ?_
      refine Aj 47 rfl ?_
      exact Dc [0,1] (j1 true h) ⟨rfl,rfl,rfl,rfl,rfl,trivial⟩ (.cons _ (.cons_cons _ (.cons_cons _ (.cons_cons _ (.cons_cons _ (.cons_cons _ (.slnil))))))) rfl
    ·have h:=Aq hp128 h
     refine Bv 51 rfl ((nt (bf hp128)))<|Ae 27 rfl (ps 51 rfl rfl rfl)<|Ae 28 rfl (ps 51 rfl rfl rfl)<|Ae 29 rfl (ps 51 rfl rfl rfl)<|Ae 30 rfl (ps 51 rfl rfl rfl)<|Ae 31 rfl (ps 51 rfl rfl rfl)<|Aa 32 rfl (Bd (b:=true) rfl rfl) (gy 47 rfl rfl) rfl<|Aa 33 rfl (Bd (b:=true) rfl rfl) (gy 38 rfl rfl) rfl<|Aa 34 rfl (Bd (b:=false) rfl rfl) gn rfl<|Aa 35 rfl (Ad rfl) gn rfl<|Ae 36 rfl (ps 60 rfl rfl rfl)<|Ae 37 rfl (ps 60 rfl rfl rfl) ?_
     refine Ae 38 rfl (ps 60 rfl rfl rfl)<|Ae 39 rfl (ps 60 rfl rfl rfl)<|Ae 40 rfl (pu 64 rfl rfl)<|Ae 41 rfl (pu 64 rfl rfl)<|Ae 42 rfl (pu 64 rfl rfl)<|Ae 43 rfl (pu 64 rfl rfl)<|Ae 44 rfl (pu 64 rfl rfl)<|Ae 45 rfl (ps 60 rfl rfl rfl)<|Aa 46 rfl (Bd (b:=true) rfl rfl) gn rfl<|Aj 47 rfl ?_
     exact Dc [0,1] (j1 true h) ⟨rfl,rfl,rfl,rfl,rfl,trivial⟩ (.cons _ (.cons_cons _ (.cons_cons _ (.cons_cons _ (.cons_cons _ (.cons_cons _ (.slnil))))))) rfl
 have hns:Region.noSelect (Code.ops q40c3)=true:=by kernel_rfl
 refine Gf [] 18 rfl rfl mix rfl (.c 0 rfl (.c 1 rfl .n))<|wfv 0 rfl (Au 0 ld_66 rfl rfl rfl) gn hns rfl<|wfv 1 rfl (Bc rfl) gn hns rfl<|wfv 2 rfl (Aw fo_70_0 rfl) gn hns rfl<|wfv 3 rfl (Au 1 Rl rfl rfl rfl) gn hns rfl<|wfv 4 rfl (Ad rfl) gn hns rfl ?_
 have hr131:=Rw.readF (s:=St w [[g2],(Value.slice A12 n13 c14).ownBlock.toList,(Value.slice A20 n21 c22).ownBlock.toList]) (hl:=Ee) (h1:=Ez) h7 hb30
 refine wfv 5 rfl (F5 (s:=St w [[g2],(Value.slice A12 n13 c14).ownBlock.toList,(Value.slice A20 n21 c22).ownBlock.toList]) U7 rfl rfl h7 hb30) gn hns rfl<|wfv 6 rfl (Z9 (St w [[g2],(Value.slice A12 n13 c14).ownBlock.toList,(Value.slice A20 n21 c22).ownBlock.toList]) Xav rfl hr131 rfl (me 1 rfl)) gn hns rfl<|wfv 7 rfl (Au 0 ld_66 rfl rfl rfl) gn hns rfl<|wfv 8 rfl (Bc rfl) gn hns rfl<|wfv 9 rfl (Aw Xn0 rfl) gn hns rfl<|wfv 10 rfl (Au 1 Zz rfl rfl rfl) gn hns rfl<|wfv 11 rfl (Ad rfl) gn hns rfl ?_
 have hr132:=Rw.readF (s:=St w [[g2],(Value.slice A12 n13 c14).ownBlock.toList,(Value.slice A20 n21 c22).ownBlock.toList]) (hl:=V3) (h1:=V9) h11 hb32
 refine wfv 12 rfl (F5 (s:=St w [[g2],(Value.slice A12 n13 c14).ownBlock.toList,(Value.slice A20 n21 c22).ownBlock.toList]) Xhn rfl rfl h11 hb32) gn hns rfl<|wfv 13 rfl (Z9 (St w [[g2],(Value.slice A12 n13 c14).ownBlock.toList,(Value.slice A20 n21 c22).ownBlock.toList]) ld_56 rfl hr132 rfl (me 1 rfl)) gn hns rfl ?_
 refine Cm [14,15] (by kernel_rfl) rfl ⟨?_,?_,trivial⟩
 ·refine Et 14 rfl gn rfl (Gz [.string (⟨#[]⟩ : ByteArray), .bool false, .string (⟨#[]⟩ : ByteArray), .string (⟨#[]⟩ : ByteArray), .int .i64 0] Xi4 rfl fun gb135 => ?_)
  refine ⟨Bi [1,2,3,4] rfl,Bi [0,1] rfl,?_⟩
  refine Cm [15] (by kernel_rfl) rfl ⟨Et 15 rfl gn rfl (Gz [.string (⟨#[]⟩:ByteArray),.bool false,.string (⟨#[]⟩:ByteArray),.int .i64 0,.int .i64 0,.int .i64 0,.int .i64 0] zr_56 rfl fun gb137=>?_),trivial⟩
  refine ⟨Bi [2,3,4,5] rfl,Bi [0,1] rfl,?_⟩
  refine Cm [16] (by kernel_rfl) rfl ⟨Et 16 rfl gn rfl (Fp (vs:=[.string ((ix x1.nodes x26).name),.bool ((ix x1.nodes x26).lit),.string ((ix x1.nodes x26).field),.string ((ix x1.nodes x26).capture),.int .i64 ((ix x1.nodes x26).kids)]) (cs':=[.string ((ix x1.nodes x26).name),.bool ((ix x1.nodes x26).lit),.string ((ix x1.nodes x26).field),.string ((ix x1.nodes x26).capture),.int .i64 ((ix x1.nodes x26).kids)]) (M':=[.box gb137 56 [.string (⟨#[]⟩:ByteArray),.bool false,.string (⟨#[]⟩:ByteArray),.int .i64 0,.int .i64 0,.int .i64 0,.int .i64 0],.box gb135 45 [.string ((ix x1.nodes x26).name),.bool ((ix x1.nodes x26).lit),.string ((ix x1.nodes x26).field),.string ((ix x1.nodes x26).capture),.int .i64 ((ix x1.nodes x26).kids)],.box gb28 66 [.pointer (some ⟨g2,0,none⟩)],.box g2 Tb3 [.slice A4 n5 c6,.slice A8 n9 c10,.slice A12 n13 c14,.slice A20 n21 c22],.own (.slice A12 n13 c14) 36 1 n13 cs18,.own (.slice A20 n21 c22) 4 1 n21 (x1.known.flatMap eB)]) 1 Xfj rfl rfl rfl rfl rfl rfl rfl rfl rfl ?_),trivial⟩
  refine ⟨Bi [2,3,4,5] rfl,Bi [0,1] rfl,?_⟩
  refine Cm [17] (by kernel_rfl) rfl ⟨Et 17 rfl gn rfl (Fp (vs:=[.string ((ix x1.tree x27).name),.bool ((ix x1.tree x27).named),.string ((ix x1.tree x27).field),.int .i64 ((ix x1.tree x27).from_),.int .i64 ((ix x1.tree x27).to),.int .i64 ((ix x1.tree x27).kids),.int .i64 ((ix x1.tree x27).leaf)]) (cs':=[.string ((ix x1.tree x27).name),.bool ((ix x1.tree x27).named),.string ((ix x1.tree x27).field),.int .i64 ((ix x1.tree x27).from_),.int .i64 ((ix x1.tree x27).to),.int .i64 ((ix x1.tree x27).kids),.int .i64 ((ix x1.tree x27).leaf)]) (M':=[.box gb137 56 [.string ((ix x1.tree x27).name),.bool ((ix x1.tree x27).named),.string ((ix x1.tree x27).field),.int .i64 ((ix x1.tree x27).from_),.int .i64 ((ix x1.tree x27).to),.int .i64 ((ix x1.tree x27).kids),.int .i64 ((ix x1.tree x27).leaf)],.box gb135 45 [.string ((ix x1.nodes x26).name),.bool ((ix x1.nodes x26).lit),.string ((ix x1.nodes x26).field),.string ((ix x1.nodes x26).capture),.int .i64 ((ix x1.nodes x26).kids)],.box gb28 66 [.pointer (some ⟨g2,0,none⟩)],.box g2 Tb3 [.slice A4 n5 c6,.slice A8 n9 c10,.slice A12 n13 c14,.slice A20 n21 c22],.own (.slice A12 n13 c14) 36 1 n13 cs18,.own (.slice A20 n21 c22) 4 1 n21 (x1.known.flatMap eB)]) 0 sz_56 rfl rfl rfl rfl rfl rfl rfl rfl rfl ?_),trivial⟩
  refine ⟨Bi [2,3,4,5] rfl,Bi [0,1] rfl,?_⟩
  refine E8 (by kernel_rfl) ?_
  exact Dc [0,1] (d1 gb137 gb135) ⟨rfl,rfl,rfl,rfl,rfl,trivial⟩ (.cons_cons _ (.cons_cons _ (.cons_cons _ (.cons_cons _ (.cons_cons _ (.cons_cons _ (.slnil))))))) rfl
 ·refine Et 15 rfl gn rfl (Gz [.string (⟨#[]⟩ : ByteArray), .bool false, .string (⟨#[]⟩ : ByteArray), .int .i64 0, .int .i64 0, .int .i64 0, .int .i64 0] zr_56 rfl fun gb138 => ?_)
  refine ⟨Bi [1,2,3,4] rfl,Bi [0,1] rfl,?_⟩
  refine Cm [14] (by kernel_rfl) rfl ⟨Et 14 rfl gn rfl (Gz [.string (⟨#[]⟩:ByteArray),.bool false,.string (⟨#[]⟩:ByteArray),.string (⟨#[]⟩:ByteArray),.int .i64 0] Xi4 rfl fun gb140=>?_),trivial⟩
  refine ⟨Bi [2,3,4,5] rfl,Bi [0,1] rfl,?_⟩
  refine Cm [16] (by kernel_rfl) rfl ⟨Et 16 rfl gn rfl (Fp (vs:=[.string ((ix x1.nodes x26).name),.bool ((ix x1.nodes x26).lit),.string ((ix x1.nodes x26).field),.string ((ix x1.nodes x26).capture),.int .i64 ((ix x1.nodes x26).kids)]) (cs':=[.string ((ix x1.nodes x26).name),.bool ((ix x1.nodes x26).lit),.string ((ix x1.nodes x26).field),.string ((ix x1.nodes x26).capture),.int .i64 ((ix x1.nodes x26).kids)]) (M':=[.box gb140 45 [.string ((ix x1.nodes x26).name),.bool ((ix x1.nodes x26).lit),.string ((ix x1.nodes x26).field),.string ((ix x1.nodes x26).capture),.int .i64 ((ix x1.nodes x26).kids)],.box gb138 56 [.string (⟨#[]⟩:ByteArray),.bool false,.string (⟨#[]⟩:ByteArray),.int .i64 0,.int .i64 0,.int .i64 0,.int .i64 0],.box gb28 66 [.pointer (some ⟨g2,0,none⟩)],.box g2 Tb3 [.slice A4 n5 c6,.slice A8 n9 c10,.slice A12 n13 c14,.slice A20 n21 c22],.own (.slice A12 n13 c14) 36 1 n13 cs18,.own (.slice A20 n21 c22) 4 1 n21 (x1.known.flatMap eB)]) 0 Xfj rfl rfl rfl rfl rfl rfl rfl rfl rfl ?_),trivial⟩
  refine ⟨Bi [2,3,4,5] rfl,Bi [0,1] rfl,?_⟩
  refine Cm [17] (by kernel_rfl) rfl ⟨Et 17 rfl gn rfl (Fp (vs:=[.string ((ix x1.tree x27).name),.bool ((ix x1.tree x27).named),.string ((ix x1.tree x27).field),.int .i64 ((ix x1.tree x27).from_),.int .i64 ((ix x1.tree x27).to),.int .i64 ((ix x1.tree x27).kids),.int .i64 ((ix x1.tree x27).leaf)]) (cs':=[.string ((ix x1.tree x27).name),.bool ((ix x1.tree x27).named),.string ((ix x1.tree x27).field),.int .i64 ((ix x1.tree x27).from_),.int .i64 ((ix x1.tree x27).to),.int .i64 ((ix x1.tree x27).kids),.int .i64 ((ix x1.tree x27).leaf)]) (M':=[.box gb140 45 [.string ((ix x1.nodes x26).name),.bool ((ix x1.nodes x26).lit),.string ((ix x1.nodes x26).field),.string ((ix x1.nodes x26).capture),.int .i64 ((ix x1.nodes x26).kids)],.box gb138 56 [.string ((ix x1.tree x27).name),.bool ((ix x1.tree x27).named),.string ((ix x1.tree x27).field),.int .i64 ((ix x1.tree x27).from_),.int .i64 ((ix x1.tree x27).to),.int .i64 ((ix x1.tree x27).kids),.int .i64 ((ix x1.tree x27).leaf)],.box gb28 66 [.pointer (some ⟨g2,0,none⟩)],.box g2 Tb3 [.slice A4 n5 c6,.slice A8 n9 c10,.slice A12 n13 c14,.slice A20 n21 c22],.own (.slice A12 n13 c14) 36 1 n13 cs18,.own (.slice A20 n21 c22) 4 1 n21 (x1.known.flatMap eB)]) 1 sz_56 rfl rfl rfl rfl rfl rfl rfl rfl rfl ?_),trivial⟩
  refine ⟨Bi [2,3,4,5] rfl,Bi [0,1] rfl,?_⟩
  refine E8 (by kernel_rfl)<|Ba 5 rfl<|Ba 5 rfl<|Ba 5 rfl<|Ba 5 rfl<|Ba 4 rfl<|Ba 5 rfl ?_
  exact Dc [0,1] (d1 gb138 gb140) ⟨rfl,rfl,rfl,rfl,rfl,trivial⟩ (.cons_cons _ (.cons_cons _ (.cons_cons _ (.cons_cons _ (.cons_cons _ (.cons_cons _ (.slnil))))))) rfl
theorem Uh:∀ n,Me (Dt n)∧Oc (Ij n)
 | 0=>⟨fun w F x1 x8 x9 x10 x19 z6 A2 n3 c4 A11 n12 c13 g15 Tb16 g17 Tb18 g20 Tb21 A22 n23 c24 A26 n27 c28 z34 A30 n31 c32 cs36 z42 A38 n39 c40 hz7 h5 h14 h25 h29 hz35 h33 hC37 hz43 h41 hF hL0 r h=>h.elim,fun w F x1 x26 x27 g2 Tb3 A4 n5 c6 A8 n9 c10 z16 A12 n13 c14 cs18 z24 A20 n21 c22 h7 h11 hz17 h15 hC19 hz25 h23 hF hL0 r h=>h.elim⟩
 | n + 1=>by
  have ih:=Uh n
  exact ⟨Yv _ _ ih.1 ih.2,Xa7 _ _ ih.1 ih.2⟩
theorem Zo (w:World) (F:Nat→Prop) (x1:Bf) (x26:Int) (x27:Int) (g2:Nat) (Tb3:Nat) (A4:Option Addr) (n5:Nat) (c6:Nat) (A8:Option Addr) (n9:Nat) (c10:Nat) (z16:Nat) (A12:Option Addr) (n13:Nat) (c14:Nat) (cs18:List Value) (z24:Nat) (A20:Option Addr) (n21:Nat) (c22:Nat) (h7:Rw Dl w (St w [[g2],(Value.slice A12 n13 c14).ownBlock.toList,(Value.slice A20 n21 c22).ownBlock.toList]).av A4 n5 c6 x1.nodes) (h11:Rw F8 w (St w [[g2],(Value.slice A12 n13 c14).ownBlock.toList,(Value.slice A20 n21 c22).ownBlock.toList]).av A8 n9 c10 x1.tree) (hz17:z16≤w.heap.size) (h15:Ow z16 A12 n13 c14 x1.of) (hC19:Cells (Kd.slice (G8 .i64)) w F x1.of cs18) (hz25:z24≤w.heap.size) (h23:Ow z24 A20 n21 c22 x1.known) (hF:∀ b,F b→b < w.heap.size∧∀ o ∈ ([[g2],(Value.slice A12 n13 c14).ownBlock.toList,(Value.slice A20 n21 c22).ownBlock.toList]:List (List Nat)),b ∉ o) (hL0:B.Loc w w [.box g2 Tb3 [.slice A4 n5 c6,.slice A8 n9 c10,.slice A12 n13 c14,.slice A20 n21 c22],.own (.slice A12 n13 c14) 36 1 n13 cs18,.own (.slice A20 n21 c22) 4 1 n21 (x1.known.flatMap eB)] [Sm w.heap.size F w [[g2],(Value.slice A12 n13 c14).ownBlock.toList,(Value.slice A20 n21 c22).ownBlock.toList],St w [[g2],(Value.slice A12 n13 c14).ownBlock.toList,(Value.slice A20 n21 c22).ownBlock.toList]]) (r:(List Int) × Bf) (h:Yq x1 x26 x27 r):Calls Tryd.prog 40 #[.pointer (some ⟨g2,0,none⟩),.int .i64 x26,.int .i64 x27] w (Lr w F g2 Tb3 A12 n13 c14 z16 A20 n21 c22 z24 A4 n5 c6 A8 n9 c10 r):=by
 obtain ⟨n,h⟩:=h
 exact (Uh n).2 w F x1 x26 x27 g2 Tb3 A4 n5 c6 A8 n9 c10 z16 A12 n13 c14 cs18 z24 A20 n21 c22 h7 h11 hz17 h15 hC19 hz25 h23 hF hL0 r h
noncomputable abbrev q42c3:=Code.fst (Code.snd (Dv Tryd.f42))
abbrev Ul (w:World) (F:Nat→Prop) (r:ByteArray):Ending→World→Prop:=fun e w'=>e=.returned (.string r)∧B.Loc w w' [] [St w []]
noncomputable abbrev Xfy (w:World) (F:Nat→Prop) (r:ByteArray):Cx:=⟨Tryd.prog,42,Tryd.f42,22,Ul w F  r,w⟩
theorem Xcg (w:World) (F:Nat→Prop) (x1:Az) (x2:ByteArray) (hF:∀ b,F b→b < w.heap.size∧∀ o ∈ ([]:List (List Nat)),b ∉ o) (hL0:B.Loc w w [] [Sm w.heap.size F w [],St w []]) (r:ByteArray) (h:U9 x1 x2 r):Calls Tryd.prog 42 #[.agg #[.string x1.name,.bool x1.named,.string x1.field,.int .i64 x1.from_,.int .i64 x1.to,.int .i64 x1.kids,.int .i64 x1.leaf],.string x2] w (Ul w F  r):=by
 unfold U9 at h
 refine Ce (vs:=[.agg #[.string x1.name,.bool x1.named,.string x1.field,.int .i64 x1.from_,.int .i64 x1.to,.int .i64 x1.kids,.int .i64 x1.leaf],.string x2]) 22 Tryd.func42 rfl Tryd.ntmps42 rfl hL0 ?_
 show G (Xfy w F r) _ _ _ _
 refine Ah rfl<|Ac rfl rfl ?_
 refine Cf 0 rfl (V5 [.string x1.name,.bool x1.named,.string x1.field,.int .i64 x1.from_,.int .i64 x1.to,.int .i64 x1.kids,.int .i64 x1.leaf] rfl rfl rfl fun gb3=>?_) gn
 refine Aa 1 rfl (Af rfl) gn rfl<|Aj 2 rfl<|Ah rfl ?_
 have hns:Region.noSelect (Code.ops q42c3)=true:=by kernel_rfl
 refine Gf [] 10 rfl rfl mix rfl (.c 0 rfl (.c 1 rfl .n))<|wfv 0 rfl (Aw fo_56_3 rfl) gn hns rfl<|wfv 1 rfl (Au 0 H9 rfl rfl rfl) gn hns rfl<|wfv 2 rfl (v_max rfl rfl) gn hns rfl<|wfv 3 rfl (Aw fo_56_4 rfl) gn hns rfl<|wfv 4 rfl (Au 0 H9 rfl rfl rfl) gn hns rfl<|wfv 5 rfl (Ad rfl) gn hns rfl<|wfv 6 rfl (Rh Nl rfl) gn hns rfl<|wfv 7 rfl (v_min rfl rfl) gn hns rfl<|wfv 8 rfl (Af rfl) gn hns rfl<|wfv 9 rfl (Af rfl) gn hns rfl<|E8 (by kernel_rfl) ?_
 refine Ah rfl<|Ah rfl<|Ac rfl rfl<|Aa 0 rfl (Ad rfl) gn rfl<|Aa 1 rfl (Ad rfl) gn rfl<|Aa 2 rfl (Be rfl rfl rfl) gn rfl<|Aj 3 rfl ?_
 by_cases hp5:max x1.from_ 0≥min x1.to (x2.size:Int)
 ·have h:=Ap hp5 h
  refine Bz rfl _ rfl ((decide_eq_true hp5))<|Ah rfl<|Ac rfl rfl<|Aa 0 rfl (Af rfl) gn rfl<|Aj 1 rfl ?_
  refine C9 [.string (⟨#[]⟩:ByteArray)] rfl Tryd.func42 rfl (.tmp rfl (.nil)) fun wr hLr=>?_
  have hMr:=hLr.pk0 (.c 1 rfl .n)
  show Ul w F  r (.returned (Ci [.string (⟨#[]⟩:ByteArray)])) wr
  rw [h]
  exact ⟨rfl,hMr⟩
 ·have h:=Aq hp5 h
  refine Bg rfl _ rfl ((decide_eq_false hp5))<|Cb rfl<|Ah rfl<|Ac rfl rfl<|Aa 0 rfl (Ad rfl) gn rfl<|Aa 1 rfl (Ad rfl) gn rfl<|Aa 2 rfl (Ad rfl) gn rfl ?_
  obtain ⟨hb6,h⟩:=h
  refine Aa 3 rfl (Xk4 (max x1.from_ 0) (min x1.to (x2.size:Int)) Nl rfl (.inr ⟨_,_,rfl,rfl⟩) (.inr ⟨_,_,rfl,rfl⟩) ⟨hb6.1,hb6.2.1⟩ hb6.2.2) gn rfl<|Aa 4 rfl (Af rfl) gn rfl<|Aj 5 rfl ?_
  refine C9 [.string (x2.extract (max x1.from_ 0:Int).toNat (min x1.to (x2.size:Int):Int).toNat)] rfl Tryd.func42 rfl (.tmp rfl (.nil)) fun wr hLr=>?_
  have hMr:=hLr.pk0 (.c 1 rfl .n)
  show Ul w F  r (.returned (Ci [.string (x2.extract (max x1.from_ 0:Int).toNat (min x1.to (x2.size:Int):Int).toNat)])) wr
  rw [h]
  exact ⟨rfl,hMr⟩
noncomputable abbrev q41c3:=Code.fst (Code.snd (Dv Tryd.f41))
abbrev Zm (w:World) (F:Nat→Prop) (g3:Nat) (g10:Nat) (g17:Nat) (g28:Nat) (Tb4:Nat) (Tb11:Nat) (Tb18:Nat) (Tb29:Nat) (A5:Option Addr) (n6:Nat) (c7:Nat) (A12:Option Addr) (n13:Nat) (c14:Nat) (A19:Option Addr) (n20:Nat) (c21:Nat) (A23:Option Addr) (n24:Nat) (c25:Nat) (r:ByteArray × (List Az) × (List Int) × Ar × ByteArray):Ending→World→Prop:=fun e w'=>e=.returned (.string r.1)∧B.Loc w w' [.box g3 Tb4 [.slice A5 n6 c7],.box g10 Tb11 [.slice A12 n13 c14],.box g17 Tb18 [.slice A19 n20 c21,.slice A23 n24 c25],.box g28 Tb29 [.string r.2.2.2.2]] [St w [[g3],[g10],[g17],[g28]]]
noncomputable abbrev Xhp (w:World) (F:Nat→Prop) (g3:Nat) (g10:Nat) (g17:Nat) (g28:Nat) (Tb4:Nat) (Tb11:Nat) (Tb18:Nat) (Tb29:Nat) (A5:Option Addr) (n6:Nat) (c7:Nat) (A12:Option Addr) (n13:Nat) (c14:Nat) (A19:Option Addr) (n20:Nat) (c21:Nat) (A23:Option Addr) (n24:Nat) (c25:Nat) (r:ByteArray × (List Az) × (List Int) × Ar × ByteArray):Cx:=⟨Tryd.prog,41,Tryd.f41,18,Zm w F g3 g10 g17 g28 Tb4 Tb11 Tb18 Tb29 A5 n6 c7 A12 n13 c14 A19 n20 c21 A23 n24 c25 r,w⟩
theorem Vj (w:World) (F:Nat→Prop) (x1:ByteArray) (x2:List Az) (x9:List Int) (x16:Ar) (x27:ByteArray) (g3:Nat) (Tb4:Nat) (A5:Option Addr) (n6:Nat) (c7:Nat) (g10:Nat) (Tb11:Nat) (A12:Option Addr) (n13:Nat) (c14:Nat) (g17:Nat) (Tb18:Nat) (A19:Option Addr) (n20:Nat) (c21:Nat) (A23:Option Addr) (n24:Nat) (c25:Nat) (g28:Nat) (Tb29:Nat) (h8:Rw F8 w (St w [[g3],[g10],[g17],[g28]]).av A5 n6 c7 x2) (h15:Rw (G8 .i64) w (St w [[g3],[g10],[g17],[g28]]).av A12 n13 c14 x9) (h22:Rw Dl w (St w [[g3],[g10],[g17],[g28]]).av A19 n20 c21 x16.nodes) (h26:Rw Gg w (St w [[g3],[g10],[g17],[g28]]).av A23 n24 c25 x16.conds) (hF:∀ b,F b→b < w.heap.size∧∀ o ∈ ([[g3],[g10],[g17],[g28]]:List (List Nat)),b ∉ o) (hL0:B.Loc w w [.box g3 Tb4 [.slice A5 n6 c7],.box g10 Tb11 [.slice A12 n13 c14],.box g17 Tb18 [.slice A19 n20 c21,.slice A23 n24 c25],.box g28 Tb29 [.string x27]] [Sm w.heap.size F w [[g3],[g10],[g17],[g28]],St w [[g3],[g10],[g17],[g28]]]) (r:ByteArray × (List Az) × (List Int) × Ar × ByteArray) (h:Uz x1 x2 x9 x16 x27 r):Calls Tryd.prog 41 #[.string x1,.pointer (some ⟨g3,0,none⟩),.pointer (some ⟨g10,0,none⟩),.pointer (some ⟨g17,0,none⟩),.pointer (some ⟨g28,0,none⟩)] w (Zm w F g3 g10 g17 g28 Tb4 Tb11 Tb18 Tb29 A5 n6 c7 A12 n13 c14 A19 n20 c21 A23 n24 c25 r):=by
 unfold Uz at h
 refine Ce (vs:=[.string x1,.pointer (some ⟨g3,0,none⟩),.pointer (some ⟨g10,0,none⟩),.pointer (some ⟨g17,0,none⟩),.pointer (some ⟨g28,0,none⟩)]) 18 Tryd.func41 rfl Tryd.ntmps41 rfl hL0 ?_
 show G (Xhp w F g3 g10 g17 g28 Tb4 Tb11 Tb18 Tb29 A5 n6 c7 A12 n13 c14 A19 n20 c21 A23 n24 c25 r) _ _ _ _
 refine Ah rfl<|Ac rfl rfl<|Aa 0 rfl (Af rfl) gn rfl<|Aj 1 rfl<|Ah rfl ?_
 obtain ⟨r33,hv34,h⟩:=h
 obtain ⟨hb38,h⟩:=h
 obtain ⟨hb40,h⟩:=h
 obtain ⟨r45,hv46,h⟩:=h
 have hns:Region.noSelect (Code.ops q41c3)=true:=by kernel_rfl
 refine Gf [] 12 rfl rfl mix rfl (.c 0 rfl (.c 1 rfl .n))<|wfv 0 rfl (Au 0 Zz rfl rfl rfl) gn hns rfl<|wfv 1 rfl (Au 1 Y0 rfl rfl rfl) gn hns rfl<|wfv 2 rfl (Nj [.slice A19 n20 c21,.slice A23 n24 c25] 2 U4 rfl rfl rfl rfl) gn hns rfl<|wfv 3 rfl (Ad rfl) gn hns rfl<|wfv 9 rfl (Au 3 Ib rfl rfl rfl) gn hns rfl ?_
 refine Cm [4] (by kernel_rfl) rfl ⟨Et 4 rfl gn rfl (D8 [.agg #[.slice A19 n20 c21,.slice A23 n24 c25],.string x1] rfl Tryd.func43 rfl rfl rfl fun w94 hL95=>?_),trivial⟩
 have hp96:=pmI hL95 .n (.c 0 rfl (.c 1 rfl (.c 2 rfl (.c 3 rfl .n)))) (by kernel_rfl)
 refine Calls.mono (Jj w94 (Fl ([]:List Cc)) x16 x1 A19 n20 c21 A23 n24 c25 (Rw.mono h22 (hL95.toSt hp96 (me 1 rfl))) (Rw.mono h26 (hL95.toSt hp96 (me 1 rfl))) (hL95.hFl hp96 (Bi [] rfl)) (hL95.into hp96 _) r33 hv34) ?_
 rintro _ w97 ⟨rfl,hM98⟩
 have hL99:=hL95.call hp96 hM98
 refine ⟨_,_,_,rfl,hL99,?_⟩
 refine ⟨Bi [0,1,2,3] rfl,Bi [0,1] rfl,?_⟩
 have hr100:=Rw.readF (s:=St w [[g3],[g10],[g17],[g28]]) (hl:=(hlI .i64)) (h1:=(Ey .i64)) h15 hb38
 refine wfv 5 rfl (F5 (s:=St w [[g3],[g10],[g17],[g28]]) Jt rfl rfl h15 hb38) gn hns rfl<|wfv 6 rfl (Hq (kk:=(r33:Int).toNat * 1) (j:=0) (St w [[g3],[g10],[g17],[g28]]) H9 rfl hr100 rfl (me 1 rfl)) gn hns rfl ?_
 have hr101:=Rw.readF (s:=St w [[g3],[g10],[g17],[g28]]) (hl:=V3) (h1:=V9) h8 hb40
 refine wfv 7 rfl (F5 (s:=St w [[g3],[g10],[g17],[g28]]) Xhn rfl rfl h8 hb40) gn hns rfl<|wfv 8 rfl (Z9 (St w [[g3],[g10],[g17],[g28]]) ld_56 rfl hr101 rfl (me 1 rfl)) gn hns rfl ?_
 refine Cm [10] (by kernel_rfl) rfl ⟨Et 10 rfl gn rfl (D8 [.agg #[.string ((ix x2 (ix x9 r33)).name),.bool ((ix x2 (ix x9 r33)).named),.string ((ix x2 (ix x9 r33)).field),.int .i64 ((ix x2 (ix x9 r33)).from_),.int .i64 ((ix x2 (ix x9 r33)).to),.int .i64 ((ix x2 (ix x9 r33)).kids),.int .i64 ((ix x2 (ix x9 r33)).leaf)],.string x27] rfl Tryd.func42 rfl rfl rfl fun w108 hL109=>?_),trivial⟩
 have hp110:=pmI hL109 .n (.c 0 rfl (.c 1 rfl (.c 2 rfl (.c 3 rfl .n)))) (by kernel_rfl)
 refine Calls.mono (Xcg w108 (Fl ([]:List Cc)) (ix x2 (ix x9 r33)) x27 (hL109.hFl hp110 (Bi [] rfl)) (hL109.into hp110 _) r45 hv46) ?_
 rintro _ w111 ⟨rfl,hM112⟩
 have hL113:=hL109.call hp110 hM112
 refine ⟨_,_,_,rfl,hL113,?_⟩
 refine ⟨Bi [0,1,2,3] rfl,Bi [0,1] rfl,?_⟩
 refine wfv 11 rfl (Af rfl) gn hns rfl<|E8 (by kernel_rfl) ?_
 refine C9 [.string r45] rfl Tryd.func41 rfl (.tmp rfl (.nil)) fun wr hLr=>?_
 have hMr:=hLr.pkI (.c 0 rfl (.c 1 rfl (.c 2 rfl (.c 3 rfl .n)))) .n (by kernel_rfl) (.c 1 rfl .n)
 show Zm w F g3 g10 g17 g28 Tb4 Tb11 Tb18 Tb29 A5 n6 c7 A12 n13 c14 A19 n20 c21 A23 n24 c25 r (.returned (Ci [.string r45])) wr
 rw [h]
 exact ⟨rfl,hMr⟩
noncomputable abbrev q45c11:=Code.fst (Code.snd (Code.snd (Code.snd (Dv Tryd.f45))))
abbrev X9 (w:World) (F:Nat→Prop) (g2:Nat) (g5:Nat) (g12:Nat) (g19:Nat) (g30:Nat) (Tb3:Nat) (Tb6:Nat) (Tb13:Nat) (Tb20:Nat) (Tb31:Nat) (A7:Option Addr) (n8:Nat) (c9:Nat) (A14:Option Addr) (n15:Nat) (c16:Nat) (A21:Option Addr) (n22:Nat) (c23:Nat) (A25:Option Addr) (n26:Nat) (c27:Nat) (r:Bool × (List Az) × (List Int) × Ar × ByteArray):Ending→World→Prop:=fun e w'=>e=.returned (.bool r.1)∧B.Loc w w' [.box g2 Tb3 [.func (.func 41) #[] #[.pointer (some ⟨g5,0,none⟩),.pointer (some ⟨g12,0,none⟩),.pointer (some ⟨g19,0,none⟩),.pointer (some ⟨g30,0,none⟩)]],.box g5 Tb6 [.slice A7 n8 c9],.box g12 Tb13 [.slice A14 n15 c16],.box g19 Tb20 [.slice A21 n22 c23,.slice A25 n26 c27],.box g30 Tb31 [.string r.2.2.2.2]] [St w [[g2],[g5],[g12],[g19],[g30]]]
noncomputable abbrev Xhq (w:World) (F:Nat→Prop) (g2:Nat) (g5:Nat) (g12:Nat) (g19:Nat) (g30:Nat) (Tb3:Nat) (Tb6:Nat) (Tb13:Nat) (Tb20:Nat) (Tb31:Nat) (A7:Option Addr) (n8:Nat) (c9:Nat) (A14:Option Addr) (n15:Nat) (c16:Nat) (A21:Option Addr) (n22:Nat) (c23:Nat) (A25:Option Addr) (n26:Nat) (c27:Nat) (r:Bool × (List Az) × (List Int) × Ar × ByteArray):Cx:=⟨Tryd.prog,45,Tryd.f45,23,X9 w F g2 g5 g12 g19 g30 Tb3 Tb6 Tb13 Tb20 Tb31 A7 n8 c9 A14 n15 c16 A21 n22 c23 A25 n26 c27 r,w⟩
theorem Xdv (w:World) (F:Nat→Prop) (x1:Bh) (x4:List Az) (x11:List Int) (x18:Ar) (x29:ByteArray) (g2:Nat) (Tb3:Nat) (g5:Nat) (Tb6:Nat) (A7:Option Addr) (n8:Nat) (c9:Nat) (g12:Nat) (Tb13:Nat) (A14:Option Addr) (n15:Nat) (c16:Nat) (g19:Nat) (Tb20:Nat) (A21:Option Addr) (n22:Nat) (c23:Nat) (A25:Option Addr) (n26:Nat) (c27:Nat) (g30:Nat) (Tb31:Nat) (h10:Rw F8 w (St w [[g2],[g5],[g12],[g19],[g30]]).av A7 n8 c9 x4) (h17:Rw (G8 .i64) w (St w [[g2],[g5],[g12],[g19],[g30]]).av A14 n15 c16 x11) (h24:Rw Dl w (St w [[g2],[g5],[g12],[g19],[g30]]).av A21 n22 c23 x18.nodes) (h28:Rw Gg w (St w [[g2],[g5],[g12],[g19],[g30]]).av A25 n26 c27 x18.conds) (hF:∀ b,F b→b < w.heap.size∧∀ o ∈ ([[g2],[g5],[g12],[g19],[g30]]:List (List Nat)),b ∉ o) (hL0:B.Loc w w [.box g2 Tb3 [.func (.func 41) #[] #[.pointer (some ⟨g5,0,none⟩),.pointer (some ⟨g12,0,none⟩),.pointer (some ⟨g19,0,none⟩),.pointer (some ⟨g30,0,none⟩)]],.box g5 Tb6 [.slice A7 n8 c9],.box g12 Tb13 [.slice A14 n15 c16],.box g19 Tb20 [.slice A21 n22 c23,.slice A25 n26 c27],.box g30 Tb31 [.string x29]] [Sm w.heap.size F w [[g2],[g5],[g12],[g19],[g30]],St w [[g2],[g5],[g12],[g19],[g30]]]) (r:Bool × (List Az) × (List Int) × Ar × ByteArray) (h:Xm x1 x4 x11 x18 x29 r):Calls Tryd.prog 45 #[.agg #[.bool x1.not,.string x1.a,.string x1.b,.string x1.text],.pointer (some ⟨g2,0,none⟩)] w (X9 w F g2 g5 g12 g19 g30 Tb3 Tb6 Tb13 Tb20 Tb31 A7 n8 c9 A14 n15 c16 A21 n22 c23 A25 n26 c27 r):=by
 unfold Xm at h
 refine Ce (vs:=[.agg #[.bool x1.not,.string x1.a,.string x1.b,.string x1.text],.pointer (some ⟨g2,0,none⟩)]) 23 Tryd.func45 rfl Tryd.ntmps45 rfl hL0 ?_
 show G (Xhq w F g2 g5 g12 g19 g30 Tb3 Tb6 Tb13 Tb20 Tb31 A7 n8 c9 A14 n15 c16 A21 n22 c23 A25 n26 c27 r) _ _ _ _
 refine Ah rfl<|Ac rfl rfl ?_
 refine Cf 0 rfl (V5 [.bool x1.not,.string x1.a,.string x1.b,.string x1.text] rfl rfl rfl fun gb32=>?_) gn
 refine Aa 1 rfl (Af rfl) gn rfl<|Aj 2 rfl<|Ah rfl<|Ac rfl rfl<|Aa 0 rfl (Aw Xg4 rfl) gn rfl<|Aa 1 rfl (Au 0 Ib rfl rfl rfl) gn rfl<|Aa 2 rfl (Af rfl) gn rfl<|Aj 3 rfl<|Ah rfl<|Ah rfl<|Ac rfl rfl<|Aa 0 rfl (Aw Xak rfl) gn rfl ?_
 refine Aa 1 rfl (Au 0 Ib rfl rfl rfl) gn rfl<|Aa 2 rfl (Uf rfl rfl) gn rfl<|Aj 3 rfl ?_
 by_cases hp34:x1.b=(⟨#[]⟩:ByteArray)
 ·have h:=Ap hp34 h
  refine Bg rfl _ rfl ((nf (Qw hp34)))<|Cb rfl<|Ah rfl ?_
  obtain ⟨r38,hv39,h⟩:=h
  have hns:Region.noSelect (Code.ops q45c11)=true:=by kernel_rfl
  refine Vu [.box gb32 47 [.bool x1.not,.string x1.a,.string x1.b,.string x1.text],.box g2 Tb3 [.func (.func 41) #[] #[.pointer (some ⟨g5,0,none⟩),.pointer (some ⟨g12,0,none⟩),.pointer (some ⟨g19,0,none⟩),.pointer (some ⟨g30,0,none⟩)]]] [Sm w.heap.size F w [[g2],[g5],[g12],[g19],[g30]],St w [[g2],[g5],[g12],[g19],[g30]]] [] 10 rfl rfl mix rfl (.cons_cons _ (.cons_cons _ (.cons _ (.cons _ (.cons _ (.cons _ (.slnil))))))) (Bi [0,1] rfl)<|wfv 0 rfl (Au 1 ld_72 rfl rfl rfl) gn hns rfl<|wfv 1 rfl (Aw Xdg rfl) gn hns rfl<|wfv 2 rfl (Au 0 Ib rfl rfl rfl) gn hns rfl<|wfv 4 rfl (Ad rfl) gn hns rfl<|wfv 6 rfl (Aw Xfz rfl) gn hns rfl<|wfv 7 rfl (Au 0 Xcy rfl rfl rfl) gn hns rfl ?_
  refine Cm [3] (by kernel_rfl) rfl ⟨Et 3 rfl gn rfl (J7 [.string x1.a] [.pointer (some ⟨g5,0,none⟩),.pointer (some ⟨g12,0,none⟩),.pointer (some ⟨g19,0,none⟩),.pointer (some ⟨g30,0,none⟩)] rfl rfl Tryd.func41 rfl rfl rfl fun w98 hL99=>?_),trivial⟩
  have hp100:=pmI hL99 (.c 2 rfl (.c 3 rfl (.c 4 rfl (.c 5 rfl .n)))) (.c 0 rfl (.c 1 rfl .n)) (by kernel_rfl)
  refine Calls.mono (Vj w98 (Fl ([]:List Cc)) x1.a x4 x11 x18 x29 g5 Tb6 A7 n8 c9 g12 Tb13 A14 n15 c16 g19 Tb20 A21 n22 c23 A25 n26 c27 g30 Tb31 (Rw.mono h10 (hL99.toSt hp100 (me 1 rfl))) (Rw.mono h17 (hL99.toSt hp100 (me 1 rfl))) (Rw.mono h24 (hL99.toSt hp100 (me 1 rfl))) (Rw.mono h28 (hL99.toSt hp100 (me 1 rfl))) (hL99.hFl hp100 (Bi [] rfl)) (hL99.into hp100 _) r38 hv39) ?_
  rintro _ w101 ⟨rfl,hM102⟩
  have hL103:=hL99.call hp100 hM102
  refine ⟨_,_,_,rfl,hL103,?_⟩
  refine ⟨Bi [4,5] rfl,Bi [0,1] rfl,?_⟩
  refine wfv 5 rfl (Zc rfl rfl) gn hns rfl<|wfv 8 rfl (v_eqB un_4 rfl rfl) gn hns rfl<|wfv 9 rfl (Af rfl) gn hns rfl<|E8 (by kernel_rfl) ?_
  refine C9 [.bool ((seq r38.1 x1.text) == x1.not)] rfl Tryd.func45 rfl (.tmp rfl (.nil)) fun wr hLr=>?_
  have hMr:=hLr.pkI (.c 5 rfl (.c 0 rfl (.c 1 rfl (.c 2 rfl (.c 3 rfl .n))))) (.c 4 rfl .n) (by kernel_rfl) (.c 1 rfl .n)
  show X9 w F g2 g5 g12 g19 g30 Tb3 Tb6 Tb13 Tb20 Tb31 A7 n8 c9 A14 n15 c16 A21 n22 c23 A25 n26 c27 r (.returned (Ci [.bool ((seq r38.1 x1.text) == x1.not)])) wr
  rw [h]
  exact ⟨rfl,hMr⟩
 ·have h:=Aq hp34 h
  refine Bz rfl _ rfl ((nt (Rq hp34)))<|Ac rfl rfl<|Aa 0 rfl (Au 1 ld_72 rfl rfl rfl) gn rfl<|Aa 1 rfl (Aw Xak rfl) gn rfl<|Aa 2 rfl (Au 0 Ib rfl rfl rfl) gn rfl ?_
  obtain ⟨r107,hv108,h⟩:=h
  refine Cf 3 rfl (J7 [.string x1.b] [.pointer (some ⟨g5,0,none⟩),.pointer (some ⟨g12,0,none⟩),.pointer (some ⟨g19,0,none⟩),.pointer (some ⟨g30,0,none⟩)] rfl rfl Tryd.func41 rfl rfl rfl fun w104 hL105=>?_) gn
  have hp106:=pmI hL105 (.c 2 rfl (.c 3 rfl (.c 4 rfl (.c 5 rfl .n)))) (.c 0 rfl (.c 1 rfl .n)) (by kernel_rfl)
  refine Calls.mono (Vj w104 (Fl ([]:List Cc)) x1.b x4 x11 x18 x29 g5 Tb6 A7 n8 c9 g12 Tb13 A14 n15 c16 g19 Tb20 A21 n22 c23 A25 n26 c27 g30 Tb31 (Rw.mono h10 (hL105.toSt hp106 (me 1 rfl))) (Rw.mono h17 (hL105.toSt hp106 (me 1 rfl))) (Rw.mono h24 (hL105.toSt hp106 (me 1 rfl))) (Rw.mono h28 (hL105.toSt hp106 (me 1 rfl))) (hL105.hFl hp106 (Bi [] rfl)) (hL105.into hp106 _) r107 hv108) ?_
  rintro _ w109 ⟨rfl,hM110⟩
  have hL111:=hL105.call hp106 hM110
  refine ⟨_,_,_,rfl,hL111,?_⟩
  refine Aa 4 rfl (Af rfl) gn rfl<|Aj 5 rfl<|Ah rfl ?_
  obtain ⟨r115,hv116,h⟩:=h
  have hns:Region.noSelect (Code.ops q45c11)=true:=by kernel_rfl
  refine Vu [.box gb32 47 [.bool x1.not,.string x1.a,.string x1.b,.string x1.text],.box g2 Tb3 [.func (.func 41) #[] #[.pointer (some ⟨g5,0,none⟩),.pointer (some ⟨g12,0,none⟩),.pointer (some ⟨g19,0,none⟩),.pointer (some ⟨g30,0,none⟩)]]] [Sm w.heap.size F w [[g2],[g5],[g12],[g19],[g30]],St w [[g2],[g5],[g12],[g19],[g30]]] [] 10 rfl rfl mix rfl (.cons _ (.cons _ (.cons _ (.cons _ (.cons_cons _ (.cons_cons _ (.slnil))))))) (Bi [0,1] rfl)<|wfv 0 rfl (Au 1 ld_72 rfl rfl rfl) gn hns rfl<|wfv 1 rfl (Aw Xdg rfl) gn hns rfl<|wfv 2 rfl (Au 0 Ib rfl rfl rfl) gn hns rfl<|wfv 4 rfl (Ad rfl) gn hns rfl<|wfv 6 rfl (Aw Xfz rfl) gn hns rfl<|wfv 7 rfl (Au 0 Xcy rfl rfl rfl) gn hns rfl ?_
  refine Cm [3] (by kernel_rfl) rfl ⟨Et 3 rfl gn rfl (J7 [.string x1.a] [.pointer (some ⟨g5,0,none⟩),.pointer (some ⟨g12,0,none⟩),.pointer (some ⟨g19,0,none⟩),.pointer (some ⟨g30,0,none⟩)] rfl rfl Tryd.func41 rfl rfl rfl fun w174 hL175=>?_),trivial⟩
  have hp176:=pmI hL175 (.c 0 rfl (.c 1 rfl (.c 2 rfl (.c 3 rfl .n)))) (.c 4 rfl (.c 5 rfl .n)) (by kernel_rfl)
  refine Calls.mono (Vj w174 (Fl ([]:List Cc)) x1.a x4 x11 x18 r107.2.2.2.2 g5 Tb6 A7 n8 c9 g12 Tb13 A14 n15 c16 g19 Tb20 A21 n22 c23 A25 n26 c27 g30 Tb31 (Rw.mono h10 (hL175.toSt hp176 (me 1 rfl))) (Rw.mono h17 (hL175.toSt hp176 (me 1 rfl))) (Rw.mono h24 (hL175.toSt hp176 (me 1 rfl))) (Rw.mono h28 (hL175.toSt hp176 (me 1 rfl))) (hL175.hFl hp176 (Bi [] rfl)) (hL175.into hp176 _) r115 hv116) ?_
  rintro _ w177 ⟨rfl,hM178⟩
  have hL179:=hL175.call hp176 hM178
  refine ⟨_,_,_,rfl,hL179,?_⟩
  refine ⟨Bi [4,5] rfl,Bi [0,1] rfl,?_⟩
  refine wfv 5 rfl (Zc rfl rfl) gn hns rfl<|wfv 8 rfl (v_eqB un_4 rfl rfl) gn hns rfl<|wfv 9 rfl (Af rfl) gn hns rfl<|E8 (by kernel_rfl) ?_
  refine C9 [.bool ((seq r115.1 r107.1) == x1.not)] rfl Tryd.func45 rfl (.tmp rfl (.nil)) fun wr hLr=>?_
  have hMr:=hLr.pkI (.c 5 rfl (.c 0 rfl (.c 1 rfl (.c 2 rfl (.c 3 rfl .n))))) (.c 4 rfl .n) (by kernel_rfl) (.c 1 rfl .n)
  show X9 w F g2 g5 g12 g19 g30 Tb3 Tb6 Tb13 Tb20 Tb31 A7 n8 c9 A14 n15 c16 A21 n22 c23 A25 n26 c27 r (.returned (Ci [.bool ((seq r115.1 r107.1) == x1.not)])) wr
  rw [h]
  exact ⟨rfl,hMr⟩
noncomputable abbrev q74c4:=Code.snd (Code.snd (Dv Tryd.f74))
noncomputable abbrev Xij:=Code.fst (Code.fst (Code.snd (Code.fst (Code.snd (Dv Tryd.f74)))))
abbrev H7 (w:World) (F:Nat→Prop) (g6:Nat) (g9:Nat) (g16:Nat) (g23:Nat) (g34:Nat) (Tb7:Nat) (Tb10:Nat) (Tb17:Nat) (Tb24:Nat) (Tb35:Nat) (A11:Option Addr) (n12:Nat) (c13:Nat) (A18:Option Addr) (n19:Nat) (c20:Nat) (A25:Option Addr) (n26:Nat) (c27:Nat) (A29:Option Addr) (n30:Nat) (c31:Nat) (r:Int × (List Az) × (List Int) × Ar × ByteArray):Ending→World→Prop:=fun e w'=>e=.returned (.int .i64 r.1)∧B.Loc w w' [.box g6 Tb7 [.func (.func 41) #[] #[.pointer (some ⟨g9,0,none⟩),.pointer (some ⟨g16,0,none⟩),.pointer (some ⟨g23,0,none⟩),.pointer (some ⟨g34,0,none⟩)]],.box g9 Tb10 [.slice A11 n12 c13],.box g16 Tb17 [.slice A18 n19 c20],.box g23 Tb24 [.slice A25 n26 c27,.slice A29 n30 c31],.box g34 Tb35 [.string r.2.2.2.2]] [St w [[g6],[g9],[g16],[g23],[g34]]]
noncomputable abbrev H8 (w:World) (F:Nat→Prop) (g6:Nat) (g9:Nat) (g16:Nat) (g23:Nat) (g34:Nat) (Tb7:Nat) (Tb10:Nat) (Tb17:Nat) (Tb24:Nat) (Tb35:Nat) (A11:Option Addr) (n12:Nat) (c13:Nat) (A18:Option Addr) (n19:Nat) (c20:Nat) (A25:Option Addr) (n26:Nat) (c27:Nat) (A29:Option Addr) (n30:Nat) (c31:Nat) (r:Int × (List Az) × (List Int) × Ar × ByteArray):Cx:=⟨Tryd.prog,74,Tryd.f74,19,H7 w F g6 g9 g16 g23 g34 Tb7 Tb10 Tb17 Tb24 Tb35 A11 n12 c13 A18 n19 c20 A25 n26 c27 A29 n30 c31 r,w⟩
theorem Ri (w:World) (F:Nat→Prop) (x1:List Bh) (x8:List Az) (x15:List Int) (x22:Ar) (x33:ByteArray) (A2:Option Addr) (n3:Nat) (c4:Nat) (g6:Nat) (Tb7:Nat) (g9:Nat) (Tb10:Nat) (A11:Option Addr) (n12:Nat) (c13:Nat) (g16:Nat) (Tb17:Nat) (A18:Option Addr) (n19:Nat) (c20:Nat) (g23:Nat) (Tb24:Nat) (A25:Option Addr) (n26:Nat) (c27:Nat) (A29:Option Addr) (n30:Nat) (c31:Nat) (g34:Nat) (Tb35:Nat) (h5:Rw Gg w (St w [[g6],[g9],[g16],[g23],[g34]]).av A2 n3 c4 x1) (h14:Rw F8 w (St w [[g6],[g9],[g16],[g23],[g34]]).av A11 n12 c13 x8) (h21:Rw (G8 .i64) w (St w [[g6],[g9],[g16],[g23],[g34]]).av A18 n19 c20 x15) (h28:Rw Dl w (St w [[g6],[g9],[g16],[g23],[g34]]).av A25 n26 c27 x22.nodes) (h32:Rw Gg w (St w [[g6],[g9],[g16],[g23],[g34]]).av A29 n30 c31 x22.conds) (hF:∀ b,F b→b < w.heap.size∧∀ o ∈ ([[g6],[g9],[g16],[g23],[g34]]:List (List Nat)),b ∉ o) (hL0:B.Loc w w [.box g6 Tb7 [.func (.func 41) #[] #[.pointer (some ⟨g9,0,none⟩),.pointer (some ⟨g16,0,none⟩),.pointer (some ⟨g23,0,none⟩),.pointer (some ⟨g34,0,none⟩)]],.box g9 Tb10 [.slice A11 n12 c13],.box g16 Tb17 [.slice A18 n19 c20],.box g23 Tb24 [.slice A25 n26 c27,.slice A29 n30 c31],.box g34 Tb35 [.string x33]] [Sm w.heap.size F w [[g6],[g9],[g16],[g23],[g34]],St w [[g6],[g9],[g16],[g23],[g34]]]) (r:Int × (List Az) × (List Int) × Ar × ByteArray) (h:Jh x1 x8 x15 x22 x33 r):Calls Tryd.prog 74 #[.slice A2 n3 c4,.func (.func 45) #[] #[.pointer (some ⟨g6,0,none⟩)]] w (H7 w F g6 g9 g16 g23 g34 Tb7 Tb10 Tb17 Tb24 Tb35 A11 n12 c13 A18 n19 c20 A25 n26 c27 A29 n30 c31 r):=by
 unfold Jh at h
 refine Ce (vs:=[.slice A2 n3 c4,.func (.func 45) #[] #[.pointer (some ⟨g6,0,none⟩)]]) 19 Tryd.func74 rfl Tryd.ntmps74 rfl hL0 ?_
 show G (H8 w F g6 g9 g16 g23 g34 Tb7 Tb10 Tb17 Tb24 Tb35 A11 n12 c13 A18 n19 c20 A25 n26 c27 A29 n30 c31 r) _ _ _ _
 refine Ah rfl<|Ac rfl rfl<|Aa 0 rfl (Af rfl) gn rfl<|Aj 1 rfl<|Ah rfl<|Ah rfl<|Ac rfl rfl<|Aa 0 rfl (Ad rfl) gn rfl<|Aa 1 rfl (Dj Xhd rfl h5.hq) gn rfl<|Aa 2 rfl (Ad rfl) gn rfl<|Aj 3 rfl<|Df rfl ?_
 refine Io rfl ?_
 have key1:∀ s,Bl (fun (s:Int × ByteArray) o=>Du x1 x8 x15 x22 s.1 s.2 o) s r→(fun (s:Int × ByteArray)=>∀ (_:Unit),G (H8 w F g6 g9 g16 g23 g34 Tb7 Tb10 Tb17 Tb24 Tb35 A11 n12 c13 A18 n19 c20 A25 n26 c27 A29 n30 c31 r) [.code Xij,.inLoop Xij,.inBlock 0,.code q74c4] [(0,.slice A2 n3 c4),(1,.func (.func 45) #[] #[.pointer (some ⟨g6,0,none⟩)]),(7,.int .i64 (x1.length:Int)),(8,.int .i64 s.1)] [.box g6 Tb7 [.func (.func 41) #[] #[.pointer (some ⟨g9,0,none⟩),.pointer (some ⟨g16,0,none⟩),.pointer (some ⟨g23,0,none⟩),.pointer (some ⟨g34,0,none⟩)]],.box g9 Tb10 [.slice A11 n12 c13],.box g16 Tb17 [.slice A18 n19 c20],.box g23 Tb24 [.slice A25 n26 c27,.slice A29 n30 c31],.box g34 Tb35 [.string s.2]] [Sm w.heap.size F w [[g6],[g9],[g16],[g23],[g34]],St w [[g6],[g9],[g16],[g23],[g34]]]) s:=by
  intro s hs
  refine Bl.ind (mot:=(fun (s:Int × ByteArray)=>∀ (_:Unit),G (H8 w F g6 g9 g16 g23 g34 Tb7 Tb10 Tb17 Tb24 Tb35 A11 n12 c13 A18 n19 c20 A25 n26 c27 A29 n30 c31 r) [.code Xij,.inLoop Xij,.inBlock 0,.code q74c4] [(0,.slice A2 n3 c4),(1,.func (.func 45) #[] #[.pointer (some ⟨g6,0,none⟩)]),(7,.int .i64 (x1.length:Int)),(8,.int .i64 s.1)] [.box g6 Tb7 [.func (.func 41) #[] #[.pointer (some ⟨g9,0,none⟩),.pointer (some ⟨g16,0,none⟩),.pointer (some ⟨g23,0,none⟩),.pointer (some ⟨g34,0,none⟩)]],.box g9 Tb10 [.slice A11 n12 c13],.box g16 Tb17 [.slice A18 n19 c20],.box g23 Tb24 [.slice A25 n26 c27,.slice A29 n30 c31],.box g34 Tb35 [.string s.2]] [Sm w.heap.size F w [[g6],[g9],[g16],[g23],[g34]],St w [[g6],[g9],[g16],[g23],[g34]]])) ?_ hs
  clear hs s
  intro s o1 h hO1
  obtain ⟨x49,x50⟩:=s
  show ∀ (_:Unit),G (H8 w F g6 g9 g16 g23 g34 Tb7 Tb10 Tb17 Tb24 Tb35 A11 n12 c13 A18 n19 c20 A25 n26 c27 A29 n30 c31 r) [.code Xij,.inLoop Xij,.inBlock 0,.code q74c4] [(0,.slice A2 n3 c4),(1,.func (.func 45) #[] #[.pointer (some ⟨g6,0,none⟩)]),(7,.int .i64 (x1.length:Int)),(8,.int .i64 x49)] [.box g6 Tb7 [.func (.func 41) #[] #[.pointer (some ⟨g9,0,none⟩),.pointer (some ⟨g16,0,none⟩),.pointer (some ⟨g23,0,none⟩),.pointer (some ⟨g34,0,none⟩)]],.box g9 Tb10 [.slice A11 n12 c13],.box g16 Tb17 [.slice A18 n19 c20],.box g23 Tb24 [.slice A25 n26 c27,.slice A29 n30 c31],.box g34 Tb35 [.string x50]] [Sm w.heap.size F w [[g6],[g9],[g16],[g23],[g34]],St w [[g6],[g9],[g16],[g23],[g34]]]
  intro _
  have h:Du x1 x8 x15 x22 x49 x50 o1:=h
  unfold Du at h
  refine Ah rfl<|Ac rfl rfl<|Aa 0 rfl (Be rfl rfl rfl) gn rfl<|Aj 1 rfl<|Ah rfl ?_
  by_cases hp63:x49 < (x1.length:Int)
  ·have h:=Ap hp63 h
   refine Bz rfl _ rfl ((decide_eq_true hp63))<|Cb rfl<|Ah rfl<|Df rfl<|Ah rfl<|Ac rfl rfl<|Aa 0 rfl (Ad rfl) gn rfl<|Aa 1 rfl (Af rfl) gn rfl<|Aj 2 rfl<|Ah rfl<|Ac rfl rfl<|Aa 0 rfl (Ad rfl) gn rfl ?_
   refine Aa 1 rfl (Ad rfl) gn rfl<|Aa 2 rfl (Ad rfl) gn rfl ?_
   obtain ⟨hb64,h⟩:=h
   have hr65:=Rw.readF (s:=St w [[g6],[g9],[g16],[g23],[g34]]) (hl:=Tc) (h1:=Ti) h5 hb64
   refine Aa 3 rfl (F5 (s:=St w [[g6],[g9],[g16],[g23],[g34]]) Xlz rfl rfl h5 hb64) gn rfl<|Aa 4 rfl (Z9 (St w [[g6],[g9],[g16],[g23],[g34]]) Xif rfl hr65 rfl (me 1 rfl)) gn rfl ?_
   obtain ⟨r69,hv70,h⟩:=h
   refine Cf 5 rfl (J7 [.agg #[.bool ((ix x1 x49).not),.string ((ix x1 x49).a),.string ((ix x1 x49).b),.string ((ix x1 x49).text)]] [.pointer (some ⟨g6,0,none⟩)] rfl rfl Tryd.func45 rfl rfl rfl fun w66 hL67=>?_) gn
   have hp68:=pmI hL67 (.c 0 rfl (.c 1 rfl (.c 2 rfl (.c 3 rfl (.c 4 rfl .n))))) .n (by kernel_rfl)
   refine Calls.mono (Xdv w66 (Fl ([]:List Cc)) (ix x1 x49) x8 x15 x22 x50 g6 Tb7 g9 Tb10 A11 n12 c13 g16 Tb17 A18 n19 c20 g23 Tb24 A25 n26 c27 A29 n30 c31 g34 Tb35 (Rw.mono h14 (hL67.toSt hp68 (me 1 rfl))) (Rw.mono h21 (hL67.toSt hp68 (me 1 rfl))) (Rw.mono h28 (hL67.toSt hp68 (me 1 rfl))) (Rw.mono h32 (hL67.toSt hp68 (me 1 rfl))) (hL67.hFl hp68 (Bi [] rfl)) (hL67.into hp68 _) r69 hv70) ?_
   rintro _ w71 ⟨rfl,hM72⟩
   have hL73:=hL67.call hp68 hM72
   refine ⟨_,_,_,rfl,hL73,?_⟩
   refine Aj 6 rfl ?_
   by_cases hp74:r69.1=true
   ·have h:=Ap hp74 h
    refine Bz rfl _ rfl (hp74)<|Ah rfl<|Ac rfl rfl<|Aa 0 rfl (Ad rfl) gn rfl<|Aa 1 rfl (Af rfl) gn rfl<|Aj 2 rfl ?_
    have h:=Out.inr hO1 h
    refine C9 [.int .i64 x49] rfl Tryd.func74 rfl (.tmp rfl (.nil)) fun wr hLr=>?_
    have hMr:=hLr.pkI (.c 0 rfl (.c 1 rfl (.c 2 rfl (.c 3 rfl (.c 4 rfl .n))))) .n (by kernel_rfl) (.c 1 rfl .n)
    show H7 w F g6 g9 g16 g23 g34 Tb7 Tb10 Tb17 Tb24 Tb35 A11 n12 c13 A18 n19 c20 A25 n26 c27 A29 n30 c31 r (.returned (Ci [.int .i64 x49])) wr
    rw [h]
    exact ⟨rfl,hMr⟩
   ·have h:=Aq hp74 h
    refine Bg rfl _ rfl ((bf hp74))<|Cb rfl<|D7<|Ac rfl rfl<|Aa 0 rfl (Be rfl rfl rfl) gn rfl<|Aa 1 rfl (Ad rfl) gn rfl<|Aj 2 rfl<|Dp ?_
    have ih:=Out.inl hO1 h
    exact Dc [0,1] (ih ()) ⟨rfl,rfl,rfl,rfl,trivial⟩ (.cons_cons _ (.cons_cons _ (.cons_cons _ (.cons_cons _ (.cons_cons _ (.slnil)))))) rfl
  ·have h:=Aq hp63 h
   refine Bg rfl _ rfl ((decide_eq_false hp63))<|Gp [.code q74c4] rfl rfl<|Ah rfl<|Ac rfl rfl<|Aa 0 rfl (Af rfl) gn rfl<|Aj 1 rfl ?_
   have h:=Out.inr hO1 h
   refine C9 [.int .i64 (-1)] rfl Tryd.func74 rfl (.tmp rfl (.nil)) fun wr hLr=>?_
   have hMr:=hLr.pkI (.c 0 rfl (.c 1 rfl (.c 2 rfl (.c 3 rfl (.c 4 rfl .n))))) .n (by kernel_rfl) (.c 1 rfl .n)
   show H7 w F g6 g9 g16 g23 g34 Tb7 Tb10 Tb17 Tb24 Tb35 A11 n12 c13 A18 n19 c20 A25 n26 c27 A29 n30 c31 r (.returned (Ci [.int .i64 (-1)])) wr
   rw [h]
   exact ⟨rfl,hMr⟩
 exact Dc [0,1] (key1 _ h ()) ⟨rfl,rfl,rfl,rfl,trivial⟩ (.cons_cons _ (.cons_cons _ (.cons_cons _ (.cons_cons _ (.cons_cons _ (.slnil)))))) rfl
abbrev Ic (w:World) (F:Nat→Prop) (g6:Nat) (g9:Nat) (g16:Nat) (g23:Nat) (g34:Nat) (Tb7:Nat) (Tb10:Nat) (Tb17:Nat) (Tb24:Nat) (Tb35:Nat) (A11:Option Addr) (n12:Nat) (c13:Nat) (A18:Option Addr) (n19:Nat) (c20:Nat) (A25:Option Addr) (n26:Nat) (c27:Nat) (A29:Option Addr) (n30:Nat) (c31:Nat) (r:Bool × (List Az) × (List Int) × Ar × ByteArray):Ending→World→Prop:=fun e w'=>e=.returned (.bool r.1)∧B.Loc w w' [.box g6 Tb7 [.func (.func 41) #[] #[.pointer (some ⟨g9,0,none⟩),.pointer (some ⟨g16,0,none⟩),.pointer (some ⟨g23,0,none⟩),.pointer (some ⟨g34,0,none⟩)]],.box g9 Tb10 [.slice A11 n12 c13],.box g16 Tb17 [.slice A18 n19 c20],.box g23 Tb24 [.slice A25 n26 c27,.slice A29 n30 c31],.box g34 Tb35 [.string r.2.2.2.2]] [St w [[g6],[g9],[g16],[g23],[g34]]]
noncomputable abbrev Ry (w:World) (F:Nat→Prop) (g6:Nat) (g9:Nat) (g16:Nat) (g23:Nat) (g34:Nat) (Tb7:Nat) (Tb10:Nat) (Tb17:Nat) (Tb24:Nat) (Tb35:Nat) (A11:Option Addr) (n12:Nat) (c13:Nat) (A18:Option Addr) (n19:Nat) (c20:Nat) (A25:Option Addr) (n26:Nat) (c27:Nat) (A29:Option Addr) (n30:Nat) (c31:Nat) (r:Bool × (List Az) × (List Int) × Ar × ByteArray):Cx:=⟨Tryd.prog,44,Tryd.f44,9,Ic w F g6 g9 g16 g23 g34 Tb7 Tb10 Tb17 Tb24 Tb35 A11 n12 c13 A18 n19 c20 A25 n26 c27 A29 n30 c31 r,w⟩
theorem Q8 (w:World) (F:Nat→Prop) (x1:List Bh) (x8:List Az) (x15:List Int) (x22:Ar) (x33:ByteArray) (A2:Option Addr) (n3:Nat) (c4:Nat) (g6:Nat) (Tb7:Nat) (g9:Nat) (Tb10:Nat) (A11:Option Addr) (n12:Nat) (c13:Nat) (g16:Nat) (Tb17:Nat) (A18:Option Addr) (n19:Nat) (c20:Nat) (g23:Nat) (Tb24:Nat) (A25:Option Addr) (n26:Nat) (c27:Nat) (A29:Option Addr) (n30:Nat) (c31:Nat) (g34:Nat) (Tb35:Nat) (h5:Rw Gg w (St w [[g6],[g9],[g16],[g23],[g34]]).av A2 n3 c4 x1) (h14:Rw F8 w (St w [[g6],[g9],[g16],[g23],[g34]]).av A11 n12 c13 x8) (h21:Rw (G8 .i64) w (St w [[g6],[g9],[g16],[g23],[g34]]).av A18 n19 c20 x15) (h28:Rw Dl w (St w [[g6],[g9],[g16],[g23],[g34]]).av A25 n26 c27 x22.nodes) (h32:Rw Gg w (St w [[g6],[g9],[g16],[g23],[g34]]).av A29 n30 c31 x22.conds) (hF:∀ b,F b→b < w.heap.size∧∀ o ∈ ([[g6],[g9],[g16],[g23],[g34]]:List (List Nat)),b ∉ o) (hL0:B.Loc w w [.box g6 Tb7 [.func (.func 41) #[] #[.pointer (some ⟨g9,0,none⟩),.pointer (some ⟨g16,0,none⟩),.pointer (some ⟨g23,0,none⟩),.pointer (some ⟨g34,0,none⟩)]],.box g9 Tb10 [.slice A11 n12 c13],.box g16 Tb17 [.slice A18 n19 c20],.box g23 Tb24 [.slice A25 n26 c27,.slice A29 n30 c31],.box g34 Tb35 [.string x33]] [Sm w.heap.size F w [[g6],[g9],[g16],[g23],[g34]],St w [[g6],[g9],[g16],[g23],[g34]]]) (r:Bool × (List Az) × (List Int) × Ar × ByteArray) (h:F6 x1 x8 x15 x22 x33 r):Calls Tryd.prog 44 #[.slice A2 n3 c4,.func (.func 45) #[] #[.pointer (some ⟨g6,0,none⟩)]] w (Ic w F g6 g9 g16 g23 g34 Tb7 Tb10 Tb17 Tb24 Tb35 A11 n12 c13 A18 n19 c20 A25 n26 c27 A29 n30 c31 r):=by
 unfold F6 at h
 refine Ce (vs:=[.slice A2 n3 c4,.func (.func 45) #[] #[.pointer (some ⟨g6,0,none⟩)]]) 9 Tryd.func44 rfl Tryd.ntmps44 rfl hL0 ?_
 show G (Ry w F g6 g9 g16 g23 g34 Tb7 Tb10 Tb17 Tb24 Tb35 A11 n12 c13 A18 n19 c20 A25 n26 c27 A29 n30 c31 r) _ _ _ _
 refine Ah rfl<|Ac rfl rfl<|Aa 0 rfl (Af rfl) gn rfl<|Aj 1 rfl<|Ah rfl<|Ac rfl rfl<|Aa 0 rfl (Ad rfl) gn rfl<|Aa 1 rfl (Ad rfl) gn rfl ?_
 obtain ⟨r39,hv40,h⟩:=h
 refine Cf 2 rfl (D8 [.slice A2 n3 c4,.func (.func 45) #[] #[.pointer (some ⟨g6,0,none⟩)]] rfl Tryd.func74 rfl rfl rfl fun w36 hL37=>?_) gn
 have hp38:=pmI hL37 (.c 0 rfl (.c 1 rfl (.c 2 rfl (.c 3 rfl (.c 4 rfl .n))))) .n (by kernel_rfl)
 refine Calls.mono (Ri w36 (Fl ([]:List Cc)) x1 x8 x15 x22 x33 A2 n3 c4 g6 Tb7 g9 Tb10 A11 n12 c13 g16 Tb17 A18 n19 c20 g23 Tb24 A25 n26 c27 A29 n30 c31 g34 Tb35 (Rw.mono h5 (hL37.toSt hp38 (me 1 rfl))) (Rw.mono h14 (hL37.toSt hp38 (me 1 rfl))) (Rw.mono h21 (hL37.toSt hp38 (me 1 rfl))) (Rw.mono h28 (hL37.toSt hp38 (me 1 rfl))) (Rw.mono h32 (hL37.toSt hp38 (me 1 rfl))) (hL37.hFl hp38 (Bi [] rfl)) (hL37.into hp38 _) r39 hv40) ?_
 rintro _ w41 ⟨rfl,hM42⟩
 have hL43:=hL37.call hp38 hM42
 refine ⟨_,_,_,rfl,hL43,?_⟩
 refine Aa 3 rfl (Be rfl rfl rfl) gn rfl<|Aa 4 rfl (Af rfl) gn rfl<|Aj 5 rfl ?_
 refine C9 [.bool (decide (r39.1≥0))] rfl Tryd.func44 rfl (.tmp rfl (.nil)) fun wr hLr=>?_
 have hMr:=hLr.pkI (.c 0 rfl (.c 1 rfl (.c 2 rfl (.c 3 rfl (.c 4 rfl .n))))) .n (by kernel_rfl) (.c 1 rfl .n)
 show Ic w F g6 g9 g16 g23 g34 Tb7 Tb10 Tb17 Tb24 Tb35 A11 n12 c13 A18 n19 c20 A25 n26 c27 A29 n30 c31 r (.returned (Ci [.bool (decide (r39.1≥0))])) wr
 rw [h]
 exact ⟨rfl,hMr⟩
noncomputable abbrev q17c4:=Code.snd (Code.snd (Dv Tryd.f17))
noncomputable abbrev q17c6:=Code.snd (Code.fst (Code.snd (Dv Tryd.f17)))
noncomputable abbrev q17c11:=Code.fst q17c4
noncomputable abbrev Xlq:=Code.snd q17c4
noncomputable abbrev Xh7:=Code.snd (Code.snd Xlq)
noncomputable abbrev Xb8:=Code.fst (Code.fst (Code.snd (Code.fst (Code.snd Xlq))))
noncomputable abbrev q17c28:=Code.snd (Code.snd (Code.snd Xb8))
abbrev Za (w:World) (F:Nat→Prop) (r:List Bq):Ending→World→Prop:=fun e w'=>∃ A0:Option Addr,∃ n0:Nat,∃ c0:Nat,∃ cs0:List Value,e=.returned (.slice A0 n0 c0)∧B.Loc w w' [.own (.slice A0 n0 c0) 38 1 n0 cs0] [St w []]∧Ow w.heap.size A0 n0 c0 r∧Cells Dy w' (Nw w w' F [.own (.slice A0 n0 c0) 38 1 n0 cs0]) r cs0
noncomputable abbrev V4 (w:World) (F:Nat→Prop) (r:List Bq):Cx:=⟨Tryd.prog,17,Tryd.f17,54,Za w F  r,w⟩
theorem Ol (w:World) (F:Nat→Prop) (x1:Ar) (x10:List Az) (x15:ByteArray) (A2:Option Addr) (n3:Nat) (c4:Nat) (A6:Option Addr) (n7:Nat) (c8:Nat) (A11:Option Addr) (n12:Nat) (c13:Nat) (h5:Rw Dl w (St w []).av A2 n3 c4 x1.nodes) (h9:Rw Gg w (St w []).av A6 n7 c8 x1.conds) (h14:Rw F8 w (St w []).av A11 n12 c13 x10) (hG:Tb Tryd.prog (St w [])) (hF:∀ b,F b→b < w.heap.size∧∀ o ∈ ([]:List (List Nat)),b ∉ o) (hL0:B.Loc w w [] [Sm w.heap.size F w [],St w []]) (r:List Bq) (h:Qx x1 x10 x15 r):Calls Tryd.prog 17 #[.agg #[.slice A2 n3 c4,.slice A6 n7 c8],.slice A11 n12 c13,.string x15] w (Za w F  r):=by
 unfold Qx at h
 refine Ce (vs:=[.agg #[.slice A2 n3 c4,.slice A6 n7 c8],.slice A11 n12 c13,.string x15]) 54 Tryd.func17 rfl Tryd.ntmps17 rfl hL0 ?_
 show G (V4 w F r) _ _ _ _
 refine Ah rfl<|Ac rfl rfl ?_
 refine Cf 0 rfl (V5 [.slice A2 n3 c4,.slice A6 n7 c8] rfl rfl rfl fun gb16=>?_) gn
 refine Cf 1 rfl (V5 [.slice A11 n12 c13] rfl rfl rfl fun gb18=>?_) gn
 refine Cf 2 rfl (V5 [.string x15] rfl rfl rfl fun gb20=>?_) gn
 refine Aa 3 rfl (Af rfl) gn rfl<|Aj 4 rfl<|Ah rfl<|Ah rfl ?_
 have j1:∀ (x40:Bool) (h:Qd x10 x1 x15 x40 r) ,G (V4 w F r) [.code q17c6,.code q17c4] [(3,.pointer (some ⟨gb16,0,none⟩)),(4,.pointer (some ⟨gb18,0,none⟩)),(5,.pointer (some ⟨gb20,0,none⟩)),(19,.bool x40)] [.box gb20 9 [.string x15],.box gb18 26 [.slice A11 n12 c13],.box gb16 25 [.slice A2 n3 c4,.slice A6 n7 c8]] [Sm w.heap.size F w [],St w []]:=by
  intro x40 h
  unfold Qd at h
  by_cases hp41:x40=true
  ·have h:=Ap hp41 h
   refine Bz rfl _ rfl (hp41)<|Ah rfl<|Ac rfl rfl<|Aa 0 rfl (Af rfl) gn rfl<|Aj 1 rfl<|Nr 38 1 ?_
   refine C9 [.slice none 0 0] rfl Tryd.func17 rfl (.tmp rfl (.nil)) fun wr hLr=>?_
   have hMr:=hLr.pkI (.c 0 rfl .n) (.c 1 rfl (.c 2 rfl (.c 3 rfl .n))) (by kernel_rfl) (.c 1 rfl .n)
   have hMi:=hLr.selI (.c 0 rfl .n)
   show Za w F  r (.returned (Ci [.slice none 0 0])) wr
   rw [h]
   exact ⟨none,0,0,[],rfl,hMr,(Ow.nil (z:=w.heap.size)),(hLr.outC (s:=Sm w.heap.size F w []) hMi (me 0 rfl) Sm.ok Cells.nil)⟩
  ·have h:=Aq hp41 h
   refine Bg rfl _ rfl ((bf hp41))<|Cb rfl<|Ah rfl ?_
   obtain ⟨hb42,h⟩:=h
   obtain ⟨x47,hv48,h⟩:=h
   obtain ⟨hb49,h⟩:=h
   obtain ⟨x53,hv54,h⟩:=h
   have d1:∀ (gb88:Nat) (A89:Option Addr) (n90:Nat) (c91:Nat) (h92:Ow w.heap.size A89 n90 c91 x47) (cs93:List Value) (hC94:Cells (Kd.slice (G8 .i64)) (Sm w.heap.size F w []).w (Sm w.heap.size F w []).av x47 cs93) (A95:Option Addr) (n96:Nat) (c97:Nat) (h98:Ow w.heap.size A95 n96 c97 x53),G (V4 w F r) [.code Xlq] [(3,.pointer (some ⟨gb16,0,none⟩)),(4,.pointer (some ⟨gb18,0,none⟩)),(5,.pointer (some ⟨gb20,0,none⟩)),(7,.pointer (some ⟨gb88,0,none⟩))] [.box gb88 70 [.slice A2 n3 c4,.slice A11 n12 c13,.slice A89 n90 c91,.slice A95 n96 c97],.own (.slice A95 n96 c97) 4 1 n96 (x53.flatMap eB),.own (.slice A89 n90 c91) 36 1 n90 cs93,.box gb20 9 [.string x15],.box gb18 26 [.slice A11 n12 c13],.box gb16 25 [.slice A2 n3 c4,.slice A6 n7 c8]] [Sm w.heap.size F w [],St w []]:=by
    intro gb88 A89 n90 c91 h92 cs93 hC94 A95 n96 c97 h98
    refine Ah rfl<|Ac rfl rfl<|Aa 0 rfl (Af rfl) gn rfl<|Aj 1 rfl<|Ah rfl<|Ah rfl<|Ac rfl rfl<|Aa 0 rfl (Au 4 Zz rfl rfl rfl) gn rfl<|Aa 1 rfl (Dj Xco rfl h14.hq) gn rfl<|Aa 2 rfl (Ad rfl) gn rfl<|Aj 3 rfl<|Df rfl ?_
    refine Io rfl ?_
    have key2:∀ s,Bl (fun (s:(List Bq) × Int × (List (List Int)) × (List Bool) × ByteArray) o=>Pg x10 x1 s.1 s.2.1 s.2.2.1 s.2.2.2.1 s.2.2.2.2 o) s r→(fun (s:(List Bq) × Int × (List (List Int)) × (List Bool) × ByteArray)=>∀ (A166:Option Addr) (n167:Nat) (c168:Nat) (h169:Ow w.heap.size A166 n167 c168 s.1) (cs170:List Value) (sw171:World) (sb172:List (List Nat)) (hC173:Cells Dy (Sm w.heap.size F sw171 sb172).w (Sm w.heap.size F sw171 sb172).av s.1 cs170) (A176:Option Addr) (n177:Nat) (c178:Nat) (h179:Ow w.heap.size A176 n177 c178 s.2.2.1) (cs180:List Value) (sw181:World) (sb182:List (List Nat)) (hC183:Cells (Kd.slice (G8 .i64)) (Sm w.heap.size F sw181 sb182).w (Sm w.heap.size F sw181 sb182).av s.2.2.1 cs180) (A185:Option Addr) (n186:Nat) (c187:Nat) (h188:Ow w.heap.size A185 n186 c187 s.2.2.2.1),G (V4 w F r) [.code Xb8,.inLoop Xb8,.inBlock 0,.code Xh7] [(3,.pointer (some ⟨gb16,0,none⟩)),(4,.pointer (some ⟨gb18,0,none⟩)),(5,.pointer (some ⟨gb20,0,none⟩)),(7,.pointer (some ⟨gb88,0,none⟩)),(8,.slice A166 n167 c168),(32,.int .i64 (x10.length:Int)),(33,.int .i64 s.2.1)] [.own (.slice A166 n167 c168) 38 1 n167 cs170,.own (.slice A176 n177 c178) 36 1 n177 cs180,.own (.slice A185 n186 c187) 4 1 n186 (s.2.2.2.1.flatMap eB),.box gb88 70 [.slice A2 n3 c4,.slice A11 n12 c13,.slice A176 n177 c178,.slice A185 n186 c187],.box gb20 9 [.string s.2.2.2.2],.box gb18 26 [.slice A11 n12 c13],.box gb16 25 [.slice A2 n3 c4,.slice A6 n7 c8]] [Sm w.heap.size F sw171 sb172,Sm w.heap.size F sw181 sb182,Sm w.heap.size F w [],St w []]) s:=by
     intro s hs
     refine Bl.ind (mot:=(fun (s:(List Bq) × Int × (List (List Int)) × (List Bool) × ByteArray)=>∀ (A166:Option Addr) (n167:Nat) (c168:Nat) (h169:Ow w.heap.size A166 n167 c168 s.1) (cs170:List Value) (sw171:World) (sb172:List (List Nat)) (hC173:Cells Dy (Sm w.heap.size F sw171 sb172).w (Sm w.heap.size F sw171 sb172).av s.1 cs170) (A176:Option Addr) (n177:Nat) (c178:Nat) (h179:Ow w.heap.size A176 n177 c178 s.2.2.1) (cs180:List Value) (sw181:World) (sb182:List (List Nat)) (hC183:Cells (Kd.slice (G8 .i64)) (Sm w.heap.size F sw181 sb182).w (Sm w.heap.size F sw181 sb182).av s.2.2.1 cs180) (A185:Option Addr) (n186:Nat) (c187:Nat) (h188:Ow w.heap.size A185 n186 c187 s.2.2.2.1),G (V4 w F r) [.code Xb8,.inLoop Xb8,.inBlock 0,.code Xh7] [(3,.pointer (some ⟨gb16,0,none⟩)),(4,.pointer (some ⟨gb18,0,none⟩)),(5,.pointer (some ⟨gb20,0,none⟩)),(7,.pointer (some ⟨gb88,0,none⟩)),(8,.slice A166 n167 c168),(32,.int .i64 (x10.length:Int)),(33,.int .i64 s.2.1)] [.own (.slice A166 n167 c168) 38 1 n167 cs170,.own (.slice A176 n177 c178) 36 1 n177 cs180,.own (.slice A185 n186 c187) 4 1 n186 (s.2.2.2.1.flatMap eB),.box gb88 70 [.slice A2 n3 c4,.slice A11 n12 c13,.slice A176 n177 c178,.slice A185 n186 c187],.box gb20 9 [.string s.2.2.2.2],.box gb18 26 [.slice A11 n12 c13],.box gb16 25 [.slice A2 n3 c4,.slice A6 n7 c8]] [Sm w.heap.size F sw171 sb172,Sm w.heap.size F sw181 sb182,Sm w.heap.size F w [],St w []])) ?_ hs
     clear hs s
     intro s o1 h hO1
     obtain ⟨x165,x174,x175,x184,x189⟩:=s
     show ∀ (A166:Option Addr) (n167:Nat) (c168:Nat) (h169:Ow w.heap.size A166 n167 c168 x165) (cs170:List Value) (sw171:World) (sb172:List (List Nat)) (hC173:Cells Dy (Sm w.heap.size F sw171 sb172).w (Sm w.heap.size F sw171 sb172).av x165 cs170) (A176:Option Addr) (n177:Nat) (c178:Nat) (h179:Ow w.heap.size A176 n177 c178 x175) (cs180:List Value) (sw181:World) (sb182:List (List Nat)) (hC183:Cells (Kd.slice (G8 .i64)) (Sm w.heap.size F sw181 sb182).w (Sm w.heap.size F sw181 sb182).av x175 cs180) (A185:Option Addr) (n186:Nat) (c187:Nat) (h188:Ow w.heap.size A185 n186 c187 x184),G (V4 w F r) [.code Xb8,.inLoop Xb8,.inBlock 0,.code Xh7] [(3,.pointer (some ⟨gb16,0,none⟩)),(4,.pointer (some ⟨gb18,0,none⟩)),(5,.pointer (some ⟨gb20,0,none⟩)),(7,.pointer (some ⟨gb88,0,none⟩)),(8,.slice A166 n167 c168),(32,.int .i64 (x10.length:Int)),(33,.int .i64 x174)] [.own (.slice A166 n167 c168) 38 1 n167 cs170,.own (.slice A176 n177 c178) 36 1 n177 cs180,.own (.slice A185 n186 c187) 4 1 n186 (x184.flatMap eB),.box gb88 70 [.slice A2 n3 c4,.slice A11 n12 c13,.slice A176 n177 c178,.slice A185 n186 c187],.box gb20 9 [.string x189],.box gb18 26 [.slice A11 n12 c13],.box gb16 25 [.slice A2 n3 c4,.slice A6 n7 c8]] [Sm w.heap.size F sw171 sb172,Sm w.heap.size F sw181 sb182,Sm w.heap.size F w [],St w []]
     intro A166 n167 c168 h169 cs170 sw171 sb172 hC173 A176 n177 c178 h179 cs180 sw181 sb182 hC183 A185 n186 c187 h188
     have h:Pg x10 x1 x165 x174 x175 x184 x189 o1:=h
     unfold Pg at h
     refine Ah rfl<|Ac rfl rfl<|Aa 0 rfl (Be rfl rfl rfl) gn rfl<|Aj 1 rfl<|Ah rfl ?_
     by_cases hp254:x174 < (x10.length:Int)
     ·have h:=Ap hp254 h
      refine Bz rfl _ rfl ((decide_eq_true hp254))<|Cb rfl<|Ah rfl<|Df rfl<|Ah rfl<|Ac rfl rfl<|Aa 0 rfl (Ad rfl) gn rfl<|Aa 1 rfl (Af rfl) gn rfl<|Aj 2 rfl<|Ah rfl<|Ac rfl rfl<|Aa 0 rfl (Ad rfl) gn rfl ?_
      refine Aa 1 rfl (Ad rfl) gn rfl ?_
      obtain ⟨r258,hv259,h⟩:=h
      refine Cf 2 rfl (D8 [.pointer (some ⟨gb88,0,none⟩),.int .i64 0,.int .i64 x174] rfl Tryd.func40 rfl rfl rfl fun w255 hL256=>?_) gn
      have hp257:=pmI hL256 (.c 3 rfl (.c 1 rfl (.c 2 rfl .n))) (.c 0 rfl (.c 4 rfl (.c 5 rfl (.c 6 rfl .n)))) (by kernel_rfl)
      refine Calls.mono (Zo w255 (Fl ([Sm w.heap.size F sw181 sb182]:List Cc)) (⟨x1.nodes,x10,x175,x184⟩:Bf) 0 x174 gb88 70 A2 n3 c4 A11 n12 c13 w.heap.size A176 n177 c178 cs180 w.heap.size A185 n186 c187 (Rw.mono h5 (hL256.toSt hp257 (me 3 rfl))) (Rw.mono h14 (hL256.toSt hp257 (me 3 rfl))) hL256.env.size h179 (Cells.mono (hL256.toFl (me 1 rfl) (me 0 rfl)) hC183) hL256.env.size h188 (hL256.hFl hp257 (Bi [1] rfl)) (hL256.into hp257 _) r258 hv259) ?_
      rintro _ w278 ⟨A260,n261,c262,A266,n267,c268,cs271,A273,n274,c275,rfl,hM279,h263,ht265,h269,hC272,h276⟩
      obtain ⟨sb282,hL280,hv281⟩:=hL256.callB (Sl:=([Sm w.heap.size F sw181 sb182]:List Cc)) hp257 hM279 F (Bi [1] rfl) ⟨Sm.ok,trivial⟩
      have hC272:Cells (Kd.slice (G8 .i64)) (Sm w.heap.size F w278 sb282).w (Sm w.heap.size F w278 sb282).av r258.2.of cs271:=Cells.mono hv281 hC272
      refine ⟨_,_,_,rfl,hL280,?_⟩
      refine Cf 3 rfl (Gz [.slice none 0 0] zr_36 rfl fun gb283=>?_) gn
      refine Cf 4 rfl (Fp (vs:=[.slice A260 n261 c262]) (cs':=[.slice A260 n261 c262]) (M':=[.box gb283 36 [.slice A260 n261 c262],.box gb88 70 [.slice A2 n3 c4,.slice A11 n12 c13,.slice A266 n267 c268,.slice A273 n274 c275],.own (.slice A260 n261 c262) 3 1 n261 (r258.1.flatMap (eI .i64)),.own (.slice A266 n267 c268) 36 1 n267 cs271,.own (.slice A273 n274 c275) 4 1 n274 (r258.2.known.flatMap eB),.own (.slice A166 n167 c168) 38 1 n167 cs170,.box gb20 9 [.string x189],.box gb18 26 [.slice A11 n12 c13],.box gb16 25 [.slice A2 n3 c4,.slice A6 n7 c8]]) 0 Xa6 rfl rfl rfl rfl rfl rfl rfl rfl rfl ?_) gn
      refine Aj 5 rfl<|Ah rfl<|Ah rfl<|Ac rfl rfl<|Aa 0 rfl (Au 0 Y0 rfl rfl rfl) gn rfl ?_
      obtain ⟨b285,hb286⟩:∃ b,b=A260.isNone:=⟨_,rfl⟩
      have h:=h b285 ⟨Xll hb286 (Ow.weak hL256.env.size h263).hA (Ow.weak hL256.env.size h263).hq,fun e=>by rw [hb286,ht265 e]; rfl⟩
      refine Aa 1 rfl (v_eqSL Jc rfl hb286.symm) gn rfl<|Aj 2 rfl ?_
      by_cases hp287:b285=true
      ·have h:=Ap hp287 h
       refine Bz rfl _ rfl (hp287)<|Gp [.code q17c28,.inLoop Xb8,.inBlock 0,.code Xh7] rfl rfl<|Ac rfl rfl<|Aa 0 rfl (Be rfl rfl rfl) gn rfl<|Aa 1 rfl (Ad rfl) gn rfl<|Aj 2 rfl<|Dp<|Ba 8 rfl<|Ba 8 rfl<|Ba 8 rfl<|Ba 4 rfl<|Ba 7 rfl ?_
       refine Ba 7 rfl<|Ba 8 rfl ?_
       have ih:=Out.inl hO1 h
       exact Dc [1,0,3,4] (ih A166 n167 c168 h169 cs170 sw171 sb172 hC173 A266 n267 c268 h269 cs271 w278 sb282 hC272 A273 n274 c275 h276) ⟨rfl,rfl,rfl,rfl,rfl,rfl,rfl,trivial⟩ (.cons_cons _ (.cons_cons _ (.cons_cons _ (.cons_cons _ (.cons_cons _ (.cons_cons _ (.cons_cons _ (.cons _ (.cons _ (.slnil)))))))))) rfl
      ·have h:=Aq hp287 h
       refine Bg rfl _ rfl ((bf hp287))<|Cb rfl<|Ah rfl<|Ac rfl rfl<|Aa 0 rfl (X0 [.pointer (some ⟨gb18,0,none⟩),.pointer (some ⟨gb283,0,none⟩),.pointer (some ⟨gb16,0,none⟩),.pointer (some ⟨gb20,0,none⟩)] rfl) gn rfl ?_
       refine Cf 1 rfl (Gz [.nilFunc] zr_72 rfl fun gb288=>?_) gn
       refine Cf 2 rfl (Fp (vs:=[.func (.func 41) #[] #[.pointer (some ⟨gb18,0,none⟩),.pointer (some ⟨gb283,0,none⟩),.pointer (some ⟨gb16,0,none⟩),.pointer (some ⟨gb20,0,none⟩)]]) (cs':=[.func (.func 41) #[] #[.pointer (some ⟨gb18,0,none⟩),.pointer (some ⟨gb283,0,none⟩),.pointer (some ⟨gb16,0,none⟩),.pointer (some ⟨gb20,0,none⟩)]]) (M':=[.box gb288 72 [.func (.func 41) #[] #[.pointer (some ⟨gb18,0,none⟩),.pointer (some ⟨gb283,0,none⟩),.pointer (some ⟨gb16,0,none⟩),.pointer (some ⟨gb20,0,none⟩)]],.box gb283 36 [.slice A260 n261 c262],.box gb88 70 [.slice A2 n3 c4,.slice A11 n12 c13,.slice A266 n267 c268,.slice A273 n274 c275],.own (.slice A260 n261 c262) 3 1 n261 (r258.1.flatMap (eI .i64)),.own (.slice A266 n267 c268) 36 1 n267 cs271,.own (.slice A273 n274 c275) 4 1 n274 (r258.2.known.flatMap eB),.own (.slice A166 n167 c168) 38 1 n167 cs170,.box gb20 9 [.string x189],.box gb18 26 [.slice A11 n12 c13],.box gb16 25 [.slice A2 n3 c4,.slice A6 n7 c8]]) 0 sz_72 rfl rfl rfl rfl rfl rfl rfl rfl rfl ?_) gn
       refine Aj 3 rfl<|Ah rfl<|Ac rfl rfl<|Aa 0 rfl (Aw U0 rfl) gn rfl<|Aa 1 rfl (Au 9 Xck rfl rfl rfl) gn rfl<|Aa 2 rfl (X0 [.pointer (some ⟨gb288,0,none⟩)] rfl) gn rfl ?_
       obtain ⟨r293,hv294,h⟩:=h
       refine Cf 3 rfl (D8 [.slice A6 n7 c8,.func (.func 45) #[] #[.pointer (some ⟨gb288,0,none⟩)]] rfl Tryd.func44 rfl rfl rfl fun w290 hL291=>?_) gn
       have hp292:=pmI hL291 (.c 0 rfl (.c 8 rfl (.c 1 rfl (.c 9 rfl (.c 7 rfl .n))))) (.c 2 rfl (.c 3 rfl (.c 4 rfl (.c 5 rfl (.c 6 rfl .n))))) (by kernel_rfl)
       refine Calls.mono (Q8 w290 (Fl ([]:List Cc)) x1.conds x10 r258.1 x1 x189 A6 n7 c8 gb288 72 gb18 26 A11 n12 c13 gb283 36 A260 n261 c262 gb16 25 A2 n3 c4 A6 n7 c8 gb20 9 (Rw.mono h9 (hL291.toSt hp292 (me 4 rfl))) (Rw.mono h14 (hL291.toSt hp292 (me 4 rfl))) (hL291.argO (dk:=(G8 .i64)) hp292 [0,8,1,9,7] rfl 3 rfl rfl (Ow.weak hL256.env.size h263) (me 3 rfl) (Cells.flat _)) (Rw.mono h5 (hL291.toSt hp292 (me 4 rfl))) (Rw.mono h9 (hL291.toSt hp292 (me 4 rfl))) (hL291.hFl hp292 (Bi [] rfl)) (hL291.into hp292 _) r293 hv294) ?_
       rintro _ w295 ⟨rfl,hM296⟩
       have hL297:=hL291.call hp292 hM296
       refine ⟨_,_,_,rfl,hL297,?_⟩
       refine Aa 4 rfl (Qv rfl) gn rfl<|Aj 5 rfl ?_
       by_cases hp298:r293.1=true
       ·have h:=Ap hp298 h
        refine Bg rfl _ rfl ((nf hp298))<|Cb rfl<|D7<|Ac rfl rfl<|Aa 0 rfl (Be rfl rfl rfl) gn rfl<|Aa 1 rfl (Ad rfl) gn rfl<|Aj 2 rfl<|Dp<|Ba 3 rfl<|Ba 2 rfl<|Ba 4 rfl<|Ba 5 rfl ?_
        refine Ba 8 rfl<|Ba 8 rfl<|Ba 9 rfl ?_
        have ih:=Out.inl hO1 h
        exact Dc [1,0,3,4] (ih A166 n167 c168 h169 cs170 sw171 sb172 hC173 A266 n267 c268 h269 cs271 w278 sb282 hC272 A273 n274 c275 h276) ⟨rfl,rfl,rfl,rfl,rfl,rfl,rfl,trivial⟩ (.cons_cons _ (.cons_cons _ (.cons_cons _ (.cons_cons _ (.cons_cons _ (.cons_cons _ (.cons_cons _ (.cons _ (.cons _ (.cons _ (.slnil))))))))))) rfl
       ·have h:=Aq hp298 h
        refine Bz rfl _ rfl ((nt (bf hp298)))<|Ac rfl rfl<|Aa 0 rfl (Ad rfl) gn rfl<|Aa 1 rfl (Au 2 Y0 rfl rfl rfl) gn rfl<|Aa 2 rfl (J5 #[.slice A260 n261 c262] bd_38 rfl (by kernel_rfl)) gn rfl ?_
        refine Xe0 (F:=F) (dk:=(G8 .i64)) (Sm w.heap.size F w []) 6 rfl (Ow.weak hL256.env.size h263) (me 3 rfl) Sm.ok (Cells.flat _) fun sw300 sb301 h299=>?_
        have hC303:Cells Dy (Sm w.heap.size F sw300 sb301).w (Sm w.heap.size F sw300 sb301).av ([(⟨r258.1⟩:Bq)]:List Bq) [.slice A260 n261 c262]:=(Cells.cons (c1:=[.slice A260 n261 c262]) ⟨A260,n261,c262,rfl,h299⟩ Cells.nil)
        refine Cf 3 rfl (Gw (xs:=([(⟨r258.1⟩:Bq)]:List Bq)) [.slice A260 n261 c262] Xmk rfl (by kernel_rfl) rfl rfl rfl rfl fun gb304 h305=>?_) gn
        obtain ⟨x312,hv313,h⟩:=h
        obtain ⟨hb314,h⟩:=h
        refine Xli (F:=F) fun sw309 sb310 ho311=>?_
        obtain ⟨cs315,hc316⟩:∃ x:List Value,x=cs170++[.slice A260 n261 c262]:=⟨_,rfl⟩
        have hC317:Cells Dy (Sm w.heap.size F sw309 sb310).w (Sm w.heap.size F sw309 sb310).av x312 cs315:=by rw [hv313,hc316]; exact Cells.app (Cells.older (s:=Sm w.heap.size F sw171 sb172) hC173 (ho311 _ (me 2 rfl) Sm.ok)) (Cells.older (s:=Sm w.heap.size F sw300 sb301) hC303 (ho311 _ (me 0 rfl) Sm.ok))
        refine Cf 4 rfl (L8 (zs:=x312) 9 ap_31 rfl rfl rfl h169 (Nat.le_refl _) (Src.ownAll 0 rfl h305 hC303) hc316.symm (Ff hv313 h305.hq) hb314 rfl rfl fun A306 c307 h308=>?_) gn
        refine Aa 5 rfl (Af rfl) gn rfl<|Aj 6 rfl<|D7<|Ac rfl rfl<|Aa 0 rfl (Be rfl rfl rfl) gn rfl<|Aa 1 rfl (Ad rfl) gn rfl<|Aj 2 rfl<|Dp<|Ba 4 rfl<|Ba 3 rfl<|Ba 5 rfl<|Ba 6 rfl ?_
        refine Ba 8 rfl<|Ba 8 rfl<|Ba 9 rfl ?_
        have ih:=Out.inl hO1 h
        exact Dc [0,2,5,6] (ih A306 (n167 + 1) c307 h308 cs315 sw309 sb310 hC317 A266 n267 c268 h269 cs271 w278 sb282 hC272 A273 n274 c275 h276) ⟨rfl,rfl,rfl,rfl,rfl,rfl,rfl,trivial⟩ (.cons_cons _ (.cons_cons _ (.cons_cons _ (.cons_cons _ (.cons_cons _ (.cons_cons _ (.cons_cons _ (.cons _ (.cons _ (.cons _ (.slnil))))))))))) rfl
     ·have h:=Aq hp254 h
      refine Bg rfl _ rfl ((decide_eq_false hp254))<|Gp [.code Xh7] rfl rfl<|Ah rfl<|Ac rfl rfl<|Aa 0 rfl (Ad rfl) gn rfl<|Aa 1 rfl (Af rfl) gn rfl<|Aj 2 rfl ?_
      have h:=Out.inr hO1 h
      refine C9 [.slice A166 n167 c168] rfl Tryd.func17 rfl (.tmp rfl (.nil)) fun wr hLr=>?_
      have hMr:=hLr.pkI (.c 0 rfl .n) (.c 1 rfl (.c 2 rfl (.c 3 rfl (.c 4 rfl (.c 5 rfl (.c 6 rfl .n)))))) (by kernel_rfl) (.c 3 rfl .n)
      have hMi:=hLr.selI (.c 0 rfl .n)
      show Za w F  r (.returned (Ci [.slice A166 n167 c168])) wr
      rw [h]
      exact ⟨A166,n167,c168,cs170,rfl,hMr,h169,(hLr.outC (s:=Sm w.heap.size F sw171 sb172) hMi (me 0 rfl) Sm.ok hC173)⟩
    refine Nr 38 1<|Ba 6 rfl<|Ba 6 rfl<|Ba 6 rfl<|Ba 4 rfl<|Ba 5 rfl<|Ba 6 rfl<|Ba 6 rfl ?_
    exact Dc [0,0,0,1] (key2 _ h none 0 0 (Ow.nil (z:=w.heap.size)) [] w [] Cells.nil A89 n90 c91 h92 cs93 w [] hC94 A95 n96 c97 h98) ⟨rfl,rfl,rfl,rfl,rfl,rfl,rfl,trivial⟩ (.cons_cons _ (.cons_cons _ (.cons_cons _ (.cons_cons _ (.cons_cons _ (.cons_cons _ (.cons_cons _ (.slnil)))))))) rfl
   have hns:Region.noSelect (Code.ops q17c11)=true:=by kernel_rfl
   refine Gf [] 12 rfl rfl mix rfl (.c 0 rfl (.c 1 rfl .n))<|wfv 0 rfl (Aw J4 rfl) gn hns rfl<|wfv 1 rfl (Au 2 Rl rfl rfl rfl) gn hns rfl<|wfv 2 rfl (Au 1 Zz rfl rfl rfl) gn hns rfl<|wfv 3 rfl (Au 1 Zz rfl rfl rfl) gn hns rfl<|wfv 4 rfl (Dj Xco rfl h14.hq) gn hns rfl<|wfv 6 rfl (Au 1 Zz rfl rfl rfl) gn hns rfl<|wfv 7 rfl (Dj Xco rfl h14.hq) gn hns rfl ?_
   refine Cm [5,8] (by kernel_rfl) rfl ⟨?_,?_,trivial⟩
   ·have hC331 : Cells (Kd.slice (G8 .i64)) (Sm w.heap.size F w []).w (Sm w.heap.size F w []).av x47 (x47.flatMap (fun _ : List Int => [Value.slice none 0 0])) := by rw [hv48]; exact Cells.rep (dk := (Kd.slice (G8 .i64))) ⟨none, 0, 0, rfl, Rw.nil⟩ _
    refine Et 5 rfl gn rfl (Rk (enc:=(fun _:List Int=>[Value.slice none 0 0])) (z:=([]:List Int)) mk_67 rfl (by decide) rfl rfl hb42.1 hb42.2 (by decide) hv48 rfl fun A329 h330=>?_)
    refine ⟨Bi [1,2,3] rfl,Bi [0,1] rfl,?_⟩
    refine Cm [8] (by kernel_rfl) rfl ⟨Et 8 rfl gn rfl (Rk (enc:=eB) (z:=false) mk_68 rfl (by decide) rfl rfl hb49.1 hb49.2 (by decide) hv54 rfl fun A334 h335=>?_),trivial⟩
    refine ⟨Bi [2,3,4] rfl,Bi [0,1] rfl,?_⟩
    refine wfv 9 rfl (J5 #[.slice A2 n3 c4,.slice A11 n12 c13,.slice A329 (((x10.length:Int):Int).toNat) (((x10.length:Int):Int).toNat),.slice A334 (((x10.length:Int):Int).toNat) (((x10.length:Int):Int).toNat)] bd_70 rfl (by kernel_rfl)) gn hns rfl ?_
    refine Cm [10] (by kernel_rfl) rfl ⟨Et 10 rfl gn rfl (V5 [.slice A2 n3 c4,.slice A11 n12 c13,.slice A329 (((x10.length:Int):Int).toNat) (((x10.length:Int):Int).toNat),.slice A334 (((x10.length:Int):Int).toNat) (((x10.length:Int):Int).toNat)] rfl rfl rfl fun gb337=>?_),trivial⟩
    refine ⟨Bi [3,4,5] rfl,Bi [0,1] rfl,?_⟩
    refine wfv 11 rfl (Af rfl) gn hns rfl<|E8 (by kernel_rfl) ?_
    exact Dc [0,1] (d1 gb337 A329 (((x10.length:Int):Int).toNat) (((x10.length:Int):Int).toNat) h330 (x47.flatMap (fun _:List Int=>[Value.slice none 0 0])) hC331 A334 (((x10.length:Int):Int).toNat) (((x10.length:Int):Int).toNat) h335) ⟨rfl,rfl,rfl,rfl,trivial⟩ (.cons_cons _ (.cons_cons _ (.cons_cons _ (.cons_cons _ (.cons_cons _ (.cons_cons _ (.slnil))))))) rfl
   ·refine Et 8 rfl gn rfl (Rk (enc := eB) (z := false) mk_68 rfl (by decide) rfl rfl hb49.1 hb49.2 (by decide) hv54 rfl fun A338 h339 => ?_)
    refine ⟨Bi [1,2,3] rfl,Bi [0,1] rfl,?_⟩
    have hC345:Cells (Kd.slice (G8 .i64)) (Sm w.heap.size F w []).w (Sm w.heap.size F w []).av x47 (x47.flatMap (fun _:List Int=>[Value.slice none 0 0])):=by rw [hv48]; exact Cells.rep (dk:=(Kd.slice (G8 .i64))) ⟨none,0,0,rfl,Rw.nil⟩ _
    refine Cm [5] (by kernel_rfl) rfl ⟨Et 5 rfl gn rfl (Rk (enc:=(fun _:List Int=>[Value.slice none 0 0])) (z:=([]:List Int)) mk_67 rfl (by decide) rfl rfl hb42.1 hb42.2 (by decide) hv48 rfl fun A343 h344=>?_),trivial⟩
    refine ⟨Bi [2,3,4] rfl,Bi [0,1] rfl,?_⟩
    refine wfv 9 rfl (J5 #[.slice A2 n3 c4,.slice A11 n12 c13,.slice A343 (((x10.length:Int):Int).toNat) (((x10.length:Int):Int).toNat),.slice A338 (((x10.length:Int):Int).toNat) (((x10.length:Int):Int).toNat)] bd_70 rfl (by kernel_rfl)) gn hns rfl ?_
    refine Cm [10] (by kernel_rfl) rfl ⟨Et 10 rfl gn rfl (V5 [.slice A2 n3 c4,.slice A11 n12 c13,.slice A343 (((x10.length:Int):Int).toNat) (((x10.length:Int):Int).toNat),.slice A338 (((x10.length:Int):Int).toNat) (((x10.length:Int):Int).toNat)] rfl rfl rfl fun gb347=>?_),trivial⟩
    refine ⟨Bi [3,4,5] rfl,Bi [0,1] rfl,?_⟩
    refine wfv 11 rfl (Af rfl) gn hns rfl<|E8 (by kernel_rfl)<|Ba 5 rfl<|Ba 5 rfl<|Ba 5 rfl<|Ba 4 rfl<|Ba 5 rfl<|Ba 5 rfl ?_
    exact Dc [0,1] (d1 gb347 A343 (((x10.length:Int):Int).toNat) (((x10.length:Int):Int).toNat) h344 (x47.flatMap (fun _:List Int=>[Value.slice none 0 0])) hC345 A338 (((x10.length:Int):Int).toNat) (((x10.length:Int):Int).toNat) h339) ⟨rfl,rfl,rfl,rfl,trivial⟩ (.cons_cons _ (.cons_cons _ (.cons_cons _ (.cons_cons _ (.cons_cons _ (.cons_cons _ (.slnil))))))) rfl
 refine Ac rfl rfl<|Aa 0 rfl (Nj [.slice A2 n3 c4,.slice A6 n7 c8] 2 U4 rfl rfl rfl rfl) gn rfl ?_
 obtain ⟨r351,hv352,h⟩:=h
 refine Cf 1 rfl (D8 [.agg #[.slice A2 n3 c4,.slice A6 n7 c8]] rfl Tryd.func24 rfl rfl rfl fun w348 hL349=>?_) gn
 have hp350:=pmI hL349 .n (.c 0 rfl (.c 1 rfl (.c 2 rfl .n))) (by kernel_rfl)
 refine Calls.mono (Uw w348 (Fl ([]:List Cc)) x1 A2 n3 c4 A6 n7 c8 (Rw.mono h5 (hL349.toSt hp350 (me 1 rfl))) (Rw.mono h9 (hL349.toSt hp350 (me 1 rfl))) (hL349.tb hp350 hG (me 1 rfl)) (hL349.hFl hp350 (Bi [] rfl)) (hL349.into hp350 _) r351 hv352) ?_
 rintro _ w353 ⟨rfl,hM354⟩
 have hL355:=hL349.call hp350 hM354
 refine ⟨_,_,_,rfl,hL355,?_⟩
 refine Aa 2 rfl (Qv rfl) gn rfl<|Aa 3 rfl (Ad rfl) gn rfl ?_
 by_cases hp356:r351=true
 ·have h:=Ap hp356 h
  refine Bv 15 rfl ((nf hp356))<|Aa 4 rfl (Au 1 Zz rfl rfl rfl) (gy 15 rfl rfl) rfl ?_
  obtain ⟨r360,hv361,h⟩:=h
  refine Cf 5 rfl (D8 [.slice A11 n12 c13] rfl Tryd.func30 rfl rfl rfl fun w357 hL358=>?_) (gy 15 rfl rfl)
  have hp359:=pmI hL358 .n (.c 0 rfl (.c 1 rfl (.c 2 rfl .n))) (by kernel_rfl)
  refine Calls.mono (Xa3 w357 (Fl ([]:List Cc)) x10 A11 n12 c13 (Rw.mono h14 (hL358.toSt hp359 (me 1 rfl))) (hL358.hFl hp359 (Bi [] rfl)) (hL358.into hp359 _) r360 hv361) ?_
  rintro _ w362 ⟨rfl,hM363⟩
  have hL364:=hL358.call hp359 hM363
  refine ⟨_,_,_,rfl,hL364,?_⟩
  refine Aa 6 rfl (Be rfl rfl rfl) (gy 15 rfl rfl) rfl<|Aa 7 rfl (Bd (b:=false) rfl rfl) gn rfl<|Aj 8 rfl ?_
  exact Dc [0,1] (j1 (decide (r360 < 0)) h) ⟨rfl,rfl,rfl,rfl,trivial⟩ (.cons_cons _ (.cons_cons _ (.cons_cons _ (.slnil)))) rfl
 ·have h:=Aq hp356 h
  refine Bv 15 rfl ((nt (bf hp356)))<|Ae 4 rfl (ps 15 rfl rfl rfl)<|Ae 5 rfl (ps 15 rfl rfl rfl)<|Ae 6 rfl (ps 15 rfl rfl rfl)<|Aa 7 rfl (Bd (b:=true) rfl rfl) gn rfl<|Aj 8 rfl ?_
  exact Dc [0,1] (j1 true h) ⟨rfl,rfl,rfl,rfl,trivial⟩ (.cons_cons _ (.cons_cons _ (.cons_cons _ (.slnil)))) rfl
noncomputable abbrev Xju:=Code.snd (Code.snd (Code.snd (Dv Tryd.f36)))
noncomputable abbrev Xdc:=Code.fst (Code.fst (Code.snd (Code.fst (Code.snd (Code.snd (Dv Tryd.f36))))))
noncomputable abbrev q36c24:=Code.fst (Code.fst (Code.fst (Code.snd Xdc)))
abbrev Jl (w:World) (F:Nat→Prop) (r:Bool):Ending→World→Prop:=fun e w'=>e=.returned (.bool r)∧B.Loc w w' [] [St w []]
noncomputable abbrev Mc (w:World) (F:Nat→Prop) (r:Bool):Cx:=⟨Tryd.prog,36,Tryd.f36,26,Jl w F  r,w⟩
theorem Rn (w:World) (F:Nat→Prop) (x1:List Int) (x6:List Int) (A2:Option Addr) (n3:Nat) (c4:Nat) (A7:Option Addr) (n8:Nat) (c9:Nat) (h5:Rw (G8 .i64) w (St w []).av A2 n3 c4 x1) (h10:Rw (G8 .i64) w (St w []).av A7 n8 c9 x6) (hF:∀ b,F b→b < w.heap.size∧∀ o ∈ ([]:List (List Nat)),b ∉ o) (hL0:B.Loc w w [] [Sm w.heap.size F w [],St w []]) (r:Bool) (h:J8 x1 x6 r):Calls Tryd.prog 36 #[.slice A2 n3 c4,.slice A7 n8 c9] w (Jl w F  r):=by
 unfold J8 at h
 refine Ce (vs:=[.slice A2 n3 c4,.slice A7 n8 c9]) 26 Tryd.func36 rfl Tryd.ntmps36 rfl hL0 ?_
 show G (Mc w F r) _ _ _ _
 refine Ah rfl<|Ac rfl rfl<|Aa 0 rfl (Af rfl) gn rfl<|Aj 1 rfl<|Ah rfl<|Ah rfl<|Ac rfl rfl<|Aa 0 rfl (Ad rfl) gn rfl<|Aa 1 rfl (Dj Jc rfl h5.hq) gn rfl<|Aa 2 rfl (Ad rfl) gn rfl<|Aa 3 rfl (Dj Jc rfl h10.hq) gn rfl<|Aa 4 rfl (Be rfl rfl rfl) gn rfl ?_
 refine Aj 5 rfl ?_
 by_cases hp11:(x1.length:Int)=(x6.length:Int)
 ·have h:=Ap hp11 h
  refine Bg rfl _ rfl ((Xd2 hp11))<|Cb rfl<|Ah rfl<|Ah rfl<|Ac rfl rfl<|Aa 0 rfl (Af rfl) gn rfl<|Aj 1 rfl<|Df rfl<|Io rfl ?_
  have key1:∀ s,Bl (fun (s:Int) o=>Hy x1 x6 s o) s r→(fun (s:Int)=>∀ (_:Unit),G (Mc w F r) [.code Xdc,.inLoop Xdc,.inBlock 0,.code Xju] [(0,.slice A2 n3 c4),(1,.slice A7 n8 c9),(5,.int .i64 s)] [] [Sm w.heap.size F w [],St w []]) s:=by
   intro s hs
   refine Bl.ind (mot:=(fun (s:Int)=>∀ (_:Unit),G (Mc w F r) [.code Xdc,.inLoop Xdc,.inBlock 0,.code Xju] [(0,.slice A2 n3 c4),(1,.slice A7 n8 c9),(5,.int .i64 s)] [] [Sm w.heap.size F w [],St w []])) ?_ hs
   clear hs s
   intro x23 o1 h hO1
   show ∀ (_:Unit),G (Mc w F r) [.code Xdc,.inLoop Xdc,.inBlock 0,.code Xju] [(0,.slice A2 n3 c4),(1,.slice A7 n8 c9),(5,.int .i64 x23)] [] [Sm w.heap.size F w [],St w []]
   intro _
   have h:Hy x1 x6 x23 o1:=h
   unfold Hy at h
   refine Ah rfl<|Ah rfl<|Ac rfl rfl<|Aa 0 rfl (Ad rfl) gn rfl<|Aa 1 rfl (Ad rfl) gn rfl<|Aa 2 rfl (Dj Jc rfl h5.hq) gn rfl<|Aa 3 rfl (Be rfl rfl rfl) gn rfl<|Aj 4 rfl ?_
   by_cases hp34:x23 < (x1.length:Int)
   ·have h:=Ap hp34 h
    refine Bz rfl _ rfl ((decide_eq_true hp34))<|Cb rfl<|Ah rfl<|Df rfl<|Ah rfl ?_
    obtain ⟨hb35,h⟩:=h
    obtain ⟨hb37,h⟩:=h
    have hns:Region.noSelect (Code.ops q36c24)=true:=by kernel_rfl
    refine Gf [] 9 rfl rfl mix rfl (.c 0 rfl (.c 1 rfl .n))<|wfv 0 rfl (Ad rfl) gn hns rfl<|wfv 1 rfl (Ad rfl) gn hns rfl ?_
    have hr41:=Rw.readF (s:=St w []) (hl:=(hlI .i64)) (h1:=(Ey .i64)) h5 hb35
    refine wfv 2 rfl (F5 (s:=St w []) Jt rfl rfl h5 hb35) gn hns rfl<|wfv 3 rfl (Hq (kk:=(x23:Int).toNat * 1) (j:=0) (St w []) H9 rfl hr41 rfl (me 1 rfl)) gn hns rfl<|wfv 4 rfl (Ad rfl) gn hns rfl<|wfv 5 rfl (Ad rfl) gn hns rfl ?_
    have hr42:=Rw.readF (s:=St w []) (hl:=(hlI .i64)) (h1:=(Ey .i64)) h10 hb37
    refine wfv 6 rfl (F5 (s:=St w []) Jt rfl rfl h10 hb37) gn hns rfl<|wfv 7 rfl (Hq (kk:=(x23:Int).toNat * 1) (j:=0) (St w []) H9 rfl hr42 rfl (me 1 rfl)) gn hns rfl<|wfv 8 rfl (Be rfl rfl rfl) gn hns rfl<|E8 (by kernel_rfl) ?_
    by_cases hp43:ix x1 x23=ix x6 x23
    ·have h:=Ap hp43 h
     refine Bg rfl _ rfl ((Xd2 hp43))<|Cb rfl<|D7<|Ac rfl rfl<|Aa 0 rfl (Ad rfl) gn rfl<|Aa 1 rfl (Be rfl rfl rfl) gn rfl<|Aa 2 rfl (Af rfl) gn rfl<|Aj 3 rfl<|Dp ?_
     have ih:=Out.inl hO1 h
     exact Dc [0,1] (ih ()) ⟨rfl,rfl,rfl,trivial⟩ (.slnil) rfl
    ·have h:=Aq hp43 h
     refine Bz rfl _ rfl ((Xde hp43))<|Ah rfl<|Ac rfl rfl<|Aa 0 rfl (Af rfl) gn rfl<|Aj 1 rfl ?_
     have h:=Out.inr hO1 h
     refine C9 [.bool false] rfl Tryd.func36 rfl (.tmp rfl (.nil)) fun wr hLr=>?_
     have hMr:=hLr.pk0 (.c 1 rfl .n)
     show Jl w F  r (.returned (Ci [.bool false])) wr
     rw [h]
     exact ⟨rfl,hMr⟩
   ·have h:=Aq hp34 h
    refine Bg rfl _ rfl ((decide_eq_false hp34))<|Gp [.code Xju] rfl rfl<|Ah rfl<|Ac rfl rfl<|Aa 0 rfl (Af rfl) gn rfl<|Aj 1 rfl ?_
    have h:=Out.inr hO1 h
    refine C9 [.bool true] rfl Tryd.func36 rfl (.tmp rfl (.nil)) fun wr hLr=>?_
    have hMr:=hLr.pk0 (.c 1 rfl .n)
    show Jl w F  r (.returned (Ci [.bool true])) wr
    rw [h]
    exact ⟨rfl,hMr⟩
  exact Dc [0,1] (key1 _ h ()) ⟨rfl,rfl,rfl,trivial⟩ (.slnil) rfl
 ·have h:=Aq hp11 h
  refine Bz rfl _ rfl ((Xde hp11))<|Ah rfl<|Ac rfl rfl<|Aa 0 rfl (Af rfl) gn rfl<|Aj 1 rfl ?_
  refine C9 [.bool false] rfl Tryd.func36 rfl (.tmp rfl (.nil)) fun wr hLr=>?_
  have hMr:=hLr.pk0 (.c 1 rfl .n)
  show Jl w F  r (.returned (Ci [.bool false])) wr
  rw [h]
  exact ⟨rfl,hMr⟩
end Go.Proofs.YtjookebbmfiidaaDoor.K
