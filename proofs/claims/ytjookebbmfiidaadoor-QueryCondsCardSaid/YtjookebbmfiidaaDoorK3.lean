/- What the machine's calls do, function by function, printed by my own tool. Condition of each: its relation holds of the answer, and what is handed in lies in memory as told. -/
import Derived.Test.YtjookebbmfiidaaDoorK2
set_option linter.unusedVariables false
set_option maxRecDepth 100000
set_option maxHeartbeats 4000000
namespace Go.Proofs.YtjookebbmfiidaaDoor.K
open Go.Proofs.YtjookebbmfiidaaDoor.B Go.Proofs.YtjookebbmfiidaaDoor.R Go.RowKit
noncomputable abbrev Xif:=Code.snd (Code.snd (Code.snd (Dt Tryd.f71)))
noncomputable abbrev Xcl:=Code.fst (Code.fst (Code.snd (Code.fst (Code.snd (Code.snd (Dt Tryd.f71))))))
noncomputable abbrev q71c34:=Code.fst (Code.fst (Code.snd (Code.snd (Code.snd (Code.fst (Code.fst (Code.snd (Code.snd Xcl))))))))
abbrev Jr (w:World) (F:Nat→Prop) (g15:Nat) (g17:Nat) (g20:Nat) (Tb16:Nat) (Tb18:Nat) (Tb21:Nat) (A2:Option Addr) (n3:Nat) (c4:Nat) (z6:Nat) (A30:Option Addr) (n31:Nat) (c32:Nat) (z34:Nat) (A38:Option Addr) (n39:Nat) (c40:Nat) (z42:Nat) (A22:Option Addr) (n23:Nat) (c24:Nat) (A26:Option Addr) (n27:Nat) (c28:Nat) (r:(List Int) × Bf):Ending→World→Prop:=fun e w'=>∃ Ar0:Option Addr,∃ nr0:Nat,∃ cr0:Nat,∃ Ar3:Option Addr,∃ nr3:Nat,∃ cr3:Nat,∃ cs3:List Value,∃ Ar4:Option Addr,∃ nr4:Nat,∃ cr4:Nat,e=.returned (.slice Ar0 nr0 cr0)∧B.Loc w w' [.box g15 Tb16 [.pointer (some ⟨g20,0,none⟩)],.box g17 Tb18 [.func (.func 71) #[] #[.pointer (some ⟨g15,0,none⟩),.pointer (some ⟨g17,0,none⟩)]],.box g20 Tb21 [.slice A22 n23 c24,.slice A26 n27 c28,.slice Ar3 nr3 cr3,.slice Ar4 nr4 cr4],.own (.slice Ar0 nr0 cr0) 3 1 nr0 (r.1.flatMap (eI .i64)),.own (.slice Ar3 nr3 cr3) 36 1 nr3 cs3,.own (.slice Ar4 nr4 cr4) 4 1 nr4 (r.2.known.flatMap eB)] [St w [(Value.slice A2 n3 c4).ownBlock.toList,[g15],[g17],[g20],(Value.slice A30 n31 c32).ownBlock.toList,(Value.slice A38 n39 c40).ownBlock.toList]]∧Ow z6 Ar0 nr0 cr0 r.1∧(r.1=[]→Ar0=none)∧Ow z34 Ar3 nr3 cr3 r.2.of∧Cells (Kd.slice (Gq .i64)) w' (Nw w w' F [.box g15 Tb16 [.pointer (some ⟨g20,0,none⟩)],.box g17 Tb18 [.func (.func 71) #[] #[.pointer (some ⟨g15,0,none⟩),.pointer (some ⟨g17,0,none⟩)]],.box g20 Tb21 [.slice A22 n23 c24,.slice A26 n27 c28,.slice Ar3 nr3 cr3,.slice Ar4 nr4 cr4],.own (.slice Ar0 nr0 cr0) 3 1 nr0 (r.1.flatMap (eI .i64)),.own (.slice Ar3 nr3 cr3) 36 1 nr3 cs3,.own (.slice Ar4 nr4 cr4) 4 1 nr4 (r.2.known.flatMap eB)]) r.2.of cs3∧Ow z42 Ar4 nr4 cr4 r.2.known
noncomputable abbrev Np (w:World) (F:Nat→Prop) (g15:Nat) (g17:Nat) (g20:Nat) (Tb16:Nat) (Tb18:Nat) (Tb21:Nat) (A2:Option Addr) (n3:Nat) (c4:Nat) (z6:Nat) (A30:Option Addr) (n31:Nat) (c32:Nat) (z34:Nat) (A38:Option Addr) (n39:Nat) (c40:Nat) (z42:Nat) (A22:Option Addr) (n23:Nat) (c24:Nat) (A26:Option Addr) (n27:Nat) (c28:Nat) (r:(List Int) × Bf):Cx:=⟨Tryd.prog,71,Tryd.f71,46,Jr w F g15 g17 g20 Tb16 Tb18 Tb21 A2 n3 c4 z6 A30 n31 c32 z34 A38 n39 c40 z42 A22 n23 c24 A26 n27 c28 r,w⟩
def Mc (rl:(List Int)→Int→Int→(List Int)→Bf→((List Int) × Bf)→Prop):Prop:=∀ (w:World) (F:Nat→Prop) (x1:List Int) (x8:Int) (x9:Int) (x10:List Int) (x19:Bf) (z6:Nat) (A2:Option Addr) (n3:Nat) (c4:Nat) (A11:Option Addr) (n12:Nat) (c13:Nat) (g15:Nat) (Tb16:Nat) (g17:Nat) (Tb18:Nat) (g20:Nat) (Tb21:Nat) (A22:Option Addr) (n23:Nat) (c24:Nat) (A26:Option Addr) (n27:Nat) (c28:Nat) (z34:Nat) (A30:Option Addr) (n31:Nat) (c32:Nat) (cs36:List Value) (z42:Nat) (A38:Option Addr) (n39:Nat) (c40:Nat) (hz7:z6≤w.heap.size) (h5:Ow z6 A2 n3 c4 x1) (h14:Rw (Gq .i64) w (St w [(Value.slice A2 n3 c4).ownBlock.toList,[g15],[g17],[g20],(Value.slice A30 n31 c32).ownBlock.toList,(Value.slice A38 n39 c40).ownBlock.toList]).av A11 n12 c13 x10) (h25:Rw Dn w (St w [(Value.slice A2 n3 c4).ownBlock.toList,[g15],[g17],[g20],(Value.slice A30 n31 c32).ownBlock.toList,(Value.slice A38 n39 c40).ownBlock.toList]).av A22 n23 c24 x19.nodes) (h29:Rw Ew w (St w [(Value.slice A2 n3 c4).ownBlock.toList,[g15],[g17],[g20],(Value.slice A30 n31 c32).ownBlock.toList,(Value.slice A38 n39 c40).ownBlock.toList]).av A26 n27 c28 x19.tree) (hz35:z34≤w.heap.size) (h33:Ow z34 A30 n31 c32 x19.of) (hC37:Cells (Kd.slice (Gq .i64)) w F x19.of cs36) (hz43:z42≤w.heap.size) (h41:Ow z42 A38 n39 c40 x19.known) (hF:∀ b,F b→b < w.heap.size∧∀ o ∈ ([(Value.slice A2 n3 c4).ownBlock.toList,[g15],[g17],[g20],(Value.slice A30 n31 c32).ownBlock.toList,(Value.slice A38 n39 c40).ownBlock.toList]:List (List Nat)),b ∉ o) (hL0:B.Loc w w [.own (.slice A2 n3 c4) 3 1 n3 (x1.flatMap (eI .i64)),.box g15 Tb16 [.pointer (some ⟨g20,0,none⟩)],.box g17 Tb18 [.func (.func 71) #[] #[.pointer (some ⟨g15,0,none⟩),.pointer (some ⟨g17,0,none⟩)]],.box g20 Tb21 [.slice A22 n23 c24,.slice A26 n27 c28,.slice A30 n31 c32,.slice A38 n39 c40],.own (.slice A30 n31 c32) 36 1 n31 cs36,.own (.slice A38 n39 c40) 4 1 n39 (x19.known.flatMap eB)] [Sm w.heap.size F w [(Value.slice A2 n3 c4).ownBlock.toList,[g15],[g17],[g20],(Value.slice A30 n31 c32).ownBlock.toList,(Value.slice A38 n39 c40).ownBlock.toList],St w [(Value.slice A2 n3 c4).ownBlock.toList,[g15],[g17],[g20],(Value.slice A30 n31 c32).ownBlock.toList,(Value.slice A38 n39 c40).ownBlock.toList]]) (r:(List Int) × Bf) (h:rl x1 x8 x9 x10 x19 r),Calls Tryd.prog 71 #[.slice A2 n3 c4,.int .i64 x8,.int .i64 x9,.slice A11 n12 c13,.pointer (some ⟨g15,0,none⟩),.pointer (some ⟨g17,0,none⟩)] w (Jr w F g15 g17 g20 Tb16 Tb18 Tb21 A2 n3 c4 z6 A30 n31 c32 z34 A38 n39 c40 z42 A22 n23 c24 A26 n27 c28 r)
noncomputable abbrev q40c3:=Code.fst (Code.snd (Dt Tryd.f40))
noncomputable abbrev q40c4:=Code.snd (Code.snd (Dt Tryd.f40))
noncomputable abbrev q40c6:=Code.snd q40c4
noncomputable abbrev q40c8:=Code.snd (Code.fst q40c4)
abbrev Ll (w:World) (F:Nat→Prop) (g2:Nat) (Tb3:Nat) (A12:Option Addr) (n13:Nat) (c14:Nat) (z16:Nat) (A20:Option Addr) (n21:Nat) (c22:Nat) (z24:Nat) (A4:Option Addr) (n5:Nat) (c6:Nat) (A8:Option Addr) (n9:Nat) (c10:Nat) (r:(List Int) × Bf):Ending→World→Prop:=fun e w'=>∃ Ar0:Option Addr,∃ nr0:Nat,∃ cr0:Nat,∃ Ar3:Option Addr,∃ nr3:Nat,∃ cr3:Nat,∃ cs3:List Value,∃ Ar4:Option Addr,∃ nr4:Nat,∃ cr4:Nat,e=.returned (.slice Ar0 nr0 cr0)∧B.Loc w w' [.box g2 Tb3 [.slice A4 n5 c6,.slice A8 n9 c10,.slice Ar3 nr3 cr3,.slice Ar4 nr4 cr4],.own (.slice Ar0 nr0 cr0) 3 1 nr0 (r.1.flatMap (eI .i64)),.own (.slice Ar3 nr3 cr3) 36 1 nr3 cs3,.own (.slice Ar4 nr4 cr4) 4 1 nr4 (r.2.known.flatMap eB)] [St w [[g2],(Value.slice A12 n13 c14).ownBlock.toList,(Value.slice A20 n21 c22).ownBlock.toList]]∧Ow w.heap.size Ar0 nr0 cr0 r.1∧(r.1=[]→Ar0=none)∧Ow z16 Ar3 nr3 cr3 r.2.of∧Cells (Kd.slice (Gq .i64)) w' (Nw w w' F [.box g2 Tb3 [.slice A4 n5 c6,.slice A8 n9 c10,.slice Ar3 nr3 cr3,.slice Ar4 nr4 cr4],.own (.slice Ar0 nr0 cr0) 3 1 nr0 (r.1.flatMap (eI .i64)),.own (.slice Ar3 nr3 cr3) 36 1 nr3 cs3,.own (.slice Ar4 nr4 cr4) 4 1 nr4 (r.2.known.flatMap eB)]) r.2.of cs3∧Ow z24 Ar4 nr4 cr4 r.2.known
noncomputable abbrev Rx (w:World) (F:Nat→Prop) (g2:Nat) (Tb3:Nat) (A12:Option Addr) (n13:Nat) (c14:Nat) (z16:Nat) (A20:Option Addr) (n21:Nat) (c22:Nat) (z24:Nat) (A4:Option Addr) (n5:Nat) (c6:Nat) (A8:Option Addr) (n9:Nat) (c10:Nat) (r:(List Int) × Bf):Cx:=⟨Tryd.prog,40,Tryd.f40,85,Ll w F g2 Tb3 A12 n13 c14 z16 A20 n21 c22 z24 A4 n5 c6 A8 n9 c10 r,w⟩
def Oa (rl:Bf→Int→Int→((List Int) × Bf)→Prop):Prop:=∀ (w:World) (F:Nat→Prop) (x1:Bf) (x26:Int) (x27:Int) (g2:Nat) (Tb3:Nat) (A4:Option Addr) (n5:Nat) (c6:Nat) (A8:Option Addr) (n9:Nat) (c10:Nat) (z16:Nat) (A12:Option Addr) (n13:Nat) (c14:Nat) (cs18:List Value) (z24:Nat) (A20:Option Addr) (n21:Nat) (c22:Nat) (h7:Rw Dn w (St w [[g2],(Value.slice A12 n13 c14).ownBlock.toList,(Value.slice A20 n21 c22).ownBlock.toList]).av A4 n5 c6 x1.nodes) (h11:Rw Ew w (St w [[g2],(Value.slice A12 n13 c14).ownBlock.toList,(Value.slice A20 n21 c22).ownBlock.toList]).av A8 n9 c10 x1.tree) (hz17:z16≤w.heap.size) (h15:Ow z16 A12 n13 c14 x1.of) (hC19:Cells (Kd.slice (Gq .i64)) w F x1.of cs18) (hz25:z24≤w.heap.size) (h23:Ow z24 A20 n21 c22 x1.known) (hF:∀ b,F b→b < w.heap.size∧∀ o ∈ ([[g2],(Value.slice A12 n13 c14).ownBlock.toList,(Value.slice A20 n21 c22).ownBlock.toList]:List (List Nat)),b ∉ o) (hL0:B.Loc w w [.box g2 Tb3 [.slice A4 n5 c6,.slice A8 n9 c10,.slice A12 n13 c14,.slice A20 n21 c22],.own (.slice A12 n13 c14) 36 1 n13 cs18,.own (.slice A20 n21 c22) 4 1 n21 (x1.known.flatMap eB)] [Sm w.heap.size F w [[g2],(Value.slice A12 n13 c14).ownBlock.toList,(Value.slice A20 n21 c22).ownBlock.toList],St w [[g2],(Value.slice A12 n13 c14).ownBlock.toList,(Value.slice A20 n21 c22).ownBlock.toList]]) (r:(List Int) × Bf) (h:rl x1 x26 x27 r),Calls Tryd.prog 40 #[.pointer (some ⟨g2,0,none⟩),.int .i64 x26,.int .i64 x27] w (Ll w F g2 Tb3 A12 n13 c14 z16 A20 n21 c22 z24 A4 n5 c6 A8 n9 c10 r)
theorem Yk (rc_query_matcher_fits_1:(List Int)→Int→Int→(List Int)→Bf→((List Int) × Bf)→Prop) (rc_query_matcher_fits:Bf→Int→Int→((List Int) × Bf)→Prop) (ih_query_matcher_fits_1:Mc rc_query_matcher_fits_1) (ih_query_matcher_fits:Oa rc_query_matcher_fits):Mc (Ob rc_query_matcher_fits_1 rc_query_matcher_fits):=by
 intro w F x1 x8 x9 x10 x19 z6 A2 n3 c4 A11 n12 c13 g15 Tb16 g17 Tb18 g20 Tb21 A22 n23 c24 A26 n27 c28 z34 A30 n31 c32 cs36 z42 A38 n39 c40 hz7 h5 h14 h25 h29 hz35 h33 hC37 hz43 h41 hF hL0 r h
 unfold Ob at h
 have hC37:=Cells.into (bs:=[(Value.slice A2 n3 c4).ownBlock.toList,[g15],[g17],[g20],(Value.slice A30 n31 c32).ownBlock.toList,(Value.slice A38 n39 c40).ownBlock.toList]) hF hC37
 refine Cc (vs:=[.slice A2 n3 c4,.int .i64 x8,.int .i64 x9,.slice A11 n12 c13,.pointer (some ⟨g15,0,none⟩),.pointer (some ⟨g17,0,none⟩)]) 46 Tryd.func71 rfl Tryd.ntmps71 rfl hL0 ?_
 show G (Np w F g15 g17 g20 Tb16 Tb18 Tb21 A2 n3 c4 z6 A30 n31 c32 z34 A38 n39 c40 z42 A22 n23 c24 A26 n27 c28 r) _ _ _ _
 refine Ah rfl<|Ac rfl rfl<|Aa 0 rfl (Af rfl) gn rfl<|Aj 1 rfl<|Ah rfl<|Ah rfl<|Ac rfl rfl<|Aa 0 rfl (Ad rfl) gn rfl<|Aa 1 rfl (Be rfl rfl rfl) gn rfl<|Aj 2 rfl ?_
 by_cases hp44:x8=0
 ·have h:=Ap hp44 h
  refine Bv rfl _ rfl ((eqi hp44))<|Ah rfl<|Ac rfl rfl<|Aa 0 rfl (Ad rfl) gn rfl<|Aa 1 rfl (Af rfl) gn rfl<|Aj 2 rfl ?_
  obtain ⟨hne,h⟩:=h
  refine Bq [.slice A2 n3 c4] rfl Tryd.func71 rfl (.tmp rfl (.nil)) fun wr hLr=>?_
  have hMr:=hLr.pkI (.c 1 rfl (.c 2 rfl (.c 3 rfl (.c 0 rfl (.c 4 rfl (.c 5 rfl .n)))))) .n (by kernel_rfl) (.c 1 rfl .n)
  have hMi:=hLr.selI (.c 1 rfl (.c 2 rfl (.c 3 rfl (.c 0 rfl (.c 4 rfl (.c 5 rfl .n))))))
  show Jr w F g15 g17 g20 Tb16 Tb18 Tb21 A2 n3 c4 z6 A30 n31 c32 z34 A38 n39 c40 z42 A22 n23 c24 A26 n27 c28 r (.returned (Ce [.slice A2 n3 c4])) wr
  rw [h]
  exact ⟨A2,n3,c4,A30,n31,c32,cs36,A38,n39,c40,rfl,hMr,h5,(fun e=>absurd e hne),h33,(hLr.outC (s:=Sm w.heap.size F w [(Value.slice A2 n3 c4).ownBlock.toList,[g15],[g17],[g20],(Value.slice A30 n31 c32).ownBlock.toList,(Value.slice A38 n39 c40).ownBlock.toList]) hMi (me 0 rfl) Sm.ok hC37),h41⟩
 ·have h:=Am hp44 h
  refine Bi rfl _ rfl ((nei hp44))<|C9 rfl<|Ah rfl<|Ah rfl<|Ac rfl rfl<|Aa 0 rfl (Ad rfl) gn rfl<|Aa 1 rfl (Di La rfl h14.hq) gn rfl<|Aa 2 rfl (Ad rfl) gn rfl<|Aj 3 rfl<|Dj rfl<|Kw rfl ?_
  have key1:∀ s,Bl (fun (s:Int × (List (List Int)) × (List Bool)) o=>Es x10 rc_query_matcher_fits x19 x9 x1 rc_query_matcher_fits_1 x8 s.1 s.2.1 s.2.2 o) s r→(fun (s:Int × (List (List Int)) × (List Bool))=>∀ (A238:Option Addr) (n239:Nat) (c240:Nat) (h241:Ow z34 A238 n239 c240 s.2.1) (cs242:List Value) (sw243:World) (sb244:List (List Nat)) (hC245:Cells (Kd.slice (Gq .i64)) (Sm w.heap.size F sw243 sb244).w (Sm w.heap.size F sw243 sb244).av s.2.1 cs242) (A247:Option Addr) (n248:Nat) (c249:Nat) (h250:Ow z42 A247 n248 c249 s.2.2),G (Np w F g15 g17 g20 Tb16 Tb18 Tb21 A2 n3 c4 z6 A30 n31 c32 z34 A38 n39 c40 z42 A22 n23 c24 A26 n27 c28 r) [.code Xcl,.inLoop Xcl,.inBlock 0,.code Xif] [(0,.slice A2 n3 c4),(1,.int .i64 x8),(2,.int .i64 x9),(3,.slice A11 n12 c13),(4,.pointer (some ⟨g15,0,none⟩)),(5,.pointer (some ⟨g17,0,none⟩)),(17,.slice A11 n12 c13),(18,.int .i64 (x10.length:Int)),(19,.int .i64 s.1)] [.own (.slice A238 n239 c240) 36 1 n239 cs242,.own (.slice A247 n248 c249) 4 1 n248 (s.2.2.flatMap eB),.own (.slice A2 n3 c4) 3 1 n3 (x1.flatMap (eI .i64)),.box g15 Tb16 [.pointer (some ⟨g20,0,none⟩)],.box g17 Tb18 [.func (.func 71) #[] #[.pointer (some ⟨g15,0,none⟩),.pointer (some ⟨g17,0,none⟩)]],.box g20 Tb21 [.slice A22 n23 c24,.slice A26 n27 c28,.slice A238 n239 c240,.slice A247 n248 c249]] [Sm w.heap.size F sw243 sb244,Sm w.heap.size F w [(Value.slice A2 n3 c4).ownBlock.toList,[g15],[g17],[g20],(Value.slice A30 n31 c32).ownBlock.toList,(Value.slice A38 n39 c40).ownBlock.toList],St w [(Value.slice A2 n3 c4).ownBlock.toList,[g15],[g17],[g20],(Value.slice A30 n31 c32).ownBlock.toList,(Value.slice A38 n39 c40).ownBlock.toList]]) s:=by
   intro s hs
   refine Bl.ind (mot:=(fun (s:Int × (List (List Int)) × (List Bool))=>∀ (A238:Option Addr) (n239:Nat) (c240:Nat) (h241:Ow z34 A238 n239 c240 s.2.1) (cs242:List Value) (sw243:World) (sb244:List (List Nat)) (hC245:Cells (Kd.slice (Gq .i64)) (Sm w.heap.size F sw243 sb244).w (Sm w.heap.size F sw243 sb244).av s.2.1 cs242) (A247:Option Addr) (n248:Nat) (c249:Nat) (h250:Ow z42 A247 n248 c249 s.2.2),G (Np w F g15 g17 g20 Tb16 Tb18 Tb21 A2 n3 c4 z6 A30 n31 c32 z34 A38 n39 c40 z42 A22 n23 c24 A26 n27 c28 r) [.code Xcl,.inLoop Xcl,.inBlock 0,.code Xif] [(0,.slice A2 n3 c4),(1,.int .i64 x8),(2,.int .i64 x9),(3,.slice A11 n12 c13),(4,.pointer (some ⟨g15,0,none⟩)),(5,.pointer (some ⟨g17,0,none⟩)),(17,.slice A11 n12 c13),(18,.int .i64 (x10.length:Int)),(19,.int .i64 s.1)] [.own (.slice A238 n239 c240) 36 1 n239 cs242,.own (.slice A247 n248 c249) 4 1 n248 (s.2.2.flatMap eB),.own (.slice A2 n3 c4) 3 1 n3 (x1.flatMap (eI .i64)),.box g15 Tb16 [.pointer (some ⟨g20,0,none⟩)],.box g17 Tb18 [.func (.func 71) #[] #[.pointer (some ⟨g15,0,none⟩),.pointer (some ⟨g17,0,none⟩)]],.box g20 Tb21 [.slice A22 n23 c24,.slice A26 n27 c28,.slice A238 n239 c240,.slice A247 n248 c249]] [Sm w.heap.size F sw243 sb244,Sm w.heap.size F w [(Value.slice A2 n3 c4).ownBlock.toList,[g15],[g17],[g20],(Value.slice A30 n31 c32).ownBlock.toList,(Value.slice A38 n39 c40).ownBlock.toList],St w [(Value.slice A2 n3 c4).ownBlock.toList,[g15],[g17],[g20],(Value.slice A30 n31 c32).ownBlock.toList,(Value.slice A38 n39 c40).ownBlock.toList]])) ?_ hs
   clear hs s
   intro s o1 h hO1
   obtain ⟨x236,x237,x246⟩:=s
   show ∀ (A238:Option Addr) (n239:Nat) (c240:Nat) (h241:Ow z34 A238 n239 c240 x237) (cs242:List Value) (sw243:World) (sb244:List (List Nat)) (hC245:Cells (Kd.slice (Gq .i64)) (Sm w.heap.size F sw243 sb244).w (Sm w.heap.size F sw243 sb244).av x237 cs242) (A247:Option Addr) (n248:Nat) (c249:Nat) (h250:Ow z42 A247 n248 c249 x246),G (Np w F g15 g17 g20 Tb16 Tb18 Tb21 A2 n3 c4 z6 A30 n31 c32 z34 A38 n39 c40 z42 A22 n23 c24 A26 n27 c28 r) [.code Xcl,.inLoop Xcl,.inBlock 0,.code Xif] [(0,.slice A2 n3 c4),(1,.int .i64 x8),(2,.int .i64 x9),(3,.slice A11 n12 c13),(4,.pointer (some ⟨g15,0,none⟩)),(5,.pointer (some ⟨g17,0,none⟩)),(17,.slice A11 n12 c13),(18,.int .i64 (x10.length:Int)),(19,.int .i64 x236)] [.own (.slice A238 n239 c240) 36 1 n239 cs242,.own (.slice A247 n248 c249) 4 1 n248 (x246.flatMap eB),.own (.slice A2 n3 c4) 3 1 n3 (x1.flatMap (eI .i64)),.box g15 Tb16 [.pointer (some ⟨g20,0,none⟩)],.box g17 Tb18 [.func (.func 71) #[] #[.pointer (some ⟨g15,0,none⟩),.pointer (some ⟨g17,0,none⟩)]],.box g20 Tb21 [.slice A22 n23 c24,.slice A26 n27 c28,.slice A238 n239 c240,.slice A247 n248 c249]] [Sm w.heap.size F sw243 sb244,Sm w.heap.size F w [(Value.slice A2 n3 c4).ownBlock.toList,[g15],[g17],[g20],(Value.slice A30 n31 c32).ownBlock.toList,(Value.slice A38 n39 c40).ownBlock.toList],St w [(Value.slice A2 n3 c4).ownBlock.toList,[g15],[g17],[g20],(Value.slice A30 n31 c32).ownBlock.toList,(Value.slice A38 n39 c40).ownBlock.toList]]
   intro A238 n239 c240 h241 cs242 sw243 sb244 hC245 A247 n248 c249 h250
   have h:Es x10 rc_query_matcher_fits x19 x9 x1 rc_query_matcher_fits_1 x8 x236 x237 x246 o1:=h
   unfold Es at h
   refine Ah rfl<|Ac rfl rfl<|Aa 0 rfl (Be rfl rfl rfl) gn rfl<|Aj 1 rfl<|Ah rfl ?_
   by_cases hp441:x236 < (x10.length:Int)
   ·have h:=Ap hp441 h
    refine Bv rfl _ rfl ((decide_eq_true hp441))<|C9 rfl<|Ah rfl<|Dj rfl<|Ah rfl<|Ac rfl rfl<|Aa 0 rfl (Ad rfl) gn rfl ?_
    obtain ⟨hb442,h⟩:=h
    have hr443:=Rw.readF (s:=St w [(Value.slice A2 n3 c4).ownBlock.toList,[g15],[g17],[g20],(Value.slice A30 n31 c32).ownBlock.toList,(Value.slice A38 n39 c40).ownBlock.toList]) (hl:=(hlI .i64)) (h1:=(F9 .i64)) h14 hb442
    refine Aa 1 rfl (Fb (s:=St w [(Value.slice A2 n3 c4).ownBlock.toList,[g15],[g17],[g20],(Value.slice A30 n31 c32).ownBlock.toList,(Value.slice A38 n39 c40).ownBlock.toList]) L8 rfl rfl h14 hb442) gn rfl<|Aa 2 rfl (Ie (kk:=(x236:Int).toNat * 1) (j:=0) (St w [(Value.slice A2 n3 c4).ownBlock.toList,[g15],[g17],[g20],(Value.slice A30 n31 c32).ownBlock.toList,(Value.slice A38 n39 c40).ownBlock.toList]) H5 rfl hr443 rfl (me 2 rfl)) gn rfl<|Aa 3 rfl (Af rfl) gn rfl<|Aa 4 rfl (Af rfl) gn rfl<|Aj 5 rfl<|Ah rfl<|Ac rfl rfl<|Aa 0 rfl (Aq 3 ld_66 rfl rfl rfl) gn rfl<|Aa 1 rfl (Ad rfl) gn rfl<|Aa 2 rfl (Ad rfl) gn rfl ?_
    obtain ⟨r447,hv448,h⟩:=h
    refine Ci 3 rfl (D7 [.pointer (some ⟨g20,0,none⟩),.int .i64 x9,.int .i64 (ix x10 x236)] rfl Tryd.func40 rfl rfl rfl fun w444 hL445=>?_) gn
    have hp446:=pmI hL445 (.c 5 rfl (.c 0 rfl (.c 1 rfl .n))) (.c 2 rfl (.c 3 rfl (.c 4 rfl .n))) (by kernel_rfl)
    refine Calls.mono (ih_query_matcher_fits w444 (Fl ([Sm w.heap.size F sw243 sb244]:List Cb)) (⟨x19.nodes,x19.tree,x237,x246⟩:Bf) x9 (ix x10 x236) g20 Tb21 A22 n23 c24 A26 n27 c28 z34 A238 n239 c240 cs242 z42 A247 n248 c249 (Rw.mono h25 (hL445.toSt hp446 (me 2 rfl))) (Rw.mono h29 (hL445.toSt hp446 (me 2 rfl))) (Nat.le_trans hz35 hL445.env.size) h241 (Cells.mono (hL445.toFl (me 0 rfl) (me 0 rfl)) hC245) (Nat.le_trans hz43 hL445.env.size) h250 (hL445.hFl hp446 (Bg [0] rfl)) (hL445.into hp446 _) r447 hv448) ?_
    rintro _ w467 ⟨A449,n450,c451,A455,n456,c457,cs460,A462,n463,c464,rfl,hM468,h452,ht454,h458,hC461,h465⟩
    obtain ⟨sb471,hL469,hv470⟩:=hL445.callB (Sl:=([Sm w.heap.size F sw243 sb244]:List Cb)) hp446 hM468 F (Bg [0] rfl) ⟨Sm.ok,trivial⟩
    have hC461:Cells (Kd.slice (Gq .i64)) (Sm w.heap.size F w467 sb471).w (Sm w.heap.size F w467 sb471).av r447.2.of cs460:=Cells.mono hv470 hC461
    refine ⟨_,_,_,rfl,hL469,?_⟩
    refine Aa 4 rfl (Af rfl) gn rfl<|Aj 5 rfl<|Ah rfl<|Ac rfl rfl<|Aa 0 rfl (Ad rfl) gn rfl ?_
    obtain ⟨b472,hb473⟩:∃ b,b=A449.isNone:=⟨_,rfl⟩
    have h:=h b472 ⟨nil_of hb473 (Ow.weak hL445.env.size h452).hA (Ow.weak hL445.env.size h452).hq,fun e=>by rw [hb473,ht454 e]; rfl⟩
    refine Aa 1 rfl (v_neSL La rfl hb473.symm) gn rfl<|Aj 2 rfl ?_
    by_cases hp474:b472=true
    ·have h:=Ap hp474 h
     refine Bi rfl _ rfl ((nf hp474))<|C9 rfl<|D9<|Ac rfl rfl<|Aa 0 rfl (Be rfl rfl rfl) gn rfl<|Aa 1 rfl (Ad rfl) gn rfl<|Aj 2 rfl<|Dx<|Ba 0 rfl<|Ba 6 rfl<|Ba 6 rfl<|Ba 6 rfl ?_
     refine Ba 6 rfl<|Ba 6 rfl ?_
     have ih:=Out.inl hO1 h
     exact D8 [0,2,3] (ih A455 n456 c457 h458 cs460 w467 sb471 hC461 A462 n463 c464 h465) ⟨rfl,rfl,rfl,rfl,rfl,rfl,rfl,rfl,rfl,trivial⟩ (.cons_cons _ (.cons_cons _ (.cons_cons _ (.cons_cons _ (.cons_cons _ (.cons_cons _ (.cons _ (.slnil)))))))) rfl
    ·have h:=Am hp474 h
     refine Bv rfl _ rfl ((nt (bf hp474)))<|Ah rfl ?_
     obtain ⟨x478,hv479,h⟩:=h
     obtain ⟨hb480,h⟩:=h
     obtain ⟨hb481,h⟩:=h
     obtain ⟨r486,hv487,h⟩:=h
     have hns:Region.noSelect (Code.ops q71c34)=true:=by kernel_rfl
     refine Vk [.box g20 Tb21 [.slice A22 n23 c24,.slice A26 n27 c28,.slice A455 n456 c457,.slice A462 n463 c464],.own (.slice A449 n450 c451) 3 1 n450 (r447.1.flatMap (eI .i64)),.own (.slice A455 n456 c457) 36 1 n456 cs460,.own (.slice A462 n463 c464) 4 1 n463 (r447.2.known.flatMap eB),.box g15 Tb16 [.pointer (some ⟨g20,0,none⟩)],.box g17 Tb18 [.func (.func 71) #[] #[.pointer (some ⟨g15,0,none⟩),.pointer (some ⟨g17,0,none⟩)]]] [Sm w.heap.size F w467 sb471,Sm w.heap.size F sw243 sb244,Sm w.heap.size F w [(Value.slice A2 n3 c4).ownBlock.toList,[g15],[g17],[g20],(Value.slice A30 n31 c32).ownBlock.toList,(Value.slice A38 n39 c40).ownBlock.toList],St w [(Value.slice A2 n3 c4).ownBlock.toList,[g15],[g17],[g20],(Value.slice A30 n31 c32).ownBlock.toList,(Value.slice A38 n39 c40).ownBlock.toList]] [14,15] 16 rfl rfl mix rfl (.cons_cons _ (.cons_cons _ (.cons_cons _ (.cons_cons _ (.cons _ (.cons_cons _ (.cons_cons _ (.slnil)))))))) (Bg [0,1,2,3] rfl)<|wfv 0 rfl (Aq 5 ld_101 rfl rfl rfl) gn hns (by kernel_rfl)<|wfv 1 rfl (Ad rfl) gn hns (by kernel_rfl)<|wfv 2 rfl (Ad rfl) gn hns (by kernel_rfl)<|wfv 4 rfl (Ad rfl) gn hns (by kernel_rfl)<|wfv 5 rfl (Be rfl rfl rfl) gn hns (by kernel_rfl)<|wfv 6 rfl (Ad rfl) gn hns (by kernel_rfl)<|wfv 7 rfl (Ad rfl) gn hns (by kernel_rfl)<|wfv 8 rfl (Di La rfl (Ow.weak hL445.env.size h452).hq) gn hns (by kernel_rfl)<|wfv 9 rfl (Be rfl rfl rfl) gn hns (by kernel_rfl)<|wfv 10 rfl (Ad rfl) gn hns (by kernel_rfl)<|wfv 11 rfl (Ad rfl) gn hns (by kernel_rfl) ?_
     refine wfv 12 rfl (Be rfl rfl rfl) gn hns (by kernel_rfl) ?_
     have h601:=Rw.cut (sz:=1) (lv:=w64 (x236 + 1)) (hv:=((n12:Nat):Int)) (mv:=((c13:Nat):Int)) h14 rfl (by have q:=hb481; have q1:=h14.hq; have q2:=h14.hn; omega) (by have q:=hb481; have q1:=h14.hq; have q2:=h14.hn; omega) (by have q:=hb481; have q1:=h14.hq; have q2:=h14.hn; omega)
     rw [cut_all h14.hq] at h601
     refine wfv 13 rfl (v_cut (sz:=1) (n:=n12) (c:=c13) (w64 (x236 + 1)) ((n12:Nat):Int) ((c13:Nat):Int) L8 rfl (by_ rfl) bn bn (by have q:=hb481; have q1:=h14.hq; have q2:=h14.hn; omega) (by have q:=hb481; have q1:=h14.hq; have q2:=h14.hn; omega) (by have q:=hb481; have q1:=h14.hq; have q2:=h14.hn; omega) h14.hn rfl) gn hns (by kernel_rfl) ?_
     refine Cm [3] (by kernel_rfl) rfl ⟨Eo 3 rfl gn rfl (Nq (zs:=x478) (cells':=x478.flatMap (eI .i64)) 4 Xai rfl rfl rfl h5 hz7 (Src.ownF (hl:=(hlI .i64)) (h1:=(F9 .i64)) 1 rfl (Ow.weak hL445.env.size h452)) (by rw [hv479,List.flatMap_append] <;> rfl) (Gp hv479 (Ow.weak hL445.env.size h452).hq) hb480 rfl rfl fun A605 c606 h607=>?_),trivial⟩
     refine ⟨Bg [0,1,2,3,5,6] rfl,Bg [0,1,2,3] rfl,?_⟩
     refine Cm [14] (by kernel_rfl) rfl ⟨Sr 14 rfl gn rfl (Ir [.slice A605 (n3 + n450) c606,.int .i64 (w64 (x8 - 1)),.int .i64 (w64 (x9 + (r447.1.length:Int))),.slice (if (((c13:Nat):Int):Int).toNat=(w64 (x236 + 1):Int).toNat then A11 else A11.map (·.add ((w64 (x236 + 1):Int).toNat * 1))) ((((n12:Nat):Int):Int).toNat - (w64 (x236 + 1):Int).toNat) ((((c13:Nat):Int):Int).toNat - (w64 (x236 + 1):Int).toNat)] [.pointer (some ⟨g15,0,none⟩),.pointer (some ⟨g17,0,none⟩)] rfl rfl Tryd.func71 rfl rfl rfl fun w608 hL609=>?_),trivial⟩
     have hp610:=pmI hL609 (.c 4 rfl (.c 5 rfl (.c 6 rfl (.c 0 rfl (.c 2 rfl (.c 3 rfl .n)))))) (.c 1 rfl .n) (by kernel_rfl)
     refine Calls.mono (ih_query_matcher_fits_1 w608 (Fl ([Sm w.heap.size F w467 sb471]:List Cb)) x478 (w64 (x8 - 1)) (w64 (x9 + (r447.1.length:Int))) (x10.drop (w64 (x236 + 1):Int).toNat) (⟨x19.nodes,x19.tree,r447.2.of,r447.2.known⟩:Bf) z6 A605 (n3 + n450) c606 (if (((c13:Nat):Int):Int).toNat=(w64 (x236 + 1):Int).toNat then A11 else A11.map (·.add ((w64 (x236 + 1):Int).toNat * 1))) ((((n12:Nat):Int):Int).toNat - (w64 (x236 + 1):Int).toNat) ((((c13:Nat):Int):Int).toNat - (w64 (x236 + 1):Int).toNat) g15 Tb16 g17 Tb18 g20 Tb21 A22 n23 c24 A26 n27 c28 z34 A455 n456 c457 cs460 z42 A462 n463 c464 (Nat.le_trans hz7 hL609.env.size) h607 (Rw.mono h601 (hL609.toSt hp610 (me 3 rfl))) (Rw.mono h25 (hL609.toSt hp610 (me 3 rfl))) (Rw.mono h29 (hL609.toSt hp610 (me 3 rfl))) (Nat.le_trans hz35 hL609.env.size) h458 (Cells.mono (hL609.toFl (me 0 rfl) (me 0 rfl)) hC461) (Nat.le_trans hz43 hL609.env.size) h465 (hL609.hFl hp610 (Bg [0] rfl)) (hL609.into hp610 _) r486 hv487) ?_
     rintro _ w626 ⟨A611,n612,c613,A616,n617,c618,cs620,A622,n623,c624,rfl,hM627,h614,ht615,h619,hC621,h625⟩
     obtain ⟨sb630,hL628,hv629⟩:=hL609.callB (Sl:=([Sm w.heap.size F w467 sb471]:List Cb)) hp610 hM627 F (Bg [0] rfl) ⟨Sm.ok,trivial⟩
     have hC621:Cells (Kd.slice (Gq .i64)) (Sm w.heap.size F w626 sb630).w (Sm w.heap.size F w626 sb630).av r486.2.of cs620:=Cells.mono hv629 hC621
     refine ⟨_,_,_,rfl,hL628,?_⟩
     unfold NxL
     refine Cm [15] (by kernel_rfl) rfl ⟨Sr 15 rfl gn rfl (O4 (Af rfl) rfl ?_),trivial⟩
     unfold NxL
     refine Dz (by kernel_rfl) ?_
     have h:=Out.inr hO1 h
     refine Bq [.slice A611 n612 c613] rfl Tryd.func71 rfl (.tmp rfl (.nil)) fun wr hLr=>?_
     have hMr:=hLr.pkI (.c 0 rfl (.c 1 rfl (.c 2 rfl (.c 3 rfl (.c 4 rfl (.c 5 rfl .n)))))) (.c 6 rfl .n) (by kernel_rfl) (.c 4 rfl .n)
     have hMi:=hLr.selI (.c 0 rfl (.c 1 rfl (.c 2 rfl (.c 3 rfl (.c 4 rfl (.c 5 rfl .n))))))
     show Jr w F g15 g17 g20 Tb16 Tb18 Tb21 A2 n3 c4 z6 A30 n31 c32 z34 A38 n39 c40 z42 A22 n23 c24 A26 n27 c28 r (.returned (Ce [.slice A611 n612 c613])) wr
     rw [h]
     exact ⟨A611,n612,c613,A616,n617,c618,cs620,A622,n623,c624,rfl,hMr,h614,ht615,h619,(hLr.outC (s:=Sm w.heap.size F w626 sb630) hMi (me 0 rfl) Sm.ok hC621),h625⟩
   ·have h:=Am hp441 h
    refine Bi rfl _ rfl ((decide_eq_false hp441))<|Ii [.code Xif] rfl rfl<|Ah rfl<|Ac rfl rfl<|Aa 0 rfl (Af rfl) gn rfl<|Aj 1 rfl<|Pi 3 1 ?_
    have h:=Out.inr hO1 h
    refine Bq [.slice none 0 0] rfl Tryd.func71 rfl (.tmp rfl (.nil)) fun wr hLr=>?_
    have hMr:=hLr.pkI (.c 4 rfl (.c 5 rfl (.c 6 rfl (.c 0 rfl (.c 1 rfl (.c 2 rfl .n)))))) (.c 3 rfl .n) (by kernel_rfl) (.c 2 rfl .n)
    have hMi:=hLr.selI (.c 4 rfl (.c 5 rfl (.c 6 rfl (.c 0 rfl (.c 1 rfl (.c 2 rfl .n))))))
    show Jr w F g15 g17 g20 Tb16 Tb18 Tb21 A2 n3 c4 z6 A30 n31 c32 z34 A38 n39 c40 z42 A22 n23 c24 A26 n27 c28 r (.returned (Ce [.slice none 0 0])) wr
    rw [h]
    exact ⟨none,0,0,A238,n239,c240,cs242,A247,n248,c249,rfl,hMr,(Ow.weak hz7 (Ow.nil (z:=w.heap.size))),(fun _=>rfl),h241,(hLr.outC (s:=Sm w.heap.size F sw243 sb244) hMi (me 0 rfl) Sm.ok hC245),h250⟩
  refine Ba 3 rfl<|Ba 3 rfl<|Ba 3 rfl<|Ba 3 rfl<|Ba 5 rfl<|Ba 5 rfl ?_
  exact D8 [0,0,1] (key1 _ h A30 n31 c32 h33 cs36 w [(Value.slice A2 n3 c4).ownBlock.toList,[g15],[g17],[g20],(Value.slice A30 n31 c32).ownBlock.toList,(Value.slice A38 n39 c40).ownBlock.toList] hC37 A38 n39 c40 h41) ⟨rfl,rfl,rfl,rfl,rfl,rfl,rfl,rfl,rfl,trivial⟩ (.cons_cons _ (.cons_cons _ (.cons_cons _ (.cons_cons _ (.cons_cons _ (.cons_cons _ (.slnil))))))) rfl
theorem Zt (rc_query_matcher_fits_1:(List Int)→Int→Int→(List Int)→Bf→((List Int) × Bf)→Prop) (rc_query_matcher_fits:Bf→Int→Int→((List Int) × Bf)→Prop) (ih_query_matcher_fits_1:Mc rc_query_matcher_fits_1) (ih_query_matcher_fits:Oa rc_query_matcher_fits):Oa (Jd rc_query_matcher_fits_1 rc_query_matcher_fits):=by
 intro w F x1 x26 x27 g2 Tb3 A4 n5 c6 A8 n9 c10 z16 A12 n13 c14 cs18 z24 A20 n21 c22 h7 h11 hz17 h15 hC19 hz25 h23 hF hL0 r h
 unfold Jd at h
 have hC19:=Cells.into (bs:=[[g2],(Value.slice A12 n13 c14).ownBlock.toList,(Value.slice A20 n21 c22).ownBlock.toList]) hF hC19
 refine Cc (vs:=[.pointer (some ⟨g2,0,none⟩),.int .i64 x26,.int .i64 x27]) 85 Tryd.func40 rfl Tryd.ntmps40 rfl hL0 ?_
 show G (Rx w F g2 Tb3 A12 n13 c14 z16 A20 n21 c22 z24 A4 n5 c6 A8 n9 c10 r) _ _ _ _
 refine Ah rfl<|Ac rfl rfl ?_
 refine Ci 0 rfl (Tu [.pointer (some ⟨g2,0,none⟩)] rfl rfl rfl fun gb28=>?_) gn
 refine Aa 1 rfl (Af rfl) gn rfl<|Aj 2 rfl<|Ah rfl ?_
 obtain ⟨hb30,h⟩:=h
 obtain ⟨hb32,h⟩:=h
 have d1:∀ (gb49:Nat) (gb50:Nat),G (Rx w F g2 Tb3 A12 n13 c14 z16 A20 n21 c22 z24 A4 n5 c6 A8 n9 c10 r) [.code q40c4] [(1,.int .i64 x26),(2,.int .i64 x27),(3,.pointer (some ⟨gb28,0,none⟩)),(7,.pointer (some ⟨gb50,0,none⟩)),(8,.pointer (some ⟨gb49,0,none⟩))] [.box gb49 56 [.string ((ix x1.tree x27).name),.bool ((ix x1.tree x27).named),.string ((ix x1.tree x27).field),.int .i64 ((ix x1.tree x27).from_),.int .i64 ((ix x1.tree x27).to),.int .i64 ((ix x1.tree x27).kids),.int .i64 ((ix x1.tree x27).leaf)],.box gb50 45 [.string ((ix x1.nodes x26).name),.bool ((ix x1.nodes x26).lit),.string ((ix x1.nodes x26).field),.string ((ix x1.nodes x26).capture),.int .i64 ((ix x1.nodes x26).kids)],.box gb28 66 [.pointer (some ⟨g2,0,none⟩)],.box g2 Tb3 [.slice A4 n5 c6,.slice A8 n9 c10,.slice A12 n13 c14,.slice A20 n21 c22],.own (.slice A12 n13 c14) 36 1 n13 cs18,.own (.slice A20 n21 c22) 4 1 n21 (x1.known.flatMap eB)] [Sm w.heap.size F w [[g2],(Value.slice A12 n13 c14).ownBlock.toList,(Value.slice A20 n21 c22).ownBlock.toList],St w [[g2],(Value.slice A12 n13 c14).ownBlock.toList,(Value.slice A20 n21 c22).ownBlock.toList]]:=by
  intro gb49 gb50
  refine Ah rfl<|Ah rfl ?_
  have j1:∀ (x61:Bool) (h:Dc x1 x27 rc_query_matcher_fits_1 x26 x61 r) ,G (Rx w F g2 Tb3 A12 n13 c14 z16 A20 n21 c22 z24 A4 n5 c6 A8 n9 c10 r) [.code q40c8,.code q40c6] [(1,.int .i64 x26),(2,.int .i64 x27),(3,.pointer (some ⟨gb28,0,none⟩)),(7,.pointer (some ⟨gb50,0,none⟩)),(71,.bool x61)] [.box gb50 45 [.string ((ix x1.nodes x26).name),.bool ((ix x1.nodes x26).lit),.string ((ix x1.nodes x26).field),.string ((ix x1.nodes x26).capture),.int .i64 ((ix x1.nodes x26).kids)],.box gb28 66 [.pointer (some ⟨g2,0,none⟩)],.box g2 Tb3 [.slice A4 n5 c6,.slice A8 n9 c10,.slice A12 n13 c14,.slice A20 n21 c22],.own (.slice A12 n13 c14) 36 1 n13 cs18,.own (.slice A20 n21 c22) 4 1 n21 (x1.known.flatMap eB)] [Sm w.heap.size F w [[g2],(Value.slice A12 n13 c14).ownBlock.toList,(Value.slice A20 n21 c22).ownBlock.toList],St w [[g2],(Value.slice A12 n13 c14).ownBlock.toList,(Value.slice A20 n21 c22).ownBlock.toList]]:=by
   intro x61 h
   unfold Dc at h
   by_cases hp62:x61=true
   ·have h:=Ap hp62 h
    refine Bv rfl _ rfl (hp62)<|Ah rfl<|Ac rfl rfl<|Aa 0 rfl (Af rfl) gn rfl<|Aj 1 rfl<|Pi 3 1 ?_
    refine Bq [.slice none 0 0] rfl Tryd.func40 rfl (.tmp rfl (.nil)) fun wr hLr=>?_
    have hMr:=hLr.pkI (.c 3 rfl (.c 0 rfl (.c 4 rfl (.c 5 rfl .n)))) (.c 1 rfl (.c 2 rfl .n)) (by kernel_rfl) (.c 1 rfl .n)
    have hMi:=hLr.selI (.c 3 rfl (.c 0 rfl (.c 4 rfl (.c 5 rfl .n))))
    show Ll w F g2 Tb3 A12 n13 c14 z16 A20 n21 c22 z24 A4 n5 c6 A8 n9 c10 r (.returned (Ce [.slice none 0 0])) wr
    rw [h]
    exact ⟨none,0,0,A12,n13,c14,cs18,A20,n21,c22,rfl,hMr,(Ow.nil (z:=w.heap.size)),(fun _=>rfl),h15,(hLr.outC (s:=Sm w.heap.size F w [[g2],(Value.slice A12 n13 c14).ownBlock.toList,(Value.slice A20 n21 c22).ownBlock.toList]) hMi (me 0 rfl) Sm.ok hC19),h23⟩
   ·have h:=Am hp62 h
    refine Bi rfl _ rfl ((bf hp62))<|C9 rfl<|Ah rfl<|Ac rfl rfl<|Aa 0 rfl (Aq 1 ld_66 rfl rfl rfl) gn rfl<|Aa 1 rfl (Ad rfl) gn rfl ?_
    obtain ⟨r66,hv67,h⟩:=h
    refine Ci 2 rfl (D7 [.pointer (some ⟨g2,0,none⟩),.int .i64 x27] rfl Tryd.func70 rfl rfl rfl fun w63 hL64=>?_) gn
    have hp65:=pmI hL64 (.c 2 rfl (.c 3 rfl (.c 4 rfl .n))) (.c 0 rfl (.c 1 rfl .n)) (by kernel_rfl)
    refine Calls.mono (Zi w63 (Fl ([Sm w.heap.size F w [[g2],(Value.slice A12 n13 c14).ownBlock.toList,(Value.slice A20 n21 c22).ownBlock.toList]]:List Cb)) x1 x27 g2 Tb3 A4 n5 c6 A8 n9 c10 z16 A12 n13 c14 cs18 z24 A20 n21 c22 (Rw.mono h7 (hL64.toSt hp65 (me 1 rfl))) (Rw.mono h11 (hL64.toSt hp65 (me 1 rfl))) (Nat.le_trans hz17 hL64.env.size) h15 (Cells.mono (hL64.toFl (me 0 rfl) (me 0 rfl)) hC19) (Nat.le_trans hz25 hL64.env.size) h23 (hL64.hFl hp65 (Bg [0] rfl)) (hL64.into hp65 _) r66 hv67) ?_
    rintro _ w84 ⟨A72,n73,c74,cs77,A79,n80,c81,A68,n69,c70,rfl,hM85,h75,hC78,h82,h71⟩
    obtain ⟨sb88,hL86,hv87⟩:=hL64.callB (Sl:=([Sm w.heap.size F w [[g2],(Value.slice A12 n13 c14).ownBlock.toList,(Value.slice A20 n21 c22).ownBlock.toList]]:List Cb)) hp65 hM85 F (Bg [0] rfl) ⟨Sm.ok,trivial⟩
    have h71:At (Gq .i64) (Sm w.heap.size F w84 sb88) A68 n69 c70 r66.1:=Rw.mono h71 hv87
    have hC78:Cells (Kd.slice (Gq .i64)) (Sm w.heap.size F w84 sb88).w (Sm w.heap.size F w84 sb88).av r66.2.of cs77:=Cells.mono hv87 hC78
    refine ⟨_,_,_,rfl,hL86,?_⟩
    refine Aa 3 rfl (Af rfl) gn rfl<|Aj 4 rfl<|Ah rfl<|Ac rfl rfl ?_
    refine Ci 0 rfl (He [.nilFunc] zr_101 rfl fun gb89=>?_) gn
    refine Aj 1 rfl<|Ah rfl<|Ac rfl rfl<|Aa 0 rfl (Vz [.pointer (some ⟨gb28,0,none⟩),.pointer (some ⟨gb89,0,none⟩)] rfl) gn rfl ?_
    refine Ci 1 rfl (Gl (vs:=[.func (.func 71) #[] #[.pointer (some ⟨gb28,0,none⟩),.pointer (some ⟨gb89,0,none⟩)]]) (cs':=[.func (.func 71) #[] #[.pointer (some ⟨gb28,0,none⟩),.pointer (some ⟨gb89,0,none⟩)]]) (M':=[.box gb89 101 [.func (.func 71) #[] #[.pointer (some ⟨gb28,0,none⟩),.pointer (some ⟨gb89,0,none⟩)]],.box g2 Tb3 [.slice A4 n5 c6,.slice A8 n9 c10,.slice A72 n73 c74,.slice A79 n80 c81],.own (.slice A72 n73 c74) 36 1 n73 cs77,.own (.slice A79 n80 c81) 4 1 n80 (r66.2.known.flatMap eB),.box gb50 45 [.string ((ix x1.nodes x26).name),.bool ((ix x1.nodes x26).lit),.string ((ix x1.nodes x26).field),.string ((ix x1.nodes x26).capture),.int .i64 ((ix x1.nodes x26).kids)],.box gb28 66 [.pointer (some ⟨g2,0,none⟩)]]) 0 sz_101 rfl rfl rfl rfl rfl rfl rfl rfl rfl ?_) gn
    refine Aj 2 rfl<|Ah rfl<|Ac rfl rfl<|Aa 0 rfl (Aq 0 ld_101 rfl rfl rfl) gn rfl<|Aa 1 rfl (Ad rfl) gn rfl ?_
    refine Ci 2 rfl (Hy (xs:=([x27]:List Int)) [.int .i64 x27] Vj rfl (by kernel_rfl) rfl rfl rfl rfl fun gb92 h93=>?_) gn
    refine Aa 3 rfl (Aw Xz rfl) gn rfl<|Aa 4 rfl (Aq 5 H5 rfl rfl rfl) gn rfl<|Aa 5 rfl (Ad rfl) gn rfl<|Aa 6 rfl (Be rfl rfl rfl) gn rfl<|Aa 7 rfl (Ad rfl) gn rfl ?_
    obtain ⟨r97,hv98,h⟩:=h
    refine Ci 8 rfl (Ir [.slice (some ⟨gb92,0,none⟩) 1 1,.int .i64 ((ix x1.nodes x26).kids),.int .i64 (w64 (x26 + 1)),.slice A68 n69 c70] [.pointer (some ⟨gb28,0,none⟩),.pointer (some ⟨gb89,0,none⟩)] rfl rfl Tryd.func71 rfl rfl rfl fun w94 hL95=>?_) gn
    have hp96:=pmI hL95 (.c 0 rfl (.c 6 rfl (.c 1 rfl (.c 2 rfl (.c 3 rfl (.c 4 rfl .n)))))) (.c 5 rfl .n) (by kernel_rfl)
    refine Calls.mono (ih_query_matcher_fits_1 w94 (Fl ([Sm w.heap.size F w84 sb88]:List Cb)) ([x27]:List Int) ((ix x1.nodes x26).kids) (w64 (x26 + 1)) r66.1 (⟨x1.nodes,x1.tree,r66.2.of,r66.2.known⟩:Bf) w.heap.size (some ⟨gb92,0,none⟩) 1 1 A68 n69 c70 gb28 66 gb89 101 g2 Tb3 A4 n5 c6 A8 n9 c10 z16 A72 n73 c74 cs77 z24 A79 n80 c81 hL95.env.size h93 (Rw.mono h71 (hL95.toSt hp96 (me 0 rfl))) (Rw.mono h7 (hL95.toSt hp96 (me 2 rfl))) (Rw.mono h11 (hL95.toSt hp96 (me 2 rfl))) (Nat.le_trans hz17 hL95.env.size) h75 (Cells.mono (hL95.toFl (me 0 rfl) (me 0 rfl)) hC78) (Nat.le_trans hz25 hL95.env.size) h82 (hL95.hFl hp96 (Bg [0] rfl)) (hL95.into hp96 _) r97 hv98) ?_
    rintro _ w117 ⟨A99,n100,c101,A105,n106,c107,cs110,A112,n113,c114,rfl,hM118,h102,ht104,h108,hC111,h115⟩
    obtain ⟨sb121,hL119,hv120⟩:=hL95.callB (Sl:=([Sm w.heap.size F w84 sb88]:List Cb)) hp96 hM118 F (Bg [0] rfl) ⟨Sm.ok,trivial⟩
    have hC111:Cells (Kd.slice (Gq .i64)) (Sm w.heap.size F w117 sb121).w (Sm w.heap.size F w117 sb121).av r97.2.of cs110:=Cells.mono hv120 hC111
    refine ⟨_,_,_,rfl,hL119,?_⟩
    refine Aa 9 rfl (Af rfl) gn rfl<|Aj 10 rfl ?_
    refine Bq [.slice A99 n100 c101] rfl Tryd.func40 rfl (.tmp rfl (.nil)) fun wr hLr=>?_
    have hMr:=hLr.pkI (.c 2 rfl (.c 3 rfl (.c 4 rfl (.c 5 rfl .n)))) (.c 0 rfl (.c 1 rfl (.c 6 rfl .n))) (by kernel_rfl) (.c 3 rfl .n)
    have hMi:=hLr.selI (.c 2 rfl (.c 3 rfl (.c 4 rfl (.c 5 rfl .n))))
    show Ll w F g2 Tb3 A12 n13 c14 z16 A20 n21 c22 z24 A4 n5 c6 A8 n9 c10 r (.returned (Ce [.slice A99 n100 c101])) wr
    rw [h]
    exact ⟨A99,n100,c101,A105,n106,c107,cs110,A112,n113,c114,rfl,hMr,h102,ht104,h108,(hLr.outC (s:=Sm w.heap.size F w117 sb121) hMi (me 0 rfl) Sm.ok hC111),h115⟩
  refine Ac rfl rfl<|Aa 0 rfl (Aw Z7 rfl) gn rfl<|Aa 1 rfl (Aq 1 Xc5 rfl rfl rfl) gn rfl<|Aa 2 rfl (Ad rfl) gn rfl ?_
  by_cases hp122:((ix x1.nodes x26).lit)=true
  ·have h:=Ap hp122 h
   refine Bo 27 rfl (hp122)<|Aa 3 rfl (Aw Xmj rfl) (gy 27 rfl rfl) rfl<|Aa 4 rfl (Aq 0 Xc5 rfl rfl rfl) (gy 27 rfl rfl) rfl<|Aa 5 rfl (Ad rfl) (gy 27 rfl rfl) rfl ?_
   by_cases hp123:((ix x1.tree x27).named)=true
   ·have h:=Ap hp123 h
    refine Bo 30 rfl (hp123)<|Ae 6 rfl (ps 30 rfl rfl rfl)<|Ae 7 rfl (ps 30 rfl rfl rfl)<|Ae 8 rfl (ps 30 rfl rfl rfl)<|Ae 9 rfl (ps 30 rfl rfl rfl)<|Ae 10 rfl (ps 30 rfl rfl rfl)<|Aa 11 rfl (Bc (b:=true) rfl rfl) (gy 27 rfl rfl) rfl<|Aa 12 rfl (Bc (b:=true) rfl rfl) gn rfl<|Aa 13 rfl (Ad rfl) gn rfl<|Ae 14 rfl (ps 38 rfl rfl rfl)<|Ae 15 rfl (ps 38 rfl rfl rfl)<|Ae 16 rfl (ps 38 rfl rfl rfl) ?_
    refine Ae 17 rfl (ps 38 rfl rfl rfl)<|Ae 18 rfl (pu 42 rfl rfl)<|Ae 19 rfl (pu 42 rfl rfl)<|Ae 20 rfl (pu 42 rfl rfl)<|Ae 21 rfl (ps 38 rfl rfl rfl)<|Ae 22 rfl (ps 38 rfl rfl rfl)<|Ae 23 rfl (pu 47 rfl rfl)<|Ae 24 rfl (pu 47 rfl rfl)<|Ae 25 rfl (pu 47 rfl rfl)<|Ae 26 rfl (pu 47 rfl rfl)<|Ae 27 rfl (pu 51 rfl rfl)<|Ae 28 rfl (pu 51 rfl rfl) ?_
    refine Ae 29 rfl (pu 51 rfl rfl)<|Ae 30 rfl (pu 51 rfl rfl)<|Ae 31 rfl (pu 51 rfl rfl)<|Ae 32 rfl (pu 47 rfl rfl)<|Ae 33 rfl (ps 38 rfl rfl rfl)<|Aa 34 rfl (Bc (b:=true) rfl rfl) gn rfl<|Aa 35 rfl (Ad rfl) gn rfl<|Ae 36 rfl (ps 60 rfl rfl rfl)<|Ae 37 rfl (ps 60 rfl rfl rfl)<|Ae 38 rfl (ps 60 rfl rfl rfl)<|Ae 39 rfl (ps 60 rfl rfl rfl)<|Ae 40 rfl (pu 64 rfl rfl) ?_
    refine Ae 41 rfl (pu 64 rfl rfl)<|Ae 42 rfl (pu 64 rfl rfl)<|Ae 43 rfl (pu 64 rfl rfl)<|Ae 44 rfl (pu 64 rfl rfl)<|Ae 45 rfl (ps 60 rfl rfl rfl)<|Aa 46 rfl (Bc (b:=true) rfl rfl) gn rfl<|Aj 47 rfl ?_
    exact D8 [0,1] (j1 true h) ⟨rfl,rfl,rfl,rfl,rfl,trivial⟩ (.cons _ (.cons_cons _ (.cons_cons _ (.cons_cons _ (.cons_cons _ (.cons_cons _ (.slnil))))))) rfl
   ·have h:=Am hp123 h
    refine Bo 30 rfl ((bf hp123))<|Aa 6 rfl (Aw Xm6 rfl) (gy 30 rfl rfl) rfl<|Aa 7 rfl (Aq 0 H8 rfl rfl rfl) (gy 30 rfl rfl) rfl<|Aa 8 rfl (Aw Vp rfl) (gy 30 rfl rfl) rfl<|Aa 9 rfl (Aq 1 H8 rfl rfl rfl) (gy 30 rfl rfl) rfl<|Aa 10 rfl (Rk rfl rfl) (gy 30 rfl rfl) rfl<|Aa 11 rfl (Bc (b:=false) rfl rfl) (gy 27 rfl rfl) rfl<|Aa 12 rfl (Bc (b:=true) rfl rfl) gn rfl<|Aa 13 rfl (Ad rfl) gn rfl ?_
    by_cases hp124:(ix x1.tree x27).name=(ix x1.nodes x26).name
    ·have h:=Ap hp124 h
     refine Bo 38 rfl ((nf (Oo hp124)))<|Aa 14 rfl (Aw Z7 rfl) (gy 38 rfl rfl) rfl<|Aa 15 rfl (Aq 1 Xc5 rfl rfl rfl) (gy 38 rfl rfl) rfl<|Aa 16 rfl (Qu rfl) (gy 38 rfl rfl) rfl<|Aa 17 rfl (Ad rfl) (gy 38 rfl rfl) rfl<|Bo 42 rfl ((nf hp122))<|Ae 18 rfl (ps 42 rfl rfl rfl)<|Ae 19 rfl (ps 42 rfl rfl rfl)<|Ae 20 rfl (ps 42 rfl rfl rfl)<|Aa 21 rfl (Bc (b:=false) rfl rfl) (gy 38 rfl rfl) rfl<|Aa 22 rfl (Ad rfl) (gy 38 rfl rfl) rfl<|Ae 23 rfl (ps 47 rfl rfl rfl) ?_
     refine Ae 24 rfl (ps 47 rfl rfl rfl)<|Ae 25 rfl (ps 47 rfl rfl rfl)<|Ae 26 rfl (ps 47 rfl rfl rfl)<|Ae 27 rfl (pu 51 rfl rfl)<|Ae 28 rfl (pu 51 rfl rfl)<|Ae 29 rfl (pu 51 rfl rfl)<|Ae 30 rfl (pu 51 rfl rfl)<|Ae 31 rfl (pu 51 rfl rfl)<|Ae 32 rfl (ps 47 rfl rfl rfl)<|Aa 33 rfl (Bc (b:=false) rfl rfl) (gy 38 rfl rfl) rfl<|Aa 34 rfl (Bc (b:=false) rfl rfl) gn rfl<|Aa 35 rfl (Ad rfl) gn rfl ?_
     refine Aa 36 rfl (Aw Vg rfl) (gy 60 rfl rfl) rfl<|Aa 37 rfl (Aq 1 H8 rfl rfl rfl) (gy 60 rfl rfl) rfl<|Aa 38 rfl (Rk rfl rfl) (gy 60 rfl rfl) rfl<|Aa 39 rfl (Ad rfl) (gy 60 rfl rfl) rfl ?_
     by_cases hp125:(ix x1.nodes x26).field=(⟨#[]⟩:ByteArray)
     ·have h:=Ap hp125 h
      refine Bo 64 rfl ((nf (Oo hp125)))<|Ae 40 rfl (ps 64 rfl rfl rfl)<|Ae 41 rfl (ps 64 rfl rfl rfl)<|Ae 42 rfl (ps 64 rfl rfl rfl)<|Ae 43 rfl (ps 64 rfl rfl rfl)<|Ae 44 rfl (ps 64 rfl rfl rfl)<|Aa 45 rfl (Bc (b:=false) rfl rfl) (gy 60 rfl rfl) rfl<|Aa 46 rfl (Bc (b:=false) rfl rfl) gn rfl<|Aj 47 rfl ?_
      exact D8 [0,1] (j1 false h) ⟨rfl,rfl,rfl,rfl,rfl,trivial⟩ (.cons _ (.cons_cons _ (.cons_cons _ (.cons_cons _ (.cons_cons _ (.cons_cons _ (.slnil))))))) rfl
     ·have h:=Am hp125 h
      refine Bo 64 rfl ((nt (Pj hp125)))<|Aa 40 rfl (Aw Vg rfl) (gy 64 rfl rfl) rfl<|Aa 41 rfl (Aq 1 H8 rfl rfl rfl) (gy 64 rfl rfl) rfl<|Aa 42 rfl (Aw Xiz rfl) (gy 64 rfl rfl) rfl<|Aa 43 rfl (Aq 0 H8 rfl rfl rfl) (gy 64 rfl rfl) rfl<|Aa 44 rfl (Rk rfl rfl) (gy 64 rfl rfl) rfl<|Aa 45 rfl (Bc (b:=true) rfl rfl) (gy 60 rfl rfl) rfl<|Aa 46 rfl (Bc (b:=false) rfl rfl) gn rfl<|Aj 47 rfl ?_
      exact D8 [0,1] (j1 (!(seq ((ix x1.nodes x26).field) ((ix x1.tree x27).field))) h) ⟨rfl,rfl,rfl,rfl,rfl,trivial⟩ (.cons _ (.cons_cons _ (.cons_cons _ (.cons_cons _ (.cons_cons _ (.cons_cons _ (.slnil))))))) rfl
    ·have h:=Am hp124 h
     refine Bo 38 rfl ((nt (Pj hp124)))<|Ae 14 rfl (ps 38 rfl rfl rfl)<|Ae 15 rfl (ps 38 rfl rfl rfl)<|Ae 16 rfl (ps 38 rfl rfl rfl)<|Ae 17 rfl (ps 38 rfl rfl rfl)<|Ae 18 rfl (pu 42 rfl rfl)<|Ae 19 rfl (pu 42 rfl rfl)<|Ae 20 rfl (pu 42 rfl rfl)<|Ae 21 rfl (ps 38 rfl rfl rfl)<|Ae 22 rfl (ps 38 rfl rfl rfl)<|Ae 23 rfl (pu 47 rfl rfl)<|Ae 24 rfl (pu 47 rfl rfl) ?_
     refine Ae 25 rfl (pu 47 rfl rfl)<|Ae 26 rfl (pu 47 rfl rfl)<|Ae 27 rfl (pu 51 rfl rfl)<|Ae 28 rfl (pu 51 rfl rfl)<|Ae 29 rfl (pu 51 rfl rfl)<|Ae 30 rfl (pu 51 rfl rfl)<|Ae 31 rfl (pu 51 rfl rfl)<|Ae 32 rfl (pu 47 rfl rfl)<|Ae 33 rfl (ps 38 rfl rfl rfl)<|Aa 34 rfl (Bc (b:=true) rfl rfl) gn rfl<|Aa 35 rfl (Ad rfl) gn rfl<|Ae 36 rfl (ps 60 rfl rfl rfl) ?_
     refine Ae 37 rfl (ps 60 rfl rfl rfl)<|Ae 38 rfl (ps 60 rfl rfl rfl)<|Ae 39 rfl (ps 60 rfl rfl rfl)<|Ae 40 rfl (pu 64 rfl rfl)<|Ae 41 rfl (pu 64 rfl rfl)<|Ae 42 rfl (pu 64 rfl rfl)<|Ae 43 rfl (pu 64 rfl rfl)<|Ae 44 rfl (pu 64 rfl rfl)<|Ae 45 rfl (ps 60 rfl rfl rfl)<|Aa 46 rfl (Bc (b:=true) rfl rfl) gn rfl<|Aj 47 rfl ?_
     exact D8 [0,1] (j1 true h) ⟨rfl,rfl,rfl,rfl,rfl,trivial⟩ (.cons _ (.cons_cons _ (.cons_cons _ (.cons_cons _ (.cons_cons _ (.cons_cons _ (.slnil))))))) rfl
  ·have h:=Am hp122 h
   refine Bo 27 rfl ((bf hp122))<|Ae 3 rfl (ps 27 rfl rfl rfl)<|Ae 4 rfl (ps 27 rfl rfl rfl)<|Ae 5 rfl (ps 27 rfl rfl rfl)<|Ae 6 rfl (pu 30 rfl rfl)<|Ae 7 rfl (pu 30 rfl rfl)<|Ae 8 rfl (pu 30 rfl rfl)<|Ae 9 rfl (pu 30 rfl rfl)<|Ae 10 rfl (pu 30 rfl rfl)<|Ae 11 rfl (ps 27 rfl rfl rfl)<|Aa 12 rfl (Bc (b:=false) rfl rfl) gn rfl<|Aa 13 rfl (Ad rfl) gn rfl ?_
   refine Aa 14 rfl (Aw Z7 rfl) (gy 38 rfl rfl) rfl<|Aa 15 rfl (Aq 1 Xc5 rfl rfl rfl) (gy 38 rfl rfl) rfl<|Aa 16 rfl (Qu rfl) (gy 38 rfl rfl) rfl<|Aa 17 rfl (Ad rfl) (gy 38 rfl rfl) rfl<|Bo 42 rfl ((nt (bf hp122)))<|Aa 18 rfl (Aw Vp rfl) (gy 42 rfl rfl) rfl<|Aa 19 rfl (Aq 1 H8 rfl rfl rfl) (gy 42 rfl rfl) rfl<|Aa 20 rfl (Rk rfl rfl) (gy 42 rfl rfl) rfl<|Aa 21 rfl (Bc (b:=true) rfl rfl) (gy 38 rfl rfl) rfl<|Aa 22 rfl (Ad rfl) (gy 38 rfl rfl) rfl ?_
   by_cases hp126:(ix x1.nodes x26).name=(⟨#[]⟩:ByteArray)
   ·have h:=Ap hp126 h
    refine Bo 47 rfl ((nf (Oo hp126)))<|Ae 23 rfl (ps 47 rfl rfl rfl)<|Ae 24 rfl (ps 47 rfl rfl rfl)<|Ae 25 rfl (ps 47 rfl rfl rfl)<|Ae 26 rfl (ps 47 rfl rfl rfl)<|Ae 27 rfl (pu 51 rfl rfl)<|Ae 28 rfl (pu 51 rfl rfl)<|Ae 29 rfl (pu 51 rfl rfl)<|Ae 30 rfl (pu 51 rfl rfl)<|Ae 31 rfl (pu 51 rfl rfl)<|Ae 32 rfl (ps 47 rfl rfl rfl)<|Aa 33 rfl (Bc (b:=false) rfl rfl) (gy 38 rfl rfl) rfl ?_
    refine Aa 34 rfl (Bc (b:=false) rfl rfl) gn rfl<|Aa 35 rfl (Ad rfl) gn rfl<|Aa 36 rfl (Aw Vg rfl) (gy 60 rfl rfl) rfl<|Aa 37 rfl (Aq 1 H8 rfl rfl rfl) (gy 60 rfl rfl) rfl<|Aa 38 rfl (Rk rfl rfl) (gy 60 rfl rfl) rfl<|Aa 39 rfl (Ad rfl) (gy 60 rfl rfl) rfl ?_
    by_cases hp127:(ix x1.nodes x26).field=(⟨#[]⟩:ByteArray)
    ·have h:=Ap hp127 h
     refine Bo 64 rfl ((nf (Oo hp127)))<|Ae 40 rfl (ps 64 rfl rfl rfl)<|Ae 41 rfl (ps 64 rfl rfl rfl)<|Ae 42 rfl (ps 64 rfl rfl rfl)<|Ae 43 rfl (ps 64 rfl rfl rfl)<|Ae 44 rfl (ps 64 rfl rfl rfl)<|Aa 45 rfl (Bc (b:=false) rfl rfl) (gy 60 rfl rfl) rfl<|Aa 46 rfl (Bc (b:=false) rfl rfl) gn rfl<|Aj 47 rfl ?_
     exact D8 [0,1] (j1 false h) ⟨rfl,rfl,rfl,rfl,rfl,trivial⟩ (.cons _ (.cons_cons _ (.cons_cons _ (.cons_cons _ (.cons_cons _ (.cons_cons _ (.slnil))))))) rfl
    ·have h:=Am hp127 h
     refine Bo 64 rfl ((nt (Pj hp127)))<|Aa 40 rfl (Aw Vg rfl) (gy 64 rfl rfl) rfl<|Aa 41 rfl (Aq 1 H8 rfl rfl rfl) (gy 64 rfl rfl) rfl<|Aa 42 rfl (Aw Xiz rfl) (gy 64 rfl rfl) rfl<|Aa 43 rfl (Aq 0 H8 rfl rfl rfl) (gy 64 rfl rfl) rfl<|Aa 44 rfl (Rk rfl rfl) (gy 64 rfl rfl) rfl<|Aa 45 rfl (Bc (b:=true) rfl rfl) (gy 60 rfl rfl) rfl<|Aa 46 rfl (Bc (b:=false) rfl rfl) gn rfl<|Aj 47 rfl ?_
     exact D8 [0,1] (j1 (!(seq ((ix x1.nodes x26).field) ((ix x1.tree x27).field))) h) ⟨rfl,rfl,rfl,rfl,rfl,trivial⟩ (.cons _ (.cons_cons _ (.cons_cons _ (.cons_cons _ (.cons_cons _ (.cons_cons _ (.slnil))))))) rfl
   ·have h:=Am hp126 h
    refine Bo 47 rfl ((nt (Pj hp126)))<|Aa 23 rfl (Aw Xmj rfl) (gy 47 rfl rfl) rfl<|Aa 24 rfl (Aq 0 Xc5 rfl rfl rfl) (gy 47 rfl rfl) rfl<|Aa 25 rfl (Qu rfl) (gy 47 rfl rfl) rfl<|Aa 26 rfl (Ad rfl) (gy 47 rfl rfl) rfl ?_
    by_cases hp128:((ix x1.tree x27).named)=true
    ·have h:=Ap hp128 h
     refine Bo 51 rfl ((nf hp128))<|Aa 27 rfl (Aw Xm6 rfl) (gy 51 rfl rfl) rfl<|Aa 28 rfl (Aq 0 H8 rfl rfl rfl) (gy 51 rfl rfl) rfl<|Aa 29 rfl (Aw Vp rfl) (gy 51 rfl rfl) rfl<|Aa 30 rfl (Aq 1 H8 rfl rfl rfl) (gy 51 rfl rfl) rfl<|Aa 31 rfl (Rk rfl rfl) (gy 51 rfl rfl) rfl<|Aa 32 rfl (Bc (b:=false) rfl rfl) (gy 47 rfl rfl) rfl<|Aa 33 rfl (Bc (b:=true) rfl rfl) (gy 38 rfl rfl) rfl<|Aa 34 rfl (Bc (b:=false) rfl rfl) gn rfl<|Aa 35 rfl (Ad rfl) gn rfl ?_
     by_cases hp129:(ix x1.tree x27).name=(ix x1.nodes x26).name
     ·have h:=Ap hp129 h
      refine Bo 60 rfl ((nf (Oo hp129)))<|Aa 36 rfl (Aw Vg rfl) (gy 60 rfl rfl) rfl<|Aa 37 rfl (Aq 1 H8 rfl rfl rfl) (gy 60 rfl rfl) rfl<|Aa 38 rfl (Rk rfl rfl) (gy 60 rfl rfl) rfl<|Aa 39 rfl (Ad rfl) (gy 60 rfl rfl) rfl ?_
      by_cases hp130:(ix x1.nodes x26).field=(⟨#[]⟩:ByteArray)
      ·have h:=Ap hp130 h
       refine Bo 64 rfl ((nf (Oo hp130)))<|Ae 40 rfl (ps 64 rfl rfl rfl)<|Ae 41 rfl (ps 64 rfl rfl rfl)<|Ae 42 rfl (ps 64 rfl rfl rfl)<|Ae 43 rfl (ps 64 rfl rfl rfl)<|Ae 44 rfl (ps 64 rfl rfl rfl)<|Aa 45 rfl (Bc (b:=false) rfl rfl) (gy 60 rfl rfl) rfl<|Aa 46 rfl (Bc (b:=false) rfl rfl) gn rfl<|Aj 47 rfl ?_
       exact D8 [0,1] (j1 false h) ⟨rfl,rfl,rfl,rfl,rfl,trivial⟩ (.cons _ (.cons_cons _ (.cons_cons _ (.cons_cons _ (.cons_cons _ (.cons_cons _ (.slnil))))))) rfl
      ·have h:=Am hp130 h
       refine Bo 64 rfl ((nt (Pj hp130)))<|Aa 40 rfl (Aw Vg rfl) (gy 64 rfl rfl) rfl<|Aa 41 rfl (Aq 1 H8 rfl rfl rfl) (gy 64 rfl rfl) rfl<|Aa 42 rfl (Aw Xiz rfl) (gy 64 rfl rfl) rfl<|Aa 43 rfl (Aq 0 H8 rfl rfl rfl) (gy 64 rfl rfl) rfl<|Aa 44 rfl (Rk rfl rfl) (gy 64 rfl rfl) rfl<|Aa 45 rfl (Bc (b:=true) rfl rfl) (gy 60 rfl rfl) rfl<|Aa 46 rfl (Bc (b:=false) rfl rfl) gn rfl<|Aj 47 rfl ?_
       exact D8 [0,1] (j1 (!(seq ((ix x1.nodes x26).field) ((ix x1.tree x27).field))) h) ⟨rfl,rfl,rfl,rfl,rfl,trivial⟩ (.cons _ (.cons_cons _ (.cons_cons _ (.cons_cons _ (.cons_cons _ (.cons_cons _ (.slnil))))))) rfl
     ·have h:=Am hp129 h
      refine Bo 60 rfl ((nt (Pj hp129)))<|Ae 36 rfl (ps 60 rfl rfl rfl)<|Ae 37 rfl (ps 60 rfl rfl rfl)<|Ae 38 rfl (ps 60 rfl rfl rfl)<|Ae 39 rfl (ps 60 rfl rfl rfl)<|Ae 40 rfl (pu 64 rfl rfl)<|Ae 41 rfl (pu 64 rfl rfl)<|Ae 42 rfl (pu 64 rfl rfl)<|Ae 43 rfl (pu 64 rfl rfl)<|Ae 44 rfl (pu 64 rfl rfl)<|Ae 45 rfl (ps 60 rfl rfl rfl)<|Aa 46 rfl (Bc (b:=true) rfl rfl) gn rfl ?_
      refine Aj 47 rfl ?_
      exact D8 [0,1] (j1 true h) ⟨rfl,rfl,rfl,rfl,rfl,trivial⟩ (.cons _ (.cons_cons _ (.cons_cons _ (.cons_cons _ (.cons_cons _ (.cons_cons _ (.slnil))))))) rfl
    ·have h:=Am hp128 h
     refine Bo 51 rfl ((nt (bf hp128)))<|Ae 27 rfl (ps 51 rfl rfl rfl)<|Ae 28 rfl (ps 51 rfl rfl rfl)<|Ae 29 rfl (ps 51 rfl rfl rfl)<|Ae 30 rfl (ps 51 rfl rfl rfl)<|Ae 31 rfl (ps 51 rfl rfl rfl)<|Aa 32 rfl (Bc (b:=true) rfl rfl) (gy 47 rfl rfl) rfl<|Aa 33 rfl (Bc (b:=true) rfl rfl) (gy 38 rfl rfl) rfl<|Aa 34 rfl (Bc (b:=false) rfl rfl) gn rfl<|Aa 35 rfl (Ad rfl) gn rfl<|Ae 36 rfl (ps 60 rfl rfl rfl)<|Ae 37 rfl (ps 60 rfl rfl rfl) ?_
     refine Ae 38 rfl (ps 60 rfl rfl rfl)<|Ae 39 rfl (ps 60 rfl rfl rfl)<|Ae 40 rfl (pu 64 rfl rfl)<|Ae 41 rfl (pu 64 rfl rfl)<|Ae 42 rfl (pu 64 rfl rfl)<|Ae 43 rfl (pu 64 rfl rfl)<|Ae 44 rfl (pu 64 rfl rfl)<|Ae 45 rfl (ps 60 rfl rfl rfl)<|Aa 46 rfl (Bc (b:=true) rfl rfl) gn rfl<|Aj 47 rfl ?_
     exact D8 [0,1] (j1 true h) ⟨rfl,rfl,rfl,rfl,rfl,trivial⟩ (.cons _ (.cons_cons _ (.cons_cons _ (.cons_cons _ (.cons_cons _ (.cons_cons _ (.slnil))))))) rfl
 have hns:Region.noSelect (Code.ops q40c3)=true:=by kernel_rfl
 refine Fh [] 18 rfl rfl mix rfl (.c 0 rfl (.c 1 rfl .n))<|wfv 0 rfl (Aq 0 ld_66 rfl rfl rfl) gn hns rfl<|wfv 1 rfl (Bd rfl) gn hns rfl<|wfv 2 rfl (Aw fo_70_0 rfl) gn hns rfl<|wfv 3 rfl (Aq 1 Tq rfl rfl rfl) gn hns rfl<|wfv 4 rfl (Ad rfl) gn hns rfl ?_
 have hr131:=Rw.readF (s:=St w [[g2],(Value.slice A12 n13 c14).ownBlock.toList,(Value.slice A20 n21 c22).ownBlock.toList]) (hl:=Gh) (h1:=I9) h7 hb30
 refine wfv 5 rfl (Fb (s:=St w [[g2],(Value.slice A12 n13 c14).ownBlock.toList,(Value.slice A20 n21 c22).ownBlock.toList]) Xk rfl rfl h7 hb30) gn hns rfl<|wfv 6 rfl (Z4 (St w [[g2],(Value.slice A12 n13 c14).ownBlock.toList,(Value.slice A20 n21 c22).ownBlock.toList]) Xey rfl hr131 rfl (me 1 rfl)) gn hns rfl<|wfv 7 rfl (Aq 0 ld_66 rfl rfl rfl) gn hns rfl<|wfv 8 rfl (Bd rfl) gn hns rfl<|wfv 9 rfl (Aw Xmo rfl) gn hns rfl<|wfv 10 rfl (Aq 1 Zz rfl rfl rfl) gn hns rfl<|wfv 11 rfl (Ad rfl) gn hns rfl ?_
 have hr132:=Rw.readF (s:=St w [[g2],(Value.slice A12 n13 c14).ownBlock.toList,(Value.slice A20 n21 c22).ownBlock.toList]) (hl:=Qc) (h1:=Q7) h11 hb32
 refine wfv 12 rfl (Fb (s:=St w [[g2],(Value.slice A12 n13 c14).ownBlock.toList,(Value.slice A20 n21 c22).ownBlock.toList]) Xcq rfl rfl h11 hb32) gn hns rfl<|wfv 13 rfl (Z4 (St w [[g2],(Value.slice A12 n13 c14).ownBlock.toList,(Value.slice A20 n21 c22).ownBlock.toList]) Xkr rfl hr132 rfl (me 1 rfl)) gn hns rfl ?_
 refine Cm [14,15] (by kernel_rfl) rfl ⟨?_,?_,trivial⟩
 ·refine Eo 14 rfl gn rfl (He [.string (⟨#[]⟩ : ByteArray), .bool false, .string (⟨#[]⟩ : ByteArray), .string (⟨#[]⟩ : ByteArray), .int .i64 0] Xjx rfl fun gb135 => ?_)
  refine ⟨Bg [1,2,3,4] rfl,Bg [0,1] rfl,?_⟩
  refine Cm [15] (by kernel_rfl) rfl ⟨Eo 15 rfl gn rfl (He [.string (⟨#[]⟩:ByteArray),.bool false,.string (⟨#[]⟩:ByteArray),.int .i64 0,.int .i64 0,.int .i64 0,.int .i64 0] zr_56 rfl fun gb137=>?_),trivial⟩
  refine ⟨Bg [2,3,4,5] rfl,Bg [0,1] rfl,?_⟩
  refine Cm [16] (by kernel_rfl) rfl ⟨Eo 16 rfl gn rfl (Gl (vs:=[.string ((ix x1.nodes x26).name),.bool ((ix x1.nodes x26).lit),.string ((ix x1.nodes x26).field),.string ((ix x1.nodes x26).capture),.int .i64 ((ix x1.nodes x26).kids)]) (cs':=[.string ((ix x1.nodes x26).name),.bool ((ix x1.nodes x26).lit),.string ((ix x1.nodes x26).field),.string ((ix x1.nodes x26).capture),.int .i64 ((ix x1.nodes x26).kids)]) (M':=[.box gb137 56 [.string (⟨#[]⟩:ByteArray),.bool false,.string (⟨#[]⟩:ByteArray),.int .i64 0,.int .i64 0,.int .i64 0,.int .i64 0],.box gb135 45 [.string ((ix x1.nodes x26).name),.bool ((ix x1.nodes x26).lit),.string ((ix x1.nodes x26).field),.string ((ix x1.nodes x26).capture),.int .i64 ((ix x1.nodes x26).kids)],.box gb28 66 [.pointer (some ⟨g2,0,none⟩)],.box g2 Tb3 [.slice A4 n5 c6,.slice A8 n9 c10,.slice A12 n13 c14,.slice A20 n21 c22],.own (.slice A12 n13 c14) 36 1 n13 cs18,.own (.slice A20 n21 c22) 4 1 n21 (x1.known.flatMap eB)]) 1 Xgn rfl rfl rfl rfl rfl rfl rfl rfl rfl ?_),trivial⟩
  refine ⟨Bg [2,3,4,5] rfl,Bg [0,1] rfl,?_⟩
  refine Cm [17] (by kernel_rfl) rfl ⟨Eo 17 rfl gn rfl (Gl (vs:=[.string ((ix x1.tree x27).name),.bool ((ix x1.tree x27).named),.string ((ix x1.tree x27).field),.int .i64 ((ix x1.tree x27).from_),.int .i64 ((ix x1.tree x27).to),.int .i64 ((ix x1.tree x27).kids),.int .i64 ((ix x1.tree x27).leaf)]) (cs':=[.string ((ix x1.tree x27).name),.bool ((ix x1.tree x27).named),.string ((ix x1.tree x27).field),.int .i64 ((ix x1.tree x27).from_),.int .i64 ((ix x1.tree x27).to),.int .i64 ((ix x1.tree x27).kids),.int .i64 ((ix x1.tree x27).leaf)]) (M':=[.box gb137 56 [.string ((ix x1.tree x27).name),.bool ((ix x1.tree x27).named),.string ((ix x1.tree x27).field),.int .i64 ((ix x1.tree x27).from_),.int .i64 ((ix x1.tree x27).to),.int .i64 ((ix x1.tree x27).kids),.int .i64 ((ix x1.tree x27).leaf)],.box gb135 45 [.string ((ix x1.nodes x26).name),.bool ((ix x1.nodes x26).lit),.string ((ix x1.nodes x26).field),.string ((ix x1.nodes x26).capture),.int .i64 ((ix x1.nodes x26).kids)],.box gb28 66 [.pointer (some ⟨g2,0,none⟩)],.box g2 Tb3 [.slice A4 n5 c6,.slice A8 n9 c10,.slice A12 n13 c14,.slice A20 n21 c22],.own (.slice A12 n13 c14) 36 1 n13 cs18,.own (.slice A20 n21 c22) 4 1 n21 (x1.known.flatMap eB)]) 0 sz_56 rfl rfl rfl rfl rfl rfl rfl rfl rfl ?_),trivial⟩
  refine ⟨Bg [2,3,4,5] rfl,Bg [0,1] rfl,?_⟩
  refine Dz (by kernel_rfl) ?_
  exact D8 [0,1] (d1 gb137 gb135) ⟨rfl,rfl,rfl,rfl,rfl,trivial⟩ (.cons_cons _ (.cons_cons _ (.cons_cons _ (.cons_cons _ (.cons_cons _ (.cons_cons _ (.slnil))))))) rfl
 ·refine Eo 15 rfl gn rfl (He [.string (⟨#[]⟩ : ByteArray), .bool false, .string (⟨#[]⟩ : ByteArray), .int .i64 0, .int .i64 0, .int .i64 0, .int .i64 0] zr_56 rfl fun gb138 => ?_)
  refine ⟨Bg [1,2,3,4] rfl,Bg [0,1] rfl,?_⟩
  refine Cm [14] (by kernel_rfl) rfl ⟨Eo 14 rfl gn rfl (He [.string (⟨#[]⟩:ByteArray),.bool false,.string (⟨#[]⟩:ByteArray),.string (⟨#[]⟩:ByteArray),.int .i64 0] Xjx rfl fun gb140=>?_),trivial⟩
  refine ⟨Bg [2,3,4,5] rfl,Bg [0,1] rfl,?_⟩
  refine Cm [16] (by kernel_rfl) rfl ⟨Eo 16 rfl gn rfl (Gl (vs:=[.string ((ix x1.nodes x26).name),.bool ((ix x1.nodes x26).lit),.string ((ix x1.nodes x26).field),.string ((ix x1.nodes x26).capture),.int .i64 ((ix x1.nodes x26).kids)]) (cs':=[.string ((ix x1.nodes x26).name),.bool ((ix x1.nodes x26).lit),.string ((ix x1.nodes x26).field),.string ((ix x1.nodes x26).capture),.int .i64 ((ix x1.nodes x26).kids)]) (M':=[.box gb140 45 [.string ((ix x1.nodes x26).name),.bool ((ix x1.nodes x26).lit),.string ((ix x1.nodes x26).field),.string ((ix x1.nodes x26).capture),.int .i64 ((ix x1.nodes x26).kids)],.box gb138 56 [.string (⟨#[]⟩:ByteArray),.bool false,.string (⟨#[]⟩:ByteArray),.int .i64 0,.int .i64 0,.int .i64 0,.int .i64 0],.box gb28 66 [.pointer (some ⟨g2,0,none⟩)],.box g2 Tb3 [.slice A4 n5 c6,.slice A8 n9 c10,.slice A12 n13 c14,.slice A20 n21 c22],.own (.slice A12 n13 c14) 36 1 n13 cs18,.own (.slice A20 n21 c22) 4 1 n21 (x1.known.flatMap eB)]) 0 Xgn rfl rfl rfl rfl rfl rfl rfl rfl rfl ?_),trivial⟩
  refine ⟨Bg [2,3,4,5] rfl,Bg [0,1] rfl,?_⟩
  refine Cm [17] (by kernel_rfl) rfl ⟨Eo 17 rfl gn rfl (Gl (vs:=[.string ((ix x1.tree x27).name),.bool ((ix x1.tree x27).named),.string ((ix x1.tree x27).field),.int .i64 ((ix x1.tree x27).from_),.int .i64 ((ix x1.tree x27).to),.int .i64 ((ix x1.tree x27).kids),.int .i64 ((ix x1.tree x27).leaf)]) (cs':=[.string ((ix x1.tree x27).name),.bool ((ix x1.tree x27).named),.string ((ix x1.tree x27).field),.int .i64 ((ix x1.tree x27).from_),.int .i64 ((ix x1.tree x27).to),.int .i64 ((ix x1.tree x27).kids),.int .i64 ((ix x1.tree x27).leaf)]) (M':=[.box gb140 45 [.string ((ix x1.nodes x26).name),.bool ((ix x1.nodes x26).lit),.string ((ix x1.nodes x26).field),.string ((ix x1.nodes x26).capture),.int .i64 ((ix x1.nodes x26).kids)],.box gb138 56 [.string ((ix x1.tree x27).name),.bool ((ix x1.tree x27).named),.string ((ix x1.tree x27).field),.int .i64 ((ix x1.tree x27).from_),.int .i64 ((ix x1.tree x27).to),.int .i64 ((ix x1.tree x27).kids),.int .i64 ((ix x1.tree x27).leaf)],.box gb28 66 [.pointer (some ⟨g2,0,none⟩)],.box g2 Tb3 [.slice A4 n5 c6,.slice A8 n9 c10,.slice A12 n13 c14,.slice A20 n21 c22],.own (.slice A12 n13 c14) 36 1 n13 cs18,.own (.slice A20 n21 c22) 4 1 n21 (x1.known.flatMap eB)]) 1 sz_56 rfl rfl rfl rfl rfl rfl rfl rfl rfl ?_),trivial⟩
  refine ⟨Bg [2,3,4,5] rfl,Bg [0,1] rfl,?_⟩
  refine Dz (by kernel_rfl)<|Ba 5 rfl<|Ba 5 rfl<|Ba 5 rfl<|Ba 5 rfl<|Ba 4 rfl<|Ba 5 rfl ?_
  exact D8 [0,1] (d1 gb138 gb140) ⟨rfl,rfl,rfl,rfl,rfl,trivial⟩ (.cons_cons _ (.cons_cons _ (.cons_cons _ (.cons_cons _ (.cons_cons _ (.cons_cons _ (.slnil))))))) rfl
theorem U5:∀ n,Mc (Dl n)∧Oa (I8 n)
 | 0=>⟨fun w F x1 x8 x9 x10 x19 z6 A2 n3 c4 A11 n12 c13 g15 Tb16 g17 Tb18 g20 Tb21 A22 n23 c24 A26 n27 c28 z34 A30 n31 c32 cs36 z42 A38 n39 c40 hz7 h5 h14 h25 h29 hz35 h33 hC37 hz43 h41 hF hL0 r h=>h.elim,fun w F x1 x26 x27 g2 Tb3 A4 n5 c6 A8 n9 c10 z16 A12 n13 c14 cs18 z24 A20 n21 c22 h7 h11 hz17 h15 hC19 hz25 h23 hF hL0 r h=>h.elim⟩
 | n + 1=>by
  have ih:=U5 n
  exact ⟨Yk _ _ ih.1 ih.2,Zt _ _ ih.1 ih.2⟩
theorem Zh (w:World) (F:Nat→Prop) (x1:Bf) (x26:Int) (x27:Int) (g2:Nat) (Tb3:Nat) (A4:Option Addr) (n5:Nat) (c6:Nat) (A8:Option Addr) (n9:Nat) (c10:Nat) (z16:Nat) (A12:Option Addr) (n13:Nat) (c14:Nat) (cs18:List Value) (z24:Nat) (A20:Option Addr) (n21:Nat) (c22:Nat) (h7:Rw Dn w (St w [[g2],(Value.slice A12 n13 c14).ownBlock.toList,(Value.slice A20 n21 c22).ownBlock.toList]).av A4 n5 c6 x1.nodes) (h11:Rw Ew w (St w [[g2],(Value.slice A12 n13 c14).ownBlock.toList,(Value.slice A20 n21 c22).ownBlock.toList]).av A8 n9 c10 x1.tree) (hz17:z16≤w.heap.size) (h15:Ow z16 A12 n13 c14 x1.of) (hC19:Cells (Kd.slice (Gq .i64)) w F x1.of cs18) (hz25:z24≤w.heap.size) (h23:Ow z24 A20 n21 c22 x1.known) (hF:∀ b,F b→b < w.heap.size∧∀ o ∈ ([[g2],(Value.slice A12 n13 c14).ownBlock.toList,(Value.slice A20 n21 c22).ownBlock.toList]:List (List Nat)),b ∉ o) (hL0:B.Loc w w [.box g2 Tb3 [.slice A4 n5 c6,.slice A8 n9 c10,.slice A12 n13 c14,.slice A20 n21 c22],.own (.slice A12 n13 c14) 36 1 n13 cs18,.own (.slice A20 n21 c22) 4 1 n21 (x1.known.flatMap eB)] [Sm w.heap.size F w [[g2],(Value.slice A12 n13 c14).ownBlock.toList,(Value.slice A20 n21 c22).ownBlock.toList],St w [[g2],(Value.slice A12 n13 c14).ownBlock.toList,(Value.slice A20 n21 c22).ownBlock.toList]]) (r:(List Int) × Bf) (h:Y9 x1 x26 x27 r):Calls Tryd.prog 40 #[.pointer (some ⟨g2,0,none⟩),.int .i64 x26,.int .i64 x27] w (Ll w F g2 Tb3 A12 n13 c14 z16 A20 n21 c22 z24 A4 n5 c6 A8 n9 c10 r):=by
 obtain ⟨n,h⟩:=h
 exact (U5 n).2 w F x1 x26 x27 g2 Tb3 A4 n5 c6 A8 n9 c10 z16 A12 n13 c14 cs18 z24 A20 n21 c22 h7 h11 hz17 h15 hC19 hz25 h23 hF hL0 r h
noncomputable abbrev q42c3:=Code.fst (Code.snd (Dt Tryd.f42))
abbrev Uh (w:World) (F:Nat→Prop) (r:ByteArray):Ending→World→Prop:=fun e w'=>e=.returned (.string r)∧B.Loc w w' [] [St w []]
noncomputable abbrev Xfd (w:World) (F:Nat→Prop) (r:ByteArray):Cx:=⟨Tryd.prog,42,Tryd.f42,22,Uh w F  r,w⟩
theorem Xc4 (w:World) (F:Nat→Prop) (x1:Az) (x2:ByteArray) (hF:∀ b,F b→b < w.heap.size∧∀ o ∈ ([]:List (List Nat)),b ∉ o) (hL0:B.Loc w w [] [Sm w.heap.size F w [],St w []]) (r:ByteArray) (h:U4 x1 x2 r):Calls Tryd.prog 42 #[.agg #[.string x1.name,.bool x1.named,.string x1.field,.int .i64 x1.from_,.int .i64 x1.to,.int .i64 x1.kids,.int .i64 x1.leaf],.string x2] w (Uh w F  r):=by
 unfold U4 at h
 refine Cc (vs:=[.agg #[.string x1.name,.bool x1.named,.string x1.field,.int .i64 x1.from_,.int .i64 x1.to,.int .i64 x1.kids,.int .i64 x1.leaf],.string x2]) 22 Tryd.func42 rfl Tryd.ntmps42 rfl hL0 ?_
 show G (Xfd w F r) _ _ _ _
 refine Ah rfl<|Ac rfl rfl ?_
 refine Ci 0 rfl (Tu [.string x1.name,.bool x1.named,.string x1.field,.int .i64 x1.from_,.int .i64 x1.to,.int .i64 x1.kids,.int .i64 x1.leaf] rfl rfl rfl fun gb3=>?_) gn
 refine Aa 1 rfl (Af rfl) gn rfl<|Aj 2 rfl<|Ah rfl ?_
 have hns:Region.noSelect (Code.ops q42c3)=true:=by kernel_rfl
 refine Fh [] 10 rfl rfl mix rfl (.c 0 rfl (.c 1 rfl .n))<|wfv 0 rfl (Aw Xm9 rfl) gn hns rfl<|wfv 1 rfl (Aq 0 H5 rfl rfl rfl) gn hns rfl<|wfv 2 rfl (v_max rfl rfl) gn hns rfl<|wfv 3 rfl (Aw Xm4 rfl) gn hns rfl<|wfv 4 rfl (Aq 0 H5 rfl rfl rfl) gn hns rfl<|wfv 5 rfl (Ad rfl) gn hns rfl<|wfv 6 rfl (Pz Lp rfl) gn hns rfl<|wfv 7 rfl (v_min rfl rfl) gn hns rfl<|wfv 8 rfl (Af rfl) gn hns rfl<|wfv 9 rfl (Af rfl) gn hns rfl<|Dz (by kernel_rfl) ?_
 refine Ah rfl<|Ah rfl<|Ac rfl rfl<|Aa 0 rfl (Ad rfl) gn rfl<|Aa 1 rfl (Ad rfl) gn rfl<|Aa 2 rfl (Be rfl rfl rfl) gn rfl<|Aj 3 rfl ?_
 by_cases hp5:max x1.from_ 0≥min x1.to (x2.size:Int)
 ·have h:=Ap hp5 h
  refine Bv rfl _ rfl ((decide_eq_true hp5))<|Ah rfl<|Ac rfl rfl<|Aa 0 rfl (Af rfl) gn rfl<|Aj 1 rfl ?_
  refine Bq [.string (⟨#[]⟩:ByteArray)] rfl Tryd.func42 rfl (.tmp rfl (.nil)) fun wr hLr=>?_
  have hMr:=hLr.pk0 (.c 1 rfl .n)
  show Uh w F  r (.returned (Ce [.string (⟨#[]⟩:ByteArray)])) wr
  rw [h]
  exact ⟨rfl,hMr⟩
 ·have h:=Am hp5 h
  refine Bi rfl _ rfl ((decide_eq_false hp5))<|C9 rfl<|Ah rfl<|Ac rfl rfl<|Aa 0 rfl (Ad rfl) gn rfl<|Aa 1 rfl (Ad rfl) gn rfl<|Aa 2 rfl (Ad rfl) gn rfl ?_
  obtain ⟨hb6,h⟩:=h
  refine Aa 3 rfl (Xh2 (max x1.from_ 0) (min x1.to (x2.size:Int)) Lp rfl (.inr ⟨_,_,rfl,rfl⟩) (.inr ⟨_,_,rfl,rfl⟩) ⟨hb6.1,hb6.2.1⟩ hb6.2.2) gn rfl<|Aa 4 rfl (Af rfl) gn rfl<|Aj 5 rfl ?_
  refine Bq [.string (x2.extract (max x1.from_ 0:Int).toNat (min x1.to (x2.size:Int):Int).toNat)] rfl Tryd.func42 rfl (.tmp rfl (.nil)) fun wr hLr=>?_
  have hMr:=hLr.pk0 (.c 1 rfl .n)
  show Uh w F  r (.returned (Ce [.string (x2.extract (max x1.from_ 0:Int).toNat (min x1.to (x2.size:Int):Int).toNat)])) wr
  rw [h]
  exact ⟨rfl,hMr⟩
noncomputable abbrev q41c3:=Code.fst (Code.snd (Dt Tryd.f41))
abbrev Zg (w:World) (F:Nat→Prop) (g3:Nat) (g10:Nat) (g17:Nat) (g28:Nat) (Tb4:Nat) (Tb11:Nat) (Tb18:Nat) (Tb29:Nat) (A5:Option Addr) (n6:Nat) (c7:Nat) (A12:Option Addr) (n13:Nat) (c14:Nat) (A19:Option Addr) (n20:Nat) (c21:Nat) (A23:Option Addr) (n24:Nat) (c25:Nat) (r:ByteArray × (List Az) × (List Int) × Ar × ByteArray):Ending→World→Prop:=fun e w'=>e=.returned (.string r.1)∧B.Loc w w' [.box g3 Tb4 [.slice A5 n6 c7],.box g10 Tb11 [.slice A12 n13 c14],.box g17 Tb18 [.slice A19 n20 c21,.slice A23 n24 c25],.box g28 Tb29 [.string r.2.2.2.2]] [St w [[g3],[g10],[g17],[g28]]]
noncomputable abbrev Xhc (w:World) (F:Nat→Prop) (g3:Nat) (g10:Nat) (g17:Nat) (g28:Nat) (Tb4:Nat) (Tb11:Nat) (Tb18:Nat) (Tb29:Nat) (A5:Option Addr) (n6:Nat) (c7:Nat) (A12:Option Addr) (n13:Nat) (c14:Nat) (A19:Option Addr) (n20:Nat) (c21:Nat) (A23:Option Addr) (n24:Nat) (c25:Nat) (r:ByteArray × (List Az) × (List Int) × Ar × ByteArray):Cx:=⟨Tryd.prog,41,Tryd.f41,18,Zg w F g3 g10 g17 g28 Tb4 Tb11 Tb18 Tb29 A5 n6 c7 A12 n13 c14 A19 n20 c21 A23 n24 c25 r,w⟩
theorem Ve (w:World) (F:Nat→Prop) (x1:ByteArray) (x2:List Az) (x9:List Int) (x16:Ar) (x27:ByteArray) (g3:Nat) (Tb4:Nat) (A5:Option Addr) (n6:Nat) (c7:Nat) (g10:Nat) (Tb11:Nat) (A12:Option Addr) (n13:Nat) (c14:Nat) (g17:Nat) (Tb18:Nat) (A19:Option Addr) (n20:Nat) (c21:Nat) (A23:Option Addr) (n24:Nat) (c25:Nat) (g28:Nat) (Tb29:Nat) (h8:Rw Ew w (St w [[g3],[g10],[g17],[g28]]).av A5 n6 c7 x2) (h15:Rw (Gq .i64) w (St w [[g3],[g10],[g17],[g28]]).av A12 n13 c14 x9) (h22:Rw Dn w (St w [[g3],[g10],[g17],[g28]]).av A19 n20 c21 x16.nodes) (h26:Rw Fv w (St w [[g3],[g10],[g17],[g28]]).av A23 n24 c25 x16.conds) (hF:∀ b,F b→b < w.heap.size∧∀ o ∈ ([[g3],[g10],[g17],[g28]]:List (List Nat)),b ∉ o) (hL0:B.Loc w w [.box g3 Tb4 [.slice A5 n6 c7],.box g10 Tb11 [.slice A12 n13 c14],.box g17 Tb18 [.slice A19 n20 c21,.slice A23 n24 c25],.box g28 Tb29 [.string x27]] [Sm w.heap.size F w [[g3],[g10],[g17],[g28]],St w [[g3],[g10],[g17],[g28]]]) (r:ByteArray × (List Az) × (List Int) × Ar × ByteArray) (h:Uy x1 x2 x9 x16 x27 r):Calls Tryd.prog 41 #[.string x1,.pointer (some ⟨g3,0,none⟩),.pointer (some ⟨g10,0,none⟩),.pointer (some ⟨g17,0,none⟩),.pointer (some ⟨g28,0,none⟩)] w (Zg w F g3 g10 g17 g28 Tb4 Tb11 Tb18 Tb29 A5 n6 c7 A12 n13 c14 A19 n20 c21 A23 n24 c25 r):=by
 unfold Uy at h
 refine Cc (vs:=[.string x1,.pointer (some ⟨g3,0,none⟩),.pointer (some ⟨g10,0,none⟩),.pointer (some ⟨g17,0,none⟩),.pointer (some ⟨g28,0,none⟩)]) 18 Tryd.func41 rfl Tryd.ntmps41 rfl hL0 ?_
 show G (Xhc w F g3 g10 g17 g28 Tb4 Tb11 Tb18 Tb29 A5 n6 c7 A12 n13 c14 A19 n20 c21 A23 n24 c25 r) _ _ _ _
 refine Ah rfl<|Ac rfl rfl<|Aa 0 rfl (Af rfl) gn rfl<|Aj 1 rfl<|Ah rfl ?_
 obtain ⟨r33,hv34,h⟩:=h
 obtain ⟨hb38,h⟩:=h
 obtain ⟨hb40,h⟩:=h
 obtain ⟨r45,hv46,h⟩:=h
 have hns:Region.noSelect (Code.ops q41c3)=true:=by kernel_rfl
 refine Fh [] 12 rfl rfl mix rfl (.c 0 rfl (.c 1 rfl .n))<|wfv 0 rfl (Aq 0 Zz rfl rfl rfl) gn hns rfl<|wfv 1 rfl (Aq 1 Xq rfl rfl rfl) gn hns rfl<|wfv 2 rfl (O6 [.slice A19 n20 c21,.slice A23 n24 c25] 2 V5 rfl rfl rfl rfl) gn hns rfl<|wfv 3 rfl (Ad rfl) gn hns rfl<|wfv 9 rfl (Aq 3 H8 rfl rfl rfl) gn hns rfl ?_
 refine Cm [4] (by kernel_rfl) rfl ⟨Eo 4 rfl gn rfl (D7 [.agg #[.slice A19 n20 c21,.slice A23 n24 c25],.string x1] rfl Tryd.func43 rfl rfl rfl fun w94 hL95=>?_),trivial⟩
 have hp96:=pmI hL95 .n (.c 0 rfl (.c 1 rfl (.c 2 rfl (.c 3 rfl .n)))) (by kernel_rfl)
 refine Calls.mono (J9 w94 (Fl ([]:List Cb)) x16 x1 A19 n20 c21 A23 n24 c25 (Rw.mono h22 (hL95.toSt hp96 (me 1 rfl))) (Rw.mono h26 (hL95.toSt hp96 (me 1 rfl))) (hL95.hFl hp96 (Bg [] rfl)) (hL95.into hp96 _) r33 hv34) ?_
 rintro _ w97 ⟨rfl,hM98⟩
 have hL99:=hL95.call hp96 hM98
 refine ⟨_,_,_,rfl,hL99,?_⟩
 refine ⟨Bg [0,1,2,3] rfl,Bg [0,1] rfl,?_⟩
 have hr100:=Rw.readF (s:=St w [[g3],[g10],[g17],[g28]]) (hl:=(hlI .i64)) (h1:=(F9 .i64)) h15 hb38
 refine wfv 5 rfl (Fb (s:=St w [[g3],[g10],[g17],[g28]]) L8 rfl rfl h15 hb38) gn hns rfl<|wfv 6 rfl (Ie (kk:=(r33:Int).toNat * 1) (j:=0) (St w [[g3],[g10],[g17],[g28]]) H5 rfl hr100 rfl (me 1 rfl)) gn hns rfl ?_
 have hr101:=Rw.readF (s:=St w [[g3],[g10],[g17],[g28]]) (hl:=Qc) (h1:=Q7) h8 hb40
 refine wfv 7 rfl (Fb (s:=St w [[g3],[g10],[g17],[g28]]) Xcq rfl rfl h8 hb40) gn hns rfl<|wfv 8 rfl (Z4 (St w [[g3],[g10],[g17],[g28]]) Xkr rfl hr101 rfl (me 1 rfl)) gn hns rfl ?_
 refine Cm [10] (by kernel_rfl) rfl ⟨Eo 10 rfl gn rfl (D7 [.agg #[.string ((ix x2 (ix x9 r33)).name),.bool ((ix x2 (ix x9 r33)).named),.string ((ix x2 (ix x9 r33)).field),.int .i64 ((ix x2 (ix x9 r33)).from_),.int .i64 ((ix x2 (ix x9 r33)).to),.int .i64 ((ix x2 (ix x9 r33)).kids),.int .i64 ((ix x2 (ix x9 r33)).leaf)],.string x27] rfl Tryd.func42 rfl rfl rfl fun w108 hL109=>?_),trivial⟩
 have hp110:=pmI hL109 .n (.c 0 rfl (.c 1 rfl (.c 2 rfl (.c 3 rfl .n)))) (by kernel_rfl)
 refine Calls.mono (Xc4 w108 (Fl ([]:List Cb)) (ix x2 (ix x9 r33)) x27 (hL109.hFl hp110 (Bg [] rfl)) (hL109.into hp110 _) r45 hv46) ?_
 rintro _ w111 ⟨rfl,hM112⟩
 have hL113:=hL109.call hp110 hM112
 refine ⟨_,_,_,rfl,hL113,?_⟩
 refine ⟨Bg [0,1,2,3] rfl,Bg [0,1] rfl,?_⟩
 refine wfv 11 rfl (Af rfl) gn hns rfl<|Dz (by kernel_rfl) ?_
 refine Bq [.string r45] rfl Tryd.func41 rfl (.tmp rfl (.nil)) fun wr hLr=>?_
 have hMr:=hLr.pkI (.c 0 rfl (.c 1 rfl (.c 2 rfl (.c 3 rfl .n)))) .n (by kernel_rfl) (.c 1 rfl .n)
 show Zg w F g3 g10 g17 g28 Tb4 Tb11 Tb18 Tb29 A5 n6 c7 A12 n13 c14 A19 n20 c21 A23 n24 c25 r (.returned (Ce [.string r45])) wr
 rw [h]
 exact ⟨rfl,hMr⟩
noncomputable abbrev q45c11:=Code.fst (Code.snd (Code.snd (Code.snd (Dt Tryd.f45))))
abbrev Wx (w:World) (F:Nat→Prop) (g2:Nat) (g5:Nat) (g12:Nat) (g19:Nat) (g30:Nat) (Tb3:Nat) (Tb6:Nat) (Tb13:Nat) (Tb20:Nat) (Tb31:Nat) (A7:Option Addr) (n8:Nat) (c9:Nat) (A14:Option Addr) (n15:Nat) (c16:Nat) (A21:Option Addr) (n22:Nat) (c23:Nat) (A25:Option Addr) (n26:Nat) (c27:Nat) (r:Bool × (List Az) × (List Int) × Ar × ByteArray):Ending→World→Prop:=fun e w'=>e=.returned (.bool r.1)∧B.Loc w w' [.box g2 Tb3 [.func (.func 41) #[] #[.pointer (some ⟨g5,0,none⟩),.pointer (some ⟨g12,0,none⟩),.pointer (some ⟨g19,0,none⟩),.pointer (some ⟨g30,0,none⟩)]],.box g5 Tb6 [.slice A7 n8 c9],.box g12 Tb13 [.slice A14 n15 c16],.box g19 Tb20 [.slice A21 n22 c23,.slice A25 n26 c27],.box g30 Tb31 [.string r.2.2.2.2]] [St w [[g2],[g5],[g12],[g19],[g30]]]
noncomputable abbrev Xhe (w:World) (F:Nat→Prop) (g2:Nat) (g5:Nat) (g12:Nat) (g19:Nat) (g30:Nat) (Tb3:Nat) (Tb6:Nat) (Tb13:Nat) (Tb20:Nat) (Tb31:Nat) (A7:Option Addr) (n8:Nat) (c9:Nat) (A14:Option Addr) (n15:Nat) (c16:Nat) (A21:Option Addr) (n22:Nat) (c23:Nat) (A25:Option Addr) (n26:Nat) (c27:Nat) (r:Bool × (List Az) × (List Int) × Ar × ByteArray):Cx:=⟨Tryd.prog,45,Tryd.f45,23,Wx w F g2 g5 g12 g19 g30 Tb3 Tb6 Tb13 Tb20 Tb31 A7 n8 c9 A14 n15 c16 A21 n22 c23 A25 n26 c27 r,w⟩
theorem Xdk (w:World) (F:Nat→Prop) (x1:Bh) (x4:List Az) (x11:List Int) (x18:Ar) (x29:ByteArray) (g2:Nat) (Tb3:Nat) (g5:Nat) (Tb6:Nat) (A7:Option Addr) (n8:Nat) (c9:Nat) (g12:Nat) (Tb13:Nat) (A14:Option Addr) (n15:Nat) (c16:Nat) (g19:Nat) (Tb20:Nat) (A21:Option Addr) (n22:Nat) (c23:Nat) (A25:Option Addr) (n26:Nat) (c27:Nat) (g30:Nat) (Tb31:Nat) (h10:Rw Ew w (St w [[g2],[g5],[g12],[g19],[g30]]).av A7 n8 c9 x4) (h17:Rw (Gq .i64) w (St w [[g2],[g5],[g12],[g19],[g30]]).av A14 n15 c16 x11) (h24:Rw Dn w (St w [[g2],[g5],[g12],[g19],[g30]]).av A21 n22 c23 x18.nodes) (h28:Rw Fv w (St w [[g2],[g5],[g12],[g19],[g30]]).av A25 n26 c27 x18.conds) (hF:∀ b,F b→b < w.heap.size∧∀ o ∈ ([[g2],[g5],[g12],[g19],[g30]]:List (List Nat)),b ∉ o) (hL0:B.Loc w w [.box g2 Tb3 [.func (.func 41) #[] #[.pointer (some ⟨g5,0,none⟩),.pointer (some ⟨g12,0,none⟩),.pointer (some ⟨g19,0,none⟩),.pointer (some ⟨g30,0,none⟩)]],.box g5 Tb6 [.slice A7 n8 c9],.box g12 Tb13 [.slice A14 n15 c16],.box g19 Tb20 [.slice A21 n22 c23,.slice A25 n26 c27],.box g30 Tb31 [.string x29]] [Sm w.heap.size F w [[g2],[g5],[g12],[g19],[g30]],St w [[g2],[g5],[g12],[g19],[g30]]]) (r:Bool × (List Az) × (List Int) × Ar × ByteArray) (h:Xe x1 x4 x11 x18 x29 r):Calls Tryd.prog 45 #[.agg #[.bool x1.not,.string x1.a,.string x1.b,.string x1.text],.pointer (some ⟨g2,0,none⟩)] w (Wx w F g2 g5 g12 g19 g30 Tb3 Tb6 Tb13 Tb20 Tb31 A7 n8 c9 A14 n15 c16 A21 n22 c23 A25 n26 c27 r):=by
 unfold Xe at h
 refine Cc (vs:=[.agg #[.bool x1.not,.string x1.a,.string x1.b,.string x1.text],.pointer (some ⟨g2,0,none⟩)]) 23 Tryd.func45 rfl Tryd.ntmps45 rfl hL0 ?_
 show G (Xhe w F g2 g5 g12 g19 g30 Tb3 Tb6 Tb13 Tb20 Tb31 A7 n8 c9 A14 n15 c16 A21 n22 c23 A25 n26 c27 r) _ _ _ _
 refine Ah rfl<|Ac rfl rfl ?_
 refine Ci 0 rfl (Tu [.bool x1.not,.string x1.a,.string x1.b,.string x1.text] rfl rfl rfl fun gb32=>?_) gn
 refine Aa 1 rfl (Af rfl) gn rfl<|Aj 2 rfl<|Ah rfl<|Ac rfl rfl<|Aa 0 rfl (Aw Xdd rfl) gn rfl<|Aa 1 rfl (Aq 0 H8 rfl rfl rfl) gn rfl<|Aa 2 rfl (Af rfl) gn rfl<|Aj 3 rfl<|Ah rfl<|Ah rfl<|Ac rfl rfl<|Aa 0 rfl (Aw X3 rfl) gn rfl ?_
 refine Aa 1 rfl (Aq 0 H8 rfl rfl rfl) gn rfl<|Aa 2 rfl (Rk rfl rfl) gn rfl<|Aj 3 rfl ?_
 by_cases hp34:x1.b=(⟨#[]⟩:ByteArray)
 ·have h:=Ap hp34 h
  refine Bi rfl _ rfl ((nf (Oo hp34)))<|C9 rfl<|Ah rfl ?_
  obtain ⟨r38,hv39,h⟩:=h
  have hns:Region.noSelect (Code.ops q45c11)=true:=by kernel_rfl
  refine Vk [.box gb32 47 [.bool x1.not,.string x1.a,.string x1.b,.string x1.text],.box g2 Tb3 [.func (.func 41) #[] #[.pointer (some ⟨g5,0,none⟩),.pointer (some ⟨g12,0,none⟩),.pointer (some ⟨g19,0,none⟩),.pointer (some ⟨g30,0,none⟩)]]] [Sm w.heap.size F w [[g2],[g5],[g12],[g19],[g30]],St w [[g2],[g5],[g12],[g19],[g30]]] [] 10 rfl rfl mix rfl (.cons_cons _ (.cons_cons _ (.cons _ (.cons _ (.cons _ (.cons _ (.slnil))))))) (Bg [0,1] rfl)<|wfv 0 rfl (Aq 1 ld_72 rfl rfl rfl) gn hns rfl<|wfv 1 rfl (Aw Xbm rfl) gn hns rfl<|wfv 2 rfl (Aq 0 H8 rfl rfl rfl) gn hns rfl<|wfv 4 rfl (Ad rfl) gn hns rfl<|wfv 6 rfl (Aw Xda rfl) gn hns rfl<|wfv 7 rfl (Aq 0 Xc5 rfl rfl rfl) gn hns rfl ?_
  refine Cm [3] (by kernel_rfl) rfl ⟨Eo 3 rfl gn rfl (Ir [.string x1.a] [.pointer (some ⟨g5,0,none⟩),.pointer (some ⟨g12,0,none⟩),.pointer (some ⟨g19,0,none⟩),.pointer (some ⟨g30,0,none⟩)] rfl rfl Tryd.func41 rfl rfl rfl fun w98 hL99=>?_),trivial⟩
  have hp100:=pmI hL99 (.c 2 rfl (.c 3 rfl (.c 4 rfl (.c 5 rfl .n)))) (.c 0 rfl (.c 1 rfl .n)) (by kernel_rfl)
  refine Calls.mono (Ve w98 (Fl ([]:List Cb)) x1.a x4 x11 x18 x29 g5 Tb6 A7 n8 c9 g12 Tb13 A14 n15 c16 g19 Tb20 A21 n22 c23 A25 n26 c27 g30 Tb31 (Rw.mono h10 (hL99.toSt hp100 (me 1 rfl))) (Rw.mono h17 (hL99.toSt hp100 (me 1 rfl))) (Rw.mono h24 (hL99.toSt hp100 (me 1 rfl))) (Rw.mono h28 (hL99.toSt hp100 (me 1 rfl))) (hL99.hFl hp100 (Bg [] rfl)) (hL99.into hp100 _) r38 hv39) ?_
  rintro _ w101 ⟨rfl,hM102⟩
  have hL103:=hL99.call hp100 hM102
  refine ⟨_,_,_,rfl,hL103,?_⟩
  refine ⟨Bg [4,5] rfl,Bg [0,1] rfl,?_⟩
  refine wfv 5 rfl (Xo rfl rfl) gn hns rfl<|wfv 8 rfl (v_eqB un_4 rfl rfl) gn hns rfl<|wfv 9 rfl (Af rfl) gn hns rfl<|Dz (by kernel_rfl) ?_
  refine Bq [.bool ((seq r38.1 x1.text) == x1.not)] rfl Tryd.func45 rfl (.tmp rfl (.nil)) fun wr hLr=>?_
  have hMr:=hLr.pkI (.c 5 rfl (.c 0 rfl (.c 1 rfl (.c 2 rfl (.c 3 rfl .n))))) (.c 4 rfl .n) (by kernel_rfl) (.c 1 rfl .n)
  show Wx w F g2 g5 g12 g19 g30 Tb3 Tb6 Tb13 Tb20 Tb31 A7 n8 c9 A14 n15 c16 A21 n22 c23 A25 n26 c27 r (.returned (Ce [.bool ((seq r38.1 x1.text) == x1.not)])) wr
  rw [h]
  exact ⟨rfl,hMr⟩
 ·have h:=Am hp34 h
  refine Bv rfl _ rfl ((nt (Pj hp34)))<|Ac rfl rfl<|Aa 0 rfl (Aq 1 ld_72 rfl rfl rfl) gn rfl<|Aa 1 rfl (Aw X3 rfl) gn rfl<|Aa 2 rfl (Aq 0 H8 rfl rfl rfl) gn rfl ?_
  obtain ⟨r107,hv108,h⟩:=h
  refine Ci 3 rfl (Ir [.string x1.b] [.pointer (some ⟨g5,0,none⟩),.pointer (some ⟨g12,0,none⟩),.pointer (some ⟨g19,0,none⟩),.pointer (some ⟨g30,0,none⟩)] rfl rfl Tryd.func41 rfl rfl rfl fun w104 hL105=>?_) gn
  have hp106:=pmI hL105 (.c 2 rfl (.c 3 rfl (.c 4 rfl (.c 5 rfl .n)))) (.c 0 rfl (.c 1 rfl .n)) (by kernel_rfl)
  refine Calls.mono (Ve w104 (Fl ([]:List Cb)) x1.b x4 x11 x18 x29 g5 Tb6 A7 n8 c9 g12 Tb13 A14 n15 c16 g19 Tb20 A21 n22 c23 A25 n26 c27 g30 Tb31 (Rw.mono h10 (hL105.toSt hp106 (me 1 rfl))) (Rw.mono h17 (hL105.toSt hp106 (me 1 rfl))) (Rw.mono h24 (hL105.toSt hp106 (me 1 rfl))) (Rw.mono h28 (hL105.toSt hp106 (me 1 rfl))) (hL105.hFl hp106 (Bg [] rfl)) (hL105.into hp106 _) r107 hv108) ?_
  rintro _ w109 ⟨rfl,hM110⟩
  have hL111:=hL105.call hp106 hM110
  refine ⟨_,_,_,rfl,hL111,?_⟩
  refine Aa 4 rfl (Af rfl) gn rfl<|Aj 5 rfl<|Ah rfl ?_
  obtain ⟨r115,hv116,h⟩:=h
  have hns:Region.noSelect (Code.ops q45c11)=true:=by kernel_rfl
  refine Vk [.box gb32 47 [.bool x1.not,.string x1.a,.string x1.b,.string x1.text],.box g2 Tb3 [.func (.func 41) #[] #[.pointer (some ⟨g5,0,none⟩),.pointer (some ⟨g12,0,none⟩),.pointer (some ⟨g19,0,none⟩),.pointer (some ⟨g30,0,none⟩)]]] [Sm w.heap.size F w [[g2],[g5],[g12],[g19],[g30]],St w [[g2],[g5],[g12],[g19],[g30]]] [] 10 rfl rfl mix rfl (.cons _ (.cons _ (.cons _ (.cons _ (.cons_cons _ (.cons_cons _ (.slnil))))))) (Bg [0,1] rfl)<|wfv 0 rfl (Aq 1 ld_72 rfl rfl rfl) gn hns rfl<|wfv 1 rfl (Aw Xbm rfl) gn hns rfl<|wfv 2 rfl (Aq 0 H8 rfl rfl rfl) gn hns rfl<|wfv 4 rfl (Ad rfl) gn hns rfl<|wfv 6 rfl (Aw Xda rfl) gn hns rfl<|wfv 7 rfl (Aq 0 Xc5 rfl rfl rfl) gn hns rfl ?_
  refine Cm [3] (by kernel_rfl) rfl ⟨Eo 3 rfl gn rfl (Ir [.string x1.a] [.pointer (some ⟨g5,0,none⟩),.pointer (some ⟨g12,0,none⟩),.pointer (some ⟨g19,0,none⟩),.pointer (some ⟨g30,0,none⟩)] rfl rfl Tryd.func41 rfl rfl rfl fun w174 hL175=>?_),trivial⟩
  have hp176:=pmI hL175 (.c 0 rfl (.c 1 rfl (.c 2 rfl (.c 3 rfl .n)))) (.c 4 rfl (.c 5 rfl .n)) (by kernel_rfl)
  refine Calls.mono (Ve w174 (Fl ([]:List Cb)) x1.a x4 x11 x18 r107.2.2.2.2 g5 Tb6 A7 n8 c9 g12 Tb13 A14 n15 c16 g19 Tb20 A21 n22 c23 A25 n26 c27 g30 Tb31 (Rw.mono h10 (hL175.toSt hp176 (me 1 rfl))) (Rw.mono h17 (hL175.toSt hp176 (me 1 rfl))) (Rw.mono h24 (hL175.toSt hp176 (me 1 rfl))) (Rw.mono h28 (hL175.toSt hp176 (me 1 rfl))) (hL175.hFl hp176 (Bg [] rfl)) (hL175.into hp176 _) r115 hv116) ?_
  rintro _ w177 ⟨rfl,hM178⟩
  have hL179:=hL175.call hp176 hM178
  refine ⟨_,_,_,rfl,hL179,?_⟩
  refine ⟨Bg [4,5] rfl,Bg [0,1] rfl,?_⟩
  refine wfv 5 rfl (Xo rfl rfl) gn hns rfl<|wfv 8 rfl (v_eqB un_4 rfl rfl) gn hns rfl<|wfv 9 rfl (Af rfl) gn hns rfl<|Dz (by kernel_rfl) ?_
  refine Bq [.bool ((seq r115.1 r107.1) == x1.not)] rfl Tryd.func45 rfl (.tmp rfl (.nil)) fun wr hLr=>?_
  have hMr:=hLr.pkI (.c 5 rfl (.c 0 rfl (.c 1 rfl (.c 2 rfl (.c 3 rfl .n))))) (.c 4 rfl .n) (by kernel_rfl) (.c 1 rfl .n)
  show Wx w F g2 g5 g12 g19 g30 Tb3 Tb6 Tb13 Tb20 Tb31 A7 n8 c9 A14 n15 c16 A21 n22 c23 A25 n26 c27 r (.returned (Ce [.bool ((seq r115.1 r107.1) == x1.not)])) wr
  rw [h]
  exact ⟨rfl,hMr⟩
noncomputable abbrev q74c4:=Code.snd (Code.snd (Dt Tryd.f74))
noncomputable abbrev Xhx:=Code.fst (Code.fst (Code.snd (Code.fst (Code.snd (Dt Tryd.f74)))))
abbrev Gt (w:World) (F:Nat→Prop) (g6:Nat) (g9:Nat) (g16:Nat) (g23:Nat) (g34:Nat) (Tb7:Nat) (Tb10:Nat) (Tb17:Nat) (Tb24:Nat) (Tb35:Nat) (A11:Option Addr) (n12:Nat) (c13:Nat) (A18:Option Addr) (n19:Nat) (c20:Nat) (A25:Option Addr) (n26:Nat) (c27:Nat) (A29:Option Addr) (n30:Nat) (c31:Nat) (r:Int × (List Az) × (List Int) × Ar × ByteArray):Ending→World→Prop:=fun e w'=>e=.returned (.int .i64 r.1)∧B.Loc w w' [.box g6 Tb7 [.func (.func 41) #[] #[.pointer (some ⟨g9,0,none⟩),.pointer (some ⟨g16,0,none⟩),.pointer (some ⟨g23,0,none⟩),.pointer (some ⟨g34,0,none⟩)]],.box g9 Tb10 [.slice A11 n12 c13],.box g16 Tb17 [.slice A18 n19 c20],.box g23 Tb24 [.slice A25 n26 c27,.slice A29 n30 c31],.box g34 Tb35 [.string r.2.2.2.2]] [St w [[g6],[g9],[g16],[g23],[g34]]]
noncomputable abbrev Gv (w:World) (F:Nat→Prop) (g6:Nat) (g9:Nat) (g16:Nat) (g23:Nat) (g34:Nat) (Tb7:Nat) (Tb10:Nat) (Tb17:Nat) (Tb24:Nat) (Tb35:Nat) (A11:Option Addr) (n12:Nat) (c13:Nat) (A18:Option Addr) (n19:Nat) (c20:Nat) (A25:Option Addr) (n26:Nat) (c27:Nat) (A29:Option Addr) (n30:Nat) (c31:Nat) (r:Int × (List Az) × (List Int) × Ar × ByteArray):Cx:=⟨Tryd.prog,74,Tryd.f74,19,Gt w F g6 g9 g16 g23 g34 Tb7 Tb10 Tb17 Tb24 Tb35 A11 n12 c13 A18 n19 c20 A25 n26 c27 A29 n30 c31 r,w⟩
theorem Rh (w:World) (F:Nat→Prop) (x1:List Bh) (x8:List Az) (x15:List Int) (x22:Ar) (x33:ByteArray) (A2:Option Addr) (n3:Nat) (c4:Nat) (g6:Nat) (Tb7:Nat) (g9:Nat) (Tb10:Nat) (A11:Option Addr) (n12:Nat) (c13:Nat) (g16:Nat) (Tb17:Nat) (A18:Option Addr) (n19:Nat) (c20:Nat) (g23:Nat) (Tb24:Nat) (A25:Option Addr) (n26:Nat) (c27:Nat) (A29:Option Addr) (n30:Nat) (c31:Nat) (g34:Nat) (Tb35:Nat) (h5:Rw Fv w (St w [[g6],[g9],[g16],[g23],[g34]]).av A2 n3 c4 x1) (h14:Rw Ew w (St w [[g6],[g9],[g16],[g23],[g34]]).av A11 n12 c13 x8) (h21:Rw (Gq .i64) w (St w [[g6],[g9],[g16],[g23],[g34]]).av A18 n19 c20 x15) (h28:Rw Dn w (St w [[g6],[g9],[g16],[g23],[g34]]).av A25 n26 c27 x22.nodes) (h32:Rw Fv w (St w [[g6],[g9],[g16],[g23],[g34]]).av A29 n30 c31 x22.conds) (hF:∀ b,F b→b < w.heap.size∧∀ o ∈ ([[g6],[g9],[g16],[g23],[g34]]:List (List Nat)),b ∉ o) (hL0:B.Loc w w [.box g6 Tb7 [.func (.func 41) #[] #[.pointer (some ⟨g9,0,none⟩),.pointer (some ⟨g16,0,none⟩),.pointer (some ⟨g23,0,none⟩),.pointer (some ⟨g34,0,none⟩)]],.box g9 Tb10 [.slice A11 n12 c13],.box g16 Tb17 [.slice A18 n19 c20],.box g23 Tb24 [.slice A25 n26 c27,.slice A29 n30 c31],.box g34 Tb35 [.string x33]] [Sm w.heap.size F w [[g6],[g9],[g16],[g23],[g34]],St w [[g6],[g9],[g16],[g23],[g34]]]) (r:Int × (List Az) × (List Int) × Ar × ByteArray) (h:J8 x1 x8 x15 x22 x33 r):Calls Tryd.prog 74 #[.slice A2 n3 c4,.func (.func 45) #[] #[.pointer (some ⟨g6,0,none⟩)]] w (Gt w F g6 g9 g16 g23 g34 Tb7 Tb10 Tb17 Tb24 Tb35 A11 n12 c13 A18 n19 c20 A25 n26 c27 A29 n30 c31 r):=by
 unfold J8 at h
 refine Cc (vs:=[.slice A2 n3 c4,.func (.func 45) #[] #[.pointer (some ⟨g6,0,none⟩)]]) 19 Tryd.func74 rfl Tryd.ntmps74 rfl hL0 ?_
 show G (Gv w F g6 g9 g16 g23 g34 Tb7 Tb10 Tb17 Tb24 Tb35 A11 n12 c13 A18 n19 c20 A25 n26 c27 A29 n30 c31 r) _ _ _ _
 refine Ah rfl<|Ac rfl rfl<|Aa 0 rfl (Af rfl) gn rfl<|Aj 1 rfl<|Ah rfl<|Ah rfl<|Ac rfl rfl<|Aa 0 rfl (Ad rfl) gn rfl<|Aa 1 rfl (Di Xf1 rfl h5.hq) gn rfl<|Aa 2 rfl (Ad rfl) gn rfl<|Aj 3 rfl<|Dj rfl ?_
 refine Kw rfl ?_
 have key1:∀ s,Bl (fun (s:Int × ByteArray) o=>Dp x1 x8 x15 x22 s.1 s.2 o) s r→(fun (s:Int × ByteArray)=>∀ (_:Unit),G (Gv w F g6 g9 g16 g23 g34 Tb7 Tb10 Tb17 Tb24 Tb35 A11 n12 c13 A18 n19 c20 A25 n26 c27 A29 n30 c31 r) [.code Xhx,.inLoop Xhx,.inBlock 0,.code q74c4] [(0,.slice A2 n3 c4),(1,.func (.func 45) #[] #[.pointer (some ⟨g6,0,none⟩)]),(7,.int .i64 (x1.length:Int)),(8,.int .i64 s.1)] [.box g6 Tb7 [.func (.func 41) #[] #[.pointer (some ⟨g9,0,none⟩),.pointer (some ⟨g16,0,none⟩),.pointer (some ⟨g23,0,none⟩),.pointer (some ⟨g34,0,none⟩)]],.box g9 Tb10 [.slice A11 n12 c13],.box g16 Tb17 [.slice A18 n19 c20],.box g23 Tb24 [.slice A25 n26 c27,.slice A29 n30 c31],.box g34 Tb35 [.string s.2]] [Sm w.heap.size F w [[g6],[g9],[g16],[g23],[g34]],St w [[g6],[g9],[g16],[g23],[g34]]]) s:=by
  intro s hs
  refine Bl.ind (mot:=(fun (s:Int × ByteArray)=>∀ (_:Unit),G (Gv w F g6 g9 g16 g23 g34 Tb7 Tb10 Tb17 Tb24 Tb35 A11 n12 c13 A18 n19 c20 A25 n26 c27 A29 n30 c31 r) [.code Xhx,.inLoop Xhx,.inBlock 0,.code q74c4] [(0,.slice A2 n3 c4),(1,.func (.func 45) #[] #[.pointer (some ⟨g6,0,none⟩)]),(7,.int .i64 (x1.length:Int)),(8,.int .i64 s.1)] [.box g6 Tb7 [.func (.func 41) #[] #[.pointer (some ⟨g9,0,none⟩),.pointer (some ⟨g16,0,none⟩),.pointer (some ⟨g23,0,none⟩),.pointer (some ⟨g34,0,none⟩)]],.box g9 Tb10 [.slice A11 n12 c13],.box g16 Tb17 [.slice A18 n19 c20],.box g23 Tb24 [.slice A25 n26 c27,.slice A29 n30 c31],.box g34 Tb35 [.string s.2]] [Sm w.heap.size F w [[g6],[g9],[g16],[g23],[g34]],St w [[g6],[g9],[g16],[g23],[g34]]])) ?_ hs
  clear hs s
  intro s o1 h hO1
  obtain ⟨x49,x50⟩:=s
  show ∀ (_:Unit),G (Gv w F g6 g9 g16 g23 g34 Tb7 Tb10 Tb17 Tb24 Tb35 A11 n12 c13 A18 n19 c20 A25 n26 c27 A29 n30 c31 r) [.code Xhx,.inLoop Xhx,.inBlock 0,.code q74c4] [(0,.slice A2 n3 c4),(1,.func (.func 45) #[] #[.pointer (some ⟨g6,0,none⟩)]),(7,.int .i64 (x1.length:Int)),(8,.int .i64 x49)] [.box g6 Tb7 [.func (.func 41) #[] #[.pointer (some ⟨g9,0,none⟩),.pointer (some ⟨g16,0,none⟩),.pointer (some ⟨g23,0,none⟩),.pointer (some ⟨g34,0,none⟩)]],.box g9 Tb10 [.slice A11 n12 c13],.box g16 Tb17 [.slice A18 n19 c20],.box g23 Tb24 [.slice A25 n26 c27,.slice A29 n30 c31],.box g34 Tb35 [.string x50]] [Sm w.heap.size F w [[g6],[g9],[g16],[g23],[g34]],St w [[g6],[g9],[g16],[g23],[g34]]]
  intro _
  have h:Dp x1 x8 x15 x22 x49 x50 o1:=h
  unfold Dp at h
  refine Ah rfl<|Ac rfl rfl<|Aa 0 rfl (Be rfl rfl rfl) gn rfl<|Aj 1 rfl<|Ah rfl ?_
  by_cases hp63:x49 < (x1.length:Int)
  ·have h:=Ap hp63 h
   refine Bv rfl _ rfl ((decide_eq_true hp63))<|C9 rfl<|Ah rfl<|Dj rfl<|Ah rfl<|Ac rfl rfl<|Aa 0 rfl (Ad rfl) gn rfl<|Aa 1 rfl (Af rfl) gn rfl<|Aj 2 rfl<|Ah rfl<|Ac rfl rfl<|Aa 0 rfl (Ad rfl) gn rfl ?_
   refine Aa 1 rfl (Ad rfl) gn rfl<|Aa 2 rfl (Ad rfl) gn rfl ?_
   obtain ⟨hb64,h⟩:=h
   have hr65:=Rw.readF (s:=St w [[g6],[g9],[g16],[g23],[g34]]) (hl:=Q9) (h1:=Q8) h5 hb64
   refine Aa 3 rfl (Fb (s:=St w [[g6],[g9],[g16],[g23],[g34]]) Xiy rfl rfl h5 hb64) gn rfl<|Aa 4 rfl (Z4 (St w [[g6],[g9],[g16],[g23],[g34]]) Xgg rfl hr65 rfl (me 1 rfl)) gn rfl ?_
   obtain ⟨r69,hv70,h⟩:=h
   refine Ci 5 rfl (Ir [.agg #[.bool ((ix x1 x49).not),.string ((ix x1 x49).a),.string ((ix x1 x49).b),.string ((ix x1 x49).text)]] [.pointer (some ⟨g6,0,none⟩)] rfl rfl Tryd.func45 rfl rfl rfl fun w66 hL67=>?_) gn
   have hp68:=pmI hL67 (.c 0 rfl (.c 1 rfl (.c 2 rfl (.c 3 rfl (.c 4 rfl .n))))) .n (by kernel_rfl)
   refine Calls.mono (Xdk w66 (Fl ([]:List Cb)) (ix x1 x49) x8 x15 x22 x50 g6 Tb7 g9 Tb10 A11 n12 c13 g16 Tb17 A18 n19 c20 g23 Tb24 A25 n26 c27 A29 n30 c31 g34 Tb35 (Rw.mono h14 (hL67.toSt hp68 (me 1 rfl))) (Rw.mono h21 (hL67.toSt hp68 (me 1 rfl))) (Rw.mono h28 (hL67.toSt hp68 (me 1 rfl))) (Rw.mono h32 (hL67.toSt hp68 (me 1 rfl))) (hL67.hFl hp68 (Bg [] rfl)) (hL67.into hp68 _) r69 hv70) ?_
   rintro _ w71 ⟨rfl,hM72⟩
   have hL73:=hL67.call hp68 hM72
   refine ⟨_,_,_,rfl,hL73,?_⟩
   refine Aj 6 rfl ?_
   by_cases hp74:r69.1=true
   ·have h:=Ap hp74 h
    refine Bv rfl _ rfl (hp74)<|Ah rfl<|Ac rfl rfl<|Aa 0 rfl (Ad rfl) gn rfl<|Aa 1 rfl (Af rfl) gn rfl<|Aj 2 rfl ?_
    have h:=Out.inr hO1 h
    refine Bq [.int .i64 x49] rfl Tryd.func74 rfl (.tmp rfl (.nil)) fun wr hLr=>?_
    have hMr:=hLr.pkI (.c 0 rfl (.c 1 rfl (.c 2 rfl (.c 3 rfl (.c 4 rfl .n))))) .n (by kernel_rfl) (.c 1 rfl .n)
    show Gt w F g6 g9 g16 g23 g34 Tb7 Tb10 Tb17 Tb24 Tb35 A11 n12 c13 A18 n19 c20 A25 n26 c27 A29 n30 c31 r (.returned (Ce [.int .i64 x49])) wr
    rw [h]
    exact ⟨rfl,hMr⟩
   ·have h:=Am hp74 h
    refine Bi rfl _ rfl ((bf hp74))<|C9 rfl<|D9<|Ac rfl rfl<|Aa 0 rfl (Be rfl rfl rfl) gn rfl<|Aa 1 rfl (Ad rfl) gn rfl<|Aj 2 rfl<|Dx ?_
    have ih:=Out.inl hO1 h
    exact D8 [0,1] (ih ()) ⟨rfl,rfl,rfl,rfl,trivial⟩ (.cons_cons _ (.cons_cons _ (.cons_cons _ (.cons_cons _ (.cons_cons _ (.slnil)))))) rfl
  ·have h:=Am hp63 h
   refine Bi rfl _ rfl ((decide_eq_false hp63))<|Ii [.code q74c4] rfl rfl<|Ah rfl<|Ac rfl rfl<|Aa 0 rfl (Af rfl) gn rfl<|Aj 1 rfl ?_
   have h:=Out.inr hO1 h
   refine Bq [.int .i64 (-1)] rfl Tryd.func74 rfl (.tmp rfl (.nil)) fun wr hLr=>?_
   have hMr:=hLr.pkI (.c 0 rfl (.c 1 rfl (.c 2 rfl (.c 3 rfl (.c 4 rfl .n))))) .n (by kernel_rfl) (.c 1 rfl .n)
   show Gt w F g6 g9 g16 g23 g34 Tb7 Tb10 Tb17 Tb24 Tb35 A11 n12 c13 A18 n19 c20 A25 n26 c27 A29 n30 c31 r (.returned (Ce [.int .i64 (-1)])) wr
   rw [h]
   exact ⟨rfl,hMr⟩
 exact D8 [0,1] (key1 _ h ()) ⟨rfl,rfl,rfl,rfl,trivial⟩ (.cons_cons _ (.cons_cons _ (.cons_cons _ (.cons_cons _ (.cons_cons _ (.slnil)))))) rfl
abbrev Hw (w:World) (F:Nat→Prop) (g6:Nat) (g9:Nat) (g16:Nat) (g23:Nat) (g34:Nat) (Tb7:Nat) (Tb10:Nat) (Tb17:Nat) (Tb24:Nat) (Tb35:Nat) (A11:Option Addr) (n12:Nat) (c13:Nat) (A18:Option Addr) (n19:Nat) (c20:Nat) (A25:Option Addr) (n26:Nat) (c27:Nat) (A29:Option Addr) (n30:Nat) (c31:Nat) (r:Bool × (List Az) × (List Int) × Ar × ByteArray):Ending→World→Prop:=fun e w'=>e=.returned (.bool r.1)∧B.Loc w w' [.box g6 Tb7 [.func (.func 41) #[] #[.pointer (some ⟨g9,0,none⟩),.pointer (some ⟨g16,0,none⟩),.pointer (some ⟨g23,0,none⟩),.pointer (some ⟨g34,0,none⟩)]],.box g9 Tb10 [.slice A11 n12 c13],.box g16 Tb17 [.slice A18 n19 c20],.box g23 Tb24 [.slice A25 n26 c27,.slice A29 n30 c31],.box g34 Tb35 [.string r.2.2.2.2]] [St w [[g6],[g9],[g16],[g23],[g34]]]
noncomputable abbrev Ro (w:World) (F:Nat→Prop) (g6:Nat) (g9:Nat) (g16:Nat) (g23:Nat) (g34:Nat) (Tb7:Nat) (Tb10:Nat) (Tb17:Nat) (Tb24:Nat) (Tb35:Nat) (A11:Option Addr) (n12:Nat) (c13:Nat) (A18:Option Addr) (n19:Nat) (c20:Nat) (A25:Option Addr) (n26:Nat) (c27:Nat) (A29:Option Addr) (n30:Nat) (c31:Nat) (r:Bool × (List Az) × (List Int) × Ar × ByteArray):Cx:=⟨Tryd.prog,44,Tryd.f44,9,Hw w F g6 g9 g16 g23 g34 Tb7 Tb10 Tb17 Tb24 Tb35 A11 n12 c13 A18 n19 c20 A25 n26 c27 A29 n30 c31 r,w⟩
theorem Q4 (w:World) (F:Nat→Prop) (x1:List Bh) (x8:List Az) (x15:List Int) (x22:Ar) (x33:ByteArray) (A2:Option Addr) (n3:Nat) (c4:Nat) (g6:Nat) (Tb7:Nat) (g9:Nat) (Tb10:Nat) (A11:Option Addr) (n12:Nat) (c13:Nat) (g16:Nat) (Tb17:Nat) (A18:Option Addr) (n19:Nat) (c20:Nat) (g23:Nat) (Tb24:Nat) (A25:Option Addr) (n26:Nat) (c27:Nat) (A29:Option Addr) (n30:Nat) (c31:Nat) (g34:Nat) (Tb35:Nat) (h5:Rw Fv w (St w [[g6],[g9],[g16],[g23],[g34]]).av A2 n3 c4 x1) (h14:Rw Ew w (St w [[g6],[g9],[g16],[g23],[g34]]).av A11 n12 c13 x8) (h21:Rw (Gq .i64) w (St w [[g6],[g9],[g16],[g23],[g34]]).av A18 n19 c20 x15) (h28:Rw Dn w (St w [[g6],[g9],[g16],[g23],[g34]]).av A25 n26 c27 x22.nodes) (h32:Rw Fv w (St w [[g6],[g9],[g16],[g23],[g34]]).av A29 n30 c31 x22.conds) (hF:∀ b,F b→b < w.heap.size∧∀ o ∈ ([[g6],[g9],[g16],[g23],[g34]]:List (List Nat)),b ∉ o) (hL0:B.Loc w w [.box g6 Tb7 [.func (.func 41) #[] #[.pointer (some ⟨g9,0,none⟩),.pointer (some ⟨g16,0,none⟩),.pointer (some ⟨g23,0,none⟩),.pointer (some ⟨g34,0,none⟩)]],.box g9 Tb10 [.slice A11 n12 c13],.box g16 Tb17 [.slice A18 n19 c20],.box g23 Tb24 [.slice A25 n26 c27,.slice A29 n30 c31],.box g34 Tb35 [.string x33]] [Sm w.heap.size F w [[g6],[g9],[g16],[g23],[g34]],St w [[g6],[g9],[g16],[g23],[g34]]]) (r:Bool × (List Az) × (List Int) × Ar × ByteArray) (h:Et x1 x8 x15 x22 x33 r):Calls Tryd.prog 44 #[.slice A2 n3 c4,.func (.func 45) #[] #[.pointer (some ⟨g6,0,none⟩)]] w (Hw w F g6 g9 g16 g23 g34 Tb7 Tb10 Tb17 Tb24 Tb35 A11 n12 c13 A18 n19 c20 A25 n26 c27 A29 n30 c31 r):=by
 unfold Et at h
 refine Cc (vs:=[.slice A2 n3 c4,.func (.func 45) #[] #[.pointer (some ⟨g6,0,none⟩)]]) 9 Tryd.func44 rfl Tryd.ntmps44 rfl hL0 ?_
 show G (Ro w F g6 g9 g16 g23 g34 Tb7 Tb10 Tb17 Tb24 Tb35 A11 n12 c13 A18 n19 c20 A25 n26 c27 A29 n30 c31 r) _ _ _ _
 refine Ah rfl<|Ac rfl rfl<|Aa 0 rfl (Af rfl) gn rfl<|Aj 1 rfl<|Ah rfl<|Ac rfl rfl<|Aa 0 rfl (Ad rfl) gn rfl<|Aa 1 rfl (Ad rfl) gn rfl ?_
 obtain ⟨r39,hv40,h⟩:=h
 refine Ci 2 rfl (D7 [.slice A2 n3 c4,.func (.func 45) #[] #[.pointer (some ⟨g6,0,none⟩)]] rfl Tryd.func74 rfl rfl rfl fun w36 hL37=>?_) gn
 have hp38:=pmI hL37 (.c 0 rfl (.c 1 rfl (.c 2 rfl (.c 3 rfl (.c 4 rfl .n))))) .n (by kernel_rfl)
 refine Calls.mono (Rh w36 (Fl ([]:List Cb)) x1 x8 x15 x22 x33 A2 n3 c4 g6 Tb7 g9 Tb10 A11 n12 c13 g16 Tb17 A18 n19 c20 g23 Tb24 A25 n26 c27 A29 n30 c31 g34 Tb35 (Rw.mono h5 (hL37.toSt hp38 (me 1 rfl))) (Rw.mono h14 (hL37.toSt hp38 (me 1 rfl))) (Rw.mono h21 (hL37.toSt hp38 (me 1 rfl))) (Rw.mono h28 (hL37.toSt hp38 (me 1 rfl))) (Rw.mono h32 (hL37.toSt hp38 (me 1 rfl))) (hL37.hFl hp38 (Bg [] rfl)) (hL37.into hp38 _) r39 hv40) ?_
 rintro _ w41 ⟨rfl,hM42⟩
 have hL43:=hL37.call hp38 hM42
 refine ⟨_,_,_,rfl,hL43,?_⟩
 refine Aa 3 rfl (Be rfl rfl rfl) gn rfl<|Aa 4 rfl (Af rfl) gn rfl<|Aj 5 rfl ?_
 refine Bq [.bool (decide (r39.1≥0))] rfl Tryd.func44 rfl (.tmp rfl (.nil)) fun wr hLr=>?_
 have hMr:=hLr.pkI (.c 0 rfl (.c 1 rfl (.c 2 rfl (.c 3 rfl (.c 4 rfl .n))))) .n (by kernel_rfl) (.c 1 rfl .n)
 show Hw w F g6 g9 g16 g23 g34 Tb7 Tb10 Tb17 Tb24 Tb35 A11 n12 c13 A18 n19 c20 A25 n26 c27 A29 n30 c31 r (.returned (Ce [.bool (decide (r39.1≥0))])) wr
 rw [h]
 exact ⟨rfl,hMr⟩
noncomputable abbrev q17c4:=Code.snd (Code.snd (Dt Tryd.f17))
noncomputable abbrev q17c6:=Code.snd (Code.fst (Code.snd (Dt Tryd.f17)))
noncomputable abbrev q17c11:=Code.fst q17c4
noncomputable abbrev Xln:=Code.snd q17c4
noncomputable abbrev Xh9:=Code.snd (Code.snd Xln)
noncomputable abbrev Xb9:=Code.fst (Code.fst (Code.snd (Code.fst (Code.snd Xln))))
noncomputable abbrev q17c28:=Code.snd (Code.snd (Code.snd Xb9))
abbrev Yz (w:World) (F:Nat→Prop) (r:List Cj):Ending→World→Prop:=fun e w'=>∃ A0:Option Addr,∃ n0:Nat,∃ c0:Nat,∃ cs0:List Value,e=.returned (.slice A0 n0 c0)∧B.Loc w w' [.own (.slice A0 n0 c0) 38 1 n0 cs0] [St w []]∧Ow w.heap.size A0 n0 c0 r∧Cells G9 w' (Nw w w' F [.own (.slice A0 n0 c0) 38 1 n0 cs0]) r cs0
noncomputable abbrev Ux (w:World) (F:Nat→Prop) (r:List Cj):Cx:=⟨Tryd.prog,17,Tryd.f17,54,Yz w F  r,w⟩
theorem Ub (w:World) (F:Nat→Prop) (x1:Ar) (x10:List Az) (x15:ByteArray) (A2:Option Addr) (n3:Nat) (c4:Nat) (A6:Option Addr) (n7:Nat) (c8:Nat) (A11:Option Addr) (n12:Nat) (c13:Nat) (h5:Rw Dn w (St w []).av A2 n3 c4 x1.nodes) (h9:Rw Fv w (St w []).av A6 n7 c8 x1.conds) (h14:Rw Ew w (St w []).av A11 n12 c13 x10) (hG:Tb Tryd.prog (St w [])) (hF:∀ b,F b→b < w.heap.size∧∀ o ∈ ([]:List (List Nat)),b ∉ o) (hL0:B.Loc w w [] [Sm w.heap.size F w [],St w []]) (r:List Cj) (h:Ut x1 x10 x15 r):Calls Tryd.prog 17 #[.agg #[.slice A2 n3 c4,.slice A6 n7 c8],.slice A11 n12 c13,.string x15] w (Yz w F  r):=by
 unfold Ut at h
 refine Cc (vs:=[.agg #[.slice A2 n3 c4,.slice A6 n7 c8],.slice A11 n12 c13,.string x15]) 54 Tryd.func17 rfl Tryd.ntmps17 rfl hL0 ?_
 show G (Ux w F r) _ _ _ _
 refine Ah rfl<|Ac rfl rfl ?_
 refine Ci 0 rfl (Tu [.slice A2 n3 c4,.slice A6 n7 c8] rfl rfl rfl fun gb16=>?_) gn
 refine Ci 1 rfl (Tu [.slice A11 n12 c13] rfl rfl rfl fun gb18=>?_) gn
 refine Ci 2 rfl (Tu [.string x15] rfl rfl rfl fun gb20=>?_) gn
 refine Aa 3 rfl (Af rfl) gn rfl<|Aj 4 rfl<|Ah rfl<|Ah rfl ?_
 have j1:∀ (x40:Bool) (h:Ql x10 x1 x15 x40 r) ,G (Ux w F r) [.code q17c6,.code q17c4] [(3,.pointer (some ⟨gb16,0,none⟩)),(4,.pointer (some ⟨gb18,0,none⟩)),(5,.pointer (some ⟨gb20,0,none⟩)),(19,.bool x40)] [.box gb20 9 [.string x15],.box gb18 26 [.slice A11 n12 c13],.box gb16 25 [.slice A2 n3 c4,.slice A6 n7 c8]] [Sm w.heap.size F w [],St w []]:=by
  intro x40 h
  unfold Ql at h
  by_cases hp41:x40=true
  ·have h:=Ap hp41 h
   refine Bv rfl _ rfl (hp41)<|Ah rfl<|Ac rfl rfl<|Aa 0 rfl (Af rfl) gn rfl<|Aj 1 rfl<|Pi 38 1 ?_
   refine Bq [.slice none 0 0] rfl Tryd.func17 rfl (.tmp rfl (.nil)) fun wr hLr=>?_
   have hMr:=hLr.pkI (.c 0 rfl .n) (.c 1 rfl (.c 2 rfl (.c 3 rfl .n))) (by kernel_rfl) (.c 1 rfl .n)
   have hMi:=hLr.selI (.c 0 rfl .n)
   show Yz w F  r (.returned (Ce [.slice none 0 0])) wr
   rw [h]
   exact ⟨none,0,0,[],rfl,hMr,(Ow.nil (z:=w.heap.size)),(hLr.outC (s:=Sm w.heap.size F w []) hMi (me 0 rfl) Sm.ok Cells.nil)⟩
  ·have h:=Am hp41 h
   refine Bi rfl _ rfl ((bf hp41))<|C9 rfl<|Ah rfl ?_
   obtain ⟨hb42,h⟩:=h
   obtain ⟨x47,hv48,h⟩:=h
   obtain ⟨hb49,h⟩:=h
   obtain ⟨x53,hv54,h⟩:=h
   have d1:∀ (gb88:Nat) (A89:Option Addr) (n90:Nat) (c91:Nat) (h92:Ow w.heap.size A89 n90 c91 x47) (cs93:List Value) (hC94:Cells (Kd.slice (Gq .i64)) (Sm w.heap.size F w []).w (Sm w.heap.size F w []).av x47 cs93) (A95:Option Addr) (n96:Nat) (c97:Nat) (h98:Ow w.heap.size A95 n96 c97 x53),G (Ux w F r) [.code Xln] [(3,.pointer (some ⟨gb16,0,none⟩)),(4,.pointer (some ⟨gb18,0,none⟩)),(5,.pointer (some ⟨gb20,0,none⟩)),(7,.pointer (some ⟨gb88,0,none⟩))] [.box gb88 70 [.slice A2 n3 c4,.slice A11 n12 c13,.slice A89 n90 c91,.slice A95 n96 c97],.own (.slice A95 n96 c97) 4 1 n96 (x53.flatMap eB),.own (.slice A89 n90 c91) 36 1 n90 cs93,.box gb20 9 [.string x15],.box gb18 26 [.slice A11 n12 c13],.box gb16 25 [.slice A2 n3 c4,.slice A6 n7 c8]] [Sm w.heap.size F w [],St w []]:=by
    intro gb88 A89 n90 c91 h92 cs93 hC94 A95 n96 c97 h98
    refine Ah rfl<|Ac rfl rfl<|Aa 0 rfl (Af rfl) gn rfl<|Aj 1 rfl<|Ah rfl<|Ah rfl<|Ac rfl rfl<|Aa 0 rfl (Aq 4 Zz rfl rfl rfl) gn rfl<|Aa 1 rfl (Di Xb8 rfl h14.hq) gn rfl<|Aa 2 rfl (Ad rfl) gn rfl<|Aj 3 rfl<|Dj rfl ?_
    refine Kw rfl ?_
    have key2:∀ s,Bl (fun (s:(List Cj) × Int × (List (List Int)) × (List Bool) × ByteArray) o=>Om x10 x1 s.1 s.2.1 s.2.2.1 s.2.2.2.1 s.2.2.2.2 o) s r→(fun (s:(List Cj) × Int × (List (List Int)) × (List Bool) × ByteArray)=>∀ (A166:Option Addr) (n167:Nat) (c168:Nat) (h169:Ow w.heap.size A166 n167 c168 s.1) (cs170:List Value) (sw171:World) (sb172:List (List Nat)) (hC173:Cells G9 (Sm w.heap.size F sw171 sb172).w (Sm w.heap.size F sw171 sb172).av s.1 cs170) (A176:Option Addr) (n177:Nat) (c178:Nat) (h179:Ow w.heap.size A176 n177 c178 s.2.2.1) (cs180:List Value) (sw181:World) (sb182:List (List Nat)) (hC183:Cells (Kd.slice (Gq .i64)) (Sm w.heap.size F sw181 sb182).w (Sm w.heap.size F sw181 sb182).av s.2.2.1 cs180) (A185:Option Addr) (n186:Nat) (c187:Nat) (h188:Ow w.heap.size A185 n186 c187 s.2.2.2.1),G (Ux w F r) [.code Xb9,.inLoop Xb9,.inBlock 0,.code Xh9] [(3,.pointer (some ⟨gb16,0,none⟩)),(4,.pointer (some ⟨gb18,0,none⟩)),(5,.pointer (some ⟨gb20,0,none⟩)),(7,.pointer (some ⟨gb88,0,none⟩)),(8,.slice A166 n167 c168),(32,.int .i64 (x10.length:Int)),(33,.int .i64 s.2.1)] [.own (.slice A166 n167 c168) 38 1 n167 cs170,.own (.slice A176 n177 c178) 36 1 n177 cs180,.own (.slice A185 n186 c187) 4 1 n186 (s.2.2.2.1.flatMap eB),.box gb88 70 [.slice A2 n3 c4,.slice A11 n12 c13,.slice A176 n177 c178,.slice A185 n186 c187],.box gb20 9 [.string s.2.2.2.2],.box gb18 26 [.slice A11 n12 c13],.box gb16 25 [.slice A2 n3 c4,.slice A6 n7 c8]] [Sm w.heap.size F sw171 sb172,Sm w.heap.size F sw181 sb182,Sm w.heap.size F w [],St w []]) s:=by
     intro s hs
     refine Bl.ind (mot:=(fun (s:(List Cj) × Int × (List (List Int)) × (List Bool) × ByteArray)=>∀ (A166:Option Addr) (n167:Nat) (c168:Nat) (h169:Ow w.heap.size A166 n167 c168 s.1) (cs170:List Value) (sw171:World) (sb172:List (List Nat)) (hC173:Cells G9 (Sm w.heap.size F sw171 sb172).w (Sm w.heap.size F sw171 sb172).av s.1 cs170) (A176:Option Addr) (n177:Nat) (c178:Nat) (h179:Ow w.heap.size A176 n177 c178 s.2.2.1) (cs180:List Value) (sw181:World) (sb182:List (List Nat)) (hC183:Cells (Kd.slice (Gq .i64)) (Sm w.heap.size F sw181 sb182).w (Sm w.heap.size F sw181 sb182).av s.2.2.1 cs180) (A185:Option Addr) (n186:Nat) (c187:Nat) (h188:Ow w.heap.size A185 n186 c187 s.2.2.2.1),G (Ux w F r) [.code Xb9,.inLoop Xb9,.inBlock 0,.code Xh9] [(3,.pointer (some ⟨gb16,0,none⟩)),(4,.pointer (some ⟨gb18,0,none⟩)),(5,.pointer (some ⟨gb20,0,none⟩)),(7,.pointer (some ⟨gb88,0,none⟩)),(8,.slice A166 n167 c168),(32,.int .i64 (x10.length:Int)),(33,.int .i64 s.2.1)] [.own (.slice A166 n167 c168) 38 1 n167 cs170,.own (.slice A176 n177 c178) 36 1 n177 cs180,.own (.slice A185 n186 c187) 4 1 n186 (s.2.2.2.1.flatMap eB),.box gb88 70 [.slice A2 n3 c4,.slice A11 n12 c13,.slice A176 n177 c178,.slice A185 n186 c187],.box gb20 9 [.string s.2.2.2.2],.box gb18 26 [.slice A11 n12 c13],.box gb16 25 [.slice A2 n3 c4,.slice A6 n7 c8]] [Sm w.heap.size F sw171 sb172,Sm w.heap.size F sw181 sb182,Sm w.heap.size F w [],St w []])) ?_ hs
     clear hs s
     intro s o1 h hO1
     obtain ⟨x165,x174,x175,x184,x189⟩:=s
     show ∀ (A166:Option Addr) (n167:Nat) (c168:Nat) (h169:Ow w.heap.size A166 n167 c168 x165) (cs170:List Value) (sw171:World) (sb172:List (List Nat)) (hC173:Cells G9 (Sm w.heap.size F sw171 sb172).w (Sm w.heap.size F sw171 sb172).av x165 cs170) (A176:Option Addr) (n177:Nat) (c178:Nat) (h179:Ow w.heap.size A176 n177 c178 x175) (cs180:List Value) (sw181:World) (sb182:List (List Nat)) (hC183:Cells (Kd.slice (Gq .i64)) (Sm w.heap.size F sw181 sb182).w (Sm w.heap.size F sw181 sb182).av x175 cs180) (A185:Option Addr) (n186:Nat) (c187:Nat) (h188:Ow w.heap.size A185 n186 c187 x184),G (Ux w F r) [.code Xb9,.inLoop Xb9,.inBlock 0,.code Xh9] [(3,.pointer (some ⟨gb16,0,none⟩)),(4,.pointer (some ⟨gb18,0,none⟩)),(5,.pointer (some ⟨gb20,0,none⟩)),(7,.pointer (some ⟨gb88,0,none⟩)),(8,.slice A166 n167 c168),(32,.int .i64 (x10.length:Int)),(33,.int .i64 x174)] [.own (.slice A166 n167 c168) 38 1 n167 cs170,.own (.slice A176 n177 c178) 36 1 n177 cs180,.own (.slice A185 n186 c187) 4 1 n186 (x184.flatMap eB),.box gb88 70 [.slice A2 n3 c4,.slice A11 n12 c13,.slice A176 n177 c178,.slice A185 n186 c187],.box gb20 9 [.string x189],.box gb18 26 [.slice A11 n12 c13],.box gb16 25 [.slice A2 n3 c4,.slice A6 n7 c8]] [Sm w.heap.size F sw171 sb172,Sm w.heap.size F sw181 sb182,Sm w.heap.size F w [],St w []]
     intro A166 n167 c168 h169 cs170 sw171 sb172 hC173 A176 n177 c178 h179 cs180 sw181 sb182 hC183 A185 n186 c187 h188
     have h:Om x10 x1 x165 x174 x175 x184 x189 o1:=h
     unfold Om at h
     refine Ah rfl<|Ac rfl rfl<|Aa 0 rfl (Be rfl rfl rfl) gn rfl<|Aj 1 rfl<|Ah rfl ?_
     by_cases hp254:x174 < (x10.length:Int)
     ·have h:=Ap hp254 h
      refine Bv rfl _ rfl ((decide_eq_true hp254))<|C9 rfl<|Ah rfl<|Dj rfl<|Ah rfl<|Ac rfl rfl<|Aa 0 rfl (Ad rfl) gn rfl<|Aa 1 rfl (Af rfl) gn rfl<|Aj 2 rfl<|Ah rfl<|Ac rfl rfl<|Aa 0 rfl (Ad rfl) gn rfl ?_
      refine Aa 1 rfl (Ad rfl) gn rfl ?_
      obtain ⟨r258,hv259,h⟩:=h
      refine Ci 2 rfl (D7 [.pointer (some ⟨gb88,0,none⟩),.int .i64 0,.int .i64 x174] rfl Tryd.func40 rfl rfl rfl fun w255 hL256=>?_) gn
      have hp257:=pmI hL256 (.c 3 rfl (.c 1 rfl (.c 2 rfl .n))) (.c 0 rfl (.c 4 rfl (.c 5 rfl (.c 6 rfl .n)))) (by kernel_rfl)
      refine Calls.mono (Zh w255 (Fl ([Sm w.heap.size F sw181 sb182]:List Cb)) (⟨x1.nodes,x10,x175,x184⟩:Bf) 0 x174 gb88 70 A2 n3 c4 A11 n12 c13 w.heap.size A176 n177 c178 cs180 w.heap.size A185 n186 c187 (Rw.mono h5 (hL256.toSt hp257 (me 3 rfl))) (Rw.mono h14 (hL256.toSt hp257 (me 3 rfl))) hL256.env.size h179 (Cells.mono (hL256.toFl (me 1 rfl) (me 0 rfl)) hC183) hL256.env.size h188 (hL256.hFl hp257 (Bg [1] rfl)) (hL256.into hp257 _) r258 hv259) ?_
      rintro _ w278 ⟨A260,n261,c262,A266,n267,c268,cs271,A273,n274,c275,rfl,hM279,h263,ht265,h269,hC272,h276⟩
      obtain ⟨sb282,hL280,hv281⟩:=hL256.callB (Sl:=([Sm w.heap.size F sw181 sb182]:List Cb)) hp257 hM279 F (Bg [1] rfl) ⟨Sm.ok,trivial⟩
      have hC272:Cells (Kd.slice (Gq .i64)) (Sm w.heap.size F w278 sb282).w (Sm w.heap.size F w278 sb282).av r258.2.of cs271:=Cells.mono hv281 hC272
      refine ⟨_,_,_,rfl,hL280,?_⟩
      refine Ci 3 rfl (He [.slice none 0 0] zr_36 rfl fun gb283=>?_) gn
      refine Ci 4 rfl (Gl (vs:=[.slice A260 n261 c262]) (cs':=[.slice A260 n261 c262]) (M':=[.box gb283 36 [.slice A260 n261 c262],.box gb88 70 [.slice A2 n3 c4,.slice A11 n12 c13,.slice A266 n267 c268,.slice A273 n274 c275],.own (.slice A260 n261 c262) 3 1 n261 (r258.1.flatMap (eI .i64)),.own (.slice A266 n267 c268) 36 1 n267 cs271,.own (.slice A273 n274 c275) 4 1 n274 (r258.2.known.flatMap eB),.own (.slice A166 n167 c168) 38 1 n167 cs170,.box gb20 9 [.string x189],.box gb18 26 [.slice A11 n12 c13],.box gb16 25 [.slice A2 n3 c4,.slice A6 n7 c8]]) 0 Xa0 rfl rfl rfl rfl rfl rfl rfl rfl rfl ?_) gn
      refine Aj 5 rfl<|Ah rfl<|Ah rfl<|Ac rfl rfl<|Aa 0 rfl (Aq 0 Xq rfl rfl rfl) gn rfl ?_
      obtain ⟨b285,hb286⟩:∃ b,b=A260.isNone:=⟨_,rfl⟩
      have h:=h b285 ⟨nil_of hb286 (Ow.weak hL256.env.size h263).hA (Ow.weak hL256.env.size h263).hq,fun e=>by rw [hb286,ht265 e]; rfl⟩
      refine Aa 1 rfl (v_eqSL La rfl hb286.symm) gn rfl<|Aj 2 rfl ?_
      by_cases hp287:b285=true
      ·have h:=Ap hp287 h
       refine Bv rfl _ rfl (hp287)<|Ii [.code q17c28,.inLoop Xb9,.inBlock 0,.code Xh9] rfl rfl<|Ac rfl rfl<|Aa 0 rfl (Be rfl rfl rfl) gn rfl<|Aa 1 rfl (Ad rfl) gn rfl<|Aj 2 rfl<|Dx<|Ba 8 rfl<|Ba 8 rfl<|Ba 8 rfl<|Ba 4 rfl<|Ba 7 rfl ?_
       refine Ba 7 rfl<|Ba 8 rfl ?_
       have ih:=Out.inl hO1 h
       exact D8 [1,0,3,4] (ih A166 n167 c168 h169 cs170 sw171 sb172 hC173 A266 n267 c268 h269 cs271 w278 sb282 hC272 A273 n274 c275 h276) ⟨rfl,rfl,rfl,rfl,rfl,rfl,rfl,trivial⟩ (.cons_cons _ (.cons_cons _ (.cons_cons _ (.cons_cons _ (.cons_cons _ (.cons_cons _ (.cons_cons _ (.cons _ (.cons _ (.slnil)))))))))) rfl
      ·have h:=Am hp287 h
       refine Bi rfl _ rfl ((bf hp287))<|C9 rfl<|Ah rfl<|Ac rfl rfl<|Aa 0 rfl (Vz [.pointer (some ⟨gb18,0,none⟩),.pointer (some ⟨gb283,0,none⟩),.pointer (some ⟨gb16,0,none⟩),.pointer (some ⟨gb20,0,none⟩)] rfl) gn rfl ?_
       refine Ci 1 rfl (He [.nilFunc] zr_72 rfl fun gb288=>?_) gn
       refine Ci 2 rfl (Gl (vs:=[.func (.func 41) #[] #[.pointer (some ⟨gb18,0,none⟩),.pointer (some ⟨gb283,0,none⟩),.pointer (some ⟨gb16,0,none⟩),.pointer (some ⟨gb20,0,none⟩)]]) (cs':=[.func (.func 41) #[] #[.pointer (some ⟨gb18,0,none⟩),.pointer (some ⟨gb283,0,none⟩),.pointer (some ⟨gb16,0,none⟩),.pointer (some ⟨gb20,0,none⟩)]]) (M':=[.box gb288 72 [.func (.func 41) #[] #[.pointer (some ⟨gb18,0,none⟩),.pointer (some ⟨gb283,0,none⟩),.pointer (some ⟨gb16,0,none⟩),.pointer (some ⟨gb20,0,none⟩)]],.box gb283 36 [.slice A260 n261 c262],.box gb88 70 [.slice A2 n3 c4,.slice A11 n12 c13,.slice A266 n267 c268,.slice A273 n274 c275],.own (.slice A260 n261 c262) 3 1 n261 (r258.1.flatMap (eI .i64)),.own (.slice A266 n267 c268) 36 1 n267 cs271,.own (.slice A273 n274 c275) 4 1 n274 (r258.2.known.flatMap eB),.own (.slice A166 n167 c168) 38 1 n167 cs170,.box gb20 9 [.string x189],.box gb18 26 [.slice A11 n12 c13],.box gb16 25 [.slice A2 n3 c4,.slice A6 n7 c8]]) 0 sz_72 rfl rfl rfl rfl rfl rfl rfl rfl rfl ?_) gn
       refine Aj 3 rfl<|Ah rfl<|Ac rfl rfl<|Aa 0 rfl (Aw Qj rfl) gn rfl<|Aa 1 rfl (Aq 9 Xaj rfl rfl rfl) gn rfl<|Aa 2 rfl (Vz [.pointer (some ⟨gb288,0,none⟩)] rfl) gn rfl ?_
       obtain ⟨r293,hv294,h⟩:=h
       refine Ci 3 rfl (D7 [.slice A6 n7 c8,.func (.func 45) #[] #[.pointer (some ⟨gb288,0,none⟩)]] rfl Tryd.func44 rfl rfl rfl fun w290 hL291=>?_) gn
       have hp292:=pmI hL291 (.c 0 rfl (.c 8 rfl (.c 1 rfl (.c 9 rfl (.c 7 rfl .n))))) (.c 2 rfl (.c 3 rfl (.c 4 rfl (.c 5 rfl (.c 6 rfl .n))))) (by kernel_rfl)
       refine Calls.mono (Q4 w290 (Fl ([]:List Cb)) x1.conds x10 r258.1 x1 x189 A6 n7 c8 gb288 72 gb18 26 A11 n12 c13 gb283 36 A260 n261 c262 gb16 25 A2 n3 c4 A6 n7 c8 gb20 9 (Rw.mono h9 (hL291.toSt hp292 (me 4 rfl))) (Rw.mono h14 (hL291.toSt hp292 (me 4 rfl))) (hL291.argO (dk:=(Gq .i64)) hp292 [0,8,1,9,7] rfl 3 rfl rfl (Ow.weak hL256.env.size h263) (me 3 rfl) (Cells.flat _)) (Rw.mono h5 (hL291.toSt hp292 (me 4 rfl))) (Rw.mono h9 (hL291.toSt hp292 (me 4 rfl))) (hL291.hFl hp292 (Bg [] rfl)) (hL291.into hp292 _) r293 hv294) ?_
       rintro _ w295 ⟨rfl,hM296⟩
       have hL297:=hL291.call hp292 hM296
       refine ⟨_,_,_,rfl,hL297,?_⟩
       refine Aa 4 rfl (Qu rfl) gn rfl<|Aj 5 rfl ?_
       by_cases hp298:r293.1=true
       ·have h:=Ap hp298 h
        refine Bi rfl _ rfl ((nf hp298))<|C9 rfl<|D9<|Ac rfl rfl<|Aa 0 rfl (Be rfl rfl rfl) gn rfl<|Aa 1 rfl (Ad rfl) gn rfl<|Aj 2 rfl<|Dx<|Ba 3 rfl<|Ba 2 rfl<|Ba 4 rfl<|Ba 5 rfl ?_
        refine Ba 8 rfl<|Ba 8 rfl<|Ba 9 rfl ?_
        have ih:=Out.inl hO1 h
        exact D8 [1,0,3,4] (ih A166 n167 c168 h169 cs170 sw171 sb172 hC173 A266 n267 c268 h269 cs271 w278 sb282 hC272 A273 n274 c275 h276) ⟨rfl,rfl,rfl,rfl,rfl,rfl,rfl,trivial⟩ (.cons_cons _ (.cons_cons _ (.cons_cons _ (.cons_cons _ (.cons_cons _ (.cons_cons _ (.cons_cons _ (.cons _ (.cons _ (.cons _ (.slnil))))))))))) rfl
       ·have h:=Am hp298 h
        refine Bv rfl _ rfl ((nt (bf hp298)))<|Ac rfl rfl<|Aa 0 rfl (Ad rfl) gn rfl<|Aa 1 rfl (Aq 2 Xq rfl rfl rfl) gn rfl<|Aa 2 rfl (Jg #[.slice A260 n261 c262] bd_38 rfl (by kernel_rfl)) gn rfl ?_
        refine Xju (F:=F) (dk:=(Gq .i64)) (Sm w.heap.size F w []) 6 rfl (Ow.weak hL256.env.size h263) (me 3 rfl) Sm.ok (Cells.flat _) fun sw300 sb301 h299=>?_
        have hC303:Cells G9 (Sm w.heap.size F sw300 sb301).w (Sm w.heap.size F sw300 sb301).av ([(⟨r258.1⟩:Cj)]:List Cj) [.slice A260 n261 c262]:=(Cells.cons (c1:=[.slice A260 n261 c262]) ⟨A260,n261,c262,rfl,h299⟩ Cells.nil)
        refine Ci 3 rfl (Hy (xs:=([(⟨r258.1⟩:Cj)]:List Cj)) [.slice A260 n261 c262] Xml rfl (by kernel_rfl) rfl rfl rfl rfl fun gb304 h305=>?_) gn
        obtain ⟨x312,hv313,h⟩:=h
        obtain ⟨hb314,h⟩:=h
        refine w_mark (F:=F) fun sw309 sb310 ho311=>?_
        obtain ⟨cs315,hc316⟩:∃ x:List Value,x=cs170++[.slice A260 n261 c262]:=⟨_,rfl⟩
        have hC317:Cells G9 (Sm w.heap.size F sw309 sb310).w (Sm w.heap.size F sw309 sb310).av x312 cs315:=by rw [hv313,hc316]; exact Cells.app (Cells.older (s:=Sm w.heap.size F sw171 sb172) hC173 (ho311 _ (me 2 rfl) Sm.ok)) (Cells.older (s:=Sm w.heap.size F sw300 sb301) hC303 (ho311 _ (me 0 rfl) Sm.ok))
        refine Ci 4 rfl (Nq (zs:=x312) 9 ap_31 rfl rfl rfl h169 (Nat.le_refl _) (Src.ownAll 0 rfl h305 hC303) hc316.symm (Gp hv313 h305.hq) hb314 rfl rfl fun A306 c307 h308=>?_) gn
        refine Aa 5 rfl (Af rfl) gn rfl<|Aj 6 rfl<|D9<|Ac rfl rfl<|Aa 0 rfl (Be rfl rfl rfl) gn rfl<|Aa 1 rfl (Ad rfl) gn rfl<|Aj 2 rfl<|Dx<|Ba 4 rfl<|Ba 3 rfl<|Ba 5 rfl<|Ba 6 rfl ?_
        refine Ba 8 rfl<|Ba 8 rfl<|Ba 9 rfl ?_
        have ih:=Out.inl hO1 h
        exact D8 [0,2,5,6] (ih A306 (n167 + 1) c307 h308 cs315 sw309 sb310 hC317 A266 n267 c268 h269 cs271 w278 sb282 hC272 A273 n274 c275 h276) ⟨rfl,rfl,rfl,rfl,rfl,rfl,rfl,trivial⟩ (.cons_cons _ (.cons_cons _ (.cons_cons _ (.cons_cons _ (.cons_cons _ (.cons_cons _ (.cons_cons _ (.cons _ (.cons _ (.cons _ (.slnil))))))))))) rfl
     ·have h:=Am hp254 h
      refine Bi rfl _ rfl ((decide_eq_false hp254))<|Ii [.code Xh9] rfl rfl<|Ah rfl<|Ac rfl rfl<|Aa 0 rfl (Ad rfl) gn rfl<|Aa 1 rfl (Af rfl) gn rfl<|Aj 2 rfl ?_
      have h:=Out.inr hO1 h
      refine Bq [.slice A166 n167 c168] rfl Tryd.func17 rfl (.tmp rfl (.nil)) fun wr hLr=>?_
      have hMr:=hLr.pkI (.c 0 rfl .n) (.c 1 rfl (.c 2 rfl (.c 3 rfl (.c 4 rfl (.c 5 rfl (.c 6 rfl .n)))))) (by kernel_rfl) (.c 3 rfl .n)
      have hMi:=hLr.selI (.c 0 rfl .n)
      show Yz w F  r (.returned (Ce [.slice A166 n167 c168])) wr
      rw [h]
      exact ⟨A166,n167,c168,cs170,rfl,hMr,h169,(hLr.outC (s:=Sm w.heap.size F sw171 sb172) hMi (me 0 rfl) Sm.ok hC173)⟩
    refine Pi 38 1<|Ba 6 rfl<|Ba 6 rfl<|Ba 6 rfl<|Ba 4 rfl<|Ba 5 rfl<|Ba 6 rfl<|Ba 6 rfl ?_
    exact D8 [0,0,0,1] (key2 _ h none 0 0 (Ow.nil (z:=w.heap.size)) [] w [] Cells.nil A89 n90 c91 h92 cs93 w [] hC94 A95 n96 c97 h98) ⟨rfl,rfl,rfl,rfl,rfl,rfl,rfl,trivial⟩ (.cons_cons _ (.cons_cons _ (.cons_cons _ (.cons_cons _ (.cons_cons _ (.cons_cons _ (.cons_cons _ (.slnil)))))))) rfl
   have hns:Region.noSelect (Code.ops q17c11)=true:=by kernel_rfl
   refine Fh [] 12 rfl rfl mix rfl (.c 0 rfl (.c 1 rfl .n))<|wfv 0 rfl (Aw Kr rfl) gn hns rfl<|wfv 1 rfl (Aq 2 Tq rfl rfl rfl) gn hns rfl<|wfv 2 rfl (Aq 1 Zz rfl rfl rfl) gn hns rfl<|wfv 3 rfl (Aq 1 Zz rfl rfl rfl) gn hns rfl<|wfv 4 rfl (Di Xb8 rfl h14.hq) gn hns rfl<|wfv 6 rfl (Aq 1 Zz rfl rfl rfl) gn hns rfl<|wfv 7 rfl (Di Xb8 rfl h14.hq) gn hns rfl ?_
   refine Cm [5,8] (by kernel_rfl) rfl ⟨?_,?_,trivial⟩
   ·have hC331 : Cells (Kd.slice (Gq .i64)) (Sm w.heap.size F w []).w (Sm w.heap.size F w []).av x47 (x47.flatMap (fun _ : List Int => [Value.slice none 0 0])) := by rw [hv48]; exact Cells.rep (dk := (Kd.slice (Gq .i64))) ⟨none, 0, 0, rfl, Rw.nil⟩ _
    refine Eo 5 rfl gn rfl (Rl (enc:=(fun _:List Int=>[Value.slice none 0 0])) (z:=([]:List Int)) mk_67 rfl (by decide) rfl rfl hb42.1 hb42.2 (by decide) hv48 rfl fun A329 h330=>?_)
    refine ⟨Bg [1,2,3] rfl,Bg [0,1] rfl,?_⟩
    refine Cm [8] (by kernel_rfl) rfl ⟨Eo 8 rfl gn rfl (Rl (enc:=eB) (z:=false) mk_68 rfl (by decide) rfl rfl hb49.1 hb49.2 (by decide) hv54 rfl fun A334 h335=>?_),trivial⟩
    refine ⟨Bg [2,3,4] rfl,Bg [0,1] rfl,?_⟩
    refine wfv 9 rfl (Jg #[.slice A2 n3 c4,.slice A11 n12 c13,.slice A329 (((x10.length:Int):Int).toNat) (((x10.length:Int):Int).toNat),.slice A334 (((x10.length:Int):Int).toNat) (((x10.length:Int):Int).toNat)] bd_70 rfl (by kernel_rfl)) gn hns rfl ?_
    refine Cm [10] (by kernel_rfl) rfl ⟨Eo 10 rfl gn rfl (Tu [.slice A2 n3 c4,.slice A11 n12 c13,.slice A329 (((x10.length:Int):Int).toNat) (((x10.length:Int):Int).toNat),.slice A334 (((x10.length:Int):Int).toNat) (((x10.length:Int):Int).toNat)] rfl rfl rfl fun gb337=>?_),trivial⟩
    refine ⟨Bg [3,4,5] rfl,Bg [0,1] rfl,?_⟩
    refine wfv 11 rfl (Af rfl) gn hns rfl<|Dz (by kernel_rfl) ?_
    exact D8 [0,1] (d1 gb337 A329 (((x10.length:Int):Int).toNat) (((x10.length:Int):Int).toNat) h330 (x47.flatMap (fun _:List Int=>[Value.slice none 0 0])) hC331 A334 (((x10.length:Int):Int).toNat) (((x10.length:Int):Int).toNat) h335) ⟨rfl,rfl,rfl,rfl,trivial⟩ (.cons_cons _ (.cons_cons _ (.cons_cons _ (.cons_cons _ (.cons_cons _ (.cons_cons _ (.slnil))))))) rfl
   ·refine Eo 8 rfl gn rfl (Rl (enc := eB) (z := false) mk_68 rfl (by decide) rfl rfl hb49.1 hb49.2 (by decide) hv54 rfl fun A338 h339 => ?_)
    refine ⟨Bg [1,2,3] rfl,Bg [0,1] rfl,?_⟩
    have hC345:Cells (Kd.slice (Gq .i64)) (Sm w.heap.size F w []).w (Sm w.heap.size F w []).av x47 (x47.flatMap (fun _:List Int=>[Value.slice none 0 0])):=by rw [hv48]; exact Cells.rep (dk:=(Kd.slice (Gq .i64))) ⟨none,0,0,rfl,Rw.nil⟩ _
    refine Cm [5] (by kernel_rfl) rfl ⟨Eo 5 rfl gn rfl (Rl (enc:=(fun _:List Int=>[Value.slice none 0 0])) (z:=([]:List Int)) mk_67 rfl (by decide) rfl rfl hb42.1 hb42.2 (by decide) hv48 rfl fun A343 h344=>?_),trivial⟩
    refine ⟨Bg [2,3,4] rfl,Bg [0,1] rfl,?_⟩
    refine wfv 9 rfl (Jg #[.slice A2 n3 c4,.slice A11 n12 c13,.slice A343 (((x10.length:Int):Int).toNat) (((x10.length:Int):Int).toNat),.slice A338 (((x10.length:Int):Int).toNat) (((x10.length:Int):Int).toNat)] bd_70 rfl (by kernel_rfl)) gn hns rfl ?_
    refine Cm [10] (by kernel_rfl) rfl ⟨Eo 10 rfl gn rfl (Tu [.slice A2 n3 c4,.slice A11 n12 c13,.slice A343 (((x10.length:Int):Int).toNat) (((x10.length:Int):Int).toNat),.slice A338 (((x10.length:Int):Int).toNat) (((x10.length:Int):Int).toNat)] rfl rfl rfl fun gb347=>?_),trivial⟩
    refine ⟨Bg [3,4,5] rfl,Bg [0,1] rfl,?_⟩
    refine wfv 11 rfl (Af rfl) gn hns rfl<|Dz (by kernel_rfl)<|Ba 5 rfl<|Ba 5 rfl<|Ba 5 rfl<|Ba 4 rfl<|Ba 5 rfl<|Ba 5 rfl ?_
    exact D8 [0,1] (d1 gb347 A343 (((x10.length:Int):Int).toNat) (((x10.length:Int):Int).toNat) h344 (x47.flatMap (fun _:List Int=>[Value.slice none 0 0])) hC345 A338 (((x10.length:Int):Int).toNat) (((x10.length:Int):Int).toNat) h339) ⟨rfl,rfl,rfl,rfl,trivial⟩ (.cons_cons _ (.cons_cons _ (.cons_cons _ (.cons_cons _ (.cons_cons _ (.cons_cons _ (.slnil))))))) rfl
 refine Ac rfl rfl<|Aa 0 rfl (O6 [.slice A2 n3 c4,.slice A6 n7 c8] 2 V5 rfl rfl rfl rfl) gn rfl ?_
 obtain ⟨r351,hv352,h⟩:=h
 refine Ci 1 rfl (D7 [.agg #[.slice A2 n3 c4,.slice A6 n7 c8]] rfl Tryd.func24 rfl rfl rfl fun w348 hL349=>?_) gn
 have hp350:=pmI hL349 .n (.c 0 rfl (.c 1 rfl (.c 2 rfl .n))) (by kernel_rfl)
 refine Calls.mono (Un w348 (Fl ([]:List Cb)) x1 A2 n3 c4 A6 n7 c8 (Rw.mono h5 (hL349.toSt hp350 (me 1 rfl))) (Rw.mono h9 (hL349.toSt hp350 (me 1 rfl))) (hL349.tb hp350 hG (me 1 rfl)) (hL349.hFl hp350 (Bg [] rfl)) (hL349.into hp350 _) r351 hv352) ?_
 rintro _ w353 ⟨rfl,hM354⟩
 have hL355:=hL349.call hp350 hM354
 refine ⟨_,_,_,rfl,hL355,?_⟩
 refine Aa 2 rfl (Qu rfl) gn rfl<|Aa 3 rfl (Ad rfl) gn rfl ?_
 by_cases hp356:r351=true
 ·have h:=Ap hp356 h
  refine Bo 15 rfl ((nf hp356))<|Aa 4 rfl (Aq 1 Zz rfl rfl rfl) (gy 15 rfl rfl) rfl ?_
  obtain ⟨r360,hv361,h⟩:=h
  refine Ci 5 rfl (D7 [.slice A11 n12 c13] rfl Tryd.func30 rfl rfl rfl fun w357 hL358=>?_) (gy 15 rfl rfl)
  have hp359:=pmI hL358 .n (.c 0 rfl (.c 1 rfl (.c 2 rfl .n))) (by kernel_rfl)
  refine Calls.mono (Zl w357 (Fl ([]:List Cb)) x10 A11 n12 c13 (Rw.mono h14 (hL358.toSt hp359 (me 1 rfl))) (hL358.hFl hp359 (Bg [] rfl)) (hL358.into hp359 _) r360 hv361) ?_
  rintro _ w362 ⟨rfl,hM363⟩
  have hL364:=hL358.call hp359 hM363
  refine ⟨_,_,_,rfl,hL364,?_⟩
  refine Aa 6 rfl (Be rfl rfl rfl) (gy 15 rfl rfl) rfl<|Aa 7 rfl (Bc (b:=false) rfl rfl) gn rfl<|Aj 8 rfl ?_
  exact D8 [0,1] (j1 (decide (r360 < 0)) h) ⟨rfl,rfl,rfl,rfl,trivial⟩ (.cons_cons _ (.cons_cons _ (.cons_cons _ (.slnil)))) rfl
 ·have h:=Am hp356 h
  refine Bo 15 rfl ((nt (bf hp356)))<|Ae 4 rfl (ps 15 rfl rfl rfl)<|Ae 5 rfl (ps 15 rfl rfl rfl)<|Ae 6 rfl (ps 15 rfl rfl rfl)<|Aa 7 rfl (Bc (b:=true) rfl rfl) gn rfl<|Aj 8 rfl ?_
  exact D8 [0,1] (j1 true h) ⟨rfl,rfl,rfl,rfl,trivial⟩ (.cons_cons _ (.cons_cons _ (.cons_cons _ (.slnil)))) rfl
noncomputable abbrev Xis:=Code.snd (Code.snd (Code.snd (Dt Tryd.f36)))
noncomputable abbrev Xcu:=Code.fst (Code.fst (Code.snd (Code.fst (Code.snd (Code.snd (Dt Tryd.f36))))))
noncomputable abbrev q36c24:=Code.fst (Code.fst (Code.fst (Code.snd Xcu)))
abbrev Jf (w:World) (F:Nat→Prop) (r:Bool):Ending→World→Prop:=fun e w'=>e=.returned (.bool r)∧B.Loc w w' [] [St w []]
noncomputable abbrev Lt (w:World) (F:Nat→Prop) (r:Bool):Cx:=⟨Tryd.prog,36,Tryd.f36,26,Jf w F  r,w⟩
theorem Rj (w:World) (F:Nat→Prop) (x1:List Int) (x6:List Int) (A2:Option Addr) (n3:Nat) (c4:Nat) (A7:Option Addr) (n8:Nat) (c9:Nat) (h5:Rw (Gq .i64) w (St w []).av A2 n3 c4 x1) (h10:Rw (Gq .i64) w (St w []).av A7 n8 c9 x6) (hF:∀ b,F b→b < w.heap.size∧∀ o ∈ ([]:List (List Nat)),b ∉ o) (hL0:B.Loc w w [] [Sm w.heap.size F w [],St w []]) (r:Bool) (h:Iw x1 x6 r):Calls Tryd.prog 36 #[.slice A2 n3 c4,.slice A7 n8 c9] w (Jf w F  r):=by
 unfold Iw at h
 refine Cc (vs:=[.slice A2 n3 c4,.slice A7 n8 c9]) 26 Tryd.func36 rfl Tryd.ntmps36 rfl hL0 ?_
 show G (Lt w F r) _ _ _ _
 refine Ah rfl<|Ac rfl rfl<|Aa 0 rfl (Af rfl) gn rfl<|Aj 1 rfl<|Ah rfl<|Ah rfl<|Ac rfl rfl<|Aa 0 rfl (Ad rfl) gn rfl<|Aa 1 rfl (Di La rfl h5.hq) gn rfl<|Aa 2 rfl (Ad rfl) gn rfl<|Aa 3 rfl (Di La rfl h10.hq) gn rfl<|Aa 4 rfl (Be rfl rfl rfl) gn rfl ?_
 refine Aj 5 rfl ?_
 by_cases hp11:(x1.length:Int)=(x6.length:Int)
 ·have h:=Ap hp11 h
  refine Bi rfl _ rfl ((Xbu hp11))<|C9 rfl<|Ah rfl<|Ah rfl<|Ac rfl rfl<|Aa 0 rfl (Af rfl) gn rfl<|Aj 1 rfl<|Dj rfl<|Kw rfl ?_
  have key1:∀ s,Bl (fun (s:Int) o=>Hf x1 x6 s o) s r→(fun (s:Int)=>∀ (_:Unit),G (Lt w F r) [.code Xcu,.inLoop Xcu,.inBlock 0,.code Xis] [(0,.slice A2 n3 c4),(1,.slice A7 n8 c9),(5,.int .i64 s)] [] [Sm w.heap.size F w [],St w []]) s:=by
   intro s hs
   refine Bl.ind (mot:=(fun (s:Int)=>∀ (_:Unit),G (Lt w F r) [.code Xcu,.inLoop Xcu,.inBlock 0,.code Xis] [(0,.slice A2 n3 c4),(1,.slice A7 n8 c9),(5,.int .i64 s)] [] [Sm w.heap.size F w [],St w []])) ?_ hs
   clear hs s
   intro x23 o1 h hO1
   show ∀ (_:Unit),G (Lt w F r) [.code Xcu,.inLoop Xcu,.inBlock 0,.code Xis] [(0,.slice A2 n3 c4),(1,.slice A7 n8 c9),(5,.int .i64 x23)] [] [Sm w.heap.size F w [],St w []]
   intro _
   have h:Hf x1 x6 x23 o1:=h
   unfold Hf at h
   refine Ah rfl<|Ah rfl<|Ac rfl rfl<|Aa 0 rfl (Ad rfl) gn rfl<|Aa 1 rfl (Ad rfl) gn rfl<|Aa 2 rfl (Di La rfl h5.hq) gn rfl<|Aa 3 rfl (Be rfl rfl rfl) gn rfl<|Aj 4 rfl ?_
   by_cases hp34:x23 < (x1.length:Int)
   ·have h:=Ap hp34 h
    refine Bv rfl _ rfl ((decide_eq_true hp34))<|C9 rfl<|Ah rfl<|Dj rfl<|Ah rfl ?_
    obtain ⟨hb35,h⟩:=h
    obtain ⟨hb37,h⟩:=h
    have hns:Region.noSelect (Code.ops q36c24)=true:=by kernel_rfl
    refine Fh [] 9 rfl rfl mix rfl (.c 0 rfl (.c 1 rfl .n))<|wfv 0 rfl (Ad rfl) gn hns rfl<|wfv 1 rfl (Ad rfl) gn hns rfl ?_
    have hr41:=Rw.readF (s:=St w []) (hl:=(hlI .i64)) (h1:=(F9 .i64)) h5 hb35
    refine wfv 2 rfl (Fb (s:=St w []) L8 rfl rfl h5 hb35) gn hns rfl<|wfv 3 rfl (Ie (kk:=(x23:Int).toNat * 1) (j:=0) (St w []) H5 rfl hr41 rfl (me 1 rfl)) gn hns rfl<|wfv 4 rfl (Ad rfl) gn hns rfl<|wfv 5 rfl (Ad rfl) gn hns rfl ?_
    have hr42:=Rw.readF (s:=St w []) (hl:=(hlI .i64)) (h1:=(F9 .i64)) h10 hb37
    refine wfv 6 rfl (Fb (s:=St w []) L8 rfl rfl h10 hb37) gn hns rfl<|wfv 7 rfl (Ie (kk:=(x23:Int).toNat * 1) (j:=0) (St w []) H5 rfl hr42 rfl (me 1 rfl)) gn hns rfl<|wfv 8 rfl (Be rfl rfl rfl) gn hns rfl<|Dz (by kernel_rfl) ?_
    by_cases hp43:ix x1 x23=ix x6 x23
    ·have h:=Ap hp43 h
     refine Bi rfl _ rfl ((Xbu hp43))<|C9 rfl<|D9<|Ac rfl rfl<|Aa 0 rfl (Ad rfl) gn rfl<|Aa 1 rfl (Be rfl rfl rfl) gn rfl<|Aa 2 rfl (Af rfl) gn rfl<|Aj 3 rfl<|Dx ?_
     have ih:=Out.inl hO1 h
     exact D8 [0,1] (ih ()) ⟨rfl,rfl,rfl,trivial⟩ (.slnil) rfl
    ·have h:=Am hp43 h
     refine Bv rfl _ rfl ((Xc1 hp43))<|Ah rfl<|Ac rfl rfl<|Aa 0 rfl (Af rfl) gn rfl<|Aj 1 rfl ?_
     have h:=Out.inr hO1 h
     refine Bq [.bool false] rfl Tryd.func36 rfl (.tmp rfl (.nil)) fun wr hLr=>?_
     have hMr:=hLr.pk0 (.c 1 rfl .n)
     show Jf w F  r (.returned (Ce [.bool false])) wr
     rw [h]
     exact ⟨rfl,hMr⟩
   ·have h:=Am hp34 h
    refine Bi rfl _ rfl ((decide_eq_false hp34))<|Ii [.code Xis] rfl rfl<|Ah rfl<|Ac rfl rfl<|Aa 0 rfl (Af rfl) gn rfl<|Aj 1 rfl ?_
    have h:=Out.inr hO1 h
    refine Bq [.bool true] rfl Tryd.func36 rfl (.tmp rfl (.nil)) fun wr hLr=>?_
    have hMr:=hLr.pk0 (.c 1 rfl .n)
    show Jf w F  r (.returned (Ce [.bool true])) wr
    rw [h]
    exact ⟨rfl,hMr⟩
  exact D8 [0,1] (key1 _ h ()) ⟨rfl,rfl,rfl,trivial⟩ (.slnil) rfl
 ·have h:=Am hp11 h
  refine Bv rfl _ rfl ((Xc1 hp11))<|Ah rfl<|Ac rfl rfl<|Aa 0 rfl (Af rfl) gn rfl<|Aj 1 rfl ?_
  refine Bq [.bool false] rfl Tryd.func36 rfl (.tmp rfl (.nil)) fun wr hLr=>?_
  have hMr:=hLr.pk0 (.c 1 rfl .n)
  show Jf w F  r (.returned (Ce [.bool false])) wr
  rw [h]
  exact ⟨rfl,hMr⟩
end Go.Proofs.YtjookebbmfiidaaDoor.K
