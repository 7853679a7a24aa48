/- What the machine's calls do, function by function, printed by my own tool. Condition of each: its relation holds of the answer, and what is handed in lies in memory as told. -/
import Derived.Test.YtjookebbmfiidaaDoorK4
set_option linter.unusedVariables false
set_option maxRecDepth 100000
set_option maxHeartbeats 4000000
namespace Go.Proofs.YtjookebbmfiidaaDoor.K
open Go.Proofs.YtjookebbmfiidaaDoor.B Go.Proofs.YtjookebbmfiidaaDoor.R Go.RowKit
abbrev Yg (w:World) (F:Nat→Prop) (r:List Int):Ending→World→Prop:=fun e w'=>∃ A0:Option Addr,∃ n0:Nat,∃ c0:Nat,e=.returned (.slice A0 n0 c0)∧B.Loc w w' [.own (.slice A0 n0 c0) 3 1 n0 (r.flatMap (eI .i64))] [St w []]∧Ow w.heap.size A0 n0 c0 r
noncomputable abbrev Xih (w:World) (F:Nat→Prop) (r:List Int):Cx:=⟨Tryd.prog,63,Tryd.f63,13,Yg w F  r,w⟩
theorem Xex (w:World) (F:Nat→Prop) (x1:List Ai) (A2:Option Addr) (n3:Nat) (c4:Nat) (h5:Rw D9 w (St w []).av A2 n3 c4 x1) (hF:∀ b,F b→b < w.heap.size∧∀ o ∈ ([]:List (List Nat)),b ∉ o) (hL0:B.Loc w w [] [Sm w.heap.size F w [],St w []]) (r:List Int) (h:Ym x1 r):Calls Tryd.prog 63 #[.slice A2 n3 c4] w (Yg w F  r):=by
 unfold Ym at h
 refine Bl (vs:=[.slice A2 n3 c4]) 13 Tryd.func63 rfl Tryd.ntmps63 rfl hL0 ?_
 show G (Xih w F r) _ _ _ _
 refine Ag rfl<|Ac rfl rfl<|Aa 0 rfl (Af rfl) gn rfl<|Ah 1 rfl<|Ag rfl<|Ac rfl rfl<|Aa 0 rfl (Ae rfl) gn rfl ?_
 obtain ⟨r9,hv10,h⟩:=h
 refine Ci 1 rfl (D7 [.slice A2 n3 c4] rfl Tryd.func62 rfl rfl rfl fun w6 hL7=>?_) gn
 have hp8:=pmI hL7 .n .n (by kernel_rfl)
 refine Calls.mono (X8 w6 (Fl ([St w []]:List Cc)) x1 A2 n3 c4 (Rw.mono h5 (hL7.toFl (me 1 rfl) (me 0 rfl))) (hL7.hFl hp8 (Bf [1] rfl)) (hL7.into hp8 _) r9 hv10) ?_
 rintro _ w25 ⟨A15,n16,c17,A20,n21,c22,A11,n12,c13,rfl,hM26,h18,h23,h14⟩
 obtain ⟨sv29,hL27,hv28⟩:=hL7.callN (Sl:=([St w []]:List Cc)) hp8 hM26 (Bf [1] rfl)
 have h14:At D9 (sv29) A11 n12 c13 r9.nodes:=Rw.mono h14 hv28
 refine ⟨_,_,_,rfl,hL27,?_⟩
 refine Ci 2 rfl (G9 [.slice none 0 0,.slice none 0 0,.slice none 0 0,.bool false] Xez rfl fun gb30=>?_) gn
 refine Ci 3 rfl (I9 (vs:=[.slice A11 n12 c13,.slice A15 n16 c17,.slice A20 n21 c22,.bool r9.ok]) (cs':=[.slice A11 n12 c13,.slice A15 n16 c17,.slice A20 n21 c22,.bool r9.ok]) (M':=[.box gb30 92 [.slice A11 n12 c13,.slice A15 n16 c17,.slice A20 n21 c22,.bool r9.ok],.own (.slice A15 n16 c17) 3 1 n16 (r9.parent.flatMap (eI .i64)),.own (.slice A20 n21 c22) 3 1 n21 (r9.end_.flatMap (eI .i64))]) 0 Xc9 rfl rfl rfl rfl rfl rfl rfl rfl rfl ?_) gn
 refine Ah 4 rfl<|Ag rfl<|Ag rfl<|Ac rfl rfl<|Aa 0 rfl (Bd Xim rfl) gn rfl<|Aa 1 rfl (Au 0 Xao rfl rfl rfl) gn rfl<|Aa 2 rfl (Oi rfl) gn rfl<|Ah 3 rfl ?_
 by_cases hp32:r9.ok=true
 ·have h:=Ap hp32 h
  refine Bc rfl _ rfl ((nf hp32))<|Bo rfl<|Ag rfl<|Ac rfl rfl<|Aa 0 rfl (Ji [.slice A11 n12 c13,.slice A15 n16 c17,.slice A20 n21 c22,.bool r9.ok] 0 Xg7 rfl rfl rfl rfl) gn rfl<|Aa 1 rfl (Ae rfl) gn rfl<|Aa 2 rfl (D5 V3 rfl h5.hq) gn rfl ?_
  obtain ⟨r36,hv37,h⟩:=h
  refine Ci 3 rfl (D7 [.agg #[.slice A11 n12 c13,.slice A15 n16 c17,.slice A20 n21 c22,.bool r9.ok],.int .i64 0,.int .i64 (x1.length:Int)] rfl Tryd.func65 rfl rfl rfl fun w33 hL34=>?_) gn
  have hp35:=pmI hL34 .n (.c 0 rfl (.c 1 rfl (.c 2 rfl .n))) (by kernel_rfl)
  refine Calls.mono (Vg w33 (Fl ([]:List Cc)) r9 0 (x1.length:Int) A11 n12 c13 A15 n16 c17 A20 n21 c22 (Rw.mono h14 (hL34.toSt hp35 (me 0 rfl))) (hL34.argO (dk:=(Gs .i64)) hp35 [] rfl 1 rfl rfl (Ow.weak hL7.env.size h18) (me 1 rfl) (Cells.flat _)) (hL34.argO (dk:=(Gs .i64)) hp35 [] rfl 2 rfl rfl (Ow.weak hL7.env.size h23) (me 1 rfl) (Cells.flat _)) (hL34.hFl hp35 (Bf [] rfl)) (hL34.into hp35 _) r36 hv37) ?_
  rintro _ w43 ⟨A38,n39,c40,rfl,hM44,h41⟩
  have hL45:=hL34.call hp35 hM44
  refine ⟨_,_,_,rfl,hL45,?_⟩
  refine Aa 4 rfl (Af rfl) gn rfl<|Ah 5 rfl ?_
  refine Bg [.slice A38 n39 c40] rfl Tryd.func63 rfl (.tmp rfl (.nil)) fun wr hLr=>?_
  have hMr:=hLr.pkI (.c 0 rfl .n) (.c 1 rfl (.c 2 rfl (.c 3 rfl .n))) (by kernel_rfl) (.c 2 rfl .n)
  show Yg w F  r (.returned (Bz [.slice A38 n39 c40])) wr
  rw [h]
  exact ⟨A38,n39,c40,rfl,hMr,(Ow.weak hL34.env.size h41)⟩
 ·have h:=Am hp32 h
  refine Bi rfl _ rfl ((nt (bf hp32)))<|Ag rfl<|Ac rfl rfl<|Aa 0 rfl (Af rfl) gn rfl<|Ah 1 rfl<|Td 3 1 ?_
  refine Bg [.slice none 0 0] rfl Tryd.func63 rfl (.tmp rfl (.nil)) fun wr hLr=>?_
  have hMr:=hLr.pkI (.c 0 rfl .n) (.c 1 rfl (.c 2 rfl (.c 3 rfl .n))) (by kernel_rfl) (.c 2 rfl .n)
  show Yg w F  r (.returned (Bz [.slice none 0 0])) wr
  rw [h]
  exact ⟨none,0,0,rfl,hMr,(Ow.nil (z:=w.heap.size))⟩
abbrev Ya (w:World) (F:Nat→Prop) (r:Int):Ending→World→Prop:=fun e w'=>e=.returned (.int .i64 r)∧B.Loc w w' [] [St w []]
noncomputable abbrev Xif (w:World) (F:Nat→Prop) (r:Int):Cx:=⟨Tryd.prog,30,Tryd.f30,10,Ya w F  r,w⟩
theorem Xec (w:World) (F:Nat→Prop) (x1:List Ai) (A2:Option Addr) (n3:Nat) (c4:Nat) (h5:Rw D9 w (St w []).av A2 n3 c4 x1) (hF:∀ b,F b→b < w.heap.size∧∀ o ∈ ([]:List (List Nat)),b ∉ o) (hL0:B.Loc w w [] [Sm w.heap.size F w [],St w []]) (r:Int) (h:Yq x1 r):Calls Tryd.prog 30 #[.slice A2 n3 c4] w (Ya w F  r):=by
 unfold Yq at h
 refine Bl (vs:=[.slice A2 n3 c4]) 10 Tryd.func30 rfl Tryd.ntmps30 rfl hL0 ?_
 show G (Xif w F r) _ _ _ _
 refine Ag rfl<|Ac rfl rfl<|Aa 0 rfl (Af rfl) gn rfl<|Ah 1 rfl<|Ag rfl<|Ag rfl<|Ac rfl rfl<|Aa 0 rfl (Ae rfl) gn rfl ?_
 obtain ⟨r9,hv10,h⟩:=h
 refine Ci 1 rfl (D7 [.slice A2 n3 c4] rfl Tryd.func62 rfl rfl rfl fun w6 hL7=>?_) gn
 have hp8:=pmI hL7 .n .n (by kernel_rfl)
 refine Calls.mono (X8 w6 (Fl ([St w []]:List Cc)) x1 A2 n3 c4 (Rw.mono h5 (hL7.toFl (me 1 rfl) (me 0 rfl))) (hL7.hFl hp8 (Bf [1] rfl)) (hL7.into hp8 _) r9 hv10) ?_
 rintro _ w25 ⟨A15,n16,c17,A20,n21,c22,A11,n12,c13,rfl,hM26,h18,h23,h14⟩
 obtain ⟨sv29,hL27,hv28⟩:=hL7.callN (Sl:=([St w []]:List Cc)) hp8 hM26 (Bf [1] rfl)
 have h14:At D9 (sv29) A11 n12 c13 r9.nodes:=Rw.mono h14 hv28
 refine ⟨_,_,_,rfl,hL27,?_⟩
 refine Aa 2 rfl (v_field1 fd_92_3 rfl rfl) gn rfl<|Aa 3 rfl (Oi rfl) gn rfl<|Ah 4 rfl ?_
 by_cases hp30:r9.ok=true
 ·have h:=Ap hp30 h
  refine Bc rfl _ rfl ((nf hp30))<|Bo rfl<|Ag rfl<|Ac rfl rfl<|Aa 0 rfl (Ae rfl) gn rfl ?_
  obtain ⟨r34,hv35,h⟩:=h
  refine Ci 1 rfl (D7 [.slice A2 n3 c4] rfl Tryd.func63 rfl rfl rfl fun w31 hL32=>?_) gn
  have hp33:=pmI hL32 .n (.c 0 rfl (.c 1 rfl .n)) (by kernel_rfl)
  refine Calls.mono (Xex w31 (Fl ([]:List Cc)) x1 A2 n3 c4 (Rw.mono h5 (hL32.toSt hp33 (me 2 rfl))) (hL32.hFl hp33 (Bf [] rfl)) (hL32.into hp33 _) r34 hv35) ?_
  rintro _ w41 ⟨A36,n37,c38,rfl,hM42,h39⟩
  have hL43:=hL32.call hp33 hM42
  refine ⟨_,_,_,rfl,hL43,?_⟩
  refine Aa 2 rfl (D5 Iy rfl (Ow.weak hL32.env.size h39).hq) gn rfl<|Aa 3 rfl (Af rfl) gn rfl<|Ah 4 rfl ?_
  refine Bg [.int .i64 (r34.length:Int)] rfl Tryd.func30 rfl (.tmp rfl (.nil)) fun wr hLr=>?_
  have hMr:=hLr.pk0 (.c 2 rfl .n)
  show Ya w F  r (.returned (Bz [.int .i64 (r34.length:Int)])) wr
  rw [h]
  exact ⟨rfl,hMr⟩
 ·have h:=Am hp30 h
  refine Bi rfl _ rfl ((nt (bf hp30)))<|Ag rfl<|Ac rfl rfl<|Aa 0 rfl (Af rfl) gn rfl<|Ah 1 rfl ?_
  refine Bg [.int .i64 (-1)] rfl Tryd.func30 rfl (.tmp rfl (.nil)) fun wr hLr=>?_
  have hMr:=hLr.pk0 (.c 2 rfl .n)
  show Ya w F  r (.returned (Bz [.int .i64 (-1)])) wr
  rw [h]
  exact ⟨rfl,hMr⟩
abbrev Qa (w:World) (F:Nat→Prop) (r:Bool):Ending→World→Prop:=fun e w'=>e=.returned (.bool r)∧B.Loc w w' [] [St w []]
noncomputable abbrev Xde (w:World) (F:Nat→Prop) (r:Bool):Cx:=⟨Tryd.prog,64,Tryd.f64,18,Qa w F  r,w⟩
theorem Xaz (w:World) (F:Nat→Prop) (x1:Fj) (x14:Int) (A2:Option Addr) (n3:Nat) (c4:Nat) (A6:Option Addr) (n7:Nat) (c8:Nat) (A10:Option Addr) (n11:Nat) (c12:Nat) (h5:Rw D9 w (St w []).av A2 n3 c4 x1.nodes) (h9:Rw (Gs .i64) w (St w []).av A6 n7 c8 x1.parent) (h13:Rw (Gs .i64) w (St w []).av A10 n11 c12 x1.end_) (hF:∀ b,F b→b < w.heap.size∧∀ o ∈ ([]:List (List Nat)),b ∉ o) (hL0:B.Loc w w [] [Sm w.heap.size F w [],St w []]) (r:Bool) (h:Ti x1 x14 r):Calls Tryd.prog 64 #[.agg #[.slice A2 n3 c4,.slice A6 n7 c8,.slice A10 n11 c12,.bool x1.ok],.int .i64 x14] w (Qa w F  r):=by
 unfold Ti at h
 refine Bl (vs:=[.agg #[.slice A2 n3 c4,.slice A6 n7 c8,.slice A10 n11 c12,.bool x1.ok],.int .i64 x14]) 18 Tryd.func64 rfl Tryd.ntmps64 rfl hL0 ?_
 show G (Xde w F r) _ _ _ _
 refine Ag rfl<|Ac rfl rfl ?_
 refine Ci 0 rfl (O3 [.slice A2 n3 c4,.slice A6 n7 c8,.slice A10 n11 c12,.bool x1.ok] rfl rfl rfl fun gb15=>?_) gn
 refine Aa 1 rfl (Af rfl) gn rfl<|Ah 2 rfl<|Ag rfl<|Ac rfl rfl<|Aa 0 rfl (Bd Xim rfl) gn rfl<|Aa 1 rfl (Au 0 Xao rfl rfl rfl) gn rfl<|Aa 2 rfl (Ae rfl) gn rfl ?_
 by_cases hp17:x1.ok=true
 ·have h:=Ap hp17 h
  refine Bh 7 rfl (hp17)<|Aa 3 rfl (Ae rfl) (gy 7 rfl rfl) rfl<|Aa 4 rfl (Ba rfl rfl rfl) (gy 7 rfl rfl) rfl<|Aa 5 rfl (Aw (b:=true) rfl rfl) gn rfl<|Aa 6 rfl (Ae rfl) gn rfl ?_
  by_cases hp18:x14≥0
  ·have h:=Ap hp18 h
   refine Bh 11 rfl ((decide_eq_true hp18))<|Aa 7 rfl (Ae rfl) (gy 11 rfl rfl) rfl<|Aa 8 rfl (Bd fo_92_0 rfl) (gy 11 rfl rfl) rfl<|Aa 9 rfl (Au 0 Zv rfl rfl rfl) (gy 11 rfl rfl) rfl<|Aa 10 rfl (D5 V3 rfl h5.hq) (gy 11 rfl rfl) rfl<|Aa 11 rfl (Ba rfl rfl rfl) (gy 11 rfl rfl) rfl<|Aa 12 rfl (Aw (b:=true) rfl rfl) gn rfl<|Aa 13 rfl (Af rfl) gn rfl<|Ah 14 rfl ?_
   refine Bg [.bool (decide (x14 < (x1.nodes.length:Int)))] rfl Tryd.func64 rfl (.tmp rfl (.nil)) fun wr hLr=>?_
   have hMr:=hLr.pk0 (.c 1 rfl .n)
   show Qa w F  r (.returned (Bz [.bool (decide (x14 < (x1.nodes.length:Int)))])) wr
   rw [h]
   exact ⟨rfl,hMr⟩
  ·have h:=Am hp18 h
   refine Bh 11 rfl ((decide_eq_false hp18))<|Ad 7 rfl (ps 11 rfl rfl rfl)<|Ad 8 rfl (ps 11 rfl rfl rfl)<|Ad 9 rfl (ps 11 rfl rfl rfl)<|Ad 10 rfl (ps 11 rfl rfl rfl)<|Ad 11 rfl (ps 11 rfl rfl rfl)<|Aa 12 rfl (Aw (b:=false) rfl rfl) gn rfl<|Aa 13 rfl (Af rfl) gn rfl<|Ah 14 rfl ?_
   refine Bg [.bool false] rfl Tryd.func64 rfl (.tmp rfl (.nil)) fun wr hLr=>?_
   have hMr:=hLr.pk0 (.c 1 rfl .n)
   show Qa w F  r (.returned (Bz [.bool false])) wr
   rw [h]
   exact ⟨rfl,hMr⟩
 ·have h:=Am hp17 h
  refine Bh 7 rfl ((bf hp17))<|Ad 3 rfl (ps 7 rfl rfl rfl)<|Ad 4 rfl (ps 7 rfl rfl rfl)<|Aa 5 rfl (Aw (b:=false) rfl rfl) gn rfl<|Aa 6 rfl (Ae rfl) gn rfl<|Ad 7 rfl (ps 11 rfl rfl rfl)<|Ad 8 rfl (ps 11 rfl rfl rfl)<|Ad 9 rfl (ps 11 rfl rfl rfl)<|Ad 10 rfl (ps 11 rfl rfl rfl)<|Ad 11 rfl (ps 11 rfl rfl rfl)<|Aa 12 rfl (Aw (b:=false) rfl rfl) gn rfl<|Aa 13 rfl (Af rfl) gn rfl ?_
  refine Ah 14 rfl ?_
  refine Bg [.bool false] rfl Tryd.func64 rfl (.tmp rfl (.nil)) fun wr hLr=>?_
  have hMr:=hLr.pk0 (.c 1 rfl .n)
  show Qa w F  r (.returned (Bz [.bool false])) wr
  rw [h]
  exact ⟨rfl,hMr⟩
noncomputable abbrev q35c11:=Code.fst (Code.snd (Code.snd (Code.snd (Df Tryd.f35))))
abbrev Z7 (w:World) (F:Nat→Prop) (r:List Int):Ending→World→Prop:=fun e w'=>∃ A0:Option Addr,∃ n0:Nat,∃ c0:Nat,e=.returned (.slice A0 n0 c0)∧B.Loc w w' [.own (.slice A0 n0 c0) 3 1 n0 (r.flatMap (eI .i64))] [St w []]∧Ow w.heap.size A0 n0 c0 r
noncomputable abbrev Xk2 (w:World) (F:Nat→Prop) (r:List Int):Cx:=⟨Tryd.prog,35,Tryd.f35,21,Z7 w F  r,w⟩
theorem Hq (w:World) (F:Nat→Prop) (x1:List Ai) (x6:Int) (A2:Option Addr) (n3:Nat) (c4:Nat) (h5:Rw D9 w (St w []).av A2 n3 c4 x1) (hF:∀ b,F b→b < w.heap.size∧∀ o ∈ ([]:List (List Nat)),b ∉ o) (hL0:B.Loc w w [] [Sm w.heap.size F w [],St w []]) (r:List Int) (h:Xa9 x1 x6 r):Calls Tryd.prog 35 #[.slice A2 n3 c4,.int .i64 x6] w (Z7 w F  r):=by
 unfold Xa9 at h
 refine Bl (vs:=[.slice A2 n3 c4,.int .i64 x6]) 21 Tryd.func35 rfl Tryd.ntmps35 rfl hL0 ?_
 show G (Xk2 w F r) _ _ _ _
 refine Ag rfl<|Ac rfl rfl<|Aa 0 rfl (Af rfl) gn rfl<|Ah 1 rfl<|Ag rfl<|Ac rfl rfl<|Aa 0 rfl (Ae rfl) gn rfl ?_
 obtain ⟨r10,hv11,h⟩:=h
 refine Ci 1 rfl (D7 [.slice A2 n3 c4] rfl Tryd.func62 rfl rfl rfl fun w7 hL8=>?_) gn
 have hp9:=pmI hL8 .n .n (by kernel_rfl)
 refine Calls.mono (X8 w7 (Fl ([St w []]:List Cc)) x1 A2 n3 c4 (Rw.mono h5 (hL8.toFl (me 1 rfl) (me 0 rfl))) (hL8.hFl hp9 (Bf [1] rfl)) (hL8.into hp9 _) r10 hv11) ?_
 rintro _ w26 ⟨A16,n17,c18,A21,n22,c23,A12,n13,c14,rfl,hM27,h19,h24,h15⟩
 obtain ⟨sv30,hL28,hv29⟩:=hL8.callN (Sl:=([St w []]:List Cc)) hp9 hM27 (Bf [1] rfl)
 have h15:At D9 (sv30) A12 n13 c14 r10.nodes:=Rw.mono h15 hv29
 refine ⟨_,_,_,rfl,hL28,?_⟩
 refine Ci 2 rfl (G9 [.slice none 0 0,.slice none 0 0,.slice none 0 0,.bool false] Xez rfl fun gb31=>?_) gn
 refine Ci 3 rfl (I9 (vs:=[.slice A12 n13 c14,.slice A16 n17 c18,.slice A21 n22 c23,.bool r10.ok]) (cs':=[.slice A12 n13 c14,.slice A16 n17 c18,.slice A21 n22 c23,.bool r10.ok]) (M':=[.box gb31 92 [.slice A12 n13 c14,.slice A16 n17 c18,.slice A21 n22 c23,.bool r10.ok],.own (.slice A16 n17 c18) 3 1 n17 (r10.parent.flatMap (eI .i64)),.own (.slice A21 n22 c23) 3 1 n22 (r10.end_.flatMap (eI .i64))]) 0 Xc9 rfl rfl rfl rfl rfl rfl rfl rfl rfl ?_) gn
 refine Ah 4 rfl<|Ag rfl<|Ag rfl<|Ac rfl rfl<|Aa 0 rfl (Ji [.slice A12 n13 c14,.slice A16 n17 c18,.slice A21 n22 c23,.bool r10.ok] 0 Xg7 rfl rfl rfl rfl) gn rfl<|Aa 1 rfl (Ae rfl) gn rfl ?_
 obtain ⟨r36,hv37,h⟩:=h
 refine Ci 2 rfl (D7 [.agg #[.slice A12 n13 c14,.slice A16 n17 c18,.slice A21 n22 c23,.bool r10.ok],.int .i64 x6] rfl Tryd.func64 rfl rfl rfl fun w33 hL34=>?_) gn
 have hp35:=pmI hL34 .n (.c 0 rfl (.c 1 rfl (.c 2 rfl .n))) (by kernel_rfl)
 refine Calls.mono (Xaz w33 (Fl ([]:List Cc)) r10 x6 A12 n13 c14 A16 n17 c18 A21 n22 c23 (Rw.mono h15 (hL34.toSt hp35 (me 0 rfl))) (hL34.argO (dk:=(Gs .i64)) hp35 [] rfl 1 rfl rfl (Ow.weak hL8.env.size h19) (me 1 rfl) (Cells.flat _)) (hL34.argO (dk:=(Gs .i64)) hp35 [] rfl 2 rfl rfl (Ow.weak hL8.env.size h24) (me 1 rfl) (Cells.flat _)) (hL34.hFl hp35 (Bf [] rfl)) (hL34.into hp35 _) r36 hv37) ?_
 rintro _ w38 ⟨rfl,hM39⟩
 have hL40:=hL34.call hp35 hM39
 refine ⟨_,_,_,rfl,hL40,?_⟩
 refine Aa 3 rfl (Oi rfl) gn rfl<|Ah 4 rfl ?_
 by_cases hp41:r36=true
 ·have h:=Ap hp41 h
  refine Bc rfl _ rfl ((nf hp41))<|Bo rfl<|Ag rfl ?_
  obtain ⟨hb42,h⟩:=h
  obtain ⟨r46,hv47,h⟩:=h
  have hns:Region.noSelect (Code.ops q35c11)=true:=by kernel_rfl
  refine J7 [] 10 rfl rfl mix rfl (.c 0 rfl (.c 1 rfl (.c 2 rfl .n)))<|wfv 0 rfl (Ji [.slice A12 n13 c14,.slice A16 n17 c18,.slice A21 n22 c23,.bool r10.ok] 0 Xg7 rfl rfl rfl rfl) gn hns rfl<|wfv 1 rfl (Ae rfl) gn hns rfl<|wfv 2 rfl (Ba rfl rfl rfl) gn hns rfl<|wfv 3 rfl (Bd Xib rfl) gn hns rfl<|wfv 4 rfl (Au 0 Xm rfl rfl rfl) gn hns rfl<|wfv 5 rfl (Ae rfl) gn hns rfl<|wfv 6 rfl (Ec Jb rfl rfl (Ow.weak hL8.env.size h24) hb42) gn hns rfl<|wfv 7 rfl (Py (.int .i64 (ix r10.end_ x6)) 2 O9 rfl rfl (U6 (hlI .i64) hb42 rfl)) gn hns rfl ?_
  refine Cf [8] (by kernel_rfl) rfl ⟨Ej 8 rfl gn rfl (D7 [.agg #[.slice A12 n13 c14,.slice A16 n17 c18,.slice A21 n22 c23,.bool r10.ok],.int .i64 (w64 (x6 + 1)),.int .i64 (ix r10.end_ x6)] rfl Tryd.func65 rfl rfl rfl fun w86 hL87=>?_),trivial⟩
  have hp88:=pmI hL87 .n (.c 0 rfl (.c 1 rfl (.c 2 rfl .n))) (by kernel_rfl)
  refine Calls.mono (Vg w86 (Fl ([]:List Cc)) r10 (w64 (x6 + 1)) (ix r10.end_ x6) A12 n13 c14 A16 n17 c18 A21 n22 c23 (Rw.mono h15 (hL87.toSt hp88 (me 0 rfl))) (hL87.argO (dk:=(Gs .i64)) hp88 [] rfl 1 rfl rfl (Ow.weak hL8.env.size h19) (me 1 rfl) (Cells.flat _)) (hL87.argO (dk:=(Gs .i64)) hp88 [] rfl 2 rfl rfl (Ow.weak hL8.env.size h24) (me 1 rfl) (Cells.flat _)) (hL87.hFl hp88 (Bf [] rfl)) (hL87.into hp88 _) r46 hv47) ?_
  rintro _ w93 ⟨A89,n90,c91,rfl,hM94,h92⟩
  have hL95:=hL87.call hp88 hM94
  refine ⟨_,_,_,rfl,hL95,?_⟩
  refine ⟨Bf [1,2,3] rfl,Bf [0,1,2] rfl,?_⟩
  refine wfv 9 rfl (Af rfl) gn hns rfl<|Et (by kernel_rfl) ?_
  refine Bg [.slice A89 n90 c91] rfl Tryd.func35 rfl (.tmp rfl (.nil)) fun wr hLr=>?_
  have hMr:=hLr.pkI (.c 0 rfl .n) (.c 1 rfl (.c 2 rfl (.c 3 rfl .n))) (by kernel_rfl) (.c 2 rfl .n)
  show Z7 w F  r (.returned (Bz [.slice A89 n90 c91])) wr
  rw [h]
  exact ⟨A89,n90,c91,rfl,hMr,(Ow.weak hL87.env.size h92)⟩
 ·have h:=Am hp41 h
  refine Bi rfl _ rfl ((nt (bf hp41)))<|Ag rfl<|Ac rfl rfl<|Aa 0 rfl (Af rfl) gn rfl<|Ah 1 rfl<|Td 3 1 ?_
  refine Bg [.slice none 0 0] rfl Tryd.func35 rfl (.tmp rfl (.nil)) fun wr hLr=>?_
  have hMr:=hLr.pkI (.c 0 rfl .n) (.c 1 rfl (.c 2 rfl (.c 3 rfl .n))) (by kernel_rfl) (.c 2 rfl .n)
  show Z7 w F  r (.returned (Bz [.slice none 0 0])) wr
  rw [h]
  exact ⟨none,0,0,rfl,hMr,(Ow.nil (z:=w.heap.size))⟩
noncomputable abbrev q70c4:=Code.snd (Code.snd (Df Tryd.f70))
noncomputable abbrev q70c7:=Code.fst (Code.snd (Code.fst (Code.snd (Df Tryd.f70))))
abbrev Q9 (w:World) (F:Nat→Prop) (g2:Nat) (Tb3:Nat) (A12:Option Addr) (n13:Nat) (c14:Nat) (z16:Nat) (A20:Option Addr) (n21:Nat) (c22:Nat) (z24:Nat) (A4:Option Addr) (n5:Nat) (c6:Nat) (A8:Option Addr) (n9:Nat) (c10:Nat) (r:(List Int) × Az):Ending→World→Prop:=fun e w'=>∃ Ar3:Option Addr,∃ nr3:Nat,∃ cr3:Nat,∃ cs3:List Value,∃ Ar4:Option Addr,∃ nr4:Nat,∃ cr4:Nat,∃ Ar0:Option Addr,∃ nr0:Nat,∃ cr0:Nat,e=.returned (.slice Ar0 nr0 cr0)∧B.Loc w w' [.box g2 Tb3 [.slice A4 n5 c6,.slice A8 n9 c10,.slice Ar3 nr3 cr3,.slice Ar4 nr4 cr4],.own (.slice Ar3 nr3 cr3) 36 1 nr3 cs3,.own (.slice Ar4 nr4 cr4) 4 1 nr4 (r.2.known.flatMap eB)] [St w [[g2],(Value.slice A12 n13 c14).ownBlock.toList,(Value.slice A20 n21 c22).ownBlock.toList]]∧Ow z16 Ar3 nr3 cr3 r.2.of∧Cells (Kd.slice (Gs .i64)) w' (Nw w w' F [.box g2 Tb3 [.slice A4 n5 c6,.slice A8 n9 c10,.slice Ar3 nr3 cr3,.slice Ar4 nr4 cr4],.own (.slice Ar3 nr3 cr3) 36 1 nr3 cs3,.own (.slice Ar4 nr4 cr4) 4 1 nr4 (r.2.known.flatMap eB)]) r.2.of cs3∧Ow z24 Ar4 nr4 cr4 r.2.known∧Rw (Gs .i64) w' (Nw w w' F [.box g2 Tb3 [.slice A4 n5 c6,.slice A8 n9 c10,.slice Ar3 nr3 cr3,.slice Ar4 nr4 cr4],.own (.slice Ar3 nr3 cr3) 36 1 nr3 cs3,.own (.slice Ar4 nr4 cr4) 4 1 nr4 (r.2.known.flatMap eB)]) Ar0 nr0 cr0 r.1
noncomputable abbrev Xn (w:World) (F:Nat→Prop) (g2:Nat) (Tb3:Nat) (A12:Option Addr) (n13:Nat) (c14:Nat) (z16:Nat) (A20:Option Addr) (n21:Nat) (c22:Nat) (z24:Nat) (A4:Option Addr) (n5:Nat) (c6:Nat) (A8:Option Addr) (n9:Nat) (c10:Nat) (r:(List Int) × Az):Cx:=⟨Tryd.prog,70,Tryd.f70,38,Q9 w F g2 Tb3 A12 n13 c14 z16 A20 n21 c22 z24 A4 n5 c6 A8 n9 c10 r,w⟩
theorem Zi (w:World) (F:Nat→Prop) (x1:Az) (x26:Int) (g2:Nat) (Tb3:Nat) (A4:Option Addr) (n5:Nat) (c6:Nat) (A8:Option Addr) (n9:Nat) (c10:Nat) (z16:Nat) (A12:Option Addr) (n13:Nat) (c14:Nat) (cs18:List Value) (z24:Nat) (A20:Option Addr) (n21:Nat) (c22:Nat) (h7:Rw Cb w (St w [[g2],(Value.slice A12 n13 c14).ownBlock.toList,(Value.slice A20 n21 c22).ownBlock.toList]).av A4 n5 c6 x1.nodes) (h11:Rw D9 w (St w [[g2],(Value.slice A12 n13 c14).ownBlock.toList,(Value.slice A20 n21 c22).ownBlock.toList]).av A8 n9 c10 x1.tree) (hz17:z16≤w.heap.size) (h15:Ow z16 A12 n13 c14 x1.of) (hC19:Cells (Kd.slice (Gs .i64)) w F x1.of cs18) (hz25:z24≤w.heap.size) (h23:Ow z24 A20 n21 c22 x1.known) (hF:∀ b,F b→b < w.heap.size∧∀ o ∈ ([[g2],(Value.slice A12 n13 c14).ownBlock.toList,(Value.slice A20 n21 c22).ownBlock.toList]:List (List Nat)),b ∉ o) (hL0:B.Loc w w [.box g2 Tb3 [.slice A4 n5 c6,.slice A8 n9 c10,.slice A12 n13 c14,.slice A20 n21 c22],.own (.slice A12 n13 c14) 36 1 n13 cs18,.own (.slice A20 n21 c22) 4 1 n21 (x1.known.flatMap eB)] [Sm w.heap.size F w [[g2],(Value.slice A12 n13 c14).ownBlock.toList,(Value.slice A20 n21 c22).ownBlock.toList],St w [[g2],(Value.slice A12 n13 c14).ownBlock.toList,(Value.slice A20 n21 c22).ownBlock.toList]]) (r:(List Int) × Az) (h:P6 x1 x26 r):Calls Tryd.prog 70 #[.pointer (some ⟨g2,0,none⟩),.int .i64 x26] w (Q9 w F g2 Tb3 A12 n13 c14 z16 A20 n21 c22 z24 A4 n5 c6 A8 n9 c10 r):=by
 unfold P6 at h
 have hC19:=Cells.into (bs:=[[g2],(Value.slice A12 n13 c14).ownBlock.toList,(Value.slice A20 n21 c22).ownBlock.toList]) hF hC19
 refine Bl (vs:=[.pointer (some ⟨g2,0,none⟩),.int .i64 x26]) 38 Tryd.func70 rfl Tryd.ntmps70 rfl hL0 ?_
 show G (Xn w F g2 Tb3 A12 n13 c14 z16 A20 n21 c22 z24 A4 n5 c6 A8 n9 c10 r) _ _ _ _
 refine Ag rfl<|Ac rfl rfl<|Aa 0 rfl (Af rfl) gn rfl<|Ah 1 rfl<|Ag rfl<|Ag rfl<|Ac rfl rfl<|Aa 0 rfl (Ae rfl) gn rfl<|Aa 1 rfl (Uh rfl) gn rfl<|Aa 2 rfl (Bd Xl9 rfl) gn rfl<|Aa 3 rfl (Au 0 Xcc rfl rfl rfl) gn rfl<|Aa 4 rfl (Ae rfl) gn rfl ?_
 obtain ⟨hb27,h⟩:=h
 refine Aa 5 rfl (Ec Xa rfl rfl h23 hb27) gn rfl<|Aa 6 rfl (Py (.bool (ix x1.known x26)) 2 Xao rfl rfl (U6 hlB hb27 rfl)) gn rfl<|Aa 7 rfl (Oi rfl) gn rfl<|Ah 8 rfl ?_
 by_cases hp28:(ix x1.known x26)=true
 ·have h:=Ap hp28 h
  refine Bc rfl _ rfl ((nf hp28))<|Bo rfl<|Ag rfl<|Ac rfl rfl<|Aa 0 rfl (Ae rfl) gn rfl<|Aa 1 rfl (Uh rfl) gn rfl<|Aa 2 rfl (Bd Xi5 rfl) gn rfl<|Aa 3 rfl (Au 0 Xbg rfl rfl rfl) gn rfl<|Aa 4 rfl (Ae rfl) gn rfl ?_
  obtain ⟨hb29,h⟩:=h
  obtain ⟨ce30,hK31,ht32,hg33⟩:=Cells.get hC19 hb29
  obtain ⟨A34,n35,c36,rfl,h37⟩:=hK31
  refine Aa 5 rfl (Ec Wx rfl rfl h15 hb29) gn rfl<|Aa 6 rfl (Py (.slice A34 n35 c36) 1 Xm rfl rfl (hg33 0 _ rfl)) gn rfl<|Aa 7 rfl (Af rfl) gn rfl<|Ah 8 rfl ?_
  refine Bg [.slice A34 n35 c36] rfl Tryd.func70 rfl (.tmp rfl (.nil)) fun wr hLr=>?_
  have hMr:=hLr.pkI (.c 0 rfl (.c 1 rfl (.c 2 rfl .n))) .n (by kernel_rfl) (.c 1 rfl .n)
  have hMi:=hLr.selI (.c 0 rfl (.c 1 rfl (.c 2 rfl .n)))
  show Q9 w F g2 Tb3 A12 n13 c14 z16 A20 n21 c22 z24 A4 n5 c6 A8 n9 c10 r (.returned (Bz [.slice A34 n35 c36])) wr
  rw [h]
  exact ⟨A12,n13,c14,cs18,A20,n21,c22,A34,n35,c36,rfl,hMr,h15,(hLr.outC (s:=Sm w.heap.size F w [[g2],(Value.slice A12 n13 c14).ownBlock.toList,(Value.slice A20 n21 c22).ownBlock.toList]) hMi (me 0 rfl) Sm.ok hC19),h23,(hLr.outR (s:=Sm w.heap.size F w [[g2],(Value.slice A12 n13 c14).ownBlock.toList,(Value.slice A20 n21 c22).ownBlock.toList]) hMi (me 0 rfl) Sm.ok h37)⟩
 ·have h:=Am hp28 h
  refine Bi rfl _ rfl ((nt (bf hp28))) ?_
  obtain ⟨r41,hv42,h⟩:=h
  obtain ⟨hb51,h⟩:=h
  obtain ⟨x66,hv67,h⟩:=h
  obtain ⟨x72,hv73,h⟩:=h
  have d1:∀ (h524:Ow z16 A12 n13 c14 x66) (cs525:List Value) (sw526:World) (sb527:List (List Nat)) (hC528:Cells (Kd.slice (Gs .i64)) (Sm w.heap.size F sw526 sb527).w (Sm w.heap.size F sw526 sb527).av x66 cs525) (h529:Ow z24 A20 n21 c22 x72),G (Xn w F g2 Tb3 A12 n13 c14 z16 A20 n21 c22 z24 A4 n5 c6 A8 n9 c10 r) [.code q70c4] [(0,.pointer (some ⟨g2,0,none⟩)),(1,.int .i64 x26)] [.box g2 Tb3 [.slice A4 n5 c6,.slice A8 n9 c10,.slice A12 n13 c14,.slice A20 n21 c22],.own (.slice A12 n13 c14) 36 1 n13 cs525,.own (.slice A20 n21 c22) 4 1 n21 (x72.flatMap eB)] [Sm w.heap.size F sw526 sb527,Sm w.heap.size F w [[g2],(Value.slice A12 n13 c14).ownBlock.toList,(Value.slice A20 n21 c22).ownBlock.toList],St w [[g2],(Value.slice A12 n13 c14).ownBlock.toList,(Value.slice A20 n21 c22).ownBlock.toList]]:=by
   intro h524 cs525 sw526 sb527 hC528 h529
   refine Ag rfl<|Ac rfl rfl<|Aa 0 rfl (Ae rfl) gn rfl<|Aa 1 rfl (Uh rfl) gn rfl<|Aa 2 rfl (Bd Xi5 rfl) gn rfl<|Aa 3 rfl (Au 0 Xbg rfl rfl rfl) gn rfl<|Aa 4 rfl (Ae rfl) gn rfl ?_
   obtain ⟨hb530,h⟩:=h
   obtain ⟨ce531,hK532,ht533,hg534⟩:=Cells.get hC528 hb530
   obtain ⟨A535,n536,c537,rfl,h538⟩:=hK532
   refine Aa 5 rfl (Ec Wx rfl rfl h524 hb530) gn rfl<|Aa 6 rfl (Py (.slice A535 n536 c537) 1 Xm rfl rfl (hg534 0 _ rfl)) gn rfl<|Aa 7 rfl (Af rfl) gn rfl<|Ah 8 rfl ?_
   refine Bg [.slice A535 n536 c537] rfl Tryd.func70 rfl (.tmp rfl (.nil)) fun wr hLr=>?_
   have hMr:=hLr.pkI (.c 0 rfl (.c 1 rfl (.c 2 rfl .n))) .n (by kernel_rfl) (.c 2 rfl .n)
   have hMi:=hLr.selI (.c 0 rfl (.c 1 rfl (.c 2 rfl .n)))
   show Q9 w F g2 Tb3 A12 n13 c14 z16 A20 n21 c22 z24 A4 n5 c6 A8 n9 c10 r (.returned (Bz [.slice A535 n536 c537])) wr
   rw [h]
   exact ⟨A12,n13,c14,cs525,A20,n21,c22,A535,n536,c537,rfl,hMr,h524,(hLr.outC (s:=Sm w.heap.size F sw526 sb527) hMi (me 0 rfl) Sm.ok hC528),h529,(hLr.outR (s:=Sm w.heap.size F sw526 sb527) hMi (me 0 rfl) Sm.ok h538)⟩
  have hns:Region.noSelect (Code.ops q70c7)=true:=by kernel_rfl
  refine Xbt [.own (.slice A20 n21 c22) 4 1 n21 (x1.known.flatMap eB)] [Sm w.heap.size F w [[g2],(Value.slice A12 n13 c14).ownBlock.toList,(Value.slice A20 n21 c22).ownBlock.toList],St w [[g2],(Value.slice A12 n13 c14).ownBlock.toList,(Value.slice A20 n21 c22).ownBlock.toList]] [19] 20 rfl rfl mix rfl (.cons _ (.cons _ (.cons_cons _ (.slnil)))) (Bf [0,1] rfl)<|wfv 0 rfl (Ae rfl) gn hns (by kernel_rfl)<|wfv 1 rfl (Uh rfl) gn hns (by kernel_rfl)<|wfv 2 rfl (Bd Xi5 rfl) gn hns (by kernel_rfl)<|wfv 4 rfl (Ae rfl) gn hns (by kernel_rfl)<|wfv 5 rfl (Ae rfl) gn hns (by kernel_rfl)<|wfv 6 rfl (Uh rfl) gn hns (by kernel_rfl)<|wfv 7 rfl (Bd Xl9 rfl) gn hns (by kernel_rfl)<|wfv 9 rfl (Ae rfl) gn hns (by kernel_rfl)<|wfv 10 rfl (Ae rfl) gn hns (by kernel_rfl)<|wfv 11 rfl (Uh rfl) gn hns (by kernel_rfl)<|wfv 12 rfl (Bd Xlj rfl) gn hns (by kernel_rfl) ?_
  refine wfv 14 rfl (Ae rfl) gn hns (by kernel_rfl) ?_
  refine Cf [3,8,13] (by kernel_rfl) rfl ⟨?_,?_,?_,trivial⟩
  ·refine Ej 3 rfl gn rfl (Ob (Au 0 Xbg rfl rfl rfl) rfl ?_)
   refine ⟨Bf [2] rfl,Bf [0,1] rfl,?_⟩
   refine Cf [8,13] (by kernel_rfl) rfl ⟨?_,?_,trivial⟩
   ·refine Ej 8 rfl gn rfl (Ob (Au 0 Xcc rfl rfl rfl) rfl ?_)
    refine ⟨Bf [2] rfl,Bf [0,1] rfl,?_⟩
    refine Cf [13] (by kernel_rfl) rfl ⟨Ej 13 rfl gn rfl (Ob (Au 0 Zv rfl rfl rfl) rfl ?_),trivial⟩
    refine ⟨Bf [2] rfl,Bf [0,1] rfl,?_⟩
    refine Cf [15] (by kernel_rfl) rfl ⟨Ej 15 rfl gn rfl (D7 [.slice A8 n9 c10,.int .i64 x26] rfl Tryd.func35 rfl rfl rfl fun w549 hL550=>?_),trivial⟩
    have hp551:=pmI hL550 .n (.c 0 rfl (.c 1 rfl (.c 2 rfl .n))) (by kernel_rfl)
    refine Calls.mono (Hq w549 (Fl ([]:List Cc)) x1.tree x26 A8 n9 c10 (Rw.mono h11 (hL550.toSt hp551 (me 1 rfl))) (hL550.hFl hp551 (Bf [] rfl)) (hL550.into hp551 _) r41 hv42) ?_
    rintro _ w556 ⟨A552,n553,c554,rfl,hM557,h555⟩
    have hL558:=hL550.call hp551 hM557
    refine ⟨_,_,_,rfl,hL558,?_⟩
    refine ⟨Bf [3] rfl,Bf [0,1] rfl,?_⟩
    obtain ⟨ce559,hK560,ht561,hg562⟩:=Cells.get hC19 hb51
    obtain ⟨A563,n564,c565,rfl,h566⟩:=hK560
    refine wfv 16 rfl (Ec Wx rfl rfl h15 hb51) gn hns (by kernel_rfl) ?_
    refine Q4 (F:=F) (dk:=(Gs .i64)) (Sm w.heap.size F w [[g2],(Value.slice A12 n13 c14).ownBlock.toList,(Value.slice A20 n21 c22).ownBlock.toList]) 0 rfl (Ow.weak hL550.env.size h555) (me 0 rfl) Sm.ok (Cells.flat _) fun sw568 sb569 h567=>?_
    refine Vk (F:=F) fun sw570 sb571 ho572=>?_
    obtain ⟨cs574,hc575,hC576⟩:=Cells.put (dk:=(Kd.slice (Gs .i64))) (z:=r41) (o:=0) (vs:=[.slice A552 n553 c554]) (ce':=[.slice A552 n553 c554]) (Cells.older (s:=Sm w.heap.size F w [[g2],(Value.slice A12 n13 c14).ownBlock.toList,(Value.slice A20 n21 c22).ownBlock.toList]) hC19 (ho572 _ (me 1 rfl) Sm.ok)) hb51 ht561 rfl (Nat.le_of_ble_eq_true rfl) ⟨A552,n553,c554,rfl,(Rw.older (s:=Sm w.heap.size F sw568 sb569) h567 (ho572 _ (me 0 rfl) Sm.ok))⟩
    rw [← hv67] at hC576
    refine Cf [17] (by kernel_rfl) rfl ⟨Ej 17 rfl gn rfl (Xau (dk:=(Kd.slice (Gs .i64))) (o:=0) (vs:=[.slice A552 n553 c554]) (i:=x26) (ys:=x66) 1 Zx rfl rfl rfl rfl rfl h15 hC19 hb51 rfl hc575 rfl hv67 fun h573=>?_),trivial⟩
    refine ⟨Bf [2] rfl,Bf [2,3] rfl,?_⟩
    refine wfv 18 rfl (Ec Xa rfl rfl h23 hb27) gn hns (by kernel_rfl) ?_
    refine Cf [19] (by kernel_rfl) rfl ⟨Ut 19 rfl gn rfl (Uy (enc:=eB) (o:=0) (z:=true) (vs:=[.bool true]) (i:=x26) 2 hlB Xep rfl rfl rfl rfl rfl h23 hb27 rfl rfl rfl hv73 fun h577=>?_),trivial⟩
    unfold NxL
    refine Et (by kernel_rfl) ?_
    exact D6 [0,2,3] (d1 h573 cs574 sw570 sb571 hC576 h577) ⟨rfl,rfl,trivial⟩ (.cons_cons _ (.cons_cons _ (.cons_cons _ (.slnil)))) rfl
   ·refine Ej 13 rfl gn rfl (Ob (Au 0 Zv rfl rfl rfl) rfl ?_)
    refine ⟨Bf [2] rfl,Bf [0,1] rfl,?_⟩
    refine Cf [8,15] (by kernel_rfl) rfl ⟨?_,?_,trivial⟩
    ·refine Ej 8 rfl gn rfl (Ob (Au 0 Xcc rfl rfl rfl) rfl ?_)
     refine ⟨Bf [2] rfl,Bf [0,1] rfl,?_⟩
     refine Cf [15] (by kernel_rfl) rfl ⟨Ej 15 rfl gn rfl (D7 [.slice A8 n9 c10,.int .i64 x26] rfl Tryd.func35 rfl rfl rfl fun w598 hL599=>?_),trivial⟩
     have hp600:=pmI hL599 .n (.c 0 rfl (.c 1 rfl (.c 2 rfl .n))) (by kernel_rfl)
     refine Calls.mono (Hq w598 (Fl ([]:List Cc)) x1.tree x26 A8 n9 c10 (Rw.mono h11 (hL599.toSt hp600 (me 1 rfl))) (hL599.hFl hp600 (Bf [] rfl)) (hL599.into hp600 _) r41 hv42) ?_
     rintro _ w605 ⟨A601,n602,c603,rfl,hM606,h604⟩
     have hL607:=hL599.call hp600 hM606
     refine ⟨_,_,_,rfl,hL607,?_⟩
     refine ⟨Bf [3] rfl,Bf [0,1] rfl,?_⟩
     obtain ⟨ce608,hK609,ht610,hg611⟩:=Cells.get hC19 hb51
     obtain ⟨A612,n613,c614,rfl,h615⟩:=hK609
     refine wfv 16 rfl (Ec Wx rfl rfl h15 hb51) gn hns (by kernel_rfl) ?_
     refine Q4 (F:=F) (dk:=(Gs .i64)) (Sm w.heap.size F w [[g2],(Value.slice A12 n13 c14).ownBlock.toList,(Value.slice A20 n21 c22).ownBlock.toList]) 0 rfl (Ow.weak hL599.env.size h604) (me 0 rfl) Sm.ok (Cells.flat _) fun sw617 sb618 h616=>?_
     refine Vk (F:=F) fun sw619 sb620 ho621=>?_
     obtain ⟨cs623,hc624,hC625⟩:=Cells.put (dk:=(Kd.slice (Gs .i64))) (z:=r41) (o:=0) (vs:=[.slice A601 n602 c603]) (ce':=[.slice A601 n602 c603]) (Cells.older (s:=Sm w.heap.size F w [[g2],(Value.slice A12 n13 c14).ownBlock.toList,(Value.slice A20 n21 c22).ownBlock.toList]) hC19 (ho621 _ (me 1 rfl) Sm.ok)) hb51 ht610 rfl (Nat.le_of_ble_eq_true rfl) ⟨A601,n602,c603,rfl,(Rw.older (s:=Sm w.heap.size F sw617 sb618) h616 (ho621 _ (me 0 rfl) Sm.ok))⟩
     rw [← hv67] at hC625
     refine Cf [17] (by kernel_rfl) rfl ⟨Ej 17 rfl gn rfl (Xau (dk:=(Kd.slice (Gs .i64))) (o:=0) (vs:=[.slice A601 n602 c603]) (i:=x26) (ys:=x66) 1 Zx rfl rfl rfl rfl rfl h15 hC19 hb51 rfl hc624 rfl hv67 fun h622=>?_),trivial⟩
     refine ⟨Bf [2] rfl,Bf [2,3] rfl,?_⟩
     refine wfv 18 rfl (Ec Xa rfl rfl h23 hb27) gn hns (by kernel_rfl) ?_
     refine Cf [19] (by kernel_rfl) rfl ⟨Ut 19 rfl gn rfl (Uy (enc:=eB) (o:=0) (z:=true) (vs:=[.bool true]) (i:=x26) 2 hlB Xep rfl rfl rfl rfl rfl h23 hb27 rfl rfl rfl hv73 fun h626=>?_),trivial⟩
     unfold NxL
     refine Et (by kernel_rfl) ?_
     exact D6 [0,2,3] (d1 h622 cs623 sw619 sb620 hC625 h626) ⟨rfl,rfl,trivial⟩ (.cons_cons _ (.cons_cons _ (.cons_cons _ (.slnil)))) rfl
    ·refine Ej 15 rfl gn rfl (D7 [.slice A8 n9 c10, .int .i64 x26] rfl Tryd.func35 rfl rfl rfl fun w627 hL628 => ?_)
     have hp629:=pmI hL628 .n (.c 0 rfl (.c 1 rfl (.c 2 rfl .n))) (by kernel_rfl)
     refine Calls.mono (Hq w627 (Fl ([]:List Cc)) x1.tree x26 A8 n9 c10 (Rw.mono h11 (hL628.toSt hp629 (me 1 rfl))) (hL628.hFl hp629 (Bf [] rfl)) (hL628.into hp629 _) r41 hv42) ?_
     rintro _ w634 ⟨A630,n631,c632,rfl,hM635,h633⟩
     have hL636:=hL628.call hp629 hM635
     refine ⟨_,_,_,rfl,hL636,?_⟩
     refine ⟨Bf [3] rfl,Bf [0,1] rfl,?_⟩
     refine Cf [8] (by kernel_rfl) rfl ⟨Ej 8 rfl gn rfl (Ob (Au 1 Xcc rfl rfl rfl) rfl ?_),trivial⟩
     refine ⟨Bf [3] rfl,Bf [0,1] rfl,?_⟩
     obtain ⟨ce637,hK638,ht639,hg640⟩:=Cells.get hC19 hb51
     obtain ⟨A641,n642,c643,rfl,h644⟩:=hK638
     refine wfv 16 rfl (Ec Wx rfl rfl h15 hb51) gn hns (by kernel_rfl) ?_
     refine Q4 (F:=F) (dk:=(Gs .i64)) (Sm w.heap.size F w [[g2],(Value.slice A12 n13 c14).ownBlock.toList,(Value.slice A20 n21 c22).ownBlock.toList]) 0 rfl (Ow.weak hL628.env.size h633) (me 0 rfl) Sm.ok (Cells.flat _) fun sw646 sb647 h645=>?_
     refine Vk (F:=F) fun sw648 sb649 ho650=>?_
     obtain ⟨cs652,hc653,hC654⟩:=Cells.put (dk:=(Kd.slice (Gs .i64))) (z:=r41) (o:=0) (vs:=[.slice A630 n631 c632]) (ce':=[.slice A630 n631 c632]) (Cells.older (s:=Sm w.heap.size F w [[g2],(Value.slice A12 n13 c14).ownBlock.toList,(Value.slice A20 n21 c22).ownBlock.toList]) hC19 (ho650 _ (me 1 rfl) Sm.ok)) hb51 ht639 rfl (Nat.le_of_ble_eq_true rfl) ⟨A630,n631,c632,rfl,(Rw.older (s:=Sm w.heap.size F sw646 sb647) h645 (ho650 _ (me 0 rfl) Sm.ok))⟩
     rw [← hv67] at hC654
     refine Cf [17] (by kernel_rfl) rfl ⟨Ej 17 rfl gn rfl (Xau (dk:=(Kd.slice (Gs .i64))) (o:=0) (vs:=[.slice A630 n631 c632]) (i:=x26) (ys:=x66) 1 Zx rfl rfl rfl rfl rfl h15 hC19 hb51 rfl hc653 rfl hv67 fun h651=>?_),trivial⟩
     refine ⟨Bf [2] rfl,Bf [2,3] rfl,?_⟩
     refine wfv 18 rfl (Ec Xa rfl rfl h23 hb27) gn hns (by kernel_rfl) ?_
     refine Cf [19] (by kernel_rfl) rfl ⟨Ut 19 rfl gn rfl (Uy (enc:=eB) (o:=0) (z:=true) (vs:=[.bool true]) (i:=x26) 2 hlB Xep rfl rfl rfl rfl rfl h23 hb27 rfl rfl rfl hv73 fun h655=>?_),trivial⟩
     unfold NxL
     refine Et (by kernel_rfl) ?_
     exact D6 [0,2,3] (d1 h651 cs652 sw648 sb649 hC654 h655) ⟨rfl,rfl,trivial⟩ (.cons_cons _ (.cons_cons _ (.cons_cons _ (.slnil)))) rfl
  ·refine Ej 8 rfl gn rfl (Ob (Au 0 Xcc rfl rfl rfl) rfl ?_)
   refine ⟨Bf [2] rfl,Bf [0,1] rfl,?_⟩
   refine Cf [3,13] (by kernel_rfl) rfl ⟨?_,?_,trivial⟩
   ·refine Ej 3 rfl gn rfl (Ob (Au 0 Xbg rfl rfl rfl) rfl ?_)
    refine ⟨Bf [2] rfl,Bf [0,1] rfl,?_⟩
    refine Cf [13] (by kernel_rfl) rfl ⟨Ej 13 rfl gn rfl (Ob (Au 0 Zv rfl rfl rfl) rfl ?_),trivial⟩
    refine ⟨Bf [2] rfl,Bf [0,1] rfl,?_⟩
    refine Cf [15] (by kernel_rfl) rfl ⟨Ej 15 rfl gn rfl (D7 [.slice A8 n9 c10,.int .i64 x26] rfl Tryd.func35 rfl rfl rfl fun w666 hL667=>?_),trivial⟩
    have hp668:=pmI hL667 .n (.c 0 rfl (.c 1 rfl (.c 2 rfl .n))) (by kernel_rfl)
    refine Calls.mono (Hq w666 (Fl ([]:List Cc)) x1.tree x26 A8 n9 c10 (Rw.mono h11 (hL667.toSt hp668 (me 1 rfl))) (hL667.hFl hp668 (Bf [] rfl)) (hL667.into hp668 _) r41 hv42) ?_
    rintro _ w673 ⟨A669,n670,c671,rfl,hM674,h672⟩
    have hL675:=hL667.call hp668 hM674
    refine ⟨_,_,_,rfl,hL675,?_⟩
    refine ⟨Bf [3] rfl,Bf [0,1] rfl,?_⟩
    obtain ⟨ce676,hK677,ht678,hg679⟩:=Cells.get hC19 hb51
    obtain ⟨A680,n681,c682,rfl,h683⟩:=hK677
    refine wfv 16 rfl (Ec Wx rfl rfl h15 hb51) gn hns (by kernel_rfl) ?_
    refine Q4 (F:=F) (dk:=(Gs .i64)) (Sm w.heap.size F w [[g2],(Value.slice A12 n13 c14).ownBlock.toList,(Value.slice A20 n21 c22).ownBlock.toList]) 0 rfl (Ow.weak hL667.env.size h672) (me 0 rfl) Sm.ok (Cells.flat _) fun sw685 sb686 h684=>?_
    refine Vk (F:=F) fun sw687 sb688 ho689=>?_
    obtain ⟨cs691,hc692,hC693⟩:=Cells.put (dk:=(Kd.slice (Gs .i64))) (z:=r41) (o:=0) (vs:=[.slice A669 n670 c671]) (ce':=[.slice A669 n670 c671]) (Cells.older (s:=Sm w.heap.size F w [[g2],(Value.slice A12 n13 c14).ownBlock.toList,(Value.slice A20 n21 c22).ownBlock.toList]) hC19 (ho689 _ (me 1 rfl) Sm.ok)) hb51 ht678 rfl (Nat.le_of_ble_eq_true rfl) ⟨A669,n670,c671,rfl,(Rw.older (s:=Sm w.heap.size F sw685 sb686) h684 (ho689 _ (me 0 rfl) Sm.ok))⟩
    rw [← hv67] at hC693
    refine Cf [17] (by kernel_rfl) rfl ⟨Ej 17 rfl gn rfl (Xau (dk:=(Kd.slice (Gs .i64))) (o:=0) (vs:=[.slice A669 n670 c671]) (i:=x26) (ys:=x66) 1 Zx rfl rfl rfl rfl rfl h15 hC19 hb51 rfl hc692 rfl hv67 fun h690=>?_),trivial⟩
    refine ⟨Bf [2] rfl,Bf [2,3] rfl,?_⟩
    refine wfv 18 rfl (Ec Xa rfl rfl h23 hb27) gn hns (by kernel_rfl) ?_
    refine Cf [19] (by kernel_rfl) rfl ⟨Ut 19 rfl gn rfl (Uy (enc:=eB) (o:=0) (z:=true) (vs:=[.bool true]) (i:=x26) 2 hlB Xep rfl rfl rfl rfl rfl h23 hb27 rfl rfl rfl hv73 fun h694=>?_),trivial⟩
    unfold NxL
    refine Et (by kernel_rfl) ?_
    exact D6 [0,2,3] (d1 h690 cs691 sw687 sb688 hC693 h694) ⟨rfl,rfl,trivial⟩ (.cons_cons _ (.cons_cons _ (.cons_cons _ (.slnil)))) rfl
   ·refine Ej 13 rfl gn rfl (Ob (Au 0 Zv rfl rfl rfl) rfl ?_)
    refine ⟨Bf [2] rfl,Bf [0,1] rfl,?_⟩
    refine Cf [3,15] (by kernel_rfl) rfl ⟨?_,?_,trivial⟩
    ·refine Ej 3 rfl gn rfl (Ob (Au 0 Xbg rfl rfl rfl) rfl ?_)
     refine ⟨Bf [2] rfl,Bf [0,1] rfl,?_⟩
     refine Cf [15] (by kernel_rfl) rfl ⟨Ej 15 rfl gn rfl (D7 [.slice A8 n9 c10,.int .i64 x26] rfl Tryd.func35 rfl rfl rfl fun w715 hL716=>?_),trivial⟩
     have hp717:=pmI hL716 .n (.c 0 rfl (.c 1 rfl (.c 2 rfl .n))) (by kernel_rfl)
     refine Calls.mono (Hq w715 (Fl ([]:List Cc)) x1.tree x26 A8 n9 c10 (Rw.mono h11 (hL716.toSt hp717 (me 1 rfl))) (hL716.hFl hp717 (Bf [] rfl)) (hL716.into hp717 _) r41 hv42) ?_
     rintro _ w722 ⟨A718,n719,c720,rfl,hM723,h721⟩
     have hL724:=hL716.call hp717 hM723
     refine ⟨_,_,_,rfl,hL724,?_⟩
     refine ⟨Bf [3] rfl,Bf [0,1] rfl,?_⟩
     obtain ⟨ce725,hK726,ht727,hg728⟩:=Cells.get hC19 hb51
     obtain ⟨A729,n730,c731,rfl,h732⟩:=hK726
     refine wfv 16 rfl (Ec Wx rfl rfl h15 hb51) gn hns (by kernel_rfl) ?_
     refine Q4 (F:=F) (dk:=(Gs .i64)) (Sm w.heap.size F w [[g2],(Value.slice A12 n13 c14).ownBlock.toList,(Value.slice A20 n21 c22).ownBlock.toList]) 0 rfl (Ow.weak hL716.env.size h721) (me 0 rfl) Sm.ok (Cells.flat _) fun sw734 sb735 h733=>?_
     refine Vk (F:=F) fun sw736 sb737 ho738=>?_
     obtain ⟨cs740,hc741,hC742⟩:=Cells.put (dk:=(Kd.slice (Gs .i64))) (z:=r41) (o:=0) (vs:=[.slice A718 n719 c720]) (ce':=[.slice A718 n719 c720]) (Cells.older (s:=Sm w.heap.size F w [[g2],(Value.slice A12 n13 c14).ownBlock.toList,(Value.slice A20 n21 c22).ownBlock.toList]) hC19 (ho738 _ (me 1 rfl) Sm.ok)) hb51 ht727 rfl (Nat.le_of_ble_eq_true rfl) ⟨A718,n719,c720,rfl,(Rw.older (s:=Sm w.heap.size F sw734 sb735) h733 (ho738 _ (me 0 rfl) Sm.ok))⟩
     rw [← hv67] at hC742
     refine Cf [17] (by kernel_rfl) rfl ⟨Ej 17 rfl gn rfl (Xau (dk:=(Kd.slice (Gs .i64))) (o:=0) (vs:=[.slice A718 n719 c720]) (i:=x26) (ys:=x66) 1 Zx rfl rfl rfl rfl rfl h15 hC19 hb51 rfl hc741 rfl hv67 fun h739=>?_),trivial⟩
     refine ⟨Bf [2] rfl,Bf [2,3] rfl,?_⟩
     refine wfv 18 rfl (Ec Xa rfl rfl h23 hb27) gn hns (by kernel_rfl) ?_
     refine Cf [19] (by kernel_rfl) rfl ⟨Ut 19 rfl gn rfl (Uy (enc:=eB) (o:=0) (z:=true) (vs:=[.bool true]) (i:=x26) 2 hlB Xep rfl rfl rfl rfl rfl h23 hb27 rfl rfl rfl hv73 fun h743=>?_),trivial⟩
     unfold NxL
     refine Et (by kernel_rfl) ?_
     exact D6 [0,2,3] (d1 h739 cs740 sw736 sb737 hC742 h743) ⟨rfl,rfl,trivial⟩ (.cons_cons _ (.cons_cons _ (.cons_cons _ (.slnil)))) rfl
    ·refine Ej 15 rfl gn rfl (D7 [.slice A8 n9 c10, .int .i64 x26] rfl Tryd.func35 rfl rfl rfl fun w744 hL745 => ?_)
     have hp746:=pmI hL745 .n (.c 0 rfl (.c 1 rfl (.c 2 rfl .n))) (by kernel_rfl)
     refine Calls.mono (Hq w744 (Fl ([]:List Cc)) x1.tree x26 A8 n9 c10 (Rw.mono h11 (hL745.toSt hp746 (me 1 rfl))) (hL745.hFl hp746 (Bf [] rfl)) (hL745.into hp746 _) r41 hv42) ?_
     rintro _ w751 ⟨A747,n748,c749,rfl,hM752,h750⟩
     have hL753:=hL745.call hp746 hM752
     refine ⟨_,_,_,rfl,hL753,?_⟩
     refine ⟨Bf [3] rfl,Bf [0,1] rfl,?_⟩
     refine Cf [3] (by kernel_rfl) rfl ⟨Ej 3 rfl gn rfl (Ob (Au 1 Xbg rfl rfl rfl) rfl ?_),trivial⟩
     refine ⟨Bf [3] rfl,Bf [0,1] rfl,?_⟩
     obtain ⟨ce754,hK755,ht756,hg757⟩:=Cells.get hC19 hb51
     obtain ⟨A758,n759,c760,rfl,h761⟩:=hK755
     refine wfv 16 rfl (Ec Wx rfl rfl h15 hb51) gn hns (by kernel_rfl) ?_
     refine Q4 (F:=F) (dk:=(Gs .i64)) (Sm w.heap.size F w [[g2],(Value.slice A12 n13 c14).ownBlock.toList,(Value.slice A20 n21 c22).ownBlock.toList]) 0 rfl (Ow.weak hL745.env.size h750) (me 0 rfl) Sm.ok (Cells.flat _) fun sw763 sb764 h762=>?_
     refine Vk (F:=F) fun sw765 sb766 ho767=>?_
     obtain ⟨cs769,hc770,hC771⟩:=Cells.put (dk:=(Kd.slice (Gs .i64))) (z:=r41) (o:=0) (vs:=[.slice A747 n748 c749]) (ce':=[.slice A747 n748 c749]) (Cells.older (s:=Sm w.heap.size F w [[g2],(Value.slice A12 n13 c14).ownBlock.toList,(Value.slice A20 n21 c22).ownBlock.toList]) hC19 (ho767 _ (me 1 rfl) Sm.ok)) hb51 ht756 rfl (Nat.le_of_ble_eq_true rfl) ⟨A747,n748,c749,rfl,(Rw.older (s:=Sm w.heap.size F sw763 sb764) h762 (ho767 _ (me 0 rfl) Sm.ok))⟩
     rw [← hv67] at hC771
     refine Cf [17] (by kernel_rfl) rfl ⟨Ej 17 rfl gn rfl (Xau (dk:=(Kd.slice (Gs .i64))) (o:=0) (vs:=[.slice A747 n748 c749]) (i:=x26) (ys:=x66) 1 Zx rfl rfl rfl rfl rfl h15 hC19 hb51 rfl hc770 rfl hv67 fun h768=>?_),trivial⟩
     refine ⟨Bf [2] rfl,Bf [2,3] rfl,?_⟩
     refine wfv 18 rfl (Ec Xa rfl rfl h23 hb27) gn hns (by kernel_rfl) ?_
     refine Cf [19] (by kernel_rfl) rfl ⟨Ut 19 rfl gn rfl (Uy (enc:=eB) (o:=0) (z:=true) (vs:=[.bool true]) (i:=x26) 2 hlB Xep rfl rfl rfl rfl rfl h23 hb27 rfl rfl rfl hv73 fun h772=>?_),trivial⟩
     unfold NxL
     refine Et (by kernel_rfl) ?_
     exact D6 [0,2,3] (d1 h768 cs769 sw765 sb766 hC771 h772) ⟨rfl,rfl,trivial⟩ (.cons_cons _ (.cons_cons _ (.cons_cons _ (.slnil)))) rfl
  ·refine Ej 13 rfl gn rfl (Ob (Au 0 Zv rfl rfl rfl) rfl ?_)
   refine ⟨Bf [2] rfl,Bf [0,1] rfl,?_⟩
   refine Cf [3,8,15] (by kernel_rfl) rfl ⟨?_,?_,?_,trivial⟩
   ·refine Ej 3 rfl gn rfl (Ob (Au 0 Xbg rfl rfl rfl) rfl ?_)
    refine ⟨Bf [2] rfl,Bf [0,1] rfl,?_⟩
    refine Cf [8,15] (by kernel_rfl) rfl ⟨?_,?_,trivial⟩
    ·refine Ej 8 rfl gn rfl (Ob (Au 0 Xcc rfl rfl rfl) rfl ?_)
     refine ⟨Bf [2] rfl,Bf [0,1] rfl,?_⟩
     refine Cf [15] (by kernel_rfl) rfl ⟨Ej 15 rfl gn rfl (D7 [.slice A8 n9 c10,.int .i64 x26] rfl Tryd.func35 rfl rfl rfl fun w803 hL804=>?_),trivial⟩
     have hp805:=pmI hL804 .n (.c 0 rfl (.c 1 rfl (.c 2 rfl .n))) (by kernel_rfl)
     refine Calls.mono (Hq w803 (Fl ([]:List Cc)) x1.tree x26 A8 n9 c10 (Rw.mono h11 (hL804.toSt hp805 (me 1 rfl))) (hL804.hFl hp805 (Bf [] rfl)) (hL804.into hp805 _) r41 hv42) ?_
     rintro _ w810 ⟨A806,n807,c808,rfl,hM811,h809⟩
     have hL812:=hL804.call hp805 hM811
     refine ⟨_,_,_,rfl,hL812,?_⟩
     refine ⟨Bf [3] rfl,Bf [0,1] rfl,?_⟩
     obtain ⟨ce813,hK814,ht815,hg816⟩:=Cells.get hC19 hb51
     obtain ⟨A817,n818,c819,rfl,h820⟩:=hK814
     refine wfv 16 rfl (Ec Wx rfl rfl h15 hb51) gn hns (by kernel_rfl) ?_
     refine Q4 (F:=F) (dk:=(Gs .i64)) (Sm w.heap.size F w [[g2],(Value.slice A12 n13 c14).ownBlock.toList,(Value.slice A20 n21 c22).ownBlock.toList]) 0 rfl (Ow.weak hL804.env.size h809) (me 0 rfl) Sm.ok (Cells.flat _) fun sw822 sb823 h821=>?_
     refine Vk (F:=F) fun sw824 sb825 ho826=>?_
     obtain ⟨cs828,hc829,hC830⟩:=Cells.put (dk:=(Kd.slice (Gs .i64))) (z:=r41) (o:=0) (vs:=[.slice A806 n807 c808]) (ce':=[.slice A806 n807 c808]) (Cells.older (s:=Sm w.heap.size F w [[g2],(Value.slice A12 n13 c14).ownBlock.toList,(Value.slice A20 n21 c22).ownBlock.toList]) hC19 (ho826 _ (me 1 rfl) Sm.ok)) hb51 ht815 rfl (Nat.le_of_ble_eq_true rfl) ⟨A806,n807,c808,rfl,(Rw.older (s:=Sm w.heap.size F sw822 sb823) h821 (ho826 _ (me 0 rfl) Sm.ok))⟩
     rw [← hv67] at hC830
     refine Cf [17] (by kernel_rfl) rfl ⟨Ej 17 rfl gn rfl (Xau (dk:=(Kd.slice (Gs .i64))) (o:=0) (vs:=[.slice A806 n807 c808]) (i:=x26) (ys:=x66) 1 Zx rfl rfl rfl rfl rfl h15 hC19 hb51 rfl hc829 rfl hv67 fun h827=>?_),trivial⟩
     refine ⟨Bf [2] rfl,Bf [2,3] rfl,?_⟩
     refine wfv 18 rfl (Ec Xa rfl rfl h23 hb27) gn hns (by kernel_rfl) ?_
     refine Cf [19] (by kernel_rfl) rfl ⟨Ut 19 rfl gn rfl (Uy (enc:=eB) (o:=0) (z:=true) (vs:=[.bool true]) (i:=x26) 2 hlB Xep rfl rfl rfl rfl rfl h23 hb27 rfl rfl rfl hv73 fun h831=>?_),trivial⟩
     unfold NxL
     refine Et (by kernel_rfl) ?_
     exact D6 [0,2,3] (d1 h827 cs828 sw824 sb825 hC830 h831) ⟨rfl,rfl,trivial⟩ (.cons_cons _ (.cons_cons _ (.cons_cons _ (.slnil)))) rfl
    ·refine Ej 15 rfl gn rfl (D7 [.slice A8 n9 c10, .int .i64 x26] rfl Tryd.func35 rfl rfl rfl fun w832 hL833 => ?_)
     have hp834:=pmI hL833 .n (.c 0 rfl (.c 1 rfl (.c 2 rfl .n))) (by kernel_rfl)
     refine Calls.mono (Hq w832 (Fl ([]:List Cc)) x1.tree x26 A8 n9 c10 (Rw.mono h11 (hL833.toSt hp834 (me 1 rfl))) (hL833.hFl hp834 (Bf [] rfl)) (hL833.into hp834 _) r41 hv42) ?_
     rintro _ w839 ⟨A835,n836,c837,rfl,hM840,h838⟩
     have hL841:=hL833.call hp834 hM840
     refine ⟨_,_,_,rfl,hL841,?_⟩
     refine ⟨Bf [3] rfl,Bf [0,1] rfl,?_⟩
     refine Cf [8] (by kernel_rfl) rfl ⟨Ej 8 rfl gn rfl (Ob (Au 1 Xcc rfl rfl rfl) rfl ?_),trivial⟩
     refine ⟨Bf [3] rfl,Bf [0,1] rfl,?_⟩
     obtain ⟨ce842,hK843,ht844,hg845⟩:=Cells.get hC19 hb51
     obtain ⟨A846,n847,c848,rfl,h849⟩:=hK843
     refine wfv 16 rfl (Ec Wx rfl rfl h15 hb51) gn hns (by kernel_rfl) ?_
     refine Q4 (F:=F) (dk:=(Gs .i64)) (Sm w.heap.size F w [[g2],(Value.slice A12 n13 c14).ownBlock.toList,(Value.slice A20 n21 c22).ownBlock.toList]) 0 rfl (Ow.weak hL833.env.size h838) (me 0 rfl) Sm.ok (Cells.flat _) fun sw851 sb852 h850=>?_
     refine Vk (F:=F) fun sw853 sb854 ho855=>?_
     obtain ⟨cs857,hc858,hC859⟩:=Cells.put (dk:=(Kd.slice (Gs .i64))) (z:=r41) (o:=0) (vs:=[.slice A835 n836 c837]) (ce':=[.slice A835 n836 c837]) (Cells.older (s:=Sm w.heap.size F w [[g2],(Value.slice A12 n13 c14).ownBlock.toList,(Value.slice A20 n21 c22).ownBlock.toList]) hC19 (ho855 _ (me 1 rfl) Sm.ok)) hb51 ht844 rfl (Nat.le_of_ble_eq_true rfl) ⟨A835,n836,c837,rfl,(Rw.older (s:=Sm w.heap.size F sw851 sb852) h850 (ho855 _ (me 0 rfl) Sm.ok))⟩
     rw [← hv67] at hC859
     refine Cf [17] (by kernel_rfl) rfl ⟨Ej 17 rfl gn rfl (Xau (dk:=(Kd.slice (Gs .i64))) (o:=0) (vs:=[.slice A835 n836 c837]) (i:=x26) (ys:=x66) 1 Zx rfl rfl rfl rfl rfl h15 hC19 hb51 rfl hc858 rfl hv67 fun h856=>?_),trivial⟩
     refine ⟨Bf [2] rfl,Bf [2,3] rfl,?_⟩
     refine wfv 18 rfl (Ec Xa rfl rfl h23 hb27) gn hns (by kernel_rfl) ?_
     refine Cf [19] (by kernel_rfl) rfl ⟨Ut 19 rfl gn rfl (Uy (enc:=eB) (o:=0) (z:=true) (vs:=[.bool true]) (i:=x26) 2 hlB Xep rfl rfl rfl rfl rfl h23 hb27 rfl rfl rfl hv73 fun h860=>?_),trivial⟩
     unfold NxL
     refine Et (by kernel_rfl) ?_
     exact D6 [0,2,3] (d1 h856 cs857 sw853 sb854 hC859 h860) ⟨rfl,rfl,trivial⟩ (.cons_cons _ (.cons_cons _ (.cons_cons _ (.slnil)))) rfl
   ·refine Ej 8 rfl gn rfl (Ob (Au 0 Xcc rfl rfl rfl) rfl ?_)
    refine ⟨Bf [2] rfl,Bf [0,1] rfl,?_⟩
    refine Cf [3,15] (by kernel_rfl) rfl ⟨?_,?_,trivial⟩
    ·refine Ej 3 rfl gn rfl (Ob (Au 0 Xbg rfl rfl rfl) rfl ?_)
     refine ⟨Bf [2] rfl,Bf [0,1] rfl,?_⟩
     refine Cf [15] (by kernel_rfl) rfl ⟨Ej 15 rfl gn rfl (D7 [.slice A8 n9 c10,.int .i64 x26] rfl Tryd.func35 rfl rfl rfl fun w881 hL882=>?_),trivial⟩
     have hp883:=pmI hL882 .n (.c 0 rfl (.c 1 rfl (.c 2 rfl .n))) (by kernel_rfl)
     refine Calls.mono (Hq w881 (Fl ([]:List Cc)) x1.tree x26 A8 n9 c10 (Rw.mono h11 (hL882.toSt hp883 (me 1 rfl))) (hL882.hFl hp883 (Bf [] rfl)) (hL882.into hp883 _) r41 hv42) ?_
     rintro _ w888 ⟨A884,n885,c886,rfl,hM889,h887⟩
     have hL890:=hL882.call hp883 hM889
     refine ⟨_,_,_,rfl,hL890,?_⟩
     refine ⟨Bf [3] rfl,Bf [0,1] rfl,?_⟩
     obtain ⟨ce891,hK892,ht893,hg894⟩:=Cells.get hC19 hb51
     obtain ⟨A895,n896,c897,rfl,h898⟩:=hK892
     refine wfv 16 rfl (Ec Wx rfl rfl h15 hb51) gn hns (by kernel_rfl) ?_
     refine Q4 (F:=F) (dk:=(Gs .i64)) (Sm w.heap.size F w [[g2],(Value.slice A12 n13 c14).ownBlock.toList,(Value.slice A20 n21 c22).ownBlock.toList]) 0 rfl (Ow.weak hL882.env.size h887) (me 0 rfl) Sm.ok (Cells.flat _) fun sw900 sb901 h899=>?_
     refine Vk (F:=F) fun sw902 sb903 ho904=>?_
     obtain ⟨cs906,hc907,hC908⟩:=Cells.put (dk:=(Kd.slice (Gs .i64))) (z:=r41) (o:=0) (vs:=[.slice A884 n885 c886]) (ce':=[.slice A884 n885 c886]) (Cells.older (s:=Sm w.heap.size F w [[g2],(Value.slice A12 n13 c14).ownBlock.toList,(Value.slice A20 n21 c22).ownBlock.toList]) hC19 (ho904 _ (me 1 rfl) Sm.ok)) hb51 ht893 rfl (Nat.le_of_ble_eq_true rfl) ⟨A884,n885,c886,rfl,(Rw.older (s:=Sm w.heap.size F sw900 sb901) h899 (ho904 _ (me 0 rfl) Sm.ok))⟩
     rw [← hv67] at hC908
     refine Cf [17] (by kernel_rfl) rfl ⟨Ej 17 rfl gn rfl (Xau (dk:=(Kd.slice (Gs .i64))) (o:=0) (vs:=[.slice A884 n885 c886]) (i:=x26) (ys:=x66) 1 Zx rfl rfl rfl rfl rfl h15 hC19 hb51 rfl hc907 rfl hv67 fun h905=>?_),trivial⟩
     refine ⟨Bf [2] rfl,Bf [2,3] rfl,?_⟩
     refine wfv 18 rfl (Ec Xa rfl rfl h23 hb27) gn hns (by kernel_rfl) ?_
     refine Cf [19] (by kernel_rfl) rfl ⟨Ut 19 rfl gn rfl (Uy (enc:=eB) (o:=0) (z:=true) (vs:=[.bool true]) (i:=x26) 2 hlB Xep rfl rfl rfl rfl rfl h23 hb27 rfl rfl rfl hv73 fun h909=>?_),trivial⟩
     unfold NxL
     refine Et (by kernel_rfl) ?_
     exact D6 [0,2,3] (d1 h905 cs906 sw902 sb903 hC908 h909) ⟨rfl,rfl,trivial⟩ (.cons_cons _ (.cons_cons _ (.cons_cons _ (.slnil)))) rfl
    ·refine Ej 15 rfl gn rfl (D7 [.slice A8 n9 c10, .int .i64 x26] rfl Tryd.func35 rfl rfl rfl fun w910 hL911 => ?_)
     have hp912:=pmI hL911 .n (.c 0 rfl (.c 1 rfl (.c 2 rfl .n))) (by kernel_rfl)
     refine Calls.mono (Hq w910 (Fl ([]:List Cc)) x1.tree x26 A8 n9 c10 (Rw.mono h11 (hL911.toSt hp912 (me 1 rfl))) (hL911.hFl hp912 (Bf [] rfl)) (hL911.into hp912 _) r41 hv42) ?_
     rintro _ w917 ⟨A913,n914,c915,rfl,hM918,h916⟩
     have hL919:=hL911.call hp912 hM918
     refine ⟨_,_,_,rfl,hL919,?_⟩
     refine ⟨Bf [3] rfl,Bf [0,1] rfl,?_⟩
     refine Cf [3] (by kernel_rfl) rfl ⟨Ej 3 rfl gn rfl (Ob (Au 1 Xbg rfl rfl rfl) rfl ?_),trivial⟩
     refine ⟨Bf [3] rfl,Bf [0,1] rfl,?_⟩
     obtain ⟨ce920,hK921,ht922,hg923⟩:=Cells.get hC19 hb51
     obtain ⟨A924,n925,c926,rfl,h927⟩:=hK921
     refine wfv 16 rfl (Ec Wx rfl rfl h15 hb51) gn hns (by kernel_rfl) ?_
     refine Q4 (F:=F) (dk:=(Gs .i64)) (Sm w.heap.size F w [[g2],(Value.slice A12 n13 c14).ownBlock.toList,(Value.slice A20 n21 c22).ownBlock.toList]) 0 rfl (Ow.weak hL911.env.size h916) (me 0 rfl) Sm.ok (Cells.flat _) fun sw929 sb930 h928=>?_
     refine Vk (F:=F) fun sw931 sb932 ho933=>?_
     obtain ⟨cs935,hc936,hC937⟩:=Cells.put (dk:=(Kd.slice (Gs .i64))) (z:=r41) (o:=0) (vs:=[.slice A913 n914 c915]) (ce':=[.slice A913 n914 c915]) (Cells.older (s:=Sm w.heap.size F w [[g2],(Value.slice A12 n13 c14).ownBlock.toList,(Value.slice A20 n21 c22).ownBlock.toList]) hC19 (ho933 _ (me 1 rfl) Sm.ok)) hb51 ht922 rfl (Nat.le_of_ble_eq_true rfl) ⟨A913,n914,c915,rfl,(Rw.older (s:=Sm w.heap.size F sw929 sb930) h928 (ho933 _ (me 0 rfl) Sm.ok))⟩
     rw [← hv67] at hC937
     refine Cf [17] (by kernel_rfl) rfl ⟨Ej 17 rfl gn rfl (Xau (dk:=(Kd.slice (Gs .i64))) (o:=0) (vs:=[.slice A913 n914 c915]) (i:=x26) (ys:=x66) 1 Zx rfl rfl rfl rfl rfl h15 hC19 hb51 rfl hc936 rfl hv67 fun h934=>?_),trivial⟩
     refine ⟨Bf [2] rfl,Bf [2,3] rfl,?_⟩
     refine wfv 18 rfl (Ec Xa rfl rfl h23 hb27) gn hns (by kernel_rfl) ?_
     refine Cf [19] (by kernel_rfl) rfl ⟨Ut 19 rfl gn rfl (Uy (enc:=eB) (o:=0) (z:=true) (vs:=[.bool true]) (i:=x26) 2 hlB Xep rfl rfl rfl rfl rfl h23 hb27 rfl rfl rfl hv73 fun h938=>?_),trivial⟩
     unfold NxL
     refine Et (by kernel_rfl) ?_
     exact D6 [0,2,3] (d1 h934 cs935 sw931 sb932 hC937 h938) ⟨rfl,rfl,trivial⟩ (.cons_cons _ (.cons_cons _ (.cons_cons _ (.slnil)))) rfl
   ·refine Ej 15 rfl gn rfl (D7 [.slice A8 n9 c10, .int .i64 x26] rfl Tryd.func35 rfl rfl rfl fun w939 hL940 => ?_)
    have hp941:=pmI hL940 .n (.c 0 rfl (.c 1 rfl (.c 2 rfl .n))) (by kernel_rfl)
    refine Calls.mono (Hq w939 (Fl ([]:List Cc)) x1.tree x26 A8 n9 c10 (Rw.mono h11 (hL940.toSt hp941 (me 1 rfl))) (hL940.hFl hp941 (Bf [] rfl)) (hL940.into hp941 _) r41 hv42) ?_
    rintro _ w946 ⟨A942,n943,c944,rfl,hM947,h945⟩
    have hL948:=hL940.call hp941 hM947
    refine ⟨_,_,_,rfl,hL948,?_⟩
    refine ⟨Bf [3] rfl,Bf [0,1] rfl,?_⟩
    refine Cf [3,8] (by kernel_rfl) rfl ⟨?_,?_,trivial⟩
    ·refine Ej 3 rfl gn rfl (Ob (Au 1 Xbg rfl rfl rfl) rfl ?_)
     refine ⟨Bf [3] rfl,Bf [0,1] rfl,?_⟩
     refine Cf [8] (by kernel_rfl) rfl ⟨Ej 8 rfl gn rfl (Ob (Au 1 Xcc rfl rfl rfl) rfl ?_),trivial⟩
     refine ⟨Bf [3] rfl,Bf [0,1] rfl,?_⟩
     obtain ⟨ce949,hK950,ht951,hg952⟩:=Cells.get hC19 hb51
     obtain ⟨A953,n954,c955,rfl,h956⟩:=hK950
     refine wfv 16 rfl (Ec Wx rfl rfl h15 hb51) gn hns (by kernel_rfl) ?_
     refine Q4 (F:=F) (dk:=(Gs .i64)) (Sm w.heap.size F w [[g2],(Value.slice A12 n13 c14).ownBlock.toList,(Value.slice A20 n21 c22).ownBlock.toList]) 0 rfl (Ow.weak hL940.env.size h945) (me 0 rfl) Sm.ok (Cells.flat _) fun sw958 sb959 h957=>?_
     refine Vk (F:=F) fun sw960 sb961 ho962=>?_
     obtain ⟨cs964,hc965,hC966⟩:=Cells.put (dk:=(Kd.slice (Gs .i64))) (z:=r41) (o:=0) (vs:=[.slice A942 n943 c944]) (ce':=[.slice A942 n943 c944]) (Cells.older (s:=Sm w.heap.size F w [[g2],(Value.slice A12 n13 c14).ownBlock.toList,(Value.slice A20 n21 c22).ownBlock.toList]) hC19 (ho962 _ (me 1 rfl) Sm.ok)) hb51 ht951 rfl (Nat.le_of_ble_eq_true rfl) ⟨A942,n943,c944,rfl,(Rw.older (s:=Sm w.heap.size F sw958 sb959) h957 (ho962 _ (me 0 rfl) Sm.ok))⟩
     rw [← hv67] at hC966
     refine Cf [17] (by kernel_rfl) rfl ⟨Ej 17 rfl gn rfl (Xau (dk:=(Kd.slice (Gs .i64))) (o:=0) (vs:=[.slice A942 n943 c944]) (i:=x26) (ys:=x66) 1 Zx rfl rfl rfl rfl rfl h15 hC19 hb51 rfl hc965 rfl hv67 fun h963=>?_),trivial⟩
     refine ⟨Bf [2] rfl,Bf [2,3] rfl,?_⟩
     refine wfv 18 rfl (Ec Xa rfl rfl h23 hb27) gn hns (by kernel_rfl) ?_
     refine Cf [19] (by kernel_rfl) rfl ⟨Ut 19 rfl gn rfl (Uy (enc:=eB) (o:=0) (z:=true) (vs:=[.bool true]) (i:=x26) 2 hlB Xep rfl rfl rfl rfl rfl h23 hb27 rfl rfl rfl hv73 fun h967=>?_),trivial⟩
     unfold NxL
     refine Et (by kernel_rfl) ?_
     exact D6 [0,2,3] (d1 h963 cs964 sw960 sb961 hC966 h967) ⟨rfl,rfl,trivial⟩ (.cons_cons _ (.cons_cons _ (.cons_cons _ (.slnil)))) rfl
    ·refine Ej 8 rfl gn rfl (Ob (Au 1 Xcc rfl rfl rfl) rfl ?_)
     refine ⟨Bf [3] rfl,Bf [0,1] rfl,?_⟩
     refine Cf [3] (by kernel_rfl) rfl ⟨Ej 3 rfl gn rfl (Ob (Au 1 Xbg rfl rfl rfl) rfl ?_),trivial⟩
     refine ⟨Bf [3] rfl,Bf [0,1] rfl,?_⟩
     obtain ⟨ce968,hK969,ht970,hg971⟩:=Cells.get hC19 hb51
     obtain ⟨A972,n973,c974,rfl,h975⟩:=hK969
     refine wfv 16 rfl (Ec Wx rfl rfl h15 hb51) gn hns (by kernel_rfl) ?_
     refine Q4 (F:=F) (dk:=(Gs .i64)) (Sm w.heap.size F w [[g2],(Value.slice A12 n13 c14).ownBlock.toList,(Value.slice A20 n21 c22).ownBlock.toList]) 0 rfl (Ow.weak hL940.env.size h945) (me 0 rfl) Sm.ok (Cells.flat _) fun sw977 sb978 h976=>?_
     refine Vk (F:=F) fun sw979 sb980 ho981=>?_
     obtain ⟨cs983,hc984,hC985⟩:=Cells.put (dk:=(Kd.slice (Gs .i64))) (z:=r41) (o:=0) (vs:=[.slice A942 n943 c944]) (ce':=[.slice A942 n943 c944]) (Cells.older (s:=Sm w.heap.size F w [[g2],(Value.slice A12 n13 c14).ownBlock.toList,(Value.slice A20 n21 c22).ownBlock.toList]) hC19 (ho981 _ (me 1 rfl) Sm.ok)) hb51 ht970 rfl (Nat.le_of_ble_eq_true rfl) ⟨A942,n943,c944,rfl,(Rw.older (s:=Sm w.heap.size F sw977 sb978) h976 (ho981 _ (me 0 rfl) Sm.ok))⟩
     rw [← hv67] at hC985
     refine Cf [17] (by kernel_rfl) rfl ⟨Ej 17 rfl gn rfl (Xau (dk:=(Kd.slice (Gs .i64))) (o:=0) (vs:=[.slice A942 n943 c944]) (i:=x26) (ys:=x66) 1 Zx rfl rfl rfl rfl rfl h15 hC19 hb51 rfl hc984 rfl hv67 fun h982=>?_),trivial⟩
     refine ⟨Bf [2] rfl,Bf [2,3] rfl,?_⟩
     refine wfv 18 rfl (Ec Xa rfl rfl h23 hb27) gn hns (by kernel_rfl) ?_
     refine Cf [19] (by kernel_rfl) rfl ⟨Ut 19 rfl gn rfl (Uy (enc:=eB) (o:=0) (z:=true) (vs:=[.bool true]) (i:=x26) 2 hlB Xep rfl rfl rfl rfl rfl h23 hb27 rfl rfl rfl hv73 fun h986=>?_),trivial⟩
     unfold NxL
     refine Et (by kernel_rfl) ?_
     exact D6 [0,2,3] (d1 h982 cs983 sw979 sb980 hC985 h986) ⟨rfl,rfl,trivial⟩ (.cons_cons _ (.cons_cons _ (.cons_cons _ (.slnil)))) rfl
noncomputable abbrev Xik:=Code.snd (Code.snd (Code.snd (Df Tryd.f71)))
noncomputable abbrev Xcn:=Code.fst (Code.fst (Code.snd (Code.fst (Code.snd (Code.snd (Df Tryd.f71))))))
noncomputable abbrev q71c34:=Code.fst (Code.fst (Code.snd (Code.snd (Code.snd (Code.fst (Code.fst (Code.snd (Code.snd Xcn))))))))
abbrev Ko (w:World) (F:Nat→Prop) (g15:Nat) (g17:Nat) (g20:Nat) (Tb16:Nat) (Tb18:Nat) (Tb21:Nat) (A2:Option Addr) (n3:Nat) (c4:Nat) (z6:Nat) (A30:Option Addr) (n31:Nat) (c32:Nat) (z34:Nat) (A38:Option Addr) (n39:Nat) (c40:Nat) (z42:Nat) (A22:Option Addr) (n23:Nat) (c24:Nat) (A26:Option Addr) (n27:Nat) (c28:Nat) (r:(List Int) × Az):Ending→World→Prop:=fun e w'=>∃ Ar0:Option Addr,∃ nr0:Nat,∃ cr0:Nat,∃ Ar3:Option Addr,∃ nr3:Nat,∃ cr3:Nat,∃ cs3:List Value,∃ Ar4:Option Addr,∃ nr4:Nat,∃ cr4:Nat,e=.returned (.slice Ar0 nr0 cr0)∧B.Loc w w' [.box g15 Tb16 [.pointer (some ⟨g20,0,none⟩)],.box g17 Tb18 [.func (.func 71) #[] #[.pointer (some ⟨g15,0,none⟩),.pointer (some ⟨g17,0,none⟩)]],.box g20 Tb21 [.slice A22 n23 c24,.slice A26 n27 c28,.slice Ar3 nr3 cr3,.slice Ar4 nr4 cr4],.own (.slice Ar0 nr0 cr0) 3 1 nr0 (r.1.flatMap (eI .i64)),.own (.slice Ar3 nr3 cr3) 36 1 nr3 cs3,.own (.slice Ar4 nr4 cr4) 4 1 nr4 (r.2.known.flatMap eB)] [St w [(Value.slice A2 n3 c4).ownBlock.toList,[g15],[g17],[g20],(Value.slice A30 n31 c32).ownBlock.toList,(Value.slice A38 n39 c40).ownBlock.toList]]∧Ow z6 Ar0 nr0 cr0 r.1∧(r.1=[]→Ar0=none)∧Ow z34 Ar3 nr3 cr3 r.2.of∧Cells (Kd.slice (Gs .i64)) w' (Nw w w' F [.box g15 Tb16 [.pointer (some ⟨g20,0,none⟩)],.box g17 Tb18 [.func (.func 71) #[] #[.pointer (some ⟨g15,0,none⟩),.pointer (some ⟨g17,0,none⟩)]],.box g20 Tb21 [.slice A22 n23 c24,.slice A26 n27 c28,.slice Ar3 nr3 cr3,.slice Ar4 nr4 cr4],.own (.slice Ar0 nr0 cr0) 3 1 nr0 (r.1.flatMap (eI .i64)),.own (.slice Ar3 nr3 cr3) 36 1 nr3 cs3,.own (.slice Ar4 nr4 cr4) 4 1 nr4 (r.2.known.flatMap eB)]) r.2.of cs3∧Ow z42 Ar4 nr4 cr4 r.2.known
noncomputable abbrev Og (w:World) (F:Nat→Prop) (g15:Nat) (g17:Nat) (g20:Nat) (Tb16:Nat) (Tb18:Nat) (Tb21:Nat) (A2:Option Addr) (n3:Nat) (c4:Nat) (z6:Nat) (A30:Option Addr) (n31:Nat) (c32:Nat) (z34:Nat) (A38:Option Addr) (n39:Nat) (c40:Nat) (z42:Nat) (A22:Option Addr) (n23:Nat) (c24:Nat) (A26:Option Addr) (n27:Nat) (c28:Nat) (r:(List Int) × Az):Cx:=⟨Tryd.prog,71,Tryd.f71,46,Ko w F g15 g17 g20 Tb16 Tb18 Tb21 A2 n3 c4 z6 A30 n31 c32 z34 A38 n39 c40 z42 A22 n23 c24 A26 n27 c28 r,w⟩
def Nq (rl:(List Int)→Int→Int→(List Int)→Az→((List Int) × Az)→Prop):Prop:=∀ (w:World) (F:Nat→Prop) (x1:List Int) (x8:Int) (x9:Int) (x10:List Int) (x19:Az) (z6:Nat) (A2:Option Addr) (n3:Nat) (c4:Nat) (A11:Option Addr) (n12:Nat) (c13:Nat) (g15:Nat) (Tb16:Nat) (g17:Nat) (Tb18:Nat) (g20:Nat) (Tb21:Nat) (A22:Option Addr) (n23:Nat) (c24:Nat) (A26:Option Addr) (n27:Nat) (c28:Nat) (z34:Nat) (A30:Option Addr) (n31:Nat) (c32:Nat) (cs36:List Value) (z42:Nat) (A38:Option Addr) (n39:Nat) (c40:Nat) (hz7:z6≤w.heap.size) (h5:Ow z6 A2 n3 c4 x1) (h14:Rw (Gs .i64) w (St w [(Value.slice A2 n3 c4).ownBlock.toList,[g15],[g17],[g20],(Value.slice A30 n31 c32).ownBlock.toList,(Value.slice A38 n39 c40).ownBlock.toList]).av A11 n12 c13 x10) (h25:Rw Cb w (St w [(Value.slice A2 n3 c4).ownBlock.toList,[g15],[g17],[g20],(Value.slice A30 n31 c32).ownBlock.toList,(Value.slice A38 n39 c40).ownBlock.toList]).av A22 n23 c24 x19.nodes) (h29:Rw D9 w (St w [(Value.slice A2 n3 c4).ownBlock.toList,[g15],[g17],[g20],(Value.slice A30 n31 c32).ownBlock.toList,(Value.slice A38 n39 c40).ownBlock.toList]).av A26 n27 c28 x19.tree) (hz35:z34≤w.heap.size) (h33:Ow z34 A30 n31 c32 x19.of) (hC37:Cells (Kd.slice (Gs .i64)) w F x19.of cs36) (hz43:z42≤w.heap.size) (h41:Ow z42 A38 n39 c40 x19.known) (hF:∀ b,F b→b < w.heap.size∧∀ o ∈ ([(Value.slice A2 n3 c4).ownBlock.toList,[g15],[g17],[g20],(Value.slice A30 n31 c32).ownBlock.toList,(Value.slice A38 n39 c40).ownBlock.toList]:List (List Nat)),b ∉ o) (hL0:B.Loc w w [.own (.slice A2 n3 c4) 3 1 n3 (x1.flatMap (eI .i64)),.box g15 Tb16 [.pointer (some ⟨g20,0,none⟩)],.box g17 Tb18 [.func (.func 71) #[] #[.pointer (some ⟨g15,0,none⟩),.pointer (some ⟨g17,0,none⟩)]],.box g20 Tb21 [.slice A22 n23 c24,.slice A26 n27 c28,.slice A30 n31 c32,.slice A38 n39 c40],.own (.slice A30 n31 c32) 36 1 n31 cs36,.own (.slice A38 n39 c40) 4 1 n39 (x19.known.flatMap eB)] [Sm w.heap.size F w [(Value.slice A2 n3 c4).ownBlock.toList,[g15],[g17],[g20],(Value.slice A30 n31 c32).ownBlock.toList,(Value.slice A38 n39 c40).ownBlock.toList],St w [(Value.slice A2 n3 c4).ownBlock.toList,[g15],[g17],[g20],(Value.slice A30 n31 c32).ownBlock.toList,(Value.slice A38 n39 c40).ownBlock.toList]]) (r:(List Int) × Az) (h:rl x1 x8 x9 x10 x19 r),Calls Tryd.prog 71 #[.slice A2 n3 c4,.int .i64 x8,.int .i64 x9,.slice A11 n12 c13,.pointer (some ⟨g15,0,none⟩),.pointer (some ⟨g17,0,none⟩)] w (Ko w F g15 g17 g20 Tb16 Tb18 Tb21 A2 n3 c4 z6 A30 n31 c32 z34 A38 n39 c40 z42 A22 n23 c24 A26 n27 c28 r)
noncomputable abbrev q40c3:=Code.fst (Code.snd (Df Tryd.f40))
noncomputable abbrev q40c4:=Code.snd (Code.snd (Df Tryd.f40))
noncomputable abbrev q40c6:=Code.snd q40c4
noncomputable abbrev q40c8:=Code.snd (Code.fst q40c4)
abbrev Lt (w:World) (F:Nat→Prop) (g2:Nat) (Tb3:Nat) (A12:Option Addr) (n13:Nat) (c14:Nat) (z16:Nat) (A20:Option Addr) (n21:Nat) (c22:Nat) (z24:Nat) (A4:Option Addr) (n5:Nat) (c6:Nat) (A8:Option Addr) (n9:Nat) (c10:Nat) (r:(List Int) × Az):Ending→World→Prop:=fun e w'=>∃ Ar0:Option Addr,∃ nr0:Nat,∃ cr0:Nat,∃ Ar3:Option Addr,∃ nr3:Nat,∃ cr3:Nat,∃ cs3:List Value,∃ Ar4:Option Addr,∃ nr4:Nat,∃ cr4:Nat,e=.returned (.slice Ar0 nr0 cr0)∧B.Loc w w' [.box g2 Tb3 [.slice A4 n5 c6,.slice A8 n9 c10,.slice Ar3 nr3 cr3,.slice Ar4 nr4 cr4],.own (.slice Ar0 nr0 cr0) 3 1 nr0 (r.1.flatMap (eI .i64)),.own (.slice Ar3 nr3 cr3) 36 1 nr3 cs3,.own (.slice Ar4 nr4 cr4) 4 1 nr4 (r.2.known.flatMap eB)] [St w [[g2],(Value.slice A12 n13 c14).ownBlock.toList,(Value.slice A20 n21 c22).ownBlock.toList]]∧Ow w.heap.size Ar0 nr0 cr0 r.1∧(r.1=[]→Ar0=none)∧Ow z16 Ar3 nr3 cr3 r.2.of∧Cells (Kd.slice (Gs .i64)) w' (Nw w w' F [.box g2 Tb3 [.slice A4 n5 c6,.slice A8 n9 c10,.slice Ar3 nr3 cr3,.slice Ar4 nr4 cr4],.own (.slice Ar0 nr0 cr0) 3 1 nr0 (r.1.flatMap (eI .i64)),.own (.slice Ar3 nr3 cr3) 36 1 nr3 cs3,.own (.slice Ar4 nr4 cr4) 4 1 nr4 (r.2.known.flatMap eB)]) r.2.of cs3∧Ow z24 Ar4 nr4 cr4 r.2.known
noncomputable abbrev Ud (w:World) (F:Nat→Prop) (g2:Nat) (Tb3:Nat) (A12:Option Addr) (n13:Nat) (c14:Nat) (z16:Nat) (A20:Option Addr) (n21:Nat) (c22:Nat) (z24:Nat) (A4:Option Addr) (n5:Nat) (c6:Nat) (A8:Option Addr) (n9:Nat) (c10:Nat) (r:(List Int) × Az):Cx:=⟨Tryd.prog,40,Tryd.f40,85,Lt w F g2 Tb3 A12 n13 c14 z16 A20 n21 c22 z24 A4 n5 c6 A8 n9 c10 r,w⟩
def Pj (rl:Az→Int→Int→((List Int) × Az)→Prop):Prop:=∀ (w:World) (F:Nat→Prop) (x1:Az) (x26:Int) (x27:Int) (g2:Nat) (Tb3:Nat) (A4:Option Addr) (n5:Nat) (c6:Nat) (A8:Option Addr) (n9:Nat) (c10:Nat) (z16:Nat) (A12:Option Addr) (n13:Nat) (c14:Nat) (cs18:List Value) (z24:Nat) (A20:Option Addr) (n21:Nat) (c22:Nat) (h7:Rw Cb w (St w [[g2],(Value.slice A12 n13 c14).ownBlock.toList,(Value.slice A20 n21 c22).ownBlock.toList]).av A4 n5 c6 x1.nodes) (h11:Rw D9 w (St w [[g2],(Value.slice A12 n13 c14).ownBlock.toList,(Value.slice A20 n21 c22).ownBlock.toList]).av A8 n9 c10 x1.tree) (hz17:z16≤w.heap.size) (h15:Ow z16 A12 n13 c14 x1.of) (hC19:Cells (Kd.slice (Gs .i64)) w F x1.of cs18) (hz25:z24≤w.heap.size) (h23:Ow z24 A20 n21 c22 x1.known) (hF:∀ b,F b→b < w.heap.size∧∀ o ∈ ([[g2],(Value.slice A12 n13 c14).ownBlock.toList,(Value.slice A20 n21 c22).ownBlock.toList]:List (List Nat)),b ∉ o) (hL0:B.Loc w w [.box g2 Tb3 [.slice A4 n5 c6,.slice A8 n9 c10,.slice A12 n13 c14,.slice A20 n21 c22],.own (.slice A12 n13 c14) 36 1 n13 cs18,.own (.slice A20 n21 c22) 4 1 n21 (x1.known.flatMap eB)] [Sm w.heap.size F w [[g2],(Value.slice A12 n13 c14).ownBlock.toList,(Value.slice A20 n21 c22).ownBlock.toList],St w [[g2],(Value.slice A12 n13 c14).ownBlock.toList,(Value.slice A20 n21 c22).ownBlock.toList]]) (r:(List Int) × Az) (h:rl x1 x26 x27 r),Calls Tryd.prog 40 #[.pointer (some ⟨g2,0,none⟩),.int .i64 x26,.int .i64 x27] w (Lt w F g2 Tb3 A12 n13 c14 z16 A20 n21 c22 z24 A4 n5 c6 A8 n9 c10 r)
theorem Yz (rc_query_matcher_fits_1:(List Int)→Int→Int→(List Int)→Az→((List Int) × Az)→Prop) (rc_query_matcher_fits:Az→Int→Int→((List Int) × Az)→Prop) (ih_query_matcher_fits_1:Nq rc_query_matcher_fits_1) (ih_query_matcher_fits:Pj rc_query_matcher_fits):Nq (Po rc_query_matcher_fits_1 rc_query_matcher_fits):=by
 intro w F x1 x8 x9 x10 x19 z6 A2 n3 c4 A11 n12 c13 g15 Tb16 g17 Tb18 g20 Tb21 A22 n23 c24 A26 n27 c28 z34 A30 n31 c32 cs36 z42 A38 n39 c40 hz7 h5 h14 h25 h29 hz35 h33 hC37 hz43 h41 hF hL0 r h
 unfold Po at h
 have hC37:=Cells.into (bs:=[(Value.slice A2 n3 c4).ownBlock.toList,[g15],[g17],[g20],(Value.slice A30 n31 c32).ownBlock.toList,(Value.slice A38 n39 c40).ownBlock.toList]) hF hC37
 refine Bl (vs:=[.slice A2 n3 c4,.int .i64 x8,.int .i64 x9,.slice A11 n12 c13,.pointer (some ⟨g15,0,none⟩),.pointer (some ⟨g17,0,none⟩)]) 46 Tryd.func71 rfl Tryd.ntmps71 rfl hL0 ?_
 show G (Og w F g15 g17 g20 Tb16 Tb18 Tb21 A2 n3 c4 z6 A30 n31 c32 z34 A38 n39 c40 z42 A22 n23 c24 A26 n27 c28 r) _ _ _ _
 refine Ag rfl<|Ac rfl rfl<|Aa 0 rfl (Af rfl) gn rfl<|Ah 1 rfl<|Ag rfl<|Ag rfl<|Ac rfl rfl<|Aa 0 rfl (Ae rfl) gn rfl<|Aa 1 rfl (Ba rfl rfl rfl) gn rfl<|Ah 2 rfl ?_
 by_cases hp44:x8=0
 ·have h:=Ap hp44 h
  refine Bi rfl _ rfl ((eqi hp44))<|Ag rfl<|Ac rfl rfl<|Aa 0 rfl (Ae rfl) gn rfl<|Aa 1 rfl (Af rfl) gn rfl<|Ah 2 rfl ?_
  obtain ⟨hne,h⟩:=h
  refine Bg [.slice A2 n3 c4] rfl Tryd.func71 rfl (.tmp rfl (.nil)) fun wr hLr=>?_
  have hMr:=hLr.pkI (.c 1 rfl (.c 2 rfl (.c 3 rfl (.c 0 rfl (.c 4 rfl (.c 5 rfl .n)))))) .n (by kernel_rfl) (.c 1 rfl .n)
  have hMi:=hLr.selI (.c 1 rfl (.c 2 rfl (.c 3 rfl (.c 0 rfl (.c 4 rfl (.c 5 rfl .n))))))
  show Ko w F g15 g17 g20 Tb16 Tb18 Tb21 A2 n3 c4 z6 A30 n31 c32 z34 A38 n39 c40 z42 A22 n23 c24 A26 n27 c28 r (.returned (Bz [.slice A2 n3 c4])) wr
  rw [h]
  exact ⟨A2,n3,c4,A30,n31,c32,cs36,A38,n39,c40,rfl,hMr,h5,(fun e=>absurd e hne),h33,(hLr.outC (s:=Sm w.heap.size F w [(Value.slice A2 n3 c4).ownBlock.toList,[g15],[g17],[g20],(Value.slice A30 n31 c32).ownBlock.toList,(Value.slice A38 n39 c40).ownBlock.toList]) hMi (me 0 rfl) Sm.ok hC37),h41⟩
 ·have h:=Am hp44 h
  refine Bc rfl _ rfl ((nei hp44))<|Bo rfl<|Ag rfl<|Ag rfl<|Ac rfl rfl<|Aa 0 rfl (Ae rfl) gn rfl<|Aa 1 rfl (D5 Iy rfl h14.hq) gn rfl<|Aa 2 rfl (Ae rfl) gn rfl<|Ah 3 rfl<|Bv rfl<|Ei rfl ?_
  have key1:∀ s,Ar (fun (s:Int × (List (List Int)) × (List Bool)) o=>Eu x10 rc_query_matcher_fits x19 x9 x1 rc_query_matcher_fits_1 x8 s.1 s.2.1 s.2.2 o) s r→(fun (s:Int × (List (List Int)) × (List Bool))=>∀ (A238:Option Addr) (n239:Nat) (c240:Nat) (h241:Ow z34 A238 n239 c240 s.2.1) (cs242:List Value) (sw243:World) (sb244:List (List Nat)) (hC245:Cells (Kd.slice (Gs .i64)) (Sm w.heap.size F sw243 sb244).w (Sm w.heap.size F sw243 sb244).av s.2.1 cs242) (A247:Option Addr) (n248:Nat) (c249:Nat) (h250:Ow z42 A247 n248 c249 s.2.2),G (Og w F g15 g17 g20 Tb16 Tb18 Tb21 A2 n3 c4 z6 A30 n31 c32 z34 A38 n39 c40 z42 A22 n23 c24 A26 n27 c28 r) [.code Xcn,.inLoop Xcn,.inBlock 0,.code Xik] [(0,.slice A2 n3 c4),(1,.int .i64 x8),(2,.int .i64 x9),(3,.slice A11 n12 c13),(4,.pointer (some ⟨g15,0,none⟩)),(5,.pointer (some ⟨g17,0,none⟩)),(17,.slice A11 n12 c13),(18,.int .i64 (x10.length:Int)),(19,.int .i64 s.1)] [.own (.slice A238 n239 c240) 36 1 n239 cs242,.own (.slice A247 n248 c249) 4 1 n248 (s.2.2.flatMap eB),.own (.slice A2 n3 c4) 3 1 n3 (x1.flatMap (eI .i64)),.box g15 Tb16 [.pointer (some ⟨g20,0,none⟩)],.box g17 Tb18 [.func (.func 71) #[] #[.pointer (some ⟨g15,0,none⟩),.pointer (some ⟨g17,0,none⟩)]],.box g20 Tb21 [.slice A22 n23 c24,.slice A26 n27 c28,.slice A238 n239 c240,.slice A247 n248 c249]] [Sm w.heap.size F sw243 sb244,Sm w.heap.size F w [(Value.slice A2 n3 c4).ownBlock.toList,[g15],[g17],[g20],(Value.slice A30 n31 c32).ownBlock.toList,(Value.slice A38 n39 c40).ownBlock.toList],St w [(Value.slice A2 n3 c4).ownBlock.toList,[g15],[g17],[g20],(Value.slice A30 n31 c32).ownBlock.toList,(Value.slice A38 n39 c40).ownBlock.toList]]) s:=by
   intro s hs
   refine Ar.ind (mot:=(fun (s:Int × (List (List Int)) × (List Bool))=>∀ (A238:Option Addr) (n239:Nat) (c240:Nat) (h241:Ow z34 A238 n239 c240 s.2.1) (cs242:List Value) (sw243:World) (sb244:List (List Nat)) (hC245:Cells (Kd.slice (Gs .i64)) (Sm w.heap.size F sw243 sb244).w (Sm w.heap.size F sw243 sb244).av s.2.1 cs242) (A247:Option Addr) (n248:Nat) (c249:Nat) (h250:Ow z42 A247 n248 c249 s.2.2),G (Og w F g15 g17 g20 Tb16 Tb18 Tb21 A2 n3 c4 z6 A30 n31 c32 z34 A38 n39 c40 z42 A22 n23 c24 A26 n27 c28 r) [.code Xcn,.inLoop Xcn,.inBlock 0,.code Xik] [(0,.slice A2 n3 c4),(1,.int .i64 x8),(2,.int .i64 x9),(3,.slice A11 n12 c13),(4,.pointer (some ⟨g15,0,none⟩)),(5,.pointer (some ⟨g17,0,none⟩)),(17,.slice A11 n12 c13),(18,.int .i64 (x10.length:Int)),(19,.int .i64 s.1)] [.own (.slice A238 n239 c240) 36 1 n239 cs242,.own (.slice A247 n248 c249) 4 1 n248 (s.2.2.flatMap eB),.own (.slice A2 n3 c4) 3 1 n3 (x1.flatMap (eI .i64)),.box g15 Tb16 [.pointer (some ⟨g20,0,none⟩)],.box g17 Tb18 [.func (.func 71) #[] #[.pointer (some ⟨g15,0,none⟩),.pointer (some ⟨g17,0,none⟩)]],.box g20 Tb21 [.slice A22 n23 c24,.slice A26 n27 c28,.slice A238 n239 c240,.slice A247 n248 c249]] [Sm w.heap.size F sw243 sb244,Sm w.heap.size F w [(Value.slice A2 n3 c4).ownBlock.toList,[g15],[g17],[g20],(Value.slice A30 n31 c32).ownBlock.toList,(Value.slice A38 n39 c40).ownBlock.toList],St w [(Value.slice A2 n3 c4).ownBlock.toList,[g15],[g17],[g20],(Value.slice A30 n31 c32).ownBlock.toList,(Value.slice A38 n39 c40).ownBlock.toList]])) ?_ hs
   clear hs s
   intro s o1 h hO1
   obtain ⟨x236,x237,x246⟩:=s
   show ∀ (A238:Option Addr) (n239:Nat) (c240:Nat) (h241:Ow z34 A238 n239 c240 x237) (cs242:List Value) (sw243:World) (sb244:List (List Nat)) (hC245:Cells (Kd.slice (Gs .i64)) (Sm w.heap.size F sw243 sb244).w (Sm w.heap.size F sw243 sb244).av x237 cs242) (A247:Option Addr) (n248:Nat) (c249:Nat) (h250:Ow z42 A247 n248 c249 x246),G (Og w F g15 g17 g20 Tb16 Tb18 Tb21 A2 n3 c4 z6 A30 n31 c32 z34 A38 n39 c40 z42 A22 n23 c24 A26 n27 c28 r) [.code Xcn,.inLoop Xcn,.inBlock 0,.code Xik] [(0,.slice A2 n3 c4),(1,.int .i64 x8),(2,.int .i64 x9),(3,.slice A11 n12 c13),(4,.pointer (some ⟨g15,0,none⟩)),(5,.pointer (some ⟨g17,0,none⟩)),(17,.slice A11 n12 c13),(18,.int .i64 (x10.length:Int)),(19,.int .i64 x236)] [.own (.slice A238 n239 c240) 36 1 n239 cs242,.own (.slice A247 n248 c249) 4 1 n248 (x246.flatMap eB),.own (.slice A2 n3 c4) 3 1 n3 (x1.flatMap (eI .i64)),.box g15 Tb16 [.pointer (some ⟨g20,0,none⟩)],.box g17 Tb18 [.func (.func 71) #[] #[.pointer (some ⟨g15,0,none⟩),.pointer (some ⟨g17,0,none⟩)]],.box g20 Tb21 [.slice A22 n23 c24,.slice A26 n27 c28,.slice A238 n239 c240,.slice A247 n248 c249]] [Sm w.heap.size F sw243 sb244,Sm w.heap.size F w [(Value.slice A2 n3 c4).ownBlock.toList,[g15],[g17],[g20],(Value.slice A30 n31 c32).ownBlock.toList,(Value.slice A38 n39 c40).ownBlock.toList],St w [(Value.slice A2 n3 c4).ownBlock.toList,[g15],[g17],[g20],(Value.slice A30 n31 c32).ownBlock.toList,(Value.slice A38 n39 c40).ownBlock.toList]]
   intro A238 n239 c240 h241 cs242 sw243 sb244 hC245 A247 n248 c249 h250
   have h:Eu x10 rc_query_matcher_fits x19 x9 x1 rc_query_matcher_fits_1 x8 x236 x237 x246 o1:=h
   unfold Eu at h
   refine Ag rfl<|Ac rfl rfl<|Aa 0 rfl (Ba rfl rfl rfl) gn rfl<|Ah 1 rfl<|Ag rfl ?_
   by_cases hp441:x236 < (x10.length:Int)
   ·have h:=Ap hp441 h
    refine Bi rfl _ rfl ((decide_eq_true hp441))<|Bo rfl<|Ag rfl<|Bv rfl<|Ag rfl<|Ac rfl rfl<|Aa 0 rfl (Ae rfl) gn rfl ?_
    obtain ⟨hb442,h⟩:=h
    have hr443:=Rw.readF (s:=St w [(Value.slice A2 n3 c4).ownBlock.toList,[g15],[g17],[g20],(Value.slice A30 n31 c32).ownBlock.toList,(Value.slice A38 n39 c40).ownBlock.toList]) (hl:=(hlI .i64)) (h1:=(F9 .i64)) h14 hb442
    refine Aa 1 rfl (Ef (s:=St w [(Value.slice A2 n3 c4).ownBlock.toList,[g15],[g17],[g20],(Value.slice A30 n31 c32).ownBlock.toList,(Value.slice A38 n39 c40).ownBlock.toList]) Jb rfl rfl h14 hb442) gn rfl<|Aa 2 rfl (Le (kk:=(x236:Int).toNat * 1) (j:=0) (St w [(Value.slice A2 n3 c4).ownBlock.toList,[g15],[g17],[g20],(Value.slice A30 n31 c32).ownBlock.toList,(Value.slice A38 n39 c40).ownBlock.toList]) O9 rfl hr443 rfl (me 2 rfl)) gn rfl<|Aa 3 rfl (Af rfl) gn rfl<|Aa 4 rfl (Af rfl) gn rfl<|Ah 5 rfl<|Ag rfl<|Ac rfl rfl<|Aa 0 rfl (Au 3 ld_66 rfl rfl rfl) gn rfl<|Aa 1 rfl (Ae rfl) gn rfl<|Aa 2 rfl (Ae rfl) gn rfl ?_
    obtain ⟨r447,hv448,h⟩:=h
    refine Ci 3 rfl (D7 [.pointer (some ⟨g20,0,none⟩),.int .i64 x9,.int .i64 (ix x10 x236)] rfl Tryd.func40 rfl rfl rfl fun w444 hL445=>?_) gn
    have hp446:=pmI hL445 (.c 5 rfl (.c 0 rfl (.c 1 rfl .n))) (.c 2 rfl (.c 3 rfl (.c 4 rfl .n))) (by kernel_rfl)
    refine Calls.mono (ih_query_matcher_fits w444 (Fl ([Sm w.heap.size F sw243 sb244]:List Cc)) (⟨x19.nodes,x19.tree,x237,x246⟩:Az) x9 (ix x10 x236) g20 Tb21 A22 n23 c24 A26 n27 c28 z34 A238 n239 c240 cs242 z42 A247 n248 c249 (Rw.mono h25 (hL445.toSt hp446 (me 2 rfl))) (Rw.mono h29 (hL445.toSt hp446 (me 2 rfl))) (Nat.le_trans hz35 hL445.env.size) h241 (Cells.mono (hL445.toFl (me 0 rfl) (me 0 rfl)) hC245) (Nat.le_trans hz43 hL445.env.size) h250 (hL445.hFl hp446 (Bf [0] rfl)) (hL445.into hp446 _) r447 hv448) ?_
    rintro _ w467 ⟨A449,n450,c451,A455,n456,c457,cs460,A462,n463,c464,rfl,hM468,h452,ht454,h458,hC461,h465⟩
    obtain ⟨sb471,hL469,hv470⟩:=hL445.callB (Sl:=([Sm w.heap.size F sw243 sb244]:List Cc)) hp446 hM468 F (Bf [0] rfl) ⟨Sm.ok,trivial⟩
    have hC461:Cells (Kd.slice (Gs .i64)) (Sm w.heap.size F w467 sb471).w (Sm w.heap.size F w467 sb471).av r447.2.of cs460:=Cells.mono hv470 hC461
    refine ⟨_,_,_,rfl,hL469,?_⟩
    refine Aa 4 rfl (Af rfl) gn rfl<|Ah 5 rfl<|Ag rfl<|Ac rfl rfl<|Aa 0 rfl (Ae rfl) gn rfl ?_
    obtain ⟨b472,hb473⟩:∃ b,b=A449.isNone:=⟨_,rfl⟩
    have h:=h b472 ⟨nil_of hb473 (Ow.weak hL445.env.size h452).hA (Ow.weak hL445.env.size h452).hq,fun e=>by rw [hb473,ht454 e]; rfl⟩
    refine Aa 1 rfl (v_neSL Iy rfl hb473.symm) gn rfl<|Ah 2 rfl ?_
    by_cases hp474:b472=true
    ·have h:=Ap hp474 h
     refine Bc rfl _ rfl ((nf hp474))<|Bo rfl<|Bj<|Ac rfl rfl<|Aa 0 rfl (Ba rfl rfl rfl) gn rfl<|Aa 1 rfl (Ae rfl) gn rfl<|Ah 2 rfl<|Cm<|Cj 0 rfl<|Cj 6 rfl<|Cj 6 rfl<|Cj 6 rfl ?_
     refine Cj 6 rfl<|Cj 6 rfl ?_
     have ih:=Out.inl hO1 h
     exact D6 [0,2,3] (ih A455 n456 c457 h458 cs460 w467 sb471 hC461 A462 n463 c464 h465) ⟨rfl,rfl,rfl,rfl,rfl,rfl,rfl,rfl,rfl,trivial⟩ (.cons_cons _ (.cons_cons _ (.cons_cons _ (.cons_cons _ (.cons_cons _ (.cons_cons _ (.cons _ (.slnil)))))))) rfl
    ·have h:=Am hp474 h
     refine Bi rfl _ rfl ((nt (bf hp474)))<|Ag rfl ?_
     obtain ⟨x478,hv479,h⟩:=h
     obtain ⟨hb480,h⟩:=h
     obtain ⟨hb481,h⟩:=h
     obtain ⟨r486,hv487,h⟩:=h
     have hns:Region.noSelect (Code.ops q71c34)=true:=by kernel_rfl
     refine Xbt [.box g20 Tb21 [.slice A22 n23 c24,.slice A26 n27 c28,.slice A455 n456 c457,.slice A462 n463 c464],.own (.slice A449 n450 c451) 3 1 n450 (r447.1.flatMap (eI .i64)),.own (.slice A455 n456 c457) 36 1 n456 cs460,.own (.slice A462 n463 c464) 4 1 n463 (r447.2.known.flatMap eB),.box g15 Tb16 [.pointer (some ⟨g20,0,none⟩)],.box g17 Tb18 [.func (.func 71) #[] #[.pointer (some ⟨g15,0,none⟩),.pointer (some ⟨g17,0,none⟩)]]] [Sm w.heap.size F w467 sb471,Sm w.heap.size F sw243 sb244,Sm w.heap.size F w [(Value.slice A2 n3 c4).ownBlock.toList,[g15],[g17],[g20],(Value.slice A30 n31 c32).ownBlock.toList,(Value.slice A38 n39 c40).ownBlock.toList],St w [(Value.slice A2 n3 c4).ownBlock.toList,[g15],[g17],[g20],(Value.slice A30 n31 c32).ownBlock.toList,(Value.slice A38 n39 c40).ownBlock.toList]] [14,15] 16 rfl rfl mix rfl (.cons_cons _ (.cons_cons _ (.cons_cons _ (.cons_cons _ (.cons _ (.cons_cons _ (.cons_cons _ (.slnil)))))))) (Bf [0,1,2,3] rfl)<|wfv 0 rfl (Au 5 ld_101 rfl rfl rfl) gn hns (by kernel_rfl)<|wfv 1 rfl (Ae rfl) gn hns (by kernel_rfl)<|wfv 2 rfl (Ae rfl) gn hns (by kernel_rfl)<|wfv 4 rfl (Ae rfl) gn hns (by kernel_rfl)<|wfv 5 rfl (Ba rfl rfl rfl) gn hns (by kernel_rfl)<|wfv 6 rfl (Ae rfl) gn hns (by kernel_rfl)<|wfv 7 rfl (Ae rfl) gn hns (by kernel_rfl)<|wfv 8 rfl (D5 Iy rfl (Ow.weak hL445.env.size h452).hq) gn hns (by kernel_rfl)<|wfv 9 rfl (Ba rfl rfl rfl) gn hns (by kernel_rfl)<|wfv 10 rfl (Ae rfl) gn hns (by kernel_rfl)<|wfv 11 rfl (Ae rfl) gn hns (by kernel_rfl) ?_
     refine wfv 12 rfl (Ba rfl rfl rfl) gn hns (by kernel_rfl) ?_
     have h601:=Rw.cut (sz:=1) (lv:=w64 (x236 + 1)) (hv:=((n12:Nat):Int)) (mv:=((c13:Nat):Int)) h14 rfl (by have q:=hb481; have q1:=h14.hq; have q2:=h14.hn; omega) (by have q:=hb481; have q1:=h14.hq; have q2:=h14.hn; omega) (by have q:=hb481; have q1:=h14.hq; have q2:=h14.hn; omega)
     rw [cut_all h14.hq] at h601
     refine wfv 13 rfl (v_cut (sz:=1) (n:=n12) (c:=c13) (w64 (x236 + 1)) ((n12:Nat):Int) ((c13:Nat):Int) Jb rfl (by_ rfl) bn bn (by have q:=hb481; have q1:=h14.hq; have q2:=h14.hn; omega) (by have q:=hb481; have q1:=h14.hq; have q2:=h14.hn; omega) (by have q:=hb481; have q1:=h14.hq; have q2:=h14.hn; omega) h14.hn rfl) gn hns (by kernel_rfl) ?_
     refine Cf [3] (by kernel_rfl) rfl ⟨Ej 3 rfl gn rfl (Pn (zs:=x478) (cells':=x478.flatMap (eI .i64)) 4 Y5 rfl rfl rfl h5 hz7 (Src.ownF (hl:=(hlI .i64)) (h1:=(F9 .i64)) 1 rfl (Ow.weak hL445.env.size h452)) (by rw [hv479,List.flatMap_append] <;> rfl) (H9 hv479 (Ow.weak hL445.env.size h452).hq) hb480 rfl rfl fun A605 c606 h607=>?_),trivial⟩
     refine ⟨Bf [0,1,2,3,5,6] rfl,Bf [0,1,2,3] rfl,?_⟩
     refine Cf [14] (by kernel_rfl) rfl ⟨Ut 14 rfl gn rfl (Xal [.slice A605 (n3 + n450) c606,.int .i64 (w64 (x8 - 1)),.int .i64 (w64 (x9 + (r447.1.length:Int))),.slice (if (((c13:Nat):Int):Int).toNat=(w64 (x236 + 1):Int).toNat then A11 else A11.map (·.add ((w64 (x236 + 1):Int).toNat * 1))) ((((n12:Nat):Int):Int).toNat - (w64 (x236 + 1):Int).toNat) ((((c13:Nat):Int):Int).toNat - (w64 (x236 + 1):Int).toNat)] [.pointer (some ⟨g15,0,none⟩),.pointer (some ⟨g17,0,none⟩)] rfl rfl Tryd.func71 rfl rfl rfl fun w608 hL609=>?_),trivial⟩
     have hp610:=pmI hL609 (.c 4 rfl (.c 5 rfl (.c 6 rfl (.c 0 rfl (.c 2 rfl (.c 3 rfl .n)))))) (.c 1 rfl .n) (by kernel_rfl)
     refine Calls.mono (ih_query_matcher_fits_1 w608 (Fl ([Sm w.heap.size F w467 sb471]:List Cc)) x478 (w64 (x8 - 1)) (w64 (x9 + (r447.1.length:Int))) (x10.drop (w64 (x236 + 1):Int).toNat) (⟨x19.nodes,x19.tree,r447.2.of,r447.2.known⟩:Az) z6 A605 (n3 + n450) c606 (if (((c13:Nat):Int):Int).toNat=(w64 (x236 + 1):Int).toNat then A11 else A11.map (·.add ((w64 (x236 + 1):Int).toNat * 1))) ((((n12:Nat):Int):Int).toNat - (w64 (x236 + 1):Int).toNat) ((((c13:Nat):Int):Int).toNat - (w64 (x236 + 1):Int).toNat) g15 Tb16 g17 Tb18 g20 Tb21 A22 n23 c24 A26 n27 c28 z34 A455 n456 c457 cs460 z42 A462 n463 c464 (Nat.le_trans hz7 hL609.env.size) h607 (Rw.mono h601 (hL609.toSt hp610 (me 3 rfl))) (Rw.mono h25 (hL609.toSt hp610 (me 3 rfl))) (Rw.mono h29 (hL609.toSt hp610 (me 3 rfl))) (Nat.le_trans hz35 hL609.env.size) h458 (Cells.mono (hL609.toFl (me 0 rfl) (me 0 rfl)) hC461) (Nat.le_trans hz43 hL609.env.size) h465 (hL609.hFl hp610 (Bf [0] rfl)) (hL609.into hp610 _) r486 hv487) ?_
     rintro _ w626 ⟨A611,n612,c613,A616,n617,c618,cs620,A622,n623,c624,rfl,hM627,h614,ht615,h619,hC621,h625⟩
     obtain ⟨sb630,hL628,hv629⟩:=hL609.callB (Sl:=([Sm w.heap.size F w467 sb471]:List Cc)) hp610 hM627 F (Bf [0] rfl) ⟨Sm.ok,trivial⟩
     have hC621:Cells (Kd.slice (Gs .i64)) (Sm w.heap.size F w626 sb630).w (Sm w.heap.size F w626 sb630).av r486.2.of cs620:=Cells.mono hv629 hC621
     refine ⟨_,_,_,rfl,hL628,?_⟩
     unfold NxL
     refine Cf [15] (by kernel_rfl) rfl ⟨Ut 15 rfl gn rfl (Ob (Af rfl) rfl ?_),trivial⟩
     unfold NxL
     refine Et (by kernel_rfl) ?_
     have h:=Out.inr hO1 h
     refine Bg [.slice A611 n612 c613] rfl Tryd.func71 rfl (.tmp rfl (.nil)) fun wr hLr=>?_
     have hMr:=hLr.pkI (.c 0 rfl (.c 1 rfl (.c 2 rfl (.c 3 rfl (.c 4 rfl (.c 5 rfl .n)))))) (.c 6 rfl .n) (by kernel_rfl) (.c 4 rfl .n)
     have hMi:=hLr.selI (.c 0 rfl (.c 1 rfl (.c 2 rfl (.c 3 rfl (.c 4 rfl (.c 5 rfl .n))))))
     show Ko w F g15 g17 g20 Tb16 Tb18 Tb21 A2 n3 c4 z6 A30 n31 c32 z34 A38 n39 c40 z42 A22 n23 c24 A26 n27 c28 r (.returned (Bz [.slice A611 n612 c613])) wr
     rw [h]
     exact ⟨A611,n612,c613,A616,n617,c618,cs620,A622,n623,c624,rfl,hMr,h614,ht615,h619,(hLr.outC (s:=Sm w.heap.size F w626 sb630) hMi (me 0 rfl) Sm.ok hC621),h625⟩
   ·have h:=Am hp441 h
    refine Bc rfl _ rfl ((decide_eq_false hp441))<|E8 [.code Xik] rfl rfl<|Ag rfl<|Ac rfl rfl<|Aa 0 rfl (Af rfl) gn rfl<|Ah 1 rfl<|Td 3 1 ?_
    have h:=Out.inr hO1 h
    refine Bg [.slice none 0 0] rfl Tryd.func71 rfl (.tmp rfl (.nil)) fun wr hLr=>?_
    have hMr:=hLr.pkI (.c 4 rfl (.c 5 rfl (.c 6 rfl (.c 0 rfl (.c 1 rfl (.c 2 rfl .n)))))) (.c 3 rfl .n) (by kernel_rfl) (.c 2 rfl .n)
    have hMi:=hLr.selI (.c 4 rfl (.c 5 rfl (.c 6 rfl (.c 0 rfl (.c 1 rfl (.c 2 rfl .n))))))
    show Ko w F g15 g17 g20 Tb16 Tb18 Tb21 A2 n3 c4 z6 A30 n31 c32 z34 A38 n39 c40 z42 A22 n23 c24 A26 n27 c28 r (.returned (Bz [.slice none 0 0])) wr
    rw [h]
    exact ⟨none,0,0,A238,n239,c240,cs242,A247,n248,c249,rfl,hMr,(Ow.weak hz7 (Ow.nil (z:=w.heap.size))),(fun _=>rfl),h241,(hLr.outC (s:=Sm w.heap.size F sw243 sb244) hMi (me 0 rfl) Sm.ok hC245),h250⟩
  refine Cj 3 rfl<|Cj 3 rfl<|Cj 3 rfl<|Cj 3 rfl<|Cj 5 rfl<|Cj 5 rfl ?_
  exact D6 [0,0,1] (key1 _ h A30 n31 c32 h33 cs36 w [(Value.slice A2 n3 c4).ownBlock.toList,[g15],[g17],[g20],(Value.slice A30 n31 c32).ownBlock.toList,(Value.slice A38 n39 c40).ownBlock.toList] hC37 A38 n39 c40 h41) ⟨rfl,rfl,rfl,rfl,rfl,rfl,rfl,rfl,rfl,trivial⟩ (.cons_cons _ (.cons_cons _ (.cons_cons _ (.cons_cons _ (.cons_cons _ (.cons_cons _ (.slnil))))))) rfl
theorem Xa7 (rc_query_matcher_fits_1:(List Int)→Int→Int→(List Int)→Az→((List Int) × Az)→Prop) (rc_query_matcher_fits:Az→Int→Int→((List Int) × Az)→Prop) (ih_query_matcher_fits_1:Nq rc_query_matcher_fits_1) (ih_query_matcher_fits:Pj rc_query_matcher_fits):Pj (Jp rc_query_matcher_fits_1 rc_query_matcher_fits):=by
 intro w F x1 x26 x27 g2 Tb3 A4 n5 c6 A8 n9 c10 z16 A12 n13 c14 cs18 z24 A20 n21 c22 h7 h11 hz17 h15 hC19 hz25 h23 hF hL0 r h
 unfold Jp at h
 have hC19:=Cells.into (bs:=[[g2],(Value.slice A12 n13 c14).ownBlock.toList,(Value.slice A20 n21 c22).ownBlock.toList]) hF hC19
 refine Bl (vs:=[.pointer (some ⟨g2,0,none⟩),.int .i64 x26,.int .i64 x27]) 85 Tryd.func40 rfl Tryd.ntmps40 rfl hL0 ?_
 show G (Ud w F g2 Tb3 A12 n13 c14 z16 A20 n21 c22 z24 A4 n5 c6 A8 n9 c10 r) _ _ _ _
 refine Ag rfl<|Ac rfl rfl ?_
 refine Ci 0 rfl (O3 [.pointer (some ⟨g2,0,none⟩)] rfl rfl rfl fun gb28=>?_) gn
 refine Aa 1 rfl (Af rfl) gn rfl<|Ah 2 rfl<|Ag rfl ?_
 obtain ⟨hb30,h⟩:=h
 obtain ⟨hb32,h⟩:=h
 have d1:∀ (gb49:Nat) (gb50:Nat),G (Ud w F g2 Tb3 A12 n13 c14 z16 A20 n21 c22 z24 A4 n5 c6 A8 n9 c10 r) [.code q40c4] [(1,.int .i64 x26),(2,.int .i64 x27),(3,.pointer (some ⟨gb28,0,none⟩)),(7,.pointer (some ⟨gb50,0,none⟩)),(8,.pointer (some ⟨gb49,0,none⟩))] [.box gb49 56 [.string ((ix x1.tree x27).name),.bool ((ix x1.tree x27).named),.string ((ix x1.tree x27).field),.int .i64 ((ix x1.tree x27).from_),.int .i64 ((ix x1.tree x27).to),.int .i64 ((ix x1.tree x27).kids),.int .i64 ((ix x1.tree x27).leaf)],.box gb50 45 [.string ((ix x1.nodes x26).name),.bool ((ix x1.nodes x26).lit),.string ((ix x1.nodes x26).field),.string ((ix x1.nodes x26).capture),.int .i64 ((ix x1.nodes x26).kids)],.box gb28 66 [.pointer (some ⟨g2,0,none⟩)],.box g2 Tb3 [.slice A4 n5 c6,.slice A8 n9 c10,.slice A12 n13 c14,.slice A20 n21 c22],.own (.slice A12 n13 c14) 36 1 n13 cs18,.own (.slice A20 n21 c22) 4 1 n21 (x1.known.flatMap eB)] [Sm w.heap.size F w [[g2],(Value.slice A12 n13 c14).ownBlock.toList,(Value.slice A20 n21 c22).ownBlock.toList],St w [[g2],(Value.slice A12 n13 c14).ownBlock.toList,(Value.slice A20 n21 c22).ownBlock.toList]]:=by
  intro gb49 gb50
  refine Ag rfl<|Ag rfl ?_
  have j1:∀ (x61:Bool) (h:Dh x1 x27 rc_query_matcher_fits_1 x26 x61 r) ,G (Ud w F g2 Tb3 A12 n13 c14 z16 A20 n21 c22 z24 A4 n5 c6 A8 n9 c10 r) [.code q40c8,.code q40c6] [(1,.int .i64 x26),(2,.int .i64 x27),(3,.pointer (some ⟨gb28,0,none⟩)),(7,.pointer (some ⟨gb50,0,none⟩)),(71,.bool x61)] [.box gb50 45 [.string ((ix x1.nodes x26).name),.bool ((ix x1.nodes x26).lit),.string ((ix x1.nodes x26).field),.string ((ix x1.nodes x26).capture),.int .i64 ((ix x1.nodes x26).kids)],.box gb28 66 [.pointer (some ⟨g2,0,none⟩)],.box g2 Tb3 [.slice A4 n5 c6,.slice A8 n9 c10,.slice A12 n13 c14,.slice A20 n21 c22],.own (.slice A12 n13 c14) 36 1 n13 cs18,.own (.slice A20 n21 c22) 4 1 n21 (x1.known.flatMap eB)] [Sm w.heap.size F w [[g2],(Value.slice A12 n13 c14).ownBlock.toList,(Value.slice A20 n21 c22).ownBlock.toList],St w [[g2],(Value.slice A12 n13 c14).ownBlock.toList,(Value.slice A20 n21 c22).ownBlock.toList]]:=by
   intro x61 h
   unfold Dh at h
   by_cases hp62:x61=true
   ·have h:=Ap hp62 h
    refine Bi rfl _ rfl (hp62)<|Ag rfl<|Ac rfl rfl<|Aa 0 rfl (Af rfl) gn rfl<|Ah 1 rfl<|Td 3 1 ?_
    refine Bg [.slice none 0 0] rfl Tryd.func40 rfl (.tmp rfl (.nil)) fun wr hLr=>?_
    have hMr:=hLr.pkI (.c 3 rfl (.c 0 rfl (.c 4 rfl (.c 5 rfl .n)))) (.c 1 rfl (.c 2 rfl .n)) (by kernel_rfl) (.c 1 rfl .n)
    have hMi:=hLr.selI (.c 3 rfl (.c 0 rfl (.c 4 rfl (.c 5 rfl .n))))
    show Lt w F g2 Tb3 A12 n13 c14 z16 A20 n21 c22 z24 A4 n5 c6 A8 n9 c10 r (.returned (Bz [.slice none 0 0])) wr
    rw [h]
    exact ⟨none,0,0,A12,n13,c14,cs18,A20,n21,c22,rfl,hMr,(Ow.nil (z:=w.heap.size)),(fun _=>rfl),h15,(hLr.outC (s:=Sm w.heap.size F w [[g2],(Value.slice A12 n13 c14).ownBlock.toList,(Value.slice A20 n21 c22).ownBlock.toList]) hMi (me 0 rfl) Sm.ok hC19),h23⟩
   ·have h:=Am hp62 h
    refine Bc rfl _ rfl ((bf hp62))<|Bo rfl<|Ag rfl<|Ac rfl rfl<|Aa 0 rfl (Au 1 ld_66 rfl rfl rfl) gn rfl<|Aa 1 rfl (Ae rfl) gn rfl ?_
    obtain ⟨r66,hv67,h⟩:=h
    refine Ci 2 rfl (D7 [.pointer (some ⟨g2,0,none⟩),.int .i64 x27] rfl Tryd.func70 rfl rfl rfl fun w63 hL64=>?_) gn
    have hp65:=pmI hL64 (.c 2 rfl (.c 3 rfl (.c 4 rfl .n))) (.c 0 rfl (.c 1 rfl .n)) (by kernel_rfl)
    refine Calls.mono (Zi w63 (Fl ([Sm w.heap.size F w [[g2],(Value.slice A12 n13 c14).ownBlock.toList,(Value.slice A20 n21 c22).ownBlock.toList]]:List Cc)) x1 x27 g2 Tb3 A4 n5 c6 A8 n9 c10 z16 A12 n13 c14 cs18 z24 A20 n21 c22 (Rw.mono h7 (hL64.toSt hp65 (me 1 rfl))) (Rw.mono h11 (hL64.toSt hp65 (me 1 rfl))) (Nat.le_trans hz17 hL64.env.size) h15 (Cells.mono (hL64.toFl (me 0 rfl) (me 0 rfl)) hC19) (Nat.le_trans hz25 hL64.env.size) h23 (hL64.hFl hp65 (Bf [0] rfl)) (hL64.into hp65 _) r66 hv67) ?_
    rintro _ w84 ⟨A72,n73,c74,cs77,A79,n80,c81,A68,n69,c70,rfl,hM85,h75,hC78,h82,h71⟩
    obtain ⟨sb88,hL86,hv87⟩:=hL64.callB (Sl:=([Sm w.heap.size F w [[g2],(Value.slice A12 n13 c14).ownBlock.toList,(Value.slice A20 n21 c22).ownBlock.toList]]:List Cc)) hp65 hM85 F (Bf [0] rfl) ⟨Sm.ok,trivial⟩
    have h71:At (Gs .i64) (Sm w.heap.size F w84 sb88) A68 n69 c70 r66.1:=Rw.mono h71 hv87
    have hC78:Cells (Kd.slice (Gs .i64)) (Sm w.heap.size F w84 sb88).w (Sm w.heap.size F w84 sb88).av r66.2.of cs77:=Cells.mono hv87 hC78
    refine ⟨_,_,_,rfl,hL86,?_⟩
    refine Aa 3 rfl (Af rfl) gn rfl<|Ah 4 rfl<|Ag rfl<|Ac rfl rfl ?_
    refine Ci 0 rfl (G9 [.nilFunc] zr_101 rfl fun gb89=>?_) gn
    refine Ah 1 rfl<|Ag rfl<|Ac rfl rfl<|Aa 0 rfl (Xak [.pointer (some ⟨gb28,0,none⟩),.pointer (some ⟨gb89,0,none⟩)] rfl) gn rfl ?_
    refine Ci 1 rfl (I9 (vs:=[.func (.func 71) #[] #[.pointer (some ⟨gb28,0,none⟩),.pointer (some ⟨gb89,0,none⟩)]]) (cs':=[.func (.func 71) #[] #[.pointer (some ⟨gb28,0,none⟩),.pointer (some ⟨gb89,0,none⟩)]]) (M':=[.box gb89 101 [.func (.func 71) #[] #[.pointer (some ⟨gb28,0,none⟩),.pointer (some ⟨gb89,0,none⟩)]],.box g2 Tb3 [.slice A4 n5 c6,.slice A8 n9 c10,.slice A72 n73 c74,.slice A79 n80 c81],.own (.slice A72 n73 c74) 36 1 n73 cs77,.own (.slice A79 n80 c81) 4 1 n80 (r66.2.known.flatMap eB),.box gb50 45 [.string ((ix x1.nodes x26).name),.bool ((ix x1.nodes x26).lit),.string ((ix x1.nodes x26).field),.string ((ix x1.nodes x26).capture),.int .i64 ((ix x1.nodes x26).kids)],.box gb28 66 [.pointer (some ⟨g2,0,none⟩)]]) 0 sz_101 rfl rfl rfl rfl rfl rfl rfl rfl rfl ?_) gn
    refine Ah 2 rfl<|Ag rfl<|Ac rfl rfl<|Aa 0 rfl (Au 0 ld_101 rfl rfl rfl) gn rfl<|Aa 1 rfl (Ae rfl) gn rfl ?_
    refine Ci 2 rfl (Io (xs:=([x27]:List Int)) [.int .i64 x27] Qx rfl (by kernel_rfl) rfl rfl rfl rfl fun gb92 h93=>?_) gn
    refine Aa 3 rfl (Bd Vz rfl) gn rfl<|Aa 4 rfl (Au 5 O9 rfl rfl rfl) gn rfl<|Aa 5 rfl (Ae rfl) gn rfl<|Aa 6 rfl (Ba rfl rfl rfl) gn rfl<|Aa 7 rfl (Ae rfl) gn rfl ?_
    obtain ⟨r97,hv98,h⟩:=h
    refine Ci 8 rfl (Xal [.slice (some ⟨gb92,0,none⟩) 1 1,.int .i64 ((ix x1.nodes x26).kids),.int .i64 (w64 (x26 + 1)),.slice A68 n69 c70] [.pointer (some ⟨gb28,0,none⟩),.pointer (some ⟨gb89,0,none⟩)] rfl rfl Tryd.func71 rfl rfl rfl fun w94 hL95=>?_) gn
    have hp96:=pmI hL95 (.c 0 rfl (.c 6 rfl (.c 1 rfl (.c 2 rfl (.c 3 rfl (.c 4 rfl .n)))))) (.c 5 rfl .n) (by kernel_rfl)
    refine Calls.mono (ih_query_matcher_fits_1 w94 (Fl ([Sm w.heap.size F w84 sb88]:List Cc)) ([x27]:List Int) ((ix x1.nodes x26).kids) (w64 (x26 + 1)) r66.1 (⟨x1.nodes,x1.tree,r66.2.of,r66.2.known⟩:Az) w.heap.size (some ⟨gb92,0,none⟩) 1 1 A68 n69 c70 gb28 66 gb89 101 g2 Tb3 A4 n5 c6 A8 n9 c10 z16 A72 n73 c74 cs77 z24 A79 n80 c81 hL95.env.size h93 (Rw.mono h71 (hL95.toSt hp96 (me 0 rfl))) (Rw.mono h7 (hL95.toSt hp96 (me 2 rfl))) (Rw.mono h11 (hL95.toSt hp96 (me 2 rfl))) (Nat.le_trans hz17 hL95.env.size) h75 (Cells.mono (hL95.toFl (me 0 rfl) (me 0 rfl)) hC78) (Nat.le_trans hz25 hL95.env.size) h82 (hL95.hFl hp96 (Bf [0] rfl)) (hL95.into hp96 _) r97 hv98) ?_
    rintro _ w117 ⟨A99,n100,c101,A105,n106,c107,cs110,A112,n113,c114,rfl,hM118,h102,ht104,h108,hC111,h115⟩
    obtain ⟨sb121,hL119,hv120⟩:=hL95.callB (Sl:=([Sm w.heap.size F w84 sb88]:List Cc)) hp96 hM118 F (Bf [0] rfl) ⟨Sm.ok,trivial⟩
    have hC111:Cells (Kd.slice (Gs .i64)) (Sm w.heap.size F w117 sb121).w (Sm w.heap.size F w117 sb121).av r97.2.of cs110:=Cells.mono hv120 hC111
    refine ⟨_,_,_,rfl,hL119,?_⟩
    refine Aa 9 rfl (Af rfl) gn rfl<|Ah 10 rfl ?_
    refine Bg [.slice A99 n100 c101] rfl Tryd.func40 rfl (.tmp rfl (.nil)) fun wr hLr=>?_
    have hMr:=hLr.pkI (.c 2 rfl (.c 3 rfl (.c 4 rfl (.c 5 rfl .n)))) (.c 0 rfl (.c 1 rfl (.c 6 rfl .n))) (by kernel_rfl) (.c 3 rfl .n)
    have hMi:=hLr.selI (.c 2 rfl (.c 3 rfl (.c 4 rfl (.c 5 rfl .n))))
    show Lt w F g2 Tb3 A12 n13 c14 z16 A20 n21 c22 z24 A4 n5 c6 A8 n9 c10 r (.returned (Bz [.slice A99 n100 c101])) wr
    rw [h]
    exact ⟨A99,n100,c101,A105,n106,c107,cs110,A112,n113,c114,rfl,hMr,h102,ht104,h108,(hLr.outC (s:=Sm w.heap.size F w117 sb121) hMi (me 0 rfl) Sm.ok hC111),h115⟩
  refine Ac rfl rfl<|Aa 0 rfl (Bd Ye rfl) gn rfl<|Aa 1 rfl (Au 1 Xao rfl rfl rfl) gn rfl<|Aa 2 rfl (Ae rfl) gn rfl ?_
  by_cases hp122:((ix x1.nodes x26).lit)=true
  ·have h:=Ap hp122 h
   refine Bh 27 rfl (hp122)<|Aa 3 rfl (Bd Xfi rfl) (gy 27 rfl rfl) rfl<|Aa 4 rfl (Au 0 Xao rfl rfl rfl) (gy 27 rfl rfl) rfl<|Aa 5 rfl (Ae rfl) (gy 27 rfl rfl) rfl ?_
   by_cases hp123:((ix x1.tree x27).named)=true
   ·have h:=Ap hp123 h
    refine Bh 30 rfl (hp123)<|Ad 6 rfl (ps 30 rfl rfl rfl)<|Ad 7 rfl (ps 30 rfl rfl rfl)<|Ad 8 rfl (ps 30 rfl rfl rfl)<|Ad 9 rfl (ps 30 rfl rfl rfl)<|Ad 10 rfl (ps 30 rfl rfl rfl)<|Aa 11 rfl (Aw (b:=true) rfl rfl) (gy 27 rfl rfl) rfl<|Aa 12 rfl (Aw (b:=true) rfl rfl) gn rfl<|Aa 13 rfl (Ae rfl) gn rfl<|Ad 14 rfl (ps 38 rfl rfl rfl)<|Ad 15 rfl (ps 38 rfl rfl rfl)<|Ad 16 rfl (ps 38 rfl rfl rfl) ?_
    refine Ad 17 rfl (ps 38 rfl rfl rfl)<|Ad 18 rfl (pu 42 rfl rfl)<|Ad 19 rfl (pu 42 rfl rfl)<|Ad 20 rfl (pu 42 rfl rfl)<|Ad 21 rfl (ps 38 rfl rfl rfl)<|Ad 22 rfl (ps 38 rfl rfl rfl)<|Ad 23 rfl (pu 47 rfl rfl)<|Ad 24 rfl (pu 47 rfl rfl)<|Ad 25 rfl (pu 47 rfl rfl)<|Ad 26 rfl (pu 47 rfl rfl)<|Ad 27 rfl (pu 51 rfl rfl)<|Ad 28 rfl (pu 51 rfl rfl) ?_
    refine Ad 29 rfl (pu 51 rfl rfl)<|Ad 30 rfl (pu 51 rfl rfl)<|Ad 31 rfl (pu 51 rfl rfl)<|Ad 32 rfl (pu 47 rfl rfl)<|Ad 33 rfl (ps 38 rfl rfl rfl)<|Aa 34 rfl (Aw (b:=true) rfl rfl) gn rfl<|Aa 35 rfl (Ae rfl) gn rfl<|Ad 36 rfl (ps 60 rfl rfl rfl)<|Ad 37 rfl (ps 60 rfl rfl rfl)<|Ad 38 rfl (ps 60 rfl rfl rfl)<|Ad 39 rfl (ps 60 rfl rfl rfl)<|Ad 40 rfl (pu 64 rfl rfl) ?_
    refine Ad 41 rfl (pu 64 rfl rfl)<|Ad 42 rfl (pu 64 rfl rfl)<|Ad 43 rfl (pu 64 rfl rfl)<|Ad 44 rfl (pu 64 rfl rfl)<|Ad 45 rfl (ps 60 rfl rfl rfl)<|Aa 46 rfl (Aw (b:=true) rfl rfl) gn rfl<|Ah 47 rfl ?_
    exact D6 [0,1] (j1 true h) ⟨rfl,rfl,rfl,rfl,rfl,trivial⟩ (.cons _ (.cons_cons _ (.cons_cons _ (.cons_cons _ (.cons_cons _ (.cons_cons _ (.slnil))))))) rfl
   ·have h:=Am hp123 h
    refine Bh 30 rfl ((bf hp123))<|Aa 6 rfl (Bd Xbq rfl) (gy 30 rfl rfl) rfl<|Aa 7 rfl (Au 0 Gw rfl rfl rfl) (gy 30 rfl rfl) rfl<|Aa 8 rfl (Bd U1 rfl) (gy 30 rfl rfl) rfl<|Aa 9 rfl (Au 1 Gw rfl rfl rfl) (gy 30 rfl rfl) rfl<|Aa 10 rfl (Rt rfl rfl) (gy 30 rfl rfl) rfl<|Aa 11 rfl (Aw (b:=false) rfl rfl) (gy 27 rfl rfl) rfl<|Aa 12 rfl (Aw (b:=true) rfl rfl) gn rfl<|Aa 13 rfl (Ae rfl) gn rfl ?_
    by_cases hp124:(ix x1.tree x27).name=(ix x1.nodes x26).name
    ·have h:=Ap hp124 h
     refine Bh 38 rfl ((nf (Ox hp124)))<|Aa 14 rfl (Bd Ye rfl) (gy 38 rfl rfl) rfl<|Aa 15 rfl (Au 1 Xao rfl rfl rfl) (gy 38 rfl rfl) rfl<|Aa 16 rfl (Oi rfl) (gy 38 rfl rfl) rfl<|Aa 17 rfl (Ae rfl) (gy 38 rfl rfl) rfl<|Bh 42 rfl ((nf hp122))<|Ad 18 rfl (ps 42 rfl rfl rfl)<|Ad 19 rfl (ps 42 rfl rfl rfl)<|Ad 20 rfl (ps 42 rfl rfl rfl)<|Aa 21 rfl (Aw (b:=false) rfl rfl) (gy 38 rfl rfl) rfl<|Aa 22 rfl (Ae rfl) (gy 38 rfl rfl) rfl<|Ad 23 rfl (ps 47 rfl rfl rfl) ?_
     refine Ad 24 rfl (ps 47 rfl rfl rfl)<|Ad 25 rfl (ps 47 rfl rfl rfl)<|Ad 26 rfl (ps 47 rfl rfl rfl)<|Ad 27 rfl (pu 51 rfl rfl)<|Ad 28 rfl (pu 51 rfl rfl)<|Ad 29 rfl (pu 51 rfl rfl)<|Ad 30 rfl (pu 51 rfl rfl)<|Ad 31 rfl (pu 51 rfl rfl)<|Ad 32 rfl (ps 47 rfl rfl rfl)<|Aa 33 rfl (Aw (b:=false) rfl rfl) (gy 38 rfl rfl) rfl<|Aa 34 rfl (Aw (b:=false) rfl rfl) gn rfl<|Aa 35 rfl (Ae rfl) gn rfl ?_
     refine Aa 36 rfl (Bd Uo rfl) (gy 60 rfl rfl) rfl<|Aa 37 rfl (Au 1 Gw rfl rfl rfl) (gy 60 rfl rfl) rfl<|Aa 38 rfl (Rt rfl rfl) (gy 60 rfl rfl) rfl<|Aa 39 rfl (Ae rfl) (gy 60 rfl rfl) rfl ?_
     by_cases hp125:(ix x1.nodes x26).field=(⟨#[]⟩:ByteArray)
     ·have h:=Ap hp125 h
      refine Bh 64 rfl ((nf (Ox hp125)))<|Ad 40 rfl (ps 64 rfl rfl rfl)<|Ad 41 rfl (ps 64 rfl rfl rfl)<|Ad 42 rfl (ps 64 rfl rfl rfl)<|Ad 43 rfl (ps 64 rfl rfl rfl)<|Ad 44 rfl (ps 64 rfl rfl rfl)<|Aa 45 rfl (Aw (b:=false) rfl rfl) (gy 60 rfl rfl) rfl<|Aa 46 rfl (Aw (b:=false) rfl rfl) gn rfl<|Ah 47 rfl ?_
      exact D6 [0,1] (j1 false h) ⟨rfl,rfl,rfl,rfl,rfl,trivial⟩ (.cons _ (.cons_cons _ (.cons_cons _ (.cons_cons _ (.cons_cons _ (.cons_cons _ (.slnil))))))) rfl
     ·have h:=Am hp125 h
      refine Bh 64 rfl ((nt (Oo hp125)))<|Aa 40 rfl (Bd Uo rfl) (gy 64 rfl rfl) rfl<|Aa 41 rfl (Au 1 Gw rfl rfl rfl) (gy 64 rfl rfl) rfl<|Aa 42 rfl (Bd Xfj rfl) (gy 64 rfl rfl) rfl<|Aa 43 rfl (Au 0 Gw rfl rfl rfl) (gy 64 rfl rfl) rfl<|Aa 44 rfl (Rt rfl rfl) (gy 64 rfl rfl) rfl<|Aa 45 rfl (Aw (b:=true) rfl rfl) (gy 60 rfl rfl) rfl<|Aa 46 rfl (Aw (b:=false) rfl rfl) gn rfl<|Ah 47 rfl ?_
      exact D6 [0,1] (j1 (!(seq ((ix x1.nodes x26).field) ((ix x1.tree x27).field))) h) ⟨rfl,rfl,rfl,rfl,rfl,trivial⟩ (.cons _ (.cons_cons _ (.cons_cons _ (.cons_cons _ (.cons_cons _ (.cons_cons _ (.slnil))))))) rfl
    ·have h:=Am hp124 h
     refine Bh 38 rfl ((nt (Oo hp124)))<|Ad 14 rfl (ps 38 rfl rfl rfl)<|Ad 15 rfl (ps 38 rfl rfl rfl)<|Ad 16 rfl (ps 38 rfl rfl rfl)<|Ad 17 rfl (ps 38 rfl rfl rfl)<|Ad 18 rfl (pu 42 rfl rfl)<|Ad 19 rfl (pu 42 rfl rfl)<|Ad 20 rfl (pu 42 rfl rfl)<|Ad 21 rfl (ps 38 rfl rfl rfl)<|Ad 22 rfl (ps 38 rfl rfl rfl)<|Ad 23 rfl (pu 47 rfl rfl)<|Ad 24 rfl (pu 47 rfl rfl) ?_
     refine Ad 25 rfl (pu 47 rfl rfl)<|Ad 26 rfl (pu 47 rfl rfl)<|Ad 27 rfl (pu 51 rfl rfl)<|Ad 28 rfl (pu 51 rfl rfl)<|Ad 29 rfl (pu 51 rfl rfl)<|Ad 30 rfl (pu 51 rfl rfl)<|Ad 31 rfl (pu 51 rfl rfl)<|Ad 32 rfl (pu 47 rfl rfl)<|Ad 33 rfl (ps 38 rfl rfl rfl)<|Aa 34 rfl (Aw (b:=true) rfl rfl) gn rfl<|Aa 35 rfl (Ae rfl) gn rfl<|Ad 36 rfl (ps 60 rfl rfl rfl) ?_
     refine Ad 37 rfl (ps 60 rfl rfl rfl)<|Ad 38 rfl (ps 60 rfl rfl rfl)<|Ad 39 rfl (ps 60 rfl rfl rfl)<|Ad 40 rfl (pu 64 rfl rfl)<|Ad 41 rfl (pu 64 rfl rfl)<|Ad 42 rfl (pu 64 rfl rfl)<|Ad 43 rfl (pu 64 rfl rfl)<|Ad 44 rfl (pu 64 rfl rfl)<|Ad 45 rfl (ps 60 rfl rfl rfl)<|Aa 46 rfl (Aw (b:=true) rfl rfl) gn rfl<|Ah 47 rfl ?_
     exact D6 [0,1] (j1 true h) ⟨rfl,rfl,rfl,rfl,rfl,trivial⟩ (.cons _ (.cons_cons _ (.cons_cons _ (.cons_cons _ (.cons_cons _ (.cons_cons _ (.slnil))))))) rfl
  ·have h:=Am hp122 h
   refine Bh 27 rfl ((bf hp122))<|Ad 3 rfl (ps 27 rfl rfl rfl)<|Ad 4 rfl (ps 27 rfl rfl rfl)<|Ad 5 rfl (ps 27 rfl rfl rfl)<|Ad 6 rfl (pu 30 rfl rfl)<|Ad 7 rfl (pu 30 rfl rfl)<|Ad 8 rfl (pu 30 rfl rfl)<|Ad 9 rfl (pu 30 rfl rfl)<|Ad 10 rfl (pu 30 rfl rfl)<|Ad 11 rfl (ps 27 rfl rfl rfl)<|Aa 12 rfl (Aw (b:=false) rfl rfl) gn rfl<|Aa 13 rfl (Ae rfl) gn rfl ?_
   refine Aa 14 rfl (Bd Ye rfl) (gy 38 rfl rfl) rfl<|Aa 15 rfl (Au 1 Xao rfl rfl rfl) (gy 38 rfl rfl) rfl<|Aa 16 rfl (Oi rfl) (gy 38 rfl rfl) rfl<|Aa 17 rfl (Ae rfl) (gy 38 rfl rfl) rfl<|Bh 42 rfl ((nt (bf hp122)))<|Aa 18 rfl (Bd U1 rfl) (gy 42 rfl rfl) rfl<|Aa 19 rfl (Au 1 Gw rfl rfl rfl) (gy 42 rfl rfl) rfl<|Aa 20 rfl (Rt rfl rfl) (gy 42 rfl rfl) rfl<|Aa 21 rfl (Aw (b:=true) rfl rfl) (gy 38 rfl rfl) rfl<|Aa 22 rfl (Ae rfl) (gy 38 rfl rfl) rfl ?_
   by_cases hp126:(ix x1.nodes x26).name=(⟨#[]⟩:ByteArray)
   ·have h:=Ap hp126 h
    refine Bh 47 rfl ((nf (Ox hp126)))<|Ad 23 rfl (ps 47 rfl rfl rfl)<|Ad 24 rfl (ps 47 rfl rfl rfl)<|Ad 25 rfl (ps 47 rfl rfl rfl)<|Ad 26 rfl (ps 47 rfl rfl rfl)<|Ad 27 rfl (pu 51 rfl rfl)<|Ad 28 rfl (pu 51 rfl rfl)<|Ad 29 rfl (pu 51 rfl rfl)<|Ad 30 rfl (pu 51 rfl rfl)<|Ad 31 rfl (pu 51 rfl rfl)<|Ad 32 rfl (ps 47 rfl rfl rfl)<|Aa 33 rfl (Aw (b:=false) rfl rfl) (gy 38 rfl rfl) rfl ?_
    refine Aa 34 rfl (Aw (b:=false) rfl rfl) gn rfl<|Aa 35 rfl (Ae rfl) gn rfl<|Aa 36 rfl (Bd Uo rfl) (gy 60 rfl rfl) rfl<|Aa 37 rfl (Au 1 Gw rfl rfl rfl) (gy 60 rfl rfl) rfl<|Aa 38 rfl (Rt rfl rfl) (gy 60 rfl rfl) rfl<|Aa 39 rfl (Ae rfl) (gy 60 rfl rfl) rfl ?_
    by_cases hp127:(ix x1.nodes x26).field=(⟨#[]⟩:ByteArray)
    ·have h:=Ap hp127 h
     refine Bh 64 rfl ((nf (Ox hp127)))<|Ad 40 rfl (ps 64 rfl rfl rfl)<|Ad 41 rfl (ps 64 rfl rfl rfl)<|Ad 42 rfl (ps 64 rfl rfl rfl)<|Ad 43 rfl (ps 64 rfl rfl rfl)<|Ad 44 rfl (ps 64 rfl rfl rfl)<|Aa 45 rfl (Aw (b:=false) rfl rfl) (gy 60 rfl rfl) rfl<|Aa 46 rfl (Aw (b:=false) rfl rfl) gn rfl<|Ah 47 rfl ?_
     exact D6 [0,1] (j1 false h) ⟨rfl,rfl,rfl,rfl,rfl,trivial⟩ (.cons _ (.cons_cons _ (.cons_cons _ (.cons_cons _ (.cons_cons _ (.cons_cons _ (.slnil))))))) rfl
    ·have h:=Am hp127 h
     refine Bh 64 rfl ((nt (Oo hp127)))<|Aa 40 rfl (Bd Uo rfl) (gy 64 rfl rfl) rfl<|Aa 41 rfl (Au 1 Gw rfl rfl rfl) (gy 64 rfl rfl) rfl<|Aa 42 rfl (Bd Xfj rfl) (gy 64 rfl rfl) rfl<|Aa 43 rfl (Au 0 Gw rfl rfl rfl) (gy 64 rfl rfl) rfl<|Aa 44 rfl (Rt rfl rfl) (gy 64 rfl rfl) rfl<|Aa 45 rfl (Aw (b:=true) rfl rfl) (gy 60 rfl rfl) rfl<|Aa 46 rfl (Aw (b:=false) rfl rfl) gn rfl<|Ah 47 rfl ?_
     exact D6 [0,1] (j1 (!(seq ((ix x1.nodes x26).field) ((ix x1.tree x27).field))) h) ⟨rfl,rfl,rfl,rfl,rfl,trivial⟩ (.cons _ (.cons_cons _ (.cons_cons _ (.cons_cons _ (.cons_cons _ (.cons_cons _ (.slnil))))))) rfl
   ·have h:=Am hp126 h
    refine Bh 47 rfl ((nt (Oo hp126)))<|Aa 23 rfl (Bd Xfi rfl) (gy 47 rfl rfl) rfl<|Aa 24 rfl (Au 0 Xao rfl rfl rfl) (gy 47 rfl rfl) rfl<|Aa 25 rfl (Oi rfl) (gy 47 rfl rfl) rfl<|Aa 26 rfl (Ae rfl) (gy 47 rfl rfl) rfl ?_
    by_cases hp128:((ix x1.tree x27).named)=true
    ·have h:=Ap hp128 h
     refine Bh 51 rfl ((nf hp128))<|Aa 27 rfl (Bd Xbq rfl) (gy 51 rfl rfl) rfl<|Aa 28 rfl (Au 0 Gw rfl rfl rfl) (gy 51 rfl rfl) rfl<|Aa 29 rfl (Bd U1 rfl) (gy 51 rfl rfl) rfl<|Aa 30 rfl (Au 1 Gw rfl rfl rfl) (gy 51 rfl rfl) rfl<|Aa 31 rfl (Rt rfl rfl) (gy 51 rfl rfl) rfl<|Aa 32 rfl (Aw (b:=false) rfl rfl) (gy 47 rfl rfl) rfl<|Aa 33 rfl (Aw (b:=true) rfl rfl) (gy 38 rfl rfl) rfl<|Aa 34 rfl (Aw (b:=false) rfl rfl) gn rfl<|Aa 35 rfl (Ae rfl) gn rfl ?_
     by_cases hp129:(ix x1.tree x27).name=(ix x1.nodes x26).name
     ·have h:=Ap hp129 h
      refine Bh 60 rfl ((nf (Ox hp129)))<|Aa 36 rfl (Bd Uo rfl) (gy 60 rfl rfl) rfl<|Aa 37 rfl (Au 1 Gw rfl rfl rfl) (gy 60 rfl rfl) rfl<|Aa 38 rfl (Rt rfl rfl) (gy 60 rfl rfl) rfl<|Aa 39 rfl (Ae rfl) (gy 60 rfl rfl) rfl ?_
      by_cases hp130:(ix x1.nodes x26).field=(⟨#[]⟩:ByteArray)
      ·have h:=Ap hp130 h
       refine Bh 64 rfl ((nf (Ox hp130)))<|Ad 40 rfl (ps 64 rfl rfl rfl)<|Ad 41 rfl (ps 64 rfl rfl rfl)<|Ad 42 rfl (ps 64 rfl rfl rfl)<|Ad 43 rfl (ps 64 rfl rfl rfl)<|Ad 44 rfl (ps 64 rfl rfl rfl)<|Aa 45 rfl (Aw (b:=false) rfl rfl) (gy 60 rfl rfl) rfl<|Aa 46 rfl (Aw (b:=false) rfl rfl) gn rfl<|Ah 47 rfl ?_
       exact D6 [0,1] (j1 false h) ⟨rfl,rfl,rfl,rfl,rfl,trivial⟩ (.cons _ (.cons_cons _ (.cons_cons _ (.cons_cons _ (.cons_cons _ (.cons_cons _ (.slnil))))))) rfl
      ·have h:=Am hp130 h
       refine Bh 64 rfl ((nt (Oo hp130)))<|Aa 40 rfl (Bd Uo rfl) (gy 64 rfl rfl) rfl<|Aa 41 rfl (Au 1 Gw rfl rfl rfl) (gy 64 rfl rfl) rfl<|Aa 42 rfl (Bd Xfj rfl) (gy 64 rfl rfl) rfl<|Aa 43 rfl (Au 0 Gw rfl rfl rfl) (gy 64 rfl rfl) rfl<|Aa 44 rfl (Rt rfl rfl) (gy 64 rfl rfl) rfl<|Aa 45 rfl (Aw (b:=true) rfl rfl) (gy 60 rfl rfl) rfl<|Aa 46 rfl (Aw (b:=false) rfl rfl) gn rfl<|Ah 47 rfl ?_
       exact D6 [0,1] (j1 (!(seq ((ix x1.nodes x26).field) ((ix x1.tree x27).field))) h) ⟨rfl,rfl,rfl,rfl,rfl,trivial⟩ (.cons _ (.cons_cons _ (.cons_cons _ (.cons_cons _ (.cons_cons _ (.cons_cons _ (.slnil))))))) rfl
     ·have h:=Am hp129 h
      refine Bh 60 rfl ((nt (Oo hp129)))<|Ad 36 rfl (ps 60 rfl rfl rfl)<|Ad 37 rfl (ps 60 rfl rfl rfl)<|Ad 38 rfl (ps 60 rfl rfl rfl)<|Ad 39 rfl (ps 60 rfl rfl rfl)<|Ad 40 rfl (pu 64 rfl rfl)<|Ad 41 rfl (pu 64 rfl rfl)<|Ad 42 rfl (pu 64 rfl rfl)<|Ad 43 rfl (pu 64 rfl rfl)<|Ad 44 rfl (pu 64 rfl rfl)<|Ad 45 rfl (ps 60 rfl rfl rfl)<|Aa 46 rfl (Aw (b:=true) rfl rfl) gn rfl ?_
      refine Ah 47 rfl ?_
      exact D6 [0,1] (j1 true h) ⟨rfl,rfl,rfl,rfl,rfl,trivial⟩ (.cons _ (.cons_cons _ (.cons_cons _ (.cons_cons _ (.cons_cons _ (.cons_cons _ (.slnil))))))) rfl
    ·have h:=Am hp128 h
     refine Bh 51 rfl ((nt (bf hp128)))<|Ad 27 rfl (ps 51 rfl rfl rfl)<|Ad 28 rfl (ps 51 rfl rfl rfl)<|Ad 29 rfl (ps 51 rfl rfl rfl)<|Ad 30 rfl (ps 51 rfl rfl rfl)<|Ad 31 rfl (ps 51 rfl rfl rfl)<|Aa 32 rfl (Aw (b:=true) rfl rfl) (gy 47 rfl rfl) rfl<|Aa 33 rfl (Aw (b:=true) rfl rfl) (gy 38 rfl rfl) rfl<|Aa 34 rfl (Aw (b:=false) rfl rfl) gn rfl<|Aa 35 rfl (Ae rfl) gn rfl<|Ad 36 rfl (ps 60 rfl rfl rfl)<|Ad 37 rfl (ps 60 rfl rfl rfl) ?_
     refine Ad 38 rfl (ps 60 rfl rfl rfl)<|Ad 39 rfl (ps 60 rfl rfl rfl)<|Ad 40 rfl (pu 64 rfl rfl)<|Ad 41 rfl (pu 64 rfl rfl)<|Ad 42 rfl (pu 64 rfl rfl)<|Ad 43 rfl (pu 64 rfl rfl)<|Ad 44 rfl (pu 64 rfl rfl)<|Ad 45 rfl (ps 60 rfl rfl rfl)<|Aa 46 rfl (Aw (b:=true) rfl rfl) gn rfl<|Ah 47 rfl ?_
     exact D6 [0,1] (j1 true h) ⟨rfl,rfl,rfl,rfl,rfl,trivial⟩ (.cons _ (.cons_cons _ (.cons_cons _ (.cons_cons _ (.cons_cons _ (.cons_cons _ (.slnil))))))) rfl
 have hns:Region.noSelect (Code.ops q40c3)=true:=by kernel_rfl
 refine J7 [] 18 rfl rfl mix rfl (.c 0 rfl (.c 1 rfl .n))<|wfv 0 rfl (Au 0 ld_66 rfl rfl rfl) gn hns rfl<|wfv 1 rfl (Uh rfl) gn hns rfl<|wfv 2 rfl (Bd fo_70_0 rfl) gn hns rfl<|wfv 3 rfl (Au 1 Kr rfl rfl rfl) gn hns rfl<|wfv 4 rfl (Ae rfl) gn hns rfl ?_
 have hr131:=Rw.readF (s:=St w [[g2],(Value.slice A12 n13 c14).ownBlock.toList,(Value.slice A20 n21 c22).ownBlock.toList]) (hl:=Dp) (h1:=Du) h7 hb30
 refine wfv 5 rfl (Ef (s:=St w [[g2],(Value.slice A12 n13 c14).ownBlock.toList,(Value.slice A20 n21 c22).ownBlock.toList]) Oq rfl rfl h7 hb30) gn hns rfl<|wfv 6 rfl (Q8 (St w [[g2],(Value.slice A12 n13 c14).ownBlock.toList,(Value.slice A20 n21 c22).ownBlock.toList]) Xc5 rfl hr131 rfl (me 1 rfl)) gn hns rfl<|wfv 7 rfl (Au 0 ld_66 rfl rfl rfl) gn hns rfl<|wfv 8 rfl (Uh rfl) gn hns rfl<|wfv 9 rfl (Bd Xlj rfl) gn hns rfl<|wfv 10 rfl (Au 1 Zv rfl rfl rfl) gn hns rfl<|wfv 11 rfl (Ae rfl) gn hns rfl ?_
 have hr132:=Rw.readF (s:=St w [[g2],(Value.slice A12 n13 c14).ownBlock.toList,(Value.slice A20 n21 c22).ownBlock.toList]) (hl:=Fh) (h1:=Gg) h11 hb32
 refine wfv 12 rfl (Ef (s:=St w [[g2],(Value.slice A12 n13 c14).ownBlock.toList,(Value.slice A20 n21 c22).ownBlock.toList]) Ro rfl rfl h11 hb32) gn hns rfl<|wfv 13 rfl (Q8 (St w [[g2],(Value.slice A12 n13 c14).ownBlock.toList,(Value.slice A20 n21 c22).ownBlock.toList]) Xb5 rfl hr132 rfl (me 1 rfl)) gn hns rfl ?_
 refine Cf [14,15] (by kernel_rfl) rfl ⟨?_,?_,trivial⟩
 ·refine Ej 14 rfl gn rfl (G9 [.string (⟨#[]⟩ : ByteArray), .bool false, .string (⟨#[]⟩ : ByteArray), .string (⟨#[]⟩ : ByteArray), .int .i64 0] zr_45 rfl fun gb135 => ?_)
  refine ⟨Bf [1,2,3,4] rfl,Bf [0,1] rfl,?_⟩
  refine Cf [15] (by kernel_rfl) rfl ⟨Ej 15 rfl gn rfl (G9 [.string (⟨#[]⟩:ByteArray),.bool false,.string (⟨#[]⟩:ByteArray),.int .i64 0,.int .i64 0,.int .i64 0,.int .i64 0] zr_56 rfl fun gb137=>?_),trivial⟩
  refine ⟨Bf [2,3,4,5] rfl,Bf [0,1] rfl,?_⟩
  refine Cf [16] (by kernel_rfl) rfl ⟨Ej 16 rfl gn rfl (I9 (vs:=[.string ((ix x1.nodes x26).name),.bool ((ix x1.nodes x26).lit),.string ((ix x1.nodes x26).field),.string ((ix x1.nodes x26).capture),.int .i64 ((ix x1.nodes x26).kids)]) (cs':=[.string ((ix x1.nodes x26).name),.bool ((ix x1.nodes x26).lit),.string ((ix x1.nodes x26).field),.string ((ix x1.nodes x26).capture),.int .i64 ((ix x1.nodes x26).kids)]) (M':=[.box gb137 56 [.string (⟨#[]⟩:ByteArray),.bool false,.string (⟨#[]⟩:ByteArray),.int .i64 0,.int .i64 0,.int .i64 0,.int .i64 0],.box gb135 45 [.string ((ix x1.nodes x26).name),.bool ((ix x1.nodes x26).lit),.string ((ix x1.nodes x26).field),.string ((ix x1.nodes x26).capture),.int .i64 ((ix x1.nodes x26).kids)],.box gb28 66 [.pointer (some ⟨g2,0,none⟩)],.box g2 Tb3 [.slice A4 n5 c6,.slice A8 n9 c10,.slice A12 n13 c14,.slice A20 n21 c22],.own (.slice A12 n13 c14) 36 1 n13 cs18,.own (.slice A20 n21 c22) 4 1 n21 (x1.known.flatMap eB)]) 1 sz_45 rfl rfl rfl rfl rfl rfl rfl rfl rfl ?_),trivial⟩
  refine ⟨Bf [2,3,4,5] rfl,Bf [0,1] rfl,?_⟩
  refine Cf [17] (by kernel_rfl) rfl ⟨Ej 17 rfl gn rfl (I9 (vs:=[.string ((ix x1.tree x27).name),.bool ((ix x1.tree x27).named),.string ((ix x1.tree x27).field),.int .i64 ((ix x1.tree x27).from_),.int .i64 ((ix x1.tree x27).to),.int .i64 ((ix x1.tree x27).kids),.int .i64 ((ix x1.tree x27).leaf)]) (cs':=[.string ((ix x1.tree x27).name),.bool ((ix x1.tree x27).named),.string ((ix x1.tree x27).field),.int .i64 ((ix x1.tree x27).from_),.int .i64 ((ix x1.tree x27).to),.int .i64 ((ix x1.tree x27).kids),.int .i64 ((ix x1.tree x27).leaf)]) (M':=[.box gb137 56 [.string ((ix x1.tree x27).name),.bool ((ix x1.tree x27).named),.string ((ix x1.tree x27).field),.int .i64 ((ix x1.tree x27).from_),.int .i64 ((ix x1.tree x27).to),.int .i64 ((ix x1.tree x27).kids),.int .i64 ((ix x1.tree x27).leaf)],.box gb135 45 [.string ((ix x1.nodes x26).name),.bool ((ix x1.nodes x26).lit),.string ((ix x1.nodes x26).field),.string ((ix x1.nodes x26).capture),.int .i64 ((ix x1.nodes x26).kids)],.box gb28 66 [.pointer (some ⟨g2,0,none⟩)],.box g2 Tb3 [.slice A4 n5 c6,.slice A8 n9 c10,.slice A12 n13 c14,.slice A20 n21 c22],.own (.slice A12 n13 c14) 36 1 n13 cs18,.own (.slice A20 n21 c22) 4 1 n21 (x1.known.flatMap eB)]) 0 sz_56 rfl rfl rfl rfl rfl rfl rfl rfl rfl ?_),trivial⟩
  refine ⟨Bf [2,3,4,5] rfl,Bf [0,1] rfl,?_⟩
  refine Et (by kernel_rfl) ?_
  exact D6 [0,1] (d1 gb137 gb135) ⟨rfl,rfl,rfl,rfl,rfl,trivial⟩ (.cons_cons _ (.cons_cons _ (.cons_cons _ (.cons_cons _ (.cons_cons _ (.cons_cons _ (.slnil))))))) rfl
 ·refine Ej 15 rfl gn rfl (G9 [.string (⟨#[]⟩ : ByteArray), .bool false, .string (⟨#[]⟩ : ByteArray), .int .i64 0, .int .i64 0, .int .i64 0, .int .i64 0] zr_56 rfl fun gb138 => ?_)
  refine ⟨Bf [1,2,3,4] rfl,Bf [0,1] rfl,?_⟩
  refine Cf [14] (by kernel_rfl) rfl ⟨Ej 14 rfl gn rfl (G9 [.string (⟨#[]⟩:ByteArray),.bool false,.string (⟨#[]⟩:ByteArray),.string (⟨#[]⟩:ByteArray),.int .i64 0] zr_45 rfl fun gb140=>?_),trivial⟩
  refine ⟨Bf [2,3,4,5] rfl,Bf [0,1] rfl,?_⟩
  refine Cf [16] (by kernel_rfl) rfl ⟨Ej 16 rfl gn rfl (I9 (vs:=[.string ((ix x1.nodes x26).name),.bool ((ix x1.nodes x26).lit),.string ((ix x1.nodes x26).field),.string ((ix x1.nodes x26).capture),.int .i64 ((ix x1.nodes x26).kids)]) (cs':=[.string ((ix x1.nodes x26).name),.bool ((ix x1.nodes x26).lit),.string ((ix x1.nodes x26).field),.string ((ix x1.nodes x26).capture),.int .i64 ((ix x1.nodes x26).kids)]) (M':=[.box gb140 45 [.string ((ix x1.nodes x26).name),.bool ((ix x1.nodes x26).lit),.string ((ix x1.nodes x26).field),.string ((ix x1.nodes x26).capture),.int .i64 ((ix x1.nodes x26).kids)],.box gb138 56 [.string (⟨#[]⟩:ByteArray),.bool false,.string (⟨#[]⟩:ByteArray),.int .i64 0,.int .i64 0,.int .i64 0,.int .i64 0],.box gb28 66 [.pointer (some ⟨g2,0,none⟩)],.box g2 Tb3 [.slice A4 n5 c6,.slice A8 n9 c10,.slice A12 n13 c14,.slice A20 n21 c22],.own (.slice A12 n13 c14) 36 1 n13 cs18,.own (.slice A20 n21 c22) 4 1 n21 (x1.known.flatMap eB)]) 0 sz_45 rfl rfl rfl rfl rfl rfl rfl rfl rfl ?_),trivial⟩
  refine ⟨Bf [2,3,4,5] rfl,Bf [0,1] rfl,?_⟩
  refine Cf [17] (by kernel_rfl) rfl ⟨Ej 17 rfl gn rfl (I9 (vs:=[.string ((ix x1.tree x27).name),.bool ((ix x1.tree x27).named),.string ((ix x1.tree x27).field),.int .i64 ((ix x1.tree x27).from_),.int .i64 ((ix x1.tree x27).to),.int .i64 ((ix x1.tree x27).kids),.int .i64 ((ix x1.tree x27).leaf)]) (cs':=[.string ((ix x1.tree x27).name),.bool ((ix x1.tree x27).named),.string ((ix x1.tree x27).field),.int .i64 ((ix x1.tree x27).from_),.int .i64 ((ix x1.tree x27).to),.int .i64 ((ix x1.tree x27).kids),.int .i64 ((ix x1.tree x27).leaf)]) (M':=[.box gb140 45 [.string ((ix x1.nodes x26).name),.bool ((ix x1.nodes x26).lit),.string ((ix x1.nodes x26).field),.string ((ix x1.nodes x26).capture),.int .i64 ((ix x1.nodes x26).kids)],.box gb138 56 [.string ((ix x1.tree x27).name),.bool ((ix x1.tree x27).named),.string ((ix x1.tree x27).field),.int .i64 ((ix x1.tree x27).from_),.int .i64 ((ix x1.tree x27).to),.int .i64 ((ix x1.tree x27).kids),.int .i64 ((ix x1.tree x27).leaf)],.box gb28 66 [.pointer (some ⟨g2,0,none⟩)],.box g2 Tb3 [.slice A4 n5 c6,.slice A8 n9 c10,.slice A12 n13 c14,.slice A20 n21 c22],.own (.slice A12 n13 c14) 36 1 n13 cs18,.own (.slice A20 n21 c22) 4 1 n21 (x1.known.flatMap eB)]) 1 sz_56 rfl rfl rfl rfl rfl rfl rfl rfl rfl ?_),trivial⟩
  refine ⟨Bf [2,3,4,5] rfl,Bf [0,1] rfl,?_⟩
  refine Et (by kernel_rfl)<|Cj 5 rfl<|Cj 5 rfl<|Cj 5 rfl<|Cj 5 rfl<|Cj 4 rfl<|Cj 5 rfl ?_
  exact D6 [0,1] (d1 gb138 gb140) ⟨rfl,rfl,rfl,rfl,rfl,trivial⟩ (.cons_cons _ (.cons_cons _ (.cons_cons _ (.cons_cons _ (.cons_cons _ (.cons_cons _ (.slnil))))))) rfl
theorem Ve:∀ n,Nq (Dl n)∧Pj (Ig n)
 | 0=>⟨fun w F x1 x8 x9 x10 x19 z6 A2 n3 c4 A11 n12 c13 g15 Tb16 g17 Tb18 g20 Tb21 A22 n23 c24 A26 n27 c28 z34 A30 n31 c32 cs36 z42 A38 n39 c40 hz7 h5 h14 h25 h29 hz35 h33 hC37 hz43 h41 hF hL0 r h=>h.elim,fun w F x1 x26 x27 g2 Tb3 A4 n5 c6 A8 n9 c10 z16 A12 n13 c14 cs18 z24 A20 n21 c22 h7 h11 hz17 h15 hC19 hz25 h23 hF hL0 r h=>h.elim⟩
 | n + 1=>by
  have ih:=Ve n
  exact ⟨Yz _ _ ih.1 ih.2,Xa7 _ _ ih.1 ih.2⟩
theorem Zf (w:World) (F:Nat→Prop) (x1:Az) (x26:Int) (x27:Int) (g2:Nat) (Tb3:Nat) (A4:Option Addr) (n5:Nat) (c6:Nat) (A8:Option Addr) (n9:Nat) (c10:Nat) (z16:Nat) (A12:Option Addr) (n13:Nat) (c14:Nat) (cs18:List Value) (z24:Nat) (A20:Option Addr) (n21:Nat) (c22:Nat) (h7:Rw Cb w (St w [[g2],(Value.slice A12 n13 c14).ownBlock.toList,(Value.slice A20 n21 c22).ownBlock.toList]).av A4 n5 c6 x1.nodes) (h11:Rw D9 w (St w [[g2],(Value.slice A12 n13 c14).ownBlock.toList,(Value.slice A20 n21 c22).ownBlock.toList]).av A8 n9 c10 x1.tree) (hz17:z16≤w.heap.size) (h15:Ow z16 A12 n13 c14 x1.of) (hC19:Cells (Kd.slice (Gs .i64)) w F x1.of cs18) (hz25:z24≤w.heap.size) (h23:Ow z24 A20 n21 c22 x1.known) (hF:∀ b,F b→b < w.heap.size∧∀ o ∈ ([[g2],(Value.slice A12 n13 c14).ownBlock.toList,(Value.slice A20 n21 c22).ownBlock.toList]:List (List Nat)),b ∉ o) (hL0:B.Loc w w [.box g2 Tb3 [.slice A4 n5 c6,.slice A8 n9 c10,.slice A12 n13 c14,.slice A20 n21 c22],.own (.slice A12 n13 c14) 36 1 n13 cs18,.own (.slice A20 n21 c22) 4 1 n21 (x1.known.flatMap eB)] [Sm w.heap.size F w [[g2],(Value.slice A12 n13 c14).ownBlock.toList,(Value.slice A20 n21 c22).ownBlock.toList],St w [[g2],(Value.slice A12 n13 c14).ownBlock.toList,(Value.slice A20 n21 c22).ownBlock.toList]]) (r:(List Int) × Az) (h:Yl x1 x26 x27 r):Calls Tryd.prog 40 #[.pointer (some ⟨g2,0,none⟩),.int .i64 x26,.int .i64 x27] w (Lt w F g2 Tb3 A12 n13 c14 z16 A20 n21 c22 z24 A4 n5 c6 A8 n9 c10 r):=by
 obtain ⟨n,h⟩:=h
 exact (Ve n).2 w F x1 x26 x27 g2 Tb3 A4 n5 c6 A8 n9 c10 z16 A12 n13 c14 cs18 z24 A20 n21 c22 h7 h11 hz17 h15 hC19 hz25 h23 hF hL0 r h
noncomputable abbrev q42c3:=Code.fst (Code.snd (Df Tryd.f42))
abbrev Vj (w:World) (F:Nat→Prop) (r:ByteArray):Ending→World→Prop:=fun e w'=>e=.returned (.string r)∧B.Loc w w' [] [St w []]
noncomputable abbrev Xfg (w:World) (F:Nat→Prop) (r:ByteArray):Cx:=⟨Tryd.prog,42,Tryd.f42,22,Vj w F  r,w⟩
theorem Xc1 (w:World) (F:Nat→Prop) (x1:Ai) (x2:ByteArray) (hF:∀ b,F b→b < w.heap.size∧∀ o ∈ ([]:List (List Nat)),b ∉ o) (hL0:B.Loc w w [] [Sm w.heap.size F w [],St w []]) (r:ByteArray) (h:Vf x1 x2 r):Calls Tryd.prog 42 #[.agg #[.string x1.name,.bool x1.named,.string x1.field,.int .i64 x1.from_,.int .i64 x1.to,.int .i64 x1.kids,.int .i64 x1.leaf],.string x2] w (Vj w F  r):=by
 unfold Vf at h
 refine Bl (vs:=[.agg #[.string x1.name,.bool x1.named,.string x1.field,.int .i64 x1.from_,.int .i64 x1.to,.int .i64 x1.kids,.int .i64 x1.leaf],.string x2]) 22 Tryd.func42 rfl Tryd.ntmps42 rfl hL0 ?_
 show G (Xfg w F r) _ _ _ _
 refine Ag rfl<|Ac rfl rfl ?_
 refine Ci 0 rfl (O3 [.string x1.name,.bool x1.named,.string x1.field,.int .i64 x1.from_,.int .i64 x1.to,.int .i64 x1.kids,.int .i64 x1.leaf] rfl rfl rfl fun gb3=>?_) gn
 refine Aa 1 rfl (Af rfl) gn rfl<|Ah 2 rfl<|Ag rfl ?_
 have hns:Region.noSelect (Code.ops q42c3)=true:=by kernel_rfl
 refine J7 [] 10 rfl rfl mix rfl (.c 0 rfl (.c 1 rfl .n))<|wfv 0 rfl (Bd Xkw rfl) gn hns rfl<|wfv 1 rfl (Au 0 O9 rfl rfl rfl) gn hns rfl<|wfv 2 rfl (v_max rfl rfl) gn hns rfl<|wfv 3 rfl (Bd Xku rfl) gn hns rfl<|wfv 4 rfl (Au 0 O9 rfl rfl rfl) gn hns rfl<|wfv 5 rfl (Ae rfl) gn hns rfl<|wfv 6 rfl (Vb Un rfl) gn hns rfl<|wfv 7 rfl (v_min rfl rfl) gn hns rfl<|wfv 8 rfl (Af rfl) gn hns rfl<|wfv 9 rfl (Af rfl) gn hns rfl<|Et (by kernel_rfl) ?_
 refine Ag rfl<|Ag rfl<|Ac rfl rfl<|Aa 0 rfl (Ae rfl) gn rfl<|Aa 1 rfl (Ae rfl) gn rfl<|Aa 2 rfl (Ba rfl rfl rfl) gn rfl<|Ah 3 rfl ?_
 by_cases hp5:max x1.from_ 0≥min x1.to (x2.size:Int)
 ·have h:=Ap hp5 h
  refine Bi rfl _ rfl ((decide_eq_true hp5))<|Ag rfl<|Ac rfl rfl<|Aa 0 rfl (Af rfl) gn rfl<|Ah 1 rfl ?_
  refine Bg [.string (⟨#[]⟩:ByteArray)] rfl Tryd.func42 rfl (.tmp rfl (.nil)) fun wr hLr=>?_
  have hMr:=hLr.pk0 (.c 1 rfl .n)
  show Vj w F  r (.returned (Bz [.string (⟨#[]⟩:ByteArray)])) wr
  rw [h]
  exact ⟨rfl,hMr⟩
 ·have h:=Am hp5 h
  refine Bc rfl _ rfl ((decide_eq_false hp5))<|Bo rfl<|Ag rfl<|Ac rfl rfl<|Aa 0 rfl (Ae rfl) gn rfl<|Aa 1 rfl (Ae rfl) gn rfl<|Aa 2 rfl (Ae rfl) gn rfl ?_
  obtain ⟨hb6,h⟩:=h
  refine Aa 3 rfl (v_cutS (max x1.from_ 0) (min x1.to (x2.size:Int)) Un rfl (.inr ⟨_,_,rfl,rfl⟩) (.inr ⟨_,_,rfl,rfl⟩) ⟨hb6.1,hb6.2.1⟩ hb6.2.2) gn rfl<|Aa 4 rfl (Af rfl) gn rfl<|Ah 5 rfl ?_
  refine Bg [.string (x2.extract (max x1.from_ 0:Int).toNat (min x1.to (x2.size:Int):Int).toNat)] rfl Tryd.func42 rfl (.tmp rfl (.nil)) fun wr hLr=>?_
  have hMr:=hLr.pk0 (.c 1 rfl .n)
  show Vj w F  r (.returned (Bz [.string (x2.extract (max x1.from_ 0:Int).toNat (min x1.to (x2.size:Int):Int).toNat)])) wr
  rw [h]
  exact ⟨rfl,hMr⟩
noncomputable abbrev q41c3:=Code.fst (Code.snd (Df Tryd.f41))
abbrev Zg (w:World) (F:Nat→Prop) (g3:Nat) (g10:Nat) (g17:Nat) (g28:Nat) (Tb4:Nat) (Tb11:Nat) (Tb18:Nat) (Tb29:Nat) (A5:Option Addr) (n6:Nat) (c7:Nat) (A12:Option Addr) (n13:Nat) (c14:Nat) (A19:Option Addr) (n20:Nat) (c21:Nat) (A23:Option Addr) (n24:Nat) (c25:Nat) (r:ByteArray × (List Ai) × (List Int) × Aq × ByteArray):Ending→World→Prop:=fun e w'=>e=.returned (.string r.1)∧B.Loc w w' [.box g3 Tb4 [.slice A5 n6 c7],.box g10 Tb11 [.slice A12 n13 c14],.box g17 Tb18 [.slice A19 n20 c21,.slice A23 n24 c25],.box g28 Tb29 [.string r.2.2.2.2]] [St w [[g3],[g10],[g17],[g28]]]
noncomputable abbrev Xgu (w:World) (F:Nat→Prop) (g3:Nat) (g10:Nat) (g17:Nat) (g28:Nat) (Tb4:Nat) (Tb11:Nat) (Tb18:Nat) (Tb29:Nat) (A5:Option Addr) (n6:Nat) (c7:Nat) (A12:Option Addr) (n13:Nat) (c14:Nat) (A19:Option Addr) (n20:Nat) (c21:Nat) (A23:Option Addr) (n24:Nat) (c25:Nat) (r:ByteArray × (List Ai) × (List Int) × Aq × ByteArray):Cx:=⟨Tryd.prog,41,Tryd.f41,18,Zg w F g3 g10 g17 g28 Tb4 Tb11 Tb18 Tb29 A5 n6 c7 A12 n13 c14 A19 n20 c21 A23 n24 c25 r,w⟩
theorem Wj (w:World) (F:Nat→Prop) (x1:ByteArray) (x2:List Ai) (x9:List Int) (x16:Aq) (x27:ByteArray) (g3:Nat) (Tb4:Nat) (A5:Option Addr) (n6:Nat) (c7:Nat) (g10:Nat) (Tb11:Nat) (A12:Option Addr) (n13:Nat) (c14:Nat) (g17:Nat) (Tb18:Nat) (A19:Option Addr) (n20:Nat) (c21:Nat) (A23:Option Addr) (n24:Nat) (c25:Nat) (g28:Nat) (Tb29:Nat) (h8:Rw D9 w (St w [[g3],[g10],[g17],[g28]]).av A5 n6 c7 x2) (h15:Rw (Gs .i64) w (St w [[g3],[g10],[g17],[g28]]).av A12 n13 c14 x9) (h22:Rw Cb w (St w [[g3],[g10],[g17],[g28]]).av A19 n20 c21 x16.nodes) (h26:Rw Dq w (St w [[g3],[g10],[g17],[g28]]).av A23 n24 c25 x16.conds) (hF:∀ b,F b→b < w.heap.size∧∀ o ∈ ([[g3],[g10],[g17],[g28]]:List (List Nat)),b ∉ o) (hL0:B.Loc w w [.box g3 Tb4 [.slice A5 n6 c7],.box g10 Tb11 [.slice A12 n13 c14],.box g17 Tb18 [.slice A19 n20 c21,.slice A23 n24 c25],.box g28 Tb29 [.string x27]] [Sm w.heap.size F w [[g3],[g10],[g17],[g28]],St w [[g3],[g10],[g17],[g28]]]) (r:ByteArray × (List Ai) × (List Int) × Aq × ByteArray) (h:Vx x1 x2 x9 x16 x27 r):Calls Tryd.prog 41 #[.string x1,.pointer (some ⟨g3,0,none⟩),.pointer (some ⟨g10,0,none⟩),.pointer (some ⟨g17,0,none⟩),.pointer (some ⟨g28,0,none⟩)] w (Zg w F g3 g10 g17 g28 Tb4 Tb11 Tb18 Tb29 A5 n6 c7 A12 n13 c14 A19 n20 c21 A23 n24 c25 r):=by
 unfold Vx at h
 refine Bl (vs:=[.string x1,.pointer (some ⟨g3,0,none⟩),.pointer (some ⟨g10,0,none⟩),.pointer (some ⟨g17,0,none⟩),.pointer (some ⟨g28,0,none⟩)]) 18 Tryd.func41 rfl Tryd.ntmps41 rfl hL0 ?_
 show G (Xgu w F g3 g10 g17 g28 Tb4 Tb11 Tb18 Tb29 A5 n6 c7 A12 n13 c14 A19 n20 c21 A23 n24 c25 r) _ _ _ _
 refine Ag rfl<|Ac rfl rfl<|Aa 0 rfl (Af rfl) gn rfl<|Ah 1 rfl<|Ag rfl ?_
 obtain ⟨r33,hv34,h⟩:=h
 obtain ⟨hb38,h⟩:=h
 obtain ⟨hb40,h⟩:=h
 obtain ⟨r45,hv46,h⟩:=h
 have hns:Region.noSelect (Code.ops q41c3)=true:=by kernel_rfl
 refine J7 [] 12 rfl rfl mix rfl (.c 0 rfl (.c 1 rfl .n))<|wfv 0 rfl (Au 0 Zv rfl rfl rfl) gn hns rfl<|wfv 1 rfl (Au 1 Xm rfl rfl rfl) gn hns rfl<|wfv 2 rfl (Ji [.slice A19 n20 c21,.slice A23 n24 c25] 2 O5 rfl rfl rfl rfl) gn hns rfl<|wfv 3 rfl (Ae rfl) gn hns rfl<|wfv 9 rfl (Au 3 Gw rfl rfl rfl) gn hns rfl ?_
 refine Cf [4] (by kernel_rfl) rfl ⟨Ej 4 rfl gn rfl (D7 [.agg #[.slice A19 n20 c21,.slice A23 n24 c25],.string x1] rfl Tryd.func43 rfl rfl rfl fun w94 hL95=>?_),trivial⟩
 have hp96:=pmI hL95 .n (.c 0 rfl (.c 1 rfl (.c 2 rfl (.c 3 rfl .n)))) (by kernel_rfl)
 refine Calls.mono (Q7 w94 (Fl ([]:List Cc)) x16 x1 A19 n20 c21 A23 n24 c25 (Rw.mono h22 (hL95.toSt hp96 (me 1 rfl))) (Rw.mono h26 (hL95.toSt hp96 (me 1 rfl))) (hL95.hFl hp96 (Bf [] rfl)) (hL95.into hp96 _) r33 hv34) ?_
 rintro _ w97 ⟨rfl,hM98⟩
 have hL99:=hL95.call hp96 hM98
 refine ⟨_,_,_,rfl,hL99,?_⟩
 refine ⟨Bf [0,1,2,3] rfl,Bf [0,1] rfl,?_⟩
 have hr100:=Rw.readF (s:=St w [[g3],[g10],[g17],[g28]]) (hl:=(hlI .i64)) (h1:=(F9 .i64)) h15 hb38
 refine wfv 5 rfl (Ef (s:=St w [[g3],[g10],[g17],[g28]]) Jb rfl rfl h15 hb38) gn hns rfl<|wfv 6 rfl (Le (kk:=(r33:Int).toNat * 1) (j:=0) (St w [[g3],[g10],[g17],[g28]]) O9 rfl hr100 rfl (me 1 rfl)) gn hns rfl ?_
 have hr101:=Rw.readF (s:=St w [[g3],[g10],[g17],[g28]]) (hl:=Fh) (h1:=Gg) h8 hb40
 refine wfv 7 rfl (Ef (s:=St w [[g3],[g10],[g17],[g28]]) Ro rfl rfl h8 hb40) gn hns rfl<|wfv 8 rfl (Q8 (St w [[g3],[g10],[g17],[g28]]) Xb5 rfl hr101 rfl (me 1 rfl)) gn hns rfl ?_
 refine Cf [10] (by kernel_rfl) rfl ⟨Ej 10 rfl gn rfl (D7 [.agg #[.string ((ix x2 (ix x9 r33)).name),.bool ((ix x2 (ix x9 r33)).named),.string ((ix x2 (ix x9 r33)).field),.int .i64 ((ix x2 (ix x9 r33)).from_),.int .i64 ((ix x2 (ix x9 r33)).to),.int .i64 ((ix x2 (ix x9 r33)).kids),.int .i64 ((ix x2 (ix x9 r33)).leaf)],.string x27] rfl Tryd.func42 rfl rfl rfl fun w108 hL109=>?_),trivial⟩
 have hp110:=pmI hL109 .n (.c 0 rfl (.c 1 rfl (.c 2 rfl (.c 3 rfl .n)))) (by kernel_rfl)
 refine Calls.mono (Xc1 w108 (Fl ([]:List Cc)) (ix x2 (ix x9 r33)) x27 (hL109.hFl hp110 (Bf [] rfl)) (hL109.into hp110 _) r45 hv46) ?_
 rintro _ w111 ⟨rfl,hM112⟩
 have hL113:=hL109.call hp110 hM112
 refine ⟨_,_,_,rfl,hL113,?_⟩
 refine ⟨Bf [0,1,2,3] rfl,Bf [0,1] rfl,?_⟩
 refine wfv 11 rfl (Af rfl) gn hns rfl<|Et (by kernel_rfl) ?_
 refine Bg [.string r45] rfl Tryd.func41 rfl (.tmp rfl (.nil)) fun wr hLr=>?_
 have hMr:=hLr.pkI (.c 0 rfl (.c 1 rfl (.c 2 rfl (.c 3 rfl .n)))) .n (by kernel_rfl) (.c 1 rfl .n)
 show Zg w F g3 g10 g17 g28 Tb4 Tb11 Tb18 Tb29 A5 n6 c7 A12 n13 c14 A19 n20 c21 A23 n24 c25 r (.returned (Bz [.string r45])) wr
 rw [h]
 exact ⟨rfl,hMr⟩
end Go.Proofs.YtjookebbmfiidaaDoor.K
