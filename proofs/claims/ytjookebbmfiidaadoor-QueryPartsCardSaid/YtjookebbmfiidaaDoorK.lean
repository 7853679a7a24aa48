/- What the machine's calls do, function by function, printed by my own tool. Condition of each: its relation holds of the answer, and what is handed in lies in memory as told. -/
import Derived.Test.YtjookebbmfiidaaDoorK7
set_option linter.unusedVariables false
set_option maxRecDepth 100000
set_option maxHeartbeats 4000000
namespace Go.Proofs.YtjookebbmfiidaaDoor.K
open Go.Proofs.YtjookebbmfiidaaDoor.B Go.Proofs.YtjookebbmfiidaaDoor.R Go.RowKit
noncomputable abbrev q8c10:=Code.snd (Code.snd (Code.snd (Dv Tryd.f8)))
noncomputable abbrev q8c12:=Code.snd (Code.fst (Code.snd (Code.snd (Dv Tryd.f8))))
noncomputable abbrev q8c18:=Code.snd q8c10
noncomputable abbrev q8c20:=Code.snd (Code.fst q8c10)
noncomputable abbrev Xin:=Code.snd (Code.snd (Code.snd (Code.snd (Code.snd (Code.snd (Code.snd q8c18))))))
noncomputable abbrev Xis:=Code.fst (Code.fst (Code.snd (Code.fst (Code.snd (Code.snd (Code.snd (Code.snd (Code.snd (Code.snd q8c18)))))))))
noncomputable abbrev Td:=Code.snd (Code.snd Xin)
noncomputable abbrev Pn:=Code.fst (Code.fst (Code.snd (Code.fst (Code.snd Xin))))
noncomputable abbrev Vl:=Code.snd (Code.snd Pn)
noncomputable abbrev Wj:=Code.snd (Code.snd (Code.snd (Code.snd (Code.snd (Code.snd (Code.fst (Code.fst (Code.snd Pn))))))))
noncomputable abbrev Sv:=Code.fst (Code.fst (Code.snd (Code.fst (Code.snd (Code.snd (Code.snd (Code.snd (Code.snd (Code.fst (Code.fst (Code.snd Pn)))))))))))
noncomputable abbrev Vh:=Code.snd (Code.snd Sv)
noncomputable abbrev Xfa:=Code.snd (Code.snd (Code.fst (Code.fst (Code.snd Sv))))
noncomputable abbrev Xd1:=Code.fst (Code.fst (Code.fst (Code.snd (Code.fst (Code.fst (Code.snd Sv))))))
noncomputable abbrev q8c123:=Code.fst (Code.fst (Code.snd Xd1))
noncomputable abbrev q8c126:=Code.snd Xfa
noncomputable abbrev Xy:=Code.fst (Code.fst (Code.snd q8c126))
abbrev Ho (w:World) (F:Nat→Prop) (r:Bool):Ending→World→Prop:=fun e w'=>e=.returned (.bool r)∧B.Loc w w' [] [St w []]
noncomputable abbrev Cj (w:World) (F:Nat→Prop) (r:Bool):Cx:=⟨Tryd.prog,8,Tryd.f8,158,Ho w F  r,w⟩
theorem Xo (w:World) (F:Nat→Prop) (x1:Ar) (x10:List Az) (x15:ByteArray) (A2:Option Addr) (n3:Nat) (c4:Nat) (A6:Option Addr) (n7:Nat) (c8:Nat) (A11:Option Addr) (n12:Nat) (c13:Nat) (h5:Rw Dl w (St w []).av A2 n3 c4 x1.nodes) (h9:Rw Gg w (St w []).av A6 n7 c8 x1.conds) (h14:Rw F8 w (St w []).av A11 n12 c13 x10) (hG:Tb Tryd.prog (St w [])) (hF:∀ b,F b→b < w.heap.size∧∀ o ∈ ([]:List (List Nat)),b ∉ o) (hL0:B.Loc w w [] [Sm w.heap.size F w [],St w []]) (r:Bool) (h:N7 x1 x10 x15 r):Calls Tryd.prog 8 #[.agg #[.slice A2 n3 c4,.slice A6 n7 c8],.slice A11 n12 c13,.string x15] w (Ho w F  r):=by
 unfold N7 at h
 refine Ce (vs:=[.agg #[.slice A2 n3 c4,.slice A6 n7 c8],.slice A11 n12 c13,.string x15]) 158 Tryd.func8 rfl Tryd.ntmps8 rfl hL0 ?_
 show G (Cj w F r) _ _ _ _
 refine Ah rfl<|Ac rfl rfl ?_
 refine Cf 0 rfl (V5 [.slice A2 n3 c4,.slice A6 n7 c8] rfl rfl rfl fun gb16=>?_) gn
 refine Aa 1 rfl (Af rfl) gn rfl<|Aj 2 rfl<|Ah rfl<|Ah rfl<|Ac rfl rfl ?_
 obtain ⟨r21,hv22,h⟩:=h
 refine Cf 0 rfl (D8 [] rfl Tryd.func27 rfl rfl rfl fun w18 hL19=>?_) gn
 have hp20:=pmI hL19 .n (.c 0 rfl .n) (by kernel_rfl)
 refine Calls.mono (Yh w18 (Fl ([]:List Cc)) (hL19.tb hp20 hG (me 1 rfl)) (hL19.hFl hp20 (Bi [] rfl)) (hL19.into hp20 _) r21 hv22) ?_
 rintro _ w23 ⟨rfl,hM24⟩
 have hL25:=hL19.call hp20 hM24
 refine ⟨_,_,_,rfl,hL25,?_⟩
 refine Aa 1 rfl (Qv rfl) gn rfl<|Aj 2 rfl ?_
 by_cases hp26:r21=true
 ·have h:=Ap hp26 h
  refine Bg rfl _ rfl ((nf hp26))<|Cb rfl<|Ah rfl<|Ah rfl ?_
  have j1:∀ (x45:Bool) (h:Fq x1 x10 x15 x45 r) ,G (Cj w F r) [.code q8c12,.code q8c10] [(1,.slice A11 n12 c13),(2,.string x15),(3,.pointer (some ⟨gb16,0,none⟩)),(33,.bool x45)] [.box gb16 25 [.slice A2 n3 c4,.slice A6 n7 c8]] [Sm w.heap.size F w [],St w []]:=by
   intro x45 h
   unfold Fq at h
   by_cases hp46:x45=true
   ·have h:=Ap hp46 h
    refine Bz rfl _ rfl (hp46)<|Ah rfl<|Ac rfl rfl<|Aa 0 rfl (Af rfl) gn rfl<|Aj 1 rfl ?_
    refine C9 [.bool true] rfl Tryd.func8 rfl (.tmp rfl (.nil)) fun wr hLr=>?_
    have hMr:=hLr.pk0 (.c 1 rfl .n)
    show Ho w F  r (.returned (Ci [.bool true])) wr
    rw [h]
    exact ⟨rfl,hMr⟩
   ·have h:=Aq hp46 h
    refine Bg rfl _ rfl ((bf hp46))<|Cb rfl<|Ah rfl<|Ah rfl ?_
    have j2:∀ (x65:Bool) (h:Fv x1 x10 x15 x65 r) ,G (Cj w F r) [.code q8c20,.code q8c18] [(1,.slice A11 n12 c13),(2,.string x15),(3,.pointer (some ⟨gb16,0,none⟩)),(41,.bool x65)] [.box gb16 25 [.slice A2 n3 c4,.slice A6 n7 c8]] [Sm w.heap.size F w [],St w []]:=by
     intro x65 h
     unfold Fv at h
     by_cases hp66:x65=true
     ·have h:=Ap hp66 h
      refine Bz rfl _ rfl (hp66)<|Ah rfl<|Ac rfl rfl<|Aa 0 rfl (Nj [.slice A2 n3 c4,.slice A6 n7 c8] 0 U4 rfl rfl rfl rfl) gn rfl<|Aa 1 rfl (Ad rfl) gn rfl<|Aa 2 rfl (Ad rfl) gn rfl ?_
      obtain ⟨r70,hv71,h⟩:=h
      refine Cf 3 rfl (D8 [.agg #[.slice A2 n3 c4,.slice A6 n7 c8],.slice A11 n12 c13,.string x15] rfl Tryd.func17 rfl rfl rfl fun w67 hL68=>?_) gn
      have hp69:=pmI hL68 .n (.c 0 rfl .n) (by kernel_rfl)
      refine Calls.mono (Ol w67 (Fl ([]:List Cc)) x1 x10 x15 A2 n3 c4 A6 n7 c8 A11 n12 c13 (Rw.mono h5 (hL68.toSt hp69 (me 1 rfl))) (Rw.mono h9 (hL68.toSt hp69 (me 1 rfl))) (Rw.mono h14 (hL68.toSt hp69 (me 1 rfl))) (hL68.tb hp69 hG (me 1 rfl)) (hL68.hFl hp69 (Bi [] rfl)) (hL68.into hp69 _) r70 hv71) ?_
      rintro _ w79 ⟨A72,n73,c74,cs77,rfl,hM80,h75,hC78⟩
      obtain ⟨sb83,hL81,hv82⟩:=hL68.callB (Sl:=([]:List Cc)) hp69 hM80 F (Bi [] rfl) trivial
      have hC78:Cells Dy (Sm w.heap.size F w79 sb83).w (Sm w.heap.size F w79 sb83).av r70 cs77:=Cells.mono hv82 hC78
      refine ⟨_,_,_,rfl,hL81,?_⟩
      refine Aa 4 rfl (Dj Xgj rfl (Ow.weak hL68.env.size h75).hq) gn rfl<|Aa 5 rfl (Be rfl rfl rfl) gn rfl<|Aa 6 rfl (Af rfl) gn rfl<|Aj 7 rfl ?_
      refine C9 [.bool ((r70.length:Int) == 0)] rfl Tryd.func8 rfl (.tmp rfl (.nil)) fun wr hLr=>?_
      have hMr:=hLr.pk0 (.c 2 rfl .n)
      show Ho w F  r (.returned (Ci [.bool ((r70.length:Int) == 0)])) wr
      rw [h]
      exact ⟨rfl,hMr⟩
     ·have h:=Aq hp66 h
      refine Bg rfl _ rfl ((bf hp66))<|Cb rfl<|Ah rfl<|Ac rfl rfl<|Aa 0 rfl (Aw J4 rfl) gn rfl<|Aa 1 rfl (Au 0 Rl rfl rfl rfl) gn rfl<|Aa 2 rfl (J5 #[.slice A2 n3 c4,.slice none 0 0] bd_25 rfl (by kernel_rfl)) gn rfl<|Aa 3 rfl (Ad rfl) gn rfl<|Aa 4 rfl (Ad rfl) gn rfl ?_
      obtain ⟨r87,hv88,h⟩:=h
      refine Cf 5 rfl (D8 [.agg #[.slice A2 n3 c4,.slice none 0 0],.slice A11 n12 c13,.string x15] rfl Tryd.func17 rfl rfl rfl fun w84 hL85=>?_) gn
      have hp86:=pmI hL85 .n (.c 0 rfl .n) (by kernel_rfl)
      refine Calls.mono (Ol w84 (Fl ([]:List Cc)) (⟨x1.nodes,([]:List Bh)⟩:Ar) x10 x15 A2 n3 c4 none 0 0 A11 n12 c13 (Rw.mono h5 (hL85.toSt hp86 (me 1 rfl))) Rw.nil (Rw.mono h14 (hL85.toSt hp86 (me 1 rfl))) (hL85.tb hp86 hG (me 1 rfl)) (hL85.hFl hp86 (Bi [] rfl)) (hL85.into hp86 _) r87 hv88) ?_
      rintro _ w96 ⟨A89,n90,c91,cs94,rfl,hM97,h92,hC95⟩
      obtain ⟨sb100,hL98,hv99⟩:=hL85.callB (Sl:=([]:List Cc)) hp86 hM97 F (Bi [] rfl) trivial
      have hC95:Cells Dy (Sm w.heap.size F w96 sb100).w (Sm w.heap.size F w96 sb100).av r87 cs94:=Cells.mono hv99 hC95
      refine ⟨_,_,_,rfl,hL98,?_⟩
      refine Aa 6 rfl (Af rfl) gn rfl<|Aj 7 rfl<|Ah rfl<|Ac rfl rfl<|Aa 0 rfl (Aw J4 rfl) gn rfl<|Aa 1 rfl (Au 1 Rl rfl rfl rfl) gn rfl ?_
      obtain ⟨hb101,h⟩:=h
      have hr102:=Rw.readF (s:=St w []) (hl:=Ee) (h1:=Ez) h5 hb101
      refine Aa 2 rfl (F5 (s:=St w []) U7 rfl rfl h5 hb101) gn rfl<|Aa 3 rfl (Z9 (St w []) Xav rfl hr102 rfl (me 2 rfl)) gn rfl ?_
      refine Cf 4 rfl (Gz [.string (⟨#[]⟩:ByteArray),.bool false,.string (⟨#[]⟩:ByteArray),.string (⟨#[]⟩:ByteArray),.int .i64 0] Xi4 rfl fun gb103=>?_) gn
      refine Cf 5 rfl (Fp (vs:=[.string ((ix x1.nodes 0).name),.bool ((ix x1.nodes 0).lit),.string ((ix x1.nodes 0).field),.string ((ix x1.nodes 0).capture),.int .i64 ((ix x1.nodes 0).kids)]) (cs':=[.string ((ix x1.nodes 0).name),.bool ((ix x1.nodes 0).lit),.string ((ix x1.nodes 0).field),.string ((ix x1.nodes 0).capture),.int .i64 ((ix x1.nodes 0).kids)]) (M':=[.box gb103 45 [.string ((ix x1.nodes 0).name),.bool ((ix x1.nodes 0).lit),.string ((ix x1.nodes 0).field),.string ((ix x1.nodes 0).capture),.int .i64 ((ix x1.nodes 0).kids)],.own (.slice A89 n90 c91) 38 1 n90 cs94,.box gb16 25 [.slice A2 n3 c4,.slice A6 n7 c8]]) 0 Xfj rfl rfl rfl rfl rfl rfl rfl rfl rfl ?_) gn
      refine Aj 6 rfl<|Ah rfl<|Ac rfl rfl<|Aa 0 rfl (Aw Uj rfl) gn rfl ?_
      refine Cf 1 rfl (Fp (vs:=[.int .i64 0]) (cs':=[.string ((ix x1.nodes 0).name),.bool ((ix x1.nodes 0).lit),.string ((ix x1.nodes 0).field),.string ((ix x1.nodes 0).capture),.int .i64 0]) (M':=[.box gb103 45 [.string ((ix x1.nodes 0).name),.bool ((ix x1.nodes 0).lit),.string ((ix x1.nodes 0).field),.string ((ix x1.nodes 0).capture),.int .i64 0],.own (.slice A89 n90 c91) 38 1 n90 cs94,.box gb16 25 [.slice A2 n3 c4,.slice A6 n7 c8]]) 0 Xar rfl rfl rfl rfl rfl rfl rfl rfl rfl ?_) gn
      refine Aj 2 rfl<|Ah rfl<|Ac rfl rfl<|Aa 0 rfl (Nj [.string ((ix x1.nodes 0).name),.bool ((ix x1.nodes 0).lit),.string ((ix x1.nodes 0).field),.string ((ix x1.nodes 0).capture),.int .i64 0] 0 Xav rfl rfl rfl rfl) gn rfl ?_
      refine Cf 1 rfl (Gw (xs:=([(⟨(ix x1.nodes 0).name,(ix x1.nodes 0).lit,(ix x1.nodes 0).field,(ix x1.nodes 0).capture,0⟩:Ag)]:List Ag)) [.string ((ix x1.nodes 0).name),.bool ((ix x1.nodes 0).lit),.string ((ix x1.nodes 0).field),.string ((ix x1.nodes 0).capture),.int .i64 0] Xg3 rfl (by kernel_rfl) rfl rfl rfl rfl fun gb106 h107=>?_) gn
      refine Aa 2 rfl (J5 #[.slice (some ⟨gb106,0,none⟩) 1 1,.slice none 0 0] bd_25 rfl (by kernel_rfl)) gn rfl<|Aa 3 rfl (Ad rfl) gn rfl<|Aa 4 rfl (Ad rfl) gn rfl ?_
      obtain ⟨r111,hv112,h⟩:=h
      refine Cf 5 rfl (D8 [.agg #[.slice (some ⟨gb106,0,none⟩) 1 1,.slice none 0 0],.slice A11 n12 c13,.string x15] rfl Tryd.func17 rfl rfl rfl fun w108 hL109=>?_) gn
      have hp110:=pmI hL109 .n (.c 0 rfl (.c 1 rfl (.c 2 rfl (.c 3 rfl .n)))) (by kernel_rfl)
      refine Calls.mono (Ol w108 (Fl ([]:List Cc)) (⟨([(⟨(ix x1.nodes 0).name,(ix x1.nodes 0).lit,(ix x1.nodes 0).field,(ix x1.nodes 0).capture,0⟩:Ag)]:List Ag),([]:List Bh)⟩:Ar) x10 x15 (some ⟨gb106,0,none⟩) 1 1 none 0 0 A11 n12 c13 (hL109.argO (dk:=Dl) hp110 [] rfl 0 rfl rfl h107 (me 1 rfl) (Cells.flat _)) Rw.nil (Rw.mono h14 (hL109.toSt hp110 (me 2 rfl))) (hL109.tb hp110 hG (me 2 rfl)) (hL109.hFl hp110 (Bi [] rfl)) (hL109.into hp110 _) r111 hv112) ?_
      rintro _ w120 ⟨A113,n114,c115,cs118,rfl,hM121,h116,hC119⟩
      obtain ⟨sb124,hL122,hv123⟩:=hL109.callB (Sl:=([]:List Cc)) hp110 hM121 F (Bi [] rfl) trivial
      have hC119:Cells Dy (Sm w.heap.size F w120 sb124).w (Sm w.heap.size F w120 sb124).av r111 cs118:=Cells.mono hv123 hC119
      refine ⟨_,_,_,rfl,hL122,?_⟩
      refine Aa 6 rfl (Af rfl) gn rfl<|Aj 7 rfl<|Ah rfl<|Ac rfl rfl<|Aa 0 rfl (Af rfl) gn rfl<|Aj 1 rfl<|Ah rfl<|Ac rfl rfl<|Aa 0 rfl (Af rfl) gn rfl<|Aj 1 rfl<|Ah rfl<|Ah rfl ?_
      refine Ac rfl rfl<|Aa 0 rfl (Af rfl) gn rfl<|Aj 1 rfl<|Df rfl<|Io rfl ?_
      have key3:∀ s,Bl (fun (s:(List (List Bq)) × Int × Int) o=>Fz x1 x10 x15 r111 r87 s.1 s.2.1 s.2.2 o) s r→(fun (s:(List (List Bq)) × Int × Int)=>∀ (A457:Option Addr) (n458:Nat) (c459:Nat) (h460:Ow w.heap.size A457 n458 c459 s.1) (cs461:List Value) (sw462:World) (sb463:List (List Nat)) (hC464:Cells (Kd.slice Dy) (Sm w.heap.size F sw462 sb463).w (Sm w.heap.size F sw462 sb463).av s.1 cs461),G (Cj w F r) [.code Xis,.inLoop Xis,.inBlock 0,.code Xin] [(1,.slice A11 n12 c13),(2,.string x15),(3,.pointer (some ⟨gb16,0,none⟩)),(7,.slice A89 n90 c91),(9,.slice A113 n114 c115),(10,.slice A457 n458 c459),(11,.int .i64 s.2.1),(12,.int .i64 s.2.2)] [.own (.slice A457 n458 c459) 31 1 n458 cs461,.own (.slice A113 n114 c115) 38 1 n114 cs118,.own (.slice A89 n90 c91) 38 1 n90 cs94,.box gb16 25 [.slice A2 n3 c4,.slice A6 n7 c8]] [Sm w.heap.size F sw462 sb463,Sm w.heap.size F w120 sb124,Sm w.heap.size F w96 sb100,Sm w.heap.size F w [],St w []]) s:=by
       intro s hs
       refine Bl.ind (mot:=(fun (s:(List (List Bq)) × Int × Int)=>∀ (A457:Option Addr) (n458:Nat) (c459:Nat) (h460:Ow w.heap.size A457 n458 c459 s.1) (cs461:List Value) (sw462:World) (sb463:List (List Nat)) (hC464:Cells (Kd.slice Dy) (Sm w.heap.size F sw462 sb463).w (Sm w.heap.size F sw462 sb463).av s.1 cs461),G (Cj w F r) [.code Xis,.inLoop Xis,.inBlock 0,.code Xin] [(1,.slice A11 n12 c13),(2,.string x15),(3,.pointer (some ⟨gb16,0,none⟩)),(7,.slice A89 n90 c91),(9,.slice A113 n114 c115),(10,.slice A457 n458 c459),(11,.int .i64 s.2.1),(12,.int .i64 s.2.2)] [.own (.slice A457 n458 c459) 31 1 n458 cs461,.own (.slice A113 n114 c115) 38 1 n114 cs118,.own (.slice A89 n90 c91) 38 1 n90 cs94,.box gb16 25 [.slice A2 n3 c4,.slice A6 n7 c8]] [Sm w.heap.size F sw462 sb463,Sm w.heap.size F w120 sb124,Sm w.heap.size F w96 sb100,Sm w.heap.size F w [],St w []])) ?_ hs
       clear hs s
       intro s o1 h hO1
       obtain ⟨x456,x465,x466⟩:=s
       show ∀ (A457:Option Addr) (n458:Nat) (c459:Nat) (h460:Ow w.heap.size A457 n458 c459 x456) (cs461:List Value) (sw462:World) (sb463:List (List Nat)) (hC464:Cells (Kd.slice Dy) (Sm w.heap.size F sw462 sb463).w (Sm w.heap.size F sw462 sb463).av x456 cs461),G (Cj w F r) [.code Xis,.inLoop Xis,.inBlock 0,.code Xin] [(1,.slice A11 n12 c13),(2,.string x15),(3,.pointer (some ⟨gb16,0,none⟩)),(7,.slice A89 n90 c91),(9,.slice A113 n114 c115),(10,.slice A457 n458 c459),(11,.int .i64 x465),(12,.int .i64 x466)] [.own (.slice A457 n458 c459) 31 1 n458 cs461,.own (.slice A113 n114 c115) 38 1 n114 cs118,.own (.slice A89 n90 c91) 38 1 n90 cs94,.box gb16 25 [.slice A2 n3 c4,.slice A6 n7 c8]] [Sm w.heap.size F sw462 sb463,Sm w.heap.size F w120 sb124,Sm w.heap.size F w96 sb100,Sm w.heap.size F w [],St w []]
       intro A457 n458 c459 h460 cs461 sw462 sb463 hC464
       have h:Fz x1 x10 x15 r111 r87 x456 x465 x466 o1:=h
       unfold Fz at h
       refine Ah rfl<|Ah rfl<|Ac rfl rfl<|Aa 0 rfl (Ad rfl) gn rfl<|Aa 1 rfl (Aw J4 rfl) gn rfl<|Aa 2 rfl (Au 3 Rl rfl rfl rfl) gn rfl ?_
       have hr5141:=Rw.readF (s:=St w []) (hl:=Ee) (h1:=Ez) h5 hb101
       refine Aa 3 rfl (F5 (s:=St w []) U7 rfl rfl h5 hb101) gn rfl<|Aa 4 rfl (Ja Uj rfl) gn rfl<|Aa 5 rfl (Hq (kk:=(0:Int).toNat * 5) (j:=4) (St w []) H9 rfl hr5141 rfl (me 4 rfl)) gn rfl<|Aa 6 rfl (Be rfl rfl rfl) gn rfl<|Aj 7 rfl ?_
       by_cases hp5142:x466 < (ix x1.nodes 0).kids
       ·have h:=Ap hp5142 h
        refine Bz rfl _ rfl ((decide_eq_true hp5142))<|Cb rfl<|Ah rfl<|Df rfl<|Ah rfl<|Ac rfl rfl<|Aa 0 rfl (Aw J4 rfl) gn rfl<|Aa 1 rfl (Au 3 Rl rfl rfl rfl) gn rfl<|Aa 2 rfl (Ad rfl) gn rfl ?_
        obtain ⟨r5146,hv5147,h⟩:=h
        refine Cf 3 rfl (D8 [.slice A2 n3 c4,.int .i64 x465] rfl Tryd.func33 rfl rfl rfl fun w5143 hL5144=>?_) gn
        have hp5145:=pmI hL5144 .n (.c 0 rfl (.c 1 rfl (.c 2 rfl (.c 3 rfl .n)))) (by kernel_rfl)
        refine Calls.mono (Zx w5143 (Fl ([]:List Cc)) x1.nodes x465 A2 n3 c4 (Rw.mono h5 (hL5144.toSt hp5145 (me 4 rfl))) (hL5144.hFl hp5145 (Bi [] rfl)) (hL5144.into hp5145 _) r5146 hv5147) ?_
        rintro _ w5158 ⟨A5148,n5149,c5150,A5153,n5154,c5155,rfl,hM5159,h5151,h5156⟩
        have hL5160:=hL5144.call hp5145 hM5159
        refine ⟨_,_,_,rfl,hL5160,?_⟩
        refine Aa 4 rfl (Ad rfl) gn rfl<|Aa 5 rfl (Hm rfl rfl) gn rfl<|Aa 6 rfl (Hm rfl rfl) gn rfl ?_
        refine Cf 7 rfl (Gz [.slice none 0 0,.slice none 0 0] Xi1 rfl fun gb5161=>?_) gn
        refine Cf 8 rfl (Fp (vs:=[.slice A5148 n5149 c5150,.slice A5153 n5154 c5155]) (cs':=[.slice A5148 n5149 c5150,.slice A5153 n5154 c5155]) (M':=[.box gb5161 25 [.slice A5148 n5149 c5150,.slice A5153 n5154 c5155],.own (.slice A5148 n5149 c5150) 45 5 n5149 (r5146.1.nodes.flatMap Am),.own (.slice A5153 n5154 c5155) 47 4 n5154 (r5146.1.conds.flatMap Bj),.own (.slice A457 n458 c459) 31 1 n458 cs461,.own (.slice A113 n114 c115) 38 1 n114 cs118,.own (.slice A89 n90 c91) 38 1 n90 cs94,.box gb16 25 [.slice A2 n3 c4,.slice A6 n7 c8]]) 0 Xh8 rfl rfl rfl rfl rfl rfl rfl rfl rfl ?_) gn
        refine Aa 9 rfl (Af rfl) gn rfl<|Aj 10 rfl<|Ah rfl<|Ac rfl rfl<|Aa 0 rfl (Nj [.slice A5148 n5149 c5150,.slice A5153 n5154 c5155] 0 U4 rfl rfl rfl rfl) gn rfl<|Aa 1 rfl (Ad rfl) gn rfl<|Aa 2 rfl (Ad rfl) gn rfl ?_
        obtain ⟨r5166,hv5167,h⟩:=h
        refine Cf 3 rfl (D8 [.agg #[.slice A5148 n5149 c5150,.slice A5153 n5154 c5155],.slice A11 n12 c13,.string x15] rfl Tryd.func17 rfl rfl rfl fun w5163 hL5164=>?_) gn
        have hp5165:=pmI hL5164 .n (.c 0 rfl (.c 1 rfl (.c 2 rfl (.c 3 rfl (.c 4 rfl (.c 5 rfl (.c 6 rfl .n))))))) (by kernel_rfl)
        refine Calls.mono (Ol w5163 (Fl ([]:List Cc)) r5146.1 x10 x15 A5148 n5149 c5150 A5153 n5154 c5155 A11 n12 c13 (hL5164.argO (dk:=Dl) hp5165 [] rfl 1 rfl rfl (Ow.weak hL5144.env.size h5151) (me 3 rfl) (Cells.flat _)) (hL5164.argO (dk:=Gg) hp5165 [] rfl 2 rfl rfl (Ow.weak hL5144.env.size h5156) (me 3 rfl) (Cells.flat _)) (Rw.mono h14 (hL5164.toSt hp5165 (me 4 rfl))) (hL5164.tb hp5165 hG (me 4 rfl)) (hL5164.hFl hp5165 (Bi [] rfl)) (hL5164.into hp5165 _) r5166 hv5167) ?_
        rintro _ w5175 ⟨A5168,n5169,c5170,cs5173,rfl,hM5176,h5171,hC5174⟩
        obtain ⟨sb5179,hL5177,hv5178⟩:=hL5164.callB (Sl:=([]:List Cc)) hp5165 hM5176 F (Bi [] rfl) trivial
        have hC5174:Cells Dy (Sm w.heap.size F w5175 sb5179).w (Sm w.heap.size F w5175 sb5179).av r5166 cs5173:=Cells.mono hv5178 hC5174
        refine ⟨_,_,_,rfl,hL5177,?_⟩
        refine Aa 4 rfl (Af rfl) gn rfl<|Aj 5 rfl<|Ah rfl<|Ac rfl rfl<|Aa 0 rfl (Ad rfl) gn rfl<|Aa 1 rfl (Ad rfl) gn rfl ?_
        refine Xe0 (F:=F) (dk:=Dy) (Sm w.heap.size F w5175 sb5179) 0 rfl (Ow.weak hL5164.env.size h5171) (me 0 rfl) Sm.ok hC5174 fun sw5181 sb5182 h5180=>?_
        have hC5184:Cells (Kd.slice Dy) (Sm w.heap.size F sw5181 sb5182).w (Sm w.heap.size F sw5181 sb5182).av ([r5166]:List (List Bq)) [.slice A5168 n5169 c5170]:=(Cells.cons (c1:=[.slice A5168 n5169 c5170]) ⟨A5168,n5169,c5170,rfl,h5180⟩ Cells.nil)
        refine Cf 2 rfl (Gw (xs:=([r5166]:List (List Bq))) [.slice A5168 n5169 c5170] bs_57_1 rfl (by kernel_rfl) rfl rfl rfl rfl fun gb5185 h5186=>?_) gn
        obtain ⟨x5193,hv5194,h⟩:=h
        obtain ⟨hb5195,h⟩:=h
        refine Xli (F:=F) fun sw5190 sb5191 ho5192=>?_
        obtain ⟨cs5196,hc5197⟩:∃ x:List Value,x=cs461++[.slice A5168 n5169 c5170]:=⟨_,rfl⟩
        have hC5198:Cells (Kd.slice Dy) (Sm w.heap.size F sw5190 sb5191).w (Sm w.heap.size F sw5190 sb5191).av x5193 cs5196:=by rw [hv5194,hc5197]; exact Cells.app (Cells.older (s:=Sm w.heap.size F sw462 sb463) hC464 (ho5192 _ (me 2 rfl) Sm.ok)) (Cells.older (s:=Sm w.heap.size F sw5181 sb5182) hC5184 (ho5192 _ (me 0 rfl) Sm.ok))
        refine Cf 3 rfl (L8 (zs:=x5193) 4 ap_57 rfl rfl rfl h460 (Nat.le_refl _) (Src.ownAll 0 rfl h5186 hC5184) hc5197.symm (Ff hv5194 h5186.hq) hb5195 rfl rfl fun A5187 c5188 h5189=>?_) gn
        refine Aa 4 rfl (Af rfl) gn rfl<|Aj 5 rfl<|Ac rfl rfl<|Aa 0 rfl (Ad rfl) gn rfl<|Aa 1 rfl (Ad rfl) gn rfl<|Aa 2 rfl (Be rfl rfl rfl) gn rfl<|Aa 3 rfl (Af rfl) gn rfl<|Aj 4 rfl<|D7<|Ac rfl rfl<|Aa 0 rfl (Ad rfl) gn rfl<|Aa 1 rfl (Be rfl rfl rfl) gn rfl ?_
        refine Aa 2 rfl (Af rfl) gn rfl<|Aj 3 rfl<|Dp ?_
        have ih:=Out.inl hO1 h
        exact Dc [0,4,5,6,7] (ih A5187 (n458 + 1) c5188 h5189 cs5196 sw5190 sb5191 hC5198) ⟨rfl,rfl,rfl,rfl,rfl,rfl,rfl,rfl,trivial⟩ (.cons _ (.cons _ (.cons _ (.cons _ (.cons_cons _ (.cons_cons _ (.cons_cons _ (.cons_cons _ (.slnil))))))))) rfl
       ·have h:=Aq hp5142 h
        refine Bg rfl _ rfl ((decide_eq_false hp5142))<|Gp [.code Xin] rfl rfl<|Ah rfl<|Ac rfl rfl<|Aa 0 rfl (Af rfl) gn rfl<|Aj 1 rfl<|Ah rfl<|Ah rfl<|Ac rfl rfl<|Aa 0 rfl (Af rfl) gn rfl<|Aj 1 rfl<|Df rfl ?_
        refine Io rfl ?_
        have key4:∀ s,Bl (fun (s:(List Bq) × Int) o=>En x10 r111 x456 r87 s.1 s.2 o) s o1→(fun (s:(List Bq) × Int)=>∀ (A6736:Option Addr) (n6737:Nat) (c6738:Nat) (sw6739:World) (sb6740:List (List Nat)) (h6741:At Dy (Sm w.heap.size F sw6739 sb6740) A6736 n6737 c6738 r111) (A6743:Option Addr) (n6744:Nat) (c6745:Nat) (h6746:Ow w.heap.size A6743 n6744 c6745 s.1) (cs6747:List Value) (sw6748:World) (sb6749:List (List Nat)) (hC6750:Cells Dy (Sm w.heap.size F sw6748 sb6749).w (Sm w.heap.size F sw6748 sb6749).av s.1 cs6747),G (Cj w F r) [.code Pn,.inLoop Pn,.inBlock 2,.code Td] [(1,.slice A11 n12 c13),(7,.slice A89 n90 c91),(9,.slice A6736 n6737 c6738),(10,.slice A457 n458 c459),(16,.slice A6743 n6744 c6745),(17,.int .i64 s.2)] [.own (.slice A6743 n6744 c6745) 38 1 n6744 cs6747,.own (.slice A457 n458 c459) 31 1 n458 cs461,.own (.slice A89 n90 c91) 38 1 n90 cs94] [Sm w.heap.size F sw6739 sb6740,Sm w.heap.size F sw6748 sb6749,Sm w.heap.size F sw462 sb463,Sm w.heap.size F w120 sb124,Sm w.heap.size F w96 sb100,Sm w.heap.size F w [],St w []]) s:=by
         intro s hs
         refine Bl.ind (mot:=(fun (s:(List Bq) × Int)=>∀ (A6736:Option Addr) (n6737:Nat) (c6738:Nat) (sw6739:World) (sb6740:List (List Nat)) (h6741:At Dy (Sm w.heap.size F sw6739 sb6740) A6736 n6737 c6738 r111) (A6743:Option Addr) (n6744:Nat) (c6745:Nat) (h6746:Ow w.heap.size A6743 n6744 c6745 s.1) (cs6747:List Value) (sw6748:World) (sb6749:List (List Nat)) (hC6750:Cells Dy (Sm w.heap.size F sw6748 sb6749).w (Sm w.heap.size F sw6748 sb6749).av s.1 cs6747),G (Cj w F r) [.code Pn,.inLoop Pn,.inBlock 2,.code Td] [(1,.slice A11 n12 c13),(7,.slice A89 n90 c91),(9,.slice A6736 n6737 c6738),(10,.slice A457 n458 c459),(16,.slice A6743 n6744 c6745),(17,.int .i64 s.2)] [.own (.slice A6743 n6744 c6745) 38 1 n6744 cs6747,.own (.slice A457 n458 c459) 31 1 n458 cs461,.own (.slice A89 n90 c91) 38 1 n90 cs94] [Sm w.heap.size F sw6739 sb6740,Sm w.heap.size F sw6748 sb6749,Sm w.heap.size F sw462 sb463,Sm w.heap.size F w120 sb124,Sm w.heap.size F w96 sb100,Sm w.heap.size F w [],St w []])) ?_ hs
         clear hs s
         intro s o2 h hO2
         obtain ⟨x6742,x6751⟩:=s
         show ∀ (A6736:Option Addr) (n6737:Nat) (c6738:Nat) (sw6739:World) (sb6740:List (List Nat)) (h6741:At Dy (Sm w.heap.size F sw6739 sb6740) A6736 n6737 c6738 r111) (A6743:Option Addr) (n6744:Nat) (c6745:Nat) (h6746:Ow w.heap.size A6743 n6744 c6745 x6742) (cs6747:List Value) (sw6748:World) (sb6749:List (List Nat)) (hC6750:Cells Dy (Sm w.heap.size F sw6748 sb6749).w (Sm w.heap.size F sw6748 sb6749).av x6742 cs6747),G (Cj w F r) [.code Pn,.inLoop Pn,.inBlock 2,.code Td] [(1,.slice A11 n12 c13),(7,.slice A89 n90 c91),(9,.slice A6736 n6737 c6738),(10,.slice A457 n458 c459),(16,.slice A6743 n6744 c6745),(17,.int .i64 x6751)] [.own (.slice A6743 n6744 c6745) 38 1 n6744 cs6747,.own (.slice A457 n458 c459) 31 1 n458 cs461,.own (.slice A89 n90 c91) 38 1 n90 cs94] [Sm w.heap.size F sw6739 sb6740,Sm w.heap.size F sw6748 sb6749,Sm w.heap.size F sw462 sb463,Sm w.heap.size F w120 sb124,Sm w.heap.size F w96 sb100,Sm w.heap.size F w [],St w []]
         intro A6736 n6737 c6738 sw6739 sb6740 h6741 A6743 n6744 c6745 h6746 cs6747 sw6748 sb6749 hC6750
         have h:En x10 r111 x456 r87 x6742 x6751 o2:=h
         unfold En at h
         refine Ah rfl<|Ah rfl<|Ac rfl rfl<|Aa 0 rfl (Ad rfl) gn rfl<|Aa 1 rfl (Ad rfl) gn rfl<|Aa 2 rfl (Dj Xco rfl h14.hq) gn rfl<|Aa 3 rfl (Be rfl rfl rfl) gn rfl<|Aj 4 rfl ?_
         by_cases hp8282:x6751 < (x10.length:Int)
         ·have h:=Ap hp8282 h
          refine Bz rfl _ rfl ((decide_eq_true hp8282))<|Cb rfl<|Ah rfl<|Df rfl<|Ah rfl<|Ah rfl<|Ac rfl rfl<|Aa 0 rfl (Ad rfl) gn rfl<|Aa 1 rfl (Ad rfl) gn rfl ?_
          obtain ⟨r8286,hv8287,h⟩:=h
          refine Cf 2 rfl (D8 [.slice A6736 n6737 c6738,.int .i64 x6751] rfl Tryd.func34 rfl rfl rfl fun w8283 hL8284=>?_) gn
          have hp8285:=pmI hL8284 .n (.c 0 rfl (.c 1 rfl (.c 2 rfl .n))) (by kernel_rfl)
          refine Calls.mono (Ue w8283 (Fl ([Sm w.heap.size F sw6739 sb6740]:List Cc)) r111 x6751 A6736 n6737 c6738 (Rw.mono h6741 (hL8284.toFl (me 0 rfl) (me 0 rfl))) (hL8284.hFl hp8285 (Bi [0] rfl)) (hL8284.into hp8285 _) r8286 hv8287) ?_
          rintro _ w8293 ⟨A8288,n8289,c8290,rfl,hM8294,h8291,ht8292⟩
          obtain ⟨sb8297,hL8295,hv8296⟩:=hL8284.callB (Sl:=([Sm w.heap.size F sw6739 sb6740]:List Cc)) hp8285 hM8294 F (Bi [0] rfl) ⟨Sm.ok,trivial⟩
          have h8291:At (G8 .i64) (Sm w.heap.size F w8293 sb8297) A8288 n8289 c8290 r8286:=Rw.mono h8291 hv8296
          refine ⟨_,_,_,rfl,hL8295,?_⟩
          obtain ⟨b8298,hb8299⟩:∃ b,b=A8288.isNone:=⟨_,rfl⟩
          have h:=h b8298 ⟨Xll hb8299 (fun h0=>(h8291.row.1 (by rw [← h8291.hq]; exact h0)).1) h8291.hq,fun e=>by rw [hb8299,ht8292 e]; rfl⟩
          refine Aa 3 rfl (v_eqSL Jc rfl hb8299.symm) gn rfl<|Aj 4 rfl ?_
          by_cases hp8300:b8298=true
          ·have h:=Ap hp8300 h
           refine Bz rfl _ rfl (hp8300)<|Gp [.code Vl,.inLoop Pn,.inBlock 2,.code Td] rfl rfl<|Ac rfl rfl<|Aa 0 rfl (Ad rfl) gn rfl<|Aa 1 rfl (Be rfl rfl rfl) gn rfl<|Aa 2 rfl (Af rfl) gn rfl<|Aj 3 rfl<|Dp ?_
           have ih:=Out.inl hO2 h
           exact Dc [1,2,3,4,5,6,7] (ih A6736 n6737 c6738 sw6739 sb6740 h6741 A6743 n6744 c6745 h6746 cs6747 sw6748 sb6749 hC6750) ⟨rfl,rfl,rfl,rfl,rfl,rfl,trivial⟩ (.cons_cons _ (.cons_cons _ (.cons_cons _ (.slnil)))) rfl
          ·have h:=Aq hp8300 h
           refine Bg rfl _ rfl ((bf hp8300))<|Cb rfl<|Ah rfl<|Ac rfl rfl<|Aa 0 rfl (Ad rfl) gn rfl ?_
           refine Cf 1 rfl (Gw (xs:=([x6751]:List Int)) [.int .i64 x6751] Rx rfl (by kernel_rfl) rfl rfl rfl rfl fun gb8302 h8303=>?_) gn
           refine Aa 2 rfl (Af rfl) gn rfl<|Aj 3 rfl<|Ah rfl<|Ac rfl rfl<|Aa 0 rfl (Ad rfl) gn rfl<|Aa 1 rfl (Ad rfl) gn rfl ?_
           obtain ⟨r8307,hv8308,h⟩:=h
           refine Cf 2 rfl (D8 [.slice A11 n12 c13,.int .i64 x6751] rfl Tryd.func35 rfl rfl rfl fun w8304 hL8305=>?_) gn
           have hp8306:=pmI hL8305 .n (.c 0 rfl (.c 1 rfl (.c 2 rfl (.c 3 rfl .n)))) (by kernel_rfl)
           refine Calls.mono (Ha w8304 (Fl ([]:List Cc)) x10 x6751 A11 n12 c13 (Rw.mono h14 (hL8305.toSt hp8306 (me 7 rfl))) (hL8305.hFl hp8306 (Bi [] rfl)) (hL8305.into hp8306 _) r8307 hv8308) ?_
           rintro _ w8314 ⟨A8309,n8310,c8311,rfl,hM8315,h8312⟩
           have hL8316:=hL8305.call hp8306 hM8315
           refine ⟨_,_,_,rfl,hL8316,?_⟩
           refine Aa 3 rfl (Af rfl) gn rfl<|Aj 4 rfl<|Ah rfl<|Ac rfl rfl<|Aa 0 rfl (Af rfl) gn rfl<|Aj 1 rfl<|Ah rfl<|Ac rfl rfl<|Aa 0 rfl (Af rfl) gn rfl<|Aj 1 rfl<|Ah rfl<|Ah rfl ?_
           refine Ac rfl rfl<|Aa 0 rfl (Af rfl) gn rfl<|Aj 1 rfl<|Df rfl<|Io rfl ?_
           have key5:∀ s,Bl (fun (s:(List Int) × Int × Bool × Int) o=>Ej x456 r8307 x6742 x6751 s.1 s.2.1 s.2.2.1 s.2.2.2 o) s o2→(fun (s:(List Int) × Int × Bool × Int)=>∀ (A8811:Option Addr) (n8812:Nat) (c8813:Nat) (h8814:Ow w.heap.size A8811 n8812 c8813 s.1),G (Cj w F r) [.code Sv,.inLoop Sv,.inBlock 4,.code Wj,.inBlock 3,.code Vl,.inLoop Pn,.inBlock 2,.code Td] [(1,.slice A11 n12 c13),(7,.slice A89 n90 c91),(9,.slice A6736 n6737 c6738),(10,.slice A457 n458 c459),(16,.slice A6743 n6744 c6745),(17,.int .i64 x6751),(18,.slice A8811 n8812 c8813),(19,.slice A8309 n8310 c8311),(20,.int .i64 s.2.1),(21,.bool s.2.2.1),(22,.int .i64 s.2.2.2)] [.own (.slice A8309 n8310 c8311) 3 1 n8310 (r8307.flatMap (eI .i64)),.own (.slice A8811 n8812 c8813) 3 1 n8812 (s.1.flatMap (eI .i64)),.own (.slice A6743 n6744 c6745) 38 1 n6744 cs6747,.own (.slice A457 n458 c459) 31 1 n458 cs461,.own (.slice A89 n90 c91) 38 1 n90 cs94] [Sm w.heap.size F w8293 sb8297,Sm w.heap.size F sw6739 sb6740,Sm w.heap.size F sw6748 sb6749,Sm w.heap.size F sw462 sb463,Sm w.heap.size F w120 sb124,Sm w.heap.size F w96 sb100,Sm w.heap.size F w [],St w []]) s:=by
            intro s hs
            refine Bl.ind (mot:=(fun (s:(List Int) × Int × Bool × Int)=>∀ (A8811:Option Addr) (n8812:Nat) (c8813:Nat) (h8814:Ow w.heap.size A8811 n8812 c8813 s.1),G (Cj w F r) [.code Sv,.inLoop Sv,.inBlock 4,.code Wj,.inBlock 3,.code Vl,.inLoop Pn,.inBlock 2,.code Td] [(1,.slice A11 n12 c13),(7,.slice A89 n90 c91),(9,.slice A6736 n6737 c6738),(10,.slice A457 n458 c459),(16,.slice A6743 n6744 c6745),(17,.int .i64 x6751),(18,.slice A8811 n8812 c8813),(19,.slice A8309 n8310 c8311),(20,.int .i64 s.2.1),(21,.bool s.2.2.1),(22,.int .i64 s.2.2.2)] [.own (.slice A8309 n8310 c8311) 3 1 n8310 (r8307.flatMap (eI .i64)),.own (.slice A8811 n8812 c8813) 3 1 n8812 (s.1.flatMap (eI .i64)),.own (.slice A6743 n6744 c6745) 38 1 n6744 cs6747,.own (.slice A457 n458 c459) 31 1 n458 cs461,.own (.slice A89 n90 c91) 38 1 n90 cs94] [Sm w.heap.size F w8293 sb8297,Sm w.heap.size F sw6739 sb6740,Sm w.heap.size F sw6748 sb6749,Sm w.heap.size F sw462 sb463,Sm w.heap.size F w120 sb124,Sm w.heap.size F w96 sb100,Sm w.heap.size F w [],St w []])) ?_ hs
            clear hs s
            intro s o3 h hO3
            obtain ⟨x8810,x8815,x8816,x8817⟩:=s
            show ∀ (A8811:Option Addr) (n8812:Nat) (c8813:Nat) (h8814:Ow w.heap.size A8811 n8812 c8813 x8810),G (Cj w F r) [.code Sv,.inLoop Sv,.inBlock 4,.code Wj,.inBlock 3,.code Vl,.inLoop Pn,.inBlock 2,.code Td] [(1,.slice A11 n12 c13),(7,.slice A89 n90 c91),(9,.slice A6736 n6737 c6738),(10,.slice A457 n458 c459),(16,.slice A6743 n6744 c6745),(17,.int .i64 x6751),(18,.slice A8811 n8812 c8813),(19,.slice A8309 n8310 c8311),(20,.int .i64 x8815),(21,.bool x8816),(22,.int .i64 x8817)] [.own (.slice A8309 n8310 c8311) 3 1 n8310 (r8307.flatMap (eI .i64)),.own (.slice A8811 n8812 c8813) 3 1 n8812 (x8810.flatMap (eI .i64)),.own (.slice A6743 n6744 c6745) 38 1 n6744 cs6747,.own (.slice A457 n458 c459) 31 1 n458 cs461,.own (.slice A89 n90 c91) 38 1 n90 cs94] [Sm w.heap.size F w8293 sb8297,Sm w.heap.size F sw6739 sb6740,Sm w.heap.size F sw6748 sb6749,Sm w.heap.size F sw462 sb463,Sm w.heap.size F w120 sb124,Sm w.heap.size F w96 sb100,Sm w.heap.size F w [],St w []]
            intro A8811 n8812 c8813 h8814
            have h:Ej x456 r8307 x6742 x6751 x8810 x8815 x8816 x8817 o3:=h
            unfold Ej at h
            refine Ah rfl<|Ah rfl<|Ac rfl rfl<|Aa 0 rfl (Ad rfl) gn rfl<|Aa 1 rfl (Ad rfl) gn rfl<|Aa 2 rfl (Dj un_57 rfl h460.hq) gn rfl<|Aa 3 rfl (Be rfl rfl rfl) gn rfl<|Aj 4 rfl ?_
            by_cases hp9311:x8817 < (x456.length:Int)
            ·have h:=Ap hp9311 h
             refine Bz rfl _ rfl ((decide_eq_true hp9311))<|Cb rfl<|Ah rfl<|Df rfl<|Ah rfl<|Ac rfl rfl<|Aa 0 rfl (Af rfl) gn rfl<|Aj 1 rfl<|Ah rfl<|Df rfl<|Io rfl ?_
             have key6:∀ s,Bl (fun (s:Int × (List Int)) o=>Dz r8307 x8817 x456 x8816 x8810 s.1 s.2 o) s o3→(fun (s:Int × (List Int))=>∀ (A9410:Option Addr) (n9411:Nat) (c9412:Nat) (sw9413:World) (sb9414:List (List Nat)) (h9415:At (G8 .i64) (Sm w.heap.size F sw9413 sb9414) A9410 n9411 c9412 s.2),G (Cj w F r) [.code Xd1,.inLoop Xd1,.inBlock 6,.code Xfa,.inBlock 5,.code Vh,.inLoop Sv,.inBlock 4,.code Wj,.inBlock 3,.code Vl,.inLoop Pn,.inBlock 2,.code Td] [(1,.slice A11 n12 c13),(7,.slice A89 n90 c91),(9,.slice A6736 n6737 c6738),(10,.slice A457 n458 c459),(16,.slice A6743 n6744 c6745),(17,.int .i64 x6751),(18,.slice A8811 n8812 c8813),(19,.slice A8309 n8310 c8311),(20,.int .i64 s.1),(21,.bool x8816),(22,.int .i64 x8817),(23,.slice A9410 n9411 c9412)] [.own (.slice A8309 n8310 c8311) 3 1 n8310 (r8307.flatMap (eI .i64)),.own (.slice A8811 n8812 c8813) 3 1 n8812 (x8810.flatMap (eI .i64)),.own (.slice A6743 n6744 c6745) 38 1 n6744 cs6747,.own (.slice A457 n458 c459) 31 1 n458 cs461,.own (.slice A89 n90 c91) 38 1 n90 cs94] [Sm w.heap.size F sw9413 sb9414,Sm w.heap.size F w8293 sb8297,Sm w.heap.size F sw6739 sb6740,Sm w.heap.size F sw6748 sb6749,Sm w.heap.size F sw462 sb463,Sm w.heap.size F w120 sb124,Sm w.heap.size F w96 sb100,Sm w.heap.size F w [],St w []]) s:=by
              intro s hs
              refine Bl.ind (mot:=(fun (s:Int × (List Int))=>∀ (A9410:Option Addr) (n9411:Nat) (c9412:Nat) (sw9413:World) (sb9414:List (List Nat)) (h9415:At (G8 .i64) (Sm w.heap.size F sw9413 sb9414) A9410 n9411 c9412 s.2),G (Cj w F r) [.code Xd1,.inLoop Xd1,.inBlock 6,.code Xfa,.inBlock 5,.code Vh,.inLoop Sv,.inBlock 4,.code Wj,.inBlock 3,.code Vl,.inLoop Pn,.inBlock 2,.code Td] [(1,.slice A11 n12 c13),(7,.slice A89 n90 c91),(9,.slice A6736 n6737 c6738),(10,.slice A457 n458 c459),(16,.slice A6743 n6744 c6745),(17,.int .i64 x6751),(18,.slice A8811 n8812 c8813),(19,.slice A8309 n8310 c8311),(20,.int .i64 s.1),(21,.bool x8816),(22,.int .i64 x8817),(23,.slice A9410 n9411 c9412)] [.own (.slice A8309 n8310 c8311) 3 1 n8310 (r8307.flatMap (eI .i64)),.own (.slice A8811 n8812 c8813) 3 1 n8812 (x8810.flatMap (eI .i64)),.own (.slice A6743 n6744 c6745) 38 1 n6744 cs6747,.own (.slice A457 n458 c459) 31 1 n458 cs461,.own (.slice A89 n90 c91) 38 1 n90 cs94] [Sm w.heap.size F sw9413 sb9414,Sm w.heap.size F w8293 sb8297,Sm w.heap.size F sw6739 sb6740,Sm w.heap.size F sw6748 sb6749,Sm w.heap.size F sw462 sb463,Sm w.heap.size F w120 sb124,Sm w.heap.size F w96 sb100,Sm w.heap.size F w [],St w []])) ?_ hs
              clear hs s
              intro s o4 h hO4
              obtain ⟨x9408,x9409⟩:=s
              show ∀ (A9410:Option Addr) (n9411:Nat) (c9412:Nat) (sw9413:World) (sb9414:List (List Nat)) (h9415:At (G8 .i64) (Sm w.heap.size F sw9413 sb9414) A9410 n9411 c9412 x9409),G (Cj w F r) [.code Xd1,.inLoop Xd1,.inBlock 6,.code Xfa,.inBlock 5,.code Vh,.inLoop Sv,.inBlock 4,.code Wj,.inBlock 3,.code Vl,.inLoop Pn,.inBlock 2,.code Td] [(1,.slice A11 n12 c13),(7,.slice A89 n90 c91),(9,.slice A6736 n6737 c6738),(10,.slice A457 n458 c459),(16,.slice A6743 n6744 c6745),(17,.int .i64 x6751),(18,.slice A8811 n8812 c8813),(19,.slice A8309 n8310 c8311),(20,.int .i64 x9408),(21,.bool x8816),(22,.int .i64 x8817),(23,.slice A9410 n9411 c9412)] [.own (.slice A8309 n8310 c8311) 3 1 n8310 (r8307.flatMap (eI .i64)),.own (.slice A8811 n8812 c8813) 3 1 n8812 (x8810.flatMap (eI .i64)),.own (.slice A6743 n6744 c6745) 38 1 n6744 cs6747,.own (.slice A457 n458 c459) 31 1 n458 cs461,.own (.slice A89 n90 c91) 38 1 n90 cs94] [Sm w.heap.size F sw9413 sb9414,Sm w.heap.size F w8293 sb8297,Sm w.heap.size F sw6739 sb6740,Sm w.heap.size F sw6748 sb6749,Sm w.heap.size F sw462 sb463,Sm w.heap.size F w120 sb124,Sm w.heap.size F w96 sb100,Sm w.heap.size F w [],St w []]
              intro A9410 n9411 c9412 sw9413 sb9414 h9415
              have h:Dz r8307 x8817 x456 x8816 x8810 x9408 x9409 o4:=h
              unfold Dz at h
              refine Ah rfl<|Ah rfl<|Ac rfl rfl<|Aa 0 rfl (Ad rfl) gn rfl<|Aa 1 rfl (Ad rfl) gn rfl<|Aa 2 rfl (Dj Jc rfl (Ow.weak hL8305.env.size h8312).hq) gn rfl<|Aa 3 rfl (Be rfl rfl rfl) gn rfl<|Aa 4 rfl (Ad rfl) gn rfl ?_
              by_cases hp9600:x9408 < (r8307.length:Int)
              ·have h:=Ap hp9600 h
               refine Bv 117 rfl ((decide_eq_true hp9600))<|Aa 5 rfl (Ad rfl) (gy 117 rfl rfl) rfl<|Aa 6 rfl (Dj Jc rfl h9415.hq) (gy 117 rfl rfl) rfl<|Aa 7 rfl (Be rfl rfl rfl) (gy 117 rfl rfl) rfl<|Aa 8 rfl (Bd (b:=true) rfl rfl) gn rfl<|Aj 9 rfl ?_
               by_cases hp9601:(x9409.length:Int)=0
               ·have h:=Ap hp9601 h
                refine Bz rfl _ rfl ((eqi hp9601))<|Cb rfl<|Df rfl<|Ah rfl ?_
                obtain ⟨hb9602,h⟩:=h
                obtain ⟨hb9611,h⟩:=h
                obtain ⟨r9615,hv9616,h⟩:=h
                have hns:Region.noSelect (Code.ops q8c123)=true:=by kernel_rfl
                refine Gf [] 10 rfl rfl mix rfl (.c 0 rfl (.c 1 rfl (.c 2 rfl (.c 3 rfl (.c 4 rfl (.c 5 rfl (.c 6 rfl (.c 7 rfl (.c 8 rfl .n)))))))))<|wfv 0 rfl (Ad rfl) gn hns rfl<|wfv 1 rfl (Ad rfl) gn hns rfl ?_
                obtain ⟨ce9661,hK9662,ht9663,hg9664⟩:=Cells.get hC464 hb9602
                obtain ⟨A9665,n9666,c9667,rfl,h9668⟩:=hK9662
                refine wfv 2 rfl (Fj slE_57 rfl rfl h460 hb9602) gn hns rfl<|wfv 3 rfl (Ut (.slice A9665 n9666 c9667) 3 ld_31 rfl rfl (hg9664 0 _ rfl)) gn hns rfl<|wfv 4 rfl (Ad rfl) gn hns rfl<|wfv 5 rfl (Ad rfl) gn hns rfl<|wfv 6 rfl (Fj Jt rfl rfl (Ow.weak hL8305.env.size h8312) hb9611) gn hns rfl<|wfv 7 rfl (Ut (.int .i64 (ix r8307 x9408)) 0 H9 rfl rfl (Vq (hlI .i64) hb9611 rfl)) gn hns rfl ?_
                refine Cm [8] (by kernel_rfl) rfl ⟨Et 8 rfl gn rfl (D8 [.slice A9665 n9666 c9667,.int .i64 (ix r8307 x9408)] rfl Tryd.func34 rfl rfl rfl fun w9682 hL9683=>?_),trivial⟩
                have hp9684:=pmI hL9683 .n (.c 0 rfl (.c 1 rfl (.c 2 rfl (.c 3 rfl (.c 4 rfl .n))))) (by kernel_rfl)
                refine Calls.mono (Ue w9682 (Fl ([Sm w.heap.size F sw462 sb463]:List Cc)) (ix x456 x8817) (ix r8307 x9408) A9665 n9666 c9667 (Rw.mono h9668 (hL9683.toFl (me 4 rfl) (me 0 rfl))) (hL9683.hFl hp9684 (Bi [4] rfl)) (hL9683.into hp9684 _) r9615 hv9616) ?_
                rintro _ w9690 ⟨A9685,n9686,c9687,rfl,hM9691,h9688,ht9689⟩
                obtain ⟨sb9694,hL9692,hv9693⟩:=hL9683.callB (Sl:=([Sm w.heap.size F sw462 sb463]:List Cc)) hp9684 hM9691 F (Bi [4] rfl) ⟨Sm.ok,trivial⟩
                have h9688:At (G8 .i64) (Sm w.heap.size F w9690 sb9694) A9685 n9686 c9687 r9615:=Rw.mono h9688 hv9693
                refine ⟨_,_,_,rfl,hL9692,?_⟩
                refine ⟨Bi [0,1,2,3,4] rfl,Bi [1,2,3,4,5,6,7,8,9] rfl,?_⟩
                refine wfv 9 rfl (Af rfl) gn hns rfl<|E8 (by kernel_rfl)<|Ac rfl rfl<|Aa 0 rfl (Ad rfl) gn rfl<|Aa 1 rfl (Be rfl rfl rfl) gn rfl<|Aa 2 rfl (Af rfl) gn rfl<|Aj 3 rfl<|D7<|Dp ?_
                have ih:=Out.inl hO4 h
                exact Dc [0,2,3,4,5,6,7,8,9] (ih A9685 n9686 c9687 w9690 sb9694 h9688) ⟨rfl,rfl,rfl,rfl,rfl,rfl,rfl,rfl,rfl,rfl,rfl,rfl,trivial⟩ (.cons_cons _ (.cons_cons _ (.cons_cons _ (.cons_cons _ (.cons_cons _ (.slnil)))))) rfl
               ·have h:=Aq hp9601 h
                refine Bg rfl _ rfl ((nei hp9601))<|Gp [.code Xfa,.inBlock 5,.code Vh,.inLoop Sv,.inBlock 4,.code Wj,.inBlock 3,.code Vl,.inLoop Pn,.inBlock 2,.code Td] rfl rfl<|Ah rfl<|Ah rfl<|Ac rfl rfl<|Aa 0 rfl (Ad rfl) gn rfl<|Aa 1 rfl (Dj Jc rfl h9415.hq) gn rfl<|Aa 2 rfl (Be rfl rfl rfl) gn rfl<|Aj 3 rfl<|Bg rfl _ rfl ((nei hp9601))<|Cb rfl<|Ah rfl ?_
                refine Ac rfl rfl<|Aa 0 rfl (Af rfl) gn rfl<|Aj 1 rfl<|Df rfl<|Io rfl ?_
                have key7:∀ s,Bl (fun (s:(List Int) × Int) o=>Ew x9409 x9408 x8816 x8817 s.1 s.2 o) s o4→(fun (s:(List Int) × Int)=>∀ (A9709:Option Addr) (n9710:Nat) (c9711:Nat) (h9712:Ow w.heap.size A9709 n9710 c9711 s.1),G (Cj w F r) [.code Xy,.inLoop Xy,.inBlock 8,.inBlock 5,.code Vh,.inLoop Sv,.inBlock 4,.code Wj,.inBlock 3,.code Vl,.inLoop Pn,.inBlock 2,.code Td] [(1,.slice A11 n12 c13),(7,.slice A89 n90 c91),(9,.slice A6736 n6737 c6738),(10,.slice A457 n458 c459),(16,.slice A6743 n6744 c6745),(17,.int .i64 x6751),(18,.slice A9709 n9710 c9711),(19,.slice A8309 n8310 c8311),(20,.int .i64 x9408),(21,.bool x8816),(22,.int .i64 x8817),(23,.slice A9410 n9411 c9412),(24,.int .i64 s.2),(118,.slice A9410 n9411 c9412),(119,.int .i64 (x9409.length:Int)),(120,.bool ((x9409.length:Int) == 0))] [.own (.slice A8309 n8310 c8311) 3 1 n8310 (r8307.flatMap (eI .i64)),.own (.slice A9709 n9710 c9711) 3 1 n9710 (s.1.flatMap (eI .i64)),.own (.slice A6743 n6744 c6745) 38 1 n6744 cs6747,.own (.slice A457 n458 c459) 31 1 n458 cs461,.own (.slice A89 n90 c91) 38 1 n90 cs94] [Sm w.heap.size F sw9413 sb9414,Sm w.heap.size F w8293 sb8297,Sm w.heap.size F sw6739 sb6740,Sm w.heap.size F sw6748 sb6749,Sm w.heap.size F sw462 sb463,Sm w.heap.size F w120 sb124,Sm w.heap.size F w96 sb100,Sm w.heap.size F w [],St w []]) s:=by
                 intro s hs
                 refine Bl.ind (mot:=(fun (s:(List Int) × Int)=>∀ (A9709:Option Addr) (n9710:Nat) (c9711:Nat) (h9712:Ow w.heap.size A9709 n9710 c9711 s.1),G (Cj w F r) [.code Xy,.inLoop Xy,.inBlock 8,.inBlock 5,.code Vh,.inLoop Sv,.inBlock 4,.code Wj,.inBlock 3,.code Vl,.inLoop Pn,.inBlock 2,.code Td] [(1,.slice A11 n12 c13),(7,.slice A89 n90 c91),(9,.slice A6736 n6737 c6738),(10,.slice A457 n458 c459),(16,.slice A6743 n6744 c6745),(17,.int .i64 x6751),(18,.slice A9709 n9710 c9711),(19,.slice A8309 n8310 c8311),(20,.int .i64 x9408),(21,.bool x8816),(22,.int .i64 x8817),(23,.slice A9410 n9411 c9412),(24,.int .i64 s.2),(118,.slice A9410 n9411 c9412),(119,.int .i64 (x9409.length:Int)),(120,.bool ((x9409.length:Int) == 0))] [.own (.slice A8309 n8310 c8311) 3 1 n8310 (r8307.flatMap (eI .i64)),.own (.slice A9709 n9710 c9711) 3 1 n9710 (s.1.flatMap (eI .i64)),.own (.slice A6743 n6744 c6745) 38 1 n6744 cs6747,.own (.slice A457 n458 c459) 31 1 n458 cs461,.own (.slice A89 n90 c91) 38 1 n90 cs94] [Sm w.heap.size F sw9413 sb9414,Sm w.heap.size F w8293 sb8297,Sm w.heap.size F sw6739 sb6740,Sm w.heap.size F sw6748 sb6749,Sm w.heap.size F sw462 sb463,Sm w.heap.size F w120 sb124,Sm w.heap.size F w96 sb100,Sm w.heap.size F w [],St w []])) ?_ hs
                 clear hs s
                 intro s o5 h hO5
                 obtain ⟨x9708,x9713⟩:=s
                 show ∀ (A9709:Option Addr) (n9710:Nat) (c9711:Nat) (h9712:Ow w.heap.size A9709 n9710 c9711 x9708),G (Cj w F r) [.code Xy,.inLoop Xy,.inBlock 8,.inBlock 5,.code Vh,.inLoop Sv,.inBlock 4,.code Wj,.inBlock 3,.code Vl,.inLoop Pn,.inBlock 2,.code Td] [(1,.slice A11 n12 c13),(7,.slice A89 n90 c91),(9,.slice A6736 n6737 c6738),(10,.slice A457 n458 c459),(16,.slice A6743 n6744 c6745),(17,.int .i64 x6751),(18,.slice A9709 n9710 c9711),(19,.slice A8309 n8310 c8311),(20,.int .i64 x9408),(21,.bool x8816),(22,.int .i64 x8817),(23,.slice A9410 n9411 c9412),(24,.int .i64 x9713),(118,.slice A9410 n9411 c9412),(119,.int .i64 (x9409.length:Int)),(120,.bool ((x9409.length:Int) == 0))] [.own (.slice A8309 n8310 c8311) 3 1 n8310 (r8307.flatMap (eI .i64)),.own (.slice A9709 n9710 c9711) 3 1 n9710 (x9708.flatMap (eI .i64)),.own (.slice A6743 n6744 c6745) 38 1 n6744 cs6747,.own (.slice A457 n458 c459) 31 1 n458 cs461,.own (.slice A89 n90 c91) 38 1 n90 cs94] [Sm w.heap.size F sw9413 sb9414,Sm w.heap.size F w8293 sb8297,Sm w.heap.size F sw6739 sb6740,Sm w.heap.size F sw6748 sb6749,Sm w.heap.size F sw462 sb463,Sm w.heap.size F w120 sb124,Sm w.heap.size F w96 sb100,Sm w.heap.size F w [],St w []]
                 intro A9709 n9710 c9711 h9712
                 have h:Ew x9409 x9408 x8816 x8817 x9708 x9713 o5:=h
                 unfold Ew at h
                 refine Ah rfl<|Ah rfl<|Ac rfl rfl<|Aa 0 rfl (Ad rfl) gn rfl<|Aa 1 rfl (Ad rfl) gn rfl<|Aa 2 rfl (Dj Jc rfl h9415.hq) gn rfl<|Aa 3 rfl (Be rfl rfl rfl) gn rfl<|Aj 4 rfl ?_
                 by_cases hp9726:x9713 < (x9409.length:Int)
                 ·have h:=Ap hp9726 h
                  refine Bz rfl _ rfl ((decide_eq_true hp9726))<|Cb rfl<|Ah rfl<|Df rfl<|Ac rfl rfl<|Aa 0 rfl (Ad rfl) gn rfl<|Aa 1 rfl (Ad rfl) gn rfl<|Aa 2 rfl (Ad rfl) gn rfl ?_
                  obtain ⟨hb9727,h⟩:=h
                  have hr9728:=Rw.readF (s:=Sm w.heap.size F sw9413 sb9414) (hl:=(hlI .i64)) (h1:=(Ey .i64)) h9415 hb9727
                  refine Aa 3 rfl (F5 (s:=Sm w.heap.size F sw9413 sb9414) Jt rfl rfl h9415 hb9727) gn rfl<|Aa 4 rfl (Hq (kk:=(x9713:Int).toNat * 1) (j:=0) (Sm w.heap.size F sw9413 sb9414) H9 rfl hr9728 rfl (me 0 rfl)) gn rfl ?_
                  refine Cf 5 rfl (Gw (xs:=([ix x9409 x9713]:List Int)) [.int .i64 (ix x9409 x9713)] Rx rfl (by kernel_rfl) rfl rfl rfl rfl fun gb9730 h9731=>?_) gn
                  obtain ⟨x9735,hv9736,h⟩:=h
                  obtain ⟨hb9737,h⟩:=h
                  refine Cf 6 rfl (L8 (zs:=x9735) (cells':=x9735.flatMap (eI .i64)) 2 Zg rfl rfl rfl h9712 (Nat.le_refl _) (Src.ownF (hl:=(hlI .i64)) (h1:=(Ey .i64)) 0 rfl h9731) (by rw [hv9736,List.flatMap_append] <;> rfl) (Ff hv9736 h9731.hq) hb9737 rfl rfl fun A9732 c9733 h9734=>?_) gn
                  refine Aa 7 rfl (Af rfl) gn rfl<|Aj 8 rfl<|D7<|Ac rfl rfl<|Aa 0 rfl (Ad rfl) gn rfl<|Aa 1 rfl (Be rfl rfl rfl) gn rfl<|Aa 2 rfl (Af rfl) gn rfl<|Aj 3 rfl<|Dp ?_
                  have ih:=Out.inl hO5 h
                  exact Dc [0,1,2,3,4,5,6,7,8] (ih A9732 (n9710 + 1) c9733 h9734) ⟨rfl,rfl,rfl,rfl,rfl,rfl,rfl,rfl,rfl,rfl,rfl,rfl,rfl,rfl,rfl,rfl,trivial⟩ (.cons _ (.cons_cons _ (.cons_cons _ (.cons_cons _ (.cons_cons _ (.cons_cons _ (.slnil))))))) rfl
                 ·have h:=Aq hp9726 h
                  refine Bg rfl _ rfl ((decide_eq_false hp9726))<|Gp [.inBlock 5,.code Vh,.inLoop Sv,.inBlock 4,.code Wj,.inBlock 3,.code Vl,.inLoop Pn,.inBlock 2,.code Td] rfl rfl<|D7<|Ac rfl rfl<|Aa 0 rfl (Ad rfl) gn rfl<|Aa 1 rfl (Be rfl rfl rfl) gn rfl<|Aa 2 rfl (Af rfl) gn rfl<|Aj 3 rfl<|Dp ?_
                  have h:=Out.inr hO5 h
                  have h:=Out.inr hO4 h
                  have ih:=Out.inl hO3 h
                  exact Dc [1,2,3,4,5,6,7,8] (ih A9709 n9710 c9711 h9712) ⟨rfl,rfl,rfl,rfl,rfl,rfl,rfl,rfl,rfl,rfl,rfl,trivial⟩ (.cons_cons _ (.cons_cons _ (.cons_cons _ (.cons_cons _ (.cons_cons _ (.slnil)))))) rfl
                exact Dc [0,1,2,3,4,5,6,7,8] (key7 _ h A8811 n8812 c8813 h8814) ⟨rfl,rfl,rfl,rfl,rfl,rfl,rfl,rfl,rfl,rfl,rfl,rfl,rfl,rfl,rfl,rfl,trivial⟩ (.cons_cons _ (.cons_cons _ (.cons_cons _ (.cons_cons _ (.cons_cons _ (.slnil)))))) rfl
              ·have h:=Aq hp9600 h
               refine Bv 117 rfl ((decide_eq_false hp9600))<|Ae 5 rfl (ps 117 rfl rfl rfl)<|Ae 6 rfl (ps 117 rfl rfl rfl)<|Ae 7 rfl (ps 117 rfl rfl rfl)<|Aa 8 rfl (Bd (b:=false) rfl rfl) gn rfl<|Aj 9 rfl<|Bg rfl _ rfl (rfl)<|Gp [.code Xfa,.inBlock 5,.code Vh,.inLoop Sv,.inBlock 4,.code Wj,.inBlock 3,.code Vl,.inLoop Pn,.inBlock 2,.code Td] rfl rfl<|Ah rfl<|Ah rfl<|Ac rfl rfl<|Aa 0 rfl (Ad rfl) gn rfl ?_
               refine Aa 1 rfl (Dj Jc rfl h9415.hq) gn rfl<|Aa 2 rfl (Be rfl rfl rfl) gn rfl<|Aj 3 rfl ?_
               have j8:∀ (x9740:Bool) (h:Ku x9409 x9408 x8817 x8810 x9740 o4) ,G (Cj w F r) [.code q8c126,.inBlock 5,.code Vh,.inLoop Sv,.inBlock 4,.code Wj,.inBlock 3,.code Vl,.inLoop Pn,.inBlock 2,.code Td] [(1,.slice A11 n12 c13),(7,.slice A89 n90 c91),(9,.slice A6736 n6737 c6738),(10,.slice A457 n458 c459),(16,.slice A6743 n6744 c6745),(17,.int .i64 x6751),(18,.slice A8811 n8812 c8813),(19,.slice A8309 n8310 c8311),(20,.int .i64 x9408),(21,.bool x9740),(22,.int .i64 x8817),(23,.slice A9410 n9411 c9412)] [.own (.slice A8309 n8310 c8311) 3 1 n8310 (r8307.flatMap (eI .i64)),.own (.slice A8811 n8812 c8813) 3 1 n8812 (x8810.flatMap (eI .i64)),.own (.slice A6743 n6744 c6745) 38 1 n6744 cs6747,.own (.slice A457 n458 c459) 31 1 n458 cs461,.own (.slice A89 n90 c91) 38 1 n90 cs94] [Sm w.heap.size F sw9413 sb9414,Sm w.heap.size F w8293 sb8297,Sm w.heap.size F sw6739 sb6740,Sm w.heap.size F sw6748 sb6749,Sm w.heap.size F sw462 sb463,Sm w.heap.size F w120 sb124,Sm w.heap.size F w96 sb100,Sm w.heap.size F w [],St w []]:=by
                intro x9740 h
                unfold Ku at h
                refine Ah rfl<|Ac rfl rfl<|Aa 0 rfl (Af rfl) gn rfl<|Aj 1 rfl<|Df rfl<|Io rfl ?_
                have key9:∀ s,Bl (fun (s:(List Int) × Int) o=>Ih x9409 x9408 x9740 x8817 s.1 s.2 o) s o4→(fun (s:(List Int) × Int)=>∀ (A9755:Option Addr) (n9756:Nat) (c9757:Nat) (h9758:Ow w.heap.size A9755 n9756 c9757 s.1),G (Cj w F r) [.code Xy,.inLoop Xy,.inBlock 8,.inBlock 5,.code Vh,.inLoop Sv,.inBlock 4,.code Wj,.inBlock 3,.code Vl,.inLoop Pn,.inBlock 2,.code Td] [(1,.slice A11 n12 c13),(7,.slice A89 n90 c91),(9,.slice A6736 n6737 c6738),(10,.slice A457 n458 c459),(16,.slice A6743 n6744 c6745),(17,.int .i64 x6751),(18,.slice A9755 n9756 c9757),(19,.slice A8309 n8310 c8311),(20,.int .i64 x9408),(21,.bool x9740),(22,.int .i64 x8817),(23,.slice A9410 n9411 c9412),(24,.int .i64 s.2)] [.own (.slice A8309 n8310 c8311) 3 1 n8310 (r8307.flatMap (eI .i64)),.own (.slice A9755 n9756 c9757) 3 1 n9756 (s.1.flatMap (eI .i64)),.own (.slice A6743 n6744 c6745) 38 1 n6744 cs6747,.own (.slice A457 n458 c459) 31 1 n458 cs461,.own (.slice A89 n90 c91) 38 1 n90 cs94] [Sm w.heap.size F sw9413 sb9414,Sm w.heap.size F w8293 sb8297,Sm w.heap.size F sw6739 sb6740,Sm w.heap.size F sw6748 sb6749,Sm w.heap.size F sw462 sb463,Sm w.heap.size F w120 sb124,Sm w.heap.size F w96 sb100,Sm w.heap.size F w [],St w []]) s:=by
                 intro s hs
                 refine Bl.ind (mot:=(fun (s:(List Int) × Int)=>∀ (A9755:Option Addr) (n9756:Nat) (c9757:Nat) (h9758:Ow w.heap.size A9755 n9756 c9757 s.1),G (Cj w F r) [.code Xy,.inLoop Xy,.inBlock 8,.inBlock 5,.code Vh,.inLoop Sv,.inBlock 4,.code Wj,.inBlock 3,.code Vl,.inLoop Pn,.inBlock 2,.code Td] [(1,.slice A11 n12 c13),(7,.slice A89 n90 c91),(9,.slice A6736 n6737 c6738),(10,.slice A457 n458 c459),(16,.slice A6743 n6744 c6745),(17,.int .i64 x6751),(18,.slice A9755 n9756 c9757),(19,.slice A8309 n8310 c8311),(20,.int .i64 x9408),(21,.bool x9740),(22,.int .i64 x8817),(23,.slice A9410 n9411 c9412),(24,.int .i64 s.2)] [.own (.slice A8309 n8310 c8311) 3 1 n8310 (r8307.flatMap (eI .i64)),.own (.slice A9755 n9756 c9757) 3 1 n9756 (s.1.flatMap (eI .i64)),.own (.slice A6743 n6744 c6745) 38 1 n6744 cs6747,.own (.slice A457 n458 c459) 31 1 n458 cs461,.own (.slice A89 n90 c91) 38 1 n90 cs94] [Sm w.heap.size F sw9413 sb9414,Sm w.heap.size F w8293 sb8297,Sm w.heap.size F sw6739 sb6740,Sm w.heap.size F sw6748 sb6749,Sm w.heap.size F sw462 sb463,Sm w.heap.size F w120 sb124,Sm w.heap.size F w96 sb100,Sm w.heap.size F w [],St w []])) ?_ hs
                 clear hs s
                 intro s o5 h hO5
                 obtain ⟨x9754,x9759⟩:=s
                 show ∀ (A9755:Option Addr) (n9756:Nat) (c9757:Nat) (h9758:Ow w.heap.size A9755 n9756 c9757 x9754),G (Cj w F r) [.code Xy,.inLoop Xy,.inBlock 8,.inBlock 5,.code Vh,.inLoop Sv,.inBlock 4,.code Wj,.inBlock 3,.code Vl,.inLoop Pn,.inBlock 2,.code Td] [(1,.slice A11 n12 c13),(7,.slice A89 n90 c91),(9,.slice A6736 n6737 c6738),(10,.slice A457 n458 c459),(16,.slice A6743 n6744 c6745),(17,.int .i64 x6751),(18,.slice A9755 n9756 c9757),(19,.slice A8309 n8310 c8311),(20,.int .i64 x9408),(21,.bool x9740),(22,.int .i64 x8817),(23,.slice A9410 n9411 c9412),(24,.int .i64 x9759)] [.own (.slice A8309 n8310 c8311) 3 1 n8310 (r8307.flatMap (eI .i64)),.own (.slice A9755 n9756 c9757) 3 1 n9756 (x9754.flatMap (eI .i64)),.own (.slice A6743 n6744 c6745) 38 1 n6744 cs6747,.own (.slice A457 n458 c459) 31 1 n458 cs461,.own (.slice A89 n90 c91) 38 1 n90 cs94] [Sm w.heap.size F sw9413 sb9414,Sm w.heap.size F w8293 sb8297,Sm w.heap.size F sw6739 sb6740,Sm w.heap.size F sw6748 sb6749,Sm w.heap.size F sw462 sb463,Sm w.heap.size F w120 sb124,Sm w.heap.size F w96 sb100,Sm w.heap.size F w [],St w []]
                 intro A9755 n9756 c9757 h9758
                 have h:Ih x9409 x9408 x9740 x8817 x9754 x9759 o5:=h
                 unfold Ih at h
                 refine Ah rfl<|Ah rfl<|Ac rfl rfl<|Aa 0 rfl (Ad rfl) gn rfl<|Aa 1 rfl (Ad rfl) gn rfl<|Aa 2 rfl (Dj Jc rfl h9415.hq) gn rfl<|Aa 3 rfl (Be rfl rfl rfl) gn rfl<|Aj 4 rfl ?_
                 by_cases hp9772:x9759 < (x9409.length:Int)
                 ·have h:=Ap hp9772 h
                  refine Bz rfl _ rfl ((decide_eq_true hp9772))<|Cb rfl<|Ah rfl<|Df rfl<|Ac rfl rfl<|Aa 0 rfl (Ad rfl) gn rfl<|Aa 1 rfl (Ad rfl) gn rfl<|Aa 2 rfl (Ad rfl) gn rfl ?_
                  obtain ⟨hb9773,h⟩:=h
                  have hr9774:=Rw.readF (s:=Sm w.heap.size F sw9413 sb9414) (hl:=(hlI .i64)) (h1:=(Ey .i64)) h9415 hb9773
                  refine Aa 3 rfl (F5 (s:=Sm w.heap.size F sw9413 sb9414) Jt rfl rfl h9415 hb9773) gn rfl<|Aa 4 rfl (Hq (kk:=(x9759:Int).toNat * 1) (j:=0) (Sm w.heap.size F sw9413 sb9414) H9 rfl hr9774 rfl (me 0 rfl)) gn rfl ?_
                  refine Cf 5 rfl (Gw (xs:=([ix x9409 x9759]:List Int)) [.int .i64 (ix x9409 x9759)] Rx rfl (by kernel_rfl) rfl rfl rfl rfl fun gb9776 h9777=>?_) gn
                  obtain ⟨x9781,hv9782,h⟩:=h
                  obtain ⟨hb9783,h⟩:=h
                  refine Cf 6 rfl (L8 (zs:=x9781) (cells':=x9781.flatMap (eI .i64)) 2 Zg rfl rfl rfl h9758 (Nat.le_refl _) (Src.ownF (hl:=(hlI .i64)) (h1:=(Ey .i64)) 0 rfl h9777) (by rw [hv9782,List.flatMap_append] <;> rfl) (Ff hv9782 h9777.hq) hb9783 rfl rfl fun A9778 c9779 h9780=>?_) gn
                  refine Aa 7 rfl (Af rfl) gn rfl<|Aj 8 rfl<|D7<|Ac rfl rfl<|Aa 0 rfl (Ad rfl) gn rfl<|Aa 1 rfl (Be rfl rfl rfl) gn rfl<|Aa 2 rfl (Af rfl) gn rfl<|Aj 3 rfl<|Dp ?_
                  have ih:=Out.inl hO5 h
                  exact Dc [0,1,2,3,4,5,6,7,8] (ih A9778 (n9756 + 1) c9779 h9780) ⟨rfl,rfl,rfl,rfl,rfl,rfl,rfl,rfl,rfl,rfl,rfl,rfl,rfl,trivial⟩ (.cons _ (.cons_cons _ (.cons_cons _ (.cons_cons _ (.cons_cons _ (.cons_cons _ (.slnil))))))) rfl
                 ·have h:=Aq hp9772 h
                  refine Bg rfl _ rfl ((decide_eq_false hp9772))<|Gp [.inBlock 5,.code Vh,.inLoop Sv,.inBlock 4,.code Wj,.inBlock 3,.code Vl,.inLoop Pn,.inBlock 2,.code Td] rfl rfl<|D7<|Ac rfl rfl<|Aa 0 rfl (Ad rfl) gn rfl<|Aa 1 rfl (Be rfl rfl rfl) gn rfl<|Aa 2 rfl (Af rfl) gn rfl<|Aj 3 rfl<|Dp ?_
                  have h:=Out.inr hO5 h
                  have h:=Out.inr hO4 h
                  have ih:=Out.inl hO3 h
                  exact Dc [1,2,3,4,5,6,7,8] (ih A9755 n9756 c9757 h9758) ⟨rfl,rfl,rfl,rfl,rfl,rfl,rfl,rfl,rfl,rfl,rfl,trivial⟩ (.cons_cons _ (.cons_cons _ (.cons_cons _ (.cons_cons _ (.cons_cons _ (.slnil)))))) rfl
                exact Dc [0,1,2,3,4,5,6,7,8] (key9 _ h A8811 n8812 c8813 h8814) ⟨rfl,rfl,rfl,rfl,rfl,rfl,rfl,rfl,rfl,rfl,rfl,rfl,rfl,trivial⟩ (.cons_cons _ (.cons_cons _ (.cons_cons _ (.cons_cons _ (.cons_cons _ (.slnil)))))) rfl
               by_cases hp9738:(x9409.length:Int)=0
               ·have h:=Ap hp9738 h
                refine Bz rfl _ rfl ((eqi hp9738))<|Ac rfl rfl<|Aa 0 rfl (Af rfl) gn rfl<|Aj 1 rfl ?_
                exact Dc [0,1,2,3,4,5,6,7,8] (j8 false h) ⟨rfl,rfl,rfl,rfl,rfl,rfl,rfl,rfl,rfl,rfl,rfl,rfl,trivial⟩ (.cons_cons _ (.cons_cons _ (.cons_cons _ (.cons_cons _ (.cons_cons _ (.slnil)))))) rfl
               ·have h:=Aq hp9738 h
                refine Bg rfl _ rfl ((nei hp9738))<|Cb rfl ?_
                exact Dc [0,1,2,3,4,5,6,7,8] (j8 x8816 h) ⟨rfl,rfl,rfl,rfl,rfl,rfl,rfl,rfl,rfl,rfl,rfl,rfl,trivial⟩ (.cons_cons _ (.cons_cons _ (.cons_cons _ (.cons_cons _ (.cons_cons _ (.slnil)))))) rfl
             exact Dc [6,0,1,2,3,4,5,6,7] (key6 _ h none 0 0 w [] Rw.nil) ⟨rfl,rfl,rfl,rfl,rfl,rfl,rfl,rfl,rfl,rfl,rfl,rfl,trivial⟩ (.cons_cons _ (.cons_cons _ (.cons_cons _ (.cons_cons _ (.cons_cons _ (.slnil)))))) rfl
            ·have h:=Aq hp9311 h
             refine Bg rfl _ rfl ((decide_eq_false hp9311))<|Gp [.code Wj,.inBlock 3,.code Vl,.inLoop Pn,.inBlock 2,.code Td] rfl rfl<|Ah rfl<|Ac rfl rfl<|Aa 0 rfl (Ad rfl) gn rfl<|Aj 1 rfl ?_
             by_cases hp9784:x8816=true
             ·have h:=Ap hp9784 h
              refine Bz rfl _ rfl (hp9784)<|Ac rfl rfl<|Aa 0 rfl (Ad rfl) gn rfl<|Aa 1 rfl (Ad rfl) gn rfl<|Aa 2 rfl (J5 #[.slice A8811 n8812 c8813] bd_38 rfl (by kernel_rfl)) gn rfl ?_
              refine Xe0 (F:=F) (dk:=(G8 .i64)) (Sm w.heap.size F w []) 1 rfl h8814 (me 6 rfl) Sm.ok (Cells.flat _) fun sw9786 sb9787 h9785=>?_
              have hC9789:Cells Dy (Sm w.heap.size F sw9786 sb9787).w (Sm w.heap.size F sw9786 sb9787).av ([(⟨x8810⟩:Bq)]:List Bq) [.slice A8811 n8812 c8813]:=(Cells.cons (c1:=[.slice A8811 n8812 c8813]) ⟨A8811,n8812,c8813,rfl,h9785⟩ Cells.nil)
              refine Cf 3 rfl (Gw (xs:=([(⟨x8810⟩:Bq)]:List Bq)) [.slice A8811 n8812 c8813] Xmk rfl (by kernel_rfl) rfl rfl rfl rfl fun gb9790 h9791=>?_) gn
              obtain ⟨x9798,hv9799,h⟩:=h
              obtain ⟨hb9800,h⟩:=h
              refine Xli (F:=F) fun sw9795 sb9796 ho9797=>?_
              obtain ⟨cs9801,hc9802⟩:∃ x:List Value,x=cs6747++[.slice A8811 n8812 c8813]:=⟨_,rfl⟩
              have hC9803:Cells Dy (Sm w.heap.size F sw9795 sb9796).w (Sm w.heap.size F sw9795 sb9796).av x9798 cs9801:=by rw [hv9799,hc9802]; exact Cells.app (Cells.older (s:=Sm w.heap.size F sw6748 sb6749) hC6750 (ho9797 _ (me 3 rfl) Sm.ok)) (Cells.older (s:=Sm w.heap.size F sw9786 sb9787) hC9789 (ho9797 _ (me 0 rfl) Sm.ok))
              refine Cf 4 rfl (L8 (zs:=x9798) 2 ap_31 rfl rfl rfl h6746 (Nat.le_refl _) (Src.ownAll 0 rfl h9791 hC9789) hc9802.symm (Ff hv9799 h9791.hq) hb9800 rfl rfl fun A9792 c9793 h9794=>?_) gn
              refine Aa 5 rfl (Af rfl) gn rfl<|Aj 6 rfl<|D7<|Ac rfl rfl<|Aa 0 rfl (Ad rfl) gn rfl<|Aa 1 rfl (Be rfl rfl rfl) gn rfl<|Aa 2 rfl (Af rfl) gn rfl<|Aj 3 rfl<|Dp ?_
              have h:=Out.inr hO3 h
              have ih:=Out.inl hO2 h
              exact Dc [3,0,5,6,7,8,9] (ih A6736 n6737 c6738 sw6739 sb6740 h6741 A9792 (n6744 + 1) c9793 h9794 cs9801 sw9795 sb9796 hC9803) ⟨rfl,rfl,rfl,rfl,rfl,rfl,trivial⟩ (.cons _ (.cons _ (.cons_cons _ (.cons_cons _ (.cons_cons _ (.slnil)))))) rfl
             ·have h:=Aq hp9784 h
              refine Bg rfl _ rfl ((bf hp9784))<|Cb rfl<|D7<|Ac rfl rfl<|Aa 0 rfl (Ad rfl) gn rfl<|Aa 1 rfl (Be rfl rfl rfl) gn rfl<|Aa 2 rfl (Af rfl) gn rfl<|Aj 3 rfl<|Dp ?_
              have h:=Out.inr hO3 h
              have ih:=Out.inl hO2 h
              exact Dc [1,2,3,4,5,6,7] (ih A6736 n6737 c6738 sw6739 sb6740 h6741 A6743 n6744 c6745 h6746 cs6747 sw6748 sb6749 hC6750) ⟨rfl,rfl,rfl,rfl,rfl,rfl,trivial⟩ (.cons _ (.cons _ (.cons_cons _ (.cons_cons _ (.cons_cons _ (.slnil)))))) rfl
           exact Dc [0,1,2,3,4,5,6,7] (key5 _ h (some ⟨gb8302,0,none⟩) 1 1 h8303) ⟨rfl,rfl,rfl,rfl,rfl,rfl,rfl,rfl,rfl,rfl,rfl,trivial⟩ (.cons_cons _ (.cons_cons _ (.cons_cons _ (.cons_cons _ (.cons_cons _ (.slnil)))))) rfl
         ·have h:=Aq hp8282 h
          refine Bg rfl _ rfl ((decide_eq_false hp8282))<|Gp [.code Td] rfl rfl<|Ah rfl<|Ac rfl rfl<|Aa 0 rfl (Ad rfl) gn rfl<|Aa 1 rfl (Ad rfl) gn rfl ?_
          obtain ⟨r9807,hv9808,h⟩:=h
          refine Cf 2 rfl (D8 [.slice A89 n90 c91,.slice A6743 n6744 c6745] rfl Tryd.func18 rfl rfl rfl fun w9804 hL9805=>?_) gn
          have hp9806:=pmI hL9805 .n (.c 0 rfl (.c 1 rfl (.c 2 rfl .n))) (by kernel_rfl)
          refine Calls.mono (Xt w9804 (Fl ([]:List Cc)) r87 x6742 A89 n90 c91 A6743 n6744 c6745 (hL9805.argO (dk:=Dy) hp9806 [] rfl 2 rfl rfl (Ow.weak hL85.env.size h92) (me 4 rfl) hC95) (hL9805.argO (dk:=Dy) hp9806 [] rfl 0 rfl rfl h6746 (me 1 rfl) hC6750) (hL9805.hFl hp9806 (Bi [] rfl)) (hL9805.into hp9806 _) r9807 hv9808) ?_
          rintro _ w9809 ⟨rfl,hM9810⟩
          have hL9811:=hL9805.call hp9806 hM9810
          refine ⟨_,_,_,rfl,hL9811,?_⟩
          refine Aa 3 rfl (Af rfl) gn rfl<|Aj 4 rfl ?_
          have h:=Out.inr hO2 h
          have h:=Out.inr hO1 h
          refine C9 [.bool r9807] rfl Tryd.func8 rfl (.tmp rfl (.nil)) fun wr hLr=>?_
          have hMr:=hLr.pk0 (.c 6 rfl .n)
          show Ho w F  r (.returned (Ci [.bool r9807])) wr
          rw [h]
          exact ⟨rfl,hMr⟩
        refine g_freeze (F:=F) (dk:=Dy) (Sm w.heap.size F w120 sb124) 1 rfl (Ow.weak hL109.env.size h116) (me 1 rfl) Sm.ok hC119 fun sw9813 sb9814 h9812=>?_
        refine Nr 38 1 ?_
        exact Dc [0,4,1,2,3,4,5] (key4 _ h A113 n114 c115 sw9813 sb9814 h9812 none 0 0 (Ow.nil (z:=w.heap.size)) [] w [] Cells.nil) ⟨rfl,rfl,rfl,rfl,rfl,rfl,trivial⟩ (.cons_cons _ (.cons_cons _ (.cons_cons _ (.cons _ (.slnil))))) rfl
      refine Nr 31 1 ?_
      exact Dc [2,0,1,2,3] (key3 _ h none 0 0 (Ow.nil (z:=w.heap.size)) [] w [] Cells.nil) ⟨rfl,rfl,rfl,rfl,rfl,rfl,rfl,rfl,trivial⟩ (.cons_cons _ (.cons_cons _ (.cons _ (.cons _ (.cons_cons _ (.cons_cons _ (.slnil))))))) rfl
    refine Ac rfl rfl<|Aa 0 rfl (Nj [.slice A2 n3 c4,.slice A6 n7 c8] 0 U4 rfl rfl rfl rfl) gn rfl ?_
    obtain ⟨r9818,hv9819,h⟩:=h
    refine Cf 1 rfl (D8 [.agg #[.slice A2 n3 c4,.slice A6 n7 c8]] rfl Tryd.func24 rfl rfl rfl fun w9815 hL9816=>?_) gn
    have hp9817:=pmI hL9816 .n (.c 0 rfl .n) (by kernel_rfl)
    refine Calls.mono (Uw w9815 (Fl ([]:List Cc)) x1 A2 n3 c4 A6 n7 c8 (Rw.mono h5 (hL9816.toSt hp9817 (me 1 rfl))) (Rw.mono h9 (hL9816.toSt hp9817 (me 1 rfl))) (hL9816.tb hp9817 hG (me 1 rfl)) (hL9816.hFl hp9817 (Bi [] rfl)) (hL9816.into hp9817 _) r9818 hv9819) ?_
    rintro _ w9820 ⟨rfl,hM9821⟩
    have hL9822:=hL9816.call hp9817 hM9821
    refine ⟨_,_,_,rfl,hL9822,?_⟩
    refine Aa 2 rfl (Qv rfl) gn rfl<|Aa 3 rfl (Ad rfl) gn rfl ?_
    by_cases hp9823:r9818=true
    ·have h:=Ap hp9823 h
     refine Bv 37 rfl ((nf hp9823))<|Aa 4 rfl (Ad rfl) (gy 37 rfl rfl) rfl ?_
     obtain ⟨r9827,hv9828,h⟩:=h
     refine Cf 5 rfl (D8 [.slice A11 n12 c13] rfl Tryd.func30 rfl rfl rfl fun w9824 hL9825=>?_) (gy 37 rfl rfl)
     have hp9826:=pmI hL9825 .n (.c 0 rfl .n) (by kernel_rfl)
     refine Calls.mono (Xa3 w9824 (Fl ([]:List Cc)) x10 A11 n12 c13 (Rw.mono h14 (hL9825.toSt hp9826 (me 1 rfl))) (hL9825.hFl hp9826 (Bi [] rfl)) (hL9825.into hp9826 _) r9827 hv9828) ?_
     rintro _ w9829 ⟨rfl,hM9830⟩
     have hL9831:=hL9825.call hp9826 hM9830
     refine ⟨_,_,_,rfl,hL9831,?_⟩
     refine Aa 6 rfl (Be rfl rfl rfl) (gy 37 rfl rfl) rfl<|Aa 7 rfl (Bd (b:=false) rfl rfl) gn rfl<|Aj 8 rfl ?_
     exact Dc [0,1] (j2 (decide (r9827 < 0)) h) ⟨rfl,rfl,rfl,rfl,trivial⟩ (.cons_cons _ (.slnil)) rfl
    ·have h:=Aq hp9823 h
     refine Bv 37 rfl ((nt (bf hp9823)))<|Ae 4 rfl (ps 37 rfl rfl rfl)<|Ae 5 rfl (ps 37 rfl rfl rfl)<|Ae 6 rfl (ps 37 rfl rfl rfl)<|Aa 7 rfl (Bd (b:=true) rfl rfl) gn rfl<|Aj 8 rfl ?_
     exact Dc [0,1] (j2 true h) ⟨rfl,rfl,rfl,rfl,trivial⟩ (.cons_cons _ (.slnil)) rfl
  refine Ac rfl rfl<|Aa 0 rfl (Aw J4 rfl) gn rfl<|Aa 1 rfl (Au 0 Rl rfl rfl rfl) gn rfl ?_
  obtain ⟨r9835,hv9836,h⟩:=h
  refine Cf 2 rfl (D8 [.slice A2 n3 c4] rfl Tryd.func10 rfl rfl rfl fun w9832 hL9833=>?_) gn
  have hp9834:=pmI hL9833 .n (.c 0 rfl .n) (by kernel_rfl)
  refine Calls.mono (Yy w9832 (Fl ([]:List Cc)) x1.nodes A2 n3 c4 (Rw.mono h5 (hL9833.toSt hp9834 (me 1 rfl))) (hL9833.hFl hp9834 (Bi [] rfl)) (hL9833.into hp9834 _) r9835 hv9836) ?_
  rintro _ w9837 ⟨rfl,hM9838⟩
  have hL9839:=hL9833.call hp9834 hM9838
  refine ⟨_,_,_,rfl,hL9839,?_⟩
  refine Aa 3 rfl (Ad rfl) gn rfl ?_
  by_cases hp9840:r9835=true
  ·have h:=Ap hp9840 h
   refine Bv 30 rfl (hp9840)<|Ae 4 rfl (ps 30 rfl rfl rfl)<|Ae 5 rfl (ps 30 rfl rfl rfl)<|Aa 6 rfl (Bd (b:=true) rfl rfl) gn rfl<|Aj 7 rfl ?_
   exact Dc [0,1] (j1 true h) ⟨rfl,rfl,rfl,rfl,trivial⟩ (.cons_cons _ (.slnil)) rfl
  ·have h:=Aq hp9840 h
   refine Bv 30 rfl ((bf hp9840))<|Aa 4 rfl (Ad rfl) (gy 30 rfl rfl) rfl ?_
   obtain ⟨r9844,hv9845,h⟩:=h
   refine Cf 5 rfl (D8 [.slice A11 n12 c13] rfl Tryd.func11 rfl rfl rfl fun w9841 hL9842=>?_) (gy 30 rfl rfl)
   have hp9843:=pmI hL9842 .n (.c 0 rfl .n) (by kernel_rfl)
   refine Calls.mono (Yw w9841 (Fl ([]:List Cc)) x10 A11 n12 c13 (Rw.mono h14 (hL9842.toSt hp9843 (me 1 rfl))) (hL9842.hFl hp9843 (Bi [] rfl)) (hL9842.into hp9843 _) r9844 hv9845) ?_
   rintro _ w9846 ⟨rfl,hM9847⟩
   have hL9848:=hL9842.call hp9843 hM9847
   refine ⟨_,_,_,rfl,hL9848,?_⟩
   refine Aa 6 rfl (Bd (b:=false) rfl rfl) gn rfl<|Aj 7 rfl ?_
   exact Dc [0,1] (j1 r9844 h) ⟨rfl,rfl,rfl,rfl,trivial⟩ (.cons_cons _ (.slnil)) rfl
 ·have h:=Aq hp26 h
  refine Bz rfl _ rfl ((nt (bf hp26)))<|Ah rfl<|Ac rfl rfl<|Aa 0 rfl (Af rfl) gn rfl<|Aj 1 rfl ?_
  refine C9 [.bool false] rfl Tryd.func8 rfl (.tmp rfl (.nil)) fun wr hLr=>?_
  have hMr:=hLr.pk0 (.c 1 rfl .n)
  show Ho w F  r (.returned (Ci [.bool false])) wr
  rw [h]
  exact ⟨rfl,hMr⟩
end Go.Proofs.YtjookebbmfiidaaDoor.K
