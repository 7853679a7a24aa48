/- What the machine's calls do, function by function, printed by my own tool. Condition of each: its relation holds of the answer, and what is handed in lies in memory as told. -/
import Derived.Test.YtjookebbmfiidaaDoorK7
set_option linter.unusedVariables false
set_option maxRecDepth 100000
set_option maxHeartbeats 4000000
namespace Go.Proofs.YtjookebbmfiidaaDoor.K
open Go.Proofs.YtjookebbmfiidaaDoor.B Go.Proofs.YtjookebbmfiidaaDoor.R Go.RowKit
noncomputable abbrev q7c10:=Code.snd (Code.snd (Code.snd (Dt Tryd.f7)))
noncomputable abbrev q7c12:=Code.snd (Code.fst (Code.snd (Code.snd (Dt Tryd.f7))))
noncomputable abbrev q7c20:=Code.snd (Code.snd q7c10)
noncomputable abbrev q7c22:=Code.snd (Code.fst (Code.snd q7c10))
noncomputable abbrev Xb3:=Code.snd (Code.snd (Code.snd q7c20))
noncomputable abbrev X9:=Code.fst (Code.fst (Code.snd (Code.fst (Code.snd (Code.snd q7c20)))))
noncomputable abbrev Xh7:=Code.snd (Code.snd X9)
noncomputable abbrev q7c48:=Code.fst (Code.fst (Code.fst (Code.fst (Code.snd X9))))
noncomputable abbrev Xg0:=Code.snd (Code.snd (Code.snd (Code.fst (Code.fst (Code.snd X9)))))
noncomputable abbrev Zy:=Code.fst (Code.fst (Code.snd (Code.fst (Code.snd (Code.snd (Code.fst (Code.fst (Code.snd X9))))))))
noncomputable abbrev q7c67:=Code.snd (Code.snd Zy)
noncomputable abbrev q7c71:=Code.fst (Code.snd (Code.fst (Code.fst (Code.snd Zy))))
noncomputable abbrev q7c76:=Code.snd (Code.snd (Code.snd (Code.snd (Code.fst (Code.fst (Code.snd Zy))))))
noncomputable abbrev q7c79:=Code.fst (Code.snd (Code.fst (Code.snd (Code.snd (Code.snd (Code.fst (Code.fst (Code.snd Zy))))))))
noncomputable abbrev q7c82:=Code.snd q7c76
noncomputable abbrev q7c84:=Code.snd (Code.fst q7c76)
noncomputable abbrev q7c92:=Code.snd (Code.snd q7c82)
noncomputable abbrev q7c97:=Code.fst q7c92
abbrev Ey (w:World) (F:Nat→Prop) (r:Bool):Ending→World→Prop:=fun e w'=>e=.returned (.bool r)∧B.Loc w w' [] [St w []]
noncomputable abbrev Dv (w:World) (F:Nat→Prop) (r:Bool):Cx:=⟨Tryd.prog,7,Tryd.f7,152,Ey w F  r,w⟩
theorem Xf (w:World) (F:Nat→Prop) (x1:Ar) (x10:List Az) (x15:ByteArray) (A2:Option Addr) (n3:Nat) (c4:Nat) (A6:Option Addr) (n7:Nat) (c8:Nat) (A11:Option Addr) (n12:Nat) (c13:Nat) (h5:Rw Dn w (St w []).av A2 n3 c4 x1.nodes) (h9:Rw Fv w (St w []).av A6 n7 c8 x1.conds) (h14:Rw Ew w (St w []).av A11 n12 c13 x10) (hG:Tb Tryd.prog (St w [])) (hF:∀ b,F b→b < w.heap.size∧∀ o ∈ ([]:List (List Nat)),b ∉ o) (hL0:B.Loc w w [] [Sm w.heap.size F w [],St w []]) (r:Bool) (h:Md x1 x10 x15 r):Calls Tryd.prog 7 #[.agg #[.slice A2 n3 c4,.slice A6 n7 c8],.slice A11 n12 c13,.string x15] w (Ey w F  r):=by
 unfold Md at h
 refine Cc (vs:=[.agg #[.slice A2 n3 c4,.slice A6 n7 c8],.slice A11 n12 c13,.string x15]) 152 Tryd.func7 rfl Tryd.ntmps7 rfl hL0 ?_
 show G (Dv w F r) _ _ _ _
 refine Ah rfl<|Ac rfl rfl ?_
 refine Ci 0 rfl (Tu [.slice A2 n3 c4,.slice A6 n7 c8] rfl rfl rfl fun gb16=>?_) gn
 refine Aa 1 rfl (Af rfl) gn rfl<|Aj 2 rfl<|Ah rfl<|Ah rfl<|Ac rfl rfl ?_
 obtain ⟨r21,hv22,h⟩:=h
 refine Ci 0 rfl (D7 [] rfl Tryd.func27 rfl rfl rfl fun w18 hL19=>?_) gn
 have hp20:=pmI hL19 .n (.c 0 rfl .n) (by kernel_rfl)
 refine Calls.mono (Yd w18 (Fl ([]:List Cb)) (hL19.tb hp20 hG (me 1 rfl)) (hL19.hFl hp20 (Bg [] rfl)) (hL19.into hp20 _) r21 hv22) ?_
 rintro _ w23 ⟨rfl,hM24⟩
 have hL25:=hL19.call hp20 hM24
 refine ⟨_,_,_,rfl,hL25,?_⟩
 refine Aa 1 rfl (Qu rfl) gn rfl<|Aj 2 rfl ?_
 by_cases hp26:r21=true
 ·have h:=Ap hp26 h
  refine Bi rfl _ rfl ((nf hp26))<|C9 rfl<|Ah rfl<|Ah rfl ?_
  have j1:∀ (x45:Bool) (h:Ff x1 x10 x15 x45 r) ,G (Dv w F r) [.code q7c12,.code q7c10] [(1,.slice A11 n12 c13),(2,.string x15),(3,.pointer (some ⟨gb16,0,none⟩)),(25,.bool x45)] [.box gb16 25 [.slice A2 n3 c4,.slice A6 n7 c8]] [Sm w.heap.size F w [],St w []]:=by
   intro x45 h
   unfold Ff at h
   by_cases hp46:x45=true
   ·have h:=Ap hp46 h
    refine Bv rfl _ rfl (hp46)<|Ah rfl<|Ac rfl rfl<|Aa 0 rfl (Af rfl) gn rfl<|Aj 1 rfl ?_
    refine Bq [.bool true] rfl Tryd.func7 rfl (.tmp rfl (.nil)) fun wr hLr=>?_
    have hMr:=hLr.pk0 (.c 1 rfl .n)
    show Ey w F  r (.returned (Ce [.bool true])) wr
    rw [h]
    exact ⟨rfl,hMr⟩
   ·have h:=Am hp46 h
    refine Bi rfl _ rfl ((bf hp46))<|C9 rfl<|Ah rfl<|Ac rfl rfl<|Aa 0 rfl (O6 [.slice A2 n3 c4,.slice A6 n7 c8] 0 V5 rfl rfl rfl rfl) gn rfl<|Aa 1 rfl (Ad rfl) gn rfl<|Aa 2 rfl (Ad rfl) gn rfl ?_
    obtain ⟨r50,hv51,h⟩:=h
    refine Ci 3 rfl (D7 [.agg #[.slice A2 n3 c4,.slice A6 n7 c8],.slice A11 n12 c13,.string x15] rfl Tryd.func17 rfl rfl rfl fun w47 hL48=>?_) gn
    have hp49:=pmI hL48 .n (.c 0 rfl .n) (by kernel_rfl)
    refine Calls.mono (Ub w47 (Fl ([]:List Cb)) x1 x10 x15 A2 n3 c4 A6 n7 c8 A11 n12 c13 (Rw.mono h5 (hL48.toSt hp49 (me 1 rfl))) (Rw.mono h9 (hL48.toSt hp49 (me 1 rfl))) (Rw.mono h14 (hL48.toSt hp49 (me 1 rfl))) (hL48.tb hp49 hG (me 1 rfl)) (hL48.hFl hp49 (Bg [] rfl)) (hL48.into hp49 _) r50 hv51) ?_
    rintro _ w59 ⟨A52,n53,c54,cs57,rfl,hM60,h55,hC58⟩
    obtain ⟨sb63,hL61,hv62⟩:=hL48.callB (Sl:=([]:List Cb)) hp49 hM60 F (Bg [] rfl) trivial
    have hC58:Cells G9 (Sm w.heap.size F w59 sb63).w (Sm w.heap.size F w59 sb63).av r50 cs57:=Cells.mono hv62 hC58
    refine ⟨_,_,_,rfl,hL61,?_⟩
    refine Aa 4 rfl (Af rfl) gn rfl<|Aj 5 rfl<|Ah rfl<|Ah rfl ?_
    have j2:∀ (x83:Bool) (h:Fg r50 x1 x10 x15 x83 r) ,G (Dv w F r) [.code q7c22,.code q7c20] [(1,.slice A11 n12 c13),(2,.string x15),(3,.pointer (some ⟨gb16,0,none⟩)),(7,.slice A52 n53 c54),(37,.bool x83)] [.own (.slice A52 n53 c54) 38 1 n53 cs57,.box gb16 25 [.slice A2 n3 c4,.slice A6 n7 c8]] [Sm w.heap.size F w59 sb63,Sm w.heap.size F w [],St w []]:=by
     intro x83 h
     unfold Fg at h
     by_cases hp84:x83=true
     ·have h:=Ap hp84 h
      refine Bv rfl _ rfl (hp84)<|Ah rfl<|Ac rfl rfl<|Aa 0 rfl (Ad rfl) gn rfl<|Aa 1 rfl (Di Xgj rfl (Ow.weak hL48.env.size h55).hq) gn rfl<|Aa 2 rfl (Be rfl rfl rfl) gn rfl<|Aa 3 rfl (Af rfl) gn rfl<|Aj 4 rfl ?_
      refine Bq [.bool ((r50.length:Int) == 0)] rfl Tryd.func7 rfl (.tmp rfl (.nil)) fun wr hLr=>?_
      have hMr:=hLr.pk0 (.c 2 rfl .n)
      show Ey w F  r (.returned (Ce [.bool ((r50.length:Int) == 0)])) wr
      rw [h]
      exact ⟨rfl,hMr⟩
     ·have h:=Am hp84 h
      refine Bi rfl _ rfl ((bf hp84))<|C9 rfl<|Ah rfl<|Ac rfl rfl<|Aa 0 rfl (Aw Kr rfl) gn rfl<|Aa 1 rfl (Aq 1 Tq rfl rfl rfl) gn rfl<|Aa 2 rfl (Jg #[.slice A2 n3 c4,.slice none 0 0] bd_25 rfl (by kernel_rfl)) gn rfl<|Aa 3 rfl (Ad rfl) gn rfl<|Aa 4 rfl (Ad rfl) gn rfl ?_
      obtain ⟨r88,hv89,h⟩:=h
      refine Ci 5 rfl (D7 [.agg #[.slice A2 n3 c4,.slice none 0 0],.slice A11 n12 c13,.string x15] rfl Tryd.func17 rfl rfl rfl fun w85 hL86=>?_) gn
      have hp87:=pmI hL86 .n (.c 0 rfl (.c 1 rfl .n)) (by kernel_rfl)
      refine Calls.mono (Ub w85 (Fl ([]:List Cb)) (⟨x1.nodes,([]:List Bh)⟩:Ar) x10 x15 A2 n3 c4 none 0 0 A11 n12 c13 (Rw.mono h5 (hL86.toSt hp87 (me 2 rfl))) Rw.nil (Rw.mono h14 (hL86.toSt hp87 (me 2 rfl))) (hL86.tb hp87 hG (me 2 rfl)) (hL86.hFl hp87 (Bg [] rfl)) (hL86.into hp87 _) r88 hv89) ?_
      rintro _ w97 ⟨A90,n91,c92,cs95,rfl,hM98,h93,hC96⟩
      obtain ⟨sb101,hL99,hv100⟩:=hL86.callB (Sl:=([]:List Cb)) hp87 hM98 F (Bg [] rfl) trivial
      have hC96:Cells G9 (Sm w.heap.size F w97 sb101).w (Sm w.heap.size F w97 sb101).av r88 cs95:=Cells.mono hv100 hC96
      refine ⟨_,_,_,rfl,hL99,?_⟩
      refine Aa 6 rfl (Af rfl) gn rfl<|Aj 7 rfl<|Ah rfl<|Ac rfl rfl<|Aa 0 rfl (Af rfl) gn rfl<|Aj 1 rfl<|Ah rfl<|Ah rfl<|Ac rfl rfl<|Aa 0 rfl (Af rfl) gn rfl<|Aj 1 rfl<|Dj rfl ?_
      refine Kw rfl ?_
      have key3:∀ s,Bl (fun (s:(List Cj) × Int) o=>Fe r88 x1 x10 x15 r50 s.1 s.2 o) s r→(fun (s:(List Cj) × Int)=>∀ (A1098:Option Addr) (n1099:Nat) (c1100:Nat) (h1101:Ow w.heap.size A1098 n1099 c1100 s.1) (cs1102:List Value) (sw1103:World) (sb1104:List (List Nat)) (hC1105:Cells G9 (Sm w.heap.size F sw1103 sb1104).w (Sm w.heap.size F sw1103 sb1104).av s.1 cs1102),G (Dv w F r) [.code X9,.inLoop X9,.inBlock 0,.code Xb3] [(1,.slice A11 n12 c13),(2,.string x15),(3,.pointer (some ⟨gb16,0,none⟩)),(7,.slice A52 n53 c54),(8,.slice A90 n91 c92),(9,.slice A1098 n1099 c1100),(10,.int .i64 s.2)] [.own (.slice A1098 n1099 c1100) 38 1 n1099 cs1102,.own (.slice A90 n91 c92) 38 1 n91 cs95,.own (.slice A52 n53 c54) 38 1 n53 cs57,.box gb16 25 [.slice A2 n3 c4,.slice A6 n7 c8]] [Sm w.heap.size F sw1103 sb1104,Sm w.heap.size F w97 sb101,Sm w.heap.size F w59 sb63,Sm w.heap.size F w [],St w []]) s:=by
       intro s hs
       refine Bl.ind (mot:=(fun (s:(List Cj) × Int)=>∀ (A1098:Option Addr) (n1099:Nat) (c1100:Nat) (h1101:Ow w.heap.size A1098 n1099 c1100 s.1) (cs1102:List Value) (sw1103:World) (sb1104:List (List Nat)) (hC1105:Cells G9 (Sm w.heap.size F sw1103 sb1104).w (Sm w.heap.size F sw1103 sb1104).av s.1 cs1102),G (Dv w F r) [.code X9,.inLoop X9,.inBlock 0,.code Xb3] [(1,.slice A11 n12 c13),(2,.string x15),(3,.pointer (some ⟨gb16,0,none⟩)),(7,.slice A52 n53 c54),(8,.slice A90 n91 c92),(9,.slice A1098 n1099 c1100),(10,.int .i64 s.2)] [.own (.slice A1098 n1099 c1100) 38 1 n1099 cs1102,.own (.slice A90 n91 c92) 38 1 n91 cs95,.own (.slice A52 n53 c54) 38 1 n53 cs57,.box gb16 25 [.slice A2 n3 c4,.slice A6 n7 c8]] [Sm w.heap.size F sw1103 sb1104,Sm w.heap.size F w97 sb101,Sm w.heap.size F w59 sb63,Sm w.heap.size F w [],St w []])) ?_ hs
       clear hs s
       intro s o1 h hO1
       obtain ⟨x1097,x1106⟩:=s
       show ∀ (A1098:Option Addr) (n1099:Nat) (c1100:Nat) (h1101:Ow w.heap.size A1098 n1099 c1100 x1097) (cs1102:List Value) (sw1103:World) (sb1104:List (List Nat)) (hC1105:Cells G9 (Sm w.heap.size F sw1103 sb1104).w (Sm w.heap.size F sw1103 sb1104).av x1097 cs1102),G (Dv w F r) [.code X9,.inLoop X9,.inBlock 0,.code Xb3] [(1,.slice A11 n12 c13),(2,.string x15),(3,.pointer (some ⟨gb16,0,none⟩)),(7,.slice A52 n53 c54),(8,.slice A90 n91 c92),(9,.slice A1098 n1099 c1100),(10,.int .i64 x1106)] [.own (.slice A1098 n1099 c1100) 38 1 n1099 cs1102,.own (.slice A90 n91 c92) 38 1 n91 cs95,.own (.slice A52 n53 c54) 38 1 n53 cs57,.box gb16 25 [.slice A2 n3 c4,.slice A6 n7 c8]] [Sm w.heap.size F sw1103 sb1104,Sm w.heap.size F w97 sb101,Sm w.heap.size F w59 sb63,Sm w.heap.size F w [],St w []]
       intro A1098 n1099 c1100 h1101 cs1102 sw1103 sb1104 hC1105
       have h:Fe r88 x1 x10 x15 r50 x1097 x1106 o1:=h
       unfold Fe at h
       refine Ah rfl<|Ah rfl<|Ac rfl rfl<|Aa 0 rfl (Ad rfl) gn rfl<|Aa 1 rfl (Ad rfl) gn rfl<|Aa 2 rfl (Di Xgj rfl (Ow.weak hL86.env.size h93).hq) gn rfl<|Aa 3 rfl (Be rfl rfl rfl) gn rfl<|Aj 4 rfl ?_
       by_cases hp2098:x1106 < (r88.length:Int)
       ·have h:=Ap hp2098 h
        refine Bv rfl _ rfl ((decide_eq_true hp2098))<|C9 rfl<|Ah rfl<|Dj rfl<|Ah rfl<|Ah rfl ?_
        obtain ⟨hb2099,h⟩:=h
        have hns:Region.noSelect (Code.ops q7c48)=true:=by kernel_rfl
        refine Fh [] 10 rfl rfl mix rfl (.c 0 rfl (.c 1 rfl (.c 2 rfl (.c 3 rfl (.c 4 rfl .n)))))<|wfv 0 rfl (Ad rfl) gn hns rfl<|wfv 1 rfl (Ad rfl) gn hns rfl ?_
        obtain ⟨ce2116,hK2117,ht2118,hg2119⟩:=Cells.get hC96 hb2099
        obtain ⟨A2120,n2121,c2122,rfl,h2123⟩:=hK2117
        refine wfv 2 rfl (Ez Xcv rfl rfl (Ow.weak hL86.env.size h93) hb2099) gn hns rfl<|wfv 3 rfl (J7 Xbj rfl) gn hns rfl<|wfv 4 rfl (Tv (.slice A2120 n2121 c2122) 1 Xq rfl rfl (hg2119 0 _ rfl)) gn hns rfl<|wfv 5 rfl (Di La rfl h2123.hq) gn hns rfl<|wfv 6 rfl (Aw Kr rfl) gn hns rfl<|wfv 7 rfl (Aq 3 Tq rfl rfl rfl) gn hns rfl<|wfv 8 rfl (Di Zq rfl h5.hq) gn hns rfl<|wfv 9 rfl (Be rfl rfl rfl) gn hns rfl<|Dz (by kernel_rfl) ?_
        by_cases hp2124:(((ix r88 x1106).nodes).length:Int)=(x1.nodes.length:Int)
        ·have h:=Ap hp2124 h
         refine Bi rfl _ rfl ((Xbu hp2124))<|C9 rfl<|Ah rfl<|Ac rfl rfl<|Aa 0 rfl (Af rfl) gn rfl<|Aj 1 rfl<|Ah rfl<|Ah rfl<|Ac rfl rfl<|Aa 0 rfl (Af rfl) gn rfl<|Aj 1 rfl<|Dj rfl ?_
         refine Kw rfl ?_
         have key4:∀ s,Bl (fun (s:Bool × Int) o=>Eg x1 r88 x1106 x10 x15 x1097 s.1 s.2 o) s o1→(fun (s:Bool × Int)=>∀ (_:Unit),G (Dv w F r) [.code Zy,.inLoop Zy,.inBlock 2,.code Xg0,.inBlock 1,.code Xh7,.inLoop X9,.inBlock 0,.code Xb3] [(1,.slice A11 n12 c13),(2,.string x15),(3,.pointer (some ⟨gb16,0,none⟩)),(7,.slice A52 n53 c54),(8,.slice A90 n91 c92),(9,.slice A1098 n1099 c1100),(10,.int .i64 x1106),(11,.bool s.1),(12,.int .i64 s.2)] [.own (.slice A1098 n1099 c1100) 38 1 n1099 cs1102,.own (.slice A90 n91 c92) 38 1 n91 cs95,.own (.slice A52 n53 c54) 38 1 n53 cs57,.box gb16 25 [.slice A2 n3 c4,.slice A6 n7 c8]] [Sm w.heap.size F sw1103 sb1104,Sm w.heap.size F w97 sb101,Sm w.heap.size F w59 sb63,Sm w.heap.size F w [],St w []]) s:=by
          intro s hs
          refine Bl.ind (mot:=(fun (s:Bool × Int)=>∀ (_:Unit),G (Dv w F r) [.code Zy,.inLoop Zy,.inBlock 2,.code Xg0,.inBlock 1,.code Xh7,.inLoop X9,.inBlock 0,.code Xb3] [(1,.slice A11 n12 c13),(2,.string x15),(3,.pointer (some ⟨gb16,0,none⟩)),(7,.slice A52 n53 c54),(8,.slice A90 n91 c92),(9,.slice A1098 n1099 c1100),(10,.int .i64 x1106),(11,.bool s.1),(12,.int .i64 s.2)] [.own (.slice A1098 n1099 c1100) 38 1 n1099 cs1102,.own (.slice A90 n91 c92) 38 1 n91 cs95,.own (.slice A52 n53 c54) 38 1 n53 cs57,.box gb16 25 [.slice A2 n3 c4,.slice A6 n7 c8]] [Sm w.heap.size F sw1103 sb1104,Sm w.heap.size F w97 sb101,Sm w.heap.size F w59 sb63,Sm w.heap.size F w [],St w []])) ?_ hs
          clear hs s
          intro s o2 h hO2
          obtain ⟨x2443,x2444⟩:=s
          show ∀ (_:Unit),G (Dv w F r) [.code Zy,.inLoop Zy,.inBlock 2,.code Xg0,.inBlock 1,.code Xh7,.inLoop X9,.inBlock 0,.code Xb3] [(1,.slice A11 n12 c13),(2,.string x15),(3,.pointer (some ⟨gb16,0,none⟩)),(7,.slice A52 n53 c54),(8,.slice A90 n91 c92),(9,.slice A1098 n1099 c1100),(10,.int .i64 x1106),(11,.bool x2443),(12,.int .i64 x2444)] [.own (.slice A1098 n1099 c1100) 38 1 n1099 cs1102,.own (.slice A90 n91 c92) 38 1 n91 cs95,.own (.slice A52 n53 c54) 38 1 n53 cs57,.box gb16 25 [.slice A2 n3 c4,.slice A6 n7 c8]] [Sm w.heap.size F sw1103 sb1104,Sm w.heap.size F w97 sb101,Sm w.heap.size F w59 sb63,Sm w.heap.size F w [],St w []]
          intro _
          have h:Eg x1 r88 x1106 x10 x15 x1097 x2443 x2444 o2:=h
          unfold Eg at h
          refine Ah rfl<|Ah rfl<|Ac rfl rfl<|Aa 0 rfl (Ad rfl) gn rfl<|Aa 1 rfl (Aw Qj rfl) gn rfl<|Aa 2 rfl (Aq 3 Xaj rfl rfl rfl) gn rfl<|Aa 3 rfl (Di Xf1 rfl h9.hq) gn rfl<|Aa 4 rfl (Be rfl rfl rfl) gn rfl<|Aj 5 rfl ?_
          by_cases hp2763:x2444 < (x1.conds.length:Int)
          ·have h:=Ap hp2763 h
           refine Bv rfl _ rfl ((decide_eq_true hp2763))<|C9 rfl<|Ah rfl<|Dj rfl<|Ah rfl<|Ac rfl rfl<|Aa 0 rfl (Aw Qj rfl) gn rfl<|Aa 1 rfl (Aq 3 Xaj rfl rfl rfl) gn rfl<|Aa 2 rfl (Ad rfl) gn rfl ?_
           obtain ⟨hb2764,h⟩:=h
           have hr2765:=Rw.readF (s:=St w []) (hl:=Q9) (h1:=Q8) h9 hb2764
           refine Aa 3 rfl (Fb (s:=St w []) Xiy rfl rfl h9 hb2764) gn rfl<|Aa 4 rfl (Z4 (St w []) Xgg rfl hr2765 rfl (me 4 rfl)) gn rfl ?_
           refine Ci 5 rfl (He [.bool false,.string (⟨#[]⟩:ByteArray),.string (⟨#[]⟩:ByteArray),.string (⟨#[]⟩:ByteArray)] zr_47 rfl fun gb2766=>?_) gn
           refine Ci 6 rfl (Gl (vs:=[.bool ((ix x1.conds x2444).not),.string ((ix x1.conds x2444).a),.string ((ix x1.conds x2444).b),.string ((ix x1.conds x2444).text)]) (cs':=[.bool ((ix x1.conds x2444).not),.string ((ix x1.conds x2444).a),.string ((ix x1.conds x2444).b),.string ((ix x1.conds x2444).text)]) (M':=[.box gb2766 47 [.bool ((ix x1.conds x2444).not),.string ((ix x1.conds x2444).a),.string ((ix x1.conds x2444).b),.string ((ix x1.conds x2444).text)],.own (.slice A1098 n1099 c1100) 38 1 n1099 cs1102,.own (.slice A90 n91 c92) 38 1 n91 cs95,.own (.slice A52 n53 c54) 38 1 n53 cs57,.box gb16 25 [.slice A2 n3 c4,.slice A6 n7 c8]]) 0 sz_47 rfl rfl rfl rfl rfl rfl rfl rfl rfl ?_) gn
           refine Aj 7 rfl<|Ah rfl ?_
           obtain ⟨r2779,hv2780,h⟩:=h
           obtain ⟨hb2784,h⟩:=h
           have hns:Region.noSelect (Code.ops q7c71)=true:=by kernel_rfl
           refine Fh [] 12 rfl rfl mix rfl (.c 0 rfl (.c 1 rfl (.c 2 rfl (.c 3 rfl (.c 4 rfl .n)))))<|wfv 0 rfl (Ad rfl) gn hns rfl<|wfv 1 rfl (Ad rfl) gn hns rfl ?_
           obtain ⟨ce2807,hK2808,ht2809,hg2810⟩:=Cells.get hC96 hb2099
           obtain ⟨A2811,n2812,c2813,rfl,h2814⟩:=hK2808
           refine wfv 2 rfl (Ez Xcv rfl rfl (Ow.weak hL86.env.size h93) hb2099) gn hns rfl<|wfv 3 rfl (J7 Xbj rfl) gn hns rfl<|wfv 4 rfl (Tv (.slice A2811 n2812 c2813) 2 Xq rfl rfl (hg2810 0 _ rfl)) gn hns rfl<|wfv 5 rfl (O6 [.slice A2 n3 c4,.slice A6 n7 c8] 4 V5 rfl rfl rfl rfl) gn hns rfl<|wfv 6 rfl (Aw Xbm rfl) gn hns rfl<|wfv 7 rfl (Aq 0 H8 rfl rfl rfl) gn hns rfl ?_
           refine Cm [8] (by kernel_rfl) rfl ⟨Eo 8 rfl gn rfl (D7 [.agg #[.slice A2 n3 c4,.slice A6 n7 c8],.string ((ix x1.conds x2444).a)] rfl Tryd.func31 rfl rfl rfl fun w2821 hL2822=>?_),trivial⟩
           have hp2823:=pmI hL2822 .n (.c 0 rfl (.c 1 rfl (.c 2 rfl (.c 3 rfl (.c 4 rfl .n))))) (by kernel_rfl)
           refine Calls.mono (U8 w2821 (Fl ([]:List Cb)) x1 ((ix x1.conds x2444).a) A2 n3 c4 A6 n7 c8 (Rw.mono h5 (hL2822.toSt hp2823 (me 4 rfl))) (Rw.mono h9 (hL2822.toSt hp2823 (me 4 rfl))) (hL2822.hFl hp2823 (Bg [] rfl)) (hL2822.into hp2823 _) r2779 hv2780) ?_
           rintro _ w2824 ⟨rfl,hM2825⟩
           have hL2826:=hL2822.call hp2823 hM2825
           refine ⟨_,_,_,rfl,hL2826,?_⟩
           refine ⟨Bg [0,1,2,3,4] rfl,Bg [0,1,2,3,4] rfl,?_⟩
           have hr2827:=Rw.readF (s:=Sm w.heap.size F w97 sb101) (hl:=(hlI .i64)) (h1:=(F9 .i64)) h2814 hb2784
           refine wfv 9 rfl (Fb (s:=Sm w.heap.size F w97 sb101) L8 rfl rfl h2814 hb2784) gn hns rfl<|wfv 10 rfl (Ie (kk:=(r2779:Int).toNat * 1) (j:=0) (Sm w.heap.size F w97 sb101) H5 rfl hr2827 rfl (me 1 rfl)) gn hns rfl<|wfv 11 rfl (Af rfl) gn hns rfl<|Dz (by kernel_rfl)<|Ah rfl<|Ac rfl rfl<|Aa 0 rfl (Ad rfl) gn rfl<|Aa 1 rfl (Af rfl) gn rfl<|Aj 2 rfl<|Ah rfl<|Ah rfl<|Ac rfl rfl ?_
           refine Aa 0 rfl (Aw X3 rfl) gn rfl<|Aa 1 rfl (Aq 0 H8 rfl rfl rfl) gn rfl<|Aa 2 rfl (Rk rfl rfl) gn rfl<|Aj 3 rfl ?_
           have j5:∀ (x2890:Int) (h:Gw r88 x1106 r2779 x1 x2444 x10 x15 x2443 x2890 o2) ,G (Dv w F r) [.code q7c76,.inBlock 3,.code q7c67,.inLoop Zy,.inBlock 2,.code Xg0,.inBlock 1,.code Xh7,.inLoop X9,.inBlock 0,.code Xb3] [(1,.slice A11 n12 c13),(2,.string x15),(3,.pointer (some ⟨gb16,0,none⟩)),(7,.slice A52 n53 c54),(8,.slice A90 n91 c92),(9,.slice A1098 n1099 c1100),(10,.int .i64 x1106),(11,.bool x2443),(12,.int .i64 x2444),(13,.pointer (some ⟨gb2766,0,none⟩)),(14,.int .i64 (ix ((ix r88 x1106).nodes) r2779)),(15,.int .i64 x2890)] [.box gb2766 47 [.bool ((ix x1.conds x2444).not),.string ((ix x1.conds x2444).a),.string ((ix x1.conds x2444).b),.string ((ix x1.conds x2444).text)],.own (.slice A1098 n1099 c1100) 38 1 n1099 cs1102,.own (.slice A90 n91 c92) 38 1 n91 cs95,.own (.slice A52 n53 c54) 38 1 n53 cs57,.box gb16 25 [.slice A2 n3 c4,.slice A6 n7 c8]] [Sm w.heap.size F sw1103 sb1104,Sm w.heap.size F w97 sb101,Sm w.heap.size F w59 sb63,Sm w.heap.size F w [],St w []]:=by
            intro x2890 h
            unfold Gw at h
            refine Ah rfl<|Ah rfl ?_
            have j6:∀ (x2895:Bool) (h:Ei x1 x2444 r88 x1106 r2779 x10 x15 x2443 x2890 x2895 o2) ,G (Dv w F r) [.code q7c84,.code q7c82,.inBlock 3,.code q7c67,.inLoop Zy,.inBlock 2,.code Xg0,.inBlock 1,.code Xh7,.inLoop X9,.inBlock 0,.code Xb3] [(1,.slice A11 n12 c13),(2,.string x15),(3,.pointer (some ⟨gb16,0,none⟩)),(7,.slice A52 n53 c54),(8,.slice A90 n91 c92),(9,.slice A1098 n1099 c1100),(10,.int .i64 x1106),(11,.bool x2443),(12,.int .i64 x2444),(13,.pointer (some ⟨gb2766,0,none⟩)),(14,.int .i64 (ix ((ix r88 x1106).nodes) r2779)),(15,.int .i64 x2890),(118,.bool x2895)] [.box gb2766 47 [.bool ((ix x1.conds x2444).not),.string ((ix x1.conds x2444).a),.string ((ix x1.conds x2444).b),.string ((ix x1.conds x2444).text)],.own (.slice A1098 n1099 c1100) 38 1 n1099 cs1102,.own (.slice A90 n91 c92) 38 1 n91 cs95,.own (.slice A52 n53 c54) 38 1 n53 cs57,.box gb16 25 [.slice A2 n3 c4,.slice A6 n7 c8]] [Sm w.heap.size F sw1103 sb1104,Sm w.heap.size F w97 sb101,Sm w.heap.size F w59 sb63,Sm w.heap.size F w [],St w []]:=by
             intro x2895 h
             unfold Ei at h
             by_cases hp2896:x2895=true
             ·have h:=Ap hp2896 h
              refine Bv rfl _ rfl (hp2896)<|Ah rfl<|Ac rfl rfl<|Aa 0 rfl (Af rfl) gn rfl<|Aj 1 rfl ?_
              have h:=Out.inr hO2 h
              have h:=Out.inr hO1 h
              refine Bq [.bool false] rfl Tryd.func7 rfl (.tmp rfl (.nil)) fun wr hLr=>?_
              have hMr:=hLr.pk0 (.c 4 rfl .n)
              show Ey w F  r (.returned (Ce [.bool false])) wr
              rw [h]
              exact ⟨rfl,hMr⟩
             ·have h:=Am hp2896 h
              refine Bi rfl _ rfl ((bf hp2896))<|C9 rfl<|Ah rfl<|Ac rfl rfl<|Aa 0 rfl (Aw Xdd rfl) gn rfl<|Aa 1 rfl (Aq 0 H8 rfl rfl rfl) gn rfl<|Aa 2 rfl (Af rfl) gn rfl<|Aj 3 rfl<|Ah rfl<|Ah rfl<|Ac rfl rfl<|Aa 0 rfl (Aw X3 rfl) gn rfl ?_
              refine Aa 1 rfl (Aq 0 H8 rfl rfl rfl) gn rfl<|Aa 2 rfl (Rk rfl rfl) gn rfl<|Aj 3 rfl ?_
              have j7:∀ (x2909:ByteArray) (h:Gz r88 x1106 r2779 x10 x15 x1 x2444 x2443 x2909 o2) ,G (Dv w F r) [.code q7c92,.inBlock 3,.code q7c67,.inLoop Zy,.inBlock 2,.code Xg0,.inBlock 1,.code Xh7,.inLoop X9,.inBlock 0,.code Xb3] [(1,.slice A11 n12 c13),(2,.string x15),(3,.pointer (some ⟨gb16,0,none⟩)),(7,.slice A52 n53 c54),(8,.slice A90 n91 c92),(9,.slice A1098 n1099 c1100),(10,.int .i64 x1106),(11,.bool x2443),(12,.int .i64 x2444),(13,.pointer (some ⟨gb2766,0,none⟩)),(14,.int .i64 (ix ((ix r88 x1106).nodes) r2779)),(16,.string x2909)] [.box gb2766 47 [.bool ((ix x1.conds x2444).not),.string ((ix x1.conds x2444).a),.string ((ix x1.conds x2444).b),.string ((ix x1.conds x2444).text)],.own (.slice A1098 n1099 c1100) 38 1 n1099 cs1102,.own (.slice A90 n91 c92) 38 1 n91 cs95,.own (.slice A52 n53 c54) 38 1 n53 cs57,.box gb16 25 [.slice A2 n3 c4,.slice A6 n7 c8]] [Sm w.heap.size F sw1103 sb1104,Sm w.heap.size F w97 sb101,Sm w.heap.size F w59 sb63,Sm w.heap.size F w [],St w []]:=by
               intro x2909 h
               unfold Gz at h
               refine Ah rfl ?_
               obtain ⟨hb2910,h⟩:=h
               obtain ⟨r2915,hv2916,h⟩:=h
               have hns:Region.noSelect (Code.ops q7c97)=true:=by kernel_rfl
               refine Fh [] 11 rfl rfl mix rfl (.c 0 rfl (.c 1 rfl (.c 2 rfl (.c 3 rfl (.c 4 rfl .n)))))<|wfv 0 rfl (Ad rfl) gn hns rfl<|wfv 1 rfl (Ad rfl) gn hns rfl ?_
               have hr2951:=Rw.readF (s:=St w []) (hl:=Qc) (h1:=Q7) h14 hb2910
               refine wfv 2 rfl (Fb (s:=St w []) Xcq rfl rfl h14 hb2910) gn hns rfl<|wfv 3 rfl (Z4 (St w []) Xkr rfl hr2951 rfl (me 4 rfl)) gn hns rfl<|wfv 4 rfl (Ad rfl) gn hns rfl<|wfv 6 rfl (Ad rfl) gn hns rfl<|wfv 8 rfl (Aw Xda rfl) gn hns rfl<|wfv 9 rfl (Aq 0 Xc5 rfl rfl rfl) gn hns rfl ?_
               refine Cm [5] (by kernel_rfl) rfl ⟨Eo 5 rfl gn rfl (D7 [.agg #[.string ((ix x10 (ix ((ix r88 x1106).nodes) r2779)).name),.bool ((ix x10 (ix ((ix r88 x1106).nodes) r2779)).named),.string ((ix x10 (ix ((ix r88 x1106).nodes) r2779)).field),.int .i64 ((ix x10 (ix ((ix r88 x1106).nodes) r2779)).from_),.int .i64 ((ix x10 (ix ((ix r88 x1106).nodes) r2779)).to),.int .i64 ((ix x10 (ix ((ix r88 x1106).nodes) r2779)).kids),.int .i64 ((ix x10 (ix ((ix r88 x1106).nodes) r2779)).leaf)],.string x15] rfl Tryd.func32 rfl rfl rfl fun w2976 hL2977=>?_),trivial⟩
               have hp2978:=pmI hL2977 .n (.c 0 rfl (.c 1 rfl (.c 2 rfl (.c 3 rfl (.c 4 rfl .n))))) (by kernel_rfl)
               refine Calls.mono (Rz w2976 (Fl ([]:List Cb)) (ix x10 (ix ((ix r88 x1106).nodes) r2779)) x15 (hL2977.hFl hp2978 (Bg [] rfl)) (hL2977.into hp2978 _) r2915 hv2916) ?_
               rintro _ w2979 ⟨rfl,hM2980⟩
               have hL2981:=hL2977.call hp2978 hM2980
               refine ⟨_,_,_,rfl,hL2981,?_⟩
               refine ⟨Bg [0,1,2,3,4] rfl,Bg [0,1,2,3,4] rfl,?_⟩
               refine wfv 7 rfl (Xo rfl rfl) gn hns rfl<|wfv 10 rfl (v_eqB un_4 rfl rfl) gn hns rfl<|Dz (by kernel_rfl) ?_
               by_cases hp2982:((seq r2915 x2909) == ((ix x1.conds x2444).not))=true
               ·have h:=Ap hp2982 h
                refine Bv rfl _ rfl (hp2982)<|Ac rfl rfl<|Aa 0 rfl (Af rfl) gn rfl<|Aj 1 rfl<|D9<|Ac rfl rfl<|Aa 0 rfl (Ad rfl) gn rfl<|Aa 1 rfl (Be rfl rfl rfl) gn rfl<|Aa 2 rfl (Af rfl) gn rfl<|Aj 3 rfl<|Dx ?_
                have ih:=Out.inl hO2 h
                exact D8 [0,1,2,3,4] (ih ()) ⟨rfl,rfl,rfl,rfl,rfl,rfl,rfl,rfl,rfl,trivial⟩ (.cons _ (.cons_cons _ (.cons_cons _ (.cons_cons _ (.cons_cons _ (.slnil)))))) rfl
               ·have h:=Am hp2982 h
                refine Bi rfl _ rfl ((bf hp2982))<|C9 rfl<|D9<|Ac rfl rfl<|Aa 0 rfl (Ad rfl) gn rfl<|Aa 1 rfl (Be rfl rfl rfl) gn rfl<|Aa 2 rfl (Af rfl) gn rfl<|Aj 3 rfl<|Dx ?_
                have ih:=Out.inl hO2 h
                exact D8 [0,1,2,3,4] (ih ()) ⟨rfl,rfl,rfl,rfl,rfl,rfl,rfl,rfl,rfl,trivial⟩ (.cons _ (.cons_cons _ (.cons_cons _ (.cons_cons _ (.cons_cons _ (.slnil)))))) rfl
              by_cases hp2897:(ix x1.conds x2444).b=(⟨#[]⟩:ByteArray)
              ·have h:=Ap hp2897 h
               refine Bi rfl _ rfl ((nf (Oo hp2897)))<|C9 rfl ?_
               exact D8 [0,1,2,3,4] (j7 ((ix x1.conds x2444).text) h) ⟨rfl,rfl,rfl,rfl,rfl,rfl,rfl,rfl,rfl,rfl,rfl,rfl,trivial⟩ (.cons_cons _ (.cons_cons _ (.cons_cons _ (.cons_cons _ (.cons_cons _ (.slnil)))))) rfl
              ·have h:=Am hp2897 h
               refine Bv rfl _ rfl ((nt (Pj hp2897)))<|Ac rfl rfl<|Aa 0 rfl (Ad rfl) gn rfl<|Aa 1 rfl (Ad rfl) gn rfl ?_
               obtain ⟨hb2983,h⟩:=h
               have hr2984:=Rw.readF (s:=St w []) (hl:=Qc) (h1:=Q7) h14 hb2983
               refine Aa 2 rfl (Fb (s:=St w []) Xcq rfl rfl h14 hb2983) gn rfl<|Aa 3 rfl (Z4 (St w []) Xkr rfl hr2984 rfl (me 4 rfl)) gn rfl<|Aa 4 rfl (Ad rfl) gn rfl ?_
               obtain ⟨r2988,hv2989,h⟩:=h
               refine Ci 5 rfl (D7 [.agg #[.string ((ix x10 x2890).name),.bool ((ix x10 x2890).named),.string ((ix x10 x2890).field),.int .i64 ((ix x10 x2890).from_),.int .i64 ((ix x10 x2890).to),.int .i64 ((ix x10 x2890).kids),.int .i64 ((ix x10 x2890).leaf)],.string x15] rfl Tryd.func32 rfl rfl rfl fun w2985 hL2986=>?_) gn
               have hp2987:=pmI hL2986 .n (.c 0 rfl (.c 1 rfl (.c 2 rfl (.c 3 rfl (.c 4 rfl .n))))) (by kernel_rfl)
               refine Calls.mono (Rz w2985 (Fl ([]:List Cb)) (ix x10 x2890) x15 (hL2986.hFl hp2987 (Bg [] rfl)) (hL2986.into hp2987 _) r2988 hv2989) ?_
               rintro _ w2990 ⟨rfl,hM2991⟩
               have hL2992:=hL2986.call hp2987 hM2991
               refine ⟨_,_,_,rfl,hL2992,?_⟩
               refine Aa 6 rfl (Af rfl) gn rfl<|Aj 7 rfl ?_
               exact D8 [0,1,2,3,4] (j7 r2988 h) ⟨rfl,rfl,rfl,rfl,rfl,rfl,rfl,rfl,rfl,rfl,rfl,rfl,trivial⟩ (.cons_cons _ (.cons_cons _ (.cons_cons _ (.cons_cons _ (.cons_cons _ (.slnil)))))) rfl
            refine Ac rfl rfl<|Aa 0 rfl (Ad rfl) gn rfl<|Aa 1 rfl (Be rfl rfl rfl) gn rfl<|Aa 2 rfl (Ad rfl) gn rfl ?_
            by_cases hp2993:ix ((ix r88 x1106).nodes) r2779 < 0
            ·have h:=Ap hp2993 h
             refine Bo 103 rfl ((decide_eq_true hp2993))<|Ae 3 rfl (ps 103 rfl rfl rfl)<|Ae 4 rfl (ps 103 rfl rfl rfl)<|Ae 5 rfl (ps 103 rfl rfl rfl)<|Ae 6 rfl (ps 103 rfl rfl rfl)<|Aa 7 rfl (Bc (b:=true) rfl rfl) gn rfl<|Aa 8 rfl (Ad rfl) gn rfl<|Ae 9 rfl (ps 109 rfl rfl rfl)<|Ae 10 rfl (ps 109 rfl rfl rfl)<|Aa 11 rfl (Bc (b:=true) rfl rfl) gn rfl<|Aa 12 rfl (Ad rfl) gn rfl<|Ae 13 rfl (ps 113 rfl rfl rfl) ?_
             refine Ae 14 rfl (ps 113 rfl rfl rfl)<|Ae 15 rfl (ps 113 rfl rfl rfl)<|Ae 16 rfl (ps 113 rfl rfl rfl)<|Aa 17 rfl (Bc (b:=true) rfl rfl) gn rfl<|Aj 18 rfl ?_
             exact D8 [0,1,2,3,4] (j6 true h) ⟨rfl,rfl,rfl,rfl,rfl,rfl,rfl,rfl,rfl,rfl,rfl,rfl,rfl,trivial⟩ (.cons_cons _ (.cons_cons _ (.cons_cons _ (.cons_cons _ (.cons_cons _ (.slnil)))))) rfl
            ·have h:=Am hp2993 h
             refine Bo 103 rfl ((decide_eq_false hp2993))<|Aa 3 rfl (Ad rfl) (gy 103 rfl rfl) rfl<|Aa 4 rfl (Ad rfl) (gy 103 rfl rfl) rfl<|Aa 5 rfl (Di Xb8 rfl h14.hq) (gy 103 rfl rfl) rfl<|Aa 6 rfl (Be rfl rfl rfl) (gy 103 rfl rfl) rfl<|Aa 7 rfl (Bc (b:=false) rfl rfl) gn rfl<|Aa 8 rfl (Ad rfl) gn rfl ?_
             by_cases hp2994:ix ((ix r88 x1106).nodes) r2779≥(x10.length:Int)
             ·have h:=Ap hp2994 h
              refine Bo 109 rfl ((decide_eq_true hp2994))<|Ae 9 rfl (ps 109 rfl rfl rfl)<|Ae 10 rfl (ps 109 rfl rfl rfl)<|Aa 11 rfl (Bc (b:=true) rfl rfl) gn rfl<|Aa 12 rfl (Ad rfl) gn rfl<|Ae 13 rfl (ps 113 rfl rfl rfl)<|Ae 14 rfl (ps 113 rfl rfl rfl)<|Ae 15 rfl (ps 113 rfl rfl rfl)<|Ae 16 rfl (ps 113 rfl rfl rfl)<|Aa 17 rfl (Bc (b:=true) rfl rfl) gn rfl<|Aj 18 rfl ?_
              exact D8 [0,1,2,3,4] (j6 true h) ⟨rfl,rfl,rfl,rfl,rfl,rfl,rfl,rfl,rfl,rfl,rfl,rfl,rfl,trivial⟩ (.cons_cons _ (.cons_cons _ (.cons_cons _ (.cons_cons _ (.cons_cons _ (.slnil)))))) rfl
             ·have h:=Am hp2994 h
              refine Bo 109 rfl ((decide_eq_false hp2994))<|Aa 9 rfl (Ad rfl) (gy 109 rfl rfl) rfl<|Aa 10 rfl (Be rfl rfl rfl) (gy 109 rfl rfl) rfl<|Aa 11 rfl (Bc (b:=false) rfl rfl) gn rfl<|Aa 12 rfl (Ad rfl) gn rfl ?_
              by_cases hp2995:x2890 < 0
              ·have h:=Ap hp2995 h
               refine Bo 113 rfl ((decide_eq_true hp2995))<|Ae 13 rfl (ps 113 rfl rfl rfl)<|Ae 14 rfl (ps 113 rfl rfl rfl)<|Ae 15 rfl (ps 113 rfl rfl rfl)<|Ae 16 rfl (ps 113 rfl rfl rfl)<|Aa 17 rfl (Bc (b:=true) rfl rfl) gn rfl<|Aj 18 rfl ?_
               exact D8 [0,1,2,3,4] (j6 true h) ⟨rfl,rfl,rfl,rfl,rfl,rfl,rfl,rfl,rfl,rfl,rfl,rfl,rfl,trivial⟩ (.cons_cons _ (.cons_cons _ (.cons_cons _ (.cons_cons _ (.cons_cons _ (.slnil)))))) rfl
              ·have h:=Am hp2995 h
               refine Bo 113 rfl ((decide_eq_false hp2995))<|Aa 13 rfl (Ad rfl) (gy 113 rfl rfl) rfl<|Aa 14 rfl (Ad rfl) (gy 113 rfl rfl) rfl<|Aa 15 rfl (Di Xb8 rfl h14.hq) (gy 113 rfl rfl) rfl<|Aa 16 rfl (Be rfl rfl rfl) (gy 113 rfl rfl) rfl<|Aa 17 rfl (Bc (b:=false) rfl rfl) gn rfl<|Aj 18 rfl ?_
               exact D8 [0,1,2,3,4] (j6 (decide (x2890≥(x10.length:Int))) h) ⟨rfl,rfl,rfl,rfl,rfl,rfl,rfl,rfl,rfl,rfl,rfl,rfl,rfl,trivial⟩ (.cons_cons _ (.cons_cons _ (.cons_cons _ (.cons_cons _ (.cons_cons _ (.slnil)))))) rfl
           by_cases hp2828:(ix x1.conds x2444).b=(⟨#[]⟩:ByteArray)
           ·have h:=Ap hp2828 h
            refine Bi rfl _ rfl ((nf (Oo hp2828)))<|C9 rfl ?_
            exact D8 [0,1,2,3,4] (j5 (ix ((ix r88 x1106).nodes) r2779) h) ⟨rfl,rfl,rfl,rfl,rfl,rfl,rfl,rfl,rfl,rfl,rfl,rfl,trivial⟩ (.cons_cons _ (.cons_cons _ (.cons_cons _ (.cons_cons _ (.cons_cons _ (.slnil)))))) rfl
           ·have h:=Am hp2828 h
            refine Bv rfl _ rfl ((nt (Pj hp2828))) ?_
            obtain ⟨r3007,hv3008,h⟩:=h
            obtain ⟨hb3012,h⟩:=h
            have hns:Region.noSelect (Code.ops q7c79)=true:=by kernel_rfl
            refine Fh [] 12 rfl rfl mix rfl (.c 0 rfl (.c 1 rfl (.c 2 rfl (.c 3 rfl (.c 4 rfl .n)))))<|wfv 0 rfl (Ad rfl) gn hns rfl<|wfv 1 rfl (Ad rfl) gn hns rfl ?_
            obtain ⟨ce3035,hK3036,ht3037,hg3038⟩:=Cells.get hC96 hb2099
            obtain ⟨A3039,n3040,c3041,rfl,h3042⟩:=hK3036
            refine wfv 2 rfl (Ez Xcv rfl rfl (Ow.weak hL86.env.size h93) hb2099) gn hns rfl<|wfv 3 rfl (J7 Xbj rfl) gn hns rfl<|wfv 4 rfl (Tv (.slice A3039 n3040 c3041) 2 Xq rfl rfl (hg3038 0 _ rfl)) gn hns rfl<|wfv 5 rfl (O6 [.slice A2 n3 c4,.slice A6 n7 c8] 4 V5 rfl rfl rfl rfl) gn hns rfl<|wfv 6 rfl (Aw X3 rfl) gn hns rfl<|wfv 7 rfl (Aq 0 H8 rfl rfl rfl) gn hns rfl ?_
            refine Cm [8] (by kernel_rfl) rfl ⟨Eo 8 rfl gn rfl (D7 [.agg #[.slice A2 n3 c4,.slice A6 n7 c8],.string ((ix x1.conds x2444).b)] rfl Tryd.func31 rfl rfl rfl fun w3049 hL3050=>?_),trivial⟩
            have hp3051:=pmI hL3050 .n (.c 0 rfl (.c 1 rfl (.c 2 rfl (.c 3 rfl (.c 4 rfl .n))))) (by kernel_rfl)
            refine Calls.mono (U8 w3049 (Fl ([]:List Cb)) x1 ((ix x1.conds x2444).b) A2 n3 c4 A6 n7 c8 (Rw.mono h5 (hL3050.toSt hp3051 (me 4 rfl))) (Rw.mono h9 (hL3050.toSt hp3051 (me 4 rfl))) (hL3050.hFl hp3051 (Bg [] rfl)) (hL3050.into hp3051 _) r3007 hv3008) ?_
            rintro _ w3052 ⟨rfl,hM3053⟩
            have hL3054:=hL3050.call hp3051 hM3053
            refine ⟨_,_,_,rfl,hL3054,?_⟩
            refine ⟨Bg [0,1,2,3,4] rfl,Bg [0,1,2,3,4] rfl,?_⟩
            have hr3055:=Rw.readF (s:=Sm w.heap.size F w97 sb101) (hl:=(hlI .i64)) (h1:=(F9 .i64)) h3042 hb3012
            refine wfv 9 rfl (Fb (s:=Sm w.heap.size F w97 sb101) L8 rfl rfl h3042 hb3012) gn hns rfl<|wfv 10 rfl (Ie (kk:=(r3007:Int).toNat * 1) (j:=0) (Sm w.heap.size F w97 sb101) H5 rfl hr3055 rfl (me 1 rfl)) gn hns rfl<|wfv 11 rfl (Af rfl) gn hns rfl<|Dz (by kernel_rfl) ?_
            exact D8 [0,1,2,3,4] (j5 (ix ((ix r88 x1106).nodes) r3007) h) ⟨rfl,rfl,rfl,rfl,rfl,rfl,rfl,rfl,rfl,rfl,rfl,rfl,trivial⟩ (.cons_cons _ (.cons_cons _ (.cons_cons _ (.cons_cons _ (.cons_cons _ (.slnil)))))) rfl
          ·have h:=Am hp2763 h
           refine Bi rfl _ rfl ((decide_eq_false hp2763))<|Ii [.code Xg0,.inBlock 1,.code Xh7,.inLoop X9,.inBlock 0,.code Xb3] rfl rfl<|Ah rfl<|Ac rfl rfl<|Aa 0 rfl (Ad rfl) gn rfl<|Aj 1 rfl ?_
           by_cases hp3056:x2443=true
           ·have h:=Ap hp3056 h
            refine Bv rfl _ rfl (hp3056)<|Ac rfl rfl<|Aa 0 rfl (Ad rfl) gn rfl<|Aa 1 rfl (Ad rfl) gn rfl<|Aa 2 rfl (Ad rfl) gn rfl ?_
            obtain ⟨ce3057,hK3058,ht3059,hg3060⟩:=Cells.get hC96 hb2099
            obtain ⟨A3061,n3062,c3063,rfl,h3064⟩:=hK3058
            refine Aa 3 rfl (Ez Xcv rfl rfl (Ow.weak hL86.env.size h93) hb2099) gn rfl<|Aa 4 rfl (v_ldO [.slice A3061 n3062 c3063] 1 ld_38 rfl rfl ht3059 rfl) gn rfl ?_
            have hC3066:Cells G9 (Sm w.heap.size F w97 sb101).w (Sm w.heap.size F w97 sb101).av ([ix r88 x1106]:List Cj) [.slice A3061 n3062 c3063]:=(Cells.cons (c1:=[.slice A3061 n3062 c3063]) ⟨A3061,n3062,c3063,rfl,h3064⟩ Cells.nil)
            refine Ci 5 rfl (Hy (xs:=([ix r88 x1106]:List Cj)) [.slice A3061 n3062 c3063] Xml rfl (by kernel_rfl) rfl rfl rfl rfl fun gb3067 h3068=>?_) gn
            obtain ⟨x3075,hv3076,h⟩:=h
            obtain ⟨hb3077,h⟩:=h
            refine w_mark (F:=F) fun sw3072 sb3073 ho3074=>?_
            obtain ⟨cs3078,hc3079⟩:∃ x:List Value,x=cs1102++[.slice A3061 n3062 c3063]:=⟨_,rfl⟩
            have hC3080:Cells G9 (Sm w.heap.size F sw3072 sb3073).w (Sm w.heap.size F sw3072 sb3073).av x3075 cs3078:=by rw [hv3076,hc3079]; exact Cells.app (Cells.older (s:=Sm w.heap.size F sw1103 sb1104) hC1105 (ho3074 _ (me 0 rfl) Sm.ok)) (Cells.older (s:=Sm w.heap.size F w97 sb101) hC3066 (ho3074 _ (me 1 rfl) Sm.ok))
            refine Ci 6 rfl (Nq (zs:=x3075) 1 ap_31 rfl rfl rfl h1101 (Nat.le_refl _) (Src.ownAll 0 rfl h3068 hC3066) hc3079.symm (Gp hv3076 h3068.hq) hb3077 rfl rfl fun A3069 c3070 h3071=>?_) gn
            refine Aa 7 rfl (Af rfl) gn rfl<|Aj 8 rfl<|D9<|Ac rfl rfl<|Aa 0 rfl (Ad rfl) gn rfl<|Aa 1 rfl (Be rfl rfl rfl) gn rfl<|Aa 2 rfl (Af rfl) gn rfl<|Aj 3 rfl<|Dx ?_
            have h:=Out.inr hO2 h
            have ih:=Out.inl hO1 h
            exact D8 [0,2,3,4,5] (ih A3069 (n1099 + 1) c3070 h3071 cs3078 sw3072 sb3073 hC3080) ⟨rfl,rfl,rfl,rfl,rfl,rfl,rfl,trivial⟩ (.cons _ (.cons_cons _ (.cons_cons _ (.cons_cons _ (.cons_cons _ (.slnil)))))) rfl
           ·have h:=Am hp3056 h
            refine Bi rfl _ rfl ((bf hp3056))<|C9 rfl<|D9<|Ac rfl rfl<|Aa 0 rfl (Ad rfl) gn rfl<|Aa 1 rfl (Be rfl rfl rfl) gn rfl<|Aa 2 rfl (Af rfl) gn rfl<|Aj 3 rfl<|Dx ?_
            have h:=Out.inr hO2 h
            have ih:=Out.inl hO1 h
            exact D8 [0,1,2,3,4] (ih A1098 n1099 c1100 h1101 cs1102 sw1103 sb1104 hC1105) ⟨rfl,rfl,rfl,rfl,rfl,rfl,rfl,trivial⟩ (.cons_cons _ (.cons_cons _ (.cons_cons _ (.cons_cons _ (.slnil))))) rfl
         exact D8 [0,1,2,3,4] (key4 _ h ()) ⟨rfl,rfl,rfl,rfl,rfl,rfl,rfl,rfl,rfl,trivial⟩ (.cons_cons _ (.cons_cons _ (.cons_cons _ (.cons_cons _ (.slnil))))) rfl
        ·have h:=Am hp2124 h
         refine Bv rfl _ rfl ((Xc1 hp2124))<|Ah rfl<|Ac rfl rfl<|Aa 0 rfl (Af rfl) gn rfl<|Aj 1 rfl ?_
         have h:=Out.inr hO1 h
         refine Bq [.bool false] rfl Tryd.func7 rfl (.tmp rfl (.nil)) fun wr hLr=>?_
         have hMr:=hLr.pk0 (.c 4 rfl .n)
         show Ey w F  r (.returned (Ce [.bool false])) wr
         rw [h]
         exact ⟨rfl,hMr⟩
       ·have h:=Am hp2098 h
        refine Bi rfl _ rfl ((decide_eq_false hp2098))<|Ii [.code Xb3] rfl rfl<|Ah rfl<|Ac rfl rfl<|Aa 0 rfl (Ad rfl) gn rfl<|Aa 1 rfl (Ad rfl) gn rfl ?_
        obtain ⟨r3084,hv3085,h⟩:=h
        refine Ci 2 rfl (D7 [.slice A52 n53 c54,.slice A1098 n1099 c1100] rfl Tryd.func18 rfl rfl rfl fun w3081 hL3082=>?_) gn
        have hp3083:=pmI hL3082 .n (.c 0 rfl (.c 1 rfl (.c 2 rfl (.c 3 rfl .n)))) (by kernel_rfl)
        refine Calls.mono (Xn w3081 (Fl ([]:List Cb)) r50 x1097 A52 n53 c54 A1098 n1099 c1100 (hL3082.argO (dk:=G9) hp3083 [] rfl 2 rfl rfl (Ow.weak hL48.env.size h55) (me 2 rfl) hC58) (hL3082.argO (dk:=G9) hp3083 [] rfl 0 rfl rfl h1101 (me 0 rfl) hC1105) (hL3082.hFl hp3083 (Bg [] rfl)) (hL3082.into hp3083 _) r3084 hv3085) ?_
        rintro _ w3086 ⟨rfl,hM3087⟩
        have hL3088:=hL3082.call hp3083 hM3087
        refine ⟨_,_,_,rfl,hL3088,?_⟩
        refine Aa 3 rfl (Af rfl) gn rfl<|Aj 4 rfl ?_
        have h:=Out.inr hO1 h
        refine Bq [.bool r3084] rfl Tryd.func7 rfl (.tmp rfl (.nil)) fun wr hLr=>?_
        have hMr:=hLr.pk0 (.c 4 rfl .n)
        show Ey w F  r (.returned (Ce [.bool r3084])) wr
        rw [h]
        exact ⟨rfl,hMr⟩
      refine Pi 38 1 ?_
      exact D8 [2,0,1,2,3] (key3 _ h none 0 0 (Ow.nil (z:=w.heap.size)) [] w [] Cells.nil) ⟨rfl,rfl,rfl,rfl,rfl,rfl,rfl,trivial⟩ (.cons_cons _ (.cons_cons _ (.cons_cons _ (.cons_cons _ (.slnil))))) rfl
    refine Ac rfl rfl<|Aa 0 rfl (O6 [.slice A2 n3 c4,.slice A6 n7 c8] 1 V5 rfl rfl rfl rfl) gn rfl ?_
    obtain ⟨r3092,hv3093,h⟩:=h
    refine Ci 1 rfl (D7 [.agg #[.slice A2 n3 c4,.slice A6 n7 c8]] rfl Tryd.func24 rfl rfl rfl fun w3089 hL3090=>?_) gn
    have hp3091:=pmI hL3090 .n (.c 0 rfl (.c 1 rfl .n)) (by kernel_rfl)
    refine Calls.mono (Un w3089 (Fl ([]:List Cb)) x1 A2 n3 c4 A6 n7 c8 (Rw.mono h5 (hL3090.toSt hp3091 (me 2 rfl))) (Rw.mono h9 (hL3090.toSt hp3091 (me 2 rfl))) (hL3090.tb hp3091 hG (me 2 rfl)) (hL3090.hFl hp3091 (Bg [] rfl)) (hL3090.into hp3091 _) r3092 hv3093) ?_
    rintro _ w3094 ⟨rfl,hM3095⟩
    have hL3096:=hL3090.call hp3091 hM3095
    refine ⟨_,_,_,rfl,hL3096,?_⟩
    refine Aa 2 rfl (Qu rfl) gn rfl<|Aa 3 rfl (Ad rfl) gn rfl ?_
    by_cases hp3097:r3092=true
    ·have h:=Ap hp3097 h
     refine Bo 33 rfl ((nf hp3097))<|Aa 4 rfl (Ad rfl) (gy 33 rfl rfl) rfl ?_
     obtain ⟨r3101,hv3102,h⟩:=h
     refine Ci 5 rfl (D7 [.slice A11 n12 c13] rfl Tryd.func30 rfl rfl rfl fun w3098 hL3099=>?_) (gy 33 rfl rfl)
     have hp3100:=pmI hL3099 .n (.c 0 rfl (.c 1 rfl .n)) (by kernel_rfl)
     refine Calls.mono (Zl w3098 (Fl ([]:List Cb)) x10 A11 n12 c13 (Rw.mono h14 (hL3099.toSt hp3100 (me 2 rfl))) (hL3099.hFl hp3100 (Bg [] rfl)) (hL3099.into hp3100 _) r3101 hv3102) ?_
     rintro _ w3103 ⟨rfl,hM3104⟩
     have hL3105:=hL3099.call hp3100 hM3104
     refine ⟨_,_,_,rfl,hL3105,?_⟩
     refine Aa 6 rfl (Be rfl rfl rfl) (gy 33 rfl rfl) rfl<|Aa 7 rfl (Bc (b:=false) rfl rfl) gn rfl<|Aj 8 rfl ?_
     exact D8 [0,1,2] (j2 (decide (r3101 < 0)) h) ⟨rfl,rfl,rfl,rfl,rfl,trivial⟩ (.cons_cons _ (.cons_cons _ (.slnil))) rfl
    ·have h:=Am hp3097 h
     refine Bo 33 rfl ((nt (bf hp3097)))<|Ae 4 rfl (ps 33 rfl rfl rfl)<|Ae 5 rfl (ps 33 rfl rfl rfl)<|Ae 6 rfl (ps 33 rfl rfl rfl)<|Aa 7 rfl (Bc (b:=true) rfl rfl) gn rfl<|Aj 8 rfl ?_
     exact D8 [0,1,2] (j2 true h) ⟨rfl,rfl,rfl,rfl,rfl,trivial⟩ (.cons_cons _ (.cons_cons _ (.slnil))) rfl
  refine Ac rfl rfl<|Aa 0 rfl (Aw Kr rfl) gn rfl<|Aa 1 rfl (Aq 0 Tq rfl rfl rfl) gn rfl ?_
  obtain ⟨r3109,hv3110,h⟩:=h
  refine Ci 2 rfl (D7 [.slice A2 n3 c4] rfl Tryd.func10 rfl rfl rfl fun w3106 hL3107=>?_) gn
  have hp3108:=pmI hL3107 .n (.c 0 rfl .n) (by kernel_rfl)
  refine Calls.mono (Yo w3106 (Fl ([]:List Cb)) x1.nodes A2 n3 c4 (Rw.mono h5 (hL3107.toSt hp3108 (me 1 rfl))) (hL3107.hFl hp3108 (Bg [] rfl)) (hL3107.into hp3108 _) r3109 hv3110) ?_
  rintro _ w3111 ⟨rfl,hM3112⟩
  have hL3113:=hL3107.call hp3108 hM3112
  refine ⟨_,_,_,rfl,hL3113,?_⟩
  refine Aa 3 rfl (Ad rfl) gn rfl ?_
  by_cases hp3114:r3109=true
  ·have h:=Ap hp3114 h
   refine Bo 22 rfl (hp3114)<|Ae 4 rfl (ps 22 rfl rfl rfl)<|Ae 5 rfl (ps 22 rfl rfl rfl)<|Aa 6 rfl (Bc (b:=true) rfl rfl) gn rfl<|Aj 7 rfl ?_
   exact D8 [0,1] (j1 true h) ⟨rfl,rfl,rfl,rfl,trivial⟩ (.cons_cons _ (.slnil)) rfl
  ·have h:=Am hp3114 h
   refine Bo 22 rfl ((bf hp3114))<|Aa 4 rfl (Ad rfl) (gy 22 rfl rfl) rfl ?_
   obtain ⟨r3118,hv3119,h⟩:=h
   refine Ci 5 rfl (D7 [.slice A11 n12 c13] rfl Tryd.func11 rfl rfl rfl fun w3115 hL3116=>?_) (gy 22 rfl rfl)
   have hp3117:=pmI hL3116 .n (.c 0 rfl .n) (by kernel_rfl)
   refine Calls.mono (Yn w3115 (Fl ([]:List Cb)) x10 A11 n12 c13 (Rw.mono h14 (hL3116.toSt hp3117 (me 1 rfl))) (hL3116.hFl hp3117 (Bg [] rfl)) (hL3116.into hp3117 _) r3118 hv3119) ?_
   rintro _ w3120 ⟨rfl,hM3121⟩
   have hL3122:=hL3116.call hp3117 hM3121
   refine ⟨_,_,_,rfl,hL3122,?_⟩
   refine Aa 6 rfl (Bc (b:=false) rfl rfl) gn rfl<|Aj 7 rfl ?_
   exact D8 [0,1] (j1 r3118 h) ⟨rfl,rfl,rfl,rfl,trivial⟩ (.cons_cons _ (.slnil)) rfl
 ·have h:=Am hp26 h
  refine Bv rfl _ rfl ((nt (bf hp26)))<|Ah rfl<|Ac rfl rfl<|Aa 0 rfl (Af rfl) gn rfl<|Aj 1 rfl ?_
  refine Bq [.bool false] rfl Tryd.func7 rfl (.tmp rfl (.nil)) fun wr hLr=>?_
  have hMr:=hLr.pk0 (.c 1 rfl .n)
  show Ey w F  r (.returned (Ce [.bool false])) wr
  rw [h]
  exact ⟨rfl,hMr⟩
end Go.Proofs.YtjookebbmfiidaaDoor.K
