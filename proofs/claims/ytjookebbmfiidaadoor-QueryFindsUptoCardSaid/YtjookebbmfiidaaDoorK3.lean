/- What the machine's calls do, function by function, printed by my own tool. Condition of each: its relation holds of the answer, and what is handed in lies in memory as told. -/
import Derived.Test.YtjookebbmfiidaaDoorK2
set_option linter.unusedVariables false
set_option maxRecDepth 100000
set_option maxHeartbeats 4000000
namespace Go.Proofs.YtjookebbmfiidaaDoor.K
open Go.Proofs.YtjookebbmfiidaaDoor.B Go.Proofs.YtjookebbmfiidaaDoor.R Go.RowKit
noncomputable abbrev q38c5:=Code.fst (Code.fst (Code.snd (Df Tryd.f38)))
noncomputable abbrev Ue:=Code.snd (Code.snd (Code.snd (Code.snd (Code.snd (Code.snd (Code.snd (Df Tryd.f38)))))))
noncomputable abbrev Pq:=Code.fst (Code.fst (Code.snd (Code.fst (Code.snd (Code.snd (Code.snd (Code.snd (Code.snd (Code.snd (Df Tryd.f38))))))))))
noncomputable abbrev Xb:=Code.snd (Code.snd Pq)
noncomputable abbrev Xd3:=Code.snd (Code.snd (Code.fst (Code.fst (Code.snd Pq))))
noncomputable abbrev Xen:=Code.fst (Code.fst (Code.fst (Code.snd (Code.fst (Code.fst (Code.snd Pq))))))
noncomputable abbrev Xbf:=Code.snd (Code.snd Xd3)
noncomputable abbrev Y2:=Code.fst (Code.fst (Code.snd (Code.fst (Code.snd Xd3))))
abbrev Nv (w:World) (F:Nat→Prop) (r:List Int):Ending→World→Prop:=fun e w'=>∃ A0:Option Addr,∃ n0:Nat,∃ c0:Nat,e=.returned (.slice A0 n0 c0)∧B.Loc w w' [.own (.slice A0 n0 c0) 3 1 n0 (r.flatMap (eI .i64))] [St w []]∧Ow w.heap.size A0 n0 c0 r
noncomputable abbrev F5 (w:World) (F:Nat→Prop) (r:List Int):Cx:=⟨Tryd.prog,38,Tryd.f38,81,Nv w F  r,w⟩
def Vp (rl:(List Aj)→Int→(List Ai)→Int→(List Int)→Prop):Prop:=∀ (w:World) (F:Nat→Prop) (x1:List Aj) (x6:Int) (x7:List Ai) (x12:Int) (A2:Option Addr) (n3:Nat) (c4:Nat) (A8:Option Addr) (n9:Nat) (c10:Nat) (h5:Rw Cb w (St w []).av A2 n3 c4 x1) (h11:Rw D9 w (St w []).av A8 n9 c10 x7) (hF:∀ b,F b→b < w.heap.size∧∀ o ∈ ([]:List (List Nat)),b ∉ o) (hL0:B.Loc w w [] [Sm w.heap.size F w [],St w []]) (r:List Int) (h:rl x1 x6 x7 x12 r),Calls Tryd.prog 38 #[.slice A2 n3 c4,.int .i64 x6,.slice A8 n9 c10,.int .i64 x12] w (Nv w F  r)
theorem Xb7 (rc_trellisref20_At:(List Aj)→Int→(List Ai)→Int→(List Int)→Prop) (ih_trellisref20_At:Vp rc_trellisref20_At):Vp (Md rc_trellisref20_At):=by
 intro w F x1 x6 x7 x12 A2 n3 c4 A8 n9 c10 h5 h11 hF hL0 r h
 unfold Md at h
 refine Bl (vs:=[.slice A2 n3 c4,.int .i64 x6,.slice A8 n9 c10,.int .i64 x12]) 81 Tryd.func38 rfl Tryd.ntmps38 rfl hL0 ?_
 show G (F5 w F r) _ _ _ _
 refine Ag rfl<|Ac rfl rfl<|Aa 0 rfl (Af rfl) gn rfl<|Ah 1 rfl<|Ag rfl<|Ag rfl ?_
 obtain ⟨hb13,h⟩:=h
 obtain ⟨hb15,h⟩:=h
 obtain ⟨r20,hv21,h⟩:=h
 have hns:Region.noSelect (Code.ops q38c5)=true:=by kernel_rfl
 refine J7 [] 10 rfl rfl mix rfl (.c 0 rfl (.c 1 rfl .n))<|wfv 0 rfl (Ae rfl) gn hns rfl<|wfv 1 rfl (Ae rfl) gn hns rfl ?_
 have hr39:=Rw.readF (s:=St w []) (hl:=Dp) (h1:=Du) h5 hb13
 refine wfv 2 rfl (Ef (s:=St w []) Oq rfl rfl h5 hb13) gn hns rfl<|wfv 3 rfl (Q8 (St w []) Xc5 rfl hr39 rfl (me 1 rfl)) gn hns rfl<|wfv 4 rfl (Ae rfl) gn hns rfl<|wfv 5 rfl (Ae rfl) gn hns rfl ?_
 have hr40:=Rw.readF (s:=St w []) (hl:=Fh) (h1:=Gg) h11 hb15
 refine wfv 6 rfl (Ef (s:=St w []) Ro rfl rfl h11 hb15) gn hns rfl<|wfv 7 rfl (Q8 (St w []) Xb5 rfl hr40 rfl (me 1 rfl)) gn hns rfl ?_
 refine Cf [8] (by kernel_rfl) rfl ⟨Ej 8 rfl gn rfl (D7 [.agg #[.string ((ix x1 x6).name),.bool ((ix x1 x6).lit),.string ((ix x1 x6).field),.string ((ix x1 x6).capture),.int .i64 ((ix x1 x6).kids)],.agg #[.string ((ix x7 x12).name),.bool ((ix x7 x12).named),.string ((ix x7 x12).field),.int .i64 ((ix x7 x12).from_),.int .i64 ((ix x7 x12).to),.int .i64 ((ix x7 x12).kids),.int .i64 ((ix x7 x12).leaf)]] rfl Tryd.func67 rfl rfl rfl fun w47 hL48=>?_),trivial⟩
 have hp49:=pmI hL48 .n .n (by kernel_rfl)
 refine Calls.mono (Zm w47 (Fl ([]:List Cc)) (ix x1 x6) (ix x7 x12) (hL48.hFl hp49 (Bf [] rfl)) (hL48.into hp49 _) r20 hv21) ?_
 rintro _ w50 ⟨rfl,hM51⟩
 have hL52:=hL48.call hp49 hM51
 refine ⟨_,_,_,rfl,hL52,?_⟩
 refine ⟨Bf [] rfl,Bf [0,1] rfl,?_⟩
 refine wfv 9 rfl (Oi rfl) gn hns rfl<|Et (by kernel_rfl) ?_
 by_cases hp53:r20=true
 ·have h:=Ap hp53 h
  refine Bc rfl _ rfl ((nf hp53))<|Bo rfl<|Ag rfl<|Ac rfl rfl<|Aa 0 rfl (Ae rfl) gn rfl ?_
  refine Ci 1 rfl (Io (xs:=([x12]:List Int)) [.int .i64 x12] Qx rfl (by kernel_rfl) rfl rfl rfl rfl fun gb55 h56=>?_) gn
  refine Aa 2 rfl (Af rfl) gn rfl<|Ah 3 rfl<|Ag rfl<|Ac rfl rfl<|Aa 0 rfl (Ae rfl) gn rfl<|Aa 1 rfl (Ae rfl) gn rfl ?_
  obtain ⟨r60,hv61,h⟩:=h
  refine Ci 2 rfl (D7 [.slice A8 n9 c10,.int .i64 x12] rfl Tryd.func68 rfl rfl rfl fun w57 hL58=>?_) gn
  have hp59:=pmI hL58 .n (.c 0 rfl .n) (by kernel_rfl)
  refine Calls.mono (Zu w57 (Fl ([]:List Cc)) x7 x12 A8 n9 c10 (Rw.mono h11 (hL58.toSt hp59 (me 1 rfl))) (hL58.hFl hp59 (Bf [] rfl)) (hL58.into hp59 _) r60 hv61) ?_
  rintro _ w67 ⟨A62,n63,c64,rfl,hM68,h65⟩
  have hL69:=hL58.call hp59 hM68
  refine ⟨_,_,_,rfl,hL69,?_⟩
  refine Aa 3 rfl (Af rfl) gn rfl<|Ah 4 rfl<|Ag rfl<|Ac rfl rfl<|Aa 0 rfl (Af rfl) gn rfl<|Ah 1 rfl<|Ag rfl<|Ac rfl rfl<|Aa 0 rfl (Ae rfl) gn rfl<|Aa 1 rfl (Ba rfl rfl rfl) gn rfl<|Aa 2 rfl (Af rfl) gn rfl<|Ah 3 rfl ?_
  refine Ag rfl<|Ag rfl<|Ac rfl rfl<|Aa 0 rfl (Af rfl) gn rfl<|Ah 1 rfl<|Bv rfl<|Ei rfl ?_
  have key1:∀ s,Ar (fun (s:(List Int) × Int × Int × Int) o=>Ib x1 x6 r60 rc_trellisref20_At x7 s.1 s.2.1 s.2.2.1 s.2.2.2 o) s r→(fun (s:(List Int) × Int × Int × Int)=>∀ (A386:Option Addr) (n387:Nat) (c388:Nat) (h389:Ow w.heap.size A386 n387 c388 s.1),G (F5 w F r) [.code Pq,.inLoop Pq,.inBlock 0,.code Ue] [(0,.slice A2 n3 c4),(1,.int .i64 x6),(2,.slice A8 n9 c10),(9,.slice A386 n387 c388),(10,.slice A62 n63 c64),(11,.int .i64 s.2.1),(12,.int .i64 s.2.2.1),(13,.int .i64 s.2.2.2)] [.own (.slice A62 n63 c64) 3 1 n63 (r60.flatMap (eI .i64)),.own (.slice A386 n387 c388) 3 1 n387 (s.1.flatMap (eI .i64))] [Sm w.heap.size F w [],St w []]) s:=by
   intro s hs
   refine Ar.ind (mot:=(fun (s:(List Int) × Int × Int × Int)=>∀ (A386:Option Addr) (n387:Nat) (c388:Nat) (h389:Ow w.heap.size A386 n387 c388 s.1),G (F5 w F r) [.code Pq,.inLoop Pq,.inBlock 0,.code Ue] [(0,.slice A2 n3 c4),(1,.int .i64 x6),(2,.slice A8 n9 c10),(9,.slice A386 n387 c388),(10,.slice A62 n63 c64),(11,.int .i64 s.2.1),(12,.int .i64 s.2.2.1),(13,.int .i64 s.2.2.2)] [.own (.slice A62 n63 c64) 3 1 n63 (r60.flatMap (eI .i64)),.own (.slice A386 n387 c388) 3 1 n387 (s.1.flatMap (eI .i64))] [Sm w.heap.size F w [],St w []])) ?_ hs
   clear hs s
   intro s o1 h hO1
   obtain ⟨x385,x390,x391,x392⟩:=s
   show ∀ (A386:Option Addr) (n387:Nat) (c388:Nat) (h389:Ow w.heap.size A386 n387 c388 x385),G (F5 w F r) [.code Pq,.inLoop Pq,.inBlock 0,.code Ue] [(0,.slice A2 n3 c4),(1,.int .i64 x6),(2,.slice A8 n9 c10),(9,.slice A386 n387 c388),(10,.slice A62 n63 c64),(11,.int .i64 x390),(12,.int .i64 x391),(13,.int .i64 x392)] [.own (.slice A62 n63 c64) 3 1 n63 (r60.flatMap (eI .i64)),.own (.slice A386 n387 c388) 3 1 n387 (x385.flatMap (eI .i64))] [Sm w.heap.size F w [],St w []]
   intro A386 n387 c388 h389
   have h:Ib x1 x6 r60 rc_trellisref20_At x7 x385 x390 x391 x392 o1:=h
   unfold Ib at h
   refine Ag rfl<|Ag rfl<|Ac rfl rfl<|Aa 0 rfl (Ae rfl) gn rfl<|Aa 1 rfl (Ae rfl) gn rfl<|Aa 2 rfl (Ae rfl) gn rfl ?_
   have hr707:=Rw.readF (s:=St w []) (hl:=Dp) (h1:=Du) h5 hb13
   refine Aa 3 rfl (Ef (s:=St w []) Oq rfl rfl h5 hb13) gn rfl<|Aa 4 rfl (Jq Vz rfl) gn rfl<|Aa 5 rfl (Le (kk:=(x6:Int).toNat * 5) (j:=4) (St w []) O9 rfl hr707 rfl (me 1 rfl)) gn rfl<|Aa 6 rfl (Ba rfl rfl rfl) gn rfl<|Ah 7 rfl ?_
   by_cases hp708:x392 < (ix x1 x6).kids
   ·have h:=Ap hp708 h
    refine Bi rfl _ rfl ((decide_eq_true hp708))<|Bo rfl<|Ag rfl<|Bv rfl<|Ag rfl<|Ac rfl rfl<|Aa 0 rfl (Af rfl) gn rfl<|Ah 1 rfl<|Ag rfl<|Bv rfl<|Ei rfl ?_
    have key2:∀ s,Ar (fun (s:Int × (List Int)) o=>Fz r60 rc_trellisref20_At x1 x391 x7 x392 x385 s.1 s.2 o) s o1→(fun (s:Int × (List Int))=>∀ (A727:Option Addr) (n728:Nat) (c729:Nat) (h730:Ow w.heap.size A727 n728 c729 s.2),G (F5 w F r) [.code Xen,.inLoop Xen,.inBlock 2,.code Xd3,.inBlock 1,.code Xb,.inLoop Pq,.inBlock 0,.code Ue] [(0,.slice A2 n3 c4),(1,.int .i64 x6),(2,.slice A8 n9 c10),(9,.slice A386 n387 c388),(10,.slice A62 n63 c64),(11,.int .i64 s.1),(12,.int .i64 x391),(13,.int .i64 x392),(14,.slice A727 n728 c729)] [.own (.slice A727 n728 c729) 3 1 n728 (s.2.flatMap (eI .i64)),.own (.slice A62 n63 c64) 3 1 n63 (r60.flatMap (eI .i64)),.own (.slice A386 n387 c388) 3 1 n387 (x385.flatMap (eI .i64))] [Sm w.heap.size F w [],St w []]) s:=by
     intro s hs
     refine Ar.ind (mot:=(fun (s:Int × (List Int))=>∀ (A727:Option Addr) (n728:Nat) (c729:Nat) (h730:Ow w.heap.size A727 n728 c729 s.2),G (F5 w F r) [.code Xen,.inLoop Xen,.inBlock 2,.code Xd3,.inBlock 1,.code Xb,.inLoop Pq,.inBlock 0,.code Ue] [(0,.slice A2 n3 c4),(1,.int .i64 x6),(2,.slice A8 n9 c10),(9,.slice A386 n387 c388),(10,.slice A62 n63 c64),(11,.int .i64 s.1),(12,.int .i64 x391),(13,.int .i64 x392),(14,.slice A727 n728 c729)] [.own (.slice A727 n728 c729) 3 1 n728 (s.2.flatMap (eI .i64)),.own (.slice A62 n63 c64) 3 1 n63 (r60.flatMap (eI .i64)),.own (.slice A386 n387 c388) 3 1 n387 (x385.flatMap (eI .i64))] [Sm w.heap.size F w [],St w []])) ?_ hs
     clear hs s
     intro s o2 h hO2
     obtain ⟨x725,x726⟩:=s
     show ∀ (A727:Option Addr) (n728:Nat) (c729:Nat) (h730:Ow w.heap.size A727 n728 c729 x726),G (F5 w F r) [.code Xen,.inLoop Xen,.inBlock 2,.code Xd3,.inBlock 1,.code Xb,.inLoop Pq,.inBlock 0,.code Ue] [(0,.slice A2 n3 c4),(1,.int .i64 x6),(2,.slice A8 n9 c10),(9,.slice A386 n387 c388),(10,.slice A62 n63 c64),(11,.int .i64 x725),(12,.int .i64 x391),(13,.int .i64 x392),(14,.slice A727 n728 c729)] [.own (.slice A727 n728 c729) 3 1 n728 (x726.flatMap (eI .i64)),.own (.slice A62 n63 c64) 3 1 n63 (r60.flatMap (eI .i64)),.own (.slice A386 n387 c388) 3 1 n387 (x385.flatMap (eI .i64))] [Sm w.heap.size F w [],St w []]
     intro A727 n728 c729 h730
     have h:Fz r60 rc_trellisref20_At x1 x391 x7 x392 x385 x725 x726 o2:=h
     unfold Fz at h
     refine Ag rfl<|Ag rfl<|Ac rfl rfl<|Aa 0 rfl (Ae rfl) gn rfl<|Aa 1 rfl (Ae rfl) gn rfl<|Aa 2 rfl (D5 Iy rfl (Ow.weak hL58.env.size h65).hq) gn rfl<|Aa 3 rfl (Ba rfl rfl rfl) gn rfl<|Aa 4 rfl (Ae rfl) gn rfl ?_
     by_cases hp876:x725 < (r60.length:Int)
     ·have h:=Ap hp876 h
      refine Bh 46 rfl ((decide_eq_true hp876))<|Aa 5 rfl (Ae rfl) (gy 46 rfl rfl) rfl<|Aa 6 rfl (D5 Iy rfl h730.hq) (gy 46 rfl rfl) rfl<|Aa 7 rfl (Ba rfl rfl rfl) (gy 46 rfl rfl) rfl<|Aa 8 rfl (Aw (b:=true) rfl rfl) gn rfl<|Ah 9 rfl ?_
      by_cases hp877:(x726.length:Int)=0
      ·have h:=Ap hp877 h
       refine Bi rfl _ rfl ((eqi hp877))<|Bo rfl<|Bv rfl<|Ag rfl<|Ac rfl rfl<|Aa 0 rfl (Ae rfl) gn rfl<|Aa 1 rfl (Ae rfl) gn rfl<|Aa 2 rfl (Ae rfl) gn rfl<|Aa 3 rfl (Ae rfl) gn rfl<|Aa 4 rfl (Ae rfl) gn rfl ?_
       obtain ⟨hb878,h⟩:=h
       refine Aa 5 rfl (Ec Jb rfl rfl (Ow.weak hL58.env.size h65) hb878) gn rfl<|Aa 6 rfl (Py (.int .i64 (ix r60 x725)) 1 O9 rfl rfl (U6 (hlI .i64) hb878 rfl)) gn rfl ?_
       obtain ⟨r882,hv883,h⟩:=h
       refine Ci 7 rfl (D7 [.slice A2 n3 c4,.int .i64 x391,.slice A8 n9 c10,.int .i64 (ix r60 x725)] rfl Tryd.func38 rfl rfl rfl fun w879 hL880=>?_) gn
       have hp881:=pmI hL880 .n (.c 0 rfl (.c 1 rfl (.c 2 rfl .n))) (by kernel_rfl)
       refine Calls.mono (ih_trellisref20_At w879 (Fl ([]:List Cc)) x1 x391 x7 (ix r60 x725) A2 n3 c4 A8 n9 c10 (Rw.mono h5 (hL880.toSt hp881 (me 1 rfl))) (Rw.mono h11 (hL880.toSt hp881 (me 1 rfl))) (hL880.hFl hp881 (Bf [] rfl)) (hL880.into hp881 _) r882 hv883) ?_
       rintro _ w889 ⟨A884,n885,c886,rfl,hM890,h887⟩
       have hL891:=hL880.call hp881 hM890
       refine ⟨_,_,_,rfl,hL891,?_⟩
       refine Aa 8 rfl (Af rfl) gn rfl<|Ah 9 rfl<|Ac rfl rfl<|Aa 0 rfl (Ae rfl) gn rfl<|Aa 1 rfl (Ba rfl rfl rfl) gn rfl<|Aa 2 rfl (Af rfl) gn rfl<|Ah 3 rfl<|Bj<|Cm ?_
       have ih:=Out.inl hO2 h
       exact D6 [0,1] (ih A884 n885 c886 (Ow.weak hL880.env.size h887)) ⟨rfl,rfl,rfl,rfl,rfl,rfl,rfl,rfl,rfl,trivial⟩ (.cons_cons _ (.cons _ (.cons_cons _ (.cons_cons _ (.slnil))))) rfl
      ·have h:=Am hp877 h
       refine Bc rfl _ rfl ((nei hp877))<|E8 [.code Xd3,.inBlock 1,.code Xb,.inLoop Pq,.inBlock 0,.code Ue] rfl rfl<|Ag rfl<|Ag rfl<|Ac rfl rfl<|Aa 0 rfl (Ae rfl) gn rfl<|Aa 1 rfl (D5 Iy rfl h730.hq) gn rfl<|Aa 2 rfl (Ba rfl rfl rfl) gn rfl<|Ah 3 rfl<|Bc rfl _ rfl ((nei hp877))<|Bo rfl<|Ag rfl ?_
       refine Ag rfl<|Ac rfl rfl<|Aa 0 rfl (Af rfl) gn rfl<|Ah 1 rfl<|Bv rfl<|Ei rfl ?_
       have key3:∀ s,Ar (fun (s:(List Int) × Int) o=>Ic x726 x1 x391 x725 x392 s.1 s.2 o) s o2→(fun (s:(List Int) × Int)=>∀ (A913:Option Addr) (n914:Nat) (c915:Nat) (h916:Ow w.heap.size A913 n914 c915 s.1),G (F5 w F r) [.code Y2,.inLoop Y2,.inBlock 4,.code Xbf,.inBlock 1,.code Xb,.inLoop Pq,.inBlock 0,.code Ue] [(0,.slice A2 n3 c4),(1,.int .i64 x6),(2,.slice A8 n9 c10),(9,.slice A913 n914 c915),(10,.slice A62 n63 c64),(11,.int .i64 x725),(12,.int .i64 x391),(13,.int .i64 x392),(14,.slice A727 n728 c729),(15,.int .i64 s.2),(47,.slice A727 n728 c729),(48,.int .i64 (x726.length:Int)),(49,.bool ((x726.length:Int) == 0))] [.own (.slice A727 n728 c729) 3 1 n728 (x726.flatMap (eI .i64)),.own (.slice A62 n63 c64) 3 1 n63 (r60.flatMap (eI .i64)),.own (.slice A913 n914 c915) 3 1 n914 (s.1.flatMap (eI .i64))] [Sm w.heap.size F w [],St w []]) s:=by
        intro s hs
        refine Ar.ind (mot:=(fun (s:(List Int) × Int)=>∀ (A913:Option Addr) (n914:Nat) (c915:Nat) (h916:Ow w.heap.size A913 n914 c915 s.1),G (F5 w F r) [.code Y2,.inLoop Y2,.inBlock 4,.code Xbf,.inBlock 1,.code Xb,.inLoop Pq,.inBlock 0,.code Ue] [(0,.slice A2 n3 c4),(1,.int .i64 x6),(2,.slice A8 n9 c10),(9,.slice A913 n914 c915),(10,.slice A62 n63 c64),(11,.int .i64 x725),(12,.int .i64 x391),(13,.int .i64 x392),(14,.slice A727 n728 c729),(15,.int .i64 s.2),(47,.slice A727 n728 c729),(48,.int .i64 (x726.length:Int)),(49,.bool ((x726.length:Int) == 0))] [.own (.slice A727 n728 c729) 3 1 n728 (x726.flatMap (eI .i64)),.own (.slice A62 n63 c64) 3 1 n63 (r60.flatMap (eI .i64)),.own (.slice A913 n914 c915) 3 1 n914 (s.1.flatMap (eI .i64))] [Sm w.heap.size F w [],St w []])) ?_ hs
        clear hs s
        intro s o3 h hO3
        obtain ⟨x912,x917⟩:=s
        show ∀ (A913:Option Addr) (n914:Nat) (c915:Nat) (h916:Ow w.heap.size A913 n914 c915 x912),G (F5 w F r) [.code Y2,.inLoop Y2,.inBlock 4,.code Xbf,.inBlock 1,.code Xb,.inLoop Pq,.inBlock 0,.code Ue] [(0,.slice A2 n3 c4),(1,.int .i64 x6),(2,.slice A8 n9 c10),(9,.slice A913 n914 c915),(10,.slice A62 n63 c64),(11,.int .i64 x725),(12,.int .i64 x391),(13,.int .i64 x392),(14,.slice A727 n728 c729),(15,.int .i64 x917),(47,.slice A727 n728 c729),(48,.int .i64 (x726.length:Int)),(49,.bool ((x726.length:Int) == 0))] [.own (.slice A727 n728 c729) 3 1 n728 (x726.flatMap (eI .i64)),.own (.slice A62 n63 c64) 3 1 n63 (r60.flatMap (eI .i64)),.own (.slice A913 n914 c915) 3 1 n914 (x912.flatMap (eI .i64))] [Sm w.heap.size F w [],St w []]
        intro A913 n914 c915 h916
        have h:Ic x726 x1 x391 x725 x392 x912 x917 o3:=h
        unfold Ic at h
        refine Ag rfl<|Ag rfl<|Ac rfl rfl<|Aa 0 rfl (Ae rfl) gn rfl<|Aa 1 rfl (Ae rfl) gn rfl<|Aa 2 rfl (D5 Iy rfl h730.hq) gn rfl<|Aa 3 rfl (Ba rfl rfl rfl) gn rfl<|Ah 4 rfl ?_
        by_cases hp937:x917 < (x726.length:Int)
        ·have h:=Ap hp937 h
         refine Bi rfl _ rfl ((decide_eq_true hp937))<|Bo rfl<|Ag rfl<|Bv rfl<|Ac rfl rfl<|Aa 0 rfl (Ae rfl) gn rfl<|Aa 1 rfl (Ae rfl) gn rfl<|Aa 2 rfl (Ae rfl) gn rfl ?_
         obtain ⟨hb938,h⟩:=h
         refine Aa 3 rfl (Ec Jb rfl rfl h730 hb938) gn rfl<|Aa 4 rfl (Py (.int .i64 (ix x726 x917)) 0 O9 rfl rfl (U6 (hlI .i64) hb938 rfl)) gn rfl ?_
         refine Ci 5 rfl (Io (xs:=([ix x726 x917]:List Int)) [.int .i64 (ix x726 x917)] Qx rfl (by kernel_rfl) rfl rfl rfl rfl fun gb940 h941=>?_) gn
         obtain ⟨x945,hv946,h⟩:=h
         obtain ⟨hb947,h⟩:=h
         refine Ci 6 rfl (Pn (zs:=x945) (cells':=x945.flatMap (eI .i64)) 3 Y5 rfl rfl rfl h916 (Nat.le_refl _) (Src.ownF (hl:=(hlI .i64)) (h1:=(F9 .i64)) 0 rfl h941) (by rw [hv946,List.flatMap_append] <;> rfl) (H9 hv946 h941.hq) hb947 rfl rfl fun A942 c943 h944=>?_) gn
         refine Aa 7 rfl (Af rfl) gn rfl<|Ah 8 rfl<|Bj<|Ac rfl rfl<|Aa 0 rfl (Ae rfl) gn rfl<|Aa 1 rfl (Ba rfl rfl rfl) gn rfl<|Aa 2 rfl (Af rfl) gn rfl<|Ah 3 rfl<|Cm ?_
         have ih:=Out.inl hO3 h
         exact D6 [0,1] (ih A942 (n914 + 1) c943 h944) ⟨rfl,rfl,rfl,rfl,rfl,rfl,rfl,rfl,rfl,rfl,rfl,rfl,rfl,trivial⟩ (.cons _ (.cons_cons _ (.cons_cons _ (.cons_cons _ (.slnil))))) rfl
        ·have h:=Am hp937 h
         refine Bc rfl _ rfl ((decide_eq_false hp937))<|E8 [.code Xbf,.inBlock 1,.code Xb,.inLoop Pq,.inBlock 0,.code Ue] rfl rfl<|Ac rfl rfl<|Aa 0 rfl (Ae rfl) gn rfl<|Aa 1 rfl (Ae rfl) gn rfl ?_
         obtain ⟨r951,hv952,h⟩:=h
         refine Ci 2 rfl (D7 [.slice A2 n3 c4,.int .i64 x391] rfl Tryd.func51 rfl rfl rfl fun w948 hL949=>?_) gn
         have hp950:=pmI hL949 .n (.c 0 rfl (.c 1 rfl (.c 2 rfl .n))) (by kernel_rfl)
         refine Calls.mono (Px w948 (Fl ([]:List Cc)) x1 x391 A2 n3 c4 (Rw.mono h5 (hL949.toSt hp950 (me 1 rfl))) (hL949.hFl hp950 (Bf [] rfl)) (hL949.into hp950 _) r951 hv952) ?_
         rintro _ w953 ⟨rfl,hM954⟩
         have hL955:=hL949.call hp950 hM954
         refine ⟨_,_,_,rfl,hL955,?_⟩
         refine Aa 3 rfl (Af rfl) gn rfl<|Ah 4 rfl<|Bj<|Ac rfl rfl<|Aa 0 rfl (Ae rfl) gn rfl<|Aa 1 rfl (Ba rfl rfl rfl) gn rfl<|Aa 2 rfl (Af rfl) gn rfl<|Ah 3 rfl<|Cm ?_
         have h:=Out.inr hO3 h
         have h:=Out.inr hO2 h
         have ih:=Out.inl hO1 h
         exact D6 [0,1] (ih A913 n914 c915 h916) ⟨rfl,rfl,rfl,rfl,rfl,rfl,rfl,rfl,trivial⟩ (.cons _ (.cons_cons _ (.cons_cons _ (.slnil)))) rfl
       exact D6 [0,1] (key3 _ h A386 n387 c388 h389) ⟨rfl,rfl,rfl,rfl,rfl,rfl,rfl,rfl,rfl,rfl,rfl,rfl,rfl,trivial⟩ (.cons_cons _ (.cons_cons _ (.cons_cons _ (.slnil)))) rfl
     ·have h:=Am hp876 h
      refine Bh 46 rfl ((decide_eq_false hp876))<|Ad 5 rfl (ps 46 rfl rfl rfl)<|Ad 6 rfl (ps 46 rfl rfl rfl)<|Ad 7 rfl (ps 46 rfl rfl rfl)<|Aa 8 rfl (Aw (b:=false) rfl rfl) gn rfl<|Ah 9 rfl<|Bc rfl _ rfl (rfl)<|E8 [.code Xd3,.inBlock 1,.code Xb,.inLoop Pq,.inBlock 0,.code Ue] rfl rfl<|Ag rfl<|Ag rfl<|Ac rfl rfl<|Aa 0 rfl (Ae rfl) gn rfl ?_
      refine Aa 1 rfl (D5 Iy rfl h730.hq) gn rfl<|Aa 2 rfl (Ba rfl rfl rfl) gn rfl<|Ah 3 rfl ?_
      by_cases hp956:(x726.length:Int)=0
      ·have h:=Ap hp956 h
       refine Bi rfl _ rfl ((eqi hp956))<|Ag rfl<|Ac rfl rfl<|Aa 0 rfl (Af rfl) gn rfl<|Ah 1 rfl<|Td 3 1 ?_
       have h:=Out.inr hO2 h
       have h:=Out.inr hO1 h
       refine Bg [.slice none 0 0] rfl Tryd.func38 rfl (.tmp rfl (.nil)) fun wr hLr=>?_
       have hMr:=hLr.pkI (.c 0 rfl .n) (.c 1 rfl (.c 2 rfl (.c 3 rfl .n))) (by kernel_rfl) (.c 1 rfl .n)
       show Nv w F  r (.returned (Bz [.slice none 0 0])) wr
       rw [h]
       exact ⟨none,0,0,rfl,hMr,(Ow.nil (z:=w.heap.size))⟩
      ·have h:=Am hp956 h
       refine Bc rfl _ rfl ((nei hp956))<|Bo rfl<|Ag rfl<|Ag rfl<|Ac rfl rfl<|Aa 0 rfl (Af rfl) gn rfl<|Ah 1 rfl<|Bv rfl<|Ei rfl ?_
       have key4:∀ s,Ar (fun (s:(List Int) × Int) o=>Ru x726 x1 x391 x725 x392 s.1 s.2 o) s o2→(fun (s:(List Int) × Int)=>∀ (A978:Option Addr) (n979:Nat) (c980:Nat) (h981:Ow w.heap.size A978 n979 c980 s.1),G (F5 w F r) [.code Y2,.inLoop Y2,.inBlock 4,.code Xbf,.inBlock 1,.code Xb,.inLoop Pq,.inBlock 0,.code Ue] [(0,.slice A2 n3 c4),(1,.int .i64 x6),(2,.slice A8 n9 c10),(9,.slice A978 n979 c980),(10,.slice A62 n63 c64),(11,.int .i64 x725),(12,.int .i64 x391),(13,.int .i64 x392),(14,.slice A727 n728 c729),(15,.int .i64 s.2)] [.own (.slice A727 n728 c729) 3 1 n728 (x726.flatMap (eI .i64)),.own (.slice A62 n63 c64) 3 1 n63 (r60.flatMap (eI .i64)),.own (.slice A978 n979 c980) 3 1 n979 (s.1.flatMap (eI .i64))] [Sm w.heap.size F w [],St w []]) s:=by
        intro s hs
        refine Ar.ind (mot:=(fun (s:(List Int) × Int)=>∀ (A978:Option Addr) (n979:Nat) (c980:Nat) (h981:Ow w.heap.size A978 n979 c980 s.1),G (F5 w F r) [.code Y2,.inLoop Y2,.inBlock 4,.code Xbf,.inBlock 1,.code Xb,.inLoop Pq,.inBlock 0,.code Ue] [(0,.slice A2 n3 c4),(1,.int .i64 x6),(2,.slice A8 n9 c10),(9,.slice A978 n979 c980),(10,.slice A62 n63 c64),(11,.int .i64 x725),(12,.int .i64 x391),(13,.int .i64 x392),(14,.slice A727 n728 c729),(15,.int .i64 s.2)] [.own (.slice A727 n728 c729) 3 1 n728 (x726.flatMap (eI .i64)),.own (.slice A62 n63 c64) 3 1 n63 (r60.flatMap (eI .i64)),.own (.slice A978 n979 c980) 3 1 n979 (s.1.flatMap (eI .i64))] [Sm w.heap.size F w [],St w []])) ?_ hs
        clear hs s
        intro s o3 h hO3
        obtain ⟨x977,x982⟩:=s
        show ∀ (A978:Option Addr) (n979:Nat) (c980:Nat) (h981:Ow w.heap.size A978 n979 c980 x977),G (F5 w F r) [.code Y2,.inLoop Y2,.inBlock 4,.code Xbf,.inBlock 1,.code Xb,.inLoop Pq,.inBlock 0,.code Ue] [(0,.slice A2 n3 c4),(1,.int .i64 x6),(2,.slice A8 n9 c10),(9,.slice A978 n979 c980),(10,.slice A62 n63 c64),(11,.int .i64 x725),(12,.int .i64 x391),(13,.int .i64 x392),(14,.slice A727 n728 c729),(15,.int .i64 x982)] [.own (.slice A727 n728 c729) 3 1 n728 (x726.flatMap (eI .i64)),.own (.slice A62 n63 c64) 3 1 n63 (r60.flatMap (eI .i64)),.own (.slice A978 n979 c980) 3 1 n979 (x977.flatMap (eI .i64))] [Sm w.heap.size F w [],St w []]
        intro A978 n979 c980 h981
        have h:Ru x726 x1 x391 x725 x392 x977 x982 o3:=h
        unfold Ru at h
        refine Ag rfl<|Ag rfl<|Ac rfl rfl<|Aa 0 rfl (Ae rfl) gn rfl<|Aa 1 rfl (Ae rfl) gn rfl<|Aa 2 rfl (D5 Iy rfl h730.hq) gn rfl<|Aa 3 rfl (Ba rfl rfl rfl) gn rfl<|Ah 4 rfl ?_
        by_cases hp1002:x982 < (x726.length:Int)
        ·have h:=Ap hp1002 h
         refine Bi rfl _ rfl ((decide_eq_true hp1002))<|Bo rfl<|Ag rfl<|Bv rfl<|Ac rfl rfl<|Aa 0 rfl (Ae rfl) gn rfl<|Aa 1 rfl (Ae rfl) gn rfl<|Aa 2 rfl (Ae rfl) gn rfl ?_
         obtain ⟨hb1003,h⟩:=h
         refine Aa 3 rfl (Ec Jb rfl rfl h730 hb1003) gn rfl<|Aa 4 rfl (Py (.int .i64 (ix x726 x982)) 0 O9 rfl rfl (U6 (hlI .i64) hb1003 rfl)) gn rfl ?_
         refine Ci 5 rfl (Io (xs:=([ix x726 x982]:List Int)) [.int .i64 (ix x726 x982)] Qx rfl (by kernel_rfl) rfl rfl rfl rfl fun gb1005 h1006=>?_) gn
         obtain ⟨x1010,hv1011,h⟩:=h
         obtain ⟨hb1012,h⟩:=h
         refine Ci 6 rfl (Pn (zs:=x1010) (cells':=x1010.flatMap (eI .i64)) 3 Y5 rfl rfl rfl h981 (Nat.le_refl _) (Src.ownF (hl:=(hlI .i64)) (h1:=(F9 .i64)) 0 rfl h1006) (by rw [hv1011,List.flatMap_append] <;> rfl) (H9 hv1011 h1006.hq) hb1012 rfl rfl fun A1007 c1008 h1009=>?_) gn
         refine Aa 7 rfl (Af rfl) gn rfl<|Ah 8 rfl<|Bj<|Ac rfl rfl<|Aa 0 rfl (Ae rfl) gn rfl<|Aa 1 rfl (Ba rfl rfl rfl) gn rfl<|Aa 2 rfl (Af rfl) gn rfl<|Ah 3 rfl<|Cm ?_
         have ih:=Out.inl hO3 h
         exact D6 [0,1] (ih A1007 (n979 + 1) c1008 h1009) ⟨rfl,rfl,rfl,rfl,rfl,rfl,rfl,rfl,rfl,rfl,trivial⟩ (.cons _ (.cons_cons _ (.cons_cons _ (.cons_cons _ (.slnil))))) rfl
        ·have h:=Am hp1002 h
         refine Bc rfl _ rfl ((decide_eq_false hp1002))<|E8 [.code Xbf,.inBlock 1,.code Xb,.inLoop Pq,.inBlock 0,.code Ue] rfl rfl<|Ac rfl rfl<|Aa 0 rfl (Ae rfl) gn rfl<|Aa 1 rfl (Ae rfl) gn rfl ?_
         obtain ⟨r1016,hv1017,h⟩:=h
         refine Ci 2 rfl (D7 [.slice A2 n3 c4,.int .i64 x391] rfl Tryd.func51 rfl rfl rfl fun w1013 hL1014=>?_) gn
         have hp1015:=pmI hL1014 .n (.c 0 rfl (.c 1 rfl (.c 2 rfl .n))) (by kernel_rfl)
         refine Calls.mono (Px w1013 (Fl ([]:List Cc)) x1 x391 A2 n3 c4 (Rw.mono h5 (hL1014.toSt hp1015 (me 1 rfl))) (hL1014.hFl hp1015 (Bf [] rfl)) (hL1014.into hp1015 _) r1016 hv1017) ?_
         rintro _ w1018 ⟨rfl,hM1019⟩
         have hL1020:=hL1014.call hp1015 hM1019
         refine ⟨_,_,_,rfl,hL1020,?_⟩
         refine Aa 3 rfl (Af rfl) gn rfl<|Ah 4 rfl<|Bj<|Ac rfl rfl<|Aa 0 rfl (Ae rfl) gn rfl<|Aa 1 rfl (Ba rfl rfl rfl) gn rfl<|Aa 2 rfl (Af rfl) gn rfl<|Ah 3 rfl<|Cm ?_
         have h:=Out.inr hO3 h
         have h:=Out.inr hO2 h
         have ih:=Out.inl hO1 h
         exact D6 [0,1] (ih A978 n979 c980 h981) ⟨rfl,rfl,rfl,rfl,rfl,rfl,rfl,rfl,trivial⟩ (.cons _ (.cons_cons _ (.cons_cons _ (.slnil)))) rfl
       exact D6 [0,1] (key4 _ h A386 n387 c388 h389) ⟨rfl,rfl,rfl,rfl,rfl,rfl,rfl,rfl,rfl,rfl,trivial⟩ (.cons_cons _ (.cons_cons _ (.cons_cons _ (.slnil)))) rfl
    refine Td 3 1 ?_
    exact D6 [0,1] (key2 _ h none 0 0 (Ow.nil (z:=w.heap.size))) ⟨rfl,rfl,rfl,rfl,rfl,rfl,rfl,rfl,rfl,trivial⟩ (.cons_cons _ (.cons_cons _ (.cons_cons _ (.slnil)))) rfl
   ·have h:=Am hp708 h
    refine Bc rfl _ rfl ((decide_eq_false hp708))<|E8 [.code Ue] rfl rfl<|Ag rfl<|Ac rfl rfl<|Aa 0 rfl (Ae rfl) gn rfl<|Aa 1 rfl (Af rfl) gn rfl<|Ah 2 rfl ?_
    have h:=Out.inr hO1 h
    refine Bg [.slice A386 n387 c388] rfl Tryd.func38 rfl (.tmp rfl (.nil)) fun wr hLr=>?_
    have hMr:=hLr.pkI (.c 1 rfl .n) (.c 0 rfl .n) (by kernel_rfl) (.c 1 rfl .n)
    show Nv w F  r (.returned (Bz [.slice A386 n387 c388])) wr
    rw [h]
    exact ⟨A386,n387,c388,rfl,hMr,h389⟩
  exact D6 [0,1] (key1 _ h (some ⟨gb55,0,none⟩) 1 1 h56) ⟨rfl,rfl,rfl,rfl,rfl,rfl,rfl,rfl,trivial⟩ (.cons_cons _ (.cons_cons _ (.slnil))) rfl
 ·have h:=Am hp53 h
  refine Bi rfl _ rfl ((nt (bf hp53)))<|Ag rfl<|Ac rfl rfl<|Aa 0 rfl (Af rfl) gn rfl<|Ah 1 rfl<|Td 3 1 ?_
  refine Bg [.slice none 0 0] rfl Tryd.func38 rfl (.tmp rfl (.nil)) fun wr hLr=>?_
  have hMr:=hLr.pkI (.c 0 rfl .n) .n (by kernel_rfl) (.c 1 rfl .n)
  show Nv w F  r (.returned (Bz [.slice none 0 0])) wr
  rw [h]
  exact ⟨none,0,0,rfl,hMr,(Ow.nil (z:=w.heap.size))⟩
theorem Y6:∀ n,Vp (Gp n)
 | 0=>fun w F x1 x6 x7 x12 A2 n3 c4 A8 n9 c10 h5 h11 hF hL0 r h=>h.elim
 | n + 1=>by
  have ih:=Y6 n
  exact Xb7 _ ih
theorem Xb2 (w:World) (F:Nat→Prop) (x1:List Aj) (x6:Int) (x7:List Ai) (x12:Int) (A2:Option Addr) (n3:Nat) (c4:Nat) (A8:Option Addr) (n9:Nat) (c10:Nat) (h5:Rw Cb w (St w []).av A2 n3 c4 x1) (h11:Rw D9 w (St w []).av A8 n9 c10 x7) (hF:∀ b,F b→b < w.heap.size∧∀ o ∈ ([]:List (List Nat)),b ∉ o) (hL0:B.Loc w w [] [Sm w.heap.size F w [],St w []]) (r:List Int) (h:Y1 x1 x6 x7 x12 r):Calls Tryd.prog 38 #[.slice A2 n3 c4,.int .i64 x6,.slice A8 n9 c10,.int .i64 x12] w (Nv w F  r):=by
 obtain ⟨n,h⟩:=h
 exact (Y6 n) w F x1 x6 x7 x12 A2 n3 c4 A8 n9 c10 h5 h11 hF hL0 r h
noncomputable abbrev q69c8:=Code.snd (Code.snd (Code.snd (Code.snd (Df Tryd.f69))))
noncomputable abbrev q69c14:=Code.snd q69c8
abbrev Oh (w:World) (F:Nat→Prop) (r:ByteArray):Ending→World→Prop:=fun e w'=>e=.returned (.string r)∧B.Loc w w' [] [St w []]
noncomputable abbrev Rx (w:World) (F:Nat→Prop) (r:ByteArray):Cx:=⟨Tryd.prog,69,Tryd.f69,26,Oh w F  r,w⟩
theorem Uf (w:World) (F:Nat→Prop) (x1:Ai) (x2:ByteArray) (hF:∀ b,F b→b < w.heap.size∧∀ o ∈ ([]:List (List Nat)),b ∉ o) (hL0:B.Loc w w [] [Sm w.heap.size F w [],St w []]) (r:ByteArray) (h:Na x1 x2 r):Calls Tryd.prog 69 #[.agg #[.string x1.name,.bool x1.named,.string x1.field,.int .i64 x1.from_,.int .i64 x1.to,.int .i64 x1.kids,.int .i64 x1.leaf],.string x2] w (Oh w F  r):=by
 unfold Na at h
 refine Bl (vs:=[.agg #[.string x1.name,.bool x1.named,.string x1.field,.int .i64 x1.from_,.int .i64 x1.to,.int .i64 x1.kids,.int .i64 x1.leaf],.string x2]) 26 Tryd.func69 rfl Tryd.ntmps69 rfl hL0 ?_
 show G (Rx w F r) _ _ _ _
 refine Ag rfl<|Ac rfl rfl ?_
 refine Ci 0 rfl (O3 [.string x1.name,.bool x1.named,.string x1.field,.int .i64 x1.from_,.int .i64 x1.to,.int .i64 x1.kids,.int .i64 x1.leaf] rfl rfl rfl fun gb3=>?_) gn
 refine Aa 1 rfl (Af rfl) gn rfl<|Ah 2 rfl<|Ag rfl<|Ac rfl rfl<|Aa 0 rfl (Bd Xkw rfl) gn rfl<|Aa 1 rfl (Au 0 O9 rfl rfl rfl) gn rfl<|Aa 2 rfl (Af rfl) gn rfl<|Ah 3 rfl<|Ag rfl<|Ac rfl rfl<|Aa 0 rfl (Bd Xku rfl) gn rfl<|Aa 1 rfl (Au 0 O9 rfl rfl rfl) gn rfl ?_
 refine Aa 2 rfl (Af rfl) gn rfl<|Ah 3 rfl<|Ag rfl<|Ag rfl<|Ac rfl rfl<|Aa 0 rfl (Ae rfl) gn rfl<|Aa 1 rfl (Ba rfl rfl rfl) gn rfl<|Ah 2 rfl ?_
 have j1:∀ (x7:Int) (h:Nr x1 x2 x7 r) ,G (Rx w F r) [.code q69c8] [(1,.string x2),(5,.int .i64 x7),(6,.int .i64 x1.to)] [] [Sm w.heap.size F w [],St w []]:=by
  intro x7 h
  unfold Nr at h
  refine Ag rfl<|Ag rfl<|Ac rfl rfl<|Aa 0 rfl (Ae rfl) gn rfl<|Aa 1 rfl (Ae rfl) gn rfl<|Aa 2 rfl (Vb Un rfl) gn rfl<|Aa 3 rfl (Ba rfl rfl rfl) gn rfl<|Ah 4 rfl ?_
  have j2:∀ (x10:Int) (h:Nu x7 x2 x10 r) ,G (Rx w F r) [.code q69c14] [(1,.string x2),(5,.int .i64 x7),(6,.int .i64 x10)] [] [Sm w.heap.size F w [],St w []]:=by
   intro x10 h
   unfold Nu at h
   refine Ag rfl<|Ag rfl<|Ac rfl rfl<|Aa 0 rfl (Ae rfl) gn rfl<|Aa 1 rfl (Ae rfl) gn rfl<|Aa 2 rfl (Ba rfl rfl rfl) gn rfl<|Ah 3 rfl ?_
   by_cases hp11:x7≥x10
   ·have h:=Ap hp11 h
    refine Bi rfl _ rfl ((decide_eq_true hp11))<|Ag rfl<|Ac rfl rfl<|Aa 0 rfl (Af rfl) gn rfl<|Ah 1 rfl ?_
    refine Bg [.string (⟨#[]⟩:ByteArray)] rfl Tryd.func69 rfl (.tmp rfl (.nil)) fun wr hLr=>?_
    have hMr:=hLr.pk0 (.c 1 rfl .n)
    show Oh w F  r (.returned (Bz [.string (⟨#[]⟩:ByteArray)])) wr
    rw [h]
    exact ⟨rfl,hMr⟩
   ·have h:=Am hp11 h
    refine Bc rfl _ rfl ((decide_eq_false hp11))<|Bo rfl<|Ag rfl<|Ac rfl rfl<|Aa 0 rfl (Ae rfl) gn rfl<|Aa 1 rfl (Ae rfl) gn rfl<|Aa 2 rfl (Ae rfl) gn rfl ?_
    obtain ⟨hb12,h⟩:=h
    refine Aa 3 rfl (v_cutS x7 x10 Un rfl (.inr ⟨_,_,rfl,rfl⟩) (.inr ⟨_,_,rfl,rfl⟩) ⟨hb12.1,hb12.2.1⟩ hb12.2.2) gn rfl<|Aa 4 rfl (Af rfl) gn rfl<|Ah 5 rfl ?_
    refine Bg [.string (x2.extract (x7:Int).toNat (x10:Int).toNat)] rfl Tryd.func69 rfl (.tmp rfl (.nil)) fun wr hLr=>?_
    have hMr:=hLr.pk0 (.c 1 rfl .n)
    show Oh w F  r (.returned (Bz [.string (x2.extract (x7:Int).toNat (x10:Int).toNat)])) wr
    rw [h]
    exact ⟨rfl,hMr⟩
  by_cases hp8:x1.to > (x2.size:Int)
  ·have h:=Ap hp8 h
   refine Bi rfl _ rfl ((decide_eq_true hp8))<|Ac rfl rfl<|Aa 0 rfl (Ae rfl) gn rfl<|Aa 1 rfl (Vb Un rfl) gn rfl<|Aa 2 rfl (Af rfl) gn rfl<|Ah 3 rfl ?_
   exact D6 [0,1] (j2 (x2.size:Int) h) ⟨rfl,rfl,rfl,trivial⟩ (.slnil) rfl
  ·have h:=Am hp8 h
   refine Bc rfl _ rfl ((decide_eq_false hp8))<|Bo rfl ?_
   exact D6 [0,1] (j2 x1.to h) ⟨rfl,rfl,rfl,trivial⟩ (.slnil) rfl
 by_cases hp5:x1.from_ < 0
 ·have h:=Ap hp5 h
  refine Bi rfl _ rfl ((decide_eq_true hp5))<|Ac rfl rfl<|Aa 0 rfl (Af rfl) gn rfl<|Ah 1 rfl ?_
  exact D6 [0,1] (j1 0 h) ⟨rfl,rfl,rfl,trivial⟩ (.cons _ (.slnil)) rfl
 ·have h:=Am hp5 h
  refine Bc rfl _ rfl ((decide_eq_false hp5))<|Bo rfl ?_
  exact D6 [0,1] (j1 x1.from_ h) ⟨rfl,rfl,rfl,trivial⟩ (.cons _ (.slnil)) rfl
noncomputable abbrev Xja:=Code.snd (Code.snd (Df Tryd.f39))
noncomputable abbrev Xdu:=Code.fst (Code.fst (Code.snd (Code.fst (Code.snd (Df Tryd.f39)))))
noncomputable abbrev q39c16:=Code.snd (Code.snd Xdu)
noncomputable abbrev q39c25:=Code.snd (Code.snd (Code.snd (Code.snd (Code.fst (Code.fst (Code.snd Xdu))))))
abbrev Qd (w:World) (F:Nat→Prop) (r:Bool):Ending→World→Prop:=fun e w'=>e=.returned (.bool r)∧B.Loc w w' [] [St w []]
noncomputable abbrev N8 (w:World) (F:Nat→Prop) (r:Bool):Cx:=⟨Tryd.prog,39,Tryd.f39,60,Qd w F  r,w⟩
theorem Zd (w:World) (F:Nat→Prop) (x1:Aq) (x10:List Ai) (x15:ByteArray) (x16:List Int) (A2:Option Addr) (n3:Nat) (c4:Nat) (A6:Option Addr) (n7:Nat) (c8:Nat) (A11:Option Addr) (n12:Nat) (c13:Nat) (A17:Option Addr) (n18:Nat) (c19:Nat) (h5:Rw Cb w (St w []).av A2 n3 c4 x1.nodes) (h9:Rw Dq w (St w []).av A6 n7 c8 x1.conds) (h14:Rw D9 w (St w []).av A11 n12 c13 x10) (h20:Rw (Gs .i64) w (St w []).av A17 n18 c19 x16) (hF:∀ b,F b→b < w.heap.size∧∀ o ∈ ([]:List (List Nat)),b ∉ o) (hL0:B.Loc w w [] [Sm w.heap.size F w [],St w []]) (r:Bool) (h:S9 x1 x10 x15 x16 r):Calls Tryd.prog 39 #[.agg #[.slice A2 n3 c4,.slice A6 n7 c8],.slice A11 n12 c13,.string x15,.slice A17 n18 c19] w (Qd w F  r):=by
 unfold S9 at h
 refine Bl (vs:=[.agg #[.slice A2 n3 c4,.slice A6 n7 c8],.slice A11 n12 c13,.string x15,.slice A17 n18 c19]) 60 Tryd.func39 rfl Tryd.ntmps39 rfl hL0 ?_
 show G (N8 w F r) _ _ _ _
 refine Ag rfl<|Ac rfl rfl ?_
 refine Ci 0 rfl (O3 [.slice A2 n3 c4,.slice A6 n7 c8] rfl rfl rfl fun gb21=>?_) gn
 refine Aa 1 rfl (Af rfl) gn rfl<|Ah 2 rfl<|Ag rfl<|Ag rfl<|Ac rfl rfl<|Aa 0 rfl (Af rfl) gn rfl<|Ah 1 rfl<|Bv rfl<|Ei rfl ?_
 have key1:∀ s,Ar (fun (s:Int) o=>I5 x1 x16 x10 x15 s o) s r→(fun (s:Int)=>∀ (_:Unit),G (N8 w F r) [.code Xdu,.inLoop Xdu,.inBlock 0,.code Xja] [(1,.slice A11 n12 c13),(2,.string x15),(3,.slice A17 n18 c19),(4,.pointer (some ⟨gb21,0,none⟩)),(9,.int .i64 s)] [.box gb21 25 [.slice A2 n3 c4,.slice A6 n7 c8]] [Sm w.heap.size F w [],St w []]) s:=by
  intro s hs
  refine Ar.ind (mot:=(fun (s:Int)=>∀ (_:Unit),G (N8 w F r) [.code Xdu,.inLoop Xdu,.inBlock 0,.code Xja] [(1,.slice A11 n12 c13),(2,.string x15),(3,.slice A17 n18 c19),(4,.pointer (some ⟨gb21,0,none⟩)),(9,.int .i64 s)] [.box gb21 25 [.slice A2 n3 c4,.slice A6 n7 c8]] [Sm w.heap.size F w [],St w []])) ?_ hs
  clear hs s
  intro x93 o1 h hO1
  show ∀ (_:Unit),G (N8 w F r) [.code Xdu,.inLoop Xdu,.inBlock 0,.code Xja] [(1,.slice A11 n12 c13),(2,.string x15),(3,.slice A17 n18 c19),(4,.pointer (some ⟨gb21,0,none⟩)),(9,.int .i64 x93)] [.box gb21 25 [.slice A2 n3 c4,.slice A6 n7 c8]] [Sm w.heap.size F w [],St w []]
  intro _
  have h:I5 x1 x16 x10 x15 x93 o1:=h
  unfold I5 at h
  refine Ag rfl<|Ag rfl<|Ac rfl rfl<|Aa 0 rfl (Ae rfl) gn rfl<|Aa 1 rfl (Bd Ik rfl) gn rfl<|Aa 2 rfl (Au 0 U8 rfl rfl rfl) gn rfl<|Aa 3 rfl (D5 Yu rfl h9.hq) gn rfl<|Aa 4 rfl (Ba rfl rfl rfl) gn rfl<|Ah 5 rfl ?_
  by_cases hp163:x93 < (x1.conds.length:Int)
  ·have h:=Ap hp163 h
   refine Bi rfl _ rfl ((decide_eq_true hp163))<|Bo rfl<|Ag rfl<|Bv rfl<|Ag rfl<|Ac rfl rfl<|Aa 0 rfl (Bd Ik rfl) gn rfl<|Aa 1 rfl (Au 0 U8 rfl rfl rfl) gn rfl<|Aa 2 rfl (Ae rfl) gn rfl ?_
   obtain ⟨hb164,h⟩:=h
   have hr165:=Rw.readF (s:=St w []) (hl:=Nh) (h1:=Nc) h9 hb164
   refine Aa 3 rfl (Ef (s:=St w []) Zl rfl rfl h9 hb164) gn rfl<|Aa 4 rfl (Q8 (St w []) Xf3 rfl hr165 rfl (me 1 rfl)) gn rfl ?_
   refine Ci 5 rfl (G9 [.bool false,.string (⟨#[]⟩:ByteArray),.string (⟨#[]⟩:ByteArray),.string (⟨#[]⟩:ByteArray)] zr_47 rfl fun gb166=>?_) gn
   refine Ci 6 rfl (I9 (vs:=[.bool ((ix x1.conds x93).not),.string ((ix x1.conds x93).a),.string ((ix x1.conds x93).b),.string ((ix x1.conds x93).text)]) (cs':=[.bool ((ix x1.conds x93).not),.string ((ix x1.conds x93).a),.string ((ix x1.conds x93).b),.string ((ix x1.conds x93).text)]) (M':=[.box gb166 47 [.bool ((ix x1.conds x93).not),.string ((ix x1.conds x93).a),.string ((ix x1.conds x93).b),.string ((ix x1.conds x93).text)],.box gb21 25 [.slice A2 n3 c4,.slice A6 n7 c8]]) 0 sz_47 rfl rfl rfl rfl rfl rfl rfl rfl rfl ?_) gn
   refine Ah 7 rfl<|Ag rfl<|Ac rfl rfl<|Aa 0 rfl (Ae rfl) gn rfl<|Aa 1 rfl (Ae rfl) gn rfl<|Aa 2 rfl (Ji [.slice A2 n3 c4,.slice A6 n7 c8] 1 O5 rfl rfl rfl rfl) gn rfl<|Aa 3 rfl (Bd Xdh rfl) gn rfl<|Aa 4 rfl (Au 0 Gw rfl rfl rfl) gn rfl ?_
   obtain ⟨r171,hv172,h⟩:=h
   refine Ci 5 rfl (D7 [.agg #[.slice A2 n3 c4,.slice A6 n7 c8],.string ((ix x1.conds x93).a)] rfl Tryd.func53 rfl rfl rfl fun w168 hL169=>?_) gn
   have hp170:=pmI hL169 .n (.c 0 rfl (.c 1 rfl .n)) (by kernel_rfl)
   refine Calls.mono (Jk w168 (Fl ([]:List Cc)) x1 ((ix x1.conds x93).a) A2 n3 c4 A6 n7 c8 (Rw.mono h5 (hL169.toSt hp170 (me 1 rfl))) (Rw.mono h9 (hL169.toSt hp170 (me 1 rfl))) (hL169.hFl hp170 (Bf [] rfl)) (hL169.into hp170 _) r171 hv172) ?_
   rintro _ w173 ⟨rfl,hM174⟩
   have hL175:=hL169.call hp170 hM174
   refine ⟨_,_,_,rfl,hL175,?_⟩
   obtain ⟨hb176,h⟩:=h
   have hr177:=Rw.readF (s:=St w []) (hl:=(hlI .i64)) (h1:=(F9 .i64)) h20 hb176
   refine Aa 6 rfl (Ef (s:=St w []) Jb rfl rfl h20 hb176) gn rfl<|Aa 7 rfl (Le (kk:=(r171:Int).toNat * 1) (j:=0) (St w []) O9 rfl hr177 rfl (me 1 rfl)) gn rfl ?_
   obtain ⟨hb178,h⟩:=h
   have hr179:=Rw.readF (s:=St w []) (hl:=Fh) (h1:=Gg) h14 hb178
   refine Aa 8 rfl (Ef (s:=St w []) Ro rfl rfl h14 hb178) gn rfl<|Aa 9 rfl (Q8 (St w []) Xb5 rfl hr179 rfl (me 1 rfl)) gn rfl<|Aa 10 rfl (Ae rfl) gn rfl ?_
   obtain ⟨r183,hv184,h⟩:=h
   refine Ci 11 rfl (D7 [.agg #[.string ((ix x10 (ix x16 r171)).name),.bool ((ix x10 (ix x16 r171)).named),.string ((ix x10 (ix x16 r171)).field),.int .i64 ((ix x10 (ix x16 r171)).from_),.int .i64 ((ix x10 (ix x16 r171)).to),.int .i64 ((ix x10 (ix x16 r171)).kids),.int .i64 ((ix x10 (ix x16 r171)).leaf)],.string x15] rfl Tryd.func69 rfl rfl rfl fun w180 hL181=>?_) gn
   have hp182:=pmI hL181 .n (.c 0 rfl (.c 1 rfl .n)) (by kernel_rfl)
   refine Calls.mono (Uf w180 (Fl ([]:List Cc)) (ix x10 (ix x16 r171)) x15 (hL181.hFl hp182 (Bf [] rfl)) (hL181.into hp182 _) r183 hv184) ?_
   rintro _ w185 ⟨rfl,hM186⟩
   have hL187:=hL181.call hp182 hM186
   refine ⟨_,_,_,rfl,hL187,?_⟩
   refine Aa 12 rfl (Af rfl) gn rfl<|Ah 13 rfl<|Ag rfl<|Ac rfl rfl<|Aa 0 rfl (Bd Xfl rfl) gn rfl<|Aa 1 rfl (Au 0 Gw rfl rfl rfl) gn rfl<|Aa 2 rfl (Af rfl) gn rfl<|Ah 3 rfl<|Ag rfl<|Ag rfl<|Ac rfl rfl<|Aa 0 rfl (Bd Z9 rfl) gn rfl ?_
   refine Aa 1 rfl (Au 0 Gw rfl rfl rfl) gn rfl<|Aa 2 rfl (Rt rfl rfl) gn rfl<|Ah 3 rfl ?_
   have j2:∀ (x210:ByteArray) (h:J9 r183 x1 x93 x210 o1) ,G (N8 w F r) [.code q39c25,.inBlock 1,.code q39c16,.inLoop Xdu,.inBlock 0,.code Xja] [(1,.slice A11 n12 c13),(2,.string x15),(3,.slice A17 n18 c19),(4,.pointer (some ⟨gb21,0,none⟩)),(9,.int .i64 x93),(10,.pointer (some ⟨gb166,0,none⟩)),(11,.string r183),(12,.string x210)] [.box gb166 47 [.bool ((ix x1.conds x93).not),.string ((ix x1.conds x93).a),.string ((ix x1.conds x93).b),.string ((ix x1.conds x93).text)],.box gb21 25 [.slice A2 n3 c4,.slice A6 n7 c8]] [Sm w.heap.size F w [],St w []]:=by
    intro x210 h
    unfold J9 at h
    refine Ag rfl<|Ac rfl rfl<|Aa 0 rfl (Ae rfl) gn rfl<|Aa 1 rfl (Ae rfl) gn rfl<|Aa 2 rfl (Yp rfl rfl) gn rfl<|Aa 3 rfl (Bd Xiu rfl) gn rfl<|Aa 4 rfl (Au 0 Xao rfl rfl rfl) gn rfl<|Aa 5 rfl (v_eqB un_4 rfl rfl) gn rfl<|Ah 6 rfl ?_
    by_cases hp211:((seq r183 x210) == ((ix x1.conds x93).not))=true
    ·have h:=Ap hp211 h
     refine Bi rfl _ rfl (hp211)<|Ag rfl<|Ac rfl rfl<|Aa 0 rfl (Af rfl) gn rfl<|Ah 1 rfl ?_
     have h:=Out.inr hO1 h
     refine Bg [.bool false] rfl Tryd.func39 rfl (.tmp rfl (.nil)) fun wr hLr=>?_
     have hMr:=hLr.pk0 (.c 1 rfl .n)
     show Qd w F  r (.returned (Bz [.bool false])) wr
     rw [h]
     exact ⟨rfl,hMr⟩
    ·have h:=Am hp211 h
     refine Bc rfl _ rfl ((bf hp211))<|Bo rfl<|Bj<|Ac rfl rfl<|Aa 0 rfl (Ae rfl) gn rfl<|Aa 1 rfl (Ba rfl rfl rfl) gn rfl<|Aa 2 rfl (Af rfl) gn rfl<|Ah 3 rfl<|Cm ?_
     have ih:=Out.inl hO1 h
     exact D6 [0,1] (ih ()) ⟨rfl,rfl,rfl,rfl,rfl,trivial⟩ (.cons _ (.cons_cons _ (.slnil))) rfl
   by_cases hp188:(ix x1.conds x93).b=(⟨#[]⟩:ByteArray)
   ·have h:=Ap hp188 h
    refine Bc rfl _ rfl ((nf (Ox hp188)))<|Bo rfl ?_
    exact D6 [0,1] (j2 ((ix x1.conds x93).text) h) ⟨rfl,rfl,rfl,rfl,rfl,rfl,rfl,rfl,trivial⟩ (.cons_cons _ (.cons_cons _ (.slnil))) rfl
   ·have h:=Am hp188 h
    refine Bi rfl _ rfl ((nt (Oo hp188)))<|Ac rfl rfl<|Aa 0 rfl (Ae rfl) gn rfl<|Aa 1 rfl (Ae rfl) gn rfl<|Aa 2 rfl (Ji [.slice A2 n3 c4,.slice A6 n7 c8] 1 O5 rfl rfl rfl rfl) gn rfl<|Aa 3 rfl (Bd Z9 rfl) gn rfl<|Aa 4 rfl (Au 0 Gw rfl rfl rfl) gn rfl ?_
    obtain ⟨r215,hv216,h⟩:=h
    refine Ci 5 rfl (D7 [.agg #[.slice A2 n3 c4,.slice A6 n7 c8],.string ((ix x1.conds x93).b)] rfl Tryd.func53 rfl rfl rfl fun w212 hL213=>?_) gn
    have hp214:=pmI hL213 .n (.c 0 rfl (.c 1 rfl .n)) (by kernel_rfl)
    refine Calls.mono (Jk w212 (Fl ([]:List Cc)) x1 ((ix x1.conds x93).b) A2 n3 c4 A6 n7 c8 (Rw.mono h5 (hL213.toSt hp214 (me 1 rfl))) (Rw.mono h9 (hL213.toSt hp214 (me 1 rfl))) (hL213.hFl hp214 (Bf [] rfl)) (hL213.into hp214 _) r215 hv216) ?_
    rintro _ w217 ⟨rfl,hM218⟩
    have hL219:=hL213.call hp214 hM218
    refine ⟨_,_,_,rfl,hL219,?_⟩
    obtain ⟨hb220,h⟩:=h
    have hr221:=Rw.readF (s:=St w []) (hl:=(hlI .i64)) (h1:=(F9 .i64)) h20 hb220
    refine Aa 6 rfl (Ef (s:=St w []) Jb rfl rfl h20 hb220) gn rfl<|Aa 7 rfl (Le (kk:=(r215:Int).toNat * 1) (j:=0) (St w []) O9 rfl hr221 rfl (me 1 rfl)) gn rfl ?_
    obtain ⟨hb222,h⟩:=h
    have hr223:=Rw.readF (s:=St w []) (hl:=Fh) (h1:=Gg) h14 hb222
    refine Aa 8 rfl (Ef (s:=St w []) Ro rfl rfl h14 hb222) gn rfl<|Aa 9 rfl (Q8 (St w []) Xb5 rfl hr223 rfl (me 1 rfl)) gn rfl<|Aa 10 rfl (Ae rfl) gn rfl ?_
    obtain ⟨r227,hv228,h⟩:=h
    refine Ci 11 rfl (D7 [.agg #[.string ((ix x10 (ix x16 r215)).name),.bool ((ix x10 (ix x16 r215)).named),.string ((ix x10 (ix x16 r215)).field),.int .i64 ((ix x10 (ix x16 r215)).from_),.int .i64 ((ix x10 (ix x16 r215)).to),.int .i64 ((ix x10 (ix x16 r215)).kids),.int .i64 ((ix x10 (ix x16 r215)).leaf)],.string x15] rfl Tryd.func69 rfl rfl rfl fun w224 hL225=>?_) gn
    have hp226:=pmI hL225 .n (.c 0 rfl (.c 1 rfl .n)) (by kernel_rfl)
    refine Calls.mono (Uf w224 (Fl ([]:List Cc)) (ix x10 (ix x16 r215)) x15 (hL225.hFl hp226 (Bf [] rfl)) (hL225.into hp226 _) r227 hv228) ?_
    rintro _ w229 ⟨rfl,hM230⟩
    have hL231:=hL225.call hp226 hM230
    refine ⟨_,_,_,rfl,hL231,?_⟩
    refine Aa 12 rfl (Af rfl) gn rfl<|Ah 13 rfl ?_
    exact D6 [0,1] (j2 r227 h) ⟨rfl,rfl,rfl,rfl,rfl,rfl,rfl,rfl,trivial⟩ (.cons_cons _ (.cons_cons _ (.slnil))) rfl
  ·have h:=Am hp163 h
   refine Bc rfl _ rfl ((decide_eq_false hp163))<|E8 [.code Xja] rfl rfl<|Ag rfl<|Ac rfl rfl<|Aa 0 rfl (Af rfl) gn rfl<|Ah 1 rfl ?_
   have h:=Out.inr hO1 h
   refine Bg [.bool true] rfl Tryd.func39 rfl (.tmp rfl (.nil)) fun wr hLr=>?_
   have hMr:=hLr.pk0 (.c 1 rfl .n)
   show Qd w F  r (.returned (Bz [.bool true])) wr
   rw [h]
   exact ⟨rfl,hMr⟩
 exact D6 [0,1] (key1 _ h ()) ⟨rfl,rfl,rfl,rfl,rfl,trivial⟩ (.cons_cons _ (.slnil)) rfl
noncomputable abbrev q14c4:=Code.snd (Code.snd (Df Tryd.f14))
noncomputable abbrev q14c6:=Code.snd (Code.fst (Code.snd (Df Tryd.f14)))
noncomputable abbrev Xhq:=Code.snd (Code.snd q14c4)
noncomputable abbrev Xed:=Code.fst (Code.fst (Code.snd (Code.fst (Code.snd q14c4))))
abbrev Ry (w:World) (F:Nat→Prop) (r:List Be):Ending→World→Prop:=fun e w'=>∃ A0:Option Addr,∃ n0:Nat,∃ c0:Nat,∃ cs0:List Value,e=.returned (.slice A0 n0 c0)∧B.Loc w w' [.own (.slice A0 n0 c0) 38 1 n0 cs0] [St w []]∧Ow w.heap.size A0 n0 c0 r∧Cells F6 w' (Nw w w' F [.own (.slice A0 n0 c0) 38 1 n0 cs0]) r cs0
noncomputable abbrev P8 (w:World) (F:Nat→Prop) (r:List Be):Cx:=⟨Tryd.prog,14,Tryd.f14,45,Ry w F  r,w⟩
theorem Sr (w:World) (F:Nat→Prop) (x1:Aq) (x10:List Ai) (x15:ByteArray) (A2:Option Addr) (n3:Nat) (c4:Nat) (A6:Option Addr) (n7:Nat) (c8:Nat) (A11:Option Addr) (n12:Nat) (c13:Nat) (h5:Rw Cb w (St w []).av A2 n3 c4 x1.nodes) (h9:Rw Dq w (St w []).av A6 n7 c8 x1.conds) (h14:Rw D9 w (St w []).av A11 n12 c13 x10) (hF:∀ b,F b→b < w.heap.size∧∀ o ∈ ([]:List (List Nat)),b ∉ o) (hL0:B.Loc w w [] [Sm w.heap.size F w [],St w []]) (r:List Be) (h:Ir x1 x10 x15 r):Calls Tryd.prog 14 #[.agg #[.slice A2 n3 c4,.slice A6 n7 c8],.slice A11 n12 c13,.string x15] w (Ry w F  r):=by
 unfold Ir at h
 refine Bl (vs:=[.agg #[.slice A2 n3 c4,.slice A6 n7 c8],.slice A11 n12 c13,.string x15]) 45 Tryd.func14 rfl Tryd.ntmps14 rfl hL0 ?_
 show G (P8 w F r) _ _ _ _
 refine Ag rfl<|Ac rfl rfl ?_
 refine Ci 0 rfl (O3 [.slice A2 n3 c4,.slice A6 n7 c8] rfl rfl rfl fun gb16=>?_) gn
 refine Aa 1 rfl (Af rfl) gn rfl<|Ah 2 rfl<|Ag rfl<|Ag rfl ?_
 have j1:∀ (x36:Bool) (h:J5 x10 x1 x15 x36 r) ,G (P8 w F r) [.code q14c6,.code q14c4] [(1,.slice A11 n12 c13),(2,.string x15),(3,.pointer (some ⟨gb16,0,none⟩)),(17,.bool x36)] [.box gb16 25 [.slice A2 n3 c4,.slice A6 n7 c8]] [Sm w.heap.size F w [],St w []]:=by
  intro x36 h
  unfold J5 at h
  by_cases hp37:x36=true
  ·have h:=Ap hp37 h
   refine Bi rfl _ rfl (hp37)<|Ag rfl<|Ac rfl rfl<|Aa 0 rfl (Af rfl) gn rfl<|Ah 1 rfl<|Td 38 1 ?_
   refine Bg [.slice none 0 0] rfl Tryd.func14 rfl (.tmp rfl (.nil)) fun wr hLr=>?_
   have hMr:=hLr.pkI (.c 0 rfl .n) (.c 1 rfl .n) (by kernel_rfl) (.c 1 rfl .n)
   have hMi:=hLr.selI (.c 0 rfl .n)
   show Ry w F  r (.returned (Bz [.slice none 0 0])) wr
   rw [h]
   exact ⟨none,0,0,[],rfl,hMr,(Ow.nil (z:=w.heap.size)),(hLr.outC (s:=Sm w.heap.size F w []) hMi (me 0 rfl) Sm.ok Cells.nil)⟩
  ·have h:=Am hp37 h
   refine Bc rfl _ rfl ((bf hp37))<|Bo rfl<|Ag rfl<|Ac rfl rfl<|Aa 0 rfl (Af rfl) gn rfl<|Ah 1 rfl<|Ag rfl<|Ag rfl<|Ac rfl rfl<|Aa 0 rfl (Af rfl) gn rfl<|Ah 1 rfl<|Bv rfl ?_
   refine Ei rfl ?_
   have key2:∀ s,Ar (fun (s:(List Be) × Int) o=>Hz x10 x1 x15 s.1 s.2 o) s r→(fun (s:(List Be) × Int)=>∀ (A84:Option Addr) (n85:Nat) (c86:Nat) (h87:Ow w.heap.size A84 n85 c86 s.1) (cs88:List Value) (sw89:World) (sb90:List (List Nat)) (hC91:Cells F6 (Sm w.heap.size F sw89 sb90).w (Sm w.heap.size F sw89 sb90).av s.1 cs88),G (P8 w F r) [.code Xed,.inLoop Xed,.inBlock 0,.code Xhq] [(1,.slice A11 n12 c13),(2,.string x15),(3,.pointer (some ⟨gb16,0,none⟩)),(7,.slice A84 n85 c86),(8,.int .i64 s.2)] [.own (.slice A84 n85 c86) 38 1 n85 cs88,.box gb16 25 [.slice A2 n3 c4,.slice A6 n7 c8]] [Sm w.heap.size F sw89 sb90,Sm w.heap.size F w [],St w []]) s:=by
    intro s hs
    refine Ar.ind (mot:=(fun (s:(List Be) × Int)=>∀ (A84:Option Addr) (n85:Nat) (c86:Nat) (h87:Ow w.heap.size A84 n85 c86 s.1) (cs88:List Value) (sw89:World) (sb90:List (List Nat)) (hC91:Cells F6 (Sm w.heap.size F sw89 sb90).w (Sm w.heap.size F sw89 sb90).av s.1 cs88),G (P8 w F r) [.code Xed,.inLoop Xed,.inBlock 0,.code Xhq] [(1,.slice A11 n12 c13),(2,.string x15),(3,.pointer (some ⟨gb16,0,none⟩)),(7,.slice A84 n85 c86),(8,.int .i64 s.2)] [.own (.slice A84 n85 c86) 38 1 n85 cs88,.box gb16 25 [.slice A2 n3 c4,.slice A6 n7 c8]] [Sm w.heap.size F sw89 sb90,Sm w.heap.size F w [],St w []])) ?_ hs
    clear hs s
    intro s o1 h hO1
    obtain ⟨x83,x92⟩:=s
    show ∀ (A84:Option Addr) (n85:Nat) (c86:Nat) (h87:Ow w.heap.size A84 n85 c86 x83) (cs88:List Value) (sw89:World) (sb90:List (List Nat)) (hC91:Cells F6 (Sm w.heap.size F sw89 sb90).w (Sm w.heap.size F sw89 sb90).av x83 cs88),G (P8 w F r) [.code Xed,.inLoop Xed,.inBlock 0,.code Xhq] [(1,.slice A11 n12 c13),(2,.string x15),(3,.pointer (some ⟨gb16,0,none⟩)),(7,.slice A84 n85 c86),(8,.int .i64 x92)] [.own (.slice A84 n85 c86) 38 1 n85 cs88,.box gb16 25 [.slice A2 n3 c4,.slice A6 n7 c8]] [Sm w.heap.size F sw89 sb90,Sm w.heap.size F w [],St w []]
    intro A84 n85 c86 h87 cs88 sw89 sb90 hC91
    have h:Hz x10 x1 x15 x83 x92 o1:=h
    unfold Hz at h
    refine Ag rfl<|Ag rfl<|Ac rfl rfl<|Aa 0 rfl (Ae rfl) gn rfl<|Aa 1 rfl (Ae rfl) gn rfl<|Aa 2 rfl (D5 V3 rfl h14.hq) gn rfl<|Aa 3 rfl (Ba rfl rfl rfl) gn rfl<|Ah 4 rfl ?_
    by_cases hp136:x92 < (x10.length:Int)
    ·have h:=Ap hp136 h
     refine Bi rfl _ rfl ((decide_eq_true hp136))<|Bo rfl<|Ag rfl<|Bv rfl<|Ag rfl<|Ac rfl rfl<|Aa 0 rfl (Bd Ew rfl) gn rfl<|Aa 1 rfl (Au 1 Kr rfl rfl rfl) gn rfl<|Aa 2 rfl (Ae rfl) gn rfl<|Aa 3 rfl (Ae rfl) gn rfl ?_
     obtain ⟨r140,hv141,h⟩:=h
     refine Ci 4 rfl (D7 [.slice A2 n3 c4,.int .i64 0,.slice A11 n12 c13,.int .i64 x92] rfl Tryd.func38 rfl rfl rfl fun w137 hL138=>?_) gn
     have hp139:=pmI hL138 .n (.c 0 rfl (.c 1 rfl .n)) (by kernel_rfl)
     refine Calls.mono (Xb2 w137 (Fl ([]:List Cc)) x1.nodes 0 x10 x92 A2 n3 c4 A11 n12 c13 (Rw.mono h5 (hL138.toSt hp139 (me 2 rfl))) (Rw.mono h14 (hL138.toSt hp139 (me 2 rfl))) (hL138.hFl hp139 (Bf [] rfl)) (hL138.into hp139 _) r140 hv141) ?_
     rintro _ w147 ⟨A142,n143,c144,rfl,hM148,h145⟩
     have hL149:=hL138.call hp139 hM148
     refine ⟨_,_,_,rfl,hL149,?_⟩
     refine Aa 5 rfl (Af rfl) gn rfl<|Ah 6 rfl<|Ag rfl<|Ac rfl rfl<|Aa 0 rfl (Ae rfl) gn rfl<|Aa 1 rfl (D5 Iy rfl (Ow.weak hL138.env.size h145).hq) gn rfl<|Aa 2 rfl (Ba rfl rfl rfl) gn rfl<|Aa 3 rfl (Ae rfl) gn rfl ?_
     by_cases hp150:(r140.length:Int) > 0
     ·have h:=Ap hp150 h
      refine Bh 32 rfl ((decide_eq_true hp150))<|Aa 4 rfl (Ji [.slice A2 n3 c4,.slice A6 n7 c8] 2 O5 rfl rfl rfl rfl) (gy 32 rfl rfl) rfl<|Aa 5 rfl (Ae rfl) (gy 32 rfl rfl) rfl<|Aa 6 rfl (Ae rfl) (gy 32 rfl rfl) rfl<|Aa 7 rfl (Ae rfl) (gy 32 rfl rfl) rfl ?_
      obtain ⟨r154,hv155,h⟩:=h
      refine Ci 8 rfl (D7 [.agg #[.slice A2 n3 c4,.slice A6 n7 c8],.slice A11 n12 c13,.string x15,.slice A142 n143 c144] rfl Tryd.func39 rfl rfl rfl fun w151 hL152=>?_) (gy 32 rfl rfl)
      have hp153:=pmI hL152 .n (.c 0 rfl (.c 1 rfl (.c 2 rfl .n))) (by kernel_rfl)
      refine Calls.mono (Zd w151 (Fl ([]:List Cc)) x1 x10 x15 r140 A2 n3 c4 A6 n7 c8 A11 n12 c13 A142 n143 c144 (Rw.mono h5 (hL152.toSt hp153 (me 2 rfl))) (Rw.mono h9 (hL152.toSt hp153 (me 2 rfl))) (Rw.mono h14 (hL152.toSt hp153 (me 2 rfl))) (hL152.argO (dk:=(Gs .i64)) hp153 [] rfl 0 rfl rfl (Ow.weak hL138.env.size h145) (me 1 rfl) (Cells.flat _)) (hL152.hFl hp153 (Bf [] rfl)) (hL152.into hp153 _) r154 hv155) ?_
      rintro _ w156 ⟨rfl,hM157⟩
      have hL158:=hL152.call hp153 hM157
      refine ⟨_,_,_,rfl,hL158,?_⟩
      refine Aa 9 rfl (Aw (b:=true) rfl rfl) gn rfl<|Ah 10 rfl ?_
      by_cases hp159:r154=true
      ·have h:=Ap hp159 h
       refine Bi rfl _ rfl (hp159)<|Ac rfl rfl<|Aa 0 rfl (Ae rfl) gn rfl<|Aa 1 rfl (Ae rfl) gn rfl<|Aa 2 rfl (L6 #[.slice A142 n143 c144] bd_38 rfl (by kernel_rfl)) gn rfl ?_
       refine Xdp (F:=F) (dk:=(Gs .i64)) (Sm w.heap.size F w []) 0 rfl (Ow.weak hL138.env.size h145) (me 1 rfl) Sm.ok (Cells.flat _) fun sw161 sb162 h160=>?_
       have hC164:Cells F6 (Sm w.heap.size F sw161 sb162).w (Sm w.heap.size F sw161 sb162).av ([(⟨r140⟩:Be)]:List Be) [.slice A142 n143 c144]:=(Cells.cons (c1:=[.slice A142 n143 c144]) ⟨A142,n143,c144,rfl,h160⟩ Cells.nil)
       refine Ci 3 rfl (Io (xs:=([(⟨r140⟩:Be)]:List Be)) [.slice A142 n143 c144] Xle rfl (by kernel_rfl) rfl rfl rfl rfl fun gb165 h166=>?_) gn
       obtain ⟨x173,hv174,h⟩:=h
       obtain ⟨hb175,h⟩:=h
       refine Xka (F:=F) fun sw170 sb171 ho172=>?_
       obtain ⟨cs176,hc177⟩:∃ x:List Value,x=cs88++[.slice A142 n143 c144]:=⟨_,rfl⟩
       have hC178:Cells F6 (Sm w.heap.size F sw170 sb171).w (Sm w.heap.size F sw170 sb171).av x173 cs176:=by rw [hv174,hc177]; exact Cells.app (Cells.older (s:=Sm w.heap.size F sw89 sb90) hC91 (ho172 _ (me 1 rfl) Sm.ok)) (Cells.older (s:=Sm w.heap.size F sw161 sb162) hC164 (ho172 _ (me 0 rfl) Sm.ok))
       refine Ci 4 rfl (Pn (zs:=x173) 1 ap_31 rfl rfl rfl h87 (Nat.le_refl _) (Src.ownAll 0 rfl h166 hC164) hc177.symm (H9 hv174 h166.hq) hb175 rfl rfl fun A167 c168 h169=>?_) gn
       refine Aa 5 rfl (Af rfl) gn rfl<|Ah 6 rfl<|Bj<|Ac rfl rfl<|Aa 0 rfl (Ae rfl) gn rfl<|Aa 1 rfl (Ba rfl rfl rfl) gn rfl<|Aa 2 rfl (Af rfl) gn rfl<|Ah 3 rfl<|Cm ?_
       have ih:=Out.inl hO1 h
       exact D6 [0,3,4] (ih A167 (n85 + 1) c168 h169 cs176 sw170 sb171 hC178) ⟨rfl,rfl,rfl,rfl,rfl,trivial⟩ (.cons _ (.cons_cons _ (.cons_cons _ (.slnil)))) rfl
      ·have h:=Am hp159 h
       refine Bc rfl _ rfl ((bf hp159))<|Bo rfl<|Bj<|Ac rfl rfl<|Aa 0 rfl (Ae rfl) gn rfl<|Aa 1 rfl (Ba rfl rfl rfl) gn rfl<|Aa 2 rfl (Af rfl) gn rfl<|Ah 3 rfl<|Cm ?_
       have ih:=Out.inl hO1 h
       exact D6 [0,1,2] (ih A84 n85 c86 h87 cs88 sw89 sb90 hC91) ⟨rfl,rfl,rfl,rfl,rfl,trivial⟩ (.cons _ (.cons_cons _ (.cons_cons _ (.slnil)))) rfl
     ·have h:=Am hp150 h
      refine Bh 32 rfl ((decide_eq_false hp150))<|Ad 4 rfl (ps 32 rfl rfl rfl)<|Ad 5 rfl (ps 32 rfl rfl rfl)<|Ad 6 rfl (ps 32 rfl rfl rfl)<|Ad 7 rfl (ps 32 rfl rfl rfl)<|Ad 8 rfl (ps 32 rfl rfl rfl)<|Aa 9 rfl (Aw (b:=false) rfl rfl) gn rfl<|Ah 10 rfl<|Bc rfl _ rfl (rfl)<|Bo rfl<|Bj<|Ac rfl rfl ?_
      refine Aa 0 rfl (Ae rfl) gn rfl<|Aa 1 rfl (Ba rfl rfl rfl) gn rfl<|Aa 2 rfl (Af rfl) gn rfl<|Ah 3 rfl<|Cm ?_
      have ih:=Out.inl hO1 h
      exact D6 [0,1,2] (ih A84 n85 c86 h87 cs88 sw89 sb90 hC91) ⟨rfl,rfl,rfl,rfl,rfl,trivial⟩ (.cons _ (.cons_cons _ (.cons_cons _ (.slnil)))) rfl
    ·have h:=Am hp136 h
     refine Bc rfl _ rfl ((decide_eq_false hp136))<|E8 [.code Xhq] rfl rfl<|Ag rfl<|Ac rfl rfl<|Aa 0 rfl (Ae rfl) gn rfl<|Aa 1 rfl (Af rfl) gn rfl<|Ah 2 rfl ?_
     have h:=Out.inr hO1 h
     refine Bg [.slice A84 n85 c86] rfl Tryd.func14 rfl (.tmp rfl (.nil)) fun wr hLr=>?_
     have hMr:=hLr.pkI (.c 0 rfl .n) (.c 1 rfl .n) (by kernel_rfl) (.c 2 rfl .n)
     have hMi:=hLr.selI (.c 0 rfl .n)
     show Ry w F  r (.returned (Bz [.slice A84 n85 c86])) wr
     rw [h]
     exact ⟨A84,n85,c86,cs88,rfl,hMr,h87,(hLr.outC (s:=Sm w.heap.size F sw89 sb90) hMi (me 0 rfl) Sm.ok hC91)⟩
   refine Td 38 1 ?_
   exact D6 [0,0,1] (key2 _ h none 0 0 (Ow.nil (z:=w.heap.size)) [] w [] Cells.nil) ⟨rfl,rfl,rfl,rfl,rfl,trivial⟩ (.cons_cons _ (.cons_cons _ (.slnil))) rfl
 refine Ac rfl rfl<|Aa 0 rfl (Ji [.slice A2 n3 c4,.slice A6 n7 c8] 0 O5 rfl rfl rfl rfl) gn rfl ?_
 obtain ⟨r182,hv183,h⟩:=h
 refine Ci 1 rfl (D7 [.agg #[.slice A2 n3 c4,.slice A6 n7 c8]] rfl Tryd.func23 rfl rfl rfl fun w179 hL180=>?_) gn
 have hp181:=pmI hL180 .n (.c 0 rfl .n) (by kernel_rfl)
 refine Calls.mono (Yx w179 (Fl ([]:List Cc)) x1 A2 n3 c4 A6 n7 c8 (Rw.mono h5 (hL180.toSt hp181 (me 1 rfl))) (Rw.mono h9 (hL180.toSt hp181 (me 1 rfl))) (hL180.hFl hp181 (Bf [] rfl)) (hL180.into hp181 _) r182 hv183) ?_
 rintro _ w184 ⟨rfl,hM185⟩
 have hL186:=hL180.call hp181 hM185
 refine ⟨_,_,_,rfl,hL186,?_⟩
 refine Aa 2 rfl (Oi rfl) gn rfl<|Aa 3 rfl (Ae rfl) gn rfl ?_
 by_cases hp187:r182=true
 ·have h:=Ap hp187 h
  refine Bh 13 rfl ((nf hp187))<|Aa 4 rfl (Ae rfl) (gy 13 rfl rfl) rfl ?_
  obtain ⟨r191,hv192,h⟩:=h
  refine Ci 5 rfl (D7 [.slice A11 n12 c13] rfl Tryd.func37 rfl rfl rfl fun w188 hL189=>?_) (gy 13 rfl rfl)
  have hp190:=pmI hL189 .n (.c 0 rfl .n) (by kernel_rfl)
  refine Calls.mono (Zk w188 (Fl ([]:List Cc)) x10 A11 n12 c13 (Rw.mono h14 (hL189.toSt hp190 (me 1 rfl))) (hL189.hFl hp190 (Bf [] rfl)) (hL189.into hp190 _) r191 hv192) ?_
  rintro _ w193 ⟨rfl,hM194⟩
  have hL195:=hL189.call hp190 hM194
  refine ⟨_,_,_,rfl,hL195,?_⟩
  refine Aa 6 rfl (Ba rfl rfl rfl) (gy 13 rfl rfl) rfl<|Aa 7 rfl (Aw (b:=false) rfl rfl) gn rfl<|Ah 8 rfl ?_
  exact D6 [0,1] (j1 (decide (r191 < 0)) h) ⟨rfl,rfl,rfl,rfl,trivial⟩ (.cons_cons _ (.slnil)) rfl
 ·have h:=Am hp187 h
  refine Bh 13 rfl ((nt (bf hp187)))<|Ad 4 rfl (ps 13 rfl rfl rfl)<|Ad 5 rfl (ps 13 rfl rfl rfl)<|Ad 6 rfl (ps 13 rfl rfl rfl)<|Aa 7 rfl (Aw (b:=true) rfl rfl) gn rfl<|Ah 8 rfl ?_
  exact D6 [0,1] (j1 true h) ⟨rfl,rfl,rfl,rfl,trivial⟩ (.cons_cons _ (.slnil)) rfl
noncomputable abbrev q15c6:=Code.snd (Code.snd (Code.snd (Df Tryd.f15)))
noncomputable abbrev Xek:=Code.fst (Code.fst (Code.snd (Code.fst (Code.snd (Code.snd (Df Tryd.f15))))))
abbrev V8 (w:World) (F:Nat→Prop) (r:Aq × Nat × Nat):Ending→World→Prop:=fun e w'=>∃ A0:Option Addr,∃ n0:Nat,∃ c0:Nat,∃ A1:Option Addr,∃ n1:Nat,∃ c1:Nat,e=.returned (.agg #[.slice A0 r.2.1 c0,.slice A1 r.2.2 c1])∧B.Loc w w' [.own (.slice A0 n0 c0) 45 5 n0 (r.1.nodes.flatMap Bq),.own (.slice A1 n1 c1) 47 4 n1 (r.1.conds.flatMap Di)] [St w []]∧Ow w.heap.size A0 n0 c0 r.1.nodes∧r.2.1≤n0∧Ow w.heap.size A1 n1 c1 r.1.conds∧r.2.2≤n1
noncomputable abbrev Qy (w:World) (F:Nat→Prop) (r:Aq × Nat × Nat):Cx:=⟨Tryd.prog,15,Tryd.f15,40,V8 w F  r,w⟩
theorem Xa0 (w:World) (F:Nat→Prop) (x1:Aq) (A2:Option Addr) (n3:Nat) (c4:Nat) (A6:Option Addr) (n7:Nat) (c8:Nat) (h5:Rw Cb w (St w []).av A2 n3 c4 x1.nodes) (h9:Rw Dq w (St w []).av A6 n7 c8 x1.conds) (hF:∀ b,F b→b < w.heap.size∧∀ o ∈ ([]:List (List Nat)),b ∉ o) (hL0:B.Loc w w [] [Sm w.heap.size F w [],St w []]) (r:Aq × Nat × Nat) (h:U9 x1 r):Calls Tryd.prog 15 #[.agg #[.slice A2 n3 c4,.slice A6 n7 c8]] w (V8 w F  r):=by
 unfold U9 at h
 refine Bl (vs:=[.agg #[.slice A2 n3 c4,.slice A6 n7 c8]]) 40 Tryd.func15 rfl Tryd.ntmps15 rfl hL0 ?_
 show G (Qy w F r) _ _ _ _
 refine Ag rfl<|Ac rfl rfl ?_
 refine Ci 0 rfl (O3 [.slice A2 n3 c4,.slice A6 n7 c8] rfl rfl rfl fun gb10=>?_) gn
 refine Ci 1 rfl (G9 [.slice none 0 0,.slice none 0 0] Xfy rfl fun gb12=>?_) gn
 refine Ah 2 rfl<|Ag rfl<|Ac rfl rfl<|Aa 0 rfl (Ji [.slice A2 n3 c4,.slice A6 n7 c8] 1 O5 rfl rfl rfl rfl) gn rfl ?_
 obtain ⟨r17,hv18,h⟩:=h
 refine Ci 1 rfl (D7 [.agg #[.slice A2 n3 c4,.slice A6 n7 c8]] rfl Tryd.func12 rfl rfl rfl fun w14 hL15=>?_) gn
 have hp16:=pmI hL15 .n (.c 0 rfl (.c 1 rfl .n)) (by kernel_rfl)
 refine Calls.mono (Jn w14 (Fl ([]:List Cc)) x1 A2 n3 c4 A6 n7 c8 (Rw.mono h5 (hL15.toSt hp16 (me 1 rfl))) (Rw.mono h9 (hL15.toSt hp16 (me 1 rfl))) (hL15.hFl hp16 (Bf [] rfl)) (hL15.into hp16 _) r17 hv18) ?_
 rintro _ w29 ⟨A19,n20,c21,A24,n25,c26,rfl,hM30,h22,h27⟩
 have hL31:=hL15.call hp16 hM30
 refine ⟨_,_,_,rfl,hL31,?_⟩
 refine Ci 2 rfl (G9 [.slice none 0 0,.slice none 0 0] Xfy rfl fun gb32=>?_) gn
 refine Ci 3 rfl (I9 (vs:=[.slice A19 n20 c21,.slice A24 n25 c26]) (cs':=[.slice A19 n20 c21,.slice A24 n25 c26]) (M':=[.box gb32 25 [.slice A19 n20 c21,.slice A24 n25 c26],.own (.slice A19 n20 c21) 45 5 n20 (r17.nodes.flatMap Bq),.own (.slice A24 n25 c26) 47 4 n25 (r17.conds.flatMap Di),.box gb12 25 [.slice none 0 0,.slice none 0 0],.box gb10 25 [.slice A2 n3 c4,.slice A6 n7 c8]]) 0 Xh8 rfl rfl rfl rfl rfl rfl rfl rfl rfl ?_) gn
 refine Ah 4 rfl<|Ag rfl<|Ag rfl<|Ac rfl rfl<|Aa 0 rfl (Af rfl) gn rfl<|Ah 1 rfl<|Bv rfl<|Ei rfl ?_
 have key1:∀ s,Ar (fun (s:Int × (List Aj) × (List D8)) o=>Ih x1 s.1 s.2.1 s.2.2 o) s r→(fun (s:Int × (List Aj) × (List D8))=>∀ (A55:Option Addr) (n56:Nat) (c57:Nat) (h58:Ow w.heap.size A55 n56 c57 s.2.1) (A60:Option Addr) (n61:Nat) (c62:Nat) (h63:Ow w.heap.size A60 n61 c62 s.2.2),G (Qy w F r) [.code Xek,.inLoop Xek,.inBlock 0,.code q15c6] [(1,.pointer (some ⟨gb10,0,none⟩)),(2,.pointer (some ⟨gb12,0,none⟩)),(3,.pointer (some ⟨gb32,0,none⟩)),(4,.int .i64 s.1)] [.box gb32 25 [.slice A55 n56 c57,.slice A60 n61 c62],.own (.slice A55 n56 c57) 45 5 n56 (s.2.1.flatMap Bq),.own (.slice A60 n61 c62) 47 4 n61 (s.2.2.flatMap Di),.box gb12 25 [.slice none 0 0,.slice none 0 0],.box gb10 25 [.slice A2 n3 c4,.slice A6 n7 c8]] [Sm w.heap.size F w [],St w []]) s:=by
  intro s hs
  refine Ar.ind (mot:=(fun (s:Int × (List Aj) × (List D8))=>∀ (A55:Option Addr) (n56:Nat) (c57:Nat) (h58:Ow w.heap.size A55 n56 c57 s.2.1) (A60:Option Addr) (n61:Nat) (c62:Nat) (h63:Ow w.heap.size A60 n61 c62 s.2.2),G (Qy w F r) [.code Xek,.inLoop Xek,.inBlock 0,.code q15c6] [(1,.pointer (some ⟨gb10,0,none⟩)),(2,.pointer (some ⟨gb12,0,none⟩)),(3,.pointer (some ⟨gb32,0,none⟩)),(4,.int .i64 s.1)] [.box gb32 25 [.slice A55 n56 c57,.slice A60 n61 c62],.own (.slice A55 n56 c57) 45 5 n56 (s.2.1.flatMap Bq),.own (.slice A60 n61 c62) 47 4 n61 (s.2.2.flatMap Di),.box gb12 25 [.slice none 0 0,.slice none 0 0],.box gb10 25 [.slice A2 n3 c4,.slice A6 n7 c8]] [Sm w.heap.size F w [],St w []])) ?_ hs
  clear hs s
  intro s o1 h hO1
  obtain ⟨x53,x54,x59⟩:=s
  show ∀ (A55:Option Addr) (n56:Nat) (c57:Nat) (h58:Ow w.heap.size A55 n56 c57 x54) (A60:Option Addr) (n61:Nat) (c62:Nat) (h63:Ow w.heap.size A60 n61 c62 x59),G (Qy w F r) [.code Xek,.inLoop Xek,.inBlock 0,.code q15c6] [(1,.pointer (some ⟨gb10,0,none⟩)),(2,.pointer (some ⟨gb12,0,none⟩)),(3,.pointer (some ⟨gb32,0,none⟩)),(4,.int .i64 x53)] [.box gb32 25 [.slice A55 n56 c57,.slice A60 n61 c62],.own (.slice A55 n56 c57) 45 5 n56 (x54.flatMap Bq),.own (.slice A60 n61 c62) 47 4 n61 (x59.flatMap Di),.box gb12 25 [.slice none 0 0,.slice none 0 0],.box gb10 25 [.slice A2 n3 c4,.slice A6 n7 c8]] [Sm w.heap.size F w [],St w []]
  intro A55 n56 c57 h58 A60 n61 c62 h63
  have h:Ih x1 x53 x54 x59 o1:=h
  unfold Ih at h
  refine Ag rfl<|Ag rfl<|Ac rfl rfl<|Aa 0 rfl (Ae rfl) gn rfl<|Aa 1 rfl (Ba rfl rfl rfl) gn rfl<|Ah 2 rfl ?_
  by_cases hp87:x53 < 20
  ·have h:=Ap hp87 h
   refine Bi rfl _ rfl ((decide_eq_true hp87))<|Bo rfl<|Ag rfl<|Bv rfl<|Ag rfl<|Ac rfl rfl<|Aa 0 rfl (Bd Ew rfl) gn rfl<|Aa 1 rfl (Au 0 Kr rfl rfl rfl) gn rfl<|Aa 2 rfl (Ae rfl) gn rfl<|Aa 3 rfl (Ba rfl rfl rfl) gn rfl<|Aa 4 rfl (L6 #[.string (⟨#[]⟩:ByteArray),.bool false,.string (⟨#[]⟩:ByteArray),.string (⟨#[]⟩:ByteArray),.int .i64 (w64 (900 + x53))] bd_45 rfl (by kernel_rfl)) gn rfl ?_
   refine Ci 5 rfl (Io (xs:=([(⟨(⟨#[]⟩:ByteArray),false,(⟨#[]⟩:ByteArray),(⟨#[]⟩:ByteArray),w64 (900 + x53)⟩:Aj)]:List Aj)) [.string (⟨#[]⟩:ByteArray),.bool false,.string (⟨#[]⟩:ByteArray),.string (⟨#[]⟩:ByteArray),.int .i64 (w64 (900 + x53))] Xlg rfl (by kernel_rfl) rfl rfl rfl rfl fun gb89 h90=>?_) gn
   obtain ⟨x94,hv95,h⟩:=h
   obtain ⟨hb96,h⟩:=h
   refine Ci 6 rfl (Pn (zs:=x94) (cells':=x94.flatMap Bq) 2 ap_22 rfl rfl rfl h58 (Nat.le_refl _) (Src.ownF (hl:=Dp) (h1:=Du) 0 rfl h90) (by rw [hv95,List.flatMap_append] <;> rfl) (H9 hv95 h90.hq) hb96 rfl rfl fun A91 c92 h93=>?_) gn
   refine Aa 7 rfl (Bd Ew rfl) gn rfl ?_
   refine Ci 8 rfl (I9 (vs:=[.slice A91 (n56 + 1) c92]) (cs':=[.slice A91 (n56 + 1) c92,.slice A60 n61 c62]) (M':=[.own (.slice (some ⟨gb89,0,none⟩) 1 1) 45 5 1 (([(⟨(⟨#[]⟩:ByteArray),false,(⟨#[]⟩:ByteArray),(⟨#[]⟩:ByteArray),w64 (900 + x53)⟩:Aj)]:List Aj).flatMap Bq),.box gb32 25 [.slice A91 (n56 + 1) c92,.slice A60 n61 c62],.own (.slice A91 (n56 + 1) c92) 45 5 (n56 + 1) (x94.flatMap Bq),.own (.slice A60 n61 c62) 47 4 n61 (x59.flatMap Di),.box gb12 25 [.slice none 0 0,.slice none 0 0],.box gb10 25 [.slice A2 n3 c4,.slice A6 n7 c8]]) 1 sz_22 rfl rfl rfl rfl rfl rfl rfl rfl rfl ?_) gn
   refine Ah 9 rfl<|Ac rfl rfl<|Aa 0 rfl (Bd Ik rfl) gn rfl<|Aa 1 rfl (Au 1 U8 rfl rfl rfl) gn rfl<|Aa 2 rfl (L6 #[.bool false,.string (⟨#[]⟩:ByteArray),.string (⟨#[]⟩:ByteArray),.string (⟨#[109,97,114,107]⟩:ByteArray)] bd_47 rfl (by kernel_rfl)) gn rfl ?_
   refine Ci 3 rfl (Io (xs:=([(⟨false,(⟨#[]⟩:ByteArray),(⟨#[]⟩:ByteArray),(⟨#[109,97,114,107]⟩:ByteArray)⟩:D8)]:List D8)) [.bool false,.string (⟨#[]⟩:ByteArray),.string (⟨#[]⟩:ByteArray),.string (⟨#[109,97,114,107]⟩:ByteArray)] Xlc rfl (by kernel_rfl) rfl rfl rfl rfl fun gb98 h99=>?_) gn
   obtain ⟨x103,hv104,h⟩:=h
   obtain ⟨hb105,h⟩:=h
   refine Ci 4 rfl (Pn (zs:=x103) (cells':=x103.flatMap Di) 4 ap_23 rfl rfl rfl h63 (Nat.le_refl _) (Src.ownF (hl:=Nh) (h1:=Nc) 0 rfl h99) (by rw [hv104,List.flatMap_append] <;> rfl) (H9 hv104 h99.hq) hb105 rfl rfl fun A100 c101 h102=>?_) gn
   refine Aa 5 rfl (Bd Ik rfl) gn rfl ?_
   refine Ci 6 rfl (I9 (vs:=[.slice A100 (n61 + 1) c101]) (cs':=[.slice A91 (n56 + 1) c92,.slice A100 (n61 + 1) c101]) (M':=[.own (.slice (some ⟨gb98,0,none⟩) 1 1) 47 4 1 (([(⟨false,(⟨#[]⟩:ByteArray),(⟨#[]⟩:ByteArray),(⟨#[109,97,114,107]⟩:ByteArray)⟩:D8)]:List D8).flatMap Di),.own (.slice (some ⟨gb89,0,none⟩) 1 1) 45 5 1 (([(⟨(⟨#[]⟩:ByteArray),false,(⟨#[]⟩:ByteArray),(⟨#[]⟩:ByteArray),w64 (900 + x53)⟩:Aj)]:List Aj).flatMap Bq),.box gb32 25 [.slice A91 (n56 + 1) c92,.slice A100 (n61 + 1) c101],.own (.slice A91 (n56 + 1) c92) 45 5 (n56 + 1) (x94.flatMap Bq),.own (.slice A100 (n61 + 1) c101) 47 4 (n61 + 1) (x103.flatMap Di),.box gb12 25 [.slice none 0 0,.slice none 0 0],.box gb10 25 [.slice A2 n3 c4,.slice A6 n7 c8]]) 2 sz_23 rfl rfl rfl rfl rfl rfl rfl rfl rfl ?_) gn
   refine Ah 7 rfl<|Bj<|Ac rfl rfl<|Aa 0 rfl (Ae rfl) gn rfl<|Aa 1 rfl (Ba rfl rfl rfl) gn rfl<|Aa 2 rfl (Af rfl) gn rfl<|Ah 3 rfl<|Cm ?_
   have ih:=Out.inl hO1 h
   exact D6 [0,1] (ih A91 (n56 + 1) c92 h93 A100 (n61 + 1) c101 h102) ⟨rfl,rfl,rfl,rfl,trivial⟩ (.cons _ (.cons _ (.cons_cons _ (.cons_cons _ (.cons_cons _ (.cons_cons _ (.cons_cons _ (.slnil)))))))) rfl
  ·have h:=Am hp87 h
   refine Bc rfl _ rfl ((decide_eq_false hp87))<|E8 [.code q15c6] rfl rfl<|Ag rfl<|Ac rfl rfl<|Aa 0 rfl (Bd Ew rfl) gn rfl<|Aa 1 rfl (Au 0 Kr rfl rfl rfl) gn rfl<|Aa 2 rfl (Bd Ew rfl) gn rfl<|Aa 3 rfl (Au 4 Kr rfl rfl rfl) gn rfl<|Aa 4 rfl (D5 Tm rfl h5.hq) gn rfl ?_
   obtain ⟨hb106,h⟩:=h
   have hle107:((x1.nodes.length:Int):Int).toNat≤n56:=by have q:=hb106; have q1:=h58.hq; omega
   refine Aa 5 rfl (Xc (i:=(x1.nodes.length:Int)) Oq rfl rfl (by have q:=hb106; have q1:=h58.hq; have q2:=h58.hn; omega) h58.hn rfl) gn rfl<|Aa 6 rfl (Bd Ew rfl) gn rfl ?_
   refine Ci 7 rfl (I9 (vs:=[.slice A55 (((x1.nodes.length:Int):Int).toNat) c57]) (cs':=[.slice A55 (((x1.nodes.length:Int):Int).toNat) c57,.slice A60 n61 c62]) (M':=[.box gb32 25 [.slice A55 (((x1.nodes.length:Int):Int).toNat) c57,.slice A60 n61 c62],.own (.slice A55 n56 c57) 45 5 n56 (x54.flatMap Bq),.own (.slice A60 n61 c62) 47 4 n61 (x59.flatMap Di),.box gb12 25 [.slice none 0 0,.slice none 0 0],.box gb10 25 [.slice A2 n3 c4,.slice A6 n7 c8]]) 0 sz_22 rfl rfl rfl rfl rfl rfl rfl rfl rfl ?_) gn
   refine Ah 8 rfl<|Ag rfl<|Ac rfl rfl<|Aa 0 rfl (Bd Ik rfl) gn rfl<|Aa 1 rfl (Au 0 U8 rfl rfl rfl) gn rfl<|Aa 2 rfl (Bd Ik rfl) gn rfl<|Aa 3 rfl (Au 4 U8 rfl rfl rfl) gn rfl<|Aa 4 rfl (D5 Yu rfl h9.hq) gn rfl ?_
   obtain ⟨hb108,h⟩:=h
   have hle109:((x1.conds.length:Int):Int).toNat≤n61:=by have q:=hb108; have q1:=h63.hq; omega
   refine Aa 5 rfl (Xc (i:=(x1.conds.length:Int)) Zl rfl rfl (by have q:=hb108; have q1:=h63.hq; have q2:=h63.hn; omega) h63.hn rfl) gn rfl<|Aa 6 rfl (Bd Ik rfl) gn rfl ?_
   refine Ci 7 rfl (I9 (vs:=[.slice A60 (((x1.conds.length:Int):Int).toNat) c62]) (cs':=[.slice A55 (((x1.nodes.length:Int):Int).toNat) c57,.slice A60 (((x1.conds.length:Int):Int).toNat) c62]) (M':=[.box gb32 25 [.slice A55 (((x1.nodes.length:Int):Int).toNat) c57,.slice A60 (((x1.conds.length:Int):Int).toNat) c62],.own (.slice A55 n56 c57) 45 5 n56 (x54.flatMap Bq),.own (.slice A60 n61 c62) 47 4 n61 (x59.flatMap Di),.box gb12 25 [.slice none 0 0,.slice none 0 0],.box gb10 25 [.slice A2 n3 c4,.slice A6 n7 c8]]) 0 sz_23 rfl rfl rfl rfl rfl rfl rfl rfl rfl ?_) gn
   refine Ah 8 rfl<|Ag rfl<|Ac rfl rfl<|Aa 0 rfl (Ji [.slice A55 (((x1.nodes.length:Int):Int).toNat) c57,.slice A60 (((x1.conds.length:Int):Int).toNat) c62] 0 O5 rfl rfl rfl rfl) gn rfl ?_
   refine Ci 1 rfl (I9 (vs:=[.slice A55 (((x1.nodes.length:Int):Int).toNat) c57,.slice A60 (((x1.conds.length:Int):Int).toNat) c62]) (cs':=[.slice A55 (((x1.nodes.length:Int):Int).toNat) c57,.slice A60 (((x1.conds.length:Int):Int).toNat) c62]) (M':=[.box gb32 25 [.slice A55 (((x1.nodes.length:Int):Int).toNat) c57,.slice A60 (((x1.conds.length:Int):Int).toNat) c62],.own (.slice A55 n56 c57) 45 5 n56 (x54.flatMap Bq),.own (.slice A60 n61 c62) 47 4 n61 (x59.flatMap Di),.box gb12 25 [.slice A55 (((x1.nodes.length:Int):Int).toNat) c57,.slice A60 (((x1.conds.length:Int):Int).toNat) c62],.box gb10 25 [.slice A2 n3 c4,.slice A6 n7 c8]]) 3 Xh8 rfl rfl rfl rfl rfl rfl rfl rfl rfl ?_) gn
   refine Ah 2 rfl ?_
   have h:=Out.inr hO1 h
   refine Bg [.agg #[.slice A55 (((x1.nodes.length:Int):Int).toNat) c57,.slice A60 (((x1.conds.length:Int):Int).toNat) c62]] rfl Tryd.func15 rfl (.cell (cs:=[.slice A55 (((x1.nodes.length:Int):Int).toNat) c57,.slice A60 (((x1.conds.length:Int):Int).toNat) c62]) (us:=[.slice A55 (((x1.nodes.length:Int):Int).toNat) c57,.slice A60 (((x1.conds.length:Int):Int).toNat) c62]) 3 rfl O5 rfl rfl rfl (.nil)) fun wr hLr=>?_
   have hMr:=hLr.pkI (.c 1 rfl (.c 2 rfl .n)) (.c 0 rfl (.c 3 rfl (.c 4 rfl .n))) (by kernel_rfl) (.c 1 rfl .n)
   show V8 w F  r (.returned (Bz [.agg #[.slice A55 (((x1.nodes.length:Int):Int).toNat) c57,.slice A60 (((x1.conds.length:Int):Int).toNat) c62]])) wr
   rw [h]
   exact ⟨A55,n56,c57,A60,n61,c62,rfl,hMr,h58,hle107,h63,hle109⟩
 exact D6 [0,1] (key1 _ h A19 n20 c21 (Ow.weak hL15.env.size h22) A24 n25 c26 (Ow.weak hL15.env.size h27)) ⟨rfl,rfl,rfl,rfl,trivial⟩ (.cons_cons _ (.cons_cons _ (.cons_cons _ (.cons_cons _ (.cons_cons _ (.slnil)))))) rfl
noncomputable abbrev q16c6:=Code.snd (Code.snd (Code.snd (Df Tryd.f16)))
noncomputable abbrev Xeg:=Code.fst (Code.fst (Code.snd (Code.fst (Code.snd (Code.snd (Df Tryd.f16))))))
abbrev Rl (w:World) (F:Nat→Prop) (r:(List Ai) × Nat):Ending→World→Prop:=fun e w'=>∃ A0:Option Addr,∃ n0:Nat,∃ c0:Nat,e=.returned (.slice A0 r.2 c0)∧B.Loc w w' [.own (.slice A0 n0 c0) 56 7 n0 (r.1.flatMap Dz)] [St w []]∧Ow w.heap.size A0 n0 c0 r.1∧r.2≤n0
noncomputable abbrev O0 (w:World) (F:Nat→Prop) (r:(List Ai) × Nat):Cx:=⟨Tryd.prog,16,Tryd.f16,21,Rl w F  r,w⟩
theorem Yf (w:World) (F:Nat→Prop) (x1:List Ai) (A2:Option Addr) (n3:Nat) (c4:Nat) (h5:Rw D9 w (St w []).av A2 n3 c4 x1) (hF:∀ b,F b→b < w.heap.size∧∀ o ∈ ([]:List (List Nat)),b ∉ o) (hL0:B.Loc w w [] [Sm w.heap.size F w [],St w []]) (r:(List Ai) × Nat) (h:P9 x1 r):Calls Tryd.prog 16 #[.slice A2 n3 c4] w (Rl w F  r):=by
 unfold P9 at h
 refine Bl (vs:=[.slice A2 n3 c4]) 21 Tryd.func16 rfl Tryd.ntmps16 rfl hL0 ?_
 show G (O0 w F r) _ _ _ _
 refine Ag rfl<|Ac rfl rfl<|Aa 0 rfl (Af rfl) gn rfl<|Ah 1 rfl<|Ag rfl<|Ac rfl rfl<|Aa 0 rfl (Ae rfl) gn rfl ?_
 obtain ⟨r9,hv10,h⟩:=h
 refine Ci 1 rfl (D7 [.slice A2 n3 c4] rfl Tryd.func13 rfl rfl rfl fun w6 hL7=>?_) gn
 have hp8:=pmI hL7 .n .n (by kernel_rfl)
 refine Calls.mono (I8 w6 (Fl ([]:List Cc)) x1 A2 n3 c4 (Rw.mono h5 (hL7.toSt hp8 (me 1 rfl))) (hL7.hFl hp8 (Bf [] rfl)) (hL7.into hp8 _) r9 hv10) ?_
 rintro _ w16 ⟨A11,n12,c13,rfl,hM17,h14⟩
 have hL18:=hL7.call hp8 hM17
 refine ⟨_,_,_,rfl,hL18,?_⟩
 refine Aa 2 rfl (Af rfl) gn rfl<|Ah 3 rfl<|Ag rfl<|Ag rfl<|Ac rfl rfl<|Aa 0 rfl (Af rfl) gn rfl<|Ah 1 rfl<|Bv rfl<|Ei rfl ?_
 have key1:∀ s,Ar (fun (s:(List Ai) × Int) o=>Gv x1 s.1 s.2 o) s r→(fun (s:(List Ai) × Int)=>∀ (A30:Option Addr) (n31:Nat) (c32:Nat) (h33:Ow w.heap.size A30 n31 c32 s.1),G (O0 w F r) [.code Xeg,.inLoop Xeg,.inBlock 0,.code q16c6] [(0,.slice A2 n3 c4),(3,.slice A30 n31 c32),(4,.int .i64 s.2)] [.own (.slice A30 n31 c32) 56 7 n31 (s.1.flatMap Dz)] [Sm w.heap.size F w [],St w []]) s:=by
  intro s hs
  refine Ar.ind (mot:=(fun (s:(List Ai) × Int)=>∀ (A30:Option Addr) (n31:Nat) (c32:Nat) (h33:Ow w.heap.size A30 n31 c32 s.1),G (O0 w F r) [.code Xeg,.inLoop Xeg,.inBlock 0,.code q16c6] [(0,.slice A2 n3 c4),(3,.slice A30 n31 c32),(4,.int .i64 s.2)] [.own (.slice A30 n31 c32) 56 7 n31 (s.1.flatMap Dz)] [Sm w.heap.size F w [],St w []])) ?_ hs
  clear hs s
  intro s o1 h hO1
  obtain ⟨x29,x34⟩:=s
  show ∀ (A30:Option Addr) (n31:Nat) (c32:Nat) (h33:Ow w.heap.size A30 n31 c32 x29),G (O0 w F r) [.code Xeg,.inLoop Xeg,.inBlock 0,.code q16c6] [(0,.slice A2 n3 c4),(3,.slice A30 n31 c32),(4,.int .i64 x34)] [.own (.slice A30 n31 c32) 56 7 n31 (x29.flatMap Dz)] [Sm w.heap.size F w [],St w []]
  intro A30 n31 c32 h33
  have h:Gv x1 x29 x34 o1:=h
  unfold Gv at h
  refine Ag rfl<|Ag rfl<|Ac rfl rfl<|Aa 0 rfl (Ae rfl) gn rfl<|Aa 1 rfl (Ba rfl rfl rfl) gn rfl<|Ah 2 rfl ?_
  by_cases hp47:x34 < 20
  ·have h:=Ap hp47 h
   refine Bi rfl _ rfl ((decide_eq_true hp47))<|Bo rfl<|Ag rfl<|Bv rfl<|Ac rfl rfl<|Aa 0 rfl (Ae rfl) gn rfl<|Aa 1 rfl (Ae rfl) gn rfl<|Aa 2 rfl (Ba rfl rfl rfl) gn rfl<|Aa 3 rfl (L6 #[.string (⟨#[109,97,114,107]⟩:ByteArray),.bool false,.string (⟨#[]⟩:ByteArray),.int .i64 (w64 (900 + x34)),.int .i64 0,.int .i64 0,.int .i64 0] bd_56 rfl (by kernel_rfl)) gn rfl ?_
   refine Ci 4 rfl (Io (xs:=([(⟨(⟨#[109,97,114,107]⟩:ByteArray),false,(⟨#[]⟩:ByteArray),w64 (900 + x34),0,0,0⟩:Ai)]:List Ai)) [.string (⟨#[109,97,114,107]⟩:ByteArray),.bool false,.string (⟨#[]⟩:ByteArray),.int .i64 (w64 (900 + x34)),.int .i64 0,.int .i64 0,.int .i64 0] Xl1 rfl (by kernel_rfl) rfl rfl rfl rfl fun gb49 h50=>?_) gn
   obtain ⟨x54,hv55,h⟩:=h
   obtain ⟨hb56,h⟩:=h
   refine Ci 5 rfl (Pn (zs:=x54) (cells':=x54.flatMap Dz) 1 ap_26 rfl rfl rfl h33 (Nat.le_refl _) (Src.ownF (hl:=Fh) (h1:=Gg) 0 rfl h50) (by rw [hv55,List.flatMap_append] <;> rfl) (H9 hv55 h50.hq) hb56 rfl rfl fun A51 c52 h53=>?_) gn
   refine Aa 6 rfl (Af rfl) gn rfl<|Ah 7 rfl<|Bj<|Ac rfl rfl<|Aa 0 rfl (Ae rfl) gn rfl<|Aa 1 rfl (Ba rfl rfl rfl) gn rfl<|Aa 2 rfl (Af rfl) gn rfl<|Ah 3 rfl<|Cm ?_
   have ih:=Out.inl hO1 h
   exact D6 [0,1] (ih A51 (n31 + 1) c52 h53) ⟨rfl,rfl,rfl,trivial⟩ (.cons _ (.cons_cons _ (.slnil))) rfl
  ·have h:=Am hp47 h
   refine Bc rfl _ rfl ((decide_eq_false hp47))<|E8 [.code q16c6] rfl rfl<|Ag rfl<|Ac rfl rfl<|Aa 0 rfl (Ae rfl) gn rfl<|Aa 1 rfl (Ae rfl) gn rfl<|Aa 2 rfl (D5 V3 rfl h5.hq) gn rfl ?_
   obtain ⟨hb57,h⟩:=h
   have hle58:((x1.length:Int):Int).toNat≤n31:=by have q:=hb57; have q1:=h33.hq; omega
   refine Aa 3 rfl (Xc (i:=(x1.length:Int)) Ro rfl rfl (by have q:=hb57; have q1:=h33.hq; have q2:=h33.hn; omega) h33.hn rfl) gn rfl<|Aa 4 rfl (Af rfl) gn rfl<|Ah 5 rfl ?_
   have h:=Out.inr hO1 h
   refine Bg [.slice A30 (((x1.length:Int):Int).toNat) c32] rfl Tryd.func16 rfl (.tmp rfl (.nil)) fun wr hLr=>?_
   have hMr:=hLr.pkI (.c 0 rfl .n) .n (by kernel_rfl) (.c 1 rfl .n)
   show Rl w F  r (.returned (Bz [.slice A30 (((x1.length:Int):Int).toNat) c32])) wr
   rw [h]
   exact ⟨A30,n31,c32,rfl,hMr,h33,hle58⟩
 exact D6 [0,1] (key1 _ h A11 n12 c13 (Ow.weak hL7.env.size h14)) ⟨rfl,rfl,rfl,trivial⟩ (.cons_cons _ (.slnil)) rfl
noncomputable abbrev q54c4:=Code.snd (Code.snd (Df Tryd.f54))
noncomputable abbrev q54c6:=Code.snd (Code.fst (Code.snd (Df Tryd.f54)))
noncomputable abbrev Xiw:=Code.snd (Code.snd q54c4)
noncomputable abbrev Xeq:=Code.fst (Code.fst (Code.snd (Code.fst (Code.snd q54c4))))
abbrev Q3 (w:World) (F:Nat→Prop) (r:Int):Ending→World→Prop:=fun e w'=>e=.returned (.int .i64 r)∧B.Loc w w' [] [St w []]
noncomputable abbrev Su (w:World) (F:Nat→Prop) (r:Int):Cx:=⟨Tryd.prog,54,Tryd.f54,34,Q3 w F  r,w⟩
def X7 (rl:(List Aj)→Int→Int→Prop):Prop:=∀ (w:World) (F:Nat→Prop) (x1:List Aj) (x6:Int) (A2:Option Addr) (n3:Nat) (c4:Nat) (h5:Rw Cb w (St w []).av A2 n3 c4 x1) (hF:∀ b,F b→b < w.heap.size∧∀ o ∈ ([]:List (List Nat)),b ∉ o) (hL0:B.Loc w w [] [Sm w.heap.size F w [],St w []]) (r:Int) (h:rl x1 x6 r),Calls Tryd.prog 54 #[.slice A2 n3 c4,.int .i64 x6] w (Q3 w F  r)
theorem Xcs (rc_query_subtree:(List Aj)→Int→Int→Prop) (ih_query_subtree:X7 rc_query_subtree):X7 (Ou rc_query_subtree):=by
 intro w F x1 x6 A2 n3 c4 h5 hF hL0 r h
 unfold Ou at h
 refine Bl (vs:=[.slice A2 n3 c4,.int .i64 x6]) 34 Tryd.func54 rfl Tryd.ntmps54 rfl hL0 ?_
 show G (Su w F r) _ _ _ _
 refine Ag rfl<|Ac rfl rfl<|Aa 0 rfl (Af rfl) gn rfl<|Ah 1 rfl<|Ag rfl<|Ag rfl ?_
 have j1:∀ (x11:Bool) (h:Ol x6 x1 rc_query_subtree x11 r) ,G (Su w F r) [.code q54c6,.code q54c4] [(0,.slice A2 n3 c4),(1,.int .i64 x6),(17,.bool x11)] [] [Sm w.heap.size F w [],St w []]:=by
  intro x11 h
  unfold Ol at h
  by_cases hp12:x11=true
  ·have h:=Ap hp12 h
   refine Bi rfl _ rfl (hp12)<|Ag rfl<|Ac rfl rfl<|Aa 0 rfl (Af rfl) gn rfl<|Ah 1 rfl ?_
   refine Bg [.int .i64 (-1)] rfl Tryd.func54 rfl (.tmp rfl (.nil)) fun wr hLr=>?_
   have hMr:=hLr.pk0 (.c 1 rfl .n)
   show Q3 w F  r (.returned (Bz [.int .i64 (-1)])) wr
   rw [h]
   exact ⟨rfl,hMr⟩
  ·have h:=Am hp12 h
   refine Bc rfl _ rfl ((bf hp12))<|Bo rfl<|Ag rfl<|Ac rfl rfl<|Aa 0 rfl (Ae rfl) gn rfl<|Aa 1 rfl (Ba rfl rfl rfl) gn rfl<|Aa 2 rfl (Af rfl) gn rfl<|Ah 3 rfl<|Ag rfl<|Ag rfl<|Ac rfl rfl<|Aa 0 rfl (Ae rfl) gn rfl ?_
   refine Aa 1 rfl (Ae rfl) gn rfl ?_
   obtain ⟨hb13,h⟩:=h
   have hr14:=Rw.readF (s:=St w []) (hl:=Dp) (h1:=Du) h5 hb13
   refine Aa 2 rfl (Ef (s:=St w []) Oq rfl rfl h5 hb13) gn rfl<|Aa 3 rfl (Jq Vz rfl) gn rfl<|Aa 4 rfl (Le (kk:=(x6:Int).toNat * 5) (j:=4) (St w []) O9 rfl hr14 rfl (me 1 rfl)) gn rfl<|Aa 5 rfl (Ae rfl) gn rfl<|Ah 6 rfl<|Bv rfl<|Ei rfl ?_
   have key2:∀ s,Ar (fun (s:Int × Int) o=>Iq x1 x6 rc_query_subtree s.1 s.2 o) s r→(fun (s:Int × Int)=>∀ (_:Unit),G (Su w F r) [.code Xeq,.inLoop Xeq,.inBlock 0,.code Xiw] [(0,.slice A2 n3 c4),(5,.int .i64 s.1),(24,.int .i64 ((ix x1 x6).kids)),(25,.int .i64 s.2)] [] [Sm w.heap.size F w [],St w []]) s:=by
    intro s hs
    refine Ar.ind (mot:=(fun (s:Int × Int)=>∀ (_:Unit),G (Su w F r) [.code Xeq,.inLoop Xeq,.inBlock 0,.code Xiw] [(0,.slice A2 n3 c4),(5,.int .i64 s.1),(24,.int .i64 ((ix x1 x6).kids)),(25,.int .i64 s.2)] [] [Sm w.heap.size F w [],St w []])) ?_ hs
    clear hs s
    intro s o1 h hO1
    obtain ⟨x26,x27⟩:=s
    show ∀ (_:Unit),G (Su w F r) [.code Xeq,.inLoop Xeq,.inBlock 0,.code Xiw] [(0,.slice A2 n3 c4),(5,.int .i64 x26),(24,.int .i64 ((ix x1 x6).kids)),(25,.int .i64 x27)] [] [Sm w.heap.size F w [],St w []]
    intro _
    have h:Iq x1 x6 rc_query_subtree x26 x27 o1:=h
    unfold Iq at h
    refine Ag rfl<|Ac rfl rfl<|Aa 0 rfl (Ba rfl rfl rfl) gn rfl<|Ah 1 rfl<|Ag rfl ?_
    by_cases hp38:x27 < (ix x1 x6).kids
    ·have h:=Ap hp38 h
     refine Bi rfl _ rfl ((decide_eq_true hp38))<|Bo rfl<|Ag rfl<|Bv rfl<|Ag rfl<|Ac rfl rfl<|Aa 0 rfl (Ae rfl) gn rfl<|Aa 1 rfl (Ae rfl) gn rfl ?_
     obtain ⟨r42,hv43,h⟩:=h
     refine Ci 2 rfl (D7 [.slice A2 n3 c4,.int .i64 x26] rfl Tryd.func54 rfl rfl rfl fun w39 hL40=>?_) gn
     have hp41:=pmI hL40 .n .n (by kernel_rfl)
     refine Calls.mono (ih_query_subtree w39 (Fl ([]:List Cc)) x1 x26 A2 n3 c4 (Rw.mono h5 (hL40.toSt hp41 (me 1 rfl))) (hL40.hFl hp41 (Bf [] rfl)) (hL40.into hp41 _) r42 hv43) ?_
     rintro _ w44 ⟨rfl,hM45⟩
     have hL46:=hL40.call hp41 hM45
     refine ⟨_,_,_,rfl,hL46,?_⟩
     refine Aa 3 rfl (Af rfl) gn rfl<|Ah 4 rfl<|Ag rfl<|Ac rfl rfl<|Aa 0 rfl (Ae rfl) gn rfl<|Aa 1 rfl (Ba rfl rfl rfl) gn rfl<|Ah 2 rfl ?_
     by_cases hp47:r42 < 0
     ·have h:=Ap hp47 h
      refine Bi rfl _ rfl ((decide_eq_true hp47))<|Ag rfl<|Ac rfl rfl<|Aa 0 rfl (Af rfl) gn rfl<|Ah 1 rfl ?_
      have h:=Out.inr hO1 h
      refine Bg [.int .i64 (-1)] rfl Tryd.func54 rfl (.tmp rfl (.nil)) fun wr hLr=>?_
      have hMr:=hLr.pk0 (.c 1 rfl .n)
      show Q3 w F  r (.returned (Bz [.int .i64 (-1)])) wr
      rw [h]
      exact ⟨rfl,hMr⟩
     ·have h:=Am hp47 h
      refine Bc rfl _ rfl ((decide_eq_false hp47))<|Bo rfl<|Bj<|Ac rfl rfl<|Aa 0 rfl (Ba rfl rfl rfl) gn rfl<|Aa 1 rfl (Ae rfl) gn rfl<|Ah 2 rfl<|Cm ?_
      have ih:=Out.inl hO1 h
      exact D6 [0,1] (ih ()) ⟨rfl,rfl,rfl,rfl,trivial⟩ (.slnil) rfl
    ·have h:=Am hp38 h
     refine Bc rfl _ rfl ((decide_eq_false hp38))<|E8 [.code Xiw] rfl rfl<|Ag rfl<|Ac rfl rfl<|Aa 0 rfl (Ae rfl) gn rfl<|Aa 1 rfl (Af rfl) gn rfl<|Ah 2 rfl ?_
     have h:=Out.inr hO1 h
     refine Bg [.int .i64 x26] rfl Tryd.func54 rfl (.tmp rfl (.nil)) fun wr hLr=>?_
     have hMr:=hLr.pk0 (.c 1 rfl .n)
     show Q3 w F  r (.returned (Bz [.int .i64 x26])) wr
     rw [h]
     exact ⟨rfl,hMr⟩
   exact D6 [0,1] (key2 _ h ()) ⟨rfl,rfl,rfl,rfl,trivial⟩ (.slnil) rfl
 refine Ac rfl rfl<|Aa 0 rfl (Ae rfl) gn rfl<|Aa 1 rfl (Ae rfl) gn rfl<|Aa 2 rfl (D5 Tm rfl h5.hq) gn rfl<|Aa 3 rfl (Ba rfl rfl rfl) gn rfl<|Aa 4 rfl (Ae rfl) gn rfl ?_
 by_cases hp48:x6≥(x1.length:Int)
 ·have h:=Ap hp48 h
  refine Bh 10 rfl ((decide_eq_true hp48))<|Ad 5 rfl (ps 10 rfl rfl rfl)<|Ad 6 rfl (ps 10 rfl rfl rfl)<|Ad 7 rfl (ps 10 rfl rfl rfl)<|Ad 8 rfl (ps 10 rfl rfl rfl)<|Ad 9 rfl (ps 10 rfl rfl rfl)<|Ad 10 rfl (ps 10 rfl rfl rfl)<|Aa 11 rfl (Aw (b:=true) rfl rfl) gn rfl<|Ah 12 rfl ?_
  exact D6 [0,1] (j1 true h) ⟨rfl,rfl,rfl,trivial⟩ (.slnil) rfl
 ·have h:=Am hp48 h
  refine Bh 10 rfl ((decide_eq_false hp48))<|Aa 5 rfl (Ae rfl) (gy 10 rfl rfl) rfl<|Aa 6 rfl (Ae rfl) (gy 10 rfl rfl) rfl ?_
  obtain ⟨hb49,h⟩:=h
  have hr50:=Rw.readF (s:=St w []) (hl:=Dp) (h1:=Du) h5 hb49
  refine Aa 7 rfl (Ef (s:=St w []) Oq rfl rfl h5 hb49) (gy 10 rfl rfl) rfl<|Aa 8 rfl (Jq Vz rfl) (gy 10 rfl rfl) rfl<|Aa 9 rfl (Le (kk:=(x6:Int).toNat * 5) (j:=4) (St w []) O9 rfl hr50 rfl (me 1 rfl)) (gy 10 rfl rfl) rfl<|Aa 10 rfl (Ba rfl rfl rfl) (gy 10 rfl rfl) rfl<|Aa 11 rfl (Aw (b:=false) rfl rfl) gn rfl<|Ah 12 rfl ?_
  exact D6 [0,1] (j1 (decide ((ix x1 x6).kids < 0)) h) ⟨rfl,rfl,rfl,trivial⟩ (.slnil) rfl
theorem Zb:∀ n,X7 (Pz n)
 | 0=>fun w F x1 x6 A2 n3 c4 h5 hF hL0 r h=>h.elim
 | n + 1=>by
  have ih:=Zb n
  exact Xcs _ ih
theorem Xc2 (w:World) (F:Nat→Prop) (x1:List Aj) (x6:Int) (A2:Option Addr) (n3:Nat) (c4:Nat) (h5:Rw Cb w (St w []).av A2 n3 c4 x1) (hF:∀ b,F b→b < w.heap.size∧∀ o ∈ ([]:List (List Nat)),b ∉ o) (hL0:B.Loc w w [] [Sm w.heap.size F w [],St w []]) (r:Int) (h:Zj x1 x6 r):Calls Tryd.prog 54 #[.slice A2 n3 c4,.int .i64 x6] w (Q3 w F  r):=by
 obtain ⟨n,h⟩:=h
 exact (Zb n) w F x1 x6 A2 n3 c4 h5 hF hL0 r h
abbrev Xh (w:World) (F:Nat→Prop) (r:Bool):Ending→World→Prop:=fun e w'=>e=.returned (.bool r)∧B.Loc w w' [] [St w []]
noncomputable abbrev Xgw (w:World) (F:Nat→Prop) (r:Bool):Cx:=⟨Tryd.prog,83,Tryd.f83,9,Xh w F  r,w⟩
theorem Z4 (w:World) (F:Nat→Prop) (x1:Int) (hF:∀ b,F b→b < w.heap.size∧∀ o ∈ ([]:List (List Nat)),b ∉ o) (hL0:B.Loc w w [] [Sm w.heap.size F w [],St w []]) (r:Bool) (h:Vr x1 r):Calls Tryd.prog 83 #[.int .u8 x1] w (Xh w F  r):=by
 unfold Vr at h
 refine Bl (vs:=[.int .u8 x1]) 9 Tryd.func83 rfl Tryd.ntmps83 rfl hL0 ?_
 show G (Xgw w F r) _ _ _ _
 refine Ag rfl<|Ac rfl rfl<|Aa 0 rfl (Af rfl) gn rfl<|Ah 1 rfl<|Ag rfl<|Ac rfl rfl<|Aa 0 rfl (Ae rfl) gn rfl<|Aa 1 rfl (Ba rfl rfl rfl) gn rfl<|Aa 2 rfl (Ae rfl) gn rfl ?_
 by_cases hp2:x1≥48
 ·have h:=Ap hp2 h
  refine Bh 5 rfl ((decide_eq_true hp2))<|Aa 3 rfl (Ae rfl) (gy 5 rfl rfl) rfl<|Aa 4 rfl (Ba rfl rfl rfl) (gy 5 rfl rfl) rfl<|Aa 5 rfl (Aw (b:=true) rfl rfl) gn rfl<|Aa 6 rfl (Af rfl) gn rfl<|Ah 7 rfl ?_
  refine Bg [.bool (decide (x1≤57))] rfl Tryd.func83 rfl (.tmp rfl (.nil)) fun wr hLr=>?_
  have hMr:=hLr.pk0 (.c 1 rfl .n)
  show Xh w F  r (.returned (Bz [.bool (decide (x1≤57))])) wr
  rw [h]
  exact ⟨rfl,hMr⟩
 ·have h:=Am hp2 h
  refine Bh 5 rfl ((decide_eq_false hp2))<|Ad 3 rfl (ps 5 rfl rfl rfl)<|Ad 4 rfl (ps 5 rfl rfl rfl)<|Aa 5 rfl (Aw (b:=false) rfl rfl) gn rfl<|Aa 6 rfl (Af rfl) gn rfl<|Ah 7 rfl ?_
  refine Bg [.bool false] rfl Tryd.func83 rfl (.tmp rfl (.nil)) fun wr hLr=>?_
  have hMr:=hLr.pk0 (.c 1 rfl .n)
  show Xh w F  r (.returned (Bz [.bool false])) wr
  rw [h]
  exact ⟨rfl,hMr⟩
abbrev Jy (w:World) (F:Nat→Prop) (r:Bool):Ending→World→Prop:=fun e w'=>e=.returned (.bool r)∧B.Loc w w' [] [St w []]
noncomputable abbrev Xgl (w:World) (F:Nat→Prop) (r:Bool):Cx:=⟨Tryd.prog,82,Tryd.f82,21,Jy w F  r,w⟩
theorem Xcw (w:World) (F:Nat→Prop) (x1:Int) (hF:∀ b,F b→b < w.heap.size∧∀ o ∈ ([]:List (List Nat)),b ∉ o) (hL0:B.Loc w w [] [Sm w.heap.size F w [],St w []]) (r:Bool) (h:Wu x1 r):Calls Tryd.prog 82 #[.int .u8 x1] w (Jy w F  r):=by
 unfold Wu at h
 refine Bl (vs:=[.int .u8 x1]) 21 Tryd.func82 rfl Tryd.ntmps82 rfl hL0 ?_
 show G (Xgl w F r) _ _ _ _
 refine Ag rfl<|Ac rfl rfl<|Aa 0 rfl (Af rfl) gn rfl<|Ah 1 rfl<|Ag rfl<|Ac rfl rfl<|Aa 0 rfl (Ae rfl) gn rfl<|Aa 1 rfl (Ba rfl rfl rfl) gn rfl<|Aa 2 rfl (Ae rfl) gn rfl ?_
 by_cases hp2:x1≥97
 ·have h:=Ap hp2 h
  refine Bh 5 rfl ((decide_eq_true hp2))<|Aa 3 rfl (Ae rfl) (gy 5 rfl rfl) rfl<|Aa 4 rfl (Ba rfl rfl rfl) (gy 5 rfl rfl) rfl<|Aa 5 rfl (Aw (b:=true) rfl rfl) gn rfl<|Aa 6 rfl (Ae rfl) gn rfl ?_
  by_cases hp3:x1≤122
  ·have h:=Ap hp3 h
   refine Bh 9 rfl ((decide_eq_true hp3))<|Ad 7 rfl (ps 9 rfl rfl rfl)<|Ad 8 rfl (ps 9 rfl rfl rfl)<|Ad 9 rfl (ps 9 rfl rfl rfl)<|Ad 10 rfl (pu 12 rfl rfl)<|Ad 11 rfl (pu 12 rfl rfl)<|Ad 12 rfl (ps 9 rfl rfl rfl)<|Aa 13 rfl (Aw (b:=true) rfl rfl) gn rfl<|Aa 14 rfl (Ae rfl) gn rfl<|Ad 15 rfl (ps 17 rfl rfl rfl)<|Ad 16 rfl (ps 17 rfl rfl rfl)<|Aa 17 rfl (Aw (b:=true) rfl rfl) gn rfl ?_
   refine Aa 18 rfl (Af rfl) gn rfl<|Ah 19 rfl ?_
   refine Bg [.bool true] rfl Tryd.func82 rfl (.tmp rfl (.nil)) fun wr hLr=>?_
   have hMr:=hLr.pk0 (.c 1 rfl .n)
   show Jy w F  r (.returned (Bz [.bool true])) wr
   rw [h]
   exact ⟨rfl,hMr⟩
  ·have h:=Am hp3 h
   refine Bh 9 rfl ((decide_eq_false hp3))<|Aa 7 rfl (Ae rfl) (gy 9 rfl rfl) rfl<|Aa 8 rfl (Ba rfl rfl rfl) (gy 9 rfl rfl) rfl<|Aa 9 rfl (Ae rfl) (gy 9 rfl rfl) rfl ?_
   by_cases hp4:x1≥65
   ·have h:=Ap hp4 h
    refine Bh 12 rfl ((decide_eq_true hp4))<|Aa 10 rfl (Ae rfl) (gy 12 rfl rfl) rfl<|Aa 11 rfl (Ba rfl rfl rfl) (gy 12 rfl rfl) rfl<|Aa 12 rfl (Aw (b:=true) rfl rfl) (gy 9 rfl rfl) rfl<|Aa 13 rfl (Aw (b:=false) rfl rfl) gn rfl<|Aa 14 rfl (Ae rfl) gn rfl ?_
    by_cases hp5:x1≤90
    ·have h:=Ap hp5 h
     refine Bh 17 rfl ((decide_eq_true hp5))<|Ad 15 rfl (ps 17 rfl rfl rfl)<|Ad 16 rfl (ps 17 rfl rfl rfl)<|Aa 17 rfl (Aw (b:=true) rfl rfl) gn rfl<|Aa 18 rfl (Af rfl) gn rfl<|Ah 19 rfl ?_
     refine Bg [.bool true] rfl Tryd.func82 rfl (.tmp rfl (.nil)) fun wr hLr=>?_
     have hMr:=hLr.pk0 (.c 1 rfl .n)
     show Jy w F  r (.returned (Bz [.bool true])) wr
     rw [h]
     exact ⟨rfl,hMr⟩
    ·have h:=Am hp5 h
     refine Bh 17 rfl ((decide_eq_false hp5))<|Aa 15 rfl (Ae rfl) (gy 17 rfl rfl) rfl<|Aa 16 rfl (Ba rfl rfl rfl) (gy 17 rfl rfl) rfl<|Aa 17 rfl (Aw (b:=false) rfl rfl) gn rfl<|Aa 18 rfl (Af rfl) gn rfl<|Ah 19 rfl ?_
     refine Bg [.bool (x1 == 95)] rfl Tryd.func82 rfl (.tmp rfl (.nil)) fun wr hLr=>?_
     have hMr:=hLr.pk0 (.c 1 rfl .n)
     show Jy w F  r (.returned (Bz [.bool (x1 == 95)])) wr
     rw [h]
     exact ⟨rfl,hMr⟩
   ·have h:=Am hp4 h
    refine Bh 12 rfl ((decide_eq_false hp4))<|Ad 10 rfl (ps 12 rfl rfl rfl)<|Ad 11 rfl (ps 12 rfl rfl rfl)<|Aa 12 rfl (Aw (b:=false) rfl rfl) (gy 9 rfl rfl) rfl<|Aa 13 rfl (Aw (b:=false) rfl rfl) gn rfl<|Aa 14 rfl (Ae rfl) gn rfl<|Aa 15 rfl (Ae rfl) (gy 17 rfl rfl) rfl<|Aa 16 rfl (Ba rfl rfl rfl) (gy 17 rfl rfl) rfl<|Aa 17 rfl (Aw (b:=false) rfl rfl) gn rfl<|Aa 18 rfl (Af rfl) gn rfl<|Ah 19 rfl ?_
    refine Bg [.bool (x1 == 95)] rfl Tryd.func82 rfl (.tmp rfl (.nil)) fun wr hLr=>?_
    have hMr:=hLr.pk0 (.c 1 rfl .n)
    show Jy w F  r (.returned (Bz [.bool (x1 == 95)])) wr
    rw [h]
    exact ⟨rfl,hMr⟩
 ·have h:=Am hp2 h
  refine Bh 5 rfl ((decide_eq_false hp2))<|Ad 3 rfl (ps 5 rfl rfl rfl)<|Ad 4 rfl (ps 5 rfl rfl rfl)<|Aa 5 rfl (Aw (b:=false) rfl rfl) gn rfl<|Aa 6 rfl (Ae rfl) gn rfl<|Aa 7 rfl (Ae rfl) (gy 9 rfl rfl) rfl<|Aa 8 rfl (Ba rfl rfl rfl) (gy 9 rfl rfl) rfl<|Aa 9 rfl (Ae rfl) (gy 9 rfl rfl) rfl ?_
  by_cases hp6:x1≥65
  ·have h:=Ap hp6 h
   refine Bh 12 rfl ((decide_eq_true hp6))<|Aa 10 rfl (Ae rfl) (gy 12 rfl rfl) rfl<|Aa 11 rfl (Ba rfl rfl rfl) (gy 12 rfl rfl) rfl<|Aa 12 rfl (Aw (b:=true) rfl rfl) (gy 9 rfl rfl) rfl<|Aa 13 rfl (Aw (b:=false) rfl rfl) gn rfl<|Aa 14 rfl (Ae rfl) gn rfl ?_
   by_cases hp7:x1≤90
   ·have h:=Ap hp7 h
    refine Bh 17 rfl ((decide_eq_true hp7))<|Ad 15 rfl (ps 17 rfl rfl rfl)<|Ad 16 rfl (ps 17 rfl rfl rfl)<|Aa 17 rfl (Aw (b:=true) rfl rfl) gn rfl<|Aa 18 rfl (Af rfl) gn rfl<|Ah 19 rfl ?_
    refine Bg [.bool true] rfl Tryd.func82 rfl (.tmp rfl (.nil)) fun wr hLr=>?_
    have hMr:=hLr.pk0 (.c 1 rfl .n)
    show Jy w F  r (.returned (Bz [.bool true])) wr
    rw [h]
    exact ⟨rfl,hMr⟩
   ·have h:=Am hp7 h
    refine Bh 17 rfl ((decide_eq_false hp7))<|Aa 15 rfl (Ae rfl) (gy 17 rfl rfl) rfl<|Aa 16 rfl (Ba rfl rfl rfl) (gy 17 rfl rfl) rfl<|Aa 17 rfl (Aw (b:=false) rfl rfl) gn rfl<|Aa 18 rfl (Af rfl) gn rfl<|Ah 19 rfl ?_
    refine Bg [.bool (x1 == 95)] rfl Tryd.func82 rfl (.tmp rfl (.nil)) fun wr hLr=>?_
    have hMr:=hLr.pk0 (.c 1 rfl .n)
    show Jy w F  r (.returned (Bz [.bool (x1 == 95)])) wr
    rw [h]
    exact ⟨rfl,hMr⟩
  ·have h:=Am hp6 h
   refine Bh 12 rfl ((decide_eq_false hp6))<|Ad 10 rfl (ps 12 rfl rfl rfl)<|Ad 11 rfl (ps 12 rfl rfl rfl)<|Aa 12 rfl (Aw (b:=false) rfl rfl) (gy 9 rfl rfl) rfl<|Aa 13 rfl (Aw (b:=false) rfl rfl) gn rfl<|Aa 14 rfl (Ae rfl) gn rfl<|Aa 15 rfl (Ae rfl) (gy 17 rfl rfl) rfl<|Aa 16 rfl (Ba rfl rfl rfl) (gy 17 rfl rfl) rfl<|Aa 17 rfl (Aw (b:=false) rfl rfl) gn rfl<|Aa 18 rfl (Af rfl) gn rfl<|Ah 19 rfl ?_
   refine Bg [.bool (x1 == 95)] rfl Tryd.func82 rfl (.tmp rfl (.nil)) fun wr hLr=>?_
   have hMr:=hLr.pk0 (.c 1 rfl .n)
   show Jy w F  r (.returned (Bz [.bool (x1 == 95)])) wr
   rw [h]
   exact ⟨rfl,hMr⟩
abbrev Xcy (w:World) (F:Nat→Prop) (r:Bool):Ending→World→Prop:=fun e w'=>e=.returned (.bool r)∧B.Loc w w' [] [St w []]
theorem Xad (w:World) (F:Nat→Prop) (x1:ByteArray) (x2:ByteArray) (hF:∀ b,F b→b < w.heap.size∧∀ o ∈ ([]:List (List Nat)),b ∉ o) (hL0:B.Loc w w [] [Sm w.heap.size F w [],St w []]) (r:Bool) (h:X9 x1 x2 r):Calls Tryd.prog 100 #[.string x1,.string x2] w (Xcy w F  r):=by
 unfold X9 at h
 obtain ⟨h1,rfl⟩:=h
 rw [one_byte h1]
 refine Calls.mono (Tryd.strings_Contains_one x1 _ w) ?_
 rintro e w' ⟨rfl,rfl⟩
 exact ⟨rfl,Loc.of_below (Below.refl _ _)⟩
noncomputable abbrev Xc7:=Code.snd (Code.snd (Df Tryd.f78))
noncomputable abbrev Xkc:=Code.snd (Code.fst (Code.snd (Code.fst (Code.snd (Code.fst (Code.snd (Df Tryd.f78)))))))
noncomputable abbrev q78c15:=Code.snd (Code.fst (Code.fst (Code.snd (Code.fst (Code.snd (Code.fst (Code.snd (Df Tryd.f78))))))))
noncomputable abbrev Xii:=Code.snd Xkc
noncomputable abbrev Xee:=Code.fst (Code.fst (Code.snd (Code.fst Xkc)))
noncomputable abbrev Xgg:=Code.snd (Code.fst (Code.snd (Code.snd (Code.snd (Code.snd (Code.snd (Code.fst (Code.snd (Code.fst (Code.snd (Df Tryd.f78)))))))))))
noncomputable abbrev Xag:=Code.fst (Code.fst (Code.snd (Code.fst (Code.fst (Code.snd (Code.snd (Code.snd (Code.snd (Code.snd (Code.fst (Code.snd (Code.fst (Code.snd (Df Tryd.f78))))))))))))))
noncomputable abbrev q78c66:=Code.snd (Code.snd Xag)
noncomputable abbrev q78c72:=Code.snd (Code.fst (Code.snd (Code.fst (Code.fst (Code.snd Xag)))))
abbrev Gq (w:World) (F:Nat→Prop) (r:Bool):Ending→World→Prop:=fun e w'=>e=.returned (.bool r)∧B.Loc w w' [] [St w []]
noncomputable abbrev Lm (w:World) (F:Nat→Prop) (r:Bool):Cx:=⟨Tryd.prog,78,Tryd.f78,100,Gq w F  r,w⟩
theorem Xd6 (w:World) (F:Nat→Prop) (x1:Dw) (hF:∀ b,F b→b < w.heap.size∧∀ o ∈ ([]:List (List Nat)),b ∉ o) (hL0:B.Loc w w [] [Sm w.heap.size F w [],St w []]) (r:Bool) (h:Xo x1 r):Calls Tryd.prog 78 #[.agg #[.int .i64 x1.kind,.string x1.text,.int .i64 x1.n,.int .i64 x1.at_]] w (Gq w F  r):=by
 unfold Xo at h
 refine Bl (vs:=[.agg #[.int .i64 x1.kind,.string x1.text,.int .i64 x1.n,.int .i64 x1.at_]]) 100 Tryd.func78 rfl Tryd.ntmps78 rfl hL0 ?_
 show G (Lm w F r) _ _ _ _
 refine Ag rfl<|Ac rfl rfl ?_
 refine Ci 0 rfl (O3 [.int .i64 x1.kind,.string x1.text,.int .i64 x1.n,.int .i64 x1.at_] rfl rfl rfl fun gb2=>?_) gn
 refine Aa 1 rfl (Af rfl) gn rfl<|Ah 2 rfl<|Ag rfl<|Ag rfl<|Ac rfl rfl<|Aa 0 rfl (Bd Xic rfl) gn rfl<|Aa 1 rfl (Au 0 ld_79 rfl rfl rfl) gn rfl<|Ah 2 rfl<|Bv rfl<|Ag rfl<|Ac rfl rfl<|Aa 0 rfl (Ba rfl rfl rfl) gn rfl ?_
 refine Aa 1 rfl (Af rfl) gn rfl<|Ah 2 rfl ?_
 by_cases hp4:x1.kind=1
 ·have h:=Ap hp4 h
  refine Bi rfl _ rfl ((eqi hp4))<|Ag rfl<|Ag rfl ?_
  have j1:∀ (x17:Bool) (h:Oy x1 x17 r) ,G (Lm w F r) [.code q78c15,.code Xkc,.inBlock 0,.code Xc7] [(1,.pointer (some ⟨gb2,0,none⟩)),(23,.bool x17)] [.box gb2 84 [.int .i64 x1.kind,.string x1.text,.int .i64 x1.n,.int .i64 x1.at_]] [Sm w.heap.size F w [],St w []]:=by
   intro x17 h
   unfold Oy at h
   by_cases hp18:x17=true
   ·have h:=Ap hp18 h
    refine Bi rfl _ rfl (hp18)<|Ag rfl<|Ac rfl rfl<|Aa 0 rfl (Af rfl) gn rfl<|Ah 1 rfl ?_
    refine Bg [.bool false] rfl Tryd.func78 rfl (.tmp rfl (.nil)) fun wr hLr=>?_
    have hMr:=hLr.pk0 (.c 1 rfl .n)
    show Gq w F  r (.returned (Bz [.bool false])) wr
    rw [h]
    exact ⟨rfl,hMr⟩
   ·have h:=Am hp18 h
    refine Bc rfl _ rfl ((bf hp18))<|Bo rfl<|Ag rfl<|Ag rfl<|Ac rfl rfl<|Aa 0 rfl (Af rfl) gn rfl<|Ah 1 rfl<|Bv rfl<|Ei rfl ?_
    have key2:∀ s,Ar (fun (s:Int) o=>Ov x1 s o) s r→(fun (s:Int)=>∀ (_:Unit),G (Lm w F r) [.code Xee,.inLoop Xee,.inBlock 1,.code Xii,.inBlock 0,.code Xc7] [(1,.pointer (some ⟨gb2,0,none⟩)),(3,.int .i64 s)] [.box gb2 84 [.int .i64 x1.kind,.string x1.text,.int .i64 x1.n,.int .i64 x1.at_]] [Sm w.heap.size F w [],St w []]) s:=by
     intro s hs
     refine Ar.ind (mot:=(fun (s:Int)=>∀ (_:Unit),G (Lm w F r) [.code Xee,.inLoop Xee,.inBlock 1,.code Xii,.inBlock 0,.code Xc7] [(1,.pointer (some ⟨gb2,0,none⟩)),(3,.int .i64 s)] [.box gb2 84 [.int .i64 x1.kind,.string x1.text,.int .i64 x1.n,.int .i64 x1.at_]] [Sm w.heap.size F w [],St w []])) ?_ hs
     clear hs s
     intro x40 o1 h hO1
     show ∀ (_:Unit),G (Lm w F r) [.code Xee,.inLoop Xee,.inBlock 1,.code Xii,.inBlock 0,.code Xc7] [(1,.pointer (some ⟨gb2,0,none⟩)),(3,.int .i64 x40)] [.box gb2 84 [.int .i64 x1.kind,.string x1.text,.int .i64 x1.n,.int .i64 x1.at_]] [Sm w.heap.size F w [],St w []]
     intro _
     have h:Ov x1 x40 o1:=h
     unfold Ov at h
     refine Ag rfl<|Ag rfl<|Ac rfl rfl<|Aa 0 rfl (Ae rfl) gn rfl<|Aa 1 rfl (Bd Lj rfl) gn rfl<|Aa 2 rfl (Au 0 Gw rfl rfl rfl) gn rfl<|Aa 3 rfl (Vb Un rfl) gn rfl<|Aa 4 rfl (Ba rfl rfl rfl) gn rfl<|Ah 5 rfl ?_
     by_cases hp61:x40 < (x1.text.size:Int)
     ·have h:=Ap hp61 h
      refine Bi rfl _ rfl ((decide_eq_true hp61))<|Bo rfl<|Ag rfl<|Bv rfl<|Ag rfl<|Ac rfl rfl<|Aa 0 rfl (Bd Lj rfl) gn rfl<|Aa 1 rfl (Au 0 Gw rfl rfl rfl) gn rfl<|Aa 2 rfl (Ae rfl) gn rfl ?_
      obtain ⟨hb62,h⟩:=h
      refine Aa 3 rfl (Oa Un rfl rfl hb62) gn rfl ?_
      obtain ⟨r66,hv67,h⟩:=h
      refine Ci 4 rfl (D7 [.int .u8 (bt x1.text x40)] rfl Tryd.func82 rfl rfl rfl fun w63 hL64=>?_) gn
      have hp65:=pmI hL64 .n (.c 0 rfl .n) (by kernel_rfl)
      refine Calls.mono (Xcw w63 (Fl ([]:List Cc)) (bt x1.text x40) (hL64.hFl hp65 (Bf [] rfl)) (hL64.into hp65 _) r66 hv67) ?_
      rintro _ w68 ⟨rfl,hM69⟩
      have hL70:=hL64.call hp65 hM69
      refine ⟨_,_,_,rfl,hL70,?_⟩
      refine Aa 5 rfl (Oi rfl) gn rfl<|Aa 6 rfl (Ae rfl) gn rfl ?_
      by_cases hp71:r66=true
      ·have h:=Ap hp71 h
       refine Bh 37 rfl ((nf hp71))<|Ad 7 rfl (ps 37 rfl rfl rfl)<|Ad 8 rfl (ps 37 rfl rfl rfl)<|Ad 9 rfl (ps 37 rfl rfl rfl)<|Ad 10 rfl (ps 37 rfl rfl rfl)<|Ad 11 rfl (ps 37 rfl rfl rfl)<|Ad 12 rfl (ps 37 rfl rfl rfl)<|Aa 13 rfl (Aw (b:=false) rfl rfl) gn rfl<|Ah 14 rfl<|Bc rfl _ rfl (rfl)<|Bo rfl<|Bj ?_
       refine Ac rfl rfl<|Aa 0 rfl (Ae rfl) gn rfl<|Aa 1 rfl (Ba rfl rfl rfl) gn rfl<|Aa 2 rfl (Af rfl) gn rfl<|Ah 3 rfl<|Cm ?_
       have ih:=Out.inl hO1 h
       exact D6 [0,1] (ih ()) ⟨rfl,rfl,trivial⟩ (.cons_cons _ (.slnil)) rfl
      ·have h:=Am hp71 h
       refine Bh 37 rfl ((nt (bf hp71)))<|Aa 7 rfl (Bd Lj rfl) (gy 37 rfl rfl) rfl<|Aa 8 rfl (Au 0 Gw rfl rfl rfl) (gy 37 rfl rfl) rfl<|Aa 9 rfl (Ae rfl) (gy 37 rfl rfl) rfl<|Aa 10 rfl (Oa Un rfl rfl hb62) (gy 37 rfl rfl) rfl ?_
       obtain ⟨r75,hv76,h⟩:=h
       refine Ci 11 rfl (D7 [.int .u8 (bt x1.text x40)] rfl Tryd.func83 rfl rfl rfl fun w72 hL73=>?_) (gy 37 rfl rfl)
       have hp74:=pmI hL73 .n (.c 0 rfl .n) (by kernel_rfl)
       refine Calls.mono (Z4 w72 (Fl ([]:List Cc)) (bt x1.text x40) (hL73.hFl hp74 (Bf [] rfl)) (hL73.into hp74 _) r75 hv76) ?_
       rintro _ w77 ⟨rfl,hM78⟩
       have hL79:=hL73.call hp74 hM78
       refine ⟨_,_,_,rfl,hL79,?_⟩
       refine Aa 12 rfl (Oi rfl) (gy 37 rfl rfl) rfl<|Aa 13 rfl (Aw (b:=true) rfl rfl) gn rfl<|Ah 14 rfl ?_
       by_cases hp80:r75=true
       ·have h:=Ap hp80 h
        refine Bc rfl _ rfl ((nf hp80))<|Bo rfl<|Bj<|Ac rfl rfl<|Aa 0 rfl (Ae rfl) gn rfl<|Aa 1 rfl (Ba rfl rfl rfl) gn rfl<|Aa 2 rfl (Af rfl) gn rfl<|Ah 3 rfl<|Cm ?_
        have ih:=Out.inl hO1 h
        exact D6 [0,1] (ih ()) ⟨rfl,rfl,trivial⟩ (.cons_cons _ (.slnil)) rfl
       ·have h:=Am hp80 h
        refine Bi rfl _ rfl ((nt (bf hp80)))<|Ag rfl<|Ac rfl rfl<|Aa 0 rfl (Af rfl) gn rfl<|Ah 1 rfl ?_
        have h:=Out.inr hO1 h
        refine Bg [.bool false] rfl Tryd.func78 rfl (.tmp rfl (.nil)) fun wr hLr=>?_
        have hMr:=hLr.pk0 (.c 1 rfl .n)
        show Gq w F  r (.returned (Bz [.bool false])) wr
        rw [h]
        exact ⟨rfl,hMr⟩
     ·have h:=Am hp61 h
      refine Bc rfl _ rfl ((decide_eq_false hp61))<|E8 [.code Xii,.inBlock 0,.code Xc7] rfl rfl<|Ag rfl<|Ac rfl rfl<|Aa 0 rfl (Af rfl) gn rfl<|Ah 1 rfl ?_
      have h:=Out.inr hO1 h
      refine Bg [.bool true] rfl Tryd.func78 rfl (.tmp rfl (.nil)) fun wr hLr=>?_
      have hMr:=hLr.pk0 (.c 1 rfl .n)
      show Gq w F  r (.returned (Bz [.bool true])) wr
      rw [h]
      exact ⟨rfl,hMr⟩
    exact D6 [0,1] (key2 _ h ()) ⟨rfl,rfl,trivial⟩ (.cons_cons _ (.slnil)) rfl
  refine Ac rfl rfl<|Aa 0 rfl (Bd Lj rfl) gn rfl<|Aa 1 rfl (Au 0 Gw rfl rfl rfl) gn rfl<|Aa 2 rfl (Yp rfl rfl) gn rfl<|Aa 3 rfl (Ae rfl) gn rfl ?_
  by_cases hp81:x1.text=(⟨#[]⟩:ByteArray)
  ·have h:=Ap hp81 h
   refine Bh 12 rfl ((Ox hp81))<|Ad 4 rfl (ps 12 rfl rfl rfl)<|Ad 5 rfl (ps 12 rfl rfl rfl)<|Ad 6 rfl (ps 12 rfl rfl rfl)<|Ad 7 rfl (ps 12 rfl rfl rfl)<|Aa 8 rfl (Aw (b:=true) rfl rfl) gn rfl<|Aa 9 rfl (Ae rfl) gn rfl<|Ad 10 rfl (ps 18 rfl rfl rfl)<|Ad 11 rfl (ps 18 rfl rfl rfl)<|Ad 12 rfl (ps 18 rfl rfl rfl)<|Ad 13 rfl (ps 18 rfl rfl rfl)<|Aa 14 rfl (Aw (b:=true) rfl rfl) gn rfl ?_
   refine Ah 15 rfl ?_
   exact D6 [0,1] (j1 true h) ⟨rfl,rfl,trivial⟩ (.cons_cons _ (.slnil)) rfl
  ·have h:=Am hp81 h
   refine Bh 12 rfl ((Oo hp81))<|Aa 4 rfl (Bd Lj rfl) (gy 12 rfl rfl) rfl<|Aa 5 rfl (Au 0 Gw rfl rfl rfl) (gy 12 rfl rfl) rfl<|Aa 6 rfl (Vb Un rfl) (gy 12 rfl rfl) rfl<|Aa 7 rfl (Ba rfl rfl rfl) (gy 12 rfl rfl) rfl<|Aa 8 rfl (Aw (b:=false) rfl rfl) gn rfl<|Aa 9 rfl (Ae rfl) gn rfl ?_
   by_cases hp82:(x1.text.size:Int) > 24
   ·have h:=Ap hp82 h
    refine Bh 18 rfl ((decide_eq_true hp82))<|Ad 10 rfl (ps 18 rfl rfl rfl)<|Ad 11 rfl (ps 18 rfl rfl rfl)<|Ad 12 rfl (ps 18 rfl rfl rfl)<|Ad 13 rfl (ps 18 rfl rfl rfl)<|Aa 14 rfl (Aw (b:=true) rfl rfl) gn rfl<|Ah 15 rfl ?_
    exact D6 [0,1] (j1 true h) ⟨rfl,rfl,trivial⟩ (.cons_cons _ (.slnil)) rfl
   ·have h:=Am hp82 h
    refine Bh 18 rfl ((decide_eq_false hp82))<|Aa 10 rfl (Bd Lj rfl) (gy 18 rfl rfl) rfl<|Aa 11 rfl (Au 0 Gw rfl rfl rfl) (gy 18 rfl rfl) rfl ?_
    obtain ⟨hb83,h⟩:=h
    refine Aa 12 rfl (Oa Un rfl rfl hb83) (gy 18 rfl rfl) rfl ?_
    obtain ⟨r87,hv88,h⟩:=h
    refine Ci 13 rfl (D7 [.int .u8 (bt x1.text 0)] rfl Tryd.func83 rfl rfl rfl fun w84 hL85=>?_) (gy 18 rfl rfl)
    have hp86:=pmI hL85 .n (.c 0 rfl .n) (by kernel_rfl)
    refine Calls.mono (Z4 w84 (Fl ([]:List Cc)) (bt x1.text 0) (hL85.hFl hp86 (Bf [] rfl)) (hL85.into hp86 _) r87 hv88) ?_
    rintro _ w89 ⟨rfl,hM90⟩
    have hL91:=hL85.call hp86 hM90
    refine ⟨_,_,_,rfl,hL91,?_⟩
    refine Aa 14 rfl (Aw (b:=false) rfl rfl) gn rfl<|Ah 15 rfl ?_
    exact D6 [0,1] (j1 r87 h) ⟨rfl,rfl,trivial⟩ (.cons_cons _ (.slnil)) rfl
 ·have h:=Am hp4 h
  refine Bc rfl _ rfl ((nei hp4))<|Ag rfl<|Ac rfl rfl<|Aa 0 rfl (Ba rfl rfl rfl) gn rfl<|Aa 1 rfl (Af rfl) gn rfl<|Ah 2 rfl ?_
  by_cases hp92:x1.kind=2
  ·have h:=Ap hp92 h
   refine Bi rfl _ rfl ((eqi hp92))<|Ag rfl<|Ac rfl rfl<|Aa 0 rfl (Af rfl) gn rfl<|Ah 1 rfl ?_
   refine Bg [.bool true] rfl Tryd.func78 rfl (.tmp rfl (.nil)) fun wr hLr=>?_
   have hMr:=hLr.pk0 (.c 1 rfl .n)
   show Gq w F  r (.returned (Bz [.bool true])) wr
   rw [h]
   exact ⟨rfl,hMr⟩
  ·have h:=Am hp92 h
   refine Bc rfl _ rfl ((nei hp92))<|Ag rfl<|Ac rfl rfl<|Aa 0 rfl (Ba rfl rfl rfl) gn rfl<|Aa 1 rfl (Af rfl) gn rfl<|Ah 2 rfl ?_
   by_cases hp93:x1.kind=3
   ·have h:=Ap hp93 h
    refine Bi rfl _ rfl ((eqi hp93))<|Ag rfl<|Ag rfl<|Ac rfl rfl<|Aa 0 rfl (Af rfl) gn rfl<|Ah 1 rfl<|Bv rfl<|Ei rfl ?_
    have key3:∀ s,Ar (fun (s:Int) o=>Kq x1 s o) s r→(fun (s:Int)=>∀ (_:Unit),G (Lm w F r) [.code Xag,.inLoop Xag,.inBlock 3,.code Xgg,.inBlock 0,.code Xc7] [(1,.pointer (some ⟨gb2,0,none⟩)),(4,.int .i64 s)] [.box gb2 84 [.int .i64 x1.kind,.string x1.text,.int .i64 x1.n,.int .i64 x1.at_]] [Sm w.heap.size F w [],St w []]) s:=by
     intro s hs
     refine Ar.ind (mot:=(fun (s:Int)=>∀ (_:Unit),G (Lm w F r) [.code Xag,.inLoop Xag,.inBlock 3,.code Xgg,.inBlock 0,.code Xc7] [(1,.pointer (some ⟨gb2,0,none⟩)),(4,.int .i64 s)] [.box gb2 84 [.int .i64 x1.kind,.string x1.text,.int .i64 x1.n,.int .i64 x1.at_]] [Sm w.heap.size F w [],St w []])) ?_ hs
     clear hs s
     intro x105 o1 h hO1
     show ∀ (_:Unit),G (Lm w F r) [.code Xag,.inLoop Xag,.inBlock 3,.code Xgg,.inBlock 0,.code Xc7] [(1,.pointer (some ⟨gb2,0,none⟩)),(4,.int .i64 x105)] [.box gb2 84 [.int .i64 x1.kind,.string x1.text,.int .i64 x1.n,.int .i64 x1.at_]] [Sm w.heap.size F w [],St w []]
     intro _
     have h:Kq x1 x105 o1:=h
     unfold Kq at h
     refine Ag rfl<|Ag rfl<|Ac rfl rfl<|Aa 0 rfl (Ae rfl) gn rfl<|Aa 1 rfl (Bd Lj rfl) gn rfl<|Aa 2 rfl (Au 0 Gw rfl rfl rfl) gn rfl<|Aa 3 rfl (Vb Un rfl) gn rfl<|Aa 4 rfl (Ba rfl rfl rfl) gn rfl<|Ah 5 rfl ?_
     by_cases hp116:x105 < (x1.text.size:Int)
     ·have h:=Ap hp116 h
      refine Bi rfl _ rfl ((decide_eq_true hp116))<|Bo rfl<|Ag rfl<|Bv rfl<|Ag rfl<|Ac rfl rfl<|Aa 0 rfl (Bd Lj rfl) gn rfl<|Aa 1 rfl (Au 0 Gw rfl rfl rfl) gn rfl<|Aa 2 rfl (Ae rfl) gn rfl ?_
      obtain ⟨hb117,h⟩:=h
      refine Aa 3 rfl (Oa Un rfl rfl hb117) gn rfl<|Ah 4 rfl<|Bv rfl<|Ag rfl<|Ag rfl<|Ac rfl rfl<|Aa 0 rfl (Ba rfl rfl rfl) gn rfl<|Aa 1 rfl (Af rfl) gn rfl<|Ah 2 rfl ?_
      have j4:∀ (x120:Bool) (h:Jf x1 x105 x120 o1) ,G (Lm w F r) [.code q78c72,.inBlock 5,.inBlock 4,.code q78c66,.inLoop Xag,.inBlock 3,.code Xgg,.inBlock 0,.code Xc7] [(1,.pointer (some ⟨gb2,0,none⟩)),(4,.int .i64 x105),(59,.int .u8 (bt x1.text x105)),(60,.bool x120)] [.box gb2 84 [.int .i64 x1.kind,.string x1.text,.int .i64 x1.n,.int .i64 x1.at_]] [Sm w.heap.size F w [],St w []]:=by
       intro x120 h
       unfold Jf at h
       by_cases hp121:x120=true
       ·have h:=Ap hp121 h
        refine Bi rfl _ rfl (hp121)<|Ag rfl<|Ac rfl rfl<|Aa 0 rfl (Af rfl) gn rfl<|Ah 1 rfl ?_
        have h:=Out.inr hO1 h
        refine Bg [.bool false] rfl Tryd.func78 rfl (.tmp rfl (.nil)) fun wr hLr=>?_
        have hMr:=hLr.pk0 (.c 1 rfl .n)
        show Gq w F  r (.returned (Bz [.bool false])) wr
        rw [h]
        exact ⟨rfl,hMr⟩
       ·have h:=Am hp121 h
        refine Bc rfl _ rfl ((bf hp121))<|Ag rfl<|Ac rfl rfl<|Aa 0 rfl (Ba rfl rfl rfl) gn rfl<|Aa 1 rfl (Af rfl) gn rfl<|Ah 2 rfl ?_
        by_cases hp122:bt x1.text x105=92
        ·have h:=Ap hp122 h
         refine Bi rfl _ rfl ((eqi hp122))<|Ag rfl<|Ac rfl rfl<|Aa 0 rfl (Ae rfl) gn rfl<|Aa 1 rfl (Ba rfl rfl rfl) gn rfl<|Aa 2 rfl (Af rfl) gn rfl<|Ah 3 rfl<|Ag rfl<|Ac rfl rfl<|Aa 0 rfl (Ae rfl) gn rfl<|Aa 1 rfl (Bd Lj rfl) gn rfl<|Aa 2 rfl (Au 0 Gw rfl rfl rfl) gn rfl ?_
         refine Aa 3 rfl (Vb Un rfl) gn rfl<|Aa 4 rfl (Ba rfl rfl rfl) gn rfl<|Aa 5 rfl (Ae rfl) gn rfl ?_
         by_cases hp123:w64 (x105 + 1)=(x1.text.size:Int)
         ·have h:=Ap hp123 h
          refine Bh 72 rfl ((eqi hp123))<|Ad 6 rfl (ps 72 rfl rfl rfl)<|Ad 7 rfl (ps 72 rfl rfl rfl)<|Ad 8 rfl (ps 72 rfl rfl rfl)<|Ad 9 rfl (ps 72 rfl rfl rfl)<|Ad 10 rfl (ps 72 rfl rfl rfl)<|Aa 11 rfl (Aw (b:=true) rfl rfl) gn rfl<|Ah 12 rfl<|Bi rfl _ rfl (rfl)<|Ag rfl<|Ac rfl rfl<|Aa 0 rfl (Af rfl) gn rfl ?_
          refine Ah 1 rfl ?_
          have h:=Out.inr hO1 h
          refine Bg [.bool false] rfl Tryd.func78 rfl (.tmp rfl (.nil)) fun wr hLr=>?_
          have hMr:=hLr.pk0 (.c 1 rfl .n)
          show Gq w F  r (.returned (Bz [.bool false])) wr
          rw [h]
          exact ⟨rfl,hMr⟩
         ·have h:=Am hp123 h
          refine Bh 72 rfl ((nei hp123))<|Aa 6 rfl (Bd Lj rfl) (gy 72 rfl rfl) rfl<|Aa 7 rfl (Au 0 Gw rfl rfl rfl) (gy 72 rfl rfl) rfl<|Aa 8 rfl (Ae rfl) (gy 72 rfl rfl) rfl ?_
          obtain ⟨hb124,h⟩:=h
          refine Aa 9 rfl (Oa Un rfl rfl hb124) (gy 72 rfl rfl) rfl<|Aa 10 rfl (Ba rfl rfl rfl) (gy 72 rfl rfl) rfl<|Aa 11 rfl (Aw (b:=false) rfl rfl) gn rfl<|Ah 12 rfl ?_
          by_cases hp125:bt x1.text (w64 (x105 + 1))=10
          ·have h:=Ap hp125 h
           refine Bi rfl _ rfl ((eqi hp125))<|Ag rfl<|Ac rfl rfl<|Aa 0 rfl (Af rfl) gn rfl<|Ah 1 rfl ?_
           have h:=Out.inr hO1 h
           refine Bg [.bool false] rfl Tryd.func78 rfl (.tmp rfl (.nil)) fun wr hLr=>?_
           have hMr:=hLr.pk0 (.c 1 rfl .n)
           show Gq w F  r (.returned (Bz [.bool false])) wr
           rw [h]
           exact ⟨rfl,hMr⟩
          ·have h:=Am hp125 h
           refine Bc rfl _ rfl ((nei hp125))<|Bo rfl<|Bj<|Bj<|Ac rfl rfl<|Aa 0 rfl (Ae rfl) gn rfl<|Aa 1 rfl (Ba rfl rfl rfl) gn rfl<|Aa 2 rfl (Af rfl) gn rfl<|Ah 3 rfl<|Cm ?_
           have ih:=Out.inl hO1 h
           exact D6 [0,1] (ih ()) ⟨rfl,rfl,trivial⟩ (.cons_cons _ (.slnil)) rfl
        ·have h:=Am hp122 h
         refine Bc rfl _ rfl ((nei hp122))<|Bo rfl<|Bj<|Bj<|Ac rfl rfl<|Aa 0 rfl (Ae rfl) gn rfl<|Aa 1 rfl (Ba rfl rfl rfl) gn rfl<|Aa 2 rfl (Af rfl) gn rfl<|Ah 3 rfl<|Cm ?_
         have ih:=Out.inl hO1 h
         exact D6 [0,1] (ih ()) ⟨rfl,rfl,trivial⟩ (.cons_cons _ (.slnil)) rfl
      by_cases hp118:bt x1.text x105=47
      ·have h:=Ap hp118 h
       refine Bi rfl _ rfl ((eqi hp118))<|Bo rfl ?_
       exact D6 [0,1] (j4 ((bt x1.text x105) == 47) h) ⟨rfl,rfl,rfl,rfl,trivial⟩ (.cons_cons _ (.slnil)) rfl
      ·have h:=Am hp118 h
       refine Bc rfl _ rfl ((nei hp118))<|Ac rfl rfl<|Aa 0 rfl (Ba rfl rfl rfl) gn rfl<|Aa 1 rfl (Af rfl) gn rfl<|Ah 2 rfl ?_
       exact D6 [0,1] (j4 ((bt x1.text x105) == 10) h) ⟨rfl,rfl,rfl,rfl,trivial⟩ (.cons_cons _ (.slnil)) rfl
     ·have h:=Am hp116 h
      refine Bc rfl _ rfl ((decide_eq_false hp116))<|E8 [.code Xgg,.inBlock 0,.code Xc7] rfl rfl<|Ag rfl<|Ac rfl rfl<|Aa 0 rfl (Af rfl) gn rfl<|Ah 1 rfl ?_
      have h:=Out.inr hO1 h
      refine Bg [.bool true] rfl Tryd.func78 rfl (.tmp rfl (.nil)) fun wr hLr=>?_
      have hMr:=hLr.pk0 (.c 1 rfl .n)
      show Gq w F  r (.returned (Bz [.bool true])) wr
      rw [h]
      exact ⟨rfl,hMr⟩
    exact D6 [0,1] (key3 _ h ()) ⟨rfl,rfl,trivial⟩ (.cons_cons _ (.slnil)) rfl
   ·have h:=Am hp93 h
    refine Bc rfl _ rfl ((nei hp93))<|Ag rfl<|Ac rfl rfl<|Aa 0 rfl (Ba rfl rfl rfl) gn rfl<|Aa 1 rfl (Af rfl) gn rfl<|Ah 2 rfl ?_
    by_cases hp126:x1.kind=4
    ·have h:=Ap hp126 h
     refine Bi rfl _ rfl ((eqi hp126))<|Ag rfl<|Ac rfl rfl<|Aa 0 rfl (Bd Xdy rfl) gn rfl<|Aa 1 rfl (Au 0 O9 rfl rfl rfl) gn rfl<|Aa 2 rfl (Ba rfl rfl rfl) gn rfl<|Aa 3 rfl (Ae rfl) gn rfl ?_
     by_cases hp127:x1.n≥0
     ·have h:=Ap hp127 h
      refine Bh 84 rfl ((decide_eq_true hp127))<|Aa 4 rfl (Bd Xdy rfl) (gy 84 rfl rfl) rfl<|Aa 5 rfl (Au 0 O9 rfl rfl rfl) (gy 84 rfl rfl) rfl<|Aa 6 rfl (Ba rfl rfl rfl) (gy 84 rfl rfl) rfl<|Aa 7 rfl (Aw (b:=true) rfl rfl) gn rfl<|Aa 8 rfl (Af rfl) gn rfl<|Ah 9 rfl ?_
      refine Bg [.bool (decide (x1.n≤65535))] rfl Tryd.func78 rfl (.tmp rfl (.nil)) fun wr hLr=>?_
      have hMr:=hLr.pk0 (.c 1 rfl .n)
      show Gq w F  r (.returned (Bz [.bool (decide (x1.n≤65535))])) wr
      rw [h]
      exact ⟨rfl,hMr⟩
     ·have h:=Am hp127 h
      refine Bh 84 rfl ((decide_eq_false hp127))<|Ad 4 rfl (ps 84 rfl rfl rfl)<|Ad 5 rfl (ps 84 rfl rfl rfl)<|Ad 6 rfl (ps 84 rfl rfl rfl)<|Aa 7 rfl (Aw (b:=false) rfl rfl) gn rfl<|Aa 8 rfl (Af rfl) gn rfl<|Ah 9 rfl ?_
      refine Bg [.bool false] rfl Tryd.func78 rfl (.tmp rfl (.nil)) fun wr hLr=>?_
      have hMr:=hLr.pk0 (.c 1 rfl .n)
      show Gq w F  r (.returned (Bz [.bool false])) wr
      rw [h]
      exact ⟨rfl,hMr⟩
    ·have h:=Am hp126 h
     refine Bc rfl _ rfl ((nei hp126))<|Ag rfl<|Ac rfl rfl<|Aa 0 rfl (Ba rfl rfl rfl) gn rfl<|Aa 1 rfl (Af rfl) gn rfl<|Ah 2 rfl ?_
     by_cases hp128:x1.kind=5
     ·have h:=Ap hp128 h
      refine Bi rfl _ rfl ((eqi hp128))<|Ag rfl<|Ac rfl rfl<|Aa 0 rfl (Bd Lj rfl) gn rfl<|Aa 1 rfl (Au 0 Gw rfl rfl rfl) gn rfl<|Aa 2 rfl (Vb Un rfl) gn rfl<|Aa 3 rfl (Ba rfl rfl rfl) gn rfl<|Aa 4 rfl (Ae rfl) gn rfl ?_
      by_cases hp129:(x1.text.size:Int)=1
      ·have h:=Ap hp129 h
       refine Bh 95 rfl ((eqi hp129))<|Aa 5 rfl (Bd Lj rfl) (gy 95 rfl rfl) rfl<|Aa 6 rfl (Au 0 Gw rfl rfl rfl) (gy 95 rfl rfl) rfl ?_
       obtain ⟨r133,hv134,h⟩:=h
       refine Ci 7 rfl (D7 [.string (⟨#[123,125,40,41,124,42,43,63,58,59,44,61,64]⟩:ByteArray),.string x1.text] rfl Tryd.func100 rfl rfl rfl fun w130 hL131=>?_) (gy 95 rfl rfl)
       have hp132:=pmI hL131 .n (.c 0 rfl .n) (by kernel_rfl)
       refine Calls.mono (Xad w130 (Fl ([]:List Cc)) (⟨#[123,125,40,41,124,42,43,63,58,59,44,61,64]⟩:ByteArray) x1.text (hL131.hFl hp132 (Bf [] rfl)) (hL131.into hp132 _) r133 hv134) ?_
       rintro _ w135 ⟨rfl,hM136⟩
       have hL137:=hL131.call hp132 hM136
       refine ⟨_,_,_,rfl,hL137,?_⟩
       refine Aa 8 rfl (Aw (b:=true) rfl rfl) gn rfl<|Aa 9 rfl (Af rfl) gn rfl<|Ah 10 rfl ?_
       refine Bg [.bool r133] rfl Tryd.func78 rfl (.tmp rfl (.nil)) fun wr hLr=>?_
       have hMr:=hLr.pk0 (.c 1 rfl .n)
       show Gq w F  r (.returned (Bz [.bool r133])) wr
       rw [h]
       exact ⟨rfl,hMr⟩
      ·have h:=Am hp129 h
       refine Bh 95 rfl ((nei hp129))<|Ad 5 rfl (ps 95 rfl rfl rfl)<|Ad 6 rfl (ps 95 rfl rfl rfl)<|Ad 7 rfl (ps 95 rfl rfl rfl)<|Aa 8 rfl (Aw (b:=false) rfl rfl) gn rfl<|Aa 9 rfl (Af rfl) gn rfl<|Ah 10 rfl ?_
       refine Bg [.bool false] rfl Tryd.func78 rfl (.tmp rfl (.nil)) fun wr hLr=>?_
       have hMr:=hLr.pk0 (.c 1 rfl .n)
       show Gq w F  r (.returned (Bz [.bool false])) wr
       rw [h]
       exact ⟨rfl,hMr⟩
     ·have h:=Am hp128 h
      refine Bc rfl _ rfl ((nei hp128))<|Bo rfl<|Bj<|Ag rfl<|Ac rfl rfl<|Aa 0 rfl (Af rfl) gn rfl<|Ah 1 rfl ?_
      refine Bg [.bool false] rfl Tryd.func78 rfl (.tmp rfl (.nil)) fun wr hLr=>?_
      have hMr:=hLr.pk0 (.c 1 rfl .n)
      show Gq w F  r (.returned (Bz [.bool false])) wr
      rw [h]
      exact ⟨rfl,hMr⟩
end Go.Proofs.YtjookebbmfiidaaDoor.K
