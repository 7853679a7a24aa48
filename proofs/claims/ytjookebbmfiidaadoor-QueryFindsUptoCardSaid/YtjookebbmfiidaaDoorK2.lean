/- What the machine's calls do, function by function, printed by my own tool. Condition of each: its relation holds of the answer, and what is handed in lies in memory as told. -/
import Derived.Test.YtjookebbmfiidaaDoorK1
set_option linter.unusedVariables false
set_option maxRecDepth 100000
set_option maxHeartbeats 4000000
namespace Go.Proofs.YtjookebbmfiidaaDoor.K
open Go.Proofs.YtjookebbmfiidaaDoor.B Go.Proofs.YtjookebbmfiidaaDoor.R Go.RowKit
noncomputable abbrev q23c4:=Code.snd (Code.snd (Df Tryd.f23))
noncomputable abbrev q23c5:=Code.fst (Code.fst (Code.snd (Df Tryd.f23)))
noncomputable abbrev q23c6:=Code.snd (Code.fst (Code.snd (Df Tryd.f23)))
noncomputable abbrev Xan:=Code.snd q23c4
noncomputable abbrev Y0:=Code.fst (Code.fst (Code.snd (Code.fst q23c4)))
noncomputable abbrev Xkh:=Code.snd (Code.snd Y0)
noncomputable abbrev Xkf:=Code.snd (Code.snd (Code.fst (Code.fst (Code.snd Y0))))
noncomputable abbrev q23c31:=Code.snd (Code.fst (Code.snd (Code.fst (Code.fst (Code.snd Y0)))))
noncomputable abbrev Xkk:=Code.snd Xkf
noncomputable abbrev q23c39:=Code.snd (Code.fst Xkf)
noncomputable abbrev q23c45:=Code.snd Xkk
noncomputable abbrev q23c47:=Code.snd (Code.fst Xkk)
noncomputable abbrev Xiy:=Code.snd Xan
noncomputable abbrev Xes:=Code.fst (Code.fst (Code.snd (Code.fst Xan)))
abbrev E5 (w:World) (F:Nat→Prop) (r:Bool):Ending→World→Prop:=fun e w'=>e=.returned (.bool r)∧B.Loc w w' [] [St w []]
noncomputable abbrev Ee (w:World) (F:Nat→Prop) (r:Bool):Cx:=⟨Tryd.prog,23,Tryd.f23,124,E5 w F  r,w⟩
theorem Yx (w:World) (F:Nat→Prop) (x1:Aq) (A2:Option Addr) (n3:Nat) (c4:Nat) (A6:Option Addr) (n7:Nat) (c8:Nat) (h5:Rw Cb w (St w []).av A2 n3 c4 x1.nodes) (h9:Rw Dq w (St w []).av A6 n7 c8 x1.conds) (hF:∀ b,F b→b < w.heap.size∧∀ o ∈ ([]:List (List Nat)),b ∉ o) (hL0:B.Loc w w [] [Sm w.heap.size F w [],St w []]) (r:Bool) (h:Oc x1 r):Calls Tryd.prog 23 #[.agg #[.slice A2 n3 c4,.slice A6 n7 c8]] w (E5 w F  r):=by
 unfold Oc at h
 refine Bl (vs:=[.agg #[.slice A2 n3 c4,.slice A6 n7 c8]]) 124 Tryd.func23 rfl Tryd.ntmps23 rfl hL0 ?_
 show G (Ee w F r) _ _ _ _
 refine Ag rfl<|Ac rfl rfl ?_
 refine Ci 0 rfl (O3 [.slice A2 n3 c4,.slice A6 n7 c8] rfl rfl rfl fun gb10=>?_) gn
 refine Aa 1 rfl (Af rfl) gn rfl<|Ah 2 rfl<|Ag rfl<|Ag rfl ?_
 have j1:∀ (x84:Bool) (h:Fa x1 x84 r) ,G (Ee w F r) [.code q23c6,.code q23c4] [(1,.pointer (some ⟨gb10,0,none⟩)),(25,.bool x84)] [.box gb10 25 [.slice A2 n3 c4,.slice A6 n7 c8]] [Sm w.heap.size F w [],St w []]:=by
  intro x84 h
  unfold Fa at h
  by_cases hp85:x84=true
  ·have h:=Ap hp85 h
   refine Bi rfl _ rfl (hp85)<|Ag rfl<|Ac rfl rfl<|Aa 0 rfl (Af rfl) gn rfl<|Ah 1 rfl ?_
   refine Bg [.bool false] rfl Tryd.func23 rfl (.tmp rfl (.nil)) fun wr hLr=>?_
   have hMr:=hLr.pk0 (.c 1 rfl .n)
   show E5 w F  r (.returned (Bz [.bool false])) wr
   rw [h]
   exact ⟨rfl,hMr⟩
  ·have h:=Am hp85 h
   refine Bc rfl _ rfl ((bf hp85))<|Bo rfl<|Ag rfl<|Ag rfl<|Ac rfl rfl<|Aa 0 rfl (Af rfl) gn rfl<|Ah 1 rfl<|Bv rfl<|Ei rfl ?_
   have key2:∀ s,Ar (fun (s:Int) o=>Gf x1 s o) s r→(fun (s:Int)=>∀ (_:Unit),G (Ee w F r) [.code Y0,.inLoop Y0,.inBlock 0,.code Xan] [(1,.pointer (some ⟨gb10,0,none⟩)),(3,.int .i64 s)] [.box gb10 25 [.slice A2 n3 c4,.slice A6 n7 c8]] [Sm w.heap.size F w [],St w []]) s:=by
    intro s hs
    refine Ar.ind (mot:=(fun (s:Int)=>∀ (_:Unit),G (Ee w F r) [.code Y0,.inLoop Y0,.inBlock 0,.code Xan] [(1,.pointer (some ⟨gb10,0,none⟩)),(3,.int .i64 s)] [.box gb10 25 [.slice A2 n3 c4,.slice A6 n7 c8]] [Sm w.heap.size F w [],St w []])) ?_ hs
    clear hs s
    intro x239 o1 h hO1
    show ∀ (_:Unit),G (Ee w F r) [.code Y0,.inLoop Y0,.inBlock 0,.code Xan] [(1,.pointer (some ⟨gb10,0,none⟩)),(3,.int .i64 x239)] [.box gb10 25 [.slice A2 n3 c4,.slice A6 n7 c8]] [Sm w.heap.size F w [],St w []]
    intro _
    have h:Gf x1 x239 o1:=h
    unfold Gf at h
    refine Ag rfl<|Ag rfl<|Ac rfl rfl<|Aa 0 rfl (Ae rfl) gn rfl<|Aa 1 rfl (Bd Ew rfl) gn rfl<|Aa 2 rfl (Au 0 Kr rfl rfl rfl) gn rfl<|Aa 3 rfl (D5 Tm rfl h5.hq) gn rfl<|Aa 4 rfl (Ba rfl rfl rfl) gn rfl<|Ah 5 rfl ?_
    by_cases hp392:x239 < (x1.nodes.length:Int)
    ·have h:=Ap hp392 h
     refine Bi rfl _ rfl ((decide_eq_true hp392))<|Bo rfl<|Ag rfl<|Bv rfl<|Ag rfl<|Ac rfl rfl<|Aa 0 rfl (Bd Ew rfl) gn rfl<|Aa 1 rfl (Au 0 Kr rfl rfl rfl) gn rfl<|Aa 2 rfl (Ae rfl) gn rfl ?_
     obtain ⟨hb393,h⟩:=h
     have hr394:=Rw.readF (s:=St w []) (hl:=Dp) (h1:=Du) h5 hb393
     refine Aa 3 rfl (Ef (s:=St w []) Oq rfl rfl h5 hb393) gn rfl<|Aa 4 rfl (Q8 (St w []) Xc5 rfl hr394 rfl (me 1 rfl)) gn rfl ?_
     refine Ci 5 rfl (G9 [.string (⟨#[]⟩:ByteArray),.bool false,.string (⟨#[]⟩:ByteArray),.string (⟨#[]⟩:ByteArray),.int .i64 0] zr_45 rfl fun gb395=>?_) gn
     refine Ci 6 rfl (I9 (vs:=[.string ((ix x1.nodes x239).name),.bool ((ix x1.nodes x239).lit),.string ((ix x1.nodes x239).field),.string ((ix x1.nodes x239).capture),.int .i64 ((ix x1.nodes x239).kids)]) (cs':=[.string ((ix x1.nodes x239).name),.bool ((ix x1.nodes x239).lit),.string ((ix x1.nodes x239).field),.string ((ix x1.nodes x239).capture),.int .i64 ((ix x1.nodes x239).kids)]) (M':=[.box gb395 45 [.string ((ix x1.nodes x239).name),.bool ((ix x1.nodes x239).lit),.string ((ix x1.nodes x239).field),.string ((ix x1.nodes x239).capture),.int .i64 ((ix x1.nodes x239).kids)],.box gb10 25 [.slice A2 n3 c4,.slice A6 n7 c8]]) 0 sz_45 rfl rfl rfl rfl rfl rfl rfl rfl rfl ?_) gn
     refine Ah 7 rfl<|Ag rfl<|Ag rfl ?_
     have j3:∀ (x400:Bool) (h:Hm x1 x239 x400 o1) ,G (Ee w F r) [.code q23c31,.code Xkf,.inBlock 1,.code Xkh,.inLoop Y0,.inBlock 0,.code Xan] [(1,.pointer (some ⟨gb10,0,none⟩)),(3,.int .i64 x239),(4,.pointer (some ⟨gb395,0,none⟩)),(49,.bool x400)] [.box gb395 45 [.string ((ix x1.nodes x239).name),.bool ((ix x1.nodes x239).lit),.string ((ix x1.nodes x239).field),.string ((ix x1.nodes x239).capture),.int .i64 ((ix x1.nodes x239).kids)],.box gb10 25 [.slice A2 n3 c4,.slice A6 n7 c8]] [Sm w.heap.size F w [],St w []]:=by
      intro x400 h
      unfold Hm at h
      by_cases hp401:x400=true
      ·have h:=Ap hp401 h
       refine Bi rfl _ rfl (hp401)<|Ag rfl<|Ac rfl rfl<|Aa 0 rfl (Af rfl) gn rfl<|Ah 1 rfl ?_
       have h:=Out.inr hO1 h
       refine Bg [.bool false] rfl Tryd.func23 rfl (.tmp rfl (.nil)) fun wr hLr=>?_
       have hMr:=hLr.pk0 (.c 1 rfl .n)
       show E5 w F  r (.returned (Bz [.bool false])) wr
       rw [h]
       exact ⟨rfl,hMr⟩
      ·have h:=Am hp401 h
       refine Bc rfl _ rfl ((bf hp401))<|Bo rfl<|Ag rfl<|Ag rfl ?_
       have j4:∀ (x413:Bool) (h:Ho x1 x239 x413 o1) ,G (Ee w F r) [.code q23c39,.code Xkk,.inBlock 1,.code Xkh,.inLoop Y0,.inBlock 0,.code Xan] [(1,.pointer (some ⟨gb10,0,none⟩)),(3,.int .i64 x239),(4,.pointer (some ⟨gb395,0,none⟩)),(63,.bool x413)] [.box gb395 45 [.string ((ix x1.nodes x239).name),.bool ((ix x1.nodes x239).lit),.string ((ix x1.nodes x239).field),.string ((ix x1.nodes x239).capture),.int .i64 ((ix x1.nodes x239).kids)],.box gb10 25 [.slice A2 n3 c4,.slice A6 n7 c8]] [Sm w.heap.size F w [],St w []]:=by
        intro x413 h
        unfold Ho at h
        by_cases hp414:x413=true
        ·have h:=Ap hp414 h
         refine Bi rfl _ rfl (hp414)<|Ag rfl<|Ac rfl rfl<|Aa 0 rfl (Af rfl) gn rfl<|Ah 1 rfl ?_
         have h:=Out.inr hO1 h
         refine Bg [.bool false] rfl Tryd.func23 rfl (.tmp rfl (.nil)) fun wr hLr=>?_
         have hMr:=hLr.pk0 (.c 1 rfl .n)
         show E5 w F  r (.returned (Bz [.bool false])) wr
         rw [h]
         exact ⟨rfl,hMr⟩
        ·have h:=Am hp414 h
         refine Bc rfl _ rfl ((bf hp414))<|Bo rfl<|Ag rfl<|Ag rfl ?_
         have j5:∀ (x425:Bool) (h:Ip x1 x239 x425 o1) ,G (Ee w F r) [.code q23c47,.code q23c45,.inBlock 1,.code Xkh,.inLoop Y0,.inBlock 0,.code Xan] [(1,.pointer (some ⟨gb10,0,none⟩)),(3,.int .i64 x239),(4,.pointer (some ⟨gb395,0,none⟩)),(72,.bool x425)] [.box gb395 45 [.string ((ix x1.nodes x239).name),.bool ((ix x1.nodes x239).lit),.string ((ix x1.nodes x239).field),.string ((ix x1.nodes x239).capture),.int .i64 ((ix x1.nodes x239).kids)],.box gb10 25 [.slice A2 n3 c4,.slice A6 n7 c8]] [Sm w.heap.size F w [],St w []]:=by
          intro x425 h
          unfold Ip at h
          by_cases hp426:x425=true
          ·have h:=Ap hp426 h
           refine Bi rfl _ rfl (hp426)<|Ag rfl<|Ac rfl rfl<|Aa 0 rfl (Af rfl) gn rfl<|Ah 1 rfl ?_
           have h:=Out.inr hO1 h
           refine Bg [.bool false] rfl Tryd.func23 rfl (.tmp rfl (.nil)) fun wr hLr=>?_
           have hMr:=hLr.pk0 (.c 1 rfl .n)
           show E5 w F  r (.returned (Bz [.bool false])) wr
           rw [h]
           exact ⟨rfl,hMr⟩
          ·have h:=Am hp426 h
           refine Bc rfl _ rfl ((bf hp426))<|Bo rfl<|Ag rfl<|Ac rfl rfl<|Aa 0 rfl (Bd Wl rfl) gn rfl<|Aa 1 rfl (Au 0 Gw rfl rfl rfl) gn rfl<|Aa 2 rfl (Rt rfl rfl) gn rfl<|Aa 3 rfl (Ae rfl) gn rfl ?_
           by_cases hp427:(ix x1.nodes x239).capture=(⟨#[]⟩:ByteArray)
           ·have h:=Ap hp427 h
            refine Bh 76 rfl ((nf (Ox hp427)))<|Ad 4 rfl (ps 76 rfl rfl rfl)<|Ad 5 rfl (ps 76 rfl rfl rfl)<|Ad 6 rfl (ps 76 rfl rfl rfl)<|Ad 7 rfl (ps 76 rfl rfl rfl)<|Ad 8 rfl (ps 76 rfl rfl rfl)<|Ad 9 rfl (pu 81 rfl rfl)<|Ad 10 rfl (pu 81 rfl rfl)<|Ad 11 rfl (pu 81 rfl rfl)<|Ad 12 rfl (pu 81 rfl rfl)<|Ad 13 rfl (pu 81 rfl rfl)<|Ad 14 rfl (pu 81 rfl rfl) ?_
            refine Ad 15 rfl (ps 76 rfl rfl rfl)<|Aa 16 rfl (Aw (b:=false) rfl rfl) gn rfl<|Ah 17 rfl<|Bc rfl _ rfl (rfl)<|Bo rfl<|Bj<|Ac rfl rfl<|Aa 0 rfl (Ae rfl) gn rfl<|Aa 1 rfl (Ba rfl rfl rfl) gn rfl<|Aa 2 rfl (Af rfl) gn rfl<|Ah 3 rfl<|Cm ?_
            have ih:=Out.inl hO1 h
            exact D6 [0,1] (ih ()) ⟨rfl,rfl,trivial⟩ (.cons _ (.cons_cons _ (.slnil))) rfl
           ·have h:=Am hp427 h
            refine Bh 76 rfl ((nt (Oo hp427)))<|Aa 4 rfl (Bd Wl rfl) (gy 76 rfl rfl) rfl<|Aa 5 rfl (Au 0 Gw rfl rfl rfl) (gy 76 rfl rfl) rfl ?_
            obtain ⟨r431,hv432,h⟩:=h
            refine Ci 6 rfl (D7 [.string ((ix x1.nodes x239).capture)] rfl Tryd.func52 rfl rfl rfl fun w428 hL429=>?_) (gy 76 rfl rfl)
            have hp430:=pmI hL429 .n (.c 0 rfl (.c 1 rfl .n)) (by kernel_rfl)
            refine Calls.mono (Pv w428 (Fl ([]:List Cc)) ((ix x1.nodes x239).capture) (hL429.hFl hp430 (Bf [] rfl)) (hL429.into hp430 _) r431 hv432) ?_
            rintro _ w433 ⟨rfl,hM434⟩
            have hL435:=hL429.call hp430 hM434
            refine ⟨_,_,_,rfl,hL435,?_⟩
            refine Aa 7 rfl (Oi rfl) (gy 76 rfl rfl) rfl<|Aa 8 rfl (Ae rfl) (gy 76 rfl rfl) rfl ?_
            by_cases hp436:r431=true
            ·have h:=Ap hp436 h
             refine Bh 81 rfl ((nf hp436))<|Aa 9 rfl (Ji [.slice A2 n3 c4,.slice A6 n7 c8] 1 O5 rfl rfl rfl rfl) (gy 81 rfl rfl) rfl<|Aa 10 rfl (Bd Wl rfl) (gy 81 rfl rfl) rfl<|Aa 11 rfl (Au 0 Gw rfl rfl rfl) (gy 81 rfl rfl) rfl ?_
             obtain ⟨r440,hv441,h⟩:=h
             refine Ci 12 rfl (D7 [.agg #[.slice A2 n3 c4,.slice A6 n7 c8],.string ((ix x1.nodes x239).capture)] rfl Tryd.func53 rfl rfl rfl fun w437 hL438=>?_) (gy 81 rfl rfl)
             have hp439:=pmI hL438 .n (.c 0 rfl (.c 1 rfl .n)) (by kernel_rfl)
             refine Calls.mono (Jk w437 (Fl ([]:List Cc)) x1 ((ix x1.nodes x239).capture) A2 n3 c4 A6 n7 c8 (Rw.mono h5 (hL438.toSt hp439 (me 1 rfl))) (Rw.mono h9 (hL438.toSt hp439 (me 1 rfl))) (hL438.hFl hp439 (Bf [] rfl)) (hL438.into hp439 _) r440 hv441) ?_
             rintro _ w442 ⟨rfl,hM443⟩
             have hL444:=hL438.call hp439 hM443
             refine ⟨_,_,_,rfl,hL444,?_⟩
             refine Aa 13 rfl (Ae rfl) (gy 81 rfl rfl) rfl<|Aa 14 rfl (Ba rfl rfl rfl) (gy 81 rfl rfl) rfl<|Aa 15 rfl (Aw (b:=false) rfl rfl) (gy 76 rfl rfl) rfl<|Aa 16 rfl (Aw (b:=true) rfl rfl) gn rfl<|Ah 17 rfl ?_
             by_cases hp445:r440=x239
             ·have h:=Ap hp445 h
              refine Bc rfl _ rfl ((eqib hp445))<|Bo rfl<|Bj<|Ac rfl rfl<|Aa 0 rfl (Ae rfl) gn rfl<|Aa 1 rfl (Ba rfl rfl rfl) gn rfl<|Aa 2 rfl (Af rfl) gn rfl<|Ah 3 rfl<|Cm ?_
              have ih:=Out.inl hO1 h
              exact D6 [0,1] (ih ()) ⟨rfl,rfl,trivial⟩ (.cons _ (.cons_cons _ (.slnil))) rfl
             ·have h:=Am hp445 h
              refine Bi rfl _ rfl ((neib hp445))<|Ag rfl<|Ac rfl rfl<|Aa 0 rfl (Af rfl) gn rfl<|Ah 1 rfl ?_
              have h:=Out.inr hO1 h
              refine Bg [.bool false] rfl Tryd.func23 rfl (.tmp rfl (.nil)) fun wr hLr=>?_
              have hMr:=hLr.pk0 (.c 1 rfl .n)
              show E5 w F  r (.returned (Bz [.bool false])) wr
              rw [h]
              exact ⟨rfl,hMr⟩
            ·have h:=Am hp436 h
             refine Bh 81 rfl ((nt (bf hp436)))<|Ad 9 rfl (ps 81 rfl rfl rfl)<|Ad 10 rfl (ps 81 rfl rfl rfl)<|Ad 11 rfl (ps 81 rfl rfl rfl)<|Ad 12 rfl (ps 81 rfl rfl rfl)<|Ad 13 rfl (ps 81 rfl rfl rfl)<|Ad 14 rfl (ps 81 rfl rfl rfl)<|Aa 15 rfl (Aw (b:=true) rfl rfl) (gy 76 rfl rfl) rfl<|Aa 16 rfl (Aw (b:=true) rfl rfl) gn rfl<|Ah 17 rfl<|Bi rfl _ rfl (rfl)<|Ag rfl ?_
             refine Ac rfl rfl<|Aa 0 rfl (Af rfl) gn rfl<|Ah 1 rfl ?_
             have h:=Out.inr hO1 h
             refine Bg [.bool false] rfl Tryd.func23 rfl (.tmp rfl (.nil)) fun wr hLr=>?_
             have hMr:=hLr.pk0 (.c 1 rfl .n)
             show E5 w F  r (.returned (Bz [.bool false])) wr
             rw [h]
             exact ⟨rfl,hMr⟩
         refine Ac rfl rfl<|Aa 0 rfl (Bd Uo rfl) gn rfl<|Aa 1 rfl (Au 0 Gw rfl rfl rfl) gn rfl<|Aa 2 rfl (Rt rfl rfl) gn rfl<|Aa 3 rfl (Ae rfl) gn rfl ?_
         by_cases hp446:(ix x1.nodes x239).field=(⟨#[]⟩:ByteArray)
         ·have h:=Ap hp446 h
          refine Bh 67 rfl ((nf (Ox hp446)))<|Ad 4 rfl (ps 67 rfl rfl rfl)<|Ad 5 rfl (ps 67 rfl rfl rfl)<|Ad 6 rfl (ps 67 rfl rfl rfl)<|Ad 7 rfl (ps 67 rfl rfl rfl)<|Aa 8 rfl (Aw (b:=false) rfl rfl) gn rfl<|Ah 9 rfl ?_
          exact D6 [0,1] (j5 false h) ⟨rfl,rfl,rfl,rfl,trivial⟩ (.cons_cons _ (.cons_cons _ (.slnil))) rfl
         ·have h:=Am hp446 h
          refine Bh 67 rfl ((nt (Oo hp446)))<|Aa 4 rfl (Bd Uo rfl) (gy 67 rfl rfl) rfl<|Aa 5 rfl (Au 0 Gw rfl rfl rfl) (gy 67 rfl rfl) rfl ?_
          obtain ⟨r450,hv451,h⟩:=h
          refine Ci 6 rfl (D7 [.string ((ix x1.nodes x239).field)] rfl Tryd.func52 rfl rfl rfl fun w447 hL448=>?_) (gy 67 rfl rfl)
          have hp449:=pmI hL448 .n (.c 0 rfl (.c 1 rfl .n)) (by kernel_rfl)
          refine Calls.mono (Pv w447 (Fl ([]:List Cc)) ((ix x1.nodes x239).field) (hL448.hFl hp449 (Bf [] rfl)) (hL448.into hp449 _) r450 hv451) ?_
          rintro _ w452 ⟨rfl,hM453⟩
          have hL454:=hL448.call hp449 hM453
          refine ⟨_,_,_,rfl,hL454,?_⟩
          refine Aa 7 rfl (Oi rfl) (gy 67 rfl rfl) rfl<|Aa 8 rfl (Aw (b:=true) rfl rfl) gn rfl<|Ah 9 rfl ?_
          exact D6 [0,1] (j5 (!r450) h) ⟨rfl,rfl,rfl,rfl,trivial⟩ (.cons_cons _ (.cons_cons _ (.slnil))) rfl
       refine Ac rfl rfl<|Aa 0 rfl (Bd Ye rfl) gn rfl<|Aa 1 rfl (Au 0 Xao rfl rfl rfl) gn rfl<|Aa 2 rfl (Oi rfl) gn rfl<|Aa 3 rfl (Ae rfl) gn rfl ?_
       by_cases hp455:((ix x1.nodes x239).lit)=true
       ·have h:=Ap hp455 h
        refine Bh 53 rfl ((nf hp455))<|Ad 4 rfl (ps 53 rfl rfl rfl)<|Ad 5 rfl (ps 53 rfl rfl rfl)<|Ad 6 rfl (ps 53 rfl rfl rfl)<|Aa 7 rfl (Aw (b:=false) rfl rfl) gn rfl<|Aa 8 rfl (Ae rfl) gn rfl<|Ad 9 rfl (ps 58 rfl rfl rfl)<|Ad 10 rfl (ps 58 rfl rfl rfl)<|Ad 11 rfl (ps 58 rfl rfl rfl)<|Ad 12 rfl (ps 58 rfl rfl rfl)<|Aa 13 rfl (Aw (b:=false) rfl rfl) gn rfl<|Ah 14 rfl ?_
        exact D6 [0,1] (j4 false h) ⟨rfl,rfl,rfl,rfl,trivial⟩ (.cons_cons _ (.cons_cons _ (.slnil))) rfl
       ·have h:=Am hp455 h
        refine Bh 53 rfl ((nt (bf hp455)))<|Aa 4 rfl (Bd U1 rfl) (gy 53 rfl rfl) rfl<|Aa 5 rfl (Au 0 Gw rfl rfl rfl) (gy 53 rfl rfl) rfl<|Aa 6 rfl (Rt rfl rfl) (gy 53 rfl rfl) rfl<|Aa 7 rfl (Aw (b:=true) rfl rfl) gn rfl<|Aa 8 rfl (Ae rfl) gn rfl ?_
        by_cases hp456:(ix x1.nodes x239).name=(⟨#[]⟩:ByteArray)
        ·have h:=Ap hp456 h
         refine Bh 58 rfl ((nf (Ox hp456)))<|Ad 9 rfl (ps 58 rfl rfl rfl)<|Ad 10 rfl (ps 58 rfl rfl rfl)<|Ad 11 rfl (ps 58 rfl rfl rfl)<|Ad 12 rfl (ps 58 rfl rfl rfl)<|Aa 13 rfl (Aw (b:=false) rfl rfl) gn rfl<|Ah 14 rfl ?_
         exact D6 [0,1] (j4 false h) ⟨rfl,rfl,rfl,rfl,trivial⟩ (.cons_cons _ (.cons_cons _ (.slnil))) rfl
        ·have h:=Am hp456 h
         refine Bh 58 rfl ((nt (Oo hp456)))<|Aa 9 rfl (Bd U1 rfl) (gy 58 rfl rfl) rfl<|Aa 10 rfl (Au 0 Gw rfl rfl rfl) (gy 58 rfl rfl) rfl ?_
         obtain ⟨r460,hv461,h⟩:=h
         refine Ci 11 rfl (D7 [.string ((ix x1.nodes x239).name)] rfl Tryd.func52 rfl rfl rfl fun w457 hL458=>?_) (gy 58 rfl rfl)
         have hp459:=pmI hL458 .n (.c 0 rfl (.c 1 rfl .n)) (by kernel_rfl)
         refine Calls.mono (Pv w457 (Fl ([]:List Cc)) ((ix x1.nodes x239).name) (hL458.hFl hp459 (Bf [] rfl)) (hL458.into hp459 _) r460 hv461) ?_
         rintro _ w462 ⟨rfl,hM463⟩
         have hL464:=hL458.call hp459 hM463
         refine ⟨_,_,_,rfl,hL464,?_⟩
         refine Aa 12 rfl (Oi rfl) (gy 58 rfl rfl) rfl<|Aa 13 rfl (Aw (b:=true) rfl rfl) gn rfl<|Ah 14 rfl ?_
         exact D6 [0,1] (j4 (!r460) h) ⟨rfl,rfl,rfl,rfl,trivial⟩ (.cons_cons _ (.cons_cons _ (.slnil))) rfl
     refine Ac rfl rfl<|Aa 0 rfl (Bd Ye rfl) gn rfl<|Aa 1 rfl (Au 0 Xao rfl rfl rfl) gn rfl<|Aa 2 rfl (Ae rfl) gn rfl ?_
     by_cases hp465:((ix x1.nodes x239).lit)=true
     ·have h:=Ap hp465 h
      refine Bh 40 rfl (hp465)<|Aa 3 rfl (Bd U1 rfl) (gy 40 rfl rfl) rfl<|Aa 4 rfl (Au 0 Gw rfl rfl rfl) (gy 40 rfl rfl) rfl<|Aa 5 rfl (Yp rfl rfl) (gy 40 rfl rfl) rfl<|Aa 6 rfl (Ae rfl) (gy 40 rfl rfl) rfl ?_
      by_cases hp466:(ix x1.nodes x239).name=(⟨#[]⟩:ByteArray)
      ·have h:=Ap hp466 h
       refine Bh 44 rfl ((Ox hp466))<|Ad 7 rfl (ps 44 rfl rfl rfl)<|Ad 8 rfl (ps 44 rfl rfl rfl)<|Ad 9 rfl (ps 44 rfl rfl rfl)<|Aa 10 rfl (Aw (b:=true) rfl rfl) (gy 40 rfl rfl) rfl<|Aa 11 rfl (Aw (b:=true) rfl rfl) gn rfl<|Ah 12 rfl ?_
       exact D6 [0,1] (j3 true h) ⟨rfl,rfl,rfl,rfl,trivial⟩ (.cons_cons _ (.cons_cons _ (.slnil))) rfl
      ·have h:=Am hp466 h
       refine Bh 44 rfl ((Oo hp466))<|Aa 7 rfl (Bd Vz rfl) (gy 44 rfl rfl) rfl<|Aa 8 rfl (Au 0 O9 rfl rfl rfl) (gy 44 rfl rfl) rfl<|Aa 9 rfl (Ba rfl rfl rfl) (gy 44 rfl rfl) rfl<|Aa 10 rfl (Aw (b:=false) rfl rfl) (gy 40 rfl rfl) rfl<|Aa 11 rfl (Aw (b:=true) rfl rfl) gn rfl<|Ah 12 rfl ?_
       exact D6 [0,1] (j3 (((ix x1.nodes x239).kids) != 0) h) ⟨rfl,rfl,rfl,rfl,trivial⟩ (.cons_cons _ (.cons_cons _ (.slnil))) rfl
     ·have h:=Am hp465 h
      refine Bh 40 rfl ((bf hp465))<|Ad 3 rfl (ps 40 rfl rfl rfl)<|Ad 4 rfl (ps 40 rfl rfl rfl)<|Ad 5 rfl (ps 40 rfl rfl rfl)<|Ad 6 rfl (ps 40 rfl rfl rfl)<|Ad 7 rfl (pu 44 rfl rfl)<|Ad 8 rfl (pu 44 rfl rfl)<|Ad 9 rfl (pu 44 rfl rfl)<|Ad 10 rfl (ps 40 rfl rfl rfl)<|Aa 11 rfl (Aw (b:=false) rfl rfl) gn rfl<|Ah 12 rfl ?_
      exact D6 [0,1] (j3 false h) ⟨rfl,rfl,rfl,rfl,trivial⟩ (.cons_cons _ (.cons_cons _ (.slnil))) rfl
    ·have h:=Am hp392 h
     refine Bc rfl _ rfl ((decide_eq_false hp392))<|E8 [.code Xan] rfl rfl<|Ag rfl<|Ag rfl<|Ac rfl rfl<|Aa 0 rfl (Af rfl) gn rfl<|Ah 1 rfl<|Bv rfl<|Ei rfl ?_
     have key6:∀ s,Ar (fun (s:Int) o=>Gi x1 s o) s o1→(fun (s:Int)=>∀ (_:Unit),G (Ee w F r) [.code Xes,.inLoop Xes,.inBlock 2,.code Xiy] [(1,.pointer (some ⟨gb10,0,none⟩)),(5,.int .i64 s)] [.box gb10 25 [.slice A2 n3 c4,.slice A6 n7 c8]] [Sm w.heap.size F w [],St w []]) s:=by
      intro s hs
      refine Ar.ind (mot:=(fun (s:Int)=>∀ (_:Unit),G (Ee w F r) [.code Xes,.inLoop Xes,.inBlock 2,.code Xiy] [(1,.pointer (some ⟨gb10,0,none⟩)),(5,.int .i64 s)] [.box gb10 25 [.slice A2 n3 c4,.slice A6 n7 c8]] [Sm w.heap.size F w [],St w []])) ?_ hs
      clear hs s
      intro x493 o2 h hO2
      show ∀ (_:Unit),G (Ee w F r) [.code Xes,.inLoop Xes,.inBlock 2,.code Xiy] [(1,.pointer (some ⟨gb10,0,none⟩)),(5,.int .i64 x493)] [.box gb10 25 [.slice A2 n3 c4,.slice A6 n7 c8]] [Sm w.heap.size F w [],St w []]
      intro _
      have h:Gi x1 x493 o2:=h
      unfold Gi at h
      refine Ag rfl<|Ag rfl<|Ac rfl rfl<|Aa 0 rfl (Ae rfl) gn rfl<|Aa 1 rfl (Bd Ik rfl) gn rfl<|Aa 2 rfl (Au 0 U8 rfl rfl rfl) gn rfl<|Aa 3 rfl (D5 Yu rfl h9.hq) gn rfl<|Aa 4 rfl (Ba rfl rfl rfl) gn rfl<|Ah 5 rfl ?_
      by_cases hp519:x493 < (x1.conds.length:Int)
      ·have h:=Ap hp519 h
       refine Bi rfl _ rfl ((decide_eq_true hp519))<|Bo rfl<|Ag rfl<|Bv rfl<|Ag rfl<|Ac rfl rfl<|Aa 0 rfl (Bd Ik rfl) gn rfl<|Aa 1 rfl (Au 0 U8 rfl rfl rfl) gn rfl<|Aa 2 rfl (Ae rfl) gn rfl ?_
       obtain ⟨hb520,h⟩:=h
       have hr521:=Rw.readF (s:=St w []) (hl:=Nh) (h1:=Nc) h9 hb520
       refine Aa 3 rfl (Ef (s:=St w []) Zl rfl rfl h9 hb520) gn rfl<|Aa 4 rfl (Q8 (St w []) Xf3 rfl hr521 rfl (me 1 rfl)) gn rfl ?_
       refine Ci 5 rfl (G9 [.bool false,.string (⟨#[]⟩:ByteArray),.string (⟨#[]⟩:ByteArray),.string (⟨#[]⟩:ByteArray)] zr_47 rfl fun gb522=>?_) gn
       refine Ci 6 rfl (I9 (vs:=[.bool ((ix x1.conds x493).not),.string ((ix x1.conds x493).a),.string ((ix x1.conds x493).b),.string ((ix x1.conds x493).text)]) (cs':=[.bool ((ix x1.conds x493).not),.string ((ix x1.conds x493).a),.string ((ix x1.conds x493).b),.string ((ix x1.conds x493).text)]) (M':=[.box gb522 47 [.bool ((ix x1.conds x493).not),.string ((ix x1.conds x493).a),.string ((ix x1.conds x493).b),.string ((ix x1.conds x493).text)],.box gb10 25 [.slice A2 n3 c4,.slice A6 n7 c8]]) 0 sz_47 rfl rfl rfl rfl rfl rfl rfl rfl rfl ?_) gn
       refine Ah 7 rfl<|Ag rfl<|Ac rfl rfl<|Aa 0 rfl (Ji [.slice A2 n3 c4,.slice A6 n7 c8] 1 O5 rfl rfl rfl rfl) gn rfl<|Aa 1 rfl (Bd Xdh rfl) gn rfl<|Aa 2 rfl (Au 0 Gw rfl rfl rfl) gn rfl ?_
       obtain ⟨r527,hv528,h⟩:=h
       refine Ci 3 rfl (D7 [.agg #[.slice A2 n3 c4,.slice A6 n7 c8],.string ((ix x1.conds x493).a)] rfl Tryd.func53 rfl rfl rfl fun w524 hL525=>?_) gn
       have hp526:=pmI hL525 .n (.c 0 rfl (.c 1 rfl .n)) (by kernel_rfl)
       refine Calls.mono (Jk w524 (Fl ([]:List Cc)) x1 ((ix x1.conds x493).a) A2 n3 c4 A6 n7 c8 (Rw.mono h5 (hL525.toSt hp526 (me 1 rfl))) (Rw.mono h9 (hL525.toSt hp526 (me 1 rfl))) (hL525.hFl hp526 (Bf [] rfl)) (hL525.into hp526 _) r527 hv528) ?_
       rintro _ w529 ⟨rfl,hM530⟩
       have hL531:=hL525.call hp526 hM530
       refine ⟨_,_,_,rfl,hL531,?_⟩
       refine Aa 4 rfl (Ba rfl rfl rfl) gn rfl<|Aa 5 rfl (Ae rfl) gn rfl ?_
       by_cases hp532:r527 < 0
       ·have h:=Ap hp532 h
        refine Bh 107 rfl ((decide_eq_true hp532))<|Ad 6 rfl (ps 107 rfl rfl rfl)<|Ad 7 rfl (ps 107 rfl rfl rfl)<|Ad 8 rfl (ps 107 rfl rfl rfl)<|Ad 9 rfl (ps 107 rfl rfl rfl)<|Ad 10 rfl (pu 111 rfl rfl)<|Ad 11 rfl (pu 111 rfl rfl)<|Ad 12 rfl (pu 111 rfl rfl)<|Ad 13 rfl (pu 111 rfl rfl)<|Ad 14 rfl (pu 111 rfl rfl)<|Ad 15 rfl (pu 111 rfl rfl)<|Ad 16 rfl (pu 117 rfl rfl) ?_
        refine Ad 17 rfl (pu 117 rfl rfl)<|Ad 18 rfl (pu 117 rfl rfl)<|Ad 19 rfl (pu 111 rfl rfl)<|Ad 20 rfl (ps 107 rfl rfl rfl)<|Aa 21 rfl (Aw (b:=true) rfl rfl) gn rfl<|Ah 22 rfl<|Bi rfl _ rfl (rfl)<|Ag rfl<|Ac rfl rfl<|Aa 0 rfl (Af rfl) gn rfl<|Ah 1 rfl ?_
        have h:=Out.inr hO2 h
        have h:=Out.inr hO1 h
        refine Bg [.bool false] rfl Tryd.func23 rfl (.tmp rfl (.nil)) fun wr hLr=>?_
        have hMr:=hLr.pk0 (.c 1 rfl .n)
        show E5 w F  r (.returned (Bz [.bool false])) wr
        rw [h]
        exact ⟨rfl,hMr⟩
       ·have h:=Am hp532 h
        refine Bh 107 rfl ((decide_eq_false hp532))<|Aa 6 rfl (Bd Z9 rfl) (gy 107 rfl rfl) rfl<|Aa 7 rfl (Au 0 Gw rfl rfl rfl) (gy 107 rfl rfl) rfl<|Aa 8 rfl (Rt rfl rfl) (gy 107 rfl rfl) rfl<|Aa 9 rfl (Ae rfl) (gy 107 rfl rfl) rfl ?_
        by_cases hp533:(ix x1.conds x493).b=(⟨#[]⟩:ByteArray)
        ·have h:=Ap hp533 h
         refine Bh 111 rfl ((nf (Ox hp533)))<|Ad 10 rfl (ps 111 rfl rfl rfl)<|Ad 11 rfl (ps 111 rfl rfl rfl)<|Ad 12 rfl (ps 111 rfl rfl rfl)<|Ad 13 rfl (ps 111 rfl rfl rfl)<|Ad 14 rfl (ps 111 rfl rfl rfl)<|Ad 15 rfl (ps 111 rfl rfl rfl)<|Ad 16 rfl (pu 117 rfl rfl)<|Ad 17 rfl (pu 117 rfl rfl)<|Ad 18 rfl (pu 117 rfl rfl)<|Ad 19 rfl (ps 111 rfl rfl rfl)<|Aa 20 rfl (Aw (b:=false) rfl rfl) (gy 107 rfl rfl) rfl ?_
         refine Aa 21 rfl (Aw (b:=false) rfl rfl) gn rfl<|Ah 22 rfl<|Bc rfl _ rfl (rfl)<|Bo rfl<|Bj<|Ac rfl rfl<|Aa 0 rfl (Ae rfl) gn rfl<|Aa 1 rfl (Ba rfl rfl rfl) gn rfl<|Aa 2 rfl (Af rfl) gn rfl<|Ah 3 rfl<|Cm ?_
         have ih:=Out.inl hO2 h
         exact D6 [0,1] (ih ()) ⟨rfl,rfl,trivial⟩ (.cons _ (.cons_cons _ (.slnil))) rfl
        ·have h:=Am hp533 h
         refine Bh 111 rfl ((nt (Oo hp533)))<|Aa 10 rfl (Ji [.slice A2 n3 c4,.slice A6 n7 c8] 1 O5 rfl rfl rfl rfl) (gy 111 rfl rfl) rfl<|Aa 11 rfl (Bd Z9 rfl) (gy 111 rfl rfl) rfl<|Aa 12 rfl (Au 0 Gw rfl rfl rfl) (gy 111 rfl rfl) rfl ?_
         obtain ⟨r537,hv538,h⟩:=h
         refine Ci 13 rfl (D7 [.agg #[.slice A2 n3 c4,.slice A6 n7 c8],.string ((ix x1.conds x493).b)] rfl Tryd.func53 rfl rfl rfl fun w534 hL535=>?_) (gy 111 rfl rfl)
         have hp536:=pmI hL535 .n (.c 0 rfl (.c 1 rfl .n)) (by kernel_rfl)
         refine Calls.mono (Jk w534 (Fl ([]:List Cc)) x1 ((ix x1.conds x493).b) A2 n3 c4 A6 n7 c8 (Rw.mono h5 (hL535.toSt hp536 (me 1 rfl))) (Rw.mono h9 (hL535.toSt hp536 (me 1 rfl))) (hL535.hFl hp536 (Bf [] rfl)) (hL535.into hp536 _) r537 hv538) ?_
         rintro _ w539 ⟨rfl,hM540⟩
         have hL541:=hL535.call hp536 hM540
         refine ⟨_,_,_,rfl,hL541,?_⟩
         refine Aa 14 rfl (Ba rfl rfl rfl) (gy 111 rfl rfl) rfl<|Aa 15 rfl (Ae rfl) (gy 111 rfl rfl) rfl ?_
         by_cases hp542:r537 < 0
         ·have h:=Ap hp542 h
          refine Bh 117 rfl ((decide_eq_true hp542))<|Ad 16 rfl (ps 117 rfl rfl rfl)<|Ad 17 rfl (ps 117 rfl rfl rfl)<|Ad 18 rfl (ps 117 rfl rfl rfl)<|Aa 19 rfl (Aw (b:=true) rfl rfl) (gy 111 rfl rfl) rfl<|Aa 20 rfl (Aw (b:=true) rfl rfl) (gy 107 rfl rfl) rfl<|Aa 21 rfl (Aw (b:=false) rfl rfl) gn rfl<|Ah 22 rfl<|Bi rfl _ rfl (rfl)<|Ag rfl<|Ac rfl rfl<|Aa 0 rfl (Af rfl) gn rfl ?_
          refine Ah 1 rfl ?_
          have h:=Out.inr hO2 h
          have h:=Out.inr hO1 h
          refine Bg [.bool false] rfl Tryd.func23 rfl (.tmp rfl (.nil)) fun wr hLr=>?_
          have hMr:=hLr.pk0 (.c 1 rfl .n)
          show E5 w F  r (.returned (Bz [.bool false])) wr
          rw [h]
          exact ⟨rfl,hMr⟩
         ·have h:=Am hp542 h
          refine Bh 117 rfl ((decide_eq_false hp542))<|Aa 16 rfl (Bd Xfl rfl) (gy 117 rfl rfl) rfl<|Aa 17 rfl (Au 0 Gw rfl rfl rfl) (gy 117 rfl rfl) rfl<|Aa 18 rfl (Rt rfl rfl) (gy 117 rfl rfl) rfl<|Aa 19 rfl (Aw (b:=false) rfl rfl) (gy 111 rfl rfl) rfl<|Aa 20 rfl (Aw (b:=true) rfl rfl) (gy 107 rfl rfl) rfl<|Aa 21 rfl (Aw (b:=false) rfl rfl) gn rfl<|Ah 22 rfl ?_
          by_cases hp543:(ix x1.conds x493).text=(⟨#[]⟩:ByteArray)
          ·have h:=Ap hp543 h
           refine Bc rfl _ rfl ((nf (Ox hp543)))<|Bo rfl<|Bj<|Ac rfl rfl<|Aa 0 rfl (Ae rfl) gn rfl<|Aa 1 rfl (Ba rfl rfl rfl) gn rfl<|Aa 2 rfl (Af rfl) gn rfl<|Ah 3 rfl<|Cm ?_
           have ih:=Out.inl hO2 h
           exact D6 [0,1] (ih ()) ⟨rfl,rfl,trivial⟩ (.cons _ (.cons_cons _ (.slnil))) rfl
          ·have h:=Am hp543 h
           refine Bi rfl _ rfl ((nt (Oo hp543)))<|Ag rfl<|Ac rfl rfl<|Aa 0 rfl (Af rfl) gn rfl<|Ah 1 rfl ?_
           have h:=Out.inr hO2 h
           have h:=Out.inr hO1 h
           refine Bg [.bool false] rfl Tryd.func23 rfl (.tmp rfl (.nil)) fun wr hLr=>?_
           have hMr:=hLr.pk0 (.c 1 rfl .n)
           show E5 w F  r (.returned (Bz [.bool false])) wr
           rw [h]
           exact ⟨rfl,hMr⟩
      ·have h:=Am hp519 h
       refine Bc rfl _ rfl ((decide_eq_false hp519))<|E8 [.code Xiy] rfl rfl<|Ag rfl<|Ac rfl rfl<|Aa 0 rfl (Af rfl) gn rfl<|Ah 1 rfl ?_
       have h:=Out.inr hO2 h
       have h:=Out.inr hO1 h
       refine Bg [.bool true] rfl Tryd.func23 rfl (.tmp rfl (.nil)) fun wr hLr=>?_
       have hMr:=hLr.pk0 (.c 1 rfl .n)
       show E5 w F  r (.returned (Bz [.bool true])) wr
       rw [h]
       exact ⟨rfl,hMr⟩
     exact D6 [0,1] (key6 _ h ()) ⟨rfl,rfl,trivial⟩ (.cons_cons _ (.slnil)) rfl
   exact D6 [0,1] (key2 _ h ()) ⟨rfl,rfl,trivial⟩ (.cons_cons _ (.slnil)) rfl
 by_cases hp544:(x1.nodes.length:Int) > 32
 ·have h:=Ap hp544 h
  have hns:Region.noSelect (Code.ops q23c5)=true:=by kernel_rfl
  refine J7 [] 19 rfl rfl mix rfl (.c 0 rfl (.c 1 rfl .n))<|wfv 0 rfl (Bd Ew rfl) gn hns rfl<|wfv 1 rfl (Au 0 Kr rfl rfl rfl) gn hns rfl<|wfv 2 rfl (D5 Tm rfl h5.hq) gn hns rfl<|wfv 3 rfl (Ba rfl rfl rfl) gn hns rfl<|wfv 4 rfl (Ae rfl) gn hns rfl<|Xk 11 rfl ((decide_eq_true hp544))<|wfp 5 rfl (ps 11 rfl rfl rfl) hns rfl<|wfp 6 rfl (ps 11 rfl rfl rfl) hns rfl<|wfp 7 rfl (ps 11 rfl rfl rfl) hns rfl<|wfp 8 rfl (ps 11 rfl rfl rfl) hns rfl<|wfv 9 rfl (Aw (b:=true) rfl rfl) gn hns rfl ?_
  refine wfv 10 rfl (Ae rfl) gn hns rfl<|wfp 11 rfl (ps 17 rfl rfl rfl) hns rfl<|wfp 12 rfl (ps 17 rfl rfl rfl) hns rfl<|wfp 13 rfl (ps 17 rfl rfl rfl) hns rfl<|wfp 14 rfl (ps 17 rfl rfl rfl) hns rfl<|wfp 15 rfl (ps 17 rfl rfl rfl) hns rfl<|wfp 16 rfl (ps 17 rfl rfl rfl) hns rfl<|wfp 17 rfl (ps 17 rfl rfl rfl) hns rfl<|wfv 18 rfl (Aw (b:=true) rfl rfl) gn hns rfl<|Et (by kernel_rfl) ?_
  exact D6 [0,1] (j1 true h) ⟨rfl,rfl,trivial⟩ (.cons_cons _ (.slnil)) rfl
 ·have h:=Am hp544 h
  by_cases hp545:(x1.conds.length:Int) > 16
  ·have h:=Ap hp545 h
   have hns:Region.noSelect (Code.ops q23c5)=true:=by kernel_rfl
   refine J7 [] 19 rfl rfl mix rfl (.c 0 rfl (.c 1 rfl .n))<|wfv 0 rfl (Bd Ew rfl) gn hns rfl<|wfv 1 rfl (Au 0 Kr rfl rfl rfl) gn hns rfl<|wfv 2 rfl (D5 Tm rfl h5.hq) gn hns rfl<|wfv 3 rfl (Ba rfl rfl rfl) gn hns rfl<|wfv 4 rfl (Ae rfl) gn hns rfl<|Xk 11 rfl ((decide_eq_false hp544))<|wfv 5 rfl (Bd Ik rfl) (gy 11 rfl rfl) hns rfl<|wfv 6 rfl (Au 0 U8 rfl rfl rfl) (gy 11 rfl rfl) hns rfl<|wfv 7 rfl (D5 Yu rfl h9.hq) (gy 11 rfl rfl) hns rfl<|wfv 8 rfl (Ba rfl rfl rfl) (gy 11 rfl rfl) hns rfl<|wfv 9 rfl (Aw (b:=false) rfl rfl) gn hns rfl ?_
   refine wfv 10 rfl (Ae rfl) gn hns rfl<|Xk 17 rfl ((decide_eq_true hp545))<|wfp 11 rfl (ps 17 rfl rfl rfl) hns rfl<|wfp 12 rfl (ps 17 rfl rfl rfl) hns rfl<|wfp 13 rfl (ps 17 rfl rfl rfl) hns rfl<|wfp 14 rfl (ps 17 rfl rfl rfl) hns rfl<|wfp 15 rfl (ps 17 rfl rfl rfl) hns rfl<|wfp 16 rfl (ps 17 rfl rfl rfl) hns rfl<|wfp 17 rfl (ps 17 rfl rfl rfl) hns rfl<|wfv 18 rfl (Aw (b:=true) rfl rfl) gn hns rfl<|Et (by kernel_rfl) ?_
   exact D6 [0,1] (j1 true h) ⟨rfl,rfl,trivial⟩ (.cons_cons _ (.slnil)) rfl
  ·have h:=Am hp545 h
   obtain ⟨r549,hv550,h⟩:=h
   have hns:Region.noSelect (Code.ops q23c5)=true:=by kernel_rfl
   refine J7 [] 19 rfl rfl mix rfl (.c 0 rfl (.c 1 rfl .n))<|wfv 0 rfl (Bd Ew rfl) gn hns rfl<|wfv 1 rfl (Au 0 Kr rfl rfl rfl) gn hns rfl<|wfv 2 rfl (D5 Tm rfl h5.hq) gn hns rfl<|wfv 3 rfl (Ba rfl rfl rfl) gn hns rfl<|wfv 4 rfl (Ae rfl) gn hns rfl<|Xk 11 rfl ((decide_eq_false hp544))<|wfv 5 rfl (Bd Ik rfl) (gy 11 rfl rfl) hns rfl<|wfv 6 rfl (Au 0 U8 rfl rfl rfl) (gy 11 rfl rfl) hns rfl<|wfv 7 rfl (D5 Yu rfl h9.hq) (gy 11 rfl rfl) hns rfl<|wfv 8 rfl (Ba rfl rfl rfl) (gy 11 rfl rfl) hns rfl<|wfv 9 rfl (Aw (b:=false) rfl rfl) gn hns rfl ?_
   refine wfv 10 rfl (Ae rfl) gn hns rfl<|Xk 17 rfl ((decide_eq_false hp545))<|wfv 11 rfl (Bd Ew rfl) (gy 17 rfl rfl) hns rfl<|wfv 12 rfl (Au 0 Kr rfl rfl rfl) (gy 17 rfl rfl) hns rfl<|wfv 14 rfl (Bd Ew rfl) (gy 17 rfl rfl) hns rfl<|wfv 15 rfl (Au 0 Kr rfl rfl rfl) (gy 17 rfl rfl) hns rfl<|wfv 16 rfl (D5 Tm rfl h5.hq) (gy 17 rfl rfl) hns rfl ?_
   refine Cf [13] (by kernel_rfl) rfl ⟨Ej 13 rfl (gy 17 rfl rfl) rfl (D7 [.slice A2 n3 c4,.int .i64 0] rfl Tryd.func51 rfl rfl rfl fun w608 hL609=>?_),trivial⟩
   have hp610:=pmI hL609 .n (.c 0 rfl .n) (by kernel_rfl)
   refine Calls.mono (Px w608 (Fl ([]:List Cc)) x1.nodes 0 A2 n3 c4 (Rw.mono h5 (hL609.toSt hp610 (me 1 rfl))) (hL609.hFl hp610 (Bf [] rfl)) (hL609.into hp610 _) r549 hv550) ?_
   rintro _ w611 ⟨rfl,hM612⟩
   have hL613:=hL609.call hp610 hM612
   refine ⟨_,_,_,rfl,hL613,?_⟩
   refine ⟨Bf [0] rfl,Bf [0,1] rfl,?_⟩
   refine wfv 17 rfl (Ba rfl rfl rfl) (gy 17 rfl rfl) hns rfl<|wfv 18 rfl (Aw (b:=false) rfl rfl) gn hns rfl<|Et (by kernel_rfl) ?_
   exact D6 [0,1] (j1 (r549 != (x1.nodes.length:Int)) h) ⟨rfl,rfl,trivial⟩ (.cons_cons _ (.slnil)) rfl
noncomputable abbrev q93c4:=Code.snd (Code.snd (Df Tryd.f93))
noncomputable abbrev q93c6:=Code.snd (Code.fst (Code.snd (Df Tryd.f93)))
noncomputable abbrev Xhv:=Code.snd (Code.snd (Code.snd q93c4))
noncomputable abbrev Xe4:=Code.fst (Code.fst (Code.snd (Code.fst (Code.snd (Code.snd q93c4)))))
abbrev Kv (w:World) (F:Nat→Prop) (r:Ak × Int × Bool):Ending→World→Prop:=fun e w'=>∃ A0:Option Addr,∃ n0:Nat,∃ c0:Nat,∃ cs0:List Value,e=.returned (.tuple #[.agg #[.string r.1.node.name,.bool r.1.node.named,.string r.1.node.field,.int .i64 r.1.node.from_,.int .i64 r.1.node.to,.int .i64 r.1.node.kids,.int .i64 r.1.node.leaf,.slice A0 n0 c0,.int .i64 r.1.at_],.int .i64 r.2.1,.bool r.2.2])∧B.Loc w w' [.own (.slice A0 n0 c0) 118 9 n0 cs0] [St w []]∧Ow w.heap.size A0 n0 c0 r.1.kids∧Cells C9 w' (Nw w w' F [.own (.slice A0 n0 c0) 118 9 n0 cs0]) r.1.kids cs0
noncomputable abbrev O1 (w:World) (F:Nat→Prop) (r:Ak × Int × Bool):Cx:=⟨Tryd.prog,93,Tryd.f93,74,Kv w F  r,w⟩
def Ul (rl:(List Ai)→Int→(Ak × Int × Bool)→Prop):Prop:=∀ (w:World) (F:Nat→Prop) (x1:List Ai) (x6:Int) (A2:Option Addr) (n3:Nat) (c4:Nat) (h5:Rw D9 w (St w []).av A2 n3 c4 x1) (hF:∀ b,F b→b < w.heap.size∧∀ o ∈ ([]:List (List Nat)),b ∉ o) (hL0:B.Loc w w [] [Sm w.heap.size F w [],St w []]) (r:Ak × Int × Bool) (h:rl x1 x6 r),Calls Tryd.prog 93 #[.slice A2 n3 c4,.int .i64 x6] w (Kv w F  r)
theorem Xat (rc_trellisref15_take:(List Ai)→Int→(Ak × Int × Bool)→Prop) (ih_trellisref15_take:Ul rc_trellisref15_take):Ul (Fb rc_trellisref15_take):=by
 intro w F x1 x6 A2 n3 c4 h5 hF hL0 r h
 unfold Fb at h
 refine Bl (vs:=[.slice A2 n3 c4,.int .i64 x6]) 74 Tryd.func93 rfl Tryd.ntmps93 rfl hL0 ?_
 show G (O1 w F r) _ _ _ _
 refine Ag rfl<|Ac rfl rfl ?_
 refine Ci 0 rfl (G9 [.string (⟨#[]⟩:ByteArray),.bool false,.string (⟨#[]⟩:ByteArray),.int .i64 0,.int .i64 0,.int .i64 0,.int .i64 0,.slice none 0 0,.int .i64 0] Xb4 rfl fun gb7=>?_) gn
 refine Aa 1 rfl (Af rfl) gn rfl<|Aa 2 rfl (Af rfl) gn rfl<|Ah 3 rfl<|Ag rfl<|Ag rfl ?_
 have j1:∀ (x15:Bool) (h:Es x6 x1 rc_trellisref15_take x15 r) ,G (O1 w F r) [.code q93c6,.code q93c4] [(0,.slice A2 n3 c4),(1,.int .i64 x6),(4,.pointer (some ⟨gb7,0,none⟩)),(34,.bool x15)] [.box gb7 118 [.string (⟨#[]⟩:ByteArray),.bool false,.string (⟨#[]⟩:ByteArray),.int .i64 0,.int .i64 0,.int .i64 0,.int .i64 0,.slice none 0 0,.int .i64 0]] [Sm w.heap.size F w [],St w []]:=by
  intro x15 h
  unfold Es at h
  by_cases hp16:x15=true
  ·have h:=Ap hp16 h
   refine Bi rfl _ rfl (hp16)<|Ag rfl<|Ac rfl rfl<|Aa 0 rfl (L6 #[.string (⟨#[]⟩:ByteArray),.bool false,.string (⟨#[]⟩:ByteArray),.int .i64 0,.int .i64 0,.int .i64 0,.int .i64 0,.slice none 0 0,.int .i64 0] Xiv rfl (by kernel_rfl)) gn rfl<|Aa 1 rfl (Ae rfl) gn rfl ?_
   refine Ci 2 rfl (I9 (vs:=[.string (⟨#[]⟩:ByteArray),.bool false,.string (⟨#[]⟩:ByteArray),.int .i64 0,.int .i64 0,.int .i64 0,.int .i64 0,.slice none 0 0,.int .i64 0]) (cs':=[.string (⟨#[]⟩:ByteArray),.bool false,.string (⟨#[]⟩:ByteArray),.int .i64 0,.int .i64 0,.int .i64 0,.int .i64 0,.slice none 0 0,.int .i64 0]) (M':=[.box gb7 118 [.string (⟨#[]⟩:ByteArray),.bool false,.string (⟨#[]⟩:ByteArray),.int .i64 0,.int .i64 0,.int .i64 0,.int .i64 0,.slice none 0 0,.int .i64 0]]) 0 Y3 rfl rfl rfl rfl rfl rfl rfl rfl rfl ?_) gn
   refine Aa 3 rfl (Af rfl) gn rfl<|Aa 4 rfl (Af rfl) gn rfl<|Ah 5 rfl<|Td 118 9 ?_
   refine Bg [.agg #[.string (⟨#[]⟩:ByteArray),.bool false,.string (⟨#[]⟩:ByteArray),.int .i64 0,.int .i64 0,.int .i64 0,.int .i64 0,.slice none 0 0,.int .i64 0],.int .i64 x6,.bool false] rfl Tryd.func93 rfl (.cell (cs:=[.string (⟨#[]⟩:ByteArray),.bool false,.string (⟨#[]⟩:ByteArray),.int .i64 0,.int .i64 0,.int .i64 0,.int .i64 0,.slice none 0 0,.int .i64 0]) (us:=[.string (⟨#[]⟩:ByteArray),.bool false,.string (⟨#[]⟩:ByteArray),.int .i64 0,.int .i64 0,.int .i64 0,.int .i64 0,.slice none 0 0,.int .i64 0]) 1 rfl Yv rfl rfl rfl (.tmp rfl (.tmp rfl (.nil)))) fun wr hLr=>?_
   have hMr:=hLr.pkI (.c 0 rfl .n) (.c 1 rfl .n) (by kernel_rfl) (.c 1 rfl .n)
   have hMi:=hLr.selI (.c 0 rfl .n)
   show Kv w F  r (.returned (Bz [.agg #[.string (⟨#[]⟩:ByteArray),.bool false,.string (⟨#[]⟩:ByteArray),.int .i64 0,.int .i64 0,.int .i64 0,.int .i64 0,.slice none 0 0,.int .i64 0],.int .i64 x6,.bool false])) wr
   rw [h]
   exact ⟨none,0,0,[],rfl,hMr,(Ow.nil (z:=w.heap.size)),(hLr.outC (s:=Sm w.heap.size F w []) hMi (me 0 rfl) Sm.ok Cells.nil)⟩
  ·have h:=Am hp16 h
   refine Bc rfl _ rfl ((bf hp16))<|Bo rfl<|Ag rfl<|Ac rfl rfl<|Aa 0 rfl (Ae rfl) gn rfl<|Aa 1 rfl (Ae rfl) gn rfl ?_
   obtain ⟨hb17,h⟩:=h
   have hr18:=Rw.readF (s:=St w []) (hl:=Fh) (h1:=Gg) h5 hb17
   refine Aa 2 rfl (Ef (s:=St w []) Ro rfl rfl h5 hb17) gn rfl<|Aa 3 rfl (Q8 (St w []) Xb5 rfl hr18 rfl (me 1 rfl)) gn rfl<|Aa 4 rfl (Ae rfl) gn rfl<|Aa 5 rfl (L6 #[.string ((ix x1 x6).name),.bool ((ix x1 x6).named),.string ((ix x1 x6).field),.int .i64 ((ix x1 x6).from_),.int .i64 ((ix x1 x6).to),.int .i64 ((ix x1 x6).kids),.int .i64 ((ix x1 x6).leaf),.slice none 0 0,.int .i64 x6] Xiv rfl (by kernel_rfl)) gn rfl ?_
   refine Ci 6 rfl (G9 [.string (⟨#[]⟩:ByteArray),.bool false,.string (⟨#[]⟩:ByteArray),.int .i64 0,.int .i64 0,.int .i64 0,.int .i64 0,.slice none 0 0,.int .i64 0] Xb4 rfl fun gb19=>?_) gn
   refine Ci 7 rfl (I9 (vs:=[.string ((ix x1 x6).name),.bool ((ix x1 x6).named),.string ((ix x1 x6).field),.int .i64 ((ix x1 x6).from_),.int .i64 ((ix x1 x6).to),.int .i64 ((ix x1 x6).kids),.int .i64 ((ix x1 x6).leaf),.slice none 0 0,.int .i64 x6]) (cs':=[.string ((ix x1 x6).name),.bool ((ix x1 x6).named),.string ((ix x1 x6).field),.int .i64 ((ix x1 x6).from_),.int .i64 ((ix x1 x6).to),.int .i64 ((ix x1 x6).kids),.int .i64 ((ix x1 x6).leaf),.slice none 0 0,.int .i64 x6]) (M':=[.box gb19 118 [.string ((ix x1 x6).name),.bool ((ix x1 x6).named),.string ((ix x1 x6).field),.int .i64 ((ix x1 x6).from_),.int .i64 ((ix x1 x6).to),.int .i64 ((ix x1 x6).kids),.int .i64 ((ix x1 x6).leaf),.slice none 0 0,.int .i64 x6],.box gb7 118 [.string (⟨#[]⟩:ByteArray),.bool false,.string (⟨#[]⟩:ByteArray),.int .i64 0,.int .i64 0,.int .i64 0,.int .i64 0,.slice none 0 0,.int .i64 0]]) 0 Y3 rfl rfl rfl rfl rfl rfl rfl rfl rfl ?_) gn
   refine Ah 8 rfl<|Ag rfl<|Ac rfl rfl<|Aa 0 rfl (Ae rfl) gn rfl<|Aa 1 rfl (Ba rfl rfl rfl) gn rfl<|Aa 2 rfl (Af rfl) gn rfl<|Ah 3 rfl<|Ag rfl<|Ag rfl<|Ac rfl rfl<|Aa 0 rfl (Af rfl) gn rfl<|Ah 1 rfl ?_
   refine Bv rfl<|Ei rfl ?_
   have key2:∀ s,Ar (fun (s:Int × Int × (List Ak)) o=>Dy x1 x6 rc_trellisref15_take s.1 s.2.1 s.2.2 o) s r→(fun (s:Int × Int × (List Ak))=>∀ (A67:Option Addr) (n68:Nat) (c69:Nat) (h70:Ow w.heap.size A67 n68 c69 s.2.2) (cs71:List Value) (sw72:World) (sb73:List (List Nat)) (hC74:Cells C9 (Sm w.heap.size F sw72 sb73).w (Sm w.heap.size F sw72 sb73).av s.2.2 cs71),G (O1 w F r) [.code Xe4,.inLoop Xe4,.inBlock 0,.code Xhv] [(0,.slice A2 n3 c4),(1,.int .i64 x6),(4,.pointer (some ⟨gb7,0,none⟩)),(7,.pointer (some ⟨gb19,0,none⟩)),(8,.int .i64 s.1),(9,.int .i64 s.2.1)] [.own (.slice A67 n68 c69) 118 9 n68 cs71,.box gb19 118 [.string ((ix x1 x6).name),.bool ((ix x1 x6).named),.string ((ix x1 x6).field),.int .i64 ((ix x1 x6).from_),.int .i64 ((ix x1 x6).to),.int .i64 ((ix x1 x6).kids),.int .i64 ((ix x1 x6).leaf),.slice A67 n68 c69,.int .i64 x6],.box gb7 118 [.string (⟨#[]⟩:ByteArray),.bool false,.string (⟨#[]⟩:ByteArray),.int .i64 0,.int .i64 0,.int .i64 0,.int .i64 0,.slice none 0 0,.int .i64 0]] [Sm w.heap.size F sw72 sb73,Sm w.heap.size F w [],St w []]) s:=by
    intro s hs
    refine Ar.ind (mot:=(fun (s:Int × Int × (List Ak))=>∀ (A67:Option Addr) (n68:Nat) (c69:Nat) (h70:Ow w.heap.size A67 n68 c69 s.2.2) (cs71:List Value) (sw72:World) (sb73:List (List Nat)) (hC74:Cells C9 (Sm w.heap.size F sw72 sb73).w (Sm w.heap.size F sw72 sb73).av s.2.2 cs71),G (O1 w F r) [.code Xe4,.inLoop Xe4,.inBlock 0,.code Xhv] [(0,.slice A2 n3 c4),(1,.int .i64 x6),(4,.pointer (some ⟨gb7,0,none⟩)),(7,.pointer (some ⟨gb19,0,none⟩)),(8,.int .i64 s.1),(9,.int .i64 s.2.1)] [.own (.slice A67 n68 c69) 118 9 n68 cs71,.box gb19 118 [.string ((ix x1 x6).name),.bool ((ix x1 x6).named),.string ((ix x1 x6).field),.int .i64 ((ix x1 x6).from_),.int .i64 ((ix x1 x6).to),.int .i64 ((ix x1 x6).kids),.int .i64 ((ix x1 x6).leaf),.slice A67 n68 c69,.int .i64 x6],.box gb7 118 [.string (⟨#[]⟩:ByteArray),.bool false,.string (⟨#[]⟩:ByteArray),.int .i64 0,.int .i64 0,.int .i64 0,.int .i64 0,.slice none 0 0,.int .i64 0]] [Sm w.heap.size F sw72 sb73,Sm w.heap.size F w [],St w []])) ?_ hs
    clear hs s
    intro s o1 h hO1
    obtain ⟨x64,x65,x66⟩:=s
    show ∀ (A67:Option Addr) (n68:Nat) (c69:Nat) (h70:Ow w.heap.size A67 n68 c69 x66) (cs71:List Value) (sw72:World) (sb73:List (List Nat)) (hC74:Cells C9 (Sm w.heap.size F sw72 sb73).w (Sm w.heap.size F sw72 sb73).av x66 cs71),G (O1 w F r) [.code Xe4,.inLoop Xe4,.inBlock 0,.code Xhv] [(0,.slice A2 n3 c4),(1,.int .i64 x6),(4,.pointer (some ⟨gb7,0,none⟩)),(7,.pointer (some ⟨gb19,0,none⟩)),(8,.int .i64 x64),(9,.int .i64 x65)] [.own (.slice A67 n68 c69) 118 9 n68 cs71,.box gb19 118 [.string ((ix x1 x6).name),.bool ((ix x1 x6).named),.string ((ix x1 x6).field),.int .i64 ((ix x1 x6).from_),.int .i64 ((ix x1 x6).to),.int .i64 ((ix x1 x6).kids),.int .i64 ((ix x1 x6).leaf),.slice A67 n68 c69,.int .i64 x6],.box gb7 118 [.string (⟨#[]⟩:ByteArray),.bool false,.string (⟨#[]⟩:ByteArray),.int .i64 0,.int .i64 0,.int .i64 0,.int .i64 0,.slice none 0 0,.int .i64 0]] [Sm w.heap.size F sw72 sb73,Sm w.heap.size F w [],St w []]
    intro A67 n68 c69 h70 cs71 sw72 sb73 hC74
    have h:Dy x1 x6 rc_trellisref15_take x64 x65 x66 o1:=h
    unfold Dy at h
    refine Ag rfl<|Ag rfl<|Ac rfl rfl<|Aa 0 rfl (Ae rfl) gn rfl<|Aa 1 rfl (Ae rfl) gn rfl<|Aa 2 rfl (Ae rfl) gn rfl ?_
    have hr116:=Rw.readF (s:=St w []) (hl:=Fh) (h1:=Gg) h5 hb17
    refine Aa 3 rfl (Ef (s:=St w []) Ro rfl rfl h5 hb17) gn rfl<|Aa 4 rfl (Jq Xas rfl) gn rfl<|Aa 5 rfl (Le (kk:=(x6:Int).toNat * 7) (j:=5) (St w []) O9 rfl hr116 rfl (me 2 rfl)) gn rfl<|Aa 6 rfl (Ba rfl rfl rfl) gn rfl<|Ah 7 rfl ?_
    by_cases hp117:x65 < (ix x1 x6).kids
    ·have h:=Ap hp117 h
     refine Bi rfl _ rfl ((decide_eq_true hp117))<|Bo rfl<|Ag rfl<|Bv rfl<|Ag rfl<|Ac rfl rfl<|Aa 0 rfl (Ae rfl) gn rfl<|Aa 1 rfl (Ae rfl) gn rfl ?_
     obtain ⟨r121,hv122,h⟩:=h
     refine Ci 2 rfl (D7 [.slice A2 n3 c4,.int .i64 x64] rfl Tryd.func93 rfl rfl rfl fun w118 hL119=>?_) gn
     have hp120:=pmI hL119 .n (.c 0 rfl (.c 1 rfl (.c 2 rfl .n))) (by kernel_rfl)
     refine Calls.mono (ih_trellisref15_take w118 (Fl ([]:List Cc)) x1 x64 A2 n3 c4 (Rw.mono h5 (hL119.toSt hp120 (me 2 rfl))) (hL119.hFl hp120 (Bf [] rfl)) (hL119.into hp120 _) r121 hv122) ?_
     rintro _ w130 ⟨A123,n124,c125,cs128,rfl,hM131,h126,hC129⟩
     obtain ⟨sb134,hL132,hv133⟩:=hL119.callB (Sl:=([]:List Cc)) hp120 hM131 F (Bf [] rfl) trivial
     have hC129:Cells C9 (Sm w.heap.size F w130 sb134).w (Sm w.heap.size F w130 sb134).av r121.1.kids cs128:=Cells.mono hv133 hC129
     refine ⟨_,_,_,rfl,hL132,?_⟩
     refine Aa 3 rfl (Ae rfl) gn rfl<|Aa 4 rfl (Il rfl rfl) gn rfl<|Aa 5 rfl (Il rfl rfl) gn rfl<|Aa 6 rfl (Il rfl rfl) gn rfl ?_
     refine Ci 7 rfl (G9 [.string (⟨#[]⟩:ByteArray),.bool false,.string (⟨#[]⟩:ByteArray),.int .i64 0,.int .i64 0,.int .i64 0,.int .i64 0,.slice none 0 0,.int .i64 0] Xb4 rfl fun gb135=>?_) gn
     refine Ci 8 rfl (I9 (vs:=[.string r121.1.node.name,.bool r121.1.node.named,.string r121.1.node.field,.int .i64 r121.1.node.from_,.int .i64 r121.1.node.to,.int .i64 r121.1.node.kids,.int .i64 r121.1.node.leaf,.slice A123 n124 c125,.int .i64 r121.1.at_]) (cs':=[.string r121.1.node.name,.bool r121.1.node.named,.string r121.1.node.field,.int .i64 r121.1.node.from_,.int .i64 r121.1.node.to,.int .i64 r121.1.node.kids,.int .i64 r121.1.node.leaf,.slice A123 n124 c125,.int .i64 r121.1.at_]) (M':=[.box gb135 118 [.string r121.1.node.name,.bool r121.1.node.named,.string r121.1.node.field,.int .i64 r121.1.node.from_,.int .i64 r121.1.node.to,.int .i64 r121.1.node.kids,.int .i64 r121.1.node.leaf,.slice A123 n124 c125,.int .i64 r121.1.at_],.own (.slice A123 n124 c125) 118 9 n124 cs128,.own (.slice A67 n68 c69) 118 9 n68 cs71,.box gb19 118 [.string ((ix x1 x6).name),.bool ((ix x1 x6).named),.string ((ix x1 x6).field),.int .i64 ((ix x1 x6).from_),.int .i64 ((ix x1 x6).to),.int .i64 ((ix x1 x6).kids),.int .i64 ((ix x1 x6).leaf),.slice A67 n68 c69,.int .i64 x6],.box gb7 118 [.string (⟨#[]⟩:ByteArray),.bool false,.string (⟨#[]⟩:ByteArray),.int .i64 0,.int .i64 0,.int .i64 0,.int .i64 0,.slice none 0 0,.int .i64 0]]) 0 Y3 rfl rfl rfl rfl rfl rfl rfl rfl rfl ?_) gn
     refine Aa 9 rfl (Af rfl) gn rfl<|Aa 10 rfl (Af rfl) gn rfl<|Ah 11 rfl<|Ag rfl<|Ag rfl<|Ac rfl rfl<|Aa 0 rfl (Ae rfl) gn rfl<|Aa 1 rfl (Oi rfl) gn rfl<|Ah 2 rfl ?_
     by_cases hp137:r121.2.2=true
     ·have h:=Ap hp137 h
      refine Bc rfl _ rfl ((nf hp137))<|Bo rfl<|Ag rfl<|Ac rfl rfl<|Aa 0 rfl (Bd Xbm rfl) gn rfl<|Aa 1 rfl (Au 3 ld_96 rfl rfl rfl) gn rfl<|Aa 2 rfl (Ji [.string r121.1.node.name,.bool r121.1.node.named,.string r121.1.node.field,.int .i64 r121.1.node.from_,.int .i64 r121.1.node.to,.int .i64 r121.1.node.kids,.int .i64 r121.1.node.leaf,.slice A123 n124 c125,.int .i64 r121.1.at_] 0 Yv rfl rfl rfl rfl) gn rfl ?_
      refine Xdp (F:=F) (dk:=C9) (Sm w.heap.size F w130 sb134) 1 rfl (Ow.weak hL119.env.size h126) (me 0 rfl) Sm.ok hC129 fun sw139 sb140 h138=>?_
      have hC142:Cells C9 (Sm w.heap.size F sw139 sb140).w (Sm w.heap.size F sw139 sb140).av ([r121.1]:List Ak) [.string r121.1.node.name,.bool r121.1.node.named,.string r121.1.node.field,.int .i64 r121.1.node.from_,.int .i64 r121.1.node.to,.int .i64 r121.1.node.kids,.int .i64 r121.1.node.leaf,.slice A123 n124 c125,.int .i64 r121.1.at_]:=(Cells.cons (c1:=[.string r121.1.node.name,.bool r121.1.node.named,.string r121.1.node.field,.int .i64 r121.1.node.from_,.int .i64 r121.1.node.to,.int .i64 r121.1.node.kids,.int .i64 r121.1.node.leaf,.slice A123 n124 c125,.int .i64 r121.1.at_]) (Wh ⟨A123,n124,c125,rfl,h138⟩) Cells.nil)
      refine Ci 3 rfl (Io (xs:=([r121.1]:List Ak)) [.string r121.1.node.name,.bool r121.1.node.named,.string r121.1.node.field,.int .i64 r121.1.node.from_,.int .i64 r121.1.node.to,.int .i64 r121.1.node.kids,.int .i64 r121.1.node.leaf,.slice A123 n124 c125,.int .i64 r121.1.at_] Xl8 rfl (by kernel_rfl) rfl rfl rfl rfl fun gb143 h144=>?_) gn
      obtain ⟨x151,hv152,h⟩:=h
      obtain ⟨hb153,h⟩:=h
      refine Xka (F:=F) fun sw148 sb149 ho150=>?_
      obtain ⟨cs154,hc155⟩:∃ x:List Value,x=cs71++[.string r121.1.node.name,.bool r121.1.node.named,.string r121.1.node.field,.int .i64 r121.1.node.from_,.int .i64 r121.1.node.to,.int .i64 r121.1.node.kids,.int .i64 r121.1.node.leaf,.slice A123 n124 c125,.int .i64 r121.1.at_]:=⟨_,rfl⟩
      have hC156:Cells C9 (Sm w.heap.size F sw148 sb149).w (Sm w.heap.size F sw148 sb149).av x151 cs154:=by rw [hv152,hc155]; exact Cells.app (Cells.older (s:=Sm w.heap.size F sw72 sb73) hC74 (ho150 _ (me 2 rfl) Sm.ok)) (Cells.older (s:=Sm w.heap.size F sw139 sb140) hC142 (ho150 _ (me 0 rfl) Sm.ok))
      refine Ci 4 rfl (Pn (zs:=x151) 2 ap_96 rfl rfl rfl h70 (Nat.le_refl _) (Src.ownAll 0 rfl h144 hC142) hc155.symm (H9 hv152 h144.hq) hb153 rfl rfl fun A145 c146 h147=>?_) gn
      refine Aa 5 rfl (Bd Xbm rfl) gn rfl ?_
      refine Ci 6 rfl (I9 (vs:=[.slice A145 (n68 + 1) c146]) (cs':=[.string ((ix x1 x6).name),.bool ((ix x1 x6).named),.string ((ix x1 x6).field),.int .i64 ((ix x1 x6).from_),.int .i64 ((ix x1 x6).to),.int .i64 ((ix x1 x6).kids),.int .i64 ((ix x1 x6).leaf),.slice A145 (n68 + 1) c146,.int .i64 x6]) (M':=[.own (.slice (some ⟨gb143,0,none⟩) 1 1) 118 9 1 [.string r121.1.node.name,.bool r121.1.node.named,.string r121.1.node.field,.int .i64 r121.1.node.from_,.int .i64 r121.1.node.to,.int .i64 r121.1.node.kids,.int .i64 r121.1.node.leaf,.slice A123 n124 c125,.int .i64 r121.1.at_],.box gb135 118 [.string r121.1.node.name,.bool r121.1.node.named,.string r121.1.node.field,.int .i64 r121.1.node.from_,.int .i64 r121.1.node.to,.int .i64 r121.1.node.kids,.int .i64 r121.1.node.leaf,.slice A123 n124 c125,.int .i64 r121.1.at_],.own (.slice A145 (n68 + 1) c146) 118 9 (n68 + 1) cs154,.box gb19 118 [.string ((ix x1 x6).name),.bool ((ix x1 x6).named),.string ((ix x1 x6).field),.int .i64 ((ix x1 x6).from_),.int .i64 ((ix x1 x6).to),.int .i64 ((ix x1 x6).kids),.int .i64 ((ix x1 x6).leaf),.slice A145 (n68 + 1) c146,.int .i64 x6],.box gb7 118 [.string (⟨#[]⟩:ByteArray),.bool false,.string (⟨#[]⟩:ByteArray),.int .i64 0,.int .i64 0,.int .i64 0,.int .i64 0,.slice none 0 0,.int .i64 0]]) 3 sz_96 rfl rfl rfl rfl rfl rfl rfl rfl rfl ?_) gn
      refine Ah 7 rfl<|Ac rfl rfl<|Aa 0 rfl (Ae rfl) gn rfl<|Aa 1 rfl (Af rfl) gn rfl<|Ah 2 rfl<|Bj<|Ac rfl rfl<|Aa 0 rfl (Ae rfl) gn rfl<|Aa 1 rfl (Ba rfl rfl rfl) gn rfl<|Aa 2 rfl (Af rfl) gn rfl<|Ah 3 rfl<|Cm ?_
      have ih:=Out.inl hO1 h
      exact D6 [0,4,5] (ih A145 (n68 + 1) c146 h147 cs154 sw148 sb149 hC156) ⟨rfl,rfl,rfl,rfl,rfl,rfl,trivial⟩ (.cons _ (.cons _ (.cons_cons _ (.cons_cons _ (.cons_cons _ (.slnil)))))) rfl
     ·have h:=Am hp137 h
      refine Bi rfl _ rfl ((nt (bf hp137)))<|Ag rfl<|Ac rfl rfl<|Aa 0 rfl (L6 #[.string (⟨#[]⟩:ByteArray),.bool false,.string (⟨#[]⟩:ByteArray),.int .i64 0,.int .i64 0,.int .i64 0,.int .i64 0,.slice none 0 0,.int .i64 0] Xiv rfl (by kernel_rfl)) gn rfl<|Aa 1 rfl (Ae rfl) gn rfl ?_
      refine Ci 2 rfl (I9 (vs:=[.string (⟨#[]⟩:ByteArray),.bool false,.string (⟨#[]⟩:ByteArray),.int .i64 0,.int .i64 0,.int .i64 0,.int .i64 0,.slice none 0 0,.int .i64 0]) (cs':=[.string (⟨#[]⟩:ByteArray),.bool false,.string (⟨#[]⟩:ByteArray),.int .i64 0,.int .i64 0,.int .i64 0,.int .i64 0,.slice none 0 0,.int .i64 0]) (M':=[.box gb135 118 [.string r121.1.node.name,.bool r121.1.node.named,.string r121.1.node.field,.int .i64 r121.1.node.from_,.int .i64 r121.1.node.to,.int .i64 r121.1.node.kids,.int .i64 r121.1.node.leaf,.slice A123 n124 c125,.int .i64 r121.1.at_],.own (.slice A123 n124 c125) 118 9 n124 cs128,.own (.slice A67 n68 c69) 118 9 n68 cs71,.box gb19 118 [.string ((ix x1 x6).name),.bool ((ix x1 x6).named),.string ((ix x1 x6).field),.int .i64 ((ix x1 x6).from_),.int .i64 ((ix x1 x6).to),.int .i64 ((ix x1 x6).kids),.int .i64 ((ix x1 x6).leaf),.slice A67 n68 c69,.int .i64 x6],.box gb7 118 [.string (⟨#[]⟩:ByteArray),.bool false,.string (⟨#[]⟩:ByteArray),.int .i64 0,.int .i64 0,.int .i64 0,.int .i64 0,.slice none 0 0,.int .i64 0]]) 4 Y3 rfl rfl rfl rfl rfl rfl rfl rfl rfl ?_) gn
      refine Aa 3 rfl (Af rfl) gn rfl<|Aa 4 rfl (Af rfl) gn rfl<|Ah 5 rfl<|Td 118 9 ?_
      have h:=Out.inr hO1 h
      refine Bg [.agg #[.string (⟨#[]⟩:ByteArray),.bool false,.string (⟨#[]⟩:ByteArray),.int .i64 0,.int .i64 0,.int .i64 0,.int .i64 0,.slice none 0 0,.int .i64 0],.int .i64 x6,.bool false] rfl Tryd.func93 rfl (.cell (cs:=[.string (⟨#[]⟩:ByteArray),.bool false,.string (⟨#[]⟩:ByteArray),.int .i64 0,.int .i64 0,.int .i64 0,.int .i64 0,.slice none 0 0,.int .i64 0]) (us:=[.string (⟨#[]⟩:ByteArray),.bool false,.string (⟨#[]⟩:ByteArray),.int .i64 0,.int .i64 0,.int .i64 0,.int .i64 0,.slice none 0 0,.int .i64 0]) 5 rfl Yv rfl rfl rfl (.tmp rfl (.tmp rfl (.nil)))) fun wr hLr=>?_
      have hMr:=hLr.pkI (.c 0 rfl .n) (.c 1 rfl (.c 2 rfl (.c 3 rfl (.c 4 rfl (.c 5 rfl .n))))) (by kernel_rfl) (.c 3 rfl .n)
      have hMi:=hLr.selI (.c 0 rfl .n)
      show Kv w F  r (.returned (Bz [.agg #[.string (⟨#[]⟩:ByteArray),.bool false,.string (⟨#[]⟩:ByteArray),.int .i64 0,.int .i64 0,.int .i64 0,.int .i64 0,.slice none 0 0,.int .i64 0],.int .i64 x6,.bool false])) wr
      rw [h]
      exact ⟨none,0,0,[],rfl,hMr,(Ow.nil (z:=w.heap.size)),(hLr.outC (s:=Sm w.heap.size F w []) hMi (me 2 rfl) Sm.ok Cells.nil)⟩
    ·have h:=Am hp117 h
     refine Bc rfl _ rfl ((decide_eq_false hp117))<|E8 [.code Xhv] rfl rfl<|Ag rfl<|Ac rfl rfl<|Aa 0 rfl (Ji [.string ((ix x1 x6).name),.bool ((ix x1 x6).named),.string ((ix x1 x6).field),.int .i64 ((ix x1 x6).from_),.int .i64 ((ix x1 x6).to),.int .i64 ((ix x1 x6).kids),.int .i64 ((ix x1 x6).leaf),.slice A67 n68 c69,.int .i64 x6] 1 Yv rfl rfl rfl rfl) gn rfl<|Aa 1 rfl (Ae rfl) gn rfl ?_
     refine Ci 2 rfl (I9 (vs:=[.string ((ix x1 x6).name),.bool ((ix x1 x6).named),.string ((ix x1 x6).field),.int .i64 ((ix x1 x6).from_),.int .i64 ((ix x1 x6).to),.int .i64 ((ix x1 x6).kids),.int .i64 ((ix x1 x6).leaf),.slice A67 n68 c69,.int .i64 x6]) (cs':=[.string ((ix x1 x6).name),.bool ((ix x1 x6).named),.string ((ix x1 x6).field),.int .i64 ((ix x1 x6).from_),.int .i64 ((ix x1 x6).to),.int .i64 ((ix x1 x6).kids),.int .i64 ((ix x1 x6).leaf),.slice A67 n68 c69,.int .i64 x6]) (M':=[.own (.slice A67 n68 c69) 118 9 n68 cs71,.box gb19 118 [.string ((ix x1 x6).name),.bool ((ix x1 x6).named),.string ((ix x1 x6).field),.int .i64 ((ix x1 x6).from_),.int .i64 ((ix x1 x6).to),.int .i64 ((ix x1 x6).kids),.int .i64 ((ix x1 x6).leaf),.slice A67 n68 c69,.int .i64 x6],.box gb7 118 [.string ((ix x1 x6).name),.bool ((ix x1 x6).named),.string ((ix x1 x6).field),.int .i64 ((ix x1 x6).from_),.int .i64 ((ix x1 x6).to),.int .i64 ((ix x1 x6).kids),.int .i64 ((ix x1 x6).leaf),.slice A67 n68 c69,.int .i64 x6]]) 2 Y3 rfl rfl rfl rfl rfl rfl rfl rfl rfl ?_) gn
     refine Aa 3 rfl (Af rfl) gn rfl<|Aa 4 rfl (Af rfl) gn rfl<|Ah 5 rfl ?_
     have h:=Out.inr hO1 h
     refine Bg [.agg #[.string ((ix x1 x6).name),.bool ((ix x1 x6).named),.string ((ix x1 x6).field),.int .i64 ((ix x1 x6).from_),.int .i64 ((ix x1 x6).to),.int .i64 ((ix x1 x6).kids),.int .i64 ((ix x1 x6).leaf),.slice A67 n68 c69,.int .i64 x6],.int .i64 x64,.bool true] rfl Tryd.func93 rfl (.cell (cs:=[.string ((ix x1 x6).name),.bool ((ix x1 x6).named),.string ((ix x1 x6).field),.int .i64 ((ix x1 x6).from_),.int .i64 ((ix x1 x6).to),.int .i64 ((ix x1 x6).kids),.int .i64 ((ix x1 x6).leaf),.slice A67 n68 c69,.int .i64 x6]) (us:=[.string ((ix x1 x6).name),.bool ((ix x1 x6).named),.string ((ix x1 x6).field),.int .i64 ((ix x1 x6).from_),.int .i64 ((ix x1 x6).to),.int .i64 ((ix x1 x6).kids),.int .i64 ((ix x1 x6).leaf),.slice A67 n68 c69,.int .i64 x6]) 2 rfl Yv rfl rfl rfl (.tmp rfl (.tmp rfl (.nil)))) fun wr hLr=>?_
     have hMr:=hLr.pkI (.c 0 rfl .n) (.c 1 rfl (.c 2 rfl .n)) (by kernel_rfl) (.c 2 rfl .n)
     have hMi:=hLr.selI (.c 0 rfl .n)
     show Kv w F  r (.returned (Bz [.agg #[.string ((ix x1 x6).name),.bool ((ix x1 x6).named),.string ((ix x1 x6).field),.int .i64 ((ix x1 x6).from_),.int .i64 ((ix x1 x6).to),.int .i64 ((ix x1 x6).kids),.int .i64 ((ix x1 x6).leaf),.slice A67 n68 c69,.int .i64 x6],.int .i64 x64,.bool true])) wr
     rw [h]
     exact ⟨A67,n68,c69,cs71,rfl,hMr,h70,(hLr.outC (s:=Sm w.heap.size F sw72 sb73) hMi (me 0 rfl) Sm.ok hC74)⟩
   refine Td 118 9 ?_
   exact D6 [0,0,1] (key2 _ h none 0 0 (Ow.nil (z:=w.heap.size)) [] w [] Cells.nil) ⟨rfl,rfl,rfl,rfl,rfl,rfl,trivial⟩ (.cons_cons _ (.cons_cons _ (.cons_cons _ (.slnil)))) rfl
 refine Ac rfl rfl<|Aa 0 rfl (Ae rfl) gn rfl<|Aa 1 rfl (Ae rfl) gn rfl<|Aa 2 rfl (D5 V3 rfl h5.hq) gn rfl<|Aa 3 rfl (Ba rfl rfl rfl) gn rfl<|Aa 4 rfl (Ae rfl) gn rfl ?_
 by_cases hp157:x6≥(x1.length:Int)
 ·have h:=Ap hp157 h
  refine Bh 17 rfl ((decide_eq_true hp157))<|Ad 5 rfl (ps 17 rfl rfl rfl)<|Ad 6 rfl (ps 17 rfl rfl rfl)<|Ad 7 rfl (ps 17 rfl rfl rfl)<|Ad 8 rfl (ps 17 rfl rfl rfl)<|Ad 9 rfl (ps 17 rfl rfl rfl)<|Ad 10 rfl (ps 17 rfl rfl rfl)<|Aa 11 rfl (Aw (b:=true) rfl rfl) gn rfl<|Aa 12 rfl (Ae rfl) gn rfl<|Ad 13 rfl (ps 25 rfl rfl rfl)<|Ad 14 rfl (ps 25 rfl rfl rfl)<|Ad 15 rfl (ps 25 rfl rfl rfl) ?_
  refine Ad 16 rfl (ps 25 rfl rfl rfl)<|Ad 17 rfl (ps 25 rfl rfl rfl)<|Ad 18 rfl (ps 25 rfl rfl rfl)<|Ad 19 rfl (ps 25 rfl rfl rfl)<|Ad 20 rfl (ps 25 rfl rfl rfl)<|Aa 21 rfl (Aw (b:=true) rfl rfl) gn rfl<|Ah 22 rfl ?_
  exact D6 [0,1] (j1 true h) ⟨rfl,rfl,rfl,rfl,trivial⟩ (.cons_cons _ (.slnil)) rfl
 ·have h:=Am hp157 h
  refine Bh 17 rfl ((decide_eq_false hp157))<|Aa 5 rfl (Ae rfl) (gy 17 rfl rfl) rfl<|Aa 6 rfl (Ae rfl) (gy 17 rfl rfl) rfl ?_
  obtain ⟨hb158,h⟩:=h
  have hr159:=Rw.readF (s:=St w []) (hl:=Fh) (h1:=Gg) h5 hb158
  refine Aa 7 rfl (Ef (s:=St w []) Ro rfl rfl h5 hb158) (gy 17 rfl rfl) rfl<|Aa 8 rfl (Jq Xas rfl) (gy 17 rfl rfl) rfl<|Aa 9 rfl (Le (kk:=(x6:Int).toNat * 7) (j:=5) (St w []) O9 rfl hr159 rfl (me 1 rfl)) (gy 17 rfl rfl) rfl<|Aa 10 rfl (Ba rfl rfl rfl) (gy 17 rfl rfl) rfl<|Aa 11 rfl (Aw (b:=false) rfl rfl) gn rfl<|Aa 12 rfl (Ae rfl) gn rfl ?_
  by_cases hp160:(ix x1 x6).kids < 0
  ·have h:=Ap hp160 h
   refine Bh 25 rfl ((decide_eq_true hp160))<|Ad 13 rfl (ps 25 rfl rfl rfl)<|Ad 14 rfl (ps 25 rfl rfl rfl)<|Ad 15 rfl (ps 25 rfl rfl rfl)<|Ad 16 rfl (ps 25 rfl rfl rfl)<|Ad 17 rfl (ps 25 rfl rfl rfl)<|Ad 18 rfl (ps 25 rfl rfl rfl)<|Ad 19 rfl (ps 25 rfl rfl rfl)<|Ad 20 rfl (ps 25 rfl rfl rfl)<|Aa 21 rfl (Aw (b:=true) rfl rfl) gn rfl<|Ah 22 rfl ?_
   exact D6 [0,1] (j1 true h) ⟨rfl,rfl,rfl,rfl,trivial⟩ (.cons_cons _ (.slnil)) rfl
  ·have h:=Am hp160 h
   refine Bh 25 rfl ((decide_eq_false hp160))<|Aa 13 rfl (Ae rfl) (gy 25 rfl rfl) rfl<|Aa 14 rfl (Ae rfl) (gy 25 rfl rfl) rfl ?_
   have hr161:=Rw.readF (s:=St w []) (hl:=Fh) (h1:=Gg) h5 hb158
   refine Aa 15 rfl (Ef (s:=St w []) Ro rfl rfl h5 hb158) (gy 25 rfl rfl) rfl<|Aa 16 rfl (Jq Xas rfl) (gy 25 rfl rfl) rfl<|Aa 17 rfl (Le (kk:=(x6:Int).toNat * 7) (j:=5) (St w []) O9 rfl hr161 rfl (me 1 rfl)) (gy 25 rfl rfl) rfl<|Aa 18 rfl (Ae rfl) (gy 25 rfl rfl) rfl<|Aa 19 rfl (D5 V3 rfl h5.hq) (gy 25 rfl rfl) rfl<|Aa 20 rfl (Ba rfl rfl rfl) (gy 25 rfl rfl) rfl<|Aa 21 rfl (Aw (b:=false) rfl rfl) gn rfl<|Ah 22 rfl ?_
   exact D6 [0,1] (j1 (decide ((ix x1 x6).kids > (x1.length:Int))) h) ⟨rfl,rfl,rfl,rfl,trivial⟩ (.cons_cons _ (.slnil)) rfl
theorem X3:∀ n,Ul (Dx n)
 | 0=>fun w F x1 x6 A2 n3 c4 h5 hF hL0 r h=>h.elim
 | n + 1=>by
  have ih:=X3 n
  exact Xat _ ih
theorem Xa3 (w:World) (F:Nat→Prop) (x1:List Ai) (x6:Int) (A2:Option Addr) (n3:Nat) (c4:Nat) (h5:Rw D9 w (St w []).av A2 n3 c4 x1) (hF:∀ b,F b→b < w.heap.size∧∀ o ∈ ([]:List (List Nat)),b ∉ o) (hL0:B.Loc w w [] [Sm w.heap.size F w [],St w []]) (r:Ak × Int × Bool) (h:Z5 x1 x6 r):Calls Tryd.prog 93 #[.slice A2 n3 c4,.int .i64 x6] w (Kv w F  r):=by
 obtain ⟨n,h⟩:=h
 exact (X3 n) w F x1 x6 A2 n3 c4 h5 hF hL0 r h
noncomputable abbrev q66c8:=Code.snd (Code.snd (Code.snd (Code.snd (Df Tryd.f66))))
noncomputable abbrev Xey:=Code.fst (Code.fst (Code.fst (Code.snd (Code.snd (Code.snd (Df Tryd.f66))))))
abbrev Pg (w:World) (F:Nat→Prop) (r:(List Ak) × Bool):Ending→World→Prop:=fun e w'=>∃ A0:Option Addr,∃ n0:Nat,∃ c0:Nat,∃ cs0:List Value,e=.returned (.tuple #[.slice A0 n0 c0,.bool r.2])∧B.Loc w w' [.own (.slice A0 n0 c0) 118 9 n0 cs0] [St w []]∧Ow w.heap.size A0 n0 c0 r.1∧Cells C9 w' (Nw w w' F [.own (.slice A0 n0 c0) 118 9 n0 cs0]) r.1 cs0
noncomputable abbrev Pm (w:World) (F:Nat→Prop) (r:(List Ak) × Bool):Cx:=⟨Tryd.prog,66,Tryd.f66,28,Pg w F  r,w⟩
theorem Uz (w:World) (F:Nat→Prop) (x1:List Ai) (A2:Option Addr) (n3:Nat) (c4:Nat) (h5:Rw D9 w (St w []).av A2 n3 c4 x1) (hF:∀ b,F b→b < w.heap.size∧∀ o ∈ ([]:List (List Nat)),b ∉ o) (hL0:B.Loc w w [] [Sm w.heap.size F w [],St w []]) (r:(List Ak) × Bool) (h:H5 x1 r):Calls Tryd.prog 66 #[.slice A2 n3 c4] w (Pg w F  r):=by
 unfold H5 at h
 refine Bl (vs:=[.slice A2 n3 c4]) 28 Tryd.func66 rfl Tryd.ntmps66 rfl hL0 ?_
 show G (Pm w F r) _ _ _ _
 refine Ag rfl<|Ac rfl rfl<|Aa 0 rfl (Af rfl) gn rfl<|Aa 1 rfl (Af rfl) gn rfl<|Ah 2 rfl<|Ag rfl<|Ac rfl rfl<|Aa 0 rfl (Af rfl) gn rfl<|Ah 1 rfl<|Ag rfl<|Ac rfl rfl<|Aa 0 rfl (Af rfl) gn rfl ?_
 refine Ah 1 rfl<|Ag rfl<|Bv rfl<|Ei rfl ?_
 have key1:∀ s,Ar (fun (s:(List Ak) × Int) o=>Dv x1 s.1 s.2 o) s r→(fun (s:(List Ak) × Int)=>∀ (A49:Option Addr) (n50:Nat) (c51:Nat) (h52:Ow w.heap.size A49 n50 c51 s.1) (cs53:List Value) (sw54:World) (sb55:List (List Nat)) (hC56:Cells C9 (Sm w.heap.size F sw54 sb55).w (Sm w.heap.size F sw54 sb55).av s.1 cs53),G (Pm w F r) [.code Xey,.inLoop Xey,.inBlock 0,.code q66c8] [(0,.slice A2 n3 c4),(4,.slice A49 n50 c51),(5,.int .i64 s.2)] [.own (.slice A49 n50 c51) 118 9 n50 cs53] [Sm w.heap.size F sw54 sb55,Sm w.heap.size F w [],St w []]) s:=by
  intro s hs
  refine Ar.ind (mot:=(fun (s:(List Ak) × Int)=>∀ (A49:Option Addr) (n50:Nat) (c51:Nat) (h52:Ow w.heap.size A49 n50 c51 s.1) (cs53:List Value) (sw54:World) (sb55:List (List Nat)) (hC56:Cells C9 (Sm w.heap.size F sw54 sb55).w (Sm w.heap.size F sw54 sb55).av s.1 cs53),G (Pm w F r) [.code Xey,.inLoop Xey,.inBlock 0,.code q66c8] [(0,.slice A2 n3 c4),(4,.slice A49 n50 c51),(5,.int .i64 s.2)] [.own (.slice A49 n50 c51) 118 9 n50 cs53] [Sm w.heap.size F sw54 sb55,Sm w.heap.size F w [],St w []])) ?_ hs
  clear hs s
  intro s o1 h hO1
  obtain ⟨x48,x57⟩:=s
  show ∀ (A49:Option Addr) (n50:Nat) (c51:Nat) (h52:Ow w.heap.size A49 n50 c51 x48) (cs53:List Value) (sw54:World) (sb55:List (List Nat)) (hC56:Cells C9 (Sm w.heap.size F sw54 sb55).w (Sm w.heap.size F sw54 sb55).av x48 cs53),G (Pm w F r) [.code Xey,.inLoop Xey,.inBlock 0,.code q66c8] [(0,.slice A2 n3 c4),(4,.slice A49 n50 c51),(5,.int .i64 x57)] [.own (.slice A49 n50 c51) 118 9 n50 cs53] [Sm w.heap.size F sw54 sb55,Sm w.heap.size F w [],St w []]
  intro A49 n50 c51 h52 cs53 sw54 sb55 hC56
  have h:Dv x1 x48 x57 o1:=h
  unfold Dv at h
  refine Ag rfl<|Ag rfl<|Ac rfl rfl<|Aa 0 rfl (Ae rfl) gn rfl<|Aa 1 rfl (Ae rfl) gn rfl<|Aa 2 rfl (D5 V3 rfl h5.hq) gn rfl<|Aa 3 rfl (Ba rfl rfl rfl) gn rfl<|Ah 4 rfl ?_
  by_cases hp98:x57 < (x1.length:Int)
  ·have h:=Ap hp98 h
   refine Bi rfl _ rfl ((decide_eq_true hp98))<|Bo rfl<|Bv rfl<|Ag rfl<|Ac rfl rfl<|Aa 0 rfl (Ae rfl) gn rfl<|Aa 1 rfl (Ae rfl) gn rfl ?_
   obtain ⟨r102,hv103,h⟩:=h
   refine Ci 2 rfl (D7 [.slice A2 n3 c4,.int .i64 x57] rfl Tryd.func93 rfl rfl rfl fun w99 hL100=>?_) gn
   have hp101:=pmI hL100 .n (.c 0 rfl .n) (by kernel_rfl)
   refine Calls.mono (Xa3 w99 (Fl ([]:List Cc)) x1 x57 A2 n3 c4 (Rw.mono h5 (hL100.toSt hp101 (me 2 rfl))) (hL100.hFl hp101 (Bf [] rfl)) (hL100.into hp101 _) r102 hv103) ?_
   rintro _ w111 ⟨A104,n105,c106,cs109,rfl,hM112,h107,hC110⟩
   obtain ⟨sb115,hL113,hv114⟩:=hL100.callB (Sl:=([]:List Cc)) hp101 hM112 F (Bf [] rfl) trivial
   have hC110:Cells C9 (Sm w.heap.size F w111 sb115).w (Sm w.heap.size F w111 sb115).av r102.1.kids cs109:=Cells.mono hv114 hC110
   refine ⟨_,_,_,rfl,hL113,?_⟩
   refine Aa 3 rfl (Ae rfl) gn rfl<|Aa 4 rfl (Il rfl rfl) gn rfl<|Aa 5 rfl (Il rfl rfl) gn rfl<|Aa 6 rfl (Il rfl rfl) gn rfl ?_
   refine Ci 7 rfl (G9 [.string (⟨#[]⟩:ByteArray),.bool false,.string (⟨#[]⟩:ByteArray),.int .i64 0,.int .i64 0,.int .i64 0,.int .i64 0,.slice none 0 0,.int .i64 0] Xb4 rfl fun gb116=>?_) gn
   refine Ci 8 rfl (I9 (vs:=[.string r102.1.node.name,.bool r102.1.node.named,.string r102.1.node.field,.int .i64 r102.1.node.from_,.int .i64 r102.1.node.to,.int .i64 r102.1.node.kids,.int .i64 r102.1.node.leaf,.slice A104 n105 c106,.int .i64 r102.1.at_]) (cs':=[.string r102.1.node.name,.bool r102.1.node.named,.string r102.1.node.field,.int .i64 r102.1.node.from_,.int .i64 r102.1.node.to,.int .i64 r102.1.node.kids,.int .i64 r102.1.node.leaf,.slice A104 n105 c106,.int .i64 r102.1.at_]) (M':=[.box gb116 118 [.string r102.1.node.name,.bool r102.1.node.named,.string r102.1.node.field,.int .i64 r102.1.node.from_,.int .i64 r102.1.node.to,.int .i64 r102.1.node.kids,.int .i64 r102.1.node.leaf,.slice A104 n105 c106,.int .i64 r102.1.at_],.own (.slice A104 n105 c106) 118 9 n105 cs109,.own (.slice A49 n50 c51) 118 9 n50 cs53]) 0 Y3 rfl rfl rfl rfl rfl rfl rfl rfl rfl ?_) gn
   refine Aa 9 rfl (Af rfl) gn rfl<|Aa 10 rfl (Af rfl) gn rfl<|Ah 11 rfl<|Ag rfl<|Ag rfl<|Ac rfl rfl<|Aa 0 rfl (Ae rfl) gn rfl<|Aa 1 rfl (Oi rfl) gn rfl<|Ah 2 rfl ?_
   by_cases hp118:r102.2.2=true
   ·have h:=Ap hp118 h
    refine Bc rfl _ rfl ((nf hp118))<|Bo rfl<|Ag rfl<|Ac rfl rfl<|Aa 0 rfl (Ae rfl) gn rfl<|Aa 1 rfl (Ji [.string r102.1.node.name,.bool r102.1.node.named,.string r102.1.node.field,.int .i64 r102.1.node.from_,.int .i64 r102.1.node.to,.int .i64 r102.1.node.kids,.int .i64 r102.1.node.leaf,.slice A104 n105 c106,.int .i64 r102.1.at_] 0 Yv rfl rfl rfl rfl) gn rfl ?_
    refine Xdp (F:=F) (dk:=C9) (Sm w.heap.size F w111 sb115) 1 rfl (Ow.weak hL100.env.size h107) (me 0 rfl) Sm.ok hC110 fun sw120 sb121 h119=>?_
    have hC123:Cells C9 (Sm w.heap.size F sw120 sb121).w (Sm w.heap.size F sw120 sb121).av ([r102.1]:List Ak) [.string r102.1.node.name,.bool r102.1.node.named,.string r102.1.node.field,.int .i64 r102.1.node.from_,.int .i64 r102.1.node.to,.int .i64 r102.1.node.kids,.int .i64 r102.1.node.leaf,.slice A104 n105 c106,.int .i64 r102.1.at_]:=(Cells.cons (c1:=[.string r102.1.node.name,.bool r102.1.node.named,.string r102.1.node.field,.int .i64 r102.1.node.from_,.int .i64 r102.1.node.to,.int .i64 r102.1.node.kids,.int .i64 r102.1.node.leaf,.slice A104 n105 c106,.int .i64 r102.1.at_]) (Wh ⟨A104,n105,c106,rfl,h119⟩) Cells.nil)
    refine Ci 2 rfl (Io (xs:=([r102.1]:List Ak)) [.string r102.1.node.name,.bool r102.1.node.named,.string r102.1.node.field,.int .i64 r102.1.node.from_,.int .i64 r102.1.node.to,.int .i64 r102.1.node.kids,.int .i64 r102.1.node.leaf,.slice A104 n105 c106,.int .i64 r102.1.at_] Xl8 rfl (by kernel_rfl) rfl rfl rfl rfl fun gb124 h125=>?_) gn
    obtain ⟨x132,hv133,h⟩:=h
    obtain ⟨hb134,h⟩:=h
    refine Xka (F:=F) fun sw129 sb130 ho131=>?_
    obtain ⟨cs135,hc136⟩:∃ x:List Value,x=cs53++[.string r102.1.node.name,.bool r102.1.node.named,.string r102.1.node.field,.int .i64 r102.1.node.from_,.int .i64 r102.1.node.to,.int .i64 r102.1.node.kids,.int .i64 r102.1.node.leaf,.slice A104 n105 c106,.int .i64 r102.1.at_]:=⟨_,rfl⟩
    have hC137:Cells C9 (Sm w.heap.size F sw129 sb130).w (Sm w.heap.size F sw129 sb130).av x132 cs135:=by rw [hv133,hc136]; exact Cells.app (Cells.older (s:=Sm w.heap.size F sw54 sb55) hC56 (ho131 _ (me 2 rfl) Sm.ok)) (Cells.older (s:=Sm w.heap.size F sw120 sb121) hC123 (ho131 _ (me 0 rfl) Sm.ok))
    refine Ci 3 rfl (Pn (zs:=x132) 2 ap_96 rfl rfl rfl h52 (Nat.le_refl _) (Src.ownAll 0 rfl h125 hC123) hc136.symm (H9 hv133 h125.hq) hb134 rfl rfl fun A126 c127 h128=>?_) gn
    refine Aa 4 rfl (Af rfl) gn rfl<|Ah 5 rfl<|Ac rfl rfl<|Aa 0 rfl (Ae rfl) gn rfl<|Aa 1 rfl (Af rfl) gn rfl<|Ah 2 rfl<|Bj<|Cm ?_
    have ih:=Out.inl hO1 h
    exact D6 [0,4,5] (ih A126 (n50 + 1) c127 h128 cs135 sw129 sb130 hC137) ⟨rfl,rfl,rfl,trivial⟩ (.cons _ (.cons _ (.cons_cons _ (.slnil)))) rfl
   ·have h:=Am hp118 h
    refine Bi rfl _ rfl ((nt (bf hp118)))<|Ag rfl<|Ac rfl rfl<|Aa 0 rfl (Af rfl) gn rfl<|Aa 1 rfl (Af rfl) gn rfl<|Ah 2 rfl<|Td 118 9 ?_
    have h:=Out.inr hO1 h
    refine Bg [.slice none 0 0,.bool false] rfl Tryd.func66 rfl (.tmp rfl (.tmp rfl (.nil))) fun wr hLr=>?_
    have hMr:=hLr.pkI (.c 0 rfl .n) (.c 1 rfl (.c 2 rfl (.c 3 rfl .n))) (by kernel_rfl) (.c 3 rfl .n)
    have hMi:=hLr.selI (.c 0 rfl .n)
    show Pg w F  r (.returned (Bz [.slice none 0 0,.bool false])) wr
    rw [h]
    exact ⟨none,0,0,[],rfl,hMr,(Ow.nil (z:=w.heap.size)),(hLr.outC (s:=Sm w.heap.size F w []) hMi (me 2 rfl) Sm.ok Cells.nil)⟩
  ·have h:=Am hp98 h
   refine Bc rfl _ rfl ((decide_eq_false hp98))<|E8 [.code q66c8] rfl rfl<|Ag rfl<|Ac rfl rfl<|Aa 0 rfl (Ae rfl) gn rfl<|Aa 1 rfl (Af rfl) gn rfl<|Aa 2 rfl (Af rfl) gn rfl<|Ah 3 rfl ?_
   have h:=Out.inr hO1 h
   refine Bg [.slice A49 n50 c51,.bool true] rfl Tryd.func66 rfl (.tmp rfl (.tmp rfl (.nil))) fun wr hLr=>?_
   have hMr:=hLr.pkI (.c 0 rfl .n) .n (by kernel_rfl) (.c 2 rfl .n)
   have hMi:=hLr.selI (.c 0 rfl .n)
   show Pg w F  r (.returned (Bz [.slice A49 n50 c51,.bool true])) wr
   rw [h]
   exact ⟨A49,n50,c51,cs53,rfl,hMr,h52,(hLr.outC (s:=Sm w.heap.size F sw54 sb55) hMi (me 0 rfl) Sm.ok hC56)⟩
 refine Td 118 9 ?_
 exact D6 [0,0,1] (key1 _ h none 0 0 (Ow.nil (z:=w.heap.size)) [] w [] Cells.nil) ⟨rfl,rfl,rfl,trivial⟩ (.cons_cons _ (.slnil)) rfl
abbrev Qg (w:World) (F:Nat→Prop) (r:Int):Ending→World→Prop:=fun e w'=>e=.returned (.int .i64 r)∧B.Loc w w' [] [St w []]
noncomputable abbrev Xbe (w:World) (F:Nat→Prop) (r:Int):Cx:=⟨Tryd.prog,37,Tryd.f37,14,Qg w F  r,w⟩
theorem Zk (w:World) (F:Nat→Prop) (x1:List Ai) (A2:Option Addr) (n3:Nat) (c4:Nat) (h5:Rw D9 w (St w []).av A2 n3 c4 x1) (hF:∀ b,F b→b < w.heap.size∧∀ o ∈ ([]:List (List Nat)),b ∉ o) (hL0:B.Loc w w [] [Sm w.heap.size F w [],St w []]) (r:Int) (h:Ot x1 r):Calls Tryd.prog 37 #[.slice A2 n3 c4] w (Qg w F  r):=by
 unfold Ot at h
 refine Bl (vs:=[.slice A2 n3 c4]) 14 Tryd.func37 rfl Tryd.ntmps37 rfl hL0 ?_
 show G (Xbe w F r) _ _ _ _
 refine Ag rfl<|Ac rfl rfl<|Aa 0 rfl (Af rfl) gn rfl<|Ah 1 rfl<|Ag rfl<|Ac rfl rfl<|Aa 0 rfl (Ae rfl) gn rfl ?_
 obtain ⟨r9,hv10,h⟩:=h
 refine Ci 1 rfl (D7 [.slice A2 n3 c4] rfl Tryd.func66 rfl rfl rfl fun w6 hL7=>?_) gn
 have hp8:=pmI hL7 .n .n (by kernel_rfl)
 refine Calls.mono (Uz w6 (Fl ([]:List Cc)) x1 A2 n3 c4 (Rw.mono h5 (hL7.toSt hp8 (me 1 rfl))) (hL7.hFl hp8 (Bf [] rfl)) (hL7.into hp8 _) r9 hv10) ?_
 rintro _ w18 ⟨A11,n12,c13,cs16,rfl,hM19,h14,hC17⟩
 obtain ⟨sb22,hL20,hv21⟩:=hL7.callB (Sl:=([]:List Cc)) hp8 hM19 F (Bf [] rfl) trivial
 have hC17:Cells C9 (Sm w.heap.size F w18 sb22).w (Sm w.heap.size F w18 sb22).av r9.1 cs16:=Cells.mono hv21 hC17
 refine ⟨_,_,_,rfl,hL20,?_⟩
 refine Aa 2 rfl (Ae rfl) gn rfl<|Aa 3 rfl (Il rfl rfl) gn rfl<|Aa 4 rfl (Il rfl rfl) gn rfl<|Aa 5 rfl (Af rfl) gn rfl<|Aa 6 rfl (Af rfl) gn rfl<|Ah 7 rfl<|Ag rfl<|Ag rfl<|Ac rfl rfl<|Aa 0 rfl (Ae rfl) gn rfl<|Aa 1 rfl (Oi rfl) gn rfl<|Ah 2 rfl ?_
 by_cases hp23:r9.2=true
 ·have h:=Ap hp23 h
  refine Bc rfl _ rfl ((nf hp23))<|Bo rfl<|Ag rfl<|Ac rfl rfl<|Aa 0 rfl (Ae rfl) gn rfl<|Aa 1 rfl (D5 un_96 rfl (Ow.weak hL7.env.size h14).hq) gn rfl<|Aa 2 rfl (Af rfl) gn rfl<|Ah 3 rfl ?_
  refine Bg [.int .i64 (r9.1.length:Int)] rfl Tryd.func37 rfl (.tmp rfl (.nil)) fun wr hLr=>?_
  have hMr:=hLr.pk0 (.c 2 rfl .n)
  show Qg w F  r (.returned (Bz [.int .i64 (r9.1.length:Int)])) wr
  rw [h]
  exact ⟨rfl,hMr⟩
 ·have h:=Am hp23 h
  refine Bi rfl _ rfl ((nt (bf hp23)))<|Ag rfl<|Ac rfl rfl<|Aa 0 rfl (Af rfl) gn rfl<|Ah 1 rfl ?_
  refine Bg [.int .i64 (-1)] rfl Tryd.func37 rfl (.tmp rfl (.nil)) fun wr hLr=>?_
  have hMr:=hLr.pk0 (.c 2 rfl .n)
  show Qg w F  r (.returned (Bz [.int .i64 (-1)])) wr
  rw [h]
  exact ⟨rfl,hMr⟩
noncomputable abbrev q67c4:=Code.snd (Code.snd (Df Tryd.f67))
noncomputable abbrev q67c6:=Code.snd (Code.fst (Code.snd (Df Tryd.f67)))
abbrev Ha (w:World) (F:Nat→Prop) (r:Bool):Ending→World→Prop:=fun e w'=>e=.returned (.bool r)∧B.Loc w w' [] [St w []]
noncomputable abbrev Xu (w:World) (F:Nat→Prop) (r:Bool):Cx:=⟨Tryd.prog,67,Tryd.f67,41,Ha w F  r,w⟩
theorem Zm (w:World) (F:Nat→Prop) (x1:Aj) (x2:Ai) (hF:∀ b,F b→b < w.heap.size∧∀ o ∈ ([]:List (List Nat)),b ∉ o) (hL0:B.Loc w w [] [Sm w.heap.size F w [],St w []]) (r:Bool) (h:Om x1 x2 r):Calls Tryd.prog 67 #[.agg #[.string x1.name,.bool x1.lit,.string x1.field,.string x1.capture,.int .i64 x1.kids],.agg #[.string x2.name,.bool x2.named,.string x2.field,.int .i64 x2.from_,.int .i64 x2.to,.int .i64 x2.kids,.int .i64 x2.leaf]] w (Ha w F  r):=by
 unfold Om at h
 refine Bl (vs:=[.agg #[.string x1.name,.bool x1.lit,.string x1.field,.string x1.capture,.int .i64 x1.kids],.agg #[.string x2.name,.bool x2.named,.string x2.field,.int .i64 x2.from_,.int .i64 x2.to,.int .i64 x2.kids,.int .i64 x2.leaf]]) 41 Tryd.func67 rfl Tryd.ntmps67 rfl hL0 ?_
 show G (Xu w F r) _ _ _ _
 refine Ag rfl<|Ac rfl rfl ?_
 refine Ci 0 rfl (O3 [.string x1.name,.bool x1.lit,.string x1.field,.string x1.capture,.int .i64 x1.kids] rfl rfl rfl fun gb3=>?_) gn
 refine Ci 1 rfl (O3 [.string x2.name,.bool x2.named,.string x2.field,.int .i64 x2.from_,.int .i64 x2.to,.int .i64 x2.kids,.int .i64 x2.leaf] rfl rfl rfl fun gb5=>?_) gn
 refine Aa 2 rfl (Af rfl) gn rfl<|Ah 3 rfl<|Ag rfl<|Ag rfl ?_
 have j1:∀ (x9:Bool) (h:J8 x1 x2 x9 r) ,G (Xu w F r) [.code q67c6,.code q67c4] [(2,.pointer (some ⟨gb3,0,none⟩)),(3,.pointer (some ⟨gb5,0,none⟩)),(14,.bool x9)] [.box gb5 56 [.string x2.name,.bool x2.named,.string x2.field,.int .i64 x2.from_,.int .i64 x2.to,.int .i64 x2.kids,.int .i64 x2.leaf],.box gb3 45 [.string x1.name,.bool x1.lit,.string x1.field,.string x1.capture,.int .i64 x1.kids]] [Sm w.heap.size F w [],St w []]:=by
  intro x9 h
  unfold J8 at h
  by_cases hp10:x9=true
  ·have h:=Ap hp10 h
   refine Bi rfl _ rfl (hp10)<|Ag rfl<|Ac rfl rfl<|Aa 0 rfl (Af rfl) gn rfl<|Ah 1 rfl ?_
   refine Bg [.bool false] rfl Tryd.func67 rfl (.tmp rfl (.nil)) fun wr hLr=>?_
   have hMr:=hLr.pk0 (.c 1 rfl .n)
   show Ha w F  r (.returned (Bz [.bool false])) wr
   rw [h]
   exact ⟨rfl,hMr⟩
  ·have h:=Am hp10 h
   refine Bc rfl _ rfl ((bf hp10))<|Bo rfl<|Ag rfl<|Ag rfl<|Ac rfl rfl<|Aa 0 rfl (Bd Ye rfl) gn rfl<|Aa 1 rfl (Au 1 Xao rfl rfl rfl) gn rfl<|Ah 2 rfl ?_
   by_cases hp11:x1.lit=true
   ·have h:=Ap hp11 h
    refine Bi rfl _ rfl (hp11)<|Ag rfl<|Ac rfl rfl<|Aa 0 rfl (Bd Xfi rfl) gn rfl<|Aa 1 rfl (Au 0 Xao rfl rfl rfl) gn rfl<|Aa 2 rfl (Oi rfl) gn rfl<|Aa 3 rfl (Ae rfl) gn rfl ?_
    by_cases hp12:x2.named=true
    ·have h:=Ap hp12 h
     refine Bh 20 rfl ((nf hp12))<|Ad 4 rfl (ps 20 rfl rfl rfl)<|Ad 5 rfl (ps 20 rfl rfl rfl)<|Ad 6 rfl (ps 20 rfl rfl rfl)<|Ad 7 rfl (ps 20 rfl rfl rfl)<|Ad 8 rfl (ps 20 rfl rfl rfl)<|Aa 9 rfl (Aw (b:=false) rfl rfl) gn rfl<|Aa 10 rfl (Af rfl) gn rfl<|Ah 11 rfl ?_
     refine Bg [.bool false] rfl Tryd.func67 rfl (.tmp rfl (.nil)) fun wr hLr=>?_
     have hMr:=hLr.pk0 (.c 1 rfl .n)
     show Ha w F  r (.returned (Bz [.bool false])) wr
     rw [h]
     exact ⟨rfl,hMr⟩
    ·have h:=Am hp12 h
     refine Bh 20 rfl ((nt (bf hp12)))<|Aa 4 rfl (Bd Xbq rfl) (gy 20 rfl rfl) rfl<|Aa 5 rfl (Au 0 Gw rfl rfl rfl) (gy 20 rfl rfl) rfl<|Aa 6 rfl (Bd U1 rfl) (gy 20 rfl rfl) rfl<|Aa 7 rfl (Au 1 Gw rfl rfl rfl) (gy 20 rfl rfl) rfl<|Aa 8 rfl (Yp rfl rfl) (gy 20 rfl rfl) rfl<|Aa 9 rfl (Aw (b:=true) rfl rfl) gn rfl<|Aa 10 rfl (Af rfl) gn rfl<|Ah 11 rfl ?_
     refine Bg [.bool (seq x2.name x1.name)] rfl Tryd.func67 rfl (.tmp rfl (.nil)) fun wr hLr=>?_
     have hMr:=hLr.pk0 (.c 1 rfl .n)
     show Ha w F  r (.returned (Bz [.bool (seq x2.name x1.name)])) wr
     rw [h]
     exact ⟨rfl,hMr⟩
   ·have h:=Am hp11 h
    refine Bc rfl _ rfl ((bf hp11))<|Bo rfl<|Ag rfl<|Ac rfl rfl<|Aa 0 rfl (Bd U1 rfl) gn rfl<|Aa 1 rfl (Au 1 Gw rfl rfl rfl) gn rfl<|Aa 2 rfl (Yp rfl rfl) gn rfl<|Aa 3 rfl (Ae rfl) gn rfl ?_
    by_cases hp13:x1.name=(⟨#[]⟩:ByteArray)
    ·have h:=Ap hp13 h
     refine Bh 30 rfl ((Ox hp13))<|Ad 4 rfl (ps 30 rfl rfl rfl)<|Ad 5 rfl (ps 30 rfl rfl rfl)<|Ad 6 rfl (ps 30 rfl rfl rfl)<|Ad 7 rfl (pu 33 rfl rfl)<|Ad 8 rfl (pu 33 rfl rfl)<|Ad 9 rfl (pu 33 rfl rfl)<|Ad 10 rfl (pu 33 rfl rfl)<|Ad 11 rfl (pu 33 rfl rfl)<|Ad 12 rfl (ps 30 rfl rfl rfl)<|Aa 13 rfl (Aw (b:=true) rfl rfl) gn rfl<|Aa 14 rfl (Af rfl) gn rfl ?_
     refine Ah 15 rfl ?_
     refine Bg [.bool true] rfl Tryd.func67 rfl (.tmp rfl (.nil)) fun wr hLr=>?_
     have hMr:=hLr.pk0 (.c 1 rfl .n)
     show Ha w F  r (.returned (Bz [.bool true])) wr
     rw [h]
     exact ⟨rfl,hMr⟩
    ·have h:=Am hp13 h
     refine Bh 30 rfl ((Oo hp13))<|Aa 4 rfl (Bd Xfi rfl) (gy 30 rfl rfl) rfl<|Aa 5 rfl (Au 0 Xao rfl rfl rfl) (gy 30 rfl rfl) rfl<|Aa 6 rfl (Ae rfl) (gy 30 rfl rfl) rfl ?_
     by_cases hp14:x2.named=true
     ·have h:=Ap hp14 h
      refine Bh 33 rfl (hp14)<|Aa 7 rfl (Bd Xbq rfl) (gy 33 rfl rfl) rfl<|Aa 8 rfl (Au 0 Gw rfl rfl rfl) (gy 33 rfl rfl) rfl<|Aa 9 rfl (Bd U1 rfl) (gy 33 rfl rfl) rfl<|Aa 10 rfl (Au 1 Gw rfl rfl rfl) (gy 33 rfl rfl) rfl<|Aa 11 rfl (Yp rfl rfl) (gy 33 rfl rfl) rfl<|Aa 12 rfl (Aw (b:=true) rfl rfl) (gy 30 rfl rfl) rfl<|Aa 13 rfl (Aw (b:=false) rfl rfl) gn rfl<|Aa 14 rfl (Af rfl) gn rfl<|Ah 15 rfl ?_
      refine Bg [.bool (seq x2.name x1.name)] rfl Tryd.func67 rfl (.tmp rfl (.nil)) fun wr hLr=>?_
      have hMr:=hLr.pk0 (.c 1 rfl .n)
      show Ha w F  r (.returned (Bz [.bool (seq x2.name x1.name)])) wr
      rw [h]
      exact ⟨rfl,hMr⟩
     ·have h:=Am hp14 h
      refine Bh 33 rfl ((bf hp14))<|Ad 7 rfl (ps 33 rfl rfl rfl)<|Ad 8 rfl (ps 33 rfl rfl rfl)<|Ad 9 rfl (ps 33 rfl rfl rfl)<|Ad 10 rfl (ps 33 rfl rfl rfl)<|Ad 11 rfl (ps 33 rfl rfl rfl)<|Aa 12 rfl (Aw (b:=false) rfl rfl) (gy 30 rfl rfl) rfl<|Aa 13 rfl (Aw (b:=false) rfl rfl) gn rfl<|Aa 14 rfl (Af rfl) gn rfl<|Ah 15 rfl ?_
      refine Bg [.bool false] rfl Tryd.func67 rfl (.tmp rfl (.nil)) fun wr hLr=>?_
      have hMr:=hLr.pk0 (.c 1 rfl .n)
      show Ha w F  r (.returned (Bz [.bool false])) wr
      rw [h]
      exact ⟨rfl,hMr⟩
 refine Ac rfl rfl<|Aa 0 rfl (Bd Uo rfl) gn rfl<|Aa 1 rfl (Au 1 Gw rfl rfl rfl) gn rfl<|Aa 2 rfl (Rt rfl rfl) gn rfl<|Aa 3 rfl (Ae rfl) gn rfl ?_
 by_cases hp15:x1.field=(⟨#[]⟩:ByteArray)
 ·have h:=Ap hp15 h
  refine Bh 8 rfl ((nf (Ox hp15)))<|Ad 4 rfl (ps 8 rfl rfl rfl)<|Ad 5 rfl (ps 8 rfl rfl rfl)<|Ad 6 rfl (ps 8 rfl rfl rfl)<|Ad 7 rfl (ps 8 rfl rfl rfl)<|Ad 8 rfl (ps 8 rfl rfl rfl)<|Aa 9 rfl (Aw (b:=false) rfl rfl) gn rfl<|Ah 10 rfl ?_
  exact D6 [0,1] (j1 false h) ⟨rfl,rfl,rfl,trivial⟩ (.cons_cons _ (.cons_cons _ (.slnil))) rfl
 ·have h:=Am hp15 h
  refine Bh 8 rfl ((nt (Oo hp15)))<|Aa 4 rfl (Bd Uo rfl) (gy 8 rfl rfl) rfl<|Aa 5 rfl (Au 1 Gw rfl rfl rfl) (gy 8 rfl rfl) rfl<|Aa 6 rfl (Bd Xfj rfl) (gy 8 rfl rfl) rfl<|Aa 7 rfl (Au 0 Gw rfl rfl rfl) (gy 8 rfl rfl) rfl<|Aa 8 rfl (Rt rfl rfl) (gy 8 rfl rfl) rfl<|Aa 9 rfl (Aw (b:=true) rfl rfl) gn rfl<|Ah 10 rfl ?_
  exact D6 [0,1] (j1 (!(seq x1.field x2.field)) h) ⟨rfl,rfl,rfl,trivial⟩ (.cons_cons _ (.cons_cons _ (.slnil))) rfl
noncomputable abbrev Xj5:=Code.snd (Code.snd (Df Tryd.f94))
noncomputable abbrev Xc6:=Code.fst (Code.fst (Code.snd (Code.fst (Code.snd (Df Tryd.f94)))))
noncomputable abbrev q94c16:=Code.snd (Code.snd Xc6)
noncomputable abbrev q94c26:=Code.fst (Code.snd (Code.fst (Code.fst (Code.snd Xc6))))
noncomputable abbrev q94c27:=Code.snd (Code.snd (Code.fst (Code.fst (Code.snd Xc6))))
abbrev Kw (w:World) (F:Nat→Prop) (r:Ak × Int × Bool):Ending→World→Prop:=fun e w'=>∃ A0:Option Addr,∃ n0:Nat,∃ c0:Nat,e=.returned (.tuple #[.agg #[.string r.1.node.name,.bool r.1.node.named,.string r.1.node.field,.int .i64 r.1.node.from_,.int .i64 r.1.node.to,.int .i64 r.1.node.kids,.int .i64 r.1.node.leaf,.slice A0 n0 c0,.int .i64 r.1.at_],.int .i64 r.2.1,.bool r.2.2])∧B.Loc w w' [] [St w []]∧Rw C9 w' (Nw w w' F []) A0 n0 c0 r.1.kids
noncomputable abbrev O8 (w:World) (F:Nat→Prop) (r:Ak × Int × Bool):Cx:=⟨Tryd.prog,94,Tryd.f94,51,Kw w F  r,w⟩
def Ub (rl:(List Ak)→Int→Int→(Ak × Int × Bool)→Prop):Prop:=∀ (w:World) (F:Nat→Prop) (x1:List Ak) (x6:Int) (x7:Int) (A2:Option Addr) (n3:Nat) (c4:Nat) (h5:Rw C9 w F A2 n3 c4 x1) (hF:∀ b,F b→b < w.heap.size∧∀ o ∈ ([]:List (List Nat)),b ∉ o) (hL0:B.Loc w w [] [Sm w.heap.size F w [],St w []]) (r:Ak × Int × Bool) (h:rl x1 x6 x7 r),Calls Tryd.prog 94 #[.slice A2 n3 c4,.int .i64 x6,.int .i64 x7] w (Kw w F  r)
theorem Xah (rc_trellisref15_find:(List Ak)→Int→Int→(Ak × Int × Bool)→Prop) (ih_trellisref15_find:Ub rc_trellisref15_find):Ub (Fg rc_trellisref15_find):=by
 intro w F x1 x6 x7 A2 n3 c4 h5 hF hL0 r h
 unfold Fg at h
 have h5:=Rw.into (bs:=[]) hF h5
 refine Bl (vs:=[.slice A2 n3 c4,.int .i64 x6,.int .i64 x7]) 51 Tryd.func94 rfl Tryd.ntmps94 rfl hL0 ?_
 show G (O8 w F r) _ _ _ _
 refine Ag rfl<|Ac rfl rfl ?_
 refine Ci 0 rfl (G9 [.string (⟨#[]⟩:ByteArray),.bool false,.string (⟨#[]⟩:ByteArray),.int .i64 0,.int .i64 0,.int .i64 0,.int .i64 0,.slice none 0 0,.int .i64 0] Xb4 rfl fun gb8=>?_) gn
 refine Aa 1 rfl (Af rfl) gn rfl<|Aa 2 rfl (Af rfl) gn rfl<|Ah 3 rfl<|Ag rfl<|Ag rfl<|Ac rfl rfl<|Aa 0 rfl (Af rfl) gn rfl<|Ah 1 rfl<|Bv rfl<|Ei rfl ?_
 have key1:∀ s,Ar (fun (s:Int) o=>Em x1 x6 x7 rc_trellisref15_find s o) s r→(fun (s:Int)=>∀ (_:Unit),G (O8 w F r) [.code Xc6,.inLoop Xc6,.inBlock 0,.code Xj5] [(0,.slice A2 n3 c4),(1,.int .i64 x6),(2,.int .i64 x7),(6,.pointer (some ⟨gb8,0,none⟩)),(9,.int .i64 s)] [.box gb8 118 [.string (⟨#[]⟩:ByteArray),.bool false,.string (⟨#[]⟩:ByteArray),.int .i64 0,.int .i64 0,.int .i64 0,.int .i64 0,.slice none 0 0,.int .i64 0]] [Sm w.heap.size F w [],St w []]) s:=by
  intro s hs
  refine Ar.ind (mot:=(fun (s:Int)=>∀ (_:Unit),G (O8 w F r) [.code Xc6,.inLoop Xc6,.inBlock 0,.code Xj5] [(0,.slice A2 n3 c4),(1,.int .i64 x6),(2,.int .i64 x7),(6,.pointer (some ⟨gb8,0,none⟩)),(9,.int .i64 s)] [.box gb8 118 [.string (⟨#[]⟩:ByteArray),.bool false,.string (⟨#[]⟩:ByteArray),.int .i64 0,.int .i64 0,.int .i64 0,.int .i64 0,.slice none 0 0,.int .i64 0]] [Sm w.heap.size F w [],St w []])) ?_ hs
  clear hs s
  intro x199 o1 h hO1
  show ∀ (_:Unit),G (O8 w F r) [.code Xc6,.inLoop Xc6,.inBlock 0,.code Xj5] [(0,.slice A2 n3 c4),(1,.int .i64 x6),(2,.int .i64 x7),(6,.pointer (some ⟨gb8,0,none⟩)),(9,.int .i64 x199)] [.box gb8 118 [.string (⟨#[]⟩:ByteArray),.bool false,.string (⟨#[]⟩:ByteArray),.int .i64 0,.int .i64 0,.int .i64 0,.int .i64 0,.slice none 0 0,.int .i64 0]] [Sm w.heap.size F w [],St w []]
  intro _
  have h:Em x1 x6 x7 rc_trellisref15_find x199 o1:=h
  unfold Em at h
  refine Ag rfl<|Ag rfl<|Ac rfl rfl<|Aa 0 rfl (Ae rfl) gn rfl<|Aa 1 rfl (Ae rfl) gn rfl<|Aa 2 rfl (D5 un_96 rfl h5.hq) gn rfl<|Aa 3 rfl (Ba rfl rfl rfl) gn rfl<|Ah 4 rfl ?_
  by_cases hp388:x199 < (x1.length:Int)
  ·have h:=Ap hp388 h
   refine Bi rfl _ rfl ((decide_eq_true hp388))<|Bo rfl<|Ag rfl<|Bv rfl<|Ag rfl<|Ag rfl<|Ac rfl rfl<|Aa 0 rfl (Ae rfl) gn rfl<|Aa 1 rfl (Ae rfl) gn rfl ?_
   obtain ⟨hb389,h⟩:=h
   obtain ⟨ce391,hK392,hr390⟩:=Rw.read (s:=Sm w.heap.size F w []) h5 hb389
   obtain ⟨A393,n394,c395,rfl,h396⟩:=Jl hK392
   refine Aa 2 rfl (Ef (s:=Sm w.heap.size F w []) Xfw rfl rfl h5 hb389) gn rfl<|Aa 3 rfl (Jq Xfo rfl) gn rfl<|Aa 4 rfl (Le (kk:=(x199:Int).toNat * 9) (j:=8) (Sm w.heap.size F w []) O9 rfl hr390 rfl (me 0 rfl)) gn rfl<|Aa 5 rfl (Ae rfl) gn rfl<|Aa 6 rfl (Ba rfl rfl rfl) gn rfl<|Ah 7 rfl ?_
   by_cases hp397:(ix x1 x199).at_=x6
   ·have h:=Ap hp397 h
    refine Bi rfl _ rfl ((eqi hp397))<|Ag rfl<|Ac rfl rfl<|Aa 0 rfl (Ae rfl) gn rfl<|Aa 1 rfl (Ae rfl) gn rfl ?_
    obtain ⟨ce399,hK400,hr398⟩:=Rw.read (s:=Sm w.heap.size F w []) h5 hb389
    obtain ⟨A401,n402,c403,rfl,h404⟩:=Jl hK400
    refine Aa 2 rfl (Ef (s:=Sm w.heap.size F w []) Xfw rfl rfl h5 hb389) gn rfl<|Aa 3 rfl (Q8 (Sm w.heap.size F w []) Yv rfl hr398 rfl (me 0 rfl)) gn rfl<|Aa 4 rfl (Ae rfl) gn rfl ?_
    refine Ci 5 rfl (I9 (vs:=[.string (((ix x1 x199).node).name),.bool (((ix x1 x199).node).named),.string (((ix x1 x199).node).field),.int .i64 (((ix x1 x199).node).from_),.int .i64 (((ix x1 x199).node).to),.int .i64 (((ix x1 x199).node).kids),.int .i64 (((ix x1 x199).node).leaf),.slice A401 n402 c403,.int .i64 ((ix x1 x199).at_)]) (cs':=[.string (((ix x1 x199).node).name),.bool (((ix x1 x199).node).named),.string (((ix x1 x199).node).field),.int .i64 (((ix x1 x199).node).from_),.int .i64 (((ix x1 x199).node).to),.int .i64 (((ix x1 x199).node).kids),.int .i64 (((ix x1 x199).node).leaf),.slice A401 n402 c403,.int .i64 ((ix x1 x199).at_)]) (M':=[.box gb8 118 [.string (((ix x1 x199).node).name),.bool (((ix x1 x199).node).named),.string (((ix x1 x199).node).field),.int .i64 (((ix x1 x199).node).from_),.int .i64 (((ix x1 x199).node).to),.int .i64 (((ix x1 x199).node).kids),.int .i64 (((ix x1 x199).node).leaf),.slice A401 n402 c403,.int .i64 ((ix x1 x199).at_)]]) 0 Y3 rfl rfl rfl rfl rfl rfl rfl rfl rfl ?_) gn
    refine Aa 6 rfl (Af rfl) gn rfl<|Aa 7 rfl (Af rfl) gn rfl<|Ah 8 rfl ?_
    have h:=Out.inr hO1 h
    refine Bg [.agg #[.string (((ix x1 x199).node).name),.bool (((ix x1 x199).node).named),.string (((ix x1 x199).node).field),.int .i64 (((ix x1 x199).node).from_),.int .i64 (((ix x1 x199).node).to),.int .i64 (((ix x1 x199).node).kids),.int .i64 (((ix x1 x199).node).leaf),.slice A401 n402 c403,.int .i64 ((ix x1 x199).at_)],.int .i64 x7,.bool true] rfl Tryd.func94 rfl (.cell (cs:=[.string (((ix x1 x199).node).name),.bool (((ix x1 x199).node).named),.string (((ix x1 x199).node).field),.int .i64 (((ix x1 x199).node).from_),.int .i64 (((ix x1 x199).node).to),.int .i64 (((ix x1 x199).node).kids),.int .i64 (((ix x1 x199).node).leaf),.slice A401 n402 c403,.int .i64 ((ix x1 x199).at_)]) (us:=[.string (((ix x1 x199).node).name),.bool (((ix x1 x199).node).named),.string (((ix x1 x199).node).field),.int .i64 (((ix x1 x199).node).from_),.int .i64 (((ix x1 x199).node).to),.int .i64 (((ix x1 x199).node).kids),.int .i64 (((ix x1 x199).node).leaf),.slice A401 n402 c403,.int .i64 ((ix x1 x199).at_)]) 0 rfl Yv rfl rfl rfl (.tmp rfl (.tmp rfl (.nil)))) fun wr hLr=>?_
    have hMr:=hLr.pk0 (.c 1 rfl .n)
    have hMi:=hLr.selI .n
    show Kw w F  r (.returned (Bz [.agg #[.string (((ix x1 x199).node).name),.bool (((ix x1 x199).node).named),.string (((ix x1 x199).node).field),.int .i64 (((ix x1 x199).node).from_),.int .i64 (((ix x1 x199).node).to),.int .i64 (((ix x1 x199).node).kids),.int .i64 (((ix x1 x199).node).leaf),.slice A401 n402 c403,.int .i64 ((ix x1 x199).at_)],.int .i64 x7,.bool true])) wr
    rw [h]
    exact ⟨A401,n402,c403,rfl,hMr,(hLr.outR (s:=Sm w.heap.size F w []) hMi (me 0 rfl) Sm.ok h404)⟩
   ·have h:=Am hp397 h
    refine Bc rfl _ rfl ((nei hp397))<|Bo rfl<|Ag rfl ?_
    obtain ⟨r422,hv423,h⟩:=h
    have d3:∀ (gb502:Nat) (A503:Option Addr) (n504:Nat) (c505:Nat) (sw506:World) (sb507:List (List Nat)) (h508:At C9 (Sm w.heap.size F sw506 sb507) A503 n504 c505 r422.1.kids),G (O8 w F r) [.code q94c27,.inBlock 1,.code q94c16,.inLoop Xc6,.inBlock 0,.code Xj5] [(0,.slice A2 n3 c4),(1,.int .i64 x6),(2,.int .i64 x7),(6,.pointer (some ⟨gb8,0,none⟩)),(9,.int .i64 x199),(10,.pointer (some ⟨gb502,0,none⟩)),(11,.int .i64 r422.2.1),(12,.bool r422.2.2)] [.box gb502 118 [.string r422.1.node.name,.bool r422.1.node.named,.string r422.1.node.field,.int .i64 r422.1.node.from_,.int .i64 r422.1.node.to,.int .i64 r422.1.node.kids,.int .i64 r422.1.node.leaf,.slice A503 n504 c505,.int .i64 r422.1.at_],.box gb8 118 [.string (⟨#[]⟩:ByteArray),.bool false,.string (⟨#[]⟩:ByteArray),.int .i64 0,.int .i64 0,.int .i64 0,.int .i64 0,.slice none 0 0,.int .i64 0]] [Sm w.heap.size F sw506 sb507,Sm w.heap.size F w [],St w []]:=by
     intro gb502 A503 n504 c505 sw506 sb507 h508
     refine Ag rfl<|Ac rfl rfl<|Aa 0 rfl (Ae rfl) gn rfl<|Ah 1 rfl ?_
     by_cases hp509:r422.2.2=true
     ·have h:=Ap hp509 h
      refine Bi rfl _ rfl (hp509)<|Ag rfl<|Ac rfl rfl<|Aa 0 rfl (Ji [.string r422.1.node.name,.bool r422.1.node.named,.string r422.1.node.field,.int .i64 r422.1.node.from_,.int .i64 r422.1.node.to,.int .i64 r422.1.node.kids,.int .i64 r422.1.node.leaf,.slice A503 n504 c505,.int .i64 r422.1.at_] 0 Yv rfl rfl rfl rfl) gn rfl<|Aa 1 rfl (Ae rfl) gn rfl ?_
      refine Ci 2 rfl (I9 (vs:=[.string r422.1.node.name,.bool r422.1.node.named,.string r422.1.node.field,.int .i64 r422.1.node.from_,.int .i64 r422.1.node.to,.int .i64 r422.1.node.kids,.int .i64 r422.1.node.leaf,.slice A503 n504 c505,.int .i64 r422.1.at_]) (cs':=[.string r422.1.node.name,.bool r422.1.node.named,.string r422.1.node.field,.int .i64 r422.1.node.from_,.int .i64 r422.1.node.to,.int .i64 r422.1.node.kids,.int .i64 r422.1.node.leaf,.slice A503 n504 c505,.int .i64 r422.1.at_]) (M':=[.box gb502 118 [.string r422.1.node.name,.bool r422.1.node.named,.string r422.1.node.field,.int .i64 r422.1.node.from_,.int .i64 r422.1.node.to,.int .i64 r422.1.node.kids,.int .i64 r422.1.node.leaf,.slice A503 n504 c505,.int .i64 r422.1.at_],.box gb8 118 [.string r422.1.node.name,.bool r422.1.node.named,.string r422.1.node.field,.int .i64 r422.1.node.from_,.int .i64 r422.1.node.to,.int .i64 r422.1.node.kids,.int .i64 r422.1.node.leaf,.slice A503 n504 c505,.int .i64 r422.1.at_]]) 1 Y3 rfl rfl rfl rfl rfl rfl rfl rfl rfl ?_) gn
      refine Aa 3 rfl (Af rfl) gn rfl<|Aa 4 rfl (Af rfl) gn rfl<|Ah 5 rfl ?_
      have h:=Out.inr hO1 h
      refine Bg [.agg #[.string r422.1.node.name,.bool r422.1.node.named,.string r422.1.node.field,.int .i64 r422.1.node.from_,.int .i64 r422.1.node.to,.int .i64 r422.1.node.kids,.int .i64 r422.1.node.leaf,.slice A503 n504 c505,.int .i64 r422.1.at_],.int .i64 r422.2.1,.bool true] rfl Tryd.func94 rfl (.cell (cs:=[.string r422.1.node.name,.bool r422.1.node.named,.string r422.1.node.field,.int .i64 r422.1.node.from_,.int .i64 r422.1.node.to,.int .i64 r422.1.node.kids,.int .i64 r422.1.node.leaf,.slice A503 n504 c505,.int .i64 r422.1.at_]) (us:=[.string r422.1.node.name,.bool r422.1.node.named,.string r422.1.node.field,.int .i64 r422.1.node.from_,.int .i64 r422.1.node.to,.int .i64 r422.1.node.kids,.int .i64 r422.1.node.leaf,.slice A503 n504 c505,.int .i64 r422.1.at_]) 1 rfl Yv rfl rfl rfl (.tmp rfl (.tmp rfl (.nil)))) fun wr hLr=>?_
      have hMr:=hLr.pk0 (.c 2 rfl .n)
      have hMi:=hLr.selI .n
      show Kw w F  r (.returned (Bz [.agg #[.string r422.1.node.name,.bool r422.1.node.named,.string r422.1.node.field,.int .i64 r422.1.node.from_,.int .i64 r422.1.node.to,.int .i64 r422.1.node.kids,.int .i64 r422.1.node.leaf,.slice A503 n504 c505,.int .i64 r422.1.at_],.int .i64 r422.2.1,.bool true])) wr
      rw [h]
      exact ⟨A503,n504,c505,rfl,hMr,(hLr.outR (s:=Sm w.heap.size F sw506 sb507) hMi (me 0 rfl) Sm.ok h508)⟩
     ·have h:=Am hp509 h
      refine Bc rfl _ rfl ((bf hp509))<|Bo rfl<|Bj<|Ac rfl rfl<|Aa 0 rfl (Ae rfl) gn rfl<|Aa 1 rfl (Ba rfl rfl rfl) gn rfl<|Aa 2 rfl (Af rfl) gn rfl<|Ah 3 rfl<|Cm ?_
      have ih:=Out.inl hO1 h
      exact D6 [1,2] (ih ()) ⟨rfl,rfl,rfl,rfl,rfl,trivial⟩ (.cons _ (.cons_cons _ (.slnil))) rfl
    have hns:Region.noSelect (Code.ops q94c26)=true:=by kernel_rfl
    refine J7 [] 20 rfl rfl mix rfl (.c 0 rfl (.c 1 rfl .n))<|wfv 0 rfl (Ae rfl) gn hns rfl<|wfv 1 rfl (Ae rfl) gn hns rfl ?_
    obtain ⟨ce511,hK512,hr510⟩:=Rw.read (s:=Sm w.heap.size F w []) h5 hb389
    obtain ⟨A513,n514,c515,rfl,h516⟩:=Jl hK512
    refine wfv 2 rfl (Ef (s:=Sm w.heap.size F w []) Xfw rfl rfl h5 hb389) gn hns rfl<|wfv 3 rfl (Jq Xbm rfl) gn hns rfl<|wfv 4 rfl (Le (kk:=(x199:Int).toNat * 9) (j:=7) (Sm w.heap.size F w []) ld_96 rfl hr510 rfl (me 0 rfl)) gn hns rfl<|wfv 5 rfl (Ae rfl) gn hns rfl<|wfv 6 rfl (Ae rfl) gn hns rfl<|wfv 7 rfl (Ae rfl) gn hns rfl ?_
    obtain ⟨ce518,hK519,hr517⟩:=Rw.read (s:=Sm w.heap.size F w []) h5 hb389
    obtain ⟨A520,n521,c522,rfl,h523⟩:=Jl hK519
    refine wfv 8 rfl (Ef (s:=Sm w.heap.size F w []) Xfw rfl rfl h5 hb389) gn hns rfl<|wfv 9 rfl (Jq Xfo rfl) gn hns rfl<|wfv 10 rfl (Le (kk:=(x199:Int).toNat * 9) (j:=8) (Sm w.heap.size F w []) O9 rfl hr517 rfl (me 0 rfl)) gn hns rfl ?_
    refine Cf [11,16] (by kernel_rfl) rfl ⟨?_,?_,trivial⟩
    ·refine Ej 11 rfl gn rfl (D7 [.slice A513 n514 c515, .int .i64 x6, .int .i64 ((ix x1 x199).at_)] rfl Tryd.func94 rfl rfl rfl fun w537 hL538 => ?_)
     have hp539:=pmI hL538 .n (.c 0 rfl .n) (by kernel_rfl)
     refine Calls.mono (ih_trellisref15_find w537 (Fl ([Sm w.heap.size F w []]:List Cc)) ((ix x1 x199).kids) x6 ((ix x1 x199).at_) A513 n514 c515 (Rw.mono h516 (hL538.toFl (me 0 rfl) (me 0 rfl))) (hL538.hFl hp539 (Bf [0] rfl)) (hL538.into hp539 _) r422 hv423) ?_
     rintro _ w544 ⟨A540,n541,c542,rfl,hM545,h543⟩
     obtain ⟨sb548,hL546,hv547⟩:=hL538.callB (Sl:=([Sm w.heap.size F w []]:List Cc)) hp539 hM545 F (Bf [0] rfl) ⟨Sm.ok,trivial⟩
     have h543:At C9 (Sm w.heap.size F w544 sb548) A540 n541 c542 r422.1.kids:=Rw.mono h543 hv547
     refine ⟨_,_,_,rfl,hL546,?_⟩
     refine ⟨Bf [0] rfl,Bf [1,2] rfl,?_⟩
     refine wfv 12 rfl (Ae rfl) gn hns rfl<|wfv 13 rfl (Il rfl rfl) gn hns rfl<|wfv 14 rfl (Il rfl rfl) gn hns rfl<|wfv 15 rfl (Il rfl rfl) gn hns rfl ?_
     refine Cf [16] (by kernel_rfl) rfl ⟨Ej 16 rfl gn rfl (G9 [.string (⟨#[]⟩:ByteArray),.bool false,.string (⟨#[]⟩:ByteArray),.int .i64 0,.int .i64 0,.int .i64 0,.int .i64 0,.slice none 0 0,.int .i64 0] Xb4 rfl fun gb550=>?_),trivial⟩
     refine ⟨Bf [1] rfl,Bf [1,2] rfl,?_⟩
     refine Cf [17] (by kernel_rfl) rfl ⟨Ej 17 rfl gn rfl (I9 (vs:=[.string r422.1.node.name,.bool r422.1.node.named,.string r422.1.node.field,.int .i64 r422.1.node.from_,.int .i64 r422.1.node.to,.int .i64 r422.1.node.kids,.int .i64 r422.1.node.leaf,.slice A540 n541 c542,.int .i64 r422.1.at_]) (cs':=[.string r422.1.node.name,.bool r422.1.node.named,.string r422.1.node.field,.int .i64 r422.1.node.from_,.int .i64 r422.1.node.to,.int .i64 r422.1.node.kids,.int .i64 r422.1.node.leaf,.slice A540 n541 c542,.int .i64 r422.1.at_]) (M':=[.box gb550 118 [.string r422.1.node.name,.bool r422.1.node.named,.string r422.1.node.field,.int .i64 r422.1.node.from_,.int .i64 r422.1.node.to,.int .i64 r422.1.node.kids,.int .i64 r422.1.node.leaf,.slice A540 n541 c542,.int .i64 r422.1.at_],.box gb8 118 [.string (⟨#[]⟩:ByteArray),.bool false,.string (⟨#[]⟩:ByteArray),.int .i64 0,.int .i64 0,.int .i64 0,.int .i64 0,.slice none 0 0,.int .i64 0]]) 0 Y3 rfl rfl rfl rfl rfl rfl rfl rfl rfl ?_),trivial⟩
     refine ⟨Bf [1] rfl,Bf [1,2] rfl,?_⟩
     refine wfv 18 rfl (Af rfl) gn hns rfl<|wfv 19 rfl (Af rfl) gn hns rfl<|Et (by kernel_rfl) ?_
     exact D6 [0,1,2] (d3 gb550 A540 n541 c542 w544 sb548 h543) ⟨rfl,rfl,rfl,rfl,rfl,rfl,rfl,rfl,trivial⟩ (.cons_cons _ (.cons_cons _ (.slnil))) rfl
    ·refine Ej 16 rfl gn rfl (G9 [.string (⟨#[]⟩ : ByteArray), .bool false, .string (⟨#[]⟩ : ByteArray), .int .i64 0, .int .i64 0, .int .i64 0, .int .i64 0, .slice none 0 0, .int .i64 0] Xb4 rfl fun gb551 => ?_)
     refine ⟨Bf [1] rfl,Bf [0,1] rfl,?_⟩
     refine Cf [11] (by kernel_rfl) rfl ⟨Ej 11 rfl gn rfl (D7 [.slice A513 n514 c515,.int .i64 x6,.int .i64 ((ix x1 x199).at_)] rfl Tryd.func94 rfl rfl rfl fun w564 hL565=>?_),trivial⟩
     have hp566:=pmI hL565 .n (.c 0 rfl (.c 1 rfl .n)) (by kernel_rfl)
     refine Calls.mono (ih_trellisref15_find w564 (Fl ([Sm w.heap.size F w []]:List Cc)) ((ix x1 x199).kids) x6 ((ix x1 x199).at_) A513 n514 c515 (Rw.mono h516 (hL565.toFl (me 0 rfl) (me 0 rfl))) (hL565.hFl hp566 (Bf [0] rfl)) (hL565.into hp566 _) r422 hv423) ?_
     rintro _ w571 ⟨A567,n568,c569,rfl,hM572,h570⟩
     obtain ⟨sb575,hL573,hv574⟩:=hL565.callB (Sl:=([Sm w.heap.size F w []]:List Cc)) hp566 hM572 F (Bf [0] rfl) ⟨Sm.ok,trivial⟩
     have h570:At C9 (Sm w.heap.size F w571 sb575) A567 n568 c569 r422.1.kids:=Rw.mono h570 hv574
     refine ⟨_,_,_,rfl,hL573,?_⟩
     refine ⟨Bf [1] rfl,Bf [1,2] rfl,?_⟩
     refine wfv 12 rfl (Ae rfl) gn hns rfl<|wfv 13 rfl (Il rfl rfl) gn hns rfl<|wfv 14 rfl (Il rfl rfl) gn hns rfl<|wfv 15 rfl (Il rfl rfl) gn hns rfl ?_
     refine Cf [17] (by kernel_rfl) rfl ⟨Ej 17 rfl gn rfl (I9 (vs:=[.string r422.1.node.name,.bool r422.1.node.named,.string r422.1.node.field,.int .i64 r422.1.node.from_,.int .i64 r422.1.node.to,.int .i64 r422.1.node.kids,.int .i64 r422.1.node.leaf,.slice A567 n568 c569,.int .i64 r422.1.at_]) (cs':=[.string r422.1.node.name,.bool r422.1.node.named,.string r422.1.node.field,.int .i64 r422.1.node.from_,.int .i64 r422.1.node.to,.int .i64 r422.1.node.kids,.int .i64 r422.1.node.leaf,.slice A567 n568 c569,.int .i64 r422.1.at_]) (M':=[.box gb551 118 [.string r422.1.node.name,.bool r422.1.node.named,.string r422.1.node.field,.int .i64 r422.1.node.from_,.int .i64 r422.1.node.to,.int .i64 r422.1.node.kids,.int .i64 r422.1.node.leaf,.slice A567 n568 c569,.int .i64 r422.1.at_],.box gb8 118 [.string (⟨#[]⟩:ByteArray),.bool false,.string (⟨#[]⟩:ByteArray),.int .i64 0,.int .i64 0,.int .i64 0,.int .i64 0,.slice none 0 0,.int .i64 0]]) 0 Y3 rfl rfl rfl rfl rfl rfl rfl rfl rfl ?_),trivial⟩
     refine ⟨Bf [1] rfl,Bf [1,2] rfl,?_⟩
     refine wfv 18 rfl (Af rfl) gn hns rfl<|wfv 19 rfl (Af rfl) gn hns rfl<|Et (by kernel_rfl) ?_
     exact D6 [0,1,2] (d3 gb551 A567 n568 c569 w571 sb575 h570) ⟨rfl,rfl,rfl,rfl,rfl,rfl,rfl,rfl,trivial⟩ (.cons_cons _ (.cons_cons _ (.slnil))) rfl
  ·have h:=Am hp388 h
   refine Bc rfl _ rfl ((decide_eq_false hp388))<|E8 [.code Xj5] rfl rfl<|Ag rfl<|Ac rfl rfl<|Aa 0 rfl (L6 #[.string (⟨#[]⟩:ByteArray),.bool false,.string (⟨#[]⟩:ByteArray),.int .i64 0,.int .i64 0,.int .i64 0,.int .i64 0,.slice none 0 0,.int .i64 0] Xiv rfl (by kernel_rfl)) gn rfl ?_
   refine Ci 1 rfl (I9 (vs:=[.string (⟨#[]⟩:ByteArray),.bool false,.string (⟨#[]⟩:ByteArray),.int .i64 0,.int .i64 0,.int .i64 0,.int .i64 0,.slice none 0 0,.int .i64 0]) (cs':=[.string (⟨#[]⟩:ByteArray),.bool false,.string (⟨#[]⟩:ByteArray),.int .i64 0,.int .i64 0,.int .i64 0,.int .i64 0,.slice none 0 0,.int .i64 0]) (M':=[.box gb8 118 [.string (⟨#[]⟩:ByteArray),.bool false,.string (⟨#[]⟩:ByteArray),.int .i64 0,.int .i64 0,.int .i64 0,.int .i64 0,.slice none 0 0,.int .i64 0]]) 0 Y3 rfl rfl rfl rfl rfl rfl rfl rfl rfl ?_) gn
   refine Aa 2 rfl (Af rfl) gn rfl<|Aa 3 rfl (Af rfl) gn rfl<|Ah 4 rfl ?_
   have h:=Out.inr hO1 h
   refine Bg [.agg #[.string (⟨#[]⟩:ByteArray),.bool false,.string (⟨#[]⟩:ByteArray),.int .i64 0,.int .i64 0,.int .i64 0,.int .i64 0,.slice none 0 0,.int .i64 0],.int .i64 (-1),.bool false] rfl Tryd.func94 rfl (.cell (cs:=[.string (⟨#[]⟩:ByteArray),.bool false,.string (⟨#[]⟩:ByteArray),.int .i64 0,.int .i64 0,.int .i64 0,.int .i64 0,.slice none 0 0,.int .i64 0]) (us:=[.string (⟨#[]⟩:ByteArray),.bool false,.string (⟨#[]⟩:ByteArray),.int .i64 0,.int .i64 0,.int .i64 0,.int .i64 0,.slice none 0 0,.int .i64 0]) 0 rfl Yv rfl rfl rfl (.tmp rfl (.tmp rfl (.nil)))) fun wr hLr=>?_
   have hMr:=hLr.pk0 (.c 1 rfl .n)
   show Kw w F  r (.returned (Bz [.agg #[.string (⟨#[]⟩:ByteArray),.bool false,.string (⟨#[]⟩:ByteArray),.int .i64 0,.int .i64 0,.int .i64 0,.int .i64 0,.slice none 0 0,.int .i64 0],.int .i64 (-1),.bool false])) wr
   rw [h]
   exact ⟨none,0,0,rfl,hMr,Rw.nil⟩
 exact D6 [0,1] (key1 _ h ()) ⟨rfl,rfl,rfl,rfl,rfl,trivial⟩ (.cons_cons _ (.slnil)) rfl
theorem X0:∀ n,Ub (F8 n)
 | 0=>fun w F x1 x6 x7 A2 n3 c4 h5 hF hL0 r h=>h.elim
 | n + 1=>by
  have ih:=X0 n
  exact Xah _ ih
theorem Xa5 (w:World) (F:Nat→Prop) (x1:List Ak) (x6:Int) (x7:Int) (A2:Option Addr) (n3:Nat) (c4:Nat) (h5:Rw C9 w F A2 n3 c4 x1) (hF:∀ b,F b→b < w.heap.size∧∀ o ∈ ([]:List (List Nat)),b ∉ o) (hL0:B.Loc w w [] [Sm w.heap.size F w [],St w []]) (r:Ak × Int × Bool) (h:Qm x1 x6 x7 r):Calls Tryd.prog 94 #[.slice A2 n3 c4,.int .i64 x6,.int .i64 x7] w (Kw w F  r):=by
 obtain ⟨n,h⟩:=h
 exact (X0 n) w F x1 x6 x7 A2 n3 c4 h5 hF hL0 r h
noncomputable abbrev Xi6:=Code.snd (Code.snd (Code.snd (Code.snd (Code.snd (Df Tryd.f68)))))
noncomputable abbrev Xe8:=Code.fst (Code.fst (Code.snd (Code.fst (Code.snd (Code.snd (Code.snd (Code.snd (Df Tryd.f68))))))))
abbrev V5 (w:World) (F:Nat→Prop) (r:List Int):Ending→World→Prop:=fun e w'=>∃ A0:Option Addr,∃ n0:Nat,∃ c0:Nat,e=.returned (.slice A0 n0 c0)∧B.Loc w w' [.own (.slice A0 n0 c0) 3 1 n0 (r.flatMap (eI .i64))] [St w []]∧Ow w.heap.size A0 n0 c0 r
noncomputable abbrev Qz (w:World) (F:Nat→Prop) (r:List Int):Cx:=⟨Tryd.prog,68,Tryd.f68,41,V5 w F  r,w⟩
theorem Zu (w:World) (F:Nat→Prop) (x1:List Ai) (x6:Int) (A2:Option Addr) (n3:Nat) (c4:Nat) (h5:Rw D9 w (St w []).av A2 n3 c4 x1) (hF:∀ b,F b→b < w.heap.size∧∀ o ∈ ([]:List (List Nat)),b ∉ o) (hL0:B.Loc w w [] [Sm w.heap.size F w [],St w []]) (r:List Int) (h:U4 x1 x6 r):Calls Tryd.prog 68 #[.slice A2 n3 c4,.int .i64 x6] w (V5 w F  r):=by
 unfold U4 at h
 refine Bl (vs:=[.slice A2 n3 c4,.int .i64 x6]) 41 Tryd.func68 rfl Tryd.ntmps68 rfl hL0 ?_
 show G (Qz w F r) _ _ _ _
 refine Ag rfl<|Ac rfl rfl<|Aa 0 rfl (Af rfl) gn rfl<|Ah 1 rfl<|Ag rfl<|Ac rfl rfl<|Aa 0 rfl (Ae rfl) gn rfl ?_
 obtain ⟨r10,hv11,h⟩:=h
 refine Ci 1 rfl (D7 [.slice A2 n3 c4] rfl Tryd.func66 rfl rfl rfl fun w7 hL8=>?_) gn
 have hp9:=pmI hL8 .n .n (by kernel_rfl)
 refine Calls.mono (Uz w7 (Fl ([]:List Cc)) x1 A2 n3 c4 (Rw.mono h5 (hL8.toSt hp9 (me 1 rfl))) (hL8.hFl hp9 (Bf [] rfl)) (hL8.into hp9 _) r10 hv11) ?_
 rintro _ w19 ⟨A12,n13,c14,cs17,rfl,hM20,h15,hC18⟩
 obtain ⟨sb23,hL21,hv22⟩:=hL8.callB (Sl:=([]:List Cc)) hp9 hM20 F (Bf [] rfl) trivial
 have hC18:Cells C9 (Sm w.heap.size F w19 sb23).w (Sm w.heap.size F w19 sb23).av r10.1 cs17:=Cells.mono hv22 hC18
 refine ⟨_,_,_,rfl,hL21,?_⟩
 refine Aa 2 rfl (Ae rfl) gn rfl<|Aa 3 rfl (Il rfl rfl) gn rfl<|Aa 4 rfl (Il rfl rfl) gn rfl<|Aa 5 rfl (Af rfl) gn rfl<|Aa 6 rfl (Af rfl) gn rfl<|Ah 7 rfl<|Ag rfl<|Ac rfl rfl<|Aa 0 rfl (Ae rfl) gn rfl<|Aa 1 rfl (Ae rfl) gn rfl ?_
 obtain ⟨r30,hv31,h⟩:=h
 refine Xdp (F:=F) (dk:=C9) (Sm w.heap.size F w19 sb23) 0 rfl (Ow.weak hL8.env.size h15) (me 0 rfl) Sm.ok hC18 fun sw28 sb29 h27=>?_
 refine Ci 2 rfl (D7 [.slice A12 n13 c14,.int .i64 x6,.int .i64 (-1)] rfl Tryd.func94 rfl rfl rfl fun w24 hL25=>?_) gn
 have hp26:=pmI hL25 .n .n (by kernel_rfl)
 refine Calls.mono (Xa5 w24 (Fl ([Sm w.heap.size F sw28 sb29]:List Cc)) r10.1 x6 (-1) A12 n13 c14 (Rw.mono h27 (hL25.toFl (me 0 rfl) (me 0 rfl))) (hL25.hFl hp26 (Bf [0] rfl)) (hL25.into hp26 _) r30 hv31) ?_
 rintro _ w36 ⟨A32,n33,c34,rfl,hM37,h35⟩
 obtain ⟨sb40,hL38,hv39⟩:=hL25.callB (Sl:=([Sm w.heap.size F sw28 sb29]:List Cc)) hp26 hM37 F (Bf [0] rfl) ⟨Sm.ok,trivial⟩
 have h35:At C9 (Sm w.heap.size F w36 sb40) A32 n33 c34 r30.1.kids:=Rw.mono h35 hv39
 refine ⟨_,_,_,rfl,hL38,?_⟩
 refine Aa 3 rfl (Ae rfl) gn rfl<|Aa 4 rfl (Il rfl rfl) gn rfl<|Aa 5 rfl (Il rfl rfl) gn rfl<|Aa 6 rfl (Il rfl rfl) gn rfl ?_
 refine Ci 7 rfl (G9 [.string (⟨#[]⟩:ByteArray),.bool false,.string (⟨#[]⟩:ByteArray),.int .i64 0,.int .i64 0,.int .i64 0,.int .i64 0,.slice none 0 0,.int .i64 0] Xb4 rfl fun gb41=>?_) gn
 refine Ci 8 rfl (I9 (vs:=[.string r30.1.node.name,.bool r30.1.node.named,.string r30.1.node.field,.int .i64 r30.1.node.from_,.int .i64 r30.1.node.to,.int .i64 r30.1.node.kids,.int .i64 r30.1.node.leaf,.slice A32 n33 c34,.int .i64 r30.1.at_]) (cs':=[.string r30.1.node.name,.bool r30.1.node.named,.string r30.1.node.field,.int .i64 r30.1.node.from_,.int .i64 r30.1.node.to,.int .i64 r30.1.node.kids,.int .i64 r30.1.node.leaf,.slice A32 n33 c34,.int .i64 r30.1.at_]) (M':=[.box gb41 118 [.string r30.1.node.name,.bool r30.1.node.named,.string r30.1.node.field,.int .i64 r30.1.node.from_,.int .i64 r30.1.node.to,.int .i64 r30.1.node.kids,.int .i64 r30.1.node.leaf,.slice A32 n33 c34,.int .i64 r30.1.at_]]) 0 Y3 rfl rfl rfl rfl rfl rfl rfl rfl rfl ?_) gn
 refine Aa 9 rfl (Af rfl) gn rfl<|Aa 10 rfl (Af rfl) gn rfl<|Ah 11 rfl<|Ag rfl<|Ac rfl rfl<|Aa 0 rfl (Af rfl) gn rfl<|Ah 1 rfl<|Ag rfl<|Ag rfl<|Ac rfl rfl<|Aa 0 rfl (Af rfl) gn rfl<|Ah 1 rfl ?_
 refine Bv rfl<|Ei rfl ?_
 have key1:∀ s,Ar (fun (s:(List Int) × Int) o=>Fp r30 s.1 s.2 o) s r→(fun (s:(List Int) × Int)=>∀ (A64:Option Addr) (n65:Nat) (c66:Nat) (h67:Ow w.heap.size A64 n65 c66 s.1),G (Qz w F r) [.code Xe8,.inLoop Xe8,.inBlock 0,.code Xi6] [(7,.pointer (some ⟨gb41,0,none⟩)),(10,.slice A64 n65 c66),(11,.int .i64 s.2)] [.own (.slice A64 n65 c66) 3 1 n65 (s.1.flatMap (eI .i64)),.box gb41 118 [.string r30.1.node.name,.bool r30.1.node.named,.string r30.1.node.field,.int .i64 r30.1.node.from_,.int .i64 r30.1.node.to,.int .i64 r30.1.node.kids,.int .i64 r30.1.node.leaf,.slice A32 n33 c34,.int .i64 r30.1.at_]] [Sm w.heap.size F w36 sb40,Sm w.heap.size F sw28 sb29,Sm w.heap.size F w19 sb23,Sm w.heap.size F w [],St w []]) s:=by
  intro s hs
  refine Ar.ind (mot:=(fun (s:(List Int) × Int)=>∀ (A64:Option Addr) (n65:Nat) (c66:Nat) (h67:Ow w.heap.size A64 n65 c66 s.1),G (Qz w F r) [.code Xe8,.inLoop Xe8,.inBlock 0,.code Xi6] [(7,.pointer (some ⟨gb41,0,none⟩)),(10,.slice A64 n65 c66),(11,.int .i64 s.2)] [.own (.slice A64 n65 c66) 3 1 n65 (s.1.flatMap (eI .i64)),.box gb41 118 [.string r30.1.node.name,.bool r30.1.node.named,.string r30.1.node.field,.int .i64 r30.1.node.from_,.int .i64 r30.1.node.to,.int .i64 r30.1.node.kids,.int .i64 r30.1.node.leaf,.slice A32 n33 c34,.int .i64 r30.1.at_]] [Sm w.heap.size F w36 sb40,Sm w.heap.size F sw28 sb29,Sm w.heap.size F w19 sb23,Sm w.heap.size F w [],St w []])) ?_ hs
  clear hs s
  intro s o1 h hO1
  obtain ⟨x63,x68⟩:=s
  show ∀ (A64:Option Addr) (n65:Nat) (c66:Nat) (h67:Ow w.heap.size A64 n65 c66 x63),G (Qz w F r) [.code Xe8,.inLoop Xe8,.inBlock 0,.code Xi6] [(7,.pointer (some ⟨gb41,0,none⟩)),(10,.slice A64 n65 c66),(11,.int .i64 x68)] [.own (.slice A64 n65 c66) 3 1 n65 (x63.flatMap (eI .i64)),.box gb41 118 [.string r30.1.node.name,.bool r30.1.node.named,.string r30.1.node.field,.int .i64 r30.1.node.from_,.int .i64 r30.1.node.to,.int .i64 r30.1.node.kids,.int .i64 r30.1.node.leaf,.slice A32 n33 c34,.int .i64 r30.1.at_]] [Sm w.heap.size F w36 sb40,Sm w.heap.size F sw28 sb29,Sm w.heap.size F w19 sb23,Sm w.heap.size F w [],St w []]
  intro A64 n65 c66 h67
  have h:Fp r30 x63 x68 o1:=h
  unfold Fp at h
  refine Ag rfl<|Ag rfl<|Ac rfl rfl<|Aa 0 rfl (Ae rfl) gn rfl<|Aa 1 rfl (Bd Xbm rfl) gn rfl<|Aa 2 rfl (Au 1 ld_96 rfl rfl rfl) gn rfl<|Aa 3 rfl (D5 un_96 rfl h35.hq) gn rfl<|Aa 4 rfl (Ba rfl rfl rfl) gn rfl<|Ah 5 rfl ?_
  by_cases hp87:x68 < (r30.1.kids.length:Int)
  ·have h:=Ap hp87 h
   refine Bi rfl _ rfl ((decide_eq_true hp87))<|Bo rfl<|Ag rfl<|Bv rfl<|Ac rfl rfl<|Aa 0 rfl (Ae rfl) gn rfl<|Aa 1 rfl (Bd Xbm rfl) gn rfl<|Aa 2 rfl (Au 1 ld_96 rfl rfl rfl) gn rfl<|Aa 3 rfl (Ae rfl) gn rfl ?_
   obtain ⟨hb88,h⟩:=h
   obtain ⟨ce90,hK91,hr89⟩:=Rw.read (s:=Sm w.heap.size F w36 sb40) h35 hb88
   obtain ⟨A92,n93,c94,rfl,h95⟩:=Jl hK91
   refine Aa 4 rfl (Ef (s:=Sm w.heap.size F w36 sb40) Xfw rfl rfl h35 hb88) gn rfl<|Aa 5 rfl (Jq Xfo rfl) gn rfl<|Aa 6 rfl (Le (kk:=(x68:Int).toNat * 9) (j:=8) (Sm w.heap.size F w36 sb40) O9 rfl hr89 rfl (me 0 rfl)) gn rfl ?_
   refine Ci 7 rfl (Io (xs:=([(ix r30.1.kids x68).at_]:List Int)) [.int .i64 ((ix r30.1.kids x68).at_)] Qx rfl (by kernel_rfl) rfl rfl rfl rfl fun gb97 h98=>?_) gn
   obtain ⟨x102,hv103,h⟩:=h
   obtain ⟨hb104,h⟩:=h
   refine Ci 8 rfl (Pn (zs:=x102) (cells':=x102.flatMap (eI .i64)) 1 Y5 rfl rfl rfl h67 (Nat.le_refl _) (Src.ownF (hl:=(hlI .i64)) (h1:=(F9 .i64)) 0 rfl h98) (by rw [hv103,List.flatMap_append] <;> rfl) (H9 hv103 h98.hq) hb104 rfl rfl fun A99 c100 h101=>?_) gn
   refine Aa 9 rfl (Af rfl) gn rfl<|Ah 10 rfl<|Bj<|Ac rfl rfl<|Aa 0 rfl (Ae rfl) gn rfl<|Aa 1 rfl (Ba rfl rfl rfl) gn rfl<|Aa 2 rfl (Af rfl) gn rfl<|Ah 3 rfl<|Cm ?_
   have ih:=Out.inl hO1 h
   exact D6 [0,1,2,3,4] (ih A99 (n65 + 1) c100 h101) ⟨rfl,rfl,rfl,trivial⟩ (.cons _ (.cons_cons _ (.cons_cons _ (.slnil)))) rfl
  ·have h:=Am hp87 h
   refine Bc rfl _ rfl ((decide_eq_false hp87))<|E8 [.code Xi6] rfl rfl<|Ag rfl<|Ac rfl rfl<|Aa 0 rfl (Ae rfl) gn rfl<|Aa 1 rfl (Af rfl) gn rfl<|Ah 2 rfl ?_
   have h:=Out.inr hO1 h
   refine Bg [.slice A64 n65 c66] rfl Tryd.func68 rfl (.tmp rfl (.nil)) fun wr hLr=>?_
   have hMr:=hLr.pkI (.c 0 rfl .n) (.c 1 rfl .n) (by kernel_rfl) (.c 4 rfl .n)
   show V5 w F  r (.returned (Bz [.slice A64 n65 c66])) wr
   rw [h]
   exact ⟨A64,n65,c66,rfl,hMr,h67⟩
 refine Td 3 1 ?_
 exact D6 [0,1,2,3,4] (key1 _ h none 0 0 (Ow.nil (z:=w.heap.size))) ⟨rfl,rfl,rfl,trivial⟩ (.cons_cons _ (.cons_cons _ (.slnil))) rfl
end Go.Proofs.YtjookebbmfiidaaDoor.K
