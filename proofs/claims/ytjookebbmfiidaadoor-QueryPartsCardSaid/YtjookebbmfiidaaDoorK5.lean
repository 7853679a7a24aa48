/- What the machine's calls do, function by function, printed by my own tool. Condition of each: its relation holds of the answer, and what is handed in lies in memory as told. -/
import Derived.Test.YtjookebbmfiidaaDoorK4
set_option linter.unusedVariables false
set_option maxRecDepth 100000
set_option maxHeartbeats 4000000
namespace Go.Proofs.YtjookebbmfiidaaDoor.K
open Go.Proofs.YtjookebbmfiidaaDoor.B Go.Proofs.YtjookebbmfiidaaDoor.R Go.RowKit
noncomputable abbrev Ob:=Code.fst (Code.snd (Dv Tryd.f59))
noncomputable abbrev Yg:=Code.snd (Code.snd (Code.snd (Code.snd (Code.snd (Code.snd Ob)))))
noncomputable abbrev Xcv:=Code.snd (Code.snd (Code.snd (Code.snd (Code.snd Yg))))
noncomputable abbrev q59c50:=Code.snd Xcv
noncomputable abbrev q59c52:=Code.snd (Code.fst Xcv)
noncomputable abbrev Xdd:=Code.snd (Code.snd q59c50)
noncomputable abbrev q59c65:=Code.snd Xdd
noncomputable abbrev q59c67:=Code.snd (Code.fst Xdd)
noncomputable abbrev Xcw:=Code.snd (Code.snd (Code.snd (Code.snd q59c65)))
noncomputable abbrev q59c92:=Code.snd Xcw
noncomputable abbrev q59c94:=Code.snd (Code.fst Xcw)
noncomputable abbrev Xmc:=Code.snd (Code.snd (Code.snd (Code.snd q59c92)))
noncomputable abbrev q59c136:=Code.snd (Code.snd (Code.snd (Code.snd Xmc)))
abbrev Oq (w:World) (F:Nat→Prop) (r:(List Ak) × Int × Int):Ending→World→Prop:=fun e w'=>∃ A0:Option Addr,∃ n0:Nat,∃ c0:Nat,e=.returned (.tuple #[.slice A0 n0 c0,.int .i64 r.2.1,.int .i64 r.2.2])∧B.Loc w w' [.own (.slice A0 n0 c0) 84 4 n0 (r.1.flatMap D9)] [St w []]∧Ow w.heap.size A0 n0 c0 r.1
noncomputable abbrev Hz (w:World) (F:Nat→Prop) (r:(List Ak) × Int × Int):Cx:=⟨Tryd.prog,59,Tryd.f59,170,Oq w F  r,w⟩
theorem Xfs (w:World) (F:Nat→Prop) (x1:ByteArray) (hF:∀ b,F b→b < w.heap.size∧∀ o ∈ ([]:List (List Nat)),b ∉ o) (hL0:B.Loc w w [] [Sm w.heap.size F w [],St w []]) (r:(List Ak) × Int × Int) (h:Yf x1 r):Calls Tryd.prog 59 #[.string x1] w (Oq w F  r):=by
 unfold Yf at h
 refine Ce (vs:=[.string x1]) 170 Tryd.func59 rfl Tryd.ntmps59 rfl hL0 ?_
 show G (Hz w F r) _ _ _ _
 refine Ah rfl<|Ac rfl rfl<|Aa 0 rfl (Af rfl) gn rfl<|Aa 1 rfl (Af rfl) gn rfl<|Aa 2 rfl (Af rfl) gn rfl<|Aj 3 rfl<|Xj1 rfl<|Ah rfl<|Ah rfl<|Ac rfl rfl<|Aa 0 rfl (Ad rfl) gn rfl<|Aa 1 rfl (Rh Nl rfl) gn rfl ?_
 refine Aa 2 rfl (Be rfl rfl rfl) gn rfl<|Aj 3 rfl ?_
 by_cases hp2:(x1.size:Int) > 16384
 ·have h:=Ap hp2 h
  refine Bz rfl _ rfl ((decide_eq_true hp2))<|Ah rfl<|Ac rfl rfl<|Aa 0 rfl (Af rfl) gn rfl<|Aa 1 rfl (Af rfl) gn rfl<|Aa 2 rfl (Af rfl) gn rfl<|Aj 3 rfl<|Nr 84 4 ?_
  refine C9 [.slice none 0 0,.int .i64 80,.int .i64 16384] rfl Tryd.func59 rfl (.tmp rfl (.tmp rfl (.tmp rfl (.nil)))) fun wr hLr=>?_
  have hMr:=hLr.pkI (.c 0 rfl .n) .n (by kernel_rfl) (.c 1 rfl .n)
  show Oq w F  r (.returned (Ci [.slice none 0 0,.int .i64 80,.int .i64 16384])) wr
  rw [h]
  exact ⟨none,0,0,rfl,hMr,(Ow.nil (z:=w.heap.size))⟩
 ·have h:=Aq hp2 h
  refine Bg rfl _ rfl ((decide_eq_false hp2))<|Cb rfl<|Ah rfl<|Ac rfl rfl<|Aa 0 rfl (Af rfl) gn rfl<|Aj 1 rfl<|Ah rfl<|Ac rfl rfl<|Aa 0 rfl (Af rfl) gn rfl<|Aj 1 rfl<|Ah rfl<|Ac rfl rfl ?_
  refine Aa 0 rfl (Af rfl) gn rfl<|Aj 1 rfl<|Ah rfl<|Ac rfl rfl<|Aa 0 rfl (Af rfl) gn rfl<|Aa 1 rfl (Af rfl) gn rfl<|Aa 2 rfl (Af rfl) gn rfl<|Aj 3 rfl<|Ah rfl<|Xjj rfl ?_
  have key1:∀ s,Bl (fun (s:(List Ak) × Int) o=>Ip x1 s.1 s.2 o) s r→(fun (s:(List Ak) × Int)=>∀ (A439:Option Addr) (n440:Nat) (c441:Nat) (h442:Ow w.heap.size A439 n440 c441 s.1),G (Hz w F r) [.code Yg,.inScope Ob] [(0,.string x1),(5,.slice A439 n440 c441),(8,.int .i64 s.2)] [.own (.slice A439 n440 c441) 84 4 n440 (s.1.flatMap D9)] [Sm w.heap.size F w [],St w []]) s:=by
   intro s hs
   refine Bl.ind (mot:=(fun (s:(List Ak) × Int)=>∀ (A439:Option Addr) (n440:Nat) (c441:Nat) (h442:Ow w.heap.size A439 n440 c441 s.1),G (Hz w F r) [.code Yg,.inScope Ob] [(0,.string x1),(5,.slice A439 n440 c441),(8,.int .i64 s.2)] [.own (.slice A439 n440 c441) 84 4 n440 (s.1.flatMap D9)] [Sm w.heap.size F w [],St w []])) ?_ hs
   clear hs s
   intro s o1 h hO1
   obtain ⟨x438,x443⟩:=s
   show ∀ (A439:Option Addr) (n440:Nat) (c441:Nat) (h442:Ow w.heap.size A439 n440 c441 x438),G (Hz w F r) [.code Yg,.inScope Ob] [(0,.string x1),(5,.slice A439 n440 c441),(8,.int .i64 x443)] [.own (.slice A439 n440 c441) 84 4 n440 (x438.flatMap D9)] [Sm w.heap.size F w [],St w []]
   intro A439 n440 c441 h442
   have h:Ip x1 x438 x443 o1:=h
   unfold Ip at h
   refine Ah rfl<|Ah rfl<|Ac rfl rfl<|Aa 0 rfl (Ad rfl) gn rfl<|Aa 1 rfl (Ad rfl) gn rfl<|Aa 2 rfl (Rh Nl rfl) gn rfl<|Aa 3 rfl (Be rfl rfl rfl) gn rfl<|Aj 4 rfl ?_
   by_cases hp867:x443=(x1.size:Int)
   ·have h:=Ap hp867 h
    refine Bz rfl _ rfl ((eqi hp867))<|Ah rfl<|Ac rfl rfl<|Aa 0 rfl (Ad rfl) gn rfl<|Aa 1 rfl (Af rfl) gn rfl<|Aa 2 rfl (Af rfl) gn rfl<|Aa 3 rfl (Af rfl) gn rfl<|Aj 4 rfl ?_
    have h:=Out.inr hO1 h
    refine C9 [.slice A439 n440 c441,.int .i64 0,.int .i64 0] rfl Tryd.func59 rfl (.tmp rfl (.tmp rfl (.tmp rfl (.nil)))) fun wr hLr=>?_
    have hMr:=hLr.pkI (.c 0 rfl .n) .n (by kernel_rfl) (.c 1 rfl .n)
    show Oq w F  r (.returned (Ci [.slice A439 n440 c441,.int .i64 0,.int .i64 0])) wr
    rw [h]
    exact ⟨A439,n440,c441,rfl,hMr,h442⟩
   ·have h:=Aq hp867 h
    refine Bg rfl _ rfl ((nei hp867))<|Cb rfl<|Ah rfl<|Ac rfl rfl<|Aa 0 rfl (Ad rfl) gn rfl<|Aa 1 rfl (Af rfl) gn rfl<|Aj 2 rfl<|Ah rfl<|Ah rfl<|Ac rfl rfl<|Aa 0 rfl (Ad rfl) gn rfl<|Aa 1 rfl (Ad rfl) gn rfl ?_
    obtain ⟨hb868,h⟩:=h
    refine Aa 2 rfl (Ia Nl rfl rfl hb868) gn rfl<|Aa 3 rfl (Af rfl) gn rfl<|Aj 4 rfl<|Df rfl<|Ah rfl<|Ac rfl rfl<|Aa 0 rfl (Ad rfl) gn rfl ?_
    obtain ⟨r872,hv873,h⟩:=h
    refine Cf 1 rfl (D8 [.int .u8 (bt x1 x443)] rfl Tryd.func81 rfl rfl rfl fun w869 hL870=>?_) gn
    have hp871:=pmI hL870 .n (.c 0 rfl .n) (by kernel_rfl)
    refine Calls.mono (Xdx w869 (Fl ([]:List Cc)) (bt x1 x443) (hL870.hFl hp871 (Bi [] rfl)) (hL870.into hp871 _) r872 hv873) ?_
    rintro _ w874 ⟨rfl,hM875⟩
    have hL876:=hL870.call hp871 hM875
    refine ⟨_,_,_,rfl,hL876,?_⟩
    refine Aa 2 rfl (Af rfl) gn rfl<|Aj 3 rfl ?_
    by_cases hp877:r872=true
    ·have h:=Ap hp877 h
     refine Bz rfl _ rfl (hp877)<|Ah rfl<|Ac rfl rfl<|Aa 0 rfl (Ad rfl) gn rfl<|Aa 1 rfl (Be rfl rfl rfl) gn rfl<|Aa 2 rfl (Af rfl) gn rfl<|Aj 3 rfl<|Qm [.code (.seq .skip Yg),.inScope Ob] rfl rfl<|Ah rfl<|Cb rfl ?_
     have ih:=Out.inl hO1 h
     exact Dc [0,1] (ih A439 n440 c441 h442) ⟨rfl,rfl,rfl,trivial⟩ (.cons_cons _ (.slnil)) rfl
    ·have h:=Aq hp877 h
     refine Bg rfl _ rfl ((bf hp877))<|Ah rfl<|Ac rfl rfl<|Aa 0 rfl (Ad rfl) gn rfl<|Aa 1 rfl (Be rfl rfl rfl) gn rfl<|Aa 2 rfl (Af rfl) gn rfl<|Aj 3 rfl ?_
     by_cases hp878:bt x1 x443=35
     ·have h:=Ap hp878 h
      refine Bz rfl _ rfl ((eqi hp878))<|Qm [.code (.seq .skip Xcv),.inScope Ob] rfl rfl<|Ah rfl<|Cb rfl ?_
      have key2:∀ s,Bl (fun (s:Int) o=>P6 x1 x438 s o) s o1→(fun (s:Int)=>∀ (_:Unit),G (Hz w F r) [.code Xcv,.inScope Ob] [(0,.string x1),(5,.slice A439 n440 c441),(8,.int .i64 s)] [.own (.slice A439 n440 c441) 84 4 n440 (x438.flatMap D9)] [Sm w.heap.size F w [],St w []]) s:=by
       intro s hs
       refine Bl.ind (mot:=(fun (s:Int)=>∀ (_:Unit),G (Hz w F r) [.code Xcv,.inScope Ob] [(0,.string x1),(5,.slice A439 n440 c441),(8,.int .i64 s)] [.own (.slice A439 n440 c441) 84 4 n440 (x438.flatMap D9)] [Sm w.heap.size F w [],St w []])) ?_ hs
       clear hs s
       intro x885 o2 h hO2
       show ∀ (_:Unit),G (Hz w F r) [.code Xcv,.inScope Ob] [(0,.string x1),(5,.slice A439 n440 c441),(8,.int .i64 x885)] [.own (.slice A439 n440 c441) 84 4 n440 (x438.flatMap D9)] [Sm w.heap.size F w [],St w []]
       intro _
       have h:P6 x1 x438 x885 o2:=h
       unfold P6 at h
       refine Ah rfl<|Ah rfl ?_
       have j3:∀ (x896:Bool) (h:Tv x885 x438 x896 o2) ,G (Hz w F r) [.code q59c52,.code q59c50,.inScope Ob] [(0,.string x1),(5,.slice A439 n440 c441),(8,.int .i64 x885),(69,.bool x896)] [.own (.slice A439 n440 c441) 84 4 n440 (x438.flatMap D9)] [Sm w.heap.size F w [],St w []]:=by
        intro x896 h
        unfold Tv at h
        by_cases hp897:x896=true
        ·have h:=Ap hp897 h
         refine Bz rfl _ rfl (hp897)<|Ah rfl<|Ac rfl rfl<|Aa 0 rfl (Ad rfl) gn rfl<|Aa 1 rfl (Be rfl rfl rfl) gn rfl<|Aa 2 rfl (Af rfl) gn rfl<|Aj 3 rfl<|Qm [.code (.seq .skip Xcv),.inScope Ob] rfl rfl<|Ah rfl<|Cb rfl ?_
         have ih:=Out.inl hO2 h
         exact Dc [0,1] (ih ()) ⟨rfl,rfl,rfl,trivial⟩ (.cons_cons _ (.slnil)) rfl
        ·have h:=Aq hp897 h
         refine Bg rfl _ rfl ((bf hp897))<|Cb rfl<|Ah rfl<|Qm [.code (.seq .skip Yg),.inScope Ob] rfl rfl<|Ah rfl<|Cb rfl ?_
         have h:=Out.inr hO2 h
         have ih:=Out.inl hO1 h
         exact Dc [0,1] (ih A439 n440 c441 h442) ⟨rfl,rfl,rfl,trivial⟩ (.cons_cons _ (.slnil)) rfl
       refine Ac rfl rfl<|Aa 0 rfl (Ad rfl) gn rfl<|Aa 1 rfl (Ad rfl) gn rfl<|Aa 2 rfl (Rh Nl rfl) gn rfl<|Aa 3 rfl (Be rfl rfl rfl) gn rfl<|Aa 4 rfl (Ad rfl) gn rfl ?_
       by_cases hp898:x885 < (x1.size:Int)
       ·have h:=Ap hp898 h
        refine Bv 64 rfl ((decide_eq_true hp898))<|Aa 5 rfl (Ad rfl) (gy 64 rfl rfl) rfl<|Aa 6 rfl (Ad rfl) (gy 64 rfl rfl) rfl ?_
        obtain ⟨hb899,h⟩:=h
        refine Aa 7 rfl (Ia Nl rfl rfl hb899) (gy 64 rfl rfl) rfl<|Aa 8 rfl (Be rfl rfl rfl) (gy 64 rfl rfl) rfl<|Aa 9 rfl (Bd (b:=true) rfl rfl) gn rfl<|Aj 10 rfl ?_
        exact Dc [0,1] (j3 ((bt x1 x885) != 10) h) ⟨rfl,rfl,rfl,rfl,trivial⟩ (.cons_cons _ (.slnil)) rfl
       ·have h:=Aq hp898 h
        refine Bv 64 rfl ((decide_eq_false hp898))<|Ae 5 rfl (ps 64 rfl rfl rfl)<|Ae 6 rfl (ps 64 rfl rfl rfl)<|Ae 7 rfl (ps 64 rfl rfl rfl)<|Ae 8 rfl (ps 64 rfl rfl rfl)<|Aa 9 rfl (Bd (b:=false) rfl rfl) gn rfl<|Aj 10 rfl ?_
        exact Dc [0,1] (j3 false h) ⟨rfl,rfl,rfl,rfl,trivial⟩ (.cons_cons _ (.slnil)) rfl
      exact Dc [0,1] (key2 _ h ()) ⟨rfl,rfl,rfl,trivial⟩ (.cons_cons _ (.slnil)) rfl
     ·have h:=Aq hp878 h
      refine Bg rfl _ rfl ((nei hp878))<|Ah rfl<|Ac rfl rfl<|Aa 0 rfl (Ad rfl) gn rfl ?_
      obtain ⟨r903,hv904,h⟩:=h
      refine Cf 1 rfl (D8 [.int .u8 (bt x1 x443)] rfl Tryd.func82 rfl rfl rfl fun w900 hL901=>?_) gn
      have hp902:=pmI hL901 .n (.c 0 rfl .n) (by kernel_rfl)
      refine Calls.mono (Ur w900 (Fl ([]:List Cc)) (bt x1 x443) (hL901.hFl hp902 (Bi [] rfl)) (hL901.into hp902 _) r903 hv904) ?_
      rintro _ w905 ⟨rfl,hM906⟩
      have hL907:=hL901.call hp902 hM906
      refine ⟨_,_,_,rfl,hL907,?_⟩
      refine Aa 2 rfl (Af rfl) gn rfl<|Aj 3 rfl ?_
      by_cases hp908:r903=true
      ·have h:=Ap hp908 h
       refine Bz rfl _ rfl (hp908)<|Qm [.code (.seq .skip Xdd),.inScope Ob] rfl rfl<|Ah rfl<|Cb rfl ?_
       have key4:∀ s,Bl (fun (s:Int) o=>Nz x1 x443 x438 s o) s o1→(fun (s:Int)=>∀ (_:Unit),G (Hz w F r) [.code Xdd,.inScope Ob] [(0,.string x1),(5,.slice A439 n440 c441),(8,.int .i64 s),(9,.int .i64 x443)] [.own (.slice A439 n440 c441) 84 4 n440 (x438.flatMap D9)] [Sm w.heap.size F w [],St w []]) s:=by
        intro s hs
        refine Bl.ind (mot:=(fun (s:Int)=>∀ (_:Unit),G (Hz w F r) [.code Xdd,.inScope Ob] [(0,.string x1),(5,.slice A439 n440 c441),(8,.int .i64 s),(9,.int .i64 x443)] [.own (.slice A439 n440 c441) 84 4 n440 (x438.flatMap D9)] [Sm w.heap.size F w [],St w []])) ?_ hs
        clear hs s
        intro x960 o2 h hO2
        show ∀ (_:Unit),G (Hz w F r) [.code Xdd,.inScope Ob] [(0,.string x1),(5,.slice A439 n440 c441),(8,.int .i64 x960),(9,.int .i64 x443)] [.own (.slice A439 n440 c441) 84 4 n440 (x438.flatMap D9)] [Sm w.heap.size F w [],St w []]
        intro _
        have h:Nz x1 x443 x438 x960 o2:=h
        unfold Nz at h
        refine Ah rfl<|Ah rfl ?_
        have j5:∀ (x1033:Bool) (h:Nv x960 x443 x1 x438 x1033 o2) ,G (Hz w F r) [.code q59c67,.code q59c65,.inScope Ob] [(0,.string x1),(5,.slice A439 n440 c441),(8,.int .i64 x960),(9,.int .i64 x443),(87,.bool x1033)] [.own (.slice A439 n440 c441) 84 4 n440 (x438.flatMap D9)] [Sm w.heap.size F w [],St w []]:=by
         intro x1033 h
         unfold Nv at h
         by_cases hp1034:x1033=true
         ·have h:=Ap hp1034 h
          refine Bz rfl _ rfl (hp1034)<|Ah rfl<|Ac rfl rfl<|Aa 0 rfl (Ad rfl) gn rfl<|Aa 1 rfl (Be rfl rfl rfl) gn rfl<|Aa 2 rfl (Af rfl) gn rfl<|Aj 3 rfl<|Qm [.code (.seq .skip Xdd),.inScope Ob] rfl rfl<|Ah rfl<|Cb rfl ?_
          have ih:=Out.inl hO2 h
          exact Dc [0,1] (ih ()) ⟨rfl,rfl,rfl,rfl,trivial⟩ (.cons_cons _ (.slnil)) rfl
         ·have h:=Aq hp1034 h
          refine Bg rfl _ rfl ((bf hp1034))<|Cb rfl<|Ah rfl<|Ah rfl<|Ac rfl rfl<|Aa 0 rfl (Ad rfl) gn rfl<|Aa 1 rfl (Ad rfl) gn rfl<|Aa 2 rfl (Be rfl rfl rfl) gn rfl<|Aa 3 rfl (Be rfl rfl rfl) gn rfl<|Aj 4 rfl ?_
          by_cases hp1035:w64 (x960 - x443) > 24
          ·have h:=Ap hp1035 h
           refine Bz rfl _ rfl ((decide_eq_true hp1035))<|Ah rfl<|Ac rfl rfl<|Aa 0 rfl (Ad rfl) gn rfl<|Aa 1 rfl (Af rfl) gn rfl<|Aa 2 rfl (Af rfl) gn rfl<|Aa 3 rfl (Af rfl) gn rfl<|Aj 4 rfl<|Nr 84 4 ?_
           have h:=Out.inr hO2 h
           have h:=Out.inr hO1 h
           refine C9 [.slice none 0 0,.int .i64 83,.int .i64 x443] rfl Tryd.func59 rfl (.tmp rfl (.tmp rfl (.tmp rfl (.nil)))) fun wr hLr=>?_
           have hMr:=hLr.pkI (.c 0 rfl .n) (.c 1 rfl .n) (by kernel_rfl) (.c 1 rfl .n)
           show Oq w F  r (.returned (Ci [.slice none 0 0,.int .i64 83,.int .i64 x443])) wr
           rw [h]
           exact ⟨none,0,0,rfl,hMr,(Ow.nil (z:=w.heap.size))⟩
          ·have h:=Aq hp1035 h
           refine Bg rfl _ rfl ((decide_eq_false hp1035))<|Cb rfl<|Ah rfl<|Ac rfl rfl<|Aa 0 rfl (Ad rfl) gn rfl<|Aa 1 rfl (Ad rfl) gn rfl<|Aa 2 rfl (Ad rfl) gn rfl<|Aa 3 rfl (Ad rfl) gn rfl ?_
           obtain ⟨hb1036,h⟩:=h
           refine Aa 4 rfl (Xk4 x443 x960 Nl rfl (.inr ⟨_,_,rfl,rfl⟩) (.inr ⟨_,_,rfl,rfl⟩) ⟨hb1036.1,hb1036.2.1⟩ hb1036.2.2) gn rfl<|Aa 5 rfl (Ad rfl) gn rfl<|Aa 6 rfl (J5 #[.int .i64 1,.string (x1.extract (x443:Int).toNat (x960:Int).toNat),.int .i64 0,.int .i64 x443] Xgp rfl (by kernel_rfl)) gn rfl ?_
           refine Cf 7 rfl (Gw (xs:=([(⟨1,x1.extract (x443:Int).toNat (x960:Int).toNat,0,x443⟩:Ak)]:List Ak)) [.int .i64 1,.string (x1.extract (x443:Int).toNat (x960:Int).toNat),.int .i64 0,.int .i64 x443] Xc5 rfl (by kernel_rfl) rfl rfl rfl rfl fun gb1038 h1039=>?_) gn
           obtain ⟨x1043,hv1044,h⟩:=h
           obtain ⟨hb1045,h⟩:=h
           refine Cf 8 rfl (L8 (zs:=x1043) (cells':=x1043.flatMap D9) 1 Xie rfl rfl rfl h442 (Nat.le_refl _) (Src.ownF (hl:=Ei) (h1:=Eh) 0 rfl h1039) (by rw [hv1044,List.flatMap_append] <;> rfl) (Ff hv1044 h1039.hq) hb1045 rfl rfl fun A1040 c1041 h1042=>?_) gn
           refine Aa 9 rfl (Af rfl) gn rfl<|Aj 10 rfl<|Ah rfl<|Qm [.code (.seq .skip Yg),.inScope Ob] rfl rfl<|Ah rfl<|Cb rfl ?_
           have h:=Out.inr hO2 h
           have ih:=Out.inl hO1 h
           exact Dc [0,1] (ih A1040 (n440 + 1) c1041 h1042) ⟨rfl,rfl,rfl,trivial⟩ (.cons _ (.cons_cons _ (.slnil))) rfl
        refine Ac rfl rfl<|Aa 0 rfl (Ad rfl) gn rfl<|Aa 1 rfl (Ad rfl) gn rfl<|Aa 2 rfl (Rh Nl rfl) gn rfl<|Aa 3 rfl (Be rfl rfl rfl) gn rfl<|Aa 4 rfl (Ad rfl) gn rfl ?_
        by_cases hp1046:x960 < (x1.size:Int)
        ·have h:=Ap hp1046 h
         refine Bv 76 rfl ((decide_eq_true hp1046))<|Aa 5 rfl (Ad rfl) (gy 76 rfl rfl) rfl<|Aa 6 rfl (Ad rfl) (gy 76 rfl rfl) rfl ?_
         obtain ⟨hb1047,h⟩:=h
         refine Aa 7 rfl (Ia Nl rfl rfl hb1047) (gy 76 rfl rfl) rfl ?_
         obtain ⟨r1051,hv1052,h⟩:=h
         refine Cf 8 rfl (D8 [.int .u8 (bt x1 x960)] rfl Tryd.func82 rfl rfl rfl fun w1048 hL1049=>?_) (gy 76 rfl rfl)
         have hp1050:=pmI hL1049 .n (.c 0 rfl .n) (by kernel_rfl)
         refine Calls.mono (Ur w1048 (Fl ([]:List Cc)) (bt x1 x960) (hL1049.hFl hp1050 (Bi [] rfl)) (hL1049.into hp1050 _) r1051 hv1052) ?_
         rintro _ w1053 ⟨rfl,hM1054⟩
         have hL1055:=hL1049.call hp1050 hM1054
         refine ⟨_,_,_,rfl,hL1055,?_⟩
         refine Aa 9 rfl (Ad rfl) (gy 76 rfl rfl) rfl ?_
         by_cases hp1056:r1051=true
         ·have h:=Ap hp1056 h
          refine Bv 81 rfl (hp1056)<|Ae 10 rfl (ps 81 rfl rfl rfl)<|Ae 11 rfl (ps 81 rfl rfl rfl)<|Ae 12 rfl (ps 81 rfl rfl rfl)<|Ae 13 rfl (ps 81 rfl rfl rfl)<|Aa 14 rfl (Bd (b:=true) rfl rfl) (gy 76 rfl rfl) rfl<|Aa 15 rfl (Bd (b:=true) rfl rfl) gn rfl<|Aj 16 rfl ?_
          exact Dc [0,1] (j5 true h) ⟨rfl,rfl,rfl,rfl,rfl,trivial⟩ (.cons_cons _ (.slnil)) rfl
         ·have h:=Aq hp1056 h
          refine Bv 81 rfl ((bf hp1056))<|Aa 10 rfl (Ad rfl) (gy 81 rfl rfl) rfl<|Aa 11 rfl (Ad rfl) (gy 81 rfl rfl) rfl<|Aa 12 rfl (Ia Nl rfl rfl hb1047) (gy 81 rfl rfl) rfl ?_
          obtain ⟨r1060,hv1061,h⟩:=h
          refine Cf 13 rfl (D8 [.int .u8 (bt x1 x960)] rfl Tryd.func83 rfl rfl rfl fun w1057 hL1058=>?_) (gy 81 rfl rfl)
          have hp1059:=pmI hL1058 .n (.c 0 rfl .n) (by kernel_rfl)
          refine Calls.mono (N9 w1057 (Fl ([]:List Cc)) (bt x1 x960) (hL1058.hFl hp1059 (Bi [] rfl)) (hL1058.into hp1059 _) r1060 hv1061) ?_
          rintro _ w1062 ⟨rfl,hM1063⟩
          have hL1064:=hL1058.call hp1059 hM1063
          refine ⟨_,_,_,rfl,hL1064,?_⟩
          refine Aa 14 rfl (Bd (b:=false) rfl rfl) (gy 76 rfl rfl) rfl<|Aa 15 rfl (Bd (b:=true) rfl rfl) gn rfl<|Aj 16 rfl ?_
          exact Dc [0,1] (j5 r1060 h) ⟨rfl,rfl,rfl,rfl,rfl,trivial⟩ (.cons_cons _ (.slnil)) rfl
        ·have h:=Aq hp1046 h
         refine Bv 76 rfl ((decide_eq_false hp1046))<|Ae 5 rfl (ps 76 rfl rfl rfl)<|Ae 6 rfl (ps 76 rfl rfl rfl)<|Ae 7 rfl (ps 76 rfl rfl rfl)<|Ae 8 rfl (ps 76 rfl rfl rfl)<|Ae 9 rfl (ps 76 rfl rfl rfl)<|Ae 10 rfl (pu 81 rfl rfl)<|Ae 11 rfl (pu 81 rfl rfl)<|Ae 12 rfl (pu 81 rfl rfl)<|Ae 13 rfl (pu 81 rfl rfl)<|Ae 14 rfl (ps 76 rfl rfl rfl)<|Aa 15 rfl (Bd (b:=false) rfl rfl) gn rfl ?_
         refine Aj 16 rfl ?_
         exact Dc [0,1] (j5 false h) ⟨rfl,rfl,rfl,rfl,rfl,trivial⟩ (.cons_cons _ (.slnil)) rfl
       exact Dc [0,1] (key4 _ h ()) ⟨rfl,rfl,rfl,rfl,trivial⟩ (.cons_cons _ (.slnil)) rfl
      ·have h:=Aq hp908 h
       refine Bg rfl _ rfl ((bf hp908))<|Ah rfl<|Ac rfl rfl<|Aa 0 rfl (Ad rfl) gn rfl ?_
       obtain ⟨r1068,hv1069,h⟩:=h
       refine Cf 1 rfl (D8 [.int .u8 (bt x1 x443)] rfl Tryd.func83 rfl rfl rfl fun w1065 hL1066=>?_) gn
       have hp1067:=pmI hL1066 .n (.c 0 rfl .n) (by kernel_rfl)
       refine Calls.mono (N9 w1065 (Fl ([]:List Cc)) (bt x1 x443) (hL1066.hFl hp1067 (Bi [] rfl)) (hL1066.into hp1067 _) r1068 hv1069) ?_
       rintro _ w1070 ⟨rfl,hM1071⟩
       have hL1072:=hL1066.call hp1067 hM1071
       refine ⟨_,_,_,rfl,hL1072,?_⟩
       refine Aa 2 rfl (Af rfl) gn rfl<|Aj 3 rfl ?_
       by_cases hp1073:r1068=true
       ·have h:=Ap hp1073 h
        refine Bz rfl _ rfl (hp1073)<|Ah rfl<|Ac rfl rfl<|Aa 0 rfl (Af rfl) gn rfl<|Aj 1 rfl<|Qm [.code (.seq .skip Xcw),.inScope Ob] rfl rfl<|Ah rfl<|Cb rfl ?_
        have key6:∀ s,Bl (fun (s:Int × Int) o=>Jy x1 x443 x438 s.1 s.2 o) s o1→(fun (s:Int × Int)=>∀ (_:Unit),G (Hz w F r) [.code Xcw,.inScope Ob] [(0,.string x1),(5,.slice A439 n440 c441),(8,.int .i64 s.1),(9,.int .i64 x443),(10,.int .i64 s.2)] [.own (.slice A439 n440 c441) 84 4 n440 (x438.flatMap D9)] [Sm w.heap.size F w [],St w []]) s:=by
         intro s hs
         refine Bl.ind (mot:=(fun (s:Int × Int)=>∀ (_:Unit),G (Hz w F r) [.code Xcw,.inScope Ob] [(0,.string x1),(5,.slice A439 n440 c441),(8,.int .i64 s.1),(9,.int .i64 x443),(10,.int .i64 s.2)] [.own (.slice A439 n440 c441) 84 4 n440 (x438.flatMap D9)] [Sm w.heap.size F w [],St w []])) ?_ hs
         clear hs s
         intro s o2 h hO2
         obtain ⟨x1105,x1106⟩:=s
         show ∀ (_:Unit),G (Hz w F r) [.code Xcw,.inScope Ob] [(0,.string x1),(5,.slice A439 n440 c441),(8,.int .i64 x1105),(9,.int .i64 x443),(10,.int .i64 x1106)] [.own (.slice A439 n440 c441) 84 4 n440 (x438.flatMap D9)] [Sm w.heap.size F w [],St w []]
         intro _
         have h:Jy x1 x443 x438 x1105 x1106 o2:=h
         unfold Jy at h
         refine Ah rfl<|Ah rfl ?_
         have j7:∀ (x1152:Bool) (h:Oz x1105 x1 x1106 x443 x438 x1152 o2) ,G (Hz w F r) [.code q59c94,.code q59c92,.inScope Ob] [(0,.string x1),(5,.slice A439 n440 c441),(8,.int .i64 x1105),(9,.int .i64 x443),(10,.int .i64 x1106),(113,.bool x1152)] [.own (.slice A439 n440 c441) 84 4 n440 (x438.flatMap D9)] [Sm w.heap.size F w [],St w []]:=by
          intro x1152 h
          unfold Oz at h
          by_cases hp1153:x1152=true
          ·have h:=Ap hp1153 h
           refine Bz rfl _ rfl (hp1153)<|Ah rfl<|Ac rfl rfl<|Aa 0 rfl (Ad rfl) gn rfl<|Aa 1 rfl (Be rfl rfl rfl) gn rfl<|Aa 2 rfl (Ad rfl) gn rfl<|Aa 3 rfl (Ad rfl) gn rfl ?_
           obtain ⟨hb1154,h⟩:=h
           refine Aa 4 rfl (Ia Nl rfl rfl hb1154) gn rfl<|Aa 5 rfl (Be rfl rfl rfl) gn rfl<|Aa 6 rfl (v_conv ⟨_,un_5⟩ un_3 rfl) gn rfl<|Aa 7 rfl (Be rfl rfl rfl) gn rfl<|Aa 8 rfl (v_min rfl rfl) gn rfl<|Aa 9 rfl (Af rfl) gn rfl<|Aj 10 rfl<|Ah rfl<|Ac rfl rfl<|Aa 0 rfl (Ad rfl) gn rfl<|Aa 1 rfl (Be rfl rfl rfl) gn rfl<|Aa 2 rfl (Af rfl) gn rfl ?_
           refine Aj 3 rfl<|Qm [.code (.seq .skip Xcw),.inScope Ob] rfl rfl<|Ah rfl<|Cb rfl ?_
           have ih:=Out.inl hO2 h
           exact Dc [0,1] (ih ()) ⟨rfl,rfl,rfl,rfl,rfl,trivial⟩ (.cons_cons _ (.slnil)) rfl
          ·have h:=Aq hp1153 h
           refine Bg rfl _ rfl ((bf hp1153))<|Cb rfl<|Ah rfl<|Ah rfl<|Ac rfl rfl<|Aa 0 rfl (Ad rfl) gn rfl<|Aa 1 rfl (Be rfl rfl rfl) gn rfl<|Aj 2 rfl ?_
           by_cases hp1155:x1106 > 65535
           ·have h:=Ap hp1155 h
            refine Bz rfl _ rfl ((decide_eq_true hp1155))<|Ah rfl<|Ac rfl rfl<|Aa 0 rfl (Ad rfl) gn rfl<|Aa 1 rfl (Af rfl) gn rfl<|Aa 2 rfl (Af rfl) gn rfl<|Aa 3 rfl (Af rfl) gn rfl<|Aj 4 rfl<|Nr 84 4 ?_
            have h:=Out.inr hO2 h
            have h:=Out.inr hO1 h
            refine C9 [.slice none 0 0,.int .i64 84,.int .i64 x443] rfl Tryd.func59 rfl (.tmp rfl (.tmp rfl (.tmp rfl (.nil)))) fun wr hLr=>?_
            have hMr:=hLr.pkI (.c 0 rfl .n) (.c 1 rfl .n) (by kernel_rfl) (.c 1 rfl .n)
            show Oq w F  r (.returned (Ci [.slice none 0 0,.int .i64 84,.int .i64 x443])) wr
            rw [h]
            exact ⟨none,0,0,rfl,hMr,(Ow.nil (z:=w.heap.size))⟩
           ·have h:=Aq hp1155 h
            refine Bg rfl _ rfl ((decide_eq_false hp1155))<|Cb rfl<|Ah rfl<|Ac rfl rfl<|Aa 0 rfl (Ad rfl) gn rfl<|Aa 1 rfl (Ad rfl) gn rfl<|Aa 2 rfl (Ad rfl) gn rfl<|Aa 3 rfl (J5 #[.int .i64 4,.string (⟨#[]⟩:ByteArray),.int .i64 x1106,.int .i64 x443] Xgp rfl (by kernel_rfl)) gn rfl ?_
            refine Cf 4 rfl (Gw (xs:=([(⟨4,(⟨#[]⟩:ByteArray),x1106,x443⟩:Ak)]:List Ak)) [.int .i64 4,.string (⟨#[]⟩:ByteArray),.int .i64 x1106,.int .i64 x443] Xc5 rfl (by kernel_rfl) rfl rfl rfl rfl fun gb1157 h1158=>?_) gn
            obtain ⟨x1162,hv1163,h⟩:=h
            obtain ⟨hb1164,h⟩:=h
            refine Cf 5 rfl (L8 (zs:=x1162) (cells':=x1162.flatMap D9) 1 Xie rfl rfl rfl h442 (Nat.le_refl _) (Src.ownF (hl:=Ei) (h1:=Eh) 0 rfl h1158) (by rw [hv1163,List.flatMap_append] <;> rfl) (Ff hv1163 h1158.hq) hb1164 rfl rfl fun A1159 c1160 h1161=>?_) gn
            refine Aa 6 rfl (Af rfl) gn rfl<|Aj 7 rfl<|Ah rfl<|Qm [.code (.seq .skip Yg),.inScope Ob] rfl rfl<|Ah rfl<|Cb rfl ?_
            have h:=Out.inr hO2 h
            have ih:=Out.inl hO1 h
            exact Dc [0,1] (ih A1159 (n440 + 1) c1160 h1161) ⟨rfl,rfl,rfl,trivial⟩ (.cons _ (.cons_cons _ (.slnil))) rfl
         refine Ac rfl rfl<|Aa 0 rfl (Ad rfl) gn rfl<|Aa 1 rfl (Ad rfl) gn rfl<|Aa 2 rfl (Rh Nl rfl) gn rfl<|Aa 3 rfl (Be rfl rfl rfl) gn rfl<|Aa 4 rfl (Ad rfl) gn rfl ?_
         by_cases hp1165:x1105 < (x1.size:Int)
         ·have h:=Ap hp1165 h
          refine Bv 108 rfl ((decide_eq_true hp1165))<|Aa 5 rfl (Ad rfl) (gy 108 rfl rfl) rfl<|Aa 6 rfl (Ad rfl) (gy 108 rfl rfl) rfl ?_
          obtain ⟨hb1166,h⟩:=h
          refine Aa 7 rfl (Ia Nl rfl rfl hb1166) (gy 108 rfl rfl) rfl ?_
          obtain ⟨r1170,hv1171,h⟩:=h
          refine Cf 8 rfl (D8 [.int .u8 (bt x1 x1105)] rfl Tryd.func83 rfl rfl rfl fun w1167 hL1168=>?_) (gy 108 rfl rfl)
          have hp1169:=pmI hL1168 .n (.c 0 rfl .n) (by kernel_rfl)
          refine Calls.mono (N9 w1167 (Fl ([]:List Cc)) (bt x1 x1105) (hL1168.hFl hp1169 (Bi [] rfl)) (hL1168.into hp1169 _) r1170 hv1171) ?_
          rintro _ w1172 ⟨rfl,hM1173⟩
          have hL1174:=hL1168.call hp1169 hM1173
          refine ⟨_,_,_,rfl,hL1174,?_⟩
          refine Aa 9 rfl (Bd (b:=true) rfl rfl) gn rfl<|Aj 10 rfl ?_
          exact Dc [0,1] (j7 r1170 h) ⟨rfl,rfl,rfl,rfl,rfl,rfl,trivial⟩ (.cons_cons _ (.slnil)) rfl
         ·have h:=Aq hp1165 h
          refine Bv 108 rfl ((decide_eq_false hp1165))<|Ae 5 rfl (ps 108 rfl rfl rfl)<|Ae 6 rfl (ps 108 rfl rfl rfl)<|Ae 7 rfl (ps 108 rfl rfl rfl)<|Ae 8 rfl (ps 108 rfl rfl rfl)<|Aa 9 rfl (Bd (b:=false) rfl rfl) gn rfl<|Aj 10 rfl ?_
          exact Dc [0,1] (j7 false h) ⟨rfl,rfl,rfl,rfl,rfl,rfl,trivial⟩ (.cons_cons _ (.slnil)) rfl
        exact Dc [0,1] (key6 _ h ()) ⟨rfl,rfl,rfl,rfl,rfl,trivial⟩ (.cons_cons _ (.slnil)) rfl
       ·have h:=Aq hp1073 h
        refine Bg rfl _ rfl ((bf hp1073))<|Ah rfl<|Ac rfl rfl<|Aa 0 rfl (Ad rfl) gn rfl<|Aa 1 rfl (Be rfl rfl rfl) gn rfl<|Aa 2 rfl (Af rfl) gn rfl<|Aj 3 rfl ?_
        by_cases hp1175:bt x1 x443=34
        ·have h:=Ap hp1175 h
         refine Bz rfl _ rfl ((eqi hp1175))<|Qm [.code (.seq .skip Xmc),.inScope Ob] rfl rfl<|Ah rfl<|Cb rfl<|Ah rfl<|Ah rfl<|Ac rfl rfl<|Aa 0 rfl (Ad rfl) gn rfl<|Aa 1 rfl (Ad rfl) gn rfl ?_
         obtain ⟨r1203,hv1204,h⟩:=h
         refine Cf 2 rfl (D8 [.string x1,.int .i64 x443] rfl Tryd.func85 rfl rfl rfl fun w1200 hL1201=>?_) gn
         have hp1202:=pmI hL1201 .n (.c 0 rfl .n) (by kernel_rfl)
         refine Calls.mono (Xcz w1200 (Fl ([]:List Cc)) x1 x443 (hL1201.hFl hp1202 (Bi [] rfl)) (hL1201.into hp1202 _) r1203 hv1204) ?_
         rintro _ w1210 ⟨A1205,n1206,c1207,rfl,hM1211,h1208⟩
         have hL1212:=hL1201.call hp1202 hM1211
         refine ⟨_,_,_,rfl,hL1212,?_⟩
         refine Aa 3 rfl (Ad rfl) gn rfl<|Aa 4 rfl (Hm rfl rfl) gn rfl<|Aa 5 rfl (Hm rfl rfl) gn rfl<|Aa 6 rfl (Hm rfl rfl) gn rfl<|Aa 7 rfl (Af rfl) gn rfl<|Aa 8 rfl (Af rfl) gn rfl<|Aa 9 rfl (Af rfl) gn rfl<|Aj 10 rfl<|Ah rfl<|Ac rfl rfl<|Aa 0 rfl (Ad rfl) gn rfl<|Aa 1 rfl (Be rfl rfl rfl) gn rfl ?_
         refine Aj 2 rfl ?_
         by_cases hp1213:r1203.2.1=0
         ·have h:=Ap hp1213 h
          refine Bg rfl _ rfl ((Xd2 hp1213))<|Cb rfl<|Ah rfl<|Ac rfl rfl<|Aa 0 rfl (Ad rfl) gn rfl<|Aa 1 rfl (Ad rfl) gn rfl<|Aa 2 rfl (v_b2s Xlc Nl rfl (Src.ownF (hl:=(hlI .u8)) (h1:=(Ey .u8)) 0 rfl (Ow.weak hL1201.env.size h1208)) (Ow.weak hL1201.env.size h1208).hq) gn rfl<|Aa 3 rfl (Ad rfl) gn rfl<|Aa 4 rfl (J5 #[.int .i64 2,.string (Qo r1203.1),.int .i64 0,.int .i64 x443] Xgp rfl (by kernel_rfl)) gn rfl ?_
          refine Cf 5 rfl (Gw (xs:=([(⟨2,Qo r1203.1,0,x443⟩:Ak)]:List Ak)) [.int .i64 2,.string (Qo r1203.1),.int .i64 0,.int .i64 x443] Xc5 rfl (by kernel_rfl) rfl rfl rfl rfl fun gb1215 h1216=>?_) gn
          obtain ⟨x1220,hv1221,h⟩:=h
          obtain ⟨hb1222,h⟩:=h
          refine Cf 6 rfl (L8 (zs:=x1220) (cells':=x1220.flatMap D9) 2 Xie rfl rfl rfl h442 (Nat.le_refl _) (Src.ownF (hl:=Ei) (h1:=Eh) 0 rfl h1216) (by rw [hv1221,List.flatMap_append] <;> rfl) (Ff hv1221 h1216.hq) hb1222 rfl rfl fun A1217 c1218 h1219=>?_) gn
          refine Aa 7 rfl (Af rfl) gn rfl<|Aj 8 rfl<|Ah rfl<|Qm [.code (.seq .skip Yg),.inScope Ob] rfl rfl<|Ah rfl<|Cb rfl ?_
          have ih:=Out.inl hO1 h
          exact Dc [0,1] (ih A1217 (n440 + 1) c1218 h1219) ⟨rfl,rfl,rfl,trivial⟩ (.cons _ (.cons _ (.cons_cons _ (.slnil)))) rfl
         ·have h:=Aq hp1213 h
          refine Bz rfl _ rfl ((Xde hp1213))<|Ah rfl<|Ac rfl rfl<|Aa 0 rfl (Ad rfl) gn rfl<|Aa 1 rfl (Ad rfl) gn rfl<|Aa 2 rfl (Af rfl) gn rfl<|Aa 3 rfl (Af rfl) gn rfl<|Aa 4 rfl (Af rfl) gn rfl<|Aj 5 rfl<|Nr 84 4 ?_
          have h:=Out.inr hO1 h
          refine C9 [.slice none 0 0,.int .i64 r1203.2.1,.int .i64 r1203.2.2] rfl Tryd.func59 rfl (.tmp rfl (.tmp rfl (.tmp rfl (.nil)))) fun wr hLr=>?_
          have hMr:=hLr.pkI (.c 0 rfl .n) (.c 1 rfl (.c 2 rfl .n)) (by kernel_rfl) (.c 1 rfl .n)
          show Oq w F  r (.returned (Ci [.slice none 0 0,.int .i64 r1203.2.1,.int .i64 r1203.2.2])) wr
          rw [h]
          exact ⟨none,0,0,rfl,hMr,(Ow.nil (z:=w.heap.size))⟩
        ·have h:=Aq hp1175 h
         refine Bg rfl _ rfl ((nei hp1175))<|Ah rfl<|Ac rfl rfl<|Aa 0 rfl (Ad rfl) gn rfl<|Aa 1 rfl (Be rfl rfl rfl) gn rfl<|Aa 2 rfl (Af rfl) gn rfl<|Aj 3 rfl ?_
         by_cases hp1223:bt x1 x443=47
         ·have h:=Ap hp1223 h
          refine Bz rfl _ rfl ((eqi hp1223))<|Qm [.code (.seq .skip q59c136),.inScope Ob] rfl rfl<|Ah rfl<|Cb rfl<|Ah rfl<|Ah rfl<|Ac rfl rfl<|Aa 0 rfl (Ad rfl) gn rfl<|Aa 1 rfl (Ad rfl) gn rfl ?_
          obtain ⟨r1251,hv1252,h⟩:=h
          refine Cf 2 rfl (D8 [.string x1,.int .i64 x443] rfl Tryd.func86 rfl rfl rfl fun w1248 hL1249=>?_) gn
          have hp1250:=pmI hL1249 .n (.c 0 rfl .n) (by kernel_rfl)
          refine Calls.mono (Xc6 w1248 (Fl ([]:List Cc)) x1 x443 (hL1249.hFl hp1250 (Bi [] rfl)) (hL1249.into hp1250 _) r1251 hv1252) ?_
          rintro _ w1258 ⟨A1253,n1254,c1255,rfl,hM1259,h1256⟩
          have hL1260:=hL1249.call hp1250 hM1259
          refine ⟨_,_,_,rfl,hL1260,?_⟩
          refine Aa 3 rfl (Ad rfl) gn rfl<|Aa 4 rfl (Hm rfl rfl) gn rfl<|Aa 5 rfl (Hm rfl rfl) gn rfl<|Aa 6 rfl (Hm rfl rfl) gn rfl<|Aa 7 rfl (Af rfl) gn rfl<|Aa 8 rfl (Af rfl) gn rfl<|Aa 9 rfl (Af rfl) gn rfl<|Aj 10 rfl<|Ah rfl<|Ac rfl rfl<|Aa 0 rfl (Ad rfl) gn rfl<|Aa 1 rfl (Be rfl rfl rfl) gn rfl ?_
          refine Aj 2 rfl ?_
          by_cases hp1261:r1251.2.1=0
          ·have h:=Ap hp1261 h
           refine Bg rfl _ rfl ((Xd2 hp1261))<|Cb rfl<|Ah rfl<|Ac rfl rfl<|Aa 0 rfl (Ad rfl) gn rfl<|Aa 1 rfl (Ad rfl) gn rfl<|Aa 2 rfl (v_b2s Xlc Nl rfl (Src.ownF (hl:=(hlI .u8)) (h1:=(Ey .u8)) 0 rfl (Ow.weak hL1249.env.size h1256)) (Ow.weak hL1249.env.size h1256).hq) gn rfl<|Aa 3 rfl (Ad rfl) gn rfl<|Aa 4 rfl (J5 #[.int .i64 3,.string (Qo r1251.1),.int .i64 0,.int .i64 x443] Xgp rfl (by kernel_rfl)) gn rfl ?_
           refine Cf 5 rfl (Gw (xs:=([(⟨3,Qo r1251.1,0,x443⟩:Ak)]:List Ak)) [.int .i64 3,.string (Qo r1251.1),.int .i64 0,.int .i64 x443] Xc5 rfl (by kernel_rfl) rfl rfl rfl rfl fun gb1263 h1264=>?_) gn
           obtain ⟨x1268,hv1269,h⟩:=h
           obtain ⟨hb1270,h⟩:=h
           refine Cf 6 rfl (L8 (zs:=x1268) (cells':=x1268.flatMap D9) 2 Xie rfl rfl rfl h442 (Nat.le_refl _) (Src.ownF (hl:=Ei) (h1:=Eh) 0 rfl h1264) (by rw [hv1269,List.flatMap_append] <;> rfl) (Ff hv1269 h1264.hq) hb1270 rfl rfl fun A1265 c1266 h1267=>?_) gn
           refine Aa 7 rfl (Af rfl) gn rfl<|Aj 8 rfl<|Qm [.code (.seq .skip Yg),.inScope Ob] rfl rfl<|Ah rfl<|Cb rfl ?_
           have ih:=Out.inl hO1 h
           exact Dc [0,1] (ih A1265 (n440 + 1) c1266 h1267) ⟨rfl,rfl,rfl,trivial⟩ (.cons _ (.cons _ (.cons_cons _ (.slnil)))) rfl
          ·have h:=Aq hp1261 h
           refine Bz rfl _ rfl ((Xde hp1261))<|Ah rfl<|Ac rfl rfl<|Aa 0 rfl (Ad rfl) gn rfl<|Aa 1 rfl (Ad rfl) gn rfl<|Aa 2 rfl (Af rfl) gn rfl<|Aa 3 rfl (Af rfl) gn rfl<|Aa 4 rfl (Af rfl) gn rfl<|Aj 5 rfl<|Nr 84 4 ?_
           have h:=Out.inr hO1 h
           refine C9 [.slice none 0 0,.int .i64 r1251.2.1,.int .i64 r1251.2.2] rfl Tryd.func59 rfl (.tmp rfl (.tmp rfl (.tmp rfl (.nil)))) fun wr hLr=>?_
           have hMr:=hLr.pkI (.c 0 rfl .n) (.c 1 rfl (.c 2 rfl .n)) (by kernel_rfl) (.c 1 rfl .n)
           show Oq w F  r (.returned (Ci [.slice none 0 0,.int .i64 r1251.2.1,.int .i64 r1251.2.2])) wr
           rw [h]
           exact ⟨none,0,0,rfl,hMr,(Ow.nil (z:=w.heap.size))⟩
         ·have h:=Aq hp1223 h
          refine Bg rfl _ rfl ((nei hp1223))<|Ah rfl<|Ac rfl rfl<|Aa 0 rfl (Ad rfl) gn rfl ?_
          obtain ⟨r1274,hv1275,h⟩:=h
          refine Cf 1 rfl (D8 [.string (⟨#[123,125,40,41,124,42,43,63,58,59,44,61,64]⟩:ByteArray),.int .u8 (bt x1 x443)] rfl Tryd.func84 rfl rfl rfl fun w1271 hL1272=>?_) gn
          have hp1273:=pmI hL1272 .n (.c 0 rfl .n) (by kernel_rfl)
          refine Calls.mono (Xa8 w1271 (Fl ([]:List Cc)) (⟨#[123,125,40,41,124,42,43,63,58,59,44,61,64]⟩:ByteArray) (bt x1 x443) (hL1272.hFl hp1273 (Bi [] rfl)) (hL1272.into hp1273 _) r1274 hv1275) ?_
          rintro _ w1276 ⟨rfl,hM1277⟩
          have hL1278:=hL1272.call hp1273 hM1277
          refine ⟨_,_,_,rfl,hL1278,?_⟩
          refine Aa 2 rfl (Be rfl rfl rfl) gn rfl<|Aa 3 rfl (Af rfl) gn rfl<|Aj 4 rfl ?_
          by_cases hp1279:r1274≥0
          ·have h:=Ap hp1279 h
           refine Bz rfl _ rfl ((decide_eq_true hp1279))<|Ah rfl<|Ac rfl rfl<|Aa 0 rfl (Ad rfl) gn rfl<|Aa 1 rfl (Be rfl rfl rfl) gn rfl<|Aa 2 rfl (Af rfl) gn rfl<|Aj 3 rfl<|Ah rfl<|Ac rfl rfl<|Aa 0 rfl (Ad rfl) gn rfl<|Aa 1 rfl (Ad rfl) gn rfl<|Aa 2 rfl (Ad rfl) gn rfl ?_
           refine Aa 3 rfl (Ad rfl) gn rfl ?_
           obtain ⟨hb1280,h⟩:=h
           refine Aa 4 rfl (Xk4 x443 (w64 (x443 + 1)) Nl rfl (.inr ⟨_,_,rfl,rfl⟩) (.inr ⟨_,_,rfl,rfl⟩) ⟨hb1280.1,hb1280.2.1⟩ hb1280.2.2) gn rfl<|Aa 5 rfl (Ad rfl) gn rfl<|Aa 6 rfl (J5 #[.int .i64 5,.string (x1.extract (x443:Int).toNat (w64 (x443 + 1):Int).toNat),.int .i64 0,.int .i64 x443] Xgp rfl (by kernel_rfl)) gn rfl ?_
           refine Cf 7 rfl (Gw (xs:=([(⟨5,x1.extract (x443:Int).toNat (w64 (x443 + 1):Int).toNat,0,x443⟩:Ak)]:List Ak)) [.int .i64 5,.string (x1.extract (x443:Int).toNat (w64 (x443 + 1):Int).toNat),.int .i64 0,.int .i64 x443] Xc5 rfl (by kernel_rfl) rfl rfl rfl rfl fun gb1282 h1283=>?_) gn
           obtain ⟨x1287,hv1288,h⟩:=h
           obtain ⟨hb1289,h⟩:=h
           refine Cf 8 rfl (L8 (zs:=x1287) (cells':=x1287.flatMap D9) 1 Xie rfl rfl rfl h442 (Nat.le_refl _) (Src.ownF (hl:=Ei) (h1:=Eh) 0 rfl h1283) (by rw [hv1288,List.flatMap_append] <;> rfl) (Ff hv1288 h1283.hq) hb1289 rfl rfl fun A1284 c1285 h1286=>?_) gn
           refine Aa 9 rfl (Af rfl) gn rfl<|Aj 10 rfl<|Qm [.code (.seq .skip Yg),.inScope Ob] rfl rfl<|Ah rfl<|Cb rfl ?_
           have ih:=Out.inl hO1 h
           exact Dc [0,1] (ih A1284 (n440 + 1) c1285 h1286) ⟨rfl,rfl,rfl,trivial⟩ (.cons _ (.cons_cons _ (.slnil))) rfl
          ·have h:=Aq hp1279 h
           refine Bg rfl _ rfl ((decide_eq_false hp1279))<|Cb rfl<|D7<|Ah rfl<|Ah rfl<|Ac rfl rfl<|Aa 0 rfl (Ad rfl) gn rfl<|Aa 1 rfl (Af rfl) gn rfl<|Aa 2 rfl (Af rfl) gn rfl<|Aa 3 rfl (Af rfl) gn rfl<|Aj 4 rfl<|Nr 84 4 ?_
           have h:=Out.inr hO1 h
           refine C9 [.slice none 0 0,.int .i64 81,.int .i64 x443] rfl Tryd.func59 rfl (.tmp rfl (.tmp rfl (.tmp rfl (.nil)))) fun wr hLr=>?_
           have hMr:=hLr.pkI (.c 0 rfl .n) (.c 1 rfl .n) (by kernel_rfl) (.c 1 rfl .n)
           show Oq w F  r (.returned (Ci [.slice none 0 0,.int .i64 81,.int .i64 x443])) wr
           rw [h]
           exact ⟨none,0,0,rfl,hMr,(Ow.nil (z:=w.heap.size))⟩
  refine Nr 84 4 ?_
  exact Dc [0,1] (key1 _ h none 0 0 (Ow.nil (z:=w.heap.size))) ⟨rfl,rfl,rfl,trivial⟩ (.cons_cons _ (.slnil)) rfl
abbrev Pi (w:World) (F:Nat→Prop) (g2:Nat) (Tb3:Nat) (A8:Option Addr) (n9:Nat) (c10:Nat) (z12:Nat) (A14:Option Addr) (n15:Nat) (c16:Nat) (z18:Nat) (r:Bool × Ai):Ending→World→Prop:=fun e w'=>∃ A1:Option Addr,∃ n1:Nat,∃ c1:Nat,∃ A2:Option Addr,∃ n2:Nat,∃ c2:Nat,∃ A0:Option Addr,∃ n0:Nat,∃ c0:Nat,e=.returned (.bool r.1)∧B.Loc w w' [.box g2 Tb3 [.slice A0 n0 c0,.int .i64 r.2.at_,.int .i64 r.2.end_,.slice A1 n1 c1,.slice A2 n2 c2,.int .i64 r.2.code,.int .i64 r.2.place],.own (.slice A1 n1 c1) 45 5 n1 (r.2.q.nodes.flatMap Am),.own (.slice A2 n2 c2) 47 4 n2 (r.2.q.conds.flatMap Bj)] [St w [[g2],(Value.slice A8 n9 c10).ownBlock.toList,(Value.slice A14 n15 c16).ownBlock.toList]]∧Ow z12 A1 n1 c1 r.2.q.nodes∧Ow z18 A2 n2 c2 r.2.q.conds∧Rw D5 w' (Nw w w' F [.box g2 Tb3 [.slice A0 n0 c0,.int .i64 r.2.at_,.int .i64 r.2.end_,.slice A1 n1 c1,.slice A2 n2 c2,.int .i64 r.2.code,.int .i64 r.2.place],.own (.slice A1 n1 c1) 45 5 n1 (r.2.q.nodes.flatMap Am),.own (.slice A2 n2 c2) 47 4 n2 (r.2.q.conds.flatMap Bj)]) A0 n0 c0 r.2.words
noncomputable abbrev Xe5 (w:World) (F:Nat→Prop) (g2:Nat) (Tb3:Nat) (A8:Option Addr) (n9:Nat) (c10:Nat) (z12:Nat) (A14:Option Addr) (n15:Nat) (c16:Nat) (z18:Nat) (r:Bool × Ai):Cx:=⟨Tryd.prog,91,Tryd.f91,40,Pi w F g2 Tb3 A8 n9 c10 z12 A14 n15 c16 z18 r,w⟩
theorem H6 (w:World) (F:Nat→Prop) (x1:Ai) (x20:Int) (x21:Int) (x22:ByteArray) (g2:Nat) (Tb3:Nat) (A4:Option Addr) (n5:Nat) (c6:Nat) (z12:Nat) (A8:Option Addr) (n9:Nat) (c10:Nat) (z18:Nat) (A14:Option Addr) (n15:Nat) (c16:Nat) (h7:Rw D5 w F A4 n5 c6 x1.words) (hz13:z12≤w.heap.size) (h11:Ow z12 A8 n9 c10 x1.q.nodes) (hz19:z18≤w.heap.size) (h17:Ow z18 A14 n15 c16 x1.q.conds) (hF:∀ b,F b→b < w.heap.size∧∀ o ∈ ([[g2],(Value.slice A8 n9 c10).ownBlock.toList,(Value.slice A14 n15 c16).ownBlock.toList]:List (List Nat)),b ∉ o) (hL0:B.Loc w w [.box g2 Tb3 [.slice A4 n5 c6,.int .i64 x1.at_,.int .i64 x1.end_,.slice A8 n9 c10,.slice A14 n15 c16,.int .i64 x1.code,.int .i64 x1.place],.own (.slice A8 n9 c10) 45 5 n9 (x1.q.nodes.flatMap Am),.own (.slice A14 n15 c16) 47 4 n15 (x1.q.conds.flatMap Bj)] [Sm w.heap.size F w [[g2],(Value.slice A8 n9 c10).ownBlock.toList,(Value.slice A14 n15 c16).ownBlock.toList],St w [[g2],(Value.slice A8 n9 c10).ownBlock.toList,(Value.slice A14 n15 c16).ownBlock.toList]]) (r:Bool × Ai) (h:F9 x1 x20 x21 x22 r):Calls Tryd.prog 91 #[.pointer (some ⟨g2,0,none⟩),.int .i64 x20,.int .i64 x21,.string x22] w (Pi w F g2 Tb3 A8 n9 c10 z12 A14 n15 c16 z18 r):=by
 unfold F9 at h
 have h7:=Rw.into (bs:=[[g2],(Value.slice A8 n9 c10).ownBlock.toList,(Value.slice A14 n15 c16).ownBlock.toList]) hF h7
 refine Ce (vs:=[.pointer (some ⟨g2,0,none⟩),.int .i64 x20,.int .i64 x21,.string x22]) 40 Tryd.func91 rfl Tryd.ntmps91 rfl hL0 ?_
 show G (Xe5 w F g2 Tb3 A8 n9 c10 z12 A14 n15 c16 z18 r) _ _ _ _
 refine Ah rfl<|Ac rfl rfl<|Aa 0 rfl (Af rfl) gn rfl<|Aj 1 rfl<|Ah rfl<|Ac rfl rfl<|Aa 0 rfl (Ad rfl) gn rfl<|Aa 1 rfl (Ad rfl) gn rfl<|Aa 2 rfl (Bc rfl) gn rfl<|Aa 3 rfl (Aw Hr rfl) gn rfl<|Aa 4 rfl (Au 0 Np rfl rfl rfl) gn rfl<|Aa 5 rfl (Dj Zh rfl h7.hq) gn rfl ?_
 refine Aa 6 rfl (Be rfl rfl rfl) gn rfl<|Aa 7 rfl (Ad rfl) gn rfl ?_
 by_cases hp23:x20 < (x1.words.length:Int)
 ·have h:=Ap hp23 h
  refine Bv 16 rfl ((decide_eq_true hp23))<|Aa 8 rfl (Ad rfl) (gy 16 rfl rfl) rfl<|Aa 9 rfl (Bc rfl) (gy 16 rfl rfl) rfl<|Aa 10 rfl (Aw Hr rfl) (gy 16 rfl rfl) rfl<|Aa 11 rfl (Au 0 Np rfl rfl rfl) (gy 16 rfl rfl) rfl<|Aa 12 rfl (Ad rfl) (gy 16 rfl rfl) rfl ?_
  obtain ⟨hb24,h⟩:=h
  have hr25:=Rw.readF (s:=Sm w.heap.size F w [[g2],(Value.slice A8 n9 c10).ownBlock.toList,(Value.slice A14 n15 c16).ownBlock.toList]) (hl:=Ei) (h1:=Eh) h7 hb24
  refine Aa 13 rfl (F5 (s:=Sm w.heap.size F w [[g2],(Value.slice A8 n9 c10).ownBlock.toList,(Value.slice A14 n15 c16).ownBlock.toList]) Qj rfl rfl h7 hb24) (gy 16 rfl rfl) rfl<|Aa 14 rfl (Ja Ve rfl) (gy 16 rfl rfl) rfl<|Aa 15 rfl (Hq (kk:=(x20:Int).toNat * 4) (j:=0) (Sm w.heap.size F w [[g2],(Value.slice A8 n9 c10).ownBlock.toList,(Value.slice A14 n15 c16).ownBlock.toList]) Xb3 rfl hr25 rfl (me 0 rfl)) (gy 16 rfl rfl) rfl<|Aa 16 rfl (Ad rfl) (gy 16 rfl rfl) rfl<|Aa 17 rfl (Be rfl rfl rfl) (gy 16 rfl rfl) rfl<|Aa 18 rfl (Bd (b:=true) rfl rfl) gn rfl<|Aa 19 rfl (Ad rfl) gn rfl ?_
  by_cases hp26:(ix x1.words x20).kind=x21
  ·have h:=Ap hp26 h
   refine Bv 28 rfl ((eqi hp26))<|Aa 20 rfl (Ad rfl) (gy 28 rfl rfl) rfl<|Aa 21 rfl (Bc rfl) (gy 28 rfl rfl) rfl<|Aa 22 rfl (Aw Hr rfl) (gy 28 rfl rfl) rfl<|Aa 23 rfl (Au 0 Np rfl rfl rfl) (gy 28 rfl rfl) rfl<|Aa 24 rfl (Ad rfl) (gy 28 rfl rfl) rfl ?_
   have hr27:=Rw.readF (s:=Sm w.heap.size F w [[g2],(Value.slice A8 n9 c10).ownBlock.toList,(Value.slice A14 n15 c16).ownBlock.toList]) (hl:=Ei) (h1:=Eh) h7 hb24
   refine Aa 25 rfl (F5 (s:=Sm w.heap.size F w [[g2],(Value.slice A8 n9 c10).ownBlock.toList,(Value.slice A14 n15 c16).ownBlock.toList]) Qj rfl rfl h7 hb24) (gy 28 rfl rfl) rfl<|Aa 26 rfl (Ja Kt rfl) (gy 28 rfl rfl) rfl<|Aa 27 rfl (Hq (kk:=(x20:Int).toNat * 4) (j:=1) (Sm w.heap.size F w [[g2],(Value.slice A8 n9 c10).ownBlock.toList,(Value.slice A14 n15 c16).ownBlock.toList]) Ib rfl hr27 rfl (me 0 rfl)) (gy 28 rfl rfl) rfl<|Aa 28 rfl (Ad rfl) (gy 28 rfl rfl) rfl<|Aa 29 rfl (Zc rfl rfl) (gy 28 rfl rfl) rfl<|Aa 30 rfl (Bd (b:=true) rfl rfl) gn rfl<|Aa 31 rfl (Af rfl) gn rfl<|Aj 32 rfl ?_
   refine C9 [.bool (seq ((ix x1.words x20).text) x22)] rfl Tryd.func91 rfl (.tmp rfl (.nil)) fun wr hLr=>?_
   have hMr:=hLr.pkI (.c 0 rfl (.c 1 rfl (.c 2 rfl .n))) .n (by kernel_rfl) (.c 1 rfl .n)
   have hMi:=hLr.selI (.c 0 rfl (.c 1 rfl (.c 2 rfl .n)))
   show Pi w F g2 Tb3 A8 n9 c10 z12 A14 n15 c16 z18 r (.returned (Ci [.bool (seq ((ix x1.words x20).text) x22)])) wr
   rw [h]
   exact ⟨A8,n9,c10,A14,n15,c16,A4,n5,c6,rfl,hMr,h11,h17,(hLr.outR (s:=Sm w.heap.size F w [[g2],(Value.slice A8 n9 c10).ownBlock.toList,(Value.slice A14 n15 c16).ownBlock.toList]) hMi (me 0 rfl) Sm.ok h7)⟩
  ·have h:=Aq hp26 h
   refine Bv 28 rfl ((nei hp26))<|Ae 20 rfl (ps 28 rfl rfl rfl)<|Ae 21 rfl (ps 28 rfl rfl rfl)<|Ae 22 rfl (ps 28 rfl rfl rfl)<|Ae 23 rfl (ps 28 rfl rfl rfl)<|Ae 24 rfl (ps 28 rfl rfl rfl)<|Ae 25 rfl (ps 28 rfl rfl rfl)<|Ae 26 rfl (ps 28 rfl rfl rfl)<|Ae 27 rfl (ps 28 rfl rfl rfl)<|Ae 28 rfl (ps 28 rfl rfl rfl)<|Ae 29 rfl (ps 28 rfl rfl rfl)<|Aa 30 rfl (Bd (b:=false) rfl rfl) gn rfl ?_
   refine Aa 31 rfl (Af rfl) gn rfl<|Aj 32 rfl ?_
   refine C9 [.bool false] rfl Tryd.func91 rfl (.tmp rfl (.nil)) fun wr hLr=>?_
   have hMr:=hLr.pkI (.c 0 rfl (.c 1 rfl (.c 2 rfl .n))) .n (by kernel_rfl) (.c 1 rfl .n)
   have hMi:=hLr.selI (.c 0 rfl (.c 1 rfl (.c 2 rfl .n)))
   show Pi w F g2 Tb3 A8 n9 c10 z12 A14 n15 c16 z18 r (.returned (Ci [.bool false])) wr
   rw [h]
   exact ⟨A8,n9,c10,A14,n15,c16,A4,n5,c6,rfl,hMr,h11,h17,(hLr.outR (s:=Sm w.heap.size F w [[g2],(Value.slice A8 n9 c10).ownBlock.toList,(Value.slice A14 n15 c16).ownBlock.toList]) hMi (me 0 rfl) Sm.ok h7)⟩
 ·have h:=Aq hp23 h
  refine Bv 16 rfl ((decide_eq_false hp23))<|Ae 8 rfl (ps 16 rfl rfl rfl)<|Ae 9 rfl (ps 16 rfl rfl rfl)<|Ae 10 rfl (ps 16 rfl rfl rfl)<|Ae 11 rfl (ps 16 rfl rfl rfl)<|Ae 12 rfl (ps 16 rfl rfl rfl)<|Ae 13 rfl (ps 16 rfl rfl rfl)<|Ae 14 rfl (ps 16 rfl rfl rfl)<|Ae 15 rfl (ps 16 rfl rfl rfl)<|Ae 16 rfl (ps 16 rfl rfl rfl)<|Ae 17 rfl (ps 16 rfl rfl rfl)<|Aa 18 rfl (Bd (b:=false) rfl rfl) gn rfl ?_
  refine Aa 19 rfl (Ad rfl) gn rfl<|Ae 20 rfl (ps 28 rfl rfl rfl)<|Ae 21 rfl (ps 28 rfl rfl rfl)<|Ae 22 rfl (ps 28 rfl rfl rfl)<|Ae 23 rfl (ps 28 rfl rfl rfl)<|Ae 24 rfl (ps 28 rfl rfl rfl)<|Ae 25 rfl (ps 28 rfl rfl rfl)<|Ae 26 rfl (ps 28 rfl rfl rfl)<|Ae 27 rfl (ps 28 rfl rfl rfl)<|Ae 28 rfl (ps 28 rfl rfl rfl)<|Ae 29 rfl (ps 28 rfl rfl rfl)<|Aa 30 rfl (Bd (b:=false) rfl rfl) gn rfl ?_
  refine Aa 31 rfl (Af rfl) gn rfl<|Aj 32 rfl ?_
  refine C9 [.bool false] rfl Tryd.func91 rfl (.tmp rfl (.nil)) fun wr hLr=>?_
  have hMr:=hLr.pkI (.c 0 rfl (.c 1 rfl (.c 2 rfl .n))) .n (by kernel_rfl) (.c 1 rfl .n)
  have hMi:=hLr.selI (.c 0 rfl (.c 1 rfl (.c 2 rfl .n)))
  show Pi w F g2 Tb3 A8 n9 c10 z12 A14 n15 c16 z18 r (.returned (Ci [.bool false])) wr
  rw [h]
  exact ⟨A8,n9,c10,A14,n15,c16,A4,n5,c6,rfl,hMr,h11,h17,(hLr.outR (s:=Sm w.heap.size F w [[g2],(Value.slice A8 n9 c10).ownBlock.toList,(Value.slice A14 n15 c16).ownBlock.toList]) hMi (me 0 rfl) Sm.ok h7)⟩
noncomputable abbrev q87c6:=Code.snd (Code.snd (Code.snd (Dv Tryd.f87)))
noncomputable abbrev q87c8:=Code.snd (Code.fst (Code.snd (Code.snd (Dv Tryd.f87))))
abbrev I4 (w:World) (F:Nat→Prop) (g2:Nat) (Tb3:Nat) (A8:Option Addr) (n9:Nat) (c10:Nat) (z12:Nat) (A14:Option Addr) (n15:Nat) (c16:Nat) (z18:Nat) (r:Bool × Ai):Ending→World→Prop:=fun e w'=>∃ A1:Option Addr,∃ n1:Nat,∃ c1:Nat,∃ A2:Option Addr,∃ n2:Nat,∃ c2:Nat,∃ A0:Option Addr,∃ n0:Nat,∃ c0:Nat,e=.returned (.bool r.1)∧B.Loc w w' [.box g2 Tb3 [.slice A0 n0 c0,.int .i64 r.2.at_,.int .i64 r.2.end_,.slice A1 n1 c1,.slice A2 n2 c2,.int .i64 r.2.code,.int .i64 r.2.place],.own (.slice A1 n1 c1) 45 5 n1 (r.2.q.nodes.flatMap Am),.own (.slice A2 n2 c2) 47 4 n2 (r.2.q.conds.flatMap Bj)] [St w [[g2],(Value.slice A8 n9 c10).ownBlock.toList,(Value.slice A14 n15 c16).ownBlock.toList]]∧Ow z12 A1 n1 c1 r.2.q.nodes∧Ow z18 A2 n2 c2 r.2.q.conds∧Rw D5 w' (Nw w w' F [.box g2 Tb3 [.slice A0 n0 c0,.int .i64 r.2.at_,.int .i64 r.2.end_,.slice A1 n1 c1,.slice A2 n2 c2,.int .i64 r.2.code,.int .i64 r.2.place],.own (.slice A1 n1 c1) 45 5 n1 (r.2.q.nodes.flatMap Am),.own (.slice A2 n2 c2) 47 4 n2 (r.2.q.conds.flatMap Bj)]) A0 n0 c0 r.2.words
noncomputable abbrev Wn (w:World) (F:Nat→Prop) (g2:Nat) (Tb3:Nat) (A8:Option Addr) (n9:Nat) (c10:Nat) (z12:Nat) (A14:Option Addr) (n15:Nat) (c16:Nat) (z18:Nat) (r:Bool × Ai):Cx:=⟨Tryd.prog,87,Tryd.f87,77,I4 w F g2 Tb3 A8 n9 c10 z12 A14 n15 c16 z18 r,w⟩
theorem Yu (w:World) (F:Nat→Prop) (x1:Ai) (g2:Nat) (Tb3:Nat) (A4:Option Addr) (n5:Nat) (c6:Nat) (z12:Nat) (A8:Option Addr) (n9:Nat) (c10:Nat) (z18:Nat) (A14:Option Addr) (n15:Nat) (c16:Nat) (h7:Rw D5 w F A4 n5 c6 x1.words) (hz13:z12≤w.heap.size) (h11:Ow z12 A8 n9 c10 x1.q.nodes) (hz19:z18≤w.heap.size) (h17:Ow z18 A14 n15 c16 x1.q.conds) (hF:∀ b,F b→b < w.heap.size∧∀ o ∈ ([[g2],(Value.slice A8 n9 c10).ownBlock.toList,(Value.slice A14 n15 c16).ownBlock.toList]:List (List Nat)),b ∉ o) (hL0:B.Loc w w [.box g2 Tb3 [.slice A4 n5 c6,.int .i64 x1.at_,.int .i64 x1.end_,.slice A8 n9 c10,.slice A14 n15 c16,.int .i64 x1.code,.int .i64 x1.place],.own (.slice A8 n9 c10) 45 5 n9 (x1.q.nodes.flatMap Am),.own (.slice A14 n15 c16) 47 4 n15 (x1.q.conds.flatMap Bj)] [Sm w.heap.size F w [[g2],(Value.slice A8 n9 c10).ownBlock.toList,(Value.slice A14 n15 c16).ownBlock.toList],St w [[g2],(Value.slice A8 n9 c10).ownBlock.toList,(Value.slice A14 n15 c16).ownBlock.toList]]) (r:Bool × Ai) (h:Ns x1 r):Calls Tryd.prog 87 #[.pointer (some ⟨g2,0,none⟩)] w (I4 w F g2 Tb3 A8 n9 c10 z12 A14 n15 c16 z18 r):=by
 unfold Ns at h
 have h7:=Rw.into (bs:=[[g2],(Value.slice A8 n9 c10).ownBlock.toList,(Value.slice A14 n15 c16).ownBlock.toList]) hF h7
 refine Ce (vs:=[.pointer (some ⟨g2,0,none⟩)]) 77 Tryd.func87 rfl Tryd.ntmps87 rfl hL0 ?_
 show G (Wn w F g2 Tb3 A8 n9 c10 z12 A14 n15 c16 z18 r) _ _ _ _
 refine Ah rfl<|Ac rfl rfl<|Aa 0 rfl (Af rfl) gn rfl<|Aj 1 rfl<|Ah rfl<|Ac rfl rfl<|Aa 0 rfl (Ad rfl) gn rfl<|Aa 1 rfl (Bc rfl) gn rfl<|Aa 2 rfl (Aw Eg rfl) gn rfl<|Aa 3 rfl (Au 0 H9 rfl rfl rfl) gn rfl<|Aa 4 rfl (Af rfl) gn rfl<|Aj 5 rfl ?_
 refine Ah rfl<|Ah rfl ?_
 have j1:∀ (x51:Bool) (x52:List Ak) (x59:Int) (x60:Int) (x61:List Ag) (x66:List Bh) (x71:Int) (x72:Int) (h:Gi x1 x51 x52 x59 x60 x61 x66 x71 x72 r) (A53:Option Addr) (n54:Nat) (c55:Nat) (sw56:World) (sb57:List (List Nat)) (h58:At D5 (Sm w.heap.size F sw56 sb57) A53 n54 c55 x52) (A62:Option Addr) (n63:Nat) (c64:Nat) (h65:Ow z12 A62 n63 c64 x61) (A67:Option Addr) (n68:Nat) (c69:Nat) (h70:Ow z18 A67 n68 c69 x66),G (Wn w F g2 Tb3 A8 n9 c10 z12 A14 n15 c16 z18 r) [.code q87c8,.code q87c6] [(0,.pointer (some ⟨g2,0,none⟩)),(3,.int .i64 x1.at_),(42,.bool x51)] [.own (.slice A62 n63 c64) 45 5 n63 (x61.flatMap Am),.own (.slice A67 n68 c69) 47 4 n68 (x66.flatMap Bj),.box g2 Tb3 [.slice A53 n54 c55,.int .i64 x59,.int .i64 x60,.slice A62 n63 c64,.slice A67 n68 c69,.int .i64 x71,.int .i64 x72]] [Sm w.heap.size F sw56 sb57,Sm w.heap.size F w [[g2],(Value.slice A8 n9 c10).ownBlock.toList,(Value.slice A14 n15 c16).ownBlock.toList],St w [[g2],(Value.slice A8 n9 c10).ownBlock.toList,(Value.slice A14 n15 c16).ownBlock.toList]]:=by
  intro x51 x52 x59 x60 x61 x66 x71 x72 h A53 n54 c55 sw56 sb57 h58 A62 n63 c64 h65 A67 n68 c69 h70
  unfold Gi at h
  by_cases hp73:x51=true
  ·have h:=Ap hp73 h
   refine Bz rfl _ rfl (hp73)<|Ah rfl<|Ac rfl rfl<|Aa 0 rfl (Af rfl) gn rfl<|Aj 1 rfl ?_
   refine C9 [.bool true] rfl Tryd.func87 rfl (.tmp rfl (.nil)) fun wr hLr=>?_
   have hMr:=hLr.pkI (.c 2 rfl (.c 0 rfl (.c 1 rfl .n))) .n (by kernel_rfl) (.c 2 rfl .n)
   have hMi:=hLr.selI (.c 2 rfl (.c 0 rfl (.c 1 rfl .n)))
   show I4 w F g2 Tb3 A8 n9 c10 z12 A14 n15 c16 z18 r (.returned (Ci [.bool true])) wr
   rw [h]
   exact ⟨A62,n63,c64,A67,n68,c69,A53,n54,c55,rfl,hMr,h65,h70,(hLr.outR (s:=Sm w.heap.size F sw56 sb57) hMi (me 0 rfl) Sm.ok h58)⟩
  ·have h:=Aq hp73 h
   refine Bg rfl _ rfl ((bf hp73))<|Cb rfl<|Ah rfl<|Ac rfl rfl<|Aa 0 rfl (Ad rfl) gn rfl<|Aa 1 rfl (Ad rfl) gn rfl ?_
   obtain ⟨r77,hv78,h⟩:=h
   refine Cf 2 rfl (D8 [.pointer (some ⟨g2,0,none⟩),.int .i64 x1.at_,.int .i64 5,.string (⟨#[40]⟩:ByteArray)] rfl Tryd.func91 rfl rfl rfl fun w74 hL75=>?_) gn
   have hp76:=pmI hL75 (.c 2 rfl (.c 0 rfl (.c 1 rfl .n))) .n (by kernel_rfl)
   refine Calls.mono (H6 w74 (Fl ([Sm w.heap.size F sw56 sb57]:List Cc)) (⟨x52,x59,x60,(⟨x61,x66⟩:Ar),x71,x72⟩:Ai) x1.at_ 5 (⟨#[40]⟩:ByteArray) g2 Tb3 A53 n54 c55 z12 A62 n63 c64 z18 A67 n68 c69 (Rw.mono h58 (hL75.toFl (me 0 rfl) (me 0 rfl))) (Nat.le_trans hz13 hL75.env.size) h65 (Nat.le_trans hz19 hL75.env.size) h70 (hL75.hFl hp76 (Bi [0] rfl)) (hL75.into hp76 _) r77 hv78) ?_
   rintro _ w93 ⟨A83,n84,c85,A88,n89,c90,A79,n80,c81,rfl,hM94,h86,h91,h82⟩
   obtain ⟨sb97,hL95,hv96⟩:=hL75.callB (Sl:=([Sm w.heap.size F sw56 sb57]:List Cc)) hp76 hM94 F (Bi [0] rfl) ⟨Sm.ok,trivial⟩
   have h82:At D5 (Sm w.heap.size F w93 sb97) A79 n80 c81 r77.2.words:=Rw.mono h82 hv96
   refine ⟨_,_,_,rfl,hL95,?_⟩
   refine Aa 3 rfl (Ad rfl) gn rfl ?_
   by_cases hp98:r77.1=true
   ·have h:=Ap hp98 h
    refine Bv 46 rfl (hp98)<|Ae 4 rfl (ps 46 rfl rfl rfl)<|Ae 5 rfl (ps 46 rfl rfl rfl)<|Ae 6 rfl (ps 46 rfl rfl rfl)<|Ae 7 rfl (ps 46 rfl rfl rfl)<|Ae 8 rfl (ps 46 rfl rfl rfl)<|Ae 9 rfl (ps 46 rfl rfl rfl)<|Ae 10 rfl (ps 46 rfl rfl rfl)<|Ae 11 rfl (ps 46 rfl rfl rfl)<|Ae 12 rfl (pu 54 rfl rfl)<|Ae 13 rfl (pu 54 rfl rfl)<|Ae 14 rfl (pu 54 rfl rfl) ?_
    refine Ae 15 rfl (pu 54 rfl rfl)<|Ae 16 rfl (pu 54 rfl rfl)<|Ae 17 rfl (pu 54 rfl rfl)<|Ae 18 rfl (pu 54 rfl rfl)<|Ae 19 rfl (pu 54 rfl rfl)<|Ae 20 rfl (pu 54 rfl rfl)<|Ae 21 rfl (ps 46 rfl rfl rfl)<|Ae 22 rfl (ps 46 rfl rfl rfl)<|Ae 23 rfl (pu 65 rfl rfl)<|Ae 24 rfl (pu 65 rfl rfl)<|Ae 25 rfl (pu 65 rfl rfl)<|Ae 26 rfl (pu 65 rfl rfl) ?_
    refine Ae 27 rfl (pu 65 rfl rfl)<|Ae 28 rfl (pu 65 rfl rfl)<|Ae 29 rfl (pu 65 rfl rfl)<|Ae 30 rfl (pu 65 rfl rfl)<|Ae 31 rfl (pu 65 rfl rfl)<|Ae 32 rfl (ps 46 rfl rfl rfl)<|Aa 33 rfl (Bd (b:=true) rfl rfl) gn rfl<|Aa 34 rfl (Af rfl) gn rfl<|Aj 35 rfl ?_
    refine C9 [.bool true] rfl Tryd.func87 rfl (.tmp rfl (.nil)) fun wr hLr=>?_
    have hMr:=hLr.pkI (.c 0 rfl (.c 1 rfl (.c 2 rfl .n))) .n (by kernel_rfl) (.c 3 rfl .n)
    have hMi:=hLr.selI (.c 0 rfl (.c 1 rfl (.c 2 rfl .n)))
    show I4 w F g2 Tb3 A8 n9 c10 z12 A14 n15 c16 z18 r (.returned (Ci [.bool true])) wr
    rw [h]
    exact ⟨A83,n84,c85,A88,n89,c90,A79,n80,c81,rfl,hMr,h86,h91,(hLr.outR (s:=Sm w.heap.size F w93 sb97) hMi (me 0 rfl) Sm.ok h82)⟩
   ·have h:=Aq hp98 h
    refine Bv 46 rfl ((bf hp98))<|Aa 4 rfl (Ad rfl) (gy 46 rfl rfl) rfl<|Aa 5 rfl (Ad rfl) (gy 46 rfl rfl) rfl<|Aa 6 rfl (Bc rfl) (gy 46 rfl rfl) rfl<|Aa 7 rfl (Aw Hr rfl) (gy 46 rfl rfl) rfl<|Aa 8 rfl (Au 0 Np rfl rfl rfl) (gy 46 rfl rfl) rfl<|Aa 9 rfl (Dj Zh rfl h82.hq) (gy 46 rfl rfl) rfl<|Aa 10 rfl (Be rfl rfl rfl) (gy 46 rfl rfl) rfl<|Aa 11 rfl (Ad rfl) (gy 46 rfl rfl) rfl ?_
    by_cases hp99:x1.at_ < (r77.2.words.length:Int)
    ·have h:=Ap hp99 h
     refine Bv 54 rfl ((decide_eq_true hp99))<|Aa 12 rfl (Ad rfl) (gy 54 rfl rfl) rfl<|Aa 13 rfl (Bc rfl) (gy 54 rfl rfl) rfl<|Aa 14 rfl (Aw Hr rfl) (gy 54 rfl rfl) rfl<|Aa 15 rfl (Au 0 Np rfl rfl rfl) (gy 54 rfl rfl) rfl<|Aa 16 rfl (Ad rfl) (gy 54 rfl rfl) rfl ?_
     obtain ⟨hb100,h⟩:=h
     have hr101:=Rw.readF (s:=Sm w.heap.size F w93 sb97) (hl:=Ei) (h1:=Eh) h82 hb100
     refine Aa 17 rfl (F5 (s:=Sm w.heap.size F w93 sb97) Qj rfl rfl h82 hb100) (gy 54 rfl rfl) rfl<|Aa 18 rfl (Ja Ve rfl) (gy 54 rfl rfl) rfl<|Aa 19 rfl (Hq (kk:=(x1.at_:Int).toNat * 4) (j:=0) (Sm w.heap.size F w93 sb97) Xb3 rfl hr101 rfl (me 0 rfl)) (gy 54 rfl rfl) rfl<|Aa 20 rfl (Be rfl rfl rfl) (gy 54 rfl rfl) rfl<|Aa 21 rfl (Bd (b:=true) rfl rfl) (gy 46 rfl rfl) rfl<|Aa 22 rfl (Ad rfl) (gy 46 rfl rfl) rfl ?_
     by_cases hp102:(ix r77.2.words x1.at_).kind=2
     ·have h:=Ap hp102 h
      refine Bv 65 rfl ((eqi hp102))<|Aa 23 rfl (Ad rfl) (gy 65 rfl rfl) rfl<|Aa 24 rfl (Bc rfl) (gy 65 rfl rfl) rfl<|Aa 25 rfl (Aw Hr rfl) (gy 65 rfl rfl) rfl<|Aa 26 rfl (Au 0 Np rfl rfl rfl) (gy 65 rfl rfl) rfl<|Aa 27 rfl (Ad rfl) (gy 65 rfl rfl) rfl ?_
      have hr103:=Rw.readF (s:=Sm w.heap.size F w93 sb97) (hl:=Ei) (h1:=Eh) h82 hb100
      refine Aa 28 rfl (F5 (s:=Sm w.heap.size F w93 sb97) Qj rfl rfl h82 hb100) (gy 65 rfl rfl) rfl<|Aa 29 rfl (Ja Kt rfl) (gy 65 rfl rfl) rfl<|Aa 30 rfl (Hq (kk:=(x1.at_:Int).toNat * 4) (j:=1) (Sm w.heap.size F w93 sb97) Ib rfl hr103 rfl (me 0 rfl)) (gy 65 rfl rfl) rfl<|Aa 31 rfl (Uf rfl rfl) (gy 65 rfl rfl) rfl<|Aa 32 rfl (Bd (b:=true) rfl rfl) (gy 46 rfl rfl) rfl<|Aa 33 rfl (Bd (b:=false) rfl rfl) gn rfl<|Aa 34 rfl (Af rfl) gn rfl<|Aj 35 rfl ?_
      refine C9 [.bool (!(seq ((ix r77.2.words x1.at_).text) (⟨#[]⟩:ByteArray)))] rfl Tryd.func87 rfl (.tmp rfl (.nil)) fun wr hLr=>?_
      have hMr:=hLr.pkI (.c 0 rfl (.c 1 rfl (.c 2 rfl .n))) .n (by kernel_rfl) (.c 3 rfl .n)
      have hMi:=hLr.selI (.c 0 rfl (.c 1 rfl (.c 2 rfl .n)))
      show I4 w F g2 Tb3 A8 n9 c10 z12 A14 n15 c16 z18 r (.returned (Ci [.bool (!(seq ((ix r77.2.words x1.at_).text) (⟨#[]⟩:ByteArray)))])) wr
      rw [h]
      exact ⟨A83,n84,c85,A88,n89,c90,A79,n80,c81,rfl,hMr,h86,h91,(hLr.outR (s:=Sm w.heap.size F w93 sb97) hMi (me 0 rfl) Sm.ok h82)⟩
     ·have h:=Aq hp102 h
      refine Bv 65 rfl ((nei hp102))<|Ae 23 rfl (ps 65 rfl rfl rfl)<|Ae 24 rfl (ps 65 rfl rfl rfl)<|Ae 25 rfl (ps 65 rfl rfl rfl)<|Ae 26 rfl (ps 65 rfl rfl rfl)<|Ae 27 rfl (ps 65 rfl rfl rfl)<|Ae 28 rfl (ps 65 rfl rfl rfl)<|Ae 29 rfl (ps 65 rfl rfl rfl)<|Ae 30 rfl (ps 65 rfl rfl rfl)<|Ae 31 rfl (ps 65 rfl rfl rfl)<|Aa 32 rfl (Bd (b:=false) rfl rfl) (gy 46 rfl rfl) rfl<|Aa 33 rfl (Bd (b:=false) rfl rfl) gn rfl ?_
      refine Aa 34 rfl (Af rfl) gn rfl<|Aj 35 rfl ?_
      refine C9 [.bool false] rfl Tryd.func87 rfl (.tmp rfl (.nil)) fun wr hLr=>?_
      have hMr:=hLr.pkI (.c 0 rfl (.c 1 rfl (.c 2 rfl .n))) .n (by kernel_rfl) (.c 3 rfl .n)
      have hMi:=hLr.selI (.c 0 rfl (.c 1 rfl (.c 2 rfl .n)))
      show I4 w F g2 Tb3 A8 n9 c10 z12 A14 n15 c16 z18 r (.returned (Ci [.bool false])) wr
      rw [h]
      exact ⟨A83,n84,c85,A88,n89,c90,A79,n80,c81,rfl,hMr,h86,h91,(hLr.outR (s:=Sm w.heap.size F w93 sb97) hMi (me 0 rfl) Sm.ok h82)⟩
    ·have h:=Aq hp99 h
     refine Bv 54 rfl ((decide_eq_false hp99))<|Ae 12 rfl (ps 54 rfl rfl rfl)<|Ae 13 rfl (ps 54 rfl rfl rfl)<|Ae 14 rfl (ps 54 rfl rfl rfl)<|Ae 15 rfl (ps 54 rfl rfl rfl)<|Ae 16 rfl (ps 54 rfl rfl rfl)<|Ae 17 rfl (ps 54 rfl rfl rfl)<|Ae 18 rfl (ps 54 rfl rfl rfl)<|Ae 19 rfl (ps 54 rfl rfl rfl)<|Ae 20 rfl (ps 54 rfl rfl rfl)<|Aa 21 rfl (Bd (b:=false) rfl rfl) (gy 46 rfl rfl) rfl<|Aa 22 rfl (Ad rfl) (gy 46 rfl rfl) rfl ?_
     refine Ae 23 rfl (ps 65 rfl rfl rfl)<|Ae 24 rfl (ps 65 rfl rfl rfl)<|Ae 25 rfl (ps 65 rfl rfl rfl)<|Ae 26 rfl (ps 65 rfl rfl rfl)<|Ae 27 rfl (ps 65 rfl rfl rfl)<|Ae 28 rfl (ps 65 rfl rfl rfl)<|Ae 29 rfl (ps 65 rfl rfl rfl)<|Ae 30 rfl (ps 65 rfl rfl rfl)<|Ae 31 rfl (ps 65 rfl rfl rfl)<|Aa 32 rfl (Bd (b:=false) rfl rfl) (gy 46 rfl rfl) rfl<|Aa 33 rfl (Bd (b:=false) rfl rfl) gn rfl<|Aa 34 rfl (Af rfl) gn rfl ?_
     refine Aj 35 rfl ?_
     refine C9 [.bool false] rfl Tryd.func87 rfl (.tmp rfl (.nil)) fun wr hLr=>?_
     have hMr:=hLr.pkI (.c 0 rfl (.c 1 rfl (.c 2 rfl .n))) .n (by kernel_rfl) (.c 3 rfl .n)
     have hMi:=hLr.selI (.c 0 rfl (.c 1 rfl (.c 2 rfl .n)))
     show I4 w F g2 Tb3 A8 n9 c10 z12 A14 n15 c16 z18 r (.returned (Ci [.bool false])) wr
     rw [h]
     exact ⟨A83,n84,c85,A88,n89,c90,A79,n80,c81,rfl,hMr,h86,h91,(hLr.outR (s:=Sm w.heap.size F w93 sb97) hMi (me 0 rfl) Sm.ok h82)⟩
 refine Ac rfl rfl<|Aa 0 rfl (Ad rfl) gn rfl<|Aa 1 rfl (Ad rfl) gn rfl<|Aa 2 rfl (Bc rfl) gn rfl<|Aa 3 rfl (Aw Hr rfl) gn rfl<|Aa 4 rfl (Au 0 Np rfl rfl rfl) gn rfl<|Aa 5 rfl (Dj Zh rfl h7.hq) gn rfl<|Aa 6 rfl (Be rfl rfl rfl) gn rfl<|Aa 7 rfl (Ad rfl) gn rfl ?_
 by_cases hp104:x1.at_ < (x1.words.length:Int)
 ·have h:=Ap hp104 h
  refine Bv 15 rfl ((decide_eq_true hp104))<|Aa 8 rfl (Ad rfl) (gy 15 rfl rfl) rfl<|Aa 9 rfl (Bc rfl) (gy 15 rfl rfl) rfl<|Aa 10 rfl (Aw Hr rfl) (gy 15 rfl rfl) rfl<|Aa 11 rfl (Au 0 Np rfl rfl rfl) (gy 15 rfl rfl) rfl<|Aa 12 rfl (Ad rfl) (gy 15 rfl rfl) rfl ?_
  obtain ⟨hb105,h⟩:=h
  have hr106:=Rw.readF (s:=Sm w.heap.size F w [[g2],(Value.slice A8 n9 c10).ownBlock.toList,(Value.slice A14 n15 c16).ownBlock.toList]) (hl:=Ei) (h1:=Eh) h7 hb105
  refine Aa 13 rfl (F5 (s:=Sm w.heap.size F w [[g2],(Value.slice A8 n9 c10).ownBlock.toList,(Value.slice A14 n15 c16).ownBlock.toList]) Qj rfl rfl h7 hb105) (gy 15 rfl rfl) rfl<|Aa 14 rfl (Ja Ve rfl) (gy 15 rfl rfl) rfl<|Aa 15 rfl (Hq (kk:=(x1.at_:Int).toNat * 4) (j:=0) (Sm w.heap.size F w [[g2],(Value.slice A8 n9 c10).ownBlock.toList,(Value.slice A14 n15 c16).ownBlock.toList]) Xb3 rfl hr106 rfl (me 0 rfl)) (gy 15 rfl rfl) rfl<|Aa 16 rfl (Be rfl rfl rfl) (gy 15 rfl rfl) rfl<|Aa 17 rfl (Bd (b:=true) rfl rfl) gn rfl<|Aa 18 rfl (Ad rfl) gn rfl ?_
  by_cases hp107:(ix x1.words x1.at_).kind=1
  ·have h:=Ap hp107 h
   refine Bv 26 rfl ((eqi hp107))<|Aa 19 rfl (Ad rfl) (gy 26 rfl rfl) rfl<|Aa 20 rfl (Bc rfl) (gy 26 rfl rfl) rfl<|Aa 21 rfl (Aw Hr rfl) (gy 26 rfl rfl) rfl<|Aa 22 rfl (Au 0 Np rfl rfl rfl) (gy 26 rfl rfl) rfl<|Aa 23 rfl (Ad rfl) (gy 26 rfl rfl) rfl ?_
   have hr108:=Rw.readF (s:=Sm w.heap.size F w [[g2],(Value.slice A8 n9 c10).ownBlock.toList,(Value.slice A14 n15 c16).ownBlock.toList]) (hl:=Ei) (h1:=Eh) h7 hb105
   refine Aa 24 rfl (F5 (s:=Sm w.heap.size F w [[g2],(Value.slice A8 n9 c10).ownBlock.toList,(Value.slice A14 n15 c16).ownBlock.toList]) Qj rfl rfl h7 hb105) (gy 26 rfl rfl) rfl<|Aa 25 rfl (Ja Kt rfl) (gy 26 rfl rfl) rfl<|Aa 26 rfl (Hq (kk:=(x1.at_:Int).toNat * 4) (j:=1) (Sm w.heap.size F w [[g2],(Value.slice A8 n9 c10).ownBlock.toList,(Value.slice A14 n15 c16).ownBlock.toList]) Ib rfl hr108 rfl (me 0 rfl)) (gy 26 rfl rfl) rfl<|Aa 27 rfl (Uf rfl rfl) (gy 26 rfl rfl) rfl<|Aa 28 rfl (Bd (b:=true) rfl rfl) gn rfl<|Aa 29 rfl (Ad rfl) gn rfl ?_
   by_cases hp109:(ix x1.words x1.at_).text=(⟨#[95]⟩:ByteArray)
   ·have h:=Ap hp109 h
    refine Bv 37 rfl ((nf (Qw hp109)))<|Ae 30 rfl (ps 37 rfl rfl rfl)<|Ae 31 rfl (ps 37 rfl rfl rfl)<|Ae 32 rfl (ps 37 rfl rfl rfl)<|Ae 33 rfl (ps 37 rfl rfl rfl)<|Aa 34 rfl (Bd (b:=false) rfl rfl) gn rfl<|Aj 35 rfl<|Ba 0 rfl<|Ba 2 rfl<|Ba 2 rfl ?_
    exact Dc [0,0,1] (j1 false x1.words x1.at_ x1.end_ x1.q.nodes x1.q.conds x1.code x1.place h A4 n5 c6 w [[g2],(Value.slice A8 n9 c10).ownBlock.toList,(Value.slice A14 n15 c16).ownBlock.toList] h7 A8 n9 c10 h11 A14 n15 c16 h17) ⟨rfl,rfl,rfl,trivial⟩ (.cons_cons _ (.cons_cons _ (.cons_cons _ (.slnil)))) rfl
   ·have h:=Aq hp109 h
    refine Bv 37 rfl ((nt (Rq hp109)))<|Aa 30 rfl (Ad rfl) (gy 37 rfl rfl) rfl<|Aa 31 rfl (Ad rfl) (gy 37 rfl rfl) rfl<|Aa 32 rfl (Be rfl rfl rfl) (gy 37 rfl rfl) rfl ?_
    obtain ⟨r113,hv114,h⟩:=h
    refine Cf 33 rfl (D8 [.pointer (some ⟨g2,0,none⟩),.int .i64 (w64 (x1.at_ + 1)),.int .i64 5,.string (⟨#[58]⟩:ByteArray)] rfl Tryd.func91 rfl rfl rfl fun w110 hL111=>?_) (gy 37 rfl rfl)
    have hp112:=pmI hL111 (.c 0 rfl (.c 1 rfl (.c 2 rfl .n))) .n (by kernel_rfl)
    refine Calls.mono (H6 w110 (Fl ([Sm w.heap.size F w [[g2],(Value.slice A8 n9 c10).ownBlock.toList,(Value.slice A14 n15 c16).ownBlock.toList]]:List Cc)) x1 (w64 (x1.at_ + 1)) 5 (⟨#[58]⟩:ByteArray) g2 Tb3 A4 n5 c6 z12 A8 n9 c10 z18 A14 n15 c16 (Rw.mono h7 (hL111.toFl (me 0 rfl) (me 0 rfl))) (Nat.le_trans hz13 hL111.env.size) h11 (Nat.le_trans hz19 hL111.env.size) h17 (hL111.hFl hp112 (Bi [0] rfl)) (hL111.into hp112 _) r113 hv114) ?_
    rintro _ w129 ⟨A119,n120,c121,A124,n125,c126,A115,n116,c117,rfl,hM130,h122,h127,h118⟩
    obtain ⟨sb133,hL131,hv132⟩:=hL111.callB (Sl:=([Sm w.heap.size F w [[g2],(Value.slice A8 n9 c10).ownBlock.toList,(Value.slice A14 n15 c16).ownBlock.toList]]:List Cc)) hp112 hM130 F (Bi [0] rfl) ⟨Sm.ok,trivial⟩
    have h118:At D5 (Sm w.heap.size F w129 sb133) A115 n116 c117 r113.2.words:=Rw.mono h118 hv132
    refine ⟨_,_,_,rfl,hL131,?_⟩
    refine Aa 34 rfl (Bd (b:=true) rfl rfl) gn rfl<|Aj 35 rfl<|Ba 0 rfl<|Ba 2 rfl<|Ba 2 rfl ?_
    exact Dc [0,1,2] (j1 r113.1 r113.2.words r113.2.at_ r113.2.end_ r113.2.q.nodes r113.2.q.conds r113.2.code r113.2.place h A115 n116 c117 w129 sb133 h118 A119 n120 c121 h122 A124 n125 c126 h127) ⟨rfl,rfl,rfl,trivial⟩ (.cons_cons _ (.cons_cons _ (.cons_cons _ (.slnil)))) rfl
  ·have h:=Aq hp107 h
   refine Bv 26 rfl ((nei hp107))<|Ae 19 rfl (ps 26 rfl rfl rfl)<|Ae 20 rfl (ps 26 rfl rfl rfl)<|Ae 21 rfl (ps 26 rfl rfl rfl)<|Ae 22 rfl (ps 26 rfl rfl rfl)<|Ae 23 rfl (ps 26 rfl rfl rfl)<|Ae 24 rfl (ps 26 rfl rfl rfl)<|Ae 25 rfl (ps 26 rfl rfl rfl)<|Ae 26 rfl (ps 26 rfl rfl rfl)<|Ae 27 rfl (ps 26 rfl rfl rfl)<|Aa 28 rfl (Bd (b:=false) rfl rfl) gn rfl<|Aa 29 rfl (Ad rfl) gn rfl ?_
   refine Ae 30 rfl (ps 37 rfl rfl rfl)<|Ae 31 rfl (ps 37 rfl rfl rfl)<|Ae 32 rfl (ps 37 rfl rfl rfl)<|Ae 33 rfl (ps 37 rfl rfl rfl)<|Aa 34 rfl (Bd (b:=false) rfl rfl) gn rfl<|Aj 35 rfl<|Ba 0 rfl<|Ba 2 rfl<|Ba 2 rfl ?_
   exact Dc [0,0,1] (j1 false x1.words x1.at_ x1.end_ x1.q.nodes x1.q.conds x1.code x1.place h A4 n5 c6 w [[g2],(Value.slice A8 n9 c10).ownBlock.toList,(Value.slice A14 n15 c16).ownBlock.toList] h7 A8 n9 c10 h11 A14 n15 c16 h17) ⟨rfl,rfl,rfl,trivial⟩ (.cons_cons _ (.cons_cons _ (.cons_cons _ (.slnil)))) rfl
 ·have h:=Aq hp104 h
  refine Bv 15 rfl ((decide_eq_false hp104))<|Ae 8 rfl (ps 15 rfl rfl rfl)<|Ae 9 rfl (ps 15 rfl rfl rfl)<|Ae 10 rfl (ps 15 rfl rfl rfl)<|Ae 11 rfl (ps 15 rfl rfl rfl)<|Ae 12 rfl (ps 15 rfl rfl rfl)<|Ae 13 rfl (ps 15 rfl rfl rfl)<|Ae 14 rfl (ps 15 rfl rfl rfl)<|Ae 15 rfl (ps 15 rfl rfl rfl)<|Ae 16 rfl (ps 15 rfl rfl rfl)<|Aa 17 rfl (Bd (b:=false) rfl rfl) gn rfl<|Aa 18 rfl (Ad rfl) gn rfl ?_
  refine Ae 19 rfl (ps 26 rfl rfl rfl)<|Ae 20 rfl (ps 26 rfl rfl rfl)<|Ae 21 rfl (ps 26 rfl rfl rfl)<|Ae 22 rfl (ps 26 rfl rfl rfl)<|Ae 23 rfl (ps 26 rfl rfl rfl)<|Ae 24 rfl (ps 26 rfl rfl rfl)<|Ae 25 rfl (ps 26 rfl rfl rfl)<|Ae 26 rfl (ps 26 rfl rfl rfl)<|Ae 27 rfl (ps 26 rfl rfl rfl)<|Aa 28 rfl (Bd (b:=false) rfl rfl) gn rfl<|Aa 29 rfl (Ad rfl) gn rfl<|Ae 30 rfl (ps 37 rfl rfl rfl) ?_
  refine Ae 31 rfl (ps 37 rfl rfl rfl)<|Ae 32 rfl (ps 37 rfl rfl rfl)<|Ae 33 rfl (ps 37 rfl rfl rfl)<|Aa 34 rfl (Bd (b:=false) rfl rfl) gn rfl<|Aj 35 rfl<|Ba 0 rfl<|Ba 2 rfl<|Ba 2 rfl ?_
  exact Dc [0,0,1] (j1 false x1.words x1.at_ x1.end_ x1.q.nodes x1.q.conds x1.code x1.place h A4 n5 c6 w [[g2],(Value.slice A8 n9 c10).ownBlock.toList,(Value.slice A14 n15 c16).ownBlock.toList] h7 A8 n9 c10 h11 A14 n15 c16 h17) ⟨rfl,rfl,rfl,trivial⟩ (.cons_cons _ (.cons_cons _ (.cons_cons _ (.slnil)))) rfl
abbrev Nu (w:World) (F:Nat→Prop) (g2:Nat) (Tb3:Nat) (A8:Option Addr) (n9:Nat) (c10:Nat) (z12:Nat) (A14:Option Addr) (n15:Nat) (c16:Nat) (z18:Nat) (r:Ai):Ending→World→Prop:=fun e w'=>∃ A1:Option Addr,∃ n1:Nat,∃ c1:Nat,∃ A2:Option Addr,∃ n2:Nat,∃ c2:Nat,∃ A0:Option Addr,∃ n0:Nat,∃ c0:Nat,e=.returned (.tuple #[])∧B.Loc w w' [.box g2 Tb3 [.slice A0 n0 c0,.int .i64 r.at_,.int .i64 r.end_,.slice A1 n1 c1,.slice A2 n2 c2,.int .i64 r.code,.int .i64 r.place],.own (.slice A1 n1 c1) 45 5 n1 (r.q.nodes.flatMap Am),.own (.slice A2 n2 c2) 47 4 n2 (r.q.conds.flatMap Bj)] [St w [[g2],(Value.slice A8 n9 c10).ownBlock.toList,(Value.slice A14 n15 c16).ownBlock.toList]]∧Ow z12 A1 n1 c1 r.q.nodes∧Ow z18 A2 n2 c2 r.q.conds∧Rw D5 w' (Nw w w' F [.box g2 Tb3 [.slice A0 n0 c0,.int .i64 r.at_,.int .i64 r.end_,.slice A1 n1 c1,.slice A2 n2 c2,.int .i64 r.code,.int .i64 r.place],.own (.slice A1 n1 c1) 45 5 n1 (r.q.nodes.flatMap Am),.own (.slice A2 n2 c2) 47 4 n2 (r.q.conds.flatMap Bj)]) A0 n0 c0 r.words
noncomputable abbrev Xc9 (w:World) (F:Nat→Prop) (g2:Nat) (Tb3:Nat) (A8:Option Addr) (n9:Nat) (c10:Nat) (z12:Nat) (A14:Option Addr) (n15:Nat) (c16:Nat) (z18:Nat) (r:Ai):Cx:=⟨Tryd.prog,88,Tryd.f88,40,Nu w F g2 Tb3 A8 n9 c10 z12 A14 n15 c16 z18 r,w⟩
theorem G7 (w:World) (F:Nat→Prop) (x1:Ai) (x20:Int) (x21:Int) (g2:Nat) (Tb3:Nat) (A4:Option Addr) (n5:Nat) (c6:Nat) (z12:Nat) (A8:Option Addr) (n9:Nat) (c10:Nat) (z18:Nat) (A14:Option Addr) (n15:Nat) (c16:Nat) (h7:Rw D5 w F A4 n5 c6 x1.words) (hz13:z12≤w.heap.size) (h11:Ow z12 A8 n9 c10 x1.q.nodes) (hz19:z18≤w.heap.size) (h17:Ow z18 A14 n15 c16 x1.q.conds) (hF:∀ b,F b→b < w.heap.size∧∀ o ∈ ([[g2],(Value.slice A8 n9 c10).ownBlock.toList,(Value.slice A14 n15 c16).ownBlock.toList]:List (List Nat)),b ∉ o) (hL0:B.Loc w w [.box g2 Tb3 [.slice A4 n5 c6,.int .i64 x1.at_,.int .i64 x1.end_,.slice A8 n9 c10,.slice A14 n15 c16,.int .i64 x1.code,.int .i64 x1.place],.own (.slice A8 n9 c10) 45 5 n9 (x1.q.nodes.flatMap Am),.own (.slice A14 n15 c16) 47 4 n15 (x1.q.conds.flatMap Bj)] [Sm w.heap.size F w [[g2],(Value.slice A8 n9 c10).ownBlock.toList,(Value.slice A14 n15 c16).ownBlock.toList],St w [[g2],(Value.slice A8 n9 c10).ownBlock.toList,(Value.slice A14 n15 c16).ownBlock.toList]]) (r:Ai) (h:Dx x1 x20 x21 r):Calls Tryd.prog 88 #[.pointer (some ⟨g2,0,none⟩),.int .i64 x20,.int .i64 x21] w (Nu w F g2 Tb3 A8 n9 c10 z12 A14 n15 c16 z18 r):=by
 unfold Dx at h
 have h7:=Rw.into (bs:=[[g2],(Value.slice A8 n9 c10).ownBlock.toList,(Value.slice A14 n15 c16).ownBlock.toList]) hF h7
 refine Ce (vs:=[.pointer (some ⟨g2,0,none⟩),.int .i64 x20,.int .i64 x21]) 40 Tryd.func88 rfl Tryd.ntmps88 rfl hL0 ?_
 show G (Xc9 w F g2 Tb3 A8 n9 c10 z12 A14 n15 c16 z18 r) _ _ _ _
 refine Ah rfl<|Ah rfl<|Ac rfl rfl<|Aa 0 rfl (Ad rfl) gn rfl<|Aa 1 rfl (Bc rfl) gn rfl<|Aa 2 rfl (Aw Ql rfl) gn rfl<|Aa 3 rfl (Au 0 Z4 rfl rfl rfl) gn rfl<|Aa 4 rfl (Be rfl rfl rfl) gn rfl<|Aj 5 rfl ?_
 by_cases hp22:x1.code=0
 ·have h:=Ap hp22 h
  refine Bg rfl _ rfl ((Xd2 hp22))<|Cb rfl<|Ah rfl<|Ac rfl rfl<|Aa 0 rfl (Ad rfl) gn rfl<|Aa 1 rfl (Ad rfl) gn rfl<|Aa 2 rfl (Ad rfl) gn rfl<|Aa 3 rfl (Ad rfl) gn rfl<|Aa 4 rfl (Bc rfl) gn rfl<|Aa 5 rfl (Aw fo_90_2 rfl) gn rfl<|Aa 6 rfl (Au 0 H9 rfl rfl rfl) gn rfl<|Aa 7 rfl (Bc rfl) gn rfl ?_
  refine Aa 8 rfl (Aw Ql rfl) gn rfl ?_
  refine Cf 9 rfl (Fp (vs:=[.int .i64 x20]) (cs':=[.slice A4 n5 c6,.int .i64 x1.at_,.int .i64 x1.end_,.slice A8 n9 c10,.slice A14 n15 c16,.int .i64 x20,.int .i64 x1.place]) (M':=[.box g2 Tb3 [.slice A4 n5 c6,.int .i64 x1.at_,.int .i64 x1.end_,.slice A8 n9 c10,.slice A14 n15 c16,.int .i64 x20,.int .i64 x1.place],.own (.slice A8 n9 c10) 45 5 n9 (x1.q.nodes.flatMap Am),.own (.slice A14 n15 c16) 47 4 n15 (x1.q.conds.flatMap Bj)]) 0 sz_40 rfl rfl rfl rfl rfl rfl rfl rfl rfl ?_) gn
  refine Aa 10 rfl (Bc rfl) gn rfl<|Aa 11 rfl (Aw Xjp rfl) gn rfl ?_
  refine Cf 12 rfl (Fp (vs:=[.int .i64 x1.end_]) (cs':=[.slice A4 n5 c6,.int .i64 x1.at_,.int .i64 x1.end_,.slice A8 n9 c10,.slice A14 n15 c16,.int .i64 x20,.int .i64 x1.end_]) (M':=[.box g2 Tb3 [.slice A4 n5 c6,.int .i64 x1.at_,.int .i64 x1.end_,.slice A8 n9 c10,.slice A14 n15 c16,.int .i64 x20,.int .i64 x1.end_],.own (.slice A8 n9 c10) 45 5 n9 (x1.q.nodes.flatMap Am),.own (.slice A14 n15 c16) 47 4 n15 (x1.q.conds.flatMap Bj)]) 0 Xar rfl rfl rfl rfl rfl rfl rfl rfl rfl ?_) gn
  refine Aj 13 rfl<|Ah rfl<|Ac rfl rfl<|Aa 0 rfl (Ad rfl) gn rfl<|Aa 1 rfl (Ad rfl) gn rfl<|Aa 2 rfl (Bc rfl) gn rfl<|Aa 3 rfl (Aw Hr rfl) gn rfl<|Aa 4 rfl (Au 0 Np rfl rfl rfl) gn rfl<|Aa 5 rfl (Dj Zh rfl h7.hq) gn rfl<|Aa 6 rfl (Be rfl rfl rfl) gn rfl<|Aj 7 rfl ?_
  by_cases hp23:x21 < (x1.words.length:Int)
  ·have h:=Ap hp23 h
   refine Bz rfl _ rfl ((decide_eq_true hp23))<|Ac rfl rfl<|Aa 0 rfl (Ad rfl) gn rfl<|Aa 1 rfl (Ad rfl) gn rfl<|Aa 2 rfl (Bc rfl) gn rfl<|Aa 3 rfl (Aw Hr rfl) gn rfl<|Aa 4 rfl (Au 0 Np rfl rfl rfl) gn rfl<|Aa 5 rfl (Ad rfl) gn rfl ?_
   obtain ⟨hb24,h⟩:=h
   have hr25:=Rw.readF (s:=Sm w.heap.size F w [[g2],(Value.slice A8 n9 c10).ownBlock.toList,(Value.slice A14 n15 c16).ownBlock.toList]) (hl:=Ei) (h1:=Eh) h7 hb24
   refine Aa 6 rfl (F5 (s:=Sm w.heap.size F w [[g2],(Value.slice A8 n9 c10).ownBlock.toList,(Value.slice A14 n15 c16).ownBlock.toList]) Qj rfl rfl h7 hb24) gn rfl<|Aa 7 rfl (Ja fo_84_3 rfl) gn rfl<|Aa 8 rfl (Hq (kk:=(x21:Int).toNat * 4) (j:=3) (Sm w.heap.size F w [[g2],(Value.slice A8 n9 c10).ownBlock.toList,(Value.slice A14 n15 c16).ownBlock.toList]) H9 rfl hr25 rfl (me 0 rfl)) gn rfl<|Aa 9 rfl (Bc rfl) gn rfl<|Aa 10 rfl (Aw Xjp rfl) gn rfl ?_
   refine Cf 11 rfl (Fp (vs:=[.int .i64 ((ix x1.words x21).at_)]) (cs':=[.slice A4 n5 c6,.int .i64 x1.at_,.int .i64 x1.end_,.slice A8 n9 c10,.slice A14 n15 c16,.int .i64 x20,.int .i64 ((ix x1.words x21).at_)]) (M':=[.box g2 Tb3 [.slice A4 n5 c6,.int .i64 x1.at_,.int .i64 x1.end_,.slice A8 n9 c10,.slice A14 n15 c16,.int .i64 x20,.int .i64 ((ix x1.words x21).at_)],.own (.slice A8 n9 c10) 45 5 n9 (x1.q.nodes.flatMap Am),.own (.slice A14 n15 c16) 47 4 n15 (x1.q.conds.flatMap Bj)]) 0 Xar rfl rfl rfl rfl rfl rfl rfl rfl rfl ?_) gn
   refine Aj 12 rfl ?_
   refine Xr [] Tryd.func88 rfl (.nil) fun wr hLr=>?_
   have hMr:=hLr.pkI (.c 0 rfl (.c 1 rfl (.c 2 rfl .n))) .n (by kernel_rfl) (.c 1 rfl .n)
   have hMi:=hLr.selI (.c 0 rfl (.c 1 rfl (.c 2 rfl .n)))
   show Nu w F g2 Tb3 A8 n9 c10 z12 A14 n15 c16 z18 r (.returned (Ci [])) wr
   rw [h]
   exact ⟨A8,n9,c10,A14,n15,c16,A4,n5,c6,rfl,hMr,h11,h17,(hLr.outR (s:=Sm w.heap.size F w [[g2],(Value.slice A8 n9 c10).ownBlock.toList,(Value.slice A14 n15 c16).ownBlock.toList]) hMi (me 0 rfl) Sm.ok h7)⟩
  ·have h:=Aq hp23 h
   refine Bg rfl _ rfl ((decide_eq_false hp23))<|Cb rfl ?_
   refine Xr [] Tryd.func88 rfl (.nil) fun wr hLr=>?_
   have hMr:=hLr.pkI (.c 0 rfl (.c 1 rfl (.c 2 rfl .n))) .n (by kernel_rfl) (.c 1 rfl .n)
   have hMi:=hLr.selI (.c 0 rfl (.c 1 rfl (.c 2 rfl .n)))
   show Nu w F g2 Tb3 A8 n9 c10 z12 A14 n15 c16 z18 r (.returned (Ci [])) wr
   rw [h]
   exact ⟨A8,n9,c10,A14,n15,c16,A4,n5,c6,rfl,hMr,h11,h17,(hLr.outR (s:=Sm w.heap.size F w [[g2],(Value.slice A8 n9 c10).ownBlock.toList,(Value.slice A14 n15 c16).ownBlock.toList]) hMi (me 0 rfl) Sm.ok h7)⟩
 ·have h:=Aq hp22 h
  refine Bz rfl _ rfl ((Xde hp22)) ?_
  refine C9 [] rfl Tryd.func88 rfl (.nil) fun wr hLr=>?_
  have hMr:=hLr.pkI (.c 0 rfl (.c 1 rfl (.c 2 rfl .n))) .n (by kernel_rfl) (.c 1 rfl .n)
  have hMi:=hLr.selI (.c 0 rfl (.c 1 rfl (.c 2 rfl .n)))
  show Nu w F g2 Tb3 A8 n9 c10 z12 A14 n15 c16 z18 r (.returned (Ci [])) wr
  rw [h]
  exact ⟨A8,n9,c10,A14,n15,c16,A4,n5,c6,rfl,hMr,h11,h17,(hLr.outR (s:=Sm w.heap.size F w [[g2],(Value.slice A8 n9 c10).ownBlock.toList,(Value.slice A14 n15 c16).ownBlock.toList]) hMi (me 0 rfl) Sm.ok h7)⟩
noncomputable abbrev q89c4:=Code.snd (Code.snd (Dv Tryd.f89))
noncomputable abbrev q89c5:=Code.fst (Code.fst (Code.snd (Dv Tryd.f89)))
noncomputable abbrev q89c6:=Code.snd (Code.fst (Code.snd (Dv Tryd.f89)))
noncomputable abbrev q89c15:=Code.fst (Code.snd q89c4)
abbrev Po (w:World) (F:Nat→Prop) (g2:Nat) (Tb3:Nat) (A8:Option Addr) (n9:Nat) (c10:Nat) (z12:Nat) (A14:Option Addr) (n15:Nat) (c16:Nat) (z18:Nat) (r:ByteArray × Ai):Ending→World→Prop:=fun e w'=>∃ A1:Option Addr,∃ n1:Nat,∃ c1:Nat,∃ A2:Option Addr,∃ n2:Nat,∃ c2:Nat,∃ A0:Option Addr,∃ n0:Nat,∃ c0:Nat,e=.returned (.string r.1)∧B.Loc w w' [.box g2 Tb3 [.slice A0 n0 c0,.int .i64 r.2.at_,.int .i64 r.2.end_,.slice A1 n1 c1,.slice A2 n2 c2,.int .i64 r.2.code,.int .i64 r.2.place],.own (.slice A1 n1 c1) 45 5 n1 (r.2.q.nodes.flatMap Am),.own (.slice A2 n2 c2) 47 4 n2 (r.2.q.conds.flatMap Bj)] [St w [[g2],(Value.slice A8 n9 c10).ownBlock.toList,(Value.slice A14 n15 c16).ownBlock.toList]]∧Ow z12 A1 n1 c1 r.2.q.nodes∧Ow z18 A2 n2 c2 r.2.q.conds∧Rw D5 w' (Nw w w' F [.box g2 Tb3 [.slice A0 n0 c0,.int .i64 r.2.at_,.int .i64 r.2.end_,.slice A1 n1 c1,.slice A2 n2 c2,.int .i64 r.2.code,.int .i64 r.2.place],.own (.slice A1 n1 c1) 45 5 n1 (r.2.q.nodes.flatMap Am),.own (.slice A2 n2 c2) 47 4 n2 (r.2.q.conds.flatMap Bj)]) A0 n0 c0 r.2.words
noncomputable abbrev Y1 (w:World) (F:Nat→Prop) (g2:Nat) (Tb3:Nat) (A8:Option Addr) (n9:Nat) (c10:Nat) (z12:Nat) (A14:Option Addr) (n15:Nat) (c16:Nat) (z18:Nat) (r:ByteArray × Ai):Cx:=⟨Tryd.prog,89,Tryd.f89,66,Po w F g2 Tb3 A8 n9 c10 z12 A14 n15 c16 z18 r,w⟩
theorem Md (w:World) (F:Nat→Prop) (x1:Ai) (g2:Nat) (Tb3:Nat) (A4:Option Addr) (n5:Nat) (c6:Nat) (z12:Nat) (A8:Option Addr) (n9:Nat) (c10:Nat) (z18:Nat) (A14:Option Addr) (n15:Nat) (c16:Nat) (h7:Rw D5 w F A4 n5 c6 x1.words) (hz13:z12≤w.heap.size) (h11:Ow z12 A8 n9 c10 x1.q.nodes) (hz19:z18≤w.heap.size) (h17:Ow z18 A14 n15 c16 x1.q.conds) (hF:∀ b,F b→b < w.heap.size∧∀ o ∈ ([[g2],(Value.slice A8 n9 c10).ownBlock.toList,(Value.slice A14 n15 c16).ownBlock.toList]:List (List Nat)),b ∉ o) (hL0:B.Loc w w [.box g2 Tb3 [.slice A4 n5 c6,.int .i64 x1.at_,.int .i64 x1.end_,.slice A8 n9 c10,.slice A14 n15 c16,.int .i64 x1.code,.int .i64 x1.place],.own (.slice A8 n9 c10) 45 5 n9 (x1.q.nodes.flatMap Am),.own (.slice A14 n15 c16) 47 4 n15 (x1.q.conds.flatMap Bj)] [Sm w.heap.size F w [[g2],(Value.slice A8 n9 c10).ownBlock.toList,(Value.slice A14 n15 c16).ownBlock.toList],St w [[g2],(Value.slice A8 n9 c10).ownBlock.toList,(Value.slice A14 n15 c16).ownBlock.toList]]) (r:ByteArray × Ai) (h:Em x1 r):Calls Tryd.prog 89 #[.pointer (some ⟨g2,0,none⟩)] w (Po w F g2 Tb3 A8 n9 c10 z12 A14 n15 c16 z18 r):=by
 unfold Em at h
 have h7:=Rw.into (bs:=[[g2],(Value.slice A8 n9 c10).ownBlock.toList,(Value.slice A14 n15 c16).ownBlock.toList]) hF h7
 refine Ce (vs:=[.pointer (some ⟨g2,0,none⟩)]) 66 Tryd.func89 rfl Tryd.ntmps89 rfl hL0 ?_
 show G (Y1 w F g2 Tb3 A8 n9 c10 z12 A14 n15 c16 z18 r) _ _ _ _
 refine Ah rfl<|Ac rfl rfl<|Aa 0 rfl (Af rfl) gn rfl<|Aj 1 rfl<|Ah rfl<|Ah rfl ?_
 have j1:∀ (x32:Bool) (h:Ec x1 x32 r) ,G (Y1 w F g2 Tb3 A8 n9 c10 z12 A14 n15 c16 z18 r) [.code q89c6,.code q89c4] [(0,.pointer (some ⟨g2,0,none⟩)),(40,.bool x32)] [.box g2 Tb3 [.slice A4 n5 c6,.int .i64 x1.at_,.int .i64 x1.end_,.slice A8 n9 c10,.slice A14 n15 c16,.int .i64 x1.code,.int .i64 x1.place],.own (.slice A8 n9 c10) 45 5 n9 (x1.q.nodes.flatMap Am),.own (.slice A14 n15 c16) 47 4 n15 (x1.q.conds.flatMap Bj)] [Sm w.heap.size F w [[g2],(Value.slice A8 n9 c10).ownBlock.toList,(Value.slice A14 n15 c16).ownBlock.toList],St w [[g2],(Value.slice A8 n9 c10).ownBlock.toList,(Value.slice A14 n15 c16).ownBlock.toList]]:=by
  intro x32 h
  unfold Ec at h
  by_cases hp33:x32=true
  ·have h:=Ap hp33 h
   refine Bz rfl _ rfl (hp33)<|Ah rfl<|Ac rfl rfl<|Aa 0 rfl (Ad rfl) gn rfl<|Aa 1 rfl (Ad rfl) gn rfl<|Aa 2 rfl (Bc rfl) gn rfl<|Aa 3 rfl (Aw Eg rfl) gn rfl<|Aa 4 rfl (Au 0 H9 rfl rfl rfl) gn rfl ?_
   obtain ⟨r37,hv38,h⟩:=h
   refine Cf 5 rfl (D8 [.pointer (some ⟨g2,0,none⟩),.int .i64 200,.int .i64 x1.at_] rfl Tryd.func88 rfl rfl rfl fun w34 hL35=>?_) gn
   have hp36:=pmI hL35 (.c 0 rfl (.c 1 rfl (.c 2 rfl .n))) .n (by kernel_rfl)
   refine Calls.mono (G7 w34 (Fl ([Sm w.heap.size F w [[g2],(Value.slice A8 n9 c10).ownBlock.toList,(Value.slice A14 n15 c16).ownBlock.toList]]:List Cc)) x1 200 x1.at_ g2 Tb3 A4 n5 c6 z12 A8 n9 c10 z18 A14 n15 c16 (Rw.mono h7 (hL35.toFl (me 0 rfl) (me 0 rfl))) (Nat.le_trans hz13 hL35.env.size) h11 (Nat.le_trans hz19 hL35.env.size) h17 (hL35.hFl hp36 (Bi [0] rfl)) (hL35.into hp36 _) r37 hv38) ?_
   rintro _ w53 ⟨A43,n44,c45,A48,n49,c50,A39,n40,c41,rfl,hM54,h46,h51,h42⟩
   obtain ⟨sb57,hL55,hv56⟩:=hL35.callB (Sl:=([Sm w.heap.size F w [[g2],(Value.slice A8 n9 c10).ownBlock.toList,(Value.slice A14 n15 c16).ownBlock.toList]]:List Cc)) hp36 hM54 F (Bi [0] rfl) ⟨Sm.ok,trivial⟩
   have h42:At D5 (Sm w.heap.size F w53 sb57) A39 n40 c41 r37.words:=Rw.mono h42 hv56
   refine ⟨_,_,_,rfl,hL55,?_⟩
   refine Aj 6 rfl<|Ah rfl<|Ac rfl rfl<|Aa 0 rfl (Af rfl) gn rfl<|Aj 1 rfl ?_
   refine C9 [.string (⟨#[]⟩:ByteArray)] rfl Tryd.func89 rfl (.tmp rfl (.nil)) fun wr hLr=>?_
   have hMr:=hLr.pkI (.c 0 rfl (.c 1 rfl (.c 2 rfl .n))) .n (by kernel_rfl) (.c 2 rfl .n)
   have hMi:=hLr.selI (.c 0 rfl (.c 1 rfl (.c 2 rfl .n)))
   show Po w F g2 Tb3 A8 n9 c10 z12 A14 n15 c16 z18 r (.returned (Ci [.string (⟨#[]⟩:ByteArray)])) wr
   rw [h]
   exact ⟨A43,n44,c45,A48,n49,c50,A39,n40,c41,rfl,hMr,h46,h51,(hLr.outR (s:=Sm w.heap.size F w53 sb57) hMi (me 0 rfl) Sm.ok h42)⟩
  ·have h:=Aq hp33 h
   refine Bg rfl _ rfl ((bf hp33))<|Cb rfl<|Ah rfl<|Ac rfl rfl<|Aa 0 rfl (Ad rfl) gn rfl<|Aa 1 rfl (Bc rfl) gn rfl<|Aa 2 rfl (Aw Eg rfl) gn rfl<|Aa 3 rfl (Au 0 H9 rfl rfl rfl) gn rfl<|Aa 4 rfl (Be rfl rfl rfl) gn rfl<|Aa 5 rfl (Bc rfl) gn rfl<|Aa 6 rfl (Aw Eg rfl) gn rfl ?_
   refine Cf 7 rfl (Fp (vs:=[.int .i64 (w64 (x1.at_ + 1))]) (cs':=[.slice A4 n5 c6,.int .i64 (w64 (x1.at_ + 1)),.int .i64 x1.end_,.slice A8 n9 c10,.slice A14 n15 c16,.int .i64 x1.code,.int .i64 x1.place]) (M':=[.box g2 Tb3 [.slice A4 n5 c6,.int .i64 (w64 (x1.at_ + 1)),.int .i64 x1.end_,.slice A8 n9 c10,.slice A14 n15 c16,.int .i64 x1.code,.int .i64 x1.place],.own (.slice A8 n9 c10) 45 5 n9 (x1.q.nodes.flatMap Am),.own (.slice A14 n15 c16) 47 4 n15 (x1.q.conds.flatMap Bj)]) 0 Xar rfl rfl rfl rfl rfl rfl rfl rfl rfl ?_) gn
   refine Aj 8 rfl<|Ah rfl ?_
   obtain ⟨hb58,h⟩:=h
   have hns:Region.noSelect (Code.ops q89c15)=true:=by kernel_rfl
   refine Gf [] 13 rfl rfl mix rfl (.c 0 rfl (.c 1 rfl .n))<|wfv 0 rfl (Ad rfl) gn hns rfl<|wfv 1 rfl (Bc rfl) gn hns rfl<|wfv 2 rfl (Aw Hr rfl) gn hns rfl<|wfv 3 rfl (Au 0 Np rfl rfl rfl) gn hns rfl<|wfv 4 rfl (Ad rfl) gn hns rfl<|wfv 5 rfl (Bc rfl) gn hns rfl<|wfv 6 rfl (Aw Eg rfl) gn hns rfl<|wfv 7 rfl (Au 0 H9 rfl rfl rfl) gn hns rfl<|wfv 8 rfl (Be rfl rfl rfl) gn hns rfl ?_
   have hr61:=Rw.readF (s:=Sm w.heap.size F w [[g2],(Value.slice A8 n9 c10).ownBlock.toList,(Value.slice A14 n15 c16).ownBlock.toList]) (hl:=Ei) (h1:=Eh) h7 hb58
   refine wfv 9 rfl (F5 (s:=Sm w.heap.size F w [[g2],(Value.slice A8 n9 c10).ownBlock.toList,(Value.slice A14 n15 c16).ownBlock.toList]) Qj rfl rfl h7 hb58) gn hns rfl<|wfv 10 rfl (Ja Kt rfl) gn hns rfl<|wfv 11 rfl (Hq (kk:=(w64 ((w64 (x1.at_ + 1)) - 1):Int).toNat * 4) (j:=1) (Sm w.heap.size F w [[g2],(Value.slice A8 n9 c10).ownBlock.toList,(Value.slice A14 n15 c16).ownBlock.toList]) Ib rfl hr61 rfl (me 0 rfl)) gn hns rfl<|wfv 12 rfl (Af rfl) gn hns rfl<|E8 (by kernel_rfl) ?_
   refine C9 [.string ((ix x1.words (w64 ((w64 (x1.at_ + 1)) - 1))).text)] rfl Tryd.func89 rfl (.tmp rfl (.nil)) fun wr hLr=>?_
   have hMr:=hLr.pkI (.c 0 rfl (.c 1 rfl (.c 2 rfl .n))) .n (by kernel_rfl) (.c 1 rfl .n)
   have hMi:=hLr.selI (.c 0 rfl (.c 1 rfl (.c 2 rfl .n)))
   show Po w F g2 Tb3 A8 n9 c10 z12 A14 n15 c16 z18 r (.returned (Ci [.string ((ix x1.words (w64 ((w64 (x1.at_ + 1)) - 1))).text)])) wr
   rw [h]
   exact ⟨A8,n9,c10,A14,n15,c16,A4,n5,c6,rfl,hMr,h11,h17,(hLr.outR (s:=Sm w.heap.size F w [[g2],(Value.slice A8 n9 c10).ownBlock.toList,(Value.slice A14 n15 c16).ownBlock.toList]) hMi (me 0 rfl) Sm.ok h7)⟩
 by_cases hp62:x1.at_=(x1.words.length:Int)
 ·have h:=Ap hp62 h
  have hns:Region.noSelect (Code.ops q89c5)=true:=by kernel_rfl
  refine Gf [] 38 rfl rfl mix rfl (.c 0 rfl (.c 1 rfl .n))<|wfv 0 rfl (Ad rfl) gn hns rfl<|wfv 1 rfl (Bc rfl) gn hns rfl<|wfv 2 rfl (Aw Eg rfl) gn hns rfl<|wfv 3 rfl (Au 0 H9 rfl rfl rfl) gn hns rfl<|wfv 4 rfl (Ad rfl) gn hns rfl<|wfv 5 rfl (Bc rfl) gn hns rfl<|wfv 6 rfl (Aw Hr rfl) gn hns rfl<|wfv 7 rfl (Au 0 Np rfl rfl rfl) gn hns rfl<|wfv 8 rfl (Dj Zh rfl h7.hq) gn hns rfl<|wfv 9 rfl (Be rfl rfl rfl) gn hns rfl<|wfv 10 rfl (Ad rfl) gn hns rfl ?_
  refine Kz 13 rfl ((eqi hp62))<|wfp 11 rfl (ps 13 rfl rfl rfl) hns rfl<|wfp 12 rfl (ps 13 rfl rfl rfl) hns rfl<|wfp 13 rfl (ps 13 rfl rfl rfl) hns rfl<|wfp 14 rfl (ps 13 rfl rfl rfl) hns rfl<|wfp 15 rfl (ps 13 rfl rfl rfl) hns rfl<|wfp 16 rfl (ps 13 rfl rfl rfl) hns rfl<|wfp 17 rfl (ps 13 rfl rfl rfl) hns rfl<|wfp 18 rfl (ps 13 rfl rfl rfl) hns rfl<|wfp 19 rfl (ps 13 rfl rfl rfl) hns rfl<|wfp 20 rfl (ps 13 rfl rfl rfl) hns rfl<|wfp 21 rfl (ps 13 rfl rfl rfl) hns rfl ?_
  refine wfp 22 rfl (ps 13 rfl rfl rfl) hns rfl<|wfv 23 rfl (Bd (b:=true) rfl rfl) gn hns rfl<|wfv 24 rfl (Ad rfl) gn hns rfl<|wfp 25 rfl (ps 27 rfl rfl rfl) hns rfl<|wfp 26 rfl (ps 27 rfl rfl rfl) hns rfl<|wfp 27 rfl (ps 27 rfl rfl rfl) hns rfl<|wfp 28 rfl (ps 27 rfl rfl rfl) hns rfl<|wfp 29 rfl (ps 27 rfl rfl rfl) hns rfl<|wfp 30 rfl (ps 27 rfl rfl rfl) hns rfl<|wfp 31 rfl (ps 27 rfl rfl rfl) hns rfl<|wfp 32 rfl (ps 27 rfl rfl rfl) hns rfl<|wfp 33 rfl (ps 27 rfl rfl rfl) hns rfl ?_
  refine wfp 34 rfl (ps 27 rfl rfl rfl) hns rfl<|wfp 35 rfl (ps 27 rfl rfl rfl) hns rfl<|wfp 36 rfl (ps 27 rfl rfl rfl) hns rfl<|wfv 37 rfl (Bd (b:=true) rfl rfl) gn hns rfl<|E8 (by kernel_rfl) ?_
  exact Dc [0,1] (j1 true h) ⟨rfl,rfl,trivial⟩ (.cons_cons _ (.cons_cons _ (.cons_cons _ (.slnil)))) rfl
 ·have h:=Aq hp62 h
  obtain ⟨hb63,h⟩:=h
  by_cases hp65:(ix x1.words x1.at_).kind=1
  ·have h:=Ap hp65 h
   have hns:Region.noSelect (Code.ops q89c5)=true:=by kernel_rfl
   refine Gf [] 38 rfl rfl mix rfl (.c 0 rfl (.c 1 rfl .n))<|wfv 0 rfl (Ad rfl) gn hns rfl<|wfv 1 rfl (Bc rfl) gn hns rfl<|wfv 2 rfl (Aw Eg rfl) gn hns rfl<|wfv 3 rfl (Au 0 H9 rfl rfl rfl) gn hns rfl<|wfv 4 rfl (Ad rfl) gn hns rfl<|wfv 5 rfl (Bc rfl) gn hns rfl<|wfv 6 rfl (Aw Hr rfl) gn hns rfl<|wfv 7 rfl (Au 0 Np rfl rfl rfl) gn hns rfl<|wfv 8 rfl (Dj Zh rfl h7.hq) gn hns rfl<|wfv 9 rfl (Be rfl rfl rfl) gn hns rfl<|wfv 10 rfl (Ad rfl) gn hns rfl ?_
   refine Kz 13 rfl ((nei hp62))<|wfv 11 rfl (Ad rfl) (gy 13 rfl rfl) hns rfl<|wfv 12 rfl (Bc rfl) (gy 13 rfl rfl) hns rfl<|wfv 13 rfl (Aw Hr rfl) (gy 13 rfl rfl) hns rfl<|wfv 14 rfl (Au 0 Np rfl rfl rfl) (gy 13 rfl rfl) hns rfl<|wfv 15 rfl (Ad rfl) (gy 13 rfl rfl) hns rfl<|wfv 16 rfl (Bc rfl) (gy 13 rfl rfl) hns rfl<|wfv 17 rfl (Aw Eg rfl) (gy 13 rfl rfl) hns rfl<|wfv 18 rfl (Au 0 H9 rfl rfl rfl) (gy 13 rfl rfl) hns rfl ?_
   have hr69:=Rw.readF (s:=Sm w.heap.size F w [[g2],(Value.slice A8 n9 c10).ownBlock.toList,(Value.slice A14 n15 c16).ownBlock.toList]) (hl:=Ei) (h1:=Eh) h7 hb63
   refine wfv 19 rfl (F5 (s:=Sm w.heap.size F w [[g2],(Value.slice A8 n9 c10).ownBlock.toList,(Value.slice A14 n15 c16).ownBlock.toList]) Qj rfl rfl h7 hb63) (gy 13 rfl rfl) hns rfl<|wfv 20 rfl (Ja Ve rfl) (gy 13 rfl rfl) hns rfl<|wfv 21 rfl (Hq (kk:=(x1.at_:Int).toNat * 4) (j:=0) (Sm w.heap.size F w [[g2],(Value.slice A8 n9 c10).ownBlock.toList,(Value.slice A14 n15 c16).ownBlock.toList]) Xb3 rfl hr69 rfl (me 0 rfl)) (gy 13 rfl rfl) hns rfl<|wfv 22 rfl (Be rfl rfl rfl) (gy 13 rfl rfl) hns rfl<|wfv 23 rfl (Bd (b:=false) rfl rfl) gn hns rfl<|wfv 24 rfl (Ad rfl) gn hns rfl<|Kz 27 rfl ((Xd2 hp65))<|wfv 25 rfl (Ad rfl) (gy 27 rfl rfl) hns rfl<|wfv 26 rfl (Bc rfl) (gy 27 rfl rfl) hns rfl<|wfv 27 rfl (Aw Hr rfl) (gy 27 rfl rfl) hns rfl<|wfv 28 rfl (Au 0 Np rfl rfl rfl) (gy 27 rfl rfl) hns rfl<|wfv 29 rfl (Ad rfl) (gy 27 rfl rfl) hns rfl ?_
   refine wfv 30 rfl (Bc rfl) (gy 27 rfl rfl) hns rfl<|wfv 31 rfl (Aw Eg rfl) (gy 27 rfl rfl) hns rfl<|wfv 32 rfl (Au 0 H9 rfl rfl rfl) (gy 27 rfl rfl) hns rfl ?_
   have hr70:=Rw.readF (s:=Sm w.heap.size F w [[g2],(Value.slice A8 n9 c10).ownBlock.toList,(Value.slice A14 n15 c16).ownBlock.toList]) (hl:=Ei) (h1:=Eh) h7 hb63
   refine wfv 33 rfl (F5 (s:=Sm w.heap.size F w [[g2],(Value.slice A8 n9 c10).ownBlock.toList,(Value.slice A14 n15 c16).ownBlock.toList]) Qj rfl rfl h7 hb63) (gy 27 rfl rfl) hns rfl<|wfv 34 rfl (Ja Kt rfl) (gy 27 rfl rfl) hns rfl<|wfv 35 rfl (Hq (kk:=(x1.at_:Int).toNat * 4) (j:=1) (Sm w.heap.size F w [[g2],(Value.slice A8 n9 c10).ownBlock.toList,(Value.slice A14 n15 c16).ownBlock.toList]) Ib rfl hr70 rfl (me 0 rfl)) (gy 27 rfl rfl) hns rfl<|wfv 36 rfl (Zc rfl rfl) (gy 27 rfl rfl) hns rfl<|wfv 37 rfl (Bd (b:=false) rfl rfl) gn hns rfl<|E8 (by kernel_rfl) ?_
   exact Dc [0,1] (j1 (seq ((ix x1.words x1.at_).text) (⟨#[95]⟩:ByteArray)) h) ⟨rfl,rfl,trivial⟩ (.cons_cons _ (.cons_cons _ (.cons_cons _ (.slnil)))) rfl
  ·have h:=Aq hp65 h
   have hns:Region.noSelect (Code.ops q89c5)=true:=by kernel_rfl
   refine Gf [] 38 rfl rfl mix rfl (.c 0 rfl (.c 1 rfl .n))<|wfv 0 rfl (Ad rfl) gn hns rfl<|wfv 1 rfl (Bc rfl) gn hns rfl<|wfv 2 rfl (Aw Eg rfl) gn hns rfl<|wfv 3 rfl (Au 0 H9 rfl rfl rfl) gn hns rfl<|wfv 4 rfl (Ad rfl) gn hns rfl<|wfv 5 rfl (Bc rfl) gn hns rfl<|wfv 6 rfl (Aw Hr rfl) gn hns rfl<|wfv 7 rfl (Au 0 Np rfl rfl rfl) gn hns rfl<|wfv 8 rfl (Dj Zh rfl h7.hq) gn hns rfl<|wfv 9 rfl (Be rfl rfl rfl) gn hns rfl<|wfv 10 rfl (Ad rfl) gn hns rfl ?_
   refine Kz 13 rfl ((nei hp62))<|wfv 11 rfl (Ad rfl) (gy 13 rfl rfl) hns rfl<|wfv 12 rfl (Bc rfl) (gy 13 rfl rfl) hns rfl<|wfv 13 rfl (Aw Hr rfl) (gy 13 rfl rfl) hns rfl<|wfv 14 rfl (Au 0 Np rfl rfl rfl) (gy 13 rfl rfl) hns rfl<|wfv 15 rfl (Ad rfl) (gy 13 rfl rfl) hns rfl<|wfv 16 rfl (Bc rfl) (gy 13 rfl rfl) hns rfl<|wfv 17 rfl (Aw Eg rfl) (gy 13 rfl rfl) hns rfl<|wfv 18 rfl (Au 0 H9 rfl rfl rfl) (gy 13 rfl rfl) hns rfl ?_
   have hr72:=Rw.readF (s:=Sm w.heap.size F w [[g2],(Value.slice A8 n9 c10).ownBlock.toList,(Value.slice A14 n15 c16).ownBlock.toList]) (hl:=Ei) (h1:=Eh) h7 hb63
   refine wfv 19 rfl (F5 (s:=Sm w.heap.size F w [[g2],(Value.slice A8 n9 c10).ownBlock.toList,(Value.slice A14 n15 c16).ownBlock.toList]) Qj rfl rfl h7 hb63) (gy 13 rfl rfl) hns rfl<|wfv 20 rfl (Ja Ve rfl) (gy 13 rfl rfl) hns rfl<|wfv 21 rfl (Hq (kk:=(x1.at_:Int).toNat * 4) (j:=0) (Sm w.heap.size F w [[g2],(Value.slice A8 n9 c10).ownBlock.toList,(Value.slice A14 n15 c16).ownBlock.toList]) Xb3 rfl hr72 rfl (me 0 rfl)) (gy 13 rfl rfl) hns rfl<|wfv 22 rfl (Be rfl rfl rfl) (gy 13 rfl rfl) hns rfl<|wfv 23 rfl (Bd (b:=false) rfl rfl) gn hns rfl<|wfv 24 rfl (Ad rfl) gn hns rfl<|Kz 27 rfl ((Xde hp65))<|wfp 25 rfl (ps 27 rfl rfl rfl) hns rfl<|wfp 26 rfl (ps 27 rfl rfl rfl) hns rfl<|wfp 27 rfl (ps 27 rfl rfl rfl) hns rfl<|wfp 28 rfl (ps 27 rfl rfl rfl) hns rfl<|wfp 29 rfl (ps 27 rfl rfl rfl) hns rfl ?_
   refine wfp 30 rfl (ps 27 rfl rfl rfl) hns rfl<|wfp 31 rfl (ps 27 rfl rfl rfl) hns rfl<|wfp 32 rfl (ps 27 rfl rfl rfl) hns rfl<|wfp 33 rfl (ps 27 rfl rfl rfl) hns rfl<|wfp 34 rfl (ps 27 rfl rfl rfl) hns rfl<|wfp 35 rfl (ps 27 rfl rfl rfl) hns rfl<|wfp 36 rfl (ps 27 rfl rfl rfl) hns rfl<|wfv 37 rfl (Bd (b:=true) rfl rfl) gn hns rfl<|E8 (by kernel_rfl) ?_
   exact Dc [0,1] (j1 true h) ⟨rfl,rfl,trivial⟩ (.cons_cons _ (.cons_cons _ (.cons_cons _ (.slnil)))) rfl
abbrev Pv (w:World) (F:Nat→Prop) (g2:Nat) (Tb3:Nat) (A8:Option Addr) (n9:Nat) (c10:Nat) (z12:Nat) (A14:Option Addr) (n15:Nat) (c16:Nat) (z18:Nat) (r:Ai):Ending→World→Prop:=fun e w'=>∃ A1:Option Addr,∃ n1:Nat,∃ c1:Nat,∃ A2:Option Addr,∃ n2:Nat,∃ c2:Nat,∃ A0:Option Addr,∃ n0:Nat,∃ c0:Nat,e=.returned (.tuple #[])∧B.Loc w w' [.box g2 Tb3 [.slice A0 n0 c0,.int .i64 r.at_,.int .i64 r.end_,.slice A1 n1 c1,.slice A2 n2 c2,.int .i64 r.code,.int .i64 r.place],.own (.slice A1 n1 c1) 45 5 n1 (r.q.nodes.flatMap Am),.own (.slice A2 n2 c2) 47 4 n2 (r.q.conds.flatMap Bj)] [St w [[g2],(Value.slice A8 n9 c10).ownBlock.toList,(Value.slice A14 n15 c16).ownBlock.toList]]∧Ow z12 A1 n1 c1 r.q.nodes∧Ow z18 A2 n2 c2 r.q.conds∧Rw D5 w' (Nw w w' F [.box g2 Tb3 [.slice A0 n0 c0,.int .i64 r.at_,.int .i64 r.end_,.slice A1 n1 c1,.slice A2 n2 c2,.int .i64 r.code,.int .i64 r.place],.own (.slice A1 n1 c1) 45 5 n1 (r.q.nodes.flatMap Am),.own (.slice A2 n2 c2) 47 4 n2 (r.q.conds.flatMap Bj)]) A0 n0 c0 r.words
noncomputable abbrev Xcd (w:World) (F:Nat→Prop) (g2:Nat) (Tb3:Nat) (A8:Option Addr) (n9:Nat) (c10:Nat) (z12:Nat) (A14:Option Addr) (n15:Nat) (c16:Nat) (z18:Nat) (r:Ai):Cx:=⟨Tryd.prog,90,Tryd.f90,25,Pv w F g2 Tb3 A8 n9 c10 z12 A14 n15 c16 z18 r,w⟩
theorem Ie (w:World) (F:Nat→Prop) (x1:Ai) (x20:ByteArray) (g2:Nat) (Tb3:Nat) (A4:Option Addr) (n5:Nat) (c6:Nat) (z12:Nat) (A8:Option Addr) (n9:Nat) (c10:Nat) (z18:Nat) (A14:Option Addr) (n15:Nat) (c16:Nat) (h7:Rw D5 w F A4 n5 c6 x1.words) (hz13:z12≤w.heap.size) (h11:Ow z12 A8 n9 c10 x1.q.nodes) (hz19:z18≤w.heap.size) (h17:Ow z18 A14 n15 c16 x1.q.conds) (hF:∀ b,F b→b < w.heap.size∧∀ o ∈ ([[g2],(Value.slice A8 n9 c10).ownBlock.toList,(Value.slice A14 n15 c16).ownBlock.toList]:List (List Nat)),b ∉ o) (hL0:B.Loc w w [.box g2 Tb3 [.slice A4 n5 c6,.int .i64 x1.at_,.int .i64 x1.end_,.slice A8 n9 c10,.slice A14 n15 c16,.int .i64 x1.code,.int .i64 x1.place],.own (.slice A8 n9 c10) 45 5 n9 (x1.q.nodes.flatMap Am),.own (.slice A14 n15 c16) 47 4 n15 (x1.q.conds.flatMap Bj)] [Sm w.heap.size F w [[g2],(Value.slice A8 n9 c10).ownBlock.toList,(Value.slice A14 n15 c16).ownBlock.toList],St w [[g2],(Value.slice A8 n9 c10).ownBlock.toList,(Value.slice A14 n15 c16).ownBlock.toList]]) (r:Ai) (h:Ea x1 x20 r):Calls Tryd.prog 90 #[.pointer (some ⟨g2,0,none⟩),.string x20] w (Pv w F g2 Tb3 A8 n9 c10 z12 A14 n15 c16 z18 r):=by
 unfold Ea at h
 have h7:=Rw.into (bs:=[[g2],(Value.slice A8 n9 c10).ownBlock.toList,(Value.slice A14 n15 c16).ownBlock.toList]) hF h7
 refine Ce (vs:=[.pointer (some ⟨g2,0,none⟩),.string x20]) 25 Tryd.func90 rfl Tryd.ntmps90 rfl hL0 ?_
 show G (Xcd w F g2 Tb3 A8 n9 c10 z12 A14 n15 c16 z18 r) _ _ _ _
 refine Ah rfl<|Ah rfl<|Ac rfl rfl<|Aa 0 rfl (Ad rfl) gn rfl<|Aa 1 rfl (Ad rfl) gn rfl<|Aa 2 rfl (Bc rfl) gn rfl<|Aa 3 rfl (Aw Eg rfl) gn rfl<|Aa 4 rfl (Au 0 H9 rfl rfl rfl) gn rfl<|Aa 5 rfl (Ad rfl) gn rfl ?_
 obtain ⟨r24,hv25,h⟩:=h
 refine Cf 6 rfl (D8 [.pointer (some ⟨g2,0,none⟩),.int .i64 x1.at_,.int .i64 5,.string x20] rfl Tryd.func91 rfl rfl rfl fun w21 hL22=>?_) gn
 have hp23:=pmI hL22 (.c 0 rfl (.c 1 rfl (.c 2 rfl .n))) .n (by kernel_rfl)
 refine Calls.mono (H6 w21 (Fl ([Sm w.heap.size F w [[g2],(Value.slice A8 n9 c10).ownBlock.toList,(Value.slice A14 n15 c16).ownBlock.toList]]:List Cc)) x1 x1.at_ 5 x20 g2 Tb3 A4 n5 c6 z12 A8 n9 c10 z18 A14 n15 c16 (Rw.mono h7 (hL22.toFl (me 0 rfl) (me 0 rfl))) (Nat.le_trans hz13 hL22.env.size) h11 (Nat.le_trans hz19 hL22.env.size) h17 (hL22.hFl hp23 (Bi [0] rfl)) (hL22.into hp23 _) r24 hv25) ?_
 rintro _ w40 ⟨A30,n31,c32,A35,n36,c37,A26,n27,c28,rfl,hM41,h33,h38,h29⟩
 obtain ⟨sb44,hL42,hv43⟩:=hL22.callB (Sl:=([Sm w.heap.size F w [[g2],(Value.slice A8 n9 c10).ownBlock.toList,(Value.slice A14 n15 c16).ownBlock.toList]]:List Cc)) hp23 hM41 F (Bi [0] rfl) ⟨Sm.ok,trivial⟩
 have h29:At D5 (Sm w.heap.size F w40 sb44) A26 n27 c28 r24.2.words:=Rw.mono h29 hv43
 refine ⟨_,_,_,rfl,hL42,?_⟩
 refine Aa 7 rfl (Qv rfl) gn rfl<|Aj 8 rfl ?_
 by_cases hp45:r24.1=true
 ·have h:=Ap hp45 h
  refine Bg rfl _ rfl ((nf hp45))<|Cb rfl<|Ac rfl rfl<|Aa 0 rfl (Ad rfl) gn rfl<|Aa 1 rfl (Bc rfl) gn rfl<|Aa 2 rfl (Aw Eg rfl) gn rfl<|Aa 3 rfl (Au 0 H9 rfl rfl rfl) gn rfl<|Aa 4 rfl (Be rfl rfl rfl) gn rfl<|Aa 5 rfl (Bc rfl) gn rfl<|Aa 6 rfl (Aw Eg rfl) gn rfl ?_
  refine Cf 7 rfl (Fp (vs:=[.int .i64 (w64 (r24.2.at_ + 1))]) (cs':=[.slice A26 n27 c28,.int .i64 (w64 (r24.2.at_ + 1)),.int .i64 r24.2.end_,.slice A30 n31 c32,.slice A35 n36 c37,.int .i64 r24.2.code,.int .i64 r24.2.place]) (M':=[.box g2 Tb3 [.slice A26 n27 c28,.int .i64 (w64 (r24.2.at_ + 1)),.int .i64 r24.2.end_,.slice A30 n31 c32,.slice A35 n36 c37,.int .i64 r24.2.code,.int .i64 r24.2.place],.own (.slice A30 n31 c32) 45 5 n31 (r24.2.q.nodes.flatMap Am),.own (.slice A35 n36 c37) 47 4 n36 (r24.2.q.conds.flatMap Bj)]) 0 Xar rfl rfl rfl rfl rfl rfl rfl rfl rfl ?_) gn
  refine Aj 8 rfl ?_
  refine Xr [] Tryd.func90 rfl (.nil) fun wr hLr=>?_
  have hMr:=hLr.pkI (.c 0 rfl (.c 1 rfl (.c 2 rfl .n))) .n (by kernel_rfl) (.c 2 rfl .n)
  have hMi:=hLr.selI (.c 0 rfl (.c 1 rfl (.c 2 rfl .n)))
  show Pv w F g2 Tb3 A8 n9 c10 z12 A14 n15 c16 z18 r (.returned (Ci [])) wr
  rw [h]
  exact ⟨A30,n31,c32,A35,n36,c37,A26,n27,c28,rfl,hMr,h33,h38,(hLr.outR (s:=Sm w.heap.size F w40 sb44) hMi (me 0 rfl) Sm.ok h29)⟩
 ·have h:=Aq hp45 h
  refine Bz rfl _ rfl ((nt (bf hp45)))<|Ah rfl<|Ac rfl rfl<|Aa 0 rfl (Ad rfl) gn rfl<|Aa 1 rfl (Ad rfl) gn rfl<|Aa 2 rfl (Bc rfl) gn rfl<|Aa 3 rfl (Aw Eg rfl) gn rfl<|Aa 4 rfl (Au 0 H9 rfl rfl rfl) gn rfl ?_
  obtain ⟨r49,hv50,h⟩:=h
  refine Cf 5 rfl (D8 [.pointer (some ⟨g2,0,none⟩),.int .i64 200,.int .i64 r24.2.at_] rfl Tryd.func88 rfl rfl rfl fun w46 hL47=>?_) gn
  have hp48:=pmI hL47 (.c 0 rfl (.c 1 rfl (.c 2 rfl .n))) .n (by kernel_rfl)
  refine Calls.mono (G7 w46 (Fl ([Sm w.heap.size F w40 sb44]:List Cc)) r24.2 200 r24.2.at_ g2 Tb3 A26 n27 c28 z12 A30 n31 c32 z18 A35 n36 c37 (Rw.mono h29 (hL47.toFl (me 0 rfl) (me 0 rfl))) (Nat.le_trans hz13 hL47.env.size) h33 (Nat.le_trans hz19 hL47.env.size) h38 (hL47.hFl hp48 (Bi [0] rfl)) (hL47.into hp48 _) r49 hv50) ?_
  rintro _ w65 ⟨A55,n56,c57,A60,n61,c62,A51,n52,c53,rfl,hM66,h58,h63,h54⟩
  obtain ⟨sb69,hL67,hv68⟩:=hL47.callB (Sl:=([Sm w.heap.size F w40 sb44]:List Cc)) hp48 hM66 F (Bi [0] rfl) ⟨Sm.ok,trivial⟩
  have h54:At D5 (Sm w.heap.size F w65 sb69) A51 n52 c53 r49.words:=Rw.mono h54 hv68
  refine ⟨_,_,_,rfl,hL67,?_⟩
  refine Aj 6 rfl ?_
  refine C9 [] rfl Tryd.func90 rfl (.nil) fun wr hLr=>?_
  have hMr:=hLr.pkI (.c 0 rfl (.c 1 rfl (.c 2 rfl .n))) .n (by kernel_rfl) (.c 3 rfl .n)
  have hMi:=hLr.selI (.c 0 rfl (.c 1 rfl (.c 2 rfl .n)))
  show Pv w F g2 Tb3 A8 n9 c10 z12 A14 n15 c16 z18 r (.returned (Ci [])) wr
  rw [h]
  exact ⟨A55,n56,c57,A60,n61,c62,A51,n52,c53,rfl,hMr,h58,h63,(hLr.outR (s:=Sm w.heap.size F w65 sb69) hMi (me 0 rfl) Sm.ok h54)⟩
end Go.Proofs.YtjookebbmfiidaaDoor.K
