/- What the machine's calls do, function by function, printed by my own tool. Condition of each: its relation holds of the answer, and what is handed in lies in memory as told. -/
import Derived.Test.YtjookebbmfiidaaDoorK1
set_option linter.unusedVariables false
set_option maxRecDepth 100000
set_option maxHeartbeats 4000000
namespace Go.Proofs.YtjookebbmfiidaaDoor.K
open Go.Proofs.YtjookebbmfiidaaDoor.B Go.Proofs.YtjookebbmfiidaaDoor.R Go.RowKit
noncomputable abbrev q24c4:=Code.snd (Code.snd (Dv Tryd.f24))
noncomputable abbrev q24c5:=Code.fst (Code.fst (Code.snd (Dv Tryd.f24)))
noncomputable abbrev q24c6:=Code.snd (Code.fst (Code.snd (Dv Tryd.f24)))
noncomputable abbrev Xep:=Code.snd q24c4
noncomputable abbrev Xf8:=Code.fst (Code.fst (Code.snd (Code.fst q24c4)))
noncomputable abbrev Xj8:=Code.snd Xep
noncomputable abbrev Xfb:=Code.fst (Code.fst (Code.snd (Code.fst Xep)))
abbrev Jw (w:World) (F:Nat→Prop) (r:Bool):Ending→World→Prop:=fun e w'=>e=.returned (.bool r)∧B.Loc w w' [] [St w []]
noncomputable abbrev Lu (w:World) (F:Nat→Prop) (r:Bool):Cx:=⟨Tryd.prog,24,Tryd.f24,81,Jw w F  r,w⟩
theorem Uw (w:World) (F:Nat→Prop) (x1:Ar) (A2:Option Addr) (n3:Nat) (c4:Nat) (A6:Option Addr) (n7:Nat) (c8:Nat) (h5:Rw Dl w (St w []).av A2 n3 c4 x1.nodes) (h9:Rw Gg w (St w []).av A6 n7 c8 x1.conds) (hG:Tb Tryd.prog (St w [])) (hF:∀ b,F b→b < w.heap.size∧∀ o ∈ ([]:List (List Nat)),b ∉ o) (hL0:B.Loc w w [] [Sm w.heap.size F w [],St w []]) (r:Bool) (h:Qn x1 r):Calls Tryd.prog 24 #[.agg #[.slice A2 n3 c4,.slice A6 n7 c8]] w (Jw w F  r):=by
 unfold Qn at h
 refine Ce (vs:=[.agg #[.slice A2 n3 c4,.slice A6 n7 c8]]) 81 Tryd.func24 rfl Tryd.ntmps24 rfl hL0 ?_
 show G (Lu w F r) _ _ _ _
 refine Ah rfl<|Ac rfl rfl ?_
 refine Cf 0 rfl (V5 [.slice A2 n3 c4,.slice A6 n7 c8] rfl rfl rfl fun gb10=>?_) gn
 refine Aa 1 rfl (Af rfl) gn rfl<|Aj 2 rfl<|Ah rfl<|Ah rfl ?_
 have j1:∀ (x84:Bool) (h:Jg x1 x84 r) ,G (Lu w F r) [.code q24c6,.code q24c4] [(1,.pointer (some ⟨gb10,0,none⟩)),(25,.bool x84)] [.box gb10 25 [.slice A2 n3 c4,.slice A6 n7 c8]] [Sm w.heap.size F w [],St w []]:=by
  intro x84 h
  unfold Jg at h
  by_cases hp85:x84=true
  ·have h:=Ap hp85 h
   refine Bz rfl _ rfl (hp85)<|Ah rfl<|Ac rfl rfl<|Aa 0 rfl (Af rfl) gn rfl<|Aj 1 rfl ?_
   refine C9 [.bool false] rfl Tryd.func24 rfl (.tmp rfl (.nil)) fun wr hLr=>?_
   have hMr:=hLr.pk0 (.c 1 rfl .n)
   show Jw w F  r (.returned (Ci [.bool false])) wr
   rw [h]
   exact ⟨rfl,hMr⟩
  ·have h:=Aq hp85 h
   refine Bg rfl _ rfl ((bf hp85))<|Cb rfl<|Ah rfl<|Ah rfl<|Ac rfl rfl<|Aa 0 rfl (Aw J4 rfl) gn rfl<|Aa 1 rfl (Au 0 Rl rfl rfl rfl) gn rfl<|Aa 2 rfl (Dj Xas rfl h5.hq) gn rfl<|Aa 3 rfl (Ad rfl) gn rfl<|Aj 4 rfl<|Df rfl<|Io rfl ?_
   have key2:∀ s,Bl (fun (s:Int) o=>Ky x1 s o) s r→(fun (s:Int)=>∀ (_:Unit),G (Lu w F r) [.code Xf8,.inLoop Xf8,.inBlock 0,.code Xep] [(1,.pointer (some ⟨gb10,0,none⟩)),(27,.slice A2 n3 c4),(28,.int .i64 (x1.nodes.length:Int)),(29,.int .i64 s)] [.box gb10 25 [.slice A2 n3 c4,.slice A6 n7 c8]] [Sm w.heap.size F w [],St w []]) s:=by
    intro s hs
    refine Bl.ind (mot:=(fun (s:Int)=>∀ (_:Unit),G (Lu w F r) [.code Xf8,.inLoop Xf8,.inBlock 0,.code Xep] [(1,.pointer (some ⟨gb10,0,none⟩)),(27,.slice A2 n3 c4),(28,.int .i64 (x1.nodes.length:Int)),(29,.int .i64 s)] [.box gb10 25 [.slice A2 n3 c4,.slice A6 n7 c8]] [Sm w.heap.size F w [],St w []])) ?_ hs
    clear hs s
    intro x188 o1 h hO1
    show ∀ (_:Unit),G (Lu w F r) [.code Xf8,.inLoop Xf8,.inBlock 0,.code Xep] [(1,.pointer (some ⟨gb10,0,none⟩)),(27,.slice A2 n3 c4),(28,.int .i64 (x1.nodes.length:Int)),(29,.int .i64 x188)] [.box gb10 25 [.slice A2 n3 c4,.slice A6 n7 c8]] [Sm w.heap.size F w [],St w []]
    intro _
    have h:Ky x1 x188 o1:=h
    unfold Ky at h
    refine Ah rfl<|Ac rfl rfl<|Aa 0 rfl (Be rfl rfl rfl) gn rfl<|Aj 1 rfl<|Ah rfl ?_
    by_cases hp290:x188 < (x1.nodes.length:Int)
    ·have h:=Ap hp290 h
     refine Bz rfl _ rfl ((decide_eq_true hp290))<|Cb rfl<|Ah rfl<|Df rfl<|Ah rfl<|Ac rfl rfl<|Aa 0 rfl (Ad rfl) gn rfl ?_
     obtain ⟨hb291,h⟩:=h
     have hr292:=Rw.readF (s:=St w []) (hl:=Ee) (h1:=Ez) h5 hb291
     refine Aa 1 rfl (F5 (s:=St w []) U7 rfl rfl h5 hb291) gn rfl<|Aa 2 rfl (Z9 (St w []) Xav rfl hr292 rfl (me 1 rfl)) gn rfl ?_
     refine Cf 3 rfl (Gz [.string (⟨#[]⟩:ByteArray),.bool false,.string (⟨#[]⟩:ByteArray),.string (⟨#[]⟩:ByteArray),.int .i64 0] Xi4 rfl fun gb293=>?_) gn
     refine Aa 4 rfl (Af rfl) gn rfl ?_
     refine Cf 5 rfl (Fp (vs:=[.string ((ix x1.nodes x188).name),.bool ((ix x1.nodes x188).lit),.string ((ix x1.nodes x188).field),.string ((ix x1.nodes x188).capture),.int .i64 ((ix x1.nodes x188).kids)]) (cs':=[.string ((ix x1.nodes x188).name),.bool ((ix x1.nodes x188).lit),.string ((ix x1.nodes x188).field),.string ((ix x1.nodes x188).capture),.int .i64 ((ix x1.nodes x188).kids)]) (M':=[.box gb293 45 [.string ((ix x1.nodes x188).name),.bool ((ix x1.nodes x188).lit),.string ((ix x1.nodes x188).field),.string ((ix x1.nodes x188).capture),.int .i64 ((ix x1.nodes x188).kids)],.box gb10 25 [.slice A2 n3 c4,.slice A6 n7 c8]]) 0 Xfj rfl rfl rfl rfl rfl rfl rfl rfl rfl ?_) gn
     refine Aj 6 rfl<|Ah rfl<|Ac rfl rfl<|Aa 0 rfl (Nj [.string ((ix x1.nodes x188).name),.bool ((ix x1.nodes x188).lit),.string ((ix x1.nodes x188).field),.string ((ix x1.nodes x188).capture),.int .i64 ((ix x1.nodes x188).kids)] 0 Xav rfl rfl rfl rfl) gn rfl ?_
     obtain ⟨r298,hv299,h⟩:=h
     refine Cf 1 rfl (D8 [.agg #[.string ((ix x1.nodes x188).name),.bool ((ix x1.nodes x188).lit),.string ((ix x1.nodes x188).field),.string ((ix x1.nodes x188).capture),.int .i64 ((ix x1.nodes x188).kids)]] rfl Tryd.func55 rfl rfl rfl fun w295 hL296=>?_) gn
     have hp297:=pmI hL296 .n (.c 0 rfl (.c 1 rfl .n)) (by kernel_rfl)
     refine Calls.mono (Xds w295 (Fl ([]:List Cc)) (ix x1.nodes x188) (hL296.tb hp297 hG (me 1 rfl)) (hL296.hFl hp297 (Bi [] rfl)) (hL296.into hp297 _) r298 hv299) ?_
     rintro _ w300 ⟨rfl,hM301⟩
     have hL302:=hL296.call hp297 hM301
     refine ⟨_,_,_,rfl,hL302,?_⟩
     refine Aa 2 rfl (Qv rfl) gn rfl<|Aa 3 rfl (Ad rfl) gn rfl ?_
     by_cases hp303:r298=true
     ·have h:=Ap hp303 h
      refine Bv 37 rfl ((nf hp303))<|Aa 4 rfl (Aw Vp rfl) (gy 37 rfl rfl) rfl<|Aa 5 rfl (Au 0 Ib rfl rfl rfl) (gy 37 rfl rfl) rfl<|Aa 6 rfl (Uf rfl rfl) (gy 37 rfl rfl) rfl<|Aa 7 rfl (Ad rfl) (gy 37 rfl rfl) rfl ?_
      by_cases hp304:(ix x1.nodes x188).capture=(⟨#[]⟩:ByteArray)
      ·have h:=Ap hp304 h
       refine Bv 41 rfl ((nf (Qw hp304)))<|Ae 8 rfl (ps 41 rfl rfl rfl)<|Ae 9 rfl (ps 41 rfl rfl rfl)<|Ae 10 rfl (ps 41 rfl rfl rfl)<|Ae 11 rfl (ps 41 rfl rfl rfl)<|Ae 12 rfl (ps 41 rfl rfl rfl)<|Ae 13 rfl (ps 41 rfl rfl rfl)<|Aa 14 rfl (Bd (b:=false) rfl rfl) (gy 37 rfl rfl) rfl<|Aa 15 rfl (Bd (b:=false) rfl rfl) gn rfl<|Aj 16 rfl<|Bg rfl _ rfl (rfl)<|Cb rfl ?_
       refine D7<|Ac rfl rfl<|Aa 0 rfl (Be rfl rfl rfl) gn rfl<|Aa 1 rfl (Ad rfl) gn rfl<|Aj 2 rfl<|Dp ?_
       have ih:=Out.inl hO1 h
       exact Dc [0,1] (ih ()) ⟨rfl,rfl,rfl,rfl,trivial⟩ (.cons _ (.cons_cons _ (.slnil))) rfl
      ·have h:=Aq hp304 h
       refine Bv 41 rfl ((nt (Rq hp304)))<|Aa 8 rfl (Nj [.slice A2 n3 c4,.slice A6 n7 c8] 1 U4 rfl rfl rfl rfl) (gy 41 rfl rfl) rfl<|Aa 9 rfl (Aw Vp rfl) (gy 41 rfl rfl) rfl<|Aa 10 rfl (Au 0 Ib rfl rfl rfl) (gy 41 rfl rfl) rfl ?_
       obtain ⟨r308,hv309,h⟩:=h
       refine Cf 11 rfl (D8 [.agg #[.slice A2 n3 c4,.slice A6 n7 c8],.string ((ix x1.nodes x188).capture)] rfl Tryd.func43 rfl rfl rfl fun w305 hL306=>?_) (gy 41 rfl rfl)
       have hp307:=pmI hL306 .n (.c 0 rfl (.c 1 rfl .n)) (by kernel_rfl)
       refine Calls.mono (Jj w305 (Fl ([]:List Cc)) x1 ((ix x1.nodes x188).capture) A2 n3 c4 A6 n7 c8 (Rw.mono h5 (hL306.toSt hp307 (me 1 rfl))) (Rw.mono h9 (hL306.toSt hp307 (me 1 rfl))) (hL306.hFl hp307 (Bi [] rfl)) (hL306.into hp307 _) r308 hv309) ?_
       rintro _ w310 ⟨rfl,hM311⟩
       have hL312:=hL306.call hp307 hM311
       refine ⟨_,_,_,rfl,hL312,?_⟩
       refine Aa 12 rfl (Ad rfl) (gy 41 rfl rfl) rfl<|Aa 13 rfl (Be rfl rfl rfl) (gy 41 rfl rfl) rfl<|Aa 14 rfl (Bd (b:=true) rfl rfl) (gy 37 rfl rfl) rfl<|Aa 15 rfl (Bd (b:=false) rfl rfl) gn rfl<|Aj 16 rfl ?_
       by_cases hp313:r308=x188
       ·have h:=Ap hp313 h
        refine Bg rfl _ rfl ((Xd2 hp313))<|Cb rfl<|D7<|Ac rfl rfl<|Aa 0 rfl (Be rfl rfl rfl) gn rfl<|Aa 1 rfl (Ad rfl) gn rfl<|Aj 2 rfl<|Dp ?_
        have ih:=Out.inl hO1 h
        exact Dc [0,1] (ih ()) ⟨rfl,rfl,rfl,rfl,trivial⟩ (.cons _ (.cons_cons _ (.slnil))) rfl
       ·have h:=Aq hp313 h
        refine Bz rfl _ rfl ((Xde hp313))<|Ah rfl<|Ac rfl rfl<|Aa 0 rfl (Af rfl) gn rfl<|Aj 1 rfl ?_
        have h:=Out.inr hO1 h
        refine C9 [.bool false] rfl Tryd.func24 rfl (.tmp rfl (.nil)) fun wr hLr=>?_
        have hMr:=hLr.pk0 (.c 1 rfl .n)
        show Jw w F  r (.returned (Ci [.bool false])) wr
        rw [h]
        exact ⟨rfl,hMr⟩
     ·have h:=Aq hp303 h
      refine Bv 37 rfl ((nt (bf hp303)))<|Ae 4 rfl (ps 37 rfl rfl rfl)<|Ae 5 rfl (ps 37 rfl rfl rfl)<|Ae 6 rfl (ps 37 rfl rfl rfl)<|Ae 7 rfl (ps 37 rfl rfl rfl)<|Ae 8 rfl (pu 41 rfl rfl)<|Ae 9 rfl (pu 41 rfl rfl)<|Ae 10 rfl (pu 41 rfl rfl)<|Ae 11 rfl (pu 41 rfl rfl)<|Ae 12 rfl (pu 41 rfl rfl)<|Ae 13 rfl (pu 41 rfl rfl)<|Ae 14 rfl (ps 37 rfl rfl rfl) ?_
      refine Aa 15 rfl (Bd (b:=true) rfl rfl) gn rfl<|Aj 16 rfl<|Bz rfl _ rfl (rfl)<|Ah rfl<|Ac rfl rfl<|Aa 0 rfl (Af rfl) gn rfl<|Aj 1 rfl ?_
      have h:=Out.inr hO1 h
      refine C9 [.bool false] rfl Tryd.func24 rfl (.tmp rfl (.nil)) fun wr hLr=>?_
      have hMr:=hLr.pk0 (.c 1 rfl .n)
      show Jw w F  r (.returned (Ci [.bool false])) wr
      rw [h]
      exact ⟨rfl,hMr⟩
    ·have h:=Aq hp290 h
     refine Bg rfl _ rfl ((decide_eq_false hp290))<|Gp [.code Xep] rfl rfl<|Ah rfl<|Ah rfl<|Ac rfl rfl<|Aa 0 rfl (Aw U0 rfl) gn rfl<|Aa 1 rfl (Au 0 Xck rfl rfl rfl) gn rfl<|Aa 2 rfl (Dj Xhd rfl h9.hq) gn rfl<|Aa 3 rfl (Ad rfl) gn rfl<|Aj 4 rfl<|Df rfl<|Io rfl ?_
     have key3:∀ s,Bl (fun (s:Int) o=>Kw x1 s o) s o1→(fun (s:Int)=>∀ (_:Unit),G (Lu w F r) [.code Xfb,.inLoop Xfb,.inBlock 2,.code Xj8] [(1,.pointer (some ⟨gb10,0,none⟩)),(52,.slice A6 n7 c8),(53,.int .i64 (x1.conds.length:Int)),(54,.int .i64 s)] [.box gb10 25 [.slice A2 n3 c4,.slice A6 n7 c8]] [Sm w.heap.size F w [],St w []]) s:=by
      intro s hs
      refine Bl.ind (mot:=(fun (s:Int)=>∀ (_:Unit),G (Lu w F r) [.code Xfb,.inLoop Xfb,.inBlock 2,.code Xj8] [(1,.pointer (some ⟨gb10,0,none⟩)),(52,.slice A6 n7 c8),(53,.int .i64 (x1.conds.length:Int)),(54,.int .i64 s)] [.box gb10 25 [.slice A2 n3 c4,.slice A6 n7 c8]] [Sm w.heap.size F w [],St w []])) ?_ hs
      clear hs s
      intro x340 o2 h hO2
      show ∀ (_:Unit),G (Lu w F r) [.code Xfb,.inLoop Xfb,.inBlock 2,.code Xj8] [(1,.pointer (some ⟨gb10,0,none⟩)),(52,.slice A6 n7 c8),(53,.int .i64 (x1.conds.length:Int)),(54,.int .i64 x340)] [.box gb10 25 [.slice A2 n3 c4,.slice A6 n7 c8]] [Sm w.heap.size F w [],St w []]
      intro _
      have h:Kw x1 x340 o2:=h
      unfold Kw at h
      refine Ah rfl<|Ac rfl rfl<|Aa 0 rfl (Be rfl rfl rfl) gn rfl<|Aj 1 rfl<|Ah rfl ?_
      by_cases hp366:x340 < (x1.conds.length:Int)
      ·have h:=Ap hp366 h
       refine Bz rfl _ rfl ((decide_eq_true hp366))<|Cb rfl<|Ah rfl<|Df rfl<|Ah rfl<|Ac rfl rfl ?_
       obtain ⟨hb367,h⟩:=h
       have hr368:=Rw.readF (s:=St w []) (hl:=Tc) (h1:=Ti) h9 hb367
       refine Aa 0 rfl (F5 (s:=St w []) Xlz rfl rfl h9 hb367) gn rfl<|Aa 1 rfl (Z9 (St w []) Xif rfl hr368 rfl (me 1 rfl)) gn rfl ?_
       refine Cf 2 rfl (Gz [.bool false,.string (⟨#[]⟩:ByteArray),.string (⟨#[]⟩:ByteArray),.string (⟨#[]⟩:ByteArray)] zr_47 rfl fun gb369=>?_) gn
       refine Cf 3 rfl (Fp (vs:=[.bool ((ix x1.conds x340).not),.string ((ix x1.conds x340).a),.string ((ix x1.conds x340).b),.string ((ix x1.conds x340).text)]) (cs':=[.bool ((ix x1.conds x340).not),.string ((ix x1.conds x340).a),.string ((ix x1.conds x340).b),.string ((ix x1.conds x340).text)]) (M':=[.box gb369 47 [.bool ((ix x1.conds x340).not),.string ((ix x1.conds x340).a),.string ((ix x1.conds x340).b),.string ((ix x1.conds x340).text)],.box gb10 25 [.slice A2 n3 c4,.slice A6 n7 c8]]) 0 sz_47 rfl rfl rfl rfl rfl rfl rfl rfl rfl ?_) gn
       refine Aj 4 rfl<|Ah rfl<|Ac rfl rfl<|Aa 0 rfl (Nj [.slice A2 n3 c4,.slice A6 n7 c8] 1 U4 rfl rfl rfl rfl) gn rfl<|Aa 1 rfl (Aw Xdg rfl) gn rfl<|Aa 2 rfl (Au 0 Ib rfl rfl rfl) gn rfl ?_
       obtain ⟨r374,hv375,h⟩:=h
       refine Cf 3 rfl (D8 [.agg #[.slice A2 n3 c4,.slice A6 n7 c8],.string ((ix x1.conds x340).a)] rfl Tryd.func43 rfl rfl rfl fun w371 hL372=>?_) gn
       have hp373:=pmI hL372 .n (.c 0 rfl (.c 1 rfl .n)) (by kernel_rfl)
       refine Calls.mono (Jj w371 (Fl ([]:List Cc)) x1 ((ix x1.conds x340).a) A2 n3 c4 A6 n7 c8 (Rw.mono h5 (hL372.toSt hp373 (me 1 rfl))) (Rw.mono h9 (hL372.toSt hp373 (me 1 rfl))) (hL372.hFl hp373 (Bi [] rfl)) (hL372.into hp373 _) r374 hv375) ?_
       rintro _ w376 ⟨rfl,hM377⟩
       have hL378:=hL372.call hp373 hM377
       refine ⟨_,_,_,rfl,hL378,?_⟩
       refine Aa 4 rfl (Be rfl rfl rfl) gn rfl<|Aa 5 rfl (Ad rfl) gn rfl ?_
       by_cases hp379:r374 < 0
       ·have h:=Ap hp379 h
        refine Bv 63 rfl ((decide_eq_true hp379))<|Ae 6 rfl (ps 63 rfl rfl rfl)<|Ae 7 rfl (ps 63 rfl rfl rfl)<|Ae 8 rfl (ps 63 rfl rfl rfl)<|Ae 9 rfl (ps 63 rfl rfl rfl)<|Ae 10 rfl (pu 67 rfl rfl)<|Ae 11 rfl (pu 67 rfl rfl)<|Ae 12 rfl (pu 67 rfl rfl)<|Ae 13 rfl (pu 67 rfl rfl)<|Ae 14 rfl (pu 67 rfl rfl)<|Ae 15 rfl (pu 67 rfl rfl)<|Ae 16 rfl (pu 73 rfl rfl) ?_
        refine Ae 17 rfl (pu 73 rfl rfl)<|Ae 18 rfl (pu 73 rfl rfl)<|Ae 19 rfl (pu 67 rfl rfl)<|Ae 20 rfl (ps 63 rfl rfl rfl)<|Aa 21 rfl (Bd (b:=true) rfl rfl) gn rfl<|Aj 22 rfl<|Bz rfl _ rfl (rfl)<|Ah rfl<|Ac rfl rfl<|Aa 0 rfl (Af rfl) gn rfl<|Aj 1 rfl ?_
        have h:=Out.inr hO2 h
        have h:=Out.inr hO1 h
        refine C9 [.bool false] rfl Tryd.func24 rfl (.tmp rfl (.nil)) fun wr hLr=>?_
        have hMr:=hLr.pk0 (.c 1 rfl .n)
        show Jw w F  r (.returned (Ci [.bool false])) wr
        rw [h]
        exact ⟨rfl,hMr⟩
       ·have h:=Aq hp379 h
        refine Bv 63 rfl ((decide_eq_false hp379))<|Aa 6 rfl (Aw Xak rfl) (gy 63 rfl rfl) rfl<|Aa 7 rfl (Au 0 Ib rfl rfl rfl) (gy 63 rfl rfl) rfl<|Aa 8 rfl (Uf rfl rfl) (gy 63 rfl rfl) rfl<|Aa 9 rfl (Ad rfl) (gy 63 rfl rfl) rfl ?_
        by_cases hp380:(ix x1.conds x340).b=(⟨#[]⟩:ByteArray)
        ·have h:=Ap hp380 h
         refine Bv 67 rfl ((nf (Qw hp380)))<|Ae 10 rfl (ps 67 rfl rfl rfl)<|Ae 11 rfl (ps 67 rfl rfl rfl)<|Ae 12 rfl (ps 67 rfl rfl rfl)<|Ae 13 rfl (ps 67 rfl rfl rfl)<|Ae 14 rfl (ps 67 rfl rfl rfl)<|Ae 15 rfl (ps 67 rfl rfl rfl)<|Ae 16 rfl (pu 73 rfl rfl)<|Ae 17 rfl (pu 73 rfl rfl)<|Ae 18 rfl (pu 73 rfl rfl)<|Ae 19 rfl (ps 67 rfl rfl rfl)<|Aa 20 rfl (Bd (b:=false) rfl rfl) (gy 63 rfl rfl) rfl ?_
         refine Aa 21 rfl (Bd (b:=false) rfl rfl) gn rfl<|Aj 22 rfl<|Bg rfl _ rfl (rfl)<|Cb rfl<|D7<|Ac rfl rfl<|Aa 0 rfl (Be rfl rfl rfl) gn rfl<|Aa 1 rfl (Ad rfl) gn rfl<|Aj 2 rfl<|Dp ?_
         have ih:=Out.inl hO2 h
         exact Dc [0,1] (ih ()) ⟨rfl,rfl,rfl,rfl,trivial⟩ (.cons _ (.cons_cons _ (.slnil))) rfl
        ·have h:=Aq hp380 h
         refine Bv 67 rfl ((nt (Rq hp380)))<|Aa 10 rfl (Nj [.slice A2 n3 c4,.slice A6 n7 c8] 1 U4 rfl rfl rfl rfl) (gy 67 rfl rfl) rfl<|Aa 11 rfl (Aw Xak rfl) (gy 67 rfl rfl) rfl<|Aa 12 rfl (Au 0 Ib rfl rfl rfl) (gy 67 rfl rfl) rfl ?_
         obtain ⟨r384,hv385,h⟩:=h
         refine Cf 13 rfl (D8 [.agg #[.slice A2 n3 c4,.slice A6 n7 c8],.string ((ix x1.conds x340).b)] rfl Tryd.func43 rfl rfl rfl fun w381 hL382=>?_) (gy 67 rfl rfl)
         have hp383:=pmI hL382 .n (.c 0 rfl (.c 1 rfl .n)) (by kernel_rfl)
         refine Calls.mono (Jj w381 (Fl ([]:List Cc)) x1 ((ix x1.conds x340).b) A2 n3 c4 A6 n7 c8 (Rw.mono h5 (hL382.toSt hp383 (me 1 rfl))) (Rw.mono h9 (hL382.toSt hp383 (me 1 rfl))) (hL382.hFl hp383 (Bi [] rfl)) (hL382.into hp383 _) r384 hv385) ?_
         rintro _ w386 ⟨rfl,hM387⟩
         have hL388:=hL382.call hp383 hM387
         refine ⟨_,_,_,rfl,hL388,?_⟩
         refine Aa 14 rfl (Be rfl rfl rfl) (gy 67 rfl rfl) rfl<|Aa 15 rfl (Ad rfl) (gy 67 rfl rfl) rfl ?_
         by_cases hp389:r384 < 0
         ·have h:=Ap hp389 h
          refine Bv 73 rfl ((decide_eq_true hp389))<|Ae 16 rfl (ps 73 rfl rfl rfl)<|Ae 17 rfl (ps 73 rfl rfl rfl)<|Ae 18 rfl (ps 73 rfl rfl rfl)<|Aa 19 rfl (Bd (b:=true) rfl rfl) (gy 67 rfl rfl) rfl<|Aa 20 rfl (Bd (b:=true) rfl rfl) (gy 63 rfl rfl) rfl<|Aa 21 rfl (Bd (b:=false) rfl rfl) gn rfl<|Aj 22 rfl<|Bz rfl _ rfl (rfl)<|Ah rfl<|Ac rfl rfl<|Aa 0 rfl (Af rfl) gn rfl ?_
          refine Aj 1 rfl ?_
          have h:=Out.inr hO2 h
          have h:=Out.inr hO1 h
          refine C9 [.bool false] rfl Tryd.func24 rfl (.tmp rfl (.nil)) fun wr hLr=>?_
          have hMr:=hLr.pk0 (.c 1 rfl .n)
          show Jw w F  r (.returned (Ci [.bool false])) wr
          rw [h]
          exact ⟨rfl,hMr⟩
         ·have h:=Aq hp389 h
          refine Bv 73 rfl ((decide_eq_false hp389))<|Aa 16 rfl (Aw Xg4 rfl) (gy 73 rfl rfl) rfl<|Aa 17 rfl (Au 0 Ib rfl rfl rfl) (gy 73 rfl rfl) rfl<|Aa 18 rfl (Uf rfl rfl) (gy 73 rfl rfl) rfl<|Aa 19 rfl (Bd (b:=false) rfl rfl) (gy 67 rfl rfl) rfl<|Aa 20 rfl (Bd (b:=true) rfl rfl) (gy 63 rfl rfl) rfl<|Aa 21 rfl (Bd (b:=false) rfl rfl) gn rfl<|Aj 22 rfl ?_
          by_cases hp390:(ix x1.conds x340).text=(⟨#[]⟩:ByteArray)
          ·have h:=Ap hp390 h
           refine Bg rfl _ rfl ((nf (Qw hp390)))<|Cb rfl<|D7<|Ac rfl rfl<|Aa 0 rfl (Be rfl rfl rfl) gn rfl<|Aa 1 rfl (Ad rfl) gn rfl<|Aj 2 rfl<|Dp ?_
           have ih:=Out.inl hO2 h
           exact Dc [0,1] (ih ()) ⟨rfl,rfl,rfl,rfl,trivial⟩ (.cons _ (.cons_cons _ (.slnil))) rfl
          ·have h:=Aq hp390 h
           refine Bz rfl _ rfl ((nt (Rq hp390)))<|Ah rfl<|Ac rfl rfl<|Aa 0 rfl (Af rfl) gn rfl<|Aj 1 rfl ?_
           have h:=Out.inr hO2 h
           have h:=Out.inr hO1 h
           refine C9 [.bool false] rfl Tryd.func24 rfl (.tmp rfl (.nil)) fun wr hLr=>?_
           have hMr:=hLr.pk0 (.c 1 rfl .n)
           show Jw w F  r (.returned (Ci [.bool false])) wr
           rw [h]
           exact ⟨rfl,hMr⟩
      ·have h:=Aq hp366 h
       refine Bg rfl _ rfl ((decide_eq_false hp366))<|Gp [.code Xj8] rfl rfl<|Ah rfl<|Ac rfl rfl<|Aa 0 rfl (Af rfl) gn rfl<|Aj 1 rfl ?_
       have h:=Out.inr hO2 h
       have h:=Out.inr hO1 h
       refine C9 [.bool true] rfl Tryd.func24 rfl (.tmp rfl (.nil)) fun wr hLr=>?_
       have hMr:=hLr.pk0 (.c 1 rfl .n)
       show Jw w F  r (.returned (Ci [.bool true])) wr
       rw [h]
       exact ⟨rfl,hMr⟩
     exact Dc [0,1] (key3 _ h ()) ⟨rfl,rfl,rfl,rfl,trivial⟩ (.cons_cons _ (.slnil)) rfl
   exact Dc [0,1] (key2 _ h ()) ⟨rfl,rfl,rfl,rfl,trivial⟩ (.cons_cons _ (.slnil)) rfl
 by_cases hp391:(x1.nodes.length:Int) > 32
 ·have h:=Ap hp391 h
  have hns:Region.noSelect (Code.ops q24c5)=true:=by kernel_rfl
  refine Gf [] 19 rfl rfl mix rfl (.c 0 rfl (.c 1 rfl .n))<|wfv 0 rfl (Aw J4 rfl) gn hns rfl<|wfv 1 rfl (Au 0 Rl rfl rfl rfl) gn hns rfl<|wfv 2 rfl (Dj Xas rfl h5.hq) gn hns rfl<|wfv 3 rfl (Be rfl rfl rfl) gn hns rfl<|wfv 4 rfl (Ad rfl) gn hns rfl<|Kz 11 rfl ((decide_eq_true hp391))<|wfp 5 rfl (ps 11 rfl rfl rfl) hns rfl<|wfp 6 rfl (ps 11 rfl rfl rfl) hns rfl<|wfp 7 rfl (ps 11 rfl rfl rfl) hns rfl<|wfp 8 rfl (ps 11 rfl rfl rfl) hns rfl<|wfv 9 rfl (Bd (b:=true) rfl rfl) gn hns rfl ?_
  refine wfv 10 rfl (Ad rfl) gn hns rfl<|wfp 11 rfl (ps 17 rfl rfl rfl) hns rfl<|wfp 12 rfl (ps 17 rfl rfl rfl) hns rfl<|wfp 13 rfl (ps 17 rfl rfl rfl) hns rfl<|wfp 14 rfl (ps 17 rfl rfl rfl) hns rfl<|wfp 15 rfl (ps 17 rfl rfl rfl) hns rfl<|wfp 16 rfl (ps 17 rfl rfl rfl) hns rfl<|wfp 17 rfl (ps 17 rfl rfl rfl) hns rfl<|wfv 18 rfl (Bd (b:=true) rfl rfl) gn hns rfl<|E8 (by kernel_rfl) ?_
  exact Dc [0,1] (j1 true h) ⟨rfl,rfl,trivial⟩ (.cons_cons _ (.slnil)) rfl
 ·have h:=Aq hp391 h
  by_cases hp392:(x1.conds.length:Int) > 16
  ·have h:=Ap hp392 h
   have hns:Region.noSelect (Code.ops q24c5)=true:=by kernel_rfl
   refine Gf [] 19 rfl rfl mix rfl (.c 0 rfl (.c 1 rfl .n))<|wfv 0 rfl (Aw J4 rfl) gn hns rfl<|wfv 1 rfl (Au 0 Rl rfl rfl rfl) gn hns rfl<|wfv 2 rfl (Dj Xas rfl h5.hq) gn hns rfl<|wfv 3 rfl (Be rfl rfl rfl) gn hns rfl<|wfv 4 rfl (Ad rfl) gn hns rfl<|Kz 11 rfl ((decide_eq_false hp391))<|wfv 5 rfl (Aw U0 rfl) (gy 11 rfl rfl) hns rfl<|wfv 6 rfl (Au 0 Xck rfl rfl rfl) (gy 11 rfl rfl) hns rfl<|wfv 7 rfl (Dj Xhd rfl h9.hq) (gy 11 rfl rfl) hns rfl<|wfv 8 rfl (Be rfl rfl rfl) (gy 11 rfl rfl) hns rfl<|wfv 9 rfl (Bd (b:=false) rfl rfl) gn hns rfl ?_
   refine wfv 10 rfl (Ad rfl) gn hns rfl<|Kz 17 rfl ((decide_eq_true hp392))<|wfp 11 rfl (ps 17 rfl rfl rfl) hns rfl<|wfp 12 rfl (ps 17 rfl rfl rfl) hns rfl<|wfp 13 rfl (ps 17 rfl rfl rfl) hns rfl<|wfp 14 rfl (ps 17 rfl rfl rfl) hns rfl<|wfp 15 rfl (ps 17 rfl rfl rfl) hns rfl<|wfp 16 rfl (ps 17 rfl rfl rfl) hns rfl<|wfp 17 rfl (ps 17 rfl rfl rfl) hns rfl<|wfv 18 rfl (Bd (b:=true) rfl rfl) gn hns rfl<|E8 (by kernel_rfl) ?_
   exact Dc [0,1] (j1 true h) ⟨rfl,rfl,trivial⟩ (.cons_cons _ (.slnil)) rfl
  ·have h:=Aq hp392 h
   obtain ⟨r396,hv397,h⟩:=h
   have hns:Region.noSelect (Code.ops q24c5)=true:=by kernel_rfl
   refine Gf [] 19 rfl rfl mix rfl (.c 0 rfl (.c 1 rfl .n))<|wfv 0 rfl (Aw J4 rfl) gn hns rfl<|wfv 1 rfl (Au 0 Rl rfl rfl rfl) gn hns rfl<|wfv 2 rfl (Dj Xas rfl h5.hq) gn hns rfl<|wfv 3 rfl (Be rfl rfl rfl) gn hns rfl<|wfv 4 rfl (Ad rfl) gn hns rfl<|Kz 11 rfl ((decide_eq_false hp391))<|wfv 5 rfl (Aw U0 rfl) (gy 11 rfl rfl) hns rfl<|wfv 6 rfl (Au 0 Xck rfl rfl rfl) (gy 11 rfl rfl) hns rfl<|wfv 7 rfl (Dj Xhd rfl h9.hq) (gy 11 rfl rfl) hns rfl<|wfv 8 rfl (Be rfl rfl rfl) (gy 11 rfl rfl) hns rfl<|wfv 9 rfl (Bd (b:=false) rfl rfl) gn hns rfl ?_
   refine wfv 10 rfl (Ad rfl) gn hns rfl<|Kz 17 rfl ((decide_eq_false hp392))<|wfv 11 rfl (Aw J4 rfl) (gy 17 rfl rfl) hns rfl<|wfv 12 rfl (Au 0 Rl rfl rfl rfl) (gy 17 rfl rfl) hns rfl<|wfv 14 rfl (Aw J4 rfl) (gy 17 rfl rfl) hns rfl<|wfv 15 rfl (Au 0 Rl rfl rfl rfl) (gy 17 rfl rfl) hns rfl<|wfv 16 rfl (Dj Xas rfl h5.hq) (gy 17 rfl rfl) hns rfl ?_
   refine Cm [13] (by kernel_rfl) rfl ⟨Et 13 rfl (gy 17 rfl rfl) rfl (D8 [.slice A2 n3 c4,.int .i64 0] rfl Tryd.func54 rfl rfl rfl fun w455 hL456=>?_),trivial⟩
   have hp457:=pmI hL456 .n (.c 0 rfl .n) (by kernel_rfl)
   refine Calls.mono (Xce w455 (Fl ([]:List Cc)) x1.nodes 0 A2 n3 c4 (Rw.mono h5 (hL456.toSt hp457 (me 1 rfl))) (hL456.hFl hp457 (Bi [] rfl)) (hL456.into hp457 _) r396 hv397) ?_
   rintro _ w458 ⟨rfl,hM459⟩
   have hL460:=hL456.call hp457 hM459
   refine ⟨_,_,_,rfl,hL460,?_⟩
   refine ⟨Bi [0] rfl,Bi [0,1] rfl,?_⟩
   refine wfv 17 rfl (Be rfl rfl rfl) (gy 17 rfl rfl) hns rfl<|wfv 18 rfl (Bd (b:=false) rfl rfl) gn hns rfl<|E8 (by kernel_rfl) ?_
   exact Dc [0,1] (j1 (r396 != (x1.nodes.length:Int)) h) ⟨rfl,rfl,trivial⟩ (.cons_cons _ (.slnil)) rfl
noncomputable abbrev q62c3:=Code.fst (Code.snd (Dv Tryd.f62))
noncomputable abbrev q62c4:=Code.snd (Code.snd (Dv Tryd.f62))
noncomputable abbrev Xbl:=Code.snd (Code.snd q62c4)
noncomputable abbrev U6:=Code.fst (Code.fst (Code.snd (Code.fst (Code.snd q62c4))))
noncomputable abbrev Xcs:=Code.snd (Code.snd (Code.snd U6))
noncomputable abbrev Xlf:=Code.snd (Code.snd (Code.snd (Code.fst (Code.fst (Code.snd (Code.snd U6))))))
noncomputable abbrev q62c40:=Code.fst (Code.snd Xlf)
noncomputable abbrev q62c41:=Code.snd (Code.snd Xlf)
noncomputable abbrev Xb6:=Code.fst (Code.fst q62c41)
noncomputable abbrev q62c51:=Code.fst (Code.fst (Code.snd Xb6))
noncomputable abbrev q62c52:=Code.snd (Code.fst (Code.snd Xb6))
noncomputable abbrev q62c57:=Code.fst (Code.fst (Code.snd (Code.fst (Code.snd (Code.snd (Code.fst (Code.fst (Code.snd (Code.snd U6)))))))))
abbrev Y5 (w:World) (F:Nat→Prop) (r:Fg):Ending→World→Prop:=fun e w'=>∃ A1:Option Addr,∃ n1:Nat,∃ c1:Nat,∃ A2:Option Addr,∃ n2:Nat,∃ c2:Nat,∃ A0:Option Addr,∃ n0:Nat,∃ c0:Nat,e=.returned (.agg #[.slice A0 n0 c0,.slice A1 n1 c1,.slice A2 n2 c2,.bool r.ok])∧B.Loc w w' [.own (.slice A1 n1 c1) 3 1 n1 (r.parent.flatMap (eI .i64)),.own (.slice A2 n2 c2) 3 1 n2 (r.end_.flatMap (eI .i64))] [St w []]∧Ow w.heap.size A1 n1 c1 r.parent∧Ow w.heap.size A2 n2 c2 r.end_∧Rw F8 w' (Nw w w' F [.own (.slice A1 n1 c1) 3 1 n1 (r.parent.flatMap (eI .i64)),.own (.slice A2 n2 c2) 3 1 n2 (r.end_.flatMap (eI .i64))]) A0 n0 c0 r.nodes
noncomputable abbrev Lj (w:World) (F:Nat→Prop) (r:Fg):Cx:=⟨Tryd.prog,62,Tryd.f62,100,Y5 w F  r,w⟩
theorem Ws (w:World) (F:Nat→Prop) (x1:List Az) (A2:Option Addr) (n3:Nat) (c4:Nat) (h5:Rw F8 w F A2 n3 c4 x1) (hF:∀ b,F b→b < w.heap.size∧∀ o ∈ ([]:List (List Nat)),b ∉ o) (hL0:B.Loc w w [] [Sm w.heap.size F w [],St w []]) (r:Fg) (h:Uu x1 r):Calls Tryd.prog 62 #[.slice A2 n3 c4] w (Y5 w F  r):=by
 unfold Uu at h
 have h5:=Rw.into (bs:=[]) hF h5
 refine Ce (vs:=[.slice A2 n3 c4]) 100 Tryd.func62 rfl Tryd.ntmps62 rfl hL0 ?_
 show G (Lj w F r) _ _ _ _
 refine Ah rfl<|Ac rfl rfl ?_
 refine Cf 0 rfl (Gz [.slice none 0 0,.slice none 0 0,.slice none 0 0,.bool false] Xfe rfl fun gb6=>?_) gn
 refine Aj 1 rfl<|Ah rfl ?_
 obtain ⟨hb8,h⟩:=h
 obtain ⟨x12,hv13,h⟩:=h
 obtain ⟨x17,hv18,h⟩:=h
 have d1:∀ (gb76:Nat) (A77:Option Addr) (n78:Nat) (c79:Nat) (h80:Ow w.heap.size A77 n78 c79 x12) (A81:Option Addr) (n82:Nat) (c83:Nat) (h84:Ow w.heap.size A81 n82 c83 x17),G (Lj w F r) [.code q62c4] [(0,.slice A2 n3 c4),(2,.pointer (some ⟨gb6,0,none⟩)),(3,.pointer (some ⟨gb76,0,none⟩))] [.box gb76 92 [.slice A2 n3 c4,.slice A77 n78 c79,.slice A81 n82 c83,.bool false],.own (.slice A81 n82 c83) 3 1 n82 (x17.flatMap (eI .i64)),.own (.slice A77 n78 c79) 3 1 n78 (x12.flatMap (eI .i64)),.box gb6 92 [.slice none 0 0,.slice none 0 0,.slice none 0 0,.bool false]] [Sm w.heap.size F w [],St w []]:=by
  intro gb76 A77 n78 c79 h80 A81 n82 c83 h84
  refine Ah rfl<|Ac rfl rfl<|Aa 0 rfl (Af rfl) gn rfl<|Aa 1 rfl (Af rfl) gn rfl<|Aj 2 rfl<|Ah rfl<|Ah rfl<|Ac rfl rfl<|Aa 0 rfl (Ad rfl) gn rfl<|Aa 1 rfl (Dj Xco rfl h5.hq) gn rfl<|Aa 2 rfl (Ad rfl) gn rfl<|Aj 3 rfl ?_
  refine Df rfl<|Io rfl ?_
  have key1:∀ s,Bl (fun (s:(List Int) × (List Int) × Int × (List Int) × (List Int)) o=>Jo x1 s.1 s.2.1 s.2.2.1 s.2.2.2.1 s.2.2.2.2 o) s r→(fun (s:(List Int) × (List Int) × Int × (List Int) × (List Int))=>∀ (A346:Option Addr) (n347:Nat) (c348:Nat) (h349:Ow w.heap.size A346 n347 c348 s.1) (A351:Option Addr) (n352:Nat) (c353:Nat) (h354:Ow w.heap.size A351 n352 c353 s.2.1) (h357:Ow w.heap.size A77 n78 c79 s.2.2.2.1) (h359:Ow w.heap.size A81 n82 c83 s.2.2.2.2),G (Lj w F r) [.code U6,.inLoop U6,.inBlock 0,.code Xbl] [(2,.pointer (some ⟨gb6,0,none⟩)),(3,.pointer (some ⟨gb76,0,none⟩)),(4,.slice A346 n347 c348),(5,.slice A351 n352 c353),(16,.slice A2 n3 c4),(17,.int .i64 (x1.length:Int)),(18,.int .i64 s.2.2.1)] [.own (.slice A346 n347 c348) 3 1 n347 (s.1.flatMap (eI .i64)),.own (.slice A351 n352 c353) 3 1 n352 (s.2.1.flatMap (eI .i64)),.box gb76 92 [.slice A2 n3 c4,.slice A77 n78 c79,.slice A81 n82 c83,.bool false],.own (.slice A81 n82 c83) 3 1 n82 (s.2.2.2.2.flatMap (eI .i64)),.own (.slice A77 n78 c79) 3 1 n78 (s.2.2.2.1.flatMap (eI .i64)),.box gb6 92 [.slice none 0 0,.slice none 0 0,.slice none 0 0,.bool false]] [Sm w.heap.size F w [],St w []]) s:=by
   intro s hs
   refine Bl.ind (mot:=(fun (s:(List Int) × (List Int) × Int × (List Int) × (List Int))=>∀ (A346:Option Addr) (n347:Nat) (c348:Nat) (h349:Ow w.heap.size A346 n347 c348 s.1) (A351:Option Addr) (n352:Nat) (c353:Nat) (h354:Ow w.heap.size A351 n352 c353 s.2.1) (h357:Ow w.heap.size A77 n78 c79 s.2.2.2.1) (h359:Ow w.heap.size A81 n82 c83 s.2.2.2.2),G (Lj w F r) [.code U6,.inLoop U6,.inBlock 0,.code Xbl] [(2,.pointer (some ⟨gb6,0,none⟩)),(3,.pointer (some ⟨gb76,0,none⟩)),(4,.slice A346 n347 c348),(5,.slice A351 n352 c353),(16,.slice A2 n3 c4),(17,.int .i64 (x1.length:Int)),(18,.int .i64 s.2.2.1)] [.own (.slice A346 n347 c348) 3 1 n347 (s.1.flatMap (eI .i64)),.own (.slice A351 n352 c353) 3 1 n352 (s.2.1.flatMap (eI .i64)),.box gb76 92 [.slice A2 n3 c4,.slice A77 n78 c79,.slice A81 n82 c83,.bool false],.own (.slice A81 n82 c83) 3 1 n82 (s.2.2.2.2.flatMap (eI .i64)),.own (.slice A77 n78 c79) 3 1 n78 (s.2.2.2.1.flatMap (eI .i64)),.box gb6 92 [.slice none 0 0,.slice none 0 0,.slice none 0 0,.bool false]] [Sm w.heap.size F w [],St w []])) ?_ hs
   clear hs s
   intro s o1 h hO1
   obtain ⟨x345,x350,x355,x356,x358⟩:=s
   show ∀ (A346:Option Addr) (n347:Nat) (c348:Nat) (h349:Ow w.heap.size A346 n347 c348 x345) (A351:Option Addr) (n352:Nat) (c353:Nat) (h354:Ow w.heap.size A351 n352 c353 x350) (h357:Ow w.heap.size A77 n78 c79 x356) (h359:Ow w.heap.size A81 n82 c83 x358),G (Lj w F r) [.code U6,.inLoop U6,.inBlock 0,.code Xbl] [(2,.pointer (some ⟨gb6,0,none⟩)),(3,.pointer (some ⟨gb76,0,none⟩)),(4,.slice A346 n347 c348),(5,.slice A351 n352 c353),(16,.slice A2 n3 c4),(17,.int .i64 (x1.length:Int)),(18,.int .i64 x355)] [.own (.slice A346 n347 c348) 3 1 n347 (x345.flatMap (eI .i64)),.own (.slice A351 n352 c353) 3 1 n352 (x350.flatMap (eI .i64)),.box gb76 92 [.slice A2 n3 c4,.slice A77 n78 c79,.slice A81 n82 c83,.bool false],.own (.slice A81 n82 c83) 3 1 n82 (x358.flatMap (eI .i64)),.own (.slice A77 n78 c79) 3 1 n78 (x356.flatMap (eI .i64)),.box gb6 92 [.slice none 0 0,.slice none 0 0,.slice none 0 0,.bool false]] [Sm w.heap.size F w [],St w []]
   intro A346 n347 c348 h349 A351 n352 c353 h354 h357 h359
   have h:Jo x1 x345 x350 x355 x356 x358 o1:=h
   unfold Jo at h
   refine Ah rfl<|Ac rfl rfl<|Aa 0 rfl (Be rfl rfl rfl) gn rfl<|Aj 1 rfl<|Ah rfl ?_
   by_cases hp630:x355 < (x1.length:Int)
   ·have h:=Ap hp630 h
    refine Bz rfl _ rfl ((decide_eq_true hp630))<|Cb rfl<|Ah rfl<|Df rfl<|Ah rfl<|Ac rfl rfl<|Aa 0 rfl (Ad rfl) gn rfl ?_
    obtain ⟨hb631,h⟩:=h
    have hr632:=Rw.readF (s:=Sm w.heap.size F w []) (hl:=V3) (h1:=V9) h5 hb631
    refine Aa 1 rfl (F5 (s:=Sm w.heap.size F w []) Xhn rfl rfl h5 hb631) gn rfl<|Aa 2 rfl (Z9 (Sm w.heap.size F w []) ld_56 rfl hr632 rfl (me 0 rfl)) gn rfl ?_
    refine Cf 3 rfl (Gz [.string (⟨#[]⟩:ByteArray),.bool false,.string (⟨#[]⟩:ByteArray),.int .i64 0,.int .i64 0,.int .i64 0,.int .i64 0] zr_56 rfl fun gb633=>?_) gn
    refine Aa 4 rfl (Af rfl) gn rfl ?_
    refine Cf 5 rfl (Fp (vs:=[.string ((ix x1 x355).name),.bool ((ix x1 x355).named),.string ((ix x1 x355).field),.int .i64 ((ix x1 x355).from_),.int .i64 ((ix x1 x355).to),.int .i64 ((ix x1 x355).kids),.int .i64 ((ix x1 x355).leaf)]) (cs':=[.string ((ix x1 x355).name),.bool ((ix x1 x355).named),.string ((ix x1 x355).field),.int .i64 ((ix x1 x355).from_),.int .i64 ((ix x1 x355).to),.int .i64 ((ix x1 x355).kids),.int .i64 ((ix x1 x355).leaf)]) (M':=[.box gb633 56 [.string ((ix x1 x355).name),.bool ((ix x1 x355).named),.string ((ix x1 x355).field),.int .i64 ((ix x1 x355).from_),.int .i64 ((ix x1 x355).to),.int .i64 ((ix x1 x355).kids),.int .i64 ((ix x1 x355).leaf)],.own (.slice A346 n347 c348) 3 1 n347 (x345.flatMap (eI .i64)),.own (.slice A351 n352 c353) 3 1 n352 (x350.flatMap (eI .i64)),.box gb76 92 [.slice A2 n3 c4,.slice A77 n78 c79,.slice A81 n82 c83,.bool false],.own (.slice A81 n82 c83) 3 1 n82 (x358.flatMap (eI .i64)),.own (.slice A77 n78 c79) 3 1 n78 (x356.flatMap (eI .i64)),.box gb6 92 [.slice none 0 0,.slice none 0 0,.slice none 0 0,.bool false]]) 0 sz_56 rfl rfl rfl rfl rfl rfl rfl rfl rfl ?_) gn
    refine Aj 6 rfl<|Ah rfl<|Ac rfl rfl<|Aa 0 rfl (Aw Xmd rfl) gn rfl<|Aa 1 rfl (Au 3 Y0 rfl rfl rfl) gn rfl<|Aa 2 rfl (Ad rfl) gn rfl ?_
    obtain ⟨hb635,h⟩:=h
    refine Aa 3 rfl (Fj Jt rfl rfl h357 hb635) gn rfl ?_
    obtain ⟨x636,hv637,h⟩:=h
    refine Cf 4 rfl (Ua (enc:=(eI .i64)) (o:=0) (z:=(-1)) (vs:=[.int .i64 (-1)]) (i:=x355) 5 (hlI .i64) Xar rfl rfl rfl rfl rfl h357 hb635 rfl rfl rfl hv637 fun h638=>?_) gn
    refine Aj 5 rfl<|Ah rfl<|Ah rfl<|Ac rfl rfl<|Aa 0 rfl (Ad rfl) gn rfl<|Aa 1 rfl (Dj Jc rfl h349.hq) gn rfl<|Aa 2 rfl (Be rfl rfl rfl) gn rfl<|Aj 3 rfl ?_
    have j2:∀ (x652:List Int) (x654:List Int) (h:Jd x1 x355 x358 x345 x652 x654 o1) (h653:Ow w.heap.size A351 n352 c353 x652) (h655:Ow w.heap.size A77 n78 c79 x654),G (Lj w F r) [.code Xlf,.inBlock 1,.code Xcs,.inLoop U6,.inBlock 0,.code Xbl] [(2,.pointer (some ⟨gb6,0,none⟩)),(3,.pointer (some ⟨gb76,0,none⟩)),(4,.slice A346 n347 c348),(5,.slice A351 n352 c353),(6,.int .i64 x355),(7,.pointer (some ⟨gb633,0,none⟩)),(16,.slice A2 n3 c4),(17,.int .i64 (x1.length:Int)),(18,.int .i64 x355)] [.box gb633 56 [.string ((ix x1 x355).name),.bool ((ix x1 x355).named),.string ((ix x1 x355).field),.int .i64 ((ix x1 x355).from_),.int .i64 ((ix x1 x355).to),.int .i64 ((ix x1 x355).kids),.int .i64 ((ix x1 x355).leaf)],.own (.slice A346 n347 c348) 3 1 n347 (x345.flatMap (eI .i64)),.own (.slice A351 n352 c353) 3 1 n352 (x652.flatMap (eI .i64)),.box gb76 92 [.slice A2 n3 c4,.slice A77 n78 c79,.slice A81 n82 c83,.bool false],.own (.slice A81 n82 c83) 3 1 n82 (x358.flatMap (eI .i64)),.own (.slice A77 n78 c79) 3 1 n78 (x654.flatMap (eI .i64)),.box gb6 92 [.slice none 0 0,.slice none 0 0,.slice none 0 0,.bool false]] [Sm w.heap.size F w [],St w []]:=by
     intro x652 x654 h h653 h655
     unfold Jd at h
     refine Ah rfl<|Ah rfl<|Ac rfl rfl<|Aa 0 rfl (Aw Xg5 rfl) gn rfl<|Aa 1 rfl (Au 0 H9 rfl rfl rfl) gn rfl<|Aa 2 rfl (Be rfl rfl rfl) gn rfl<|Aj 3 rfl ?_
     by_cases hp656:(ix x1 x355).kids < 0
     ·have h:=Ap hp656 h
      refine Bz rfl _ rfl ((decide_eq_true hp656))<|Ah rfl<|Ac rfl rfl<|Aa 0 rfl (Nj [.slice A2 n3 c4,.slice A77 n78 c79,.slice A81 n82 c83,.bool false] 3 Xgg rfl rfl rfl rfl) gn rfl ?_
      refine Cf 1 rfl (Fp (vs:=[.slice A2 n3 c4,.slice A77 n78 c79,.slice A81 n82 c83,.bool false]) (cs':=[.slice A2 n3 c4,.slice A77 n78 c79,.slice A81 n82 c83,.bool false]) (M':=[.box gb633 56 [.string ((ix x1 x355).name),.bool ((ix x1 x355).named),.string ((ix x1 x355).field),.int .i64 ((ix x1 x355).from_),.int .i64 ((ix x1 x355).to),.int .i64 ((ix x1 x355).kids),.int .i64 ((ix x1 x355).leaf)],.own (.slice A346 n347 c348) 3 1 n347 (x345.flatMap (eI .i64)),.own (.slice A351 n352 c353) 3 1 n352 (x652.flatMap (eI .i64)),.box gb76 92 [.slice A2 n3 c4,.slice A77 n78 c79,.slice A81 n82 c83,.bool false],.own (.slice A81 n82 c83) 3 1 n82 (x358.flatMap (eI .i64)),.own (.slice A77 n78 c79) 3 1 n78 (x654.flatMap (eI .i64)),.box gb6 92 [.slice A2 n3 c4,.slice A77 n78 c79,.slice A81 n82 c83,.bool false]]) 6 Xcl rfl rfl rfl rfl rfl rfl rfl rfl rfl ?_) gn
      refine Aj 2 rfl ?_
      have h:=Out.inr hO1 h
      refine C9 [.agg #[.slice A2 n3 c4,.slice A77 n78 c79,.slice A81 n82 c83,.bool false]] rfl Tryd.func62 rfl (.cell (cs:=[.slice A2 n3 c4,.slice A77 n78 c79,.slice A81 n82 c83,.bool false]) (us:=[.slice A2 n3 c4,.slice A77 n78 c79,.slice A81 n82 c83,.bool false]) 6 rfl Xgg rfl rfl rfl (.nil)) fun wr hLr=>?_
      have hMr:=hLr.pkI (.c 5 rfl (.c 4 rfl .n)) (.c 0 rfl (.c 1 rfl (.c 2 rfl (.c 3 rfl (.c 6 rfl .n))))) (by kernel_rfl) (.c 1 rfl .n)
      have hMi:=hLr.selI (.c 5 rfl (.c 4 rfl .n))
      show Y5 w F  r (.returned (Ci [.agg #[.slice A2 n3 c4,.slice A77 n78 c79,.slice A81 n82 c83,.bool false]])) wr
      rw [h]
      exact ⟨A77,n78,c79,A81,n82,c83,A2,n3,c4,rfl,hMr,h655,h359,(hLr.outR (s:=Sm w.heap.size F w []) hMi (me 0 rfl) Sm.ok h5)⟩
     ·have h:=Aq hp656 h
      refine Bg rfl _ rfl ((decide_eq_false hp656))<|Cb rfl<|Ah rfl ?_
      obtain ⟨x663,hv664,h⟩:=h
      obtain ⟨hb665,h⟩:=h
      obtain ⟨x672,hv673,h⟩:=h
      obtain ⟨hb674,h⟩:=h
      have d4:∀ (A729:Option Addr) (n730:Nat) (c731:Nat) (h732:Ow w.heap.size A729 n730 c731 x663) (A733:Option Addr) (n734:Nat) (c735:Nat) (h736:Ow w.heap.size A733 n734 c735 x672),G (Lj w F r) [.code q62c41,.inBlock 1,.code Xcs,.inLoop U6,.inBlock 0,.code Xbl] [(2,.pointer (some ⟨gb6,0,none⟩)),(3,.pointer (some ⟨gb76,0,none⟩)),(4,.slice A729 n730 c731),(5,.slice A733 n734 c735),(6,.int .i64 x355),(16,.slice A2 n3 c4),(17,.int .i64 (x1.length:Int)),(18,.int .i64 x355)] [.own (.slice A729 n730 c731) 3 1 n730 (x663.flatMap (eI .i64)),.own (.slice A733 n734 c735) 3 1 n734 (x672.flatMap (eI .i64)),.box gb76 92 [.slice A2 n3 c4,.slice A77 n78 c79,.slice A81 n82 c83,.bool false],.own (.slice A81 n82 c83) 3 1 n82 (x358.flatMap (eI .i64)),.own (.slice A77 n78 c79) 3 1 n78 (x654.flatMap (eI .i64)),.box gb6 92 [.slice none 0 0,.slice none 0 0,.slice none 0 0,.bool false]] [Sm w.heap.size F w [],St w []]:=by
       intro A729 n730 c731 h732 A733 n734 c735 h736
       refine Df rfl<|Io rfl ?_
       have key3:∀ s,Bl (fun (s:(List Int) × (List Int) × (List Int)) o=>Jb x355 x654 s.1 s.2.1 s.2.2 o) s o1→(fun (s:(List Int) × (List Int) × (List Int))=>∀ (A767:Option Addr) (n768:Nat) (c769:Nat) (h770:Ow w.heap.size A767 n768 c769 s.1) (A772:Option Addr) (n773:Nat) (c774:Nat) (h775:Ow w.heap.size A772 n773 c774 s.2.1) (h777:Ow w.heap.size A81 n82 c83 s.2.2),G (Lj w F r) [.code Xb6,.inLoop Xb6,.inBlock 2,.inBlock 1,.code Xcs,.inLoop U6,.inBlock 0,.code Xbl] [(2,.pointer (some ⟨gb6,0,none⟩)),(3,.pointer (some ⟨gb76,0,none⟩)),(4,.slice A767 n768 c769),(5,.slice A772 n773 c774),(6,.int .i64 x355),(16,.slice A2 n3 c4),(17,.int .i64 (x1.length:Int)),(18,.int .i64 x355)] [.own (.slice A767 n768 c769) 3 1 n768 (s.1.flatMap (eI .i64)),.own (.slice A772 n773 c774) 3 1 n773 (s.2.1.flatMap (eI .i64)),.box gb76 92 [.slice A2 n3 c4,.slice A77 n78 c79,.slice A81 n82 c83,.bool false],.own (.slice A81 n82 c83) 3 1 n82 (s.2.2.flatMap (eI .i64)),.own (.slice A77 n78 c79) 3 1 n78 (x654.flatMap (eI .i64)),.box gb6 92 [.slice none 0 0,.slice none 0 0,.slice none 0 0,.bool false]] [Sm w.heap.size F w [],St w []]) s:=by
        intro s hs
        refine Bl.ind (mot:=(fun (s:(List Int) × (List Int) × (List Int))=>∀ (A767:Option Addr) (n768:Nat) (c769:Nat) (h770:Ow w.heap.size A767 n768 c769 s.1) (A772:Option Addr) (n773:Nat) (c774:Nat) (h775:Ow w.heap.size A772 n773 c774 s.2.1) (h777:Ow w.heap.size A81 n82 c83 s.2.2),G (Lj w F r) [.code Xb6,.inLoop Xb6,.inBlock 2,.inBlock 1,.code Xcs,.inLoop U6,.inBlock 0,.code Xbl] [(2,.pointer (some ⟨gb6,0,none⟩)),(3,.pointer (some ⟨gb76,0,none⟩)),(4,.slice A767 n768 c769),(5,.slice A772 n773 c774),(6,.int .i64 x355),(16,.slice A2 n3 c4),(17,.int .i64 (x1.length:Int)),(18,.int .i64 x355)] [.own (.slice A767 n768 c769) 3 1 n768 (s.1.flatMap (eI .i64)),.own (.slice A772 n773 c774) 3 1 n773 (s.2.1.flatMap (eI .i64)),.box gb76 92 [.slice A2 n3 c4,.slice A77 n78 c79,.slice A81 n82 c83,.bool false],.own (.slice A81 n82 c83) 3 1 n82 (s.2.2.flatMap (eI .i64)),.own (.slice A77 n78 c79) 3 1 n78 (x654.flatMap (eI .i64)),.box gb6 92 [.slice none 0 0,.slice none 0 0,.slice none 0 0,.bool false]] [Sm w.heap.size F w [],St w []])) ?_ hs
        clear hs s
        intro s o2 h hO2
        obtain ⟨x766,x771,x776⟩:=s
        show ∀ (A767:Option Addr) (n768:Nat) (c769:Nat) (h770:Ow w.heap.size A767 n768 c769 x766) (A772:Option Addr) (n773:Nat) (c774:Nat) (h775:Ow w.heap.size A772 n773 c774 x771) (h777:Ow w.heap.size A81 n82 c83 x776),G (Lj w F r) [.code Xb6,.inLoop Xb6,.inBlock 2,.inBlock 1,.code Xcs,.inLoop U6,.inBlock 0,.code Xbl] [(2,.pointer (some ⟨gb6,0,none⟩)),(3,.pointer (some ⟨gb76,0,none⟩)),(4,.slice A767 n768 c769),(5,.slice A772 n773 c774),(6,.int .i64 x355),(16,.slice A2 n3 c4),(17,.int .i64 (x1.length:Int)),(18,.int .i64 x355)] [.own (.slice A767 n768 c769) 3 1 n768 (x766.flatMap (eI .i64)),.own (.slice A772 n773 c774) 3 1 n773 (x771.flatMap (eI .i64)),.box gb76 92 [.slice A2 n3 c4,.slice A77 n78 c79,.slice A81 n82 c83,.bool false],.own (.slice A81 n82 c83) 3 1 n82 (x776.flatMap (eI .i64)),.own (.slice A77 n78 c79) 3 1 n78 (x654.flatMap (eI .i64)),.box gb6 92 [.slice none 0 0,.slice none 0 0,.slice none 0 0,.bool false]] [Sm w.heap.size F w [],St w []]
        intro A767 n768 c769 h770 A772 n773 c774 h775 h777
        have h:Jb x355 x654 x766 x771 x776 o2:=h
        unfold Jb at h
        refine Ah rfl<|Ah rfl<|Ac rfl rfl<|Aa 0 rfl (Ad rfl) gn rfl<|Aa 1 rfl (Dj Jc rfl h770.hq) gn rfl<|Aa 2 rfl (Be rfl rfl rfl) gn rfl<|Aa 3 rfl (Ad rfl) gn rfl ?_
        by_cases hp806:(x766.length:Int) > 0
        ·have h:=Ap hp806 h
         refine Bv 64 rfl ((decide_eq_true hp806))<|Aa 4 rfl (Ad rfl) (gy 64 rfl rfl) rfl<|Aa 5 rfl (Ad rfl) (gy 64 rfl rfl) rfl<|Aa 6 rfl (Dj Jc rfl h775.hq) (gy 64 rfl rfl) rfl<|Aa 7 rfl (Be rfl rfl rfl) (gy 64 rfl rfl) rfl ?_
         obtain ⟨hb807,h⟩:=h
         refine Aa 8 rfl (Fj Jt rfl rfl h775 hb807) (gy 64 rfl rfl) rfl<|Aa 9 rfl (Ut (.int .i64 (ix x771 (w64 ((x771.length:Int) - 1)))) 1 H9 rfl rfl (Vq (hlI .i64) hb807 rfl)) (gy 64 rfl rfl) rfl<|Aa 10 rfl (Be rfl rfl rfl) (gy 64 rfl rfl) rfl<|Aa 11 rfl (Bd (b:=true) rfl rfl) gn rfl<|Aj 12 rfl ?_
         by_cases hp808:ix x771 (w64 ((x771.length:Int) - 1))=0
         ·have h:=Ap hp808 h
          refine Bz rfl _ rfl ((eqi hp808))<|Cb rfl<|Df rfl<|Ah rfl ?_
          obtain ⟨hb809,h⟩:=h
          obtain ⟨hb810,h⟩:=h
          obtain ⟨x811,hv812,h⟩:=h
          have hns:Region.noSelect (Code.ops q62c51)=true:=by kernel_rfl
          refine Gf [11] 12 rfl rfl mix rfl (.c 0 rfl (.c 1 rfl .n))<|wfv 0 rfl (Aw Xjz rfl) gn hns (by kernel_rfl)<|wfv 1 rfl (Au 2 Y0 rfl rfl rfl) gn hns (by kernel_rfl)<|wfv 2 rfl (Ad rfl) gn hns (by kernel_rfl)<|wfv 3 rfl (Ad rfl) gn hns (by kernel_rfl)<|wfv 4 rfl (Dj Jc rfl h770.hq) gn hns (by kernel_rfl)<|wfv 5 rfl (Be rfl rfl rfl) gn hns (by kernel_rfl)<|wfv 6 rfl (Fj Jt rfl rfl h770 hb809) gn hns (by kernel_rfl)<|wfv 7 rfl (Ut (.int .i64 (ix x766 (w64 ((x766.length:Int) - 1)))) 0 H9 rfl rfl (Vq (hlI .i64) hb809 rfl)) gn hns (by kernel_rfl)<|wfv 8 rfl (Ad rfl) gn hns (by kernel_rfl)<|wfv 9 rfl (Be rfl rfl rfl) gn hns (by kernel_rfl)<|wfv 10 rfl (Fj Jt rfl rfl h777 hb810) gn hns (by kernel_rfl) ?_
          refine Cm [11] (by kernel_rfl) rfl ⟨Q7 11 rfl gn rfl (Ua (enc:=(eI .i64)) (o:=0) (z:=(w64 (x355 + 1))) (vs:=[.int .i64 (w64 (x355 + 1))]) (i:=(ix x766 (w64 ((x766.length:Int) - 1)))) 3 (hlI .i64) Xar rfl rfl rfl rfl rfl h777 hb810 rfl rfl rfl hv812 fun h815=>?_),trivial⟩
          unfold NxL
          refine E8 (by kernel_rfl) ?_
          obtain ⟨hb816,h⟩:=h
          obtain ⟨x818,hv819,h⟩:=h
          obtain ⟨hb821,h⟩:=h
          obtain ⟨x823,hv824,h⟩:=h
          have hns:Region.noSelect (Code.ops q62c52)=true:=by kernel_rfl
          refine Gf [] 12 rfl rfl mix rfl (.c 0 rfl (.c 1 rfl .n))<|wfv 0 rfl (Ad rfl) gn hns rfl<|wfv 1 rfl (Ad rfl) gn hns rfl<|wfv 2 rfl (Dj Jc rfl h770.hq) gn hns rfl<|wfv 3 rfl (Be rfl rfl rfl) gn hns rfl ?_
          have hle830:(w64 ((x766.length:Int) - 1):Int).toNat≤n768:=by have q:=hb816; have q1:=h770.hq; omega
          have h831:Ow w.heap.size A767 (w64 ((x766.length:Int) - 1):Int).toNat c769 x818:=Ow.w (Ow.cut h770 hle830) (by rw [hv819])
          refine wfv 4 rfl (Xg1 (i:=w64 ((x766.length:Int) - 1)) Jt rfl rfl (by have q:=hb816; have q1:=h770.hq; have q2:=h770.hn; omega) h770.hn rfl) gn hns rfl<|wfv 5 rfl (Ad rfl) gn hns rfl<|wfv 6 rfl (Ad rfl) gn hns rfl<|wfv 7 rfl (Dj Jc rfl h775.hq) gn hns rfl<|wfv 8 rfl (Be rfl rfl rfl) gn hns rfl ?_
          have hle832:(w64 ((x771.length:Int) - 1):Int).toNat≤n773:=by have q:=hb821; have q1:=h775.hq; omega
          have h833:Ow w.heap.size A772 (w64 ((x771.length:Int) - 1):Int).toNat c774 x823:=Ow.w (Ow.cut h775 hle832) (by rw [hv824])
          refine wfv 9 rfl (Xg1 (i:=w64 ((x771.length:Int) - 1)) Jt rfl rfl (by have q:=hb821; have q1:=h775.hq; have q2:=h775.hn; omega) h775.hn rfl) gn hns rfl<|wfv 10 rfl (Af rfl) gn hns rfl<|wfv 11 rfl (Af rfl) gn hns rfl<|E8 (by kernel_rfl)<|D7<|Dp ?_
          have h834:Ow w.heap.size A767 ((w64 ((x766.length:Int) - 1):Int).toNat) c769 x818:=(Ow.w (Ow.cut h770 hle830) (by rw [hv819]))
          refine Xg2 (j:=0) (m:=((w64 ((x766.length:Int) - 1):Int).toNat)) (cells':=x818.flatMap (eI .i64)) rfl hle830 (by rw [Xc4 (hlI .i64),hv819]) ?_
          have h835:Ow w.heap.size A772 ((w64 ((x771.length:Int) - 1):Int).toNat) c774 x823:=(Ow.w (Ow.cut h775 hle832) (by rw [hv824]))
          refine Xg2 (j:=1) (m:=((w64 ((x771.length:Int) - 1):Int).toNat)) (cells':=x823.flatMap (eI .i64)) rfl hle832 (by rw [Xc4 (hlI .i64),hv824]) ?_
          have ih:=Out.inl hO2 h
          exact Dc [0,1] (ih A767 ((w64 ((x766.length:Int) - 1):Int).toNat) c769 h834 A772 ((w64 ((x771.length:Int) - 1):Int).toNat) c774 h835 h815) ⟨rfl,rfl,rfl,rfl,rfl,rfl,rfl,rfl,trivial⟩ (.cons_cons _ (.cons_cons _ (.cons_cons _ (.cons_cons _ (.cons_cons _ (.cons_cons _ (.slnil))))))) rfl
         ·have h:=Aq hp808 h
          refine Bg rfl _ rfl ((nei hp808))<|Gp [.inBlock 1,.code Xcs,.inLoop U6,.inBlock 0,.code Xbl] rfl rfl<|D7<|Ac rfl rfl<|Aa 0 rfl (Be rfl rfl rfl) gn rfl<|Aa 1 rfl (Ad rfl) gn rfl<|Aj 2 rfl<|Dp ?_
          have h:=Out.inr hO2 h
          have ih:=Out.inl hO1 h
          exact Dc [0,1] (ih A767 n768 c769 h770 A772 n773 c774 h775 h655 h777) ⟨rfl,rfl,rfl,rfl,rfl,rfl,rfl,trivial⟩ (.cons_cons _ (.cons_cons _ (.cons_cons _ (.cons_cons _ (.cons_cons _ (.cons_cons _ (.slnil))))))) rfl
        ·have h:=Aq hp806 h
         refine Bv 64 rfl ((decide_eq_false hp806))<|Ae 4 rfl (ps 64 rfl rfl rfl)<|Ae 5 rfl (ps 64 rfl rfl rfl)<|Ae 6 rfl (ps 64 rfl rfl rfl)<|Ae 7 rfl (ps 64 rfl rfl rfl)<|Ae 8 rfl (ps 64 rfl rfl rfl)<|Ae 9 rfl (ps 64 rfl rfl rfl)<|Ae 10 rfl (ps 64 rfl rfl rfl)<|Aa 11 rfl (Bd (b:=false) rfl rfl) gn rfl<|Aj 12 rfl<|Bg rfl _ rfl (rfl)<|Gp [.inBlock 1,.code Xcs,.inLoop U6,.inBlock 0,.code Xbl] rfl rfl ?_
         refine D7<|Ac rfl rfl<|Aa 0 rfl (Be rfl rfl rfl) gn rfl<|Aa 1 rfl (Ad rfl) gn rfl<|Aj 2 rfl<|Dp ?_
         have h:=Out.inr hO2 h
         have ih:=Out.inl hO1 h
         exact Dc [0,1] (ih A767 n768 c769 h770 A772 n773 c774 h775 h655 h777) ⟨rfl,rfl,rfl,rfl,rfl,rfl,rfl,trivial⟩ (.cons_cons _ (.cons_cons _ (.cons_cons _ (.cons_cons _ (.cons_cons _ (.cons_cons _ (.slnil))))))) rfl
       exact Dc [0,1] (key3 _ h A729 n730 c731 h732 A733 n734 c735 h736 h359) ⟨rfl,rfl,rfl,rfl,rfl,rfl,rfl,rfl,trivial⟩ (.cons_cons _ (.cons_cons _ (.cons_cons _ (.cons_cons _ (.cons_cons _ (.cons_cons _ (.slnil))))))) rfl
      have hns:Region.noSelect (Code.ops q62c40)=true:=by kernel_rfl
      refine Vu [.box gb633 56 [.string ((ix x1 x355).name),.bool ((ix x1 x355).named),.string ((ix x1 x355).field),.int .i64 ((ix x1 x355).from_),.int .i64 ((ix x1 x355).to),.int .i64 ((ix x1 x355).kids),.int .i64 ((ix x1 x355).leaf)],.own (.slice A351 n352 c353) 3 1 n352 (x652.flatMap (eI .i64)),.box gb76 92 [.slice A2 n3 c4,.slice A77 n78 c79,.slice A81 n82 c83,.bool false],.own (.slice A81 n82 c83) 3 1 n82 (x358.flatMap (eI .i64)),.own (.slice A77 n78 c79) 3 1 n78 (x654.flatMap (eI .i64)),.box gb6 92 [.slice none 0 0,.slice none 0 0,.slice none 0 0,.bool false]] [Sm w.heap.size F w [],St w []] [8,9,10] 11 rfl rfl mix rfl (.cons_cons _ (.cons _ (.cons_cons _ (.cons_cons _ (.cons_cons _ (.cons_cons _ (.cons_cons _ (.slnil)))))))) (Bi [0,1] rfl)<|wfv 0 rfl (Ad rfl) gn hns (by kernel_rfl)<|wfv 1 rfl (Ad rfl) gn hns (by kernel_rfl)<|wfv 4 rfl (Ad rfl) gn hns (by kernel_rfl)<|wfv 5 rfl (Aw Xg5 rfl) gn hns (by kernel_rfl)<|wfv 6 rfl (Au 0 H9 rfl rfl rfl) gn hns (by kernel_rfl) ?_
      refine Cm [2,7] (by kernel_rfl) rfl ⟨?_,?_,trivial⟩
      ·refine Et 2 rfl gn rfl (Gw (xs := ([x355] : List Int)) [.int .i64 x355] Rx rfl (by kernel_rfl) rfl rfl rfl rfl fun gb846 h847 => ?_)
       refine ⟨Bi [1,3,4,5,6,7] rfl,Bi [0,1] rfl,?_⟩
       refine Cm [3,7] (by kernel_rfl) rfl ⟨?_,?_,trivial⟩
       ·refine Et 3 rfl gn rfl (L8 (zs := x663) (cells' := x663.flatMap (eI .i64)) 2 Zg rfl rfl rfl h349 (Nat.le_refl _) (Src.ownF (hl := (hlI .i64)) (h1 := (Ey .i64)) 0 rfl h847) (by rw [hv664, List.flatMap_append] <;> rfl) (Ff hv664 h847.hq) hb665 rfl rfl fun A853 c854 h855 => ?_)
        refine ⟨Bi [1,3,4,5,6,7] rfl,Bi [0,1] rfl,?_⟩
        refine Cm [7] (by kernel_rfl) rfl ⟨Et 7 rfl gn rfl (Gw (xs:=([(ix x1 x355).kids]:List Int)) [.int .i64 ((ix x1 x355).kids)] Rx rfl (by kernel_rfl) rfl rfl rfl rfl fun gb858 h859=>?_),trivial⟩
        refine ⟨Bi [2,4,5,6,7,8] rfl,Bi [0,1] rfl,?_⟩
        refine Cm [8] (by kernel_rfl) rfl ⟨Q7 8 rfl gn rfl (L8 (zs:=x672) (cells':=x672.flatMap (eI .i64)) 4 Zg rfl rfl rfl h653 (Nat.le_refl _) (Src.ownF (hl:=(hlI .i64)) (h1:=(Ey .i64)) 0 rfl h859) (by rw [hv673,List.flatMap_append] <;> rfl) (Ff hv673 h859.hq) hb674 rfl rfl fun A860 c861 h862=>?_),trivial⟩
        unfold NxL
        refine Cm [9] (by kernel_rfl) rfl ⟨Q7 9 rfl gn rfl (Nk (Af rfl) rfl ?_),trivial⟩
        unfold NxL
        refine Cm [10] (by kernel_rfl) rfl ⟨Q7 10 rfl gn rfl (Nk (Af rfl) rfl ?_),trivial⟩
        unfold NxL
        refine E8 (by kernel_rfl) ?_
        exact Dc [0,1] (d4 A853 (n347 + 1) c854 h855 A860 (n352 + 1) c861 h862) ⟨rfl,rfl,rfl,rfl,rfl,rfl,rfl,rfl,trivial⟩ (.cons _ (.cons _ (.cons _ (.cons_cons _ (.cons_cons _ (.cons_cons _ (.cons_cons _ (.cons_cons _ (.cons_cons _ (.slnil)))))))))) rfl
       ·refine Et 7 rfl gn rfl (Gw (xs := ([(ix x1 x355).kids] : List Int)) [.int .i64 ((ix x1 x355).kids)] Rx rfl (by kernel_rfl) rfl rfl rfl rfl fun gb863 h864 => ?_)
        refine ⟨Bi [2,4,5,6,7,8] rfl,Bi [0,1] rfl,?_⟩
        refine Cm [3] (by kernel_rfl) rfl ⟨Et 3 rfl gn rfl (L8 (zs:=x663) (cells':=x663.flatMap (eI .i64)) 3 Zg rfl rfl rfl h349 (Nat.le_refl _) (Src.ownF (hl:=(hlI .i64)) (h1:=(Ey .i64)) 1 rfl h847) (by rw [hv664,List.flatMap_append] <;> rfl) (Ff hv664 h847.hq) hb665 rfl rfl fun A868 c869 h870=>?_),trivial⟩
        refine ⟨Bi [2,4,5,6,7,8] rfl,Bi [0,1] rfl,?_⟩
        refine Cm [8] (by kernel_rfl) rfl ⟨Q7 8 rfl gn rfl (L8 (zs:=x672) (cells':=x672.flatMap (eI .i64)) 4 Zg rfl rfl rfl h653 (Nat.le_refl _) (Src.ownF (hl:=(hlI .i64)) (h1:=(Ey .i64)) 0 rfl h864) (by rw [hv673,List.flatMap_append] <;> rfl) (Ff hv673 h864.hq) hb674 rfl rfl fun A871 c872 h873=>?_),trivial⟩
        unfold NxL
        refine Cm [9] (by kernel_rfl) rfl ⟨Q7 9 rfl gn rfl (Nk (Af rfl) rfl ?_),trivial⟩
        unfold NxL
        refine Cm [10] (by kernel_rfl) rfl ⟨Q7 10 rfl gn rfl (Nk (Af rfl) rfl ?_),trivial⟩
        unfold NxL
        refine E8 (by kernel_rfl) ?_
        exact Dc [0,1] (d4 A868 (n347 + 1) c869 h870 A871 (n352 + 1) c872 h873) ⟨rfl,rfl,rfl,rfl,rfl,rfl,rfl,rfl,trivial⟩ (.cons _ (.cons _ (.cons _ (.cons_cons _ (.cons_cons _ (.cons_cons _ (.cons_cons _ (.cons_cons _ (.cons_cons _ (.slnil)))))))))) rfl
      ·refine Et 7 rfl gn rfl (Gw (xs := ([(ix x1 x355).kids] : List Int)) [.int .i64 ((ix x1 x355).kids)] Rx rfl (by kernel_rfl) rfl rfl rfl rfl fun gb874 h875 => ?_)
       refine ⟨Bi [1,3,4,5,6,7] rfl,Bi [0,1] rfl,?_⟩
       refine Cm [2] (by kernel_rfl) rfl ⟨Et 2 rfl gn rfl (Gw (xs:=([x355]:List Int)) [.int .i64 x355] Rx rfl (by kernel_rfl) rfl rfl rfl rfl fun gb878 h879=>?_),trivial⟩
       refine ⟨Bi [2,4,5,6,7,8] rfl,Bi [0,1] rfl,?_⟩
       refine Cm [3] (by kernel_rfl) rfl ⟨Et 3 rfl gn rfl (L8 (zs:=x663) (cells':=x663.flatMap (eI .i64)) 3 Zg rfl rfl rfl h349 (Nat.le_refl _) (Src.ownF (hl:=(hlI .i64)) (h1:=(Ey .i64)) 0 rfl h879) (by rw [hv664,List.flatMap_append] <;> rfl) (Ff hv664 h879.hq) hb665 rfl rfl fun A883 c884 h885=>?_),trivial⟩
       refine ⟨Bi [2,4,5,6,7,8] rfl,Bi [0,1] rfl,?_⟩
       refine Cm [8] (by kernel_rfl) rfl ⟨Q7 8 rfl gn rfl (L8 (zs:=x672) (cells':=x672.flatMap (eI .i64)) 4 Zg rfl rfl rfl h653 (Nat.le_refl _) (Src.ownF (hl:=(hlI .i64)) (h1:=(Ey .i64)) 1 rfl h875) (by rw [hv673,List.flatMap_append] <;> rfl) (Ff hv673 h875.hq) hb674 rfl rfl fun A886 c887 h888=>?_),trivial⟩
       unfold NxL
       refine Cm [9] (by kernel_rfl) rfl ⟨Q7 9 rfl gn rfl (Nk (Af rfl) rfl ?_),trivial⟩
       unfold NxL
       refine Cm [10] (by kernel_rfl) rfl ⟨Q7 10 rfl gn rfl (Nk (Af rfl) rfl ?_),trivial⟩
       unfold NxL
       refine E8 (by kernel_rfl) ?_
       exact Dc [0,1] (d4 A883 (n347 + 1) c884 h885 A886 (n352 + 1) c887 h888) ⟨rfl,rfl,rfl,rfl,rfl,rfl,rfl,rfl,trivial⟩ (.cons _ (.cons _ (.cons _ (.cons_cons _ (.cons_cons _ (.cons_cons _ (.cons_cons _ (.cons_cons _ (.cons_cons _ (.slnil)))))))))) rfl
    by_cases hp639:(x345.length:Int) > 0
    ·have h:=Ap hp639 h
     refine Bz rfl _ rfl ((decide_eq_true hp639))<|Ah rfl ?_
     obtain ⟨hb889,h⟩:=h
     obtain ⟨hb890,h⟩:=h
     obtain ⟨x891,hv892,h⟩:=h
     have hns:Region.noSelect (Code.ops q62c57)=true:=by kernel_rfl
     refine Gf [10] 11 rfl rfl mix rfl (.c 0 rfl (.c 1 rfl .n))<|wfv 0 rfl (Aw Xmd rfl) gn hns (by kernel_rfl)<|wfv 1 rfl (Au 3 Y0 rfl rfl rfl) gn hns (by kernel_rfl)<|wfv 2 rfl (Ad rfl) gn hns (by kernel_rfl)<|wfv 3 rfl (Ad rfl) gn hns (by kernel_rfl)<|wfv 4 rfl (Ad rfl) gn hns (by kernel_rfl)<|wfv 5 rfl (Dj Jc rfl h349.hq) gn hns (by kernel_rfl)<|wfv 6 rfl (Be rfl rfl rfl) gn hns (by kernel_rfl)<|wfv 7 rfl (Fj Jt rfl rfl h349 hb889) gn hns (by kernel_rfl)<|wfv 8 rfl (Ut (.int .i64 (ix x345 (w64 ((x345.length:Int) - 1)))) 1 H9 rfl rfl (Vq (hlI .i64) hb889 rfl)) gn hns (by kernel_rfl)<|wfv 9 rfl (Fj Jt rfl rfl h638 hb890) gn hns (by kernel_rfl) ?_
     refine Cm [10] (by kernel_rfl) rfl ⟨Q7 10 rfl gn rfl (Ua (enc:=(eI .i64)) (o:=0) (z:=(ix x345 (w64 ((x345.length:Int) - 1)))) (vs:=[.int .i64 (ix x345 (w64 ((x345.length:Int) - 1)))]) (i:=x355) 5 (hlI .i64) Xar rfl rfl rfl rfl rfl h638 hb890 rfl rfl rfl hv892 fun h895=>?_),trivial⟩
     unfold NxL
     refine E8 (by kernel_rfl)<|Ac rfl rfl<|Aa 0 rfl (Ad rfl) gn rfl<|Aa 1 rfl (Ad rfl) gn rfl<|Aa 2 rfl (Dj Jc rfl h354.hq) gn rfl<|Aa 3 rfl (Be rfl rfl rfl) gn rfl ?_
     obtain ⟨hb896,h⟩:=h
     refine Aa 4 rfl (Fj Jt rfl rfl h354 hb896) gn rfl<|Aa 5 rfl (Ut (.int .i64 (ix x350 (w64 ((x350.length:Int) - 1)))) 2 H9 rfl rfl (Vq (hlI .i64) hb896 rfl)) gn rfl<|Aa 6 rfl (Be rfl rfl rfl) gn rfl<|Aa 7 rfl (Fj Jt rfl rfl h354 hb896) gn rfl ?_
     obtain ⟨x897,hv898,h⟩:=h
     refine Cf 8 rfl (Ua (enc:=(eI .i64)) (o:=0) (z:=(w64 ((ix x350 (w64 ((x350.length:Int) - 1))) - 1))) (vs:=[.int .i64 (w64 ((ix x350 (w64 ((x350.length:Int) - 1))) - 1))]) (i:=(w64 ((x350.length:Int) - 1))) 2 (hlI .i64) Xar rfl rfl rfl rfl rfl h354 hb896 rfl rfl rfl hv898 fun h899=>?_) gn
     refine Aj 9 rfl ?_
     exact Dc [0,1] (j2 x897 x891 h h899 h895) ⟨rfl,rfl,rfl,rfl,rfl,rfl,rfl,rfl,rfl,trivial⟩ (.cons_cons _ (.cons_cons _ (.cons_cons _ (.cons_cons _ (.cons_cons _ (.cons_cons _ (.cons_cons _ (.slnil)))))))) rfl
    ·have h:=Aq hp639 h
     refine Bg rfl _ rfl ((decide_eq_false hp639))<|Cb rfl ?_
     exact Dc [0,1] (j2 x350 x636 h h354 h638) ⟨rfl,rfl,rfl,rfl,rfl,rfl,rfl,rfl,rfl,trivial⟩ (.cons_cons _ (.cons_cons _ (.cons_cons _ (.cons_cons _ (.cons_cons _ (.cons_cons _ (.cons_cons _ (.slnil)))))))) rfl
   ·have h:=Aq hp630 h
    refine Bg rfl _ rfl ((decide_eq_false hp630))<|Gp [.code Xbl] rfl rfl<|Ah rfl<|Ac rfl rfl<|Aa 0 rfl (Ad rfl) gn rfl<|Aa 1 rfl (Dj Jc rfl h349.hq) gn rfl<|Aa 2 rfl (Be rfl rfl rfl) gn rfl<|Aa 3 rfl (Aw Xjx rfl) gn rfl ?_
    refine Cf 4 rfl (Fp (vs:=[.bool ((x345.length:Int) == 0)]) (cs':=[.slice A2 n3 c4,.slice A77 n78 c79,.slice A81 n82 c83,.bool ((x345.length:Int) == 0)]) (M':=[.own (.slice A346 n347 c348) 3 1 n347 (x345.flatMap (eI .i64)),.own (.slice A351 n352 c353) 3 1 n352 (x350.flatMap (eI .i64)),.box gb76 92 [.slice A2 n3 c4,.slice A77 n78 c79,.slice A81 n82 c83,.bool ((x345.length:Int) == 0)],.own (.slice A81 n82 c83) 3 1 n82 (x358.flatMap (eI .i64)),.own (.slice A77 n78 c79) 3 1 n78 (x356.flatMap (eI .i64)),.box gb6 92 [.slice none 0 0,.slice none 0 0,.slice none 0 0,.bool false]]) 2 Xcx rfl rfl rfl rfl rfl rfl rfl rfl rfl ?_) gn
    refine Aj 5 rfl<|Ah rfl<|Ac rfl rfl<|Aa 0 rfl (Nj [.slice A2 n3 c4,.slice A77 n78 c79,.slice A81 n82 c83,.bool ((x345.length:Int) == 0)] 2 Xgg rfl rfl rfl rfl) gn rfl ?_
    refine Cf 1 rfl (Fp (vs:=[.slice A2 n3 c4,.slice A77 n78 c79,.slice A81 n82 c83,.bool ((x345.length:Int) == 0)]) (cs':=[.slice A2 n3 c4,.slice A77 n78 c79,.slice A81 n82 c83,.bool ((x345.length:Int) == 0)]) (M':=[.own (.slice A346 n347 c348) 3 1 n347 (x345.flatMap (eI .i64)),.own (.slice A351 n352 c353) 3 1 n352 (x350.flatMap (eI .i64)),.box gb76 92 [.slice A2 n3 c4,.slice A77 n78 c79,.slice A81 n82 c83,.bool ((x345.length:Int) == 0)],.own (.slice A81 n82 c83) 3 1 n82 (x358.flatMap (eI .i64)),.own (.slice A77 n78 c79) 3 1 n78 (x356.flatMap (eI .i64)),.box gb6 92 [.slice A2 n3 c4,.slice A77 n78 c79,.slice A81 n82 c83,.bool ((x345.length:Int) == 0)]]) 5 Xcl rfl rfl rfl rfl rfl rfl rfl rfl rfl ?_) gn
    refine Aj 2 rfl ?_
    have h:=Out.inr hO1 h
    refine C9 [.agg #[.slice A2 n3 c4,.slice A77 n78 c79,.slice A81 n82 c83,.bool ((x345.length:Int) == 0)]] rfl Tryd.func62 rfl (.cell (cs:=[.slice A2 n3 c4,.slice A77 n78 c79,.slice A81 n82 c83,.bool ((x345.length:Int) == 0)]) (us:=[.slice A2 n3 c4,.slice A77 n78 c79,.slice A81 n82 c83,.bool ((x345.length:Int) == 0)]) 5 rfl Xgg rfl rfl rfl (.nil)) fun wr hLr=>?_
    have hMr:=hLr.pkI (.c 4 rfl (.c 3 rfl .n)) (.c 0 rfl (.c 1 rfl (.c 2 rfl (.c 5 rfl .n)))) (by kernel_rfl) (.c 1 rfl .n)
    have hMi:=hLr.selI (.c 4 rfl (.c 3 rfl .n))
    show Y5 w F  r (.returned (Ci [.agg #[.slice A2 n3 c4,.slice A77 n78 c79,.slice A81 n82 c83,.bool ((x345.length:Int) == 0)]])) wr
    rw [h]
    exact ⟨A77,n78,c79,A81,n82,c83,A2,n3,c4,rfl,hMr,h357,h359,(hLr.outR (s:=Sm w.heap.size F w []) hMi (me 0 rfl) Sm.ok h5)⟩
  refine Nr 3 1<|Nr 3 1 ?_
  exact Dc [0,1] (key1 _ h none 0 0 (Ow.nil (z:=w.heap.size)) none 0 0 (Ow.nil (z:=w.heap.size)) h80 h84) ⟨rfl,rfl,rfl,rfl,rfl,rfl,rfl,trivial⟩ (.cons_cons _ (.cons_cons _ (.cons_cons _ (.cons_cons _ (.cons_cons _ (.cons_cons _ (.slnil))))))) rfl
 have hns:Region.noSelect (Code.ops q62c3)=true:=by kernel_rfl
 refine Gf [] 10 rfl rfl mix rfl (.c 0 rfl (.c 1 rfl .n))<|wfv 0 rfl (Ad rfl) gn hns rfl<|wfv 1 rfl (Ad rfl) gn hns rfl<|wfv 2 rfl (Dj Xco rfl h5.hq) gn hns rfl<|wfv 4 rfl (Ad rfl) gn hns rfl<|wfv 5 rfl (Dj Xco rfl h5.hq) gn hns rfl ?_
 refine Cm [3,6,8] (by kernel_rfl) rfl ⟨?_,?_,?_,trivial⟩
 ·refine Et 3 rfl gn rfl (Rk (enc := (eI .i64)) (z := 0) Xcp rfl (by decide) rfl rfl hb8.1 hb8.2 (by decide) hv13 rfl fun A909 h910 => ?_)
  refine ⟨Bi [1] rfl,Bi [0,1] rfl,?_⟩
  refine Cm [6,8] (by kernel_rfl) rfl ⟨?_,?_,trivial⟩
  ·refine Et 6 rfl gn rfl (Rk (enc := (eI .i64)) (z := 0) Xcp rfl (by decide) rfl rfl hb8.1 hb8.2 (by decide) hv18 rfl fun A914 h915 => ?_)
   refine ⟨Bi [2] rfl,Bi [0,1] rfl,?_⟩
   refine wfv 7 rfl (J5 #[.slice A2 n3 c4,.slice A909 (((x1.length:Int):Int).toNat) (((x1.length:Int):Int).toNat),.slice A914 (((x1.length:Int):Int).toNat) (((x1.length:Int):Int).toNat),.bool false] Xig rfl (by kernel_rfl)) gn hns rfl ?_
   refine Cm [8] (by kernel_rfl) rfl ⟨Et 8 rfl gn rfl (Gz [.slice none 0 0,.slice none 0 0,.slice none 0 0,.bool false] Xfe rfl fun gb917=>?_),trivial⟩
   refine ⟨Bi [3] rfl,Bi [0,1] rfl,?_⟩
   refine Cm [9] (by kernel_rfl) rfl ⟨Et 9 rfl gn rfl (Fp (vs:=[.slice A2 n3 c4,.slice A909 (((x1.length:Int):Int).toNat) (((x1.length:Int):Int).toNat),.slice A914 (((x1.length:Int):Int).toNat) (((x1.length:Int):Int).toNat),.bool false]) (cs':=[.slice A2 n3 c4,.slice A909 (((x1.length:Int):Int).toNat) (((x1.length:Int):Int).toNat),.slice A914 (((x1.length:Int):Int).toNat) (((x1.length:Int):Int).toNat),.bool false]) (M':=[.box gb917 92 [.slice A2 n3 c4,.slice A909 (((x1.length:Int):Int).toNat) (((x1.length:Int):Int).toNat),.slice A914 (((x1.length:Int):Int).toNat) (((x1.length:Int):Int).toNat),.bool false],.own (.slice A914 (((x1.length:Int):Int).toNat) (((x1.length:Int):Int).toNat)) 3 1 (((x1.length:Int):Int).toNat) (x17.flatMap (eI .i64)),.own (.slice A909 (((x1.length:Int):Int).toNat) (((x1.length:Int):Int).toNat)) 3 1 (((x1.length:Int):Int).toNat) (x12.flatMap (eI .i64)),.box gb6 92 [.slice none 0 0,.slice none 0 0,.slice none 0 0,.bool false]]) 0 Xcl rfl rfl rfl rfl rfl rfl rfl rfl rfl ?_),trivial⟩
   refine ⟨Bi [3] rfl,Bi [0,1] rfl,?_⟩
   refine E8 (by kernel_rfl) ?_
   exact Dc [0,1] (d1 gb917 A909 (((x1.length:Int):Int).toNat) (((x1.length:Int):Int).toNat) h910 A914 (((x1.length:Int):Int).toNat) (((x1.length:Int):Int).toNat) h915) ⟨rfl,rfl,rfl,trivial⟩ (.cons_cons _ (.cons_cons _ (.cons_cons _ (.cons_cons _ (.slnil))))) rfl
  ·refine Et 8 rfl gn rfl (Gz [.slice none 0 0, .slice none 0 0, .slice none 0 0, .bool false] Xfe rfl fun gb918 => ?_)
   refine ⟨Bi [2] rfl,Bi [0,1] rfl,?_⟩
   refine Cm [6] (by kernel_rfl) rfl ⟨Et 6 rfl gn rfl (Rk (enc:=(eI .i64)) (z:=0) Xcp rfl (by decide) rfl rfl hb8.1 hb8.2 (by decide) hv18 rfl fun A921 h922=>?_),trivial⟩
   refine ⟨Bi [3] rfl,Bi [0,1] rfl,?_⟩
   refine wfv 7 rfl (J5 #[.slice A2 n3 c4,.slice A909 (((x1.length:Int):Int).toNat) (((x1.length:Int):Int).toNat),.slice A921 (((x1.length:Int):Int).toNat) (((x1.length:Int):Int).toNat),.bool false] Xig rfl (by kernel_rfl)) gn hns rfl ?_
   refine Cm [9] (by kernel_rfl) rfl ⟨Et 9 rfl gn rfl (Fp (vs:=[.slice A2 n3 c4,.slice A909 (((x1.length:Int):Int).toNat) (((x1.length:Int):Int).toNat),.slice A921 (((x1.length:Int):Int).toNat) (((x1.length:Int):Int).toNat),.bool false]) (cs':=[.slice A2 n3 c4,.slice A909 (((x1.length:Int):Int).toNat) (((x1.length:Int):Int).toNat),.slice A921 (((x1.length:Int):Int).toNat) (((x1.length:Int):Int).toNat),.bool false]) (M':=[.own (.slice A921 (((x1.length:Int):Int).toNat) (((x1.length:Int):Int).toNat)) 3 1 (((x1.length:Int):Int).toNat) (x17.flatMap (eI .i64)),.box gb918 92 [.slice A2 n3 c4,.slice A909 (((x1.length:Int):Int).toNat) (((x1.length:Int):Int).toNat),.slice A921 (((x1.length:Int):Int).toNat) (((x1.length:Int):Int).toNat),.bool false],.own (.slice A909 (((x1.length:Int):Int).toNat) (((x1.length:Int):Int).toNat)) 3 1 (((x1.length:Int):Int).toNat) (x12.flatMap (eI .i64)),.box gb6 92 [.slice none 0 0,.slice none 0 0,.slice none 0 0,.bool false]]) 1 Xcl rfl rfl rfl rfl rfl rfl rfl rfl rfl ?_),trivial⟩
   refine ⟨Bi [3] rfl,Bi [0,1] rfl,?_⟩
   refine E8 (by kernel_rfl)<|Ba 3 rfl<|Ba 3 rfl<|Ba 2 rfl<|Ba 3 rfl ?_
   exact Dc [0,1] (d1 gb918 A909 (((x1.length:Int):Int).toNat) (((x1.length:Int):Int).toNat) h910 A921 (((x1.length:Int):Int).toNat) (((x1.length:Int):Int).toNat) h922) ⟨rfl,rfl,rfl,trivial⟩ (.cons_cons _ (.cons_cons _ (.cons_cons _ (.cons_cons _ (.slnil))))) rfl
 ·refine Et 6 rfl gn rfl (Rk (enc := (eI .i64)) (z := 0) Xcp rfl (by decide) rfl rfl hb8.1 hb8.2 (by decide) hv18 rfl fun A923 h924 => ?_)
  refine ⟨Bi [1] rfl,Bi [0,1] rfl,?_⟩
  refine Cm [3,8] (by kernel_rfl) rfl ⟨?_,?_,trivial⟩
  ·refine Et 3 rfl gn rfl (Rk (enc := (eI .i64)) (z := 0) Xcp rfl (by decide) rfl rfl hb8.1 hb8.2 (by decide) hv13 rfl fun A928 h929 => ?_)
   refine ⟨Bi [2] rfl,Bi [0,1] rfl,?_⟩
   refine wfv 7 rfl (J5 #[.slice A2 n3 c4,.slice A928 (((x1.length:Int):Int).toNat) (((x1.length:Int):Int).toNat),.slice A923 (((x1.length:Int):Int).toNat) (((x1.length:Int):Int).toNat),.bool false] Xig rfl (by kernel_rfl)) gn hns rfl ?_
   refine Cm [8] (by kernel_rfl) rfl ⟨Et 8 rfl gn rfl (Gz [.slice none 0 0,.slice none 0 0,.slice none 0 0,.bool false] Xfe rfl fun gb931=>?_),trivial⟩
   refine ⟨Bi [3] rfl,Bi [0,1] rfl,?_⟩
   refine Cm [9] (by kernel_rfl) rfl ⟨Et 9 rfl gn rfl (Fp (vs:=[.slice A2 n3 c4,.slice A928 (((x1.length:Int):Int).toNat) (((x1.length:Int):Int).toNat),.slice A923 (((x1.length:Int):Int).toNat) (((x1.length:Int):Int).toNat),.bool false]) (cs':=[.slice A2 n3 c4,.slice A928 (((x1.length:Int):Int).toNat) (((x1.length:Int):Int).toNat),.slice A923 (((x1.length:Int):Int).toNat) (((x1.length:Int):Int).toNat),.bool false]) (M':=[.box gb931 92 [.slice A2 n3 c4,.slice A928 (((x1.length:Int):Int).toNat) (((x1.length:Int):Int).toNat),.slice A923 (((x1.length:Int):Int).toNat) (((x1.length:Int):Int).toNat),.bool false],.own (.slice A928 (((x1.length:Int):Int).toNat) (((x1.length:Int):Int).toNat)) 3 1 (((x1.length:Int):Int).toNat) (x12.flatMap (eI .i64)),.own (.slice A923 (((x1.length:Int):Int).toNat) (((x1.length:Int):Int).toNat)) 3 1 (((x1.length:Int):Int).toNat) (x17.flatMap (eI .i64)),.box gb6 92 [.slice none 0 0,.slice none 0 0,.slice none 0 0,.bool false]]) 0 Xcl rfl rfl rfl rfl rfl rfl rfl rfl rfl ?_),trivial⟩
   refine ⟨Bi [3] rfl,Bi [0,1] rfl,?_⟩
   refine E8 (by kernel_rfl)<|Ba 3 rfl<|Ba 2 rfl<|Ba 3 rfl<|Ba 3 rfl ?_
   exact Dc [0,1] (d1 gb931 A928 (((x1.length:Int):Int).toNat) (((x1.length:Int):Int).toNat) h929 A923 (((x1.length:Int):Int).toNat) (((x1.length:Int):Int).toNat) h924) ⟨rfl,rfl,rfl,trivial⟩ (.cons_cons _ (.cons_cons _ (.cons_cons _ (.cons_cons _ (.slnil))))) rfl
  ·refine Et 8 rfl gn rfl (Gz [.slice none 0 0, .slice none 0 0, .slice none 0 0, .bool false] Xfe rfl fun gb932 => ?_)
   refine ⟨Bi [2] rfl,Bi [0,1] rfl,?_⟩
   refine Cm [3] (by kernel_rfl) rfl ⟨Et 3 rfl gn rfl (Rk (enc:=(eI .i64)) (z:=0) Xcp rfl (by decide) rfl rfl hb8.1 hb8.2 (by decide) hv13 rfl fun A935 h936=>?_),trivial⟩
   refine ⟨Bi [3] rfl,Bi [0,1] rfl,?_⟩
   refine wfv 7 rfl (J5 #[.slice A2 n3 c4,.slice A935 (((x1.length:Int):Int).toNat) (((x1.length:Int):Int).toNat),.slice A923 (((x1.length:Int):Int).toNat) (((x1.length:Int):Int).toNat),.bool false] Xig rfl (by kernel_rfl)) gn hns rfl ?_
   refine Cm [9] (by kernel_rfl) rfl ⟨Et 9 rfl gn rfl (Fp (vs:=[.slice A2 n3 c4,.slice A935 (((x1.length:Int):Int).toNat) (((x1.length:Int):Int).toNat),.slice A923 (((x1.length:Int):Int).toNat) (((x1.length:Int):Int).toNat),.bool false]) (cs':=[.slice A2 n3 c4,.slice A935 (((x1.length:Int):Int).toNat) (((x1.length:Int):Int).toNat),.slice A923 (((x1.length:Int):Int).toNat) (((x1.length:Int):Int).toNat),.bool false]) (M':=[.own (.slice A935 (((x1.length:Int):Int).toNat) (((x1.length:Int):Int).toNat)) 3 1 (((x1.length:Int):Int).toNat) (x12.flatMap (eI .i64)),.box gb932 92 [.slice A2 n3 c4,.slice A935 (((x1.length:Int):Int).toNat) (((x1.length:Int):Int).toNat),.slice A923 (((x1.length:Int):Int).toNat) (((x1.length:Int):Int).toNat),.bool false],.own (.slice A923 (((x1.length:Int):Int).toNat) (((x1.length:Int):Int).toNat)) 3 1 (((x1.length:Int):Int).toNat) (x17.flatMap (eI .i64)),.box gb6 92 [.slice none 0 0,.slice none 0 0,.slice none 0 0,.bool false]]) 1 Xcl rfl rfl rfl rfl rfl rfl rfl rfl rfl ?_),trivial⟩
   refine ⟨Bi [3] rfl,Bi [0,1] rfl,?_⟩
   refine E8 (by kernel_rfl)<|Ba 3 rfl<|Ba 1 rfl<|Ba 3 rfl<|Ba 3 rfl ?_
   exact Dc [0,1] (d1 gb932 A935 (((x1.length:Int):Int).toNat) (((x1.length:Int):Int).toNat) h936 A923 (((x1.length:Int):Int).toNat) (((x1.length:Int):Int).toNat) h924) ⟨rfl,rfl,rfl,trivial⟩ (.cons_cons _ (.cons_cons _ (.cons_cons _ (.cons_cons _ (.slnil))))) rfl
 ·refine Et 8 rfl gn rfl (Gz [.slice none 0 0, .slice none 0 0, .slice none 0 0, .bool false] Xfe rfl fun gb937 => ?_)
  refine ⟨Bi [1] rfl,Bi [0,1] rfl,?_⟩
  refine Cm [3,6] (by kernel_rfl) rfl ⟨?_,?_,trivial⟩
  ·refine Et 3 rfl gn rfl (Rk (enc := (eI .i64)) (z := 0) Xcp rfl (by decide) rfl rfl hb8.1 hb8.2 (by decide) hv13 rfl fun A942 h943 => ?_)
   refine ⟨Bi [2] rfl,Bi [0,1] rfl,?_⟩
   refine Cm [6] (by kernel_rfl) rfl ⟨Et 6 rfl gn rfl (Rk (enc:=(eI .i64)) (z:=0) Xcp rfl (by decide) rfl rfl hb8.1 hb8.2 (by decide) hv18 rfl fun A946 h947=>?_),trivial⟩
   refine ⟨Bi [3] rfl,Bi [0,1] rfl,?_⟩
   refine wfv 7 rfl (J5 #[.slice A2 n3 c4,.slice A942 (((x1.length:Int):Int).toNat) (((x1.length:Int):Int).toNat),.slice A946 (((x1.length:Int):Int).toNat) (((x1.length:Int):Int).toNat),.bool false] Xig rfl (by kernel_rfl)) gn hns rfl ?_
   refine Cm [9] (by kernel_rfl) rfl ⟨Et 9 rfl gn rfl (Fp (vs:=[.slice A2 n3 c4,.slice A942 (((x1.length:Int):Int).toNat) (((x1.length:Int):Int).toNat),.slice A946 (((x1.length:Int):Int).toNat) (((x1.length:Int):Int).toNat),.bool false]) (cs':=[.slice A2 n3 c4,.slice A942 (((x1.length:Int):Int).toNat) (((x1.length:Int):Int).toNat),.slice A946 (((x1.length:Int):Int).toNat) (((x1.length:Int):Int).toNat),.bool false]) (M':=[.own (.slice A946 (((x1.length:Int):Int).toNat) (((x1.length:Int):Int).toNat)) 3 1 (((x1.length:Int):Int).toNat) (x17.flatMap (eI .i64)),.own (.slice A942 (((x1.length:Int):Int).toNat) (((x1.length:Int):Int).toNat)) 3 1 (((x1.length:Int):Int).toNat) (x12.flatMap (eI .i64)),.box gb937 92 [.slice A2 n3 c4,.slice A942 (((x1.length:Int):Int).toNat) (((x1.length:Int):Int).toNat),.slice A946 (((x1.length:Int):Int).toNat) (((x1.length:Int):Int).toNat),.bool false],.box gb6 92 [.slice none 0 0,.slice none 0 0,.slice none 0 0,.bool false]]) 2 Xcl rfl rfl rfl rfl rfl rfl rfl rfl rfl ?_),trivial⟩
   refine ⟨Bi [3] rfl,Bi [0,1] rfl,?_⟩
   refine E8 (by kernel_rfl)<|Ba 3 rfl<|Ba 2 rfl<|Ba 2 rfl<|Ba 3 rfl ?_
   exact Dc [0,1] (d1 gb937 A942 (((x1.length:Int):Int).toNat) (((x1.length:Int):Int).toNat) h943 A946 (((x1.length:Int):Int).toNat) (((x1.length:Int):Int).toNat) h947) ⟨rfl,rfl,rfl,trivial⟩ (.cons_cons _ (.cons_cons _ (.cons_cons _ (.cons_cons _ (.slnil))))) rfl
  ·refine Et 6 rfl gn rfl (Rk (enc := (eI .i64)) (z := 0) Xcp rfl (by decide) rfl rfl hb8.1 hb8.2 (by decide) hv18 rfl fun A948 h949 => ?_)
   refine ⟨Bi [2] rfl,Bi [0,1] rfl,?_⟩
   refine Cm [3] (by kernel_rfl) rfl ⟨Et 3 rfl gn rfl (Rk (enc:=(eI .i64)) (z:=0) Xcp rfl (by decide) rfl rfl hb8.1 hb8.2 (by decide) hv13 rfl fun A952 h953=>?_),trivial⟩
   refine ⟨Bi [3] rfl,Bi [0,1] rfl,?_⟩
   refine wfv 7 rfl (J5 #[.slice A2 n3 c4,.slice A952 (((x1.length:Int):Int).toNat) (((x1.length:Int):Int).toNat),.slice A948 (((x1.length:Int):Int).toNat) (((x1.length:Int):Int).toNat),.bool false] Xig rfl (by kernel_rfl)) gn hns rfl ?_
   refine Cm [9] (by kernel_rfl) rfl ⟨Et 9 rfl gn rfl (Fp (vs:=[.slice A2 n3 c4,.slice A952 (((x1.length:Int):Int).toNat) (((x1.length:Int):Int).toNat),.slice A948 (((x1.length:Int):Int).toNat) (((x1.length:Int):Int).toNat),.bool false]) (cs':=[.slice A2 n3 c4,.slice A952 (((x1.length:Int):Int).toNat) (((x1.length:Int):Int).toNat),.slice A948 (((x1.length:Int):Int).toNat) (((x1.length:Int):Int).toNat),.bool false]) (M':=[.own (.slice A952 (((x1.length:Int):Int).toNat) (((x1.length:Int):Int).toNat)) 3 1 (((x1.length:Int):Int).toNat) (x12.flatMap (eI .i64)),.own (.slice A948 (((x1.length:Int):Int).toNat) (((x1.length:Int):Int).toNat)) 3 1 (((x1.length:Int):Int).toNat) (x17.flatMap (eI .i64)),.box gb937 92 [.slice A2 n3 c4,.slice A952 (((x1.length:Int):Int).toNat) (((x1.length:Int):Int).toNat),.slice A948 (((x1.length:Int):Int).toNat) (((x1.length:Int):Int).toNat),.bool false],.box gb6 92 [.slice none 0 0,.slice none 0 0,.slice none 0 0,.bool false]]) 2 Xcl rfl rfl rfl rfl rfl rfl rfl rfl rfl ?_),trivial⟩
   refine ⟨Bi [3] rfl,Bi [0,1] rfl,?_⟩
   refine E8 (by kernel_rfl)<|Ba 3 rfl<|Ba 1 rfl<|Ba 2 rfl<|Ba 3 rfl ?_
   exact Dc [0,1] (d1 gb937 A952 (((x1.length:Int):Int).toNat) (((x1.length:Int):Int).toNat) h953 A948 (((x1.length:Int):Int).toNat) (((x1.length:Int):Int).toNat) h949) ⟨rfl,rfl,rfl,trivial⟩ (.cons_cons _ (.cons_cons _ (.cons_cons _ (.cons_cons _ (.slnil))))) rfl
noncomputable abbrev q65c6:=Code.snd (Code.snd (Code.snd (Dv Tryd.f65)))
noncomputable abbrev Xic:=Code.fst (Code.fst (Code.fst (Code.snd (Code.snd (Dv Tryd.f65)))))
abbrev Sr (w:World) (F:Nat→Prop) (r:List Int):Ending→World→Prop:=fun e w'=>∃ A0:Option Addr,∃ n0:Nat,∃ c0:Nat,e=.returned (.slice A0 n0 c0)∧B.Loc w w' [.own (.slice A0 n0 c0) 3 1 n0 (r.flatMap (eI .i64))] [St w []]∧Ow w.heap.size A0 n0 c0 r
noncomputable abbrev Ph (w:World) (F:Nat→Prop) (r:List Int):Cx:=⟨Tryd.prog,65,Tryd.f65,21,Sr w F  r,w⟩
theorem Ub (w:World) (F:Nat→Prop) (x1:Fg) (x14:Int) (x15:Int) (A2:Option Addr) (n3:Nat) (c4:Nat) (A6:Option Addr) (n7:Nat) (c8:Nat) (A10:Option Addr) (n11:Nat) (c12:Nat) (h5:Rw F8 w (St w []).av A2 n3 c4 x1.nodes) (h9:Rw (G8 .i64) w (St w []).av A6 n7 c8 x1.parent) (h13:Rw (G8 .i64) w (St w []).av A10 n11 c12 x1.end_) (hF:∀ b,F b→b < w.heap.size∧∀ o ∈ ([]:List (List Nat)),b ∉ o) (hL0:B.Loc w w [] [Sm w.heap.size F w [],St w []]) (r:List Int) (h:Lc x1 x14 x15 r):Calls Tryd.prog 65 #[.agg #[.slice A2 n3 c4,.slice A6 n7 c8,.slice A10 n11 c12,.bool x1.ok],.int .i64 x14,.int .i64 x15] w (Sr w F  r):=by
 unfold Lc at h
 refine Ce (vs:=[.agg #[.slice A2 n3 c4,.slice A6 n7 c8,.slice A10 n11 c12,.bool x1.ok],.int .i64 x14,.int .i64 x15]) 21 Tryd.func65 rfl Tryd.ntmps65 rfl hL0 ?_
 show G (Ph w F r) _ _ _ _
 refine Ah rfl<|Ac rfl rfl ?_
 refine Cf 0 rfl (V5 [.slice A2 n3 c4,.slice A6 n7 c8,.slice A10 n11 c12,.bool x1.ok] rfl rfl rfl fun gb16=>?_) gn
 refine Aa 1 rfl (Af rfl) gn rfl<|Aj 2 rfl<|Ah rfl<|Ac rfl rfl<|Aa 0 rfl (Af rfl) gn rfl<|Aj 1 rfl<|Ah rfl<|Df rfl<|Io rfl ?_
 have key1:∀ s,Bl (fun (s:Int × (List Int)) o=>G5 x15 x1 s.1 s.2 o) s r→(fun (s:Int × (List Int))=>∀ (A34:Option Addr) (n35:Nat) (c36:Nat) (h37:Ow w.heap.size A34 n35 c36 s.2),G (Ph w F r) [.code Xic,.inLoop Xic,.inBlock 0,.code q65c6] [(1,.int .i64 s.1),(2,.int .i64 x15),(3,.pointer (some ⟨gb16,0,none⟩)),(7,.slice A34 n35 c36)] [.own (.slice A34 n35 c36) 3 1 n35 (s.2.flatMap (eI .i64)),.box gb16 92 [.slice A2 n3 c4,.slice A6 n7 c8,.slice A10 n11 c12,.bool x1.ok]] [Sm w.heap.size F w [],St w []]) s:=by
  intro s hs
  refine Bl.ind (mot:=(fun (s:Int × (List Int))=>∀ (A34:Option Addr) (n35:Nat) (c36:Nat) (h37:Ow w.heap.size A34 n35 c36 s.2),G (Ph w F r) [.code Xic,.inLoop Xic,.inBlock 0,.code q65c6] [(1,.int .i64 s.1),(2,.int .i64 x15),(3,.pointer (some ⟨gb16,0,none⟩)),(7,.slice A34 n35 c36)] [.own (.slice A34 n35 c36) 3 1 n35 (s.2.flatMap (eI .i64)),.box gb16 92 [.slice A2 n3 c4,.slice A6 n7 c8,.slice A10 n11 c12,.bool x1.ok]] [Sm w.heap.size F w [],St w []])) ?_ hs
  clear hs s
  intro s o1 h hO1
  obtain ⟨x32,x33⟩:=s
  show ∀ (A34:Option Addr) (n35:Nat) (c36:Nat) (h37:Ow w.heap.size A34 n35 c36 x33),G (Ph w F r) [.code Xic,.inLoop Xic,.inBlock 0,.code q65c6] [(1,.int .i64 x32),(2,.int .i64 x15),(3,.pointer (some ⟨gb16,0,none⟩)),(7,.slice A34 n35 c36)] [.own (.slice A34 n35 c36) 3 1 n35 (x33.flatMap (eI .i64)),.box gb16 92 [.slice A2 n3 c4,.slice A6 n7 c8,.slice A10 n11 c12,.bool x1.ok]] [Sm w.heap.size F w [],St w []]
  intro A34 n35 c36 h37
  have h:G5 x15 x1 x32 x33 o1:=h
  unfold G5 at h
  refine Ah rfl<|Ah rfl<|Ac rfl rfl<|Aa 0 rfl (Ad rfl) gn rfl<|Aa 1 rfl (Ad rfl) gn rfl<|Aa 2 rfl (Be rfl rfl rfl) gn rfl<|Aj 3 rfl ?_
  by_cases hp50:x32 < x15
  ·have h:=Ap hp50 h
   refine Bz rfl _ rfl ((decide_eq_true hp50))<|Cb rfl<|Ah rfl<|Df rfl<|Ac rfl rfl<|Aa 0 rfl (Ad rfl) gn rfl<|Aa 1 rfl (Ad rfl) gn rfl ?_
   refine Cf 2 rfl (Gw (xs:=([x32]:List Int)) [.int .i64 x32] Rx rfl (by kernel_rfl) rfl rfl rfl rfl fun gb52 h53=>?_) gn
   obtain ⟨x57,hv58,h⟩:=h
   obtain ⟨hb59,h⟩:=h
   refine Cf 3 rfl (L8 (zs:=x57) (cells':=x57.flatMap (eI .i64)) 1 Zg rfl rfl rfl h37 (Nat.le_refl _) (Src.ownF (hl:=(hlI .i64)) (h1:=(Ey .i64)) 0 rfl h53) (by rw [hv58,List.flatMap_append] <;> rfl) (Ff hv58 h53.hq) hb59 rfl rfl fun A54 c55 h56=>?_) gn
   refine Aa 4 rfl (Af rfl) gn rfl<|Aj 5 rfl<|D7<|Ac rfl rfl<|Aa 0 rfl (Aw Xjz rfl) gn rfl<|Aa 1 rfl (Au 2 Y0 rfl rfl rfl) gn rfl<|Aa 2 rfl (Ad rfl) gn rfl ?_
   obtain ⟨hb60,h⟩:=h
   have hr61:=Rw.readF (s:=St w []) (hl:=(hlI .i64)) (h1:=(Ey .i64)) h13 hb60
   refine Aa 3 rfl (F5 (s:=St w []) Jt rfl rfl h13 hb60) gn rfl<|Aa 4 rfl (Hq (kk:=(x32:Int).toNat * 1) (j:=0) (St w []) H9 rfl hr61 rfl (me 1 rfl)) gn rfl<|Aa 5 rfl (Af rfl) gn rfl<|Aj 6 rfl<|Dp ?_
   have ih:=Out.inl hO1 h
   exact Dc [0,1] (ih A54 (n35 + 1) c55 h56) ⟨rfl,rfl,rfl,rfl,trivial⟩ (.cons _ (.cons_cons _ (.cons_cons _ (.slnil)))) rfl
  ·have h:=Aq hp50 h
   refine Bg rfl _ rfl ((decide_eq_false hp50))<|Gp [.code q65c6] rfl rfl<|Ah rfl<|Ac rfl rfl<|Aa 0 rfl (Ad rfl) gn rfl<|Aa 1 rfl (Af rfl) gn rfl<|Aj 2 rfl ?_
   have h:=Out.inr hO1 h
   refine C9 [.slice A34 n35 c36] rfl Tryd.func65 rfl (.tmp rfl (.nil)) fun wr hLr=>?_
   have hMr:=hLr.pkI (.c 0 rfl .n) (.c 1 rfl .n) (by kernel_rfl) (.c 1 rfl .n)
   show Sr w F  r (.returned (Ci [.slice A34 n35 c36])) wr
   rw [h]
   exact ⟨A34,n35,c36,rfl,hMr,h37⟩
 refine Nr 3 1 ?_
 exact Dc [0,1] (key1 _ h none 0 0 (Ow.nil (z:=w.heap.size))) ⟨rfl,rfl,rfl,rfl,trivial⟩ (.cons_cons _ (.cons_cons _ (.slnil))) rfl
abbrev Y4 (w:World) (F:Nat→Prop) (r:List Int):Ending→World→Prop:=fun e w'=>∃ A0:Option Addr,∃ n0:Nat,∃ c0:Nat,e=.returned (.slice A0 n0 c0)∧B.Loc w w' [.own (.slice A0 n0 c0) 3 1 n0 (r.flatMap (eI .i64))] [St w []]∧Ow w.heap.size A0 n0 c0 r
noncomputable abbrev Xiw (w:World) (F:Nat→Prop) (r:List Int):Cx:=⟨Tryd.prog,63,Tryd.f63,13,Y4 w F  r,w⟩
theorem Xef (w:World) (F:Nat→Prop) (x1:List Az) (A2:Option Addr) (n3:Nat) (c4:Nat) (h5:Rw F8 w (St w []).av A2 n3 c4 x1) (hF:∀ b,F b→b < w.heap.size∧∀ o ∈ ([]:List (List Nat)),b ∉ o) (hL0:B.Loc w w [] [Sm w.heap.size F w [],St w []]) (r:List Int) (h:Yk x1 r):Calls Tryd.prog 63 #[.slice A2 n3 c4] w (Y4 w F  r):=by
 unfold Yk at h
 refine Ce (vs:=[.slice A2 n3 c4]) 13 Tryd.func63 rfl Tryd.ntmps63 rfl hL0 ?_
 show G (Xiw w F r) _ _ _ _
 refine Ah rfl<|Ac rfl rfl<|Aa 0 rfl (Af rfl) gn rfl<|Aj 1 rfl<|Ah rfl<|Ac rfl rfl<|Aa 0 rfl (Ad rfl) gn rfl ?_
 obtain ⟨r9,hv10,h⟩:=h
 refine Cf 1 rfl (D8 [.slice A2 n3 c4] rfl Tryd.func62 rfl rfl rfl fun w6 hL7=>?_) gn
 have hp8:=pmI hL7 .n .n (by kernel_rfl)
 refine Calls.mono (Ws w6 (Fl ([St w []]:List Cc)) x1 A2 n3 c4 (Rw.mono h5 (hL7.toFl (me 1 rfl) (me 0 rfl))) (hL7.hFl hp8 (Bi [1] rfl)) (hL7.into hp8 _) r9 hv10) ?_
 rintro _ w25 ⟨A15,n16,c17,A20,n21,c22,A11,n12,c13,rfl,hM26,h18,h23,h14⟩
 obtain ⟨sv29,hL27,hv28⟩:=hL7.callN (Sl:=([St w []]:List Cc)) hp8 hM26 (Bi [1] rfl)
 have h14:At F8 (sv29) A11 n12 c13 r9.nodes:=Rw.mono h14 hv28
 refine ⟨_,_,_,rfl,hL27,?_⟩
 refine Cf 2 rfl (Gz [.slice none 0 0,.slice none 0 0,.slice none 0 0,.bool false] Xfe rfl fun gb30=>?_) gn
 refine Cf 3 rfl (Fp (vs:=[.slice A11 n12 c13,.slice A15 n16 c17,.slice A20 n21 c22,.bool r9.ok]) (cs':=[.slice A11 n12 c13,.slice A15 n16 c17,.slice A20 n21 c22,.bool r9.ok]) (M':=[.box gb30 92 [.slice A11 n12 c13,.slice A15 n16 c17,.slice A20 n21 c22,.bool r9.ok],.own (.slice A15 n16 c17) 3 1 n16 (r9.parent.flatMap (eI .i64)),.own (.slice A20 n21 c22) 3 1 n21 (r9.end_.flatMap (eI .i64))]) 0 Xcl rfl rfl rfl rfl rfl rfl rfl rfl rfl ?_) gn
 refine Aj 4 rfl<|Ah rfl<|Ah rfl<|Ac rfl rfl<|Aa 0 rfl (Aw Xjx rfl) gn rfl<|Aa 1 rfl (Au 0 Xcy rfl rfl rfl) gn rfl<|Aa 2 rfl (Qv rfl) gn rfl<|Aj 3 rfl ?_
 by_cases hp32:r9.ok=true
 ·have h:=Ap hp32 h
  refine Bg rfl _ rfl ((nf hp32))<|Cb rfl<|Ah rfl<|Ac rfl rfl<|Aa 0 rfl (Nj [.slice A11 n12 c13,.slice A15 n16 c17,.slice A20 n21 c22,.bool r9.ok] 0 Xgg rfl rfl rfl rfl) gn rfl<|Aa 1 rfl (Ad rfl) gn rfl<|Aa 2 rfl (Dj Xco rfl h5.hq) gn rfl ?_
  obtain ⟨r36,hv37,h⟩:=h
  refine Cf 3 rfl (D8 [.agg #[.slice A11 n12 c13,.slice A15 n16 c17,.slice A20 n21 c22,.bool r9.ok],.int .i64 0,.int .i64 (x1.length:Int)] rfl Tryd.func65 rfl rfl rfl fun w33 hL34=>?_) gn
  have hp35:=pmI hL34 .n (.c 0 rfl (.c 1 rfl (.c 2 rfl .n))) (by kernel_rfl)
  refine Calls.mono (Ub w33 (Fl ([]:List Cc)) r9 0 (x1.length:Int) A11 n12 c13 A15 n16 c17 A20 n21 c22 (Rw.mono h14 (hL34.toSt hp35 (me 0 rfl))) (hL34.argO (dk:=(G8 .i64)) hp35 [] rfl 1 rfl rfl (Ow.weak hL7.env.size h18) (me 1 rfl) (Cells.flat _)) (hL34.argO (dk:=(G8 .i64)) hp35 [] rfl 2 rfl rfl (Ow.weak hL7.env.size h23) (me 1 rfl) (Cells.flat _)) (hL34.hFl hp35 (Bi [] rfl)) (hL34.into hp35 _) r36 hv37) ?_
  rintro _ w43 ⟨A38,n39,c40,rfl,hM44,h41⟩
  have hL45:=hL34.call hp35 hM44
  refine ⟨_,_,_,rfl,hL45,?_⟩
  refine Aa 4 rfl (Af rfl) gn rfl<|Aj 5 rfl ?_
  refine C9 [.slice A38 n39 c40] rfl Tryd.func63 rfl (.tmp rfl (.nil)) fun wr hLr=>?_
  have hMr:=hLr.pkI (.c 0 rfl .n) (.c 1 rfl (.c 2 rfl (.c 3 rfl .n))) (by kernel_rfl) (.c 2 rfl .n)
  show Y4 w F  r (.returned (Ci [.slice A38 n39 c40])) wr
  rw [h]
  exact ⟨A38,n39,c40,rfl,hMr,(Ow.weak hL34.env.size h41)⟩
 ·have h:=Aq hp32 h
  refine Bz rfl _ rfl ((nt (bf hp32)))<|Ah rfl<|Ac rfl rfl<|Aa 0 rfl (Af rfl) gn rfl<|Aj 1 rfl<|Nr 3 1 ?_
  refine C9 [.slice none 0 0] rfl Tryd.func63 rfl (.tmp rfl (.nil)) fun wr hLr=>?_
  have hMr:=hLr.pkI (.c 0 rfl .n) (.c 1 rfl (.c 2 rfl (.c 3 rfl .n))) (by kernel_rfl) (.c 2 rfl .n)
  show Y4 w F  r (.returned (Ci [.slice none 0 0])) wr
  rw [h]
  exact ⟨none,0,0,rfl,hMr,(Ow.nil (z:=w.heap.size))⟩
abbrev Y9 (w:World) (F:Nat→Prop) (r:Int):Ending→World→Prop:=fun e w'=>e=.returned (.int .i64 r)∧B.Loc w w' [] [St w []]
noncomputable abbrev Xjt (w:World) (F:Nat→Prop) (r:Int):Cx:=⟨Tryd.prog,30,Tryd.f30,10,Y9 w F  r,w⟩
theorem Xa3 (w:World) (F:Nat→Prop) (x1:List Az) (A2:Option Addr) (n3:Nat) (c4:Nat) (h5:Rw F8 w (St w []).av A2 n3 c4 x1) (hF:∀ b,F b→b < w.heap.size∧∀ o ∈ ([]:List (List Nat)),b ∉ o) (hL0:B.Loc w w [] [Sm w.heap.size F w [],St w []]) (r:Int) (h:Wy x1 r):Calls Tryd.prog 30 #[.slice A2 n3 c4] w (Y9 w F  r):=by
 unfold Wy at h
 refine Ce (vs:=[.slice A2 n3 c4]) 10 Tryd.func30 rfl Tryd.ntmps30 rfl hL0 ?_
 show G (Xjt w F r) _ _ _ _
 refine Ah rfl<|Ac rfl rfl<|Aa 0 rfl (Af rfl) gn rfl<|Aj 1 rfl<|Ah rfl<|Ah rfl<|Ac rfl rfl<|Aa 0 rfl (Ad rfl) gn rfl ?_
 obtain ⟨r9,hv10,h⟩:=h
 refine Cf 1 rfl (D8 [.slice A2 n3 c4] rfl Tryd.func62 rfl rfl rfl fun w6 hL7=>?_) gn
 have hp8:=pmI hL7 .n .n (by kernel_rfl)
 refine Calls.mono (Ws w6 (Fl ([St w []]:List Cc)) x1 A2 n3 c4 (Rw.mono h5 (hL7.toFl (me 1 rfl) (me 0 rfl))) (hL7.hFl hp8 (Bi [1] rfl)) (hL7.into hp8 _) r9 hv10) ?_
 rintro _ w25 ⟨A15,n16,c17,A20,n21,c22,A11,n12,c13,rfl,hM26,h18,h23,h14⟩
 obtain ⟨sv29,hL27,hv28⟩:=hL7.callN (Sl:=([St w []]:List Cc)) hp8 hM26 (Bi [1] rfl)
 have h14:At F8 (sv29) A11 n12 c13 r9.nodes:=Rw.mono h14 hv28
 refine ⟨_,_,_,rfl,hL27,?_⟩
 refine Aa 2 rfl (v_field1 fd_92_3 rfl rfl) gn rfl<|Aa 3 rfl (Qv rfl) gn rfl<|Aj 4 rfl ?_
 by_cases hp30:r9.ok=true
 ·have h:=Ap hp30 h
  refine Bg rfl _ rfl ((nf hp30))<|Cb rfl<|Ah rfl<|Ac rfl rfl<|Aa 0 rfl (Ad rfl) gn rfl ?_
  obtain ⟨r34,hv35,h⟩:=h
  refine Cf 1 rfl (D8 [.slice A2 n3 c4] rfl Tryd.func63 rfl rfl rfl fun w31 hL32=>?_) gn
  have hp33:=pmI hL32 .n (.c 0 rfl (.c 1 rfl .n)) (by kernel_rfl)
  refine Calls.mono (Xef w31 (Fl ([]:List Cc)) x1 A2 n3 c4 (Rw.mono h5 (hL32.toSt hp33 (me 2 rfl))) (hL32.hFl hp33 (Bi [] rfl)) (hL32.into hp33 _) r34 hv35) ?_
  rintro _ w41 ⟨A36,n37,c38,rfl,hM42,h39⟩
  have hL43:=hL32.call hp33 hM42
  refine ⟨_,_,_,rfl,hL43,?_⟩
  refine Aa 2 rfl (Dj Jc rfl (Ow.weak hL32.env.size h39).hq) gn rfl<|Aa 3 rfl (Af rfl) gn rfl<|Aj 4 rfl ?_
  refine C9 [.int .i64 (r34.length:Int)] rfl Tryd.func30 rfl (.tmp rfl (.nil)) fun wr hLr=>?_
  have hMr:=hLr.pk0 (.c 2 rfl .n)
  show Y9 w F  r (.returned (Ci [.int .i64 (r34.length:Int)])) wr
  rw [h]
  exact ⟨rfl,hMr⟩
 ·have h:=Aq hp30 h
  refine Bz rfl _ rfl ((nt (bf hp30)))<|Ah rfl<|Ac rfl rfl<|Aa 0 rfl (Af rfl) gn rfl<|Aj 1 rfl ?_
  refine C9 [.int .i64 (-1)] rfl Tryd.func30 rfl (.tmp rfl (.nil)) fun wr hLr=>?_
  have hMr:=hLr.pk0 (.c 2 rfl .n)
  show Y9 w F  r (.returned (Ci [.int .i64 (-1)])) wr
  rw [h]
  exact ⟨rfl,hMr⟩
abbrev Oy (w:World) (F:Nat→Prop) (r:Bool):Ending→World→Prop:=fun e w'=>e=.returned (.bool r)∧B.Loc w w' [] [St w []]
noncomputable abbrev Xdy (w:World) (F:Nat→Prop) (r:Bool):Cx:=⟨Tryd.prog,64,Tryd.f64,18,Oy w F  r,w⟩
theorem Xb0 (w:World) (F:Nat→Prop) (x1:Fg) (x14:Int) (A2:Option Addr) (n3:Nat) (c4:Nat) (A6:Option Addr) (n7:Nat) (c8:Nat) (A10:Option Addr) (n11:Nat) (c12:Nat) (h5:Rw F8 w (St w []).av A2 n3 c4 x1.nodes) (h9:Rw (G8 .i64) w (St w []).av A6 n7 c8 x1.parent) (h13:Rw (G8 .i64) w (St w []).av A10 n11 c12 x1.end_) (hF:∀ b,F b→b < w.heap.size∧∀ o ∈ ([]:List (List Nat)),b ∉ o) (hL0:B.Loc w w [] [Sm w.heap.size F w [],St w []]) (r:Bool) (h:Qp x1 x14 r):Calls Tryd.prog 64 #[.agg #[.slice A2 n3 c4,.slice A6 n7 c8,.slice A10 n11 c12,.bool x1.ok],.int .i64 x14] w (Oy w F  r):=by
 unfold Qp at h
 refine Ce (vs:=[.agg #[.slice A2 n3 c4,.slice A6 n7 c8,.slice A10 n11 c12,.bool x1.ok],.int .i64 x14]) 18 Tryd.func64 rfl Tryd.ntmps64 rfl hL0 ?_
 show G (Xdy w F r) _ _ _ _
 refine Ah rfl<|Ac rfl rfl ?_
 refine Cf 0 rfl (V5 [.slice A2 n3 c4,.slice A6 n7 c8,.slice A10 n11 c12,.bool x1.ok] rfl rfl rfl fun gb15=>?_) gn
 refine Aa 1 rfl (Af rfl) gn rfl<|Aj 2 rfl<|Ah rfl<|Ac rfl rfl<|Aa 0 rfl (Aw Xjx rfl) gn rfl<|Aa 1 rfl (Au 0 Xcy rfl rfl rfl) gn rfl<|Aa 2 rfl (Ad rfl) gn rfl ?_
 by_cases hp17:x1.ok=true
 ·have h:=Ap hp17 h
  refine Bv 7 rfl (hp17)<|Aa 3 rfl (Ad rfl) (gy 7 rfl rfl) rfl<|Aa 4 rfl (Be rfl rfl rfl) (gy 7 rfl rfl) rfl<|Aa 5 rfl (Bd (b:=true) rfl rfl) gn rfl<|Aa 6 rfl (Ad rfl) gn rfl ?_
  by_cases hp18:x14≥0
  ·have h:=Ap hp18 h
   refine Bv 11 rfl ((decide_eq_true hp18))<|Aa 7 rfl (Ad rfl) (gy 11 rfl rfl) rfl<|Aa 8 rfl (Aw fo_92_0 rfl) (gy 11 rfl rfl) rfl<|Aa 9 rfl (Au 0 Zz rfl rfl rfl) (gy 11 rfl rfl) rfl<|Aa 10 rfl (Dj Xco rfl h5.hq) (gy 11 rfl rfl) rfl<|Aa 11 rfl (Be rfl rfl rfl) (gy 11 rfl rfl) rfl<|Aa 12 rfl (Bd (b:=true) rfl rfl) gn rfl<|Aa 13 rfl (Af rfl) gn rfl<|Aj 14 rfl ?_
   refine C9 [.bool (decide (x14 < (x1.nodes.length:Int)))] rfl Tryd.func64 rfl (.tmp rfl (.nil)) fun wr hLr=>?_
   have hMr:=hLr.pk0 (.c 1 rfl .n)
   show Oy w F  r (.returned (Ci [.bool (decide (x14 < (x1.nodes.length:Int)))])) wr
   rw [h]
   exact ⟨rfl,hMr⟩
  ·have h:=Aq hp18 h
   refine Bv 11 rfl ((decide_eq_false hp18))<|Ae 7 rfl (ps 11 rfl rfl rfl)<|Ae 8 rfl (ps 11 rfl rfl rfl)<|Ae 9 rfl (ps 11 rfl rfl rfl)<|Ae 10 rfl (ps 11 rfl rfl rfl)<|Ae 11 rfl (ps 11 rfl rfl rfl)<|Aa 12 rfl (Bd (b:=false) rfl rfl) gn rfl<|Aa 13 rfl (Af rfl) gn rfl<|Aj 14 rfl ?_
   refine C9 [.bool false] rfl Tryd.func64 rfl (.tmp rfl (.nil)) fun wr hLr=>?_
   have hMr:=hLr.pk0 (.c 1 rfl .n)
   show Oy w F  r (.returned (Ci [.bool false])) wr
   rw [h]
   exact ⟨rfl,hMr⟩
 ·have h:=Aq hp17 h
  refine Bv 7 rfl ((bf hp17))<|Ae 3 rfl (ps 7 rfl rfl rfl)<|Ae 4 rfl (ps 7 rfl rfl rfl)<|Aa 5 rfl (Bd (b:=false) rfl rfl) gn rfl<|Aa 6 rfl (Ad rfl) gn rfl<|Ae 7 rfl (ps 11 rfl rfl rfl)<|Ae 8 rfl (ps 11 rfl rfl rfl)<|Ae 9 rfl (ps 11 rfl rfl rfl)<|Ae 10 rfl (ps 11 rfl rfl rfl)<|Ae 11 rfl (ps 11 rfl rfl rfl)<|Aa 12 rfl (Bd (b:=false) rfl rfl) gn rfl<|Aa 13 rfl (Af rfl) gn rfl ?_
  refine Aj 14 rfl ?_
  refine C9 [.bool false] rfl Tryd.func64 rfl (.tmp rfl (.nil)) fun wr hLr=>?_
  have hMr:=hLr.pk0 (.c 1 rfl .n)
  show Oy w F  r (.returned (Ci [.bool false])) wr
  rw [h]
  exact ⟨rfl,hMr⟩
noncomputable abbrev q35c11:=Code.fst (Code.snd (Code.snd (Code.snd (Dv Tryd.f35))))
abbrev Zf (w:World) (F:Nat→Prop) (r:List Int):Ending→World→Prop:=fun e w'=>∃ A0:Option Addr,∃ n0:Nat,∃ c0:Nat,e=.returned (.slice A0 n0 c0)∧B.Loc w w' [.own (.slice A0 n0 c0) 3 1 n0 (r.flatMap (eI .i64))] [St w []]∧Ow w.heap.size A0 n0 c0 r
noncomputable abbrev Xl7 (w:World) (F:Nat→Prop) (r:List Int):Cx:=⟨Tryd.prog,35,Tryd.f35,21,Zf w F  r,w⟩
theorem Ha (w:World) (F:Nat→Prop) (x1:List Az) (x6:Int) (A2:Option Addr) (n3:Nat) (c4:Nat) (h5:Rw F8 w (St w []).av A2 n3 c4 x1) (hF:∀ b,F b→b < w.heap.size∧∀ o ∈ ([]:List (List Nat)),b ∉ o) (hL0:B.Loc w w [] [Sm w.heap.size F w [],St w []]) (r:List Int) (h:Yc x1 x6 r):Calls Tryd.prog 35 #[.slice A2 n3 c4,.int .i64 x6] w (Zf w F  r):=by
 unfold Yc at h
 refine Ce (vs:=[.slice A2 n3 c4,.int .i64 x6]) 21 Tryd.func35 rfl Tryd.ntmps35 rfl hL0 ?_
 show G (Xl7 w F r) _ _ _ _
 refine Ah rfl<|Ac rfl rfl<|Aa 0 rfl (Af rfl) gn rfl<|Aj 1 rfl<|Ah rfl<|Ac rfl rfl<|Aa 0 rfl (Ad rfl) gn rfl ?_
 obtain ⟨r10,hv11,h⟩:=h
 refine Cf 1 rfl (D8 [.slice A2 n3 c4] rfl Tryd.func62 rfl rfl rfl fun w7 hL8=>?_) gn
 have hp9:=pmI hL8 .n .n (by kernel_rfl)
 refine Calls.mono (Ws w7 (Fl ([St w []]:List Cc)) x1 A2 n3 c4 (Rw.mono h5 (hL8.toFl (me 1 rfl) (me 0 rfl))) (hL8.hFl hp9 (Bi [1] rfl)) (hL8.into hp9 _) r10 hv11) ?_
 rintro _ w26 ⟨A16,n17,c18,A21,n22,c23,A12,n13,c14,rfl,hM27,h19,h24,h15⟩
 obtain ⟨sv30,hL28,hv29⟩:=hL8.callN (Sl:=([St w []]:List Cc)) hp9 hM27 (Bi [1] rfl)
 have h15:At F8 (sv30) A12 n13 c14 r10.nodes:=Rw.mono h15 hv29
 refine ⟨_,_,_,rfl,hL28,?_⟩
 refine Cf 2 rfl (Gz [.slice none 0 0,.slice none 0 0,.slice none 0 0,.bool false] Xfe rfl fun gb31=>?_) gn
 refine Cf 3 rfl (Fp (vs:=[.slice A12 n13 c14,.slice A16 n17 c18,.slice A21 n22 c23,.bool r10.ok]) (cs':=[.slice A12 n13 c14,.slice A16 n17 c18,.slice A21 n22 c23,.bool r10.ok]) (M':=[.box gb31 92 [.slice A12 n13 c14,.slice A16 n17 c18,.slice A21 n22 c23,.bool r10.ok],.own (.slice A16 n17 c18) 3 1 n17 (r10.parent.flatMap (eI .i64)),.own (.slice A21 n22 c23) 3 1 n22 (r10.end_.flatMap (eI .i64))]) 0 Xcl rfl rfl rfl rfl rfl rfl rfl rfl rfl ?_) gn
 refine Aj 4 rfl<|Ah rfl<|Ah rfl<|Ac rfl rfl<|Aa 0 rfl (Nj [.slice A12 n13 c14,.slice A16 n17 c18,.slice A21 n22 c23,.bool r10.ok] 0 Xgg rfl rfl rfl rfl) gn rfl<|Aa 1 rfl (Ad rfl) gn rfl ?_
 obtain ⟨r36,hv37,h⟩:=h
 refine Cf 2 rfl (D8 [.agg #[.slice A12 n13 c14,.slice A16 n17 c18,.slice A21 n22 c23,.bool r10.ok],.int .i64 x6] rfl Tryd.func64 rfl rfl rfl fun w33 hL34=>?_) gn
 have hp35:=pmI hL34 .n (.c 0 rfl (.c 1 rfl (.c 2 rfl .n))) (by kernel_rfl)
 refine Calls.mono (Xb0 w33 (Fl ([]:List Cc)) r10 x6 A12 n13 c14 A16 n17 c18 A21 n22 c23 (Rw.mono h15 (hL34.toSt hp35 (me 0 rfl))) (hL34.argO (dk:=(G8 .i64)) hp35 [] rfl 1 rfl rfl (Ow.weak hL8.env.size h19) (me 1 rfl) (Cells.flat _)) (hL34.argO (dk:=(G8 .i64)) hp35 [] rfl 2 rfl rfl (Ow.weak hL8.env.size h24) (me 1 rfl) (Cells.flat _)) (hL34.hFl hp35 (Bi [] rfl)) (hL34.into hp35 _) r36 hv37) ?_
 rintro _ w38 ⟨rfl,hM39⟩
 have hL40:=hL34.call hp35 hM39
 refine ⟨_,_,_,rfl,hL40,?_⟩
 refine Aa 3 rfl (Qv rfl) gn rfl<|Aj 4 rfl ?_
 by_cases hp41:r36=true
 ·have h:=Ap hp41 h
  refine Bg rfl _ rfl ((nf hp41))<|Cb rfl<|Ah rfl ?_
  obtain ⟨hb42,h⟩:=h
  obtain ⟨r46,hv47,h⟩:=h
  have hns:Region.noSelect (Code.ops q35c11)=true:=by kernel_rfl
  refine Gf [] 10 rfl rfl mix rfl (.c 0 rfl (.c 1 rfl (.c 2 rfl .n)))<|wfv 0 rfl (Nj [.slice A12 n13 c14,.slice A16 n17 c18,.slice A21 n22 c23,.bool r10.ok] 0 Xgg rfl rfl rfl rfl) gn hns rfl<|wfv 1 rfl (Ad rfl) gn hns rfl<|wfv 2 rfl (Be rfl rfl rfl) gn hns rfl<|wfv 3 rfl (Aw Xjz rfl) gn hns rfl<|wfv 4 rfl (Au 0 Y0 rfl rfl rfl) gn hns rfl<|wfv 5 rfl (Ad rfl) gn hns rfl<|wfv 6 rfl (Fj Jt rfl rfl (Ow.weak hL8.env.size h24) hb42) gn hns rfl<|wfv 7 rfl (Ut (.int .i64 (ix r10.end_ x6)) 2 H9 rfl rfl (Vq (hlI .i64) hb42 rfl)) gn hns rfl ?_
  refine Cm [8] (by kernel_rfl) rfl ⟨Et 8 rfl gn rfl (D8 [.agg #[.slice A12 n13 c14,.slice A16 n17 c18,.slice A21 n22 c23,.bool r10.ok],.int .i64 (w64 (x6 + 1)),.int .i64 (ix r10.end_ x6)] rfl Tryd.func65 rfl rfl rfl fun w86 hL87=>?_),trivial⟩
  have hp88:=pmI hL87 .n (.c 0 rfl (.c 1 rfl (.c 2 rfl .n))) (by kernel_rfl)
  refine Calls.mono (Ub w86 (Fl ([]:List Cc)) r10 (w64 (x6 + 1)) (ix r10.end_ x6) A12 n13 c14 A16 n17 c18 A21 n22 c23 (Rw.mono h15 (hL87.toSt hp88 (me 0 rfl))) (hL87.argO (dk:=(G8 .i64)) hp88 [] rfl 1 rfl rfl (Ow.weak hL8.env.size h19) (me 1 rfl) (Cells.flat _)) (hL87.argO (dk:=(G8 .i64)) hp88 [] rfl 2 rfl rfl (Ow.weak hL8.env.size h24) (me 1 rfl) (Cells.flat _)) (hL87.hFl hp88 (Bi [] rfl)) (hL87.into hp88 _) r46 hv47) ?_
  rintro _ w93 ⟨A89,n90,c91,rfl,hM94,h92⟩
  have hL95:=hL87.call hp88 hM94
  refine ⟨_,_,_,rfl,hL95,?_⟩
  refine ⟨Bi [1,2,3] rfl,Bi [0,1,2] rfl,?_⟩
  refine wfv 9 rfl (Af rfl) gn hns rfl<|E8 (by kernel_rfl) ?_
  refine C9 [.slice A89 n90 c91] rfl Tryd.func35 rfl (.tmp rfl (.nil)) fun wr hLr=>?_
  have hMr:=hLr.pkI (.c 0 rfl .n) (.c 1 rfl (.c 2 rfl (.c 3 rfl .n))) (by kernel_rfl) (.c 2 rfl .n)
  show Zf w F  r (.returned (Ci [.slice A89 n90 c91])) wr
  rw [h]
  exact ⟨A89,n90,c91,rfl,hMr,(Ow.weak hL87.env.size h92)⟩
 ·have h:=Aq hp41 h
  refine Bz rfl _ rfl ((nt (bf hp41)))<|Ah rfl<|Ac rfl rfl<|Aa 0 rfl (Af rfl) gn rfl<|Aj 1 rfl<|Nr 3 1 ?_
  refine C9 [.slice none 0 0] rfl Tryd.func35 rfl (.tmp rfl (.nil)) fun wr hLr=>?_
  have hMr:=hLr.pkI (.c 0 rfl .n) (.c 1 rfl (.c 2 rfl (.c 3 rfl .n))) (by kernel_rfl) (.c 2 rfl .n)
  show Zf w F  r (.returned (Ci [.slice none 0 0])) wr
  rw [h]
  exact ⟨none,0,0,rfl,hMr,(Ow.nil (z:=w.heap.size))⟩
noncomputable abbrev q70c4:=Code.snd (Code.snd (Dv Tryd.f70))
noncomputable abbrev q70c7:=Code.fst (Code.snd (Code.fst (Code.snd (Dv Tryd.f70))))
abbrev Pe (w:World) (F:Nat→Prop) (g2:Nat) (Tb3:Nat) (A12:Option Addr) (n13:Nat) (c14:Nat) (z16:Nat) (A20:Option Addr) (n21:Nat) (c22:Nat) (z24:Nat) (A4:Option Addr) (n5:Nat) (c6:Nat) (A8:Option Addr) (n9:Nat) (c10:Nat) (r:(List Int) × Bf):Ending→World→Prop:=fun e w'=>∃ Ar3:Option Addr,∃ nr3:Nat,∃ cr3:Nat,∃ cs3:List Value,∃ Ar4:Option Addr,∃ nr4:Nat,∃ cr4:Nat,∃ Ar0:Option Addr,∃ nr0:Nat,∃ cr0:Nat,e=.returned (.slice Ar0 nr0 cr0)∧B.Loc w w' [.box g2 Tb3 [.slice A4 n5 c6,.slice A8 n9 c10,.slice Ar3 nr3 cr3,.slice Ar4 nr4 cr4],.own (.slice Ar3 nr3 cr3) 36 1 nr3 cs3,.own (.slice Ar4 nr4 cr4) 4 1 nr4 (r.2.known.flatMap eB)] [St w [[g2],(Value.slice A12 n13 c14).ownBlock.toList,(Value.slice A20 n21 c22).ownBlock.toList]]∧Ow z16 Ar3 nr3 cr3 r.2.of∧Cells (Kd.slice (G8 .i64)) w' (Nw w w' F [.box g2 Tb3 [.slice A4 n5 c6,.slice A8 n9 c10,.slice Ar3 nr3 cr3,.slice Ar4 nr4 cr4],.own (.slice Ar3 nr3 cr3) 36 1 nr3 cs3,.own (.slice Ar4 nr4 cr4) 4 1 nr4 (r.2.known.flatMap eB)]) r.2.of cs3∧Ow z24 Ar4 nr4 cr4 r.2.known∧Rw (G8 .i64) w' (Nw w w' F [.box g2 Tb3 [.slice A4 n5 c6,.slice A8 n9 c10,.slice Ar3 nr3 cr3,.slice Ar4 nr4 cr4],.own (.slice Ar3 nr3 cr3) 36 1 nr3 cs3,.own (.slice Ar4 nr4 cr4) 4 1 nr4 (r.2.known.flatMap eB)]) Ar0 nr0 cr0 r.1
noncomputable abbrev Xi (w:World) (F:Nat→Prop) (g2:Nat) (Tb3:Nat) (A12:Option Addr) (n13:Nat) (c14:Nat) (z16:Nat) (A20:Option Addr) (n21:Nat) (c22:Nat) (z24:Nat) (A4:Option Addr) (n5:Nat) (c6:Nat) (A8:Option Addr) (n9:Nat) (c10:Nat) (r:(List Int) × Bf):Cx:=⟨Tryd.prog,70,Tryd.f70,38,Pe w F g2 Tb3 A12 n13 c14 z16 A20 n21 c22 z24 A4 n5 c6 A8 n9 c10 r,w⟩
theorem Zp (w:World) (F:Nat→Prop) (x1:Bf) (x26:Int) (g2:Nat) (Tb3:Nat) (A4:Option Addr) (n5:Nat) (c6:Nat) (A8:Option Addr) (n9:Nat) (c10:Nat) (z16:Nat) (A12:Option Addr) (n13:Nat) (c14:Nat) (cs18:List Value) (z24:Nat) (A20:Option Addr) (n21:Nat) (c22:Nat) (h7:Rw Dl w (St w [[g2],(Value.slice A12 n13 c14).ownBlock.toList,(Value.slice A20 n21 c22).ownBlock.toList]).av A4 n5 c6 x1.nodes) (h11:Rw F8 w (St w [[g2],(Value.slice A12 n13 c14).ownBlock.toList,(Value.slice A20 n21 c22).ownBlock.toList]).av A8 n9 c10 x1.tree) (hz17:z16≤w.heap.size) (h15:Ow z16 A12 n13 c14 x1.of) (hC19:Cells (Kd.slice (G8 .i64)) w F x1.of cs18) (hz25:z24≤w.heap.size) (h23:Ow z24 A20 n21 c22 x1.known) (hF:∀ b,F b→b < w.heap.size∧∀ o ∈ ([[g2],(Value.slice A12 n13 c14).ownBlock.toList,(Value.slice A20 n21 c22).ownBlock.toList]:List (List Nat)),b ∉ o) (hL0:B.Loc w w [.box g2 Tb3 [.slice A4 n5 c6,.slice A8 n9 c10,.slice A12 n13 c14,.slice A20 n21 c22],.own (.slice A12 n13 c14) 36 1 n13 cs18,.own (.slice A20 n21 c22) 4 1 n21 (x1.known.flatMap eB)] [Sm w.heap.size F w [[g2],(Value.slice A12 n13 c14).ownBlock.toList,(Value.slice A20 n21 c22).ownBlock.toList],St w [[g2],(Value.slice A12 n13 c14).ownBlock.toList,(Value.slice A20 n21 c22).ownBlock.toList]]) (r:(List Int) × Bf) (h:O6 x1 x26 r):Calls Tryd.prog 70 #[.pointer (some ⟨g2,0,none⟩),.int .i64 x26] w (Pe w F g2 Tb3 A12 n13 c14 z16 A20 n21 c22 z24 A4 n5 c6 A8 n9 c10 r):=by
 unfold O6 at h
 have hC19:=Cells.into (bs:=[[g2],(Value.slice A12 n13 c14).ownBlock.toList,(Value.slice A20 n21 c22).ownBlock.toList]) hF hC19
 refine Ce (vs:=[.pointer (some ⟨g2,0,none⟩),.int .i64 x26]) 38 Tryd.func70 rfl Tryd.ntmps70 rfl hL0 ?_
 show G (Xi w F g2 Tb3 A12 n13 c14 z16 A20 n21 c22 z24 A4 n5 c6 A8 n9 c10 r) _ _ _ _
 refine Ah rfl<|Ac rfl rfl<|Aa 0 rfl (Af rfl) gn rfl<|Aj 1 rfl<|Ah rfl<|Ah rfl<|Ac rfl rfl<|Aa 0 rfl (Ad rfl) gn rfl<|Aa 1 rfl (Bc rfl) gn rfl<|Aa 2 rfl (Aw Xn5 rfl) gn rfl<|Aa 3 rfl (Au 0 Xch rfl rfl rfl) gn rfl<|Aa 4 rfl (Ad rfl) gn rfl ?_
 obtain ⟨hb27,h⟩:=h
 refine Aa 5 rfl (Fj Wu rfl rfl h23 hb27) gn rfl<|Aa 6 rfl (Ut (.bool (ix x1.known x26)) 2 Xcy rfl rfl (Vq hlB hb27 rfl)) gn rfl<|Aa 7 rfl (Qv rfl) gn rfl<|Aj 8 rfl ?_
 by_cases hp28:(ix x1.known x26)=true
 ·have h:=Ap hp28 h
  refine Bg rfl _ rfl ((nf hp28))<|Cb rfl<|Ah rfl<|Ac rfl rfl<|Aa 0 rfl (Ad rfl) gn rfl<|Aa 1 rfl (Bc rfl) gn rfl<|Aa 2 rfl (Aw Xjk rfl) gn rfl<|Aa 3 rfl (Au 0 Xb9 rfl rfl rfl) gn rfl<|Aa 4 rfl (Ad rfl) gn rfl ?_
  obtain ⟨hb29,h⟩:=h
  obtain ⟨ce30,hK31,ht32,hg33⟩:=Cells.get hC19 hb29
  obtain ⟨A34,n35,c36,rfl,h37⟩:=hK31
  refine Aa 5 rfl (Fj Vg rfl rfl h15 hb29) gn rfl<|Aa 6 rfl (Ut (.slice A34 n35 c36) 1 Y0 rfl rfl (hg33 0 _ rfl)) gn rfl<|Aa 7 rfl (Af rfl) gn rfl<|Aj 8 rfl ?_
  refine C9 [.slice A34 n35 c36] rfl Tryd.func70 rfl (.tmp rfl (.nil)) fun wr hLr=>?_
  have hMr:=hLr.pkI (.c 0 rfl (.c 1 rfl (.c 2 rfl .n))) .n (by kernel_rfl) (.c 1 rfl .n)
  have hMi:=hLr.selI (.c 0 rfl (.c 1 rfl (.c 2 rfl .n)))
  show Pe w F g2 Tb3 A12 n13 c14 z16 A20 n21 c22 z24 A4 n5 c6 A8 n9 c10 r (.returned (Ci [.slice A34 n35 c36])) wr
  rw [h]
  exact ⟨A12,n13,c14,cs18,A20,n21,c22,A34,n35,c36,rfl,hMr,h15,(hLr.outC (s:=Sm w.heap.size F w [[g2],(Value.slice A12 n13 c14).ownBlock.toList,(Value.slice A20 n21 c22).ownBlock.toList]) hMi (me 0 rfl) Sm.ok hC19),h23,(hLr.outR (s:=Sm w.heap.size F w [[g2],(Value.slice A12 n13 c14).ownBlock.toList,(Value.slice A20 n21 c22).ownBlock.toList]) hMi (me 0 rfl) Sm.ok h37)⟩
 ·have h:=Aq hp28 h
  refine Bz rfl _ rfl ((nt (bf hp28))) ?_
  obtain ⟨r41,hv42,h⟩:=h
  obtain ⟨hb51,h⟩:=h
  obtain ⟨x66,hv67,h⟩:=h
  obtain ⟨x72,hv73,h⟩:=h
  have d1:∀ (h524:Ow z16 A12 n13 c14 x66) (cs525:List Value) (sw526:World) (sb527:List (List Nat)) (hC528:Cells (Kd.slice (G8 .i64)) (Sm w.heap.size F sw526 sb527).w (Sm w.heap.size F sw526 sb527).av x66 cs525) (h529:Ow z24 A20 n21 c22 x72),G (Xi w F g2 Tb3 A12 n13 c14 z16 A20 n21 c22 z24 A4 n5 c6 A8 n9 c10 r) [.code q70c4] [(0,.pointer (some ⟨g2,0,none⟩)),(1,.int .i64 x26)] [.box g2 Tb3 [.slice A4 n5 c6,.slice A8 n9 c10,.slice A12 n13 c14,.slice A20 n21 c22],.own (.slice A12 n13 c14) 36 1 n13 cs525,.own (.slice A20 n21 c22) 4 1 n21 (x72.flatMap eB)] [Sm w.heap.size F sw526 sb527,Sm w.heap.size F w [[g2],(Value.slice A12 n13 c14).ownBlock.toList,(Value.slice A20 n21 c22).ownBlock.toList],St w [[g2],(Value.slice A12 n13 c14).ownBlock.toList,(Value.slice A20 n21 c22).ownBlock.toList]]:=by
   intro h524 cs525 sw526 sb527 hC528 h529
   refine Ah rfl<|Ac rfl rfl<|Aa 0 rfl (Ad rfl) gn rfl<|Aa 1 rfl (Bc rfl) gn rfl<|Aa 2 rfl (Aw Xjk rfl) gn rfl<|Aa 3 rfl (Au 0 Xb9 rfl rfl rfl) gn rfl<|Aa 4 rfl (Ad rfl) gn rfl ?_
   obtain ⟨hb530,h⟩:=h
   obtain ⟨ce531,hK532,ht533,hg534⟩:=Cells.get hC528 hb530
   obtain ⟨A535,n536,c537,rfl,h538⟩:=hK532
   refine Aa 5 rfl (Fj Vg rfl rfl h524 hb530) gn rfl<|Aa 6 rfl (Ut (.slice A535 n536 c537) 1 Y0 rfl rfl (hg534 0 _ rfl)) gn rfl<|Aa 7 rfl (Af rfl) gn rfl<|Aj 8 rfl ?_
   refine C9 [.slice A535 n536 c537] rfl Tryd.func70 rfl (.tmp rfl (.nil)) fun wr hLr=>?_
   have hMr:=hLr.pkI (.c 0 rfl (.c 1 rfl (.c 2 rfl .n))) .n (by kernel_rfl) (.c 2 rfl .n)
   have hMi:=hLr.selI (.c 0 rfl (.c 1 rfl (.c 2 rfl .n)))
   show Pe w F g2 Tb3 A12 n13 c14 z16 A20 n21 c22 z24 A4 n5 c6 A8 n9 c10 r (.returned (Ci [.slice A535 n536 c537])) wr
   rw [h]
   exact ⟨A12,n13,c14,cs525,A20,n21,c22,A535,n536,c537,rfl,hMr,h524,(hLr.outC (s:=Sm w.heap.size F sw526 sb527) hMi (me 0 rfl) Sm.ok hC528),h529,(hLr.outR (s:=Sm w.heap.size F sw526 sb527) hMi (me 0 rfl) Sm.ok h538)⟩
  have hns:Region.noSelect (Code.ops q70c7)=true:=by kernel_rfl
  refine Vu [.own (.slice A20 n21 c22) 4 1 n21 (x1.known.flatMap eB)] [Sm w.heap.size F w [[g2],(Value.slice A12 n13 c14).ownBlock.toList,(Value.slice A20 n21 c22).ownBlock.toList],St w [[g2],(Value.slice A12 n13 c14).ownBlock.toList,(Value.slice A20 n21 c22).ownBlock.toList]] [19] 20 rfl rfl mix rfl (.cons _ (.cons _ (.cons_cons _ (.slnil)))) (Bi [0,1] rfl)<|wfv 0 rfl (Ad rfl) gn hns (by kernel_rfl)<|wfv 1 rfl (Bc rfl) gn hns (by kernel_rfl)<|wfv 2 rfl (Aw Xjk rfl) gn hns (by kernel_rfl)<|wfv 4 rfl (Ad rfl) gn hns (by kernel_rfl)<|wfv 5 rfl (Ad rfl) gn hns (by kernel_rfl)<|wfv 6 rfl (Bc rfl) gn hns (by kernel_rfl)<|wfv 7 rfl (Aw Xn5 rfl) gn hns (by kernel_rfl)<|wfv 9 rfl (Ad rfl) gn hns (by kernel_rfl)<|wfv 10 rfl (Ad rfl) gn hns (by kernel_rfl)<|wfv 11 rfl (Bc rfl) gn hns (by kernel_rfl)<|wfv 12 rfl (Aw Xn0 rfl) gn hns (by kernel_rfl) ?_
  refine wfv 14 rfl (Ad rfl) gn hns (by kernel_rfl) ?_
  refine Cm [3,8,13] (by kernel_rfl) rfl ⟨?_,?_,?_,trivial⟩
  ·refine Et 3 rfl gn rfl (Nk (Au 0 Xb9 rfl rfl rfl) rfl ?_)
   refine ⟨Bi [2] rfl,Bi [0,1] rfl,?_⟩
   refine Cm [8,13] (by kernel_rfl) rfl ⟨?_,?_,trivial⟩
   ·refine Et 8 rfl gn rfl (Nk (Au 0 Xch rfl rfl rfl) rfl ?_)
    refine ⟨Bi [2] rfl,Bi [0,1] rfl,?_⟩
    refine Cm [13] (by kernel_rfl) rfl ⟨Et 13 rfl gn rfl (Nk (Au 0 Zz rfl rfl rfl) rfl ?_),trivial⟩
    refine ⟨Bi [2] rfl,Bi [0,1] rfl,?_⟩
    refine Cm [15] (by kernel_rfl) rfl ⟨Et 15 rfl gn rfl (D8 [.slice A8 n9 c10,.int .i64 x26] rfl Tryd.func35 rfl rfl rfl fun w549 hL550=>?_),trivial⟩
    have hp551:=pmI hL550 .n (.c 0 rfl (.c 1 rfl (.c 2 rfl .n))) (by kernel_rfl)
    refine Calls.mono (Ha w549 (Fl ([]:List Cc)) x1.tree x26 A8 n9 c10 (Rw.mono h11 (hL550.toSt hp551 (me 1 rfl))) (hL550.hFl hp551 (Bi [] rfl)) (hL550.into hp551 _) r41 hv42) ?_
    rintro _ w556 ⟨A552,n553,c554,rfl,hM557,h555⟩
    have hL558:=hL550.call hp551 hM557
    refine ⟨_,_,_,rfl,hL558,?_⟩
    refine ⟨Bi [3] rfl,Bi [0,1] rfl,?_⟩
    obtain ⟨ce559,hK560,ht561,hg562⟩:=Cells.get hC19 hb51
    obtain ⟨A563,n564,c565,rfl,h566⟩:=hK560
    refine wfv 16 rfl (Fj Vg rfl rfl h15 hb51) gn hns (by kernel_rfl) ?_
    refine Oh (F:=F) (dk:=(G8 .i64)) (Sm w.heap.size F w [[g2],(Value.slice A12 n13 c14).ownBlock.toList,(Value.slice A20 n21 c22).ownBlock.toList]) 0 rfl (Ow.weak hL550.env.size h555) (me 0 rfl) Sm.ok (Cells.flat _) fun sw568 sb569 h567=>?_
    refine Un (F:=F) fun sw570 sb571 ho572=>?_
    obtain ⟨cs574,hc575,hC576⟩:=Cells.put (dk:=(Kd.slice (G8 .i64))) (z:=r41) (o:=0) (vs:=[.slice A552 n553 c554]) (ce':=[.slice A552 n553 c554]) (Cells.older (s:=Sm w.heap.size F w [[g2],(Value.slice A12 n13 c14).ownBlock.toList,(Value.slice A20 n21 c22).ownBlock.toList]) hC19 (ho572 _ (me 1 rfl) Sm.ok)) hb51 ht561 rfl (Nat.le_of_ble_eq_true rfl) ⟨A552,n553,c554,rfl,(Rw.older (s:=Sm w.heap.size F sw568 sb569) h567 (ho572 _ (me 0 rfl) Sm.ok))⟩
    rw [← hv67] at hC576
    refine Cm [17] (by kernel_rfl) rfl ⟨Et 17 rfl gn rfl (Xau (dk:=(Kd.slice (G8 .i64))) (o:=0) (vs:=[.slice A552 n553 c554]) (i:=x26) (ys:=x66) 1 Xa6 rfl rfl rfl rfl rfl h15 hC19 hb51 rfl hc575 rfl hv67 fun h573=>?_),trivial⟩
    refine ⟨Bi [2] rfl,Bi [2,3] rfl,?_⟩
    refine wfv 18 rfl (Fj Wu rfl rfl h23 hb27) gn hns (by kernel_rfl) ?_
    refine Cm [19] (by kernel_rfl) rfl ⟨Q7 19 rfl gn rfl (Ua (enc:=eB) (o:=0) (z:=true) (vs:=[.bool true]) (i:=x26) 2 hlB Xcx rfl rfl rfl rfl rfl h23 hb27 rfl rfl rfl hv73 fun h577=>?_),trivial⟩
    unfold NxL
    refine E8 (by kernel_rfl) ?_
    exact Dc [0,2,3] (d1 h573 cs574 sw570 sb571 hC576 h577) ⟨rfl,rfl,trivial⟩ (.cons_cons _ (.cons_cons _ (.cons_cons _ (.slnil)))) rfl
   ·refine Et 13 rfl gn rfl (Nk (Au 0 Zz rfl rfl rfl) rfl ?_)
    refine ⟨Bi [2] rfl,Bi [0,1] rfl,?_⟩
    refine Cm [8,15] (by kernel_rfl) rfl ⟨?_,?_,trivial⟩
    ·refine Et 8 rfl gn rfl (Nk (Au 0 Xch rfl rfl rfl) rfl ?_)
     refine ⟨Bi [2] rfl,Bi [0,1] rfl,?_⟩
     refine Cm [15] (by kernel_rfl) rfl ⟨Et 15 rfl gn rfl (D8 [.slice A8 n9 c10,.int .i64 x26] rfl Tryd.func35 rfl rfl rfl fun w598 hL599=>?_),trivial⟩
     have hp600:=pmI hL599 .n (.c 0 rfl (.c 1 rfl (.c 2 rfl .n))) (by kernel_rfl)
     refine Calls.mono (Ha w598 (Fl ([]:List Cc)) x1.tree x26 A8 n9 c10 (Rw.mono h11 (hL599.toSt hp600 (me 1 rfl))) (hL599.hFl hp600 (Bi [] rfl)) (hL599.into hp600 _) r41 hv42) ?_
     rintro _ w605 ⟨A601,n602,c603,rfl,hM606,h604⟩
     have hL607:=hL599.call hp600 hM606
     refine ⟨_,_,_,rfl,hL607,?_⟩
     refine ⟨Bi [3] rfl,Bi [0,1] rfl,?_⟩
     obtain ⟨ce608,hK609,ht610,hg611⟩:=Cells.get hC19 hb51
     obtain ⟨A612,n613,c614,rfl,h615⟩:=hK609
     refine wfv 16 rfl (Fj Vg rfl rfl h15 hb51) gn hns (by kernel_rfl) ?_
     refine Oh (F:=F) (dk:=(G8 .i64)) (Sm w.heap.size F w [[g2],(Value.slice A12 n13 c14).ownBlock.toList,(Value.slice A20 n21 c22).ownBlock.toList]) 0 rfl (Ow.weak hL599.env.size h604) (me 0 rfl) Sm.ok (Cells.flat _) fun sw617 sb618 h616=>?_
     refine Un (F:=F) fun sw619 sb620 ho621=>?_
     obtain ⟨cs623,hc624,hC625⟩:=Cells.put (dk:=(Kd.slice (G8 .i64))) (z:=r41) (o:=0) (vs:=[.slice A601 n602 c603]) (ce':=[.slice A601 n602 c603]) (Cells.older (s:=Sm w.heap.size F w [[g2],(Value.slice A12 n13 c14).ownBlock.toList,(Value.slice A20 n21 c22).ownBlock.toList]) hC19 (ho621 _ (me 1 rfl) Sm.ok)) hb51 ht610 rfl (Nat.le_of_ble_eq_true rfl) ⟨A601,n602,c603,rfl,(Rw.older (s:=Sm w.heap.size F sw617 sb618) h616 (ho621 _ (me 0 rfl) Sm.ok))⟩
     rw [← hv67] at hC625
     refine Cm [17] (by kernel_rfl) rfl ⟨Et 17 rfl gn rfl (Xau (dk:=(Kd.slice (G8 .i64))) (o:=0) (vs:=[.slice A601 n602 c603]) (i:=x26) (ys:=x66) 1 Xa6 rfl rfl rfl rfl rfl h15 hC19 hb51 rfl hc624 rfl hv67 fun h622=>?_),trivial⟩
     refine ⟨Bi [2] rfl,Bi [2,3] rfl,?_⟩
     refine wfv 18 rfl (Fj Wu rfl rfl h23 hb27) gn hns (by kernel_rfl) ?_
     refine Cm [19] (by kernel_rfl) rfl ⟨Q7 19 rfl gn rfl (Ua (enc:=eB) (o:=0) (z:=true) (vs:=[.bool true]) (i:=x26) 2 hlB Xcx rfl rfl rfl rfl rfl h23 hb27 rfl rfl rfl hv73 fun h626=>?_),trivial⟩
     unfold NxL
     refine E8 (by kernel_rfl) ?_
     exact Dc [0,2,3] (d1 h622 cs623 sw619 sb620 hC625 h626) ⟨rfl,rfl,trivial⟩ (.cons_cons _ (.cons_cons _ (.cons_cons _ (.slnil)))) rfl
    ·refine Et 15 rfl gn rfl (D8 [.slice A8 n9 c10, .int .i64 x26] rfl Tryd.func35 rfl rfl rfl fun w627 hL628 => ?_)
     have hp629:=pmI hL628 .n (.c 0 rfl (.c 1 rfl (.c 2 rfl .n))) (by kernel_rfl)
     refine Calls.mono (Ha w627 (Fl ([]:List Cc)) x1.tree x26 A8 n9 c10 (Rw.mono h11 (hL628.toSt hp629 (me 1 rfl))) (hL628.hFl hp629 (Bi [] rfl)) (hL628.into hp629 _) r41 hv42) ?_
     rintro _ w634 ⟨A630,n631,c632,rfl,hM635,h633⟩
     have hL636:=hL628.call hp629 hM635
     refine ⟨_,_,_,rfl,hL636,?_⟩
     refine ⟨Bi [3] rfl,Bi [0,1] rfl,?_⟩
     refine Cm [8] (by kernel_rfl) rfl ⟨Et 8 rfl gn rfl (Nk (Au 1 Xch rfl rfl rfl) rfl ?_),trivial⟩
     refine ⟨Bi [3] rfl,Bi [0,1] rfl,?_⟩
     obtain ⟨ce637,hK638,ht639,hg640⟩:=Cells.get hC19 hb51
     obtain ⟨A641,n642,c643,rfl,h644⟩:=hK638
     refine wfv 16 rfl (Fj Vg rfl rfl h15 hb51) gn hns (by kernel_rfl) ?_
     refine Oh (F:=F) (dk:=(G8 .i64)) (Sm w.heap.size F w [[g2],(Value.slice A12 n13 c14).ownBlock.toList,(Value.slice A20 n21 c22).ownBlock.toList]) 0 rfl (Ow.weak hL628.env.size h633) (me 0 rfl) Sm.ok (Cells.flat _) fun sw646 sb647 h645=>?_
     refine Un (F:=F) fun sw648 sb649 ho650=>?_
     obtain ⟨cs652,hc653,hC654⟩:=Cells.put (dk:=(Kd.slice (G8 .i64))) (z:=r41) (o:=0) (vs:=[.slice A630 n631 c632]) (ce':=[.slice A630 n631 c632]) (Cells.older (s:=Sm w.heap.size F w [[g2],(Value.slice A12 n13 c14).ownBlock.toList,(Value.slice A20 n21 c22).ownBlock.toList]) hC19 (ho650 _ (me 1 rfl) Sm.ok)) hb51 ht639 rfl (Nat.le_of_ble_eq_true rfl) ⟨A630,n631,c632,rfl,(Rw.older (s:=Sm w.heap.size F sw646 sb647) h645 (ho650 _ (me 0 rfl) Sm.ok))⟩
     rw [← hv67] at hC654
     refine Cm [17] (by kernel_rfl) rfl ⟨Et 17 rfl gn rfl (Xau (dk:=(Kd.slice (G8 .i64))) (o:=0) (vs:=[.slice A630 n631 c632]) (i:=x26) (ys:=x66) 1 Xa6 rfl rfl rfl rfl rfl h15 hC19 hb51 rfl hc653 rfl hv67 fun h651=>?_),trivial⟩
     refine ⟨Bi [2] rfl,Bi [2,3] rfl,?_⟩
     refine wfv 18 rfl (Fj Wu rfl rfl h23 hb27) gn hns (by kernel_rfl) ?_
     refine Cm [19] (by kernel_rfl) rfl ⟨Q7 19 rfl gn rfl (Ua (enc:=eB) (o:=0) (z:=true) (vs:=[.bool true]) (i:=x26) 2 hlB Xcx rfl rfl rfl rfl rfl h23 hb27 rfl rfl rfl hv73 fun h655=>?_),trivial⟩
     unfold NxL
     refine E8 (by kernel_rfl) ?_
     exact Dc [0,2,3] (d1 h651 cs652 sw648 sb649 hC654 h655) ⟨rfl,rfl,trivial⟩ (.cons_cons _ (.cons_cons _ (.cons_cons _ (.slnil)))) rfl
  ·refine Et 8 rfl gn rfl (Nk (Au 0 Xch rfl rfl rfl) rfl ?_)
   refine ⟨Bi [2] rfl,Bi [0,1] rfl,?_⟩
   refine Cm [3,13] (by kernel_rfl) rfl ⟨?_,?_,trivial⟩
   ·refine Et 3 rfl gn rfl (Nk (Au 0 Xb9 rfl rfl rfl) rfl ?_)
    refine ⟨Bi [2] rfl,Bi [0,1] rfl,?_⟩
    refine Cm [13] (by kernel_rfl) rfl ⟨Et 13 rfl gn rfl (Nk (Au 0 Zz rfl rfl rfl) rfl ?_),trivial⟩
    refine ⟨Bi [2] rfl,Bi [0,1] rfl,?_⟩
    refine Cm [15] (by kernel_rfl) rfl ⟨Et 15 rfl gn rfl (D8 [.slice A8 n9 c10,.int .i64 x26] rfl Tryd.func35 rfl rfl rfl fun w666 hL667=>?_),trivial⟩
    have hp668:=pmI hL667 .n (.c 0 rfl (.c 1 rfl (.c 2 rfl .n))) (by kernel_rfl)
    refine Calls.mono (Ha w666 (Fl ([]:List Cc)) x1.tree x26 A8 n9 c10 (Rw.mono h11 (hL667.toSt hp668 (me 1 rfl))) (hL667.hFl hp668 (Bi [] rfl)) (hL667.into hp668 _) r41 hv42) ?_
    rintro _ w673 ⟨A669,n670,c671,rfl,hM674,h672⟩
    have hL675:=hL667.call hp668 hM674
    refine ⟨_,_,_,rfl,hL675,?_⟩
    refine ⟨Bi [3] rfl,Bi [0,1] rfl,?_⟩
    obtain ⟨ce676,hK677,ht678,hg679⟩:=Cells.get hC19 hb51
    obtain ⟨A680,n681,c682,rfl,h683⟩:=hK677
    refine wfv 16 rfl (Fj Vg rfl rfl h15 hb51) gn hns (by kernel_rfl) ?_
    refine Oh (F:=F) (dk:=(G8 .i64)) (Sm w.heap.size F w [[g2],(Value.slice A12 n13 c14).ownBlock.toList,(Value.slice A20 n21 c22).ownBlock.toList]) 0 rfl (Ow.weak hL667.env.size h672) (me 0 rfl) Sm.ok (Cells.flat _) fun sw685 sb686 h684=>?_
    refine Un (F:=F) fun sw687 sb688 ho689=>?_
    obtain ⟨cs691,hc692,hC693⟩:=Cells.put (dk:=(Kd.slice (G8 .i64))) (z:=r41) (o:=0) (vs:=[.slice A669 n670 c671]) (ce':=[.slice A669 n670 c671]) (Cells.older (s:=Sm w.heap.size F w [[g2],(Value.slice A12 n13 c14).ownBlock.toList,(Value.slice A20 n21 c22).ownBlock.toList]) hC19 (ho689 _ (me 1 rfl) Sm.ok)) hb51 ht678 rfl (Nat.le_of_ble_eq_true rfl) ⟨A669,n670,c671,rfl,(Rw.older (s:=Sm w.heap.size F sw685 sb686) h684 (ho689 _ (me 0 rfl) Sm.ok))⟩
    rw [← hv67] at hC693
    refine Cm [17] (by kernel_rfl) rfl ⟨Et 17 rfl gn rfl (Xau (dk:=(Kd.slice (G8 .i64))) (o:=0) (vs:=[.slice A669 n670 c671]) (i:=x26) (ys:=x66) 1 Xa6 rfl rfl rfl rfl rfl h15 hC19 hb51 rfl hc692 rfl hv67 fun h690=>?_),trivial⟩
    refine ⟨Bi [2] rfl,Bi [2,3] rfl,?_⟩
    refine wfv 18 rfl (Fj Wu rfl rfl h23 hb27) gn hns (by kernel_rfl) ?_
    refine Cm [19] (by kernel_rfl) rfl ⟨Q7 19 rfl gn rfl (Ua (enc:=eB) (o:=0) (z:=true) (vs:=[.bool true]) (i:=x26) 2 hlB Xcx rfl rfl rfl rfl rfl h23 hb27 rfl rfl rfl hv73 fun h694=>?_),trivial⟩
    unfold NxL
    refine E8 (by kernel_rfl) ?_
    exact Dc [0,2,3] (d1 h690 cs691 sw687 sb688 hC693 h694) ⟨rfl,rfl,trivial⟩ (.cons_cons _ (.cons_cons _ (.cons_cons _ (.slnil)))) rfl
   ·refine Et 13 rfl gn rfl (Nk (Au 0 Zz rfl rfl rfl) rfl ?_)
    refine ⟨Bi [2] rfl,Bi [0,1] rfl,?_⟩
    refine Cm [3,15] (by kernel_rfl) rfl ⟨?_,?_,trivial⟩
    ·refine Et 3 rfl gn rfl (Nk (Au 0 Xb9 rfl rfl rfl) rfl ?_)
     refine ⟨Bi [2] rfl,Bi [0,1] rfl,?_⟩
     refine Cm [15] (by kernel_rfl) rfl ⟨Et 15 rfl gn rfl (D8 [.slice A8 n9 c10,.int .i64 x26] rfl Tryd.func35 rfl rfl rfl fun w715 hL716=>?_),trivial⟩
     have hp717:=pmI hL716 .n (.c 0 rfl (.c 1 rfl (.c 2 rfl .n))) (by kernel_rfl)
     refine Calls.mono (Ha w715 (Fl ([]:List Cc)) x1.tree x26 A8 n9 c10 (Rw.mono h11 (hL716.toSt hp717 (me 1 rfl))) (hL716.hFl hp717 (Bi [] rfl)) (hL716.into hp717 _) r41 hv42) ?_
     rintro _ w722 ⟨A718,n719,c720,rfl,hM723,h721⟩
     have hL724:=hL716.call hp717 hM723
     refine ⟨_,_,_,rfl,hL724,?_⟩
     refine ⟨Bi [3] rfl,Bi [0,1] rfl,?_⟩
     obtain ⟨ce725,hK726,ht727,hg728⟩:=Cells.get hC19 hb51
     obtain ⟨A729,n730,c731,rfl,h732⟩:=hK726
     refine wfv 16 rfl (Fj Vg rfl rfl h15 hb51) gn hns (by kernel_rfl) ?_
     refine Oh (F:=F) (dk:=(G8 .i64)) (Sm w.heap.size F w [[g2],(Value.slice A12 n13 c14).ownBlock.toList,(Value.slice A20 n21 c22).ownBlock.toList]) 0 rfl (Ow.weak hL716.env.size h721) (me 0 rfl) Sm.ok (Cells.flat _) fun sw734 sb735 h733=>?_
     refine Un (F:=F) fun sw736 sb737 ho738=>?_
     obtain ⟨cs740,hc741,hC742⟩:=Cells.put (dk:=(Kd.slice (G8 .i64))) (z:=r41) (o:=0) (vs:=[.slice A718 n719 c720]) (ce':=[.slice A718 n719 c720]) (Cells.older (s:=Sm w.heap.size F w [[g2],(Value.slice A12 n13 c14).ownBlock.toList,(Value.slice A20 n21 c22).ownBlock.toList]) hC19 (ho738 _ (me 1 rfl) Sm.ok)) hb51 ht727 rfl (Nat.le_of_ble_eq_true rfl) ⟨A718,n719,c720,rfl,(Rw.older (s:=Sm w.heap.size F sw734 sb735) h733 (ho738 _ (me 0 rfl) Sm.ok))⟩
     rw [← hv67] at hC742
     refine Cm [17] (by kernel_rfl) rfl ⟨Et 17 rfl gn rfl (Xau (dk:=(Kd.slice (G8 .i64))) (o:=0) (vs:=[.slice A718 n719 c720]) (i:=x26) (ys:=x66) 1 Xa6 rfl rfl rfl rfl rfl h15 hC19 hb51 rfl hc741 rfl hv67 fun h739=>?_),trivial⟩
     refine ⟨Bi [2] rfl,Bi [2,3] rfl,?_⟩
     refine wfv 18 rfl (Fj Wu rfl rfl h23 hb27) gn hns (by kernel_rfl) ?_
     refine Cm [19] (by kernel_rfl) rfl ⟨Q7 19 rfl gn rfl (Ua (enc:=eB) (o:=0) (z:=true) (vs:=[.bool true]) (i:=x26) 2 hlB Xcx rfl rfl rfl rfl rfl h23 hb27 rfl rfl rfl hv73 fun h743=>?_),trivial⟩
     unfold NxL
     refine E8 (by kernel_rfl) ?_
     exact Dc [0,2,3] (d1 h739 cs740 sw736 sb737 hC742 h743) ⟨rfl,rfl,trivial⟩ (.cons_cons _ (.cons_cons _ (.cons_cons _ (.slnil)))) rfl
    ·refine Et 15 rfl gn rfl (D8 [.slice A8 n9 c10, .int .i64 x26] rfl Tryd.func35 rfl rfl rfl fun w744 hL745 => ?_)
     have hp746:=pmI hL745 .n (.c 0 rfl (.c 1 rfl (.c 2 rfl .n))) (by kernel_rfl)
     refine Calls.mono (Ha w744 (Fl ([]:List Cc)) x1.tree x26 A8 n9 c10 (Rw.mono h11 (hL745.toSt hp746 (me 1 rfl))) (hL745.hFl hp746 (Bi [] rfl)) (hL745.into hp746 _) r41 hv42) ?_
     rintro _ w751 ⟨A747,n748,c749,rfl,hM752,h750⟩
     have hL753:=hL745.call hp746 hM752
     refine ⟨_,_,_,rfl,hL753,?_⟩
     refine ⟨Bi [3] rfl,Bi [0,1] rfl,?_⟩
     refine Cm [3] (by kernel_rfl) rfl ⟨Et 3 rfl gn rfl (Nk (Au 1 Xb9 rfl rfl rfl) rfl ?_),trivial⟩
     refine ⟨Bi [3] rfl,Bi [0,1] rfl,?_⟩
     obtain ⟨ce754,hK755,ht756,hg757⟩:=Cells.get hC19 hb51
     obtain ⟨A758,n759,c760,rfl,h761⟩:=hK755
     refine wfv 16 rfl (Fj Vg rfl rfl h15 hb51) gn hns (by kernel_rfl) ?_
     refine Oh (F:=F) (dk:=(G8 .i64)) (Sm w.heap.size F w [[g2],(Value.slice A12 n13 c14).ownBlock.toList,(Value.slice A20 n21 c22).ownBlock.toList]) 0 rfl (Ow.weak hL745.env.size h750) (me 0 rfl) Sm.ok (Cells.flat _) fun sw763 sb764 h762=>?_
     refine Un (F:=F) fun sw765 sb766 ho767=>?_
     obtain ⟨cs769,hc770,hC771⟩:=Cells.put (dk:=(Kd.slice (G8 .i64))) (z:=r41) (o:=0) (vs:=[.slice A747 n748 c749]) (ce':=[.slice A747 n748 c749]) (Cells.older (s:=Sm w.heap.size F w [[g2],(Value.slice A12 n13 c14).ownBlock.toList,(Value.slice A20 n21 c22).ownBlock.toList]) hC19 (ho767 _ (me 1 rfl) Sm.ok)) hb51 ht756 rfl (Nat.le_of_ble_eq_true rfl) ⟨A747,n748,c749,rfl,(Rw.older (s:=Sm w.heap.size F sw763 sb764) h762 (ho767 _ (me 0 rfl) Sm.ok))⟩
     rw [← hv67] at hC771
     refine Cm [17] (by kernel_rfl) rfl ⟨Et 17 rfl gn rfl (Xau (dk:=(Kd.slice (G8 .i64))) (o:=0) (vs:=[.slice A747 n748 c749]) (i:=x26) (ys:=x66) 1 Xa6 rfl rfl rfl rfl rfl h15 hC19 hb51 rfl hc770 rfl hv67 fun h768=>?_),trivial⟩
     refine ⟨Bi [2] rfl,Bi [2,3] rfl,?_⟩
     refine wfv 18 rfl (Fj Wu rfl rfl h23 hb27) gn hns (by kernel_rfl) ?_
     refine Cm [19] (by kernel_rfl) rfl ⟨Q7 19 rfl gn rfl (Ua (enc:=eB) (o:=0) (z:=true) (vs:=[.bool true]) (i:=x26) 2 hlB Xcx rfl rfl rfl rfl rfl h23 hb27 rfl rfl rfl hv73 fun h772=>?_),trivial⟩
     unfold NxL
     refine E8 (by kernel_rfl) ?_
     exact Dc [0,2,3] (d1 h768 cs769 sw765 sb766 hC771 h772) ⟨rfl,rfl,trivial⟩ (.cons_cons _ (.cons_cons _ (.cons_cons _ (.slnil)))) rfl
  ·refine Et 13 rfl gn rfl (Nk (Au 0 Zz rfl rfl rfl) rfl ?_)
   refine ⟨Bi [2] rfl,Bi [0,1] rfl,?_⟩
   refine Cm [3,8,15] (by kernel_rfl) rfl ⟨?_,?_,?_,trivial⟩
   ·refine Et 3 rfl gn rfl (Nk (Au 0 Xb9 rfl rfl rfl) rfl ?_)
    refine ⟨Bi [2] rfl,Bi [0,1] rfl,?_⟩
    refine Cm [8,15] (by kernel_rfl) rfl ⟨?_,?_,trivial⟩
    ·refine Et 8 rfl gn rfl (Nk (Au 0 Xch rfl rfl rfl) rfl ?_)
     refine ⟨Bi [2] rfl,Bi [0,1] rfl,?_⟩
     refine Cm [15] (by kernel_rfl) rfl ⟨Et 15 rfl gn rfl (D8 [.slice A8 n9 c10,.int .i64 x26] rfl Tryd.func35 rfl rfl rfl fun w803 hL804=>?_),trivial⟩
     have hp805:=pmI hL804 .n (.c 0 rfl (.c 1 rfl (.c 2 rfl .n))) (by kernel_rfl)
     refine Calls.mono (Ha w803 (Fl ([]:List Cc)) x1.tree x26 A8 n9 c10 (Rw.mono h11 (hL804.toSt hp805 (me 1 rfl))) (hL804.hFl hp805 (Bi [] rfl)) (hL804.into hp805 _) r41 hv42) ?_
     rintro _ w810 ⟨A806,n807,c808,rfl,hM811,h809⟩
     have hL812:=hL804.call hp805 hM811
     refine ⟨_,_,_,rfl,hL812,?_⟩
     refine ⟨Bi [3] rfl,Bi [0,1] rfl,?_⟩
     obtain ⟨ce813,hK814,ht815,hg816⟩:=Cells.get hC19 hb51
     obtain ⟨A817,n818,c819,rfl,h820⟩:=hK814
     refine wfv 16 rfl (Fj Vg rfl rfl h15 hb51) gn hns (by kernel_rfl) ?_
     refine Oh (F:=F) (dk:=(G8 .i64)) (Sm w.heap.size F w [[g2],(Value.slice A12 n13 c14).ownBlock.toList,(Value.slice A20 n21 c22).ownBlock.toList]) 0 rfl (Ow.weak hL804.env.size h809) (me 0 rfl) Sm.ok (Cells.flat _) fun sw822 sb823 h821=>?_
     refine Un (F:=F) fun sw824 sb825 ho826=>?_
     obtain ⟨cs828,hc829,hC830⟩:=Cells.put (dk:=(Kd.slice (G8 .i64))) (z:=r41) (o:=0) (vs:=[.slice A806 n807 c808]) (ce':=[.slice A806 n807 c808]) (Cells.older (s:=Sm w.heap.size F w [[g2],(Value.slice A12 n13 c14).ownBlock.toList,(Value.slice A20 n21 c22).ownBlock.toList]) hC19 (ho826 _ (me 1 rfl) Sm.ok)) hb51 ht815 rfl (Nat.le_of_ble_eq_true rfl) ⟨A806,n807,c808,rfl,(Rw.older (s:=Sm w.heap.size F sw822 sb823) h821 (ho826 _ (me 0 rfl) Sm.ok))⟩
     rw [← hv67] at hC830
     refine Cm [17] (by kernel_rfl) rfl ⟨Et 17 rfl gn rfl (Xau (dk:=(Kd.slice (G8 .i64))) (o:=0) (vs:=[.slice A806 n807 c808]) (i:=x26) (ys:=x66) 1 Xa6 rfl rfl rfl rfl rfl h15 hC19 hb51 rfl hc829 rfl hv67 fun h827=>?_),trivial⟩
     refine ⟨Bi [2] rfl,Bi [2,3] rfl,?_⟩
     refine wfv 18 rfl (Fj Wu rfl rfl h23 hb27) gn hns (by kernel_rfl) ?_
     refine Cm [19] (by kernel_rfl) rfl ⟨Q7 19 rfl gn rfl (Ua (enc:=eB) (o:=0) (z:=true) (vs:=[.bool true]) (i:=x26) 2 hlB Xcx rfl rfl rfl rfl rfl h23 hb27 rfl rfl rfl hv73 fun h831=>?_),trivial⟩
     unfold NxL
     refine E8 (by kernel_rfl) ?_
     exact Dc [0,2,3] (d1 h827 cs828 sw824 sb825 hC830 h831) ⟨rfl,rfl,trivial⟩ (.cons_cons _ (.cons_cons _ (.cons_cons _ (.slnil)))) rfl
    ·refine Et 15 rfl gn rfl (D8 [.slice A8 n9 c10, .int .i64 x26] rfl Tryd.func35 rfl rfl rfl fun w832 hL833 => ?_)
     have hp834:=pmI hL833 .n (.c 0 rfl (.c 1 rfl (.c 2 rfl .n))) (by kernel_rfl)
     refine Calls.mono (Ha w832 (Fl ([]:List Cc)) x1.tree x26 A8 n9 c10 (Rw.mono h11 (hL833.toSt hp834 (me 1 rfl))) (hL833.hFl hp834 (Bi [] rfl)) (hL833.into hp834 _) r41 hv42) ?_
     rintro _ w839 ⟨A835,n836,c837,rfl,hM840,h838⟩
     have hL841:=hL833.call hp834 hM840
     refine ⟨_,_,_,rfl,hL841,?_⟩
     refine ⟨Bi [3] rfl,Bi [0,1] rfl,?_⟩
     refine Cm [8] (by kernel_rfl) rfl ⟨Et 8 rfl gn rfl (Nk (Au 1 Xch rfl rfl rfl) rfl ?_),trivial⟩
     refine ⟨Bi [3] rfl,Bi [0,1] rfl,?_⟩
     obtain ⟨ce842,hK843,ht844,hg845⟩:=Cells.get hC19 hb51
     obtain ⟨A846,n847,c848,rfl,h849⟩:=hK843
     refine wfv 16 rfl (Fj Vg rfl rfl h15 hb51) gn hns (by kernel_rfl) ?_
     refine Oh (F:=F) (dk:=(G8 .i64)) (Sm w.heap.size F w [[g2],(Value.slice A12 n13 c14).ownBlock.toList,(Value.slice A20 n21 c22).ownBlock.toList]) 0 rfl (Ow.weak hL833.env.size h838) (me 0 rfl) Sm.ok (Cells.flat _) fun sw851 sb852 h850=>?_
     refine Un (F:=F) fun sw853 sb854 ho855=>?_
     obtain ⟨cs857,hc858,hC859⟩:=Cells.put (dk:=(Kd.slice (G8 .i64))) (z:=r41) (o:=0) (vs:=[.slice A835 n836 c837]) (ce':=[.slice A835 n836 c837]) (Cells.older (s:=Sm w.heap.size F w [[g2],(Value.slice A12 n13 c14).ownBlock.toList,(Value.slice A20 n21 c22).ownBlock.toList]) hC19 (ho855 _ (me 1 rfl) Sm.ok)) hb51 ht844 rfl (Nat.le_of_ble_eq_true rfl) ⟨A835,n836,c837,rfl,(Rw.older (s:=Sm w.heap.size F sw851 sb852) h850 (ho855 _ (me 0 rfl) Sm.ok))⟩
     rw [← hv67] at hC859
     refine Cm [17] (by kernel_rfl) rfl ⟨Et 17 rfl gn rfl (Xau (dk:=(Kd.slice (G8 .i64))) (o:=0) (vs:=[.slice A835 n836 c837]) (i:=x26) (ys:=x66) 1 Xa6 rfl rfl rfl rfl rfl h15 hC19 hb51 rfl hc858 rfl hv67 fun h856=>?_),trivial⟩
     refine ⟨Bi [2] rfl,Bi [2,3] rfl,?_⟩
     refine wfv 18 rfl (Fj Wu rfl rfl h23 hb27) gn hns (by kernel_rfl) ?_
     refine Cm [19] (by kernel_rfl) rfl ⟨Q7 19 rfl gn rfl (Ua (enc:=eB) (o:=0) (z:=true) (vs:=[.bool true]) (i:=x26) 2 hlB Xcx rfl rfl rfl rfl rfl h23 hb27 rfl rfl rfl hv73 fun h860=>?_),trivial⟩
     unfold NxL
     refine E8 (by kernel_rfl) ?_
     exact Dc [0,2,3] (d1 h856 cs857 sw853 sb854 hC859 h860) ⟨rfl,rfl,trivial⟩ (.cons_cons _ (.cons_cons _ (.cons_cons _ (.slnil)))) rfl
   ·refine Et 8 rfl gn rfl (Nk (Au 0 Xch rfl rfl rfl) rfl ?_)
    refine ⟨Bi [2] rfl,Bi [0,1] rfl,?_⟩
    refine Cm [3,15] (by kernel_rfl) rfl ⟨?_,?_,trivial⟩
    ·refine Et 3 rfl gn rfl (Nk (Au 0 Xb9 rfl rfl rfl) rfl ?_)
     refine ⟨Bi [2] rfl,Bi [0,1] rfl,?_⟩
     refine Cm [15] (by kernel_rfl) rfl ⟨Et 15 rfl gn rfl (D8 [.slice A8 n9 c10,.int .i64 x26] rfl Tryd.func35 rfl rfl rfl fun w881 hL882=>?_),trivial⟩
     have hp883:=pmI hL882 .n (.c 0 rfl (.c 1 rfl (.c 2 rfl .n))) (by kernel_rfl)
     refine Calls.mono (Ha w881 (Fl ([]:List Cc)) x1.tree x26 A8 n9 c10 (Rw.mono h11 (hL882.toSt hp883 (me 1 rfl))) (hL882.hFl hp883 (Bi [] rfl)) (hL882.into hp883 _) r41 hv42) ?_
     rintro _ w888 ⟨A884,n885,c886,rfl,hM889,h887⟩
     have hL890:=hL882.call hp883 hM889
     refine ⟨_,_,_,rfl,hL890,?_⟩
     refine ⟨Bi [3] rfl,Bi [0,1] rfl,?_⟩
     obtain ⟨ce891,hK892,ht893,hg894⟩:=Cells.get hC19 hb51
     obtain ⟨A895,n896,c897,rfl,h898⟩:=hK892
     refine wfv 16 rfl (Fj Vg rfl rfl h15 hb51) gn hns (by kernel_rfl) ?_
     refine Oh (F:=F) (dk:=(G8 .i64)) (Sm w.heap.size F w [[g2],(Value.slice A12 n13 c14).ownBlock.toList,(Value.slice A20 n21 c22).ownBlock.toList]) 0 rfl (Ow.weak hL882.env.size h887) (me 0 rfl) Sm.ok (Cells.flat _) fun sw900 sb901 h899=>?_
     refine Un (F:=F) fun sw902 sb903 ho904=>?_
     obtain ⟨cs906,hc907,hC908⟩:=Cells.put (dk:=(Kd.slice (G8 .i64))) (z:=r41) (o:=0) (vs:=[.slice A884 n885 c886]) (ce':=[.slice A884 n885 c886]) (Cells.older (s:=Sm w.heap.size F w [[g2],(Value.slice A12 n13 c14).ownBlock.toList,(Value.slice A20 n21 c22).ownBlock.toList]) hC19 (ho904 _ (me 1 rfl) Sm.ok)) hb51 ht893 rfl (Nat.le_of_ble_eq_true rfl) ⟨A884,n885,c886,rfl,(Rw.older (s:=Sm w.heap.size F sw900 sb901) h899 (ho904 _ (me 0 rfl) Sm.ok))⟩
     rw [← hv67] at hC908
     refine Cm [17] (by kernel_rfl) rfl ⟨Et 17 rfl gn rfl (Xau (dk:=(Kd.slice (G8 .i64))) (o:=0) (vs:=[.slice A884 n885 c886]) (i:=x26) (ys:=x66) 1 Xa6 rfl rfl rfl rfl rfl h15 hC19 hb51 rfl hc907 rfl hv67 fun h905=>?_),trivial⟩
     refine ⟨Bi [2] rfl,Bi [2,3] rfl,?_⟩
     refine wfv 18 rfl (Fj Wu rfl rfl h23 hb27) gn hns (by kernel_rfl) ?_
     refine Cm [19] (by kernel_rfl) rfl ⟨Q7 19 rfl gn rfl (Ua (enc:=eB) (o:=0) (z:=true) (vs:=[.bool true]) (i:=x26) 2 hlB Xcx rfl rfl rfl rfl rfl h23 hb27 rfl rfl rfl hv73 fun h909=>?_),trivial⟩
     unfold NxL
     refine E8 (by kernel_rfl) ?_
     exact Dc [0,2,3] (d1 h905 cs906 sw902 sb903 hC908 h909) ⟨rfl,rfl,trivial⟩ (.cons_cons _ (.cons_cons _ (.cons_cons _ (.slnil)))) rfl
    ·refine Et 15 rfl gn rfl (D8 [.slice A8 n9 c10, .int .i64 x26] rfl Tryd.func35 rfl rfl rfl fun w910 hL911 => ?_)
     have hp912:=pmI hL911 .n (.c 0 rfl (.c 1 rfl (.c 2 rfl .n))) (by kernel_rfl)
     refine Calls.mono (Ha w910 (Fl ([]:List Cc)) x1.tree x26 A8 n9 c10 (Rw.mono h11 (hL911.toSt hp912 (me 1 rfl))) (hL911.hFl hp912 (Bi [] rfl)) (hL911.into hp912 _) r41 hv42) ?_
     rintro _ w917 ⟨A913,n914,c915,rfl,hM918,h916⟩
     have hL919:=hL911.call hp912 hM918
     refine ⟨_,_,_,rfl,hL919,?_⟩
     refine ⟨Bi [3] rfl,Bi [0,1] rfl,?_⟩
     refine Cm [3] (by kernel_rfl) rfl ⟨Et 3 rfl gn rfl (Nk (Au 1 Xb9 rfl rfl rfl) rfl ?_),trivial⟩
     refine ⟨Bi [3] rfl,Bi [0,1] rfl,?_⟩
     obtain ⟨ce920,hK921,ht922,hg923⟩:=Cells.get hC19 hb51
     obtain ⟨A924,n925,c926,rfl,h927⟩:=hK921
     refine wfv 16 rfl (Fj Vg rfl rfl h15 hb51) gn hns (by kernel_rfl) ?_
     refine Oh (F:=F) (dk:=(G8 .i64)) (Sm w.heap.size F w [[g2],(Value.slice A12 n13 c14).ownBlock.toList,(Value.slice A20 n21 c22).ownBlock.toList]) 0 rfl (Ow.weak hL911.env.size h916) (me 0 rfl) Sm.ok (Cells.flat _) fun sw929 sb930 h928=>?_
     refine Un (F:=F) fun sw931 sb932 ho933=>?_
     obtain ⟨cs935,hc936,hC937⟩:=Cells.put (dk:=(Kd.slice (G8 .i64))) (z:=r41) (o:=0) (vs:=[.slice A913 n914 c915]) (ce':=[.slice A913 n914 c915]) (Cells.older (s:=Sm w.heap.size F w [[g2],(Value.slice A12 n13 c14).ownBlock.toList,(Value.slice A20 n21 c22).ownBlock.toList]) hC19 (ho933 _ (me 1 rfl) Sm.ok)) hb51 ht922 rfl (Nat.le_of_ble_eq_true rfl) ⟨A913,n914,c915,rfl,(Rw.older (s:=Sm w.heap.size F sw929 sb930) h928 (ho933 _ (me 0 rfl) Sm.ok))⟩
     rw [← hv67] at hC937
     refine Cm [17] (by kernel_rfl) rfl ⟨Et 17 rfl gn rfl (Xau (dk:=(Kd.slice (G8 .i64))) (o:=0) (vs:=[.slice A913 n914 c915]) (i:=x26) (ys:=x66) 1 Xa6 rfl rfl rfl rfl rfl h15 hC19 hb51 rfl hc936 rfl hv67 fun h934=>?_),trivial⟩
     refine ⟨Bi [2] rfl,Bi [2,3] rfl,?_⟩
     refine wfv 18 rfl (Fj Wu rfl rfl h23 hb27) gn hns (by kernel_rfl) ?_
     refine Cm [19] (by kernel_rfl) rfl ⟨Q7 19 rfl gn rfl (Ua (enc:=eB) (o:=0) (z:=true) (vs:=[.bool true]) (i:=x26) 2 hlB Xcx rfl rfl rfl rfl rfl h23 hb27 rfl rfl rfl hv73 fun h938=>?_),trivial⟩
     unfold NxL
     refine E8 (by kernel_rfl) ?_
     exact Dc [0,2,3] (d1 h934 cs935 sw931 sb932 hC937 h938) ⟨rfl,rfl,trivial⟩ (.cons_cons _ (.cons_cons _ (.cons_cons _ (.slnil)))) rfl
   ·refine Et 15 rfl gn rfl (D8 [.slice A8 n9 c10, .int .i64 x26] rfl Tryd.func35 rfl rfl rfl fun w939 hL940 => ?_)
    have hp941:=pmI hL940 .n (.c 0 rfl (.c 1 rfl (.c 2 rfl .n))) (by kernel_rfl)
    refine Calls.mono (Ha w939 (Fl ([]:List Cc)) x1.tree x26 A8 n9 c10 (Rw.mono h11 (hL940.toSt hp941 (me 1 rfl))) (hL940.hFl hp941 (Bi [] rfl)) (hL940.into hp941 _) r41 hv42) ?_
    rintro _ w946 ⟨A942,n943,c944,rfl,hM947,h945⟩
    have hL948:=hL940.call hp941 hM947
    refine ⟨_,_,_,rfl,hL948,?_⟩
    refine ⟨Bi [3] rfl,Bi [0,1] rfl,?_⟩
    refine Cm [3,8] (by kernel_rfl) rfl ⟨?_,?_,trivial⟩
    ·refine Et 3 rfl gn rfl (Nk (Au 1 Xb9 rfl rfl rfl) rfl ?_)
     refine ⟨Bi [3] rfl,Bi [0,1] rfl,?_⟩
     refine Cm [8] (by kernel_rfl) rfl ⟨Et 8 rfl gn rfl (Nk (Au 1 Xch rfl rfl rfl) rfl ?_),trivial⟩
     refine ⟨Bi [3] rfl,Bi [0,1] rfl,?_⟩
     obtain ⟨ce949,hK950,ht951,hg952⟩:=Cells.get hC19 hb51
     obtain ⟨A953,n954,c955,rfl,h956⟩:=hK950
     refine wfv 16 rfl (Fj Vg rfl rfl h15 hb51) gn hns (by kernel_rfl) ?_
     refine Oh (F:=F) (dk:=(G8 .i64)) (Sm w.heap.size F w [[g2],(Value.slice A12 n13 c14).ownBlock.toList,(Value.slice A20 n21 c22).ownBlock.toList]) 0 rfl (Ow.weak hL940.env.size h945) (me 0 rfl) Sm.ok (Cells.flat _) fun sw958 sb959 h957=>?_
     refine Un (F:=F) fun sw960 sb961 ho962=>?_
     obtain ⟨cs964,hc965,hC966⟩:=Cells.put (dk:=(Kd.slice (G8 .i64))) (z:=r41) (o:=0) (vs:=[.slice A942 n943 c944]) (ce':=[.slice A942 n943 c944]) (Cells.older (s:=Sm w.heap.size F w [[g2],(Value.slice A12 n13 c14).ownBlock.toList,(Value.slice A20 n21 c22).ownBlock.toList]) hC19 (ho962 _ (me 1 rfl) Sm.ok)) hb51 ht951 rfl (Nat.le_of_ble_eq_true rfl) ⟨A942,n943,c944,rfl,(Rw.older (s:=Sm w.heap.size F sw958 sb959) h957 (ho962 _ (me 0 rfl) Sm.ok))⟩
     rw [← hv67] at hC966
     refine Cm [17] (by kernel_rfl) rfl ⟨Et 17 rfl gn rfl (Xau (dk:=(Kd.slice (G8 .i64))) (o:=0) (vs:=[.slice A942 n943 c944]) (i:=x26) (ys:=x66) 1 Xa6 rfl rfl rfl rfl rfl h15 hC19 hb51 rfl hc965 rfl hv67 fun h963=>?_),trivial⟩
     refine ⟨Bi [2] rfl,Bi [2,3] rfl,?_⟩
     refine wfv 18 rfl (Fj Wu rfl rfl h23 hb27) gn hns (by kernel_rfl) ?_
     refine Cm [19] (by kernel_rfl) rfl ⟨Q7 19 rfl gn rfl (Ua (enc:=eB) (o:=0) (z:=true) (vs:=[.bool true]) (i:=x26) 2 hlB Xcx rfl rfl rfl rfl rfl h23 hb27 rfl rfl rfl hv73 fun h967=>?_),trivial⟩
     unfold NxL
     refine E8 (by kernel_rfl) ?_
     exact Dc [0,2,3] (d1 h963 cs964 sw960 sb961 hC966 h967) ⟨rfl,rfl,trivial⟩ (.cons_cons _ (.cons_cons _ (.cons_cons _ (.slnil)))) rfl
    ·refine Et 8 rfl gn rfl (Nk (Au 1 Xch rfl rfl rfl) rfl ?_)
     refine ⟨Bi [3] rfl,Bi [0,1] rfl,?_⟩
     refine Cm [3] (by kernel_rfl) rfl ⟨Et 3 rfl gn rfl (Nk (Au 1 Xb9 rfl rfl rfl) rfl ?_),trivial⟩
     refine ⟨Bi [3] rfl,Bi [0,1] rfl,?_⟩
     obtain ⟨ce968,hK969,ht970,hg971⟩:=Cells.get hC19 hb51
     obtain ⟨A972,n973,c974,rfl,h975⟩:=hK969
     refine wfv 16 rfl (Fj Vg rfl rfl h15 hb51) gn hns (by kernel_rfl) ?_
     refine Oh (F:=F) (dk:=(G8 .i64)) (Sm w.heap.size F w [[g2],(Value.slice A12 n13 c14).ownBlock.toList,(Value.slice A20 n21 c22).ownBlock.toList]) 0 rfl (Ow.weak hL940.env.size h945) (me 0 rfl) Sm.ok (Cells.flat _) fun sw977 sb978 h976=>?_
     refine Un (F:=F) fun sw979 sb980 ho981=>?_
     obtain ⟨cs983,hc984,hC985⟩:=Cells.put (dk:=(Kd.slice (G8 .i64))) (z:=r41) (o:=0) (vs:=[.slice A942 n943 c944]) (ce':=[.slice A942 n943 c944]) (Cells.older (s:=Sm w.heap.size F w [[g2],(Value.slice A12 n13 c14).ownBlock.toList,(Value.slice A20 n21 c22).ownBlock.toList]) hC19 (ho981 _ (me 1 rfl) Sm.ok)) hb51 ht970 rfl (Nat.le_of_ble_eq_true rfl) ⟨A942,n943,c944,rfl,(Rw.older (s:=Sm w.heap.size F sw977 sb978) h976 (ho981 _ (me 0 rfl) Sm.ok))⟩
     rw [← hv67] at hC985
     refine Cm [17] (by kernel_rfl) rfl ⟨Et 17 rfl gn rfl (Xau (dk:=(Kd.slice (G8 .i64))) (o:=0) (vs:=[.slice A942 n943 c944]) (i:=x26) (ys:=x66) 1 Xa6 rfl rfl rfl rfl rfl h15 hC19 hb51 rfl hc984 rfl hv67 fun h982=>?_),trivial⟩
     refine ⟨Bi [2] rfl,Bi [2,3] rfl,?_⟩
     refine wfv 18 rfl (Fj Wu rfl rfl h23 hb27) gn hns (by kernel_rfl) ?_
     refine Cm [19] (by kernel_rfl) rfl ⟨Q7 19 rfl gn rfl (Ua (enc:=eB) (o:=0) (z:=true) (vs:=[.bool true]) (i:=x26) 2 hlB Xcx rfl rfl rfl rfl rfl h23 hb27 rfl rfl rfl hv73 fun h986=>?_),trivial⟩
     unfold NxL
     refine E8 (by kernel_rfl) ?_
     exact Dc [0,2,3] (d1 h982 cs983 sw979 sb980 hC985 h986) ⟨rfl,rfl,trivial⟩ (.cons_cons _ (.cons_cons _ (.cons_cons _ (.slnil)))) rfl
end Go.Proofs.YtjookebbmfiidaaDoor.K
