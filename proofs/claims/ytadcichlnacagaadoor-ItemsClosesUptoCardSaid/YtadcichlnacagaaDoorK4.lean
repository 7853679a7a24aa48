/- What the machine's calls do, function by function, printed by my own tool. Condition of each: its relation holds of the answer, and what is handed in lies in memory as told. -/
import Derived.Test.YtadcichlnacagaaDoorK3
set_option linter.unusedVariables false
set_option maxRecDepth 100000
set_option maxHeartbeats 4000000
namespace Go.Proofs.YtadcichlnacagaaDoor.K
open Go.Proofs.YtadcichlnacagaaDoor.B Go.Proofs.YtadcichlnacagaaDoor.R Go.RowKit
noncomputable abbrev q36c6:=Code.snd (Code.snd (Code.snd (Yvq Tryd.f36)))
noncomputable abbrev q36c8:=Code.snd (Code.fst (Code.snd (Code.snd (Yvq Tryd.f36))))
noncomputable abbrev Zia:=Code.snd q36c6
noncomputable abbrev Zf0:=Code.fst (Code.fst (Code.snd (Code.fst q36c6)))
noncomputable abbrev Znq:=Code.snd (Code.snd (Code.snd Zf0))
noncomputable abbrev q36c31:=Code.snd (Code.snd (Code.fst (Code.fst (Code.snd (Code.snd Zf0)))))
noncomputable abbrev q36c33:=Code.snd (Code.fst (Code.snd (Code.fst (Code.fst (Code.snd (Code.snd Zf0))))))
noncomputable abbrev Zm9:=Code.fst (Code.fst (Code.snd q36c31))
abbrev Za6 (w:World) (F:Nat→Prop) (r:Bool):Ending→World→Prop:=fun e w'=>e=.returned (.bool r)∧B.Loc w w' [] [St w []]
noncomputable abbrev Za8 (w:World) (F:Nat→Prop) (r:Bool):Cx:=⟨Tryd.prog,36,Tryd.f36,97,Za6 w F  r,w⟩
theorem Zh3 (w:World) (F:Nat→Prop) (x1:Yu5) (A2:Option Addr) (n3:Nat) (c4:Nat) (A6:Option Addr) (n7:Nat) (c8:Nat) (A10:Option Addr) (n11:Nat) (c12:Nat) (h5:Rw Yuj w (St w []).av A2 n3 c4 x1.terms) (h9:Rw Yuq w (St w []).av A6 n7 c8 x1.syms) (h13:Rw Yun w (St w []).av A10 n11 c12 x1.prods) (hF:∀ b,F b→b < w.heap.size∧∀ o ∈ ([]:List (List Nat)),b ∉ o) (hL0:B.Loc w w [] [Sm w.heap.size F w [],St w []]) (r:Bool) (h:Zer x1 r):Calls Tryd.prog 36 #[.agg #[.slice A2 n3 c4,.slice A6 n7 c8,.slice A10 n11 c12]] w (Za6 w F  r):=by
 unfold Zer at h
 refine Yv5 (vs:=[.agg #[.slice A2 n3 c4,.slice A6 n7 c8,.slice A10 n11 c12]]) 97 Tryd.func36 rfl Tryd.ntmps36 rfl hL0 ?_
 show G (Za8 w F r) _ _ _ _
 refine Yu9 rfl<|Yu4 rfl rfl ?_
 refine Yve 0 rfl (Zas [.slice A2 n3 c4,.slice A6 n7 c8,.slice A10 n11 c12] rfl rfl rfl fun gb14=>?_) gn
 refine Yu2 1 rfl (Yu7 rfl) gn rfl<|Yua 2 rfl<|Yu9 rfl<|Yu4 rfl rfl<|Yu2 0 rfl (Yub Yw7 rfl) gn rfl<|Yu2 1 rfl (Yue 0 Yz4 rfl rfl rfl) gn rfl<|Yu2 2 rfl (Yuo Yze rfl h5.hq) gn rfl<|Yu2 3 rfl (Yu7 rfl) gn rfl<|Yua 4 rfl<|Yu9 rfl<|Yu9 rfl ?_
 have j1:∀ (x20:Bool) (h:Zae x1 x20 r) ,G (Za8 w F r) [.code q36c8,.code q36c6] [(1,.pointer (some ⟨gb14,0,none⟩)),(3,.int .i64 (x1.terms.length:Int)),(29,.bool x20)] [.box gb14 26 [.slice A2 n3 c4,.slice A6 n7 c8,.slice A10 n11 c12]] [Sm w.heap.size F w [],St w []]:=by
  intro x20 h
  unfold Zae at h
  by_cases hp21:x20=true
  ·have h:=Yul hp21 h
   refine Yv4 rfl _ rfl (hp21)<|Yu9 rfl<|Yu4 rfl rfl<|Yu2 0 rfl (Yu7 rfl) gn rfl<|Yua 1 rfl ?_
   refine Yvb [.bool false] rfl Tryd.func36 rfl (.tmp rfl (.nil)) fun wr hLr=>?_
   have hMr:=hLr.pk0 (.c 1 rfl .n)
   show Za6 w F  r (.returned (Yvl [.bool false])) wr
   rw [h]
   exact ⟨rfl,hMr⟩
  ·have h:=Yum hp21 h
   refine Yur rfl _ rfl ((bf hp21))<|Yv2 rfl<|Yu9 rfl<|Yu9 rfl<|Yu4 rfl rfl<|Yu2 0 rfl (Yub Yvf rfl) gn rfl<|Yu2 1 rfl (Yue 0 Ywb rfl rfl rfl) gn rfl<|Yu2 2 rfl (Yuo Za3 rfl h13.hq) gn rfl<|Yu2 3 rfl (Yu3 rfl) gn rfl<|Yua 4 rfl<|Yuw rfl<|Ywm rfl ?_
   have key2:∀ s,Yui (fun (s:Int) o=>Zaa x1 s o) s r→(fun (s:Int)=>∀ (_:Unit),G (Za8 w F r) [.code Zf0,.inLoop Zf0,.inBlock 0,.code Zia] [(1,.pointer (some ⟨gb14,0,none⟩)),(3,.int .i64 (x1.terms.length:Int)),(31,.slice A10 n11 c12),(32,.int .i64 (x1.prods.length:Int)),(33,.int .i64 s)] [.box gb14 26 [.slice A2 n3 c4,.slice A6 n7 c8,.slice A10 n11 c12]] [Sm w.heap.size F w [],St w []]) s:=by
    intro s hs
    refine Yui.ind (mot:=(fun (s:Int)=>∀ (_:Unit),G (Za8 w F r) [.code Zf0,.inLoop Zf0,.inBlock 0,.code Zia] [(1,.pointer (some ⟨gb14,0,none⟩)),(3,.int .i64 (x1.terms.length:Int)),(31,.slice A10 n11 c12),(32,.int .i64 (x1.prods.length:Int)),(33,.int .i64 s)] [.box gb14 26 [.slice A2 n3 c4,.slice A6 n7 c8,.slice A10 n11 c12]] [Sm w.heap.size F w [],St w []])) ?_ hs
    clear hs s
    intro x71 o1 h hO1
    show ∀ (_:Unit),G (Za8 w F r) [.code Zf0,.inLoop Zf0,.inBlock 0,.code Zia] [(1,.pointer (some ⟨gb14,0,none⟩)),(3,.int .i64 (x1.terms.length:Int)),(31,.slice A10 n11 c12),(32,.int .i64 (x1.prods.length:Int)),(33,.int .i64 x71)] [.box gb14 26 [.slice A2 n3 c4,.slice A6 n7 c8,.slice A10 n11 c12]] [Sm w.heap.size F w [],St w []]
    intro _
    have h:Zaa x1 x71 o1:=h
    unfold Zaa at h
    refine Yu9 rfl<|Yu4 rfl rfl<|Yu2 0 rfl (Yug rfl rfl rfl) gn rfl<|Yua 1 rfl<|Yu9 rfl ?_
    by_cases hp127:x71 < (x1.prods.length:Int)
    ·have h:=Yul hp127 h
     refine Yv4 rfl _ rfl ((decide_eq_true hp127))<|Yv2 rfl<|Yu9 rfl<|Yuw rfl<|Yu9 rfl<|Yu4 rfl rfl<|Yu2 0 rfl (Yu3 rfl) gn rfl ?_
     obtain ⟨hb128,h⟩:=h
     obtain ⟨ce130,hK131,hr129⟩:=Rw.read (s:=St w []) h13 hb128
     obtain ⟨A132,n133,c134,rfl,h135⟩:=hK131
     refine Yu2 1 rfl (Yv7 (s:=St w []) Yxh rfl rfl h13 hb128) gn rfl<|Yu2 2 rfl (Zdb (St w []) Zko rfl hr129 rfl (me 1 rfl)) gn rfl ?_
     refine Yve 3 rfl (Yye [.int .i64 0,.slice none 0 0] Zl0 rfl fun gb136=>?_) gn
     refine Yu2 4 rfl (Yu7 rfl) gn rfl ?_
     refine Yve 5 rfl (Za4 (vs:=[.int .i64 ((ix x1.prods x71).lhs),.slice A132 n133 c134]) (cs':=[.int .i64 ((ix x1.prods x71).lhs),.slice A132 n133 c134]) (M':=[.box gb136 63 [.int .i64 ((ix x1.prods x71).lhs),.slice A132 n133 c134],.box gb14 26 [.slice A2 n3 c4,.slice A6 n7 c8,.slice A10 n11 c12]]) 0 Zkw rfl rfl rfl rfl rfl rfl rfl rfl rfl ?_) gn
     refine Yua 6 rfl<|Yu9 rfl<|Yu9 rfl ?_
     have j3:∀ (x141:Bool) (h:Yyl x1 x71 x141 o1) ,G (Za8 w F r) [.code q36c33,.code q36c31,.inBlock 1,.code Znq,.inLoop Zf0,.inBlock 0,.code Zia] [(1,.pointer (some ⟨gb14,0,none⟩)),(3,.int .i64 (x1.terms.length:Int)),(5,.pointer (some ⟨gb136,0,none⟩)),(31,.slice A10 n11 c12),(32,.int .i64 (x1.prods.length:Int)),(33,.int .i64 x71),(52,.bool x141)] [.box gb136 63 [.int .i64 ((ix x1.prods x71).lhs),.slice A132 n133 c134],.box gb14 26 [.slice A2 n3 c4,.slice A6 n7 c8,.slice A10 n11 c12]] [Sm w.heap.size F w [],St w []]:=by
      intro x141 h
      unfold Yyl at h
      by_cases hp142:x141=true
      ·have h:=Yul hp142 h
       refine Yv4 rfl _ rfl (hp142)<|Yu9 rfl<|Yu4 rfl rfl<|Yu2 0 rfl (Yu7 rfl) gn rfl<|Yua 1 rfl ?_
       have h:=Out.inr hO1 h
       refine Yvb [.bool false] rfl Tryd.func36 rfl (.tmp rfl (.nil)) fun wr hLr=>?_
       have hMr:=hLr.pk0 (.c 1 rfl .n)
       show Za6 w F  r (.returned (Yvl [.bool false])) wr
       rw [h]
       exact ⟨rfl,hMr⟩
      ·have h:=Yum hp142 h
       refine Yur rfl _ rfl ((bf hp142))<|Yv2 rfl<|Yu9 rfl<|Yu4 rfl rfl<|Yu2 0 rfl (Yub Yw1 rfl) gn rfl<|Yu2 1 rfl (Yue 0 Yyc rfl rfl rfl) gn rfl<|Yu2 2 rfl (Yuo Za5 rfl h135.hq) gn rfl<|Yu2 3 rfl (Yu3 rfl) gn rfl<|Yua 4 rfl<|Yuw rfl<|Ywm rfl ?_
       have key4:∀ s,Yui (fun (s:Int) o=>Zc7 x1 x71 s o) s o1→(fun (s:Int)=>∀ (_:Unit),G (Za8 w F r) [.code Zm9,.inLoop Zm9,.inBlock 2,.inBlock 1,.code Znq,.inLoop Zf0,.inBlock 0,.code Zia] [(1,.pointer (some ⟨gb14,0,none⟩)),(3,.int .i64 (x1.terms.length:Int)),(31,.slice A10 n11 c12),(32,.int .i64 (x1.prods.length:Int)),(33,.int .i64 x71),(54,.slice A132 n133 c134),(55,.int .i64 (((ix x1.prods x71).rhs).length:Int)),(56,.int .i64 s)] [.box gb14 26 [.slice A2 n3 c4,.slice A6 n7 c8,.slice A10 n11 c12]] [Sm w.heap.size F w [],St w []]) s:=by
        intro s hs
        refine Yui.ind (mot:=(fun (s:Int)=>∀ (_:Unit),G (Za8 w F r) [.code Zm9,.inLoop Zm9,.inBlock 2,.inBlock 1,.code Znq,.inLoop Zf0,.inBlock 0,.code Zia] [(1,.pointer (some ⟨gb14,0,none⟩)),(3,.int .i64 (x1.terms.length:Int)),(31,.slice A10 n11 c12),(32,.int .i64 (x1.prods.length:Int)),(33,.int .i64 x71),(54,.slice A132 n133 c134),(55,.int .i64 (((ix x1.prods x71).rhs).length:Int)),(56,.int .i64 s)] [.box gb14 26 [.slice A2 n3 c4,.slice A6 n7 c8,.slice A10 n11 c12]] [Sm w.heap.size F w [],St w []])) ?_ hs
        clear hs s
        intro x151 o2 h hO2
        show ∀ (_:Unit),G (Za8 w F r) [.code Zm9,.inLoop Zm9,.inBlock 2,.inBlock 1,.code Znq,.inLoop Zf0,.inBlock 0,.code Zia] [(1,.pointer (some ⟨gb14,0,none⟩)),(3,.int .i64 (x1.terms.length:Int)),(31,.slice A10 n11 c12),(32,.int .i64 (x1.prods.length:Int)),(33,.int .i64 x71),(54,.slice A132 n133 c134),(55,.int .i64 (((ix x1.prods x71).rhs).length:Int)),(56,.int .i64 x151)] [.box gb14 26 [.slice A2 n3 c4,.slice A6 n7 c8,.slice A10 n11 c12]] [Sm w.heap.size F w [],St w []]
        intro _
        have h:Zc7 x1 x71 x151 o2:=h
        unfold Zc7 at h
        refine Yu9 rfl<|Yu4 rfl rfl<|Yu2 0 rfl (Yug rfl rfl rfl) gn rfl<|Yua 1 rfl<|Yu9 rfl ?_
        by_cases hp159:x151 < (((ix x1.prods x71).rhs).length:Int)
        ·have h:=Yul hp159 h
         refine Yv4 rfl _ rfl ((decide_eq_true hp159))<|Yv2 rfl<|Yu9 rfl<|Yuw rfl<|Yu9 rfl<|Yu4 rfl rfl ?_
         obtain ⟨hb160,h⟩:=h
         have hr161:=Rw.readF (s:=St w []) (hl:=Yvw) (h1:=Yvy) h135 hb160
         refine Yu2 0 rfl (Yv7 (s:=St w []) Yz5 rfl rfl h135 hb160) gn rfl<|Yu2 1 rfl (Zdb (St w []) Zot rfl hr161 rfl (me 1 rfl)) gn rfl ?_
         refine Yve 2 rfl (Yye [.int .i64 0,.string (⟨#[]⟩:ByteArray),.string (⟨#[]⟩:ByteArray)] zr_65 rfl fun gb162=>?_) gn
         refine Yve 3 rfl (Za4 (vs:=[.int .i64 ((ix ((ix x1.prods x71).rhs) x151).sym),.string ((ix ((ix x1.prods x71).rhs) x151).field),.string ((ix ((ix x1.prods x71).rhs) x151).as)]) (cs':=[.int .i64 ((ix ((ix x1.prods x71).rhs) x151).sym),.string ((ix ((ix x1.prods x71).rhs) x151).field),.string ((ix ((ix x1.prods x71).rhs) x151).as)]) (M':=[.box gb162 65 [.int .i64 ((ix ((ix x1.prods x71).rhs) x151).sym),.string ((ix ((ix x1.prods x71).rhs) x151).field),.string ((ix ((ix x1.prods x71).rhs) x151).as)],.box gb14 26 [.slice A2 n3 c4,.slice A6 n7 c8,.slice A10 n11 c12]]) 0 sz_65 rfl rfl rfl rfl rfl rfl rfl rfl rfl ?_) gn
         refine Yua 4 rfl<|Yu9 rfl<|Yu4 rfl rfl<|Yu2 0 rfl (Yub Yyd rfl) gn rfl<|Yu2 1 rfl (Yue 0 Yvt rfl rfl rfl) gn rfl<|Yu2 2 rfl (Yug rfl rfl rfl) gn rfl<|Yu2 3 rfl (Yu3 rfl) gn rfl ?_
         by_cases hp164:(ix ((ix x1.prods x71).rhs) x151).sym < 1
         ·have h:=Yul hp164 h
          refine Yvi 63 rfl ((decide_eq_true hp164))<|Yu6 4 rfl (ps 63 rfl rfl rfl)<|Yu6 5 rfl (ps 63 rfl rfl rfl)<|Yu6 6 rfl (ps 63 rfl rfl rfl)<|Yu6 7 rfl (ps 63 rfl rfl rfl)<|Yu6 8 rfl (ps 63 rfl rfl rfl)<|Yu6 9 rfl (ps 63 rfl rfl rfl)<|Yu6 10 rfl (ps 63 rfl rfl rfl)<|Yu6 11 rfl (ps 63 rfl rfl rfl)<|Yu2 12 rfl (Yuk (b:=true) rfl rfl) gn rfl<|Yua 13 rfl<|Yv4 rfl _ rfl (rfl) ?_
          refine Yu9 rfl<|Yu4 rfl rfl<|Yu2 0 rfl (Yu7 rfl) gn rfl<|Yua 1 rfl ?_
          have h:=Out.inr hO2 h
          have h:=Out.inr hO1 h
          refine Yvb [.bool false] rfl Tryd.func36 rfl (.tmp rfl (.nil)) fun wr hLr=>?_
          have hMr:=hLr.pk0 (.c 1 rfl .n)
          show Za6 w F  r (.returned (Yvl [.bool false])) wr
          rw [h]
          exact ⟨rfl,hMr⟩
         ·have h:=Yum hp164 h
          refine Yvi 63 rfl ((decide_eq_false hp164))<|Yu2 4 rfl (Yub Yyd rfl) (gy 63 rfl rfl) rfl<|Yu2 5 rfl (Yue 0 Yvt rfl rfl rfl) (gy 63 rfl rfl) rfl<|Yu2 6 rfl (Yu3 rfl) (gy 63 rfl rfl) rfl<|Yu2 7 rfl (Yub Yxd rfl) (gy 63 rfl rfl) rfl<|Yu2 8 rfl (Yue 1 Zak rfl rfl rfl) (gy 63 rfl rfl) rfl<|Yu2 9 rfl (Yuo Zbm rfl h9.hq) (gy 63 rfl rfl) rfl<|Yu2 10 rfl (Yug rfl rfl rfl) (gy 63 rfl rfl) rfl<|Yu2 11 rfl (Yug rfl rfl rfl) (gy 63 rfl rfl) rfl<|Yu2 12 rfl (Yuk (b:=false) rfl rfl) gn rfl<|Yua 13 rfl ?_
          by_cases hp165:(ix ((ix x1.prods x71).rhs) x151).sym≥w64 ((x1.terms.length:Int) + (x1.syms.length:Int))
          ·have h:=Yul hp165 h
           refine Yv4 rfl _ rfl ((decide_eq_true hp165))<|Yu9 rfl<|Yu4 rfl rfl<|Yu2 0 rfl (Yu7 rfl) gn rfl<|Yua 1 rfl ?_
           have h:=Out.inr hO2 h
           have h:=Out.inr hO1 h
           refine Yvb [.bool false] rfl Tryd.func36 rfl (.tmp rfl (.nil)) fun wr hLr=>?_
           have hMr:=hLr.pk0 (.c 1 rfl .n)
           show Za6 w F  r (.returned (Yvl [.bool false])) wr
           rw [h]
           exact ⟨rfl,hMr⟩
          ·have h:=Yum hp165 h
           refine Yur rfl _ rfl ((decide_eq_false hp165))<|Yv2 rfl<|Yux<|Yu4 rfl rfl<|Yu2 0 rfl (Yug rfl rfl rfl) gn rfl<|Yu2 1 rfl (Yu3 rfl) gn rfl<|Yua 2 rfl<|Yv1 ?_
           have ih:=Out.inl hO2 h
           exact Yvh [0,1] (ih ()) ⟨rfl,rfl,rfl,rfl,rfl,rfl,rfl,rfl,trivial⟩ (.cons _ (.cons_cons _ (.slnil))) rfl
        ·have h:=Yum hp159 h
         refine Yur rfl _ rfl ((decide_eq_false hp159))<|Ywa [.inBlock 1,.code Znq,.inLoop Zf0,.inBlock 0,.code Zia] rfl rfl<|Yux<|Yu4 rfl rfl<|Yu2 0 rfl (Yug rfl rfl rfl) gn rfl<|Yu2 1 rfl (Yu3 rfl) gn rfl<|Yua 2 rfl<|Yv1 ?_
         have h:=Out.inr hO2 h
         have ih:=Out.inl hO1 h
         exact Yvh [0,1] (ih ()) ⟨rfl,rfl,rfl,rfl,rfl,trivial⟩ (.cons_cons _ (.slnil)) rfl
       exact Yvh [0,1] (key4 _ h ()) ⟨rfl,rfl,rfl,rfl,rfl,rfl,rfl,rfl,trivial⟩ (.cons _ (.cons_cons _ (.slnil))) rfl
     refine Yu4 rfl rfl<|Yu2 0 rfl (Yu3 rfl) gn rfl<|Yu2 1 rfl (Yug rfl rfl rfl) gn rfl<|Yu2 2 rfl (Yu3 rfl) gn rfl ?_
     by_cases hp166:x71 > 0
     ·have h:=Yul hp166 h
      refine Yvi 40 rfl ((decide_eq_true hp166))<|Yu2 3 rfl (Yub Yx3 rfl) (gy 40 rfl rfl) rfl<|Yu2 4 rfl (Yue 0 Yvt rfl rfl rfl) (gy 40 rfl rfl) rfl<|Yu2 5 rfl (Yug rfl rfl rfl) (gy 40 rfl rfl) rfl<|Yu2 6 rfl (Yu3 rfl) (gy 40 rfl rfl) rfl ?_
      by_cases hp167:(ix x1.prods x71).lhs < 0
      ·have h:=Yul hp167 h
       refine Yvi 44 rfl ((decide_eq_true hp167))<|Yu6 7 rfl (ps 44 rfl rfl rfl)<|Yu6 8 rfl (ps 44 rfl rfl rfl)<|Yu6 9 rfl (ps 44 rfl rfl rfl)<|Yu6 10 rfl (ps 44 rfl rfl rfl)<|Yu6 11 rfl (ps 44 rfl rfl rfl)<|Yu6 12 rfl (ps 44 rfl rfl rfl)<|Yu2 13 rfl (Yuk (b:=true) rfl rfl) (gy 40 rfl rfl) rfl<|Yu2 14 rfl (Yuk (b:=true) rfl rfl) gn rfl<|Yua 15 rfl ?_
       exact Yvh [0,1] (j3 true h) ⟨rfl,rfl,rfl,rfl,rfl,rfl,rfl,trivial⟩ (.cons_cons _ (.cons_cons _ (.slnil))) rfl
      ·have h:=Yum hp167 h
       refine Yvi 44 rfl ((decide_eq_false hp167))<|Yu2 7 rfl (Yub Yx3 rfl) (gy 44 rfl rfl) rfl<|Yu2 8 rfl (Yue 0 Yvt rfl rfl rfl) (gy 44 rfl rfl) rfl<|Yu2 9 rfl (Yub Yxd rfl) (gy 44 rfl rfl) rfl<|Yu2 10 rfl (Yue 1 Zak rfl rfl rfl) (gy 44 rfl rfl) rfl<|Yu2 11 rfl (Yuo Zbm rfl h9.hq) (gy 44 rfl rfl) rfl<|Yu2 12 rfl (Yug rfl rfl rfl) (gy 44 rfl rfl) rfl<|Yu2 13 rfl (Yuk (b:=false) rfl rfl) (gy 40 rfl rfl) rfl<|Yu2 14 rfl (Yuk (b:=true) rfl rfl) gn rfl<|Yua 15 rfl ?_
       exact Yvh [0,1] (j3 (decide ((ix x1.prods x71).lhs≥(x1.syms.length:Int))) h) ⟨rfl,rfl,rfl,rfl,rfl,rfl,rfl,trivial⟩ (.cons_cons _ (.cons_cons _ (.slnil))) rfl
     ·have h:=Yum hp166 h
      refine Yvi 40 rfl ((decide_eq_false hp166))<|Yu6 3 rfl (ps 40 rfl rfl rfl)<|Yu6 4 rfl (ps 40 rfl rfl rfl)<|Yu6 5 rfl (ps 40 rfl rfl rfl)<|Yu6 6 rfl (ps 40 rfl rfl rfl)<|Yu6 7 rfl (pu 44 rfl rfl)<|Yu6 8 rfl (pu 44 rfl rfl)<|Yu6 9 rfl (pu 44 rfl rfl)<|Yu6 10 rfl (pu 44 rfl rfl)<|Yu6 11 rfl (pu 44 rfl rfl)<|Yu6 12 rfl (pu 44 rfl rfl)<|Yu6 13 rfl (ps 40 rfl rfl rfl) ?_
      refine Yu2 14 rfl (Yuk (b:=false) rfl rfl) gn rfl<|Yua 15 rfl ?_
      exact Yvh [0,1] (j3 false h) ⟨rfl,rfl,rfl,rfl,rfl,rfl,rfl,trivial⟩ (.cons_cons _ (.cons_cons _ (.slnil))) rfl
    ·have h:=Yum hp127 h
     refine Yur rfl _ rfl ((decide_eq_false hp127))<|Ywa [.code Zia] rfl rfl<|Yu9 rfl<|Yu4 rfl rfl<|Yu2 0 rfl (Yub Yvf rfl) gn rfl<|Yu2 1 rfl (Yue 0 Ywb rfl rfl rfl) gn rfl ?_
     obtain ⟨hb168,h⟩:=h
     obtain ⟨ce170,hK171,hr169⟩:=Rw.read (s:=St w []) h13 hb168
     obtain ⟨A172,n173,c174,rfl,h175⟩:=hK171
     refine Yu2 2 rfl (Yv7 (s:=St w []) Yxh rfl rfl h13 hb168) gn rfl<|Yu2 3 rfl (Zdb (St w []) Zko rfl hr169 rfl (me 1 rfl)) gn rfl ?_
     refine Yve 4 rfl (Yye [.int .i64 0,.slice none 0 0] Zl0 rfl fun gb176=>?_) gn
     refine Yve 5 rfl (Za4 (vs:=[.int .i64 ((ix x1.prods 0).lhs),.slice A172 n173 c174]) (cs':=[.int .i64 ((ix x1.prods 0).lhs),.slice A172 n173 c174]) (M':=[.box gb176 63 [.int .i64 ((ix x1.prods 0).lhs),.slice A172 n173 c174],.box gb14 26 [.slice A2 n3 c4,.slice A6 n7 c8,.slice A10 n11 c12]]) 0 Zkw rfl rfl rfl rfl rfl rfl rfl rfl rfl ?_) gn
     refine Yua 6 rfl<|Yu9 rfl<|Yu4 rfl rfl<|Yu2 0 rfl (Yub Yx3 rfl) gn rfl<|Yu2 1 rfl (Yue 0 Yvt rfl rfl rfl) gn rfl<|Yu2 2 rfl (Yug rfl rfl rfl) gn rfl<|Yu2 3 rfl (Yu3 rfl) gn rfl ?_
     by_cases hp178:(ix x1.prods 0).lhs = -1
     ·have h:=Yul hp178 h
      refine Yvi 82 rfl ((eqi hp178))<|Yu2 4 rfl (Yub Yw1 rfl) (gy 82 rfl rfl) rfl<|Yu2 5 rfl (Yue 0 Yyc rfl rfl rfl) (gy 82 rfl rfl) rfl<|Yu2 6 rfl (Yuo Za5 rfl h175.hq) (gy 82 rfl rfl) rfl<|Yu2 7 rfl (Yug rfl rfl rfl) (gy 82 rfl rfl) rfl<|Yu2 8 rfl (Yuk (b:=true) rfl rfl) gn rfl<|Yu2 9 rfl (Yu3 rfl) gn rfl ?_
      by_cases hp179:(((ix x1.prods 0).rhs).length:Int)=1
      ·have h:=Yul hp179 h
       refine Yvi 88 rfl ((eqi hp179))<|Yu2 10 rfl (Yub Yw1 rfl) (gy 88 rfl rfl) rfl<|Yu2 11 rfl (Yue 0 Yyc rfl rfl rfl) (gy 88 rfl rfl) rfl ?_
       obtain ⟨hb180,h⟩:=h
       have hr181:=Rw.readF (s:=St w []) (hl:=Yvw) (h1:=Yvy) h175 hb180
       refine Yu2 12 rfl (Yv7 (s:=St w []) Yz5 rfl rfl h175 hb180) (gy 88 rfl rfl) rfl<|Yu2 13 rfl (Yvo Yyd rfl) (gy 88 rfl rfl) rfl<|Yu2 14 rfl (Yvj (kk:=(0:Int).toNat * 3) (j:=0) (St w []) Yvt rfl hr181 rfl (me 1 rfl)) (gy 88 rfl rfl) rfl<|Yu2 15 rfl (Yu3 rfl) (gy 88 rfl rfl) rfl<|Yu2 16 rfl (Yug rfl rfl rfl) (gy 88 rfl rfl) rfl<|Yu2 17 rfl (Yuk (b:=true) rfl rfl) gn rfl<|Yu2 18 rfl (Yu7 rfl) gn rfl<|Yua 19 rfl ?_
       have h:=Out.inr hO1 h
       refine Yvb [.bool (((ix ((ix x1.prods 0).rhs) 0).sym) == (x1.terms.length:Int))] rfl Tryd.func36 rfl (.tmp rfl (.nil)) fun wr hLr=>?_
       have hMr:=hLr.pk0 (.c 1 rfl .n)
       show Za6 w F  r (.returned (Yvl [.bool (((ix ((ix x1.prods 0).rhs) 0).sym) == (x1.terms.length:Int))])) wr
       rw [h]
       exact ⟨rfl,hMr⟩
      ·have h:=Yum hp179 h
       refine Yvi 88 rfl ((nei hp179))<|Yu6 10 rfl (ps 88 rfl rfl rfl)<|Yu6 11 rfl (ps 88 rfl rfl rfl)<|Yu6 12 rfl (ps 88 rfl rfl rfl)<|Yu6 13 rfl (ps 88 rfl rfl rfl)<|Yu6 14 rfl (ps 88 rfl rfl rfl)<|Yu6 15 rfl (ps 88 rfl rfl rfl)<|Yu6 16 rfl (ps 88 rfl rfl rfl)<|Yu2 17 rfl (Yuk (b:=false) rfl rfl) gn rfl<|Yu2 18 rfl (Yu7 rfl) gn rfl<|Yua 19 rfl ?_
       have h:=Out.inr hO1 h
       refine Yvb [.bool false] rfl Tryd.func36 rfl (.tmp rfl (.nil)) fun wr hLr=>?_
       have hMr:=hLr.pk0 (.c 1 rfl .n)
       show Za6 w F  r (.returned (Yvl [.bool false])) wr
       rw [h]
       exact ⟨rfl,hMr⟩
     ·have h:=Yum hp178 h
      refine Yvi 82 rfl ((nei hp178))<|Yu6 4 rfl (ps 82 rfl rfl rfl)<|Yu6 5 rfl (ps 82 rfl rfl rfl)<|Yu6 6 rfl (ps 82 rfl rfl rfl)<|Yu6 7 rfl (ps 82 rfl rfl rfl)<|Yu2 8 rfl (Yuk (b:=false) rfl rfl) gn rfl<|Yu2 9 rfl (Yu3 rfl) gn rfl<|Yu6 10 rfl (ps 88 rfl rfl rfl)<|Yu6 11 rfl (ps 88 rfl rfl rfl)<|Yu6 12 rfl (ps 88 rfl rfl rfl)<|Yu6 13 rfl (ps 88 rfl rfl rfl)<|Yu6 14 rfl (ps 88 rfl rfl rfl) ?_
      refine Yu6 15 rfl (ps 88 rfl rfl rfl)<|Yu6 16 rfl (ps 88 rfl rfl rfl)<|Yu2 17 rfl (Yuk (b:=false) rfl rfl) gn rfl<|Yu2 18 rfl (Yu7 rfl) gn rfl<|Yua 19 rfl ?_
      have h:=Out.inr hO1 h
      refine Yvb [.bool false] rfl Tryd.func36 rfl (.tmp rfl (.nil)) fun wr hLr=>?_
      have hMr:=hLr.pk0 (.c 1 rfl .n)
      show Za6 w F  r (.returned (Yvl [.bool false])) wr
      rw [h]
      exact ⟨rfl,hMr⟩
   exact Yvh [0,1] (key2 _ h ()) ⟨rfl,rfl,rfl,rfl,rfl,trivial⟩ (.cons_cons _ (.slnil)) rfl
 refine Yu4 rfl rfl<|Yu2 0 rfl (Yu3 rfl) gn rfl<|Yu2 1 rfl (Yug rfl rfl rfl) gn rfl<|Yu2 2 rfl (Yu3 rfl) gn rfl ?_
 by_cases hp182:(x1.terms.length:Int) < 1
 ·have h:=Yul hp182 h
  refine Yvi 14 rfl ((decide_eq_true hp182))<|Yu6 3 rfl (ps 14 rfl rfl rfl)<|Yu6 4 rfl (ps 14 rfl rfl rfl)<|Yu2 5 rfl (Yuk (b:=true) rfl rfl) gn rfl<|Yu2 6 rfl (Yu3 rfl) gn rfl<|Yu6 7 rfl (ps 18 rfl rfl rfl)<|Yu6 8 rfl (ps 18 rfl rfl rfl)<|Yu6 9 rfl (ps 18 rfl rfl rfl)<|Yu6 10 rfl (ps 18 rfl rfl rfl)<|Yu2 11 rfl (Yuk (b:=true) rfl rfl) gn rfl<|Yu2 12 rfl (Yu3 rfl) gn rfl<|Yu6 13 rfl (ps 24 rfl rfl rfl) ?_
  refine Yu6 14 rfl (ps 24 rfl rfl rfl)<|Yu6 15 rfl (ps 24 rfl rfl rfl)<|Yu6 16 rfl (ps 24 rfl rfl rfl)<|Yu2 17 rfl (Yuk (b:=true) rfl rfl) gn rfl<|Yua 18 rfl ?_
  exact Yvh [0,1] (j1 true h) ⟨rfl,rfl,rfl,trivial⟩ (.cons_cons _ (.slnil)) rfl
 ·have h:=Yum hp182 h
  refine Yvi 14 rfl ((decide_eq_false hp182))<|Yu2 3 rfl (Yu3 rfl) (gy 14 rfl rfl) rfl<|Yu2 4 rfl (Yug rfl rfl rfl) (gy 14 rfl rfl) rfl<|Yu2 5 rfl (Yuk (b:=false) rfl rfl) gn rfl<|Yu2 6 rfl (Yu3 rfl) gn rfl ?_
  by_cases hp183:(x1.terms.length:Int) > 64
  ·have h:=Yul hp183 h
   refine Yvi 18 rfl ((decide_eq_true hp183))<|Yu6 7 rfl (ps 18 rfl rfl rfl)<|Yu6 8 rfl (ps 18 rfl rfl rfl)<|Yu6 9 rfl (ps 18 rfl rfl rfl)<|Yu6 10 rfl (ps 18 rfl rfl rfl)<|Yu2 11 rfl (Yuk (b:=true) rfl rfl) gn rfl<|Yu2 12 rfl (Yu3 rfl) gn rfl<|Yu6 13 rfl (ps 24 rfl rfl rfl)<|Yu6 14 rfl (ps 24 rfl rfl rfl)<|Yu6 15 rfl (ps 24 rfl rfl rfl)<|Yu6 16 rfl (ps 24 rfl rfl rfl)<|Yu2 17 rfl (Yuk (b:=true) rfl rfl) gn rfl ?_
   refine Yua 18 rfl ?_
   exact Yvh [0,1] (j1 true h) ⟨rfl,rfl,rfl,trivial⟩ (.cons_cons _ (.slnil)) rfl
  ·have h:=Yum hp183 h
   refine Yvi 18 rfl ((decide_eq_false hp183))<|Yu2 7 rfl (Yub Yxd rfl) (gy 18 rfl rfl) rfl<|Yu2 8 rfl (Yue 0 Zak rfl rfl rfl) (gy 18 rfl rfl) rfl<|Yu2 9 rfl (Yuo Zbm rfl h9.hq) (gy 18 rfl rfl) rfl<|Yu2 10 rfl (Yug rfl rfl rfl) (gy 18 rfl rfl) rfl<|Yu2 11 rfl (Yuk (b:=false) rfl rfl) gn rfl<|Yu2 12 rfl (Yu3 rfl) gn rfl ?_
   by_cases hp184:(x1.syms.length:Int) > 128
   ·have h:=Yul hp184 h
    refine Yvi 24 rfl ((decide_eq_true hp184))<|Yu6 13 rfl (ps 24 rfl rfl rfl)<|Yu6 14 rfl (ps 24 rfl rfl rfl)<|Yu6 15 rfl (ps 24 rfl rfl rfl)<|Yu6 16 rfl (ps 24 rfl rfl rfl)<|Yu2 17 rfl (Yuk (b:=true) rfl rfl) gn rfl<|Yua 18 rfl ?_
    exact Yvh [0,1] (j1 true h) ⟨rfl,rfl,rfl,trivial⟩ (.cons_cons _ (.slnil)) rfl
   ·have h:=Yum hp184 h
    refine Yvi 24 rfl ((decide_eq_false hp184))<|Yu2 13 rfl (Yub Yvf rfl) (gy 24 rfl rfl) rfl<|Yu2 14 rfl (Yue 0 Ywb rfl rfl rfl) (gy 24 rfl rfl) rfl<|Yu2 15 rfl (Yuo Za3 rfl h13.hq) (gy 24 rfl rfl) rfl<|Yu2 16 rfl (Yug rfl rfl rfl) (gy 24 rfl rfl) rfl<|Yu2 17 rfl (Yuk (b:=false) rfl rfl) gn rfl<|Yua 18 rfl ?_
    exact Yvh [0,1] (j1 ((x1.prods.length:Int) == 0) h) ⟨rfl,rfl,rfl,trivial⟩ (.cons_cons _ (.slnil)) rfl
noncomputable abbrev q59c4:=Code.snd (Code.snd (Yvq Tryd.f59))
noncomputable abbrev Zoq:=Code.fst (Code.fst (Code.snd (Code.fst (Code.snd (Yvq Tryd.f59)))))
abbrev Zco (w:World) (F:Nat→Prop) (r:Bool):Ending→World→Prop:=fun e w'=>e=.returned (.bool r)∧B.Loc w w' [] [St w []]
noncomputable abbrev Zee (w:World) (F:Nat→Prop) (r:Bool):Cx:=⟨Tryd.prog,59,Tryd.f59,29,Zco w F  r,w⟩
theorem Zjo (w:World) (F:Nat→Prop) (x1:Yu5) (x14:List Yut) (A2:Option Addr) (n3:Nat) (c4:Nat) (A6:Option Addr) (n7:Nat) (c8:Nat) (A10:Option Addr) (n11:Nat) (c12:Nat) (A15:Option Addr) (n16:Nat) (c17:Nat) (h5:Rw Yuj w (St w []).av A2 n3 c4 x1.terms) (h9:Rw Yuq w (St w []).av A6 n7 c8 x1.syms) (h13:Rw Yun w (St w []).av A10 n11 c12 x1.prods) (h18:Rw Zav w (St w []).av A15 n16 c17 x14) (hF:∀ b,F b→b < w.heap.size∧∀ o ∈ ([]:List (List Nat)),b ∉ o) (hL0:B.Loc w w [] [Sm w.heap.size F w [],St w []]) (r:Bool) (h:Zdx x1 x14 r):Calls Tryd.prog 59 #[.agg #[.slice A2 n3 c4,.slice A6 n7 c8,.slice A10 n11 c12],.slice A15 n16 c17] w (Zco w F  r):=by
 unfold Zdx at h
 refine Yv5 (vs:=[.agg #[.slice A2 n3 c4,.slice A6 n7 c8,.slice A10 n11 c12],.slice A15 n16 c17]) 29 Tryd.func59 rfl Tryd.ntmps59 rfl hL0 ?_
 show G (Zee w F r) _ _ _ _
 refine Yu9 rfl<|Yu4 rfl rfl ?_
 refine Yve 0 rfl (Zas [.slice A2 n3 c4,.slice A6 n7 c8,.slice A10 n11 c12] rfl rfl rfl fun gb19=>?_) gn
 refine Yu2 1 rfl (Yu7 rfl) gn rfl<|Yua 2 rfl<|Yu9 rfl<|Yu9 rfl<|Yu4 rfl rfl<|Yu2 0 rfl (Yu3 rfl) gn rfl<|Yu2 1 rfl (Yuo Za5 rfl h18.hq) gn rfl<|Yu2 2 rfl (Yu3 rfl) gn rfl<|Yua 3 rfl<|Yuw rfl<|Ywm rfl ?_
 have key1:∀ s,Yui (fun (s:Int) o=>Zc0 x14 x1 s o) s r→(fun (s:Int)=>∀ (_:Unit),G (Zee w F r) [.code Zoq,.inLoop Zoq,.inBlock 0,.code q59c4] [(2,.pointer (some ⟨gb19,0,none⟩)),(7,.slice A15 n16 c17),(8,.int .i64 (x14.length:Int)),(9,.int .i64 s)] [.box gb19 26 [.slice A2 n3 c4,.slice A6 n7 c8,.slice A10 n11 c12]] [Sm w.heap.size F w [],St w []]) s:=by
  intro s hs
  refine Yui.ind (mot:=(fun (s:Int)=>∀ (_:Unit),G (Zee w F r) [.code Zoq,.inLoop Zoq,.inBlock 0,.code q59c4] [(2,.pointer (some ⟨gb19,0,none⟩)),(7,.slice A15 n16 c17),(8,.int .i64 (x14.length:Int)),(9,.int .i64 s)] [.box gb19 26 [.slice A2 n3 c4,.slice A6 n7 c8,.slice A10 n11 c12]] [Sm w.heap.size F w [],St w []])) ?_ hs
  clear hs s
  intro x29 o1 h hO1
  show ∀ (_:Unit),G (Zee w F r) [.code Zoq,.inLoop Zoq,.inBlock 0,.code q59c4] [(2,.pointer (some ⟨gb19,0,none⟩)),(7,.slice A15 n16 c17),(8,.int .i64 (x14.length:Int)),(9,.int .i64 x29)] [.box gb19 26 [.slice A2 n3 c4,.slice A6 n7 c8,.slice A10 n11 c12]] [Sm w.heap.size F w [],St w []]
  intro _
  have h:Zc0 x14 x1 x29 o1:=h
  unfold Zc0 at h
  refine Yu9 rfl<|Yu4 rfl rfl<|Yu2 0 rfl (Yug rfl rfl rfl) gn rfl<|Yua 1 rfl<|Yu9 rfl ?_
  by_cases hp37:x29 < (x14.length:Int)
  ·have h:=Yul hp37 h
   refine Yv4 rfl _ rfl ((decide_eq_true hp37))<|Yv2 rfl<|Yu9 rfl<|Yuw rfl<|Yu9 rfl<|Yu4 rfl rfl ?_
   obtain ⟨hb38,h⟩:=h
   have hr39:=Rw.readF (s:=St w []) (hl:=Yvw) (h1:=Yvy) h18 hb38
   refine Yu2 0 rfl (Yv7 (s:=St w []) Yz5 rfl rfl h18 hb38) gn rfl<|Yu2 1 rfl (Zdb (St w []) Zot rfl hr39 rfl (me 1 rfl)) gn rfl ?_
   refine Yve 2 rfl (Yye [.int .i64 0,.string (⟨#[]⟩:ByteArray),.string (⟨#[]⟩:ByteArray)] zr_65 rfl fun gb40=>?_) gn
   refine Yve 3 rfl (Za4 (vs:=[.int .i64 ((ix x14 x29).sym),.string ((ix x14 x29).field),.string ((ix x14 x29).as)]) (cs':=[.int .i64 ((ix x14 x29).sym),.string ((ix x14 x29).field),.string ((ix x14 x29).as)]) (M':=[.box gb40 65 [.int .i64 ((ix x14 x29).sym),.string ((ix x14 x29).field),.string ((ix x14 x29).as)],.box gb19 26 [.slice A2 n3 c4,.slice A6 n7 c8,.slice A10 n11 c12]]) 0 sz_65 rfl rfl rfl rfl rfl rfl rfl rfl rfl ?_) gn
   refine Yua 4 rfl<|Yu9 rfl<|Yu4 rfl rfl<|Yu2 0 rfl (Yub Yyd rfl) gn rfl<|Yu2 1 rfl (Yue 0 Yvt rfl rfl rfl) gn rfl<|Yu2 2 rfl (Yug rfl rfl rfl) gn rfl<|Yu2 3 rfl (Yu3 rfl) gn rfl ?_
   by_cases hp42:(ix x14 x29).sym < 0
   ·have h:=Yul hp42 h
    refine Yvi 16 rfl ((decide_eq_true hp42))<|Yu6 4 rfl (ps 16 rfl rfl rfl)<|Yu6 5 rfl (ps 16 rfl rfl rfl)<|Yu6 6 rfl (ps 16 rfl rfl rfl)<|Yu6 7 rfl (ps 16 rfl rfl rfl)<|Yu6 8 rfl (ps 16 rfl rfl rfl)<|Yu6 9 rfl (ps 16 rfl rfl rfl)<|Yu6 10 rfl (ps 16 rfl rfl rfl)<|Yu6 11 rfl (ps 16 rfl rfl rfl)<|Yu6 12 rfl (ps 16 rfl rfl rfl)<|Yu6 13 rfl (ps 16 rfl rfl rfl)<|Yu2 14 rfl (Yuk (b:=true) rfl rfl) gn rfl ?_
    refine Yua 15 rfl<|Yv4 rfl _ rfl (rfl)<|Yu9 rfl<|Yu4 rfl rfl<|Yu2 0 rfl (Yu7 rfl) gn rfl<|Yua 1 rfl ?_
    have h:=Out.inr hO1 h
    refine Yvb [.bool false] rfl Tryd.func59 rfl (.tmp rfl (.nil)) fun wr hLr=>?_
    have hMr:=hLr.pk0 (.c 1 rfl .n)
    show Zco w F  r (.returned (Yvl [.bool false])) wr
    rw [h]
    exact ⟨rfl,hMr⟩
   ·have h:=Yum hp42 h
    refine Yvi 16 rfl ((decide_eq_false hp42))<|Yu2 4 rfl (Yub Yyd rfl) (gy 16 rfl rfl) rfl<|Yu2 5 rfl (Yue 0 Yvt rfl rfl rfl) (gy 16 rfl rfl) rfl<|Yu2 6 rfl (Yub Yw7 rfl) (gy 16 rfl rfl) rfl<|Yu2 7 rfl (Yue 1 Yz4 rfl rfl rfl) (gy 16 rfl rfl) rfl<|Yu2 8 rfl (Yuo Yze rfl h5.hq) (gy 16 rfl rfl) rfl<|Yu2 9 rfl (Yub Yxd rfl) (gy 16 rfl rfl) rfl<|Yu2 10 rfl (Yue 1 Zak rfl rfl rfl) (gy 16 rfl rfl) rfl<|Yu2 11 rfl (Yuo Zbm rfl h9.hq) (gy 16 rfl rfl) rfl<|Yu2 12 rfl (Yug rfl rfl rfl) (gy 16 rfl rfl) rfl<|Yu2 13 rfl (Yug rfl rfl rfl) (gy 16 rfl rfl) rfl<|Yu2 14 rfl (Yuk (b:=false) rfl rfl) gn rfl ?_
    refine Yua 15 rfl ?_
    by_cases hp43:(ix x14 x29).sym≥w64 ((x1.terms.length:Int) + (x1.syms.length:Int))
    ·have h:=Yul hp43 h
     refine Yv4 rfl _ rfl ((decide_eq_true hp43))<|Yu9 rfl<|Yu4 rfl rfl<|Yu2 0 rfl (Yu7 rfl) gn rfl<|Yua 1 rfl ?_
     have h:=Out.inr hO1 h
     refine Yvb [.bool false] rfl Tryd.func59 rfl (.tmp rfl (.nil)) fun wr hLr=>?_
     have hMr:=hLr.pk0 (.c 1 rfl .n)
     show Zco w F  r (.returned (Yvl [.bool false])) wr
     rw [h]
     exact ⟨rfl,hMr⟩
    ·have h:=Yum hp43 h
     refine Yur rfl _ rfl ((decide_eq_false hp43))<|Yv2 rfl<|Yux<|Yu4 rfl rfl<|Yu2 0 rfl (Yug rfl rfl rfl) gn rfl<|Yu2 1 rfl (Yu3 rfl) gn rfl<|Yua 2 rfl<|Yv1 ?_
     have ih:=Out.inl hO1 h
     exact Yvh [0,1] (ih ()) ⟨rfl,rfl,rfl,rfl,trivial⟩ (.cons _ (.cons_cons _ (.slnil))) rfl
  ·have h:=Yum hp37 h
   refine Yur rfl _ rfl ((decide_eq_false hp37))<|Ywa [.code q59c4] rfl rfl<|Yu9 rfl<|Yu4 rfl rfl<|Yu2 0 rfl (Yu7 rfl) gn rfl<|Yua 1 rfl ?_
   have h:=Out.inr hO1 h
   refine Yvb [.bool true] rfl Tryd.func59 rfl (.tmp rfl (.nil)) fun wr hLr=>?_
   have hMr:=hLr.pk0 (.c 1 rfl .n)
   show Zco w F  r (.returned (Yvl [.bool true])) wr
   rw [h]
   exact ⟨rfl,hMr⟩
 exact Yvh [0,1] (key1 _ h ()) ⟨rfl,rfl,rfl,rfl,trivial⟩ (.cons_cons _ (.slnil)) rfl
noncomputable abbrev q58c6:=Code.snd (Code.snd (Code.snd (Yvq Tryd.f58)))
noncomputable abbrev q58c8:=Code.snd (Code.fst (Code.snd (Code.snd (Yvq Tryd.f58))))
noncomputable abbrev Zpp:=Code.snd q58c6
noncomputable abbrev Zm0:=Code.fst (Code.fst (Code.snd (Code.fst q58c6)))
abbrev Zbq (w:World) (F:Nat→Prop) (r:Bool):Ending→World→Prop:=fun e w'=>e=.returned (.bool r)∧B.Loc w w' [] [St w []]
noncomputable abbrev Ze9 (w:World) (F:Nat→Prop) (r:Bool):Cx:=⟨Tryd.prog,58,Tryd.f58,47,Zbq w F  r,w⟩
theorem Zh0 (w:World) (F:Nat→Prop) (x1:Yu5) (A2:Option Addr) (n3:Nat) (c4:Nat) (A6:Option Addr) (n7:Nat) (c8:Nat) (A10:Option Addr) (n11:Nat) (c12:Nat) (h5:Rw Yuj w (St w []).av A2 n3 c4 x1.terms) (h9:Rw Yuq w (St w []).av A6 n7 c8 x1.syms) (h13:Rw Yun w (St w []).av A10 n11 c12 x1.prods) (hF:∀ b,F b→b < w.heap.size∧∀ o ∈ ([]:List (List Nat)),b ∉ o) (hL0:B.Loc w w [] [Sm w.heap.size F w [],St w []]) (r:Bool) (h:Zeq x1 r):Calls Tryd.prog 58 #[.agg #[.slice A2 n3 c4,.slice A6 n7 c8,.slice A10 n11 c12]] w (Zbq w F  r):=by
 unfold Zeq at h
 refine Yv5 (vs:=[.agg #[.slice A2 n3 c4,.slice A6 n7 c8,.slice A10 n11 c12]]) 47 Tryd.func58 rfl Tryd.ntmps58 rfl hL0 ?_
 show G (Ze9 w F r) _ _ _ _
 refine Yu9 rfl<|Yu4 rfl rfl ?_
 refine Yve 0 rfl (Zas [.slice A2 n3 c4,.slice A6 n7 c8,.slice A10 n11 c12] rfl rfl rfl fun gb14=>?_) gn
 refine Yu2 1 rfl (Yu7 rfl) gn rfl<|Yua 2 rfl<|Yu9 rfl<|Yu4 rfl rfl<|Yu2 0 rfl (Yub Yw7 rfl) gn rfl<|Yu2 1 rfl (Yue 0 Yz4 rfl rfl rfl) gn rfl<|Yu2 2 rfl (Yuo Yze rfl h5.hq) gn rfl<|Yu2 3 rfl (Yu7 rfl) gn rfl<|Yua 4 rfl<|Yu9 rfl<|Yu9 rfl ?_
 have j1:∀ (x19:Bool) (h:Zc5 x1 x19 r) ,G (Ze9 w F r) [.code q58c8,.code q58c6] [(1,.pointer (some ⟨gb14,0,none⟩)),(20,.bool x19)] [.box gb14 26 [.slice A2 n3 c4,.slice A6 n7 c8,.slice A10 n11 c12]] [Sm w.heap.size F w [],St w []]:=by
  intro x19 h
  unfold Zc5 at h
  by_cases hp20:x19=true
  ·have h:=Yul hp20 h
   refine Yv4 rfl _ rfl (hp20)<|Yu9 rfl<|Yu4 rfl rfl<|Yu2 0 rfl (Yu7 rfl) gn rfl<|Yua 1 rfl ?_
   refine Yvb [.bool false] rfl Tryd.func58 rfl (.tmp rfl (.nil)) fun wr hLr=>?_
   have hMr:=hLr.pk0 (.c 1 rfl .n)
   show Zbq w F  r (.returned (Yvl [.bool false])) wr
   rw [h]
   exact ⟨rfl,hMr⟩
  ·have h:=Yum hp20 h
   refine Yur rfl _ rfl ((bf hp20))<|Yv2 rfl<|Yu9 rfl<|Yu9 rfl<|Yu4 rfl rfl<|Yu2 0 rfl (Yub Yvf rfl) gn rfl<|Yu2 1 rfl (Yue 0 Ywb rfl rfl rfl) gn rfl<|Yu2 2 rfl (Yuo Za3 rfl h13.hq) gn rfl<|Yu2 3 rfl (Yu3 rfl) gn rfl<|Yua 4 rfl<|Yuw rfl<|Ywm rfl ?_
   have key2:∀ s,Yui (fun (s:Int) o=>Zcb x1 s o) s r→(fun (s:Int)=>∀ (_:Unit),G (Ze9 w F r) [.code Zm0,.inLoop Zm0,.inBlock 0,.code Zpp] [(1,.pointer (some ⟨gb14,0,none⟩)),(22,.slice A10 n11 c12),(23,.int .i64 (x1.prods.length:Int)),(24,.int .i64 s)] [.box gb14 26 [.slice A2 n3 c4,.slice A6 n7 c8,.slice A10 n11 c12]] [Sm w.heap.size F w [],St w []]) s:=by
    intro s hs
    refine Yui.ind (mot:=(fun (s:Int)=>∀ (_:Unit),G (Ze9 w F r) [.code Zm0,.inLoop Zm0,.inBlock 0,.code Zpp] [(1,.pointer (some ⟨gb14,0,none⟩)),(22,.slice A10 n11 c12),(23,.int .i64 (x1.prods.length:Int)),(24,.int .i64 s)] [.box gb14 26 [.slice A2 n3 c4,.slice A6 n7 c8,.slice A10 n11 c12]] [Sm w.heap.size F w [],St w []])) ?_ hs
    clear hs s
    intro x44 o1 h hO1
    show ∀ (_:Unit),G (Ze9 w F r) [.code Zm0,.inLoop Zm0,.inBlock 0,.code Zpp] [(1,.pointer (some ⟨gb14,0,none⟩)),(22,.slice A10 n11 c12),(23,.int .i64 (x1.prods.length:Int)),(24,.int .i64 x44)] [.box gb14 26 [.slice A2 n3 c4,.slice A6 n7 c8,.slice A10 n11 c12]] [Sm w.heap.size F w [],St w []]
    intro _
    have h:Zcb x1 x44 o1:=h
    unfold Zcb at h
    refine Yu9 rfl<|Yu4 rfl rfl<|Yu2 0 rfl (Yug rfl rfl rfl) gn rfl<|Yua 1 rfl<|Yu9 rfl ?_
    by_cases hp67:x44 < (x1.prods.length:Int)
    ·have h:=Yul hp67 h
     refine Yv4 rfl _ rfl ((decide_eq_true hp67))<|Yv2 rfl<|Yu9 rfl<|Yuw rfl<|Yu9 rfl<|Yu4 rfl rfl ?_
     obtain ⟨hb68,h⟩:=h
     obtain ⟨ce70,hK71,hr69⟩:=Rw.read (s:=St w []) h13 hb68
     obtain ⟨A72,n73,c74,rfl,h75⟩:=hK71
     refine Yu2 0 rfl (Yv7 (s:=St w []) Yxh rfl rfl h13 hb68) gn rfl<|Yu2 1 rfl (Zdb (St w []) Zko rfl hr69 rfl (me 1 rfl)) gn rfl ?_
     refine Yve 2 rfl (Yye [.int .i64 0,.slice none 0 0] Zl0 rfl fun gb76=>?_) gn
     refine Yve 3 rfl (Za4 (vs:=[.int .i64 ((ix x1.prods x44).lhs),.slice A72 n73 c74]) (cs':=[.int .i64 ((ix x1.prods x44).lhs),.slice A72 n73 c74]) (M':=[.box gb76 63 [.int .i64 ((ix x1.prods x44).lhs),.slice A72 n73 c74],.box gb14 26 [.slice A2 n3 c4,.slice A6 n7 c8,.slice A10 n11 c12]]) 0 Zkw rfl rfl rfl rfl rfl rfl rfl rfl rfl ?_) gn
     refine Yua 4 rfl<|Yu9 rfl<|Yu4 rfl rfl<|Yu2 0 rfl (Yub Yx3 rfl) gn rfl<|Yu2 1 rfl (Yue 0 Yvt rfl rfl rfl) gn rfl<|Yu2 2 rfl (Yug rfl rfl rfl) gn rfl<|Yu2 3 rfl (Yu3 rfl) gn rfl ?_
     by_cases hp78:(ix x1.prods x44).lhs < -1
     ·have h:=Yul hp78 h
      refine Yvi 31 rfl ((decide_eq_true hp78))<|Yu6 4 rfl (ps 31 rfl rfl rfl)<|Yu6 5 rfl (ps 31 rfl rfl rfl)<|Yu6 6 rfl (ps 31 rfl rfl rfl)<|Yu6 7 rfl (ps 31 rfl rfl rfl)<|Yu6 8 rfl (ps 31 rfl rfl rfl)<|Yu6 9 rfl (ps 31 rfl rfl rfl)<|Yu2 10 rfl (Yuk (b:=true) rfl rfl) gn rfl<|Yu2 11 rfl (Yu3 rfl) gn rfl<|Yu6 12 rfl (ps 39 rfl rfl rfl)<|Yu6 13 rfl (ps 39 rfl rfl rfl)<|Yu6 14 rfl (ps 39 rfl rfl rfl) ?_
      refine Yu6 15 rfl (ps 39 rfl rfl rfl)<|Yu6 16 rfl (ps 39 rfl rfl rfl)<|Yu2 17 rfl (Yuk (b:=true) rfl rfl) gn rfl<|Yua 18 rfl<|Yv4 rfl _ rfl (rfl)<|Yu9 rfl<|Yu4 rfl rfl<|Yu2 0 rfl (Yu7 rfl) gn rfl<|Yua 1 rfl ?_
      have h:=Out.inr hO1 h
      refine Yvb [.bool false] rfl Tryd.func58 rfl (.tmp rfl (.nil)) fun wr hLr=>?_
      have hMr:=hLr.pk0 (.c 1 rfl .n)
      show Zbq w F  r (.returned (Yvl [.bool false])) wr
      rw [h]
      exact ⟨rfl,hMr⟩
     ·have h:=Yum hp78 h
      refine Yvi 31 rfl ((decide_eq_false hp78))<|Yu2 4 rfl (Yub Yx3 rfl) (gy 31 rfl rfl) rfl<|Yu2 5 rfl (Yue 0 Yvt rfl rfl rfl) (gy 31 rfl rfl) rfl<|Yu2 6 rfl (Yub Yxd rfl) (gy 31 rfl rfl) rfl<|Yu2 7 rfl (Yue 1 Zak rfl rfl rfl) (gy 31 rfl rfl) rfl<|Yu2 8 rfl (Yuo Zbm rfl h9.hq) (gy 31 rfl rfl) rfl<|Yu2 9 rfl (Yug rfl rfl rfl) (gy 31 rfl rfl) rfl<|Yu2 10 rfl (Yuk (b:=false) rfl rfl) gn rfl<|Yu2 11 rfl (Yu3 rfl) gn rfl ?_
      by_cases hp79:(ix x1.prods x44).lhs≥(x1.syms.length:Int)
      ·have h:=Yul hp79 h
       refine Yvi 39 rfl ((decide_eq_true hp79))<|Yu6 12 rfl (ps 39 rfl rfl rfl)<|Yu6 13 rfl (ps 39 rfl rfl rfl)<|Yu6 14 rfl (ps 39 rfl rfl rfl)<|Yu6 15 rfl (ps 39 rfl rfl rfl)<|Yu6 16 rfl (ps 39 rfl rfl rfl)<|Yu2 17 rfl (Yuk (b:=true) rfl rfl) gn rfl<|Yua 18 rfl<|Yv4 rfl _ rfl (rfl)<|Yu9 rfl<|Yu4 rfl rfl<|Yu2 0 rfl (Yu7 rfl) gn rfl ?_
       refine Yua 1 rfl ?_
       have h:=Out.inr hO1 h
       refine Yvb [.bool false] rfl Tryd.func58 rfl (.tmp rfl (.nil)) fun wr hLr=>?_
       have hMr:=hLr.pk0 (.c 1 rfl .n)
       show Zbq w F  r (.returned (Yvl [.bool false])) wr
       rw [h]
       exact ⟨rfl,hMr⟩
      ·have h:=Yum hp79 h
       refine Yvi 39 rfl ((decide_eq_false hp79))<|Yu2 12 rfl (Yyr [.slice A2 n3 c4,.slice A6 n7 c8,.slice A10 n11 c12] 1 Yys rfl rfl rfl rfl) (gy 39 rfl rfl) rfl<|Yu2 13 rfl (Yub Yw1 rfl) (gy 39 rfl rfl) rfl<|Yu2 14 rfl (Yue 0 Yyc rfl rfl rfl) (gy 39 rfl rfl) rfl ?_
       obtain ⟨r83,hv84,h⟩:=h
       refine Yve 15 rfl (Yvz [.agg #[.slice A2 n3 c4,.slice A6 n7 c8,.slice A10 n11 c12],.slice A72 n73 c74] rfl Tryd.func59 rfl rfl rfl fun w80 hL81=>?_) (gy 39 rfl rfl)
       have hp82:=pmI hL81 .n (.c 0 rfl (.c 1 rfl .n)) (by kernel_rfl)
       refine Calls.mono (Zjo w80 (Fl ([]:List Yva)) x1 ((ix x1.prods x44).rhs) A2 n3 c4 A6 n7 c8 A10 n11 c12 A72 n73 c74 (Rw.mono h5 (hL81.toSt hp82 (me 1 rfl))) (Rw.mono h9 (hL81.toSt hp82 (me 1 rfl))) (Rw.mono h13 (hL81.toSt hp82 (me 1 rfl))) (Rw.mono h75 (hL81.toSt hp82 (me 1 rfl))) (hL81.hFl hp82 (Yvm [] rfl)) (hL81.into hp82 _) r83 hv84) ?_
       rintro _ w85 ⟨rfl,hM86⟩
       have hL87:=hL81.call hp82 hM86
       refine ⟨_,_,_,rfl,hL87,?_⟩
       refine Yu2 16 rfl (Zf9 rfl) (gy 39 rfl rfl) rfl<|Yu2 17 rfl (Yuk (b:=false) rfl rfl) gn rfl<|Yua 18 rfl ?_
       by_cases hp88:r83=true
       ·have h:=Yul hp88 h
        refine Yur rfl _ rfl ((nf hp88))<|Yv2 rfl<|Yux<|Yu4 rfl rfl<|Yu2 0 rfl (Yug rfl rfl rfl) gn rfl<|Yu2 1 rfl (Yu3 rfl) gn rfl<|Yua 2 rfl<|Yv1 ?_
        have ih:=Out.inl hO1 h
        exact Yvh [0,1] (ih ()) ⟨rfl,rfl,rfl,rfl,trivial⟩ (.cons _ (.cons_cons _ (.slnil))) rfl
       ·have h:=Yum hp88 h
        refine Yv4 rfl _ rfl ((nt (bf hp88)))<|Yu9 rfl<|Yu4 rfl rfl<|Yu2 0 rfl (Yu7 rfl) gn rfl<|Yua 1 rfl ?_
        have h:=Out.inr hO1 h
        refine Yvb [.bool false] rfl Tryd.func58 rfl (.tmp rfl (.nil)) fun wr hLr=>?_
        have hMr:=hLr.pk0 (.c 1 rfl .n)
        show Zbq w F  r (.returned (Yvl [.bool false])) wr
        rw [h]
        exact ⟨rfl,hMr⟩
    ·have h:=Yum hp67 h
     refine Yur rfl _ rfl ((decide_eq_false hp67))<|Ywa [.code Zpp] rfl rfl<|Yu9 rfl<|Yu4 rfl rfl<|Yu2 0 rfl (Yu7 rfl) gn rfl<|Yua 1 rfl ?_
     have h:=Out.inr hO1 h
     refine Yvb [.bool true] rfl Tryd.func58 rfl (.tmp rfl (.nil)) fun wr hLr=>?_
     have hMr:=hLr.pk0 (.c 1 rfl .n)
     show Zbq w F  r (.returned (Yvl [.bool true])) wr
     rw [h]
     exact ⟨rfl,hMr⟩
   exact Yvh [0,1] (key2 _ h ()) ⟨rfl,rfl,rfl,rfl,trivial⟩ (.cons_cons _ (.slnil)) rfl
 refine Yu4 rfl rfl<|Yu2 0 rfl (Yu3 rfl) gn rfl<|Yu2 1 rfl (Yug rfl rfl rfl) gn rfl<|Yu2 2 rfl (Yu3 rfl) gn rfl ?_
 by_cases hp89:(x1.terms.length:Int) < 1
 ·have h:=Yul hp89 h
  refine Yvi 11 rfl ((decide_eq_true hp89))<|Yu6 3 rfl (ps 11 rfl rfl rfl)<|Yu6 4 rfl (ps 11 rfl rfl rfl)<|Yu2 5 rfl (Yuk (b:=true) rfl rfl) gn rfl<|Yu2 6 rfl (Yu3 rfl) gn rfl<|Yu6 7 rfl (ps 15 rfl rfl rfl)<|Yu6 8 rfl (ps 15 rfl rfl rfl)<|Yu6 9 rfl (ps 15 rfl rfl rfl)<|Yu6 10 rfl (ps 15 rfl rfl rfl)<|Yu2 11 rfl (Yuk (b:=true) rfl rfl) gn rfl<|Yua 12 rfl ?_
  exact Yvh [0,1] (j1 true h) ⟨rfl,rfl,trivial⟩ (.cons_cons _ (.slnil)) rfl
 ·have h:=Yum hp89 h
  refine Yvi 11 rfl ((decide_eq_false hp89))<|Yu2 3 rfl (Yu3 rfl) (gy 11 rfl rfl) rfl<|Yu2 4 rfl (Yug rfl rfl rfl) (gy 11 rfl rfl) rfl<|Yu2 5 rfl (Yuk (b:=false) rfl rfl) gn rfl<|Yu2 6 rfl (Yu3 rfl) gn rfl ?_
  by_cases hp90:(x1.terms.length:Int) > 64
  ·have h:=Yul hp90 h
   refine Yvi 15 rfl ((decide_eq_true hp90))<|Yu6 7 rfl (ps 15 rfl rfl rfl)<|Yu6 8 rfl (ps 15 rfl rfl rfl)<|Yu6 9 rfl (ps 15 rfl rfl rfl)<|Yu6 10 rfl (ps 15 rfl rfl rfl)<|Yu2 11 rfl (Yuk (b:=true) rfl rfl) gn rfl<|Yua 12 rfl ?_
   exact Yvh [0,1] (j1 true h) ⟨rfl,rfl,trivial⟩ (.cons_cons _ (.slnil)) rfl
  ·have h:=Yum hp90 h
   refine Yvi 15 rfl ((decide_eq_false hp90))<|Yu2 7 rfl (Yub Yxd rfl) (gy 15 rfl rfl) rfl<|Yu2 8 rfl (Yue 0 Zak rfl rfl rfl) (gy 15 rfl rfl) rfl<|Yu2 9 rfl (Yuo Zbm rfl h9.hq) (gy 15 rfl rfl) rfl<|Yu2 10 rfl (Yug rfl rfl rfl) (gy 15 rfl rfl) rfl<|Yu2 11 rfl (Yuk (b:=false) rfl rfl) gn rfl<|Yua 12 rfl ?_
   exact Yvh [0,1] (j1 (decide ((x1.syms.length:Int) > 128)) h) ⟨rfl,rfl,trivial⟩ (.cons_cons _ (.slnil)) rfl
noncomputable abbrev q61c6:=Code.snd (Code.snd (Code.snd (Yvq Tryd.f61)))
noncomputable abbrev Zj8:=Code.fst (Code.fst (Code.snd (Code.fst (Code.snd (Code.snd (Yvq Tryd.f61))))))
noncomputable abbrev q61c22:=Code.fst (Code.snd (Code.fst (Code.fst (Code.snd (Code.snd Zj8)))))
noncomputable abbrev q61c24:=Code.fst (Code.snd (Code.snd (Code.fst (Code.fst (Code.snd (Code.snd Zj8))))))
abbrev Zea (w:World) (F:Nat→Prop) (g2:Nat) (Tb3:Nat) (r:Int × Bool × Yu8):Ending→World→Prop:=fun e w'=>e=.returned (.tuple #[.int .u64 r.1,.bool r.2.1])∧B.Loc w w' [.box g2 Tb3 (Yuh r.2.2)] [St w [[g2]]]
noncomputable abbrev Zed (w:World) (F:Nat→Prop) (g2:Nat) (Tb3:Nat) (r:Int × Bool × Yu8):Cx:=⟨Tryd.prog,61,Tryd.f61,35,Zea w F g2 Tb3 r,w⟩
theorem Zjn (w:World) (F:Nat→Prop) (x1:Yu8) (x4:List Yut) (g2:Nat) (Tb3:Nat) (A5:Option Addr) (n6:Nat) (c7:Nat) (h8:Rw Zav w (St w [[g2]]).av A5 n6 c7 x4) (hF:∀ b,F b→b < w.heap.size∧∀ o ∈ ([[g2]]:List (List Nat)),b ∉ o) (hL0:B.Loc w w [.box g2 Tb3 (Yuh x1)] [Sm w.heap.size F w [[g2]],St w [[g2]]]) (r:Int × Bool × Yu8) (h:Ze2 x1 x4 r):Calls Tryd.prog 61 #[.pointer (some ⟨g2,0,none⟩),.slice A5 n6 c7] w (Zea w F g2 Tb3 r):=by
 unfold Ze2 at h
 refine Yv5 (vs:=[.pointer (some ⟨g2,0,none⟩),.slice A5 n6 c7]) 35 Tryd.func61 rfl Tryd.ntmps61 rfl hL0 ?_
 show G (Zed w F g2 Tb3 r) _ _ _ _
 refine Yu9 rfl<|Yu4 rfl rfl<|Yu2 0 rfl (Yu7 rfl) gn rfl<|Yu2 1 rfl (Yu7 rfl) gn rfl<|Yua 2 rfl<|Yu9 rfl<|Yu4 rfl rfl<|Yu2 0 rfl (Yu7 rfl) gn rfl<|Yua 1 rfl<|Yu9 rfl<|Yu9 rfl<|Yu4 rfl rfl ?_
 refine Yu2 0 rfl (Yu3 rfl) gn rfl<|Yu2 1 rfl (Yuo Za5 rfl h8.hq) gn rfl<|Yu2 2 rfl (Yu3 rfl) gn rfl<|Yua 3 rfl<|Yuw rfl<|Ywm rfl ?_
 have key1:∀ s,Yui (fun (s:Int × Int) o=>Za2 x4 x1 s.1 s.2 o) s r→(fun (s:Int × Int)=>∀ (_:Unit),G (Zed w F g2 Tb3 r) [.code Zj8,.inLoop Zj8,.inBlock 0,.code q61c6] [(0,.pointer (some ⟨g2,0,none⟩)),(6,.int .u64 s.1),(9,.slice A5 n6 c7),(10,.int .i64 (x4.length:Int)),(11,.int .i64 s.2)] [.box g2 Tb3 (Yuh x1)] [Sm w.heap.size F w [[g2]],St w [[g2]]]) s:=by
  intro s hs
  refine Yui.ind (mot:=(fun (s:Int × Int)=>∀ (_:Unit),G (Zed w F g2 Tb3 r) [.code Zj8,.inLoop Zj8,.inBlock 0,.code q61c6] [(0,.pointer (some ⟨g2,0,none⟩)),(6,.int .u64 s.1),(9,.slice A5 n6 c7),(10,.int .i64 (x4.length:Int)),(11,.int .i64 s.2)] [.box g2 Tb3 (Yuh x1)] [Sm w.heap.size F w [[g2]],St w [[g2]]])) ?_ hs
  clear hs s
  intro s o1 h hO1
  obtain ⟨x17,x18⟩:=s
  show ∀ (_:Unit),G (Zed w F g2 Tb3 r) [.code Zj8,.inLoop Zj8,.inBlock 0,.code q61c6] [(0,.pointer (some ⟨g2,0,none⟩)),(6,.int .u64 x17),(9,.slice A5 n6 c7),(10,.int .i64 (x4.length:Int)),(11,.int .i64 x18)] [.box g2 Tb3 (Yuh x1)] [Sm w.heap.size F w [[g2]],St w [[g2]]]
  intro _
  have h:Za2 x4 x1 x17 x18 o1:=h
  unfold Za2 at h
  refine Yu9 rfl<|Yu4 rfl rfl<|Yu2 0 rfl (Yug rfl rfl rfl) gn rfl<|Yua 1 rfl<|Yu9 rfl ?_
  by_cases hp26:x18 < (x4.length:Int)
  ·have h:=Yul hp26 h
   refine Yv4 rfl _ rfl ((decide_eq_true hp26))<|Yv2 rfl<|Yu9 rfl<|Yuw rfl<|Yu9 rfl<|Yu4 rfl rfl ?_
   obtain ⟨hb27,h⟩:=h
   have hr28:=Rw.readF (s:=St w [[g2]]) (hl:=Yvw) (h1:=Yvy) h8 hb27
   refine Yu2 0 rfl (Yv7 (s:=St w [[g2]]) Yz5 rfl rfl h8 hb27) gn rfl<|Yu2 1 rfl (Zdb (St w [[g2]]) Zot rfl hr28 rfl (me 1 rfl)) gn rfl ?_
   refine Yve 2 rfl (Yye [.int .i64 0,.string (⟨#[]⟩:ByteArray),.string (⟨#[]⟩:ByteArray)] zr_65 rfl fun gb29=>?_) gn
   refine Yve 3 rfl (Za4 (vs:=[.int .i64 ((ix x4 x18).sym),.string ((ix x4 x18).field),.string ((ix x4 x18).as)]) (cs':=[.int .i64 ((ix x4 x18).sym),.string ((ix x4 x18).field),.string ((ix x4 x18).as)]) (M':=[.box gb29 65 [.int .i64 ((ix x4 x18).sym),.string ((ix x4 x18).field),.string ((ix x4 x18).as)],.box g2 Tb3 (Yuh x1)]) 0 sz_65 rfl rfl rfl rfl rfl rfl rfl rfl rfl ?_) gn
   refine Yua 4 rfl<|Yu9 rfl ?_
   obtain ⟨hb31,h⟩:=h
   have hns:Region.noSelect (Code.ops q61c22)=true:=by kernel_rfl
   refine Yvr [] 10 rfl rfl mix rfl (.c 0 rfl (.c 1 rfl .n))<|wfv 0 rfl (Yu3 rfl) gn hns rfl<|wfv 1 rfl (Yu3 rfl) gn hns rfl<|wfv 2 rfl (Yub Yyd rfl) gn hns rfl<|wfv 3 rfl (Yue 0 Yvt rfl rfl rfl) gn hns rfl<|wfv 4 rfl (Yuy rfl) gn hns rfl<|wfv 5 rfl (Yub Zgq rfl) gn hns rfl<|wfv 6 rfl (Zi9 Zn4 rfl rfl hb31) gn hns rfl<|wfv 7 rfl (Zqd 1 Zdt rfl rfl (hp:=(Pt.trans (Yyt x1 (upd x1.first ((ix x4 x18).sym) (x1.first ((ix x4 x18).sym)))) (Pt.arr (f:=x1.first) (enc:=fun y=>[.int .u64 y]) (fun _=>rfl) hb31 (x1.first ((ix x4 x18).sym))))) rfl) gn hns rfl<|wfv 8 rfl (Yug rfl rfl rfl) gn hns rfl<|wfv 9 rfl (Yu7 rfl) gn hns rfl<|Yvx (by kernel_rfl) ?_
   refine Yu9 rfl ?_
   have hns:Region.noSelect (Code.ops q61c24)=true:=by kernel_rfl
   refine Yvr [] 8 rfl rfl mix rfl (.c 0 rfl (.c 1 rfl .n))<|wfv 0 rfl (Yu3 rfl) gn hns rfl<|wfv 1 rfl (Yub Yyd rfl) gn hns rfl<|wfv 2 rfl (Yue 0 Yvt rfl rfl rfl) gn hns rfl<|wfv 3 rfl (Yuy rfl) gn hns rfl<|wfv 4 rfl (Yub Zgn rfl) gn hns rfl<|wfv 5 rfl (Zi9 Zo0 rfl rfl hb31) gn hns rfl<|wfv 6 rfl (Zqd 1 Zlq rfl rfl (hp:=(Pt.trans (Yy4 x1 (upd x1.vanishes ((ix x4 x18).sym) (x1.vanishes ((ix x4 x18).sym)))) (Pt.arr (f:=x1.vanishes) (enc:=fun y=>[.bool y]) (fun _=>rfl) hb31 (x1.vanishes ((ix x4 x18).sym))))) rfl) gn hns rfl<|wfv 7 rfl (Zf9 rfl) gn hns rfl<|Yvx (by kernel_rfl) ?_
   by_cases hp32:(x1.vanishes ((ix x4 x18).sym))=true
   ·have h:=Yul hp32 h
    refine Yur rfl _ rfl ((nf hp32))<|Yv2 rfl<|Yux<|Yu4 rfl rfl<|Yu2 0 rfl (Yug rfl rfl rfl) gn rfl<|Yu2 1 rfl (Yu3 rfl) gn rfl<|Yua 2 rfl<|Yv1 ?_
    have ih:=Out.inl hO1 h
    exact Yvh [0,1] (ih ()) ⟨rfl,rfl,rfl,rfl,rfl,trivial⟩ (.cons _ (.cons_cons _ (.slnil))) rfl
   ·have h:=Yum hp32 h
    refine Yv4 rfl _ rfl ((nt (bf hp32)))<|Yu9 rfl<|Yu4 rfl rfl<|Yu2 0 rfl (Yu3 rfl) gn rfl<|Yu2 1 rfl (Yu7 rfl) gn rfl<|Yu2 2 rfl (Yu7 rfl) gn rfl<|Yua 3 rfl ?_
    have h:=Out.inr hO1 h
    refine Yvb [.int .u64 (bits .or .u64 x17 (x1.first ((ix x4 x18).sym))),.bool false] rfl Tryd.func61 rfl (.tmp rfl (.tmp rfl (.nil))) fun wr hLr=>?_
    have hMr:=hLr.pkI (.c 1 rfl .n) (.c 0 rfl .n) (by kernel_rfl) (.c 1 rfl .n)
    show Zea w F g2 Tb3 r (.returned (Yvl [.int .u64 (bits .or .u64 x17 (x1.first ((ix x4 x18).sym))),.bool false])) wr
    rw [h]
    exact ⟨rfl,hMr⟩
  ·have h:=Yum hp26 h
   refine Yur rfl _ rfl ((decide_eq_false hp26))<|Ywa [.code q61c6] rfl rfl<|Yu9 rfl<|Yu4 rfl rfl<|Yu2 0 rfl (Yu3 rfl) gn rfl<|Yu2 1 rfl (Yu7 rfl) gn rfl<|Yu2 2 rfl (Yu7 rfl) gn rfl<|Yua 3 rfl ?_
   have h:=Out.inr hO1 h
   refine Yvb [.int .u64 x17,.bool true] rfl Tryd.func61 rfl (.tmp rfl (.tmp rfl (.nil))) fun wr hLr=>?_
   have hMr:=hLr.pkI (.c 0 rfl .n) .n (by kernel_rfl) (.c 1 rfl .n)
   show Zea w F g2 Tb3 r (.returned (Yvl [.int .u64 x17,.bool true])) wr
   rw [h]
   exact ⟨rfl,hMr⟩
 exact Yvh [0,1] (key1 _ h ()) ⟨rfl,rfl,rfl,rfl,rfl,trivial⟩ (.cons_cons _ (.slnil)) rfl
noncomputable abbrev Zrh:=Code.snd (Code.snd (Code.snd (Yvq Tryd.f60)))
noncomputable abbrev Zlj:=Code.fst (Code.fst (Code.snd (Code.fst (Code.snd (Code.snd (Yvq Tryd.f60))))))
noncomputable abbrev Zfd:=Code.fst (Code.fst Zrh)
noncomputable abbrev Zng:=Code.snd (Code.snd (Code.fst Zfd))
noncomputable abbrev Ziz:=Code.fst (Code.fst (Code.snd (Code.fst (Code.snd (Code.fst Zfd)))))
noncomputable abbrev q60c40:=Code.snd (Code.snd (Code.snd Ziz))
abbrev Zh4 (w:World) (F:Nat→Prop) (r:Yu8):Ending→World→Prop:=fun e w'=>e=.returned (.agg (Yuh r).toArray)∧B.Loc w w' [] [St w []]
noncomputable abbrev Yzc (w:World) (F:Nat→Prop) (r:Yu8):Cx:=⟨Tryd.prog,60,Tryd.f60,79,Zh4 w F  r,w⟩
theorem Zgz (w:World) (F:Nat→Prop) (x1:Yu5) (A2:Option Addr) (n3:Nat) (c4:Nat) (A6:Option Addr) (n7:Nat) (c8:Nat) (A10:Option Addr) (n11:Nat) (c12:Nat) (h5:Rw Yuj w (St w []).av A2 n3 c4 x1.terms) (h9:Rw Yuq w (St w []).av A6 n7 c8 x1.syms) (h13:Rw Yun w (St w []).av A10 n11 c12 x1.prods) (hF:∀ b,F b→b < w.heap.size∧∀ o ∈ ([]:List (List Nat)),b ∉ o) (hL0:B.Loc w w [] [Sm w.heap.size F w [],St w []]) (r:Yu8) (h:Zbn x1 r):Calls Tryd.prog 60 #[.agg #[.slice A2 n3 c4,.slice A6 n7 c8,.slice A10 n11 c12]] w (Zh4 w F  r):=by
 unfold Zbn at h
 refine Yv5 (vs:=[.agg #[.slice A2 n3 c4,.slice A6 n7 c8,.slice A10 n11 c12]]) 79 Tryd.func60 rfl Tryd.ntmps60 rfl hL0 ?_
 show G (Yzc w F r) _ _ _ _
 refine Yu9 rfl<|Yu4 rfl rfl ?_
 refine Yve 0 rfl (Zas [.slice A2 n3 c4,.slice A6 n7 c8,.slice A10 n11 c12] rfl rfl rfl fun gb14=>?_) gn
 refine Yve 1 rfl (Yye (Yuh (⟨(fun _=>0),(fun _=>false)⟩:Yu8)) Zod rfl fun gb16=>?_) gn
 refine Yua 2 rfl<|Yu9 rfl<|Yu4 rfl rfl ?_
 refine Yve 0 rfl (Yye (Yuh (⟨(fun _=>0),(fun _=>false)⟩:Yu8)) Zod rfl fun gb18=>?_) gn
 refine Yua 1 rfl<|Yu9 rfl<|Yu9 rfl<|Yu4 rfl rfl<|Yu2 0 rfl (Yub Yw7 rfl) gn rfl<|Yu2 1 rfl (Yue 2 Yz4 rfl rfl rfl) gn rfl<|Yu2 2 rfl (Yuo Yze rfl h5.hq) gn rfl<|Yu2 3 rfl (Yu3 rfl) gn rfl<|Yua 4 rfl<|Yuw rfl<|Ywm rfl ?_
 have key1:∀ s,Yui (fun (s:Int × Yu8) o=>Yzf x1 s.1 s.2 o) s r→(fun (s:Int × Yu8)=>∀ (_:Unit),G (Yzc w F r) [.code Zlj,.inLoop Zlj,.inBlock 0,.code Zrh] [(1,.pointer (some ⟨gb14,0,none⟩)),(2,.pointer (some ⟨gb16,0,none⟩)),(3,.pointer (some ⟨gb18,0,none⟩)),(13,.int .i64 (x1.terms.length:Int)),(14,.int .i64 s.1)] [.box gb18 118 (Yuh s.2),.box gb16 118 (Yuh (⟨(fun _=>0),(fun _=>false)⟩:Yu8)),.box gb14 26 [.slice A2 n3 c4,.slice A6 n7 c8,.slice A10 n11 c12]] [Sm w.heap.size F w [],St w []]) s:=by
  intro s hs
  refine Yui.ind (mot:=(fun (s:Int × Yu8)=>∀ (_:Unit),G (Yzc w F r) [.code Zlj,.inLoop Zlj,.inBlock 0,.code Zrh] [(1,.pointer (some ⟨gb14,0,none⟩)),(2,.pointer (some ⟨gb16,0,none⟩)),(3,.pointer (some ⟨gb18,0,none⟩)),(13,.int .i64 (x1.terms.length:Int)),(14,.int .i64 s.1)] [.box gb18 118 (Yuh s.2),.box gb16 118 (Yuh (⟨(fun _=>0),(fun _=>false)⟩:Yu8)),.box gb14 26 [.slice A2 n3 c4,.slice A6 n7 c8,.slice A10 n11 c12]] [Sm w.heap.size F w [],St w []])) ?_ hs
  clear hs s
  intro s o1 h hO1
  obtain ⟨x372,x373⟩:=s
  show ∀ (_:Unit),G (Yzc w F r) [.code Zlj,.inLoop Zlj,.inBlock 0,.code Zrh] [(1,.pointer (some ⟨gb14,0,none⟩)),(2,.pointer (some ⟨gb16,0,none⟩)),(3,.pointer (some ⟨gb18,0,none⟩)),(13,.int .i64 (x1.terms.length:Int)),(14,.int .i64 x372)] [.box gb18 118 (Yuh x373),.box gb16 118 (Yuh (⟨(fun _=>0),(fun _=>false)⟩:Yu8)),.box gb14 26 [.slice A2 n3 c4,.slice A6 n7 c8,.slice A10 n11 c12]] [Sm w.heap.size F w [],St w []]
  intro _
  have h:Yzf x1 x372 x373 o1:=h
  unfold Yzf at h
  refine Yu9 rfl<|Yu4 rfl rfl<|Yu2 0 rfl (Yug rfl rfl rfl) gn rfl<|Yua 1 rfl<|Yu9 rfl ?_
  by_cases hp726:x372 < (x1.terms.length:Int)
  ·have h:=Yul hp726 h
   refine Yv4 rfl _ rfl ((decide_eq_true hp726))<|Yv2 rfl<|Yu9 rfl<|Yuw rfl<|Yu9 rfl<|Yu4 rfl rfl<|Yu2 0 rfl (Yu3 rfl) gn rfl<|Yu2 1 rfl (Yu7 rfl) gn rfl<|Yua 2 rfl<|Yu4 rfl rfl<|Yu2 0 rfl (Yu3 rfl) gn rfl<|Yu2 1 rfl (Yu3 rfl) gn rfl ?_
   obtain ⟨hb727,h⟩:=h
   refine Yu2 2 rfl (v_shl rfl rfl hb727) gn rfl<|Yu2 3 rfl (Yub Zgq rfl) gn rfl ?_
   obtain ⟨hb728,h⟩:=h
   refine Yu2 4 rfl (Zi9 Zn4 rfl rfl hb728) gn rfl ?_
   obtain ⟨x729,hv730,h⟩:=h
   refine Yve 5 rfl (Zjx (cs':=(Yuh x729)) (m:=[.int .u64 (x373.first x372)]) (m':=[.int .u64 (Zim .u64 1 x372)]) 0 Zjs rfl rfl rfl (by rw [hv730]; exact (Pt.trans (Yyt x373 (upd x373.first x372 (Zim .u64 1 x372))) (Pt.arr (f:=x373.first) (enc:=fun y=>[.int .u64 y]) (fun _=>rfl) hb728 (Zim .u64 1 x372)))) rfl rfl rfl rfl ?_) gn
   refine Yua 6 rfl<|Yux<|Yu4 rfl rfl<|Yu2 0 rfl (Yug rfl rfl rfl) gn rfl<|Yu2 1 rfl (Yu3 rfl) gn rfl<|Yua 2 rfl<|Yv1 ?_
   have ih:=Out.inl hO1 h
   exact Yvh [0,1] (ih ()) ⟨rfl,rfl,rfl,rfl,rfl,trivial⟩ (.cons_cons _ (.cons_cons _ (.cons_cons _ (.slnil)))) rfl
  ·have h:=Yum hp726 h
   refine Yur rfl _ rfl ((decide_eq_false hp726))<|Ywa [.code Zrh] rfl rfl<|Yuw rfl<|Ywm rfl ?_
   have key2:∀ s,Yui (fun (s:Yu8) o=>Zb6 x1 s o) s o1→(fun (s:Yu8)=>∀ (_:Unit),G (Yzc w F r) [.code Zfd,.inLoop Zfd,.inBlock 2] [(1,.pointer (some ⟨gb14,0,none⟩)),(2,.pointer (some ⟨gb16,0,none⟩)),(3,.pointer (some ⟨gb18,0,none⟩))] [.box gb18 118 (Yuh s),.box gb16 118 (Yuh (⟨(fun _=>0),(fun _=>false)⟩:Yu8)),.box gb14 26 [.slice A2 n3 c4,.slice A6 n7 c8,.slice A10 n11 c12]] [Sm w.heap.size F w [],St w []]) s:=by
    intro s hs
    refine Yui.ind (mot:=(fun (s:Yu8)=>∀ (_:Unit),G (Yzc w F r) [.code Zfd,.inLoop Zfd,.inBlock 2] [(1,.pointer (some ⟨gb14,0,none⟩)),(2,.pointer (some ⟨gb16,0,none⟩)),(3,.pointer (some ⟨gb18,0,none⟩))] [.box gb18 118 (Yuh s),.box gb16 118 (Yuh (⟨(fun _=>0),(fun _=>false)⟩:Yu8)),.box gb14 26 [.slice A2 n3 c4,.slice A6 n7 c8,.slice A10 n11 c12]] [Sm w.heap.size F w [],St w []])) ?_ hs
    clear hs s
    intro x847 o2 h hO2
    show ∀ (_:Unit),G (Yzc w F r) [.code Zfd,.inLoop Zfd,.inBlock 2] [(1,.pointer (some ⟨gb14,0,none⟩)),(2,.pointer (some ⟨gb16,0,none⟩)),(3,.pointer (some ⟨gb18,0,none⟩))] [.box gb18 118 (Yuh x847),.box gb16 118 (Yuh (⟨(fun _=>0),(fun _=>false)⟩:Yu8)),.box gb14 26 [.slice A2 n3 c4,.slice A6 n7 c8,.slice A10 n11 c12]] [Sm w.heap.size F w [],St w []]
    intro _
    have h:Zb6 x1 x847 o2:=h
    unfold Zb6 at h
    refine Yuw rfl<|Yu9 rfl<|Yu4 rfl rfl<|Yu2 0 rfl (Zmm 0 Zoe rfl rfl (hp:=(Pt.refl _ (Yuh x847))) (Ywq x847)) gn rfl ?_
    refine Yve 1 rfl (Yye (Yuh (⟨(fun _=>0),(fun _=>false)⟩:Yu8)) Zod rfl fun gb963=>?_) gn
    obtain ⟨x965,hv966,h⟩:=h
    refine Yve 2 rfl (Zjx (cs':=(Yuh x965)) (m:=(Yuh (⟨(fun _=>0),(fun _=>false)⟩:Yu8))) (m':=(Yuh x847)) 0 Zlr rfl rfl rfl (by rw [hv966]; exact (Pt.refl _ (Yuh x847))) rfl (Ywq (⟨(fun _=>0),(fun _=>false)⟩:Yu8)) (Ywq x847) (Zcv x847) ?_) gn
    refine Yua 3 rfl<|Yu9 rfl<|Yu9 rfl<|Yu4 rfl rfl<|Yu2 0 rfl (Yub Yvf rfl) gn rfl<|Yu2 1 rfl (Yue 3 Ywb rfl rfl rfl) gn rfl<|Yu2 2 rfl (Yuo Za3 rfl h13.hq) gn rfl<|Yu2 3 rfl (Yu3 rfl) gn rfl<|Yua 4 rfl<|Yuw rfl<|Ywm rfl ?_
    have key3:∀ s,Yui (fun (s:Int × Yu8) o=>Yyf x1 x847 s.1 s.2 o) s o2→(fun (s:Int × Yu8)=>∀ (_:Unit),G (Yzc w F r) [.code Ziz,.inLoop Ziz,.inBlock 4,.code Zng,.inBlock 3,.inLoop Zfd,.inBlock 2] [(1,.pointer (some ⟨gb14,0,none⟩)),(2,.pointer (some ⟨gb16,0,none⟩)),(3,.pointer (some ⟨gb18,0,none⟩)),(5,.pointer (some ⟨gb963,0,none⟩)),(25,.slice A10 n11 c12),(26,.int .i64 (x1.prods.length:Int)),(27,.int .i64 s.1)] [.box gb963 118 (Yuh s.2),.box gb18 118 (Yuh x847),.box gb16 118 (Yuh (⟨(fun _=>0),(fun _=>false)⟩:Yu8)),.box gb14 26 [.slice A2 n3 c4,.slice A6 n7 c8,.slice A10 n11 c12]] [Sm w.heap.size F w [],St w []]) s:=by
     intro s hs
     refine Yui.ind (mot:=(fun (s:Int × Yu8)=>∀ (_:Unit),G (Yzc w F r) [.code Ziz,.inLoop Ziz,.inBlock 4,.code Zng,.inBlock 3,.inLoop Zfd,.inBlock 2] [(1,.pointer (some ⟨gb14,0,none⟩)),(2,.pointer (some ⟨gb16,0,none⟩)),(3,.pointer (some ⟨gb18,0,none⟩)),(5,.pointer (some ⟨gb963,0,none⟩)),(25,.slice A10 n11 c12),(26,.int .i64 (x1.prods.length:Int)),(27,.int .i64 s.1)] [.box gb963 118 (Yuh s.2),.box gb18 118 (Yuh x847),.box gb16 118 (Yuh (⟨(fun _=>0),(fun _=>false)⟩:Yu8)),.box gb14 26 [.slice A2 n3 c4,.slice A6 n7 c8,.slice A10 n11 c12]] [Sm w.heap.size F w [],St w []])) ?_ hs
     clear hs s
     intro s o3 h hO3
     obtain ⟨x1004,x1005⟩:=s
     show ∀ (_:Unit),G (Yzc w F r) [.code Ziz,.inLoop Ziz,.inBlock 4,.code Zng,.inBlock 3,.inLoop Zfd,.inBlock 2] [(1,.pointer (some ⟨gb14,0,none⟩)),(2,.pointer (some ⟨gb16,0,none⟩)),(3,.pointer (some ⟨gb18,0,none⟩)),(5,.pointer (some ⟨gb963,0,none⟩)),(25,.slice A10 n11 c12),(26,.int .i64 (x1.prods.length:Int)),(27,.int .i64 x1004)] [.box gb963 118 (Yuh x1005),.box gb18 118 (Yuh x847),.box gb16 118 (Yuh (⟨(fun _=>0),(fun _=>false)⟩:Yu8)),.box gb14 26 [.slice A2 n3 c4,.slice A6 n7 c8,.slice A10 n11 c12]] [Sm w.heap.size F w [],St w []]
     intro _
     have h:Yyf x1 x847 x1004 x1005 o3:=h
     unfold Yyf at h
     refine Yu9 rfl<|Yu4 rfl rfl<|Yu2 0 rfl (Yug rfl rfl rfl) gn rfl<|Yua 1 rfl<|Yu9 rfl ?_
     by_cases hp1042:x1004 < (x1.prods.length:Int)
     ·have h:=Yul hp1042 h
      refine Yv4 rfl _ rfl ((decide_eq_true hp1042))<|Yv2 rfl<|Yu9 rfl<|Yuw rfl<|Yu9 rfl<|Yu4 rfl rfl ?_
      obtain ⟨hb1043,h⟩:=h
      obtain ⟨ce1045,hK1046,hr1044⟩:=Rw.read (s:=St w []) h13 hb1043
      obtain ⟨A1047,n1048,c1049,rfl,h1050⟩:=hK1046
      refine Yu2 0 rfl (Yv7 (s:=St w []) Yxh rfl rfl h13 hb1043) gn rfl<|Yu2 1 rfl (Zdb (St w []) Zko rfl hr1044 rfl (me 1 rfl)) gn rfl ?_
      refine Yve 2 rfl (Yye [.int .i64 0,.slice none 0 0] Zl0 rfl fun gb1051=>?_) gn
      refine Yve 3 rfl (Za4 (vs:=[.int .i64 ((ix x1.prods x1004).lhs),.slice A1047 n1048 c1049]) (cs':=[.int .i64 ((ix x1.prods x1004).lhs),.slice A1047 n1048 c1049]) (M':=[.box gb1051 63 [.int .i64 ((ix x1.prods x1004).lhs),.slice A1047 n1048 c1049],.box gb963 118 (Yuh x1005),.box gb18 118 (Yuh x847),.box gb16 118 (Yuh (⟨(fun _=>0),(fun _=>false)⟩:Yu8)),.box gb14 26 [.slice A2 n3 c4,.slice A6 n7 c8,.slice A10 n11 c12]]) 0 Zkw rfl rfl rfl rfl rfl rfl rfl rfl rfl ?_) gn
      refine Yua 4 rfl<|Yu9 rfl<|Yu9 rfl<|Yu4 rfl rfl<|Yu2 0 rfl (Yub Yx3 rfl) gn rfl<|Yu2 1 rfl (Yue 0 Yvt rfl rfl rfl) gn rfl<|Yu2 2 rfl (Yug rfl rfl rfl) gn rfl<|Yua 3 rfl ?_
      by_cases hp1053:(ix x1.prods x1004).lhs < 0
      ·have h:=Yul hp1053 h
       refine Yv4 rfl _ rfl ((decide_eq_true hp1053))<|Ywa [.code q60c40,.inLoop Ziz,.inBlock 4,.code Zng,.inBlock 3,.inLoop Zfd,.inBlock 2] rfl rfl<|Yu4 rfl rfl<|Yu2 0 rfl (Yug rfl rfl rfl) gn rfl<|Yu2 1 rfl (Yu3 rfl) gn rfl<|Yua 2 rfl<|Yv1 ?_
       have ih:=Out.inl hO3 h
       exact Yvh [0,1] (ih ()) ⟨rfl,rfl,rfl,rfl,rfl,rfl,rfl,trivial⟩ (.cons _ (.cons_cons _ (.cons_cons _ (.cons_cons _ (.cons_cons _ (.slnil)))))) rfl
      ·have h:=Yum hp1053 h
       refine Yur rfl _ rfl ((decide_eq_false hp1053))<|Yv2 rfl<|Yu9 rfl<|Yu4 rfl rfl<|Yu2 0 rfl (Yub Yw7 rfl) gn rfl<|Yu2 1 rfl (Yue 4 Yz4 rfl rfl rfl) gn rfl<|Yu2 2 rfl (Yuo Yze rfl h5.hq) gn rfl<|Yu2 3 rfl (Yub Yx3 rfl) gn rfl<|Yu2 4 rfl (Yue 0 Yvt rfl rfl rfl) gn rfl<|Yu2 5 rfl (Yug rfl rfl rfl) gn rfl<|Yu2 6 rfl (Yu7 rfl) gn rfl<|Yua 7 rfl ?_
       refine Yu9 rfl<|Yu4 rfl rfl<|Yu2 0 rfl (Yub Yw1 rfl) gn rfl<|Yu2 1 rfl (Yue 0 Yyc rfl rfl rfl) gn rfl ?_
       obtain ⟨r1057,hv1058,h⟩:=h
       refine Yve 2 rfl (Yvz [.pointer (some ⟨gb963,0,none⟩),.slice A1047 n1048 c1049] rfl Tryd.func61 rfl rfl rfl fun w1054 hL1055=>?_) gn
       have hp1056:=pmI hL1055 (.c 1 rfl .n) (.c 0 rfl (.c 2 rfl (.c 3 rfl (.c 4 rfl .n)))) (by kernel_rfl)
       refine Calls.mono (Zjn w1054 (Fl ([]:List Yva)) x1005 ((ix x1.prods x1004).rhs) gb963 118 A1047 n1048 c1049 (Rw.mono h1050 (hL1055.toSt hp1056 (me 1 rfl))) (hL1055.hFl hp1056 (Yvm [] rfl)) (hL1055.into hp1056 _) r1057 hv1058) ?_
       rintro _ w1059 ⟨rfl,hM1060⟩
       have hL1061:=hL1055.call hp1056 hM1060
       refine ⟨_,_,_,rfl,hL1061,?_⟩
       refine Yu2 3 rfl (Yu3 rfl) gn rfl<|Yu2 4 rfl (Zja rfl rfl) gn rfl<|Yu2 5 rfl (Zja rfl rfl) gn rfl<|Yu2 6 rfl (Yu7 rfl) gn rfl<|Yu2 7 rfl (Yu7 rfl) gn rfl<|Yua 8 rfl<|Yu9 rfl<|Yu4 rfl rfl<|Yu2 0 rfl (Yu3 rfl) gn rfl<|Yu2 1 rfl (Yub Zgq rfl) gn rfl ?_
       obtain ⟨hb1062,h⟩:=h
       refine Yu2 2 rfl (Zi9 Zn4 rfl rfl hb1062) gn rfl<|Yu2 3 rfl (Zqd 0 Zdt rfl rfl (hp:=(Pt.trans (Yyt r1057.2.2 (upd r1057.2.2.first (w64 ((x1.terms.length:Int) + ((ix x1.prods x1004).lhs))) (r1057.2.2.first (w64 ((x1.terms.length:Int) + ((ix x1.prods x1004).lhs)))))) (Pt.arr (f:=r1057.2.2.first) (enc:=fun y=>[.int .u64 y]) (fun _=>rfl) hb1062 (r1057.2.2.first (w64 ((x1.terms.length:Int) + ((ix x1.prods x1004).lhs))))))) rfl) gn rfl<|Yu2 4 rfl (Yu3 rfl) gn rfl<|Yu2 5 rfl (Yug rfl rfl rfl) gn rfl<|Yu2 6 rfl (Yub Zgq rfl) gn rfl<|Yu2 7 rfl (Zi9 Zn4 rfl rfl hb1062) gn rfl ?_
       obtain ⟨x1063,hv1064,h⟩:=h
       refine Yve 8 rfl (Zjx (cs':=(Yuh x1063)) (m:=[.int .u64 (r1057.2.2.first (w64 ((x1.terms.length:Int) + ((ix x1.prods x1004).lhs))))]) (m':=[.int .u64 (bits .or .u64 (r1057.2.2.first (w64 ((x1.terms.length:Int) + ((ix x1.prods x1004).lhs)))) r1057.1)]) 0 Zjs rfl rfl rfl (by rw [hv1064]; exact (Pt.trans (Yyt r1057.2.2 (upd r1057.2.2.first (w64 ((x1.terms.length:Int) + ((ix x1.prods x1004).lhs))) (bits .or .u64 (r1057.2.2.first (w64 ((x1.terms.length:Int) + ((ix x1.prods x1004).lhs)))) r1057.1))) (Pt.arr (f:=r1057.2.2.first) (enc:=fun y=>[.int .u64 y]) (fun _=>rfl) hb1062 (bits .or .u64 (r1057.2.2.first (w64 ((x1.terms.length:Int) + ((ix x1.prods x1004).lhs)))) r1057.1)))) rfl rfl rfl rfl ?_) gn
       refine Yua 9 rfl<|Yu4 rfl rfl<|Yu2 0 rfl (Yu3 rfl) gn rfl<|Yu2 1 rfl (Yu3 rfl) gn rfl<|Yu2 2 rfl (Yub Zgn rfl) gn rfl<|Yu2 3 rfl (Zi9 Zo0 rfl rfl hb1062) gn rfl<|Yu2 4 rfl (Zqd 0 Zlq rfl rfl (hp:=(Pt.trans (Yy4 x1063 (upd x1063.vanishes (w64 ((x1.terms.length:Int) + ((ix x1.prods x1004).lhs))) (x1063.vanishes (w64 ((x1.terms.length:Int) + ((ix x1.prods x1004).lhs)))))) (Pt.arr (f:=x1063.vanishes) (enc:=fun y=>[.bool y]) (fun _=>rfl) hb1062 (x1063.vanishes (w64 ((x1.terms.length:Int) + ((ix x1.prods x1004).lhs))))))) rfl) gn rfl<|Yu2 5 rfl (Yu3 rfl) gn rfl ?_
       by_cases hp1065:(x1063.vanishes (w64 ((x1.terms.length:Int) + ((ix x1.prods x1004).lhs))))=true
       ·have h:=Yul hp1065 h
        refine Yvi 59 rfl (hp1065)<|Yu6 6 rfl (ps 59 rfl rfl rfl)<|Yu2 7 rfl (Yuk (b:=true) rfl rfl) gn rfl<|Yu2 8 rfl (Yub Zgn rfl) gn rfl<|Yu2 9 rfl (Zi9 Zo0 rfl rfl hb1062) gn rfl ?_
        obtain ⟨x1066,hv1067,h⟩:=h
        refine Yve 10 rfl (Zjx (cs':=(Yuh x1066)) (m:=[.bool (x1063.vanishes (w64 ((x1.terms.length:Int) + ((ix x1.prods x1004).lhs))))]) (m':=[.bool true]) 0 sz_4 rfl rfl rfl (by rw [hv1067]; exact (Pt.trans (Yy4 x1063 (upd x1063.vanishes (w64 ((x1.terms.length:Int) + ((ix x1.prods x1004).lhs))) true)) (Pt.arr (f:=x1063.vanishes) (enc:=fun y=>[.bool y]) (fun _=>rfl) hb1062 true))) rfl rfl rfl rfl ?_) gn
        refine Yua 11 rfl<|Yux<|Yu4 rfl rfl<|Yu2 0 rfl (Yug rfl rfl rfl) gn rfl<|Yu2 1 rfl (Yu3 rfl) gn rfl<|Yua 2 rfl<|Yv1 ?_
        have ih:=Out.inl hO3 h
        exact Yvh [0,1] (ih ()) ⟨rfl,rfl,rfl,rfl,rfl,rfl,rfl,trivial⟩ (.cons_cons _ (.cons _ (.cons_cons _ (.cons_cons _ (.cons_cons _ (.slnil)))))) rfl
       ·have h:=Yum hp1065 h
        refine Yvi 59 rfl ((bf hp1065))<|Yu2 6 rfl (Yu3 rfl) (gy 59 rfl rfl) rfl<|Yu2 7 rfl (Yuk (b:=false) rfl rfl) gn rfl<|Yu2 8 rfl (Yub Zgn rfl) gn rfl<|Yu2 9 rfl (Zi9 Zo0 rfl rfl hb1062) gn rfl ?_
        obtain ⟨x1068,hv1069,h⟩:=h
        refine Yve 10 rfl (Zjx (cs':=(Yuh x1068)) (m:=[.bool (x1063.vanishes (w64 ((x1.terms.length:Int) + ((ix x1.prods x1004).lhs))))]) (m':=[.bool r1057.2.1]) 0 sz_4 rfl rfl rfl (by rw [hv1069]; exact (Pt.trans (Yy4 x1063 (upd x1063.vanishes (w64 ((x1.terms.length:Int) + ((ix x1.prods x1004).lhs))) r1057.2.1)) (Pt.arr (f:=x1063.vanishes) (enc:=fun y=>[.bool y]) (fun _=>rfl) hb1062 r1057.2.1))) rfl rfl rfl rfl ?_) gn
        refine Yua 11 rfl<|Yux<|Yu4 rfl rfl<|Yu2 0 rfl (Yug rfl rfl rfl) gn rfl<|Yu2 1 rfl (Yu3 rfl) gn rfl<|Yua 2 rfl<|Yv1 ?_
        have ih:=Out.inl hO3 h
        exact Yvh [0,1] (ih ()) ⟨rfl,rfl,rfl,rfl,rfl,rfl,rfl,trivial⟩ (.cons_cons _ (.cons _ (.cons_cons _ (.cons_cons _ (.cons_cons _ (.slnil)))))) rfl
     ·have h:=Yum hp1042 h
      refine Yur rfl _ rfl ((decide_eq_false hp1042))<|Ywa [.code Zng,.inBlock 3,.inLoop Zfd,.inBlock 2] rfl rfl<|Yu9 rfl<|Yu9 rfl<|Yu4 rfl rfl<|Yu2 0 rfl (Yub Zgq rfl) gn rfl<|Yu2 1 rfl (Zmm 0 ld_115 rfl rfl (hp:=(Yyt x1005 x1005.first)) (Zfs (sz:=1) (f:=fun j=>[.int .u64 (x1005.first j)]) (fun j=>rfl) 192)) gn rfl<|Yu2 2 rfl (Yub Zgq rfl) gn rfl<|Yu2 3 rfl (Zmm 1 ld_115 rfl rfl (hp:=(Yyt x847 x847.first)) (Zfs (sz:=1) (f:=fun j=>[.int .u64 (x847.first j)]) (fun j=>rfl) 192)) gn rfl<|Yu2 4 rfl (v_eqA (f1:=x1005.first) (f2:=x847.first) (enc:=fun y=>.int .u64 y) ae_115 rfl rfl (fun a b=>by simp [Zhc,int_dec])) gn rfl<|Yu2 5 rfl (Yu3 rfl) gn rfl ?_
      by_cases hp1070:(aeq 192 x1005.first x847.first)=true
      ·have h:=Yul hp1070 h
       refine Yvi 70 rfl (hp1070)<|Yu2 6 rfl (Yub Zgn rfl) (gy 70 rfl rfl) rfl<|Yu2 7 rfl (Zmm 0 ld_116 rfl rfl (hp:=(Yy4 x1005 x1005.vanishes)) (Zfs (sz:=1) (f:=fun j=>[.bool (x1005.vanishes j)]) (fun j=>rfl) 192)) (gy 70 rfl rfl) rfl<|Yu2 8 rfl (Yub Zgn rfl) (gy 70 rfl rfl) rfl<|Yu2 9 rfl (Zmm 1 ld_116 rfl rfl (hp:=(Yy4 x847 x847.vanishes)) (Zfs (sz:=1) (f:=fun j=>[.bool (x847.vanishes j)]) (fun j=>rfl) 192)) (gy 70 rfl rfl) rfl<|Yu2 10 rfl (v_eqA (f1:=x1005.vanishes) (f2:=x847.vanishes) (enc:=fun y=>.bool y) ae_116 rfl rfl (fun a b=>by simp [Zhc,bool_dec])) (gy 70 rfl rfl) rfl<|Yu2 11 rfl (Yuk (b:=true) rfl rfl) gn rfl<|Yua 12 rfl ?_
       by_cases hp1071:(aeq 192 x1005.vanishes x847.vanishes)=true
       ·have h:=Yul hp1071 h
        refine Yv4 rfl _ rfl (hp1071)<|Yu9 rfl<|Yu4 rfl rfl<|Yu2 0 rfl (Zmm 1 Zoe rfl rfl (hp:=(Pt.refl _ (Yuh x847))) (Ywq x847)) gn rfl ?_
        obtain ⟨x1072,hv1073,h⟩:=h
        refine Yve 1 rfl (Zjx (cs':=(Yuh x1072)) (m:=(Yuh (⟨(fun _=>0),(fun _=>false)⟩:Yu8))) (m':=(Yuh x847)) 2 Zlr rfl rfl rfl (by rw [hv1073]; exact (Pt.refl _ (Yuh x847))) rfl (Ywq (⟨(fun _=>0),(fun _=>false)⟩:Yu8)) (Ywq x847) (Zcv x847) ?_) gn
        refine Yua 2 rfl ?_
        have h:=Out.inr hO3 h
        have h:=Out.inr hO2 h
        have h:=Out.inr hO1 h
        refine Yvb [.agg (Yuh x1072).toArray] rfl Tryd.func60 rfl (.cell (cs:=(Yuh x1072)) (us:=(Yuh x1072)) 2 rfl Zoe rfl (bigtake (Ywq x1072)) (Ywq x1072) (.nil)) fun wr hLr=>?_
        have hMr:=hLr.pk0 (.c 1 rfl .n)
        show Zh4 w F  r (.returned (Yvl [.agg (Yuh x1072).toArray])) wr
        rw [h]
        exact ⟨rfl,hMr⟩
       ·have h:=Yum hp1071 h
        refine Yur rfl _ rfl ((bf hp1071))<|Yv2 rfl<|Yu4 rfl rfl<|Yu2 0 rfl (Zmm 0 Zoe rfl rfl (hp:=(Pt.refl _ (Yuh x1005))) (Ywq x1005)) gn rfl ?_
        obtain ⟨x1074,hv1075,h⟩:=h
        refine Yve 1 rfl (Zjx (cs':=(Yuh x1074)) (m:=(Yuh x847)) (m':=(Yuh x1005)) 1 Zlr rfl rfl rfl (by rw [hv1075]; exact (Pt.refl _ (Yuh x1005))) rfl (Ywq x847) (Ywq x1005) (Zcv x1005) ?_) gn
        refine Yua 2 rfl<|Yux<|Yv1 ?_
        have h:=Out.inr hO3 h
        have ih:=Out.inl hO2 h
        exact Yvh [0,1] (ih ()) ⟨rfl,rfl,rfl,trivial⟩ (.cons _ (.cons_cons _ (.cons_cons _ (.cons_cons _ (.slnil))))) rfl
      ·have h:=Yum hp1070 h
       refine Yvi 70 rfl ((bf hp1070))<|Yu6 6 rfl (ps 70 rfl rfl rfl)<|Yu6 7 rfl (ps 70 rfl rfl rfl)<|Yu6 8 rfl (ps 70 rfl rfl rfl)<|Yu6 9 rfl (ps 70 rfl rfl rfl)<|Yu6 10 rfl (ps 70 rfl rfl rfl)<|Yu2 11 rfl (Yuk (b:=false) rfl rfl) gn rfl<|Yua 12 rfl<|Yur rfl _ rfl (rfl)<|Yv2 rfl<|Yu4 rfl rfl<|Yu2 0 rfl (Zmm 0 Zoe rfl rfl (hp:=(Pt.refl _ (Yuh x1005))) (Ywq x1005)) gn rfl ?_
       obtain ⟨x1076,hv1077,h⟩:=h
       refine Yve 1 rfl (Zjx (cs':=(Yuh x1076)) (m:=(Yuh x847)) (m':=(Yuh x1005)) 1 Zlr rfl rfl rfl (by rw [hv1077]; exact (Pt.refl _ (Yuh x1005))) rfl (Ywq x847) (Ywq x1005) (Zcv x1005) ?_) gn
       refine Yua 2 rfl<|Yux<|Yv1 ?_
       have h:=Out.inr hO3 h
       have ih:=Out.inl hO2 h
       exact Yvh [0,1] (ih ()) ⟨rfl,rfl,rfl,trivial⟩ (.cons _ (.cons_cons _ (.cons_cons _ (.cons_cons _ (.slnil))))) rfl
    exact Yvh [0,1] (key3 _ h ()) ⟨rfl,rfl,rfl,rfl,rfl,rfl,rfl,trivial⟩ (.cons_cons _ (.cons_cons _ (.cons_cons _ (.cons_cons _ (.slnil))))) rfl
   exact Yvh [0,1] (key2 _ h ()) ⟨rfl,rfl,rfl,trivial⟩ (.cons_cons _ (.cons_cons _ (.cons_cons _ (.slnil)))) rfl
 exact Yvh [0,1] (key1 _ h ()) ⟨rfl,rfl,rfl,rfl,rfl,trivial⟩ (.cons_cons _ (.cons_cons _ (.cons_cons _ (.slnil)))) rfl
abbrev Zdk (w:World) (F:Nat→Prop) (r:List Bool):Ending→World→Prop:=fun e w'=>∃ A0:Option Addr,∃ n0:Nat,∃ c0:Nat,e=.returned (.slice A0 n0 c0)∧B.Loc w w' [.own (.slice A0 n0 c0) 4 1 n0 (r.flatMap eB)] [St w []]∧Ow w.heap.size A0 n0 c0 r
noncomputable abbrev Zlu (w:World) (F:Nat→Prop) (r:List Bool):Cx:=⟨Tryd.prog,51,Tryd.f51,19,Zdk w F  r,w⟩
theorem Zio (w:World) (F:Nat→Prop) (x1:Yu5) (A2:Option Addr) (n3:Nat) (c4:Nat) (A6:Option Addr) (n7:Nat) (c8:Nat) (A10:Option Addr) (n11:Nat) (c12:Nat) (h5:Rw Yuj w (St w []).av A2 n3 c4 x1.terms) (h9:Rw Yuq w (St w []).av A6 n7 c8 x1.syms) (h13:Rw Yun w (St w []).av A10 n11 c12 x1.prods) (hF:∀ b,F b→b < w.heap.size∧∀ o ∈ ([]:List (List Nat)),b ∉ o) (hL0:B.Loc w w [] [Sm w.heap.size F w [],St w []]) (r:List Bool) (h:Zdc x1 r):Calls Tryd.prog 51 #[.agg #[.slice A2 n3 c4,.slice A6 n7 c8,.slice A10 n11 c12]] w (Zdk w F  r):=by
 unfold Zdc at h
 refine Yv5 (vs:=[.agg #[.slice A2 n3 c4,.slice A6 n7 c8,.slice A10 n11 c12]]) 19 Tryd.func51 rfl Tryd.ntmps51 rfl hL0 ?_
 show G (Zlu w F r) _ _ _ _
 refine Yu9 rfl<|Yu4 rfl rfl ?_
 refine Yve 0 rfl (Zas [.slice A2 n3 c4,.slice A6 n7 c8,.slice A10 n11 c12] rfl rfl rfl fun gb14=>?_) gn
 refine Yu2 1 rfl (Yu7 rfl) gn rfl<|Yua 2 rfl<|Yu9 rfl<|Yu9 rfl<|Yu4 rfl rfl<|Yu2 0 rfl (Yyr [.slice A2 n3 c4,.slice A6 n7 c8,.slice A10 n11 c12] 0 Yys rfl rfl rfl rfl) gn rfl ?_
 obtain ⟨r19,hv20,h⟩:=h
 refine Yve 1 rfl (Yvz [.agg #[.slice A2 n3 c4,.slice A6 n7 c8,.slice A10 n11 c12]] rfl Tryd.func58 rfl rfl rfl fun w16 hL17=>?_) gn
 have hp18:=pmI hL17 .n (.c 0 rfl .n) (by kernel_rfl)
 refine Calls.mono (Zh0 w16 (Fl ([]:List Yva)) x1 A2 n3 c4 A6 n7 c8 A10 n11 c12 (Rw.mono h5 (hL17.toSt hp18 (me 1 rfl))) (Rw.mono h9 (hL17.toSt hp18 (me 1 rfl))) (Rw.mono h13 (hL17.toSt hp18 (me 1 rfl))) (hL17.hFl hp18 (Yvm [] rfl)) (hL17.into hp18 _) r19 hv20) ?_
 rintro _ w21 ⟨rfl,hM22⟩
 have hL23:=hL17.call hp18 hM22
 refine ⟨_,_,_,rfl,hL23,?_⟩
 refine Yu2 2 rfl (Zf9 rfl) gn rfl<|Yua 3 rfl ?_
 by_cases hp24:r19=true
 ·have h:=Yul hp24 h
  refine Yur rfl _ rfl ((nf hp24))<|Yv2 rfl<|Yu9 rfl<|Yu4 rfl rfl<|Yu2 0 rfl (Yyr [.slice A2 n3 c4,.slice A6 n7 c8,.slice A10 n11 c12] 0 Yys rfl rfl rfl rfl) gn rfl ?_
  obtain ⟨r28,hv29,h⟩:=h
  refine Yve 1 rfl (Yvz [.agg #[.slice A2 n3 c4,.slice A6 n7 c8,.slice A10 n11 c12]] rfl Tryd.func60 rfl rfl rfl fun w25 hL26=>?_) gn
  have hp27:=pmI hL26 .n (.c 0 rfl .n) (by kernel_rfl)
  refine Calls.mono (Zgz w25 (Fl ([]:List Yva)) x1 A2 n3 c4 A6 n7 c8 A10 n11 c12 (Rw.mono h5 (hL26.toSt hp27 (me 1 rfl))) (Rw.mono h9 (hL26.toSt hp27 (me 1 rfl))) (Rw.mono h13 (hL26.toSt hp27 (me 1 rfl))) (hL26.hFl hp27 (Yvm [] rfl)) (hL26.into hp27 _) r28 hv29) ?_
  rintro _ w30 ⟨rfl,hM31⟩
  have hL32:=hL26.call hp27 hM31
  refine ⟨_,_,_,rfl,hL32,?_⟩
  refine Yve 2 rfl (Yye (Yuh (⟨(fun _=>0),(fun _=>false)⟩:Yu8)) Zod rfl fun gb33=>?_) gn
  obtain ⟨x35,hv36,h⟩:=h
  refine Yve 3 rfl (Zjx (cs':=(Yuh x35)) (m:=(Yuh (⟨(fun _=>0),(fun _=>false)⟩:Yu8))) (m':=(Yuh r28)) 0 Zlr rfl rfl rfl (by rw [hv36]; exact (Pt.refl _ (Yuh r28))) rfl (Ywq (⟨(fun _=>0),(fun _=>false)⟩:Yu8)) (Ywq r28) (Zcv r28) ?_) gn
  refine Yua 4 rfl<|Yu9 rfl<|Yu4 rfl rfl<|Yu2 0 rfl (Yub Zgn rfl) gn rfl<|Yu2 1 rfl (Yub Yw7 rfl) gn rfl<|Yu2 2 rfl (Yue 1 Yz4 rfl rfl rfl) gn rfl<|Yu2 3 rfl (Yuo Yze rfl h5.hq) gn rfl<|Yu2 4 rfl (Yub Yxd rfl) gn rfl<|Yu2 5 rfl (Yue 1 Zak rfl rfl rfl) gn rfl<|Yu2 6 rfl (Yuo Zbm rfl h9.hq) gn rfl<|Yu2 7 rfl (Yug rfl rfl rfl) gn rfl ?_
  obtain ⟨hb37,h⟩:=h
  refine Yu2 8 rfl (v_cutB (hv:=w64 ((x1.terms.length:Int) + (x1.syms.length:Int))) Zo0 rfl (by_ rfl) hb37) gn rfl ?_
  obtain ⟨x42,hv43,h⟩:=h
  obtain ⟨hb44,h⟩:=h
  refine Zp6 4 1 ?_
  refine Yve 9 rfl (Zdj (zs:=x42) (cells':=x42.flatMap eB) 0 ap_103 rfl rfl rfl (Ow.nil (z:=w.heap.size)) (Nat.le_refl _) (Src.box (f:=x35.vanishes) (enc:=fun y=>[.bool y]) 1 rfl (Yy4 x35 x35.vanishes) (fun _=>rfl) (fun _ u hu=>List.all_eq_true.1 rfl u hu) (by have:=hb37; omega)) (by rw [hv43,List.flatMap_append] <;> rfl) (Yzh hv43 (by rw [List.length_map,List.length_range])) hb44 rfl rfl fun A39 c40 h41=>?_) gn
  refine Yu2 10 rfl (Yu7 rfl) gn rfl<|Yua 11 rfl ?_
  refine Yvb [.slice A39 (0 + ((w64 ((x1.terms.length:Int) + (x1.syms.length:Int)):Int).toNat)) c40] rfl Tryd.func51 rfl (.tmp rfl (.nil)) fun wr hLr=>?_
  have hMr:=hLr.pkI (.c 0 rfl .n) (.c 1 rfl (.c 2 rfl .n)) (by kernel_rfl) (.c 1 rfl .n)
  show Zdk w F  r (.returned (Yvl [.slice A39 (0 + ((w64 ((x1.terms.length:Int) + (x1.syms.length:Int)):Int).toNat)) c40])) wr
  rw [h]
  exact ⟨A39,0 + ((w64 ((x1.terms.length:Int) + (x1.syms.length:Int)):Int).toNat),c40,rfl,hMr,h41⟩
 ·have h:=Yum hp24 h
  refine Yv4 rfl _ rfl ((nt (bf hp24)))<|Yu9 rfl<|Yu4 rfl rfl<|Yu2 0 rfl (Yu7 rfl) gn rfl<|Yua 1 rfl<|Zf4 4 1 ?_
  refine Yvb [.slice none 0 0] rfl Tryd.func51 rfl (.tmp rfl (.nil)) fun wr hLr=>?_
  have hMr:=hLr.pkI (.c 0 rfl .n) (.c 1 rfl .n) (by kernel_rfl) (.c 1 rfl .n)
  show Zdk w F  r (.returned (Yvl [.slice none 0 0])) wr
  rw [h]
  exact ⟨none,0,0,rfl,hMr,(Ow.nil (z:=w.heap.size))⟩
abbrev Zfm (w:World) (F:Nat→Prop) (r:List Int):Ending→World→Prop:=fun e w'=>∃ A0:Option Addr,∃ n0:Nat,∃ c0:Nat,e=.returned (.slice A0 n0 c0)∧B.Loc w w' [.own (.slice A0 n0 c0) 76 1 n0 (r.flatMap (eI .u64))] [St w []]∧Ow w.heap.size A0 n0 c0 r
noncomputable abbrev Zoh (w:World) (F:Nat→Prop) (r:List Int):Cx:=⟨Tryd.prog,52,Tryd.f52,19,Zfm w F  r,w⟩
theorem Zl7 (w:World) (F:Nat→Prop) (x1:Yu5) (A2:Option Addr) (n3:Nat) (c4:Nat) (A6:Option Addr) (n7:Nat) (c8:Nat) (A10:Option Addr) (n11:Nat) (c12:Nat) (h5:Rw Yuj w (St w []).av A2 n3 c4 x1.terms) (h9:Rw Yuq w (St w []).av A6 n7 c8 x1.syms) (h13:Rw Yun w (St w []).av A10 n11 c12 x1.prods) (hF:∀ b,F b→b < w.heap.size∧∀ o ∈ ([]:List (List Nat)),b ∉ o) (hL0:B.Loc w w [] [Sm w.heap.size F w [],St w []]) (r:List Int) (h:Zfp x1 r):Calls Tryd.prog 52 #[.agg #[.slice A2 n3 c4,.slice A6 n7 c8,.slice A10 n11 c12]] w (Zfm w F  r):=by
 unfold Zfp at h
 refine Yv5 (vs:=[.agg #[.slice A2 n3 c4,.slice A6 n7 c8,.slice A10 n11 c12]]) 19 Tryd.func52 rfl Tryd.ntmps52 rfl hL0 ?_
 show G (Zoh w F r) _ _ _ _
 refine Yu9 rfl<|Yu4 rfl rfl ?_
 refine Yve 0 rfl (Zas [.slice A2 n3 c4,.slice A6 n7 c8,.slice A10 n11 c12] rfl rfl rfl fun gb14=>?_) gn
 refine Yu2 1 rfl (Yu7 rfl) gn rfl<|Yua 2 rfl<|Yu9 rfl<|Yu9 rfl<|Yu4 rfl rfl<|Yu2 0 rfl (Yyr [.slice A2 n3 c4,.slice A6 n7 c8,.slice A10 n11 c12] 0 Yys rfl rfl rfl rfl) gn rfl ?_
 obtain ⟨r19,hv20,h⟩:=h
 refine Yve 1 rfl (Yvz [.agg #[.slice A2 n3 c4,.slice A6 n7 c8,.slice A10 n11 c12]] rfl Tryd.func58 rfl rfl rfl fun w16 hL17=>?_) gn
 have hp18:=pmI hL17 .n (.c 0 rfl .n) (by kernel_rfl)
 refine Calls.mono (Zh0 w16 (Fl ([]:List Yva)) x1 A2 n3 c4 A6 n7 c8 A10 n11 c12 (Rw.mono h5 (hL17.toSt hp18 (me 1 rfl))) (Rw.mono h9 (hL17.toSt hp18 (me 1 rfl))) (Rw.mono h13 (hL17.toSt hp18 (me 1 rfl))) (hL17.hFl hp18 (Yvm [] rfl)) (hL17.into hp18 _) r19 hv20) ?_
 rintro _ w21 ⟨rfl,hM22⟩
 have hL23:=hL17.call hp18 hM22
 refine ⟨_,_,_,rfl,hL23,?_⟩
 refine Yu2 2 rfl (Zf9 rfl) gn rfl<|Yua 3 rfl ?_
 by_cases hp24:r19=true
 ·have h:=Yul hp24 h
  refine Yur rfl _ rfl ((nf hp24))<|Yv2 rfl<|Yu9 rfl<|Yu4 rfl rfl<|Yu2 0 rfl (Yyr [.slice A2 n3 c4,.slice A6 n7 c8,.slice A10 n11 c12] 0 Yys rfl rfl rfl rfl) gn rfl ?_
  obtain ⟨r28,hv29,h⟩:=h
  refine Yve 1 rfl (Yvz [.agg #[.slice A2 n3 c4,.slice A6 n7 c8,.slice A10 n11 c12]] rfl Tryd.func60 rfl rfl rfl fun w25 hL26=>?_) gn
  have hp27:=pmI hL26 .n (.c 0 rfl .n) (by kernel_rfl)
  refine Calls.mono (Zgz w25 (Fl ([]:List Yva)) x1 A2 n3 c4 A6 n7 c8 A10 n11 c12 (Rw.mono h5 (hL26.toSt hp27 (me 1 rfl))) (Rw.mono h9 (hL26.toSt hp27 (me 1 rfl))) (Rw.mono h13 (hL26.toSt hp27 (me 1 rfl))) (hL26.hFl hp27 (Yvm [] rfl)) (hL26.into hp27 _) r28 hv29) ?_
  rintro _ w30 ⟨rfl,hM31⟩
  have hL32:=hL26.call hp27 hM31
  refine ⟨_,_,_,rfl,hL32,?_⟩
  refine Yve 2 rfl (Yye (Yuh (⟨(fun _=>0),(fun _=>false)⟩:Yu8)) Zod rfl fun gb33=>?_) gn
  obtain ⟨x35,hv36,h⟩:=h
  refine Yve 3 rfl (Zjx (cs':=(Yuh x35)) (m:=(Yuh (⟨(fun _=>0),(fun _=>false)⟩:Yu8))) (m':=(Yuh r28)) 0 Zlr rfl rfl rfl (by rw [hv36]; exact (Pt.refl _ (Yuh r28))) rfl (Ywq (⟨(fun _=>0),(fun _=>false)⟩:Yu8)) (Ywq r28) (Zcv r28) ?_) gn
  refine Yua 4 rfl<|Yu9 rfl<|Yu4 rfl rfl<|Yu2 0 rfl (Yub Zgq rfl) gn rfl<|Yu2 1 rfl (Yub Yw7 rfl) gn rfl<|Yu2 2 rfl (Yue 1 Yz4 rfl rfl rfl) gn rfl<|Yu2 3 rfl (Yuo Yze rfl h5.hq) gn rfl<|Yu2 4 rfl (Yub Yxd rfl) gn rfl<|Yu2 5 rfl (Yue 1 Zak rfl rfl rfl) gn rfl<|Yu2 6 rfl (Yuo Zbm rfl h9.hq) gn rfl<|Yu2 7 rfl (Yug rfl rfl rfl) gn rfl ?_
  obtain ⟨hb37,h⟩:=h
  refine Yu2 8 rfl (v_cutB (hv:=w64 ((x1.terms.length:Int) + (x1.syms.length:Int))) Zn4 rfl (by_ rfl) hb37) gn rfl ?_
  obtain ⟨x42,hv43,h⟩:=h
  obtain ⟨hb44,h⟩:=h
  refine Zp6 76 1 ?_
  refine Yve 9 rfl (Zdj (zs:=x42) (cells':=x42.flatMap (eI .u64)) 0 ap_70 rfl rfl rfl (Ow.nil (z:=w.heap.size)) (Nat.le_refl _) (Src.box (f:=x35.first) (enc:=fun y=>[.int .u64 y]) 1 rfl (Yyt x35 x35.first) (fun _=>rfl) (fun _ u hu=>List.all_eq_true.1 rfl u hu) (by have:=hb37; omega)) (by rw [hv43,List.flatMap_append] <;> rfl) (Yzh hv43 (by rw [List.length_map,List.length_range])) hb44 rfl rfl fun A39 c40 h41=>?_) gn
  refine Yu2 10 rfl (Yu7 rfl) gn rfl<|Yua 11 rfl ?_
  refine Yvb [.slice A39 (0 + ((w64 ((x1.terms.length:Int) + (x1.syms.length:Int)):Int).toNat)) c40] rfl Tryd.func52 rfl (.tmp rfl (.nil)) fun wr hLr=>?_
  have hMr:=hLr.pkI (.c 0 rfl .n) (.c 1 rfl (.c 2 rfl .n)) (by kernel_rfl) (.c 1 rfl .n)
  show Zfm w F  r (.returned (Yvl [.slice A39 (0 + ((w64 ((x1.terms.length:Int) + (x1.syms.length:Int)):Int).toNat)) c40])) wr
  rw [h]
  exact ⟨A39,0 + ((w64 ((x1.terms.length:Int) + (x1.syms.length:Int)):Int).toNat),c40,rfl,hMr,h41⟩
 ·have h:=Yum hp24 h
  refine Yv4 rfl _ rfl ((nt (bf hp24)))<|Yu9 rfl<|Yu4 rfl rfl<|Yu2 0 rfl (Yu7 rfl) gn rfl<|Yua 1 rfl<|Zf4 76 1 ?_
  refine Yvb [.slice none 0 0] rfl Tryd.func52 rfl (.tmp rfl (.nil)) fun wr hLr=>?_
  have hMr:=hLr.pkI (.c 0 rfl .n) (.c 1 rfl .n) (by kernel_rfl) (.c 1 rfl .n)
  show Zfm w F  r (.returned (Yvl [.slice none 0 0])) wr
  rw [h]
  exact ⟨none,0,0,rfl,hMr,(Ow.nil (z:=w.heap.size))⟩
end Go.Proofs.YtadcichlnacagaaDoor.K
