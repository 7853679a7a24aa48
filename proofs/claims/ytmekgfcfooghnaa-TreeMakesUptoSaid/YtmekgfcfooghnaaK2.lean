/- What the machine's calls do, function by function, printed by my own tool. Condition of each: its relation holds of the answer, and what is handed in lies in memory as told. -/
import Derived.Test.YtmekgfcfooghnaaK1
set_option linter.unusedVariables false
set_option maxRecDepth 100000
set_option maxHeartbeats 4000000
namespace Go.Proofs.Ytmekgfcfooghnaa.K
open Go.Proofs.Ytmekgfcfooghnaa.B Go.Proofs.Ytmekgfcfooghnaa.R Go.RowKit
noncomputable abbrev q26c4:=Code.snd (Code.snd (Xnv Try.f26))
noncomputable abbrev q26c6:=Code.snd (Code.fst (Code.snd (Xnv Try.f26)))
noncomputable abbrev q26c11:=Code.fst q26c4
abbrev Xr3 (w:World) (F:Nat→Prop) (r:List Xm4):Ending→World→Prop:=fun e w'=>∃ A0:Option Addr,∃ n0:Nat,∃ c0:Nat,e=.returned (.slice A0 n0 c0)∧B.Loc w w' [.own (.slice A0 n0 c0) 39 7 n0 (r.flatMap Xme)] [St w []]∧Ow w.heap.size A0 n0 c0 r
noncomputable abbrev Xu0 (w:World) (F:Nat→Prop) (r:List Xm4):Cx:=⟨Try.prog,26,Try.f26,41,Xr3 w F  r,w⟩
theorem Xvl (w:World) (F:Nat→Prop) (x1:Xml) (x46:Int) (x47:Int) (x48:Int) (x49:Int) (A2:Option Addr) (n3:Nat) (c4:Nat) (A6:Option Addr) (n7:Nat) (c8:Nat) (A10:Option Addr) (n11:Nat) (c12:Nat) (A14:Option Addr) (n15:Nat) (c16:Nat) (A18:Option Addr) (n19:Nat) (c20:Nat) (A22:Option Addr) (n23:Nat) (c24:Nat) (A26:Option Addr) (n27:Nat) (c28:Nat) (A30:Option Addr) (n31:Nat) (c32:Nat) (A34:Option Addr) (n35:Nat) (c36:Nat) (A38:Option Addr) (n39:Nat) (c40:Nat) (A42:Option Addr) (n43:Nat) (c44:Nat) (h5:Rw Xoq w (St w []).av A2 n3 c4 x1.modes) (h9:Rw Xng w (St w []).av A6 n7 c8 x1.gram.terms) (h13:Rw Xor w (St w []).av A10 n11 c12 x1.gram.syms) (h17:Rw Xo9 w (St w []).av A14 n15 c16 x1.gram.prods) (h21:Rw Xqc w (St w []).av A18 n19 c20 x1.rules) (h25:Rw (Kd.slice Xol) w (St w []).av A22 n23 c24 x1.table.actions) (h29:Rw (Kd.slice (Xs2 .i64)) w (St w []).av A26 n27 c28 x1.table.gotos) (h33:Rw Xoc w (St w []).av A30 n31 c32 x1.paints) (h37:Rw Xz4 w (St w []).av A34 n35 c36 x1.folds) (h41:Rw Xop w (St w []).av A38 n39 c40 x1.marks) (h45:Rw Xo4 w (St w []).av A42 n43 c44 x1.injects) (hF:∀ b,F b→b < w.heap.size∧∀ o ∈ ([]:List (List Nat)),b ∉ o) (hL0:B.Loc w w [] [Sm w.heap.size F w [],St w []]) (r:List Xm4) (h:Xqt x1 x46 x47 x48 x49 r):Calls Try.prog 26 #[.agg #[.string x1.name,.slice A2 n3 c4,.slice A6 n7 c8,.slice A10 n11 c12,.slice A14 n15 c16,.slice A18 n19 c20,.slice A22 n23 c24,.slice A26 n27 c28,.slice A30 n31 c32,.slice A34 n35 c36,.slice A38 n39 c40,.slice A42 n43 c44],.int .i64 x46,.int .i64 x47,.int .i64 x48,.int .i64 x49] w (Xr3 w F  r):=by
 unfold Xqt at h
 refine Xmq (vs:=[.agg #[.string x1.name,.slice A2 n3 c4,.slice A6 n7 c8,.slice A10 n11 c12,.slice A14 n15 c16,.slice A18 n19 c20,.slice A22 n23 c24,.slice A26 n27 c28,.slice A30 n31 c32,.slice A34 n35 c36,.slice A38 n39 c40,.slice A42 n43 c44],.int .i64 x46,.int .i64 x47,.int .i64 x48,.int .i64 x49]) 41 Try.func26 rfl Try.ntmps26 rfl hL0 ?_
 show G (Xu0 w F r) _ _ _ _
 refine Xmb rfl<|Xm8 rfl rfl ?_
 refine Xmw 0 rfl (Xtj [.string x1.name,.slice A2 n3 c4,.slice A6 n7 c8,.slice A10 n11 c12,.slice A14 n15 c16,.slice A18 n19 c20,.slice A22 n23 c24,.slice A26 n27 c28,.slice A30 n31 c32,.slice A34 n35 c36,.slice A38 n39 c40,.slice A42 n43 c44] rfl rfl rfl fun gb50=>?_) gn
 refine Xm5 1 rfl (Xm9 rfl) gn rfl<|Xmc 2 rfl<|Xmb rfl<|Xmb rfl ?_
 have j1:∀ (x54:Bool) (h:Xp1 x46 x1 x48 x49 x47 x54 r) ,G (Xu0 w F r) [.code q26c6,.code q26c4] [(1,.int .i64 x46),(2,.int .i64 x47),(3,.int .i64 x48),(4,.int .i64 x49),(5,.pointer (some ⟨gb50,0,none⟩)),(20,.bool x54)] [.box gb50 58 [.string x1.name,.slice A2 n3 c4,.slice A6 n7 c8,.slice A10 n11 c12,.slice A14 n15 c16,.slice A18 n19 c20,.slice A22 n23 c24,.slice A26 n27 c28,.slice A30 n31 c32,.slice A34 n35 c36,.slice A38 n39 c40,.slice A42 n43 c44]] [Sm w.heap.size F w [],St w []]:=by
  intro x54 h
  unfold Xp1 at h
  by_cases hp55:x54=true
  ·have h:=Xmf hp55 h
   refine Xmy rfl _ rfl (hp55)<|Xmb rfl<|Xm8 rfl rfl<|Xm5 0 rfl (Xm9 rfl) gn rfl<|Xmc 1 rfl<|Xrf 39 7 ?_
   refine Xmt [.slice none 0 0] rfl Try.func26 rfl (.tmp rfl (.nil)) fun wr hLr=>?_
   have hMr:=hLr.pkI (.c 0 rfl .n) (.c 1 rfl .n) (by kernel_rfl) (.c 1 rfl .n)
   show Xr3 w F  r (.returned (Xmz [.slice none 0 0])) wr
   rw [h]
   exact ⟨none,0,0,rfl,hMr,(Ow.nil (z:=w.heap.size))⟩
  ·have h:=Xmg hp55 h
   refine Xmr rfl _ rfl ((bf hp55))<|Xn1 rfl<|Xmb rfl ?_
   obtain ⟨hb56,h⟩:=h
   have hns:Region.noSelect (Code.ops q26c11)=true:=by kernel_rfl
   refine Xpl [] 21 rfl rfl mix rfl (.c 0 rfl (.c 1 rfl .n))<|wfv 0 rfl (Xmj Xqa rfl) gn hns rfl<|wfv 1 rfl (Xmj Xrw rfl) gn hns rfl<|wfv 2 rfl (Xmx 0 Xus rfl rfl rfl) gn hns rfl<|wfv 3 rfl (Xm7 rfl) gn hns rfl ?_
   have hr68:=Rw.readF (s:=St w []) (hl:=Xq6) (h1:=Xq3) h9 hb56
   refine wfv 4 rfl (Xn4 (s:=St w []) Xyb rfl rfl h9 hb56) gn hns rfl<|wfv 5 rfl (Xo6 Xym rfl) gn hns rfl<|wfv 6 rfl (Xnl (kk:=(x46:Int).toNat * 2) (j:=0) (St w []) Xwk rfl hr68 rfl (me 1 rfl)) gn hns rfl<|wfv 7 rfl (Xmj Xqa rfl) gn hns rfl<|wfv 8 rfl (Xmj Xrw rfl) gn hns rfl<|wfv 9 rfl (Xmx 0 Xus rfl rfl rfl) gn hns rfl<|wfv 10 rfl (Xm7 rfl) gn hns rfl ?_
   have hr69:=Rw.readF (s:=St w []) (hl:=Xq6) (h1:=Xq3) h9 hb56
   refine wfv 11 rfl (Xn4 (s:=St w []) Xyb rfl rfl h9 hb56) gn hns rfl<|wfv 12 rfl (Xo6 Xyu rfl) gn hns rfl<|wfv 13 rfl (Xnl (kk:=(x46:Int).toNat * 2) (j:=1) (St w []) ld_4 rfl hr69 rfl (me 1 rfl)) gn hns rfl<|wfv 14 rfl (Xrz rfl) gn hns rfl<|wfv 15 rfl (Xm7 rfl) gn hns rfl<|wfv 16 rfl (Xm7 rfl) gn hns rfl<|wfv 17 rfl (Xm7 rfl) gn hns rfl<|wfv 18 rfl (Xr0 #[.string ((ix x1.gram.terms x46).name),.bool (!((ix x1.gram.terms x46).lit)),.string (⟨#[]⟩:ByteArray),.int .i64 x48,.int .i64 x49,.int .i64 0,.int .i64 x47] Ybz rfl (by kernel_rfl)) gn hns rfl ?_
   refine Xn9 [19] (by kernel_rfl) rfl ⟨Xqb 19 rfl gn rfl (Xqd (xs:=([(⟨(ix x1.gram.terms x46).name,(!((ix x1.gram.terms x46).lit)),(⟨#[]⟩:ByteArray),x48,x49,0,x47⟩:Xm4)]:List Xm4)) [.string ((ix x1.gram.terms x46).name),.bool (!((ix x1.gram.terms x46).lit)),.string (⟨#[]⟩:ByteArray),.int .i64 x48,.int .i64 x49,.int .i64 0,.int .i64 x47] Xyo rfl (by kernel_rfl) rfl rfl rfl rfl fun gb72 h73=>?_),trivial⟩
   refine ⟨Xms [1] rfl,Xms [0,1] rfl,?_⟩
   refine wfv 20 rfl (Xm9 rfl) gn hns rfl<|Xox (by kernel_rfl) ?_
   refine Xmt [.slice (some ⟨gb72,0,none⟩) 1 1] rfl Try.func26 rfl (.tmp rfl (.nil)) fun wr hLr=>?_
   have hMr:=hLr.pkI (.c 0 rfl .n) (.c 1 rfl .n) (by kernel_rfl) (.c 1 rfl .n)
   show Xr3 w F  r (.returned (Xmz [.slice (some ⟨gb72,0,none⟩) 1 1])) wr
   rw [h]
   exact ⟨(some ⟨gb72,0,none⟩),1,1,rfl,hMr,h73⟩
 refine Xm8 rfl rfl<|Xm5 0 rfl (Xm7 rfl) gn rfl<|Xm5 1 rfl (Xmk rfl rfl rfl) gn rfl<|Xm5 2 rfl (Xm7 rfl) gn rfl ?_
 by_cases hp74:x46≤0
 ·have h:=Xmf hp74 h
  refine Xn6 13 rfl ((decide_eq_true hp74))<|Xma 3 rfl (ps 13 rfl rfl rfl)<|Xma 4 rfl (ps 13 rfl rfl rfl)<|Xma 5 rfl (ps 13 rfl rfl rfl)<|Xma 6 rfl (ps 13 rfl rfl rfl)<|Xma 7 rfl (ps 13 rfl rfl rfl)<|Xma 8 rfl (ps 13 rfl rfl rfl)<|Xm5 9 rfl (Xmn (b:=true) rfl rfl) gn rfl<|Xmc 10 rfl ?_
  exact Xnj [0,1] (j1 true h) ⟨rfl,rfl,rfl,rfl,rfl,rfl,trivial⟩ (.cons_cons _ (.slnil)) rfl
 ·have h:=Xmg hp74 h
  refine Xn6 13 rfl ((decide_eq_false hp74))<|Xm5 3 rfl (Xm7 rfl) (gy 13 rfl rfl) rfl<|Xm5 4 rfl (Xmj Xqa rfl) (gy 13 rfl rfl) rfl<|Xm5 5 rfl (Xmj Xrw rfl) (gy 13 rfl rfl) rfl<|Xm5 6 rfl (Xmx 0 Xus rfl rfl rfl) (gy 13 rfl rfl) rfl<|Xm5 7 rfl (Xmm Ya5 rfl h9.hq) (gy 13 rfl rfl) rfl<|Xm5 8 rfl (Xmk rfl rfl rfl) (gy 13 rfl rfl) rfl<|Xm5 9 rfl (Xmn (b:=false) rfl rfl) gn rfl<|Xmc 10 rfl ?_
  exact Xnj [0,1] (j1 (decide (x46≥(x1.gram.terms.length:Int))) h) ⟨rfl,rfl,rfl,rfl,rfl,rfl,trivial⟩ (.cons_cons _ (.slnil)) rfl
noncomputable abbrev q78c4:=Code.snd (Code.snd (Xnv Try.f78))
noncomputable abbrev q78c7:=Code.snd (Code.fst (Code.fst (Code.snd (Xnv Try.f78))))
abbrev Xpq (w:World) (F:Nat→Prop) (r:Int):Ending→World→Prop:=fun e w'=>e=.returned (.int .i64 r)∧B.Loc w w' [] [St w []]
noncomputable abbrev Xuc (w:World) (F:Nat→Prop) (r:Int):Cx:=⟨Try.prog,78,Try.f78,37,Xpq w F  r,w⟩
theorem Xwa (w:World) (F:Nat→Prop) (x1:Xno) (x14:Int) (A2:Option Addr) (n3:Nat) (c4:Nat) (A6:Option Addr) (n7:Nat) (c8:Nat) (A10:Option Addr) (n11:Nat) (c12:Nat) (h5:Rw Xng w (St w []).av A2 n3 c4 x1.terms) (h9:Rw Xor w (St w []).av A6 n7 c8 x1.syms) (h13:Rw Xo9 w (St w []).av A10 n11 c12 x1.prods) (hF:∀ b,F b→b < w.heap.size∧∀ o ∈ ([]:List (List Nat)),b ∉ o) (hL0:B.Loc w w [] [Sm w.heap.size F w [],St w []]) (r:Int) (h:Xr9 x1 x14 r):Calls Try.prog 78 #[.agg #[.slice A2 n3 c4,.slice A6 n7 c8,.slice A10 n11 c12],.int .i64 x14] w (Xpq w F  r):=by
 unfold Xr9 at h
 refine Xmq (vs:=[.agg #[.slice A2 n3 c4,.slice A6 n7 c8,.slice A10 n11 c12],.int .i64 x14]) 37 Try.func78 rfl Try.ntmps78 rfl hL0 ?_
 show G (Xuc w F r) _ _ _ _
 refine Xmb rfl<|Xm8 rfl rfl ?_
 refine Xmw 0 rfl (Xtj [.slice A2 n3 c4,.slice A6 n7 c8,.slice A10 n11 c12] rfl rfl rfl fun gb15=>?_) gn
 refine Xm5 1 rfl (Xm9 rfl) gn rfl<|Xmc 2 rfl<|Xmb rfl<|Xn8 rfl<|Xmb rfl ?_
 have j1:∀ (x19:Bool) (h:Xpa x14 x1 x19 r) ,G (Xuc w F r) [.code q78c7,.inBlock 0,.code q78c4] [(1,.int .i64 x14),(2,.pointer (some ⟨gb15,0,none⟩)),(5,.bool x19)] [.box gb15 47 [.slice A2 n3 c4,.slice A6 n7 c8,.slice A10 n11 c12]] [Sm w.heap.size F w [],St w []]:=by
  intro x19 h
  unfold Xpa at h
  by_cases hp20:x19=true
  ·have h:=Xmf hp20 h
   refine Xmy rfl _ rfl (hp20)<|Xmb rfl<|Xm8 rfl rfl<|Xm5 0 rfl (Xm9 rfl) gn rfl<|Xmc 1 rfl ?_
   refine Xmt [.int .i64 2] rfl Try.func78 rfl (.tmp rfl (.nil)) fun wr hLr=>?_
   have hMr:=hLr.pk0 (.c 1 rfl .n)
   show Xpq w F  r (.returned (Xmz [.int .i64 2])) wr
   rw [h]
   exact ⟨rfl,hMr⟩
  ·have h:=Xmg hp20 h
   refine Xmr rfl _ rfl ((bf hp20))<|Xmb rfl<|Xm8 rfl rfl<|Xm5 0 rfl (Xm7 rfl) gn rfl<|Xm5 1 rfl (Xmj Xrw rfl) gn rfl<|Xm5 2 rfl (Xmx 0 Xus rfl rfl rfl) gn rfl<|Xm5 3 rfl (Xmm Ya5 rfl h5.hq) gn rfl<|Xm5 4 rfl (Xmk rfl rfl rfl) gn rfl<|Xm5 5 rfl (Xm9 rfl) gn rfl<|Xmc 6 rfl ?_
   by_cases hp21:x14 < (x1.terms.length:Int)
   ·have h:=Xmf hp21 h
    refine Xmy rfl _ rfl ((decide_eq_true hp21))<|Xmb rfl<|Xm8 rfl rfl<|Xm5 0 rfl (Xm9 rfl) gn rfl<|Xmc 1 rfl ?_
    refine Xmt [.int .i64 0] rfl Try.func78 rfl (.tmp rfl (.nil)) fun wr hLr=>?_
    have hMr:=hLr.pk0 (.c 1 rfl .n)
    show Xpq w F  r (.returned (Xmz [.int .i64 0])) wr
    rw [h]
    exact ⟨rfl,hMr⟩
   ·have h:=Xmg hp21 h
    refine Xmr rfl _ rfl ((decide_eq_false hp21))<|Xmb rfl<|Xm8 rfl rfl<|Xm5 0 rfl (Xmj Xtt rfl) gn rfl<|Xm5 1 rfl (Xmx 0 Xy0 rfl rfl rfl) gn rfl<|Xm5 2 rfl (Xm7 rfl) gn rfl<|Xm5 3 rfl (Xmj Xrw rfl) gn rfl<|Xm5 4 rfl (Xmx 0 Xus rfl rfl rfl) gn rfl<|Xm5 5 rfl (Xmm Ya5 rfl h5.hq) gn rfl<|Xm5 6 rfl (Xmk rfl rfl rfl) gn rfl ?_
    obtain ⟨hb22,h⟩:=h
    have hr23:=Rw.readF (s:=St w []) (hl:=Xsz) (h1:=Xt0) h9 hb22
    refine Xm5 7 rfl (Xn4 (s:=St w []) Xzi rfl rfl h9 hb22) gn rfl<|Xm5 8 rfl (Xo6 Yam rfl) gn rfl<|Xm5 9 rfl (Xnl (kk:=(w64 (x14 - (x1.terms.length:Int)):Int).toNat * 2) (j:=1) (St w []) ld_72 rfl hr23 rfl (me 1 rfl)) gn rfl<|Xm5 10 rfl (Xmk rfl rfl rfl) gn rfl<|Xm5 11 rfl (Xm9 rfl) gn rfl<|Xmc 12 rfl ?_
    by_cases hp24:(ix x1.syms (w64 (x14 - (x1.terms.length:Int)))).kind=1
    ·have h:=Xmf hp24 h
     refine Xmy rfl _ rfl ((eqi hp24))<|Xmb rfl<|Xm8 rfl rfl<|Xm5 0 rfl (Xm9 rfl) gn rfl<|Xmc 1 rfl ?_
     refine Xmt [.int .i64 1] rfl Try.func78 rfl (.tmp rfl (.nil)) fun wr hLr=>?_
     have hMr:=hLr.pk0 (.c 1 rfl .n)
     show Xpq w F  r (.returned (Xmz [.int .i64 1])) wr
     rw [h]
     exact ⟨rfl,hMr⟩
    ·have h:=Xmg hp24 h
     refine Xmr rfl _ rfl ((nei hp24))<|Xn1 rfl<|Xnh<|Xmb rfl<|Xm8 rfl rfl<|Xm5 0 rfl (Xm9 rfl) gn rfl<|Xmc 1 rfl ?_
     refine Xmt [.int .i64 2] rfl Try.func78 rfl (.tmp rfl (.nil)) fun wr hLr=>?_
     have hMr:=hLr.pk0 (.c 1 rfl .n)
     show Xpq w F  r (.returned (Xmz [.int .i64 2])) wr
     rw [h]
     exact ⟨rfl,hMr⟩
 refine Xm8 rfl rfl<|Xm5 0 rfl (Xm7 rfl) gn rfl<|Xm5 1 rfl (Xmk rfl rfl rfl) gn rfl<|Xm5 2 rfl (Xm7 rfl) gn rfl ?_
 by_cases hp25:x14 < 0
 ·have h:=Xmf hp25 h
  refine Xn6 8 rfl ((decide_eq_true hp25))<|Xma 3 rfl (ps 8 rfl rfl rfl)<|Xma 4 rfl (ps 8 rfl rfl rfl)<|Xma 5 rfl (ps 8 rfl rfl rfl)<|Xma 6 rfl (ps 8 rfl rfl rfl)<|Xma 7 rfl (ps 8 rfl rfl rfl)<|Xma 8 rfl (ps 8 rfl rfl rfl)<|Xma 9 rfl (ps 8 rfl rfl rfl)<|Xma 10 rfl (ps 8 rfl rfl rfl)<|Xma 11 rfl (ps 8 rfl rfl rfl)<|Xm5 12 rfl (Xmn (b:=true) rfl rfl) gn rfl<|Xm5 13 rfl (Xm9 rfl) gn rfl ?_
  refine Xmc 14 rfl ?_
  exact Xnj [0,1] (j1 true h) ⟨rfl,rfl,rfl,trivial⟩ (.cons_cons _ (.slnil)) rfl
 ·have h:=Xmg hp25 h
  refine Xn6 8 rfl ((decide_eq_false hp25))<|Xm5 3 rfl (Xm7 rfl) (gy 8 rfl rfl) rfl<|Xm5 4 rfl (Xmj Xrw rfl) (gy 8 rfl rfl) rfl<|Xm5 5 rfl (Xmx 0 Xus rfl rfl rfl) (gy 8 rfl rfl) rfl<|Xm5 6 rfl (Xmm Ya5 rfl h5.hq) (gy 8 rfl rfl) rfl<|Xm5 7 rfl (Xmj Xtt rfl) (gy 8 rfl rfl) rfl<|Xm5 8 rfl (Xmx 0 Xy0 rfl rfl rfl) (gy 8 rfl rfl) rfl<|Xm5 9 rfl (Xmm un_44 rfl h9.hq) (gy 8 rfl rfl) rfl<|Xm5 10 rfl (Xmk rfl rfl rfl) (gy 8 rfl rfl) rfl<|Xm5 11 rfl (Xmk rfl rfl rfl) (gy 8 rfl rfl) rfl<|Xm5 12 rfl (Xmn (b:=false) rfl rfl) gn rfl<|Xm5 13 rfl (Xm9 rfl) gn rfl ?_
  refine Xmc 14 rfl ?_
  exact Xnj [0,1] (j1 (decide (x14≥w64 ((x1.terms.length:Int) + (x1.syms.length:Int)))) h) ⟨rfl,rfl,rfl,trivial⟩ (.cons_cons _ (.slnil)) rfl
noncomputable abbrev q68c4:=Code.snd (Code.snd (Xnv Try.f68))
noncomputable abbrev q68c6:=Code.snd (Code.fst (Code.snd (Xnv Try.f68)))
abbrev Xp2 (w:World) (F:Nat→Prop) (r:Bool):Ending→World→Prop:=fun e w'=>e=.returned (.bool r)∧B.Loc w w' [] [St w []]
noncomputable abbrev Xtk (w:World) (F:Nat→Prop) (r:Bool):Cx:=⟨Try.prog,68,Try.f68,38,Xp2 w F  r,w⟩
theorem Xsi (w:World) (F:Nat→Prop) (x1:Xno) (x14:Int) (A2:Option Addr) (n3:Nat) (c4:Nat) (A6:Option Addr) (n7:Nat) (c8:Nat) (A10:Option Addr) (n11:Nat) (c12:Nat) (h5:Rw Xng w (St w []).av A2 n3 c4 x1.terms) (h9:Rw Xor w (St w []).av A6 n7 c8 x1.syms) (h13:Rw Xo9 w (St w []).av A10 n11 c12 x1.prods) (hF:∀ b,F b→b < w.heap.size∧∀ o ∈ ([]:List (List Nat)),b ∉ o) (hL0:B.Loc w w [] [Sm w.heap.size F w [],St w []]) (r:Bool) (h:Xpo x1 x14 r):Calls Try.prog 68 #[.agg #[.slice A2 n3 c4,.slice A6 n7 c8,.slice A10 n11 c12],.int .i64 x14] w (Xp2 w F  r):=by
 unfold Xpo at h
 refine Xmq (vs:=[.agg #[.slice A2 n3 c4,.slice A6 n7 c8,.slice A10 n11 c12],.int .i64 x14]) 38 Try.func68 rfl Try.ntmps68 rfl hL0 ?_
 show G (Xtk w F r) _ _ _ _
 refine Xmb rfl<|Xm8 rfl rfl ?_
 refine Xmw 0 rfl (Xtj [.slice A2 n3 c4,.slice A6 n7 c8,.slice A10 n11 c12] rfl rfl rfl fun gb15=>?_) gn
 refine Xm5 1 rfl (Xm9 rfl) gn rfl<|Xmc 2 rfl<|Xmb rfl<|Xmb rfl ?_
 have j1:∀ (x19:Bool) (h:Xov x14 x1 x19 r) ,G (Xtk w F r) [.code q68c6,.code q68c4] [(1,.int .i64 x14),(2,.pointer (some ⟨gb15,0,none⟩)),(14,.bool x19)] [.box gb15 47 [.slice A2 n3 c4,.slice A6 n7 c8,.slice A10 n11 c12]] [Sm w.heap.size F w [],St w []]:=by
  intro x19 h
  unfold Xov at h
  by_cases hp20:x19=true
  ·have h:=Xmf hp20 h
   refine Xmy rfl _ rfl (hp20)<|Xmb rfl<|Xm8 rfl rfl<|Xm5 0 rfl (Xm9 rfl) gn rfl<|Xmc 1 rfl ?_
   refine Xmt [.bool false] rfl Try.func68 rfl (.tmp rfl (.nil)) fun wr hLr=>?_
   have hMr:=hLr.pk0 (.c 1 rfl .n)
   show Xp2 w F  r (.returned (Xmz [.bool false])) wr
   rw [h]
   exact ⟨rfl,hMr⟩
  ·have h:=Xmg hp20 h
   refine Xmr rfl _ rfl ((bf hp20))<|Xn1 rfl<|Xmb rfl<|Xm8 rfl rfl<|Xm5 0 rfl (Xmj Xrw rfl) gn rfl<|Xm5 1 rfl (Xmx 0 Xus rfl rfl rfl) gn rfl<|Xm5 2 rfl (Xm7 rfl) gn rfl ?_
   obtain ⟨hb21,h⟩:=h
   have hr22:=Rw.readF (s:=St w []) (hl:=Xq6) (h1:=Xq3) h5 hb21
   refine Xm5 3 rfl (Xn4 (s:=St w []) Xyb rfl rfl h5 hb21) gn rfl<|Xm5 4 rfl (Xo6 Xym rfl) gn rfl<|Xm5 5 rfl (Xnl (kk:=(x14:Int).toNat * 2) (j:=0) (St w []) Xwk rfl hr22 rfl (me 1 rfl)) gn rfl<|Xm5 6 rfl (Xm9 rfl) gn rfl<|Xmc 7 rfl<|Xmb rfl<|Xm8 rfl rfl<|Xm5 0 rfl (Xmj Xrw rfl) gn rfl<|Xm5 1 rfl (Xmx 0 Xus rfl rfl rfl) gn rfl<|Xm5 2 rfl (Xm7 rfl) gn rfl ?_
   have hr23:=Rw.readF (s:=St w []) (hl:=Xq6) (h1:=Xq3) h5 hb21
   refine Xm5 3 rfl (Xn4 (s:=St w []) Xyb rfl rfl h5 hb21) gn rfl<|Xm5 4 rfl (Xo6 Xyu rfl) gn rfl<|Xm5 5 rfl (Xnl (kk:=(x14:Int).toNat * 2) (j:=1) (St w []) ld_4 rfl hr23 rfl (me 1 rfl)) gn rfl<|Xm5 6 rfl (Xrz rfl) gn rfl<|Xm5 7 rfl (Xm7 rfl) gn rfl ?_
   by_cases hp24:((ix x1.terms x14).lit)=true
   ·have h:=Xmf hp24 h
    refine Xn6 28 rfl ((nf hp24))<|Xma 8 rfl (ps 28 rfl rfl rfl)<|Xma 9 rfl (ps 28 rfl rfl rfl)<|Xma 10 rfl (ps 28 rfl rfl rfl)<|Xm5 11 rfl (Xmn (b:=false) rfl rfl) gn rfl<|Xm5 12 rfl (Xm7 rfl) gn rfl<|Xma 13 rfl (ps 33 rfl rfl rfl)<|Xma 14 rfl (ps 33 rfl rfl rfl)<|Xma 15 rfl (ps 33 rfl rfl rfl)<|Xm5 16 rfl (Xmn (b:=false) rfl rfl) gn rfl<|Xm5 17 rfl (Xm9 rfl) gn rfl<|Xmc 18 rfl ?_
    refine Xmt [.bool false] rfl Try.func68 rfl (.tmp rfl (.nil)) fun wr hLr=>?_
    have hMr:=hLr.pk0 (.c 1 rfl .n)
    show Xp2 w F  r (.returned (Xmz [.bool false])) wr
    rw [h]
    exact ⟨rfl,hMr⟩
   ·have h:=Xmg hp24 h
    refine Xn6 28 rfl ((nt (bf hp24)))<|Xm5 8 rfl (Xm7 rfl) (gy 28 rfl rfl) rfl<|Xm5 9 rfl (Yco un_9 rfl) (gy 28 rfl rfl) rfl<|Xm5 10 rfl (Xmk rfl rfl rfl) (gy 28 rfl rfl) rfl<|Xm5 11 rfl (Xmn (b:=true) rfl rfl) gn rfl<|Xm5 12 rfl (Xm7 rfl) gn rfl ?_
    by_cases hp25:(((ix x1.terms x14).name).size:Int) > 0
    ·have h:=Xmf hp25 h
     refine Xn6 33 rfl ((decide_eq_true hp25))<|Xm5 13 rfl (Xm7 rfl) (gy 33 rfl rfl) rfl ?_
     obtain ⟨hb26,h⟩:=h
     refine Xm5 14 rfl (v_indexS un_9 rfl rfl hb26) (gy 33 rfl rfl) rfl<|Xm5 15 rfl (Xmk rfl rfl rfl) (gy 33 rfl rfl) rfl<|Xm5 16 rfl (Xmn (b:=true) rfl rfl) gn rfl<|Xm5 17 rfl (Xm9 rfl) gn rfl<|Xmc 18 rfl ?_
     refine Xmt [.bool ((bt ((ix x1.terms x14).name) 0) == 95)] rfl Try.func68 rfl (.tmp rfl (.nil)) fun wr hLr=>?_
     have hMr:=hLr.pk0 (.c 1 rfl .n)
     show Xp2 w F  r (.returned (Xmz [.bool ((bt ((ix x1.terms x14).name) 0) == 95)])) wr
     rw [h]
     exact ⟨rfl,hMr⟩
    ·have h:=Xmg hp25 h
     refine Xn6 33 rfl ((decide_eq_false hp25))<|Xma 13 rfl (ps 33 rfl rfl rfl)<|Xma 14 rfl (ps 33 rfl rfl rfl)<|Xma 15 rfl (ps 33 rfl rfl rfl)<|Xm5 16 rfl (Xmn (b:=false) rfl rfl) gn rfl<|Xm5 17 rfl (Xm9 rfl) gn rfl<|Xmc 18 rfl ?_
     refine Xmt [.bool false] rfl Try.func68 rfl (.tmp rfl (.nil)) fun wr hLr=>?_
     have hMr:=hLr.pk0 (.c 1 rfl .n)
     show Xp2 w F  r (.returned (Xmz [.bool false])) wr
     rw [h]
     exact ⟨rfl,hMr⟩
 refine Xm8 rfl rfl<|Xm5 0 rfl (Xm7 rfl) gn rfl<|Xm5 1 rfl (Xmk rfl rfl rfl) gn rfl<|Xm5 2 rfl (Xm7 rfl) gn rfl ?_
 by_cases hp27:x14 < 0
 ·have h:=Xmf hp27 h
  refine Xn6 8 rfl ((decide_eq_true hp27))<|Xma 3 rfl (ps 8 rfl rfl rfl)<|Xma 4 rfl (ps 8 rfl rfl rfl)<|Xma 5 rfl (ps 8 rfl rfl rfl)<|Xma 6 rfl (ps 8 rfl rfl rfl)<|Xma 7 rfl (ps 8 rfl rfl rfl)<|Xm5 8 rfl (Xmn (b:=true) rfl rfl) gn rfl<|Xmc 9 rfl ?_
  exact Xnj [0,1] (j1 true h) ⟨rfl,rfl,rfl,trivial⟩ (.cons_cons _ (.slnil)) rfl
 ·have h:=Xmg hp27 h
  refine Xn6 8 rfl ((decide_eq_false hp27))<|Xm5 3 rfl (Xm7 rfl) (gy 8 rfl rfl) rfl<|Xm5 4 rfl (Xmj Xrw rfl) (gy 8 rfl rfl) rfl<|Xm5 5 rfl (Xmx 0 Xus rfl rfl rfl) (gy 8 rfl rfl) rfl<|Xm5 6 rfl (Xmm Ya5 rfl h5.hq) (gy 8 rfl rfl) rfl<|Xm5 7 rfl (Xmk rfl rfl rfl) (gy 8 rfl rfl) rfl<|Xm5 8 rfl (Xmn (b:=false) rfl rfl) gn rfl<|Xmc 9 rfl ?_
  exact Xnj [0,1] (j1 (decide (x14≥(x1.terms.length:Int))) h) ⟨rfl,rfl,rfl,trivial⟩ (.cons_cons _ (.slnil)) rfl
abbrev Xr5 (w:World) (F:Nat→Prop) (r:Xm6):Ending→World→Prop:=fun e w'=>∃ A0:Option Addr,∃ n0:Nat,∃ c0:Nat,e=.returned (.agg #[.string r.node.name,.bool r.node.named,.string r.node.field,.int .i64 r.node.from_,.int .i64 r.node.to,.int .i64 r.node.kids,.int .i64 r.node.leaf,.slice A0 n0 c0,.int .i64 r.at_])∧B.Loc w w' [] [St w []]∧Rw Xmd w' (Nw w w' F []) A0 n0 c0 r.kids
noncomputable abbrev Xxa (w:World) (F:Nat→Prop) (r:Xm6):Cx:=⟨Try.prog,63,Try.f63,33,Xr5 w F  r,w⟩
theorem Xra (w:World) (F:Nat→Prop) (x1:ByteArray) (x2:List Xm6) (x7:Int) (A3:Option Addr) (n4:Nat) (c5:Nat) (h6:Rw Xmd w F A3 n4 c5 x2) (hF:∀ b,F b→b < w.heap.size∧∀ o ∈ ([]:List (List Nat)),b ∉ o) (hL0:B.Loc w w [] [Sm w.heap.size F w [],St w []]) (r:Xm6) (h:Xpv x1 x2 x7 r):Calls Try.prog 63 #[.string x1,.slice A3 n4 c5,.int .i64 x7] w (Xr5 w F  r):=by
 unfold Xpv at h
 have h6:=Rw.into (bs:=[]) hF h6
 refine Xmq (vs:=[.string x1,.slice A3 n4 c5,.int .i64 x7]) 33 Try.func63 rfl Try.ntmps63 rfl hL0 ?_
 show G (Xxa w F r) _ _ _ _
 refine Xmb rfl<|Xm8 rfl rfl ?_
 refine Xmw 0 rfl (Xpf [.string (⟨#[]⟩:ByteArray),.bool false,.string (⟨#[]⟩:ByteArray),.int .i64 0,.int .i64 0,.int .i64 0,.int .i64 0,.slice none 0 0,.int .i64 0] Xz5 rfl fun gb8=>?_) gn
 refine Xmc 1 rfl<|Xmb rfl<|Xm8 rfl rfl<|Xm5 0 rfl (Xm7 rfl) gn rfl<|Xm5 1 rfl (Xm7 rfl) gn rfl<|Xm5 2 rfl (Xm7 rfl) gn rfl<|Xm5 3 rfl (Xr0 #[.string x1,.bool true,.string (⟨#[]⟩:ByteArray),.int .i64 x7,.int .i64 x7,.int .i64 0,.int .i64 (-1)] Ybz rfl (by kernel_rfl)) gn rfl ?_
 refine Xmw 4 rfl (Xpf [.string (⟨#[]⟩:ByteArray),.bool false,.string (⟨#[]⟩:ByteArray),.int .i64 0,.int .i64 0,.int .i64 0,.int .i64 0] zr_39 rfl fun gb10=>?_) gn
 refine Xmw 5 rfl (Xpk (vs:=[.string x1,.bool true,.string (⟨#[]⟩:ByteArray),.int .i64 x7,.int .i64 x7,.int .i64 0,.int .i64 (-1)]) (cs':=[.string x1,.bool true,.string (⟨#[]⟩:ByteArray),.int .i64 x7,.int .i64 x7,.int .i64 0,.int .i64 (-1)]) (M':=[.box gb10 39 [.string x1,.bool true,.string (⟨#[]⟩:ByteArray),.int .i64 x7,.int .i64 x7,.int .i64 0,.int .i64 (-1)],.box gb8 96 [.string (⟨#[]⟩:ByteArray),.bool false,.string (⟨#[]⟩:ByteArray),.int .i64 0,.int .i64 0,.int .i64 0,.int .i64 0,.slice none 0 0,.int .i64 0]]) 0 sz_39 rfl rfl rfl rfl rfl rfl rfl rfl rfl ?_) gn
 refine Xmc 6 rfl<|Xmb rfl<|Xmb rfl<|Xm8 rfl rfl<|Xm5 0 rfl (Xm7 rfl) gn rfl<|Xm5 1 rfl (Xmm Ybv rfl h6.hq) gn rfl<|Xm5 2 rfl (Xmk rfl rfl rfl) gn rfl<|Xmc 3 rfl ?_
 by_cases hp12:(x2.length:Int) > 0
 ·have h:=Xmf hp12 h
  refine Xmy rfl _ rfl ((decide_eq_true hp12))<|Xmb rfl<|Xm8 rfl rfl<|Xm5 0 rfl (Xm7 rfl) gn rfl ?_
  obtain ⟨hb13,h⟩:=h
  obtain ⟨ce15,hK16,hr14⟩:=Rw.read (s:=Sm w.heap.size F w []) h6 hb13
  obtain ⟨A17,n18,c19,rfl,h20⟩:=Xnt hK16
  refine Xm5 1 rfl (Xn4 (s:=Sm w.heap.size F w []) Xx8 rfl rfl h6 hb13) gn rfl<|Xm5 2 rfl (Xo6 Xwe rfl) gn rfl<|Xm5 3 rfl (Xo6 Yaj rfl) gn rfl<|Xm5 4 rfl (Xnl (kk:=(0:Int).toNat * 9) (j:=3) (Sm w.heap.size F w []) Xql rfl hr14 rfl (me 0 rfl)) gn rfl<|Xm5 5 rfl (Xmj Yaj rfl) gn rfl ?_
  refine Xmw 6 rfl (Xpk (vs:=[.int .i64 (((ix x2 0).node).from_)]) (cs':=[.string x1,.bool true,.string (⟨#[]⟩:ByteArray),.int .i64 (((ix x2 0).node).from_),.int .i64 x7,.int .i64 0,.int .i64 (-1)]) (M':=[.box gb10 39 [.string x1,.bool true,.string (⟨#[]⟩:ByteArray),.int .i64 (((ix x2 0).node).from_),.int .i64 x7,.int .i64 0,.int .i64 (-1)],.box gb8 96 [.string (⟨#[]⟩:ByteArray),.bool false,.string (⟨#[]⟩:ByteArray),.int .i64 0,.int .i64 0,.int .i64 0,.int .i64 0,.slice none 0 0,.int .i64 0]]) 0 Yaa rfl rfl rfl rfl rfl rfl rfl rfl rfl ?_) gn
  refine Xmc 7 rfl<|Xm8 rfl rfl<|Xm5 0 rfl (Xm7 rfl) gn rfl<|Xm5 1 rfl (Xm7 rfl) gn rfl<|Xm5 2 rfl (Xmm Ybv rfl h6.hq) gn rfl<|Xm5 3 rfl (Xmk rfl rfl rfl) gn rfl ?_
  obtain ⟨hb21,h⟩:=h
  obtain ⟨ce23,hK24,hr22⟩:=Rw.read (s:=Sm w.heap.size F w []) h6 hb21
  obtain ⟨A25,n26,c27,rfl,h28⟩:=Xnt hK24
  refine Xm5 4 rfl (Xn4 (s:=Sm w.heap.size F w []) Xx8 rfl rfl h6 hb21) gn rfl<|Xm5 5 rfl (Xo6 Xwe rfl) gn rfl<|Xm5 6 rfl (Xo6 Xxm rfl) gn rfl<|Xm5 7 rfl (Xnl (kk:=(w64 ((x2.length:Int) - 1):Int).toNat * 9) (j:=4) (Sm w.heap.size F w []) Xql rfl hr22 rfl (me 0 rfl)) gn rfl<|Xm5 8 rfl (Xmj Xxm rfl) gn rfl ?_
  refine Xmw 9 rfl (Xpk (vs:=[.int .i64 (((ix x2 (w64 ((x2.length:Int) - 1))).node).to)]) (cs':=[.string x1,.bool true,.string (⟨#[]⟩:ByteArray),.int .i64 (((ix x2 0).node).from_),.int .i64 (((ix x2 (w64 ((x2.length:Int) - 1))).node).to),.int .i64 0,.int .i64 (-1)]) (M':=[.box gb10 39 [.string x1,.bool true,.string (⟨#[]⟩:ByteArray),.int .i64 (((ix x2 0).node).from_),.int .i64 (((ix x2 (w64 ((x2.length:Int) - 1))).node).to),.int .i64 0,.int .i64 (-1)],.box gb8 96 [.string (⟨#[]⟩:ByteArray),.bool false,.string (⟨#[]⟩:ByteArray),.int .i64 0,.int .i64 0,.int .i64 0,.int .i64 0,.slice none 0 0,.int .i64 0]]) 0 Yaa rfl rfl rfl rfl rfl rfl rfl rfl rfl ?_) gn
  refine Xmc 10 rfl<|Xmb rfl<|Xm8 rfl rfl<|Xm5 0 rfl (Xq7 [.string x1,.bool true,.string (⟨#[]⟩:ByteArray),.int .i64 (((ix x2 0).node).from_),.int .i64 (((ix x2 (w64 ((x2.length:Int) - 1))).node).to),.int .i64 0,.int .i64 (-1)] 0 Xy1 rfl rfl rfl rfl) gn rfl<|Xm5 1 rfl (Xm7 rfl) gn rfl<|Xm5 2 rfl (Xr0 #[.string x1,.bool true,.string (⟨#[]⟩:ByteArray),.int .i64 (((ix x2 0).node).from_),.int .i64 (((ix x2 (w64 ((x2.length:Int) - 1))).node).to),.int .i64 0,.int .i64 (-1),.slice A3 n4 c5,.int .i64 0] Ye3 rfl (by kernel_rfl)) gn rfl ?_
  refine Xmw 3 rfl (Xpk (vs:=[.string x1,.bool true,.string (⟨#[]⟩:ByteArray),.int .i64 (((ix x2 0).node).from_),.int .i64 (((ix x2 (w64 ((x2.length:Int) - 1))).node).to),.int .i64 0,.int .i64 (-1),.slice A3 n4 c5,.int .i64 0]) (cs':=[.string x1,.bool true,.string (⟨#[]⟩:ByteArray),.int .i64 (((ix x2 0).node).from_),.int .i64 (((ix x2 (w64 ((x2.length:Int) - 1))).node).to),.int .i64 0,.int .i64 (-1),.slice A3 n4 c5,.int .i64 0]) (M':=[.box gb10 39 [.string x1,.bool true,.string (⟨#[]⟩:ByteArray),.int .i64 (((ix x2 0).node).from_),.int .i64 (((ix x2 (w64 ((x2.length:Int) - 1))).node).to),.int .i64 0,.int .i64 (-1)],.box gb8 96 [.string x1,.bool true,.string (⟨#[]⟩:ByteArray),.int .i64 (((ix x2 0).node).from_),.int .i64 (((ix x2 (w64 ((x2.length:Int) - 1))).node).to),.int .i64 0,.int .i64 (-1),.slice A3 n4 c5,.int .i64 0]]) 1 Xww rfl rfl rfl rfl rfl rfl rfl rfl rfl ?_) gn
  refine Xmc 4 rfl ?_
  refine Xmt [.agg #[.string x1,.bool true,.string (⟨#[]⟩:ByteArray),.int .i64 (((ix x2 0).node).from_),.int .i64 (((ix x2 (w64 ((x2.length:Int) - 1))).node).to),.int .i64 0,.int .i64 (-1),.slice A3 n4 c5,.int .i64 0]] rfl Try.func63 rfl (.cell (cs:=[.string x1,.bool true,.string (⟨#[]⟩:ByteArray),.int .i64 (((ix x2 0).node).from_),.int .i64 (((ix x2 (w64 ((x2.length:Int) - 1))).node).to),.int .i64 0,.int .i64 (-1),.slice A3 n4 c5,.int .i64 0]) (us:=[.string x1,.bool true,.string (⟨#[]⟩:ByteArray),.int .i64 (((ix x2 0).node).from_),.int .i64 (((ix x2 (w64 ((x2.length:Int) - 1))).node).to),.int .i64 0,.int .i64 (-1),.slice A3 n4 c5,.int .i64 0]) 1 rfl Xw9 rfl rfl rfl (.nil)) fun wr hLr=>?_
  have hMr:=hLr.pk0 (.c 1 rfl .n)
  have hMi:=hLr.selI .n
  show Xr5 w F  r (.returned (Xmz [.agg #[.string x1,.bool true,.string (⟨#[]⟩:ByteArray),.int .i64 (((ix x2 0).node).from_),.int .i64 (((ix x2 (w64 ((x2.length:Int) - 1))).node).to),.int .i64 0,.int .i64 (-1),.slice A3 n4 c5,.int .i64 0]])) wr
  rw [h]
  exact ⟨A3,n4,c5,rfl,hMr,(hLr.outR (s:=Sm w.heap.size F w []) hMi (me 0 rfl) Sm.ok h6)⟩
 ·have h:=Xmg hp12 h
  refine Xmr rfl _ rfl ((decide_eq_false hp12))<|Xn1 rfl<|Xmb rfl<|Xm8 rfl rfl<|Xm5 0 rfl (Xq7 [.string x1,.bool true,.string (⟨#[]⟩:ByteArray),.int .i64 x7,.int .i64 x7,.int .i64 0,.int .i64 (-1)] 0 Xy1 rfl rfl rfl rfl) gn rfl<|Xm5 1 rfl (Xm7 rfl) gn rfl<|Xm5 2 rfl (Xr0 #[.string x1,.bool true,.string (⟨#[]⟩:ByteArray),.int .i64 x7,.int .i64 x7,.int .i64 0,.int .i64 (-1),.slice A3 n4 c5,.int .i64 0] Ye3 rfl (by kernel_rfl)) gn rfl ?_
  refine Xmw 3 rfl (Xpk (vs:=[.string x1,.bool true,.string (⟨#[]⟩:ByteArray),.int .i64 x7,.int .i64 x7,.int .i64 0,.int .i64 (-1),.slice A3 n4 c5,.int .i64 0]) (cs':=[.string x1,.bool true,.string (⟨#[]⟩:ByteArray),.int .i64 x7,.int .i64 x7,.int .i64 0,.int .i64 (-1),.slice A3 n4 c5,.int .i64 0]) (M':=[.box gb10 39 [.string x1,.bool true,.string (⟨#[]⟩:ByteArray),.int .i64 x7,.int .i64 x7,.int .i64 0,.int .i64 (-1)],.box gb8 96 [.string x1,.bool true,.string (⟨#[]⟩:ByteArray),.int .i64 x7,.int .i64 x7,.int .i64 0,.int .i64 (-1),.slice A3 n4 c5,.int .i64 0]]) 1 Xww rfl rfl rfl rfl rfl rfl rfl rfl rfl ?_) gn
  refine Xmc 4 rfl ?_
  refine Xmt [.agg #[.string x1,.bool true,.string (⟨#[]⟩:ByteArray),.int .i64 x7,.int .i64 x7,.int .i64 0,.int .i64 (-1),.slice A3 n4 c5,.int .i64 0]] rfl Try.func63 rfl (.cell (cs:=[.string x1,.bool true,.string (⟨#[]⟩:ByteArray),.int .i64 x7,.int .i64 x7,.int .i64 0,.int .i64 (-1),.slice A3 n4 c5,.int .i64 0]) (us:=[.string x1,.bool true,.string (⟨#[]⟩:ByteArray),.int .i64 x7,.int .i64 x7,.int .i64 0,.int .i64 (-1),.slice A3 n4 c5,.int .i64 0]) 1 rfl Xw9 rfl rfl rfl (.nil)) fun wr hLr=>?_
  have hMr:=hLr.pk0 (.c 1 rfl .n)
  have hMi:=hLr.selI .n
  show Xr5 w F  r (.returned (Xmz [.agg #[.string x1,.bool true,.string (⟨#[]⟩:ByteArray),.int .i64 x7,.int .i64 x7,.int .i64 0,.int .i64 (-1),.slice A3 n4 c5,.int .i64 0]])) wr
  rw [h]
  exact ⟨A3,n4,c5,rfl,hMr,(hLr.outR (s:=Sm w.heap.size F w []) hMi (me 0 rfl) Sm.ok h6)⟩
noncomputable abbrev Xwp:=Code.snd (Code.snd (Code.snd (Code.snd (Code.snd (Xnv Try.f62)))))
noncomputable abbrev q62c13:=Code.snd (Code.fst (Code.fst (Code.snd (Code.snd (Code.snd (Code.snd (Xnv Try.f62)))))))
noncomputable abbrev q62c17:=Code.snd (Code.snd q62c13)
noncomputable abbrev Xze:=Code.fst (Code.fst (Code.snd (Code.snd q62c17)))
noncomputable abbrev Yce:=Code.snd Xwp
noncomputable abbrev Xzq:=Code.fst (Code.fst (Code.snd (Code.fst Xwp)))
abbrev Xs6 (w:World) (F:Nat→Prop) (r:List Xm6):Ending→World→Prop:=fun e w'=>∃ A0:Option Addr,∃ n0:Nat,∃ c0:Nat,∃ cs0:List Value,e=.returned (.slice A0 n0 c0)∧B.Loc w w' [.own (.slice A0 n0 c0) 96 9 n0 cs0] [St w []]∧Ow w.heap.size A0 n0 c0 r∧Cells Xmd w' (Nw w w' F [.own (.slice A0 n0 c0) 96 9 n0 cs0]) r cs0
noncomputable abbrev Xnp (w:World) (F:Nat→Prop) (r:List Xm6):Cx:=⟨Try.prog,62,Try.f62,92,Xs6 w F  r,w⟩
theorem Xvu (w:World) (F:Nat→Prop) (x1:Xno) (x14:Xo0) (x15:List Xm6) (x20:Int) (A2:Option Addr) (n3:Nat) (c4:Nat) (A6:Option Addr) (n7:Nat) (c8:Nat) (A10:Option Addr) (n11:Nat) (c12:Nat) (A16:Option Addr) (n17:Nat) (c18:Nat) (h5:Rw Xng w (St w []).av A2 n3 c4 x1.terms) (h9:Rw Xor w (St w []).av A6 n7 c8 x1.syms) (h13:Rw Xo9 w (St w []).av A10 n11 c12 x1.prods) (h19:Rw Xmd w F A16 n17 c18 x15) (hF:∀ b,F b→b < w.heap.size∧∀ o ∈ ([]:List (List Nat)),b ∉ o) (hL0:B.Loc w w [] [Sm w.heap.size F w [],St w []]) (r:List Xm6) (h:Xqv x1 x14 x15 x20 r):Calls Try.prog 62 #[.agg #[.slice A2 n3 c4,.slice A6 n7 c8,.slice A10 n11 c12],.agg #[.int .i64 x14.sym,.string x14.field,.string x14.as],.slice A16 n17 c18,.int .i64 x20] w (Xs6 w F  r):=by
 unfold Xqv at h
 have h19:=Rw.into (bs:=[]) hF h19
 refine Xmq (vs:=[.agg #[.slice A2 n3 c4,.slice A6 n7 c8,.slice A10 n11 c12],.agg #[.int .i64 x14.sym,.string x14.field,.string x14.as],.slice A16 n17 c18,.int .i64 x20]) 92 Try.func62 rfl Try.ntmps62 rfl hL0 ?_
 show G (Xnp w F r) _ _ _ _
 refine Xmb rfl<|Xm8 rfl rfl ?_
 refine Xmw 0 rfl (Xtj [.slice A2 n3 c4,.slice A6 n7 c8,.slice A10 n11 c12] rfl rfl rfl fun gb21=>?_) gn
 refine Xmw 1 rfl (Xtj [.int .i64 x14.sym,.string x14.field,.string x14.as] rfl rfl rfl fun gb23=>?_) gn
 refine Xm5 2 rfl (Xm9 rfl) gn rfl<|Xmc 3 rfl<|Xmb rfl<|Xm8 rfl rfl<|Xm5 0 rfl (Xq7 [.slice A2 n3 c4,.slice A6 n7 c8,.slice A10 n11 c12] 1 Xzy rfl rfl rfl rfl) gn rfl<|Xm5 1 rfl (Xmj Xx5 rfl) gn rfl<|Xm5 2 rfl (Xmx 0 Xql rfl rfl rfl) gn rfl ?_
 obtain ⟨r28,hv29,h⟩:=h
 refine Xmw 3 rfl (Xne [.agg #[.slice A2 n3 c4,.slice A6 n7 c8,.slice A10 n11 c12],.int .i64 x14.sym] rfl Try.func78 rfl rfl rfl fun w25 hL26=>?_) gn
 have hp27:=pmI hL26 .n (.c 0 rfl (.c 1 rfl .n)) (by kernel_rfl)
 refine Calls.mono (Xwa w25 (Fl ([]:List Xmp)) x1 x14.sym A2 n3 c4 A6 n7 c8 A10 n11 c12 (Rw.mono h5 (hL26.toSt hp27 (me 1 rfl))) (Rw.mono h9 (hL26.toSt hp27 (me 1 rfl))) (Rw.mono h13 (hL26.toSt hp27 (me 1 rfl))) (hL26.hFl hp27 (Xms [] rfl)) (hL26.into hp27 _) r28 hv29) ?_
 rintro _ w30 ⟨rfl,hM31⟩
 have hL32:=hL26.call hp27 hM31
 refine ⟨_,_,_,rfl,hL32,?_⟩
 refine Xm5 4 rfl (Xm9 rfl) gn rfl<|Xmc 5 rfl<|Xmb rfl<|Xm8 rfl rfl<|Xm5 0 rfl (Xq7 [.slice A2 n3 c4,.slice A6 n7 c8,.slice A10 n11 c12] 1 Xzy rfl rfl rfl rfl) gn rfl<|Xm5 1 rfl (Xmj Xx5 rfl) gn rfl<|Xm5 2 rfl (Xmx 0 Xql rfl rfl rfl) gn rfl ?_
 obtain ⟨r36,hv37,h⟩:=h
 refine Xmw 3 rfl (Xne [.agg #[.slice A2 n3 c4,.slice A6 n7 c8,.slice A10 n11 c12],.int .i64 x14.sym] rfl Try.func68 rfl rfl rfl fun w33 hL34=>?_) gn
 have hp35:=pmI hL34 .n (.c 0 rfl (.c 1 rfl .n)) (by kernel_rfl)
 refine Calls.mono (Xsi w33 (Fl ([]:List Xmp)) x1 x14.sym A2 n3 c4 A6 n7 c8 A10 n11 c12 (Rw.mono h5 (hL34.toSt hp35 (me 1 rfl))) (Rw.mono h9 (hL34.toSt hp35 (me 1 rfl))) (Rw.mono h13 (hL34.toSt hp35 (me 1 rfl))) (hL34.hFl hp35 (Xms [] rfl)) (hL34.into hp35 _) r36 hv37) ?_
 rintro _ w38 ⟨rfl,hM39⟩
 have hL40:=hL34.call hp35 hM39
 refine ⟨_,_,_,rfl,hL40,?_⟩
 refine Xm5 4 rfl (Xm9 rfl) gn rfl<|Xmc 5 rfl<|Xmb rfl<|Xm8 rfl rfl<|Xm5 0 rfl (Xm9 rfl) gn rfl<|Xmc 1 rfl<|Xmb rfl<|Xn8 rfl<|Xmb rfl ?_
 have j1:∀ (x43:Bool) (h:Xp0 x14 x15 x20 r28 x43 r) ,G (Xnp w F r) [.code q62c13,.inBlock 0,.code Xwp] [(2,.slice A16 n17 c18),(3,.int .i64 x20),(5,.pointer (some ⟨gb23,0,none⟩)),(9,.int .i64 r28),(11,.slice none 0 0),(47,.bool x43)] [.box gb23 104 [.int .i64 x14.sym,.string x14.field,.string x14.as]] [Sm w.heap.size F w [],St w []]:=by
  intro x43 h
  unfold Xp0 at h
  have j2:∀ (x209:List Xm6) (h:Xo3 x14 x209 r) (A210:Option Addr) (n211:Nat) (c212:Nat) (h213:Ow w.heap.size A210 n211 c212 x209) (cs214:List Value) (sw215:World) (sb216:List (List Nat)) (hC217:Cells Xmd (Sm w.heap.size F sw215 sb216).w (Sm w.heap.size F sw215 sb216).av x209 cs214),G (Xnp w F r) [.inBlock 0,.code Xwp] [(5,.pointer (some ⟨gb23,0,none⟩)),(11,.slice A210 n211 c212)] [.own (.slice A210 n211 c212) 96 9 n211 cs214,.box gb23 104 [.int .i64 x14.sym,.string x14.field,.string x14.as]] [Sm w.heap.size F sw215 sb216,Sm w.heap.size F w [],St w []]:=by
   intro x209 h A210 n211 c212 h213 cs214 sw215 sb216 hC217
   unfold Xo3 at h
   refine Xnh<|Xmb rfl<|Xmb rfl<|Xm8 rfl rfl<|Xm5 0 rfl (Xm9 rfl) gn rfl<|Xmc 1 rfl<|Xn8 rfl<|Xqz rfl ?_
   have key3:∀ s,Xmh (fun (s:(List Xm6) × Int) o=>Xnr x14 s.1 s.2 o) s r→(fun (s:(List Xm6) × Int)=>∀ (h245:Ow w.heap.size A210 n211 c212 s.1) (cs246:List Value) (hC247:Cells Xmd (Sm w.heap.size F sw215 sb216).w (Sm w.heap.size F sw215 sb216).av s.1 cs246),G (Xnp w F r) [.code Xzq,.inLoop Xzq,.inBlock 3,.code Yce] [(5,.pointer (some ⟨gb23,0,none⟩)),(11,.slice A210 n211 c212),(15,.int .i64 s.2)] [.own (.slice A210 n211 c212) 96 9 n211 cs246,.box gb23 104 [.int .i64 x14.sym,.string x14.field,.string x14.as]] [Sm w.heap.size F sw215 sb216,Sm w.heap.size F w [],St w []]) s:=by
    intro s hs
    refine Xmh.ind (mot:=(fun (s:(List Xm6) × Int)=>∀ (h245:Ow w.heap.size A210 n211 c212 s.1) (cs246:List Value) (hC247:Cells Xmd (Sm w.heap.size F sw215 sb216).w (Sm w.heap.size F sw215 sb216).av s.1 cs246),G (Xnp w F r) [.code Xzq,.inLoop Xzq,.inBlock 3,.code Yce] [(5,.pointer (some ⟨gb23,0,none⟩)),(11,.slice A210 n211 c212),(15,.int .i64 s.2)] [.own (.slice A210 n211 c212) 96 9 n211 cs246,.box gb23 104 [.int .i64 x14.sym,.string x14.field,.string x14.as]] [Sm w.heap.size F sw215 sb216,Sm w.heap.size F w [],St w []])) ?_ hs
    clear hs s
    intro s o1 h hO1
    obtain ⟨x244,x248⟩:=s
    show ∀ (h245:Ow w.heap.size A210 n211 c212 x244) (cs246:List Value) (hC247:Cells Xmd (Sm w.heap.size F sw215 sb216).w (Sm w.heap.size F sw215 sb216).av x244 cs246),G (Xnp w F r) [.code Xzq,.inLoop Xzq,.inBlock 3,.code Yce] [(5,.pointer (some ⟨gb23,0,none⟩)),(11,.slice A210 n211 c212),(15,.int .i64 x248)] [.own (.slice A210 n211 c212) 96 9 n211 cs246,.box gb23 104 [.int .i64 x14.sym,.string x14.field,.string x14.as]] [Sm w.heap.size F sw215 sb216,Sm w.heap.size F w [],St w []]
    intro h245 cs246 hC247
    have h:Xnr x14 x244 x248 o1:=h
    unfold Xnr at h
    refine Xmb rfl<|Xmb rfl<|Xm8 rfl rfl<|Xm5 0 rfl (Xm7 rfl) gn rfl<|Xm5 1 rfl (Xm7 rfl) gn rfl<|Xm5 2 rfl (Xmm Ybv rfl h245.hq) gn rfl<|Xm5 3 rfl (Xmk rfl rfl rfl) gn rfl<|Xmc 4 rfl ?_
    by_cases hp274:x248 < (x244.length:Int)
    ·have h:=Xmf hp274 h
     refine Xmy rfl _ rfl ((decide_eq_true hp274))<|Xn1 rfl<|Xmb rfl<|Xn8 rfl<|Xmb rfl<|Xm8 rfl rfl<|Xm5 0 rfl (Xm7 rfl) gn rfl<|Xm5 1 rfl (Xm7 rfl) gn rfl ?_
     obtain ⟨hb275,h⟩:=h
     obtain ⟨ce276,hK277,ht278,hg279⟩:=Cells.get hC247 hb275
     obtain ⟨A280,n281,c282,rfl,h283⟩:=Xnt hK277
     refine Xm5 2 rfl (Xp3 Xx8 rfl rfl h245 hb275) gn rfl<|Xm5 3 rfl (Xo6 Xwe rfl) gn rfl<|Xm5 4 rfl (Xo6 Xyq rfl) gn rfl<|Xm5 5 rfl (Xs3 (.string (((ix x244 x248).node).field)) 0 Xwk rfl rfl (hg279 2 _ rfl)) gn rfl<|Xm5 6 rfl (Ydj rfl rfl) gn rfl<|Xmc 7 rfl ?_
     by_cases hp284:((ix x244 x248).node).field=(⟨#[]⟩:ByteArray)
     ·have h:=Xmf hp284 h
      refine Xmy rfl _ rfl ((Yau hp284))<|Xm8 rfl rfl<|Xm5 0 rfl (Xm7 rfl) gn rfl<|Xm5 1 rfl (Xm7 rfl) gn rfl<|Xm5 2 rfl (Xmj Ycy rfl) gn rfl<|Xm5 3 rfl (Xmx 1 Xwk rfl rfl rfl) gn rfl ?_
      obtain ⟨ce285,hK286,ht287,hg288⟩:=Cells.get hC247 hb275
      obtain ⟨A289,n290,c291,rfl,h292⟩:=Xnt hK286
      refine Xm5 4 rfl (Xp3 Xx8 rfl rfl h245 hb275) gn rfl<|Xm5 5 rfl (Xo6 Xwe rfl) gn rfl<|Xm5 6 rfl (Xo6 Xyq rfl) gn rfl ?_
      obtain ⟨x293,hv294,h⟩:=h
      obtain ⟨cs296,hc297,hC298⟩:=Cells.put (dk:=Xmd) (z:=({ (ix x244 x248) with node:=(⟨((ix x244 x248).node).name,((ix x244 x248).node).named,x14.field,((ix x244 x248).node).from_,((ix x244 x248).node).to,((ix x244 x248).node).kids,((ix x244 x248).node).leaf⟩:Xm4) })) (o:=2) (vs:=[.string x14.field]) (ce':=[.string (((ix x244 x248).node).name),.bool (((ix x244 x248).node).named),.string x14.field,.int .i64 (((ix x244 x248).node).from_),.int .i64 (((ix x244 x248).node).to),.int .i64 (((ix x244 x248).node).kids),.int .i64 (((ix x244 x248).node).leaf),.slice A289 n290 c291,.int .i64 ((ix x244 x248).at_)]) hC247 hb275 ht287 rfl (Nat.le_of_ble_eq_true rfl) (Xob ⟨A289,n290,c291,rfl,h292⟩)
      rw [← hv294] at hC298
      refine Xmw 7 rfl (s_stC (dk:=Xmd) (o:=2) (vs:=[.string x14.field]) (i:=x248) (ys:=x293) 0 sz_9 rfl rfl rfl rfl rfl h245 hC247 hb275 rfl hc297 rfl hv294 fun h295=>?_) gn
      refine Xmc 8 rfl<|Xnh<|Xm8 rfl rfl<|Xm5 0 rfl (Xm7 rfl) gn rfl<|Xm5 1 rfl (Xmk rfl rfl rfl) gn rfl<|Xm5 2 rfl (Xm9 rfl) gn rfl<|Xmc 3 rfl<|Xo7 ?_
      have ih:=Out.inl hO1 h
      exact Xnj [0,1,2] (ih h295 cs296 hC298) ⟨rfl,rfl,rfl,trivial⟩ (.cons_cons _ (.cons_cons _ (.slnil))) rfl
     ·have h:=Xmg hp284 h
      refine Xmr rfl _ rfl ((Ybh hp284))<|Xn1 rfl<|Xnh<|Xm8 rfl rfl<|Xm5 0 rfl (Xm7 rfl) gn rfl<|Xm5 1 rfl (Xmk rfl rfl rfl) gn rfl<|Xm5 2 rfl (Xm9 rfl) gn rfl<|Xmc 3 rfl<|Xo7 ?_
      have ih:=Out.inl hO1 h
      exact Xnj [0,1,2] (ih h245 cs246 hC247) ⟨rfl,rfl,rfl,trivial⟩ (.cons_cons _ (.cons_cons _ (.slnil))) rfl
    ·have h:=Xmg hp274 h
     refine Xmr rfl _ rfl ((decide_eq_false hp274))<|Xqk [.code Yce] rfl rfl<|Xmb rfl<|Xm8 rfl rfl<|Xm5 0 rfl (Xm7 rfl) gn rfl<|Xm5 1 rfl (Xm9 rfl) gn rfl<|Xmc 2 rfl ?_
     have h:=Out.inr hO1 h
     refine Xmt [.slice A210 n211 c212] rfl Try.func62 rfl (.tmp rfl (.nil)) fun wr hLr=>?_
     have hMr:=hLr.pkI (.c 0 rfl .n) (.c 1 rfl .n) (by kernel_rfl) (.c 2 rfl .n)
     have hMi:=hLr.selI (.c 0 rfl .n)
     show Xs6 w F  r (.returned (Xmz [.slice A210 n211 c212])) wr
     rw [h]
     exact ⟨A210,n211,c212,cs246,rfl,hMr,h245,(hLr.outC (s:=Sm w.heap.size F sw215 sb216) hMi (me 0 rfl) Sm.ok hC247)⟩
   exact Xnj [0,1,2] (key3 _ h h213 cs214 hC217) ⟨rfl,rfl,rfl,trivial⟩ (.cons_cons _ (.cons_cons _ (.slnil))) rfl
  by_cases hp44:x43=true
  ·have h:=Xmf hp44 h
   refine Xmy rfl _ rfl (hp44)<|Xn1 rfl<|Xrf 96 9 ?_
   exact Xnj [0,0,1] (j2 ([]:List Xm6) h none 0 0 (Ow.nil (z:=w.heap.size)) [] w [] Cells.nil) ⟨rfl,rfl,trivial⟩ (.cons_cons _ (.cons_cons _ (.slnil))) rfl
  ·have h:=Xmg hp44 h
   refine Xmr rfl _ rfl ((bf hp44))<|Xmb rfl ?_
   have j4:∀ (x301:Bool) (h:Xoz x14 x15 x20 x301 r) ,G (Xnp w F r) [.code q62c17,.inBlock 0,.code Xwp] [(2,.slice A16 n17 c18),(3,.int .i64 x20),(5,.pointer (some ⟨gb23,0,none⟩)),(11,.slice none 0 0),(54,.bool x301)] [.box gb23 104 [.int .i64 x14.sym,.string x14.field,.string x14.as]] [Sm w.heap.size F w [],St w []]:=by
    intro x301 h
    unfold Xoz at h
    by_cases hp302:x301=true
    ·have h:=Xmf hp302 h
     refine Xmy rfl _ rfl (hp302)<|Xmb rfl<|Xm8 rfl rfl<|Xm5 0 rfl (Xmj Xu5 rfl) gn rfl<|Xm5 1 rfl (Xmx 0 Xwk rfl rfl rfl) gn rfl<|Xm5 2 rfl (Xm7 rfl) gn rfl<|Xm5 3 rfl (Xm7 rfl) gn rfl ?_
     obtain ⟨r306,hv307,h⟩:=h
     refine Xmw 4 rfl (Xne [.string x14.as,.slice A16 n17 c18,.int .i64 x20] rfl Try.func63 rfl rfl rfl fun w303 hL304=>?_) gn
     have hp305:=pmI hL304 .n (.c 0 rfl .n) (by kernel_rfl)
     refine Calls.mono (Xra w303 (Fl ([Sm w.heap.size F w []]:List Xmp)) x14.as x15 x20 A16 n17 c18 (Rw.mono h19 (hL304.toFl (me 0 rfl) (me 0 rfl))) (hL304.hFl hp305 (Xms [0] rfl)) (hL304.into hp305 _) r306 hv307) ?_
     rintro _ w312 ⟨A308,n309,c310,rfl,hM313,h311⟩
     obtain ⟨sb316,hL314,hv315⟩:=hL304.callB (Sl:=([Sm w.heap.size F w []]:List Xmp)) hp305 hM313 F (Xms [0] rfl) ⟨Sm.ok,trivial⟩
     have h311:At Xmd (Sm w.heap.size F w312 sb316) A308 n309 c310 r306.kids:=Rw.mono h311 hv315
     refine ⟨_,_,_,rfl,hL314,?_⟩
     refine Xmw 5 rfl (Xpf [.string (⟨#[]⟩:ByteArray),.bool false,.string (⟨#[]⟩:ByteArray),.int .i64 0,.int .i64 0,.int .i64 0,.int .i64 0,.slice none 0 0,.int .i64 0] Xz5 rfl fun gb317=>?_) gn
     refine Xmw 6 rfl (Xpk (vs:=[.string r306.node.name,.bool r306.node.named,.string r306.node.field,.int .i64 r306.node.from_,.int .i64 r306.node.to,.int .i64 r306.node.kids,.int .i64 r306.node.leaf,.slice A308 n309 c310,.int .i64 r306.at_]) (cs':=[.string r306.node.name,.bool r306.node.named,.string r306.node.field,.int .i64 r306.node.from_,.int .i64 r306.node.to,.int .i64 r306.node.kids,.int .i64 r306.node.leaf,.slice A308 n309 c310,.int .i64 r306.at_]) (M':=[.box gb317 96 [.string r306.node.name,.bool r306.node.named,.string r306.node.field,.int .i64 r306.node.from_,.int .i64 r306.node.to,.int .i64 r306.node.kids,.int .i64 r306.node.leaf,.slice A308 n309 c310,.int .i64 r306.at_],.box gb23 104 [.int .i64 x14.sym,.string x14.field,.string x14.as]]) 0 Xww rfl rfl rfl rfl rfl rfl rfl rfl rfl ?_) gn
     refine Xmc 7 rfl<|Xm8 rfl rfl<|Xm5 0 rfl (Xm7 rfl) gn rfl<|Xm5 1 rfl (Xq7 [.string r306.node.name,.bool r306.node.named,.string r306.node.field,.int .i64 r306.node.from_,.int .i64 r306.node.to,.int .i64 r306.node.kids,.int .i64 r306.node.leaf,.slice A308 n309 c310,.int .i64 r306.at_] 0 Xw9 rfl rfl rfl rfl) gn rfl ?_
     have hC320:Cells Xmd (Sm w.heap.size F w312 sb316).w (Sm w.heap.size F w312 sb316).av ([r306]:List Xm6) [.string r306.node.name,.bool r306.node.named,.string r306.node.field,.int .i64 r306.node.from_,.int .i64 r306.node.to,.int .i64 r306.node.kids,.int .i64 r306.node.leaf,.slice A308 n309 c310,.int .i64 r306.at_]:=(Cells.cons (c1:=[.string r306.node.name,.bool r306.node.named,.string r306.node.field,.int .i64 r306.node.from_,.int .i64 r306.node.to,.int .i64 r306.node.kids,.int .i64 r306.node.leaf,.slice A308 n309 c310,.int .i64 r306.at_]) (Xob ⟨A308,n309,c310,rfl,h311⟩) Cells.nil)
     refine Xmw 2 rfl (Xqd (xs:=([r306]:List Xm6)) [.string r306.node.name,.bool r306.node.named,.string r306.node.field,.int .i64 r306.node.from_,.int .i64 r306.node.to,.int .i64 r306.node.kids,.int .i64 r306.node.leaf,.slice A308 n309 c310,.int .i64 r306.at_] Xxo rfl (by kernel_rfl) rfl rfl rfl rfl fun gb321 h322=>?_) gn
     obtain ⟨x330,hv331,h⟩:=h
     obtain ⟨hb332,h⟩:=h
     refine w_nil 96 9 ?_
     refine Ycd (F:=F) fun sw327 sb328 ho329=>?_
     obtain ⟨cs333,hc334⟩:∃ x:List Value,x=[]++[.string r306.node.name,.bool r306.node.named,.string r306.node.field,.int .i64 r306.node.from_,.int .i64 r306.node.to,.int .i64 r306.node.kids,.int .i64 r306.node.leaf,.slice A308 n309 c310,.int .i64 r306.at_]:=⟨_,rfl⟩
     have hC335:Cells Xmd (Sm w.heap.size F sw327 sb328).w (Sm w.heap.size F sw327 sb328).av x330 cs333:=by rw [hv331,hc334]; exact Cells.app (Cells.older (s:=Sm w.heap.size F w []) Cells.nil (ho329 _ (me 1 rfl) Sm.ok)) (Cells.older (s:=Sm w.heap.size F w312 sb316) hC320 (ho329 _ (me 0 rfl) Sm.ok))
     refine Xmw 3 rfl (Xrg (zs:=x330) 0 Yby rfl rfl rfl (Ow.nil (z:=w.heap.size)) (Nat.le_refl _) (Src.ownAll 1 rfl h322 hC320) hc334.symm (Xok hv331 h322.hq) hb332 rfl rfl fun A324 c325 h326=>?_) gn
     refine Xm5 4 rfl (Xm9 rfl) gn rfl<|Xmc 5 rfl ?_
     exact Xnj [0,2,3] (j2 x330 h A324 (0 + 1) c325 h326 cs333 sw327 sb328 hC335) ⟨rfl,rfl,trivial⟩ (.cons_cons _ (.cons _ (.cons _ (.cons_cons _ (.slnil))))) rfl
    ·have h:=Xmg hp302 h
     refine Xmr rfl _ rfl ((bf hp302))<|Xmb rfl<|Xm8 rfl rfl<|Xm5 0 rfl (Xm9 rfl) gn rfl<|Xmc 1 rfl<|Xn8 rfl<|Xqz rfl ?_
     have key5:∀ s,Xmh (fun (s:(List Xm6) × Int) o=>Xnf x15 x14 s.1 s.2 o) s r→(fun (s:(List Xm6) × Int)=>∀ (A380:Option Addr) (n381:Nat) (c382:Nat) (h383:Ow w.heap.size A380 n381 c382 s.1) (cs384:List Value) (hC385:Cells Xmd (Sm w.heap.size F w []).w (Sm w.heap.size F w []).av s.1 cs384),G (Xnp w F r) [.code Xze,.inLoop Xze,.inBlock 1,.inBlock 0,.code Xwp] [(2,.slice A16 n17 c18),(5,.pointer (some ⟨gb23,0,none⟩)),(11,.slice A380 n381 c382),(13,.int .i64 s.2)] [.own (.slice A380 n381 c382) 96 9 n381 cs384,.box gb23 104 [.int .i64 x14.sym,.string x14.field,.string x14.as]] [Sm w.heap.size F w [],St w []]) s:=by
      intro s hs
      refine Xmh.ind (mot:=(fun (s:(List Xm6) × Int)=>∀ (A380:Option Addr) (n381:Nat) (c382:Nat) (h383:Ow w.heap.size A380 n381 c382 s.1) (cs384:List Value) (hC385:Cells Xmd (Sm w.heap.size F w []).w (Sm w.heap.size F w []).av s.1 cs384),G (Xnp w F r) [.code Xze,.inLoop Xze,.inBlock 1,.inBlock 0,.code Xwp] [(2,.slice A16 n17 c18),(5,.pointer (some ⟨gb23,0,none⟩)),(11,.slice A380 n381 c382),(13,.int .i64 s.2)] [.own (.slice A380 n381 c382) 96 9 n381 cs384,.box gb23 104 [.int .i64 x14.sym,.string x14.field,.string x14.as]] [Sm w.heap.size F w [],St w []])) ?_ hs
      clear hs s
      intro s o1 h hO1
      obtain ⟨x379,x386⟩:=s
      show ∀ (A380:Option Addr) (n381:Nat) (c382:Nat) (h383:Ow w.heap.size A380 n381 c382 x379) (cs384:List Value) (hC385:Cells Xmd (Sm w.heap.size F w []).w (Sm w.heap.size F w []).av x379 cs384),G (Xnp w F r) [.code Xze,.inLoop Xze,.inBlock 1,.inBlock 0,.code Xwp] [(2,.slice A16 n17 c18),(5,.pointer (some ⟨gb23,0,none⟩)),(11,.slice A380 n381 c382),(13,.int .i64 x386)] [.own (.slice A380 n381 c382) 96 9 n381 cs384,.box gb23 104 [.int .i64 x14.sym,.string x14.field,.string x14.as]] [Sm w.heap.size F w [],St w []]
      intro A380 n381 c382 h383 cs384 hC385
      have h:Xnf x15 x14 x379 x386 o1:=h
      unfold Xnf at h
      refine Xmb rfl<|Xmb rfl<|Xm8 rfl rfl<|Xm5 0 rfl (Xm7 rfl) gn rfl<|Xm5 1 rfl (Xm7 rfl) gn rfl<|Xm5 2 rfl (Xmm Ybv rfl h19.hq) gn rfl<|Xm5 3 rfl (Xmk rfl rfl rfl) gn rfl<|Xmc 4 rfl ?_
      by_cases hp427:x386 < (x15.length:Int)
      ·have h:=Xmf hp427 h
       refine Xmy rfl _ rfl ((decide_eq_true hp427))<|Xn1 rfl<|Xmb rfl<|Xn8 rfl<|Xmb rfl<|Xm8 rfl rfl<|Xm5 0 rfl (Xm7 rfl) gn rfl<|Xm5 1 rfl (Xm7 rfl) gn rfl ?_
       obtain ⟨hb428,h⟩:=h
       obtain ⟨ce430,hK431,hr429⟩:=Rw.read (s:=Sm w.heap.size F w []) h19 hb428
       obtain ⟨A432,n433,c434,rfl,h435⟩:=Xnt hK431
       refine Xm5 2 rfl (Xn4 (s:=Sm w.heap.size F w []) Xx8 rfl rfl h19 hb428) gn rfl<|Xm5 3 rfl (Xx1 (Sm w.heap.size F w []) Xw9 rfl hr429 rfl (me 0 rfl)) gn rfl ?_
       refine Xmw 4 rfl (Xpf [.string (⟨#[]⟩:ByteArray),.bool false,.string (⟨#[]⟩:ByteArray),.int .i64 0,.int .i64 0,.int .i64 0,.int .i64 0,.slice none 0 0,.int .i64 0] Xz5 rfl fun gb436=>?_) gn
       refine Xmw 5 rfl (Xpk (vs:=[.string (((ix x15 x386).node).name),.bool (((ix x15 x386).node).named),.string (((ix x15 x386).node).field),.int .i64 (((ix x15 x386).node).from_),.int .i64 (((ix x15 x386).node).to),.int .i64 (((ix x15 x386).node).kids),.int .i64 (((ix x15 x386).node).leaf),.slice A432 n433 c434,.int .i64 ((ix x15 x386).at_)]) (cs':=[.string (((ix x15 x386).node).name),.bool (((ix x15 x386).node).named),.string (((ix x15 x386).node).field),.int .i64 (((ix x15 x386).node).from_),.int .i64 (((ix x15 x386).node).to),.int .i64 (((ix x15 x386).node).kids),.int .i64 (((ix x15 x386).node).leaf),.slice A432 n433 c434,.int .i64 ((ix x15 x386).at_)]) (M':=[.box gb436 96 [.string (((ix x15 x386).node).name),.bool (((ix x15 x386).node).named),.string (((ix x15 x386).node).field),.int .i64 (((ix x15 x386).node).from_),.int .i64 (((ix x15 x386).node).to),.int .i64 (((ix x15 x386).node).kids),.int .i64 (((ix x15 x386).node).leaf),.slice A432 n433 c434,.int .i64 ((ix x15 x386).at_)],.own (.slice A380 n381 c382) 96 9 n381 cs384,.box gb23 104 [.int .i64 x14.sym,.string x14.field,.string x14.as]]) 0 Xww rfl rfl rfl rfl rfl rfl rfl rfl rfl ?_) gn
       refine Xmc 6 rfl<|Xmb rfl<|Xmb rfl<|Xm8 rfl rfl<|Xm5 0 rfl (Xmj Xu5 rfl) gn rfl<|Xm5 1 rfl (Xmx 2 Xwk rfl rfl rfl) gn rfl<|Xm5 2 rfl (v_neS rfl rfl) gn rfl<|Xmc 3 rfl ?_
       by_cases hp438:x14.as=(⟨#[]⟩:ByteArray)
       ·have h:=Xmf hp438 h
        refine Xmr rfl _ rfl ((nf (Yau hp438)))<|Xn1 rfl<|Xm8 rfl rfl<|Xm5 0 rfl (Xm7 rfl) gn rfl<|Xm5 1 rfl (Xq7 [.string (((ix x15 x386).node).name),.bool (((ix x15 x386).node).named),.string (((ix x15 x386).node).field),.int .i64 (((ix x15 x386).node).from_),.int .i64 (((ix x15 x386).node).to),.int .i64 (((ix x15 x386).node).kids),.int .i64 (((ix x15 x386).node).leaf),.slice A432 n433 c434,.int .i64 ((ix x15 x386).at_)] 0 Xw9 rfl rfl rfl rfl) gn rfl ?_
        have hC440:Cells Xmd (Sm w.heap.size F w []).w (Sm w.heap.size F w []).av ([ix x15 x386]:List Xm6) [.string (((ix x15 x386).node).name),.bool (((ix x15 x386).node).named),.string (((ix x15 x386).node).field),.int .i64 (((ix x15 x386).node).from_),.int .i64 (((ix x15 x386).node).to),.int .i64 (((ix x15 x386).node).kids),.int .i64 (((ix x15 x386).node).leaf),.slice A432 n433 c434,.int .i64 ((ix x15 x386).at_)]:=(Cells.cons (c1:=[.string (((ix x15 x386).node).name),.bool (((ix x15 x386).node).named),.string (((ix x15 x386).node).field),.int .i64 (((ix x15 x386).node).from_),.int .i64 (((ix x15 x386).node).to),.int .i64 (((ix x15 x386).node).kids),.int .i64 (((ix x15 x386).node).leaf),.slice A432 n433 c434,.int .i64 ((ix x15 x386).at_)]) (Xob ⟨A432,n433,c434,rfl,h435⟩) Cells.nil)
        refine Xmw 2 rfl (Xqd (xs:=([ix x15 x386]:List Xm6)) [.string (((ix x15 x386).node).name),.bool (((ix x15 x386).node).named),.string (((ix x15 x386).node).field),.int .i64 (((ix x15 x386).node).from_),.int .i64 (((ix x15 x386).node).to),.int .i64 (((ix x15 x386).node).kids),.int .i64 (((ix x15 x386).node).leaf),.slice A432 n433 c434,.int .i64 ((ix x15 x386).at_)] Xxo rfl (by kernel_rfl) rfl rfl rfl rfl fun gb441 h442=>?_) gn
        obtain ⟨x446,hv447,h⟩:=h
        obtain ⟨hb448,h⟩:=h
        obtain ⟨cs449,hc450⟩:∃ x:List Value,x=cs384++[.string (((ix x15 x386).node).name),.bool (((ix x15 x386).node).named),.string (((ix x15 x386).node).field),.int .i64 (((ix x15 x386).node).from_),.int .i64 (((ix x15 x386).node).to),.int .i64 (((ix x15 x386).node).kids),.int .i64 (((ix x15 x386).node).leaf),.slice A432 n433 c434,.int .i64 ((ix x15 x386).at_)]:=⟨_,rfl⟩
        have hC451:Cells Xmd (Sm w.heap.size F w []).w (Sm w.heap.size F w []).av x446 cs449:=by rw [hv447,hc450]; exact Cells.app hC385 hC440
        refine Xmw 3 rfl (Xrg (zs:=x446) 2 Yby rfl rfl rfl h383 (Nat.le_refl _) (Src.ownAll 0 rfl h442 hC440) hc450.symm (Xok hv447 h442.hq) hb448 rfl rfl fun A443 c444 h445=>?_) gn
        refine Xm5 4 rfl (Xm9 rfl) gn rfl<|Xmc 5 rfl<|Xnh<|Xm8 rfl rfl<|Xm5 0 rfl (Xm7 rfl) gn rfl<|Xm5 1 rfl (Xmk rfl rfl rfl) gn rfl<|Xm5 2 rfl (Xm9 rfl) gn rfl<|Xmc 3 rfl<|Xo7 ?_
        have ih:=Out.inl hO1 h
        exact Xnj [0,1] (ih A443 (n381 + 1) c444 h445 cs449 hC451) ⟨rfl,rfl,rfl,rfl,trivial⟩ (.cons _ (.cons _ (.cons_cons _ (.cons_cons _ (.slnil))))) rfl
       ·have h:=Xmg hp438 h
        refine Xmy rfl _ rfl ((nt (Ybh hp438)))<|Xmb rfl<|Xm8 rfl rfl<|Xm5 0 rfl (Xmj Xu5 rfl) gn rfl<|Xm5 1 rfl (Xmx 2 Xwk rfl rfl rfl) gn rfl<|Xm5 2 rfl (Xmj Xwe rfl) gn rfl<|Xm5 3 rfl (Xmj Yai rfl) gn rfl ?_
        refine Xmw 4 rfl (Xpk (vs:=[.string x14.as]) (cs':=[.string x14.as,.bool (((ix x15 x386).node).named),.string (((ix x15 x386).node).field),.int .i64 (((ix x15 x386).node).from_),.int .i64 (((ix x15 x386).node).to),.int .i64 (((ix x15 x386).node).kids),.int .i64 (((ix x15 x386).node).leaf),.slice A432 n433 c434,.int .i64 ((ix x15 x386).at_)]) (M':=[.box gb436 96 [.string x14.as,.bool (((ix x15 x386).node).named),.string (((ix x15 x386).node).field),.int .i64 (((ix x15 x386).node).from_),.int .i64 (((ix x15 x386).node).to),.int .i64 (((ix x15 x386).node).kids),.int .i64 (((ix x15 x386).node).leaf),.slice A432 n433 c434,.int .i64 ((ix x15 x386).at_)],.own (.slice A380 n381 c382) 96 9 n381 cs384,.box gb23 104 [.int .i64 x14.sym,.string x14.field,.string x14.as]]) 0 sz_9 rfl rfl rfl rfl rfl rfl rfl rfl rfl ?_) gn
        refine Xmc 5 rfl<|Xm8 rfl rfl<|Xm5 0 rfl (Xmj Xwe rfl) gn rfl<|Xm5 1 rfl (Xmj Yf6 rfl) gn rfl ?_
        refine Xmw 2 rfl (Xpk (vs:=[.bool true]) (cs':=[.string x14.as,.bool true,.string (((ix x15 x386).node).field),.int .i64 (((ix x15 x386).node).from_),.int .i64 (((ix x15 x386).node).to),.int .i64 (((ix x15 x386).node).kids),.int .i64 (((ix x15 x386).node).leaf),.slice A432 n433 c434,.int .i64 ((ix x15 x386).at_)]) (M':=[.box gb436 96 [.string x14.as,.bool true,.string (((ix x15 x386).node).field),.int .i64 (((ix x15 x386).node).from_),.int .i64 (((ix x15 x386).node).to),.int .i64 (((ix x15 x386).node).kids),.int .i64 (((ix x15 x386).node).leaf),.slice A432 n433 c434,.int .i64 ((ix x15 x386).at_)],.own (.slice A380 n381 c382) 96 9 n381 cs384,.box gb23 104 [.int .i64 x14.sym,.string x14.field,.string x14.as]]) 0 sz_4 rfl rfl rfl rfl rfl rfl rfl rfl rfl ?_) gn
        refine Xmc 3 rfl<|Xm8 rfl rfl<|Xm5 0 rfl (Xm7 rfl) gn rfl<|Xm5 1 rfl (Xq7 [.string x14.as,.bool true,.string (((ix x15 x386).node).field),.int .i64 (((ix x15 x386).node).from_),.int .i64 (((ix x15 x386).node).to),.int .i64 (((ix x15 x386).node).kids),.int .i64 (((ix x15 x386).node).leaf),.slice A432 n433 c434,.int .i64 ((ix x15 x386).at_)] 0 Xw9 rfl rfl rfl rfl) gn rfl ?_
        have hC453:Cells Xmd (Sm w.heap.size F w []).w (Sm w.heap.size F w []).av ([(⟨(⟨x14.as,true,((ix x15 x386).node).field,((ix x15 x386).node).from_,((ix x15 x386).node).to,((ix x15 x386).node).kids,((ix x15 x386).node).leaf⟩:Xm4),(ix x15 x386).kids,(ix x15 x386).at_⟩:Xm6)]:List Xm6) [.string x14.as,.bool true,.string (((ix x15 x386).node).field),.int .i64 (((ix x15 x386).node).from_),.int .i64 (((ix x15 x386).node).to),.int .i64 (((ix x15 x386).node).kids),.int .i64 (((ix x15 x386).node).leaf),.slice A432 n433 c434,.int .i64 ((ix x15 x386).at_)]:=(Cells.cons (c1:=[.string x14.as,.bool true,.string (((ix x15 x386).node).field),.int .i64 (((ix x15 x386).node).from_),.int .i64 (((ix x15 x386).node).to),.int .i64 (((ix x15 x386).node).kids),.int .i64 (((ix x15 x386).node).leaf),.slice A432 n433 c434,.int .i64 ((ix x15 x386).at_)]) (Xob ⟨A432,n433,c434,rfl,h435⟩) Cells.nil)
        refine Xmw 2 rfl (Xqd (xs:=([(⟨(⟨x14.as,true,((ix x15 x386).node).field,((ix x15 x386).node).from_,((ix x15 x386).node).to,((ix x15 x386).node).kids,((ix x15 x386).node).leaf⟩:Xm4),(ix x15 x386).kids,(ix x15 x386).at_⟩:Xm6)]:List Xm6)) [.string x14.as,.bool true,.string (((ix x15 x386).node).field),.int .i64 (((ix x15 x386).node).from_),.int .i64 (((ix x15 x386).node).to),.int .i64 (((ix x15 x386).node).kids),.int .i64 (((ix x15 x386).node).leaf),.slice A432 n433 c434,.int .i64 ((ix x15 x386).at_)] Xxo rfl (by kernel_rfl) rfl rfl rfl rfl fun gb454 h455=>?_) gn
        obtain ⟨x459,hv460,h⟩:=h
        obtain ⟨hb461,h⟩:=h
        obtain ⟨cs462,hc463⟩:∃ x:List Value,x=cs384++[.string x14.as,.bool true,.string (((ix x15 x386).node).field),.int .i64 (((ix x15 x386).node).from_),.int .i64 (((ix x15 x386).node).to),.int .i64 (((ix x15 x386).node).kids),.int .i64 (((ix x15 x386).node).leaf),.slice A432 n433 c434,.int .i64 ((ix x15 x386).at_)]:=⟨_,rfl⟩
        have hC464:Cells Xmd (Sm w.heap.size F w []).w (Sm w.heap.size F w []).av x459 cs462:=by rw [hv460,hc463]; exact Cells.app hC385 hC453
        refine Xmw 3 rfl (Xrg (zs:=x459) 2 Yby rfl rfl rfl h383 (Nat.le_refl _) (Src.ownAll 0 rfl h455 hC453) hc463.symm (Xok hv460 h455.hq) hb461 rfl rfl fun A456 c457 h458=>?_) gn
        refine Xm5 4 rfl (Xm9 rfl) gn rfl<|Xmc 5 rfl<|Xnh<|Xm8 rfl rfl<|Xm5 0 rfl (Xm7 rfl) gn rfl<|Xm5 1 rfl (Xmk rfl rfl rfl) gn rfl<|Xm5 2 rfl (Xm9 rfl) gn rfl<|Xmc 3 rfl<|Xo7 ?_
        have ih:=Out.inl hO1 h
        exact Xnj [0,1] (ih A456 (n381 + 1) c457 h458 cs462 hC464) ⟨rfl,rfl,rfl,rfl,trivial⟩ (.cons _ (.cons _ (.cons_cons _ (.cons_cons _ (.slnil))))) rfl
      ·have h:=Xmg hp427 h
       refine Xmr rfl _ rfl ((decide_eq_false hp427))<|Xqk [.inBlock 0,.code Xwp] rfl rfl ?_
       obtain ⟨q465,hq466,h⟩:=h
       have hq466:=Out.inr hO1 hq466
       rw [← hq466] at h
       exact Xnj [0,0,1] (j2 x379 h A380 n381 c382 h383 cs384 w [] hC385) ⟨rfl,rfl,trivial⟩ (.cons_cons _ (.cons_cons _ (.slnil))) rfl
     refine Xrf 96 9 ?_
     exact Xnj [0,1] (key5 _ h none 0 0 (Ow.nil (z:=w.heap.size)) [] Cells.nil) ⟨rfl,rfl,rfl,rfl,trivial⟩ (.cons_cons _ (.cons_cons _ (.slnil))) rfl
   refine Xm8 rfl rfl<|Xm5 0 rfl (Xmj Xu5 rfl) gn rfl<|Xm5 1 rfl (Xmx 0 Xwk rfl rfl rfl) gn rfl<|Xm5 2 rfl (v_neS rfl rfl) gn rfl<|Xm5 3 rfl (Xm7 rfl) gn rfl ?_
   by_cases hp467:x14.as=(⟨#[]⟩:ByteArray)
   ·have h:=Xmf hp467 h
    refine Xn6 58 rfl ((nf (Yau hp467)))<|Xma 4 rfl (ps 58 rfl rfl rfl)<|Xma 5 rfl (ps 58 rfl rfl rfl)<|Xm5 6 rfl (Xmn (b:=false) rfl rfl) gn rfl<|Xm5 7 rfl (Xm9 rfl) gn rfl<|Xmc 8 rfl ?_
    exact Xnj [0,1] (j4 false h) ⟨rfl,rfl,rfl,rfl,rfl,trivial⟩ (.cons_cons _ (.slnil)) rfl
   ·have h:=Xmg hp467 h
    refine Xn6 58 rfl ((nt (Ybh hp467)))<|Xm5 4 rfl (Xm7 rfl) (gy 58 rfl rfl) rfl<|Xm5 5 rfl (Xmk rfl rfl rfl) (gy 58 rfl rfl) rfl<|Xm5 6 rfl (Xmn (b:=true) rfl rfl) gn rfl<|Xm5 7 rfl (Xm9 rfl) gn rfl<|Xmc 8 rfl ?_
    exact Xnj [0,1] (j4 (r28 == 2) h) ⟨rfl,rfl,rfl,rfl,rfl,trivial⟩ (.cons_cons _ (.slnil)) rfl
 refine Xm8 rfl rfl<|Xm5 0 rfl (Xmj Xu5 rfl) gn rfl<|Xm5 1 rfl (Xmx 0 Xwk rfl rfl rfl) gn rfl<|Xm5 2 rfl (Ydj rfl rfl) gn rfl<|Xm5 3 rfl (Xm7 rfl) gn rfl ?_
 by_cases hp468:x14.as=(⟨#[]⟩:ByteArray)
 ·have h:=Xmf hp468 h
  refine Xn6 51 rfl ((Yau hp468))<|Xm5 4 rfl (Xm7 rfl) (gy 51 rfl rfl) rfl<|Xm5 5 rfl (Xmn (b:=true) rfl rfl) gn rfl<|Xm5 6 rfl (Xm9 rfl) gn rfl<|Xmc 7 rfl ?_
  exact Xnj [0,1] (j1 r36 h) ⟨rfl,rfl,rfl,rfl,rfl,rfl,trivial⟩ (.cons_cons _ (.cons _ (.slnil))) rfl
 ·have h:=Xmg hp468 h
  refine Xn6 51 rfl ((Ybh hp468))<|Xma 4 rfl (ps 51 rfl rfl rfl)<|Xm5 5 rfl (Xmn (b:=false) rfl rfl) gn rfl<|Xm5 6 rfl (Xm9 rfl) gn rfl<|Xmc 7 rfl ?_
  exact Xnj [0,1] (j1 false h) ⟨rfl,rfl,rfl,rfl,rfl,rfl,trivial⟩ (.cons_cons _ (.cons _ (.slnil))) rfl
noncomputable abbrev q64c6:=Code.snd (Code.snd (Code.snd (Xnv Try.f64)))
noncomputable abbrev Xzu:=Code.fst (Code.fst (Code.snd (Code.fst (Code.snd (Code.snd (Xnv Try.f64))))))
abbrev Xrl (w:World) (F:Nat→Prop) (r:List Xm4):Ending→World→Prop:=fun e w'=>∃ A0:Option Addr,∃ n0:Nat,∃ c0:Nat,e=.returned (.slice A0 n0 c0)∧B.Loc w w' [.own (.slice A0 n0 c0) 39 7 n0 (r.flatMap Xme)] [St w []]∧Ow w.heap.size A0 n0 c0 r
noncomputable abbrev Xri (w:World) (F:Nat→Prop) (r:List Xm4):Cx:=⟨Try.prog,64,Try.f64,39,Xrl w F  r,w⟩
def Xs7 (rl:(List Xm6)→(List Xm4)→Prop):Prop:=∀ (w:World) (F:Nat→Prop) (x1:List Xm6) (A2:Option Addr) (n3:Nat) (c4:Nat) (h5:Rw Xmd w (St w []).av A2 n3 c4 x1) (hF:∀ b,F b→b < w.heap.size∧∀ o ∈ ([]:List (List Nat)),b ∉ o) (hL0:B.Loc w w [] [Sm w.heap.size F w [],St w []]) (r:List Xm4) (h:rl x1 r),Calls Try.prog 64 #[.slice A2 n3 c4] w (Xrl w F  r)
theorem Xwh (rc_trellisref15_list:(List Xm6)→(List Xm4)→Prop) (ih_trellisref15_list:Xs7 rc_trellisref15_list):Xs7 (Xpi rc_trellisref15_list):=by
 intro w F x1 A2 n3 c4 h5 hF hL0 r h
 unfold Xpi at h
 refine Xmq (vs:=[.slice A2 n3 c4]) 39 Try.func64 rfl Try.ntmps64 rfl hL0 ?_
 show G (Xri w F r) _ _ _ _
 refine Xmb rfl<|Xm8 rfl rfl<|Xm5 0 rfl (Xm9 rfl) gn rfl<|Xmc 1 rfl<|Xmb rfl<|Xm8 rfl rfl<|Xm5 0 rfl (Xm9 rfl) gn rfl<|Xmc 1 rfl<|Xmb rfl<|Xmb rfl<|Xm8 rfl rfl<|Xm5 0 rfl (Xm9 rfl) gn rfl ?_
 refine Xmc 1 rfl<|Xn8 rfl<|Xqz rfl ?_
 have key1:∀ s,Xmh (fun (s:(List Xm4) × Int) o=>Xnx x1 rc_trellisref15_list s.1 s.2 o) s r→(fun (s:(List Xm4) × Int)=>∀ (A62:Option Addr) (n63:Nat) (c64:Nat) (h65:Ow w.heap.size A62 n63 c64 s.1),G (Xri w F r) [.code Xzu,.inLoop Xzu,.inBlock 0,.code q64c6] [(0,.slice A2 n3 c4),(3,.slice A62 n63 c64),(4,.int .i64 s.2)] [.own (.slice A62 n63 c64) 39 7 n63 (s.1.flatMap Xme)] [Sm w.heap.size F w [],St w []]) s:=by
  intro s hs
  refine Xmh.ind (mot:=(fun (s:(List Xm4) × Int)=>∀ (A62:Option Addr) (n63:Nat) (c64:Nat) (h65:Ow w.heap.size A62 n63 c64 s.1),G (Xri w F r) [.code Xzu,.inLoop Xzu,.inBlock 0,.code q64c6] [(0,.slice A2 n3 c4),(3,.slice A62 n63 c64),(4,.int .i64 s.2)] [.own (.slice A62 n63 c64) 39 7 n63 (s.1.flatMap Xme)] [Sm w.heap.size F w [],St w []])) ?_ hs
  clear hs s
  intro s o1 h hO1
  obtain ⟨x61,x66⟩:=s
  show ∀ (A62:Option Addr) (n63:Nat) (c64:Nat) (h65:Ow w.heap.size A62 n63 c64 x61),G (Xri w F r) [.code Xzu,.inLoop Xzu,.inBlock 0,.code q64c6] [(0,.slice A2 n3 c4),(3,.slice A62 n63 c64),(4,.int .i64 x66)] [.own (.slice A62 n63 c64) 39 7 n63 (x61.flatMap Xme)] [Sm w.heap.size F w [],St w []]
  intro A62 n63 c64 h65
  have h:Xnx x1 rc_trellisref15_list x61 x66 o1:=h
  unfold Xnx at h
  refine Xmb rfl<|Xmb rfl<|Xm8 rfl rfl<|Xm5 0 rfl (Xm7 rfl) gn rfl<|Xm5 1 rfl (Xm7 rfl) gn rfl<|Xm5 2 rfl (Xmm Ybv rfl h5.hq) gn rfl<|Xm5 3 rfl (Xmk rfl rfl rfl) gn rfl<|Xmc 4 rfl ?_
  by_cases hp120:x66 < (x1.length:Int)
  ·have h:=Xmf hp120 h
   refine Xmy rfl _ rfl ((decide_eq_true hp120))<|Xn1 rfl<|Xmb rfl<|Xn8 rfl<|Xmb rfl<|Xm8 rfl rfl<|Xm5 0 rfl (Xm7 rfl) gn rfl<|Xm5 1 rfl (Xm7 rfl) gn rfl ?_
   obtain ⟨hb121,h⟩:=h
   obtain ⟨ce123,hK124,hr122⟩:=Rw.read (s:=St w []) h5 hb121
   obtain ⟨A125,n126,c127,rfl,h128⟩:=Xnt hK124
   refine Xm5 2 rfl (Xn4 (s:=St w []) Xx8 rfl rfl h5 hb121) gn rfl<|Xm5 3 rfl (Xo6 Xwe rfl) gn rfl<|Xm5 4 rfl (Xx1 (St w []) Xy1 rfl (Rd.part (o:=0) (m:=7) hr122) rfl (me 1 rfl)) gn rfl ?_
   refine Xmw 5 rfl (Xpf [.string (⟨#[]⟩:ByteArray),.bool false,.string (⟨#[]⟩:ByteArray),.int .i64 0,.int .i64 0,.int .i64 0,.int .i64 0] zr_39 rfl fun gb129=>?_) gn
   refine Xmw 6 rfl (Xpk (vs:=[.string (((ix x1 x66).node).name),.bool (((ix x1 x66).node).named),.string (((ix x1 x66).node).field),.int .i64 (((ix x1 x66).node).from_),.int .i64 (((ix x1 x66).node).to),.int .i64 (((ix x1 x66).node).kids),.int .i64 (((ix x1 x66).node).leaf)]) (cs':=[.string (((ix x1 x66).node).name),.bool (((ix x1 x66).node).named),.string (((ix x1 x66).node).field),.int .i64 (((ix x1 x66).node).from_),.int .i64 (((ix x1 x66).node).to),.int .i64 (((ix x1 x66).node).kids),.int .i64 (((ix x1 x66).node).leaf)]) (M':=[.box gb129 39 [.string (((ix x1 x66).node).name),.bool (((ix x1 x66).node).named),.string (((ix x1 x66).node).field),.int .i64 (((ix x1 x66).node).from_),.int .i64 (((ix x1 x66).node).to),.int .i64 (((ix x1 x66).node).kids),.int .i64 (((ix x1 x66).node).leaf)],.own (.slice A62 n63 c64) 39 7 n63 (x61.flatMap Xme)]) 0 sz_39 rfl rfl rfl rfl rfl rfl rfl rfl rfl ?_) gn
   refine Xmc 7 rfl<|Xmb rfl<|Xm8 rfl rfl<|Xm5 0 rfl (Xm7 rfl) gn rfl<|Xm5 1 rfl (Xm7 rfl) gn rfl ?_
   obtain ⟨ce132,hK133,hr131⟩:=Rw.read (s:=St w []) h5 hb121
   obtain ⟨A134,n135,c136,rfl,h137⟩:=Xnt hK133
   refine Xm5 2 rfl (Xn4 (s:=St w []) Xx8 rfl rfl h5 hb121) gn rfl<|Xm5 3 rfl (Xo6 Yah rfl) gn rfl<|Xm5 4 rfl (Xnl (kk:=(x66:Int).toNat * 9) (j:=7) (St w []) ld_89 rfl hr131 rfl (me 1 rfl)) gn rfl<|Xm5 5 rfl (Xmm Ybv rfl h137.hq) gn rfl<|Xm5 6 rfl (Xmj Xsf rfl) gn rfl ?_
   refine Xmw 7 rfl (Xpk (vs:=[.int .i64 (((ix x1 x66).kids).length:Int)]) (cs':=[.string (((ix x1 x66).node).name),.bool (((ix x1 x66).node).named),.string (((ix x1 x66).node).field),.int .i64 (((ix x1 x66).node).from_),.int .i64 (((ix x1 x66).node).to),.int .i64 (((ix x1 x66).kids).length:Int),.int .i64 (((ix x1 x66).node).leaf)]) (M':=[.box gb129 39 [.string (((ix x1 x66).node).name),.bool (((ix x1 x66).node).named),.string (((ix x1 x66).node).field),.int .i64 (((ix x1 x66).node).from_),.int .i64 (((ix x1 x66).node).to),.int .i64 (((ix x1 x66).kids).length:Int),.int .i64 (((ix x1 x66).node).leaf)],.own (.slice A62 n63 c64) 39 7 n63 (x61.flatMap Xme)]) 0 Yaa rfl rfl rfl rfl rfl rfl rfl rfl rfl ?_) gn
   refine Xmc 8 rfl<|Xmb rfl<|Xm8 rfl rfl<|Xm5 0 rfl (Xm7 rfl) gn rfl<|Xm5 1 rfl (Xq7 [.string (((ix x1 x66).node).name),.bool (((ix x1 x66).node).named),.string (((ix x1 x66).node).field),.int .i64 (((ix x1 x66).node).from_),.int .i64 (((ix x1 x66).node).to),.int .i64 (((ix x1 x66).kids).length:Int),.int .i64 (((ix x1 x66).node).leaf)] 0 Xy1 rfl rfl rfl rfl) gn rfl ?_
   refine Xmw 2 rfl (Xqd (xs:=([(⟨((ix x1 x66).node).name,((ix x1 x66).node).named,((ix x1 x66).node).field,((ix x1 x66).node).from_,((ix x1 x66).node).to,(((ix x1 x66).kids).length:Int),((ix x1 x66).node).leaf⟩:Xm4)]:List Xm4)) [.string (((ix x1 x66).node).name),.bool (((ix x1 x66).node).named),.string (((ix x1 x66).node).field),.int .i64 (((ix x1 x66).node).from_),.int .i64 (((ix x1 x66).node).to),.int .i64 (((ix x1 x66).kids).length:Int),.int .i64 (((ix x1 x66).node).leaf)] Xyo rfl (by kernel_rfl) rfl rfl rfl rfl fun gb139 h140=>?_) gn
   obtain ⟨x144,hv145,h⟩:=h
   obtain ⟨hb146,h⟩:=h
   refine Xmw 3 rfl (Xrg (zs:=x144) (cells':=x144.flatMap Xme) 2 Xyz rfl rfl rfl h65 (Nat.le_refl _) (Src.ownF (hl:=Xmv) (h1:=Xna) 0 rfl h140) (by rw [hv145,List.flatMap_append] <;> rfl) (Xok hv145 h140.hq) hb146 rfl rfl fun A141 c142 h143=>?_) gn
   refine Xm5 4 rfl (Xm9 rfl) gn rfl<|Xmc 5 rfl<|Xmb rfl<|Xm8 rfl rfl<|Xm5 0 rfl (Xm7 rfl) gn rfl<|Xm5 1 rfl (Xm7 rfl) gn rfl ?_
   obtain ⟨ce148,hK149,hr147⟩:=Rw.read (s:=St w []) h5 hb121
   obtain ⟨A150,n151,c152,rfl,h153⟩:=Xnt hK149
   refine Xm5 2 rfl (Xn4 (s:=St w []) Xx8 rfl rfl h5 hb121) gn rfl<|Xm5 3 rfl (Xo6 Yah rfl) gn rfl<|Xm5 4 rfl (Xnl (kk:=(x66:Int).toNat * 9) (j:=7) (St w []) ld_89 rfl hr147 rfl (me 1 rfl)) gn rfl ?_
   obtain ⟨r157,hv158,h⟩:=h
   refine Xmw 5 rfl (Xne [.slice A150 n151 c152] rfl Try.func64 rfl rfl rfl fun w154 hL155=>?_) gn
   have hp156:=pmI hL155 .n (.c 0 rfl (.c 1 rfl (.c 2 rfl .n))) (by kernel_rfl)
   refine Calls.mono (ih_trellisref15_list w154 (Fl ([]:List Xmp)) ((ix x1 x66).kids) A150 n151 c152 (Rw.mono h153 (hL155.toSt hp156 (me 1 rfl))) (hL155.hFl hp156 (Xms [] rfl)) (hL155.into hp156 _) r157 hv158) ?_
   rintro _ w164 ⟨A159,n160,c161,rfl,hM165,h162⟩
   have hL166:=hL155.call hp156 hM165
   refine ⟨_,_,_,rfl,hL166,?_⟩
   refine Xm5 6 rfl (Xm9 rfl) gn rfl<|Xmc 7 rfl<|Xm8 rfl rfl<|Xm5 0 rfl (Xm7 rfl) gn rfl<|Xm5 1 rfl (Xm7 rfl) gn rfl ?_
   obtain ⟨x170,hv171,h⟩:=h
   obtain ⟨hb172,h⟩:=h
   refine Xmw 2 rfl (Xrg (zs:=x170) (cells':=x170.flatMap Xme) 3 Xyz rfl rfl rfl h143 (Nat.le_refl _) (Src.ownF (hl:=Xmv) (h1:=Xna) 0 rfl (Ow.weak hL155.env.size h162)) (by rw [hv171,List.flatMap_append] <;> rfl) (Xok hv171 (Ow.weak hL155.env.size h162).hq) hb172 rfl rfl fun A167 c168 h169=>?_) gn
   refine Xm5 3 rfl (Xm9 rfl) gn rfl<|Xmc 4 rfl<|Xnh<|Xm8 rfl rfl<|Xm5 0 rfl (Xm7 rfl) gn rfl<|Xm5 1 rfl (Xmk rfl rfl rfl) gn rfl<|Xm5 2 rfl (Xm9 rfl) gn rfl<|Xmc 3 rfl<|Xo7 ?_
   have ih:=Out.inl hO1 h
   exact Xnj [0,1] (ih A167 ((n63 + 1) + n160) c168 h169) ⟨rfl,rfl,rfl,trivial⟩ (.cons _ (.cons _ (.cons _ (.cons_cons _ (.slnil))))) rfl
  ·have h:=Xmg hp120 h
   refine Xmr rfl _ rfl ((decide_eq_false hp120))<|Xqk [.code q64c6] rfl rfl<|Xmb rfl<|Xm8 rfl rfl<|Xm5 0 rfl (Xm7 rfl) gn rfl<|Xm5 1 rfl (Xm9 rfl) gn rfl<|Xmc 2 rfl ?_
   have h:=Out.inr hO1 h
   refine Xmt [.slice A62 n63 c64] rfl Try.func64 rfl (.tmp rfl (.nil)) fun wr hLr=>?_
   have hMr:=hLr.pkI (.c 0 rfl .n) .n (by kernel_rfl) (.c 1 rfl .n)
   show Xrl w F  r (.returned (Xmz [.slice A62 n63 c64])) wr
   rw [h]
   exact ⟨A62,n63,c64,rfl,hMr,h65⟩
 refine Xrf 39 7 ?_
 exact Xnj [0,1] (key1 _ h none 0 0 (Ow.nil (z:=w.heap.size))) ⟨rfl,rfl,rfl,trivial⟩ (.cons_cons _ (.slnil)) rfl
theorem Xtl:∀ n,Xs7 (Xpp n)
 | 0=>fun w F x1 A2 n3 c4 h5 hF hL0 r h=>h.elim
 | n + 1=>by
  have ih:=Xtl n
  exact Xwh _ ih
theorem Xt1 (w:World) (F:Nat→Prop) (x1:List Xm6) (A2:Option Addr) (n3:Nat) (c4:Nat) (h5:Rw Xmd w (St w []).av A2 n3 c4 x1) (hF:∀ b,F b→b < w.heap.size∧∀ o ∈ ([]:List (List Nat)),b ∉ o) (hL0:B.Loc w w [] [Sm w.heap.size F w [],St w []]) (r:List Xm4) (h:Xtb x1 r):Calls Try.prog 64 #[.slice A2 n3 c4] w (Xrl w F  r):=by
 obtain ⟨n,h⟩:=h
 exact (Xtl n) w F x1 A2 n3 c4 h5 hF hL0 r h
noncomputable abbrev q35c4:=Code.snd (Code.snd (Xnv Try.f35))
noncomputable abbrev q35c6:=Code.snd (Code.fst (Code.snd (Xnv Try.f35)))
noncomputable abbrev Ye5:=Code.snd (Code.snd q35c4)
noncomputable abbrev q35c16:=Code.snd (Code.fst (Code.snd q35c4))
noncomputable abbrev Xzk:=Code.snd (Code.snd Ye5)
noncomputable abbrev Xyd:=Code.fst (Code.fst (Code.snd (Code.fst (Code.snd Ye5))))
noncomputable abbrev q35c46:=Code.fst (Code.snd (Code.snd (Code.fst (Code.fst (Code.snd Xyd)))))
noncomputable abbrev q35c51:=Code.snd Xzk
noncomputable abbrev Yeo:=Code.snd (Code.fst Xzk)
noncomputable abbrev q35c56:=Code.fst (Code.fst Yeo)
noncomputable abbrev q35c57:=Code.snd (Code.fst Yeo)
abbrev Xoh (w:World) (F:Nat→Prop) (r:List Xm4):Ending→World→Prop:=fun e w'=>∃ A0:Option Addr,∃ n0:Nat,∃ c0:Nat,e=.returned (.slice A0 n0 c0)∧B.Loc w w' [.own (.slice A0 n0 c0) 39 7 n0 (r.flatMap Xme)] [St w []]∧Ow w.heap.size A0 n0 c0 r
noncomputable abbrev Xo1 (w:World) (F:Nat→Prop) (r:List Xm4):Cx:=⟨Try.prog,35,Try.f35,124,Xoh w F  r,w⟩
theorem Xv3 (w:World) (F:Nat→Prop) (x1:Xml) (x46:Int) (x47:List (List Xm4)) (x52:List Int) (A2:Option Addr) (n3:Nat) (c4:Nat) (A6:Option Addr) (n7:Nat) (c8:Nat) (A10:Option Addr) (n11:Nat) (c12:Nat) (A14:Option Addr) (n15:Nat) (c16:Nat) (A18:Option Addr) (n19:Nat) (c20:Nat) (A22:Option Addr) (n23:Nat) (c24:Nat) (A26:Option Addr) (n27:Nat) (c28:Nat) (A30:Option Addr) (n31:Nat) (c32:Nat) (A34:Option Addr) (n35:Nat) (c36:Nat) (A38:Option Addr) (n39:Nat) (c40:Nat) (A42:Option Addr) (n43:Nat) (c44:Nat) (A48:Option Addr) (n49:Nat) (c50:Nat) (A53:Option Addr) (n54:Nat) (c55:Nat) (h5:Rw Xoq w (St w []).av A2 n3 c4 x1.modes) (h9:Rw Xng w (St w []).av A6 n7 c8 x1.gram.terms) (h13:Rw Xor w (St w []).av A10 n11 c12 x1.gram.syms) (h17:Rw Xo9 w (St w []).av A14 n15 c16 x1.gram.prods) (h21:Rw Xqc w (St w []).av A18 n19 c20 x1.rules) (h25:Rw (Kd.slice Xol) w (St w []).av A22 n23 c24 x1.table.actions) (h29:Rw (Kd.slice (Xs2 .i64)) w (St w []).av A26 n27 c28 x1.table.gotos) (h33:Rw Xoc w (St w []).av A30 n31 c32 x1.paints) (h37:Rw Xz4 w (St w []).av A34 n35 c36 x1.folds) (h41:Rw Xop w (St w []).av A38 n39 c40 x1.marks) (h45:Rw Xo4 w (St w []).av A42 n43 c44 x1.injects) (h51:Rw (Kd.slice Xmo) w (St w []).av A48 n49 c50 x47) (h56:Rw (Xs2 .i64) w (St w []).av A53 n54 c55 x52) (hF:∀ b,F b→b < w.heap.size∧∀ o ∈ ([]:List (List Nat)),b ∉ o) (hL0:B.Loc w w [] [Sm w.heap.size F w [],St w []]) (r:List Xm4) (h:Xqf x1 x46 x47 x52 r):Calls Try.prog 35 #[.agg #[.string x1.name,.slice A2 n3 c4,.slice A6 n7 c8,.slice A10 n11 c12,.slice A14 n15 c16,.slice A18 n19 c20,.slice A22 n23 c24,.slice A26 n27 c28,.slice A30 n31 c32,.slice A34 n35 c36,.slice A38 n39 c40,.slice A42 n43 c44],.int .i64 x46,.slice A48 n49 c50,.slice A53 n54 c55] w (Xoh w F  r):=by
 unfold Xqf at h
 refine Xmq (vs:=[.agg #[.string x1.name,.slice A2 n3 c4,.slice A6 n7 c8,.slice A10 n11 c12,.slice A14 n15 c16,.slice A18 n19 c20,.slice A22 n23 c24,.slice A26 n27 c28,.slice A30 n31 c32,.slice A34 n35 c36,.slice A38 n39 c40,.slice A42 n43 c44],.int .i64 x46,.slice A48 n49 c50,.slice A53 n54 c55]) 124 Try.func35 rfl Try.ntmps35 rfl hL0 ?_
 show G (Xo1 w F r) _ _ _ _
 refine Xmb rfl<|Xm8 rfl rfl ?_
 refine Xmw 0 rfl (Xtj [.string x1.name,.slice A2 n3 c4,.slice A6 n7 c8,.slice A10 n11 c12,.slice A14 n15 c16,.slice A18 n19 c20,.slice A22 n23 c24,.slice A26 n27 c28,.slice A30 n31 c32,.slice A34 n35 c36,.slice A38 n39 c40,.slice A42 n43 c44] rfl rfl rfl fun gb57=>?_) gn
 refine Xm5 1 rfl (Xm9 rfl) gn rfl<|Xmc 2 rfl<|Xmb rfl<|Xmb rfl ?_
 have j1:∀ (x61:Bool) (h:Xot x46 x1 x47 x52 x61 r) ,G (Xo1 w F r) [.code q35c6,.code q35c4] [(1,.int .i64 x46),(2,.slice A48 n49 c50),(3,.slice A53 n54 c55),(4,.pointer (some ⟨gb57,0,none⟩)),(25,.bool x61)] [.box gb57 58 [.string x1.name,.slice A2 n3 c4,.slice A6 n7 c8,.slice A10 n11 c12,.slice A14 n15 c16,.slice A18 n19 c20,.slice A22 n23 c24,.slice A26 n27 c28,.slice A30 n31 c32,.slice A34 n35 c36,.slice A38 n39 c40,.slice A42 n43 c44]] [Sm w.heap.size F w [],St w []]:=by
  intro x61 h
  unfold Xot at h
  by_cases hp62:x61=true
  ·have h:=Xmf hp62 h
   refine Xmy rfl _ rfl (hp62)<|Xmb rfl<|Xm8 rfl rfl<|Xm5 0 rfl (Xm9 rfl) gn rfl<|Xmc 1 rfl<|Xrf 39 7 ?_
   refine Xmt [.slice none 0 0] rfl Try.func35 rfl (.tmp rfl (.nil)) fun wr hLr=>?_
   have hMr:=hLr.pkI (.c 0 rfl .n) (.c 1 rfl .n) (by kernel_rfl) (.c 1 rfl .n)
   show Xoh w F  r (.returned (Xmz [.slice none 0 0])) wr
   rw [h]
   exact ⟨none,0,0,rfl,hMr,(Ow.nil (z:=w.heap.size))⟩
  ·have h:=Xmg hp62 h
   refine Xmr rfl _ rfl ((bf hp62))<|Xn1 rfl<|Xmb rfl<|Xm8 rfl rfl<|Xm5 0 rfl (Xmj Xqa rfl) gn rfl<|Xm5 1 rfl (Xmj Yae rfl) gn rfl<|Xm5 2 rfl (Xmx 0 ld_45 rfl rfl rfl) gn rfl<|Xm5 3 rfl (Xm7 rfl) gn rfl ?_
   obtain ⟨hb63,h⟩:=h
   obtain ⟨ce65,hK66,hr64⟩:=Rw.read (s:=St w []) h17 hb63
   obtain ⟨A67,n68,c69,rfl,h70⟩:=hK66
   refine Xm5 4 rfl (Xn4 (s:=St w []) slE_45 rfl rfl h17 hb63) gn rfl<|Xm5 5 rfl (Xx1 (St w []) ld_107 rfl hr64 rfl (me 1 rfl)) gn rfl ?_
   refine Xmw 6 rfl (Xpf [.int .i64 0,.slice none 0 0] zr_107 rfl fun gb71=>?_) gn
   refine Xmw 7 rfl (Xpk (vs:=[.int .i64 ((ix x1.gram.prods x46).lhs),.slice A67 n68 c69]) (cs':=[.int .i64 ((ix x1.gram.prods x46).lhs),.slice A67 n68 c69]) (M':=[.box gb71 107 [.int .i64 ((ix x1.gram.prods x46).lhs),.slice A67 n68 c69],.box gb57 58 [.string x1.name,.slice A2 n3 c4,.slice A6 n7 c8,.slice A10 n11 c12,.slice A14 n15 c16,.slice A18 n19 c20,.slice A22 n23 c24,.slice A26 n27 c28,.slice A30 n31 c32,.slice A34 n35 c36,.slice A38 n39 c40,.slice A42 n43 c44]]) 0 sz_107 rfl rfl rfl rfl rfl rfl rfl rfl rfl ?_) gn
   refine Xmc 8 rfl<|Xmb rfl<|Xmb rfl ?_
   have j2:∀ (x75:Bool) (h:Xos x1 x46 x47 x52 x75 r) ,G (Xo1 w F r) [.code q35c16,.code Ye5] [(2,.slice A48 n49 c50),(3,.slice A53 n54 c55),(4,.pointer (some ⟨gb57,0,none⟩)),(9,.pointer (some ⟨gb71,0,none⟩)),(46,.bool x75)] [.box gb71 107 [.int .i64 ((ix x1.gram.prods x46).lhs),.slice A67 n68 c69],.box gb57 58 [.string x1.name,.slice A2 n3 c4,.slice A6 n7 c8,.slice A10 n11 c12,.slice A14 n15 c16,.slice A18 n19 c20,.slice A22 n23 c24,.slice A26 n27 c28,.slice A30 n31 c32,.slice A34 n35 c36,.slice A38 n39 c40,.slice A42 n43 c44]] [Sm w.heap.size F w [],St w []]:=by
    intro x75 h
    unfold Xos at h
    by_cases hp76:x75=true
    ·have h:=Xmf hp76 h
     refine Xmy rfl _ rfl (hp76)<|Xmb rfl<|Xm8 rfl rfl<|Xm5 0 rfl (Xm9 rfl) gn rfl<|Xmc 1 rfl<|Xrf 39 7 ?_
     refine Xmt [.slice none 0 0] rfl Try.func35 rfl (.tmp rfl (.nil)) fun wr hLr=>?_
     have hMr:=hLr.pkI (.c 0 rfl .n) (.c 1 rfl (.c 2 rfl .n)) (by kernel_rfl) (.c 1 rfl .n)
     show Xoh w F  r (.returned (Xmz [.slice none 0 0])) wr
     rw [h]
     exact ⟨none,0,0,rfl,hMr,(Ow.nil (z:=w.heap.size))⟩
    ·have h:=Xmg hp76 h
     refine Xmr rfl _ rfl ((bf hp76))<|Xn1 rfl<|Xmb rfl<|Xm8 rfl rfl<|Xm5 0 rfl (Xm9 rfl) gn rfl<|Xmc 1 rfl<|Xmb rfl<|Xmb rfl<|Xm8 rfl rfl<|Xm5 0 rfl (Xm9 rfl) gn rfl<|Xmc 1 rfl<|Xn8 rfl ?_
     refine Xqz rfl ?_
     have key3:∀ s,Xmh (fun (s:(List Xm6) × Int) o=>Xny x1 x46 x47 x52 s.1 s.2 o) s r→(fun (s:(List Xm6) × Int)=>∀ (A387:Option Addr) (n388:Nat) (c389:Nat) (h390:Ow w.heap.size A387 n388 c389 s.1) (cs391:List Value) (sw392:World) (sb393:List (List Nat)) (hC394:Cells Xmd (Sm w.heap.size F sw392 sb393).w (Sm w.heap.size F sw392 sb393).av s.1 cs391),G (Xo1 w F r) [.code Xyd,.inLoop Xyd,.inBlock 0,.code Xzk] [(2,.slice A48 n49 c50),(3,.slice A53 n54 c55),(4,.pointer (some ⟨gb57,0,none⟩)),(9,.pointer (some ⟨gb71,0,none⟩)),(10,.slice A387 n388 c389),(11,.int .i64 s.2)] [.own (.slice A387 n388 c389) 96 9 n388 cs391,.box gb71 107 [.int .i64 ((ix x1.gram.prods x46).lhs),.slice A67 n68 c69],.box gb57 58 [.string x1.name,.slice A2 n3 c4,.slice A6 n7 c8,.slice A10 n11 c12,.slice A14 n15 c16,.slice A18 n19 c20,.slice A22 n23 c24,.slice A26 n27 c28,.slice A30 n31 c32,.slice A34 n35 c36,.slice A38 n39 c40,.slice A42 n43 c44]] [Sm w.heap.size F sw392 sb393,Sm w.heap.size F w [],St w []]) s:=by
      intro s hs
      refine Xmh.ind (mot:=(fun (s:(List Xm6) × Int)=>∀ (A387:Option Addr) (n388:Nat) (c389:Nat) (h390:Ow w.heap.size A387 n388 c389 s.1) (cs391:List Value) (sw392:World) (sb393:List (List Nat)) (hC394:Cells Xmd (Sm w.heap.size F sw392 sb393).w (Sm w.heap.size F sw392 sb393).av s.1 cs391),G (Xo1 w F r) [.code Xyd,.inLoop Xyd,.inBlock 0,.code Xzk] [(2,.slice A48 n49 c50),(3,.slice A53 n54 c55),(4,.pointer (some ⟨gb57,0,none⟩)),(9,.pointer (some ⟨gb71,0,none⟩)),(10,.slice A387 n388 c389),(11,.int .i64 s.2)] [.own (.slice A387 n388 c389) 96 9 n388 cs391,.box gb71 107 [.int .i64 ((ix x1.gram.prods x46).lhs),.slice A67 n68 c69],.box gb57 58 [.string x1.name,.slice A2 n3 c4,.slice A6 n7 c8,.slice A10 n11 c12,.slice A14 n15 c16,.slice A18 n19 c20,.slice A22 n23 c24,.slice A26 n27 c28,.slice A30 n31 c32,.slice A34 n35 c36,.slice A38 n39 c40,.slice A42 n43 c44]] [Sm w.heap.size F sw392 sb393,Sm w.heap.size F w [],St w []])) ?_ hs
      clear hs s
      intro s o1 h hO1
      obtain ⟨x386,x395⟩:=s
      show ∀ (A387:Option Addr) (n388:Nat) (c389:Nat) (h390:Ow w.heap.size A387 n388 c389 x386) (cs391:List Value) (sw392:World) (sb393:List (List Nat)) (hC394:Cells Xmd (Sm w.heap.size F sw392 sb393).w (Sm w.heap.size F sw392 sb393).av x386 cs391),G (Xo1 w F r) [.code Xyd,.inLoop Xyd,.inBlock 0,.code Xzk] [(2,.slice A48 n49 c50),(3,.slice A53 n54 c55),(4,.pointer (some ⟨gb57,0,none⟩)),(9,.pointer (some ⟨gb71,0,none⟩)),(10,.slice A387 n388 c389),(11,.int .i64 x395)] [.own (.slice A387 n388 c389) 96 9 n388 cs391,.box gb71 107 [.int .i64 ((ix x1.gram.prods x46).lhs),.slice A67 n68 c69],.box gb57 58 [.string x1.name,.slice A2 n3 c4,.slice A6 n7 c8,.slice A10 n11 c12,.slice A14 n15 c16,.slice A18 n19 c20,.slice A22 n23 c24,.slice A26 n27 c28,.slice A30 n31 c32,.slice A34 n35 c36,.slice A38 n39 c40,.slice A42 n43 c44]] [Sm w.heap.size F sw392 sb393,Sm w.heap.size F w [],St w []]
      intro A387 n388 c389 h390 cs391 sw392 sb393 hC394
      have h:Xny x1 x46 x47 x52 x386 x395 o1:=h
      unfold Xny at h
      refine Xmb rfl<|Xmb rfl<|Xm8 rfl rfl<|Xm5 0 rfl (Xm7 rfl) gn rfl<|Xm5 1 rfl (Xmj Xt9 rfl) gn rfl<|Xm5 2 rfl (Xmx 1 Xwj rfl rfl rfl) gn rfl<|Xm5 3 rfl (Xmm Xxf rfl h70.hq) gn rfl<|Xm5 4 rfl (Xmk rfl rfl rfl) gn rfl<|Xmc 5 rfl ?_
      by_cases hp713:x395 < (((ix x1.gram.prods x46).rhs).length:Int)
      ·have h:=Xmf hp713 h
       refine Xmy rfl _ rfl ((decide_eq_true hp713))<|Xn1 rfl<|Xmb rfl<|Xn8 rfl<|Xmb rfl<|Xm8 rfl rfl<|Xm5 0 rfl (Xm7 rfl) gn rfl<|Xm5 1 rfl (Xm7 rfl) gn rfl ?_
       obtain ⟨hb714,h⟩:=h
       obtain ⟨ce716,hK717,hr715⟩:=Rw.read (s:=St w []) h51 hb714
       obtain ⟨A718,n719,c720,rfl,h721⟩:=hK717
       refine Xm5 2 rfl (Xn4 (s:=St w []) Xqn rfl rfl h51 hb714) gn rfl<|Xm5 3 rfl (Xnl (kk:=(x395:Int).toNat * 1) (j:=0) (St w []) Xsj rfl hr715 rfl (me 2 rfl)) gn rfl ?_
       obtain ⟨r725,hv726,h⟩:=h
       refine Xmw 4 rfl (Xne [.slice A718 n719 c720] rfl Try.func47 rfl rfl rfl fun w722 hL723=>?_) gn
       have hp724:=pmI hL723 .n (.c 0 rfl (.c 1 rfl (.c 2 rfl .n))) (by kernel_rfl)
       refine Calls.mono (Xv4 w722 (Fl ([]:List Xmp)) (ix x47 x395) A718 n719 c720 (Rw.mono h721 (hL723.toSt hp724 (me 2 rfl))) (hL723.hFl hp724 (Xms [] rfl)) (hL723.into hp724 _) r725 hv726) ?_
       rintro _ w734 ⟨A727,n728,c729,cs732,rfl,hM735,h730,hC733⟩
       obtain ⟨sb738,hL736,hv737⟩:=hL723.callB (Sl:=([]:List Xmp)) hp724 hM735 F (Xms [] rfl) trivial
       have hC733:Cells Xmd (Sm w.heap.size F w734 sb738).w (Sm w.heap.size F w734 sb738).av r725.1 cs732:=Cells.mono hv737 hC733
       refine ⟨_,_,_,rfl,hL736,?_⟩
       refine Xm5 5 rfl (Xm7 rfl) gn rfl<|Xm5 6 rfl (Xt2 rfl rfl) gn rfl<|Xm5 7 rfl (Xt2 rfl rfl) gn rfl<|Xm5 8 rfl (Xm9 rfl) gn rfl<|Xm5 9 rfl (Xm9 rfl) gn rfl<|Xmc 10 rfl<|Xmb rfl<|Xmb rfl<|Xm8 rfl rfl<|Xm5 0 rfl (Xm7 rfl) gn rfl<|Xm5 1 rfl (Xrz rfl) gn rfl<|Xmc 2 rfl ?_
       by_cases hp739:r725.2=true
       ·have h:=Xmf hp739 h
        refine Xmr rfl _ rfl ((nf hp739))<|Xn1 rfl<|Xmb rfl ?_
        refine Yd5 (F:=F) (dk:=Xmd) (Sm w.heap.size F w734 sb738) 0 rfl (Ow.weak hL723.env.size h730) (me 0 rfl) Sm.ok hC733 fun sw748 sb749 h747=>?_
        obtain ⟨hb750,h⟩:=h
        obtain ⟨hb752,h⟩:=h
        obtain ⟨r757,hv758,h⟩:=h
        have hns:Region.noSelect (Code.ops q35c46)=true:=by kernel_rfl
        refine Xpl [] 15 rfl rfl mix rfl (.c 0 rfl (.c 1 rfl (.c 2 rfl (.c 3 rfl (.c 4 rfl .n)))))<|wfv 0 rfl (Xmj Xqa rfl) gn hns rfl<|wfv 1 rfl (Xq7 [.slice A6 n7 c8,.slice A10 n11 c12,.slice A14 n15 c16] 2 Xzy rfl rfl rfl rfl) gn hns rfl<|wfv 2 rfl (Xmj Xt9 rfl) gn hns rfl<|wfv 3 rfl (Xmx 1 Xwj rfl rfl rfl) gn hns rfl<|wfv 4 rfl (Xm7 rfl) gn hns rfl ?_
        have hr801:=Rw.readF (s:=St w []) (hl:=Xyj) (h1:=Xy5) h70 hb750
        refine wfv 5 rfl (Xn4 (s:=St w []) Yeu rfl rfl h70 hb750) gn hns rfl<|wfv 6 rfl (Xx1 (St w []) Ye7 rfl hr801 rfl (me 4 rfl)) gn hns rfl<|wfv 7 rfl (Xm7 rfl) gn hns rfl<|wfv 8 rfl (Xm7 rfl) gn hns rfl<|wfv 9 rfl (Xm7 rfl) gn hns rfl<|wfv 10 rfl (Xmk rfl rfl rfl) gn hns rfl ?_
        have hr802:=Rw.readF (s:=St w []) (hl:=(hlI .i64)) (h1:=(Xow .i64)) h56 hb752
        refine wfv 11 rfl (Xn4 (s:=St w []) Xpg rfl rfl h56 hb752) gn hns rfl<|wfv 12 rfl (Xnl (kk:=(w64 (x395 + 1):Int).toNat * 1) (j:=0) (St w []) Xql rfl hr802 rfl (me 4 rfl)) gn hns rfl ?_
        refine Xn9 [13] (by kernel_rfl) rfl ⟨Xqb 13 rfl gn rfl (Xne [.agg #[.slice A6 n7 c8,.slice A10 n11 c12,.slice A14 n15 c16],.agg #[.int .i64 ((ix ((ix x1.gram.prods x46).rhs) x395).sym),.string ((ix ((ix x1.gram.prods x46).rhs) x395).field),.string ((ix ((ix x1.gram.prods x46).rhs) x395).as)],.slice A727 n728 c729,.int .i64 (ix x52 (w64 (x395 + 1)))] rfl Try.func62 rfl rfl rfl fun w817 hL818=>?_),trivial⟩
        have hp819:=pmI hL818 .n (.c 0 rfl (.c 1 rfl (.c 2 rfl .n))) (by kernel_rfl)
        refine Calls.mono (Xvu w817 (Fl ([Sm w.heap.size F sw748 sb749]:List Xmp)) x1.gram (ix ((ix x1.gram.prods x46).rhs) x395) r725.1 (ix x52 (w64 (x395 + 1))) A6 n7 c8 A10 n11 c12 A14 n15 c16 A727 n728 c729 (Rw.mono h9 (hL818.toSt hp819 (me 4 rfl))) (Rw.mono h13 (hL818.toSt hp819 (me 4 rfl))) (Rw.mono h17 (hL818.toSt hp819 (me 4 rfl))) (Rw.mono h747 (hL818.toFl (me 0 rfl) (me 0 rfl))) (hL818.hFl hp819 (Xms [0] rfl)) (hL818.into hp819 _) r757 hv758) ?_
        rintro _ w826 ⟨A820,n821,c822,cs824,rfl,hM827,h823,hC825⟩
        obtain ⟨sb830,hL828,hv829⟩:=hL818.callB (Sl:=([Sm w.heap.size F sw748 sb749]:List Xmp)) hp819 hM827 F (Xms [0] rfl) ⟨Sm.ok,trivial⟩
        have hC825:Cells Xmd (Sm w.heap.size F w826 sb830).w (Sm w.heap.size F w826 sb830).av r757 cs824:=Cells.mono hv829 hC825
        refine ⟨_,_,_,rfl,hL828,?_⟩
        refine ⟨Xms [1,2,3] rfl,Xms [1,2,3,4,5] rfl,?_⟩
        refine wfv 14 rfl (Xm9 rfl) gn hns rfl<|Xox (by kernel_rfl)<|Xm8 rfl rfl<|Xm5 0 rfl (Xm7 rfl) gn rfl<|Xm5 1 rfl (Xm7 rfl) gn rfl ?_
        obtain ⟨x837,hv838,h⟩:=h
        obtain ⟨hb839,h⟩:=h
        refine Ycd (F:=F) fun sw834 sb835 ho836=>?_
        obtain ⟨cs840,hc841⟩:∃ x:List Value,x=cs391++cs824:=⟨_,rfl⟩
        have hC842:Cells Xmd (Sm w.heap.size F sw834 sb835).w (Sm w.heap.size F sw834 sb835).av x837 cs840:=by rw [hv838,hc841]; exact Cells.app (Cells.older (s:=Sm w.heap.size F sw392 sb393) hC394 (ho836 _ (me 3 rfl) Sm.ok)) (Cells.older (s:=Sm w.heap.size F w826 sb830) hC825 (ho836 _ (me 0 rfl) Sm.ok))
        refine Xmw 2 rfl (Xrg (zs:=x837) 1 Yby rfl rfl rfl h390 (Nat.le_refl _) (Src.ownAll 0 rfl (Ow.weak hL818.env.size h823) hC825) hc841.symm (Xok hv838 (Ow.weak hL818.env.size h823).hq) hb839 rfl rfl fun A831 c832 h833=>?_) gn
        refine Xm5 3 rfl (Xm9 rfl) gn rfl<|Xmc 4 rfl<|Xnh<|Xm8 rfl rfl<|Xm5 0 rfl (Xm7 rfl) gn rfl<|Xm5 1 rfl (Xmk rfl rfl rfl) gn rfl<|Xm5 2 rfl (Xm9 rfl) gn rfl<|Xmc 3 rfl<|Xo7 ?_
        have ih:=Out.inl hO1 h
        exact Xnj [0,5,6] (ih A831 (n388 + n821) c832 h833 cs840 sw834 sb835 hC842) ⟨rfl,rfl,rfl,rfl,rfl,rfl,trivial⟩ (.cons _ (.cons_cons _ (.cons_cons _ (.cons_cons _ (.slnil))))) rfl
       ·have h:=Xmg hp739 h
        refine Xmy rfl _ rfl ((nt (bf hp739)))<|Xmb rfl<|Xm8 rfl rfl<|Xm5 0 rfl (Xm9 rfl) gn rfl<|Xmc 1 rfl<|Xrf 39 7 ?_
        have h:=Out.inr hO1 h
        refine Xmt [.slice none 0 0] rfl Try.func35 rfl (.tmp rfl (.nil)) fun wr hLr=>?_
        have hMr:=hLr.pkI (.c 0 rfl .n) (.c 1 rfl (.c 2 rfl (.c 3 rfl (.c 4 rfl .n)))) (by kernel_rfl) (.c 3 rfl .n)
        show Xoh w F  r (.returned (Xmz [.slice none 0 0])) wr
        rw [h]
        exact ⟨none,0,0,rfl,hMr,(Ow.nil (z:=w.heap.size))⟩
      ·have h:=Xmg hp713 h
       refine Xmr rfl _ rfl ((decide_eq_false hp713))<|Xqk [.code Xzk] rfl rfl<|Xmb rfl<|Xmb rfl ?_
       have j4:∀ (x848:Bool) (h:Xoa x1 x46 x52 x386 x848 o1) ,G (Xo1 w F r) [.code Yeo,.code q35c51] [(3,.slice A53 n54 c55),(4,.pointer (some ⟨gb57,0,none⟩)),(9,.pointer (some ⟨gb71,0,none⟩)),(10,.slice A387 n388 c389),(103,.bool x848)] [.own (.slice A387 n388 c389) 96 9 n388 cs391,.box gb71 107 [.int .i64 ((ix x1.gram.prods x46).lhs),.slice A67 n68 c69],.box gb57 58 [.string x1.name,.slice A2 n3 c4,.slice A6 n7 c8,.slice A10 n11 c12,.slice A14 n15 c16,.slice A18 n19 c20,.slice A22 n23 c24,.slice A26 n27 c28,.slice A30 n31 c32,.slice A34 n35 c36,.slice A38 n39 c40,.slice A42 n43 c44]] [Sm w.heap.size F sw392 sb393,Sm w.heap.size F w [],St w []]:=by
        intro x848 h
        unfold Xoa at h
        by_cases hp849:x848=true
        ·have h:=Xmf hp849 h
         refine Xmy rfl _ rfl (hp849)<|Xmb rfl ?_
         refine Yd5 (F:=F) (dk:=Xmd) (Sm w.heap.size F sw392 sb393) 0 rfl h390 (me 0 rfl) Sm.ok hC394 fun sw858 sb859 h857=>?_
         obtain ⟨hb860,h⟩:=h
         obtain ⟨hb862,h⟩:=h
         obtain ⟨r867,hv868,h⟩:=h
         have d3:∀ (gb935:Nat) (A936:Option Addr) (n937:Nat) (c938:Nat) (sw939:World) (sb940:List (List Nat)) (h941:At Xmd (Sm w.heap.size F sw939 sb940) A936 n937 c938 r867.kids),G (Xo1 w F r) [.code q35c57,.code q35c51] [(15,.pointer (some ⟨gb935,0,none⟩))] [.box gb935 96 [.string r867.node.name,.bool r867.node.named,.string r867.node.field,.int .i64 r867.node.from_,.int .i64 r867.node.to,.int .i64 r867.node.kids,.int .i64 r867.node.leaf,.slice A936 n937 c938,.int .i64 r867.at_]] [Sm w.heap.size F sw939 sb940,Sm w.heap.size F sw858 sb859,Sm w.heap.size F sw392 sb393,Sm w.heap.size F w [],St w []]:=by
          intro gb935 A936 n937 c938 sw939 sb940 h941
          refine Xm8 rfl rfl<|Xm5 0 rfl (Xq7 [.string r867.node.name,.bool r867.node.named,.string r867.node.field,.int .i64 r867.node.from_,.int .i64 r867.node.to,.int .i64 r867.node.kids,.int .i64 r867.node.leaf,.slice A936 n937 c938,.int .i64 r867.at_] 0 Xw9 rfl rfl rfl rfl) gn rfl ?_
          have hC943:Cells Xmd (Sm w.heap.size F sw939 sb940).w (Sm w.heap.size F sw939 sb940).av ([r867]:List Xm6) [.string r867.node.name,.bool r867.node.named,.string r867.node.field,.int .i64 r867.node.from_,.int .i64 r867.node.to,.int .i64 r867.node.kids,.int .i64 r867.node.leaf,.slice A936 n937 c938,.int .i64 r867.at_]:=(Cells.cons (c1:=[.string r867.node.name,.bool r867.node.named,.string r867.node.field,.int .i64 r867.node.from_,.int .i64 r867.node.to,.int .i64 r867.node.kids,.int .i64 r867.node.leaf,.slice A936 n937 c938,.int .i64 r867.at_]) (Xob ⟨A936,n937,c938,rfl,h941⟩) Cells.nil)
          refine Xmw 1 rfl (Xqd (xs:=([r867]:List Xm6)) [.string r867.node.name,.bool r867.node.named,.string r867.node.field,.int .i64 r867.node.from_,.int .i64 r867.node.to,.int .i64 r867.node.kids,.int .i64 r867.node.leaf,.slice A936 n937 c938,.int .i64 r867.at_] Xxo rfl (by kernel_rfl) rfl rfl rfl rfl fun gb944 h945=>?_) gn
          refine Xm5 2 rfl (Xm9 rfl) gn rfl<|Xmc 3 rfl<|Xmb rfl<|Xm8 rfl rfl<|Xm5 0 rfl (Xm7 rfl) gn rfl ?_
          obtain ⟨r949,hv950,h⟩:=h
          refine Xmw 1 rfl (Xne [.slice (some ⟨gb944,0,none⟩) 1 1] rfl Try.func64 rfl rfl rfl fun w946 hL947=>?_) gn
          have hp948:=pmI hL947 .n (.c 0 rfl (.c 1 rfl .n)) (by kernel_rfl)
          refine Calls.mono (Xt1 w946 (Fl ([]:List Xmp)) ([r867]:List Xm6) (some ⟨gb944,0,none⟩) 1 1 (hL947.argO (dk:=Xmd) hp948 [] rfl 0 rfl rfl h945 (me 0 rfl) hC943) (hL947.hFl hp948 (Xms [] rfl)) (hL947.into hp948 _) r949 hv950) ?_
          rintro _ w956 ⟨A951,n952,c953,rfl,hM957,h954⟩
          have hL958:=hL947.call hp948 hM957
          refine ⟨_,_,_,rfl,hL958,?_⟩
          refine Xm5 2 rfl (Xm9 rfl) gn rfl<|Xmc 3 rfl ?_
          have h:=Out.inr hO1 h
          refine Xmt [.slice A951 n952 c953] rfl Try.func35 rfl (.tmp rfl (.nil)) fun wr hLr=>?_
          have hMr:=hLr.pkI (.c 0 rfl .n) (.c 1 rfl (.c 2 rfl .n)) (by kernel_rfl) (.c 4 rfl .n)
          show Xoh w F  r (.returned (Xmz [.slice A951 n952 c953])) wr
          rw [h]
          exact ⟨A951,n952,c953,rfl,hMr,(Ow.weak hL947.env.size h954)⟩
         have hns:Region.noSelect (Code.ops q35c56)=true:=by kernel_rfl
         refine Xpl [] 18 rfl rfl mix rfl (.c 0 rfl (.c 1 rfl (.c 2 rfl (.c 3 rfl .n))))<|wfv 0 rfl (Xmj Xqa rfl) gn hns rfl<|wfv 1 rfl (Xmj Xtt rfl) gn hns rfl<|wfv 2 rfl (Xmx 1 Xy0 rfl rfl rfl) gn hns rfl<|wfv 3 rfl (Xmj Xtz rfl) gn hns rfl<|wfv 4 rfl (Xmx 0 Xql rfl rfl rfl) gn hns rfl ?_
         have hr959:=Rw.readF (s:=St w []) (hl:=Xsz) (h1:=Xt0) h13 hb860
         refine wfv 5 rfl (Xn4 (s:=St w []) Xzi rfl rfl h13 hb860) gn hns rfl<|wfv 6 rfl (Xo6 Yf3 rfl) gn hns rfl<|wfv 7 rfl (Xnl (kk:=((ix x1.gram.prods x46).lhs:Int).toNat * 2) (j:=0) (St w []) Xwk rfl hr959 rfl (me 3 rfl)) gn hns rfl<|wfv 8 rfl (Xm7 rfl) gn hns rfl<|wfv 9 rfl (Xm7 rfl) gn hns rfl<|wfv 10 rfl (Xmj Xt9 rfl) gn hns rfl<|wfv 11 rfl (Xmx 0 Xwj rfl rfl rfl) gn hns rfl<|wfv 12 rfl (Xmm Xxf rfl h70.hq) gn hns rfl ?_
         have hr960:=Rw.readF (s:=St w []) (hl:=(hlI .i64)) (h1:=(Xow .i64)) h56 hb862
         refine wfv 13 rfl (Xn4 (s:=St w []) Xpg rfl rfl h56 hb862) gn hns rfl<|wfv 14 rfl (Xnl (kk:=((((ix x1.gram.prods x46).rhs).length:Int):Int).toNat * 1) (j:=0) (St w []) Xql rfl hr960 rfl (me 3 rfl)) gn hns rfl ?_
         refine Xn9 [15,16] (by kernel_rfl) rfl ⟨?_,?_,trivial⟩
         ·refine Xqb 15 rfl gn rfl (Xne [.string ((ix x1.gram.syms ((ix x1.gram.prods x46).lhs)).name), .slice A387 n388 c389, .int .i64 (ix x52 (((ix x1.gram.prods x46).rhs).length : Int))] rfl Try.func63 rfl rfl rfl fun w974 hL975 => ?_)
          have hp976:=pmI hL975 .n (.c 0 rfl (.c 1 rfl .n)) (by kernel_rfl)
          refine Calls.mono (Xra w974 (Fl ([Sm w.heap.size F sw858 sb859]:List Xmp)) ((ix x1.gram.syms ((ix x1.gram.prods x46).lhs)).name) x386 (ix x52 (((ix x1.gram.prods x46).rhs).length:Int)) A387 n388 c389 (Rw.mono h857 (hL975.toFl (me 0 rfl) (me 0 rfl))) (hL975.hFl hp976 (Xms [0] rfl)) (hL975.into hp976 _) r867 hv868) ?_
          rintro _ w981 ⟨A977,n978,c979,rfl,hM982,h980⟩
          obtain ⟨sb985,hL983,hv984⟩:=hL975.callB (Sl:=([Sm w.heap.size F sw858 sb859]:List Xmp)) hp976 hM982 F (Xms [0] rfl) ⟨Sm.ok,trivial⟩
          have h980:At Xmd (Sm w.heap.size F w981 sb985) A977 n978 c979 r867.kids:=Rw.mono h980 hv984
          refine ⟨_,_,_,rfl,hL983,?_⟩
          refine ⟨Xms [0,1] rfl,Xms [1,2,3,4] rfl,?_⟩
          refine Xn9 [16] (by kernel_rfl) rfl ⟨Xqb 16 rfl gn rfl (Xpf [.string (⟨#[]⟩:ByteArray),.bool false,.string (⟨#[]⟩:ByteArray),.int .i64 0,.int .i64 0,.int .i64 0,.int .i64 0,.slice none 0 0,.int .i64 0] Xz5 rfl fun gb987=>?_),trivial⟩
          refine ⟨Xms [1,2] rfl,Xms [1,2,3,4] rfl,?_⟩
          refine Xn9 [17] (by kernel_rfl) rfl ⟨Xqb 17 rfl gn rfl (Xpk (vs:=[.string r867.node.name,.bool r867.node.named,.string r867.node.field,.int .i64 r867.node.from_,.int .i64 r867.node.to,.int .i64 r867.node.kids,.int .i64 r867.node.leaf,.slice A977 n978 c979,.int .i64 r867.at_]) (cs':=[.string r867.node.name,.bool r867.node.named,.string r867.node.field,.int .i64 r867.node.from_,.int .i64 r867.node.to,.int .i64 r867.node.kids,.int .i64 r867.node.leaf,.slice A977 n978 c979,.int .i64 r867.at_]) (M':=[.box gb987 96 [.string r867.node.name,.bool r867.node.named,.string r867.node.field,.int .i64 r867.node.from_,.int .i64 r867.node.to,.int .i64 r867.node.kids,.int .i64 r867.node.leaf,.slice A977 n978 c979,.int .i64 r867.at_],.box gb71 107 [.int .i64 ((ix x1.gram.prods x46).lhs),.slice A67 n68 c69],.box gb57 58 [.string x1.name,.slice A2 n3 c4,.slice A6 n7 c8,.slice A10 n11 c12,.slice A14 n15 c16,.slice A18 n19 c20,.slice A22 n23 c24,.slice A26 n27 c28,.slice A30 n31 c32,.slice A34 n35 c36,.slice A38 n39 c40,.slice A42 n43 c44]]) 0 Xww rfl rfl rfl rfl rfl rfl rfl rfl rfl ?_),trivial⟩
          refine ⟨Xms [1,2] rfl,Xms [1,2,3,4] rfl,?_⟩
          refine Xox (by kernel_rfl) ?_
          exact Xnj [0,1,2,3,4] (d3 gb987 A977 n978 c979 w981 sb985 h980) ⟨rfl,trivial⟩ (.cons_cons _ (.cons _ (.cons _ (.slnil)))) rfl
         ·refine Xqb 16 rfl gn rfl (Xpf [.string (⟨#[]⟩ : ByteArray), .bool false, .string (⟨#[]⟩ : ByteArray), .int .i64 0, .int .i64 0, .int .i64 0, .int .i64 0, .slice none 0 0, .int .i64 0] Xz5 rfl fun gb988 => ?_)
          refine ⟨Xms [1,2] rfl,Xms [0,1,2,3] rfl,?_⟩
          refine Xn9 [15] (by kernel_rfl) rfl ⟨Xqb 15 rfl gn rfl (Xne [.string ((ix x1.gram.syms ((ix x1.gram.prods x46).lhs)).name),.slice A387 n388 c389,.int .i64 (ix x52 (((ix x1.gram.prods x46).rhs).length:Int))] rfl Try.func63 rfl rfl rfl fun w1001 hL1002=>?_),trivial⟩
          have hp1003:=pmI hL1002 .n (.c 0 rfl (.c 1 rfl (.c 2 rfl .n))) (by kernel_rfl)
          refine Calls.mono (Xra w1001 (Fl ([Sm w.heap.size F sw858 sb859]:List Xmp)) ((ix x1.gram.syms ((ix x1.gram.prods x46).lhs)).name) x386 (ix x52 (((ix x1.gram.prods x46).rhs).length:Int)) A387 n388 c389 (Rw.mono h857 (hL1002.toFl (me 0 rfl) (me 0 rfl))) (hL1002.hFl hp1003 (Xms [0] rfl)) (hL1002.into hp1003 _) r867 hv868) ?_
          rintro _ w1008 ⟨A1004,n1005,c1006,rfl,hM1009,h1007⟩
          obtain ⟨sb1012,hL1010,hv1011⟩:=hL1002.callB (Sl:=([Sm w.heap.size F sw858 sb859]:List Xmp)) hp1003 hM1009 F (Xms [0] rfl) ⟨Sm.ok,trivial⟩
          have h1007:At Xmd (Sm w.heap.size F w1008 sb1012) A1004 n1005 c1006 r867.kids:=Rw.mono h1007 hv1011
          refine ⟨_,_,_,rfl,hL1010,?_⟩
          refine ⟨Xms [1,2] rfl,Xms [1,2,3,4] rfl,?_⟩
          refine Xn9 [17] (by kernel_rfl) rfl ⟨Xqb 17 rfl gn rfl (Xpk (vs:=[.string r867.node.name,.bool r867.node.named,.string r867.node.field,.int .i64 r867.node.from_,.int .i64 r867.node.to,.int .i64 r867.node.kids,.int .i64 r867.node.leaf,.slice A1004 n1005 c1006,.int .i64 r867.at_]) (cs':=[.string r867.node.name,.bool r867.node.named,.string r867.node.field,.int .i64 r867.node.from_,.int .i64 r867.node.to,.int .i64 r867.node.kids,.int .i64 r867.node.leaf,.slice A1004 n1005 c1006,.int .i64 r867.at_]) (M':=[.box gb988 96 [.string r867.node.name,.bool r867.node.named,.string r867.node.field,.int .i64 r867.node.from_,.int .i64 r867.node.to,.int .i64 r867.node.kids,.int .i64 r867.node.leaf,.slice A1004 n1005 c1006,.int .i64 r867.at_],.box gb71 107 [.int .i64 ((ix x1.gram.prods x46).lhs),.slice A67 n68 c69],.box gb57 58 [.string x1.name,.slice A2 n3 c4,.slice A6 n7 c8,.slice A10 n11 c12,.slice A14 n15 c16,.slice A18 n19 c20,.slice A22 n23 c24,.slice A26 n27 c28,.slice A30 n31 c32,.slice A34 n35 c36,.slice A38 n39 c40,.slice A42 n43 c44]]) 0 Xww rfl rfl rfl rfl rfl rfl rfl rfl rfl ?_),trivial⟩
          refine ⟨Xms [1,2] rfl,Xms [1,2,3,4] rfl,?_⟩
          refine Xox (by kernel_rfl) ?_
          exact Xnj [0,1,2,3,4] (d3 gb988 A1004 n1005 c1006 w1008 sb1012 h1007) ⟨rfl,trivial⟩ (.cons_cons _ (.cons _ (.cons _ (.slnil)))) rfl
        ·have h:=Xmg hp849 h
         refine Xmr rfl _ rfl ((bf hp849))<|Xn1 rfl<|Xmb rfl<|Xm8 rfl rfl<|Xm5 0 rfl (Xm7 rfl) gn rfl ?_
         obtain ⟨r1016,hv1017,h⟩:=h
         refine Xmw 1 rfl (Xne [.slice A387 n388 c389] rfl Try.func64 rfl rfl rfl fun w1013 hL1014=>?_) gn
         have hp1015:=pmI hL1014 .n (.c 0 rfl (.c 1 rfl (.c 2 rfl .n))) (by kernel_rfl)
         refine Calls.mono (Xt1 w1013 (Fl ([]:List Xmp)) x386 A387 n388 c389 (hL1014.argO (dk:=Xmd) hp1015 [] rfl 0 rfl rfl h390 (me 0 rfl) hC394) (hL1014.hFl hp1015 (Xms [] rfl)) (hL1014.into hp1015 _) r1016 hv1017) ?_
         rintro _ w1023 ⟨A1018,n1019,c1020,rfl,hM1024,h1021⟩
         have hL1025:=hL1014.call hp1015 hM1024
         refine ⟨_,_,_,rfl,hL1025,?_⟩
         refine Xm5 2 rfl (Xm9 rfl) gn rfl<|Xmc 3 rfl ?_
         have h:=Out.inr hO1 h
         refine Xmt [.slice A1018 n1019 c1020] rfl Try.func35 rfl (.tmp rfl (.nil)) fun wr hLr=>?_
         have hMr:=hLr.pkI (.c 0 rfl .n) (.c 1 rfl (.c 2 rfl (.c 3 rfl .n))) (by kernel_rfl) (.c 2 rfl .n)
         show Xoh w F  r (.returned (Xmz [.slice A1018 n1019 c1020])) wr
         rw [h]
         exact ⟨A1018,n1019,c1020,rfl,hMr,(Ow.weak hL1014.env.size h1021)⟩
       refine Xm8 rfl rfl<|Xm5 0 rfl (Xmj Xtz rfl) gn rfl<|Xm5 1 rfl (Xmx 1 Xql rfl rfl rfl) gn rfl<|Xm5 2 rfl (Xmk rfl rfl rfl) gn rfl<|Xm5 3 rfl (Xm7 rfl) gn rfl ?_
       by_cases hp1026:(ix x1.gram.prods x46).lhs≥0
       ·have h:=Xmf hp1026 h
        refine Xn6 84 rfl ((decide_eq_true hp1026))<|Xm5 4 rfl (Xmj Xtz rfl) (gy 84 rfl rfl) rfl<|Xm5 5 rfl (Xmx 1 Xql rfl rfl rfl) (gy 84 rfl rfl) rfl<|Xm5 6 rfl (Xmj Xqa rfl) (gy 84 rfl rfl) rfl<|Xm5 7 rfl (Xmj Xtt rfl) (gy 84 rfl rfl) rfl<|Xm5 8 rfl (Xmx 2 Xy0 rfl rfl rfl) (gy 84 rfl rfl) rfl<|Xm5 9 rfl (Xmm un_44 rfl h13.hq) (gy 84 rfl rfl) rfl<|Xm5 10 rfl (Xmk rfl rfl rfl) (gy 84 rfl rfl) rfl<|Xm5 11 rfl (Xmn (b:=true) rfl rfl) gn rfl<|Xm5 12 rfl (Xm7 rfl) gn rfl ?_
        by_cases hp1027:(ix x1.gram.prods x46).lhs < (x1.gram.syms.length:Int)
        ·have h:=Xmf hp1027 h
         refine Xn6 93 rfl ((decide_eq_true hp1027))<|Xm5 13 rfl (Xmj Xqa rfl) (gy 93 rfl rfl) rfl<|Xm5 14 rfl (Xmj Xtt rfl) (gy 93 rfl rfl) rfl<|Xm5 15 rfl (Xmx 2 Xy0 rfl rfl rfl) (gy 93 rfl rfl) rfl<|Xm5 16 rfl (Xmj Xtz rfl) (gy 93 rfl rfl) rfl<|Xm5 17 rfl (Xmx 1 Xql rfl rfl rfl) (gy 93 rfl rfl) rfl ?_
         obtain ⟨hb1028,h⟩:=h
         have hr1029:=Rw.readF (s:=St w []) (hl:=Xsz) (h1:=Xt0) h13 hb1028
         refine Xm5 18 rfl (Xn4 (s:=St w []) Xzi rfl rfl h13 hb1028) (gy 93 rfl rfl) rfl<|Xm5 19 rfl (Xo6 Yam rfl) (gy 93 rfl rfl) rfl<|Xm5 20 rfl (Xnl (kk:=((ix x1.gram.prods x46).lhs:Int).toNat * 2) (j:=1) (St w []) ld_72 rfl hr1029 rfl (me 2 rfl)) (gy 93 rfl rfl) rfl<|Xm5 21 rfl (Xmk rfl rfl rfl) (gy 93 rfl rfl) rfl<|Xm5 22 rfl (Xmn (b:=true) rfl rfl) gn rfl<|Xmc 23 rfl ?_
         exact Xnj [0,1,2] (j4 (((ix x1.gram.syms ((ix x1.gram.prods x46).lhs)).kind) == 1) h) ⟨rfl,rfl,rfl,rfl,rfl,trivial⟩ (.cons_cons _ (.cons_cons _ (.cons_cons _ (.slnil)))) rfl
        ·have h:=Xmg hp1027 h
         refine Xn6 93 rfl ((decide_eq_false hp1027))<|Xma 13 rfl (ps 93 rfl rfl rfl)<|Xma 14 rfl (ps 93 rfl rfl rfl)<|Xma 15 rfl (ps 93 rfl rfl rfl)<|Xma 16 rfl (ps 93 rfl rfl rfl)<|Xma 17 rfl (ps 93 rfl rfl rfl)<|Xma 18 rfl (ps 93 rfl rfl rfl)<|Xma 19 rfl (ps 93 rfl rfl rfl)<|Xma 20 rfl (ps 93 rfl rfl rfl)<|Xma 21 rfl (ps 93 rfl rfl rfl)<|Xm5 22 rfl (Xmn (b:=false) rfl rfl) gn rfl<|Xmc 23 rfl ?_
         exact Xnj [0,1,2] (j4 false h) ⟨rfl,rfl,rfl,rfl,rfl,trivial⟩ (.cons_cons _ (.cons_cons _ (.cons_cons _ (.slnil)))) rfl
       ·have h:=Xmg hp1026 h
        refine Xn6 84 rfl ((decide_eq_false hp1026))<|Xma 4 rfl (ps 84 rfl rfl rfl)<|Xma 5 rfl (ps 84 rfl rfl rfl)<|Xma 6 rfl (ps 84 rfl rfl rfl)<|Xma 7 rfl (ps 84 rfl rfl rfl)<|Xma 8 rfl (ps 84 rfl rfl rfl)<|Xma 9 rfl (ps 84 rfl rfl rfl)<|Xma 10 rfl (ps 84 rfl rfl rfl)<|Xm5 11 rfl (Xmn (b:=false) rfl rfl) gn rfl<|Xm5 12 rfl (Xm7 rfl) gn rfl<|Xma 13 rfl (ps 93 rfl rfl rfl)<|Xma 14 rfl (ps 93 rfl rfl rfl) ?_
        refine Xma 15 rfl (ps 93 rfl rfl rfl)<|Xma 16 rfl (ps 93 rfl rfl rfl)<|Xma 17 rfl (ps 93 rfl rfl rfl)<|Xma 18 rfl (ps 93 rfl rfl rfl)<|Xma 19 rfl (ps 93 rfl rfl rfl)<|Xma 20 rfl (ps 93 rfl rfl rfl)<|Xma 21 rfl (ps 93 rfl rfl rfl)<|Xm5 22 rfl (Xmn (b:=false) rfl rfl) gn rfl<|Xmc 23 rfl ?_
        exact Xnj [0,1,2] (j4 false h) ⟨rfl,rfl,rfl,rfl,rfl,trivial⟩ (.cons_cons _ (.cons_cons _ (.cons_cons _ (.slnil)))) rfl
     refine Xrf 96 9 ?_
     exact Xnj [0,0,1] (key3 _ h none 0 0 (Ow.nil (z:=w.heap.size)) [] w [] Cells.nil) ⟨rfl,rfl,rfl,rfl,rfl,rfl,trivial⟩ (.cons_cons _ (.cons_cons _ (.cons_cons _ (.slnil)))) rfl
   refine Xm8 rfl rfl<|Xm5 0 rfl (Xm7 rfl) gn rfl<|Xm5 1 rfl (Xmm Xuy rfl h51.hq) gn rfl<|Xm5 2 rfl (Xmj Xt9 rfl) gn rfl<|Xm5 3 rfl (Xmx 0 Xwj rfl rfl rfl) gn rfl<|Xm5 4 rfl (Xmm Xxf rfl h70.hq) gn rfl<|Xm5 5 rfl (Xmk rfl rfl rfl) gn rfl<|Xm5 6 rfl (Xm7 rfl) gn rfl ?_
   by_cases hp1030:(x47.length:Int)=(((ix x1.gram.prods x46).rhs).length:Int)
   ·have h:=Xmf hp1030 h
    refine Xn6 38 rfl ((eqib hp1030))<|Xm5 7 rfl (Xm7 rfl) (gy 38 rfl rfl) rfl<|Xm5 8 rfl (Xmm Xqp rfl h56.hq) (gy 38 rfl rfl) rfl<|Xm5 9 rfl (Xmj Xt9 rfl) (gy 38 rfl rfl) rfl<|Xm5 10 rfl (Xmx 0 Xwj rfl rfl rfl) (gy 38 rfl rfl) rfl<|Xm5 11 rfl (Xmm Xxf rfl h70.hq) (gy 38 rfl rfl) rfl<|Xm5 12 rfl (Xmk rfl rfl rfl) (gy 38 rfl rfl) rfl<|Xm5 13 rfl (Xmk rfl rfl rfl) (gy 38 rfl rfl) rfl<|Xm5 14 rfl (Xmn (b:=false) rfl rfl) gn rfl<|Xmc 15 rfl ?_
    exact Xnj [0,1] (j2 ((x52.length:Int) != (w64 ((((ix x1.gram.prods x46).rhs).length:Int) + 1))) h) ⟨rfl,rfl,rfl,rfl,rfl,trivial⟩ (.cons_cons _ (.cons_cons _ (.slnil))) rfl
   ·have h:=Xmg hp1030 h
    refine Xn6 38 rfl ((neib hp1030))<|Xma 7 rfl (ps 38 rfl rfl rfl)<|Xma 8 rfl (ps 38 rfl rfl rfl)<|Xma 9 rfl (ps 38 rfl rfl rfl)<|Xma 10 rfl (ps 38 rfl rfl rfl)<|Xma 11 rfl (ps 38 rfl rfl rfl)<|Xma 12 rfl (ps 38 rfl rfl rfl)<|Xma 13 rfl (ps 38 rfl rfl rfl)<|Xm5 14 rfl (Xmn (b:=true) rfl rfl) gn rfl<|Xmc 15 rfl ?_
    exact Xnj [0,1] (j2 true h) ⟨rfl,rfl,rfl,rfl,rfl,trivial⟩ (.cons_cons _ (.cons_cons _ (.slnil))) rfl
 refine Xm8 rfl rfl<|Xm5 0 rfl (Xm7 rfl) gn rfl<|Xm5 1 rfl (Xmk rfl rfl rfl) gn rfl<|Xm5 2 rfl (Xm7 rfl) gn rfl ?_
 by_cases hp1031:x46 < 0
 ·have h:=Xmf hp1031 h
  refine Xn6 18 rfl ((decide_eq_true hp1031))<|Xma 3 rfl (ps 18 rfl rfl rfl)<|Xma 4 rfl (ps 18 rfl rfl rfl)<|Xma 5 rfl (ps 18 rfl rfl rfl)<|Xma 6 rfl (ps 18 rfl rfl rfl)<|Xma 7 rfl (ps 18 rfl rfl rfl)<|Xma 8 rfl (ps 18 rfl rfl rfl)<|Xm5 9 rfl (Xmn (b:=true) rfl rfl) gn rfl<|Xmc 10 rfl ?_
  exact Xnj [0,1] (j1 true h) ⟨rfl,rfl,rfl,rfl,rfl,trivial⟩ (.cons_cons _ (.slnil)) rfl
 ·have h:=Xmg hp1031 h
  refine Xn6 18 rfl ((decide_eq_false hp1031))<|Xm5 3 rfl (Xm7 rfl) (gy 18 rfl rfl) rfl<|Xm5 4 rfl (Xmj Xqa rfl) (gy 18 rfl rfl) rfl<|Xm5 5 rfl (Xmj Yae rfl) (gy 18 rfl rfl) rfl<|Xm5 6 rfl (Xmx 0 ld_45 rfl rfl rfl) (gy 18 rfl rfl) rfl<|Xm5 7 rfl (Xmm un_45 rfl h17.hq) (gy 18 rfl rfl) rfl<|Xm5 8 rfl (Xmk rfl rfl rfl) (gy 18 rfl rfl) rfl<|Xm5 9 rfl (Xmn (b:=false) rfl rfl) gn rfl<|Xmc 10 rfl ?_
  exact Xnj [0,1] (j1 (decide (x46≥(x1.gram.prods.length:Int))) h) ⟨rfl,rfl,rfl,rfl,rfl,trivial⟩ (.cons_cons _ (.slnil)) rfl
noncomputable abbrev q66c6:=Code.snd (Code.snd (Code.snd (Xnv Try.f66)))
noncomputable abbrev Yc7:=Code.fst (Code.fst (Code.fst (Code.snd (Code.snd (Xnv Try.f66)))))
abbrev Xs8 (w:World) (F:Nat→Prop) (r:List Int):Ending→World→Prop:=fun e w'=>∃ A0:Option Addr,∃ n0:Nat,∃ c0:Nat,e=.returned (.slice A0 n0 c0)∧B.Loc w w' [.own (.slice A0 n0 c0) 3 1 n0 (r.flatMap (eI .i64))] [St w []]∧Ow w.heap.size A0 n0 c0 r
noncomputable abbrev Xr7 (w:World) (F:Nat→Prop) (r:List Int):Cx:=⟨Try.prog,66,Try.f66,21,Xs8 w F  r,w⟩
theorem Xvr (w:World) (F:Nat→Prop) (x1:Xnu) (x14:Int) (x15:Int) (A2:Option Addr) (n3:Nat) (c4:Nat) (A6:Option Addr) (n7:Nat) (c8:Nat) (A10:Option Addr) (n11:Nat) (c12:Nat) (h5:Rw Xmo w (St w []).av A2 n3 c4 x1.nodes) (h9:Rw (Xs2 .i64) w (St w []).av A6 n7 c8 x1.parent) (h13:Rw (Xs2 .i64) w (St w []).av A10 n11 c12 x1.end_) (hF:∀ b,F b→b < w.heap.size∧∀ o ∈ ([]:List (List Nat)),b ∉ o) (hL0:B.Loc w w [] [Sm w.heap.size F w [],St w []]) (r:List Int) (h:Xqr x1 x14 x15 r):Calls Try.prog 66 #[.agg #[.slice A2 n3 c4,.slice A6 n7 c8,.slice A10 n11 c12,.bool x1.ok],.int .i64 x14,.int .i64 x15] w (Xs8 w F  r):=by
 unfold Xqr at h
 refine Xmq (vs:=[.agg #[.slice A2 n3 c4,.slice A6 n7 c8,.slice A10 n11 c12,.bool x1.ok],.int .i64 x14,.int .i64 x15]) 21 Try.func66 rfl Try.ntmps66 rfl hL0 ?_
 show G (Xr7 w F r) _ _ _ _
 refine Xmb rfl<|Xm8 rfl rfl ?_
 refine Xmw 0 rfl (Xtj [.slice A2 n3 c4,.slice A6 n7 c8,.slice A10 n11 c12,.bool x1.ok] rfl rfl rfl fun gb16=>?_) gn
 refine Xm5 1 rfl (Xm9 rfl) gn rfl<|Xmc 2 rfl<|Xmb rfl<|Xm8 rfl rfl<|Xm5 0 rfl (Xm9 rfl) gn rfl<|Xmc 1 rfl<|Xmb rfl<|Xn8 rfl<|Xqz rfl ?_
 have key1:∀ s,Xmh (fun (s:Int × (List Int)) o=>Xns x15 x1 s.1 s.2 o) s r→(fun (s:Int × (List Int))=>∀ (A34:Option Addr) (n35:Nat) (c36:Nat) (h37:Ow w.heap.size A34 n35 c36 s.2),G (Xr7 w F r) [.code Yc7,.inLoop Yc7,.inBlock 0,.code q66c6] [(1,.int .i64 s.1),(2,.int .i64 x15),(3,.pointer (some ⟨gb16,0,none⟩)),(7,.slice A34 n35 c36)] [.own (.slice A34 n35 c36) 3 1 n35 (s.2.flatMap (eI .i64)),.box gb16 32 [.slice A2 n3 c4,.slice A6 n7 c8,.slice A10 n11 c12,.bool x1.ok]] [Sm w.heap.size F w [],St w []]) s:=by
  intro s hs
  refine Xmh.ind (mot:=(fun (s:Int × (List Int))=>∀ (A34:Option Addr) (n35:Nat) (c36:Nat) (h37:Ow w.heap.size A34 n35 c36 s.2),G (Xr7 w F r) [.code Yc7,.inLoop Yc7,.inBlock 0,.code q66c6] [(1,.int .i64 s.1),(2,.int .i64 x15),(3,.pointer (some ⟨gb16,0,none⟩)),(7,.slice A34 n35 c36)] [.own (.slice A34 n35 c36) 3 1 n35 (s.2.flatMap (eI .i64)),.box gb16 32 [.slice A2 n3 c4,.slice A6 n7 c8,.slice A10 n11 c12,.bool x1.ok]] [Sm w.heap.size F w [],St w []])) ?_ hs
  clear hs s
  intro s o1 h hO1
  obtain ⟨x32,x33⟩:=s
  show ∀ (A34:Option Addr) (n35:Nat) (c36:Nat) (h37:Ow w.heap.size A34 n35 c36 x33),G (Xr7 w F r) [.code Yc7,.inLoop Yc7,.inBlock 0,.code q66c6] [(1,.int .i64 x32),(2,.int .i64 x15),(3,.pointer (some ⟨gb16,0,none⟩)),(7,.slice A34 n35 c36)] [.own (.slice A34 n35 c36) 3 1 n35 (x33.flatMap (eI .i64)),.box gb16 32 [.slice A2 n3 c4,.slice A6 n7 c8,.slice A10 n11 c12,.bool x1.ok]] [Sm w.heap.size F w [],St w []]
  intro A34 n35 c36 h37
  have h:Xns x15 x1 x32 x33 o1:=h
  unfold Xns at h
  refine Xmb rfl<|Xmb rfl<|Xm8 rfl rfl<|Xm5 0 rfl (Xm7 rfl) gn rfl<|Xm5 1 rfl (Xm7 rfl) gn rfl<|Xm5 2 rfl (Xmk rfl rfl rfl) gn rfl<|Xmc 3 rfl ?_
  by_cases hp50:x32 < x15
  ·have h:=Xmf hp50 h
   refine Xmy rfl _ rfl ((decide_eq_true hp50))<|Xn1 rfl<|Xmb rfl<|Xn8 rfl<|Xm8 rfl rfl<|Xm5 0 rfl (Xm7 rfl) gn rfl<|Xm5 1 rfl (Xm7 rfl) gn rfl ?_
   refine Xmw 2 rfl (Xqd (xs:=([x32]:List Int)) [.int .i64 x32] Xve rfl (by kernel_rfl) rfl rfl rfl rfl fun gb52 h53=>?_) gn
   obtain ⟨x57,hv58,h⟩:=h
   obtain ⟨hb59,h⟩:=h
   refine Xmw 3 rfl (Xrg (zs:=x57) (cells':=x57.flatMap (eI .i64)) 1 Xx2 rfl rfl rfl h37 (Nat.le_refl _) (Src.ownF (hl:=(hlI .i64)) (h1:=(Xow .i64)) 0 rfl h53) (by rw [hv58,List.flatMap_append] <;> rfl) (Xok hv58 h53.hq) hb59 rfl rfl fun A54 c55 h56=>?_) gn
   refine Xm5 4 rfl (Xm9 rfl) gn rfl<|Xmc 5 rfl<|Xnh<|Xm8 rfl rfl<|Xm5 0 rfl (Xmj Yfb rfl) gn rfl<|Xm5 1 rfl (Xmx 2 ld_23 rfl rfl rfl) gn rfl<|Xm5 2 rfl (Xm7 rfl) gn rfl ?_
   obtain ⟨hb60,h⟩:=h
   have hr61:=Rw.readF (s:=St w []) (hl:=(hlI .i64)) (h1:=(Xow .i64)) h13 hb60
   refine Xm5 3 rfl (Xn4 (s:=St w []) Xpg rfl rfl h13 hb60) gn rfl<|Xm5 4 rfl (Xnl (kk:=(x32:Int).toNat * 1) (j:=0) (St w []) Xql rfl hr61 rfl (me 1 rfl)) gn rfl<|Xm5 5 rfl (Xm9 rfl) gn rfl<|Xmc 6 rfl<|Xo7 ?_
   have ih:=Out.inl hO1 h
   exact Xnj [0,1] (ih A54 (n35 + 1) c55 h56) ⟨rfl,rfl,rfl,rfl,trivial⟩ (.cons _ (.cons_cons _ (.cons_cons _ (.slnil)))) rfl
  ·have h:=Xmg hp50 h
   refine Xmr rfl _ rfl ((decide_eq_false hp50))<|Xqk [.code q66c6] rfl rfl<|Xmb rfl<|Xm8 rfl rfl<|Xm5 0 rfl (Xm7 rfl) gn rfl<|Xm5 1 rfl (Xm9 rfl) gn rfl<|Xmc 2 rfl ?_
   have h:=Out.inr hO1 h
   refine Xmt [.slice A34 n35 c36] rfl Try.func66 rfl (.tmp rfl (.nil)) fun wr hLr=>?_
   have hMr:=hLr.pkI (.c 0 rfl .n) (.c 1 rfl .n) (by kernel_rfl) (.c 1 rfl .n)
   show Xs8 w F  r (.returned (Xmz [.slice A34 n35 c36])) wr
   rw [h]
   exact ⟨A34,n35,c36,rfl,hMr,h37⟩
 refine Xrf 3 1 ?_
 exact Xnj [0,1] (key1 _ h none 0 0 (Ow.nil (z:=w.heap.size))) ⟨rfl,rfl,rfl,rfl,trivial⟩ (.cons_cons _ (.cons_cons _ (.slnil))) rfl
abbrev Xui (w:World) (F:Nat→Prop) (r:List Int):Ending→World→Prop:=fun e w'=>∃ A0:Option Addr,∃ n0:Nat,∃ c0:Nat,e=.returned (.slice A0 n0 c0)∧B.Loc w w' [.own (.slice A0 n0 c0) 3 1 n0 (r.flatMap (eI .i64))] [St w []]∧Ow w.heap.size A0 n0 c0 r
noncomputable abbrev Ycq (w:World) (F:Nat→Prop) (r:List Int):Cx:=⟨Try.prog,65,Try.f65,13,Xui w F  r,w⟩
theorem Xse (w:World) (F:Nat→Prop) (x1:List Xm4) (A2:Option Addr) (n3:Nat) (c4:Nat) (h5:Rw Xmo w (St w []).av A2 n3 c4 x1) (hF:∀ b,F b→b < w.heap.size∧∀ o ∈ ([]:List (List Nat)),b ∉ o) (hL0:B.Loc w w [] [Sm w.heap.size F w [],St w []]) (r:List Int) (h:Xsb x1 r):Calls Try.prog 65 #[.slice A2 n3 c4] w (Xui w F  r):=by
 unfold Xsb at h
 refine Xmq (vs:=[.slice A2 n3 c4]) 13 Try.func65 rfl Try.ntmps65 rfl hL0 ?_
 show G (Ycq w F r) _ _ _ _
 refine Xmb rfl<|Xm8 rfl rfl<|Xm5 0 rfl (Xm9 rfl) gn rfl<|Xmc 1 rfl<|Xmb rfl<|Xm8 rfl rfl<|Xm5 0 rfl (Xm7 rfl) gn rfl ?_
 obtain ⟨r9,hv10,h⟩:=h
 refine Xmw 1 rfl (Xne [.slice A2 n3 c4] rfl Try.func44 rfl rfl rfl fun w6 hL7=>?_) gn
 have hp8:=pmI hL7 .n .n (by kernel_rfl)
 refine Calls.mono (Xw8 w6 (Fl ([St w []]:List Xmp)) x1 A2 n3 c4 (Rw.mono h5 (hL7.toFl (me 1 rfl) (me 0 rfl))) (hL7.hFl hp8 (Xms [1] rfl)) (hL7.into hp8 _) r9 hv10) ?_
 rintro _ w25 ⟨A15,n16,c17,A20,n21,c22,A11,n12,c13,rfl,hM26,h18,h23,h14⟩
 obtain ⟨sv29,hL27,hv28⟩:=hL7.callN (Sl:=([St w []]:List Xmp)) hp8 hM26 (Xms [1] rfl)
 have h14:At Xmo (sv29) A11 n12 c13 r9.nodes:=Rw.mono h14 hv28
 refine ⟨_,_,_,rfl,hL27,?_⟩
 refine Xmw 2 rfl (Xpf [.slice none 0 0,.slice none 0 0,.slice none 0 0,.bool false] Yb2 rfl fun gb30=>?_) gn
 refine Xmw 3 rfl (Xpk (vs:=[.slice A11 n12 c13,.slice A15 n16 c17,.slice A20 n21 c22,.bool r9.ok]) (cs':=[.slice A11 n12 c13,.slice A15 n16 c17,.slice A20 n21 c22,.bool r9.ok]) (M':=[.box gb30 32 [.slice A11 n12 c13,.slice A15 n16 c17,.slice A20 n21 c22,.bool r9.ok],.own (.slice A15 n16 c17) 3 1 n16 (r9.parent.flatMap (eI .i64)),.own (.slice A20 n21 c22) 3 1 n21 (r9.end_.flatMap (eI .i64))]) 0 Xyl rfl rfl rfl rfl rfl rfl rfl rfl rfl ?_) gn
 refine Xmc 4 rfl<|Xmb rfl<|Xmb rfl<|Xm8 rfl rfl<|Xm5 0 rfl (Xmj Yep rfl) gn rfl<|Xm5 1 rfl (Xmx 0 ld_4 rfl rfl rfl) gn rfl<|Xm5 2 rfl (Xrz rfl) gn rfl<|Xmc 3 rfl ?_
 by_cases hp32:r9.ok=true
 ·have h:=Xmf hp32 h
  refine Xmr rfl _ rfl ((nf hp32))<|Xn1 rfl<|Xmb rfl<|Xm8 rfl rfl<|Xm5 0 rfl (Xq7 [.slice A11 n12 c13,.slice A15 n16 c17,.slice A20 n21 c22,.bool r9.ok] 0 Yd7 rfl rfl rfl rfl) gn rfl<|Xm5 1 rfl (Xm7 rfl) gn rfl<|Xm5 2 rfl (Xmm Xsc rfl h5.hq) gn rfl ?_
  obtain ⟨r36,hv37,h⟩:=h
  refine Xmw 3 rfl (Xne [.agg #[.slice A11 n12 c13,.slice A15 n16 c17,.slice A20 n21 c22,.bool r9.ok],.int .i64 0,.int .i64 (x1.length:Int)] rfl Try.func66 rfl rfl rfl fun w33 hL34=>?_) gn
  have hp35:=pmI hL34 .n (.c 0 rfl (.c 1 rfl (.c 2 rfl .n))) (by kernel_rfl)
  refine Calls.mono (Xvr w33 (Fl ([]:List Xmp)) r9 0 (x1.length:Int) A11 n12 c13 A15 n16 c17 A20 n21 c22 (Rw.mono h14 (hL34.toSt hp35 (me 0 rfl))) (hL34.argO (dk:=(Xs2 .i64)) hp35 [] rfl 1 rfl rfl (Ow.weak hL7.env.size h18) (me 1 rfl) (Cells.flat _)) (hL34.argO (dk:=(Xs2 .i64)) hp35 [] rfl 2 rfl rfl (Ow.weak hL7.env.size h23) (me 1 rfl) (Cells.flat _)) (hL34.hFl hp35 (Xms [] rfl)) (hL34.into hp35 _) r36 hv37) ?_
  rintro _ w43 ⟨A38,n39,c40,rfl,hM44,h41⟩
  have hL45:=hL34.call hp35 hM44
  refine ⟨_,_,_,rfl,hL45,?_⟩
  refine Xm5 4 rfl (Xm9 rfl) gn rfl<|Xmc 5 rfl ?_
  refine Xmt [.slice A38 n39 c40] rfl Try.func65 rfl (.tmp rfl (.nil)) fun wr hLr=>?_
  have hMr:=hLr.pkI (.c 0 rfl .n) (.c 1 rfl (.c 2 rfl (.c 3 rfl .n))) (by kernel_rfl) (.c 2 rfl .n)
  show Xui w F  r (.returned (Xmz [.slice A38 n39 c40])) wr
  rw [h]
  exact ⟨A38,n39,c40,rfl,hMr,(Ow.weak hL34.env.size h41)⟩
 ·have h:=Xmg hp32 h
  refine Xmy rfl _ rfl ((nt (bf hp32)))<|Xmb rfl<|Xm8 rfl rfl<|Xm5 0 rfl (Xm9 rfl) gn rfl<|Xmc 1 rfl<|Xrf 3 1 ?_
  refine Xmt [.slice none 0 0] rfl Try.func65 rfl (.tmp rfl (.nil)) fun wr hLr=>?_
  have hMr:=hLr.pkI (.c 0 rfl .n) (.c 1 rfl (.c 2 rfl (.c 3 rfl .n))) (by kernel_rfl) (.c 2 rfl .n)
  show Xui w F  r (.returned (Xmz [.slice none 0 0])) wr
  rw [h]
  exact ⟨none,0,0,rfl,hMr,(Ow.nil (z:=w.heap.size))⟩
abbrev Xum (w:World) (F:Nat→Prop) (r:Int):Ending→World→Prop:=fun e w'=>e=.returned (.int .i64 r)∧B.Loc w w' [] [St w []]
noncomputable abbrev Ycg (w:World) (F:Nat→Prop) (r:Int):Cx:=⟨Try.prog,37,Try.f37,10,Xum w F  r,w⟩
theorem Xzs (w:World) (F:Nat→Prop) (x1:List Xm4) (A2:Option Addr) (n3:Nat) (c4:Nat) (h5:Rw Xmo w (St w []).av A2 n3 c4 x1) (hF:∀ b,F b→b < w.heap.size∧∀ o ∈ ([]:List (List Nat)),b ∉ o) (hL0:B.Loc w w [] [Sm w.heap.size F w [],St w []]) (r:Int) (h:Xv1 x1 r):Calls Try.prog 37 #[.slice A2 n3 c4] w (Xum w F  r):=by
 unfold Xv1 at h
 refine Xmq (vs:=[.slice A2 n3 c4]) 10 Try.func37 rfl Try.ntmps37 rfl hL0 ?_
 show G (Ycg w F r) _ _ _ _
 refine Xmb rfl<|Xm8 rfl rfl<|Xm5 0 rfl (Xm9 rfl) gn rfl<|Xmc 1 rfl<|Xmb rfl<|Xmb rfl<|Xm8 rfl rfl<|Xm5 0 rfl (Xm7 rfl) gn rfl ?_
 obtain ⟨r9,hv10,h⟩:=h
 refine Xmw 1 rfl (Xne [.slice A2 n3 c4] rfl Try.func44 rfl rfl rfl fun w6 hL7=>?_) gn
 have hp8:=pmI hL7 .n .n (by kernel_rfl)
 refine Calls.mono (Xw8 w6 (Fl ([St w []]:List Xmp)) x1 A2 n3 c4 (Rw.mono h5 (hL7.toFl (me 1 rfl) (me 0 rfl))) (hL7.hFl hp8 (Xms [1] rfl)) (hL7.into hp8 _) r9 hv10) ?_
 rintro _ w25 ⟨A15,n16,c17,A20,n21,c22,A11,n12,c13,rfl,hM26,h18,h23,h14⟩
 obtain ⟨sv29,hL27,hv28⟩:=hL7.callN (Sl:=([St w []]:List Xmp)) hp8 hM26 (Xms [1] rfl)
 have h14:At Xmo (sv29) A11 n12 c13 r9.nodes:=Rw.mono h14 hv28
 refine ⟨_,_,_,rfl,hL27,?_⟩
 refine Xm5 2 rfl (v_field1 fd_32_3 rfl rfl) gn rfl<|Xm5 3 rfl (Xrz rfl) gn rfl<|Xmc 4 rfl ?_
 by_cases hp30:r9.ok=true
 ·have h:=Xmf hp30 h
  refine Xmr rfl _ rfl ((nf hp30))<|Xn1 rfl<|Xmb rfl<|Xm8 rfl rfl<|Xm5 0 rfl (Xm7 rfl) gn rfl ?_
  obtain ⟨r34,hv35,h⟩:=h
  refine Xmw 1 rfl (Xne [.slice A2 n3 c4] rfl Try.func65 rfl rfl rfl fun w31 hL32=>?_) gn
  have hp33:=pmI hL32 .n (.c 0 rfl (.c 1 rfl .n)) (by kernel_rfl)
  refine Calls.mono (Xse w31 (Fl ([]:List Xmp)) x1 A2 n3 c4 (Rw.mono h5 (hL32.toSt hp33 (me 2 rfl))) (hL32.hFl hp33 (Xms [] rfl)) (hL32.into hp33 _) r34 hv35) ?_
  rintro _ w41 ⟨A36,n37,c38,rfl,hM42,h39⟩
  have hL43:=hL32.call hp33 hM42
  refine ⟨_,_,_,rfl,hL43,?_⟩
  refine Xm5 2 rfl (Xmm Xqp rfl (Ow.weak hL32.env.size h39).hq) gn rfl<|Xm5 3 rfl (Xm9 rfl) gn rfl<|Xmc 4 rfl ?_
  refine Xmt [.int .i64 (r34.length:Int)] rfl Try.func37 rfl (.tmp rfl (.nil)) fun wr hLr=>?_
  have hMr:=hLr.pk0 (.c 2 rfl .n)
  show Xum w F  r (.returned (Xmz [.int .i64 (r34.length:Int)])) wr
  rw [h]
  exact ⟨rfl,hMr⟩
 ·have h:=Xmg hp30 h
  refine Xmy rfl _ rfl ((nt (bf hp30)))<|Xmb rfl<|Xm8 rfl rfl<|Xm5 0 rfl (Xm9 rfl) gn rfl<|Xmc 1 rfl ?_
  refine Xmt [.int .i64 (-1)] rfl Try.func37 rfl (.tmp rfl (.nil)) fun wr hLr=>?_
  have hMr:=hLr.pk0 (.c 2 rfl .n)
  show Xum w F  r (.returned (Xmz [.int .i64 (-1)])) wr
  rw [h]
  exact ⟨rfl,hMr⟩
abbrev Xoj (w:World) (F:Nat→Prop) (r:List Xm4):Ending→World→Prop:=fun e w'=>∃ A0:Option Addr,∃ n0:Nat,∃ c0:Nat,e=.returned (.slice A0 n0 c0)∧B.Loc w w' [.own (.slice A0 n0 c0) 39 7 n0 (r.flatMap Xme)] [St w []]∧Ow w.heap.size A0 n0 c0 r
noncomputable abbrev Xth (w:World) (F:Nat→Prop) (r:List Xm4):Cx:=⟨Try.prog,61,Try.f61,8,Xoj w F  r,w⟩
theorem Xqe (w:World) (F:Nat→Prop) (x1:List Xm4) (A2:Option Addr) (n3:Nat) (c4:Nat) (h5:Rw Xmo w (St w []).av A2 n3 c4 x1) (hF:∀ b,F b→b < w.heap.size∧∀ o ∈ ([]:List (List Nat)),b ∉ o) (hL0:B.Loc w w [] [Sm w.heap.size F w [],St w []]) (r:List Xm4) (h:Xo5 x1 r):Calls Try.prog 61 #[.slice A2 n3 c4] w (Xoj w F  r):=by
 unfold Xo5 at h
 refine Xmq (vs:=[.slice A2 n3 c4]) 8 Try.func61 rfl Try.ntmps61 rfl hL0 ?_
 show G (Xth w F r) _ _ _ _
 refine Xmb rfl<|Xm8 rfl rfl<|Xm5 0 rfl (Xm9 rfl) gn rfl<|Xmc 1 rfl<|Xmb rfl<|Xmb rfl<|Xm8 rfl rfl<|Xm5 0 rfl (Xm7 rfl) gn rfl ?_
 obtain ⟨b6,hb7⟩:∃ b,b=A2.isNone:=⟨_,rfl⟩
 have h:=h b6 (nil_of hb7 (fun h0=>(h5.row.1 (by rw [← h5.hq]; exact h0)).1) h5.hq)
 refine Xm5 1 rfl (v_eqSL Xsc rfl hb7.symm) gn rfl<|Xmc 2 rfl ?_
 by_cases hp8:b6=true
 ·have h:=Xmf hp8 h
  refine Xmy rfl _ rfl (hp8)<|Xmb rfl<|Xm8 rfl rfl<|Xm5 0 rfl (Xm9 rfl) gn rfl<|Xmc 1 rfl<|Xrf 39 7 ?_
  refine Xmt [.slice none 0 0] rfl Try.func61 rfl (.tmp rfl (.nil)) fun wr hLr=>?_
  have hMr:=hLr.pkI (.c 0 rfl .n) .n (by kernel_rfl) (.c 1 rfl .n)
  show Xoj w F  r (.returned (Xmz [.slice none 0 0])) wr
  rw [h]
  exact ⟨none,0,0,rfl,hMr,(Ow.nil (z:=w.heap.size))⟩
 ·have h:=Xmg hp8 h
  refine Xmr rfl _ rfl ((bf hp8))<|Xn1 rfl<|Xmb rfl<|Xm8 rfl rfl ?_
  refine Xmw 0 rfl (Xqd (xs:=([]:List Xm4)) [] bs_22_0 rfl (by kernel_rfl) rfl rfl rfl rfl fun gb10 h11=>?_) gn
  refine Xm5 1 rfl (Xm7 rfl) gn rfl ?_
  obtain ⟨x15,hv16,h⟩:=h
  obtain ⟨hb17,h⟩:=h
  refine Xmw 2 rfl (Xrg (zs:=x15) (cells':=x15.flatMap Xme) 0 Xyz rfl rfl rfl h11 (Nat.le_refl _) (Src.readF (s:=St w []) (hl:=Xmv) (h1:=Xna) h5 (me 1 rfl)) (by rw [hv16,List.flatMap_append] <;> rfl) (Xok hv16 h5.hq) hb17 rfl rfl fun A12 c13 h14=>?_) gn
  refine Xm5 3 rfl (Xm9 rfl) gn rfl<|Xmc 4 rfl ?_
  refine Xmt [.slice A12 (0 + n3) c13] rfl Try.func61 rfl (.tmp rfl (.nil)) fun wr hLr=>?_
  have hMr:=hLr.pkI (.c 0 rfl .n) .n (by kernel_rfl) (.c 1 rfl .n)
  show Xoj w F  r (.returned (Xmz [.slice A12 (0 + n3) c13])) wr
  rw [h]
  exact ⟨A12,0 + n3,c13,rfl,hMr,h14⟩
end Go.Proofs.Ytmekgfcfooghnaa.K
