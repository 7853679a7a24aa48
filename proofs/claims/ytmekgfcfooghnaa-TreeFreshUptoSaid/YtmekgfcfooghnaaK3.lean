/- What the machine's calls do, function by function, printed by my own tool. Condition of each: its relation holds of the answer, and what is handed in lies in memory as told. -/
import Derived.Test.YtmekgfcfooghnaaK2
set_option linter.unusedVariables false
set_option maxRecDepth 100000
set_option maxHeartbeats 4000000
namespace Go.Proofs.Ytmekgfcfooghnaa.K
open Go.Proofs.Ytmekgfcfooghnaa.B Go.Proofs.Ytmekgfcfooghnaa.R Go.RowKit
abbrev Xw1 (w:World) (F:Nat→Prop) (r:List Xm4):Ending→World→Prop:=fun e w'=>∃ A0:Option Addr,∃ n0:Nat,∃ c0:Nat,e=.returned (.slice A0 n0 c0)∧B.Loc w w' [.own (.slice A0 n0 c0) 39 7 n0 (r.flatMap Xmd)] [St w []]∧Ow w.heap.size A0 n0 c0 r
noncomputable abbrev Yfg (w:World) (F:Nat→Prop) (r:List Xm4):Cx:=⟨Try.prog,33,Try.f33,13,Xw1 w F  r,w⟩
theorem Xv0 (w:World) (F:Nat→Prop) (x1:Xmw) (x46:Int) (x47:List Xm4) (A2:Option Addr) (n3:Nat) (c4:Nat) (A6:Option Addr) (n7:Nat) (c8:Nat) (A10:Option Addr) (n11:Nat) (c12:Nat) (A14:Option Addr) (n15:Nat) (c16:Nat) (A18:Option Addr) (n19:Nat) (c20:Nat) (A22:Option Addr) (n23:Nat) (c24:Nat) (A26:Option Addr) (n27:Nat) (c28:Nat) (A30:Option Addr) (n31:Nat) (c32:Nat) (A34:Option Addr) (n35:Nat) (c36:Nat) (A38:Option Addr) (n39:Nat) (c40:Nat) (A42:Option Addr) (n43:Nat) (c44:Nat) (A48:Option Addr) (n49:Nat) (c50:Nat) (h5:Rw Xqh w (St w []).av A2 n3 c4 x1.modes) (h9:Rw Xnt w (St w []).av A6 n7 c8 x1.gram.terms) (h13:Rw Xpk w (St w []).av A10 n11 c12 x1.gram.syms) (h17:Rw Xos w (St w []).av A14 n15 c16 x1.gram.prods) (h21:Rw Xsf w (St w []).av A18 n19 c20 x1.rules) (h25:Rw (Kd.slice Xq1) w (St w []).av A22 n23 c24 x1.table.actions) (h29:Rw (Kd.slice (Xsu .i64)) w (St w []).av A26 n27 c28 x1.table.gotos) (h33:Rw Xq2 w (St w []).av A30 n31 c32 x1.paints) (h37:Rw Ybz w (St w []).av A34 n35 c36 x1.folds) (h41:Rw Xqi w (St w []).av A38 n39 c40 x1.marks) (h45:Rw Xpp w (St w []).av A42 n43 c44 x1.injects) (h51:Rw Xml w (St w []).av A48 n49 c50 x47) (hF:∀ b,F b→b < w.heap.size∧∀ o ∈ ([]:List (List Nat)),b ∉ o) (hL0:B.Loc w w [] [Sm w.heap.size F w [],St w []]) (r:List Xm4) (h:Xue x1 x46 x47 r):Calls Try.prog 33 #[.agg #[.string x1.name,.slice A2 n3 c4,.slice A6 n7 c8,.slice A10 n11 c12,.slice A14 n15 c16,.slice A18 n19 c20,.slice A22 n23 c24,.slice A26 n27 c28,.slice A30 n31 c32,.slice A34 n35 c36,.slice A38 n39 c40,.slice A42 n43 c44],.int .i64 x46,.slice A48 n49 c50] w (Xw1 w F  r):=by
 unfold Xue at h
 refine Xms (vs:=[.agg #[.string x1.name,.slice A2 n3 c4,.slice A6 n7 c8,.slice A10 n11 c12,.slice A14 n15 c16,.slice A18 n19 c20,.slice A22 n23 c24,.slice A26 n27 c28,.slice A30 n31 c32,.slice A34 n35 c36,.slice A38 n39 c40,.slice A42 n43 c44],.int .i64 x46,.slice A48 n49 c50]) 13 Try.func33 rfl Try.ntmps33 rfl hL0 ?_
 show G (Yfg w F r) _ _ _ _
 refine Xmb rfl<|Xm6 rfl rfl ?_
 refine Xmr 0 rfl (Xv5 [.string x1.name,.slice A2 n3 c4,.slice A6 n7 c8,.slice A10 n11 c12,.slice A14 n15 c16,.slice A18 n19 c20,.slice A22 n23 c24,.slice A26 n27 c28,.slice A30 n31 c32,.slice A34 n35 c36,.slice A38 n39 c40,.slice A42 n43 c44] rfl rfl rfl fun gb52=>?_) gn
 refine Xm5 1 rfl (Xma rfl) gn rfl<|Xmc 2 rfl<|Xmb rfl<|Xmb rfl<|Xm6 rfl rfl<|Xm5 0 rfl (Xmm Xry rfl) gn rfl<|Xm5 1 rfl (Xqa [.slice A6 n7 c8,.slice A10 n11 c12,.slice A14 n15 c16] 0 Ycu rfl rfl rfl rfl) gn rfl<|Xm5 2 rfl (Xm8 rfl) gn rfl ?_
 obtain ⟨r57,hv58,h⟩:=h
 refine Xmr 3 rfl (Xmz [.agg #[.slice A6 n7 c8,.slice A10 n11 c12,.slice A14 n15 c16],.int .i64 x46] rfl Try.func60 rfl rfl rfl fun w54 hL55=>?_) gn
 have hp56:=pmI hL55 .n (.c 0 rfl .n) (by kernel_rfl)
 refine Calls.mono (Xzv w54 (Fl ([]:List Xmq)) x1.gram x46 A6 n7 c8 A10 n11 c12 A14 n15 c16 (Rw.mono h9 (hL55.toSt hp56 (me 1 rfl))) (Rw.mono h13 (hL55.toSt hp56 (me 1 rfl))) (Rw.mono h17 (hL55.toSt hp56 (me 1 rfl))) (hL55.hFl hp56 (Xmt [] rfl)) (hL55.into hp56 _) r57 hv58) ?_
 rintro _ w59 ⟨rfl,hM60⟩
 have hL61:=hL55.call hp56 hM60
 refine ⟨_,_,_,rfl,hL61,?_⟩
 refine Xmc 4 rfl ?_
 by_cases hp62:r57=true
 ·have h:=Xmh hp62 h
  refine Xn3 rfl _ rfl (hp62)<|Xmb rfl<|Xm6 rfl rfl<|Xm5 0 rfl (Xma rfl) gn rfl<|Xmc 1 rfl<|Xr7 39 7 ?_
  refine Xmu [.slice none 0 0] rfl Try.func33 rfl (.tmp rfl (.nil)) fun wr hLr=>?_
  have hMr:=hLr.pkI (.c 0 rfl .n) (.c 1 rfl .n) (by kernel_rfl) (.c 1 rfl .n)
  show Xw1 w F  r (.returned (Xn4 [.slice none 0 0])) wr
  rw [h]
  exact ⟨none,0,0,rfl,hMr,(Ow.nil (z:=w.heap.size))⟩
 ·have h:=Xmg hp62 h
  refine Xmp rfl _ rfl ((bf hp62))<|Xn9 rfl<|Xmb rfl<|Xm6 rfl rfl<|Xm5 0 rfl (Xm8 rfl) gn rfl ?_
  obtain ⟨r66,hv67,h⟩:=h
  refine Xmr 1 rfl (Xmz [.slice A48 n49 c50] rfl Try.func61 rfl rfl rfl fun w63 hL64=>?_) gn
  have hp65:=pmI hL64 .n (.c 0 rfl .n) (by kernel_rfl)
  refine Calls.mono (Xqw w63 (Fl ([]:List Xmq)) x47 A48 n49 c50 (Rw.mono h51 (hL64.toSt hp65 (me 1 rfl))) (hL64.hFl hp65 (Xmt [] rfl)) (hL64.into hp65 _) r66 hv67) ?_
  rintro _ w73 ⟨A68,n69,c70,rfl,hM74,h71⟩
  have hL75:=hL64.call hp65 hM74
  refine ⟨_,_,_,rfl,hL75,?_⟩
  refine Xm5 2 rfl (Xma rfl) gn rfl<|Xmc 3 rfl ?_
  refine Xmu [.slice A68 n69 c70] rfl Try.func33 rfl (.tmp rfl (.nil)) fun wr hLr=>?_
  have hMr:=hLr.pkI (.c 0 rfl .n) (.c 1 rfl .n) (by kernel_rfl) (.c 1 rfl .n)
  show Xw1 w F  r (.returned (Xn4 [.slice A68 n69 c70])) wr
  rw [h]
  exact ⟨A68,n69,c70,rfl,hMr,(Ow.weak hL64.env.size h71)⟩
abbrev Xtd (w:World) (F:Nat→Prop) (r:Bool):Ending→World→Prop:=fun e w'=>e=.returned (.bool r)∧B.Loc w w' [] [St w []]
noncomputable abbrev Yec (w:World) (F:Nat→Prop) (r:Bool):Cx:=⟨Try.prog,76,Try.f76,33,Xtd w F  r,w⟩
theorem Yaw (w:World) (F:Nat→Prop) (x1:Xnn) (x14:Int) (A2:Option Addr) (n3:Nat) (c4:Nat) (A6:Option Addr) (n7:Nat) (c8:Nat) (A10:Option Addr) (n11:Nat) (c12:Nat) (h5:Rw Xnt w (St w []).av A2 n3 c4 x1.terms) (h9:Rw Xpk w (St w []).av A6 n7 c8 x1.syms) (h13:Rw Xos w (St w []).av A10 n11 c12 x1.prods) (hF:∀ b,F b→b < w.heap.size∧∀ o ∈ ([]:List (List Nat)),b ∉ o) (hL0:B.Loc w w [] [Sm w.heap.size F w [],St w []]) (r:Bool) (h:Xvs x1 x14 r):Calls Try.prog 76 #[.agg #[.slice A2 n3 c4,.slice A6 n7 c8,.slice A10 n11 c12],.int .i64 x14] w (Xtd w F  r):=by
 unfold Xvs at h
 refine Xms (vs:=[.agg #[.slice A2 n3 c4,.slice A6 n7 c8,.slice A10 n11 c12],.int .i64 x14]) 33 Try.func76 rfl Try.ntmps76 rfl hL0 ?_
 show G (Yec w F r) _ _ _ _
 refine Xmb rfl<|Xm6 rfl rfl ?_
 refine Xmr 0 rfl (Xv5 [.slice A2 n3 c4,.slice A6 n7 c8,.slice A10 n11 c12] rfl rfl rfl fun gb15=>?_) gn
 refine Xm5 1 rfl (Xma rfl) gn rfl<|Xmc 2 rfl<|Xmb rfl<|Xm6 rfl rfl<|Xm5 0 rfl (Xm8 rfl) gn rfl<|Xm5 1 rfl (Xmm Xtr rfl) gn rfl<|Xm5 2 rfl (Xmy 0 Xxr rfl rfl rfl) gn rfl<|Xm5 3 rfl (Xn0 Yc1 rfl h5.hq) gn rfl<|Xm5 4 rfl (Xmn rfl rfl rfl) gn rfl<|Xm5 5 rfl (Xma rfl) gn rfl<|Xmc 6 rfl<|Xmb rfl ?_
 refine Xm6 rfl rfl<|Xm5 0 rfl (Xm8 rfl) gn rfl<|Xm5 1 rfl (Xmn rfl rfl rfl) gn rfl<|Xm5 2 rfl (Xm8 rfl) gn rfl ?_
 by_cases hp17:x14≥0
 ·have h:=Xmh hp17 h
  refine Xmx 13 rfl ((decide_eq_true hp17))<|Xm5 3 rfl (Xm8 rfl) (gy 13 rfl rfl) rfl<|Xm5 4 rfl (Xmn rfl rfl rfl) (gy 13 rfl rfl) rfl<|Xm5 5 rfl (Xmk (b:=true) rfl rfl) gn rfl<|Xm5 6 rfl (Xm8 rfl) gn rfl ?_
  by_cases hp18:w64 (x14 - (x1.terms.length:Int))≥0
  ·have h:=Xmh hp18 h
   refine Xmx 17 rfl ((decide_eq_true hp18))<|Xm5 7 rfl (Xm8 rfl) (gy 17 rfl rfl) rfl<|Xm5 8 rfl (Xmm Xuj rfl) (gy 17 rfl rfl) rfl<|Xm5 9 rfl (Xmy 0 Xyw rfl rfl rfl) (gy 17 rfl rfl) rfl<|Xm5 10 rfl (Xn0 un_44 rfl h9.hq) (gy 17 rfl rfl) rfl<|Xm5 11 rfl (Xmn rfl rfl rfl) (gy 17 rfl rfl) rfl<|Xm5 12 rfl (Xmk (b:=true) rfl rfl) gn rfl<|Xm5 13 rfl (Xm8 rfl) gn rfl ?_
   by_cases hp19:w64 (x14 - (x1.terms.length:Int)) < (x1.syms.length:Int)
   ·have h:=Xmh hp19 h
    refine Xmx 24 rfl ((decide_eq_true hp19))<|Xm5 14 rfl (Xmm Xuj rfl) (gy 24 rfl rfl) rfl<|Xm5 15 rfl (Xmy 0 Xyw rfl rfl rfl) (gy 24 rfl rfl) rfl<|Xm5 16 rfl (Xm8 rfl) (gy 24 rfl rfl) rfl ?_
    obtain ⟨hb20,h⟩:=h
    have hr21:=Rw.readF (s:=St w []) (hl:=Xtv) (h1:=Xtw) h9 hb20
    refine Xm5 17 rfl (Xoc (s:=St w []) Yae rfl rfl h9 hb20) (gy 24 rfl rfl) rfl<|Xm5 18 rfl (Xp5 Ybr rfl) (gy 24 rfl rfl) rfl<|Xm5 19 rfl (Xpo (kk:=(w64 (x14 - (x1.terms.length:Int)):Int).toNat * 2) (j:=1) (St w []) ld_72 rfl hr21 rfl (me 1 rfl)) (gy 24 rfl rfl) rfl<|Xm5 20 rfl (Xmn rfl rfl rfl) (gy 24 rfl rfl) rfl<|Xm5 21 rfl (Xmk (b:=true) rfl rfl) gn rfl<|Xm5 22 rfl (Xma rfl) gn rfl<|Xmc 23 rfl ?_
    refine Xmu [.bool (((ix x1.syms (w64 (x14 - (x1.terms.length:Int)))).kind) == 1)] rfl Try.func76 rfl (.tmp rfl (.nil)) fun wr hLr=>?_
    have hMr:=hLr.pk0 (.c 1 rfl .n)
    show Xtd w F  r (.returned (Xn4 [.bool (((ix x1.syms (w64 (x14 - (x1.terms.length:Int)))).kind) == 1)])) wr
    rw [h]
    exact ⟨rfl,hMr⟩
   ·have h:=Xmg hp19 h
    refine Xmx 24 rfl ((decide_eq_false hp19))<|Xm9 14 rfl (ps 24 rfl rfl rfl)<|Xm9 15 rfl (ps 24 rfl rfl rfl)<|Xm9 16 rfl (ps 24 rfl rfl rfl)<|Xm9 17 rfl (ps 24 rfl rfl rfl)<|Xm9 18 rfl (ps 24 rfl rfl rfl)<|Xm9 19 rfl (ps 24 rfl rfl rfl)<|Xm9 20 rfl (ps 24 rfl rfl rfl)<|Xm5 21 rfl (Xmk (b:=false) rfl rfl) gn rfl<|Xm5 22 rfl (Xma rfl) gn rfl<|Xmc 23 rfl ?_
    refine Xmu [.bool false] rfl Try.func76 rfl (.tmp rfl (.nil)) fun wr hLr=>?_
    have hMr:=hLr.pk0 (.c 1 rfl .n)
    show Xtd w F  r (.returned (Xn4 [.bool false])) wr
    rw [h]
    exact ⟨rfl,hMr⟩
  ·have h:=Xmg hp18 h
   refine Xmx 17 rfl ((decide_eq_false hp18))<|Xm9 7 rfl (ps 17 rfl rfl rfl)<|Xm9 8 rfl (ps 17 rfl rfl rfl)<|Xm9 9 rfl (ps 17 rfl rfl rfl)<|Xm9 10 rfl (ps 17 rfl rfl rfl)<|Xm9 11 rfl (ps 17 rfl rfl rfl)<|Xm5 12 rfl (Xmk (b:=false) rfl rfl) gn rfl<|Xm5 13 rfl (Xm8 rfl) gn rfl<|Xm9 14 rfl (ps 24 rfl rfl rfl)<|Xm9 15 rfl (ps 24 rfl rfl rfl)<|Xm9 16 rfl (ps 24 rfl rfl rfl)<|Xm9 17 rfl (ps 24 rfl rfl rfl) ?_
   refine Xm9 18 rfl (ps 24 rfl rfl rfl)<|Xm9 19 rfl (ps 24 rfl rfl rfl)<|Xm9 20 rfl (ps 24 rfl rfl rfl)<|Xm5 21 rfl (Xmk (b:=false) rfl rfl) gn rfl<|Xm5 22 rfl (Xma rfl) gn rfl<|Xmc 23 rfl ?_
   refine Xmu [.bool false] rfl Try.func76 rfl (.tmp rfl (.nil)) fun wr hLr=>?_
   have hMr:=hLr.pk0 (.c 1 rfl .n)
   show Xtd w F  r (.returned (Xn4 [.bool false])) wr
   rw [h]
   exact ⟨rfl,hMr⟩
 ·have h:=Xmg hp17 h
  refine Xmx 13 rfl ((decide_eq_false hp17))<|Xm9 3 rfl (ps 13 rfl rfl rfl)<|Xm9 4 rfl (ps 13 rfl rfl rfl)<|Xm5 5 rfl (Xmk (b:=false) rfl rfl) gn rfl<|Xm5 6 rfl (Xm8 rfl) gn rfl<|Xm9 7 rfl (ps 17 rfl rfl rfl)<|Xm9 8 rfl (ps 17 rfl rfl rfl)<|Xm9 9 rfl (ps 17 rfl rfl rfl)<|Xm9 10 rfl (ps 17 rfl rfl rfl)<|Xm9 11 rfl (ps 17 rfl rfl rfl)<|Xm5 12 rfl (Xmk (b:=false) rfl rfl) gn rfl<|Xm5 13 rfl (Xm8 rfl) gn rfl ?_
  refine Xm9 14 rfl (ps 24 rfl rfl rfl)<|Xm9 15 rfl (ps 24 rfl rfl rfl)<|Xm9 16 rfl (ps 24 rfl rfl rfl)<|Xm9 17 rfl (ps 24 rfl rfl rfl)<|Xm9 18 rfl (ps 24 rfl rfl rfl)<|Xm9 19 rfl (ps 24 rfl rfl rfl)<|Xm9 20 rfl (ps 24 rfl rfl rfl)<|Xm5 21 rfl (Xmk (b:=false) rfl rfl) gn rfl<|Xm5 22 rfl (Xma rfl) gn rfl<|Xmc 23 rfl ?_
  refine Xmu [.bool false] rfl Try.func76 rfl (.tmp rfl (.nil)) fun wr hLr=>?_
  have hMr:=hLr.pk0 (.c 1 rfl .n)
  show Xtd w F  r (.returned (Xn4 [.bool false])) wr
  rw [h]
  exact ⟨rfl,hMr⟩
noncomputable abbrev q59c13:=Code.fst (Code.snd (Code.snd (Code.fst (Code.snd (Code.snd (Code.snd (Xo5 Try.f59)))))))
abbrev Xwb (w:World) (F:Nat→Prop) (r:List Xm4):Ending→World→Prop:=fun e w'=>∃ A0:Option Addr,∃ n0:Nat,∃ c0:Nat,e=.returned (.slice A0 n0 c0)∧B.Loc w w' [.own (.slice A0 n0 c0) 39 7 n0 (r.flatMap Xmd)] [St w []]∧Ow w.heap.size A0 n0 c0 r
noncomputable abbrev Yff (w:World) (F:Nat→Prop) (r:List Xm4):Cx:=⟨Try.prog,59,Try.f59,44,Xwb w F  r,w⟩
theorem Xxq (w:World) (F:Nat→Prop) (x1:ByteArray) (x2:List Xm4) (x7:Int) (A3:Option Addr) (n4:Nat) (c5:Nat) (h6:Rw Xml w (St w []).av A3 n4 c5 x2) (hF:∀ b,F b→b < w.heap.size∧∀ o ∈ ([]:List (List Nat)),b ∉ o) (hL0:B.Loc w w [] [Sm w.heap.size F w [],St w []]) (r:List Xm4) (h:Xvl x1 x2 x7 r):Calls Try.prog 59 #[.string x1,.slice A3 n4 c5,.int .i64 x7] w (Xwb w F  r):=by
 unfold Xvl at h
 refine Xms (vs:=[.string x1,.slice A3 n4 c5,.int .i64 x7]) 44 Try.func59 rfl Try.ntmps59 rfl hL0 ?_
 show G (Yff w F r) _ _ _ _
 refine Xmb rfl<|Xm6 rfl rfl<|Xm5 0 rfl (Xma rfl) gn rfl<|Xmc 1 rfl<|Xmb rfl<|Xm6 rfl rfl<|Xm5 0 rfl (Xm8 rfl) gn rfl<|Xm5 1 rfl (Xm8 rfl) gn rfl<|Xm5 2 rfl (Xm8 rfl) gn rfl<|Xm5 3 rfl (Xpq #[.string x1,.bool true,.string (⟨#[]⟩:ByteArray),.int .i64 x7,.int .i64 x7,.int .i64 0,.int .i64 (-1)] Yf5 rfl (by kernel_rfl)) gn rfl ?_
 refine Xmr 4 rfl (Xov [.string (⟨#[]⟩:ByteArray),.bool false,.string (⟨#[]⟩:ByteArray),.int .i64 0,.int .i64 0,.int .i64 0,.int .i64 0] Yf0 rfl fun gb8=>?_) gn
 refine Xmr 5 rfl (Xp9 (vs:=[.string x1,.bool true,.string (⟨#[]⟩:ByteArray),.int .i64 x7,.int .i64 x7,.int .i64 0,.int .i64 (-1)]) (cs':=[.string x1,.bool true,.string (⟨#[]⟩:ByteArray),.int .i64 x7,.int .i64 x7,.int .i64 0,.int .i64 (-1)]) (M':=[.box gb8 39 [.string x1,.bool true,.string (⟨#[]⟩:ByteArray),.int .i64 x7,.int .i64 x7,.int .i64 0,.int .i64 (-1)]]) 0 Ydr rfl rfl rfl rfl rfl rfl rfl rfl rfl ?_) gn
 refine Xmc 6 rfl<|Xmb rfl<|Xm6 rfl rfl<|Xm5 0 rfl (Xm8 rfl) gn rfl ?_
 obtain ⟨r13,hv14,h⟩:=h
 refine Xmr 1 rfl (Xmz [.slice A3 n4 c5] rfl Try.func65 rfl rfl rfl fun w10 hL11=>?_) gn
 have hp12:=pmI hL11 .n (.c 0 rfl .n) (by kernel_rfl)
 refine Calls.mono (Xtc w10 (Fl ([]:List Xmq)) x2 A3 n4 c5 (Rw.mono h6 (hL11.toSt hp12 (me 1 rfl))) (hL11.hFl hp12 (Xmt [] rfl)) (hL11.into hp12 _) r13 hv14) ?_
 rintro _ w20 ⟨A15,n16,c17,rfl,hM21,h18⟩
 have hL22:=hL11.call hp12 hM21
 refine ⟨_,_,_,rfl,hL22,?_⟩
 refine Xm5 2 rfl (Xma rfl) gn rfl<|Xmc 3 rfl<|Xmb rfl<|Xmb rfl<|Xm6 rfl rfl<|Xm5 0 rfl (Xm8 rfl) gn rfl<|Xm5 1 rfl (Xn0 Xrh rfl (Ow.weak hL11.env.size h18).hq) gn rfl<|Xm5 2 rfl (Xmm Xt8 rfl) gn rfl ?_
 refine Xmr 3 rfl (Xp9 (vs:=[.int .i64 (r13.length:Int)]) (cs':=[.string x1,.bool true,.string (⟨#[]⟩:ByteArray),.int .i64 x7,.int .i64 x7,.int .i64 (r13.length:Int),.int .i64 (-1)]) (M':=[.own (.slice A15 n16 c17) 3 1 n16 (r13.flatMap (eI .i64)),.box gb8 39 [.string x1,.bool true,.string (⟨#[]⟩:ByteArray),.int .i64 x7,.int .i64 x7,.int .i64 (r13.length:Int),.int .i64 (-1)]]) 1 Yd0 rfl rfl rfl rfl rfl rfl rfl rfl rfl ?_) gn
 refine Xmc 4 rfl<|Xmb rfl<|Xm6 rfl rfl<|Xm5 0 rfl (Xmm Xt8 rfl) gn rfl<|Xm5 1 rfl (Xmy 1 Xqt rfl rfl rfl) gn rfl<|Xm5 2 rfl (Xmn rfl rfl rfl) gn rfl<|Xmc 3 rfl ?_
 by_cases hp23:(r13.length:Int) > 0
 ·have h:=Xmh hp23 h
  refine Xn3 rfl _ rfl ((decide_eq_true hp23)) ?_
  obtain ⟨hb24,h⟩:=h
  obtain ⟨hb25,h⟩:=h
  obtain ⟨hb27,h⟩:=h
  obtain ⟨hb28,h⟩:=h
  have hns:Region.noSelect (Code.ops q59c13)=true:=by kernel_rfl
  refine Yet [.own (.slice A15 n16 c17) 3 1 n16 (r13.flatMap (eI .i64))] [Sm w.heap.size F w [],St w []] [] 21 rfl rfl mix rfl (.cons_cons _ (.cons _ (.slnil))) (Xmt [0,1] rfl)<|wfv 0 rfl (Xm8 rfl) gn hns rfl<|wfv 1 rfl (Xm8 rfl) gn hns rfl<|wfv 2 rfl (Xot Xq8 rfl rfl (Ow.weak hL11.env.size h18) hb24) gn hns rfl<|wfv 3 rfl (Xq7 (.int .i64 (ix r13 0)) 0 Xqt rfl rfl (Xsb (hlI .i64) hb24 rfl)) gn hns rfl ?_
  have hr32:=Rw.readF (s:=St w []) (hl:=Xn7) (h1:=Xny) h6 hb25
  refine wfv 4 rfl (Xoc (s:=St w []) Xrr rfl rfl h6 hb25) gn hns rfl<|wfv 5 rfl (Xp5 Xzy rfl) gn hns rfl<|wfv 6 rfl (Xpo (kk:=(ix r13 0:Int).toNat * 7) (j:=3) (St w []) Xqt rfl hr32 rfl (me 1 rfl)) gn hns rfl<|wfv 7 rfl (Xm8 rfl) gn hns rfl<|wfv 8 rfl (Xm8 rfl) gn hns rfl<|wfv 9 rfl (Xmm Xt8 rfl) gn hns rfl ?_
  refine Xnk [10] (by kernel_rfl) rfl ⟨Xqy 10 rfl gn rfl (Ya1 (Xmy 1 Xqt rfl rfl rfl) rfl ?_),trivial⟩
  refine ⟨Xmt [0] rfl,Xmt [0,1] rfl,?_⟩
  refine wfv 11 rfl (Xmn rfl rfl rfl) gn hns rfl<|wfv 12 rfl (Xot Xq8 rfl rfl (Ow.weak hL11.env.size h18) hb27) gn hns rfl<|wfv 13 rfl (Xq7 (.int .i64 (ix r13 (w64 ((r13.length:Int) - 1)))) 0 Xqt rfl rfl (Xsb (hlI .i64) hb27 rfl)) gn hns rfl ?_
  have hr33:=Rw.readF (s:=St w []) (hl:=Xn7) (h1:=Xny) h6 hb28
  refine wfv 14 rfl (Xoc (s:=St w []) Xrr rfl rfl h6 hb28) gn hns rfl<|wfv 15 rfl (Xp5 Xzx rfl) gn hns rfl<|wfv 16 rfl (Xpo (kk:=(ix r13 (w64 ((r13.length:Int) - 1)):Int).toNat * 7) (j:=4) (St w []) Xqt rfl hr33 rfl (me 1 rfl)) gn hns rfl<|wfv 17 rfl (Xmm Xzy rfl) gn hns rfl ?_
  refine Xnk [18] (by kernel_rfl) rfl ⟨Xqy 18 rfl gn rfl (Xp9 (vs:=[.int .i64 ((ix x2 (ix r13 0)).from_)]) (cs':=[.string x1,.bool true,.string (⟨#[]⟩:ByteArray),.int .i64 ((ix x2 (ix r13 0)).from_),.int .i64 x7,.int .i64 (r13.length:Int),.int .i64 (-1)]) (M':=[.own (.slice A15 n16 c17) 3 1 n16 (r13.flatMap (eI .i64)),.box gb8 39 [.string x1,.bool true,.string (⟨#[]⟩:ByteArray),.int .i64 ((ix x2 (ix r13 0)).from_),.int .i64 x7,.int .i64 (r13.length:Int),.int .i64 (-1)]]) 1 Yd0 rfl rfl rfl rfl rfl rfl rfl rfl rfl ?_),trivial⟩
  refine ⟨Xmt [0] rfl,Xmt [0,1] rfl,?_⟩
  refine wfv 19 rfl (Xmm Xzx rfl) gn hns rfl ?_
  refine Xnk [20] (by kernel_rfl) rfl ⟨Xqy 20 rfl gn rfl (Xp9 (vs:=[.int .i64 ((ix x2 (ix r13 (w64 ((r13.length:Int) - 1)))).to)]) (cs':=[.string x1,.bool true,.string (⟨#[]⟩:ByteArray),.int .i64 ((ix x2 (ix r13 0)).from_),.int .i64 ((ix x2 (ix r13 (w64 ((r13.length:Int) - 1)))).to),.int .i64 (r13.length:Int),.int .i64 (-1)]) (M':=[.own (.slice A15 n16 c17) 3 1 n16 (r13.flatMap (eI .i64)),.box gb8 39 [.string x1,.bool true,.string (⟨#[]⟩:ByteArray),.int .i64 ((ix x2 (ix r13 0)).from_),.int .i64 ((ix x2 (ix r13 (w64 ((r13.length:Int) - 1)))).to),.int .i64 (r13.length:Int),.int .i64 (-1)]]) 1 Yd0 rfl rfl rfl rfl rfl rfl rfl rfl rfl ?_),trivial⟩
  refine ⟨Xmt [0] rfl,Xmt [0,1] rfl,?_⟩
  refine Xq0 (by kernel_rfl)<|Xmb rfl<|Xm6 rfl rfl<|Xm5 0 rfl (Xqa [.string x1,.bool true,.string (⟨#[]⟩:ByteArray),.int .i64 ((ix x2 (ix r13 0)).from_),.int .i64 ((ix x2 (ix r13 (w64 ((r13.length:Int) - 1)))).to),.int .i64 (r13.length:Int),.int .i64 (-1)] 1 Xyc rfl rfl rfl rfl) gn rfl ?_
  refine Xmr 1 rfl (Xph (xs:=([(⟨x1,true,(⟨#[]⟩:ByteArray),(ix x2 (ix r13 0)).from_,(ix x2 (ix r13 (w64 ((r13.length:Int) - 1)))).to,(r13.length:Int),-1⟩:Xm4)]:List Xm4)) [.string x1,.bool true,.string (⟨#[]⟩:ByteArray),.int .i64 ((ix x2 (ix r13 0)).from_),.int .i64 ((ix x2 (ix r13 (w64 ((r13.length:Int) - 1)))).to),.int .i64 (r13.length:Int),.int .i64 (-1)] Ya0 rfl (by kernel_rfl) rfl rfl rfl rfl fun gb35 h36=>?_) gn
  refine Xm5 2 rfl (Xm8 rfl) gn rfl ?_
  obtain ⟨x40,hv41,h⟩:=h
  obtain ⟨hb42,h⟩:=h
  refine Xmr 3 rfl (Xs7 (zs:=x40) (cells':=x40.flatMap Xmd) 0 Yb7 rfl rfl rfl h36 (Nat.le_refl _) (Src.readF (s:=St w []) (hl:=Xn7) (h1:=Xny) h6 (me 1 rfl)) (by rw [hv41,List.flatMap_append] <;> rfl) (Xp6 hv41 h6.hq) hb42 rfl rfl fun A37 c38 h39=>?_) gn
  refine Xm5 4 rfl (Xma rfl) gn rfl<|Xmc 5 rfl ?_
  refine Xmu [.slice A37 (1 + n4) c38] rfl Try.func59 rfl (.tmp rfl (.nil)) fun wr hLr=>?_
  have hMr:=hLr.pkI (.c 0 rfl .n) (.c 1 rfl (.c 2 rfl .n)) (by kernel_rfl) (.c 1 rfl .n)
  show Xwb w F  r (.returned (Xn4 [.slice A37 (1 + n4) c38])) wr
  rw [h]
  exact ⟨A37,1 + n4,c38,rfl,hMr,h39⟩
 ·have h:=Xmg hp23 h
  refine Xmp rfl _ rfl ((decide_eq_false hp23))<|Xn9 rfl<|Xmb rfl<|Xm6 rfl rfl<|Xm5 0 rfl (Xqa [.string x1,.bool true,.string (⟨#[]⟩:ByteArray),.int .i64 x7,.int .i64 x7,.int .i64 (r13.length:Int),.int .i64 (-1)] 1 Xyc rfl rfl rfl rfl) gn rfl ?_
  refine Xmr 1 rfl (Xph (xs:=([(⟨x1,true,(⟨#[]⟩:ByteArray),x7,x7,(r13.length:Int),-1⟩:Xm4)]:List Xm4)) [.string x1,.bool true,.string (⟨#[]⟩:ByteArray),.int .i64 x7,.int .i64 x7,.int .i64 (r13.length:Int),.int .i64 (-1)] Ya0 rfl (by kernel_rfl) rfl rfl rfl rfl fun gb44 h45=>?_) gn
  refine Xm5 2 rfl (Xm8 rfl) gn rfl ?_
  obtain ⟨x49,hv50,h⟩:=h
  obtain ⟨hb51,h⟩:=h
  refine Xmr 3 rfl (Xs7 (zs:=x49) (cells':=x49.flatMap Xmd) 0 Yb7 rfl rfl rfl h45 (Nat.le_refl _) (Src.readF (s:=St w []) (hl:=Xn7) (h1:=Xny) h6 (me 1 rfl)) (by rw [hv50,List.flatMap_append] <;> rfl) (Xp6 hv50 h6.hq) hb51 rfl rfl fun A46 c47 h48=>?_) gn
  refine Xm5 4 rfl (Xma rfl) gn rfl<|Xmc 5 rfl ?_
  refine Xmu [.slice A46 (1 + n4) c47] rfl Try.func59 rfl (.tmp rfl (.nil)) fun wr hLr=>?_
  have hMr:=hLr.pkI (.c 0 rfl .n) (.c 1 rfl (.c 2 rfl .n)) (by kernel_rfl) (.c 1 rfl .n)
  show Xwb w F  r (.returned (Xn4 [.slice A46 (1 + n4) c47])) wr
  rw [h]
  exact ⟨A46,1 + n4,c47,rfl,hMr,h48⟩
noncomputable abbrev Yb6:=Code.snd (Code.snd (Code.snd (Xo5 Try.f58)))
noncomputable abbrev q58c13:=Code.snd (Code.snd (Code.snd (Code.fst (Code.fst (Code.snd (Code.snd (Xo5 Try.f58)))))))
noncomputable abbrev Yao:=Code.fst (Code.fst (Code.snd (Code.snd q58c13)))
noncomputable abbrev Ye8:=Code.snd Yb6
noncomputable abbrev Yay:=Code.fst (Code.fst (Code.snd (Code.fst Yb6)))
abbrev Xy6 (w:World) (F:Nat→Prop) (r:List Xm4):Ending→World→Prop:=fun e w'=>∃ A0:Option Addr,∃ n0:Nat,∃ c0:Nat,e=.returned (.slice A0 n0 c0)∧B.Loc w w' [.own (.slice A0 n0 c0) 39 7 n0 (r.flatMap Xmd)] [St w []]∧Ow w.heap.size A0 n0 c0 r
noncomputable abbrev Xrf (w:World) (F:Nat→Prop) (r:List Xm4):Cx:=⟨Try.prog,58,Try.f58,84,Xy6 w F  r,w⟩
theorem Ybj (w:World) (F:Nat→Prop) (x1:Xmw) (x46:Xn1) (x47:List Xm4) (x52:Int) (A2:Option Addr) (n3:Nat) (c4:Nat) (A6:Option Addr) (n7:Nat) (c8:Nat) (A10:Option Addr) (n11:Nat) (c12:Nat) (A14:Option Addr) (n15:Nat) (c16:Nat) (A18:Option Addr) (n19:Nat) (c20:Nat) (A22:Option Addr) (n23:Nat) (c24:Nat) (A26:Option Addr) (n27:Nat) (c28:Nat) (A30:Option Addr) (n31:Nat) (c32:Nat) (A34:Option Addr) (n35:Nat) (c36:Nat) (A38:Option Addr) (n39:Nat) (c40:Nat) (A42:Option Addr) (n43:Nat) (c44:Nat) (A48:Option Addr) (n49:Nat) (c50:Nat) (h5:Rw Xqh w (St w []).av A2 n3 c4 x1.modes) (h9:Rw Xnt w (St w []).av A6 n7 c8 x1.gram.terms) (h13:Rw Xpk w (St w []).av A10 n11 c12 x1.gram.syms) (h17:Rw Xos w (St w []).av A14 n15 c16 x1.gram.prods) (h21:Rw Xsf w (St w []).av A18 n19 c20 x1.rules) (h25:Rw (Kd.slice Xq1) w (St w []).av A22 n23 c24 x1.table.actions) (h29:Rw (Kd.slice (Xsu .i64)) w (St w []).av A26 n27 c28 x1.table.gotos) (h33:Rw Xq2 w (St w []).av A30 n31 c32 x1.paints) (h37:Rw Ybz w (St w []).av A34 n35 c36 x1.folds) (h41:Rw Xqi w (St w []).av A38 n39 c40 x1.marks) (h45:Rw Xpp w (St w []).av A42 n43 c44 x1.injects) (h51:Rw Xml w (St w []).av A48 n49 c50 x47) (hF:∀ b,F b→b < w.heap.size∧∀ o ∈ ([]:List (List Nat)),b ∉ o) (hL0:B.Loc w w [] [Sm w.heap.size F w [],St w []]) (r:List Xm4) (h:Xx0 x1 x46 x47 x52 r):Calls Try.prog 58 #[.agg #[.string x1.name,.slice A2 n3 c4,.slice A6 n7 c8,.slice A10 n11 c12,.slice A14 n15 c16,.slice A18 n19 c20,.slice A22 n23 c24,.slice A26 n27 c28,.slice A30 n31 c32,.slice A34 n35 c36,.slice A38 n39 c40,.slice A42 n43 c44],.agg #[.int .i64 x46.sym,.string x46.field,.string x46.as],.slice A48 n49 c50,.int .i64 x52] w (Xy6 w F  r):=by
 unfold Xx0 at h
 refine Xms (vs:=[.agg #[.string x1.name,.slice A2 n3 c4,.slice A6 n7 c8,.slice A10 n11 c12,.slice A14 n15 c16,.slice A18 n19 c20,.slice A22 n23 c24,.slice A26 n27 c28,.slice A30 n31 c32,.slice A34 n35 c36,.slice A38 n39 c40,.slice A42 n43 c44],.agg #[.int .i64 x46.sym,.string x46.field,.string x46.as],.slice A48 n49 c50,.int .i64 x52]) 84 Try.func58 rfl Try.ntmps58 rfl hL0 ?_
 show G (Xrf w F r) _ _ _ _
 refine Xmb rfl<|Xm6 rfl rfl ?_
 refine Xmr 0 rfl (Xv5 [.string x1.name,.slice A2 n3 c4,.slice A6 n7 c8,.slice A10 n11 c12,.slice A14 n15 c16,.slice A18 n19 c20,.slice A22 n23 c24,.slice A26 n27 c28,.slice A30 n31 c32,.slice A34 n35 c36,.slice A38 n39 c40,.slice A42 n43 c44] rfl rfl rfl fun gb53=>?_) gn
 refine Xmr 1 rfl (Xv5 [.int .i64 x46.sym,.string x46.field,.string x46.as] rfl rfl rfl fun gb55=>?_) gn
 refine Xm5 2 rfl (Xma rfl) gn rfl<|Xmc 3 rfl<|Xmb rfl<|Xm6 rfl rfl<|Xm5 0 rfl (Xm8 rfl) gn rfl ?_
 obtain ⟨r60,hv61,h⟩:=h
 refine Xmr 1 rfl (Xmz [.slice A48 n49 c50] rfl Try.func61 rfl rfl rfl fun w57 hL58=>?_) gn
 have hp59:=pmI hL58 .n (.c 0 rfl (.c 1 rfl .n)) (by kernel_rfl)
 refine Calls.mono (Xqw w57 (Fl ([]:List Xmq)) x47 A48 n49 c50 (Rw.mono h51 (hL58.toSt hp59 (me 1 rfl))) (hL58.hFl hp59 (Xmt [] rfl)) (hL58.into hp59 _) r60 hv61) ?_
 rintro _ w67 ⟨A62,n63,c64,rfl,hM68,h65⟩
 have hL69:=hL58.call hp59 hM68
 refine ⟨_,_,_,rfl,hL69,?_⟩
 refine Xm5 2 rfl (Xma rfl) gn rfl<|Xmc 3 rfl<|Xmb rfl<|Xn8 rfl<|Xmb rfl<|Xm6 rfl rfl<|Xm5 0 rfl (Xmm Xur rfl) gn rfl<|Xm5 1 rfl (Xmy 1 Xwi rfl rfl rfl) gn rfl<|Xm5 2 rfl (Ye1 rfl rfl) gn rfl<|Xm5 3 rfl (Xma rfl) gn rfl<|Xmc 4 rfl ?_
 have j1:∀ (x182:List Xm4) (h:Xsa x46 x182 r) (A183:Option Addr) (n184:Nat) (c185:Nat) (h186:Ow w.heap.size A183 n184 c185 x182),G (Xrf w F r) [.inBlock 0,.code Yb6] [(5,.pointer (some ⟨gb55,0,none⟩)),(9,.slice A183 n184 c185)] [.own (.slice A183 n184 c185) 39 7 n184 (x182.flatMap Xmd),.box gb55 104 [.int .i64 x46.sym,.string x46.field,.string x46.as]] [Sm w.heap.size F w [],St w []]:=by
  intro x182 h A183 n184 c185 h186
  unfold Xsa at h
  refine Xn5<|Xmb rfl<|Xmb rfl<|Xm6 rfl rfl<|Xm5 0 rfl (Xm8 rfl) gn rfl ?_
  obtain ⟨r190,hv191,h⟩:=h
  refine Xmr 1 rfl (Xmz [.slice A183 n184 c185] rfl Try.func65 rfl rfl rfl fun w187 hL188=>?_) gn
  have hp189:=pmI hL188 .n (.c 0 rfl (.c 1 rfl .n)) (by kernel_rfl)
  refine Calls.mono (Xtc w187 (Fl ([]:List Xmq)) x182 A183 n184 c185 (hL188.argO (dk:=Xml) hp189 [] rfl 0 rfl rfl h186 (me 0 rfl) (Cells.flat _)) (hL188.hFl hp189 (Xmt [] rfl)) (hL188.into hp189 _) r190 hv191) ?_
  rintro _ w197 ⟨A192,n193,c194,rfl,hM198,h195⟩
  have hL199:=hL188.call hp189 hM198
  refine ⟨_,_,_,rfl,hL199,?_⟩
  refine Xm5 2 rfl (Xn0 Xrh rfl (Ow.weak hL188.env.size h195).hq) gn rfl<|Xm5 3 rfl (Xm8 rfl) gn rfl<|Xmc 4 rfl<|Xn8 rfl<|Xqc rfl ?_
  have key2:∀ s,Xmi (fun (s:(List Xm4) × Int) o=>Xrl r190 x46 s.1 s.2 o) s r→(fun (s:(List Xm4) × Int)=>∀ (h209:Ow w.heap.size A183 n184 c185 s.1),G (Xrf w F r) [.code Yay,.inLoop Yay,.inBlock 3,.code Ye8] [(5,.pointer (some ⟨gb55,0,none⟩)),(9,.slice A183 n184 c185),(64,.slice A192 n193 c194),(65,.int .i64 (r190.length:Int)),(66,.int .i64 s.2)] [.own (.slice A192 n193 c194) 3 1 n193 (r190.flatMap (eI .i64)),.own (.slice A183 n184 c185) 39 7 n184 (s.1.flatMap Xmd),.box gb55 104 [.int .i64 x46.sym,.string x46.field,.string x46.as]] [Sm w.heap.size F w [],St w []]) s:=by
   intro s hs
   refine Xmi.ind (mot:=(fun (s:(List Xm4) × Int)=>∀ (h209:Ow w.heap.size A183 n184 c185 s.1),G (Xrf w F r) [.code Yay,.inLoop Yay,.inBlock 3,.code Ye8] [(5,.pointer (some ⟨gb55,0,none⟩)),(9,.slice A183 n184 c185),(64,.slice A192 n193 c194),(65,.int .i64 (r190.length:Int)),(66,.int .i64 s.2)] [.own (.slice A192 n193 c194) 3 1 n193 (r190.flatMap (eI .i64)),.own (.slice A183 n184 c185) 39 7 n184 (s.1.flatMap Xmd),.box gb55 104 [.int .i64 x46.sym,.string x46.field,.string x46.as]] [Sm w.heap.size F w [],St w []])) ?_ hs
   clear hs s
   intro s o1 h hO1
   obtain ⟨x208,x210⟩:=s
   show ∀ (h209:Ow w.heap.size A183 n184 c185 x208),G (Xrf w F r) [.code Yay,.inLoop Yay,.inBlock 3,.code Ye8] [(5,.pointer (some ⟨gb55,0,none⟩)),(9,.slice A183 n184 c185),(64,.slice A192 n193 c194),(65,.int .i64 (r190.length:Int)),(66,.int .i64 x210)] [.own (.slice A192 n193 c194) 3 1 n193 (r190.flatMap (eI .i64)),.own (.slice A183 n184 c185) 39 7 n184 (x208.flatMap Xmd),.box gb55 104 [.int .i64 x46.sym,.string x46.field,.string x46.as]] [Sm w.heap.size F w [],St w []]
   intro h209
   have h:Xrl r190 x46 x208 x210 o1:=h
   unfold Xrl at h
   refine Xmb rfl<|Xm6 rfl rfl<|Xm5 0 rfl (Xmn rfl rfl rfl) gn rfl<|Xmc 1 rfl<|Xmb rfl ?_
   by_cases hp218:x210 < (r190.length:Int)
   ·have h:=Xmh hp218 h
    refine Xn3 rfl _ rfl ((decide_eq_true hp218))<|Xn9 rfl<|Xmb rfl<|Xn8 rfl<|Xmb rfl<|Xm6 rfl rfl ?_
    obtain ⟨hb219,h⟩:=h
    refine Xm5 0 rfl (Xot Xq8 rfl rfl (Ow.weak hL188.env.size h195) hb219) gn rfl<|Xm5 1 rfl (Xq7 (.int .i64 (ix r190 x210)) 0 Xqt rfl rfl (Xsb (hlI .i64) hb219 rfl)) gn rfl<|Xm5 2 rfl (Xma rfl) gn rfl<|Xmc 3 rfl<|Xmb rfl<|Xm6 rfl rfl<|Xm5 0 rfl (Xm8 rfl) gn rfl<|Xm5 1 rfl (Xm8 rfl) gn rfl ?_
    obtain ⟨hb220,h⟩:=h
    refine Xm5 2 rfl (Xot Xrr rfl rfl h209 hb220) gn rfl<|Xm5 3 rfl (Xp5 Xyd rfl) gn rfl<|Xm5 4 rfl (Xq7 (.string ((ix x208 (ix r190 x210)).field)) 1 Xwi rfl rfl (Yab Xn7 hb220 rfl)) gn rfl<|Xm5 5 rfl (Ye1 rfl rfl) gn rfl<|Xmc 6 rfl ?_
    by_cases hp221:(ix x208 (ix r190 x210)).field=(⟨#[]⟩:ByteArray)
    ·have h:=Xmh hp221 h
     refine Xn3 rfl _ rfl ((Xzr hp221))<|Xm6 rfl rfl<|Xm5 0 rfl (Xm8 rfl) gn rfl<|Xm5 1 rfl (Xm8 rfl) gn rfl<|Xm5 2 rfl (Xmm Yfv rfl) gn rfl<|Xm5 3 rfl (Xmy 2 Xwi rfl rfl rfl) gn rfl<|Xm5 4 rfl (Xot Xrr rfl rfl h209 hb220) gn rfl<|Xm5 5 rfl (Xp5 Xyd rfl) gn rfl ?_
     obtain ⟨x222,hv223,h⟩:=h
     refine Xmr 6 rfl (Ya3 (enc:=Xmd) (o:=2) (z:=({ (ix x208 (ix r190 x210)) with field:=x46.field })) (vs:=[.string x46.field]) (i:=(ix r190 x210)) 1 Xn7 sz_9 rfl rfl rfl rfl rfl h209 hb220 rfl rfl rfl hv223 fun h224=>?_) gn
     refine Xmc 7 rfl<|Xn5<|Xm6 rfl rfl<|Xm5 0 rfl (Xmn rfl rfl rfl) gn rfl<|Xm5 1 rfl (Xm8 rfl) gn rfl<|Xmc 2 rfl<|Xnp ?_
     have ih:=Out.inl hO1 h
     exact Xng [0,1] (ih h224) ⟨rfl,rfl,rfl,rfl,rfl,trivial⟩ (.cons_cons _ (.cons_cons _ (.cons_cons _ (.slnil)))) rfl
    ·have h:=Xmg hp221 h
     refine Xmp rfl _ rfl ((Ya4 hp221))<|Xn9 rfl<|Xn5<|Xm6 rfl rfl<|Xm5 0 rfl (Xmn rfl rfl rfl) gn rfl<|Xm5 1 rfl (Xm8 rfl) gn rfl<|Xmc 2 rfl<|Xnp ?_
     have ih:=Out.inl hO1 h
     exact Xng [0,1] (ih h209) ⟨rfl,rfl,rfl,rfl,rfl,trivial⟩ (.cons_cons _ (.cons_cons _ (.cons_cons _ (.slnil)))) rfl
   ·have h:=Xmg hp218 h
    refine Xmp rfl _ rfl ((decide_eq_false hp218))<|Xpw [.code Ye8] rfl rfl<|Xmb rfl<|Xm6 rfl rfl<|Xm5 0 rfl (Xm8 rfl) gn rfl<|Xm5 1 rfl (Xma rfl) gn rfl<|Xmc 2 rfl ?_
    have h:=Out.inr hO1 h
    refine Xmu [.slice A183 n184 c185] rfl Try.func58 rfl (.tmp rfl (.nil)) fun wr hLr=>?_
    have hMr:=hLr.pkI (.c 1 rfl .n) (.c 0 rfl (.c 2 rfl .n)) (by kernel_rfl) (.c 1 rfl .n)
    show Xy6 w F  r (.returned (Xn4 [.slice A183 n184 c185])) wr
    rw [h]
    exact ⟨A183,n184,c185,rfl,hMr,h209⟩
  exact Xng [0,1] (key2 _ h h186) ⟨rfl,rfl,rfl,rfl,rfl,trivial⟩ (.cons_cons _ (.cons_cons _ (.cons_cons _ (.slnil)))) rfl
 by_cases hp70:x46.as=(⟨#[]⟩:ByteArray)
 ·have h:=Xmh hp70 h
  refine Xn3 rfl _ rfl ((Xzr hp70))<|Xm6 rfl rfl<|Xm5 0 rfl (Xqa [.string x1.name,.slice A2 n3 c4,.slice A6 n7 c8,.slice A10 n11 c12,.slice A14 n15 c16,.slice A18 n19 c20,.slice A22 n23 c24,.slice A26 n27 c28,.slice A30 n31 c32,.slice A34 n35 c36,.slice A38 n39 c40,.slice A42 n43 c44] 2 Xxu rfl rfl rfl rfl) gn rfl<|Xm5 1 rfl (Xmm Xxy rfl) gn rfl<|Xm5 2 rfl (Xmy 1 Xqt rfl rfl rfl) gn rfl<|Xm5 3 rfl (Xm8 rfl) gn rfl ?_
  obtain ⟨r228,hv229,h⟩:=h
  refine Xmr 4 rfl (Xmz [.agg #[.string x1.name,.slice A2 n3 c4,.slice A6 n7 c8,.slice A10 n11 c12,.slice A14 n15 c16,.slice A18 n19 c20,.slice A22 n23 c24,.slice A26 n27 c28,.slice A30 n31 c32,.slice A34 n35 c36,.slice A38 n39 c40,.slice A42 n43 c44],.int .i64 x46.sym,.slice A48 n49 c50] rfl Try.func33 rfl rfl rfl fun w225 hL226=>?_) gn
  have hp227:=pmI hL226 .n (.c 0 rfl (.c 1 rfl (.c 2 rfl .n))) (by kernel_rfl)
  refine Calls.mono (Xv0 w225 (Fl ([]:List Xmq)) x1 x46.sym x47 A2 n3 c4 A6 n7 c8 A10 n11 c12 A14 n15 c16 A18 n19 c20 A22 n23 c24 A26 n27 c28 A30 n31 c32 A34 n35 c36 A38 n39 c40 A42 n43 c44 A48 n49 c50 (Rw.mono h5 (hL226.toSt hp227 (me 1 rfl))) (Rw.mono h9 (hL226.toSt hp227 (me 1 rfl))) (Rw.mono h13 (hL226.toSt hp227 (me 1 rfl))) (Rw.mono h17 (hL226.toSt hp227 (me 1 rfl))) (Rw.mono h21 (hL226.toSt hp227 (me 1 rfl))) (Rw.mono h25 (hL226.toSt hp227 (me 1 rfl))) (Rw.mono h29 (hL226.toSt hp227 (me 1 rfl))) (Rw.mono h33 (hL226.toSt hp227 (me 1 rfl))) (Rw.mono h37 (hL226.toSt hp227 (me 1 rfl))) (Rw.mono h41 (hL226.toSt hp227 (me 1 rfl))) (Rw.mono h45 (hL226.toSt hp227 (me 1 rfl))) (Rw.mono h51 (hL226.toSt hp227 (me 1 rfl))) (hL226.hFl hp227 (Xmt [] rfl)) (hL226.into hp227 _) r228 hv229) ?_
  rintro _ w235 ⟨A230,n231,c232,rfl,hM236,h233⟩
  have hL237:=hL226.call hp227 hM236
  refine ⟨_,_,_,rfl,hL237,?_⟩
  refine Xm5 5 rfl (Xma rfl) gn rfl<|Xmc 6 rfl ?_
  exact Xng [0,1] (j1 r228 h A230 n231 c232 (Ow.weak hL226.env.size h233)) ⟨rfl,rfl,trivial⟩ (.cons_cons _ (.cons _ (.cons_cons _ (.cons _ (.slnil))))) rfl
 ·have h:=Xmg hp70 h
  refine Xmp rfl _ rfl ((Ya4 hp70))<|Xmb rfl ?_
  have j3:∀ (x256:Bool) (h:Xsc x46 r60 x52 x256 r) ,G (Xrf w F r) [.code q58c13,.inBlock 0,.code Yb6] [(3,.int .i64 x52),(5,.pointer (some ⟨gb55,0,none⟩)),(9,.slice A62 n63 c64),(43,.bool x256)] [.own (.slice A62 n63 c64) 39 7 n63 (r60.flatMap Xmd),.box gb55 104 [.int .i64 x46.sym,.string x46.field,.string x46.as]] [Sm w.heap.size F w [],St w []]:=by
   intro x256 h
   unfold Xsc at h
   by_cases hp257:x256=true
   ·have h:=Xmh hp257 h
    refine Xn3 rfl _ rfl (hp257)<|Xm6 rfl rfl<|Xm5 0 rfl (Xmm Xur rfl) gn rfl<|Xm5 1 rfl (Xmy 1 Xwi rfl rfl rfl) gn rfl<|Xm5 2 rfl (Xm8 rfl) gn rfl<|Xm5 3 rfl (Xm8 rfl) gn rfl ?_
    obtain ⟨r261,hv262,h⟩:=h
    refine Xmr 4 rfl (Xmz [.string x46.as,.slice A62 n63 c64,.int .i64 x52] rfl Try.func59 rfl rfl rfl fun w258 hL259=>?_) gn
    have hp260:=pmI hL259 .n (.c 0 rfl (.c 1 rfl .n)) (by kernel_rfl)
    refine Calls.mono (Xxq w258 (Fl ([]:List Xmq)) x46.as r60 x52 A62 n63 c64 (hL259.argO (dk:=Xml) hp260 [] rfl 0 rfl rfl (Ow.weak hL58.env.size h65) (me 0 rfl) (Cells.flat _)) (hL259.hFl hp260 (Xmt [] rfl)) (hL259.into hp260 _) r261 hv262) ?_
    rintro _ w268 ⟨A263,n264,c265,rfl,hM269,h266⟩
    have hL270:=hL259.call hp260 hM269
    refine ⟨_,_,_,rfl,hL270,?_⟩
    refine Xm5 5 rfl (Xma rfl) gn rfl<|Xmc 6 rfl ?_
    exact Xng [0,1] (j1 r261 h A263 n264 c265 (Ow.weak hL259.env.size h266)) ⟨rfl,rfl,trivial⟩ (.cons_cons _ (.cons _ (.cons_cons _ (.slnil)))) rfl
   ·have h:=Xmg hp257 h
    refine Xmp rfl _ rfl ((bf hp257))<|Xmb rfl<|Xm6 rfl rfl<|Xm5 0 rfl (Xm8 rfl) gn rfl ?_
    obtain ⟨r274,hv275,h⟩:=h
    refine Xmr 1 rfl (Xmz [.slice A62 n63 c64] rfl Try.func65 rfl rfl rfl fun w271 hL272=>?_) gn
    have hp273:=pmI hL272 .n (.c 0 rfl (.c 1 rfl .n)) (by kernel_rfl)
    refine Calls.mono (Xtc w271 (Fl ([]:List Xmq)) r60 A62 n63 c64 (hL272.argO (dk:=Xml) hp273 [] rfl 0 rfl rfl (Ow.weak hL58.env.size h65) (me 0 rfl) (Cells.flat _)) (hL272.hFl hp273 (Xmt [] rfl)) (hL272.into hp273 _) r274 hv275) ?_
    rintro _ w281 ⟨A276,n277,c278,rfl,hM282,h279⟩
    have hL283:=hL272.call hp273 hM282
    refine ⟨_,_,_,rfl,hL283,?_⟩
    refine Xm5 2 rfl (Xn0 Xrh rfl (Ow.weak hL272.env.size h279).hq) gn rfl<|Xm5 3 rfl (Xm8 rfl) gn rfl<|Xmc 4 rfl<|Xn8 rfl<|Xqc rfl ?_
    have key4:∀ s,Xmi (fun (s:(List Xm4) × Int) o=>Xri r274 x46 s.1 s.2 o) s r→(fun (s:(List Xm4) × Int)=>∀ (h298:Ow w.heap.size A62 n63 c64 s.1),G (Xrf w F r) [.code Yao,.inLoop Yao,.inBlock 1,.inBlock 0,.code Yb6] [(5,.pointer (some ⟨gb55,0,none⟩)),(9,.slice A62 n63 c64),(17,.slice A276 n277 c278),(18,.int .i64 (r274.length:Int)),(19,.int .i64 s.2)] [.own (.slice A276 n277 c278) 3 1 n277 (r274.flatMap (eI .i64)),.own (.slice A62 n63 c64) 39 7 n63 (s.1.flatMap Xmd),.box gb55 104 [.int .i64 x46.sym,.string x46.field,.string x46.as]] [Sm w.heap.size F w [],St w []]) s:=by
     intro s hs
     refine Xmi.ind (mot:=(fun (s:(List Xm4) × Int)=>∀ (h298:Ow w.heap.size A62 n63 c64 s.1),G (Xrf w F r) [.code Yao,.inLoop Yao,.inBlock 1,.inBlock 0,.code Yb6] [(5,.pointer (some ⟨gb55,0,none⟩)),(9,.slice A62 n63 c64),(17,.slice A276 n277 c278),(18,.int .i64 (r274.length:Int)),(19,.int .i64 s.2)] [.own (.slice A276 n277 c278) 3 1 n277 (r274.flatMap (eI .i64)),.own (.slice A62 n63 c64) 39 7 n63 (s.1.flatMap Xmd),.box gb55 104 [.int .i64 x46.sym,.string x46.field,.string x46.as]] [Sm w.heap.size F w [],St w []])) ?_ hs
     clear hs s
     intro s o1 h hO1
     obtain ⟨x297,x299⟩:=s
     show ∀ (h298:Ow w.heap.size A62 n63 c64 x297),G (Xrf w F r) [.code Yao,.inLoop Yao,.inBlock 1,.inBlock 0,.code Yb6] [(5,.pointer (some ⟨gb55,0,none⟩)),(9,.slice A62 n63 c64),(17,.slice A276 n277 c278),(18,.int .i64 (r274.length:Int)),(19,.int .i64 x299)] [.own (.slice A276 n277 c278) 3 1 n277 (r274.flatMap (eI .i64)),.own (.slice A62 n63 c64) 39 7 n63 (x297.flatMap Xmd),.box gb55 104 [.int .i64 x46.sym,.string x46.field,.string x46.as]] [Sm w.heap.size F w [],St w []]
     intro h298
     have h:Xri r274 x46 x297 x299 o1:=h
     unfold Xri at h
     refine Xmb rfl<|Xm6 rfl rfl<|Xm5 0 rfl (Xmn rfl rfl rfl) gn rfl<|Xmc 1 rfl<|Xmb rfl ?_
     by_cases hp312:x299 < (r274.length:Int)
     ·have h:=Xmh hp312 h
      refine Xn3 rfl _ rfl ((decide_eq_true hp312))<|Xn9 rfl<|Xmb rfl<|Xn8 rfl<|Xmb rfl<|Xm6 rfl rfl ?_
      obtain ⟨hb313,h⟩:=h
      refine Xm5 0 rfl (Xot Xq8 rfl rfl (Ow.weak hL272.env.size h279) hb313) gn rfl<|Xm5 1 rfl (Xq7 (.int .i64 (ix r274 x299)) 0 Xqt rfl rfl (Xsb (hlI .i64) hb313 rfl)) gn rfl<|Xm5 2 rfl (Xma rfl) gn rfl<|Xmc 3 rfl<|Xm6 rfl rfl<|Xm5 0 rfl (Xm8 rfl) gn rfl<|Xm5 1 rfl (Xm8 rfl) gn rfl<|Xm5 2 rfl (Xm8 rfl) gn rfl<|Xm5 3 rfl (Xm8 rfl) gn rfl<|Xm5 4 rfl (Xmm Xur rfl) gn rfl<|Xm5 5 rfl (Xmy 2 Xwi rfl rfl rfl) gn rfl ?_
      obtain ⟨hb314,h⟩:=h
      refine Xm5 6 rfl (Xot Xrr rfl rfl h298 hb314) gn rfl<|Xm5 7 rfl (Xp5 Ybs rfl) gn rfl ?_
      obtain ⟨x315,hv316,h⟩:=h
      refine Xmr 8 rfl (Ya3 (enc:=Xmd) (o:=0) (z:=({ (ix x297 (ix r274 x299)) with name:=x46.as })) (vs:=[.string x46.as]) (i:=(ix r274 x299)) 1 Xn7 sz_9 rfl rfl rfl rfl rfl h298 hb314 rfl rfl rfl hv316 fun h317=>?_) gn
      obtain ⟨hb318,h⟩:=h
      refine Xm5 9 rfl (Xot Xrr rfl rfl h317 hb318) gn rfl<|Xm5 10 rfl (Xp5 Ybu rfl) gn rfl ?_
      obtain ⟨x319,hv320,h⟩:=h
      refine Xmr 11 rfl (Ya3 (enc:=Xmd) (o:=1) (z:=({ (ix x315 (ix r274 x299)) with named:=true })) (vs:=[.bool true]) (i:=(ix r274 x299)) 1 Xn7 sz_4 rfl rfl rfl rfl rfl h317 hb318 rfl rfl rfl hv320 fun h321=>?_) gn
      refine Xmc 12 rfl<|Xn5<|Xm6 rfl rfl<|Xm5 0 rfl (Xmn rfl rfl rfl) gn rfl<|Xm5 1 rfl (Xm8 rfl) gn rfl<|Xmc 2 rfl<|Xnp ?_
      have ih:=Out.inl hO1 h
      exact Xng [0,1] (ih h321) ⟨rfl,rfl,rfl,rfl,rfl,trivial⟩ (.cons_cons _ (.cons_cons _ (.cons_cons _ (.slnil)))) rfl
     ·have h:=Xmg hp312 h
      refine Xmp rfl _ rfl ((decide_eq_false hp312))<|Xpw [.inBlock 0,.code Yb6] rfl rfl ?_
      obtain ⟨q322,hq323,h⟩:=h
      have hq323:=Out.inr hO1 hq323
      rw [← hq323] at h
      exact Xng [0,1] (j1 x297 h A62 n63 c64 h298) ⟨rfl,rfl,trivial⟩ (.cons _ (.cons_cons _ (.cons_cons _ (.slnil)))) rfl
    exact Xng [0,1] (key4 _ h (Ow.weak hL58.env.size h65)) ⟨rfl,rfl,rfl,rfl,rfl,trivial⟩ (.cons_cons _ (.cons_cons _ (.cons_cons _ (.slnil)))) rfl
  refine Xm6 rfl rfl<|Xm5 0 rfl (Xmm Xry rfl) gn rfl<|Xm5 1 rfl (Xqa [.slice A6 n7 c8,.slice A10 n11 c12,.slice A14 n15 c16] 2 Ycu rfl rfl rfl rfl) gn rfl<|Xm5 2 rfl (Xmm Xxy rfl) gn rfl<|Xm5 3 rfl (Xmy 1 Xqt rfl rfl rfl) gn rfl ?_
  obtain ⟨r327,hv328,h⟩:=h
  refine Xmr 4 rfl (Xmz [.agg #[.slice A6 n7 c8,.slice A10 n11 c12,.slice A14 n15 c16],.int .i64 x46.sym] rfl Try.func75 rfl rfl rfl fun w324 hL325=>?_) gn
  have hp326:=pmI hL325 .n (.c 0 rfl (.c 1 rfl (.c 2 rfl .n))) (by kernel_rfl)
  refine Calls.mono (Xwp w324 (Fl ([]:List Xmq)) x1.gram x46.sym A6 n7 c8 A10 n11 c12 A14 n15 c16 (Rw.mono h9 (hL325.toSt hp326 (me 1 rfl))) (Rw.mono h13 (hL325.toSt hp326 (me 1 rfl))) (Rw.mono h17 (hL325.toSt hp326 (me 1 rfl))) (hL325.hFl hp326 (Xmt [] rfl)) (hL325.into hp326 _) r327 hv328) ?_
  rintro _ w329 ⟨rfl,hM330⟩
  have hL331:=hL325.call hp326 hM330
  refine ⟨_,_,_,rfl,hL331,?_⟩
  refine Xm5 5 rfl (Xuv rfl) gn rfl<|Xm5 6 rfl (Xm8 rfl) gn rfl ?_
  by_cases hp332:r327=true
  ·have h:=Xmh hp332 h
   refine Xmx 50 rfl ((nf hp332))<|Xm9 7 rfl (ps 50 rfl rfl rfl)<|Xm9 8 rfl (ps 50 rfl rfl rfl)<|Xm9 9 rfl (ps 50 rfl rfl rfl)<|Xm9 10 rfl (ps 50 rfl rfl rfl)<|Xm9 11 rfl (ps 50 rfl rfl rfl)<|Xm9 12 rfl (ps 50 rfl rfl rfl)<|Xm5 13 rfl (Xmk (b:=false) rfl rfl) gn rfl<|Xm5 14 rfl (Xma rfl) gn rfl<|Xmc 15 rfl ?_
   exact Xng [0,1] (j3 false h) ⟨rfl,rfl,rfl,rfl,trivial⟩ (.cons_cons _ (.cons_cons _ (.cons _ (.slnil)))) rfl
  ·have h:=Xmg hp332 h
   refine Xmx 50 rfl ((nt (bf hp332)))<|Xm5 7 rfl (Xmm Xry rfl) (gy 50 rfl rfl) rfl<|Xm5 8 rfl (Xqa [.slice A6 n7 c8,.slice A10 n11 c12,.slice A14 n15 c16] 2 Ycu rfl rfl rfl rfl) (gy 50 rfl rfl) rfl<|Xm5 9 rfl (Xmm Xxy rfl) (gy 50 rfl rfl) rfl<|Xm5 10 rfl (Xmy 1 Xqt rfl rfl rfl) (gy 50 rfl rfl) rfl ?_
   obtain ⟨r336,hv337,h⟩:=h
   refine Xmr 11 rfl (Xmz [.agg #[.slice A6 n7 c8,.slice A10 n11 c12,.slice A14 n15 c16],.int .i64 x46.sym] rfl Try.func76 rfl rfl rfl fun w333 hL334=>?_) (gy 50 rfl rfl)
   have hp335:=pmI hL334 .n (.c 0 rfl (.c 1 rfl (.c 2 rfl .n))) (by kernel_rfl)
   refine Calls.mono (Yaw w333 (Fl ([]:List Xmq)) x1.gram x46.sym A6 n7 c8 A10 n11 c12 A14 n15 c16 (Rw.mono h9 (hL334.toSt hp335 (me 1 rfl))) (Rw.mono h13 (hL334.toSt hp335 (me 1 rfl))) (Rw.mono h17 (hL334.toSt hp335 (me 1 rfl))) (hL334.hFl hp335 (Xmt [] rfl)) (hL334.into hp335 _) r336 hv337) ?_
   rintro _ w338 ⟨rfl,hM339⟩
   have hL340:=hL334.call hp335 hM339
   refine ⟨_,_,_,rfl,hL340,?_⟩
   refine Xm5 12 rfl (Xuv rfl) (gy 50 rfl rfl) rfl<|Xm5 13 rfl (Xmk (b:=true) rfl rfl) gn rfl<|Xm5 14 rfl (Xma rfl) gn rfl<|Xmc 15 rfl ?_
   exact Xng [0,1] (j3 (!r336) h) ⟨rfl,rfl,rfl,rfl,trivial⟩ (.cons_cons _ (.cons_cons _ (.cons _ (.slnil)))) rfl
noncomputable abbrev q32c4:=Code.snd (Code.snd (Xo5 Try.f32))
noncomputable abbrev q32c6:=Code.snd (Code.fst (Code.snd (Xo5 Try.f32)))
noncomputable abbrev Ygv:=Code.snd (Code.snd q32c4)
noncomputable abbrev q32c16:=Code.snd (Code.fst (Code.snd q32c4))
noncomputable abbrev Yav:=Code.snd (Code.snd Ygv)
noncomputable abbrev Xze:=Code.fst (Code.fst (Code.snd (Code.fst (Code.snd Ygv))))
noncomputable abbrev q32c41:=Code.snd (Code.snd (Code.fst (Code.fst (Code.snd (Code.snd Xze)))))
noncomputable abbrev q32c49:=Code.snd Yav
noncomputable abbrev q32c51:=Code.snd (Code.fst Yav)
noncomputable abbrev q32c54:=Code.fst (Code.fst q32c51)
abbrev Xro (w:World) (F:Nat→Prop) (r:List Xm4):Ending→World→Prop:=fun e w'=>∃ A0:Option Addr,∃ n0:Nat,∃ c0:Nat,e=.returned (.slice A0 n0 c0)∧B.Loc w w' [.own (.slice A0 n0 c0) 39 7 n0 (r.flatMap Xmd)] [St w []]∧Ow w.heap.size A0 n0 c0 r
noncomputable abbrev Xrs (w:World) (F:Nat→Prop) (r:List Xm4):Cx:=⟨Try.prog,32,Try.f32,113,Xro w F  r,w⟩
theorem Xqp (w:World) (F:Nat→Prop) (x1:Xmw) (x46:Int) (x47:List (List Xm4)) (x52:List Int) (A2:Option Addr) (n3:Nat) (c4:Nat) (A6:Option Addr) (n7:Nat) (c8:Nat) (A10:Option Addr) (n11:Nat) (c12:Nat) (A14:Option Addr) (n15:Nat) (c16:Nat) (A18:Option Addr) (n19:Nat) (c20:Nat) (A22:Option Addr) (n23:Nat) (c24:Nat) (A26:Option Addr) (n27:Nat) (c28:Nat) (A30:Option Addr) (n31:Nat) (c32:Nat) (A34:Option Addr) (n35:Nat) (c36:Nat) (A38:Option Addr) (n39:Nat) (c40:Nat) (A42:Option Addr) (n43:Nat) (c44:Nat) (A48:Option Addr) (n49:Nat) (c50:Nat) (A53:Option Addr) (n54:Nat) (c55:Nat) (h5:Rw Xqh w (St w []).av A2 n3 c4 x1.modes) (h9:Rw Xnt w (St w []).av A6 n7 c8 x1.gram.terms) (h13:Rw Xpk w (St w []).av A10 n11 c12 x1.gram.syms) (h17:Rw Xos w (St w []).av A14 n15 c16 x1.gram.prods) (h21:Rw Xsf w (St w []).av A18 n19 c20 x1.rules) (h25:Rw (Kd.slice Xq1) w (St w []).av A22 n23 c24 x1.table.actions) (h29:Rw (Kd.slice (Xsu .i64)) w (St w []).av A26 n27 c28 x1.table.gotos) (h33:Rw Xq2 w (St w []).av A30 n31 c32 x1.paints) (h37:Rw Ybz w (St w []).av A34 n35 c36 x1.folds) (h41:Rw Xqi w (St w []).av A38 n39 c40 x1.marks) (h45:Rw Xpp w (St w []).av A42 n43 c44 x1.injects) (h51:Rw (Kd.slice Xml) w (St w []).av A48 n49 c50 x47) (h56:Rw (Xsu .i64) w (St w []).av A53 n54 c55 x52) (hF:∀ b,F b→b < w.heap.size∧∀ o ∈ ([]:List (List Nat)),b ∉ o) (hL0:B.Loc w w [] [Sm w.heap.size F w [],St w []]) (r:List Xm4) (h:Xr4 x1 x46 x47 x52 r):Calls Try.prog 32 #[.agg #[.string x1.name,.slice A2 n3 c4,.slice A6 n7 c8,.slice A10 n11 c12,.slice A14 n15 c16,.slice A18 n19 c20,.slice A22 n23 c24,.slice A26 n27 c28,.slice A30 n31 c32,.slice A34 n35 c36,.slice A38 n39 c40,.slice A42 n43 c44],.int .i64 x46,.slice A48 n49 c50,.slice A53 n54 c55] w (Xro w F  r):=by
 unfold Xr4 at h
 refine Xms (vs:=[.agg #[.string x1.name,.slice A2 n3 c4,.slice A6 n7 c8,.slice A10 n11 c12,.slice A14 n15 c16,.slice A18 n19 c20,.slice A22 n23 c24,.slice A26 n27 c28,.slice A30 n31 c32,.slice A34 n35 c36,.slice A38 n39 c40,.slice A42 n43 c44],.int .i64 x46,.slice A48 n49 c50,.slice A53 n54 c55]) 113 Try.func32 rfl Try.ntmps32 rfl hL0 ?_
 show G (Xrs w F r) _ _ _ _
 refine Xmb rfl<|Xm6 rfl rfl ?_
 refine Xmr 0 rfl (Xv5 [.string x1.name,.slice A2 n3 c4,.slice A6 n7 c8,.slice A10 n11 c12,.slice A14 n15 c16,.slice A18 n19 c20,.slice A22 n23 c24,.slice A26 n27 c28,.slice A30 n31 c32,.slice A34 n35 c36,.slice A38 n39 c40,.slice A42 n43 c44] rfl rfl rfl fun gb57=>?_) gn
 refine Xm5 1 rfl (Xma rfl) gn rfl<|Xmc 2 rfl<|Xmb rfl<|Xmb rfl ?_
 have j1:∀ (x61:Bool) (h:Xrz x46 x1 x47 x52 x61 r) ,G (Xrs w F r) [.code q32c6,.code q32c4] [(1,.int .i64 x46),(2,.slice A48 n49 c50),(3,.slice A53 n54 c55),(4,.pointer (some ⟨gb57,0,none⟩)),(22,.bool x61)] [.box gb57 58 [.string x1.name,.slice A2 n3 c4,.slice A6 n7 c8,.slice A10 n11 c12,.slice A14 n15 c16,.slice A18 n19 c20,.slice A22 n23 c24,.slice A26 n27 c28,.slice A30 n31 c32,.slice A34 n35 c36,.slice A38 n39 c40,.slice A42 n43 c44]] [Sm w.heap.size F w [],St w []]:=by
  intro x61 h
  unfold Xrz at h
  by_cases hp62:x61=true
  ·have h:=Xmh hp62 h
   refine Xn3 rfl _ rfl (hp62)<|Xmb rfl<|Xm6 rfl rfl<|Xm5 0 rfl (Xma rfl) gn rfl<|Xmc 1 rfl<|Xr7 39 7 ?_
   refine Xmu [.slice none 0 0] rfl Try.func32 rfl (.tmp rfl (.nil)) fun wr hLr=>?_
   have hMr:=hLr.pkI (.c 0 rfl .n) (.c 1 rfl .n) (by kernel_rfl) (.c 1 rfl .n)
   show Xro w F  r (.returned (Xn4 [.slice none 0 0])) wr
   rw [h]
   exact ⟨none,0,0,rfl,hMr,(Ow.nil (z:=w.heap.size))⟩
  ·have h:=Xmg hp62 h
   refine Xmp rfl _ rfl ((bf hp62))<|Xn9 rfl<|Xmb rfl<|Xm6 rfl rfl<|Xm5 0 rfl (Xmm Xry rfl) gn rfl<|Xm5 1 rfl (Xmm Ybm rfl) gn rfl<|Xm5 2 rfl (Xmy 0 ld_45 rfl rfl rfl) gn rfl<|Xm5 3 rfl (Xm8 rfl) gn rfl ?_
   obtain ⟨hb63,h⟩:=h
   obtain ⟨ce65,hK66,hr64⟩:=Rw.read (s:=St w []) h17 hb63
   obtain ⟨A67,n68,c69,rfl,h70⟩:=hK66
   refine Xm5 4 rfl (Xoc (s:=St w []) slE_45 rfl rfl h17 hb63) gn rfl<|Xm5 5 rfl (Xxv (St w []) ld_107 rfl hr64 rfl (me 1 rfl)) gn rfl ?_
   refine Xmr 6 rfl (Xov [.int .i64 0,.slice none 0 0] zr_107 rfl fun gb71=>?_) gn
   refine Xmr 7 rfl (Xp9 (vs:=[.int .i64 ((ix x1.gram.prods x46).lhs),.slice A67 n68 c69]) (cs':=[.int .i64 ((ix x1.gram.prods x46).lhs),.slice A67 n68 c69]) (M':=[.box gb71 107 [.int .i64 ((ix x1.gram.prods x46).lhs),.slice A67 n68 c69],.box gb57 58 [.string x1.name,.slice A2 n3 c4,.slice A6 n7 c8,.slice A10 n11 c12,.slice A14 n15 c16,.slice A18 n19 c20,.slice A22 n23 c24,.slice A26 n27 c28,.slice A30 n31 c32,.slice A34 n35 c36,.slice A38 n39 c40,.slice A42 n43 c44]]) 0 sz_107 rfl rfl rfl rfl rfl rfl rfl rfl rfl ?_) gn
   refine Xmc 8 rfl<|Xmb rfl<|Xmb rfl ?_
   have j2:∀ (x75:Bool) (h:Xs5 x1 x46 x47 x52 x75 r) ,G (Xrs w F r) [.code q32c16,.code Ygv] [(2,.slice A48 n49 c50),(3,.slice A53 n54 c55),(4,.pointer (some ⟨gb57,0,none⟩)),(9,.pointer (some ⟨gb71,0,none⟩)),(43,.bool x75)] [.box gb71 107 [.int .i64 ((ix x1.gram.prods x46).lhs),.slice A67 n68 c69],.box gb57 58 [.string x1.name,.slice A2 n3 c4,.slice A6 n7 c8,.slice A10 n11 c12,.slice A14 n15 c16,.slice A18 n19 c20,.slice A22 n23 c24,.slice A26 n27 c28,.slice A30 n31 c32,.slice A34 n35 c36,.slice A38 n39 c40,.slice A42 n43 c44]] [Sm w.heap.size F w [],St w []]:=by
    intro x75 h
    unfold Xs5 at h
    by_cases hp76:x75=true
    ·have h:=Xmh hp76 h
     refine Xn3 rfl _ rfl (hp76)<|Xmb rfl<|Xm6 rfl rfl<|Xm5 0 rfl (Xma rfl) gn rfl<|Xmc 1 rfl<|Xr7 39 7 ?_
     refine Xmu [.slice none 0 0] rfl Try.func32 rfl (.tmp rfl (.nil)) fun wr hLr=>?_
     have hMr:=hLr.pkI (.c 0 rfl .n) (.c 1 rfl (.c 2 rfl .n)) (by kernel_rfl) (.c 1 rfl .n)
     show Xro w F  r (.returned (Xn4 [.slice none 0 0])) wr
     rw [h]
     exact ⟨none,0,0,rfl,hMr,(Ow.nil (z:=w.heap.size))⟩
    ·have h:=Xmg hp76 h
     refine Xmp rfl _ rfl ((bf hp76))<|Xn9 rfl<|Xmb rfl<|Xm6 rfl rfl<|Xm5 0 rfl (Xma rfl) gn rfl<|Xmc 1 rfl<|Xmb rfl<|Xmb rfl<|Xm6 rfl rfl<|Xm5 0 rfl (Xmm Xu4 rfl) gn rfl<|Xm5 1 rfl (Xmy 0 Xxh rfl rfl rfl) gn rfl<|Xm5 2 rfl (Xn0 Xy5 rfl h70.hq) gn rfl ?_
     refine Xm5 3 rfl (Xm8 rfl) gn rfl<|Xmc 4 rfl<|Xn8 rfl<|Xqc rfl ?_
     have key3:∀ s,Xmi (fun (s:(List Xm4) × Int) o=>Xql x1 x46 x47 x52 s.1 s.2 o) s r→(fun (s:(List Xm4) × Int)=>∀ (A286:Option Addr) (n287:Nat) (c288:Nat) (h289:Ow w.heap.size A286 n287 c288 s.1),G (Xrs w F r) [.code Xze,.inLoop Xze,.inBlock 0,.code Yav] [(2,.slice A48 n49 c50),(3,.slice A53 n54 c55),(4,.pointer (some ⟨gb57,0,none⟩)),(9,.pointer (some ⟨gb71,0,none⟩)),(10,.slice A286 n287 c288),(45,.slice A67 n68 c69),(46,.int .i64 (((ix x1.gram.prods x46).rhs).length:Int)),(47,.int .i64 s.2)] [.own (.slice A286 n287 c288) 39 7 n287 (s.1.flatMap Xmd),.box gb71 107 [.int .i64 ((ix x1.gram.prods x46).lhs),.slice A67 n68 c69],.box gb57 58 [.string x1.name,.slice A2 n3 c4,.slice A6 n7 c8,.slice A10 n11 c12,.slice A14 n15 c16,.slice A18 n19 c20,.slice A22 n23 c24,.slice A26 n27 c28,.slice A30 n31 c32,.slice A34 n35 c36,.slice A38 n39 c40,.slice A42 n43 c44]] [Sm w.heap.size F w [],St w []]) s:=by
      intro s hs
      refine Xmi.ind (mot:=(fun (s:(List Xm4) × Int)=>∀ (A286:Option Addr) (n287:Nat) (c288:Nat) (h289:Ow w.heap.size A286 n287 c288 s.1),G (Xrs w F r) [.code Xze,.inLoop Xze,.inBlock 0,.code Yav] [(2,.slice A48 n49 c50),(3,.slice A53 n54 c55),(4,.pointer (some ⟨gb57,0,none⟩)),(9,.pointer (some ⟨gb71,0,none⟩)),(10,.slice A286 n287 c288),(45,.slice A67 n68 c69),(46,.int .i64 (((ix x1.gram.prods x46).rhs).length:Int)),(47,.int .i64 s.2)] [.own (.slice A286 n287 c288) 39 7 n287 (s.1.flatMap Xmd),.box gb71 107 [.int .i64 ((ix x1.gram.prods x46).lhs),.slice A67 n68 c69],.box gb57 58 [.string x1.name,.slice A2 n3 c4,.slice A6 n7 c8,.slice A10 n11 c12,.slice A14 n15 c16,.slice A18 n19 c20,.slice A22 n23 c24,.slice A26 n27 c28,.slice A30 n31 c32,.slice A34 n35 c36,.slice A38 n39 c40,.slice A42 n43 c44]] [Sm w.heap.size F w [],St w []])) ?_ hs
      clear hs s
      intro s o1 h hO1
      obtain ⟨x285,x290⟩:=s
      show ∀ (A286:Option Addr) (n287:Nat) (c288:Nat) (h289:Ow w.heap.size A286 n287 c288 x285),G (Xrs w F r) [.code Xze,.inLoop Xze,.inBlock 0,.code Yav] [(2,.slice A48 n49 c50),(3,.slice A53 n54 c55),(4,.pointer (some ⟨gb57,0,none⟩)),(9,.pointer (some ⟨gb71,0,none⟩)),(10,.slice A286 n287 c288),(45,.slice A67 n68 c69),(46,.int .i64 (((ix x1.gram.prods x46).rhs).length:Int)),(47,.int .i64 x290)] [.own (.slice A286 n287 c288) 39 7 n287 (x285.flatMap Xmd),.box gb71 107 [.int .i64 ((ix x1.gram.prods x46).lhs),.slice A67 n68 c69],.box gb57 58 [.string x1.name,.slice A2 n3 c4,.slice A6 n7 c8,.slice A10 n11 c12,.slice A14 n15 c16,.slice A18 n19 c20,.slice A22 n23 c24,.slice A26 n27 c28,.slice A30 n31 c32,.slice A34 n35 c36,.slice A38 n39 c40,.slice A42 n43 c44]] [Sm w.heap.size F w [],St w []]
      intro A286 n287 c288 h289
      have h:Xql x1 x46 x47 x52 x285 x290 o1:=h
      unfold Xql at h
      refine Xmb rfl<|Xm6 rfl rfl<|Xm5 0 rfl (Xmn rfl rfl rfl) gn rfl<|Xmc 1 rfl<|Xmb rfl ?_
      by_cases hp475:x290 < (((ix x1.gram.prods x46).rhs).length:Int)
      ·have h:=Xmh hp475 h
       refine Xn3 rfl _ rfl ((decide_eq_true hp475))<|Xn9 rfl<|Xmb rfl<|Xn8 rfl<|Xmb rfl<|Xm6 rfl rfl<|Xm5 0 rfl (Xm8 rfl) gn rfl ?_
       obtain ⟨hb476,h⟩:=h
       have hr477:=Rw.readF (s:=St w []) (hl:=Xz7) (h1:=Xzc) h70 hb476
       refine Xm5 1 rfl (Xoc (s:=St w []) Yhf rfl rfl h70 hb476) gn rfl<|Xm5 2 rfl (Xxv (St w []) Ygn rfl hr477 rfl (me 1 rfl)) gn rfl ?_
       refine Xmr 3 rfl (Xov [.int .i64 0,.string (⟨#[]⟩:ByteArray),.string (⟨#[]⟩:ByteArray)] zr_104 rfl fun gb478=>?_) gn
       refine Xm5 4 rfl (Xma rfl) gn rfl ?_
       refine Xmr 5 rfl (Xp9 (vs:=[.int .i64 ((ix ((ix x1.gram.prods x46).rhs) x290).sym),.string ((ix ((ix x1.gram.prods x46).rhs) x290).field),.string ((ix ((ix x1.gram.prods x46).rhs) x290).as)]) (cs':=[.int .i64 ((ix ((ix x1.gram.prods x46).rhs) x290).sym),.string ((ix ((ix x1.gram.prods x46).rhs) x290).field),.string ((ix ((ix x1.gram.prods x46).rhs) x290).as)]) (M':=[.box gb478 104 [.int .i64 ((ix ((ix x1.gram.prods x46).rhs) x290).sym),.string ((ix ((ix x1.gram.prods x46).rhs) x290).field),.string ((ix ((ix x1.gram.prods x46).rhs) x290).as)],.own (.slice A286 n287 c288) 39 7 n287 (x285.flatMap Xmd),.box gb71 107 [.int .i64 ((ix x1.gram.prods x46).lhs),.slice A67 n68 c69],.box gb57 58 [.string x1.name,.slice A2 n3 c4,.slice A6 n7 c8,.slice A10 n11 c12,.slice A14 n15 c16,.slice A18 n19 c20,.slice A22 n23 c24,.slice A26 n27 c28,.slice A30 n31 c32,.slice A34 n35 c36,.slice A38 n39 c40,.slice A42 n43 c44]]) 0 sz_104 rfl rfl rfl rfl rfl rfl rfl rfl rfl ?_) gn
       refine Xmc 6 rfl<|Xmb rfl<|Xmb rfl<|Xm6 rfl rfl<|Xm5 0 rfl (Xm8 rfl) gn rfl<|Xm5 1 rfl (Xm8 rfl) gn rfl ?_
       obtain ⟨hb480,h⟩:=h
       obtain ⟨ce482,hK483,hr481⟩:=Rw.read (s:=St w []) h51 hb480
       obtain ⟨A484,n485,c486,rfl,h487⟩:=hK483
       refine Xm5 2 rfl (Xoc (s:=St w []) Xug rfl rfl h51 hb480) gn rfl<|Xm5 3 rfl (Xpo (kk:=(x290:Int).toNat * 1) (j:=0) (St w []) Xw3 rfl hr481 rfl (me 1 rfl)) gn rfl ?_
       obtain ⟨r491,hv492,h⟩:=h
       refine Xmr 4 rfl (Xmz [.slice A484 n485 c486] rfl Try.func37 rfl rfl rfl fun w488 hL489=>?_) gn
       have hp490:=pmI hL489 .n (.c 0 rfl (.c 1 rfl (.c 2 rfl (.c 3 rfl .n)))) (by kernel_rfl)
       refine Calls.mono (Xx1 w488 (Fl ([]:List Xmq)) (ix x47 x290) A484 n485 c486 (Rw.mono h487 (hL489.toSt hp490 (me 1 rfl))) (hL489.hFl hp490 (Xmt [] rfl)) (hL489.into hp490 _) r491 hv492) ?_
       rintro _ w493 ⟨rfl,hM494⟩
       have hL495:=hL489.call hp490 hM494
       refine ⟨_,_,_,rfl,hL495,?_⟩
       refine Xm5 5 rfl (Xmn rfl rfl rfl) gn rfl<|Xmc 6 rfl ?_
       by_cases hp496:r491 < 0
       ·have h:=Xmh hp496 h
        refine Xn3 rfl _ rfl ((decide_eq_true hp496))<|Xmb rfl<|Xm6 rfl rfl<|Xm5 0 rfl (Xma rfl) gn rfl<|Xmc 1 rfl<|Xr7 39 7 ?_
        have h:=Out.inr hO1 h
        refine Xmu [.slice none 0 0] rfl Try.func32 rfl (.tmp rfl (.nil)) fun wr hLr=>?_
        have hMr:=hLr.pkI (.c 0 rfl .n) (.c 1 rfl (.c 2 rfl (.c 3 rfl (.c 4 rfl .n)))) (by kernel_rfl) (.c 1 rfl .n)
        show Xro w F  r (.returned (Xn4 [.slice none 0 0])) wr
        rw [h]
        exact ⟨none,0,0,rfl,hMr,(Ow.nil (z:=w.heap.size))⟩
       ·have h:=Xmg hp496 h
        refine Xmp rfl _ rfl ((decide_eq_false hp496))<|Xn9 rfl ?_
        obtain ⟨hb504,h⟩:=h
        obtain ⟨r509,hv510,h⟩:=h
        obtain ⟨x522,hv523,h⟩:=h
        obtain ⟨hb524,h⟩:=h
        have hns:Region.noSelect (Code.ops q32c41)=true:=by kernel_rfl
        refine Xqx [13,14] 15 rfl rfl mix rfl (.c 0 rfl (.c 1 rfl .n))<|wfv 0 rfl (Xm8 rfl) gn hns (by kernel_rfl)<|wfv 1 rfl (Xqa [.string x1.name,.slice A2 n3 c4,.slice A6 n7 c8,.slice A10 n11 c12,.slice A14 n15 c16,.slice A18 n19 c20,.slice A22 n23 c24,.slice A26 n27 c28,.slice A30 n31 c32,.slice A34 n35 c36,.slice A38 n39 c40,.slice A42 n43 c44] 3 Xxu rfl rfl rfl rfl) gn hns (by kernel_rfl)<|wfv 2 rfl (Xqa [.int .i64 ((ix ((ix x1.gram.prods x46).rhs) x290).sym),.string ((ix ((ix x1.gram.prods x46).rhs) x290).field),.string ((ix ((ix x1.gram.prods x46).rhs) x290).as)] 0 Ygn rfl rfl rfl rfl) gn hns (by kernel_rfl)<|wfv 3 rfl (Xm8 rfl) gn hns (by kernel_rfl)<|wfv 4 rfl (Xm8 rfl) gn hns (by kernel_rfl) ?_
        obtain ⟨ce557,hK558,hr556⟩:=Rw.read (s:=St w []) h51 hb480
        obtain ⟨A559,n560,c561,rfl,h562⟩:=hK558
        refine wfv 5 rfl (Xoc (s:=St w []) Xug rfl rfl h51 hb480) gn hns (by kernel_rfl)<|wfv 6 rfl (Xpo (kk:=(x290:Int).toNat * 1) (j:=0) (St w []) Xw3 rfl hr556 rfl (me 1 rfl)) gn hns (by kernel_rfl)<|wfv 7 rfl (Xm8 rfl) gn hns (by kernel_rfl)<|wfv 8 rfl (Xm8 rfl) gn hns (by kernel_rfl)<|wfv 9 rfl (Xmn rfl rfl rfl) gn hns (by kernel_rfl) ?_
        have hr563:=Rw.readF (s:=St w []) (hl:=(hlI .i64)) (h1:=(Xqo .i64)) h56 hb504
        refine wfv 10 rfl (Xoc (s:=St w []) Xq8 rfl rfl h56 hb504) gn hns (by kernel_rfl)<|wfv 11 rfl (Xpo (kk:=(w64 (x290 + 1):Int).toNat * 1) (j:=0) (St w []) Xqt rfl hr563 rfl (me 1 rfl)) gn hns (by kernel_rfl) ?_
        refine Xnk [12] (by kernel_rfl) rfl ⟨Xqy 12 rfl gn rfl (Xmz [.agg #[.string x1.name,.slice A2 n3 c4,.slice A6 n7 c8,.slice A10 n11 c12,.slice A14 n15 c16,.slice A18 n19 c20,.slice A22 n23 c24,.slice A26 n27 c28,.slice A30 n31 c32,.slice A34 n35 c36,.slice A38 n39 c40,.slice A42 n43 c44],.agg #[.int .i64 ((ix ((ix x1.gram.prods x46).rhs) x290).sym),.string ((ix ((ix x1.gram.prods x46).rhs) x290).field),.string ((ix ((ix x1.gram.prods x46).rhs) x290).as)],.slice A559 n560 c561,.int .i64 (ix x52 (w64 (x290 + 1)))] rfl Try.func58 rfl rfl rfl fun w574 hL575=>?_),trivial⟩
        have hp576:=pmI hL575 .n (.c 0 rfl (.c 1 rfl (.c 2 rfl (.c 3 rfl .n)))) (by kernel_rfl)
        refine Calls.mono (Ybj w574 (Fl ([]:List Xmq)) x1 (ix ((ix x1.gram.prods x46).rhs) x290) (ix x47 x290) (ix x52 (w64 (x290 + 1))) A2 n3 c4 A6 n7 c8 A10 n11 c12 A14 n15 c16 A18 n19 c20 A22 n23 c24 A26 n27 c28 A30 n31 c32 A34 n35 c36 A38 n39 c40 A42 n43 c44 A559 n560 c561 (Rw.mono h5 (hL575.toSt hp576 (me 1 rfl))) (Rw.mono h9 (hL575.toSt hp576 (me 1 rfl))) (Rw.mono h13 (hL575.toSt hp576 (me 1 rfl))) (Rw.mono h17 (hL575.toSt hp576 (me 1 rfl))) (Rw.mono h21 (hL575.toSt hp576 (me 1 rfl))) (Rw.mono h25 (hL575.toSt hp576 (me 1 rfl))) (Rw.mono h29 (hL575.toSt hp576 (me 1 rfl))) (Rw.mono h33 (hL575.toSt hp576 (me 1 rfl))) (Rw.mono h37 (hL575.toSt hp576 (me 1 rfl))) (Rw.mono h41 (hL575.toSt hp576 (me 1 rfl))) (Rw.mono h45 (hL575.toSt hp576 (me 1 rfl))) (Rw.mono h562 (hL575.toSt hp576 (me 1 rfl))) (hL575.hFl hp576 (Xmt [] rfl)) (hL575.into hp576 _) r509 hv510) ?_
        rintro _ w581 ⟨A577,n578,c579,rfl,hM582,h580⟩
        have hL583:=hL575.call hp576 hM582
        refine ⟨_,_,_,rfl,hL583,?_⟩
        refine ⟨Xmt [1,2,3,4] rfl,Xmt [0,1] rfl,?_⟩
        refine Xnk [13] (by kernel_rfl) rfl ⟨Xyr 13 rfl gn rfl (Xs7 (zs:=x522) (cells':=x522.flatMap Xmd) 2 Yb7 rfl rfl rfl h289 (Nat.le_refl _) (Src.ownF (hl:=Xn7) (h1:=Xny) 0 rfl (Ow.weak hL575.env.size h580)) (by rw [hv523,List.flatMap_append] <;> rfl) (Xp6 hv523 (Ow.weak hL575.env.size h580).hq) hb524 rfl rfl fun A584 c585 h586=>?_),trivial⟩
        unfold NxL
        refine Xnk [14] (by kernel_rfl) rfl ⟨Xyr 14 rfl gn rfl (Ya1 (Xma rfl) rfl ?_),trivial⟩
        unfold NxL
        refine Xq0 (by kernel_rfl)<|Xn5<|Xm6 rfl rfl<|Xm5 0 rfl (Xmn rfl rfl rfl) gn rfl<|Xm5 1 rfl (Xm8 rfl) gn rfl<|Xmc 2 rfl<|Xnp ?_
        have ih:=Out.inl hO1 h
        exact Xng [0,1] (ih A584 (n287 + n578) c585 h586) ⟨rfl,rfl,rfl,rfl,rfl,rfl,rfl,rfl,trivial⟩ (.cons _ (.cons _ (.cons_cons _ (.cons_cons _ (.cons_cons _ (.slnil)))))) rfl
      ·have h:=Xmg hp475 h
       refine Xmp rfl _ rfl ((decide_eq_false hp475))<|Xpw [.code Yav] rfl rfl<|Xmb rfl<|Xmb rfl ?_
       have j4:∀ (x592:Bool) (h:Xr9 x1 x46 x52 x285 x592 o1) ,G (Xrs w F r) [.code q32c51,.code q32c49] [(3,.slice A53 n54 c55),(4,.pointer (some ⟨gb57,0,none⟩)),(9,.pointer (some ⟨gb71,0,none⟩)),(10,.slice A286 n287 c288),(95,.bool x592)] [.own (.slice A286 n287 c288) 39 7 n287 (x285.flatMap Xmd),.box gb71 107 [.int .i64 ((ix x1.gram.prods x46).lhs),.slice A67 n68 c69],.box gb57 58 [.string x1.name,.slice A2 n3 c4,.slice A6 n7 c8,.slice A10 n11 c12,.slice A14 n15 c16,.slice A18 n19 c20,.slice A22 n23 c24,.slice A26 n27 c28,.slice A30 n31 c32,.slice A34 n35 c36,.slice A38 n39 c40,.slice A42 n43 c44]] [Sm w.heap.size F w [],St w []]:=by
        intro x592 h
        unfold Xr9 at h
        by_cases hp593:x592=true
        ·have h:=Xmh hp593 h
         refine Xn3 rfl _ rfl (hp593)<|Xmb rfl ?_
         obtain ⟨hb594,h⟩:=h
         obtain ⟨hb596,h⟩:=h
         obtain ⟨r601,hv602,h⟩:=h
         have hns:Region.noSelect (Code.ops q32c54)=true:=by kernel_rfl
         refine Xqx [] 17 rfl rfl mix rfl (.c 0 rfl (.c 1 rfl .n))<|wfv 0 rfl (Xmm Xry rfl) gn hns rfl<|wfv 1 rfl (Xmm Xuj rfl) gn hns rfl<|wfv 2 rfl (Xmy 2 Xyw rfl rfl rfl) gn hns rfl<|wfv 3 rfl (Xmm Xuw rfl) gn hns rfl<|wfv 4 rfl (Xmy 1 Xqt rfl rfl rfl) gn hns rfl ?_
         have hr633:=Rw.readF (s:=St w []) (hl:=Xtv) (h1:=Xtw) h13 hb594
         refine wfv 5 rfl (Xoc (s:=St w []) Yae rfl rfl h13 hb594) gn hns rfl<|wfv 6 rfl (Xp5 Yh9 rfl) gn hns rfl<|wfv 7 rfl (Xpo (kk:=((ix x1.gram.prods x46).lhs:Int).toNat * 2) (j:=0) (St w []) Xwi rfl hr633 rfl (me 1 rfl)) gn hns rfl<|wfv 8 rfl (Xm8 rfl) gn hns rfl<|wfv 9 rfl (Xm8 rfl) gn hns rfl<|wfv 10 rfl (Xmm Xu4 rfl) gn hns rfl<|wfv 11 rfl (Xmy 1 Xxh rfl rfl rfl) gn hns rfl<|wfv 12 rfl (Xn0 Xy5 rfl h70.hq) gn hns rfl ?_
         have hr634:=Rw.readF (s:=St w []) (hl:=(hlI .i64)) (h1:=(Xqo .i64)) h56 hb596
         refine wfv 13 rfl (Xoc (s:=St w []) Xq8 rfl rfl h56 hb596) gn hns rfl<|wfv 14 rfl (Xpo (kk:=((((ix x1.gram.prods x46).rhs).length:Int):Int).toNat * 1) (j:=0) (St w []) Xqt rfl hr634 rfl (me 1 rfl)) gn hns rfl ?_
         refine Xnk [15] (by kernel_rfl) rfl ⟨Xqy 15 rfl gn rfl (Xmz [.string ((ix x1.gram.syms ((ix x1.gram.prods x46).lhs)).name),.slice A286 n287 c288,.int .i64 (ix x52 (((ix x1.gram.prods x46).rhs).length:Int))] rfl Try.func59 rfl rfl rfl fun w645 hL646=>?_),trivial⟩
         have hp647:=pmI hL646 .n (.c 0 rfl (.c 1 rfl (.c 2 rfl .n))) (by kernel_rfl)
         refine Calls.mono (Xxq w645 (Fl ([]:List Xmq)) ((ix x1.gram.syms ((ix x1.gram.prods x46).lhs)).name) x285 (ix x52 (((ix x1.gram.prods x46).rhs).length:Int)) A286 n287 c288 (hL646.argO (dk:=Xml) hp647 [] rfl 0 rfl rfl h289 (me 0 rfl) (Cells.flat _)) (hL646.hFl hp647 (Xmt [] rfl)) (hL646.into hp647 _) r601 hv602) ?_
         rintro _ w652 ⟨A648,n649,c650,rfl,hM653,h651⟩
         have hL654:=hL646.call hp647 hM653
         refine ⟨_,_,_,rfl,hL654,?_⟩
         refine ⟨Xmt [1,2,3] rfl,Xmt [0,1] rfl,?_⟩
         refine wfv 16 rfl (Xma rfl) gn hns rfl<|Xq0 (by kernel_rfl) ?_
         have h:=Out.inr hO1 h
         refine Xmu [.slice A648 n649 c650] rfl Try.func32 rfl (.tmp rfl (.nil)) fun wr hLr=>?_
         have hMr:=hLr.pkI (.c 0 rfl .n) (.c 1 rfl (.c 2 rfl (.c 3 rfl .n))) (by kernel_rfl) (.c 1 rfl .n)
         show Xro w F  r (.returned (Xn4 [.slice A648 n649 c650])) wr
         rw [h]
         exact ⟨A648,n649,c650,rfl,hMr,(Ow.weak hL646.env.size h651)⟩
        ·have h:=Xmg hp593 h
         refine Xmp rfl _ rfl ((bf hp593))<|Xn9 rfl<|Xmb rfl<|Xm6 rfl rfl<|Xm5 0 rfl (Xm8 rfl) gn rfl<|Xm5 1 rfl (Xma rfl) gn rfl<|Xmc 2 rfl ?_
         have h:=Out.inr hO1 h
         refine Xmu [.slice A286 n287 c288] rfl Try.func32 rfl (.tmp rfl (.nil)) fun wr hLr=>?_
         have hMr:=hLr.pkI (.c 0 rfl .n) (.c 1 rfl (.c 2 rfl .n)) (by kernel_rfl) (.c 1 rfl .n)
         show Xro w F  r (.returned (Xn4 [.slice A286 n287 c288])) wr
         rw [h]
         exact ⟨A286,n287,c288,rfl,hMr,h289⟩
       refine Xm6 rfl rfl<|Xm5 0 rfl (Xmm Xuw rfl) gn rfl<|Xm5 1 rfl (Xmy 1 Xqt rfl rfl rfl) gn rfl<|Xm5 2 rfl (Xmn rfl rfl rfl) gn rfl<|Xm5 3 rfl (Xm8 rfl) gn rfl ?_
       by_cases hp655:(ix x1.gram.prods x46).lhs≥0
       ·have h:=Xmh hp655 h
        refine Xmx 76 rfl ((decide_eq_true hp655))<|Xm5 4 rfl (Xmm Xuw rfl) (gy 76 rfl rfl) rfl<|Xm5 5 rfl (Xmy 1 Xqt rfl rfl rfl) (gy 76 rfl rfl) rfl<|Xm5 6 rfl (Xmm Xry rfl) (gy 76 rfl rfl) rfl<|Xm5 7 rfl (Xmm Xuj rfl) (gy 76 rfl rfl) rfl<|Xm5 8 rfl (Xmy 2 Xyw rfl rfl rfl) (gy 76 rfl rfl) rfl<|Xm5 9 rfl (Xn0 un_44 rfl h13.hq) (gy 76 rfl rfl) rfl<|Xm5 10 rfl (Xmn rfl rfl rfl) (gy 76 rfl rfl) rfl<|Xm5 11 rfl (Xmk (b:=true) rfl rfl) gn rfl<|Xm5 12 rfl (Xm8 rfl) gn rfl ?_
        by_cases hp656:(ix x1.gram.prods x46).lhs < (x1.gram.syms.length:Int)
        ·have h:=Xmh hp656 h
         refine Xmx 85 rfl ((decide_eq_true hp656))<|Xm5 13 rfl (Xmm Xry rfl) (gy 85 rfl rfl) rfl<|Xm5 14 rfl (Xmm Xuj rfl) (gy 85 rfl rfl) rfl<|Xm5 15 rfl (Xmy 2 Xyw rfl rfl rfl) (gy 85 rfl rfl) rfl<|Xm5 16 rfl (Xmm Xuw rfl) (gy 85 rfl rfl) rfl<|Xm5 17 rfl (Xmy 1 Xqt rfl rfl rfl) (gy 85 rfl rfl) rfl ?_
         obtain ⟨hb657,h⟩:=h
         have hr658:=Rw.readF (s:=St w []) (hl:=Xtv) (h1:=Xtw) h13 hb657
         refine Xm5 18 rfl (Xoc (s:=St w []) Yae rfl rfl h13 hb657) (gy 85 rfl rfl) rfl<|Xm5 19 rfl (Xp5 Ybr rfl) (gy 85 rfl rfl) rfl<|Xm5 20 rfl (Xpo (kk:=((ix x1.gram.prods x46).lhs:Int).toNat * 2) (j:=1) (St w []) ld_72 rfl hr658 rfl (me 1 rfl)) (gy 85 rfl rfl) rfl<|Xm5 21 rfl (Xmn rfl rfl rfl) (gy 85 rfl rfl) rfl<|Xm5 22 rfl (Xmk (b:=true) rfl rfl) gn rfl<|Xmc 23 rfl ?_
         exact Xng [0,1] (j4 (((ix x1.gram.syms ((ix x1.gram.prods x46).lhs)).kind) == 1) h) ⟨rfl,rfl,rfl,rfl,rfl,trivial⟩ (.cons_cons _ (.cons_cons _ (.cons_cons _ (.slnil)))) rfl
        ·have h:=Xmg hp656 h
         refine Xmx 85 rfl ((decide_eq_false hp656))<|Xm9 13 rfl (ps 85 rfl rfl rfl)<|Xm9 14 rfl (ps 85 rfl rfl rfl)<|Xm9 15 rfl (ps 85 rfl rfl rfl)<|Xm9 16 rfl (ps 85 rfl rfl rfl)<|Xm9 17 rfl (ps 85 rfl rfl rfl)<|Xm9 18 rfl (ps 85 rfl rfl rfl)<|Xm9 19 rfl (ps 85 rfl rfl rfl)<|Xm9 20 rfl (ps 85 rfl rfl rfl)<|Xm9 21 rfl (ps 85 rfl rfl rfl)<|Xm5 22 rfl (Xmk (b:=false) rfl rfl) gn rfl<|Xmc 23 rfl ?_
         exact Xng [0,1] (j4 false h) ⟨rfl,rfl,rfl,rfl,rfl,trivial⟩ (.cons_cons _ (.cons_cons _ (.cons_cons _ (.slnil)))) rfl
       ·have h:=Xmg hp655 h
        refine Xmx 76 rfl ((decide_eq_false hp655))<|Xm9 4 rfl (ps 76 rfl rfl rfl)<|Xm9 5 rfl (ps 76 rfl rfl rfl)<|Xm9 6 rfl (ps 76 rfl rfl rfl)<|Xm9 7 rfl (ps 76 rfl rfl rfl)<|Xm9 8 rfl (ps 76 rfl rfl rfl)<|Xm9 9 rfl (ps 76 rfl rfl rfl)<|Xm9 10 rfl (ps 76 rfl rfl rfl)<|Xm5 11 rfl (Xmk (b:=false) rfl rfl) gn rfl<|Xm5 12 rfl (Xm8 rfl) gn rfl<|Xm9 13 rfl (ps 85 rfl rfl rfl)<|Xm9 14 rfl (ps 85 rfl rfl rfl) ?_
        refine Xm9 15 rfl (ps 85 rfl rfl rfl)<|Xm9 16 rfl (ps 85 rfl rfl rfl)<|Xm9 17 rfl (ps 85 rfl rfl rfl)<|Xm9 18 rfl (ps 85 rfl rfl rfl)<|Xm9 19 rfl (ps 85 rfl rfl rfl)<|Xm9 20 rfl (ps 85 rfl rfl rfl)<|Xm9 21 rfl (ps 85 rfl rfl rfl)<|Xm5 22 rfl (Xmk (b:=false) rfl rfl) gn rfl<|Xmc 23 rfl ?_
        exact Xng [0,1] (j4 false h) ⟨rfl,rfl,rfl,rfl,rfl,trivial⟩ (.cons_cons _ (.cons_cons _ (.cons_cons _ (.slnil)))) rfl
     refine Xr7 39 7 ?_
     exact Xng [0,1] (key3 _ h none 0 0 (Ow.nil (z:=w.heap.size))) ⟨rfl,rfl,rfl,rfl,rfl,rfl,rfl,rfl,trivial⟩ (.cons_cons _ (.cons_cons _ (.cons_cons _ (.slnil)))) rfl
   refine Xm6 rfl rfl<|Xm5 0 rfl (Xm8 rfl) gn rfl<|Xm5 1 rfl (Xn0 Ya5 rfl h51.hq) gn rfl<|Xm5 2 rfl (Xmm Xu4 rfl) gn rfl<|Xm5 3 rfl (Xmy 0 Xxh rfl rfl rfl) gn rfl<|Xm5 4 rfl (Xn0 Xy5 rfl h70.hq) gn rfl<|Xm5 5 rfl (Xmn rfl rfl rfl) gn rfl<|Xm5 6 rfl (Xm8 rfl) gn rfl ?_
   by_cases hp659:(x47.length:Int)=(((ix x1.gram.prods x46).rhs).length:Int)
   ·have h:=Xmh hp659 h
    refine Xmx 35 rfl ((eqib hp659))<|Xm5 7 rfl (Xm8 rfl) (gy 35 rfl rfl) rfl<|Xm5 8 rfl (Xn0 Xrh rfl h56.hq) (gy 35 rfl rfl) rfl<|Xm5 9 rfl (Xmm Xu4 rfl) (gy 35 rfl rfl) rfl<|Xm5 10 rfl (Xmy 0 Xxh rfl rfl rfl) (gy 35 rfl rfl) rfl<|Xm5 11 rfl (Xn0 Xy5 rfl h70.hq) (gy 35 rfl rfl) rfl<|Xm5 12 rfl (Xmn rfl rfl rfl) (gy 35 rfl rfl) rfl<|Xm5 13 rfl (Xmn rfl rfl rfl) (gy 35 rfl rfl) rfl<|Xm5 14 rfl (Xmk (b:=false) rfl rfl) gn rfl<|Xmc 15 rfl ?_
    exact Xng [0,1] (j2 ((x52.length:Int) != (w64 ((((ix x1.gram.prods x46).rhs).length:Int) + 1))) h) ⟨rfl,rfl,rfl,rfl,rfl,trivial⟩ (.cons_cons _ (.cons_cons _ (.slnil))) rfl
   ·have h:=Xmg hp659 h
    refine Xmx 35 rfl ((neib hp659))<|Xm9 7 rfl (ps 35 rfl rfl rfl)<|Xm9 8 rfl (ps 35 rfl rfl rfl)<|Xm9 9 rfl (ps 35 rfl rfl rfl)<|Xm9 10 rfl (ps 35 rfl rfl rfl)<|Xm9 11 rfl (ps 35 rfl rfl rfl)<|Xm9 12 rfl (ps 35 rfl rfl rfl)<|Xm9 13 rfl (ps 35 rfl rfl rfl)<|Xm5 14 rfl (Xmk (b:=true) rfl rfl) gn rfl<|Xmc 15 rfl ?_
    exact Xng [0,1] (j2 true h) ⟨rfl,rfl,rfl,rfl,rfl,trivial⟩ (.cons_cons _ (.cons_cons _ (.slnil))) rfl
 refine Xm6 rfl rfl<|Xm5 0 rfl (Xm8 rfl) gn rfl<|Xm5 1 rfl (Xmn rfl rfl rfl) gn rfl<|Xm5 2 rfl (Xm8 rfl) gn rfl ?_
 by_cases hp660:x46 < 0
 ·have h:=Xmh hp660 h
  refine Xmx 15 rfl ((decide_eq_true hp660))<|Xm9 3 rfl (ps 15 rfl rfl rfl)<|Xm9 4 rfl (ps 15 rfl rfl rfl)<|Xm9 5 rfl (ps 15 rfl rfl rfl)<|Xm9 6 rfl (ps 15 rfl rfl rfl)<|Xm9 7 rfl (ps 15 rfl rfl rfl)<|Xm9 8 rfl (ps 15 rfl rfl rfl)<|Xm5 9 rfl (Xmk (b:=true) rfl rfl) gn rfl<|Xmc 10 rfl ?_
  exact Xng [0,1] (j1 true h) ⟨rfl,rfl,rfl,rfl,rfl,trivial⟩ (.cons_cons _ (.slnil)) rfl
 ·have h:=Xmg hp660 h
  refine Xmx 15 rfl ((decide_eq_false hp660))<|Xm5 3 rfl (Xm8 rfl) (gy 15 rfl rfl) rfl<|Xm5 4 rfl (Xmm Xry rfl) (gy 15 rfl rfl) rfl<|Xm5 5 rfl (Xmm Ybm rfl) (gy 15 rfl rfl) rfl<|Xm5 6 rfl (Xmy 0 ld_45 rfl rfl rfl) (gy 15 rfl rfl) rfl<|Xm5 7 rfl (Xn0 un_45 rfl h17.hq) (gy 15 rfl rfl) rfl<|Xm5 8 rfl (Xmn rfl rfl rfl) (gy 15 rfl rfl) rfl<|Xm5 9 rfl (Xmk (b:=false) rfl rfl) gn rfl<|Xmc 10 rfl ?_
  exact Xng [0,1] (j1 (decide (x46≥(x1.gram.prods.length:Int))) h) ⟨rfl,rfl,rfl,rfl,rfl,trivial⟩ (.cons_cons _ (.slnil)) rfl
noncomputable abbrev q29c6:=Code.snd (Code.snd (Code.snd (Xo5 Try.f29)))
noncomputable abbrev Yb3:=Code.fst (Code.fst (Code.snd (Code.fst (Code.snd (Code.snd (Xo5 Try.f29))))))
abbrev Xrm (w:World) (F:Nat→Prop) (r:List (List Xm4)):Ending→World→Prop:=fun e w'=>∃ A0:Option Addr,∃ n0:Nat,∃ c0:Nat,∃ cs0:List Value,∃ bs0:List Nat,e=.returned (.slice A0 n0 c0)∧B.Loc w w' [.own (.slice A0 n0 c0) 22 1 n0 cs0,Xou Xni (w.heap.size) none r cs0 bs0] [St w []]∧Ow w.heap.size A0 n0 c0 r
noncomputable abbrev Xqg (w:World) (F:Nat→Prop) (r:List (List Xm4)):Cx:=⟨Try.prog,29,Try.f29,22,Xrm w F  r,w⟩
theorem Xsl (w:World) (F:Nat→Prop) (x1:List (List Xm4)) (A2:Option Addr) (n3:Nat) (c4:Nat) (h5:Rw (Kd.slice Xml) w (St w []).av A2 n3 c4 x1) (hF:∀ b,F b→b < w.heap.size∧∀ o ∈ ([]:List (List Nat)),b ∉ o) (hL0:B.Loc w w [] [Sm w.heap.size F w [],St w []]) (r:List (List Xm4)) (h:Xpd x1 r):Calls Try.prog 29 #[.slice A2 n3 c4] w (Xrm w F  r):=by
 unfold Xpd at h
 refine Xms (vs:=[.slice A2 n3 c4]) 22 Try.func29 rfl Try.ntmps29 rfl hL0 ?_
 show G (Xqg w F r) _ _ _ _
 refine Xmb rfl<|Xm6 rfl rfl<|Xm5 0 rfl (Xma rfl) gn rfl<|Xmc 1 rfl<|Xmb rfl<|Xm6 rfl rfl<|Xm5 0 rfl (Xma rfl) gn rfl<|Xmc 1 rfl<|Xmb rfl<|Xmb rfl<|Xm6 rfl rfl<|Xm5 0 rfl (Xma rfl) gn rfl ?_
 refine Xmc 1 rfl<|Xn8 rfl<|Xqc rfl ?_
 have key1:∀ s,Xmi (fun (s:(List (List Xm4)) × Int) o=>Xnl x1 s.1 s.2 o) s r→(fun (s:(List (List Xm4)) × Int)=>∀ (A46:Option Addr) (n47:Nat) (c48:Nat) (cs49:List Value) (bs50:List Nat) (h51:Ow w.heap.size A46 n47 c48 s.1),G (Xqg w F r) [.code Yb3,.inLoop Yb3,.inBlock 0,.code q29c6] [(0,.slice A2 n3 c4),(3,.slice A46 n47 c48),(4,.int .i64 s.2)] [Xou Xni (w.heap.size) none s.1 cs49 bs50,.own (.slice A46 n47 c48) 22 1 n47 cs49] [Sm w.heap.size F w [],St w []]) s:=by
  intro s hs
  refine Xmi.ind (mot:=(fun (s:(List (List Xm4)) × Int)=>∀ (A46:Option Addr) (n47:Nat) (c48:Nat) (cs49:List Value) (bs50:List Nat) (h51:Ow w.heap.size A46 n47 c48 s.1),G (Xqg w F r) [.code Yb3,.inLoop Yb3,.inBlock 0,.code q29c6] [(0,.slice A2 n3 c4),(3,.slice A46 n47 c48),(4,.int .i64 s.2)] [Xou Xni (w.heap.size) none s.1 cs49 bs50,.own (.slice A46 n47 c48) 22 1 n47 cs49] [Sm w.heap.size F w [],St w []])) ?_ hs
  clear hs s
  intro s o1 h hO1
  obtain ⟨x45,x52⟩:=s
  show ∀ (A46:Option Addr) (n47:Nat) (c48:Nat) (cs49:List Value) (bs50:List Nat) (h51:Ow w.heap.size A46 n47 c48 x45),G (Xqg w F r) [.code Yb3,.inLoop Yb3,.inBlock 0,.code q29c6] [(0,.slice A2 n3 c4),(3,.slice A46 n47 c48),(4,.int .i64 x52)] [Xou Xni (w.heap.size) none x45 cs49 bs50,.own (.slice A46 n47 c48) 22 1 n47 cs49] [Sm w.heap.size F w [],St w []]
  intro A46 n47 c48 cs49 bs50 h51
  have h:Xnl x1 x45 x52 o1:=h
  unfold Xnl at h
  refine Xmb rfl<|Xmb rfl<|Xm6 rfl rfl<|Xm5 0 rfl (Xm8 rfl) gn rfl<|Xm5 1 rfl (Xm8 rfl) gn rfl<|Xm5 2 rfl (Xn0 Ya5 rfl h5.hq) gn rfl<|Xm5 3 rfl (Xmn rfl rfl rfl) gn rfl<|Xmc 4 rfl ?_
  by_cases hp89:x52 < (x1.length:Int)
  ·have h:=Xmh hp89 h
   refine Xn3 rfl _ rfl ((decide_eq_true hp89))<|Xn9 rfl<|Xmb rfl<|Xn8 rfl<|Xmb rfl<|Xm6 rfl rfl<|Xm5 0 rfl (Xm8 rfl) gn rfl<|Xm5 1 rfl (Xm8 rfl) gn rfl ?_
   obtain ⟨hb90,h⟩:=h
   obtain ⟨ce92,hK93,hr91⟩:=Rw.read (s:=St w []) h5 hb90
   obtain ⟨A94,n95,c96,rfl,h97⟩:=hK93
   refine Xm5 2 rfl (Xoc (s:=St w []) Xug rfl rfl h5 hb90) gn rfl<|Xm5 3 rfl (Xpo (kk:=(x52:Int).toNat * 1) (j:=0) (St w []) Xw3 rfl hr91 rfl (me 1 rfl)) gn rfl ?_
   obtain ⟨r101,hv102,h⟩:=h
   refine Xmr 4 rfl (Xmz [.slice A94 n95 c96] rfl Try.func17 rfl rfl rfl fun w98 hL99=>?_) gn
   have hp100:=pmI hL99 .n (.c 0 rfl (.c 1 rfl .n)) (by kernel_rfl)
   refine Calls.mono (Xqq w98 (Fl ([]:List Xmq)) (ix x1 x52) A94 n95 c96 (Rw.mono h97 (hL99.toSt hp100 (me 1 rfl))) (hL99.hFl hp100 (Xmt [] rfl)) (hL99.into hp100 _) r101 hv102) ?_
   rintro _ w108 ⟨A103,n104,c105,rfl,hM109,h106⟩
   have hL110:=hL99.call hp100 hM109
   refine ⟨_,_,_,rfl,hL110,?_⟩
   refine Xm5 5 rfl (Xma rfl) gn rfl<|Xmc 6 rfl<|Xm6 rfl rfl<|Xm5 0 rfl (Xm8 rfl) gn rfl<|Xm5 1 rfl (Xm8 rfl) gn rfl ?_
   refine Yeg (z:=w.heap.size) (j:=0) Xni r101 rfl (Ow.weak hL99.env.size h106) rfl fun bs111=>?_
   refine Xmr 2 rfl (Xph (xs:=([r101]:List (List Xm4))) [.slice A103 n104 c105] Xzq rfl (by kernel_rfl) rfl rfl rfl rfl fun gb114 h115=>?_) gn
   obtain ⟨x120,hv121,h⟩:=h
   obtain ⟨hb122,h⟩:=h
   obtain ⟨cs123,hc124⟩:∃ x:List Value,x=cs49++[.slice A103 n104 c105]:=⟨_,rfl⟩
   refine Xmr 3 rfl (Xs7 (zs:=x120) 3 ap_59 rfl rfl rfl h51 (Nat.le_refl _) (Src.raw 0 rfl h115 rfl rfl) hc124.symm (Xp6 hv121 h115.hq) hb122 rfl rfl fun A116 c117 h118=>?_) gn
   refine Xzp (fk:=Xni) (z:=w.heap.size) (j1:=1) (j:=2) (by decide) rfl rfl hv121 hc124 fun bs119=>?_
   refine Xm5 4 rfl (Xma rfl) gn rfl<|Xmc 5 rfl<|Xn5<|Xm6 rfl rfl<|Xm5 0 rfl (Xm8 rfl) gn rfl<|Xm5 1 rfl (Xmn rfl rfl rfl) gn rfl<|Xm5 2 rfl (Xma rfl) gn rfl<|Xmc 3 rfl<|Xnp ?_
   have ih:=Out.inl hO1 h
   exact Xng [0,1] (ih A116 (n47 + 1) c117 cs123 bs119 h118) ⟨rfl,rfl,rfl,trivial⟩ (.cons _ (.cons_cons _ (.cons_cons _ (.slnil)))) rfl
  ·have h:=Xmg hp89 h
   refine Xmp rfl _ rfl ((decide_eq_false hp89))<|Xpw [.code q29c6] rfl rfl<|Xmb rfl<|Xm6 rfl rfl<|Xm5 0 rfl (Xm8 rfl) gn rfl<|Xm5 1 rfl (Xma rfl) gn rfl<|Xmc 2 rfl ?_
   have h:=Out.inr hO1 h
   refine Xmu [.slice A46 n47 c48] rfl Try.func29 rfl (.tmp rfl (.nil)) fun wr hLr=>?_
   have hMr:=hLr.pkI (.c 1 rfl (.c 0 rfl .n)) .n (by kernel_rfl) (.c 1 rfl .n)
   show Xrm w F  r (.returned (Xn4 [.slice A46 n47 c48])) wr
   rw [h]
   exact ⟨A46,n47,c48,cs49,bs50,rfl,hMr,h51⟩
 refine Xr7 22 1<|Yem Xni w.heap.size ?_
 exact Xng [0,1] (key1 _ h none 0 0 [] [] (Ow.nil (z:=w.heap.size))) ⟨rfl,rfl,rfl,trivial⟩ (.cons_cons _ (.cons_cons _ (.slnil))) rfl
noncomputable abbrev q42c11:=Code.fst (Code.snd (Code.snd (Code.snd (Xo5 Try.f42))))
abbrev Xw2 (w:World) (F:Nat→Prop) (r:List Int):Ending→World→Prop:=fun e w'=>∃ A0:Option Addr,∃ n0:Nat,∃ c0:Nat,e=.returned (.slice A0 n0 c0)∧B.Loc w w' [.own (.slice A0 n0 c0) 3 1 n0 (r.flatMap (eI .i64))] [St w []]∧Ow w.heap.size A0 n0 c0 r
noncomputable abbrev Yfw (w:World) (F:Nat→Prop) (r:List Int):Cx:=⟨Try.prog,42,Try.f42,21,Xw2 w F  r,w⟩
theorem Ybh (w:World) (F:Nat→Prop) (x1:List Xm4) (x6:Int) (A2:Option Addr) (n3:Nat) (c4:Nat) (h5:Rw Xml w (St w []).av A2 n3 c4 x1) (hF:∀ b,F b→b < w.heap.size∧∀ o ∈ ([]:List (List Nat)),b ∉ o) (hL0:B.Loc w w [] [Sm w.heap.size F w [],St w []]) (r:List Int) (h:Xwt x1 x6 r):Calls Try.prog 42 #[.slice A2 n3 c4,.int .i64 x6] w (Xw2 w F  r):=by
 unfold Xwt at h
 refine Xms (vs:=[.slice A2 n3 c4,.int .i64 x6]) 21 Try.func42 rfl Try.ntmps42 rfl hL0 ?_
 show G (Yfw w F r) _ _ _ _
 refine Xmb rfl<|Xm6 rfl rfl<|Xm5 0 rfl (Xma rfl) gn rfl<|Xmc 1 rfl<|Xmb rfl<|Xm6 rfl rfl<|Xm5 0 rfl (Xm8 rfl) gn rfl ?_
 obtain ⟨r10,hv11,h⟩:=h
 refine Xmr 1 rfl (Xmz [.slice A2 n3 c4] rfl Try.func44 rfl rfl rfl fun w7 hL8=>?_) gn
 have hp9:=pmI hL8 .n .n (by kernel_rfl)
 refine Calls.mono (Xt4 w7 (Fl ([St w []]:List Xmq)) x1 A2 n3 c4 (Rw.mono h5 (hL8.toFl (me 1 rfl) (me 0 rfl))) (hL8.hFl hp9 (Xmt [1] rfl)) (hL8.into hp9 _) r10 hv11) ?_
 rintro _ w26 ⟨A16,n17,c18,A21,n22,c23,A12,n13,c14,rfl,hM27,h19,h24,h15⟩
 obtain ⟨sv30,hL28,hv29⟩:=hL8.callN (Sl:=([St w []]:List Xmq)) hp9 hM27 (Xmt [1] rfl)
 have h15:At Xml (sv30) A12 n13 c14 r10.nodes:=Rw.mono h15 hv29
 refine ⟨_,_,_,rfl,hL28,?_⟩
 refine Xmr 2 rfl (Xov [.slice none 0 0,.slice none 0 0,.slice none 0 0,.bool false] Xzk rfl fun gb31=>?_) gn
 refine Xmr 3 rfl (Xp9 (vs:=[.slice A12 n13 c14,.slice A16 n17 c18,.slice A21 n22 c23,.bool r10.ok]) (cs':=[.slice A12 n13 c14,.slice A16 n17 c18,.slice A21 n22 c23,.bool r10.ok]) (M':=[.box gb31 32 [.slice A12 n13 c14,.slice A16 n17 c18,.slice A21 n22 c23,.bool r10.ok],.own (.slice A16 n17 c18) 3 1 n17 (r10.parent.flatMap (eI .i64)),.own (.slice A21 n22 c23) 3 1 n22 (r10.end_.flatMap (eI .i64))]) 0 Xy9 rfl rfl rfl rfl rfl rfl rfl rfl rfl ?_) gn
 refine Xmc 4 rfl<|Xmb rfl<|Xmb rfl<|Xm6 rfl rfl<|Xm5 0 rfl (Xqa [.slice A12 n13 c14,.slice A16 n17 c18,.slice A21 n22 c23,.bool r10.ok] 0 Yd8 rfl rfl rfl rfl) gn rfl<|Xm5 1 rfl (Xm8 rfl) gn rfl ?_
 obtain ⟨r36,hv37,h⟩:=h
 refine Xmr 2 rfl (Xmz [.agg #[.slice A12 n13 c14,.slice A16 n17 c18,.slice A21 n22 c23,.bool r10.ok],.int .i64 x6] rfl Try.func46 rfl rfl rfl fun w33 hL34=>?_) gn
 have hp35:=pmI hL34 .n (.c 0 rfl (.c 1 rfl (.c 2 rfl .n))) (by kernel_rfl)
 refine Calls.mono (Xxx w33 (Fl ([]:List Xmq)) r10 x6 A12 n13 c14 A16 n17 c18 A21 n22 c23 (Rw.mono h15 (hL34.toSt hp35 (me 0 rfl))) (hL34.argO (dk:=(Xsu .i64)) hp35 [] rfl 1 rfl rfl (Ow.weak hL8.env.size h19) (me 1 rfl) (Cells.flat _)) (hL34.argO (dk:=(Xsu .i64)) hp35 [] rfl 2 rfl rfl (Ow.weak hL8.env.size h24) (me 1 rfl) (Cells.flat _)) (hL34.hFl hp35 (Xmt [] rfl)) (hL34.into hp35 _) r36 hv37) ?_
 rintro _ w38 ⟨rfl,hM39⟩
 have hL40:=hL34.call hp35 hM39
 refine ⟨_,_,_,rfl,hL40,?_⟩
 refine Xm5 3 rfl (Xuv rfl) gn rfl<|Xmc 4 rfl ?_
 by_cases hp41:r36=true
 ·have h:=Xmh hp41 h
  refine Xmp rfl _ rfl ((nf hp41))<|Xn9 rfl<|Xmb rfl ?_
  obtain ⟨hb42,h⟩:=h
  obtain ⟨r46,hv47,h⟩:=h
  have hns:Region.noSelect (Code.ops q42c11)=true:=by kernel_rfl
  refine Xqx [] 10 rfl rfl mix rfl (.c 0 rfl (.c 1 rfl (.c 2 rfl .n)))<|wfv 0 rfl (Xqa [.slice A12 n13 c14,.slice A16 n17 c18,.slice A21 n22 c23,.bool r10.ok] 0 Yd8 rfl rfl rfl rfl) gn hns rfl<|wfv 1 rfl (Xm8 rfl) gn hns rfl<|wfv 2 rfl (Xmn rfl rfl rfl) gn hns rfl<|wfv 3 rfl (Xmm Ybp rfl) gn hns rfl<|wfv 4 rfl (Xmy 0 Ye2 rfl rfl rfl) gn hns rfl<|wfv 5 rfl (Xm8 rfl) gn hns rfl<|wfv 6 rfl (Xot Xq8 rfl rfl (Ow.weak hL8.env.size h24) hb42) gn hns rfl<|wfv 7 rfl (Xq7 (.int .i64 (ix r10.end_ x6)) 2 Xqt rfl rfl (Xsb (hlI .i64) hb42 rfl)) gn hns rfl ?_
  refine Xnk [8] (by kernel_rfl) rfl ⟨Xqy 8 rfl gn rfl (Xmz [.agg #[.slice A12 n13 c14,.slice A16 n17 c18,.slice A21 n22 c23,.bool r10.ok],.int .i64 (w64 (x6 + 1)),.int .i64 (ix r10.end_ x6)] rfl Try.func66 rfl rfl rfl fun w86 hL87=>?_),trivial⟩
  have hp88:=pmI hL87 .n (.c 0 rfl (.c 1 rfl (.c 2 rfl .n))) (by kernel_rfl)
  refine Calls.mono (Xtl w86 (Fl ([]:List Xmq)) r10 (w64 (x6 + 1)) (ix r10.end_ x6) A12 n13 c14 A16 n17 c18 A21 n22 c23 (Rw.mono h15 (hL87.toSt hp88 (me 0 rfl))) (hL87.argO (dk:=(Xsu .i64)) hp88 [] rfl 1 rfl rfl (Ow.weak hL8.env.size h19) (me 1 rfl) (Cells.flat _)) (hL87.argO (dk:=(Xsu .i64)) hp88 [] rfl 2 rfl rfl (Ow.weak hL8.env.size h24) (me 1 rfl) (Cells.flat _)) (hL87.hFl hp88 (Xmt [] rfl)) (hL87.into hp88 _) r46 hv47) ?_
  rintro _ w93 ⟨A89,n90,c91,rfl,hM94,h92⟩
  have hL95:=hL87.call hp88 hM94
  refine ⟨_,_,_,rfl,hL95,?_⟩
  refine ⟨Xmt [1,2,3] rfl,Xmt [0,1,2] rfl,?_⟩
  refine wfv 9 rfl (Xma rfl) gn hns rfl<|Xq0 (by kernel_rfl) ?_
  refine Xmu [.slice A89 n90 c91] rfl Try.func42 rfl (.tmp rfl (.nil)) fun wr hLr=>?_
  have hMr:=hLr.pkI (.c 0 rfl .n) (.c 1 rfl (.c 2 rfl (.c 3 rfl .n))) (by kernel_rfl) (.c 2 rfl .n)
  show Xw2 w F  r (.returned (Xn4 [.slice A89 n90 c91])) wr
  rw [h]
  exact ⟨A89,n90,c91,rfl,hMr,(Ow.weak hL87.env.size h92)⟩
 ·have h:=Xmg hp41 h
  refine Xn3 rfl _ rfl ((nt (bf hp41)))<|Xmb rfl<|Xm6 rfl rfl<|Xm5 0 rfl (Xma rfl) gn rfl<|Xmc 1 rfl<|Xr7 3 1 ?_
  refine Xmu [.slice none 0 0] rfl Try.func42 rfl (.tmp rfl (.nil)) fun wr hLr=>?_
  have hMr:=hLr.pkI (.c 0 rfl .n) (.c 1 rfl (.c 2 rfl (.c 3 rfl .n))) (by kernel_rfl) (.c 2 rfl .n)
  show Xw2 w F  r (.returned (Xn4 [.slice none 0 0])) wr
  rw [h]
  exact ⟨none,0,0,rfl,hMr,(Ow.nil (z:=w.heap.size))⟩
abbrev Xpv (w:World) (F:Nat→Prop) (g2:Nat) (v3:Value) (r:Xmf):Ending→World→Prop:=fun e w'=>e=.returned (.tuple #[])∧B.Loc w w' [.box g2 123 [Xrd g2 r.addr,v3]] [St w [[g2]]]
noncomputable abbrev Xv6 (w:World) (F:Nat→Prop) (g2:Nat) (v3:Value) (r:Xmf):Cx:=⟨Try.prog,79,Try.f79,20,Xpv w F g2 v3 r,w⟩
theorem Xru (w:World) (F:Nat→Prop) (x1:Xmf) (g2:Nat) (v3:Value) (hF:∀ b,F b→b < w.heap.size∧∀ o ∈ ([[g2]]:List (List Nat)),b ∉ o) (hL0:B.Loc w w [.box g2 123 [Xrd g2 x1.addr,v3]] [Sm w.heap.size F w [[g2]],St w [[g2]]]) (r:Xmf) (h:Xop x1 r):Calls Try.prog 79 #[.pointer (some ⟨g2,0,none⟩)] w (Xpv w F g2 v3 r):=by
 unfold Xop at h
 refine Xms (vs:=[.pointer (some ⟨g2,0,none⟩)]) 20 Try.func79 rfl Try.ntmps79 rfl hL0 ?_
 show G (Xv6 w F g2 v3 r) _ _ _ _
 refine Xmb rfl<|Xm6 rfl rfl<|Xm5 0 rfl (Xm8 rfl) gn rfl<|Xm5 1 rfl (Xsd rfl) gn rfl<|Xm5 2 rfl (Xmm Yck rfl) gn rfl<|Xm5 3 rfl (Xmy 0 ld_120 rfl rfl rfl) gn rfl<|Xm5 4 rfl (v_eqSelf (gb:=g2) (b:=x1.addr) un_120 rfl rfl) gn rfl<|Xmc 5 rfl ?_
 by_cases hp4:x1.addr=true
 ·have h:=Xmh hp4 h
  refine Xmp rfl _ rfl ((nf hp4))<|Xmb rfl<|Xm6 rfl rfl<|Xm5 0 rfl (Xm8 rfl) gn rfl<|Xm5 1 rfl (Xsd rfl) gn rfl<|Xm5 2 rfl (Xmm Yck rfl) gn rfl<|Xm5 3 rfl (Xmy 0 ld_120 rfl rfl rfl) gn rfl<|Xm5 4 rfl (Xm8 rfl) gn rfl<|Xm5 5 rfl (v_neSelf (gb:=g2) (b:=x1.addr) pt_120 rfl rfl) gn rfl<|Xmc 6 rfl<|Xmp rfl _ rfl ((nf hp4))<|Xn9 rfl ?_
  refine Yg4 [] Try.func79 rfl (.nil) fun wr hLr=>?_
  have hMr:=hLr.pkI (.c 0 rfl .n) .n (by kernel_rfl) (.c 1 rfl .n)
  show Xpv w F g2 v3 r (.returned (Xn4 [])) wr
  rw [h]
  exact ⟨rfl,hMr⟩
 ·have h:=Xmg hp4 h
  refine Xn3 rfl _ rfl ((nt (bf hp4)))<|Xm6 rfl rfl<|Xm5 0 rfl (Xm8 rfl) gn rfl<|Xm5 1 rfl (Xm8 rfl) gn rfl<|Xm5 2 rfl (v_toU 0 pt_120 un_136 rfl rfl rfl) gn rfl<|Xm5 3 rfl (v_ext [.pointer (some ⟨g2,0,none⟩)] rfl Try.func82 rfl rfl (by kernel_rfl) (by kernel_rfl) (fun w=>Yg9 _ w)) gn rfl<|Xm5 4 rfl (v_fromU 0 un_136 Yeo rfl rfl rfl) gn rfl<|Xm5 5 rfl (Xsd rfl) gn rfl<|Xm5 6 rfl (Xmm Yck rfl) gn rfl ?_
  refine Xmr 7 rfl (Xp9 (vs:=[.pointer (some ⟨g2,0,none⟩)]) (cs':=[.pointer (some ⟨g2,0,none⟩),v3]) (M':=[.box g2 123 [.pointer (some ⟨g2,0,none⟩),v3]]) 0 sz_120 rfl rfl rfl rfl rfl rfl rfl rfl rfl ?_) gn
  refine Xmc 8 rfl ?_
  refine Yg4 [] Try.func79 rfl (.nil) fun wr hLr=>?_
  have hMr:=hLr.pkI (.c 0 rfl .n) .n (by kernel_rfl) (.c 1 rfl .n)
  show Xpv w F g2 v3 r (.returned (Xn4 [])) wr
  rw [h]
  exact ⟨rfl,hMr⟩
abbrev Xqz (w:World) (F:Nat→Prop) (g2:Nat) (A3:Option Addr) (n4:Nat) (c5:Nat) (z7:Nat) (r:Xmf):Ending→World→Prop:=fun e w'=>∃ A0:Option Addr,∃ n0:Nat,∃ c0:Nat,e=.returned (.nilIface)∧B.Loc w w' [.box g2 123 [Xrd g2 r.addr,.slice A0 n0 c0],.own (.slice A0 n0 c0) 5 1 n0 (r.buf.flatMap (eI .u8))] [St w [[g2],(Value.slice A3 n4 c5).ownBlock.toList]]∧Ow z7 A0 n0 c0 r.buf
noncomputable abbrev Xvc (w:World) (F:Nat→Prop) (g2:Nat) (A3:Option Addr) (n4:Nat) (c5:Nat) (z7:Nat) (r:Xmf):Cx:=⟨Try.prog,70,Try.f70,17,Xqz w F g2 A3 n4 c5 z7 r,w⟩
theorem Xo0 (w:World) (F:Nat→Prop) (x1:Xmf) (x9:Int) (g2:Nat) (z7:Nat) (A3:Option Addr) (n4:Nat) (c5:Nat) (hz8:z7≤w.heap.size) (h6:Ow z7 A3 n4 c5 x1.buf) (hF:∀ b,F b→b < w.heap.size∧∀ o ∈ ([[g2],(Value.slice A3 n4 c5).ownBlock.toList]:List (List Nat)),b ∉ o) (hL0:B.Loc w w [.box g2 123 [Xrd g2 x1.addr,.slice A3 n4 c5],.own (.slice A3 n4 c5) 5 1 n4 (x1.buf.flatMap (eI .u8))] [Sm w.heap.size F w [[g2],(Value.slice A3 n4 c5).ownBlock.toList],St w [[g2],(Value.slice A3 n4 c5).ownBlock.toList]]) (r:Xmf) (h:Xne x1 x9 r):Calls Try.prog 70 #[.pointer (some ⟨g2,0,none⟩),.int .u8 x9] w (Xqz w F g2 A3 n4 c5 z7 r):=by
 unfold Xne at h
 refine Xms (vs:=[.pointer (some ⟨g2,0,none⟩),.int .u8 x9]) 17 Try.func70 rfl Try.ntmps70 rfl hL0 ?_
 show G (Xvc w F g2 A3 n4 c5 z7 r) _ _ _ _
 refine Xmb rfl<|Xm6 rfl rfl<|Xm5 0 rfl (Xma rfl) gn rfl<|Xmc 1 rfl<|Xmb rfl<|Xm6 rfl rfl<|Xm5 0 rfl (Xm8 rfl) gn rfl ?_
 obtain ⟨r13,hv14,h⟩:=h
 refine Xmr 1 rfl (Xmz [.pointer (some ⟨g2,0,none⟩)] rfl Try.func79 rfl rfl rfl fun w10 hL11=>?_) gn
 have hp12:=pmI hL11 (.c 0 rfl .n) (.c 1 rfl .n) (by kernel_rfl)
 refine Calls.mono (Xru w10 (Fl ([]:List Xmq)) x1 g2 (.slice A3 n4 c5) (hL11.hFl hp12 (Xmt [] rfl)) (hL11.into hp12 _) r13 hv14) ?_
 rintro _ w15 ⟨rfl,hM16⟩
 have hL17:=hL11.call hp12 hM16
 refine ⟨_,_,_,rfl,hL17,?_⟩
 refine Xmc 2 rfl<|Xmb rfl<|Xm6 rfl rfl<|Xm5 0 rfl (Xm8 rfl) gn rfl<|Xm5 1 rfl (Xm8 rfl) gn rfl<|Xm5 2 rfl (Xsd rfl) gn rfl<|Xm5 3 rfl (Xmm Xwq rfl) gn rfl<|Xm5 4 rfl (Xmy 0 Yed rfl rfl rfl) gn rfl<|Xm5 5 rfl (Xm8 rfl) gn rfl ?_
 refine Xmr 6 rfl (Xph (xs:=([x9]:List Int)) [.int .u8 x9] bs_121_1 rfl (by kernel_rfl) rfl rfl rfl rfl fun gb19 h20=>?_) gn
 obtain ⟨x24,hv25,h⟩:=h
 obtain ⟨hb26,h⟩:=h
 refine Xmr 7 rfl (Xs7 (zs:=x24) (cells':=x24.flatMap (eI .u8)) 2 ap_121 rfl rfl rfl h6 hz8 (Src.ownF (hl:=(hlI .u8)) (h1:=(Xqo .u8)) 0 rfl h20) (by rw [hv25,List.flatMap_append] <;> rfl) (Xp6 hv25 h20.hq) hb26 rfl rfl fun A21 c22 h23=>?_) gn
 refine Xm5 8 rfl (Xsd rfl) gn rfl<|Xm5 9 rfl (Xmm Xwq rfl) gn rfl ?_
 refine Xmr 10 rfl (Xp9 (vs:=[.slice A21 (n4 + 1) c22]) (cs':=[Xrd g2 r13.addr,.slice A21 (n4 + 1) c22]) (M':=[.own (.slice (some ⟨gb19,0,none⟩) 1 1) 5 1 1 (([x9]:List Int).flatMap (eI .u8)),.box g2 123 [Xrd g2 r13.addr,.slice A21 (n4 + 1) c22],.own (.slice A21 (n4 + 1) c22) 5 1 (n4 + 1) (x24.flatMap (eI .u8))]) 1 sz_121 rfl rfl rfl rfl rfl rfl rfl rfl rfl ?_) gn
 refine Xmc 11 rfl<|Xmb rfl<|Xm6 rfl rfl<|Xm5 0 rfl (Xma rfl) gn rfl<|Xmc 1 rfl ?_
 refine Xmu [.nilIface] rfl Try.func70 rfl (.tmp rfl (.nil)) fun wr hLr=>?_
 have hMr:=hLr.pkI (.c 1 rfl (.c 2 rfl .n)) (.c 0 rfl .n) (by kernel_rfl) (.c 1 rfl .n)
 show Xqz w F g2 A3 n4 c5 z7 r (.returned (Xn4 [.nilIface])) wr
 rw [h]
 exact ⟨A21,n4 + 1,c22,rfl,hMr,h23⟩
abbrev Xqn (w:World) (F:Nat→Prop) (g2:Nat) (A3:Option Addr) (n4:Nat) (c5:Nat) (z7:Nat) (r:Int × Xmf):Ending→World→Prop:=fun e w'=>∃ A0:Option Addr,∃ n0:Nat,∃ c0:Nat,e=.returned (.tuple #[.int .i64 r.1,.nilIface])∧B.Loc w w' [.box g2 123 [Xrd g2 r.2.addr,.slice A0 n0 c0],.own (.slice A0 n0 c0) 5 1 n0 (r.2.buf.flatMap (eI .u8))] [St w [[g2],(Value.slice A3 n4 c5).ownBlock.toList]]∧Ow z7 A0 n0 c0 r.2.buf
noncomputable abbrev Xup (w:World) (F:Nat→Prop) (g2:Nat) (A3:Option Addr) (n4:Nat) (c5:Nat) (z7:Nat) (r:Int × Xmf):Cx:=⟨Try.prog,71,Try.f71,19,Xqn w F g2 A3 n4 c5 z7 r,w⟩
theorem Xoa (w:World) (F:Nat→Prop) (x1:Xmf) (x9:ByteArray) (g2:Nat) (z7:Nat) (A3:Option Addr) (n4:Nat) (c5:Nat) (hz8:z7≤w.heap.size) (h6:Ow z7 A3 n4 c5 x1.buf) (hF:∀ b,F b→b < w.heap.size∧∀ o ∈ ([[g2],(Value.slice A3 n4 c5).ownBlock.toList]:List (List Nat)),b ∉ o) (hL0:B.Loc w w [.box g2 123 [Xrd g2 x1.addr,.slice A3 n4 c5],.own (.slice A3 n4 c5) 5 1 n4 (x1.buf.flatMap (eI .u8))] [Sm w.heap.size F w [[g2],(Value.slice A3 n4 c5).ownBlock.toList],St w [[g2],(Value.slice A3 n4 c5).ownBlock.toList]]) (r:Int × Xmf) (h:Xnh x1 x9 r):Calls Try.prog 71 #[.pointer (some ⟨g2,0,none⟩),.string x9] w (Xqn w F g2 A3 n4 c5 z7 r):=by
 unfold Xnh at h
 refine Xms (vs:=[.pointer (some ⟨g2,0,none⟩),.string x9]) 19 Try.func71 rfl Try.ntmps71 rfl hL0 ?_
 show G (Xup w F g2 A3 n4 c5 z7 r) _ _ _ _
 refine Xmb rfl<|Xm6 rfl rfl<|Xm5 0 rfl (Xma rfl) gn rfl<|Xm5 1 rfl (Xma rfl) gn rfl<|Xmc 2 rfl<|Xmb rfl<|Xm6 rfl rfl<|Xm5 0 rfl (Xm8 rfl) gn rfl ?_
 obtain ⟨r13,hv14,h⟩:=h
 refine Xmr 1 rfl (Xmz [.pointer (some ⟨g2,0,none⟩)] rfl Try.func79 rfl rfl rfl fun w10 hL11=>?_) gn
 have hp12:=pmI hL11 (.c 0 rfl .n) (.c 1 rfl .n) (by kernel_rfl)
 refine Calls.mono (Xru w10 (Fl ([]:List Xmq)) x1 g2 (.slice A3 n4 c5) (hL11.hFl hp12 (Xmt [] rfl)) (hL11.into hp12 _) r13 hv14) ?_
 rintro _ w15 ⟨rfl,hM16⟩
 have hL17:=hL11.call hp12 hM16
 refine ⟨_,_,_,rfl,hL17,?_⟩
 refine Xmc 2 rfl<|Xmb rfl<|Xm6 rfl rfl<|Xm5 0 rfl (Xm8 rfl) gn rfl<|Xm5 1 rfl (Xm8 rfl) gn rfl<|Xm5 2 rfl (Xsd rfl) gn rfl<|Xm5 3 rfl (Xmm Xwq rfl) gn rfl<|Xm5 4 rfl (Xmy 0 Yed rfl rfl rfl) gn rfl<|Xm5 5 rfl (Xm8 rfl) gn rfl ?_
 obtain ⟨x21,hv22,h⟩:=h
 obtain ⟨hb23,h⟩:=h
 refine Xmr 6 rfl (s_appS (zs:=x21) 1 as_121_9 rfl rfl rfl h6 hz8 hv22 hb23 rfl fun A18 c19 h20=>?_) gn
 refine Xm5 7 rfl (Xsd rfl) gn rfl<|Xm5 8 rfl (Xmm Xwq rfl) gn rfl ?_
 refine Xmr 9 rfl (Xp9 (vs:=[.slice A18 (n4 + x9.size) c19]) (cs':=[Xrd g2 r13.addr,.slice A18 (n4 + x9.size) c19]) (M':=[.box g2 123 [Xrd g2 r13.addr,.slice A18 (n4 + x9.size) c19],.own (.slice A18 (n4 + x9.size) c19) 5 1 (n4 + x9.size) (x21.flatMap (eI .u8))]) 0 sz_121 rfl rfl rfl rfl rfl rfl rfl rfl rfl ?_) gn
 refine Xmc 10 rfl<|Xmb rfl<|Xm6 rfl rfl<|Xm5 0 rfl (Xm8 rfl) gn rfl<|Xm5 1 rfl (Yc7 Yak rfl) gn rfl<|Xm5 2 rfl (Xma rfl) gn rfl<|Xm5 3 rfl (Xma rfl) gn rfl<|Xmc 4 rfl ?_
 refine Xmu [.int .i64 (x9.size:Int),.nilIface] rfl Try.func71 rfl (.tmp rfl (.tmp rfl (.nil))) fun wr hLr=>?_
 have hMr:=hLr.pkI (.c 0 rfl (.c 1 rfl .n)) .n (by kernel_rfl) (.c 1 rfl .n)
 show Xqn w F g2 A3 n4 c5 z7 r (.returned (Xn4 [.int .i64 (x9.size:Int),.nilIface])) wr
 rw [h]
 exact ⟨A18,n4 + x9.size,c19,rfl,hMr,h20⟩
noncomputable abbrev q73c3:=Code.fst (Code.snd (Xo5 Try.f73))
abbrev Xrn (w:World) (F:Nat→Prop) (g2:Nat) (A3:Option Addr) (n4:Nat) (c5:Nat) (z7:Nat) (r:ByteArray):Ending→World→Prop:=fun e w'=>e=.returned (.string r)∧B.Loc w w' [] [St w [[g2],(Value.slice A3 n4 c5).ownBlock.toList]]
noncomputable abbrev Xwd (w:World) (F:Nat→Prop) (g2:Nat) (A3:Option Addr) (n4:Nat) (c5:Nat) (z7:Nat) (r:ByteArray):Cx:=⟨Try.prog,73,Try.f73,14,Xrn w F g2 A3 n4 c5 z7 r,w⟩
theorem Xsj (w:World) (F:Nat→Prop) (x1:Xmf) (g2:Nat) (z7:Nat) (A3:Option Addr) (n4:Nat) (c5:Nat) (hz8:z7≤w.heap.size) (h6:Ow z7 A3 n4 c5 x1.buf) (hF:∀ b,F b→b < w.heap.size∧∀ o ∈ ([[g2],(Value.slice A3 n4 c5).ownBlock.toList]:List (List Nat)),b ∉ o) (hL0:B.Loc w w [.box g2 123 [Xrd g2 x1.addr,.slice A3 n4 c5],.own (.slice A3 n4 c5) 5 1 n4 (x1.buf.flatMap (eI .u8))] [Sm w.heap.size F w [[g2],(Value.slice A3 n4 c5).ownBlock.toList],St w [[g2],(Value.slice A3 n4 c5).ownBlock.toList]]) (r:ByteArray) (h:Xr1 x1 r):Calls Try.prog 73 #[.pointer (some ⟨g2,0,none⟩)] w (Xrn w F g2 A3 n4 c5 z7 r):=by
 unfold Xr1 at h
 refine Xms (vs:=[.pointer (some ⟨g2,0,none⟩)]) 14 Try.func73 rfl Try.ntmps73 rfl hL0 ?_
 show G (Xwd w F g2 A3 n4 c5 z7 r) _ _ _ _
 refine Xmb rfl<|Xm6 rfl rfl<|Xm5 0 rfl (Xma rfl) gn rfl<|Xmc 1 rfl<|Xmb rfl ?_
 have hns:Region.noSelect (Code.ops q73c3)=true:=by kernel_rfl
 refine Xqx [10,11] 12 rfl rfl mix rfl (.c 0 rfl (.c 1 rfl .n))<|wfv 0 rfl (Xm8 rfl) gn hns (by kernel_rfl)<|wfv 1 rfl (Xsd rfl) gn hns (by kernel_rfl)<|wfv 2 rfl (Xmm Xwq rfl) gn hns (by kernel_rfl)<|wfv 3 rfl (Xmy 0 Yed rfl rfl rfl) gn hns (by kernel_rfl)<|wfv 5 rfl (Xm8 rfl) gn hns (by kernel_rfl)<|wfv 6 rfl (Xsd rfl) gn hns (by kernel_rfl)<|wfv 7 rfl (Xmm Xwq rfl) gn hns (by kernel_rfl)<|wfv 8 rfl (Xmy 0 Yed rfl rfl rfl) gn hns (by kernel_rfl)<|wfv 9 rfl (Xn0 un_121 rfl h6.hq) gn hns (by kernel_rfl) ?_
 refine Xnk [4] (by kernel_rfl) rfl ⟨Xqy 4 rfl gn rfl (s_slData 1 un_135 rfl rfl rfl fun p37 hp38=>?_),trivial⟩
 refine ⟨Xmt [0,1] rfl,Xmt [0,1] rfl,?_⟩
 refine Xnk [10] (by kernel_rfl) rfl ⟨Xyr 10 rfl gn rfl (s_ustr 1 by_135_5 rfl hp38 rfl h6 rfl rfl ?_),trivial⟩
 unfold NxL
 refine Xnk [11] (by kernel_rfl) rfl ⟨Xyr 11 rfl gn rfl (Ya1 (Xma rfl) rfl ?_),trivial⟩
 unfold NxL
 refine Xq0 (by kernel_rfl) ?_
 refine Xmu [.string (Xz3 x1.buf)] rfl Try.func73 rfl (.tmp rfl (.nil)) fun wr hLr=>?_
 have hMr:=hLr.pk0 (.c 1 rfl .n)
 show Xrn w F g2 A3 n4 c5 z7 r (.returned (Xn4 [.string (Xz3 x1.buf)])) wr
 rw [h]
 exact ⟨rfl,hMr⟩
noncomputable abbrev Ydi:=Code.snd (Code.snd (Code.snd (Code.snd (Xo5 Try.f72))))
noncomputable abbrev Xwc:=Code.fst (Code.fst (Code.snd (Code.fst (Code.snd (Code.snd (Code.snd (Xo5 Try.f72)))))))
noncomputable abbrev q72c20:=Code.snd (Code.snd (Code.snd Xwc))
noncomputable abbrev q72c26:=Code.snd (Code.fst (Code.snd (Code.fst (Code.fst (Code.snd (Code.snd Xwc))))))
noncomputable abbrev q72c34:=Code.snd (Code.snd (Code.snd (Code.snd q72c26)))
noncomputable abbrev q72c35:=Code.fst q72c34
abbrev Xwf (w:World) (F:Nat→Prop) (r:ByteArray):Ending→World→Prop:=fun e w'=>e=.returned (.string r)∧B.Loc w w' [] [St w []]
noncomputable abbrev Xsn (w:World) (F:Nat→Prop) (r:ByteArray):Cx:=⟨Try.prog,72,Try.f72,53,Xwf w F  r,w⟩
theorem Xzw (w:World) (F:Nat→Prop) (x1:ByteArray) (hF:∀ b,F b→b < w.heap.size∧∀ o ∈ ([]:List (List Nat)),b ∉ o) (hL0:B.Loc w w [] [Sm w.heap.size F w [],St w []]) (r:ByteArray) (h:Xuq x1 r):Calls Try.prog 72 #[.string x1] w (Xwf w F  r):=by
 unfold Xuq at h
 refine Xms (vs:=[.string x1]) 53 Try.func72 rfl Try.ntmps72 rfl hL0 ?_
 show G (Xsn w F r) _ _ _ _
 refine Xmb rfl<|Xm6 rfl rfl<|Xm5 0 rfl (Xma rfl) gn rfl<|Xmc 1 rfl<|Xmb rfl<|Xm6 rfl rfl ?_
 refine Xmr 0 rfl (Xov [.pointer none,.slice none 0 0] zr_123 rfl fun gb2=>?_) gn
 refine Xmc 1 rfl<|Xmb rfl<|Xm6 rfl rfl ?_
 obtain ⟨r8,hv9,h⟩:=h
 refine w_nil 5 1 ?_
 refine Xmr 0 rfl (Xmz [.pointer (some ⟨gb2,0,none⟩),.int .u8 34] rfl Try.func70 rfl rfl rfl fun w4 hL5=>?_) gn
 have hp6:=pmI hL5 (.c 1 rfl (.c 0 rfl .n)) .n (by kernel_rfl)
 refine Calls.mono (Xo0 w4 (Fl ([]:List Xmq)) (⟨false,([]:List Int)⟩:Xmf) 34 gb2 w.heap.size none 0 0 hL5.env.size (Ow.nil (z:=w.heap.size)) (hL5.hFl hp6 (Xmt [] rfl)) (hL5.into hp6 _) r8 hv9) ?_
 rintro _ w15 ⟨A10,n11,c12,rfl,hM16,h13⟩
 have hL17:=hL5.call hp6 hM16
 refine ⟨_,_,_,rfl,hL17,?_⟩
 refine Xmc 1 rfl<|Xmb rfl<|Xmb rfl<|Xm6 rfl rfl<|Xm5 0 rfl (Xm8 rfl) gn rfl ?_
 obtain ⟨hb18,h⟩:=h
 refine Xmr 1 rfl (s_s2b Yak Yh3 un_5 rfl hb18 rfl fun A19 c20 h21=>?_) gn
 refine Xm5 2 rfl (Xn0 un_121 rfl h21.hq) gn rfl<|Xm5 3 rfl (Xm8 rfl) gn rfl<|Xmc 4 rfl<|Xn8 rfl<|Xqc rfl ?_
 have key1:∀ s,Xmi (fun (s:Int × Bool × (List Int)) o=>Xpy x1 s.1 s.2.1 s.2.2 o) s r→(fun (s:Int × Bool × (List Int))=>∀ (A138:Option Addr) (n139:Nat) (c140:Nat) (h141:Ow w.heap.size A138 n139 c140 s.2.2),G (Xsn w F r) [.code Xwc,.inLoop Xwc,.inBlock 0,.code Ydi] [(3,.pointer (some ⟨gb2,0,none⟩)),(8,.slice A19 x1.size c20),(9,.int .i64 ((Xnr x1).length:Int)),(10,.int .i64 s.1)] [.own (.slice A138 n139 c140) 5 1 n139 (s.2.2.flatMap (eI .u8)),.own (.slice A19 x1.size c20) 5 1 x1.size ((Xnr x1).flatMap (eI .u8)),.box gb2 123 [Xrd gb2 s.2.1,.slice A138 n139 c140]] [Sm w.heap.size F w [],St w []]) s:=by
  intro s hs
  refine Xmi.ind (mot:=(fun (s:Int × Bool × (List Int))=>∀ (A138:Option Addr) (n139:Nat) (c140:Nat) (h141:Ow w.heap.size A138 n139 c140 s.2.2),G (Xsn w F r) [.code Xwc,.inLoop Xwc,.inBlock 0,.code Ydi] [(3,.pointer (some ⟨gb2,0,none⟩)),(8,.slice A19 x1.size c20),(9,.int .i64 ((Xnr x1).length:Int)),(10,.int .i64 s.1)] [.own (.slice A138 n139 c140) 5 1 n139 (s.2.2.flatMap (eI .u8)),.own (.slice A19 x1.size c20) 5 1 x1.size ((Xnr x1).flatMap (eI .u8)),.box gb2 123 [Xrd gb2 s.2.1,.slice A138 n139 c140]] [Sm w.heap.size F w [],St w []])) ?_ hs
  clear hs s
  intro s o1 h hO1
  obtain ⟨x135,x136,x137⟩:=s
  show ∀ (A138:Option Addr) (n139:Nat) (c140:Nat) (h141:Ow w.heap.size A138 n139 c140 x137),G (Xsn w F r) [.code Xwc,.inLoop Xwc,.inBlock 0,.code Ydi] [(3,.pointer (some ⟨gb2,0,none⟩)),(8,.slice A19 x1.size c20),(9,.int .i64 ((Xnr x1).length:Int)),(10,.int .i64 x135)] [.own (.slice A138 n139 c140) 5 1 n139 (x137.flatMap (eI .u8)),.own (.slice A19 x1.size c20) 5 1 x1.size ((Xnr x1).flatMap (eI .u8)),.box gb2 123 [Xrd gb2 x136,.slice A138 n139 c140]] [Sm w.heap.size F w [],St w []]
  intro A138 n139 c140 h141
  have h:Xpy x1 x135 x136 x137 o1:=h
  unfold Xpy at h
  refine Xmb rfl<|Xm6 rfl rfl<|Xm5 0 rfl (Xmn rfl rfl rfl) gn rfl<|Xmc 1 rfl<|Xmb rfl ?_
  by_cases hp253:x135 < ((Xnr x1).length:Int)
  ·have h:=Xmh hp253 h
   refine Xn3 rfl _ rfl ((decide_eq_true hp253))<|Xn9 rfl<|Xmb rfl<|Xn8 rfl<|Xmb rfl<|Xm6 rfl rfl ?_
   obtain ⟨hb254,h⟩:=h
   refine Xm5 0 rfl (Xot Yh3 rfl rfl h21 hb254) gn rfl<|Xm5 1 rfl (Xq7 (.int .u8 (ix (Xnr x1) x135)) 1 ld_5 rfl rfl (Xsb (hlI .u8) hb254 rfl)) gn rfl<|Xm5 2 rfl (Xma rfl) gn rfl<|Xmc 3 rfl<|Xn8 rfl<|Xmb rfl ?_
   have j2:∀ (x257:Bool) (h:Xs2 x1 x135 x136 x137 x257 o1) ,G (Xsn w F r) [.code q72c26,.inBlock 2,.inBlock 1,.code q72c20,.inLoop Xwc,.inBlock 0,.code Ydi] [(3,.pointer (some ⟨gb2,0,none⟩)),(5,.int .u8 (ix (Xnr x1) x135)),(8,.slice A19 x1.size c20),(9,.int .i64 ((Xnr x1).length:Int)),(10,.int .i64 x135),(16,.bool x257)] [.own (.slice A138 n139 c140) 5 1 n139 (x137.flatMap (eI .u8)),.own (.slice A19 x1.size c20) 5 1 x1.size ((Xnr x1).flatMap (eI .u8)),.box gb2 123 [Xrd gb2 x136,.slice A138 n139 c140]] [Sm w.heap.size F w [],St w []]:=by
    intro x257 h
    unfold Xs2 at h
    by_cases hp258:x257=true
    ·have h:=Xmh hp258 h
     refine Xn3 rfl _ rfl (hp258)<|Xm6 rfl rfl<|Xm5 0 rfl (Xm8 rfl) gn rfl<|Xm5 1 rfl (v_conv ⟨_,un_5⟩ un_21 rfl) gn rfl<|Xm5 2 rfl (Yeb un_21 Yak rfl) gn rfl ?_
     obtain ⟨hb259,h⟩:=h
     refine Xm5 3 rfl (Yex rfl rfl hb259) gn rfl ?_
     obtain ⟨r263,hv264,h⟩:=h
     refine Xmr 4 rfl (Xmz [.pointer (some ⟨gb2,0,none⟩),.string ((⟨#[92]⟩:ByteArray)++(Xuz (IntKind.i32.wrap (ix (Xnr x1) x135))))] rfl Try.func71 rfl rfl rfl fun w260 hL261=>?_) gn
     have hp262:=pmI hL261 (.c 2 rfl (.c 0 rfl .n)) (.c 1 rfl .n) (by kernel_rfl)
     refine Calls.mono (Xoa w260 (Fl ([]:List Xmq)) (⟨x136,x137⟩:Xmf) ((⟨#[92]⟩:ByteArray)++(Xuz (IntKind.i32.wrap (ix (Xnr x1) x135)))) gb2 w.heap.size A138 n139 c140 hL261.env.size h141 (hL261.hFl hp262 (Xmt [] rfl)) (hL261.into hp262 _) r263 hv264) ?_
     rintro _ w270 ⟨A265,n266,c267,rfl,hM271,h268⟩
     have hL272:=hL261.call hp262 hM271
     refine ⟨_,_,_,rfl,hL272,?_⟩
     refine Xmc 5 rfl<|Xn5<|Xn5<|Xm6 rfl rfl<|Xm5 0 rfl (Xmn rfl rfl rfl) gn rfl<|Xm5 1 rfl (Xm8 rfl) gn rfl<|Xmc 2 rfl<|Xnp<|Xmj 0 rfl<|Xmj 2 rfl<|Xmj 2 rfl ?_
     have ih:=Out.inl hO1 h
     exact Xng [0,1] (ih A265 n266 c267 h268) ⟨rfl,rfl,rfl,rfl,trivial⟩ (.cons_cons _ (.cons_cons _ (.cons_cons _ (.slnil)))) rfl
    ·have h:=Xmg hp258 h
     refine Xmp rfl _ rfl ((bf hp258))<|Xmb rfl<|Xm6 rfl rfl<|Xm5 0 rfl (Xm8 rfl) gn rfl<|Xm5 1 rfl (Xmn rfl rfl rfl) gn rfl<|Xm5 2 rfl (Xma rfl) gn rfl<|Xmc 3 rfl ?_
     by_cases hp273:ix (Xnr x1) x135=10
     ·have h:=Xmh hp273 h
      refine Xn3 rfl _ rfl ((eqi hp273))<|Xm6 rfl rfl ?_
      obtain ⟨r277,hv278,h⟩:=h
      refine Xmr 0 rfl (Xmz [.pointer (some ⟨gb2,0,none⟩),.string (⟨#[92,110]⟩:ByteArray)] rfl Try.func71 rfl rfl rfl fun w274 hL275=>?_) gn
      have hp276:=pmI hL275 (.c 2 rfl (.c 0 rfl .n)) (.c 1 rfl .n) (by kernel_rfl)
      refine Calls.mono (Xoa w274 (Fl ([]:List Xmq)) (⟨x136,x137⟩:Xmf) (⟨#[92,110]⟩:ByteArray) gb2 w.heap.size A138 n139 c140 hL275.env.size h141 (hL275.hFl hp276 (Xmt [] rfl)) (hL275.into hp276 _) r277 hv278) ?_
      rintro _ w284 ⟨A279,n280,c281,rfl,hM285,h282⟩
      have hL286:=hL275.call hp276 hM285
      refine ⟨_,_,_,rfl,hL286,?_⟩
      refine Xmc 1 rfl<|Xn5<|Xn5<|Xm6 rfl rfl<|Xm5 0 rfl (Xmn rfl rfl rfl) gn rfl<|Xm5 1 rfl (Xm8 rfl) gn rfl<|Xmc 2 rfl<|Xnp<|Xmj 0 rfl<|Xmj 2 rfl<|Xmj 2 rfl ?_
      have ih:=Out.inl hO1 h
      exact Xng [0,1] (ih A279 n280 c281 h282) ⟨rfl,rfl,rfl,rfl,trivial⟩ (.cons_cons _ (.cons_cons _ (.cons_cons _ (.slnil)))) rfl
     ·have h:=Xmg hp273 h
      refine Xmp rfl _ rfl ((nei hp273))<|Xmb rfl ?_
      have j3:∀ (x289:Bool) (h:Xs0 x1 x135 x136 x137 x289 o1) ,G (Xsn w F r) [.code q72c34,.inBlock 2,.inBlock 1,.code q72c20,.inLoop Xwc,.inBlock 0,.code Ydi] [(3,.pointer (some ⟨gb2,0,none⟩)),(5,.int .u8 (ix (Xnr x1) x135)),(8,.slice A19 x1.size c20),(9,.int .i64 ((Xnr x1).length:Int)),(10,.int .i64 x135),(32,.bool x289)] [.own (.slice A138 n139 c140) 5 1 n139 (x137.flatMap (eI .u8)),.own (.slice A19 x1.size c20) 5 1 x1.size ((Xnr x1).flatMap (eI .u8)),.box gb2 123 [Xrd gb2 x136,.slice A138 n139 c140]] [Sm w.heap.size F w [],St w []]:=by
       intro x289 h
       unfold Xs0 at h
       by_cases hp290:x289=true
       ·have h:=Xmh hp290 h
        refine Xn3 rfl _ rfl (hp290) ?_
        obtain ⟨hb291,h⟩:=h
        obtain ⟨hb292,h⟩:=h
        obtain ⟨hb293,h⟩:=h
        obtain ⟨hb294,h⟩:=h
        obtain ⟨r298,hv299,h⟩:=h
        have hns:Region.noSelect (Code.ops q72c35)=true:=by kernel_rfl
        refine Xqx [10] 11 rfl rfl mix rfl (.c 0 rfl (.c 1 rfl .n))<|wfv 0 rfl (Xm8 rfl) gn hns (by kernel_rfl)<|wfv 1 rfl (v_shr rfl rfl (by decide)) gn hns (by kernel_rfl)<|wfv 2 rfl (Yd4 Yak rfl rfl hb291) gn hns (by kernel_rfl)<|wfv 3 rfl (Yeb un_5 Yak rfl) gn hns (by kernel_rfl)<|wfv 4 rfl (Yex rfl rfl hb292) gn hns (by kernel_rfl)<|wfv 5 rfl (Xm8 rfl) gn hns (by kernel_rfl)<|wfv 6 rfl (Xmn rfl rfl rfl) gn hns (by kernel_rfl)<|wfv 7 rfl (Yd4 Yak rfl rfl hb293) gn hns (by kernel_rfl)<|wfv 8 rfl (Yeb un_5 Yak rfl) gn hns (by kernel_rfl)<|wfv 9 rfl (Yex rfl rfl hb294) gn hns (by kernel_rfl) ?_
        refine Xnk [10] (by kernel_rfl) rfl ⟨Xyr 10 rfl gn rfl (Xmz [.pointer (some ⟨gb2,0,none⟩),.string (((⟨#[92,120]⟩:ByteArray)++(Xuz (bt (⟨#[48,49,50,51,52,53,54,55,56,57,97,98,99,100,101,102]⟩:ByteArray) (Yc2 .u8 (ix (Xnr x1) x135) 4))))++(Xuz (bt (⟨#[48,49,50,51,52,53,54,55,56,57,97,98,99,100,101,102]⟩:ByteArray) (bits .and .u8 (ix (Xnr x1) x135) 15))))] rfl Try.func71 rfl rfl rfl fun w318 hL319=>?_),trivial⟩
        have hp320:=pmI hL319 (.c 2 rfl (.c 0 rfl .n)) (.c 1 rfl .n) (by kernel_rfl)
        refine Calls.mono (Xoa w318 (Fl ([]:List Xmq)) (⟨x136,x137⟩:Xmf) (((⟨#[92,120]⟩:ByteArray)++(Xuz (bt (⟨#[48,49,50,51,52,53,54,55,56,57,97,98,99,100,101,102]⟩:ByteArray) (Yc2 .u8 (ix (Xnr x1) x135) 4))))++(Xuz (bt (⟨#[48,49,50,51,52,53,54,55,56,57,97,98,99,100,101,102]⟩:ByteArray) (bits .and .u8 (ix (Xnr x1) x135) 15)))) gb2 w.heap.size A138 n139 c140 hL319.env.size h141 (hL319.hFl hp320 (Xmt [] rfl)) (hL319.into hp320 _) r298 hv299) ?_
        rintro _ w325 ⟨A321,n322,c323,rfl,hM326,h324⟩
        have hL327:=hL319.call hp320 hM326
        refine ⟨_,_,_,rfl,hL327,?_⟩
        unfold NxL
        refine Xq0 (by kernel_rfl)<|Xn5<|Xn5<|Xm6 rfl rfl<|Xm5 0 rfl (Xmn rfl rfl rfl) gn rfl<|Xm5 1 rfl (Xm8 rfl) gn rfl<|Xmc 2 rfl<|Xnp<|Xmj 0 rfl<|Xmj 2 rfl<|Xmj 2 rfl ?_
        have ih:=Out.inl hO1 h
        exact Xng [0,1] (ih A321 n322 c323 h324) ⟨rfl,rfl,rfl,rfl,trivial⟩ (.cons_cons _ (.cons_cons _ (.cons_cons _ (.slnil)))) rfl
       ·have h:=Xmg hp290 h
        refine Xmp rfl _ rfl ((bf hp290))<|Xm6 rfl rfl<|Xm5 0 rfl (Xm8 rfl) gn rfl ?_
        obtain ⟨r331,hv332,h⟩:=h
        refine Xmr 1 rfl (Xmz [.pointer (some ⟨gb2,0,none⟩),.int .u8 (ix (Xnr x1) x135)] rfl Try.func70 rfl rfl rfl fun w328 hL329=>?_) gn
        have hp330:=pmI hL329 (.c 2 rfl (.c 0 rfl .n)) (.c 1 rfl .n) (by kernel_rfl)
        refine Calls.mono (Xo0 w328 (Fl ([]:List Xmq)) (⟨x136,x137⟩:Xmf) (ix (Xnr x1) x135) gb2 w.heap.size A138 n139 c140 hL329.env.size h141 (hL329.hFl hp330 (Xmt [] rfl)) (hL329.into hp330 _) r331 hv332) ?_
        rintro _ w338 ⟨A333,n334,c335,rfl,hM339,h336⟩
        have hL340:=hL329.call hp330 hM339
        refine ⟨_,_,_,rfl,hL340,?_⟩
        refine Xmc 2 rfl<|Xn5<|Xn5<|Xm6 rfl rfl<|Xm5 0 rfl (Xmn rfl rfl rfl) gn rfl<|Xm5 1 rfl (Xm8 rfl) gn rfl<|Xmc 2 rfl<|Xnp<|Xmj 0 rfl<|Xmj 2 rfl<|Xmj 2 rfl ?_
        have ih:=Out.inl hO1 h
        exact Xng [0,1] (ih A333 n334 c335 h336) ⟨rfl,rfl,rfl,rfl,trivial⟩ (.cons_cons _ (.cons_cons _ (.cons_cons _ (.slnil)))) rfl
      refine Xm6 rfl rfl<|Xm5 0 rfl (Xm8 rfl) gn rfl<|Xm5 1 rfl (Xmn rfl rfl rfl) gn rfl<|Xm5 2 rfl (Xm8 rfl) gn rfl ?_
      by_cases hp341:ix (Xnr x1) x135 < 32
      ·have h:=Xmh hp341 h
       refine Xmx 35 rfl ((decide_eq_true hp341))<|Xm9 3 rfl (ps 35 rfl rfl rfl)<|Xm9 4 rfl (ps 35 rfl rfl rfl)<|Xm5 5 rfl (Xmk (b:=true) rfl rfl) gn rfl<|Xm5 6 rfl (Xma rfl) gn rfl<|Xmc 7 rfl ?_
       exact Xng [0,1] (j3 true h) ⟨rfl,rfl,rfl,rfl,rfl,rfl,trivial⟩ (.cons_cons _ (.cons_cons _ (.cons_cons _ (.slnil)))) rfl
      ·have h:=Xmg hp341 h
       refine Xmx 35 rfl ((decide_eq_false hp341))<|Xm5 3 rfl (Xm8 rfl) (gy 35 rfl rfl) rfl<|Xm5 4 rfl (Xmn rfl rfl rfl) (gy 35 rfl rfl) rfl<|Xm5 5 rfl (Xmk (b:=false) rfl rfl) gn rfl<|Xm5 6 rfl (Xma rfl) gn rfl<|Xmc 7 rfl ?_
       exact Xng [0,1] (j3 (decide (ix (Xnr x1) x135 > 126)) h) ⟨rfl,rfl,rfl,rfl,rfl,rfl,trivial⟩ (.cons_cons _ (.cons_cons _ (.cons_cons _ (.slnil)))) rfl
   refine Xm6 rfl rfl<|Xm5 0 rfl (Xm8 rfl) gn rfl<|Xm5 1 rfl (Xmn rfl rfl rfl) gn rfl<|Xm5 2 rfl (Xm8 rfl) gn rfl ?_
   by_cases hp342:ix (Xnr x1) x135=34
   ·have h:=Xmh hp342 h
    refine Xmx 19 rfl ((eqi hp342))<|Xm9 3 rfl (ps 19 rfl rfl rfl)<|Xm9 4 rfl (ps 19 rfl rfl rfl)<|Xm5 5 rfl (Xmk (b:=true) rfl rfl) gn rfl<|Xm5 6 rfl (Xma rfl) gn rfl<|Xmc 7 rfl ?_
    exact Xng [0,1] (j2 true h) ⟨rfl,rfl,rfl,rfl,rfl,rfl,trivial⟩ (.cons_cons _ (.cons_cons _ (.cons_cons _ (.slnil)))) rfl
   ·have h:=Xmg hp342 h
    refine Xmx 19 rfl ((nei hp342))<|Xm5 3 rfl (Xm8 rfl) (gy 19 rfl rfl) rfl<|Xm5 4 rfl (Xmn rfl rfl rfl) (gy 19 rfl rfl) rfl<|Xm5 5 rfl (Xmk (b:=false) rfl rfl) gn rfl<|Xm5 6 rfl (Xma rfl) gn rfl<|Xmc 7 rfl ?_
    exact Xng [0,1] (j2 ((ix (Xnr x1) x135) == 92) h) ⟨rfl,rfl,rfl,rfl,rfl,rfl,trivial⟩ (.cons_cons _ (.cons_cons _ (.cons_cons _ (.slnil)))) rfl
  ·have h:=Xmg hp253 h
   refine Xmp rfl _ rfl ((decide_eq_false hp253))<|Xpw [.code Ydi] rfl rfl<|Xmb rfl<|Xm6 rfl rfl ?_
   obtain ⟨r346,hv347,h⟩:=h
   refine Xmr 0 rfl (Xmz [.pointer (some ⟨gb2,0,none⟩),.int .u8 34] rfl Try.func70 rfl rfl rfl fun w343 hL344=>?_) gn
   have hp345:=pmI hL344 (.c 2 rfl (.c 0 rfl .n)) (.c 1 rfl .n) (by kernel_rfl)
   refine Calls.mono (Xo0 w343 (Fl ([]:List Xmq)) (⟨x136,x137⟩:Xmf) 34 gb2 w.heap.size A138 n139 c140 hL344.env.size h141 (hL344.hFl hp345 (Xmt [] rfl)) (hL344.into hp345 _) r346 hv347) ?_
   rintro _ w353 ⟨A348,n349,c350,rfl,hM354,h351⟩
   have hL355:=hL344.call hp345 hM354
   refine ⟨_,_,_,rfl,hL355,?_⟩
   refine Xmc 1 rfl<|Xmb rfl<|Xm6 rfl rfl ?_
   obtain ⟨r359,hv360,h⟩:=h
   refine Xmr 0 rfl (Xmz [.pointer (some ⟨gb2,0,none⟩)] rfl Try.func73 rfl rfl rfl fun w356 hL357=>?_) gn
   have hp358:=pmI hL357 (.c 0 rfl (.c 1 rfl .n)) (.c 2 rfl .n) (by kernel_rfl)
   refine Calls.mono (Xsj w356 (Fl ([]:List Xmq)) r346 gb2 w.heap.size A348 n349 c350 hL357.env.size h351 (hL357.hFl hp358 (Xmt [] rfl)) (hL357.into hp358 _) r359 hv360) ?_
   rintro _ w361 ⟨rfl,hM362⟩
   have hL363:=hL357.call hp358 hM362
   refine ⟨_,_,_,rfl,hL363,?_⟩
   refine Xm5 1 rfl (Xma rfl) gn rfl<|Xmc 2 rfl ?_
   have h:=Out.inr hO1 h
   refine Xmu [.string r359] rfl Try.func72 rfl (.tmp rfl (.nil)) fun wr hLr=>?_
   have hMr:=hLr.pk0 (.c 1 rfl .n)
   show Xwf w F  r (.returned (Xn4 [.string r359])) wr
   rw [h]
   exact ⟨rfl,hMr⟩
 refine Xmj 1 rfl<|Xmj 1 rfl<|Xmj 2 rfl ?_
 exact Xng [0,1] (key1 _ h A10 n11 c12 h13) ⟨rfl,rfl,rfl,rfl,trivial⟩ (.cons_cons _ (.cons_cons _ (.cons_cons _ (.slnil)))) rfl
end Go.Proofs.Ytmekgfcfooghnaa.K
