/- What the machine's calls do, function by function, printed by my own tool. Condition of each: its relation holds of the answer, and what is handed in lies in memory as told. -/
import Derived.Test.YtmekgfcfooghnaaK2
set_option linter.unusedVariables false
set_option maxRecDepth 100000
set_option maxHeartbeats 4000000
namespace Go.Proofs.Ytmekgfcfooghnaa.K
open Go.Proofs.Ytmekgfcfooghnaa.B Go.Proofs.Ytmekgfcfooghnaa.R Go.RowKit
abbrev Xul (w:World) (F:Nat→Prop) (r:Bool):Ending→World→Prop:=fun e w'=>e=.returned (.bool r)∧B.Loc w w' [] [St w []]
noncomputable abbrev Ycb (w:World) (F:Nat→Prop) (r:Bool):Cx:=⟨Try.prog,75,Try.f75,14,Xul w F  r,w⟩
theorem Xw2 (w:World) (F:Nat→Prop) (x1:Xno) (x14:Int) (A2:Option Addr) (n3:Nat) (c4:Nat) (A6:Option Addr) (n7:Nat) (c8:Nat) (A10:Option Addr) (n11:Nat) (c12:Nat) (h5:Rw Xng w (St w []).av A2 n3 c4 x1.terms) (h9:Rw Xor w (St w []).av A6 n7 c8 x1.syms) (h13:Rw Xo9 w (St w []).av A10 n11 c12 x1.prods) (hF:∀ b,F b→b < w.heap.size∧∀ o ∈ ([]:List (List Nat)),b ∉ o) (hL0:B.Loc w w [] [Sm w.heap.size F w [],St w []]) (r:Bool) (h:Xtp x1 x14 r):Calls Try.prog 75 #[.agg #[.slice A2 n3 c4,.slice A6 n7 c8,.slice A10 n11 c12],.int .i64 x14] w (Xul w F  r):=by
 unfold Xtp at h
 refine Xmq (vs:=[.agg #[.slice A2 n3 c4,.slice A6 n7 c8,.slice A10 n11 c12],.int .i64 x14]) 14 Try.func75 rfl Try.ntmps75 rfl hL0 ?_
 show G (Ycb w F r) _ _ _ _
 refine Xmb rfl<|Xm8 rfl rfl ?_
 refine Xmw 0 rfl (Xtj [.slice A2 n3 c4,.slice A6 n7 c8,.slice A10 n11 c12] rfl rfl rfl fun gb15=>?_) gn
 refine Xm5 1 rfl (Xm9 rfl) gn rfl<|Xmc 2 rfl<|Xmb rfl<|Xm8 rfl rfl<|Xm5 0 rfl (Xm7 rfl) gn rfl<|Xm5 1 rfl (Xmk rfl rfl rfl) gn rfl<|Xm5 2 rfl (Xm7 rfl) gn rfl ?_
 by_cases hp17:x14≥0
 ·have h:=Xmf hp17 h
  refine Xn6 7 rfl ((decide_eq_true hp17))<|Xm5 3 rfl (Xm7 rfl) (gy 7 rfl rfl) rfl<|Xm5 4 rfl (Xmj Xrw rfl) (gy 7 rfl rfl) rfl<|Xm5 5 rfl (Xmx 0 Xus rfl rfl rfl) (gy 7 rfl rfl) rfl<|Xm5 6 rfl (Xmm Ya5 rfl h5.hq) (gy 7 rfl rfl) rfl<|Xm5 7 rfl (Xmk rfl rfl rfl) (gy 7 rfl rfl) rfl<|Xm5 8 rfl (Xmn (b:=true) rfl rfl) gn rfl<|Xm5 9 rfl (Xm9 rfl) gn rfl<|Xmc 10 rfl ?_
  refine Xmt [.bool (decide (x14 < (x1.terms.length:Int)))] rfl Try.func75 rfl (.tmp rfl (.nil)) fun wr hLr=>?_
  have hMr:=hLr.pk0 (.c 1 rfl .n)
  show Xul w F  r (.returned (Xmz [.bool (decide (x14 < (x1.terms.length:Int)))])) wr
  rw [h]
  exact ⟨rfl,hMr⟩
 ·have h:=Xmg hp17 h
  refine Xn6 7 rfl ((decide_eq_false hp17))<|Xma 3 rfl (ps 7 rfl rfl rfl)<|Xma 4 rfl (ps 7 rfl rfl rfl)<|Xma 5 rfl (ps 7 rfl rfl rfl)<|Xma 6 rfl (ps 7 rfl rfl rfl)<|Xma 7 rfl (ps 7 rfl rfl rfl)<|Xm5 8 rfl (Xmn (b:=false) rfl rfl) gn rfl<|Xm5 9 rfl (Xm9 rfl) gn rfl<|Xmc 10 rfl ?_
  refine Xmt [.bool false] rfl Try.func75 rfl (.tmp rfl (.nil)) fun wr hLr=>?_
  have hMr:=hLr.pk0 (.c 1 rfl .n)
  show Xul w F  r (.returned (Xmz [.bool false])) wr
  rw [h]
  exact ⟨rfl,hMr⟩
abbrev Xom (w:World) (F:Nat→Prop) (r:Bool):Ending→World→Prop:=fun e w'=>e=.returned (.bool r)∧B.Loc w w' [] [St w []]
noncomputable abbrev Xta (w:World) (F:Nat→Prop) (r:Bool):Cx:=⟨Try.prog,81,Try.f81,18,Xom w F  r,w⟩
theorem Xsm (w:World) (F:Nat→Prop) (x1:ByteArray) (x2:ByteArray) (hF:∀ b,F b→b < w.heap.size∧∀ o ∈ ([]:List (List Nat)),b ∉ o) (hL0:B.Loc w w [] [Sm w.heap.size F w [],St w []]) (r:Bool) (h:Xou x1 x2 r):Calls Try.prog 81 #[.string x1,.string x2] w (Xom w F  r):=by
 unfold Xou at h
 refine Xmq (vs:=[.string x1,.string x2]) 18 Try.func81 rfl Try.ntmps81 rfl hL0 ?_
 show G (Xta w F r) _ _ _ _
 refine Xmb rfl<|Xm8 rfl rfl<|Xm5 0 rfl (Xm9 rfl) gn rfl<|Xmc 1 rfl<|Xmb rfl<|Xm8 rfl rfl<|Xm5 0 rfl (Xm7 rfl) gn rfl<|Xm5 1 rfl (Yco un_9 rfl) gn rfl<|Xm5 2 rfl (Xm7 rfl) gn rfl<|Xm5 3 rfl (Yco un_9 rfl) gn rfl<|Xm5 4 rfl (Xmk rfl rfl rfl) gn rfl<|Xm5 5 rfl (Xm7 rfl) gn rfl ?_
 by_cases hp3:(x1.size:Int)≥(x2.size:Int)
 ·have h:=Xmf hp3 h
  refine Xn6 10 rfl ((decide_eq_true hp3))<|Xm5 6 rfl (Xm7 rfl) (gy 10 rfl rfl) rfl<|Xm5 7 rfl (Xm7 rfl) (gy 10 rfl rfl) rfl<|Xm5 8 rfl (Yco un_9 rfl) (gy 10 rfl rfl) rfl ?_
  obtain ⟨hb4,h⟩:=h
  refine Xm5 9 rfl (v_cutS 0 (x2.size:Int) un_9 rfl (.inl ⟨rfl,rfl⟩) (.inr ⟨_,_,rfl,rfl⟩) ⟨hb4.1,hb4.2.1⟩ hb4.2.2) (gy 10 rfl rfl) rfl<|Xm5 10 rfl (Xm7 rfl) (gy 10 rfl rfl) rfl<|Xm5 11 rfl (Ydj rfl rfl) (gy 10 rfl rfl) rfl<|Xm5 12 rfl (Xmn (b:=true) rfl rfl) gn rfl<|Xm5 13 rfl (Xm9 rfl) gn rfl<|Xmc 14 rfl ?_
  refine Xmt [.bool (seq (x1.extract (0:Int).toNat ((x2.size:Int):Int).toNat) x2)] rfl Try.func81 rfl (.tmp rfl (.nil)) fun wr hLr=>?_
  have hMr:=hLr.pk0 (.c 1 rfl .n)
  show Xom w F  r (.returned (Xmz [.bool (seq (x1.extract (0:Int).toNat ((x2.size:Int):Int).toNat) x2)])) wr
  rw [h]
  exact ⟨rfl,hMr⟩
 ·have h:=Xmg hp3 h
  refine Xn6 10 rfl ((decide_eq_false hp3))<|Xma 6 rfl (ps 10 rfl rfl rfl)<|Xma 7 rfl (ps 10 rfl rfl rfl)<|Xma 8 rfl (ps 10 rfl rfl rfl)<|Xma 9 rfl (ps 10 rfl rfl rfl)<|Xma 10 rfl (ps 10 rfl rfl rfl)<|Xma 11 rfl (ps 10 rfl rfl rfl)<|Xm5 12 rfl (Xmn (b:=false) rfl rfl) gn rfl<|Xm5 13 rfl (Xm9 rfl) gn rfl<|Xmc 14 rfl ?_
  refine Xmt [.bool false] rfl Try.func81 rfl (.tmp rfl (.nil)) fun wr hLr=>?_
  have hMr:=hLr.pk0 (.c 1 rfl .n)
  show Xom w F  r (.returned (Xmz [.bool false])) wr
  rw [h]
  exact ⟨rfl,hMr⟩
abbrev Xsn (w:World) (F:Nat→Prop) (r:Bool):Ending→World→Prop:=fun e w'=>e=.returned (.bool r)∧B.Loc w w' [] [St w []]
noncomputable abbrev Xxz (w:World) (F:Nat→Prop) (r:Bool):Cx:=⟨Try.prog,77,Try.f77,8,Xsn w F  r,w⟩
theorem Xwc (w:World) (F:Nat→Prop) (x1:ByteArray) (x2:ByteArray) (hF:∀ b,F b→b < w.heap.size∧∀ o ∈ ([]:List (List Nat)),b ∉ o) (hL0:B.Loc w w [] [Sm w.heap.size F w [],St w []]) (r:Bool) (h:Xs4 x1 x2 r):Calls Try.prog 77 #[.string x1,.string x2] w (Xsn w F  r):=by
 unfold Xs4 at h
 refine Xmq (vs:=[.string x1,.string x2]) 8 Try.func77 rfl Try.ntmps77 rfl hL0 ?_
 show G (Xxz w F r) _ _ _ _
 refine Xmb rfl<|Xm8 rfl rfl<|Xm5 0 rfl (Xm9 rfl) gn rfl<|Xmc 1 rfl<|Xmb rfl<|Xm8 rfl rfl<|Xm5 0 rfl (Xm7 rfl) gn rfl<|Xm5 1 rfl (Xm7 rfl) gn rfl ?_
 obtain ⟨r6,hv7,h⟩:=h
 refine Xmw 2 rfl (Xne [.string x1,.string x2] rfl Try.func81 rfl rfl rfl fun w3 hL4=>?_) gn
 have hp5:=pmI hL4 .n .n (by kernel_rfl)
 refine Calls.mono (Xsm w3 (Fl ([]:List Xmp)) x1 x2 (hL4.hFl hp5 (Xms [] rfl)) (hL4.into hp5 _) r6 hv7) ?_
 rintro _ w8 ⟨rfl,hM9⟩
 have hL10:=hL4.call hp5 hM9
 refine ⟨_,_,_,rfl,hL10,?_⟩
 refine Xm5 3 rfl (Xm9 rfl) gn rfl<|Xmc 4 rfl ?_
 refine Xmt [.bool r6] rfl Try.func77 rfl (.tmp rfl (.nil)) fun wr hLr=>?_
 have hMr:=hLr.pk0 (.c 1 rfl .n)
 show Xsn w F  r (.returned (Xmz [.bool r6])) wr
 rw [h]
 exact ⟨rfl,hMr⟩
abbrev Xsp (w:World) (F:Nat→Prop) (r:Bool):Ending→World→Prop:=fun e w'=>e=.returned (.bool r)∧B.Loc w w' [] [St w []]
noncomputable abbrev Ybr (w:World) (F:Nat→Prop) (r:Bool):Cx:=⟨Try.prog,60,Try.f60,26,Xsp w F  r,w⟩
theorem Xyn (w:World) (F:Nat→Prop) (x1:Xno) (x14:Int) (A2:Option Addr) (n3:Nat) (c4:Nat) (A6:Option Addr) (n7:Nat) (c8:Nat) (A10:Option Addr) (n11:Nat) (c12:Nat) (h5:Rw Xng w (St w []).av A2 n3 c4 x1.terms) (h9:Rw Xor w (St w []).av A6 n7 c8 x1.syms) (h13:Rw Xo9 w (St w []).av A10 n11 c12 x1.prods) (hF:∀ b,F b→b < w.heap.size∧∀ o ∈ ([]:List (List Nat)),b ∉ o) (hL0:B.Loc w w [] [Sm w.heap.size F w [],St w []]) (r:Bool) (h:Xu3 x1 x14 r):Calls Try.prog 60 #[.agg #[.slice A2 n3 c4,.slice A6 n7 c8,.slice A10 n11 c12],.int .i64 x14] w (Xsp w F  r):=by
 unfold Xu3 at h
 refine Xmq (vs:=[.agg #[.slice A2 n3 c4,.slice A6 n7 c8,.slice A10 n11 c12],.int .i64 x14]) 26 Try.func60 rfl Try.ntmps60 rfl hL0 ?_
 show G (Ybr w F r) _ _ _ _
 refine Xmb rfl<|Xm8 rfl rfl ?_
 refine Xmw 0 rfl (Xtj [.slice A2 n3 c4,.slice A6 n7 c8,.slice A10 n11 c12] rfl rfl rfl fun gb15=>?_) gn
 refine Xm5 1 rfl (Xm9 rfl) gn rfl<|Xmc 2 rfl<|Xmb rfl<|Xm8 rfl rfl<|Xm5 0 rfl (Xq7 [.slice A2 n3 c4,.slice A6 n7 c8,.slice A10 n11 c12] 0 Xzy rfl rfl rfl rfl) gn rfl<|Xm5 1 rfl (Xm7 rfl) gn rfl ?_
 obtain ⟨r20,hv21,h⟩:=h
 refine Xmw 2 rfl (Xne [.agg #[.slice A2 n3 c4,.slice A6 n7 c8,.slice A10 n11 c12],.int .i64 x14] rfl Try.func75 rfl rfl rfl fun w17 hL18=>?_) gn
 have hp19:=pmI hL18 .n (.c 0 rfl .n) (by kernel_rfl)
 refine Calls.mono (Xw2 w17 (Fl ([]:List Xmp)) x1 x14 A2 n3 c4 A6 n7 c8 A10 n11 c12 (Rw.mono h5 (hL18.toSt hp19 (me 1 rfl))) (Rw.mono h9 (hL18.toSt hp19 (me 1 rfl))) (Rw.mono h13 (hL18.toSt hp19 (me 1 rfl))) (hL18.hFl hp19 (Xms [] rfl)) (hL18.into hp19 _) r20 hv21) ?_
 rintro _ w22 ⟨rfl,hM23⟩
 have hL24:=hL18.call hp19 hM23
 refine ⟨_,_,_,rfl,hL24,?_⟩
 refine Xm5 3 rfl (Xm7 rfl) gn rfl ?_
 by_cases hp25:r20=true
 ·have h:=Xmf hp25 h
  refine Xn6 8 rfl (hp25)<|Xm5 4 rfl (Xmj Xrw rfl) (gy 8 rfl rfl) rfl<|Xm5 5 rfl (Xmx 0 Xus rfl rfl rfl) (gy 8 rfl rfl) rfl<|Xm5 6 rfl (Xm7 rfl) (gy 8 rfl rfl) rfl ?_
  obtain ⟨hb26,h⟩:=h
  have hr27:=Rw.readF (s:=St w []) (hl:=Xq6) (h1:=Xq3) h5 hb26
  refine Xm5 7 rfl (Xn4 (s:=St w []) Xyb rfl rfl h5 hb26) (gy 8 rfl rfl) rfl<|Xm5 8 rfl (Xo6 Xyu rfl) (gy 8 rfl rfl) rfl<|Xm5 9 rfl (Xnl (kk:=(x14:Int).toNat * 2) (j:=1) (St w []) ld_4 rfl hr27 rfl (me 1 rfl)) (gy 8 rfl rfl) rfl<|Xm5 10 rfl (Xrz rfl) (gy 8 rfl rfl) rfl<|Xm5 11 rfl (Xmn (b:=true) rfl rfl) gn rfl<|Xm5 12 rfl (Xm7 rfl) gn rfl ?_
  by_cases hp28:((ix x1.terms x14).lit)=true
  ·have h:=Xmf hp28 h
   refine Xn6 17 rfl ((nf hp28))<|Xma 13 rfl (ps 17 rfl rfl rfl)<|Xma 14 rfl (ps 17 rfl rfl rfl)<|Xma 15 rfl (ps 17 rfl rfl rfl)<|Xma 16 rfl (ps 17 rfl rfl rfl)<|Xma 17 rfl (ps 17 rfl rfl rfl)<|Xma 18 rfl (ps 17 rfl rfl rfl)<|Xma 19 rfl (ps 17 rfl rfl rfl)<|Xm5 20 rfl (Xmn (b:=false) rfl rfl) gn rfl<|Xm5 21 rfl (Xm9 rfl) gn rfl<|Xmc 22 rfl ?_
   refine Xmt [.bool false] rfl Try.func60 rfl (.tmp rfl (.nil)) fun wr hLr=>?_
   have hMr:=hLr.pk0 (.c 1 rfl .n)
   show Xsp w F  r (.returned (Xmz [.bool false])) wr
   rw [h]
   exact ⟨rfl,hMr⟩
  ·have h:=Xmg hp28 h
   refine Xn6 17 rfl ((nt (bf hp28)))<|Xm5 13 rfl (Xmj Xrw rfl) (gy 17 rfl rfl) rfl<|Xm5 14 rfl (Xmx 0 Xus rfl rfl rfl) (gy 17 rfl rfl) rfl<|Xm5 15 rfl (Xm7 rfl) (gy 17 rfl rfl) rfl ?_
   have hr29:=Rw.readF (s:=St w []) (hl:=Xq6) (h1:=Xq3) h5 hb26
   refine Xm5 16 rfl (Xn4 (s:=St w []) Xyb rfl rfl h5 hb26) (gy 17 rfl rfl) rfl<|Xm5 17 rfl (Xo6 Xym rfl) (gy 17 rfl rfl) rfl<|Xm5 18 rfl (Xnl (kk:=(x14:Int).toNat * 2) (j:=0) (St w []) Xwk rfl hr29 rfl (me 1 rfl)) (gy 17 rfl rfl) rfl ?_
   obtain ⟨r33,hv34,h⟩:=h
   refine Xmw 19 rfl (Xne [.string ((ix x1.terms x14).name),.string (⟨#[95]⟩:ByteArray)] rfl Try.func77 rfl rfl rfl fun w30 hL31=>?_) (gy 17 rfl rfl)
   have hp32:=pmI hL31 .n (.c 0 rfl .n) (by kernel_rfl)
   refine Calls.mono (Xwc w30 (Fl ([]:List Xmp)) ((ix x1.terms x14).name) (⟨#[95]⟩:ByteArray) (hL31.hFl hp32 (Xms [] rfl)) (hL31.into hp32 _) r33 hv34) ?_
   rintro _ w35 ⟨rfl,hM36⟩
   have hL37:=hL31.call hp32 hM36
   refine ⟨_,_,_,rfl,hL37,?_⟩
   refine Xm5 20 rfl (Xmn (b:=true) rfl rfl) gn rfl<|Xm5 21 rfl (Xm9 rfl) gn rfl<|Xmc 22 rfl ?_
   refine Xmt [.bool r33] rfl Try.func60 rfl (.tmp rfl (.nil)) fun wr hLr=>?_
   have hMr:=hLr.pk0 (.c 1 rfl .n)
   show Xsp w F  r (.returned (Xmz [.bool r33])) wr
   rw [h]
   exact ⟨rfl,hMr⟩
 ·have h:=Xmg hp25 h
  refine Xn6 8 rfl ((bf hp25))<|Xma 4 rfl (ps 8 rfl rfl rfl)<|Xma 5 rfl (ps 8 rfl rfl rfl)<|Xma 6 rfl (ps 8 rfl rfl rfl)<|Xma 7 rfl (ps 8 rfl rfl rfl)<|Xma 8 rfl (ps 8 rfl rfl rfl)<|Xma 9 rfl (ps 8 rfl rfl rfl)<|Xma 10 rfl (ps 8 rfl rfl rfl)<|Xm5 11 rfl (Xmn (b:=false) rfl rfl) gn rfl<|Xm5 12 rfl (Xm7 rfl) gn rfl<|Xma 13 rfl (ps 17 rfl rfl rfl)<|Xma 14 rfl (ps 17 rfl rfl rfl) ?_
  refine Xma 15 rfl (ps 17 rfl rfl rfl)<|Xma 16 rfl (ps 17 rfl rfl rfl)<|Xma 17 rfl (ps 17 rfl rfl rfl)<|Xma 18 rfl (ps 17 rfl rfl rfl)<|Xma 19 rfl (ps 17 rfl rfl rfl)<|Xm5 20 rfl (Xmn (b:=false) rfl rfl) gn rfl<|Xm5 21 rfl (Xm9 rfl) gn rfl<|Xmc 22 rfl ?_
  refine Xmt [.bool false] rfl Try.func60 rfl (.tmp rfl (.nil)) fun wr hLr=>?_
  have hMr:=hLr.pk0 (.c 1 rfl .n)
  show Xsp w F  r (.returned (Xmz [.bool false])) wr
  rw [h]
  exact ⟨rfl,hMr⟩
abbrev Xvd (w:World) (F:Nat→Prop) (r:List Xm4):Ending→World→Prop:=fun e w'=>∃ A0:Option Addr,∃ n0:Nat,∃ c0:Nat,e=.returned (.slice A0 n0 c0)∧B.Loc w w' [.own (.slice A0 n0 c0) 39 7 n0 (r.flatMap Xme)] [St w []]∧Ow w.heap.size A0 n0 c0 r
noncomputable abbrev Ydl (w:World) (F:Nat→Prop) (r:List Xm4):Cx:=⟨Try.prog,33,Try.f33,13,Xvd w F  r,w⟩
theorem Xwy (w:World) (F:Nat→Prop) (x1:Xml) (x46:Int) (x47:List Xm4) (A2:Option Addr) (n3:Nat) (c4:Nat) (A6:Option Addr) (n7:Nat) (c8:Nat) (A10:Option Addr) (n11:Nat) (c12:Nat) (A14:Option Addr) (n15:Nat) (c16:Nat) (A18:Option Addr) (n19:Nat) (c20:Nat) (A22:Option Addr) (n23:Nat) (c24:Nat) (A26:Option Addr) (n27:Nat) (c28:Nat) (A30:Option Addr) (n31:Nat) (c32:Nat) (A34:Option Addr) (n35:Nat) (c36:Nat) (A38:Option Addr) (n39:Nat) (c40:Nat) (A42:Option Addr) (n43:Nat) (c44:Nat) (A48:Option Addr) (n49:Nat) (c50:Nat) (h5:Rw Xoq w (St w []).av A2 n3 c4 x1.modes) (h9:Rw Xng w (St w []).av A6 n7 c8 x1.gram.terms) (h13:Rw Xor w (St w []).av A10 n11 c12 x1.gram.syms) (h17:Rw Xo9 w (St w []).av A14 n15 c16 x1.gram.prods) (h21:Rw Xqc w (St w []).av A18 n19 c20 x1.rules) (h25:Rw (Kd.slice Xol) w (St w []).av A22 n23 c24 x1.table.actions) (h29:Rw (Kd.slice (Xs2 .i64)) w (St w []).av A26 n27 c28 x1.table.gotos) (h33:Rw Xoc w (St w []).av A30 n31 c32 x1.paints) (h37:Rw Xz4 w (St w []).av A34 n35 c36 x1.folds) (h41:Rw Xop w (St w []).av A38 n39 c40 x1.marks) (h45:Rw Xo4 w (St w []).av A42 n43 c44 x1.injects) (h51:Rw Xmo w (St w []).av A48 n49 c50 x47) (hF:∀ b,F b→b < w.heap.size∧∀ o ∈ ([]:List (List Nat)),b ∉ o) (hL0:B.Loc w w [] [Sm w.heap.size F w [],St w []]) (r:List Xm4) (h:Xto x1 x46 x47 r):Calls Try.prog 33 #[.agg #[.string x1.name,.slice A2 n3 c4,.slice A6 n7 c8,.slice A10 n11 c12,.slice A14 n15 c16,.slice A18 n19 c20,.slice A22 n23 c24,.slice A26 n27 c28,.slice A30 n31 c32,.slice A34 n35 c36,.slice A38 n39 c40,.slice A42 n43 c44],.int .i64 x46,.slice A48 n49 c50] w (Xvd w F  r):=by
 unfold Xto at h
 refine Xmq (vs:=[.agg #[.string x1.name,.slice A2 n3 c4,.slice A6 n7 c8,.slice A10 n11 c12,.slice A14 n15 c16,.slice A18 n19 c20,.slice A22 n23 c24,.slice A26 n27 c28,.slice A30 n31 c32,.slice A34 n35 c36,.slice A38 n39 c40,.slice A42 n43 c44],.int .i64 x46,.slice A48 n49 c50]) 13 Try.func33 rfl Try.ntmps33 rfl hL0 ?_
 show G (Ydl w F r) _ _ _ _
 refine Xmb rfl<|Xm8 rfl rfl ?_
 refine Xmw 0 rfl (Xtj [.string x1.name,.slice A2 n3 c4,.slice A6 n7 c8,.slice A10 n11 c12,.slice A14 n15 c16,.slice A18 n19 c20,.slice A22 n23 c24,.slice A26 n27 c28,.slice A30 n31 c32,.slice A34 n35 c36,.slice A38 n39 c40,.slice A42 n43 c44] rfl rfl rfl fun gb52=>?_) gn
 refine Xm5 1 rfl (Xm9 rfl) gn rfl<|Xmc 2 rfl<|Xmb rfl<|Xmb rfl<|Xm8 rfl rfl<|Xm5 0 rfl (Xmj Xqa rfl) gn rfl<|Xm5 1 rfl (Xq7 [.slice A6 n7 c8,.slice A10 n11 c12,.slice A14 n15 c16] 0 Xzy rfl rfl rfl rfl) gn rfl<|Xm5 2 rfl (Xm7 rfl) gn rfl ?_
 obtain ⟨r57,hv58,h⟩:=h
 refine Xmw 3 rfl (Xne [.agg #[.slice A6 n7 c8,.slice A10 n11 c12,.slice A14 n15 c16],.int .i64 x46] rfl Try.func60 rfl rfl rfl fun w54 hL55=>?_) gn
 have hp56:=pmI hL55 .n (.c 0 rfl .n) (by kernel_rfl)
 refine Calls.mono (Xyn w54 (Fl ([]:List Xmp)) x1.gram x46 A6 n7 c8 A10 n11 c12 A14 n15 c16 (Rw.mono h9 (hL55.toSt hp56 (me 1 rfl))) (Rw.mono h13 (hL55.toSt hp56 (me 1 rfl))) (Rw.mono h17 (hL55.toSt hp56 (me 1 rfl))) (hL55.hFl hp56 (Xms [] rfl)) (hL55.into hp56 _) r57 hv58) ?_
 rintro _ w59 ⟨rfl,hM60⟩
 have hL61:=hL55.call hp56 hM60
 refine ⟨_,_,_,rfl,hL61,?_⟩
 refine Xmc 4 rfl ?_
 by_cases hp62:r57=true
 ·have h:=Xmf hp62 h
  refine Xmy rfl _ rfl (hp62)<|Xmb rfl<|Xm8 rfl rfl<|Xm5 0 rfl (Xm9 rfl) gn rfl<|Xmc 1 rfl<|Xrf 39 7 ?_
  refine Xmt [.slice none 0 0] rfl Try.func33 rfl (.tmp rfl (.nil)) fun wr hLr=>?_
  have hMr:=hLr.pkI (.c 0 rfl .n) (.c 1 rfl .n) (by kernel_rfl) (.c 1 rfl .n)
  show Xvd w F  r (.returned (Xmz [.slice none 0 0])) wr
  rw [h]
  exact ⟨none,0,0,rfl,hMr,(Ow.nil (z:=w.heap.size))⟩
 ·have h:=Xmg hp62 h
  refine Xmr rfl _ rfl ((bf hp62))<|Xn1 rfl<|Xmb rfl<|Xm8 rfl rfl<|Xm5 0 rfl (Xm7 rfl) gn rfl ?_
  obtain ⟨r66,hv67,h⟩:=h
  refine Xmw 1 rfl (Xne [.slice A48 n49 c50] rfl Try.func61 rfl rfl rfl fun w63 hL64=>?_) gn
  have hp65:=pmI hL64 .n (.c 0 rfl .n) (by kernel_rfl)
  refine Calls.mono (Xqe w63 (Fl ([]:List Xmp)) x47 A48 n49 c50 (Rw.mono h51 (hL64.toSt hp65 (me 1 rfl))) (hL64.hFl hp65 (Xms [] rfl)) (hL64.into hp65 _) r66 hv67) ?_
  rintro _ w73 ⟨A68,n69,c70,rfl,hM74,h71⟩
  have hL75:=hL64.call hp65 hM74
  refine ⟨_,_,_,rfl,hL75,?_⟩
  refine Xm5 2 rfl (Xm9 rfl) gn rfl<|Xmc 3 rfl ?_
  refine Xmt [.slice A68 n69 c70] rfl Try.func33 rfl (.tmp rfl (.nil)) fun wr hLr=>?_
  have hMr:=hLr.pkI (.c 0 rfl .n) (.c 1 rfl .n) (by kernel_rfl) (.c 1 rfl .n)
  show Xvd w F  r (.returned (Xmz [.slice A68 n69 c70])) wr
  rw [h]
  exact ⟨A68,n69,c70,rfl,hMr,(Ow.weak hL64.env.size h71)⟩
abbrev Xsd (w:World) (F:Nat→Prop) (r:Bool):Ending→World→Prop:=fun e w'=>e=.returned (.bool r)∧B.Loc w w' [] [St w []]
noncomputable abbrev Yc8 (w:World) (F:Nat→Prop) (r:Bool):Cx:=⟨Try.prog,76,Try.f76,33,Xsd w F  r,w⟩
theorem Xzt (w:World) (F:Nat→Prop) (x1:Xno) (x14:Int) (A2:Option Addr) (n3:Nat) (c4:Nat) (A6:Option Addr) (n7:Nat) (c8:Nat) (A10:Option Addr) (n11:Nat) (c12:Nat) (h5:Rw Xng w (St w []).av A2 n3 c4 x1.terms) (h9:Rw Xor w (St w []).av A6 n7 c8 x1.syms) (h13:Rw Xo9 w (St w []).av A10 n11 c12 x1.prods) (hF:∀ b,F b→b < w.heap.size∧∀ o ∈ ([]:List (List Nat)),b ∉ o) (hL0:B.Loc w w [] [Sm w.heap.size F w [],St w []]) (r:Bool) (h:Xuw x1 x14 r):Calls Try.prog 76 #[.agg #[.slice A2 n3 c4,.slice A6 n7 c8,.slice A10 n11 c12],.int .i64 x14] w (Xsd w F  r):=by
 unfold Xuw at h
 refine Xmq (vs:=[.agg #[.slice A2 n3 c4,.slice A6 n7 c8,.slice A10 n11 c12],.int .i64 x14]) 33 Try.func76 rfl Try.ntmps76 rfl hL0 ?_
 show G (Yc8 w F r) _ _ _ _
 refine Xmb rfl<|Xm8 rfl rfl ?_
 refine Xmw 0 rfl (Xtj [.slice A2 n3 c4,.slice A6 n7 c8,.slice A10 n11 c12] rfl rfl rfl fun gb15=>?_) gn
 refine Xm5 1 rfl (Xm9 rfl) gn rfl<|Xmc 2 rfl<|Xmb rfl<|Xm8 rfl rfl<|Xm5 0 rfl (Xm7 rfl) gn rfl<|Xm5 1 rfl (Xmj Xrw rfl) gn rfl<|Xm5 2 rfl (Xmx 0 Xus rfl rfl rfl) gn rfl<|Xm5 3 rfl (Xmm Ya5 rfl h5.hq) gn rfl<|Xm5 4 rfl (Xmk rfl rfl rfl) gn rfl<|Xm5 5 rfl (Xm9 rfl) gn rfl<|Xmc 6 rfl<|Xmb rfl ?_
 refine Xm8 rfl rfl<|Xm5 0 rfl (Xm7 rfl) gn rfl<|Xm5 1 rfl (Xmk rfl rfl rfl) gn rfl<|Xm5 2 rfl (Xm7 rfl) gn rfl ?_
 by_cases hp17:x14≥0
 ·have h:=Xmf hp17 h
  refine Xn6 13 rfl ((decide_eq_true hp17))<|Xm5 3 rfl (Xm7 rfl) (gy 13 rfl rfl) rfl<|Xm5 4 rfl (Xmk rfl rfl rfl) (gy 13 rfl rfl) rfl<|Xm5 5 rfl (Xmn (b:=true) rfl rfl) gn rfl<|Xm5 6 rfl (Xm7 rfl) gn rfl ?_
  by_cases hp18:w64 (x14 - (x1.terms.length:Int))≥0
  ·have h:=Xmf hp18 h
   refine Xn6 17 rfl ((decide_eq_true hp18))<|Xm5 7 rfl (Xm7 rfl) (gy 17 rfl rfl) rfl<|Xm5 8 rfl (Xmj Xtt rfl) (gy 17 rfl rfl) rfl<|Xm5 9 rfl (Xmx 0 Xy0 rfl rfl rfl) (gy 17 rfl rfl) rfl<|Xm5 10 rfl (Xmm un_44 rfl h9.hq) (gy 17 rfl rfl) rfl<|Xm5 11 rfl (Xmk rfl rfl rfl) (gy 17 rfl rfl) rfl<|Xm5 12 rfl (Xmn (b:=true) rfl rfl) gn rfl<|Xm5 13 rfl (Xm7 rfl) gn rfl ?_
   by_cases hp19:w64 (x14 - (x1.terms.length:Int)) < (x1.syms.length:Int)
   ·have h:=Xmf hp19 h
    refine Xn6 24 rfl ((decide_eq_true hp19))<|Xm5 14 rfl (Xmj Xtt rfl) (gy 24 rfl rfl) rfl<|Xm5 15 rfl (Xmx 0 Xy0 rfl rfl rfl) (gy 24 rfl rfl) rfl<|Xm5 16 rfl (Xm7 rfl) (gy 24 rfl rfl) rfl ?_
    obtain ⟨hb20,h⟩:=h
    have hr21:=Rw.readF (s:=St w []) (hl:=Xsz) (h1:=Xt0) h9 hb20
    refine Xm5 17 rfl (Xn4 (s:=St w []) Xzi rfl rfl h9 hb20) (gy 24 rfl rfl) rfl<|Xm5 18 rfl (Xo6 Yam rfl) (gy 24 rfl rfl) rfl<|Xm5 19 rfl (Xnl (kk:=(w64 (x14 - (x1.terms.length:Int)):Int).toNat * 2) (j:=1) (St w []) ld_72 rfl hr21 rfl (me 1 rfl)) (gy 24 rfl rfl) rfl<|Xm5 20 rfl (Xmk rfl rfl rfl) (gy 24 rfl rfl) rfl<|Xm5 21 rfl (Xmn (b:=true) rfl rfl) gn rfl<|Xm5 22 rfl (Xm9 rfl) gn rfl<|Xmc 23 rfl ?_
    refine Xmt [.bool (((ix x1.syms (w64 (x14 - (x1.terms.length:Int)))).kind) == 1)] rfl Try.func76 rfl (.tmp rfl (.nil)) fun wr hLr=>?_
    have hMr:=hLr.pk0 (.c 1 rfl .n)
    show Xsd w F  r (.returned (Xmz [.bool (((ix x1.syms (w64 (x14 - (x1.terms.length:Int)))).kind) == 1)])) wr
    rw [h]
    exact ⟨rfl,hMr⟩
   ·have h:=Xmg hp19 h
    refine Xn6 24 rfl ((decide_eq_false hp19))<|Xma 14 rfl (ps 24 rfl rfl rfl)<|Xma 15 rfl (ps 24 rfl rfl rfl)<|Xma 16 rfl (ps 24 rfl rfl rfl)<|Xma 17 rfl (ps 24 rfl rfl rfl)<|Xma 18 rfl (ps 24 rfl rfl rfl)<|Xma 19 rfl (ps 24 rfl rfl rfl)<|Xma 20 rfl (ps 24 rfl rfl rfl)<|Xm5 21 rfl (Xmn (b:=false) rfl rfl) gn rfl<|Xm5 22 rfl (Xm9 rfl) gn rfl<|Xmc 23 rfl ?_
    refine Xmt [.bool false] rfl Try.func76 rfl (.tmp rfl (.nil)) fun wr hLr=>?_
    have hMr:=hLr.pk0 (.c 1 rfl .n)
    show Xsd w F  r (.returned (Xmz [.bool false])) wr
    rw [h]
    exact ⟨rfl,hMr⟩
  ·have h:=Xmg hp18 h
   refine Xn6 17 rfl ((decide_eq_false hp18))<|Xma 7 rfl (ps 17 rfl rfl rfl)<|Xma 8 rfl (ps 17 rfl rfl rfl)<|Xma 9 rfl (ps 17 rfl rfl rfl)<|Xma 10 rfl (ps 17 rfl rfl rfl)<|Xma 11 rfl (ps 17 rfl rfl rfl)<|Xm5 12 rfl (Xmn (b:=false) rfl rfl) gn rfl<|Xm5 13 rfl (Xm7 rfl) gn rfl<|Xma 14 rfl (ps 24 rfl rfl rfl)<|Xma 15 rfl (ps 24 rfl rfl rfl)<|Xma 16 rfl (ps 24 rfl rfl rfl)<|Xma 17 rfl (ps 24 rfl rfl rfl) ?_
   refine Xma 18 rfl (ps 24 rfl rfl rfl)<|Xma 19 rfl (ps 24 rfl rfl rfl)<|Xma 20 rfl (ps 24 rfl rfl rfl)<|Xm5 21 rfl (Xmn (b:=false) rfl rfl) gn rfl<|Xm5 22 rfl (Xm9 rfl) gn rfl<|Xmc 23 rfl ?_
   refine Xmt [.bool false] rfl Try.func76 rfl (.tmp rfl (.nil)) fun wr hLr=>?_
   have hMr:=hLr.pk0 (.c 1 rfl .n)
   show Xsd w F  r (.returned (Xmz [.bool false])) wr
   rw [h]
   exact ⟨rfl,hMr⟩
 ·have h:=Xmg hp17 h
  refine Xn6 13 rfl ((decide_eq_false hp17))<|Xma 3 rfl (ps 13 rfl rfl rfl)<|Xma 4 rfl (ps 13 rfl rfl rfl)<|Xm5 5 rfl (Xmn (b:=false) rfl rfl) gn rfl<|Xm5 6 rfl (Xm7 rfl) gn rfl<|Xma 7 rfl (ps 17 rfl rfl rfl)<|Xma 8 rfl (ps 17 rfl rfl rfl)<|Xma 9 rfl (ps 17 rfl rfl rfl)<|Xma 10 rfl (ps 17 rfl rfl rfl)<|Xma 11 rfl (ps 17 rfl rfl rfl)<|Xm5 12 rfl (Xmn (b:=false) rfl rfl) gn rfl<|Xm5 13 rfl (Xm7 rfl) gn rfl ?_
  refine Xma 14 rfl (ps 24 rfl rfl rfl)<|Xma 15 rfl (ps 24 rfl rfl rfl)<|Xma 16 rfl (ps 24 rfl rfl rfl)<|Xma 17 rfl (ps 24 rfl rfl rfl)<|Xma 18 rfl (ps 24 rfl rfl rfl)<|Xma 19 rfl (ps 24 rfl rfl rfl)<|Xma 20 rfl (ps 24 rfl rfl rfl)<|Xm5 21 rfl (Xmn (b:=false) rfl rfl) gn rfl<|Xm5 22 rfl (Xm9 rfl) gn rfl<|Xmc 23 rfl ?_
  refine Xmt [.bool false] rfl Try.func76 rfl (.tmp rfl (.nil)) fun wr hLr=>?_
  have hMr:=hLr.pk0 (.c 1 rfl .n)
  show Xsd w F  r (.returned (Xmz [.bool false])) wr
  rw [h]
  exact ⟨rfl,hMr⟩
noncomputable abbrev q59c13:=Code.fst (Code.snd (Code.snd (Code.fst (Code.snd (Code.snd (Code.snd (Xnv Try.f59)))))))
abbrev Xvk (w:World) (F:Nat→Prop) (r:List Xm4):Ending→World→Prop:=fun e w'=>∃ A0:Option Addr,∃ n0:Nat,∃ c0:Nat,e=.returned (.slice A0 n0 c0)∧B.Loc w w' [.own (.slice A0 n0 c0) 39 7 n0 (r.flatMap Xme)] [St w []]∧Ow w.heap.size A0 n0 c0 r
noncomputable abbrev Ydo (w:World) (F:Nat→Prop) (r:List Xm4):Cx:=⟨Try.prog,59,Try.f59,44,Xvk w F  r,w⟩
theorem Xwx (w:World) (F:Nat→Prop) (x1:ByteArray) (x2:List Xm4) (x7:Int) (A3:Option Addr) (n4:Nat) (c5:Nat) (h6:Rw Xmo w (St w []).av A3 n4 c5 x2) (hF:∀ b,F b→b < w.heap.size∧∀ o ∈ ([]:List (List Nat)),b ∉ o) (hL0:B.Loc w w [] [Sm w.heap.size F w [],St w []]) (r:List Xm4) (h:Xuo x1 x2 x7 r):Calls Try.prog 59 #[.string x1,.slice A3 n4 c5,.int .i64 x7] w (Xvk w F  r):=by
 unfold Xuo at h
 refine Xmq (vs:=[.string x1,.slice A3 n4 c5,.int .i64 x7]) 44 Try.func59 rfl Try.ntmps59 rfl hL0 ?_
 show G (Ydo w F r) _ _ _ _
 refine Xmb rfl<|Xm8 rfl rfl<|Xm5 0 rfl (Xm9 rfl) gn rfl<|Xmc 1 rfl<|Xmb rfl<|Xm8 rfl rfl<|Xm5 0 rfl (Xm7 rfl) gn rfl<|Xm5 1 rfl (Xm7 rfl) gn rfl<|Xm5 2 rfl (Xm7 rfl) gn rfl<|Xm5 3 rfl (Xr0 #[.string x1,.bool true,.string (⟨#[]⟩:ByteArray),.int .i64 x7,.int .i64 x7,.int .i64 0,.int .i64 (-1)] Ybz rfl (by kernel_rfl)) gn rfl ?_
 refine Xmw 4 rfl (Xpf [.string (⟨#[]⟩:ByteArray),.bool false,.string (⟨#[]⟩:ByteArray),.int .i64 0,.int .i64 0,.int .i64 0,.int .i64 0] zr_39 rfl fun gb8=>?_) gn
 refine Xmw 5 rfl (Xpk (vs:=[.string x1,.bool true,.string (⟨#[]⟩:ByteArray),.int .i64 x7,.int .i64 x7,.int .i64 0,.int .i64 (-1)]) (cs':=[.string x1,.bool true,.string (⟨#[]⟩:ByteArray),.int .i64 x7,.int .i64 x7,.int .i64 0,.int .i64 (-1)]) (M':=[.box gb8 39 [.string x1,.bool true,.string (⟨#[]⟩:ByteArray),.int .i64 x7,.int .i64 x7,.int .i64 0,.int .i64 (-1)]]) 0 sz_39 rfl rfl rfl rfl rfl rfl rfl rfl rfl ?_) gn
 refine Xmc 6 rfl<|Xmb rfl<|Xm8 rfl rfl<|Xm5 0 rfl (Xm7 rfl) gn rfl ?_
 obtain ⟨r13,hv14,h⟩:=h
 refine Xmw 1 rfl (Xne [.slice A3 n4 c5] rfl Try.func65 rfl rfl rfl fun w10 hL11=>?_) gn
 have hp12:=pmI hL11 .n (.c 0 rfl .n) (by kernel_rfl)
 refine Calls.mono (Xse w10 (Fl ([]:List Xmp)) x2 A3 n4 c5 (Rw.mono h6 (hL11.toSt hp12 (me 1 rfl))) (hL11.hFl hp12 (Xms [] rfl)) (hL11.into hp12 _) r13 hv14) ?_
 rintro _ w20 ⟨A15,n16,c17,rfl,hM21,h18⟩
 have hL22:=hL11.call hp12 hM21
 refine ⟨_,_,_,rfl,hL22,?_⟩
 refine Xm5 2 rfl (Xm9 rfl) gn rfl<|Xmc 3 rfl<|Xmb rfl<|Xmb rfl<|Xm8 rfl rfl<|Xm5 0 rfl (Xm7 rfl) gn rfl<|Xm5 1 rfl (Xmm Xqp rfl (Ow.weak hL11.env.size h18).hq) gn rfl<|Xm5 2 rfl (Xmj Xsf rfl) gn rfl ?_
 refine Xmw 3 rfl (Xpk (vs:=[.int .i64 (r13.length:Int)]) (cs':=[.string x1,.bool true,.string (⟨#[]⟩:ByteArray),.int .i64 x7,.int .i64 x7,.int .i64 (r13.length:Int),.int .i64 (-1)]) (M':=[.own (.slice A15 n16 c17) 3 1 n16 (r13.flatMap (eI .i64)),.box gb8 39 [.string x1,.bool true,.string (⟨#[]⟩:ByteArray),.int .i64 x7,.int .i64 x7,.int .i64 (r13.length:Int),.int .i64 (-1)]]) 1 Yaa rfl rfl rfl rfl rfl rfl rfl rfl rfl ?_) gn
 refine Xmc 4 rfl<|Xmb rfl<|Xm8 rfl rfl<|Xm5 0 rfl (Xmj Xsf rfl) gn rfl<|Xm5 1 rfl (Xmx 1 Xql rfl rfl rfl) gn rfl<|Xm5 2 rfl (Xmk rfl rfl rfl) gn rfl<|Xmc 3 rfl ?_
 by_cases hp23:(r13.length:Int) > 0
 ·have h:=Xmf hp23 h
  refine Xmy rfl _ rfl ((decide_eq_true hp23)) ?_
  obtain ⟨hb24,h⟩:=h
  obtain ⟨hb25,h⟩:=h
  obtain ⟨hb27,h⟩:=h
  obtain ⟨hb28,h⟩:=h
  have hns:Region.noSelect (Code.ops q59c13)=true:=by kernel_rfl
  refine Ycw [.own (.slice A15 n16 c17) 3 1 n16 (r13.flatMap (eI .i64))] [Sm w.heap.size F w [],St w []] [] 21 rfl rfl mix rfl (.cons_cons _ (.cons _ (.slnil))) (Xms [0,1] rfl)<|wfv 0 rfl (Xm7 rfl) gn hns rfl<|wfv 1 rfl (Xm7 rfl) gn hns rfl<|wfv 2 rfl (Xp3 Xpg rfl rfl (Ow.weak hL11.env.size h18) hb24) gn hns rfl<|wfv 3 rfl (Xs3 (.int .i64 (ix r13 0)) 0 Xql rfl rfl (Xtv (hlI .i64) hb24 rfl)) gn hns rfl ?_
  have hr32:=Rw.readF (s:=St w []) (hl:=Xmv) (h1:=Xna) h6 hb25
  refine wfv 4 rfl (Xn4 (s:=St w []) Xqi rfl rfl h6 hb25) gn hns rfl<|wfv 5 rfl (Xo6 Yaj rfl) gn hns rfl<|wfv 6 rfl (Xnl (kk:=(ix r13 0:Int).toNat * 7) (j:=3) (St w []) Xql rfl hr32 rfl (me 1 rfl)) gn hns rfl<|wfv 7 rfl (Xm7 rfl) gn hns rfl<|wfv 8 rfl (Xm7 rfl) gn hns rfl<|wfv 9 rfl (Xmj Xsf rfl) gn hns rfl ?_
  refine Xn9 [10] (by kernel_rfl) rfl ⟨Xqb 10 rfl gn rfl (Xzx (Xmx 1 Xql rfl rfl rfl) rfl ?_),trivial⟩
  refine ⟨Xms [0] rfl,Xms [0,1] rfl,?_⟩
  refine wfv 11 rfl (Xmk rfl rfl rfl) gn hns rfl<|wfv 12 rfl (Xp3 Xpg rfl rfl (Ow.weak hL11.env.size h18) hb27) gn hns rfl<|wfv 13 rfl (Xs3 (.int .i64 (ix r13 (w64 ((r13.length:Int) - 1)))) 0 Xql rfl rfl (Xtv (hlI .i64) hb27 rfl)) gn hns rfl ?_
  have hr33:=Rw.readF (s:=St w []) (hl:=Xmv) (h1:=Xna) h6 hb28
  refine wfv 14 rfl (Xn4 (s:=St w []) Xqi rfl rfl h6 hb28) gn hns rfl<|wfv 15 rfl (Xo6 Xxm rfl) gn hns rfl<|wfv 16 rfl (Xnl (kk:=(ix r13 (w64 ((r13.length:Int) - 1)):Int).toNat * 7) (j:=4) (St w []) Xql rfl hr33 rfl (me 1 rfl)) gn hns rfl<|wfv 17 rfl (Xmj Yaj rfl) gn hns rfl ?_
  refine Xn9 [18] (by kernel_rfl) rfl ⟨Xqb 18 rfl gn rfl (Xpk (vs:=[.int .i64 ((ix x2 (ix r13 0)).from_)]) (cs':=[.string x1,.bool true,.string (⟨#[]⟩:ByteArray),.int .i64 ((ix x2 (ix r13 0)).from_),.int .i64 x7,.int .i64 (r13.length:Int),.int .i64 (-1)]) (M':=[.own (.slice A15 n16 c17) 3 1 n16 (r13.flatMap (eI .i64)),.box gb8 39 [.string x1,.bool true,.string (⟨#[]⟩:ByteArray),.int .i64 ((ix x2 (ix r13 0)).from_),.int .i64 x7,.int .i64 (r13.length:Int),.int .i64 (-1)]]) 1 Yaa rfl rfl rfl rfl rfl rfl rfl rfl rfl ?_),trivial⟩
  refine ⟨Xms [0] rfl,Xms [0,1] rfl,?_⟩
  refine wfv 19 rfl (Xmj Xxm rfl) gn hns rfl ?_
  refine Xn9 [20] (by kernel_rfl) rfl ⟨Xqb 20 rfl gn rfl (Xpk (vs:=[.int .i64 ((ix x2 (ix r13 (w64 ((r13.length:Int) - 1)))).to)]) (cs':=[.string x1,.bool true,.string (⟨#[]⟩:ByteArray),.int .i64 ((ix x2 (ix r13 0)).from_),.int .i64 ((ix x2 (ix r13 (w64 ((r13.length:Int) - 1)))).to),.int .i64 (r13.length:Int),.int .i64 (-1)]) (M':=[.own (.slice A15 n16 c17) 3 1 n16 (r13.flatMap (eI .i64)),.box gb8 39 [.string x1,.bool true,.string (⟨#[]⟩:ByteArray),.int .i64 ((ix x2 (ix r13 0)).from_),.int .i64 ((ix x2 (ix r13 (w64 ((r13.length:Int) - 1)))).to),.int .i64 (r13.length:Int),.int .i64 (-1)]]) 1 Yaa rfl rfl rfl rfl rfl rfl rfl rfl rfl ?_),trivial⟩
  refine ⟨Xms [0] rfl,Xms [0,1] rfl,?_⟩
  refine Xox (by kernel_rfl)<|Xmb rfl<|Xm8 rfl rfl<|Xm5 0 rfl (Xq7 [.string x1,.bool true,.string (⟨#[]⟩:ByteArray),.int .i64 ((ix x2 (ix r13 0)).from_),.int .i64 ((ix x2 (ix r13 (w64 ((r13.length:Int) - 1)))).to),.int .i64 (r13.length:Int),.int .i64 (-1)] 1 Xy1 rfl rfl rfl rfl) gn rfl ?_
  refine Xmw 1 rfl (Xqd (xs:=([(⟨x1,true,(⟨#[]⟩:ByteArray),(ix x2 (ix r13 0)).from_,(ix x2 (ix r13 (w64 ((r13.length:Int) - 1)))).to,(r13.length:Int),-1⟩:Xm4)]:List Xm4)) [.string x1,.bool true,.string (⟨#[]⟩:ByteArray),.int .i64 ((ix x2 (ix r13 0)).from_),.int .i64 ((ix x2 (ix r13 (w64 ((r13.length:Int) - 1)))).to),.int .i64 (r13.length:Int),.int .i64 (-1)] Xyo rfl (by kernel_rfl) rfl rfl rfl rfl fun gb35 h36=>?_) gn
  refine Xm5 2 rfl (Xm7 rfl) gn rfl ?_
  obtain ⟨x40,hv41,h⟩:=h
  obtain ⟨hb42,h⟩:=h
  refine Xmw 3 rfl (Xrg (zs:=x40) (cells':=x40.flatMap Xme) 0 Xyz rfl rfl rfl h36 (Nat.le_refl _) (Src.readF (s:=St w []) (hl:=Xmv) (h1:=Xna) h6 (me 1 rfl)) (by rw [hv41,List.flatMap_append] <;> rfl) (Xok hv41 h6.hq) hb42 rfl rfl fun A37 c38 h39=>?_) gn
  refine Xm5 4 rfl (Xm9 rfl) gn rfl<|Xmc 5 rfl ?_
  refine Xmt [.slice A37 (1 + n4) c38] rfl Try.func59 rfl (.tmp rfl (.nil)) fun wr hLr=>?_
  have hMr:=hLr.pkI (.c 0 rfl .n) (.c 1 rfl (.c 2 rfl .n)) (by kernel_rfl) (.c 1 rfl .n)
  show Xvk w F  r (.returned (Xmz [.slice A37 (1 + n4) c38])) wr
  rw [h]
  exact ⟨A37,1 + n4,c38,rfl,hMr,h39⟩
 ·have h:=Xmg hp23 h
  refine Xmr rfl _ rfl ((decide_eq_false hp23))<|Xn1 rfl<|Xmb rfl<|Xm8 rfl rfl<|Xm5 0 rfl (Xq7 [.string x1,.bool true,.string (⟨#[]⟩:ByteArray),.int .i64 x7,.int .i64 x7,.int .i64 (r13.length:Int),.int .i64 (-1)] 1 Xy1 rfl rfl rfl rfl) gn rfl ?_
  refine Xmw 1 rfl (Xqd (xs:=([(⟨x1,true,(⟨#[]⟩:ByteArray),x7,x7,(r13.length:Int),-1⟩:Xm4)]:List Xm4)) [.string x1,.bool true,.string (⟨#[]⟩:ByteArray),.int .i64 x7,.int .i64 x7,.int .i64 (r13.length:Int),.int .i64 (-1)] Xyo rfl (by kernel_rfl) rfl rfl rfl rfl fun gb44 h45=>?_) gn
  refine Xm5 2 rfl (Xm7 rfl) gn rfl ?_
  obtain ⟨x49,hv50,h⟩:=h
  obtain ⟨hb51,h⟩:=h
  refine Xmw 3 rfl (Xrg (zs:=x49) (cells':=x49.flatMap Xme) 0 Xyz rfl rfl rfl h45 (Nat.le_refl _) (Src.readF (s:=St w []) (hl:=Xmv) (h1:=Xna) h6 (me 1 rfl)) (by rw [hv50,List.flatMap_append] <;> rfl) (Xok hv50 h6.hq) hb51 rfl rfl fun A46 c47 h48=>?_) gn
  refine Xm5 4 rfl (Xm9 rfl) gn rfl<|Xmc 5 rfl ?_
  refine Xmt [.slice A46 (1 + n4) c47] rfl Try.func59 rfl (.tmp rfl (.nil)) fun wr hLr=>?_
  have hMr:=hLr.pkI (.c 0 rfl .n) (.c 1 rfl (.c 2 rfl .n)) (by kernel_rfl) (.c 1 rfl .n)
  show Xvk w F  r (.returned (Xmz [.slice A46 (1 + n4) c47])) wr
  rw [h]
  exact ⟨A46,1 + n4,c47,rfl,hMr,h48⟩
noncomputable abbrev Ya7:=Code.snd (Code.snd (Code.snd (Xnv Try.f58)))
noncomputable abbrev q58c13:=Code.snd (Code.snd (Code.snd (Code.fst (Code.fst (Code.snd (Code.snd (Xnv Try.f58)))))))
noncomputable abbrev Xz7:=Code.fst (Code.fst (Code.snd (Code.snd q58c13)))
noncomputable abbrev Ycv:=Code.snd Ya7
noncomputable abbrev Xz6:=Code.fst (Code.fst (Code.snd (Code.fst Ya7)))
abbrev Xxd (w:World) (F:Nat→Prop) (r:List Xm4):Ending→World→Prop:=fun e w'=>∃ A0:Option Addr,∃ n0:Nat,∃ c0:Nat,e=.returned (.slice A0 n0 c0)∧B.Loc w w' [.own (.slice A0 n0 c0) 39 7 n0 (r.flatMap Xme)] [St w []]∧Ow w.heap.size A0 n0 c0 r
noncomputable abbrev Xr4 (w:World) (F:Nat→Prop) (r:List Xm4):Cx:=⟨Try.prog,58,Try.f58,84,Xxd w F  r,w⟩
theorem Yab (w:World) (F:Nat→Prop) (x1:Xml) (x46:Xo0) (x47:List Xm4) (x52:Int) (A2:Option Addr) (n3:Nat) (c4:Nat) (A6:Option Addr) (n7:Nat) (c8:Nat) (A10:Option Addr) (n11:Nat) (c12:Nat) (A14:Option Addr) (n15:Nat) (c16:Nat) (A18:Option Addr) (n19:Nat) (c20:Nat) (A22:Option Addr) (n23:Nat) (c24:Nat) (A26:Option Addr) (n27:Nat) (c28:Nat) (A30:Option Addr) (n31:Nat) (c32:Nat) (A34:Option Addr) (n35:Nat) (c36:Nat) (A38:Option Addr) (n39:Nat) (c40:Nat) (A42:Option Addr) (n43:Nat) (c44:Nat) (A48:Option Addr) (n49:Nat) (c50:Nat) (h5:Rw Xoq w (St w []).av A2 n3 c4 x1.modes) (h9:Rw Xng w (St w []).av A6 n7 c8 x1.gram.terms) (h13:Rw Xor w (St w []).av A10 n11 c12 x1.gram.syms) (h17:Rw Xo9 w (St w []).av A14 n15 c16 x1.gram.prods) (h21:Rw Xqc w (St w []).av A18 n19 c20 x1.rules) (h25:Rw (Kd.slice Xol) w (St w []).av A22 n23 c24 x1.table.actions) (h29:Rw (Kd.slice (Xs2 .i64)) w (St w []).av A26 n27 c28 x1.table.gotos) (h33:Rw Xoc w (St w []).av A30 n31 c32 x1.paints) (h37:Rw Xz4 w (St w []).av A34 n35 c36 x1.folds) (h41:Rw Xop w (St w []).av A38 n39 c40 x1.marks) (h45:Rw Xo4 w (St w []).av A42 n43 c44 x1.injects) (h51:Rw Xmo w (St w []).av A48 n49 c50 x47) (hF:∀ b,F b→b < w.heap.size∧∀ o ∈ ([]:List (List Nat)),b ∉ o) (hL0:B.Loc w w [] [Sm w.heap.size F w [],St w []]) (r:List Xm4) (h:Xvx x1 x46 x47 x52 r):Calls Try.prog 58 #[.agg #[.string x1.name,.slice A2 n3 c4,.slice A6 n7 c8,.slice A10 n11 c12,.slice A14 n15 c16,.slice A18 n19 c20,.slice A22 n23 c24,.slice A26 n27 c28,.slice A30 n31 c32,.slice A34 n35 c36,.slice A38 n39 c40,.slice A42 n43 c44],.agg #[.int .i64 x46.sym,.string x46.field,.string x46.as],.slice A48 n49 c50,.int .i64 x52] w (Xxd w F  r):=by
 unfold Xvx at h
 refine Xmq (vs:=[.agg #[.string x1.name,.slice A2 n3 c4,.slice A6 n7 c8,.slice A10 n11 c12,.slice A14 n15 c16,.slice A18 n19 c20,.slice A22 n23 c24,.slice A26 n27 c28,.slice A30 n31 c32,.slice A34 n35 c36,.slice A38 n39 c40,.slice A42 n43 c44],.agg #[.int .i64 x46.sym,.string x46.field,.string x46.as],.slice A48 n49 c50,.int .i64 x52]) 84 Try.func58 rfl Try.ntmps58 rfl hL0 ?_
 show G (Xr4 w F r) _ _ _ _
 refine Xmb rfl<|Xm8 rfl rfl ?_
 refine Xmw 0 rfl (Xtj [.string x1.name,.slice A2 n3 c4,.slice A6 n7 c8,.slice A10 n11 c12,.slice A14 n15 c16,.slice A18 n19 c20,.slice A22 n23 c24,.slice A26 n27 c28,.slice A30 n31 c32,.slice A34 n35 c36,.slice A38 n39 c40,.slice A42 n43 c44] rfl rfl rfl fun gb53=>?_) gn
 refine Xmw 1 rfl (Xtj [.int .i64 x46.sym,.string x46.field,.string x46.as] rfl rfl rfl fun gb55=>?_) gn
 refine Xm5 2 rfl (Xm9 rfl) gn rfl<|Xmc 3 rfl<|Xmb rfl<|Xm8 rfl rfl<|Xm5 0 rfl (Xm7 rfl) gn rfl ?_
 obtain ⟨r60,hv61,h⟩:=h
 refine Xmw 1 rfl (Xne [.slice A48 n49 c50] rfl Try.func61 rfl rfl rfl fun w57 hL58=>?_) gn
 have hp59:=pmI hL58 .n (.c 0 rfl (.c 1 rfl .n)) (by kernel_rfl)
 refine Calls.mono (Xqe w57 (Fl ([]:List Xmp)) x47 A48 n49 c50 (Rw.mono h51 (hL58.toSt hp59 (me 1 rfl))) (hL58.hFl hp59 (Xms [] rfl)) (hL58.into hp59 _) r60 hv61) ?_
 rintro _ w67 ⟨A62,n63,c64,rfl,hM68,h65⟩
 have hL69:=hL58.call hp59 hM68
 refine ⟨_,_,_,rfl,hL69,?_⟩
 refine Xm5 2 rfl (Xm9 rfl) gn rfl<|Xmc 3 rfl<|Xmb rfl<|Xn8 rfl<|Xmb rfl<|Xm8 rfl rfl<|Xm5 0 rfl (Xmj Xu5 rfl) gn rfl<|Xm5 1 rfl (Xmx 1 Xwk rfl rfl rfl) gn rfl<|Xm5 2 rfl (Ydj rfl rfl) gn rfl<|Xm5 3 rfl (Xm9 rfl) gn rfl<|Xmc 4 rfl ?_
 have j1:∀ (x182:List Xm4) (h:Xrv x46 x182 r) (A183:Option Addr) (n184:Nat) (c185:Nat) (h186:Ow w.heap.size A183 n184 c185 x182),G (Xr4 w F r) [.inBlock 0,.code Ya7] [(5,.pointer (some ⟨gb55,0,none⟩)),(9,.slice A183 n184 c185)] [.own (.slice A183 n184 c185) 39 7 n184 (x182.flatMap Xme),.box gb55 104 [.int .i64 x46.sym,.string x46.field,.string x46.as]] [Sm w.heap.size F w [],St w []]:=by
  intro x182 h A183 n184 c185 h186
  unfold Xrv at h
  refine Xnh<|Xmb rfl<|Xmb rfl<|Xm8 rfl rfl<|Xm5 0 rfl (Xm7 rfl) gn rfl ?_
  obtain ⟨r190,hv191,h⟩:=h
  refine Xmw 1 rfl (Xne [.slice A183 n184 c185] rfl Try.func65 rfl rfl rfl fun w187 hL188=>?_) gn
  have hp189:=pmI hL188 .n (.c 0 rfl (.c 1 rfl .n)) (by kernel_rfl)
  refine Calls.mono (Xse w187 (Fl ([]:List Xmp)) x182 A183 n184 c185 (hL188.argO (dk:=Xmo) hp189 [] rfl 0 rfl rfl h186 (me 0 rfl) (Cells.flat _)) (hL188.hFl hp189 (Xms [] rfl)) (hL188.into hp189 _) r190 hv191) ?_
  rintro _ w197 ⟨A192,n193,c194,rfl,hM198,h195⟩
  have hL199:=hL188.call hp189 hM198
  refine ⟨_,_,_,rfl,hL199,?_⟩
  refine Xm5 2 rfl (Xmm Xqp rfl (Ow.weak hL188.env.size h195).hq) gn rfl<|Xm5 3 rfl (Xm7 rfl) gn rfl<|Xmc 4 rfl<|Xn8 rfl<|Xqz rfl ?_
  have key2:∀ s,Xmh (fun (s:(List Xm4) × Int) o=>Xr1 r190 x46 s.1 s.2 o) s r→(fun (s:(List Xm4) × Int)=>∀ (h209:Ow w.heap.size A183 n184 c185 s.1),G (Xr4 w F r) [.code Xz6,.inLoop Xz6,.inBlock 3,.code Ycv] [(5,.pointer (some ⟨gb55,0,none⟩)),(9,.slice A183 n184 c185),(64,.slice A192 n193 c194),(65,.int .i64 (r190.length:Int)),(66,.int .i64 s.2)] [.own (.slice A192 n193 c194) 3 1 n193 (r190.flatMap (eI .i64)),.own (.slice A183 n184 c185) 39 7 n184 (s.1.flatMap Xme),.box gb55 104 [.int .i64 x46.sym,.string x46.field,.string x46.as]] [Sm w.heap.size F w [],St w []]) s:=by
   intro s hs
   refine Xmh.ind (mot:=(fun (s:(List Xm4) × Int)=>∀ (h209:Ow w.heap.size A183 n184 c185 s.1),G (Xr4 w F r) [.code Xz6,.inLoop Xz6,.inBlock 3,.code Ycv] [(5,.pointer (some ⟨gb55,0,none⟩)),(9,.slice A183 n184 c185),(64,.slice A192 n193 c194),(65,.int .i64 (r190.length:Int)),(66,.int .i64 s.2)] [.own (.slice A192 n193 c194) 3 1 n193 (r190.flatMap (eI .i64)),.own (.slice A183 n184 c185) 39 7 n184 (s.1.flatMap Xme),.box gb55 104 [.int .i64 x46.sym,.string x46.field,.string x46.as]] [Sm w.heap.size F w [],St w []])) ?_ hs
   clear hs s
   intro s o1 h hO1
   obtain ⟨x208,x210⟩:=s
   show ∀ (h209:Ow w.heap.size A183 n184 c185 x208),G (Xr4 w F r) [.code Xz6,.inLoop Xz6,.inBlock 3,.code Ycv] [(5,.pointer (some ⟨gb55,0,none⟩)),(9,.slice A183 n184 c185),(64,.slice A192 n193 c194),(65,.int .i64 (r190.length:Int)),(66,.int .i64 x210)] [.own (.slice A192 n193 c194) 3 1 n193 (r190.flatMap (eI .i64)),.own (.slice A183 n184 c185) 39 7 n184 (x208.flatMap Xme),.box gb55 104 [.int .i64 x46.sym,.string x46.field,.string x46.as]] [Sm w.heap.size F w [],St w []]
   intro h209
   have h:Xr1 r190 x46 x208 x210 o1:=h
   unfold Xr1 at h
   refine Xmb rfl<|Xm8 rfl rfl<|Xm5 0 rfl (Xmk rfl rfl rfl) gn rfl<|Xmc 1 rfl<|Xmb rfl ?_
   by_cases hp218:x210 < (r190.length:Int)
   ·have h:=Xmf hp218 h
    refine Xmy rfl _ rfl ((decide_eq_true hp218))<|Xn1 rfl<|Xmb rfl<|Xn8 rfl<|Xmb rfl<|Xm8 rfl rfl ?_
    obtain ⟨hb219,h⟩:=h
    refine Xm5 0 rfl (Xp3 Xpg rfl rfl (Ow.weak hL188.env.size h195) hb219) gn rfl<|Xm5 1 rfl (Xs3 (.int .i64 (ix r190 x210)) 0 Xql rfl rfl (Xtv (hlI .i64) hb219 rfl)) gn rfl<|Xm5 2 rfl (Xm9 rfl) gn rfl<|Xmc 3 rfl<|Xmb rfl<|Xm8 rfl rfl<|Xm5 0 rfl (Xm7 rfl) gn rfl<|Xm5 1 rfl (Xm7 rfl) gn rfl ?_
    obtain ⟨hb220,h⟩:=h
    refine Xm5 2 rfl (Xp3 Xqi rfl rfl h209 hb220) gn rfl<|Xm5 3 rfl (Xo6 Xyq rfl) gn rfl<|Xm5 4 rfl (Xs3 (.string ((ix x208 (ix r190 x210)).field)) 1 Xwk rfl rfl (Ycl Xmv hb220 rfl)) gn rfl<|Xm5 5 rfl (Ydj rfl rfl) gn rfl<|Xmc 6 rfl ?_
    by_cases hp221:(ix x208 (ix r190 x210)).field=(⟨#[]⟩:ByteArray)
    ·have h:=Xmf hp221 h
     refine Xmy rfl _ rfl ((Yau hp221))<|Xm8 rfl rfl<|Xm5 0 rfl (Xm7 rfl) gn rfl<|Xm5 1 rfl (Xm7 rfl) gn rfl<|Xm5 2 rfl (Xmj Ycy rfl) gn rfl<|Xm5 3 rfl (Xmx 2 Xwk rfl rfl rfl) gn rfl<|Xm5 4 rfl (Xp3 Xqi rfl rfl h209 hb220) gn rfl<|Xm5 5 rfl (Xo6 Xyq rfl) gn rfl ?_
     obtain ⟨x222,hv223,h⟩:=h
     refine Xmw 6 rfl (Xx4 (enc:=Xme) (o:=2) (z:=({ (ix x208 (ix r190 x210)) with field:=x46.field })) (vs:=[.string x46.field]) (i:=(ix r190 x210)) 1 Xmv sz_9 rfl rfl rfl rfl rfl h209 hb220 rfl rfl rfl hv223 fun h224=>?_) gn
     refine Xmc 7 rfl<|Xnh<|Xm8 rfl rfl<|Xm5 0 rfl (Xmk rfl rfl rfl) gn rfl<|Xm5 1 rfl (Xm7 rfl) gn rfl<|Xmc 2 rfl<|Xo7 ?_
     have ih:=Out.inl hO1 h
     exact Xnj [0,1] (ih h224) ⟨rfl,rfl,rfl,rfl,rfl,trivial⟩ (.cons_cons _ (.cons_cons _ (.cons_cons _ (.slnil)))) rfl
    ·have h:=Xmg hp221 h
     refine Xmr rfl _ rfl ((Ybh hp221))<|Xn1 rfl<|Xnh<|Xm8 rfl rfl<|Xm5 0 rfl (Xmk rfl rfl rfl) gn rfl<|Xm5 1 rfl (Xm7 rfl) gn rfl<|Xmc 2 rfl<|Xo7 ?_
     have ih:=Out.inl hO1 h
     exact Xnj [0,1] (ih h209) ⟨rfl,rfl,rfl,rfl,rfl,trivial⟩ (.cons_cons _ (.cons_cons _ (.cons_cons _ (.slnil)))) rfl
   ·have h:=Xmg hp218 h
    refine Xmr rfl _ rfl ((decide_eq_false hp218))<|Xqk [.code Ycv] rfl rfl<|Xmb rfl<|Xm8 rfl rfl<|Xm5 0 rfl (Xm7 rfl) gn rfl<|Xm5 1 rfl (Xm9 rfl) gn rfl<|Xmc 2 rfl ?_
    have h:=Out.inr hO1 h
    refine Xmt [.slice A183 n184 c185] rfl Try.func58 rfl (.tmp rfl (.nil)) fun wr hLr=>?_
    have hMr:=hLr.pkI (.c 1 rfl .n) (.c 0 rfl (.c 2 rfl .n)) (by kernel_rfl) (.c 1 rfl .n)
    show Xxd w F  r (.returned (Xmz [.slice A183 n184 c185])) wr
    rw [h]
    exact ⟨A183,n184,c185,rfl,hMr,h209⟩
  exact Xnj [0,1] (key2 _ h h186) ⟨rfl,rfl,rfl,rfl,rfl,trivial⟩ (.cons_cons _ (.cons_cons _ (.cons_cons _ (.slnil)))) rfl
 by_cases hp70:x46.as=(⟨#[]⟩:ByteArray)
 ·have h:=Xmf hp70 h
  refine Xmy rfl _ rfl ((Yau hp70))<|Xm8 rfl rfl<|Xm5 0 rfl (Xq7 [.string x1.name,.slice A2 n3 c4,.slice A6 n7 c8,.slice A10 n11 c12,.slice A14 n15 c16,.slice A18 n19 c20,.slice A22 n23 c24,.slice A26 n27 c28,.slice A30 n31 c32,.slice A34 n35 c36,.slice A38 n39 c40,.slice A42 n43 c44] 2 Xy2 rfl rfl rfl rfl) gn rfl<|Xm5 1 rfl (Xmj Xx5 rfl) gn rfl<|Xm5 2 rfl (Xmx 1 Xql rfl rfl rfl) gn rfl<|Xm5 3 rfl (Xm7 rfl) gn rfl ?_
  obtain ⟨r228,hv229,h⟩:=h
  refine Xmw 4 rfl (Xne [.agg #[.string x1.name,.slice A2 n3 c4,.slice A6 n7 c8,.slice A10 n11 c12,.slice A14 n15 c16,.slice A18 n19 c20,.slice A22 n23 c24,.slice A26 n27 c28,.slice A30 n31 c32,.slice A34 n35 c36,.slice A38 n39 c40,.slice A42 n43 c44],.int .i64 x46.sym,.slice A48 n49 c50] rfl Try.func33 rfl rfl rfl fun w225 hL226=>?_) gn
  have hp227:=pmI hL226 .n (.c 0 rfl (.c 1 rfl (.c 2 rfl .n))) (by kernel_rfl)
  refine Calls.mono (Xwy w225 (Fl ([]:List Xmp)) x1 x46.sym x47 A2 n3 c4 A6 n7 c8 A10 n11 c12 A14 n15 c16 A18 n19 c20 A22 n23 c24 A26 n27 c28 A30 n31 c32 A34 n35 c36 A38 n39 c40 A42 n43 c44 A48 n49 c50 (Rw.mono h5 (hL226.toSt hp227 (me 1 rfl))) (Rw.mono h9 (hL226.toSt hp227 (me 1 rfl))) (Rw.mono h13 (hL226.toSt hp227 (me 1 rfl))) (Rw.mono h17 (hL226.toSt hp227 (me 1 rfl))) (Rw.mono h21 (hL226.toSt hp227 (me 1 rfl))) (Rw.mono h25 (hL226.toSt hp227 (me 1 rfl))) (Rw.mono h29 (hL226.toSt hp227 (me 1 rfl))) (Rw.mono h33 (hL226.toSt hp227 (me 1 rfl))) (Rw.mono h37 (hL226.toSt hp227 (me 1 rfl))) (Rw.mono h41 (hL226.toSt hp227 (me 1 rfl))) (Rw.mono h45 (hL226.toSt hp227 (me 1 rfl))) (Rw.mono h51 (hL226.toSt hp227 (me 1 rfl))) (hL226.hFl hp227 (Xms [] rfl)) (hL226.into hp227 _) r228 hv229) ?_
  rintro _ w235 ⟨A230,n231,c232,rfl,hM236,h233⟩
  have hL237:=hL226.call hp227 hM236
  refine ⟨_,_,_,rfl,hL237,?_⟩
  refine Xm5 5 rfl (Xm9 rfl) gn rfl<|Xmc 6 rfl ?_
  exact Xnj [0,1] (j1 r228 h A230 n231 c232 (Ow.weak hL226.env.size h233)) ⟨rfl,rfl,trivial⟩ (.cons_cons _ (.cons _ (.cons_cons _ (.cons _ (.slnil))))) rfl
 ·have h:=Xmg hp70 h
  refine Xmr rfl _ rfl ((Ybh hp70))<|Xmb rfl ?_
  have j3:∀ (x256:Bool) (h:Xrx x46 r60 x52 x256 r) ,G (Xr4 w F r) [.code q58c13,.inBlock 0,.code Ya7] [(3,.int .i64 x52),(5,.pointer (some ⟨gb55,0,none⟩)),(9,.slice A62 n63 c64),(43,.bool x256)] [.own (.slice A62 n63 c64) 39 7 n63 (r60.flatMap Xme),.box gb55 104 [.int .i64 x46.sym,.string x46.field,.string x46.as]] [Sm w.heap.size F w [],St w []]:=by
   intro x256 h
   unfold Xrx at h
   by_cases hp257:x256=true
   ·have h:=Xmf hp257 h
    refine Xmy rfl _ rfl (hp257)<|Xm8 rfl rfl<|Xm5 0 rfl (Xmj Xu5 rfl) gn rfl<|Xm5 1 rfl (Xmx 1 Xwk rfl rfl rfl) gn rfl<|Xm5 2 rfl (Xm7 rfl) gn rfl<|Xm5 3 rfl (Xm7 rfl) gn rfl ?_
    obtain ⟨r261,hv262,h⟩:=h
    refine Xmw 4 rfl (Xne [.string x46.as,.slice A62 n63 c64,.int .i64 x52] rfl Try.func59 rfl rfl rfl fun w258 hL259=>?_) gn
    have hp260:=pmI hL259 .n (.c 0 rfl (.c 1 rfl .n)) (by kernel_rfl)
    refine Calls.mono (Xwx w258 (Fl ([]:List Xmp)) x46.as r60 x52 A62 n63 c64 (hL259.argO (dk:=Xmo) hp260 [] rfl 0 rfl rfl (Ow.weak hL58.env.size h65) (me 0 rfl) (Cells.flat _)) (hL259.hFl hp260 (Xms [] rfl)) (hL259.into hp260 _) r261 hv262) ?_
    rintro _ w268 ⟨A263,n264,c265,rfl,hM269,h266⟩
    have hL270:=hL259.call hp260 hM269
    refine ⟨_,_,_,rfl,hL270,?_⟩
    refine Xm5 5 rfl (Xm9 rfl) gn rfl<|Xmc 6 rfl ?_
    exact Xnj [0,1] (j1 r261 h A263 n264 c265 (Ow.weak hL259.env.size h266)) ⟨rfl,rfl,trivial⟩ (.cons_cons _ (.cons _ (.cons_cons _ (.slnil)))) rfl
   ·have h:=Xmg hp257 h
    refine Xmr rfl _ rfl ((bf hp257))<|Xmb rfl<|Xm8 rfl rfl<|Xm5 0 rfl (Xm7 rfl) gn rfl ?_
    obtain ⟨r274,hv275,h⟩:=h
    refine Xmw 1 rfl (Xne [.slice A62 n63 c64] rfl Try.func65 rfl rfl rfl fun w271 hL272=>?_) gn
    have hp273:=pmI hL272 .n (.c 0 rfl (.c 1 rfl .n)) (by kernel_rfl)
    refine Calls.mono (Xse w271 (Fl ([]:List Xmp)) r60 A62 n63 c64 (hL272.argO (dk:=Xmo) hp273 [] rfl 0 rfl rfl (Ow.weak hL58.env.size h65) (me 0 rfl) (Cells.flat _)) (hL272.hFl hp273 (Xms [] rfl)) (hL272.into hp273 _) r274 hv275) ?_
    rintro _ w281 ⟨A276,n277,c278,rfl,hM282,h279⟩
    have hL283:=hL272.call hp273 hM282
    refine ⟨_,_,_,rfl,hL283,?_⟩
    refine Xm5 2 rfl (Xmm Xqp rfl (Ow.weak hL272.env.size h279).hq) gn rfl<|Xm5 3 rfl (Xm7 rfl) gn rfl<|Xmc 4 rfl<|Xn8 rfl<|Xqz rfl ?_
    have key4:∀ s,Xmh (fun (s:(List Xm4) × Int) o=>Xr6 r274 x46 s.1 s.2 o) s r→(fun (s:(List Xm4) × Int)=>∀ (h298:Ow w.heap.size A62 n63 c64 s.1),G (Xr4 w F r) [.code Xz7,.inLoop Xz7,.inBlock 1,.inBlock 0,.code Ya7] [(5,.pointer (some ⟨gb55,0,none⟩)),(9,.slice A62 n63 c64),(17,.slice A276 n277 c278),(18,.int .i64 (r274.length:Int)),(19,.int .i64 s.2)] [.own (.slice A276 n277 c278) 3 1 n277 (r274.flatMap (eI .i64)),.own (.slice A62 n63 c64) 39 7 n63 (s.1.flatMap Xme),.box gb55 104 [.int .i64 x46.sym,.string x46.field,.string x46.as]] [Sm w.heap.size F w [],St w []]) s:=by
     intro s hs
     refine Xmh.ind (mot:=(fun (s:(List Xm4) × Int)=>∀ (h298:Ow w.heap.size A62 n63 c64 s.1),G (Xr4 w F r) [.code Xz7,.inLoop Xz7,.inBlock 1,.inBlock 0,.code Ya7] [(5,.pointer (some ⟨gb55,0,none⟩)),(9,.slice A62 n63 c64),(17,.slice A276 n277 c278),(18,.int .i64 (r274.length:Int)),(19,.int .i64 s.2)] [.own (.slice A276 n277 c278) 3 1 n277 (r274.flatMap (eI .i64)),.own (.slice A62 n63 c64) 39 7 n63 (s.1.flatMap Xme),.box gb55 104 [.int .i64 x46.sym,.string x46.field,.string x46.as]] [Sm w.heap.size F w [],St w []])) ?_ hs
     clear hs s
     intro s o1 h hO1
     obtain ⟨x297,x299⟩:=s
     show ∀ (h298:Ow w.heap.size A62 n63 c64 x297),G (Xr4 w F r) [.code Xz7,.inLoop Xz7,.inBlock 1,.inBlock 0,.code Ya7] [(5,.pointer (some ⟨gb55,0,none⟩)),(9,.slice A62 n63 c64),(17,.slice A276 n277 c278),(18,.int .i64 (r274.length:Int)),(19,.int .i64 x299)] [.own (.slice A276 n277 c278) 3 1 n277 (r274.flatMap (eI .i64)),.own (.slice A62 n63 c64) 39 7 n63 (x297.flatMap Xme),.box gb55 104 [.int .i64 x46.sym,.string x46.field,.string x46.as]] [Sm w.heap.size F w [],St w []]
     intro h298
     have h:Xr6 r274 x46 x297 x299 o1:=h
     unfold Xr6 at h
     refine Xmb rfl<|Xm8 rfl rfl<|Xm5 0 rfl (Xmk rfl rfl rfl) gn rfl<|Xmc 1 rfl<|Xmb rfl ?_
     by_cases hp312:x299 < (r274.length:Int)
     ·have h:=Xmf hp312 h
      refine Xmy rfl _ rfl ((decide_eq_true hp312))<|Xn1 rfl<|Xmb rfl<|Xn8 rfl<|Xmb rfl<|Xm8 rfl rfl ?_
      obtain ⟨hb313,h⟩:=h
      refine Xm5 0 rfl (Xp3 Xpg rfl rfl (Ow.weak hL272.env.size h279) hb313) gn rfl<|Xm5 1 rfl (Xs3 (.int .i64 (ix r274 x299)) 0 Xql rfl rfl (Xtv (hlI .i64) hb313 rfl)) gn rfl<|Xm5 2 rfl (Xm9 rfl) gn rfl<|Xmc 3 rfl<|Xm8 rfl rfl<|Xm5 0 rfl (Xm7 rfl) gn rfl<|Xm5 1 rfl (Xm7 rfl) gn rfl<|Xm5 2 rfl (Xm7 rfl) gn rfl<|Xm5 3 rfl (Xm7 rfl) gn rfl<|Xm5 4 rfl (Xmj Xu5 rfl) gn rfl<|Xm5 5 rfl (Xmx 2 Xwk rfl rfl rfl) gn rfl ?_
      obtain ⟨hb314,h⟩:=h
      refine Xm5 6 rfl (Xp3 Xqi rfl rfl h298 hb314) gn rfl<|Xm5 7 rfl (Xo6 Yai rfl) gn rfl ?_
      obtain ⟨x315,hv316,h⟩:=h
      refine Xmw 8 rfl (Xx4 (enc:=Xme) (o:=0) (z:=({ (ix x297 (ix r274 x299)) with name:=x46.as })) (vs:=[.string x46.as]) (i:=(ix r274 x299)) 1 Xmv sz_9 rfl rfl rfl rfl rfl h298 hb314 rfl rfl rfl hv316 fun h317=>?_) gn
      obtain ⟨hb318,h⟩:=h
      refine Xm5 9 rfl (Xp3 Xqi rfl rfl h317 hb318) gn rfl<|Xm5 10 rfl (Xo6 Yf6 rfl) gn rfl ?_
      obtain ⟨x319,hv320,h⟩:=h
      refine Xmw 11 rfl (Xx4 (enc:=Xme) (o:=1) (z:=({ (ix x315 (ix r274 x299)) with named:=true })) (vs:=[.bool true]) (i:=(ix r274 x299)) 1 Xmv sz_4 rfl rfl rfl rfl rfl h317 hb318 rfl rfl rfl hv320 fun h321=>?_) gn
      refine Xmc 12 rfl<|Xnh<|Xm8 rfl rfl<|Xm5 0 rfl (Xmk rfl rfl rfl) gn rfl<|Xm5 1 rfl (Xm7 rfl) gn rfl<|Xmc 2 rfl<|Xo7 ?_
      have ih:=Out.inl hO1 h
      exact Xnj [0,1] (ih h321) ⟨rfl,rfl,rfl,rfl,rfl,trivial⟩ (.cons_cons _ (.cons_cons _ (.cons_cons _ (.slnil)))) rfl
     ·have h:=Xmg hp312 h
      refine Xmr rfl _ rfl ((decide_eq_false hp312))<|Xqk [.inBlock 0,.code Ya7] rfl rfl ?_
      obtain ⟨q322,hq323,h⟩:=h
      have hq323:=Out.inr hO1 hq323
      rw [← hq323] at h
      exact Xnj [0,1] (j1 x297 h A62 n63 c64 h298) ⟨rfl,rfl,trivial⟩ (.cons _ (.cons_cons _ (.cons_cons _ (.slnil)))) rfl
    exact Xnj [0,1] (key4 _ h (Ow.weak hL58.env.size h65)) ⟨rfl,rfl,rfl,rfl,rfl,trivial⟩ (.cons_cons _ (.cons_cons _ (.cons_cons _ (.slnil)))) rfl
  refine Xm8 rfl rfl<|Xm5 0 rfl (Xmj Xqa rfl) gn rfl<|Xm5 1 rfl (Xq7 [.slice A6 n7 c8,.slice A10 n11 c12,.slice A14 n15 c16] 2 Xzy rfl rfl rfl rfl) gn rfl<|Xm5 2 rfl (Xmj Xx5 rfl) gn rfl<|Xm5 3 rfl (Xmx 1 Xql rfl rfl rfl) gn rfl ?_
  obtain ⟨r327,hv328,h⟩:=h
  refine Xmw 4 rfl (Xne [.agg #[.slice A6 n7 c8,.slice A10 n11 c12,.slice A14 n15 c16],.int .i64 x46.sym] rfl Try.func75 rfl rfl rfl fun w324 hL325=>?_) gn
  have hp326:=pmI hL325 .n (.c 0 rfl (.c 1 rfl (.c 2 rfl .n))) (by kernel_rfl)
  refine Calls.mono (Xw2 w324 (Fl ([]:List Xmp)) x1.gram x46.sym A6 n7 c8 A10 n11 c12 A14 n15 c16 (Rw.mono h9 (hL325.toSt hp326 (me 1 rfl))) (Rw.mono h13 (hL325.toSt hp326 (me 1 rfl))) (Rw.mono h17 (hL325.toSt hp326 (me 1 rfl))) (hL325.hFl hp326 (Xms [] rfl)) (hL325.into hp326 _) r327 hv328) ?_
  rintro _ w329 ⟨rfl,hM330⟩
  have hL331:=hL325.call hp326 hM330
  refine ⟨_,_,_,rfl,hL331,?_⟩
  refine Xm5 5 rfl (Xrz rfl) gn rfl<|Xm5 6 rfl (Xm7 rfl) gn rfl ?_
  by_cases hp332:r327=true
  ·have h:=Xmf hp332 h
   refine Xn6 50 rfl ((nf hp332))<|Xma 7 rfl (ps 50 rfl rfl rfl)<|Xma 8 rfl (ps 50 rfl rfl rfl)<|Xma 9 rfl (ps 50 rfl rfl rfl)<|Xma 10 rfl (ps 50 rfl rfl rfl)<|Xma 11 rfl (ps 50 rfl rfl rfl)<|Xma 12 rfl (ps 50 rfl rfl rfl)<|Xm5 13 rfl (Xmn (b:=false) rfl rfl) gn rfl<|Xm5 14 rfl (Xm9 rfl) gn rfl<|Xmc 15 rfl ?_
   exact Xnj [0,1] (j3 false h) ⟨rfl,rfl,rfl,rfl,trivial⟩ (.cons_cons _ (.cons_cons _ (.cons _ (.slnil)))) rfl
  ·have h:=Xmg hp332 h
   refine Xn6 50 rfl ((nt (bf hp332)))<|Xm5 7 rfl (Xmj Xqa rfl) (gy 50 rfl rfl) rfl<|Xm5 8 rfl (Xq7 [.slice A6 n7 c8,.slice A10 n11 c12,.slice A14 n15 c16] 2 Xzy rfl rfl rfl rfl) (gy 50 rfl rfl) rfl<|Xm5 9 rfl (Xmj Xx5 rfl) (gy 50 rfl rfl) rfl<|Xm5 10 rfl (Xmx 1 Xql rfl rfl rfl) (gy 50 rfl rfl) rfl ?_
   obtain ⟨r336,hv337,h⟩:=h
   refine Xmw 11 rfl (Xne [.agg #[.slice A6 n7 c8,.slice A10 n11 c12,.slice A14 n15 c16],.int .i64 x46.sym] rfl Try.func76 rfl rfl rfl fun w333 hL334=>?_) (gy 50 rfl rfl)
   have hp335:=pmI hL334 .n (.c 0 rfl (.c 1 rfl (.c 2 rfl .n))) (by kernel_rfl)
   refine Calls.mono (Xzt w333 (Fl ([]:List Xmp)) x1.gram x46.sym A6 n7 c8 A10 n11 c12 A14 n15 c16 (Rw.mono h9 (hL334.toSt hp335 (me 1 rfl))) (Rw.mono h13 (hL334.toSt hp335 (me 1 rfl))) (Rw.mono h17 (hL334.toSt hp335 (me 1 rfl))) (hL334.hFl hp335 (Xms [] rfl)) (hL334.into hp335 _) r336 hv337) ?_
   rintro _ w338 ⟨rfl,hM339⟩
   have hL340:=hL334.call hp335 hM339
   refine ⟨_,_,_,rfl,hL340,?_⟩
   refine Xm5 12 rfl (Xrz rfl) (gy 50 rfl rfl) rfl<|Xm5 13 rfl (Xmn (b:=true) rfl rfl) gn rfl<|Xm5 14 rfl (Xm9 rfl) gn rfl<|Xmc 15 rfl ?_
   exact Xnj [0,1] (j3 (!r336) h) ⟨rfl,rfl,rfl,rfl,trivial⟩ (.cons_cons _ (.cons_cons _ (.cons _ (.slnil)))) rfl
noncomputable abbrev q32c4:=Code.snd (Code.snd (Xnv Try.f32))
noncomputable abbrev q32c6:=Code.snd (Code.fst (Code.snd (Xnv Try.f32)))
noncomputable abbrev Ye9:=Code.snd (Code.snd q32c4)
noncomputable abbrev q32c16:=Code.snd (Code.fst (Code.snd q32c4))
noncomputable abbrev Xzc:=Code.snd (Code.snd Ye9)
noncomputable abbrev Xyi:=Code.fst (Code.fst (Code.snd (Code.fst (Code.snd Ye9))))
noncomputable abbrev q32c41:=Code.snd (Code.snd (Code.fst (Code.fst (Code.snd (Code.snd Xyi)))))
noncomputable abbrev q32c49:=Code.snd Xzc
noncomputable abbrev q32c51:=Code.snd (Code.fst Xzc)
noncomputable abbrev q32c54:=Code.fst (Code.fst q32c51)
abbrev Xrb (w:World) (F:Nat→Prop) (r:List Xm4):Ending→World→Prop:=fun e w'=>∃ A0:Option Addr,∃ n0:Nat,∃ c0:Nat,e=.returned (.slice A0 n0 c0)∧B.Loc w w' [.own (.slice A0 n0 c0) 39 7 n0 (r.flatMap Xme)] [St w []]∧Ow w.heap.size A0 n0 c0 r
noncomputable abbrev Xrc (w:World) (F:Nat→Prop) (r:List Xm4):Cx:=⟨Try.prog,32,Try.f32,113,Xrb w F  r,w⟩
theorem Xyx (w:World) (F:Nat→Prop) (x1:Xml) (x46:Int) (x47:List (List Xm4)) (x52:List Int) (A2:Option Addr) (n3:Nat) (c4:Nat) (A6:Option Addr) (n7:Nat) (c8:Nat) (A10:Option Addr) (n11:Nat) (c12:Nat) (A14:Option Addr) (n15:Nat) (c16:Nat) (A18:Option Addr) (n19:Nat) (c20:Nat) (A22:Option Addr) (n23:Nat) (c24:Nat) (A26:Option Addr) (n27:Nat) (c28:Nat) (A30:Option Addr) (n31:Nat) (c32:Nat) (A34:Option Addr) (n35:Nat) (c36:Nat) (A38:Option Addr) (n39:Nat) (c40:Nat) (A42:Option Addr) (n43:Nat) (c44:Nat) (A48:Option Addr) (n49:Nat) (c50:Nat) (A53:Option Addr) (n54:Nat) (c55:Nat) (h5:Rw Xoq w (St w []).av A2 n3 c4 x1.modes) (h9:Rw Xng w (St w []).av A6 n7 c8 x1.gram.terms) (h13:Rw Xor w (St w []).av A10 n11 c12 x1.gram.syms) (h17:Rw Xo9 w (St w []).av A14 n15 c16 x1.gram.prods) (h21:Rw Xqc w (St w []).av A18 n19 c20 x1.rules) (h25:Rw (Kd.slice Xol) w (St w []).av A22 n23 c24 x1.table.actions) (h29:Rw (Kd.slice (Xs2 .i64)) w (St w []).av A26 n27 c28 x1.table.gotos) (h33:Rw Xoc w (St w []).av A30 n31 c32 x1.paints) (h37:Rw Xz4 w (St w []).av A34 n35 c36 x1.folds) (h41:Rw Xop w (St w []).av A38 n39 c40 x1.marks) (h45:Rw Xo4 w (St w []).av A42 n43 c44 x1.injects) (h51:Rw (Kd.slice Xmo) w (St w []).av A48 n49 c50 x47) (h56:Rw (Xs2 .i64) w (St w []).av A53 n54 c55 x52) (hF:∀ b,F b→b < w.heap.size∧∀ o ∈ ([]:List (List Nat)),b ∉ o) (hL0:B.Loc w w [] [Sm w.heap.size F w [],St w []]) (r:List Xm4) (h:Xu4 x1 x46 x47 x52 r):Calls Try.prog 32 #[.agg #[.string x1.name,.slice A2 n3 c4,.slice A6 n7 c8,.slice A10 n11 c12,.slice A14 n15 c16,.slice A18 n19 c20,.slice A22 n23 c24,.slice A26 n27 c28,.slice A30 n31 c32,.slice A34 n35 c36,.slice A38 n39 c40,.slice A42 n43 c44],.int .i64 x46,.slice A48 n49 c50,.slice A53 n54 c55] w (Xrb w F  r):=by
 unfold Xu4 at h
 refine Xmq (vs:=[.agg #[.string x1.name,.slice A2 n3 c4,.slice A6 n7 c8,.slice A10 n11 c12,.slice A14 n15 c16,.slice A18 n19 c20,.slice A22 n23 c24,.slice A26 n27 c28,.slice A30 n31 c32,.slice A34 n35 c36,.slice A38 n39 c40,.slice A42 n43 c44],.int .i64 x46,.slice A48 n49 c50,.slice A53 n54 c55]) 113 Try.func32 rfl Try.ntmps32 rfl hL0 ?_
 show G (Xrc w F r) _ _ _ _
 refine Xmb rfl<|Xm8 rfl rfl ?_
 refine Xmw 0 rfl (Xtj [.string x1.name,.slice A2 n3 c4,.slice A6 n7 c8,.slice A10 n11 c12,.slice A14 n15 c16,.slice A18 n19 c20,.slice A22 n23 c24,.slice A26 n27 c28,.slice A30 n31 c32,.slice A34 n35 c36,.slice A38 n39 c40,.slice A42 n43 c44] rfl rfl rfl fun gb57=>?_) gn
 refine Xm5 1 rfl (Xm9 rfl) gn rfl<|Xmc 2 rfl<|Xmb rfl<|Xmb rfl ?_
 have j1:∀ (x61:Bool) (h:Xrn x46 x1 x47 x52 x61 r) ,G (Xrc w F r) [.code q32c6,.code q32c4] [(1,.int .i64 x46),(2,.slice A48 n49 c50),(3,.slice A53 n54 c55),(4,.pointer (some ⟨gb57,0,none⟩)),(22,.bool x61)] [.box gb57 58 [.string x1.name,.slice A2 n3 c4,.slice A6 n7 c8,.slice A10 n11 c12,.slice A14 n15 c16,.slice A18 n19 c20,.slice A22 n23 c24,.slice A26 n27 c28,.slice A30 n31 c32,.slice A34 n35 c36,.slice A38 n39 c40,.slice A42 n43 c44]] [Sm w.heap.size F w [],St w []]:=by
  intro x61 h
  unfold Xrn at h
  by_cases hp62:x61=true
  ·have h:=Xmf hp62 h
   refine Xmy rfl _ rfl (hp62)<|Xmb rfl<|Xm8 rfl rfl<|Xm5 0 rfl (Xm9 rfl) gn rfl<|Xmc 1 rfl<|Xrf 39 7 ?_
   refine Xmt [.slice none 0 0] rfl Try.func32 rfl (.tmp rfl (.nil)) fun wr hLr=>?_
   have hMr:=hLr.pkI (.c 0 rfl .n) (.c 1 rfl .n) (by kernel_rfl) (.c 1 rfl .n)
   show Xrb w F  r (.returned (Xmz [.slice none 0 0])) wr
   rw [h]
   exact ⟨none,0,0,rfl,hMr,(Ow.nil (z:=w.heap.size))⟩
  ·have h:=Xmg hp62 h
   refine Xmr rfl _ rfl ((bf hp62))<|Xn1 rfl<|Xmb rfl<|Xm8 rfl rfl<|Xm5 0 rfl (Xmj Xqa rfl) gn rfl<|Xm5 1 rfl (Xmj Yae rfl) gn rfl<|Xm5 2 rfl (Xmx 0 ld_45 rfl rfl rfl) gn rfl<|Xm5 3 rfl (Xm7 rfl) gn rfl ?_
   obtain ⟨hb63,h⟩:=h
   obtain ⟨ce65,hK66,hr64⟩:=Rw.read (s:=St w []) h17 hb63
   obtain ⟨A67,n68,c69,rfl,h70⟩:=hK66
   refine Xm5 4 rfl (Xn4 (s:=St w []) slE_45 rfl rfl h17 hb63) gn rfl<|Xm5 5 rfl (Xx1 (St w []) ld_107 rfl hr64 rfl (me 1 rfl)) gn rfl ?_
   refine Xmw 6 rfl (Xpf [.int .i64 0,.slice none 0 0] zr_107 rfl fun gb71=>?_) gn
   refine Xmw 7 rfl (Xpk (vs:=[.int .i64 ((ix x1.gram.prods x46).lhs),.slice A67 n68 c69]) (cs':=[.int .i64 ((ix x1.gram.prods x46).lhs),.slice A67 n68 c69]) (M':=[.box gb71 107 [.int .i64 ((ix x1.gram.prods x46).lhs),.slice A67 n68 c69],.box gb57 58 [.string x1.name,.slice A2 n3 c4,.slice A6 n7 c8,.slice A10 n11 c12,.slice A14 n15 c16,.slice A18 n19 c20,.slice A22 n23 c24,.slice A26 n27 c28,.slice A30 n31 c32,.slice A34 n35 c36,.slice A38 n39 c40,.slice A42 n43 c44]]) 0 sz_107 rfl rfl rfl rfl rfl rfl rfl rfl rfl ?_) gn
   refine Xmc 8 rfl<|Xmb rfl<|Xmb rfl ?_
   have j2:∀ (x75:Bool) (h:Xro x1 x46 x47 x52 x75 r) ,G (Xrc w F r) [.code q32c16,.code Ye9] [(2,.slice A48 n49 c50),(3,.slice A53 n54 c55),(4,.pointer (some ⟨gb57,0,none⟩)),(9,.pointer (some ⟨gb71,0,none⟩)),(43,.bool x75)] [.box gb71 107 [.int .i64 ((ix x1.gram.prods x46).lhs),.slice A67 n68 c69],.box gb57 58 [.string x1.name,.slice A2 n3 c4,.slice A6 n7 c8,.slice A10 n11 c12,.slice A14 n15 c16,.slice A18 n19 c20,.slice A22 n23 c24,.slice A26 n27 c28,.slice A30 n31 c32,.slice A34 n35 c36,.slice A38 n39 c40,.slice A42 n43 c44]] [Sm w.heap.size F w [],St w []]:=by
    intro x75 h
    unfold Xro at h
    by_cases hp76:x75=true
    ·have h:=Xmf hp76 h
     refine Xmy rfl _ rfl (hp76)<|Xmb rfl<|Xm8 rfl rfl<|Xm5 0 rfl (Xm9 rfl) gn rfl<|Xmc 1 rfl<|Xrf 39 7 ?_
     refine Xmt [.slice none 0 0] rfl Try.func32 rfl (.tmp rfl (.nil)) fun wr hLr=>?_
     have hMr:=hLr.pkI (.c 0 rfl .n) (.c 1 rfl (.c 2 rfl .n)) (by kernel_rfl) (.c 1 rfl .n)
     show Xrb w F  r (.returned (Xmz [.slice none 0 0])) wr
     rw [h]
     exact ⟨none,0,0,rfl,hMr,(Ow.nil (z:=w.heap.size))⟩
    ·have h:=Xmg hp76 h
     refine Xmr rfl _ rfl ((bf hp76))<|Xn1 rfl<|Xmb rfl<|Xm8 rfl rfl<|Xm5 0 rfl (Xm9 rfl) gn rfl<|Xmc 1 rfl<|Xmb rfl<|Xmb rfl<|Xm8 rfl rfl<|Xm5 0 rfl (Xmj Xt9 rfl) gn rfl<|Xm5 1 rfl (Xmx 0 Xwj rfl rfl rfl) gn rfl<|Xm5 2 rfl (Xmm Xxf rfl h70.hq) gn rfl ?_
     refine Xm5 3 rfl (Xm7 rfl) gn rfl<|Xmc 4 rfl<|Xn8 rfl<|Xqz rfl ?_
     have key3:∀ s,Xmh (fun (s:(List Xm4) × Int) o=>Xq1 x1 x46 x47 x52 s.1 s.2 o) s r→(fun (s:(List Xm4) × Int)=>∀ (A286:Option Addr) (n287:Nat) (c288:Nat) (h289:Ow w.heap.size A286 n287 c288 s.1),G (Xrc w F r) [.code Xyi,.inLoop Xyi,.inBlock 0,.code Xzc] [(2,.slice A48 n49 c50),(3,.slice A53 n54 c55),(4,.pointer (some ⟨gb57,0,none⟩)),(9,.pointer (some ⟨gb71,0,none⟩)),(10,.slice A286 n287 c288),(45,.slice A67 n68 c69),(46,.int .i64 (((ix x1.gram.prods x46).rhs).length:Int)),(47,.int .i64 s.2)] [.own (.slice A286 n287 c288) 39 7 n287 (s.1.flatMap Xme),.box gb71 107 [.int .i64 ((ix x1.gram.prods x46).lhs),.slice A67 n68 c69],.box gb57 58 [.string x1.name,.slice A2 n3 c4,.slice A6 n7 c8,.slice A10 n11 c12,.slice A14 n15 c16,.slice A18 n19 c20,.slice A22 n23 c24,.slice A26 n27 c28,.slice A30 n31 c32,.slice A34 n35 c36,.slice A38 n39 c40,.slice A42 n43 c44]] [Sm w.heap.size F w [],St w []]) s:=by
      intro s hs
      refine Xmh.ind (mot:=(fun (s:(List Xm4) × Int)=>∀ (A286:Option Addr) (n287:Nat) (c288:Nat) (h289:Ow w.heap.size A286 n287 c288 s.1),G (Xrc w F r) [.code Xyi,.inLoop Xyi,.inBlock 0,.code Xzc] [(2,.slice A48 n49 c50),(3,.slice A53 n54 c55),(4,.pointer (some ⟨gb57,0,none⟩)),(9,.pointer (some ⟨gb71,0,none⟩)),(10,.slice A286 n287 c288),(45,.slice A67 n68 c69),(46,.int .i64 (((ix x1.gram.prods x46).rhs).length:Int)),(47,.int .i64 s.2)] [.own (.slice A286 n287 c288) 39 7 n287 (s.1.flatMap Xme),.box gb71 107 [.int .i64 ((ix x1.gram.prods x46).lhs),.slice A67 n68 c69],.box gb57 58 [.string x1.name,.slice A2 n3 c4,.slice A6 n7 c8,.slice A10 n11 c12,.slice A14 n15 c16,.slice A18 n19 c20,.slice A22 n23 c24,.slice A26 n27 c28,.slice A30 n31 c32,.slice A34 n35 c36,.slice A38 n39 c40,.slice A42 n43 c44]] [Sm w.heap.size F w [],St w []])) ?_ hs
      clear hs s
      intro s o1 h hO1
      obtain ⟨x285,x290⟩:=s
      show ∀ (A286:Option Addr) (n287:Nat) (c288:Nat) (h289:Ow w.heap.size A286 n287 c288 x285),G (Xrc w F r) [.code Xyi,.inLoop Xyi,.inBlock 0,.code Xzc] [(2,.slice A48 n49 c50),(3,.slice A53 n54 c55),(4,.pointer (some ⟨gb57,0,none⟩)),(9,.pointer (some ⟨gb71,0,none⟩)),(10,.slice A286 n287 c288),(45,.slice A67 n68 c69),(46,.int .i64 (((ix x1.gram.prods x46).rhs).length:Int)),(47,.int .i64 x290)] [.own (.slice A286 n287 c288) 39 7 n287 (x285.flatMap Xme),.box gb71 107 [.int .i64 ((ix x1.gram.prods x46).lhs),.slice A67 n68 c69],.box gb57 58 [.string x1.name,.slice A2 n3 c4,.slice A6 n7 c8,.slice A10 n11 c12,.slice A14 n15 c16,.slice A18 n19 c20,.slice A22 n23 c24,.slice A26 n27 c28,.slice A30 n31 c32,.slice A34 n35 c36,.slice A38 n39 c40,.slice A42 n43 c44]] [Sm w.heap.size F w [],St w []]
      intro A286 n287 c288 h289
      have h:Xq1 x1 x46 x47 x52 x285 x290 o1:=h
      unfold Xq1 at h
      refine Xmb rfl<|Xm8 rfl rfl<|Xm5 0 rfl (Xmk rfl rfl rfl) gn rfl<|Xmc 1 rfl<|Xmb rfl ?_
      by_cases hp475:x290 < (((ix x1.gram.prods x46).rhs).length:Int)
      ·have h:=Xmf hp475 h
       refine Xmy rfl _ rfl ((decide_eq_true hp475))<|Xn1 rfl<|Xmb rfl<|Xn8 rfl<|Xmb rfl<|Xm8 rfl rfl<|Xm5 0 rfl (Xm7 rfl) gn rfl ?_
       obtain ⟨hb476,h⟩:=h
       have hr477:=Rw.readF (s:=St w []) (hl:=Xyj) (h1:=Xy5) h70 hb476
       refine Xm5 1 rfl (Xn4 (s:=St w []) Yeu rfl rfl h70 hb476) gn rfl<|Xm5 2 rfl (Xx1 (St w []) Ye7 rfl hr477 rfl (me 1 rfl)) gn rfl ?_
       refine Xmw 3 rfl (Xpf [.int .i64 0,.string (⟨#[]⟩:ByteArray),.string (⟨#[]⟩:ByteArray)] zr_104 rfl fun gb478=>?_) gn
       refine Xm5 4 rfl (Xm9 rfl) gn rfl ?_
       refine Xmw 5 rfl (Xpk (vs:=[.int .i64 ((ix ((ix x1.gram.prods x46).rhs) x290).sym),.string ((ix ((ix x1.gram.prods x46).rhs) x290).field),.string ((ix ((ix x1.gram.prods x46).rhs) x290).as)]) (cs':=[.int .i64 ((ix ((ix x1.gram.prods x46).rhs) x290).sym),.string ((ix ((ix x1.gram.prods x46).rhs) x290).field),.string ((ix ((ix x1.gram.prods x46).rhs) x290).as)]) (M':=[.box gb478 104 [.int .i64 ((ix ((ix x1.gram.prods x46).rhs) x290).sym),.string ((ix ((ix x1.gram.prods x46).rhs) x290).field),.string ((ix ((ix x1.gram.prods x46).rhs) x290).as)],.own (.slice A286 n287 c288) 39 7 n287 (x285.flatMap Xme),.box gb71 107 [.int .i64 ((ix x1.gram.prods x46).lhs),.slice A67 n68 c69],.box gb57 58 [.string x1.name,.slice A2 n3 c4,.slice A6 n7 c8,.slice A10 n11 c12,.slice A14 n15 c16,.slice A18 n19 c20,.slice A22 n23 c24,.slice A26 n27 c28,.slice A30 n31 c32,.slice A34 n35 c36,.slice A38 n39 c40,.slice A42 n43 c44]]) 0 sz_104 rfl rfl rfl rfl rfl rfl rfl rfl rfl ?_) gn
       refine Xmc 6 rfl<|Xmb rfl<|Xmb rfl<|Xm8 rfl rfl<|Xm5 0 rfl (Xm7 rfl) gn rfl<|Xm5 1 rfl (Xm7 rfl) gn rfl ?_
       obtain ⟨hb480,h⟩:=h
       obtain ⟨ce482,hK483,hr481⟩:=Rw.read (s:=St w []) h51 hb480
       obtain ⟨A484,n485,c486,rfl,h487⟩:=hK483
       refine Xm5 2 rfl (Xn4 (s:=St w []) Xqn rfl rfl h51 hb480) gn rfl<|Xm5 3 rfl (Xnl (kk:=(x290:Int).toNat * 1) (j:=0) (St w []) Xsj rfl hr481 rfl (me 1 rfl)) gn rfl ?_
       obtain ⟨r491,hv492,h⟩:=h
       refine Xmw 4 rfl (Xne [.slice A484 n485 c486] rfl Try.func37 rfl rfl rfl fun w488 hL489=>?_) gn
       have hp490:=pmI hL489 .n (.c 0 rfl (.c 1 rfl (.c 2 rfl (.c 3 rfl .n)))) (by kernel_rfl)
       refine Calls.mono (Xzs w488 (Fl ([]:List Xmp)) (ix x47 x290) A484 n485 c486 (Rw.mono h487 (hL489.toSt hp490 (me 1 rfl))) (hL489.hFl hp490 (Xms [] rfl)) (hL489.into hp490 _) r491 hv492) ?_
       rintro _ w493 ⟨rfl,hM494⟩
       have hL495:=hL489.call hp490 hM494
       refine ⟨_,_,_,rfl,hL495,?_⟩
       refine Xm5 5 rfl (Xmk rfl rfl rfl) gn rfl<|Xmc 6 rfl ?_
       by_cases hp496:r491 < 0
       ·have h:=Xmf hp496 h
        refine Xmy rfl _ rfl ((decide_eq_true hp496))<|Xmb rfl<|Xm8 rfl rfl<|Xm5 0 rfl (Xm9 rfl) gn rfl<|Xmc 1 rfl<|Xrf 39 7 ?_
        have h:=Out.inr hO1 h
        refine Xmt [.slice none 0 0] rfl Try.func32 rfl (.tmp rfl (.nil)) fun wr hLr=>?_
        have hMr:=hLr.pkI (.c 0 rfl .n) (.c 1 rfl (.c 2 rfl (.c 3 rfl (.c 4 rfl .n)))) (by kernel_rfl) (.c 1 rfl .n)
        show Xrb w F  r (.returned (Xmz [.slice none 0 0])) wr
        rw [h]
        exact ⟨none,0,0,rfl,hMr,(Ow.nil (z:=w.heap.size))⟩
       ·have h:=Xmg hp496 h
        refine Xmr rfl _ rfl ((decide_eq_false hp496))<|Xn1 rfl ?_
        obtain ⟨hb504,h⟩:=h
        obtain ⟨r509,hv510,h⟩:=h
        obtain ⟨x522,hv523,h⟩:=h
        obtain ⟨hb524,h⟩:=h
        have hns:Region.noSelect (Code.ops q32c41)=true:=by kernel_rfl
        refine Xpl [13,14] 15 rfl rfl mix rfl (.c 0 rfl (.c 1 rfl .n))<|wfv 0 rfl (Xm7 rfl) gn hns (by kernel_rfl)<|wfv 1 rfl (Xq7 [.string x1.name,.slice A2 n3 c4,.slice A6 n7 c8,.slice A10 n11 c12,.slice A14 n15 c16,.slice A18 n19 c20,.slice A22 n23 c24,.slice A26 n27 c28,.slice A30 n31 c32,.slice A34 n35 c36,.slice A38 n39 c40,.slice A42 n43 c44] 3 Xy2 rfl rfl rfl rfl) gn hns (by kernel_rfl)<|wfv 2 rfl (Xq7 [.int .i64 ((ix ((ix x1.gram.prods x46).rhs) x290).sym),.string ((ix ((ix x1.gram.prods x46).rhs) x290).field),.string ((ix ((ix x1.gram.prods x46).rhs) x290).as)] 0 Ye7 rfl rfl rfl rfl) gn hns (by kernel_rfl)<|wfv 3 rfl (Xm7 rfl) gn hns (by kernel_rfl)<|wfv 4 rfl (Xm7 rfl) gn hns (by kernel_rfl) ?_
        obtain ⟨ce557,hK558,hr556⟩:=Rw.read (s:=St w []) h51 hb480
        obtain ⟨A559,n560,c561,rfl,h562⟩:=hK558
        refine wfv 5 rfl (Xn4 (s:=St w []) Xqn rfl rfl h51 hb480) gn hns (by kernel_rfl)<|wfv 6 rfl (Xnl (kk:=(x290:Int).toNat * 1) (j:=0) (St w []) Xsj rfl hr556 rfl (me 1 rfl)) gn hns (by kernel_rfl)<|wfv 7 rfl (Xm7 rfl) gn hns (by kernel_rfl)<|wfv 8 rfl (Xm7 rfl) gn hns (by kernel_rfl)<|wfv 9 rfl (Xmk rfl rfl rfl) gn hns (by kernel_rfl) ?_
        have hr563:=Rw.readF (s:=St w []) (hl:=(hlI .i64)) (h1:=(Xow .i64)) h56 hb504
        refine wfv 10 rfl (Xn4 (s:=St w []) Xpg rfl rfl h56 hb504) gn hns (by kernel_rfl)<|wfv 11 rfl (Xnl (kk:=(w64 (x290 + 1):Int).toNat * 1) (j:=0) (St w []) Xql rfl hr563 rfl (me 1 rfl)) gn hns (by kernel_rfl) ?_
        refine Xn9 [12] (by kernel_rfl) rfl ⟨Xqb 12 rfl gn rfl (Xne [.agg #[.string x1.name,.slice A2 n3 c4,.slice A6 n7 c8,.slice A10 n11 c12,.slice A14 n15 c16,.slice A18 n19 c20,.slice A22 n23 c24,.slice A26 n27 c28,.slice A30 n31 c32,.slice A34 n35 c36,.slice A38 n39 c40,.slice A42 n43 c44],.agg #[.int .i64 ((ix ((ix x1.gram.prods x46).rhs) x290).sym),.string ((ix ((ix x1.gram.prods x46).rhs) x290).field),.string ((ix ((ix x1.gram.prods x46).rhs) x290).as)],.slice A559 n560 c561,.int .i64 (ix x52 (w64 (x290 + 1)))] rfl Try.func58 rfl rfl rfl fun w574 hL575=>?_),trivial⟩
        have hp576:=pmI hL575 .n (.c 0 rfl (.c 1 rfl (.c 2 rfl (.c 3 rfl .n)))) (by kernel_rfl)
        refine Calls.mono (Yab w574 (Fl ([]:List Xmp)) x1 (ix ((ix x1.gram.prods x46).rhs) x290) (ix x47 x290) (ix x52 (w64 (x290 + 1))) A2 n3 c4 A6 n7 c8 A10 n11 c12 A14 n15 c16 A18 n19 c20 A22 n23 c24 A26 n27 c28 A30 n31 c32 A34 n35 c36 A38 n39 c40 A42 n43 c44 A559 n560 c561 (Rw.mono h5 (hL575.toSt hp576 (me 1 rfl))) (Rw.mono h9 (hL575.toSt hp576 (me 1 rfl))) (Rw.mono h13 (hL575.toSt hp576 (me 1 rfl))) (Rw.mono h17 (hL575.toSt hp576 (me 1 rfl))) (Rw.mono h21 (hL575.toSt hp576 (me 1 rfl))) (Rw.mono h25 (hL575.toSt hp576 (me 1 rfl))) (Rw.mono h29 (hL575.toSt hp576 (me 1 rfl))) (Rw.mono h33 (hL575.toSt hp576 (me 1 rfl))) (Rw.mono h37 (hL575.toSt hp576 (me 1 rfl))) (Rw.mono h41 (hL575.toSt hp576 (me 1 rfl))) (Rw.mono h45 (hL575.toSt hp576 (me 1 rfl))) (Rw.mono h562 (hL575.toSt hp576 (me 1 rfl))) (hL575.hFl hp576 (Xms [] rfl)) (hL575.into hp576 _) r509 hv510) ?_
        rintro _ w581 ⟨A577,n578,c579,rfl,hM582,h580⟩
        have hL583:=hL575.call hp576 hM582
        refine ⟨_,_,_,rfl,hL583,?_⟩
        refine ⟨Xms [1,2,3,4] rfl,Xms [0,1] rfl,?_⟩
        refine Xn9 [13] (by kernel_rfl) rfl ⟨Xy8 13 rfl gn rfl (Xrg (zs:=x522) (cells':=x522.flatMap Xme) 2 Xyz rfl rfl rfl h289 (Nat.le_refl _) (Src.ownF (hl:=Xmv) (h1:=Xna) 0 rfl (Ow.weak hL575.env.size h580)) (by rw [hv523,List.flatMap_append] <;> rfl) (Xok hv523 (Ow.weak hL575.env.size h580).hq) hb524 rfl rfl fun A584 c585 h586=>?_),trivial⟩
        unfold NxL
        refine Xn9 [14] (by kernel_rfl) rfl ⟨Xy8 14 rfl gn rfl (Xzx (Xm9 rfl) rfl ?_),trivial⟩
        unfold NxL
        refine Xox (by kernel_rfl)<|Xnh<|Xm8 rfl rfl<|Xm5 0 rfl (Xmk rfl rfl rfl) gn rfl<|Xm5 1 rfl (Xm7 rfl) gn rfl<|Xmc 2 rfl<|Xo7 ?_
        have ih:=Out.inl hO1 h
        exact Xnj [0,1] (ih A584 (n287 + n578) c585 h586) ⟨rfl,rfl,rfl,rfl,rfl,rfl,rfl,rfl,trivial⟩ (.cons _ (.cons _ (.cons_cons _ (.cons_cons _ (.cons_cons _ (.slnil)))))) rfl
      ·have h:=Xmg hp475 h
       refine Xmr rfl _ rfl ((decide_eq_false hp475))<|Xqk [.code Xzc] rfl rfl<|Xmb rfl<|Xmb rfl ?_
       have j4:∀ (x592:Bool) (h:Xqq x1 x46 x52 x285 x592 o1) ,G (Xrc w F r) [.code q32c51,.code q32c49] [(3,.slice A53 n54 c55),(4,.pointer (some ⟨gb57,0,none⟩)),(9,.pointer (some ⟨gb71,0,none⟩)),(10,.slice A286 n287 c288),(95,.bool x592)] [.own (.slice A286 n287 c288) 39 7 n287 (x285.flatMap Xme),.box gb71 107 [.int .i64 ((ix x1.gram.prods x46).lhs),.slice A67 n68 c69],.box gb57 58 [.string x1.name,.slice A2 n3 c4,.slice A6 n7 c8,.slice A10 n11 c12,.slice A14 n15 c16,.slice A18 n19 c20,.slice A22 n23 c24,.slice A26 n27 c28,.slice A30 n31 c32,.slice A34 n35 c36,.slice A38 n39 c40,.slice A42 n43 c44]] [Sm w.heap.size F w [],St w []]:=by
        intro x592 h
        unfold Xqq at h
        by_cases hp593:x592=true
        ·have h:=Xmf hp593 h
         refine Xmy rfl _ rfl (hp593)<|Xmb rfl ?_
         obtain ⟨hb594,h⟩:=h
         obtain ⟨hb596,h⟩:=h
         obtain ⟨r601,hv602,h⟩:=h
         have hns:Region.noSelect (Code.ops q32c54)=true:=by kernel_rfl
         refine Xpl [] 17 rfl rfl mix rfl (.c 0 rfl (.c 1 rfl .n))<|wfv 0 rfl (Xmj Xqa rfl) gn hns rfl<|wfv 1 rfl (Xmj Xtt rfl) gn hns rfl<|wfv 2 rfl (Xmx 2 Xy0 rfl rfl rfl) gn hns rfl<|wfv 3 rfl (Xmj Xtz rfl) gn hns rfl<|wfv 4 rfl (Xmx 1 Xql rfl rfl rfl) gn hns rfl ?_
         have hr633:=Rw.readF (s:=St w []) (hl:=Xsz) (h1:=Xt0) h13 hb594
         refine wfv 5 rfl (Xn4 (s:=St w []) Xzi rfl rfl h13 hb594) gn hns rfl<|wfv 6 rfl (Xo6 Yf3 rfl) gn hns rfl<|wfv 7 rfl (Xnl (kk:=((ix x1.gram.prods x46).lhs:Int).toNat * 2) (j:=0) (St w []) Xwk rfl hr633 rfl (me 1 rfl)) gn hns rfl<|wfv 8 rfl (Xm7 rfl) gn hns rfl<|wfv 9 rfl (Xm7 rfl) gn hns rfl<|wfv 10 rfl (Xmj Xt9 rfl) gn hns rfl<|wfv 11 rfl (Xmx 1 Xwj rfl rfl rfl) gn hns rfl<|wfv 12 rfl (Xmm Xxf rfl h70.hq) gn hns rfl ?_
         have hr634:=Rw.readF (s:=St w []) (hl:=(hlI .i64)) (h1:=(Xow .i64)) h56 hb596
         refine wfv 13 rfl (Xn4 (s:=St w []) Xpg rfl rfl h56 hb596) gn hns rfl<|wfv 14 rfl (Xnl (kk:=((((ix x1.gram.prods x46).rhs).length:Int):Int).toNat * 1) (j:=0) (St w []) Xql rfl hr634 rfl (me 1 rfl)) gn hns rfl ?_
         refine Xn9 [15] (by kernel_rfl) rfl ⟨Xqb 15 rfl gn rfl (Xne [.string ((ix x1.gram.syms ((ix x1.gram.prods x46).lhs)).name),.slice A286 n287 c288,.int .i64 (ix x52 (((ix x1.gram.prods x46).rhs).length:Int))] rfl Try.func59 rfl rfl rfl fun w645 hL646=>?_),trivial⟩
         have hp647:=pmI hL646 .n (.c 0 rfl (.c 1 rfl (.c 2 rfl .n))) (by kernel_rfl)
         refine Calls.mono (Xwx w645 (Fl ([]:List Xmp)) ((ix x1.gram.syms ((ix x1.gram.prods x46).lhs)).name) x285 (ix x52 (((ix x1.gram.prods x46).rhs).length:Int)) A286 n287 c288 (hL646.argO (dk:=Xmo) hp647 [] rfl 0 rfl rfl h289 (me 0 rfl) (Cells.flat _)) (hL646.hFl hp647 (Xms [] rfl)) (hL646.into hp647 _) r601 hv602) ?_
         rintro _ w652 ⟨A648,n649,c650,rfl,hM653,h651⟩
         have hL654:=hL646.call hp647 hM653
         refine ⟨_,_,_,rfl,hL654,?_⟩
         refine ⟨Xms [1,2,3] rfl,Xms [0,1] rfl,?_⟩
         refine wfv 16 rfl (Xm9 rfl) gn hns rfl<|Xox (by kernel_rfl) ?_
         have h:=Out.inr hO1 h
         refine Xmt [.slice A648 n649 c650] rfl Try.func32 rfl (.tmp rfl (.nil)) fun wr hLr=>?_
         have hMr:=hLr.pkI (.c 0 rfl .n) (.c 1 rfl (.c 2 rfl (.c 3 rfl .n))) (by kernel_rfl) (.c 1 rfl .n)
         show Xrb w F  r (.returned (Xmz [.slice A648 n649 c650])) wr
         rw [h]
         exact ⟨A648,n649,c650,rfl,hMr,(Ow.weak hL646.env.size h651)⟩
        ·have h:=Xmg hp593 h
         refine Xmr rfl _ rfl ((bf hp593))<|Xn1 rfl<|Xmb rfl<|Xm8 rfl rfl<|Xm5 0 rfl (Xm7 rfl) gn rfl<|Xm5 1 rfl (Xm9 rfl) gn rfl<|Xmc 2 rfl ?_
         have h:=Out.inr hO1 h
         refine Xmt [.slice A286 n287 c288] rfl Try.func32 rfl (.tmp rfl (.nil)) fun wr hLr=>?_
         have hMr:=hLr.pkI (.c 0 rfl .n) (.c 1 rfl (.c 2 rfl .n)) (by kernel_rfl) (.c 1 rfl .n)
         show Xrb w F  r (.returned (Xmz [.slice A286 n287 c288])) wr
         rw [h]
         exact ⟨A286,n287,c288,rfl,hMr,h289⟩
       refine Xm8 rfl rfl<|Xm5 0 rfl (Xmj Xtz rfl) gn rfl<|Xm5 1 rfl (Xmx 1 Xql rfl rfl rfl) gn rfl<|Xm5 2 rfl (Xmk rfl rfl rfl) gn rfl<|Xm5 3 rfl (Xm7 rfl) gn rfl ?_
       by_cases hp655:(ix x1.gram.prods x46).lhs≥0
       ·have h:=Xmf hp655 h
        refine Xn6 76 rfl ((decide_eq_true hp655))<|Xm5 4 rfl (Xmj Xtz rfl) (gy 76 rfl rfl) rfl<|Xm5 5 rfl (Xmx 1 Xql rfl rfl rfl) (gy 76 rfl rfl) rfl<|Xm5 6 rfl (Xmj Xqa rfl) (gy 76 rfl rfl) rfl<|Xm5 7 rfl (Xmj Xtt rfl) (gy 76 rfl rfl) rfl<|Xm5 8 rfl (Xmx 2 Xy0 rfl rfl rfl) (gy 76 rfl rfl) rfl<|Xm5 9 rfl (Xmm un_44 rfl h13.hq) (gy 76 rfl rfl) rfl<|Xm5 10 rfl (Xmk rfl rfl rfl) (gy 76 rfl rfl) rfl<|Xm5 11 rfl (Xmn (b:=true) rfl rfl) gn rfl<|Xm5 12 rfl (Xm7 rfl) gn rfl ?_
        by_cases hp656:(ix x1.gram.prods x46).lhs < (x1.gram.syms.length:Int)
        ·have h:=Xmf hp656 h
         refine Xn6 85 rfl ((decide_eq_true hp656))<|Xm5 13 rfl (Xmj Xqa rfl) (gy 85 rfl rfl) rfl<|Xm5 14 rfl (Xmj Xtt rfl) (gy 85 rfl rfl) rfl<|Xm5 15 rfl (Xmx 2 Xy0 rfl rfl rfl) (gy 85 rfl rfl) rfl<|Xm5 16 rfl (Xmj Xtz rfl) (gy 85 rfl rfl) rfl<|Xm5 17 rfl (Xmx 1 Xql rfl rfl rfl) (gy 85 rfl rfl) rfl ?_
         obtain ⟨hb657,h⟩:=h
         have hr658:=Rw.readF (s:=St w []) (hl:=Xsz) (h1:=Xt0) h13 hb657
         refine Xm5 18 rfl (Xn4 (s:=St w []) Xzi rfl rfl h13 hb657) (gy 85 rfl rfl) rfl<|Xm5 19 rfl (Xo6 Yam rfl) (gy 85 rfl rfl) rfl<|Xm5 20 rfl (Xnl (kk:=((ix x1.gram.prods x46).lhs:Int).toNat * 2) (j:=1) (St w []) ld_72 rfl hr658 rfl (me 1 rfl)) (gy 85 rfl rfl) rfl<|Xm5 21 rfl (Xmk rfl rfl rfl) (gy 85 rfl rfl) rfl<|Xm5 22 rfl (Xmn (b:=true) rfl rfl) gn rfl<|Xmc 23 rfl ?_
         exact Xnj [0,1] (j4 (((ix x1.gram.syms ((ix x1.gram.prods x46).lhs)).kind) == 1) h) ⟨rfl,rfl,rfl,rfl,rfl,trivial⟩ (.cons_cons _ (.cons_cons _ (.cons_cons _ (.slnil)))) rfl
        ·have h:=Xmg hp656 h
         refine Xn6 85 rfl ((decide_eq_false hp656))<|Xma 13 rfl (ps 85 rfl rfl rfl)<|Xma 14 rfl (ps 85 rfl rfl rfl)<|Xma 15 rfl (ps 85 rfl rfl rfl)<|Xma 16 rfl (ps 85 rfl rfl rfl)<|Xma 17 rfl (ps 85 rfl rfl rfl)<|Xma 18 rfl (ps 85 rfl rfl rfl)<|Xma 19 rfl (ps 85 rfl rfl rfl)<|Xma 20 rfl (ps 85 rfl rfl rfl)<|Xma 21 rfl (ps 85 rfl rfl rfl)<|Xm5 22 rfl (Xmn (b:=false) rfl rfl) gn rfl<|Xmc 23 rfl ?_
         exact Xnj [0,1] (j4 false h) ⟨rfl,rfl,rfl,rfl,rfl,trivial⟩ (.cons_cons _ (.cons_cons _ (.cons_cons _ (.slnil)))) rfl
       ·have h:=Xmg hp655 h
        refine Xn6 76 rfl ((decide_eq_false hp655))<|Xma 4 rfl (ps 76 rfl rfl rfl)<|Xma 5 rfl (ps 76 rfl rfl rfl)<|Xma 6 rfl (ps 76 rfl rfl rfl)<|Xma 7 rfl (ps 76 rfl rfl rfl)<|Xma 8 rfl (ps 76 rfl rfl rfl)<|Xma 9 rfl (ps 76 rfl rfl rfl)<|Xma 10 rfl (ps 76 rfl rfl rfl)<|Xm5 11 rfl (Xmn (b:=false) rfl rfl) gn rfl<|Xm5 12 rfl (Xm7 rfl) gn rfl<|Xma 13 rfl (ps 85 rfl rfl rfl)<|Xma 14 rfl (ps 85 rfl rfl rfl) ?_
        refine Xma 15 rfl (ps 85 rfl rfl rfl)<|Xma 16 rfl (ps 85 rfl rfl rfl)<|Xma 17 rfl (ps 85 rfl rfl rfl)<|Xma 18 rfl (ps 85 rfl rfl rfl)<|Xma 19 rfl (ps 85 rfl rfl rfl)<|Xma 20 rfl (ps 85 rfl rfl rfl)<|Xma 21 rfl (ps 85 rfl rfl rfl)<|Xm5 22 rfl (Xmn (b:=false) rfl rfl) gn rfl<|Xmc 23 rfl ?_
        exact Xnj [0,1] (j4 false h) ⟨rfl,rfl,rfl,rfl,rfl,trivial⟩ (.cons_cons _ (.cons_cons _ (.cons_cons _ (.slnil)))) rfl
     refine Xrf 39 7 ?_
     exact Xnj [0,1] (key3 _ h none 0 0 (Ow.nil (z:=w.heap.size))) ⟨rfl,rfl,rfl,rfl,rfl,rfl,rfl,rfl,trivial⟩ (.cons_cons _ (.cons_cons _ (.cons_cons _ (.slnil)))) rfl
   refine Xm8 rfl rfl<|Xm5 0 rfl (Xm7 rfl) gn rfl<|Xm5 1 rfl (Xmm Xuy rfl h51.hq) gn rfl<|Xm5 2 rfl (Xmj Xt9 rfl) gn rfl<|Xm5 3 rfl (Xmx 0 Xwj rfl rfl rfl) gn rfl<|Xm5 4 rfl (Xmm Xxf rfl h70.hq) gn rfl<|Xm5 5 rfl (Xmk rfl rfl rfl) gn rfl<|Xm5 6 rfl (Xm7 rfl) gn rfl ?_
   by_cases hp659:(x47.length:Int)=(((ix x1.gram.prods x46).rhs).length:Int)
   ·have h:=Xmf hp659 h
    refine Xn6 35 rfl ((eqib hp659))<|Xm5 7 rfl (Xm7 rfl) (gy 35 rfl rfl) rfl<|Xm5 8 rfl (Xmm Xqp rfl h56.hq) (gy 35 rfl rfl) rfl<|Xm5 9 rfl (Xmj Xt9 rfl) (gy 35 rfl rfl) rfl<|Xm5 10 rfl (Xmx 0 Xwj rfl rfl rfl) (gy 35 rfl rfl) rfl<|Xm5 11 rfl (Xmm Xxf rfl h70.hq) (gy 35 rfl rfl) rfl<|Xm5 12 rfl (Xmk rfl rfl rfl) (gy 35 rfl rfl) rfl<|Xm5 13 rfl (Xmk rfl rfl rfl) (gy 35 rfl rfl) rfl<|Xm5 14 rfl (Xmn (b:=false) rfl rfl) gn rfl<|Xmc 15 rfl ?_
    exact Xnj [0,1] (j2 ((x52.length:Int) != (w64 ((((ix x1.gram.prods x46).rhs).length:Int) + 1))) h) ⟨rfl,rfl,rfl,rfl,rfl,trivial⟩ (.cons_cons _ (.cons_cons _ (.slnil))) rfl
   ·have h:=Xmg hp659 h
    refine Xn6 35 rfl ((neib hp659))<|Xma 7 rfl (ps 35 rfl rfl rfl)<|Xma 8 rfl (ps 35 rfl rfl rfl)<|Xma 9 rfl (ps 35 rfl rfl rfl)<|Xma 10 rfl (ps 35 rfl rfl rfl)<|Xma 11 rfl (ps 35 rfl rfl rfl)<|Xma 12 rfl (ps 35 rfl rfl rfl)<|Xma 13 rfl (ps 35 rfl rfl rfl)<|Xm5 14 rfl (Xmn (b:=true) rfl rfl) gn rfl<|Xmc 15 rfl ?_
    exact Xnj [0,1] (j2 true h) ⟨rfl,rfl,rfl,rfl,rfl,trivial⟩ (.cons_cons _ (.cons_cons _ (.slnil))) rfl
 refine Xm8 rfl rfl<|Xm5 0 rfl (Xm7 rfl) gn rfl<|Xm5 1 rfl (Xmk rfl rfl rfl) gn rfl<|Xm5 2 rfl (Xm7 rfl) gn rfl ?_
 by_cases hp660:x46 < 0
 ·have h:=Xmf hp660 h
  refine Xn6 15 rfl ((decide_eq_true hp660))<|Xma 3 rfl (ps 15 rfl rfl rfl)<|Xma 4 rfl (ps 15 rfl rfl rfl)<|Xma 5 rfl (ps 15 rfl rfl rfl)<|Xma 6 rfl (ps 15 rfl rfl rfl)<|Xma 7 rfl (ps 15 rfl rfl rfl)<|Xma 8 rfl (ps 15 rfl rfl rfl)<|Xm5 9 rfl (Xmn (b:=true) rfl rfl) gn rfl<|Xmc 10 rfl ?_
  exact Xnj [0,1] (j1 true h) ⟨rfl,rfl,rfl,rfl,rfl,trivial⟩ (.cons_cons _ (.slnil)) rfl
 ·have h:=Xmg hp660 h
  refine Xn6 15 rfl ((decide_eq_false hp660))<|Xm5 3 rfl (Xm7 rfl) (gy 15 rfl rfl) rfl<|Xm5 4 rfl (Xmj Xqa rfl) (gy 15 rfl rfl) rfl<|Xm5 5 rfl (Xmj Yae rfl) (gy 15 rfl rfl) rfl<|Xm5 6 rfl (Xmx 0 ld_45 rfl rfl rfl) (gy 15 rfl rfl) rfl<|Xm5 7 rfl (Xmm un_45 rfl h17.hq) (gy 15 rfl rfl) rfl<|Xm5 8 rfl (Xmk rfl rfl rfl) (gy 15 rfl rfl) rfl<|Xm5 9 rfl (Xmn (b:=false) rfl rfl) gn rfl<|Xmc 10 rfl ?_
  exact Xnj [0,1] (j1 (decide (x46≥(x1.gram.prods.length:Int))) h) ⟨rfl,rfl,rfl,rfl,rfl,trivial⟩ (.cons_cons _ (.slnil)) rfl
noncomputable abbrev Yci:=Code.snd (Code.snd (Code.snd (Xnv Try.f40)))
noncomputable abbrev Xya:=Code.fst (Code.fst (Code.snd (Code.fst (Code.snd (Code.snd (Xnv Try.f40))))))
noncomputable abbrev q40c24:=Code.fst (Code.fst (Code.fst (Code.snd Xya)))
abbrev Xp9 (w:World) (F:Nat→Prop) (r:Bool):Ending→World→Prop:=fun e w'=>e=.returned (.bool r)∧B.Loc w w' [] [St w []]
noncomputable abbrev Xq9 (w:World) (F:Nat→Prop) (r:Bool):Cx:=⟨Try.prog,40,Try.f40,26,Xp9 w F  r,w⟩
theorem Xpd (w:World) (F:Nat→Prop) (x1:List Int) (x6:List Int) (A2:Option Addr) (n3:Nat) (c4:Nat) (A7:Option Addr) (n8:Nat) (c9:Nat) (h5:Rw (Xs2 .i64) w (St w []).av A2 n3 c4 x1) (h10:Rw (Xs2 .i64) w (St w []).av A7 n8 c9 x6) (hF:∀ b,F b→b < w.heap.size∧∀ o ∈ ([]:List (List Nat)),b ∉ o) (hL0:B.Loc w w [] [Sm w.heap.size F w [],St w []]) (r:Bool) (h:Xpt x1 x6 r):Calls Try.prog 40 #[.slice A2 n3 c4,.slice A7 n8 c9] w (Xp9 w F  r):=by
 unfold Xpt at h
 refine Xmq (vs:=[.slice A2 n3 c4,.slice A7 n8 c9]) 26 Try.func40 rfl Try.ntmps40 rfl hL0 ?_
 show G (Xq9 w F r) _ _ _ _
 refine Xmb rfl<|Xm8 rfl rfl<|Xm5 0 rfl (Xm9 rfl) gn rfl<|Xmc 1 rfl<|Xmb rfl<|Xmb rfl<|Xm8 rfl rfl<|Xm5 0 rfl (Xm7 rfl) gn rfl<|Xm5 1 rfl (Xmm Xqp rfl h5.hq) gn rfl<|Xm5 2 rfl (Xm7 rfl) gn rfl<|Xm5 3 rfl (Xmm Xqp rfl h10.hq) gn rfl<|Xm5 4 rfl (Xmk rfl rfl rfl) gn rfl ?_
 refine Xmc 5 rfl ?_
 by_cases hp11:(x1.length:Int)=(x6.length:Int)
 ·have h:=Xmf hp11 h
  refine Xmr rfl _ rfl ((eqib hp11))<|Xn1 rfl<|Xmb rfl<|Xmb rfl<|Xm8 rfl rfl<|Xm5 0 rfl (Xm9 rfl) gn rfl<|Xmc 1 rfl<|Xn8 rfl<|Xqz rfl ?_
  have key1:∀ s,Xmh (fun (s:Int) o=>Xoe x1 x6 s o) s r→(fun (s:Int)=>∀ (_:Unit),G (Xq9 w F r) [.code Xya,.inLoop Xya,.inBlock 0,.code Yci] [(0,.slice A2 n3 c4),(1,.slice A7 n8 c9),(5,.int .i64 s)] [] [Sm w.heap.size F w [],St w []]) s:=by
   intro s hs
   refine Xmh.ind (mot:=(fun (s:Int)=>∀ (_:Unit),G (Xq9 w F r) [.code Xya,.inLoop Xya,.inBlock 0,.code Yci] [(0,.slice A2 n3 c4),(1,.slice A7 n8 c9),(5,.int .i64 s)] [] [Sm w.heap.size F w [],St w []])) ?_ hs
   clear hs s
   intro x23 o1 h hO1
   show ∀ (_:Unit),G (Xq9 w F r) [.code Xya,.inLoop Xya,.inBlock 0,.code Yci] [(0,.slice A2 n3 c4),(1,.slice A7 n8 c9),(5,.int .i64 x23)] [] [Sm w.heap.size F w [],St w []]
   intro _
   have h:Xoe x1 x6 x23 o1:=h
   unfold Xoe at h
   refine Xmb rfl<|Xmb rfl<|Xm8 rfl rfl<|Xm5 0 rfl (Xm7 rfl) gn rfl<|Xm5 1 rfl (Xm7 rfl) gn rfl<|Xm5 2 rfl (Xmm Xqp rfl h5.hq) gn rfl<|Xm5 3 rfl (Xmk rfl rfl rfl) gn rfl<|Xmc 4 rfl ?_
   by_cases hp34:x23 < (x1.length:Int)
   ·have h:=Xmf hp34 h
    refine Xmy rfl _ rfl ((decide_eq_true hp34))<|Xn1 rfl<|Xmb rfl<|Xn8 rfl<|Xmb rfl ?_
    obtain ⟨hb35,h⟩:=h
    obtain ⟨hb37,h⟩:=h
    have hns:Region.noSelect (Code.ops q40c24)=true:=by kernel_rfl
    refine Xpl [] 9 rfl rfl mix rfl (.c 0 rfl (.c 1 rfl .n))<|wfv 0 rfl (Xm7 rfl) gn hns rfl<|wfv 1 rfl (Xm7 rfl) gn hns rfl ?_
    have hr41:=Rw.readF (s:=St w []) (hl:=(hlI .i64)) (h1:=(Xow .i64)) h5 hb35
    refine wfv 2 rfl (Xn4 (s:=St w []) Xpg rfl rfl h5 hb35) gn hns rfl<|wfv 3 rfl (Xnl (kk:=(x23:Int).toNat * 1) (j:=0) (St w []) Xql rfl hr41 rfl (me 1 rfl)) gn hns rfl<|wfv 4 rfl (Xm7 rfl) gn hns rfl<|wfv 5 rfl (Xm7 rfl) gn hns rfl ?_
    have hr42:=Rw.readF (s:=St w []) (hl:=(hlI .i64)) (h1:=(Xow .i64)) h10 hb37
    refine wfv 6 rfl (Xn4 (s:=St w []) Xpg rfl rfl h10 hb37) gn hns rfl<|wfv 7 rfl (Xnl (kk:=(x23:Int).toNat * 1) (j:=0) (St w []) Xql rfl hr42 rfl (me 1 rfl)) gn hns rfl<|wfv 8 rfl (Xmk rfl rfl rfl) gn hns rfl<|Xox (by kernel_rfl) ?_
    by_cases hp43:ix x1 x23=ix x6 x23
    ·have h:=Xmf hp43 h
     refine Xmr rfl _ rfl ((eqib hp43))<|Xn1 rfl<|Xnh<|Xm8 rfl rfl<|Xm5 0 rfl (Xm7 rfl) gn rfl<|Xm5 1 rfl (Xmk rfl rfl rfl) gn rfl<|Xm5 2 rfl (Xm9 rfl) gn rfl<|Xmc 3 rfl<|Xo7 ?_
     have ih:=Out.inl hO1 h
     exact Xnj [0,1] (ih ()) ⟨rfl,rfl,rfl,trivial⟩ (.slnil) rfl
    ·have h:=Xmg hp43 h
     refine Xmy rfl _ rfl ((neib hp43))<|Xmb rfl<|Xm8 rfl rfl<|Xm5 0 rfl (Xm9 rfl) gn rfl<|Xmc 1 rfl ?_
     have h:=Out.inr hO1 h
     refine Xmt [.bool false] rfl Try.func40 rfl (.tmp rfl (.nil)) fun wr hLr=>?_
     have hMr:=hLr.pk0 (.c 1 rfl .n)
     show Xp9 w F  r (.returned (Xmz [.bool false])) wr
     rw [h]
     exact ⟨rfl,hMr⟩
   ·have h:=Xmg hp34 h
    refine Xmr rfl _ rfl ((decide_eq_false hp34))<|Xqk [.code Yci] rfl rfl<|Xmb rfl<|Xm8 rfl rfl<|Xm5 0 rfl (Xm9 rfl) gn rfl<|Xmc 1 rfl ?_
    have h:=Out.inr hO1 h
    refine Xmt [.bool true] rfl Try.func40 rfl (.tmp rfl (.nil)) fun wr hLr=>?_
    have hMr:=hLr.pk0 (.c 1 rfl .n)
    show Xp9 w F  r (.returned (Xmz [.bool true])) wr
    rw [h]
    exact ⟨rfl,hMr⟩
  exact Xnj [0,1] (key1 _ h ()) ⟨rfl,rfl,rfl,trivial⟩ (.slnil) rfl
 ·have h:=Xmg hp11 h
  refine Xmy rfl _ rfl ((neib hp11))<|Xmb rfl<|Xm8 rfl rfl<|Xm5 0 rfl (Xm9 rfl) gn rfl<|Xmc 1 rfl ?_
  refine Xmt [.bool false] rfl Try.func40 rfl (.tmp rfl (.nil)) fun wr hLr=>?_
  have hMr:=hLr.pk0 (.c 1 rfl .n)
  show Xp9 w F  r (.returned (Xmz [.bool false])) wr
  rw [h]
  exact ⟨rfl,hMr⟩
abbrev Xrj (w:World) (F:Nat→Prop) (r:List Xm4):Ending→World→Prop:=fun e w'=>∃ A0:Option Addr,∃ n0:Nat,∃ c0:Nat,e=.returned (.slice A0 n0 c0)∧B.Loc w w' [.own (.slice A0 n0 c0) 39 7 n0 (r.flatMap Xme)] [St w []]∧Ow w.heap.size A0 n0 c0 r
noncomputable abbrev Xxv (w:World) (F:Nat→Prop) (r:List Xm4):Cx:=⟨Try.prog,49,Try.f49,18,Xrj w F  r,w⟩
theorem Xw0 (w:World) (F:Nat→Prop) (x1:Xml) (x46:Int) (x47:List Xm4) (A2:Option Addr) (n3:Nat) (c4:Nat) (A6:Option Addr) (n7:Nat) (c8:Nat) (A10:Option Addr) (n11:Nat) (c12:Nat) (A14:Option Addr) (n15:Nat) (c16:Nat) (A18:Option Addr) (n19:Nat) (c20:Nat) (A22:Option Addr) (n23:Nat) (c24:Nat) (A26:Option Addr) (n27:Nat) (c28:Nat) (A30:Option Addr) (n31:Nat) (c32:Nat) (A34:Option Addr) (n35:Nat) (c36:Nat) (A38:Option Addr) (n39:Nat) (c40:Nat) (A42:Option Addr) (n43:Nat) (c44:Nat) (A48:Option Addr) (n49:Nat) (c50:Nat) (h5:Rw Xoq w (St w []).av A2 n3 c4 x1.modes) (h9:Rw Xng w (St w []).av A6 n7 c8 x1.gram.terms) (h13:Rw Xor w (St w []).av A10 n11 c12 x1.gram.syms) (h17:Rw Xo9 w (St w []).av A14 n15 c16 x1.gram.prods) (h21:Rw Xqc w (St w []).av A18 n19 c20 x1.rules) (h25:Rw (Kd.slice Xol) w (St w []).av A22 n23 c24 x1.table.actions) (h29:Rw (Kd.slice (Xs2 .i64)) w (St w []).av A26 n27 c28 x1.table.gotos) (h33:Rw Xoc w (St w []).av A30 n31 c32 x1.paints) (h37:Rw Xz4 w (St w []).av A34 n35 c36 x1.folds) (h41:Rw Xop w (St w []).av A38 n39 c40 x1.marks) (h45:Rw Xo4 w (St w []).av A42 n43 c44 x1.injects) (h51:Rw Xmo w (St w []).av A48 n49 c50 x47) (hF:∀ b,F b→b < w.heap.size∧∀ o ∈ ([]:List (List Nat)),b ∉ o) (hL0:B.Loc w w [] [Sm w.heap.size F w [],St w []]) (r:List Xm4) (h:Xr2 x1 x46 x47 r):Calls Try.prog 49 #[.agg #[.string x1.name,.slice A2 n3 c4,.slice A6 n7 c8,.slice A10 n11 c12,.slice A14 n15 c16,.slice A18 n19 c20,.slice A22 n23 c24,.slice A26 n27 c28,.slice A30 n31 c32,.slice A34 n35 c36,.slice A38 n39 c40,.slice A42 n43 c44],.int .i64 x46,.slice A48 n49 c50] w (Xrj w F  r):=by
 unfold Xr2 at h
 refine Xmq (vs:=[.agg #[.string x1.name,.slice A2 n3 c4,.slice A6 n7 c8,.slice A10 n11 c12,.slice A14 n15 c16,.slice A18 n19 c20,.slice A22 n23 c24,.slice A26 n27 c28,.slice A30 n31 c32,.slice A34 n35 c36,.slice A38 n39 c40,.slice A42 n43 c44],.int .i64 x46,.slice A48 n49 c50]) 18 Try.func49 rfl Try.ntmps49 rfl hL0 ?_
 show G (Xxv w F r) _ _ _ _
 refine Xmb rfl<|Xm8 rfl rfl ?_
 refine Xmw 0 rfl (Xtj [.string x1.name,.slice A2 n3 c4,.slice A6 n7 c8,.slice A10 n11 c12,.slice A14 n15 c16,.slice A18 n19 c20,.slice A22 n23 c24,.slice A26 n27 c28,.slice A30 n31 c32,.slice A34 n35 c36,.slice A38 n39 c40,.slice A42 n43 c44] rfl rfl rfl fun gb52=>?_) gn
 refine Xm5 1 rfl (Xm9 rfl) gn rfl<|Xmc 2 rfl<|Xmb rfl<|Xm8 rfl rfl<|Xm5 0 rfl (Xm9 rfl) gn rfl<|Xmc 1 rfl<|Xmb rfl<|Xm8 rfl rfl<|Xm5 0 rfl (Xmj Xqa rfl) gn rfl<|Xm5 1 rfl (Xq7 [.slice A6 n7 c8,.slice A10 n11 c12,.slice A14 n15 c16] 0 Xzy rfl rfl rfl rfl) gn rfl<|Xm5 2 rfl (Xm7 rfl) gn rfl ?_
 obtain ⟨r57,hv58,h⟩:=h
 refine Xmw 3 rfl (Xne [.agg #[.slice A6 n7 c8,.slice A10 n11 c12,.slice A14 n15 c16],.int .i64 x46] rfl Try.func68 rfl rfl rfl fun w54 hL55=>?_) gn
 have hp56:=pmI hL55 .n (.c 0 rfl .n) (by kernel_rfl)
 refine Calls.mono (Xsi w54 (Fl ([]:List Xmp)) x1.gram x46 A6 n7 c8 A10 n11 c12 A14 n15 c16 (Rw.mono h9 (hL55.toSt hp56 (me 1 rfl))) (Rw.mono h13 (hL55.toSt hp56 (me 1 rfl))) (Rw.mono h17 (hL55.toSt hp56 (me 1 rfl))) (hL55.hFl hp56 (Xms [] rfl)) (hL55.into hp56 _) r57 hv58) ?_
 rintro _ w59 ⟨rfl,hM60⟩
 have hL61:=hL55.call hp56 hM60
 refine ⟨_,_,_,rfl,hL61,?_⟩
 refine Xm5 4 rfl (Xm9 rfl) gn rfl<|Xmc 5 rfl<|Xmb rfl<|Xmb rfl<|Xm8 rfl rfl<|Xm5 0 rfl (Xm7 rfl) gn rfl<|Xmc 1 rfl ?_
 by_cases hp62:r57=true
 ·have h:=Xmf hp62 h
  refine Xmy rfl _ rfl (hp62)<|Xmb rfl<|Xm8 rfl rfl<|Xm5 0 rfl (Xm7 rfl) gn rfl<|Xm5 1 rfl (Xm9 rfl) gn rfl<|Xmc 2 rfl<|Xrf 39 7 ?_
  refine Xmt [.slice none 0 0] rfl Try.func49 rfl (.tmp rfl (.nil)) fun wr hLr=>?_
  have hMr:=hLr.pkI (.c 0 rfl .n) (.c 1 rfl .n) (by kernel_rfl) (.c 1 rfl .n)
  show Xrj w F  r (.returned (Xmz [.slice none 0 0])) wr
  rw [h]
  exact ⟨none,0,0,rfl,hMr,(Ow.nil (z:=w.heap.size))⟩
 ·have h:=Xmg hp62 h
  refine Xmr rfl _ rfl ((bf hp62))<|Xn1 rfl<|Xmb rfl<|Xm8 rfl rfl<|Xm5 0 rfl (Xm7 rfl) gn rfl<|Xm5 1 rfl (Xm7 rfl) gn rfl ?_
  obtain ⟨x67,hv68,h⟩:=h
  obtain ⟨hb69,h⟩:=h
  refine w_nil 39 7 ?_
  refine Xmw 2 rfl (Xrg (zs:=x67) (cells':=x67.flatMap Xme) 0 Xyz rfl rfl rfl (Ow.nil (z:=w.heap.size)) (Nat.le_refl _) (Src.readF (s:=St w []) (hl:=Xmv) (h1:=Xna) h51 (me 1 rfl)) (by rw [hv68,List.flatMap_append] <;> rfl) (Xok hv68 h51.hq) hb69 rfl rfl fun A64 c65 h66=>?_) gn
  refine Xm5 3 rfl (Xm9 rfl) gn rfl<|Xmc 4 rfl ?_
  refine Xmt [.slice A64 (0 + n49) c65] rfl Try.func49 rfl (.tmp rfl (.nil)) fun wr hLr=>?_
  have hMr:=hLr.pkI (.c 0 rfl .n) (.c 1 rfl .n) (by kernel_rfl) (.c 1 rfl .n)
  show Xrj w F  r (.returned (Xmz [.slice A64 (0 + n49) c65])) wr
  rw [h]
  exact ⟨A64,0 + n49,c65,rfl,hMr,h66⟩
end Go.Proofs.Ytmekgfcfooghnaa.K
