/- What the machine's calls do, function by function, printed by my own tool. Condition of each: its relation holds of the answer, and what is handed in lies in memory as told. -/
import Derived.Test.YtmekgfcfooghnaaK3
set_option linter.unusedVariables false
set_option maxRecDepth 100000
set_option maxHeartbeats 4000000
namespace Go.Proofs.Ytmekgfcfooghnaa.K
open Go.Proofs.Ytmekgfcfooghnaa.B Go.Proofs.Ytmekgfcfooghnaa.R Go.RowKit
noncomputable abbrev Yel:=Code.snd (Code.snd (Code.snd (Code.snd (Code.snd (Code.snd (Code.snd (Xnv Try.f28)))))))
noncomputable abbrev Yb3:=Code.fst (Code.fst (Code.snd (Code.snd (Code.snd (Code.snd (Code.snd (Code.snd (Xnv Try.f28))))))))
noncomputable abbrev q28c16:=Code.snd (Code.fst (Code.snd (Code.snd (Code.snd (Code.snd (Code.snd (Code.snd (Xnv Try.f28))))))))
noncomputable abbrev Ycj:=Code.snd Yel
noncomputable abbrev Xwm:=Code.fst (Code.fst (Code.snd (Code.fst Yel)))
noncomputable abbrev q28c36:=Code.fst (Code.fst (Code.fst (Code.snd Xwm)))
noncomputable abbrev q28c38:=Code.fst (Code.snd (Code.fst (Code.fst (Code.snd Xwm))))
noncomputable abbrev q28c42:=Code.fst (Code.snd (Code.snd (Code.snd (Code.fst (Code.fst (Code.snd Xwm))))))
abbrev Xpb (w:World) (F:Nat→Prop) (r:Bool):Ending→World→Prop:=fun e w'=>e=.returned (.bool r)∧B.Loc w w' [] [St w []]
noncomputable abbrev Xq4 (w:World) (F:Nat→Prop) (r:Bool):Cx:=⟨Try.prog,28,Try.f28,126,Xpb w F  r,w⟩
theorem Xsq (w:World) (F:Nat→Prop) (x1:Xml) (x46:Int) (x47:Int) (x48:List (List Xm4)) (x53:List (List Xm4 × Nat)) (k54:Nat) (x57:List Int) (k62:Nat) (x65:List (List Xm4)) (x70:List Int) (A2:Option Addr) (n3:Nat) (c4:Nat) (A6:Option Addr) (n7:Nat) (c8:Nat) (A10:Option Addr) (n11:Nat) (c12:Nat) (A14:Option Addr) (n15:Nat) (c16:Nat) (A18:Option Addr) (n19:Nat) (c20:Nat) (A22:Option Addr) (n23:Nat) (c24:Nat) (A26:Option Addr) (n27:Nat) (c28:Nat) (A30:Option Addr) (n31:Nat) (c32:Nat) (A34:Option Addr) (n35:Nat) (c36:Nat) (A38:Option Addr) (n39:Nat) (c40:Nat) (A42:Option Addr) (n43:Nat) (c44:Nat) (A49:Option Addr) (n50:Nat) (c51:Nat) (A58:Option Addr) (n59:Nat) (c60:Nat) (A66:Option Addr) (n67:Nat) (c68:Nat) (A71:Option Addr) (n72:Nat) (c73:Nat) (h5:Rw Xoq w (St w []).av A2 n3 c4 x1.modes) (h9:Rw Xng w (St w []).av A6 n7 c8 x1.gram.terms) (h13:Rw Xor w (St w []).av A10 n11 c12 x1.gram.syms) (h17:Rw Xo9 w (St w []).av A14 n15 c16 x1.gram.prods) (h21:Rw Xqc w (St w []).av A18 n19 c20 x1.rules) (h25:Rw (Kd.slice Xol) w (St w []).av A22 n23 c24 x1.table.actions) (h29:Rw (Kd.slice (Xs2 .i64)) w (St w []).av A26 n27 c28 x1.table.gotos) (h33:Rw Xoc w (St w []).av A30 n31 c32 x1.paints) (h37:Rw Xz4 w (St w []).av A34 n35 c36 x1.folds) (h41:Rw Xop w (St w []).av A38 n39 c40 x1.marks) (h45:Rw Xo4 w (St w []).av A42 n43 c44 x1.injects) (h52:Rw Xx0 w (St w []).av A49 n50 c51 x53) (hk55:k54≤n50) (h61:Rw (Xs2 .i64) w (St w []).av A58 n59 c60 x57) (hk63:k62≤n59) (h69:Rw (Kd.slice Xmo) w (St w []).av A66 n67 c68 x65) (h74:Rw (Xs2 .i64) w (St w []).av A71 n72 c73 x70) (hF:∀ b,F b→b < w.heap.size∧∀ o ∈ ([]:List (List Nat)),b ∉ o) (hL0:B.Loc w w [] [Sm w.heap.size F w [],St w []]) (r:Bool) (h:Xpw x1 x46 x47 x48 x53 k54 x57 k62 x65 x70 r):Calls Try.prog 28 #[.agg #[.string x1.name,.slice A2 n3 c4,.slice A6 n7 c8,.slice A10 n11 c12,.slice A14 n15 c16,.slice A18 n19 c20,.slice A22 n23 c24,.slice A26 n27 c28,.slice A30 n31 c32,.slice A34 n35 c36,.slice A38 n39 c40,.slice A42 n43 c44],.int .i64 x46,.int .i64 x47,.slice A49 k54 c51,.slice A58 k62 c60,.slice A66 n67 c68,.slice A71 n72 c73] w (Xpb w F  r):=by
 unfold Xpw at h
 have h56:=Rw.pre h52 hk55
 have h64:=Rw.pre h61 hk63
 refine Xmq (vs:=[.agg #[.string x1.name,.slice A2 n3 c4,.slice A6 n7 c8,.slice A10 n11 c12,.slice A14 n15 c16,.slice A18 n19 c20,.slice A22 n23 c24,.slice A26 n27 c28,.slice A30 n31 c32,.slice A34 n35 c36,.slice A38 n39 c40,.slice A42 n43 c44],.int .i64 x46,.int .i64 x47,.slice A49 k54 c51,.slice A58 k62 c60,.slice A66 n67 c68,.slice A71 n72 c73]) 126 Try.func28 rfl Try.ntmps28 rfl hL0 ?_
 show G (Xq4 w F r) _ _ _ _
 refine Xmb rfl<|Xm8 rfl rfl ?_
 refine Xmw 0 rfl (Xtj [.string x1.name,.slice A2 n3 c4,.slice A6 n7 c8,.slice A10 n11 c12,.slice A14 n15 c16,.slice A18 n19 c20,.slice A22 n23 c24,.slice A26 n27 c28,.slice A30 n31 c32,.slice A34 n35 c36,.slice A38 n39 c40,.slice A42 n43 c44] rfl rfl rfl fun gb75=>?_) gn
 refine Xm5 1 rfl (Xm9 rfl) gn rfl<|Xmc 2 rfl<|Xmb rfl<|Xm8 rfl rfl<|Xm5 0 rfl (Xq7 [.string x1.name,.slice A2 n3 c4,.slice A6 n7 c8,.slice A10 n11 c12,.slice A14 n15 c16,.slice A18 n19 c20,.slice A22 n23 c24,.slice A26 n27 c28,.slice A30 n31 c32,.slice A34 n35 c36,.slice A38 n39 c40,.slice A42 n43 c44] 0 Xy2 rfl rfl rfl rfl) gn rfl<|Xm5 1 rfl (Xm7 rfl) gn rfl<|Xm5 2 rfl (Xm7 rfl) gn rfl<|Xm5 3 rfl (Xm7 rfl) gn rfl ?_
 obtain ⟨r80,hv81,h⟩:=h
 refine Xmw 4 rfl (Xne [.agg #[.string x1.name,.slice A2 n3 c4,.slice A6 n7 c8,.slice A10 n11 c12,.slice A14 n15 c16,.slice A18 n19 c20,.slice A22 n23 c24,.slice A26 n27 c28,.slice A30 n31 c32,.slice A34 n35 c36,.slice A38 n39 c40,.slice A42 n43 c44],.int .i64 x47,.slice A66 n67 c68,.slice A71 n72 c73] rfl Try.func35 rfl rfl rfl fun w77 hL78=>?_) gn
 have hp79:=pmI hL78 .n (.c 0 rfl .n) (by kernel_rfl)
 refine Calls.mono (Xv3 w77 (Fl ([]:List Xmp)) x1 x47 x65 x70 A2 n3 c4 A6 n7 c8 A10 n11 c12 A14 n15 c16 A18 n19 c20 A22 n23 c24 A26 n27 c28 A30 n31 c32 A34 n35 c36 A38 n39 c40 A42 n43 c44 A66 n67 c68 A71 n72 c73 (Rw.mono h5 (hL78.toSt hp79 (me 1 rfl))) (Rw.mono h9 (hL78.toSt hp79 (me 1 rfl))) (Rw.mono h13 (hL78.toSt hp79 (me 1 rfl))) (Rw.mono h17 (hL78.toSt hp79 (me 1 rfl))) (Rw.mono h21 (hL78.toSt hp79 (me 1 rfl))) (Rw.mono h25 (hL78.toSt hp79 (me 1 rfl))) (Rw.mono h29 (hL78.toSt hp79 (me 1 rfl))) (Rw.mono h33 (hL78.toSt hp79 (me 1 rfl))) (Rw.mono h37 (hL78.toSt hp79 (me 1 rfl))) (Rw.mono h41 (hL78.toSt hp79 (me 1 rfl))) (Rw.mono h45 (hL78.toSt hp79 (me 1 rfl))) (Rw.mono h69 (hL78.toSt hp79 (me 1 rfl))) (Rw.mono h74 (hL78.toSt hp79 (me 1 rfl))) (hL78.hFl hp79 (Xms [] rfl)) (hL78.into hp79 _) r80 hv81) ?_
 rintro _ w87 ⟨A82,n83,c84,rfl,hM88,h85⟩
 have hL89:=hL78.call hp79 hM88
 refine ⟨_,_,_,rfl,hL89,?_⟩
 refine Xm5 5 rfl (Xm9 rfl) gn rfl<|Xmc 6 rfl<|Xmb rfl<|Xm8 rfl rfl<|Xm5 0 rfl (Xq7 [.string x1.name,.slice A2 n3 c4,.slice A6 n7 c8,.slice A10 n11 c12,.slice A14 n15 c16,.slice A18 n19 c20,.slice A22 n23 c24,.slice A26 n27 c28,.slice A30 n31 c32,.slice A34 n35 c36,.slice A38 n39 c40,.slice A42 n43 c44] 1 Xy2 rfl rfl rfl rfl) gn rfl<|Xm5 1 rfl (Xm7 rfl) gn rfl<|Xm5 2 rfl (Xm7 rfl) gn rfl<|Xm5 3 rfl (Xm7 rfl) gn rfl ?_
 obtain ⟨r93,hv94,h⟩:=h
 refine Xmw 4 rfl (Xne [.agg #[.string x1.name,.slice A2 n3 c4,.slice A6 n7 c8,.slice A10 n11 c12,.slice A14 n15 c16,.slice A18 n19 c20,.slice A22 n23 c24,.slice A26 n27 c28,.slice A30 n31 c32,.slice A34 n35 c36,.slice A38 n39 c40,.slice A42 n43 c44],.int .i64 x47,.slice A49 k54 c51,.slice A58 k62 c60] rfl Try.func32 rfl rfl rfl fun w90 hL91=>?_) gn
 have hp92:=pmI hL91 .n (.c 0 rfl (.c 1 rfl .n)) (by kernel_rfl)
 refine Calls.mono (Xyx w90 (Fl ([]:List Xmp)) x1 x47 ((x53.take k54).map Xt7) (x57.take k62) A2 n3 c4 A6 n7 c8 A10 n11 c12 A14 n15 c16 A18 n19 c20 A22 n23 c24 A26 n27 c28 A30 n31 c32 A34 n35 c36 A38 n39 c40 A42 n43 c44 A49 k54 c51 A58 k62 c60 (Rw.mono h5 (hL91.toSt hp92 (me 1 rfl))) (Rw.mono h9 (hL91.toSt hp92 (me 1 rfl))) (Rw.mono h13 (hL91.toSt hp92 (me 1 rfl))) (Rw.mono h17 (hL91.toSt hp92 (me 1 rfl))) (Rw.mono h21 (hL91.toSt hp92 (me 1 rfl))) (Rw.mono h25 (hL91.toSt hp92 (me 1 rfl))) (Rw.mono h29 (hL91.toSt hp92 (me 1 rfl))) (Rw.mono h33 (hL91.toSt hp92 (me 1 rfl))) (Rw.mono h37 (hL91.toSt hp92 (me 1 rfl))) (Rw.mono h41 (hL91.toSt hp92 (me 1 rfl))) (Rw.mono h45 (hL91.toSt hp92 (me 1 rfl))) (Rw.vis (dk:=Xx0) (dk2:=(Kd.slice Xmo)) Xt7 rfl (fun x cs=>by rintro ⟨A,n,c,rfl,h,k⟩; exact ⟨A,_,c,rfl,Rw.pre h k⟩) (Rw.mono h56 (hL91.toSt hp92 (me 1 rfl)))) (Rw.mono h64 (hL91.toSt hp92 (me 1 rfl))) (hL91.hFl hp92 (Xms [] rfl)) (hL91.into hp92 _) r93 hv94) ?_
 rintro _ w100 ⟨A95,n96,c97,rfl,hM101,h98⟩
 have hL102:=hL91.call hp92 hM101
 refine ⟨_,_,_,rfl,hL102,?_⟩
 refine Xm5 5 rfl (Xm9 rfl) gn rfl<|Xmc 6 rfl<|Xmb rfl<|Xm8 rfl rfl<|Xm5 0 rfl (Xm7 rfl) gn rfl<|Xm5 1 rfl (Xm7 rfl) gn rfl ?_
 obtain ⟨r106,hv107,h⟩:=h
 refine Xmw 2 rfl (Xne [.slice A95 n96 c97,.slice A82 n83 c84] rfl Try.func27 rfl rfl rfl fun w103 hL104=>?_) gn
 have hp105:=pmI hL104 .n (.c 0 rfl (.c 1 rfl (.c 2 rfl .n))) (by kernel_rfl)
 refine Calls.mono (Xq8 w103 (Fl ([]:List Xmp)) r93 r80 A95 n96 c97 A82 n83 c84 (hL104.argO (dk:=Xmo) hp105 [] rfl 0 rfl rfl (Ow.weak hL91.env.size h98) (me 0 rfl) (Cells.flat _)) (hL104.argO (dk:=Xmo) hp105 [] rfl 1 rfl rfl (Ow.weak hL78.env.size h85) (me 0 rfl) (Cells.flat _)) (hL104.hFl hp105 (Xms [] rfl)) (hL104.into hp105 _) r106 hv107) ?_
 rintro _ w108 ⟨rfl,hM109⟩
 have hL110:=hL104.call hp105 hM109
 refine ⟨_,_,_,rfl,hL110,?_⟩
 refine Xm5 3 rfl (Xm9 rfl) gn rfl<|Xmc 4 rfl<|Xmb rfl<|Xm8 rfl rfl<|Xm5 0 rfl (Xm7 rfl) gn rfl<|Xm5 1 rfl (Xm7 rfl) gn rfl<|Xm5 2 rfl (Xmm Xuy rfl h69.hq) gn rfl<|Xm5 3 rfl (Xmk rfl rfl rfl) gn rfl ?_
 obtain ⟨hb111,h⟩:=h
 have hle112:(w64 ((x65.length:Int) + 2):Int).toNat≤n50:=by have q:=hb111; have q1:=h52.hq; omega
 have h113:=Rw.pre h52 hle112
 refine Xm5 4 rfl (Xuf (i:=w64 ((x65.length:Int) + 2)) Xqn rfl rfl (by have q:=hb111; have q1:=h52.hq; have q2:=h52.hn; omega) h56.hn rfl) gn rfl<|Xm5 5 rfl (Xm9 rfl) gn rfl<|Xmc 6 rfl<|Xmb rfl<|Xm8 rfl rfl<|Xm5 0 rfl (Xm7 rfl) gn rfl<|Xm5 1 rfl (Xm7 rfl) gn rfl<|Xm5 2 rfl (Xmm Xqp rfl h74.hq) gn rfl<|Xm5 3 rfl (Xmk rfl rfl rfl) gn rfl ?_
 obtain ⟨hb114,h⟩:=h
 have hle115:(w64 ((x70.length:Int) + 2):Int).toNat≤n59:=by have q:=hb114; have q1:=h61.hq; omega
 have h116:=Rw.pre h61 hle115
 refine Xm5 4 rfl (Xuf (i:=w64 ((x70.length:Int) + 2)) Xpg rfl rfl (by have q:=hb114; have q1:=h61.hq; have q2:=h61.hn; omega) h64.hn rfl) gn rfl<|Xm5 5 rfl (Xm9 rfl) gn rfl<|Xmc 6 rfl<|Xmb rfl<|Xmb rfl ?_
 have j1:∀ (x350:Bool) (h:Xo2 x65 x1 x46 x53 k54 x350 r) ,G (Xq4 w F r) [.code q28c16,.code Yel] [(1,.int .i64 x46),(3,.slice A49 k54 c51),(5,.slice A66 n67 c68),(7,.pointer (some ⟨gb75,0,none⟩)),(88,.bool x350)] [.box gb75 58 [.string x1.name,.slice A2 n3 c4,.slice A6 n7 c8,.slice A10 n11 c12,.slice A14 n15 c16,.slice A18 n19 c20,.slice A22 n23 c24,.slice A26 n27 c28,.slice A30 n31 c32,.slice A34 n35 c36,.slice A38 n39 c40,.slice A42 n43 c44]] [Sm w.heap.size F w [],St w []]:=by
  intro x350 h
  unfold Xo2 at h
  by_cases hp351:x350=true
  ·have h:=Xmf hp351 h
   refine Xmy rfl _ rfl (hp351)<|Xmb rfl<|Xm8 rfl rfl<|Xm5 0 rfl (Xm9 rfl) gn rfl<|Xmc 1 rfl ?_
   refine Xmt [.bool false] rfl Try.func28 rfl (.tmp rfl (.nil)) fun wr hLr=>?_
   have hMr:=hLr.pk0 (.c 1 rfl .n)
   show Xpb w F  r (.returned (Xmz [.bool false])) wr
   rw [h]
   exact ⟨rfl,hMr⟩
  ·have h:=Xmg hp351 h
   refine Xmr rfl _ rfl ((bf hp351))<|Xn1 rfl<|Xmb rfl<|Xmb rfl<|Xm8 rfl rfl<|Xm5 0 rfl (Xm9 rfl) gn rfl<|Xmc 1 rfl<|Xn8 rfl<|Xqz rfl ?_
   have key2:∀ s,Xmh (fun (s:Int) o=>Xoy x65 x1 x46 x53 k54 s o) s r→(fun (s:Int)=>∀ (_:Unit),G (Xq4 w F r) [.code Xwm,.inLoop Xwm,.inBlock 0,.code Ycj] [(1,.int .i64 x46),(3,.slice A49 k54 c51),(5,.slice A66 n67 c68),(7,.pointer (some ⟨gb75,0,none⟩)),(20,.int .i64 s)] [.box gb75 58 [.string x1.name,.slice A2 n3 c4,.slice A6 n7 c8,.slice A10 n11 c12,.slice A14 n15 c16,.slice A18 n19 c20,.slice A22 n23 c24,.slice A26 n27 c28,.slice A30 n31 c32,.slice A34 n35 c36,.slice A38 n39 c40,.slice A42 n43 c44]] [Sm w.heap.size F w [],St w []]) s:=by
    intro s hs
    refine Xmh.ind (mot:=(fun (s:Int)=>∀ (_:Unit),G (Xq4 w F r) [.code Xwm,.inLoop Xwm,.inBlock 0,.code Ycj] [(1,.int .i64 x46),(3,.slice A49 k54 c51),(5,.slice A66 n67 c68),(7,.pointer (some ⟨gb75,0,none⟩)),(20,.int .i64 s)] [.box gb75 58 [.string x1.name,.slice A2 n3 c4,.slice A6 n7 c8,.slice A10 n11 c12,.slice A14 n15 c16,.slice A18 n19 c20,.slice A22 n23 c24,.slice A26 n27 c28,.slice A30 n31 c32,.slice A34 n35 c36,.slice A38 n39 c40,.slice A42 n43 c44]] [Sm w.heap.size F w [],St w []])) ?_ hs
    clear hs s
    intro x594 o1 h hO1
    show ∀ (_:Unit),G (Xq4 w F r) [.code Xwm,.inLoop Xwm,.inBlock 0,.code Ycj] [(1,.int .i64 x46),(3,.slice A49 k54 c51),(5,.slice A66 n67 c68),(7,.pointer (some ⟨gb75,0,none⟩)),(20,.int .i64 x594)] [.box gb75 58 [.string x1.name,.slice A2 n3 c4,.slice A6 n7 c8,.slice A10 n11 c12,.slice A14 n15 c16,.slice A18 n19 c20,.slice A22 n23 c24,.slice A26 n27 c28,.slice A30 n31 c32,.slice A34 n35 c36,.slice A38 n39 c40,.slice A42 n43 c44]] [Sm w.heap.size F w [],St w []]
    intro _
    have h:Xoy x65 x1 x46 x53 k54 x594 o1:=h
    unfold Xoy at h
    refine Xmb rfl<|Xmb rfl<|Xm8 rfl rfl<|Xm5 0 rfl (Xm7 rfl) gn rfl<|Xm5 1 rfl (Xm7 rfl) gn rfl<|Xm5 2 rfl (Xmm Xuy rfl h69.hq) gn rfl<|Xm5 3 rfl (Xmk rfl rfl rfl) gn rfl<|Xmc 4 rfl ?_
    by_cases hp836:x594 < (x65.length:Int)
    ·have h:=Xmf hp836 h
     refine Xmy rfl _ rfl ((decide_eq_true hp836))<|Xn1 rfl<|Xmb rfl<|Xn8 rfl<|Xmb rfl ?_
     obtain ⟨hb837,h⟩:=h
     obtain ⟨r848,hv849,h⟩:=h
     have hns:Region.noSelect (Code.ops q28c36)=true:=by kernel_rfl
     refine Xpl [] 8 rfl rfl mix rfl (.c 0 rfl (.c 1 rfl .n))<|wfv 0 rfl (Xq7 [.string x1.name,.slice A2 n3 c4,.slice A6 n7 c8,.slice A10 n11 c12,.slice A14 n15 c16,.slice A18 n19 c20,.slice A22 n23 c24,.slice A26 n27 c28,.slice A30 n31 c32,.slice A34 n35 c36,.slice A38 n39 c40,.slice A42 n43 c44] 0 Xy2 rfl rfl rfl rfl) gn hns rfl<|wfv 1 rfl (Xm7 rfl) gn hns rfl<|wfv 2 rfl (Xm7 rfl) gn hns rfl<|wfv 3 rfl (Xm7 rfl) gn hns rfl ?_
     obtain ⟨ce886,hK887,hr885⟩:=Rw.read (s:=St w []) h69 hb837
     obtain ⟨A888,n889,c890,rfl,h891⟩:=hK887
     refine wfv 4 rfl (Xn4 (s:=St w []) Xqn rfl rfl h69 hb837) gn hns rfl<|wfv 5 rfl (Xnl (kk:=(x594:Int).toNat * 1) (j:=0) (St w []) Xsj rfl hr885 rfl (me 1 rfl)) gn hns rfl ?_
     refine Xn9 [6] (by kernel_rfl) rfl ⟨Xqb 6 rfl gn rfl (Xne [.agg #[.string x1.name,.slice A2 n3 c4,.slice A6 n7 c8,.slice A10 n11 c12,.slice A14 n15 c16,.slice A18 n19 c20,.slice A22 n23 c24,.slice A26 n27 c28,.slice A30 n31 c32,.slice A34 n35 c36,.slice A38 n39 c40,.slice A42 n43 c44],.int .i64 x46,.slice A888 n889 c890] rfl Try.func49 rfl rfl rfl fun w902 hL903=>?_),trivial⟩
     have hp904:=pmI hL903 .n (.c 0 rfl .n) (by kernel_rfl)
     refine Calls.mono (Xw0 w902 (Fl ([]:List Xmp)) x1 x46 (ix x65 x594) A2 n3 c4 A6 n7 c8 A10 n11 c12 A14 n15 c16 A18 n19 c20 A22 n23 c24 A26 n27 c28 A30 n31 c32 A34 n35 c36 A38 n39 c40 A42 n43 c44 A888 n889 c890 (Rw.mono h5 (hL903.toSt hp904 (me 1 rfl))) (Rw.mono h9 (hL903.toSt hp904 (me 1 rfl))) (Rw.mono h13 (hL903.toSt hp904 (me 1 rfl))) (Rw.mono h17 (hL903.toSt hp904 (me 1 rfl))) (Rw.mono h21 (hL903.toSt hp904 (me 1 rfl))) (Rw.mono h25 (hL903.toSt hp904 (me 1 rfl))) (Rw.mono h29 (hL903.toSt hp904 (me 1 rfl))) (Rw.mono h33 (hL903.toSt hp904 (me 1 rfl))) (Rw.mono h37 (hL903.toSt hp904 (me 1 rfl))) (Rw.mono h41 (hL903.toSt hp904 (me 1 rfl))) (Rw.mono h45 (hL903.toSt hp904 (me 1 rfl))) (Rw.mono h891 (hL903.toSt hp904 (me 1 rfl))) (hL903.hFl hp904 (Xms [] rfl)) (hL903.into hp904 _) r848 hv849) ?_
     rintro _ w909 ⟨A905,n906,c907,rfl,hM910,h908⟩
     have hL911:=hL903.call hp904 hM910
     refine ⟨_,_,_,rfl,hL911,?_⟩
     refine ⟨Xms [1] rfl,Xms [0,1] rfl,?_⟩
     refine wfv 7 rfl (Xm9 rfl) gn hns rfl<|Xox (by kernel_rfl)<|Xmb rfl ?_
     obtain ⟨hb912,h⟩:=h
     obtain ⟨r924,hv925,h⟩:=h
     have hns:Region.noSelect (Code.ops q28c38)=true:=by kernel_rfl
     refine Xpl [] 8 rfl rfl mix rfl (.c 0 rfl (.c 1 rfl .n))<|wfv 0 rfl (Xq7 [.string x1.name,.slice A2 n3 c4,.slice A6 n7 c8,.slice A10 n11 c12,.slice A14 n15 c16,.slice A18 n19 c20,.slice A22 n23 c24,.slice A26 n27 c28,.slice A30 n31 c32,.slice A34 n35 c36,.slice A38 n39 c40,.slice A42 n43 c44] 1 Xy2 rfl rfl rfl rfl) gn hns rfl<|wfv 1 rfl (Xm7 rfl) gn hns rfl<|wfv 2 rfl (Xm7 rfl) gn hns rfl<|wfv 3 rfl (Xm7 rfl) gn hns rfl ?_
     obtain ⟨ce963,hK964,hr962⟩:=Rw.read (s:=St w []) h56 hb912
     obtain ⟨A965,n966,c967,rfl,h968,hk969⟩:=hK964
     refine wfv 4 rfl (Xn4 (s:=St w []) Xqn rfl rfl h56 hb912) gn hns rfl<|wfv 5 rfl (Xnl (kk:=(x594:Int).toNat * 1) (j:=0) (St w []) Xsj rfl hr962 rfl (me 1 rfl)) gn hns rfl ?_
     refine Xn9 [6] (by kernel_rfl) rfl ⟨Xqb 6 rfl gn rfl (Xne [.agg #[.string x1.name,.slice A2 n3 c4,.slice A6 n7 c8,.slice A10 n11 c12,.slice A14 n15 c16,.slice A18 n19 c20,.slice A22 n23 c24,.slice A26 n27 c28,.slice A30 n31 c32,.slice A34 n35 c36,.slice A38 n39 c40,.slice A42 n43 c44],.int .i64 x46,.slice A965 ((ix (x53.take k54) x594).2) c967] rfl Try.func33 rfl rfl rfl fun w980 hL981=>?_),trivial⟩
     have hp982:=pmI hL981 .n (.c 0 rfl (.c 1 rfl .n)) (by kernel_rfl)
     refine Calls.mono (Xwy w980 (Fl ([]:List Xmp)) x1 x46 (((ix (x53.take k54) x594).1).take ((ix (x53.take k54) x594).2)) A2 n3 c4 A6 n7 c8 A10 n11 c12 A14 n15 c16 A18 n19 c20 A22 n23 c24 A26 n27 c28 A30 n31 c32 A34 n35 c36 A38 n39 c40 A42 n43 c44 A965 ((ix (x53.take k54) x594).2) c967 (Rw.mono h5 (hL981.toSt hp982 (me 1 rfl))) (Rw.mono h9 (hL981.toSt hp982 (me 1 rfl))) (Rw.mono h13 (hL981.toSt hp982 (me 1 rfl))) (Rw.mono h17 (hL981.toSt hp982 (me 1 rfl))) (Rw.mono h21 (hL981.toSt hp982 (me 1 rfl))) (Rw.mono h25 (hL981.toSt hp982 (me 1 rfl))) (Rw.mono h29 (hL981.toSt hp982 (me 1 rfl))) (Rw.mono h33 (hL981.toSt hp982 (me 1 rfl))) (Rw.mono h37 (hL981.toSt hp982 (me 1 rfl))) (Rw.mono h41 (hL981.toSt hp982 (me 1 rfl))) (Rw.mono h45 (hL981.toSt hp982 (me 1 rfl))) (Rw.mono (Rw.pre h968 hk969) (hL981.toSt hp982 (me 1 rfl))) (hL981.hFl hp982 (Xms [] rfl)) (hL981.into hp982 _) r924 hv925) ?_
     rintro _ w987 ⟨A983,n984,c985,rfl,hM988,h986⟩
     have hL989:=hL981.call hp982 hM988
     refine ⟨_,_,_,rfl,hL989,?_⟩
     refine ⟨Xms [1,2] rfl,Xms [0,1] rfl,?_⟩
     refine wfv 7 rfl (Xm9 rfl) gn hns rfl<|Xox (by kernel_rfl)<|Xmb rfl<|Xm8 rfl rfl<|Xm5 0 rfl (Xm7 rfl) gn rfl<|Xm5 1 rfl (Xm7 rfl) gn rfl ?_
     obtain ⟨r993,hv994,h⟩:=h
     refine Xmw 2 rfl (Xne [.slice A983 n984 c985,.slice A905 n906 c907] rfl Try.func27 rfl rfl rfl fun w990 hL991=>?_) gn
     have hp992:=pmI hL991 .n (.c 0 rfl (.c 1 rfl (.c 2 rfl .n))) (by kernel_rfl)
     refine Calls.mono (Xq8 w990 (Fl ([]:List Xmp)) r924 r848 A983 n984 c985 A905 n906 c907 (hL991.argO (dk:=Xmo) hp992 [] rfl 0 rfl rfl (Ow.weak hL981.env.size h986) (me 0 rfl) (Cells.flat _)) (hL991.argO (dk:=Xmo) hp992 [] rfl 1 rfl rfl (Ow.weak hL903.env.size h908) (me 0 rfl) (Cells.flat _)) (hL991.hFl hp992 (Xms [] rfl)) (hL991.into hp992 _) r993 hv994) ?_
     rintro _ w995 ⟨rfl,hM996⟩
     have hL997:=hL991.call hp992 hM996
     refine ⟨_,_,_,rfl,hL997,?_⟩
     refine Xm5 3 rfl (Xm9 rfl) gn rfl<|Xmc 4 rfl<|Xmb rfl ?_
     by_cases hp998:r993=true
     ·have h:=Xmf hp998 h
      obtain ⟨r1017,hv1018,h⟩:=h
      have hns:Region.noSelect (Code.ops q28c42)=true:=by kernel_rfl
      refine Xpl [] 14 rfl rfl mix rfl (.c 0 rfl (.c 1 rfl .n))<|wfv 0 rfl (Xm7 rfl) gn hns rfl<|wfv 1 rfl (Xrz rfl) gn hns rfl<|wfv 2 rfl (Xm7 rfl) gn hns rfl<|Xrk 114 rfl ((nf hp998))<|wfv 3 rfl (Xm7 rfl) (gy 114 rfl rfl) hns rfl<|wfv 4 rfl (Xm7 rfl) (gy 114 rfl rfl) hns rfl ?_
      obtain ⟨ce1050,hK1051,hr1049⟩:=Rw.read (s:=St w []) h56 hb912
      obtain ⟨A1052,n1053,c1054,rfl,h1055,hk1056⟩:=hK1051
      refine wfv 5 rfl (Xn4 (s:=St w []) Xqn rfl rfl h56 hb912) (gy 114 rfl rfl) hns rfl<|wfv 6 rfl (Xnl (kk:=(x594:Int).toNat * 1) (j:=0) (St w []) Xsj rfl hr1049 rfl (me 1 rfl)) (gy 114 rfl rfl) hns rfl<|wfv 7 rfl (Xm7 rfl) (gy 114 rfl rfl) hns rfl<|wfv 8 rfl (Xm7 rfl) (gy 114 rfl rfl) hns rfl ?_
      obtain ⟨ce1058,hK1059,hr1057⟩:=Rw.read (s:=St w []) h69 hb837
      obtain ⟨A1060,n1061,c1062,rfl,h1063⟩:=hK1059
      refine wfv 9 rfl (Xn4 (s:=St w []) Xqn rfl rfl h69 hb837) (gy 114 rfl rfl) hns rfl<|wfv 10 rfl (Xnl (kk:=(x594:Int).toNat * 1) (j:=0) (St w []) Xsj rfl hr1057 rfl (me 1 rfl)) (gy 114 rfl rfl) hns rfl ?_
      refine Xn9 [11] (by kernel_rfl) rfl ⟨Xqb 11 rfl (gy 114 rfl rfl) rfl (Xne [.slice A1052 ((ix (x53.take k54) x594).2) c1054,.slice A1060 n1061 c1062] rfl Try.func16 rfl rfl rfl fun w1070 hL1071=>?_),trivial⟩
      have hp1072:=pmI hL1071 .n (.c 0 rfl (.c 1 rfl (.c 2 rfl .n))) (by kernel_rfl)
      refine Calls.mono (Xvn w1070 (Fl ([]:List Xmp)) ((ix (x53.take k54) x594).1) ((ix (x53.take k54) x594).2) (ix x65 x594) A1052 n1053 c1054 A1060 n1061 c1062 (Rw.mono h1055 (hL1071.toSt hp1072 (me 1 rfl))) hk1056 (Rw.mono h1063 (hL1071.toSt hp1072 (me 1 rfl))) (hL1071.hFl hp1072 (Xms [] rfl)) (hL1071.into hp1072 _) r1017 hv1018) ?_
      rintro _ w1073 ⟨rfl,hM1074⟩
      have hL1075:=hL1071.call hp1072 hM1074
      refine ⟨_,_,_,rfl,hL1075,?_⟩
      refine ⟨Xms [0,1,2] rfl,Xms [0,1] rfl,?_⟩
      refine wfv 12 rfl (Xrz rfl) (gy 114 rfl rfl) hns rfl<|wfv 13 rfl (Xmn (b:=false) rfl rfl) gn hns rfl<|Xox (by kernel_rfl) ?_
      by_cases hp1076:r1017=true
      ·have h:=Xmf hp1076 h
       refine Xmr rfl _ rfl ((nf hp1076))<|Xn1 rfl<|Xnh<|Xm8 rfl rfl<|Xm5 0 rfl (Xm7 rfl) gn rfl<|Xm5 1 rfl (Xmk rfl rfl rfl) gn rfl<|Xm5 2 rfl (Xm9 rfl) gn rfl<|Xmc 3 rfl<|Xo7 ?_
       have ih:=Out.inl hO1 h
       exact Xnj [0,1] (ih ()) ⟨rfl,rfl,rfl,rfl,rfl,trivial⟩ (.cons _ (.cons _ (.cons_cons _ (.slnil)))) rfl
      ·have h:=Xmg hp1076 h
       refine Xmy rfl _ rfl ((nt (bf hp1076)))<|Xmb rfl<|Xm8 rfl rfl<|Xm5 0 rfl (Xm9 rfl) gn rfl<|Xmc 1 rfl ?_
       have h:=Out.inr hO1 h
       refine Xmt [.bool false] rfl Try.func28 rfl (.tmp rfl (.nil)) fun wr hLr=>?_
       have hMr:=hLr.pk0 (.c 1 rfl .n)
       show Xpb w F  r (.returned (Xmz [.bool false])) wr
       rw [h]
       exact ⟨rfl,hMr⟩
     ·have h:=Xmg hp998 h
      have hns:Region.noSelect (Code.ops q28c42)=true:=by kernel_rfl
      refine Xpl [] 14 rfl rfl mix rfl (.c 0 rfl (.c 1 rfl .n))<|wfv 0 rfl (Xm7 rfl) gn hns rfl<|wfv 1 rfl (Xrz rfl) gn hns rfl<|wfv 2 rfl (Xm7 rfl) gn hns rfl<|Xrk 114 rfl ((nt (bf hp998)))<|wfp 3 rfl (ps 114 rfl rfl rfl) hns rfl<|wfp 4 rfl (ps 114 rfl rfl rfl) hns rfl<|wfp 5 rfl (ps 114 rfl rfl rfl) hns rfl<|wfp 6 rfl (ps 114 rfl rfl rfl) hns rfl<|wfp 7 rfl (ps 114 rfl rfl rfl) hns rfl<|wfp 8 rfl (ps 114 rfl rfl rfl) hns rfl<|wfp 9 rfl (ps 114 rfl rfl rfl) hns rfl ?_
      refine wfp 10 rfl (ps 114 rfl rfl rfl) hns rfl<|wfp 11 rfl (ps 114 rfl rfl rfl) hns rfl<|wfp 12 rfl (ps 114 rfl rfl rfl) hns rfl<|wfv 13 rfl (Xmn (b:=true) rfl rfl) gn hns rfl<|Xox (by kernel_rfl)<|Xmy rfl _ rfl (rfl)<|Xmb rfl<|Xm8 rfl rfl<|Xm5 0 rfl (Xm9 rfl) gn rfl<|Xmc 1 rfl ?_
      have h:=Out.inr hO1 h
      refine Xmt [.bool false] rfl Try.func28 rfl (.tmp rfl (.nil)) fun wr hLr=>?_
      have hMr:=hLr.pk0 (.c 1 rfl .n)
      show Xpb w F  r (.returned (Xmz [.bool false])) wr
      rw [h]
      exact ⟨rfl,hMr⟩
    ·have h:=Xmg hp836 h
     refine Xmr rfl _ rfl ((decide_eq_false hp836))<|Xqk [.code Ycj] rfl rfl<|Xmb rfl<|Xm8 rfl rfl<|Xm5 0 rfl (Xm9 rfl) gn rfl<|Xmc 1 rfl ?_
     have h:=Out.inr hO1 h
     refine Xmt [.bool true] rfl Try.func28 rfl (.tmp rfl (.nil)) fun wr hLr=>?_
     have hMr:=hLr.pk0 (.c 1 rfl .n)
     show Xpb w F  r (.returned (Xmz [.bool true])) wr
     rw [h]
     exact ⟨rfl,hMr⟩
   exact Xnj [0,1] (key2 _ h ()) ⟨rfl,rfl,rfl,rfl,rfl,trivial⟩ (.cons_cons _ (.slnil)) rfl
 by_cases hp1077:r106=true
 ·have h:=Xmf hp1077 h
  obtain ⟨r1081,hv1082,h⟩:=h
  by_cases hp1086:r1081=true
  ·have h:=Xmf hp1086 h
   obtain ⟨hb1087,h⟩:=h
   obtain ⟨hb1096,h⟩:=h
   by_cases hp1105:w64 (((((ix (x53.take ((w64 ((x65.length:Int) + 2):Int).toNat)) (x65.length:Int)).1).take ((ix (x53.take ((w64 ((x65.length:Int) + 2):Int).toNat)) (x65.length:Int)).2)).length:Int) + ((((ix (x53.take ((w64 ((x65.length:Int) + 2):Int).toNat)) (w64 ((x65.length:Int) + 1))).1).take ((ix (x53.take ((w64 ((x65.length:Int) + 2):Int).toNat)) (w64 ((x65.length:Int) + 1))).2)).length:Int)) > 0
   ·have h:=Xmf hp1105 h
    have hns:Region.noSelect (Code.ops Yb3)=true:=by kernel_rfl
    refine Xpl [] 42 rfl rfl mix rfl (.c 0 rfl (.c 1 rfl .n))<|wfv 0 rfl (Xm7 rfl) gn hns rfl<|wfv 1 rfl (Xrz rfl) gn hns rfl<|wfv 2 rfl (Xm7 rfl) gn hns rfl<|Xrk 49 rfl ((nf hp1077))<|wfv 3 rfl (Xm7 rfl) (gy 49 rfl rfl) hns rfl<|wfv 4 rfl (Xm7 rfl) (gy 49 rfl rfl) hns rfl ?_
    refine Xn9 [5] (by kernel_rfl) rfl ⟨Xqb 5 rfl (gy 49 rfl rfl) rfl (Xne [.slice A58 k62 c60,.slice A71 n72 c73] rfl Try.func40 rfl rfl rfl fun w1140 hL1141=>?_),trivial⟩
    have hp1142:=pmI hL1141 .n (.c 0 rfl (.c 1 rfl (.c 2 rfl .n))) (by kernel_rfl)
    refine Calls.mono (Xpd w1140 (Fl ([]:List Xmp)) (x57.take k62) x70 A58 k62 c60 A71 n72 c73 (Rw.mono h64 (hL1141.toSt hp1142 (me 1 rfl))) (Rw.mono h74 (hL1141.toSt hp1142 (me 1 rfl))) (hL1141.hFl hp1142 (Xms [] rfl)) (hL1141.into hp1142 _) r1081 hv1082) ?_
    rintro _ w1143 ⟨rfl,hM1144⟩
    have hL1145:=hL1141.call hp1142 hM1144
    refine ⟨_,_,_,rfl,hL1145,?_⟩
    refine ⟨Xms [0,1,2] rfl,Xms [0,1] rfl,?_⟩
    refine wfv 6 rfl (Xrz rfl) (gy 49 rfl rfl) hns rfl<|wfv 7 rfl (Xmn (b:=false) rfl rfl) gn hns rfl<|wfv 8 rfl (Xm7 rfl) gn hns rfl<|Xrk 55 rfl ((nf hp1086))<|wfv 9 rfl (Xm7 rfl) (gy 55 rfl rfl) hns rfl<|wfv 10 rfl (Xm7 rfl) (gy 55 rfl rfl) hns rfl<|wfv 11 rfl (Xmm Xuy rfl h69.hq) (gy 55 rfl rfl) hns rfl ?_
    obtain ⟨ce1147,hK1148,hr1146⟩:=Rw.read (s:=St w []) h113 hb1087
    obtain ⟨A1149,n1150,c1151,rfl,h1152,hk1153⟩:=hK1148
    refine wfv 12 rfl (Xn4 (s:=St w []) Xqn rfl rfl h113 hb1087) (gy 55 rfl rfl) hns rfl<|wfv 13 rfl (Xnl (kk:=((x65.length:Int):Int).toNat * 1) (j:=0) (St w []) Xsj rfl hr1146 rfl (me 1 rfl)) (gy 55 rfl rfl) hns rfl<|wfv 14 rfl (Xmm Xsc rfl (Rw.pre h1152 hk1153).hq) (gy 55 rfl rfl) hns rfl<|wfv 15 rfl (Xm7 rfl) (gy 55 rfl rfl) hns rfl<|wfv 16 rfl (Xm7 rfl) (gy 55 rfl rfl) hns rfl<|wfv 17 rfl (Xmm Xuy rfl h69.hq) (gy 55 rfl rfl) hns rfl<|wfv 18 rfl (Xmk rfl rfl rfl) (gy 55 rfl rfl) hns rfl ?_
    obtain ⟨ce1155,hK1156,hr1154⟩:=Rw.read (s:=St w []) h113 hb1096
    obtain ⟨A1157,n1158,c1159,rfl,h1160,hk1161⟩:=hK1156
    refine wfv 19 rfl (Xn4 (s:=St w []) Xqn rfl rfl h113 hb1096) (gy 55 rfl rfl) hns rfl<|wfv 20 rfl (Xnl (kk:=(w64 ((x65.length:Int) + 1):Int).toNat * 1) (j:=0) (St w []) Xsj rfl hr1154 rfl (me 1 rfl)) (gy 55 rfl rfl) hns rfl<|wfv 21 rfl (Xmm Xsc rfl (Rw.pre h1160 hk1161).hq) (gy 55 rfl rfl) hns rfl<|wfv 22 rfl (Xmk rfl rfl rfl) (gy 55 rfl rfl) hns rfl<|wfv 23 rfl (Xmk rfl rfl rfl) (gy 55 rfl rfl) hns rfl<|wfv 24 rfl (Xmn (b:=false) rfl rfl) gn hns rfl<|wfv 25 rfl (Xm7 rfl) gn hns rfl<|Xrk 72 rfl ((decide_eq_true hp1105))<|wfp 26 rfl (ps 72 rfl rfl rfl) hns rfl<|wfp 27 rfl (ps 72 rfl rfl rfl) hns rfl<|wfp 28 rfl (ps 72 rfl rfl rfl) hns rfl<|wfp 29 rfl (ps 72 rfl rfl rfl) hns rfl ?_
    refine wfp 30 rfl (ps 72 rfl rfl rfl) hns rfl<|wfp 31 rfl (ps 72 rfl rfl rfl) hns rfl<|wfv 32 rfl (Xmn (b:=true) rfl rfl) gn hns rfl<|wfv 33 rfl (Xm7 rfl) gn hns rfl<|wfp 34 rfl (ps 80 rfl rfl rfl) hns rfl<|wfp 35 rfl (ps 80 rfl rfl rfl) hns rfl<|wfp 36 rfl (ps 80 rfl rfl rfl) hns rfl<|wfp 37 rfl (ps 80 rfl rfl rfl) hns rfl<|wfp 38 rfl (ps 80 rfl rfl rfl) hns rfl<|wfp 39 rfl (ps 80 rfl rfl rfl) hns rfl<|wfp 40 rfl (ps 80 rfl rfl rfl) hns rfl<|wfv 41 rfl (Xmn (b:=true) rfl rfl) gn hns rfl ?_
    refine Xox (by kernel_rfl) ?_
    exact Xnj [0,1] (j1 true h) ⟨rfl,rfl,rfl,rfl,rfl,trivial⟩ (.cons _ (.cons _ (.cons_cons _ (.slnil)))) rfl
   ·have h:=Xmg hp1105 h
    obtain ⟨hb1162,h⟩:=h
    by_cases hp1164:ix (x57.take ((w64 ((x70.length:Int) + 2):Int).toNat)) (x70.length:Int) = -71
    ·have h:=Xmf hp1164 h
     obtain ⟨hb1165,h⟩:=h
     have hns:Region.noSelect (Code.ops Yb3)=true:=by kernel_rfl
     refine Xpl [] 42 rfl rfl mix rfl (.c 0 rfl (.c 1 rfl .n))<|wfv 0 rfl (Xm7 rfl) gn hns rfl<|wfv 1 rfl (Xrz rfl) gn hns rfl<|wfv 2 rfl (Xm7 rfl) gn hns rfl<|Xrk 49 rfl ((nf hp1077))<|wfv 3 rfl (Xm7 rfl) (gy 49 rfl rfl) hns rfl<|wfv 4 rfl (Xm7 rfl) (gy 49 rfl rfl) hns rfl ?_
     refine Xn9 [5] (by kernel_rfl) rfl ⟨Xqb 5 rfl (gy 49 rfl rfl) rfl (Xne [.slice A58 k62 c60,.slice A71 n72 c73] rfl Try.func40 rfl rfl rfl fun w1203 hL1204=>?_),trivial⟩
     have hp1205:=pmI hL1204 .n (.c 0 rfl (.c 1 rfl (.c 2 rfl .n))) (by kernel_rfl)
     refine Calls.mono (Xpd w1203 (Fl ([]:List Xmp)) (x57.take k62) x70 A58 k62 c60 A71 n72 c73 (Rw.mono h64 (hL1204.toSt hp1205 (me 1 rfl))) (Rw.mono h74 (hL1204.toSt hp1205 (me 1 rfl))) (hL1204.hFl hp1205 (Xms [] rfl)) (hL1204.into hp1205 _) r1081 hv1082) ?_
     rintro _ w1206 ⟨rfl,hM1207⟩
     have hL1208:=hL1204.call hp1205 hM1207
     refine ⟨_,_,_,rfl,hL1208,?_⟩
     refine ⟨Xms [0,1,2] rfl,Xms [0,1] rfl,?_⟩
     refine wfv 6 rfl (Xrz rfl) (gy 49 rfl rfl) hns rfl<|wfv 7 rfl (Xmn (b:=false) rfl rfl) gn hns rfl<|wfv 8 rfl (Xm7 rfl) gn hns rfl<|Xrk 55 rfl ((nf hp1086))<|wfv 9 rfl (Xm7 rfl) (gy 55 rfl rfl) hns rfl<|wfv 10 rfl (Xm7 rfl) (gy 55 rfl rfl) hns rfl<|wfv 11 rfl (Xmm Xuy rfl h69.hq) (gy 55 rfl rfl) hns rfl ?_
     obtain ⟨ce1210,hK1211,hr1209⟩:=Rw.read (s:=St w []) h113 hb1087
     obtain ⟨A1212,n1213,c1214,rfl,h1215,hk1216⟩:=hK1211
     refine wfv 12 rfl (Xn4 (s:=St w []) Xqn rfl rfl h113 hb1087) (gy 55 rfl rfl) hns rfl<|wfv 13 rfl (Xnl (kk:=((x65.length:Int):Int).toNat * 1) (j:=0) (St w []) Xsj rfl hr1209 rfl (me 1 rfl)) (gy 55 rfl rfl) hns rfl<|wfv 14 rfl (Xmm Xsc rfl (Rw.pre h1215 hk1216).hq) (gy 55 rfl rfl) hns rfl<|wfv 15 rfl (Xm7 rfl) (gy 55 rfl rfl) hns rfl<|wfv 16 rfl (Xm7 rfl) (gy 55 rfl rfl) hns rfl<|wfv 17 rfl (Xmm Xuy rfl h69.hq) (gy 55 rfl rfl) hns rfl<|wfv 18 rfl (Xmk rfl rfl rfl) (gy 55 rfl rfl) hns rfl ?_
     obtain ⟨ce1218,hK1219,hr1217⟩:=Rw.read (s:=St w []) h113 hb1096
     obtain ⟨A1220,n1221,c1222,rfl,h1223,hk1224⟩:=hK1219
     refine wfv 19 rfl (Xn4 (s:=St w []) Xqn rfl rfl h113 hb1096) (gy 55 rfl rfl) hns rfl<|wfv 20 rfl (Xnl (kk:=(w64 ((x65.length:Int) + 1):Int).toNat * 1) (j:=0) (St w []) Xsj rfl hr1217 rfl (me 1 rfl)) (gy 55 rfl rfl) hns rfl<|wfv 21 rfl (Xmm Xsc rfl (Rw.pre h1223 hk1224).hq) (gy 55 rfl rfl) hns rfl<|wfv 22 rfl (Xmk rfl rfl rfl) (gy 55 rfl rfl) hns rfl<|wfv 23 rfl (Xmk rfl rfl rfl) (gy 55 rfl rfl) hns rfl<|wfv 24 rfl (Xmn (b:=false) rfl rfl) gn hns rfl<|wfv 25 rfl (Xm7 rfl) gn hns rfl<|Xrk 72 rfl ((decide_eq_false hp1105))<|wfv 26 rfl (Xm7 rfl) (gy 72 rfl rfl) hns rfl<|wfv 27 rfl (Xm7 rfl) (gy 72 rfl rfl) hns rfl<|wfv 28 rfl (Xmm Xqp rfl h74.hq) (gy 72 rfl rfl) hns rfl ?_
     have hr1225:=Rw.readF (s:=St w []) (hl:=(hlI .i64)) (h1:=(Xow .i64)) h116 hb1162
     refine wfv 29 rfl (Xn4 (s:=St w []) Xpg rfl rfl h116 hb1162) (gy 72 rfl rfl) hns rfl<|wfv 30 rfl (Xnl (kk:=((x70.length:Int):Int).toNat * 1) (j:=0) (St w []) Xql rfl hr1225 rfl (me 1 rfl)) (gy 72 rfl rfl) hns rfl<|wfv 31 rfl (Xmk rfl rfl rfl) (gy 72 rfl rfl) hns rfl<|wfv 32 rfl (Xmn (b:=false) rfl rfl) gn hns rfl<|wfv 33 rfl (Xm7 rfl) gn hns rfl<|Xrk 80 rfl ((eqib hp1164))<|wfv 34 rfl (Xm7 rfl) (gy 80 rfl rfl) hns rfl<|wfv 35 rfl (Xm7 rfl) (gy 80 rfl rfl) hns rfl<|wfv 36 rfl (Xmm Xqp rfl h74.hq) (gy 80 rfl rfl) hns rfl<|wfv 37 rfl (Xmk rfl rfl rfl) (gy 80 rfl rfl) hns rfl ?_
     have hr1226:=Rw.readF (s:=St w []) (hl:=(hlI .i64)) (h1:=(Xow .i64)) h116 hb1165
     refine wfv 38 rfl (Xn4 (s:=St w []) Xpg rfl rfl h116 hb1165) (gy 80 rfl rfl) hns rfl<|wfv 39 rfl (Xnl (kk:=(w64 ((x70.length:Int) + 1):Int).toNat * 1) (j:=0) (St w []) Xql rfl hr1226 rfl (me 1 rfl)) (gy 80 rfl rfl) hns rfl<|wfv 40 rfl (Xmk rfl rfl rfl) (gy 80 rfl rfl) hns rfl<|wfv 41 rfl (Xmn (b:=false) rfl rfl) gn hns rfl<|Xox (by kernel_rfl) ?_
     exact Xnj [0,1] (j1 ((ix (x57.take ((w64 ((x70.length:Int) + 2):Int).toNat)) (w64 ((x70.length:Int) + 1))) != (-72)) h) ⟨rfl,rfl,rfl,rfl,rfl,trivial⟩ (.cons _ (.cons _ (.cons_cons _ (.slnil)))) rfl
    ·have h:=Xmg hp1164 h
     have hns:Region.noSelect (Code.ops Yb3)=true:=by kernel_rfl
     refine Xpl [] 42 rfl rfl mix rfl (.c 0 rfl (.c 1 rfl .n))<|wfv 0 rfl (Xm7 rfl) gn hns rfl<|wfv 1 rfl (Xrz rfl) gn hns rfl<|wfv 2 rfl (Xm7 rfl) gn hns rfl<|Xrk 49 rfl ((nf hp1077))<|wfv 3 rfl (Xm7 rfl) (gy 49 rfl rfl) hns rfl<|wfv 4 rfl (Xm7 rfl) (gy 49 rfl rfl) hns rfl ?_
     refine Xn9 [5] (by kernel_rfl) rfl ⟨Xqb 5 rfl (gy 49 rfl rfl) rfl (Xne [.slice A58 k62 c60,.slice A71 n72 c73] rfl Try.func40 rfl rfl rfl fun w1262 hL1263=>?_),trivial⟩
     have hp1264:=pmI hL1263 .n (.c 0 rfl (.c 1 rfl (.c 2 rfl .n))) (by kernel_rfl)
     refine Calls.mono (Xpd w1262 (Fl ([]:List Xmp)) (x57.take k62) x70 A58 k62 c60 A71 n72 c73 (Rw.mono h64 (hL1263.toSt hp1264 (me 1 rfl))) (Rw.mono h74 (hL1263.toSt hp1264 (me 1 rfl))) (hL1263.hFl hp1264 (Xms [] rfl)) (hL1263.into hp1264 _) r1081 hv1082) ?_
     rintro _ w1265 ⟨rfl,hM1266⟩
     have hL1267:=hL1263.call hp1264 hM1266
     refine ⟨_,_,_,rfl,hL1267,?_⟩
     refine ⟨Xms [0,1,2] rfl,Xms [0,1] rfl,?_⟩
     refine wfv 6 rfl (Xrz rfl) (gy 49 rfl rfl) hns rfl<|wfv 7 rfl (Xmn (b:=false) rfl rfl) gn hns rfl<|wfv 8 rfl (Xm7 rfl) gn hns rfl<|Xrk 55 rfl ((nf hp1086))<|wfv 9 rfl (Xm7 rfl) (gy 55 rfl rfl) hns rfl<|wfv 10 rfl (Xm7 rfl) (gy 55 rfl rfl) hns rfl<|wfv 11 rfl (Xmm Xuy rfl h69.hq) (gy 55 rfl rfl) hns rfl ?_
     obtain ⟨ce1269,hK1270,hr1268⟩:=Rw.read (s:=St w []) h113 hb1087
     obtain ⟨A1271,n1272,c1273,rfl,h1274,hk1275⟩:=hK1270
     refine wfv 12 rfl (Xn4 (s:=St w []) Xqn rfl rfl h113 hb1087) (gy 55 rfl rfl) hns rfl<|wfv 13 rfl (Xnl (kk:=((x65.length:Int):Int).toNat * 1) (j:=0) (St w []) Xsj rfl hr1268 rfl (me 1 rfl)) (gy 55 rfl rfl) hns rfl<|wfv 14 rfl (Xmm Xsc rfl (Rw.pre h1274 hk1275).hq) (gy 55 rfl rfl) hns rfl<|wfv 15 rfl (Xm7 rfl) (gy 55 rfl rfl) hns rfl<|wfv 16 rfl (Xm7 rfl) (gy 55 rfl rfl) hns rfl<|wfv 17 rfl (Xmm Xuy rfl h69.hq) (gy 55 rfl rfl) hns rfl<|wfv 18 rfl (Xmk rfl rfl rfl) (gy 55 rfl rfl) hns rfl ?_
     obtain ⟨ce1277,hK1278,hr1276⟩:=Rw.read (s:=St w []) h113 hb1096
     obtain ⟨A1279,n1280,c1281,rfl,h1282,hk1283⟩:=hK1278
     refine wfv 19 rfl (Xn4 (s:=St w []) Xqn rfl rfl h113 hb1096) (gy 55 rfl rfl) hns rfl<|wfv 20 rfl (Xnl (kk:=(w64 ((x65.length:Int) + 1):Int).toNat * 1) (j:=0) (St w []) Xsj rfl hr1276 rfl (me 1 rfl)) (gy 55 rfl rfl) hns rfl<|wfv 21 rfl (Xmm Xsc rfl (Rw.pre h1282 hk1283).hq) (gy 55 rfl rfl) hns rfl<|wfv 22 rfl (Xmk rfl rfl rfl) (gy 55 rfl rfl) hns rfl<|wfv 23 rfl (Xmk rfl rfl rfl) (gy 55 rfl rfl) hns rfl<|wfv 24 rfl (Xmn (b:=false) rfl rfl) gn hns rfl<|wfv 25 rfl (Xm7 rfl) gn hns rfl<|Xrk 72 rfl ((decide_eq_false hp1105))<|wfv 26 rfl (Xm7 rfl) (gy 72 rfl rfl) hns rfl<|wfv 27 rfl (Xm7 rfl) (gy 72 rfl rfl) hns rfl<|wfv 28 rfl (Xmm Xqp rfl h74.hq) (gy 72 rfl rfl) hns rfl ?_
     have hr1284:=Rw.readF (s:=St w []) (hl:=(hlI .i64)) (h1:=(Xow .i64)) h116 hb1162
     refine wfv 29 rfl (Xn4 (s:=St w []) Xpg rfl rfl h116 hb1162) (gy 72 rfl rfl) hns rfl<|wfv 30 rfl (Xnl (kk:=((x70.length:Int):Int).toNat * 1) (j:=0) (St w []) Xql rfl hr1284 rfl (me 1 rfl)) (gy 72 rfl rfl) hns rfl<|wfv 31 rfl (Xmk rfl rfl rfl) (gy 72 rfl rfl) hns rfl<|wfv 32 rfl (Xmn (b:=false) rfl rfl) gn hns rfl<|wfv 33 rfl (Xm7 rfl) gn hns rfl<|Xrk 80 rfl ((neib hp1164))<|wfp 34 rfl (ps 80 rfl rfl rfl) hns rfl<|wfp 35 rfl (ps 80 rfl rfl rfl) hns rfl<|wfp 36 rfl (ps 80 rfl rfl rfl) hns rfl<|wfp 37 rfl (ps 80 rfl rfl rfl) hns rfl<|wfp 38 rfl (ps 80 rfl rfl rfl) hns rfl<|wfp 39 rfl (ps 80 rfl rfl rfl) hns rfl ?_
     refine wfp 40 rfl (ps 80 rfl rfl rfl) hns rfl<|wfv 41 rfl (Xmn (b:=true) rfl rfl) gn hns rfl<|Xox (by kernel_rfl) ?_
     exact Xnj [0,1] (j1 true h) ⟨rfl,rfl,rfl,rfl,rfl,trivial⟩ (.cons _ (.cons _ (.cons_cons _ (.slnil)))) rfl
  ·have h:=Xmg hp1086 h
   have hns:Region.noSelect (Code.ops Yb3)=true:=by kernel_rfl
   refine Xpl [] 42 rfl rfl mix rfl (.c 0 rfl (.c 1 rfl .n))<|wfv 0 rfl (Xm7 rfl) gn hns rfl<|wfv 1 rfl (Xrz rfl) gn hns rfl<|wfv 2 rfl (Xm7 rfl) gn hns rfl<|Xrk 49 rfl ((nf hp1077))<|wfv 3 rfl (Xm7 rfl) (gy 49 rfl rfl) hns rfl<|wfv 4 rfl (Xm7 rfl) (gy 49 rfl rfl) hns rfl ?_
   refine Xn9 [5] (by kernel_rfl) rfl ⟨Xqb 5 rfl (gy 49 rfl rfl) rfl (Xne [.slice A58 k62 c60,.slice A71 n72 c73] rfl Try.func40 rfl rfl rfl fun w1303 hL1304=>?_),trivial⟩
   have hp1305:=pmI hL1304 .n (.c 0 rfl (.c 1 rfl (.c 2 rfl .n))) (by kernel_rfl)
   refine Calls.mono (Xpd w1303 (Fl ([]:List Xmp)) (x57.take k62) x70 A58 k62 c60 A71 n72 c73 (Rw.mono h64 (hL1304.toSt hp1305 (me 1 rfl))) (Rw.mono h74 (hL1304.toSt hp1305 (me 1 rfl))) (hL1304.hFl hp1305 (Xms [] rfl)) (hL1304.into hp1305 _) r1081 hv1082) ?_
   rintro _ w1306 ⟨rfl,hM1307⟩
   have hL1308:=hL1304.call hp1305 hM1307
   refine ⟨_,_,_,rfl,hL1308,?_⟩
   refine ⟨Xms [0,1,2] rfl,Xms [0,1] rfl,?_⟩
   refine wfv 6 rfl (Xrz rfl) (gy 49 rfl rfl) hns rfl<|wfv 7 rfl (Xmn (b:=false) rfl rfl) gn hns rfl<|wfv 8 rfl (Xm7 rfl) gn hns rfl<|Xrk 55 rfl ((nt (bf hp1086)))<|wfp 9 rfl (ps 55 rfl rfl rfl) hns rfl<|wfp 10 rfl (ps 55 rfl rfl rfl) hns rfl<|wfp 11 rfl (ps 55 rfl rfl rfl) hns rfl<|wfp 12 rfl (ps 55 rfl rfl rfl) hns rfl<|wfp 13 rfl (ps 55 rfl rfl rfl) hns rfl<|wfp 14 rfl (ps 55 rfl rfl rfl) hns rfl<|wfp 15 rfl (ps 55 rfl rfl rfl) hns rfl<|wfp 16 rfl (ps 55 rfl rfl rfl) hns rfl ?_
   refine wfp 17 rfl (ps 55 rfl rfl rfl) hns rfl<|wfp 18 rfl (ps 55 rfl rfl rfl) hns rfl<|wfp 19 rfl (ps 55 rfl rfl rfl) hns rfl<|wfp 20 rfl (ps 55 rfl rfl rfl) hns rfl<|wfp 21 rfl (ps 55 rfl rfl rfl) hns rfl<|wfp 22 rfl (ps 55 rfl rfl rfl) hns rfl<|wfp 23 rfl (ps 55 rfl rfl rfl) hns rfl<|wfv 24 rfl (Xmn (b:=true) rfl rfl) gn hns rfl<|wfv 25 rfl (Xm7 rfl) gn hns rfl<|wfp 26 rfl (ps 72 rfl rfl rfl) hns rfl<|wfp 27 rfl (ps 72 rfl rfl rfl) hns rfl<|wfp 28 rfl (ps 72 rfl rfl rfl) hns rfl ?_
   refine wfp 29 rfl (ps 72 rfl rfl rfl) hns rfl<|wfp 30 rfl (ps 72 rfl rfl rfl) hns rfl<|wfp 31 rfl (ps 72 rfl rfl rfl) hns rfl<|wfv 32 rfl (Xmn (b:=true) rfl rfl) gn hns rfl<|wfv 33 rfl (Xm7 rfl) gn hns rfl<|wfp 34 rfl (ps 80 rfl rfl rfl) hns rfl<|wfp 35 rfl (ps 80 rfl rfl rfl) hns rfl<|wfp 36 rfl (ps 80 rfl rfl rfl) hns rfl<|wfp 37 rfl (ps 80 rfl rfl rfl) hns rfl<|wfp 38 rfl (ps 80 rfl rfl rfl) hns rfl<|wfp 39 rfl (ps 80 rfl rfl rfl) hns rfl<|wfp 40 rfl (ps 80 rfl rfl rfl) hns rfl ?_
   refine wfv 41 rfl (Xmn (b:=true) rfl rfl) gn hns rfl<|Xox (by kernel_rfl) ?_
   exact Xnj [0,1] (j1 true h) ⟨rfl,rfl,rfl,rfl,rfl,trivial⟩ (.cons _ (.cons _ (.cons_cons _ (.slnil)))) rfl
 ·have h:=Xmg hp1077 h
  have hns:Region.noSelect (Code.ops Yb3)=true:=by kernel_rfl
  refine Xpl [] 42 rfl rfl mix rfl (.c 0 rfl (.c 1 rfl .n))<|wfv 0 rfl (Xm7 rfl) gn hns rfl<|wfv 1 rfl (Xrz rfl) gn hns rfl<|wfv 2 rfl (Xm7 rfl) gn hns rfl<|Xrk 49 rfl ((nt (bf hp1077)))<|wfp 3 rfl (ps 49 rfl rfl rfl) hns rfl<|wfp 4 rfl (ps 49 rfl rfl rfl) hns rfl<|wfp 5 rfl (ps 49 rfl rfl rfl) hns rfl<|wfp 6 rfl (ps 49 rfl rfl rfl) hns rfl<|wfv 7 rfl (Xmn (b:=true) rfl rfl) gn hns rfl<|wfv 8 rfl (Xm7 rfl) gn hns rfl<|wfp 9 rfl (ps 55 rfl rfl rfl) hns rfl ?_
  refine wfp 10 rfl (ps 55 rfl rfl rfl) hns rfl<|wfp 11 rfl (ps 55 rfl rfl rfl) hns rfl<|wfp 12 rfl (ps 55 rfl rfl rfl) hns rfl<|wfp 13 rfl (ps 55 rfl rfl rfl) hns rfl<|wfp 14 rfl (ps 55 rfl rfl rfl) hns rfl<|wfp 15 rfl (ps 55 rfl rfl rfl) hns rfl<|wfp 16 rfl (ps 55 rfl rfl rfl) hns rfl<|wfp 17 rfl (ps 55 rfl rfl rfl) hns rfl<|wfp 18 rfl (ps 55 rfl rfl rfl) hns rfl<|wfp 19 rfl (ps 55 rfl rfl rfl) hns rfl<|wfp 20 rfl (ps 55 rfl rfl rfl) hns rfl<|wfp 21 rfl (ps 55 rfl rfl rfl) hns rfl ?_
  refine wfp 22 rfl (ps 55 rfl rfl rfl) hns rfl<|wfp 23 rfl (ps 55 rfl rfl rfl) hns rfl<|wfv 24 rfl (Xmn (b:=true) rfl rfl) gn hns rfl<|wfv 25 rfl (Xm7 rfl) gn hns rfl<|wfp 26 rfl (ps 72 rfl rfl rfl) hns rfl<|wfp 27 rfl (ps 72 rfl rfl rfl) hns rfl<|wfp 28 rfl (ps 72 rfl rfl rfl) hns rfl<|wfp 29 rfl (ps 72 rfl rfl rfl) hns rfl<|wfp 30 rfl (ps 72 rfl rfl rfl) hns rfl<|wfp 31 rfl (ps 72 rfl rfl rfl) hns rfl<|wfv 32 rfl (Xmn (b:=true) rfl rfl) gn hns rfl<|wfv 33 rfl (Xm7 rfl) gn hns rfl ?_
  refine wfp 34 rfl (ps 80 rfl rfl rfl) hns rfl<|wfp 35 rfl (ps 80 rfl rfl rfl) hns rfl<|wfp 36 rfl (ps 80 rfl rfl rfl) hns rfl<|wfp 37 rfl (ps 80 rfl rfl rfl) hns rfl<|wfp 38 rfl (ps 80 rfl rfl rfl) hns rfl<|wfp 39 rfl (ps 80 rfl rfl rfl) hns rfl<|wfp 40 rfl (ps 80 rfl rfl rfl) hns rfl<|wfv 41 rfl (Xmn (b:=true) rfl rfl) gn hns rfl<|Xox (by kernel_rfl) ?_
  exact Xnj [0,1] (j1 true h) ⟨rfl,rfl,rfl,rfl,rfl,trivial⟩ (.cons _ (.cons _ (.cons_cons _ (.slnil)))) rfl
noncomputable abbrev q29c6:=Code.snd (Code.snd (Code.snd (Xnv Try.f29)))
noncomputable abbrev Xz8:=Code.fst (Code.fst (Code.snd (Code.fst (Code.snd (Code.snd (Xnv Try.f29))))))
abbrev Xre (w:World) (F:Nat→Prop) (r:List (List Xm4)):Ending→World→Prop:=fun e w'=>∃ A0:Option Addr,∃ n0:Nat,∃ c0:Nat,∃ cs0:List Value,∃ bs0:List Nat,e=.returned (.slice A0 n0 c0)∧B.Loc w w' [.own (.slice A0 n0 c0) 22 1 n0 cs0,Xpu Xys (w.heap.size) none r cs0 bs0] [St w []]∧Ow w.heap.size A0 n0 c0 r
noncomputable abbrev Xq0 (w:World) (F:Nat→Prop) (r:List (List Xm4)):Cx:=⟨Try.prog,29,Try.f29,22,Xre w F  r,w⟩
theorem Xu9 (w:World) (F:Nat→Prop) (x1:List (List Xm4)) (A2:Option Addr) (n3:Nat) (c4:Nat) (h5:Rw (Kd.slice Xmo) w (St w []).av A2 n3 c4 x1) (hF:∀ b,F b→b < w.heap.size∧∀ o ∈ ([]:List (List Nat)),b ∉ o) (hL0:B.Loc w w [] [Sm w.heap.size F w [],St w []]) (r:List (List Xm4)) (h:Xpm x1 r):Calls Try.prog 29 #[.slice A2 n3 c4] w (Xre w F  r):=by
 unfold Xpm at h
 refine Xmq (vs:=[.slice A2 n3 c4]) 22 Try.func29 rfl Try.ntmps29 rfl hL0 ?_
 show G (Xq0 w F r) _ _ _ _
 refine Xmb rfl<|Xm8 rfl rfl<|Xm5 0 rfl (Xm9 rfl) gn rfl<|Xmc 1 rfl<|Xmb rfl<|Xm8 rfl rfl<|Xm5 0 rfl (Xm9 rfl) gn rfl<|Xmc 1 rfl<|Xmb rfl<|Xmb rfl<|Xm8 rfl rfl<|Xm5 0 rfl (Xm9 rfl) gn rfl ?_
 refine Xmc 1 rfl<|Xn8 rfl<|Xqz rfl ?_
 have key1:∀ s,Xmh (fun (s:(List (List Xm4)) × Int) o=>Xnc x1 s.1 s.2 o) s r→(fun (s:(List (List Xm4)) × Int)=>∀ (bs46:List Nat) (A47:Option Addr) (n48:Nat) (c49:Nat) (cs50:List Value) (h51:Ow w.heap.size A47 n48 c49 s.1),G (Xq0 w F r) [.code Xz8,.inLoop Xz8,.inBlock 0,.code q29c6] [(0,.slice A2 n3 c4),(3,.slice A47 n48 c49),(4,.int .i64 s.2)] [Xpu Xys (w.heap.size) none s.1 cs50 bs46,.own (.slice A47 n48 c49) 22 1 n48 cs50] [Sm w.heap.size F w [],St w []]) s:=by
  intro s hs
  refine Xmh.ind (mot:=(fun (s:(List (List Xm4)) × Int)=>∀ (bs46:List Nat) (A47:Option Addr) (n48:Nat) (c49:Nat) (cs50:List Value) (h51:Ow w.heap.size A47 n48 c49 s.1),G (Xq0 w F r) [.code Xz8,.inLoop Xz8,.inBlock 0,.code q29c6] [(0,.slice A2 n3 c4),(3,.slice A47 n48 c49),(4,.int .i64 s.2)] [Xpu Xys (w.heap.size) none s.1 cs50 bs46,.own (.slice A47 n48 c49) 22 1 n48 cs50] [Sm w.heap.size F w [],St w []])) ?_ hs
  clear hs s
  intro s o1 h hO1
  obtain ⟨x45,x52⟩:=s
  show ∀ (bs46:List Nat) (A47:Option Addr) (n48:Nat) (c49:Nat) (cs50:List Value) (h51:Ow w.heap.size A47 n48 c49 x45),G (Xq0 w F r) [.code Xz8,.inLoop Xz8,.inBlock 0,.code q29c6] [(0,.slice A2 n3 c4),(3,.slice A47 n48 c49),(4,.int .i64 x52)] [Xpu Xys (w.heap.size) none x45 cs50 bs46,.own (.slice A47 n48 c49) 22 1 n48 cs50] [Sm w.heap.size F w [],St w []]
  intro bs46 A47 n48 c49 cs50 h51
  have h:Xnc x1 x45 x52 o1:=h
  unfold Xnc at h
  refine Xmb rfl<|Xmb rfl<|Xm8 rfl rfl<|Xm5 0 rfl (Xm7 rfl) gn rfl<|Xm5 1 rfl (Xm7 rfl) gn rfl<|Xm5 2 rfl (Xmm Xuy rfl h5.hq) gn rfl<|Xm5 3 rfl (Xmk rfl rfl rfl) gn rfl<|Xmc 4 rfl ?_
  by_cases hp89:x52 < (x1.length:Int)
  ·have h:=Xmf hp89 h
   refine Xmy rfl _ rfl ((decide_eq_true hp89))<|Xn1 rfl<|Xmb rfl<|Xn8 rfl<|Xmb rfl<|Xm8 rfl rfl<|Xm5 0 rfl (Xm7 rfl) gn rfl<|Xm5 1 rfl (Xm7 rfl) gn rfl ?_
   obtain ⟨hb90,h⟩:=h
   obtain ⟨ce92,hK93,hr91⟩:=Rw.read (s:=St w []) h5 hb90
   obtain ⟨A94,n95,c96,rfl,h97⟩:=hK93
   refine Xm5 2 rfl (Xn4 (s:=St w []) Xqn rfl rfl h5 hb90) gn rfl<|Xm5 3 rfl (Xnl (kk:=(x52:Int).toNat * 1) (j:=0) (St w []) Xsj rfl hr91 rfl (me 1 rfl)) gn rfl ?_
   obtain ⟨r101,hv102,h⟩:=h
   refine Xmw 4 rfl (Xne [.slice A94 n95 c96] rfl Try.func17 rfl rfl rfl fun w98 hL99=>?_) gn
   have hp100:=pmI hL99 .n (.c 0 rfl (.c 1 rfl .n)) (by kernel_rfl)
   refine Calls.mono (Xt5 w98 (Fl ([]:List Xmp)) (ix x1 x52) A94 n95 c96 (Rw.mono h97 (hL99.toSt hp100 (me 1 rfl))) (hL99.hFl hp100 (Xms [] rfl)) (hL99.into hp100 _) r101 hv102) ?_
   rintro _ w108 ⟨A103,n104,c105,rfl,hM109,h106⟩
   have hL110:=hL99.call hp100 hM109
   refine ⟨_,_,_,rfl,hL110,?_⟩
   refine Xm5 5 rfl (Xm9 rfl) gn rfl<|Xmc 6 rfl<|Xm8 rfl rfl<|Xm5 0 rfl (Xm7 rfl) gn rfl<|Xm5 1 rfl (Xm7 rfl) gn rfl ?_
   refine w_fam1 (z:=w.heap.size) (j:=0) Xys r101 rfl (Ow.weak hL99.env.size h106) rfl trivial fun bs113=>?_
   refine Xmw 2 rfl (Xqd (xs:=([r101]:List (List Xm4))) [.slice A103 n104 c105] Yf8 rfl (by kernel_rfl) rfl rfl rfl rfl fun gb114 h115=>?_) gn
   obtain ⟨x120,hv121,h⟩:=h
   obtain ⟨hb122,h⟩:=h
   obtain ⟨cs123,hc124⟩:∃ x:List Value,x=cs50++[.slice A103 n104 c105]:=⟨_,rfl⟩
   refine Xmw 3 rfl (Xrg (zs:=x120) 3 ap_59 rfl rfl rfl h51 (Nat.le_refl _) (Src.raw 0 rfl h115 rfl rfl) hc124.symm (Xok hv121 h115.hq) hb122 rfl rfl fun A116 c117 h118=>?_) gn
   refine Yat (fk:=Xys) (z:=w.heap.size) (j1:=1) (j:=2) (by decide) rfl rfl hv121 hc124 fun bs119=>?_
   refine Xm5 4 rfl (Xm9 rfl) gn rfl<|Xmc 5 rfl<|Xnh<|Xm8 rfl rfl<|Xm5 0 rfl (Xm7 rfl) gn rfl<|Xm5 1 rfl (Xmk rfl rfl rfl) gn rfl<|Xm5 2 rfl (Xm9 rfl) gn rfl<|Xmc 3 rfl<|Xo7 ?_
   have ih:=Out.inl hO1 h
   exact Xnj [0,1] (ih bs119 A116 (n48 + 1) c117 cs123 h118) ⟨rfl,rfl,rfl,trivial⟩ (.cons _ (.cons_cons _ (.cons_cons _ (.slnil)))) rfl
  ·have h:=Xmg hp89 h
   refine Xmr rfl _ rfl ((decide_eq_false hp89))<|Xqk [.code q29c6] rfl rfl<|Xmb rfl<|Xm8 rfl rfl<|Xm5 0 rfl (Xm7 rfl) gn rfl<|Xm5 1 rfl (Xm9 rfl) gn rfl<|Xmc 2 rfl ?_
   have h:=Out.inr hO1 h
   refine Xmt [.slice A47 n48 c49] rfl Try.func29 rfl (.tmp rfl (.nil)) fun wr hLr=>?_
   have hMr:=hLr.pkI (.c 1 rfl (.c 0 rfl .n)) .n (by kernel_rfl) (.c 1 rfl .n)
   show Xre w F  r (.returned (Xmz [.slice A47 n48 c49])) wr
   rw [h]
   exact ⟨A47,n48,c49,cs50,bs46,rfl,hMr,h51⟩
 refine Xrf 22 1<|g_fam0 Xys w.heap.size ?_
 exact Xnj [0,1] (key1 _ h [] none 0 0 [] (Ow.nil (z:=w.heap.size))) ⟨rfl,rfl,rfl,trivial⟩ (.cons_cons _ (.cons_cons _ (.slnil))) rfl
noncomputable abbrev Ybu:=Code.snd (Code.snd (Code.snd (Code.snd (Code.snd (Code.snd (Code.snd (Code.snd (Xnv Try.f4))))))))
noncomputable abbrev Ybx:=Code.fst (Code.fst (Code.snd (Code.fst (Code.snd (Code.snd (Code.snd (Code.snd (Code.snd (Code.snd (Code.snd (Xnv Try.f4)))))))))))
noncomputable abbrev Xz0:=Code.snd (Code.snd (Code.snd (Code.snd (Code.snd (Code.snd Ybu)))))
noncomputable abbrev Xwz:=Code.fst (Code.fst (Code.snd (Code.fst (Code.snd (Code.snd (Code.snd (Code.snd (Code.snd Ybu))))))))
noncomputable abbrev q4c69:=Code.snd (Code.snd Xwz)
noncomputable abbrev Ya8:=Code.fst (Code.fst (Code.snd (Code.fst (Code.fst (Code.snd Xwz)))))
noncomputable abbrev q4c84:=Code.fst (Code.fst (Code.fst (Code.snd Ya8)))
noncomputable abbrev q4c86:=Code.fst (Code.snd (Code.fst (Code.fst (Code.snd Ya8))))
noncomputable abbrev q4c88:=Code.fst Xz0
abbrev Xod (w:World) (F:Nat→Prop) (r:Bool):Ending→World→Prop:=fun e w'=>e=.returned (.bool r)∧B.Loc w w' [] [St w []]
noncomputable abbrev Xn7 (w:World) (F:Nat→Prop) (r:Bool):Cx:=⟨Try.prog,4,Try.f4,149,Xod w F  r,w⟩
theorem Xu8 (w:World) (F:Nat→Prop) (x1:Xml) (x46:Int) (x47:Int) (x48:Int) (x49:Int) (x50:Int) (x51:Int) (x52:List (List Xm4)) (x57:List Int) (A2:Option Addr) (n3:Nat) (c4:Nat) (A6:Option Addr) (n7:Nat) (c8:Nat) (A10:Option Addr) (n11:Nat) (c12:Nat) (A14:Option Addr) (n15:Nat) (c16:Nat) (A18:Option Addr) (n19:Nat) (c20:Nat) (A22:Option Addr) (n23:Nat) (c24:Nat) (A26:Option Addr) (n27:Nat) (c28:Nat) (A30:Option Addr) (n31:Nat) (c32:Nat) (A34:Option Addr) (n35:Nat) (c36:Nat) (A38:Option Addr) (n39:Nat) (c40:Nat) (A42:Option Addr) (n43:Nat) (c44:Nat) (A53:Option Addr) (n54:Nat) (c55:Nat) (A58:Option Addr) (n59:Nat) (c60:Nat) (h5:Rw Xoq w (St w []).av A2 n3 c4 x1.modes) (h9:Rw Xng w (St w []).av A6 n7 c8 x1.gram.terms) (h13:Rw Xor w (St w []).av A10 n11 c12 x1.gram.syms) (h17:Rw Xo9 w (St w []).av A14 n15 c16 x1.gram.prods) (h21:Rw Xqc w (St w []).av A18 n19 c20 x1.rules) (h25:Rw (Kd.slice Xol) w (St w []).av A22 n23 c24 x1.table.actions) (h29:Rw (Kd.slice (Xs2 .i64)) w (St w []).av A26 n27 c28 x1.table.gotos) (h33:Rw Xoc w (St w []).av A30 n31 c32 x1.paints) (h37:Rw Xz4 w (St w []).av A34 n35 c36 x1.folds) (h41:Rw Xop w (St w []).av A38 n39 c40 x1.marks) (h45:Rw Xo4 w (St w []).av A42 n43 c44 x1.injects) (h56:Rw (Kd.slice Xmo) w (St w []).av A53 n54 c55 x52) (h61:Rw (Xs2 .i64) w (St w []).av A58 n59 c60 x57) (hF:∀ b,F b→b < w.heap.size∧∀ o ∈ ([]:List (List Nat)),b ∉ o) (hL0:B.Loc w w [] [Sm w.heap.size F w [],St w []]) (r:Bool) (h:Xqj x1 x46 x47 x48 x49 x50 x51 x52 x57 r):Calls Try.prog 4 #[.agg #[.string x1.name,.slice A2 n3 c4,.slice A6 n7 c8,.slice A10 n11 c12,.slice A14 n15 c16,.slice A18 n19 c20,.slice A22 n23 c24,.slice A26 n27 c28,.slice A30 n31 c32,.slice A34 n35 c36,.slice A38 n39 c40,.slice A42 n43 c44],.int .i64 x46,.int .i64 x47,.int .i64 x48,.int .i64 x49,.int .i64 x50,.int .i64 x51,.slice A53 n54 c55,.slice A58 n59 c60] w (Xod w F  r):=by
 unfold Xqj at h
 refine Xmq (vs:=[.agg #[.string x1.name,.slice A2 n3 c4,.slice A6 n7 c8,.slice A10 n11 c12,.slice A14 n15 c16,.slice A18 n19 c20,.slice A22 n23 c24,.slice A26 n27 c28,.slice A30 n31 c32,.slice A34 n35 c36,.slice A38 n39 c40,.slice A42 n43 c44],.int .i64 x46,.int .i64 x47,.int .i64 x48,.int .i64 x49,.int .i64 x50,.int .i64 x51,.slice A53 n54 c55,.slice A58 n59 c60]) 149 Try.func4 rfl Try.ntmps4 rfl hL0 ?_
 show G (Xn7 w F r) _ _ _ _
 refine Xmb rfl<|Xm8 rfl rfl ?_
 refine Xmw 0 rfl (Xtj [.string x1.name,.slice A2 n3 c4,.slice A6 n7 c8,.slice A10 n11 c12,.slice A14 n15 c16,.slice A18 n19 c20,.slice A22 n23 c24,.slice A26 n27 c28,.slice A30 n31 c32,.slice A34 n35 c36,.slice A38 n39 c40,.slice A42 n43 c44] rfl rfl rfl fun gb62=>?_) gn
 refine Xm5 1 rfl (Xm9 rfl) gn rfl<|Xmc 2 rfl<|Xmb rfl<|Xmb rfl<|Xm8 rfl rfl<|Xm5 0 rfl (Xm7 rfl) gn rfl ?_
 obtain ⟨r68,hv69,h⟩:=h
 refine Xmw 1 rfl (Xne [.slice A53 n54 c55] rfl Try.func24 rfl rfl rfl fun w65 hL66=>?_) gn
 have hp67:=pmI hL66 .n (.c 0 rfl .n) (by kernel_rfl)
 refine Calls.mono (Xua w65 (Fl ([]:List Xmp)) x52 A53 n54 c55 (Rw.mono h56 (hL66.toSt hp67 (me 1 rfl))) (hL66.hFl hp67 (Xms [] rfl)) (hL66.into hp67 _) r68 hv69) ?_
 rintro _ w70 ⟨rfl,hM71⟩
 have hL72:=hL66.call hp67 hM71
 refine ⟨_,_,_,rfl,hL72,?_⟩
 refine Xmc 2 rfl ?_
 by_cases hp73:r68=true
 ·have h:=Xmf hp73 h
  refine Xmy rfl _ rfl (hp73)<|Xmb rfl<|Xm8 rfl rfl<|Xm5 0 rfl (Xm9 rfl) gn rfl<|Xmc 1 rfl ?_
  refine Xmt [.bool true] rfl Try.func4 rfl (.tmp rfl (.nil)) fun wr hLr=>?_
  have hMr:=hLr.pk0 (.c 1 rfl .n)
  show Xod w F  r (.returned (Xmz [.bool true])) wr
  rw [h]
  exact ⟨rfl,hMr⟩
 ·have h:=Xmg hp73 h
  refine Xmr rfl _ rfl ((bf hp73))<|Xn1 rfl<|Xmb rfl<|Xm8 rfl rfl<|Xm5 0 rfl (Xq7 [.string x1.name,.slice A2 n3 c4,.slice A6 n7 c8,.slice A10 n11 c12,.slice A14 n15 c16,.slice A18 n19 c20,.slice A22 n23 c24,.slice A26 n27 c28,.slice A30 n31 c32,.slice A34 n35 c36,.slice A38 n39 c40,.slice A42 n43 c44] 0 Xy2 rfl rfl rfl rfl) gn rfl<|Xm5 1 rfl (Xm7 rfl) gn rfl<|Xm5 2 rfl (Xm7 rfl) gn rfl<|Xm5 3 rfl (Xm7 rfl) gn rfl<|Xm5 4 rfl (Xm7 rfl) gn rfl ?_
  obtain ⟨r77,hv78,h⟩:=h
  refine Xmw 5 rfl (Xne [.agg #[.string x1.name,.slice A2 n3 c4,.slice A6 n7 c8,.slice A10 n11 c12,.slice A14 n15 c16,.slice A18 n19 c20,.slice A22 n23 c24,.slice A26 n27 c28,.slice A30 n31 c32,.slice A34 n35 c36,.slice A38 n39 c40,.slice A42 n43 c44],.int .i64 x46,.int .i64 x47,.int .i64 x48,.int .i64 x49] rfl Try.func25 rfl rfl rfl fun w74 hL75=>?_) gn
  have hp76:=pmI hL75 .n (.c 0 rfl .n) (by kernel_rfl)
  refine Calls.mono (Xzn w74 (Fl ([]:List Xmp)) x1 x46 x47 x48 x49 A2 n3 c4 A6 n7 c8 A10 n11 c12 A14 n15 c16 A18 n19 c20 A22 n23 c24 A26 n27 c28 A30 n31 c32 A34 n35 c36 A38 n39 c40 A42 n43 c44 (Rw.mono h5 (hL75.toSt hp76 (me 1 rfl))) (Rw.mono h9 (hL75.toSt hp76 (me 1 rfl))) (Rw.mono h13 (hL75.toSt hp76 (me 1 rfl))) (Rw.mono h17 (hL75.toSt hp76 (me 1 rfl))) (Rw.mono h21 (hL75.toSt hp76 (me 1 rfl))) (Rw.mono h25 (hL75.toSt hp76 (me 1 rfl))) (Rw.mono h29 (hL75.toSt hp76 (me 1 rfl))) (Rw.mono h33 (hL75.toSt hp76 (me 1 rfl))) (Rw.mono h37 (hL75.toSt hp76 (me 1 rfl))) (Rw.mono h41 (hL75.toSt hp76 (me 1 rfl))) (Rw.mono h45 (hL75.toSt hp76 (me 1 rfl))) (hL75.hFl hp76 (Xms [] rfl)) (hL75.into hp76 _) r77 hv78) ?_
  rintro _ w84 ⟨A79,n80,c81,rfl,hM85,h82⟩
  have hL86:=hL75.call hp76 hM85
  refine ⟨_,_,_,rfl,hL86,?_⟩
  refine Xm5 6 rfl (Xm9 rfl) gn rfl<|Xmc 7 rfl<|Xmb rfl<|Xm8 rfl rfl<|Xm5 0 rfl (Xq7 [.string x1.name,.slice A2 n3 c4,.slice A6 n7 c8,.slice A10 n11 c12,.slice A14 n15 c16,.slice A18 n19 c20,.slice A22 n23 c24,.slice A26 n27 c28,.slice A30 n31 c32,.slice A34 n35 c36,.slice A38 n39 c40,.slice A42 n43 c44] 1 Xy2 rfl rfl rfl rfl) gn rfl<|Xm5 1 rfl (Xm7 rfl) gn rfl<|Xm5 2 rfl (Xm7 rfl) gn rfl<|Xm5 3 rfl (Xm7 rfl) gn rfl<|Xm5 4 rfl (Xm7 rfl) gn rfl ?_
  obtain ⟨r90,hv91,h⟩:=h
  refine Xmw 5 rfl (Xne [.agg #[.string x1.name,.slice A2 n3 c4,.slice A6 n7 c8,.slice A10 n11 c12,.slice A14 n15 c16,.slice A18 n19 c20,.slice A22 n23 c24,.slice A26 n27 c28,.slice A30 n31 c32,.slice A34 n35 c36,.slice A38 n39 c40,.slice A42 n43 c44],.int .i64 x46,.int .i64 x47,.int .i64 x48,.int .i64 x49] rfl Try.func26 rfl rfl rfl fun w87 hL88=>?_) gn
  have hp89:=pmI hL88 .n (.c 0 rfl (.c 1 rfl .n)) (by kernel_rfl)
  refine Calls.mono (Xvl w87 (Fl ([]:List Xmp)) x1 x46 x47 x48 x49 A2 n3 c4 A6 n7 c8 A10 n11 c12 A14 n15 c16 A18 n19 c20 A22 n23 c24 A26 n27 c28 A30 n31 c32 A34 n35 c36 A38 n39 c40 A42 n43 c44 (Rw.mono h5 (hL88.toSt hp89 (me 1 rfl))) (Rw.mono h9 (hL88.toSt hp89 (me 1 rfl))) (Rw.mono h13 (hL88.toSt hp89 (me 1 rfl))) (Rw.mono h17 (hL88.toSt hp89 (me 1 rfl))) (Rw.mono h21 (hL88.toSt hp89 (me 1 rfl))) (Rw.mono h25 (hL88.toSt hp89 (me 1 rfl))) (Rw.mono h29 (hL88.toSt hp89 (me 1 rfl))) (Rw.mono h33 (hL88.toSt hp89 (me 1 rfl))) (Rw.mono h37 (hL88.toSt hp89 (me 1 rfl))) (Rw.mono h41 (hL88.toSt hp89 (me 1 rfl))) (Rw.mono h45 (hL88.toSt hp89 (me 1 rfl))) (hL88.hFl hp89 (Xms [] rfl)) (hL88.into hp89 _) r90 hv91) ?_
  rintro _ w97 ⟨A92,n93,c94,rfl,hM98,h95⟩
  have hL99:=hL88.call hp89 hM98
  refine ⟨_,_,_,rfl,hL99,?_⟩
  refine Xm5 6 rfl (Xm9 rfl) gn rfl<|Xmc 7 rfl<|Xmb rfl<|Xm8 rfl rfl<|Xm5 0 rfl (Xm7 rfl) gn rfl<|Xm5 1 rfl (Xm7 rfl) gn rfl ?_
  obtain ⟨r103,hv104,h⟩:=h
  refine Xmw 2 rfl (Xne [.slice A79 n80 c81,.slice A92 n93 c94] rfl Try.func27 rfl rfl rfl fun w100 hL101=>?_) gn
  have hp102:=pmI hL101 .n (.c 0 rfl (.c 1 rfl (.c 2 rfl .n))) (by kernel_rfl)
  refine Calls.mono (Xq8 w100 (Fl ([]:List Xmp)) r77 r90 A79 n80 c81 A92 n93 c94 (hL101.argO (dk:=Xmo) hp102 [] rfl 1 rfl rfl (Ow.weak hL75.env.size h82) (me 0 rfl) (Cells.flat _)) (hL101.argO (dk:=Xmo) hp102 [] rfl 0 rfl rfl (Ow.weak hL88.env.size h95) (me 0 rfl) (Cells.flat _)) (hL101.hFl hp102 (Xms [] rfl)) (hL101.into hp102 _) r103 hv104) ?_
  rintro _ w105 ⟨rfl,hM106⟩
  have hL107:=hL101.call hp102 hM106
  refine ⟨_,_,_,rfl,hL107,?_⟩
  refine Xm5 3 rfl (Xm9 rfl) gn rfl<|Xmc 4 rfl<|Xmb rfl<|Xmb rfl<|Xm8 rfl rfl<|Xm5 0 rfl (Xm7 rfl) gn rfl<|Xm5 1 rfl (Xrz rfl) gn rfl<|Xmc 2 rfl ?_
  by_cases hp108:r103=true
  ·have h:=Xmf hp108 h
   refine Xmr rfl _ rfl ((nf hp108))<|Xn1 rfl<|Xmb rfl<|Xm8 rfl rfl<|Xm5 0 rfl (Xm9 rfl) gn rfl<|Xmc 1 rfl<|Xmb rfl<|Xmb rfl<|Xm8 rfl rfl<|Xm5 0 rfl (Xm9 rfl) gn rfl<|Xmc 1 rfl<|Xn8 rfl ?_
   refine Xqz rfl ?_
   have key1:∀ s,Xmh (fun (s:(List (List Xm4 × Nat)) × Int) o=>Xnb x52 x57 x1 x50 x51 s.1 s.2 o) s r→(fun (s:(List (List Xm4 × Nat)) × Int)=>∀ (bs2412:List Nat) (A2413:Option Addr) (n2414:Nat) (c2415:Nat) (cs2416:List Value) (h2417:Ow w.heap.size A2413 n2414 c2415 s.1),G (Xn7 w F r) [.code Ybx,.inLoop Ybx,.inBlock 0,.code Ybu] [(5,.int .i64 x50),(6,.int .i64 x51),(7,.slice A53 n54 c55),(8,.slice A58 n59 c60),(9,.pointer (some ⟨gb62,0,none⟩)),(22,.slice A2413 n2414 c2415),(23,.int .i64 s.2)] [Xpu Xoo (w.heap.size) none s.1 cs2416 bs2412,.own (.slice A2413 n2414 c2415) 22 1 n2414 cs2416,.box gb62 58 [.string x1.name,.slice A2 n3 c4,.slice A6 n7 c8,.slice A10 n11 c12,.slice A14 n15 c16,.slice A18 n19 c20,.slice A22 n23 c24,.slice A26 n27 c28,.slice A30 n31 c32,.slice A34 n35 c36,.slice A38 n39 c40,.slice A42 n43 c44]] [Sm w.heap.size F w [],St w []]) s:=by
    intro s hs
    refine Xmh.ind (mot:=(fun (s:(List (List Xm4 × Nat)) × Int)=>∀ (bs2412:List Nat) (A2413:Option Addr) (n2414:Nat) (c2415:Nat) (cs2416:List Value) (h2417:Ow w.heap.size A2413 n2414 c2415 s.1),G (Xn7 w F r) [.code Ybx,.inLoop Ybx,.inBlock 0,.code Ybu] [(5,.int .i64 x50),(6,.int .i64 x51),(7,.slice A53 n54 c55),(8,.slice A58 n59 c60),(9,.pointer (some ⟨gb62,0,none⟩)),(22,.slice A2413 n2414 c2415),(23,.int .i64 s.2)] [Xpu Xoo (w.heap.size) none s.1 cs2416 bs2412,.own (.slice A2413 n2414 c2415) 22 1 n2414 cs2416,.box gb62 58 [.string x1.name,.slice A2 n3 c4,.slice A6 n7 c8,.slice A10 n11 c12,.slice A14 n15 c16,.slice A18 n19 c20,.slice A22 n23 c24,.slice A26 n27 c28,.slice A30 n31 c32,.slice A34 n35 c36,.slice A38 n39 c40,.slice A42 n43 c44]] [Sm w.heap.size F w [],St w []])) ?_ hs
    clear hs s
    intro s o1 h hO1
    obtain ⟨x2411,x2418⟩:=s
    show ∀ (bs2412:List Nat) (A2413:Option Addr) (n2414:Nat) (c2415:Nat) (cs2416:List Value) (h2417:Ow w.heap.size A2413 n2414 c2415 x2411),G (Xn7 w F r) [.code Ybx,.inLoop Ybx,.inBlock 0,.code Ybu] [(5,.int .i64 x50),(6,.int .i64 x51),(7,.slice A53 n54 c55),(8,.slice A58 n59 c60),(9,.pointer (some ⟨gb62,0,none⟩)),(22,.slice A2413 n2414 c2415),(23,.int .i64 x2418)] [Xpu Xoo (w.heap.size) none x2411 cs2416 bs2412,.own (.slice A2413 n2414 c2415) 22 1 n2414 cs2416,.box gb62 58 [.string x1.name,.slice A2 n3 c4,.slice A6 n7 c8,.slice A10 n11 c12,.slice A14 n15 c16,.slice A18 n19 c20,.slice A22 n23 c24,.slice A26 n27 c28,.slice A30 n31 c32,.slice A34 n35 c36,.slice A38 n39 c40,.slice A42 n43 c44]] [Sm w.heap.size F w [],St w []]
    intro bs2412 A2413 n2414 c2415 cs2416 h2417
    have h:Xnb x52 x57 x1 x50 x51 x2411 x2418 o1:=h
    unfold Xnb at h
    refine Xmb rfl<|Xmb rfl<|Xm8 rfl rfl<|Xm5 0 rfl (Xm7 rfl) gn rfl<|Xm5 1 rfl (Xm7 rfl) gn rfl<|Xm5 2 rfl (Xmm Xuy rfl h56.hq) gn rfl<|Xm5 3 rfl (Xmk rfl rfl rfl) gn rfl<|Xmc 4 rfl ?_
    by_cases hp4716:x2418 < (x52.length:Int)
    ·have h:=Xmf hp4716 h
     refine Xmy rfl _ rfl ((decide_eq_true hp4716))<|Xn1 rfl<|Xmb rfl<|Xn8 rfl<|Xmb rfl<|Xm8 rfl rfl<|Xm5 0 rfl (Xm7 rfl) gn rfl<|Xm5 1 rfl (Xm7 rfl) gn rfl ?_
     obtain ⟨hb4717,h⟩:=h
     obtain ⟨ce4719,hK4720,hr4718⟩:=Rw.read (s:=St w []) h56 hb4717
     obtain ⟨A4721,n4722,c4723,rfl,h4724⟩:=hK4720
     refine Xm5 2 rfl (Xn4 (s:=St w []) Xqn rfl rfl h56 hb4717) gn rfl<|Xm5 3 rfl (Xnl (kk:=(x2418:Int).toNat * 1) (j:=0) (St w []) Xsj rfl hr4718 rfl (me 1 rfl)) gn rfl ?_
     obtain ⟨r4728,hv4729,h⟩:=h
     refine Xmw 4 rfl (Xne [.slice A4721 n4722 c4723] rfl Try.func11 rfl rfl rfl fun w4725 hL4726=>?_) gn
     have hp4727:=pmI hL4726 .n (.c 0 rfl (.c 1 rfl (.c 2 rfl .n))) (by kernel_rfl)
     refine Calls.mono (Xvs w4725 (Fl ([]:List Xmp)) (ix x52 x2418) A4721 n4722 c4723 (Rw.mono h4724 (hL4726.toSt hp4727 (me 1 rfl))) (hL4726.hFl hp4727 (Xms [] rfl)) (hL4726.into hp4727 _) r4728 hv4729) ?_
     rintro _ w4736 ⟨A4730,n4731,c4732,rfl,hM4737,h4733,hk4734⟩
     have hL4738:=hL4726.call hp4727 hM4737
     refine ⟨_,_,_,rfl,hL4738,?_⟩
     refine Xm5 5 rfl (Xm9 rfl) gn rfl<|Xmc 6 rfl<|Xm8 rfl rfl<|Xm5 0 rfl (Xm7 rfl) gn rfl<|Xm5 1 rfl (Xm7 rfl) gn rfl ?_
     refine w_fam1c (z:=w.heap.size) (j:=0) Xoo (r4728.1,r4728.2) [.slice A4730 r4728.2 c4732] rfl (Ow.weak hL4726.env.size h4733) rfl (by show r4728.2≤r4728.1.length; rw [← (Ow.weak hL4726.env.size h4733).hq]; exact hk4734) rfl fun bs4741=>?_
     refine Xmw 2 rfl (Xqd (xs:=([(r4728.1,r4728.2)]:List (List Xm4 × Nat))) [.slice A4730 r4728.2 c4732] Yf8 rfl (by kernel_rfl) rfl rfl rfl rfl fun gb4742 h4743=>?_) gn
     obtain ⟨x4748,hv4749,h⟩:=h
     obtain ⟨hb4750,h⟩:=h
     obtain ⟨cs4751,hc4752⟩:∃ x:List Value,x=cs2416++[.slice A4730 r4728.2 c4732]:=⟨_,rfl⟩
     refine Xmw 3 rfl (Xrg (zs:=x4748) 3 ap_59 rfl rfl rfl h2417 (Nat.le_refl _) (Src.raw 0 rfl h4743 rfl rfl) hc4752.symm (Xok hv4749 h4743.hq) hb4750 rfl rfl fun A4744 c4745 h4746=>?_) gn
     refine Yat (fk:=Xoo) (z:=w.heap.size) (j1:=1) (j:=2) (by decide) rfl rfl hv4749 hc4752 fun bs4747=>?_
     refine Xm5 4 rfl (Xm9 rfl) gn rfl<|Xmc 5 rfl<|Xnh<|Xm8 rfl rfl<|Xm5 0 rfl (Xm7 rfl) gn rfl<|Xm5 1 rfl (Xmk rfl rfl rfl) gn rfl<|Xm5 2 rfl (Xm9 rfl) gn rfl<|Xmc 3 rfl<|Xo7 ?_
     have ih:=Out.inl hO1 h
     exact Xnj [0,1] (ih bs4747 A4744 (n2414 + 1) c4745 cs4751 h4746) ⟨rfl,rfl,rfl,rfl,rfl,rfl,rfl,trivial⟩ (.cons _ (.cons_cons _ (.cons_cons _ (.cons_cons _ (.slnil))))) rfl
    ·have h:=Xmg hp4716 h
     refine Xmr rfl _ rfl ((decide_eq_false hp4716))<|Xqk [.code Ybu] rfl rfl<|Xmb rfl<|Xm8 rfl rfl<|Xm5 0 rfl (Xm7 rfl) gn rfl<|Yfv (z:=w.heap.size) Xoo ([(([]:List Xm4),0),(([]:List Xm4),0)]:List (List Xm4 × Nat)) [.slice none 0 0,.slice none 0 0] (by intro x hx; simp only [List.mem_cons,List.not_mem_nil,or_false] at hx; rcases hx with rfl | rfl <;> exact ⟨rfl,Nat.le_refl _⟩) rfl ?_
     refine Xmw 1 rfl (Xqd (xs:=([(([]:List Xm4),0),(([]:List Xm4),0)]:List (List Xm4 × Nat))) [.slice none 0 0,.slice none 0 0] bs_59_2 rfl (by kernel_rfl) rfl rfl rfl rfl fun gb4755 h4756=>?_) gn
     obtain ⟨x4761,hv4762,h⟩:=h
     obtain ⟨hb4763,h⟩:=h
     obtain ⟨cs4764,hc4765⟩:∃ x:List Value,x=cs2416++[.slice none 0 0,.slice none 0 0]:=⟨_,rfl⟩
     refine Xmw 2 rfl (Xrg (zs:=x4761) 3 ap_59 rfl rfl rfl h2417 (Nat.le_refl _) (Src.raw 0 rfl h4756 rfl rfl) hc4765.symm (Xok hv4762 h4756.hq) hb4763 rfl rfl fun A4757 c4758 h4759=>?_) gn
     refine Yat (fk:=Xoo) (z:=w.heap.size) (j1:=1) (j:=2) (by decide) rfl rfl hv4762 hc4765 fun bs4760=>?_
     refine Xm5 3 rfl (Xm7 rfl) gn rfl<|Xm5 4 rfl (Xmm Xuy rfl h56.hq) gn rfl ?_
     obtain ⟨hb4766,h⟩:=h
     have hle4767:((x52.length:Int):Int).toNat≤n2414 + 2:=by have q:=hb4766; have q1:=h4759.hq; omega
     refine Xm5 5 rfl (Xuf (i:=(x52.length:Int)) Xqn rfl rfl (by have q:=hb4766; have q1:=h4759.hq; have q2:=h4759.hn; omega) h4759.hn rfl) gn rfl<|Xm5 6 rfl (Xm9 rfl) gn rfl<|Xmc 7 rfl<|Xmb rfl<|Xm8 rfl rfl<|Xm5 0 rfl (Xm9 rfl) gn rfl<|Xmc 1 rfl<|Xmb rfl<|Xm8 rfl rfl<|Xm5 0 rfl (Xm7 rfl) gn rfl<|Xm5 1 rfl (Xm7 rfl) gn rfl ?_
     obtain ⟨x4772,hv4773,h⟩:=h
     obtain ⟨hb4774,h⟩:=h
     refine w_nil 3 1 ?_
     refine Xmw 2 rfl (Xrg (zs:=x4772) (cells':=x4772.flatMap (eI .i64)) 0 Xx2 rfl rfl rfl (Ow.nil (z:=w.heap.size)) (Nat.le_refl _) (Src.readF (s:=St w []) (hl:=(hlI .i64)) (h1:=(Xow .i64)) h61 (me 1 rfl)) (by rw [hv4773,List.flatMap_append] <;> rfl) (Xok hv4773 h61.hq) hb4774 rfl rfl fun A4769 c4770 h4771=>?_) gn
     refine Xm5 3 rfl (Xm9 rfl) gn rfl<|Xmc 4 rfl<|Xmb rfl<|Xm8 rfl rfl<|Xm5 0 rfl (Xm7 rfl) gn rfl ?_
     refine Xmw 1 rfl (Xqd (xs:=([-71,-72]:List Int)) [.int .i64 (-71),.int .i64 (-72)] bs_23_2 rfl (by kernel_rfl) rfl rfl rfl rfl fun gb4776 h4777=>?_) gn
     obtain ⟨x4781,hv4782,h⟩:=h
     obtain ⟨hb4783,h⟩:=h
     refine Xmw 2 rfl (Xrg (zs:=x4781) (cells':=x4781.flatMap (eI .i64)) 1 Xx2 rfl rfl rfl h4771 (Nat.le_refl _) (Src.ownF (hl:=(hlI .i64)) (h1:=(Xow .i64)) 0 rfl h4777) (by rw [hv4782,List.flatMap_append] <;> rfl) (Xok hv4782 h4777.hq) hb4783 rfl rfl fun A4778 c4779 h4780=>?_) gn
     refine Xm5 3 rfl (Xm7 rfl) gn rfl<|Xm5 4 rfl (Xmm Xqp rfl h61.hq) gn rfl ?_
     obtain ⟨hb4784,h⟩:=h
     have hle4785:((x57.length:Int):Int).toNat≤(0 + n59) + 2:=by have q:=hb4784; have q1:=h4780.hq; omega
     refine Xm5 5 rfl (Xuf (i:=(x57.length:Int)) Xpg rfl rfl (by have q:=hb4784; have q1:=h4780.hq; have q2:=h4780.hn; omega) h4780.hn rfl) gn rfl<|Xm5 6 rfl (Xm9 rfl) gn rfl<|Xmc 7 rfl<|Xmb rfl<|Xmb rfl<|Xm8 rfl rfl<|Xm5 0 rfl (Xq7 [.string x1.name,.slice A2 n3 c4,.slice A6 n7 c8,.slice A10 n11 c12,.slice A14 n15 c16,.slice A18 n19 c20,.slice A22 n23 c24,.slice A26 n27 c28,.slice A30 n31 c32,.slice A34 n35 c36,.slice A38 n39 c40,.slice A42 n43 c44] 5 Xy2 rfl rfl rfl rfl) gn rfl<|Xm5 1 rfl (Xm7 rfl) gn rfl<|Xm5 2 rfl (Xm7 rfl) gn rfl<|Xm5 3 rfl (Xm7 rfl) gn rfl<|Xm5 4 rfl (Xm7 rfl) gn rfl<|Xm5 5 rfl (Xm7 rfl) gn rfl ?_
     refine Xm5 6 rfl (Xm7 rfl) gn rfl ?_
     obtain ⟨r4789,hv4790,h⟩:=h
     refine Xmw 7 rfl (Xne [.agg #[.string x1.name,.slice A2 n3 c4,.slice A6 n7 c8,.slice A10 n11 c12,.slice A14 n15 c16,.slice A18 n19 c20,.slice A22 n23 c24,.slice A26 n27 c28,.slice A30 n31 c32,.slice A34 n35 c36,.slice A38 n39 c40,.slice A42 n43 c44],.int .i64 x50,.int .i64 x51,.slice A4757 (((x52.length:Int):Int).toNat) c4758,.slice A4778 (((x57.length:Int):Int).toNat) c4779,.slice A53 n54 c55,.slice A58 n59 c60] rfl Try.func28 rfl rfl rfl fun w4786 hL4787=>?_) gn
     have hp4788:=pmI hL4787 .n (.c 0 rfl (.c 1 rfl (.c 2 rfl (.c 3 rfl (.c 4 rfl (.c 5 rfl .n)))))) (by kernel_rfl)
     refine Calls.mono (Xsq w4786 (Fl ([]:List Xmp)) x1 x50 x51 [] x4761 (((x52.length:Int):Int).toNat) x4781 (((x57.length:Int):Int).toNat) x52 x57 A2 n3 c4 A6 n7 c8 A10 n11 c12 A14 n15 c16 A18 n19 c20 A22 n23 c24 A26 n27 c28 A30 n31 c32 A34 n35 c36 A38 n39 c40 A42 n43 c44 A4757 (n2414 + 2) c4758 A4778 ((0 + n59) + 2) c4779 A53 n54 c55 A58 n59 c60 (Rw.mono h5 (hL4787.toSt hp4788 (me 1 rfl))) (Rw.mono h9 (hL4787.toSt hp4788 (me 1 rfl))) (Rw.mono h13 (hL4787.toSt hp4788 (me 1 rfl))) (Rw.mono h17 (hL4787.toSt hp4788 (me 1 rfl))) (Rw.mono h21 (hL4787.toSt hp4788 (me 1 rfl))) (Rw.mono h25 (hL4787.toSt hp4788 (me 1 rfl))) (Rw.mono h29 (hL4787.toSt hp4788 (me 1 rfl))) (Rw.mono h33 (hL4787.toSt hp4788 (me 1 rfl))) (Rw.mono h37 (hL4787.toSt hp4788 (me 1 rfl))) (Rw.mono h41 (hL4787.toSt hp4788 (me 1 rfl))) (Rw.mono h45 (hL4787.toSt hp4788 (me 1 rfl))) (hL4787.argFam (fk:=Xoo) (dk:=Xx0) hp4788 [] rfl 4 3 rfl rfl rfl rfl h4759 (fun _ _ _ _ k h=>⟨_,_,_,rfl,h,Nat.le_trans k (Nat.le_of_eq h.hq.symm)⟩)) hle4767 (hL4787.argO (dk:=(Xs2 .i64)) hp4788 [] rfl 1 rfl rfl h4780 (me 0 rfl) (Cells.flat _)) hle4785 (Rw.mono h56 (hL4787.toSt hp4788 (me 1 rfl))) (Rw.mono h61 (hL4787.toSt hp4788 (me 1 rfl))) (hL4787.hFl hp4788 (Xms [] rfl)) (hL4787.into hp4788 _) r4789 hv4790) ?_
     rintro _ w4791 ⟨rfl,hM4792⟩
     have hL4793:=hL4787.call hp4788 hM4792
     refine ⟨_,_,_,rfl,hL4793,?_⟩
     refine Xm5 8 rfl (Xrz rfl) gn rfl<|Xmc 9 rfl ?_
     by_cases hp4794:r4789=true
     ·have h:=Xmf hp4794 h
      refine Xmr rfl _ rfl ((nf hp4794))<|Xn1 rfl<|Xmb rfl<|Xmb rfl<|Xm8 rfl rfl<|Xm5 0 rfl (Xm9 rfl) gn rfl<|Xmc 1 rfl<|Xn8 rfl<|Xqz rfl ?_
      have key2:∀ s,Xmh (fun (s:(List (List Xm4 × Nat)) × Int) o=>Xnd x52 x1 x50 x51 x4781 x57 s.1 s.2 o) s o1→(fun (s:(List (List Xm4 × Nat)) × Int)=>∀ (bs5536:List Nat) (h5537:Ow w.heap.size A4757 (n2414 + 2) c4758 s.1) (hl4796:((x52.length:Int):Int).toNat≤n2414 + 2) (hl4797:((x57.length:Int):Int).toNat≤(0 + n59) + 2),G (Xn7 w F r) [.code Xwz,.inLoop Xwz,.inBlock 2,.code Xz0] [(5,.int .i64 x50),(6,.int .i64 x51),(8,.slice A58 n59 c60),(9,.pointer (some ⟨gb62,0,none⟩)),(22,.slice A4757 (((x52.length:Int):Int).toNat) c4758),(25,.slice A4778 (((x57.length:Int):Int).toNat) c4779),(26,.int .i64 s.2)] [Xpu Xoo (w.heap.size) none s.1 cs4764 bs5536,.own (.slice A4778 ((0 + n59) + 2) c4779) 3 1 ((0 + n59) + 2) (x4781.flatMap (eI .i64)),.own (.slice A4757 (n2414 + 2) c4758) 22 1 (n2414 + 2) cs4764,.box gb62 58 [.string x1.name,.slice A2 n3 c4,.slice A6 n7 c8,.slice A10 n11 c12,.slice A14 n15 c16,.slice A18 n19 c20,.slice A22 n23 c24,.slice A26 n27 c28,.slice A30 n31 c32,.slice A34 n35 c36,.slice A38 n39 c40,.slice A42 n43 c44]] [Sm w.heap.size F w [],St w []]) s:=by
       intro s hs
       refine Xmh.ind (mot:=(fun (s:(List (List Xm4 × Nat)) × Int)=>∀ (bs5536:List Nat) (h5537:Ow w.heap.size A4757 (n2414 + 2) c4758 s.1) (hl4796:((x52.length:Int):Int).toNat≤n2414 + 2) (hl4797:((x57.length:Int):Int).toNat≤(0 + n59) + 2),G (Xn7 w F r) [.code Xwz,.inLoop Xwz,.inBlock 2,.code Xz0] [(5,.int .i64 x50),(6,.int .i64 x51),(8,.slice A58 n59 c60),(9,.pointer (some ⟨gb62,0,none⟩)),(22,.slice A4757 (((x52.length:Int):Int).toNat) c4758),(25,.slice A4778 (((x57.length:Int):Int).toNat) c4779),(26,.int .i64 s.2)] [Xpu Xoo (w.heap.size) none s.1 cs4764 bs5536,.own (.slice A4778 ((0 + n59) + 2) c4779) 3 1 ((0 + n59) + 2) (x4781.flatMap (eI .i64)),.own (.slice A4757 (n2414 + 2) c4758) 22 1 (n2414 + 2) cs4764,.box gb62 58 [.string x1.name,.slice A2 n3 c4,.slice A6 n7 c8,.slice A10 n11 c12,.slice A14 n15 c16,.slice A18 n19 c20,.slice A22 n23 c24,.slice A26 n27 c28,.slice A30 n31 c32,.slice A34 n35 c36,.slice A38 n39 c40,.slice A42 n43 c44]] [Sm w.heap.size F w [],St w []])) ?_ hs
       clear hs s
       intro s o2 h hO2
       obtain ⟨x5535,x5538⟩:=s
       show ∀ (bs5536:List Nat) (h5537:Ow w.heap.size A4757 (n2414 + 2) c4758 x5535) (hl4796:((x52.length:Int):Int).toNat≤n2414 + 2) (hl4797:((x57.length:Int):Int).toNat≤(0 + n59) + 2),G (Xn7 w F r) [.code Xwz,.inLoop Xwz,.inBlock 2,.code Xz0] [(5,.int .i64 x50),(6,.int .i64 x51),(8,.slice A58 n59 c60),(9,.pointer (some ⟨gb62,0,none⟩)),(22,.slice A4757 (((x52.length:Int):Int).toNat) c4758),(25,.slice A4778 (((x57.length:Int):Int).toNat) c4779),(26,.int .i64 x5538)] [Xpu Xoo (w.heap.size) none x5535 cs4764 bs5536,.own (.slice A4778 ((0 + n59) + 2) c4779) 3 1 ((0 + n59) + 2) (x4781.flatMap (eI .i64)),.own (.slice A4757 (n2414 + 2) c4758) 22 1 (n2414 + 2) cs4764,.box gb62 58 [.string x1.name,.slice A2 n3 c4,.slice A6 n7 c8,.slice A10 n11 c12,.slice A14 n15 c16,.slice A18 n19 c20,.slice A22 n23 c24,.slice A26 n27 c28,.slice A30 n31 c32,.slice A34 n35 c36,.slice A38 n39 c40,.slice A42 n43 c44]] [Sm w.heap.size F w [],St w []]
       intro bs5536 h5537 hl4796 hl4797
       have h:Xnd x52 x1 x50 x51 x4781 x57 x5535 x5538 o2:=h
       unfold Xnd at h
       refine Xmb rfl<|Xmb rfl<|Xm8 rfl rfl<|Xm5 0 rfl (Xm7 rfl) gn rfl<|Xm5 1 rfl (Xm7 rfl) gn rfl<|Xm5 2 rfl (Xmm Xuy rfl (Ow.cut h5537 hl4796).hq) gn rfl<|Xm5 3 rfl (Xmk rfl rfl rfl) gn rfl<|Xmc 4 rfl ?_
       by_cases hp6276:x5538 < ((x5535.take (((x52.length:Int):Int).toNat)).length:Int)
       ·have h:=Xmf hp6276 h
        refine Xmy rfl _ rfl ((decide_eq_true hp6276))<|Xn1 rfl<|Xmb rfl<|Xn8 rfl<|Xmb rfl<|Xm8 rfl rfl<|Xm5 0 rfl (Xm9 rfl) gn rfl<|Xmc 1 rfl<|Xn8 rfl<|Xqz rfl ?_
        have key3:∀ s,Xmh (fun (s:(List (List Xm4 × Nat)) × Int) o=>Xn3 x5538 x52 s.1 s.2 o) s o2→(fun (s:(List (List Xm4 × Nat)) × Int)=>∀ (bs6484:List Nat) (h6485:Ow w.heap.size A4757 (n2414 + 2) c4758 s.1) (hl6278:((x52.length:Int):Int).toNat≤n2414 + 2) (hl6279:((x57.length:Int):Int).toNat≤(0 + n59) + 2),G (Xn7 w F r) [.code Ya8,.inLoop Ya8,.inBlock 4,.inBlock 3,.code q4c69,.inLoop Xwz,.inBlock 2,.code Xz0] [(5,.int .i64 x50),(6,.int .i64 x51),(8,.slice A58 n59 c60),(9,.pointer (some ⟨gb62,0,none⟩)),(22,.slice A4757 (((x52.length:Int):Int).toNat) c4758),(25,.slice A4778 (((x57.length:Int):Int).toNat) c4779),(26,.int .i64 x5538),(27,.int .i64 s.2)] [Xpu Xoo (w.heap.size) none s.1 cs4764 bs6484,.own (.slice A4778 ((0 + n59) + 2) c4779) 3 1 ((0 + n59) + 2) (x4781.flatMap (eI .i64)),.own (.slice A4757 (n2414 + 2) c4758) 22 1 (n2414 + 2) cs4764,.box gb62 58 [.string x1.name,.slice A2 n3 c4,.slice A6 n7 c8,.slice A10 n11 c12,.slice A14 n15 c16,.slice A18 n19 c20,.slice A22 n23 c24,.slice A26 n27 c28,.slice A30 n31 c32,.slice A34 n35 c36,.slice A38 n39 c40,.slice A42 n43 c44]] [Sm w.heap.size F w [],St w []]) s:=by
         intro s hs
         refine Xmh.ind (mot:=(fun (s:(List (List Xm4 × Nat)) × Int)=>∀ (bs6484:List Nat) (h6485:Ow w.heap.size A4757 (n2414 + 2) c4758 s.1) (hl6278:((x52.length:Int):Int).toNat≤n2414 + 2) (hl6279:((x57.length:Int):Int).toNat≤(0 + n59) + 2),G (Xn7 w F r) [.code Ya8,.inLoop Ya8,.inBlock 4,.inBlock 3,.code q4c69,.inLoop Xwz,.inBlock 2,.code Xz0] [(5,.int .i64 x50),(6,.int .i64 x51),(8,.slice A58 n59 c60),(9,.pointer (some ⟨gb62,0,none⟩)),(22,.slice A4757 (((x52.length:Int):Int).toNat) c4758),(25,.slice A4778 (((x57.length:Int):Int).toNat) c4779),(26,.int .i64 x5538),(27,.int .i64 s.2)] [Xpu Xoo (w.heap.size) none s.1 cs4764 bs6484,.own (.slice A4778 ((0 + n59) + 2) c4779) 3 1 ((0 + n59) + 2) (x4781.flatMap (eI .i64)),.own (.slice A4757 (n2414 + 2) c4758) 22 1 (n2414 + 2) cs4764,.box gb62 58 [.string x1.name,.slice A2 n3 c4,.slice A6 n7 c8,.slice A10 n11 c12,.slice A14 n15 c16,.slice A18 n19 c20,.slice A22 n23 c24,.slice A26 n27 c28,.slice A30 n31 c32,.slice A34 n35 c36,.slice A38 n39 c40,.slice A42 n43 c44]] [Sm w.heap.size F w [],St w []])) ?_ hs
         clear hs s
         intro s o3 h hO3
         obtain ⟨x6483,x6486⟩:=s
         show ∀ (bs6484:List Nat) (h6485:Ow w.heap.size A4757 (n2414 + 2) c4758 x6483) (hl6278:((x52.length:Int):Int).toNat≤n2414 + 2) (hl6279:((x57.length:Int):Int).toNat≤(0 + n59) + 2),G (Xn7 w F r) [.code Ya8,.inLoop Ya8,.inBlock 4,.inBlock 3,.code q4c69,.inLoop Xwz,.inBlock 2,.code Xz0] [(5,.int .i64 x50),(6,.int .i64 x51),(8,.slice A58 n59 c60),(9,.pointer (some ⟨gb62,0,none⟩)),(22,.slice A4757 (((x52.length:Int):Int).toNat) c4758),(25,.slice A4778 (((x57.length:Int):Int).toNat) c4779),(26,.int .i64 x5538),(27,.int .i64 x6486)] [Xpu Xoo (w.heap.size) none x6483 cs4764 bs6484,.own (.slice A4778 ((0 + n59) + 2) c4779) 3 1 ((0 + n59) + 2) (x4781.flatMap (eI .i64)),.own (.slice A4757 (n2414 + 2) c4758) 22 1 (n2414 + 2) cs4764,.box gb62 58 [.string x1.name,.slice A2 n3 c4,.slice A6 n7 c8,.slice A10 n11 c12,.slice A14 n15 c16,.slice A18 n19 c20,.slice A22 n23 c24,.slice A26 n27 c28,.slice A30 n31 c32,.slice A34 n35 c36,.slice A38 n39 c40,.slice A42 n43 c44]] [Sm w.heap.size F w [],St w []]
         intro bs6484 h6485 hl6278 hl6279
         have h:Xn3 x5538 x52 x6483 x6486 o3:=h
         unfold Xn3 at h
         refine Xmb rfl<|Xmb rfl<|Xm8 rfl rfl<|Xm5 0 rfl (Xm7 rfl) gn rfl<|Xm5 1 rfl (Xm7 rfl) gn rfl<|Xm5 2 rfl (Xm7 rfl) gn rfl ?_
         obtain ⟨hb6690,h⟩:=h
         have hb6691:0≤x5538∧x5538 < (x6483.length:Int):=by have q:=hb6690; have q2:=List.length_take_le' (((x52.length:Int):Int).toNat) x6483; omega
         refine Ydk (fk:=Xoo) (z:=w.heap.size) (j:=0) rfl hb6691 fun A6692 n6693 c6694 h6695 ht6696 hg6697=>?_
         have hle6698:(ix x6483 x5538).2≤n6693:=Nat.le_trans (show (ix x6483 x5538).2≤((ix x6483 x5538).1).length from ht6696.2.2) (Nat.le_of_eq h6695.hq.symm)
         refine Xm5 3 rfl (Xp3 Xqn rfl rfl (Ow.cut h6485 hl6278) hb6690) gn rfl<|Xm5 4 rfl (Xs3 (.slice A6692 ((ix x6483 x5538).2) c6694) 2 Xsj rfl rfl (hg6697 0 _ rfl)) gn rfl<|Xm5 5 rfl (Xmm Xsc rfl (Ow.cut h6695 hle6698).hq) gn rfl<|Xm5 6 rfl (Xmk rfl rfl rfl) gn rfl<|Xmc 7 rfl ?_
         by_cases hp6699:x6486 < ((((ix x6483 x5538).1).take ((ix x6483 x5538).2)).length:Int)
         ·have h:=Xmf hp6699 h
          refine Xmy rfl _ rfl ((decide_eq_true hp6699))<|Xn1 rfl<|Xmb rfl<|Xn8 rfl<|Xmb rfl ?_
          obtain ⟨hb6716,h⟩:=h
          obtain ⟨hb6718,h⟩:=h
          obtain ⟨x6720,hv6721,h⟩:=h
          obtain ⟨x6722,hv6723,h⟩:=h
          have hns:Region.noSelect (Code.ops q4c84)=true:=by kernel_rfl
          refine Xpl [16] 17 rfl rfl mix rfl (.c 0 rfl (.c 1 rfl .n))<|wfv 0 rfl (Xm7 rfl) gn hns (by kernel_rfl)<|wfv 1 rfl (Xm7 rfl) gn hns (by kernel_rfl) ?_
          have hb6759:0≤x5538∧x5538 < (x6483.length:Int):=by have q:=hb6690; have q2:=List.length_take_le' (((x52.length:Int):Int).toNat) x6483; omega
          refine Xxk (fk:=Xoo) (z:=w.heap.size) (j:=0) rfl hb6759 fun A6760 n6761 c6762 h6763 ht6764 hg6765=>?_
          have hle6766:(ix x6483 x5538).2≤n6761:=Nat.le_trans (show (ix x6483 x5538).2≤((ix x6483 x5538).1).length from ht6764.2.2) (Nat.le_of_eq h6763.hq.symm)
          refine wfv 2 rfl (Xp3 Xqn rfl rfl (Ow.cut h6485 hl6278) hb6690) gn hns (by kernel_rfl)<|wfv 3 rfl (Xs3 (.slice A6760 ((ix x6483 x5538).2) c6762) 2 Xsj rfl rfl (hg6765 0 _ rfl)) gn hns (by kernel_rfl)<|wfv 4 rfl (Xm7 rfl) gn hns (by kernel_rfl)<|wfv 5 rfl (Xm7 rfl) gn hns (by kernel_rfl)<|wfv 6 rfl (Xm7 rfl) gn hns (by kernel_rfl) ?_
          have hb6767:0≤x5538∧x5538 < (x6483.length:Int):=by have q:=hb6690; have q2:=List.length_take_le' (((x52.length:Int):Int).toNat) x6483; omega
          refine Xxk (fk:=Xoo) (z:=w.heap.size) (j:=0) rfl hb6767 fun A6768 n6769 c6770 h6771 ht6772 hg6773=>?_
          have hle6774:(ix x6483 x5538).2≤n6769:=Nat.le_trans (show (ix x6483 x5538).2≤((ix x6483 x5538).1).length from ht6772.2.2) (Nat.le_of_eq h6771.hq.symm)
          refine wfv 7 rfl (Xp3 Xqn rfl rfl (Ow.cut h6485 hl6278) hb6690) gn hns (by kernel_rfl)<|wfv 8 rfl (Xs3 (.slice A6768 ((ix x6483 x5538).2) c6770) 2 Xsj rfl rfl (hg6773 0 _ rfl)) gn hns (by kernel_rfl)<|wfv 9 rfl (Xm7 rfl) gn hns (by kernel_rfl) ?_
          have hb6775:0≤x6486∧x6486 < (((ix x6483 x5538).1).length:Int):=by have q:=hb6716; have q2:=List.length_take_le' ((ix x6483 x5538).2) ((ix x6483 x5538).1); omega
          refine wfv 10 rfl (Xp3 Xqi rfl rfl (Ow.cut h6771 hle6774) hb6716) gn hns (by kernel_rfl)<|wfv 11 rfl (Xo6 Yai rfl) gn hns (by kernel_rfl)<|wfv 12 rfl (v_ldF1 (fk:=Xoo) (z:=w.heap.size) (.string ((ix ((ix x6483 x5538).1) x6486).name)) 0 Xwk rfl rfl hb6767 ht6772 (Ycl Xmv hb6775 rfl)) gn hns (by kernel_rfl)<|wfv 13 rfl (v_catS rfl rfl hb6718) gn hns (by kernel_rfl) ?_
          have hb6776:0≤x6486∧x6486 < (((ix x6483 x5538).1).length:Int):=by have q:=hb6716; have q2:=List.length_take_le' ((ix x6483 x5538).2) ((ix x6483 x5538).1); omega
          refine wfv 14 rfl (Xp3 Xqi rfl rfl (Ow.cut h6763 hle6766) hb6716) gn hns (by kernel_rfl)<|wfv 15 rfl (Xo6 Yai rfl) gn hns (by kernel_rfl) ?_
          refine Yet (fk:=Xoo) (z:=w.heap.size) (j:=0) rfl hb6759 ht6764 fun bs6777=>?_
          refine Xn9 [16] (by kernel_rfl) rfl ⟨Xy8 16 rfl gn rfl (Xx4 (enc:=Xme) (o:=0) (z:=({ (ix ((ix x6483 x5538).1) x6486) with name:=((ix ((ix x6483 x5538).1) x6486).name)++(⟨#[113]⟩:ByteArray) })) (vs:=[.string (((ix ((ix x6483 x5538).1) x6486).name)++(⟨#[113]⟩:ByteArray))]) (i:=x6486) 0 Xmv sz_9 rfl rfl rfl rfl rfl h6763 hb6776 rfl rfl rfl hv6721 fun h6779=>?_),trivial⟩
          unfold NxL
          refine wf_put (fk:=Xoo) (z:=w.heap.size) (j0:=0) (j:=1) (q:=x5538) (by decide) rfl hb6759 rfl ht6764 (x6720,(ix x6483 x5538).2) h6779 rfl rfl (by show _≤x6720.length; rw [hv6721,List.length_set]; exact ht6764.2.2) hv6723 fun bs6778=>?_
          have h6780:Ow w.heap.size A4757 (n2414 + 2) c4758 x6722:=Ow.w h6485 (by rw [hv6723,List.length_set])
          obtain ⟨ht6781,he6782,hq6783⟩:=Hdr.set (fk:=Xoo) (x':=(x6720,(ix x6483 x5538).2)) ht6764 hb6759 hv6723 rfl (by show x6720.length=_; rw [hv6721,List.length_set]) (by show _≤x6720.length; rw [hv6721,List.length_set]; exact ht6764.2.2)
          have h6784:Ow w.heap.size A6760 n6761 c6762 ((ix x6722 x5538).1):=Ow.w h6763 (by rw [show (ix x6722 x5538).1=x6720 from by rw [he6782],hv6721,List.length_set])
          refine Xox (by kernel_rfl)<|Xmb rfl ?_
          obtain ⟨hb6785,h⟩:=h
          obtain ⟨hb6802,h⟩:=h
          obtain ⟨x6805,hv6806,h⟩:=h
          obtain ⟨x6807,hv6808,h⟩:=h
          have hns:Region.noSelect (Code.ops q4c86)=true:=by kernel_rfl
          refine Xpl [16] 17 rfl rfl mix rfl (.c 0 rfl (.c 1 rfl .n))<|wfv 0 rfl (Xm7 rfl) gn hns (by kernel_rfl)<|wfv 1 rfl (Xm7 rfl) gn hns (by kernel_rfl) ?_
          have hb6844:0≤x5538∧x5538 < (x6722.length:Int):=by have q:=hb6785; have q2:=List.length_take_le' (((x52.length:Int):Int).toNat) x6722; omega
          refine Xxk (fk:=Xoo) (z:=w.heap.size) (j:=0) rfl hb6844 fun A6845 n6846 c6847 h6848 ht6849 hg6850=>?_
          have hle6851:(ix x6722 x5538).2≤n6846:=Nat.le_trans (show (ix x6722 x5538).2≤((ix x6722 x5538).1).length from ht6849.2.2) (Nat.le_of_eq h6848.hq.symm)
          refine wfv 2 rfl (Xp3 Xqn rfl rfl (Ow.cut h6780 hl6278) hb6785) gn hns (by kernel_rfl)<|wfv 3 rfl (Xs3 (.slice A6845 ((ix x6722 x5538).2) c6847) 2 Xsj rfl rfl (hg6850 0 _ rfl)) gn hns (by kernel_rfl)<|wfv 4 rfl (Xm7 rfl) gn hns (by kernel_rfl)<|wfv 5 rfl (Xm7 rfl) gn hns (by kernel_rfl)<|wfv 6 rfl (Xm7 rfl) gn hns (by kernel_rfl) ?_
          have hb6852:0≤x5538∧x5538 < (x6722.length:Int):=by have q:=hb6785; have q2:=List.length_take_le' (((x52.length:Int):Int).toNat) x6722; omega
          refine Xxk (fk:=Xoo) (z:=w.heap.size) (j:=0) rfl hb6852 fun A6853 n6854 c6855 h6856 ht6857 hg6858=>?_
          have hle6859:(ix x6722 x5538).2≤n6854:=Nat.le_trans (show (ix x6722 x5538).2≤((ix x6722 x5538).1).length from ht6857.2.2) (Nat.le_of_eq h6856.hq.symm)
          refine wfv 7 rfl (Xp3 Xqn rfl rfl (Ow.cut h6780 hl6278) hb6785) gn hns (by kernel_rfl)<|wfv 8 rfl (Xs3 (.slice A6853 ((ix x6722 x5538).2) c6855) 2 Xsj rfl rfl (hg6858 0 _ rfl)) gn hns (by kernel_rfl)<|wfv 9 rfl (Xm7 rfl) gn hns (by kernel_rfl) ?_
          have hb6860:0≤x6486∧x6486 < (((ix x6722 x5538).1).length:Int):=by have q:=hb6802; have q2:=List.length_take_le' ((ix x6722 x5538).2) ((ix x6722 x5538).1); omega
          refine wfv 10 rfl (Xp3 Xqi rfl rfl (Ow.cut h6856 hle6859) hb6802) gn hns (by kernel_rfl)<|wfv 11 rfl (Xo6 Xxm rfl) gn hns (by kernel_rfl)<|wfv 12 rfl (v_ldF1 (fk:=Xoo) (z:=w.heap.size) (.int .i64 ((ix ((ix x6722 x5538).1) x6486).to)) 0 Xql rfl rfl hb6852 ht6857 (Ycl Xmv hb6860 rfl)) gn hns (by kernel_rfl)<|wfv 13 rfl (Xmk rfl rfl rfl) gn hns (by kernel_rfl) ?_
          have hb6861:0≤x6486∧x6486 < (((ix x6722 x5538).1).length:Int):=by have q:=hb6802; have q2:=List.length_take_le' ((ix x6722 x5538).2) ((ix x6722 x5538).1); omega
          refine wfv 14 rfl (Xp3 Xqi rfl rfl (Ow.cut h6848 hle6851) hb6802) gn hns (by kernel_rfl)<|wfv 15 rfl (Xo6 Xxm rfl) gn hns (by kernel_rfl) ?_
          refine Yet (fk:=Xoo) (z:=w.heap.size) (j:=0) rfl hb6844 ht6849 fun bs6862=>?_
          refine Xn9 [16] (by kernel_rfl) rfl ⟨Xy8 16 rfl gn rfl (Xx4 (enc:=Xme) (o:=4) (z:=({ (ix ((ix x6722 x5538).1) x6486) with to:=w64 (((ix ((ix x6722 x5538).1) x6486).to) + 1) })) (vs:=[.int .i64 (w64 (((ix ((ix x6722 x5538).1) x6486).to) + 1))]) (i:=x6486) 0 Xmv Yaa rfl rfl rfl rfl rfl h6848 hb6861 rfl rfl rfl hv6806 fun h6864=>?_),trivial⟩
          unfold NxL
          refine wf_put (fk:=Xoo) (z:=w.heap.size) (j0:=0) (j:=1) (q:=x5538) (by decide) rfl hb6844 rfl ht6849 (x6805,(ix x6722 x5538).2) h6864 rfl rfl (by show _≤x6805.length; rw [hv6806,List.length_set]; exact ht6849.2.2) hv6808 fun bs6863=>?_
          have h6865:Ow w.heap.size A4757 (n2414 + 2) c4758 x6807:=Ow.w h6780 (by rw [hv6808,List.length_set])
          obtain ⟨ht6866,he6867,hq6868⟩:=Hdr.set (fk:=Xoo) (x':=(x6805,(ix x6722 x5538).2)) ht6849 hb6844 hv6808 rfl (by show x6805.length=_; rw [hv6806,List.length_set]) (by show _≤x6805.length; rw [hv6806,List.length_set]; exact ht6849.2.2)
          have h6869:Ow w.heap.size A6845 n6846 c6847 ((ix x6807 x5538).1):=Ow.w h6848 (by rw [show (ix x6807 x5538).1=x6805 from by rw [he6867],hv6806,List.length_set])
          refine Xox (by kernel_rfl)<|Xm8 rfl rfl<|Xm5 0 rfl (Xm7 rfl) gn rfl<|Xm5 1 rfl (Xm7 rfl) gn rfl ?_
          obtain ⟨hb6870,h⟩:=h
          have hb6871:0≤x5538∧x5538 < (x6807.length:Int):=by have q:=hb6870; have q2:=List.length_take_le' (((x52.length:Int):Int).toNat) x6807; omega
          refine Ydk (fk:=Xoo) (z:=w.heap.size) (j:=0) rfl hb6871 fun A6872 n6873 c6874 h6875 ht6876 hg6877=>?_
          have hle6878:(ix x6807 x5538).2≤n6873:=Nat.le_trans (show (ix x6807 x5538).2≤((ix x6807 x5538).1).length from ht6876.2.2) (Nat.le_of_eq h6875.hq.symm)
          refine Xm5 2 rfl (Xp3 Xqn rfl rfl (Ow.cut h6865 hl6278) hb6870) gn rfl<|Xm5 3 rfl (Xs3 (.slice A6872 ((ix x6807 x5538).2) c6874) 2 Xsj rfl rfl (hg6877 0 _ rfl)) gn rfl<|Xm5 4 rfl (Xm7 rfl) gn rfl ?_
          obtain ⟨hb6879,h⟩:=h
          have hb6880:0≤x6486∧x6486 < (((ix x6807 x5538).1).length:Int):=by have q:=hb6879; have q2:=List.length_take_le' ((ix x6807 x5538).2) ((ix x6807 x5538).1); omega
          refine Xm5 5 rfl (Xp3 Xqi rfl rfl (Ow.cut h6875 hle6878) hb6879) gn rfl<|Xm5 6 rfl (Xo6 Xyq rfl) gn rfl ?_
          obtain ⟨x6881,hv6882,h⟩:=h
          obtain ⟨x6883,hv6884,h⟩:=h
          refine w_take (fk:=Xoo) (z:=w.heap.size) (j:=0) rfl hb6871 ht6876 fun bs6885=>?_
          refine Xmw 7 rfl (Xx4 (enc:=Xme) (o:=2) (z:=({ (ix ((ix x6807 x5538).1) x6486) with field:=(⟨#[111,116,104,101,114]⟩:ByteArray) })) (vs:=[.string (⟨#[111,116,104,101,114]⟩:ByteArray)]) (i:=x6486) 0 Xmv sz_9 rfl rfl rfl rfl rfl h6875 hb6880 rfl rfl rfl hv6882 fun h6887=>?_) gn
          refine w_put (fk:=Xoo) (z:=w.heap.size) (j0:=0) (j:=1) (q:=x5538) (by decide) rfl hb6871 rfl ht6876 (x6881,(ix x6807 x5538).2) h6887 rfl rfl (by show _≤x6881.length; rw [hv6882,List.length_set]; exact ht6876.2.2) hv6884 fun bs6886=>?_
          have h6888:Ow w.heap.size A4757 (n2414 + 2) c4758 x6883:=Ow.w h6865 (by rw [hv6884,List.length_set])
          obtain ⟨ht6889,he6890,hq6891⟩:=Hdr.set (fk:=Xoo) (x':=(x6881,(ix x6807 x5538).2)) ht6876 hb6871 hv6884 rfl (by show x6881.length=_; rw [hv6882,List.length_set]) (by show _≤x6881.length; rw [hv6882,List.length_set]; exact ht6876.2.2)
          have h6892:Ow w.heap.size A6872 n6873 c6874 ((ix x6883 x5538).1):=Ow.w h6875 (by rw [show (ix x6883 x5538).1=x6881 from by rw [he6890],hv6882,List.length_set])
          refine Xmc 8 rfl<|Xnh<|Xm8 rfl rfl<|Xm5 0 rfl (Xm7 rfl) gn rfl<|Xm5 1 rfl (Xmk rfl rfl rfl) gn rfl<|Xm5 2 rfl (Xm9 rfl) gn rfl<|Xmc 3 rfl<|Xo7 ?_
          have ih:=Out.inl hO3 h
          exact Xnj [0,1] (ih bs6886 h6888 hl6278 hl6279) ⟨rfl,rfl,rfl,rfl,rfl,rfl,rfl,rfl,trivial⟩ (.cons_cons _ (.cons_cons _ (.cons_cons _ (.cons_cons _ (.slnil))))) rfl
         ·have h:=Xmg hp6699 h
          refine Xmr rfl _ rfl ((decide_eq_false hp6699))<|Xqk [.inBlock 3,.code q4c69,.inLoop Xwz,.inBlock 2,.code Xz0] rfl rfl<|Xnh<|Xm8 rfl rfl<|Xm5 0 rfl (Xm7 rfl) gn rfl<|Xm5 1 rfl (Xmk rfl rfl rfl) gn rfl<|Xm5 2 rfl (Xm9 rfl) gn rfl<|Xmc 3 rfl<|Xo7 ?_
          have h:=Out.inr hO3 h
          have ih:=Out.inl hO2 h
          exact Xnj [0,1] (ih bs6484 h6485 hl6278 hl6279) ⟨rfl,rfl,rfl,rfl,rfl,rfl,rfl,trivial⟩ (.cons_cons _ (.cons_cons _ (.cons_cons _ (.cons_cons _ (.slnil))))) rfl
        exact Xnj [0,1] (key3 _ h bs5536 h5537 hl4796 hl4797) ⟨rfl,rfl,rfl,rfl,rfl,rfl,rfl,rfl,trivial⟩ (.cons_cons _ (.cons_cons _ (.cons_cons _ (.cons_cons _ (.slnil))))) rfl
       ·have h:=Xmg hp6276 h
        refine Xmr rfl _ rfl ((decide_eq_false hp6276))<|Xqk [.code Xz0] rfl rfl<|Xmb rfl ?_
        obtain ⟨r6896,hv6897,h⟩:=h
        obtain ⟨r6912,hv6913,h⟩:=h
        have hns:Region.noSelect (Code.ops q4c88)=true:=by kernel_rfl
        refine Xpl [] 10 rfl rfl mix rfl (.c 0 rfl (.c 1 rfl .n))<|wfv 0 rfl (Xq7 [.string x1.name,.slice A2 n3 c4,.slice A6 n7 c8,.slice A10 n11 c12,.slice A14 n15 c16,.slice A18 n19 c20,.slice A22 n23 c24,.slice A26 n27 c28,.slice A30 n31 c32,.slice A34 n35 c36,.slice A38 n39 c40,.slice A42 n43 c44] 3 Xy2 rfl rfl rfl rfl) gn hns rfl<|wfv 1 rfl (Xm7 rfl) gn hns rfl<|wfv 2 rfl (Xm7 rfl) gn hns rfl<|wfv 3 rfl (Xm7 rfl) gn hns rfl<|wfv 4 rfl (Xm7 rfl) gn hns rfl<|wfv 5 rfl (Xm7 rfl) gn hns rfl<|wfv 7 rfl (Xm7 rfl) gn hns rfl ?_
        refine Xn9 [6] (by kernel_rfl) rfl ⟨Xqb 6 rfl gn rfl (Xne [.slice A4757 (((x52.length:Int):Int).toNat) c4758] rfl Try.func29 rfl rfl rfl fun w6989 hL6990=>?_),trivial⟩
        have hp6991:=pmI hL6990 .n (.c 0 rfl (.c 1 rfl (.c 2 rfl (.c 3 rfl .n)))) (by kernel_rfl)
        refine Calls.mono (Xu9 w6989 (Fl ([]:List Xmp)) ((x5535.take (((x52.length:Int):Int).toNat)).map Xt7) A4757 (((x52.length:Int):Int).toNat) c4758 (Rw.w (Rw.pre (Rw.vis (dk:=Xx0) (dk2:=(Kd.slice Xmo)) Xt7 rfl (fun x cs=>by rintro ⟨A,n,c,rfl,h,k⟩; exact ⟨A,_,c,rfl,Rw.pre h k⟩) (hL6990.argFam (fk:=Xoo) (dk:=Xx0) hp6991 [] rfl 2 0 rfl rfl rfl rfl h5537 (fun _ _ _ _ k h=>⟨_,_,_,rfl,h,Nat.le_trans k (Nat.le_of_eq h.hq.symm)⟩))) hl4796) (by rw [List.map_take])) (hL6990.hFl hp6991 (Xms [] rfl)) (hL6990.into hp6991 _) r6896 hv6897) ?_
        rintro _ w6998 ⟨A6992,n6993,c6994,cs6996,bs6997,rfl,hM6999,h6995⟩
        have hL7000:=hL6990.call hp6991 hM6999
        refine ⟨_,_,_,rfl,hL7000,?_⟩
        refine ⟨Xms [2,3,4,5] rfl,Xms [0,1] rfl,?_⟩
        refine wf_famz (fk:=Xys) (z':=w.heap.size) (j:=1) hL6990.env.size rfl<|wf_widen (fk:=Xys) (z:=w.heap.size) (j:=1) Xoo Yeg (fun _=>rfl) (fun _=>rfl) (fun x d h=>by obtain ⟨A,n,c⟩:=d; simp only at h; subst h; rfl) (fun _=>Nat.le_refl _) rfl rfl rfl ?_
        refine Xn9 [8] (by kernel_rfl) rfl ⟨Xqb 8 rfl gn rfl (Xne [.agg #[.string x1.name,.slice A2 n3 c4,.slice A6 n7 c8,.slice A10 n11 c12,.slice A14 n15 c16,.slice A18 n19 c20,.slice A22 n23 c24,.slice A26 n27 c28,.slice A30 n31 c32,.slice A34 n35 c36,.slice A38 n39 c40,.slice A42 n43 c44],.int .i64 x50,.int .i64 x51,.slice A4757 (((x52.length:Int):Int).toNat) c4758,.slice A4778 (((x57.length:Int):Int).toNat) c4779,.slice A6992 n6993 c6994,.slice A58 n59 c60] rfl Try.func28 rfl rfl rfl fun w7007 hL7008=>?_),trivial⟩
        have hp7009:=pmI hL7008 .n (.c 0 rfl (.c 1 rfl (.c 2 rfl (.c 3 rfl (.c 4 rfl (.c 5 rfl .n)))))) (by kernel_rfl)
        refine Calls.mono (Xsq w7007 (Fl ([]:List Xmp)) x1 x50 x51 [] x5535 (((x52.length:Int):Int).toNat) x4781 (((x57.length:Int):Int).toNat) r6896 x57 A2 n3 c4 A6 n7 c8 A10 n11 c12 A14 n15 c16 A18 n19 c20 A22 n23 c24 A26 n27 c28 A30 n31 c32 A34 n35 c36 A38 n39 c40 A42 n43 c44 A4757 (n2414 + 2) c4758 A4778 ((0 + n59) + 2) c4779 A6992 n6993 c6994 A58 n59 c60 (Rw.mono h5 (hL7008.toSt hp7009 (me 1 rfl))) (Rw.mono h9 (hL7008.toSt hp7009 (me 1 rfl))) (Rw.mono h13 (hL7008.toSt hp7009 (me 1 rfl))) (Rw.mono h17 (hL7008.toSt hp7009 (me 1 rfl))) (Rw.mono h21 (hL7008.toSt hp7009 (me 1 rfl))) (Rw.mono h25 (hL7008.toSt hp7009 (me 1 rfl))) (Rw.mono h29 (hL7008.toSt hp7009 (me 1 rfl))) (Rw.mono h33 (hL7008.toSt hp7009 (me 1 rfl))) (Rw.mono h37 (hL7008.toSt hp7009 (me 1 rfl))) (Rw.mono h41 (hL7008.toSt hp7009 (me 1 rfl))) (Rw.mono h45 (hL7008.toSt hp7009 (me 1 rfl))) (hL7008.argFam (fk:=Xoo) (dk:=Xx0) hp7009 [] rfl 4 2 rfl rfl rfl rfl h5537 (fun _ _ _ _ k h=>⟨_,_,_,rfl,h,Nat.le_trans k (Nat.le_of_eq h.hq.symm)⟩)) hl4796 (hL7008.argO (dk:=(Xs2 .i64)) hp7009 [] rfl 3 rfl rfl h4780 (me 0 rfl) (Cells.flat _)) hl4797 (Rw.w (Rw.vis (dk:=Xx0) (dk2:=(Kd.slice Xmo)) Xt7 rfl (fun x cs=>by rintro ⟨A,n,c,rfl,h,k⟩; exact ⟨A,_,c,rfl,Rw.pre h k⟩) (hL7008.argFam (fk:=Xoo) (dk:=Xx0) hp7009 [] rfl 0 1 rfl rfl rfl rfl (Ow.w (Ow.weak hL6990.env.size h6995) (List.length_map _)) (fun _ _ _ _ k h=>⟨_,_,_,rfl,h,Nat.le_trans k (Nat.le_of_eq h.hq.symm)⟩))) (vw_22 _)) (Rw.mono h61 (hL7008.toSt hp7009 (me 1 rfl))) (hL7008.hFl hp7009 (Xms [] rfl)) (hL7008.into hp7009 _) r6912 hv6913) ?_
        rintro _ w7010 ⟨rfl,hM7011⟩
        have hL7012:=hL7008.call hp7009 hM7011
        refine ⟨_,_,_,rfl,hL7012,?_⟩
        refine ⟨Xms [2,3,4,5] rfl,Xms [0,1] rfl,?_⟩
        refine wfv 9 rfl (Xm9 rfl) gn hns rfl<|Xox (by kernel_rfl) ?_
        have h:=Out.inr hO2 h
        have h:=Out.inr hO1 h
        refine Xmt [.bool r6912] rfl Try.func4 rfl (.tmp rfl (.nil)) fun wr hLr=>?_
        have hMr:=hLr.pk0 (.c 1 rfl .n)
        show Xod w F  r (.returned (Xmz [.bool r6912])) wr
        rw [h]
        exact ⟨rfl,hMr⟩
      refine Xpe 5 rfl<|Xpe 5 rfl<|Xpe 3 rfl<|Xpe 5 rfl ?_
      exact Xnj [0,1] (key2 _ h bs4760 h4759 hle4767 hle4785) ⟨rfl,rfl,rfl,rfl,rfl,rfl,rfl,trivial⟩ (.cons_cons _ (.cons_cons _ (.cons_cons _ (.cons_cons _ (.cons _ (.cons _ (.slnil))))))) rfl
     ·have h:=Xmg hp4794 h
      refine Xmy rfl _ rfl ((nt (bf hp4794)))<|Xmb rfl<|Xm8 rfl rfl<|Xm5 0 rfl (Xm9 rfl) gn rfl<|Xmc 1 rfl ?_
      have h:=Out.inr hO1 h
      refine Xmt [.bool false] rfl Try.func4 rfl (.tmp rfl (.nil)) fun wr hLr=>?_
      have hMr:=hLr.pk0 (.c 1 rfl .n)
      show Xod w F  r (.returned (Xmz [.bool false])) wr
      rw [h]
      exact ⟨rfl,hMr⟩
   refine Xrf 22 1<|g_fam0 Xoo w.heap.size ?_
   exact Xnj [0,1] (key1 _ h [] none 0 0 [] (Ow.nil (z:=w.heap.size))) ⟨rfl,rfl,rfl,rfl,rfl,rfl,rfl,trivial⟩ (.cons_cons _ (.cons_cons _ (.cons _ (.cons _ (.cons_cons _ (.slnil)))))) rfl
  ·have h:=Xmg hp108 h
   refine Xmy rfl _ rfl ((nt (bf hp108)))<|Xmb rfl<|Xm8 rfl rfl<|Xm5 0 rfl (Xm9 rfl) gn rfl<|Xmc 1 rfl ?_
   refine Xmt [.bool false] rfl Try.func4 rfl (.tmp rfl (.nil)) fun wr hLr=>?_
   have hMr:=hLr.pk0 (.c 1 rfl .n)
   show Xod w F  r (.returned (Xmz [.bool false])) wr
   rw [h]
   exact ⟨rfl,hMr⟩
end Go.Proofs.Ytmekgfcfooghnaa.K
