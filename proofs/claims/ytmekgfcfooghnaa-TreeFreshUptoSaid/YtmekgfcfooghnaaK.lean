/- What the machine's calls do, function by function, printed by my own tool. Condition of each: its relation holds of the answer, and what is handed in lies in memory as told. -/
import Derived.Test.YtmekgfcfooghnaaK4
set_option linter.unusedVariables false
set_option maxRecDepth 100000
set_option maxHeartbeats 4000000
namespace Go.Proofs.Ytmekgfcfooghnaa.K
open Go.Proofs.Ytmekgfcfooghnaa.B Go.Proofs.Ytmekgfcfooghnaa.R Go.RowKit
noncomputable abbrev Ydp:=Code.snd (Code.snd (Code.snd (Code.snd (Code.snd (Code.snd (Code.snd (Code.snd (Code.snd (Xo5 Try.f6)))))))))
noncomputable abbrev Yb5:=Code.fst (Code.fst (Code.snd (Code.fst (Code.snd (Code.snd (Code.snd (Code.snd (Code.snd (Code.snd (Code.snd (Code.snd (Xo5 Try.f6))))))))))))
noncomputable abbrev q6c42:=Code.fst (Code.fst (Code.fst (Code.snd Yb5)))
noncomputable abbrev q6c44:=Code.fst (Code.snd (Code.fst (Code.fst (Code.snd Yb5))))
noncomputable abbrev Ydg:=Code.snd (Code.snd (Code.snd (Code.snd Ydp)))
noncomputable abbrev Ye7:=Code.fst (Code.fst (Code.snd (Code.fst (Code.snd (Code.snd (Code.snd Ydp))))))
noncomputable abbrev Ye3:=Code.snd Ydg
noncomputable abbrev Yc4:=Code.fst (Code.fst (Code.snd (Code.fst Ydg)))
noncomputable abbrev Ydm:=Code.snd (Code.snd (Code.snd Ye3))
noncomputable abbrev Ycm:=Code.fst (Code.fst (Code.snd (Code.fst (Code.snd (Code.snd Ye3)))))
noncomputable abbrev Yco:=Code.snd (Code.snd (Code.snd (Code.snd Ydm)))
noncomputable abbrev Yb0:=Code.fst (Code.fst (Code.snd (Code.fst (Code.snd (Code.snd (Code.snd Ydm))))))
noncomputable abbrev q6c122:=Code.fst (Code.snd Yco)
noncomputable abbrev q6c138:=Code.fst (Code.fst (Code.fst (Code.snd Yc4)))
noncomputable abbrev q6c149:=Code.fst (Code.fst (Code.fst (Code.snd Ycm)))
abbrev Xnb (w:World) (F:Nat→Prop) (r:Bool):Ending→World→Prop:=fun e w'=>e=.returned (.bool r)∧B.Loc w w' [] [St w []]
noncomputable abbrev Xmv (w:World) (F:Nat→Prop) (r:Bool):Cx:=⟨Try.prog,6,Try.f6,199,Xnb w F  r,w⟩
theorem Xux (w:World) (F:Nat→Prop) (x1:Xmw) (x46:Int) (x47:Int) (x48:List (List Xm4)) (x53:List Int) (A2:Option Addr) (n3:Nat) (c4:Nat) (A6:Option Addr) (n7:Nat) (c8:Nat) (A10:Option Addr) (n11:Nat) (c12:Nat) (A14:Option Addr) (n15:Nat) (c16:Nat) (A18:Option Addr) (n19:Nat) (c20:Nat) (A22:Option Addr) (n23:Nat) (c24:Nat) (A26:Option Addr) (n27:Nat) (c28:Nat) (A30:Option Addr) (n31:Nat) (c32:Nat) (A34:Option Addr) (n35:Nat) (c36:Nat) (A38:Option Addr) (n39:Nat) (c40:Nat) (A42:Option Addr) (n43:Nat) (c44:Nat) (A49:Option Addr) (n50:Nat) (c51:Nat) (A54:Option Addr) (n55:Nat) (c56:Nat) (h5:Rw Xqh w (St w []).av A2 n3 c4 x1.modes) (h9:Rw Xnt w (St w []).av A6 n7 c8 x1.gram.terms) (h13:Rw Xpk w (St w []).av A10 n11 c12 x1.gram.syms) (h17:Rw Xos w (St w []).av A14 n15 c16 x1.gram.prods) (h21:Rw Xsf w (St w []).av A18 n19 c20 x1.rules) (h25:Rw (Kd.slice Xq1) w (St w []).av A22 n23 c24 x1.table.actions) (h29:Rw (Kd.slice (Xsu .i64)) w (St w []).av A26 n27 c28 x1.table.gotos) (h33:Rw Xq2 w (St w []).av A30 n31 c32 x1.paints) (h37:Rw Ybz w (St w []).av A34 n35 c36 x1.folds) (h41:Rw Xqi w (St w []).av A38 n39 c40 x1.marks) (h45:Rw Xpp w (St w []).av A42 n43 c44 x1.injects) (h52:Rw (Kd.slice Xml) w (St w []).av A49 n50 c51 x48) (h57:Rw (Xsu .i64) w (St w []).av A54 n55 c56 x53) (hF:∀ b,F b→b < w.heap.size∧∀ o ∈ ([]:List (List Nat)),b ∉ o) (hL0:B.Loc w w [] [Sm w.heap.size F w [],St w []]) (r:Bool) (h:Xr2 x1 x46 x47 x48 x53 r):Calls Try.prog 6 #[.agg #[.string x1.name,.slice A2 n3 c4,.slice A6 n7 c8,.slice A10 n11 c12,.slice A14 n15 c16,.slice A18 n19 c20,.slice A22 n23 c24,.slice A26 n27 c28,.slice A30 n31 c32,.slice A34 n35 c36,.slice A38 n39 c40,.slice A42 n43 c44],.int .i64 x46,.int .i64 x47,.slice A49 n50 c51,.slice A54 n55 c56] w (Xnb w F  r):=by
 unfold Xr2 at h
 refine Xms (vs:=[.agg #[.string x1.name,.slice A2 n3 c4,.slice A6 n7 c8,.slice A10 n11 c12,.slice A14 n15 c16,.slice A18 n19 c20,.slice A22 n23 c24,.slice A26 n27 c28,.slice A30 n31 c32,.slice A34 n35 c36,.slice A38 n39 c40,.slice A42 n43 c44],.int .i64 x46,.int .i64 x47,.slice A49 n50 c51,.slice A54 n55 c56]) 199 Try.func6 rfl Try.ntmps6 rfl hL0 ?_
 show G (Xmv w F r) _ _ _ _
 refine Xmb rfl<|Xm6 rfl rfl ?_
 refine Xmr 0 rfl (Xv5 [.string x1.name,.slice A2 n3 c4,.slice A6 n7 c8,.slice A10 n11 c12,.slice A14 n15 c16,.slice A18 n19 c20,.slice A22 n23 c24,.slice A26 n27 c28,.slice A30 n31 c32,.slice A34 n35 c36,.slice A38 n39 c40,.slice A42 n43 c44] rfl rfl rfl fun gb58=>?_) gn
 refine Xm5 1 rfl (Xma rfl) gn rfl<|Xmc 2 rfl<|Xmb rfl<|Xmb rfl<|Xm6 rfl rfl ?_
 obtain ⟨r63,hv64,h⟩:=h
 refine Xmr 0 rfl (Xmz [] rfl Try.func31 rfl rfl rfl fun w60 hL61=>?_) gn
 have hp62:=pmI hL61 .n (.c 0 rfl .n) (by kernel_rfl)
 refine Calls.mono (Xwe w60 (Fl ([]:List Xmq)) (hL61.hFl hp62 (Xmt [] rfl)) (hL61.into hp62 _) r63 hv64) ?_
 rintro _ w65 ⟨rfl,hM66⟩
 have hL67:=hL61.call hp62 hM66
 refine ⟨_,_,_,rfl,hL67,?_⟩
 refine Xm5 1 rfl (Xuv rfl) gn rfl<|Xmc 2 rfl ?_
 by_cases hp68:r63=true
 ·have h:=Xmh hp68 h
  refine Xmp rfl _ rfl ((nf hp68))<|Xn9 rfl<|Xmb rfl<|Xmb rfl<|Xm6 rfl rfl<|Xm5 0 rfl (Xm8 rfl) gn rfl ?_
  obtain ⟨r72,hv73,h⟩:=h
  refine Xmr 1 rfl (Xmz [.slice A49 n50 c51] rfl Try.func24 rfl rfl rfl fun w69 hL70=>?_) gn
  have hp71:=pmI hL70 .n (.c 0 rfl .n) (by kernel_rfl)
  refine Calls.mono (Xv2 w69 (Fl ([]:List Xmq)) x48 A49 n50 c51 (Rw.mono h52 (hL70.toSt hp71 (me 1 rfl))) (hL70.hFl hp71 (Xmt [] rfl)) (hL70.into hp71 _) r72 hv73) ?_
  rintro _ w74 ⟨rfl,hM75⟩
  have hL76:=hL70.call hp71 hM75
  refine ⟨_,_,_,rfl,hL76,?_⟩
  refine Xmc 2 rfl ?_
  by_cases hp77:r72=true
  ·have h:=Xmh hp77 h
   refine Xn3 rfl _ rfl (hp77)<|Xmb rfl<|Xm6 rfl rfl<|Xm5 0 rfl (Xma rfl) gn rfl<|Xmc 1 rfl ?_
   refine Xmu [.bool true] rfl Try.func6 rfl (.tmp rfl (.nil)) fun wr hLr=>?_
   have hMr:=hLr.pk0 (.c 1 rfl .n)
   show Xnb w F  r (.returned (Xn4 [.bool true])) wr
   rw [h]
   exact ⟨rfl,hMr⟩
  ·have h:=Xmg hp77 h
   refine Xmp rfl _ rfl ((bf hp77))<|Xn9 rfl<|Xmb rfl<|Xm6 rfl rfl<|Xm5 0 rfl (Xm8 rfl) gn rfl ?_
   obtain ⟨r81,hv82,h⟩:=h
   refine Xmr 1 rfl (Xmz [.slice A49 n50 c51] rfl Try.func29 rfl rfl rfl fun w78 hL79=>?_) gn
   have hp80:=pmI hL79 .n (.c 0 rfl .n) (by kernel_rfl)
   refine Calls.mono (Xsl w78 (Fl ([]:List Xmq)) x48 A49 n50 c51 (Rw.mono h52 (hL79.toSt hp80 (me 1 rfl))) (hL79.hFl hp80 (Xmt [] rfl)) (hL79.into hp80 _) r81 hv82) ?_
   rintro _ w91 ⟨A83,n84,c85,cs87,bs88,rfl,hM92,h86⟩
   have hL93:=hL79.call hp80 hM92
   refine ⟨_,_,_,rfl,hL93,?_⟩
   refine w_famz (fk:=Xni) (z':=w.heap.size) (j:=1) hL79.env.size rfl<|Xm5 2 rfl (Xma rfl) gn rfl<|Xmc 3 rfl<|Xmb rfl<|Xm6 rfl rfl<|Xm5 0 rfl (Xqa [.string x1.name,.slice A2 n3 c4,.slice A6 n7 c8,.slice A10 n11 c12,.slice A14 n15 c16,.slice A18 n19 c20,.slice A22 n23 c24,.slice A26 n27 c28,.slice A30 n31 c32,.slice A34 n35 c36,.slice A38 n39 c40,.slice A42 n43 c44] 2 Xxu rfl rfl rfl rfl) gn rfl<|Xm5 1 rfl (Xm8 rfl) gn rfl<|Xm5 2 rfl (Xm8 rfl) gn rfl<|Xm5 3 rfl (Xm8 rfl) gn rfl ?_
   obtain ⟨r97,hv98,h⟩:=h
   refine Xmr 4 rfl (Xmz [.agg #[.string x1.name,.slice A2 n3 c4,.slice A6 n7 c8,.slice A10 n11 c12,.slice A14 n15 c16,.slice A18 n19 c20,.slice A22 n23 c24,.slice A26 n27 c28,.slice A30 n31 c32,.slice A34 n35 c36,.slice A38 n39 c40,.slice A42 n43 c44],.int .i64 x46,.slice A83 n84 c85,.slice A54 n55 c56] rfl Try.func32 rfl rfl rfl fun w94 hL95=>?_) gn
   have hp96:=pmI hL95 .n (.c 0 rfl (.c 1 rfl (.c 2 rfl .n))) (by kernel_rfl)
   refine Calls.mono (Xqp w94 (Fl ([]:List Xmq)) x1 x46 r81 x53 A2 n3 c4 A6 n7 c8 A10 n11 c12 A14 n15 c16 A18 n19 c20 A22 n23 c24 A26 n27 c28 A30 n31 c32 A34 n35 c36 A38 n39 c40 A42 n43 c44 A83 n84 c85 A54 n55 c56 (Rw.mono h5 (hL95.toSt hp96 (me 1 rfl))) (Rw.mono h9 (hL95.toSt hp96 (me 1 rfl))) (Rw.mono h13 (hL95.toSt hp96 (me 1 rfl))) (Rw.mono h17 (hL95.toSt hp96 (me 1 rfl))) (Rw.mono h21 (hL95.toSt hp96 (me 1 rfl))) (Rw.mono h25 (hL95.toSt hp96 (me 1 rfl))) (Rw.mono h29 (hL95.toSt hp96 (me 1 rfl))) (Rw.mono h33 (hL95.toSt hp96 (me 1 rfl))) (Rw.mono h37 (hL95.toSt hp96 (me 1 rfl))) (Rw.mono h41 (hL95.toSt hp96 (me 1 rfl))) (Rw.mono h45 (hL95.toSt hp96 (me 1 rfl))) (hL95.argFam (fk:=Xni) (dk:=(Kd.slice Xml)) hp96 [] rfl 0 1 rfl rfl rfl rfl (Ow.weak hL79.env.size h86) (fun _ _ _ _ h=>⟨_,_,_,rfl,h⟩)) (Rw.mono h57 (hL95.toSt hp96 (me 1 rfl))) (hL95.hFl hp96 (Xmt [] rfl)) (hL95.into hp96 _) r97 hv98) ?_
   rintro _ w104 ⟨A99,n100,c101,rfl,hM105,h102⟩
   have hL106:=hL95.call hp96 hM105
   refine ⟨_,_,_,rfl,hL106,?_⟩
   refine Xm5 5 rfl (Xma rfl) gn rfl<|Xmc 6 rfl<|Xmb rfl<|Xm6 rfl rfl<|Xm5 0 rfl (Xqa [.string x1.name,.slice A2 n3 c4,.slice A6 n7 c8,.slice A10 n11 c12,.slice A14 n15 c16,.slice A18 n19 c20,.slice A22 n23 c24,.slice A26 n27 c28,.slice A30 n31 c32,.slice A34 n35 c36,.slice A38 n39 c40,.slice A42 n43 c44] 3 Xxu rfl rfl rfl rfl) gn rfl<|Xm5 1 rfl (Xm8 rfl) gn rfl<|Xm5 2 rfl (Xm8 rfl) gn rfl<|Xm5 3 rfl (Xm8 rfl) gn rfl ?_
   obtain ⟨r110,hv111,h⟩:=h
   refine Xmr 4 rfl (Xmz [.agg #[.string x1.name,.slice A2 n3 c4,.slice A6 n7 c8,.slice A10 n11 c12,.slice A14 n15 c16,.slice A18 n19 c20,.slice A22 n23 c24,.slice A26 n27 c28,.slice A30 n31 c32,.slice A34 n35 c36,.slice A38 n39 c40,.slice A42 n43 c44],.int .i64 x46,.slice A83 n84 c85,.slice A54 n55 c56] rfl Try.func32 rfl rfl rfl fun w107 hL108=>?_) gn
   have hp109:=pmI hL108 .n (.c 0 rfl (.c 1 rfl (.c 2 rfl (.c 3 rfl .n)))) (by kernel_rfl)
   refine Calls.mono (Xqp w107 (Fl ([]:List Xmq)) x1 x46 r81 x53 A2 n3 c4 A6 n7 c8 A10 n11 c12 A14 n15 c16 A18 n19 c20 A22 n23 c24 A26 n27 c28 A30 n31 c32 A34 n35 c36 A38 n39 c40 A42 n43 c44 A83 n84 c85 A54 n55 c56 (Rw.mono h5 (hL108.toSt hp109 (me 1 rfl))) (Rw.mono h9 (hL108.toSt hp109 (me 1 rfl))) (Rw.mono h13 (hL108.toSt hp109 (me 1 rfl))) (Rw.mono h17 (hL108.toSt hp109 (me 1 rfl))) (Rw.mono h21 (hL108.toSt hp109 (me 1 rfl))) (Rw.mono h25 (hL108.toSt hp109 (me 1 rfl))) (Rw.mono h29 (hL108.toSt hp109 (me 1 rfl))) (Rw.mono h33 (hL108.toSt hp109 (me 1 rfl))) (Rw.mono h37 (hL108.toSt hp109 (me 1 rfl))) (Rw.mono h41 (hL108.toSt hp109 (me 1 rfl))) (Rw.mono h45 (hL108.toSt hp109 (me 1 rfl))) (hL108.argFam (fk:=Xni) (dk:=(Kd.slice Xml)) hp109 [] rfl 1 2 rfl rfl rfl rfl (Ow.weak hL79.env.size h86) (fun _ _ _ _ h=>⟨_,_,_,rfl,h⟩)) (Rw.mono h57 (hL108.toSt hp109 (me 1 rfl))) (hL108.hFl hp109 (Xmt [] rfl)) (hL108.into hp109 _) r110 hv111) ?_
   rintro _ w117 ⟨A112,n113,c114,rfl,hM118,h115⟩
   have hL119:=hL108.call hp109 hM118
   refine ⟨_,_,_,rfl,hL119,?_⟩
   refine Xm5 5 rfl (Xma rfl) gn rfl<|Xmc 6 rfl<|Xmb rfl<|Xm6 rfl rfl<|Xm5 0 rfl (Xm8 rfl) gn rfl ?_
   obtain ⟨r123,hv124,h⟩:=h
   refine Xmr 1 rfl (Xmz [.slice A99 n100 c101] rfl Try.func17 rfl rfl rfl fun w120 hL121=>?_) gn
   have hp122:=pmI hL121 .n (.c 0 rfl (.c 1 rfl (.c 2 rfl (.c 3 rfl (.c 4 rfl .n))))) (by kernel_rfl)
   refine Calls.mono (Xqq w120 (Fl ([]:List Xmq)) r97 A99 n100 c101 (hL121.argO (dk:=Xml) hp122 [] rfl 1 rfl rfl (Ow.weak hL95.env.size h102) (me 0 rfl) (Cells.flat _)) (hL121.hFl hp122 (Xmt [] rfl)) (hL121.into hp122 _) r123 hv124) ?_
   rintro _ w130 ⟨A125,n126,c127,rfl,hM131,h128⟩
   have hL132:=hL121.call hp122 hM131
   refine ⟨_,_,_,rfl,hL132,?_⟩
   refine Xm5 2 rfl (Xma rfl) gn rfl<|Xmc 3 rfl<|Xmb rfl<|Xm6 rfl rfl<|Xm5 0 rfl (Xma rfl) gn rfl<|Xm5 1 rfl (Xma rfl) gn rfl<|Xm5 2 rfl (Xma rfl) gn rfl<|Xmc 3 rfl<|Xmb rfl<|Xmb rfl<|Xm6 rfl rfl<|Xm5 0 rfl (Xma rfl) gn rfl ?_
   refine Xmc 1 rfl<|Xn8 rfl<|Xqc rfl ?_
   have key1:∀ s,Xmi (fun (s:(List (List Xm4)) × (List (List Xm4)) × (List (List Xm4)) × Int) o=>Xnm r81 x1 x47 x46 x53 r97 x48 r110 r123 s.1 s.2.1 s.2.2.1 s.2.2.2 o) s r→(fun (s:(List (List Xm4)) × (List (List Xm4)) × (List (List Xm4)) × Int)=>∀ (A3426:Option Addr) (n3427:Nat) (c3428:Nat) (cs3429:List Value) (bs3430:List Nat) (h3431:Ow w.heap.size A3426 n3427 c3428 s.1) (A3433:Option Addr) (n3434:Nat) (c3435:Nat) (cs3436:List Value) (bs3437:List Nat) (h3438:Ow w.heap.size A3433 n3434 c3435 s.2.1) (A3440:Option Addr) (n3441:Nat) (c3442:Nat) (cs3443:List Value) (bs3444:List Nat) (h3445:Ow w.heap.size A3440 n3441 c3442 s.2.2.1),G (Xmv w F r) [.code Yb5,.inLoop Yb5,.inBlock 0,.code Ydp] [(1,.int .i64 x46),(2,.int .i64 x47),(3,.slice A49 n50 c51),(4,.slice A54 n55 c56),(5,.pointer (some ⟨gb58,0,none⟩)),(11,.slice A83 n84 c85),(12,.slice A99 n100 c101),(13,.slice A112 n113 c114),(14,.slice A125 n126 c127),(15,.slice A3426 n3427 c3428),(16,.slice A3433 n3434 c3435),(17,.slice A3440 n3441 c3442),(18,.int .i64 s.2.2.2)] [Xou Xni (w.heap.size) none r81 cs87 bs88,Xou Xni (w.heap.size) none s.1 cs3429 bs3430,Xou Xni (w.heap.size) none s.2.1 cs3436 bs3437,Xou Xni (w.heap.size) none s.2.2.1 cs3443 bs3444,.own (.slice A3426 n3427 c3428) 22 1 n3427 cs3429,.own (.slice A3433 n3434 c3435) 22 1 n3434 cs3436,.own (.slice A3440 n3441 c3442) 22 1 n3441 cs3443,.own (.slice A125 n126 c127) 39 7 n126 (r123.flatMap Xmd),.own (.slice A112 n113 c114) 39 7 n113 (r110.flatMap Xmd),.own (.slice A99 n100 c101) 39 7 n100 (r97.flatMap Xmd),.own (.slice A83 n84 c85) 22 1 n84 cs87,.box gb58 58 [.string x1.name,.slice A2 n3 c4,.slice A6 n7 c8,.slice A10 n11 c12,.slice A14 n15 c16,.slice A18 n19 c20,.slice A22 n23 c24,.slice A26 n27 c28,.slice A30 n31 c32,.slice A34 n35 c36,.slice A38 n39 c40,.slice A42 n43 c44]] [Sm w.heap.size F w [],St w []]) s:=by
    intro s hs
    refine Xmi.ind (mot:=(fun (s:(List (List Xm4)) × (List (List Xm4)) × (List (List Xm4)) × Int)=>∀ (A3426:Option Addr) (n3427:Nat) (c3428:Nat) (cs3429:List Value) (bs3430:List Nat) (h3431:Ow w.heap.size A3426 n3427 c3428 s.1) (A3433:Option Addr) (n3434:Nat) (c3435:Nat) (cs3436:List Value) (bs3437:List Nat) (h3438:Ow w.heap.size A3433 n3434 c3435 s.2.1) (A3440:Option Addr) (n3441:Nat) (c3442:Nat) (cs3443:List Value) (bs3444:List Nat) (h3445:Ow w.heap.size A3440 n3441 c3442 s.2.2.1),G (Xmv w F r) [.code Yb5,.inLoop Yb5,.inBlock 0,.code Ydp] [(1,.int .i64 x46),(2,.int .i64 x47),(3,.slice A49 n50 c51),(4,.slice A54 n55 c56),(5,.pointer (some ⟨gb58,0,none⟩)),(11,.slice A83 n84 c85),(12,.slice A99 n100 c101),(13,.slice A112 n113 c114),(14,.slice A125 n126 c127),(15,.slice A3426 n3427 c3428),(16,.slice A3433 n3434 c3435),(17,.slice A3440 n3441 c3442),(18,.int .i64 s.2.2.2)] [Xou Xni (w.heap.size) none r81 cs87 bs88,Xou Xni (w.heap.size) none s.1 cs3429 bs3430,Xou Xni (w.heap.size) none s.2.1 cs3436 bs3437,Xou Xni (w.heap.size) none s.2.2.1 cs3443 bs3444,.own (.slice A3426 n3427 c3428) 22 1 n3427 cs3429,.own (.slice A3433 n3434 c3435) 22 1 n3434 cs3436,.own (.slice A3440 n3441 c3442) 22 1 n3441 cs3443,.own (.slice A125 n126 c127) 39 7 n126 (r123.flatMap Xmd),.own (.slice A112 n113 c114) 39 7 n113 (r110.flatMap Xmd),.own (.slice A99 n100 c101) 39 7 n100 (r97.flatMap Xmd),.own (.slice A83 n84 c85) 22 1 n84 cs87,.box gb58 58 [.string x1.name,.slice A2 n3 c4,.slice A6 n7 c8,.slice A10 n11 c12,.slice A14 n15 c16,.slice A18 n19 c20,.slice A22 n23 c24,.slice A26 n27 c28,.slice A30 n31 c32,.slice A34 n35 c36,.slice A38 n39 c40,.slice A42 n43 c44]] [Sm w.heap.size F w [],St w []])) ?_ hs
    clear hs s
    intro s o1 h hO1
    obtain ⟨x3425,x3432,x3439,x3446⟩:=s
    show ∀ (A3426:Option Addr) (n3427:Nat) (c3428:Nat) (cs3429:List Value) (bs3430:List Nat) (h3431:Ow w.heap.size A3426 n3427 c3428 x3425) (A3433:Option Addr) (n3434:Nat) (c3435:Nat) (cs3436:List Value) (bs3437:List Nat) (h3438:Ow w.heap.size A3433 n3434 c3435 x3432) (A3440:Option Addr) (n3441:Nat) (c3442:Nat) (cs3443:List Value) (bs3444:List Nat) (h3445:Ow w.heap.size A3440 n3441 c3442 x3439),G (Xmv w F r) [.code Yb5,.inLoop Yb5,.inBlock 0,.code Ydp] [(1,.int .i64 x46),(2,.int .i64 x47),(3,.slice A49 n50 c51),(4,.slice A54 n55 c56),(5,.pointer (some ⟨gb58,0,none⟩)),(11,.slice A83 n84 c85),(12,.slice A99 n100 c101),(13,.slice A112 n113 c114),(14,.slice A125 n126 c127),(15,.slice A3426 n3427 c3428),(16,.slice A3433 n3434 c3435),(17,.slice A3440 n3441 c3442),(18,.int .i64 x3446)] [Xou Xni (w.heap.size) none r81 cs87 bs88,Xou Xni (w.heap.size) none x3425 cs3429 bs3430,Xou Xni (w.heap.size) none x3432 cs3436 bs3437,Xou Xni (w.heap.size) none x3439 cs3443 bs3444,.own (.slice A3426 n3427 c3428) 22 1 n3427 cs3429,.own (.slice A3433 n3434 c3435) 22 1 n3434 cs3436,.own (.slice A3440 n3441 c3442) 22 1 n3441 cs3443,.own (.slice A125 n126 c127) 39 7 n126 (r123.flatMap Xmd),.own (.slice A112 n113 c114) 39 7 n113 (r110.flatMap Xmd),.own (.slice A99 n100 c101) 39 7 n100 (r97.flatMap Xmd),.own (.slice A83 n84 c85) 22 1 n84 cs87,.box gb58 58 [.string x1.name,.slice A2 n3 c4,.slice A6 n7 c8,.slice A10 n11 c12,.slice A14 n15 c16,.slice A18 n19 c20,.slice A22 n23 c24,.slice A26 n27 c28,.slice A30 n31 c32,.slice A34 n35 c36,.slice A38 n39 c40,.slice A42 n43 c44]] [Sm w.heap.size F w [],St w []]
    intro A3426 n3427 c3428 cs3429 bs3430 h3431 A3433 n3434 c3435 cs3436 bs3437 h3438 A3440 n3441 c3442 cs3443 bs3444 h3445
    have h:Xnm r81 x1 x47 x46 x53 r97 x48 r110 r123 x3425 x3432 x3439 x3446 o1:=h
    unfold Xnm at h
    refine Xmb rfl<|Xmb rfl<|Xm6 rfl rfl<|Xm5 0 rfl (Xm8 rfl) gn rfl<|Xm5 1 rfl (Xm8 rfl) gn rfl<|Xm5 2 rfl (Xn0 Ya5 rfl (Ow.weak hL79.env.size h86).hq) gn rfl<|Xm5 3 rfl (Xmn rfl rfl rfl) gn rfl<|Xmc 4 rfl ?_
    by_cases hp21189:x3446 < (r81.length:Int)
    ·have h:=Xmh hp21189 h
     refine Xn3 rfl _ rfl ((decide_eq_true hp21189))<|Xn9 rfl<|Xmb rfl<|Xn8 rfl<|Xmb rfl ?_
     obtain ⟨hb21190,h⟩:=h
     obtain ⟨r21200,hv21201,h⟩:=h
     have hns:Region.noSelect (Code.ops q6c42)=true:=by kernel_rfl
     refine Xqx [] 8 rfl rfl mix rfl (.c 0 rfl (.c 1 rfl .n))<|wfv 0 rfl (Xqa [.string x1.name,.slice A2 n3 c4,.slice A6 n7 c8,.slice A10 n11 c12,.slice A14 n15 c16,.slice A18 n19 c20,.slice A22 n23 c24,.slice A26 n27 c28,.slice A30 n31 c32,.slice A34 n35 c36,.slice A38 n39 c40,.slice A42 n43 c44] 11 Xxu rfl rfl rfl rfl) gn hns rfl<|wfv 1 rfl (Xm8 rfl) gn hns rfl<|wfv 2 rfl (Xm8 rfl) gn hns rfl<|wfv 3 rfl (Xm8 rfl) gn hns rfl ?_
     refine Xwx (fk:=Xni) (z:=w.heap.size) (j:=0) rfl hb21190 fun A21236 n21237 c21238 h21239 ht21240 hg21241=>?_
     refine wfv 4 rfl (Xot Xug rfl rfl (Ow.weak hL79.env.size h86) hb21190) gn hns rfl<|wfv 5 rfl (Xq7 (.slice A21236 n21237 c21238) 10 Xw3 rfl rfl (hg21241 0 _ rfl)) gn hns rfl ?_
     refine Xnk [6] (by kernel_rfl) rfl ⟨Xqy 6 rfl gn rfl (Xmz [.agg #[.string x1.name,.slice A2 n3 c4,.slice A6 n7 c8,.slice A10 n11 c12,.slice A14 n15 c16,.slice A18 n19 c20,.slice A22 n23 c24,.slice A26 n27 c28,.slice A30 n31 c32,.slice A34 n35 c36,.slice A38 n39 c40,.slice A42 n43 c44],.int .i64 x47,.slice A21236 n21237 c21238] rfl Try.func33 rfl rfl rfl fun w21252 hL21253=>?_),trivial⟩
     have hp21254:=pmI hL21253 .n (.c 0 rfl (.c 1 rfl (.c 2 rfl (.c 3 rfl (.c 4 rfl (.c 5 rfl (.c 6 rfl (.c 7 rfl (.c 8 rfl (.c 9 rfl (.c 10 rfl (.c 11 rfl .n)))))))))))) (by kernel_rfl)
     refine Calls.mono (Xv0 w21252 (Fl ([]:List Xmq)) x1 x47 (ix r81 x3446) A2 n3 c4 A6 n7 c8 A10 n11 c12 A14 n15 c16 A18 n19 c20 A22 n23 c24 A26 n27 c28 A30 n31 c32 A34 n35 c36 A38 n39 c40 A42 n43 c44 A21236 n21237 c21238 (Rw.mono h5 (hL21253.toSt hp21254 (me 1 rfl))) (Rw.mono h9 (hL21253.toSt hp21254 (me 1 rfl))) (Rw.mono h13 (hL21253.toSt hp21254 (me 1 rfl))) (Rw.mono h17 (hL21253.toSt hp21254 (me 1 rfl))) (Rw.mono h21 (hL21253.toSt hp21254 (me 1 rfl))) (Rw.mono h25 (hL21253.toSt hp21254 (me 1 rfl))) (Rw.mono h29 (hL21253.toSt hp21254 (me 1 rfl))) (Rw.mono h33 (hL21253.toSt hp21254 (me 1 rfl))) (Rw.mono h37 (hL21253.toSt hp21254 (me 1 rfl))) (Rw.mono h41 (hL21253.toSt hp21254 (me 1 rfl))) (Rw.mono h45 (hL21253.toSt hp21254 (me 1 rfl))) (hL21253.argF (fk:=Xni) (z:=w.heap.size) hp21254 [] rfl 0 rfl rfl hb21190 ht21240 h21239) (hL21253.hFl hp21254 (Xmt [] rfl)) (hL21253.into hp21254 _) r21200 hv21201) ?_
     rintro _ w21259 ⟨A21255,n21256,c21257,rfl,hM21260,h21258⟩
     have hL21261:=hL21253.call hp21254 hM21260
     refine ⟨_,_,_,rfl,hL21261,?_⟩
     refine ⟨Xmt [1,2,3,4,5,6,7,8,9,10,11,12] rfl,Xmt [0,1] rfl,?_⟩
     refine wfv 7 rfl (Xma rfl) gn hns rfl<|Xq0 (by kernel_rfl)<|Xmb rfl ?_
     obtain ⟨r21271,hv21272,h⟩:=h
     have hns:Region.noSelect (Code.ops q6c44)=true:=by kernel_rfl
     refine Xqx [] 8 rfl rfl mix rfl (.c 0 rfl (.c 1 rfl .n))<|wfv 0 rfl (Xqa [.string x1.name,.slice A2 n3 c4,.slice A6 n7 c8,.slice A10 n11 c12,.slice A14 n15 c16,.slice A18 n19 c20,.slice A22 n23 c24,.slice A26 n27 c28,.slice A30 n31 c32,.slice A34 n35 c36,.slice A38 n39 c40,.slice A42 n43 c44] 12 Xxu rfl rfl rfl rfl) gn hns rfl<|wfv 1 rfl (Xm8 rfl) gn hns rfl<|wfv 2 rfl (Xm8 rfl) gn hns rfl<|wfv 3 rfl (Xm8 rfl) gn hns rfl ?_
     refine Xwx (fk:=Xni) (z:=w.heap.size) (j:=1) rfl hb21190 fun A21307 n21308 c21309 h21310 ht21311 hg21312=>?_
     refine wfv 4 rfl (Xot Xug rfl rfl (Ow.weak hL79.env.size h86) hb21190) gn hns rfl<|wfv 5 rfl (Xq7 (.slice A21307 n21308 c21309) 11 Xw3 rfl rfl (hg21312 0 _ rfl)) gn hns rfl ?_
     refine Xnk [6] (by kernel_rfl) rfl ⟨Xqy 6 rfl gn rfl (Xmz [.agg #[.string x1.name,.slice A2 n3 c4,.slice A6 n7 c8,.slice A10 n11 c12,.slice A14 n15 c16,.slice A18 n19 c20,.slice A22 n23 c24,.slice A26 n27 c28,.slice A30 n31 c32,.slice A34 n35 c36,.slice A38 n39 c40,.slice A42 n43 c44],.int .i64 x47,.slice A21307 n21308 c21309] rfl Try.func33 rfl rfl rfl fun w21323 hL21324=>?_),trivial⟩
     have hp21325:=pmI hL21324 .n (.c 0 rfl (.c 1 rfl (.c 2 rfl (.c 3 rfl (.c 4 rfl (.c 5 rfl (.c 6 rfl (.c 7 rfl (.c 8 rfl (.c 9 rfl (.c 10 rfl (.c 11 rfl (.c 12 rfl .n))))))))))))) (by kernel_rfl)
     refine Calls.mono (Xv0 w21323 (Fl ([]:List Xmq)) x1 x47 (ix r81 x3446) A2 n3 c4 A6 n7 c8 A10 n11 c12 A14 n15 c16 A18 n19 c20 A22 n23 c24 A26 n27 c28 A30 n31 c32 A34 n35 c36 A38 n39 c40 A42 n43 c44 A21307 n21308 c21309 (Rw.mono h5 (hL21324.toSt hp21325 (me 1 rfl))) (Rw.mono h9 (hL21324.toSt hp21325 (me 1 rfl))) (Rw.mono h13 (hL21324.toSt hp21325 (me 1 rfl))) (Rw.mono h17 (hL21324.toSt hp21325 (me 1 rfl))) (Rw.mono h21 (hL21324.toSt hp21325 (me 1 rfl))) (Rw.mono h25 (hL21324.toSt hp21325 (me 1 rfl))) (Rw.mono h29 (hL21324.toSt hp21325 (me 1 rfl))) (Rw.mono h33 (hL21324.toSt hp21325 (me 1 rfl))) (Rw.mono h37 (hL21324.toSt hp21325 (me 1 rfl))) (Rw.mono h41 (hL21324.toSt hp21325 (me 1 rfl))) (Rw.mono h45 (hL21324.toSt hp21325 (me 1 rfl))) (hL21324.argF (fk:=Xni) (z:=w.heap.size) hp21325 [] rfl 1 rfl rfl hb21190 ht21311 h21310) (hL21324.hFl hp21325 (Xmt [] rfl)) (hL21324.into hp21325 _) r21271 hv21272) ?_
     rintro _ w21330 ⟨A21326,n21327,c21328,rfl,hM21331,h21329⟩
     have hL21332:=hL21324.call hp21325 hM21331
     refine ⟨_,_,_,rfl,hL21332,?_⟩
     refine ⟨Xmt [1,2,3,4,5,6,7,8,9,10,11,12,13] rfl,Xmt [0,1] rfl,?_⟩
     refine wfv 7 rfl (Xma rfl) gn hns rfl<|Xq0 (by kernel_rfl)<|Xmb rfl<|Xm6 rfl rfl<|Xm5 0 rfl (Xm8 rfl) gn rfl ?_
     obtain ⟨r21336,hv21337,h⟩:=h
     refine Xmr 1 rfl (Xmz [.slice A21326 n21327 c21328] rfl Try.func17 rfl rfl rfl fun w21333 hL21334=>?_) gn
     have hp21335:=pmI hL21334 .n (.c 0 rfl (.c 1 rfl (.c 2 rfl (.c 3 rfl (.c 4 rfl (.c 5 rfl (.c 6 rfl (.c 7 rfl (.c 8 rfl (.c 9 rfl (.c 10 rfl (.c 11 rfl (.c 12 rfl (.c 13 rfl .n)))))))))))))) (by kernel_rfl)
     refine Calls.mono (Xqq w21333 (Fl ([]:List Xmq)) r21271 A21326 n21327 c21328 (hL21334.argO (dk:=Xml) hp21335 [] rfl 0 rfl rfl (Ow.weak hL21324.env.size h21329) (me 0 rfl) (Cells.flat _)) (hL21334.hFl hp21335 (Xmt [] rfl)) (hL21334.into hp21335 _) r21336 hv21337) ?_
     rintro _ w21343 ⟨A21338,n21339,c21340,rfl,hM21344,h21341⟩
     have hL21345:=hL21334.call hp21335 hM21344
     refine ⟨_,_,_,rfl,hL21345,?_⟩
     refine Xm5 2 rfl (Xma rfl) gn rfl<|Xmc 3 rfl<|Xmb rfl<|Xm6 rfl rfl<|Xm5 0 rfl (Xm8 rfl) gn rfl<|Xm5 1 rfl (Xm8 rfl) gn rfl ?_
     refine Yeg (z:=w.heap.size) (j:=2) Xni r21200 rfl (Ow.weak hL21253.env.size h21258) rfl fun bs21346=>?_
     refine Xmr 2 rfl (Xph (xs:=([r21200]:List (List Xm4))) [.slice A21255 n21256 c21257] Xzq rfl (by kernel_rfl) rfl rfl rfl rfl fun gb21349 h21350=>?_) gn
     obtain ⟨x21355,hv21356,h⟩:=h
     obtain ⟨hb21357,h⟩:=h
     obtain ⟨cs21358,hc21359⟩:∃ x:List Value,x=cs3429++[.slice A21255 n21256 c21257]:=⟨_,rfl⟩
     refine Xmr 3 rfl (Xs7 (zs:=x21355) 8 ap_59 rfl rfl rfl h3431 (Nat.le_refl _) (Src.raw 0 rfl h21350 rfl rfl) hc21359.symm (Xp6 hv21356 h21350.hq) hb21357 rfl rfl fun A21351 c21352 h21353=>?_) gn
     refine Xzp (fk:=Xni) (z:=w.heap.size) (j1:=3) (j:=5) (by decide) rfl rfl hv21356 hc21359 fun bs21354=>?_
     refine Xm5 4 rfl (Xma rfl) gn rfl<|Xmc 5 rfl<|Xmb rfl<|Xm6 rfl rfl<|Xm5 0 rfl (Xm8 rfl) gn rfl<|Xm5 1 rfl (Xm8 rfl) gn rfl ?_
     refine Yeg (z:=w.heap.size) (j:=2) Xni r21271 rfl (Ow.weak hL21324.env.size h21329) rfl fun bs21360=>?_
     refine Xmr 2 rfl (Xph (xs:=([r21271]:List (List Xm4))) [.slice A21326 n21327 c21328] Xzq rfl (by kernel_rfl) rfl rfl rfl rfl fun gb21363 h21364=>?_) gn
     obtain ⟨x21369,hv21370,h⟩:=h
     obtain ⟨hb21371,h⟩:=h
     obtain ⟨cs21372,hc21373⟩:∃ x:List Value,x=cs3436++[.slice A21326 n21327 c21328]:=⟨_,rfl⟩
     refine Xmr 3 rfl (Xs7 (zs:=x21369) 9 ap_59 rfl rfl rfl h3438 (Nat.le_refl _) (Src.raw 0 rfl h21364 rfl rfl) hc21373.symm (Xp6 hv21370 h21364.hq) hb21371 rfl rfl fun A21365 c21366 h21367=>?_) gn
     refine Xzp (fk:=Xni) (z:=w.heap.size) (j1:=3) (j:=6) (by decide) rfl rfl hv21370 hc21373 fun bs21368=>?_
     refine Xm5 4 rfl (Xma rfl) gn rfl<|Xmc 5 rfl<|Xm6 rfl rfl<|Xm5 0 rfl (Xm8 rfl) gn rfl<|Xm5 1 rfl (Xm8 rfl) gn rfl ?_
     refine Yeg (z:=w.heap.size) (j:=2) Xni r21336 rfl (Ow.weak hL21334.env.size h21341) rfl fun bs21374=>?_
     refine Xmr 2 rfl (Xph (xs:=([r21336]:List (List Xm4))) [.slice A21338 n21339 c21340] Xzq rfl (by kernel_rfl) rfl rfl rfl rfl fun gb21377 h21378=>?_) gn
     obtain ⟨x21383,hv21384,h⟩:=h
     obtain ⟨hb21385,h⟩:=h
     obtain ⟨cs21386,hc21387⟩:∃ x:List Value,x=cs3443++[.slice A21338 n21339 c21340]:=⟨_,rfl⟩
     refine Xmr 3 rfl (Xs7 (zs:=x21383) 10 ap_59 rfl rfl rfl h3445 (Nat.le_refl _) (Src.raw 0 rfl h21378 rfl rfl) hc21387.symm (Xp6 hv21384 h21378.hq) hb21385 rfl rfl fun A21379 c21380 h21381=>?_) gn
     refine Xzp (fk:=Xni) (z:=w.heap.size) (j1:=3) (j:=7) (by decide) rfl rfl hv21384 hc21387 fun bs21382=>?_
     refine Xm5 4 rfl (Xma rfl) gn rfl<|Xmc 5 rfl<|Xn5<|Xm6 rfl rfl<|Xm5 0 rfl (Xm8 rfl) gn rfl<|Xm5 1 rfl (Xmn rfl rfl rfl) gn rfl<|Xm5 2 rfl (Xma rfl) gn rfl<|Xmc 3 rfl<|Xnp ?_
     have ih:=Out.inl hO1 h
     exact Xng [0,1] (ih A21351 (n3427 + 1) c21352 cs21358 bs21354 h21353 A21365 (n3434 + 1) c21366 cs21372 bs21368 h21367 A21379 (n3441 + 1) c21380 cs21386 bs21382 h21381) ⟨rfl,rfl,rfl,rfl,rfl,rfl,rfl,rfl,rfl,rfl,rfl,rfl,rfl,trivial⟩ (.cons _ (.cons _ (.cons _ (.cons_cons _ (.cons_cons _ (.cons_cons _ (.cons_cons _ (.cons_cons _ (.cons_cons _ (.cons_cons _ (.cons_cons _ (.cons_cons _ (.cons_cons _ (.cons_cons _ (.cons_cons _ (.slnil)))))))))))))))) rfl
    ·have h:=Xmg hp21189 h
     refine Xmp rfl _ rfl ((decide_eq_false hp21189))<|Xpw [.code Ydp] rfl rfl<|Xmb rfl<|Xm6 rfl rfl<|Xm5 0 rfl (Xqa [.string x1.name,.slice A2 n3 c4,.slice A6 n7 c8,.slice A10 n11 c12,.slice A14 n15 c16,.slice A18 n19 c20,.slice A22 n23 c24,.slice A26 n27 c28,.slice A30 n31 c32,.slice A34 n35 c36,.slice A38 n39 c40,.slice A42 n43 c44] 11 Xxu rfl rfl rfl rfl) gn rfl<|Xm5 1 rfl (Xm8 rfl) gn rfl<|Xm5 2 rfl (Xmn rfl rfl rfl) gn rfl<|Xm5 3 rfl (Xm8 rfl) gn rfl<|Xm5 4 rfl (Xm8 rfl) gn rfl ?_
     obtain ⟨r21391,hv21392,h⟩:=h
     refine Xmr 5 rfl (Xmz [.agg #[.string x1.name,.slice A2 n3 c4,.slice A6 n7 c8,.slice A10 n11 c12,.slice A14 n15 c16,.slice A18 n19 c20,.slice A22 n23 c24,.slice A26 n27 c28,.slice A30 n31 c32,.slice A34 n35 c36,.slice A38 n39 c40,.slice A42 n43 c44],.int .i64 (w64 (x46 + 1)),.slice A83 n84 c85,.slice A54 n55 c56] rfl Try.func32 rfl rfl rfl fun w21388 hL21389=>?_) gn
     have hp21390:=pmI hL21389 .n (.c 0 rfl (.c 1 rfl (.c 2 rfl (.c 3 rfl (.c 4 rfl (.c 5 rfl (.c 6 rfl (.c 7 rfl (.c 8 rfl (.c 9 rfl (.c 10 rfl (.c 11 rfl .n)))))))))))) (by kernel_rfl)
     refine Calls.mono (Xqp w21388 (Fl ([]:List Xmq)) x1 (w64 (x46 + 1)) r81 x53 A2 n3 c4 A6 n7 c8 A10 n11 c12 A14 n15 c16 A18 n19 c20 A22 n23 c24 A26 n27 c28 A30 n31 c32 A34 n35 c36 A38 n39 c40 A42 n43 c44 A83 n84 c85 A54 n55 c56 (Rw.mono h5 (hL21389.toSt hp21390 (me 1 rfl))) (Rw.mono h9 (hL21389.toSt hp21390 (me 1 rfl))) (Rw.mono h13 (hL21389.toSt hp21390 (me 1 rfl))) (Rw.mono h17 (hL21389.toSt hp21390 (me 1 rfl))) (Rw.mono h21 (hL21389.toSt hp21390 (me 1 rfl))) (Rw.mono h25 (hL21389.toSt hp21390 (me 1 rfl))) (Rw.mono h29 (hL21389.toSt hp21390 (me 1 rfl))) (Rw.mono h33 (hL21389.toSt hp21390 (me 1 rfl))) (Rw.mono h37 (hL21389.toSt hp21390 (me 1 rfl))) (Rw.mono h41 (hL21389.toSt hp21390 (me 1 rfl))) (Rw.mono h45 (hL21389.toSt hp21390 (me 1 rfl))) (hL21389.argFam (fk:=Xni) (dk:=(Kd.slice Xml)) hp21390 [] rfl 10 0 rfl rfl rfl rfl (Ow.weak hL79.env.size h86) (fun _ _ _ _ h=>⟨_,_,_,rfl,h⟩)) (Rw.mono h57 (hL21389.toSt hp21390 (me 1 rfl))) (hL21389.hFl hp21390 (Xmt [] rfl)) (hL21389.into hp21390 _) r21391 hv21392) ?_
     rintro _ w21398 ⟨A21393,n21394,c21395,rfl,hM21399,h21396⟩
     have hL21400:=hL21389.call hp21390 hM21399
     refine ⟨_,_,_,rfl,hL21400,?_⟩
     refine Xm5 6 rfl (Xma rfl) gn rfl<|Xmc 7 rfl<|Xmb rfl<|Xm6 rfl rfl<|Xm5 0 rfl (Xm8 rfl) gn rfl ?_
     obtain ⟨r21404,hv21405,h⟩:=h
     refine Xmr 1 rfl (Xmz [.slice A21393 n21394 c21395] rfl Try.func17 rfl rfl rfl fun w21401 hL21402=>?_) gn
     have hp21403:=pmI hL21402 .n (.c 0 rfl (.c 1 rfl (.c 2 rfl (.c 3 rfl (.c 4 rfl (.c 5 rfl (.c 6 rfl (.c 7 rfl (.c 8 rfl (.c 9 rfl (.c 10 rfl (.c 11 rfl (.c 12 rfl .n))))))))))))) (by kernel_rfl)
     refine Calls.mono (Xqq w21401 (Fl ([]:List Xmq)) r21391 A21393 n21394 c21395 (hL21402.argO (dk:=Xml) hp21403 [] rfl 0 rfl rfl (Ow.weak hL21389.env.size h21396) (me 0 rfl) (Cells.flat _)) (hL21402.hFl hp21403 (Xmt [] rfl)) (hL21402.into hp21403 _) r21404 hv21405) ?_
     rintro _ w21411 ⟨A21406,n21407,c21408,rfl,hM21412,h21409⟩
     have hL21413:=hL21402.call hp21403 hM21412
     refine ⟨_,_,_,rfl,hL21413,?_⟩
     refine Xm5 2 rfl (Xma rfl) gn rfl<|Xmc 3 rfl<|Xmb rfl<|Xm6 rfl rfl<|Xm5 0 rfl (Xm8 rfl) gn rfl ?_
     obtain ⟨r21417,hv21418,h⟩:=h
     refine Xmr 1 rfl (Xmz [.slice A99 n100 c101] rfl Try.func34 rfl rfl rfl fun w21414 hL21415=>?_) gn
     have hp21416:=pmI hL21415 (.c 11 rfl .n) (.c 0 rfl (.c 1 rfl (.c 2 rfl (.c 3 rfl (.c 4 rfl (.c 5 rfl (.c 6 rfl (.c 7 rfl (.c 8 rfl (.c 9 rfl (.c 10 rfl (.c 12 rfl (.c 13 rfl .n))))))))))))) (by kernel_rfl)
     refine Calls.mono (Xrt w21414 (Fl ([]:List Xmq)) r97 w.heap.size A99 n100 c101 hL21415.env.size (Ow.weak hL95.env.size h102) (hL21415.hFl hp21416 (Xmt [] rfl)) (hL21415.into hp21416 _) r21417 hv21418) ?_
     rintro _ w21419 ⟨rfl,hM21420,h21422⟩
     have hL21421:=hL21415.call hp21416 hM21420
     refine ⟨_,_,_,rfl,hL21421,?_⟩
     refine Xmc 2 rfl<|Xmb rfl<|Xmb rfl<|Xm6 rfl rfl<|Xm5 0 rfl (Xma rfl) gn rfl<|Xmc 1 rfl<|Xn8 rfl<|Xqc rfl ?_
     have key2:∀ s,Xmi (fun (s:(List (List Xm4)) × Int) o=>Xnw x3432 x3439 r21391 r21404 r81 x48 r110 r123 x1 x46 x53 s.1 s.2 o) s o1→(fun (s:(List (List Xm4)) × Int)=>∀ (A27258:Option Addr) (n27259:Nat) (c27260:Nat) (cs27261:List Value) (bs27262:List Nat) (h27263:Ow w.heap.size A27258 n27259 c27260 s.1),G (Xmv w F r) [.code Ye7,.inLoop Ye7,.inBlock 2,.code Ydg] [(1,.int .i64 x46),(3,.slice A49 n50 c51),(4,.slice A54 n55 c56),(5,.pointer (some ⟨gb58,0,none⟩)),(11,.slice A83 n84 c85),(13,.slice A112 n113 c114),(14,.slice A125 n126 c127),(15,.slice A27258 n27259 c27260),(16,.slice A3433 n3434 c3435),(17,.slice A3440 n3441 c3442),(22,.slice A21393 n21394 c21395),(23,.slice A21406 n21407 c21408),(24,.int .i64 s.2)] [Xou Xni (w.heap.size) none r81 cs87 bs88,Xou Xni (w.heap.size) none s.1 cs27261 bs27262,Xou Xni (w.heap.size) none x3432 cs3436 bs3437,Xou Xni (w.heap.size) none x3439 cs3443 bs3444,.own (.slice A21406 n21407 c21408) 39 7 n21407 (r21404.flatMap Xmd),.own (.slice A21393 n21394 c21395) 39 7 n21394 (r21391.flatMap Xmd),.own (.slice A27258 n27259 c27260) 22 1 n27259 cs27261,.own (.slice A3433 n3434 c3435) 22 1 n3434 cs3436,.own (.slice A3440 n3441 c3442) 22 1 n3441 cs3443,.own (.slice A125 n126 c127) 39 7 n126 (r123.flatMap Xmd),.own (.slice A112 n113 c114) 39 7 n113 (r110.flatMap Xmd),.own (.slice A83 n84 c85) 22 1 n84 cs87,.box gb58 58 [.string x1.name,.slice A2 n3 c4,.slice A6 n7 c8,.slice A10 n11 c12,.slice A14 n15 c16,.slice A18 n19 c20,.slice A22 n23 c24,.slice A26 n27 c28,.slice A30 n31 c32,.slice A34 n35 c36,.slice A38 n39 c40,.slice A42 n43 c44]] [Sm w.heap.size F w [],St w []]) s:=by
      intro s hs
      refine Xmi.ind (mot:=(fun (s:(List (List Xm4)) × Int)=>∀ (A27258:Option Addr) (n27259:Nat) (c27260:Nat) (cs27261:List Value) (bs27262:List Nat) (h27263:Ow w.heap.size A27258 n27259 c27260 s.1),G (Xmv w F r) [.code Ye7,.inLoop Ye7,.inBlock 2,.code Ydg] [(1,.int .i64 x46),(3,.slice A49 n50 c51),(4,.slice A54 n55 c56),(5,.pointer (some ⟨gb58,0,none⟩)),(11,.slice A83 n84 c85),(13,.slice A112 n113 c114),(14,.slice A125 n126 c127),(15,.slice A27258 n27259 c27260),(16,.slice A3433 n3434 c3435),(17,.slice A3440 n3441 c3442),(22,.slice A21393 n21394 c21395),(23,.slice A21406 n21407 c21408),(24,.int .i64 s.2)] [Xou Xni (w.heap.size) none r81 cs87 bs88,Xou Xni (w.heap.size) none s.1 cs27261 bs27262,Xou Xni (w.heap.size) none x3432 cs3436 bs3437,Xou Xni (w.heap.size) none x3439 cs3443 bs3444,.own (.slice A21406 n21407 c21408) 39 7 n21407 (r21404.flatMap Xmd),.own (.slice A21393 n21394 c21395) 39 7 n21394 (r21391.flatMap Xmd),.own (.slice A27258 n27259 c27260) 22 1 n27259 cs27261,.own (.slice A3433 n3434 c3435) 22 1 n3434 cs3436,.own (.slice A3440 n3441 c3442) 22 1 n3441 cs3443,.own (.slice A125 n126 c127) 39 7 n126 (r123.flatMap Xmd),.own (.slice A112 n113 c114) 39 7 n113 (r110.flatMap Xmd),.own (.slice A83 n84 c85) 22 1 n84 cs87,.box gb58 58 [.string x1.name,.slice A2 n3 c4,.slice A6 n7 c8,.slice A10 n11 c12,.slice A14 n15 c16,.slice A18 n19 c20,.slice A22 n23 c24,.slice A26 n27 c28,.slice A30 n31 c32,.slice A34 n35 c36,.slice A38 n39 c40,.slice A42 n43 c44]] [Sm w.heap.size F w [],St w []])) ?_ hs
      clear hs s
      intro s o2 h hO2
      obtain ⟨x27257,x27264⟩:=s
      show ∀ (A27258:Option Addr) (n27259:Nat) (c27260:Nat) (cs27261:List Value) (bs27262:List Nat) (h27263:Ow w.heap.size A27258 n27259 c27260 x27257),G (Xmv w F r) [.code Ye7,.inLoop Ye7,.inBlock 2,.code Ydg] [(1,.int .i64 x46),(3,.slice A49 n50 c51),(4,.slice A54 n55 c56),(5,.pointer (some ⟨gb58,0,none⟩)),(11,.slice A83 n84 c85),(13,.slice A112 n113 c114),(14,.slice A125 n126 c127),(15,.slice A27258 n27259 c27260),(16,.slice A3433 n3434 c3435),(17,.slice A3440 n3441 c3442),(22,.slice A21393 n21394 c21395),(23,.slice A21406 n21407 c21408),(24,.int .i64 x27264)] [Xou Xni (w.heap.size) none r81 cs87 bs88,Xou Xni (w.heap.size) none x27257 cs27261 bs27262,Xou Xni (w.heap.size) none x3432 cs3436 bs3437,Xou Xni (w.heap.size) none x3439 cs3443 bs3444,.own (.slice A21406 n21407 c21408) 39 7 n21407 (r21404.flatMap Xmd),.own (.slice A21393 n21394 c21395) 39 7 n21394 (r21391.flatMap Xmd),.own (.slice A27258 n27259 c27260) 22 1 n27259 cs27261,.own (.slice A3433 n3434 c3435) 22 1 n3434 cs3436,.own (.slice A3440 n3441 c3442) 22 1 n3441 cs3443,.own (.slice A125 n126 c127) 39 7 n126 (r123.flatMap Xmd),.own (.slice A112 n113 c114) 39 7 n113 (r110.flatMap Xmd),.own (.slice A83 n84 c85) 22 1 n84 cs87,.box gb58 58 [.string x1.name,.slice A2 n3 c4,.slice A6 n7 c8,.slice A10 n11 c12,.slice A14 n15 c16,.slice A18 n19 c20,.slice A22 n23 c24,.slice A26 n27 c28,.slice A30 n31 c32,.slice A34 n35 c36,.slice A38 n39 c40,.slice A42 n43 c44]] [Sm w.heap.size F w [],St w []]
      intro A27258 n27259 c27260 cs27261 bs27262 h27263
      have h:Xnw x3432 x3439 r21391 r21404 r81 x48 r110 r123 x1 x46 x53 x27257 x27264 o2:=h
      unfold Xnw at h
      refine Xmb rfl<|Xmb rfl<|Xm6 rfl rfl<|Xm5 0 rfl (Xm8 rfl) gn rfl<|Xm5 1 rfl (Xm8 rfl) gn rfl<|Xm5 2 rfl (Xn0 Ya5 rfl h27263.hq) gn rfl<|Xm5 3 rfl (Xmn rfl rfl rfl) gn rfl<|Xmc 4 rfl ?_
      by_cases hp33098:x27264 < (x27257.length:Int)
      ·have h:=Xmh hp33098 h
       refine Xn3 rfl _ rfl ((decide_eq_true hp33098))<|Xn9 rfl<|Xmb rfl<|Xn8 rfl<|Xm6 rfl rfl<|Xm5 0 rfl (Xm8 rfl) gn rfl<|Xm5 1 rfl (Xm8 rfl) gn rfl ?_
       obtain ⟨hb33099,h⟩:=h
       refine Yfz (fk:=Xni) (z:=w.heap.size) (j:=1) rfl hb33099 fun A33100 n33101 c33102 h33103 ht33104 hg33105=>?_
       refine Xm5 2 rfl (Xot Xug rfl rfl h27263 hb33099) gn rfl<|Xm5 3 rfl (Xq7 (.slice A33100 n33101 c33102) 6 Xw3 rfl rfl (hg33105 0 _ rfl)) gn rfl ?_
       obtain ⟨r33111,hv33112,h⟩:=h
       obtain ⟨x33117,hv33118,h⟩:=h
       refine w_take (fk:=Xni) (z:=w.heap.size) (j:=1) rfl hb33099 ht33104 fun bs33109=>?_
       refine Xmr 4 rfl (Xmz [.slice A33100 n33101 c33102] rfl Try.func34 rfl rfl rfl fun w33106 hL33107=>?_) gn
       have hp33108:=pmI hL33107 (.c 0 rfl .n) (.c 1 rfl (.c 2 rfl (.c 3 rfl (.c 4 rfl (.c 5 rfl (.c 6 rfl (.c 7 rfl (.c 8 rfl (.c 9 rfl (.c 10 rfl (.c 11 rfl (.c 12 rfl (.c 13 rfl .n))))))))))))) (by kernel_rfl)
       refine Calls.mono (Xrt w33106 (Fl ([]:List Xmq)) (ix x27257 x27264) w.heap.size A33100 n33101 c33102 hL33107.env.size h33103 (hL33107.hFl hp33108 (Xmt [] rfl)) (hL33107.into hp33108 _) r33111 hv33112) ?_
       rintro _ w33113 ⟨rfl,hM33114,h33116⟩
       have hL33115:=hL33107.call hp33108 hM33114
       refine ⟨_,_,_,rfl,hL33115,?_⟩
       refine w_put (fk:=Xni) (z:=w.heap.size) (j0:=0) (j:=2) (q:=x27264) (by decide) rfl hb33099 rfl ht33104 r33111 h33116 rfl rfl hv33118 fun bs33119=>?_
       have h33120:Ow w.heap.size A27258 n27259 c27260 x33117:=Ow.w h27263 (by rw [hv33118,List.length_set])
       refine Xmc 5 rfl<|Xn5<|Xm6 rfl rfl<|Xm5 0 rfl (Xm8 rfl) gn rfl<|Xm5 1 rfl (Xmn rfl rfl rfl) gn rfl<|Xm5 2 rfl (Xma rfl) gn rfl<|Xmc 3 rfl<|Xnp ?_
       have ih:=Out.inl hO2 h
       exact Xng [0,1] (ih A27258 n27259 c27260 cs27261 bs33119 h33120) ⟨rfl,rfl,rfl,rfl,rfl,rfl,rfl,rfl,rfl,rfl,rfl,rfl,rfl,trivial⟩ (.cons_cons _ (.cons_cons _ (.cons_cons _ (.cons_cons _ (.cons_cons _ (.cons_cons _ (.cons_cons _ (.cons_cons _ (.cons_cons _ (.cons_cons _ (.cons_cons _ (.cons_cons _ (.cons_cons _ (.slnil)))))))))))))) rfl
      ·have h:=Xmg hp33098 h
       refine Xmp rfl _ rfl ((decide_eq_false hp33098))<|Xpw [.code Ydg] rfl rfl<|Xmb rfl<|Xmb rfl<|Xm6 rfl rfl<|Xm5 0 rfl (Xma rfl) gn rfl<|Xmc 1 rfl<|Xn8 rfl<|Xqc rfl ?_
       have key3:∀ s,Xmi (fun (s:Int) o=>Xoo x3432 x3439 r21391 r21404 r81 x48 r110 r123 x1 x46 x53 s o) s o2→(fun (s:Int)=>∀ (_:Unit),G (Xmv w F r) [.code Yc4,.inLoop Yc4,.inBlock 4,.code Ye3] [(1,.int .i64 x46),(3,.slice A49 n50 c51),(4,.slice A54 n55 c56),(5,.pointer (some ⟨gb58,0,none⟩)),(11,.slice A83 n84 c85),(13,.slice A112 n113 c114),(14,.slice A125 n126 c127),(16,.slice A3433 n3434 c3435),(17,.slice A3440 n3441 c3442),(22,.slice A21393 n21394 c21395),(23,.slice A21406 n21407 c21408),(25,.int .i64 s)] [Xou Xni (w.heap.size) none r81 cs87 bs88,Xou Xni (w.heap.size) none x3432 cs3436 bs3437,Xou Xni (w.heap.size) none x3439 cs3443 bs3444,.own (.slice A21406 n21407 c21408) 39 7 n21407 (r21404.flatMap Xmd),.own (.slice A21393 n21394 c21395) 39 7 n21394 (r21391.flatMap Xmd),.own (.slice A3433 n3434 c3435) 22 1 n3434 cs3436,.own (.slice A3440 n3441 c3442) 22 1 n3441 cs3443,.own (.slice A125 n126 c127) 39 7 n126 (r123.flatMap Xmd),.own (.slice A112 n113 c114) 39 7 n113 (r110.flatMap Xmd),.own (.slice A83 n84 c85) 22 1 n84 cs87,.box gb58 58 [.string x1.name,.slice A2 n3 c4,.slice A6 n7 c8,.slice A10 n11 c12,.slice A14 n15 c16,.slice A18 n19 c20,.slice A22 n23 c24,.slice A26 n27 c28,.slice A30 n31 c32,.slice A34 n35 c36,.slice A38 n39 c40,.slice A42 n43 c44]] [Sm w.heap.size F w [],St w []]) s:=by
        intro s hs
        refine Xmi.ind (mot:=(fun (s:Int)=>∀ (_:Unit),G (Xmv w F r) [.code Yc4,.inLoop Yc4,.inBlock 4,.code Ye3] [(1,.int .i64 x46),(3,.slice A49 n50 c51),(4,.slice A54 n55 c56),(5,.pointer (some ⟨gb58,0,none⟩)),(11,.slice A83 n84 c85),(13,.slice A112 n113 c114),(14,.slice A125 n126 c127),(16,.slice A3433 n3434 c3435),(17,.slice A3440 n3441 c3442),(22,.slice A21393 n21394 c21395),(23,.slice A21406 n21407 c21408),(25,.int .i64 s)] [Xou Xni (w.heap.size) none r81 cs87 bs88,Xou Xni (w.heap.size) none x3432 cs3436 bs3437,Xou Xni (w.heap.size) none x3439 cs3443 bs3444,.own (.slice A21406 n21407 c21408) 39 7 n21407 (r21404.flatMap Xmd),.own (.slice A21393 n21394 c21395) 39 7 n21394 (r21391.flatMap Xmd),.own (.slice A3433 n3434 c3435) 22 1 n3434 cs3436,.own (.slice A3440 n3441 c3442) 22 1 n3441 cs3443,.own (.slice A125 n126 c127) 39 7 n126 (r123.flatMap Xmd),.own (.slice A112 n113 c114) 39 7 n113 (r110.flatMap Xmd),.own (.slice A83 n84 c85) 22 1 n84 cs87,.box gb58 58 [.string x1.name,.slice A2 n3 c4,.slice A6 n7 c8,.slice A10 n11 c12,.slice A14 n15 c16,.slice A18 n19 c20,.slice A22 n23 c24,.slice A26 n27 c28,.slice A30 n31 c32,.slice A34 n35 c36,.slice A38 n39 c40,.slice A42 n43 c44]] [Sm w.heap.size F w [],St w []])) ?_ hs
        clear hs s
        intro x35058 o3 h hO3
        show ∀ (_:Unit),G (Xmv w F r) [.code Yc4,.inLoop Yc4,.inBlock 4,.code Ye3] [(1,.int .i64 x46),(3,.slice A49 n50 c51),(4,.slice A54 n55 c56),(5,.pointer (some ⟨gb58,0,none⟩)),(11,.slice A83 n84 c85),(13,.slice A112 n113 c114),(14,.slice A125 n126 c127),(16,.slice A3433 n3434 c3435),(17,.slice A3440 n3441 c3442),(22,.slice A21393 n21394 c21395),(23,.slice A21406 n21407 c21408),(25,.int .i64 x35058)] [Xou Xni (w.heap.size) none r81 cs87 bs88,Xou Xni (w.heap.size) none x3432 cs3436 bs3437,Xou Xni (w.heap.size) none x3439 cs3443 bs3444,.own (.slice A21406 n21407 c21408) 39 7 n21407 (r21404.flatMap Xmd),.own (.slice A21393 n21394 c21395) 39 7 n21394 (r21391.flatMap Xmd),.own (.slice A3433 n3434 c3435) 22 1 n3434 cs3436,.own (.slice A3440 n3441 c3442) 22 1 n3441 cs3443,.own (.slice A125 n126 c127) 39 7 n126 (r123.flatMap Xmd),.own (.slice A112 n113 c114) 39 7 n113 (r110.flatMap Xmd),.own (.slice A83 n84 c85) 22 1 n84 cs87,.box gb58 58 [.string x1.name,.slice A2 n3 c4,.slice A6 n7 c8,.slice A10 n11 c12,.slice A14 n15 c16,.slice A18 n19 c20,.slice A22 n23 c24,.slice A26 n27 c28,.slice A30 n31 c32,.slice A34 n35 c36,.slice A38 n39 c40,.slice A42 n43 c44]] [Sm w.heap.size F w [],St w []]
        intro _
        have h:Xoo x3432 x3439 r21391 r21404 r81 x48 r110 r123 x1 x46 x53 x35058 o3:=h
        unfold Xoo at h
        refine Xmb rfl<|Xmb rfl<|Xm6 rfl rfl<|Xm5 0 rfl (Xm8 rfl) gn rfl<|Xm5 1 rfl (Xm8 rfl) gn rfl<|Xm5 2 rfl (Xn0 Ya5 rfl h3438.hq) gn rfl<|Xm5 3 rfl (Xmn rfl rfl rfl) gn rfl<|Xmc 4 rfl ?_
        by_cases hp36995:x35058 < (x3432.length:Int)
        ·have h:=Xmh hp36995 h
         refine Xn3 rfl _ rfl ((decide_eq_true hp36995))<|Xn9 rfl<|Xmb rfl<|Xn8 rfl<|Xmb rfl ?_
         obtain ⟨hb36996,h⟩:=h
         obtain ⟨hb37003,h⟩:=h
         obtain ⟨r37013,hv37014,h⟩:=h
         have hns:Region.noSelect (Code.ops q6c138)=true:=by kernel_rfl
         refine Xqx [] 10 rfl rfl mix rfl (.c 0 rfl (.c 1 rfl .n))<|wfv 0 rfl (Xm8 rfl) gn hns rfl<|wfv 1 rfl (Xm8 rfl) gn hns rfl ?_
         refine Xwx (fk:=Xni) (z:=w.heap.size) (j:=1) rfl hb36996 fun A37042 n37043 c37044 h37045 ht37046 hg37047=>?_
         refine wfv 2 rfl (Xot Xug rfl rfl h3438 hb36996) gn hns rfl<|wfv 3 rfl (Xq7 (.slice A37042 n37043 c37044) 5 Xw3 rfl rfl (hg37047 0 _ rfl)) gn hns rfl<|wfv 4 rfl (Xm8 rfl) gn hns rfl<|wfv 5 rfl (Xm8 rfl) gn hns rfl ?_
         refine Xwx (fk:=Xni) (z:=w.heap.size) (j:=2) rfl hb37003 fun A37048 n37049 c37050 h37051 ht37052 hg37053=>?_
         refine wfv 6 rfl (Xot Xug rfl rfl h3445 hb37003) gn hns rfl<|wfv 7 rfl (Xq7 (.slice A37048 n37049 c37050) 6 Xw3 rfl rfl (hg37053 0 _ rfl)) gn hns rfl ?_
         refine Xnk [8] (by kernel_rfl) rfl ⟨Xqy 8 rfl gn rfl (Xmz [.slice A37042 n37043 c37044,.slice A37048 n37049 c37050] rfl Try.func27 rfl rfl rfl fun w37060 hL37061=>?_),trivial⟩
         have hp37062:=pmI hL37061 .n (.c 0 rfl (.c 1 rfl (.c 2 rfl (.c 3 rfl (.c 4 rfl (.c 5 rfl (.c 6 rfl (.c 7 rfl (.c 8 rfl (.c 9 rfl (.c 10 rfl .n))))))))))) (by kernel_rfl)
         refine Calls.mono (Xoj w37060 (Fl ([]:List Xmq)) (ix x3432 x35058) (ix x3439 x35058) A37042 n37043 c37044 A37048 n37049 c37050 (hL37061.argF (fk:=Xni) (z:=w.heap.size) hp37062 [] rfl 1 rfl rfl hb36996 ht37046 h37045) (hL37061.argF (fk:=Xni) (z:=w.heap.size) hp37062 [] rfl 2 rfl rfl hb37003 ht37052 h37051) (hL37061.hFl hp37062 (Xmt [] rfl)) (hL37061.into hp37062 _) r37013 hv37014) ?_
         rintro _ w37063 ⟨rfl,hM37064⟩
         have hL37065:=hL37061.call hp37062 hM37064
         refine ⟨_,_,_,rfl,hL37065,?_⟩
         refine ⟨Xmt [0,1,2,3,4,5,6,7,8,9,10] rfl,Xmt [0,1] rfl,?_⟩
         refine wfv 9 rfl (Xma rfl) gn hns rfl<|Xq0 (by kernel_rfl)<|Xmb rfl<|Xm6 rfl rfl<|Xm5 0 rfl (Xm8 rfl) gn rfl<|Xm5 1 rfl (Xuv rfl) gn rfl<|Xmc 2 rfl ?_
         by_cases hp37066:r37013=true
         ·have h:=Xmh hp37066 h
          refine Xmp rfl _ rfl ((nf hp37066))<|Xn9 rfl<|Xn5<|Xm6 rfl rfl<|Xm5 0 rfl (Xm8 rfl) gn rfl<|Xm5 1 rfl (Xmn rfl rfl rfl) gn rfl<|Xm5 2 rfl (Xma rfl) gn rfl<|Xmc 3 rfl<|Xnp ?_
          have ih:=Out.inl hO3 h
          exact Xng [0,1] (ih ()) ⟨rfl,rfl,rfl,rfl,rfl,rfl,rfl,rfl,rfl,rfl,rfl,rfl,trivial⟩ (.cons_cons _ (.cons_cons _ (.cons_cons _ (.cons_cons _ (.cons_cons _ (.cons_cons _ (.cons_cons _ (.cons_cons _ (.cons_cons _ (.cons_cons _ (.cons_cons _ (.slnil)))))))))))) rfl
         ·have h:=Xmg hp37066 h
          refine Xn3 rfl _ rfl ((nt (bf hp37066)))<|Xmb rfl<|Xm6 rfl rfl<|Xm5 0 rfl (Xma rfl) gn rfl<|Xmc 1 rfl ?_
          have h:=Out.inr hO3 h
          have h:=Out.inr hO2 h
          have h:=Out.inr hO1 h
          refine Xmu [.bool false] rfl Try.func6 rfl (.tmp rfl (.nil)) fun wr hLr=>?_
          have hMr:=hLr.pk0 (.c 1 rfl .n)
          show Xnb w F  r (.returned (Xn4 [.bool false])) wr
          rw [h]
          exact ⟨rfl,hMr⟩
        ·have h:=Xmg hp36995 h
         refine Xmp rfl _ rfl ((decide_eq_false hp36995))<|Xpw [.code Ye3] rfl rfl<|Xmb rfl<|Xm6 rfl rfl<|Xm5 0 rfl (Xm8 rfl) gn rfl<|Xm5 1 rfl (Xm8 rfl) gn rfl ?_
         obtain ⟨r37070,hv37071,h⟩:=h
         refine Xmr 2 rfl (Xmz [.slice A21393 n21394 c21395,.slice A21406 n21407 c21408] rfl Try.func27 rfl rfl rfl fun w37067 hL37068=>?_) gn
         have hp37069:=pmI hL37068 .n (.c 0 rfl (.c 1 rfl (.c 2 rfl (.c 3 rfl (.c 4 rfl (.c 5 rfl (.c 6 rfl (.c 7 rfl (.c 8 rfl (.c 9 rfl (.c 10 rfl .n))))))))))) (by kernel_rfl)
         refine Calls.mono (Xoj w37067 (Fl ([]:List Xmq)) r21391 r21404 A21393 n21394 c21395 A21406 n21407 c21408 (hL37068.argO (dk:=Xml) hp37069 [] rfl 4 rfl rfl (Ow.weak hL21389.env.size h21396) (me 0 rfl) (Cells.flat _)) (hL37068.argO (dk:=Xml) hp37069 [] rfl 3 rfl rfl (Ow.weak hL21402.env.size h21409) (me 0 rfl) (Cells.flat _)) (hL37068.hFl hp37069 (Xmt [] rfl)) (hL37068.into hp37069 _) r37070 hv37071) ?_
         rintro _ w37072 ⟨rfl,hM37073⟩
         have hL37074:=hL37068.call hp37069 hM37073
         refine ⟨_,_,_,rfl,hL37074,?_⟩
         refine Xm5 3 rfl (Xma rfl) gn rfl<|Xmc 4 rfl<|Xmb rfl<|Xmb rfl<|Xm6 rfl rfl<|Xm5 0 rfl (Xm8 rfl) gn rfl<|Xm5 1 rfl (Xuv rfl) gn rfl<|Xmc 2 rfl ?_
         by_cases hp37075:r37070=true
         ·have h:=Xmh hp37075 h
          refine Xmp rfl _ rfl ((nf hp37075))<|Xn9 rfl<|Xmb rfl<|Xmb rfl<|Xm6 rfl rfl<|Xm5 0 rfl (Xma rfl) gn rfl<|Xmc 1 rfl<|Xn8 rfl<|Xqc rfl ?_
          have key4:∀ s,Xmi (fun (s:Int) o=>Xon r81 x48 r110 r123 x1 x46 x53 s o) s o3→(fun (s:Int)=>∀ (_:Unit),G (Xmv w F r) [.code Ycm,.inLoop Ycm,.inBlock 6,.code Ydm] [(1,.int .i64 x46),(3,.slice A49 n50 c51),(4,.slice A54 n55 c56),(5,.pointer (some ⟨gb58,0,none⟩)),(11,.slice A83 n84 c85),(13,.slice A112 n113 c114),(14,.slice A125 n126 c127),(28,.int .i64 s)] [Xou Xni (w.heap.size) none r81 cs87 bs88,.own (.slice A125 n126 c127) 39 7 n126 (r123.flatMap Xmd),.own (.slice A112 n113 c114) 39 7 n113 (r110.flatMap Xmd),.own (.slice A83 n84 c85) 22 1 n84 cs87,.box gb58 58 [.string x1.name,.slice A2 n3 c4,.slice A6 n7 c8,.slice A10 n11 c12,.slice A14 n15 c16,.slice A18 n19 c20,.slice A22 n23 c24,.slice A26 n27 c28,.slice A30 n31 c32,.slice A34 n35 c36,.slice A38 n39 c40,.slice A42 n43 c44]] [Sm w.heap.size F w [],St w []]) s:=by
           intro s hs
           refine Xmi.ind (mot:=(fun (s:Int)=>∀ (_:Unit),G (Xmv w F r) [.code Ycm,.inLoop Ycm,.inBlock 6,.code Ydm] [(1,.int .i64 x46),(3,.slice A49 n50 c51),(4,.slice A54 n55 c56),(5,.pointer (some ⟨gb58,0,none⟩)),(11,.slice A83 n84 c85),(13,.slice A112 n113 c114),(14,.slice A125 n126 c127),(28,.int .i64 s)] [Xou Xni (w.heap.size) none r81 cs87 bs88,.own (.slice A125 n126 c127) 39 7 n126 (r123.flatMap Xmd),.own (.slice A112 n113 c114) 39 7 n113 (r110.flatMap Xmd),.own (.slice A83 n84 c85) 22 1 n84 cs87,.box gb58 58 [.string x1.name,.slice A2 n3 c4,.slice A6 n7 c8,.slice A10 n11 c12,.slice A14 n15 c16,.slice A18 n19 c20,.slice A22 n23 c24,.slice A26 n27 c28,.slice A30 n31 c32,.slice A34 n35 c36,.slice A38 n39 c40,.slice A42 n43 c44]] [Sm w.heap.size F w [],St w []])) ?_ hs
           clear hs s
           intro x37528 o4 h hO4
           show ∀ (_:Unit),G (Xmv w F r) [.code Ycm,.inLoop Ycm,.inBlock 6,.code Ydm] [(1,.int .i64 x46),(3,.slice A49 n50 c51),(4,.slice A54 n55 c56),(5,.pointer (some ⟨gb58,0,none⟩)),(11,.slice A83 n84 c85),(13,.slice A112 n113 c114),(14,.slice A125 n126 c127),(28,.int .i64 x37528)] [Xou Xni (w.heap.size) none r81 cs87 bs88,.own (.slice A125 n126 c127) 39 7 n126 (r123.flatMap Xmd),.own (.slice A112 n113 c114) 39 7 n113 (r110.flatMap Xmd),.own (.slice A83 n84 c85) 22 1 n84 cs87,.box gb58 58 [.string x1.name,.slice A2 n3 c4,.slice A6 n7 c8,.slice A10 n11 c12,.slice A14 n15 c16,.slice A18 n19 c20,.slice A22 n23 c24,.slice A26 n27 c28,.slice A30 n31 c32,.slice A34 n35 c36,.slice A38 n39 c40,.slice A42 n43 c44]] [Sm w.heap.size F w [],St w []]
           intro _
           have h:Xon r81 x48 r110 r123 x1 x46 x53 x37528 o4:=h
           unfold Xon at h
           refine Xmb rfl<|Xmb rfl<|Xm6 rfl rfl<|Xm5 0 rfl (Xm8 rfl) gn rfl<|Xm5 1 rfl (Xm8 rfl) gn rfl<|Xm5 2 rfl (Xn0 Ya5 rfl (Ow.weak hL79.env.size h86).hq) gn rfl<|Xm5 3 rfl (Xmn rfl rfl rfl) gn rfl<|Xmc 4 rfl ?_
           by_cases hp38230:x37528 < (r81.length:Int)
           ·have h:=Xmh hp38230 h
            refine Xn3 rfl _ rfl ((decide_eq_true hp38230))<|Xn9 rfl<|Xmb rfl<|Xn8 rfl<|Xmb rfl ?_
            obtain ⟨hb38231,h⟩:=h
            obtain ⟨hb38238,h⟩:=h
            obtain ⟨r38249,hv38250,h⟩:=h
            have hns:Region.noSelect (Code.ops q6c149)=true:=by kernel_rfl
            refine Xqx [] 10 rfl rfl mix rfl (.c 0 rfl (.c 1 rfl .n))<|wfv 0 rfl (Xm8 rfl) gn hns rfl<|wfv 1 rfl (Xm8 rfl) gn hns rfl ?_
            refine Xwx (fk:=Xni) (z:=w.heap.size) (j:=0) rfl hb38231 fun A38279 n38280 c38281 h38282 ht38283 hg38284=>?_
            refine wfv 2 rfl (Xot Xug rfl rfl (Ow.weak hL79.env.size h86) hb38231) gn hns rfl<|wfv 3 rfl (Xq7 (.slice A38279 n38280 c38281) 3 Xw3 rfl rfl (hg38284 0 _ rfl)) gn hns rfl<|wfv 4 rfl (Xm8 rfl) gn hns rfl<|wfv 5 rfl (Xm8 rfl) gn hns rfl ?_
            obtain ⟨ce38286,hK38287,hr38285⟩:=Rw.read (s:=St w []) h52 hb38238
            obtain ⟨A38288,n38289,c38290,rfl,h38291⟩:=hK38287
            refine wfv 6 rfl (Xoc (s:=St w []) Xug rfl rfl h52 hb38238) gn hns rfl<|wfv 7 rfl (Xpo (kk:=(x37528:Int).toNat * 1) (j:=0) (St w []) Xw3 rfl hr38285 rfl (me 1 rfl)) gn hns rfl ?_
            refine Xnk [8] (by kernel_rfl) rfl ⟨Xqy 8 rfl gn rfl (Xmz [.slice A38279 n38280 c38281,.slice A38288 n38289 c38290] rfl Try.func27 rfl rfl rfl fun w38298 hL38299=>?_),trivial⟩
            have hp38300:=pmI hL38299 .n (.c 0 rfl (.c 1 rfl (.c 2 rfl (.c 3 rfl (.c 4 rfl .n))))) (by kernel_rfl)
            refine Calls.mono (Xoj w38298 (Fl ([]:List Xmq)) (ix r81 x37528) (ix x48 x37528) A38279 n38280 c38281 A38288 n38289 c38290 (hL38299.argF (fk:=Xni) (z:=w.heap.size) hp38300 [] rfl 0 rfl rfl hb38231 ht38283 h38282) (Rw.mono h38291 (hL38299.toSt hp38300 (me 1 rfl))) (hL38299.hFl hp38300 (Xmt [] rfl)) (hL38299.into hp38300 _) r38249 hv38250) ?_
            rintro _ w38301 ⟨rfl,hM38302⟩
            have hL38303:=hL38299.call hp38300 hM38302
            refine ⟨_,_,_,rfl,hL38303,?_⟩
            refine ⟨Xmt [0,1,2,3,4] rfl,Xmt [0,1] rfl,?_⟩
            refine wfv 9 rfl (Xma rfl) gn hns rfl<|Xq0 (by kernel_rfl)<|Xmb rfl<|Xm6 rfl rfl<|Xm5 0 rfl (Xm8 rfl) gn rfl<|Xm5 1 rfl (Xuv rfl) gn rfl<|Xmc 2 rfl ?_
            by_cases hp38304:r38249=true
            ·have h:=Xmh hp38304 h
             refine Xmp rfl _ rfl ((nf hp38304))<|Xn9 rfl<|Xn5<|Xm6 rfl rfl<|Xm5 0 rfl (Xm8 rfl) gn rfl<|Xm5 1 rfl (Xmn rfl rfl rfl) gn rfl<|Xm5 2 rfl (Xma rfl) gn rfl<|Xmc 3 rfl<|Xnp ?_
             have ih:=Out.inl hO4 h
             exact Xng [0,1] (ih ()) ⟨rfl,rfl,rfl,rfl,rfl,rfl,rfl,rfl,trivial⟩ (.cons_cons _ (.cons_cons _ (.cons_cons _ (.cons_cons _ (.cons_cons _ (.slnil)))))) rfl
            ·have h:=Xmg hp38304 h
             refine Xn3 rfl _ rfl ((nt (bf hp38304)))<|Xmb rfl<|Xm6 rfl rfl<|Xm5 0 rfl (Xma rfl) gn rfl<|Xmc 1 rfl ?_
             have h:=Out.inr hO4 h
             have h:=Out.inr hO3 h
             have h:=Out.inr hO2 h
             have h:=Out.inr hO1 h
             refine Xmu [.bool false] rfl Try.func6 rfl (.tmp rfl (.nil)) fun wr hLr=>?_
             have hMr:=hLr.pk0 (.c 1 rfl .n)
             show Xnb w F  r (.returned (Xn4 [.bool false])) wr
             rw [h]
             exact ⟨rfl,hMr⟩
           ·have h:=Xmg hp38230 h
            refine Xmp rfl _ rfl ((decide_eq_false hp38230))<|Xpw [.code Ydm] rfl rfl<|Xmb rfl<|Xm6 rfl rfl<|Xm5 0 rfl (Xm8 rfl) gn rfl<|Xm5 1 rfl (Xm8 rfl) gn rfl ?_
            obtain ⟨r38308,hv38309,h⟩:=h
            refine Xmr 2 rfl (Xmz [.slice A112 n113 c114,.slice A125 n126 c127] rfl Try.func27 rfl rfl rfl fun w38305 hL38306=>?_) gn
            have hp38307:=pmI hL38306 .n (.c 0 rfl (.c 1 rfl (.c 2 rfl (.c 3 rfl (.c 4 rfl .n))))) (by kernel_rfl)
            refine Calls.mono (Xoj w38305 (Fl ([]:List Xmq)) r110 r123 A112 n113 c114 A125 n126 c127 (hL38306.argO (dk:=Xml) hp38307 [] rfl 2 rfl rfl (Ow.weak hL108.env.size h115) (me 0 rfl) (Cells.flat _)) (hL38306.argO (dk:=Xml) hp38307 [] rfl 1 rfl rfl (Ow.weak hL121.env.size h128) (me 0 rfl) (Cells.flat _)) (hL38306.hFl hp38307 (Xmt [] rfl)) (hL38306.into hp38307 _) r38308 hv38309) ?_
            rintro _ w38310 ⟨rfl,hM38311⟩
            have hL38312:=hL38306.call hp38307 hM38311
            refine ⟨_,_,_,rfl,hL38312,?_⟩
            refine Xm5 3 rfl (Xma rfl) gn rfl<|Xmc 4 rfl<|Xmb rfl<|Xm6 rfl rfl<|Xm5 0 rfl (Xqa [.string x1.name,.slice A2 n3 c4,.slice A6 n7 c8,.slice A10 n11 c12,.slice A14 n15 c16,.slice A18 n19 c20,.slice A22 n23 c24,.slice A26 n27 c28,.slice A30 n31 c32,.slice A34 n35 c36,.slice A38 n39 c40,.slice A42 n43 c44] 4 Xxu rfl rfl rfl rfl) gn rfl<|Xm5 1 rfl (Xm8 rfl) gn rfl<|Xm5 2 rfl (Xm8 rfl) gn rfl<|Xm5 3 rfl (Xm8 rfl) gn rfl ?_
            obtain ⟨r38316,hv38317,h⟩:=h
            refine Xmr 4 rfl (Xmz [.agg #[.string x1.name,.slice A2 n3 c4,.slice A6 n7 c8,.slice A10 n11 c12,.slice A14 n15 c16,.slice A18 n19 c20,.slice A22 n23 c24,.slice A26 n27 c28,.slice A30 n31 c32,.slice A34 n35 c36,.slice A38 n39 c40,.slice A42 n43 c44],.int .i64 x46,.slice A83 n84 c85,.slice A54 n55 c56] rfl Try.func32 rfl rfl rfl fun w38313 hL38314=>?_) gn
            have hp38315:=pmI hL38314 .n (.c 0 rfl (.c 1 rfl (.c 2 rfl (.c 3 rfl (.c 4 rfl .n))))) (by kernel_rfl)
            refine Calls.mono (Xqp w38313 (Fl ([]:List Xmq)) x1 x46 r81 x53 A2 n3 c4 A6 n7 c8 A10 n11 c12 A14 n15 c16 A18 n19 c20 A22 n23 c24 A26 n27 c28 A30 n31 c32 A34 n35 c36 A38 n39 c40 A42 n43 c44 A83 n84 c85 A54 n55 c56 (Rw.mono h5 (hL38314.toSt hp38315 (me 1 rfl))) (Rw.mono h9 (hL38314.toSt hp38315 (me 1 rfl))) (Rw.mono h13 (hL38314.toSt hp38315 (me 1 rfl))) (Rw.mono h17 (hL38314.toSt hp38315 (me 1 rfl))) (Rw.mono h21 (hL38314.toSt hp38315 (me 1 rfl))) (Rw.mono h25 (hL38314.toSt hp38315 (me 1 rfl))) (Rw.mono h29 (hL38314.toSt hp38315 (me 1 rfl))) (Rw.mono h33 (hL38314.toSt hp38315 (me 1 rfl))) (Rw.mono h37 (hL38314.toSt hp38315 (me 1 rfl))) (Rw.mono h41 (hL38314.toSt hp38315 (me 1 rfl))) (Rw.mono h45 (hL38314.toSt hp38315 (me 1 rfl))) (hL38314.argFam (fk:=Xni) (dk:=(Kd.slice Xml)) hp38315 [] rfl 3 0 rfl rfl rfl rfl (Ow.weak hL79.env.size h86) (fun _ _ _ _ h=>⟨_,_,_,rfl,h⟩)) (Rw.mono h57 (hL38314.toSt hp38315 (me 1 rfl))) (hL38314.hFl hp38315 (Xmt [] rfl)) (hL38314.into hp38315 _) r38316 hv38317) ?_
            rintro _ w38323 ⟨A38318,n38319,c38320,rfl,hM38324,h38321⟩
            have hL38325:=hL38314.call hp38315 hM38324
            refine ⟨_,_,_,rfl,hL38325,?_⟩
            refine Xm5 5 rfl (Xma rfl) gn rfl<|Xmc 6 rfl<|Xmb rfl<|Xm6 rfl rfl<|Xm5 0 rfl (Xm8 rfl) gn rfl<|Xm5 1 rfl (Xm8 rfl) gn rfl ?_
            obtain ⟨r38329,hv38330,h⟩:=h
            refine Xmr 2 rfl (Xmz [.slice A38318 n38319 c38320,.slice A125 n126 c127] rfl Try.func27 rfl rfl rfl fun w38326 hL38327=>?_) gn
            have hp38328:=pmI hL38327 .n (.c 0 rfl (.c 1 rfl (.c 2 rfl (.c 3 rfl (.c 4 rfl (.c 5 rfl .n)))))) (by kernel_rfl)
            refine Calls.mono (Xoj w38326 (Fl ([]:List Xmq)) r38316 r123 A38318 n38319 c38320 A125 n126 c127 (hL38327.argO (dk:=Xml) hp38328 [] rfl 0 rfl rfl (Ow.weak hL38314.env.size h38321) (me 0 rfl) (Cells.flat _)) (hL38327.argO (dk:=Xml) hp38328 [] rfl 2 rfl rfl (Ow.weak hL121.env.size h128) (me 0 rfl) (Cells.flat _)) (hL38327.hFl hp38328 (Xmt [] rfl)) (hL38327.into hp38328 _) r38329 hv38330) ?_
            rintro _ w38331 ⟨rfl,hM38332⟩
            have hL38333:=hL38327.call hp38328 hM38332
            refine ⟨_,_,_,rfl,hL38333,?_⟩
            refine Xm5 3 rfl (Xma rfl) gn rfl<|Xmc 4 rfl<|Xmb rfl<|Xmb rfl<|Xm6 rfl rfl<|Xm5 0 rfl (Xma rfl) gn rfl<|Xmc 1 rfl<|Xn8 rfl<|Xqc rfl ?_
            have key5:∀ s,Xmi (fun (s:(List (List Xm4)) × Int) o=>Xnx r110 r123 x1 x46 x53 r38308 r38329 s.1 s.2 o) s o4→(fun (s:(List (List Xm4)) × Int)=>∀ (A38532:Option Addr) (n38533:Nat) (c38534:Nat) (cs38535:List Value) (bs38536:List Nat) (h38537:Ow w.heap.size A38532 n38533 c38534 s.1),G (Xmv w F r) [.code Yb0,.inLoop Yb0,.inBlock 8,.code Yco] [(1,.int .i64 x46),(4,.slice A54 n55 c56),(5,.pointer (some ⟨gb58,0,none⟩)),(11,.slice A38532 n38533 c38534),(13,.slice A112 n113 c114),(14,.slice A125 n126 c127),(30,.bool r38308),(32,.bool r38329),(33,.int .i64 s.2)] [Xou Xni (w.heap.size) none s.1 cs38535 bs38536,.own (.slice A125 n126 c127) 39 7 n126 (r123.flatMap Xmd),.own (.slice A112 n113 c114) 39 7 n113 (r110.flatMap Xmd),.own (.slice A38532 n38533 c38534) 22 1 n38533 cs38535,.box gb58 58 [.string x1.name,.slice A2 n3 c4,.slice A6 n7 c8,.slice A10 n11 c12,.slice A14 n15 c16,.slice A18 n19 c20,.slice A22 n23 c24,.slice A26 n27 c28,.slice A30 n31 c32,.slice A34 n35 c36,.slice A38 n39 c40,.slice A42 n43 c44]] [Sm w.heap.size F w [],St w []]) s:=by
             intro s hs
             refine Xmi.ind (mot:=(fun (s:(List (List Xm4)) × Int)=>∀ (A38532:Option Addr) (n38533:Nat) (c38534:Nat) (cs38535:List Value) (bs38536:List Nat) (h38537:Ow w.heap.size A38532 n38533 c38534 s.1),G (Xmv w F r) [.code Yb0,.inLoop Yb0,.inBlock 8,.code Yco] [(1,.int .i64 x46),(4,.slice A54 n55 c56),(5,.pointer (some ⟨gb58,0,none⟩)),(11,.slice A38532 n38533 c38534),(13,.slice A112 n113 c114),(14,.slice A125 n126 c127),(30,.bool r38308),(32,.bool r38329),(33,.int .i64 s.2)] [Xou Xni (w.heap.size) none s.1 cs38535 bs38536,.own (.slice A125 n126 c127) 39 7 n126 (r123.flatMap Xmd),.own (.slice A112 n113 c114) 39 7 n113 (r110.flatMap Xmd),.own (.slice A38532 n38533 c38534) 22 1 n38533 cs38535,.box gb58 58 [.string x1.name,.slice A2 n3 c4,.slice A6 n7 c8,.slice A10 n11 c12,.slice A14 n15 c16,.slice A18 n19 c20,.slice A22 n23 c24,.slice A26 n27 c28,.slice A30 n31 c32,.slice A34 n35 c36,.slice A38 n39 c40,.slice A42 n43 c44]] [Sm w.heap.size F w [],St w []])) ?_ hs
             clear hs s
             intro s o5 h hO5
             obtain ⟨x38531,x38538⟩:=s
             show ∀ (A38532:Option Addr) (n38533:Nat) (c38534:Nat) (cs38535:List Value) (bs38536:List Nat) (h38537:Ow w.heap.size A38532 n38533 c38534 x38531),G (Xmv w F r) [.code Yb0,.inLoop Yb0,.inBlock 8,.code Yco] [(1,.int .i64 x46),(4,.slice A54 n55 c56),(5,.pointer (some ⟨gb58,0,none⟩)),(11,.slice A38532 n38533 c38534),(13,.slice A112 n113 c114),(14,.slice A125 n126 c127),(30,.bool r38308),(32,.bool r38329),(33,.int .i64 x38538)] [Xou Xni (w.heap.size) none x38531 cs38535 bs38536,.own (.slice A125 n126 c127) 39 7 n126 (r123.flatMap Xmd),.own (.slice A112 n113 c114) 39 7 n113 (r110.flatMap Xmd),.own (.slice A38532 n38533 c38534) 22 1 n38533 cs38535,.box gb58 58 [.string x1.name,.slice A2 n3 c4,.slice A6 n7 c8,.slice A10 n11 c12,.slice A14 n15 c16,.slice A18 n19 c20,.slice A22 n23 c24,.slice A26 n27 c28,.slice A30 n31 c32,.slice A34 n35 c36,.slice A38 n39 c40,.slice A42 n43 c44]] [Sm w.heap.size F w [],St w []]
             intro A38532 n38533 c38534 cs38535 bs38536 h38537
             have h:Xnx r110 r123 x1 x46 x53 r38308 r38329 x38531 x38538 o5:=h
             unfold Xnx at h
             refine Xmb rfl<|Xmb rfl<|Xm6 rfl rfl<|Xm5 0 rfl (Xm8 rfl) gn rfl<|Xm5 1 rfl (Xm8 rfl) gn rfl<|Xm5 2 rfl (Xn0 Ya5 rfl h38537.hq) gn rfl<|Xm5 3 rfl (Xmn rfl rfl rfl) gn rfl<|Xmc 4 rfl ?_
             by_cases hp38735:x38538 < (x38531.length:Int)
             ·have h:=Xmh hp38735 h
              refine Xn3 rfl _ rfl ((decide_eq_true hp38735))<|Xn9 rfl<|Xmb rfl<|Xn8 rfl<|Xm6 rfl rfl<|Xm5 0 rfl (Xm8 rfl) gn rfl<|Xm5 1 rfl (Xm8 rfl) gn rfl ?_
              obtain ⟨hb38736,h⟩:=h
              refine Yfz (fk:=Xni) (z:=w.heap.size) (j:=0) rfl hb38736 fun A38737 n38738 c38739 h38740 ht38741 hg38742=>?_
              refine Xm5 2 rfl (Xot Xug rfl rfl h38537 hb38736) gn rfl<|Xm5 3 rfl (Xq7 (.slice A38737 n38738 c38739) 3 Xw3 rfl rfl (hg38742 0 _ rfl)) gn rfl ?_
              obtain ⟨r38748,hv38749,h⟩:=h
              obtain ⟨x38754,hv38755,h⟩:=h
              refine w_take (fk:=Xni) (z:=w.heap.size) (j:=0) rfl hb38736 ht38741 fun bs38746=>?_
              refine Xmr 4 rfl (Xmz [.slice A38737 n38738 c38739] rfl Try.func34 rfl rfl rfl fun w38743 hL38744=>?_) gn
              have hp38745:=pmI hL38744 (.c 0 rfl .n) (.c 1 rfl (.c 2 rfl (.c 3 rfl (.c 4 rfl (.c 5 rfl .n))))) (by kernel_rfl)
              refine Calls.mono (Xrt w38743 (Fl ([]:List Xmq)) (ix x38531 x38538) w.heap.size A38737 n38738 c38739 hL38744.env.size h38740 (hL38744.hFl hp38745 (Xmt [] rfl)) (hL38744.into hp38745 _) r38748 hv38749) ?_
              rintro _ w38750 ⟨rfl,hM38751,h38753⟩
              have hL38752:=hL38744.call hp38745 hM38751
              refine ⟨_,_,_,rfl,hL38752,?_⟩
              refine w_put (fk:=Xni) (z:=w.heap.size) (j0:=0) (j:=1) (q:=x38538) (by decide) rfl hb38736 rfl ht38741 r38748 h38753 rfl rfl hv38755 fun bs38756=>?_
              have h38757:Ow w.heap.size A38532 n38533 c38534 x38754:=Ow.w h38537 (by rw [hv38755,List.length_set])
              refine Xmc 5 rfl<|Xn5<|Xm6 rfl rfl<|Xm5 0 rfl (Xm8 rfl) gn rfl<|Xm5 1 rfl (Xmn rfl rfl rfl) gn rfl<|Xm5 2 rfl (Xma rfl) gn rfl<|Xmc 3 rfl<|Xnp ?_
              have ih:=Out.inl hO5 h
              exact Xng [0,1] (ih A38532 n38533 c38534 cs38535 bs38756 h38757) ⟨rfl,rfl,rfl,rfl,rfl,rfl,rfl,rfl,rfl,trivial⟩ (.cons_cons _ (.cons_cons _ (.cons_cons _ (.cons_cons _ (.cons_cons _ (.slnil)))))) rfl
             ·have h:=Xmg hp38735 h
              refine Xmp rfl _ rfl ((decide_eq_false hp38735))<|Xpw [.code Yco] rfl rfl<|Xmb rfl<|Xm6 rfl rfl<|Xm5 0 rfl (Xm8 rfl) gn rfl<|Xm5 1 rfl (Xm8 rfl) gn rfl ?_
              obtain ⟨r38761,hv38762,h⟩:=h
              refine Xmr 2 rfl (Xmz [.slice A112 n113 c114,.slice A125 n126 c127] rfl Try.func27 rfl rfl rfl fun w38758 hL38759=>?_) gn
              have hp38760:=pmI hL38759 .n (.c 0 rfl (.c 1 rfl (.c 2 rfl (.c 3 rfl (.c 4 rfl .n))))) (by kernel_rfl)
              refine Calls.mono (Xoj w38758 (Fl ([]:List Xmq)) r110 r123 A112 n113 c114 A125 n126 c127 (hL38759.argO (dk:=Xml) hp38760 [] rfl 2 rfl rfl (Ow.weak hL108.env.size h115) (me 0 rfl) (Cells.flat _)) (hL38759.argO (dk:=Xml) hp38760 [] rfl 1 rfl rfl (Ow.weak hL121.env.size h128) (me 0 rfl) (Cells.flat _)) (hL38759.hFl hp38760 (Xmt [] rfl)) (hL38759.into hp38760 _) r38761 hv38762) ?_
              rintro _ w38763 ⟨rfl,hM38764⟩
              have hL38765:=hL38759.call hp38760 hM38764
              refine ⟨_,_,_,rfl,hL38765,?_⟩
              refine Xm5 3 rfl (Xma rfl) gn rfl<|Xmc 4 rfl<|Xmb rfl ?_
              obtain ⟨r38769,hv38770,h⟩:=h
              obtain ⟨r38785,hv38786,h⟩:=h
              have hns:Region.noSelect (Code.ops q6c122)=true:=by kernel_rfl
              refine Xqx [] 7 rfl rfl mix rfl (.c 0 rfl (.c 1 rfl .n))<|wfv 0 rfl (Xqa [.string x1.name,.slice A2 n3 c4,.slice A6 n7 c8,.slice A10 n11 c12,.slice A14 n15 c16,.slice A18 n19 c20,.slice A22 n23 c24,.slice A26 n27 c28,.slice A30 n31 c32,.slice A34 n35 c36,.slice A38 n39 c40,.slice A42 n43 c44] 4 Xxu rfl rfl rfl rfl) gn hns rfl<|wfv 1 rfl (Xm8 rfl) gn hns rfl<|wfv 2 rfl (Xm8 rfl) gn hns rfl<|wfv 4 rfl (Xm8 rfl) gn hns rfl ?_
              refine Xnk [3] (by kernel_rfl) rfl ⟨Xqy 3 rfl gn rfl (Xmz [.slice A38532 n38533 c38534] rfl Try.func29 rfl rfl rfl fun w38875 hL38876=>?_),trivial⟩
              have hp38877:=pmI hL38876 .n (.c 0 rfl (.c 1 rfl (.c 2 rfl (.c 3 rfl (.c 4 rfl .n))))) (by kernel_rfl)
              refine Calls.mono (Xsl w38875 (Fl ([]:List Xmq)) x38531 A38532 n38533 c38534 (hL38876.argFam (fk:=Xni) (dk:=(Kd.slice Xml)) hp38877 [] rfl 3 0 rfl rfl rfl rfl h38537 (fun _ _ _ _ h=>⟨_,_,_,rfl,h⟩)) (hL38876.hFl hp38877 (Xmt [] rfl)) (hL38876.into hp38877 _) r38769 hv38770) ?_
              rintro _ w38884 ⟨A38878,n38879,c38880,cs38882,bs38883,rfl,hM38885,h38881⟩
              have hL38886:=hL38876.call hp38877 hM38885
              refine ⟨_,_,_,rfl,hL38886,?_⟩
              refine ⟨Xmt [2,3,4,5,6] rfl,Xmt [0,1] rfl,?_⟩
              refine wf_famz (fk:=Xni) (z':=w.heap.size) (j:=1) hL38876.env.size rfl ?_
              refine Xnk [5] (by kernel_rfl) rfl ⟨Xqy 5 rfl gn rfl (Xmz [.agg #[.string x1.name,.slice A2 n3 c4,.slice A6 n7 c8,.slice A10 n11 c12,.slice A14 n15 c16,.slice A18 n19 c20,.slice A22 n23 c24,.slice A26 n27 c28,.slice A30 n31 c32,.slice A34 n35 c36,.slice A38 n39 c40,.slice A42 n43 c44],.int .i64 x46,.slice A38878 n38879 c38880,.slice A54 n55 c56] rfl Try.func35 rfl rfl rfl fun w38897 hL38898=>?_),trivial⟩
              have hp38899:=pmI hL38898 .n (.c 0 rfl (.c 1 rfl (.c 2 rfl (.c 3 rfl (.c 4 rfl (.c 5 rfl (.c 6 rfl .n))))))) (by kernel_rfl)
              refine Calls.mono (Xvw w38897 (Fl ([]:List Xmq)) x1 x46 r38769 x53 A2 n3 c4 A6 n7 c8 A10 n11 c12 A14 n15 c16 A18 n19 c20 A22 n23 c24 A26 n27 c28 A30 n31 c32 A34 n35 c36 A38 n39 c40 A42 n43 c44 A38878 n38879 c38880 A54 n55 c56 (Rw.mono h5 (hL38898.toSt hp38899 (me 1 rfl))) (Rw.mono h9 (hL38898.toSt hp38899 (me 1 rfl))) (Rw.mono h13 (hL38898.toSt hp38899 (me 1 rfl))) (Rw.mono h17 (hL38898.toSt hp38899 (me 1 rfl))) (Rw.mono h21 (hL38898.toSt hp38899 (me 1 rfl))) (Rw.mono h25 (hL38898.toSt hp38899 (me 1 rfl))) (Rw.mono h29 (hL38898.toSt hp38899 (me 1 rfl))) (Rw.mono h33 (hL38898.toSt hp38899 (me 1 rfl))) (Rw.mono h37 (hL38898.toSt hp38899 (me 1 rfl))) (Rw.mono h41 (hL38898.toSt hp38899 (me 1 rfl))) (Rw.mono h45 (hL38898.toSt hp38899 (me 1 rfl))) (hL38898.argFam (fk:=Xni) (dk:=(Kd.slice Xml)) hp38899 [] rfl 0 1 rfl rfl rfl rfl (Ow.weak hL38876.env.size h38881) (fun _ _ _ _ h=>⟨_,_,_,rfl,h⟩)) (Rw.mono h57 (hL38898.toSt hp38899 (me 1 rfl))) (hL38898.hFl hp38899 (Xmt [] rfl)) (hL38898.into hp38899 _) r38785 hv38786) ?_
              rintro _ w38904 ⟨A38900,n38901,c38902,rfl,hM38905,h38903⟩
              have hL38906:=hL38898.call hp38899 hM38905
              refine ⟨_,_,_,rfl,hL38906,?_⟩
              refine ⟨Xmt [3,4,5,6,7] rfl,Xmt [0,1] rfl,?_⟩
              refine wfv 6 rfl (Xma rfl) gn hns rfl<|Xq0 (by kernel_rfl)<|Xmb rfl<|Xm6 rfl rfl<|Xm5 0 rfl (Xqa [.string x1.name,.slice A2 n3 c4,.slice A6 n7 c8,.slice A10 n11 c12,.slice A14 n15 c16,.slice A18 n19 c20,.slice A22 n23 c24,.slice A26 n27 c28,.slice A30 n31 c32,.slice A34 n35 c36,.slice A38 n39 c40,.slice A42 n43 c44] 7 Xxu rfl rfl rfl rfl) gn rfl<|Xm5 1 rfl (Xm8 rfl) gn rfl<|Xm5 2 rfl (Xm8 rfl) gn rfl<|Xm5 3 rfl (Xm8 rfl) gn rfl ?_
              obtain ⟨r38910,hv38911,h⟩:=h
              refine Xmr 4 rfl (Xmz [.agg #[.string x1.name,.slice A2 n3 c4,.slice A6 n7 c8,.slice A10 n11 c12,.slice A14 n15 c16,.slice A18 n19 c20,.slice A22 n23 c24,.slice A26 n27 c28,.slice A30 n31 c32,.slice A34 n35 c36,.slice A38 n39 c40,.slice A42 n43 c44],.int .i64 x46,.slice A38532 n38533 c38534,.slice A54 n55 c56] rfl Try.func32 rfl rfl rfl fun w38907 hL38908=>?_) gn
              have hp38909:=pmI hL38908 .n (.c 0 rfl (.c 1 rfl (.c 2 rfl (.c 3 rfl (.c 4 rfl (.c 5 rfl (.c 6 rfl (.c 7 rfl .n)))))))) (by kernel_rfl)
              refine Calls.mono (Xqp w38907 (Fl ([]:List Xmq)) x1 x46 x38531 x53 A2 n3 c4 A6 n7 c8 A10 n11 c12 A14 n15 c16 A18 n19 c20 A22 n23 c24 A26 n27 c28 A30 n31 c32 A34 n35 c36 A38 n39 c40 A42 n43 c44 A38532 n38533 c38534 A54 n55 c56 (Rw.mono h5 (hL38908.toSt hp38909 (me 1 rfl))) (Rw.mono h9 (hL38908.toSt hp38909 (me 1 rfl))) (Rw.mono h13 (hL38908.toSt hp38909 (me 1 rfl))) (Rw.mono h17 (hL38908.toSt hp38909 (me 1 rfl))) (Rw.mono h21 (hL38908.toSt hp38909 (me 1 rfl))) (Rw.mono h25 (hL38908.toSt hp38909 (me 1 rfl))) (Rw.mono h29 (hL38908.toSt hp38909 (me 1 rfl))) (Rw.mono h33 (hL38908.toSt hp38909 (me 1 rfl))) (Rw.mono h37 (hL38908.toSt hp38909 (me 1 rfl))) (Rw.mono h41 (hL38908.toSt hp38909 (me 1 rfl))) (Rw.mono h45 (hL38908.toSt hp38909 (me 1 rfl))) (hL38908.argFam (fk:=Xni) (dk:=(Kd.slice Xml)) hp38909 [] rfl 6 3 rfl rfl rfl rfl h38537 (fun _ _ _ _ h=>⟨_,_,_,rfl,h⟩)) (Rw.mono h57 (hL38908.toSt hp38909 (me 1 rfl))) (hL38908.hFl hp38909 (Xmt [] rfl)) (hL38908.into hp38909 _) r38910 hv38911) ?_
              rintro _ w38917 ⟨A38912,n38913,c38914,rfl,hM38918,h38915⟩
              have hL38919:=hL38908.call hp38909 hM38918
              refine ⟨_,_,_,rfl,hL38919,?_⟩
              refine Xm5 5 rfl (Xma rfl) gn rfl<|Xmc 6 rfl<|Xmb rfl<|Xm6 rfl rfl<|Xm5 0 rfl (Xm8 rfl) gn rfl<|Xm5 1 rfl (Xm8 rfl) gn rfl ?_
              obtain ⟨r38923,hv38924,h⟩:=h
              refine Xmr 2 rfl (Xmz [.slice A38912 n38913 c38914,.slice A38900 n38901 c38902] rfl Try.func27 rfl rfl rfl fun w38920 hL38921=>?_) gn
              have hp38922:=pmI hL38921 .n (.c 0 rfl (.c 1 rfl (.c 2 rfl (.c 3 rfl (.c 4 rfl (.c 5 rfl (.c 6 rfl (.c 7 rfl (.c 8 rfl .n))))))))) (by kernel_rfl)
              refine Calls.mono (Xoj w38920 (Fl ([]:List Xmq)) r38910 r38785 A38912 n38913 c38914 A38900 n38901 c38902 (hL38921.argO (dk:=Xml) hp38922 [] rfl 0 rfl rfl (Ow.weak hL38908.env.size h38915) (me 0 rfl) (Cells.flat _)) (hL38921.argO (dk:=Xml) hp38922 [] rfl 1 rfl rfl (Ow.weak hL38898.env.size h38903) (me 0 rfl) (Cells.flat _)) (hL38921.hFl hp38922 (Xmt [] rfl)) (hL38921.into hp38922 _) r38923 hv38924) ?_
              rintro _ w38925 ⟨rfl,hM38926⟩
              have hL38927:=hL38921.call hp38922 hM38926
              refine ⟨_,_,_,rfl,hL38927,?_⟩
              refine Xm5 3 rfl (Xma rfl) gn rfl<|Xmc 4 rfl<|Xmb rfl<|Xm6 rfl rfl<|Xm5 0 rfl (Xm8 rfl) gn rfl<|Xm5 1 rfl (Xm8 rfl) gn rfl ?_
              by_cases hp38928:r38308=true
              ·have h:=Xmh hp38928 h
               refine Xmx 190 rfl (hp38928)<|Xm5 2 rfl (Xm8 rfl) (gy 190 rfl rfl) rfl<|Xm5 3 rfl (Xmk (b:=true) rfl rfl) gn rfl<|Xm5 4 rfl (Xm8 rfl) gn rfl ?_
               by_cases hp38929:r38329=true
               ·have h:=Xmh hp38929 h
                refine Xmx 193 rfl (hp38929)<|Xm5 5 rfl (Xm8 rfl) (gy 193 rfl rfl) rfl<|Xm5 6 rfl (Xmk (b:=true) rfl rfl) gn rfl<|Xm5 7 rfl (Xm8 rfl) gn rfl ?_
                by_cases hp38930:r38761=true
                ·have h:=Xmh hp38930 h
                 refine Xmx 196 rfl (hp38930)<|Xm5 8 rfl (Xm8 rfl) (gy 196 rfl rfl) rfl<|Xm5 9 rfl (Xmk (b:=true) rfl rfl) gn rfl<|Xm5 10 rfl (Xma rfl) gn rfl<|Xmc 11 rfl ?_
                 have h:=Out.inr hO5 h
                 have h:=Out.inr hO4 h
                 have h:=Out.inr hO3 h
                 have h:=Out.inr hO2 h
                 have h:=Out.inr hO1 h
                 refine Xmu [.bool r38923] rfl Try.func6 rfl (.tmp rfl (.nil)) fun wr hLr=>?_
                 have hMr:=hLr.pk0 (.c 1 rfl .n)
                 show Xnb w F  r (.returned (Xn4 [.bool r38923])) wr
                 rw [h]
                 exact ⟨rfl,hMr⟩
                ·have h:=Xmg hp38930 h
                 refine Xmx 196 rfl ((bf hp38930))<|Xm9 8 rfl (ps 196 rfl rfl rfl)<|Xm5 9 rfl (Xmk (b:=false) rfl rfl) gn rfl<|Xm5 10 rfl (Xma rfl) gn rfl<|Xmc 11 rfl ?_
                 have h:=Out.inr hO5 h
                 have h:=Out.inr hO4 h
                 have h:=Out.inr hO3 h
                 have h:=Out.inr hO2 h
                 have h:=Out.inr hO1 h
                 refine Xmu [.bool false] rfl Try.func6 rfl (.tmp rfl (.nil)) fun wr hLr=>?_
                 have hMr:=hLr.pk0 (.c 1 rfl .n)
                 show Xnb w F  r (.returned (Xn4 [.bool false])) wr
                 rw [h]
                 exact ⟨rfl,hMr⟩
               ·have h:=Xmg hp38929 h
                refine Xmx 193 rfl ((bf hp38929))<|Xm9 5 rfl (ps 193 rfl rfl rfl)<|Xm5 6 rfl (Xmk (b:=false) rfl rfl) gn rfl<|Xm5 7 rfl (Xm8 rfl) gn rfl<|Xm9 8 rfl (ps 196 rfl rfl rfl)<|Xm5 9 rfl (Xmk (b:=false) rfl rfl) gn rfl<|Xm5 10 rfl (Xma rfl) gn rfl<|Xmc 11 rfl ?_
                have h:=Out.inr hO5 h
                have h:=Out.inr hO4 h
                have h:=Out.inr hO3 h
                have h:=Out.inr hO2 h
                have h:=Out.inr hO1 h
                refine Xmu [.bool false] rfl Try.func6 rfl (.tmp rfl (.nil)) fun wr hLr=>?_
                have hMr:=hLr.pk0 (.c 1 rfl .n)
                show Xnb w F  r (.returned (Xn4 [.bool false])) wr
                rw [h]
                exact ⟨rfl,hMr⟩
              ·have h:=Xmg hp38928 h
               refine Xmx 190 rfl ((bf hp38928))<|Xm9 2 rfl (ps 190 rfl rfl rfl)<|Xm5 3 rfl (Xmk (b:=false) rfl rfl) gn rfl<|Xm5 4 rfl (Xm8 rfl) gn rfl<|Xm9 5 rfl (ps 193 rfl rfl rfl)<|Xm5 6 rfl (Xmk (b:=false) rfl rfl) gn rfl<|Xm5 7 rfl (Xm8 rfl) gn rfl<|Xm9 8 rfl (ps 196 rfl rfl rfl)<|Xm5 9 rfl (Xmk (b:=false) rfl rfl) gn rfl<|Xm5 10 rfl (Xma rfl) gn rfl<|Xmc 11 rfl ?_
               have h:=Out.inr hO5 h
               have h:=Out.inr hO4 h
               have h:=Out.inr hO3 h
               have h:=Out.inr hO2 h
               have h:=Out.inr hO1 h
               refine Xmu [.bool false] rfl Try.func6 rfl (.tmp rfl (.nil)) fun wr hLr=>?_
               have hMr:=hLr.pk0 (.c 1 rfl .n)
               show Xnb w F  r (.returned (Xn4 [.bool false])) wr
               rw [h]
               exact ⟨rfl,hMr⟩
            exact Xng [0,1] (key5 _ h A83 n84 c85 cs87 bs88 (Ow.weak hL79.env.size h86)) ⟨rfl,rfl,rfl,rfl,rfl,rfl,rfl,rfl,rfl,trivial⟩ (.cons _ (.cons_cons _ (.cons_cons _ (.cons_cons _ (.cons_cons _ (.cons_cons _ (.slnil))))))) rfl
          exact Xng [0,1] (key4 _ h ()) ⟨rfl,rfl,rfl,rfl,rfl,rfl,rfl,rfl,trivial⟩ (.cons_cons _ (.cons _ (.cons _ (.cons _ (.cons _ (.cons _ (.cons _ (.cons_cons _ (.cons_cons _ (.cons_cons _ (.cons_cons _ (.slnil)))))))))))) rfl
         ·have h:=Xmg hp37075 h
          refine Xn3 rfl _ rfl ((nt (bf hp37075)))<|Xmb rfl<|Xm6 rfl rfl<|Xm5 0 rfl (Xma rfl) gn rfl<|Xmc 1 rfl ?_
          have h:=Out.inr hO3 h
          have h:=Out.inr hO2 h
          have h:=Out.inr hO1 h
          refine Xmu [.bool false] rfl Try.func6 rfl (.tmp rfl (.nil)) fun wr hLr=>?_
          have hMr:=hLr.pk0 (.c 1 rfl .n)
          show Xnb w F  r (.returned (Xn4 [.bool false])) wr
          rw [h]
          exact ⟨rfl,hMr⟩
       exact Xng [0,1] (key3 _ h ()) ⟨rfl,rfl,rfl,rfl,rfl,rfl,rfl,rfl,rfl,rfl,rfl,rfl,trivial⟩ (.cons_cons _ (.cons _ (.cons_cons _ (.cons_cons _ (.cons_cons _ (.cons_cons _ (.cons _ (.cons_cons _ (.cons_cons _ (.cons_cons _ (.cons_cons _ (.cons_cons _ (.cons_cons _ (.slnil)))))))))))))) rfl
     refine Xmj 13 rfl<|Xmj 13 rfl<|Xmj 13 rfl<|Xmj 13 rfl<|Xmj 13 rfl<|Xmj 13 rfl<|Xmj 13 rfl<|Xmj 9 rfl<|Xmj 9 rfl<|Xmj 13 rfl<|Xmj 13 rfl<|Xmj 13 rfl ?_
     refine Xmj 13 rfl ?_
     exact Xng [0,1] (key2 _ h A3426 n3427 c3428 cs3429 bs3430 h3431) ⟨rfl,rfl,rfl,rfl,rfl,rfl,rfl,rfl,rfl,rfl,rfl,rfl,rfl,trivial⟩ (.cons_cons _ (.cons_cons _ (.cons_cons _ (.cons_cons _ (.cons_cons _ (.cons_cons _ (.cons_cons _ (.cons_cons _ (.cons_cons _ (.cons_cons _ (.cons_cons _ (.cons_cons _ (.cons_cons _ (.cons _ (.slnil))))))))))))))) rfl
   refine Xr7 22 1<|Yem Xni w.heap.size<|Xr7 22 1<|Yem Xni w.heap.size<|Xr7 22 1<|Yem Xni w.heap.size<|Xmj 11 rfl<|Xmj 10 rfl<|Xmj 10 rfl<|Xmj 10 rfl<|Xmj 10 rfl<|Xmj 10 rfl ?_
   refine Xmj 9 rfl<|Xmj 8 rfl<|Xmj 10 rfl<|Xmj 10 rfl<|Xmj 10 rfl<|Xmj 11 rfl ?_
   exact Xng [0,1] (key1 _ h none 0 0 [] [] (Ow.nil (z:=w.heap.size)) none 0 0 [] [] (Ow.nil (z:=w.heap.size)) none 0 0 [] [] (Ow.nil (z:=w.heap.size))) ⟨rfl,rfl,rfl,rfl,rfl,rfl,rfl,rfl,rfl,rfl,rfl,rfl,rfl,trivial⟩ (.cons_cons _ (.cons_cons _ (.cons_cons _ (.cons_cons _ (.cons_cons _ (.cons_cons _ (.cons_cons _ (.cons_cons _ (.cons_cons _ (.cons_cons _ (.cons_cons _ (.cons_cons _ (.slnil))))))))))))) rfl
 ·have h:=Xmg hp68 h
  refine Xn3 rfl _ rfl ((nt (bf hp68)))<|Xmb rfl<|Xm6 rfl rfl<|Xm5 0 rfl (Xma rfl) gn rfl<|Xmc 1 rfl ?_
  refine Xmu [.bool false] rfl Try.func6 rfl (.tmp rfl (.nil)) fun wr hLr=>?_
  have hMr:=hLr.pk0 (.c 1 rfl .n)
  show Xnb w F  r (.returned (Xn4 [.bool false])) wr
  rw [h]
  exact ⟨rfl,hMr⟩
end Go.Proofs.Ytmekgfcfooghnaa.K
