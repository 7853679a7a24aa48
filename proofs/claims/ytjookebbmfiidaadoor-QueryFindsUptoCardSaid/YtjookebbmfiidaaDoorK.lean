/- What the machine's calls do, function by function, printed by my own tool. Condition of each: its relation holds of the answer, and what is handed in lies in memory as told. -/
import Derived.Test.YtjookebbmfiidaaDoorK6
set_option linter.unusedVariables false
set_option maxRecDepth 100000
set_option maxHeartbeats 4000000
namespace Go.Proofs.YtjookebbmfiidaaDoor.K
open Go.Proofs.YtjookebbmfiidaaDoor.B Go.Proofs.YtjookebbmfiidaaDoor.R Go.RowKit
noncomputable abbrev Xei:=Code.snd (Code.snd (Code.snd (Code.snd (Code.snd (Df Tryd.f21)))))
noncomputable abbrev Xel:=Code.fst (Code.fst (Code.snd (Code.fst (Code.snd (Code.snd (Code.snd (Code.snd (Df Tryd.f21))))))))
noncomputable abbrev Xi3:=Code.snd (Code.snd (Code.snd Xei))
noncomputable abbrev Xcm:=Code.fst (Code.fst (Code.snd (Code.fst (Code.snd (Code.snd Xei)))))
noncomputable abbrev q21c47:=Code.fst (Code.fst (Code.fst (Code.snd Xcm)))
abbrev Oe (w:World) (F:Nat→Prop) (r:Bool):Ending→World→Prop:=fun e w'=>e=.returned (.bool r)∧B.Loc w w' [] [St w []]
noncomputable abbrev Hl (w:World) (F:Nat→Prop) (r:Bool):Cx:=⟨Tryd.prog,21,Tryd.f21,88,Oe w F  r,w⟩
theorem Yo (w:World) (F:Nat→Prop) (x1:Aq) (x10:List Ai) (x15:ByteArray) (A2:Option Addr) (n3:Nat) (c4:Nat) (A6:Option Addr) (n7:Nat) (c8:Nat) (A11:Option Addr) (n12:Nat) (c13:Nat) (h5:Rw Cb w (St w []).av A2 n3 c4 x1.nodes) (h9:Rw Dq w (St w []).av A6 n7 c8 x1.conds) (h14:Rw D9 w (St w []).av A11 n12 c13 x10) (hG:Tb Tryd.prog (St w [])) (hF:∀ b,F b→b < w.heap.size∧∀ o ∈ ([]:List (List Nat)),b ∉ o) (hL0:B.Loc w w [] [Sm w.heap.size F w [],St w []]) (r:Bool) (h:Qo x1 x10 x15 r):Calls Tryd.prog 21 #[.agg #[.slice A2 n3 c4,.slice A6 n7 c8],.slice A11 n12 c13,.string x15] w (Oe w F  r):=by
 unfold Qo at h
 refine Bl (vs:=[.agg #[.slice A2 n3 c4,.slice A6 n7 c8],.slice A11 n12 c13,.string x15]) 88 Tryd.func21 rfl Tryd.ntmps21 rfl hL0 ?_
 show G (Hl w F r) _ _ _ _
 refine Ag rfl<|Ac rfl rfl ?_
 refine Ci 0 rfl (O3 [.slice A2 n3 c4,.slice A6 n7 c8] rfl rfl rfl fun gb16=>?_) gn
 refine Aa 1 rfl (Af rfl) gn rfl<|Ah 2 rfl<|Ag rfl<|Ac rfl rfl<|Aa 0 rfl (Ji [.slice A2 n3 c4,.slice A6 n7 c8] 0 O5 rfl rfl rfl rfl) gn rfl ?_
 obtain ⟨r21,hv22,h⟩:=h
 refine Ci 1 rfl (D7 [.agg #[.slice A2 n3 c4,.slice A6 n7 c8]] rfl Tryd.func12 rfl rfl rfl fun w18 hL19=>?_) gn
 have hp20:=pmI hL19 .n (.c 0 rfl .n) (by kernel_rfl)
 refine Calls.mono (Jn w18 (Fl ([]:List Cc)) x1 A2 n3 c4 A6 n7 c8 (Rw.mono h5 (hL19.toSt hp20 (me 1 rfl))) (Rw.mono h9 (hL19.toSt hp20 (me 1 rfl))) (hL19.hFl hp20 (Bf [] rfl)) (hL19.into hp20 _) r21 hv22) ?_
 rintro _ w33 ⟨A23,n24,c25,A28,n29,c30,rfl,hM34,h26,h31⟩
 have hL35:=hL19.call hp20 hM34
 refine ⟨_,_,_,rfl,hL35,?_⟩
 refine Ci 2 rfl (G9 [.slice none 0 0,.slice none 0 0] Xfy rfl fun gb36=>?_) gn
 refine Ci 3 rfl (I9 (vs:=[.slice A23 n24 c25,.slice A28 n29 c30]) (cs':=[.slice A23 n24 c25,.slice A28 n29 c30]) (M':=[.box gb36 25 [.slice A23 n24 c25,.slice A28 n29 c30],.own (.slice A23 n24 c25) 45 5 n24 (r21.nodes.flatMap Bq),.own (.slice A28 n29 c30) 47 4 n29 (r21.conds.flatMap Di),.box gb16 25 [.slice A2 n3 c4,.slice A6 n7 c8]]) 0 Xh8 rfl rfl rfl rfl rfl rfl rfl rfl rfl ?_) gn
 refine Ah 4 rfl<|Ag rfl<|Ac rfl rfl<|Aa 0 rfl (Ae rfl) gn rfl ?_
 obtain ⟨r41,hv42,h⟩:=h
 refine Ci 1 rfl (D7 [.slice A11 n12 c13] rfl Tryd.func13 rfl rfl rfl fun w38 hL39=>?_) gn
 have hp40:=pmI hL39 .n (.c 0 rfl (.c 1 rfl (.c 2 rfl (.c 3 rfl .n)))) (by kernel_rfl)
 refine Calls.mono (I8 w38 (Fl ([]:List Cc)) x10 A11 n12 c13 (Rw.mono h14 (hL39.toSt hp40 (me 1 rfl))) (hL39.hFl hp40 (Bf [] rfl)) (hL39.into hp40 _) r41 hv42) ?_
 rintro _ w48 ⟨A43,n44,c45,rfl,hM49,h46⟩
 have hL50:=hL39.call hp40 hM49
 refine ⟨_,_,_,rfl,hL50,?_⟩
 refine Aa 2 rfl (Af rfl) gn rfl<|Ah 3 rfl<|Ag rfl<|Ac rfl rfl<|Aa 0 rfl (Ji [.slice A23 n24 c25,.slice A28 n29 c30] 1 O5 rfl rfl rfl rfl) gn rfl<|Aa 1 rfl (Ae rfl) gn rfl<|Aa 2 rfl (Ae rfl) gn rfl ?_
 obtain ⟨r54,hv55,h⟩:=h
 refine Ci 3 rfl (D7 [.agg #[.slice A23 n24 c25,.slice A28 n29 c30],.slice A43 n44 c45,.string x15] rfl Tryd.func17 rfl rfl rfl fun w51 hL52=>?_) gn
 have hp53:=pmI hL52 .n (.c 0 rfl (.c 1 rfl (.c 2 rfl (.c 3 rfl (.c 4 rfl .n))))) (by kernel_rfl)
 refine Calls.mono (Sv w51 (Fl ([]:List Cc)) r21 r41 x15 A23 n24 c25 A28 n29 c30 A43 n44 c45 (hL52.argO (dk:=Cb) hp53 [] rfl 2 rfl rfl (Ow.weak hL19.env.size h26) (me 0 rfl) (Cells.flat _)) (hL52.argO (dk:=Dq) hp53 [] rfl 3 rfl rfl (Ow.weak hL19.env.size h31) (me 0 rfl) (Cells.flat _)) (hL52.argO (dk:=D9) hp53 [] rfl 0 rfl rfl (Ow.weak hL39.env.size h46) (me 0 rfl) (Cells.flat _)) (hL52.tb hp53 hG (me 1 rfl)) (hL52.hFl hp53 (Bf [] rfl)) (hL52.into hp53 _) r54 hv55) ?_
 rintro _ w65 ⟨A56,n57,c58,cs60,bs61,rfl,hM66,h59⟩
 have hL67:=hL52.call hp53 hM66
 refine ⟨_,_,_,rfl,hL67,?_⟩
 refine Xgk (fk:=Ey) (z':=w.heap.size) (j:=1) hL52.env.size rfl ?_
 refine Xio (fk:=Ey) (dk:=F6) (F:=F) (j:=1) rfl (fun _ _ _ _ h=>⟨_,_,_,rfl,h⟩) fun sw68 sb69 hC70=>?_
 refine Ah 4 rfl<|Ag rfl<|Ag rfl<|Ac rfl rfl<|Aa 0 rfl (Af rfl) gn rfl<|Ah 1 rfl<|Bv rfl<|Ei rfl ?_
 have key1:∀ s,Ar (fun (s:(List Ai) × Int) o=>G8 r21 x15 s.1 s.2 o) s r→(fun (s:(List Ai) × Int)=>∀ (h420:Ow w.heap.size A43 n44 c45 s.1),G (Hl w F r) [.code Xel,.inLoop Xel,.inBlock 0,.code Xei] [(2,.string x15),(7,.pointer (some ⟨gb36,0,none⟩)),(8,.slice A43 n44 c45),(9,.int .i64 s.2)] [.own (.slice A43 n44 c45) 56 7 n44 (s.1.flatMap Dz),.box gb36 25 [.slice A23 n24 c25,.slice A28 n29 c30],.own (.slice A23 n24 c25) 45 5 n24 (r21.nodes.flatMap Bq),.own (.slice A28 n29 c30) 47 4 n29 (r21.conds.flatMap Di)] [Sm w.heap.size F sw68 sb69,Sm w.heap.size F w [],St w []]) s:=by
  intro s hs
  refine Ar.ind (mot:=(fun (s:(List Ai) × Int)=>∀ (h420:Ow w.heap.size A43 n44 c45 s.1),G (Hl w F r) [.code Xel,.inLoop Xel,.inBlock 0,.code Xei] [(2,.string x15),(7,.pointer (some ⟨gb36,0,none⟩)),(8,.slice A43 n44 c45),(9,.int .i64 s.2)] [.own (.slice A43 n44 c45) 56 7 n44 (s.1.flatMap Dz),.box gb36 25 [.slice A23 n24 c25,.slice A28 n29 c30],.own (.slice A23 n24 c25) 45 5 n24 (r21.nodes.flatMap Bq),.own (.slice A28 n29 c30) 47 4 n29 (r21.conds.flatMap Di)] [Sm w.heap.size F sw68 sb69,Sm w.heap.size F w [],St w []])) ?_ hs
  clear hs s
  intro s o1 h hO1
  obtain ⟨x419,x421⟩:=s
  show ∀ (h420:Ow w.heap.size A43 n44 c45 x419),G (Hl w F r) [.code Xel,.inLoop Xel,.inBlock 0,.code Xei] [(2,.string x15),(7,.pointer (some ⟨gb36,0,none⟩)),(8,.slice A43 n44 c45),(9,.int .i64 x421)] [.own (.slice A43 n44 c45) 56 7 n44 (x419.flatMap Dz),.box gb36 25 [.slice A23 n24 c25,.slice A28 n29 c30],.own (.slice A23 n24 c25) 45 5 n24 (r21.nodes.flatMap Bq),.own (.slice A28 n29 c30) 47 4 n29 (r21.conds.flatMap Di)] [Sm w.heap.size F sw68 sb69,Sm w.heap.size F w [],St w []]
  intro h420
  have h:G8 r21 x15 x419 x421 o1:=h
  unfold G8 at h
  refine Ag rfl<|Ag rfl<|Ac rfl rfl<|Aa 0 rfl (Ae rfl) gn rfl<|Aa 1 rfl (Ae rfl) gn rfl<|Aa 2 rfl (D5 V3 rfl h420.hq) gn rfl<|Aa 3 rfl (Ba rfl rfl rfl) gn rfl<|Ah 4 rfl ?_
  by_cases hp769:x421 < (x419.length:Int)
  ·have h:=Ap hp769 h
   refine Bi rfl _ rfl ((decide_eq_true hp769))<|Bo rfl<|Ag rfl<|Bv rfl<|Ac rfl rfl<|Aa 0 rfl (Ae rfl) gn rfl<|Aa 1 rfl (Ae rfl) gn rfl<|Aa 2 rfl (Ae rfl) gn rfl<|Aa 3 rfl (Ae rfl) gn rfl<|Aa 4 rfl (D5 V3 rfl h420.hq) gn rfl<|Aa 5 rfl (Ba rfl rfl rfl) gn rfl ?_
   obtain ⟨hb770,h⟩:=h
   refine Aa 6 rfl (Ec Ro rfl rfl h420 hb770) gn rfl<|Aa 7 rfl (Jq Xbq rfl) gn rfl<|Aa 8 rfl (Py (.string ((ix x419 (w64 ((x419.length:Int) - 1))).name)) 0 Gw rfl rfl (Xk4 Fh hb770 rfl)) gn rfl ?_
   obtain ⟨hb771,h⟩:=h
   refine Aa 9 rfl (Ec Ro rfl rfl h420 hb771) gn rfl<|Aa 10 rfl (Jq Xbq rfl) gn rfl ?_
   obtain ⟨x772,hv773,h⟩:=h
   refine Ci 11 rfl (Uy (enc:=Dz) (o:=0) (z:=({ (ix x419 x421) with name:=(ix x419 (w64 ((x419.length:Int) - 1))).name })) (vs:=[.string ((ix x419 (w64 ((x419.length:Int) - 1))).name)]) (i:=x421) 0 Fh sz_9 rfl rfl rfl rfl rfl h420 hb771 rfl rfl rfl hv773 fun h774=>?_) gn
   refine Ah 12 rfl<|Bj<|Ac rfl rfl<|Aa 0 rfl (Ae rfl) gn rfl<|Aa 1 rfl (Ba rfl rfl rfl) gn rfl<|Aa 2 rfl (Af rfl) gn rfl<|Ah 3 rfl<|Cm ?_
   have ih:=Out.inl hO1 h
   exact D6 [0,1,2] (ih h774) ⟨rfl,rfl,rfl,rfl,trivial⟩ (.cons_cons _ (.cons_cons _ (.cons_cons _ (.cons_cons _ (.slnil))))) rfl
  ·have h:=Am hp769 h
   refine Bc rfl _ rfl ((decide_eq_false hp769))<|E8 [.code Xei] rfl rfl<|Ag rfl<|Ac rfl rfl<|Aa 0 rfl (Ji [.slice A23 n24 c25,.slice A28 n29 c30] 1 O5 rfl rfl rfl rfl) gn rfl ?_
   obtain ⟨r778,hv779,h⟩:=h
   refine Ci 1 rfl (D7 [.agg #[.slice A23 n24 c25,.slice A28 n29 c30]] rfl Tryd.func12 rfl rfl rfl fun w775 hL776=>?_) gn
   have hp777:=pmI hL776 .n (.c 0 rfl (.c 1 rfl (.c 2 rfl (.c 3 rfl .n)))) (by kernel_rfl)
   refine Calls.mono (Jn w775 (Fl ([]:List Cc)) r21 A23 n24 c25 A28 n29 c30 (hL776.argO (dk:=Cb) hp777 [] rfl 2 rfl rfl (Ow.weak hL19.env.size h26) (me 1 rfl) (Cells.flat _)) (hL776.argO (dk:=Dq) hp777 [] rfl 3 rfl rfl (Ow.weak hL19.env.size h31) (me 1 rfl) (Cells.flat _)) (hL776.hFl hp777 (Bf [] rfl)) (hL776.into hp777 _) r778 hv779) ?_
   rintro _ w790 ⟨A780,n781,c782,A785,n786,c787,rfl,hM791,h783,h788⟩
   have hL792:=hL776.call hp777 hM791
   refine ⟨_,_,_,rfl,hL792,?_⟩
   refine Aa 2 rfl (Ae rfl) gn rfl ?_
   obtain ⟨r796,hv797,h⟩:=h
   refine Ci 3 rfl (D7 [.slice A43 n44 c45] rfl Tryd.func13 rfl rfl rfl fun w793 hL794=>?_) gn
   have hp795:=pmI hL794 .n (.c 0 rfl (.c 1 rfl (.c 2 rfl (.c 3 rfl (.c 4 rfl (.c 5 rfl .n)))))) (by kernel_rfl)
   refine Calls.mono (I8 w793 (Fl ([]:List Cc)) x419 A43 n44 c45 (hL794.argO (dk:=D9) hp795 [] rfl 2 rfl rfl h420 (me 1 rfl) (Cells.flat _)) (hL794.hFl hp795 (Bf [] rfl)) (hL794.into hp795 _) r796 hv797) ?_
   rintro _ w803 ⟨A798,n799,c800,rfl,hM804,h801⟩
   have hL805:=hL794.call hp795 hM804
   refine ⟨_,_,_,rfl,hL805,?_⟩
   refine Aa 4 rfl (Ae rfl) gn rfl ?_
   obtain ⟨r809,hv810,h⟩:=h
   refine Ci 5 rfl (D7 [.agg #[.slice A780 n781 c782,.slice A785 n786 c787],.slice A798 n799 c800,.string x15] rfl Tryd.func14 rfl rfl rfl fun w806 hL807=>?_) gn
   have hp808:=pmI hL807 .n (.c 0 rfl (.c 1 rfl (.c 2 rfl (.c 3 rfl (.c 4 rfl (.c 5 rfl (.c 6 rfl .n))))))) (by kernel_rfl)
   refine Calls.mono (Sr w806 (Fl ([]:List Cc)) r778 r796 x15 A780 n781 c782 A785 n786 c787 A798 n799 c800 (hL807.argO (dk:=Cb) hp808 [] rfl 1 rfl rfl (Ow.weak hL776.env.size h783) (me 1 rfl) (Cells.flat _)) (hL807.argO (dk:=Dq) hp808 [] rfl 2 rfl rfl (Ow.weak hL776.env.size h788) (me 1 rfl) (Cells.flat _)) (hL807.argO (dk:=D9) hp808 [] rfl 0 rfl rfl (Ow.weak hL794.env.size h801) (me 1 rfl) (Cells.flat _)) (hL807.hFl hp808 (Bf [] rfl)) (hL807.into hp808 _) r809 hv810) ?_
   rintro _ w818 ⟨A811,n812,c813,cs816,rfl,hM819,h814,hC817⟩
   obtain ⟨sb822,hL820,hv821⟩:=hL807.callB (Sl:=([]:List Cc)) hp808 hM819 F (Bf [] rfl) trivial
   have hC817:Cells F6 (Sm w.heap.size F w818 sb822).w (Sm w.heap.size F w818 sb822).av r809 cs816:=Cells.mono hv821 hC817
   refine ⟨_,_,_,rfl,hL820,?_⟩
   refine Aa 6 rfl (Af rfl) gn rfl<|Ah 7 rfl<|Ag rfl<|Ag rfl<|Ac rfl rfl<|Aa 0 rfl (Ji [.slice A23 n24 c25,.slice A28 n29 c30] 5 O5 rfl rfl rfl rfl) gn rfl<|Aa 1 rfl (Ae rfl) gn rfl<|Aa 2 rfl (Ae rfl) gn rfl ?_
   obtain ⟨r826,hv827,h⟩:=h
   refine Ci 3 rfl (D7 [.agg #[.slice A23 n24 c25,.slice A28 n29 c30],.slice A43 n44 c45,.string x15] rfl Tryd.func17 rfl rfl rfl fun w823 hL824=>?_) gn
   have hp825:=pmI hL824 .n (.c 0 rfl (.c 1 rfl (.c 2 rfl (.c 3 rfl (.c 4 rfl (.c 5 rfl (.c 6 rfl (.c 7 rfl .n)))))))) (by kernel_rfl)
   refine Calls.mono (Sv w823 (Fl ([]:List Cc)) r21 x419 x15 A23 n24 c25 A28 n29 c30 A43 n44 c45 (hL824.argO (dk:=Cb) hp825 [] rfl 6 rfl rfl (Ow.weak hL19.env.size h26) (me 2 rfl) (Cells.flat _)) (hL824.argO (dk:=Dq) hp825 [] rfl 7 rfl rfl (Ow.weak hL19.env.size h31) (me 2 rfl) (Cells.flat _)) (hL824.argO (dk:=D9) hp825 [] rfl 4 rfl rfl h420 (me 2 rfl) (Cells.flat _)) (hL824.tb hp825 hG (me 3 rfl)) (hL824.hFl hp825 (Bf [] rfl)) (hL824.into hp825 _) r826 hv827) ?_
   rintro _ w836 ⟨A828,n829,c830,cs832,bs833,rfl,hM837,h831⟩
   have hL838:=hL824.call hp825 hM837
   refine ⟨_,_,_,rfl,hL838,?_⟩
   refine Xgk (fk:=Ey) (z':=w.heap.size) (j:=1) hL824.env.size rfl ?_
   refine Xio (fk:=Ey) (dk:=F6) (F:=F) (j:=1) rfl (fun _ _ _ _ h=>⟨_,_,_,rfl,h⟩) fun sw839 sb840 hC841=>?_
   refine Aa 4 rfl (Ae rfl) gn rfl ?_
   obtain ⟨r845,hv846,h⟩:=h
   refine Ci 5 rfl (D7 [.slice A828 n829 c830,.slice A811 n812 c813] rfl Tryd.func18 rfl rfl rfl fun w842 hL843=>?_) gn
   have hp844:=pmI hL843 .n (.c 0 rfl (.c 1 rfl (.c 2 rfl (.c 3 rfl (.c 4 rfl (.c 5 rfl (.c 6 rfl (.c 7 rfl (.c 8 rfl .n))))))))) (by kernel_rfl)
   refine Calls.mono (Jg w842 (Fl ([]:List Cc)) r826 r809 A828 n829 c830 A811 n812 c813 (hL843.argO (dk:=F6) hp844 [] rfl 0 rfl rfl (Ow.weak hL824.env.size h831) (me 0 rfl) hC841) (hL843.argO (dk:=F6) hp844 [] rfl 1 rfl rfl (Ow.weak hL807.env.size h814) (me 1 rfl) hC817) (hL843.hFl hp844 (Bf [] rfl)) (hL843.into hp844 _) r845 hv846) ?_
   rintro _ w847 ⟨rfl,hM848⟩
   have hL849:=hL843.call hp844 hM848
   refine ⟨_,_,_,rfl,hL849,?_⟩
   refine Aa 6 rfl (Oi rfl) gn rfl<|Ah 7 rfl ?_
   by_cases hp850:r845=true
   ·have h:=Ap hp850 h
    refine Bc rfl _ rfl ((nf hp850))<|Bo rfl<|Ag rfl<|Ag rfl<|Ac rfl rfl<|Aa 0 rfl (Af rfl) gn rfl<|Ah 1 rfl<|Bv rfl<|Ei rfl ?_
    have key2:∀ s,Ar (fun (s:Int × (List Aj)) o=>G7 r21 x419 x15 s.1 s.2 o) s o1→(fun (s:Int × (List Aj))=>∀ (h941:Ow w.heap.size A23 n24 c25 s.2),G (Hl w F r) [.code Xcm,.inLoop Xcm,.inBlock 2,.code Xi3] [(2,.string x15),(7,.pointer (some ⟨gb36,0,none⟩)),(8,.slice A43 n44 c45),(11,.int .i64 s.1)] [.own (.slice A43 n44 c45) 56 7 n44 (x419.flatMap Dz),.box gb36 25 [.slice A23 n24 c25,.slice A28 n29 c30],.own (.slice A23 n24 c25) 45 5 n24 (s.2.flatMap Bq),.own (.slice A28 n29 c30) 47 4 n29 (r21.conds.flatMap Di)] [Sm w.heap.size F sw839 sb840,Sm w.heap.size F w818 sb822,Sm w.heap.size F sw68 sb69,Sm w.heap.size F w [],St w []]) s:=by
     intro s hs
     refine Ar.ind (mot:=(fun (s:Int × (List Aj))=>∀ (h941:Ow w.heap.size A23 n24 c25 s.2),G (Hl w F r) [.code Xcm,.inLoop Xcm,.inBlock 2,.code Xi3] [(2,.string x15),(7,.pointer (some ⟨gb36,0,none⟩)),(8,.slice A43 n44 c45),(11,.int .i64 s.1)] [.own (.slice A43 n44 c45) 56 7 n44 (x419.flatMap Dz),.box gb36 25 [.slice A23 n24 c25,.slice A28 n29 c30],.own (.slice A23 n24 c25) 45 5 n24 (s.2.flatMap Bq),.own (.slice A28 n29 c30) 47 4 n29 (r21.conds.flatMap Di)] [Sm w.heap.size F sw839 sb840,Sm w.heap.size F w818 sb822,Sm w.heap.size F sw68 sb69,Sm w.heap.size F w [],St w []])) ?_ hs
     clear hs s
     intro s o2 h hO2
     obtain ⟨x939,x940⟩:=s
     show ∀ (h941:Ow w.heap.size A23 n24 c25 x940),G (Hl w F r) [.code Xcm,.inLoop Xcm,.inBlock 2,.code Xi3] [(2,.string x15),(7,.pointer (some ⟨gb36,0,none⟩)),(8,.slice A43 n44 c45),(11,.int .i64 x939)] [.own (.slice A43 n44 c45) 56 7 n44 (x419.flatMap Dz),.box gb36 25 [.slice A23 n24 c25,.slice A28 n29 c30],.own (.slice A23 n24 c25) 45 5 n24 (x940.flatMap Bq),.own (.slice A28 n29 c30) 47 4 n29 (r21.conds.flatMap Di)] [Sm w.heap.size F sw839 sb840,Sm w.heap.size F w818 sb822,Sm w.heap.size F sw68 sb69,Sm w.heap.size F w [],St w []]
     intro h941
     have h:G7 r21 x419 x15 x939 x940 o2:=h
     unfold G7 at h
     refine Ag rfl<|Ag rfl<|Ac rfl rfl<|Aa 0 rfl (Ae rfl) gn rfl<|Aa 1 rfl (Bd Ew rfl) gn rfl<|Aa 2 rfl (Au 1 Kr rfl rfl rfl) gn rfl<|Aa 3 rfl (D5 Tm rfl h941.hq) gn rfl<|Aa 4 rfl (Ba rfl rfl rfl) gn rfl<|Ah 5 rfl ?_
     by_cases hp1029:x939 < (x940.length:Int)
     ·have h:=Ap hp1029 h
      refine Bi rfl _ rfl ((decide_eq_true hp1029))<|Bo rfl<|Ag rfl<|Bv rfl<|Ag rfl ?_
      obtain ⟨hb1030,h⟩:=h
      obtain ⟨hb1031,h⟩:=h
      obtain ⟨x1032,hv1033,h⟩:=h
      have hns:Region.noSelect (Code.ops q21c47)=true:=by kernel_rfl
      refine J7 [14] 15 rfl rfl mix rfl (.c 0 rfl (.c 1 rfl (.c 2 rfl (.c 3 rfl (.c 4 rfl .n)))))<|wfv 0 rfl (Bd Ew rfl) gn hns (by kernel_rfl)<|wfv 1 rfl (Au 1 Kr rfl rfl rfl) gn hns (by kernel_rfl)<|wfv 2 rfl (Ae rfl) gn hns (by kernel_rfl)<|wfv 3 rfl (Bd Ew rfl) gn hns (by kernel_rfl)<|wfv 4 rfl (Au 1 Kr rfl rfl rfl) gn hns (by kernel_rfl)<|wfv 5 rfl (Bd Ew rfl) gn hns (by kernel_rfl)<|wfv 6 rfl (Au 1 Kr rfl rfl rfl) gn hns (by kernel_rfl)<|wfv 7 rfl (D5 Tm rfl h941.hq) gn hns (by kernel_rfl)<|wfv 8 rfl (Ba rfl rfl rfl) gn hns (by kernel_rfl)<|wfv 9 rfl (Ec Oq rfl rfl h941 hb1030) gn hns (by kernel_rfl)<|wfv 10 rfl (Jq U1 rfl) gn hns (by kernel_rfl) ?_
      refine wfv 11 rfl (Py (.string ((ix x940 (w64 ((x940.length:Int) - 1))).name)) 2 Gw rfl rfl (Xk4 Dp hb1030 rfl)) gn hns (by kernel_rfl)<|wfv 12 rfl (Ec Oq rfl rfl h941 hb1031) gn hns (by kernel_rfl)<|wfv 13 rfl (Jq U1 rfl) gn hns (by kernel_rfl) ?_
      refine Cf [14] (by kernel_rfl) rfl ⟨Ut 14 rfl gn rfl (Uy (enc:=Bq) (o:=0) (z:=({ (ix x940 x939) with name:=(ix x940 (w64 ((x940.length:Int) - 1))).name })) (vs:=[.string ((ix x940 (w64 ((x940.length:Int) - 1))).name)]) (i:=x939) 2 Dp sz_9 rfl rfl rfl rfl rfl h941 hb1031 rfl rfl rfl hv1033 fun h1036=>?_),trivial⟩
      unfold NxL
      refine Et (by kernel_rfl)<|Ac rfl rfl<|Aa 0 rfl (Bd Ew rfl) gn rfl<|Aa 1 rfl (Au 1 Kr rfl rfl rfl) gn rfl<|Aa 2 rfl (Ae rfl) gn rfl ?_
      obtain ⟨hb1037,h⟩:=h
      refine Aa 3 rfl (Ec Oq rfl rfl h1036 hb1037) gn rfl<|Aa 4 rfl (Jq Uo rfl) gn rfl ?_
      obtain ⟨x1038,hv1039,h⟩:=h
      refine Ci 5 rfl (Uy (enc:=Bq) (o:=2) (z:=({ (ix x1032 x939) with field:=(⟨#[]⟩:ByteArray) })) (vs:=[.string (⟨#[]⟩:ByteArray)]) (i:=x939) 2 Dp sz_9 rfl rfl rfl rfl rfl h1036 hb1037 rfl rfl rfl hv1039 fun h1040=>?_) gn
      refine Ah 6 rfl<|Bj<|Ac rfl rfl<|Aa 0 rfl (Ae rfl) gn rfl<|Aa 1 rfl (Ba rfl rfl rfl) gn rfl<|Aa 2 rfl (Af rfl) gn rfl<|Ah 3 rfl<|Cm ?_
      have ih:=Out.inl hO2 h
      exact D6 [0,1,2,3,4] (ih h1040) ⟨rfl,rfl,rfl,rfl,trivial⟩ (.cons_cons _ (.cons_cons _ (.cons_cons _ (.cons_cons _ (.slnil))))) rfl
     ·have h:=Am hp1029 h
      refine Bc rfl _ rfl ((decide_eq_false hp1029))<|E8 [.code Xi3] rfl rfl<|Ag rfl<|Ac rfl rfl<|Aa 0 rfl (Ji [.slice A23 n24 c25,.slice A28 n29 c30] 1 O5 rfl rfl rfl rfl) gn rfl ?_
      obtain ⟨r1044,hv1045,h⟩:=h
      refine Ci 1 rfl (D7 [.agg #[.slice A23 n24 c25,.slice A28 n29 c30]] rfl Tryd.func12 rfl rfl rfl fun w1041 hL1042=>?_) gn
      have hp1043:=pmI hL1042 .n (.c 0 rfl (.c 1 rfl (.c 2 rfl (.c 3 rfl .n)))) (by kernel_rfl)
      refine Calls.mono (Jn w1041 (Fl ([]:List Cc)) (⟨x940,r21.conds⟩:Aq) A23 n24 c25 A28 n29 c30 (hL1042.argO (dk:=Cb) hp1043 [] rfl 2 rfl rfl h941 (me 3 rfl) (Cells.flat _)) (hL1042.argO (dk:=Dq) hp1043 [] rfl 3 rfl rfl (Ow.weak hL19.env.size h31) (me 3 rfl) (Cells.flat _)) (hL1042.hFl hp1043 (Bf [] rfl)) (hL1042.into hp1043 _) r1044 hv1045) ?_
      rintro _ w1056 ⟨A1046,n1047,c1048,A1051,n1052,c1053,rfl,hM1057,h1049,h1054⟩
      have hL1058:=hL1042.call hp1043 hM1057
      refine ⟨_,_,_,rfl,hL1058,?_⟩
      refine Aa 2 rfl (Ae rfl) gn rfl ?_
      obtain ⟨r1062,hv1063,h⟩:=h
      refine Ci 3 rfl (D7 [.slice A43 n44 c45] rfl Tryd.func13 rfl rfl rfl fun w1059 hL1060=>?_) gn
      have hp1061:=pmI hL1060 .n (.c 0 rfl (.c 1 rfl (.c 2 rfl (.c 3 rfl (.c 4 rfl (.c 5 rfl .n)))))) (by kernel_rfl)
      refine Calls.mono (I8 w1059 (Fl ([]:List Cc)) x419 A43 n44 c45 (hL1060.argO (dk:=D9) hp1061 [] rfl 2 rfl rfl h420 (me 3 rfl) (Cells.flat _)) (hL1060.hFl hp1061 (Bf [] rfl)) (hL1060.into hp1061 _) r1062 hv1063) ?_
      rintro _ w1069 ⟨A1064,n1065,c1066,rfl,hM1070,h1067⟩
      have hL1071:=hL1060.call hp1061 hM1070
      refine ⟨_,_,_,rfl,hL1071,?_⟩
      refine Aa 4 rfl (Ae rfl) gn rfl ?_
      obtain ⟨r1075,hv1076,h⟩:=h
      refine Ci 5 rfl (D7 [.agg #[.slice A1046 n1047 c1048,.slice A1051 n1052 c1053],.slice A1064 n1065 c1066,.string x15] rfl Tryd.func14 rfl rfl rfl fun w1072 hL1073=>?_) gn
      have hp1074:=pmI hL1073 .n (.c 0 rfl (.c 1 rfl (.c 2 rfl (.c 3 rfl (.c 4 rfl (.c 5 rfl (.c 6 rfl .n))))))) (by kernel_rfl)
      refine Calls.mono (Sr w1072 (Fl ([]:List Cc)) r1044 r1062 x15 A1046 n1047 c1048 A1051 n1052 c1053 A1064 n1065 c1066 (hL1073.argO (dk:=Cb) hp1074 [] rfl 1 rfl rfl (Ow.weak hL1042.env.size h1049) (me 3 rfl) (Cells.flat _)) (hL1073.argO (dk:=Dq) hp1074 [] rfl 2 rfl rfl (Ow.weak hL1042.env.size h1054) (me 3 rfl) (Cells.flat _)) (hL1073.argO (dk:=D9) hp1074 [] rfl 0 rfl rfl (Ow.weak hL1060.env.size h1067) (me 3 rfl) (Cells.flat _)) (hL1073.hFl hp1074 (Bf [] rfl)) (hL1073.into hp1074 _) r1075 hv1076) ?_
      rintro _ w1084 ⟨A1077,n1078,c1079,cs1082,rfl,hM1085,h1080,hC1083⟩
      obtain ⟨sb1088,hL1086,hv1087⟩:=hL1073.callB (Sl:=([]:List Cc)) hp1074 hM1085 F (Bf [] rfl) trivial
      have hC1083:Cells F6 (Sm w.heap.size F w1084 sb1088).w (Sm w.heap.size F w1084 sb1088).av r1075 cs1082:=Cells.mono hv1087 hC1083
      refine ⟨_,_,_,rfl,hL1086,?_⟩
      refine Aa 6 rfl (Af rfl) gn rfl<|Ah 7 rfl<|Ag rfl<|Ac rfl rfl<|Aa 0 rfl (Ji [.slice A23 n24 c25,.slice A28 n29 c30] 5 O5 rfl rfl rfl rfl) gn rfl<|Aa 1 rfl (Ae rfl) gn rfl<|Aa 2 rfl (Ae rfl) gn rfl ?_
      obtain ⟨r1092,hv1093,h⟩:=h
      refine Ci 3 rfl (D7 [.agg #[.slice A23 n24 c25,.slice A28 n29 c30],.slice A43 n44 c45,.string x15] rfl Tryd.func17 rfl rfl rfl fun w1089 hL1090=>?_) gn
      have hp1091:=pmI hL1090 .n (.c 0 rfl (.c 1 rfl (.c 2 rfl (.c 3 rfl (.c 4 rfl (.c 5 rfl (.c 6 rfl (.c 7 rfl .n)))))))) (by kernel_rfl)
      refine Calls.mono (Sv w1089 (Fl ([]:List Cc)) (⟨x940,r21.conds⟩:Aq) x419 x15 A23 n24 c25 A28 n29 c30 A43 n44 c45 (hL1090.argO (dk:=Cb) hp1091 [] rfl 6 rfl rfl h941 (me 4 rfl) (Cells.flat _)) (hL1090.argO (dk:=Dq) hp1091 [] rfl 7 rfl rfl (Ow.weak hL19.env.size h31) (me 4 rfl) (Cells.flat _)) (hL1090.argO (dk:=D9) hp1091 [] rfl 4 rfl rfl h420 (me 4 rfl) (Cells.flat _)) (hL1090.tb hp1091 hG (me 5 rfl)) (hL1090.hFl hp1091 (Bf [] rfl)) (hL1090.into hp1091 _) r1092 hv1093) ?_
      rintro _ w1102 ⟨A1094,n1095,c1096,cs1098,bs1099,rfl,hM1103,h1097⟩
      have hL1104:=hL1090.call hp1091 hM1103
      refine ⟨_,_,_,rfl,hL1104,?_⟩
      refine Xgk (fk:=Ey) (z':=w.heap.size) (j:=1) hL1090.env.size rfl ?_
      refine Xio (fk:=Ey) (dk:=F6) (F:=F) (j:=1) rfl (fun _ _ _ _ h=>⟨_,_,_,rfl,h⟩) fun sw1105 sb1106 hC1107=>?_
      refine Aa 4 rfl (Ae rfl) gn rfl ?_
      obtain ⟨r1111,hv1112,h⟩:=h
      refine Ci 5 rfl (D7 [.slice A1094 n1095 c1096,.slice A1077 n1078 c1079] rfl Tryd.func18 rfl rfl rfl fun w1108 hL1109=>?_) gn
      have hp1110:=pmI hL1109 .n (.c 0 rfl (.c 1 rfl (.c 2 rfl (.c 3 rfl (.c 4 rfl (.c 5 rfl (.c 6 rfl (.c 7 rfl (.c 8 rfl .n))))))))) (by kernel_rfl)
      refine Calls.mono (Jg w1108 (Fl ([]:List Cc)) r1092 r1075 A1094 n1095 c1096 A1077 n1078 c1079 (hL1109.argO (dk:=F6) hp1110 [] rfl 0 rfl rfl (Ow.weak hL1090.env.size h1097) (me 0 rfl) hC1107) (hL1109.argO (dk:=F6) hp1110 [] rfl 1 rfl rfl (Ow.weak hL1073.env.size h1080) (me 1 rfl) hC1083) (hL1109.hFl hp1110 (Bf [] rfl)) (hL1109.into hp1110 _) r1111 hv1112) ?_
      rintro _ w1113 ⟨rfl,hM1114⟩
      have hL1115:=hL1109.call hp1110 hM1114
      refine ⟨_,_,_,rfl,hL1115,?_⟩
      refine Aa 6 rfl (Af rfl) gn rfl<|Ah 7 rfl ?_
      have h:=Out.inr hO2 h
      have h:=Out.inr hO1 h
      refine Bg [.bool r1111] rfl Tryd.func21 rfl (.tmp rfl (.nil)) fun wr hLr=>?_
      have hMr:=hLr.pk0 (.c 6 rfl .n)
      show Oe w F  r (.returned (Bz [.bool r1111])) wr
      rw [h]
      exact ⟨rfl,hMr⟩
    exact D6 [0,1,2,3,4] (key2 _ h (Ow.weak hL19.env.size h26)) ⟨rfl,rfl,rfl,rfl,trivial⟩ (.cons _ (.cons _ (.cons _ (.cons _ (.cons _ (.cons_cons _ (.cons_cons _ (.cons_cons _ (.cons_cons _ (.slnil)))))))))) rfl
   ·have h:=Am hp850 h
    refine Bi rfl _ rfl ((nt (bf hp850)))<|Ag rfl<|Ac rfl rfl<|Aa 0 rfl (Af rfl) gn rfl<|Ah 1 rfl ?_
    have h:=Out.inr hO1 h
    refine Bg [.bool false] rfl Tryd.func21 rfl (.tmp rfl (.nil)) fun wr hLr=>?_
    have hMr:=hLr.pk0 (.c 4 rfl .n)
    show Oe w F  r (.returned (Bz [.bool false])) wr
    rw [h]
    exact ⟨rfl,hMr⟩
 exact D6 [0,1,2] (key1 _ h (Ow.weak hL39.env.size h46)) ⟨rfl,rfl,rfl,rfl,trivial⟩ (.cons _ (.cons_cons _ (.cons_cons _ (.cons_cons _ (.cons_cons _ (.cons _ (.slnil))))))) rfl
noncomputable abbrev q3c4:=Code.snd (Code.snd (Df Tryd.f3))
noncomputable abbrev q3c6:=Code.snd (Code.fst (Code.snd (Df Tryd.f3)))
noncomputable abbrev q3c26:=Code.snd (Code.snd (Code.snd (Code.snd (Code.snd (Code.snd (Code.snd (Code.snd q3c4)))))))
noncomputable abbrev q3c28:=Code.snd (Code.fst (Code.snd (Code.snd (Code.snd (Code.snd (Code.snd (Code.snd (Code.snd q3c4))))))))
noncomputable abbrev Xcb:=Code.snd q3c26
noncomputable abbrev Xax:=Code.fst (Code.fst (Code.snd (Code.fst q3c26)))
noncomputable abbrev q3c46:=Code.snd (Code.snd Xax)
noncomputable abbrev Xh9:=Code.fst (Code.fst (Code.snd (Code.fst (Code.fst (Code.snd Xax)))))
noncomputable abbrev Xc8:=Code.snd (Code.snd Xcb)
noncomputable abbrev Zw:=Code.fst (Code.fst (Code.snd (Code.fst (Code.snd Xcb))))
noncomputable abbrev Xf2:=Code.snd Xc8
noncomputable abbrev Xaw:=Code.fst (Code.fst (Code.snd (Code.fst Xc8)))
noncomputable abbrev q3c90:=Code.snd (Code.snd Zw)
noncomputable abbrev q3c95:=Code.snd (Code.snd (Code.fst (Code.fst (Code.snd Zw))))
noncomputable abbrev Xhn:=Code.fst (Code.fst (Code.snd (Code.fst (Code.snd (Code.fst (Code.fst (Code.snd Zw)))))))
noncomputable abbrev Xi0:=Code.snd (Code.snd Xaw)
noncomputable abbrev Xe5:=Code.fst (Code.fst (Code.snd (Code.fst (Code.fst (Code.snd Xaw)))))
abbrev F7 (w:World) (F:Nat→Prop) (r:Bool):Ending→World→Prop:=fun e w'=>e=.returned (.bool r)∧B.Loc w w' [] [St w []]
noncomputable abbrev Ce (w:World) (F:Nat→Prop) (r:Bool):Cx:=⟨Tryd.prog,3,Tryd.f3,154,F7 w F  r,w⟩
theorem Xt (w:World) (F:Nat→Prop) (x1:Aq) (x10:List Ai) (x15:ByteArray) (A2:Option Addr) (n3:Nat) (c4:Nat) (A6:Option Addr) (n7:Nat) (c8:Nat) (A11:Option Addr) (n12:Nat) (c13:Nat) (h5:Rw Cb w (St w []).av A2 n3 c4 x1.nodes) (h9:Rw Dq w (St w []).av A6 n7 c8 x1.conds) (h14:Rw D9 w (St w []).av A11 n12 c13 x10) (hG:Tb Tryd.prog (St w [])) (hF:∀ b,F b→b < w.heap.size∧∀ o ∈ ([]:List (List Nat)),b ∉ o) (hL0:B.Loc w w [] [Sm w.heap.size F w [],St w []]) (r:Bool) (h:Nz x1 x10 x15 r):Calls Tryd.prog 3 #[.agg #[.slice A2 n3 c4,.slice A6 n7 c8],.slice A11 n12 c13,.string x15] w (F7 w F  r):=by
 unfold Nz at h
 refine Bl (vs:=[.agg #[.slice A2 n3 c4,.slice A6 n7 c8],.slice A11 n12 c13,.string x15]) 154 Tryd.func3 rfl Tryd.ntmps3 rfl hL0 ?_
 show G (Ce w F r) _ _ _ _
 refine Ag rfl<|Ac rfl rfl ?_
 refine Ci 0 rfl (O3 [.slice A2 n3 c4,.slice A6 n7 c8] rfl rfl rfl fun gb16=>?_) gn
 refine Aa 1 rfl (Af rfl) gn rfl<|Ah 2 rfl<|Ag rfl<|Ag rfl ?_
 have j1:∀ (x36:Bool) (h:Fq x1 x10 x15 x36 r) ,G (Ce w F r) [.code q3c6,.code q3c4] [(1,.slice A11 n12 c13),(2,.string x15),(3,.pointer (some ⟨gb16,0,none⟩)),(28,.bool x36)] [.box gb16 25 [.slice A2 n3 c4,.slice A6 n7 c8]] [Sm w.heap.size F w [],St w []]:=by
  intro x36 h
  unfold Fq at h
  by_cases hp37:x36=true
  ·have h:=Ap hp37 h
   refine Bi rfl _ rfl (hp37)<|Ag rfl<|Ac rfl rfl<|Aa 0 rfl (Af rfl) gn rfl<|Ah 1 rfl ?_
   refine Bg [.bool true] rfl Tryd.func3 rfl (.tmp rfl (.nil)) fun wr hLr=>?_
   have hMr:=hLr.pk0 (.c 1 rfl .n)
   show F7 w F  r (.returned (Bz [.bool true])) wr
   rw [h]
   exact ⟨rfl,hMr⟩
  ·have h:=Am hp37 h
   refine Bc rfl _ rfl ((bf hp37))<|Bo rfl<|Ag rfl<|Ac rfl rfl<|Aa 0 rfl (Ji [.slice A2 n3 c4,.slice A6 n7 c8] 0 O5 rfl rfl rfl rfl) gn rfl ?_
   obtain ⟨r41,hv42,h⟩:=h
   refine Ci 1 rfl (D7 [.agg #[.slice A2 n3 c4,.slice A6 n7 c8]] rfl Tryd.func12 rfl rfl rfl fun w38 hL39=>?_) gn
   have hp40:=pmI hL39 .n (.c 0 rfl .n) (by kernel_rfl)
   refine Calls.mono (Jn w38 (Fl ([]:List Cc)) x1 A2 n3 c4 A6 n7 c8 (Rw.mono h5 (hL39.toSt hp40 (me 1 rfl))) (Rw.mono h9 (hL39.toSt hp40 (me 1 rfl))) (hL39.hFl hp40 (Bf [] rfl)) (hL39.into hp40 _) r41 hv42) ?_
   rintro _ w53 ⟨A43,n44,c45,A48,n49,c50,rfl,hM54,h46,h51⟩
   have hL55:=hL39.call hp40 hM54
   refine ⟨_,_,_,rfl,hL55,?_⟩
   refine Ci 2 rfl (G9 [.slice none 0 0,.slice none 0 0] Xfy rfl fun gb56=>?_) gn
   refine Ci 3 rfl (I9 (vs:=[.slice A43 n44 c45,.slice A48 n49 c50]) (cs':=[.slice A43 n44 c45,.slice A48 n49 c50]) (M':=[.box gb56 25 [.slice A43 n44 c45,.slice A48 n49 c50],.own (.slice A43 n44 c45) 45 5 n44 (r41.nodes.flatMap Bq),.own (.slice A48 n49 c50) 47 4 n49 (r41.conds.flatMap Di),.box gb16 25 [.slice A2 n3 c4,.slice A6 n7 c8]]) 0 Xh8 rfl rfl rfl rfl rfl rfl rfl rfl rfl ?_) gn
   refine Ah 4 rfl<|Ag rfl<|Ac rfl rfl<|Aa 0 rfl (Ae rfl) gn rfl ?_
   obtain ⟨r61,hv62,h⟩:=h
   refine Ci 1 rfl (D7 [.slice A11 n12 c13] rfl Tryd.func13 rfl rfl rfl fun w58 hL59=>?_) gn
   have hp60:=pmI hL59 .n (.c 0 rfl (.c 1 rfl (.c 2 rfl (.c 3 rfl .n)))) (by kernel_rfl)
   refine Calls.mono (I8 w58 (Fl ([]:List Cc)) x10 A11 n12 c13 (Rw.mono h14 (hL59.toSt hp60 (me 1 rfl))) (hL59.hFl hp60 (Bf [] rfl)) (hL59.into hp60 _) r61 hv62) ?_
   rintro _ w68 ⟨A63,n64,c65,rfl,hM69,h66⟩
   have hL70:=hL59.call hp60 hM69
   refine ⟨_,_,_,rfl,hL70,?_⟩
   refine Aa 2 rfl (Af rfl) gn rfl<|Ah 3 rfl<|Ag rfl<|Ac rfl rfl<|Aa 0 rfl (Ji [.slice A43 n44 c45,.slice A48 n49 c50] 1 O5 rfl rfl rfl rfl) gn rfl<|Aa 1 rfl (Ae rfl) gn rfl<|Aa 2 rfl (Ae rfl) gn rfl ?_
   obtain ⟨r74,hv75,h⟩:=h
   refine Ci 3 rfl (D7 [.agg #[.slice A43 n44 c45,.slice A48 n49 c50],.slice A63 n64 c65,.string x15] rfl Tryd.func14 rfl rfl rfl fun w71 hL72=>?_) gn
   have hp73:=pmI hL72 .n (.c 0 rfl (.c 1 rfl (.c 2 rfl (.c 3 rfl (.c 4 rfl .n))))) (by kernel_rfl)
   refine Calls.mono (Sr w71 (Fl ([]:List Cc)) r41 r61 x15 A43 n44 c45 A48 n49 c50 A63 n64 c65 (hL72.argO (dk:=Cb) hp73 [] rfl 2 rfl rfl (Ow.weak hL39.env.size h46) (me 0 rfl) (Cells.flat _)) (hL72.argO (dk:=Dq) hp73 [] rfl 3 rfl rfl (Ow.weak hL39.env.size h51) (me 0 rfl) (Cells.flat _)) (hL72.argO (dk:=D9) hp73 [] rfl 0 rfl rfl (Ow.weak hL59.env.size h66) (me 0 rfl) (Cells.flat _)) (hL72.hFl hp73 (Bf [] rfl)) (hL72.into hp73 _) r74 hv75) ?_
   rintro _ w83 ⟨A76,n77,c78,cs81,rfl,hM84,h79,hC82⟩
   obtain ⟨sb87,hL85,hv86⟩:=hL72.callB (Sl:=([]:List Cc)) hp73 hM84 F (Bf [] rfl) trivial
   have hC82:Cells F6 (Sm w.heap.size F w83 sb87).w (Sm w.heap.size F w83 sb87).av r74 cs81:=Cells.mono hv86 hC82
   refine ⟨_,_,_,rfl,hL85,?_⟩
   refine Aa 4 rfl (Af rfl) gn rfl<|Ah 5 rfl<|Ag rfl<|Ac rfl rfl<|Aa 0 rfl (Ji [.slice A2 n3 c4,.slice A6 n7 c8] 5 O5 rfl rfl rfl rfl) gn rfl ?_
   obtain ⟨r91,hv92,h⟩:=h
   refine Ci 1 rfl (D7 [.agg #[.slice A2 n3 c4,.slice A6 n7 c8]] rfl Tryd.func15 rfl rfl rfl fun w88 hL89=>?_) gn
   have hp90:=pmI hL89 .n (.c 0 rfl (.c 1 rfl (.c 2 rfl (.c 3 rfl (.c 4 rfl (.c 5 rfl .n)))))) (by kernel_rfl)
   refine Calls.mono (Xa0 w88 (Fl ([]:List Cc)) x1 A2 n3 c4 A6 n7 c8 (Rw.mono h5 (hL89.toSt hp90 (me 2 rfl))) (Rw.mono h9 (hL89.toSt hp90 (me 2 rfl))) (hL89.hFl hp90 (Bf [] rfl)) (hL89.into hp90 _) r91 hv92) ?_
   rintro _ w105 ⟨A93,n94,c95,A99,n100,c101,rfl,hM106,h96,hk97,h102,hk103⟩
   have hL107:=hL89.call hp90 hM106
   refine ⟨_,_,_,rfl,hL107,?_⟩
   refine Ci 2 rfl (G9 [.slice none 0 0,.slice none 0 0] Xfy rfl fun gb108=>?_) gn
   refine Ci 3 rfl (I9 (vs:=[.slice A93 r91.2.1 c95,.slice A99 r91.2.2 c101]) (cs':=[.slice A93 r91.2.1 c95,.slice A99 r91.2.2 c101]) (M':=[.box gb108 25 [.slice A93 r91.2.1 c95,.slice A99 r91.2.2 c101],.own (.slice A93 n94 c95) 45 5 n94 (r91.1.nodes.flatMap Bq),.own (.slice A99 n100 c101) 47 4 n100 (r91.1.conds.flatMap Di),.own (.slice A76 n77 c78) 38 1 n77 cs81,.own (.slice A63 n64 c65) 56 7 n64 (r61.flatMap Dz),.box gb56 25 [.slice A43 n44 c45,.slice A48 n49 c50],.own (.slice A43 n44 c45) 45 5 n44 (r41.nodes.flatMap Bq),.own (.slice A48 n49 c50) 47 4 n49 (r41.conds.flatMap Di),.box gb16 25 [.slice A2 n3 c4,.slice A6 n7 c8]]) 0 Xh8 rfl rfl rfl rfl rfl rfl rfl rfl rfl ?_) gn
   refine Ah 4 rfl<|Ag rfl<|Ac rfl rfl<|Aa 0 rfl (Ae rfl) gn rfl ?_
   obtain ⟨r113,hv114,h⟩:=h
   refine Ci 1 rfl (D7 [.slice A11 n12 c13] rfl Tryd.func16 rfl rfl rfl fun w110 hL111=>?_) gn
   have hp112:=pmI hL111 .n (.c 0 rfl (.c 1 rfl (.c 2 rfl (.c 3 rfl (.c 4 rfl (.c 5 rfl (.c 6 rfl (.c 7 rfl (.c 8 rfl .n))))))))) (by kernel_rfl)
   refine Calls.mono (Yf w110 (Fl ([]:List Cc)) x10 A11 n12 c13 (Rw.mono h14 (hL111.toSt hp112 (me 2 rfl))) (hL111.hFl hp112 (Bf [] rfl)) (hL111.into hp112 _) r113 hv114) ?_
   rintro _ w121 ⟨A115,n116,c117,rfl,hM122,h118,hk119⟩
   have hL123:=hL111.call hp112 hM122
   refine ⟨_,_,_,rfl,hL123,?_⟩
   refine Aa 2 rfl (Af rfl) gn rfl<|Ah 3 rfl<|Ag rfl<|Ac rfl rfl<|Aa 0 rfl (Ji [.slice A93 r91.2.1 c95,.slice A99 r91.2.2 c101] 1 O5 rfl rfl rfl rfl) gn rfl<|Aa 1 rfl (Ae rfl) gn rfl<|Aa 2 rfl (Ae rfl) gn rfl ?_
   obtain ⟨r127,hv128,h⟩:=h
   refine Ci 3 rfl (D7 [.agg #[.slice A93 r91.2.1 c95,.slice A99 r91.2.2 c101],.slice A115 r113.2 c117,.string x15] rfl Tryd.func17 rfl rfl rfl fun w124 hL125=>?_) gn
   have hp126:=pmI hL125 .n (.c 0 rfl (.c 1 rfl (.c 2 rfl (.c 3 rfl (.c 4 rfl (.c 5 rfl (.c 6 rfl (.c 7 rfl (.c 8 rfl (.c 9 rfl .n)))))))))) (by kernel_rfl)
   refine Calls.mono (Sv w124 (Fl ([]:List Cc)) (⟨(r91.1.nodes.take r91.2.1),(r91.1.conds.take r91.2.2)⟩:Aq) (r113.1.take r113.2) x15 A93 r91.2.1 c95 A99 r91.2.2 c101 A115 r113.2 c117 (Rw.w (hL125.argV (dk:=Cb) hp126 [] rfl 2 rfl rfl (Ow.weak hL89.env.size h96) (me 1 rfl) (Cells.flat _) (Vw.prefix hk97) (Nat.le_trans hk97 (Ow.weak hL89.env.size h96).hn) (Ow.weak hL89.env.size h96).hm) (by rw [(Eq.refl (r91.1.nodes.take r91.2.1))]; rfl)) (Rw.w (hL125.argV (dk:=Dq) hp126 [] rfl 3 rfl rfl (Ow.weak hL89.env.size h102) (me 1 rfl) (Cells.flat _) (Vw.prefix hk103) (Nat.le_trans hk103 (Ow.weak hL89.env.size h102).hn) (Ow.weak hL89.env.size h102).hm) (by rw [(Eq.refl (r91.1.conds.take r91.2.2))]; rfl)) (Rw.w (hL125.argV (dk:=D9) hp126 [] rfl 0 rfl rfl (Ow.weak hL111.env.size h118) (me 1 rfl) (Cells.flat _) (Vw.prefix hk119) (Nat.le_trans hk119 (Ow.weak hL111.env.size h118).hn) (Ow.weak hL111.env.size h118).hm) (by rw [(Eq.refl (r113.1.take r113.2))]; rfl)) (hL125.tb hp126 hG (me 2 rfl)) (hL125.hFl hp126 (Bf [] rfl)) (hL125.into hp126 _) r127 hv128) ?_
   rintro _ w137 ⟨A129,n130,c131,cs133,bs134,rfl,hM138,h132⟩
   have hL139:=hL125.call hp126 hM138
   refine ⟨_,_,_,rfl,hL139,?_⟩
   refine Xgk (fk:=Ey) (z':=w.heap.size) (j:=1) hL125.env.size rfl<|Aa 4 rfl (Af rfl) gn rfl<|Ah 5 rfl<|Ag rfl<|Ac rfl rfl<|Aa 0 rfl (Ji [.slice A93 r91.2.1 c95,.slice A99 r91.2.2 c101] 3 O5 rfl rfl rfl rfl) gn rfl<|Aa 1 rfl (Ae rfl) gn rfl<|Aa 2 rfl (Ae rfl) gn rfl ?_
   obtain ⟨r143,hv144,h⟩:=h
   refine Ci 3 rfl (D7 [.agg #[.slice A93 r91.2.1 c95,.slice A99 r91.2.2 c101],.slice A115 r113.2 c117,.string x15] rfl Tryd.func17 rfl rfl rfl fun w140 hL141=>?_) gn
   have hp142:=pmI hL141 .n (.c 0 rfl (.c 1 rfl (.c 2 rfl (.c 3 rfl (.c 4 rfl (.c 5 rfl (.c 6 rfl (.c 7 rfl (.c 8 rfl (.c 9 rfl (.c 10 rfl (.c 11 rfl .n)))))))))))) (by kernel_rfl)
   refine Calls.mono (Sv w140 (Fl ([]:List Cc)) (⟨(r91.1.nodes.take r91.2.1),(r91.1.conds.take r91.2.2)⟩:Aq) (r113.1.take r113.2) x15 A93 r91.2.1 c95 A99 r91.2.2 c101 A115 r113.2 c117 (Rw.w (hL141.argV (dk:=Cb) hp142 [] rfl 4 rfl rfl (Ow.weak hL89.env.size h96) (me 1 rfl) (Cells.flat _) (Vw.prefix hk97) (Nat.le_trans hk97 (Ow.weak hL89.env.size h96).hn) (Ow.weak hL89.env.size h96).hm) (by rw [(Eq.refl (r91.1.nodes.take r91.2.1))]; rfl)) (Rw.w (hL141.argV (dk:=Dq) hp142 [] rfl 5 rfl rfl (Ow.weak hL89.env.size h102) (me 1 rfl) (Cells.flat _) (Vw.prefix hk103) (Nat.le_trans hk103 (Ow.weak hL89.env.size h102).hn) (Ow.weak hL89.env.size h102).hm) (by rw [(Eq.refl (r91.1.conds.take r91.2.2))]; rfl)) (Rw.w (hL141.argV (dk:=D9) hp142 [] rfl 2 rfl rfl (Ow.weak hL111.env.size h118) (me 1 rfl) (Cells.flat _) (Vw.prefix hk119) (Nat.le_trans hk119 (Ow.weak hL111.env.size h118).hn) (Ow.weak hL111.env.size h118).hm) (by rw [(Eq.refl (r113.1.take r113.2))]; rfl)) (hL141.tb hp142 hG (me 2 rfl)) (hL141.hFl hp142 (Bf [] rfl)) (hL141.into hp142 _) r143 hv144) ?_
   rintro _ w153 ⟨A145,n146,c147,cs149,bs150,rfl,hM154,h148⟩
   have hL155:=hL141.call hp142 hM154
   refine ⟨_,_,_,rfl,hL155,?_⟩
   refine Xgk (fk:=Ey) (z':=w.heap.size) (j:=1) hL141.env.size rfl<|Aa 4 rfl (Af rfl) gn rfl<|Ah 5 rfl<|Ag rfl<|Ag rfl ?_
   have j2:∀ (x183:Bool) (h:H6 r143 r74 x1 x10 x15 r127 x183 r) ,G (Ce w F r) [.code q3c28,.code q3c26] [(1,.slice A11 n12 c13),(2,.string x15),(3,.pointer (some ⟨gb16,0,none⟩)),(9,.slice A76 n77 c78),(12,.slice A129 n130 c131),(13,.slice A145 n146 c147),(64,.bool x183)] [Hr Ey (w.heap.size) none r127 cs133 bs134,Hr Ey (w.heap.size) none r143 cs149 bs150,.own (.slice A145 n146 c147) 38 1 n146 cs149,.own (.slice A129 n130 c131) 38 1 n130 cs133,.own (.slice A76 n77 c78) 38 1 n77 cs81,.box gb16 25 [.slice A2 n3 c4,.slice A6 n7 c8]] [Sm w.heap.size F w83 sb87,Sm w.heap.size F w [],St w []]:=by
    intro x183 h
    unfold H6 at h
    by_cases hp184:x183=true
    ·have h:=Ap hp184 h
     refine Bi rfl _ rfl (hp184)<|Ag rfl<|Ac rfl rfl<|Aa 0 rfl (Af rfl) gn rfl<|Ah 1 rfl ?_
     refine Bg [.bool false] rfl Tryd.func3 rfl (.tmp rfl (.nil)) fun wr hLr=>?_
     have hMr:=hLr.pk0 (.c 2 rfl .n)
     show F7 w F  r (.returned (Bz [.bool false])) wr
     rw [h]
     exact ⟨rfl,hMr⟩
    ·have h:=Am hp184 h
     refine Bc rfl _ rfl ((bf hp184))<|Bo rfl<|Ag rfl<|Ag rfl<|Ac rfl rfl<|Aa 0 rfl (Af rfl) gn rfl<|Ah 1 rfl<|Bv rfl<|Ei rfl ?_
     have key3:∀ s,Ar (fun (s:(List Be) × Int) o=>Ep r143 r74 x1 x10 x15 s.1 s.2 o) s r→(fun (s:(List Be) × Int)=>∀ (A337:Option Addr) (n338:Nat) (c339:Nat) (cs340:List Value) (bs341:List Nat) (h342:Ow w.heap.size A337 n338 c339 s.1),G (Ce w F r) [.code Xax,.inLoop Xax,.inBlock 0,.code Xcb] [(1,.slice A11 n12 c13),(2,.string x15),(3,.pointer (some ⟨gb16,0,none⟩)),(9,.slice A76 n77 c78),(12,.slice A337 n338 c339),(13,.slice A145 n146 c147),(14,.int .i64 s.2)] [Hr Ey (w.heap.size) none s.1 cs340 bs341,Hr Ey (w.heap.size) none r143 cs149 bs150,.own (.slice A145 n146 c147) 38 1 n146 cs149,.own (.slice A337 n338 c339) 38 1 n338 cs340,.own (.slice A76 n77 c78) 38 1 n77 cs81,.box gb16 25 [.slice A2 n3 c4,.slice A6 n7 c8]] [Sm w.heap.size F w83 sb87,Sm w.heap.size F w [],St w []]) s:=by
      intro s hs
      refine Ar.ind (mot:=(fun (s:(List Be) × Int)=>∀ (A337:Option Addr) (n338:Nat) (c339:Nat) (cs340:List Value) (bs341:List Nat) (h342:Ow w.heap.size A337 n338 c339 s.1),G (Ce w F r) [.code Xax,.inLoop Xax,.inBlock 0,.code Xcb] [(1,.slice A11 n12 c13),(2,.string x15),(3,.pointer (some ⟨gb16,0,none⟩)),(9,.slice A76 n77 c78),(12,.slice A337 n338 c339),(13,.slice A145 n146 c147),(14,.int .i64 s.2)] [Hr Ey (w.heap.size) none s.1 cs340 bs341,Hr Ey (w.heap.size) none r143 cs149 bs150,.own (.slice A145 n146 c147) 38 1 n146 cs149,.own (.slice A337 n338 c339) 38 1 n338 cs340,.own (.slice A76 n77 c78) 38 1 n77 cs81,.box gb16 25 [.slice A2 n3 c4,.slice A6 n7 c8]] [Sm w.heap.size F w83 sb87,Sm w.heap.size F w [],St w []])) ?_ hs
      clear hs s
      intro s o1 h hO1
      obtain ⟨x336,x343⟩:=s
      show ∀ (A337:Option Addr) (n338:Nat) (c339:Nat) (cs340:List Value) (bs341:List Nat) (h342:Ow w.heap.size A337 n338 c339 x336),G (Ce w F r) [.code Xax,.inLoop Xax,.inBlock 0,.code Xcb] [(1,.slice A11 n12 c13),(2,.string x15),(3,.pointer (some ⟨gb16,0,none⟩)),(9,.slice A76 n77 c78),(12,.slice A337 n338 c339),(13,.slice A145 n146 c147),(14,.int .i64 x343)] [Hr Ey (w.heap.size) none x336 cs340 bs341,Hr Ey (w.heap.size) none r143 cs149 bs150,.own (.slice A145 n146 c147) 38 1 n146 cs149,.own (.slice A337 n338 c339) 38 1 n338 cs340,.own (.slice A76 n77 c78) 38 1 n77 cs81,.box gb16 25 [.slice A2 n3 c4,.slice A6 n7 c8]] [Sm w.heap.size F w83 sb87,Sm w.heap.size F w [],St w []]
      intro A337 n338 c339 cs340 bs341 h342
      have h:Ep r143 r74 x1 x10 x15 x336 x343 o1:=h
      unfold Ep at h
      refine Ag rfl<|Ag rfl<|Ac rfl rfl<|Aa 0 rfl (Ae rfl) gn rfl<|Aa 1 rfl (Ae rfl) gn rfl<|Aa 2 rfl (D5 Xh0 rfl h342.hq) gn rfl<|Aa 3 rfl (Ba rfl rfl rfl) gn rfl<|Ah 4 rfl ?_
      by_cases hp1032:x343 < (x336.length:Int)
      ·have h:=Ap hp1032 h
       refine Bi rfl _ rfl ((decide_eq_true hp1032))<|Bo rfl<|Ag rfl<|Bv rfl<|Ag rfl<|Ac rfl rfl<|Aa 0 rfl (Af rfl) gn rfl<|Ah 1 rfl<|Bv rfl<|Ei rfl ?_
       have key4:∀ s,Ar (fun (s:(List Be) × Int) o=>Eo x343 s.1 s.2 o) s o1→(fun (s:(List Be) × Int)=>∀ (A1058:Option Addr) (n1059:Nat) (c1060:Nat) (cs1061:List Value) (bs1062:List Nat) (h1063:Ow w.heap.size A1058 n1059 c1060 s.1),G (Ce w F r) [.code Xh9,.inLoop Xh9,.inBlock 2,.inBlock 1,.code q3c46,.inLoop Xax,.inBlock 0,.code Xcb] [(1,.slice A11 n12 c13),(2,.string x15),(3,.pointer (some ⟨gb16,0,none⟩)),(9,.slice A76 n77 c78),(12,.slice A1058 n1059 c1060),(13,.slice A145 n146 c147),(14,.int .i64 x343),(15,.int .i64 s.2)] [Hr Ey (w.heap.size) none s.1 cs1061 bs1062,Hr Ey (w.heap.size) none r143 cs149 bs150,.own (.slice A145 n146 c147) 38 1 n146 cs149,.own (.slice A1058 n1059 c1060) 38 1 n1059 cs1061,.own (.slice A76 n77 c78) 38 1 n77 cs81,.box gb16 25 [.slice A2 n3 c4,.slice A6 n7 c8]] [Sm w.heap.size F w83 sb87,Sm w.heap.size F w [],St w []]) s:=by
        intro s hs
        refine Ar.ind (mot:=(fun (s:(List Be) × Int)=>∀ (A1058:Option Addr) (n1059:Nat) (c1060:Nat) (cs1061:List Value) (bs1062:List Nat) (h1063:Ow w.heap.size A1058 n1059 c1060 s.1),G (Ce w F r) [.code Xh9,.inLoop Xh9,.inBlock 2,.inBlock 1,.code q3c46,.inLoop Xax,.inBlock 0,.code Xcb] [(1,.slice A11 n12 c13),(2,.string x15),(3,.pointer (some ⟨gb16,0,none⟩)),(9,.slice A76 n77 c78),(12,.slice A1058 n1059 c1060),(13,.slice A145 n146 c147),(14,.int .i64 x343),(15,.int .i64 s.2)] [Hr Ey (w.heap.size) none s.1 cs1061 bs1062,Hr Ey (w.heap.size) none r143 cs149 bs150,.own (.slice A145 n146 c147) 38 1 n146 cs149,.own (.slice A1058 n1059 c1060) 38 1 n1059 cs1061,.own (.slice A76 n77 c78) 38 1 n77 cs81,.box gb16 25 [.slice A2 n3 c4,.slice A6 n7 c8]] [Sm w.heap.size F w83 sb87,Sm w.heap.size F w [],St w []])) ?_ hs
        clear hs s
        intro s o2 h hO2
        obtain ⟨x1057,x1064⟩:=s
        show ∀ (A1058:Option Addr) (n1059:Nat) (c1060:Nat) (cs1061:List Value) (bs1062:List Nat) (h1063:Ow w.heap.size A1058 n1059 c1060 x1057),G (Ce w F r) [.code Xh9,.inLoop Xh9,.inBlock 2,.inBlock 1,.code q3c46,.inLoop Xax,.inBlock 0,.code Xcb] [(1,.slice A11 n12 c13),(2,.string x15),(3,.pointer (some ⟨gb16,0,none⟩)),(9,.slice A76 n77 c78),(12,.slice A1058 n1059 c1060),(13,.slice A145 n146 c147),(14,.int .i64 x343),(15,.int .i64 x1064)] [Hr Ey (w.heap.size) none x1057 cs1061 bs1062,Hr Ey (w.heap.size) none r143 cs149 bs150,.own (.slice A145 n146 c147) 38 1 n146 cs149,.own (.slice A1058 n1059 c1060) 38 1 n1059 cs1061,.own (.slice A76 n77 c78) 38 1 n77 cs81,.box gb16 25 [.slice A2 n3 c4,.slice A6 n7 c8]] [Sm w.heap.size F w83 sb87,Sm w.heap.size F w [],St w []]
        intro A1058 n1059 c1060 cs1061 bs1062 h1063
        have h:Eo x343 x1057 x1064 o2:=h
        unfold Eo at h
        refine Ag rfl<|Ag rfl<|Ac rfl rfl<|Aa 0 rfl (Ae rfl) gn rfl<|Aa 1 rfl (Ae rfl) gn rfl<|Aa 2 rfl (Ae rfl) gn rfl ?_
        obtain ⟨hb1088,h⟩:=h
        refine Xbp (fk:=Ey) (z:=w.heap.size) (j:=0) rfl hb1088 fun A1089 n1090 c1091 h1092 ht1093 hg1094=>?_
        refine Aa 3 rfl (Ec Xci rfl rfl h1063 hb1088) gn rfl<|Aa 4 rfl (Jq Xam rfl) gn rfl<|Aa 5 rfl (Py (.slice A1089 n1090 c1091) 3 Xm rfl rfl (hg1094 0 _ rfl)) gn rfl<|Aa 6 rfl (D5 Iy rfl h1092.hq) gn rfl<|Aa 7 rfl (Ba rfl rfl rfl) gn rfl<|Ah 8 rfl ?_
        by_cases hp1095:x1064 < (((ix x1057 x343).nodes).length:Int)
        ·have h:=Ap hp1095 h
         refine Bi rfl _ rfl ((decide_eq_true hp1095))<|Bo rfl<|Ag rfl<|Bv rfl<|Ac rfl rfl<|Aa 0 rfl (Ae rfl) gn rfl<|Aa 1 rfl (Ae rfl) gn rfl ?_
         refine Xbp (fk:=Ey) (z:=w.heap.size) (j:=0) rfl hb1088 fun A1096 n1097 c1098 h1099 ht1100 hg1101=>?_
         refine Aa 2 rfl (Ec Xci rfl rfl h1063 hb1088) gn rfl<|Aa 3 rfl (Jq Xam rfl) gn rfl<|Aa 4 rfl (Py (.slice A1096 n1097 c1098) 3 Xm rfl rfl (hg1101 0 _ rfl)) gn rfl<|Aa 5 rfl (Ae rfl) gn rfl<|Aa 6 rfl (Ae rfl) gn rfl<|Aa 7 rfl (Ba rfl rfl rfl) gn rfl ?_
         obtain ⟨hb1102,h⟩:=h
         refine Aa 8 rfl (Ec Jb rfl rfl h1099 hb1102) gn rfl ?_
         obtain ⟨x1103,hv1104,h⟩:=h
         obtain ⟨x1105,hv1106,h⟩:=h
         refine w_take (fk:=Ey) (z:=w.heap.size) (j:=0) rfl hb1088 ht1100 fun bs1107=>?_
         refine Ci 9 rfl (Uy (enc:=(eI .i64)) (o:=0) (z:=(w64 ((-7) - x343))) (vs:=[.int .i64 (w64 ((-7) - x343))]) (i:=x1064) 0 (hlI .i64) sz_3 rfl rfl rfl rfl rfl h1099 hb1102 rfl rfl rfl hv1104 fun h1109=>?_) gn
         refine w_put (fk:=Ey) (z:=w.heap.size) (j0:=0) (j:=1) (q:=x343) (by decide) rfl hb1088 rfl ht1100 ({ (ix x1057 x343) with nodes:=x1103 }) h1109 rfl rfl hv1106 fun bs1108=>?_
         have h1110:Ow w.heap.size A1058 n1059 c1060 x1105:=Ow.w h1063 (by rw [hv1106,List.length_set])
         refine Ah 10 rfl<|Bj<|Ac rfl rfl<|Aa 0 rfl (Ae rfl) gn rfl<|Aa 1 rfl (Ba rfl rfl rfl) gn rfl<|Aa 2 rfl (Af rfl) gn rfl<|Ah 3 rfl<|Cm ?_
         have ih:=Out.inl hO2 h
         exact D6 [0,1,2] (ih A1058 n1059 c1060 cs1061 bs1108 h1110) ⟨rfl,rfl,rfl,rfl,rfl,rfl,rfl,rfl,trivial⟩ (.cons_cons _ (.cons_cons _ (.cons_cons _ (.cons_cons _ (.cons_cons _ (.cons_cons _ (.slnil))))))) rfl
        ·have h:=Am hp1095 h
         refine Bc rfl _ rfl ((decide_eq_false hp1095))<|E8 [.inBlock 1,.code q3c46,.inLoop Xax,.inBlock 0,.code Xcb] rfl rfl<|Bj<|Ac rfl rfl<|Aa 0 rfl (Ae rfl) gn rfl<|Aa 1 rfl (Ba rfl rfl rfl) gn rfl<|Aa 2 rfl (Af rfl) gn rfl<|Ah 3 rfl<|Cm ?_
         have h:=Out.inr hO2 h
         have ih:=Out.inl hO1 h
         exact D6 [0,1,2] (ih A1058 n1059 c1060 cs1061 bs1062 h1063) ⟨rfl,rfl,rfl,rfl,rfl,rfl,rfl,trivial⟩ (.cons_cons _ (.cons_cons _ (.cons_cons _ (.cons_cons _ (.cons_cons _ (.cons_cons _ (.slnil))))))) rfl
       exact D6 [0,1,2] (key4 _ h A337 n338 c339 cs340 bs341 h342) ⟨rfl,rfl,rfl,rfl,rfl,rfl,rfl,rfl,trivial⟩ (.cons_cons _ (.cons_cons _ (.cons_cons _ (.cons_cons _ (.cons_cons _ (.cons_cons _ (.slnil))))))) rfl
      ·have h:=Am hp1032 h
       refine Bc rfl _ rfl ((decide_eq_false hp1032))<|E8 [.code Xcb] rfl rfl<|Ag rfl<|Ac rfl rfl<|Aa 0 rfl (Af rfl) gn rfl<|Ah 1 rfl<|Ag rfl<|Ag rfl<|Ac rfl rfl<|Aa 0 rfl (Af rfl) gn rfl<|Ah 1 rfl<|Bv rfl ?_
       refine Ei rfl ?_
       have key5:∀ s,Ar (fun (s:Int × Int) o=>En x336 r143 r74 x1 x10 x15 s.1 s.2 o) s o1→(fun (s:Int × Int)=>∀ (bs1197:List Nat),G (Ce w F r) [.code Zw,.inLoop Zw,.inBlock 4,.code Xc8] [(1,.slice A11 n12 c13),(2,.string x15),(3,.pointer (some ⟨gb16,0,none⟩)),(9,.slice A76 n77 c78),(12,.slice A337 n338 c339),(13,.slice A145 n146 c147),(16,.int .i64 s.1),(17,.int .i64 s.2)] [Hr Ey (w.heap.size) none x336 cs340 bs1197,Hr Ey (w.heap.size) none r143 cs149 bs150,.own (.slice A145 n146 c147) 38 1 n146 cs149,.own (.slice A337 n338 c339) 38 1 n338 cs340,.own (.slice A76 n77 c78) 38 1 n77 cs81,.box gb16 25 [.slice A2 n3 c4,.slice A6 n7 c8]] [Sm w.heap.size F w83 sb87,Sm w.heap.size F w [],St w []]) s:=by
        intro s hs
        refine Ar.ind (mot:=(fun (s:Int × Int)=>∀ (bs1197:List Nat),G (Ce w F r) [.code Zw,.inLoop Zw,.inBlock 4,.code Xc8] [(1,.slice A11 n12 c13),(2,.string x15),(3,.pointer (some ⟨gb16,0,none⟩)),(9,.slice A76 n77 c78),(12,.slice A337 n338 c339),(13,.slice A145 n146 c147),(16,.int .i64 s.1),(17,.int .i64 s.2)] [Hr Ey (w.heap.size) none x336 cs340 bs1197,Hr Ey (w.heap.size) none r143 cs149 bs150,.own (.slice A145 n146 c147) 38 1 n146 cs149,.own (.slice A337 n338 c339) 38 1 n338 cs340,.own (.slice A76 n77 c78) 38 1 n77 cs81,.box gb16 25 [.slice A2 n3 c4,.slice A6 n7 c8]] [Sm w.heap.size F w83 sb87,Sm w.heap.size F w [],St w []])) ?_ hs
        clear hs s
        intro s o2 h hO2
        obtain ⟨x1198,x1199⟩:=s
        show ∀ (bs1197:List Nat),G (Ce w F r) [.code Zw,.inLoop Zw,.inBlock 4,.code Xc8] [(1,.slice A11 n12 c13),(2,.string x15),(3,.pointer (some ⟨gb16,0,none⟩)),(9,.slice A76 n77 c78),(12,.slice A337 n338 c339),(13,.slice A145 n146 c147),(16,.int .i64 x1198),(17,.int .i64 x1199)] [Hr Ey (w.heap.size) none x336 cs340 bs1197,Hr Ey (w.heap.size) none r143 cs149 bs150,.own (.slice A145 n146 c147) 38 1 n146 cs149,.own (.slice A337 n338 c339) 38 1 n338 cs340,.own (.slice A76 n77 c78) 38 1 n77 cs81,.box gb16 25 [.slice A2 n3 c4,.slice A6 n7 c8]] [Sm w.heap.size F w83 sb87,Sm w.heap.size F w [],St w []]
        intro bs1197
        have h:En x336 r143 r74 x1 x10 x15 x1198 x1199 o2:=h
        unfold En at h
        refine Ag rfl<|Ag rfl<|Ac rfl rfl<|Aa 0 rfl (Ae rfl) gn rfl<|Aa 1 rfl (Ae rfl) gn rfl<|Aa 2 rfl (D5 Xh0 rfl h342.hq) gn rfl<|Aa 3 rfl (Ba rfl rfl rfl) gn rfl<|Ah 4 rfl ?_
        by_cases hp1459:x1199 < (x336.length:Int)
        ·have h:=Ap hp1459 h
         refine Bi rfl _ rfl ((decide_eq_true hp1459))<|Bo rfl<|Ag rfl<|Bv rfl<|Ag rfl<|Ac rfl rfl<|Aa 0 rfl (Ae rfl) gn rfl<|Aa 1 rfl (Ae rfl) gn rfl ?_
         obtain ⟨hb1460,h⟩:=h
         refine Xbp (fk:=Ey) (z:=w.heap.size) (j:=0) rfl hb1460 fun A1461 n1462 c1463 h1464 ht1465 hg1466=>?_
         refine Aa 2 rfl (Ec Xci rfl rfl h342 hb1460) gn rfl<|Aa 3 rfl (Jq Xam rfl) gn rfl<|Aa 4 rfl (Py (.slice A1461 n1462 c1463) 3 Xm rfl rfl (hg1466 0 _ rfl)) gn rfl<|Aa 5 rfl (Af rfl) gn rfl<|Ah 6 rfl<|Ag rfl<|Ag rfl<|Ac rfl rfl<|Aa 0 rfl (Af rfl) gn rfl<|Ah 1 rfl<|Bv rfl<|Ei rfl ?_
         have key6:∀ s,Ar (fun (s:(List Int) × Int) o=>Dt x1198 x1199 s.1 s.2 o) s o2→(fun (s:(List Int) × Int)=>∀ (bs1479:List Nat) (A1481:Option Addr) (n1482:Nat) (c1483:Nat) (h1484:Ow 0 A1481 n1482 c1483 s.1),G (Ce w F r) [.code Xhn,.inLoop Xhn,.inBlock 6,.code q3c95,.inBlock 5,.code q3c90,.inLoop Zw,.inBlock 4,.code Xc8] [(1,.slice A11 n12 c13),(2,.string x15),(3,.pointer (some ⟨gb16,0,none⟩)),(9,.slice A76 n77 c78),(12,.slice A337 n338 c339),(13,.slice A145 n146 c147),(16,.int .i64 x1198),(17,.int .i64 x1199),(18,.slice A1481 n1482 c1483),(19,.int .i64 s.2)] [Xb6 Ey (w.heap.size) (x1199:Int).toNat x336 cs340 bs1479 A1481 n1482 c1483 s.1,Hr Ey (w.heap.size) none r143 cs149 bs150,.own (.slice A145 n146 c147) 38 1 n146 cs149,.own (.slice A337 n338 c339) 38 1 n338 cs340,.own (.slice A76 n77 c78) 38 1 n77 cs81,.box gb16 25 [.slice A2 n3 c4,.slice A6 n7 c8]] [Sm w.heap.size F w83 sb87,Sm w.heap.size F w [],St w []]) s:=by
          intro s hs
          refine Ar.ind (mot:=(fun (s:(List Int) × Int)=>∀ (bs1479:List Nat) (A1481:Option Addr) (n1482:Nat) (c1483:Nat) (h1484:Ow 0 A1481 n1482 c1483 s.1),G (Ce w F r) [.code Xhn,.inLoop Xhn,.inBlock 6,.code q3c95,.inBlock 5,.code q3c90,.inLoop Zw,.inBlock 4,.code Xc8] [(1,.slice A11 n12 c13),(2,.string x15),(3,.pointer (some ⟨gb16,0,none⟩)),(9,.slice A76 n77 c78),(12,.slice A337 n338 c339),(13,.slice A145 n146 c147),(16,.int .i64 x1198),(17,.int .i64 x1199),(18,.slice A1481 n1482 c1483),(19,.int .i64 s.2)] [Xb6 Ey (w.heap.size) (x1199:Int).toNat x336 cs340 bs1479 A1481 n1482 c1483 s.1,Hr Ey (w.heap.size) none r143 cs149 bs150,.own (.slice A145 n146 c147) 38 1 n146 cs149,.own (.slice A337 n338 c339) 38 1 n338 cs340,.own (.slice A76 n77 c78) 38 1 n77 cs81,.box gb16 25 [.slice A2 n3 c4,.slice A6 n7 c8]] [Sm w.heap.size F w83 sb87,Sm w.heap.size F w [],St w []])) ?_ hs
          clear hs s
          intro s o3 h hO3
          obtain ⟨x1480,x1485⟩:=s
          show ∀ (bs1479:List Nat) (A1481:Option Addr) (n1482:Nat) (c1483:Nat) (h1484:Ow 0 A1481 n1482 c1483 x1480),G (Ce w F r) [.code Xhn,.inLoop Xhn,.inBlock 6,.code q3c95,.inBlock 5,.code q3c90,.inLoop Zw,.inBlock 4,.code Xc8] [(1,.slice A11 n12 c13),(2,.string x15),(3,.pointer (some ⟨gb16,0,none⟩)),(9,.slice A76 n77 c78),(12,.slice A337 n338 c339),(13,.slice A145 n146 c147),(16,.int .i64 x1198),(17,.int .i64 x1199),(18,.slice A1481 n1482 c1483),(19,.int .i64 x1485)] [Xb6 Ey (w.heap.size) (x1199:Int).toNat x336 cs340 bs1479 A1481 n1482 c1483 x1480,Hr Ey (w.heap.size) none r143 cs149 bs150,.own (.slice A145 n146 c147) 38 1 n146 cs149,.own (.slice A337 n338 c339) 38 1 n338 cs340,.own (.slice A76 n77 c78) 38 1 n77 cs81,.box gb16 25 [.slice A2 n3 c4,.slice A6 n7 c8]] [Sm w.heap.size F w83 sb87,Sm w.heap.size F w [],St w []]
          intro bs1479 A1481 n1482 c1483 h1484
          have h:Dt x1198 x1199 x1480 x1485 o3:=h
          unfold Dt at h
          refine Ag rfl<|Ag rfl<|Ac rfl rfl<|Aa 0 rfl (Ae rfl) gn rfl<|Aa 1 rfl (Ba rfl rfl rfl) gn rfl<|Ah 2 rfl ?_
          by_cases hp1498:x1485 < 70
          ·have h:=Ap hp1498 h
           refine Bi rfl _ rfl ((decide_eq_true hp1498))<|Bo rfl<|Ag rfl<|Bv rfl<|Ac rfl rfl<|Aa 0 rfl (Ae rfl) gn rfl<|Aa 1 rfl (Ae rfl) gn rfl<|Aa 2 rfl (Ba rfl rfl rfl) gn rfl ?_
           refine Ci 3 rfl (Io (xs:=([w64 (901 + x1485)]:List Int)) [.int .i64 (w64 (901 + x1485))] Qx rfl (by kernel_rfl) rfl rfl rfl rfl fun gb1500 h1501=>?_) gn
           obtain ⟨x1506,hv1507,h⟩:=h
           obtain ⟨hb1508,h⟩:=h
           refine Ci 4 rfl (s_appG (fk:=Ey) (z:=w.heap.size) (us:=([w64 (901 + x1485)]:List Int)) 1 Y5 rfl rfl rfl h1484 (Src.ownF (hl:=(hlI .i64)) (h1:=(F9 .i64)) 0 rfl h1501) rfl hv1507 h1501.hq rfl hb1508 rfl rfl fun A1502 c1503 bs1505 h1504=>?_) gn
           refine Aa 5 rfl (Af rfl) gn rfl<|Ah 6 rfl<|Bj<|Ac rfl rfl<|Aa 0 rfl (Ae rfl) gn rfl<|Aa 1 rfl (Ba rfl rfl rfl) gn rfl<|Aa 2 rfl (Af rfl) gn rfl<|Ah 3 rfl<|Cm ?_
           have ih:=Out.inl hO3 h
           exact D6 [0,1,2] (ih bs1505 A1502 (n1482 + 1) c1503 h1504) ⟨rfl,rfl,rfl,rfl,rfl,rfl,rfl,rfl,rfl,rfl,trivial⟩ (.cons _ (.cons_cons _ (.cons_cons _ (.cons_cons _ (.cons_cons _ (.cons_cons _ (.cons_cons _ (.slnil)))))))) rfl
          ·have h:=Am hp1498 h
           refine Bc rfl _ rfl ((decide_eq_false hp1498))<|E8 [.code q3c95,.inBlock 5,.code q3c90,.inLoop Zw,.inBlock 4,.code Xc8] rfl rfl<|Ac rfl rfl<|Aa 0 rfl (Ae rfl) gn rfl<|Aa 1 rfl (Ae rfl) gn rfl<|Aa 2 rfl (D5 Iy rfl h1484.hq) gn rfl<|Aa 3 rfl (Ba rfl rfl rfl) gn rfl<|Aa 4 rfl (Af rfl) gn rfl<|Ah 5 rfl<|Bj<|Ac rfl rfl<|Aa 0 rfl (Ae rfl) gn rfl ?_
           refine Aa 1 rfl (Ba rfl rfl rfl) gn rfl<|Aa 2 rfl (Af rfl) gn rfl<|Ah 3 rfl<|Cm ?_
           refine g_ungrow (fk:=Ey) (z:=w.heap.size) (j:=0) rfl fun bs1509=>?_
           have h:=Out.inr hO3 h
           have ih:=Out.inl hO2 h
           exact D6 [0,1,2] (ih bs1509) ⟨rfl,rfl,rfl,rfl,rfl,rfl,rfl,rfl,trivial⟩ (.cons_cons _ (.cons_cons _ (.cons_cons _ (.cons_cons _ (.cons_cons _ (.cons_cons _ (.slnil))))))) rfl
         refine g_grow (fk:=Ey) (z:=w.heap.size) (j:=0) rfl hb1460 ht1465 fun bs1510=>?_
         exact D6 [0,1,2] (key6 _ h bs1510 A1461 n1462 c1463 (Ow.any h1464)) ⟨rfl,rfl,rfl,rfl,rfl,rfl,rfl,rfl,rfl,rfl,trivial⟩ (.cons_cons _ (.cons_cons _ (.cons_cons _ (.cons_cons _ (.cons_cons _ (.cons_cons _ (.slnil))))))) rfl
        ·have h:=Am hp1459 h
         refine Bc rfl _ rfl ((decide_eq_false hp1459))<|E8 [.code Xc8] rfl rfl<|Ag rfl<|Ag rfl<|Ac rfl rfl<|Aa 0 rfl (Af rfl) gn rfl<|Ah 1 rfl<|Bv rfl<|Ei rfl ?_
         have key7:∀ s,Ar (fun (s:Int) o=>H7 x336 x1198 r143 r74 x1 x10 x15 s o) s o2→(fun (s:Int)=>∀ (_:Unit),G (Ce w F r) [.code Xaw,.inLoop Xaw,.inBlock 8,.code Xf2] [(1,.slice A11 n12 c13),(2,.string x15),(3,.pointer (some ⟨gb16,0,none⟩)),(9,.slice A76 n77 c78),(12,.slice A337 n338 c339),(13,.slice A145 n146 c147),(16,.int .i64 x1198),(20,.int .i64 s)] [Hr Ey (w.heap.size) none x336 cs340 bs1197,Hr Ey (w.heap.size) none r143 cs149 bs150,.own (.slice A145 n146 c147) 38 1 n146 cs149,.own (.slice A337 n338 c339) 38 1 n338 cs340,.own (.slice A76 n77 c78) 38 1 n77 cs81,.box gb16 25 [.slice A2 n3 c4,.slice A6 n7 c8]] [Sm w.heap.size F w83 sb87,Sm w.heap.size F w [],St w []]) s:=by
          intro s hs
          refine Ar.ind (mot:=(fun (s:Int)=>∀ (_:Unit),G (Ce w F r) [.code Xaw,.inLoop Xaw,.inBlock 8,.code Xf2] [(1,.slice A11 n12 c13),(2,.string x15),(3,.pointer (some ⟨gb16,0,none⟩)),(9,.slice A76 n77 c78),(12,.slice A337 n338 c339),(13,.slice A145 n146 c147),(16,.int .i64 x1198),(20,.int .i64 s)] [Hr Ey (w.heap.size) none x336 cs340 bs1197,Hr Ey (w.heap.size) none r143 cs149 bs150,.own (.slice A145 n146 c147) 38 1 n146 cs149,.own (.slice A337 n338 c339) 38 1 n338 cs340,.own (.slice A76 n77 c78) 38 1 n77 cs81,.box gb16 25 [.slice A2 n3 c4,.slice A6 n7 c8]] [Sm w.heap.size F w83 sb87,Sm w.heap.size F w [],St w []])) ?_ hs
          clear hs s
          intro x1581 o3 h hO3
          show ∀ (_:Unit),G (Ce w F r) [.code Xaw,.inLoop Xaw,.inBlock 8,.code Xf2] [(1,.slice A11 n12 c13),(2,.string x15),(3,.pointer (some ⟨gb16,0,none⟩)),(9,.slice A76 n77 c78),(12,.slice A337 n338 c339),(13,.slice A145 n146 c147),(16,.int .i64 x1198),(20,.int .i64 x1581)] [Hr Ey (w.heap.size) none x336 cs340 bs1197,Hr Ey (w.heap.size) none r143 cs149 bs150,.own (.slice A145 n146 c147) 38 1 n146 cs149,.own (.slice A337 n338 c339) 38 1 n338 cs340,.own (.slice A76 n77 c78) 38 1 n77 cs81,.box gb16 25 [.slice A2 n3 c4,.slice A6 n7 c8]] [Sm w.heap.size F w83 sb87,Sm w.heap.size F w [],St w []]
          intro _
          have h:H7 x336 x1198 r143 r74 x1 x10 x15 x1581 o3:=h
          unfold H7 at h
          refine Ag rfl<|Ag rfl<|Ac rfl rfl<|Aa 0 rfl (Ae rfl) gn rfl<|Aa 1 rfl (Ae rfl) gn rfl<|Aa 2 rfl (D5 Xh0 rfl h342.hq) gn rfl<|Aa 3 rfl (Ba rfl rfl rfl) gn rfl<|Ah 4 rfl ?_
          by_cases hp1651:x1581 < (x336.length:Int)
          ·have h:=Ap hp1651 h
           refine Bi rfl _ rfl ((decide_eq_true hp1651))<|Bo rfl<|Ag rfl<|Bv rfl<|Ag rfl<|Ac rfl rfl<|Aa 0 rfl (Af rfl) gn rfl<|Ah 1 rfl<|Bv rfl<|Ei rfl ?_
           have key8:∀ s,Ar (fun (s:Int) o=>Fv x1581 x336 s o) s o3→(fun (s:Int)=>∀ (_:Unit),G (Ce w F r) [.code Xe5,.inLoop Xe5,.inBlock 10,.inBlock 9,.code Xi0,.inLoop Xaw,.inBlock 8,.code Xf2] [(1,.slice A11 n12 c13),(2,.string x15),(3,.pointer (some ⟨gb16,0,none⟩)),(9,.slice A76 n77 c78),(12,.slice A337 n338 c339),(13,.slice A145 n146 c147),(16,.int .i64 x1198),(20,.int .i64 x1581),(21,.int .i64 s)] [Hr Ey (w.heap.size) none x336 cs340 bs1197,Hr Ey (w.heap.size) none r143 cs149 bs150,.own (.slice A145 n146 c147) 38 1 n146 cs149,.own (.slice A337 n338 c339) 38 1 n338 cs340,.own (.slice A76 n77 c78) 38 1 n77 cs81,.box gb16 25 [.slice A2 n3 c4,.slice A6 n7 c8]] [Sm w.heap.size F w83 sb87,Sm w.heap.size F w [],St w []]) s:=by
            intro s hs
            refine Ar.ind (mot:=(fun (s:Int)=>∀ (_:Unit),G (Ce w F r) [.code Xe5,.inLoop Xe5,.inBlock 10,.inBlock 9,.code Xi0,.inLoop Xaw,.inBlock 8,.code Xf2] [(1,.slice A11 n12 c13),(2,.string x15),(3,.pointer (some ⟨gb16,0,none⟩)),(9,.slice A76 n77 c78),(12,.slice A337 n338 c339),(13,.slice A145 n146 c147),(16,.int .i64 x1198),(20,.int .i64 x1581),(21,.int .i64 s)] [Hr Ey (w.heap.size) none x336 cs340 bs1197,Hr Ey (w.heap.size) none r143 cs149 bs150,.own (.slice A145 n146 c147) 38 1 n146 cs149,.own (.slice A337 n338 c339) 38 1 n338 cs340,.own (.slice A76 n77 c78) 38 1 n77 cs81,.box gb16 25 [.slice A2 n3 c4,.slice A6 n7 c8]] [Sm w.heap.size F w83 sb87,Sm w.heap.size F w [],St w []])) ?_ hs
            clear hs s
            intro x1669 o4 h hO4
            show ∀ (_:Unit),G (Ce w F r) [.code Xe5,.inLoop Xe5,.inBlock 10,.inBlock 9,.code Xi0,.inLoop Xaw,.inBlock 8,.code Xf2] [(1,.slice A11 n12 c13),(2,.string x15),(3,.pointer (some ⟨gb16,0,none⟩)),(9,.slice A76 n77 c78),(12,.slice A337 n338 c339),(13,.slice A145 n146 c147),(16,.int .i64 x1198),(20,.int .i64 x1581),(21,.int .i64 x1669)] [Hr Ey (w.heap.size) none x336 cs340 bs1197,Hr Ey (w.heap.size) none r143 cs149 bs150,.own (.slice A145 n146 c147) 38 1 n146 cs149,.own (.slice A337 n338 c339) 38 1 n338 cs340,.own (.slice A76 n77 c78) 38 1 n77 cs81,.box gb16 25 [.slice A2 n3 c4,.slice A6 n7 c8]] [Sm w.heap.size F w83 sb87,Sm w.heap.size F w [],St w []]
            intro _
            have h:Fv x1581 x336 x1669 o4:=h
            unfold Fv at h
            refine Ag rfl<|Ag rfl<|Ac rfl rfl<|Aa 0 rfl (Ae rfl) gn rfl<|Aa 1 rfl (Ae rfl) gn rfl<|Aa 2 rfl (Ae rfl) gn rfl ?_
            obtain ⟨hb1686,h⟩:=h
            refine Xbp (fk:=Ey) (z:=w.heap.size) (j:=0) rfl hb1686 fun A1687 n1688 c1689 h1690 ht1691 hg1692=>?_
            refine Aa 3 rfl (Ec Xci rfl rfl h342 hb1686) gn rfl<|Aa 4 rfl (Jq Xam rfl) gn rfl<|Aa 5 rfl (Py (.slice A1687 n1688 c1689) 3 Xm rfl rfl (hg1692 0 _ rfl)) gn rfl<|Aa 6 rfl (D5 Iy rfl h1690.hq) gn rfl<|Aa 7 rfl (Ba rfl rfl rfl) gn rfl<|Ah 8 rfl ?_
            by_cases hp1693:x1669 < (((ix x336 x1581).nodes).length:Int)
            ·have h:=Ap hp1693 h
             refine Bi rfl _ rfl ((decide_eq_true hp1693))<|Bo rfl<|Ag rfl<|Bv rfl<|Ag rfl<|Ac rfl rfl<|Aa 0 rfl (Ae rfl) gn rfl<|Aa 1 rfl (Ae rfl) gn rfl ?_
             refine Xbp (fk:=Ey) (z:=w.heap.size) (j:=0) rfl hb1686 fun A1694 n1695 c1696 h1697 ht1698 hg1699=>?_
             refine Aa 2 rfl (Ec Xci rfl rfl h342 hb1686) gn rfl<|Aa 3 rfl (Jq Xam rfl) gn rfl<|Aa 4 rfl (Py (.slice A1694 n1695 c1696) 3 Xm rfl rfl (hg1699 0 _ rfl)) gn rfl<|Aa 5 rfl (Ae rfl) gn rfl ?_
             obtain ⟨hb1700,h⟩:=h
             refine Aa 6 rfl (Ec Jb rfl rfl h1697 hb1700) gn rfl<|Aa 7 rfl (v_ldF1 (fk:=Ey) (z:=w.heap.size) (.int .i64 (ix ((ix x336 x1581).nodes) x1669)) 0 O9 rfl rfl hb1686 ht1698 (U6 (hlI .i64) hb1700 rfl)) gn rfl<|Aa 8 rfl (Ae rfl) gn rfl<|Aa 9 rfl (Ba rfl rfl rfl) gn rfl<|Aa 10 rfl (Ba rfl rfl rfl) gn rfl<|Ah 11 rfl ?_
             by_cases hp1701:ix ((ix x336 x1581).nodes) x1669=w64 ((-7) - x1581)
             ·have h:=Ap hp1701 h
              refine Bc rfl _ rfl ((eqib hp1701))<|Bo rfl<|Bj<|Ac rfl rfl<|Aa 0 rfl (Ae rfl) gn rfl<|Aa 1 rfl (Ba rfl rfl rfl) gn rfl<|Aa 2 rfl (Af rfl) gn rfl<|Ah 3 rfl<|Cm ?_
              have ih:=Out.inl hO4 h
              exact D6 [0,1,2] (ih ()) ⟨rfl,rfl,rfl,rfl,rfl,rfl,rfl,rfl,rfl,trivial⟩ (.cons_cons _ (.cons_cons _ (.cons_cons _ (.cons_cons _ (.cons_cons _ (.cons_cons _ (.slnil))))))) rfl
             ·have h:=Am hp1701 h
              refine Bi rfl _ rfl ((neib hp1701))<|Ag rfl<|Ac rfl rfl<|Aa 0 rfl (Af rfl) gn rfl<|Ah 1 rfl ?_
              have h:=Out.inr hO4 h
              have h:=Out.inr hO3 h
              have h:=Out.inr hO2 h
              have h:=Out.inr hO1 h
              refine Bg [.bool false] rfl Tryd.func3 rfl (.tmp rfl (.nil)) fun wr hLr=>?_
              have hMr:=hLr.pk0 (.c 2 rfl .n)
              show F7 w F  r (.returned (Bz [.bool false])) wr
              rw [h]
              exact ⟨rfl,hMr⟩
            ·have h:=Am hp1693 h
             refine Bc rfl _ rfl ((decide_eq_false hp1693))<|E8 [.inBlock 9,.code Xi0,.inLoop Xaw,.inBlock 8,.code Xf2] rfl rfl<|Bj<|Ac rfl rfl<|Aa 0 rfl (Ae rfl) gn rfl<|Aa 1 rfl (Ba rfl rfl rfl) gn rfl<|Aa 2 rfl (Af rfl) gn rfl<|Ah 3 rfl<|Cm ?_
             have h:=Out.inr hO4 h
             have ih:=Out.inl hO3 h
             exact D6 [0,1,2] (ih ()) ⟨rfl,rfl,rfl,rfl,rfl,rfl,rfl,rfl,trivial⟩ (.cons_cons _ (.cons_cons _ (.cons_cons _ (.cons_cons _ (.cons_cons _ (.cons_cons _ (.slnil))))))) rfl
           exact D6 [0,1,2] (key8 _ h ()) ⟨rfl,rfl,rfl,rfl,rfl,rfl,rfl,rfl,rfl,trivial⟩ (.cons_cons _ (.cons_cons _ (.cons_cons _ (.cons_cons _ (.cons_cons _ (.cons_cons _ (.slnil))))))) rfl
          ·have h:=Am hp1651 h
           refine Bc rfl _ rfl ((decide_eq_false hp1651))<|E8 [.code Xf2] rfl rfl<|Ag rfl<|Ac rfl rfl<|Aa 0 rfl (Ae rfl) gn rfl<|Aa 1 rfl (Ba rfl rfl rfl) gn rfl<|Aa 2 rfl (Ae rfl) gn rfl ?_
           by_cases hp1702:x1198≥0
           ·have h:=Ap hp1702 h
            refine Bh 143 rfl ((decide_eq_true hp1702))<|Aa 3 rfl (Ae rfl) (gy 143 rfl rfl) rfl<|Aa 4 rfl (Ae rfl) (gy 143 rfl rfl) rfl ?_
            obtain ⟨r1706,hv1707,h⟩:=h
            refine Ci 5 rfl (D7 [.slice A145 n146 c147,.slice A76 n77 c78] rfl Tryd.func18 rfl rfl rfl fun w1703 hL1704=>?_) (gy 143 rfl rfl)
            have hp1705:=pmI hL1704 .n (.c 0 rfl (.c 1 rfl (.c 2 rfl (.c 3 rfl (.c 4 rfl (.c 5 rfl .n)))))) (by kernel_rfl)
            refine Calls.mono (Jg w1703 (Fl ([]:List Cc)) r143 r74 A145 n146 c147 A76 n77 c78 (hL1704.argFam (fk:=Ey) (dk:=F6) hp1705 [] rfl 2 1 rfl rfl rfl rfl (Ow.weak hL141.env.size h148) (fun _ _ _ _ h=>⟨_,_,_,rfl,h⟩)) (hL1704.argO (dk:=F6) hp1705 [] rfl 4 rfl rfl (Ow.weak hL72.env.size h79) (me 0 rfl) hC82) (hL1704.hFl hp1705 (Bf [] rfl)) (hL1704.into hp1705 _) r1706 hv1707) ?_
            rintro _ w1708 ⟨rfl,hM1709⟩
            have hL1710:=hL1704.call hp1705 hM1709
            refine ⟨_,_,_,rfl,hL1710,?_⟩
            refine Aa 6 rfl (Aw (b:=true) rfl rfl) gn rfl<|Aa 7 rfl (Ae rfl) gn rfl ?_
            by_cases hp1711:r1706=true
            ·have h:=Ap hp1711 h
             refine Bh 148 rfl (hp1711)<|Aa 8 rfl (Ji [.slice A2 n3 c4,.slice A6 n7 c8] 5 O5 rfl rfl rfl rfl) (gy 148 rfl rfl) rfl<|Aa 9 rfl (Ae rfl) (gy 148 rfl rfl) rfl<|Aa 10 rfl (Ae rfl) (gy 148 rfl rfl) rfl ?_
             obtain ⟨r1715,hv1716,h⟩:=h
             refine Ci 11 rfl (D7 [.agg #[.slice A2 n3 c4,.slice A6 n7 c8],.slice A11 n12 c13,.string x15] rfl Tryd.func21 rfl rfl rfl fun w1712 hL1713=>?_) (gy 148 rfl rfl)
             have hp1714:=pmI hL1713 .n (.c 0 rfl (.c 1 rfl (.c 2 rfl (.c 3 rfl (.c 4 rfl (.c 5 rfl .n)))))) (by kernel_rfl)
             refine Calls.mono (Yo w1712 (Fl ([]:List Cc)) x1 x10 x15 A2 n3 c4 A6 n7 c8 A11 n12 c13 (Rw.mono h5 (hL1713.toSt hp1714 (me 2 rfl))) (Rw.mono h9 (hL1713.toSt hp1714 (me 2 rfl))) (Rw.mono h14 (hL1713.toSt hp1714 (me 2 rfl))) (hL1713.tb hp1714 hG (me 2 rfl)) (hL1713.hFl hp1714 (Bf [] rfl)) (hL1713.into hp1714 _) r1715 hv1716) ?_
             rintro _ w1717 ⟨rfl,hM1718⟩
             have hL1719:=hL1713.call hp1714 hM1718
             refine ⟨_,_,_,rfl,hL1719,?_⟩
             refine Aa 12 rfl (Aw (b:=true) rfl rfl) gn rfl<|Aa 13 rfl (Af rfl) gn rfl<|Ah 14 rfl ?_
             have h:=Out.inr hO3 h
             have h:=Out.inr hO2 h
             have h:=Out.inr hO1 h
             refine Bg [.bool r1715] rfl Tryd.func3 rfl (.tmp rfl (.nil)) fun wr hLr=>?_
             have hMr:=hLr.pk0 (.c 2 rfl .n)
             show F7 w F  r (.returned (Bz [.bool r1715])) wr
             rw [h]
             exact ⟨rfl,hMr⟩
            ·have h:=Am hp1711 h
             refine Bh 148 rfl ((bf hp1711))<|Ad 8 rfl (ps 148 rfl rfl rfl)<|Ad 9 rfl (ps 148 rfl rfl rfl)<|Ad 10 rfl (ps 148 rfl rfl rfl)<|Ad 11 rfl (ps 148 rfl rfl rfl)<|Aa 12 rfl (Aw (b:=false) rfl rfl) gn rfl<|Aa 13 rfl (Af rfl) gn rfl<|Ah 14 rfl ?_
             have h:=Out.inr hO3 h
             have h:=Out.inr hO2 h
             have h:=Out.inr hO1 h
             refine Bg [.bool false] rfl Tryd.func3 rfl (.tmp rfl (.nil)) fun wr hLr=>?_
             have hMr:=hLr.pk0 (.c 2 rfl .n)
             show F7 w F  r (.returned (Bz [.bool false])) wr
             rw [h]
             exact ⟨rfl,hMr⟩
           ·have h:=Am hp1702 h
            refine Bh 143 rfl ((decide_eq_false hp1702))<|Ad 3 rfl (ps 143 rfl rfl rfl)<|Ad 4 rfl (ps 143 rfl rfl rfl)<|Ad 5 rfl (ps 143 rfl rfl rfl)<|Aa 6 rfl (Aw (b:=false) rfl rfl) gn rfl<|Aa 7 rfl (Ae rfl) gn rfl<|Ad 8 rfl (ps 148 rfl rfl rfl)<|Ad 9 rfl (ps 148 rfl rfl rfl)<|Ad 10 rfl (ps 148 rfl rfl rfl)<|Ad 11 rfl (ps 148 rfl rfl rfl)<|Aa 12 rfl (Aw (b:=false) rfl rfl) gn rfl<|Aa 13 rfl (Af rfl) gn rfl ?_
            refine Ah 14 rfl ?_
            have h:=Out.inr hO3 h
            have h:=Out.inr hO2 h
            have h:=Out.inr hO1 h
            refine Bg [.bool false] rfl Tryd.func3 rfl (.tmp rfl (.nil)) fun wr hLr=>?_
            have hMr:=hLr.pk0 (.c 2 rfl .n)
            show F7 w F  r (.returned (Bz [.bool false])) wr
            rw [h]
            exact ⟨rfl,hMr⟩
         exact D6 [0,1,2] (key7 _ h ()) ⟨rfl,rfl,rfl,rfl,rfl,rfl,rfl,rfl,trivial⟩ (.cons_cons _ (.cons_cons _ (.cons_cons _ (.cons_cons _ (.cons_cons _ (.cons_cons _ (.slnil))))))) rfl
       exact D6 [0,1,2] (key5 _ h bs341) ⟨rfl,rfl,rfl,rfl,rfl,rfl,rfl,rfl,trivial⟩ (.cons_cons _ (.cons_cons _ (.cons_cons _ (.cons_cons _ (.cons_cons _ (.cons_cons _ (.slnil))))))) rfl
     exact D6 [0,1,2] (key3 _ h A129 n130 c131 cs133 bs134 (Ow.weak hL125.env.size h132)) ⟨rfl,rfl,rfl,rfl,rfl,rfl,rfl,trivial⟩ (.cons_cons _ (.cons_cons _ (.cons_cons _ (.cons_cons _ (.cons_cons _ (.cons_cons _ (.slnil))))))) rfl
   refine Ac rfl rfl<|Aa 0 rfl (Ae rfl) gn rfl<|Aa 1 rfl (Ae rfl) gn rfl ?_
   obtain ⟨r1723,hv1724,h⟩:=h
   refine Ci 2 rfl (D7 [.slice A129 n130 c131,.slice A76 n77 c78] rfl Tryd.func18 rfl rfl rfl fun w1720 hL1721=>?_) gn
   have hp1722:=pmI hL1721 .n (.c 0 rfl (.c 1 rfl (.c 2 rfl (.c 3 rfl (.c 4 rfl (.c 5 rfl (.c 6 rfl (.c 7 rfl (.c 8 rfl (.c 9 rfl (.c 10 rfl (.c 11 rfl (.c 12 rfl (.c 13 rfl .n)))))))))))))) (by kernel_rfl)
   refine Calls.mono (Jg w1720 (Fl ([]:List Cc)) r127 r74 A129 n130 c131 A76 n77 c78 (hL1721.argFam (fk:=Ey) (dk:=F6) hp1722 [] rfl 2 3 rfl rfl rfl rfl (Ow.weak hL125.env.size h132) (fun _ _ _ _ h=>⟨_,_,_,rfl,h⟩)) (hL1721.argO (dk:=F6) hp1722 [] rfl 8 rfl rfl (Ow.weak hL72.env.size h79) (me 0 rfl) hC82) (hL1721.hFl hp1722 (Bf [] rfl)) (hL1721.into hp1722 _) r1723 hv1724) ?_
   rintro _ w1725 ⟨rfl,hM1726⟩
   have hL1727:=hL1721.call hp1722 hM1726
   refine ⟨_,_,_,rfl,hL1727,?_⟩
   refine Aa 3 rfl (Oi rfl) gn rfl<|Aa 4 rfl (Ae rfl) gn rfl ?_
   by_cases hp1728:r1723=true
   ·have h:=Ap hp1728 h
    refine Bh 53 rfl ((nf hp1728))<|Aa 5 rfl (Ji [.slice A93 r91.2.1 c95,.slice A99 r91.2.2 c101] 5 O5 rfl rfl rfl rfl) (gy 53 rfl rfl) rfl<|Aa 6 rfl (Ji [.slice A43 n44 c45,.slice A48 n49 c50] 10 O5 rfl rfl rfl rfl) (gy 53 rfl rfl) rfl ?_
    obtain ⟨r1732,hv1733,h⟩:=h
    refine Ci 7 rfl (D7 [.agg #[.slice A93 r91.2.1 c95,.slice A99 r91.2.2 c101],.agg #[.slice A43 n44 c45,.slice A48 n49 c50]] rfl Tryd.func19 rfl rfl rfl fun w1729 hL1730=>?_) (gy 53 rfl rfl)
    have hp1731:=pmI hL1730 .n (.c 0 rfl (.c 1 rfl (.c 2 rfl (.c 3 rfl (.c 4 rfl (.c 5 rfl (.c 6 rfl (.c 7 rfl (.c 8 rfl (.c 9 rfl (.c 10 rfl (.c 11 rfl (.c 12 rfl (.c 13 rfl .n)))))))))))))) (by kernel_rfl)
    refine Calls.mono (Zh w1729 (Fl ([]:List Cc)) (⟨r91.1.nodes,r91.1.conds⟩:Aq) r91.2.1 r91.2.2 r41 A93 n94 c95 A99 n100 c101 A43 n44 c45 A48 n49 c50 (hL1730.argO (dk:=Cb) hp1731 [] rfl 6 rfl rfl (Ow.weak hL89.env.size h96) (me 1 rfl) (Cells.flat _)) hk97 (hL1730.argO (dk:=Dq) hp1731 [] rfl 7 rfl rfl (Ow.weak hL89.env.size h102) (me 1 rfl) (Cells.flat _)) hk103 (hL1730.argO (dk:=Cb) hp1731 [] rfl 11 rfl rfl (Ow.weak hL39.env.size h46) (me 1 rfl) (Cells.flat _)) (hL1730.argO (dk:=Dq) hp1731 [] rfl 12 rfl rfl (Ow.weak hL39.env.size h51) (me 1 rfl) (Cells.flat _)) (hL1730.hFl hp1731 (Bf [] rfl)) (hL1730.into hp1731 _) r1732 hv1733) ?_
    rintro _ w1734 ⟨rfl,hM1735⟩
    have hL1736:=hL1730.call hp1731 hM1735
    refine ⟨_,_,_,rfl,hL1736,?_⟩
    refine Aa 8 rfl (Oi rfl) (gy 53 rfl rfl) rfl<|Aa 9 rfl (Aw (b:=false) rfl rfl) gn rfl<|Aa 10 rfl (Ae rfl) gn rfl ?_
    by_cases hp1737:r1732=true
    ·have h:=Ap hp1737 h
     refine Bh 59 rfl ((nf hp1737))<|Aa 11 rfl (Ae rfl) (gy 59 rfl rfl) rfl<|Aa 12 rfl (Ae rfl) (gy 59 rfl rfl) rfl ?_
     obtain ⟨r1741,hv1742,h⟩:=h
     refine Ci 13 rfl (D7 [.slice A115 r113.2 c117,.slice A63 n64 c65] rfl Tryd.func20 rfl rfl rfl fun w1738 hL1739=>?_) (gy 59 rfl rfl)
     have hp1740:=pmI hL1739 .n (.c 0 rfl (.c 1 rfl (.c 2 rfl (.c 3 rfl (.c 4 rfl (.c 5 rfl (.c 6 rfl (.c 7 rfl (.c 8 rfl (.c 9 rfl (.c 10 rfl (.c 11 rfl (.c 12 rfl (.c 13 rfl .n)))))))))))))) (by kernel_rfl)
     refine Calls.mono (Xx w1738 (Fl ([]:List Cc)) r113.1 r113.2 r61 A115 n116 c117 A63 n64 c65 (hL1739.argO (dk:=D9) hp1740 [] rfl 4 rfl rfl (Ow.weak hL111.env.size h118) (me 1 rfl) (Cells.flat _)) hk119 (hL1739.argO (dk:=D9) hp1740 [] rfl 9 rfl rfl (Ow.weak hL59.env.size h66) (me 1 rfl) (Cells.flat _)) (hL1739.hFl hp1740 (Bf [] rfl)) (hL1739.into hp1740 _) r1741 hv1742) ?_
     rintro _ w1743 ⟨rfl,hM1744⟩
     have hL1745:=hL1739.call hp1740 hM1744
     refine ⟨_,_,_,rfl,hL1745,?_⟩
     refine Aa 14 rfl (Oi rfl) (gy 59 rfl rfl) rfl<|Aa 15 rfl (Aw (b:=false) rfl rfl) gn rfl<|Ah 16 rfl<|Cj 13 rfl<|Cj 9 rfl<|Cj 4 rfl<|Cj 3 rfl<|Cj 4 rfl<|Cj 5 rfl ?_
     exact D6 [0,1,2] (j2 (!r1741) h) ⟨rfl,rfl,rfl,rfl,rfl,rfl,rfl,trivial⟩ (.cons_cons _ (.cons_cons _ (.cons_cons _ (.cons_cons _ (.cons_cons _ (.cons_cons _ (.cons _ (.cons _ (.cons _ (.cons _ (.cons _ (.cons _ (.cons _ (.cons _ (.slnil))))))))))))))) rfl
    ·have h:=Am hp1737 h
     refine Bh 59 rfl ((nt (bf hp1737)))<|Ad 11 rfl (ps 59 rfl rfl rfl)<|Ad 12 rfl (ps 59 rfl rfl rfl)<|Ad 13 rfl (ps 59 rfl rfl rfl)<|Ad 14 rfl (ps 59 rfl rfl rfl)<|Aa 15 rfl (Aw (b:=true) rfl rfl) gn rfl<|Ah 16 rfl<|Cj 13 rfl<|Cj 9 rfl<|Cj 4 rfl<|Cj 3 rfl<|Cj 4 rfl ?_
     refine Cj 5 rfl ?_
     exact D6 [0,1,2] (j2 true h) ⟨rfl,rfl,rfl,rfl,rfl,rfl,rfl,trivial⟩ (.cons_cons _ (.cons_cons _ (.cons_cons _ (.cons_cons _ (.cons_cons _ (.cons_cons _ (.cons _ (.cons _ (.cons _ (.cons _ (.cons _ (.cons _ (.cons _ (.cons _ (.slnil))))))))))))))) rfl
   ·have h:=Am hp1728 h
    refine Bh 53 rfl ((nt (bf hp1728)))<|Ad 5 rfl (ps 53 rfl rfl rfl)<|Ad 6 rfl (ps 53 rfl rfl rfl)<|Ad 7 rfl (ps 53 rfl rfl rfl)<|Ad 8 rfl (ps 53 rfl rfl rfl)<|Aa 9 rfl (Aw (b:=true) rfl rfl) gn rfl<|Aa 10 rfl (Ae rfl) gn rfl<|Ad 11 rfl (ps 59 rfl rfl rfl)<|Ad 12 rfl (ps 59 rfl rfl rfl)<|Ad 13 rfl (ps 59 rfl rfl rfl)<|Ad 14 rfl (ps 59 rfl rfl rfl)<|Aa 15 rfl (Aw (b:=true) rfl rfl) gn rfl ?_
    refine Ah 16 rfl<|Cj 13 rfl<|Cj 9 rfl<|Cj 4 rfl<|Cj 3 rfl<|Cj 4 rfl<|Cj 5 rfl ?_
    exact D6 [0,1,2] (j2 true h) ⟨rfl,rfl,rfl,rfl,rfl,rfl,rfl,trivial⟩ (.cons_cons _ (.cons_cons _ (.cons_cons _ (.cons_cons _ (.cons_cons _ (.cons_cons _ (.cons _ (.cons _ (.cons _ (.cons _ (.cons _ (.cons _ (.cons _ (.cons _ (.slnil))))))))))))))) rfl
 refine Ac rfl rfl<|Aa 0 rfl (Bd Ew rfl) gn rfl<|Aa 1 rfl (Au 0 Kr rfl rfl rfl) gn rfl ?_
 obtain ⟨r1749,hv1750,h⟩:=h
 refine Ci 2 rfl (D7 [.slice A2 n3 c4] rfl Tryd.func10 rfl rfl rfl fun w1746 hL1747=>?_) gn
 have hp1748:=pmI hL1747 .n (.c 0 rfl .n) (by kernel_rfl)
 refine Calls.mono (Yw w1746 (Fl ([]:List Cc)) x1.nodes A2 n3 c4 (Rw.mono h5 (hL1747.toSt hp1748 (me 1 rfl))) (hL1747.hFl hp1748 (Bf [] rfl)) (hL1747.into hp1748 _) r1749 hv1750) ?_
 rintro _ w1751 ⟨rfl,hM1752⟩
 have hL1753:=hL1747.call hp1748 hM1752
 refine ⟨_,_,_,rfl,hL1753,?_⟩
 refine Aa 3 rfl (Ae rfl) gn rfl ?_
 by_cases hp1754:r1749=true
 ·have h:=Ap hp1754 h
  refine Bh 25 rfl (hp1754)<|Ad 4 rfl (ps 25 rfl rfl rfl)<|Ad 5 rfl (ps 25 rfl rfl rfl)<|Aa 6 rfl (Aw (b:=true) rfl rfl) gn rfl<|Ah 7 rfl ?_
  exact D6 [0,1] (j1 true h) ⟨rfl,rfl,rfl,rfl,trivial⟩ (.cons_cons _ (.slnil)) rfl
 ·have h:=Am hp1754 h
  refine Bh 25 rfl ((bf hp1754))<|Aa 4 rfl (Ae rfl) (gy 25 rfl rfl) rfl ?_
  obtain ⟨r1758,hv1759,h⟩:=h
  refine Ci 5 rfl (D7 [.slice A11 n12 c13] rfl Tryd.func11 rfl rfl rfl fun w1755 hL1756=>?_) (gy 25 rfl rfl)
  have hp1757:=pmI hL1756 .n (.c 0 rfl .n) (by kernel_rfl)
  refine Calls.mono (Yy w1755 (Fl ([]:List Cc)) x10 A11 n12 c13 (Rw.mono h14 (hL1756.toSt hp1757 (me 1 rfl))) (hL1756.hFl hp1757 (Bf [] rfl)) (hL1756.into hp1757 _) r1758 hv1759) ?_
  rintro _ w1760 ⟨rfl,hM1761⟩
  have hL1762:=hL1756.call hp1757 hM1761
  refine ⟨_,_,_,rfl,hL1762,?_⟩
  refine Aa 6 rfl (Aw (b:=false) rfl rfl) gn rfl<|Ah 7 rfl ?_
  exact D6 [0,1] (j1 r1758 h) ⟨rfl,rfl,rfl,rfl,trivial⟩ (.cons_cons _ (.slnil)) rfl
end Go.Proofs.YtjookebbmfiidaaDoor.K
