/- What the machine's calls do, function by function, printed by my own tool. Condition of each: its relation holds of the answer, and what is handed in lies in memory as told. -/
import Derived.Test.YtelafghkjlpojaaK3
set_option linter.unusedVariables false
set_option maxRecDepth 100000
set_option maxHeartbeats 4000000
namespace Go.Proofs.Ytelafghkjlpojaa.K
open Go.Proofs.Ytelafghkjlpojaa.B Go.Proofs.Ytelafghkjlpojaa.R Go.RowKit
noncomputable abbrev q4c16:=Code.snd (Code.snd (Code.snd (Code.snd (Code.snd (Code.snd (Code.snd (Code.snd (Yhm Try.f4))))))))
noncomputable abbrev q4c18:=Code.snd (Code.fst (Code.snd (Code.snd (Code.snd (Code.snd (Code.snd (Code.snd (Code.snd (Yhm Try.f4)))))))))
noncomputable abbrev Ysk:=Code.snd (Code.snd (Code.snd q4c16))
noncomputable abbrev Ysb:=Code.fst (Code.fst (Code.snd (Code.fst (Code.snd (Code.snd q4c16)))))
noncomputable abbrev Yso:=Code.snd Ysk
noncomputable abbrev Ysh:=Code.fst (Code.fst (Code.snd (Code.fst Ysk)))
noncomputable abbrev Yse:=Code.snd (Code.snd (Code.snd Yso))
noncomputable abbrev Ysi:=Code.fst (Code.fst (Code.snd (Code.fst (Code.snd (Code.snd Yso)))))
noncomputable abbrev q4c79:=Code.snd Yse
noncomputable abbrev q4c81:=Code.snd (Code.fst Yse)
noncomputable abbrev Yqr:=Code.snd (Code.snd (Code.snd (Code.snd q4c79)))
noncomputable abbrev Yoe:=Code.fst (Code.fst (Code.snd (Code.fst (Code.snd (Code.snd (Code.snd q4c79))))))
noncomputable abbrev Ysu:=Code.snd (Code.snd Yoe)
noncomputable abbrev Yph:=Code.fst (Code.fst (Code.snd (Code.fst (Code.fst (Code.snd Yoe)))))
noncomputable abbrev q4c119:=Code.fst (Code.fst (Code.snd Yph))
abbrev Yi3 (w:World) (F:Nat→Prop) (r:Bool):Ending→World→Prop:=fun e w'=>e=.returned (.bool r)∧B.Loc w w' [] [St w []]
noncomputable abbrev Ygh (w:World) (F:Nat→Prop) (r:Bool):Cx:=⟨Try.prog,4,Try.f4,182,Yi3 w F  r,w⟩
theorem Ymn (w:World) (F:Nat→Prop) (x1:Yfz) (A2:Option Addr) (n3:Nat) (c4:Nat) (A6:Option Addr) (n7:Nat) (c8:Nat) (A10:Option Addr) (n11:Nat) (c12:Nat) (h5:Rw Ygi w (St w []).av A2 n3 c4 x1.terms) (h9:Rw Ygu w (St w []).av A6 n7 c8 x1.syms) (h13:Rw Ygs w (St w []).av A10 n11 c12 x1.prods) (hF:∀ b,F b→b < w.heap.size∧∀ o ∈ ([]:List (List Nat)),b ∉ o) (hL0:B.Loc w w [] [Sm w.heap.size F w [],St w []]) (r:Bool) (h:Yj2 x1 r):Calls Try.prog 4 #[.agg #[.slice A2 n3 c4,.slice A6 n7 c8,.slice A10 n11 c12]] w (Yi3 w F  r):=by
 unfold Yj2 at h
 refine Yh0 (vs:=[.agg #[.slice A2 n3 c4,.slice A6 n7 c8,.slice A10 n11 c12]]) 182 Try.func4 rfl Try.ntmps4 rfl hL0 ?_
 show G (Ygh w F r) _ _ _ _
 refine Yg3 rfl<|Yfy rfl rfl ?_
 refine Ygw 0 rfl (Ymj [.slice A2 n3 c4,.slice A6 n7 c8,.slice A10 n11 c12] rfl rfl rfl fun gb14=>?_) gn
 refine Yfx 1 rfl (Yg1 rfl) gn rfl<|Yg7 2 rfl<|Yg3 rfl<|Yfy rfl rfl<|Yfx 0 rfl (Yji [.slice A2 n3 c4,.slice A6 n7 c8,.slice A10 n11 c12] 0 Yjg rfl rfl rfl rfl) gn rfl ?_
 obtain ⟨r19,hv20,h⟩:=h
 refine Ygw 1 rfl (Yho [.agg #[.slice A2 n3 c4,.slice A6 n7 c8,.slice A10 n11 c12]] rfl Try.func8 rfl rfl rfl fun w16 hL17=>?_) gn
 have hp18:=pmI hL17 .n (.c 0 rfl .n) (by kernel_rfl)
 refine Calls.mono (Yk3 w16 (Fl ([]:List Ygr)) x1 A2 n3 c4 A6 n7 c8 A10 n11 c12 (Rw.mono h5 (hL17.toSt hp18 (me 1 rfl))) (Rw.mono h9 (hL17.toSt hp18 (me 1 rfl))) (Rw.mono h13 (hL17.toSt hp18 (me 1 rfl))) (hL17.hFl hp18 (Yj7 [] rfl)) (hL17.into hp18 _) r19 hv20) ?_
 rintro _ w39 ⟨A21,n22,c23,A26,n27,c28,A31,n32,c33,cs35,bs36,rfl,hM40,h24,h29,h34⟩
 have hL41:=hL17.call hp18 hM40
 refine ⟨_,_,_,rfl,hL41,?_⟩
 refine Yr4 (fk:=Ymr) (z':=w.heap.size) (j:=3) hL17.env.size rfl<|Yr1 (fk:=Ymr) (z:=w.heap.size) (j:=3) Ygo Yif (fun _=>rfl) (fun _=>rfl) (fun x d h=>by obtain ⟨A,n,c⟩:=d; simp only at h; subst h; rfl) (fun _=>Nat.le_refl _) rfl rfl rfl ?_
 refine Ygw 2 rfl (Ykc [.slice none 0 0,.slice none 0 0,.slice none 0 0] Yqs rfl fun gb42=>?_) gn
 refine Ygw 3 rfl (Ylo (vs:=[.slice A21 n22 c23,.slice A26 n27 c28,.slice A31 n32 c33]) (cs':=[.slice A21 n22 c23,.slice A26 n27 c28,.slice A31 n32 c33]) (M':=[.box gb42 26 [.slice A21 n22 c23,.slice A26 n27 c28,.slice A31 n32 c33],.own (.slice A21 n22 c23) 58 2 n22 (r19.terms.flatMap Yg6),.own (.slice A26 n27 c28) 61 2 n27 (r19.syms.flatMap Ygb),.own (.slice A31 n32 c33) 38 2 n32 cs35,Yhh Ygo (w.heap.size) none (r19.prods.map Yif) cs35 bs36,.box gb14 26 [.slice A2 n3 c4,.slice A6 n7 c8,.slice A10 n11 c12]]) 0 Yrn rfl rfl rfl rfl rfl rfl rfl rfl rfl ?_) gn
 refine Yg7 4 rfl<|Yg3 rfl<|Yfy rfl rfl<|Yfx 0 rfl (Yji [.slice A21 n22 c23,.slice A26 n27 c28,.slice A31 n32 c33] 0 Yjg rfl rfl rfl rfl) gn rfl ?_
 obtain ⟨r47,hv48,h⟩:=h
 refine Ygw 1 rfl (Yho [.agg #[.slice A21 n22 c23,.slice A26 n27 c28,.slice A31 n32 c33]] rfl Try.func16 rfl rfl rfl fun w44 hL45=>?_) gn
 have hp46:=pmI hL45 .n (.c 0 rfl (.c 1 rfl (.c 2 rfl (.c 3 rfl (.c 4 rfl (.c 5 rfl .n)))))) (by kernel_rfl)
 refine Calls.mono (Ykf w44 (Fl ([]:List Ygr)) r19 A21 n22 c23 A26 n27 c28 A31 n32 c33 (hL45.argO (dk:=Ygi) hp46 [] rfl 1 rfl rfl (Ow.weak hL17.env.size h24) (me 0 rfl) (Cells.flat _)) (hL45.argO (dk:=Ygu) hp46 [] rfl 2 rfl rfl (Ow.weak hL17.env.size h29) (me 0 rfl) (Cells.flat _)) (Rw.w (Rw.vis (dk:=Yip) (dk2:=Ygs) Yi5 rfl (fun x cs=>by rintro ⟨A,n,c,rfl,h,k⟩; exact ⟨A,_,c,rfl,Rw.pre h k⟩) (hL45.argFam (fk:=Ygo) (dk:=Yip) hp46 [] rfl 3 4 rfl rfl rfl rfl (Ow.w (Ow.weak hL17.env.size h34) (List.length_map _)) (fun _ _ _ _ k h=>⟨_,_,_,rfl,h,Nat.le_trans k (Nat.le_of_eq h.hq.symm)⟩))) (Yqt _)) (hL45.hFl hp46 (Yj7 [] rfl)) (hL45.into hp46 _) r47 hv48) ?_
 rintro _ w54 ⟨A49,n50,c51,rfl,hM55,h52⟩
 have hL56:=hL45.call hp46 hM55
 refine ⟨_,_,_,rfl,hL56,?_⟩
 refine Yfx 2 rfl (Yg1 rfl) gn rfl<|Yg7 3 rfl<|Yg3 rfl<|Yfy rfl rfl<|Yfx 0 rfl (Yji [.slice A21 n22 c23,.slice A26 n27 c28,.slice A31 n32 c33] 1 Yjg rfl rfl rfl rfl) gn rfl ?_
 obtain ⟨r60,hv61,h⟩:=h
 refine Ygw 1 rfl (Yho [.agg #[.slice A21 n22 c23,.slice A26 n27 c28,.slice A31 n32 c33]] rfl Try.func17 rfl rfl rfl fun w57 hL58=>?_) gn
 have hp59:=pmI hL58 .n (.c 0 rfl (.c 1 rfl (.c 2 rfl (.c 3 rfl (.c 4 rfl (.c 5 rfl (.c 6 rfl .n))))))) (by kernel_rfl)
 refine Calls.mono (Ym1 w57 (Fl ([]:List Ygr)) r19 A21 n22 c23 A26 n27 c28 A31 n32 c33 (hL58.argO (dk:=Ygi) hp59 [] rfl 2 rfl rfl (Ow.weak hL17.env.size h24) (me 0 rfl) (Cells.flat _)) (hL58.argO (dk:=Ygu) hp59 [] rfl 3 rfl rfl (Ow.weak hL17.env.size h29) (me 0 rfl) (Cells.flat _)) (Rw.w (Rw.vis (dk:=Yip) (dk2:=Ygs) Yi5 rfl (fun x cs=>by rintro ⟨A,n,c,rfl,h,k⟩; exact ⟨A,_,c,rfl,Rw.pre h k⟩) (hL58.argFam (fk:=Ygo) (dk:=Yip) hp59 [] rfl 4 5 rfl rfl rfl rfl (Ow.w (Ow.weak hL17.env.size h34) (List.length_map _)) (fun _ _ _ _ k h=>⟨_,_,_,rfl,h,Nat.le_trans k (Nat.le_of_eq h.hq.symm)⟩))) (Yqt _)) (hL58.hFl hp59 (Yj7 [] rfl)) (hL58.into hp59 _) r60 hv61) ?_
 rintro _ w67 ⟨A62,n63,c64,rfl,hM68,h65⟩
 have hL69:=hL58.call hp59 hM68
 refine ⟨_,_,_,rfl,hL69,?_⟩
 refine Yfx 2 rfl (Yg1 rfl) gn rfl<|Yg7 3 rfl<|Yg3 rfl<|Yfy rfl rfl<|Yfx 0 rfl (Yji [.slice A2 n3 c4,.slice A6 n7 c8,.slice A10 n11 c12] 7 Yjg rfl rfl rfl rfl) gn rfl ?_
 obtain ⟨r73,hv74,h⟩:=h
 refine Ygw 1 rfl (Yho [.agg #[.slice A2 n3 c4,.slice A6 n7 c8,.slice A10 n11 c12]] rfl Try.func11 rfl rfl rfl fun w70 hL71=>?_) gn
 have hp72:=pmI hL71 .n (.c 0 rfl (.c 1 rfl (.c 2 rfl (.c 3 rfl (.c 4 rfl (.c 5 rfl (.c 6 rfl (.c 7 rfl .n)))))))) (by kernel_rfl)
 refine Calls.mono (Ynx w70 (Fl ([]:List Ygr)) x1 A2 n3 c4 A6 n7 c8 A10 n11 c12 (Rw.mono h5 (hL71.toSt hp72 (me 1 rfl))) (Rw.mono h9 (hL71.toSt hp72 (me 1 rfl))) (Rw.mono h13 (hL71.toSt hp72 (me 1 rfl))) (hL71.hFl hp72 (Yj7 [] rfl)) (hL71.into hp72 _) r73 hv74) ?_
 rintro _ w96 ⟨A75,n76,c77,A81,n82,c83,A87,n88,c89,cs92,bs93,rfl,hM97,h78,hk79,h84,hk85,h90,hk91⟩
 have hL98:=hL71.call hp72 hM97
 refine ⟨_,_,_,rfl,hL98,?_⟩
 refine Yr4 (fk:=Ygo) (z':=w.heap.size) (j:=3) hL71.env.size rfl ?_
 refine Ygw 2 rfl (Ykc [.slice none 0 0,.slice none 0 0,.slice none 0 0] Yqs rfl fun gb99=>?_) gn
 refine Ygw 3 rfl (Ylo (vs:=[.slice A75 r73.2.1 c77,.slice A81 r73.2.2.1 c83,.slice A87 r73.2.2.2.1 c89]) (cs':=[.slice A75 r73.2.1 c77,.slice A81 r73.2.2.1 c83,.slice A87 r73.2.2.2.1 c89]) (M':=[.box gb99 26 [.slice A75 r73.2.1 c77,.slice A81 r73.2.2.1 c83,.slice A87 r73.2.2.2.1 c89],.own (.slice A75 n76 c77) 58 2 n76 (r73.1.terms.flatMap Yg6),.own (.slice A81 n82 c83) 61 2 n82 (r73.1.syms.flatMap Ygb),.own (.slice A87 n88 c89) 38 2 n88 cs92,Yhh Ygo (w.heap.size) none r73.2.2.2.2 cs92 bs93,.own (.slice A62 n63 c64) 29 1 n63 (r60.flatMap (eI .u64)),.own (.slice A49 n50 c51) 4 1 n50 (r47.flatMap eB),.box gb42 26 [.slice A21 n22 c23,.slice A26 n27 c28,.slice A31 n32 c33],.own (.slice A21 n22 c23) 58 2 n22 (r19.terms.flatMap Yg6),.own (.slice A26 n27 c28) 61 2 n27 (r19.syms.flatMap Ygb),.own (.slice A31 n32 c33) 38 2 n32 cs35,Yhh Ygo (w.heap.size) none (r19.prods.map Yif) cs35 bs36,.box gb14 26 [.slice A2 n3 c4,.slice A6 n7 c8,.slice A10 n11 c12]]) 0 Yrn rfl rfl rfl rfl rfl rfl rfl rfl rfl ?_) gn
 refine Yg7 4 rfl<|Yg3 rfl<|Yfy rfl rfl<|Yfx 0 rfl (Yji [.slice A75 r73.2.1 c77,.slice A81 r73.2.2.1 c83,.slice A87 r73.2.2.2.1 c89] 0 Yjg rfl rfl rfl rfl) gn rfl ?_
 obtain ⟨r104,hv105,h⟩:=h
 refine Ygw 1 rfl (Yho [.agg #[.slice A75 r73.2.1 c77,.slice A81 r73.2.2.1 c83,.slice A87 r73.2.2.2.1 c89]] rfl Try.func18 rfl rfl rfl fun w101 hL102=>?_) gn
 have hp103:=pmI hL102 .n (.c 0 rfl (.c 1 rfl (.c 2 rfl (.c 3 rfl (.c 4 rfl (.c 5 rfl (.c 6 rfl (.c 7 rfl (.c 8 rfl (.c 9 rfl (.c 10 rfl (.c 11 rfl (.c 12 rfl .n))))))))))))) (by kernel_rfl)
 refine Calls.mono (Ykn w101 (Fl ([]:List Ygr)) (⟨(r73.1.terms.take r73.2.1),(r73.1.syms.take r73.2.2.1),((r73.2.2.2.2.take r73.2.2.2.1).map Yi5)⟩:Yfz) A75 r73.2.1 c77 A81 r73.2.2.1 c83 A87 r73.2.2.2.1 c89 (Rw.w (hL102.argV (dk:=Ygi) hp103 [] rfl 1 rfl rfl (Ow.weak hL71.env.size h78) (me 0 rfl) (Cells.flat _) (Vw.prefix hk79) (Nat.le_trans hk79 (Ow.weak hL71.env.size h78).hn) (Ow.weak hL71.env.size h78).hm) (by rw [(Eq.refl (r73.1.terms.take r73.2.1))]; rfl)) (Rw.w (hL102.argV (dk:=Ygu) hp103 [] rfl 2 rfl rfl (Ow.weak hL71.env.size h84) (me 0 rfl) (Cells.flat _) (Vw.prefix hk85) (Nat.le_trans hk85 (Ow.weak hL71.env.size h84).hn) (Ow.weak hL71.env.size h84).hm) (by rw [(Eq.refl (r73.1.syms.take r73.2.2.1))]; rfl)) (Rw.w (Rw.pre (Rw.vis (dk:=Yip) (dk2:=Ygs) Yi5 rfl (fun x cs=>by rintro ⟨A,n,c,rfl,h,k⟩; exact ⟨A,_,c,rfl,Rw.pre h k⟩) (hL102.argFam (fk:=Ygo) (dk:=Yip) hp103 [] rfl 3 4 rfl rfl rfl rfl (Ow.weak hL71.env.size h90) (fun _ _ _ _ k h=>⟨_,_,_,rfl,h,Nat.le_trans k (Nat.le_of_eq h.hq.symm)⟩))) hk91) (by rw [List.map_take])) (hL102.hFl hp103 (Yj7 [] rfl)) (hL102.into hp103 _) r104 hv105) ?_
 rintro _ w111 ⟨A106,n107,c108,rfl,hM112,h109⟩
 have hL113:=hL102.call hp103 hM112
 refine ⟨_,_,_,rfl,hL113,?_⟩
 refine Yfx 2 rfl (Yg1 rfl) gn rfl<|Yg7 3 rfl<|Yg3 rfl<|Yfy rfl rfl<|Yfx 0 rfl (Yji [.slice A75 r73.2.1 c77,.slice A81 r73.2.2.1 c83,.slice A87 r73.2.2.2.1 c89] 1 Yjg rfl rfl rfl rfl) gn rfl ?_
 obtain ⟨r117,hv118,h⟩:=h
 refine Ygw 1 rfl (Yho [.agg #[.slice A75 r73.2.1 c77,.slice A81 r73.2.2.1 c83,.slice A87 r73.2.2.2.1 c89]] rfl Try.func19 rfl rfl rfl fun w114 hL115=>?_) gn
 have hp116:=pmI hL115 .n (.c 0 rfl (.c 1 rfl (.c 2 rfl (.c 3 rfl (.c 4 rfl (.c 5 rfl (.c 6 rfl (.c 7 rfl (.c 8 rfl (.c 9 rfl (.c 10 rfl (.c 11 rfl (.c 12 rfl (.c 13 rfl .n)))))))))))))) (by kernel_rfl)
 refine Calls.mono (Yli w114 (Fl ([]:List Ygr)) (⟨(r73.1.terms.take r73.2.1),(r73.1.syms.take r73.2.2.1),((r73.2.2.2.2.take r73.2.2.2.1).map Yi5)⟩:Yfz) A75 r73.2.1 c77 A81 r73.2.2.1 c83 A87 r73.2.2.2.1 c89 (Rw.w (hL115.argV (dk:=Ygi) hp116 [] rfl 2 rfl rfl (Ow.weak hL71.env.size h78) (me 0 rfl) (Cells.flat _) (Vw.prefix hk79) (Nat.le_trans hk79 (Ow.weak hL71.env.size h78).hn) (Ow.weak hL71.env.size h78).hm) (by rw [(Eq.refl (r73.1.terms.take r73.2.1))]; rfl)) (Rw.w (hL115.argV (dk:=Ygu) hp116 [] rfl 3 rfl rfl (Ow.weak hL71.env.size h84) (me 0 rfl) (Cells.flat _) (Vw.prefix hk85) (Nat.le_trans hk85 (Ow.weak hL71.env.size h84).hn) (Ow.weak hL71.env.size h84).hm) (by rw [(Eq.refl (r73.1.syms.take r73.2.2.1))]; rfl)) (Rw.w (Rw.pre (Rw.vis (dk:=Yip) (dk2:=Ygs) Yi5 rfl (fun x cs=>by rintro ⟨A,n,c,rfl,h,k⟩; exact ⟨A,_,c,rfl,Rw.pre h k⟩) (hL115.argFam (fk:=Ygo) (dk:=Yip) hp116 [] rfl 4 5 rfl rfl rfl rfl (Ow.weak hL71.env.size h90) (fun _ _ _ _ k h=>⟨_,_,_,rfl,h,Nat.le_trans k (Nat.le_of_eq h.hq.symm)⟩))) hk91) (by rw [List.map_take])) (hL115.hFl hp116 (Yj7 [] rfl)) (hL115.into hp116 _) r117 hv118) ?_
 rintro _ w124 ⟨A119,n120,c121,rfl,hM125,h122⟩
 have hL126:=hL115.call hp116 hM125
 refine ⟨_,_,_,rfl,hL126,?_⟩
 refine Yfx 2 rfl (Yg1 rfl) gn rfl<|Yg7 3 rfl<|Yg3 rfl<|Yg3 rfl ?_
 have j1:∀ (x154:Bool) (h:Yhz r73 r47 r60 x1 r19 r117 r104 x154 r) (hl155:r73.2.1≤n76) (hl156:r73.2.2.1≤n82) (hl157:r73.2.2.2.1≤n88),G (Ygh w F r) [.code q4c18,.code q4c16] [(1,.pointer (some ⟨gb14,0,none⟩)),(3,.pointer (some ⟨gb42,0,none⟩)),(4,.slice A49 n50 c51),(5,.slice A62 n63 c64),(6,.pointer (some ⟨gb99,0,none⟩)),(7,.slice A106 n107 c108),(8,.slice A119 n120 c121),(49,.bool x154)] [Yhh Ygo (w.heap.size) none r73.2.2.2.2 cs92 bs93,Yhh Ygo (w.heap.size) none (r19.prods.map Yif) cs35 bs36,.own (.slice A119 n120 c121) 29 1 n120 (r117.flatMap (eI .u64)),.own (.slice A106 n107 c108) 4 1 n107 (r104.flatMap eB),.box gb99 26 [.slice A75 r73.2.1 c77,.slice A81 r73.2.2.1 c83,.slice A87 r73.2.2.2.1 c89],.own (.slice A75 n76 c77) 58 2 n76 (r73.1.terms.flatMap Yg6),.own (.slice A81 n82 c83) 61 2 n82 (r73.1.syms.flatMap Ygb),.own (.slice A87 n88 c89) 38 2 n88 cs92,.own (.slice A62 n63 c64) 29 1 n63 (r60.flatMap (eI .u64)),.own (.slice A49 n50 c51) 4 1 n50 (r47.flatMap eB),.box gb42 26 [.slice A21 n22 c23,.slice A26 n27 c28,.slice A31 n32 c33],.own (.slice A21 n22 c23) 58 2 n22 (r19.terms.flatMap Yg6),.own (.slice A26 n27 c28) 61 2 n27 (r19.syms.flatMap Ygb),.own (.slice A31 n32 c33) 38 2 n32 cs35,.box gb14 26 [.slice A2 n3 c4,.slice A6 n7 c8,.slice A10 n11 c12]] [Sm w.heap.size F w [],St w []]:=by
  intro x154 h hl155 hl156 hl157
  unfold Yhz at h
  by_cases hp158:x154=true
  ·have h:=Ygf hp158 h
   refine Ygp rfl _ rfl (hp158)<|Yg3 rfl<|Yfy rfl rfl<|Yfx 0 rfl (Yg1 rfl) gn rfl<|Yg7 1 rfl ?_
   refine Ygx [.bool false] rfl Try.func4 rfl (.tmp rfl (.nil)) fun wr hLr=>?_
   have hMr:=hLr.pk0 (.c 1 rfl .n)
   show Yi3 w F  r (.returned (Yhe [.bool false])) wr
   rw [h]
   exact ⟨rfl,hMr⟩
  ·have h:=Yge hp158 h
   refine Ygl rfl _ rfl ((bf hp158))<|Ygt rfl<|Yg3 rfl<|Yfy rfl rfl<|Yfx 0 rfl (Yji [.slice A75 r73.2.1 c77,.slice A81 r73.2.2.1 c83,.slice A87 r73.2.2.2.1 c89] 4 Yjg rfl rfl rfl rfl) gn rfl ?_
   obtain ⟨r162,hv163,h⟩:=h
   refine Ygw 1 rfl (Yho [.agg #[.slice A75 r73.2.1 c77,.slice A81 r73.2.2.1 c83,.slice A87 r73.2.2.2.1 c89]] rfl Try.func18 rfl rfl rfl fun w159 hL160=>?_) gn
   have hp161:=pmI hL160 .n (.c 0 rfl (.c 1 rfl (.c 2 rfl (.c 3 rfl (.c 4 rfl (.c 5 rfl (.c 6 rfl (.c 7 rfl (.c 8 rfl (.c 9 rfl (.c 10 rfl (.c 11 rfl (.c 12 rfl (.c 13 rfl (.c 14 rfl .n))))))))))))))) (by kernel_rfl)
   refine Calls.mono (Ykn w159 (Fl ([]:List Ygr)) (⟨(r73.1.terms.take r73.2.1),(r73.1.syms.take r73.2.2.1),((r73.2.2.2.2.take r73.2.2.2.1).map Yi5)⟩:Yfz) A75 r73.2.1 c77 A81 r73.2.2.1 c83 A87 r73.2.2.2.1 c89 (Rw.w (hL160.argV (dk:=Ygi) hp161 [] rfl 5 rfl rfl (Ow.weak hL71.env.size h78) (me 0 rfl) (Cells.flat _) (Vw.prefix hl155) (Nat.le_trans hl155 (Ow.weak hL71.env.size h78).hn) (Ow.weak hL71.env.size h78).hm) (by rw [(Eq.refl (r73.1.terms.take r73.2.1))]; rfl)) (Rw.w (hL160.argV (dk:=Ygu) hp161 [] rfl 6 rfl rfl (Ow.weak hL71.env.size h84) (me 0 rfl) (Cells.flat _) (Vw.prefix hl156) (Nat.le_trans hl156 (Ow.weak hL71.env.size h84).hn) (Ow.weak hL71.env.size h84).hm) (by rw [(Eq.refl (r73.1.syms.take r73.2.2.1))]; rfl)) (Rw.w (Rw.pre (Rw.vis (dk:=Yip) (dk2:=Ygs) Yi5 rfl (fun x cs=>by rintro ⟨A,n,c,rfl,h,k⟩; exact ⟨A,_,c,rfl,Rw.pre h k⟩) (hL160.argFam (fk:=Ygo) (dk:=Yip) hp161 [] rfl 7 0 rfl rfl rfl rfl (Ow.weak hL71.env.size h90) (fun _ _ _ _ k h=>⟨_,_,_,rfl,h,Nat.le_trans k (Nat.le_of_eq h.hq.symm)⟩))) hl157) (by rw [List.map_take])) (hL160.hFl hp161 (Yj7 [] rfl)) (hL160.into hp161 _) r162 hv163) ?_
   rintro _ w169 ⟨A164,n165,c166,rfl,hM170,h167⟩
   have hL171:=hL160.call hp161 hM170
   refine ⟨_,_,_,rfl,hL171,?_⟩
   refine Yfx 2 rfl (Yg1 rfl) gn rfl<|Yg7 3 rfl<|Yg3 rfl<|Yfy rfl rfl<|Yfx 0 rfl (Yji [.slice A75 r73.2.1 c77,.slice A81 r73.2.2.1 c83,.slice A87 r73.2.2.2.1 c89] 5 Yjg rfl rfl rfl rfl) gn rfl ?_
   obtain ⟨r175,hv176,h⟩:=h
   refine Ygw 1 rfl (Yho [.agg #[.slice A75 r73.2.1 c77,.slice A81 r73.2.2.1 c83,.slice A87 r73.2.2.2.1 c89]] rfl Try.func19 rfl rfl rfl fun w172 hL173=>?_) gn
   have hp174:=pmI hL173 .n (.c 0 rfl (.c 1 rfl (.c 2 rfl (.c 3 rfl (.c 4 rfl (.c 5 rfl (.c 6 rfl (.c 7 rfl (.c 8 rfl (.c 9 rfl (.c 10 rfl (.c 11 rfl (.c 12 rfl (.c 13 rfl (.c 14 rfl (.c 15 rfl .n)))))))))))))))) (by kernel_rfl)
   refine Calls.mono (Yli w172 (Fl ([]:List Ygr)) (⟨(r73.1.terms.take r73.2.1),(r73.1.syms.take r73.2.2.1),((r73.2.2.2.2.take r73.2.2.2.1).map Yi5)⟩:Yfz) A75 r73.2.1 c77 A81 r73.2.2.1 c83 A87 r73.2.2.2.1 c89 (Rw.w (hL173.argV (dk:=Ygi) hp174 [] rfl 6 rfl rfl (Ow.weak hL71.env.size h78) (me 0 rfl) (Cells.flat _) (Vw.prefix hl155) (Nat.le_trans hl155 (Ow.weak hL71.env.size h78).hn) (Ow.weak hL71.env.size h78).hm) (by rw [(Eq.refl (r73.1.terms.take r73.2.1))]; rfl)) (Rw.w (hL173.argV (dk:=Ygu) hp174 [] rfl 7 rfl rfl (Ow.weak hL71.env.size h84) (me 0 rfl) (Cells.flat _) (Vw.prefix hl156) (Nat.le_trans hl156 (Ow.weak hL71.env.size h84).hn) (Ow.weak hL71.env.size h84).hm) (by rw [(Eq.refl (r73.1.syms.take r73.2.2.1))]; rfl)) (Rw.w (Rw.pre (Rw.vis (dk:=Yip) (dk2:=Ygs) Yi5 rfl (fun x cs=>by rintro ⟨A,n,c,rfl,h,k⟩; exact ⟨A,_,c,rfl,Rw.pre h k⟩) (hL173.argFam (fk:=Ygo) (dk:=Yip) hp174 [] rfl 8 1 rfl rfl rfl rfl (Ow.weak hL71.env.size h90) (fun _ _ _ _ k h=>⟨_,_,_,rfl,h,Nat.le_trans k (Nat.le_of_eq h.hq.symm)⟩))) hl157) (by rw [List.map_take])) (hL173.hFl hp174 (Yj7 [] rfl)) (hL173.into hp174 _) r175 hv176) ?_
   rintro _ w182 ⟨A177,n178,c179,rfl,hM183,h180⟩
   have hL184:=hL173.call hp174 hM183
   refine ⟨_,_,_,rfl,hL184,?_⟩
   refine Yfx 2 rfl (Yg1 rfl) gn rfl<|Yg7 3 rfl<|Yg3 rfl<|Yg3 rfl<|Yfy rfl rfl<|Yfx 0 rfl (Yg1 rfl) gn rfl<|Yg7 1 rfl<|Ygm rfl<|Yij rfl ?_
   have key2:∀ s,Yga (fun (s:(List Bool) × Int) o=>Yh3 r162 r47 r175 r60 x1 r73 r19 r117 s.1 s.2 o) s r→(fun (s:(List Bool) × Int)=>∀ (h9028:Ow w.heap.size A106 n107 c108 s.1) (hl186:r73.2.1≤n76) (hl187:r73.2.2.1≤n82) (hl188:r73.2.2.2.1≤n88),G (Ygh w F r) [.code Ysb,.inLoop Ysb,.inBlock 0,.code Ysk] [(1,.pointer (some ⟨gb14,0,none⟩)),(3,.pointer (some ⟨gb42,0,none⟩)),(4,.slice A49 n50 c51),(5,.slice A62 n63 c64),(6,.pointer (some ⟨gb99,0,none⟩)),(7,.slice A106 n107 c108),(8,.slice A119 n120 c121),(9,.slice A164 n165 c166),(10,.slice A177 n178 c179),(11,.int .i64 s.2)] [Yhh Ygo (w.heap.size) none r73.2.2.2.2 cs92 bs93,Yhh Ygo (w.heap.size) none (r19.prods.map Yif) cs35 bs36,.own (.slice A177 n178 c179) 29 1 n178 (r175.flatMap (eI .u64)),.own (.slice A164 n165 c166) 4 1 n165 (r162.flatMap eB),.own (.slice A119 n120 c121) 29 1 n120 (r117.flatMap (eI .u64)),.own (.slice A106 n107 c108) 4 1 n107 (s.1.flatMap eB),.box gb99 26 [.slice A75 r73.2.1 c77,.slice A81 r73.2.2.1 c83,.slice A87 r73.2.2.2.1 c89],.own (.slice A75 n76 c77) 58 2 n76 (r73.1.terms.flatMap Yg6),.own (.slice A81 n82 c83) 61 2 n82 (r73.1.syms.flatMap Ygb),.own (.slice A87 n88 c89) 38 2 n88 cs92,.own (.slice A62 n63 c64) 29 1 n63 (r60.flatMap (eI .u64)),.own (.slice A49 n50 c51) 4 1 n50 (r47.flatMap eB),.box gb42 26 [.slice A21 n22 c23,.slice A26 n27 c28,.slice A31 n32 c33],.own (.slice A21 n22 c23) 58 2 n22 (r19.terms.flatMap Yg6),.own (.slice A26 n27 c28) 61 2 n27 (r19.syms.flatMap Ygb),.own (.slice A31 n32 c33) 38 2 n32 cs35,.box gb14 26 [.slice A2 n3 c4,.slice A6 n7 c8,.slice A10 n11 c12]] [Sm w.heap.size F w [],St w []]) s:=by
    intro s hs
    refine Yga.ind (mot:=(fun (s:(List Bool) × Int)=>∀ (h9028:Ow w.heap.size A106 n107 c108 s.1) (hl186:r73.2.1≤n76) (hl187:r73.2.2.1≤n82) (hl188:r73.2.2.2.1≤n88),G (Ygh w F r) [.code Ysb,.inLoop Ysb,.inBlock 0,.code Ysk] [(1,.pointer (some ⟨gb14,0,none⟩)),(3,.pointer (some ⟨gb42,0,none⟩)),(4,.slice A49 n50 c51),(5,.slice A62 n63 c64),(6,.pointer (some ⟨gb99,0,none⟩)),(7,.slice A106 n107 c108),(8,.slice A119 n120 c121),(9,.slice A164 n165 c166),(10,.slice A177 n178 c179),(11,.int .i64 s.2)] [Yhh Ygo (w.heap.size) none r73.2.2.2.2 cs92 bs93,Yhh Ygo (w.heap.size) none (r19.prods.map Yif) cs35 bs36,.own (.slice A177 n178 c179) 29 1 n178 (r175.flatMap (eI .u64)),.own (.slice A164 n165 c166) 4 1 n165 (r162.flatMap eB),.own (.slice A119 n120 c121) 29 1 n120 (r117.flatMap (eI .u64)),.own (.slice A106 n107 c108) 4 1 n107 (s.1.flatMap eB),.box gb99 26 [.slice A75 r73.2.1 c77,.slice A81 r73.2.2.1 c83,.slice A87 r73.2.2.2.1 c89],.own (.slice A75 n76 c77) 58 2 n76 (r73.1.terms.flatMap Yg6),.own (.slice A81 n82 c83) 61 2 n82 (r73.1.syms.flatMap Ygb),.own (.slice A87 n88 c89) 38 2 n88 cs92,.own (.slice A62 n63 c64) 29 1 n63 (r60.flatMap (eI .u64)),.own (.slice A49 n50 c51) 4 1 n50 (r47.flatMap eB),.box gb42 26 [.slice A21 n22 c23,.slice A26 n27 c28,.slice A31 n32 c33],.own (.slice A21 n22 c23) 58 2 n22 (r19.terms.flatMap Yg6),.own (.slice A26 n27 c28) 61 2 n27 (r19.syms.flatMap Ygb),.own (.slice A31 n32 c33) 38 2 n32 cs35,.box gb14 26 [.slice A2 n3 c4,.slice A6 n7 c8,.slice A10 n11 c12]] [Sm w.heap.size F w [],St w []])) ?_ hs
    clear hs s
    intro s o1 h hO1
    obtain ⟨x9027,x9029⟩:=s
    show ∀ (h9028:Ow w.heap.size A106 n107 c108 x9027) (hl186:r73.2.1≤n76) (hl187:r73.2.2.1≤n82) (hl188:r73.2.2.2.1≤n88),G (Ygh w F r) [.code Ysb,.inLoop Ysb,.inBlock 0,.code Ysk] [(1,.pointer (some ⟨gb14,0,none⟩)),(3,.pointer (some ⟨gb42,0,none⟩)),(4,.slice A49 n50 c51),(5,.slice A62 n63 c64),(6,.pointer (some ⟨gb99,0,none⟩)),(7,.slice A106 n107 c108),(8,.slice A119 n120 c121),(9,.slice A164 n165 c166),(10,.slice A177 n178 c179),(11,.int .i64 x9029)] [Yhh Ygo (w.heap.size) none r73.2.2.2.2 cs92 bs93,Yhh Ygo (w.heap.size) none (r19.prods.map Yif) cs35 bs36,.own (.slice A177 n178 c179) 29 1 n178 (r175.flatMap (eI .u64)),.own (.slice A164 n165 c166) 4 1 n165 (r162.flatMap eB),.own (.slice A119 n120 c121) 29 1 n120 (r117.flatMap (eI .u64)),.own (.slice A106 n107 c108) 4 1 n107 (x9027.flatMap eB),.box gb99 26 [.slice A75 r73.2.1 c77,.slice A81 r73.2.2.1 c83,.slice A87 r73.2.2.2.1 c89],.own (.slice A75 n76 c77) 58 2 n76 (r73.1.terms.flatMap Yg6),.own (.slice A81 n82 c83) 61 2 n82 (r73.1.syms.flatMap Ygb),.own (.slice A87 n88 c89) 38 2 n88 cs92,.own (.slice A62 n63 c64) 29 1 n63 (r60.flatMap (eI .u64)),.own (.slice A49 n50 c51) 4 1 n50 (r47.flatMap eB),.box gb42 26 [.slice A21 n22 c23,.slice A26 n27 c28,.slice A31 n32 c33],.own (.slice A21 n22 c23) 58 2 n22 (r19.terms.flatMap Yg6),.own (.slice A26 n27 c28) 61 2 n27 (r19.syms.flatMap Ygb),.own (.slice A31 n32 c33) 38 2 n32 cs35,.box gb14 26 [.slice A2 n3 c4,.slice A6 n7 c8,.slice A10 n11 c12]] [Sm w.heap.size F w [],St w []]
    intro h9028 hl186 hl187 hl188
    have h:Yh3 r162 r47 r175 r60 x1 r73 r19 r117 x9027 x9029 o1:=h
    unfold Yh3 at h
    refine Yg3 rfl<|Yg3 rfl<|Yfy rfl rfl<|Yfx 0 rfl (Yg2 rfl) gn rfl<|Yfx 1 rfl (Yg2 rfl) gn rfl<|Yfx 2 rfl (Ygn Yu2 rfl h9028.hq) gn rfl<|Yfx 3 rfl (Ygj rfl rfl rfl) gn rfl<|Yg7 4 rfl ?_
    by_cases hp17868:x9029 < (x9027.length:Int)
    ·have h:=Ygf hp17868 h
     refine Ygp rfl _ rfl ((decide_eq_true hp17868))<|Ygt rfl<|Yg3 rfl<|Ygm rfl<|Yfy rfl rfl<|Yfx 0 rfl (Yg2 rfl) gn rfl<|Yfx 1 rfl (Yg2 rfl) gn rfl<|Yfx 2 rfl (Yg2 rfl) gn rfl<|Yfx 3 rfl (Yg2 rfl) gn rfl ?_
     obtain ⟨hb17869,h⟩:=h
     refine Yfx 4 rfl (Ymd Ynr rfl rfl h9028 hb17869) gn rfl<|Yfx 5 rfl (Ypg (.bool (ix x9027 x9029)) 5 ld_4 rfl rfl (Yss hlB hb17869 rfl)) gn rfl<|Yfx 6 rfl (Ymb rfl) gn rfl<|Yfx 7 rfl (Ymd Ynr rfl rfl h9028 hb17869) gn rfl ?_
     obtain ⟨x17870,hv17871,h⟩:=h
     refine Ygw 8 rfl (Yu4 (enc:=eB) (o:=0) (z:=(!(ix x9027 x9029))) (vs:=[.bool (!(ix x9027 x9029))]) (i:=x9029) 5 hlB sz_4 rfl rfl rfl rfl rfl h9028 hb17869 rfl rfl rfl hv17871 fun h17872=>?_) gn
     refine Yg7 9 rfl<|Ygq<|Yfy rfl rfl<|Yfx 0 rfl (Yg2 rfl) gn rfl<|Yfx 1 rfl (Ygj rfl rfl rfl) gn rfl<|Yfx 2 rfl (Yg1 rfl) gn rfl<|Yg7 3 rfl<|Ygv ?_
     have ih:=Out.inl hO1 h
     exact Yhj [0,1] (ih h17872 hl186 hl187 hl188) ⟨rfl,rfl,rfl,rfl,rfl,rfl,rfl,rfl,rfl,rfl,trivial⟩ (.cons_cons _ (.cons_cons _ (.cons_cons _ (.cons_cons _ (.cons_cons _ (.cons_cons _ (.cons_cons _ (.cons_cons _ (.cons_cons _ (.cons_cons _ (.cons_cons _ (.cons_cons _ (.cons_cons _ (.cons_cons _ (.cons_cons _ (.cons_cons _ (.cons_cons _ (.slnil)))))))))))))))))) rfl
    ·have h:=Yge hp17868 h
     refine Ygl rfl _ rfl ((decide_eq_false hp17868))<|Yii [.code Ysk] rfl rfl<|Yg3 rfl<|Yg3 rfl<|Yfy rfl rfl<|Yfx 0 rfl (Yg1 rfl) gn rfl<|Yg7 1 rfl<|Ygm rfl<|Yij rfl ?_
     have key3:∀ s,Yga (fun (s:(List Int) × Int) o=>Yh4 r162 r47 r175 r60 x1 r73 r19 x9027 s.1 s.2 o) s o1→(fun (s:(List Int) × Int)=>∀ (h20820:Ow w.heap.size A119 n120 c121 s.1) (hl17874:r73.2.1≤n76) (hl17875:r73.2.2.1≤n82) (hl17876:r73.2.2.2.1≤n88),G (Ygh w F r) [.code Ysh,.inLoop Ysh,.inBlock 2,.code Yso] [(1,.pointer (some ⟨gb14,0,none⟩)),(3,.pointer (some ⟨gb42,0,none⟩)),(4,.slice A49 n50 c51),(5,.slice A62 n63 c64),(6,.pointer (some ⟨gb99,0,none⟩)),(7,.slice A106 n107 c108),(8,.slice A119 n120 c121),(9,.slice A164 n165 c166),(10,.slice A177 n178 c179),(12,.int .i64 s.2)] [Yhh Ygo (w.heap.size) none r73.2.2.2.2 cs92 bs93,Yhh Ygo (w.heap.size) none (r19.prods.map Yif) cs35 bs36,.own (.slice A177 n178 c179) 29 1 n178 (r175.flatMap (eI .u64)),.own (.slice A164 n165 c166) 4 1 n165 (r162.flatMap eB),.own (.slice A119 n120 c121) 29 1 n120 (s.1.flatMap (eI .u64)),.own (.slice A106 n107 c108) 4 1 n107 (x9027.flatMap eB),.box gb99 26 [.slice A75 r73.2.1 c77,.slice A81 r73.2.2.1 c83,.slice A87 r73.2.2.2.1 c89],.own (.slice A75 n76 c77) 58 2 n76 (r73.1.terms.flatMap Yg6),.own (.slice A81 n82 c83) 61 2 n82 (r73.1.syms.flatMap Ygb),.own (.slice A87 n88 c89) 38 2 n88 cs92,.own (.slice A62 n63 c64) 29 1 n63 (r60.flatMap (eI .u64)),.own (.slice A49 n50 c51) 4 1 n50 (r47.flatMap eB),.box gb42 26 [.slice A21 n22 c23,.slice A26 n27 c28,.slice A31 n32 c33],.own (.slice A21 n22 c23) 58 2 n22 (r19.terms.flatMap Yg6),.own (.slice A26 n27 c28) 61 2 n27 (r19.syms.flatMap Ygb),.own (.slice A31 n32 c33) 38 2 n32 cs35,.box gb14 26 [.slice A2 n3 c4,.slice A6 n7 c8,.slice A10 n11 c12]] [Sm w.heap.size F w [],St w []]) s:=by
      intro s hs
      refine Yga.ind (mot:=(fun (s:(List Int) × Int)=>∀ (h20820:Ow w.heap.size A119 n120 c121 s.1) (hl17874:r73.2.1≤n76) (hl17875:r73.2.2.1≤n82) (hl17876:r73.2.2.2.1≤n88),G (Ygh w F r) [.code Ysh,.inLoop Ysh,.inBlock 2,.code Yso] [(1,.pointer (some ⟨gb14,0,none⟩)),(3,.pointer (some ⟨gb42,0,none⟩)),(4,.slice A49 n50 c51),(5,.slice A62 n63 c64),(6,.pointer (some ⟨gb99,0,none⟩)),(7,.slice A106 n107 c108),(8,.slice A119 n120 c121),(9,.slice A164 n165 c166),(10,.slice A177 n178 c179),(12,.int .i64 s.2)] [Yhh Ygo (w.heap.size) none r73.2.2.2.2 cs92 bs93,Yhh Ygo (w.heap.size) none (r19.prods.map Yif) cs35 bs36,.own (.slice A177 n178 c179) 29 1 n178 (r175.flatMap (eI .u64)),.own (.slice A164 n165 c166) 4 1 n165 (r162.flatMap eB),.own (.slice A119 n120 c121) 29 1 n120 (s.1.flatMap (eI .u64)),.own (.slice A106 n107 c108) 4 1 n107 (x9027.flatMap eB),.box gb99 26 [.slice A75 r73.2.1 c77,.slice A81 r73.2.2.1 c83,.slice A87 r73.2.2.2.1 c89],.own (.slice A75 n76 c77) 58 2 n76 (r73.1.terms.flatMap Yg6),.own (.slice A81 n82 c83) 61 2 n82 (r73.1.syms.flatMap Ygb),.own (.slice A87 n88 c89) 38 2 n88 cs92,.own (.slice A62 n63 c64) 29 1 n63 (r60.flatMap (eI .u64)),.own (.slice A49 n50 c51) 4 1 n50 (r47.flatMap eB),.box gb42 26 [.slice A21 n22 c23,.slice A26 n27 c28,.slice A31 n32 c33],.own (.slice A21 n22 c23) 58 2 n22 (r19.terms.flatMap Yg6),.own (.slice A26 n27 c28) 61 2 n27 (r19.syms.flatMap Ygb),.own (.slice A31 n32 c33) 38 2 n32 cs35,.box gb14 26 [.slice A2 n3 c4,.slice A6 n7 c8,.slice A10 n11 c12]] [Sm w.heap.size F w [],St w []])) ?_ hs
      clear hs s
      intro s o2 h hO2
      obtain ⟨x20819,x20821⟩:=s
      show ∀ (h20820:Ow w.heap.size A119 n120 c121 x20819) (hl17874:r73.2.1≤n76) (hl17875:r73.2.2.1≤n82) (hl17876:r73.2.2.2.1≤n88),G (Ygh w F r) [.code Ysh,.inLoop Ysh,.inBlock 2,.code Yso] [(1,.pointer (some ⟨gb14,0,none⟩)),(3,.pointer (some ⟨gb42,0,none⟩)),(4,.slice A49 n50 c51),(5,.slice A62 n63 c64),(6,.pointer (some ⟨gb99,0,none⟩)),(7,.slice A106 n107 c108),(8,.slice A119 n120 c121),(9,.slice A164 n165 c166),(10,.slice A177 n178 c179),(12,.int .i64 x20821)] [Yhh Ygo (w.heap.size) none r73.2.2.2.2 cs92 bs93,Yhh Ygo (w.heap.size) none (r19.prods.map Yif) cs35 bs36,.own (.slice A177 n178 c179) 29 1 n178 (r175.flatMap (eI .u64)),.own (.slice A164 n165 c166) 4 1 n165 (r162.flatMap eB),.own (.slice A119 n120 c121) 29 1 n120 (x20819.flatMap (eI .u64)),.own (.slice A106 n107 c108) 4 1 n107 (x9027.flatMap eB),.box gb99 26 [.slice A75 r73.2.1 c77,.slice A81 r73.2.2.1 c83,.slice A87 r73.2.2.2.1 c89],.own (.slice A75 n76 c77) 58 2 n76 (r73.1.terms.flatMap Yg6),.own (.slice A81 n82 c83) 61 2 n82 (r73.1.syms.flatMap Ygb),.own (.slice A87 n88 c89) 38 2 n88 cs92,.own (.slice A62 n63 c64) 29 1 n63 (r60.flatMap (eI .u64)),.own (.slice A49 n50 c51) 4 1 n50 (r47.flatMap eB),.box gb42 26 [.slice A21 n22 c23,.slice A26 n27 c28,.slice A31 n32 c33],.own (.slice A21 n22 c23) 58 2 n22 (r19.terms.flatMap Yg6),.own (.slice A26 n27 c28) 61 2 n27 (r19.syms.flatMap Ygb),.own (.slice A31 n32 c33) 38 2 n32 cs35,.box gb14 26 [.slice A2 n3 c4,.slice A6 n7 c8,.slice A10 n11 c12]] [Sm w.heap.size F w [],St w []]
      intro h20820 hl17874 hl17875 hl17876
      have h:Yh4 r162 r47 r175 r60 x1 r73 r19 x9027 x20819 x20821 o2:=h
      unfold Yh4 at h
      refine Yg3 rfl<|Yg3 rfl<|Yfy rfl rfl<|Yfx 0 rfl (Yg2 rfl) gn rfl<|Yfx 1 rfl (Yg2 rfl) gn rfl<|Yfx 2 rfl (Ygn Ytq rfl h20820.hq) gn rfl<|Yfx 3 rfl (Ygj rfl rfl rfl) gn rfl<|Yg7 4 rfl ?_
      by_cases hp23764:x20821 < (x20819.length:Int)
      ·have h:=Ygf hp23764 h
       refine Ygp rfl _ rfl ((decide_eq_true hp23764))<|Ygt rfl<|Yg3 rfl<|Ygm rfl<|Yfy rfl rfl<|Yfx 0 rfl (Yg2 rfl) gn rfl<|Yfx 1 rfl (Yg2 rfl) gn rfl ?_
       obtain ⟨hb23765,h⟩:=h
       refine Yfx 2 rfl (Ymd Yul rfl rfl h20820 hb23765) gn rfl ?_
       obtain ⟨x23766,hv23767,h⟩:=h
       refine Ygw 3 rfl (Yu4 (enc:=(eI .u64)) (o:=0) (z:=77) (vs:=[.int .u64 77]) (i:=x20821) 4 (hlI .u64) sz_29 rfl rfl rfl rfl rfl h20820 hb23765 rfl rfl rfl hv23767 fun h23768=>?_) gn
       refine Yg7 4 rfl<|Ygq<|Yfy rfl rfl<|Yfx 0 rfl (Yg2 rfl) gn rfl<|Yfx 1 rfl (Ygj rfl rfl rfl) gn rfl<|Yfx 2 rfl (Yg1 rfl) gn rfl<|Yg7 3 rfl<|Ygv ?_
       have ih:=Out.inl hO2 h
       exact Yhj [0,1] (ih h23768 hl17874 hl17875 hl17876) ⟨rfl,rfl,rfl,rfl,rfl,rfl,rfl,rfl,rfl,rfl,trivial⟩ (.cons_cons _ (.cons_cons _ (.cons_cons _ (.cons_cons _ (.cons_cons _ (.cons_cons _ (.cons_cons _ (.cons_cons _ (.cons_cons _ (.cons_cons _ (.cons_cons _ (.cons_cons _ (.cons_cons _ (.cons_cons _ (.cons_cons _ (.cons_cons _ (.cons_cons _ (.slnil)))))))))))))))))) rfl
      ·have h:=Yge hp23764 h
       refine Ygl rfl _ rfl ((decide_eq_false hp23764))<|Yii [.code Yso] rfl rfl<|Yg3 rfl<|Yfy rfl rfl<|Yfx 0 rfl (Yg2 rfl) gn rfl<|Yfx 1 rfl (Yg1 rfl) gn rfl<|Yg7 2 rfl<|Yg3 rfl<|Yfy rfl rfl<|Yfx 0 rfl (Yg2 rfl) gn rfl<|Yfx 1 rfl (Yg1 rfl) gn rfl<|Yg7 2 rfl ?_
       refine Yg3 rfl<|Yg3 rfl<|Yfy rfl rfl<|Yfx 0 rfl (Yg1 rfl) gn rfl<|Yg7 1 rfl<|Ygm rfl<|Yij rfl ?_
       have key4:∀ s,Yga (fun (s:(List Bool) × (List Int) × Int) o=>Yh2 r162 r47 r175 r60 x1 r73 r19 s.1 s.2.1 s.2.2 o) s o2→(fun (s:(List Bool) × (List Int) × Int)=>∀ (A23792:Option Addr) (n23793:Nat) (c23794:Nat) (h23795:Ow w.heap.size A23792 n23793 c23794 s.1) (A23797:Option Addr) (n23798:Nat) (c23799:Nat) (h23800:Ow w.heap.size A23797 n23798 c23799 s.2.1) (hl23770:r73.2.1≤n76) (hl23771:r73.2.2.1≤n82) (hl23772:r73.2.2.2.1≤n88),G (Ygh w F r) [.code Ysi,.inLoop Ysi,.inBlock 4,.code Yse] [(1,.pointer (some ⟨gb14,0,none⟩)),(3,.pointer (some ⟨gb42,0,none⟩)),(4,.slice A49 n50 c51),(5,.slice A62 n63 c64),(6,.pointer (some ⟨gb99,0,none⟩)),(9,.slice A164 n165 c166),(10,.slice A177 n178 c179),(13,.slice A23792 n23793 c23794),(14,.slice A23797 n23798 c23799),(15,.int .i64 s.2.2)] [Yhh Ygo (w.heap.size) none r73.2.2.2.2 cs92 bs93,Yhh Ygo (w.heap.size) none (r19.prods.map Yif) cs35 bs36,.own (.slice A177 n178 c179) 29 1 n178 (r175.flatMap (eI .u64)),.own (.slice A164 n165 c166) 4 1 n165 (r162.flatMap eB),.own (.slice A23797 n23798 c23799) 29 1 n23798 (s.2.1.flatMap (eI .u64)),.own (.slice A23792 n23793 c23794) 4 1 n23793 (s.1.flatMap eB),.box gb99 26 [.slice A75 r73.2.1 c77,.slice A81 r73.2.2.1 c83,.slice A87 r73.2.2.2.1 c89],.own (.slice A75 n76 c77) 58 2 n76 (r73.1.terms.flatMap Yg6),.own (.slice A81 n82 c83) 61 2 n82 (r73.1.syms.flatMap Ygb),.own (.slice A87 n88 c89) 38 2 n88 cs92,.own (.slice A62 n63 c64) 29 1 n63 (r60.flatMap (eI .u64)),.own (.slice A49 n50 c51) 4 1 n50 (r47.flatMap eB),.box gb42 26 [.slice A21 n22 c23,.slice A26 n27 c28,.slice A31 n32 c33],.own (.slice A21 n22 c23) 58 2 n22 (r19.terms.flatMap Yg6),.own (.slice A26 n27 c28) 61 2 n27 (r19.syms.flatMap Ygb),.own (.slice A31 n32 c33) 38 2 n32 cs35,.box gb14 26 [.slice A2 n3 c4,.slice A6 n7 c8,.slice A10 n11 c12]] [Sm w.heap.size F w [],St w []]) s:=by
        intro s hs
        refine Yga.ind (mot:=(fun (s:(List Bool) × (List Int) × Int)=>∀ (A23792:Option Addr) (n23793:Nat) (c23794:Nat) (h23795:Ow w.heap.size A23792 n23793 c23794 s.1) (A23797:Option Addr) (n23798:Nat) (c23799:Nat) (h23800:Ow w.heap.size A23797 n23798 c23799 s.2.1) (hl23770:r73.2.1≤n76) (hl23771:r73.2.2.1≤n82) (hl23772:r73.2.2.2.1≤n88),G (Ygh w F r) [.code Ysi,.inLoop Ysi,.inBlock 4,.code Yse] [(1,.pointer (some ⟨gb14,0,none⟩)),(3,.pointer (some ⟨gb42,0,none⟩)),(4,.slice A49 n50 c51),(5,.slice A62 n63 c64),(6,.pointer (some ⟨gb99,0,none⟩)),(9,.slice A164 n165 c166),(10,.slice A177 n178 c179),(13,.slice A23792 n23793 c23794),(14,.slice A23797 n23798 c23799),(15,.int .i64 s.2.2)] [Yhh Ygo (w.heap.size) none r73.2.2.2.2 cs92 bs93,Yhh Ygo (w.heap.size) none (r19.prods.map Yif) cs35 bs36,.own (.slice A177 n178 c179) 29 1 n178 (r175.flatMap (eI .u64)),.own (.slice A164 n165 c166) 4 1 n165 (r162.flatMap eB),.own (.slice A23797 n23798 c23799) 29 1 n23798 (s.2.1.flatMap (eI .u64)),.own (.slice A23792 n23793 c23794) 4 1 n23793 (s.1.flatMap eB),.box gb99 26 [.slice A75 r73.2.1 c77,.slice A81 r73.2.2.1 c83,.slice A87 r73.2.2.2.1 c89],.own (.slice A75 n76 c77) 58 2 n76 (r73.1.terms.flatMap Yg6),.own (.slice A81 n82 c83) 61 2 n82 (r73.1.syms.flatMap Ygb),.own (.slice A87 n88 c89) 38 2 n88 cs92,.own (.slice A62 n63 c64) 29 1 n63 (r60.flatMap (eI .u64)),.own (.slice A49 n50 c51) 4 1 n50 (r47.flatMap eB),.box gb42 26 [.slice A21 n22 c23,.slice A26 n27 c28,.slice A31 n32 c33],.own (.slice A21 n22 c23) 58 2 n22 (r19.terms.flatMap Yg6),.own (.slice A26 n27 c28) 61 2 n27 (r19.syms.flatMap Ygb),.own (.slice A31 n32 c33) 38 2 n32 cs35,.box gb14 26 [.slice A2 n3 c4,.slice A6 n7 c8,.slice A10 n11 c12]] [Sm w.heap.size F w [],St w []])) ?_ hs
        clear hs s
        intro s o3 h hO3
        obtain ⟨x23791,x23796,x23801⟩:=s
        show ∀ (A23792:Option Addr) (n23793:Nat) (c23794:Nat) (h23795:Ow w.heap.size A23792 n23793 c23794 x23791) (A23797:Option Addr) (n23798:Nat) (c23799:Nat) (h23800:Ow w.heap.size A23797 n23798 c23799 x23796) (hl23770:r73.2.1≤n76) (hl23771:r73.2.2.1≤n82) (hl23772:r73.2.2.2.1≤n88),G (Ygh w F r) [.code Ysi,.inLoop Ysi,.inBlock 4,.code Yse] [(1,.pointer (some ⟨gb14,0,none⟩)),(3,.pointer (some ⟨gb42,0,none⟩)),(4,.slice A49 n50 c51),(5,.slice A62 n63 c64),(6,.pointer (some ⟨gb99,0,none⟩)),(9,.slice A164 n165 c166),(10,.slice A177 n178 c179),(13,.slice A23792 n23793 c23794),(14,.slice A23797 n23798 c23799),(15,.int .i64 x23801)] [Yhh Ygo (w.heap.size) none r73.2.2.2.2 cs92 bs93,Yhh Ygo (w.heap.size) none (r19.prods.map Yif) cs35 bs36,.own (.slice A177 n178 c179) 29 1 n178 (r175.flatMap (eI .u64)),.own (.slice A164 n165 c166) 4 1 n165 (r162.flatMap eB),.own (.slice A23797 n23798 c23799) 29 1 n23798 (x23796.flatMap (eI .u64)),.own (.slice A23792 n23793 c23794) 4 1 n23793 (x23791.flatMap eB),.box gb99 26 [.slice A75 r73.2.1 c77,.slice A81 r73.2.2.1 c83,.slice A87 r73.2.2.2.1 c89],.own (.slice A75 n76 c77) 58 2 n76 (r73.1.terms.flatMap Yg6),.own (.slice A81 n82 c83) 61 2 n82 (r73.1.syms.flatMap Ygb),.own (.slice A87 n88 c89) 38 2 n88 cs92,.own (.slice A62 n63 c64) 29 1 n63 (r60.flatMap (eI .u64)),.own (.slice A49 n50 c51) 4 1 n50 (r47.flatMap eB),.box gb42 26 [.slice A21 n22 c23,.slice A26 n27 c28,.slice A31 n32 c33],.own (.slice A21 n22 c23) 58 2 n22 (r19.terms.flatMap Yg6),.own (.slice A26 n27 c28) 61 2 n27 (r19.syms.flatMap Ygb),.own (.slice A31 n32 c33) 38 2 n32 cs35,.box gb14 26 [.slice A2 n3 c4,.slice A6 n7 c8,.slice A10 n11 c12]] [Sm w.heap.size F w [],St w []]
        intro A23792 n23793 c23794 h23795 A23797 n23798 c23799 h23800 hl23770 hl23771 hl23772
        have h:Yh2 r162 r47 r175 r60 x1 r73 r19 x23791 x23796 x23801 o3:=h
        unfold Yh2 at h
        refine Yg3 rfl<|Yg3 rfl<|Yfy rfl rfl<|Yfx 0 rfl (Yg2 rfl) gn rfl<|Yfx 1 rfl (Ygj rfl rfl rfl) gn rfl<|Yg7 2 rfl ?_
        by_cases hp25254:x23801 < 70
        ·have h:=Ygf hp25254 h
         refine Ygp rfl _ rfl ((decide_eq_true hp25254))<|Ygt rfl<|Yg3 rfl<|Ygm rfl<|Yg3 rfl<|Yfy rfl rfl<|Yfx 0 rfl (Yg2 rfl) gn rfl<|Yfx 1 rfl (Yg2 rfl) gn rfl<|Yfx 2 rfl (v_rem rfl rfl (by decide)) gn rfl<|Yfx 3 rfl (Ygj rfl rfl rfl) gn rfl ?_
         refine Ygw 4 rfl (Ymx (xs:=([((Int.tmod x23801 2) == 0)]:List Bool)) [.bool ((Int.tmod x23801 2) == 0)] bs_40_1 rfl (by kernel_rfl) rfl rfl rfl rfl fun gb25256 h25257=>?_) gn
         obtain ⟨x25261,hv25262,h⟩:=h
         obtain ⟨hb25263,h⟩:=h
         refine Ygw 5 rfl (Ynt (zs:=x25261) (cells':=x25261.flatMap eB) 6 ap_40 rfl rfl rfl h23795 (Nat.le_refl _) (Src.ownF (hl:=hlB) (h1:=Yn7) 0 rfl h25257) (by rw [hv25262,List.flatMap_append] <;> rfl) (Ylm hv25262 h25257.hq) hb25263 rfl rfl fun A25258 c25259 h25260=>?_) gn
         refine Yfx 6 rfl (Yg1 rfl) gn rfl<|Yg7 7 rfl<|Yfy rfl rfl<|Yfx 0 rfl (Yg2 rfl) gn rfl ?_
         refine Ygw 1 rfl (Ymx (xs:=([78]:List Int)) [.int .u64 78] Yux rfl (by kernel_rfl) rfl rfl rfl rfl fun gb25265 h25266=>?_) gn
         obtain ⟨x25270,hv25271,h⟩:=h
         obtain ⟨hb25272,h⟩:=h
         refine Ygw 2 rfl (Ynt (zs:=x25270) (cells':=x25270.flatMap (eI .u64)) 6 ap_42 rfl rfl rfl h23800 (Nat.le_refl _) (Src.ownF (hl:=(hlI .u64)) (h1:=(Yol .u64)) 0 rfl h25266) (by rw [hv25271,List.flatMap_append] <;> rfl) (Ylm hv25271 h25266.hq) hb25272 rfl rfl fun A25267 c25268 h25269=>?_) gn
         refine Yfx 3 rfl (Yg1 rfl) gn rfl<|Yg7 4 rfl<|Ygq<|Yfy rfl rfl<|Yfx 0 rfl (Yg2 rfl) gn rfl<|Yfx 1 rfl (Ygj rfl rfl rfl) gn rfl<|Yfx 2 rfl (Yg1 rfl) gn rfl<|Yg7 3 rfl<|Ygv ?_
         have ih:=Out.inl hO3 h
         exact Yhj [0,1] (ih A25258 (n23793 + 1) c25259 h25260 A25267 (n23798 + 1) c25268 h25269 hl23770 hl23771 hl23772) ⟨rfl,rfl,rfl,rfl,rfl,rfl,rfl,rfl,rfl,rfl,trivial⟩ (.cons _ (.cons _ (.cons_cons _ (.cons_cons _ (.cons_cons _ (.cons_cons _ (.cons_cons _ (.cons_cons _ (.cons_cons _ (.cons_cons _ (.cons_cons _ (.cons_cons _ (.cons_cons _ (.cons_cons _ (.cons_cons _ (.cons_cons _ (.cons_cons _ (.cons_cons _ (.cons_cons _ (.slnil)))))))))))))))))))) rfl
        ·have h:=Yge hp25254 h
         refine Ygl rfl _ rfl ((decide_eq_false hp25254))<|Yii [.code Yse] rfl rfl<|Yg3 rfl<|Yg3 rfl ?_
         have j5:∀ (x25301:Bool) (h:Yhg x1 x25301 o3) ,G (Ygh w F r) [.code q4c81,.code q4c79] [(1,.pointer (some ⟨gb14,0,none⟩)),(115,.bool x25301)] [.box gb14 26 [.slice A2 n3 c4,.slice A6 n7 c8,.slice A10 n11 c12]] [Sm w.heap.size F w [],St w []]:=by
          intro x25301 h
          unfold Yhg at h
          by_cases hp25302:x25301=true
          ·have h:=Ygf hp25302 h
           refine Ygp rfl _ rfl (hp25302)<|Yg3 rfl<|Yfy rfl rfl<|Yfx 0 rfl (Yg1 rfl) gn rfl<|Yg7 1 rfl ?_
           have h:=Out.inr hO3 h
           have h:=Out.inr hO2 h
           have h:=Out.inr hO1 h
           refine Ygx [.bool false] rfl Try.func4 rfl (.tmp rfl (.nil)) fun wr hLr=>?_
           have hMr:=hLr.pk0 (.c 1 rfl .n)
           show Yi3 w F  r (.returned (Yhe [.bool false])) wr
           rw [h]
           exact ⟨rfl,hMr⟩
          ·have h:=Yge hp25302 h
           refine Ygl rfl _ rfl ((bf hp25302))<|Ygt rfl<|Yg3 rfl<|Yfy rfl rfl<|Yfx 0 rfl (Yji [.slice A2 n3 c4,.slice A6 n7 c8,.slice A10 n11 c12] 0 Yjg rfl rfl rfl rfl) gn rfl ?_
           obtain ⟨r25306,hv25307,h⟩:=h
           refine Ygw 1 rfl (Yho [.agg #[.slice A2 n3 c4,.slice A6 n7 c8,.slice A10 n11 c12]] rfl Try.func8 rfl rfl rfl fun w25303 hL25304=>?_) gn
           have hp25305:=pmI hL25304 .n (.c 0 rfl .n) (by kernel_rfl)
           refine Calls.mono (Yk3 w25303 (Fl ([]:List Ygr)) x1 A2 n3 c4 A6 n7 c8 A10 n11 c12 (Rw.mono h5 (hL25304.toSt hp25305 (me 1 rfl))) (Rw.mono h9 (hL25304.toSt hp25305 (me 1 rfl))) (Rw.mono h13 (hL25304.toSt hp25305 (me 1 rfl))) (hL25304.hFl hp25305 (Yj7 [] rfl)) (hL25304.into hp25305 _) r25306 hv25307) ?_
           rintro _ w25326 ⟨A25308,n25309,c25310,A25313,n25314,c25315,A25318,n25319,c25320,cs25322,bs25323,rfl,hM25327,h25311,h25316,h25321⟩
           have hL25328:=hL25304.call hp25305 hM25327
           refine ⟨_,_,_,rfl,hL25328,?_⟩
           refine Yr4 (fk:=Ymr) (z':=w.heap.size) (j:=3) hL25304.env.size rfl<|Yr1 (fk:=Ymr) (z:=w.heap.size) (j:=3) Ygo Yif (fun _=>rfl) (fun _=>rfl) (fun x d h=>by obtain ⟨A,n,c⟩:=d; simp only at h; subst h; rfl) (fun _=>Nat.le_refl _) rfl rfl rfl ?_
           refine Ygw 2 rfl (Ykc [.slice none 0 0,.slice none 0 0,.slice none 0 0] Yqs rfl fun gb25329=>?_) gn
           refine Ygw 3 rfl (Ylo (vs:=[.slice A25308 n25309 c25310,.slice A25313 n25314 c25315,.slice A25318 n25319 c25320]) (cs':=[.slice A25308 n25309 c25310,.slice A25313 n25314 c25315,.slice A25318 n25319 c25320]) (M':=[.box gb25329 26 [.slice A25308 n25309 c25310,.slice A25313 n25314 c25315,.slice A25318 n25319 c25320],.own (.slice A25308 n25309 c25310) 58 2 n25309 (r25306.terms.flatMap Yg6),.own (.slice A25313 n25314 c25315) 61 2 n25314 (r25306.syms.flatMap Ygb),.own (.slice A25318 n25319 c25320) 38 2 n25319 cs25322,Yhh Ygo (w.heap.size) none (r25306.prods.map Yif) cs25322 bs25323,.box gb14 26 [.slice A2 n3 c4,.slice A6 n7 c8,.slice A10 n11 c12]]) 0 Yrn rfl rfl rfl rfl rfl rfl rfl rfl rfl ?_) gn
           refine Yg7 4 rfl<|Yg3 rfl<|Yfy rfl rfl<|Yfx 0 rfl (Yji [.slice A25308 n25309 c25310,.slice A25313 n25314 c25315,.slice A25318 n25319 c25320] 0 Yjg rfl rfl rfl rfl) gn rfl ?_
           obtain ⟨r25334,hv25335,h⟩:=h
           refine Ygw 1 rfl (Yho [.agg #[.slice A25308 n25309 c25310,.slice A25313 n25314 c25315,.slice A25318 n25319 c25320]] rfl Try.func18 rfl rfl rfl fun w25331 hL25332=>?_) gn
           have hp25333:=pmI hL25332 .n (.c 0 rfl (.c 1 rfl (.c 2 rfl (.c 3 rfl (.c 4 rfl (.c 5 rfl .n)))))) (by kernel_rfl)
           refine Calls.mono (Ykn w25331 (Fl ([]:List Ygr)) r25306 A25308 n25309 c25310 A25313 n25314 c25315 A25318 n25319 c25320 (hL25332.argO (dk:=Ygi) hp25333 [] rfl 1 rfl rfl (Ow.weak hL25304.env.size h25311) (me 0 rfl) (Cells.flat _)) (hL25332.argO (dk:=Ygu) hp25333 [] rfl 2 rfl rfl (Ow.weak hL25304.env.size h25316) (me 0 rfl) (Cells.flat _)) (Rw.w (Rw.vis (dk:=Yip) (dk2:=Ygs) Yi5 rfl (fun x cs=>by rintro ⟨A,n,c,rfl,h,k⟩; exact ⟨A,_,c,rfl,Rw.pre h k⟩) (hL25332.argFam (fk:=Ygo) (dk:=Yip) hp25333 [] rfl 3 4 rfl rfl rfl rfl (Ow.w (Ow.weak hL25304.env.size h25321) (List.length_map _)) (fun _ _ _ _ k h=>⟨_,_,_,rfl,h,Nat.le_trans k (Nat.le_of_eq h.hq.symm)⟩))) (Yqt _)) (hL25332.hFl hp25333 (Yj7 [] rfl)) (hL25332.into hp25333 _) r25334 hv25335) ?_
           rintro _ w25341 ⟨A25336,n25337,c25338,rfl,hM25342,h25339⟩
           have hL25343:=hL25332.call hp25333 hM25342
           refine ⟨_,_,_,rfl,hL25343,?_⟩
           refine Yg7 2 rfl<|Yg3 rfl<|Yfy rfl rfl<|Yfx 0 rfl (Yji [.slice A25308 n25309 c25310,.slice A25313 n25314 c25315,.slice A25318 n25319 c25320] 1 Yjg rfl rfl rfl rfl) gn rfl ?_
           obtain ⟨r25347,hv25348,h⟩:=h
           refine Ygw 1 rfl (Yho [.agg #[.slice A25308 n25309 c25310,.slice A25313 n25314 c25315,.slice A25318 n25319 c25320]] rfl Try.func19 rfl rfl rfl fun w25344 hL25345=>?_) gn
           have hp25346:=pmI hL25345 .n (.c 0 rfl (.c 1 rfl (.c 2 rfl (.c 3 rfl (.c 4 rfl (.c 5 rfl (.c 6 rfl .n))))))) (by kernel_rfl)
           refine Calls.mono (Yli w25344 (Fl ([]:List Ygr)) r25306 A25308 n25309 c25310 A25313 n25314 c25315 A25318 n25319 c25320 (hL25345.argO (dk:=Ygi) hp25346 [] rfl 2 rfl rfl (Ow.weak hL25304.env.size h25311) (me 0 rfl) (Cells.flat _)) (hL25345.argO (dk:=Ygu) hp25346 [] rfl 3 rfl rfl (Ow.weak hL25304.env.size h25316) (me 0 rfl) (Cells.flat _)) (Rw.w (Rw.vis (dk:=Yip) (dk2:=Ygs) Yi5 rfl (fun x cs=>by rintro ⟨A,n,c,rfl,h,k⟩; exact ⟨A,_,c,rfl,Rw.pre h k⟩) (hL25345.argFam (fk:=Ygo) (dk:=Yip) hp25346 [] rfl 4 5 rfl rfl rfl rfl (Ow.w (Ow.weak hL25304.env.size h25321) (List.length_map _)) (fun _ _ _ _ k h=>⟨_,_,_,rfl,h,Nat.le_trans k (Nat.le_of_eq h.hq.symm)⟩))) (Yqt _)) (hL25345.hFl hp25346 (Yj7 [] rfl)) (hL25345.into hp25346 _) r25347 hv25348) ?_
           rintro _ w25354 ⟨A25349,n25350,c25351,rfl,hM25355,h25352⟩
           have hL25356:=hL25345.call hp25346 hM25355
           refine ⟨_,_,_,rfl,hL25356,?_⟩
           refine Yg7 2 rfl<|Yg3 rfl<|Yg3 rfl<|Yfy rfl rfl<|Yfx 0 rfl (Yg1 rfl) gn rfl<|Yg7 1 rfl<|Ygm rfl<|Yij rfl ?_
           have key6:∀ s,Yga (fun (s:Int × (List (Yg8 × Nat))) o=>Yh6 r25306 s.1 s.2 o) s o3→(fun (s:Int × (List (Yg8 × Nat)))=>∀ (bs25799:List Nat) (h25800:Ow w.heap.size A25318 n25319 c25320 s.2),G (Ygh w F r) [.code Yoe,.inLoop Yoe,.inBlock 6,.code Yqr] [(16,.pointer (some ⟨gb25329,0,none⟩)),(17,.int .i64 s.1)] [Yhh Ygo (w.heap.size) none s.2 cs25322 bs25799,.box gb25329 26 [.slice A25308 n25309 c25310,.slice A25313 n25314 c25315,.slice A25318 n25319 c25320],.own (.slice A25308 n25309 c25310) 58 2 n25309 (r25306.terms.flatMap Yg6),.own (.slice A25313 n25314 c25315) 61 2 n25314 (r25306.syms.flatMap Ygb),.own (.slice A25318 n25319 c25320) 38 2 n25319 cs25322] [Sm w.heap.size F w [],St w []]) s:=by
            intro s hs
            refine Yga.ind (mot:=(fun (s:Int × (List (Yg8 × Nat)))=>∀ (bs25799:List Nat) (h25800:Ow w.heap.size A25318 n25319 c25320 s.2),G (Ygh w F r) [.code Yoe,.inLoop Yoe,.inBlock 6,.code Yqr] [(16,.pointer (some ⟨gb25329,0,none⟩)),(17,.int .i64 s.1)] [Yhh Ygo (w.heap.size) none s.2 cs25322 bs25799,.box gb25329 26 [.slice A25308 n25309 c25310,.slice A25313 n25314 c25315,.slice A25318 n25319 c25320],.own (.slice A25308 n25309 c25310) 58 2 n25309 (r25306.terms.flatMap Yg6),.own (.slice A25313 n25314 c25315) 61 2 n25314 (r25306.syms.flatMap Ygb),.own (.slice A25318 n25319 c25320) 38 2 n25319 cs25322] [Sm w.heap.size F w [],St w []])) ?_ hs
            clear hs s
            intro s o4 h hO4
            obtain ⟨x25797,x25798⟩:=s
            show ∀ (bs25799:List Nat) (h25800:Ow w.heap.size A25318 n25319 c25320 x25798),G (Ygh w F r) [.code Yoe,.inLoop Yoe,.inBlock 6,.code Yqr] [(16,.pointer (some ⟨gb25329,0,none⟩)),(17,.int .i64 x25797)] [Yhh Ygo (w.heap.size) none x25798 cs25322 bs25799,.box gb25329 26 [.slice A25308 n25309 c25310,.slice A25313 n25314 c25315,.slice A25318 n25319 c25320],.own (.slice A25308 n25309 c25310) 58 2 n25309 (r25306.terms.flatMap Yg6),.own (.slice A25313 n25314 c25315) 61 2 n25314 (r25306.syms.flatMap Ygb),.own (.slice A25318 n25319 c25320) 38 2 n25319 cs25322] [Sm w.heap.size F w [],St w []]
            intro bs25799 h25800
            have h:Yh6 r25306 x25797 x25798 o4:=h
            unfold Yh6 at h
            refine Yg3 rfl<|Yg3 rfl<|Yfy rfl rfl<|Yfx 0 rfl (Yg2 rfl) gn rfl<|Yfx 1 rfl (Ygc Yh1 rfl) gn rfl<|Yfx 2 rfl (Ygg 1 Yj4 rfl rfl rfl) gn rfl<|Yfx 3 rfl (Ygn Ymz rfl h25800.hq) gn rfl<|Yfx 4 rfl (Ygj rfl rfl rfl) gn rfl<|Yg7 5 rfl ?_
            by_cases hp26240:x25797 < (x25798.length:Int)
            ·have h:=Ygf hp26240 h
             refine Ygp rfl _ rfl ((decide_eq_true hp26240))<|Ygt rfl<|Yg3 rfl<|Ygm rfl<|Yg3 rfl<|Yfy rfl rfl<|Yfx 0 rfl (Yg1 rfl) gn rfl<|Yg7 1 rfl<|Ygm rfl<|Yij rfl ?_
             have key7:∀ s,Yga (fun (s:Int × (List (Yg8 × Nat))) o=>Yh5 x25797 s.1 s.2 o) s o4→(fun (s:Int × (List (Yg8 × Nat)))=>∀ (bs26356:List Nat) (h26357:Ow w.heap.size A25318 n25319 c25320 s.2),G (Ygh w F r) [.code Yph,.inLoop Yph,.inBlock 8,.inBlock 7,.code Ysu,.inLoop Yoe,.inBlock 6,.code Yqr] [(16,.pointer (some ⟨gb25329,0,none⟩)),(17,.int .i64 x25797),(18,.int .i64 s.1)] [Yhh Ygo (w.heap.size) none s.2 cs25322 bs26356,.box gb25329 26 [.slice A25308 n25309 c25310,.slice A25313 n25314 c25315,.slice A25318 n25319 c25320],.own (.slice A25308 n25309 c25310) 58 2 n25309 (r25306.terms.flatMap Yg6),.own (.slice A25313 n25314 c25315) 61 2 n25314 (r25306.syms.flatMap Ygb),.own (.slice A25318 n25319 c25320) 38 2 n25319 cs25322] [Sm w.heap.size F w [],St w []]) s:=by
              intro s hs
              refine Yga.ind (mot:=(fun (s:Int × (List (Yg8 × Nat)))=>∀ (bs26356:List Nat) (h26357:Ow w.heap.size A25318 n25319 c25320 s.2),G (Ygh w F r) [.code Yph,.inLoop Yph,.inBlock 8,.inBlock 7,.code Ysu,.inLoop Yoe,.inBlock 6,.code Yqr] [(16,.pointer (some ⟨gb25329,0,none⟩)),(17,.int .i64 x25797),(18,.int .i64 s.1)] [Yhh Ygo (w.heap.size) none s.2 cs25322 bs26356,.box gb25329 26 [.slice A25308 n25309 c25310,.slice A25313 n25314 c25315,.slice A25318 n25319 c25320],.own (.slice A25308 n25309 c25310) 58 2 n25309 (r25306.terms.flatMap Yg6),.own (.slice A25313 n25314 c25315) 61 2 n25314 (r25306.syms.flatMap Ygb),.own (.slice A25318 n25319 c25320) 38 2 n25319 cs25322] [Sm w.heap.size F w [],St w []])) ?_ hs
              clear hs s
              intro s o5 h hO5
              obtain ⟨x26354,x26355⟩:=s
              show ∀ (bs26356:List Nat) (h26357:Ow w.heap.size A25318 n25319 c25320 x26355),G (Ygh w F r) [.code Yph,.inLoop Yph,.inBlock 8,.inBlock 7,.code Ysu,.inLoop Yoe,.inBlock 6,.code Yqr] [(16,.pointer (some ⟨gb25329,0,none⟩)),(17,.int .i64 x25797),(18,.int .i64 x26354)] [Yhh Ygo (w.heap.size) none x26355 cs25322 bs26356,.box gb25329 26 [.slice A25308 n25309 c25310,.slice A25313 n25314 c25315,.slice A25318 n25319 c25320],.own (.slice A25308 n25309 c25310) 58 2 n25309 (r25306.terms.flatMap Yg6),.own (.slice A25313 n25314 c25315) 61 2 n25314 (r25306.syms.flatMap Ygb),.own (.slice A25318 n25319 c25320) 38 2 n25319 cs25322] [Sm w.heap.size F w [],St w []]
              intro bs26356 h26357
              have h:Yh5 x25797 x26354 x26355 o5:=h
              unfold Yh5 at h
              refine Yg3 rfl<|Yg3 rfl<|Yfy rfl rfl<|Yfx 0 rfl (Yg2 rfl) gn rfl<|Yfx 1 rfl (Ygc Yh1 rfl) gn rfl<|Yfx 2 rfl (Ygg 1 Yj4 rfl rfl rfl) gn rfl<|Yfx 3 rfl (Yg2 rfl) gn rfl ?_
              obtain ⟨hb26470,h⟩:=h
              refine w_famget (fk:=Ygo) (z:=w.heap.size) (j:=0) rfl hb26470 fun A26471 n26472 c26473 h26474 ht26475 hg26476=>?_
              have hle26477:(ix x26355 x25797).2≤n26472:=Nat.le_trans (show (ix x26355 x25797).2≤(((ix x26355 x25797).1).rhs).length from ht26475.2.2) (Nat.le_of_eq h26474.hq.symm)
              refine Yfx 4 rfl (Ymd Yjk rfl rfl h26357 hb26470) gn rfl<|Yfx 5 rfl (Yjp Yko rfl) gn rfl<|Yfx 6 rfl (Ypg (.slice A26471 ((ix x26355 x25797).2) c26473) 4 Yn0 rfl rfl (hg26476 1 _ rfl)) gn rfl<|Yfx 7 rfl (Ygn Ynd rfl (Ow.cut h26474 hle26477).hq) gn rfl<|Yfx 8 rfl (Ygj rfl rfl rfl) gn rfl<|Yg7 9 rfl ?_
              by_cases hp26478:x26354 < (((((ix x26355 x25797).1).rhs).take ((ix x26355 x25797).2)).length:Int)
              ·have h:=Ygf hp26478 h
               refine Ygp rfl _ rfl ((decide_eq_true hp26478))<|Ygt rfl<|Yg3 rfl<|Ygm rfl ?_
               obtain ⟨hb26500,h⟩:=h
               obtain ⟨hb26502,h⟩:=h
               obtain ⟨x26504,hv26505,h⟩:=h
               obtain ⟨x26506,hv26507,h⟩:=h
               have hns:Region.noSelect (Code.ops q4c119)=true:=by kernel_rfl
               refine Yk2 [26] 27 rfl rfl mix rfl (.c 0 rfl (.c 1 rfl .n))<|wfv 0 rfl (Ygc Yh1 rfl) gn hns (by kernel_rfl)<|wfv 1 rfl (Ygg 1 Yj4 rfl rfl rfl) gn hns (by kernel_rfl)<|wfv 2 rfl (Yg2 rfl) gn hns (by kernel_rfl) ?_
               refine Yov (fk:=Ygo) (z:=w.heap.size) (j:=0) rfl hb26470 fun A26550 n26551 c26552 h26553 ht26554 hg26555=>?_
               have hle26556:(ix x26355 x25797).2≤n26551:=Nat.le_trans (show (ix x26355 x25797).2≤(((ix x26355 x25797).1).rhs).length from ht26554.2.2) (Nat.le_of_eq h26553.hq.symm)
               refine wfv 3 rfl (Ymd Yjk rfl rfl h26357 hb26470) gn hns (by kernel_rfl)<|wfv 4 rfl (Yjp Yko rfl) gn hns (by kernel_rfl)<|wfv 5 rfl (Ypg (.slice A26550 ((ix x26355 x25797).2) c26552) 4 Yn0 rfl rfl (hg26555 1 _ rfl)) gn hns (by kernel_rfl)<|wfv 6 rfl (Yg2 rfl) gn hns (by kernel_rfl)<|wfv 7 rfl (Ygc Yh1 rfl) gn hns (by kernel_rfl)<|wfv 8 rfl (Ygg 1 Yj4 rfl rfl rfl) gn hns (by kernel_rfl)<|wfv 9 rfl (Yg2 rfl) gn hns (by kernel_rfl) ?_
               refine Yov (fk:=Ygo) (z:=w.heap.size) (j:=0) rfl hb26470 fun A26557 n26558 c26559 h26560 ht26561 hg26562=>?_
               have hle26563:(ix x26355 x25797).2≤n26558:=Nat.le_trans (show (ix x26355 x25797).2≤(((ix x26355 x25797).1).rhs).length from ht26561.2.2) (Nat.le_of_eq h26560.hq.symm)
               refine wfv 10 rfl (Ymd Yjk rfl rfl h26357 hb26470) gn hns (by kernel_rfl)<|wfv 11 rfl (Yjp Yko rfl) gn hns (by kernel_rfl)<|wfv 12 rfl (Ypg (.slice A26557 ((ix x26355 x25797).2) c26559) 4 Yn0 rfl rfl (hg26562 1 _ rfl)) gn hns (by kernel_rfl)<|wfv 13 rfl (Ygc Yh1 rfl) gn hns (by kernel_rfl)<|wfv 14 rfl (Ygg 1 Yj4 rfl rfl rfl) gn hns (by kernel_rfl)<|wfv 15 rfl (Yg2 rfl) gn hns (by kernel_rfl) ?_
               refine Yov (fk:=Ygo) (z:=w.heap.size) (j:=0) rfl hb26470 fun A26564 n26565 c26566 h26567 ht26568 hg26569=>?_
               have hle26570:(ix x26355 x25797).2≤n26565:=Nat.le_trans (show (ix x26355 x25797).2≤(((ix x26355 x25797).1).rhs).length from ht26568.2.2) (Nat.le_of_eq h26567.hq.symm)
               refine wfv 16 rfl (Ymd Yjk rfl rfl h26357 hb26470) gn hns (by kernel_rfl)<|wfv 17 rfl (Yjp Yko rfl) gn hns (by kernel_rfl)<|wfv 18 rfl (Ypg (.slice A26564 ((ix x26355 x25797).2) c26566) 4 Yn0 rfl rfl (hg26569 1 _ rfl)) gn hns (by kernel_rfl)<|wfv 19 rfl (Ygn Ynd rfl (Ow.cut h26567 hle26570).hq) gn hns (by kernel_rfl)<|wfv 20 rfl (Ygj rfl rfl rfl) gn hns (by kernel_rfl)<|wfv 21 rfl (Yg2 rfl) gn hns (by kernel_rfl)<|wfv 22 rfl (Ygj rfl rfl rfl) gn hns (by kernel_rfl) ?_
               have hb26571:0≤w64 ((w64 ((((((ix x26355 x25797).1).rhs).take ((ix x26355 x25797).2)).length:Int) - 1)) - x26354)∧w64 ((w64 ((((((ix x26355 x25797).1).rhs).take ((ix x26355 x25797).2)).length:Int) - 1)) - x26354) < ((((ix x26355 x25797).1).rhs).length:Int):=by have q:=hb26500; have q2:=List.length_take_le' ((ix x26355 x25797).2) (((ix x26355 x25797).1).rhs); omega
               refine wfv 23 rfl (Ymd Ym8 rfl rfl (Ow.cut h26560 hle26563) hb26500) gn hns (by kernel_rfl)<|wfv 24 rfl (v_ldF (fk:=Ygo) (z:=w.heap.size) [.int .i64 ((ix (((ix x26355 x25797).1).rhs) (w64 ((w64 ((((((ix x26355 x25797).1).rhs).take ((ix x26355 x25797).2)).length:Int) - 1)) - x26354))).sym),.string ((ix (((ix x26355 x25797).1).rhs) (w64 ((w64 ((((((ix x26355 x25797).1).rhs).take ((ix x26355 x25797).2)).length:Int) - 1)) - x26354))).field),.string ((ix (((ix x26355 x25797).1).rhs) (w64 ((w64 ((((((ix x26355 x25797).1).rhs).take ((ix x26355 x25797).2)).length:Int) - 1)) - x26354))).as)] 0 Yr7 rfl rfl hb26470 ht26561 (fm_one Yig hb26571) rfl) gn hns (by kernel_rfl) ?_
               have hb26572:0≤x26354∧x26354 < ((((ix x26355 x25797).1).rhs).length:Int):=by have q:=hb26502; have q2:=List.length_take_le' ((ix x26355 x25797).2) (((ix x26355 x25797).1).rhs); omega
               refine wfv 25 rfl (Ymd Ym8 rfl rfl (Ow.cut h26553 hle26556) hb26502) gn hns (by kernel_rfl) ?_
               refine wf_take (fk:=Ygo) (z:=w.heap.size) (j:=0) rfl hb26470 ht26554 fun bs26573=>?_
               refine Yl2 [26] (by kernel_rfl) rfl ⟨Yps 26 rfl gn rfl (Yu4 (enc:=Yhs) (o:=0) (z:=(ix (((ix x26355 x25797).1).rhs) (w64 ((w64 ((((((ix x26355 x25797).1).rhs).take ((ix x26355 x25797).2)).length:Int) - 1)) - x26354)))) (vs:=[.int .i64 ((ix (((ix x26355 x25797).1).rhs) (w64 ((w64 ((((((ix x26355 x25797).1).rhs).take ((ix x26355 x25797).2)).length:Int) - 1)) - x26354))).sym),.string ((ix (((ix x26355 x25797).1).rhs) (w64 ((w64 ((((((ix x26355 x25797).1).rhs).take ((ix x26355 x25797).2)).length:Int) - 1)) - x26354))).field),.string ((ix (((ix x26355 x25797).1).rhs) (w64 ((w64 ((((((ix x26355 x25797).1).rhs).take ((ix x26355 x25797).2)).length:Int) - 1)) - x26354))).as)]) (i:=x26354) 0 Yig sz_36 rfl rfl rfl rfl rfl h26553 hb26572 rfl rfl rfl hv26505 fun h26575=>?_),trivial⟩
               unfold NxL
               refine wf_put (fk:=Ygo) (z:=w.heap.size) (j0:=0) (j:=1) (q:=x25797) (by decide) rfl hb26470 rfl ht26554 ({ ((ix x26355 x25797).1) with rhs:=x26504 },(ix x26355 x25797).2) h26575 rfl rfl (by show _≤x26504.length; rw [hv26505,List.length_set]; exact ht26554.2.2) hv26507 fun bs26574=>?_
               have h26576:Ow w.heap.size A25318 n25319 c25320 x26506:=Ow.w h26357 (by rw [hv26507,List.length_set])
               obtain ⟨ht26577,he26578,hq26579⟩:=Hdr.set (fk:=Ygo) (x':=({ ((ix x26355 x25797).1) with rhs:=x26504 },(ix x26355 x25797).2)) ht26554 hb26470 hv26507 rfl (by show x26504.length=_; rw [hv26505,List.length_set]) (by show _≤x26504.length; rw [hv26505,List.length_set]; exact ht26554.2.2)
               have h26580:Ow w.heap.size A26550 n26551 c26552 (((ix x26506 x25797).1).rhs):=Ow.w h26553 (by rw [show ((ix x26506 x25797).1).rhs=x26504 from by rw [he26578],hv26505,List.length_set])
               have hv26581:(ix x26355 x25797).2=(ix x26506 x25797).2:=by rw [he26578]
               refine Yl0 (by kernel_rfl)<|Ygq<|Yfy rfl rfl<|Yfx 0 rfl (Yg2 rfl) gn rfl<|Yfx 1 rfl (Ygj rfl rfl rfl) gn rfl<|Yfx 2 rfl (Yg1 rfl) gn rfl<|Yg7 3 rfl<|Ygv ?_
               have ih:=Out.inl hO5 h
               exact Yhj [0,1] (ih bs26574 h26576) ⟨rfl,rfl,rfl,trivial⟩ (.cons_cons _ (.cons_cons _ (.cons_cons _ (.cons_cons _ (.cons_cons _ (.slnil)))))) rfl
              ·have h:=Yge hp26478 h
               refine Ygl rfl _ rfl ((decide_eq_false hp26478))<|Yii [.inBlock 7,.code Ysu,.inLoop Yoe,.inBlock 6,.code Yqr] rfl rfl<|Ygq<|Yfy rfl rfl<|Yfx 0 rfl (Yg2 rfl) gn rfl<|Yfx 1 rfl (Ygj rfl rfl rfl) gn rfl<|Yfx 2 rfl (Yg1 rfl) gn rfl<|Yg7 3 rfl<|Ygv ?_
               have h:=Out.inr hO5 h
               have ih:=Out.inl hO4 h
               exact Yhj [0,1] (ih bs26356 h26357) ⟨rfl,rfl,trivial⟩ (.cons_cons _ (.cons_cons _ (.cons_cons _ (.cons_cons _ (.cons_cons _ (.slnil)))))) rfl
             exact Yhj [0,1] (key7 _ h bs25799 h25800) ⟨rfl,rfl,rfl,trivial⟩ (.cons_cons _ (.cons_cons _ (.cons_cons _ (.cons_cons _ (.cons_cons _ (.slnil)))))) rfl
            ·have h:=Yge hp26240 h
             refine Ygl rfl _ rfl ((decide_eq_false hp26240))<|Yii [.code Yqr] rfl rfl<|Yg3 rfl<|Yfy rfl rfl<|Yfx 0 rfl (Yji [.slice A25308 n25309 c25310,.slice A25313 n25314 c25315,.slice A25318 n25319 c25320] 1 Yjg rfl rfl rfl rfl) gn rfl ?_
             obtain ⟨r26585,hv26586,h⟩:=h
             refine Ygw 1 rfl (Yho [.agg #[.slice A25308 n25309 c25310,.slice A25313 n25314 c25315,.slice A25318 n25319 c25320]] rfl Try.func8 rfl rfl rfl fun w26582 hL26583=>?_) gn
             have hp26584:=pmI hL26583 .n (.c 0 rfl (.c 1 rfl (.c 2 rfl (.c 3 rfl (.c 4 rfl .n))))) (by kernel_rfl)
             refine Calls.mono (Yk3 w26582 (Fl ([]:List Ygr)) (⟨r25306.terms,r25306.syms,(x25798.map Yi5)⟩:Yfz) A25308 n25309 c25310 A25313 n25314 c25315 A25318 n25319 c25320 (hL26583.argO (dk:=Ygi) hp26584 [] rfl 2 rfl rfl (Ow.weak hL25304.env.size h25311) (me 0 rfl) (Cells.flat _)) (hL26583.argO (dk:=Ygu) hp26584 [] rfl 3 rfl rfl (Ow.weak hL25304.env.size h25316) (me 0 rfl) (Cells.flat _)) (Rw.vis (dk:=Yip) (dk2:=Ygs) Yi5 rfl (fun x cs=>by rintro ⟨A,n,c,rfl,h,k⟩; exact ⟨A,_,c,rfl,Rw.pre h k⟩) (hL26583.argFam (fk:=Ygo) (dk:=Yip) hp26584 [] rfl 4 0 rfl rfl rfl rfl h25800 (fun _ _ _ _ k h=>⟨_,_,_,rfl,h,Nat.le_trans k (Nat.le_of_eq h.hq.symm)⟩))) (hL26583.hFl hp26584 (Yj7 [] rfl)) (hL26583.into hp26584 _) r26585 hv26586) ?_
             rintro _ w26605 ⟨A26587,n26588,c26589,A26592,n26593,c26594,A26597,n26598,c26599,cs26601,bs26602,rfl,hM26606,h26590,h26595,h26600⟩
             have hL26607:=hL26583.call hp26584 hM26606
             refine ⟨_,_,_,rfl,hL26607,?_⟩
             refine Yr4 (fk:=Ymr) (z':=w.heap.size) (j:=3) hL26583.env.size rfl<|Yr1 (fk:=Ymr) (z:=w.heap.size) (j:=3) Ygo Yif (fun _=>rfl) (fun _=>rfl) (fun x d h=>by obtain ⟨A,n,c⟩:=d; simp only at h; subst h; rfl) (fun _=>Nat.le_refl _) rfl rfl rfl ?_
             refine Ygw 2 rfl (Ykc [.slice none 0 0,.slice none 0 0,.slice none 0 0] Yqs rfl fun gb26608=>?_) gn
             refine Ygw 3 rfl (Ylo (vs:=[.slice A26587 n26588 c26589,.slice A26592 n26593 c26594,.slice A26597 n26598 c26599]) (cs':=[.slice A26587 n26588 c26589,.slice A26592 n26593 c26594,.slice A26597 n26598 c26599]) (M':=[.box gb26608 26 [.slice A26587 n26588 c26589,.slice A26592 n26593 c26594,.slice A26597 n26598 c26599],.own (.slice A26587 n26588 c26589) 58 2 n26588 (r26585.terms.flatMap Yg6),.own (.slice A26592 n26593 c26594) 61 2 n26593 (r26585.syms.flatMap Ygb),.own (.slice A26597 n26598 c26599) 38 2 n26598 cs26601,Yhh Ygo (w.heap.size) none (r26585.prods.map Yif) cs26601 bs26602,Yhh Ygo (w.heap.size) none x25798 cs25322 bs25799,.box gb25329 26 [.slice A25308 n25309 c25310,.slice A25313 n25314 c25315,.slice A25318 n25319 c25320],.own (.slice A25308 n25309 c25310) 58 2 n25309 (r25306.terms.flatMap Yg6),.own (.slice A25313 n25314 c25315) 61 2 n25314 (r25306.syms.flatMap Ygb),.own (.slice A25318 n25319 c25320) 38 2 n25319 cs25322]) 0 Yrn rfl rfl rfl rfl rfl rfl rfl rfl rfl ?_) gn
             refine Yg7 4 rfl<|Yg3 rfl<|Yfy rfl rfl<|Yfx 0 rfl (Yji [.slice A26587 n26588 c26589,.slice A26592 n26593 c26594,.slice A26597 n26598 c26599] 0 Yjg rfl rfl rfl rfl) gn rfl ?_
             obtain ⟨r26613,hv26614,h⟩:=h
             refine Ygw 1 rfl (Yho [.agg #[.slice A26587 n26588 c26589,.slice A26592 n26593 c26594,.slice A26597 n26598 c26599]] rfl Try.func16 rfl rfl rfl fun w26610 hL26611=>?_) gn
             have hp26612:=pmI hL26611 .n (.c 0 rfl (.c 1 rfl (.c 2 rfl (.c 3 rfl (.c 4 rfl (.c 5 rfl (.c 6 rfl (.c 7 rfl (.c 8 rfl (.c 9 rfl .n)))))))))) (by kernel_rfl)
             refine Calls.mono (Ykf w26610 (Fl ([]:List Ygr)) r26585 A26587 n26588 c26589 A26592 n26593 c26594 A26597 n26598 c26599 (hL26611.argO (dk:=Ygi) hp26612 [] rfl 1 rfl rfl (Ow.weak hL26583.env.size h26590) (me 0 rfl) (Cells.flat _)) (hL26611.argO (dk:=Ygu) hp26612 [] rfl 2 rfl rfl (Ow.weak hL26583.env.size h26595) (me 0 rfl) (Cells.flat _)) (Rw.w (Rw.vis (dk:=Yip) (dk2:=Ygs) Yi5 rfl (fun x cs=>by rintro ⟨A,n,c,rfl,h,k⟩; exact ⟨A,_,c,rfl,Rw.pre h k⟩) (hL26611.argFam (fk:=Ygo) (dk:=Yip) hp26612 [] rfl 3 4 rfl rfl rfl rfl (Ow.w (Ow.weak hL26583.env.size h26600) (List.length_map _)) (fun _ _ _ _ k h=>⟨_,_,_,rfl,h,Nat.le_trans k (Nat.le_of_eq h.hq.symm)⟩))) (Yqt _)) (hL26611.hFl hp26612 (Yj7 [] rfl)) (hL26611.into hp26612 _) r26613 hv26614) ?_
             rintro _ w26620 ⟨A26615,n26616,c26617,rfl,hM26621,h26618⟩
             have hL26622:=hL26611.call hp26612 hM26621
             refine ⟨_,_,_,rfl,hL26622,?_⟩
             refine Yfx 2 rfl (Yg1 rfl) gn rfl<|Yg7 3 rfl<|Yg3 rfl<|Yfy rfl rfl<|Yfx 0 rfl (Yji [.slice A26587 n26588 c26589,.slice A26592 n26593 c26594,.slice A26597 n26598 c26599] 1 Yjg rfl rfl rfl rfl) gn rfl ?_
             obtain ⟨r26626,hv26627,h⟩:=h
             refine Ygw 1 rfl (Yho [.agg #[.slice A26587 n26588 c26589,.slice A26592 n26593 c26594,.slice A26597 n26598 c26599]] rfl Try.func17 rfl rfl rfl fun w26623 hL26624=>?_) gn
             have hp26625:=pmI hL26624 .n (.c 0 rfl (.c 1 rfl (.c 2 rfl (.c 3 rfl (.c 4 rfl (.c 5 rfl (.c 6 rfl (.c 7 rfl (.c 8 rfl (.c 9 rfl (.c 10 rfl .n))))))))))) (by kernel_rfl)
             refine Calls.mono (Ym1 w26623 (Fl ([]:List Ygr)) r26585 A26587 n26588 c26589 A26592 n26593 c26594 A26597 n26598 c26599 (hL26624.argO (dk:=Ygi) hp26625 [] rfl 2 rfl rfl (Ow.weak hL26583.env.size h26590) (me 0 rfl) (Cells.flat _)) (hL26624.argO (dk:=Ygu) hp26625 [] rfl 3 rfl rfl (Ow.weak hL26583.env.size h26595) (me 0 rfl) (Cells.flat _)) (Rw.w (Rw.vis (dk:=Yip) (dk2:=Ygs) Yi5 rfl (fun x cs=>by rintro ⟨A,n,c,rfl,h,k⟩; exact ⟨A,_,c,rfl,Rw.pre h k⟩) (hL26624.argFam (fk:=Ygo) (dk:=Yip) hp26625 [] rfl 4 5 rfl rfl rfl rfl (Ow.w (Ow.weak hL26583.env.size h26600) (List.length_map _)) (fun _ _ _ _ k h=>⟨_,_,_,rfl,h,Nat.le_trans k (Nat.le_of_eq h.hq.symm)⟩))) (Yqt _)) (hL26624.hFl hp26625 (Yj7 [] rfl)) (hL26624.into hp26625 _) r26626 hv26627) ?_
             rintro _ w26633 ⟨A26628,n26629,c26630,rfl,hM26634,h26631⟩
             have hL26635:=hL26624.call hp26625 hM26634
             refine ⟨_,_,_,rfl,hL26635,?_⟩
             refine Yfx 2 rfl (Yg1 rfl) gn rfl<|Yg7 3 rfl<|Yg3 rfl<|Yfy rfl rfl<|Yfx 0 rfl (Yji [.slice A25308 n25309 c25310,.slice A25313 n25314 c25315,.slice A25318 n25319 c25320] 8 Yjg rfl rfl rfl rfl) gn rfl ?_
             obtain ⟨r26639,hv26640,h⟩:=h
             refine Ygw 1 rfl (Yho [.agg #[.slice A25308 n25309 c25310,.slice A25313 n25314 c25315,.slice A25318 n25319 c25320]] rfl Try.func18 rfl rfl rfl fun w26636 hL26637=>?_) gn
             have hp26638:=pmI hL26637 .n (.c 0 rfl (.c 1 rfl (.c 2 rfl (.c 3 rfl (.c 4 rfl (.c 5 rfl (.c 6 rfl (.c 7 rfl (.c 8 rfl (.c 9 rfl (.c 10 rfl (.c 11 rfl .n)))))))))))) (by kernel_rfl)
             refine Calls.mono (Ykn w26636 (Fl ([]:List Ygr)) (⟨r25306.terms,r25306.syms,(x25798.map Yi5)⟩:Yfz) A25308 n25309 c25310 A25313 n25314 c25315 A25318 n25319 c25320 (hL26637.argO (dk:=Ygi) hp26638 [] rfl 9 rfl rfl (Ow.weak hL25304.env.size h25311) (me 0 rfl) (Cells.flat _)) (hL26637.argO (dk:=Ygu) hp26638 [] rfl 10 rfl rfl (Ow.weak hL25304.env.size h25316) (me 0 rfl) (Cells.flat _)) (Rw.vis (dk:=Yip) (dk2:=Ygs) Yi5 rfl (fun x cs=>by rintro ⟨A,n,c,rfl,h,k⟩; exact ⟨A,_,c,rfl,Rw.pre h k⟩) (hL26637.argFam (fk:=Ygo) (dk:=Yip) hp26638 [] rfl 11 7 rfl rfl rfl rfl h25800 (fun _ _ _ _ k h=>⟨_,_,_,rfl,h,Nat.le_trans k (Nat.le_of_eq h.hq.symm)⟩))) (hL26637.hFl hp26638 (Yj7 [] rfl)) (hL26637.into hp26638 _) r26639 hv26640) ?_
             rintro _ w26646 ⟨A26641,n26642,c26643,rfl,hM26647,h26644⟩
             have hL26648:=hL26637.call hp26638 hM26647
             refine ⟨_,_,_,rfl,hL26648,?_⟩
             refine Yfx 2 rfl (Yg2 rfl) gn rfl ?_
             obtain ⟨r26652,hv26653,h⟩:=h
             refine Ygw 3 rfl (Yho [.slice A26641 n26642 c26643,.slice A26615 n26616 c26617] rfl Try.func20 rfl rfl rfl fun w26649 hL26650=>?_) gn
             have hp26651:=pmI hL26650 .n (.c 0 rfl (.c 1 rfl (.c 2 rfl (.c 3 rfl (.c 4 rfl (.c 5 rfl (.c 6 rfl (.c 7 rfl (.c 8 rfl (.c 9 rfl (.c 10 rfl (.c 11 rfl (.c 12 rfl .n))))))))))))) (by kernel_rfl)
             refine Calls.mono (Yk8 w26649 (Fl ([]:List Ygr)) r26639 r26613 A26641 n26642 c26643 A26615 n26616 c26617 (hL26650.argO (dk:=Ymq) hp26651 [] rfl 0 rfl rfl (Ow.weak hL26637.env.size h26644) (me 0 rfl) (Cells.flat _)) (hL26650.argO (dk:=Ymq) hp26651 [] rfl 2 rfl rfl (Ow.weak hL26611.env.size h26618) (me 0 rfl) (Cells.flat _)) (hL26650.hFl hp26651 (Yj7 [] rfl)) (hL26650.into hp26651 _) r26652 hv26653) ?_
             rintro _ w26654 ⟨rfl,hM26655⟩
             have hL26656:=hL26650.call hp26651 hM26655
             refine ⟨_,_,_,rfl,hL26656,?_⟩
             refine Yfx 4 rfl (Yg2 rfl) gn rfl ?_
             by_cases hp26657:r26652=true
             ·have h:=Ygf hp26657 h
              refine Yhq 176 rfl (hp26657)<|Yfx 5 rfl (Yji [.slice A25308 n25309 c25310,.slice A25313 n25314 c25315,.slice A25318 n25319 c25320] 9 Yjg rfl rfl rfl rfl) (gy 176 rfl rfl) rfl ?_
              obtain ⟨r26661,hv26662,h⟩:=h
              refine Ygw 6 rfl (Yho [.agg #[.slice A25308 n25309 c25310,.slice A25313 n25314 c25315,.slice A25318 n25319 c25320]] rfl Try.func19 rfl rfl rfl fun w26658 hL26659=>?_) (gy 176 rfl rfl)
              have hp26660:=pmI hL26659 .n (.c 0 rfl (.c 1 rfl (.c 2 rfl (.c 3 rfl (.c 4 rfl (.c 5 rfl (.c 6 rfl (.c 7 rfl (.c 8 rfl (.c 9 rfl (.c 10 rfl (.c 11 rfl (.c 12 rfl .n))))))))))))) (by kernel_rfl)
              refine Calls.mono (Yli w26658 (Fl ([]:List Ygr)) (⟨r25306.terms,r25306.syms,(x25798.map Yi5)⟩:Yfz) A25308 n25309 c25310 A25313 n25314 c25315 A25318 n25319 c25320 (hL26659.argO (dk:=Ygi) hp26660 [] rfl 10 rfl rfl (Ow.weak hL25304.env.size h25311) (me 0 rfl) (Cells.flat _)) (hL26659.argO (dk:=Ygu) hp26660 [] rfl 11 rfl rfl (Ow.weak hL25304.env.size h25316) (me 0 rfl) (Cells.flat _)) (Rw.vis (dk:=Yip) (dk2:=Ygs) Yi5 rfl (fun x cs=>by rintro ⟨A,n,c,rfl,h,k⟩; exact ⟨A,_,c,rfl,Rw.pre h k⟩) (hL26659.argFam (fk:=Ygo) (dk:=Yip) hp26660 [] rfl 12 8 rfl rfl rfl rfl h25800 (fun _ _ _ _ k h=>⟨_,_,_,rfl,h,Nat.le_trans k (Nat.le_of_eq h.hq.symm)⟩))) (hL26659.hFl hp26660 (Yj7 [] rfl)) (hL26659.into hp26660 _) r26661 hv26662) ?_
              rintro _ w26668 ⟨A26663,n26664,c26665,rfl,hM26669,h26666⟩
              have hL26670:=hL26659.call hp26660 hM26669
              refine ⟨_,_,_,rfl,hL26670,?_⟩
              refine Yfx 7 rfl (Yg2 rfl) (gy 176 rfl rfl) rfl ?_
              obtain ⟨r26674,hv26675,h⟩:=h
              refine Ygw 8 rfl (Yho [.slice A26663 n26664 c26665,.slice A26628 n26629 c26630] rfl Try.func21 rfl rfl rfl fun w26671 hL26672=>?_) (gy 176 rfl rfl)
              have hp26673:=pmI hL26672 .n (.c 0 rfl (.c 1 rfl (.c 2 rfl (.c 3 rfl (.c 4 rfl (.c 5 rfl (.c 6 rfl (.c 7 rfl (.c 8 rfl (.c 9 rfl (.c 10 rfl (.c 11 rfl (.c 12 rfl (.c 13 rfl .n)))))))))))))) (by kernel_rfl)
              refine Calls.mono (Yk7 w26671 (Fl ([]:List Ygr)) r26661 r26626 A26663 n26664 c26665 A26628 n26629 c26630 (hL26672.argO (dk:=(Yqx .u64)) hp26673 [] rfl 0 rfl rfl (Ow.weak hL26659.env.size h26666) (me 0 rfl) (Cells.flat _)) (hL26672.argO (dk:=(Yqx .u64)) hp26673 [] rfl 2 rfl rfl (Ow.weak hL26624.env.size h26631) (me 0 rfl) (Cells.flat _)) (hL26672.hFl hp26673 (Yj7 [] rfl)) (hL26672.into hp26673 _) r26674 hv26675) ?_
              rintro _ w26676 ⟨rfl,hM26677⟩
              have hL26678:=hL26672.call hp26673 hM26677
              refine ⟨_,_,_,rfl,hL26678,?_⟩
              refine Yfx 9 rfl (Ygy (b:=true) rfl rfl) gn rfl<|Yfx 10 rfl (Yg1 rfl) gn rfl<|Yg7 11 rfl ?_
              have h:=Out.inr hO4 h
              have h:=Out.inr hO3 h
              have h:=Out.inr hO2 h
              have h:=Out.inr hO1 h
              refine Ygx [.bool r26674] rfl Try.func4 rfl (.tmp rfl (.nil)) fun wr hLr=>?_
              have hMr:=hLr.pk0 (.c 1 rfl .n)
              show Yi3 w F  r (.returned (Yhe [.bool r26674])) wr
              rw [h]
              exact ⟨rfl,hMr⟩
             ·have h:=Yge hp26657 h
              refine Yhq 176 rfl ((bf hp26657))<|Yg4 5 rfl (ps 176 rfl rfl rfl)<|Yg4 6 rfl (ps 176 rfl rfl rfl)<|Yg4 7 rfl (ps 176 rfl rfl rfl)<|Yg4 8 rfl (ps 176 rfl rfl rfl)<|Yfx 9 rfl (Ygy (b:=false) rfl rfl) gn rfl<|Yfx 10 rfl (Yg1 rfl) gn rfl<|Yg7 11 rfl ?_
              have h:=Out.inr hO4 h
              have h:=Out.inr hO3 h
              have h:=Out.inr hO2 h
              have h:=Out.inr hO1 h
              refine Ygx [.bool false] rfl Try.func4 rfl (.tmp rfl (.nil)) fun wr hLr=>?_
              have hMr:=hLr.pk0 (.c 1 rfl .n)
              show Yi3 w F  r (.returned (Yhe [.bool false])) wr
              rw [h]
              exact ⟨rfl,hMr⟩
           refine Ygk 5 rfl<|Ygk 5 rfl<|Ygk 5 rfl<|Ygk 5 rfl<|Ygk 6 rfl ?_
           exact Yhj [0,1] (key6 _ h bs25323 (Ow.w (Ow.weak hL25304.env.size h25321) (List.length_map _))) ⟨rfl,rfl,trivial⟩ (.cons_cons _ (.cons_cons _ (.cons_cons _ (.cons_cons _ (.cons_cons _ (.cons _ (.cons _ (.cons _ (.slnil))))))))) rfl
         refine Yfy rfl rfl<|Yfx 0 rfl (Yg2 rfl) gn rfl<|Yfx 1 rfl (Yg2 rfl) gn rfl ?_
         obtain ⟨r26682,hv26683,h⟩:=h
         refine Ygw 2 rfl (Yho [.slice A164 n165 c166,.slice A49 n50 c51] rfl Try.func20 rfl rfl rfl fun w26679 hL26680=>?_) gn
         have hp26681:=pmI hL26680 .n (.c 0 rfl (.c 1 rfl (.c 2 rfl (.c 3 rfl (.c 4 rfl (.c 5 rfl (.c 6 rfl (.c 7 rfl (.c 8 rfl (.c 9 rfl (.c 10 rfl (.c 11 rfl (.c 12 rfl (.c 13 rfl (.c 14 rfl (.c 15 rfl (.c 16 rfl .n))))))))))))))))) (by kernel_rfl)
         refine Calls.mono (Yk8 w26679 (Fl ([]:List Ygr)) r162 r47 A164 n165 c166 A49 n50 c51 (hL26680.argO (dk:=Ymq) hp26681 [] rfl 3 rfl rfl (Ow.weak hL160.env.size h167) (me 0 rfl) (Cells.flat _)) (hL26680.argO (dk:=Ymq) hp26681 [] rfl 11 rfl rfl (Ow.weak hL45.env.size h52) (me 0 rfl) (Cells.flat _)) (hL26680.hFl hp26681 (Yj7 [] rfl)) (hL26680.into hp26681 _) r26682 hv26683) ?_
         rintro _ w26684 ⟨rfl,hM26685⟩
         have hL26686:=hL26680.call hp26681 hM26685
         refine ⟨_,_,_,rfl,hL26686,?_⟩
         refine Yfx 3 rfl (Ymb rfl) gn rfl<|Yfx 4 rfl (Yg2 rfl) gn rfl ?_
         by_cases hp26687:r26682=true
         ·have h:=Ygf hp26687 h
          refine Yhq 96 rfl ((nf hp26687))<|Yfx 5 rfl (Yg2 rfl) (gy 96 rfl rfl) rfl<|Yfx 6 rfl (Yg2 rfl) (gy 96 rfl rfl) rfl ?_
          obtain ⟨r26691,hv26692,h⟩:=h
          refine Ygw 7 rfl (Yho [.slice A177 n178 c179,.slice A62 n63 c64] rfl Try.func21 rfl rfl rfl fun w26688 hL26689=>?_) (gy 96 rfl rfl)
          have hp26690:=pmI hL26689 .n (.c 0 rfl (.c 1 rfl (.c 2 rfl (.c 3 rfl (.c 4 rfl (.c 5 rfl (.c 6 rfl (.c 7 rfl (.c 8 rfl (.c 9 rfl (.c 10 rfl (.c 11 rfl (.c 12 rfl (.c 13 rfl (.c 14 rfl (.c 15 rfl (.c 16 rfl .n))))))))))))))))) (by kernel_rfl)
          refine Calls.mono (Yk7 w26688 (Fl ([]:List Ygr)) r175 r60 A177 n178 c179 A62 n63 c64 (hL26689.argO (dk:=(Yqx .u64)) hp26690 [] rfl 2 rfl rfl (Ow.weak hL173.env.size h180) (me 0 rfl) (Cells.flat _)) (hL26689.argO (dk:=(Yqx .u64)) hp26690 [] rfl 10 rfl rfl (Ow.weak hL58.env.size h65) (me 0 rfl) (Cells.flat _)) (hL26689.hFl hp26690 (Yj7 [] rfl)) (hL26689.into hp26690 _) r26691 hv26692) ?_
          rintro _ w26693 ⟨rfl,hM26694⟩
          have hL26695:=hL26689.call hp26690 hM26694
          refine ⟨_,_,_,rfl,hL26695,?_⟩
          refine Yfx 8 rfl (Ymb rfl) (gy 96 rfl rfl) rfl<|Yfx 9 rfl (Ygy (b:=false) rfl rfl) gn rfl<|Yfx 10 rfl (Yg2 rfl) gn rfl ?_
          by_cases hp26696:r26691=true
          ·have h:=Ygf hp26696 h
           refine Yhq 102 rfl ((nf hp26696))<|Yfx 11 rfl (Yg2 rfl) (gy 102 rfl rfl) rfl<|Yfx 12 rfl (Ygn Yu2 rfl h23795.hq) (gy 102 rfl rfl) rfl<|Yfx 13 rfl (Yg2 rfl) (gy 102 rfl rfl) rfl<|Yfx 14 rfl (Ygn Ytq rfl h23800.hq) (gy 102 rfl rfl) rfl<|Yfx 15 rfl (Ygj rfl rfl rfl) (gy 102 rfl rfl) rfl<|Yfx 16 rfl (Ygj rfl rfl rfl) (gy 102 rfl rfl) rfl<|Yfx 17 rfl (Ygy (b:=false) rfl rfl) gn rfl<|Yfx 18 rfl (Yg2 rfl) gn rfl ?_
           by_cases hp26697:w64 ((x23791.length:Int) + (x23796.length:Int)) < 140
           ·have h:=Ygf hp26697 h
            refine Yhq 110 rfl ((decide_eq_true hp26697))<|Yg4 19 rfl (ps 110 rfl rfl rfl)<|Yg4 20 rfl (ps 110 rfl rfl rfl)<|Yg4 21 rfl (ps 110 rfl rfl rfl)<|Yg4 22 rfl (ps 110 rfl rfl rfl)<|Yfx 23 rfl (Ygy (b:=true) rfl rfl) gn rfl<|Yg7 24 rfl ?_
            exact Yhj [0,1] (j5 true h) ⟨rfl,rfl,trivial⟩ (.cons _ (.cons _ (.cons _ (.cons _ (.cons _ (.cons _ (.cons _ (.cons _ (.cons _ (.cons _ (.cons _ (.cons _ (.cons _ (.cons _ (.cons _ (.cons _ (.cons_cons _ (.slnil)))))))))))))))))) rfl
           ·have h:=Yge hp26697 h
            refine Yhq 110 rfl ((decide_eq_false hp26697))<|Yfx 19 rfl (Yji [.slice A75 r73.2.1 c77,.slice A81 r73.2.2.1 c83,.slice A87 r73.2.2.2.1 c89] 6 Yjg rfl rfl rfl rfl) (gy 110 rfl rfl) rfl<|Yfx 20 rfl (Yji [.slice A21 n22 c23,.slice A26 n27 c28,.slice A31 n32 c33] 12 Yjg rfl rfl rfl rfl) (gy 110 rfl rfl) rfl ?_
            obtain ⟨r26701,hv26702,h⟩:=h
            refine Ygw 21 rfl (Yho [.agg #[.slice A75 r73.2.1 c77,.slice A81 r73.2.2.1 c83,.slice A87 r73.2.2.2.1 c89],.agg #[.slice A21 n22 c23,.slice A26 n27 c28,.slice A31 n32 c33]] rfl Try.func14 rfl rfl rfl fun w26698 hL26699=>?_) (gy 110 rfl rfl)
            have hp26700:=pmI hL26699 .n (.c 0 rfl (.c 1 rfl (.c 2 rfl (.c 3 rfl (.c 4 rfl (.c 5 rfl (.c 6 rfl (.c 7 rfl (.c 8 rfl (.c 9 rfl (.c 10 rfl (.c 11 rfl (.c 12 rfl (.c 13 rfl (.c 14 rfl (.c 15 rfl (.c 16 rfl .n))))))))))))))))) (by kernel_rfl)
            refine Calls.mono (Ylz w26698 (Fl ([]:List Ygr)) (⟨r73.1.terms,r73.1.syms,[]⟩:Yfz) r73.2.1 r73.2.2.1 r73.2.2.2.2 r73.2.2.2.1 r19 A75 n76 c77 A81 n82 c83 A87 n88 c89 A21 n22 c23 A26 n27 c28 A31 n32 c33 (hL26699.argO (dk:=Ygi) hp26700 [] rfl 7 rfl rfl (Ow.weak hL71.env.size h78) (me 0 rfl) (Cells.flat _)) hl23770 (hL26699.argO (dk:=Ygu) hp26700 [] rfl 8 rfl rfl (Ow.weak hL71.env.size h84) (me 0 rfl) (Cells.flat _)) hl23771 (hL26699.argFam (fk:=Ygo) (dk:=Yip) hp26700 [] rfl 9 0 rfl rfl rfl rfl (Ow.weak hL71.env.size h90) (fun _ _ _ _ k h=>⟨_,_,_,rfl,h,Nat.le_trans k (Nat.le_of_eq h.hq.symm)⟩)) hl23772 (hL26699.argO (dk:=Ygi) hp26700 [] rfl 13 rfl rfl (Ow.weak hL17.env.size h24) (me 0 rfl) (Cells.flat _)) (hL26699.argO (dk:=Ygu) hp26700 [] rfl 14 rfl rfl (Ow.weak hL17.env.size h29) (me 0 rfl) (Cells.flat _)) (Rw.w (Rw.vis (dk:=Yip) (dk2:=Ygs) Yi5 rfl (fun x cs=>by rintro ⟨A,n,c,rfl,h,k⟩; exact ⟨A,_,c,rfl,Rw.pre h k⟩) (hL26699.argFam (fk:=Ygo) (dk:=Yip) hp26700 [] rfl 15 1 rfl rfl rfl rfl (Ow.w (Ow.weak hL17.env.size h34) (List.length_map _)) (fun _ _ _ _ k h=>⟨_,_,_,rfl,h,Nat.le_trans k (Nat.le_of_eq h.hq.symm)⟩))) (Yqt _)) (hL26699.hFl hp26700 (Yj7 [] rfl)) (hL26699.into hp26700 _) r26701 hv26702) ?_
            rintro _ w26703 ⟨rfl,hM26704⟩
            have hL26705:=hL26699.call hp26700 hM26704
            refine ⟨_,_,_,rfl,hL26705,?_⟩
            refine Yfx 22 rfl (Ymb rfl) (gy 110 rfl rfl) rfl<|Yfx 23 rfl (Ygy (b:=false) rfl rfl) gn rfl<|Yg7 24 rfl ?_
            exact Yhj [0,1] (j5 (!r26701) h) ⟨rfl,rfl,trivial⟩ (.cons _ (.cons _ (.cons _ (.cons _ (.cons _ (.cons _ (.cons _ (.cons _ (.cons _ (.cons _ (.cons _ (.cons _ (.cons _ (.cons _ (.cons _ (.cons _ (.cons_cons _ (.slnil)))))))))))))))))) rfl
          ·have h:=Yge hp26696 h
           refine Yhq 102 rfl ((nt (bf hp26696)))<|Yg4 11 rfl (ps 102 rfl rfl rfl)<|Yg4 12 rfl (ps 102 rfl rfl rfl)<|Yg4 13 rfl (ps 102 rfl rfl rfl)<|Yg4 14 rfl (ps 102 rfl rfl rfl)<|Yg4 15 rfl (ps 102 rfl rfl rfl)<|Yg4 16 rfl (ps 102 rfl rfl rfl)<|Yfx 17 rfl (Ygy (b:=true) rfl rfl) gn rfl<|Yfx 18 rfl (Yg2 rfl) gn rfl<|Yg4 19 rfl (ps 110 rfl rfl rfl)<|Yg4 20 rfl (ps 110 rfl rfl rfl)<|Yg4 21 rfl (ps 110 rfl rfl rfl) ?_
           refine Yg4 22 rfl (ps 110 rfl rfl rfl)<|Yfx 23 rfl (Ygy (b:=true) rfl rfl) gn rfl<|Yg7 24 rfl ?_
           exact Yhj [0,1] (j5 true h) ⟨rfl,rfl,trivial⟩ (.cons _ (.cons _ (.cons _ (.cons _ (.cons _ (.cons _ (.cons _ (.cons _ (.cons _ (.cons _ (.cons _ (.cons _ (.cons _ (.cons _ (.cons _ (.cons _ (.cons_cons _ (.slnil)))))))))))))))))) rfl
         ·have h:=Yge hp26687 h
          refine Yhq 96 rfl ((nt (bf hp26687)))<|Yg4 5 rfl (ps 96 rfl rfl rfl)<|Yg4 6 rfl (ps 96 rfl rfl rfl)<|Yg4 7 rfl (ps 96 rfl rfl rfl)<|Yg4 8 rfl (ps 96 rfl rfl rfl)<|Yfx 9 rfl (Ygy (b:=true) rfl rfl) gn rfl<|Yfx 10 rfl (Yg2 rfl) gn rfl<|Yg4 11 rfl (ps 102 rfl rfl rfl)<|Yg4 12 rfl (ps 102 rfl rfl rfl)<|Yg4 13 rfl (ps 102 rfl rfl rfl)<|Yg4 14 rfl (ps 102 rfl rfl rfl)<|Yg4 15 rfl (ps 102 rfl rfl rfl) ?_
          refine Yg4 16 rfl (ps 102 rfl rfl rfl)<|Yfx 17 rfl (Ygy (b:=true) rfl rfl) gn rfl<|Yfx 18 rfl (Yg2 rfl) gn rfl<|Yg4 19 rfl (ps 110 rfl rfl rfl)<|Yg4 20 rfl (ps 110 rfl rfl rfl)<|Yg4 21 rfl (ps 110 rfl rfl rfl)<|Yg4 22 rfl (ps 110 rfl rfl rfl)<|Yfx 23 rfl (Ygy (b:=true) rfl rfl) gn rfl<|Yg7 24 rfl ?_
          exact Yhj [0,1] (j5 true h) ⟨rfl,rfl,trivial⟩ (.cons _ (.cons _ (.cons _ (.cons _ (.cons _ (.cons _ (.cons _ (.cons _ (.cons _ (.cons _ (.cons _ (.cons _ (.cons _ (.cons _ (.cons _ (.cons _ (.cons_cons _ (.slnil)))))))))))))))))) rfl
       exact Yhj [0,1] (key4 _ h A106 n107 c108 h9028 A119 n120 c121 h20820 hl17874 hl17875 hl17876) ⟨rfl,rfl,rfl,rfl,rfl,rfl,rfl,rfl,rfl,rfl,trivial⟩ (.cons_cons _ (.cons_cons _ (.cons_cons _ (.cons_cons _ (.cons_cons _ (.cons_cons _ (.cons_cons _ (.cons_cons _ (.cons_cons _ (.cons_cons _ (.cons_cons _ (.cons_cons _ (.cons_cons _ (.cons_cons _ (.cons_cons _ (.cons_cons _ (.cons_cons _ (.slnil)))))))))))))))))) rfl
     exact Yhj [0,1] (key3 _ h (Ow.weak hL115.env.size h122) hl186 hl187 hl188) ⟨rfl,rfl,rfl,rfl,rfl,rfl,rfl,rfl,rfl,rfl,trivial⟩ (.cons_cons _ (.cons_cons _ (.cons_cons _ (.cons_cons _ (.cons_cons _ (.cons_cons _ (.cons_cons _ (.cons_cons _ (.cons_cons _ (.cons_cons _ (.cons_cons _ (.cons_cons _ (.cons_cons _ (.cons_cons _ (.cons_cons _ (.cons_cons _ (.cons_cons _ (.slnil)))))))))))))))))) rfl
   refine Ygk 16 rfl<|Ygk 16 rfl<|Ygk 16 rfl<|Ygk 16 rfl<|Ygk 16 rfl<|Ygk 16 rfl<|Ygk 16 rfl<|Ygk 16 rfl<|Ygk 16 rfl<|Ygk 16 rfl<|Ygk 16 rfl<|Ygk 16 rfl ?_
   refine Ygk 16 rfl<|Ygk 14 rfl<|Ygk 14 rfl<|Ygk 16 rfl<|Ygk 16 rfl ?_
   exact Yhj [0,1] (key2 _ h (Ow.weak hL102.env.size h109) hl155 hl156 hl157) ⟨rfl,rfl,rfl,rfl,rfl,rfl,rfl,rfl,rfl,rfl,trivial⟩ (.cons_cons _ (.cons_cons _ (.cons_cons _ (.cons_cons _ (.cons_cons _ (.cons_cons _ (.cons_cons _ (.cons_cons _ (.cons_cons _ (.cons_cons _ (.cons_cons _ (.cons_cons _ (.cons_cons _ (.cons_cons _ (.cons_cons _ (.cons_cons _ (.cons_cons _ (.slnil)))))))))))))))))) rfl
 refine Yfy rfl rfl<|Yfx 0 rfl (Yg2 rfl) gn rfl<|Yfx 1 rfl (Yg2 rfl) gn rfl ?_
 obtain ⟨r26709,hv26710,h⟩:=h
 refine Ygw 2 rfl (Yho [.slice A106 n107 c108,.slice A49 n50 c51] rfl Try.func20 rfl rfl rfl fun w26706 hL26707=>?_) gn
 have hp26708:=pmI hL26707 .n (.c 0 rfl (.c 1 rfl (.c 2 rfl (.c 3 rfl (.c 4 rfl (.c 5 rfl (.c 6 rfl (.c 7 rfl (.c 8 rfl (.c 9 rfl (.c 10 rfl (.c 11 rfl (.c 12 rfl (.c 13 rfl (.c 14 rfl .n))))))))))))))) (by kernel_rfl)
 refine Calls.mono (Yk8 w26706 (Fl ([]:List Ygr)) r104 r47 A106 n107 c108 A49 n50 c51 (hL26707.argO (dk:=Ymq) hp26708 [] rfl 1 rfl rfl (Ow.weak hL102.env.size h109) (me 0 rfl) (Cells.flat _)) (hL26707.argO (dk:=Ymq) hp26708 [] rfl 8 rfl rfl (Ow.weak hL45.env.size h52) (me 0 rfl) (Cells.flat _)) (hL26707.hFl hp26708 (Yj7 [] rfl)) (hL26707.into hp26708 _) r26709 hv26710) ?_
 rintro _ w26711 ⟨rfl,hM26712⟩
 have hL26713:=hL26707.call hp26708 hM26712
 refine ⟨_,_,_,rfl,hL26713,?_⟩
 refine Yfx 3 rfl (Ymb rfl) gn rfl<|Yfx 4 rfl (Yg2 rfl) gn rfl ?_
 by_cases hp26714:r26709=true
 ·have h:=Ygf hp26714 h
  refine Yhq 38 rfl ((nf hp26714))<|Yfx 5 rfl (Yg2 rfl) (gy 38 rfl rfl) rfl<|Yfx 6 rfl (Yg2 rfl) (gy 38 rfl rfl) rfl ?_
  obtain ⟨r26718,hv26719,h⟩:=h
  refine Ygw 7 rfl (Yho [.slice A119 n120 c121,.slice A62 n63 c64] rfl Try.func21 rfl rfl rfl fun w26715 hL26716=>?_) (gy 38 rfl rfl)
  have hp26717:=pmI hL26716 .n (.c 0 rfl (.c 1 rfl (.c 2 rfl (.c 3 rfl (.c 4 rfl (.c 5 rfl (.c 6 rfl (.c 7 rfl (.c 8 rfl (.c 9 rfl (.c 10 rfl (.c 11 rfl (.c 12 rfl (.c 13 rfl (.c 14 rfl .n))))))))))))))) (by kernel_rfl)
  refine Calls.mono (Yk7 w26715 (Fl ([]:List Ygr)) r117 r60 A119 n120 c121 A62 n63 c64 (hL26716.argO (dk:=(Yqx .u64)) hp26717 [] rfl 0 rfl rfl (Ow.weak hL115.env.size h122) (me 0 rfl) (Cells.flat _)) (hL26716.argO (dk:=(Yqx .u64)) hp26717 [] rfl 7 rfl rfl (Ow.weak hL58.env.size h65) (me 0 rfl) (Cells.flat _)) (hL26716.hFl hp26717 (Yj7 [] rfl)) (hL26716.into hp26717 _) r26718 hv26719) ?_
  rintro _ w26720 ⟨rfl,hM26721⟩
  have hL26722:=hL26716.call hp26717 hM26721
  refine ⟨_,_,_,rfl,hL26722,?_⟩
  refine Yfx 8 rfl (Ymb rfl) (gy 38 rfl rfl) rfl<|Yfx 9 rfl (Ygy (b:=false) rfl rfl) gn rfl<|Yfx 10 rfl (Yg2 rfl) gn rfl ?_
  by_cases hp26723:r26718=true
  ·have h:=Ygf hp26723 h
   refine Yhq 44 rfl ((nf hp26723))<|Yfx 11 rfl (Yji [.slice A75 r73.2.1 c77,.slice A81 r73.2.2.1 c83,.slice A87 r73.2.2.2.1 c89] 2 Yjg rfl rfl rfl rfl) (gy 44 rfl rfl) rfl<|Yfx 12 rfl (Yji [.slice A21 n22 c23,.slice A26 n27 c28,.slice A31 n32 c33] 9 Yjg rfl rfl rfl rfl) (gy 44 rfl rfl) rfl ?_
   obtain ⟨r26727,hv26728,h⟩:=h
   refine Ygw 13 rfl (Yho [.agg #[.slice A75 r73.2.1 c77,.slice A81 r73.2.2.1 c83,.slice A87 r73.2.2.2.1 c89],.agg #[.slice A21 n22 c23,.slice A26 n27 c28,.slice A31 n32 c33]] rfl Try.func14 rfl rfl rfl fun w26724 hL26725=>?_) (gy 44 rfl rfl)
   have hp26726:=pmI hL26725 .n (.c 0 rfl (.c 1 rfl (.c 2 rfl (.c 3 rfl (.c 4 rfl (.c 5 rfl (.c 6 rfl (.c 7 rfl (.c 8 rfl (.c 9 rfl (.c 10 rfl (.c 11 rfl (.c 12 rfl (.c 13 rfl (.c 14 rfl .n))))))))))))))) (by kernel_rfl)
   refine Calls.mono (Ylz w26724 (Fl ([]:List Ygr)) (⟨r73.1.terms,r73.1.syms,[]⟩:Yfz) r73.2.1 r73.2.2.1 r73.2.2.2.2 r73.2.2.2.1 r19 A75 n76 c77 A81 n82 c83 A87 n88 c89 A21 n22 c23 A26 n27 c28 A31 n32 c33 (hL26725.argO (dk:=Ygi) hp26726 [] rfl 3 rfl rfl (Ow.weak hL71.env.size h78) (me 0 rfl) (Cells.flat _)) hk79 (hL26725.argO (dk:=Ygu) hp26726 [] rfl 4 rfl rfl (Ow.weak hL71.env.size h84) (me 0 rfl) (Cells.flat _)) hk85 (hL26725.argFam (fk:=Ygo) (dk:=Yip) hp26726 [] rfl 5 6 rfl rfl rfl rfl (Ow.weak hL71.env.size h90) (fun _ _ _ _ k h=>⟨_,_,_,rfl,h,Nat.le_trans k (Nat.le_of_eq h.hq.symm)⟩)) hk91 (hL26725.argO (dk:=Ygi) hp26726 [] rfl 10 rfl rfl (Ow.weak hL17.env.size h24) (me 0 rfl) (Cells.flat _)) (hL26725.argO (dk:=Ygu) hp26726 [] rfl 11 rfl rfl (Ow.weak hL17.env.size h29) (me 0 rfl) (Cells.flat _)) (Rw.w (Rw.vis (dk:=Yip) (dk2:=Ygs) Yi5 rfl (fun x cs=>by rintro ⟨A,n,c,rfl,h,k⟩; exact ⟨A,_,c,rfl,Rw.pre h k⟩) (hL26725.argFam (fk:=Ygo) (dk:=Yip) hp26726 [] rfl 12 13 rfl rfl rfl rfl (Ow.w (Ow.weak hL17.env.size h34) (List.length_map _)) (fun _ _ _ _ k h=>⟨_,_,_,rfl,h,Nat.le_trans k (Nat.le_of_eq h.hq.symm)⟩))) (Yqt _)) (hL26725.hFl hp26726 (Yj7 [] rfl)) (hL26725.into hp26726 _) r26727 hv26728) ?_
   rintro _ w26729 ⟨rfl,hM26730⟩
   have hL26731:=hL26725.call hp26726 hM26730
   refine ⟨_,_,_,rfl,hL26731,?_⟩
   refine Yfx 14 rfl (Ymb rfl) (gy 44 rfl rfl) rfl<|Yfx 15 rfl (Ygy (b:=false) rfl rfl) gn rfl<|Yg7 16 rfl<|Ygk 14 rfl<|Ygk 13 rfl<|Ygk 13 rfl<|Ygk 13 rfl<|Ygk 13 rfl<|Ygk 13 rfl<|Ygk 13 rfl<|Ygk 12 rfl<|Ygk 12 rfl ?_
   refine Ygk 12 rfl<|Ygk 12 rfl<|Ygk 12 rfl<|Ygk 12 rfl<|Ygk 14 rfl<|Ygk 14 rfl ?_
   exact Yhj [0,1] (j1 (!r26727) h hk79 hk85 hk91) ⟨rfl,rfl,rfl,rfl,rfl,rfl,rfl,rfl,trivial⟩ (.cons_cons _ (.cons_cons _ (.cons_cons _ (.cons_cons _ (.cons_cons _ (.cons_cons _ (.cons_cons _ (.cons_cons _ (.cons_cons _ (.cons_cons _ (.cons_cons _ (.cons_cons _ (.cons_cons _ (.cons_cons _ (.cons_cons _ (.slnil)))))))))))))))) rfl
  ·have h:=Yge hp26723 h
   refine Yhq 44 rfl ((nt (bf hp26723)))<|Yg4 11 rfl (ps 44 rfl rfl rfl)<|Yg4 12 rfl (ps 44 rfl rfl rfl)<|Yg4 13 rfl (ps 44 rfl rfl rfl)<|Yg4 14 rfl (ps 44 rfl rfl rfl)<|Yfx 15 rfl (Ygy (b:=true) rfl rfl) gn rfl<|Yg7 16 rfl<|Ygk 14 rfl<|Ygk 13 rfl<|Ygk 13 rfl<|Ygk 13 rfl<|Ygk 13 rfl ?_
   refine Ygk 13 rfl<|Ygk 13 rfl<|Ygk 12 rfl<|Ygk 12 rfl<|Ygk 12 rfl<|Ygk 12 rfl<|Ygk 12 rfl<|Ygk 12 rfl<|Ygk 14 rfl<|Ygk 14 rfl ?_
   exact Yhj [0,1] (j1 true h hk79 hk85 hk91) ⟨rfl,rfl,rfl,rfl,rfl,rfl,rfl,rfl,trivial⟩ (.cons_cons _ (.cons_cons _ (.cons_cons _ (.cons_cons _ (.cons_cons _ (.cons_cons _ (.cons_cons _ (.cons_cons _ (.cons_cons _ (.cons_cons _ (.cons_cons _ (.cons_cons _ (.cons_cons _ (.cons_cons _ (.cons_cons _ (.slnil)))))))))))))))) rfl
 ·have h:=Yge hp26714 h
  refine Yhq 38 rfl ((nt (bf hp26714)))<|Yg4 5 rfl (ps 38 rfl rfl rfl)<|Yg4 6 rfl (ps 38 rfl rfl rfl)<|Yg4 7 rfl (ps 38 rfl rfl rfl)<|Yg4 8 rfl (ps 38 rfl rfl rfl)<|Yfx 9 rfl (Ygy (b:=true) rfl rfl) gn rfl<|Yfx 10 rfl (Yg2 rfl) gn rfl<|Yg4 11 rfl (ps 44 rfl rfl rfl)<|Yg4 12 rfl (ps 44 rfl rfl rfl)<|Yg4 13 rfl (ps 44 rfl rfl rfl)<|Yg4 14 rfl (ps 44 rfl rfl rfl)<|Yfx 15 rfl (Ygy (b:=true) rfl rfl) gn rfl ?_
  refine Yg7 16 rfl<|Ygk 14 rfl<|Ygk 13 rfl<|Ygk 13 rfl<|Ygk 13 rfl<|Ygk 13 rfl<|Ygk 13 rfl<|Ygk 13 rfl<|Ygk 12 rfl<|Ygk 12 rfl<|Ygk 12 rfl<|Ygk 12 rfl ?_
  refine Ygk 12 rfl<|Ygk 12 rfl<|Ygk 14 rfl<|Ygk 14 rfl ?_
  exact Yhj [0,1] (j1 true h hk79 hk85 hk91) ⟨rfl,rfl,rfl,rfl,rfl,rfl,rfl,rfl,trivial⟩ (.cons_cons _ (.cons_cons _ (.cons_cons _ (.cons_cons _ (.cons_cons _ (.cons_cons _ (.cons_cons _ (.cons_cons _ (.cons_cons _ (.cons_cons _ (.cons_cons _ (.cons_cons _ (.cons_cons _ (.cons_cons _ (.cons_cons _ (.slnil)))))))))))))))) rfl
end Go.Proofs.Ytelafghkjlpojaa.K
