/- What the machine's calls do, function by function, printed by my own tool. Condition of each: its relation holds of the answer, and what is handed in lies in memory as told. -/
import Derived.Test.YtelafghkjlpojaaK3
set_option linter.unusedVariables false
set_option maxRecDepth 100000
set_option maxHeartbeats 4000000
namespace Go.Proofs.Ytelafghkjlpojaa.K
open Go.Proofs.Ytelafghkjlpojaa.B Go.Proofs.Ytelafghkjlpojaa.R Go.RowKit
noncomputable abbrev trellislaw11_FirstOf_c0 : Code := bodyOf Try.f3
noncomputable abbrev trellislaw11_FirstOf_c1 : Code := Code.fst trellislaw11_FirstOf_c0
noncomputable abbrev trellislaw11_FirstOf_c2 : Code := Code.snd trellislaw11_FirstOf_c0
noncomputable abbrev trellislaw11_FirstOf_c3 : Code := Code.fst trellislaw11_FirstOf_c2
noncomputable abbrev trellislaw11_FirstOf_c4 : Code := Code.snd trellislaw11_FirstOf_c2
noncomputable abbrev trellislaw11_FirstOf_c5 : Code := Code.fst trellislaw11_FirstOf_c4
noncomputable abbrev trellislaw11_FirstOf_c6 : Code := Code.snd trellislaw11_FirstOf_c4
noncomputable abbrev trellislaw11_FirstOf_c7 : Code := Code.fst trellislaw11_FirstOf_c6
noncomputable abbrev trellislaw11_FirstOf_c8 : Code := Code.snd trellislaw11_FirstOf_c6
noncomputable abbrev trellislaw11_FirstOf_c9 : Code := Code.fst trellislaw11_FirstOf_c8
noncomputable abbrev trellislaw11_FirstOf_c10 : Code := Code.snd trellislaw11_FirstOf_c8
noncomputable abbrev trellislaw11_FirstOf_c11 : Code := Code.fst trellislaw11_FirstOf_c10
noncomputable abbrev trellislaw11_FirstOf_c12 : Code := Code.snd trellislaw11_FirstOf_c10
noncomputable abbrev trellislaw11_FirstOf_c13 : Code := Code.fst trellislaw11_FirstOf_c12
noncomputable abbrev trellislaw11_FirstOf_c14 : Code := Code.snd trellislaw11_FirstOf_c12
noncomputable abbrev trellislaw11_FirstOf_c15 : Code := Code.fst trellislaw11_FirstOf_c13
noncomputable abbrev trellislaw11_FirstOf_c16 : Code := Code.snd trellislaw11_FirstOf_c13
noncomputable abbrev trellislaw11_FirstOf_c17 : Code := Code.fst trellislaw11_FirstOf_c16
noncomputable abbrev trellislaw11_FirstOf_c18 : Code := Code.snd trellislaw11_FirstOf_c16
noncomputable abbrev trellislaw11_FirstOf_c19 : Code := Code.fst trellislaw11_FirstOf_c17
noncomputable abbrev trellislaw11_FirstOf_c20 : Code := Code.snd trellislaw11_FirstOf_c17
noncomputable abbrev trellislaw11_FirstOf_c21 : Code := Code.fst trellislaw11_FirstOf_c14
noncomputable abbrev trellislaw11_FirstOf_c22 : Code := Code.snd trellislaw11_FirstOf_c14
noncomputable abbrev trellislaw11_FirstOf_c23 : Code := Code.fst trellislaw11_FirstOf_c21
noncomputable abbrev trellislaw11_FirstOf_c24 : Code := Code.snd trellislaw11_FirstOf_c21
noncomputable abbrev trellislaw11_FirstOf_c25 : Code := Code.fst trellislaw11_FirstOf_c24
noncomputable abbrev trellislaw11_FirstOf_c26 : Code := Code.fst trellislaw11_FirstOf_c25
noncomputable abbrev trellislaw11_FirstOf_c27 : Code := Code.fst trellislaw11_FirstOf_c26
noncomputable abbrev trellislaw11_FirstOf_c28 : Code := Code.snd trellislaw11_FirstOf_c26
noncomputable abbrev trellislaw11_FirstOf_c29 : Code := Code.fst trellislaw11_FirstOf_c27
noncomputable abbrev trellislaw11_FirstOf_c30 : Code := Code.snd trellislaw11_FirstOf_c27
noncomputable abbrev trellislaw11_FirstOf_c31 : Code := Code.fst trellislaw11_FirstOf_c30
noncomputable abbrev trellislaw11_FirstOf_c32 : Code := Code.snd trellislaw11_FirstOf_c30
noncomputable abbrev trellislaw11_FirstOf_c33 : Code := Code.fst trellislaw11_FirstOf_c28
noncomputable abbrev trellislaw11_FirstOf_c34 : Code := Code.snd trellislaw11_FirstOf_c28
noncomputable abbrev trellislaw11_FirstOf_c35 : Code := Code.fst trellislaw11_FirstOf_c33
noncomputable abbrev trellislaw11_FirstOf_c36 : Code := Code.fst trellislaw11_FirstOf_c22
noncomputable abbrev trellislaw11_FirstOf_c37 : Code := Code.snd trellislaw11_FirstOf_c22
noncomputable abbrev trellislaw11_FirstOf_c38 : Code := Code.fst trellislaw11_FirstOf_c37
noncomputable abbrev trellislaw11_FirstOf_c39 : Code := Code.snd trellislaw11_FirstOf_c37
noncomputable abbrev trellislaw11_FirstOf_c40 : Code := Code.fst trellislaw11_FirstOf_c38
noncomputable abbrev trellislaw11_FirstOf_c41 : Code := Code.snd trellislaw11_FirstOf_c38
noncomputable abbrev trellislaw11_FirstOf_c42 : Code := Code.fst trellislaw11_FirstOf_c41
noncomputable abbrev trellislaw11_FirstOf_c43 : Code := Code.snd trellislaw11_FirstOf_c41
noncomputable abbrev trellislaw11_FirstOf_c44 : Code := Code.fst trellislaw11_FirstOf_c39
noncomputable abbrev trellislaw11_FirstOf_c45 : Code := Code.snd trellislaw11_FirstOf_c39
noncomputable abbrev trellislaw11_FirstOf_c46 : Code := Code.fst trellislaw11_FirstOf_c44
noncomputable abbrev trellislaw11_FirstOf_c47 : Code := Code.snd trellislaw11_FirstOf_c44
noncomputable abbrev trellislaw11_FirstOf_c48 : Code := Code.fst trellislaw11_FirstOf_c47
noncomputable abbrev trellislaw11_FirstOf_c49 : Code := Code.fst trellislaw11_FirstOf_c48
noncomputable abbrev trellislaw11_FirstOf_c50 : Code := Code.fst trellislaw11_FirstOf_c49
noncomputable abbrev trellislaw11_FirstOf_c51 : Code := Code.snd trellislaw11_FirstOf_c49
noncomputable abbrev trellislaw11_FirstOf_c52 : Code := Code.fst trellislaw11_FirstOf_c50
noncomputable abbrev trellislaw11_FirstOf_c53 : Code := Code.snd trellislaw11_FirstOf_c50
noncomputable abbrev trellislaw11_FirstOf_c54 : Code := Code.fst trellislaw11_FirstOf_c53
noncomputable abbrev trellislaw11_FirstOf_c55 : Code := Code.snd trellislaw11_FirstOf_c53
noncomputable abbrev trellislaw11_FirstOf_c56 : Code := Code.fst trellislaw11_FirstOf_c51
noncomputable abbrev trellislaw11_FirstOf_c57 : Code := Code.snd trellislaw11_FirstOf_c51
noncomputable abbrev trellislaw11_FirstOf_c58 : Code := Code.fst trellislaw11_FirstOf_c56
noncomputable abbrev trellislaw11_FirstOf_c59 : Code := Code.fst trellislaw11_FirstOf_c45
noncomputable abbrev trellislaw11_FirstOf_c60 : Code := Code.snd trellislaw11_FirstOf_c45
noncomputable abbrev trellislaw11_FirstOf_c61 : Code := Code.fst trellislaw11_FirstOf_c60
noncomputable abbrev trellislaw11_FirstOf_c62 : Code := Code.snd trellislaw11_FirstOf_c60
noncomputable abbrev trellislaw11_FirstOf_c63 : Code := Code.fst trellislaw11_FirstOf_c42
noncomputable abbrev trellislaw11_FirstOf_c64 : Code := Code.snd trellislaw11_FirstOf_c42
abbrev trellislaw11_FirstOf_R (w : World) (F : Nat → Prop) (r : Bool) : Ending → World → Prop := fun e w' => e = .returned (.bool r) ∧ B.Loc w w' [] [St w []]
noncomputable abbrev trellislaw11_FirstOf_C (w : World) (F : Nat → Prop) (r : Bool) : Cx := ⟨Try.prog, 3, Try.f3, 111, trellislaw11_FirstOf_R w F  r, w⟩
theorem trellislaw11_FirstOf_calls (w : World) (F : Nat → Prop) (x1 : api_Gram) (x14 : List api_Ref) (x19 : Int) (A2 : Option Addr) (n3 : Nat) (c4 : Nat) (A6 : Option Addr) (n7 : Nat) (c8 : Nat) (A10 : Option Addr) (n11 : Nat) (c12 : Nat) (A15 : Option Addr) (n16 : Nat) (c17 : Nat) (h5 : Rw k_api_TermDef w (St w []).av A2 n3 c4 x1.terms) (h9 : Rw k_api_Sym w (St w []).av A6 n7 c8 x1.syms) (h13 : Rw k_api_Prod w (St w []).av A10 n11 c12 x1.prods) (h18 : Rw k_api_Ref w (St w []).av A15 n16 c17 x14) (hF : ∀ b, F b → b < w.heap.size ∧ ∀ o ∈ ([] : List (List Nat)), b ∉ o) (hL0 : B.Loc w w [] [Sm w.heap.size F w [], St w []]) (r : Bool) (h : trellislaw11_FirstOf x1 x14 x19 r) : Calls Try.prog 3 #[.agg #[.slice A2 n3 c4, .slice A6 n7 c8, .slice A10 n11 c12], .slice A15 n16 c17, .int .u64 x19] w (trellislaw11_FirstOf_R w F  r) := by
  unfold trellislaw11_FirstOf at h
  refine calls_of_Loc (vs := [.agg #[.slice A2 n3 c4, .slice A6 n7 c8, .slice A10 n11 c12], .slice A15 n16 c17, .int .u64 x19]) 111 Try.func3 rfl Try.ntmps3 rfl hL0 ?_
  show G (trellislaw11_FirstOf_C w F r) _ _ _ _
  refine g_seq (c := trellislaw11_FirstOf_c0) rfl ?_
  refine g_region (c := trellislaw11_FirstOf_c1) rfl rfl ?_
  refine wl_s 0 rfl (s_box [.slice A2 n3 c4, .slice A6 n7 c8, .slice A10 n11 c12] rfl rfl rfl fun gb20 => ?_) gn
  refine wl_v 1 rfl (v_assign rfl) gn rfl ?_
  refine w_end 2 rfl ?_
  refine g_seq (c := trellislaw11_FirstOf_c2) rfl ?_
  refine g_region (c := trellislaw11_FirstOf_c3) rfl rfl ?_
  refine wl_v 0 rfl (v_ldB [.slice A2 n3 c4, .slice A6 n7 c8, .slice A10 n11 c12] 0 ld_26 rfl rfl rfl rfl) gn rfl ?_
  obtain ⟨r25, hv26, h⟩ := h
  refine wl_s 1 rfl (s_call [.agg #[.slice A2 n3 c4, .slice A6 n7 c8, .slice A10 n11 c12]] rfl Try.func8 rfl rfl rfl fun w22 hL23 => ?_) gn
  have hp24 : List.Perm ([.box gb20 26 [.slice A2 n3 c4, .slice A6 n7 c8, .slice A10 n11 c12]] : List Ent) (([] : List Ent) ++ ([.box gb20 26 [.slice A2 n3 c4, .slice A6 n7 c8, .slice A10 n11 c12]] : List Ent)) := perm_of_idx [] [0] rfl rfl (by kernel_rfl)
  refine Calls.mono (trellislaw11_twin_calls w22 (Fl ([] : List Snap)) x1 A2 n3 c4 A6 n7 c8 A10 n11 c12 (Rw.mono h5 (hL23.toSt hp24 (me 1 rfl))) (Rw.mono h9 (hL23.toSt hp24 (me 1 rfl))) (Rw.mono h13 (hL23.toSt hp24 (me 1 rfl))) (hL23.hFl (Sl := ([] : List Snap)) hp24 (sels [] rfl)) (hL23.into hp24 (Fl ([] : List Snap))) r25 hv26) ?_
  rintro _ w44 ⟨A27, n28, c29, A32, n33, c34, A37, n38, c39, cs42, rfl, hM45, h30, h35, h40, hC43⟩
  obtain ⟨sb48, hL46, hv47⟩ := hL23.callB (Sl := ([] : List Snap)) hp24 hM45 F (sels [] rfl) trivial
  have hC43 : Cells k_api_Prod (Sm w.heap.size F w44 sb48).w (Sm w.heap.size F w44 sb48).av r25.prods cs42 := Cells.mono hv47 hC43
  refine ⟨_, _, _, rfl, hL46, ?_⟩
  refine wl_s 2 rfl (s_alloc [.slice none 0 0, .slice none 0 0, .slice none 0 0] zr_26 rfl fun gb49 => ?_) gn
  refine wl_s 3 rfl (s_stB (vs := [.slice A27 n28 c29, .slice A32 n33 c34, .slice A37 n38 c39]) (cs' := [.slice A27 n28 c29, .slice A32 n33 c34, .slice A37 n38 c39]) (M' := [.box gb49 26 [.slice A27 n28 c29, .slice A32 n33 c34, .slice A37 n38 c39], .own (.slice A27 n28 c29) 58 2 n28 (r25.terms.flatMap enc_api_TermDef), .own (.slice A32 n33 c34) 61 2 n33 (r25.syms.flatMap enc_api_Sym), .own (.slice A37 n38 c39) 38 2 n38 cs42, .box gb20 26 [.slice A2 n3 c4, .slice A6 n7 c8, .slice A10 n11 c12]]) 0 sz_26 rfl rfl rfl rfl rfl rfl rfl rfl rfl ?_) gn
  refine w_end 4 rfl ?_
  refine g_seq (c := trellislaw11_FirstOf_c4) rfl ?_
  refine g_region (c := trellislaw11_FirstOf_c5) rfl rfl ?_
  refine wl_v 0 rfl (v_move rfl) gn rfl ?_
  obtain ⟨r54, hv55, h⟩ := h
  refine wl_s 1 rfl (s_call [.slice A15 n16 c17] rfl Try.func9 rfl rfl rfl fun w51 hL52 => ?_) gn
  have hp53 : List.Perm ([.box gb49 26 [.slice A27 n28 c29, .slice A32 n33 c34, .slice A37 n38 c39], .own (.slice A27 n28 c29) 58 2 n28 (r25.terms.flatMap enc_api_TermDef), .own (.slice A32 n33 c34) 61 2 n33 (r25.syms.flatMap enc_api_Sym), .own (.slice A37 n38 c39) 38 2 n38 cs42, .box gb20 26 [.slice A2 n3 c4, .slice A6 n7 c8, .slice A10 n11 c12]] : List Ent) (([] : List Ent) ++ ([.box gb49 26 [.slice A27 n28 c29, .slice A32 n33 c34, .slice A37 n38 c39], .own (.slice A27 n28 c29) 58 2 n28 (r25.terms.flatMap enc_api_TermDef), .own (.slice A32 n33 c34) 61 2 n33 (r25.syms.flatMap enc_api_Sym), .own (.slice A37 n38 c39) 38 2 n38 cs42, .box gb20 26 [.slice A2 n3 c4, .slice A6 n7 c8, .slice A10 n11 c12]] : List Ent)) := perm_of_idx [] [0, 1, 2, 3, 4] rfl rfl (by kernel_rfl)
  refine Calls.mono (trellislaw11_twinRow_calls w51 (Fl ([] : List Snap)) x14 A15 n16 c17 (Rw.mono h18 (hL52.toSt hp53 (me 2 rfl))) (hL52.hFl (Sl := ([] : List Snap)) hp53 (sels [] rfl)) (hL52.into hp53 (Fl ([] : List Snap))) r54 hv55) ?_
  rintro _ w61 ⟨A56, n57, c58, rfl, hM62, h59⟩
  have hL63 := hL52.call hp53 hM62
  refine ⟨_, _, _, rfl, hL63, ?_⟩
  refine wl_v 2 rfl (v_assign rfl) gn rfl ?_
  refine w_end 3 rfl ?_
  refine g_seq (c := trellislaw11_FirstOf_c6) rfl ?_
  refine g_region (c := trellislaw11_FirstOf_c7) rfl rfl ?_
  refine wl_v 0 rfl (v_ldB [.slice A27 n28 c29, .slice A32 n33 c34, .slice A37 n38 c39] 1 ld_26 rfl rfl rfl rfl) gn rfl ?_
  refine wl_v 1 rfl (v_move rfl) gn rfl ?_
  refine wl_v 2 rfl (v_move rfl) gn rfl ?_
  obtain ⟨r68, hv69, h⟩ := h
  refine wl_s 3 rfl (s_call [.agg #[.slice A27 n28 c29, .slice A32 n33 c34, .slice A37 n38 c39], .slice A56 n57 c58, .int .u64 x19] rfl Try.func10 rfl rfl rfl fun w65 hL66 => ?_) gn
  have hp67 : List.Perm ([.own (.slice A56 n57 c58) 36 3 n57 (r54.flatMap enc_api_Ref), .box gb49 26 [.slice A27 n28 c29, .slice A32 n33 c34, .slice A37 n38 c39], .own (.slice A27 n28 c29) 58 2 n28 (r25.terms.flatMap enc_api_TermDef), .own (.slice A32 n33 c34) 61 2 n33 (r25.syms.flatMap enc_api_Sym), .own (.slice A37 n38 c39) 38 2 n38 cs42, .box gb20 26 [.slice A2 n3 c4, .slice A6 n7 c8, .slice A10 n11 c12]] : List Ent) (([] : List Ent) ++ ([.own (.slice A56 n57 c58) 36 3 n57 (r54.flatMap enc_api_Ref), .box gb49 26 [.slice A27 n28 c29, .slice A32 n33 c34, .slice A37 n38 c39], .own (.slice A27 n28 c29) 58 2 n28 (r25.terms.flatMap enc_api_TermDef), .own (.slice A32 n33 c34) 61 2 n33 (r25.syms.flatMap enc_api_Sym), .own (.slice A37 n38 c39) 38 2 n38 cs42, .box gb20 26 [.slice A2 n3 c4, .slice A6 n7 c8, .slice A10 n11 c12]] : List Ent)) := perm_of_idx [] [0, 1, 2, 3, 4, 5] rfl rfl (by kernel_rfl)
  refine Calls.mono (trellisref11_Of_calls w65 (Fl ([] : List Snap)) r25 r54 x19 A27 n28 c29 A32 n33 c34 A37 n38 c39 A56 n57 c58 (hL66.argO (dk := k_api_TermDef) hp67 [] rfl 2 rfl rfl (Ow.weak hL23.env.size h30) (me 1 rfl) (Cells.flat _)) (hL66.argO (dk := k_api_Sym) hp67 [] rfl 3 rfl rfl (Ow.weak hL23.env.size h35) (me 1 rfl) (Cells.flat _)) (hL66.argO (dk := k_api_Prod) hp67 [] rfl 4 rfl rfl (Ow.weak hL23.env.size h40) (me 0 rfl) hC43) (hL66.argO (dk := k_api_Ref) hp67 [] rfl 0 rfl rfl (Ow.weak hL52.env.size h59) (me 1 rfl) (Cells.flat _)) (hL66.hFl (Sl := ([] : List Snap)) hp67 (sels [] rfl)) (hL66.into hp67 (Fl ([] : List Snap))) r68 hv69) ?_
  rintro _ w70 ⟨rfl, hM71⟩
  have hL72 := hL66.call hp67 hM71
  refine ⟨_, _, _, rfl, hL72, ?_⟩
  refine wl_v 4 rfl (v_assign rfl) gn rfl ?_
  refine w_end 5 rfl ?_
  refine g_seq (c := trellislaw11_FirstOf_c8) rfl ?_
  refine g_region (c := trellislaw11_FirstOf_c9) rfl rfl ?_
  refine wl_v 0 rfl (v_ldB [.slice A2 n3 c4, .slice A6 n7 c8, .slice A10 n11 c12] 5 ld_26 rfl rfl rfl rfl) gn rfl ?_
  obtain ⟨r76, hv77, h⟩ := h
  refine wl_s 1 rfl (s_call [.agg #[.slice A2 n3 c4, .slice A6 n7 c8, .slice A10 n11 c12]] rfl Try.func11 rfl rfl rfl fun w73 hL74 => ?_) gn
  have hp75 : List.Perm ([.own (.slice A56 n57 c58) 36 3 n57 (r54.flatMap enc_api_Ref), .box gb49 26 [.slice A27 n28 c29, .slice A32 n33 c34, .slice A37 n38 c39], .own (.slice A27 n28 c29) 58 2 n28 (r25.terms.flatMap enc_api_TermDef), .own (.slice A32 n33 c34) 61 2 n33 (r25.syms.flatMap enc_api_Sym), .own (.slice A37 n38 c39) 38 2 n38 cs42, .box gb20 26 [.slice A2 n3 c4, .slice A6 n7 c8, .slice A10 n11 c12]] : List Ent) (([] : List Ent) ++ ([.own (.slice A56 n57 c58) 36 3 n57 (r54.flatMap enc_api_Ref), .box gb49 26 [.slice A27 n28 c29, .slice A32 n33 c34, .slice A37 n38 c39], .own (.slice A27 n28 c29) 58 2 n28 (r25.terms.flatMap enc_api_TermDef), .own (.slice A32 n33 c34) 61 2 n33 (r25.syms.flatMap enc_api_Sym), .own (.slice A37 n38 c39) 38 2 n38 cs42, .box gb20 26 [.slice A2 n3 c4, .slice A6 n7 c8, .slice A10 n11 c12]] : List Ent)) := perm_of_idx [] [0, 1, 2, 3, 4, 5] rfl rfl (by kernel_rfl)
  refine Calls.mono (trellislaw11_lent_calls w73 (Fl ([] : List Snap)) x1 A2 n3 c4 A6 n7 c8 A10 n11 c12 (Rw.mono h5 (hL74.toSt hp75 (me 2 rfl))) (Rw.mono h9 (hL74.toSt hp75 (me 2 rfl))) (Rw.mono h13 (hL74.toSt hp75 (me 2 rfl))) (hL74.hFl (Sl := ([] : List Snap)) hp75 (sels [] rfl)) (hL74.into hp75 (Fl ([] : List Snap))) r76 hv77) ?_
  rintro _ w95 ⟨A78, n79, c80, A83, n84, c85, A88, n89, c90, cs93, rfl, hM96, h81, h86, h91, hC94⟩
  obtain ⟨sb99, hL97, hv98⟩ := hL74.callB (Sl := ([] : List Snap)) hp75 hM96 F (sels [] rfl) trivial
  have hC94 : Cells k_api_Prod (Sm w.heap.size F w95 sb99).w (Sm w.heap.size F w95 sb99).av r76.prods cs93 := Cells.mono hv98 hC94
  refine ⟨_, _, _, rfl, hL97, ?_⟩
  refine wl_s 2 rfl (s_alloc [.slice none 0 0, .slice none 0 0, .slice none 0 0] zr_26 rfl fun gb100 => ?_) gn
  refine wl_s 3 rfl (s_stB (vs := [.slice A78 n79 c80, .slice A83 n84 c85, .slice A88 n89 c90]) (cs' := [.slice A78 n79 c80, .slice A83 n84 c85, .slice A88 n89 c90]) (M' := [.box gb100 26 [.slice A78 n79 c80, .slice A83 n84 c85, .slice A88 n89 c90], .own (.slice A78 n79 c80) 58 2 n79 (r76.terms.flatMap enc_api_TermDef), .own (.slice A83 n84 c85) 61 2 n84 (r76.syms.flatMap enc_api_Sym), .own (.slice A88 n89 c90) 38 2 n89 cs93, .own (.slice A56 n57 c58) 36 3 n57 (r54.flatMap enc_api_Ref), .box gb49 26 [.slice A27 n28 c29, .slice A32 n33 c34, .slice A37 n38 c39], .own (.slice A27 n28 c29) 58 2 n28 (r25.terms.flatMap enc_api_TermDef), .own (.slice A32 n33 c34) 61 2 n33 (r25.syms.flatMap enc_api_Sym), .own (.slice A37 n38 c39) 38 2 n38 cs42, .box gb20 26 [.slice A2 n3 c4, .slice A6 n7 c8, .slice A10 n11 c12]]) 0 sz_26 rfl rfl rfl rfl rfl rfl rfl rfl rfl ?_) gn
  refine w_end 4 rfl ?_
  refine g_seq (c := trellislaw11_FirstOf_c10) rfl ?_
  refine g_region (c := trellislaw11_FirstOf_c11) rfl rfl ?_
  refine wl_v 0 rfl (v_move rfl) gn rfl ?_
  obtain ⟨r105, hv106, h⟩ := h
  refine wl_s 1 rfl (s_call [.slice A15 n16 c17] rfl Try.func12 rfl rfl rfl fun w102 hL103 => ?_) gn
  have hp104 : List.Perm ([.box gb100 26 [.slice A78 n79 c80, .slice A83 n84 c85, .slice A88 n89 c90], .own (.slice A78 n79 c80) 58 2 n79 (r76.terms.flatMap enc_api_TermDef), .own (.slice A83 n84 c85) 61 2 n84 (r76.syms.flatMap enc_api_Sym), .own (.slice A88 n89 c90) 38 2 n89 cs93, .own (.slice A56 n57 c58) 36 3 n57 (r54.flatMap enc_api_Ref), .box gb49 26 [.slice A27 n28 c29, .slice A32 n33 c34, .slice A37 n38 c39], .own (.slice A27 n28 c29) 58 2 n28 (r25.terms.flatMap enc_api_TermDef), .own (.slice A32 n33 c34) 61 2 n33 (r25.syms.flatMap enc_api_Sym), .own (.slice A37 n38 c39) 38 2 n38 cs42, .box gb20 26 [.slice A2 n3 c4, .slice A6 n7 c8, .slice A10 n11 c12]] : List Ent) (([] : List Ent) ++ ([.box gb100 26 [.slice A78 n79 c80, .slice A83 n84 c85, .slice A88 n89 c90], .own (.slice A78 n79 c80) 58 2 n79 (r76.terms.flatMap enc_api_TermDef), .own (.slice A83 n84 c85) 61 2 n84 (r76.syms.flatMap enc_api_Sym), .own (.slice A88 n89 c90) 38 2 n89 cs93, .own (.slice A56 n57 c58) 36 3 n57 (r54.flatMap enc_api_Ref), .box gb49 26 [.slice A27 n28 c29, .slice A32 n33 c34, .slice A37 n38 c39], .own (.slice A27 n28 c29) 58 2 n28 (r25.terms.flatMap enc_api_TermDef), .own (.slice A32 n33 c34) 61 2 n33 (r25.syms.flatMap enc_api_Sym), .own (.slice A37 n38 c39) 38 2 n38 cs42, .box gb20 26 [.slice A2 n3 c4, .slice A6 n7 c8, .slice A10 n11 c12]] : List Ent)) := perm_of_idx [] [0, 1, 2, 3, 4, 5, 6, 7, 8, 9] rfl rfl (by kernel_rfl)
  refine Calls.mono (trellislaw11_lentRow_calls w102 (Fl ([] : List Snap)) x14 A15 n16 c17 (Rw.mono h18 (hL103.toSt hp104 (me 3 rfl))) (hL103.hFl (Sl := ([] : List Snap)) hp104 (sels [] rfl)) (hL103.into hp104 (Fl ([] : List Snap))) r105 hv106) ?_
  rintro _ w112 ⟨A107, n108, c109, rfl, hM113, h110⟩
  have hL114 := hL103.call hp104 hM113
  refine ⟨_, _, _, rfl, hL114, ?_⟩
  refine wl_v 2 rfl (v_assign rfl) gn rfl ?_
  refine w_end 3 rfl ?_
  refine g_seq (c := trellislaw11_FirstOf_c12) rfl ?_
  refine g_seq (c := trellislaw11_FirstOf_c13) rfl ?_
  have j1 : ∀ (x142 : Bool) (h : trellislaw11_FirstOf_j1 r25 x19 r76 r105 x142 r) , G (trellislaw11_FirstOf_C w F r) [.code trellislaw11_FirstOf_c16, .code trellislaw11_FirstOf_c14] [(2, .int .u64 x19), (7, .pointer (some ⟨gb49, 0, none⟩)), (10, .pointer (some ⟨gb100, 0, none⟩)), (11, .slice A107 n108 c109), (43, .bool x142)] [.own (.slice A107 n108 c109) 36 3 n108 (r105.flatMap enc_api_Ref), .box gb100 26 [.slice A78 n79 c80, .slice A83 n84 c85, .slice A88 n89 c90], .own (.slice A78 n79 c80) 58 2 n79 (r76.terms.flatMap enc_api_TermDef), .own (.slice A83 n84 c85) 61 2 n84 (r76.syms.flatMap enc_api_Sym), .own (.slice A88 n89 c90) 38 2 n89 cs93, .box gb49 26 [.slice A27 n28 c29, .slice A32 n33 c34, .slice A37 n38 c39], .own (.slice A27 n28 c29) 58 2 n28 (r25.terms.flatMap enc_api_TermDef), .own (.slice A32 n33 c34) 61 2 n33 (r25.syms.flatMap enc_api_Sym), .own (.slice A37 n38 c39) 38 2 n38 cs42] [Sm w.heap.size F w95 sb99, Sm w.heap.size F w44 sb48, Sm w.heap.size F w [], St w []] := by
    intro x142 h
    unfold trellislaw11_FirstOf_j1 at h
    by_cases hp143 : x142 = true
    · have h := if_pos' hp143 h
      refine g_true (c := trellislaw11_FirstOf_c16) rfl _ rfl (hp143) ?_
      refine g_seq (c := trellislaw11_FirstOf_c17) rfl ?_
      refine g_region (c := trellislaw11_FirstOf_c19) rfl rfl ?_
      refine wl_v 0 rfl (v_assign rfl) gn rfl ?_
      refine w_end 1 rfl ?_
      refine g_retR (c := trellislaw11_FirstOf_c20) [.bool false] rfl Try.func3 rfl (.tmp rfl (.nil)) fun wr hLr => ?_
      have hMr : B.Loc w wr [] [St w []] := hLr.pick (rest := [.own (.slice A107 n108 c109) 36 3 n108 (r105.flatMap enc_api_Ref), .box gb100 26 [.slice A78 n79 c80, .slice A83 n84 c85, .slice A88 n89 c90], .own (.slice A78 n79 c80) 58 2 n79 (r76.terms.flatMap enc_api_TermDef), .own (.slice A83 n84 c85) 61 2 n84 (r76.syms.flatMap enc_api_Sym), .own (.slice A88 n89 c90) 38 2 n89 cs93, .box gb49 26 [.slice A27 n28 c29, .slice A32 n33 c34, .slice A37 n38 c39], .own (.slice A27 n28 c29) 58 2 n28 (r25.terms.flatMap enc_api_TermDef), .own (.slice A32 n33 c34) 61 2 n33 (r25.syms.flatMap enc_api_Sym), .own (.slice A37 n38 c39) 38 2 n38 cs42]) (perm_of_idx [] [0, 1, 2, 3, 4, 5, 6, 7, 8] rfl rfl (by kernel_rfl)) (sels [3] rfl)
      have hMi : ∀ e ∈ ([] : List Ent), e ∈ ([.own (.slice A107 n108 c109) 36 3 n108 (r105.flatMap enc_api_Ref), .box gb100 26 [.slice A78 n79 c80, .slice A83 n84 c85, .slice A88 n89 c90], .own (.slice A78 n79 c80) 58 2 n79 (r76.terms.flatMap enc_api_TermDef), .own (.slice A83 n84 c85) 61 2 n84 (r76.syms.flatMap enc_api_Sym), .own (.slice A88 n89 c90) 38 2 n89 cs93, .box gb49 26 [.slice A27 n28 c29, .slice A32 n33 c34, .slice A37 n38 c39], .own (.slice A27 n28 c29) 58 2 n28 (r25.terms.flatMap enc_api_TermDef), .own (.slice A32 n33 c34) 61 2 n33 (r25.syms.flatMap enc_api_Sym), .own (.slice A37 n38 c39) 38 2 n38 cs42] : List Ent) := sels [] rfl
      show trellislaw11_FirstOf_R w F  r (.returned (packV [.bool false])) wr
      rw [h]
      exact ⟨rfl, hMr⟩
    · have h := if_neg' hp143 h
      refine g_false (c := trellislaw11_FirstOf_c16) rfl _ rfl ((bf hp143)) ?_
      refine g_skip (c := trellislaw11_FirstOf_c18) rfl ?_
      refine g_seq (c := trellislaw11_FirstOf_c14) rfl ?_
      refine g_seq (c := trellislaw11_FirstOf_c21) rfl ?_
      refine g_region (c := trellislaw11_FirstOf_c23) rfl rfl ?_
      refine wl_v 0 rfl (v_assign rfl) gn rfl ?_
      refine w_end 1 rfl ?_
      refine g_block (c := trellislaw11_FirstOf_c24) rfl ?_
      refine g_loop (c := trellislaw11_FirstOf_c25) rfl ?_
      have key2 : ∀ s, Rounds (fun (s : (List api_Ref) × Int) o => trellislaw11_FirstOf_b2 r25 x19 r76 s.1 s.2 o) s r → (fun (s : (List api_Ref) × Int) => ∀ (A719 : Option Addr) (n720 : Nat) (c721 : Nat) (h722 : Ow w.heap.size A719 n720 c721 s.1), G (trellislaw11_FirstOf_C w F r) [.code trellislaw11_FirstOf_c26, .inLoop trellislaw11_FirstOf_c26, .inBlock 0, .code trellislaw11_FirstOf_c22] [(2, .int .u64 x19), (7, .pointer (some ⟨gb49, 0, none⟩)), (10, .pointer (some ⟨gb100, 0, none⟩)), (11, .slice A719 n720 c721), (12, .int .i64 s.2)] [.own (.slice A719 n720 c721) 36 3 n720 (s.1.flatMap enc_api_Ref), .box gb100 26 [.slice A78 n79 c80, .slice A83 n84 c85, .slice A88 n89 c90], .own (.slice A78 n79 c80) 58 2 n79 (r76.terms.flatMap enc_api_TermDef), .own (.slice A83 n84 c85) 61 2 n84 (r76.syms.flatMap enc_api_Sym), .own (.slice A88 n89 c90) 38 2 n89 cs93, .box gb49 26 [.slice A27 n28 c29, .slice A32 n33 c34, .slice A37 n38 c39], .own (.slice A27 n28 c29) 58 2 n28 (r25.terms.flatMap enc_api_TermDef), .own (.slice A32 n33 c34) 61 2 n33 (r25.syms.flatMap enc_api_Sym), .own (.slice A37 n38 c39) 38 2 n38 cs42] [Sm w.heap.size F w95 sb99, Sm w.heap.size F w44 sb48, Sm w.heap.size F w [], St w []]) s := by
        intro s hs
        refine Rounds.ind (mot := (fun (s : (List api_Ref) × Int) => ∀ (A719 : Option Addr) (n720 : Nat) (c721 : Nat) (h722 : Ow w.heap.size A719 n720 c721 s.1), G (trellislaw11_FirstOf_C w F r) [.code trellislaw11_FirstOf_c26, .inLoop trellislaw11_FirstOf_c26, .inBlock 0, .code trellislaw11_FirstOf_c22] [(2, .int .u64 x19), (7, .pointer (some ⟨gb49, 0, none⟩)), (10, .pointer (some ⟨gb100, 0, none⟩)), (11, .slice A719 n720 c721), (12, .int .i64 s.2)] [.own (.slice A719 n720 c721) 36 3 n720 (s.1.flatMap enc_api_Ref), .box gb100 26 [.slice A78 n79 c80, .slice A83 n84 c85, .slice A88 n89 c90], .own (.slice A78 n79 c80) 58 2 n79 (r76.terms.flatMap enc_api_TermDef), .own (.slice A83 n84 c85) 61 2 n84 (r76.syms.flatMap enc_api_Sym), .own (.slice A88 n89 c90) 38 2 n89 cs93, .box gb49 26 [.slice A27 n28 c29, .slice A32 n33 c34, .slice A37 n38 c39], .own (.slice A27 n28 c29) 58 2 n28 (r25.terms.flatMap enc_api_TermDef), .own (.slice A32 n33 c34) 61 2 n33 (r25.syms.flatMap enc_api_Sym), .own (.slice A37 n38 c39) 38 2 n38 cs42] [Sm w.heap.size F w95 sb99, Sm w.heap.size F w44 sb48, Sm w.heap.size F w [], St w []])) ?_ hs
        clear hs s
        intro s o1 h hO1
        obtain ⟨x718, x723⟩ := s
        show ∀ (A719 : Option Addr) (n720 : Nat) (c721 : Nat) (h722 : Ow w.heap.size A719 n720 c721 x718), G (trellislaw11_FirstOf_C w F r) [.code trellislaw11_FirstOf_c26, .inLoop trellislaw11_FirstOf_c26, .inBlock 0, .code trellislaw11_FirstOf_c22] [(2, .int .u64 x19), (7, .pointer (some ⟨gb49, 0, none⟩)), (10, .pointer (some ⟨gb100, 0, none⟩)), (11, .slice A719 n720 c721), (12, .int .i64 x723)] [.own (.slice A719 n720 c721) 36 3 n720 (x718.flatMap enc_api_Ref), .box gb100 26 [.slice A78 n79 c80, .slice A83 n84 c85, .slice A88 n89 c90], .own (.slice A78 n79 c80) 58 2 n79 (r76.terms.flatMap enc_api_TermDef), .own (.slice A83 n84 c85) 61 2 n84 (r76.syms.flatMap enc_api_Sym), .own (.slice A88 n89 c90) 38 2 n89 cs93, .box gb49 26 [.slice A27 n28 c29, .slice A32 n33 c34, .slice A37 n38 c39], .own (.slice A27 n28 c29) 58 2 n28 (r25.terms.flatMap enc_api_TermDef), .own (.slice A32 n33 c34) 61 2 n33 (r25.syms.flatMap enc_api_Sym), .own (.slice A37 n38 c39) 38 2 n38 cs42] [Sm w.heap.size F w95 sb99, Sm w.heap.size F w44 sb48, Sm w.heap.size F w [], St w []]
        intro A719 n720 c721 h722
        have h : trellislaw11_FirstOf_b2 r25 x19 r76 x718 x723 o1 := h
        unfold trellislaw11_FirstOf_b2 at h
        refine g_seq (c := trellislaw11_FirstOf_c26) rfl ?_
        refine g_seq (c := trellislaw11_FirstOf_c27) rfl ?_
        refine g_region (c := trellislaw11_FirstOf_c29) rfl rfl ?_
        refine wl_v 0 rfl (v_move rfl) gn rfl ?_
        refine wl_v 1 rfl (v_move rfl) gn rfl ?_
        refine wl_v 2 rfl (v_lenQ un_27 rfl h722.hq) gn rfl ?_
        refine wl_v 3 rfl (v_bin rfl rfl rfl) gn rfl ?_
        refine w_end 4 rfl ?_
        by_cases hp1297 : x723 < (x718.length : Int)
        · have h := if_pos' hp1297 h
          refine g_true (c := trellislaw11_FirstOf_c30) rfl _ rfl ((decide_eq_true hp1297)) ?_
          refine g_skip (c := trellislaw11_FirstOf_c31) rfl ?_
          refine g_seq (c := trellislaw11_FirstOf_c28) rfl ?_
          refine g_block (c := trellislaw11_FirstOf_c33) rfl ?_
          refine g_region (c := trellislaw11_FirstOf_c35) rfl rfl ?_
          refine wl_v 0 rfl (v_move rfl) gn rfl ?_
          refine wl_v 1 rfl (v_move rfl) gn rfl ?_
          refine wl_v 2 rfl (v_move rfl) gn rfl ?_
          refine wl_v 3 rfl (v_move rfl) gn rfl ?_
          refine wl_v 4 rfl (v_lenQ un_27 rfl h722.hq) gn rfl ?_
          refine wl_v 5 rfl (v_bin rfl rfl rfl) gn rfl ?_
          refine wl_v 6 rfl (v_move rfl) gn rfl ?_
          refine wl_v 7 rfl (v_bin rfl rfl rfl) gn rfl ?_
          obtain ⟨hb1298, h⟩ := h
          refine wl_v 8 rfl (v_idxO slE_27 rfl rfl h722 hb1298) gn rfl ?_
          refine wl_v 9 rfl (v_ldO [.int .i64 ((ix x718 (w64 ((w64 ((x718.length : Int) - 1)) - x723))).sym), .string ((ix x718 (w64 ((w64 ((x718.length : Int) - 1)) - x723))).field), .string ((ix x718 (w64 ((w64 ((x718.length : Int) - 1)) - x723))).as)] 0 ld_36 rfl rfl (fm_one hl_api_Ref hb1298) rfl) gn rfl ?_
          obtain ⟨hb1299, h⟩ := h
          refine wl_v 10 rfl (v_idxO slE_27 rfl rfl h722 hb1299) gn rfl ?_
          obtain ⟨x1300, hv1301, h⟩ := h
          refine wl_s 11 rfl (s_stF (enc := enc_api_Ref) (o := 0) (z := (ix x718 (w64 ((w64 ((x718.length : Int) - 1)) - x723)))) (vs := [.int .i64 ((ix x718 (w64 ((w64 ((x718.length : Int) - 1)) - x723))).sym), .string ((ix x718 (w64 ((w64 ((x718.length : Int) - 1)) - x723))).field), .string ((ix x718 (w64 ((w64 ((x718.length : Int) - 1)) - x723))).as)]) (i := x723) 0 hl_api_Ref sz_36 rfl rfl rfl rfl rfl h722 hb1299 rfl rfl rfl hv1301 fun h1302 => ?_) gn
          refine w_end 12 rfl ?_
          refine g_inBlock ?_
          refine g_region (c := trellislaw11_FirstOf_c34) rfl rfl ?_
          refine wl_v 0 rfl (v_move rfl) gn rfl ?_
          refine wl_v 1 rfl (v_bin rfl rfl rfl) gn rfl ?_
          refine wl_v 2 rfl (v_assign rfl) gn rfl ?_
          refine w_end 3 rfl ?_
          refine g_inLoop ?_
          have ih := Out.inl hO1 h
          exact g_go [0, 1, 2, 3] (ih A719 n720 c721 h1302) ⟨rfl, rfl, rfl, rfl, rfl, trivial⟩ (.cons_cons _ (.cons_cons _ (.cons_cons _ (.cons_cons _ (.cons_cons _ (.cons_cons _ (.cons_cons _ (.cons_cons _ (.cons_cons _ (.slnil)))))))))) rfl
        · have h := if_neg' hp1297 h
          refine g_false (c := trellislaw11_FirstOf_c30) rfl _ rfl ((decide_eq_false hp1297)) ?_
          refine g_exit (c := trellislaw11_FirstOf_c32) [.code trellislaw11_FirstOf_c22] rfl rfl ?_
          refine g_seq (c := trellislaw11_FirstOf_c22) rfl ?_
          obtain ⟨r1306, hv1307, h⟩ := h
          obtain ⟨r1319, hv1320, h⟩ := h
          have hns : Region.noSelect (Code.ops trellislaw11_FirstOf_c36) = true := by kernel_rfl
          refine g_drawF (c := trellislaw11_FirstOf_c36) [.own (.slice A719 n720 c721) 36 3 n720 (x718.flatMap enc_api_Ref), .box gb100 26 [.slice A78 n79 c80, .slice A83 n84 c85, .slice A88 n89 c90], .own (.slice A78 n79 c80) 58 2 n79 (r76.terms.flatMap enc_api_TermDef), .own (.slice A83 n84 c85) 61 2 n84 (r76.syms.flatMap enc_api_Sym), .own (.slice A88 n89 c90) 38 2 n89 cs93, .box gb49 26 [.slice A27 n28 c29, .slice A32 n33 c34, .slice A37 n38 c39], .own (.slice A27 n28 c29) 58 2 n28 (r25.terms.flatMap enc_api_TermDef), .own (.slice A32 n33 c34) 61 2 n33 (r25.syms.flatMap enc_api_Sym), .own (.slice A37 n38 c39) 38 2 n38 cs42] [Sm w.heap.size F w95 sb99, Sm w.heap.size F w44 sb48, Sm w.heap.size F w [], St w []] [] 6 rfl rfl mix rfl (.cons_cons _ (.cons_cons _ (.cons_cons _ (.cons_cons _ (.cons_cons _ (.cons_cons _ (.cons_cons _ (.cons_cons _ (.cons_cons _ (.slnil)))))))))) (sels [0, 1, 2, 3] rfl) ?_
          refine wf_v 0 rfl (v_ldB [.slice A27 n28 c29, .slice A32 n33 c34, .slice A37 n38 c39] 5 ld_26 rfl rfl rfl rfl) gn rfl hns (by kernel_rfl) (by kernel_rfl) rfl rfl ?_
          refine wf_v 1 rfl (v_move rfl) gn rfl hns (by kernel_rfl) (by kernel_rfl) rfl rfl ?_
          refine wf_v 3 rfl (v_move rfl) gn rfl hns (by kernel_rfl) (by kernel_rfl) rfl rfl ?_
          refine wf_all [2] (by kernel_rfl) rfl ⟨on_s 2 rfl gn rfl (s_call [.slice A719 n720 c721] rfl Try.func9 rfl rfl rfl fun w1386 hL1387 => ?_), trivial⟩
          have hp1388 : List.Perm ([.own (.slice A719 n720 c721) 36 3 n720 (x718.flatMap enc_api_Ref), .box gb100 26 [.slice A78 n79 c80, .slice A83 n84 c85, .slice A88 n89 c90], .own (.slice A78 n79 c80) 58 2 n79 (r76.terms.flatMap enc_api_TermDef), .own (.slice A83 n84 c85) 61 2 n84 (r76.syms.flatMap enc_api_Sym), .own (.slice A88 n89 c90) 38 2 n89 cs93, .box gb49 26 [.slice A27 n28 c29, .slice A32 n33 c34, .slice A37 n38 c39], .own (.slice A27 n28 c29) 58 2 n28 (r25.terms.flatMap enc_api_TermDef), .own (.slice A32 n33 c34) 61 2 n33 (r25.syms.flatMap enc_api_Sym), .own (.slice A37 n38 c39) 38 2 n38 cs42] : List Ent) (([] : List Ent) ++ ([.own (.slice A719 n720 c721) 36 3 n720 (x718.flatMap enc_api_Ref), .box gb100 26 [.slice A78 n79 c80, .slice A83 n84 c85, .slice A88 n89 c90], .own (.slice A78 n79 c80) 58 2 n79 (r76.terms.flatMap enc_api_TermDef), .own (.slice A83 n84 c85) 61 2 n84 (r76.syms.flatMap enc_api_Sym), .own (.slice A88 n89 c90) 38 2 n89 cs93, .box gb49 26 [.slice A27 n28 c29, .slice A32 n33 c34, .slice A37 n38 c39], .own (.slice A27 n28 c29) 58 2 n28 (r25.terms.flatMap enc_api_TermDef), .own (.slice A32 n33 c34) 61 2 n33 (r25.syms.flatMap enc_api_Sym), .own (.slice A37 n38 c39) 38 2 n38 cs42] : List Ent)) := perm_of_idx [] [0, 1, 2, 3, 4, 5, 6, 7, 8] rfl rfl (by kernel_rfl)
          refine Calls.mono (trellislaw11_twinRow_calls w1386 (Fl ([] : List Snap)) x718 A719 n720 c721 (hL1387.argO (dk := k_api_Ref) hp1388 [] rfl 0 rfl rfl h722 (me 2 rfl) (Cells.flat _)) (hL1387.hFl (Sl := ([] : List Snap)) hp1388 (sels [] rfl)) (hL1387.into hp1388 (Fl ([] : List Snap))) r1306 hv1307) ?_
          rintro _ w1393 ⟨A1389, n1390, c1391, rfl, hM1394, h1392⟩
          have hL1395 := hL1387.call hp1388 hM1394
          refine ⟨_, _, _, rfl, hL1395, ?_⟩
          refine ⟨sels [1, 2, 3, 4, 5, 6, 7, 8, 9] rfl, sels [0, 1, 2, 3] rfl, ?_⟩
          refine wf_all [4] (by kernel_rfl) rfl ⟨on_s 4 rfl gn rfl (s_call [.agg #[.slice A27 n28 c29, .slice A32 n33 c34, .slice A37 n38 c39], .slice A1389 n1390 c1391, .int .u64 x19] rfl Try.func10 rfl rfl rfl fun w1402 hL1403 => ?_), trivial⟩
          have hp1404 : List.Perm ([.own (.slice A1389 n1390 c1391) 36 3 n1390 (r1306.flatMap enc_api_Ref), .own (.slice A719 n720 c721) 36 3 n720 (x718.flatMap enc_api_Ref), .box gb100 26 [.slice A78 n79 c80, .slice A83 n84 c85, .slice A88 n89 c90], .own (.slice A78 n79 c80) 58 2 n79 (r76.terms.flatMap enc_api_TermDef), .own (.slice A83 n84 c85) 61 2 n84 (r76.syms.flatMap enc_api_Sym), .own (.slice A88 n89 c90) 38 2 n89 cs93, .box gb49 26 [.slice A27 n28 c29, .slice A32 n33 c34, .slice A37 n38 c39], .own (.slice A27 n28 c29) 58 2 n28 (r25.terms.flatMap enc_api_TermDef), .own (.slice A32 n33 c34) 61 2 n33 (r25.syms.flatMap enc_api_Sym), .own (.slice A37 n38 c39) 38 2 n38 cs42] : List Ent) (([] : List Ent) ++ ([.own (.slice A1389 n1390 c1391) 36 3 n1390 (r1306.flatMap enc_api_Ref), .own (.slice A719 n720 c721) 36 3 n720 (x718.flatMap enc_api_Ref), .box gb100 26 [.slice A78 n79 c80, .slice A83 n84 c85, .slice A88 n89 c90], .own (.slice A78 n79 c80) 58 2 n79 (r76.terms.flatMap enc_api_TermDef), .own (.slice A83 n84 c85) 61 2 n84 (r76.syms.flatMap enc_api_Sym), .own (.slice A88 n89 c90) 38 2 n89 cs93, .box gb49 26 [.slice A27 n28 c29, .slice A32 n33 c34, .slice A37 n38 c39], .own (.slice A27 n28 c29) 58 2 n28 (r25.terms.flatMap enc_api_TermDef), .own (.slice A32 n33 c34) 61 2 n33 (r25.syms.flatMap enc_api_Sym), .own (.slice A37 n38 c39) 38 2 n38 cs42] : List Ent)) := perm_of_idx [] [0, 1, 2, 3, 4, 5, 6, 7, 8, 9] rfl rfl (by kernel_rfl)
          refine Calls.mono (trellisref11_Of_calls w1402 (Fl ([] : List Snap)) r25 r1306 x19 A27 n28 c29 A32 n33 c34 A37 n38 c39 A1389 n1390 c1391 (hL1403.argO (dk := k_api_TermDef) hp1404 [] rfl 7 rfl rfl (Ow.weak hL23.env.size h30) (me 2 rfl) (Cells.flat _)) (hL1403.argO (dk := k_api_Sym) hp1404 [] rfl 8 rfl rfl (Ow.weak hL23.env.size h35) (me 2 rfl) (Cells.flat _)) (hL1403.argO (dk := k_api_Prod) hp1404 [] rfl 9 rfl rfl (Ow.weak hL23.env.size h40) (me 1 rfl) hC43) (hL1403.argO (dk := k_api_Ref) hp1404 [] rfl 0 rfl rfl (Ow.weak hL1387.env.size h1392) (me 2 rfl) (Cells.flat _)) (hL1403.hFl (Sl := ([] : List Snap)) hp1404 (sels [] rfl)) (hL1403.into hp1404 (Fl ([] : List Snap))) r1319 hv1320) ?_
          rintro _ w1405 ⟨rfl, hM1406⟩
          have hL1407 := hL1403.call hp1404 hM1406
          refine ⟨_, _, _, rfl, hL1407, ?_⟩
          refine ⟨sels [1, 2, 3, 4, 5, 6, 7, 8, 9] rfl, sels [0, 1, 2, 3] rfl, ?_⟩
          refine wf_v 5 rfl (v_assign rfl) gn rfl hns (by kernel_rfl) (by kernel_rfl) rfl rfl ?_
          refine wf_end (by kernel_rfl) ?_
          refine g_seq (c := trellislaw11_FirstOf_c37) rfl ?_
          refine g_seq (c := trellislaw11_FirstOf_c38) rfl ?_
          refine g_region (c := trellislaw11_FirstOf_c40) rfl rfl ?_
          refine wl_v 0 rfl (v_ldB [.slice A78 n79 c80, .slice A83 n84 c85, .slice A88 n89 c90] 2 ld_26 rfl rfl rfl rfl) gn rfl ?_
          refine wl_v 1 rfl (v_move rfl) gn rfl ?_
          refine wl_v 2 rfl (v_move rfl) gn rfl ?_
          obtain ⟨r1411, hv1412, h⟩ := h
          refine wl_s 3 rfl (s_call [.agg #[.slice A78 n79 c80, .slice A83 n84 c85, .slice A88 n89 c90], .slice A719 n720 c721, .int .u64 x19] rfl Try.func13 rfl rfl rfl fun w1408 hL1409 => ?_) gn
          have hp1410 : List.Perm ([.own (.slice A1389 n1390 c1391) 36 3 n1390 (r1306.flatMap enc_api_Ref), .own (.slice A719 n720 c721) 36 3 n720 (x718.flatMap enc_api_Ref), .box gb100 26 [.slice A78 n79 c80, .slice A83 n84 c85, .slice A88 n89 c90], .own (.slice A78 n79 c80) 58 2 n79 (r76.terms.flatMap enc_api_TermDef), .own (.slice A83 n84 c85) 61 2 n84 (r76.syms.flatMap enc_api_Sym), .own (.slice A88 n89 c90) 38 2 n89 cs93, .box gb49 26 [.slice A27 n28 c29, .slice A32 n33 c34, .slice A37 n38 c39], .own (.slice A27 n28 c29) 58 2 n28 (r25.terms.flatMap enc_api_TermDef), .own (.slice A32 n33 c34) 61 2 n33 (r25.syms.flatMap enc_api_Sym), .own (.slice A37 n38 c39) 38 2 n38 cs42] : List Ent) (([] : List Ent) ++ ([.own (.slice A1389 n1390 c1391) 36 3 n1390 (r1306.flatMap enc_api_Ref), .own (.slice A719 n720 c721) 36 3 n720 (x718.flatMap enc_api_Ref), .box gb100 26 [.slice A78 n79 c80, .slice A83 n84 c85, .slice A88 n89 c90], .own (.slice A78 n79 c80) 58 2 n79 (r76.terms.flatMap enc_api_TermDef), .own (.slice A83 n84 c85) 61 2 n84 (r76.syms.flatMap enc_api_Sym), .own (.slice A88 n89 c90) 38 2 n89 cs93, .box gb49 26 [.slice A27 n28 c29, .slice A32 n33 c34, .slice A37 n38 c39], .own (.slice A27 n28 c29) 58 2 n28 (r25.terms.flatMap enc_api_TermDef), .own (.slice A32 n33 c34) 61 2 n33 (r25.syms.flatMap enc_api_Sym), .own (.slice A37 n38 c39) 38 2 n38 cs42] : List Ent)) := perm_of_idx [] [0, 1, 2, 3, 4, 5, 6, 7, 8, 9] rfl rfl (by kernel_rfl)
          refine Calls.mono (first_Of_calls w1408 (Fl ([] : List Snap)) r76 x718 x19 A78 n79 c80 A83 n84 c85 A88 n89 c90 A719 n720 c721 (hL1409.argO (dk := k_api_TermDef) hp1410 [] rfl 3 rfl rfl (Ow.weak hL74.env.size h81) (me 2 rfl) (Cells.flat _)) (hL1409.argO (dk := k_api_Sym) hp1410 [] rfl 4 rfl rfl (Ow.weak hL74.env.size h86) (me 2 rfl) (Cells.flat _)) (hL1409.argO (dk := k_api_Prod) hp1410 [] rfl 5 rfl rfl (Ow.weak hL74.env.size h91) (me 0 rfl) hC94) (hL1409.argO (dk := k_api_Ref) hp1410 [] rfl 1 rfl rfl h722 (me 2 rfl) (Cells.flat _)) (hL1409.hFl (Sl := ([] : List Snap)) hp1410 (sels [] rfl)) (hL1409.into hp1410 (Fl ([] : List Snap))) r1411 hv1412) ?_
          rintro _ w1413 ⟨rfl, hM1414⟩
          have hL1415 := hL1409.call hp1410 hM1414
          refine ⟨_, _, _, rfl, hL1415, ?_⟩
          refine wl_v 4 rfl (v_move rfl) gn rfl ?_
          refine wl_v 5 rfl (v_bin rfl rfl rfl) gn rfl ?_
          refine w_end 6 rfl ?_
          by_cases hp1416 : r1411 = r1319
          · have h := if_pos' hp1416 h
            refine g_false (c := trellislaw11_FirstOf_c41) rfl _ rfl ((eqib hp1416)) ?_
            refine g_skip (c := trellislaw11_FirstOf_c43) rfl ?_
            refine g_seq (c := trellislaw11_FirstOf_c39) rfl ?_
            refine g_seq (c := trellislaw11_FirstOf_c44) rfl ?_
            refine g_region (c := trellislaw11_FirstOf_c46) rfl rfl ?_
            refine wl_v 0 rfl (v_assign rfl) gn rfl ?_
            refine w_end 1 rfl ?_
            refine g_block (c := trellislaw11_FirstOf_c47) rfl ?_
            refine g_loop (c := trellislaw11_FirstOf_c48) rfl ?_
            have key3 : ∀ s, Rounds (fun (s : Int × (List api_Prod)) o => trellislaw11_FirstOf_b3 r76 x718 x19 s.1 s.2 o) s o1 → (fun (s : Int × (List api_Prod)) => ∀ (A1568 : Option Addr) (n1569 : Nat) (c1570 : Nat) (h1571 : Ow w.heap.size A1568 n1569 c1570 s.2) (cs1572 : List Value) (hC1573 : Cells k_api_Prod (Sm w.heap.size F w95 sb99).w (Sm w.heap.size F w95 sb99).av s.2 cs1572), G (trellislaw11_FirstOf_C w F r) [.code trellislaw11_FirstOf_c49, .inLoop trellislaw11_FirstOf_c49, .inBlock 2, .code trellislaw11_FirstOf_c45] [(2, .int .u64 x19), (10, .pointer (some ⟨gb100, 0, none⟩)), (11, .slice A719 n720 c721), (13, .int .i64 s.1)] [.own (.slice A719 n720 c721) 36 3 n720 (x718.flatMap enc_api_Ref), .box gb100 26 [.slice A78 n79 c80, .slice A83 n84 c85, .slice A1568 n1569 c1570], .own (.slice A78 n79 c80) 58 2 n79 (r76.terms.flatMap enc_api_TermDef), .own (.slice A83 n84 c85) 61 2 n84 (r76.syms.flatMap enc_api_Sym), .own (.slice A1568 n1569 c1570) 38 2 n1569 cs1572] [Sm w.heap.size F w95 sb99, Sm w.heap.size F w44 sb48, Sm w.heap.size F w [], St w []]) s := by
              intro s hs
              refine Rounds.ind (mot := (fun (s : Int × (List api_Prod)) => ∀ (A1568 : Option Addr) (n1569 : Nat) (c1570 : Nat) (h1571 : Ow w.heap.size A1568 n1569 c1570 s.2) (cs1572 : List Value) (hC1573 : Cells k_api_Prod (Sm w.heap.size F w95 sb99).w (Sm w.heap.size F w95 sb99).av s.2 cs1572), G (trellislaw11_FirstOf_C w F r) [.code trellislaw11_FirstOf_c49, .inLoop trellislaw11_FirstOf_c49, .inBlock 2, .code trellislaw11_FirstOf_c45] [(2, .int .u64 x19), (10, .pointer (some ⟨gb100, 0, none⟩)), (11, .slice A719 n720 c721), (13, .int .i64 s.1)] [.own (.slice A719 n720 c721) 36 3 n720 (x718.flatMap enc_api_Ref), .box gb100 26 [.slice A78 n79 c80, .slice A83 n84 c85, .slice A1568 n1569 c1570], .own (.slice A78 n79 c80) 58 2 n79 (r76.terms.flatMap enc_api_TermDef), .own (.slice A83 n84 c85) 61 2 n84 (r76.syms.flatMap enc_api_Sym), .own (.slice A1568 n1569 c1570) 38 2 n1569 cs1572] [Sm w.heap.size F w95 sb99, Sm w.heap.size F w44 sb48, Sm w.heap.size F w [], St w []])) ?_ hs
              clear hs s
              intro s o2 h hO2
              obtain ⟨x1566, x1567⟩ := s
              show ∀ (A1568 : Option Addr) (n1569 : Nat) (c1570 : Nat) (h1571 : Ow w.heap.size A1568 n1569 c1570 x1567) (cs1572 : List Value) (hC1573 : Cells k_api_Prod (Sm w.heap.size F w95 sb99).w (Sm w.heap.size F w95 sb99).av x1567 cs1572), G (trellislaw11_FirstOf_C w F r) [.code trellislaw11_FirstOf_c49, .inLoop trellislaw11_FirstOf_c49, .inBlock 2, .code trellislaw11_FirstOf_c45] [(2, .int .u64 x19), (10, .pointer (some ⟨gb100, 0, none⟩)), (11, .slice A719 n720 c721), (13, .int .i64 x1566)] [.own (.slice A719 n720 c721) 36 3 n720 (x718.flatMap enc_api_Ref), .box gb100 26 [.slice A78 n79 c80, .slice A83 n84 c85, .slice A1568 n1569 c1570], .own (.slice A78 n79 c80) 58 2 n79 (r76.terms.flatMap enc_api_TermDef), .own (.slice A83 n84 c85) 61 2 n84 (r76.syms.flatMap enc_api_Sym), .own (.slice A1568 n1569 c1570) 38 2 n1569 cs1572] [Sm w.heap.size F w95 sb99, Sm w.heap.size F w44 sb48, Sm w.heap.size F w [], St w []]
              intro A1568 n1569 c1570 h1571 cs1572 hC1573
              have h : trellislaw11_FirstOf_b3 r76 x718 x19 x1566 x1567 o2 := h
              unfold trellislaw11_FirstOf_b3 at h
              refine g_seq (c := trellislaw11_FirstOf_c49) rfl ?_
              refine g_seq (c := trellislaw11_FirstOf_c50) rfl ?_
              refine g_region (c := trellislaw11_FirstOf_c52) rfl rfl ?_
              refine wl_v 0 rfl (v_move rfl) gn rfl ?_
              refine wl_v 1 rfl (v_fldB fo_26_2 rfl) gn rfl ?_
              refine wl_v 2 rfl (v_ldB1 1 ld_24 rfl rfl rfl) gn rfl ?_
              refine wl_v 3 rfl (v_lenQ un_24 rfl h1571.hq) gn rfl ?_
              refine wl_v 4 rfl (v_bin rfl rfl rfl) gn rfl ?_
              refine w_end 5 rfl ?_
              by_cases hp1722 : x1566 < (x1567.length : Int)
              · have h := if_pos' hp1722 h
                refine g_true (c := trellislaw11_FirstOf_c53) rfl _ rfl ((decide_eq_true hp1722)) ?_
                refine g_skip (c := trellislaw11_FirstOf_c54) rfl ?_
                refine g_seq (c := trellislaw11_FirstOf_c51) rfl ?_
                refine g_block (c := trellislaw11_FirstOf_c56) rfl ?_
                obtain ⟨hb1723, h⟩ := h
                obtain ⟨hb1740, h⟩ := h
                obtain ⟨x1750, hv1751, h⟩ := h
                have hns : Region.noSelect (Code.ops trellislaw11_FirstOf_c58) = true := by kernel_rfl
                refine g_drawF (c := trellislaw11_FirstOf_c58) [.own (.slice A719 n720 c721) 36 3 n720 (x718.flatMap enc_api_Ref), .box gb100 26 [.slice A78 n79 c80, .slice A83 n84 c85, .slice A1568 n1569 c1570], .own (.slice A78 n79 c80) 58 2 n79 (r76.terms.flatMap enc_api_TermDef), .own (.slice A83 n84 c85) 61 2 n84 (r76.syms.flatMap enc_api_Sym), .own (.slice A1568 n1569 c1570) 38 2 n1569 cs1572] [Sm w.heap.size F w95 sb99, Sm w.heap.size F w44 sb48, Sm w.heap.size F w [], St w []] [20] 21 rfl rfl mix rfl (.cons_cons _ (.cons_cons _ (.cons_cons _ (.cons_cons _ (.cons_cons _ (.slnil)))))) (sels [0, 1, 2, 3] rfl) ?_
                refine wf_v 0 rfl (v_fldB fo_26_2 rfl) gn rfl hns (by kernel_rfl) (by kernel_rfl) (by kernel_rfl) rfl ?_
                refine wf_v 1 rfl (v_ldB1 1 ld_24 rfl rfl rfl) gn rfl hns (by kernel_rfl) (by kernel_rfl) (by kernel_rfl) rfl ?_
                refine wf_v 2 rfl (v_move rfl) gn rfl hns (by kernel_rfl) (by kernel_rfl) (by kernel_rfl) rfl ?_
                refine wf_v 3 rfl (v_fldB fo_26_2 rfl) gn rfl hns (by kernel_rfl) (by kernel_rfl) (by kernel_rfl) rfl ?_
                refine wf_v 4 rfl (v_ldB1 1 ld_24 rfl rfl rfl) gn rfl hns (by kernel_rfl) (by kernel_rfl) (by kernel_rfl) rfl ?_
                refine wf_v 5 rfl (v_move rfl) gn rfl hns (by kernel_rfl) (by kernel_rfl) (by kernel_rfl) rfl ?_
                obtain ⟨ce1785, hK1786, ht1787, hg1788⟩ := Cells.get hC1573 hb1723
                obtain ⟨A1789, n1790, c1791, rfl, h1792⟩ := hK1786
                refine wf_v 6 rfl (v_idxO slE_24 rfl rfl h1571 hb1723) gn rfl hns (by kernel_rfl) (by kernel_rfl) (by kernel_rfl) rfl ?_
                refine wf_v 7 rfl (v_fldA fo_38_1 rfl) gn rfl hns (by kernel_rfl) (by kernel_rfl) (by kernel_rfl) rfl ?_
                refine wf_v 8 rfl (v_ldO1 (.slice A1789 n1790 c1791) 4 ld_27 rfl rfl (hg1788 1 _ rfl)) gn rfl hns (by kernel_rfl) (by kernel_rfl) (by kernel_rfl) rfl ?_
                refine wf_v 9 rfl (v_fldB fo_26_2 rfl) gn rfl hns (by kernel_rfl) (by kernel_rfl) (by kernel_rfl) rfl ?_
                refine wf_v 10 rfl (v_ldB1 1 ld_24 rfl rfl rfl) gn rfl hns (by kernel_rfl) (by kernel_rfl) (by kernel_rfl) rfl ?_
                refine wf_v 11 rfl (v_move rfl) gn rfl hns (by kernel_rfl) (by kernel_rfl) (by kernel_rfl) rfl ?_
                obtain ⟨ce1793, hK1794, ht1795, hg1796⟩ := Cells.get hC1573 hb1723
                obtain ⟨A1797, n1798, c1799, rfl, h1800⟩ := hK1794
                refine wf_v 12 rfl (v_idxO slE_24 rfl rfl h1571 hb1723) gn rfl hns (by kernel_rfl) (by kernel_rfl) (by kernel_rfl) rfl ?_
                refine wf_v 13 rfl (v_fldA fo_38_1 rfl) gn rfl hns (by kernel_rfl) (by kernel_rfl) (by kernel_rfl) rfl ?_
                refine wf_v 14 rfl (v_ldO1 (.slice A1797 n1798 c1799) 4 ld_27 rfl rfl (hg1796 1 _ rfl)) gn rfl hns (by kernel_rfl) (by kernel_rfl) (by kernel_rfl) rfl ?_
                refine wf_v 15 rfl (v_lenQ un_27 rfl h1800.hq) gn rfl hns (by kernel_rfl) (by kernel_rfl) (by kernel_rfl) rfl ?_
                refine wf_v 16 rfl (v_quo rfl rfl (by decide)) gn rfl hns (by kernel_rfl) (by kernel_rfl) (by kernel_rfl) rfl ?_
                have h1801 := Rw.cutHi (hv := w64 (Int.tdiv (((ix x1567 x1566).rhs).length : Int) 2)) h1792 (by have q := hb1740; have q1 := h1792.hq; have q2 := h1792.hn; omega)
                refine wf_v 17 rfl (v_cutHi (i := w64 (Int.tdiv (((ix x1567 x1566).rhs).length : Int) 2)) slE_27 rfl rfl (by have q := hb1740; have q1 := h1792.hq; have q2 := h1792.hn; omega) h1792.hn rfl) gn rfl hns (by kernel_rfl) (by kernel_rfl) (by kernel_rfl) rfl ?_
                obtain ⟨ce1802, hK1803, ht1804, hg1805⟩ := Cells.get hC1573 hb1723
                obtain ⟨A1806, n1807, c1808, rfl, h1809⟩ := hK1803
                refine wf_v 18 rfl (v_idxO slE_24 rfl rfl h1571 hb1723) gn rfl hns (by kernel_rfl) (by kernel_rfl) (by kernel_rfl) rfl ?_
                refine wf_v 19 rfl (v_fldA fo_38_1 rfl) gn rfl hns (by kernel_rfl) (by kernel_rfl) (by kernel_rfl) rfl ?_
                obtain ⟨cs1811, hc1812, hC1813⟩ := Cells.put (dk := k_api_Prod) (z := ({ (ix x1567 x1566) with rhs := (((ix x1567 x1566).rhs).take (w64 (Int.tdiv (((ix x1567 x1566).rhs).length : Int) 2) : Int).toNat) })) (o := 1) (vs := [.slice A1789 ((w64 (Int.tdiv (((ix x1567 x1566).rhs).length : Int) 2) : Int).toNat) c1791]) (ce' := [.int .i64 ((ix x1567 x1566).lhs), .slice A1789 ((w64 (Int.tdiv (((ix x1567 x1566).rhs).length : Int) 2) : Int).toNat) c1791]) hC1573 hb1723 ht1804 rfl (Nat.le_of_ble_eq_true rfl) ⟨A1789, (w64 (Int.tdiv (((ix x1567 x1566).rhs).length : Int) 2) : Int).toNat, c1791, rfl, h1801⟩
                rw [← hv1751] at hC1813
                refine wf_all [20] (by kernel_rfl) rfl ⟨on_l 20 rfl gn rfl (s_stC (dk := k_api_Prod) (o := 1) (vs := [.slice A1789 ((w64 (Int.tdiv (((ix x1567 x1566).rhs).length : Int) 2) : Int).toNat) c1791]) (i := x1566) (ys := x1750) 4 sz_27 rfl rfl rfl rfl rfl h1571 hC1573 hb1723 rfl hc1812 rfl hv1751 fun h1810 => ?_), trivial⟩
                unfold NxL
                refine wf_end (by kernel_rfl) ?_
                refine g_inBlock ?_
                refine g_region (c := trellislaw11_FirstOf_c57) rfl rfl ?_
                refine wl_v 0 rfl (v_move rfl) gn rfl ?_
                refine wl_v 1 rfl (v_bin rfl rfl rfl) gn rfl ?_
                refine wl_v 2 rfl (v_assign rfl) gn rfl ?_
                refine w_end 3 rfl ?_
                refine g_inLoop ?_
                have ih := Out.inl hO2 h
                exact g_go [0, 1, 2, 3] (ih A1568 n1569 c1570 h1810 cs1811 hC1813) ⟨rfl, rfl, rfl, rfl, trivial⟩ (.cons_cons _ (.cons_cons _ (.cons_cons _ (.cons_cons _ (.cons_cons _ (.slnil)))))) rfl
              · have h := if_neg' hp1722 h
                refine g_false (c := trellislaw11_FirstOf_c53) rfl _ rfl ((decide_eq_false hp1722)) ?_
                refine g_exit (c := trellislaw11_FirstOf_c55) [.code trellislaw11_FirstOf_c45] rfl rfl ?_
                refine g_seq (c := trellislaw11_FirstOf_c45) rfl ?_
                refine g_region (c := trellislaw11_FirstOf_c59) rfl rfl ?_
                refine wl_v 0 rfl (v_ldB [.slice A78 n79 c80, .slice A83 n84 c85, .slice A1568 n1569 c1570] 1 ld_26 rfl rfl rfl rfl) gn rfl ?_
                obtain ⟨r1817, hv1818, h⟩ := h
                refine wl_s 1 rfl (s_call [.agg #[.slice A78 n79 c80, .slice A83 n84 c85, .slice A1568 n1569 c1570]] rfl Try.func8 rfl rfl rfl fun w1814 hL1815 => ?_) gn
                have hp1816 : List.Perm ([.own (.slice A719 n720 c721) 36 3 n720 (x718.flatMap enc_api_Ref), .box gb100 26 [.slice A78 n79 c80, .slice A83 n84 c85, .slice A1568 n1569 c1570], .own (.slice A78 n79 c80) 58 2 n79 (r76.terms.flatMap enc_api_TermDef), .own (.slice A83 n84 c85) 61 2 n84 (r76.syms.flatMap enc_api_Sym), .own (.slice A1568 n1569 c1570) 38 2 n1569 cs1572] : List Ent) (([] : List Ent) ++ ([.own (.slice A719 n720 c721) 36 3 n720 (x718.flatMap enc_api_Ref), .box gb100 26 [.slice A78 n79 c80, .slice A83 n84 c85, .slice A1568 n1569 c1570], .own (.slice A78 n79 c80) 58 2 n79 (r76.terms.flatMap enc_api_TermDef), .own (.slice A83 n84 c85) 61 2 n84 (r76.syms.flatMap enc_api_Sym), .own (.slice A1568 n1569 c1570) 38 2 n1569 cs1572] : List Ent)) := perm_of_idx [] [0, 1, 2, 3, 4] rfl rfl (by kernel_rfl)
                refine Calls.mono (trellislaw11_twin_calls w1814 (Fl ([] : List Snap)) (⟨r76.terms, r76.syms, x1567⟩ : api_Gram) A78 n79 c80 A83 n84 c85 A1568 n1569 c1570 (hL1815.argO (dk := k_api_TermDef) hp1816 [] rfl 2 rfl rfl (Ow.weak hL74.env.size h81) (me 2 rfl) (Cells.flat _)) (hL1815.argO (dk := k_api_Sym) hp1816 [] rfl 3 rfl rfl (Ow.weak hL74.env.size h86) (me 2 rfl) (Cells.flat _)) (hL1815.argO (dk := k_api_Prod) hp1816 [] rfl 4 rfl rfl h1571 (me 0 rfl) hC1573) (hL1815.hFl (Sl := ([] : List Snap)) hp1816 (sels [] rfl)) (hL1815.into hp1816 (Fl ([] : List Snap))) r1817 hv1818) ?_
                rintro _ w1836 ⟨A1819, n1820, c1821, A1824, n1825, c1826, A1829, n1830, c1831, cs1834, rfl, hM1837, h1822, h1827, h1832, hC1835⟩
                obtain ⟨sb1840, hL1838, hv1839⟩ := hL1815.callB (Sl := ([] : List Snap)) hp1816 hM1837 F (sels [] rfl) trivial
                have hC1835 : Cells k_api_Prod (Sm w.heap.size F w1836 sb1840).w (Sm w.heap.size F w1836 sb1840).av r1817.prods cs1834 := Cells.mono hv1839 hC1835
                refine ⟨_, _, _, rfl, hL1838, ?_⟩
                refine wl_v 2 rfl (v_move rfl) gn rfl ?_
                obtain ⟨r1844, hv1845, h⟩ := h
                refine wl_s 3 rfl (s_call [.slice A719 n720 c721] rfl Try.func9 rfl rfl rfl fun w1841 hL1842 => ?_) gn
                have hp1843 : List.Perm ([.own (.slice A1819 n1820 c1821) 58 2 n1820 (r1817.terms.flatMap enc_api_TermDef), .own (.slice A1824 n1825 c1826) 61 2 n1825 (r1817.syms.flatMap enc_api_Sym), .own (.slice A1829 n1830 c1831) 38 2 n1830 cs1834, .own (.slice A719 n720 c721) 36 3 n720 (x718.flatMap enc_api_Ref), .box gb100 26 [.slice A78 n79 c80, .slice A83 n84 c85, .slice A1568 n1569 c1570], .own (.slice A78 n79 c80) 58 2 n79 (r76.terms.flatMap enc_api_TermDef), .own (.slice A83 n84 c85) 61 2 n84 (r76.syms.flatMap enc_api_Sym), .own (.slice A1568 n1569 c1570) 38 2 n1569 cs1572] : List Ent) (([] : List Ent) ++ ([.own (.slice A1819 n1820 c1821) 58 2 n1820 (r1817.terms.flatMap enc_api_TermDef), .own (.slice A1824 n1825 c1826) 61 2 n1825 (r1817.syms.flatMap enc_api_Sym), .own (.slice A1829 n1830 c1831) 38 2 n1830 cs1834, .own (.slice A719 n720 c721) 36 3 n720 (x718.flatMap enc_api_Ref), .box gb100 26 [.slice A78 n79 c80, .slice A83 n84 c85, .slice A1568 n1569 c1570], .own (.slice A78 n79 c80) 58 2 n79 (r76.terms.flatMap enc_api_TermDef), .own (.slice A83 n84 c85) 61 2 n84 (r76.syms.flatMap enc_api_Sym), .own (.slice A1568 n1569 c1570) 38 2 n1569 cs1572] : List Ent)) := perm_of_idx [] [0, 1, 2, 3, 4, 5, 6, 7] rfl rfl (by kernel_rfl)
                refine Calls.mono (trellislaw11_twinRow_calls w1841 (Fl ([] : List Snap)) x718 A719 n720 c721 (hL1842.argO (dk := k_api_Ref) hp1843 [] rfl 3 rfl rfl h722 (me 3 rfl) (Cells.flat _)) (hL1842.hFl (Sl := ([] : List Snap)) hp1843 (sels [] rfl)) (hL1842.into hp1843 (Fl ([] : List Snap))) r1844 hv1845) ?_
                rintro _ w1851 ⟨A1846, n1847, c1848, rfl, hM1852, h1849⟩
                have hL1853 := hL1842.call hp1843 hM1852
                refine ⟨_, _, _, rfl, hL1853, ?_⟩
                refine wl_v 4 rfl (v_move rfl) gn rfl ?_
                obtain ⟨r1857, hv1858, h⟩ := h
                refine wl_s 5 rfl (s_call [.agg #[.slice A1819 n1820 c1821, .slice A1824 n1825 c1826, .slice A1829 n1830 c1831], .slice A1846 n1847 c1848, .int .u64 x19] rfl Try.func10 rfl rfl rfl fun w1854 hL1855 => ?_) gn
                have hp1856 : List.Perm ([.own (.slice A1846 n1847 c1848) 36 3 n1847 (r1844.flatMap enc_api_Ref), .own (.slice A1819 n1820 c1821) 58 2 n1820 (r1817.terms.flatMap enc_api_TermDef), .own (.slice A1824 n1825 c1826) 61 2 n1825 (r1817.syms.flatMap enc_api_Sym), .own (.slice A1829 n1830 c1831) 38 2 n1830 cs1834, .own (.slice A719 n720 c721) 36 3 n720 (x718.flatMap enc_api_Ref), .box gb100 26 [.slice A78 n79 c80, .slice A83 n84 c85, .slice A1568 n1569 c1570], .own (.slice A78 n79 c80) 58 2 n79 (r76.terms.flatMap enc_api_TermDef), .own (.slice A83 n84 c85) 61 2 n84 (r76.syms.flatMap enc_api_Sym), .own (.slice A1568 n1569 c1570) 38 2 n1569 cs1572] : List Ent) (([] : List Ent) ++ ([.own (.slice A1846 n1847 c1848) 36 3 n1847 (r1844.flatMap enc_api_Ref), .own (.slice A1819 n1820 c1821) 58 2 n1820 (r1817.terms.flatMap enc_api_TermDef), .own (.slice A1824 n1825 c1826) 61 2 n1825 (r1817.syms.flatMap enc_api_Sym), .own (.slice A1829 n1830 c1831) 38 2 n1830 cs1834, .own (.slice A719 n720 c721) 36 3 n720 (x718.flatMap enc_api_Ref), .box gb100 26 [.slice A78 n79 c80, .slice A83 n84 c85, .slice A1568 n1569 c1570], .own (.slice A78 n79 c80) 58 2 n79 (r76.terms.flatMap enc_api_TermDef), .own (.slice A83 n84 c85) 61 2 n84 (r76.syms.flatMap enc_api_Sym), .own (.slice A1568 n1569 c1570) 38 2 n1569 cs1572] : List Ent)) := perm_of_idx [] [0, 1, 2, 3, 4, 5, 6, 7, 8] rfl rfl (by kernel_rfl)
                refine Calls.mono (trellisref11_Of_calls w1854 (Fl ([] : List Snap)) r1817 r1844 x19 A1819 n1820 c1821 A1824 n1825 c1826 A1829 n1830 c1831 A1846 n1847 c1848 (hL1855.argO (dk := k_api_TermDef) hp1856 [] rfl 1 rfl rfl (Ow.weak hL1815.env.size h1822) (me 3 rfl) (Cells.flat _)) (hL1855.argO (dk := k_api_Sym) hp1856 [] rfl 2 rfl rfl (Ow.weak hL1815.env.size h1827) (me 3 rfl) (Cells.flat _)) (hL1855.argO (dk := k_api_Prod) hp1856 [] rfl 3 rfl rfl (Ow.weak hL1815.env.size h1832) (me 0 rfl) hC1835) (hL1855.argO (dk := k_api_Ref) hp1856 [] rfl 0 rfl rfl (Ow.weak hL1842.env.size h1849) (me 3 rfl) (Cells.flat _)) (hL1855.hFl (Sl := ([] : List Snap)) hp1856 (sels [] rfl)) (hL1855.into hp1856 (Fl ([] : List Snap))) r1857 hv1858) ?_
                rintro _ w1859 ⟨rfl, hM1860⟩
                have hL1861 := hL1855.call hp1856 hM1860
                refine ⟨_, _, _, rfl, hL1861, ?_⟩
                refine wl_v 6 rfl (v_assign rfl) gn rfl ?_
                refine w_end 7 rfl ?_
                refine g_seq (c := trellislaw11_FirstOf_c60) rfl ?_
                refine g_region (c := trellislaw11_FirstOf_c61) rfl rfl ?_
                refine wl_v 0 rfl (v_ldB [.slice A78 n79 c80, .slice A83 n84 c85, .slice A1568 n1569 c1570] 5 ld_26 rfl rfl rfl rfl) gn rfl ?_
                refine wl_v 1 rfl (v_move rfl) gn rfl ?_
                refine wl_v 2 rfl (v_move rfl) gn rfl ?_
                obtain ⟨r1865, hv1866, h⟩ := h
                refine wl_s 3 rfl (s_call [.agg #[.slice A78 n79 c80, .slice A83 n84 c85, .slice A1568 n1569 c1570], .slice A719 n720 c721, .int .u64 x19] rfl Try.func13 rfl rfl rfl fun w1862 hL1863 => ?_) gn
                have hp1864 : List.Perm ([.own (.slice A1846 n1847 c1848) 36 3 n1847 (r1844.flatMap enc_api_Ref), .own (.slice A1819 n1820 c1821) 58 2 n1820 (r1817.terms.flatMap enc_api_TermDef), .own (.slice A1824 n1825 c1826) 61 2 n1825 (r1817.syms.flatMap enc_api_Sym), .own (.slice A1829 n1830 c1831) 38 2 n1830 cs1834, .own (.slice A719 n720 c721) 36 3 n720 (x718.flatMap enc_api_Ref), .box gb100 26 [.slice A78 n79 c80, .slice A83 n84 c85, .slice A1568 n1569 c1570], .own (.slice A78 n79 c80) 58 2 n79 (r76.terms.flatMap enc_api_TermDef), .own (.slice A83 n84 c85) 61 2 n84 (r76.syms.flatMap enc_api_Sym), .own (.slice A1568 n1569 c1570) 38 2 n1569 cs1572] : List Ent) (([] : List Ent) ++ ([.own (.slice A1846 n1847 c1848) 36 3 n1847 (r1844.flatMap enc_api_Ref), .own (.slice A1819 n1820 c1821) 58 2 n1820 (r1817.terms.flatMap enc_api_TermDef), .own (.slice A1824 n1825 c1826) 61 2 n1825 (r1817.syms.flatMap enc_api_Sym), .own (.slice A1829 n1830 c1831) 38 2 n1830 cs1834, .own (.slice A719 n720 c721) 36 3 n720 (x718.flatMap enc_api_Ref), .box gb100 26 [.slice A78 n79 c80, .slice A83 n84 c85, .slice A1568 n1569 c1570], .own (.slice A78 n79 c80) 58 2 n79 (r76.terms.flatMap enc_api_TermDef), .own (.slice A83 n84 c85) 61 2 n84 (r76.syms.flatMap enc_api_Sym), .own (.slice A1568 n1569 c1570) 38 2 n1569 cs1572] : List Ent)) := perm_of_idx [] [0, 1, 2, 3, 4, 5, 6, 7, 8] rfl rfl (by kernel_rfl)
                refine Calls.mono (first_Of_calls w1862 (Fl ([] : List Snap)) (⟨r76.terms, r76.syms, x1567⟩ : api_Gram) x718 x19 A78 n79 c80 A83 n84 c85 A1568 n1569 c1570 A719 n720 c721 (hL1863.argO (dk := k_api_TermDef) hp1864 [] rfl 6 rfl rfl (Ow.weak hL74.env.size h81) (me 3 rfl) (Cells.flat _)) (hL1863.argO (dk := k_api_Sym) hp1864 [] rfl 7 rfl rfl (Ow.weak hL74.env.size h86) (me 3 rfl) (Cells.flat _)) (hL1863.argO (dk := k_api_Prod) hp1864 [] rfl 8 rfl rfl h1571 (me 1 rfl) hC1573) (hL1863.argO (dk := k_api_Ref) hp1864 [] rfl 4 rfl rfl h722 (me 3 rfl) (Cells.flat _)) (hL1863.hFl (Sl := ([] : List Snap)) hp1864 (sels [] rfl)) (hL1863.into hp1864 (Fl ([] : List Snap))) r1865 hv1866) ?_
                rintro _ w1867 ⟨rfl, hM1868⟩
                have hL1869 := hL1863.call hp1864 hM1868
                refine ⟨_, _, _, rfl, hL1869, ?_⟩
                refine wl_v 4 rfl (v_move rfl) gn rfl ?_
                refine wl_v 5 rfl (v_bin rfl rfl rfl) gn rfl ?_
                refine wl_v 6 rfl (v_assign rfl) gn rfl ?_
                refine w_end 7 rfl ?_
                have h := Out.inr hO2 h
                have h := Out.inr hO1 h
                refine g_retR (c := trellislaw11_FirstOf_c62) [.bool (r1865 == r1857)] rfl Try.func3 rfl (.tmp rfl (.nil)) fun wr hLr => ?_
                have hMr : B.Loc w wr [] [St w []] := hLr.pick (rest := [.own (.slice A1846 n1847 c1848) 36 3 n1847 (r1844.flatMap enc_api_Ref), .own (.slice A1819 n1820 c1821) 58 2 n1820 (r1817.terms.flatMap enc_api_TermDef), .own (.slice A1824 n1825 c1826) 61 2 n1825 (r1817.syms.flatMap enc_api_Sym), .own (.slice A1829 n1830 c1831) 38 2 n1830 cs1834, .own (.slice A719 n720 c721) 36 3 n720 (x718.flatMap enc_api_Ref), .box gb100 26 [.slice A78 n79 c80, .slice A83 n84 c85, .slice A1568 n1569 c1570], .own (.slice A78 n79 c80) 58 2 n79 (r76.terms.flatMap enc_api_TermDef), .own (.slice A83 n84 c85) 61 2 n84 (r76.syms.flatMap enc_api_Sym), .own (.slice A1568 n1569 c1570) 38 2 n1569 cs1572]) (perm_of_idx [] [0, 1, 2, 3, 4, 5, 6, 7, 8] rfl rfl (by kernel_rfl)) (sels [4] rfl)
                have hMi : ∀ e ∈ ([] : List Ent), e ∈ ([.own (.slice A1846 n1847 c1848) 36 3 n1847 (r1844.flatMap enc_api_Ref), .own (.slice A1819 n1820 c1821) 58 2 n1820 (r1817.terms.flatMap enc_api_TermDef), .own (.slice A1824 n1825 c1826) 61 2 n1825 (r1817.syms.flatMap enc_api_Sym), .own (.slice A1829 n1830 c1831) 38 2 n1830 cs1834, .own (.slice A719 n720 c721) 36 3 n720 (x718.flatMap enc_api_Ref), .box gb100 26 [.slice A78 n79 c80, .slice A83 n84 c85, .slice A1568 n1569 c1570], .own (.slice A78 n79 c80) 58 2 n79 (r76.terms.flatMap enc_api_TermDef), .own (.slice A83 n84 c85) 61 2 n84 (r76.syms.flatMap enc_api_Sym), .own (.slice A1568 n1569 c1570) 38 2 n1569 cs1572] : List Ent) := sels [] rfl
                show trellislaw11_FirstOf_R w F  r (.returned (packV [.bool (r1865 == r1857)])) wr
                rw [h]
                exact ⟨rfl, hMr⟩
            exact g_go [0, 1, 2, 3] (key3 _ h A88 n89 c90 (Ow.weak hL74.env.size h91) cs93 hC94) ⟨rfl, rfl, rfl, rfl, trivial⟩ (.cons _ (.cons_cons _ (.cons_cons _ (.cons_cons _ (.cons_cons _ (.cons_cons _ (.cons _ (.cons _ (.cons _ (.cons _ (.slnil))))))))))) rfl
          · have h := if_neg' hp1416 h
            refine g_true (c := trellislaw11_FirstOf_c41) rfl _ rfl ((neib hp1416)) ?_
            refine g_seq (c := trellislaw11_FirstOf_c42) rfl ?_
            refine g_region (c := trellislaw11_FirstOf_c63) rfl rfl ?_
            refine wl_v 0 rfl (v_assign rfl) gn rfl ?_
            refine w_end 1 rfl ?_
            have h := Out.inr hO1 h
            refine g_retR (c := trellislaw11_FirstOf_c64) [.bool false] rfl Try.func3 rfl (.tmp rfl (.nil)) fun wr hLr => ?_
            have hMr : B.Loc w wr [] [St w []] := hLr.pick (rest := [.own (.slice A1389 n1390 c1391) 36 3 n1390 (r1306.flatMap enc_api_Ref), .own (.slice A719 n720 c721) 36 3 n720 (x718.flatMap enc_api_Ref), .box gb100 26 [.slice A78 n79 c80, .slice A83 n84 c85, .slice A88 n89 c90], .own (.slice A78 n79 c80) 58 2 n79 (r76.terms.flatMap enc_api_TermDef), .own (.slice A83 n84 c85) 61 2 n84 (r76.syms.flatMap enc_api_Sym), .own (.slice A88 n89 c90) 38 2 n89 cs93, .box gb49 26 [.slice A27 n28 c29, .slice A32 n33 c34, .slice A37 n38 c39], .own (.slice A27 n28 c29) 58 2 n28 (r25.terms.flatMap enc_api_TermDef), .own (.slice A32 n33 c34) 61 2 n33 (r25.syms.flatMap enc_api_Sym), .own (.slice A37 n38 c39) 38 2 n38 cs42]) (perm_of_idx [] [0, 1, 2, 3, 4, 5, 6, 7, 8, 9] rfl rfl (by kernel_rfl)) (sels [3] rfl)
            have hMi : ∀ e ∈ ([] : List Ent), e ∈ ([.own (.slice A1389 n1390 c1391) 36 3 n1390 (r1306.flatMap enc_api_Ref), .own (.slice A719 n720 c721) 36 3 n720 (x718.flatMap enc_api_Ref), .box gb100 26 [.slice A78 n79 c80, .slice A83 n84 c85, .slice A88 n89 c90], .own (.slice A78 n79 c80) 58 2 n79 (r76.terms.flatMap enc_api_TermDef), .own (.slice A83 n84 c85) 61 2 n84 (r76.syms.flatMap enc_api_Sym), .own (.slice A88 n89 c90) 38 2 n89 cs93, .box gb49 26 [.slice A27 n28 c29, .slice A32 n33 c34, .slice A37 n38 c39], .own (.slice A27 n28 c29) 58 2 n28 (r25.terms.flatMap enc_api_TermDef), .own (.slice A32 n33 c34) 61 2 n33 (r25.syms.flatMap enc_api_Sym), .own (.slice A37 n38 c39) 38 2 n38 cs42] : List Ent) := sels [] rfl
            show trellislaw11_FirstOf_R w F  r (.returned (packV [.bool false])) wr
            rw [h]
            exact ⟨rfl, hMr⟩
      exact g_go [0, 1, 2, 3] (key2 _ h A107 n108 c109 (Ow.weak hL103.env.size h110)) ⟨rfl, rfl, rfl, rfl, rfl, trivial⟩ (.cons_cons _ (.cons_cons _ (.cons_cons _ (.cons_cons _ (.cons_cons _ (.cons_cons _ (.cons_cons _ (.cons_cons _ (.cons_cons _ (.slnil)))))))))) rfl
  refine g_region (c := trellislaw11_FirstOf_c15) rfl rfl ?_
  refine wl_v 0 rfl (v_ldB [.slice A78 n79 c80, .slice A83 n84 c85, .slice A88 n89 c90] 1 ld_26 rfl rfl rfl rfl) gn rfl ?_
  refine wl_v 1 rfl (v_move rfl) gn rfl ?_
  refine wl_v 2 rfl (v_move rfl) gn rfl ?_
  obtain ⟨r1873, hv1874, h⟩ := h
  refine wl_s 3 rfl (s_call [.agg #[.slice A78 n79 c80, .slice A83 n84 c85, .slice A88 n89 c90], .slice A107 n108 c109, .int .u64 x19] rfl Try.func13 rfl rfl rfl fun w1870 hL1871 => ?_) gn
  have hp1872 : List.Perm ([.own (.slice A107 n108 c109) 36 3 n108 (r105.flatMap enc_api_Ref), .box gb100 26 [.slice A78 n79 c80, .slice A83 n84 c85, .slice A88 n89 c90], .own (.slice A78 n79 c80) 58 2 n79 (r76.terms.flatMap enc_api_TermDef), .own (.slice A83 n84 c85) 61 2 n84 (r76.syms.flatMap enc_api_Sym), .own (.slice A88 n89 c90) 38 2 n89 cs93, .own (.slice A56 n57 c58) 36 3 n57 (r54.flatMap enc_api_Ref), .box gb49 26 [.slice A27 n28 c29, .slice A32 n33 c34, .slice A37 n38 c39], .own (.slice A27 n28 c29) 58 2 n28 (r25.terms.flatMap enc_api_TermDef), .own (.slice A32 n33 c34) 61 2 n33 (r25.syms.flatMap enc_api_Sym), .own (.slice A37 n38 c39) 38 2 n38 cs42, .box gb20 26 [.slice A2 n3 c4, .slice A6 n7 c8, .slice A10 n11 c12]] : List Ent) (([] : List Ent) ++ ([.own (.slice A107 n108 c109) 36 3 n108 (r105.flatMap enc_api_Ref), .box gb100 26 [.slice A78 n79 c80, .slice A83 n84 c85, .slice A88 n89 c90], .own (.slice A78 n79 c80) 58 2 n79 (r76.terms.flatMap enc_api_TermDef), .own (.slice A83 n84 c85) 61 2 n84 (r76.syms.flatMap enc_api_Sym), .own (.slice A88 n89 c90) 38 2 n89 cs93, .own (.slice A56 n57 c58) 36 3 n57 (r54.flatMap enc_api_Ref), .box gb49 26 [.slice A27 n28 c29, .slice A32 n33 c34, .slice A37 n38 c39], .own (.slice A27 n28 c29) 58 2 n28 (r25.terms.flatMap enc_api_TermDef), .own (.slice A32 n33 c34) 61 2 n33 (r25.syms.flatMap enc_api_Sym), .own (.slice A37 n38 c39) 38 2 n38 cs42, .box gb20 26 [.slice A2 n3 c4, .slice A6 n7 c8, .slice A10 n11 c12]] : List Ent)) := perm_of_idx [] [0, 1, 2, 3, 4, 5, 6, 7, 8, 9, 10] rfl rfl (by kernel_rfl)
  refine Calls.mono (first_Of_calls w1870 (Fl ([] : List Snap)) r76 r105 x19 A78 n79 c80 A83 n84 c85 A88 n89 c90 A107 n108 c109 (hL1871.argO (dk := k_api_TermDef) hp1872 [] rfl 2 rfl rfl (Ow.weak hL74.env.size h81) (me 2 rfl) (Cells.flat _)) (hL1871.argO (dk := k_api_Sym) hp1872 [] rfl 3 rfl rfl (Ow.weak hL74.env.size h86) (me 2 rfl) (Cells.flat _)) (hL1871.argO (dk := k_api_Prod) hp1872 [] rfl 4 rfl rfl (Ow.weak hL74.env.size h91) (me 0 rfl) hC94) (hL1871.argO (dk := k_api_Ref) hp1872 [] rfl 0 rfl rfl (Ow.weak hL103.env.size h110) (me 2 rfl) (Cells.flat _)) (hL1871.hFl (Sl := ([] : List Snap)) hp1872 (sels [] rfl)) (hL1871.into hp1872 (Fl ([] : List Snap))) r1873 hv1874) ?_
  rintro _ w1875 ⟨rfl, hM1876⟩
  have hL1877 := hL1871.call hp1872 hM1876
  refine ⟨_, _, _, rfl, hL1877, ?_⟩
  refine wl_v 4 rfl (v_move rfl) gn rfl ?_
  refine wl_v 5 rfl (v_bin rfl rfl rfl) gn rfl ?_
  refine wl_v 6 rfl (v_move rfl) gn rfl ?_
  by_cases hp1878 : r1873 = r68
  · have h := if_pos' hp1878 h
    refine w_bool 32 rfl ((eqib hp1878)) ?_
    refine wl_v 7 rfl (v_ldB [.slice A78 n79 c80, .slice A83 n84 c85, .slice A88 n89 c90] 1 ld_26 rfl rfl rfl rfl) (gy 32 rfl rfl) rfl ?_
    refine wl_v 8 rfl (v_ldB [.slice A27 n28 c29, .slice A32 n33 c34, .slice A37 n38 c39] 6 ld_26 rfl rfl rfl rfl) (gy 32 rfl rfl) rfl ?_
    obtain ⟨r1882, hv1883, h⟩ := h
    refine wl_s 9 rfl (s_call [.agg #[.slice A78 n79 c80, .slice A83 n84 c85, .slice A88 n89 c90], .agg #[.slice A27 n28 c29, .slice A32 n33 c34, .slice A37 n38 c39]] rfl Try.func14 rfl rfl rfl fun w1879 hL1880 => ?_) (gy 32 rfl rfl)
    have hp1881 : List.Perm ([.own (.slice A107 n108 c109) 36 3 n108 (r105.flatMap enc_api_Ref), .box gb100 26 [.slice A78 n79 c80, .slice A83 n84 c85, .slice A88 n89 c90], .own (.slice A78 n79 c80) 58 2 n79 (r76.terms.flatMap enc_api_TermDef), .own (.slice A83 n84 c85) 61 2 n84 (r76.syms.flatMap enc_api_Sym), .own (.slice A88 n89 c90) 38 2 n89 cs93, .own (.slice A56 n57 c58) 36 3 n57 (r54.flatMap enc_api_Ref), .box gb49 26 [.slice A27 n28 c29, .slice A32 n33 c34, .slice A37 n38 c39], .own (.slice A27 n28 c29) 58 2 n28 (r25.terms.flatMap enc_api_TermDef), .own (.slice A32 n33 c34) 61 2 n33 (r25.syms.flatMap enc_api_Sym), .own (.slice A37 n38 c39) 38 2 n38 cs42, .box gb20 26 [.slice A2 n3 c4, .slice A6 n7 c8, .slice A10 n11 c12]] : List Ent) (([] : List Ent) ++ ([.own (.slice A107 n108 c109) 36 3 n108 (r105.flatMap enc_api_Ref), .box gb100 26 [.slice A78 n79 c80, .slice A83 n84 c85, .slice A88 n89 c90], .own (.slice A78 n79 c80) 58 2 n79 (r76.terms.flatMap enc_api_TermDef), .own (.slice A83 n84 c85) 61 2 n84 (r76.syms.flatMap enc_api_Sym), .own (.slice A88 n89 c90) 38 2 n89 cs93, .own (.slice A56 n57 c58) 36 3 n57 (r54.flatMap enc_api_Ref), .box gb49 26 [.slice A27 n28 c29, .slice A32 n33 c34, .slice A37 n38 c39], .own (.slice A27 n28 c29) 58 2 n28 (r25.terms.flatMap enc_api_TermDef), .own (.slice A32 n33 c34) 61 2 n33 (r25.syms.flatMap enc_api_Sym), .own (.slice A37 n38 c39) 38 2 n38 cs42, .box gb20 26 [.slice A2 n3 c4, .slice A6 n7 c8, .slice A10 n11 c12]] : List Ent)) := perm_of_idx [] [0, 1, 2, 3, 4, 5, 6, 7, 8, 9, 10] rfl rfl (by kernel_rfl)
    refine Calls.mono (trellislaw11_still_calls w1879 (Fl ([] : List Snap)) r76 r25 A78 n79 c80 A83 n84 c85 A88 n89 c90 A27 n28 c29 A32 n33 c34 A37 n38 c39 (hL1880.argO (dk := k_api_TermDef) hp1881 [] rfl 2 rfl rfl (Ow.weak hL74.env.size h81) (me 2 rfl) (Cells.flat _)) (hL1880.argO (dk := k_api_Sym) hp1881 [] rfl 3 rfl rfl (Ow.weak hL74.env.size h86) (me 2 rfl) (Cells.flat _)) (hL1880.argO (dk := k_api_Prod) hp1881 [] rfl 4 rfl rfl (Ow.weak hL74.env.size h91) (me 0 rfl) hC94) (hL1880.argO (dk := k_api_TermDef) hp1881 [] rfl 7 rfl rfl (Ow.weak hL23.env.size h30) (me 2 rfl) (Cells.flat _)) (hL1880.argO (dk := k_api_Sym) hp1881 [] rfl 8 rfl rfl (Ow.weak hL23.env.size h35) (me 2 rfl) (Cells.flat _)) (hL1880.argO (dk := k_api_Prod) hp1881 [] rfl 9 rfl rfl (Ow.weak hL23.env.size h40) (me 1 rfl) hC43) (hL1880.hFl (Sl := ([] : List Snap)) hp1881 (sels [] rfl)) (hL1880.into hp1881 (Fl ([] : List Snap))) r1882 hv1883) ?_
    rintro _ w1884 ⟨rfl, hM1885⟩
    have hL1886 := hL1880.call hp1881 hM1885
    refine ⟨_, _, _, rfl, hL1886, ?_⟩
    refine wl_v 10 rfl (v_not rfl) (gy 32 rfl rfl) rfl ?_
    refine wl_v 11 rfl (v_pick (b := false) rfl rfl) gn rfl ?_
    refine wl_v 12 rfl (v_move rfl) gn rfl ?_
    by_cases hp1887 : r1882 = true
    · have h := if_pos' hp1887 h
      refine w_bool 38 rfl ((nf hp1887)) ?_
      refine wl_v 13 rfl (v_move rfl) (gy 38 rfl rfl) rfl ?_
      refine wl_v 14 rfl (v_move rfl) (gy 38 rfl rfl) rfl ?_
      obtain ⟨r1891, hv1892, h⟩ := h
      refine wl_s 15 rfl (s_call [.slice A107 n108 c109, .slice A56 n57 c58] rfl Try.func15 rfl rfl rfl fun w1888 hL1889 => ?_) (gy 38 rfl rfl)
      have hp1890 : List.Perm ([.own (.slice A107 n108 c109) 36 3 n108 (r105.flatMap enc_api_Ref), .box gb100 26 [.slice A78 n79 c80, .slice A83 n84 c85, .slice A88 n89 c90], .own (.slice A78 n79 c80) 58 2 n79 (r76.terms.flatMap enc_api_TermDef), .own (.slice A83 n84 c85) 61 2 n84 (r76.syms.flatMap enc_api_Sym), .own (.slice A88 n89 c90) 38 2 n89 cs93, .own (.slice A56 n57 c58) 36 3 n57 (r54.flatMap enc_api_Ref), .box gb49 26 [.slice A27 n28 c29, .slice A32 n33 c34, .slice A37 n38 c39], .own (.slice A27 n28 c29) 58 2 n28 (r25.terms.flatMap enc_api_TermDef), .own (.slice A32 n33 c34) 61 2 n33 (r25.syms.flatMap enc_api_Sym), .own (.slice A37 n38 c39) 38 2 n38 cs42, .box gb20 26 [.slice A2 n3 c4, .slice A6 n7 c8, .slice A10 n11 c12]] : List Ent) (([] : List Ent) ++ ([.own (.slice A107 n108 c109) 36 3 n108 (r105.flatMap enc_api_Ref), .box gb100 26 [.slice A78 n79 c80, .slice A83 n84 c85, .slice A88 n89 c90], .own (.slice A78 n79 c80) 58 2 n79 (r76.terms.flatMap enc_api_TermDef), .own (.slice A83 n84 c85) 61 2 n84 (r76.syms.flatMap enc_api_Sym), .own (.slice A88 n89 c90) 38 2 n89 cs93, .own (.slice A56 n57 c58) 36 3 n57 (r54.flatMap enc_api_Ref), .box gb49 26 [.slice A27 n28 c29, .slice A32 n33 c34, .slice A37 n38 c39], .own (.slice A27 n28 c29) 58 2 n28 (r25.terms.flatMap enc_api_TermDef), .own (.slice A32 n33 c34) 61 2 n33 (r25.syms.flatMap enc_api_Sym), .own (.slice A37 n38 c39) 38 2 n38 cs42, .box gb20 26 [.slice A2 n3 c4, .slice A6 n7 c8, .slice A10 n11 c12]] : List Ent)) := perm_of_idx [] [0, 1, 2, 3, 4, 5, 6, 7, 8, 9, 10] rfl rfl (by kernel_rfl)
      refine Calls.mono (trellislaw11_stillRow_calls w1888 (Fl ([] : List Snap)) r105 r54 A107 n108 c109 A56 n57 c58 (hL1889.argO (dk := k_api_Ref) hp1890 [] rfl 0 rfl rfl (Ow.weak hL103.env.size h110) (me 2 rfl) (Cells.flat _)) (hL1889.argO (dk := k_api_Ref) hp1890 [] rfl 5 rfl rfl (Ow.weak hL52.env.size h59) (me 2 rfl) (Cells.flat _)) (hL1889.hFl (Sl := ([] : List Snap)) hp1890 (sels [] rfl)) (hL1889.into hp1890 (Fl ([] : List Snap))) r1891 hv1892) ?_
      rintro _ w1893 ⟨rfl, hM1894⟩
      have hL1895 := hL1889.call hp1890 hM1894
      refine ⟨_, _, _, rfl, hL1895, ?_⟩
      refine wl_v 16 rfl (v_not rfl) (gy 38 rfl rfl) rfl ?_
      refine wl_v 17 rfl (v_pick (b := false) rfl rfl) gn rfl ?_
      refine w_end 18 rfl ?_
      exact g_go [0, 1, 2, 3] (j1 (!r1891) h) ⟨rfl, rfl, rfl, rfl, rfl, trivial⟩ (.cons_cons _ (.cons_cons _ (.cons_cons _ (.cons_cons _ (.cons_cons _ (.cons _ (.cons_cons _ (.cons_cons _ (.cons_cons _ (.cons_cons _ (.cons _ (.slnil)))))))))))) rfl
    · have h := if_neg' hp1887 h
      refine w_bool 38 rfl ((nt (bf hp1887))) ?_
      refine wl_pass 13 rfl (ps 38 rfl rfl rfl) ?_
      refine wl_pass 14 rfl (ps 38 rfl rfl rfl) ?_
      refine wl_pass 15 rfl (ps 38 rfl rfl rfl) ?_
      refine wl_pass 16 rfl (ps 38 rfl rfl rfl) ?_
      refine wl_v 17 rfl (v_pick (b := true) rfl rfl) gn rfl ?_
      refine w_end 18 rfl ?_
      exact g_go [0, 1, 2, 3] (j1 true h) ⟨rfl, rfl, rfl, rfl, rfl, trivial⟩ (.cons_cons _ (.cons_cons _ (.cons_cons _ (.cons_cons _ (.cons_cons _ (.cons _ (.cons_cons _ (.cons_cons _ (.cons_cons _ (.cons_cons _ (.cons _ (.slnil)))))))))))) rfl
  · have h := if_neg' hp1878 h
    refine w_bool 32 rfl ((neib hp1878)) ?_
    refine wl_pass 7 rfl (ps 32 rfl rfl rfl) ?_
    refine wl_pass 8 rfl (ps 32 rfl rfl rfl) ?_
    refine wl_pass 9 rfl (ps 32 rfl rfl rfl) ?_
    refine wl_pass 10 rfl (ps 32 rfl rfl rfl) ?_
    refine wl_v 11 rfl (v_pick (b := true) rfl rfl) gn rfl ?_
    refine wl_v 12 rfl (v_move rfl) gn rfl ?_
    refine wl_pass 13 rfl (ps 38 rfl rfl rfl) ?_
    refine wl_pass 14 rfl (ps 38 rfl rfl rfl) ?_
    refine wl_pass 15 rfl (ps 38 rfl rfl rfl) ?_
    refine wl_pass 16 rfl (ps 38 rfl rfl rfl) ?_
    refine wl_v 17 rfl (v_pick (b := true) rfl rfl) gn rfl ?_
    refine w_end 18 rfl ?_
    exact g_go [0, 1, 2, 3] (j1 true h) ⟨rfl, rfl, rfl, rfl, rfl, trivial⟩ (.cons_cons _ (.cons_cons _ (.cons_cons _ (.cons_cons _ (.cons_cons _ (.cons _ (.cons_cons _ (.cons_cons _ (.cons_cons _ (.cons_cons _ (.cons _ (.slnil)))))))))))) rfl
noncomputable abbrev trellisref11_First_c0 : Code := bodyOf Try.f17
noncomputable abbrev trellisref11_First_c1 : Code := Code.fst trellisref11_First_c0
noncomputable abbrev trellisref11_First_c2 : Code := Code.snd trellisref11_First_c0
noncomputable abbrev trellisref11_First_c3 : Code := Code.fst trellisref11_First_c2
noncomputable abbrev trellisref11_First_c4 : Code := Code.snd trellisref11_First_c2
noncomputable abbrev trellisref11_First_c5 : Code := Code.fst trellisref11_First_c3
noncomputable abbrev trellisref11_First_c6 : Code := Code.snd trellisref11_First_c3
noncomputable abbrev trellisref11_First_c7 : Code := Code.fst trellisref11_First_c6
noncomputable abbrev trellisref11_First_c8 : Code := Code.snd trellisref11_First_c6
noncomputable abbrev trellisref11_First_c9 : Code := Code.fst trellisref11_First_c4
noncomputable abbrev trellisref11_First_c10 : Code := Code.snd trellisref11_First_c4
noncomputable abbrev trellisref11_First_c11 : Code := Code.fst trellisref11_First_c10
noncomputable abbrev trellisref11_First_c12 : Code := Code.snd trellisref11_First_c10
noncomputable abbrev trellisref11_First_c13 : Code := Code.fst trellisref11_First_c12
noncomputable abbrev trellisref11_First_c14 : Code := Code.snd trellisref11_First_c12
noncomputable abbrev trellisref11_First_c15 : Code := Code.fst trellisref11_First_c13
noncomputable abbrev trellisref11_First_c16 : Code := Code.snd trellisref11_First_c13
noncomputable abbrev trellisref11_First_c17 : Code := Code.fst trellisref11_First_c16
noncomputable abbrev trellisref11_First_c18 : Code := Code.fst trellisref11_First_c17
noncomputable abbrev trellisref11_First_c19 : Code := Code.fst trellisref11_First_c18
noncomputable abbrev trellisref11_First_c20 : Code := Code.snd trellisref11_First_c18
noncomputable abbrev trellisref11_First_c21 : Code := Code.fst trellisref11_First_c19
noncomputable abbrev trellisref11_First_c22 : Code := Code.snd trellisref11_First_c19
noncomputable abbrev trellisref11_First_c23 : Code := Code.fst trellisref11_First_c22
noncomputable abbrev trellisref11_First_c24 : Code := Code.snd trellisref11_First_c22
noncomputable abbrev trellisref11_First_c25 : Code := Code.fst trellisref11_First_c20
noncomputable abbrev trellisref11_First_c26 : Code := Code.snd trellisref11_First_c20
noncomputable abbrev trellisref11_First_c27 : Code := Code.fst trellisref11_First_c25
noncomputable abbrev trellisref11_First_c28 : Code := Code.fst trellisref11_First_c27
noncomputable abbrev trellisref11_First_c29 : Code := Code.snd trellisref11_First_c27
noncomputable abbrev trellisref11_First_c30 : Code := Code.fst trellisref11_First_c14
noncomputable abbrev trellisref11_First_c31 : Code := Code.snd trellisref11_First_c14
noncomputable abbrev trellisref11_First_c32 : Code := Code.fst trellisref11_First_c7
noncomputable abbrev trellisref11_First_c33 : Code := Code.snd trellisref11_First_c7
abbrev trellisref11_First_R (w : World) (F : Nat → Prop) (r : List Int) : Ending → World → Prop := fun e w' => ∃ A0 : Option Addr, ∃ n0 : Nat, ∃ c0 : Nat, e = .returned (.slice A0 n0 c0) ∧ B.Loc w w' [.own (.slice A0 n0 c0) 29 1 n0 (r.flatMap (eI .u64))] [St w []] ∧ Ow w.heap.size A0 n0 c0 r
noncomputable abbrev trellisref11_First_C (w : World) (F : Nat → Prop) (r : List Int) : Cx := ⟨Try.prog, 17, Try.f17, 34, trellisref11_First_R w F  r, w⟩
theorem trellisref11_First_calls (w : World) (F : Nat → Prop) (x1 : api_Gram) (A2 : Option Addr) (n3 : Nat) (c4 : Nat) (A6 : Option Addr) (n7 : Nat) (c8 : Nat) (A10 : Option Addr) (n11 : Nat) (c12 : Nat) (h5 : Rw k_api_TermDef w (St w []).av A2 n3 c4 x1.terms) (h9 : Rw k_api_Sym w (St w []).av A6 n7 c8 x1.syms) (h13 : Rw k_api_Prod w (St w []).av A10 n11 c12 x1.prods) (hF : ∀ b, F b → b < w.heap.size ∧ ∀ o ∈ ([] : List (List Nat)), b ∉ o) (hL0 : B.Loc w w [] [Sm w.heap.size F w [], St w []]) (r : List Int) (h : trellisref11_First x1 r) : Calls Try.prog 17 #[.agg #[.slice A2 n3 c4, .slice A6 n7 c8, .slice A10 n11 c12]] w (trellisref11_First_R w F  r) := by
  unfold trellisref11_First at h
  refine calls_of_Loc (vs := [.agg #[.slice A2 n3 c4, .slice A6 n7 c8, .slice A10 n11 c12]]) 34 Try.func17 rfl Try.ntmps17 rfl hL0 ?_
  show G (trellisref11_First_C w F r) _ _ _ _
  refine g_seq (c := trellisref11_First_c0) rfl ?_
  refine g_region (c := trellisref11_First_c1) rfl rfl ?_
  refine wl_s 0 rfl (s_box [.slice A2 n3 c4, .slice A6 n7 c8, .slice A10 n11 c12] rfl rfl rfl fun gb14 => ?_) gn
  refine wl_v 1 rfl (v_assign rfl) gn rfl ?_
  refine w_end 2 rfl ?_
  refine g_seq (c := trellisref11_First_c2) rfl ?_
  refine g_seq (c := trellisref11_First_c3) rfl ?_
  refine g_region (c := trellisref11_First_c5) rfl rfl ?_
  refine wl_v 0 rfl (v_ldB [.slice A2 n3 c4, .slice A6 n7 c8, .slice A10 n11 c12] 0 ld_26 rfl rfl rfl rfl) gn rfl ?_
  obtain ⟨r19, hv20, h⟩ := h
  refine wl_s 1 rfl (s_call [.agg #[.slice A2 n3 c4, .slice A6 n7 c8, .slice A10 n11 c12]] rfl Try.func27 rfl rfl rfl fun w16 hL17 => ?_) gn
  have hp18 : List.Perm ([.box gb14 26 [.slice A2 n3 c4, .slice A6 n7 c8, .slice A10 n11 c12]] : List Ent) (([] : List Ent) ++ ([.box gb14 26 [.slice A2 n3 c4, .slice A6 n7 c8, .slice A10 n11 c12]] : List Ent)) := perm_of_idx [] [0] rfl rfl (by kernel_rfl)
  refine Calls.mono (trellisref11_Sound_calls w16 (Fl ([] : List Snap)) x1 A2 n3 c4 A6 n7 c8 A10 n11 c12 (Rw.mono h5 (hL17.toSt hp18 (me 1 rfl))) (Rw.mono h9 (hL17.toSt hp18 (me 1 rfl))) (Rw.mono h13 (hL17.toSt hp18 (me 1 rfl))) (hL17.hFl (Sl := ([] : List Snap)) hp18 (sels [] rfl)) (hL17.into hp18 (Fl ([] : List Snap))) r19 hv20) ?_
  rintro _ w21 ⟨rfl, hM22⟩
  have hL23 := hL17.call hp18 hM22
  refine ⟨_, _, _, rfl, hL23, ?_⟩
  refine wl_v 2 rfl (v_not rfl) gn rfl ?_
  refine w_end 3 rfl ?_
  by_cases hp24 : r19 = true
  · have h := if_pos' hp24 h
    refine g_false (c := trellisref11_First_c6) rfl _ rfl ((nf hp24)) ?_
    refine g_skip (c := trellisref11_First_c8) rfl ?_
    refine g_seq (c := trellisref11_First_c4) rfl ?_
    refine g_region (c := trellisref11_First_c9) rfl rfl ?_
    refine wl_v 0 rfl (v_ldB [.slice A2 n3 c4, .slice A6 n7 c8, .slice A10 n11 c12] 0 ld_26 rfl rfl rfl rfl) gn rfl ?_
    obtain ⟨r28, hv29, h⟩ := h
    refine wl_s 1 rfl (s_call [.agg #[.slice A2 n3 c4, .slice A6 n7 c8, .slice A10 n11 c12]] rfl Try.func16 rfl rfl rfl fun w25 hL26 => ?_) gn
    have hp27 : List.Perm ([.box gb14 26 [.slice A2 n3 c4, .slice A6 n7 c8, .slice A10 n11 c12]] : List Ent) (([] : List Ent) ++ ([.box gb14 26 [.slice A2 n3 c4, .slice A6 n7 c8, .slice A10 n11 c12]] : List Ent)) := perm_of_idx [] [0] rfl rfl (by kernel_rfl)
    refine Calls.mono (trellisref11_Nullable_calls w25 (Fl ([] : List Snap)) x1 A2 n3 c4 A6 n7 c8 A10 n11 c12 (Rw.mono h5 (hL26.toSt hp27 (me 1 rfl))) (Rw.mono h9 (hL26.toSt hp27 (me 1 rfl))) (Rw.mono h13 (hL26.toSt hp27 (me 1 rfl))) (hL26.hFl (Sl := ([] : List Snap)) hp27 (sels [] rfl)) (hL26.into hp27 (Fl ([] : List Snap))) r28 hv29) ?_
    rintro _ w35 ⟨A30, n31, c32, rfl, hM36, h33⟩
    have hL37 := hL26.call hp27 hM36
    refine ⟨_, _, _, rfl, hL37, ?_⟩
    refine wl_v 2 rfl (v_assign rfl) gn rfl ?_
    refine w_end 3 rfl ?_
    refine g_seq (c := trellisref11_First_c10) rfl ?_
    refine g_region (c := trellisref11_First_c11) rfl rfl ?_
    refine wl_v 0 rfl (v_assign rfl) gn rfl ?_
    refine w_end 1 rfl ?_
    refine g_seq (c := trellisref11_First_c12) rfl ?_
    refine g_seq (c := trellisref11_First_c13) rfl ?_
    refine g_region (c := trellisref11_First_c15) rfl rfl ?_
    refine wl_v 0 rfl (v_assign rfl) gn rfl ?_
    refine w_end 1 rfl ?_
    refine g_block (c := trellisref11_First_c16) rfl ?_
    refine g_loop (c := trellisref11_First_c17) rfl ?_
    have key1 : ∀ s, Rounds (fun (s : (List Int) × Int) o => trellisref11_First_b1 x1 r28 s.1 s.2 o) s r → (fun (s : (List Int) × Int) => ∀ (A62 : Option Addr) (n63 : Nat) (c64 : Nat) (h65 : Ow w.heap.size A62 n63 c64 s.1), G (trellisref11_First_C w F r) [.code trellisref11_First_c18, .inLoop trellisref11_First_c18, .inBlock 0, .code trellisref11_First_c14] [(1, .pointer (some ⟨gb14, 0, none⟩)), (3, .slice A30 n31 c32), (4, .slice A62 n63 c64), (5, .int .i64 s.2)] [.own (.slice A62 n63 c64) 29 1 n63 (s.1.flatMap (eI .u64)), .own (.slice A30 n31 c32) 4 1 n31 (r28.flatMap eB), .box gb14 26 [.slice A2 n3 c4, .slice A6 n7 c8, .slice A10 n11 c12]] [Sm w.heap.size F w [], St w []]) s := by
      intro s hs
      refine Rounds.ind (mot := (fun (s : (List Int) × Int) => ∀ (A62 : Option Addr) (n63 : Nat) (c64 : Nat) (h65 : Ow w.heap.size A62 n63 c64 s.1), G (trellisref11_First_C w F r) [.code trellisref11_First_c18, .inLoop trellisref11_First_c18, .inBlock 0, .code trellisref11_First_c14] [(1, .pointer (some ⟨gb14, 0, none⟩)), (3, .slice A30 n31 c32), (4, .slice A62 n63 c64), (5, .int .i64 s.2)] [.own (.slice A62 n63 c64) 29 1 n63 (s.1.flatMap (eI .u64)), .own (.slice A30 n31 c32) 4 1 n31 (r28.flatMap eB), .box gb14 26 [.slice A2 n3 c4, .slice A6 n7 c8, .slice A10 n11 c12]] [Sm w.heap.size F w [], St w []])) ?_ hs
      clear hs s
      intro s o1 h hO1
      obtain ⟨x61, x66⟩ := s
      show ∀ (A62 : Option Addr) (n63 : Nat) (c64 : Nat) (h65 : Ow w.heap.size A62 n63 c64 x61), G (trellisref11_First_C w F r) [.code trellisref11_First_c18, .inLoop trellisref11_First_c18, .inBlock 0, .code trellisref11_First_c14] [(1, .pointer (some ⟨gb14, 0, none⟩)), (3, .slice A30 n31 c32), (4, .slice A62 n63 c64), (5, .int .i64 x66)] [.own (.slice A62 n63 c64) 29 1 n63 (x61.flatMap (eI .u64)), .own (.slice A30 n31 c32) 4 1 n31 (r28.flatMap eB), .box gb14 26 [.slice A2 n3 c4, .slice A6 n7 c8, .slice A10 n11 c12]] [Sm w.heap.size F w [], St w []]
      intro A62 n63 c64 h65
      have h : trellisref11_First_b1 x1 r28 x61 x66 o1 := h
      unfold trellisref11_First_b1 at h
      refine g_seq (c := trellisref11_First_c18) rfl ?_
      refine g_seq (c := trellisref11_First_c19) rfl ?_
      refine g_region (c := trellisref11_First_c21) rfl rfl ?_
      refine wl_v 0 rfl (v_move rfl) gn rfl ?_
      refine wl_v 1 rfl (v_fldB fo_26_0 rfl) gn rfl ?_
      refine wl_v 2 rfl (v_ldB1 2 ld_22 rfl rfl rfl) gn rfl ?_
      refine wl_v 3 rfl (v_lenQ un_22 rfl h5.hq) gn rfl ?_
      refine wl_v 4 rfl (v_fldB fo_26_1 rfl) gn rfl ?_
      refine wl_v 5 rfl (v_ldB1 2 ld_23 rfl rfl rfl) gn rfl ?_
      refine wl_v 6 rfl (v_lenQ un_23 rfl h9.hq) gn rfl ?_
      refine wl_v 7 rfl (v_bin rfl rfl rfl) gn rfl ?_
      refine wl_v 8 rfl (v_bin rfl rfl rfl) gn rfl ?_
      refine w_end 9 rfl ?_
      by_cases hp88 : x66 < w64 ((x1.terms.length : Int) + (x1.syms.length : Int))
      · have h := if_pos' hp88 h
        refine g_true (c := trellisref11_First_c22) rfl _ rfl ((decide_eq_true hp88)) ?_
        refine g_skip (c := trellisref11_First_c23) rfl ?_
        refine g_seq (c := trellisref11_First_c20) rfl ?_
        refine g_block (c := trellisref11_First_c25) rfl ?_
        refine g_seq (c := trellisref11_First_c27) rfl ?_
        refine g_region (c := trellisref11_First_c28) rfl rfl ?_
        refine wl_v 0 rfl (v_ldB [.slice A2 n3 c4, .slice A6 n7 c8, .slice A10 n11 c12] 2 ld_26 rfl rfl rfl rfl) gn rfl ?_
        refine wl_v 1 rfl (v_move rfl) gn rfl ?_
        refine wl_v 2 rfl (v_move rfl) gn rfl ?_
        refine wl_v 3 rfl (v_build #[.int .i64 x66, .string (⟨#[]⟩ : ByteArray), .string (⟨#[]⟩ : ByteArray)] bd_36 rfl (by kernel_rfl)) gn rfl ?_
        refine wl_s 4 rfl (s_litO (xs := ([(⟨x66, (⟨#[]⟩ : ByteArray), (⟨#[]⟩ : ByteArray)⟩ : api_Ref)] : List api_Ref)) [.int .i64 x66, .string (⟨#[]⟩ : ByteArray), .string (⟨#[]⟩ : ByteArray)] bs_27_1 rfl (by kernel_rfl) rfl rfl rfl rfl fun gb90 h91 => ?_) gn
        obtain ⟨r95, hv96, h⟩ := h
        refine wl_s 5 rfl (s_call [.agg #[.slice A2 n3 c4, .slice A6 n7 c8, .slice A10 n11 c12], .slice A30 n31 c32, .slice (some ⟨gb90, 0, none⟩) 1 1] rfl Try.func29 rfl rfl rfl fun w92 hL93 => ?_) gn
        have hp94 : List.Perm ([.own (.slice (some ⟨gb90, 0, none⟩) 1 1) 36 3 1 (([(⟨x66, (⟨#[]⟩ : ByteArray), (⟨#[]⟩ : ByteArray)⟩ : api_Ref)] : List api_Ref).flatMap enc_api_Ref), .own (.slice A62 n63 c64) 29 1 n63 (x61.flatMap (eI .u64)), .own (.slice A30 n31 c32) 4 1 n31 (r28.flatMap eB), .box gb14 26 [.slice A2 n3 c4, .slice A6 n7 c8, .slice A10 n11 c12]] : List Ent) (([] : List Ent) ++ ([.own (.slice (some ⟨gb90, 0, none⟩) 1 1) 36 3 1 (([(⟨x66, (⟨#[]⟩ : ByteArray), (⟨#[]⟩ : ByteArray)⟩ : api_Ref)] : List api_Ref).flatMap enc_api_Ref), .own (.slice A62 n63 c64) 29 1 n63 (x61.flatMap (eI .u64)), .own (.slice A30 n31 c32) 4 1 n31 (r28.flatMap eB), .box gb14 26 [.slice A2 n3 c4, .slice A6 n7 c8, .slice A10 n11 c12]] : List Ent)) := perm_of_idx [] [0, 1, 2, 3] rfl rfl (by kernel_rfl)
        refine Calls.mono (trellisref11_begins_calls w92 (Fl ([] : List Snap)) x1 r28 ([(⟨x66, (⟨#[]⟩ : ByteArray), (⟨#[]⟩ : ByteArray)⟩ : api_Ref)] : List api_Ref) A2 n3 c4 A6 n7 c8 A10 n11 c12 A30 n31 c32 (some ⟨gb90, 0, none⟩) 1 1 (Rw.mono h5 (hL93.toSt hp94 (me 1 rfl))) (Rw.mono h9 (hL93.toSt hp94 (me 1 rfl))) (Rw.mono h13 (hL93.toSt hp94 (me 1 rfl))) (hL93.argO (dk := kBool) hp94 [] rfl 2 rfl rfl (Ow.weak hL26.env.size h33) (me 0 rfl) (Cells.flat _)) (hL93.argO (dk := k_api_Ref) hp94 [] rfl 0 rfl rfl h91 (me 0 rfl) (Cells.flat _)) (hL93.hFl (Sl := ([] : List Snap)) hp94 (sels [] rfl)) (hL93.into hp94 (Fl ([] : List Snap))) r95 hv96) ?_
        rintro _ w97 ⟨rfl, hM98⟩
        have hL99 := hL93.call hp94 hM98
        refine ⟨_, _, _, rfl, hL99, ?_⟩
        refine wl_v 6 rfl (v_assign rfl) gn rfl ?_
        refine w_end 7 rfl ?_
        refine g_region (c := trellisref11_First_c29) rfl rfl ?_
        refine wl_v 0 rfl (v_move rfl) gn rfl ?_
        refine wl_v 1 rfl (v_move rfl) gn rfl ?_
        refine wl_s 2 rfl (s_litO (xs := ([r95] : List Int)) [.int .u64 r95] bs_42_1 rfl (by kernel_rfl) rfl rfl rfl rfl fun gb101 h102 => ?_) gn
        obtain ⟨x106, hv107, h⟩ := h
        obtain ⟨hb108, h⟩ := h
        refine wl_s 3 rfl (s_app (zs := x106) (cells' := x106.flatMap (eI .u64)) 2 ap_42 rfl rfl rfl h65 (Nat.le_refl _) (Src.ownF (hl := (hlI .u64)) (h1 := (hone_int .u64)) 0 rfl h102) (by rw [hv107, List.flatMap_append] <;> rfl) (app_len hv107 h102.hq) hb108 rfl rfl fun A103 c104 h105 => ?_) gn
        refine wl_v 4 rfl (v_assign rfl) gn rfl ?_
        refine w_end 5 rfl ?_
        refine g_inBlock ?_
        refine g_region (c := trellisref11_First_c26) rfl rfl ?_
        refine wl_v 0 rfl (v_move rfl) gn rfl ?_
        refine wl_v 1 rfl (v_bin rfl rfl rfl) gn rfl ?_
        refine wl_v 2 rfl (v_assign rfl) gn rfl ?_
        refine w_end 3 rfl ?_
        refine g_inLoop ?_
        have ih := Out.inl hO1 h
        exact g_go [0, 1] (ih A103 (n63 + 1) c104 h105) ⟨rfl, rfl, rfl, rfl, trivial⟩ (.cons _ (.cons _ (.cons_cons _ (.cons_cons _ (.cons_cons _ (.slnil)))))) rfl
      · have h := if_neg' hp88 h
        refine g_false (c := trellisref11_First_c22) rfl _ rfl ((decide_eq_false hp88)) ?_
        refine g_exit (c := trellisref11_First_c24) [.code trellisref11_First_c14] rfl rfl ?_
        refine g_seq (c := trellisref11_First_c14) rfl ?_
        refine g_region (c := trellisref11_First_c30) rfl rfl ?_
        refine wl_v 0 rfl (v_move rfl) gn rfl ?_
        refine wl_v 1 rfl (v_assign rfl) gn rfl ?_
        refine w_end 2 rfl ?_
        have h := Out.inr hO1 h
        refine g_retR (c := trellisref11_First_c31) [.slice A62 n63 c64] rfl Try.func17 rfl (.tmp rfl (.nil)) fun wr hLr => ?_
        have hMr : B.Loc w wr [.own (.slice A62 n63 c64) 29 1 n63 (x61.flatMap (eI .u64))] [St w []] := hLr.pick (rest := [.own (.slice A30 n31 c32) 4 1 n31 (r28.flatMap eB), .box gb14 26 [.slice A2 n3 c4, .slice A6 n7 c8, .slice A10 n11 c12]]) (perm_of_idx [0] [1, 2] rfl rfl (by kernel_rfl)) (sels [1] rfl)
        have hMi : ∀ e ∈ ([.own (.slice A62 n63 c64) 29 1 n63 (x61.flatMap (eI .u64))] : List Ent), e ∈ ([.own (.slice A62 n63 c64) 29 1 n63 (x61.flatMap (eI .u64)), .own (.slice A30 n31 c32) 4 1 n31 (r28.flatMap eB), .box gb14 26 [.slice A2 n3 c4, .slice A6 n7 c8, .slice A10 n11 c12]] : List Ent) := sels [0] rfl
        show trellisref11_First_R w F  r (.returned (packV [.slice A62 n63 c64])) wr
        rw [h]
        exact ⟨A62, n63, c64, rfl, hMr, h65⟩
    refine g_nil 29 1 ?_
    exact g_go [0, 1] (key1 _ h none 0 0 (Ow.nil (z := w.heap.size))) ⟨rfl, rfl, rfl, rfl, trivial⟩ (.cons_cons _ (.cons_cons _ (.cons_cons _ (.slnil)))) rfl
  · have h := if_neg' hp24 h
    refine g_true (c := trellisref11_First_c6) rfl _ rfl ((nt (bf hp24))) ?_
    refine g_seq (c := trellisref11_First_c7) rfl ?_
    refine g_region (c := trellisref11_First_c32) rfl rfl ?_
    refine wl_v 0 rfl (v_assign rfl) gn rfl ?_
    refine w_end 1 rfl ?_
    refine g_nil 29 1 ?_
    refine g_retR (c := trellisref11_First_c33) [.slice none 0 0] rfl Try.func17 rfl (.tmp rfl (.nil)) fun wr hLr => ?_
    have hMr : B.Loc w wr [.own (.slice none 0 0) 29 1 0 (([] : List Int).flatMap (eI .u64))] [St w []] := hLr.pick (rest := [.box gb14 26 [.slice A2 n3 c4, .slice A6 n7 c8, .slice A10 n11 c12]]) (perm_of_idx [0] [1] rfl rfl (by kernel_rfl)) (sels [1] rfl)
    have hMi : ∀ e ∈ ([.own (.slice none 0 0) 29 1 0 (([] : List Int).flatMap (eI .u64))] : List Ent), e ∈ ([.own (.slice none 0 0) 29 1 0 (([] : List Int).flatMap (eI .u64)), .box gb14 26 [.slice A2 n3 c4, .slice A6 n7 c8, .slice A10 n11 c12]] : List Ent) := sels [0] rfl
    show trellisref11_First_R w F  r (.returned (packV [.slice none 0 0])) wr
    rw [h]
    exact ⟨none, 0, 0, rfl, hMr, (Ow.nil (z := w.heap.size))⟩
noncomputable abbrev first_Nullable_c0 : Code := bodyOf Try.f18
noncomputable abbrev first_Nullable_c1 : Code := Code.fst first_Nullable_c0
noncomputable abbrev first_Nullable_c2 : Code := Code.snd first_Nullable_c0
noncomputable abbrev first_Nullable_c3 : Code := Code.fst first_Nullable_c2
noncomputable abbrev first_Nullable_c4 : Code := Code.snd first_Nullable_c2
noncomputable abbrev first_Nullable_c5 : Code := Code.fst first_Nullable_c3
noncomputable abbrev first_Nullable_c6 : Code := Code.snd first_Nullable_c3
noncomputable abbrev first_Nullable_c7 : Code := Code.fst first_Nullable_c6
noncomputable abbrev first_Nullable_c8 : Code := Code.snd first_Nullable_c6
noncomputable abbrev first_Nullable_c9 : Code := Code.fst first_Nullable_c4
noncomputable abbrev first_Nullable_c10 : Code := Code.snd first_Nullable_c4
noncomputable abbrev first_Nullable_c11 : Code := Code.fst first_Nullable_c10
noncomputable abbrev first_Nullable_c12 : Code := Code.snd first_Nullable_c10
noncomputable abbrev first_Nullable_c13 : Code := Code.fst first_Nullable_c7
noncomputable abbrev first_Nullable_c14 : Code := Code.snd first_Nullable_c7
abbrev first_Nullable_R (w : World) (F : Nat → Prop) (r : List Bool) : Ending → World → Prop := fun e w' => ∃ A0 : Option Addr, ∃ n0 : Nat, ∃ c0 : Nat, e = .returned (.slice A0 n0 c0) ∧ B.Loc w w' [.own (.slice A0 n0 c0) 4 1 n0 (r.flatMap eB)] [St w []] ∧ Ow w.heap.size A0 n0 c0 r
noncomputable abbrev first_Nullable_C (w : World) (F : Nat → Prop) (r : List Bool) : Cx := ⟨Try.prog, 18, Try.f18, 19, first_Nullable_R w F  r, w⟩
theorem first_Nullable_calls (w : World) (F : Nat → Prop) (x1 : api_Gram) (A2 : Option Addr) (n3 : Nat) (c4 : Nat) (A6 : Option Addr) (n7 : Nat) (c8 : Nat) (A10 : Option Addr) (n11 : Nat) (c12 : Nat) (h5 : Rw k_api_TermDef w (St w []).av A2 n3 c4 x1.terms) (h9 : Rw k_api_Sym w (St w []).av A6 n7 c8 x1.syms) (h13 : Rw k_api_Prod w (St w []).av A10 n11 c12 x1.prods) (hF : ∀ b, F b → b < w.heap.size ∧ ∀ o ∈ ([] : List (List Nat)), b ∉ o) (hL0 : B.Loc w w [] [Sm w.heap.size F w [], St w []]) (r : List Bool) (h : first_Nullable x1 r) : Calls Try.prog 18 #[.agg #[.slice A2 n3 c4, .slice A6 n7 c8, .slice A10 n11 c12]] w (first_Nullable_R w F  r) := by
  unfold first_Nullable at h
  refine calls_of_Loc (vs := [.agg #[.slice A2 n3 c4, .slice A6 n7 c8, .slice A10 n11 c12]]) 19 Try.func18 rfl Try.ntmps18 rfl hL0 ?_
  show G (first_Nullable_C w F r) _ _ _ _
  refine g_seq (c := first_Nullable_c0) rfl ?_
  refine g_region (c := first_Nullable_c1) rfl rfl ?_
  refine wl_s 0 rfl (s_box [.slice A2 n3 c4, .slice A6 n7 c8, .slice A10 n11 c12] rfl rfl rfl fun gb14 => ?_) gn
  refine wl_v 1 rfl (v_assign rfl) gn rfl ?_
  refine w_end 2 rfl ?_
  refine g_seq (c := first_Nullable_c2) rfl ?_
  refine g_seq (c := first_Nullable_c3) rfl ?_
  refine g_region (c := first_Nullable_c5) rfl rfl ?_
  refine wl_v 0 rfl (v_ldB [.slice A2 n3 c4, .slice A6 n7 c8, .slice A10 n11 c12] 0 ld_26 rfl rfl rfl rfl) gn rfl ?_
  obtain ⟨r19, hv20, h⟩ := h
  refine wl_s 1 rfl (s_call [.agg #[.slice A2 n3 c4, .slice A6 n7 c8, .slice A10 n11 c12]] rfl Try.func31 rfl rfl rfl fun w16 hL17 => ?_) gn
  have hp18 : List.Perm ([.box gb14 26 [.slice A2 n3 c4, .slice A6 n7 c8, .slice A10 n11 c12]] : List Ent) (([] : List Ent) ++ ([.box gb14 26 [.slice A2 n3 c4, .slice A6 n7 c8, .slice A10 n11 c12]] : List Ent)) := perm_of_idx [] [0] rfl rfl (by kernel_rfl)
  refine Calls.mono (first_sound_calls w16 (Fl ([] : List Snap)) x1 A2 n3 c4 A6 n7 c8 A10 n11 c12 (Rw.mono h5 (hL17.toSt hp18 (me 1 rfl))) (Rw.mono h9 (hL17.toSt hp18 (me 1 rfl))) (Rw.mono h13 (hL17.toSt hp18 (me 1 rfl))) (hL17.hFl (Sl := ([] : List Snap)) hp18 (sels [] rfl)) (hL17.into hp18 (Fl ([] : List Snap))) r19 hv20) ?_
  rintro _ w21 ⟨rfl, hM22⟩
  have hL23 := hL17.call hp18 hM22
  refine ⟨_, _, _, rfl, hL23, ?_⟩
  refine wl_v 2 rfl (v_not rfl) gn rfl ?_
  refine w_end 3 rfl ?_
  by_cases hp24 : r19 = true
  · have h := if_pos' hp24 h
    refine g_false (c := first_Nullable_c6) rfl _ rfl ((nf hp24)) ?_
    refine g_skip (c := first_Nullable_c8) rfl ?_
    refine g_seq (c := first_Nullable_c4) rfl ?_
    refine g_region (c := first_Nullable_c9) rfl rfl ?_
    refine wl_v 0 rfl (v_ldB [.slice A2 n3 c4, .slice A6 n7 c8, .slice A10 n11 c12] 0 ld_26 rfl rfl rfl rfl) gn rfl ?_
    obtain ⟨r28, hv29, h⟩ := h
    refine wl_s 1 rfl (s_call [.agg #[.slice A2 n3 c4, .slice A6 n7 c8, .slice A10 n11 c12]] rfl Try.func33 rfl rfl rfl fun w25 hL26 => ?_) gn
    have hp27 : List.Perm ([.box gb14 26 [.slice A2 n3 c4, .slice A6 n7 c8, .slice A10 n11 c12]] : List Ent) (([] : List Ent) ++ ([.box gb14 26 [.slice A2 n3 c4, .slice A6 n7 c8, .slice A10 n11 c12]] : List Ent)) := perm_of_idx [] [0] rfl rfl (by kernel_rfl)
    refine Calls.mono (first_solve_calls w25 (Fl ([] : List Snap)) x1 A2 n3 c4 A6 n7 c8 A10 n11 c12 (Rw.mono h5 (hL26.toSt hp27 (me 1 rfl))) (Rw.mono h9 (hL26.toSt hp27 (me 1 rfl))) (Rw.mono h13 (hL26.toSt hp27 (me 1 rfl))) (hL26.hFl (Sl := ([] : List Snap)) hp27 (sels [] rfl)) (hL26.into hp27 (Fl ([] : List Snap))) r28 hv29) ?_
    rintro _ w30 ⟨rfl, hM31⟩
    have hL32 := hL26.call hp27 hM31
    refine ⟨_, _, _, rfl, hL32, ?_⟩
    refine wl_s 2 rfl (s_alloc (enc_first_sets (⟨(fun _ => 0), (fun _ => false)⟩ : first_sets)) zr_67 rfl fun gb33 => ?_) gn
    obtain ⟨x35, hv36, h⟩ := h
    refine wl_s 3 rfl (s_stP (cs' := (enc_first_sets x35)) (m := (enc_first_sets (⟨(fun _ => 0), (fun _ => false)⟩ : first_sets))) (m' := (enc_first_sets r28)) 0 sz_67 rfl rfl rfl (by rw [hv36]; exact (Pt.refl _ (enc_first_sets r28))) rfl (hl_first_sets (⟨(fun _ => 0), (fun _ => false)⟩ : first_sets)) (hl_first_sets r28) (ho_first_sets r28) ?_) gn
    refine w_end 4 rfl ?_
    refine g_seq (c := first_Nullable_c10) rfl ?_
    refine g_region (c := first_Nullable_c11) rfl rfl ?_
    refine wl_v 0 rfl (v_fldB fo_67_1 rfl) gn rfl ?_
    refine wl_v 1 rfl (v_fldB fo_26_0 rfl) gn rfl ?_
    refine wl_v 2 rfl (v_ldB1 1 ld_22 rfl rfl rfl) gn rfl ?_
    refine wl_v 3 rfl (v_lenQ un_22 rfl h5.hq) gn rfl ?_
    refine wl_v 4 rfl (v_fldB fo_26_1 rfl) gn rfl ?_
    refine wl_v 5 rfl (v_ldB1 1 ld_23 rfl rfl rfl) gn rfl ?_
    refine wl_v 6 rfl (v_lenQ un_23 rfl h9.hq) gn rfl ?_
    refine wl_v 7 rfl (v_bin rfl rfl rfl) gn rfl ?_
    obtain ⟨hb37, h⟩ := h
    refine wl_v 8 rfl (v_cutB (hv := w64 ((x1.terms.length : Int) + (x1.syms.length : Int))) ar_65 rfl (by_ rfl) hb37) gn rfl ?_
    obtain ⟨x42, hv43, h⟩ := h
    obtain ⟨hb44, h⟩ := h
    refine w_nil 4 1 ?_
    refine wl_s 9 rfl (s_app (zs := x42) (cells' := x42.flatMap eB) 0 ap_40 rfl rfl rfl (Ow.nil (z := w.heap.size)) (Nat.le_refl _) (Src.box (f := x35.vanishes) (enc := fun y => [.bool y]) 1 rfl (pt_first_sets_vanishes x35 x35.vanishes) (fun _ => rfl) (fun _ u hu => List.all_eq_true.1 rfl u hu) (by have := hb37; omega)) (by rw [hv43, List.flatMap_append] <;> rfl) (app_len hv43 (by rw [List.length_map, List.length_range])) hb44 rfl rfl fun A39 c40 h41 => ?_) gn
    refine wl_v 10 rfl (v_assign rfl) gn rfl ?_
    refine w_end 11 rfl ?_
    refine g_retR (c := first_Nullable_c12) [.slice A39 (0 + ((w64 ((x1.terms.length : Int) + (x1.syms.length : Int)) : Int).toNat)) c40] rfl Try.func18 rfl (.tmp rfl (.nil)) fun wr hLr => ?_
    have hMr : B.Loc w wr [.own (.slice A39 (0 + ((w64 ((x1.terms.length : Int) + (x1.syms.length : Int)) : Int).toNat)) c40) 4 1 (0 + ((w64 ((x1.terms.length : Int) + (x1.syms.length : Int)) : Int).toNat)) (x42.flatMap eB)] [St w []] := hLr.pick (rest := [.box gb33 67 (enc_first_sets x35), .box gb14 26 [.slice A2 n3 c4, .slice A6 n7 c8, .slice A10 n11 c12]]) (perm_of_idx [0] [1, 2] rfl rfl (by kernel_rfl)) (sels [1] rfl)
    have hMi : ∀ e ∈ ([.own (.slice A39 (0 + ((w64 ((x1.terms.length : Int) + (x1.syms.length : Int)) : Int).toNat)) c40) 4 1 (0 + ((w64 ((x1.terms.length : Int) + (x1.syms.length : Int)) : Int).toNat)) (x42.flatMap eB)] : List Ent), e ∈ ([.own (.slice A39 (0 + ((w64 ((x1.terms.length : Int) + (x1.syms.length : Int)) : Int).toNat)) c40) 4 1 (0 + ((w64 ((x1.terms.length : Int) + (x1.syms.length : Int)) : Int).toNat)) (x42.flatMap eB), .box gb33 67 (enc_first_sets x35), .box gb14 26 [.slice A2 n3 c4, .slice A6 n7 c8, .slice A10 n11 c12]] : List Ent) := sels [0] rfl
    show first_Nullable_R w F  r (.returned (packV [.slice A39 (0 + ((w64 ((x1.terms.length : Int) + (x1.syms.length : Int)) : Int).toNat)) c40])) wr
    rw [h]
    exact ⟨A39, 0 + ((w64 ((x1.terms.length : Int) + (x1.syms.length : Int)) : Int).toNat), c40, rfl, hMr, h41⟩
  · have h := if_neg' hp24 h
    refine g_true (c := first_Nullable_c6) rfl _ rfl ((nt (bf hp24))) ?_
    refine g_seq (c := first_Nullable_c7) rfl ?_
    refine g_region (c := first_Nullable_c13) rfl rfl ?_
    refine wl_v 0 rfl (v_assign rfl) gn rfl ?_
    refine w_end 1 rfl ?_
    refine g_nil 4 1 ?_
    refine g_retR (c := first_Nullable_c14) [.slice none 0 0] rfl Try.func18 rfl (.tmp rfl (.nil)) fun wr hLr => ?_
    have hMr : B.Loc w wr [.own (.slice none 0 0) 4 1 0 (([] : List Bool).flatMap eB)] [St w []] := hLr.pick (rest := [.box gb14 26 [.slice A2 n3 c4, .slice A6 n7 c8, .slice A10 n11 c12]]) (perm_of_idx [0] [1] rfl rfl (by kernel_rfl)) (sels [1] rfl)
    have hMi : ∀ e ∈ ([.own (.slice none 0 0) 4 1 0 (([] : List Bool).flatMap eB)] : List Ent), e ∈ ([.own (.slice none 0 0) 4 1 0 (([] : List Bool).flatMap eB), .box gb14 26 [.slice A2 n3 c4, .slice A6 n7 c8, .slice A10 n11 c12]] : List Ent) := sels [0] rfl
    show first_Nullable_R w F  r (.returned (packV [.slice none 0 0])) wr
    rw [h]
    exact ⟨none, 0, 0, rfl, hMr, (Ow.nil (z := w.heap.size))⟩
noncomputable abbrev first_First_c0 : Code := bodyOf Try.f19
noncomputable abbrev first_First_c1 : Code := Code.fst first_First_c0
noncomputable abbrev first_First_c2 : Code := Code.snd first_First_c0
noncomputable abbrev first_First_c3 : Code := Code.fst first_First_c2
noncomputable abbrev first_First_c4 : Code := Code.snd first_First_c2
noncomputable abbrev first_First_c5 : Code := Code.fst first_First_c3
noncomputable abbrev first_First_c6 : Code := Code.snd first_First_c3
noncomputable abbrev first_First_c7 : Code := Code.fst first_First_c6
noncomputable abbrev first_First_c8 : Code := Code.snd first_First_c6
noncomputable abbrev first_First_c9 : Code := Code.fst first_First_c4
noncomputable abbrev first_First_c10 : Code := Code.snd first_First_c4
noncomputable abbrev first_First_c11 : Code := Code.fst first_First_c10
noncomputable abbrev first_First_c12 : Code := Code.snd first_First_c10
noncomputable abbrev first_First_c13 : Code := Code.fst first_First_c7
noncomputable abbrev first_First_c14 : Code := Code.snd first_First_c7
abbrev first_First_R (w : World) (F : Nat → Prop) (r : List Int) : Ending → World → Prop := fun e w' => ∃ A0 : Option Addr, ∃ n0 : Nat, ∃ c0 : Nat, e = .returned (.slice A0 n0 c0) ∧ B.Loc w w' [.own (.slice A0 n0 c0) 29 1 n0 (r.flatMap (eI .u64))] [St w []] ∧ Ow w.heap.size A0 n0 c0 r
noncomputable abbrev first_First_C (w : World) (F : Nat → Prop) (r : List Int) : Cx := ⟨Try.prog, 19, Try.f19, 19, first_First_R w F  r, w⟩
theorem first_First_calls (w : World) (F : Nat → Prop) (x1 : api_Gram) (A2 : Option Addr) (n3 : Nat) (c4 : Nat) (A6 : Option Addr) (n7 : Nat) (c8 : Nat) (A10 : Option Addr) (n11 : Nat) (c12 : Nat) (h5 : Rw k_api_TermDef w (St w []).av A2 n3 c4 x1.terms) (h9 : Rw k_api_Sym w (St w []).av A6 n7 c8 x1.syms) (h13 : Rw k_api_Prod w (St w []).av A10 n11 c12 x1.prods) (hF : ∀ b, F b → b < w.heap.size ∧ ∀ o ∈ ([] : List (List Nat)), b ∉ o) (hL0 : B.Loc w w [] [Sm w.heap.size F w [], St w []]) (r : List Int) (h : first_First x1 r) : Calls Try.prog 19 #[.agg #[.slice A2 n3 c4, .slice A6 n7 c8, .slice A10 n11 c12]] w (first_First_R w F  r) := by
  unfold first_First at h
  refine calls_of_Loc (vs := [.agg #[.slice A2 n3 c4, .slice A6 n7 c8, .slice A10 n11 c12]]) 19 Try.func19 rfl Try.ntmps19 rfl hL0 ?_
  show G (first_First_C w F r) _ _ _ _
  refine g_seq (c := first_First_c0) rfl ?_
  refine g_region (c := first_First_c1) rfl rfl ?_
  refine wl_s 0 rfl (s_box [.slice A2 n3 c4, .slice A6 n7 c8, .slice A10 n11 c12] rfl rfl rfl fun gb14 => ?_) gn
  refine wl_v 1 rfl (v_assign rfl) gn rfl ?_
  refine w_end 2 rfl ?_
  refine g_seq (c := first_First_c2) rfl ?_
  refine g_seq (c := first_First_c3) rfl ?_
  refine g_region (c := first_First_c5) rfl rfl ?_
  refine wl_v 0 rfl (v_ldB [.slice A2 n3 c4, .slice A6 n7 c8, .slice A10 n11 c12] 0 ld_26 rfl rfl rfl rfl) gn rfl ?_
  obtain ⟨r19, hv20, h⟩ := h
  refine wl_s 1 rfl (s_call [.agg #[.slice A2 n3 c4, .slice A6 n7 c8, .slice A10 n11 c12]] rfl Try.func31 rfl rfl rfl fun w16 hL17 => ?_) gn
  have hp18 : List.Perm ([.box gb14 26 [.slice A2 n3 c4, .slice A6 n7 c8, .slice A10 n11 c12]] : List Ent) (([] : List Ent) ++ ([.box gb14 26 [.slice A2 n3 c4, .slice A6 n7 c8, .slice A10 n11 c12]] : List Ent)) := perm_of_idx [] [0] rfl rfl (by kernel_rfl)
  refine Calls.mono (first_sound_calls w16 (Fl ([] : List Snap)) x1 A2 n3 c4 A6 n7 c8 A10 n11 c12 (Rw.mono h5 (hL17.toSt hp18 (me 1 rfl))) (Rw.mono h9 (hL17.toSt hp18 (me 1 rfl))) (Rw.mono h13 (hL17.toSt hp18 (me 1 rfl))) (hL17.hFl (Sl := ([] : List Snap)) hp18 (sels [] rfl)) (hL17.into hp18 (Fl ([] : List Snap))) r19 hv20) ?_
  rintro _ w21 ⟨rfl, hM22⟩
  have hL23 := hL17.call hp18 hM22
  refine ⟨_, _, _, rfl, hL23, ?_⟩
  refine wl_v 2 rfl (v_not rfl) gn rfl ?_
  refine w_end 3 rfl ?_
  by_cases hp24 : r19 = true
  · have h := if_pos' hp24 h
    refine g_false (c := first_First_c6) rfl _ rfl ((nf hp24)) ?_
    refine g_skip (c := first_First_c8) rfl ?_
    refine g_seq (c := first_First_c4) rfl ?_
    refine g_region (c := first_First_c9) rfl rfl ?_
    refine wl_v 0 rfl (v_ldB [.slice A2 n3 c4, .slice A6 n7 c8, .slice A10 n11 c12] 0 ld_26 rfl rfl rfl rfl) gn rfl ?_
    obtain ⟨r28, hv29, h⟩ := h
    refine wl_s 1 rfl (s_call [.agg #[.slice A2 n3 c4, .slice A6 n7 c8, .slice A10 n11 c12]] rfl Try.func33 rfl rfl rfl fun w25 hL26 => ?_) gn
    have hp27 : List.Perm ([.box gb14 26 [.slice A2 n3 c4, .slice A6 n7 c8, .slice A10 n11 c12]] : List Ent) (([] : List Ent) ++ ([.box gb14 26 [.slice A2 n3 c4, .slice A6 n7 c8, .slice A10 n11 c12]] : List Ent)) := perm_of_idx [] [0] rfl rfl (by kernel_rfl)
    refine Calls.mono (first_solve_calls w25 (Fl ([] : List Snap)) x1 A2 n3 c4 A6 n7 c8 A10 n11 c12 (Rw.mono h5 (hL26.toSt hp27 (me 1 rfl))) (Rw.mono h9 (hL26.toSt hp27 (me 1 rfl))) (Rw.mono h13 (hL26.toSt hp27 (me 1 rfl))) (hL26.hFl (Sl := ([] : List Snap)) hp27 (sels [] rfl)) (hL26.into hp27 (Fl ([] : List Snap))) r28 hv29) ?_
    rintro _ w30 ⟨rfl, hM31⟩
    have hL32 := hL26.call hp27 hM31
    refine ⟨_, _, _, rfl, hL32, ?_⟩
    refine wl_s 2 rfl (s_alloc (enc_first_sets (⟨(fun _ => 0), (fun _ => false)⟩ : first_sets)) zr_67 rfl fun gb33 => ?_) gn
    obtain ⟨x35, hv36, h⟩ := h
    refine wl_s 3 rfl (s_stP (cs' := (enc_first_sets x35)) (m := (enc_first_sets (⟨(fun _ => 0), (fun _ => false)⟩ : first_sets))) (m' := (enc_first_sets r28)) 0 sz_67 rfl rfl rfl (by rw [hv36]; exact (Pt.refl _ (enc_first_sets r28))) rfl (hl_first_sets (⟨(fun _ => 0), (fun _ => false)⟩ : first_sets)) (hl_first_sets r28) (ho_first_sets r28) ?_) gn
    refine w_end 4 rfl ?_
    refine g_seq (c := first_First_c10) rfl ?_
    refine g_region (c := first_First_c11) rfl rfl ?_
    refine wl_v 0 rfl (v_fldB fo_67_0 rfl) gn rfl ?_
    refine wl_v 1 rfl (v_fldB fo_26_0 rfl) gn rfl ?_
    refine wl_v 2 rfl (v_ldB1 1 ld_22 rfl rfl rfl) gn rfl ?_
    refine wl_v 3 rfl (v_lenQ un_22 rfl h5.hq) gn rfl ?_
    refine wl_v 4 rfl (v_fldB fo_26_1 rfl) gn rfl ?_
    refine wl_v 5 rfl (v_ldB1 1 ld_23 rfl rfl rfl) gn rfl ?_
    refine wl_v 6 rfl (v_lenQ un_23 rfl h9.hq) gn rfl ?_
    refine wl_v 7 rfl (v_bin rfl rfl rfl) gn rfl ?_
    obtain ⟨hb37, h⟩ := h
    refine wl_v 8 rfl (v_cutB (hv := w64 ((x1.terms.length : Int) + (x1.syms.length : Int))) ar_64 rfl (by_ rfl) hb37) gn rfl ?_
    obtain ⟨x42, hv43, h⟩ := h
    obtain ⟨hb44, h⟩ := h
    refine w_nil 29 1 ?_
    refine wl_s 9 rfl (s_app (zs := x42) (cells' := x42.flatMap (eI .u64)) 0 ap_42 rfl rfl rfl (Ow.nil (z := w.heap.size)) (Nat.le_refl _) (Src.box (f := x35.first) (enc := fun y => [.int .u64 y]) 1 rfl (pt_first_sets_first x35 x35.first) (fun _ => rfl) (fun _ u hu => List.all_eq_true.1 rfl u hu) (by have := hb37; omega)) (by rw [hv43, List.flatMap_append] <;> rfl) (app_len hv43 (by rw [List.length_map, List.length_range])) hb44 rfl rfl fun A39 c40 h41 => ?_) gn
    refine wl_v 10 rfl (v_assign rfl) gn rfl ?_
    refine w_end 11 rfl ?_
    refine g_retR (c := first_First_c12) [.slice A39 (0 + ((w64 ((x1.terms.length : Int) + (x1.syms.length : Int)) : Int).toNat)) c40] rfl Try.func19 rfl (.tmp rfl (.nil)) fun wr hLr => ?_
    have hMr : B.Loc w wr [.own (.slice A39 (0 + ((w64 ((x1.terms.length : Int) + (x1.syms.length : Int)) : Int).toNat)) c40) 29 1 (0 + ((w64 ((x1.terms.length : Int) + (x1.syms.length : Int)) : Int).toNat)) (x42.flatMap (eI .u64))] [St w []] := hLr.pick (rest := [.box gb33 67 (enc_first_sets x35), .box gb14 26 [.slice A2 n3 c4, .slice A6 n7 c8, .slice A10 n11 c12]]) (perm_of_idx [0] [1, 2] rfl rfl (by kernel_rfl)) (sels [1] rfl)
    have hMi : ∀ e ∈ ([.own (.slice A39 (0 + ((w64 ((x1.terms.length : Int) + (x1.syms.length : Int)) : Int).toNat)) c40) 29 1 (0 + ((w64 ((x1.terms.length : Int) + (x1.syms.length : Int)) : Int).toNat)) (x42.flatMap (eI .u64))] : List Ent), e ∈ ([.own (.slice A39 (0 + ((w64 ((x1.terms.length : Int) + (x1.syms.length : Int)) : Int).toNat)) c40) 29 1 (0 + ((w64 ((x1.terms.length : Int) + (x1.syms.length : Int)) : Int).toNat)) (x42.flatMap (eI .u64)), .box gb33 67 (enc_first_sets x35), .box gb14 26 [.slice A2 n3 c4, .slice A6 n7 c8, .slice A10 n11 c12]] : List Ent) := sels [0] rfl
    show first_First_R w F  r (.returned (packV [.slice A39 (0 + ((w64 ((x1.terms.length : Int) + (x1.syms.length : Int)) : Int).toNat)) c40])) wr
    rw [h]
    exact ⟨A39, 0 + ((w64 ((x1.terms.length : Int) + (x1.syms.length : Int)) : Int).toNat), c40, rfl, hMr, h41⟩
  · have h := if_neg' hp24 h
    refine g_true (c := first_First_c6) rfl _ rfl ((nt (bf hp24))) ?_
    refine g_seq (c := first_First_c7) rfl ?_
    refine g_region (c := first_First_c13) rfl rfl ?_
    refine wl_v 0 rfl (v_assign rfl) gn rfl ?_
    refine w_end 1 rfl ?_
    refine g_nil 29 1 ?_
    refine g_retR (c := first_First_c14) [.slice none 0 0] rfl Try.func19 rfl (.tmp rfl (.nil)) fun wr hLr => ?_
    have hMr : B.Loc w wr [.own (.slice none 0 0) 29 1 0 (([] : List Int).flatMap (eI .u64))] [St w []] := hLr.pick (rest := [.box gb14 26 [.slice A2 n3 c4, .slice A6 n7 c8, .slice A10 n11 c12]]) (perm_of_idx [0] [1] rfl rfl (by kernel_rfl)) (sels [1] rfl)
    have hMi : ∀ e ∈ ([.own (.slice none 0 0) 29 1 0 (([] : List Int).flatMap (eI .u64))] : List Ent), e ∈ ([.own (.slice none 0 0) 29 1 0 (([] : List Int).flatMap (eI .u64)), .box gb14 26 [.slice A2 n3 c4, .slice A6 n7 c8, .slice A10 n11 c12]] : List Ent) := sels [0] rfl
    show first_First_R w F  r (.returned (packV [.slice none 0 0])) wr
    rw [h]
    exact ⟨none, 0, 0, rfl, hMr, (Ow.nil (z := w.heap.size))⟩
noncomputable abbrev trellislaw11_sameBools_c0 : Code := bodyOf Try.f20
noncomputable abbrev trellislaw11_sameBools_c1 : Code := Code.fst trellislaw11_sameBools_c0
noncomputable abbrev trellislaw11_sameBools_c2 : Code := Code.snd trellislaw11_sameBools_c0
noncomputable abbrev trellislaw11_sameBools_c3 : Code := Code.fst trellislaw11_sameBools_c2
noncomputable abbrev trellislaw11_sameBools_c4 : Code := Code.snd trellislaw11_sameBools_c2
noncomputable abbrev trellislaw11_sameBools_c5 : Code := Code.fst trellislaw11_sameBools_c3
noncomputable abbrev trellislaw11_sameBools_c6 : Code := Code.snd trellislaw11_sameBools_c3
noncomputable abbrev trellislaw11_sameBools_c7 : Code := Code.fst trellislaw11_sameBools_c6
noncomputable abbrev trellislaw11_sameBools_c8 : Code := Code.snd trellislaw11_sameBools_c6
noncomputable abbrev trellislaw11_sameBools_c9 : Code := Code.fst trellislaw11_sameBools_c4
noncomputable abbrev trellislaw11_sameBools_c10 : Code := Code.snd trellislaw11_sameBools_c4
noncomputable abbrev trellislaw11_sameBools_c11 : Code := Code.fst trellislaw11_sameBools_c9
noncomputable abbrev trellislaw11_sameBools_c12 : Code := Code.snd trellislaw11_sameBools_c9
noncomputable abbrev trellislaw11_sameBools_c13 : Code := Code.fst trellislaw11_sameBools_c12
noncomputable abbrev trellislaw11_sameBools_c14 : Code := Code.fst trellislaw11_sameBools_c13
noncomputable abbrev trellislaw11_sameBools_c15 : Code := Code.fst trellislaw11_sameBools_c14
noncomputable abbrev trellislaw11_sameBools_c16 : Code := Code.snd trellislaw11_sameBools_c14
noncomputable abbrev trellislaw11_sameBools_c17 : Code := Code.fst trellislaw11_sameBools_c15
noncomputable abbrev trellislaw11_sameBools_c18 : Code := Code.snd trellislaw11_sameBools_c15
noncomputable abbrev trellislaw11_sameBools_c19 : Code := Code.fst trellislaw11_sameBools_c18
noncomputable abbrev trellislaw11_sameBools_c20 : Code := Code.snd trellislaw11_sameBools_c18
noncomputable abbrev trellislaw11_sameBools_c21 : Code := Code.fst trellislaw11_sameBools_c16
noncomputable abbrev trellislaw11_sameBools_c22 : Code := Code.snd trellislaw11_sameBools_c16
noncomputable abbrev trellislaw11_sameBools_c23 : Code := Code.fst trellislaw11_sameBools_c21
noncomputable abbrev trellislaw11_sameBools_c24 : Code := Code.fst trellislaw11_sameBools_c23
noncomputable abbrev trellislaw11_sameBools_c25 : Code := Code.snd trellislaw11_sameBools_c23
noncomputable abbrev trellislaw11_sameBools_c26 : Code := Code.fst trellislaw11_sameBools_c25
noncomputable abbrev trellislaw11_sameBools_c27 : Code := Code.snd trellislaw11_sameBools_c25
noncomputable abbrev trellislaw11_sameBools_c28 : Code := Code.fst trellislaw11_sameBools_c26
noncomputable abbrev trellislaw11_sameBools_c29 : Code := Code.snd trellislaw11_sameBools_c26
noncomputable abbrev trellislaw11_sameBools_c30 : Code := Code.fst trellislaw11_sameBools_c10
noncomputable abbrev trellislaw11_sameBools_c31 : Code := Code.snd trellislaw11_sameBools_c10
noncomputable abbrev trellislaw11_sameBools_c32 : Code := Code.fst trellislaw11_sameBools_c7
noncomputable abbrev trellislaw11_sameBools_c33 : Code := Code.snd trellislaw11_sameBools_c7
abbrev trellislaw11_sameBools_R (w : World) (F : Nat → Prop) (r : Bool) : Ending → World → Prop := fun e w' => e = .returned (.bool r) ∧ B.Loc w w' [] [St w []]
noncomputable abbrev trellislaw11_sameBools_C (w : World) (F : Nat → Prop) (r : Bool) : Cx := ⟨Try.prog, 20, Try.f20, 26, trellislaw11_sameBools_R w F  r, w⟩
theorem trellislaw11_sameBools_calls (w : World) (F : Nat → Prop) (x1 : List Bool) (x6 : List Bool) (A2 : Option Addr) (n3 : Nat) (c4 : Nat) (A7 : Option Addr) (n8 : Nat) (c9 : Nat) (h5 : Rw kBool w (St w []).av A2 n3 c4 x1) (h10 : Rw kBool w (St w []).av A7 n8 c9 x6) (hF : ∀ b, F b → b < w.heap.size ∧ ∀ o ∈ ([] : List (List Nat)), b ∉ o) (hL0 : B.Loc w w [] [Sm w.heap.size F w [], St w []]) (r : Bool) (h : trellislaw11_sameBools x1 x6 r) : Calls Try.prog 20 #[.slice A2 n3 c4, .slice A7 n8 c9] w (trellislaw11_sameBools_R w F  r) := by
  unfold trellislaw11_sameBools at h
  refine calls_of_Loc (vs := [.slice A2 n3 c4, .slice A7 n8 c9]) 26 Try.func20 rfl Try.ntmps20 rfl hL0 ?_
  show G (trellislaw11_sameBools_C w F r) _ _ _ _
  refine g_seq (c := trellislaw11_sameBools_c0) rfl ?_
  refine g_region (c := trellislaw11_sameBools_c1) rfl rfl ?_
  refine wl_v 0 rfl (v_assign rfl) gn rfl ?_
  refine w_end 1 rfl ?_
  refine g_seq (c := trellislaw11_sameBools_c2) rfl ?_
  refine g_seq (c := trellislaw11_sameBools_c3) rfl ?_
  refine g_region (c := trellislaw11_sameBools_c5) rfl rfl ?_
  refine wl_v 0 rfl (v_move rfl) gn rfl ?_
  refine wl_v 1 rfl (v_lenQ un_40 rfl h5.hq) gn rfl ?_
  refine wl_v 2 rfl (v_move rfl) gn rfl ?_
  refine wl_v 3 rfl (v_lenQ un_40 rfl h10.hq) gn rfl ?_
  refine wl_v 4 rfl (v_bin rfl rfl rfl) gn rfl ?_
  refine w_end 5 rfl ?_
  by_cases hp11 : (x1.length : Int) = (x6.length : Int)
  · have h := if_pos' hp11 h
    refine g_false (c := trellislaw11_sameBools_c6) rfl _ rfl ((eqib hp11)) ?_
    refine g_skip (c := trellislaw11_sameBools_c8) rfl ?_
    refine g_seq (c := trellislaw11_sameBools_c4) rfl ?_
    refine g_seq (c := trellislaw11_sameBools_c9) rfl ?_
    refine g_region (c := trellislaw11_sameBools_c11) rfl rfl ?_
    refine wl_v 0 rfl (v_assign rfl) gn rfl ?_
    refine w_end 1 rfl ?_
    refine g_block (c := trellislaw11_sameBools_c12) rfl ?_
    refine g_loop (c := trellislaw11_sameBools_c13) rfl ?_
    have key1 : ∀ s, Rounds (fun (s : Int) o => trellislaw11_sameBools_b1 x1 x6 s o) s r → (fun (s : Int) => ∀ (_ : Unit), G (trellislaw11_sameBools_C w F r) [.code trellislaw11_sameBools_c14, .inLoop trellislaw11_sameBools_c14, .inBlock 0, .code trellislaw11_sameBools_c10] [(0, .slice A2 n3 c4), (1, .slice A7 n8 c9), (5, .int .i64 s)] [] [Sm w.heap.size F w [], St w []]) s := by
      intro s hs
      refine Rounds.ind (mot := (fun (s : Int) => ∀ (_ : Unit), G (trellislaw11_sameBools_C w F r) [.code trellislaw11_sameBools_c14, .inLoop trellislaw11_sameBools_c14, .inBlock 0, .code trellislaw11_sameBools_c10] [(0, .slice A2 n3 c4), (1, .slice A7 n8 c9), (5, .int .i64 s)] [] [Sm w.heap.size F w [], St w []])) ?_ hs
      clear hs s
      intro x23 o1 h hO1
      show ∀ (_ : Unit), G (trellislaw11_sameBools_C w F r) [.code trellislaw11_sameBools_c14, .inLoop trellislaw11_sameBools_c14, .inBlock 0, .code trellislaw11_sameBools_c10] [(0, .slice A2 n3 c4), (1, .slice A7 n8 c9), (5, .int .i64 x23)] [] [Sm w.heap.size F w [], St w []]
      intro _
      have h : trellislaw11_sameBools_b1 x1 x6 x23 o1 := h
      unfold trellislaw11_sameBools_b1 at h
      refine g_seq (c := trellislaw11_sameBools_c14) rfl ?_
      refine g_seq (c := trellislaw11_sameBools_c15) rfl ?_
      refine g_region (c := trellislaw11_sameBools_c17) rfl rfl ?_
      refine wl_v 0 rfl (v_move rfl) gn rfl ?_
      refine wl_v 1 rfl (v_move rfl) gn rfl ?_
      refine wl_v 2 rfl (v_lenQ un_40 rfl h5.hq) gn rfl ?_
      refine wl_v 3 rfl (v_bin rfl rfl rfl) gn rfl ?_
      refine w_end 4 rfl ?_
      by_cases hp34 : x23 < (x1.length : Int)
      · have h := if_pos' hp34 h
        refine g_true (c := trellislaw11_sameBools_c18) rfl _ rfl ((decide_eq_true hp34)) ?_
        refine g_skip (c := trellislaw11_sameBools_c19) rfl ?_
        refine g_seq (c := trellislaw11_sameBools_c16) rfl ?_
        refine g_block (c := trellislaw11_sameBools_c21) rfl ?_
        refine g_seq (c := trellislaw11_sameBools_c23) rfl ?_
        obtain ⟨hb35, h⟩ := h
        obtain ⟨hb37, h⟩ := h
        have hns : Region.noSelect (Code.ops trellislaw11_sameBools_c24) = true := by kernel_rfl
        refine g_drawF (c := trellislaw11_sameBools_c24) [] [Sm w.heap.size F w [], St w []] [] 9 rfl rfl mix rfl (.slnil) (sels [0, 1] rfl) ?_
        refine wf_v 0 rfl (v_move rfl) gn rfl hns (by kernel_rfl) (by kernel_rfl) rfl rfl ?_
        refine wf_v 1 rfl (v_move rfl) gn rfl hns (by kernel_rfl) (by kernel_rfl) rfl rfl ?_
        have hr41 := Rw.readF (s := St w []) (hl := hlB) (h1 := hone_bool) h5 hb35
        refine wf_v 2 rfl (v_idxR (s := St w []) slE_40 rfl rfl h5 hb35) gn rfl hns (by kernel_rfl) (by kernel_rfl) rfl rfl ?_
        refine wf_v 3 rfl (v_ldA1 (kk := (x23 : Int).toNat * 1) (j := 0) (St w []) ld_4 rfl hr41 rfl (me 1 rfl)) gn rfl hns (by kernel_rfl) (by kernel_rfl) rfl rfl ?_
        refine wf_v 4 rfl (v_move rfl) gn rfl hns (by kernel_rfl) (by kernel_rfl) rfl rfl ?_
        refine wf_v 5 rfl (v_move rfl) gn rfl hns (by kernel_rfl) (by kernel_rfl) rfl rfl ?_
        have hr42 := Rw.readF (s := St w []) (hl := hlB) (h1 := hone_bool) h10 hb37
        refine wf_v 6 rfl (v_idxR (s := St w []) slE_40 rfl rfl h10 hb37) gn rfl hns (by kernel_rfl) (by kernel_rfl) rfl rfl ?_
        refine wf_v 7 rfl (v_ldA1 (kk := (x23 : Int).toNat * 1) (j := 0) (St w []) ld_4 rfl hr42 rfl (me 1 rfl)) gn rfl hns (by kernel_rfl) (by kernel_rfl) rfl rfl ?_
        refine wf_v 8 rfl (v_neB un_4 rfl rfl) gn rfl hns (by kernel_rfl) (by kernel_rfl) rfl rfl ?_
        refine wf_end (by kernel_rfl) ?_
        by_cases hp43 : ((ix x1 x23) != (ix x6 x23)) = true
        · have h := if_pos' hp43 h
          refine g_true (c := trellislaw11_sameBools_c25) rfl _ rfl (hp43) ?_
          refine g_seq (c := trellislaw11_sameBools_c26) rfl ?_
          refine g_region (c := trellislaw11_sameBools_c28) rfl rfl ?_
          refine wl_v 0 rfl (v_assign rfl) gn rfl ?_
          refine w_end 1 rfl ?_
          have h := Out.inr hO1 h
          refine g_retR (c := trellislaw11_sameBools_c29) [.bool false] rfl Try.func20 rfl (.tmp rfl (.nil)) fun wr hLr => ?_
          have hMr : B.Loc w wr [] [St w []] := hLr.pick (rest := []) (perm_of_idx [] [] rfl rfl (by kernel_rfl)) (sels [1] rfl)
          have hMi : ∀ e ∈ ([] : List Ent), e ∈ ([] : List Ent) := sels [] rfl
          show trellislaw11_sameBools_R w F  r (.returned (packV [.bool false])) wr
          rw [h]
          exact ⟨rfl, hMr⟩
        · have h := if_neg' hp43 h
          refine g_false (c := trellislaw11_sameBools_c25) rfl _ rfl ((bf hp43)) ?_
          refine g_skip (c := trellislaw11_sameBools_c27) rfl ?_
          refine g_inBlock ?_
          refine g_region (c := trellislaw11_sameBools_c22) rfl rfl ?_
          refine wl_v 0 rfl (v_move rfl) gn rfl ?_
          refine wl_v 1 rfl (v_bin rfl rfl rfl) gn rfl ?_
          refine wl_v 2 rfl (v_assign rfl) gn rfl ?_
          refine w_end 3 rfl ?_
          refine g_inLoop ?_
          have ih := Out.inl hO1 h
          exact g_go [0, 1] (ih ()) ⟨rfl, rfl, rfl, trivial⟩ (.slnil) rfl
      · have h := if_neg' hp34 h
        refine g_false (c := trellislaw11_sameBools_c18) rfl _ rfl ((decide_eq_false hp34)) ?_
        refine g_exit (c := trellislaw11_sameBools_c20) [.code trellislaw11_sameBools_c10] rfl rfl ?_
        refine g_seq (c := trellislaw11_sameBools_c10) rfl ?_
        refine g_region (c := trellislaw11_sameBools_c30) rfl rfl ?_
        refine wl_v 0 rfl (v_assign rfl) gn rfl ?_
        refine w_end 1 rfl ?_
        have h := Out.inr hO1 h
        refine g_retR (c := trellislaw11_sameBools_c31) [.bool true] rfl Try.func20 rfl (.tmp rfl (.nil)) fun wr hLr => ?_
        have hMr : B.Loc w wr [] [St w []] := hLr.pick (rest := []) (perm_of_idx [] [] rfl rfl (by kernel_rfl)) (sels [1] rfl)
        have hMi : ∀ e ∈ ([] : List Ent), e ∈ ([] : List Ent) := sels [] rfl
        show trellislaw11_sameBools_R w F  r (.returned (packV [.bool true])) wr
        rw [h]
        exact ⟨rfl, hMr⟩
    exact g_go [0, 1] (key1 _ h ()) ⟨rfl, rfl, rfl, trivial⟩ (.slnil) rfl
  · have h := if_neg' hp11 h
    refine g_true (c := trellislaw11_sameBools_c6) rfl _ rfl ((neib hp11)) ?_
    refine g_seq (c := trellislaw11_sameBools_c7) rfl ?_
    refine g_region (c := trellislaw11_sameBools_c32) rfl rfl ?_
    refine wl_v 0 rfl (v_assign rfl) gn rfl ?_
    refine w_end 1 rfl ?_
    refine g_retR (c := trellislaw11_sameBools_c33) [.bool false] rfl Try.func20 rfl (.tmp rfl (.nil)) fun wr hLr => ?_
    have hMr : B.Loc w wr [] [St w []] := hLr.pick (rest := []) (perm_of_idx [] [] rfl rfl (by kernel_rfl)) (sels [1] rfl)
    have hMi : ∀ e ∈ ([] : List Ent), e ∈ ([] : List Ent) := sels [] rfl
    show trellislaw11_sameBools_R w F  r (.returned (packV [.bool false])) wr
    rw [h]
    exact ⟨rfl, hMr⟩
noncomputable abbrev trellislaw11_sameTerms_c0 : Code := bodyOf Try.f21
noncomputable abbrev trellislaw11_sameTerms_c1 : Code := Code.fst trellislaw11_sameTerms_c0
noncomputable abbrev trellislaw11_sameTerms_c2 : Code := Code.snd trellislaw11_sameTerms_c0
noncomputable abbrev trellislaw11_sameTerms_c3 : Code := Code.fst trellislaw11_sameTerms_c2
noncomputable abbrev trellislaw11_sameTerms_c4 : Code := Code.snd trellislaw11_sameTerms_c2
noncomputable abbrev trellislaw11_sameTerms_c5 : Code := Code.fst trellislaw11_sameTerms_c3
noncomputable abbrev trellislaw11_sameTerms_c6 : Code := Code.snd trellislaw11_sameTerms_c3
noncomputable abbrev trellislaw11_sameTerms_c7 : Code := Code.fst trellislaw11_sameTerms_c6
noncomputable abbrev trellislaw11_sameTerms_c8 : Code := Code.snd trellislaw11_sameTerms_c6
noncomputable abbrev trellislaw11_sameTerms_c9 : Code := Code.fst trellislaw11_sameTerms_c4
noncomputable abbrev trellislaw11_sameTerms_c10 : Code := Code.snd trellislaw11_sameTerms_c4
noncomputable abbrev trellislaw11_sameTerms_c11 : Code := Code.fst trellislaw11_sameTerms_c9
noncomputable abbrev trellislaw11_sameTerms_c12 : Code := Code.snd trellislaw11_sameTerms_c9
noncomputable abbrev trellislaw11_sameTerms_c13 : Code := Code.fst trellislaw11_sameTerms_c12
noncomputable abbrev trellislaw11_sameTerms_c14 : Code := Code.fst trellislaw11_sameTerms_c13
noncomputable abbrev trellislaw11_sameTerms_c15 : Code := Code.fst trellislaw11_sameTerms_c14
noncomputable abbrev trellislaw11_sameTerms_c16 : Code := Code.snd trellislaw11_sameTerms_c14
noncomputable abbrev trellislaw11_sameTerms_c17 : Code := Code.fst trellislaw11_sameTerms_c15
noncomputable abbrev trellislaw11_sameTerms_c18 : Code := Code.snd trellislaw11_sameTerms_c15
noncomputable abbrev trellislaw11_sameTerms_c19 : Code := Code.fst trellislaw11_sameTerms_c18
noncomputable abbrev trellislaw11_sameTerms_c20 : Code := Code.snd trellislaw11_sameTerms_c18
noncomputable abbrev trellislaw11_sameTerms_c21 : Code := Code.fst trellislaw11_sameTerms_c16
noncomputable abbrev trellislaw11_sameTerms_c22 : Code := Code.snd trellislaw11_sameTerms_c16
noncomputable abbrev trellislaw11_sameTerms_c23 : Code := Code.fst trellislaw11_sameTerms_c21
noncomputable abbrev trellislaw11_sameTerms_c24 : Code := Code.fst trellislaw11_sameTerms_c23
noncomputable abbrev trellislaw11_sameTerms_c25 : Code := Code.snd trellislaw11_sameTerms_c23
noncomputable abbrev trellislaw11_sameTerms_c26 : Code := Code.fst trellislaw11_sameTerms_c25
noncomputable abbrev trellislaw11_sameTerms_c27 : Code := Code.snd trellislaw11_sameTerms_c25
noncomputable abbrev trellislaw11_sameTerms_c28 : Code := Code.fst trellislaw11_sameTerms_c26
noncomputable abbrev trellislaw11_sameTerms_c29 : Code := Code.snd trellislaw11_sameTerms_c26
noncomputable abbrev trellislaw11_sameTerms_c30 : Code := Code.fst trellislaw11_sameTerms_c10
noncomputable abbrev trellislaw11_sameTerms_c31 : Code := Code.snd trellislaw11_sameTerms_c10
noncomputable abbrev trellislaw11_sameTerms_c32 : Code := Code.fst trellislaw11_sameTerms_c7
noncomputable abbrev trellislaw11_sameTerms_c33 : Code := Code.snd trellislaw11_sameTerms_c7
abbrev trellislaw11_sameTerms_R (w : World) (F : Nat → Prop) (r : Bool) : Ending → World → Prop := fun e w' => e = .returned (.bool r) ∧ B.Loc w w' [] [St w []]
noncomputable abbrev trellislaw11_sameTerms_C (w : World) (F : Nat → Prop) (r : Bool) : Cx := ⟨Try.prog, 21, Try.f21, 26, trellislaw11_sameTerms_R w F  r, w⟩
theorem trellislaw11_sameTerms_calls (w : World) (F : Nat → Prop) (x1 : List Int) (x6 : List Int) (A2 : Option Addr) (n3 : Nat) (c4 : Nat) (A7 : Option Addr) (n8 : Nat) (c9 : Nat) (h5 : Rw (kInt .u64) w (St w []).av A2 n3 c4 x1) (h10 : Rw (kInt .u64) w (St w []).av A7 n8 c9 x6) (hF : ∀ b, F b → b < w.heap.size ∧ ∀ o ∈ ([] : List (List Nat)), b ∉ o) (hL0 : B.Loc w w [] [Sm w.heap.size F w [], St w []]) (r : Bool) (h : trellislaw11_sameTerms x1 x6 r) : Calls Try.prog 21 #[.slice A2 n3 c4, .slice A7 n8 c9] w (trellislaw11_sameTerms_R w F  r) := by
  unfold trellislaw11_sameTerms at h
  refine calls_of_Loc (vs := [.slice A2 n3 c4, .slice A7 n8 c9]) 26 Try.func21 rfl Try.ntmps21 rfl hL0 ?_
  show G (trellislaw11_sameTerms_C w F r) _ _ _ _
  refine g_seq (c := trellislaw11_sameTerms_c0) rfl ?_
  refine g_region (c := trellislaw11_sameTerms_c1) rfl rfl ?_
  refine wl_v 0 rfl (v_assign rfl) gn rfl ?_
  refine w_end 1 rfl ?_
  refine g_seq (c := trellislaw11_sameTerms_c2) rfl ?_
  refine g_seq (c := trellislaw11_sameTerms_c3) rfl ?_
  refine g_region (c := trellislaw11_sameTerms_c5) rfl rfl ?_
  refine wl_v 0 rfl (v_move rfl) gn rfl ?_
  refine wl_v 1 rfl (v_lenQ un_42 rfl h5.hq) gn rfl ?_
  refine wl_v 2 rfl (v_move rfl) gn rfl ?_
  refine wl_v 3 rfl (v_lenQ un_42 rfl h10.hq) gn rfl ?_
  refine wl_v 4 rfl (v_bin rfl rfl rfl) gn rfl ?_
  refine w_end 5 rfl ?_
  by_cases hp11 : (x1.length : Int) = (x6.length : Int)
  · have h := if_pos' hp11 h
    refine g_false (c := trellislaw11_sameTerms_c6) rfl _ rfl ((eqib hp11)) ?_
    refine g_skip (c := trellislaw11_sameTerms_c8) rfl ?_
    refine g_seq (c := trellislaw11_sameTerms_c4) rfl ?_
    refine g_seq (c := trellislaw11_sameTerms_c9) rfl ?_
    refine g_region (c := trellislaw11_sameTerms_c11) rfl rfl ?_
    refine wl_v 0 rfl (v_assign rfl) gn rfl ?_
    refine w_end 1 rfl ?_
    refine g_block (c := trellislaw11_sameTerms_c12) rfl ?_
    refine g_loop (c := trellislaw11_sameTerms_c13) rfl ?_
    have key1 : ∀ s, Rounds (fun (s : Int) o => trellislaw11_sameTerms_b1 x1 x6 s o) s r → (fun (s : Int) => ∀ (_ : Unit), G (trellislaw11_sameTerms_C w F r) [.code trellislaw11_sameTerms_c14, .inLoop trellislaw11_sameTerms_c14, .inBlock 0, .code trellislaw11_sameTerms_c10] [(0, .slice A2 n3 c4), (1, .slice A7 n8 c9), (5, .int .i64 s)] [] [Sm w.heap.size F w [], St w []]) s := by
      intro s hs
      refine Rounds.ind (mot := (fun (s : Int) => ∀ (_ : Unit), G (trellislaw11_sameTerms_C w F r) [.code trellislaw11_sameTerms_c14, .inLoop trellislaw11_sameTerms_c14, .inBlock 0, .code trellislaw11_sameTerms_c10] [(0, .slice A2 n3 c4), (1, .slice A7 n8 c9), (5, .int .i64 s)] [] [Sm w.heap.size F w [], St w []])) ?_ hs
      clear hs s
      intro x23 o1 h hO1
      show ∀ (_ : Unit), G (trellislaw11_sameTerms_C w F r) [.code trellislaw11_sameTerms_c14, .inLoop trellislaw11_sameTerms_c14, .inBlock 0, .code trellislaw11_sameTerms_c10] [(0, .slice A2 n3 c4), (1, .slice A7 n8 c9), (5, .int .i64 x23)] [] [Sm w.heap.size F w [], St w []]
      intro _
      have h : trellislaw11_sameTerms_b1 x1 x6 x23 o1 := h
      unfold trellislaw11_sameTerms_b1 at h
      refine g_seq (c := trellislaw11_sameTerms_c14) rfl ?_
      refine g_seq (c := trellislaw11_sameTerms_c15) rfl ?_
      refine g_region (c := trellislaw11_sameTerms_c17) rfl rfl ?_
      refine wl_v 0 rfl (v_move rfl) gn rfl ?_
      refine wl_v 1 rfl (v_move rfl) gn rfl ?_
      refine wl_v 2 rfl (v_lenQ un_42 rfl h5.hq) gn rfl ?_
      refine wl_v 3 rfl (v_bin rfl rfl rfl) gn rfl ?_
      refine w_end 4 rfl ?_
      by_cases hp34 : x23 < (x1.length : Int)
      · have h := if_pos' hp34 h
        refine g_true (c := trellislaw11_sameTerms_c18) rfl _ rfl ((decide_eq_true hp34)) ?_
        refine g_skip (c := trellislaw11_sameTerms_c19) rfl ?_
        refine g_seq (c := trellislaw11_sameTerms_c16) rfl ?_
        refine g_block (c := trellislaw11_sameTerms_c21) rfl ?_
        refine g_seq (c := trellislaw11_sameTerms_c23) rfl ?_
        obtain ⟨hb35, h⟩ := h
        obtain ⟨hb37, h⟩ := h
        have hns : Region.noSelect (Code.ops trellislaw11_sameTerms_c24) = true := by kernel_rfl
        refine g_drawF (c := trellislaw11_sameTerms_c24) [] [Sm w.heap.size F w [], St w []] [] 9 rfl rfl mix rfl (.slnil) (sels [0, 1] rfl) ?_
        refine wf_v 0 rfl (v_move rfl) gn rfl hns (by kernel_rfl) (by kernel_rfl) rfl rfl ?_
        refine wf_v 1 rfl (v_move rfl) gn rfl hns (by kernel_rfl) (by kernel_rfl) rfl rfl ?_
        have hr41 := Rw.readF (s := St w []) (hl := (hlI .u64)) (h1 := (hone_int .u64)) h5 hb35
        refine wf_v 2 rfl (v_idxR (s := St w []) slE_42 rfl rfl h5 hb35) gn rfl hns (by kernel_rfl) (by kernel_rfl) rfl rfl ?_
        refine wf_v 3 rfl (v_ldA1 (kk := (x23 : Int).toNat * 1) (j := 0) (St w []) ld_29 rfl hr41 rfl (me 1 rfl)) gn rfl hns (by kernel_rfl) (by kernel_rfl) rfl rfl ?_
        refine wf_v 4 rfl (v_move rfl) gn rfl hns (by kernel_rfl) (by kernel_rfl) rfl rfl ?_
        refine wf_v 5 rfl (v_move rfl) gn rfl hns (by kernel_rfl) (by kernel_rfl) rfl rfl ?_
        have hr42 := Rw.readF (s := St w []) (hl := (hlI .u64)) (h1 := (hone_int .u64)) h10 hb37
        refine wf_v 6 rfl (v_idxR (s := St w []) slE_42 rfl rfl h10 hb37) gn rfl hns (by kernel_rfl) (by kernel_rfl) rfl rfl ?_
        refine wf_v 7 rfl (v_ldA1 (kk := (x23 : Int).toNat * 1) (j := 0) (St w []) ld_29 rfl hr42 rfl (me 1 rfl)) gn rfl hns (by kernel_rfl) (by kernel_rfl) rfl rfl ?_
        refine wf_v 8 rfl (v_bin rfl rfl rfl) gn rfl hns (by kernel_rfl) (by kernel_rfl) rfl rfl ?_
        refine wf_end (by kernel_rfl) ?_
        by_cases hp43 : ix x1 x23 = ix x6 x23
        · have h := if_pos' hp43 h
          refine g_false (c := trellislaw11_sameTerms_c25) rfl _ rfl ((eqib hp43)) ?_
          refine g_skip (c := trellislaw11_sameTerms_c27) rfl ?_
          refine g_inBlock ?_
          refine g_region (c := trellislaw11_sameTerms_c22) rfl rfl ?_
          refine wl_v 0 rfl (v_move rfl) gn rfl ?_
          refine wl_v 1 rfl (v_bin rfl rfl rfl) gn rfl ?_
          refine wl_v 2 rfl (v_assign rfl) gn rfl ?_
          refine w_end 3 rfl ?_
          refine g_inLoop ?_
          have ih := Out.inl hO1 h
          exact g_go [0, 1] (ih ()) ⟨rfl, rfl, rfl, trivial⟩ (.slnil) rfl
        · have h := if_neg' hp43 h
          refine g_true (c := trellislaw11_sameTerms_c25) rfl _ rfl ((neib hp43)) ?_
          refine g_seq (c := trellislaw11_sameTerms_c26) rfl ?_
          refine g_region (c := trellislaw11_sameTerms_c28) rfl rfl ?_
          refine wl_v 0 rfl (v_assign rfl) gn rfl ?_
          refine w_end 1 rfl ?_
          have h := Out.inr hO1 h
          refine g_retR (c := trellislaw11_sameTerms_c29) [.bool false] rfl Try.func21 rfl (.tmp rfl (.nil)) fun wr hLr => ?_
          have hMr : B.Loc w wr [] [St w []] := hLr.pick (rest := []) (perm_of_idx [] [] rfl rfl (by kernel_rfl)) (sels [1] rfl)
          have hMi : ∀ e ∈ ([] : List Ent), e ∈ ([] : List Ent) := sels [] rfl
          show trellislaw11_sameTerms_R w F  r (.returned (packV [.bool false])) wr
          rw [h]
          exact ⟨rfl, hMr⟩
      · have h := if_neg' hp34 h
        refine g_false (c := trellislaw11_sameTerms_c18) rfl _ rfl ((decide_eq_false hp34)) ?_
        refine g_exit (c := trellislaw11_sameTerms_c20) [.code trellislaw11_sameTerms_c10] rfl rfl ?_
        refine g_seq (c := trellislaw11_sameTerms_c10) rfl ?_
        refine g_region (c := trellislaw11_sameTerms_c30) rfl rfl ?_
        refine wl_v 0 rfl (v_assign rfl) gn rfl ?_
        refine w_end 1 rfl ?_
        have h := Out.inr hO1 h
        refine g_retR (c := trellislaw11_sameTerms_c31) [.bool true] rfl Try.func21 rfl (.tmp rfl (.nil)) fun wr hLr => ?_
        have hMr : B.Loc w wr [] [St w []] := hLr.pick (rest := []) (perm_of_idx [] [] rfl rfl (by kernel_rfl)) (sels [1] rfl)
        have hMi : ∀ e ∈ ([] : List Ent), e ∈ ([] : List Ent) := sels [] rfl
        show trellislaw11_sameTerms_R w F  r (.returned (packV [.bool true])) wr
        rw [h]
        exact ⟨rfl, hMr⟩
    exact g_go [0, 1] (key1 _ h ()) ⟨rfl, rfl, rfl, trivial⟩ (.slnil) rfl
  · have h := if_neg' hp11 h
    refine g_true (c := trellislaw11_sameTerms_c6) rfl _ rfl ((neib hp11)) ?_
    refine g_seq (c := trellislaw11_sameTerms_c7) rfl ?_
    refine g_region (c := trellislaw11_sameTerms_c32) rfl rfl ?_
    refine wl_v 0 rfl (v_assign rfl) gn rfl ?_
    refine w_end 1 rfl ?_
    refine g_retR (c := trellislaw11_sameTerms_c33) [.bool false] rfl Try.func21 rfl (.tmp rfl (.nil)) fun wr hLr => ?_
    have hMr : B.Loc w wr [] [St w []] := hLr.pick (rest := []) (perm_of_idx [] [] rfl rfl (by kernel_rfl)) (sels [1] rfl)
    have hMi : ∀ e ∈ ([] : List Ent), e ∈ ([] : List Ent) := sels [] rfl
    show trellislaw11_sameTerms_R w F  r (.returned (packV [.bool false])) wr
    rw [h]
    exact ⟨rfl, hMr⟩
noncomputable abbrev trellislaw11_started_c0 : Code := bodyOf Try.f22
noncomputable abbrev trellislaw11_started_c1 : Code := Code.fst trellislaw11_started_c0
noncomputable abbrev trellislaw11_started_c2 : Code := Code.snd trellislaw11_started_c0
noncomputable abbrev trellislaw11_started_c3 : Code := Code.fst trellislaw11_started_c2
noncomputable abbrev trellislaw11_started_c4 : Code := Code.snd trellislaw11_started_c2
noncomputable abbrev trellislaw11_started_c5 : Code := Code.fst trellislaw11_started_c4
noncomputable abbrev trellislaw11_started_c6 : Code := Code.snd trellislaw11_started_c4
noncomputable abbrev trellislaw11_started_c7 : Code := Code.fst trellislaw11_started_c6
noncomputable abbrev trellislaw11_started_c8 : Code := Code.snd trellislaw11_started_c6
noncomputable abbrev trellislaw11_started_c9 : Code := Code.fst trellislaw11_started_c8
noncomputable abbrev trellislaw11_started_c10 : Code := Code.snd trellislaw11_started_c8
noncomputable abbrev trellislaw11_started_c11 : Code := Code.fst trellislaw11_started_c10
noncomputable abbrev trellislaw11_started_c12 : Code := Code.snd trellislaw11_started_c10
noncomputable abbrev trellislaw11_started_c13 : Code := Code.fst trellislaw11_started_c12
noncomputable abbrev trellislaw11_started_c14 : Code := Code.snd trellislaw11_started_c12
noncomputable abbrev trellislaw11_started_c15 : Code := Code.fst trellislaw11_started_c14
noncomputable abbrev trellislaw11_started_c16 : Code := Code.snd trellislaw11_started_c14
abbrev trellislaw11_started_R (w : World) (F : Nat → Prop) (r : Bool) : Ending → World → Prop := fun e w' => e = .returned (.bool r) ∧ B.Loc w w' [] [St w []]
noncomputable abbrev trellislaw11_started_C (w : World) (F : Nat → Prop) (r : Bool) : Cx := ⟨Try.prog, 22, Try.f22, 63, trellislaw11_started_R w F  r, w⟩
theorem trellislaw11_started_calls (w : World) (F : Nat → Prop)  (hF : ∀ b, F b → b < w.heap.size ∧ ∀ o ∈ ([] : List (List Nat)), b ∉ o) (hL0 : B.Loc w w [] [Sm w.heap.size F w [], St w []]) (r : Bool) (h : trellislaw11_started  r) : Calls Try.prog 22 #[] w (trellislaw11_started_R w F  r) := by
  unfold trellislaw11_started at h
  refine calls_of_Loc (vs := []) 63 Try.func22 rfl Try.ntmps22 rfl hL0 ?_
  show G (trellislaw11_started_C w F r) _ _ _ _
  refine g_seq (c := trellislaw11_started_c0) rfl ?_
  refine g_region (c := trellislaw11_started_c1) rfl rfl ?_
  refine wl_v 0 rfl (v_assign rfl) gn rfl ?_
  refine w_end 1 rfl ?_
  refine g_seq (c := trellislaw11_started_c2) rfl ?_
  refine g_region (c := trellislaw11_started_c3) rfl rfl ?_
  refine wl_s 0 rfl (s_alloc [.slice none 0 0, .slice none 0 0, .slice none 0 0] zr_26 rfl fun gb1 => ?_) gn
  refine w_end 1 rfl ?_
  refine g_seq (c := trellislaw11_started_c4) rfl ?_
  refine g_region (c := trellislaw11_started_c5) rfl rfl ?_
  refine wl_v 0 rfl (v_build #[.string (⟨#[]⟩ : ByteArray), .bool false] bd_58 rfl (by kernel_rfl)) gn rfl ?_
  refine wl_v 1 rfl (v_build #[.string (⟨#[97]⟩ : ByteArray), .bool false] bd_58 rfl (by kernel_rfl)) gn rfl ?_
  refine wl_s 2 rfl (s_litO (xs := ([(⟨(⟨#[]⟩ : ByteArray), false⟩ : api_TermDef), (⟨(⟨#[97]⟩ : ByteArray), false⟩ : api_TermDef)] : List api_TermDef)) [.string (⟨#[]⟩ : ByteArray), .bool false, .string (⟨#[97]⟩ : ByteArray), .bool false] bs_22_2 rfl (by kernel_rfl) rfl rfl rfl rfl fun gb4 h5 => ?_) gn
  refine wl_v 3 rfl (v_fldB fo_26_0 rfl) gn rfl ?_
  refine wl_s 4 rfl (s_stB (vs := [.slice (some ⟨gb4, 0, none⟩) 2 2]) (cs' := [.slice (some ⟨gb4, 0, none⟩) 2 2, .slice none 0 0, .slice none 0 0]) (M' := [.own (.slice (some ⟨gb4, 0, none⟩) 2 2) 58 2 2 (([(⟨(⟨#[]⟩ : ByteArray), false⟩ : api_TermDef), (⟨(⟨#[97]⟩ : ByteArray), false⟩ : api_TermDef)] : List api_TermDef).flatMap enc_api_TermDef), .box gb1 26 [.slice (some ⟨gb4, 0, none⟩) 2 2, .slice none 0 0, .slice none 0 0]]) 1 sz_22 rfl rfl rfl rfl rfl rfl rfl rfl rfl ?_) gn
  refine w_end 5 rfl ?_
  refine g_seq (c := trellislaw11_started_c6) rfl ?_
  refine g_region (c := trellislaw11_started_c7) rfl rfl ?_
  refine wl_v 0 rfl (v_build #[.string (⟨#[115]⟩ : ByteArray), .int .i64 1] bd_61 rfl (by kernel_rfl)) gn rfl ?_
  refine wl_s 1 rfl (s_litO (xs := ([(⟨(⟨#[115]⟩ : ByteArray), 1⟩ : api_Sym)] : List api_Sym)) [.string (⟨#[115]⟩ : ByteArray), .int .i64 1] bs_23_1 rfl (by kernel_rfl) rfl rfl rfl rfl fun gb7 h8 => ?_) gn
  refine wl_v 2 rfl (v_fldB fo_26_1 rfl) gn rfl ?_
  refine wl_s 3 rfl (s_stB (vs := [.slice (some ⟨gb7, 0, none⟩) 1 1]) (cs' := [.slice (some ⟨gb4, 0, none⟩) 2 2, .slice (some ⟨gb7, 0, none⟩) 1 1, .slice none 0 0]) (M' := [.own (.slice (some ⟨gb7, 0, none⟩) 1 1) 61 2 1 (([(⟨(⟨#[115]⟩ : ByteArray), 1⟩ : api_Sym)] : List api_Sym).flatMap enc_api_Sym), .own (.slice (some ⟨gb4, 0, none⟩) 2 2) 58 2 2 (([(⟨(⟨#[]⟩ : ByteArray), false⟩ : api_TermDef), (⟨(⟨#[97]⟩ : ByteArray), false⟩ : api_TermDef)] : List api_TermDef).flatMap enc_api_TermDef), .box gb1 26 [.slice (some ⟨gb4, 0, none⟩) 2 2, .slice (some ⟨gb7, 0, none⟩) 1 1, .slice none 0 0]]) 2 sz_23 rfl rfl rfl rfl rfl rfl rfl rfl rfl ?_) gn
  refine w_end 4 rfl ?_
  refine g_seq (c := trellislaw11_started_c8) rfl ?_
  refine g_region (c := trellislaw11_started_c9) rfl rfl ?_
  refine wl_v 0 rfl (v_build #[.int .i64 2, .string (⟨#[]⟩ : ByteArray), .string (⟨#[]⟩ : ByteArray)] bd_36 rfl (by kernel_rfl)) gn rfl ?_
  refine wl_s 1 rfl (s_litO (xs := ([(⟨2, (⟨#[]⟩ : ByteArray), (⟨#[]⟩ : ByteArray)⟩ : api_Ref)] : List api_Ref)) [.int .i64 2, .string (⟨#[]⟩ : ByteArray), .string (⟨#[]⟩ : ByteArray)] bs_27_1 rfl (by kernel_rfl) rfl rfl rfl rfl fun gb10 h11 => ?_) gn
  refine wl_v 2 rfl (v_build #[.int .i64 (-1), .slice (some ⟨gb10, 0, none⟩) 1 1] bd_38 rfl (by kernel_rfl)) gn rfl ?_
  refine wl_v 3 rfl (v_build #[.int .i64 0, .slice none 0 0] bd_38 rfl (by kernel_rfl)) gn rfl ?_
  refine wl_v 4 rfl (v_build #[.int .i64 1, .string (⟨#[]⟩ : ByteArray), .string (⟨#[]⟩ : ByteArray)] bd_36 rfl (by kernel_rfl)) gn rfl ?_
  refine wl_v 5 rfl (v_build #[.int .i64 2, .string (⟨#[]⟩ : ByteArray), .string (⟨#[]⟩ : ByteArray)] bd_36 rfl (by kernel_rfl)) gn rfl ?_
  refine wl_s 6 rfl (s_litO (xs := ([(⟨1, (⟨#[]⟩ : ByteArray), (⟨#[]⟩ : ByteArray)⟩ : api_Ref), (⟨2, (⟨#[]⟩ : ByteArray), (⟨#[]⟩ : ByteArray)⟩ : api_Ref)] : List api_Ref)) [.int .i64 1, .string (⟨#[]⟩ : ByteArray), .string (⟨#[]⟩ : ByteArray), .int .i64 2, .string (⟨#[]⟩ : ByteArray), .string (⟨#[]⟩ : ByteArray)] bs_27_2 rfl (by kernel_rfl) rfl rfl rfl rfl fun gb13 h14 => ?_) gn
  refine wl_v 7 rfl (v_build #[.int .i64 0, .slice (some ⟨gb13, 0, none⟩) 2 2] bd_38 rfl (by kernel_rfl)) gn rfl ?_
  refine w_freeze (F := F) (dk := k_api_Ref) (Sm w.heap.size F w []) 1 rfl h11 (me 0 rfl) Sm.ok (Cells.flat _) fun sw16 sb17 h15 => ?_
  refine w_freeze (F := F) (dk := k_api_Ref) (Sm w.heap.size F w []) 0 rfl h14 (me 1 rfl) Sm.ok (Cells.flat _) fun sw19 sb20 h18 => ?_
  refine w_mark (F := F) fun sw22 sb23 ho24 => ?_
  have hC25 : Cells k_api_Prod (Sm w.heap.size F sw22 sb23).w (Sm w.heap.size F sw22 sb23).av ([(⟨-1, ([(⟨2, (⟨#[]⟩ : ByteArray), (⟨#[]⟩ : ByteArray)⟩ : api_Ref)] : List api_Ref)⟩ : api_Prod), (⟨0, ([] : List api_Ref)⟩ : api_Prod), (⟨0, ([(⟨1, (⟨#[]⟩ : ByteArray), (⟨#[]⟩ : ByteArray)⟩ : api_Ref), (⟨2, (⟨#[]⟩ : ByteArray), (⟨#[]⟩ : ByteArray)⟩ : api_Ref)] : List api_Ref)⟩ : api_Prod)] : List api_Prod) [.int .i64 (-1), .slice (some ⟨gb10, 0, none⟩) 1 1, .int .i64 0, .slice none 0 0, .int .i64 0, .slice (some ⟨gb13, 0, none⟩) 2 2] := (Cells.cons (c1 := [.int .i64 (-1), .slice (some ⟨gb10, 0, none⟩) 1 1]) ⟨(some ⟨gb10, 0, none⟩), 1, 1, rfl, (Rw.older (s := Sm w.heap.size F sw16 sb17) h15 (ho24 _ (me 1 rfl) Sm.ok))⟩ (Cells.cons (c1 := [.int .i64 0, .slice none 0 0]) ⟨none, 0, 0, rfl, Rw.nil⟩ (Cells.cons (c1 := [.int .i64 0, .slice (some ⟨gb13, 0, none⟩) 2 2]) ⟨(some ⟨gb13, 0, none⟩), 2, 2, rfl, (Rw.older (s := Sm w.heap.size F sw19 sb20) h18 (ho24 _ (me 0 rfl) Sm.ok))⟩ Cells.nil)))
  refine wl_s 8 rfl (s_litO (xs := ([(⟨-1, ([(⟨2, (⟨#[]⟩ : ByteArray), (⟨#[]⟩ : ByteArray)⟩ : api_Ref)] : List api_Ref)⟩ : api_Prod), (⟨0, ([] : List api_Ref)⟩ : api_Prod), (⟨0, ([(⟨1, (⟨#[]⟩ : ByteArray), (⟨#[]⟩ : ByteArray)⟩ : api_Ref), (⟨2, (⟨#[]⟩ : ByteArray), (⟨#[]⟩ : ByteArray)⟩ : api_Ref)] : List api_Ref)⟩ : api_Prod)] : List api_Prod)) [.int .i64 (-1), .slice (some ⟨gb10, 0, none⟩) 1 1, .int .i64 0, .slice none 0 0, .int .i64 0, .slice (some ⟨gb13, 0, none⟩) 2 2] bs_24_3 rfl (by kernel_rfl) rfl rfl rfl rfl fun gb26 h27 => ?_) gn
  refine wl_v 9 rfl (v_fldB fo_26_2 rfl) gn rfl ?_
  refine wl_s 10 rfl (s_stB (vs := [.slice (some ⟨gb26, 0, none⟩) 3 3]) (cs' := [.slice (some ⟨gb4, 0, none⟩) 2 2, .slice (some ⟨gb7, 0, none⟩) 1 1, .slice (some ⟨gb26, 0, none⟩) 3 3]) (M' := [.own (.slice (some ⟨gb26, 0, none⟩) 3 3) 38 2 3 [.int .i64 (-1), .slice (some ⟨gb10, 0, none⟩) 1 1, .int .i64 0, .slice none 0 0, .int .i64 0, .slice (some ⟨gb13, 0, none⟩) 2 2], .own (.slice (some ⟨gb7, 0, none⟩) 1 1) 61 2 1 (([(⟨(⟨#[115]⟩ : ByteArray), 1⟩ : api_Sym)] : List api_Sym).flatMap enc_api_Sym), .own (.slice (some ⟨gb4, 0, none⟩) 2 2) 58 2 2 (([(⟨(⟨#[]⟩ : ByteArray), false⟩ : api_TermDef), (⟨(⟨#[97]⟩ : ByteArray), false⟩ : api_TermDef)] : List api_TermDef).flatMap enc_api_TermDef), .box gb1 26 [.slice (some ⟨gb4, 0, none⟩) 2 2, .slice (some ⟨gb7, 0, none⟩) 1 1, .slice (some ⟨gb26, 0, none⟩) 3 3]]) 3 sz_24 rfl rfl rfl rfl rfl rfl rfl rfl rfl ?_) gn
  refine w_end 11 rfl ?_
  refine g_seq (c := trellislaw11_started_c10) rfl ?_
  refine g_region (c := trellislaw11_started_c11) rfl rfl ?_
  refine wl_v 0 rfl (v_ldB [.slice (some ⟨gb4, 0, none⟩) 2 2, .slice (some ⟨gb7, 0, none⟩) 1 1, .slice (some ⟨gb26, 0, none⟩) 3 3] 3 ld_26 rfl rfl rfl rfl) gn rfl ?_
  obtain ⟨r31, hv32, h⟩ := h
  refine wl_s 1 rfl (s_call [.agg #[.slice (some ⟨gb4, 0, none⟩) 2 2, .slice (some ⟨gb7, 0, none⟩) 1 1, .slice (some ⟨gb26, 0, none⟩) 3 3]] rfl Try.func18 rfl rfl rfl fun w28 hL29 => ?_) gn
  have hp30 : List.Perm ([.own (.slice (some ⟨gb26, 0, none⟩) 3 3) 38 2 3 [.int .i64 (-1), .slice (some ⟨gb10, 0, none⟩) 1 1, .int .i64 0, .slice none 0 0, .int .i64 0, .slice (some ⟨gb13, 0, none⟩) 2 2], .own (.slice (some ⟨gb7, 0, none⟩) 1 1) 61 2 1 (([(⟨(⟨#[115]⟩ : ByteArray), 1⟩ : api_Sym)] : List api_Sym).flatMap enc_api_Sym), .own (.slice (some ⟨gb4, 0, none⟩) 2 2) 58 2 2 (([(⟨(⟨#[]⟩ : ByteArray), false⟩ : api_TermDef), (⟨(⟨#[97]⟩ : ByteArray), false⟩ : api_TermDef)] : List api_TermDef).flatMap enc_api_TermDef), .box gb1 26 [.slice (some ⟨gb4, 0, none⟩) 2 2, .slice (some ⟨gb7, 0, none⟩) 1 1, .slice (some ⟨gb26, 0, none⟩) 3 3]] : List Ent) (([] : List Ent) ++ ([.own (.slice (some ⟨gb26, 0, none⟩) 3 3) 38 2 3 [.int .i64 (-1), .slice (some ⟨gb10, 0, none⟩) 1 1, .int .i64 0, .slice none 0 0, .int .i64 0, .slice (some ⟨gb13, 0, none⟩) 2 2], .own (.slice (some ⟨gb7, 0, none⟩) 1 1) 61 2 1 (([(⟨(⟨#[115]⟩ : ByteArray), 1⟩ : api_Sym)] : List api_Sym).flatMap enc_api_Sym), .own (.slice (some ⟨gb4, 0, none⟩) 2 2) 58 2 2 (([(⟨(⟨#[]⟩ : ByteArray), false⟩ : api_TermDef), (⟨(⟨#[97]⟩ : ByteArray), false⟩ : api_TermDef)] : List api_TermDef).flatMap enc_api_TermDef), .box gb1 26 [.slice (some ⟨gb4, 0, none⟩) 2 2, .slice (some ⟨gb7, 0, none⟩) 1 1, .slice (some ⟨gb26, 0, none⟩) 3 3]] : List Ent)) := perm_of_idx [] [0, 1, 2, 3] rfl rfl (by kernel_rfl)
  refine Calls.mono (first_Nullable_calls w28 (Fl ([] : List Snap)) (⟨([(⟨(⟨#[]⟩ : ByteArray), false⟩ : api_TermDef), (⟨(⟨#[97]⟩ : ByteArray), false⟩ : api_TermDef)] : List api_TermDef), ([(⟨(⟨#[115]⟩ : ByteArray), 1⟩ : api_Sym)] : List api_Sym), ([(⟨-1, ([(⟨2, (⟨#[]⟩ : ByteArray), (⟨#[]⟩ : ByteArray)⟩ : api_Ref)] : List api_Ref)⟩ : api_Prod), (⟨0, ([] : List api_Ref)⟩ : api_Prod), (⟨0, ([(⟨1, (⟨#[]⟩ : ByteArray), (⟨#[]⟩ : ByteArray)⟩ : api_Ref), (⟨2, (⟨#[]⟩ : ByteArray), (⟨#[]⟩ : ByteArray)⟩ : api_Ref)] : List api_Ref)⟩ : api_Prod)] : List api_Prod)⟩ : api_Gram) (some ⟨gb4, 0, none⟩) 2 2 (some ⟨gb7, 0, none⟩) 1 1 (some ⟨gb26, 0, none⟩) 3 3 (hL29.argO (dk := k_api_TermDef) hp30 [] rfl 2 rfl rfl h5 (me 3 rfl) (Cells.flat _)) (hL29.argO (dk := k_api_Sym) hp30 [] rfl 1 rfl rfl h8 (me 3 rfl) (Cells.flat _)) (hL29.argO (dk := k_api_Prod) hp30 [] rfl 0 rfl rfl h27 (me 0 rfl) hC25) (hL29.hFl (Sl := ([] : List Snap)) hp30 (sels [] rfl)) (hL29.into hp30 (Fl ([] : List Snap))) r31 hv32) ?_
  rintro _ w38 ⟨A33, n34, c35, rfl, hM39, h36⟩
  have hL40 := hL29.call hp30 hM39
  refine ⟨_, _, _, rfl, hL40, ?_⟩
  refine wl_v 2 rfl (v_assign rfl) gn rfl ?_
  refine w_end 3 rfl ?_
  refine g_seq (c := trellislaw11_started_c12) rfl ?_
  refine g_region (c := trellislaw11_started_c13) rfl rfl ?_
  refine wl_v 0 rfl (v_ldB [.slice (some ⟨gb4, 0, none⟩) 2 2, .slice (some ⟨gb7, 0, none⟩) 1 1, .slice (some ⟨gb26, 0, none⟩) 3 3] 4 ld_26 rfl rfl rfl rfl) gn rfl ?_
  obtain ⟨r44, hv45, h⟩ := h
  refine wl_s 1 rfl (s_call [.agg #[.slice (some ⟨gb4, 0, none⟩) 2 2, .slice (some ⟨gb7, 0, none⟩) 1 1, .slice (some ⟨gb26, 0, none⟩) 3 3]] rfl Try.func19 rfl rfl rfl fun w41 hL42 => ?_) gn
  have hp43 : List.Perm ([.own (.slice A33 n34 c35) 4 1 n34 (r31.flatMap eB), .own (.slice (some ⟨gb26, 0, none⟩) 3 3) 38 2 3 [.int .i64 (-1), .slice (some ⟨gb10, 0, none⟩) 1 1, .int .i64 0, .slice none 0 0, .int .i64 0, .slice (some ⟨gb13, 0, none⟩) 2 2], .own (.slice (some ⟨gb7, 0, none⟩) 1 1) 61 2 1 (([(⟨(⟨#[115]⟩ : ByteArray), 1⟩ : api_Sym)] : List api_Sym).flatMap enc_api_Sym), .own (.slice (some ⟨gb4, 0, none⟩) 2 2) 58 2 2 (([(⟨(⟨#[]⟩ : ByteArray), false⟩ : api_TermDef), (⟨(⟨#[97]⟩ : ByteArray), false⟩ : api_TermDef)] : List api_TermDef).flatMap enc_api_TermDef), .box gb1 26 [.slice (some ⟨gb4, 0, none⟩) 2 2, .slice (some ⟨gb7, 0, none⟩) 1 1, .slice (some ⟨gb26, 0, none⟩) 3 3]] : List Ent) (([] : List Ent) ++ ([.own (.slice A33 n34 c35) 4 1 n34 (r31.flatMap eB), .own (.slice (some ⟨gb26, 0, none⟩) 3 3) 38 2 3 [.int .i64 (-1), .slice (some ⟨gb10, 0, none⟩) 1 1, .int .i64 0, .slice none 0 0, .int .i64 0, .slice (some ⟨gb13, 0, none⟩) 2 2], .own (.slice (some ⟨gb7, 0, none⟩) 1 1) 61 2 1 (([(⟨(⟨#[115]⟩ : ByteArray), 1⟩ : api_Sym)] : List api_Sym).flatMap enc_api_Sym), .own (.slice (some ⟨gb4, 0, none⟩) 2 2) 58 2 2 (([(⟨(⟨#[]⟩ : ByteArray), false⟩ : api_TermDef), (⟨(⟨#[97]⟩ : ByteArray), false⟩ : api_TermDef)] : List api_TermDef).flatMap enc_api_TermDef), .box gb1 26 [.slice (some ⟨gb4, 0, none⟩) 2 2, .slice (some ⟨gb7, 0, none⟩) 1 1, .slice (some ⟨gb26, 0, none⟩) 3 3]] : List Ent)) := perm_of_idx [] [0, 1, 2, 3, 4] rfl rfl (by kernel_rfl)
  refine Calls.mono (first_First_calls w41 (Fl ([] : List Snap)) (⟨([(⟨(⟨#[]⟩ : ByteArray), false⟩ : api_TermDef), (⟨(⟨#[97]⟩ : ByteArray), false⟩ : api_TermDef)] : List api_TermDef), ([(⟨(⟨#[115]⟩ : ByteArray), 1⟩ : api_Sym)] : List api_Sym), ([(⟨-1, ([(⟨2, (⟨#[]⟩ : ByteArray), (⟨#[]⟩ : ByteArray)⟩ : api_Ref)] : List api_Ref)⟩ : api_Prod), (⟨0, ([] : List api_Ref)⟩ : api_Prod), (⟨0, ([(⟨1, (⟨#[]⟩ : ByteArray), (⟨#[]⟩ : ByteArray)⟩ : api_Ref), (⟨2, (⟨#[]⟩ : ByteArray), (⟨#[]⟩ : ByteArray)⟩ : api_Ref)] : List api_Ref)⟩ : api_Prod)] : List api_Prod)⟩ : api_Gram) (some ⟨gb4, 0, none⟩) 2 2 (some ⟨gb7, 0, none⟩) 1 1 (some ⟨gb26, 0, none⟩) 3 3 (hL42.argO (dk := k_api_TermDef) hp43 [] rfl 3 rfl rfl h5 (me 3 rfl) (Cells.flat _)) (hL42.argO (dk := k_api_Sym) hp43 [] rfl 2 rfl rfl h8 (me 3 rfl) (Cells.flat _)) (hL42.argO (dk := k_api_Prod) hp43 [] rfl 1 rfl rfl h27 (me 0 rfl) hC25) (hL42.hFl (Sl := ([] : List Snap)) hp43 (sels [] rfl)) (hL42.into hp43 (Fl ([] : List Snap))) r44 hv45) ?_
  rintro _ w51 ⟨A46, n47, c48, rfl, hM52, h49⟩
  have hL53 := hL42.call hp43 hM52
  refine ⟨_, _, _, rfl, hL53, ?_⟩
  refine wl_v 2 rfl (v_assign rfl) gn rfl ?_
  refine w_end 3 rfl ?_
  refine g_seq (c := trellislaw11_started_c14) rfl ?_
  refine g_region (c := trellislaw11_started_c15) rfl rfl ?_
  refine wl_v 0 rfl (v_move rfl) gn rfl ?_
  refine wl_v 1 rfl (v_lenQ un_40 rfl (Ow.weak hL29.env.size h36).hq) gn rfl ?_
  refine wl_v 2 rfl (v_bin rfl rfl rfl) gn rfl ?_
  refine wl_v 3 rfl (v_move rfl) gn rfl ?_
  by_cases hp54 : (r31.length : Int) = 3
  · have h := if_pos' hp54 h
    refine w_bool 28 rfl ((eqi hp54)) ?_
    refine wl_v 4 rfl (v_move rfl) (gy 28 rfl rfl) rfl ?_
    obtain ⟨hb55, h⟩ := h
    refine wl_v 5 rfl (v_idxO slE_40 rfl rfl (Ow.weak hL29.env.size h36) hb55) (gy 28 rfl rfl) rfl ?_
    refine wl_v 6 rfl (v_ldO1 (.bool (ix r31 2)) 1 ld_4 rfl rfl (fm_get0 hlB hb55 rfl)) (gy 28 rfl rfl) rfl ?_
    refine wl_v 7 rfl (v_pick (b := true) rfl rfl) gn rfl ?_
    refine wl_v 8 rfl (v_move rfl) gn rfl ?_
    by_cases hp56 : (ix r31 2) = true
    · have h := if_pos' hp56 h
      refine w_bool 33 rfl (hp56) ?_
      refine wl_v 9 rfl (v_move rfl) (gy 33 rfl rfl) rfl ?_
      obtain ⟨hb57, h⟩ := h
      refine wl_v 10 rfl (v_idxO slE_40 rfl rfl (Ow.weak hL29.env.size h36) hb57) (gy 33 rfl rfl) rfl ?_
      refine wl_v 11 rfl (v_ldO1 (.bool (ix r31 1)) 1 ld_4 rfl rfl (fm_get0 hlB hb57 rfl)) (gy 33 rfl rfl) rfl ?_
      refine wl_v 12 rfl (v_not rfl) (gy 33 rfl rfl) rfl ?_
      refine wl_v 13 rfl (v_pick (b := true) rfl rfl) gn rfl ?_
      refine wl_v 14 rfl (v_move rfl) gn rfl ?_
      by_cases hp58 : (ix r31 1) = true
      · have h := if_pos' hp58 h
        refine w_bool 39 rfl ((nf hp58)) ?_
        refine wl_pass 15 rfl (ps 39 rfl rfl rfl) ?_
        refine wl_pass 16 rfl (ps 39 rfl rfl rfl) ?_
        refine wl_pass 17 rfl (ps 39 rfl rfl rfl) ?_
        refine wl_v 18 rfl (v_pick (b := false) rfl rfl) gn rfl ?_
        refine wl_v 19 rfl (v_move rfl) gn rfl ?_
        refine wl_pass 20 rfl (ps 44 rfl rfl rfl) ?_
        refine wl_pass 21 rfl (ps 44 rfl rfl rfl) ?_
        refine wl_pass 22 rfl (ps 44 rfl rfl rfl) ?_
        refine wl_pass 23 rfl (ps 44 rfl rfl rfl) ?_
        refine wl_v 24 rfl (v_pick (b := false) rfl rfl) gn rfl ?_
        refine wl_v 25 rfl (v_move rfl) gn rfl ?_
        refine wl_pass 26 rfl (ps 50 rfl rfl rfl) ?_
        refine wl_pass 27 rfl (ps 50 rfl rfl rfl) ?_
        refine wl_pass 28 rfl (ps 50 rfl rfl rfl) ?_
        refine wl_pass 29 rfl (ps 50 rfl rfl rfl) ?_
        refine wl_v 30 rfl (v_pick (b := false) rfl rfl) gn rfl ?_
        refine wl_v 31 rfl (v_move rfl) gn rfl ?_
        refine wl_pass 32 rfl (ps 56 rfl rfl rfl) ?_
        refine wl_pass 33 rfl (ps 56 rfl rfl rfl) ?_
        refine wl_pass 34 rfl (ps 56 rfl rfl rfl) ?_
        refine wl_pass 35 rfl (ps 56 rfl rfl rfl) ?_
        refine wl_pass 36 rfl (ps 56 rfl rfl rfl) ?_
        refine wl_v 37 rfl (v_pick (b := false) rfl rfl) gn rfl ?_
        refine wl_v 38 rfl (v_assign rfl) gn rfl ?_
        refine w_end 39 rfl ?_
        refine g_retR (c := trellislaw11_started_c16) [.bool false] rfl Try.func22 rfl (.tmp rfl (.nil)) fun wr hLr => ?_
        have hMr : B.Loc w wr [] [St w []] := hLr.pick (rest := [.own (.slice A46 n47 c48) 29 1 n47 (r44.flatMap (eI .u64)), .own (.slice A33 n34 c35) 4 1 n34 (r31.flatMap eB), .own (.slice (some ⟨gb26, 0, none⟩) 3 3) 38 2 3 [.int .i64 (-1), .slice (some ⟨gb10, 0, none⟩) 1 1, .int .i64 0, .slice none 0 0, .int .i64 0, .slice (some ⟨gb13, 0, none⟩) 2 2], .own (.slice (some ⟨gb7, 0, none⟩) 1 1) 61 2 1 (([(⟨(⟨#[115]⟩ : ByteArray), 1⟩ : api_Sym)] : List api_Sym).flatMap enc_api_Sym), .own (.slice (some ⟨gb4, 0, none⟩) 2 2) 58 2 2 (([(⟨(⟨#[]⟩ : ByteArray), false⟩ : api_TermDef), (⟨(⟨#[97]⟩ : ByteArray), false⟩ : api_TermDef)] : List api_TermDef).flatMap enc_api_TermDef), .box gb1 26 [.slice (some ⟨gb4, 0, none⟩) 2 2, .slice (some ⟨gb7, 0, none⟩) 1 1, .slice (some ⟨gb26, 0, none⟩) 3 3]]) (perm_of_idx [] [0, 1, 2, 3, 4, 5] rfl rfl (by kernel_rfl)) (sels [4] rfl)
        have hMi : ∀ e ∈ ([] : List Ent), e ∈ ([.own (.slice A46 n47 c48) 29 1 n47 (r44.flatMap (eI .u64)), .own (.slice A33 n34 c35) 4 1 n34 (r31.flatMap eB), .own (.slice (some ⟨gb26, 0, none⟩) 3 3) 38 2 3 [.int .i64 (-1), .slice (some ⟨gb10, 0, none⟩) 1 1, .int .i64 0, .slice none 0 0, .int .i64 0, .slice (some ⟨gb13, 0, none⟩) 2 2], .own (.slice (some ⟨gb7, 0, none⟩) 1 1) 61 2 1 (([(⟨(⟨#[115]⟩ : ByteArray), 1⟩ : api_Sym)] : List api_Sym).flatMap enc_api_Sym), .own (.slice (some ⟨gb4, 0, none⟩) 2 2) 58 2 2 (([(⟨(⟨#[]⟩ : ByteArray), false⟩ : api_TermDef), (⟨(⟨#[97]⟩ : ByteArray), false⟩ : api_TermDef)] : List api_TermDef).flatMap enc_api_TermDef), .box gb1 26 [.slice (some ⟨gb4, 0, none⟩) 2 2, .slice (some ⟨gb7, 0, none⟩) 1 1, .slice (some ⟨gb26, 0, none⟩) 3 3]] : List Ent) := sels [] rfl
        show trellislaw11_started_R w F  r (.returned (packV [.bool false])) wr
        rw [h]
        exact ⟨rfl, hMr⟩
      · have h := if_neg' hp58 h
        refine w_bool 39 rfl ((nt (bf hp58))) ?_
        refine wl_v 15 rfl (v_move rfl) (gy 39 rfl rfl) rfl ?_
        refine wl_v 16 rfl (v_lenQ un_42 rfl (Ow.weak hL42.env.size h49).hq) (gy 39 rfl rfl) rfl ?_
        refine wl_v 17 rfl (v_bin rfl rfl rfl) (gy 39 rfl rfl) rfl ?_
        refine wl_v 18 rfl (v_pick (b := true) rfl rfl) gn rfl ?_
        refine wl_v 19 rfl (v_move rfl) gn rfl ?_
        by_cases hp59 : (r44.length : Int) = 3
        · have h := if_pos' hp59 h
          refine w_bool 44 rfl ((eqi hp59)) ?_
          refine wl_v 20 rfl (v_move rfl) (gy 44 rfl rfl) rfl ?_
          obtain ⟨hb60, h⟩ := h
          refine wl_v 21 rfl (v_idxO slE_42 rfl rfl (Ow.weak hL42.env.size h49) hb60) (gy 44 rfl rfl) rfl ?_
          refine wl_v 22 rfl (v_ldO1 (.int .u64 (ix r44 2)) 0 ld_29 rfl rfl (fm_get0 (hlI .u64) hb60 rfl)) (gy 44 rfl rfl) rfl ?_
          refine wl_v 23 rfl (v_bin rfl rfl rfl) (gy 44 rfl rfl) rfl ?_
          refine wl_v 24 rfl (v_pick (b := true) rfl rfl) gn rfl ?_
          refine wl_v 25 rfl (v_move rfl) gn rfl ?_
          by_cases hp61 : ix r44 2 = 2
          · have h := if_pos' hp61 h
            refine w_bool 50 rfl ((eqi hp61)) ?_
            refine wl_v 26 rfl (v_move rfl) (gy 50 rfl rfl) rfl ?_
            obtain ⟨hb62, h⟩ := h
            refine wl_v 27 rfl (v_idxO slE_42 rfl rfl (Ow.weak hL42.env.size h49) hb62) (gy 50 rfl rfl) rfl ?_
            refine wl_v 28 rfl (v_ldO1 (.int .u64 (ix r44 0)) 0 ld_29 rfl rfl (fm_get0 (hlI .u64) hb62 rfl)) (gy 50 rfl rfl) rfl ?_
            refine wl_v 29 rfl (v_bin rfl rfl rfl) (gy 50 rfl rfl) rfl ?_
            refine wl_v 30 rfl (v_pick (b := true) rfl rfl) gn rfl ?_
            refine wl_v 31 rfl (v_move rfl) gn rfl ?_
            by_cases hp63 : ix r44 0 = 1
            · have h := if_pos' hp63 h
              refine w_bool 56 rfl ((eqi hp63)) ?_
              refine wl_v 32 rfl (v_ldB [.slice (some ⟨gb4, 0, none⟩) 2 2, .slice (some ⟨gb7, 0, none⟩) 1 1, .slice (some ⟨gb26, 0, none⟩) 3 3] 5 ld_26 rfl rfl rfl rfl) (gy 56 rfl rfl) rfl ?_
              refine wl_v 33 rfl (v_build #[.int .i64 2, .string (⟨#[]⟩ : ByteArray), .string (⟨#[]⟩ : ByteArray)] bd_36 rfl (by kernel_rfl)) (gy 56 rfl rfl) rfl ?_
              refine wl_s 34 rfl (s_litO (xs := ([(⟨2, (⟨#[]⟩ : ByteArray), (⟨#[]⟩ : ByteArray)⟩ : api_Ref)] : List api_Ref)) [.int .i64 2, .string (⟨#[]⟩ : ByteArray), .string (⟨#[]⟩ : ByteArray)] bs_27_1 rfl (by kernel_rfl) rfl rfl rfl rfl fun gb65 h66 => ?_) (gy 56 rfl rfl)
              obtain ⟨r70, hv71, h⟩ := h
              refine wl_s 35 rfl (s_call [.agg #[.slice (some ⟨gb4, 0, none⟩) 2 2, .slice (some ⟨gb7, 0, none⟩) 1 1, .slice (some ⟨gb26, 0, none⟩) 3 3], .slice (some ⟨gb65, 0, none⟩) 1 1, .int .u64 1] rfl Try.func13 rfl rfl rfl fun w67 hL68 => ?_) (gy 56 rfl rfl)
              have hp69 : List.Perm ([.own (.slice (some ⟨gb65, 0, none⟩) 1 1) 36 3 1 (([(⟨2, (⟨#[]⟩ : ByteArray), (⟨#[]⟩ : ByteArray)⟩ : api_Ref)] : List api_Ref).flatMap enc_api_Ref), .own (.slice A46 n47 c48) 29 1 n47 (r44.flatMap (eI .u64)), .own (.slice A33 n34 c35) 4 1 n34 (r31.flatMap eB), .own (.slice (some ⟨gb26, 0, none⟩) 3 3) 38 2 3 [.int .i64 (-1), .slice (some ⟨gb10, 0, none⟩) 1 1, .int .i64 0, .slice none 0 0, .int .i64 0, .slice (some ⟨gb13, 0, none⟩) 2 2], .own (.slice (some ⟨gb7, 0, none⟩) 1 1) 61 2 1 (([(⟨(⟨#[115]⟩ : ByteArray), 1⟩ : api_Sym)] : List api_Sym).flatMap enc_api_Sym), .own (.slice (some ⟨gb4, 0, none⟩) 2 2) 58 2 2 (([(⟨(⟨#[]⟩ : ByteArray), false⟩ : api_TermDef), (⟨(⟨#[97]⟩ : ByteArray), false⟩ : api_TermDef)] : List api_TermDef).flatMap enc_api_TermDef), .box gb1 26 [.slice (some ⟨gb4, 0, none⟩) 2 2, .slice (some ⟨gb7, 0, none⟩) 1 1, .slice (some ⟨gb26, 0, none⟩) 3 3]] : List Ent) (([] : List Ent) ++ ([.own (.slice (some ⟨gb65, 0, none⟩) 1 1) 36 3 1 (([(⟨2, (⟨#[]⟩ : ByteArray), (⟨#[]⟩ : ByteArray)⟩ : api_Ref)] : List api_Ref).flatMap enc_api_Ref), .own (.slice A46 n47 c48) 29 1 n47 (r44.flatMap (eI .u64)), .own (.slice A33 n34 c35) 4 1 n34 (r31.flatMap eB), .own (.slice (some ⟨gb26, 0, none⟩) 3 3) 38 2 3 [.int .i64 (-1), .slice (some ⟨gb10, 0, none⟩) 1 1, .int .i64 0, .slice none 0 0, .int .i64 0, .slice (some ⟨gb13, 0, none⟩) 2 2], .own (.slice (some ⟨gb7, 0, none⟩) 1 1) 61 2 1 (([(⟨(⟨#[115]⟩ : ByteArray), 1⟩ : api_Sym)] : List api_Sym).flatMap enc_api_Sym), .own (.slice (some ⟨gb4, 0, none⟩) 2 2) 58 2 2 (([(⟨(⟨#[]⟩ : ByteArray), false⟩ : api_TermDef), (⟨(⟨#[97]⟩ : ByteArray), false⟩ : api_TermDef)] : List api_TermDef).flatMap enc_api_TermDef), .box gb1 26 [.slice (some ⟨gb4, 0, none⟩) 2 2, .slice (some ⟨gb7, 0, none⟩) 1 1, .slice (some ⟨gb26, 0, none⟩) 3 3]] : List Ent)) := perm_of_idx [] [0, 1, 2, 3, 4, 5, 6] rfl rfl (by kernel_rfl)
              refine Calls.mono (first_Of_calls w67 (Fl ([] : List Snap)) (⟨([(⟨(⟨#[]⟩ : ByteArray), false⟩ : api_TermDef), (⟨(⟨#[97]⟩ : ByteArray), false⟩ : api_TermDef)] : List api_TermDef), ([(⟨(⟨#[115]⟩ : ByteArray), 1⟩ : api_Sym)] : List api_Sym), ([(⟨-1, ([(⟨2, (⟨#[]⟩ : ByteArray), (⟨#[]⟩ : ByteArray)⟩ : api_Ref)] : List api_Ref)⟩ : api_Prod), (⟨0, ([] : List api_Ref)⟩ : api_Prod), (⟨0, ([(⟨1, (⟨#[]⟩ : ByteArray), (⟨#[]⟩ : ByteArray)⟩ : api_Ref), (⟨2, (⟨#[]⟩ : ByteArray), (⟨#[]⟩ : ByteArray)⟩ : api_Ref)] : List api_Ref)⟩ : api_Prod)] : List api_Prod)⟩ : api_Gram) ([(⟨2, (⟨#[]⟩ : ByteArray), (⟨#[]⟩ : ByteArray)⟩ : api_Ref)] : List api_Ref) 1 (some ⟨gb4, 0, none⟩) 2 2 (some ⟨gb7, 0, none⟩) 1 1 (some ⟨gb26, 0, none⟩) 3 3 (some ⟨gb65, 0, none⟩) 1 1 (hL68.argO (dk := k_api_TermDef) hp69 [] rfl 5 rfl rfl h5 (me 3 rfl) (Cells.flat _)) (hL68.argO (dk := k_api_Sym) hp69 [] rfl 4 rfl rfl h8 (me 3 rfl) (Cells.flat _)) (hL68.argO (dk := k_api_Prod) hp69 [] rfl 3 rfl rfl h27 (me 0 rfl) hC25) (hL68.argO (dk := k_api_Ref) hp69 [] rfl 0 rfl rfl h66 (me 3 rfl) (Cells.flat _)) (hL68.hFl (Sl := ([] : List Snap)) hp69 (sels [] rfl)) (hL68.into hp69 (Fl ([] : List Snap))) r70 hv71) ?_
              rintro _ w72 ⟨rfl, hM73⟩
              have hL74 := hL68.call hp69 hM73
              refine ⟨_, _, _, rfl, hL74, ?_⟩
              refine wl_v 36 rfl (v_bin rfl rfl rfl) (gy 56 rfl rfl) rfl ?_
              refine wl_v 37 rfl (v_pick (b := true) rfl rfl) gn rfl ?_
              refine wl_v 38 rfl (v_assign rfl) gn rfl ?_
              refine w_end 39 rfl ?_
              refine g_retR (c := trellislaw11_started_c16) [.bool (r70 == 3)] rfl Try.func22 rfl (.tmp rfl (.nil)) fun wr hLr => ?_
              have hMr : B.Loc w wr [] [St w []] := hLr.pick (rest := [.own (.slice (some ⟨gb65, 0, none⟩) 1 1) 36 3 1 (([(⟨2, (⟨#[]⟩ : ByteArray), (⟨#[]⟩ : ByteArray)⟩ : api_Ref)] : List api_Ref).flatMap enc_api_Ref), .own (.slice A46 n47 c48) 29 1 n47 (r44.flatMap (eI .u64)), .own (.slice A33 n34 c35) 4 1 n34 (r31.flatMap eB), .own (.slice (some ⟨gb26, 0, none⟩) 3 3) 38 2 3 [.int .i64 (-1), .slice (some ⟨gb10, 0, none⟩) 1 1, .int .i64 0, .slice none 0 0, .int .i64 0, .slice (some ⟨gb13, 0, none⟩) 2 2], .own (.slice (some ⟨gb7, 0, none⟩) 1 1) 61 2 1 (([(⟨(⟨#[115]⟩ : ByteArray), 1⟩ : api_Sym)] : List api_Sym).flatMap enc_api_Sym), .own (.slice (some ⟨gb4, 0, none⟩) 2 2) 58 2 2 (([(⟨(⟨#[]⟩ : ByteArray), false⟩ : api_TermDef), (⟨(⟨#[97]⟩ : ByteArray), false⟩ : api_TermDef)] : List api_TermDef).flatMap enc_api_TermDef), .box gb1 26 [.slice (some ⟨gb4, 0, none⟩) 2 2, .slice (some ⟨gb7, 0, none⟩) 1 1, .slice (some ⟨gb26, 0, none⟩) 3 3]]) (perm_of_idx [] [0, 1, 2, 3, 4, 5, 6] rfl rfl (by kernel_rfl)) (sels [4] rfl)
              have hMi : ∀ e ∈ ([] : List Ent), e ∈ ([.own (.slice (some ⟨gb65, 0, none⟩) 1 1) 36 3 1 (([(⟨2, (⟨#[]⟩ : ByteArray), (⟨#[]⟩ : ByteArray)⟩ : api_Ref)] : List api_Ref).flatMap enc_api_Ref), .own (.slice A46 n47 c48) 29 1 n47 (r44.flatMap (eI .u64)), .own (.slice A33 n34 c35) 4 1 n34 (r31.flatMap eB), .own (.slice (some ⟨gb26, 0, none⟩) 3 3) 38 2 3 [.int .i64 (-1), .slice (some ⟨gb10, 0, none⟩) 1 1, .int .i64 0, .slice none 0 0, .int .i64 0, .slice (some ⟨gb13, 0, none⟩) 2 2], .own (.slice (some ⟨gb7, 0, none⟩) 1 1) 61 2 1 (([(⟨(⟨#[115]⟩ : ByteArray), 1⟩ : api_Sym)] : List api_Sym).flatMap enc_api_Sym), .own (.slice (some ⟨gb4, 0, none⟩) 2 2) 58 2 2 (([(⟨(⟨#[]⟩ : ByteArray), false⟩ : api_TermDef), (⟨(⟨#[97]⟩ : ByteArray), false⟩ : api_TermDef)] : List api_TermDef).flatMap enc_api_TermDef), .box gb1 26 [.slice (some ⟨gb4, 0, none⟩) 2 2, .slice (some ⟨gb7, 0, none⟩) 1 1, .slice (some ⟨gb26, 0, none⟩) 3 3]] : List Ent) := sels [] rfl
              show trellislaw11_started_R w F  r (.returned (packV [.bool (r70 == 3)])) wr
              rw [h]
              exact ⟨rfl, hMr⟩
            · have h := if_neg' hp63 h
              refine w_bool 56 rfl ((nei hp63)) ?_
              refine wl_pass 32 rfl (ps 56 rfl rfl rfl) ?_
              refine wl_pass 33 rfl (ps 56 rfl rfl rfl) ?_
              refine wl_pass 34 rfl (ps 56 rfl rfl rfl) ?_
              refine wl_pass 35 rfl (ps 56 rfl rfl rfl) ?_
              refine wl_pass 36 rfl (ps 56 rfl rfl rfl) ?_
              refine wl_v 37 rfl (v_pick (b := false) rfl rfl) gn rfl ?_
              refine wl_v 38 rfl (v_assign rfl) gn rfl ?_
              refine w_end 39 rfl ?_
              refine g_retR (c := trellislaw11_started_c16) [.bool false] rfl Try.func22 rfl (.tmp rfl (.nil)) fun wr hLr => ?_
              have hMr : B.Loc w wr [] [St w []] := hLr.pick (rest := [.own (.slice A46 n47 c48) 29 1 n47 (r44.flatMap (eI .u64)), .own (.slice A33 n34 c35) 4 1 n34 (r31.flatMap eB), .own (.slice (some ⟨gb26, 0, none⟩) 3 3) 38 2 3 [.int .i64 (-1), .slice (some ⟨gb10, 0, none⟩) 1 1, .int .i64 0, .slice none 0 0, .int .i64 0, .slice (some ⟨gb13, 0, none⟩) 2 2], .own (.slice (some ⟨gb7, 0, none⟩) 1 1) 61 2 1 (([(⟨(⟨#[115]⟩ : ByteArray), 1⟩ : api_Sym)] : List api_Sym).flatMap enc_api_Sym), .own (.slice (some ⟨gb4, 0, none⟩) 2 2) 58 2 2 (([(⟨(⟨#[]⟩ : ByteArray), false⟩ : api_TermDef), (⟨(⟨#[97]⟩ : ByteArray), false⟩ : api_TermDef)] : List api_TermDef).flatMap enc_api_TermDef), .box gb1 26 [.slice (some ⟨gb4, 0, none⟩) 2 2, .slice (some ⟨gb7, 0, none⟩) 1 1, .slice (some ⟨gb26, 0, none⟩) 3 3]]) (perm_of_idx [] [0, 1, 2, 3, 4, 5] rfl rfl (by kernel_rfl)) (sels [4] rfl)
              have hMi : ∀ e ∈ ([] : List Ent), e ∈ ([.own (.slice A46 n47 c48) 29 1 n47 (r44.flatMap (eI .u64)), .own (.slice A33 n34 c35) 4 1 n34 (r31.flatMap eB), .own (.slice (some ⟨gb26, 0, none⟩) 3 3) 38 2 3 [.int .i64 (-1), .slice (some ⟨gb10, 0, none⟩) 1 1, .int .i64 0, .slice none 0 0, .int .i64 0, .slice (some ⟨gb13, 0, none⟩) 2 2], .own (.slice (some ⟨gb7, 0, none⟩) 1 1) 61 2 1 (([(⟨(⟨#[115]⟩ : ByteArray), 1⟩ : api_Sym)] : List api_Sym).flatMap enc_api_Sym), .own (.slice (some ⟨gb4, 0, none⟩) 2 2) 58 2 2 (([(⟨(⟨#[]⟩ : ByteArray), false⟩ : api_TermDef), (⟨(⟨#[97]⟩ : ByteArray), false⟩ : api_TermDef)] : List api_TermDef).flatMap enc_api_TermDef), .box gb1 26 [.slice (some ⟨gb4, 0, none⟩) 2 2, .slice (some ⟨gb7, 0, none⟩) 1 1, .slice (some ⟨gb26, 0, none⟩) 3 3]] : List Ent) := sels [] rfl
              show trellislaw11_started_R w F  r (.returned (packV [.bool false])) wr
              rw [h]
              exact ⟨rfl, hMr⟩
          · have h := if_neg' hp61 h
            refine w_bool 50 rfl ((nei hp61)) ?_
            refine wl_pass 26 rfl (ps 50 rfl rfl rfl) ?_
            refine wl_pass 27 rfl (ps 50 rfl rfl rfl) ?_
            refine wl_pass 28 rfl (ps 50 rfl rfl rfl) ?_
            refine wl_pass 29 rfl (ps 50 rfl rfl rfl) ?_
            refine wl_v 30 rfl (v_pick (b := false) rfl rfl) gn rfl ?_
            refine wl_v 31 rfl (v_move rfl) gn rfl ?_
            refine wl_pass 32 rfl (ps 56 rfl rfl rfl) ?_
            refine wl_pass 33 rfl (ps 56 rfl rfl rfl) ?_
            refine wl_pass 34 rfl (ps 56 rfl rfl rfl) ?_
            refine wl_pass 35 rfl (ps 56 rfl rfl rfl) ?_
            refine wl_pass 36 rfl (ps 56 rfl rfl rfl) ?_
            refine wl_v 37 rfl (v_pick (b := false) rfl rfl) gn rfl ?_
            refine wl_v 38 rfl (v_assign rfl) gn rfl ?_
            refine w_end 39 rfl ?_
            refine g_retR (c := trellislaw11_started_c16) [.bool false] rfl Try.func22 rfl (.tmp rfl (.nil)) fun wr hLr => ?_
            have hMr : B.Loc w wr [] [St w []] := hLr.pick (rest := [.own (.slice A46 n47 c48) 29 1 n47 (r44.flatMap (eI .u64)), .own (.slice A33 n34 c35) 4 1 n34 (r31.flatMap eB), .own (.slice (some ⟨gb26, 0, none⟩) 3 3) 38 2 3 [.int .i64 (-1), .slice (some ⟨gb10, 0, none⟩) 1 1, .int .i64 0, .slice none 0 0, .int .i64 0, .slice (some ⟨gb13, 0, none⟩) 2 2], .own (.slice (some ⟨gb7, 0, none⟩) 1 1) 61 2 1 (([(⟨(⟨#[115]⟩ : ByteArray), 1⟩ : api_Sym)] : List api_Sym).flatMap enc_api_Sym), .own (.slice (some ⟨gb4, 0, none⟩) 2 2) 58 2 2 (([(⟨(⟨#[]⟩ : ByteArray), false⟩ : api_TermDef), (⟨(⟨#[97]⟩ : ByteArray), false⟩ : api_TermDef)] : List api_TermDef).flatMap enc_api_TermDef), .box gb1 26 [.slice (some ⟨gb4, 0, none⟩) 2 2, .slice (some ⟨gb7, 0, none⟩) 1 1, .slice (some ⟨gb26, 0, none⟩) 3 3]]) (perm_of_idx [] [0, 1, 2, 3, 4, 5] rfl rfl (by kernel_rfl)) (sels [4] rfl)
            have hMi : ∀ e ∈ ([] : List Ent), e ∈ ([.own (.slice A46 n47 c48) 29 1 n47 (r44.flatMap (eI .u64)), .own (.slice A33 n34 c35) 4 1 n34 (r31.flatMap eB), .own (.slice (some ⟨gb26, 0, none⟩) 3 3) 38 2 3 [.int .i64 (-1), .slice (some ⟨gb10, 0, none⟩) 1 1, .int .i64 0, .slice none 0 0, .int .i64 0, .slice (some ⟨gb13, 0, none⟩) 2 2], .own (.slice (some ⟨gb7, 0, none⟩) 1 1) 61 2 1 (([(⟨(⟨#[115]⟩ : ByteArray), 1⟩ : api_Sym)] : List api_Sym).flatMap enc_api_Sym), .own (.slice (some ⟨gb4, 0, none⟩) 2 2) 58 2 2 (([(⟨(⟨#[]⟩ : ByteArray), false⟩ : api_TermDef), (⟨(⟨#[97]⟩ : ByteArray), false⟩ : api_TermDef)] : List api_TermDef).flatMap enc_api_TermDef), .box gb1 26 [.slice (some ⟨gb4, 0, none⟩) 2 2, .slice (some ⟨gb7, 0, none⟩) 1 1, .slice (some ⟨gb26, 0, none⟩) 3 3]] : List Ent) := sels [] rfl
            show trellislaw11_started_R w F  r (.returned (packV [.bool false])) wr
            rw [h]
            exact ⟨rfl, hMr⟩
        · have h := if_neg' hp59 h
          refine w_bool 44 rfl ((nei hp59)) ?_
          refine wl_pass 20 rfl (ps 44 rfl rfl rfl) ?_
          refine wl_pass 21 rfl (ps 44 rfl rfl rfl) ?_
          refine wl_pass 22 rfl (ps 44 rfl rfl rfl) ?_
          refine wl_pass 23 rfl (ps 44 rfl rfl rfl) ?_
          refine wl_v 24 rfl (v_pick (b := false) rfl rfl) gn rfl ?_
          refine wl_v 25 rfl (v_move rfl) gn rfl ?_
          refine wl_pass 26 rfl (ps 50 rfl rfl rfl) ?_
          refine wl_pass 27 rfl (ps 50 rfl rfl rfl) ?_
          refine wl_pass 28 rfl (ps 50 rfl rfl rfl) ?_
          refine wl_pass 29 rfl (ps 50 rfl rfl rfl) ?_
          refine wl_v 30 rfl (v_pick (b := false) rfl rfl) gn rfl ?_
          refine wl_v 31 rfl (v_move rfl) gn rfl ?_
          refine wl_pass 32 rfl (ps 56 rfl rfl rfl) ?_
          refine wl_pass 33 rfl (ps 56 rfl rfl rfl) ?_
          refine wl_pass 34 rfl (ps 56 rfl rfl rfl) ?_
          refine wl_pass 35 rfl (ps 56 rfl rfl rfl) ?_
          refine wl_pass 36 rfl (ps 56 rfl rfl rfl) ?_
          refine wl_v 37 rfl (v_pick (b := false) rfl rfl) gn rfl ?_
          refine wl_v 38 rfl (v_assign rfl) gn rfl ?_
          refine w_end 39 rfl ?_
          refine g_retR (c := trellislaw11_started_c16) [.bool false] rfl Try.func22 rfl (.tmp rfl (.nil)) fun wr hLr => ?_
          have hMr : B.Loc w wr [] [St w []] := hLr.pick (rest := [.own (.slice A46 n47 c48) 29 1 n47 (r44.flatMap (eI .u64)), .own (.slice A33 n34 c35) 4 1 n34 (r31.flatMap eB), .own (.slice (some ⟨gb26, 0, none⟩) 3 3) 38 2 3 [.int .i64 (-1), .slice (some ⟨gb10, 0, none⟩) 1 1, .int .i64 0, .slice none 0 0, .int .i64 0, .slice (some ⟨gb13, 0, none⟩) 2 2], .own (.slice (some ⟨gb7, 0, none⟩) 1 1) 61 2 1 (([(⟨(⟨#[115]⟩ : ByteArray), 1⟩ : api_Sym)] : List api_Sym).flatMap enc_api_Sym), .own (.slice (some ⟨gb4, 0, none⟩) 2 2) 58 2 2 (([(⟨(⟨#[]⟩ : ByteArray), false⟩ : api_TermDef), (⟨(⟨#[97]⟩ : ByteArray), false⟩ : api_TermDef)] : List api_TermDef).flatMap enc_api_TermDef), .box gb1 26 [.slice (some ⟨gb4, 0, none⟩) 2 2, .slice (some ⟨gb7, 0, none⟩) 1 1, .slice (some ⟨gb26, 0, none⟩) 3 3]]) (perm_of_idx [] [0, 1, 2, 3, 4, 5] rfl rfl (by kernel_rfl)) (sels [4] rfl)
          have hMi : ∀ e ∈ ([] : List Ent), e ∈ ([.own (.slice A46 n47 c48) 29 1 n47 (r44.flatMap (eI .u64)), .own (.slice A33 n34 c35) 4 1 n34 (r31.flatMap eB), .own (.slice (some ⟨gb26, 0, none⟩) 3 3) 38 2 3 [.int .i64 (-1), .slice (some ⟨gb10, 0, none⟩) 1 1, .int .i64 0, .slice none 0 0, .int .i64 0, .slice (some ⟨gb13, 0, none⟩) 2 2], .own (.slice (some ⟨gb7, 0, none⟩) 1 1) 61 2 1 (([(⟨(⟨#[115]⟩ : ByteArray), 1⟩ : api_Sym)] : List api_Sym).flatMap enc_api_Sym), .own (.slice (some ⟨gb4, 0, none⟩) 2 2) 58 2 2 (([(⟨(⟨#[]⟩ : ByteArray), false⟩ : api_TermDef), (⟨(⟨#[97]⟩ : ByteArray), false⟩ : api_TermDef)] : List api_TermDef).flatMap enc_api_TermDef), .box gb1 26 [.slice (some ⟨gb4, 0, none⟩) 2 2, .slice (some ⟨gb7, 0, none⟩) 1 1, .slice (some ⟨gb26, 0, none⟩) 3 3]] : List Ent) := sels [] rfl
          show trellislaw11_started_R w F  r (.returned (packV [.bool false])) wr
          rw [h]
          exact ⟨rfl, hMr⟩
    · have h := if_neg' hp56 h
      refine w_bool 33 rfl ((bf hp56)) ?_
      refine wl_pass 9 rfl (ps 33 rfl rfl rfl) ?_
      refine wl_pass 10 rfl (ps 33 rfl rfl rfl) ?_
      refine wl_pass 11 rfl (ps 33 rfl rfl rfl) ?_
      refine wl_pass 12 rfl (ps 33 rfl rfl rfl) ?_
      refine wl_v 13 rfl (v_pick (b := false) rfl rfl) gn rfl ?_
      refine wl_v 14 rfl (v_move rfl) gn rfl ?_
      refine wl_pass 15 rfl (ps 39 rfl rfl rfl) ?_
      refine wl_pass 16 rfl (ps 39 rfl rfl rfl) ?_
      refine wl_pass 17 rfl (ps 39 rfl rfl rfl) ?_
      refine wl_v 18 rfl (v_pick (b := false) rfl rfl) gn rfl ?_
      refine wl_v 19 rfl (v_move rfl) gn rfl ?_
      refine wl_pass 20 rfl (ps 44 rfl rfl rfl) ?_
      refine wl_pass 21 rfl (ps 44 rfl rfl rfl) ?_
      refine wl_pass 22 rfl (ps 44 rfl rfl rfl) ?_
      refine wl_pass 23 rfl (ps 44 rfl rfl rfl) ?_
      refine wl_v 24 rfl (v_pick (b := false) rfl rfl) gn rfl ?_
      refine wl_v 25 rfl (v_move rfl) gn rfl ?_
      refine wl_pass 26 rfl (ps 50 rfl rfl rfl) ?_
      refine wl_pass 27 rfl (ps 50 rfl rfl rfl) ?_
      refine wl_pass 28 rfl (ps 50 rfl rfl rfl) ?_
      refine wl_pass 29 rfl (ps 50 rfl rfl rfl) ?_
      refine wl_v 30 rfl (v_pick (b := false) rfl rfl) gn rfl ?_
      refine wl_v 31 rfl (v_move rfl) gn rfl ?_
      refine wl_pass 32 rfl (ps 56 rfl rfl rfl) ?_
      refine wl_pass 33 rfl (ps 56 rfl rfl rfl) ?_
      refine wl_pass 34 rfl (ps 56 rfl rfl rfl) ?_
      refine wl_pass 35 rfl (ps 56 rfl rfl rfl) ?_
      refine wl_pass 36 rfl (ps 56 rfl rfl rfl) ?_
      refine wl_v 37 rfl (v_pick (b := false) rfl rfl) gn rfl ?_
      refine wl_v 38 rfl (v_assign rfl) gn rfl ?_
      refine w_end 39 rfl ?_
      refine g_retR (c := trellislaw11_started_c16) [.bool false] rfl Try.func22 rfl (.tmp rfl (.nil)) fun wr hLr => ?_
      have hMr : B.Loc w wr [] [St w []] := hLr.pick (rest := [.own (.slice A46 n47 c48) 29 1 n47 (r44.flatMap (eI .u64)), .own (.slice A33 n34 c35) 4 1 n34 (r31.flatMap eB), .own (.slice (some ⟨gb26, 0, none⟩) 3 3) 38 2 3 [.int .i64 (-1), .slice (some ⟨gb10, 0, none⟩) 1 1, .int .i64 0, .slice none 0 0, .int .i64 0, .slice (some ⟨gb13, 0, none⟩) 2 2], .own (.slice (some ⟨gb7, 0, none⟩) 1 1) 61 2 1 (([(⟨(⟨#[115]⟩ : ByteArray), 1⟩ : api_Sym)] : List api_Sym).flatMap enc_api_Sym), .own (.slice (some ⟨gb4, 0, none⟩) 2 2) 58 2 2 (([(⟨(⟨#[]⟩ : ByteArray), false⟩ : api_TermDef), (⟨(⟨#[97]⟩ : ByteArray), false⟩ : api_TermDef)] : List api_TermDef).flatMap enc_api_TermDef), .box gb1 26 [.slice (some ⟨gb4, 0, none⟩) 2 2, .slice (some ⟨gb7, 0, none⟩) 1 1, .slice (some ⟨gb26, 0, none⟩) 3 3]]) (perm_of_idx [] [0, 1, 2, 3, 4, 5] rfl rfl (by kernel_rfl)) (sels [4] rfl)
      have hMi : ∀ e ∈ ([] : List Ent), e ∈ ([.own (.slice A46 n47 c48) 29 1 n47 (r44.flatMap (eI .u64)), .own (.slice A33 n34 c35) 4 1 n34 (r31.flatMap eB), .own (.slice (some ⟨gb26, 0, none⟩) 3 3) 38 2 3 [.int .i64 (-1), .slice (some ⟨gb10, 0, none⟩) 1 1, .int .i64 0, .slice none 0 0, .int .i64 0, .slice (some ⟨gb13, 0, none⟩) 2 2], .own (.slice (some ⟨gb7, 0, none⟩) 1 1) 61 2 1 (([(⟨(⟨#[115]⟩ : ByteArray), 1⟩ : api_Sym)] : List api_Sym).flatMap enc_api_Sym), .own (.slice (some ⟨gb4, 0, none⟩) 2 2) 58 2 2 (([(⟨(⟨#[]⟩ : ByteArray), false⟩ : api_TermDef), (⟨(⟨#[97]⟩ : ByteArray), false⟩ : api_TermDef)] : List api_TermDef).flatMap enc_api_TermDef), .box gb1 26 [.slice (some ⟨gb4, 0, none⟩) 2 2, .slice (some ⟨gb7, 0, none⟩) 1 1, .slice (some ⟨gb26, 0, none⟩) 3 3]] : List Ent) := sels [] rfl
      show trellislaw11_started_R w F  r (.returned (packV [.bool false])) wr
      rw [h]
      exact ⟨rfl, hMr⟩
  · have h := if_neg' hp54 h
    refine w_bool 28 rfl ((nei hp54)) ?_
    refine wl_pass 4 rfl (ps 28 rfl rfl rfl) ?_
    refine wl_pass 5 rfl (ps 28 rfl rfl rfl) ?_
    refine wl_pass 6 rfl (ps 28 rfl rfl rfl) ?_
    refine wl_v 7 rfl (v_pick (b := false) rfl rfl) gn rfl ?_
    refine wl_v 8 rfl (v_move rfl) gn rfl ?_
    refine wl_pass 9 rfl (ps 33 rfl rfl rfl) ?_
    refine wl_pass 10 rfl (ps 33 rfl rfl rfl) ?_
    refine wl_pass 11 rfl (ps 33 rfl rfl rfl) ?_
    refine wl_pass 12 rfl (ps 33 rfl rfl rfl) ?_
    refine wl_v 13 rfl (v_pick (b := false) rfl rfl) gn rfl ?_
    refine wl_v 14 rfl (v_move rfl) gn rfl ?_
    refine wl_pass 15 rfl (ps 39 rfl rfl rfl) ?_
    refine wl_pass 16 rfl (ps 39 rfl rfl rfl) ?_
    refine wl_pass 17 rfl (ps 39 rfl rfl rfl) ?_
    refine wl_v 18 rfl (v_pick (b := false) rfl rfl) gn rfl ?_
    refine wl_v 19 rfl (v_move rfl) gn rfl ?_
    refine wl_pass 20 rfl (ps 44 rfl rfl rfl) ?_
    refine wl_pass 21 rfl (ps 44 rfl rfl rfl) ?_
    refine wl_pass 22 rfl (ps 44 rfl rfl rfl) ?_
    refine wl_pass 23 rfl (ps 44 rfl rfl rfl) ?_
    refine wl_v 24 rfl (v_pick (b := false) rfl rfl) gn rfl ?_
    refine wl_v 25 rfl (v_move rfl) gn rfl ?_
    refine wl_pass 26 rfl (ps 50 rfl rfl rfl) ?_
    refine wl_pass 27 rfl (ps 50 rfl rfl rfl) ?_
    refine wl_pass 28 rfl (ps 50 rfl rfl rfl) ?_
    refine wl_pass 29 rfl (ps 50 rfl rfl rfl) ?_
    refine wl_v 30 rfl (v_pick (b := false) rfl rfl) gn rfl ?_
    refine wl_v 31 rfl (v_move rfl) gn rfl ?_
    refine wl_pass 32 rfl (ps 56 rfl rfl rfl) ?_
    refine wl_pass 33 rfl (ps 56 rfl rfl rfl) ?_
    refine wl_pass 34 rfl (ps 56 rfl rfl rfl) ?_
    refine wl_pass 35 rfl (ps 56 rfl rfl rfl) ?_
    refine wl_pass 36 rfl (ps 56 rfl rfl rfl) ?_
    refine wl_v 37 rfl (v_pick (b := false) rfl rfl) gn rfl ?_
    refine wl_v 38 rfl (v_assign rfl) gn rfl ?_
    refine w_end 39 rfl ?_
    refine g_retR (c := trellislaw11_started_c16) [.bool false] rfl Try.func22 rfl (.tmp rfl (.nil)) fun wr hLr => ?_
    have hMr : B.Loc w wr [] [St w []] := hLr.pick (rest := [.own (.slice A46 n47 c48) 29 1 n47 (r44.flatMap (eI .u64)), .own (.slice A33 n34 c35) 4 1 n34 (r31.flatMap eB), .own (.slice (some ⟨gb26, 0, none⟩) 3 3) 38 2 3 [.int .i64 (-1), .slice (some ⟨gb10, 0, none⟩) 1 1, .int .i64 0, .slice none 0 0, .int .i64 0, .slice (some ⟨gb13, 0, none⟩) 2 2], .own (.slice (some ⟨gb7, 0, none⟩) 1 1) 61 2 1 (([(⟨(⟨#[115]⟩ : ByteArray), 1⟩ : api_Sym)] : List api_Sym).flatMap enc_api_Sym), .own (.slice (some ⟨gb4, 0, none⟩) 2 2) 58 2 2 (([(⟨(⟨#[]⟩ : ByteArray), false⟩ : api_TermDef), (⟨(⟨#[97]⟩ : ByteArray), false⟩ : api_TermDef)] : List api_TermDef).flatMap enc_api_TermDef), .box gb1 26 [.slice (some ⟨gb4, 0, none⟩) 2 2, .slice (some ⟨gb7, 0, none⟩) 1 1, .slice (some ⟨gb26, 0, none⟩) 3 3]]) (perm_of_idx [] [0, 1, 2, 3, 4, 5] rfl rfl (by kernel_rfl)) (sels [4] rfl)
    have hMi : ∀ e ∈ ([] : List Ent), e ∈ ([.own (.slice A46 n47 c48) 29 1 n47 (r44.flatMap (eI .u64)), .own (.slice A33 n34 c35) 4 1 n34 (r31.flatMap eB), .own (.slice (some ⟨gb26, 0, none⟩) 3 3) 38 2 3 [.int .i64 (-1), .slice (some ⟨gb10, 0, none⟩) 1 1, .int .i64 0, .slice none 0 0, .int .i64 0, .slice (some ⟨gb13, 0, none⟩) 2 2], .own (.slice (some ⟨gb7, 0, none⟩) 1 1) 61 2 1 (([(⟨(⟨#[115]⟩ : ByteArray), 1⟩ : api_Sym)] : List api_Sym).flatMap enc_api_Sym), .own (.slice (some ⟨gb4, 0, none⟩) 2 2) 58 2 2 (([(⟨(⟨#[]⟩ : ByteArray), false⟩ : api_TermDef), (⟨(⟨#[97]⟩ : ByteArray), false⟩ : api_TermDef)] : List api_TermDef).flatMap enc_api_TermDef), .box gb1 26 [.slice (some ⟨gb4, 0, none⟩) 2 2, .slice (some ⟨gb7, 0, none⟩) 1 1, .slice (some ⟨gb26, 0, none⟩) 3 3]] : List Ent) := sels [] rfl
    show trellislaw11_started_R w F  r (.returned (packV [.bool false])) wr
    rw [h]
    exact ⟨rfl, hMr⟩
noncomputable abbrev trellislaw11_symbols_c0 : Code := bodyOf Try.f25
noncomputable abbrev trellislaw11_symbols_c1 : Code := Code.fst trellislaw11_symbols_c0
noncomputable abbrev trellislaw11_symbols_c2 : Code := Code.snd trellislaw11_symbols_c0
noncomputable abbrev trellislaw11_symbols_c3 : Code := Code.fst trellislaw11_symbols_c2
noncomputable abbrev trellislaw11_symbols_c4 : Code := Code.snd trellislaw11_symbols_c2
noncomputable abbrev trellislaw11_symbols_c5 : Code := Code.fst trellislaw11_symbols_c3
noncomputable abbrev trellislaw11_symbols_c6 : Code := Code.snd trellislaw11_symbols_c3
noncomputable abbrev trellislaw11_symbols_c7 : Code := Code.fst trellislaw11_symbols_c6
noncomputable abbrev trellislaw11_symbols_c8 : Code := Code.fst trellislaw11_symbols_c7
noncomputable abbrev trellislaw11_symbols_c9 : Code := Code.fst trellislaw11_symbols_c8
noncomputable abbrev trellislaw11_symbols_c10 : Code := Code.snd trellislaw11_symbols_c8
noncomputable abbrev trellislaw11_symbols_c11 : Code := Code.fst trellislaw11_symbols_c9
noncomputable abbrev trellislaw11_symbols_c12 : Code := Code.snd trellislaw11_symbols_c9
noncomputable abbrev trellislaw11_symbols_c13 : Code := Code.fst trellislaw11_symbols_c12
noncomputable abbrev trellislaw11_symbols_c14 : Code := Code.snd trellislaw11_symbols_c12
noncomputable abbrev trellislaw11_symbols_c15 : Code := Code.fst trellislaw11_symbols_c10
noncomputable abbrev trellislaw11_symbols_c16 : Code := Code.snd trellislaw11_symbols_c10
noncomputable abbrev trellislaw11_symbols_c17 : Code := Code.fst trellislaw11_symbols_c15
noncomputable abbrev trellislaw11_symbols_c18 : Code := Code.fst trellislaw11_symbols_c17
noncomputable abbrev trellislaw11_symbols_c19 : Code := Code.snd trellislaw11_symbols_c17
noncomputable abbrev trellislaw11_symbols_c20 : Code := Code.fst trellislaw11_symbols_c19
noncomputable abbrev trellislaw11_symbols_c21 : Code := Code.snd trellislaw11_symbols_c19
noncomputable abbrev trellislaw11_symbols_c22 : Code := Code.fst trellislaw11_symbols_c20
noncomputable abbrev trellislaw11_symbols_c23 : Code := Code.snd trellislaw11_symbols_c20
noncomputable abbrev trellislaw11_symbols_c24 : Code := Code.fst trellislaw11_symbols_c4
noncomputable abbrev trellislaw11_symbols_c25 : Code := Code.snd trellislaw11_symbols_c4
abbrev trellislaw11_symbols_R (w : World) (F : Nat → Prop) (r : Bool) : Ending → World → Prop := fun e w' => e = .returned (.bool r) ∧ B.Loc w w' [] [St w []]
noncomputable abbrev trellislaw11_symbols_C (w : World) (F : Nat → Prop) (r : Bool) : Cx := ⟨Try.prog, 25, Try.f25, 33, trellislaw11_symbols_R w F  r, w⟩
theorem trellislaw11_symbols_calls (w : World) (F : Nat → Prop) (x1 : api_Gram) (x14 : List api_Ref) (A2 : Option Addr) (n3 : Nat) (c4 : Nat) (A6 : Option Addr) (n7 : Nat) (c8 : Nat) (A10 : Option Addr) (n11 : Nat) (c12 : Nat) (A15 : Option Addr) (n16 : Nat) (c17 : Nat) (h5 : Rw k_api_TermDef w (St w []).av A2 n3 c4 x1.terms) (h9 : Rw k_api_Sym w (St w []).av A6 n7 c8 x1.syms) (h13 : Rw k_api_Prod w (St w []).av A10 n11 c12 x1.prods) (h18 : Rw k_api_Ref w (St w []).av A15 n16 c17 x14) (hF : ∀ b, F b → b < w.heap.size ∧ ∀ o ∈ ([] : List (List Nat)), b ∉ o) (hL0 : B.Loc w w [] [Sm w.heap.size F w [], St w []]) (r : Bool) (h : trellislaw11_symbols x1 x14 r) : Calls Try.prog 25 #[.agg #[.slice A2 n3 c4, .slice A6 n7 c8, .slice A10 n11 c12], .slice A15 n16 c17] w (trellislaw11_symbols_R w F  r) := by
  unfold trellislaw11_symbols at h
  refine calls_of_Loc (vs := [.agg #[.slice A2 n3 c4, .slice A6 n7 c8, .slice A10 n11 c12], .slice A15 n16 c17]) 33 Try.func25 rfl Try.ntmps25 rfl hL0 ?_
  show G (trellislaw11_symbols_C w F r) _ _ _ _
  refine g_seq (c := trellislaw11_symbols_c0) rfl ?_
  refine g_region (c := trellislaw11_symbols_c1) rfl rfl ?_
  refine wl_s 0 rfl (s_box [.slice A2 n3 c4, .slice A6 n7 c8, .slice A10 n11 c12] rfl rfl rfl fun gb19 => ?_) gn
  refine wl_v 1 rfl (v_assign rfl) gn rfl ?_
  refine w_end 2 rfl ?_
  refine g_seq (c := trellislaw11_symbols_c2) rfl ?_
  refine g_seq (c := trellislaw11_symbols_c3) rfl ?_
  refine g_region (c := trellislaw11_symbols_c5) rfl rfl ?_
  refine wl_v 0 rfl (v_assign rfl) gn rfl ?_
  refine w_end 1 rfl ?_
  refine g_block (c := trellislaw11_symbols_c6) rfl ?_
  refine g_loop (c := trellislaw11_symbols_c7) rfl ?_
  have key1 : ∀ s, Rounds (fun (s : Int) o => trellislaw11_symbols_b1 x14 x1 s o) s r → (fun (s : Int) => ∀ (_ : Unit), G (trellislaw11_symbols_C w F r) [.code trellislaw11_symbols_c8, .inLoop trellislaw11_symbols_c8, .inBlock 0, .code trellislaw11_symbols_c4] [(1, .slice A15 n16 c17), (2, .pointer (some ⟨gb19, 0, none⟩)), (5, .int .i64 s)] [.box gb19 26 [.slice A2 n3 c4, .slice A6 n7 c8, .slice A10 n11 c12]] [Sm w.heap.size F w [], St w []]) s := by
    intro s hs
    refine Rounds.ind (mot := (fun (s : Int) => ∀ (_ : Unit), G (trellislaw11_symbols_C w F r) [.code trellislaw11_symbols_c8, .inLoop trellislaw11_symbols_c8, .inBlock 0, .code trellislaw11_symbols_c4] [(1, .slice A15 n16 c17), (2, .pointer (some ⟨gb19, 0, none⟩)), (5, .int .i64 s)] [.box gb19 26 [.slice A2 n3 c4, .slice A6 n7 c8, .slice A10 n11 c12]] [Sm w.heap.size F w [], St w []])) ?_ hs
    clear hs s
    intro x34 o1 h hO1
    show ∀ (_ : Unit), G (trellislaw11_symbols_C w F r) [.code trellislaw11_symbols_c8, .inLoop trellislaw11_symbols_c8, .inBlock 0, .code trellislaw11_symbols_c4] [(1, .slice A15 n16 c17), (2, .pointer (some ⟨gb19, 0, none⟩)), (5, .int .i64 x34)] [.box gb19 26 [.slice A2 n3 c4, .slice A6 n7 c8, .slice A10 n11 c12]] [Sm w.heap.size F w [], St w []]
    intro _
    have h : trellislaw11_symbols_b1 x14 x1 x34 o1 := h
    unfold trellislaw11_symbols_b1 at h
    refine g_seq (c := trellislaw11_symbols_c8) rfl ?_
    refine g_seq (c := trellislaw11_symbols_c9) rfl ?_
    refine g_region (c := trellislaw11_symbols_c11) rfl rfl ?_
    refine wl_v 0 rfl (v_move rfl) gn rfl ?_
    refine wl_v 1 rfl (v_move rfl) gn rfl ?_
    refine wl_v 2 rfl (v_lenQ un_27 rfl h18.hq) gn rfl ?_
    refine wl_v 3 rfl (v_bin rfl rfl rfl) gn rfl ?_
    refine w_end 4 rfl ?_
    by_cases hp47 : x34 < (x14.length : Int)
    · have h := if_pos' hp47 h
      refine g_true (c := trellislaw11_symbols_c12) rfl _ rfl ((decide_eq_true hp47)) ?_
      refine g_skip (c := trellislaw11_symbols_c13) rfl ?_
      refine g_seq (c := trellislaw11_symbols_c10) rfl ?_
      refine g_block (c := trellislaw11_symbols_c15) rfl ?_
      refine g_seq (c := trellislaw11_symbols_c17) rfl ?_
      obtain ⟨hb48, h⟩ := h
      by_cases hp50 : (ix x14 x34).sym < 0
      · have h := if_pos' hp50 h
        have hns : Region.noSelect (Code.ops trellislaw11_symbols_c18) = true := by kernel_rfl
        refine g_drawF (c := trellislaw11_symbols_c18) [.box gb19 26 [.slice A2 n3 c4, .slice A6 n7 c8, .slice A10 n11 c12]] [Sm w.heap.size F w [], St w []] [] 21 rfl rfl mix rfl (.cons_cons _ (.slnil)) (sels [0, 1] rfl) ?_
        refine wf_v 0 rfl (v_move rfl) gn rfl hns (by kernel_rfl) (by kernel_rfl) rfl rfl ?_
        refine wf_v 1 rfl (v_move rfl) gn rfl hns (by kernel_rfl) (by kernel_rfl) rfl rfl ?_
        have hr52 := Rw.readF (s := St w []) (hl := hl_api_Ref) (h1 := h1_api_Ref) h18 hb48
        refine wf_v 2 rfl (v_idxR (s := St w []) slE_27 rfl rfl h18 hb48) gn rfl hns (by kernel_rfl) (by kernel_rfl) rfl rfl ?_
        refine wf_v 3 rfl (v_fldA fo_36_0 rfl) gn rfl hns (by kernel_rfl) (by kernel_rfl) rfl rfl ?_
        refine wf_v 4 rfl (v_ldA1 (kk := (x34 : Int).toNat * 3) (j := 0) (St w []) ld_3 rfl hr52 rfl (me 1 rfl)) gn rfl hns (by kernel_rfl) (by kernel_rfl) rfl rfl ?_
        refine wf_v 5 rfl (v_bin rfl rfl rfl) gn rfl hns (by kernel_rfl) (by kernel_rfl) rfl rfl ?_
        refine wf_v 6 rfl (v_move rfl) gn rfl hns (by kernel_rfl) (by kernel_rfl) rfl rfl ?_
        refine wf_bool 18 rfl ((decide_eq_true hp50)) ?_
        refine wf_pass 7 rfl (ps 18 rfl rfl rfl) hns (by kernel_rfl) (by kernel_rfl) rfl rfl ?_
        refine wf_pass 8 rfl (ps 18 rfl rfl rfl) hns (by kernel_rfl) (by kernel_rfl) rfl rfl ?_
        refine wf_pass 9 rfl (ps 18 rfl rfl rfl) hns (by kernel_rfl) (by kernel_rfl) rfl rfl ?_
        refine wf_pass 10 rfl (ps 18 rfl rfl rfl) hns (by kernel_rfl) (by kernel_rfl) rfl rfl ?_
        refine wf_pass 11 rfl (ps 18 rfl rfl rfl) hns (by kernel_rfl) (by kernel_rfl) rfl rfl ?_
        refine wf_pass 12 rfl (ps 18 rfl rfl rfl) hns (by kernel_rfl) (by kernel_rfl) rfl rfl ?_
        refine wf_pass 13 rfl (ps 18 rfl rfl rfl) hns (by kernel_rfl) (by kernel_rfl) rfl rfl ?_
        refine wf_pass 14 rfl (ps 18 rfl rfl rfl) hns (by kernel_rfl) (by kernel_rfl) rfl rfl ?_
        refine wf_pass 15 rfl (ps 18 rfl rfl rfl) hns (by kernel_rfl) (by kernel_rfl) rfl rfl ?_
        refine wf_pass 16 rfl (ps 18 rfl rfl rfl) hns (by kernel_rfl) (by kernel_rfl) rfl rfl ?_
        refine wf_pass 17 rfl (ps 18 rfl rfl rfl) hns (by kernel_rfl) (by kernel_rfl) rfl rfl ?_
        refine wf_pass 18 rfl (ps 18 rfl rfl rfl) hns (by kernel_rfl) (by kernel_rfl) rfl rfl ?_
        refine wf_pass 19 rfl (ps 18 rfl rfl rfl) hns (by kernel_rfl) (by kernel_rfl) rfl rfl ?_
        refine wf_v 20 rfl (v_pick (b := true) rfl rfl) gn rfl hns (by kernel_rfl) (by kernel_rfl) rfl rfl ?_
        refine wf_end (by kernel_rfl) ?_
        refine g_true (c := trellislaw11_symbols_c19) rfl _ rfl (rfl) ?_
        refine g_seq (c := trellislaw11_symbols_c20) rfl ?_
        refine g_region (c := trellislaw11_symbols_c22) rfl rfl ?_
        refine wl_v 0 rfl (v_assign rfl) gn rfl ?_
        refine w_end 1 rfl ?_
        have h := Out.inr hO1 h
        refine g_retR (c := trellislaw11_symbols_c23) [.bool false] rfl Try.func25 rfl (.tmp rfl (.nil)) fun wr hLr => ?_
        have hMr : B.Loc w wr [] [St w []] := hLr.pick (rest := [.box gb19 26 [.slice A2 n3 c4, .slice A6 n7 c8, .slice A10 n11 c12]]) (perm_of_idx [] [0] rfl rfl (by kernel_rfl)) (sels [1] rfl)
        have hMi : ∀ e ∈ ([] : List Ent), e ∈ ([.box gb19 26 [.slice A2 n3 c4, .slice A6 n7 c8, .slice A10 n11 c12]] : List Ent) := sels [] rfl
        show trellislaw11_symbols_R w F  r (.returned (packV [.bool false])) wr
        rw [h]
        exact ⟨rfl, hMr⟩
      · have h := if_neg' hp50 h
        have hns : Region.noSelect (Code.ops trellislaw11_symbols_c18) = true := by kernel_rfl
        refine g_drawF (c := trellislaw11_symbols_c18) [.box gb19 26 [.slice A2 n3 c4, .slice A6 n7 c8, .slice A10 n11 c12]] [Sm w.heap.size F w [], St w []] [] 21 rfl rfl mix rfl (.cons_cons _ (.slnil)) (sels [0, 1] rfl) ?_
        refine wf_v 0 rfl (v_move rfl) gn rfl hns (by kernel_rfl) (by kernel_rfl) rfl rfl ?_
        refine wf_v 1 rfl (v_move rfl) gn rfl hns (by kernel_rfl) (by kernel_rfl) rfl rfl ?_
        have hr56 := Rw.readF (s := St w []) (hl := hl_api_Ref) (h1 := h1_api_Ref) h18 hb48
        refine wf_v 2 rfl (v_idxR (s := St w []) slE_27 rfl rfl h18 hb48) gn rfl hns (by kernel_rfl) (by kernel_rfl) rfl rfl ?_
        refine wf_v 3 rfl (v_fldA fo_36_0 rfl) gn rfl hns (by kernel_rfl) (by kernel_rfl) rfl rfl ?_
        refine wf_v 4 rfl (v_ldA1 (kk := (x34 : Int).toNat * 3) (j := 0) (St w []) ld_3 rfl hr56 rfl (me 1 rfl)) gn rfl hns (by kernel_rfl) (by kernel_rfl) rfl rfl ?_
        refine wf_v 5 rfl (v_bin rfl rfl rfl) gn rfl hns (by kernel_rfl) (by kernel_rfl) rfl rfl ?_
        refine wf_v 6 rfl (v_move rfl) gn rfl hns (by kernel_rfl) (by kernel_rfl) rfl rfl ?_
        refine wf_bool 18 rfl ((decide_eq_false hp50)) ?_
        refine wf_v 7 rfl (v_move rfl) (gy 18 rfl rfl) rfl hns (by kernel_rfl) (by kernel_rfl) rfl rfl ?_
        refine wf_v 8 rfl (v_move rfl) (gy 18 rfl rfl) rfl hns (by kernel_rfl) (by kernel_rfl) rfl rfl ?_
        have hr57 := Rw.readF (s := St w []) (hl := hl_api_Ref) (h1 := h1_api_Ref) h18 hb48
        refine wf_v 9 rfl (v_idxR (s := St w []) slE_27 rfl rfl h18 hb48) (gy 18 rfl rfl) rfl hns (by kernel_rfl) (by kernel_rfl) rfl rfl ?_
        refine wf_v 10 rfl (v_fldA fo_36_0 rfl) (gy 18 rfl rfl) rfl hns (by kernel_rfl) (by kernel_rfl) rfl rfl ?_
        refine wf_v 11 rfl (v_ldA1 (kk := (x34 : Int).toNat * 3) (j := 0) (St w []) ld_3 rfl hr57 rfl (me 1 rfl)) (gy 18 rfl rfl) rfl hns (by kernel_rfl) (by kernel_rfl) rfl rfl ?_
        refine wf_v 12 rfl (v_fldB fo_26_0 rfl) (gy 18 rfl rfl) rfl hns (by kernel_rfl) (by kernel_rfl) rfl rfl ?_
        refine wf_v 13 rfl (v_ldB1 0 ld_22 rfl rfl rfl) (gy 18 rfl rfl) rfl hns (by kernel_rfl) (by kernel_rfl) rfl rfl ?_
        refine wf_v 14 rfl (v_lenQ un_22 rfl h5.hq) (gy 18 rfl rfl) rfl hns (by kernel_rfl) (by kernel_rfl) rfl rfl ?_
        refine wf_v 15 rfl (v_fldB fo_26_1 rfl) (gy 18 rfl rfl) rfl hns (by kernel_rfl) (by kernel_rfl) rfl rfl ?_
        refine wf_v 16 rfl (v_ldB1 0 ld_23 rfl rfl rfl) (gy 18 rfl rfl) rfl hns (by kernel_rfl) (by kernel_rfl) rfl rfl ?_
        refine wf_v 17 rfl (v_lenQ un_23 rfl h9.hq) (gy 18 rfl rfl) rfl hns (by kernel_rfl) (by kernel_rfl) rfl rfl ?_
        refine wf_v 18 rfl (v_bin rfl rfl rfl) (gy 18 rfl rfl) rfl hns (by kernel_rfl) (by kernel_rfl) rfl rfl ?_
        refine wf_v 19 rfl (v_bin rfl rfl rfl) (gy 18 rfl rfl) rfl hns (by kernel_rfl) (by kernel_rfl) rfl rfl ?_
        refine wf_v 20 rfl (v_pick (b := false) rfl rfl) gn rfl hns (by kernel_rfl) (by kernel_rfl) rfl rfl ?_
        refine wf_end (by kernel_rfl) ?_
        by_cases hp58 : (ix x14 x34).sym ≥ w64 ((x1.terms.length : Int) + (x1.syms.length : Int))
        · have h := if_pos' hp58 h
          refine g_true (c := trellislaw11_symbols_c19) rfl _ rfl ((decide_eq_true hp58)) ?_
          refine g_seq (c := trellislaw11_symbols_c20) rfl ?_
          refine g_region (c := trellislaw11_symbols_c22) rfl rfl ?_
          refine wl_v 0 rfl (v_assign rfl) gn rfl ?_
          refine w_end 1 rfl ?_
          have h := Out.inr hO1 h
          refine g_retR (c := trellislaw11_symbols_c23) [.bool false] rfl Try.func25 rfl (.tmp rfl (.nil)) fun wr hLr => ?_
          have hMr : B.Loc w wr [] [St w []] := hLr.pick (rest := [.box gb19 26 [.slice A2 n3 c4, .slice A6 n7 c8, .slice A10 n11 c12]]) (perm_of_idx [] [0] rfl rfl (by kernel_rfl)) (sels [1] rfl)
          have hMi : ∀ e ∈ ([] : List Ent), e ∈ ([.box gb19 26 [.slice A2 n3 c4, .slice A6 n7 c8, .slice A10 n11 c12]] : List Ent) := sels [] rfl
          show trellislaw11_symbols_R w F  r (.returned (packV [.bool false])) wr
          rw [h]
          exact ⟨rfl, hMr⟩
        · have h := if_neg' hp58 h
          refine g_false (c := trellislaw11_symbols_c19) rfl _ rfl ((decide_eq_false hp58)) ?_
          refine g_skip (c := trellislaw11_symbols_c21) rfl ?_
          refine g_inBlock ?_
          refine g_region (c := trellislaw11_symbols_c16) rfl rfl ?_
          refine wl_v 0 rfl (v_move rfl) gn rfl ?_
          refine wl_v 1 rfl (v_bin rfl rfl rfl) gn rfl ?_
          refine wl_v 2 rfl (v_assign rfl) gn rfl ?_
          refine w_end 3 rfl ?_
          refine g_inLoop ?_
          have ih := Out.inl hO1 h
          exact g_go [0, 1] (ih ()) ⟨rfl, rfl, rfl, trivial⟩ (.cons_cons _ (.slnil)) rfl
    · have h := if_neg' hp47 h
      refine g_false (c := trellislaw11_symbols_c12) rfl _ rfl ((decide_eq_false hp47)) ?_
      refine g_exit (c := trellislaw11_symbols_c14) [.code trellislaw11_symbols_c4] rfl rfl ?_
      refine g_seq (c := trellislaw11_symbols_c4) rfl ?_
      refine g_region (c := trellislaw11_symbols_c24) rfl rfl ?_
      refine wl_v 0 rfl (v_assign rfl) gn rfl ?_
      refine w_end 1 rfl ?_
      have h := Out.inr hO1 h
      refine g_retR (c := trellislaw11_symbols_c25) [.bool true] rfl Try.func25 rfl (.tmp rfl (.nil)) fun wr hLr => ?_
      have hMr : B.Loc w wr [] [St w []] := hLr.pick (rest := [.box gb19 26 [.slice A2 n3 c4, .slice A6 n7 c8, .slice A10 n11 c12]]) (perm_of_idx [] [0] rfl rfl (by kernel_rfl)) (sels [1] rfl)
      have hMi : ∀ e ∈ ([] : List Ent), e ∈ ([.box gb19 26 [.slice A2 n3 c4, .slice A6 n7 c8, .slice A10 n11 c12]] : List Ent) := sels [] rfl
      show trellislaw11_symbols_R w F  r (.returned (packV [.bool true])) wr
      rw [h]
      exact ⟨rfl, hMr⟩
  exact g_go [0, 1] (key1 _ h ()) ⟨rfl, rfl, rfl, trivial⟩ (.cons_cons _ (.slnil)) rfl
end Go.Proofs.Ytelafghkjlpojaa.K
