/- What the machine's calls do, function by function, printed by my own tool. Condition of each: its relation holds of the answer, and what is handed in lies in memory as told. -/
import Derived.Test.YtoifgnogoddmlaaK3
set_option linter.unusedVariables false
set_option maxRecDepth 100000
set_option maxHeartbeats 4000000
namespace Go.Proofs.Ytoifgnogoddmlaa.K
open Go.Proofs.Ytoifgnogoddmlaa.B Go.Proofs.Ytoifgnogoddmlaa.R Go.RowKit
noncomputable abbrev trellislaw32_ChooseGrows_c0 : Code := bodyOf Try.f3
noncomputable abbrev trellislaw32_ChooseGrows_c1 : Code := Code.fst trellislaw32_ChooseGrows_c0
noncomputable abbrev trellislaw32_ChooseGrows_c2 : Code := Code.snd trellislaw32_ChooseGrows_c0
noncomputable abbrev trellislaw32_ChooseGrows_c3 : Code := Code.fst trellislaw32_ChooseGrows_c2
noncomputable abbrev trellislaw32_ChooseGrows_c4 : Code := Code.snd trellislaw32_ChooseGrows_c2
noncomputable abbrev trellislaw32_ChooseGrows_c5 : Code := Code.fst trellislaw32_ChooseGrows_c3
noncomputable abbrev trellislaw32_ChooseGrows_c6 : Code := Code.snd trellislaw32_ChooseGrows_c3
noncomputable abbrev trellislaw32_ChooseGrows_c7 : Code := Code.fst trellislaw32_ChooseGrows_c6
noncomputable abbrev trellislaw32_ChooseGrows_c8 : Code := Code.snd trellislaw32_ChooseGrows_c6
noncomputable abbrev trellislaw32_ChooseGrows_c9 : Code := Code.fst trellislaw32_ChooseGrows_c7
noncomputable abbrev trellislaw32_ChooseGrows_c10 : Code := Code.snd trellislaw32_ChooseGrows_c7
noncomputable abbrev trellislaw32_ChooseGrows_c11 : Code := Code.fst trellislaw32_ChooseGrows_c4
noncomputable abbrev trellislaw32_ChooseGrows_c12 : Code := Code.snd trellislaw32_ChooseGrows_c4
noncomputable abbrev trellislaw32_ChooseGrows_c13 : Code := Code.fst trellislaw32_ChooseGrows_c12
noncomputable abbrev trellislaw32_ChooseGrows_c14 : Code := Code.snd trellislaw32_ChooseGrows_c12
noncomputable abbrev trellislaw32_ChooseGrows_c15 : Code := Code.fst trellislaw32_ChooseGrows_c14
noncomputable abbrev trellislaw32_ChooseGrows_c16 : Code := Code.snd trellislaw32_ChooseGrows_c14
noncomputable abbrev trellislaw32_ChooseGrows_c17 : Code := Code.fst trellislaw32_ChooseGrows_c16
noncomputable abbrev trellislaw32_ChooseGrows_c18 : Code := Code.snd trellislaw32_ChooseGrows_c16
noncomputable abbrev trellislaw32_ChooseGrows_c19 : Code := Code.fst trellislaw32_ChooseGrows_c18
noncomputable abbrev trellislaw32_ChooseGrows_c20 : Code := Code.snd trellislaw32_ChooseGrows_c18
noncomputable abbrev trellislaw32_ChooseGrows_c21 : Code := Code.fst trellislaw32_ChooseGrows_c20
noncomputable abbrev trellislaw32_ChooseGrows_c22 : Code := Code.snd trellislaw32_ChooseGrows_c20
noncomputable abbrev trellislaw32_ChooseGrows_c23 : Code := Code.fst trellislaw32_ChooseGrows_c22
noncomputable abbrev trellislaw32_ChooseGrows_c24 : Code := Code.snd trellislaw32_ChooseGrows_c22
noncomputable abbrev trellislaw32_ChooseGrows_c25 : Code := Code.fst trellislaw32_ChooseGrows_c23
noncomputable abbrev trellislaw32_ChooseGrows_c26 : Code := Code.snd trellislaw32_ChooseGrows_c23
noncomputable abbrev trellislaw32_ChooseGrows_c27 : Code := Code.fst trellislaw32_ChooseGrows_c26
noncomputable abbrev trellislaw32_ChooseGrows_c28 : Code := Code.snd trellislaw32_ChooseGrows_c26
noncomputable abbrev trellislaw32_ChooseGrows_c29 : Code := Code.fst trellislaw32_ChooseGrows_c27
noncomputable abbrev trellislaw32_ChooseGrows_c30 : Code := Code.snd trellislaw32_ChooseGrows_c27
noncomputable abbrev trellislaw32_ChooseGrows_c31 : Code := Code.fst trellislaw32_ChooseGrows_c24
noncomputable abbrev trellislaw32_ChooseGrows_c32 : Code := Code.snd trellislaw32_ChooseGrows_c24
noncomputable abbrev trellislaw32_ChooseGrows_c33 : Code := Code.fst trellislaw32_ChooseGrows_c32
noncomputable abbrev trellislaw32_ChooseGrows_c34 : Code := Code.snd trellislaw32_ChooseGrows_c32
noncomputable abbrev trellislaw32_ChooseGrows_c35 : Code := Code.fst trellislaw32_ChooseGrows_c33
noncomputable abbrev trellislaw32_ChooseGrows_c36 : Code := Code.snd trellislaw32_ChooseGrows_c33
noncomputable abbrev trellislaw32_ChooseGrows_c37 : Code := Code.fst trellislaw32_ChooseGrows_c36
noncomputable abbrev trellislaw32_ChooseGrows_c38 : Code := Code.fst trellislaw32_ChooseGrows_c37
noncomputable abbrev trellislaw32_ChooseGrows_c39 : Code := Code.fst trellislaw32_ChooseGrows_c38
noncomputable abbrev trellislaw32_ChooseGrows_c40 : Code := Code.snd trellislaw32_ChooseGrows_c38
noncomputable abbrev trellislaw32_ChooseGrows_c41 : Code := Code.fst trellislaw32_ChooseGrows_c39
noncomputable abbrev trellislaw32_ChooseGrows_c42 : Code := Code.snd trellislaw32_ChooseGrows_c39
noncomputable abbrev trellislaw32_ChooseGrows_c43 : Code := Code.fst trellislaw32_ChooseGrows_c42
noncomputable abbrev trellislaw32_ChooseGrows_c44 : Code := Code.snd trellislaw32_ChooseGrows_c42
noncomputable abbrev trellislaw32_ChooseGrows_c45 : Code := Code.fst trellislaw32_ChooseGrows_c40
noncomputable abbrev trellislaw32_ChooseGrows_c46 : Code := Code.snd trellislaw32_ChooseGrows_c40
noncomputable abbrev trellislaw32_ChooseGrows_c47 : Code := Code.fst trellislaw32_ChooseGrows_c45
noncomputable abbrev trellislaw32_ChooseGrows_c48 : Code := Code.fst trellislaw32_ChooseGrows_c34
noncomputable abbrev trellislaw32_ChooseGrows_c49 : Code := Code.snd trellislaw32_ChooseGrows_c34
noncomputable abbrev trellislaw32_ChooseGrows_c50 : Code := Code.fst trellislaw32_ChooseGrows_c49
noncomputable abbrev trellislaw32_ChooseGrows_c51 : Code := Code.snd trellislaw32_ChooseGrows_c49
noncomputable abbrev trellislaw32_ChooseGrows_c52 : Code := Code.fst trellislaw32_ChooseGrows_c50
noncomputable abbrev trellislaw32_ChooseGrows_c53 : Code := Code.snd trellislaw32_ChooseGrows_c50
noncomputable abbrev trellislaw32_ChooseGrows_c54 : Code := Code.fst trellislaw32_ChooseGrows_c53
noncomputable abbrev trellislaw32_ChooseGrows_c55 : Code := Code.fst trellislaw32_ChooseGrows_c54
noncomputable abbrev trellislaw32_ChooseGrows_c56 : Code := Code.fst trellislaw32_ChooseGrows_c55
noncomputable abbrev trellislaw32_ChooseGrows_c57 : Code := Code.snd trellislaw32_ChooseGrows_c55
noncomputable abbrev trellislaw32_ChooseGrows_c58 : Code := Code.fst trellislaw32_ChooseGrows_c56
noncomputable abbrev trellislaw32_ChooseGrows_c59 : Code := Code.snd trellislaw32_ChooseGrows_c56
noncomputable abbrev trellislaw32_ChooseGrows_c60 : Code := Code.fst trellislaw32_ChooseGrows_c59
noncomputable abbrev trellislaw32_ChooseGrows_c61 : Code := Code.snd trellislaw32_ChooseGrows_c59
noncomputable abbrev trellislaw32_ChooseGrows_c62 : Code := Code.fst trellislaw32_ChooseGrows_c57
noncomputable abbrev trellislaw32_ChooseGrows_c63 : Code := Code.snd trellislaw32_ChooseGrows_c57
noncomputable abbrev trellislaw32_ChooseGrows_c64 : Code := Code.fst trellislaw32_ChooseGrows_c62
noncomputable abbrev trellislaw32_ChooseGrows_c65 : Code := Code.fst trellislaw32_ChooseGrows_c51
noncomputable abbrev trellislaw32_ChooseGrows_c66 : Code := Code.snd trellislaw32_ChooseGrows_c51
noncomputable abbrev trellislaw32_ChooseGrows_c67 : Code := Code.fst trellislaw32_ChooseGrows_c65
noncomputable abbrev trellislaw32_ChooseGrows_c68 : Code := Code.snd trellislaw32_ChooseGrows_c65
noncomputable abbrev trellislaw32_ChooseGrows_c69 : Code := Code.fst trellislaw32_ChooseGrows_c68
noncomputable abbrev trellislaw32_ChooseGrows_c70 : Code := Code.snd trellislaw32_ChooseGrows_c68
noncomputable abbrev trellislaw32_ChooseGrows_c71 : Code := Code.fst trellislaw32_ChooseGrows_c69
noncomputable abbrev trellislaw32_ChooseGrows_c72 : Code := Code.snd trellislaw32_ChooseGrows_c69
noncomputable abbrev trellislaw32_ChooseGrows_c73 : Code := Code.fst trellislaw32_ChooseGrows_c66
noncomputable abbrev trellislaw32_ChooseGrows_c74 : Code := Code.snd trellislaw32_ChooseGrows_c66
noncomputable abbrev trellislaw32_ChooseGrows_c75 : Code := Code.fst trellislaw32_ChooseGrows_c74
noncomputable abbrev trellislaw32_ChooseGrows_c76 : Code := Code.snd trellislaw32_ChooseGrows_c74
noncomputable abbrev trellislaw32_ChooseGrows_c77 : Code := Code.fst trellislaw32_ChooseGrows_c75
noncomputable abbrev trellislaw32_ChooseGrows_c78 : Code := Code.snd trellislaw32_ChooseGrows_c75
noncomputable abbrev trellislaw32_ChooseGrows_c79 : Code := Code.fst trellislaw32_ChooseGrows_c78
noncomputable abbrev trellislaw32_ChooseGrows_c80 : Code := Code.snd trellislaw32_ChooseGrows_c78
noncomputable abbrev trellislaw32_ChooseGrows_c81 : Code := Code.fst trellislaw32_ChooseGrows_c76
noncomputable abbrev trellislaw32_ChooseGrows_c82 : Code := Code.snd trellislaw32_ChooseGrows_c76
noncomputable abbrev trellislaw32_ChooseGrows_c83 : Code := Code.fst trellislaw32_ChooseGrows_c82
noncomputable abbrev trellislaw32_ChooseGrows_c84 : Code := Code.snd trellislaw32_ChooseGrows_c82
noncomputable abbrev trellislaw32_ChooseGrows_c85 : Code := Code.fst trellislaw32_ChooseGrows_c79
noncomputable abbrev trellislaw32_ChooseGrows_c86 : Code := Code.snd trellislaw32_ChooseGrows_c79
abbrev trellislaw32_ChooseGrows_R (w : World) (F : Nat → Prop) (r : Bool) : Ending → World → Prop := fun e w' => e = .returned (.bool r) ∧ B.Loc w w' [] [St w []]
noncomputable abbrev trellislaw32_ChooseGrows_C (w : World) (F : Nat → Prop) (r : Bool) : Cx := ⟨Try.prog, 3, Try.f3, 108, trellislaw32_ChooseGrows_R w F  r, w⟩
theorem trellislaw32_ChooseGrows_calls (w : World) (F : Nat → Prop) (x1 : List api_Node) (x6 : api_Range) (A2 : Option Addr) (n3 : Nat) (c4 : Nat) (h5 : Rw k_api_Node w (St w []).av A2 n3 c4 x1) (hF : ∀ b, F b → b < w.heap.size ∧ ∀ o ∈ ([] : List (List Nat)), b ∉ o) (hL0 : B.Loc w w [] [Sm w.heap.size F w [], St w []]) (r : Bool) (h : trellislaw32_ChooseGrows x1 x6 r) : Calls Try.prog 3 #[.slice A2 n3 c4, .agg #[.int .i64 x6.from_, .int .i64 x6.to]] w (trellislaw32_ChooseGrows_R w F  r) := by
  unfold trellislaw32_ChooseGrows at h
  refine calls_of_Loc (vs := [.slice A2 n3 c4, .agg #[.int .i64 x6.from_, .int .i64 x6.to]]) 108 Try.func3 rfl Try.ntmps3 rfl hL0 ?_
  show G (trellislaw32_ChooseGrows_C w F r) _ _ _ _
  refine g_seq (c := trellislaw32_ChooseGrows_c0) rfl ?_
  refine g_region (c := trellislaw32_ChooseGrows_c1) rfl rfl ?_
  refine wl_s 0 rfl (s_box [.int .i64 x6.from_, .int .i64 x6.to] rfl rfl rfl fun gb7 => ?_) gn
  refine wl_v 1 rfl (v_assign rfl) gn rfl ?_
  refine w_end 2 rfl ?_
  refine g_seq (c := trellislaw32_ChooseGrows_c2) rfl ?_
  refine g_seq (c := trellislaw32_ChooseGrows_c3) rfl ?_
  refine g_region (c := trellislaw32_ChooseGrows_c5) rfl rfl ?_
  refine wl_v 0 rfl (v_move rfl) gn rfl ?_
  obtain ⟨r12, hv13, h⟩ := h
  refine wl_s 1 rfl (s_call [.slice A2 n3 c4] rfl Try.func9 rfl rfl rfl fun w9 hL10 => ?_) gn
  have hp11 : List.Perm ([.box gb7 24 [.int .i64 x6.from_, .int .i64 x6.to]] : List Ent) (([] : List Ent) ++ ([.box gb7 24 [.int .i64 x6.from_, .int .i64 x6.to]] : List Ent)) := perm_of_idx [] [0] rfl rfl (by kernel_rfl)
  refine Calls.mono (trellisref15_Beyond_calls w9 (Fl ([] : List Snap)) x1 A2 n3 c4 (Rw.mono h5 (hL10.toSt hp11 (me 1 rfl))) (hL10.hFl (Sl := ([] : List Snap)) hp11 (sels [] rfl)) (hL10.into hp11 (Fl ([] : List Snap))) r12 hv13) ?_
  rintro _ w14 ⟨rfl, hM15⟩
  have hL16 := hL10.call hp11 hM15
  refine ⟨_, _, _, rfl, hL16, ?_⟩
  refine w_end 2 rfl ?_
  by_cases hp17 : r12 = true
  · have h := if_pos' hp17 h
    refine g_true (c := trellislaw32_ChooseGrows_c6) rfl _ rfl (hp17) ?_
    refine g_seq (c := trellislaw32_ChooseGrows_c7) rfl ?_
    refine g_region (c := trellislaw32_ChooseGrows_c9) rfl rfl ?_
    refine wl_v 0 rfl (v_assign rfl) gn rfl ?_
    refine w_end 1 rfl ?_
    refine g_retR (c := trellislaw32_ChooseGrows_c10) [.bool true] rfl Try.func3 rfl (.tmp rfl (.nil)) fun wr hLr => ?_
    have hMr : B.Loc w wr [] [St w []] := hLr.pick (rest := [.box gb7 24 [.int .i64 x6.from_, .int .i64 x6.to]]) (perm_of_idx [] [0] rfl rfl (by kernel_rfl)) (sels [1] rfl)
    have hMi : ∀ e ∈ ([] : List Ent), e ∈ ([.box gb7 24 [.int .i64 x6.from_, .int .i64 x6.to]] : List Ent) := sels [] rfl
    show trellislaw32_ChooseGrows_R w F  r (.returned (packV [.bool true])) wr
    rw [h]
    exact ⟨rfl, hMr⟩
  · have h := if_neg' hp17 h
    refine g_false (c := trellislaw32_ChooseGrows_c6) rfl _ rfl ((bf hp17)) ?_
    refine g_skip (c := trellislaw32_ChooseGrows_c8) rfl ?_
    refine g_seq (c := trellislaw32_ChooseGrows_c4) rfl ?_
    refine g_region (c := trellislaw32_ChooseGrows_c11) rfl rfl ?_
    refine wl_v 0 rfl (v_move rfl) gn rfl ?_
    obtain ⟨r21, hv22, h⟩ := h
    refine wl_s 1 rfl (s_call [.slice A2 n3 c4] rfl Try.func10 rfl rfl rfl fun w18 hL19 => ?_) gn
    have hp20 : List.Perm ([.box gb7 24 [.int .i64 x6.from_, .int .i64 x6.to]] : List Ent) (([] : List Ent) ++ ([.box gb7 24 [.int .i64 x6.from_, .int .i64 x6.to]] : List Ent)) := perm_of_idx [] [0] rfl rfl (by kernel_rfl)
    refine Calls.mono (trellislaw32_twin_calls w18 (Fl ([] : List Snap)) x1 A2 n3 c4 (Rw.mono h5 (hL19.toSt hp20 (me 1 rfl))) (hL19.hFl (Sl := ([] : List Snap)) hp20 (sels [] rfl)) (hL19.into hp20 (Fl ([] : List Snap))) r21 hv22) ?_
    rintro _ w28 ⟨A23, n24, c25, rfl, hM29, h26⟩
    have hL30 := hL19.call hp20 hM29
    refine ⟨_, _, _, rfl, hL30, ?_⟩
    refine wl_v 2 rfl (v_assign rfl) gn rfl ?_
    refine w_end 3 rfl ?_
    refine g_seq (c := trellislaw32_ChooseGrows_c12) rfl ?_
    refine g_region (c := trellislaw32_ChooseGrows_c13) rfl rfl ?_
    refine wl_v 0 rfl (v_move rfl) gn rfl ?_
    obtain ⟨r34, hv35, h⟩ := h
    refine wl_s 1 rfl (s_call [.slice A2 n3 c4] rfl Try.func11 rfl rfl rfl fun w31 hL32 => ?_) gn
    have hp33 : List.Perm ([.own (.slice A23 n24 c25) 39 7 n24 (r21.flatMap enc_api_Node), .box gb7 24 [.int .i64 x6.from_, .int .i64 x6.to]] : List Ent) (([] : List Ent) ++ ([.own (.slice A23 n24 c25) 39 7 n24 (r21.flatMap enc_api_Node), .box gb7 24 [.int .i64 x6.from_, .int .i64 x6.to]] : List Ent)) := perm_of_idx [] [0, 1] rfl rfl (by kernel_rfl)
    refine Calls.mono (trellislaw32_lent_calls w31 (Fl ([] : List Snap)) x1 A2 n3 c4 (Rw.mono h5 (hL32.toSt hp33 (me 1 rfl))) (hL32.hFl (Sl := ([] : List Snap)) hp33 (sels [] rfl)) (hL32.into hp33 (Fl ([] : List Snap))) r34 hv35) ?_
    rintro _ w42 ⟨A36, n37, c38, rfl, hM43, h39, hk40⟩
    have hL44 := hL32.call hp33 hM43
    refine ⟨_, _, _, rfl, hL44, ?_⟩
    refine wl_v 2 rfl (v_assign rfl) gn rfl ?_
    refine w_end 3 rfl ?_
    refine g_seq (c := trellislaw32_ChooseGrows_c14) rfl ?_
    refine g_region (c := trellislaw32_ChooseGrows_c15) rfl rfl ?_
    refine wl_v 0 rfl (v_move rfl) gn rfl ?_
    refine wl_v 1 rfl (v_ldB [.int .i64 x6.from_, .int .i64 x6.to] 2 ld_24 rfl rfl rfl rfl) gn rfl ?_
    obtain ⟨r48, hv49, h⟩ := h
    refine wl_s 2 rfl (s_call [.slice A36 r34.2 c38, .agg #[.int .i64 x6.from_, .int .i64 x6.to]] rfl Try.func12 rfl rfl rfl fun w45 hL46 => ?_) gn
    have hp47 : List.Perm ([.own (.slice A36 n37 c38) 39 7 n37 (r34.1.flatMap enc_api_Node), .own (.slice A23 n24 c25) 39 7 n24 (r21.flatMap enc_api_Node), .box gb7 24 [.int .i64 x6.from_, .int .i64 x6.to]] : List Ent) (([] : List Ent) ++ ([.own (.slice A36 n37 c38) 39 7 n37 (r34.1.flatMap enc_api_Node), .own (.slice A23 n24 c25) 39 7 n24 (r21.flatMap enc_api_Node), .box gb7 24 [.int .i64 x6.from_, .int .i64 x6.to]] : List Ent)) := perm_of_idx [] [0, 1, 2] rfl rfl (by kernel_rfl)
    refine Calls.mono (choose_Cover_calls w45 (Fl ([] : List Snap)) (r34.1.take r34.2) x6 A36 r34.2 c38 (Rw.w (hL46.argV (dk := k_api_Node) hp47 [] rfl 0 rfl rfl (Ow.weak hL32.env.size h39) (me 0 rfl) (Cells.flat _) (Vw.prefix hk40) (Nat.le_trans hk40 (Ow.weak hL32.env.size h39).hn) (Ow.weak hL32.env.size h39).hm) (by rw [(Eq.refl (r34.1.take r34.2))]; rfl)) (hL46.hFl (Sl := ([] : List Snap)) hp47 (sels [] rfl)) (hL46.into hp47 (Fl ([] : List Snap))) r48 hv49) ?_
    rintro _ w50 ⟨rfl, hM51⟩
    have hL52 := hL46.call hp47 hM51
    refine ⟨_, _, _, rfl, hL52, ?_⟩
    refine wl_v 3 rfl (v_assign rfl) gn rfl ?_
    refine w_end 4 rfl ?_
    refine g_seq (c := trellislaw32_ChooseGrows_c16) rfl ?_
    refine g_region (c := trellislaw32_ChooseGrows_c17) rfl rfl ?_
    refine wl_v 0 rfl (v_move rfl) gn rfl ?_
    refine wl_v 1 rfl (v_ldB [.int .i64 x6.from_, .int .i64 x6.to] 2 ld_24 rfl rfl rfl rfl) gn rfl ?_
    obtain ⟨r56, hv57, h⟩ := h
    refine wl_s 2 rfl (s_call [.slice A36 r34.2 c38, .agg #[.int .i64 x6.from_, .int .i64 x6.to]] rfl Try.func13 rfl rfl rfl fun w53 hL54 => ?_) gn
    have hp55 : List.Perm ([.own (.slice A36 n37 c38) 39 7 n37 (r34.1.flatMap enc_api_Node), .own (.slice A23 n24 c25) 39 7 n24 (r21.flatMap enc_api_Node), .box gb7 24 [.int .i64 x6.from_, .int .i64 x6.to]] : List Ent) (([] : List Ent) ++ ([.own (.slice A36 n37 c38) 39 7 n37 (r34.1.flatMap enc_api_Node), .own (.slice A23 n24 c25) 39 7 n24 (r21.flatMap enc_api_Node), .box gb7 24 [.int .i64 x6.from_, .int .i64 x6.to]] : List Ent)) := perm_of_idx [] [0, 1, 2] rfl rfl (by kernel_rfl)
    refine Calls.mono (choose_Grow_calls w53 (Fl ([] : List Snap)) (r34.1.take r34.2) x6 A36 r34.2 c38 (Rw.w (hL54.argV (dk := k_api_Node) hp55 [] rfl 0 rfl rfl (Ow.weak hL32.env.size h39) (me 0 rfl) (Cells.flat _) (Vw.prefix hk40) (Nat.le_trans hk40 (Ow.weak hL32.env.size h39).hn) (Ow.weak hL32.env.size h39).hm) (by rw [(Eq.refl (r34.1.take r34.2))]; rfl)) (hL54.hFl (Sl := ([] : List Snap)) hp55 (sels [] rfl)) (hL54.into hp55 (Fl ([] : List Snap))) r56 hv57) ?_
    rintro _ w58 ⟨rfl, hM59⟩
    have hL60 := hL54.call hp55 hM59
    refine ⟨_, _, _, rfl, hL60, ?_⟩
    refine wl_s 3 rfl (s_alloc [.int .i64 0, .int .i64 0] zr_24 rfl fun gb61 => ?_) gn
    refine wl_s 4 rfl (s_stB (vs := [.int .i64 r56.from_, .int .i64 r56.to]) (cs' := [.int .i64 r56.from_, .int .i64 r56.to]) (M' := [.box gb61 24 [.int .i64 r56.from_, .int .i64 r56.to], .own (.slice A36 n37 c38) 39 7 n37 (r34.1.flatMap enc_api_Node), .own (.slice A23 n24 c25) 39 7 n24 (r21.flatMap enc_api_Node), .box gb7 24 [.int .i64 x6.from_, .int .i64 x6.to]]) 0 sz_24 rfl rfl rfl rfl rfl rfl rfl rfl rfl ?_) gn
    refine w_end 5 rfl ?_
    refine g_seq (c := trellislaw32_ChooseGrows_c18) rfl ?_
    refine g_region (c := trellislaw32_ChooseGrows_c19) rfl rfl ?_
    refine wl_v 0 rfl (v_move rfl) gn rfl ?_
    refine wl_v 1 rfl (v_ldB [.int .i64 x6.from_, .int .i64 x6.to] 3 ld_24 rfl rfl rfl rfl) gn rfl ?_
    obtain ⟨r66, hv67, h⟩ := h
    refine wl_s 2 rfl (s_call [.slice A36 r34.2 c38, .agg #[.int .i64 x6.from_, .int .i64 x6.to]] rfl Try.func14 rfl rfl rfl fun w63 hL64 => ?_) gn
    have hp65 : List.Perm ([.box gb61 24 [.int .i64 r56.from_, .int .i64 r56.to], .own (.slice A36 n37 c38) 39 7 n37 (r34.1.flatMap enc_api_Node), .own (.slice A23 n24 c25) 39 7 n24 (r21.flatMap enc_api_Node), .box gb7 24 [.int .i64 x6.from_, .int .i64 x6.to]] : List Ent) (([] : List Ent) ++ ([.box gb61 24 [.int .i64 r56.from_, .int .i64 r56.to], .own (.slice A36 n37 c38) 39 7 n37 (r34.1.flatMap enc_api_Node), .own (.slice A23 n24 c25) 39 7 n24 (r21.flatMap enc_api_Node), .box gb7 24 [.int .i64 x6.from_, .int .i64 x6.to]] : List Ent)) := perm_of_idx [] [0, 1, 2, 3] rfl rfl (by kernel_rfl)
    refine Calls.mono (choose_Steps_calls w63 (Fl ([] : List Snap)) (r34.1.take r34.2) x6 A36 r34.2 c38 (Rw.w (hL64.argV (dk := k_api_Node) hp65 [] rfl 1 rfl rfl (Ow.weak hL32.env.size h39) (me 0 rfl) (Cells.flat _) (Vw.prefix hk40) (Nat.le_trans hk40 (Ow.weak hL32.env.size h39).hn) (Ow.weak hL32.env.size h39).hm) (by rw [(Eq.refl (r34.1.take r34.2))]; rfl)) (hL64.hFl (Sl := ([] : List Snap)) hp65 (sels [] rfl)) (hL64.into hp65 (Fl ([] : List Snap))) r66 hv67) ?_
    rintro _ w73 ⟨A68, n69, c70, rfl, hM74, h71⟩
    have hL75 := hL64.call hp65 hM74
    refine ⟨_, _, _, rfl, hL75, ?_⟩
    refine wl_v 3 rfl (v_assign rfl) gn rfl ?_
    refine w_end 4 rfl ?_
    refine g_seq (c := trellislaw32_ChooseGrows_c20) rfl ?_
    refine g_region (c := trellislaw32_ChooseGrows_c21) rfl rfl ?_
    refine wl_v 0 rfl (v_move rfl) gn rfl ?_
    refine wl_v 1 rfl (v_ldB [.int .i64 x6.from_, .int .i64 x6.to] 4 ld_24 rfl rfl rfl rfl) gn rfl ?_
    obtain ⟨r79, hv80, h⟩ := h
    refine wl_s 2 rfl (s_call [.slice A23 n24 c25, .agg #[.int .i64 x6.from_, .int .i64 x6.to]] rfl Try.func15 rfl rfl rfl fun w76 hL77 => ?_) gn
    have hp78 : List.Perm ([.own (.slice A68 n69 c70) 24 2 n69 (r66.flatMap enc_api_Range), .box gb61 24 [.int .i64 r56.from_, .int .i64 r56.to], .own (.slice A36 n37 c38) 39 7 n37 (r34.1.flatMap enc_api_Node), .own (.slice A23 n24 c25) 39 7 n24 (r21.flatMap enc_api_Node), .box gb7 24 [.int .i64 x6.from_, .int .i64 x6.to]] : List Ent) (([] : List Ent) ++ ([.own (.slice A68 n69 c70) 24 2 n69 (r66.flatMap enc_api_Range), .box gb61 24 [.int .i64 r56.from_, .int .i64 r56.to], .own (.slice A36 n37 c38) 39 7 n37 (r34.1.flatMap enc_api_Node), .own (.slice A23 n24 c25) 39 7 n24 (r21.flatMap enc_api_Node), .box gb7 24 [.int .i64 x6.from_, .int .i64 x6.to]] : List Ent)) := perm_of_idx [] [0, 1, 2, 3, 4] rfl rfl (by kernel_rfl)
    refine Calls.mono (trellisref32_Steps_calls w76 (Fl ([] : List Snap)) r21 x6 A23 n24 c25 (hL77.argO (dk := k_api_Node) hp78 [] rfl 3 rfl rfl (Ow.weak hL19.env.size h26) (me 0 rfl) (Cells.flat _)) (hL77.hFl (Sl := ([] : List Snap)) hp78 (sels [] rfl)) (hL77.into hp78 (Fl ([] : List Snap))) r79 hv80) ?_
    rintro _ w86 ⟨A81, n82, c83, rfl, hM87, h84⟩
    have hL88 := hL77.call hp78 hM87
    refine ⟨_, _, _, rfl, hL88, ?_⟩
    refine wl_v 3 rfl (v_assign rfl) gn rfl ?_
    refine w_end 4 rfl ?_
    refine g_seq (c := trellislaw32_ChooseGrows_c22) rfl ?_
    refine g_seq (c := trellislaw32_ChooseGrows_c23) rfl ?_
    have j1 : ∀ (x366 : Bool) (h : trellislaw32_ChooseGrows_j1 r34 x6 r79 r21 r66 x366 r) (hl365 : r34.2 ≤ n37), G (trellislaw32_ChooseGrows_C w F r) [.code trellislaw32_ChooseGrows_c26, .code trellislaw32_ChooseGrows_c24] [(3, .pointer (some ⟨gb7, 0, none⟩)), (5, .slice A23 n24 c25), (6, .slice A36 r34.2 c38), (9, .slice A68 n69 c70), (10, .slice A81 n82 c83), (56, .bool x366)] [.own (.slice A81 n82 c83) 24 2 n82 (r79.flatMap enc_api_Range), .own (.slice A68 n69 c70) 24 2 n69 (r66.flatMap enc_api_Range), .own (.slice A36 n37 c38) 39 7 n37 (r34.1.flatMap enc_api_Node), .own (.slice A23 n24 c25) 39 7 n24 (r21.flatMap enc_api_Node), .box gb7 24 [.int .i64 x6.from_, .int .i64 x6.to]] [Sm w.heap.size F w [], St w []] := by
      intro x366 h hl365
      unfold trellislaw32_ChooseGrows_j1 at h
      by_cases hp367 : x366 = true
      · have h := if_pos' hp367 h
        refine g_true (c := trellislaw32_ChooseGrows_c26) rfl _ rfl (hp367) ?_
        refine g_seq (c := trellislaw32_ChooseGrows_c27) rfl ?_
        refine g_region (c := trellislaw32_ChooseGrows_c29) rfl rfl ?_
        refine wl_v 0 rfl (v_assign rfl) gn rfl ?_
        refine w_end 1 rfl ?_
        refine g_retR (c := trellislaw32_ChooseGrows_c30) [.bool false] rfl Try.func3 rfl (.tmp rfl (.nil)) fun wr hLr => ?_
        have hMr : B.Loc w wr [] [St w []] := hLr.pick (rest := [.own (.slice A81 n82 c83) 24 2 n82 (r79.flatMap enc_api_Range), .own (.slice A68 n69 c70) 24 2 n69 (r66.flatMap enc_api_Range), .own (.slice A36 n37 c38) 39 7 n37 (r34.1.flatMap enc_api_Node), .own (.slice A23 n24 c25) 39 7 n24 (r21.flatMap enc_api_Node), .box gb7 24 [.int .i64 x6.from_, .int .i64 x6.to]]) (perm_of_idx [] [0, 1, 2, 3, 4] rfl rfl (by kernel_rfl)) (sels [1] rfl)
        have hMi : ∀ e ∈ ([] : List Ent), e ∈ ([.own (.slice A81 n82 c83) 24 2 n82 (r79.flatMap enc_api_Range), .own (.slice A68 n69 c70) 24 2 n69 (r66.flatMap enc_api_Range), .own (.slice A36 n37 c38) 39 7 n37 (r34.1.flatMap enc_api_Node), .own (.slice A23 n24 c25) 39 7 n24 (r21.flatMap enc_api_Node), .box gb7 24 [.int .i64 x6.from_, .int .i64 x6.to]] : List Ent) := sels [] rfl
        show trellislaw32_ChooseGrows_R w F  r (.returned (packV [.bool false])) wr
        rw [h]
        exact ⟨rfl, hMr⟩
      · have h := if_neg' hp367 h
        refine g_false (c := trellislaw32_ChooseGrows_c26) rfl _ rfl ((bf hp367)) ?_
        refine g_skip (c := trellislaw32_ChooseGrows_c28) rfl ?_
        refine g_seq (c := trellislaw32_ChooseGrows_c24) rfl ?_
        refine g_region (c := trellislaw32_ChooseGrows_c31) rfl rfl ?_
        refine wl_v 0 rfl (v_move rfl) gn rfl ?_
        refine wl_v 1 rfl (v_ldB [.int .i64 x6.from_, .int .i64 x6.to] 4 ld_24 rfl rfl rfl rfl) gn rfl ?_
        obtain ⟨r371, hv372, h⟩ := h
        refine wl_s 2 rfl (s_call [.slice A36 r34.2 c38, .agg #[.int .i64 x6.from_, .int .i64 x6.to]] rfl Try.func14 rfl rfl rfl fun w368 hL369 => ?_) gn
        have hp370 : List.Perm ([.own (.slice A81 n82 c83) 24 2 n82 (r79.flatMap enc_api_Range), .own (.slice A68 n69 c70) 24 2 n69 (r66.flatMap enc_api_Range), .own (.slice A36 n37 c38) 39 7 n37 (r34.1.flatMap enc_api_Node), .own (.slice A23 n24 c25) 39 7 n24 (r21.flatMap enc_api_Node), .box gb7 24 [.int .i64 x6.from_, .int .i64 x6.to]] : List Ent) (([] : List Ent) ++ ([.own (.slice A81 n82 c83) 24 2 n82 (r79.flatMap enc_api_Range), .own (.slice A68 n69 c70) 24 2 n69 (r66.flatMap enc_api_Range), .own (.slice A36 n37 c38) 39 7 n37 (r34.1.flatMap enc_api_Node), .own (.slice A23 n24 c25) 39 7 n24 (r21.flatMap enc_api_Node), .box gb7 24 [.int .i64 x6.from_, .int .i64 x6.to]] : List Ent)) := perm_of_idx [] [0, 1, 2, 3, 4] rfl rfl (by kernel_rfl)
        refine Calls.mono (choose_Steps_calls w368 (Fl ([] : List Snap)) (r34.1.take r34.2) x6 A36 r34.2 c38 (Rw.w (hL369.argV (dk := k_api_Node) hp370 [] rfl 2 rfl rfl (Ow.weak hL32.env.size h39) (me 0 rfl) (Cells.flat _) (Vw.prefix hl365) (Nat.le_trans hl365 (Ow.weak hL32.env.size h39).hn) (Ow.weak hL32.env.size h39).hm) (by rw [(Eq.refl (r34.1.take r34.2))]; rfl)) (hL369.hFl (Sl := ([] : List Snap)) hp370 (sels [] rfl)) (hL369.into hp370 (Fl ([] : List Snap))) r371 hv372) ?_
        rintro _ w378 ⟨A373, n374, c375, rfl, hM379, h376⟩
        have hL380 := hL369.call hp370 hM379
        refine ⟨_, _, _, rfl, hL380, ?_⟩
        refine wl_v 3 rfl (v_assign rfl) gn rfl ?_
        refine w_end 4 rfl ?_
        refine g_seq (c := trellislaw32_ChooseGrows_c32) rfl ?_
        refine g_seq (c := trellislaw32_ChooseGrows_c33) rfl ?_
        refine g_region (c := trellislaw32_ChooseGrows_c35) rfl rfl ?_
        refine wl_v 0 rfl (v_assign rfl) gn rfl ?_
        refine w_end 1 rfl ?_
        refine g_block (c := trellislaw32_ChooseGrows_c36) rfl ?_
        refine g_loop (c := trellislaw32_ChooseGrows_c37) rfl ?_
        have key2 : ∀ s, Rounds (fun (s : (List api_Range) × Int) o => trellislaw32_ChooseGrows_b2 r371 r79 r34 r21 x6 s.1 s.2 o) s r → (fun (s : (List api_Range) × Int) => ∀ (hl382 : r34.2 ≤ n37) (h576 : Ow w.heap.size A68 n69 c70 s.1), G (trellislaw32_ChooseGrows_C w F r) [.code trellislaw32_ChooseGrows_c38, .inLoop trellislaw32_ChooseGrows_c38, .inBlock 0, .code trellislaw32_ChooseGrows_c34] [(3, .pointer (some ⟨gb7, 0, none⟩)), (5, .slice A23 n24 c25), (6, .slice A36 r34.2 c38), (9, .slice A68 n69 c70), (10, .slice A81 n82 c83), (11, .slice A373 n374 c375), (12, .int .i64 s.2)] [.own (.slice A373 n374 c375) 24 2 n374 (r371.flatMap enc_api_Range), .own (.slice A81 n82 c83) 24 2 n82 (r79.flatMap enc_api_Range), .own (.slice A68 n69 c70) 24 2 n69 (s.1.flatMap enc_api_Range), .own (.slice A36 n37 c38) 39 7 n37 (r34.1.flatMap enc_api_Node), .own (.slice A23 n24 c25) 39 7 n24 (r21.flatMap enc_api_Node), .box gb7 24 [.int .i64 x6.from_, .int .i64 x6.to]] [Sm w.heap.size F w [], St w []]) s := by
          intro s hs
          refine Rounds.ind (mot := (fun (s : (List api_Range) × Int) => ∀ (hl382 : r34.2 ≤ n37) (h576 : Ow w.heap.size A68 n69 c70 s.1), G (trellislaw32_ChooseGrows_C w F r) [.code trellislaw32_ChooseGrows_c38, .inLoop trellislaw32_ChooseGrows_c38, .inBlock 0, .code trellislaw32_ChooseGrows_c34] [(3, .pointer (some ⟨gb7, 0, none⟩)), (5, .slice A23 n24 c25), (6, .slice A36 r34.2 c38), (9, .slice A68 n69 c70), (10, .slice A81 n82 c83), (11, .slice A373 n374 c375), (12, .int .i64 s.2)] [.own (.slice A373 n374 c375) 24 2 n374 (r371.flatMap enc_api_Range), .own (.slice A81 n82 c83) 24 2 n82 (r79.flatMap enc_api_Range), .own (.slice A68 n69 c70) 24 2 n69 (s.1.flatMap enc_api_Range), .own (.slice A36 n37 c38) 39 7 n37 (r34.1.flatMap enc_api_Node), .own (.slice A23 n24 c25) 39 7 n24 (r21.flatMap enc_api_Node), .box gb7 24 [.int .i64 x6.from_, .int .i64 x6.to]] [Sm w.heap.size F w [], St w []])) ?_ hs
          clear hs s
          intro s o1 h hO1
          obtain ⟨x575, x577⟩ := s
          show ∀ (hl382 : r34.2 ≤ n37) (h576 : Ow w.heap.size A68 n69 c70 x575), G (trellislaw32_ChooseGrows_C w F r) [.code trellislaw32_ChooseGrows_c38, .inLoop trellislaw32_ChooseGrows_c38, .inBlock 0, .code trellislaw32_ChooseGrows_c34] [(3, .pointer (some ⟨gb7, 0, none⟩)), (5, .slice A23 n24 c25), (6, .slice A36 r34.2 c38), (9, .slice A68 n69 c70), (10, .slice A81 n82 c83), (11, .slice A373 n374 c375), (12, .int .i64 x577)] [.own (.slice A373 n374 c375) 24 2 n374 (r371.flatMap enc_api_Range), .own (.slice A81 n82 c83) 24 2 n82 (r79.flatMap enc_api_Range), .own (.slice A68 n69 c70) 24 2 n69 (x575.flatMap enc_api_Range), .own (.slice A36 n37 c38) 39 7 n37 (r34.1.flatMap enc_api_Node), .own (.slice A23 n24 c25) 39 7 n24 (r21.flatMap enc_api_Node), .box gb7 24 [.int .i64 x6.from_, .int .i64 x6.to]] [Sm w.heap.size F w [], St w []]
          intro hl382 h576
          have h : trellislaw32_ChooseGrows_b2 r371 r79 r34 r21 x6 x575 x577 o1 := h
          unfold trellislaw32_ChooseGrows_b2 at h
          refine g_seq (c := trellislaw32_ChooseGrows_c38) rfl ?_
          refine g_seq (c := trellislaw32_ChooseGrows_c39) rfl ?_
          refine g_region (c := trellislaw32_ChooseGrows_c41) rfl rfl ?_
          refine wl_v 0 rfl (v_move rfl) gn rfl ?_
          refine wl_v 1 rfl (v_move rfl) gn rfl ?_
          refine wl_v 2 rfl (v_lenQ un_29 rfl h576.hq) gn rfl ?_
          refine wl_v 3 rfl (v_bin rfl rfl rfl) gn rfl ?_
          refine w_end 4 rfl ?_
          by_cases hp770 : x577 < (x575.length : Int)
          · have h := if_pos' hp770 h
            refine g_true (c := trellislaw32_ChooseGrows_c42) rfl _ rfl ((decide_eq_true hp770)) ?_
            refine g_skip (c := trellislaw32_ChooseGrows_c43) rfl ?_
            refine g_seq (c := trellislaw32_ChooseGrows_c40) rfl ?_
            refine g_block (c := trellislaw32_ChooseGrows_c45) rfl ?_
            refine g_region (c := trellislaw32_ChooseGrows_c47) rfl rfl ?_
            refine wl_v 0 rfl (v_move rfl) gn rfl ?_
            refine wl_v 1 rfl (v_move rfl) gn rfl ?_
            refine wl_v 2 rfl (v_build #[.int .i64 91, .int .i64 0] bd_24 rfl (by kernel_rfl)) gn rfl ?_
            obtain ⟨hb771, h⟩ := h
            refine wl_v 3 rfl (v_idxO slE_29 rfl rfl h576 hb771) gn rfl ?_
            obtain ⟨x772, hv773, h⟩ := h
            refine wl_s 4 rfl (s_stF (enc := enc_api_Range) (o := 0) (z := (⟨91, 0⟩ : api_Range)) (vs := [.int .i64 91, .int .i64 0]) (i := x577) 2 hl_api_Range sz_24 rfl rfl rfl rfl rfl h576 hb771 rfl rfl rfl hv773 fun h774 => ?_) gn
            refine w_end 5 rfl ?_
            refine g_inBlock ?_
            refine g_region (c := trellislaw32_ChooseGrows_c46) rfl rfl ?_
            refine wl_v 0 rfl (v_move rfl) gn rfl ?_
            refine wl_v 1 rfl (v_bin rfl rfl rfl) gn rfl ?_
            refine wl_v 2 rfl (v_assign rfl) gn rfl ?_
            refine w_end 3 rfl ?_
            refine g_inLoop ?_
            have ih := Out.inl hO1 h
            exact g_go [0, 1] (ih hl382 h774) ⟨rfl, rfl, rfl, rfl, rfl, rfl, rfl, trivial⟩ (.cons_cons _ (.cons_cons _ (.cons_cons _ (.cons_cons _ (.cons_cons _ (.cons_cons _ (.slnil))))))) rfl
          · have h := if_neg' hp770 h
            refine g_false (c := trellislaw32_ChooseGrows_c42) rfl _ rfl ((decide_eq_false hp770)) ?_
            refine g_exit (c := trellislaw32_ChooseGrows_c44) [.code trellislaw32_ChooseGrows_c34] rfl rfl ?_
            refine g_seq (c := trellislaw32_ChooseGrows_c34) rfl ?_
            refine g_region (c := trellislaw32_ChooseGrows_c48) rfl rfl ?_
            refine wl_v 0 rfl (v_move rfl) gn rfl ?_
            refine wl_v 1 rfl (v_assign rfl) gn rfl ?_
            refine w_end 2 rfl ?_
            refine g_seq (c := trellislaw32_ChooseGrows_c49) rfl ?_
            refine g_seq (c := trellislaw32_ChooseGrows_c50) rfl ?_
            refine g_region (c := trellislaw32_ChooseGrows_c52) rfl rfl ?_
            refine wl_v 0 rfl (v_assign rfl) gn rfl ?_
            refine w_end 1 rfl ?_
            refine g_block (c := trellislaw32_ChooseGrows_c53) rfl ?_
            refine g_loop (c := trellislaw32_ChooseGrows_c54) rfl ?_
            have key3 : ∀ s, Rounds (fun (s : (List api_Range) × Int) o => trellislaw32_ChooseGrows_b3 r371 r79 r34 r21 x6 s.1 s.2 o) s o1 → (fun (s : (List api_Range) × Int) => ∀ (hl776 : r34.2 ≤ n37) (A787 : Option Addr) (n788 : Nat) (c789 : Nat) (h790 : Ow w.heap.size A787 n788 c789 s.1), G (trellislaw32_ChooseGrows_C w F r) [.code trellislaw32_ChooseGrows_c55, .inLoop trellislaw32_ChooseGrows_c55, .inBlock 2, .code trellislaw32_ChooseGrows_c51] [(3, .pointer (some ⟨gb7, 0, none⟩)), (5, .slice A23 n24 c25), (6, .slice A36 r34.2 c38), (10, .slice A81 n82 c83), (11, .slice A373 n374 c375), (13, .slice A787 n788 c789), (14, .int .i64 s.2)] [.own (.slice A373 n374 c375) 24 2 n374 (r371.flatMap enc_api_Range), .own (.slice A81 n82 c83) 24 2 n82 (r79.flatMap enc_api_Range), .own (.slice A787 n788 c789) 24 2 n788 (s.1.flatMap enc_api_Range), .own (.slice A36 n37 c38) 39 7 n37 (r34.1.flatMap enc_api_Node), .own (.slice A23 n24 c25) 39 7 n24 (r21.flatMap enc_api_Node), .box gb7 24 [.int .i64 x6.from_, .int .i64 x6.to]] [Sm w.heap.size F w [], St w []]) s := by
              intro s hs
              refine Rounds.ind (mot := (fun (s : (List api_Range) × Int) => ∀ (hl776 : r34.2 ≤ n37) (A787 : Option Addr) (n788 : Nat) (c789 : Nat) (h790 : Ow w.heap.size A787 n788 c789 s.1), G (trellislaw32_ChooseGrows_C w F r) [.code trellislaw32_ChooseGrows_c55, .inLoop trellislaw32_ChooseGrows_c55, .inBlock 2, .code trellislaw32_ChooseGrows_c51] [(3, .pointer (some ⟨gb7, 0, none⟩)), (5, .slice A23 n24 c25), (6, .slice A36 r34.2 c38), (10, .slice A81 n82 c83), (11, .slice A373 n374 c375), (13, .slice A787 n788 c789), (14, .int .i64 s.2)] [.own (.slice A373 n374 c375) 24 2 n374 (r371.flatMap enc_api_Range), .own (.slice A81 n82 c83) 24 2 n82 (r79.flatMap enc_api_Range), .own (.slice A787 n788 c789) 24 2 n788 (s.1.flatMap enc_api_Range), .own (.slice A36 n37 c38) 39 7 n37 (r34.1.flatMap enc_api_Node), .own (.slice A23 n24 c25) 39 7 n24 (r21.flatMap enc_api_Node), .box gb7 24 [.int .i64 x6.from_, .int .i64 x6.to]] [Sm w.heap.size F w [], St w []])) ?_ hs
              clear hs s
              intro s o2 h hO2
              obtain ⟨x786, x791⟩ := s
              show ∀ (hl776 : r34.2 ≤ n37) (A787 : Option Addr) (n788 : Nat) (c789 : Nat) (h790 : Ow w.heap.size A787 n788 c789 x786), G (trellislaw32_ChooseGrows_C w F r) [.code trellislaw32_ChooseGrows_c55, .inLoop trellislaw32_ChooseGrows_c55, .inBlock 2, .code trellislaw32_ChooseGrows_c51] [(3, .pointer (some ⟨gb7, 0, none⟩)), (5, .slice A23 n24 c25), (6, .slice A36 r34.2 c38), (10, .slice A81 n82 c83), (11, .slice A373 n374 c375), (13, .slice A787 n788 c789), (14, .int .i64 x791)] [.own (.slice A373 n374 c375) 24 2 n374 (r371.flatMap enc_api_Range), .own (.slice A81 n82 c83) 24 2 n82 (r79.flatMap enc_api_Range), .own (.slice A787 n788 c789) 24 2 n788 (x786.flatMap enc_api_Range), .own (.slice A36 n37 c38) 39 7 n37 (r34.1.flatMap enc_api_Node), .own (.slice A23 n24 c25) 39 7 n24 (r21.flatMap enc_api_Node), .box gb7 24 [.int .i64 x6.from_, .int .i64 x6.to]] [Sm w.heap.size F w [], St w []]
              intro hl776 A787 n788 c789 h790
              have h : trellislaw32_ChooseGrows_b3 r371 r79 r34 r21 x6 x786 x791 o2 := h
              unfold trellislaw32_ChooseGrows_b3 at h
              refine g_seq (c := trellislaw32_ChooseGrows_c55) rfl ?_
              refine g_seq (c := trellislaw32_ChooseGrows_c56) rfl ?_
              refine g_region (c := trellislaw32_ChooseGrows_c58) rfl rfl ?_
              refine wl_v 0 rfl (v_move rfl) gn rfl ?_
              refine wl_v 1 rfl (v_bin rfl rfl rfl) gn rfl ?_
              refine w_end 2 rfl ?_
              by_cases hp877 : x791 < 70
              · have h := if_pos' hp877 h
                refine g_true (c := trellislaw32_ChooseGrows_c59) rfl _ rfl ((decide_eq_true hp877)) ?_
                refine g_skip (c := trellislaw32_ChooseGrows_c60) rfl ?_
                refine g_seq (c := trellislaw32_ChooseGrows_c57) rfl ?_
                refine g_block (c := trellislaw32_ChooseGrows_c62) rfl ?_
                refine g_region (c := trellislaw32_ChooseGrows_c64) rfl rfl ?_
                refine wl_v 0 rfl (v_move rfl) gn rfl ?_
                refine wl_v 1 rfl (v_build #[.int .i64 92, .int .i64 0] bd_24 rfl (by kernel_rfl)) gn rfl ?_
                refine wl_s 2 rfl (s_litO (xs := ([(⟨92, 0⟩ : api_Range)] : List api_Range)) [.int .i64 92, .int .i64 0] bs_29_1 rfl (by kernel_rfl) rfl rfl rfl rfl fun gb879 h880 => ?_) gn
                obtain ⟨x884, hv885, h⟩ := h
                obtain ⟨hb886, h⟩ := h
                refine wl_s 3 rfl (s_app (zs := x884) (cells' := x884.flatMap enc_api_Range) 3 ap_29 rfl rfl rfl h790 (Nat.le_refl _) (Src.ownF (hl := hl_api_Range) (h1 := h1_api_Range) 0 rfl h880) (by rw [hv885, List.flatMap_append] <;> rfl) (app_len hv885 h880.hq) hb886 rfl rfl fun A881 c882 h883 => ?_) gn
                refine wl_v 4 rfl (v_assign rfl) gn rfl ?_
                refine w_end 5 rfl ?_
                refine g_inBlock ?_
                refine g_region (c := trellislaw32_ChooseGrows_c63) rfl rfl ?_
                refine wl_v 0 rfl (v_move rfl) gn rfl ?_
                refine wl_v 1 rfl (v_bin rfl rfl rfl) gn rfl ?_
                refine wl_v 2 rfl (v_assign rfl) gn rfl ?_
                refine w_end 3 rfl ?_
                refine g_inLoop ?_
                have ih := Out.inl hO2 h
                exact g_go [0, 1] (ih hl776 A881 (n788 + 1) c882 h883) ⟨rfl, rfl, rfl, rfl, rfl, rfl, rfl, trivial⟩ (.cons _ (.cons_cons _ (.cons_cons _ (.cons_cons _ (.cons_cons _ (.cons_cons _ (.cons_cons _ (.slnil)))))))) rfl
              · have h := if_neg' hp877 h
                refine g_false (c := trellislaw32_ChooseGrows_c59) rfl _ rfl ((decide_eq_false hp877)) ?_
                refine g_exit (c := trellislaw32_ChooseGrows_c61) [.code trellislaw32_ChooseGrows_c51] rfl rfl ?_
                refine g_seq (c := trellislaw32_ChooseGrows_c51) rfl ?_
                refine g_seq (c := trellislaw32_ChooseGrows_c65) rfl ?_
                have j4 : ∀ (x907 : Bool) (h : trellislaw32_ChooseGrows_j4 r34 x6 x907 o2) (hl906 : r34.2 ≤ n37), G (trellislaw32_ChooseGrows_C w F r) [.code trellislaw32_ChooseGrows_c68, .code trellislaw32_ChooseGrows_c66] [(3, .pointer (some ⟨gb7, 0, none⟩)), (6, .slice A36 r34.2 c38), (96, .bool x907)] [.own (.slice A36 n37 c38) 39 7 n37 (r34.1.flatMap enc_api_Node), .box gb7 24 [.int .i64 x6.from_, .int .i64 x6.to]] [Sm w.heap.size F w [], St w []] := by
                  intro x907 h hl906
                  unfold trellislaw32_ChooseGrows_j4 at h
                  by_cases hp908 : x907 = true
                  · have h := if_pos' hp908 h
                    refine g_true (c := trellislaw32_ChooseGrows_c68) rfl _ rfl (hp908) ?_
                    refine g_seq (c := trellislaw32_ChooseGrows_c69) rfl ?_
                    refine g_region (c := trellislaw32_ChooseGrows_c71) rfl rfl ?_
                    refine wl_v 0 rfl (v_assign rfl) gn rfl ?_
                    refine w_end 1 rfl ?_
                    have h := Out.inr hO2 h
                    have h := Out.inr hO1 h
                    refine g_retR (c := trellislaw32_ChooseGrows_c72) [.bool false] rfl Try.func3 rfl (.tmp rfl (.nil)) fun wr hLr => ?_
                    have hMr : B.Loc w wr [] [St w []] := hLr.pick (rest := [.own (.slice A36 n37 c38) 39 7 n37 (r34.1.flatMap enc_api_Node), .box gb7 24 [.int .i64 x6.from_, .int .i64 x6.to]]) (perm_of_idx [] [0, 1] rfl rfl (by kernel_rfl)) (sels [1] rfl)
                    have hMi : ∀ e ∈ ([] : List Ent), e ∈ ([.own (.slice A36 n37 c38) 39 7 n37 (r34.1.flatMap enc_api_Node), .box gb7 24 [.int .i64 x6.from_, .int .i64 x6.to]] : List Ent) := sels [] rfl
                    show trellislaw32_ChooseGrows_R w F  r (.returned (packV [.bool false])) wr
                    rw [h]
                    exact ⟨rfl, hMr⟩
                  · have h := if_neg' hp908 h
                    refine g_false (c := trellislaw32_ChooseGrows_c68) rfl _ rfl ((bf hp908)) ?_
                    refine g_skip (c := trellislaw32_ChooseGrows_c70) rfl ?_
                    refine g_seq (c := trellislaw32_ChooseGrows_c66) rfl ?_
                    refine g_region (c := trellislaw32_ChooseGrows_c73) rfl rfl ?_
                    refine wl_v 0 rfl (v_move rfl) gn rfl ?_
                    obtain ⟨r912, hv913, h⟩ := h
                    refine wl_s 1 rfl (s_call [.slice A36 r34.2 c38] rfl Try.func20 rfl rfl rfl fun w909 hL910 => ?_) gn
                    have hp911 : List.Perm ([.own (.slice A36 n37 c38) 39 7 n37 (r34.1.flatMap enc_api_Node), .box gb7 24 [.int .i64 x6.from_, .int .i64 x6.to]] : List Ent) (([.own (.slice A36 n37 c38) 39 7 n37 (r34.1.flatMap enc_api_Node)] : List Ent) ++ ([.box gb7 24 [.int .i64 x6.from_, .int .i64 x6.to]] : List Ent)) := perm_of_idx [0] [1] rfl rfl (by kernel_rfl)
                    refine Calls.mono (trellislaw32_over_calls w909 (Fl ([] : List Snap)) r34.1 r34.2 w.heap.size A36 n37 c38 hL910.env.size (Ow.weak hL32.env.size h39) hl906 (hL910.hFl (Sl := ([] : List Snap)) hp911 (sels [] rfl)) (hL910.into hp911 (Fl ([] : List Snap))) r912 hv913) ?_
                    rintro _ w914 ⟨rfl, hM915, h917⟩
                    have hL916 := hL910.call hp911 hM915
                    refine ⟨_, _, _, rfl, hL916, ?_⟩
                    refine w_end 2 rfl ?_
                    refine g_seq (c := trellislaw32_ChooseGrows_c74) rfl ?_
                    refine g_seq (c := trellislaw32_ChooseGrows_c75) rfl ?_
                    refine g_region (c := trellislaw32_ChooseGrows_c77) rfl rfl ?_
                    refine wl_v 0 rfl (v_move rfl) gn rfl ?_
                    refine wl_v 1 rfl (v_ldB [.int .i64 x6.from_, .int .i64 x6.to] 1 ld_24 rfl rfl rfl rfl) gn rfl ?_
                    obtain ⟨r921, hv922, h⟩ := h
                    refine wl_s 2 rfl (s_call [.slice A36 r34.2 c38, .agg #[.int .i64 x6.from_, .int .i64 x6.to]] rfl Try.func21 rfl rfl rfl fun w918 hL919 => ?_) gn
                    have hp920 : List.Perm ([.own (.slice A36 n37 c38) 39 7 n37 (r912.flatMap enc_api_Node), .box gb7 24 [.int .i64 x6.from_, .int .i64 x6.to]] : List Ent) (([] : List Ent) ++ ([.own (.slice A36 n37 c38) 39 7 n37 (r912.flatMap enc_api_Node), .box gb7 24 [.int .i64 x6.from_, .int .i64 x6.to]] : List Ent)) := perm_of_idx [] [0, 1] rfl rfl (by kernel_rfl)
                    refine Calls.mono (trellislaw32_grows_calls w918 (Fl ([] : List Snap)) r912 r34.2 x6 A36 n37 c38 (hL919.argO (dk := k_api_Node) hp920 [] rfl 0 rfl rfl h917 (me 0 rfl) (Cells.flat _)) hl906 (hL919.hFl (Sl := ([] : List Snap)) hp920 (sels [] rfl)) (hL919.into hp920 (Fl ([] : List Snap))) r921 hv922) ?_
                    rintro _ w923 ⟨rfl, hM924⟩
                    have hL925 := hL919.call hp920 hM924
                    refine ⟨_, _, _, rfl, hL925, ?_⟩
                    refine wl_v 3 rfl (v_not rfl) gn rfl ?_
                    refine w_end 4 rfl ?_
                    by_cases hp926 : r921 = true
                    · have h := if_pos' hp926 h
                      refine g_false (c := trellislaw32_ChooseGrows_c78) rfl _ rfl ((nf hp926)) ?_
                      refine g_skip (c := trellislaw32_ChooseGrows_c80) rfl ?_
                      refine g_seq (c := trellislaw32_ChooseGrows_c76) rfl ?_
                      refine g_region (c := trellislaw32_ChooseGrows_c81) rfl rfl ?_
                      refine wl_v 0 rfl (v_move rfl) gn rfl ?_
                      obtain ⟨r930, hv931, h⟩ := h
                      refine wl_s 1 rfl (s_call [.slice A36 r34.2 c38] rfl Try.func22 rfl rfl rfl fun w927 hL928 => ?_) gn
                      have hp929 : List.Perm ([.own (.slice A36 n37 c38) 39 7 n37 (r912.flatMap enc_api_Node), .box gb7 24 [.int .i64 x6.from_, .int .i64 x6.to]] : List Ent) (([.own (.slice A36 n37 c38) 39 7 n37 (r912.flatMap enc_api_Node)] : List Ent) ++ ([.box gb7 24 [.int .i64 x6.from_, .int .i64 x6.to]] : List Ent)) := perm_of_idx [0] [1] rfl rfl (by kernel_rfl)
                      refine Calls.mono (trellislaw32_bare_calls w927 (Fl ([] : List Snap)) r912 r34.2 w.heap.size A36 n37 c38 hL928.env.size h917 hl906 (hL928.hFl (Sl := ([] : List Snap)) hp929 (sels [] rfl)) (hL928.into hp929 (Fl ([] : List Snap))) r930 hv931) ?_
                      rintro _ w932 ⟨rfl, hM933, h935⟩
                      have hL934 := hL928.call hp929 hM933
                      refine ⟨_, _, _, rfl, hL934, ?_⟩
                      refine w_end 2 rfl ?_
                      refine g_seq (c := trellislaw32_ChooseGrows_c82) rfl ?_
                      refine g_region (c := trellislaw32_ChooseGrows_c83) rfl rfl ?_
                      refine wl_v 0 rfl (v_move rfl) gn rfl ?_
                      refine wl_v 1 rfl (v_ldB [.int .i64 x6.from_, .int .i64 x6.to] 1 ld_24 rfl rfl rfl rfl) gn rfl ?_
                      obtain ⟨r939, hv940, h⟩ := h
                      refine wl_s 2 rfl (s_call [.slice A36 r34.2 c38, .agg #[.int .i64 x6.from_, .int .i64 x6.to]] rfl Try.func21 rfl rfl rfl fun w936 hL937 => ?_) gn
                      have hp938 : List.Perm ([.own (.slice A36 n37 c38) 39 7 n37 (r930.flatMap enc_api_Node), .box gb7 24 [.int .i64 x6.from_, .int .i64 x6.to]] : List Ent) (([] : List Ent) ++ ([.own (.slice A36 n37 c38) 39 7 n37 (r930.flatMap enc_api_Node), .box gb7 24 [.int .i64 x6.from_, .int .i64 x6.to]] : List Ent)) := perm_of_idx [] [0, 1] rfl rfl (by kernel_rfl)
                      refine Calls.mono (trellislaw32_grows_calls w936 (Fl ([] : List Snap)) r930 r34.2 x6 A36 n37 c38 (hL937.argO (dk := k_api_Node) hp938 [] rfl 0 rfl rfl h935 (me 0 rfl) (Cells.flat _)) hl906 (hL937.hFl (Sl := ([] : List Snap)) hp938 (sels [] rfl)) (hL937.into hp938 (Fl ([] : List Snap))) r939 hv940) ?_
                      rintro _ w941 ⟨rfl, hM942⟩
                      have hL943 := hL937.call hp938 hM942
                      refine ⟨_, _, _, rfl, hL943, ?_⟩
                      refine wl_v 3 rfl (v_assign rfl) gn rfl ?_
                      refine w_end 4 rfl ?_
                      have h := Out.inr hO2 h
                      have h := Out.inr hO1 h
                      refine g_retR (c := trellislaw32_ChooseGrows_c84) [.bool r939] rfl Try.func3 rfl (.tmp rfl (.nil)) fun wr hLr => ?_
                      have hMr : B.Loc w wr [] [St w []] := hLr.pick (rest := [.own (.slice A36 n37 c38) 39 7 n37 (r930.flatMap enc_api_Node), .box gb7 24 [.int .i64 x6.from_, .int .i64 x6.to]]) (perm_of_idx [] [0, 1] rfl rfl (by kernel_rfl)) (sels [1] rfl)
                      have hMi : ∀ e ∈ ([] : List Ent), e ∈ ([.own (.slice A36 n37 c38) 39 7 n37 (r930.flatMap enc_api_Node), .box gb7 24 [.int .i64 x6.from_, .int .i64 x6.to]] : List Ent) := sels [] rfl
                      show trellislaw32_ChooseGrows_R w F  r (.returned (packV [.bool r939])) wr
                      rw [h]
                      exact ⟨rfl, hMr⟩
                    · have h := if_neg' hp926 h
                      refine g_true (c := trellislaw32_ChooseGrows_c78) rfl _ rfl ((nt (bf hp926))) ?_
                      refine g_seq (c := trellislaw32_ChooseGrows_c79) rfl ?_
                      refine g_region (c := trellislaw32_ChooseGrows_c85) rfl rfl ?_
                      refine wl_v 0 rfl (v_assign rfl) gn rfl ?_
                      refine w_end 1 rfl ?_
                      have h := Out.inr hO2 h
                      have h := Out.inr hO1 h
                      refine g_retR (c := trellislaw32_ChooseGrows_c86) [.bool false] rfl Try.func3 rfl (.tmp rfl (.nil)) fun wr hLr => ?_
                      have hMr : B.Loc w wr [] [St w []] := hLr.pick (rest := [.own (.slice A36 n37 c38) 39 7 n37 (r912.flatMap enc_api_Node), .box gb7 24 [.int .i64 x6.from_, .int .i64 x6.to]]) (perm_of_idx [] [0, 1] rfl rfl (by kernel_rfl)) (sels [1] rfl)
                      have hMi : ∀ e ∈ ([] : List Ent), e ∈ ([.own (.slice A36 n37 c38) 39 7 n37 (r912.flatMap enc_api_Node), .box gb7 24 [.int .i64 x6.from_, .int .i64 x6.to]] : List Ent) := sels [] rfl
                      show trellislaw32_ChooseGrows_R w F  r (.returned (packV [.bool false])) wr
                      rw [h]
                      exact ⟨rfl, hMr⟩
                refine g_region (c := trellislaw32_ChooseGrows_c67) rfl rfl ?_
                refine wl_v 0 rfl (v_move rfl) gn rfl ?_
                refine wl_v 1 rfl (v_move rfl) gn rfl ?_
                obtain ⟨r947, hv948, h⟩ := h
                refine wl_s 2 rfl (s_call [.slice A373 n374 c375, .slice A81 n82 c83] rfl Try.func18 rfl rfl rfl fun w944 hL945 => ?_) gn
                have hp946 : List.Perm ([.own (.slice A373 n374 c375) 24 2 n374 (r371.flatMap enc_api_Range), .own (.slice A81 n82 c83) 24 2 n82 (r79.flatMap enc_api_Range), .own (.slice A787 n788 c789) 24 2 n788 (x786.flatMap enc_api_Range), .own (.slice A36 n37 c38) 39 7 n37 (r34.1.flatMap enc_api_Node), .own (.slice A23 n24 c25) 39 7 n24 (r21.flatMap enc_api_Node), .box gb7 24 [.int .i64 x6.from_, .int .i64 x6.to]] : List Ent) (([] : List Ent) ++ ([.own (.slice A373 n374 c375) 24 2 n374 (r371.flatMap enc_api_Range), .own (.slice A81 n82 c83) 24 2 n82 (r79.flatMap enc_api_Range), .own (.slice A787 n788 c789) 24 2 n788 (x786.flatMap enc_api_Range), .own (.slice A36 n37 c38) 39 7 n37 (r34.1.flatMap enc_api_Node), .own (.slice A23 n24 c25) 39 7 n24 (r21.flatMap enc_api_Node), .box gb7 24 [.int .i64 x6.from_, .int .i64 x6.to]] : List Ent)) := perm_of_idx [] [0, 1, 2, 3, 4, 5] rfl rfl (by kernel_rfl)
                refine Calls.mono (trellislaw32_sameRanges_calls w944 (Fl ([] : List Snap)) r371 r79 A373 n374 c375 A81 n82 c83 (hL945.argO (dk := k_api_Range) hp946 [] rfl 0 rfl rfl (Ow.weak hL369.env.size h376) (me 0 rfl) (Cells.flat _)) (hL945.argO (dk := k_api_Range) hp946 [] rfl 1 rfl rfl (Ow.weak hL77.env.size h84) (me 0 rfl) (Cells.flat _)) (hL945.hFl (Sl := ([] : List Snap)) hp946 (sels [] rfl)) (hL945.into hp946 (Fl ([] : List Snap))) r947 hv948) ?_
                rintro _ w949 ⟨rfl, hM950⟩
                have hL951 := hL945.call hp946 hM950
                refine ⟨_, _, _, rfl, hL951, ?_⟩
                refine wl_v 3 rfl (v_not rfl) gn rfl ?_
                refine wl_v 4 rfl (v_move rfl) gn rfl ?_
                by_cases hp952 : r947 = true
                · have h := if_pos' hp952 h
                  refine w_bool 83 rfl ((nf hp952)) ?_
                  refine wl_v 5 rfl (v_move rfl) (gy 83 rfl rfl) rfl ?_
                  refine wl_v 6 rfl (v_lenQ un_29 rfl h790.hq) (gy 83 rfl rfl) rfl ?_
                  refine wl_v 7 rfl (v_move rfl) (gy 83 rfl rfl) rfl ?_
                  refine wl_v 8 rfl (v_lenQ un_29 rfl (Ow.weak hL77.env.size h84).hq) (gy 83 rfl rfl) rfl ?_
                  refine wl_v 9 rfl (v_bin rfl rfl rfl) (gy 83 rfl rfl) rfl ?_
                  refine wl_v 10 rfl (v_bin rfl rfl rfl) (gy 83 rfl rfl) rfl ?_
                  refine wl_v 11 rfl (v_pick (b := false) rfl rfl) gn rfl ?_
                  refine wl_v 12 rfl (v_move rfl) gn rfl ?_
                  by_cases hp953 : (x786.length : Int) = w64 ((r79.length : Int) + 70)
                  · have h := if_pos' hp953 h
                    refine w_bool 91 rfl ((eqib hp953)) ?_
                    refine wl_v 13 rfl (v_move rfl) (gy 91 rfl rfl) rfl ?_
                    refine wl_v 14 rfl (v_move rfl) (gy 91 rfl rfl) rfl ?_
                    obtain ⟨r957, hv958, h⟩ := h
                    refine wl_s 15 rfl (s_call [.slice A36 r34.2 c38, .slice A23 n24 c25] rfl Try.func19 rfl rfl rfl fun w954 hL955 => ?_) (gy 91 rfl rfl)
                    have hp956 : List.Perm ([.own (.slice A373 n374 c375) 24 2 n374 (r371.flatMap enc_api_Range), .own (.slice A81 n82 c83) 24 2 n82 (r79.flatMap enc_api_Range), .own (.slice A787 n788 c789) 24 2 n788 (x786.flatMap enc_api_Range), .own (.slice A36 n37 c38) 39 7 n37 (r34.1.flatMap enc_api_Node), .own (.slice A23 n24 c25) 39 7 n24 (r21.flatMap enc_api_Node), .box gb7 24 [.int .i64 x6.from_, .int .i64 x6.to]] : List Ent) (([] : List Ent) ++ ([.own (.slice A373 n374 c375) 24 2 n374 (r371.flatMap enc_api_Range), .own (.slice A81 n82 c83) 24 2 n82 (r79.flatMap enc_api_Range), .own (.slice A787 n788 c789) 24 2 n788 (x786.flatMap enc_api_Range), .own (.slice A36 n37 c38) 39 7 n37 (r34.1.flatMap enc_api_Node), .own (.slice A23 n24 c25) 39 7 n24 (r21.flatMap enc_api_Node), .box gb7 24 [.int .i64 x6.from_, .int .i64 x6.to]] : List Ent)) := perm_of_idx [] [0, 1, 2, 3, 4, 5] rfl rfl (by kernel_rfl)
                    refine Calls.mono (trellislaw32_still_calls w954 (Fl ([] : List Snap)) r34.1 r34.2 r21 A36 n37 c38 A23 n24 c25 (hL955.argO (dk := k_api_Node) hp956 [] rfl 3 rfl rfl (Ow.weak hL32.env.size h39) (me 0 rfl) (Cells.flat _)) hl776 (hL955.argO (dk := k_api_Node) hp956 [] rfl 4 rfl rfl (Ow.weak hL19.env.size h26) (me 0 rfl) (Cells.flat _)) (hL955.hFl (Sl := ([] : List Snap)) hp956 (sels [] rfl)) (hL955.into hp956 (Fl ([] : List Snap))) r957 hv958) ?_
                    rintro _ w959 ⟨rfl, hM960⟩
                    have hL961 := hL955.call hp956 hM960
                    refine ⟨_, _, _, rfl, hL961, ?_⟩
                    refine wl_v 16 rfl (v_not rfl) (gy 91 rfl rfl) rfl ?_
                    refine wl_v 17 rfl (v_pick (b := false) rfl rfl) gn rfl ?_
                    refine w_end 18 rfl ?_
                    exact g_go [0, 1] (j4 (!r957) h hl776) ⟨rfl, rfl, rfl, trivial⟩ (.cons _ (.cons _ (.cons _ (.cons_cons _ (.cons _ (.cons_cons _ (.slnil))))))) rfl
                  · have h := if_neg' hp953 h
                    refine w_bool 91 rfl ((neib hp953)) ?_
                    refine wl_pass 13 rfl (ps 91 rfl rfl rfl) ?_
                    refine wl_pass 14 rfl (ps 91 rfl rfl rfl) ?_
                    refine wl_pass 15 rfl (ps 91 rfl rfl rfl) ?_
                    refine wl_pass 16 rfl (ps 91 rfl rfl rfl) ?_
                    refine wl_v 17 rfl (v_pick (b := true) rfl rfl) gn rfl ?_
                    refine w_end 18 rfl ?_
                    exact g_go [0, 1] (j4 true h hl776) ⟨rfl, rfl, rfl, trivial⟩ (.cons _ (.cons _ (.cons _ (.cons_cons _ (.cons _ (.cons_cons _ (.slnil))))))) rfl
                · have h := if_neg' hp952 h
                  refine w_bool 83 rfl ((nt (bf hp952))) ?_
                  refine wl_pass 5 rfl (ps 83 rfl rfl rfl) ?_
                  refine wl_pass 6 rfl (ps 83 rfl rfl rfl) ?_
                  refine wl_pass 7 rfl (ps 83 rfl rfl rfl) ?_
                  refine wl_pass 8 rfl (ps 83 rfl rfl rfl) ?_
                  refine wl_pass 9 rfl (ps 83 rfl rfl rfl) ?_
                  refine wl_pass 10 rfl (ps 83 rfl rfl rfl) ?_
                  refine wl_v 11 rfl (v_pick (b := true) rfl rfl) gn rfl ?_
                  refine wl_v 12 rfl (v_move rfl) gn rfl ?_
                  refine wl_pass 13 rfl (ps 91 rfl rfl rfl) ?_
                  refine wl_pass 14 rfl (ps 91 rfl rfl rfl) ?_
                  refine wl_pass 15 rfl (ps 91 rfl rfl rfl) ?_
                  refine wl_pass 16 rfl (ps 91 rfl rfl rfl) ?_
                  refine wl_v 17 rfl (v_pick (b := true) rfl rfl) gn rfl ?_
                  refine w_end 18 rfl ?_
                  exact g_go [0, 1] (j4 true h hl776) ⟨rfl, rfl, rfl, trivial⟩ (.cons _ (.cons _ (.cons _ (.cons_cons _ (.cons _ (.cons_cons _ (.slnil))))))) rfl
            exact g_go [0, 1] (key3 _ h hl382 A68 n69 c70 h576) ⟨rfl, rfl, rfl, rfl, rfl, rfl, rfl, trivial⟩ (.cons_cons _ (.cons_cons _ (.cons_cons _ (.cons_cons _ (.cons_cons _ (.cons_cons _ (.slnil))))))) rfl
        exact g_go [0, 1] (key2 _ h hl365 (Ow.weak hL64.env.size h71)) ⟨rfl, rfl, rfl, rfl, rfl, rfl, rfl, trivial⟩ (.cons_cons _ (.cons_cons _ (.cons_cons _ (.cons_cons _ (.cons_cons _ (.cons_cons _ (.slnil))))))) rfl
    obtain ⟨r965, hv966, h⟩ := h
    by_cases hp970 : r48 = r965
    · have h := if_pos' hp970 h
      obtain ⟨r974, hv975, h⟩ := h
      by_cases hp979 : r56 = r974
      · have h := if_pos' hp979 h
        obtain ⟨r983, hv984, h⟩ := h
        by_cases hp988 : r983 = true
        · have h := if_pos' hp988 h
          obtain ⟨r992, hv993, h⟩ := h
          have hns : Region.noSelect (Code.ops trellislaw32_ChooseGrows_c25) = true := by kernel_rfl
          refine g_drawF (c := trellislaw32_ChooseGrows_c25) [.own (.slice A81 n82 c83) 24 2 n82 (r79.flatMap enc_api_Range), .own (.slice A68 n69 c70) 24 2 n69 (r66.flatMap enc_api_Range), .box gb61 24 [.int .i64 r56.from_, .int .i64 r56.to], .own (.slice A36 n37 c38) 39 7 n37 (r34.1.flatMap enc_api_Node), .own (.slice A23 n24 c25) 39 7 n24 (r21.flatMap enc_api_Node), .box gb7 24 [.int .i64 x6.from_, .int .i64 x6.to]] [Sm w.heap.size F w [], St w []] [] 24 rfl rfl mix rfl (.cons_cons _ (.cons_cons _ (.cons_cons _ (.cons_cons _ (.cons_cons _ (.cons_cons _ (.slnil))))))) (sels [0, 1] rfl) ?_
          refine wf_v 0 rfl (v_move rfl) gn rfl hns (by kernel_rfl) (by kernel_rfl) rfl rfl ?_
          refine wf_v 1 rfl (v_move rfl) gn rfl hns (by kernel_rfl) (by kernel_rfl) rfl rfl ?_
          refine wf_v 2 rfl (v_ldB [.int .i64 x6.from_, .int .i64 x6.to] 5 ld_24 rfl rfl rfl rfl) gn rfl hns (by kernel_rfl) (by kernel_rfl) rfl rfl ?_
          refine wf_all [3] (by kernel_rfl) rfl ⟨on_s 3 rfl gn rfl (s_call [.slice A23 n24 c25, .agg #[.int .i64 x6.from_, .int .i64 x6.to]] rfl Try.func16 rfl rfl rfl fun w1051 hL1052 => ?_), trivial⟩
          have hp1053 : List.Perm ([.own (.slice A81 n82 c83) 24 2 n82 (r79.flatMap enc_api_Range), .own (.slice A68 n69 c70) 24 2 n69 (r66.flatMap enc_api_Range), .box gb61 24 [.int .i64 r56.from_, .int .i64 r56.to], .own (.slice A36 n37 c38) 39 7 n37 (r34.1.flatMap enc_api_Node), .own (.slice A23 n24 c25) 39 7 n24 (r21.flatMap enc_api_Node), .box gb7 24 [.int .i64 x6.from_, .int .i64 x6.to]] : List Ent) (([] : List Ent) ++ ([.own (.slice A81 n82 c83) 24 2 n82 (r79.flatMap enc_api_Range), .own (.slice A68 n69 c70) 24 2 n69 (r66.flatMap enc_api_Range), .box gb61 24 [.int .i64 r56.from_, .int .i64 r56.to], .own (.slice A36 n37 c38) 39 7 n37 (r34.1.flatMap enc_api_Node), .own (.slice A23 n24 c25) 39 7 n24 (r21.flatMap enc_api_Node), .box gb7 24 [.int .i64 x6.from_, .int .i64 x6.to]] : List Ent)) := perm_of_idx [] [0, 1, 2, 3, 4, 5] rfl rfl (by kernel_rfl)
          refine Calls.mono (trellisref32_Cover_calls w1051 (Fl ([] : List Snap)) r21 x6 A23 n24 c25 (hL1052.argO (dk := k_api_Node) hp1053 [] rfl 4 rfl rfl (Ow.weak hL19.env.size h26) (me 0 rfl) (Cells.flat _)) (hL1052.hFl (Sl := ([] : List Snap)) hp1053 (sels [] rfl)) (hL1052.into hp1053 (Fl ([] : List Snap))) r965 hv966) ?_
          rintro _ w1054 ⟨rfl, hM1055⟩
          have hL1056 := hL1052.call hp1053 hM1055
          refine ⟨_, _, _, rfl, hL1056, ?_⟩
          refine ⟨sels [0, 1, 2, 3, 4, 5] rfl, sels [0, 1] rfl, ?_⟩
          refine wf_v 4 rfl (v_bin rfl rfl rfl) gn rfl hns (by kernel_rfl) (by kernel_rfl) rfl rfl ?_
          refine wf_v 5 rfl (v_move rfl) gn rfl hns (by kernel_rfl) (by kernel_rfl) rfl rfl ?_
          refine wf_bool 38 rfl ((eqib hp970)) ?_
          refine wf_v 6 rfl (v_ldB [.int .i64 r56.from_, .int .i64 r56.to] 2 ld_24 rfl rfl rfl rfl) (gy 38 rfl rfl) rfl hns (by kernel_rfl) (by kernel_rfl) rfl rfl ?_
          refine wf_v 7 rfl (v_move rfl) (gy 38 rfl rfl) rfl hns (by kernel_rfl) (by kernel_rfl) rfl rfl ?_
          refine wf_v 8 rfl (v_ldB [.int .i64 x6.from_, .int .i64 x6.to] 5 ld_24 rfl rfl rfl rfl) (gy 38 rfl rfl) rfl hns (by kernel_rfl) (by kernel_rfl) rfl rfl ?_
          refine wf_all [9] (by kernel_rfl) rfl ⟨on_s 9 rfl (gy 38 rfl rfl) rfl (s_call [.slice A23 n24 c25, .agg #[.int .i64 x6.from_, .int .i64 x6.to]] rfl Try.func17 rfl rfl rfl fun w1063 hL1064 => ?_), trivial⟩
          have hp1065 : List.Perm ([.own (.slice A81 n82 c83) 24 2 n82 (r79.flatMap enc_api_Range), .own (.slice A68 n69 c70) 24 2 n69 (r66.flatMap enc_api_Range), .box gb61 24 [.int .i64 r56.from_, .int .i64 r56.to], .own (.slice A36 n37 c38) 39 7 n37 (r34.1.flatMap enc_api_Node), .own (.slice A23 n24 c25) 39 7 n24 (r21.flatMap enc_api_Node), .box gb7 24 [.int .i64 x6.from_, .int .i64 x6.to]] : List Ent) (([] : List Ent) ++ ([.own (.slice A81 n82 c83) 24 2 n82 (r79.flatMap enc_api_Range), .own (.slice A68 n69 c70) 24 2 n69 (r66.flatMap enc_api_Range), .box gb61 24 [.int .i64 r56.from_, .int .i64 r56.to], .own (.slice A36 n37 c38) 39 7 n37 (r34.1.flatMap enc_api_Node), .own (.slice A23 n24 c25) 39 7 n24 (r21.flatMap enc_api_Node), .box gb7 24 [.int .i64 x6.from_, .int .i64 x6.to]] : List Ent)) := perm_of_idx [] [0, 1, 2, 3, 4, 5] rfl rfl (by kernel_rfl)
          refine Calls.mono (trellisref32_Grow_calls w1063 (Fl ([] : List Snap)) r21 x6 A23 n24 c25 (hL1064.argO (dk := k_api_Node) hp1065 [] rfl 4 rfl rfl (Ow.weak hL19.env.size h26) (me 0 rfl) (Cells.flat _)) (hL1064.hFl (Sl := ([] : List Snap)) hp1065 (sels [] rfl)) (hL1064.into hp1065 (Fl ([] : List Snap))) r974 hv975) ?_
          rintro _ w1066 ⟨rfl, hM1067⟩
          have hL1068 := hL1064.call hp1065 hM1067
          refine ⟨_, _, _, rfl, hL1068, ?_⟩
          refine ⟨sels [0, 1, 2, 3, 4, 5] rfl, sels [0, 1] rfl, ?_⟩
          refine wf_v 10 rfl (v_neSt eq_24 rfl rfl (eqd_api_Range r56 r974)) (gy 38 rfl rfl) rfl hns (by kernel_rfl) (by kernel_rfl) rfl rfl ?_
          refine wf_v 11 rfl (v_pick (b := false) rfl rfl) gn rfl hns (by kernel_rfl) (by kernel_rfl) rfl rfl ?_
          refine wf_v 12 rfl (v_move rfl) gn rfl hns (by kernel_rfl) (by kernel_rfl) rfl rfl ?_
          refine wf_bool 45 rfl ((nf (decide_eq_true hp979))) ?_
          refine wf_v 13 rfl (v_move rfl) (gy 45 rfl rfl) rfl hns (by kernel_rfl) (by kernel_rfl) rfl rfl ?_
          refine wf_v 14 rfl (v_move rfl) (gy 45 rfl rfl) rfl hns (by kernel_rfl) (by kernel_rfl) rfl rfl ?_
          refine wf_all [15] (by kernel_rfl) rfl ⟨on_s 15 rfl (gy 45 rfl rfl) rfl (s_call [.slice A68 n69 c70, .slice A81 n82 c83] rfl Try.func18 rfl rfl rfl fun w1075 hL1076 => ?_), trivial⟩
          have hp1077 : List.Perm ([.own (.slice A81 n82 c83) 24 2 n82 (r79.flatMap enc_api_Range), .own (.slice A68 n69 c70) 24 2 n69 (r66.flatMap enc_api_Range), .box gb61 24 [.int .i64 r56.from_, .int .i64 r56.to], .own (.slice A36 n37 c38) 39 7 n37 (r34.1.flatMap enc_api_Node), .own (.slice A23 n24 c25) 39 7 n24 (r21.flatMap enc_api_Node), .box gb7 24 [.int .i64 x6.from_, .int .i64 x6.to]] : List Ent) (([] : List Ent) ++ ([.own (.slice A81 n82 c83) 24 2 n82 (r79.flatMap enc_api_Range), .own (.slice A68 n69 c70) 24 2 n69 (r66.flatMap enc_api_Range), .box gb61 24 [.int .i64 r56.from_, .int .i64 r56.to], .own (.slice A36 n37 c38) 39 7 n37 (r34.1.flatMap enc_api_Node), .own (.slice A23 n24 c25) 39 7 n24 (r21.flatMap enc_api_Node), .box gb7 24 [.int .i64 x6.from_, .int .i64 x6.to]] : List Ent)) := perm_of_idx [] [0, 1, 2, 3, 4, 5] rfl rfl (by kernel_rfl)
          refine Calls.mono (trellislaw32_sameRanges_calls w1075 (Fl ([] : List Snap)) r66 r79 A68 n69 c70 A81 n82 c83 (hL1076.argO (dk := k_api_Range) hp1077 [] rfl 1 rfl rfl (Ow.weak hL64.env.size h71) (me 0 rfl) (Cells.flat _)) (hL1076.argO (dk := k_api_Range) hp1077 [] rfl 0 rfl rfl (Ow.weak hL77.env.size h84) (me 0 rfl) (Cells.flat _)) (hL1076.hFl (Sl := ([] : List Snap)) hp1077 (sels [] rfl)) (hL1076.into hp1077 (Fl ([] : List Snap))) r983 hv984) ?_
          rintro _ w1078 ⟨rfl, hM1079⟩
          have hL1080 := hL1076.call hp1077 hM1079
          refine ⟨_, _, _, rfl, hL1080, ?_⟩
          refine ⟨sels [0, 1, 2, 3, 4, 5] rfl, sels [0, 1] rfl, ?_⟩
          refine wf_v 16 rfl (v_not rfl) (gy 45 rfl rfl) rfl hns (by kernel_rfl) (by kernel_rfl) rfl rfl ?_
          refine wf_v 17 rfl (v_pick (b := false) rfl rfl) gn rfl hns (by kernel_rfl) (by kernel_rfl) rfl rfl ?_
          refine wf_v 18 rfl (v_move rfl) gn rfl hns (by kernel_rfl) (by kernel_rfl) rfl rfl ?_
          refine wf_bool 51 rfl ((nf hp988)) ?_
          refine wf_v 19 rfl (v_move rfl) (gy 51 rfl rfl) rfl hns (by kernel_rfl) (by kernel_rfl) rfl rfl ?_
          refine wf_v 20 rfl (v_move rfl) (gy 51 rfl rfl) rfl hns (by kernel_rfl) (by kernel_rfl) rfl rfl ?_
          refine wf_all [21] (by kernel_rfl) rfl ⟨on_s 21 rfl (gy 51 rfl rfl) rfl (s_call [.slice A36 r34.2 c38, .slice A23 n24 c25] rfl Try.func19 rfl rfl rfl fun w1087 hL1088 => ?_), trivial⟩
          have hp1089 : List.Perm ([.own (.slice A81 n82 c83) 24 2 n82 (r79.flatMap enc_api_Range), .own (.slice A68 n69 c70) 24 2 n69 (r66.flatMap enc_api_Range), .box gb61 24 [.int .i64 r56.from_, .int .i64 r56.to], .own (.slice A36 n37 c38) 39 7 n37 (r34.1.flatMap enc_api_Node), .own (.slice A23 n24 c25) 39 7 n24 (r21.flatMap enc_api_Node), .box gb7 24 [.int .i64 x6.from_, .int .i64 x6.to]] : List Ent) (([] : List Ent) ++ ([.own (.slice A81 n82 c83) 24 2 n82 (r79.flatMap enc_api_Range), .own (.slice A68 n69 c70) 24 2 n69 (r66.flatMap enc_api_Range), .box gb61 24 [.int .i64 r56.from_, .int .i64 r56.to], .own (.slice A36 n37 c38) 39 7 n37 (r34.1.flatMap enc_api_Node), .own (.slice A23 n24 c25) 39 7 n24 (r21.flatMap enc_api_Node), .box gb7 24 [.int .i64 x6.from_, .int .i64 x6.to]] : List Ent)) := perm_of_idx [] [0, 1, 2, 3, 4, 5] rfl rfl (by kernel_rfl)
          refine Calls.mono (trellislaw32_still_calls w1087 (Fl ([] : List Snap)) r34.1 r34.2 r21 A36 n37 c38 A23 n24 c25 (hL1088.argO (dk := k_api_Node) hp1089 [] rfl 3 rfl rfl (Ow.weak hL32.env.size h39) (me 0 rfl) (Cells.flat _)) hk40 (hL1088.argO (dk := k_api_Node) hp1089 [] rfl 4 rfl rfl (Ow.weak hL19.env.size h26) (me 0 rfl) (Cells.flat _)) (hL1088.hFl (Sl := ([] : List Snap)) hp1089 (sels [] rfl)) (hL1088.into hp1089 (Fl ([] : List Snap))) r992 hv993) ?_
          rintro _ w1090 ⟨rfl, hM1091⟩
          have hL1092 := hL1088.call hp1089 hM1091
          refine ⟨_, _, _, rfl, hL1092, ?_⟩
          refine ⟨sels [0, 1, 2, 3, 4, 5] rfl, sels [0, 1] rfl, ?_⟩
          refine wf_v 22 rfl (v_not rfl) (gy 51 rfl rfl) rfl hns (by kernel_rfl) (by kernel_rfl) rfl rfl ?_
          refine wf_v 23 rfl (v_pick (b := false) rfl rfl) gn rfl hns (by kernel_rfl) (by kernel_rfl) rfl rfl ?_
          refine wf_end (by kernel_rfl) ?_
          exact g_go [0, 1] (j1 (!r992) h hk40) ⟨rfl, rfl, rfl, rfl, rfl, rfl, trivial⟩ (.cons_cons _ (.cons_cons _ (.cons _ (.cons_cons _ (.cons_cons _ (.cons_cons _ (.slnil))))))) rfl
        · have h := if_neg' hp988 h
          have hns : Region.noSelect (Code.ops trellislaw32_ChooseGrows_c25) = true := by kernel_rfl
          refine g_drawF (c := trellislaw32_ChooseGrows_c25) [.own (.slice A81 n82 c83) 24 2 n82 (r79.flatMap enc_api_Range), .own (.slice A68 n69 c70) 24 2 n69 (r66.flatMap enc_api_Range), .box gb61 24 [.int .i64 r56.from_, .int .i64 r56.to], .own (.slice A36 n37 c38) 39 7 n37 (r34.1.flatMap enc_api_Node), .own (.slice A23 n24 c25) 39 7 n24 (r21.flatMap enc_api_Node), .box gb7 24 [.int .i64 x6.from_, .int .i64 x6.to]] [Sm w.heap.size F w [], St w []] [] 24 rfl rfl mix rfl (.cons_cons _ (.cons_cons _ (.cons_cons _ (.cons_cons _ (.cons_cons _ (.cons_cons _ (.slnil))))))) (sels [0, 1] rfl) ?_
          refine wf_v 0 rfl (v_move rfl) gn rfl hns (by kernel_rfl) (by kernel_rfl) rfl rfl ?_
          refine wf_v 1 rfl (v_move rfl) gn rfl hns (by kernel_rfl) (by kernel_rfl) rfl rfl ?_
          refine wf_v 2 rfl (v_ldB [.int .i64 x6.from_, .int .i64 x6.to] 5 ld_24 rfl rfl rfl rfl) gn rfl hns (by kernel_rfl) (by kernel_rfl) rfl rfl ?_
          refine wf_all [3] (by kernel_rfl) rfl ⟨on_s 3 rfl gn rfl (s_call [.slice A23 n24 c25, .agg #[.int .i64 x6.from_, .int .i64 x6.to]] rfl Try.func16 rfl rfl rfl fun w1135 hL1136 => ?_), trivial⟩
          have hp1137 : List.Perm ([.own (.slice A81 n82 c83) 24 2 n82 (r79.flatMap enc_api_Range), .own (.slice A68 n69 c70) 24 2 n69 (r66.flatMap enc_api_Range), .box gb61 24 [.int .i64 r56.from_, .int .i64 r56.to], .own (.slice A36 n37 c38) 39 7 n37 (r34.1.flatMap enc_api_Node), .own (.slice A23 n24 c25) 39 7 n24 (r21.flatMap enc_api_Node), .box gb7 24 [.int .i64 x6.from_, .int .i64 x6.to]] : List Ent) (([] : List Ent) ++ ([.own (.slice A81 n82 c83) 24 2 n82 (r79.flatMap enc_api_Range), .own (.slice A68 n69 c70) 24 2 n69 (r66.flatMap enc_api_Range), .box gb61 24 [.int .i64 r56.from_, .int .i64 r56.to], .own (.slice A36 n37 c38) 39 7 n37 (r34.1.flatMap enc_api_Node), .own (.slice A23 n24 c25) 39 7 n24 (r21.flatMap enc_api_Node), .box gb7 24 [.int .i64 x6.from_, .int .i64 x6.to]] : List Ent)) := perm_of_idx [] [0, 1, 2, 3, 4, 5] rfl rfl (by kernel_rfl)
          refine Calls.mono (trellisref32_Cover_calls w1135 (Fl ([] : List Snap)) r21 x6 A23 n24 c25 (hL1136.argO (dk := k_api_Node) hp1137 [] rfl 4 rfl rfl (Ow.weak hL19.env.size h26) (me 0 rfl) (Cells.flat _)) (hL1136.hFl (Sl := ([] : List Snap)) hp1137 (sels [] rfl)) (hL1136.into hp1137 (Fl ([] : List Snap))) r965 hv966) ?_
          rintro _ w1138 ⟨rfl, hM1139⟩
          have hL1140 := hL1136.call hp1137 hM1139
          refine ⟨_, _, _, rfl, hL1140, ?_⟩
          refine ⟨sels [0, 1, 2, 3, 4, 5] rfl, sels [0, 1] rfl, ?_⟩
          refine wf_v 4 rfl (v_bin rfl rfl rfl) gn rfl hns (by kernel_rfl) (by kernel_rfl) rfl rfl ?_
          refine wf_v 5 rfl (v_move rfl) gn rfl hns (by kernel_rfl) (by kernel_rfl) rfl rfl ?_
          refine wf_bool 38 rfl ((eqib hp970)) ?_
          refine wf_v 6 rfl (v_ldB [.int .i64 r56.from_, .int .i64 r56.to] 2 ld_24 rfl rfl rfl rfl) (gy 38 rfl rfl) rfl hns (by kernel_rfl) (by kernel_rfl) rfl rfl ?_
          refine wf_v 7 rfl (v_move rfl) (gy 38 rfl rfl) rfl hns (by kernel_rfl) (by kernel_rfl) rfl rfl ?_
          refine wf_v 8 rfl (v_ldB [.int .i64 x6.from_, .int .i64 x6.to] 5 ld_24 rfl rfl rfl rfl) (gy 38 rfl rfl) rfl hns (by kernel_rfl) (by kernel_rfl) rfl rfl ?_
          refine wf_all [9] (by kernel_rfl) rfl ⟨on_s 9 rfl (gy 38 rfl rfl) rfl (s_call [.slice A23 n24 c25, .agg #[.int .i64 x6.from_, .int .i64 x6.to]] rfl Try.func17 rfl rfl rfl fun w1147 hL1148 => ?_), trivial⟩
          have hp1149 : List.Perm ([.own (.slice A81 n82 c83) 24 2 n82 (r79.flatMap enc_api_Range), .own (.slice A68 n69 c70) 24 2 n69 (r66.flatMap enc_api_Range), .box gb61 24 [.int .i64 r56.from_, .int .i64 r56.to], .own (.slice A36 n37 c38) 39 7 n37 (r34.1.flatMap enc_api_Node), .own (.slice A23 n24 c25) 39 7 n24 (r21.flatMap enc_api_Node), .box gb7 24 [.int .i64 x6.from_, .int .i64 x6.to]] : List Ent) (([] : List Ent) ++ ([.own (.slice A81 n82 c83) 24 2 n82 (r79.flatMap enc_api_Range), .own (.slice A68 n69 c70) 24 2 n69 (r66.flatMap enc_api_Range), .box gb61 24 [.int .i64 r56.from_, .int .i64 r56.to], .own (.slice A36 n37 c38) 39 7 n37 (r34.1.flatMap enc_api_Node), .own (.slice A23 n24 c25) 39 7 n24 (r21.flatMap enc_api_Node), .box gb7 24 [.int .i64 x6.from_, .int .i64 x6.to]] : List Ent)) := perm_of_idx [] [0, 1, 2, 3, 4, 5] rfl rfl (by kernel_rfl)
          refine Calls.mono (trellisref32_Grow_calls w1147 (Fl ([] : List Snap)) r21 x6 A23 n24 c25 (hL1148.argO (dk := k_api_Node) hp1149 [] rfl 4 rfl rfl (Ow.weak hL19.env.size h26) (me 0 rfl) (Cells.flat _)) (hL1148.hFl (Sl := ([] : List Snap)) hp1149 (sels [] rfl)) (hL1148.into hp1149 (Fl ([] : List Snap))) r974 hv975) ?_
          rintro _ w1150 ⟨rfl, hM1151⟩
          have hL1152 := hL1148.call hp1149 hM1151
          refine ⟨_, _, _, rfl, hL1152, ?_⟩
          refine ⟨sels [0, 1, 2, 3, 4, 5] rfl, sels [0, 1] rfl, ?_⟩
          refine wf_v 10 rfl (v_neSt eq_24 rfl rfl (eqd_api_Range r56 r974)) (gy 38 rfl rfl) rfl hns (by kernel_rfl) (by kernel_rfl) rfl rfl ?_
          refine wf_v 11 rfl (v_pick (b := false) rfl rfl) gn rfl hns (by kernel_rfl) (by kernel_rfl) rfl rfl ?_
          refine wf_v 12 rfl (v_move rfl) gn rfl hns (by kernel_rfl) (by kernel_rfl) rfl rfl ?_
          refine wf_bool 45 rfl ((nf (decide_eq_true hp979))) ?_
          refine wf_v 13 rfl (v_move rfl) (gy 45 rfl rfl) rfl hns (by kernel_rfl) (by kernel_rfl) rfl rfl ?_
          refine wf_v 14 rfl (v_move rfl) (gy 45 rfl rfl) rfl hns (by kernel_rfl) (by kernel_rfl) rfl rfl ?_
          refine wf_all [15] (by kernel_rfl) rfl ⟨on_s 15 rfl (gy 45 rfl rfl) rfl (s_call [.slice A68 n69 c70, .slice A81 n82 c83] rfl Try.func18 rfl rfl rfl fun w1159 hL1160 => ?_), trivial⟩
          have hp1161 : List.Perm ([.own (.slice A81 n82 c83) 24 2 n82 (r79.flatMap enc_api_Range), .own (.slice A68 n69 c70) 24 2 n69 (r66.flatMap enc_api_Range), .box gb61 24 [.int .i64 r56.from_, .int .i64 r56.to], .own (.slice A36 n37 c38) 39 7 n37 (r34.1.flatMap enc_api_Node), .own (.slice A23 n24 c25) 39 7 n24 (r21.flatMap enc_api_Node), .box gb7 24 [.int .i64 x6.from_, .int .i64 x6.to]] : List Ent) (([] : List Ent) ++ ([.own (.slice A81 n82 c83) 24 2 n82 (r79.flatMap enc_api_Range), .own (.slice A68 n69 c70) 24 2 n69 (r66.flatMap enc_api_Range), .box gb61 24 [.int .i64 r56.from_, .int .i64 r56.to], .own (.slice A36 n37 c38) 39 7 n37 (r34.1.flatMap enc_api_Node), .own (.slice A23 n24 c25) 39 7 n24 (r21.flatMap enc_api_Node), .box gb7 24 [.int .i64 x6.from_, .int .i64 x6.to]] : List Ent)) := perm_of_idx [] [0, 1, 2, 3, 4, 5] rfl rfl (by kernel_rfl)
          refine Calls.mono (trellislaw32_sameRanges_calls w1159 (Fl ([] : List Snap)) r66 r79 A68 n69 c70 A81 n82 c83 (hL1160.argO (dk := k_api_Range) hp1161 [] rfl 1 rfl rfl (Ow.weak hL64.env.size h71) (me 0 rfl) (Cells.flat _)) (hL1160.argO (dk := k_api_Range) hp1161 [] rfl 0 rfl rfl (Ow.weak hL77.env.size h84) (me 0 rfl) (Cells.flat _)) (hL1160.hFl (Sl := ([] : List Snap)) hp1161 (sels [] rfl)) (hL1160.into hp1161 (Fl ([] : List Snap))) r983 hv984) ?_
          rintro _ w1162 ⟨rfl, hM1163⟩
          have hL1164 := hL1160.call hp1161 hM1163
          refine ⟨_, _, _, rfl, hL1164, ?_⟩
          refine ⟨sels [0, 1, 2, 3, 4, 5] rfl, sels [0, 1] rfl, ?_⟩
          refine wf_v 16 rfl (v_not rfl) (gy 45 rfl rfl) rfl hns (by kernel_rfl) (by kernel_rfl) rfl rfl ?_
          refine wf_v 17 rfl (v_pick (b := false) rfl rfl) gn rfl hns (by kernel_rfl) (by kernel_rfl) rfl rfl ?_
          refine wf_v 18 rfl (v_move rfl) gn rfl hns (by kernel_rfl) (by kernel_rfl) rfl rfl ?_
          refine wf_bool 51 rfl ((nt (bf hp988))) ?_
          refine wf_pass 19 rfl (ps 51 rfl rfl rfl) hns (by kernel_rfl) (by kernel_rfl) rfl rfl ?_
          refine wf_pass 20 rfl (ps 51 rfl rfl rfl) hns (by kernel_rfl) (by kernel_rfl) rfl rfl ?_
          refine wf_pass 21 rfl (ps 51 rfl rfl rfl) hns (by kernel_rfl) (by kernel_rfl) rfl rfl ?_
          refine wf_pass 22 rfl (ps 51 rfl rfl rfl) hns (by kernel_rfl) (by kernel_rfl) rfl rfl ?_
          refine wf_v 23 rfl (v_pick (b := true) rfl rfl) gn rfl hns (by kernel_rfl) (by kernel_rfl) rfl rfl ?_
          refine wf_end (by kernel_rfl) ?_
          exact g_go [0, 1] (j1 true h hk40) ⟨rfl, rfl, rfl, rfl, rfl, rfl, trivial⟩ (.cons_cons _ (.cons_cons _ (.cons _ (.cons_cons _ (.cons_cons _ (.cons_cons _ (.slnil))))))) rfl
      · have h := if_neg' hp979 h
        have hns : Region.noSelect (Code.ops trellislaw32_ChooseGrows_c25) = true := by kernel_rfl
        refine g_drawF (c := trellislaw32_ChooseGrows_c25) [.own (.slice A81 n82 c83) 24 2 n82 (r79.flatMap enc_api_Range), .own (.slice A68 n69 c70) 24 2 n69 (r66.flatMap enc_api_Range), .box gb61 24 [.int .i64 r56.from_, .int .i64 r56.to], .own (.slice A36 n37 c38) 39 7 n37 (r34.1.flatMap enc_api_Node), .own (.slice A23 n24 c25) 39 7 n24 (r21.flatMap enc_api_Node), .box gb7 24 [.int .i64 x6.from_, .int .i64 x6.to]] [Sm w.heap.size F w [], St w []] [] 24 rfl rfl mix rfl (.cons_cons _ (.cons_cons _ (.cons_cons _ (.cons_cons _ (.cons_cons _ (.cons_cons _ (.slnil))))))) (sels [0, 1] rfl) ?_
        refine wf_v 0 rfl (v_move rfl) gn rfl hns (by kernel_rfl) (by kernel_rfl) rfl rfl ?_
        refine wf_v 1 rfl (v_move rfl) gn rfl hns (by kernel_rfl) (by kernel_rfl) rfl rfl ?_
        refine wf_v 2 rfl (v_ldB [.int .i64 x6.from_, .int .i64 x6.to] 5 ld_24 rfl rfl rfl rfl) gn rfl hns (by kernel_rfl) (by kernel_rfl) rfl rfl ?_
        refine wf_all [3] (by kernel_rfl) rfl ⟨on_s 3 rfl gn rfl (s_call [.slice A23 n24 c25, .agg #[.int .i64 x6.from_, .int .i64 x6.to]] rfl Try.func16 rfl rfl rfl fun w1195 hL1196 => ?_), trivial⟩
        have hp1197 : List.Perm ([.own (.slice A81 n82 c83) 24 2 n82 (r79.flatMap enc_api_Range), .own (.slice A68 n69 c70) 24 2 n69 (r66.flatMap enc_api_Range), .box gb61 24 [.int .i64 r56.from_, .int .i64 r56.to], .own (.slice A36 n37 c38) 39 7 n37 (r34.1.flatMap enc_api_Node), .own (.slice A23 n24 c25) 39 7 n24 (r21.flatMap enc_api_Node), .box gb7 24 [.int .i64 x6.from_, .int .i64 x6.to]] : List Ent) (([] : List Ent) ++ ([.own (.slice A81 n82 c83) 24 2 n82 (r79.flatMap enc_api_Range), .own (.slice A68 n69 c70) 24 2 n69 (r66.flatMap enc_api_Range), .box gb61 24 [.int .i64 r56.from_, .int .i64 r56.to], .own (.slice A36 n37 c38) 39 7 n37 (r34.1.flatMap enc_api_Node), .own (.slice A23 n24 c25) 39 7 n24 (r21.flatMap enc_api_Node), .box gb7 24 [.int .i64 x6.from_, .int .i64 x6.to]] : List Ent)) := perm_of_idx [] [0, 1, 2, 3, 4, 5] rfl rfl (by kernel_rfl)
        refine Calls.mono (trellisref32_Cover_calls w1195 (Fl ([] : List Snap)) r21 x6 A23 n24 c25 (hL1196.argO (dk := k_api_Node) hp1197 [] rfl 4 rfl rfl (Ow.weak hL19.env.size h26) (me 0 rfl) (Cells.flat _)) (hL1196.hFl (Sl := ([] : List Snap)) hp1197 (sels [] rfl)) (hL1196.into hp1197 (Fl ([] : List Snap))) r965 hv966) ?_
        rintro _ w1198 ⟨rfl, hM1199⟩
        have hL1200 := hL1196.call hp1197 hM1199
        refine ⟨_, _, _, rfl, hL1200, ?_⟩
        refine ⟨sels [0, 1, 2, 3, 4, 5] rfl, sels [0, 1] rfl, ?_⟩
        refine wf_v 4 rfl (v_bin rfl rfl rfl) gn rfl hns (by kernel_rfl) (by kernel_rfl) rfl rfl ?_
        refine wf_v 5 rfl (v_move rfl) gn rfl hns (by kernel_rfl) (by kernel_rfl) rfl rfl ?_
        refine wf_bool 38 rfl ((eqib hp970)) ?_
        refine wf_v 6 rfl (v_ldB [.int .i64 r56.from_, .int .i64 r56.to] 2 ld_24 rfl rfl rfl rfl) (gy 38 rfl rfl) rfl hns (by kernel_rfl) (by kernel_rfl) rfl rfl ?_
        refine wf_v 7 rfl (v_move rfl) (gy 38 rfl rfl) rfl hns (by kernel_rfl) (by kernel_rfl) rfl rfl ?_
        refine wf_v 8 rfl (v_ldB [.int .i64 x6.from_, .int .i64 x6.to] 5 ld_24 rfl rfl rfl rfl) (gy 38 rfl rfl) rfl hns (by kernel_rfl) (by kernel_rfl) rfl rfl ?_
        refine wf_all [9] (by kernel_rfl) rfl ⟨on_s 9 rfl (gy 38 rfl rfl) rfl (s_call [.slice A23 n24 c25, .agg #[.int .i64 x6.from_, .int .i64 x6.to]] rfl Try.func17 rfl rfl rfl fun w1207 hL1208 => ?_), trivial⟩
        have hp1209 : List.Perm ([.own (.slice A81 n82 c83) 24 2 n82 (r79.flatMap enc_api_Range), .own (.slice A68 n69 c70) 24 2 n69 (r66.flatMap enc_api_Range), .box gb61 24 [.int .i64 r56.from_, .int .i64 r56.to], .own (.slice A36 n37 c38) 39 7 n37 (r34.1.flatMap enc_api_Node), .own (.slice A23 n24 c25) 39 7 n24 (r21.flatMap enc_api_Node), .box gb7 24 [.int .i64 x6.from_, .int .i64 x6.to]] : List Ent) (([] : List Ent) ++ ([.own (.slice A81 n82 c83) 24 2 n82 (r79.flatMap enc_api_Range), .own (.slice A68 n69 c70) 24 2 n69 (r66.flatMap enc_api_Range), .box gb61 24 [.int .i64 r56.from_, .int .i64 r56.to], .own (.slice A36 n37 c38) 39 7 n37 (r34.1.flatMap enc_api_Node), .own (.slice A23 n24 c25) 39 7 n24 (r21.flatMap enc_api_Node), .box gb7 24 [.int .i64 x6.from_, .int .i64 x6.to]] : List Ent)) := perm_of_idx [] [0, 1, 2, 3, 4, 5] rfl rfl (by kernel_rfl)
        refine Calls.mono (trellisref32_Grow_calls w1207 (Fl ([] : List Snap)) r21 x6 A23 n24 c25 (hL1208.argO (dk := k_api_Node) hp1209 [] rfl 4 rfl rfl (Ow.weak hL19.env.size h26) (me 0 rfl) (Cells.flat _)) (hL1208.hFl (Sl := ([] : List Snap)) hp1209 (sels [] rfl)) (hL1208.into hp1209 (Fl ([] : List Snap))) r974 hv975) ?_
        rintro _ w1210 ⟨rfl, hM1211⟩
        have hL1212 := hL1208.call hp1209 hM1211
        refine ⟨_, _, _, rfl, hL1212, ?_⟩
        refine ⟨sels [0, 1, 2, 3, 4, 5] rfl, sels [0, 1] rfl, ?_⟩
        refine wf_v 10 rfl (v_neSt eq_24 rfl rfl (eqd_api_Range r56 r974)) (gy 38 rfl rfl) rfl hns (by kernel_rfl) (by kernel_rfl) rfl rfl ?_
        refine wf_v 11 rfl (v_pick (b := false) rfl rfl) gn rfl hns (by kernel_rfl) (by kernel_rfl) rfl rfl ?_
        refine wf_v 12 rfl (v_move rfl) gn rfl hns (by kernel_rfl) (by kernel_rfl) rfl rfl ?_
        refine wf_bool 45 rfl ((nt (decide_eq_false hp979))) ?_
        refine wf_pass 13 rfl (ps 45 rfl rfl rfl) hns (by kernel_rfl) (by kernel_rfl) rfl rfl ?_
        refine wf_pass 14 rfl (ps 45 rfl rfl rfl) hns (by kernel_rfl) (by kernel_rfl) rfl rfl ?_
        refine wf_pass 15 rfl (ps 45 rfl rfl rfl) hns (by kernel_rfl) (by kernel_rfl) rfl rfl ?_
        refine wf_pass 16 rfl (ps 45 rfl rfl rfl) hns (by kernel_rfl) (by kernel_rfl) rfl rfl ?_
        refine wf_v 17 rfl (v_pick (b := true) rfl rfl) gn rfl hns (by kernel_rfl) (by kernel_rfl) rfl rfl ?_
        refine wf_v 18 rfl (v_move rfl) gn rfl hns (by kernel_rfl) (by kernel_rfl) rfl rfl ?_
        refine wf_pass 19 rfl (ps 51 rfl rfl rfl) hns (by kernel_rfl) (by kernel_rfl) rfl rfl ?_
        refine wf_pass 20 rfl (ps 51 rfl rfl rfl) hns (by kernel_rfl) (by kernel_rfl) rfl rfl ?_
        refine wf_pass 21 rfl (ps 51 rfl rfl rfl) hns (by kernel_rfl) (by kernel_rfl) rfl rfl ?_
        refine wf_pass 22 rfl (ps 51 rfl rfl rfl) hns (by kernel_rfl) (by kernel_rfl) rfl rfl ?_
        refine wf_v 23 rfl (v_pick (b := true) rfl rfl) gn rfl hns (by kernel_rfl) (by kernel_rfl) rfl rfl ?_
        refine wf_end (by kernel_rfl) ?_
        exact g_go [0, 1] (j1 true h hk40) ⟨rfl, rfl, rfl, rfl, rfl, rfl, trivial⟩ (.cons_cons _ (.cons_cons _ (.cons _ (.cons_cons _ (.cons_cons _ (.cons_cons _ (.slnil))))))) rfl
    · have h := if_neg' hp970 h
      have hns : Region.noSelect (Code.ops trellislaw32_ChooseGrows_c25) = true := by kernel_rfl
      refine g_drawF (c := trellislaw32_ChooseGrows_c25) [.own (.slice A81 n82 c83) 24 2 n82 (r79.flatMap enc_api_Range), .own (.slice A68 n69 c70) 24 2 n69 (r66.flatMap enc_api_Range), .box gb61 24 [.int .i64 r56.from_, .int .i64 r56.to], .own (.slice A36 n37 c38) 39 7 n37 (r34.1.flatMap enc_api_Node), .own (.slice A23 n24 c25) 39 7 n24 (r21.flatMap enc_api_Node), .box gb7 24 [.int .i64 x6.from_, .int .i64 x6.to]] [Sm w.heap.size F w [], St w []] [] 24 rfl rfl mix rfl (.cons_cons _ (.cons_cons _ (.cons_cons _ (.cons_cons _ (.cons_cons _ (.cons_cons _ (.slnil))))))) (sels [0, 1] rfl) ?_
      refine wf_v 0 rfl (v_move rfl) gn rfl hns (by kernel_rfl) (by kernel_rfl) rfl rfl ?_
      refine wf_v 1 rfl (v_move rfl) gn rfl hns (by kernel_rfl) (by kernel_rfl) rfl rfl ?_
      refine wf_v 2 rfl (v_ldB [.int .i64 x6.from_, .int .i64 x6.to] 5 ld_24 rfl rfl rfl rfl) gn rfl hns (by kernel_rfl) (by kernel_rfl) rfl rfl ?_
      refine wf_all [3] (by kernel_rfl) rfl ⟨on_s 3 rfl gn rfl (s_call [.slice A23 n24 c25, .agg #[.int .i64 x6.from_, .int .i64 x6.to]] rfl Try.func16 rfl rfl rfl fun w1231 hL1232 => ?_), trivial⟩
      have hp1233 : List.Perm ([.own (.slice A81 n82 c83) 24 2 n82 (r79.flatMap enc_api_Range), .own (.slice A68 n69 c70) 24 2 n69 (r66.flatMap enc_api_Range), .box gb61 24 [.int .i64 r56.from_, .int .i64 r56.to], .own (.slice A36 n37 c38) 39 7 n37 (r34.1.flatMap enc_api_Node), .own (.slice A23 n24 c25) 39 7 n24 (r21.flatMap enc_api_Node), .box gb7 24 [.int .i64 x6.from_, .int .i64 x6.to]] : List Ent) (([] : List Ent) ++ ([.own (.slice A81 n82 c83) 24 2 n82 (r79.flatMap enc_api_Range), .own (.slice A68 n69 c70) 24 2 n69 (r66.flatMap enc_api_Range), .box gb61 24 [.int .i64 r56.from_, .int .i64 r56.to], .own (.slice A36 n37 c38) 39 7 n37 (r34.1.flatMap enc_api_Node), .own (.slice A23 n24 c25) 39 7 n24 (r21.flatMap enc_api_Node), .box gb7 24 [.int .i64 x6.from_, .int .i64 x6.to]] : List Ent)) := perm_of_idx [] [0, 1, 2, 3, 4, 5] rfl rfl (by kernel_rfl)
      refine Calls.mono (trellisref32_Cover_calls w1231 (Fl ([] : List Snap)) r21 x6 A23 n24 c25 (hL1232.argO (dk := k_api_Node) hp1233 [] rfl 4 rfl rfl (Ow.weak hL19.env.size h26) (me 0 rfl) (Cells.flat _)) (hL1232.hFl (Sl := ([] : List Snap)) hp1233 (sels [] rfl)) (hL1232.into hp1233 (Fl ([] : List Snap))) r965 hv966) ?_
      rintro _ w1234 ⟨rfl, hM1235⟩
      have hL1236 := hL1232.call hp1233 hM1235
      refine ⟨_, _, _, rfl, hL1236, ?_⟩
      refine ⟨sels [0, 1, 2, 3, 4, 5] rfl, sels [0, 1] rfl, ?_⟩
      refine wf_v 4 rfl (v_bin rfl rfl rfl) gn rfl hns (by kernel_rfl) (by kernel_rfl) rfl rfl ?_
      refine wf_v 5 rfl (v_move rfl) gn rfl hns (by kernel_rfl) (by kernel_rfl) rfl rfl ?_
      refine wf_bool 38 rfl ((neib hp970)) ?_
      refine wf_pass 6 rfl (ps 38 rfl rfl rfl) hns (by kernel_rfl) (by kernel_rfl) rfl rfl ?_
      refine wf_pass 7 rfl (ps 38 rfl rfl rfl) hns (by kernel_rfl) (by kernel_rfl) rfl rfl ?_
      refine wf_pass 8 rfl (ps 38 rfl rfl rfl) hns (by kernel_rfl) (by kernel_rfl) rfl rfl ?_
      refine wf_pass 9 rfl (ps 38 rfl rfl rfl) hns (by kernel_rfl) (by kernel_rfl) rfl rfl ?_
      refine wf_pass 10 rfl (ps 38 rfl rfl rfl) hns (by kernel_rfl) (by kernel_rfl) rfl rfl ?_
      refine wf_v 11 rfl (v_pick (b := true) rfl rfl) gn rfl hns (by kernel_rfl) (by kernel_rfl) rfl rfl ?_
      refine wf_v 12 rfl (v_move rfl) gn rfl hns (by kernel_rfl) (by kernel_rfl) rfl rfl ?_
      refine wf_pass 13 rfl (ps 45 rfl rfl rfl) hns (by kernel_rfl) (by kernel_rfl) rfl rfl ?_
      refine wf_pass 14 rfl (ps 45 rfl rfl rfl) hns (by kernel_rfl) (by kernel_rfl) rfl rfl ?_
      refine wf_pass 15 rfl (ps 45 rfl rfl rfl) hns (by kernel_rfl) (by kernel_rfl) rfl rfl ?_
      refine wf_pass 16 rfl (ps 45 rfl rfl rfl) hns (by kernel_rfl) (by kernel_rfl) rfl rfl ?_
      refine wf_v 17 rfl (v_pick (b := true) rfl rfl) gn rfl hns (by kernel_rfl) (by kernel_rfl) rfl rfl ?_
      refine wf_v 18 rfl (v_move rfl) gn rfl hns (by kernel_rfl) (by kernel_rfl) rfl rfl ?_
      refine wf_pass 19 rfl (ps 51 rfl rfl rfl) hns (by kernel_rfl) (by kernel_rfl) rfl rfl ?_
      refine wf_pass 20 rfl (ps 51 rfl rfl rfl) hns (by kernel_rfl) (by kernel_rfl) rfl rfl ?_
      refine wf_pass 21 rfl (ps 51 rfl rfl rfl) hns (by kernel_rfl) (by kernel_rfl) rfl rfl ?_
      refine wf_pass 22 rfl (ps 51 rfl rfl rfl) hns (by kernel_rfl) (by kernel_rfl) rfl rfl ?_
      refine wf_v 23 rfl (v_pick (b := true) rfl rfl) gn rfl hns (by kernel_rfl) (by kernel_rfl) rfl rfl ?_
      refine wf_end (by kernel_rfl) ?_
      exact g_go [0, 1] (j1 true h hk40) ⟨rfl, rfl, rfl, rfl, rfl, rfl, trivial⟩ (.cons_cons _ (.cons_cons _ (.cons _ (.cons_cons _ (.cons_cons _ (.cons_cons _ (.slnil))))))) rfl
end Go.Proofs.Ytoifgnogoddmlaa.K
