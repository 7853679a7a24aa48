/- What the machine's calls do, function by function, printed by my own tool. Condition of each: its relation holds of the answer, and what is handed in lies in memory as told. -/
import Derived.Test.YtoifgnogoddmlaaK2
set_option linter.unusedVariables false
set_option maxRecDepth 100000
set_option maxHeartbeats 4000000
namespace Go.Proofs.Ytoifgnogoddmlaa.K
open Go.Proofs.Ytoifgnogoddmlaa.B Go.Proofs.Ytoifgnogoddmlaa.R Go.RowKit
noncomputable abbrev trellislaw32_ChooseMore_c0 : Code := bodyOf Try.f5
noncomputable abbrev trellislaw32_ChooseMore_c1 : Code := Code.fst trellislaw32_ChooseMore_c0
noncomputable abbrev trellislaw32_ChooseMore_c2 : Code := Code.snd trellislaw32_ChooseMore_c0
noncomputable abbrev trellislaw32_ChooseMore_c3 : Code := Code.fst trellislaw32_ChooseMore_c2
noncomputable abbrev trellislaw32_ChooseMore_c4 : Code := Code.snd trellislaw32_ChooseMore_c2
noncomputable abbrev trellislaw32_ChooseMore_c5 : Code := Code.fst trellislaw32_ChooseMore_c3
noncomputable abbrev trellislaw32_ChooseMore_c6 : Code := Code.snd trellislaw32_ChooseMore_c3
noncomputable abbrev trellislaw32_ChooseMore_c7 : Code := Code.fst trellislaw32_ChooseMore_c6
noncomputable abbrev trellislaw32_ChooseMore_c8 : Code := Code.snd trellislaw32_ChooseMore_c6
noncomputable abbrev trellislaw32_ChooseMore_c9 : Code := Code.fst trellislaw32_ChooseMore_c4
noncomputable abbrev trellislaw32_ChooseMore_c10 : Code := Code.snd trellislaw32_ChooseMore_c4
noncomputable abbrev trellislaw32_ChooseMore_c11 : Code := Code.fst trellislaw32_ChooseMore_c9
noncomputable abbrev trellislaw32_ChooseMore_c12 : Code := Code.snd trellislaw32_ChooseMore_c9
noncomputable abbrev trellislaw32_ChooseMore_c13 : Code := Code.fst trellislaw32_ChooseMore_c12
noncomputable abbrev trellislaw32_ChooseMore_c14 : Code := Code.snd trellislaw32_ChooseMore_c12
noncomputable abbrev trellislaw32_ChooseMore_c15 : Code := Code.fst trellislaw32_ChooseMore_c13
noncomputable abbrev trellislaw32_ChooseMore_c16 : Code := Code.snd trellislaw32_ChooseMore_c13
noncomputable abbrev trellislaw32_ChooseMore_c17 : Code := Code.fst trellislaw32_ChooseMore_c10
noncomputable abbrev trellislaw32_ChooseMore_c18 : Code := Code.snd trellislaw32_ChooseMore_c10
noncomputable abbrev trellislaw32_ChooseMore_c19 : Code := Code.fst trellislaw32_ChooseMore_c18
noncomputable abbrev trellislaw32_ChooseMore_c20 : Code := Code.snd trellislaw32_ChooseMore_c18
noncomputable abbrev trellislaw32_ChooseMore_c21 : Code := Code.fst trellislaw32_ChooseMore_c19
noncomputable abbrev trellislaw32_ChooseMore_c22 : Code := Code.snd trellislaw32_ChooseMore_c19
noncomputable abbrev trellislaw32_ChooseMore_c23 : Code := Code.fst trellislaw32_ChooseMore_c22
noncomputable abbrev trellislaw32_ChooseMore_c24 : Code := Code.snd trellislaw32_ChooseMore_c22
noncomputable abbrev trellislaw32_ChooseMore_c25 : Code := Code.fst trellislaw32_ChooseMore_c23
noncomputable abbrev trellislaw32_ChooseMore_c26 : Code := Code.snd trellislaw32_ChooseMore_c23
noncomputable abbrev trellislaw32_ChooseMore_c27 : Code := Code.fst trellislaw32_ChooseMore_c20
noncomputable abbrev trellislaw32_ChooseMore_c28 : Code := Code.snd trellislaw32_ChooseMore_c20
noncomputable abbrev trellislaw32_ChooseMore_c29 : Code := Code.fst trellislaw32_ChooseMore_c27
noncomputable abbrev trellislaw32_ChooseMore_c30 : Code := Code.snd trellislaw32_ChooseMore_c27
noncomputable abbrev trellislaw32_ChooseMore_c31 : Code := Code.fst trellislaw32_ChooseMore_c30
noncomputable abbrev trellislaw32_ChooseMore_c32 : Code := Code.fst trellislaw32_ChooseMore_c31
noncomputable abbrev trellislaw32_ChooseMore_c33 : Code := Code.fst trellislaw32_ChooseMore_c32
noncomputable abbrev trellislaw32_ChooseMore_c34 : Code := Code.snd trellislaw32_ChooseMore_c32
noncomputable abbrev trellislaw32_ChooseMore_c35 : Code := Code.fst trellislaw32_ChooseMore_c33
noncomputable abbrev trellislaw32_ChooseMore_c36 : Code := Code.snd trellislaw32_ChooseMore_c33
noncomputable abbrev trellislaw32_ChooseMore_c37 : Code := Code.fst trellislaw32_ChooseMore_c36
noncomputable abbrev trellislaw32_ChooseMore_c38 : Code := Code.snd trellislaw32_ChooseMore_c36
noncomputable abbrev trellislaw32_ChooseMore_c39 : Code := Code.fst trellislaw32_ChooseMore_c34
noncomputable abbrev trellislaw32_ChooseMore_c40 : Code := Code.snd trellislaw32_ChooseMore_c34
noncomputable abbrev trellislaw32_ChooseMore_c41 : Code := Code.fst trellislaw32_ChooseMore_c39
noncomputable abbrev trellislaw32_ChooseMore_c42 : Code := Code.fst trellislaw32_ChooseMore_c41
noncomputable abbrev trellislaw32_ChooseMore_c43 : Code := Code.snd trellislaw32_ChooseMore_c41
noncomputable abbrev trellislaw32_ChooseMore_c44 : Code := Code.fst trellislaw32_ChooseMore_c42
noncomputable abbrev trellislaw32_ChooseMore_c45 : Code := Code.snd trellislaw32_ChooseMore_c42
noncomputable abbrev trellislaw32_ChooseMore_c46 : Code := Code.fst trellislaw32_ChooseMore_c45
noncomputable abbrev trellislaw32_ChooseMore_c47 : Code := Code.snd trellislaw32_ChooseMore_c45
noncomputable abbrev trellislaw32_ChooseMore_c48 : Code := Code.fst trellislaw32_ChooseMore_c46
noncomputable abbrev trellislaw32_ChooseMore_c49 : Code := Code.snd trellislaw32_ChooseMore_c46
noncomputable abbrev trellislaw32_ChooseMore_c50 : Code := Code.fst trellislaw32_ChooseMore_c43
noncomputable abbrev trellislaw32_ChooseMore_c51 : Code := Code.snd trellislaw32_ChooseMore_c43
noncomputable abbrev trellislaw32_ChooseMore_c52 : Code := Code.fst trellislaw32_ChooseMore_c51
noncomputable abbrev trellislaw32_ChooseMore_c53 : Code := Code.snd trellislaw32_ChooseMore_c51
noncomputable abbrev trellislaw32_ChooseMore_c54 : Code := Code.fst trellislaw32_ChooseMore_c52
noncomputable abbrev trellislaw32_ChooseMore_c55 : Code := Code.snd trellislaw32_ChooseMore_c52
noncomputable abbrev trellislaw32_ChooseMore_c56 : Code := Code.fst trellislaw32_ChooseMore_c55
noncomputable abbrev trellislaw32_ChooseMore_c57 : Code := Code.fst trellislaw32_ChooseMore_c56
noncomputable abbrev trellislaw32_ChooseMore_c58 : Code := Code.fst trellislaw32_ChooseMore_c57
noncomputable abbrev trellislaw32_ChooseMore_c59 : Code := Code.snd trellislaw32_ChooseMore_c57
noncomputable abbrev trellislaw32_ChooseMore_c60 : Code := Code.fst trellislaw32_ChooseMore_c58
noncomputable abbrev trellislaw32_ChooseMore_c61 : Code := Code.snd trellislaw32_ChooseMore_c58
noncomputable abbrev trellislaw32_ChooseMore_c62 : Code := Code.fst trellislaw32_ChooseMore_c61
noncomputable abbrev trellislaw32_ChooseMore_c63 : Code := Code.snd trellislaw32_ChooseMore_c61
noncomputable abbrev trellislaw32_ChooseMore_c64 : Code := Code.fst trellislaw32_ChooseMore_c59
noncomputable abbrev trellislaw32_ChooseMore_c65 : Code := Code.snd trellislaw32_ChooseMore_c59
noncomputable abbrev trellislaw32_ChooseMore_c66 : Code := Code.fst trellislaw32_ChooseMore_c64
noncomputable abbrev trellislaw32_ChooseMore_c67 : Code := Code.fst trellislaw32_ChooseMore_c66
noncomputable abbrev trellislaw32_ChooseMore_c68 : Code := Code.snd trellislaw32_ChooseMore_c66
noncomputable abbrev trellislaw32_ChooseMore_c69 : Code := Code.fst trellislaw32_ChooseMore_c68
noncomputable abbrev trellislaw32_ChooseMore_c70 : Code := Code.snd trellislaw32_ChooseMore_c68
noncomputable abbrev trellislaw32_ChooseMore_c71 : Code := Code.fst trellislaw32_ChooseMore_c53
noncomputable abbrev trellislaw32_ChooseMore_c72 : Code := Code.snd trellislaw32_ChooseMore_c53
noncomputable abbrev trellislaw32_ChooseMore_c73 : Code := Code.fst trellislaw32_ChooseMore_c72
noncomputable abbrev trellislaw32_ChooseMore_c74 : Code := Code.snd trellislaw32_ChooseMore_c72
noncomputable abbrev trellislaw32_ChooseMore_c75 : Code := Code.fst trellislaw32_ChooseMore_c73
noncomputable abbrev trellislaw32_ChooseMore_c76 : Code := Code.snd trellislaw32_ChooseMore_c73
noncomputable abbrev trellislaw32_ChooseMore_c77 : Code := Code.fst trellislaw32_ChooseMore_c28
noncomputable abbrev trellislaw32_ChooseMore_c78 : Code := Code.snd trellislaw32_ChooseMore_c28
noncomputable abbrev trellislaw32_ChooseMore_c79 : Code := Code.fst trellislaw32_ChooseMore_c78
noncomputable abbrev trellislaw32_ChooseMore_c80 : Code := Code.snd trellislaw32_ChooseMore_c78
noncomputable abbrev trellislaw32_ChooseMore_c81 : Code := Code.fst trellislaw32_ChooseMore_c7
noncomputable abbrev trellislaw32_ChooseMore_c82 : Code := Code.snd trellislaw32_ChooseMore_c7
abbrev trellislaw32_ChooseMore_R (w : World) (F : Nat → Prop) (r : Bool) : Ending → World → Prop := fun e w' => e = .returned (.bool r) ∧ B.Loc w w' [] [St w []]
noncomputable abbrev trellislaw32_ChooseMore_C (w : World) (F : Nat → Prop) (r : Bool) : Cx := ⟨Try.prog, 5, Try.f5, 166, trellislaw32_ChooseMore_R w F  r, w⟩
theorem trellislaw32_ChooseMore_calls (w : World) (F : Nat → Prop) (x1 : List api_Node) (x6 : api_Range) (A2 : Option Addr) (n3 : Nat) (c4 : Nat) (h5 : Rw k_api_Node w (St w []).av A2 n3 c4 x1) (hF : ∀ b, F b → b < w.heap.size ∧ ∀ o ∈ ([] : List (List Nat)), b ∉ o) (hL0 : B.Loc w w [] [Sm w.heap.size F w [], St w []]) (r : Bool) (h : trellislaw32_ChooseMore x1 x6 r) : Calls Try.prog 5 #[.slice A2 n3 c4, .agg #[.int .i64 x6.from_, .int .i64 x6.to]] w (trellislaw32_ChooseMore_R w F  r) := by
  unfold trellislaw32_ChooseMore at h
  refine calls_of_Loc (vs := [.slice A2 n3 c4, .agg #[.int .i64 x6.from_, .int .i64 x6.to]]) 166 Try.func5 rfl Try.ntmps5 rfl hL0 ?_
  show G (trellislaw32_ChooseMore_C w F r) _ _ _ _
  refine g_seq (c := trellislaw32_ChooseMore_c0) rfl ?_
  refine g_region (c := trellislaw32_ChooseMore_c1) rfl rfl ?_
  refine wl_s 0 rfl (s_box [.int .i64 x6.from_, .int .i64 x6.to] rfl rfl rfl fun gb7 => ?_) gn
  refine wl_v 1 rfl (v_assign rfl) gn rfl ?_
  refine w_end 2 rfl ?_
  refine g_seq (c := trellislaw32_ChooseMore_c2) rfl ?_
  refine g_seq (c := trellislaw32_ChooseMore_c3) rfl ?_
  refine g_region (c := trellislaw32_ChooseMore_c5) rfl rfl ?_
  obtain ⟨r12, hv13, h⟩ := h
  refine wl_s 0 rfl (s_call [] rfl Try.func25 rfl rfl rfl fun w9 hL10 => ?_) gn
  have hp11 : List.Perm ([.box gb7 24 [.int .i64 x6.from_, .int .i64 x6.to]] : List Ent) (([] : List Ent) ++ ([.box gb7 24 [.int .i64 x6.from_, .int .i64 x6.to]] : List Ent)) := perm_of_idx [] [0] rfl rfl (by kernel_rfl)
  refine Calls.mono (trellislaw32_started_calls w9 (Fl ([] : List Snap)) (hL10.hFl (Sl := ([] : List Snap)) hp11 (sels [] rfl)) (hL10.into hp11 (Fl ([] : List Snap))) r12 hv13) ?_
  rintro _ w14 ⟨rfl, hM15⟩
  have hL16 := hL10.call hp11 hM15
  refine ⟨_, _, _, rfl, hL16, ?_⟩
  refine wl_v 1 rfl (v_not rfl) gn rfl ?_
  refine w_end 2 rfl ?_
  by_cases hp17 : r12 = true
  · have h := if_pos' hp17 h
    refine g_false (c := trellislaw32_ChooseMore_c6) rfl _ rfl ((nf hp17)) ?_
    refine g_skip (c := trellislaw32_ChooseMore_c8) rfl ?_
    refine g_seq (c := trellislaw32_ChooseMore_c4) rfl ?_
    refine g_seq (c := trellislaw32_ChooseMore_c9) rfl ?_
    refine g_region (c := trellislaw32_ChooseMore_c11) rfl rfl ?_
    refine wl_v 0 rfl (v_move rfl) gn rfl ?_
    obtain ⟨r21, hv22, h⟩ := h
    refine wl_s 1 rfl (s_call [.slice A2 n3 c4] rfl Try.func9 rfl rfl rfl fun w18 hL19 => ?_) gn
    have hp20 : List.Perm ([.box gb7 24 [.int .i64 x6.from_, .int .i64 x6.to]] : List Ent) (([] : List Ent) ++ ([.box gb7 24 [.int .i64 x6.from_, .int .i64 x6.to]] : List Ent)) := perm_of_idx [] [0] rfl rfl (by kernel_rfl)
    refine Calls.mono (trellisref15_Beyond_calls w18 (Fl ([] : List Snap)) x1 A2 n3 c4 (Rw.mono h5 (hL19.toSt hp20 (me 1 rfl))) (hL19.hFl (Sl := ([] : List Snap)) hp20 (sels [] rfl)) (hL19.into hp20 (Fl ([] : List Snap))) r21 hv22) ?_
    rintro _ w23 ⟨rfl, hM24⟩
    have hL25 := hL19.call hp20 hM24
    refine ⟨_, _, _, rfl, hL25, ?_⟩
    refine w_end 2 rfl ?_
    by_cases hp26 : r21 = true
    · have h := if_pos' hp26 h
      refine g_true (c := trellislaw32_ChooseMore_c12) rfl _ rfl (hp26) ?_
      refine g_seq (c := trellislaw32_ChooseMore_c13) rfl ?_
      refine g_region (c := trellislaw32_ChooseMore_c15) rfl rfl ?_
      refine wl_v 0 rfl (v_assign rfl) gn rfl ?_
      refine w_end 1 rfl ?_
      refine g_retR (c := trellislaw32_ChooseMore_c16) [.bool true] rfl Try.func5 rfl (.tmp rfl (.nil)) fun wr hLr => ?_
      have hMr : B.Loc w wr [] [St w []] := hLr.pick (rest := [.box gb7 24 [.int .i64 x6.from_, .int .i64 x6.to]]) (perm_of_idx [] [0] rfl rfl (by kernel_rfl)) (sels [1] rfl)
      have hMi : ∀ e ∈ ([] : List Ent), e ∈ ([.box gb7 24 [.int .i64 x6.from_, .int .i64 x6.to]] : List Ent) := sels [] rfl
      show trellislaw32_ChooseMore_R w F  r (.returned (packV [.bool true])) wr
      rw [h]
      exact ⟨rfl, hMr⟩
    · have h := if_neg' hp26 h
      refine g_false (c := trellislaw32_ChooseMore_c12) rfl _ rfl ((bf hp26)) ?_
      refine g_skip (c := trellislaw32_ChooseMore_c14) rfl ?_
      refine g_seq (c := trellislaw32_ChooseMore_c10) rfl ?_
      refine g_region (c := trellislaw32_ChooseMore_c17) rfl rfl ?_
      refine wl_v 0 rfl (v_move rfl) gn rfl ?_
      refine wl_v 1 rfl (v_ldB [.int .i64 x6.from_, .int .i64 x6.to] 0 ld_24 rfl rfl rfl rfl) gn rfl ?_
      obtain ⟨r30, hv31, h⟩ := h
      refine wl_s 2 rfl (s_call [.slice A2 n3 c4, .agg #[.int .i64 x6.from_, .int .i64 x6.to]] rfl Try.func14 rfl rfl rfl fun w27 hL28 => ?_) gn
      have hp29 : List.Perm ([.box gb7 24 [.int .i64 x6.from_, .int .i64 x6.to]] : List Ent) (([] : List Ent) ++ ([.box gb7 24 [.int .i64 x6.from_, .int .i64 x6.to]] : List Ent)) := perm_of_idx [] [0] rfl rfl (by kernel_rfl)
      refine Calls.mono (choose_Steps_calls w27 (Fl ([] : List Snap)) x1 x6 A2 n3 c4 (Rw.mono h5 (hL28.toSt hp29 (me 1 rfl))) (hL28.hFl (Sl := ([] : List Snap)) hp29 (sels [] rfl)) (hL28.into hp29 (Fl ([] : List Snap))) r30 hv31) ?_
      rintro _ w37 ⟨A32, n33, c34, rfl, hM38, h35⟩
      have hL39 := hL28.call hp29 hM38
      refine ⟨_, _, _, rfl, hL39, ?_⟩
      refine wl_v 3 rfl (v_assign rfl) gn rfl ?_
      refine w_end 4 rfl ?_
      refine g_seq (c := trellislaw32_ChooseMore_c18) rfl ?_
      refine g_seq (c := trellislaw32_ChooseMore_c19) rfl ?_
      have j1 : ∀ (x50 : Bool) (h : trellislaw32_ChooseMore_j1 r30 x1 x50 r) , G (trellislaw32_ChooseMore_C w F r) [.code trellislaw32_ChooseMore_c22, .code trellislaw32_ChooseMore_c20] [(0, .slice A2 n3 c4), (5, .slice A32 n33 c34), (79, .bool x50)] [.own (.slice A32 n33 c34) 24 2 n33 (r30.flatMap enc_api_Range)] [Sm w.heap.size F w [], St w []] := by
        intro x50 h
        unfold trellislaw32_ChooseMore_j1 at h
        by_cases hp51 : x50 = true
        · have h := if_pos' hp51 h
          refine g_true (c := trellislaw32_ChooseMore_c22) rfl _ rfl (hp51) ?_
          refine g_seq (c := trellislaw32_ChooseMore_c23) rfl ?_
          refine g_region (c := trellislaw32_ChooseMore_c25) rfl rfl ?_
          refine wl_v 0 rfl (v_assign rfl) gn rfl ?_
          refine w_end 1 rfl ?_
          refine g_retR (c := trellislaw32_ChooseMore_c26) [.bool false] rfl Try.func5 rfl (.tmp rfl (.nil)) fun wr hLr => ?_
          have hMr : B.Loc w wr [] [St w []] := hLr.pick (rest := [.own (.slice A32 n33 c34) 24 2 n33 (r30.flatMap enc_api_Range)]) (perm_of_idx [] [0] rfl rfl (by kernel_rfl)) (sels [1] rfl)
          have hMi : ∀ e ∈ ([] : List Ent), e ∈ ([.own (.slice A32 n33 c34) 24 2 n33 (r30.flatMap enc_api_Range)] : List Ent) := sels [] rfl
          show trellislaw32_ChooseMore_R w F  r (.returned (packV [.bool false])) wr
          rw [h]
          exact ⟨rfl, hMr⟩
        · have h := if_neg' hp51 h
          refine g_false (c := trellislaw32_ChooseMore_c22) rfl _ rfl ((bf hp51)) ?_
          refine g_skip (c := trellislaw32_ChooseMore_c24) rfl ?_
          refine g_seq (c := trellislaw32_ChooseMore_c20) rfl ?_
          refine g_seq (c := trellislaw32_ChooseMore_c27) rfl ?_
          refine g_region (c := trellislaw32_ChooseMore_c29) rfl rfl ?_
          refine wl_v 0 rfl (v_assign rfl) gn rfl ?_
          refine w_end 1 rfl ?_
          refine g_block (c := trellislaw32_ChooseMore_c30) rfl ?_
          refine g_loop (c := trellislaw32_ChooseMore_c31) rfl ?_
          have key2 : ∀ s, Rounds (fun (s : Int) o => trellislaw32_ChooseMore_b2 r30 x1 s o) s r → (fun (s : Int) => ∀ (_ : Unit), G (trellislaw32_ChooseMore_C w F r) [.code trellislaw32_ChooseMore_c32, .inLoop trellislaw32_ChooseMore_c32, .inBlock 0, .code trellislaw32_ChooseMore_c28] [(0, .slice A2 n3 c4), (5, .slice A32 n33 c34), (6, .int .i64 s)] [.own (.slice A32 n33 c34) 24 2 n33 (r30.flatMap enc_api_Range)] [Sm w.heap.size F w [], St w []]) s := by
            intro s hs
            refine Rounds.ind (mot := (fun (s : Int) => ∀ (_ : Unit), G (trellislaw32_ChooseMore_C w F r) [.code trellislaw32_ChooseMore_c32, .inLoop trellislaw32_ChooseMore_c32, .inBlock 0, .code trellislaw32_ChooseMore_c28] [(0, .slice A2 n3 c4), (5, .slice A32 n33 c34), (6, .int .i64 s)] [.own (.slice A32 n33 c34) 24 2 n33 (r30.flatMap enc_api_Range)] [Sm w.heap.size F w [], St w []])) ?_ hs
            clear hs s
            intro x476 o1 h hO1
            show ∀ (_ : Unit), G (trellislaw32_ChooseMore_C w F r) [.code trellislaw32_ChooseMore_c32, .inLoop trellislaw32_ChooseMore_c32, .inBlock 0, .code trellislaw32_ChooseMore_c28] [(0, .slice A2 n3 c4), (5, .slice A32 n33 c34), (6, .int .i64 x476)] [.own (.slice A32 n33 c34) 24 2 n33 (r30.flatMap enc_api_Range)] [Sm w.heap.size F w [], St w []]
            intro _
            have h : trellislaw32_ChooseMore_b2 r30 x1 x476 o1 := h
            unfold trellislaw32_ChooseMore_b2 at h
            refine g_seq (c := trellislaw32_ChooseMore_c32) rfl ?_
            refine g_seq (c := trellislaw32_ChooseMore_c33) rfl ?_
            refine g_region (c := trellislaw32_ChooseMore_c35) rfl rfl ?_
            refine wl_v 0 rfl (v_move rfl) gn rfl ?_
            refine wl_v 1 rfl (v_move rfl) gn rfl ?_
            refine wl_v 2 rfl (v_lenQ un_29 rfl (Ow.weak hL28.env.size h35).hq) gn rfl ?_
            refine wl_v 3 rfl (v_bin rfl rfl rfl) gn rfl ?_
            refine w_end 4 rfl ?_
            by_cases hp900 : x476 < (r30.length : Int)
            · have h := if_pos' hp900 h
              refine g_true (c := trellislaw32_ChooseMore_c36) rfl _ rfl ((decide_eq_true hp900)) ?_
              refine g_skip (c := trellislaw32_ChooseMore_c37) rfl ?_
              refine g_seq (c := trellislaw32_ChooseMore_c34) rfl ?_
              refine g_block (c := trellislaw32_ChooseMore_c39) rfl ?_
              refine g_seq (c := trellislaw32_ChooseMore_c41) rfl ?_
              refine g_seq (c := trellislaw32_ChooseMore_c42) rfl ?_
              have j3 : ∀ (x1066 : Bool) (h : trellislaw32_ChooseMore_j3 x1 x476 r30 x1066 o1) , G (trellislaw32_ChooseMore_C w F r) [.code trellislaw32_ChooseMore_c45, .code trellislaw32_ChooseMore_c43, .inBlock 1, .code trellislaw32_ChooseMore_c40, .inLoop trellislaw32_ChooseMore_c32, .inBlock 0, .code trellislaw32_ChooseMore_c28] [(0, .slice A2 n3 c4), (5, .slice A32 n33 c34), (6, .int .i64 x476), (122, .bool x1066)] [.own (.slice A32 n33 c34) 24 2 n33 (r30.flatMap enc_api_Range)] [Sm w.heap.size F w [], St w []] := by
                intro x1066 h
                unfold trellislaw32_ChooseMore_j3 at h
                by_cases hp1067 : x1066 = true
                · have h := if_pos' hp1067 h
                  refine g_true (c := trellislaw32_ChooseMore_c45) rfl _ rfl (hp1067) ?_
                  refine g_seq (c := trellislaw32_ChooseMore_c46) rfl ?_
                  refine g_region (c := trellislaw32_ChooseMore_c48) rfl rfl ?_
                  refine wl_v 0 rfl (v_assign rfl) gn rfl ?_
                  refine w_end 1 rfl ?_
                  have h := Out.inr hO1 h
                  refine g_retR (c := trellislaw32_ChooseMore_c49) [.bool false] rfl Try.func5 rfl (.tmp rfl (.nil)) fun wr hLr => ?_
                  have hMr : B.Loc w wr [] [St w []] := hLr.pick (rest := [.own (.slice A32 n33 c34) 24 2 n33 (r30.flatMap enc_api_Range)]) (perm_of_idx [] [0] rfl rfl (by kernel_rfl)) (sels [1] rfl)
                  have hMi : ∀ e ∈ ([] : List Ent), e ∈ ([.own (.slice A32 n33 c34) 24 2 n33 (r30.flatMap enc_api_Range)] : List Ent) := sels [] rfl
                  show trellislaw32_ChooseMore_R w F  r (.returned (packV [.bool false])) wr
                  rw [h]
                  exact ⟨rfl, hMr⟩
                · have h := if_neg' hp1067 h
                  refine g_false (c := trellislaw32_ChooseMore_c45) rfl _ rfl ((bf hp1067)) ?_
                  refine g_skip (c := trellislaw32_ChooseMore_c47) rfl ?_
                  refine g_seq (c := trellislaw32_ChooseMore_c43) rfl ?_
                  refine g_region (c := trellislaw32_ChooseMore_c50) rfl rfl ?_
                  refine wl_v 0 rfl (v_assign rfl) gn rfl ?_
                  refine w_end 1 rfl ?_
                  refine g_seq (c := trellislaw32_ChooseMore_c51) rfl ?_
                  refine g_seq (c := trellislaw32_ChooseMore_c52) rfl ?_
                  refine g_region (c := trellislaw32_ChooseMore_c54) rfl rfl ?_
                  refine wl_v 0 rfl (v_assign rfl) gn rfl ?_
                  refine w_end 1 rfl ?_
                  refine g_block (c := trellislaw32_ChooseMore_c55) rfl ?_
                  refine g_loop (c := trellislaw32_ChooseMore_c56) rfl ?_
                  have key4 : ∀ s, Rounds (fun (s : Bool × Int) o => trellislaw32_ChooseMore_b4 x1 x476 r30 s.1 s.2 o) s o1 → (fun (s : Bool × Int) => ∀ (_ : Unit), G (trellislaw32_ChooseMore_C w F r) [.code trellislaw32_ChooseMore_c57, .inLoop trellislaw32_ChooseMore_c57, .inBlock 2, .code trellislaw32_ChooseMore_c53, .inBlock 1, .code trellislaw32_ChooseMore_c40, .inLoop trellislaw32_ChooseMore_c32, .inBlock 0, .code trellislaw32_ChooseMore_c28] [(0, .slice A2 n3 c4), (5, .slice A32 n33 c34), (6, .int .i64 x476), (7, .bool s.1), (8, .int .i64 s.2)] [.own (.slice A32 n33 c34) 24 2 n33 (r30.flatMap enc_api_Range)] [Sm w.heap.size F w [], St w []]) s := by
                    intro s hs
                    refine Rounds.ind (mot := (fun (s : Bool × Int) => ∀ (_ : Unit), G (trellislaw32_ChooseMore_C w F r) [.code trellislaw32_ChooseMore_c57, .inLoop trellislaw32_ChooseMore_c57, .inBlock 2, .code trellislaw32_ChooseMore_c53, .inBlock 1, .code trellislaw32_ChooseMore_c40, .inLoop trellislaw32_ChooseMore_c32, .inBlock 0, .code trellislaw32_ChooseMore_c28] [(0, .slice A2 n3 c4), (5, .slice A32 n33 c34), (6, .int .i64 x476), (7, .bool s.1), (8, .int .i64 s.2)] [.own (.slice A32 n33 c34) 24 2 n33 (r30.flatMap enc_api_Range)] [Sm w.heap.size F w [], St w []])) ?_ hs
                    clear hs s
                    intro s o2 h hO2
                    obtain ⟨x1082, x1083⟩ := s
                    show ∀ (_ : Unit), G (trellislaw32_ChooseMore_C w F r) [.code trellislaw32_ChooseMore_c57, .inLoop trellislaw32_ChooseMore_c57, .inBlock 2, .code trellislaw32_ChooseMore_c53, .inBlock 1, .code trellislaw32_ChooseMore_c40, .inLoop trellislaw32_ChooseMore_c32, .inBlock 0, .code trellislaw32_ChooseMore_c28] [(0, .slice A2 n3 c4), (5, .slice A32 n33 c34), (6, .int .i64 x476), (7, .bool x1082), (8, .int .i64 x1083)] [.own (.slice A32 n33 c34) 24 2 n33 (r30.flatMap enc_api_Range)] [Sm w.heap.size F w [], St w []]
                    intro _
                    have h : trellislaw32_ChooseMore_b4 x1 x476 r30 x1082 x1083 o2 := h
                    unfold trellislaw32_ChooseMore_b4 at h
                    refine g_seq (c := trellislaw32_ChooseMore_c57) rfl ?_
                    refine g_seq (c := trellislaw32_ChooseMore_c58) rfl ?_
                    refine g_region (c := trellislaw32_ChooseMore_c60) rfl rfl ?_
                    refine wl_v 0 rfl (v_move rfl) gn rfl ?_
                    refine wl_v 1 rfl (v_move rfl) gn rfl ?_
                    refine wl_v 2 rfl (v_lenQ un_22 rfl h5.hq) gn rfl ?_
                    refine wl_v 3 rfl (v_bin rfl rfl rfl) gn rfl ?_
                    refine w_end 4 rfl ?_
                    by_cases hp1098 : x1083 < (x1.length : Int)
                    · have h := if_pos' hp1098 h
                      refine g_true (c := trellislaw32_ChooseMore_c61) rfl _ rfl ((decide_eq_true hp1098)) ?_
                      refine g_skip (c := trellislaw32_ChooseMore_c62) rfl ?_
                      refine g_seq (c := trellislaw32_ChooseMore_c59) rfl ?_
                      refine g_block (c := trellislaw32_ChooseMore_c64) rfl ?_
                      refine g_seq (c := trellislaw32_ChooseMore_c66) rfl ?_
                      obtain ⟨hb1099, h⟩ := h
                      obtain ⟨hb1101, h⟩ := h
                      by_cases hp1102 : (ix x1 x1083).from_ = (ix r30 x476).from_
                      · have h := if_pos' hp1102 h
                        have hns : Region.noSelect (Code.ops trellislaw32_ChooseMore_c67) = true := by kernel_rfl
                        refine g_drawF (c := trellislaw32_ChooseMore_c67) [.own (.slice A32 n33 c34) 24 2 n33 (r30.flatMap enc_api_Range)] [Sm w.heap.size F w [], St w []] [] 24 rfl rfl mix rfl (.cons_cons _ (.slnil)) (sels [0, 1] rfl) ?_
                        refine wf_v 0 rfl (v_move rfl) gn rfl hns (by kernel_rfl) (by kernel_rfl) rfl rfl ?_
                        refine wf_v 1 rfl (v_move rfl) gn rfl hns (by kernel_rfl) (by kernel_rfl) rfl rfl ?_
                        have hr1106 := Rw.readF (s := St w []) (hl := hl_api_Node) (h1 := h1_api_Node) h5 hb1099
                        refine wf_v 2 rfl (v_idxR (s := St w []) slE_22 rfl rfl h5 hb1099) gn rfl hns (by kernel_rfl) (by kernel_rfl) rfl rfl ?_
                        refine wf_v 3 rfl (v_fldA fo_39_3 rfl) gn rfl hns (by kernel_rfl) (by kernel_rfl) rfl rfl ?_
                        refine wf_v 4 rfl (v_ldA1 (kk := (x1083 : Int).toNat * 7) (j := 3) (St w []) ld_3 rfl hr1106 rfl (me 1 rfl)) gn rfl hns (by kernel_rfl) (by kernel_rfl) rfl rfl ?_
                        refine wf_v 5 rfl (v_move rfl) gn rfl hns (by kernel_rfl) (by kernel_rfl) rfl rfl ?_
                        refine wf_v 6 rfl (v_move rfl) gn rfl hns (by kernel_rfl) (by kernel_rfl) rfl rfl ?_
                        refine wf_v 7 rfl (v_idxO slE_29 rfl rfl (Ow.weak hL28.env.size h35) hb1101) gn rfl hns (by kernel_rfl) (by kernel_rfl) rfl rfl ?_
                        refine wf_v 8 rfl (v_fldA fo_24_0 rfl) gn rfl hns (by kernel_rfl) (by kernel_rfl) rfl rfl ?_
                        refine wf_v 9 rfl (v_ldO1 (.int .i64 ((ix r30 x476).from_)) 0 ld_3 rfl rfl (fm_get hl_api_Range hb1101 rfl)) gn rfl hns (by kernel_rfl) (by kernel_rfl) rfl rfl ?_
                        refine wf_v 10 rfl (v_bin rfl rfl rfl) gn rfl hns (by kernel_rfl) (by kernel_rfl) rfl rfl ?_
                        refine wf_v 11 rfl (v_move rfl) gn rfl hns (by kernel_rfl) (by kernel_rfl) rfl rfl ?_
                        refine wf_bool 140 rfl ((eqi hp1102)) ?_
                        refine wf_v 12 rfl (v_move rfl) (gy 140 rfl rfl) rfl hns (by kernel_rfl) (by kernel_rfl) rfl rfl ?_
                        refine wf_v 13 rfl (v_move rfl) (gy 140 rfl rfl) rfl hns (by kernel_rfl) (by kernel_rfl) rfl rfl ?_
                        have hr1107 := Rw.readF (s := St w []) (hl := hl_api_Node) (h1 := h1_api_Node) h5 hb1099
                        refine wf_v 14 rfl (v_idxR (s := St w []) slE_22 rfl rfl h5 hb1099) (gy 140 rfl rfl) rfl hns (by kernel_rfl) (by kernel_rfl) rfl rfl ?_
                        refine wf_v 15 rfl (v_fldA fo_39_4 rfl) (gy 140 rfl rfl) rfl hns (by kernel_rfl) (by kernel_rfl) rfl rfl ?_
                        refine wf_v 16 rfl (v_ldA1 (kk := (x1083 : Int).toNat * 7) (j := 4) (St w []) ld_3 rfl hr1107 rfl (me 1 rfl)) (gy 140 rfl rfl) rfl hns (by kernel_rfl) (by kernel_rfl) rfl rfl ?_
                        refine wf_v 17 rfl (v_move rfl) (gy 140 rfl rfl) rfl hns (by kernel_rfl) (by kernel_rfl) rfl rfl ?_
                        refine wf_v 18 rfl (v_move rfl) (gy 140 rfl rfl) rfl hns (by kernel_rfl) (by kernel_rfl) rfl rfl ?_
                        refine wf_v 19 rfl (v_idxO slE_29 rfl rfl (Ow.weak hL28.env.size h35) hb1101) (gy 140 rfl rfl) rfl hns (by kernel_rfl) (by kernel_rfl) rfl rfl ?_
                        refine wf_v 20 rfl (v_fldA fo_24_1 rfl) (gy 140 rfl rfl) rfl hns (by kernel_rfl) (by kernel_rfl) rfl rfl ?_
                        refine wf_v 21 rfl (v_ldO1 (.int .i64 ((ix r30 x476).to)) 0 ld_3 rfl rfl (fm_get hl_api_Range hb1101 rfl)) (gy 140 rfl rfl) rfl hns (by kernel_rfl) (by kernel_rfl) rfl rfl ?_
                        refine wf_v 22 rfl (v_bin rfl rfl rfl) (gy 140 rfl rfl) rfl hns (by kernel_rfl) (by kernel_rfl) rfl rfl ?_
                        refine wf_v 23 rfl (v_pick (b := true) rfl rfl) gn rfl hns (by kernel_rfl) (by kernel_rfl) rfl rfl ?_
                        refine wf_end (by kernel_rfl) ?_
                        by_cases hp1108 : (ix x1 x1083).to = (ix r30 x476).to
                        · have h := if_pos' hp1108 h
                          refine g_true (c := trellislaw32_ChooseMore_c68) rfl _ rfl ((eqi hp1108)) ?_
                          refine g_region (c := trellislaw32_ChooseMore_c69) rfl rfl ?_
                          refine wl_v 0 rfl (v_assign rfl) gn rfl ?_
                          refine w_end 1 rfl ?_
                          refine g_inBlock ?_
                          refine g_region (c := trellislaw32_ChooseMore_c65) rfl rfl ?_
                          refine wl_v 0 rfl (v_move rfl) gn rfl ?_
                          refine wl_v 1 rfl (v_bin rfl rfl rfl) gn rfl ?_
                          refine wl_v 2 rfl (v_assign rfl) gn rfl ?_
                          refine w_end 3 rfl ?_
                          refine g_inLoop ?_
                          have ih := Out.inl hO2 h
                          exact g_go [0, 1] (ih ()) ⟨rfl, rfl, rfl, rfl, rfl, trivial⟩ (.cons_cons _ (.slnil)) rfl
                        · have h := if_neg' hp1108 h
                          refine g_false (c := trellislaw32_ChooseMore_c68) rfl _ rfl ((nei hp1108)) ?_
                          refine g_skip (c := trellislaw32_ChooseMore_c70) rfl ?_
                          refine g_inBlock ?_
                          refine g_region (c := trellislaw32_ChooseMore_c65) rfl rfl ?_
                          refine wl_v 0 rfl (v_move rfl) gn rfl ?_
                          refine wl_v 1 rfl (v_bin rfl rfl rfl) gn rfl ?_
                          refine wl_v 2 rfl (v_assign rfl) gn rfl ?_
                          refine w_end 3 rfl ?_
                          refine g_inLoop ?_
                          have ih := Out.inl hO2 h
                          exact g_go [0, 1] (ih ()) ⟨rfl, rfl, rfl, rfl, rfl, trivial⟩ (.cons_cons _ (.slnil)) rfl
                      · have h := if_neg' hp1102 h
                        have hns : Region.noSelect (Code.ops trellislaw32_ChooseMore_c67) = true := by kernel_rfl
                        refine g_drawF (c := trellislaw32_ChooseMore_c67) [.own (.slice A32 n33 c34) 24 2 n33 (r30.flatMap enc_api_Range)] [Sm w.heap.size F w [], St w []] [] 24 rfl rfl mix rfl (.cons_cons _ (.slnil)) (sels [0, 1] rfl) ?_
                        refine wf_v 0 rfl (v_move rfl) gn rfl hns (by kernel_rfl) (by kernel_rfl) rfl rfl ?_
                        refine wf_v 1 rfl (v_move rfl) gn rfl hns (by kernel_rfl) (by kernel_rfl) rfl rfl ?_
                        have hr1110 := Rw.readF (s := St w []) (hl := hl_api_Node) (h1 := h1_api_Node) h5 hb1099
                        refine wf_v 2 rfl (v_idxR (s := St w []) slE_22 rfl rfl h5 hb1099) gn rfl hns (by kernel_rfl) (by kernel_rfl) rfl rfl ?_
                        refine wf_v 3 rfl (v_fldA fo_39_3 rfl) gn rfl hns (by kernel_rfl) (by kernel_rfl) rfl rfl ?_
                        refine wf_v 4 rfl (v_ldA1 (kk := (x1083 : Int).toNat * 7) (j := 3) (St w []) ld_3 rfl hr1110 rfl (me 1 rfl)) gn rfl hns (by kernel_rfl) (by kernel_rfl) rfl rfl ?_
                        refine wf_v 5 rfl (v_move rfl) gn rfl hns (by kernel_rfl) (by kernel_rfl) rfl rfl ?_
                        refine wf_v 6 rfl (v_move rfl) gn rfl hns (by kernel_rfl) (by kernel_rfl) rfl rfl ?_
                        refine wf_v 7 rfl (v_idxO slE_29 rfl rfl (Ow.weak hL28.env.size h35) hb1101) gn rfl hns (by kernel_rfl) (by kernel_rfl) rfl rfl ?_
                        refine wf_v 8 rfl (v_fldA fo_24_0 rfl) gn rfl hns (by kernel_rfl) (by kernel_rfl) rfl rfl ?_
                        refine wf_v 9 rfl (v_ldO1 (.int .i64 ((ix r30 x476).from_)) 0 ld_3 rfl rfl (fm_get hl_api_Range hb1101 rfl)) gn rfl hns (by kernel_rfl) (by kernel_rfl) rfl rfl ?_
                        refine wf_v 10 rfl (v_bin rfl rfl rfl) gn rfl hns (by kernel_rfl) (by kernel_rfl) rfl rfl ?_
                        refine wf_v 11 rfl (v_move rfl) gn rfl hns (by kernel_rfl) (by kernel_rfl) rfl rfl ?_
                        refine wf_bool 140 rfl ((nei hp1102)) ?_
                        refine wf_pass 12 rfl (ps 140 rfl rfl rfl) hns (by kernel_rfl) (by kernel_rfl) rfl rfl ?_
                        refine wf_pass 13 rfl (ps 140 rfl rfl rfl) hns (by kernel_rfl) (by kernel_rfl) rfl rfl ?_
                        refine wf_pass 14 rfl (ps 140 rfl rfl rfl) hns (by kernel_rfl) (by kernel_rfl) rfl rfl ?_
                        refine wf_pass 15 rfl (ps 140 rfl rfl rfl) hns (by kernel_rfl) (by kernel_rfl) rfl rfl ?_
                        refine wf_pass 16 rfl (ps 140 rfl rfl rfl) hns (by kernel_rfl) (by kernel_rfl) rfl rfl ?_
                        refine wf_pass 17 rfl (ps 140 rfl rfl rfl) hns (by kernel_rfl) (by kernel_rfl) rfl rfl ?_
                        refine wf_pass 18 rfl (ps 140 rfl rfl rfl) hns (by kernel_rfl) (by kernel_rfl) rfl rfl ?_
                        refine wf_pass 19 rfl (ps 140 rfl rfl rfl) hns (by kernel_rfl) (by kernel_rfl) rfl rfl ?_
                        refine wf_pass 20 rfl (ps 140 rfl rfl rfl) hns (by kernel_rfl) (by kernel_rfl) rfl rfl ?_
                        refine wf_pass 21 rfl (ps 140 rfl rfl rfl) hns (by kernel_rfl) (by kernel_rfl) rfl rfl ?_
                        refine wf_pass 22 rfl (ps 140 rfl rfl rfl) hns (by kernel_rfl) (by kernel_rfl) rfl rfl ?_
                        refine wf_v 23 rfl (v_pick (b := false) rfl rfl) gn rfl hns (by kernel_rfl) (by kernel_rfl) rfl rfl ?_
                        refine wf_end (by kernel_rfl) ?_
                        refine g_false (c := trellislaw32_ChooseMore_c68) rfl _ rfl (rfl) ?_
                        refine g_skip (c := trellislaw32_ChooseMore_c70) rfl ?_
                        refine g_inBlock ?_
                        refine g_region (c := trellislaw32_ChooseMore_c65) rfl rfl ?_
                        refine wl_v 0 rfl (v_move rfl) gn rfl ?_
                        refine wl_v 1 rfl (v_bin rfl rfl rfl) gn rfl ?_
                        refine wl_v 2 rfl (v_assign rfl) gn rfl ?_
                        refine w_end 3 rfl ?_
                        refine g_inLoop ?_
                        have ih := Out.inl hO2 h
                        exact g_go [0, 1] (ih ()) ⟨rfl, rfl, rfl, rfl, rfl, trivial⟩ (.cons_cons _ (.slnil)) rfl
                    · have h := if_neg' hp1098 h
                      refine g_false (c := trellislaw32_ChooseMore_c61) rfl _ rfl ((decide_eq_false hp1098)) ?_
                      refine g_exit (c := trellislaw32_ChooseMore_c63) [.code trellislaw32_ChooseMore_c53, .inBlock 1, .code trellislaw32_ChooseMore_c40, .inLoop trellislaw32_ChooseMore_c32, .inBlock 0, .code trellislaw32_ChooseMore_c28] rfl rfl ?_
                      refine g_seq (c := trellislaw32_ChooseMore_c53) rfl ?_
                      refine g_region (c := trellislaw32_ChooseMore_c71) rfl rfl ?_
                      refine wl_v 0 rfl (v_move rfl) gn rfl ?_
                      refine wl_v 1 rfl (v_not rfl) gn rfl ?_
                      refine w_end 2 rfl ?_
                      by_cases hp1111 : x1082 = true
                      · have h := if_pos' hp1111 h
                        refine g_false (c := trellislaw32_ChooseMore_c72) rfl _ rfl ((nf hp1111)) ?_
                        refine g_skip (c := trellislaw32_ChooseMore_c74) rfl ?_
                        refine g_inBlock ?_
                        refine g_region (c := trellislaw32_ChooseMore_c40) rfl rfl ?_
                        refine wl_v 0 rfl (v_move rfl) gn rfl ?_
                        refine wl_v 1 rfl (v_bin rfl rfl rfl) gn rfl ?_
                        refine wl_v 2 rfl (v_assign rfl) gn rfl ?_
                        refine w_end 3 rfl ?_
                        refine g_inLoop ?_
                        have h := Out.inr hO2 h
                        have ih := Out.inl hO1 h
                        exact g_go [0, 1] (ih ()) ⟨rfl, rfl, rfl, trivial⟩ (.cons_cons _ (.slnil)) rfl
                      · have h := if_neg' hp1111 h
                        refine g_true (c := trellislaw32_ChooseMore_c72) rfl _ rfl ((nt (bf hp1111))) ?_
                        refine g_seq (c := trellislaw32_ChooseMore_c73) rfl ?_
                        refine g_region (c := trellislaw32_ChooseMore_c75) rfl rfl ?_
                        refine wl_v 0 rfl (v_assign rfl) gn rfl ?_
                        refine w_end 1 rfl ?_
                        have h := Out.inr hO2 h
                        have h := Out.inr hO1 h
                        refine g_retR (c := trellislaw32_ChooseMore_c76) [.bool false] rfl Try.func5 rfl (.tmp rfl (.nil)) fun wr hLr => ?_
                        have hMr : B.Loc w wr [] [St w []] := hLr.pick (rest := [.own (.slice A32 n33 c34) 24 2 n33 (r30.flatMap enc_api_Range)]) (perm_of_idx [] [0] rfl rfl (by kernel_rfl)) (sels [1] rfl)
                        have hMi : ∀ e ∈ ([] : List Ent), e ∈ ([.own (.slice A32 n33 c34) 24 2 n33 (r30.flatMap enc_api_Range)] : List Ent) := sels [] rfl
                        show trellislaw32_ChooseMore_R w F  r (.returned (packV [.bool false])) wr
                        rw [h]
                        exact ⟨rfl, hMr⟩
                  exact g_go [0, 1] (key4 _ h ()) ⟨rfl, rfl, rfl, rfl, rfl, trivial⟩ (.cons_cons _ (.slnil)) rfl
              obtain ⟨hb1112, h⟩ := h
              obtain ⟨hb1113, h⟩ := h
              obtain ⟨r1117, hv1118, h⟩ := h
              by_cases hp1122 : r1117 = true
              · have h := if_pos' hp1122 h
                by_cases hp1123 : ix r30 x476 = ix r30 (w64 (x476 - 1))
                · have h := if_pos' hp1123 h
                  have hns : Region.noSelect (Code.ops trellislaw32_ChooseMore_c44) = true := by kernel_rfl
                  refine g_drawF (c := trellislaw32_ChooseMore_c44) [.own (.slice A32 n33 c34) 24 2 n33 (r30.flatMap enc_api_Range)] [Sm w.heap.size F w [], St w []] [] 37 rfl rfl mix rfl (.cons_cons _ (.slnil)) (sels [0, 1] rfl) ?_
                  refine wf_v 0 rfl (v_move rfl) gn rfl hns (by kernel_rfl) (by kernel_rfl) rfl rfl ?_
                  refine wf_v 1 rfl (v_move rfl) gn rfl hns (by kernel_rfl) (by kernel_rfl) rfl rfl ?_
                  refine wf_v 2 rfl (v_bin rfl rfl rfl) gn rfl hns (by kernel_rfl) (by kernel_rfl) rfl rfl ?_
                  refine wf_v 3 rfl (v_idxO slE_29 rfl rfl (Ow.weak hL28.env.size h35) hb1112) gn rfl hns (by kernel_rfl) (by kernel_rfl) rfl rfl ?_
                  refine wf_v 4 rfl (v_ldO [.int .i64 ((ix r30 (w64 (x476 - 1))).from_), .int .i64 ((ix r30 (w64 (x476 - 1))).to)] 0 ld_24 rfl rfl (fm_one hl_api_Range hb1112) rfl) gn rfl hns (by kernel_rfl) (by kernel_rfl) rfl rfl ?_
                  refine wf_v 5 rfl (v_move rfl) gn rfl hns (by kernel_rfl) (by kernel_rfl) rfl rfl ?_
                  refine wf_v 6 rfl (v_move rfl) gn rfl hns (by kernel_rfl) (by kernel_rfl) rfl rfl ?_
                  refine wf_v 7 rfl (v_idxO slE_29 rfl rfl (Ow.weak hL28.env.size h35) hb1113) gn rfl hns (by kernel_rfl) (by kernel_rfl) rfl rfl ?_
                  refine wf_v 8 rfl (v_ldO [.int .i64 ((ix r30 x476).from_), .int .i64 ((ix r30 x476).to)] 0 ld_24 rfl rfl (fm_one hl_api_Range hb1113) rfl) gn rfl hns (by kernel_rfl) (by kernel_rfl) rfl rfl ?_
                  refine wf_all [9] (by kernel_rfl) rfl ⟨on_s 9 rfl gn rfl (s_call [.agg #[.int .i64 ((ix r30 (w64 (x476 - 1))).from_), .int .i64 ((ix r30 (w64 (x476 - 1))).to)], .agg #[.int .i64 ((ix r30 x476).from_), .int .i64 ((ix r30 x476).to)]] rfl Try.func26 rfl rfl rfl fun w1142 hL1143 => ?_), trivial⟩
                  have hp1144 : List.Perm ([.own (.slice A32 n33 c34) 24 2 n33 (r30.flatMap enc_api_Range)] : List Ent) (([] : List Ent) ++ ([.own (.slice A32 n33 c34) 24 2 n33 (r30.flatMap enc_api_Range)] : List Ent)) := perm_of_idx [] [0] rfl rfl (by kernel_rfl)
                  refine Calls.mono (trellislaw32_within_calls w1142 (Fl ([] : List Snap)) (ix r30 (w64 (x476 - 1))) (ix r30 x476) (hL1143.hFl (Sl := ([] : List Snap)) hp1144 (sels [] rfl)) (hL1143.into hp1144 (Fl ([] : List Snap))) r1117 hv1118) ?_
                  rintro _ w1145 ⟨rfl, hM1146⟩
                  have hL1147 := hL1143.call hp1144 hM1146
                  refine ⟨_, _, _, rfl, hL1147, ?_⟩
                  refine ⟨sels [0] rfl, sels [0, 1] rfl, ?_⟩
                  refine wf_v 10 rfl (v_not rfl) gn rfl hns (by kernel_rfl) (by kernel_rfl) rfl rfl ?_
                  refine wf_v 11 rfl (v_move rfl) gn rfl hns (by kernel_rfl) (by kernel_rfl) rfl rfl ?_
                  refine wf_bool 97 rfl ((nf hp1122)) ?_
                  refine wf_v 12 rfl (v_move rfl) (gy 97 rfl rfl) rfl hns (by kernel_rfl) (by kernel_rfl) rfl rfl ?_
                  refine wf_v 13 rfl (v_move rfl) (gy 97 rfl rfl) rfl hns (by kernel_rfl) (by kernel_rfl) rfl rfl ?_
                  refine wf_v 14 rfl (v_idxO slE_29 rfl rfl (Ow.weak hL28.env.size h35) hb1113) (gy 97 rfl rfl) rfl hns (by kernel_rfl) (by kernel_rfl) rfl rfl ?_
                  refine wf_v 15 rfl (v_ldO [.int .i64 ((ix r30 x476).from_), .int .i64 ((ix r30 x476).to)] 0 ld_24 rfl rfl (fm_one hl_api_Range hb1113) rfl) (gy 97 rfl rfl) rfl hns (by kernel_rfl) (by kernel_rfl) rfl rfl ?_
                  refine wf_v 16 rfl (v_move rfl) (gy 97 rfl rfl) rfl hns (by kernel_rfl) (by kernel_rfl) rfl rfl ?_
                  refine wf_v 17 rfl (v_move rfl) (gy 97 rfl rfl) rfl hns (by kernel_rfl) (by kernel_rfl) rfl rfl ?_
                  refine wf_v 18 rfl (v_bin rfl rfl rfl) (gy 97 rfl rfl) rfl hns (by kernel_rfl) (by kernel_rfl) rfl rfl ?_
                  refine wf_v 19 rfl (v_idxO slE_29 rfl rfl (Ow.weak hL28.env.size h35) hb1112) (gy 97 rfl rfl) rfl hns (by kernel_rfl) (by kernel_rfl) rfl rfl ?_
                  refine wf_v 20 rfl (v_ldO [.int .i64 ((ix r30 (w64 (x476 - 1))).from_), .int .i64 ((ix r30 (w64 (x476 - 1))).to)] 0 ld_24 rfl rfl (fm_one hl_api_Range hb1112) rfl) (gy 97 rfl rfl) rfl hns (by kernel_rfl) (by kernel_rfl) rfl rfl ?_
                  refine wf_v 21 rfl (v_eqSt eq_24 rfl rfl (eqd_api_Range (ix r30 x476) (ix r30 (w64 (x476 - 1))))) (gy 97 rfl rfl) rfl hns (by kernel_rfl) (by kernel_rfl) rfl rfl ?_
                  refine wf_v 22 rfl (v_pick (b := false) rfl rfl) gn rfl hns (by kernel_rfl) (by kernel_rfl) rfl rfl ?_
                  refine wf_v 23 rfl (v_move rfl) gn rfl hns (by kernel_rfl) (by kernel_rfl) rfl rfl ?_
                  refine wf_bool 109 rfl ((decide_eq_true hp1123)) ?_
                  refine wf_pass 24 rfl (ps 109 rfl rfl rfl) hns (by kernel_rfl) (by kernel_rfl) rfl rfl ?_
                  refine wf_pass 25 rfl (ps 109 rfl rfl rfl) hns (by kernel_rfl) (by kernel_rfl) rfl rfl ?_
                  refine wf_pass 26 rfl (ps 109 rfl rfl rfl) hns (by kernel_rfl) (by kernel_rfl) rfl rfl ?_
                  refine wf_pass 27 rfl (ps 109 rfl rfl rfl) hns (by kernel_rfl) (by kernel_rfl) rfl rfl ?_
                  refine wf_pass 28 rfl (ps 109 rfl rfl rfl) hns (by kernel_rfl) (by kernel_rfl) rfl rfl ?_
                  refine wf_pass 29 rfl (ps 109 rfl rfl rfl) hns (by kernel_rfl) (by kernel_rfl) rfl rfl ?_
                  refine wf_pass 30 rfl (ps 109 rfl rfl rfl) hns (by kernel_rfl) (by kernel_rfl) rfl rfl ?_
                  refine wf_pass 31 rfl (ps 109 rfl rfl rfl) hns (by kernel_rfl) (by kernel_rfl) rfl rfl ?_
                  refine wf_pass 32 rfl (ps 109 rfl rfl rfl) hns (by kernel_rfl) (by kernel_rfl) rfl rfl ?_
                  refine wf_pass 33 rfl (ps 109 rfl rfl rfl) hns (by kernel_rfl) (by kernel_rfl) rfl rfl ?_
                  refine wf_pass 34 rfl (ps 109 rfl rfl rfl) hns (by kernel_rfl) (by kernel_rfl) rfl rfl ?_
                  refine wf_pass 35 rfl (ps 109 rfl rfl rfl) hns (by kernel_rfl) (by kernel_rfl) rfl rfl ?_
                  refine wf_v 36 rfl (v_pick (b := true) rfl rfl) gn rfl hns (by kernel_rfl) (by kernel_rfl) rfl rfl ?_
                  refine wf_end (by kernel_rfl) ?_
                  exact g_go [0, 1] (j3 true h) ⟨rfl, rfl, rfl, rfl, trivial⟩ (.cons_cons _ (.slnil)) rfl
                · have h := if_neg' hp1123 h
                  obtain ⟨r1151, hv1152, h⟩ := h
                  have hns : Region.noSelect (Code.ops trellislaw32_ChooseMore_c44) = true := by kernel_rfl
                  refine g_drawF (c := trellislaw32_ChooseMore_c44) [.own (.slice A32 n33 c34) 24 2 n33 (r30.flatMap enc_api_Range)] [Sm w.heap.size F w [], St w []] [] 37 rfl rfl mix rfl (.cons_cons _ (.slnil)) (sels [0, 1] rfl) ?_
                  refine wf_v 0 rfl (v_move rfl) gn rfl hns (by kernel_rfl) (by kernel_rfl) rfl rfl ?_
                  refine wf_v 1 rfl (v_move rfl) gn rfl hns (by kernel_rfl) (by kernel_rfl) rfl rfl ?_
                  refine wf_v 2 rfl (v_bin rfl rfl rfl) gn rfl hns (by kernel_rfl) (by kernel_rfl) rfl rfl ?_
                  refine wf_v 3 rfl (v_idxO slE_29 rfl rfl (Ow.weak hL28.env.size h35) hb1112) gn rfl hns (by kernel_rfl) (by kernel_rfl) rfl rfl ?_
                  refine wf_v 4 rfl (v_ldO [.int .i64 ((ix r30 (w64 (x476 - 1))).from_), .int .i64 ((ix r30 (w64 (x476 - 1))).to)] 0 ld_24 rfl rfl (fm_one hl_api_Range hb1112) rfl) gn rfl hns (by kernel_rfl) (by kernel_rfl) rfl rfl ?_
                  refine wf_v 5 rfl (v_move rfl) gn rfl hns (by kernel_rfl) (by kernel_rfl) rfl rfl ?_
                  refine wf_v 6 rfl (v_move rfl) gn rfl hns (by kernel_rfl) (by kernel_rfl) rfl rfl ?_
                  refine wf_v 7 rfl (v_idxO slE_29 rfl rfl (Ow.weak hL28.env.size h35) hb1113) gn rfl hns (by kernel_rfl) (by kernel_rfl) rfl rfl ?_
                  refine wf_v 8 rfl (v_ldO [.int .i64 ((ix r30 x476).from_), .int .i64 ((ix r30 x476).to)] 0 ld_24 rfl rfl (fm_one hl_api_Range hb1113) rfl) gn rfl hns (by kernel_rfl) (by kernel_rfl) rfl rfl ?_
                  refine wf_all [9] (by kernel_rfl) rfl ⟨on_s 9 rfl gn rfl (s_call [.agg #[.int .i64 ((ix r30 (w64 (x476 - 1))).from_), .int .i64 ((ix r30 (w64 (x476 - 1))).to)], .agg #[.int .i64 ((ix r30 x476).from_), .int .i64 ((ix r30 x476).to)]] rfl Try.func26 rfl rfl rfl fun w1210 hL1211 => ?_), trivial⟩
                  have hp1212 : List.Perm ([.own (.slice A32 n33 c34) 24 2 n33 (r30.flatMap enc_api_Range)] : List Ent) (([] : List Ent) ++ ([.own (.slice A32 n33 c34) 24 2 n33 (r30.flatMap enc_api_Range)] : List Ent)) := perm_of_idx [] [0] rfl rfl (by kernel_rfl)
                  refine Calls.mono (trellislaw32_within_calls w1210 (Fl ([] : List Snap)) (ix r30 (w64 (x476 - 1))) (ix r30 x476) (hL1211.hFl (Sl := ([] : List Snap)) hp1212 (sels [] rfl)) (hL1211.into hp1212 (Fl ([] : List Snap))) r1117 hv1118) ?_
                  rintro _ w1213 ⟨rfl, hM1214⟩
                  have hL1215 := hL1211.call hp1212 hM1214
                  refine ⟨_, _, _, rfl, hL1215, ?_⟩
                  refine ⟨sels [0] rfl, sels [0, 1] rfl, ?_⟩
                  refine wf_v 10 rfl (v_not rfl) gn rfl hns (by kernel_rfl) (by kernel_rfl) rfl rfl ?_
                  refine wf_v 11 rfl (v_move rfl) gn rfl hns (by kernel_rfl) (by kernel_rfl) rfl rfl ?_
                  refine wf_bool 97 rfl ((nf hp1122)) ?_
                  refine wf_v 12 rfl (v_move rfl) (gy 97 rfl rfl) rfl hns (by kernel_rfl) (by kernel_rfl) rfl rfl ?_
                  refine wf_v 13 rfl (v_move rfl) (gy 97 rfl rfl) rfl hns (by kernel_rfl) (by kernel_rfl) rfl rfl ?_
                  refine wf_v 14 rfl (v_idxO slE_29 rfl rfl (Ow.weak hL28.env.size h35) hb1113) (gy 97 rfl rfl) rfl hns (by kernel_rfl) (by kernel_rfl) rfl rfl ?_
                  refine wf_v 15 rfl (v_ldO [.int .i64 ((ix r30 x476).from_), .int .i64 ((ix r30 x476).to)] 0 ld_24 rfl rfl (fm_one hl_api_Range hb1113) rfl) (gy 97 rfl rfl) rfl hns (by kernel_rfl) (by kernel_rfl) rfl rfl ?_
                  refine wf_v 16 rfl (v_move rfl) (gy 97 rfl rfl) rfl hns (by kernel_rfl) (by kernel_rfl) rfl rfl ?_
                  refine wf_v 17 rfl (v_move rfl) (gy 97 rfl rfl) rfl hns (by kernel_rfl) (by kernel_rfl) rfl rfl ?_
                  refine wf_v 18 rfl (v_bin rfl rfl rfl) (gy 97 rfl rfl) rfl hns (by kernel_rfl) (by kernel_rfl) rfl rfl ?_
                  refine wf_v 19 rfl (v_idxO slE_29 rfl rfl (Ow.weak hL28.env.size h35) hb1112) (gy 97 rfl rfl) rfl hns (by kernel_rfl) (by kernel_rfl) rfl rfl ?_
                  refine wf_v 20 rfl (v_ldO [.int .i64 ((ix r30 (w64 (x476 - 1))).from_), .int .i64 ((ix r30 (w64 (x476 - 1))).to)] 0 ld_24 rfl rfl (fm_one hl_api_Range hb1112) rfl) (gy 97 rfl rfl) rfl hns (by kernel_rfl) (by kernel_rfl) rfl rfl ?_
                  refine wf_v 21 rfl (v_eqSt eq_24 rfl rfl (eqd_api_Range (ix r30 x476) (ix r30 (w64 (x476 - 1))))) (gy 97 rfl rfl) rfl hns (by kernel_rfl) (by kernel_rfl) rfl rfl ?_
                  refine wf_v 22 rfl (v_pick (b := false) rfl rfl) gn rfl hns (by kernel_rfl) (by kernel_rfl) rfl rfl ?_
                  refine wf_v 23 rfl (v_move rfl) gn rfl hns (by kernel_rfl) (by kernel_rfl) rfl rfl ?_
                  refine wf_bool 109 rfl ((decide_eq_false hp1123)) ?_
                  refine wf_v 24 rfl (v_move rfl) (gy 109 rfl rfl) rfl hns (by kernel_rfl) (by kernel_rfl) rfl rfl ?_
                  refine wf_v 25 rfl (v_move rfl) (gy 109 rfl rfl) rfl hns (by kernel_rfl) (by kernel_rfl) rfl rfl ?_
                  refine wf_v 26 rfl (v_move rfl) (gy 109 rfl rfl) rfl hns (by kernel_rfl) (by kernel_rfl) rfl rfl ?_
                  refine wf_v 27 rfl (v_bin rfl rfl rfl) (gy 109 rfl rfl) rfl hns (by kernel_rfl) (by kernel_rfl) rfl rfl ?_
                  refine wf_v 28 rfl (v_idxO slE_29 rfl rfl (Ow.weak hL28.env.size h35) hb1112) (gy 109 rfl rfl) rfl hns (by kernel_rfl) (by kernel_rfl) rfl rfl ?_
                  refine wf_v 29 rfl (v_ldO [.int .i64 ((ix r30 (w64 (x476 - 1))).from_), .int .i64 ((ix r30 (w64 (x476 - 1))).to)] 0 ld_24 rfl rfl (fm_one hl_api_Range hb1112) rfl) (gy 109 rfl rfl) rfl hns (by kernel_rfl) (by kernel_rfl) rfl rfl ?_
                  refine wf_v 31 rfl (v_move rfl) (gy 109 rfl rfl) rfl hns (by kernel_rfl) (by kernel_rfl) rfl rfl ?_
                  refine wf_v 32 rfl (v_move rfl) (gy 109 rfl rfl) rfl hns (by kernel_rfl) (by kernel_rfl) rfl rfl ?_
                  refine wf_v 33 rfl (v_idxO slE_29 rfl rfl (Ow.weak hL28.env.size h35) hb1113) (gy 109 rfl rfl) rfl hns (by kernel_rfl) (by kernel_rfl) rfl rfl ?_
                  refine wf_v 34 rfl (v_ldO [.int .i64 ((ix r30 x476).from_), .int .i64 ((ix r30 x476).to)] 0 ld_24 rfl rfl (fm_one hl_api_Range hb1113) rfl) (gy 109 rfl rfl) rfl hns (by kernel_rfl) (by kernel_rfl) rfl rfl ?_
                  refine wf_all [30] (by kernel_rfl) rfl ⟨on_s 30 rfl (gy 109 rfl rfl) rfl (s_call [.slice A2 n3 c4, .agg #[.int .i64 ((ix r30 (w64 (x476 - 1))).from_), .int .i64 ((ix r30 (w64 (x476 - 1))).to)]] rfl Try.func13 rfl rfl rfl fun w1246 hL1247 => ?_), trivial⟩
                  have hp1248 : List.Perm ([.own (.slice A32 n33 c34) 24 2 n33 (r30.flatMap enc_api_Range)] : List Ent) (([] : List Ent) ++ ([.own (.slice A32 n33 c34) 24 2 n33 (r30.flatMap enc_api_Range)] : List Ent)) := perm_of_idx [] [0] rfl rfl (by kernel_rfl)
                  refine Calls.mono (choose_Grow_calls w1246 (Fl ([] : List Snap)) x1 (ix r30 (w64 (x476 - 1))) A2 n3 c4 (Rw.mono h5 (hL1247.toSt hp1248 (me 1 rfl))) (hL1247.hFl (Sl := ([] : List Snap)) hp1248 (sels [] rfl)) (hL1247.into hp1248 (Fl ([] : List Snap))) r1151 hv1152) ?_
                  rintro _ w1249 ⟨rfl, hM1250⟩
                  have hL1251 := hL1247.call hp1248 hM1250
                  refine ⟨_, _, _, rfl, hL1251, ?_⟩
                  refine ⟨sels [0] rfl, sels [0, 1] rfl, ?_⟩
                  refine wf_v 35 rfl (v_neSt eq_24 rfl rfl (eqd_api_Range r1151 (ix r30 x476))) (gy 109 rfl rfl) rfl hns (by kernel_rfl) (by kernel_rfl) rfl rfl ?_
                  refine wf_v 36 rfl (v_pick (b := false) rfl rfl) gn rfl hns (by kernel_rfl) (by kernel_rfl) rfl rfl ?_
                  refine wf_end (by kernel_rfl) ?_
                  exact g_go [0, 1] (j3 (!(decide (r1151 = ix r30 x476))) h) ⟨rfl, rfl, rfl, rfl, trivial⟩ (.cons_cons _ (.slnil)) rfl
              · have h := if_neg' hp1122 h
                have hns : Region.noSelect (Code.ops trellislaw32_ChooseMore_c44) = true := by kernel_rfl
                refine g_drawF (c := trellislaw32_ChooseMore_c44) [.own (.slice A32 n33 c34) 24 2 n33 (r30.flatMap enc_api_Range)] [Sm w.heap.size F w [], St w []] [] 37 rfl rfl mix rfl (.cons_cons _ (.slnil)) (sels [0, 1] rfl) ?_
                refine wf_v 0 rfl (v_move rfl) gn rfl hns (by kernel_rfl) (by kernel_rfl) rfl rfl ?_
                refine wf_v 1 rfl (v_move rfl) gn rfl hns (by kernel_rfl) (by kernel_rfl) rfl rfl ?_
                refine wf_v 2 rfl (v_bin rfl rfl rfl) gn rfl hns (by kernel_rfl) (by kernel_rfl) rfl rfl ?_
                refine wf_v 3 rfl (v_idxO slE_29 rfl rfl (Ow.weak hL28.env.size h35) hb1112) gn rfl hns (by kernel_rfl) (by kernel_rfl) rfl rfl ?_
                refine wf_v 4 rfl (v_ldO [.int .i64 ((ix r30 (w64 (x476 - 1))).from_), .int .i64 ((ix r30 (w64 (x476 - 1))).to)] 0 ld_24 rfl rfl (fm_one hl_api_Range hb1112) rfl) gn rfl hns (by kernel_rfl) (by kernel_rfl) rfl rfl ?_
                refine wf_v 5 rfl (v_move rfl) gn rfl hns (by kernel_rfl) (by kernel_rfl) rfl rfl ?_
                refine wf_v 6 rfl (v_move rfl) gn rfl hns (by kernel_rfl) (by kernel_rfl) rfl rfl ?_
                refine wf_v 7 rfl (v_idxO slE_29 rfl rfl (Ow.weak hL28.env.size h35) hb1113) gn rfl hns (by kernel_rfl) (by kernel_rfl) rfl rfl ?_
                refine wf_v 8 rfl (v_ldO [.int .i64 ((ix r30 x476).from_), .int .i64 ((ix r30 x476).to)] 0 ld_24 rfl rfl (fm_one hl_api_Range hb1113) rfl) gn rfl hns (by kernel_rfl) (by kernel_rfl) rfl rfl ?_
                refine wf_all [9] (by kernel_rfl) rfl ⟨on_s 9 rfl gn rfl (s_call [.agg #[.int .i64 ((ix r30 (w64 (x476 - 1))).from_), .int .i64 ((ix r30 (w64 (x476 - 1))).to)], .agg #[.int .i64 ((ix r30 x476).from_), .int .i64 ((ix r30 x476).to)]] rfl Try.func26 rfl rfl rfl fun w1270 hL1271 => ?_), trivial⟩
                have hp1272 : List.Perm ([.own (.slice A32 n33 c34) 24 2 n33 (r30.flatMap enc_api_Range)] : List Ent) (([] : List Ent) ++ ([.own (.slice A32 n33 c34) 24 2 n33 (r30.flatMap enc_api_Range)] : List Ent)) := perm_of_idx [] [0] rfl rfl (by kernel_rfl)
                refine Calls.mono (trellislaw32_within_calls w1270 (Fl ([] : List Snap)) (ix r30 (w64 (x476 - 1))) (ix r30 x476) (hL1271.hFl (Sl := ([] : List Snap)) hp1272 (sels [] rfl)) (hL1271.into hp1272 (Fl ([] : List Snap))) r1117 hv1118) ?_
                rintro _ w1273 ⟨rfl, hM1274⟩
                have hL1275 := hL1271.call hp1272 hM1274
                refine ⟨_, _, _, rfl, hL1275, ?_⟩
                refine ⟨sels [0] rfl, sels [0, 1] rfl, ?_⟩
                refine wf_v 10 rfl (v_not rfl) gn rfl hns (by kernel_rfl) (by kernel_rfl) rfl rfl ?_
                refine wf_v 11 rfl (v_move rfl) gn rfl hns (by kernel_rfl) (by kernel_rfl) rfl rfl ?_
                refine wf_bool 97 rfl ((nt (bf hp1122))) ?_
                refine wf_pass 12 rfl (ps 97 rfl rfl rfl) hns (by kernel_rfl) (by kernel_rfl) rfl rfl ?_
                refine wf_pass 13 rfl (ps 97 rfl rfl rfl) hns (by kernel_rfl) (by kernel_rfl) rfl rfl ?_
                refine wf_pass 14 rfl (ps 97 rfl rfl rfl) hns (by kernel_rfl) (by kernel_rfl) rfl rfl ?_
                refine wf_pass 15 rfl (ps 97 rfl rfl rfl) hns (by kernel_rfl) (by kernel_rfl) rfl rfl ?_
                refine wf_pass 16 rfl (ps 97 rfl rfl rfl) hns (by kernel_rfl) (by kernel_rfl) rfl rfl ?_
                refine wf_pass 17 rfl (ps 97 rfl rfl rfl) hns (by kernel_rfl) (by kernel_rfl) rfl rfl ?_
                refine wf_pass 18 rfl (ps 97 rfl rfl rfl) hns (by kernel_rfl) (by kernel_rfl) rfl rfl ?_
                refine wf_pass 19 rfl (ps 97 rfl rfl rfl) hns (by kernel_rfl) (by kernel_rfl) rfl rfl ?_
                refine wf_pass 20 rfl (ps 97 rfl rfl rfl) hns (by kernel_rfl) (by kernel_rfl) rfl rfl ?_
                refine wf_pass 21 rfl (ps 97 rfl rfl rfl) hns (by kernel_rfl) (by kernel_rfl) rfl rfl ?_
                refine wf_v 22 rfl (v_pick (b := true) rfl rfl) gn rfl hns (by kernel_rfl) (by kernel_rfl) rfl rfl ?_
                refine wf_v 23 rfl (v_move rfl) gn rfl hns (by kernel_rfl) (by kernel_rfl) rfl rfl ?_
                refine wf_pass 24 rfl (ps 109 rfl rfl rfl) hns (by kernel_rfl) (by kernel_rfl) rfl rfl ?_
                refine wf_pass 25 rfl (ps 109 rfl rfl rfl) hns (by kernel_rfl) (by kernel_rfl) rfl rfl ?_
                refine wf_pass 26 rfl (ps 109 rfl rfl rfl) hns (by kernel_rfl) (by kernel_rfl) rfl rfl ?_
                refine wf_pass 27 rfl (ps 109 rfl rfl rfl) hns (by kernel_rfl) (by kernel_rfl) rfl rfl ?_
                refine wf_pass 28 rfl (ps 109 rfl rfl rfl) hns (by kernel_rfl) (by kernel_rfl) rfl rfl ?_
                refine wf_pass 29 rfl (ps 109 rfl rfl rfl) hns (by kernel_rfl) (by kernel_rfl) rfl rfl ?_
                refine wf_pass 30 rfl (ps 109 rfl rfl rfl) hns (by kernel_rfl) (by kernel_rfl) rfl rfl ?_
                refine wf_pass 31 rfl (ps 109 rfl rfl rfl) hns (by kernel_rfl) (by kernel_rfl) rfl rfl ?_
                refine wf_pass 32 rfl (ps 109 rfl rfl rfl) hns (by kernel_rfl) (by kernel_rfl) rfl rfl ?_
                refine wf_pass 33 rfl (ps 109 rfl rfl rfl) hns (by kernel_rfl) (by kernel_rfl) rfl rfl ?_
                refine wf_pass 34 rfl (ps 109 rfl rfl rfl) hns (by kernel_rfl) (by kernel_rfl) rfl rfl ?_
                refine wf_pass 35 rfl (ps 109 rfl rfl rfl) hns (by kernel_rfl) (by kernel_rfl) rfl rfl ?_
                refine wf_v 36 rfl (v_pick (b := true) rfl rfl) gn rfl hns (by kernel_rfl) (by kernel_rfl) rfl rfl ?_
                refine wf_end (by kernel_rfl) ?_
                exact g_go [0, 1] (j3 true h) ⟨rfl, rfl, rfl, rfl, trivial⟩ (.cons_cons _ (.slnil)) rfl
            · have h := if_neg' hp900 h
              refine g_false (c := trellislaw32_ChooseMore_c36) rfl _ rfl ((decide_eq_false hp900)) ?_
              refine g_exit (c := trellislaw32_ChooseMore_c38) [.code trellislaw32_ChooseMore_c28] rfl rfl ?_
              refine g_seq (c := trellislaw32_ChooseMore_c28) rfl ?_
              refine g_region (c := trellislaw32_ChooseMore_c77) rfl rfl ?_
              refine wl_v 0 rfl (v_move rfl) gn rfl ?_
              refine wl_v 1 rfl (v_move rfl) gn rfl ?_
              refine wl_v 2 rfl (v_lenQ un_29 rfl (Ow.weak hL28.env.size h35).hq) gn rfl ?_
              refine wl_v 3 rfl (v_bin rfl rfl rfl) gn rfl ?_
              obtain ⟨hb1276, h⟩ := h
              refine wl_v 4 rfl (v_idxO slE_29 rfl rfl (Ow.weak hL28.env.size h35) hb1276) gn rfl ?_
              refine wl_v 5 rfl (v_ldO [.int .i64 ((ix r30 (w64 ((r30.length : Int) - 1))).from_), .int .i64 ((ix r30 (w64 ((r30.length : Int) - 1))).to)] 0 ld_24 rfl rfl (fm_one hl_api_Range hb1276) rfl) gn rfl ?_
              refine wl_s 6 rfl (s_alloc [.int .i64 0, .int .i64 0] zr_24 rfl fun gb1277 => ?_) gn
              refine wl_s 7 rfl (s_stB (vs := [.int .i64 ((ix r30 (w64 ((r30.length : Int) - 1))).from_), .int .i64 ((ix r30 (w64 ((r30.length : Int) - 1))).to)]) (cs' := [.int .i64 ((ix r30 (w64 ((r30.length : Int) - 1))).from_), .int .i64 ((ix r30 (w64 ((r30.length : Int) - 1))).to)]) (M' := [.box gb1277 24 [.int .i64 ((ix r30 (w64 ((r30.length : Int) - 1))).from_), .int .i64 ((ix r30 (w64 ((r30.length : Int) - 1))).to)], .own (.slice A32 n33 c34) 24 2 n33 (r30.flatMap enc_api_Range)]) 0 sz_24 rfl rfl rfl rfl rfl rfl rfl rfl rfl ?_) gn
              refine w_end 8 rfl ?_
              refine g_seq (c := trellislaw32_ChooseMore_c78) rfl ?_
              obtain ⟨r1282, hv1283, h⟩ := h
              have hns : Region.noSelect (Code.ops trellislaw32_ChooseMore_c79) = true := by kernel_rfl
              refine g_drawF (c := trellislaw32_ChooseMore_c79) [.box gb1277 24 [.int .i64 ((ix r30 (w64 ((r30.length : Int) - 1))).from_), .int .i64 ((ix r30 (w64 ((r30.length : Int) - 1))).to)], .own (.slice A32 n33 c34) 24 2 n33 (r30.flatMap enc_api_Range)] [Sm w.heap.size F w [], St w []] [] 6 rfl rfl mix rfl (.cons_cons _ (.cons_cons _ (.slnil))) (sels [0, 1] rfl) ?_
              refine wf_v 0 rfl (v_move rfl) gn rfl hns (by kernel_rfl) (by kernel_rfl) rfl rfl ?_
              refine wf_v 1 rfl (v_ldB [.int .i64 ((ix r30 (w64 ((r30.length : Int) - 1))).from_), .int .i64 ((ix r30 (w64 ((r30.length : Int) - 1))).to)] 0 ld_24 rfl rfl rfl rfl) gn rfl hns (by kernel_rfl) (by kernel_rfl) rfl rfl ?_
              refine wf_v 3 rfl (v_ldB [.int .i64 ((ix r30 (w64 ((r30.length : Int) - 1))).from_), .int .i64 ((ix r30 (w64 ((r30.length : Int) - 1))).to)] 0 ld_24 rfl rfl rfl rfl) gn rfl hns (by kernel_rfl) (by kernel_rfl) rfl rfl ?_
              refine wf_all [2] (by kernel_rfl) rfl ⟨on_s 2 rfl gn rfl (s_call [.slice A2 n3 c4, .agg #[.int .i64 ((ix r30 (w64 ((r30.length : Int) - 1))).from_), .int .i64 ((ix r30 (w64 ((r30.length : Int) - 1))).to)]] rfl Try.func13 rfl rfl rfl fun w1317 hL1318 => ?_), trivial⟩
              have hp1319 : List.Perm ([.box gb1277 24 [.int .i64 ((ix r30 (w64 ((r30.length : Int) - 1))).from_), .int .i64 ((ix r30 (w64 ((r30.length : Int) - 1))).to)], .own (.slice A32 n33 c34) 24 2 n33 (r30.flatMap enc_api_Range)] : List Ent) (([] : List Ent) ++ ([.box gb1277 24 [.int .i64 ((ix r30 (w64 ((r30.length : Int) - 1))).from_), .int .i64 ((ix r30 (w64 ((r30.length : Int) - 1))).to)], .own (.slice A32 n33 c34) 24 2 n33 (r30.flatMap enc_api_Range)] : List Ent)) := perm_of_idx [] [0, 1] rfl rfl (by kernel_rfl)
              refine Calls.mono (choose_Grow_calls w1317 (Fl ([] : List Snap)) x1 (ix r30 (w64 ((r30.length : Int) - 1))) A2 n3 c4 (Rw.mono h5 (hL1318.toSt hp1319 (me 1 rfl))) (hL1318.hFl (Sl := ([] : List Snap)) hp1319 (sels [] rfl)) (hL1318.into hp1319 (Fl ([] : List Snap))) r1282 hv1283) ?_
              rintro _ w1320 ⟨rfl, hM1321⟩
              have hL1322 := hL1318.call hp1319 hM1321
              refine ⟨_, _, _, rfl, hL1322, ?_⟩
              refine ⟨sels [0, 1] rfl, sels [0, 1] rfl, ?_⟩
              refine wf_v 4 rfl (v_eqSt eq_24 rfl rfl (eqd_api_Range r1282 (ix r30 (w64 ((r30.length : Int) - 1))))) gn rfl hns (by kernel_rfl) (by kernel_rfl) rfl rfl ?_
              refine wf_v 5 rfl (v_assign rfl) gn rfl hns (by kernel_rfl) (by kernel_rfl) rfl rfl ?_
              refine wf_end (by kernel_rfl) ?_
              have h := Out.inr hO1 h
              refine g_retR (c := trellislaw32_ChooseMore_c80) [.bool (decide (r1282 = ix r30 (w64 ((r30.length : Int) - 1))))] rfl Try.func5 rfl (.tmp rfl (.nil)) fun wr hLr => ?_
              have hMr : B.Loc w wr [] [St w []] := hLr.pick (rest := [.box gb1277 24 [.int .i64 ((ix r30 (w64 ((r30.length : Int) - 1))).from_), .int .i64 ((ix r30 (w64 ((r30.length : Int) - 1))).to)], .own (.slice A32 n33 c34) 24 2 n33 (r30.flatMap enc_api_Range)]) (perm_of_idx [] [0, 1] rfl rfl (by kernel_rfl)) (sels [1] rfl)
              have hMi : ∀ e ∈ ([] : List Ent), e ∈ ([.box gb1277 24 [.int .i64 ((ix r30 (w64 ((r30.length : Int) - 1))).from_), .int .i64 ((ix r30 (w64 ((r30.length : Int) - 1))).to)], .own (.slice A32 n33 c34) 24 2 n33 (r30.flatMap enc_api_Range)] : List Ent) := sels [] rfl
              show trellislaw32_ChooseMore_R w F  r (.returned (packV [.bool (decide (r1282 = ix r30 (w64 ((r30.length : Int) - 1))))])) wr
              rw [h]
              exact ⟨rfl, hMr⟩
          exact g_go [0, 1] (key2 _ h ()) ⟨rfl, rfl, rfl, trivial⟩ (.cons_cons _ (.slnil)) rfl
      by_cases hp1323 : (r30.length : Int) = 0
      · have h := if_pos' hp1323 h
        have hns : Region.noSelect (Code.ops trellislaw32_ChooseMore_c21) = true := by kernel_rfl
        refine g_drawF (c := trellislaw32_ChooseMore_c21) [.own (.slice A32 n33 c34) 24 2 n33 (r30.flatMap enc_api_Range), .box gb7 24 [.int .i64 x6.from_, .int .i64 x6.to]] [Sm w.heap.size F w [], St w []] [] 63 rfl rfl mix rfl (.cons_cons _ (.cons_cons _ (.slnil))) (sels [0, 1] rfl) ?_
        refine wf_v 0 rfl (v_move rfl) gn rfl hns (by kernel_rfl) (by kernel_rfl) rfl rfl ?_
        refine wf_v 1 rfl (v_lenQ un_29 rfl (Ow.weak hL28.env.size h35).hq) gn rfl hns (by kernel_rfl) (by kernel_rfl) rfl rfl ?_
        refine wf_v 2 rfl (v_bin rfl rfl rfl) gn rfl hns (by kernel_rfl) (by kernel_rfl) rfl rfl ?_
        refine wf_v 3 rfl (v_move rfl) gn rfl hns (by kernel_rfl) (by kernel_rfl) rfl rfl ?_
        refine wf_bool 20 rfl ((eqi hp1323)) ?_
        refine wf_pass 4 rfl (ps 20 rfl rfl rfl) hns (by kernel_rfl) (by kernel_rfl) rfl rfl ?_
        refine wf_pass 5 rfl (ps 20 rfl rfl rfl) hns (by kernel_rfl) (by kernel_rfl) rfl rfl ?_
        refine wf_pass 6 rfl (ps 20 rfl rfl rfl) hns (by kernel_rfl) (by kernel_rfl) rfl rfl ?_
        refine wf_pass 7 rfl (ps 20 rfl rfl rfl) hns (by kernel_rfl) (by kernel_rfl) rfl rfl ?_
        refine wf_pass 8 rfl (ps 20 rfl rfl rfl) hns (by kernel_rfl) (by kernel_rfl) rfl rfl ?_
        refine wf_pass 9 rfl (ps 20 rfl rfl rfl) hns (by kernel_rfl) (by kernel_rfl) rfl rfl ?_
        refine wf_v 10 rfl (v_pick (b := true) rfl rfl) gn rfl hns (by kernel_rfl) (by kernel_rfl) rfl rfl ?_
        refine wf_v 11 rfl (v_move rfl) gn rfl hns (by kernel_rfl) (by kernel_rfl) rfl rfl ?_
        refine wf_pass 12 rfl (ps 28 rfl rfl rfl) hns (by kernel_rfl) (by kernel_rfl) rfl rfl ?_
        refine wf_pass 13 rfl (ps 28 rfl rfl rfl) hns (by kernel_rfl) (by kernel_rfl) rfl rfl ?_
        refine wf_pass 14 rfl (ps 28 rfl rfl rfl) hns (by kernel_rfl) (by kernel_rfl) rfl rfl ?_
        refine wf_pass 15 rfl (ps 28 rfl rfl rfl) hns (by kernel_rfl) (by kernel_rfl) rfl rfl ?_
        refine wf_pass 16 rfl (ps 28 rfl rfl rfl) hns (by kernel_rfl) (by kernel_rfl) rfl rfl ?_
        refine wf_pass 17 rfl (ps 28 rfl rfl rfl) hns (by kernel_rfl) (by kernel_rfl) rfl rfl ?_
        refine wf_pass 18 rfl (ps 28 rfl rfl rfl) hns (by kernel_rfl) (by kernel_rfl) rfl rfl ?_
        refine wf_v 19 rfl (v_pick (b := true) rfl rfl) gn rfl hns (by kernel_rfl) (by kernel_rfl) rfl rfl ?_
        refine wf_v 20 rfl (v_move rfl) gn rfl hns (by kernel_rfl) (by kernel_rfl) rfl rfl ?_
        refine wf_pass 21 rfl (ps 37 rfl rfl rfl) hns (by kernel_rfl) (by kernel_rfl) rfl rfl ?_
        refine wf_pass 22 rfl (ps 37 rfl rfl rfl) hns (by kernel_rfl) (by kernel_rfl) rfl rfl ?_
        refine wf_pass 23 rfl (ps 37 rfl rfl rfl) hns (by kernel_rfl) (by kernel_rfl) rfl rfl ?_
        refine wf_pass 24 rfl (ps 37 rfl rfl rfl) hns (by kernel_rfl) (by kernel_rfl) rfl rfl ?_
        refine wf_pass 25 rfl (ps 37 rfl rfl rfl) hns (by kernel_rfl) (by kernel_rfl) rfl rfl ?_
        refine wf_pass 26 rfl (ps 37 rfl rfl rfl) hns (by kernel_rfl) (by kernel_rfl) rfl rfl ?_
        refine wf_pass 27 rfl (ps 37 rfl rfl rfl) hns (by kernel_rfl) (by kernel_rfl) rfl rfl ?_
        refine wf_pass 28 rfl (ps 37 rfl rfl rfl) hns (by kernel_rfl) (by kernel_rfl) rfl rfl ?_
        refine wf_pass 29 rfl (ps 37 rfl rfl rfl) hns (by kernel_rfl) (by kernel_rfl) rfl rfl ?_
        refine wf_v 30 rfl (v_pick (b := true) rfl rfl) gn rfl hns (by kernel_rfl) (by kernel_rfl) rfl rfl ?_
        refine wf_v 31 rfl (v_move rfl) gn rfl hns (by kernel_rfl) (by kernel_rfl) rfl rfl ?_
        refine wf_pass 32 rfl (ps 48 rfl rfl rfl) hns (by kernel_rfl) (by kernel_rfl) rfl rfl ?_
        refine wf_pass 33 rfl (ps 48 rfl rfl rfl) hns (by kernel_rfl) (by kernel_rfl) rfl rfl ?_
        refine wf_pass 34 rfl (ps 48 rfl rfl rfl) hns (by kernel_rfl) (by kernel_rfl) rfl rfl ?_
        refine wf_pass 35 rfl (ps 48 rfl rfl rfl) hns (by kernel_rfl) (by kernel_rfl) rfl rfl ?_
        refine wf_pass 36 rfl (ps 48 rfl rfl rfl) hns (by kernel_rfl) (by kernel_rfl) rfl rfl ?_
        refine wf_pass 37 rfl (ps 48 rfl rfl rfl) hns (by kernel_rfl) (by kernel_rfl) rfl rfl ?_
        refine wf_pass 38 rfl (pu 54 rfl rfl) hns (by kernel_rfl) (by kernel_rfl) rfl rfl ?_
        refine wf_pass 39 rfl (pu 54 rfl rfl) hns (by kernel_rfl) (by kernel_rfl) rfl rfl ?_
        refine wf_pass 40 rfl (pu 54 rfl rfl) hns (by kernel_rfl) (by kernel_rfl) rfl rfl ?_
        refine wf_pass 41 rfl (pu 54 rfl rfl) hns (by kernel_rfl) (by kernel_rfl) rfl rfl ?_
        refine wf_pass 42 rfl (pu 54 rfl rfl) hns (by kernel_rfl) (by kernel_rfl) rfl rfl ?_
        refine wf_pass 43 rfl (pu 54 rfl rfl) hns (by kernel_rfl) (by kernel_rfl) rfl rfl ?_
        refine wf_pass 44 rfl (pu 54 rfl rfl) hns (by kernel_rfl) (by kernel_rfl) rfl rfl ?_
        refine wf_pass 45 rfl (ps 48 rfl rfl rfl) hns (by kernel_rfl) (by kernel_rfl) rfl rfl ?_
        refine wf_v 46 rfl (v_pick (b := true) rfl rfl) gn rfl hns (by kernel_rfl) (by kernel_rfl) rfl rfl ?_
        refine wf_v 47 rfl (v_move rfl) gn rfl hns (by kernel_rfl) (by kernel_rfl) rfl rfl ?_
        refine wf_pass 48 rfl (ps 64 rfl rfl rfl) hns (by kernel_rfl) (by kernel_rfl) rfl rfl ?_
        refine wf_pass 49 rfl (ps 64 rfl rfl rfl) hns (by kernel_rfl) (by kernel_rfl) rfl rfl ?_
        refine wf_pass 50 rfl (ps 64 rfl rfl rfl) hns (by kernel_rfl) (by kernel_rfl) rfl rfl ?_
        refine wf_pass 51 rfl (ps 64 rfl rfl rfl) hns (by kernel_rfl) (by kernel_rfl) rfl rfl ?_
        refine wf_pass 52 rfl (ps 64 rfl rfl rfl) hns (by kernel_rfl) (by kernel_rfl) rfl rfl ?_
        refine wf_pass 53 rfl (ps 64 rfl rfl rfl) hns (by kernel_rfl) (by kernel_rfl) rfl rfl ?_
        refine wf_pass 54 rfl (pu 70 rfl rfl) hns (by kernel_rfl) (by kernel_rfl) rfl rfl ?_
        refine wf_pass 55 rfl (pu 70 rfl rfl) hns (by kernel_rfl) (by kernel_rfl) rfl rfl ?_
        refine wf_pass 56 rfl (pu 70 rfl rfl) hns (by kernel_rfl) (by kernel_rfl) rfl rfl ?_
        refine wf_pass 57 rfl (pu 70 rfl rfl) hns (by kernel_rfl) (by kernel_rfl) rfl rfl ?_
        refine wf_pass 58 rfl (pu 70 rfl rfl) hns (by kernel_rfl) (by kernel_rfl) rfl rfl ?_
        refine wf_pass 59 rfl (pu 70 rfl rfl) hns (by kernel_rfl) (by kernel_rfl) rfl rfl ?_
        refine wf_pass 60 rfl (pu 70 rfl rfl) hns (by kernel_rfl) (by kernel_rfl) rfl rfl ?_
        refine wf_pass 61 rfl (ps 64 rfl rfl rfl) hns (by kernel_rfl) (by kernel_rfl) rfl rfl ?_
        refine wf_v 62 rfl (v_pick (b := true) rfl rfl) gn rfl hns (by kernel_rfl) (by kernel_rfl) rfl rfl ?_
        refine wf_end (by kernel_rfl) ?_
        exact g_go [0, 1] (j1 true h) ⟨rfl, rfl, rfl, trivial⟩ (.cons_cons _ (.cons _ (.slnil))) rfl
      · have h := if_neg' hp1323 h
        by_cases hp1324 : (r30.length : Int) > w64 ((x1.length : Int) + 1)
        · have h := if_pos' hp1324 h
          have hns : Region.noSelect (Code.ops trellislaw32_ChooseMore_c21) = true := by kernel_rfl
          refine g_drawF (c := trellislaw32_ChooseMore_c21) [.own (.slice A32 n33 c34) 24 2 n33 (r30.flatMap enc_api_Range), .box gb7 24 [.int .i64 x6.from_, .int .i64 x6.to]] [Sm w.heap.size F w [], St w []] [] 63 rfl rfl mix rfl (.cons_cons _ (.cons_cons _ (.slnil))) (sels [0, 1] rfl) ?_
          refine wf_v 0 rfl (v_move rfl) gn rfl hns (by kernel_rfl) (by kernel_rfl) rfl rfl ?_
          refine wf_v 1 rfl (v_lenQ un_29 rfl (Ow.weak hL28.env.size h35).hq) gn rfl hns (by kernel_rfl) (by kernel_rfl) rfl rfl ?_
          refine wf_v 2 rfl (v_bin rfl rfl rfl) gn rfl hns (by kernel_rfl) (by kernel_rfl) rfl rfl ?_
          refine wf_v 3 rfl (v_move rfl) gn rfl hns (by kernel_rfl) (by kernel_rfl) rfl rfl ?_
          refine wf_bool 20 rfl ((nei hp1323)) ?_
          refine wf_v 4 rfl (v_move rfl) (gy 20 rfl rfl) rfl hns (by kernel_rfl) (by kernel_rfl) rfl rfl ?_
          refine wf_v 5 rfl (v_lenQ un_29 rfl (Ow.weak hL28.env.size h35).hq) (gy 20 rfl rfl) rfl hns (by kernel_rfl) (by kernel_rfl) rfl rfl ?_
          refine wf_v 6 rfl (v_move rfl) (gy 20 rfl rfl) rfl hns (by kernel_rfl) (by kernel_rfl) rfl rfl ?_
          refine wf_v 7 rfl (v_lenQ un_22 rfl h5.hq) (gy 20 rfl rfl) rfl hns (by kernel_rfl) (by kernel_rfl) rfl rfl ?_
          refine wf_v 8 rfl (v_bin rfl rfl rfl) (gy 20 rfl rfl) rfl hns (by kernel_rfl) (by kernel_rfl) rfl rfl ?_
          refine wf_v 9 rfl (v_bin rfl rfl rfl) (gy 20 rfl rfl) rfl hns (by kernel_rfl) (by kernel_rfl) rfl rfl ?_
          refine wf_v 10 rfl (v_pick (b := false) rfl rfl) gn rfl hns (by kernel_rfl) (by kernel_rfl) rfl rfl ?_
          refine wf_v 11 rfl (v_move rfl) gn rfl hns (by kernel_rfl) (by kernel_rfl) rfl rfl ?_
          refine wf_bool 28 rfl ((decide_eq_true hp1324)) ?_
          refine wf_pass 12 rfl (ps 28 rfl rfl rfl) hns (by kernel_rfl) (by kernel_rfl) rfl rfl ?_
          refine wf_pass 13 rfl (ps 28 rfl rfl rfl) hns (by kernel_rfl) (by kernel_rfl) rfl rfl ?_
          refine wf_pass 14 rfl (ps 28 rfl rfl rfl) hns (by kernel_rfl) (by kernel_rfl) rfl rfl ?_
          refine wf_pass 15 rfl (ps 28 rfl rfl rfl) hns (by kernel_rfl) (by kernel_rfl) rfl rfl ?_
          refine wf_pass 16 rfl (ps 28 rfl rfl rfl) hns (by kernel_rfl) (by kernel_rfl) rfl rfl ?_
          refine wf_pass 17 rfl (ps 28 rfl rfl rfl) hns (by kernel_rfl) (by kernel_rfl) rfl rfl ?_
          refine wf_pass 18 rfl (ps 28 rfl rfl rfl) hns (by kernel_rfl) (by kernel_rfl) rfl rfl ?_
          refine wf_v 19 rfl (v_pick (b := true) rfl rfl) gn rfl hns (by kernel_rfl) (by kernel_rfl) rfl rfl ?_
          refine wf_v 20 rfl (v_move rfl) gn rfl hns (by kernel_rfl) (by kernel_rfl) rfl rfl ?_
          refine wf_pass 21 rfl (ps 37 rfl rfl rfl) hns (by kernel_rfl) (by kernel_rfl) rfl rfl ?_
          refine wf_pass 22 rfl (ps 37 rfl rfl rfl) hns (by kernel_rfl) (by kernel_rfl) rfl rfl ?_
          refine wf_pass 23 rfl (ps 37 rfl rfl rfl) hns (by kernel_rfl) (by kernel_rfl) rfl rfl ?_
          refine wf_pass 24 rfl (ps 37 rfl rfl rfl) hns (by kernel_rfl) (by kernel_rfl) rfl rfl ?_
          refine wf_pass 25 rfl (ps 37 rfl rfl rfl) hns (by kernel_rfl) (by kernel_rfl) rfl rfl ?_
          refine wf_pass 26 rfl (ps 37 rfl rfl rfl) hns (by kernel_rfl) (by kernel_rfl) rfl rfl ?_
          refine wf_pass 27 rfl (ps 37 rfl rfl rfl) hns (by kernel_rfl) (by kernel_rfl) rfl rfl ?_
          refine wf_pass 28 rfl (ps 37 rfl rfl rfl) hns (by kernel_rfl) (by kernel_rfl) rfl rfl ?_
          refine wf_pass 29 rfl (ps 37 rfl rfl rfl) hns (by kernel_rfl) (by kernel_rfl) rfl rfl ?_
          refine wf_v 30 rfl (v_pick (b := true) rfl rfl) gn rfl hns (by kernel_rfl) (by kernel_rfl) rfl rfl ?_
          refine wf_v 31 rfl (v_move rfl) gn rfl hns (by kernel_rfl) (by kernel_rfl) rfl rfl ?_
          refine wf_pass 32 rfl (ps 48 rfl rfl rfl) hns (by kernel_rfl) (by kernel_rfl) rfl rfl ?_
          refine wf_pass 33 rfl (ps 48 rfl rfl rfl) hns (by kernel_rfl) (by kernel_rfl) rfl rfl ?_
          refine wf_pass 34 rfl (ps 48 rfl rfl rfl) hns (by kernel_rfl) (by kernel_rfl) rfl rfl ?_
          refine wf_pass 35 rfl (ps 48 rfl rfl rfl) hns (by kernel_rfl) (by kernel_rfl) rfl rfl ?_
          refine wf_pass 36 rfl (ps 48 rfl rfl rfl) hns (by kernel_rfl) (by kernel_rfl) rfl rfl ?_
          refine wf_pass 37 rfl (ps 48 rfl rfl rfl) hns (by kernel_rfl) (by kernel_rfl) rfl rfl ?_
          refine wf_pass 38 rfl (pu 54 rfl rfl) hns (by kernel_rfl) (by kernel_rfl) rfl rfl ?_
          refine wf_pass 39 rfl (pu 54 rfl rfl) hns (by kernel_rfl) (by kernel_rfl) rfl rfl ?_
          refine wf_pass 40 rfl (pu 54 rfl rfl) hns (by kernel_rfl) (by kernel_rfl) rfl rfl ?_
          refine wf_pass 41 rfl (pu 54 rfl rfl) hns (by kernel_rfl) (by kernel_rfl) rfl rfl ?_
          refine wf_pass 42 rfl (pu 54 rfl rfl) hns (by kernel_rfl) (by kernel_rfl) rfl rfl ?_
          refine wf_pass 43 rfl (pu 54 rfl rfl) hns (by kernel_rfl) (by kernel_rfl) rfl rfl ?_
          refine wf_pass 44 rfl (pu 54 rfl rfl) hns (by kernel_rfl) (by kernel_rfl) rfl rfl ?_
          refine wf_pass 45 rfl (ps 48 rfl rfl rfl) hns (by kernel_rfl) (by kernel_rfl) rfl rfl ?_
          refine wf_v 46 rfl (v_pick (b := true) rfl rfl) gn rfl hns (by kernel_rfl) (by kernel_rfl) rfl rfl ?_
          refine wf_v 47 rfl (v_move rfl) gn rfl hns (by kernel_rfl) (by kernel_rfl) rfl rfl ?_
          refine wf_pass 48 rfl (ps 64 rfl rfl rfl) hns (by kernel_rfl) (by kernel_rfl) rfl rfl ?_
          refine wf_pass 49 rfl (ps 64 rfl rfl rfl) hns (by kernel_rfl) (by kernel_rfl) rfl rfl ?_
          refine wf_pass 50 rfl (ps 64 rfl rfl rfl) hns (by kernel_rfl) (by kernel_rfl) rfl rfl ?_
          refine wf_pass 51 rfl (ps 64 rfl rfl rfl) hns (by kernel_rfl) (by kernel_rfl) rfl rfl ?_
          refine wf_pass 52 rfl (ps 64 rfl rfl rfl) hns (by kernel_rfl) (by kernel_rfl) rfl rfl ?_
          refine wf_pass 53 rfl (ps 64 rfl rfl rfl) hns (by kernel_rfl) (by kernel_rfl) rfl rfl ?_
          refine wf_pass 54 rfl (pu 70 rfl rfl) hns (by kernel_rfl) (by kernel_rfl) rfl rfl ?_
          refine wf_pass 55 rfl (pu 70 rfl rfl) hns (by kernel_rfl) (by kernel_rfl) rfl rfl ?_
          refine wf_pass 56 rfl (pu 70 rfl rfl) hns (by kernel_rfl) (by kernel_rfl) rfl rfl ?_
          refine wf_pass 57 rfl (pu 70 rfl rfl) hns (by kernel_rfl) (by kernel_rfl) rfl rfl ?_
          refine wf_pass 58 rfl (pu 70 rfl rfl) hns (by kernel_rfl) (by kernel_rfl) rfl rfl ?_
          refine wf_pass 59 rfl (pu 70 rfl rfl) hns (by kernel_rfl) (by kernel_rfl) rfl rfl ?_
          refine wf_pass 60 rfl (pu 70 rfl rfl) hns (by kernel_rfl) (by kernel_rfl) rfl rfl ?_
          refine wf_pass 61 rfl (ps 64 rfl rfl rfl) hns (by kernel_rfl) (by kernel_rfl) rfl rfl ?_
          refine wf_v 62 rfl (v_pick (b := true) rfl rfl) gn rfl hns (by kernel_rfl) (by kernel_rfl) rfl rfl ?_
          refine wf_end (by kernel_rfl) ?_
          exact g_go [0, 1] (j1 true h) ⟨rfl, rfl, rfl, trivial⟩ (.cons_cons _ (.cons _ (.slnil))) rfl
        · have h := if_neg' hp1324 h
          obtain ⟨hb1325, h⟩ := h
          by_cases hp1326 : (ix r30 0).from_ = x6.from_
          · have h := if_pos' hp1326 h
            by_cases hp1327 : (ix r30 0).to < (ix r30 0).from_
            · have h := if_pos' hp1327 h
              have hns : Region.noSelect (Code.ops trellislaw32_ChooseMore_c21) = true := by kernel_rfl
              refine g_drawF (c := trellislaw32_ChooseMore_c21) [.own (.slice A32 n33 c34) 24 2 n33 (r30.flatMap enc_api_Range), .box gb7 24 [.int .i64 x6.from_, .int .i64 x6.to]] [Sm w.heap.size F w [], St w []] [] 63 rfl rfl mix rfl (.cons_cons _ (.cons_cons _ (.slnil))) (sels [0, 1] rfl) ?_
              refine wf_v 0 rfl (v_move rfl) gn rfl hns (by kernel_rfl) (by kernel_rfl) rfl rfl ?_
              refine wf_v 1 rfl (v_lenQ un_29 rfl (Ow.weak hL28.env.size h35).hq) gn rfl hns (by kernel_rfl) (by kernel_rfl) rfl rfl ?_
              refine wf_v 2 rfl (v_bin rfl rfl rfl) gn rfl hns (by kernel_rfl) (by kernel_rfl) rfl rfl ?_
              refine wf_v 3 rfl (v_move rfl) gn rfl hns (by kernel_rfl) (by kernel_rfl) rfl rfl ?_
              refine wf_bool 20 rfl ((nei hp1323)) ?_
              refine wf_v 4 rfl (v_move rfl) (gy 20 rfl rfl) rfl hns (by kernel_rfl) (by kernel_rfl) rfl rfl ?_
              refine wf_v 5 rfl (v_lenQ un_29 rfl (Ow.weak hL28.env.size h35).hq) (gy 20 rfl rfl) rfl hns (by kernel_rfl) (by kernel_rfl) rfl rfl ?_
              refine wf_v 6 rfl (v_move rfl) (gy 20 rfl rfl) rfl hns (by kernel_rfl) (by kernel_rfl) rfl rfl ?_
              refine wf_v 7 rfl (v_lenQ un_22 rfl h5.hq) (gy 20 rfl rfl) rfl hns (by kernel_rfl) (by kernel_rfl) rfl rfl ?_
              refine wf_v 8 rfl (v_bin rfl rfl rfl) (gy 20 rfl rfl) rfl hns (by kernel_rfl) (by kernel_rfl) rfl rfl ?_
              refine wf_v 9 rfl (v_bin rfl rfl rfl) (gy 20 rfl rfl) rfl hns (by kernel_rfl) (by kernel_rfl) rfl rfl ?_
              refine wf_v 10 rfl (v_pick (b := false) rfl rfl) gn rfl hns (by kernel_rfl) (by kernel_rfl) rfl rfl ?_
              refine wf_v 11 rfl (v_move rfl) gn rfl hns (by kernel_rfl) (by kernel_rfl) rfl rfl ?_
              refine wf_bool 28 rfl ((decide_eq_false hp1324)) ?_
              refine wf_v 12 rfl (v_move rfl) (gy 28 rfl rfl) rfl hns (by kernel_rfl) (by kernel_rfl) rfl rfl ?_
              refine wf_v 13 rfl (v_idxO slE_29 rfl rfl (Ow.weak hL28.env.size h35) hb1325) (gy 28 rfl rfl) rfl hns (by kernel_rfl) (by kernel_rfl) rfl rfl ?_
              refine wf_v 14 rfl (v_fldA fo_24_0 rfl) (gy 28 rfl rfl) rfl hns (by kernel_rfl) (by kernel_rfl) rfl rfl ?_
              refine wf_v 15 rfl (v_ldO1 (.int .i64 ((ix r30 0).from_)) 0 ld_3 rfl rfl (fm_get hl_api_Range hb1325 rfl)) (gy 28 rfl rfl) rfl hns (by kernel_rfl) (by kernel_rfl) rfl rfl ?_
              refine wf_v 16 rfl (v_fldB fo_24_0 rfl) (gy 28 rfl rfl) rfl hns (by kernel_rfl) (by kernel_rfl) rfl rfl ?_
              refine wf_v 17 rfl (v_ldB1 1 ld_3 rfl rfl rfl) (gy 28 rfl rfl) rfl hns (by kernel_rfl) (by kernel_rfl) rfl rfl ?_
              refine wf_v 18 rfl (v_bin rfl rfl rfl) (gy 28 rfl rfl) rfl hns (by kernel_rfl) (by kernel_rfl) rfl rfl ?_
              refine wf_v 19 rfl (v_pick (b := false) rfl rfl) gn rfl hns (by kernel_rfl) (by kernel_rfl) rfl rfl ?_
              refine wf_v 20 rfl (v_move rfl) gn rfl hns (by kernel_rfl) (by kernel_rfl) rfl rfl ?_
              refine wf_bool 37 rfl ((eqib hp1326)) ?_
              refine wf_v 21 rfl (v_move rfl) (gy 37 rfl rfl) rfl hns (by kernel_rfl) (by kernel_rfl) rfl rfl ?_
              refine wf_v 22 rfl (v_idxO slE_29 rfl rfl (Ow.weak hL28.env.size h35) hb1325) (gy 37 rfl rfl) rfl hns (by kernel_rfl) (by kernel_rfl) rfl rfl ?_
              refine wf_v 23 rfl (v_fldA fo_24_1 rfl) (gy 37 rfl rfl) rfl hns (by kernel_rfl) (by kernel_rfl) rfl rfl ?_
              refine wf_v 24 rfl (v_ldO1 (.int .i64 ((ix r30 0).to)) 0 ld_3 rfl rfl (fm_get hl_api_Range hb1325 rfl)) (gy 37 rfl rfl) rfl hns (by kernel_rfl) (by kernel_rfl) rfl rfl ?_
              refine wf_v 25 rfl (v_move rfl) (gy 37 rfl rfl) rfl hns (by kernel_rfl) (by kernel_rfl) rfl rfl ?_
              refine wf_v 26 rfl (v_idxO slE_29 rfl rfl (Ow.weak hL28.env.size h35) hb1325) (gy 37 rfl rfl) rfl hns (by kernel_rfl) (by kernel_rfl) rfl rfl ?_
              refine wf_v 27 rfl (v_fldA fo_24_0 rfl) (gy 37 rfl rfl) rfl hns (by kernel_rfl) (by kernel_rfl) rfl rfl ?_
              refine wf_v 28 rfl (v_ldO1 (.int .i64 ((ix r30 0).from_)) 0 ld_3 rfl rfl (fm_get hl_api_Range hb1325 rfl)) (gy 37 rfl rfl) rfl hns (by kernel_rfl) (by kernel_rfl) rfl rfl ?_
              refine wf_v 29 rfl (v_bin rfl rfl rfl) (gy 37 rfl rfl) rfl hns (by kernel_rfl) (by kernel_rfl) rfl rfl ?_
              refine wf_v 30 rfl (v_pick (b := false) rfl rfl) gn rfl hns (by kernel_rfl) (by kernel_rfl) rfl rfl ?_
              refine wf_v 31 rfl (v_move rfl) gn rfl hns (by kernel_rfl) (by kernel_rfl) rfl rfl ?_
              refine wf_bool 48 rfl ((decide_eq_true hp1327)) ?_
              refine wf_pass 32 rfl (ps 48 rfl rfl rfl) hns (by kernel_rfl) (by kernel_rfl) rfl rfl ?_
              refine wf_pass 33 rfl (ps 48 rfl rfl rfl) hns (by kernel_rfl) (by kernel_rfl) rfl rfl ?_
              refine wf_pass 34 rfl (ps 48 rfl rfl rfl) hns (by kernel_rfl) (by kernel_rfl) rfl rfl ?_
              refine wf_pass 35 rfl (ps 48 rfl rfl rfl) hns (by kernel_rfl) (by kernel_rfl) rfl rfl ?_
              refine wf_pass 36 rfl (ps 48 rfl rfl rfl) hns (by kernel_rfl) (by kernel_rfl) rfl rfl ?_
              refine wf_pass 37 rfl (ps 48 rfl rfl rfl) hns (by kernel_rfl) (by kernel_rfl) rfl rfl ?_
              refine wf_pass 38 rfl (pu 54 rfl rfl) hns (by kernel_rfl) (by kernel_rfl) rfl rfl ?_
              refine wf_pass 39 rfl (pu 54 rfl rfl) hns (by kernel_rfl) (by kernel_rfl) rfl rfl ?_
              refine wf_pass 40 rfl (pu 54 rfl rfl) hns (by kernel_rfl) (by kernel_rfl) rfl rfl ?_
              refine wf_pass 41 rfl (pu 54 rfl rfl) hns (by kernel_rfl) (by kernel_rfl) rfl rfl ?_
              refine wf_pass 42 rfl (pu 54 rfl rfl) hns (by kernel_rfl) (by kernel_rfl) rfl rfl ?_
              refine wf_pass 43 rfl (pu 54 rfl rfl) hns (by kernel_rfl) (by kernel_rfl) rfl rfl ?_
              refine wf_pass 44 rfl (pu 54 rfl rfl) hns (by kernel_rfl) (by kernel_rfl) rfl rfl ?_
              refine wf_pass 45 rfl (ps 48 rfl rfl rfl) hns (by kernel_rfl) (by kernel_rfl) rfl rfl ?_
              refine wf_v 46 rfl (v_pick (b := true) rfl rfl) gn rfl hns (by kernel_rfl) (by kernel_rfl) rfl rfl ?_
              refine wf_v 47 rfl (v_move rfl) gn rfl hns (by kernel_rfl) (by kernel_rfl) rfl rfl ?_
              refine wf_pass 48 rfl (ps 64 rfl rfl rfl) hns (by kernel_rfl) (by kernel_rfl) rfl rfl ?_
              refine wf_pass 49 rfl (ps 64 rfl rfl rfl) hns (by kernel_rfl) (by kernel_rfl) rfl rfl ?_
              refine wf_pass 50 rfl (ps 64 rfl rfl rfl) hns (by kernel_rfl) (by kernel_rfl) rfl rfl ?_
              refine wf_pass 51 rfl (ps 64 rfl rfl rfl) hns (by kernel_rfl) (by kernel_rfl) rfl rfl ?_
              refine wf_pass 52 rfl (ps 64 rfl rfl rfl) hns (by kernel_rfl) (by kernel_rfl) rfl rfl ?_
              refine wf_pass 53 rfl (ps 64 rfl rfl rfl) hns (by kernel_rfl) (by kernel_rfl) rfl rfl ?_
              refine wf_pass 54 rfl (pu 70 rfl rfl) hns (by kernel_rfl) (by kernel_rfl) rfl rfl ?_
              refine wf_pass 55 rfl (pu 70 rfl rfl) hns (by kernel_rfl) (by kernel_rfl) rfl rfl ?_
              refine wf_pass 56 rfl (pu 70 rfl rfl) hns (by kernel_rfl) (by kernel_rfl) rfl rfl ?_
              refine wf_pass 57 rfl (pu 70 rfl rfl) hns (by kernel_rfl) (by kernel_rfl) rfl rfl ?_
              refine wf_pass 58 rfl (pu 70 rfl rfl) hns (by kernel_rfl) (by kernel_rfl) rfl rfl ?_
              refine wf_pass 59 rfl (pu 70 rfl rfl) hns (by kernel_rfl) (by kernel_rfl) rfl rfl ?_
              refine wf_pass 60 rfl (pu 70 rfl rfl) hns (by kernel_rfl) (by kernel_rfl) rfl rfl ?_
              refine wf_pass 61 rfl (ps 64 rfl rfl rfl) hns (by kernel_rfl) (by kernel_rfl) rfl rfl ?_
              refine wf_v 62 rfl (v_pick (b := true) rfl rfl) gn rfl hns (by kernel_rfl) (by kernel_rfl) rfl rfl ?_
              refine wf_end (by kernel_rfl) ?_
              exact g_go [0, 1] (j1 true h) ⟨rfl, rfl, rfl, trivial⟩ (.cons_cons _ (.cons _ (.slnil))) rfl
            · have h := if_neg' hp1327 h
              by_cases hp1328 : x6.to ≥ x6.from_
              · have h := if_pos' hp1328 h
                by_cases hp1329 : (ix r30 0).to = x6.to
                · have h := if_pos' hp1329 h
                  by_cases hp1330 : x6.to < x6.from_
                  · have h := if_pos' hp1330 h
                    have hns : Region.noSelect (Code.ops trellislaw32_ChooseMore_c21) = true := by kernel_rfl
                    refine g_drawF (c := trellislaw32_ChooseMore_c21) [.own (.slice A32 n33 c34) 24 2 n33 (r30.flatMap enc_api_Range), .box gb7 24 [.int .i64 x6.from_, .int .i64 x6.to]] [Sm w.heap.size F w [], St w []] [] 63 rfl rfl mix rfl (.cons_cons _ (.cons_cons _ (.slnil))) (sels [0, 1] rfl) ?_
                    refine wf_v 0 rfl (v_move rfl) gn rfl hns (by kernel_rfl) (by kernel_rfl) rfl rfl ?_
                    refine wf_v 1 rfl (v_lenQ un_29 rfl (Ow.weak hL28.env.size h35).hq) gn rfl hns (by kernel_rfl) (by kernel_rfl) rfl rfl ?_
                    refine wf_v 2 rfl (v_bin rfl rfl rfl) gn rfl hns (by kernel_rfl) (by kernel_rfl) rfl rfl ?_
                    refine wf_v 3 rfl (v_move rfl) gn rfl hns (by kernel_rfl) (by kernel_rfl) rfl rfl ?_
                    refine wf_bool 20 rfl ((nei hp1323)) ?_
                    refine wf_v 4 rfl (v_move rfl) (gy 20 rfl rfl) rfl hns (by kernel_rfl) (by kernel_rfl) rfl rfl ?_
                    refine wf_v 5 rfl (v_lenQ un_29 rfl (Ow.weak hL28.env.size h35).hq) (gy 20 rfl rfl) rfl hns (by kernel_rfl) (by kernel_rfl) rfl rfl ?_
                    refine wf_v 6 rfl (v_move rfl) (gy 20 rfl rfl) rfl hns (by kernel_rfl) (by kernel_rfl) rfl rfl ?_
                    refine wf_v 7 rfl (v_lenQ un_22 rfl h5.hq) (gy 20 rfl rfl) rfl hns (by kernel_rfl) (by kernel_rfl) rfl rfl ?_
                    refine wf_v 8 rfl (v_bin rfl rfl rfl) (gy 20 rfl rfl) rfl hns (by kernel_rfl) (by kernel_rfl) rfl rfl ?_
                    refine wf_v 9 rfl (v_bin rfl rfl rfl) (gy 20 rfl rfl) rfl hns (by kernel_rfl) (by kernel_rfl) rfl rfl ?_
                    refine wf_v 10 rfl (v_pick (b := false) rfl rfl) gn rfl hns (by kernel_rfl) (by kernel_rfl) rfl rfl ?_
                    refine wf_v 11 rfl (v_move rfl) gn rfl hns (by kernel_rfl) (by kernel_rfl) rfl rfl ?_
                    refine wf_bool 28 rfl ((decide_eq_false hp1324)) ?_
                    refine wf_v 12 rfl (v_move rfl) (gy 28 rfl rfl) rfl hns (by kernel_rfl) (by kernel_rfl) rfl rfl ?_
                    refine wf_v 13 rfl (v_idxO slE_29 rfl rfl (Ow.weak hL28.env.size h35) hb1325) (gy 28 rfl rfl) rfl hns (by kernel_rfl) (by kernel_rfl) rfl rfl ?_
                    refine wf_v 14 rfl (v_fldA fo_24_0 rfl) (gy 28 rfl rfl) rfl hns (by kernel_rfl) (by kernel_rfl) rfl rfl ?_
                    refine wf_v 15 rfl (v_ldO1 (.int .i64 ((ix r30 0).from_)) 0 ld_3 rfl rfl (fm_get hl_api_Range hb1325 rfl)) (gy 28 rfl rfl) rfl hns (by kernel_rfl) (by kernel_rfl) rfl rfl ?_
                    refine wf_v 16 rfl (v_fldB fo_24_0 rfl) (gy 28 rfl rfl) rfl hns (by kernel_rfl) (by kernel_rfl) rfl rfl ?_
                    refine wf_v 17 rfl (v_ldB1 1 ld_3 rfl rfl rfl) (gy 28 rfl rfl) rfl hns (by kernel_rfl) (by kernel_rfl) rfl rfl ?_
                    refine wf_v 18 rfl (v_bin rfl rfl rfl) (gy 28 rfl rfl) rfl hns (by kernel_rfl) (by kernel_rfl) rfl rfl ?_
                    refine wf_v 19 rfl (v_pick (b := false) rfl rfl) gn rfl hns (by kernel_rfl) (by kernel_rfl) rfl rfl ?_
                    refine wf_v 20 rfl (v_move rfl) gn rfl hns (by kernel_rfl) (by kernel_rfl) rfl rfl ?_
                    refine wf_bool 37 rfl ((eqib hp1326)) ?_
                    refine wf_v 21 rfl (v_move rfl) (gy 37 rfl rfl) rfl hns (by kernel_rfl) (by kernel_rfl) rfl rfl ?_
                    refine wf_v 22 rfl (v_idxO slE_29 rfl rfl (Ow.weak hL28.env.size h35) hb1325) (gy 37 rfl rfl) rfl hns (by kernel_rfl) (by kernel_rfl) rfl rfl ?_
                    refine wf_v 23 rfl (v_fldA fo_24_1 rfl) (gy 37 rfl rfl) rfl hns (by kernel_rfl) (by kernel_rfl) rfl rfl ?_
                    refine wf_v 24 rfl (v_ldO1 (.int .i64 ((ix r30 0).to)) 0 ld_3 rfl rfl (fm_get hl_api_Range hb1325 rfl)) (gy 37 rfl rfl) rfl hns (by kernel_rfl) (by kernel_rfl) rfl rfl ?_
                    refine wf_v 25 rfl (v_move rfl) (gy 37 rfl rfl) rfl hns (by kernel_rfl) (by kernel_rfl) rfl rfl ?_
                    refine wf_v 26 rfl (v_idxO slE_29 rfl rfl (Ow.weak hL28.env.size h35) hb1325) (gy 37 rfl rfl) rfl hns (by kernel_rfl) (by kernel_rfl) rfl rfl ?_
                    refine wf_v 27 rfl (v_fldA fo_24_0 rfl) (gy 37 rfl rfl) rfl hns (by kernel_rfl) (by kernel_rfl) rfl rfl ?_
                    refine wf_v 28 rfl (v_ldO1 (.int .i64 ((ix r30 0).from_)) 0 ld_3 rfl rfl (fm_get hl_api_Range hb1325 rfl)) (gy 37 rfl rfl) rfl hns (by kernel_rfl) (by kernel_rfl) rfl rfl ?_
                    refine wf_v 29 rfl (v_bin rfl rfl rfl) (gy 37 rfl rfl) rfl hns (by kernel_rfl) (by kernel_rfl) rfl rfl ?_
                    refine wf_v 30 rfl (v_pick (b := false) rfl rfl) gn rfl hns (by kernel_rfl) (by kernel_rfl) rfl rfl ?_
                    refine wf_v 31 rfl (v_move rfl) gn rfl hns (by kernel_rfl) (by kernel_rfl) rfl rfl ?_
                    refine wf_bool 48 rfl ((decide_eq_false hp1327)) ?_
                    refine wf_v 32 rfl (v_fldB fo_24_1 rfl) (gy 48 rfl rfl) rfl hns (by kernel_rfl) (by kernel_rfl) rfl rfl ?_
                    refine wf_v 33 rfl (v_ldB1 1 ld_3 rfl rfl rfl) (gy 48 rfl rfl) rfl hns (by kernel_rfl) (by kernel_rfl) rfl rfl ?_
                    refine wf_v 34 rfl (v_fldB fo_24_0 rfl) (gy 48 rfl rfl) rfl hns (by kernel_rfl) (by kernel_rfl) rfl rfl ?_
                    refine wf_v 35 rfl (v_ldB1 1 ld_3 rfl rfl rfl) (gy 48 rfl rfl) rfl hns (by kernel_rfl) (by kernel_rfl) rfl rfl ?_
                    refine wf_v 36 rfl (v_bin rfl rfl rfl) (gy 48 rfl rfl) rfl hns (by kernel_rfl) (by kernel_rfl) rfl rfl ?_
                    refine wf_v 37 rfl (v_move rfl) (gy 48 rfl rfl) rfl hns (by kernel_rfl) (by kernel_rfl) rfl rfl ?_
                    refine wf_bool 54 rfl ((decide_eq_true hp1328)) ?_
                    refine wf_v 38 rfl (v_move rfl) (gy 54 rfl rfl) rfl hns (by kernel_rfl) (by kernel_rfl) rfl rfl ?_
                    refine wf_v 39 rfl (v_idxO slE_29 rfl rfl (Ow.weak hL28.env.size h35) hb1325) (gy 54 rfl rfl) rfl hns (by kernel_rfl) (by kernel_rfl) rfl rfl ?_
                    refine wf_v 40 rfl (v_fldA fo_24_1 rfl) (gy 54 rfl rfl) rfl hns (by kernel_rfl) (by kernel_rfl) rfl rfl ?_
                    refine wf_v 41 rfl (v_ldO1 (.int .i64 ((ix r30 0).to)) 0 ld_3 rfl rfl (fm_get hl_api_Range hb1325 rfl)) (gy 54 rfl rfl) rfl hns (by kernel_rfl) (by kernel_rfl) rfl rfl ?_
                    refine wf_v 42 rfl (v_fldB fo_24_1 rfl) (gy 54 rfl rfl) rfl hns (by kernel_rfl) (by kernel_rfl) rfl rfl ?_
                    refine wf_v 43 rfl (v_ldB1 1 ld_3 rfl rfl rfl) (gy 54 rfl rfl) rfl hns (by kernel_rfl) (by kernel_rfl) rfl rfl ?_
                    refine wf_v 44 rfl (v_bin rfl rfl rfl) (gy 54 rfl rfl) rfl hns (by kernel_rfl) (by kernel_rfl) rfl rfl ?_
                    refine wf_v 45 rfl (v_pick (b := true) rfl rfl) (gy 48 rfl rfl) rfl hns (by kernel_rfl) (by kernel_rfl) rfl rfl ?_
                    refine wf_v 46 rfl (v_pick (b := false) rfl rfl) gn rfl hns (by kernel_rfl) (by kernel_rfl) rfl rfl ?_
                    refine wf_v 47 rfl (v_move rfl) gn rfl hns (by kernel_rfl) (by kernel_rfl) rfl rfl ?_
                    refine wf_bool 64 rfl ((eqib hp1329)) ?_
                    refine wf_v 48 rfl (v_fldB fo_24_1 rfl) (gy 64 rfl rfl) rfl hns (by kernel_rfl) (by kernel_rfl) rfl rfl ?_
                    refine wf_v 49 rfl (v_ldB1 1 ld_3 rfl rfl rfl) (gy 64 rfl rfl) rfl hns (by kernel_rfl) (by kernel_rfl) rfl rfl ?_
                    refine wf_v 50 rfl (v_fldB fo_24_0 rfl) (gy 64 rfl rfl) rfl hns (by kernel_rfl) (by kernel_rfl) rfl rfl ?_
                    refine wf_v 51 rfl (v_ldB1 1 ld_3 rfl rfl rfl) (gy 64 rfl rfl) rfl hns (by kernel_rfl) (by kernel_rfl) rfl rfl ?_
                    refine wf_v 52 rfl (v_bin rfl rfl rfl) (gy 64 rfl rfl) rfl hns (by kernel_rfl) (by kernel_rfl) rfl rfl ?_
                    refine wf_v 53 rfl (v_move rfl) (gy 64 rfl rfl) rfl hns (by kernel_rfl) (by kernel_rfl) rfl rfl ?_
                    refine wf_bool 70 rfl ((decide_eq_true hp1330)) ?_
                    refine wf_v 54 rfl (v_move rfl) (gy 70 rfl rfl) rfl hns (by kernel_rfl) (by kernel_rfl) rfl rfl ?_
                    refine wf_v 55 rfl (v_idxO slE_29 rfl rfl (Ow.weak hL28.env.size h35) hb1325) (gy 70 rfl rfl) rfl hns (by kernel_rfl) (by kernel_rfl) rfl rfl ?_
                    refine wf_v 56 rfl (v_fldA fo_24_1 rfl) (gy 70 rfl rfl) rfl hns (by kernel_rfl) (by kernel_rfl) rfl rfl ?_
                    refine wf_v 57 rfl (v_ldO1 (.int .i64 ((ix r30 0).to)) 0 ld_3 rfl rfl (fm_get hl_api_Range hb1325 rfl)) (gy 70 rfl rfl) rfl hns (by kernel_rfl) (by kernel_rfl) rfl rfl ?_
                    refine wf_v 58 rfl (v_fldB fo_24_0 rfl) (gy 70 rfl rfl) rfl hns (by kernel_rfl) (by kernel_rfl) rfl rfl ?_
                    refine wf_v 59 rfl (v_ldB1 1 ld_3 rfl rfl rfl) (gy 70 rfl rfl) rfl hns (by kernel_rfl) (by kernel_rfl) rfl rfl ?_
                    refine wf_v 60 rfl (v_bin rfl rfl rfl) (gy 70 rfl rfl) rfl hns (by kernel_rfl) (by kernel_rfl) rfl rfl ?_
                    refine wf_v 61 rfl (v_pick (b := true) rfl rfl) (gy 64 rfl rfl) rfl hns (by kernel_rfl) (by kernel_rfl) rfl rfl ?_
                    refine wf_v 62 rfl (v_pick (b := false) rfl rfl) gn rfl hns (by kernel_rfl) (by kernel_rfl) rfl rfl ?_
                    refine wf_end (by kernel_rfl) ?_
                    exact g_go [0, 1] (j1 (((ix r30 0).to) != x6.from_) h) ⟨rfl, rfl, rfl, trivial⟩ (.cons_cons _ (.cons _ (.slnil))) rfl
                  · have h := if_neg' hp1330 h
                    have hns : Region.noSelect (Code.ops trellislaw32_ChooseMore_c21) = true := by kernel_rfl
                    refine g_drawF (c := trellislaw32_ChooseMore_c21) [.own (.slice A32 n33 c34) 24 2 n33 (r30.flatMap enc_api_Range), .box gb7 24 [.int .i64 x6.from_, .int .i64 x6.to]] [Sm w.heap.size F w [], St w []] [] 63 rfl rfl mix rfl (.cons_cons _ (.cons_cons _ (.slnil))) (sels [0, 1] rfl) ?_
                    refine wf_v 0 rfl (v_move rfl) gn rfl hns (by kernel_rfl) (by kernel_rfl) rfl rfl ?_
                    refine wf_v 1 rfl (v_lenQ un_29 rfl (Ow.weak hL28.env.size h35).hq) gn rfl hns (by kernel_rfl) (by kernel_rfl) rfl rfl ?_
                    refine wf_v 2 rfl (v_bin rfl rfl rfl) gn rfl hns (by kernel_rfl) (by kernel_rfl) rfl rfl ?_
                    refine wf_v 3 rfl (v_move rfl) gn rfl hns (by kernel_rfl) (by kernel_rfl) rfl rfl ?_
                    refine wf_bool 20 rfl ((nei hp1323)) ?_
                    refine wf_v 4 rfl (v_move rfl) (gy 20 rfl rfl) rfl hns (by kernel_rfl) (by kernel_rfl) rfl rfl ?_
                    refine wf_v 5 rfl (v_lenQ un_29 rfl (Ow.weak hL28.env.size h35).hq) (gy 20 rfl rfl) rfl hns (by kernel_rfl) (by kernel_rfl) rfl rfl ?_
                    refine wf_v 6 rfl (v_move rfl) (gy 20 rfl rfl) rfl hns (by kernel_rfl) (by kernel_rfl) rfl rfl ?_
                    refine wf_v 7 rfl (v_lenQ un_22 rfl h5.hq) (gy 20 rfl rfl) rfl hns (by kernel_rfl) (by kernel_rfl) rfl rfl ?_
                    refine wf_v 8 rfl (v_bin rfl rfl rfl) (gy 20 rfl rfl) rfl hns (by kernel_rfl) (by kernel_rfl) rfl rfl ?_
                    refine wf_v 9 rfl (v_bin rfl rfl rfl) (gy 20 rfl rfl) rfl hns (by kernel_rfl) (by kernel_rfl) rfl rfl ?_
                    refine wf_v 10 rfl (v_pick (b := false) rfl rfl) gn rfl hns (by kernel_rfl) (by kernel_rfl) rfl rfl ?_
                    refine wf_v 11 rfl (v_move rfl) gn rfl hns (by kernel_rfl) (by kernel_rfl) rfl rfl ?_
                    refine wf_bool 28 rfl ((decide_eq_false hp1324)) ?_
                    refine wf_v 12 rfl (v_move rfl) (gy 28 rfl rfl) rfl hns (by kernel_rfl) (by kernel_rfl) rfl rfl ?_
                    refine wf_v 13 rfl (v_idxO slE_29 rfl rfl (Ow.weak hL28.env.size h35) hb1325) (gy 28 rfl rfl) rfl hns (by kernel_rfl) (by kernel_rfl) rfl rfl ?_
                    refine wf_v 14 rfl (v_fldA fo_24_0 rfl) (gy 28 rfl rfl) rfl hns (by kernel_rfl) (by kernel_rfl) rfl rfl ?_
                    refine wf_v 15 rfl (v_ldO1 (.int .i64 ((ix r30 0).from_)) 0 ld_3 rfl rfl (fm_get hl_api_Range hb1325 rfl)) (gy 28 rfl rfl) rfl hns (by kernel_rfl) (by kernel_rfl) rfl rfl ?_
                    refine wf_v 16 rfl (v_fldB fo_24_0 rfl) (gy 28 rfl rfl) rfl hns (by kernel_rfl) (by kernel_rfl) rfl rfl ?_
                    refine wf_v 17 rfl (v_ldB1 1 ld_3 rfl rfl rfl) (gy 28 rfl rfl) rfl hns (by kernel_rfl) (by kernel_rfl) rfl rfl ?_
                    refine wf_v 18 rfl (v_bin rfl rfl rfl) (gy 28 rfl rfl) rfl hns (by kernel_rfl) (by kernel_rfl) rfl rfl ?_
                    refine wf_v 19 rfl (v_pick (b := false) rfl rfl) gn rfl hns (by kernel_rfl) (by kernel_rfl) rfl rfl ?_
                    refine wf_v 20 rfl (v_move rfl) gn rfl hns (by kernel_rfl) (by kernel_rfl) rfl rfl ?_
                    refine wf_bool 37 rfl ((eqib hp1326)) ?_
                    refine wf_v 21 rfl (v_move rfl) (gy 37 rfl rfl) rfl hns (by kernel_rfl) (by kernel_rfl) rfl rfl ?_
                    refine wf_v 22 rfl (v_idxO slE_29 rfl rfl (Ow.weak hL28.env.size h35) hb1325) (gy 37 rfl rfl) rfl hns (by kernel_rfl) (by kernel_rfl) rfl rfl ?_
                    refine wf_v 23 rfl (v_fldA fo_24_1 rfl) (gy 37 rfl rfl) rfl hns (by kernel_rfl) (by kernel_rfl) rfl rfl ?_
                    refine wf_v 24 rfl (v_ldO1 (.int .i64 ((ix r30 0).to)) 0 ld_3 rfl rfl (fm_get hl_api_Range hb1325 rfl)) (gy 37 rfl rfl) rfl hns (by kernel_rfl) (by kernel_rfl) rfl rfl ?_
                    refine wf_v 25 rfl (v_move rfl) (gy 37 rfl rfl) rfl hns (by kernel_rfl) (by kernel_rfl) rfl rfl ?_
                    refine wf_v 26 rfl (v_idxO slE_29 rfl rfl (Ow.weak hL28.env.size h35) hb1325) (gy 37 rfl rfl) rfl hns (by kernel_rfl) (by kernel_rfl) rfl rfl ?_
                    refine wf_v 27 rfl (v_fldA fo_24_0 rfl) (gy 37 rfl rfl) rfl hns (by kernel_rfl) (by kernel_rfl) rfl rfl ?_
                    refine wf_v 28 rfl (v_ldO1 (.int .i64 ((ix r30 0).from_)) 0 ld_3 rfl rfl (fm_get hl_api_Range hb1325 rfl)) (gy 37 rfl rfl) rfl hns (by kernel_rfl) (by kernel_rfl) rfl rfl ?_
                    refine wf_v 29 rfl (v_bin rfl rfl rfl) (gy 37 rfl rfl) rfl hns (by kernel_rfl) (by kernel_rfl) rfl rfl ?_
                    refine wf_v 30 rfl (v_pick (b := false) rfl rfl) gn rfl hns (by kernel_rfl) (by kernel_rfl) rfl rfl ?_
                    refine wf_v 31 rfl (v_move rfl) gn rfl hns (by kernel_rfl) (by kernel_rfl) rfl rfl ?_
                    refine wf_bool 48 rfl ((decide_eq_false hp1327)) ?_
                    refine wf_v 32 rfl (v_fldB fo_24_1 rfl) (gy 48 rfl rfl) rfl hns (by kernel_rfl) (by kernel_rfl) rfl rfl ?_
                    refine wf_v 33 rfl (v_ldB1 1 ld_3 rfl rfl rfl) (gy 48 rfl rfl) rfl hns (by kernel_rfl) (by kernel_rfl) rfl rfl ?_
                    refine wf_v 34 rfl (v_fldB fo_24_0 rfl) (gy 48 rfl rfl) rfl hns (by kernel_rfl) (by kernel_rfl) rfl rfl ?_
                    refine wf_v 35 rfl (v_ldB1 1 ld_3 rfl rfl rfl) (gy 48 rfl rfl) rfl hns (by kernel_rfl) (by kernel_rfl) rfl rfl ?_
                    refine wf_v 36 rfl (v_bin rfl rfl rfl) (gy 48 rfl rfl) rfl hns (by kernel_rfl) (by kernel_rfl) rfl rfl ?_
                    refine wf_v 37 rfl (v_move rfl) (gy 48 rfl rfl) rfl hns (by kernel_rfl) (by kernel_rfl) rfl rfl ?_
                    refine wf_bool 54 rfl ((decide_eq_true hp1328)) ?_
                    refine wf_v 38 rfl (v_move rfl) (gy 54 rfl rfl) rfl hns (by kernel_rfl) (by kernel_rfl) rfl rfl ?_
                    refine wf_v 39 rfl (v_idxO slE_29 rfl rfl (Ow.weak hL28.env.size h35) hb1325) (gy 54 rfl rfl) rfl hns (by kernel_rfl) (by kernel_rfl) rfl rfl ?_
                    refine wf_v 40 rfl (v_fldA fo_24_1 rfl) (gy 54 rfl rfl) rfl hns (by kernel_rfl) (by kernel_rfl) rfl rfl ?_
                    refine wf_v 41 rfl (v_ldO1 (.int .i64 ((ix r30 0).to)) 0 ld_3 rfl rfl (fm_get hl_api_Range hb1325 rfl)) (gy 54 rfl rfl) rfl hns (by kernel_rfl) (by kernel_rfl) rfl rfl ?_
                    refine wf_v 42 rfl (v_fldB fo_24_1 rfl) (gy 54 rfl rfl) rfl hns (by kernel_rfl) (by kernel_rfl) rfl rfl ?_
                    refine wf_v 43 rfl (v_ldB1 1 ld_3 rfl rfl rfl) (gy 54 rfl rfl) rfl hns (by kernel_rfl) (by kernel_rfl) rfl rfl ?_
                    refine wf_v 44 rfl (v_bin rfl rfl rfl) (gy 54 rfl rfl) rfl hns (by kernel_rfl) (by kernel_rfl) rfl rfl ?_
                    refine wf_v 45 rfl (v_pick (b := true) rfl rfl) (gy 48 rfl rfl) rfl hns (by kernel_rfl) (by kernel_rfl) rfl rfl ?_
                    refine wf_v 46 rfl (v_pick (b := false) rfl rfl) gn rfl hns (by kernel_rfl) (by kernel_rfl) rfl rfl ?_
                    refine wf_v 47 rfl (v_move rfl) gn rfl hns (by kernel_rfl) (by kernel_rfl) rfl rfl ?_
                    refine wf_bool 64 rfl ((eqib hp1329)) ?_
                    refine wf_v 48 rfl (v_fldB fo_24_1 rfl) (gy 64 rfl rfl) rfl hns (by kernel_rfl) (by kernel_rfl) rfl rfl ?_
                    refine wf_v 49 rfl (v_ldB1 1 ld_3 rfl rfl rfl) (gy 64 rfl rfl) rfl hns (by kernel_rfl) (by kernel_rfl) rfl rfl ?_
                    refine wf_v 50 rfl (v_fldB fo_24_0 rfl) (gy 64 rfl rfl) rfl hns (by kernel_rfl) (by kernel_rfl) rfl rfl ?_
                    refine wf_v 51 rfl (v_ldB1 1 ld_3 rfl rfl rfl) (gy 64 rfl rfl) rfl hns (by kernel_rfl) (by kernel_rfl) rfl rfl ?_
                    refine wf_v 52 rfl (v_bin rfl rfl rfl) (gy 64 rfl rfl) rfl hns (by kernel_rfl) (by kernel_rfl) rfl rfl ?_
                    refine wf_v 53 rfl (v_move rfl) (gy 64 rfl rfl) rfl hns (by kernel_rfl) (by kernel_rfl) rfl rfl ?_
                    refine wf_bool 70 rfl ((decide_eq_false hp1330)) ?_
                    refine wf_pass 54 rfl (ps 70 rfl rfl rfl) hns (by kernel_rfl) (by kernel_rfl) rfl rfl ?_
                    refine wf_pass 55 rfl (ps 70 rfl rfl rfl) hns (by kernel_rfl) (by kernel_rfl) rfl rfl ?_
                    refine wf_pass 56 rfl (ps 70 rfl rfl rfl) hns (by kernel_rfl) (by kernel_rfl) rfl rfl ?_
                    refine wf_pass 57 rfl (ps 70 rfl rfl rfl) hns (by kernel_rfl) (by kernel_rfl) rfl rfl ?_
                    refine wf_pass 58 rfl (ps 70 rfl rfl rfl) hns (by kernel_rfl) (by kernel_rfl) rfl rfl ?_
                    refine wf_pass 59 rfl (ps 70 rfl rfl rfl) hns (by kernel_rfl) (by kernel_rfl) rfl rfl ?_
                    refine wf_pass 60 rfl (ps 70 rfl rfl rfl) hns (by kernel_rfl) (by kernel_rfl) rfl rfl ?_
                    refine wf_v 61 rfl (v_pick (b := false) rfl rfl) (gy 64 rfl rfl) rfl hns (by kernel_rfl) (by kernel_rfl) rfl rfl ?_
                    refine wf_v 62 rfl (v_pick (b := false) rfl rfl) gn rfl hns (by kernel_rfl) (by kernel_rfl) rfl rfl ?_
                    refine wf_end (by kernel_rfl) ?_
                    exact g_go [0, 1] (j1 false h) ⟨rfl, rfl, rfl, trivial⟩ (.cons_cons _ (.cons _ (.slnil))) rfl
                · have h := if_neg' hp1329 h
                  have hns : Region.noSelect (Code.ops trellislaw32_ChooseMore_c21) = true := by kernel_rfl
                  refine g_drawF (c := trellislaw32_ChooseMore_c21) [.own (.slice A32 n33 c34) 24 2 n33 (r30.flatMap enc_api_Range), .box gb7 24 [.int .i64 x6.from_, .int .i64 x6.to]] [Sm w.heap.size F w [], St w []] [] 63 rfl rfl mix rfl (.cons_cons _ (.cons_cons _ (.slnil))) (sels [0, 1] rfl) ?_
                  refine wf_v 0 rfl (v_move rfl) gn rfl hns (by kernel_rfl) (by kernel_rfl) rfl rfl ?_
                  refine wf_v 1 rfl (v_lenQ un_29 rfl (Ow.weak hL28.env.size h35).hq) gn rfl hns (by kernel_rfl) (by kernel_rfl) rfl rfl ?_
                  refine wf_v 2 rfl (v_bin rfl rfl rfl) gn rfl hns (by kernel_rfl) (by kernel_rfl) rfl rfl ?_
                  refine wf_v 3 rfl (v_move rfl) gn rfl hns (by kernel_rfl) (by kernel_rfl) rfl rfl ?_
                  refine wf_bool 20 rfl ((nei hp1323)) ?_
                  refine wf_v 4 rfl (v_move rfl) (gy 20 rfl rfl) rfl hns (by kernel_rfl) (by kernel_rfl) rfl rfl ?_
                  refine wf_v 5 rfl (v_lenQ un_29 rfl (Ow.weak hL28.env.size h35).hq) (gy 20 rfl rfl) rfl hns (by kernel_rfl) (by kernel_rfl) rfl rfl ?_
                  refine wf_v 6 rfl (v_move rfl) (gy 20 rfl rfl) rfl hns (by kernel_rfl) (by kernel_rfl) rfl rfl ?_
                  refine wf_v 7 rfl (v_lenQ un_22 rfl h5.hq) (gy 20 rfl rfl) rfl hns (by kernel_rfl) (by kernel_rfl) rfl rfl ?_
                  refine wf_v 8 rfl (v_bin rfl rfl rfl) (gy 20 rfl rfl) rfl hns (by kernel_rfl) (by kernel_rfl) rfl rfl ?_
                  refine wf_v 9 rfl (v_bin rfl rfl rfl) (gy 20 rfl rfl) rfl hns (by kernel_rfl) (by kernel_rfl) rfl rfl ?_
                  refine wf_v 10 rfl (v_pick (b := false) rfl rfl) gn rfl hns (by kernel_rfl) (by kernel_rfl) rfl rfl ?_
                  refine wf_v 11 rfl (v_move rfl) gn rfl hns (by kernel_rfl) (by kernel_rfl) rfl rfl ?_
                  refine wf_bool 28 rfl ((decide_eq_false hp1324)) ?_
                  refine wf_v 12 rfl (v_move rfl) (gy 28 rfl rfl) rfl hns (by kernel_rfl) (by kernel_rfl) rfl rfl ?_
                  refine wf_v 13 rfl (v_idxO slE_29 rfl rfl (Ow.weak hL28.env.size h35) hb1325) (gy 28 rfl rfl) rfl hns (by kernel_rfl) (by kernel_rfl) rfl rfl ?_
                  refine wf_v 14 rfl (v_fldA fo_24_0 rfl) (gy 28 rfl rfl) rfl hns (by kernel_rfl) (by kernel_rfl) rfl rfl ?_
                  refine wf_v 15 rfl (v_ldO1 (.int .i64 ((ix r30 0).from_)) 0 ld_3 rfl rfl (fm_get hl_api_Range hb1325 rfl)) (gy 28 rfl rfl) rfl hns (by kernel_rfl) (by kernel_rfl) rfl rfl ?_
                  refine wf_v 16 rfl (v_fldB fo_24_0 rfl) (gy 28 rfl rfl) rfl hns (by kernel_rfl) (by kernel_rfl) rfl rfl ?_
                  refine wf_v 17 rfl (v_ldB1 1 ld_3 rfl rfl rfl) (gy 28 rfl rfl) rfl hns (by kernel_rfl) (by kernel_rfl) rfl rfl ?_
                  refine wf_v 18 rfl (v_bin rfl rfl rfl) (gy 28 rfl rfl) rfl hns (by kernel_rfl) (by kernel_rfl) rfl rfl ?_
                  refine wf_v 19 rfl (v_pick (b := false) rfl rfl) gn rfl hns (by kernel_rfl) (by kernel_rfl) rfl rfl ?_
                  refine wf_v 20 rfl (v_move rfl) gn rfl hns (by kernel_rfl) (by kernel_rfl) rfl rfl ?_
                  refine wf_bool 37 rfl ((eqib hp1326)) ?_
                  refine wf_v 21 rfl (v_move rfl) (gy 37 rfl rfl) rfl hns (by kernel_rfl) (by kernel_rfl) rfl rfl ?_
                  refine wf_v 22 rfl (v_idxO slE_29 rfl rfl (Ow.weak hL28.env.size h35) hb1325) (gy 37 rfl rfl) rfl hns (by kernel_rfl) (by kernel_rfl) rfl rfl ?_
                  refine wf_v 23 rfl (v_fldA fo_24_1 rfl) (gy 37 rfl rfl) rfl hns (by kernel_rfl) (by kernel_rfl) rfl rfl ?_
                  refine wf_v 24 rfl (v_ldO1 (.int .i64 ((ix r30 0).to)) 0 ld_3 rfl rfl (fm_get hl_api_Range hb1325 rfl)) (gy 37 rfl rfl) rfl hns (by kernel_rfl) (by kernel_rfl) rfl rfl ?_
                  refine wf_v 25 rfl (v_move rfl) (gy 37 rfl rfl) rfl hns (by kernel_rfl) (by kernel_rfl) rfl rfl ?_
                  refine wf_v 26 rfl (v_idxO slE_29 rfl rfl (Ow.weak hL28.env.size h35) hb1325) (gy 37 rfl rfl) rfl hns (by kernel_rfl) (by kernel_rfl) rfl rfl ?_
                  refine wf_v 27 rfl (v_fldA fo_24_0 rfl) (gy 37 rfl rfl) rfl hns (by kernel_rfl) (by kernel_rfl) rfl rfl ?_
                  refine wf_v 28 rfl (v_ldO1 (.int .i64 ((ix r30 0).from_)) 0 ld_3 rfl rfl (fm_get hl_api_Range hb1325 rfl)) (gy 37 rfl rfl) rfl hns (by kernel_rfl) (by kernel_rfl) rfl rfl ?_
                  refine wf_v 29 rfl (v_bin rfl rfl rfl) (gy 37 rfl rfl) rfl hns (by kernel_rfl) (by kernel_rfl) rfl rfl ?_
                  refine wf_v 30 rfl (v_pick (b := false) rfl rfl) gn rfl hns (by kernel_rfl) (by kernel_rfl) rfl rfl ?_
                  refine wf_v 31 rfl (v_move rfl) gn rfl hns (by kernel_rfl) (by kernel_rfl) rfl rfl ?_
                  refine wf_bool 48 rfl ((decide_eq_false hp1327)) ?_
                  refine wf_v 32 rfl (v_fldB fo_24_1 rfl) (gy 48 rfl rfl) rfl hns (by kernel_rfl) (by kernel_rfl) rfl rfl ?_
                  refine wf_v 33 rfl (v_ldB1 1 ld_3 rfl rfl rfl) (gy 48 rfl rfl) rfl hns (by kernel_rfl) (by kernel_rfl) rfl rfl ?_
                  refine wf_v 34 rfl (v_fldB fo_24_0 rfl) (gy 48 rfl rfl) rfl hns (by kernel_rfl) (by kernel_rfl) rfl rfl ?_
                  refine wf_v 35 rfl (v_ldB1 1 ld_3 rfl rfl rfl) (gy 48 rfl rfl) rfl hns (by kernel_rfl) (by kernel_rfl) rfl rfl ?_
                  refine wf_v 36 rfl (v_bin rfl rfl rfl) (gy 48 rfl rfl) rfl hns (by kernel_rfl) (by kernel_rfl) rfl rfl ?_
                  refine wf_v 37 rfl (v_move rfl) (gy 48 rfl rfl) rfl hns (by kernel_rfl) (by kernel_rfl) rfl rfl ?_
                  refine wf_bool 54 rfl ((decide_eq_true hp1328)) ?_
                  refine wf_v 38 rfl (v_move rfl) (gy 54 rfl rfl) rfl hns (by kernel_rfl) (by kernel_rfl) rfl rfl ?_
                  refine wf_v 39 rfl (v_idxO slE_29 rfl rfl (Ow.weak hL28.env.size h35) hb1325) (gy 54 rfl rfl) rfl hns (by kernel_rfl) (by kernel_rfl) rfl rfl ?_
                  refine wf_v 40 rfl (v_fldA fo_24_1 rfl) (gy 54 rfl rfl) rfl hns (by kernel_rfl) (by kernel_rfl) rfl rfl ?_
                  refine wf_v 41 rfl (v_ldO1 (.int .i64 ((ix r30 0).to)) 0 ld_3 rfl rfl (fm_get hl_api_Range hb1325 rfl)) (gy 54 rfl rfl) rfl hns (by kernel_rfl) (by kernel_rfl) rfl rfl ?_
                  refine wf_v 42 rfl (v_fldB fo_24_1 rfl) (gy 54 rfl rfl) rfl hns (by kernel_rfl) (by kernel_rfl) rfl rfl ?_
                  refine wf_v 43 rfl (v_ldB1 1 ld_3 rfl rfl rfl) (gy 54 rfl rfl) rfl hns (by kernel_rfl) (by kernel_rfl) rfl rfl ?_
                  refine wf_v 44 rfl (v_bin rfl rfl rfl) (gy 54 rfl rfl) rfl hns (by kernel_rfl) (by kernel_rfl) rfl rfl ?_
                  refine wf_v 45 rfl (v_pick (b := true) rfl rfl) (gy 48 rfl rfl) rfl hns (by kernel_rfl) (by kernel_rfl) rfl rfl ?_
                  refine wf_v 46 rfl (v_pick (b := false) rfl rfl) gn rfl hns (by kernel_rfl) (by kernel_rfl) rfl rfl ?_
                  refine wf_v 47 rfl (v_move rfl) gn rfl hns (by kernel_rfl) (by kernel_rfl) rfl rfl ?_
                  refine wf_bool 64 rfl ((neib hp1329)) ?_
                  refine wf_pass 48 rfl (ps 64 rfl rfl rfl) hns (by kernel_rfl) (by kernel_rfl) rfl rfl ?_
                  refine wf_pass 49 rfl (ps 64 rfl rfl rfl) hns (by kernel_rfl) (by kernel_rfl) rfl rfl ?_
                  refine wf_pass 50 rfl (ps 64 rfl rfl rfl) hns (by kernel_rfl) (by kernel_rfl) rfl rfl ?_
                  refine wf_pass 51 rfl (ps 64 rfl rfl rfl) hns (by kernel_rfl) (by kernel_rfl) rfl rfl ?_
                  refine wf_pass 52 rfl (ps 64 rfl rfl rfl) hns (by kernel_rfl) (by kernel_rfl) rfl rfl ?_
                  refine wf_pass 53 rfl (ps 64 rfl rfl rfl) hns (by kernel_rfl) (by kernel_rfl) rfl rfl ?_
                  refine wf_pass 54 rfl (pu 70 rfl rfl) hns (by kernel_rfl) (by kernel_rfl) rfl rfl ?_
                  refine wf_pass 55 rfl (pu 70 rfl rfl) hns (by kernel_rfl) (by kernel_rfl) rfl rfl ?_
                  refine wf_pass 56 rfl (pu 70 rfl rfl) hns (by kernel_rfl) (by kernel_rfl) rfl rfl ?_
                  refine wf_pass 57 rfl (pu 70 rfl rfl) hns (by kernel_rfl) (by kernel_rfl) rfl rfl ?_
                  refine wf_pass 58 rfl (pu 70 rfl rfl) hns (by kernel_rfl) (by kernel_rfl) rfl rfl ?_
                  refine wf_pass 59 rfl (pu 70 rfl rfl) hns (by kernel_rfl) (by kernel_rfl) rfl rfl ?_
                  refine wf_pass 60 rfl (pu 70 rfl rfl) hns (by kernel_rfl) (by kernel_rfl) rfl rfl ?_
                  refine wf_pass 61 rfl (ps 64 rfl rfl rfl) hns (by kernel_rfl) (by kernel_rfl) rfl rfl ?_
                  refine wf_v 62 rfl (v_pick (b := true) rfl rfl) gn rfl hns (by kernel_rfl) (by kernel_rfl) rfl rfl ?_
                  refine wf_end (by kernel_rfl) ?_
                  exact g_go [0, 1] (j1 true h) ⟨rfl, rfl, rfl, trivial⟩ (.cons_cons _ (.cons _ (.slnil))) rfl
              · have h := if_neg' hp1328 h
                by_cases hp1331 : x6.to < x6.from_
                · have h := if_pos' hp1331 h
                  have hns : Region.noSelect (Code.ops trellislaw32_ChooseMore_c21) = true := by kernel_rfl
                  refine g_drawF (c := trellislaw32_ChooseMore_c21) [.own (.slice A32 n33 c34) 24 2 n33 (r30.flatMap enc_api_Range), .box gb7 24 [.int .i64 x6.from_, .int .i64 x6.to]] [Sm w.heap.size F w [], St w []] [] 63 rfl rfl mix rfl (.cons_cons _ (.cons_cons _ (.slnil))) (sels [0, 1] rfl) ?_
                  refine wf_v 0 rfl (v_move rfl) gn rfl hns (by kernel_rfl) (by kernel_rfl) rfl rfl ?_
                  refine wf_v 1 rfl (v_lenQ un_29 rfl (Ow.weak hL28.env.size h35).hq) gn rfl hns (by kernel_rfl) (by kernel_rfl) rfl rfl ?_
                  refine wf_v 2 rfl (v_bin rfl rfl rfl) gn rfl hns (by kernel_rfl) (by kernel_rfl) rfl rfl ?_
                  refine wf_v 3 rfl (v_move rfl) gn rfl hns (by kernel_rfl) (by kernel_rfl) rfl rfl ?_
                  refine wf_bool 20 rfl ((nei hp1323)) ?_
                  refine wf_v 4 rfl (v_move rfl) (gy 20 rfl rfl) rfl hns (by kernel_rfl) (by kernel_rfl) rfl rfl ?_
                  refine wf_v 5 rfl (v_lenQ un_29 rfl (Ow.weak hL28.env.size h35).hq) (gy 20 rfl rfl) rfl hns (by kernel_rfl) (by kernel_rfl) rfl rfl ?_
                  refine wf_v 6 rfl (v_move rfl) (gy 20 rfl rfl) rfl hns (by kernel_rfl) (by kernel_rfl) rfl rfl ?_
                  refine wf_v 7 rfl (v_lenQ un_22 rfl h5.hq) (gy 20 rfl rfl) rfl hns (by kernel_rfl) (by kernel_rfl) rfl rfl ?_
                  refine wf_v 8 rfl (v_bin rfl rfl rfl) (gy 20 rfl rfl) rfl hns (by kernel_rfl) (by kernel_rfl) rfl rfl ?_
                  refine wf_v 9 rfl (v_bin rfl rfl rfl) (gy 20 rfl rfl) rfl hns (by kernel_rfl) (by kernel_rfl) rfl rfl ?_
                  refine wf_v 10 rfl (v_pick (b := false) rfl rfl) gn rfl hns (by kernel_rfl) (by kernel_rfl) rfl rfl ?_
                  refine wf_v 11 rfl (v_move rfl) gn rfl hns (by kernel_rfl) (by kernel_rfl) rfl rfl ?_
                  refine wf_bool 28 rfl ((decide_eq_false hp1324)) ?_
                  refine wf_v 12 rfl (v_move rfl) (gy 28 rfl rfl) rfl hns (by kernel_rfl) (by kernel_rfl) rfl rfl ?_
                  refine wf_v 13 rfl (v_idxO slE_29 rfl rfl (Ow.weak hL28.env.size h35) hb1325) (gy 28 rfl rfl) rfl hns (by kernel_rfl) (by kernel_rfl) rfl rfl ?_
                  refine wf_v 14 rfl (v_fldA fo_24_0 rfl) (gy 28 rfl rfl) rfl hns (by kernel_rfl) (by kernel_rfl) rfl rfl ?_
                  refine wf_v 15 rfl (v_ldO1 (.int .i64 ((ix r30 0).from_)) 0 ld_3 rfl rfl (fm_get hl_api_Range hb1325 rfl)) (gy 28 rfl rfl) rfl hns (by kernel_rfl) (by kernel_rfl) rfl rfl ?_
                  refine wf_v 16 rfl (v_fldB fo_24_0 rfl) (gy 28 rfl rfl) rfl hns (by kernel_rfl) (by kernel_rfl) rfl rfl ?_
                  refine wf_v 17 rfl (v_ldB1 1 ld_3 rfl rfl rfl) (gy 28 rfl rfl) rfl hns (by kernel_rfl) (by kernel_rfl) rfl rfl ?_
                  refine wf_v 18 rfl (v_bin rfl rfl rfl) (gy 28 rfl rfl) rfl hns (by kernel_rfl) (by kernel_rfl) rfl rfl ?_
                  refine wf_v 19 rfl (v_pick (b := false) rfl rfl) gn rfl hns (by kernel_rfl) (by kernel_rfl) rfl rfl ?_
                  refine wf_v 20 rfl (v_move rfl) gn rfl hns (by kernel_rfl) (by kernel_rfl) rfl rfl ?_
                  refine wf_bool 37 rfl ((eqib hp1326)) ?_
                  refine wf_v 21 rfl (v_move rfl) (gy 37 rfl rfl) rfl hns (by kernel_rfl) (by kernel_rfl) rfl rfl ?_
                  refine wf_v 22 rfl (v_idxO slE_29 rfl rfl (Ow.weak hL28.env.size h35) hb1325) (gy 37 rfl rfl) rfl hns (by kernel_rfl) (by kernel_rfl) rfl rfl ?_
                  refine wf_v 23 rfl (v_fldA fo_24_1 rfl) (gy 37 rfl rfl) rfl hns (by kernel_rfl) (by kernel_rfl) rfl rfl ?_
                  refine wf_v 24 rfl (v_ldO1 (.int .i64 ((ix r30 0).to)) 0 ld_3 rfl rfl (fm_get hl_api_Range hb1325 rfl)) (gy 37 rfl rfl) rfl hns (by kernel_rfl) (by kernel_rfl) rfl rfl ?_
                  refine wf_v 25 rfl (v_move rfl) (gy 37 rfl rfl) rfl hns (by kernel_rfl) (by kernel_rfl) rfl rfl ?_
                  refine wf_v 26 rfl (v_idxO slE_29 rfl rfl (Ow.weak hL28.env.size h35) hb1325) (gy 37 rfl rfl) rfl hns (by kernel_rfl) (by kernel_rfl) rfl rfl ?_
                  refine wf_v 27 rfl (v_fldA fo_24_0 rfl) (gy 37 rfl rfl) rfl hns (by kernel_rfl) (by kernel_rfl) rfl rfl ?_
                  refine wf_v 28 rfl (v_ldO1 (.int .i64 ((ix r30 0).from_)) 0 ld_3 rfl rfl (fm_get hl_api_Range hb1325 rfl)) (gy 37 rfl rfl) rfl hns (by kernel_rfl) (by kernel_rfl) rfl rfl ?_
                  refine wf_v 29 rfl (v_bin rfl rfl rfl) (gy 37 rfl rfl) rfl hns (by kernel_rfl) (by kernel_rfl) rfl rfl ?_
                  refine wf_v 30 rfl (v_pick (b := false) rfl rfl) gn rfl hns (by kernel_rfl) (by kernel_rfl) rfl rfl ?_
                  refine wf_v 31 rfl (v_move rfl) gn rfl hns (by kernel_rfl) (by kernel_rfl) rfl rfl ?_
                  refine wf_bool 48 rfl ((decide_eq_false hp1327)) ?_
                  refine wf_v 32 rfl (v_fldB fo_24_1 rfl) (gy 48 rfl rfl) rfl hns (by kernel_rfl) (by kernel_rfl) rfl rfl ?_
                  refine wf_v 33 rfl (v_ldB1 1 ld_3 rfl rfl rfl) (gy 48 rfl rfl) rfl hns (by kernel_rfl) (by kernel_rfl) rfl rfl ?_
                  refine wf_v 34 rfl (v_fldB fo_24_0 rfl) (gy 48 rfl rfl) rfl hns (by kernel_rfl) (by kernel_rfl) rfl rfl ?_
                  refine wf_v 35 rfl (v_ldB1 1 ld_3 rfl rfl rfl) (gy 48 rfl rfl) rfl hns (by kernel_rfl) (by kernel_rfl) rfl rfl ?_
                  refine wf_v 36 rfl (v_bin rfl rfl rfl) (gy 48 rfl rfl) rfl hns (by kernel_rfl) (by kernel_rfl) rfl rfl ?_
                  refine wf_v 37 rfl (v_move rfl) (gy 48 rfl rfl) rfl hns (by kernel_rfl) (by kernel_rfl) rfl rfl ?_
                  refine wf_bool 54 rfl ((decide_eq_false hp1328)) ?_
                  refine wf_pass 38 rfl (ps 54 rfl rfl rfl) hns (by kernel_rfl) (by kernel_rfl) rfl rfl ?_
                  refine wf_pass 39 rfl (ps 54 rfl rfl rfl) hns (by kernel_rfl) (by kernel_rfl) rfl rfl ?_
                  refine wf_pass 40 rfl (ps 54 rfl rfl rfl) hns (by kernel_rfl) (by kernel_rfl) rfl rfl ?_
                  refine wf_pass 41 rfl (ps 54 rfl rfl rfl) hns (by kernel_rfl) (by kernel_rfl) rfl rfl ?_
                  refine wf_pass 42 rfl (ps 54 rfl rfl rfl) hns (by kernel_rfl) (by kernel_rfl) rfl rfl ?_
                  refine wf_pass 43 rfl (ps 54 rfl rfl rfl) hns (by kernel_rfl) (by kernel_rfl) rfl rfl ?_
                  refine wf_pass 44 rfl (ps 54 rfl rfl rfl) hns (by kernel_rfl) (by kernel_rfl) rfl rfl ?_
                  refine wf_v 45 rfl (v_pick (b := false) rfl rfl) (gy 48 rfl rfl) rfl hns (by kernel_rfl) (by kernel_rfl) rfl rfl ?_
                  refine wf_v 46 rfl (v_pick (b := false) rfl rfl) gn rfl hns (by kernel_rfl) (by kernel_rfl) rfl rfl ?_
                  refine wf_v 47 rfl (v_move rfl) gn rfl hns (by kernel_rfl) (by kernel_rfl) rfl rfl ?_
                  refine wf_v 48 rfl (v_fldB fo_24_1 rfl) (gy 64 rfl rfl) rfl hns (by kernel_rfl) (by kernel_rfl) rfl rfl ?_
                  refine wf_v 49 rfl (v_ldB1 1 ld_3 rfl rfl rfl) (gy 64 rfl rfl) rfl hns (by kernel_rfl) (by kernel_rfl) rfl rfl ?_
                  refine wf_v 50 rfl (v_fldB fo_24_0 rfl) (gy 64 rfl rfl) rfl hns (by kernel_rfl) (by kernel_rfl) rfl rfl ?_
                  refine wf_v 51 rfl (v_ldB1 1 ld_3 rfl rfl rfl) (gy 64 rfl rfl) rfl hns (by kernel_rfl) (by kernel_rfl) rfl rfl ?_
                  refine wf_v 52 rfl (v_bin rfl rfl rfl) (gy 64 rfl rfl) rfl hns (by kernel_rfl) (by kernel_rfl) rfl rfl ?_
                  refine wf_v 53 rfl (v_move rfl) (gy 64 rfl rfl) rfl hns (by kernel_rfl) (by kernel_rfl) rfl rfl ?_
                  refine wf_bool 70 rfl ((decide_eq_true hp1331)) ?_
                  refine wf_v 54 rfl (v_move rfl) (gy 70 rfl rfl) rfl hns (by kernel_rfl) (by kernel_rfl) rfl rfl ?_
                  refine wf_v 55 rfl (v_idxO slE_29 rfl rfl (Ow.weak hL28.env.size h35) hb1325) (gy 70 rfl rfl) rfl hns (by kernel_rfl) (by kernel_rfl) rfl rfl ?_
                  refine wf_v 56 rfl (v_fldA fo_24_1 rfl) (gy 70 rfl rfl) rfl hns (by kernel_rfl) (by kernel_rfl) rfl rfl ?_
                  refine wf_v 57 rfl (v_ldO1 (.int .i64 ((ix r30 0).to)) 0 ld_3 rfl rfl (fm_get hl_api_Range hb1325 rfl)) (gy 70 rfl rfl) rfl hns (by kernel_rfl) (by kernel_rfl) rfl rfl ?_
                  refine wf_v 58 rfl (v_fldB fo_24_0 rfl) (gy 70 rfl rfl) rfl hns (by kernel_rfl) (by kernel_rfl) rfl rfl ?_
                  refine wf_v 59 rfl (v_ldB1 1 ld_3 rfl rfl rfl) (gy 70 rfl rfl) rfl hns (by kernel_rfl) (by kernel_rfl) rfl rfl ?_
                  refine wf_v 60 rfl (v_bin rfl rfl rfl) (gy 70 rfl rfl) rfl hns (by kernel_rfl) (by kernel_rfl) rfl rfl ?_
                  refine wf_v 61 rfl (v_pick (b := true) rfl rfl) (gy 64 rfl rfl) rfl hns (by kernel_rfl) (by kernel_rfl) rfl rfl ?_
                  refine wf_v 62 rfl (v_pick (b := false) rfl rfl) gn rfl hns (by kernel_rfl) (by kernel_rfl) rfl rfl ?_
                  refine wf_end (by kernel_rfl) ?_
                  exact g_go [0, 1] (j1 (((ix r30 0).to) != x6.from_) h) ⟨rfl, rfl, rfl, trivial⟩ (.cons_cons _ (.cons _ (.slnil))) rfl
                · have h := if_neg' hp1331 h
                  have hns : Region.noSelect (Code.ops trellislaw32_ChooseMore_c21) = true := by kernel_rfl
                  refine g_drawF (c := trellislaw32_ChooseMore_c21) [.own (.slice A32 n33 c34) 24 2 n33 (r30.flatMap enc_api_Range), .box gb7 24 [.int .i64 x6.from_, .int .i64 x6.to]] [Sm w.heap.size F w [], St w []] [] 63 rfl rfl mix rfl (.cons_cons _ (.cons_cons _ (.slnil))) (sels [0, 1] rfl) ?_
                  refine wf_v 0 rfl (v_move rfl) gn rfl hns (by kernel_rfl) (by kernel_rfl) rfl rfl ?_
                  refine wf_v 1 rfl (v_lenQ un_29 rfl (Ow.weak hL28.env.size h35).hq) gn rfl hns (by kernel_rfl) (by kernel_rfl) rfl rfl ?_
                  refine wf_v 2 rfl (v_bin rfl rfl rfl) gn rfl hns (by kernel_rfl) (by kernel_rfl) rfl rfl ?_
                  refine wf_v 3 rfl (v_move rfl) gn rfl hns (by kernel_rfl) (by kernel_rfl) rfl rfl ?_
                  refine wf_bool 20 rfl ((nei hp1323)) ?_
                  refine wf_v 4 rfl (v_move rfl) (gy 20 rfl rfl) rfl hns (by kernel_rfl) (by kernel_rfl) rfl rfl ?_
                  refine wf_v 5 rfl (v_lenQ un_29 rfl (Ow.weak hL28.env.size h35).hq) (gy 20 rfl rfl) rfl hns (by kernel_rfl) (by kernel_rfl) rfl rfl ?_
                  refine wf_v 6 rfl (v_move rfl) (gy 20 rfl rfl) rfl hns (by kernel_rfl) (by kernel_rfl) rfl rfl ?_
                  refine wf_v 7 rfl (v_lenQ un_22 rfl h5.hq) (gy 20 rfl rfl) rfl hns (by kernel_rfl) (by kernel_rfl) rfl rfl ?_
                  refine wf_v 8 rfl (v_bin rfl rfl rfl) (gy 20 rfl rfl) rfl hns (by kernel_rfl) (by kernel_rfl) rfl rfl ?_
                  refine wf_v 9 rfl (v_bin rfl rfl rfl) (gy 20 rfl rfl) rfl hns (by kernel_rfl) (by kernel_rfl) rfl rfl ?_
                  refine wf_v 10 rfl (v_pick (b := false) rfl rfl) gn rfl hns (by kernel_rfl) (by kernel_rfl) rfl rfl ?_
                  refine wf_v 11 rfl (v_move rfl) gn rfl hns (by kernel_rfl) (by kernel_rfl) rfl rfl ?_
                  refine wf_bool 28 rfl ((decide_eq_false hp1324)) ?_
                  refine wf_v 12 rfl (v_move rfl) (gy 28 rfl rfl) rfl hns (by kernel_rfl) (by kernel_rfl) rfl rfl ?_
                  refine wf_v 13 rfl (v_idxO slE_29 rfl rfl (Ow.weak hL28.env.size h35) hb1325) (gy 28 rfl rfl) rfl hns (by kernel_rfl) (by kernel_rfl) rfl rfl ?_
                  refine wf_v 14 rfl (v_fldA fo_24_0 rfl) (gy 28 rfl rfl) rfl hns (by kernel_rfl) (by kernel_rfl) rfl rfl ?_
                  refine wf_v 15 rfl (v_ldO1 (.int .i64 ((ix r30 0).from_)) 0 ld_3 rfl rfl (fm_get hl_api_Range hb1325 rfl)) (gy 28 rfl rfl) rfl hns (by kernel_rfl) (by kernel_rfl) rfl rfl ?_
                  refine wf_v 16 rfl (v_fldB fo_24_0 rfl) (gy 28 rfl rfl) rfl hns (by kernel_rfl) (by kernel_rfl) rfl rfl ?_
                  refine wf_v 17 rfl (v_ldB1 1 ld_3 rfl rfl rfl) (gy 28 rfl rfl) rfl hns (by kernel_rfl) (by kernel_rfl) rfl rfl ?_
                  refine wf_v 18 rfl (v_bin rfl rfl rfl) (gy 28 rfl rfl) rfl hns (by kernel_rfl) (by kernel_rfl) rfl rfl ?_
                  refine wf_v 19 rfl (v_pick (b := false) rfl rfl) gn rfl hns (by kernel_rfl) (by kernel_rfl) rfl rfl ?_
                  refine wf_v 20 rfl (v_move rfl) gn rfl hns (by kernel_rfl) (by kernel_rfl) rfl rfl ?_
                  refine wf_bool 37 rfl ((eqib hp1326)) ?_
                  refine wf_v 21 rfl (v_move rfl) (gy 37 rfl rfl) rfl hns (by kernel_rfl) (by kernel_rfl) rfl rfl ?_
                  refine wf_v 22 rfl (v_idxO slE_29 rfl rfl (Ow.weak hL28.env.size h35) hb1325) (gy 37 rfl rfl) rfl hns (by kernel_rfl) (by kernel_rfl) rfl rfl ?_
                  refine wf_v 23 rfl (v_fldA fo_24_1 rfl) (gy 37 rfl rfl) rfl hns (by kernel_rfl) (by kernel_rfl) rfl rfl ?_
                  refine wf_v 24 rfl (v_ldO1 (.int .i64 ((ix r30 0).to)) 0 ld_3 rfl rfl (fm_get hl_api_Range hb1325 rfl)) (gy 37 rfl rfl) rfl hns (by kernel_rfl) (by kernel_rfl) rfl rfl ?_
                  refine wf_v 25 rfl (v_move rfl) (gy 37 rfl rfl) rfl hns (by kernel_rfl) (by kernel_rfl) rfl rfl ?_
                  refine wf_v 26 rfl (v_idxO slE_29 rfl rfl (Ow.weak hL28.env.size h35) hb1325) (gy 37 rfl rfl) rfl hns (by kernel_rfl) (by kernel_rfl) rfl rfl ?_
                  refine wf_v 27 rfl (v_fldA fo_24_0 rfl) (gy 37 rfl rfl) rfl hns (by kernel_rfl) (by kernel_rfl) rfl rfl ?_
                  refine wf_v 28 rfl (v_ldO1 (.int .i64 ((ix r30 0).from_)) 0 ld_3 rfl rfl (fm_get hl_api_Range hb1325 rfl)) (gy 37 rfl rfl) rfl hns (by kernel_rfl) (by kernel_rfl) rfl rfl ?_
                  refine wf_v 29 rfl (v_bin rfl rfl rfl) (gy 37 rfl rfl) rfl hns (by kernel_rfl) (by kernel_rfl) rfl rfl ?_
                  refine wf_v 30 rfl (v_pick (b := false) rfl rfl) gn rfl hns (by kernel_rfl) (by kernel_rfl) rfl rfl ?_
                  refine wf_v 31 rfl (v_move rfl) gn rfl hns (by kernel_rfl) (by kernel_rfl) rfl rfl ?_
                  refine wf_bool 48 rfl ((decide_eq_false hp1327)) ?_
                  refine wf_v 32 rfl (v_fldB fo_24_1 rfl) (gy 48 rfl rfl) rfl hns (by kernel_rfl) (by kernel_rfl) rfl rfl ?_
                  refine wf_v 33 rfl (v_ldB1 1 ld_3 rfl rfl rfl) (gy 48 rfl rfl) rfl hns (by kernel_rfl) (by kernel_rfl) rfl rfl ?_
                  refine wf_v 34 rfl (v_fldB fo_24_0 rfl) (gy 48 rfl rfl) rfl hns (by kernel_rfl) (by kernel_rfl) rfl rfl ?_
                  refine wf_v 35 rfl (v_ldB1 1 ld_3 rfl rfl rfl) (gy 48 rfl rfl) rfl hns (by kernel_rfl) (by kernel_rfl) rfl rfl ?_
                  refine wf_v 36 rfl (v_bin rfl rfl rfl) (gy 48 rfl rfl) rfl hns (by kernel_rfl) (by kernel_rfl) rfl rfl ?_
                  refine wf_v 37 rfl (v_move rfl) (gy 48 rfl rfl) rfl hns (by kernel_rfl) (by kernel_rfl) rfl rfl ?_
                  refine wf_bool 54 rfl ((decide_eq_false hp1328)) ?_
                  refine wf_pass 38 rfl (ps 54 rfl rfl rfl) hns (by kernel_rfl) (by kernel_rfl) rfl rfl ?_
                  refine wf_pass 39 rfl (ps 54 rfl rfl rfl) hns (by kernel_rfl) (by kernel_rfl) rfl rfl ?_
                  refine wf_pass 40 rfl (ps 54 rfl rfl rfl) hns (by kernel_rfl) (by kernel_rfl) rfl rfl ?_
                  refine wf_pass 41 rfl (ps 54 rfl rfl rfl) hns (by kernel_rfl) (by kernel_rfl) rfl rfl ?_
                  refine wf_pass 42 rfl (ps 54 rfl rfl rfl) hns (by kernel_rfl) (by kernel_rfl) rfl rfl ?_
                  refine wf_pass 43 rfl (ps 54 rfl rfl rfl) hns (by kernel_rfl) (by kernel_rfl) rfl rfl ?_
                  refine wf_pass 44 rfl (ps 54 rfl rfl rfl) hns (by kernel_rfl) (by kernel_rfl) rfl rfl ?_
                  refine wf_v 45 rfl (v_pick (b := false) rfl rfl) (gy 48 rfl rfl) rfl hns (by kernel_rfl) (by kernel_rfl) rfl rfl ?_
                  refine wf_v 46 rfl (v_pick (b := false) rfl rfl) gn rfl hns (by kernel_rfl) (by kernel_rfl) rfl rfl ?_
                  refine wf_v 47 rfl (v_move rfl) gn rfl hns (by kernel_rfl) (by kernel_rfl) rfl rfl ?_
                  refine wf_v 48 rfl (v_fldB fo_24_1 rfl) (gy 64 rfl rfl) rfl hns (by kernel_rfl) (by kernel_rfl) rfl rfl ?_
                  refine wf_v 49 rfl (v_ldB1 1 ld_3 rfl rfl rfl) (gy 64 rfl rfl) rfl hns (by kernel_rfl) (by kernel_rfl) rfl rfl ?_
                  refine wf_v 50 rfl (v_fldB fo_24_0 rfl) (gy 64 rfl rfl) rfl hns (by kernel_rfl) (by kernel_rfl) rfl rfl ?_
                  refine wf_v 51 rfl (v_ldB1 1 ld_3 rfl rfl rfl) (gy 64 rfl rfl) rfl hns (by kernel_rfl) (by kernel_rfl) rfl rfl ?_
                  refine wf_v 52 rfl (v_bin rfl rfl rfl) (gy 64 rfl rfl) rfl hns (by kernel_rfl) (by kernel_rfl) rfl rfl ?_
                  refine wf_v 53 rfl (v_move rfl) (gy 64 rfl rfl) rfl hns (by kernel_rfl) (by kernel_rfl) rfl rfl ?_
                  refine wf_bool 70 rfl ((decide_eq_false hp1331)) ?_
                  refine wf_pass 54 rfl (ps 70 rfl rfl rfl) hns (by kernel_rfl) (by kernel_rfl) rfl rfl ?_
                  refine wf_pass 55 rfl (ps 70 rfl rfl rfl) hns (by kernel_rfl) (by kernel_rfl) rfl rfl ?_
                  refine wf_pass 56 rfl (ps 70 rfl rfl rfl) hns (by kernel_rfl) (by kernel_rfl) rfl rfl ?_
                  refine wf_pass 57 rfl (ps 70 rfl rfl rfl) hns (by kernel_rfl) (by kernel_rfl) rfl rfl ?_
                  refine wf_pass 58 rfl (ps 70 rfl rfl rfl) hns (by kernel_rfl) (by kernel_rfl) rfl rfl ?_
                  refine wf_pass 59 rfl (ps 70 rfl rfl rfl) hns (by kernel_rfl) (by kernel_rfl) rfl rfl ?_
                  refine wf_pass 60 rfl (ps 70 rfl rfl rfl) hns (by kernel_rfl) (by kernel_rfl) rfl rfl ?_
                  refine wf_v 61 rfl (v_pick (b := false) rfl rfl) (gy 64 rfl rfl) rfl hns (by kernel_rfl) (by kernel_rfl) rfl rfl ?_
                  refine wf_v 62 rfl (v_pick (b := false) rfl rfl) gn rfl hns (by kernel_rfl) (by kernel_rfl) rfl rfl ?_
                  refine wf_end (by kernel_rfl) ?_
                  exact g_go [0, 1] (j1 false h) ⟨rfl, rfl, rfl, trivial⟩ (.cons_cons _ (.cons _ (.slnil))) rfl
          · have h := if_neg' hp1326 h
            have hns : Region.noSelect (Code.ops trellislaw32_ChooseMore_c21) = true := by kernel_rfl
            refine g_drawF (c := trellislaw32_ChooseMore_c21) [.own (.slice A32 n33 c34) 24 2 n33 (r30.flatMap enc_api_Range), .box gb7 24 [.int .i64 x6.from_, .int .i64 x6.to]] [Sm w.heap.size F w [], St w []] [] 63 rfl rfl mix rfl (.cons_cons _ (.cons_cons _ (.slnil))) (sels [0, 1] rfl) ?_
            refine wf_v 0 rfl (v_move rfl) gn rfl hns (by kernel_rfl) (by kernel_rfl) rfl rfl ?_
            refine wf_v 1 rfl (v_lenQ un_29 rfl (Ow.weak hL28.env.size h35).hq) gn rfl hns (by kernel_rfl) (by kernel_rfl) rfl rfl ?_
            refine wf_v 2 rfl (v_bin rfl rfl rfl) gn rfl hns (by kernel_rfl) (by kernel_rfl) rfl rfl ?_
            refine wf_v 3 rfl (v_move rfl) gn rfl hns (by kernel_rfl) (by kernel_rfl) rfl rfl ?_
            refine wf_bool 20 rfl ((nei hp1323)) ?_
            refine wf_v 4 rfl (v_move rfl) (gy 20 rfl rfl) rfl hns (by kernel_rfl) (by kernel_rfl) rfl rfl ?_
            refine wf_v 5 rfl (v_lenQ un_29 rfl (Ow.weak hL28.env.size h35).hq) (gy 20 rfl rfl) rfl hns (by kernel_rfl) (by kernel_rfl) rfl rfl ?_
            refine wf_v 6 rfl (v_move rfl) (gy 20 rfl rfl) rfl hns (by kernel_rfl) (by kernel_rfl) rfl rfl ?_
            refine wf_v 7 rfl (v_lenQ un_22 rfl h5.hq) (gy 20 rfl rfl) rfl hns (by kernel_rfl) (by kernel_rfl) rfl rfl ?_
            refine wf_v 8 rfl (v_bin rfl rfl rfl) (gy 20 rfl rfl) rfl hns (by kernel_rfl) (by kernel_rfl) rfl rfl ?_
            refine wf_v 9 rfl (v_bin rfl rfl rfl) (gy 20 rfl rfl) rfl hns (by kernel_rfl) (by kernel_rfl) rfl rfl ?_
            refine wf_v 10 rfl (v_pick (b := false) rfl rfl) gn rfl hns (by kernel_rfl) (by kernel_rfl) rfl rfl ?_
            refine wf_v 11 rfl (v_move rfl) gn rfl hns (by kernel_rfl) (by kernel_rfl) rfl rfl ?_
            refine wf_bool 28 rfl ((decide_eq_false hp1324)) ?_
            refine wf_v 12 rfl (v_move rfl) (gy 28 rfl rfl) rfl hns (by kernel_rfl) (by kernel_rfl) rfl rfl ?_
            refine wf_v 13 rfl (v_idxO slE_29 rfl rfl (Ow.weak hL28.env.size h35) hb1325) (gy 28 rfl rfl) rfl hns (by kernel_rfl) (by kernel_rfl) rfl rfl ?_
            refine wf_v 14 rfl (v_fldA fo_24_0 rfl) (gy 28 rfl rfl) rfl hns (by kernel_rfl) (by kernel_rfl) rfl rfl ?_
            refine wf_v 15 rfl (v_ldO1 (.int .i64 ((ix r30 0).from_)) 0 ld_3 rfl rfl (fm_get hl_api_Range hb1325 rfl)) (gy 28 rfl rfl) rfl hns (by kernel_rfl) (by kernel_rfl) rfl rfl ?_
            refine wf_v 16 rfl (v_fldB fo_24_0 rfl) (gy 28 rfl rfl) rfl hns (by kernel_rfl) (by kernel_rfl) rfl rfl ?_
            refine wf_v 17 rfl (v_ldB1 1 ld_3 rfl rfl rfl) (gy 28 rfl rfl) rfl hns (by kernel_rfl) (by kernel_rfl) rfl rfl ?_
            refine wf_v 18 rfl (v_bin rfl rfl rfl) (gy 28 rfl rfl) rfl hns (by kernel_rfl) (by kernel_rfl) rfl rfl ?_
            refine wf_v 19 rfl (v_pick (b := false) rfl rfl) gn rfl hns (by kernel_rfl) (by kernel_rfl) rfl rfl ?_
            refine wf_v 20 rfl (v_move rfl) gn rfl hns (by kernel_rfl) (by kernel_rfl) rfl rfl ?_
            refine wf_bool 37 rfl ((neib hp1326)) ?_
            refine wf_pass 21 rfl (ps 37 rfl rfl rfl) hns (by kernel_rfl) (by kernel_rfl) rfl rfl ?_
            refine wf_pass 22 rfl (ps 37 rfl rfl rfl) hns (by kernel_rfl) (by kernel_rfl) rfl rfl ?_
            refine wf_pass 23 rfl (ps 37 rfl rfl rfl) hns (by kernel_rfl) (by kernel_rfl) rfl rfl ?_
            refine wf_pass 24 rfl (ps 37 rfl rfl rfl) hns (by kernel_rfl) (by kernel_rfl) rfl rfl ?_
            refine wf_pass 25 rfl (ps 37 rfl rfl rfl) hns (by kernel_rfl) (by kernel_rfl) rfl rfl ?_
            refine wf_pass 26 rfl (ps 37 rfl rfl rfl) hns (by kernel_rfl) (by kernel_rfl) rfl rfl ?_
            refine wf_pass 27 rfl (ps 37 rfl rfl rfl) hns (by kernel_rfl) (by kernel_rfl) rfl rfl ?_
            refine wf_pass 28 rfl (ps 37 rfl rfl rfl) hns (by kernel_rfl) (by kernel_rfl) rfl rfl ?_
            refine wf_pass 29 rfl (ps 37 rfl rfl rfl) hns (by kernel_rfl) (by kernel_rfl) rfl rfl ?_
            refine wf_v 30 rfl (v_pick (b := true) rfl rfl) gn rfl hns (by kernel_rfl) (by kernel_rfl) rfl rfl ?_
            refine wf_v 31 rfl (v_move rfl) gn rfl hns (by kernel_rfl) (by kernel_rfl) rfl rfl ?_
            refine wf_pass 32 rfl (ps 48 rfl rfl rfl) hns (by kernel_rfl) (by kernel_rfl) rfl rfl ?_
            refine wf_pass 33 rfl (ps 48 rfl rfl rfl) hns (by kernel_rfl) (by kernel_rfl) rfl rfl ?_
            refine wf_pass 34 rfl (ps 48 rfl rfl rfl) hns (by kernel_rfl) (by kernel_rfl) rfl rfl ?_
            refine wf_pass 35 rfl (ps 48 rfl rfl rfl) hns (by kernel_rfl) (by kernel_rfl) rfl rfl ?_
            refine wf_pass 36 rfl (ps 48 rfl rfl rfl) hns (by kernel_rfl) (by kernel_rfl) rfl rfl ?_
            refine wf_pass 37 rfl (ps 48 rfl rfl rfl) hns (by kernel_rfl) (by kernel_rfl) rfl rfl ?_
            refine wf_pass 38 rfl (pu 54 rfl rfl) hns (by kernel_rfl) (by kernel_rfl) rfl rfl ?_
            refine wf_pass 39 rfl (pu 54 rfl rfl) hns (by kernel_rfl) (by kernel_rfl) rfl rfl ?_
            refine wf_pass 40 rfl (pu 54 rfl rfl) hns (by kernel_rfl) (by kernel_rfl) rfl rfl ?_
            refine wf_pass 41 rfl (pu 54 rfl rfl) hns (by kernel_rfl) (by kernel_rfl) rfl rfl ?_
            refine wf_pass 42 rfl (pu 54 rfl rfl) hns (by kernel_rfl) (by kernel_rfl) rfl rfl ?_
            refine wf_pass 43 rfl (pu 54 rfl rfl) hns (by kernel_rfl) (by kernel_rfl) rfl rfl ?_
            refine wf_pass 44 rfl (pu 54 rfl rfl) hns (by kernel_rfl) (by kernel_rfl) rfl rfl ?_
            refine wf_pass 45 rfl (ps 48 rfl rfl rfl) hns (by kernel_rfl) (by kernel_rfl) rfl rfl ?_
            refine wf_v 46 rfl (v_pick (b := true) rfl rfl) gn rfl hns (by kernel_rfl) (by kernel_rfl) rfl rfl ?_
            refine wf_v 47 rfl (v_move rfl) gn rfl hns (by kernel_rfl) (by kernel_rfl) rfl rfl ?_
            refine wf_pass 48 rfl (ps 64 rfl rfl rfl) hns (by kernel_rfl) (by kernel_rfl) rfl rfl ?_
            refine wf_pass 49 rfl (ps 64 rfl rfl rfl) hns (by kernel_rfl) (by kernel_rfl) rfl rfl ?_
            refine wf_pass 50 rfl (ps 64 rfl rfl rfl) hns (by kernel_rfl) (by kernel_rfl) rfl rfl ?_
            refine wf_pass 51 rfl (ps 64 rfl rfl rfl) hns (by kernel_rfl) (by kernel_rfl) rfl rfl ?_
            refine wf_pass 52 rfl (ps 64 rfl rfl rfl) hns (by kernel_rfl) (by kernel_rfl) rfl rfl ?_
            refine wf_pass 53 rfl (ps 64 rfl rfl rfl) hns (by kernel_rfl) (by kernel_rfl) rfl rfl ?_
            refine wf_pass 54 rfl (pu 70 rfl rfl) hns (by kernel_rfl) (by kernel_rfl) rfl rfl ?_
            refine wf_pass 55 rfl (pu 70 rfl rfl) hns (by kernel_rfl) (by kernel_rfl) rfl rfl ?_
            refine wf_pass 56 rfl (pu 70 rfl rfl) hns (by kernel_rfl) (by kernel_rfl) rfl rfl ?_
            refine wf_pass 57 rfl (pu 70 rfl rfl) hns (by kernel_rfl) (by kernel_rfl) rfl rfl ?_
            refine wf_pass 58 rfl (pu 70 rfl rfl) hns (by kernel_rfl) (by kernel_rfl) rfl rfl ?_
            refine wf_pass 59 rfl (pu 70 rfl rfl) hns (by kernel_rfl) (by kernel_rfl) rfl rfl ?_
            refine wf_pass 60 rfl (pu 70 rfl rfl) hns (by kernel_rfl) (by kernel_rfl) rfl rfl ?_
            refine wf_pass 61 rfl (ps 64 rfl rfl rfl) hns (by kernel_rfl) (by kernel_rfl) rfl rfl ?_
            refine wf_v 62 rfl (v_pick (b := true) rfl rfl) gn rfl hns (by kernel_rfl) (by kernel_rfl) rfl rfl ?_
            refine wf_end (by kernel_rfl) ?_
            exact g_go [0, 1] (j1 true h) ⟨rfl, rfl, rfl, trivial⟩ (.cons_cons _ (.cons _ (.slnil))) rfl
  · have h := if_neg' hp17 h
    refine g_true (c := trellislaw32_ChooseMore_c6) rfl _ rfl ((nt (bf hp17))) ?_
    refine g_seq (c := trellislaw32_ChooseMore_c7) rfl ?_
    refine g_region (c := trellislaw32_ChooseMore_c81) rfl rfl ?_
    refine wl_v 0 rfl (v_assign rfl) gn rfl ?_
    refine w_end 1 rfl ?_
    refine g_retR (c := trellislaw32_ChooseMore_c82) [.bool false] rfl Try.func5 rfl (.tmp rfl (.nil)) fun wr hLr => ?_
    have hMr : B.Loc w wr [] [St w []] := hLr.pick (rest := [.box gb7 24 [.int .i64 x6.from_, .int .i64 x6.to]]) (perm_of_idx [] [0] rfl rfl (by kernel_rfl)) (sels [1] rfl)
    have hMi : ∀ e ∈ ([] : List Ent), e ∈ ([.box gb7 24 [.int .i64 x6.from_, .int .i64 x6.to]] : List Ent) := sels [] rfl
    show trellislaw32_ChooseMore_R w F  r (.returned (packV [.bool false])) wr
    rw [h]
    exact ⟨rfl, hMr⟩
noncomputable abbrev trellislaw32_kind_c0 : Code := bodyOf Try.f30
noncomputable abbrev trellislaw32_kind_c1 : Code := Code.fst trellislaw32_kind_c0
noncomputable abbrev trellislaw32_kind_c2 : Code := Code.snd trellislaw32_kind_c0
noncomputable abbrev trellislaw32_kind_c3 : Code := Code.fst trellislaw32_kind_c2
noncomputable abbrev trellislaw32_kind_c4 : Code := Code.snd trellislaw32_kind_c2
noncomputable abbrev trellislaw32_kind_c5 : Code := Code.fst trellislaw32_kind_c3
noncomputable abbrev trellislaw32_kind_c6 : Code := Code.snd trellislaw32_kind_c3
noncomputable abbrev trellislaw32_kind_c7 : Code := Code.fst trellislaw32_kind_c6
noncomputable abbrev trellislaw32_kind_c8 : Code := Code.snd trellislaw32_kind_c6
noncomputable abbrev trellislaw32_kind_c9 : Code := Code.fst trellislaw32_kind_c7
noncomputable abbrev trellislaw32_kind_c10 : Code := Code.snd trellislaw32_kind_c7
noncomputable abbrev trellislaw32_kind_c11 : Code := Code.fst trellislaw32_kind_c4
noncomputable abbrev trellislaw32_kind_c12 : Code := Code.snd trellislaw32_kind_c4
noncomputable abbrev trellislaw32_kind_c13 : Code := Code.fst trellislaw32_kind_c11
noncomputable abbrev trellislaw32_kind_c14 : Code := Code.snd trellislaw32_kind_c11
noncomputable abbrev trellislaw32_kind_c15 : Code := Code.fst trellislaw32_kind_c14
noncomputable abbrev trellislaw32_kind_c16 : Code := Code.fst trellislaw32_kind_c15
noncomputable abbrev trellislaw32_kind_c17 : Code := Code.snd trellislaw32_kind_c15
noncomputable abbrev trellislaw32_kind_c18 : Code := Code.fst trellislaw32_kind_c17
noncomputable abbrev trellislaw32_kind_c19 : Code := Code.snd trellislaw32_kind_c17
noncomputable abbrev trellislaw32_kind_c20 : Code := Code.fst trellislaw32_kind_c18
noncomputable abbrev trellislaw32_kind_c21 : Code := Code.snd trellislaw32_kind_c18
noncomputable abbrev trellislaw32_kind_c22 : Code := Code.fst trellislaw32_kind_c19
noncomputable abbrev trellislaw32_kind_c23 : Code := Code.snd trellislaw32_kind_c19
noncomputable abbrev trellislaw32_kind_c24 : Code := Code.fst trellislaw32_kind_c23
noncomputable abbrev trellislaw32_kind_c25 : Code := Code.snd trellislaw32_kind_c23
noncomputable abbrev trellislaw32_kind_c26 : Code := Code.fst trellislaw32_kind_c24
noncomputable abbrev trellislaw32_kind_c27 : Code := Code.snd trellislaw32_kind_c24
noncomputable abbrev trellislaw32_kind_c28 : Code := Code.fst trellislaw32_kind_c25
noncomputable abbrev trellislaw32_kind_c29 : Code := Code.snd trellislaw32_kind_c25
noncomputable abbrev trellislaw32_kind_c30 : Code := Code.fst trellislaw32_kind_c29
noncomputable abbrev trellislaw32_kind_c31 : Code := Code.snd trellislaw32_kind_c29
noncomputable abbrev trellislaw32_kind_c32 : Code := Code.fst trellislaw32_kind_c30
noncomputable abbrev trellislaw32_kind_c33 : Code := Code.snd trellislaw32_kind_c30
noncomputable abbrev trellislaw32_kind_c34 : Code := Code.fst trellislaw32_kind_c31
noncomputable abbrev trellislaw32_kind_c35 : Code := Code.snd trellislaw32_kind_c31
noncomputable abbrev trellislaw32_kind_c36 : Code := Code.fst trellislaw32_kind_c35
noncomputable abbrev trellislaw32_kind_c37 : Code := Code.snd trellislaw32_kind_c35
noncomputable abbrev trellislaw32_kind_c38 : Code := Code.fst trellislaw32_kind_c36
noncomputable abbrev trellislaw32_kind_c39 : Code := Code.snd trellislaw32_kind_c36
noncomputable abbrev trellislaw32_kind_c40 : Code := Code.fst trellislaw32_kind_c37
noncomputable abbrev trellislaw32_kind_c41 : Code := Code.snd trellislaw32_kind_c37
noncomputable abbrev trellislaw32_kind_c42 : Code := Code.fst trellislaw32_kind_c41
noncomputable abbrev trellislaw32_kind_c43 : Code := Code.snd trellislaw32_kind_c41
noncomputable abbrev trellislaw32_kind_c44 : Code := Code.fst trellislaw32_kind_c42
noncomputable abbrev trellislaw32_kind_c45 : Code := Code.snd trellislaw32_kind_c42
noncomputable abbrev trellislaw32_kind_c46 : Code := Code.fst trellislaw32_kind_c43
noncomputable abbrev trellislaw32_kind_c47 : Code := Code.snd trellislaw32_kind_c43
noncomputable abbrev trellislaw32_kind_c48 : Code := Code.fst trellislaw32_kind_c47
noncomputable abbrev trellislaw32_kind_c49 : Code := Code.snd trellislaw32_kind_c47
noncomputable abbrev trellislaw32_kind_c50 : Code := Code.fst trellislaw32_kind_c48
noncomputable abbrev trellislaw32_kind_c51 : Code := Code.snd trellislaw32_kind_c48
noncomputable abbrev trellislaw32_kind_c52 : Code := Code.fst trellislaw32_kind_c12
noncomputable abbrev trellislaw32_kind_c53 : Code := Code.snd trellislaw32_kind_c12
abbrev trellislaw32_kind_R (w : World) (F : Nat → Prop) (r : Int) : Ending → World → Prop := fun e w' => e = .returned (.int .i64 r) ∧ B.Loc w w' [] [St w []]
noncomputable abbrev trellislaw32_kind_C (w : World) (F : Nat → Prop) (r : Int) : Cx := ⟨Try.prog, 30, Try.f30, 19, trellislaw32_kind_R w F  r, w⟩
theorem trellislaw32_kind_calls (w : World) (F : Nat → Prop) (x1 : api_Node) (hF : ∀ b, F b → b < w.heap.size ∧ ∀ o ∈ ([] : List (List Nat)), b ∉ o) (hL0 : B.Loc w w [] [Sm w.heap.size F w [], St w []]) (r : Int) (h : trellislaw32_kind x1 r) : Calls Try.prog 30 #[.agg #[.string x1.name, .bool x1.named, .string x1.field, .int .i64 x1.from_, .int .i64 x1.to, .int .i64 x1.kids, .int .i64 x1.leaf]] w (trellislaw32_kind_R w F  r) := by
  unfold trellislaw32_kind at h
  refine calls_of_Loc (vs := [.agg #[.string x1.name, .bool x1.named, .string x1.field, .int .i64 x1.from_, .int .i64 x1.to, .int .i64 x1.kids, .int .i64 x1.leaf]]) 19 Try.func30 rfl Try.ntmps30 rfl hL0 ?_
  show G (trellislaw32_kind_C w F r) _ _ _ _
  refine g_seq (c := trellislaw32_kind_c0) rfl ?_
  refine g_region (c := trellislaw32_kind_c1) rfl rfl ?_
  refine wl_s 0 rfl (s_box [.string x1.name, .bool x1.named, .string x1.field, .int .i64 x1.from_, .int .i64 x1.to, .int .i64 x1.kids, .int .i64 x1.leaf] rfl rfl rfl fun gb2 => ?_) gn
  refine wl_v 1 rfl (v_assign rfl) gn rfl ?_
  refine w_end 2 rfl ?_
  refine g_seq (c := trellislaw32_kind_c2) rfl ?_
  refine g_seq (c := trellislaw32_kind_c3) rfl ?_
  refine g_region (c := trellislaw32_kind_c5) rfl rfl ?_
  refine wl_v 0 rfl (v_fldB fo_39_1 rfl) gn rfl ?_
  refine wl_v 1 rfl (v_ldB1 0 ld_4 rfl rfl rfl) gn rfl ?_
  refine w_end 2 rfl ?_
  by_cases hp4 : x1.named = true
  · have h := if_pos' hp4 h
    refine g_true (c := trellislaw32_kind_c6) rfl _ rfl (hp4) ?_
    refine g_seq (c := trellislaw32_kind_c7) rfl ?_
    refine g_region (c := trellislaw32_kind_c9) rfl rfl ?_
    refine wl_v 0 rfl (v_assign rfl) gn rfl ?_
    refine w_end 1 rfl ?_
    refine g_retR (c := trellislaw32_kind_c10) [.int .i64 0] rfl Try.func30 rfl (.tmp rfl (.nil)) fun wr hLr => ?_
    have hMr : B.Loc w wr [] [St w []] := hLr.pick (rest := [.box gb2 39 [.string x1.name, .bool x1.named, .string x1.field, .int .i64 x1.from_, .int .i64 x1.to, .int .i64 x1.kids, .int .i64 x1.leaf]]) (perm_of_idx [] [0] rfl rfl (by kernel_rfl)) (sels [1] rfl)
    have hMi : ∀ e ∈ ([] : List Ent), e ∈ ([.box gb2 39 [.string x1.name, .bool x1.named, .string x1.field, .int .i64 x1.from_, .int .i64 x1.to, .int .i64 x1.kids, .int .i64 x1.leaf]] : List Ent) := sels [] rfl
    show trellislaw32_kind_R w F  r (.returned (packV [.int .i64 0])) wr
    rw [h]
    exact ⟨rfl, hMr⟩
  · have h := if_neg' hp4 h
    refine g_false (c := trellislaw32_kind_c6) rfl _ rfl ((bf hp4)) ?_
    refine g_skip (c := trellislaw32_kind_c8) rfl ?_
    refine g_seq (c := trellislaw32_kind_c4) rfl ?_
    refine g_seq (c := trellislaw32_kind_c11) rfl ?_
    refine g_region (c := trellislaw32_kind_c13) rfl rfl ?_
    refine wl_v 0 rfl (v_fldB fo_39_0 rfl) gn rfl ?_
    refine wl_v 1 rfl (v_ldB1 0 ld_9 rfl rfl rfl) gn rfl ?_
    refine w_end 2 rfl ?_
    refine g_block (c := trellislaw32_kind_c14) rfl ?_
    refine g_seq (c := trellislaw32_kind_c15) rfl ?_
    refine g_region (c := trellislaw32_kind_c16) rfl rfl ?_
    refine wl_v 0 rfl (v_eqS rfl rfl) gn rfl ?_
    refine wl_v 1 rfl (v_assign rfl) gn rfl ?_
    refine w_end 2 rfl ?_
    by_cases hp5 : x1.name = (⟨#[40]⟩ : ByteArray)
    · have h := if_pos' hp5 h
      refine g_true (c := trellislaw32_kind_c17) rfl _ rfl ((seq_t hp5)) ?_
      refine g_seq (c := trellislaw32_kind_c18) rfl ?_
      refine g_region (c := trellislaw32_kind_c20) rfl rfl ?_
      refine wl_v 0 rfl (v_assign rfl) gn rfl ?_
      refine w_end 1 rfl ?_
      refine g_retR (c := trellislaw32_kind_c21) [.int .i64 1] rfl Try.func30 rfl (.tmp rfl (.nil)) fun wr hLr => ?_
      have hMr : B.Loc w wr [] [St w []] := hLr.pick (rest := [.box gb2 39 [.string x1.name, .bool x1.named, .string x1.field, .int .i64 x1.from_, .int .i64 x1.to, .int .i64 x1.kids, .int .i64 x1.leaf]]) (perm_of_idx [] [0] rfl rfl (by kernel_rfl)) (sels [1] rfl)
      have hMi : ∀ e ∈ ([] : List Ent), e ∈ ([.box gb2 39 [.string x1.name, .bool x1.named, .string x1.field, .int .i64 x1.from_, .int .i64 x1.to, .int .i64 x1.kids, .int .i64 x1.leaf]] : List Ent) := sels [] rfl
      show trellislaw32_kind_R w F  r (.returned (packV [.int .i64 1])) wr
      rw [h]
      exact ⟨rfl, hMr⟩
    · have h := if_neg' hp5 h
      refine g_false (c := trellislaw32_kind_c17) rfl _ rfl ((seq_f hp5)) ?_
      refine g_seq (c := trellislaw32_kind_c19) rfl ?_
      refine g_region (c := trellislaw32_kind_c22) rfl rfl ?_
      refine wl_v 0 rfl (v_eqS rfl rfl) gn rfl ?_
      refine wl_v 1 rfl (v_assign rfl) gn rfl ?_
      refine w_end 2 rfl ?_
      by_cases hp6 : x1.name = (⟨#[91]⟩ : ByteArray)
      · have h := if_pos' hp6 h
        refine g_true (c := trellislaw32_kind_c23) rfl _ rfl ((seq_t hp6)) ?_
        refine g_seq (c := trellislaw32_kind_c24) rfl ?_
        refine g_region (c := trellislaw32_kind_c26) rfl rfl ?_
        refine wl_v 0 rfl (v_assign rfl) gn rfl ?_
        refine w_end 1 rfl ?_
        refine g_retR (c := trellislaw32_kind_c27) [.int .i64 2] rfl Try.func30 rfl (.tmp rfl (.nil)) fun wr hLr => ?_
        have hMr : B.Loc w wr [] [St w []] := hLr.pick (rest := [.box gb2 39 [.string x1.name, .bool x1.named, .string x1.field, .int .i64 x1.from_, .int .i64 x1.to, .int .i64 x1.kids, .int .i64 x1.leaf]]) (perm_of_idx [] [0] rfl rfl (by kernel_rfl)) (sels [1] rfl)
        have hMi : ∀ e ∈ ([] : List Ent), e ∈ ([.box gb2 39 [.string x1.name, .bool x1.named, .string x1.field, .int .i64 x1.from_, .int .i64 x1.to, .int .i64 x1.kids, .int .i64 x1.leaf]] : List Ent) := sels [] rfl
        show trellislaw32_kind_R w F  r (.returned (packV [.int .i64 2])) wr
        rw [h]
        exact ⟨rfl, hMr⟩
      · have h := if_neg' hp6 h
        refine g_false (c := trellislaw32_kind_c23) rfl _ rfl ((seq_f hp6)) ?_
        refine g_seq (c := trellislaw32_kind_c25) rfl ?_
        refine g_region (c := trellislaw32_kind_c28) rfl rfl ?_
        refine wl_v 0 rfl (v_eqS rfl rfl) gn rfl ?_
        refine wl_v 1 rfl (v_assign rfl) gn rfl ?_
        refine w_end 2 rfl ?_
        by_cases hp7 : x1.name = (⟨#[123]⟩ : ByteArray)
        · have h := if_pos' hp7 h
          refine g_true (c := trellislaw32_kind_c29) rfl _ rfl ((seq_t hp7)) ?_
          refine g_seq (c := trellislaw32_kind_c30) rfl ?_
          refine g_region (c := trellislaw32_kind_c32) rfl rfl ?_
          refine wl_v 0 rfl (v_assign rfl) gn rfl ?_
          refine w_end 1 rfl ?_
          refine g_retR (c := trellislaw32_kind_c33) [.int .i64 3] rfl Try.func30 rfl (.tmp rfl (.nil)) fun wr hLr => ?_
          have hMr : B.Loc w wr [] [St w []] := hLr.pick (rest := [.box gb2 39 [.string x1.name, .bool x1.named, .string x1.field, .int .i64 x1.from_, .int .i64 x1.to, .int .i64 x1.kids, .int .i64 x1.leaf]]) (perm_of_idx [] [0] rfl rfl (by kernel_rfl)) (sels [1] rfl)
          have hMi : ∀ e ∈ ([] : List Ent), e ∈ ([.box gb2 39 [.string x1.name, .bool x1.named, .string x1.field, .int .i64 x1.from_, .int .i64 x1.to, .int .i64 x1.kids, .int .i64 x1.leaf]] : List Ent) := sels [] rfl
          show trellislaw32_kind_R w F  r (.returned (packV [.int .i64 3])) wr
          rw [h]
          exact ⟨rfl, hMr⟩
        · have h := if_neg' hp7 h
          refine g_false (c := trellislaw32_kind_c29) rfl _ rfl ((seq_f hp7)) ?_
          refine g_seq (c := trellislaw32_kind_c31) rfl ?_
          refine g_region (c := trellislaw32_kind_c34) rfl rfl ?_
          refine wl_v 0 rfl (v_eqS rfl rfl) gn rfl ?_
          refine wl_v 1 rfl (v_assign rfl) gn rfl ?_
          refine w_end 2 rfl ?_
          by_cases hp8 : x1.name = (⟨#[41]⟩ : ByteArray)
          · have h := if_pos' hp8 h
            refine g_true (c := trellislaw32_kind_c35) rfl _ rfl ((seq_t hp8)) ?_
            refine g_seq (c := trellislaw32_kind_c36) rfl ?_
            refine g_region (c := trellislaw32_kind_c38) rfl rfl ?_
            refine wl_v 0 rfl (v_assign rfl) gn rfl ?_
            refine w_end 1 rfl ?_
            refine g_retR (c := trellislaw32_kind_c39) [.int .i64 (-1)] rfl Try.func30 rfl (.tmp rfl (.nil)) fun wr hLr => ?_
            have hMr : B.Loc w wr [] [St w []] := hLr.pick (rest := [.box gb2 39 [.string x1.name, .bool x1.named, .string x1.field, .int .i64 x1.from_, .int .i64 x1.to, .int .i64 x1.kids, .int .i64 x1.leaf]]) (perm_of_idx [] [0] rfl rfl (by kernel_rfl)) (sels [1] rfl)
            have hMi : ∀ e ∈ ([] : List Ent), e ∈ ([.box gb2 39 [.string x1.name, .bool x1.named, .string x1.field, .int .i64 x1.from_, .int .i64 x1.to, .int .i64 x1.kids, .int .i64 x1.leaf]] : List Ent) := sels [] rfl
            show trellislaw32_kind_R w F  r (.returned (packV [.int .i64 (-1)])) wr
            rw [h]
            exact ⟨rfl, hMr⟩
          · have h := if_neg' hp8 h
            refine g_false (c := trellislaw32_kind_c35) rfl _ rfl ((seq_f hp8)) ?_
            refine g_seq (c := trellislaw32_kind_c37) rfl ?_
            refine g_region (c := trellislaw32_kind_c40) rfl rfl ?_
            refine wl_v 0 rfl (v_eqS rfl rfl) gn rfl ?_
            refine wl_v 1 rfl (v_assign rfl) gn rfl ?_
            refine w_end 2 rfl ?_
            by_cases hp9 : x1.name = (⟨#[93]⟩ : ByteArray)
            · have h := if_pos' hp9 h
              refine g_true (c := trellislaw32_kind_c41) rfl _ rfl ((seq_t hp9)) ?_
              refine g_seq (c := trellislaw32_kind_c42) rfl ?_
              refine g_region (c := trellislaw32_kind_c44) rfl rfl ?_
              refine wl_v 0 rfl (v_assign rfl) gn rfl ?_
              refine w_end 1 rfl ?_
              refine g_retR (c := trellislaw32_kind_c45) [.int .i64 (-2)] rfl Try.func30 rfl (.tmp rfl (.nil)) fun wr hLr => ?_
              have hMr : B.Loc w wr [] [St w []] := hLr.pick (rest := [.box gb2 39 [.string x1.name, .bool x1.named, .string x1.field, .int .i64 x1.from_, .int .i64 x1.to, .int .i64 x1.kids, .int .i64 x1.leaf]]) (perm_of_idx [] [0] rfl rfl (by kernel_rfl)) (sels [1] rfl)
              have hMi : ∀ e ∈ ([] : List Ent), e ∈ ([.box gb2 39 [.string x1.name, .bool x1.named, .string x1.field, .int .i64 x1.from_, .int .i64 x1.to, .int .i64 x1.kids, .int .i64 x1.leaf]] : List Ent) := sels [] rfl
              show trellislaw32_kind_R w F  r (.returned (packV [.int .i64 (-2)])) wr
              rw [h]
              exact ⟨rfl, hMr⟩
            · have h := if_neg' hp9 h
              refine g_false (c := trellislaw32_kind_c41) rfl _ rfl ((seq_f hp9)) ?_
              refine g_seq (c := trellislaw32_kind_c43) rfl ?_
              refine g_region (c := trellislaw32_kind_c46) rfl rfl ?_
              refine wl_v 0 rfl (v_eqS rfl rfl) gn rfl ?_
              refine wl_v 1 rfl (v_assign rfl) gn rfl ?_
              refine w_end 2 rfl ?_
              by_cases hp10 : x1.name = (⟨#[125]⟩ : ByteArray)
              · have h := if_pos' hp10 h
                refine g_true (c := trellislaw32_kind_c47) rfl _ rfl ((seq_t hp10)) ?_
                refine g_seq (c := trellislaw32_kind_c48) rfl ?_
                refine g_region (c := trellislaw32_kind_c50) rfl rfl ?_
                refine wl_v 0 rfl (v_assign rfl) gn rfl ?_
                refine w_end 1 rfl ?_
                refine g_retR (c := trellislaw32_kind_c51) [.int .i64 (-3)] rfl Try.func30 rfl (.tmp rfl (.nil)) fun wr hLr => ?_
                have hMr : B.Loc w wr [] [St w []] := hLr.pick (rest := [.box gb2 39 [.string x1.name, .bool x1.named, .string x1.field, .int .i64 x1.from_, .int .i64 x1.to, .int .i64 x1.kids, .int .i64 x1.leaf]]) (perm_of_idx [] [0] rfl rfl (by kernel_rfl)) (sels [1] rfl)
                have hMi : ∀ e ∈ ([] : List Ent), e ∈ ([.box gb2 39 [.string x1.name, .bool x1.named, .string x1.field, .int .i64 x1.from_, .int .i64 x1.to, .int .i64 x1.kids, .int .i64 x1.leaf]] : List Ent) := sels [] rfl
                show trellislaw32_kind_R w F  r (.returned (packV [.int .i64 (-3)])) wr
                rw [h]
                exact ⟨rfl, hMr⟩
              · have h := if_neg' hp10 h
                refine g_false (c := trellislaw32_kind_c47) rfl _ rfl ((seq_f hp10)) ?_
                refine g_skip (c := trellislaw32_kind_c49) rfl ?_
                refine g_inBlock ?_
                refine g_seq (c := trellislaw32_kind_c12) rfl ?_
                refine g_region (c := trellislaw32_kind_c52) rfl rfl ?_
                refine wl_v 0 rfl (v_assign rfl) gn rfl ?_
                refine w_end 1 rfl ?_
                refine g_retR (c := trellislaw32_kind_c53) [.int .i64 0] rfl Try.func30 rfl (.tmp rfl (.nil)) fun wr hLr => ?_
                have hMr : B.Loc w wr [] [St w []] := hLr.pick (rest := [.box gb2 39 [.string x1.name, .bool x1.named, .string x1.field, .int .i64 x1.from_, .int .i64 x1.to, .int .i64 x1.kids, .int .i64 x1.leaf]]) (perm_of_idx [] [0] rfl rfl (by kernel_rfl)) (sels [1] rfl)
                have hMi : ∀ e ∈ ([] : List Ent), e ∈ ([.box gb2 39 [.string x1.name, .bool x1.named, .string x1.field, .int .i64 x1.from_, .int .i64 x1.to, .int .i64 x1.kids, .int .i64 x1.leaf]] : List Ent) := sels [] rfl
                show trellislaw32_kind_R w F  r (.returned (packV [.int .i64 0])) wr
                rw [h]
                exact ⟨rfl, hMr⟩
end Go.Proofs.Ytoifgnogoddmlaa.K
