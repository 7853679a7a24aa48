/- What the machine's calls do, function by function, printed by my own tool. Condition of each: its relation holds of the answer, and what is handed in lies in memory as told. -/
import Derived.Test.YtoifgnogoddmlaaK3
set_option linter.unusedVariables false
set_option maxRecDepth 100000
set_option maxHeartbeats 4000000
namespace Go.Proofs.Ytoifgnogoddmlaa.K
open Go.Proofs.Ytoifgnogoddmlaa.B Go.Proofs.Ytoifgnogoddmlaa.R Go.RowKit
noncomputable abbrev trellislaw32_ChoosePairs_c0 : Code := bodyOf Try.f7
noncomputable abbrev trellislaw32_ChoosePairs_c1 : Code := Code.fst trellislaw32_ChoosePairs_c0
noncomputable abbrev trellislaw32_ChoosePairs_c2 : Code := Code.snd trellislaw32_ChoosePairs_c0
noncomputable abbrev trellislaw32_ChoosePairs_c3 : Code := Code.fst trellislaw32_ChoosePairs_c2
noncomputable abbrev trellislaw32_ChoosePairs_c4 : Code := Code.snd trellislaw32_ChoosePairs_c2
noncomputable abbrev trellislaw32_ChoosePairs_c5 : Code := Code.fst trellislaw32_ChoosePairs_c3
noncomputable abbrev trellislaw32_ChoosePairs_c6 : Code := Code.snd trellislaw32_ChoosePairs_c3
noncomputable abbrev trellislaw32_ChoosePairs_c7 : Code := Code.fst trellislaw32_ChoosePairs_c6
noncomputable abbrev trellislaw32_ChoosePairs_c8 : Code := Code.snd trellislaw32_ChoosePairs_c6
noncomputable abbrev trellislaw32_ChoosePairs_c9 : Code := Code.fst trellislaw32_ChoosePairs_c4
noncomputable abbrev trellislaw32_ChoosePairs_c10 : Code := Code.snd trellislaw32_ChoosePairs_c4
noncomputable abbrev trellislaw32_ChoosePairs_c11 : Code := Code.fst trellislaw32_ChoosePairs_c9
noncomputable abbrev trellislaw32_ChoosePairs_c12 : Code := Code.snd trellislaw32_ChoosePairs_c9
noncomputable abbrev trellislaw32_ChoosePairs_c13 : Code := Code.fst trellislaw32_ChoosePairs_c12
noncomputable abbrev trellislaw32_ChoosePairs_c14 : Code := Code.snd trellislaw32_ChoosePairs_c12
noncomputable abbrev trellislaw32_ChoosePairs_c15 : Code := Code.fst trellislaw32_ChoosePairs_c13
noncomputable abbrev trellislaw32_ChoosePairs_c16 : Code := Code.snd trellislaw32_ChoosePairs_c13
noncomputable abbrev trellislaw32_ChoosePairs_c17 : Code := Code.fst trellislaw32_ChoosePairs_c10
noncomputable abbrev trellislaw32_ChoosePairs_c18 : Code := Code.snd trellislaw32_ChoosePairs_c10
noncomputable abbrev trellislaw32_ChoosePairs_c19 : Code := Code.fst trellislaw32_ChoosePairs_c18
noncomputable abbrev trellislaw32_ChoosePairs_c20 : Code := Code.snd trellislaw32_ChoosePairs_c18
noncomputable abbrev trellislaw32_ChoosePairs_c21 : Code := Code.fst trellislaw32_ChoosePairs_c19
noncomputable abbrev trellislaw32_ChoosePairs_c22 : Code := Code.snd trellislaw32_ChoosePairs_c19
noncomputable abbrev trellislaw32_ChoosePairs_c23 : Code := Code.fst trellislaw32_ChoosePairs_c22
noncomputable abbrev trellislaw32_ChoosePairs_c24 : Code := Code.snd trellislaw32_ChoosePairs_c22
noncomputable abbrev trellislaw32_ChoosePairs_c25 : Code := Code.fst trellislaw32_ChoosePairs_c23
noncomputable abbrev trellislaw32_ChoosePairs_c26 : Code := Code.snd trellislaw32_ChoosePairs_c23
noncomputable abbrev trellislaw32_ChoosePairs_c27 : Code := Code.fst trellislaw32_ChoosePairs_c20
noncomputable abbrev trellislaw32_ChoosePairs_c28 : Code := Code.snd trellislaw32_ChoosePairs_c20
noncomputable abbrev trellislaw32_ChoosePairs_c29 : Code := Code.fst trellislaw32_ChoosePairs_c27
noncomputable abbrev trellislaw32_ChoosePairs_c30 : Code := Code.snd trellislaw32_ChoosePairs_c27
noncomputable abbrev trellislaw32_ChoosePairs_c31 : Code := Code.fst trellislaw32_ChoosePairs_c30
noncomputable abbrev trellislaw32_ChoosePairs_c32 : Code := Code.snd trellislaw32_ChoosePairs_c30
noncomputable abbrev trellislaw32_ChoosePairs_c33 : Code := Code.fst trellislaw32_ChoosePairs_c31
noncomputable abbrev trellislaw32_ChoosePairs_c34 : Code := Code.snd trellislaw32_ChoosePairs_c31
noncomputable abbrev trellislaw32_ChoosePairs_c35 : Code := Code.fst trellislaw32_ChoosePairs_c34
noncomputable abbrev trellislaw32_ChoosePairs_c36 : Code := Code.snd trellislaw32_ChoosePairs_c34
noncomputable abbrev trellislaw32_ChoosePairs_c37 : Code := Code.fst trellislaw32_ChoosePairs_c28
noncomputable abbrev trellislaw32_ChoosePairs_c38 : Code := Code.snd trellislaw32_ChoosePairs_c28
noncomputable abbrev trellislaw32_ChoosePairs_c39 : Code := Code.fst trellislaw32_ChoosePairs_c37
noncomputable abbrev trellislaw32_ChoosePairs_c40 : Code := Code.snd trellislaw32_ChoosePairs_c37
noncomputable abbrev trellislaw32_ChoosePairs_c41 : Code := Code.fst trellislaw32_ChoosePairs_c40
noncomputable abbrev trellislaw32_ChoosePairs_c42 : Code := Code.snd trellislaw32_ChoosePairs_c40
noncomputable abbrev trellislaw32_ChoosePairs_c43 : Code := Code.fst trellislaw32_ChoosePairs_c41
noncomputable abbrev trellislaw32_ChoosePairs_c44 : Code := Code.snd trellislaw32_ChoosePairs_c41
noncomputable abbrev trellislaw32_ChoosePairs_c45 : Code := Code.fst trellislaw32_ChoosePairs_c38
noncomputable abbrev trellislaw32_ChoosePairs_c46 : Code := Code.snd trellislaw32_ChoosePairs_c38
noncomputable abbrev trellislaw32_ChoosePairs_c47 : Code := Code.fst trellislaw32_ChoosePairs_c46
noncomputable abbrev trellislaw32_ChoosePairs_c48 : Code := Code.snd trellislaw32_ChoosePairs_c46
noncomputable abbrev trellislaw32_ChoosePairs_c49 : Code := Code.fst trellislaw32_ChoosePairs_c48
noncomputable abbrev trellislaw32_ChoosePairs_c50 : Code := Code.snd trellislaw32_ChoosePairs_c48
noncomputable abbrev trellislaw32_ChoosePairs_c51 : Code := Code.fst trellislaw32_ChoosePairs_c49
noncomputable abbrev trellislaw32_ChoosePairs_c52 : Code := Code.snd trellislaw32_ChoosePairs_c49
noncomputable abbrev trellislaw32_ChoosePairs_c53 : Code := Code.fst trellislaw32_ChoosePairs_c52
noncomputable abbrev trellislaw32_ChoosePairs_c54 : Code := Code.snd trellislaw32_ChoosePairs_c52
noncomputable abbrev trellislaw32_ChoosePairs_c55 : Code := Code.fst trellislaw32_ChoosePairs_c50
noncomputable abbrev trellislaw32_ChoosePairs_c56 : Code := Code.snd trellislaw32_ChoosePairs_c50
noncomputable abbrev trellislaw32_ChoosePairs_c57 : Code := Code.fst trellislaw32_ChoosePairs_c55
noncomputable abbrev trellislaw32_ChoosePairs_c58 : Code := Code.snd trellislaw32_ChoosePairs_c55
noncomputable abbrev trellislaw32_ChoosePairs_c59 : Code := Code.fst trellislaw32_ChoosePairs_c58
noncomputable abbrev trellislaw32_ChoosePairs_c60 : Code := Code.fst trellislaw32_ChoosePairs_c59
noncomputable abbrev trellislaw32_ChoosePairs_c61 : Code := Code.fst trellislaw32_ChoosePairs_c60
noncomputable abbrev trellislaw32_ChoosePairs_c62 : Code := Code.snd trellislaw32_ChoosePairs_c60
noncomputable abbrev trellislaw32_ChoosePairs_c63 : Code := Code.fst trellislaw32_ChoosePairs_c61
noncomputable abbrev trellislaw32_ChoosePairs_c64 : Code := Code.snd trellislaw32_ChoosePairs_c61
noncomputable abbrev trellislaw32_ChoosePairs_c65 : Code := Code.fst trellislaw32_ChoosePairs_c64
noncomputable abbrev trellislaw32_ChoosePairs_c66 : Code := Code.snd trellislaw32_ChoosePairs_c64
noncomputable abbrev trellislaw32_ChoosePairs_c67 : Code := Code.fst trellislaw32_ChoosePairs_c62
noncomputable abbrev trellislaw32_ChoosePairs_c68 : Code := Code.snd trellislaw32_ChoosePairs_c62
noncomputable abbrev trellislaw32_ChoosePairs_c69 : Code := Code.fst trellislaw32_ChoosePairs_c67
noncomputable abbrev trellislaw32_ChoosePairs_c70 : Code := Code.fst trellislaw32_ChoosePairs_c69
noncomputable abbrev trellislaw32_ChoosePairs_c71 : Code := Code.snd trellislaw32_ChoosePairs_c69
noncomputable abbrev trellislaw32_ChoosePairs_c72 : Code := Code.fst trellislaw32_ChoosePairs_c71
noncomputable abbrev trellislaw32_ChoosePairs_c73 : Code := Code.snd trellislaw32_ChoosePairs_c71
noncomputable abbrev trellislaw32_ChoosePairs_c74 : Code := Code.fst trellislaw32_ChoosePairs_c73
noncomputable abbrev trellislaw32_ChoosePairs_c75 : Code := Code.snd trellislaw32_ChoosePairs_c73
noncomputable abbrev trellislaw32_ChoosePairs_c76 : Code := Code.fst trellislaw32_ChoosePairs_c74
noncomputable abbrev trellislaw32_ChoosePairs_c77 : Code := Code.snd trellislaw32_ChoosePairs_c74
noncomputable abbrev trellislaw32_ChoosePairs_c78 : Code := Code.fst trellislaw32_ChoosePairs_c56
noncomputable abbrev trellislaw32_ChoosePairs_c79 : Code := Code.snd trellislaw32_ChoosePairs_c56
noncomputable abbrev trellislaw32_ChoosePairs_c80 : Code := Code.fst trellislaw32_ChoosePairs_c7
noncomputable abbrev trellislaw32_ChoosePairs_c81 : Code := Code.snd trellislaw32_ChoosePairs_c7
abbrev trellislaw32_ChoosePairs_R (w : World) (F : Nat → Prop) (r : Bool) : Ending → World → Prop := fun e w' => e = .returned (.bool r) ∧ B.Loc w w' [] [St w []]
noncomputable abbrev trellislaw32_ChoosePairs_C (w : World) (F : Nat → Prop) (r : Bool) : Cx := ⟨Try.prog, 7, Try.f7, 149, trellislaw32_ChoosePairs_R w F  r, w⟩
theorem trellislaw32_ChoosePairs_calls (w : World) (F : Nat → Prop) (x1 : List api_Node) (x6 : Int) (A2 : Option Addr) (n3 : Nat) (c4 : Nat) (h5 : Rw k_api_Node w (St w []).av A2 n3 c4 x1) (hF : ∀ b, F b → b < w.heap.size ∧ ∀ o ∈ ([] : List (List Nat)), b ∉ o) (hL0 : B.Loc w w [] [Sm w.heap.size F w [], St w []]) (r : Bool) (h : trellislaw32_ChoosePairs x1 x6 r) : Calls Try.prog 7 #[.slice A2 n3 c4, .int .i64 x6] w (trellislaw32_ChoosePairs_R w F  r) := by
  unfold trellislaw32_ChoosePairs at h
  refine calls_of_Loc (vs := [.slice A2 n3 c4, .int .i64 x6]) 149 Try.func7 rfl Try.ntmps7 rfl hL0 ?_
  show G (trellislaw32_ChoosePairs_C w F r) _ _ _ _
  refine g_seq (c := trellislaw32_ChoosePairs_c0) rfl ?_
  refine g_region (c := trellislaw32_ChoosePairs_c1) rfl rfl ?_
  refine wl_v 0 rfl (v_assign rfl) gn rfl ?_
  refine w_end 1 rfl ?_
  refine g_seq (c := trellislaw32_ChoosePairs_c2) rfl ?_
  refine g_seq (c := trellislaw32_ChoosePairs_c3) rfl ?_
  refine g_region (c := trellislaw32_ChoosePairs_c5) rfl rfl ?_
  obtain ⟨r10, hv11, h⟩ := h
  refine wl_s 0 rfl (s_call [] rfl Try.func25 rfl rfl rfl fun w7 hL8 => ?_) gn
  have hp9 : List.Perm ([] : List Ent) (([] : List Ent) ++ ([] : List Ent)) := perm_of_idx [] [] rfl rfl (by kernel_rfl)
  refine Calls.mono (trellislaw32_started_calls w7 (Fl ([] : List Snap)) (hL8.hFl (Sl := ([] : List Snap)) hp9 (sels [] rfl)) (hL8.into hp9 (Fl ([] : List Snap))) r10 hv11) ?_
  rintro _ w12 ⟨rfl, hM13⟩
  have hL14 := hL8.call hp9 hM13
  refine ⟨_, _, _, rfl, hL14, ?_⟩
  refine wl_v 1 rfl (v_not rfl) gn rfl ?_
  refine w_end 2 rfl ?_
  by_cases hp15 : r10 = true
  · have h := if_pos' hp15 h
    refine g_false (c := trellislaw32_ChoosePairs_c6) rfl _ rfl ((nf hp15)) ?_
    refine g_skip (c := trellislaw32_ChoosePairs_c8) rfl ?_
    refine g_seq (c := trellislaw32_ChoosePairs_c4) rfl ?_
    refine g_seq (c := trellislaw32_ChoosePairs_c9) rfl ?_
    refine g_region (c := trellislaw32_ChoosePairs_c11) rfl rfl ?_
    refine wl_v 0 rfl (v_move rfl) gn rfl ?_
    obtain ⟨r19, hv20, h⟩ := h
    refine wl_s 1 rfl (s_call [.slice A2 n3 c4] rfl Try.func9 rfl rfl rfl fun w16 hL17 => ?_) gn
    have hp18 : List.Perm ([] : List Ent) (([] : List Ent) ++ ([] : List Ent)) := perm_of_idx [] [] rfl rfl (by kernel_rfl)
    refine Calls.mono (trellisref15_Beyond_calls w16 (Fl ([] : List Snap)) x1 A2 n3 c4 (Rw.mono h5 (hL17.toSt hp18 (me 1 rfl))) (hL17.hFl (Sl := ([] : List Snap)) hp18 (sels [] rfl)) (hL17.into hp18 (Fl ([] : List Snap))) r19 hv20) ?_
    rintro _ w21 ⟨rfl, hM22⟩
    have hL23 := hL17.call hp18 hM22
    refine ⟨_, _, _, rfl, hL23, ?_⟩
    refine w_end 2 rfl ?_
    by_cases hp24 : r19 = true
    · have h := if_pos' hp24 h
      refine g_true (c := trellislaw32_ChoosePairs_c12) rfl _ rfl (hp24) ?_
      refine g_seq (c := trellislaw32_ChoosePairs_c13) rfl ?_
      refine g_region (c := trellislaw32_ChoosePairs_c15) rfl rfl ?_
      refine wl_v 0 rfl (v_assign rfl) gn rfl ?_
      refine w_end 1 rfl ?_
      refine g_retR (c := trellislaw32_ChoosePairs_c16) [.bool true] rfl Try.func7 rfl (.tmp rfl (.nil)) fun wr hLr => ?_
      have hMr : B.Loc w wr [] [St w []] := hLr.pick (rest := []) (perm_of_idx [] [] rfl rfl (by kernel_rfl)) (sels [1] rfl)
      have hMi : ∀ e ∈ ([] : List Ent), e ∈ ([] : List Ent) := sels [] rfl
      show trellislaw32_ChoosePairs_R w F  r (.returned (packV [.bool true])) wr
      rw [h]
      exact ⟨rfl, hMr⟩
    · have h := if_neg' hp24 h
      refine g_false (c := trellislaw32_ChoosePairs_c12) rfl _ rfl ((bf hp24)) ?_
      refine g_skip (c := trellislaw32_ChoosePairs_c14) rfl ?_
      refine g_seq (c := trellislaw32_ChoosePairs_c10) rfl ?_
      refine g_region (c := trellislaw32_ChoosePairs_c17) rfl rfl ?_
      refine wl_v 0 rfl (v_move rfl) gn rfl ?_
      refine wl_v 1 rfl (v_move rfl) gn rfl ?_
      obtain ⟨r28, hv29, h⟩ := h
      refine wl_s 2 rfl (s_call [.slice A2 n3 c4, .int .i64 x6] rfl Try.func29 rfl rfl rfl fun w25 hL26 => ?_) gn
      have hp27 : List.Perm ([] : List Ent) (([] : List Ent) ++ ([] : List Ent)) := perm_of_idx [] [] rfl rfl (by kernel_rfl)
      refine Calls.mono (choose_Pair_calls w25 (Fl ([] : List Snap)) x1 x6 A2 n3 c4 (Rw.mono h5 (hL26.toSt hp27 (me 1 rfl))) (hL26.hFl (Sl := ([] : List Snap)) hp27 (sels [] rfl)) (hL26.into hp27 (Fl ([] : List Snap))) r28 hv29) ?_
      rintro _ w30 ⟨rfl, hM31⟩
      have hL32 := hL26.call hp27 hM31
      refine ⟨_, _, _, rfl, hL32, ?_⟩
      refine wl_v 3 rfl (v_assign rfl) gn rfl ?_
      refine w_end 4 rfl ?_
      refine g_seq (c := trellislaw32_ChoosePairs_c18) rfl ?_
      refine g_seq (c := trellislaw32_ChoosePairs_c19) rfl ?_
      have j1 : ∀ (x55 : Bool) (h : trellislaw32_ChoosePairs_j1 r28 x1 x6 x55 r) , G (trellislaw32_ChoosePairs_C w F r) [.code trellislaw32_ChoosePairs_c22, .code trellislaw32_ChoosePairs_c20] [(0, .slice A2 n3 c4), (1, .int .i64 x6), (5, .int .i64 r28), (38, .bool x55)] [] [Sm w.heap.size F w [], St w []] := by
        intro x55 h
        unfold trellislaw32_ChoosePairs_j1 at h
        by_cases hp56 : x55 = true
        · have h := if_pos' hp56 h
          refine g_true (c := trellislaw32_ChoosePairs_c22) rfl _ rfl (hp56) ?_
          refine g_seq (c := trellislaw32_ChoosePairs_c23) rfl ?_
          refine g_region (c := trellislaw32_ChoosePairs_c25) rfl rfl ?_
          refine wl_v 0 rfl (v_move rfl) gn rfl ?_
          refine wl_v 1 rfl (v_bin rfl rfl rfl) gn rfl ?_
          refine wl_v 2 rfl (v_assign rfl) gn rfl ?_
          refine w_end 3 rfl ?_
          refine g_retR (c := trellislaw32_ChoosePairs_c26) [.bool (r28 == (-1))] rfl Try.func7 rfl (.tmp rfl (.nil)) fun wr hLr => ?_
          have hMr : B.Loc w wr [] [St w []] := hLr.pick (rest := []) (perm_of_idx [] [] rfl rfl (by kernel_rfl)) (sels [1] rfl)
          have hMi : ∀ e ∈ ([] : List Ent), e ∈ ([] : List Ent) := sels [] rfl
          show trellislaw32_ChoosePairs_R w F  r (.returned (packV [.bool (r28 == (-1))])) wr
          rw [h]
          exact ⟨rfl, hMr⟩
        · have h := if_neg' hp56 h
          refine g_false (c := trellislaw32_ChoosePairs_c22) rfl _ rfl ((bf hp56)) ?_
          refine g_skip (c := trellislaw32_ChoosePairs_c24) rfl ?_
          refine g_seq (c := trellislaw32_ChoosePairs_c20) rfl ?_
          refine g_seq (c := trellislaw32_ChoosePairs_c27) rfl ?_
          refine g_region (c := trellislaw32_ChoosePairs_c29) rfl rfl ?_
          refine wl_v 0 rfl (v_move rfl) gn rfl ?_
          refine wl_v 1 rfl (v_bin rfl rfl rfl) gn rfl ?_
          refine w_end 2 rfl ?_
          by_cases hp57 : r28 = -1
          · have h := if_pos' hp57 h
            refine g_true (c := trellislaw32_ChoosePairs_c30) rfl _ rfl ((eqi hp57)) ?_
            refine g_seq (c := trellislaw32_ChoosePairs_c31) rfl ?_
            refine g_region (c := trellislaw32_ChoosePairs_c33) rfl rfl ?_
            refine wl_v 0 rfl (v_move rfl) gn rfl ?_
            refine wl_v 1 rfl (v_move rfl) gn rfl ?_
            obtain ⟨r61, hv62, h⟩ := h
            refine wl_s 2 rfl (s_call [.slice A2 n3 c4, .int .i64 x6, .int .i64 1] rfl Try.func31 rfl rfl rfl fun w58 hL59 => ?_) gn
            have hp60 : List.Perm ([] : List Ent) (([] : List Ent) ++ ([] : List Ent)) := perm_of_idx [] [] rfl rfl (by kernel_rfl)
            refine Calls.mono (choose_Beside_calls w58 (Fl ([] : List Snap)) x1 x6 1 A2 n3 c4 (Rw.mono h5 (hL59.toSt hp60 (me 1 rfl))) (hL59.hFl (Sl := ([] : List Snap)) hp60 (sels [] rfl)) (hL59.into hp60 (Fl ([] : List Snap))) r61 hv62) ?_
            rintro _ w63 ⟨rfl, hM64⟩
            have hL65 := hL59.call hp60 hM64
            refine ⟨_, _, _, rfl, hL65, ?_⟩
            refine wl_v 3 rfl (v_assign rfl) gn rfl ?_
            refine w_end 4 rfl ?_
            refine g_seq (c := trellislaw32_ChoosePairs_c34) rfl ?_
            have j2 : ∀ (x276 : Bool) (h : trellislaw32_ChoosePairs_j2 x276 r) , G (trellislaw32_ChoosePairs_C w F r) [.code trellislaw32_ChoosePairs_c36, .code trellislaw32_ChoosePairs_c28] [(4, .bool x276)] [] [Sm w.heap.size F w [], St w []] := by
              intro x276 h
              unfold trellislaw32_ChoosePairs_j2 at h
              refine g_retR (c := trellislaw32_ChoosePairs_c36) [.bool x276] rfl Try.func7 rfl (.tmp rfl (.nil)) fun wr hLr => ?_
              have hMr : B.Loc w wr [] [St w []] := hLr.pick (rest := []) (perm_of_idx [] [] rfl rfl (by kernel_rfl)) (sels [1] rfl)
              have hMi : ∀ e ∈ ([] : List Ent), e ∈ ([] : List Ent) := sels [] rfl
              show trellislaw32_ChoosePairs_R w F  r (.returned (packV [.bool x276])) wr
              rw [h]
              exact ⟨rfl, hMr⟩
            obtain ⟨hb277, h⟩ := h
            obtain ⟨r282, hv283, h⟩ := h
            by_cases hp287 : r282 < 0
            · have h := if_pos' hp287 h
              have hns : Region.noSelect (Code.ops trellislaw32_ChoosePairs_c35) = true := by kernel_rfl
              refine g_drawF (c := trellislaw32_ChoosePairs_c35) [] [Sm w.heap.size F w [], St w []] [] 25 rfl rfl mix rfl (.slnil) (sels [0, 1] rfl) ?_
              refine wf_v 0 rfl (v_move rfl) gn rfl hns (by kernel_rfl) (by kernel_rfl) rfl rfl ?_
              refine wf_v 1 rfl (v_move rfl) gn rfl hns (by kernel_rfl) (by kernel_rfl) rfl rfl ?_
              have hr301 := Rw.readF (s := St w []) (hl := hl_api_Node) (h1 := h1_api_Node) h5 hb277
              refine wf_v 2 rfl (v_idxR (s := St w []) slE_22 rfl rfl h5 hb277) gn rfl hns (by kernel_rfl) (by kernel_rfl) rfl rfl ?_
              refine wf_v 3 rfl (v_ldA (St w []) ld_39 rfl hr301 rfl (me 1 rfl)) gn rfl hns (by kernel_rfl) (by kernel_rfl) rfl rfl ?_
              refine wf_all [4] (by kernel_rfl) rfl ⟨on_s 4 rfl gn rfl (s_call [.agg #[.string ((ix x1 x6).name), .bool ((ix x1 x6).named), .string ((ix x1 x6).field), .int .i64 ((ix x1 x6).from_), .int .i64 ((ix x1 x6).to), .int .i64 ((ix x1 x6).kids), .int .i64 ((ix x1 x6).leaf)]] rfl Try.func30 rfl rfl rfl fun w308 hL309 => ?_), trivial⟩
              have hp310 : List.Perm ([] : List Ent) (([] : List Ent) ++ ([] : List Ent)) := perm_of_idx [] [] rfl rfl (by kernel_rfl)
              refine Calls.mono (trellislaw32_kind_calls w308 (Fl ([] : List Snap)) (ix x1 x6) (hL309.hFl (Sl := ([] : List Snap)) hp310 (sels [] rfl)) (hL309.into hp310 (Fl ([] : List Snap))) r282 hv283) ?_
              rintro _ w311 ⟨rfl, hM312⟩
              have hL313 := hL309.call hp310 hM312
              refine ⟨_, _, _, rfl, hL313, ?_⟩
              refine ⟨sels [] rfl, sels [0, 1] rfl, ?_⟩
              refine wf_v 5 rfl (v_bin rfl rfl rfl) gn rfl hns (by kernel_rfl) (by kernel_rfl) rfl rfl ?_
              refine wf_v 6 rfl (v_move rfl) gn rfl hns (by kernel_rfl) (by kernel_rfl) rfl rfl ?_
              refine wf_bool 52 rfl ((decide_eq_true hp287)) ?_
              refine wf_pass 7 rfl (ps 52 rfl rfl rfl) hns (by kernel_rfl) (by kernel_rfl) rfl rfl ?_
              refine wf_pass 8 rfl (ps 52 rfl rfl rfl) hns (by kernel_rfl) (by kernel_rfl) rfl rfl ?_
              refine wf_v 9 rfl (v_pick (b := true) rfl rfl) gn rfl hns (by kernel_rfl) (by kernel_rfl) rfl rfl ?_
              refine wf_v 10 rfl (v_move rfl) gn rfl hns (by kernel_rfl) (by kernel_rfl) rfl rfl ?_
              refine wf_pass 11 rfl (ps 56 rfl rfl rfl) hns (by kernel_rfl) (by kernel_rfl) rfl rfl ?_
              refine wf_pass 12 rfl (ps 56 rfl rfl rfl) hns (by kernel_rfl) (by kernel_rfl) rfl rfl ?_
              refine wf_pass 13 rfl (ps 56 rfl rfl rfl) hns (by kernel_rfl) (by kernel_rfl) rfl rfl ?_
              refine wf_pass 14 rfl (ps 56 rfl rfl rfl) hns (by kernel_rfl) (by kernel_rfl) rfl rfl ?_
              refine wf_pass 15 rfl (ps 56 rfl rfl rfl) hns (by kernel_rfl) (by kernel_rfl) rfl rfl ?_
              refine wf_pass 16 rfl (ps 56 rfl rfl rfl) hns (by kernel_rfl) (by kernel_rfl) rfl rfl ?_
              refine wf_pass 17 rfl (ps 56 rfl rfl rfl) hns (by kernel_rfl) (by kernel_rfl) rfl rfl ?_
              refine wf_pass 18 rfl (ps 56 rfl rfl rfl) hns (by kernel_rfl) (by kernel_rfl) rfl rfl ?_
              refine wf_pass 19 rfl (ps 56 rfl rfl rfl) hns (by kernel_rfl) (by kernel_rfl) rfl rfl ?_
              refine wf_pass 20 rfl (ps 56 rfl rfl rfl) hns (by kernel_rfl) (by kernel_rfl) rfl rfl ?_
              refine wf_pass 21 rfl (ps 56 rfl rfl rfl) hns (by kernel_rfl) (by kernel_rfl) rfl rfl ?_
              refine wf_pass 22 rfl (ps 56 rfl rfl rfl) hns (by kernel_rfl) (by kernel_rfl) rfl rfl ?_
              refine wf_v 23 rfl (v_pick (b := true) rfl rfl) gn rfl hns (by kernel_rfl) (by kernel_rfl) rfl rfl ?_
              refine wf_v 24 rfl (v_assign rfl) gn rfl hns (by kernel_rfl) (by kernel_rfl) rfl rfl ?_
              refine wf_end (by kernel_rfl) ?_
              exact g_go [0, 1] (j2 true h) ⟨rfl, trivial⟩ (.slnil) rfl
            · have h := if_neg' hp287 h
              by_cases hp314 : r61 < 0
              · have h := if_pos' hp314 h
                have hns : Region.noSelect (Code.ops trellislaw32_ChoosePairs_c35) = true := by kernel_rfl
                refine g_drawF (c := trellislaw32_ChoosePairs_c35) [] [Sm w.heap.size F w [], St w []] [] 25 rfl rfl mix rfl (.slnil) (sels [0, 1] rfl) ?_
                refine wf_v 0 rfl (v_move rfl) gn rfl hns (by kernel_rfl) (by kernel_rfl) rfl rfl ?_
                refine wf_v 1 rfl (v_move rfl) gn rfl hns (by kernel_rfl) (by kernel_rfl) rfl rfl ?_
                have hr328 := Rw.readF (s := St w []) (hl := hl_api_Node) (h1 := h1_api_Node) h5 hb277
                refine wf_v 2 rfl (v_idxR (s := St w []) slE_22 rfl rfl h5 hb277) gn rfl hns (by kernel_rfl) (by kernel_rfl) rfl rfl ?_
                refine wf_v 3 rfl (v_ldA (St w []) ld_39 rfl hr328 rfl (me 1 rfl)) gn rfl hns (by kernel_rfl) (by kernel_rfl) rfl rfl ?_
                refine wf_all [4] (by kernel_rfl) rfl ⟨on_s 4 rfl gn rfl (s_call [.agg #[.string ((ix x1 x6).name), .bool ((ix x1 x6).named), .string ((ix x1 x6).field), .int .i64 ((ix x1 x6).from_), .int .i64 ((ix x1 x6).to), .int .i64 ((ix x1 x6).kids), .int .i64 ((ix x1 x6).leaf)]] rfl Try.func30 rfl rfl rfl fun w335 hL336 => ?_), trivial⟩
                have hp337 : List.Perm ([] : List Ent) (([] : List Ent) ++ ([] : List Ent)) := perm_of_idx [] [] rfl rfl (by kernel_rfl)
                refine Calls.mono (trellislaw32_kind_calls w335 (Fl ([] : List Snap)) (ix x1 x6) (hL336.hFl (Sl := ([] : List Snap)) hp337 (sels [] rfl)) (hL336.into hp337 (Fl ([] : List Snap))) r282 hv283) ?_
                rintro _ w338 ⟨rfl, hM339⟩
                have hL340 := hL336.call hp337 hM339
                refine ⟨_, _, _, rfl, hL340, ?_⟩
                refine ⟨sels [] rfl, sels [0, 1] rfl, ?_⟩
                refine wf_v 5 rfl (v_bin rfl rfl rfl) gn rfl hns (by kernel_rfl) (by kernel_rfl) rfl rfl ?_
                refine wf_v 6 rfl (v_move rfl) gn rfl hns (by kernel_rfl) (by kernel_rfl) rfl rfl ?_
                refine wf_bool 52 rfl ((decide_eq_false hp287)) ?_
                refine wf_v 7 rfl (v_move rfl) (gy 52 rfl rfl) rfl hns (by kernel_rfl) (by kernel_rfl) rfl rfl ?_
                refine wf_v 8 rfl (v_bin rfl rfl rfl) (gy 52 rfl rfl) rfl hns (by kernel_rfl) (by kernel_rfl) rfl rfl ?_
                refine wf_v 9 rfl (v_pick (b := false) rfl rfl) gn rfl hns (by kernel_rfl) (by kernel_rfl) rfl rfl ?_
                refine wf_v 10 rfl (v_move rfl) gn rfl hns (by kernel_rfl) (by kernel_rfl) rfl rfl ?_
                refine wf_bool 56 rfl ((decide_eq_true hp314)) ?_
                refine wf_pass 11 rfl (ps 56 rfl rfl rfl) hns (by kernel_rfl) (by kernel_rfl) rfl rfl ?_
                refine wf_pass 12 rfl (ps 56 rfl rfl rfl) hns (by kernel_rfl) (by kernel_rfl) rfl rfl ?_
                refine wf_pass 13 rfl (ps 56 rfl rfl rfl) hns (by kernel_rfl) (by kernel_rfl) rfl rfl ?_
                refine wf_pass 14 rfl (ps 56 rfl rfl rfl) hns (by kernel_rfl) (by kernel_rfl) rfl rfl ?_
                refine wf_pass 15 rfl (ps 56 rfl rfl rfl) hns (by kernel_rfl) (by kernel_rfl) rfl rfl ?_
                refine wf_pass 16 rfl (ps 56 rfl rfl rfl) hns (by kernel_rfl) (by kernel_rfl) rfl rfl ?_
                refine wf_pass 17 rfl (ps 56 rfl rfl rfl) hns (by kernel_rfl) (by kernel_rfl) rfl rfl ?_
                refine wf_pass 18 rfl (ps 56 rfl rfl rfl) hns (by kernel_rfl) (by kernel_rfl) rfl rfl ?_
                refine wf_pass 19 rfl (ps 56 rfl rfl rfl) hns (by kernel_rfl) (by kernel_rfl) rfl rfl ?_
                refine wf_pass 20 rfl (ps 56 rfl rfl rfl) hns (by kernel_rfl) (by kernel_rfl) rfl rfl ?_
                refine wf_pass 21 rfl (ps 56 rfl rfl rfl) hns (by kernel_rfl) (by kernel_rfl) rfl rfl ?_
                refine wf_pass 22 rfl (ps 56 rfl rfl rfl) hns (by kernel_rfl) (by kernel_rfl) rfl rfl ?_
                refine wf_v 23 rfl (v_pick (b := true) rfl rfl) gn rfl hns (by kernel_rfl) (by kernel_rfl) rfl rfl ?_
                refine wf_v 24 rfl (v_assign rfl) gn rfl hns (by kernel_rfl) (by kernel_rfl) rfl rfl ?_
                refine wf_end (by kernel_rfl) ?_
                exact g_go [0, 1] (j2 true h) ⟨rfl, trivial⟩ (.slnil) rfl
              · have h := if_neg' hp314 h
                obtain ⟨hb341, h⟩ := h
                obtain ⟨r346, hv347, h⟩ := h
                obtain ⟨r355, hv356, h⟩ := h
                have hns : Region.noSelect (Code.ops trellislaw32_ChoosePairs_c35) = true := by kernel_rfl
                refine g_drawF (c := trellislaw32_ChoosePairs_c35) [] [Sm w.heap.size F w [], St w []] [] 25 rfl rfl mix rfl (.slnil) (sels [0, 1] rfl) ?_
                refine wf_v 0 rfl (v_move rfl) gn rfl hns (by kernel_rfl) (by kernel_rfl) rfl rfl ?_
                refine wf_v 1 rfl (v_move rfl) gn rfl hns (by kernel_rfl) (by kernel_rfl) rfl rfl ?_
                have hr423 := Rw.readF (s := St w []) (hl := hl_api_Node) (h1 := h1_api_Node) h5 hb277
                refine wf_v 2 rfl (v_idxR (s := St w []) slE_22 rfl rfl h5 hb277) gn rfl hns (by kernel_rfl) (by kernel_rfl) rfl rfl ?_
                refine wf_v 3 rfl (v_ldA (St w []) ld_39 rfl hr423 rfl (me 1 rfl)) gn rfl hns (by kernel_rfl) (by kernel_rfl) rfl rfl ?_
                refine wf_all [4] (by kernel_rfl) rfl ⟨on_s 4 rfl gn rfl (s_call [.agg #[.string ((ix x1 x6).name), .bool ((ix x1 x6).named), .string ((ix x1 x6).field), .int .i64 ((ix x1 x6).from_), .int .i64 ((ix x1 x6).to), .int .i64 ((ix x1 x6).kids), .int .i64 ((ix x1 x6).leaf)]] rfl Try.func30 rfl rfl rfl fun w430 hL431 => ?_), trivial⟩
                have hp432 : List.Perm ([] : List Ent) (([] : List Ent) ++ ([] : List Ent)) := perm_of_idx [] [] rfl rfl (by kernel_rfl)
                refine Calls.mono (trellislaw32_kind_calls w430 (Fl ([] : List Snap)) (ix x1 x6) (hL431.hFl (Sl := ([] : List Snap)) hp432 (sels [] rfl)) (hL431.into hp432 (Fl ([] : List Snap))) r282 hv283) ?_
                rintro _ w433 ⟨rfl, hM434⟩
                have hL435 := hL431.call hp432 hM434
                refine ⟨_, _, _, rfl, hL435, ?_⟩
                refine ⟨sels [] rfl, sels [0, 1] rfl, ?_⟩
                refine wf_v 5 rfl (v_bin rfl rfl rfl) gn rfl hns (by kernel_rfl) (by kernel_rfl) rfl rfl ?_
                refine wf_v 6 rfl (v_move rfl) gn rfl hns (by kernel_rfl) (by kernel_rfl) rfl rfl ?_
                refine wf_bool 52 rfl ((decide_eq_false hp287)) ?_
                refine wf_v 7 rfl (v_move rfl) (gy 52 rfl rfl) rfl hns (by kernel_rfl) (by kernel_rfl) rfl rfl ?_
                refine wf_v 8 rfl (v_bin rfl rfl rfl) (gy 52 rfl rfl) rfl hns (by kernel_rfl) (by kernel_rfl) rfl rfl ?_
                refine wf_v 9 rfl (v_pick (b := false) rfl rfl) gn rfl hns (by kernel_rfl) (by kernel_rfl) rfl rfl ?_
                refine wf_v 10 rfl (v_move rfl) gn rfl hns (by kernel_rfl) (by kernel_rfl) rfl rfl ?_
                refine wf_bool 56 rfl ((decide_eq_false hp314)) ?_
                refine wf_v 11 rfl (v_move rfl) (gy 56 rfl rfl) rfl hns (by kernel_rfl) (by kernel_rfl) rfl rfl ?_
                refine wf_v 12 rfl (v_move rfl) (gy 56 rfl rfl) rfl hns (by kernel_rfl) (by kernel_rfl) rfl rfl ?_
                have hr436 := Rw.readF (s := St w []) (hl := hl_api_Node) (h1 := h1_api_Node) h5 hb341
                refine wf_v 13 rfl (v_idxR (s := St w []) slE_22 rfl rfl h5 hb341) (gy 56 rfl rfl) rfl hns (by kernel_rfl) (by kernel_rfl) rfl rfl ?_
                refine wf_v 14 rfl (v_ldA (St w []) ld_39 rfl hr436 rfl (me 1 rfl)) (gy 56 rfl rfl) rfl hns (by kernel_rfl) (by kernel_rfl) rfl rfl ?_
                refine wf_v 16 rfl (v_move rfl) (gy 56 rfl rfl) rfl hns (by kernel_rfl) (by kernel_rfl) rfl rfl ?_
                refine wf_v 17 rfl (v_move rfl) (gy 56 rfl rfl) rfl hns (by kernel_rfl) (by kernel_rfl) rfl rfl ?_
                have hr455 := Rw.readF (s := St w []) (hl := hl_api_Node) (h1 := h1_api_Node) h5 hb277
                refine wf_v 18 rfl (v_idxR (s := St w []) slE_22 rfl rfl h5 hb277) (gy 56 rfl rfl) rfl hns (by kernel_rfl) (by kernel_rfl) rfl rfl ?_
                refine wf_v 19 rfl (v_ldA (St w []) ld_39 rfl hr455 rfl (me 1 rfl)) (gy 56 rfl rfl) rfl hns (by kernel_rfl) (by kernel_rfl) rfl rfl ?_
                refine wf_all [15] (by kernel_rfl) rfl ⟨on_s 15 rfl (gy 56 rfl rfl) rfl (s_call [.agg #[.string ((ix x1 r61).name), .bool ((ix x1 r61).named), .string ((ix x1 r61).field), .int .i64 ((ix x1 r61).from_), .int .i64 ((ix x1 r61).to), .int .i64 ((ix x1 r61).kids), .int .i64 ((ix x1 r61).leaf)]] rfl Try.func30 rfl rfl rfl fun w468 hL469 => ?_), trivial⟩
                have hp470 : List.Perm ([] : List Ent) (([] : List Ent) ++ ([] : List Ent)) := perm_of_idx [] [] rfl rfl (by kernel_rfl)
                refine Calls.mono (trellislaw32_kind_calls w468 (Fl ([] : List Snap)) (ix x1 r61) (hL469.hFl (Sl := ([] : List Snap)) hp470 (sels [] rfl)) (hL469.into hp470 (Fl ([] : List Snap))) r346 hv347) ?_
                rintro _ w471 ⟨rfl, hM472⟩
                have hL473 := hL469.call hp470 hM472
                refine ⟨_, _, _, rfl, hL473, ?_⟩
                refine ⟨sels [] rfl, sels [0, 1] rfl, ?_⟩
                refine wf_all [20] (by kernel_rfl) rfl ⟨on_s 20 rfl (gy 56 rfl rfl) rfl (s_call [.agg #[.string ((ix x1 x6).name), .bool ((ix x1 x6).named), .string ((ix x1 x6).field), .int .i64 ((ix x1 x6).from_), .int .i64 ((ix x1 x6).to), .int .i64 ((ix x1 x6).kids), .int .i64 ((ix x1 x6).leaf)]] rfl Try.func30 rfl rfl rfl fun w480 hL481 => ?_), trivial⟩
                have hp482 : List.Perm ([] : List Ent) (([] : List Ent) ++ ([] : List Ent)) := perm_of_idx [] [] rfl rfl (by kernel_rfl)
                refine Calls.mono (trellislaw32_kind_calls w480 (Fl ([] : List Snap)) (ix x1 x6) (hL481.hFl (Sl := ([] : List Snap)) hp482 (sels [] rfl)) (hL481.into hp482 (Fl ([] : List Snap))) r355 hv356) ?_
                rintro _ w483 ⟨rfl, hM484⟩
                have hL485 := hL481.call hp482 hM484
                refine ⟨_, _, _, rfl, hL485, ?_⟩
                refine ⟨sels [] rfl, sels [0, 1] rfl, ?_⟩
                refine wf_v 21 rfl (v_neg rfl) (gy 56 rfl rfl) rfl hns (by kernel_rfl) (by kernel_rfl) rfl rfl ?_
                refine wf_v 22 rfl (v_bin rfl rfl rfl) (gy 56 rfl rfl) rfl hns (by kernel_rfl) (by kernel_rfl) rfl rfl ?_
                refine wf_v 23 rfl (v_pick (b := false) rfl rfl) gn rfl hns (by kernel_rfl) (by kernel_rfl) rfl rfl ?_
                refine wf_v 24 rfl (v_assign rfl) gn rfl hns (by kernel_rfl) (by kernel_rfl) rfl rfl ?_
                refine wf_end (by kernel_rfl) ?_
                exact g_go [0, 1] (j2 (r346 != (w64 (0 - r355))) h) ⟨rfl, trivial⟩ (.slnil) rfl
          · have h := if_neg' hp57 h
            refine g_false (c := trellislaw32_ChoosePairs_c30) rfl _ rfl ((nei hp57)) ?_
            refine g_skip (c := trellislaw32_ChoosePairs_c32) rfl ?_
            refine g_seq (c := trellislaw32_ChoosePairs_c28) rfl ?_
            refine g_seq (c := trellislaw32_ChoosePairs_c37) rfl ?_
            have j3 : ∀ (x1167 : Bool) (h : trellislaw32_ChoosePairs_j3 x6 r28 x1 x1167 r) , G (trellislaw32_ChoosePairs_C w F r) [.code trellislaw32_ChoosePairs_c40, .code trellislaw32_ChoosePairs_c38] [(0, .slice A2 n3 c4), (1, .int .i64 x6), (5, .int .i64 r28), (119, .bool x1167)] [] [Sm w.heap.size F w [], St w []] := by
              intro x1167 h
              unfold trellislaw32_ChoosePairs_j3 at h
              by_cases hp1168 : x1167 = true
              · have h := if_pos' hp1168 h
                refine g_true (c := trellislaw32_ChoosePairs_c40) rfl _ rfl (hp1168) ?_
                refine g_seq (c := trellislaw32_ChoosePairs_c41) rfl ?_
                refine g_region (c := trellislaw32_ChoosePairs_c43) rfl rfl ?_
                refine wl_v 0 rfl (v_assign rfl) gn rfl ?_
                refine w_end 1 rfl ?_
                refine g_retR (c := trellislaw32_ChoosePairs_c44) [.bool false] rfl Try.func7 rfl (.tmp rfl (.nil)) fun wr hLr => ?_
                have hMr : B.Loc w wr [] [St w []] := hLr.pick (rest := []) (perm_of_idx [] [] rfl rfl (by kernel_rfl)) (sels [1] rfl)
                have hMi : ∀ e ∈ ([] : List Ent), e ∈ ([] : List Ent) := sels [] rfl
                show trellislaw32_ChoosePairs_R w F  r (.returned (packV [.bool false])) wr
                rw [h]
                exact ⟨rfl, hMr⟩
              · have h := if_neg' hp1168 h
                refine g_false (c := trellislaw32_ChoosePairs_c40) rfl _ rfl ((bf hp1168)) ?_
                refine g_skip (c := trellislaw32_ChoosePairs_c42) rfl ?_
                refine g_seq (c := trellislaw32_ChoosePairs_c38) rfl ?_
                refine g_region (c := trellislaw32_ChoosePairs_c45) rfl rfl ?_
                refine wl_v 0 rfl (v_move rfl) gn rfl ?_
                refine wl_v 1 rfl (v_assign rfl) gn rfl ?_
                refine w_end 2 rfl ?_
                refine g_seq (c := trellislaw32_ChoosePairs_c46) rfl ?_
                refine g_region (c := trellislaw32_ChoosePairs_c47) rfl rfl ?_
                refine wl_v 0 rfl (v_move rfl) gn rfl ?_
                refine wl_v 1 rfl (v_assign rfl) gn rfl ?_
                refine w_end 2 rfl ?_
                refine g_seq (c := trellislaw32_ChoosePairs_c48) rfl ?_
                refine g_seq (c := trellislaw32_ChoosePairs_c49) rfl ?_
                refine g_region (c := trellislaw32_ChoosePairs_c51) rfl rfl ?_
                refine wl_v 0 rfl (v_move rfl) gn rfl ?_
                refine wl_v 1 rfl (v_move rfl) gn rfl ?_
                refine wl_v 2 rfl (v_bin rfl rfl rfl) gn rfl ?_
                refine w_end 3 rfl ?_
                have j4 : ∀ (x1171 : Int) (x1172 : Int) (h : trellislaw32_ChoosePairs_j4 x1 x1171 x1172 r) , G (trellislaw32_ChoosePairs_C w F r) [.code trellislaw32_ChoosePairs_c50] [(0, .slice A2 n3 c4), (7, .int .i64 x1171), (8, .int .i64 x1172)] [] [Sm w.heap.size F w [], St w []] := by
                  intro x1171 x1172 h
                  unfold trellislaw32_ChoosePairs_j4 at h
                  refine g_seq (c := trellislaw32_ChoosePairs_c50) rfl ?_
                  refine g_seq (c := trellislaw32_ChoosePairs_c55) rfl ?_
                  refine g_region (c := trellislaw32_ChoosePairs_c57) rfl rfl ?_
                  refine wl_v 0 rfl (v_move rfl) gn rfl ?_
                  refine wl_v 1 rfl (v_bin rfl rfl rfl) gn rfl ?_
                  refine wl_v 2 rfl (v_assign rfl) gn rfl ?_
                  refine w_end 3 rfl ?_
                  refine g_block (c := trellislaw32_ChoosePairs_c58) rfl ?_
                  refine g_loop (c := trellislaw32_ChoosePairs_c59) rfl ?_
                  have key5 : ∀ s, Rounds (fun (s : Int) o => trellislaw32_ChoosePairs_b5 x1172 x1 x1171 s o) s r → (fun (s : Int) => ∀ (_ : Unit), G (trellislaw32_ChoosePairs_C w F r) [.code trellislaw32_ChoosePairs_c60, .inLoop trellislaw32_ChoosePairs_c60, .inBlock 0, .code trellislaw32_ChoosePairs_c56] [(0, .slice A2 n3 c4), (7, .int .i64 x1171), (8, .int .i64 x1172), (9, .int .i64 s)] [] [Sm w.heap.size F w [], St w []]) s := by
                    intro s hs
                    refine Rounds.ind (mot := (fun (s : Int) => ∀ (_ : Unit), G (trellislaw32_ChoosePairs_C w F r) [.code trellislaw32_ChoosePairs_c60, .inLoop trellislaw32_ChoosePairs_c60, .inBlock 0, .code trellislaw32_ChoosePairs_c56] [(0, .slice A2 n3 c4), (7, .int .i64 x1171), (8, .int .i64 x1172), (9, .int .i64 s)] [] [Sm w.heap.size F w [], St w []])) ?_ hs
                    clear hs s
                    intro x1186 o1 h hO1
                    show ∀ (_ : Unit), G (trellislaw32_ChoosePairs_C w F r) [.code trellislaw32_ChoosePairs_c60, .inLoop trellislaw32_ChoosePairs_c60, .inBlock 0, .code trellislaw32_ChoosePairs_c56] [(0, .slice A2 n3 c4), (7, .int .i64 x1171), (8, .int .i64 x1172), (9, .int .i64 x1186)] [] [Sm w.heap.size F w [], St w []]
                    intro _
                    have h : trellislaw32_ChoosePairs_b5 x1172 x1 x1171 x1186 o1 := h
                    unfold trellislaw32_ChoosePairs_b5 at h
                    refine g_seq (c := trellislaw32_ChoosePairs_c60) rfl ?_
                    refine g_seq (c := trellislaw32_ChoosePairs_c61) rfl ?_
                    refine g_region (c := trellislaw32_ChoosePairs_c63) rfl rfl ?_
                    refine wl_v 0 rfl (v_move rfl) gn rfl ?_
                    refine wl_v 1 rfl (v_move rfl) gn rfl ?_
                    refine wl_v 2 rfl (v_bin rfl rfl rfl) gn rfl ?_
                    refine w_end 3 rfl ?_
                    by_cases hp1199 : x1186 < x1172
                    · have h := if_pos' hp1199 h
                      refine g_true (c := trellislaw32_ChoosePairs_c64) rfl _ rfl ((decide_eq_true hp1199)) ?_
                      refine g_skip (c := trellislaw32_ChoosePairs_c65) rfl ?_
                      refine g_seq (c := trellislaw32_ChoosePairs_c62) rfl ?_
                      refine g_block (c := trellislaw32_ChoosePairs_c67) rfl ?_
                      refine g_seq (c := trellislaw32_ChoosePairs_c69) rfl ?_
                      refine g_region (c := trellislaw32_ChoosePairs_c70) rfl rfl ?_
                      refine wl_v 0 rfl (v_move rfl) gn rfl ?_
                      refine wl_v 1 rfl (v_move rfl) gn rfl ?_
                      obtain ⟨r1203, hv1204, h⟩ := h
                      refine wl_s 2 rfl (s_call [.slice A2 n3 c4, .int .i64 x1186] rfl Try.func29 rfl rfl rfl fun w1200 hL1201 => ?_) gn
                      have hp1202 : List.Perm ([] : List Ent) (([] : List Ent) ++ ([] : List Ent)) := perm_of_idx [] [] rfl rfl (by kernel_rfl)
                      refine Calls.mono (choose_Pair_calls w1200 (Fl ([] : List Snap)) x1 x1186 A2 n3 c4 (Rw.mono h5 (hL1201.toSt hp1202 (me 1 rfl))) (hL1201.hFl (Sl := ([] : List Snap)) hp1202 (sels [] rfl)) (hL1201.into hp1202 (Fl ([] : List Snap))) r1203 hv1204) ?_
                      rintro _ w1205 ⟨rfl, hM1206⟩
                      have hL1207 := hL1201.call hp1202 hM1206
                      refine ⟨_, _, _, rfl, hL1207, ?_⟩
                      refine wl_v 3 rfl (v_assign rfl) gn rfl ?_
                      refine w_end 4 rfl ?_
                      refine g_seq (c := trellislaw32_ChoosePairs_c71) rfl ?_
                      refine g_region (c := trellislaw32_ChoosePairs_c72) rfl rfl ?_
                      refine wl_v 0 rfl (v_move rfl) gn rfl ?_
                      refine wl_v 1 rfl (v_bin rfl rfl rfl) gn rfl ?_
                      refine wl_v 2 rfl (v_move rfl) gn rfl ?_
                      by_cases hp1208 : r1203 ≥ 0
                      · have h := if_pos' hp1208 h
                        refine w_bool 139 rfl ((decide_eq_true hp1208)) ?_
                        refine wl_v 3 rfl (v_move rfl) (gy 139 rfl rfl) rfl ?_
                        refine wl_v 4 rfl (v_move rfl) (gy 139 rfl rfl) rfl ?_
                        refine wl_v 5 rfl (v_bin rfl rfl rfl) (gy 139 rfl rfl) rfl ?_
                        refine wl_v 6 rfl (v_move rfl) (gy 139 rfl rfl) rfl ?_
                        by_cases hp1209 : r1203 ≤ x1171
                        · have h := if_pos' hp1209 h
                          refine w_bool 143 rfl ((decide_eq_true hp1209)) ?_
                          refine wl_pass 7 rfl (ps 143 rfl rfl rfl) ?_
                          refine wl_pass 8 rfl (ps 143 rfl rfl rfl) ?_
                          refine wl_pass 9 rfl (ps 143 rfl rfl rfl) ?_
                          refine wl_v 10 rfl (v_pick (b := true) rfl rfl) (gy 139 rfl rfl) rfl ?_
                          refine wl_v 11 rfl (v_pick (b := true) rfl rfl) gn rfl ?_
                          refine w_end 12 rfl ?_
                          refine g_true (c := trellislaw32_ChoosePairs_c73) rfl _ rfl (rfl) ?_
                          refine g_seq (c := trellislaw32_ChoosePairs_c74) rfl ?_
                          refine g_region (c := trellislaw32_ChoosePairs_c76) rfl rfl ?_
                          refine wl_v 0 rfl (v_assign rfl) gn rfl ?_
                          refine w_end 1 rfl ?_
                          have h := Out.inr hO1 h
                          refine g_retR (c := trellislaw32_ChoosePairs_c77) [.bool false] rfl Try.func7 rfl (.tmp rfl (.nil)) fun wr hLr => ?_
                          have hMr : B.Loc w wr [] [St w []] := hLr.pick (rest := []) (perm_of_idx [] [] rfl rfl (by kernel_rfl)) (sels [1] rfl)
                          have hMi : ∀ e ∈ ([] : List Ent), e ∈ ([] : List Ent) := sels [] rfl
                          show trellislaw32_ChoosePairs_R w F  r (.returned (packV [.bool false])) wr
                          rw [h]
                          exact ⟨rfl, hMr⟩
                        · have h := if_neg' hp1209 h
                          refine w_bool 143 rfl ((decide_eq_false hp1209)) ?_
                          refine wl_v 7 rfl (v_move rfl) (gy 143 rfl rfl) rfl ?_
                          refine wl_v 8 rfl (v_move rfl) (gy 143 rfl rfl) rfl ?_
                          refine wl_v 9 rfl (v_bin rfl rfl rfl) (gy 143 rfl rfl) rfl ?_
                          refine wl_v 10 rfl (v_pick (b := false) rfl rfl) (gy 139 rfl rfl) rfl ?_
                          refine wl_v 11 rfl (v_pick (b := true) rfl rfl) gn rfl ?_
                          refine w_end 12 rfl ?_
                          by_cases hp1210 : r1203 ≥ x1172
                          · have h := if_pos' hp1210 h
                            refine g_true (c := trellislaw32_ChoosePairs_c73) rfl _ rfl ((decide_eq_true hp1210)) ?_
                            refine g_seq (c := trellislaw32_ChoosePairs_c74) rfl ?_
                            refine g_region (c := trellislaw32_ChoosePairs_c76) rfl rfl ?_
                            refine wl_v 0 rfl (v_assign rfl) gn rfl ?_
                            refine w_end 1 rfl ?_
                            have h := Out.inr hO1 h
                            refine g_retR (c := trellislaw32_ChoosePairs_c77) [.bool false] rfl Try.func7 rfl (.tmp rfl (.nil)) fun wr hLr => ?_
                            have hMr : B.Loc w wr [] [St w []] := hLr.pick (rest := []) (perm_of_idx [] [] rfl rfl (by kernel_rfl)) (sels [1] rfl)
                            have hMi : ∀ e ∈ ([] : List Ent), e ∈ ([] : List Ent) := sels [] rfl
                            show trellislaw32_ChoosePairs_R w F  r (.returned (packV [.bool false])) wr
                            rw [h]
                            exact ⟨rfl, hMr⟩
                          · have h := if_neg' hp1210 h
                            refine g_false (c := trellislaw32_ChoosePairs_c73) rfl _ rfl ((decide_eq_false hp1210)) ?_
                            refine g_skip (c := trellislaw32_ChoosePairs_c75) rfl ?_
                            refine g_inBlock ?_
                            refine g_region (c := trellislaw32_ChoosePairs_c68) rfl rfl ?_
                            refine wl_v 0 rfl (v_move rfl) gn rfl ?_
                            refine wl_v 1 rfl (v_bin rfl rfl rfl) gn rfl ?_
                            refine wl_v 2 rfl (v_assign rfl) gn rfl ?_
                            refine w_end 3 rfl ?_
                            refine g_inLoop ?_
                            have ih := Out.inl hO1 h
                            exact g_go [0, 1] (ih ()) ⟨rfl, rfl, rfl, rfl, trivial⟩ (.slnil) rfl
                      · have h := if_neg' hp1208 h
                        refine w_bool 139 rfl ((decide_eq_false hp1208)) ?_
                        refine wl_pass 3 rfl (ps 139 rfl rfl rfl) ?_
                        refine wl_pass 4 rfl (ps 139 rfl rfl rfl) ?_
                        refine wl_pass 5 rfl (ps 139 rfl rfl rfl) ?_
                        refine wl_pass 6 rfl (ps 139 rfl rfl rfl) ?_
                        refine wl_pass 7 rfl (pu 143 rfl rfl) ?_
                        refine wl_pass 8 rfl (pu 143 rfl rfl) ?_
                        refine wl_pass 9 rfl (pu 143 rfl rfl) ?_
                        refine wl_pass 10 rfl (ps 139 rfl rfl rfl) ?_
                        refine wl_v 11 rfl (v_pick (b := false) rfl rfl) gn rfl ?_
                        refine w_end 12 rfl ?_
                        refine g_false (c := trellislaw32_ChoosePairs_c73) rfl _ rfl (rfl) ?_
                        refine g_skip (c := trellislaw32_ChoosePairs_c75) rfl ?_
                        refine g_inBlock ?_
                        refine g_region (c := trellislaw32_ChoosePairs_c68) rfl rfl ?_
                        refine wl_v 0 rfl (v_move rfl) gn rfl ?_
                        refine wl_v 1 rfl (v_bin rfl rfl rfl) gn rfl ?_
                        refine wl_v 2 rfl (v_assign rfl) gn rfl ?_
                        refine w_end 3 rfl ?_
                        refine g_inLoop ?_
                        have ih := Out.inl hO1 h
                        exact g_go [0, 1] (ih ()) ⟨rfl, rfl, rfl, rfl, trivial⟩ (.slnil) rfl
                    · have h := if_neg' hp1199 h
                      refine g_false (c := trellislaw32_ChoosePairs_c64) rfl _ rfl ((decide_eq_false hp1199)) ?_
                      refine g_exit (c := trellislaw32_ChoosePairs_c66) [.code trellislaw32_ChoosePairs_c56] rfl rfl ?_
                      refine g_seq (c := trellislaw32_ChoosePairs_c56) rfl ?_
                      refine g_region (c := trellislaw32_ChoosePairs_c78) rfl rfl ?_
                      refine wl_v 0 rfl (v_assign rfl) gn rfl ?_
                      refine w_end 1 rfl ?_
                      have h := Out.inr hO1 h
                      refine g_retR (c := trellislaw32_ChoosePairs_c79) [.bool true] rfl Try.func7 rfl (.tmp rfl (.nil)) fun wr hLr => ?_
                      have hMr : B.Loc w wr [] [St w []] := hLr.pick (rest := []) (perm_of_idx [] [] rfl rfl (by kernel_rfl)) (sels [1] rfl)
                      have hMi : ∀ e ∈ ([] : List Ent), e ∈ ([] : List Ent) := sels [] rfl
                      show trellislaw32_ChoosePairs_R w F  r (.returned (packV [.bool true])) wr
                      rw [h]
                      exact ⟨rfl, hMr⟩
                  exact g_go [0, 1] (key5 _ h ()) ⟨rfl, rfl, rfl, rfl, trivial⟩ (.slnil) rfl
                by_cases hp1169 : x6 > r28
                · have h := if_pos' hp1169 h
                  refine g_true (c := trellislaw32_ChoosePairs_c52) rfl _ rfl ((decide_eq_true hp1169)) ?_
                  refine g_region (c := trellislaw32_ChoosePairs_c53) rfl rfl ?_
                  refine wl_v 0 rfl (v_move rfl) gn rfl ?_
                  refine wl_v 1 rfl (v_move rfl) gn rfl ?_
                  refine wl_v 2 rfl (v_assign rfl) gn rfl ?_
                  refine wl_v 3 rfl (v_assign rfl) gn rfl ?_
                  refine w_end 4 rfl ?_
                  exact g_go [0, 1] (j4 r28 x6 h) ⟨rfl, rfl, rfl, trivial⟩ (.slnil) rfl
                · have h := if_neg' hp1169 h
                  refine g_false (c := trellislaw32_ChoosePairs_c52) rfl _ rfl ((decide_eq_false hp1169)) ?_
                  refine g_skip (c := trellislaw32_ChoosePairs_c54) rfl ?_
                  exact g_go [0, 1] (j4 x6 r28 h) ⟨rfl, rfl, rfl, trivial⟩ (.slnil) rfl
            by_cases hp1211 : r28 < 0
            · have h := if_pos' hp1211 h
              have hns : Region.noSelect (Code.ops trellislaw32_ChoosePairs_c39) = true := by kernel_rfl
              refine g_drawF (c := trellislaw32_ChoosePairs_c39) [] [Sm w.heap.size F w [], St w []] [] 50 rfl rfl mix rfl (.slnil) (sels [0, 1] rfl) ?_
              refine wf_v 0 rfl (v_move rfl) gn rfl hns (by kernel_rfl) (by kernel_rfl) rfl rfl ?_
              refine wf_v 1 rfl (v_bin rfl rfl rfl) gn rfl hns (by kernel_rfl) (by kernel_rfl) rfl rfl ?_
              refine wf_v 2 rfl (v_move rfl) gn rfl hns (by kernel_rfl) (by kernel_rfl) rfl rfl ?_
              refine wf_bool 72 rfl ((decide_eq_true hp1211)) ?_
              refine wf_pass 3 rfl (ps 72 rfl rfl rfl) hns (by kernel_rfl) (by kernel_rfl) rfl rfl ?_
              refine wf_pass 4 rfl (ps 72 rfl rfl rfl) hns (by kernel_rfl) (by kernel_rfl) rfl rfl ?_
              refine wf_pass 5 rfl (ps 72 rfl rfl rfl) hns (by kernel_rfl) (by kernel_rfl) rfl rfl ?_
              refine wf_pass 6 rfl (ps 72 rfl rfl rfl) hns (by kernel_rfl) (by kernel_rfl) rfl rfl ?_
              refine wf_v 7 rfl (v_pick (b := true) rfl rfl) gn rfl hns (by kernel_rfl) (by kernel_rfl) rfl rfl ?_
              refine wf_v 8 rfl (v_move rfl) gn rfl hns (by kernel_rfl) (by kernel_rfl) rfl rfl ?_
              refine wf_pass 9 rfl (ps 78 rfl rfl rfl) hns (by kernel_rfl) (by kernel_rfl) rfl rfl ?_
              refine wf_pass 10 rfl (ps 78 rfl rfl rfl) hns (by kernel_rfl) (by kernel_rfl) rfl rfl ?_
              refine wf_pass 11 rfl (ps 78 rfl rfl rfl) hns (by kernel_rfl) (by kernel_rfl) rfl rfl ?_
              refine wf_pass 12 rfl (ps 78 rfl rfl rfl) hns (by kernel_rfl) (by kernel_rfl) rfl rfl ?_
              refine wf_pass 13 rfl (ps 78 rfl rfl rfl) hns (by kernel_rfl) (by kernel_rfl) rfl rfl ?_
              refine wf_pass 14 rfl (ps 78 rfl rfl rfl) hns (by kernel_rfl) (by kernel_rfl) rfl rfl ?_
              refine wf_pass 15 rfl (ps 78 rfl rfl rfl) hns (by kernel_rfl) (by kernel_rfl) rfl rfl ?_
              refine wf_pass 16 rfl (ps 78 rfl rfl rfl) hns (by kernel_rfl) (by kernel_rfl) rfl rfl ?_
              refine wf_pass 17 rfl (ps 78 rfl rfl rfl) hns (by kernel_rfl) (by kernel_rfl) rfl rfl ?_
              refine wf_pass 18 rfl (ps 78 rfl rfl rfl) hns (by kernel_rfl) (by kernel_rfl) rfl rfl ?_
              refine wf_pass 19 rfl (ps 78 rfl rfl rfl) hns (by kernel_rfl) (by kernel_rfl) rfl rfl ?_
              refine wf_pass 20 rfl (ps 78 rfl rfl rfl) hns (by kernel_rfl) (by kernel_rfl) rfl rfl ?_
              refine wf_v 21 rfl (v_pick (b := true) rfl rfl) gn rfl hns (by kernel_rfl) (by kernel_rfl) rfl rfl ?_
              refine wf_v 22 rfl (v_move rfl) gn rfl hns (by kernel_rfl) (by kernel_rfl) rfl rfl ?_
              refine wf_pass 23 rfl (ps 92 rfl rfl rfl) hns (by kernel_rfl) (by kernel_rfl) rfl rfl ?_
              refine wf_pass 24 rfl (ps 92 rfl rfl rfl) hns (by kernel_rfl) (by kernel_rfl) rfl rfl ?_
              refine wf_pass 25 rfl (ps 92 rfl rfl rfl) hns (by kernel_rfl) (by kernel_rfl) rfl rfl ?_
              refine wf_pass 26 rfl (ps 92 rfl rfl rfl) hns (by kernel_rfl) (by kernel_rfl) rfl rfl ?_
              refine wf_pass 27 rfl (ps 92 rfl rfl rfl) hns (by kernel_rfl) (by kernel_rfl) rfl rfl ?_
              refine wf_pass 28 rfl (ps 92 rfl rfl rfl) hns (by kernel_rfl) (by kernel_rfl) rfl rfl ?_
              refine wf_pass 29 rfl (ps 92 rfl rfl rfl) hns (by kernel_rfl) (by kernel_rfl) rfl rfl ?_
              refine wf_pass 30 rfl (ps 92 rfl rfl rfl) hns (by kernel_rfl) (by kernel_rfl) rfl rfl ?_
              refine wf_pass 31 rfl (ps 92 rfl rfl rfl) hns (by kernel_rfl) (by kernel_rfl) rfl rfl ?_
              refine wf_pass 32 rfl (ps 92 rfl rfl rfl) hns (by kernel_rfl) (by kernel_rfl) rfl rfl ?_
              refine wf_v 33 rfl (v_pick (b := true) rfl rfl) gn rfl hns (by kernel_rfl) (by kernel_rfl) rfl rfl ?_
              refine wf_v 34 rfl (v_move rfl) gn rfl hns (by kernel_rfl) (by kernel_rfl) rfl rfl ?_
              refine wf_pass 35 rfl (ps 104 rfl rfl rfl) hns (by kernel_rfl) (by kernel_rfl) rfl rfl ?_
              refine wf_pass 36 rfl (ps 104 rfl rfl rfl) hns (by kernel_rfl) (by kernel_rfl) rfl rfl ?_
              refine wf_pass 37 rfl (ps 104 rfl rfl rfl) hns (by kernel_rfl) (by kernel_rfl) rfl rfl ?_
              refine wf_pass 38 rfl (ps 104 rfl rfl rfl) hns (by kernel_rfl) (by kernel_rfl) rfl rfl ?_
              refine wf_pass 39 rfl (ps 104 rfl rfl rfl) hns (by kernel_rfl) (by kernel_rfl) rfl rfl ?_
              refine wf_v 40 rfl (v_pick (b := true) rfl rfl) gn rfl hns (by kernel_rfl) (by kernel_rfl) rfl rfl ?_
              refine wf_v 41 rfl (v_move rfl) gn rfl hns (by kernel_rfl) (by kernel_rfl) rfl rfl ?_
              refine wf_pass 42 rfl (ps 111 rfl rfl rfl) hns (by kernel_rfl) (by kernel_rfl) rfl rfl ?_
              refine wf_pass 43 rfl (ps 111 rfl rfl rfl) hns (by kernel_rfl) (by kernel_rfl) rfl rfl ?_
              refine wf_pass 44 rfl (ps 111 rfl rfl rfl) hns (by kernel_rfl) (by kernel_rfl) rfl rfl ?_
              refine wf_pass 45 rfl (ps 111 rfl rfl rfl) hns (by kernel_rfl) (by kernel_rfl) rfl rfl ?_
              refine wf_pass 46 rfl (ps 111 rfl rfl rfl) hns (by kernel_rfl) (by kernel_rfl) rfl rfl ?_
              refine wf_pass 47 rfl (ps 111 rfl rfl rfl) hns (by kernel_rfl) (by kernel_rfl) rfl rfl ?_
              refine wf_pass 48 rfl (ps 111 rfl rfl rfl) hns (by kernel_rfl) (by kernel_rfl) rfl rfl ?_
              refine wf_v 49 rfl (v_pick (b := true) rfl rfl) gn rfl hns (by kernel_rfl) (by kernel_rfl) rfl rfl ?_
              refine wf_end (by kernel_rfl) ?_
              exact g_go [0, 1] (j3 true h) ⟨rfl, rfl, rfl, rfl, trivial⟩ (.slnil) rfl
            · have h := if_neg' hp1211 h
              by_cases hp1212 : r28 ≥ (x1.length : Int)
              · have h := if_pos' hp1212 h
                have hns : Region.noSelect (Code.ops trellislaw32_ChoosePairs_c39) = true := by kernel_rfl
                refine g_drawF (c := trellislaw32_ChoosePairs_c39) [] [Sm w.heap.size F w [], St w []] [] 50 rfl rfl mix rfl (.slnil) (sels [0, 1] rfl) ?_
                refine wf_v 0 rfl (v_move rfl) gn rfl hns (by kernel_rfl) (by kernel_rfl) rfl rfl ?_
                refine wf_v 1 rfl (v_bin rfl rfl rfl) gn rfl hns (by kernel_rfl) (by kernel_rfl) rfl rfl ?_
                refine wf_v 2 rfl (v_move rfl) gn rfl hns (by kernel_rfl) (by kernel_rfl) rfl rfl ?_
                refine wf_bool 72 rfl ((decide_eq_false hp1211)) ?_
                refine wf_v 3 rfl (v_move rfl) (gy 72 rfl rfl) rfl hns (by kernel_rfl) (by kernel_rfl) rfl rfl ?_
                refine wf_v 4 rfl (v_move rfl) (gy 72 rfl rfl) rfl hns (by kernel_rfl) (by kernel_rfl) rfl rfl ?_
                refine wf_v 5 rfl (v_lenQ un_22 rfl h5.hq) (gy 72 rfl rfl) rfl hns (by kernel_rfl) (by kernel_rfl) rfl rfl ?_
                refine wf_v 6 rfl (v_bin rfl rfl rfl) (gy 72 rfl rfl) rfl hns (by kernel_rfl) (by kernel_rfl) rfl rfl ?_
                refine wf_v 7 rfl (v_pick (b := false) rfl rfl) gn rfl hns (by kernel_rfl) (by kernel_rfl) rfl rfl ?_
                refine wf_v 8 rfl (v_move rfl) gn rfl hns (by kernel_rfl) (by kernel_rfl) rfl rfl ?_
                refine wf_bool 78 rfl ((decide_eq_true hp1212)) ?_
                refine wf_pass 9 rfl (ps 78 rfl rfl rfl) hns (by kernel_rfl) (by kernel_rfl) rfl rfl ?_
                refine wf_pass 10 rfl (ps 78 rfl rfl rfl) hns (by kernel_rfl) (by kernel_rfl) rfl rfl ?_
                refine wf_pass 11 rfl (ps 78 rfl rfl rfl) hns (by kernel_rfl) (by kernel_rfl) rfl rfl ?_
                refine wf_pass 12 rfl (ps 78 rfl rfl rfl) hns (by kernel_rfl) (by kernel_rfl) rfl rfl ?_
                refine wf_pass 13 rfl (ps 78 rfl rfl rfl) hns (by kernel_rfl) (by kernel_rfl) rfl rfl ?_
                refine wf_pass 14 rfl (ps 78 rfl rfl rfl) hns (by kernel_rfl) (by kernel_rfl) rfl rfl ?_
                refine wf_pass 15 rfl (ps 78 rfl rfl rfl) hns (by kernel_rfl) (by kernel_rfl) rfl rfl ?_
                refine wf_pass 16 rfl (ps 78 rfl rfl rfl) hns (by kernel_rfl) (by kernel_rfl) rfl rfl ?_
                refine wf_pass 17 rfl (ps 78 rfl rfl rfl) hns (by kernel_rfl) (by kernel_rfl) rfl rfl ?_
                refine wf_pass 18 rfl (ps 78 rfl rfl rfl) hns (by kernel_rfl) (by kernel_rfl) rfl rfl ?_
                refine wf_pass 19 rfl (ps 78 rfl rfl rfl) hns (by kernel_rfl) (by kernel_rfl) rfl rfl ?_
                refine wf_pass 20 rfl (ps 78 rfl rfl rfl) hns (by kernel_rfl) (by kernel_rfl) rfl rfl ?_
                refine wf_v 21 rfl (v_pick (b := true) rfl rfl) gn rfl hns (by kernel_rfl) (by kernel_rfl) rfl rfl ?_
                refine wf_v 22 rfl (v_move rfl) gn rfl hns (by kernel_rfl) (by kernel_rfl) rfl rfl ?_
                refine wf_pass 23 rfl (ps 92 rfl rfl rfl) hns (by kernel_rfl) (by kernel_rfl) rfl rfl ?_
                refine wf_pass 24 rfl (ps 92 rfl rfl rfl) hns (by kernel_rfl) (by kernel_rfl) rfl rfl ?_
                refine wf_pass 25 rfl (ps 92 rfl rfl rfl) hns (by kernel_rfl) (by kernel_rfl) rfl rfl ?_
                refine wf_pass 26 rfl (ps 92 rfl rfl rfl) hns (by kernel_rfl) (by kernel_rfl) rfl rfl ?_
                refine wf_pass 27 rfl (ps 92 rfl rfl rfl) hns (by kernel_rfl) (by kernel_rfl) rfl rfl ?_
                refine wf_pass 28 rfl (ps 92 rfl rfl rfl) hns (by kernel_rfl) (by kernel_rfl) rfl rfl ?_
                refine wf_pass 29 rfl (ps 92 rfl rfl rfl) hns (by kernel_rfl) (by kernel_rfl) rfl rfl ?_
                refine wf_pass 30 rfl (ps 92 rfl rfl rfl) hns (by kernel_rfl) (by kernel_rfl) rfl rfl ?_
                refine wf_pass 31 rfl (ps 92 rfl rfl rfl) hns (by kernel_rfl) (by kernel_rfl) rfl rfl ?_
                refine wf_pass 32 rfl (ps 92 rfl rfl rfl) hns (by kernel_rfl) (by kernel_rfl) rfl rfl ?_
                refine wf_v 33 rfl (v_pick (b := true) rfl rfl) gn rfl hns (by kernel_rfl) (by kernel_rfl) rfl rfl ?_
                refine wf_v 34 rfl (v_move rfl) gn rfl hns (by kernel_rfl) (by kernel_rfl) rfl rfl ?_
                refine wf_pass 35 rfl (ps 104 rfl rfl rfl) hns (by kernel_rfl) (by kernel_rfl) rfl rfl ?_
                refine wf_pass 36 rfl (ps 104 rfl rfl rfl) hns (by kernel_rfl) (by kernel_rfl) rfl rfl ?_
                refine wf_pass 37 rfl (ps 104 rfl rfl rfl) hns (by kernel_rfl) (by kernel_rfl) rfl rfl ?_
                refine wf_pass 38 rfl (ps 104 rfl rfl rfl) hns (by kernel_rfl) (by kernel_rfl) rfl rfl ?_
                refine wf_pass 39 rfl (ps 104 rfl rfl rfl) hns (by kernel_rfl) (by kernel_rfl) rfl rfl ?_
                refine wf_v 40 rfl (v_pick (b := true) rfl rfl) gn rfl hns (by kernel_rfl) (by kernel_rfl) rfl rfl ?_
                refine wf_v 41 rfl (v_move rfl) gn rfl hns (by kernel_rfl) (by kernel_rfl) rfl rfl ?_
                refine wf_pass 42 rfl (ps 111 rfl rfl rfl) hns (by kernel_rfl) (by kernel_rfl) rfl rfl ?_
                refine wf_pass 43 rfl (ps 111 rfl rfl rfl) hns (by kernel_rfl) (by kernel_rfl) rfl rfl ?_
                refine wf_pass 44 rfl (ps 111 rfl rfl rfl) hns (by kernel_rfl) (by kernel_rfl) rfl rfl ?_
                refine wf_pass 45 rfl (ps 111 rfl rfl rfl) hns (by kernel_rfl) (by kernel_rfl) rfl rfl ?_
                refine wf_pass 46 rfl (ps 111 rfl rfl rfl) hns (by kernel_rfl) (by kernel_rfl) rfl rfl ?_
                refine wf_pass 47 rfl (ps 111 rfl rfl rfl) hns (by kernel_rfl) (by kernel_rfl) rfl rfl ?_
                refine wf_pass 48 rfl (ps 111 rfl rfl rfl) hns (by kernel_rfl) (by kernel_rfl) rfl rfl ?_
                refine wf_v 49 rfl (v_pick (b := true) rfl rfl) gn rfl hns (by kernel_rfl) (by kernel_rfl) rfl rfl ?_
                refine wf_end (by kernel_rfl) ?_
                exact g_go [0, 1] (j3 true h) ⟨rfl, rfl, rfl, rfl, trivial⟩ (.slnil) rfl
              · have h := if_neg' hp1212 h
                obtain ⟨hb1213, h⟩ := h
                obtain ⟨r1218, hv1219, h⟩ := h
                obtain ⟨hb1223, h⟩ := h
                obtain ⟨r1228, hv1229, h⟩ := h
                by_cases hp1233 : r1218 = w64 (0 - r1228)
                · have h := if_pos' hp1233 h
                  obtain ⟨r1238, hv1239, h⟩ := h
                  by_cases hp1243 : ((decide (r28 > x6)) != (decide (r1238 > 0))) = true
                  · have h := if_pos' hp1243 h
                    have hns : Region.noSelect (Code.ops trellislaw32_ChoosePairs_c39) = true := by kernel_rfl
                    refine g_drawF (c := trellislaw32_ChoosePairs_c39) [] [Sm w.heap.size F w [], St w []] [] 50 rfl rfl mix rfl (.slnil) (sels [0, 1] rfl) ?_
                    refine wf_v 0 rfl (v_move rfl) gn rfl hns (by kernel_rfl) (by kernel_rfl) rfl rfl ?_
                    refine wf_v 1 rfl (v_bin rfl rfl rfl) gn rfl hns (by kernel_rfl) (by kernel_rfl) rfl rfl ?_
                    refine wf_v 2 rfl (v_move rfl) gn rfl hns (by kernel_rfl) (by kernel_rfl) rfl rfl ?_
                    refine wf_bool 72 rfl ((decide_eq_false hp1211)) ?_
                    refine wf_v 3 rfl (v_move rfl) (gy 72 rfl rfl) rfl hns (by kernel_rfl) (by kernel_rfl) rfl rfl ?_
                    refine wf_v 4 rfl (v_move rfl) (gy 72 rfl rfl) rfl hns (by kernel_rfl) (by kernel_rfl) rfl rfl ?_
                    refine wf_v 5 rfl (v_lenQ un_22 rfl h5.hq) (gy 72 rfl rfl) rfl hns (by kernel_rfl) (by kernel_rfl) rfl rfl ?_
                    refine wf_v 6 rfl (v_bin rfl rfl rfl) (gy 72 rfl rfl) rfl hns (by kernel_rfl) (by kernel_rfl) rfl rfl ?_
                    refine wf_v 7 rfl (v_pick (b := false) rfl rfl) gn rfl hns (by kernel_rfl) (by kernel_rfl) rfl rfl ?_
                    refine wf_v 8 rfl (v_move rfl) gn rfl hns (by kernel_rfl) (by kernel_rfl) rfl rfl ?_
                    refine wf_bool 78 rfl ((decide_eq_false hp1212)) ?_
                    refine wf_v 9 rfl (v_move rfl) (gy 78 rfl rfl) rfl hns (by kernel_rfl) (by kernel_rfl) rfl rfl ?_
                    refine wf_v 10 rfl (v_move rfl) (gy 78 rfl rfl) rfl hns (by kernel_rfl) (by kernel_rfl) rfl rfl ?_
                    have hr1307 := Rw.readF (s := St w []) (hl := hl_api_Node) (h1 := h1_api_Node) h5 hb1213
                    refine wf_v 11 rfl (v_idxR (s := St w []) slE_22 rfl rfl h5 hb1213) (gy 78 rfl rfl) rfl hns (by kernel_rfl) (by kernel_rfl) rfl rfl ?_
                    refine wf_v 12 rfl (v_ldA (St w []) ld_39 rfl hr1307 rfl (me 1 rfl)) (gy 78 rfl rfl) rfl hns (by kernel_rfl) (by kernel_rfl) rfl rfl ?_
                    refine wf_v 14 rfl (v_move rfl) (gy 78 rfl rfl) rfl hns (by kernel_rfl) (by kernel_rfl) rfl rfl ?_
                    refine wf_v 15 rfl (v_move rfl) (gy 78 rfl rfl) rfl hns (by kernel_rfl) (by kernel_rfl) rfl rfl ?_
                    have hr1326 := Rw.readF (s := St w []) (hl := hl_api_Node) (h1 := h1_api_Node) h5 hb1223
                    refine wf_v 16 rfl (v_idxR (s := St w []) slE_22 rfl rfl h5 hb1223) (gy 78 rfl rfl) rfl hns (by kernel_rfl) (by kernel_rfl) rfl rfl ?_
                    refine wf_v 17 rfl (v_ldA (St w []) ld_39 rfl hr1326 rfl (me 1 rfl)) (gy 78 rfl rfl) rfl hns (by kernel_rfl) (by kernel_rfl) rfl rfl ?_
                    refine wf_all [13] (by kernel_rfl) rfl ⟨on_s 13 rfl (gy 78 rfl rfl) rfl (s_call [.agg #[.string ((ix x1 r28).name), .bool ((ix x1 r28).named), .string ((ix x1 r28).field), .int .i64 ((ix x1 r28).from_), .int .i64 ((ix x1 r28).to), .int .i64 ((ix x1 r28).kids), .int .i64 ((ix x1 r28).leaf)]] rfl Try.func30 rfl rfl rfl fun w1339 hL1340 => ?_), trivial⟩
                    have hp1341 : List.Perm ([] : List Ent) (([] : List Ent) ++ ([] : List Ent)) := perm_of_idx [] [] rfl rfl (by kernel_rfl)
                    refine Calls.mono (trellislaw32_kind_calls w1339 (Fl ([] : List Snap)) (ix x1 r28) (hL1340.hFl (Sl := ([] : List Snap)) hp1341 (sels [] rfl)) (hL1340.into hp1341 (Fl ([] : List Snap))) r1218 hv1219) ?_
                    rintro _ w1342 ⟨rfl, hM1343⟩
                    have hL1344 := hL1340.call hp1341 hM1343
                    refine ⟨_, _, _, rfl, hL1344, ?_⟩
                    refine ⟨sels [] rfl, sels [0, 1] rfl, ?_⟩
                    refine wf_all [18] (by kernel_rfl) rfl ⟨on_s 18 rfl (gy 78 rfl rfl) rfl (s_call [.agg #[.string ((ix x1 x6).name), .bool ((ix x1 x6).named), .string ((ix x1 x6).field), .int .i64 ((ix x1 x6).from_), .int .i64 ((ix x1 x6).to), .int .i64 ((ix x1 x6).kids), .int .i64 ((ix x1 x6).leaf)]] rfl Try.func30 rfl rfl rfl fun w1351 hL1352 => ?_), trivial⟩
                    have hp1353 : List.Perm ([] : List Ent) (([] : List Ent) ++ ([] : List Ent)) := perm_of_idx [] [] rfl rfl (by kernel_rfl)
                    refine Calls.mono (trellislaw32_kind_calls w1351 (Fl ([] : List Snap)) (ix x1 x6) (hL1352.hFl (Sl := ([] : List Snap)) hp1353 (sels [] rfl)) (hL1352.into hp1353 (Fl ([] : List Snap))) r1228 hv1229) ?_
                    rintro _ w1354 ⟨rfl, hM1355⟩
                    have hL1356 := hL1352.call hp1353 hM1355
                    refine ⟨_, _, _, rfl, hL1356, ?_⟩
                    refine ⟨sels [] rfl, sels [0, 1] rfl, ?_⟩
                    refine wf_v 19 rfl (v_neg rfl) (gy 78 rfl rfl) rfl hns (by kernel_rfl) (by kernel_rfl) rfl rfl ?_
                    refine wf_v 20 rfl (v_bin rfl rfl rfl) (gy 78 rfl rfl) rfl hns (by kernel_rfl) (by kernel_rfl) rfl rfl ?_
                    refine wf_v 21 rfl (v_pick (b := false) rfl rfl) gn rfl hns (by kernel_rfl) (by kernel_rfl) rfl rfl ?_
                    refine wf_v 22 rfl (v_move rfl) gn rfl hns (by kernel_rfl) (by kernel_rfl) rfl rfl ?_
                    refine wf_bool 92 rfl ((eqib hp1233)) ?_
                    refine wf_v 23 rfl (v_move rfl) (gy 92 rfl rfl) rfl hns (by kernel_rfl) (by kernel_rfl) rfl rfl ?_
                    refine wf_v 24 rfl (v_move rfl) (gy 92 rfl rfl) rfl hns (by kernel_rfl) (by kernel_rfl) rfl rfl ?_
                    refine wf_v 25 rfl (v_bin rfl rfl rfl) (gy 92 rfl rfl) rfl hns (by kernel_rfl) (by kernel_rfl) rfl rfl ?_
                    refine wf_v 26 rfl (v_move rfl) (gy 92 rfl rfl) rfl hns (by kernel_rfl) (by kernel_rfl) rfl rfl ?_
                    refine wf_v 27 rfl (v_move rfl) (gy 92 rfl rfl) rfl hns (by kernel_rfl) (by kernel_rfl) rfl rfl ?_
                    have hr1357 := Rw.readF (s := St w []) (hl := hl_api_Node) (h1 := h1_api_Node) h5 hb1223
                    refine wf_v 28 rfl (v_idxR (s := St w []) slE_22 rfl rfl h5 hb1223) (gy 92 rfl rfl) rfl hns (by kernel_rfl) (by kernel_rfl) rfl rfl ?_
                    refine wf_v 29 rfl (v_ldA (St w []) ld_39 rfl hr1357 rfl (me 1 rfl)) (gy 92 rfl rfl) rfl hns (by kernel_rfl) (by kernel_rfl) rfl rfl ?_
                    refine wf_all [30] (by kernel_rfl) rfl ⟨on_s 30 rfl (gy 92 rfl rfl) rfl (s_call [.agg #[.string ((ix x1 x6).name), .bool ((ix x1 x6).named), .string ((ix x1 x6).field), .int .i64 ((ix x1 x6).from_), .int .i64 ((ix x1 x6).to), .int .i64 ((ix x1 x6).kids), .int .i64 ((ix x1 x6).leaf)]] rfl Try.func30 rfl rfl rfl fun w1364 hL1365 => ?_), trivial⟩
                    have hp1366 : List.Perm ([] : List Ent) (([] : List Ent) ++ ([] : List Ent)) := perm_of_idx [] [] rfl rfl (by kernel_rfl)
                    refine Calls.mono (trellislaw32_kind_calls w1364 (Fl ([] : List Snap)) (ix x1 x6) (hL1365.hFl (Sl := ([] : List Snap)) hp1366 (sels [] rfl)) (hL1365.into hp1366 (Fl ([] : List Snap))) r1238 hv1239) ?_
                    rintro _ w1367 ⟨rfl, hM1368⟩
                    have hL1369 := hL1365.call hp1366 hM1368
                    refine ⟨_, _, _, rfl, hL1369, ?_⟩
                    refine ⟨sels [] rfl, sels [0, 1] rfl, ?_⟩
                    refine wf_v 31 rfl (v_bin rfl rfl rfl) (gy 92 rfl rfl) rfl hns (by kernel_rfl) (by kernel_rfl) rfl rfl ?_
                    refine wf_v 32 rfl (v_neB un_4 rfl rfl) (gy 92 rfl rfl) rfl hns (by kernel_rfl) (by kernel_rfl) rfl rfl ?_
                    refine wf_v 33 rfl (v_pick (b := false) rfl rfl) gn rfl hns (by kernel_rfl) (by kernel_rfl) rfl rfl ?_
                    refine wf_v 34 rfl (v_move rfl) gn rfl hns (by kernel_rfl) (by kernel_rfl) rfl rfl ?_
                    refine wf_bool 104 rfl (hp1243) ?_
                    refine wf_pass 35 rfl (ps 104 rfl rfl rfl) hns (by kernel_rfl) (by kernel_rfl) rfl rfl ?_
                    refine wf_pass 36 rfl (ps 104 rfl rfl rfl) hns (by kernel_rfl) (by kernel_rfl) rfl rfl ?_
                    refine wf_pass 37 rfl (ps 104 rfl rfl rfl) hns (by kernel_rfl) (by kernel_rfl) rfl rfl ?_
                    refine wf_pass 38 rfl (ps 104 rfl rfl rfl) hns (by kernel_rfl) (by kernel_rfl) rfl rfl ?_
                    refine wf_pass 39 rfl (ps 104 rfl rfl rfl) hns (by kernel_rfl) (by kernel_rfl) rfl rfl ?_
                    refine wf_v 40 rfl (v_pick (b := true) rfl rfl) gn rfl hns (by kernel_rfl) (by kernel_rfl) rfl rfl ?_
                    refine wf_v 41 rfl (v_move rfl) gn rfl hns (by kernel_rfl) (by kernel_rfl) rfl rfl ?_
                    refine wf_pass 42 rfl (ps 111 rfl rfl rfl) hns (by kernel_rfl) (by kernel_rfl) rfl rfl ?_
                    refine wf_pass 43 rfl (ps 111 rfl rfl rfl) hns (by kernel_rfl) (by kernel_rfl) rfl rfl ?_
                    refine wf_pass 44 rfl (ps 111 rfl rfl rfl) hns (by kernel_rfl) (by kernel_rfl) rfl rfl ?_
                    refine wf_pass 45 rfl (ps 111 rfl rfl rfl) hns (by kernel_rfl) (by kernel_rfl) rfl rfl ?_
                    refine wf_pass 46 rfl (ps 111 rfl rfl rfl) hns (by kernel_rfl) (by kernel_rfl) rfl rfl ?_
                    refine wf_pass 47 rfl (ps 111 rfl rfl rfl) hns (by kernel_rfl) (by kernel_rfl) rfl rfl ?_
                    refine wf_pass 48 rfl (ps 111 rfl rfl rfl) hns (by kernel_rfl) (by kernel_rfl) rfl rfl ?_
                    refine wf_v 49 rfl (v_pick (b := true) rfl rfl) gn rfl hns (by kernel_rfl) (by kernel_rfl) rfl rfl ?_
                    refine wf_end (by kernel_rfl) ?_
                    exact g_go [0, 1] (j3 true h) ⟨rfl, rfl, rfl, rfl, trivial⟩ (.slnil) rfl
                  · have h := if_neg' hp1243 h
                    obtain ⟨r1373, hv1374, h⟩ := h
                    by_cases hp1378 : r1373 = x6
                    · have h := if_pos' hp1378 h
                      obtain ⟨r1382, hv1383, h⟩ := h
                      obtain ⟨r1390, hv1391, h⟩ := h
                      have hns : Region.noSelect (Code.ops trellislaw32_ChoosePairs_c39) = true := by kernel_rfl
                      refine g_drawF (c := trellislaw32_ChoosePairs_c39) [] [Sm w.heap.size F w [], St w []] [] 50 rfl rfl mix rfl (.slnil) (sels [0, 1] rfl) ?_
                      refine wf_v 0 rfl (v_move rfl) gn rfl hns (by kernel_rfl) (by kernel_rfl) rfl rfl ?_
                      refine wf_v 1 rfl (v_bin rfl rfl rfl) gn rfl hns (by kernel_rfl) (by kernel_rfl) rfl rfl ?_
                      refine wf_v 2 rfl (v_move rfl) gn rfl hns (by kernel_rfl) (by kernel_rfl) rfl rfl ?_
                      refine wf_bool 72 rfl ((decide_eq_false hp1211)) ?_
                      refine wf_v 3 rfl (v_move rfl) (gy 72 rfl rfl) rfl hns (by kernel_rfl) (by kernel_rfl) rfl rfl ?_
                      refine wf_v 4 rfl (v_move rfl) (gy 72 rfl rfl) rfl hns (by kernel_rfl) (by kernel_rfl) rfl rfl ?_
                      refine wf_v 5 rfl (v_lenQ un_22 rfl h5.hq) (gy 72 rfl rfl) rfl hns (by kernel_rfl) (by kernel_rfl) rfl rfl ?_
                      refine wf_v 6 rfl (v_bin rfl rfl rfl) (gy 72 rfl rfl) rfl hns (by kernel_rfl) (by kernel_rfl) rfl rfl ?_
                      refine wf_v 7 rfl (v_pick (b := false) rfl rfl) gn rfl hns (by kernel_rfl) (by kernel_rfl) rfl rfl ?_
                      refine wf_v 8 rfl (v_move rfl) gn rfl hns (by kernel_rfl) (by kernel_rfl) rfl rfl ?_
                      refine wf_bool 78 rfl ((decide_eq_false hp1212)) ?_
                      refine wf_v 9 rfl (v_move rfl) (gy 78 rfl rfl) rfl hns (by kernel_rfl) (by kernel_rfl) rfl rfl ?_
                      refine wf_v 10 rfl (v_move rfl) (gy 78 rfl rfl) rfl hns (by kernel_rfl) (by kernel_rfl) rfl rfl ?_
                      have hr1512 := Rw.readF (s := St w []) (hl := hl_api_Node) (h1 := h1_api_Node) h5 hb1213
                      refine wf_v 11 rfl (v_idxR (s := St w []) slE_22 rfl rfl h5 hb1213) (gy 78 rfl rfl) rfl hns (by kernel_rfl) (by kernel_rfl) rfl rfl ?_
                      refine wf_v 12 rfl (v_ldA (St w []) ld_39 rfl hr1512 rfl (me 1 rfl)) (gy 78 rfl rfl) rfl hns (by kernel_rfl) (by kernel_rfl) rfl rfl ?_
                      refine wf_v 14 rfl (v_move rfl) (gy 78 rfl rfl) rfl hns (by kernel_rfl) (by kernel_rfl) rfl rfl ?_
                      refine wf_v 15 rfl (v_move rfl) (gy 78 rfl rfl) rfl hns (by kernel_rfl) (by kernel_rfl) rfl rfl ?_
                      have hr1531 := Rw.readF (s := St w []) (hl := hl_api_Node) (h1 := h1_api_Node) h5 hb1223
                      refine wf_v 16 rfl (v_idxR (s := St w []) slE_22 rfl rfl h5 hb1223) (gy 78 rfl rfl) rfl hns (by kernel_rfl) (by kernel_rfl) rfl rfl ?_
                      refine wf_v 17 rfl (v_ldA (St w []) ld_39 rfl hr1531 rfl (me 1 rfl)) (gy 78 rfl rfl) rfl hns (by kernel_rfl) (by kernel_rfl) rfl rfl ?_
                      refine wf_all [13] (by kernel_rfl) rfl ⟨on_s 13 rfl (gy 78 rfl rfl) rfl (s_call [.agg #[.string ((ix x1 r28).name), .bool ((ix x1 r28).named), .string ((ix x1 r28).field), .int .i64 ((ix x1 r28).from_), .int .i64 ((ix x1 r28).to), .int .i64 ((ix x1 r28).kids), .int .i64 ((ix x1 r28).leaf)]] rfl Try.func30 rfl rfl rfl fun w1544 hL1545 => ?_), trivial⟩
                      have hp1546 : List.Perm ([] : List Ent) (([] : List Ent) ++ ([] : List Ent)) := perm_of_idx [] [] rfl rfl (by kernel_rfl)
                      refine Calls.mono (trellislaw32_kind_calls w1544 (Fl ([] : List Snap)) (ix x1 r28) (hL1545.hFl (Sl := ([] : List Snap)) hp1546 (sels [] rfl)) (hL1545.into hp1546 (Fl ([] : List Snap))) r1218 hv1219) ?_
                      rintro _ w1547 ⟨rfl, hM1548⟩
                      have hL1549 := hL1545.call hp1546 hM1548
                      refine ⟨_, _, _, rfl, hL1549, ?_⟩
                      refine ⟨sels [] rfl, sels [0, 1] rfl, ?_⟩
                      refine wf_all [18] (by kernel_rfl) rfl ⟨on_s 18 rfl (gy 78 rfl rfl) rfl (s_call [.agg #[.string ((ix x1 x6).name), .bool ((ix x1 x6).named), .string ((ix x1 x6).field), .int .i64 ((ix x1 x6).from_), .int .i64 ((ix x1 x6).to), .int .i64 ((ix x1 x6).kids), .int .i64 ((ix x1 x6).leaf)]] rfl Try.func30 rfl rfl rfl fun w1556 hL1557 => ?_), trivial⟩
                      have hp1558 : List.Perm ([] : List Ent) (([] : List Ent) ++ ([] : List Ent)) := perm_of_idx [] [] rfl rfl (by kernel_rfl)
                      refine Calls.mono (trellislaw32_kind_calls w1556 (Fl ([] : List Snap)) (ix x1 x6) (hL1557.hFl (Sl := ([] : List Snap)) hp1558 (sels [] rfl)) (hL1557.into hp1558 (Fl ([] : List Snap))) r1228 hv1229) ?_
                      rintro _ w1559 ⟨rfl, hM1560⟩
                      have hL1561 := hL1557.call hp1558 hM1560
                      refine ⟨_, _, _, rfl, hL1561, ?_⟩
                      refine ⟨sels [] rfl, sels [0, 1] rfl, ?_⟩
                      refine wf_v 19 rfl (v_neg rfl) (gy 78 rfl rfl) rfl hns (by kernel_rfl) (by kernel_rfl) rfl rfl ?_
                      refine wf_v 20 rfl (v_bin rfl rfl rfl) (gy 78 rfl rfl) rfl hns (by kernel_rfl) (by kernel_rfl) rfl rfl ?_
                      refine wf_v 21 rfl (v_pick (b := false) rfl rfl) gn rfl hns (by kernel_rfl) (by kernel_rfl) rfl rfl ?_
                      refine wf_v 22 rfl (v_move rfl) gn rfl hns (by kernel_rfl) (by kernel_rfl) rfl rfl ?_
                      refine wf_bool 92 rfl ((eqib hp1233)) ?_
                      refine wf_v 23 rfl (v_move rfl) (gy 92 rfl rfl) rfl hns (by kernel_rfl) (by kernel_rfl) rfl rfl ?_
                      refine wf_v 24 rfl (v_move rfl) (gy 92 rfl rfl) rfl hns (by kernel_rfl) (by kernel_rfl) rfl rfl ?_
                      refine wf_v 25 rfl (v_bin rfl rfl rfl) (gy 92 rfl rfl) rfl hns (by kernel_rfl) (by kernel_rfl) rfl rfl ?_
                      refine wf_v 26 rfl (v_move rfl) (gy 92 rfl rfl) rfl hns (by kernel_rfl) (by kernel_rfl) rfl rfl ?_
                      refine wf_v 27 rfl (v_move rfl) (gy 92 rfl rfl) rfl hns (by kernel_rfl) (by kernel_rfl) rfl rfl ?_
                      have hr1562 := Rw.readF (s := St w []) (hl := hl_api_Node) (h1 := h1_api_Node) h5 hb1223
                      refine wf_v 28 rfl (v_idxR (s := St w []) slE_22 rfl rfl h5 hb1223) (gy 92 rfl rfl) rfl hns (by kernel_rfl) (by kernel_rfl) rfl rfl ?_
                      refine wf_v 29 rfl (v_ldA (St w []) ld_39 rfl hr1562 rfl (me 1 rfl)) (gy 92 rfl rfl) rfl hns (by kernel_rfl) (by kernel_rfl) rfl rfl ?_
                      refine wf_all [30] (by kernel_rfl) rfl ⟨on_s 30 rfl (gy 92 rfl rfl) rfl (s_call [.agg #[.string ((ix x1 x6).name), .bool ((ix x1 x6).named), .string ((ix x1 x6).field), .int .i64 ((ix x1 x6).from_), .int .i64 ((ix x1 x6).to), .int .i64 ((ix x1 x6).kids), .int .i64 ((ix x1 x6).leaf)]] rfl Try.func30 rfl rfl rfl fun w1569 hL1570 => ?_), trivial⟩
                      have hp1571 : List.Perm ([] : List Ent) (([] : List Ent) ++ ([] : List Ent)) := perm_of_idx [] [] rfl rfl (by kernel_rfl)
                      refine Calls.mono (trellislaw32_kind_calls w1569 (Fl ([] : List Snap)) (ix x1 x6) (hL1570.hFl (Sl := ([] : List Snap)) hp1571 (sels [] rfl)) (hL1570.into hp1571 (Fl ([] : List Snap))) r1238 hv1239) ?_
                      rintro _ w1572 ⟨rfl, hM1573⟩
                      have hL1574 := hL1570.call hp1571 hM1573
                      refine ⟨_, _, _, rfl, hL1574, ?_⟩
                      refine ⟨sels [] rfl, sels [0, 1] rfl, ?_⟩
                      refine wf_v 31 rfl (v_bin rfl rfl rfl) (gy 92 rfl rfl) rfl hns (by kernel_rfl) (by kernel_rfl) rfl rfl ?_
                      refine wf_v 32 rfl (v_neB un_4 rfl rfl) (gy 92 rfl rfl) rfl hns (by kernel_rfl) (by kernel_rfl) rfl rfl ?_
                      refine wf_v 33 rfl (v_pick (b := false) rfl rfl) gn rfl hns (by kernel_rfl) (by kernel_rfl) rfl rfl ?_
                      refine wf_v 34 rfl (v_move rfl) gn rfl hns (by kernel_rfl) (by kernel_rfl) rfl rfl ?_
                      refine wf_bool 104 rfl ((bf hp1243)) ?_
                      refine wf_v 35 rfl (v_move rfl) (gy 104 rfl rfl) rfl hns (by kernel_rfl) (by kernel_rfl) rfl rfl ?_
                      refine wf_v 36 rfl (v_move rfl) (gy 104 rfl rfl) rfl hns (by kernel_rfl) (by kernel_rfl) rfl rfl ?_
                      refine wf_v 38 rfl (v_move rfl) (gy 104 rfl rfl) rfl hns (by kernel_rfl) (by kernel_rfl) rfl rfl ?_
                      refine wf_all [37] (by kernel_rfl) rfl ⟨on_s 37 rfl (gy 104 rfl rfl) rfl (s_call [.slice A2 n3 c4, .int .i64 r28] rfl Try.func29 rfl rfl rfl fun w1587 hL1588 => ?_), trivial⟩
                      have hp1589 : List.Perm ([] : List Ent) (([] : List Ent) ++ ([] : List Ent)) := perm_of_idx [] [] rfl rfl (by kernel_rfl)
                      refine Calls.mono (choose_Pair_calls w1587 (Fl ([] : List Snap)) x1 r28 A2 n3 c4 (Rw.mono h5 (hL1588.toSt hp1589 (me 1 rfl))) (hL1588.hFl (Sl := ([] : List Snap)) hp1589 (sels [] rfl)) (hL1588.into hp1589 (Fl ([] : List Snap))) r1373 hv1374) ?_
                      rintro _ w1590 ⟨rfl, hM1591⟩
                      have hL1592 := hL1588.call hp1589 hM1591
                      refine ⟨_, _, _, rfl, hL1592, ?_⟩
                      refine ⟨sels [] rfl, sels [0, 1] rfl, ?_⟩
                      refine wf_v 39 rfl (v_bin rfl rfl rfl) (gy 104 rfl rfl) rfl hns (by kernel_rfl) (by kernel_rfl) rfl rfl ?_
                      refine wf_v 40 rfl (v_pick (b := false) rfl rfl) gn rfl hns (by kernel_rfl) (by kernel_rfl) rfl rfl ?_
                      refine wf_v 41 rfl (v_move rfl) gn rfl hns (by kernel_rfl) (by kernel_rfl) rfl rfl ?_
                      refine wf_bool 111 rfl ((eqib hp1378)) ?_
                      refine wf_v 42 rfl (v_move rfl) (gy 111 rfl rfl) rfl hns (by kernel_rfl) (by kernel_rfl) rfl rfl ?_
                      refine wf_v 43 rfl (v_move rfl) (gy 111 rfl rfl) rfl hns (by kernel_rfl) (by kernel_rfl) rfl rfl ?_
                      refine wf_v 45 rfl (v_move rfl) (gy 111 rfl rfl) rfl hns (by kernel_rfl) (by kernel_rfl) rfl rfl ?_
                      refine wf_v 46 rfl (v_move rfl) (gy 111 rfl rfl) rfl hns (by kernel_rfl) (by kernel_rfl) rfl rfl ?_
                      refine wf_all [44] (by kernel_rfl) rfl ⟨on_s 44 rfl (gy 111 rfl rfl) rfl (s_call [.slice A2 n3 c4, .int .i64 r28] rfl Try.func28 rfl rfl rfl fun w1611 hL1612 => ?_), trivial⟩
                      have hp1613 : List.Perm ([] : List Ent) (([] : List Ent) ++ ([] : List Ent)) := perm_of_idx [] [] rfl rfl (by kernel_rfl)
                      refine Calls.mono (tree_Parent_calls w1611 (Fl ([] : List Snap)) x1 r28 A2 n3 c4 (Rw.mono h5 (hL1612.toSt hp1613 (me 1 rfl))) (hL1612.hFl (Sl := ([] : List Snap)) hp1613 (sels [] rfl)) (hL1612.into hp1613 (Fl ([] : List Snap))) r1382 hv1383) ?_
                      rintro _ w1614 ⟨rfl, hM1615⟩
                      have hL1616 := hL1612.call hp1613 hM1615
                      refine ⟨_, _, _, rfl, hL1616, ?_⟩
                      refine ⟨sels [] rfl, sels [0, 1] rfl, ?_⟩
                      refine wf_all [47] (by kernel_rfl) rfl ⟨on_s 47 rfl (gy 111 rfl rfl) rfl (s_call [.slice A2 n3 c4, .int .i64 x6] rfl Try.func28 rfl rfl rfl fun w1623 hL1624 => ?_), trivial⟩
                      have hp1625 : List.Perm ([] : List Ent) (([] : List Ent) ++ ([] : List Ent)) := perm_of_idx [] [] rfl rfl (by kernel_rfl)
                      refine Calls.mono (tree_Parent_calls w1623 (Fl ([] : List Snap)) x1 x6 A2 n3 c4 (Rw.mono h5 (hL1624.toSt hp1625 (me 1 rfl))) (hL1624.hFl (Sl := ([] : List Snap)) hp1625 (sels [] rfl)) (hL1624.into hp1625 (Fl ([] : List Snap))) r1390 hv1391) ?_
                      rintro _ w1626 ⟨rfl, hM1627⟩
                      have hL1628 := hL1624.call hp1625 hM1627
                      refine ⟨_, _, _, rfl, hL1628, ?_⟩
                      refine ⟨sels [] rfl, sels [0, 1] rfl, ?_⟩
                      refine wf_v 48 rfl (v_bin rfl rfl rfl) (gy 111 rfl rfl) rfl hns (by kernel_rfl) (by kernel_rfl) rfl rfl ?_
                      refine wf_v 49 rfl (v_pick (b := false) rfl rfl) gn rfl hns (by kernel_rfl) (by kernel_rfl) rfl rfl ?_
                      refine wf_end (by kernel_rfl) ?_
                      exact g_go [0, 1] (j3 (r1382 != r1390) h) ⟨rfl, rfl, rfl, rfl, trivial⟩ (.slnil) rfl
                    · have h := if_neg' hp1378 h
                      have hns : Region.noSelect (Code.ops trellislaw32_ChoosePairs_c39) = true := by kernel_rfl
                      refine g_drawF (c := trellislaw32_ChoosePairs_c39) [] [Sm w.heap.size F w [], St w []] [] 50 rfl rfl mix rfl (.slnil) (sels [0, 1] rfl) ?_
                      refine wf_v 0 rfl (v_move rfl) gn rfl hns (by kernel_rfl) (by kernel_rfl) rfl rfl ?_
                      refine wf_v 1 rfl (v_bin rfl rfl rfl) gn rfl hns (by kernel_rfl) (by kernel_rfl) rfl rfl ?_
                      refine wf_v 2 rfl (v_move rfl) gn rfl hns (by kernel_rfl) (by kernel_rfl) rfl rfl ?_
                      refine wf_bool 72 rfl ((decide_eq_false hp1211)) ?_
                      refine wf_v 3 rfl (v_move rfl) (gy 72 rfl rfl) rfl hns (by kernel_rfl) (by kernel_rfl) rfl rfl ?_
                      refine wf_v 4 rfl (v_move rfl) (gy 72 rfl rfl) rfl hns (by kernel_rfl) (by kernel_rfl) rfl rfl ?_
                      refine wf_v 5 rfl (v_lenQ un_22 rfl h5.hq) (gy 72 rfl rfl) rfl hns (by kernel_rfl) (by kernel_rfl) rfl rfl ?_
                      refine wf_v 6 rfl (v_bin rfl rfl rfl) (gy 72 rfl rfl) rfl hns (by kernel_rfl) (by kernel_rfl) rfl rfl ?_
                      refine wf_v 7 rfl (v_pick (b := false) rfl rfl) gn rfl hns (by kernel_rfl) (by kernel_rfl) rfl rfl ?_
                      refine wf_v 8 rfl (v_move rfl) gn rfl hns (by kernel_rfl) (by kernel_rfl) rfl rfl ?_
                      refine wf_bool 78 rfl ((decide_eq_false hp1212)) ?_
                      refine wf_v 9 rfl (v_move rfl) (gy 78 rfl rfl) rfl hns (by kernel_rfl) (by kernel_rfl) rfl rfl ?_
                      refine wf_v 10 rfl (v_move rfl) (gy 78 rfl rfl) rfl hns (by kernel_rfl) (by kernel_rfl) rfl rfl ?_
                      have hr1710 := Rw.readF (s := St w []) (hl := hl_api_Node) (h1 := h1_api_Node) h5 hb1213
                      refine wf_v 11 rfl (v_idxR (s := St w []) slE_22 rfl rfl h5 hb1213) (gy 78 rfl rfl) rfl hns (by kernel_rfl) (by kernel_rfl) rfl rfl ?_
                      refine wf_v 12 rfl (v_ldA (St w []) ld_39 rfl hr1710 rfl (me 1 rfl)) (gy 78 rfl rfl) rfl hns (by kernel_rfl) (by kernel_rfl) rfl rfl ?_
                      refine wf_v 14 rfl (v_move rfl) (gy 78 rfl rfl) rfl hns (by kernel_rfl) (by kernel_rfl) rfl rfl ?_
                      refine wf_v 15 rfl (v_move rfl) (gy 78 rfl rfl) rfl hns (by kernel_rfl) (by kernel_rfl) rfl rfl ?_
                      have hr1729 := Rw.readF (s := St w []) (hl := hl_api_Node) (h1 := h1_api_Node) h5 hb1223
                      refine wf_v 16 rfl (v_idxR (s := St w []) slE_22 rfl rfl h5 hb1223) (gy 78 rfl rfl) rfl hns (by kernel_rfl) (by kernel_rfl) rfl rfl ?_
                      refine wf_v 17 rfl (v_ldA (St w []) ld_39 rfl hr1729 rfl (me 1 rfl)) (gy 78 rfl rfl) rfl hns (by kernel_rfl) (by kernel_rfl) rfl rfl ?_
                      refine wf_all [13] (by kernel_rfl) rfl ⟨on_s 13 rfl (gy 78 rfl rfl) rfl (s_call [.agg #[.string ((ix x1 r28).name), .bool ((ix x1 r28).named), .string ((ix x1 r28).field), .int .i64 ((ix x1 r28).from_), .int .i64 ((ix x1 r28).to), .int .i64 ((ix x1 r28).kids), .int .i64 ((ix x1 r28).leaf)]] rfl Try.func30 rfl rfl rfl fun w1742 hL1743 => ?_), trivial⟩
                      have hp1744 : List.Perm ([] : List Ent) (([] : List Ent) ++ ([] : List Ent)) := perm_of_idx [] [] rfl rfl (by kernel_rfl)
                      refine Calls.mono (trellislaw32_kind_calls w1742 (Fl ([] : List Snap)) (ix x1 r28) (hL1743.hFl (Sl := ([] : List Snap)) hp1744 (sels [] rfl)) (hL1743.into hp1744 (Fl ([] : List Snap))) r1218 hv1219) ?_
                      rintro _ w1745 ⟨rfl, hM1746⟩
                      have hL1747 := hL1743.call hp1744 hM1746
                      refine ⟨_, _, _, rfl, hL1747, ?_⟩
                      refine ⟨sels [] rfl, sels [0, 1] rfl, ?_⟩
                      refine wf_all [18] (by kernel_rfl) rfl ⟨on_s 18 rfl (gy 78 rfl rfl) rfl (s_call [.agg #[.string ((ix x1 x6).name), .bool ((ix x1 x6).named), .string ((ix x1 x6).field), .int .i64 ((ix x1 x6).from_), .int .i64 ((ix x1 x6).to), .int .i64 ((ix x1 x6).kids), .int .i64 ((ix x1 x6).leaf)]] rfl Try.func30 rfl rfl rfl fun w1754 hL1755 => ?_), trivial⟩
                      have hp1756 : List.Perm ([] : List Ent) (([] : List Ent) ++ ([] : List Ent)) := perm_of_idx [] [] rfl rfl (by kernel_rfl)
                      refine Calls.mono (trellislaw32_kind_calls w1754 (Fl ([] : List Snap)) (ix x1 x6) (hL1755.hFl (Sl := ([] : List Snap)) hp1756 (sels [] rfl)) (hL1755.into hp1756 (Fl ([] : List Snap))) r1228 hv1229) ?_
                      rintro _ w1757 ⟨rfl, hM1758⟩
                      have hL1759 := hL1755.call hp1756 hM1758
                      refine ⟨_, _, _, rfl, hL1759, ?_⟩
                      refine ⟨sels [] rfl, sels [0, 1] rfl, ?_⟩
                      refine wf_v 19 rfl (v_neg rfl) (gy 78 rfl rfl) rfl hns (by kernel_rfl) (by kernel_rfl) rfl rfl ?_
                      refine wf_v 20 rfl (v_bin rfl rfl rfl) (gy 78 rfl rfl) rfl hns (by kernel_rfl) (by kernel_rfl) rfl rfl ?_
                      refine wf_v 21 rfl (v_pick (b := false) rfl rfl) gn rfl hns (by kernel_rfl) (by kernel_rfl) rfl rfl ?_
                      refine wf_v 22 rfl (v_move rfl) gn rfl hns (by kernel_rfl) (by kernel_rfl) rfl rfl ?_
                      refine wf_bool 92 rfl ((eqib hp1233)) ?_
                      refine wf_v 23 rfl (v_move rfl) (gy 92 rfl rfl) rfl hns (by kernel_rfl) (by kernel_rfl) rfl rfl ?_
                      refine wf_v 24 rfl (v_move rfl) (gy 92 rfl rfl) rfl hns (by kernel_rfl) (by kernel_rfl) rfl rfl ?_
                      refine wf_v 25 rfl (v_bin rfl rfl rfl) (gy 92 rfl rfl) rfl hns (by kernel_rfl) (by kernel_rfl) rfl rfl ?_
                      refine wf_v 26 rfl (v_move rfl) (gy 92 rfl rfl) rfl hns (by kernel_rfl) (by kernel_rfl) rfl rfl ?_
                      refine wf_v 27 rfl (v_move rfl) (gy 92 rfl rfl) rfl hns (by kernel_rfl) (by kernel_rfl) rfl rfl ?_
                      have hr1760 := Rw.readF (s := St w []) (hl := hl_api_Node) (h1 := h1_api_Node) h5 hb1223
                      refine wf_v 28 rfl (v_idxR (s := St w []) slE_22 rfl rfl h5 hb1223) (gy 92 rfl rfl) rfl hns (by kernel_rfl) (by kernel_rfl) rfl rfl ?_
                      refine wf_v 29 rfl (v_ldA (St w []) ld_39 rfl hr1760 rfl (me 1 rfl)) (gy 92 rfl rfl) rfl hns (by kernel_rfl) (by kernel_rfl) rfl rfl ?_
                      refine wf_all [30] (by kernel_rfl) rfl ⟨on_s 30 rfl (gy 92 rfl rfl) rfl (s_call [.agg #[.string ((ix x1 x6).name), .bool ((ix x1 x6).named), .string ((ix x1 x6).field), .int .i64 ((ix x1 x6).from_), .int .i64 ((ix x1 x6).to), .int .i64 ((ix x1 x6).kids), .int .i64 ((ix x1 x6).leaf)]] rfl Try.func30 rfl rfl rfl fun w1767 hL1768 => ?_), trivial⟩
                      have hp1769 : List.Perm ([] : List Ent) (([] : List Ent) ++ ([] : List Ent)) := perm_of_idx [] [] rfl rfl (by kernel_rfl)
                      refine Calls.mono (trellislaw32_kind_calls w1767 (Fl ([] : List Snap)) (ix x1 x6) (hL1768.hFl (Sl := ([] : List Snap)) hp1769 (sels [] rfl)) (hL1768.into hp1769 (Fl ([] : List Snap))) r1238 hv1239) ?_
                      rintro _ w1770 ⟨rfl, hM1771⟩
                      have hL1772 := hL1768.call hp1769 hM1771
                      refine ⟨_, _, _, rfl, hL1772, ?_⟩
                      refine ⟨sels [] rfl, sels [0, 1] rfl, ?_⟩
                      refine wf_v 31 rfl (v_bin rfl rfl rfl) (gy 92 rfl rfl) rfl hns (by kernel_rfl) (by kernel_rfl) rfl rfl ?_
                      refine wf_v 32 rfl (v_neB un_4 rfl rfl) (gy 92 rfl rfl) rfl hns (by kernel_rfl) (by kernel_rfl) rfl rfl ?_
                      refine wf_v 33 rfl (v_pick (b := false) rfl rfl) gn rfl hns (by kernel_rfl) (by kernel_rfl) rfl rfl ?_
                      refine wf_v 34 rfl (v_move rfl) gn rfl hns (by kernel_rfl) (by kernel_rfl) rfl rfl ?_
                      refine wf_bool 104 rfl ((bf hp1243)) ?_
                      refine wf_v 35 rfl (v_move rfl) (gy 104 rfl rfl) rfl hns (by kernel_rfl) (by kernel_rfl) rfl rfl ?_
                      refine wf_v 36 rfl (v_move rfl) (gy 104 rfl rfl) rfl hns (by kernel_rfl) (by kernel_rfl) rfl rfl ?_
                      refine wf_v 38 rfl (v_move rfl) (gy 104 rfl rfl) rfl hns (by kernel_rfl) (by kernel_rfl) rfl rfl ?_
                      refine wf_all [37] (by kernel_rfl) rfl ⟨on_s 37 rfl (gy 104 rfl rfl) rfl (s_call [.slice A2 n3 c4, .int .i64 r28] rfl Try.func29 rfl rfl rfl fun w1785 hL1786 => ?_), trivial⟩
                      have hp1787 : List.Perm ([] : List Ent) (([] : List Ent) ++ ([] : List Ent)) := perm_of_idx [] [] rfl rfl (by kernel_rfl)
                      refine Calls.mono (choose_Pair_calls w1785 (Fl ([] : List Snap)) x1 r28 A2 n3 c4 (Rw.mono h5 (hL1786.toSt hp1787 (me 1 rfl))) (hL1786.hFl (Sl := ([] : List Snap)) hp1787 (sels [] rfl)) (hL1786.into hp1787 (Fl ([] : List Snap))) r1373 hv1374) ?_
                      rintro _ w1788 ⟨rfl, hM1789⟩
                      have hL1790 := hL1786.call hp1787 hM1789
                      refine ⟨_, _, _, rfl, hL1790, ?_⟩
                      refine ⟨sels [] rfl, sels [0, 1] rfl, ?_⟩
                      refine wf_v 39 rfl (v_bin rfl rfl rfl) (gy 104 rfl rfl) rfl hns (by kernel_rfl) (by kernel_rfl) rfl rfl ?_
                      refine wf_v 40 rfl (v_pick (b := false) rfl rfl) gn rfl hns (by kernel_rfl) (by kernel_rfl) rfl rfl ?_
                      refine wf_v 41 rfl (v_move rfl) gn rfl hns (by kernel_rfl) (by kernel_rfl) rfl rfl ?_
                      refine wf_bool 111 rfl ((neib hp1378)) ?_
                      refine wf_pass 42 rfl (ps 111 rfl rfl rfl) hns (by kernel_rfl) (by kernel_rfl) rfl rfl ?_
                      refine wf_pass 43 rfl (ps 111 rfl rfl rfl) hns (by kernel_rfl) (by kernel_rfl) rfl rfl ?_
                      refine wf_pass 44 rfl (ps 111 rfl rfl rfl) hns (by kernel_rfl) (by kernel_rfl) rfl rfl ?_
                      refine wf_pass 45 rfl (ps 111 rfl rfl rfl) hns (by kernel_rfl) (by kernel_rfl) rfl rfl ?_
                      refine wf_pass 46 rfl (ps 111 rfl rfl rfl) hns (by kernel_rfl) (by kernel_rfl) rfl rfl ?_
                      refine wf_pass 47 rfl (ps 111 rfl rfl rfl) hns (by kernel_rfl) (by kernel_rfl) rfl rfl ?_
                      refine wf_pass 48 rfl (ps 111 rfl rfl rfl) hns (by kernel_rfl) (by kernel_rfl) rfl rfl ?_
                      refine wf_v 49 rfl (v_pick (b := true) rfl rfl) gn rfl hns (by kernel_rfl) (by kernel_rfl) rfl rfl ?_
                      refine wf_end (by kernel_rfl) ?_
                      exact g_go [0, 1] (j3 true h) ⟨rfl, rfl, rfl, rfl, trivial⟩ (.slnil) rfl
                · have h := if_neg' hp1233 h
                  have hns : Region.noSelect (Code.ops trellislaw32_ChoosePairs_c39) = true := by kernel_rfl
                  refine g_drawF (c := trellislaw32_ChoosePairs_c39) [] [Sm w.heap.size F w [], St w []] [] 50 rfl rfl mix rfl (.slnil) (sels [0, 1] rfl) ?_
                  refine wf_v 0 rfl (v_move rfl) gn rfl hns (by kernel_rfl) (by kernel_rfl) rfl rfl ?_
                  refine wf_v 1 rfl (v_bin rfl rfl rfl) gn rfl hns (by kernel_rfl) (by kernel_rfl) rfl rfl ?_
                  refine wf_v 2 rfl (v_move rfl) gn rfl hns (by kernel_rfl) (by kernel_rfl) rfl rfl ?_
                  refine wf_bool 72 rfl ((decide_eq_false hp1211)) ?_
                  refine wf_v 3 rfl (v_move rfl) (gy 72 rfl rfl) rfl hns (by kernel_rfl) (by kernel_rfl) rfl rfl ?_
                  refine wf_v 4 rfl (v_move rfl) (gy 72 rfl rfl) rfl hns (by kernel_rfl) (by kernel_rfl) rfl rfl ?_
                  refine wf_v 5 rfl (v_lenQ un_22 rfl h5.hq) (gy 72 rfl rfl) rfl hns (by kernel_rfl) (by kernel_rfl) rfl rfl ?_
                  refine wf_v 6 rfl (v_bin rfl rfl rfl) (gy 72 rfl rfl) rfl hns (by kernel_rfl) (by kernel_rfl) rfl rfl ?_
                  refine wf_v 7 rfl (v_pick (b := false) rfl rfl) gn rfl hns (by kernel_rfl) (by kernel_rfl) rfl rfl ?_
                  refine wf_v 8 rfl (v_move rfl) gn rfl hns (by kernel_rfl) (by kernel_rfl) rfl rfl ?_
                  refine wf_bool 78 rfl ((decide_eq_false hp1212)) ?_
                  refine wf_v 9 rfl (v_move rfl) (gy 78 rfl rfl) rfl hns (by kernel_rfl) (by kernel_rfl) rfl rfl ?_
                  refine wf_v 10 rfl (v_move rfl) (gy 78 rfl rfl) rfl hns (by kernel_rfl) (by kernel_rfl) rfl rfl ?_
                  have hr1841 := Rw.readF (s := St w []) (hl := hl_api_Node) (h1 := h1_api_Node) h5 hb1213
                  refine wf_v 11 rfl (v_idxR (s := St w []) slE_22 rfl rfl h5 hb1213) (gy 78 rfl rfl) rfl hns (by kernel_rfl) (by kernel_rfl) rfl rfl ?_
                  refine wf_v 12 rfl (v_ldA (St w []) ld_39 rfl hr1841 rfl (me 1 rfl)) (gy 78 rfl rfl) rfl hns (by kernel_rfl) (by kernel_rfl) rfl rfl ?_
                  refine wf_v 14 rfl (v_move rfl) (gy 78 rfl rfl) rfl hns (by kernel_rfl) (by kernel_rfl) rfl rfl ?_
                  refine wf_v 15 rfl (v_move rfl) (gy 78 rfl rfl) rfl hns (by kernel_rfl) (by kernel_rfl) rfl rfl ?_
                  have hr1860 := Rw.readF (s := St w []) (hl := hl_api_Node) (h1 := h1_api_Node) h5 hb1223
                  refine wf_v 16 rfl (v_idxR (s := St w []) slE_22 rfl rfl h5 hb1223) (gy 78 rfl rfl) rfl hns (by kernel_rfl) (by kernel_rfl) rfl rfl ?_
                  refine wf_v 17 rfl (v_ldA (St w []) ld_39 rfl hr1860 rfl (me 1 rfl)) (gy 78 rfl rfl) rfl hns (by kernel_rfl) (by kernel_rfl) rfl rfl ?_
                  refine wf_all [13] (by kernel_rfl) rfl ⟨on_s 13 rfl (gy 78 rfl rfl) rfl (s_call [.agg #[.string ((ix x1 r28).name), .bool ((ix x1 r28).named), .string ((ix x1 r28).field), .int .i64 ((ix x1 r28).from_), .int .i64 ((ix x1 r28).to), .int .i64 ((ix x1 r28).kids), .int .i64 ((ix x1 r28).leaf)]] rfl Try.func30 rfl rfl rfl fun w1873 hL1874 => ?_), trivial⟩
                  have hp1875 : List.Perm ([] : List Ent) (([] : List Ent) ++ ([] : List Ent)) := perm_of_idx [] [] rfl rfl (by kernel_rfl)
                  refine Calls.mono (trellislaw32_kind_calls w1873 (Fl ([] : List Snap)) (ix x1 r28) (hL1874.hFl (Sl := ([] : List Snap)) hp1875 (sels [] rfl)) (hL1874.into hp1875 (Fl ([] : List Snap))) r1218 hv1219) ?_
                  rintro _ w1876 ⟨rfl, hM1877⟩
                  have hL1878 := hL1874.call hp1875 hM1877
                  refine ⟨_, _, _, rfl, hL1878, ?_⟩
                  refine ⟨sels [] rfl, sels [0, 1] rfl, ?_⟩
                  refine wf_all [18] (by kernel_rfl) rfl ⟨on_s 18 rfl (gy 78 rfl rfl) rfl (s_call [.agg #[.string ((ix x1 x6).name), .bool ((ix x1 x6).named), .string ((ix x1 x6).field), .int .i64 ((ix x1 x6).from_), .int .i64 ((ix x1 x6).to), .int .i64 ((ix x1 x6).kids), .int .i64 ((ix x1 x6).leaf)]] rfl Try.func30 rfl rfl rfl fun w1885 hL1886 => ?_), trivial⟩
                  have hp1887 : List.Perm ([] : List Ent) (([] : List Ent) ++ ([] : List Ent)) := perm_of_idx [] [] rfl rfl (by kernel_rfl)
                  refine Calls.mono (trellislaw32_kind_calls w1885 (Fl ([] : List Snap)) (ix x1 x6) (hL1886.hFl (Sl := ([] : List Snap)) hp1887 (sels [] rfl)) (hL1886.into hp1887 (Fl ([] : List Snap))) r1228 hv1229) ?_
                  rintro _ w1888 ⟨rfl, hM1889⟩
                  have hL1890 := hL1886.call hp1887 hM1889
                  refine ⟨_, _, _, rfl, hL1890, ?_⟩
                  refine ⟨sels [] rfl, sels [0, 1] rfl, ?_⟩
                  refine wf_v 19 rfl (v_neg rfl) (gy 78 rfl rfl) rfl hns (by kernel_rfl) (by kernel_rfl) rfl rfl ?_
                  refine wf_v 20 rfl (v_bin rfl rfl rfl) (gy 78 rfl rfl) rfl hns (by kernel_rfl) (by kernel_rfl) rfl rfl ?_
                  refine wf_v 21 rfl (v_pick (b := false) rfl rfl) gn rfl hns (by kernel_rfl) (by kernel_rfl) rfl rfl ?_
                  refine wf_v 22 rfl (v_move rfl) gn rfl hns (by kernel_rfl) (by kernel_rfl) rfl rfl ?_
                  refine wf_bool 92 rfl ((neib hp1233)) ?_
                  refine wf_pass 23 rfl (ps 92 rfl rfl rfl) hns (by kernel_rfl) (by kernel_rfl) rfl rfl ?_
                  refine wf_pass 24 rfl (ps 92 rfl rfl rfl) hns (by kernel_rfl) (by kernel_rfl) rfl rfl ?_
                  refine wf_pass 25 rfl (ps 92 rfl rfl rfl) hns (by kernel_rfl) (by kernel_rfl) rfl rfl ?_
                  refine wf_pass 26 rfl (ps 92 rfl rfl rfl) hns (by kernel_rfl) (by kernel_rfl) rfl rfl ?_
                  refine wf_pass 27 rfl (ps 92 rfl rfl rfl) hns (by kernel_rfl) (by kernel_rfl) rfl rfl ?_
                  refine wf_pass 28 rfl (ps 92 rfl rfl rfl) hns (by kernel_rfl) (by kernel_rfl) rfl rfl ?_
                  refine wf_pass 29 rfl (ps 92 rfl rfl rfl) hns (by kernel_rfl) (by kernel_rfl) rfl rfl ?_
                  refine wf_pass 30 rfl (ps 92 rfl rfl rfl) hns (by kernel_rfl) (by kernel_rfl) rfl rfl ?_
                  refine wf_pass 31 rfl (ps 92 rfl rfl rfl) hns (by kernel_rfl) (by kernel_rfl) rfl rfl ?_
                  refine wf_pass 32 rfl (ps 92 rfl rfl rfl) hns (by kernel_rfl) (by kernel_rfl) rfl rfl ?_
                  refine wf_v 33 rfl (v_pick (b := true) rfl rfl) gn rfl hns (by kernel_rfl) (by kernel_rfl) rfl rfl ?_
                  refine wf_v 34 rfl (v_move rfl) gn rfl hns (by kernel_rfl) (by kernel_rfl) rfl rfl ?_
                  refine wf_pass 35 rfl (ps 104 rfl rfl rfl) hns (by kernel_rfl) (by kernel_rfl) rfl rfl ?_
                  refine wf_pass 36 rfl (ps 104 rfl rfl rfl) hns (by kernel_rfl) (by kernel_rfl) rfl rfl ?_
                  refine wf_pass 37 rfl (ps 104 rfl rfl rfl) hns (by kernel_rfl) (by kernel_rfl) rfl rfl ?_
                  refine wf_pass 38 rfl (ps 104 rfl rfl rfl) hns (by kernel_rfl) (by kernel_rfl) rfl rfl ?_
                  refine wf_pass 39 rfl (ps 104 rfl rfl rfl) hns (by kernel_rfl) (by kernel_rfl) rfl rfl ?_
                  refine wf_v 40 rfl (v_pick (b := true) rfl rfl) gn rfl hns (by kernel_rfl) (by kernel_rfl) rfl rfl ?_
                  refine wf_v 41 rfl (v_move rfl) gn rfl hns (by kernel_rfl) (by kernel_rfl) rfl rfl ?_
                  refine wf_pass 42 rfl (ps 111 rfl rfl rfl) hns (by kernel_rfl) (by kernel_rfl) rfl rfl ?_
                  refine wf_pass 43 rfl (ps 111 rfl rfl rfl) hns (by kernel_rfl) (by kernel_rfl) rfl rfl ?_
                  refine wf_pass 44 rfl (ps 111 rfl rfl rfl) hns (by kernel_rfl) (by kernel_rfl) rfl rfl ?_
                  refine wf_pass 45 rfl (ps 111 rfl rfl rfl) hns (by kernel_rfl) (by kernel_rfl) rfl rfl ?_
                  refine wf_pass 46 rfl (ps 111 rfl rfl rfl) hns (by kernel_rfl) (by kernel_rfl) rfl rfl ?_
                  refine wf_pass 47 rfl (ps 111 rfl rfl rfl) hns (by kernel_rfl) (by kernel_rfl) rfl rfl ?_
                  refine wf_pass 48 rfl (ps 111 rfl rfl rfl) hns (by kernel_rfl) (by kernel_rfl) rfl rfl ?_
                  refine wf_v 49 rfl (v_pick (b := true) rfl rfl) gn rfl hns (by kernel_rfl) (by kernel_rfl) rfl rfl ?_
                  refine wf_end (by kernel_rfl) ?_
                  exact g_go [0, 1] (j3 true h) ⟨rfl, rfl, rfl, rfl, trivial⟩ (.slnil) rfl
      refine g_region (c := trellislaw32_ChoosePairs_c21) rfl rfl ?_
      refine wl_v 0 rfl (v_move rfl) gn rfl ?_
      obtain ⟨r1894, hv1895, h⟩ := h
      refine wl_s 1 rfl (s_call [.slice A2 n3 c4] rfl Try.func27 rfl rfl rfl fun w1891 hL1892 => ?_) gn
      have hp1893 : List.Perm ([] : List Ent) (([] : List Ent) ++ ([] : List Ent)) := perm_of_idx [] [] rfl rfl (by kernel_rfl)
      refine Calls.mono (tree_Roots_calls w1891 (Fl ([] : List Snap)) x1 A2 n3 c4 (Rw.mono h5 (hL1892.toSt hp1893 (me 1 rfl))) (hL1892.hFl (Sl := ([] : List Snap)) hp1893 (sels [] rfl)) (hL1892.into hp1893 (Fl ([] : List Snap))) r1894 hv1895) ?_
      rintro _ w1896 ⟨rfl, hM1897⟩
      have hL1898 := hL1892.call hp1893 hM1897
      refine ⟨_, _, _, rfl, hL1898, ?_⟩
      refine wl_v 2 rfl (v_bin rfl rfl rfl) gn rfl ?_
      refine wl_v 3 rfl (v_move rfl) gn rfl ?_
      by_cases hp1899 : r1894 < 0
      · have h := if_pos' hp1899 h
        refine w_bool 21 rfl ((decide_eq_true hp1899)) ?_
        refine wl_pass 4 rfl (ps 21 rfl rfl rfl) ?_
        refine wl_pass 5 rfl (ps 21 rfl rfl rfl) ?_
        refine wl_v 6 rfl (v_pick (b := true) rfl rfl) gn rfl ?_
        refine wl_v 7 rfl (v_move rfl) gn rfl ?_
        refine wl_pass 8 rfl (ps 25 rfl rfl rfl) ?_
        refine wl_pass 9 rfl (ps 25 rfl rfl rfl) ?_
        refine wl_pass 10 rfl (ps 25 rfl rfl rfl) ?_
        refine wl_pass 11 rfl (ps 25 rfl rfl rfl) ?_
        refine wl_v 12 rfl (v_pick (b := true) rfl rfl) gn rfl ?_
        refine wl_v 13 rfl (v_move rfl) gn rfl ?_
        refine wl_pass 14 rfl (ps 31 rfl rfl rfl) ?_
        refine wl_pass 15 rfl (ps 31 rfl rfl rfl) ?_
        refine wl_pass 16 rfl (ps 31 rfl rfl rfl) ?_
        refine wl_pass 17 rfl (ps 31 rfl rfl rfl) ?_
        refine wl_pass 18 rfl (ps 31 rfl rfl rfl) ?_
        refine wl_pass 19 rfl (ps 31 rfl rfl rfl) ?_
        refine wl_v 20 rfl (v_pick (b := true) rfl rfl) gn rfl ?_
        refine w_end 21 rfl ?_
        exact g_go [0, 1] (j1 true h) ⟨rfl, rfl, rfl, rfl, trivial⟩ (.slnil) rfl
      · have h := if_neg' hp1899 h
        refine w_bool 21 rfl ((decide_eq_false hp1899)) ?_
        refine wl_v 4 rfl (v_move rfl) (gy 21 rfl rfl) rfl ?_
        refine wl_v 5 rfl (v_bin rfl rfl rfl) (gy 21 rfl rfl) rfl ?_
        refine wl_v 6 rfl (v_pick (b := false) rfl rfl) gn rfl ?_
        refine wl_v 7 rfl (v_move rfl) gn rfl ?_
        by_cases hp1900 : x6 < 0
        · have h := if_pos' hp1900 h
          refine w_bool 25 rfl ((decide_eq_true hp1900)) ?_
          refine wl_pass 8 rfl (ps 25 rfl rfl rfl) ?_
          refine wl_pass 9 rfl (ps 25 rfl rfl rfl) ?_
          refine wl_pass 10 rfl (ps 25 rfl rfl rfl) ?_
          refine wl_pass 11 rfl (ps 25 rfl rfl rfl) ?_
          refine wl_v 12 rfl (v_pick (b := true) rfl rfl) gn rfl ?_
          refine wl_v 13 rfl (v_move rfl) gn rfl ?_
          refine wl_pass 14 rfl (ps 31 rfl rfl rfl) ?_
          refine wl_pass 15 rfl (ps 31 rfl rfl rfl) ?_
          refine wl_pass 16 rfl (ps 31 rfl rfl rfl) ?_
          refine wl_pass 17 rfl (ps 31 rfl rfl rfl) ?_
          refine wl_pass 18 rfl (ps 31 rfl rfl rfl) ?_
          refine wl_pass 19 rfl (ps 31 rfl rfl rfl) ?_
          refine wl_v 20 rfl (v_pick (b := true) rfl rfl) gn rfl ?_
          refine w_end 21 rfl ?_
          exact g_go [0, 1] (j1 true h) ⟨rfl, rfl, rfl, rfl, trivial⟩ (.slnil) rfl
        · have h := if_neg' hp1900 h
          refine w_bool 25 rfl ((decide_eq_false hp1900)) ?_
          refine wl_v 8 rfl (v_move rfl) (gy 25 rfl rfl) rfl ?_
          refine wl_v 9 rfl (v_move rfl) (gy 25 rfl rfl) rfl ?_
          refine wl_v 10 rfl (v_lenQ un_22 rfl h5.hq) (gy 25 rfl rfl) rfl ?_
          refine wl_v 11 rfl (v_bin rfl rfl rfl) (gy 25 rfl rfl) rfl ?_
          refine wl_v 12 rfl (v_pick (b := false) rfl rfl) gn rfl ?_
          refine wl_v 13 rfl (v_move rfl) gn rfl ?_
          by_cases hp1901 : x6 ≥ (x1.length : Int)
          · have h := if_pos' hp1901 h
            refine w_bool 31 rfl ((decide_eq_true hp1901)) ?_
            refine wl_pass 14 rfl (ps 31 rfl rfl rfl) ?_
            refine wl_pass 15 rfl (ps 31 rfl rfl rfl) ?_
            refine wl_pass 16 rfl (ps 31 rfl rfl rfl) ?_
            refine wl_pass 17 rfl (ps 31 rfl rfl rfl) ?_
            refine wl_pass 18 rfl (ps 31 rfl rfl rfl) ?_
            refine wl_pass 19 rfl (ps 31 rfl rfl rfl) ?_
            refine wl_v 20 rfl (v_pick (b := true) rfl rfl) gn rfl ?_
            refine w_end 21 rfl ?_
            exact g_go [0, 1] (j1 true h) ⟨rfl, rfl, rfl, rfl, trivial⟩ (.slnil) rfl
          · have h := if_neg' hp1901 h
            refine w_bool 31 rfl ((decide_eq_false hp1901)) ?_
            refine wl_v 14 rfl (v_move rfl) (gy 31 rfl rfl) rfl ?_
            refine wl_v 15 rfl (v_move rfl) (gy 31 rfl rfl) rfl ?_
            obtain ⟨hb1902, h⟩ := h
            have hr1903 := Rw.readF (s := St w []) (hl := hl_api_Node) (h1 := h1_api_Node) h5 hb1902
            refine wl_v 16 rfl (v_idxR (s := St w []) slE_22 rfl rfl h5 hb1902) (gy 31 rfl rfl) rfl ?_
            refine wl_v 17 rfl (v_ldA (St w []) ld_39 rfl hr1903 rfl (me 1 rfl)) (gy 31 rfl rfl) rfl ?_
            obtain ⟨r1907, hv1908, h⟩ := h
            refine wl_s 18 rfl (s_call [.agg #[.string ((ix x1 x6).name), .bool ((ix x1 x6).named), .string ((ix x1 x6).field), .int .i64 ((ix x1 x6).from_), .int .i64 ((ix x1 x6).to), .int .i64 ((ix x1 x6).kids), .int .i64 ((ix x1 x6).leaf)]] rfl Try.func30 rfl rfl rfl fun w1904 hL1905 => ?_) (gy 31 rfl rfl)
            have hp1906 : List.Perm ([] : List Ent) (([] : List Ent) ++ ([] : List Ent)) := perm_of_idx [] [] rfl rfl (by kernel_rfl)
            refine Calls.mono (trellislaw32_kind_calls w1904 (Fl ([] : List Snap)) (ix x1 x6) (hL1905.hFl (Sl := ([] : List Snap)) hp1906 (sels [] rfl)) (hL1905.into hp1906 (Fl ([] : List Snap))) r1907 hv1908) ?_
            rintro _ w1909 ⟨rfl, hM1910⟩
            have hL1911 := hL1905.call hp1906 hM1910
            refine ⟨_, _, _, rfl, hL1911, ?_⟩
            refine wl_v 19 rfl (v_bin rfl rfl rfl) (gy 31 rfl rfl) rfl ?_
            refine wl_v 20 rfl (v_pick (b := false) rfl rfl) gn rfl ?_
            refine w_end 21 rfl ?_
            exact g_go [0, 1] (j1 (r1907 == 0) h) ⟨rfl, rfl, rfl, rfl, trivial⟩ (.slnil) rfl
  · have h := if_neg' hp15 h
    refine g_true (c := trellislaw32_ChoosePairs_c6) rfl _ rfl ((nt (bf hp15))) ?_
    refine g_seq (c := trellislaw32_ChoosePairs_c7) rfl ?_
    refine g_region (c := trellislaw32_ChoosePairs_c80) rfl rfl ?_
    refine wl_v 0 rfl (v_assign rfl) gn rfl ?_
    refine w_end 1 rfl ?_
    refine g_retR (c := trellislaw32_ChoosePairs_c81) [.bool false] rfl Try.func7 rfl (.tmp rfl (.nil)) fun wr hLr => ?_
    have hMr : B.Loc w wr [] [St w []] := hLr.pick (rest := []) (perm_of_idx [] [] rfl rfl (by kernel_rfl)) (sels [1] rfl)
    have hMi : ∀ e ∈ ([] : List Ent), e ∈ ([] : List Ent) := sels [] rfl
    show trellislaw32_ChoosePairs_R w F  r (.returned (packV [.bool false])) wr
    rw [h]
    exact ⟨rfl, hMr⟩
end Go.Proofs.Ytoifgnogoddmlaa.K
