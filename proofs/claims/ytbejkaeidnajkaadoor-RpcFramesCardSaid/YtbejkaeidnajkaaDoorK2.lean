/- What the machine's calls do, function by function, printed by my own tool. Condition of each: its relation holds of the answer, and what is handed in lies in memory as told. -/
import Derived.Test.YtbejkaeidnajkaaDoorK1
set_option linter.unusedVariables false
set_option maxRecDepth 100000
set_option maxHeartbeats 4000000
namespace Go.Proofs.YtbejkaeidnajkaaDoor.K
open Go.Proofs.YtbejkaeidnajkaaDoor.B Go.Proofs.YtbejkaeidnajkaaDoor.R Go.RowKit
noncomputable abbrev trellislaw26_RpcFrames_c0 : Code := bodyOf Tryd.f3
noncomputable abbrev trellislaw26_RpcFrames_c1 : Code := Code.fst trellislaw26_RpcFrames_c0
noncomputable abbrev trellislaw26_RpcFrames_c2 : Code := Code.snd trellislaw26_RpcFrames_c0
noncomputable abbrev trellislaw26_RpcFrames_c3 : Code := Code.fst trellislaw26_RpcFrames_c2
noncomputable abbrev trellislaw26_RpcFrames_c4 : Code := Code.snd trellislaw26_RpcFrames_c2
noncomputable abbrev trellislaw26_RpcFrames_c5 : Code := Code.fst trellislaw26_RpcFrames_c4
noncomputable abbrev trellislaw26_RpcFrames_c6 : Code := Code.snd trellislaw26_RpcFrames_c4
noncomputable abbrev trellislaw26_RpcFrames_c7 : Code := Code.fst trellislaw26_RpcFrames_c6
noncomputable abbrev trellislaw26_RpcFrames_c8 : Code := Code.snd trellislaw26_RpcFrames_c6
noncomputable abbrev trellislaw26_RpcFrames_c9 : Code := Code.fst trellislaw26_RpcFrames_c7
noncomputable abbrev trellislaw26_RpcFrames_c10 : Code := Code.snd trellislaw26_RpcFrames_c7
noncomputable abbrev trellislaw26_RpcFrames_c11 : Code := Code.fst trellislaw26_RpcFrames_c10
noncomputable abbrev trellislaw26_RpcFrames_c12 : Code := Code.snd trellislaw26_RpcFrames_c10
noncomputable abbrev trellislaw26_RpcFrames_c13 : Code := Code.fst trellislaw26_RpcFrames_c11
noncomputable abbrev trellislaw26_RpcFrames_c14 : Code := Code.snd trellislaw26_RpcFrames_c11
noncomputable abbrev trellislaw26_RpcFrames_c15 : Code := Code.fst trellislaw26_RpcFrames_c8
noncomputable abbrev trellislaw26_RpcFrames_c16 : Code := Code.snd trellislaw26_RpcFrames_c8
noncomputable abbrev trellislaw26_RpcFrames_c17 : Code := Code.fst trellislaw26_RpcFrames_c16
noncomputable abbrev trellislaw26_RpcFrames_c18 : Code := Code.snd trellislaw26_RpcFrames_c16
noncomputable abbrev trellislaw26_RpcFrames_c19 : Code := Code.fst trellislaw26_RpcFrames_c17
noncomputable abbrev trellislaw26_RpcFrames_c20 : Code := Code.snd trellislaw26_RpcFrames_c17
noncomputable abbrev trellislaw26_RpcFrames_c21 : Code := Code.fst trellislaw26_RpcFrames_c20
noncomputable abbrev trellislaw26_RpcFrames_c22 : Code := Code.fst trellislaw26_RpcFrames_c21
noncomputable abbrev trellislaw26_RpcFrames_c23 : Code := Code.fst trellislaw26_RpcFrames_c22
noncomputable abbrev trellislaw26_RpcFrames_c24 : Code := Code.snd trellislaw26_RpcFrames_c22
noncomputable abbrev trellislaw26_RpcFrames_c25 : Code := Code.fst trellislaw26_RpcFrames_c23
noncomputable abbrev trellislaw26_RpcFrames_c26 : Code := Code.snd trellislaw26_RpcFrames_c23
noncomputable abbrev trellislaw26_RpcFrames_c27 : Code := Code.fst trellislaw26_RpcFrames_c26
noncomputable abbrev trellislaw26_RpcFrames_c28 : Code := Code.snd trellislaw26_RpcFrames_c26
noncomputable abbrev trellislaw26_RpcFrames_c29 : Code := Code.fst trellislaw26_RpcFrames_c24
noncomputable abbrev trellislaw26_RpcFrames_c30 : Code := Code.snd trellislaw26_RpcFrames_c24
noncomputable abbrev trellislaw26_RpcFrames_c31 : Code := Code.fst trellislaw26_RpcFrames_c29
noncomputable abbrev trellislaw26_RpcFrames_c32 : Code := Code.fst trellislaw26_RpcFrames_c18
noncomputable abbrev trellislaw26_RpcFrames_c33 : Code := Code.snd trellislaw26_RpcFrames_c18
noncomputable abbrev trellislaw26_RpcFrames_c34 : Code := Code.fst trellislaw26_RpcFrames_c33
noncomputable abbrev trellislaw26_RpcFrames_c35 : Code := Code.snd trellislaw26_RpcFrames_c33
noncomputable abbrev trellislaw26_RpcFrames_c36 : Code := Code.fst trellislaw26_RpcFrames_c34
noncomputable abbrev trellislaw26_RpcFrames_c37 : Code := Code.snd trellislaw26_RpcFrames_c34
noncomputable abbrev trellislaw26_RpcFrames_c38 : Code := Code.fst trellislaw26_RpcFrames_c37
noncomputable abbrev trellislaw26_RpcFrames_c39 : Code := Code.fst trellislaw26_RpcFrames_c38
noncomputable abbrev trellislaw26_RpcFrames_c40 : Code := Code.fst trellislaw26_RpcFrames_c39
noncomputable abbrev trellislaw26_RpcFrames_c41 : Code := Code.snd trellislaw26_RpcFrames_c39
noncomputable abbrev trellislaw26_RpcFrames_c42 : Code := Code.fst trellislaw26_RpcFrames_c40
noncomputable abbrev trellislaw26_RpcFrames_c43 : Code := Code.snd trellislaw26_RpcFrames_c40
noncomputable abbrev trellislaw26_RpcFrames_c44 : Code := Code.fst trellislaw26_RpcFrames_c43
noncomputable abbrev trellislaw26_RpcFrames_c45 : Code := Code.snd trellislaw26_RpcFrames_c43
noncomputable abbrev trellislaw26_RpcFrames_c46 : Code := Code.fst trellislaw26_RpcFrames_c41
noncomputable abbrev trellislaw26_RpcFrames_c47 : Code := Code.snd trellislaw26_RpcFrames_c41
noncomputable abbrev trellislaw26_RpcFrames_c48 : Code := Code.fst trellislaw26_RpcFrames_c46
noncomputable abbrev trellislaw26_RpcFrames_c49 : Code := Code.fst trellislaw26_RpcFrames_c35
noncomputable abbrev trellislaw26_RpcFrames_c50 : Code := Code.snd trellislaw26_RpcFrames_c35
noncomputable abbrev trellislaw26_RpcFrames_c51 : Code := Code.fst trellislaw26_RpcFrames_c50
noncomputable abbrev trellislaw26_RpcFrames_c52 : Code := Code.snd trellislaw26_RpcFrames_c50
noncomputable abbrev trellislaw26_RpcFrames_c53 : Code := Code.fst trellislaw26_RpcFrames_c52
noncomputable abbrev trellislaw26_RpcFrames_c54 : Code := Code.snd trellislaw26_RpcFrames_c52
noncomputable abbrev trellislaw26_RpcFrames_c55 : Code := Code.fst trellislaw26_RpcFrames_c54
noncomputable abbrev trellislaw26_RpcFrames_c56 : Code := Code.snd trellislaw26_RpcFrames_c54
noncomputable abbrev trellislaw26_RpcFrames_c57 : Code := Code.fst trellislaw26_RpcFrames_c55
noncomputable abbrev trellislaw26_RpcFrames_c58 : Code := Code.snd trellislaw26_RpcFrames_c55
noncomputable abbrev trellislaw26_RpcFrames_c59 : Code := Code.fst trellislaw26_RpcFrames_c58
noncomputable abbrev trellislaw26_RpcFrames_c60 : Code := Code.snd trellislaw26_RpcFrames_c58
noncomputable abbrev trellislaw26_RpcFrames_c61 : Code := Code.fst trellislaw26_RpcFrames_c59
noncomputable abbrev trellislaw26_RpcFrames_c62 : Code := Code.snd trellislaw26_RpcFrames_c59
noncomputable abbrev trellislaw26_RpcFrames_c63 : Code := Code.fst trellislaw26_RpcFrames_c56
noncomputable abbrev trellislaw26_RpcFrames_c64 : Code := Code.snd trellislaw26_RpcFrames_c56
noncomputable abbrev trellislaw26_RpcFrames_c65 : Code := Code.fst trellislaw26_RpcFrames_c63
noncomputable abbrev trellislaw26_RpcFrames_c66 : Code := Code.snd trellislaw26_RpcFrames_c63
noncomputable abbrev trellislaw26_RpcFrames_c67 : Code := Code.fst trellislaw26_RpcFrames_c66
noncomputable abbrev trellislaw26_RpcFrames_c68 : Code := Code.fst trellislaw26_RpcFrames_c67
noncomputable abbrev trellislaw26_RpcFrames_c69 : Code := Code.fst trellislaw26_RpcFrames_c68
noncomputable abbrev trellislaw26_RpcFrames_c70 : Code := Code.snd trellislaw26_RpcFrames_c68
noncomputable abbrev trellislaw26_RpcFrames_c71 : Code := Code.fst trellislaw26_RpcFrames_c69
noncomputable abbrev trellislaw26_RpcFrames_c72 : Code := Code.snd trellislaw26_RpcFrames_c69
noncomputable abbrev trellislaw26_RpcFrames_c73 : Code := Code.fst trellislaw26_RpcFrames_c72
noncomputable abbrev trellislaw26_RpcFrames_c74 : Code := Code.snd trellislaw26_RpcFrames_c72
noncomputable abbrev trellislaw26_RpcFrames_c75 : Code := Code.fst trellislaw26_RpcFrames_c70
noncomputable abbrev trellislaw26_RpcFrames_c76 : Code := Code.snd trellislaw26_RpcFrames_c70
noncomputable abbrev trellislaw26_RpcFrames_c77 : Code := Code.fst trellislaw26_RpcFrames_c75
noncomputable abbrev trellislaw26_RpcFrames_c78 : Code := Code.fst trellislaw26_RpcFrames_c64
noncomputable abbrev trellislaw26_RpcFrames_c79 : Code := Code.snd trellislaw26_RpcFrames_c64
noncomputable abbrev trellislaw26_RpcFrames_c80 : Code := Code.fst trellislaw26_RpcFrames_c78
noncomputable abbrev trellislaw26_RpcFrames_c81 : Code := Code.snd trellislaw26_RpcFrames_c78
noncomputable abbrev trellislaw26_RpcFrames_c82 : Code := Code.fst trellislaw26_RpcFrames_c81
noncomputable abbrev trellislaw26_RpcFrames_c83 : Code := Code.snd trellislaw26_RpcFrames_c81
noncomputable abbrev trellislaw26_RpcFrames_c84 : Code := Code.fst trellislaw26_RpcFrames_c82
noncomputable abbrev trellislaw26_RpcFrames_c85 : Code := Code.snd trellislaw26_RpcFrames_c82
noncomputable abbrev trellislaw26_RpcFrames_c86 : Code := Code.fst trellislaw26_RpcFrames_c79
noncomputable abbrev trellislaw26_RpcFrames_c87 : Code := Code.snd trellislaw26_RpcFrames_c79
noncomputable abbrev trellislaw26_RpcFrames_c88 : Code := Code.fst trellislaw26_RpcFrames_c87
noncomputable abbrev trellislaw26_RpcFrames_c89 : Code := Code.snd trellislaw26_RpcFrames_c87
noncomputable abbrev trellislaw26_RpcFrames_c90 : Code := Code.fst trellislaw26_RpcFrames_c89
noncomputable abbrev trellislaw26_RpcFrames_c91 : Code := Code.snd trellislaw26_RpcFrames_c89
noncomputable abbrev trellislaw26_RpcFrames_c92 : Code := Code.fst trellislaw26_RpcFrames_c90
noncomputable abbrev trellislaw26_RpcFrames_c93 : Code := Code.snd trellislaw26_RpcFrames_c90
noncomputable abbrev trellislaw26_RpcFrames_c94 : Code := Code.fst trellislaw26_RpcFrames_c93
noncomputable abbrev trellislaw26_RpcFrames_c95 : Code := Code.fst trellislaw26_RpcFrames_c94
noncomputable abbrev trellislaw26_RpcFrames_c96 : Code := Code.fst trellislaw26_RpcFrames_c95
noncomputable abbrev trellislaw26_RpcFrames_c97 : Code := Code.snd trellislaw26_RpcFrames_c95
noncomputable abbrev trellislaw26_RpcFrames_c98 : Code := Code.fst trellislaw26_RpcFrames_c96
noncomputable abbrev trellislaw26_RpcFrames_c99 : Code := Code.snd trellislaw26_RpcFrames_c96
noncomputable abbrev trellislaw26_RpcFrames_c100 : Code := Code.fst trellislaw26_RpcFrames_c99
noncomputable abbrev trellislaw26_RpcFrames_c101 : Code := Code.snd trellislaw26_RpcFrames_c99
noncomputable abbrev trellislaw26_RpcFrames_c102 : Code := Code.fst trellislaw26_RpcFrames_c97
noncomputable abbrev trellislaw26_RpcFrames_c103 : Code := Code.snd trellislaw26_RpcFrames_c97
noncomputable abbrev trellislaw26_RpcFrames_c104 : Code := Code.fst trellislaw26_RpcFrames_c102
noncomputable abbrev trellislaw26_RpcFrames_c105 : Code := Code.fst trellislaw26_RpcFrames_c91
noncomputable abbrev trellislaw26_RpcFrames_c106 : Code := Code.snd trellislaw26_RpcFrames_c91
noncomputable abbrev trellislaw26_RpcFrames_c107 : Code := Code.fst trellislaw26_RpcFrames_c106
noncomputable abbrev trellislaw26_RpcFrames_c108 : Code := Code.snd trellislaw26_RpcFrames_c106
noncomputable abbrev trellislaw26_RpcFrames_c109 : Code := Code.fst trellislaw26_RpcFrames_c108
noncomputable abbrev trellislaw26_RpcFrames_c110 : Code := Code.snd trellislaw26_RpcFrames_c108
abbrev trellislaw26_RpcFrames_R (w : World) (F : Nat → Prop) (r : Bool) : Ending → World → Prop := fun e w' => e = .returned (.bool r) ∧ B.Loc w w' [] [St w []]
noncomputable abbrev trellislaw26_RpcFrames_C (w : World) (F : Nat → Prop) (r : Bool) : Cx := ⟨Tryd.prog, 3, Tryd.f3, 186, trellislaw26_RpcFrames_R w F  r, w⟩
theorem trellislaw26_RpcFrames_calls (w : World) (F : Nat → Prop) (x1 : ByteArray) (x2 : List Int) (A3 : Option Addr) (n4 : Nat) (c5 : Nat) (h6 : Rw (kInt .u8) w (St w []).av A3 n4 c5 x2) (hG : Tb Tryd.prog (St w [])) (hF : ∀ b, F b → b < w.heap.size ∧ ∀ o ∈ ([] : List (List Nat)), b ∉ o) (hL0 : B.Loc w w [] [Sm w.heap.size F w [], St w []]) (r : Bool) (h : trellislaw26_RpcFrames x1 x2 r) : Calls Tryd.prog 3 #[.string x1, .slice A3 n4 c5] w (trellislaw26_RpcFrames_R w F  r) := by
  unfold trellislaw26_RpcFrames at h
  refine calls_of_Loc (vs := [.string x1, .slice A3 n4 c5]) 186 Tryd.func3 rfl Tryd.ntmps3 rfl hL0 ?_
  show G (trellislaw26_RpcFrames_C w F r) _ _ _ _
  refine g_seq (c := trellislaw26_RpcFrames_c0) rfl ?_
  refine g_region (c := trellislaw26_RpcFrames_c1) rfl rfl ?_
  refine wl_v 0 rfl (v_assign rfl) gn rfl ?_
  refine w_end 1 rfl ?_
  refine g_seq (c := trellislaw26_RpcFrames_c2) rfl ?_
  refine g_region (c := trellislaw26_RpcFrames_c3) rfl rfl ?_
  refine wl_v 0 rfl (v_move rfl) gn rfl ?_
  obtain ⟨r10, hv11, h⟩ := h
  refine wl_s 1 rfl (s_call [.string x1] rfl Tryd.func8 rfl rfl rfl fun w7 hL8 => ?_) gn
  have hp9 : List.Perm ([] : List Ent) (([] : List Ent) ++ ([] : List Ent)) := perm_of_idx [] [] rfl rfl (by kernel_rfl)
  refine Calls.mono (rpc_Put_calls w7 (Fl ([] : List Snap)) x1 (hL8.tb hp9 hG (me 1 rfl)) (hL8.hFl (Sl := ([] : List Snap)) hp9 (sels [] rfl)) (hL8.into hp9 (Fl ([] : List Snap))) r10 hv11) ?_
  rintro _ w17 ⟨A12, n13, c14, rfl, hM18, h15⟩
  have hL19 := hL8.call hp9 hM18
  refine ⟨_, _, _, rfl, hL19, ?_⟩
  refine wl_v 2 rfl (v_move rfl) gn rfl ?_
  refine wl_v 3 rfl (v_extract rfl rfl) gn rfl ?_
  refine wl_v 4 rfl (v_extract rfl rfl) gn rfl ?_
  refine wl_v 5 rfl (v_assign rfl) gn rfl ?_
  refine wl_v 6 rfl (v_assign rfl) gn rfl ?_
  refine w_end 7 rfl ?_
  refine g_seq (c := trellislaw26_RpcFrames_c4) rfl ?_
  refine g_region (c := trellislaw26_RpcFrames_c5) rfl rfl ?_
  refine wl_v 0 rfl (v_move rfl) gn rfl ?_
  obtain ⟨r23, hv24, h⟩ := h
  refine wl_s 1 rfl (s_call [.string x1] rfl Tryd.func9 rfl rfl rfl fun w20 hL21 => ?_) gn
  have hp22 : List.Perm ([.own (.slice A12 n13 c14) 5 1 n13 (r10.1.flatMap (eI .u8))] : List Ent) (([] : List Ent) ++ ([.own (.slice A12 n13 c14) 5 1 n13 (r10.1.flatMap (eI .u8))] : List Ent)) := perm_of_idx [] [0] rfl rfl (by kernel_rfl)
  refine Calls.mono (trellisref26_Put_calls w20 (Fl ([] : List Snap)) x1 (hL21.hFl (Sl := ([] : List Snap)) hp22 (sels [] rfl)) (hL21.into hp22 (Fl ([] : List Snap))) r23 hv24) ?_
  rintro _ w30 ⟨A25, n26, c27, rfl, hM31, h28⟩
  have hL32 := hL21.call hp22 hM31
  refine ⟨_, _, _, rfl, hL32, ?_⟩
  refine wl_v 2 rfl (v_move rfl) gn rfl ?_
  refine wl_v 3 rfl (v_extract rfl rfl) gn rfl ?_
  refine wl_v 4 rfl (v_extract rfl rfl) gn rfl ?_
  refine wl_v 5 rfl (v_assign rfl) gn rfl ?_
  refine wl_v 6 rfl (v_assign rfl) gn rfl ?_
  refine w_end 7 rfl ?_
  refine g_seq (c := trellislaw26_RpcFrames_c6) rfl ?_
  refine g_seq (c := trellislaw26_RpcFrames_c7) rfl ?_
  have j1 : ∀ (x43 : Bool) (h : trellislaw26_RpcFrames_j1 x1 x2 r23 r10 x43 r) , G (trellislaw26_RpcFrames_C w F r) [.code trellislaw26_RpcFrames_c10, .code trellislaw26_RpcFrames_c8] [(0, .string x1), (1, .slice A3 n4 c5), (5, .slice A12 n13 c14), (7, .slice A25 n26 c27), (48, .bool x43)] [.own (.slice A25 n26 c27) 5 1 n26 (r23.1.flatMap (eI .u8)), .own (.slice A12 n13 c14) 5 1 n13 (r10.1.flatMap (eI .u8))] [Sm w.heap.size F w [], St w []] := by
    intro x43 h
    unfold trellislaw26_RpcFrames_j1 at h
    by_cases hp44 : x43 = true
    · have h := if_pos' hp44 h
      refine g_true (c := trellislaw26_RpcFrames_c10) rfl _ rfl (hp44) ?_
      refine g_seq (c := trellislaw26_RpcFrames_c11) rfl ?_
      refine g_region (c := trellislaw26_RpcFrames_c13) rfl rfl ?_
      refine wl_v 0 rfl (v_assign rfl) gn rfl ?_
      refine w_end 1 rfl ?_
      refine g_retR (c := trellislaw26_RpcFrames_c14) [.bool false] rfl Tryd.func3 rfl (.tmp rfl (.nil)) fun wr hLr => ?_
      have hMr : B.Loc w wr [] [St w []] := hLr.pick (rest := [.own (.slice A25 n26 c27) 5 1 n26 (r23.1.flatMap (eI .u8)), .own (.slice A12 n13 c14) 5 1 n13 (r10.1.flatMap (eI .u8))]) (perm_of_idx [] [0, 1] rfl rfl (by kernel_rfl)) (sels [1] rfl)
      have hMi : ∀ e ∈ ([] : List Ent), e ∈ ([.own (.slice A25 n26 c27) 5 1 n26 (r23.1.flatMap (eI .u8)), .own (.slice A12 n13 c14) 5 1 n13 (r10.1.flatMap (eI .u8))] : List Ent) := sels [] rfl
      show trellislaw26_RpcFrames_R w F  r (.returned (packV [.bool false])) wr
      rw [h]
      exact ⟨rfl, hMr⟩
    · have h := if_neg' hp44 h
      refine g_false (c := trellislaw26_RpcFrames_c10) rfl _ rfl ((bf hp44)) ?_
      refine g_skip (c := trellislaw26_RpcFrames_c12) rfl ?_
      refine g_seq (c := trellislaw26_RpcFrames_c8) rfl ?_
      refine g_region (c := trellislaw26_RpcFrames_c15) rfl rfl ?_
      refine wl_v 0 rfl (v_move rfl) gn rfl ?_
      obtain ⟨r48, hv49, h⟩ := h
      refine wl_s 1 rfl (s_call [.string x1] rfl Tryd.func8 rfl rfl rfl fun w45 hL46 => ?_) gn
      have hp47 : List.Perm ([.own (.slice A25 n26 c27) 5 1 n26 (r23.1.flatMap (eI .u8)), .own (.slice A12 n13 c14) 5 1 n13 (r10.1.flatMap (eI .u8))] : List Ent) (([] : List Ent) ++ ([.own (.slice A25 n26 c27) 5 1 n26 (r23.1.flatMap (eI .u8)), .own (.slice A12 n13 c14) 5 1 n13 (r10.1.flatMap (eI .u8))] : List Ent)) := perm_of_idx [] [0, 1] rfl rfl (by kernel_rfl)
      refine Calls.mono (rpc_Put_calls w45 (Fl ([] : List Snap)) x1 (hL46.tb hp47 hG (me 1 rfl)) (hL46.hFl (Sl := ([] : List Snap)) hp47 (sels [] rfl)) (hL46.into hp47 (Fl ([] : List Snap))) r48 hv49) ?_
      rintro _ w55 ⟨A50, n51, c52, rfl, hM56, h53⟩
      have hL57 := hL46.call hp47 hM56
      refine ⟨_, _, _, rfl, hL57, ?_⟩
      refine wl_v 2 rfl (v_move rfl) gn rfl ?_
      refine wl_v 3 rfl (v_extract rfl rfl) gn rfl ?_
      refine wl_v 4 rfl (v_extract rfl rfl) gn rfl ?_
      refine wl_v 5 rfl (v_assign rfl) gn rfl ?_
      refine wl_v 6 rfl (v_assign rfl) gn rfl ?_
      refine w_end 7 rfl ?_
      refine g_seq (c := trellislaw26_RpcFrames_c16) rfl ?_
      refine g_seq (c := trellislaw26_RpcFrames_c17) rfl ?_
      refine g_region (c := trellislaw26_RpcFrames_c19) rfl rfl ?_
      refine wl_v 0 rfl (v_assign rfl) gn rfl ?_
      refine w_end 1 rfl ?_
      refine g_block (c := trellislaw26_RpcFrames_c20) rfl ?_
      refine g_loop (c := trellislaw26_RpcFrames_c21) rfl ?_
      have key2 : ∀ s, Rounds (fun (s : (List Int) × Int) o => trellislaw26_RpcFrames_b2 x2 r48 r23 s.1 s.2 o) s r → (fun (s : (List Int) × Int) => ∀ (A1361 : Option Addr) (n1362 : Nat) (c1363 : Nat) (h1364 : Ow w.heap.size A1361 n1362 c1363 s.1), G (trellislaw26_RpcFrames_C w F r) [.code trellislaw26_RpcFrames_c22, .inLoop trellislaw26_RpcFrames_c22, .inBlock 0, .code trellislaw26_RpcFrames_c18] [(1, .slice A3 n4 c5), (5, .slice A1361 n1362 c1363), (7, .slice A25 n26 c27), (9, .slice A50 n51 c52), (11, .int .i64 s.2)] [.own (.slice A50 n51 c52) 5 1 n51 (r48.1.flatMap (eI .u8)), .own (.slice A25 n26 c27) 5 1 n26 (r23.1.flatMap (eI .u8)), .own (.slice A1361 n1362 c1363) 5 1 n1362 (s.1.flatMap (eI .u8))] [Sm w.heap.size F w [], St w []]) s := by
        intro s hs
        refine Rounds.ind (mot := (fun (s : (List Int) × Int) => ∀ (A1361 : Option Addr) (n1362 : Nat) (c1363 : Nat) (h1364 : Ow w.heap.size A1361 n1362 c1363 s.1), G (trellislaw26_RpcFrames_C w F r) [.code trellislaw26_RpcFrames_c22, .inLoop trellislaw26_RpcFrames_c22, .inBlock 0, .code trellislaw26_RpcFrames_c18] [(1, .slice A3 n4 c5), (5, .slice A1361 n1362 c1363), (7, .slice A25 n26 c27), (9, .slice A50 n51 c52), (11, .int .i64 s.2)] [.own (.slice A50 n51 c52) 5 1 n51 (r48.1.flatMap (eI .u8)), .own (.slice A25 n26 c27) 5 1 n26 (r23.1.flatMap (eI .u8)), .own (.slice A1361 n1362 c1363) 5 1 n1362 (s.1.flatMap (eI .u8))] [Sm w.heap.size F w [], St w []])) ?_ hs
        clear hs s
        intro s o1 h hO1
        obtain ⟨x1360, x1365⟩ := s
        show ∀ (A1361 : Option Addr) (n1362 : Nat) (c1363 : Nat) (h1364 : Ow w.heap.size A1361 n1362 c1363 x1360), G (trellislaw26_RpcFrames_C w F r) [.code trellislaw26_RpcFrames_c22, .inLoop trellislaw26_RpcFrames_c22, .inBlock 0, .code trellislaw26_RpcFrames_c18] [(1, .slice A3 n4 c5), (5, .slice A1361 n1362 c1363), (7, .slice A25 n26 c27), (9, .slice A50 n51 c52), (11, .int .i64 x1365)] [.own (.slice A50 n51 c52) 5 1 n51 (r48.1.flatMap (eI .u8)), .own (.slice A25 n26 c27) 5 1 n26 (r23.1.flatMap (eI .u8)), .own (.slice A1361 n1362 c1363) 5 1 n1362 (x1360.flatMap (eI .u8))] [Sm w.heap.size F w [], St w []]
        intro A1361 n1362 c1363 h1364
        have h : trellislaw26_RpcFrames_b2 x2 r48 r23 x1360 x1365 o1 := h
        unfold trellislaw26_RpcFrames_b2 at h
        refine g_seq (c := trellislaw26_RpcFrames_c22) rfl ?_
        refine g_seq (c := trellislaw26_RpcFrames_c23) rfl ?_
        refine g_region (c := trellislaw26_RpcFrames_c25) rfl rfl ?_
        refine wl_v 0 rfl (v_move rfl) gn rfl ?_
        refine wl_v 1 rfl (v_move rfl) gn rfl ?_
        refine wl_v 2 rfl (v_lenQ un_22 rfl h1364.hq) gn rfl ?_
        refine wl_v 3 rfl (v_bin rfl rfl rfl) gn rfl ?_
        refine w_end 4 rfl ?_
        by_cases hp2667 : x1365 < (x1360.length : Int)
        · have h := if_pos' hp2667 h
          refine g_true (c := trellislaw26_RpcFrames_c26) rfl _ rfl ((decide_eq_true hp2667)) ?_
          refine g_skip (c := trellislaw26_RpcFrames_c27) rfl ?_
          refine g_seq (c := trellislaw26_RpcFrames_c24) rfl ?_
          refine g_block (c := trellislaw26_RpcFrames_c29) rfl ?_
          refine g_region (c := trellislaw26_RpcFrames_c31) rfl rfl ?_
          refine wl_v 0 rfl (v_move rfl) gn rfl ?_
          refine wl_v 1 rfl (v_move rfl) gn rfl ?_
          obtain ⟨hb2668, h⟩ := h
          refine wl_v 2 rfl (v_idxO slE_22 rfl rfl h1364 hb2668) gn rfl ?_
          obtain ⟨x2669, hv2670, h⟩ := h
          refine wl_s 3 rfl (s_stF (enc := (eI .u8)) (o := 0) (z := 7) (vs := [.int .u8 7]) (i := x1365) 2 (hlI .u8) sz_5 rfl rfl rfl rfl rfl h1364 hb2668 rfl rfl rfl hv2670 fun h2671 => ?_) gn
          refine w_end 4 rfl ?_
          refine g_inBlock ?_
          refine g_region (c := trellislaw26_RpcFrames_c30) rfl rfl ?_
          refine wl_v 0 rfl (v_move rfl) gn rfl ?_
          refine wl_v 1 rfl (v_bin rfl rfl rfl) gn rfl ?_
          refine wl_v 2 rfl (v_assign rfl) gn rfl ?_
          refine w_end 3 rfl ?_
          refine g_inLoop ?_
          have ih := Out.inl hO1 h
          exact g_go [0, 1] (ih A1361 n1362 c1363 h2671) ⟨rfl, rfl, rfl, rfl, rfl, trivial⟩ (.cons_cons _ (.cons_cons _ (.cons_cons _ (.slnil)))) rfl
        · have h := if_neg' hp2667 h
          refine g_false (c := trellislaw26_RpcFrames_c26) rfl _ rfl ((decide_eq_false hp2667)) ?_
          refine g_exit (c := trellislaw26_RpcFrames_c28) [.code trellislaw26_RpcFrames_c18] rfl rfl ?_
          refine g_seq (c := trellislaw26_RpcFrames_c18) rfl ?_
          refine g_region (c := trellislaw26_RpcFrames_c32) rfl rfl ?_
          refine wl_v 0 rfl (v_move rfl) gn rfl ?_
          refine wl_v 1 rfl (v_assign rfl) gn rfl ?_
          refine w_end 2 rfl ?_
          refine g_seq (c := trellislaw26_RpcFrames_c33) rfl ?_
          refine g_seq (c := trellislaw26_RpcFrames_c34) rfl ?_
          refine g_region (c := trellislaw26_RpcFrames_c36) rfl rfl ?_
          refine wl_v 0 rfl (v_assign rfl) gn rfl ?_
          refine w_end 1 rfl ?_
          refine g_block (c := trellislaw26_RpcFrames_c37) rfl ?_
          refine g_loop (c := trellislaw26_RpcFrames_c38) rfl ?_
          have key3 : ∀ s, Rounds (fun (s : (List Int) × Int) o => trellislaw26_RpcFrames_b3 x2 r48 r23 s.1 s.2 o) s o1 → (fun (s : (List Int) × Int) => ∀ (A2683 : Option Addr) (n2684 : Nat) (c2685 : Nat) (h2686 : Ow w.heap.size A2683 n2684 c2685 s.1), G (trellislaw26_RpcFrames_C w F r) [.code trellislaw26_RpcFrames_c39, .inLoop trellislaw26_RpcFrames_c39, .inBlock 2, .code trellislaw26_RpcFrames_c35] [(1, .slice A3 n4 c5), (7, .slice A25 n26 c27), (9, .slice A50 n51 c52), (12, .slice A2683 n2684 c2685), (13, .int .i64 s.2)] [.own (.slice A50 n51 c52) 5 1 n51 (r48.1.flatMap (eI .u8)), .own (.slice A25 n26 c27) 5 1 n26 (r23.1.flatMap (eI .u8)), .own (.slice A2683 n2684 c2685) 5 1 n2684 (s.1.flatMap (eI .u8))] [Sm w.heap.size F w [], St w []]) s := by
            intro s hs
            refine Rounds.ind (mot := (fun (s : (List Int) × Int) => ∀ (A2683 : Option Addr) (n2684 : Nat) (c2685 : Nat) (h2686 : Ow w.heap.size A2683 n2684 c2685 s.1), G (trellislaw26_RpcFrames_C w F r) [.code trellislaw26_RpcFrames_c39, .inLoop trellislaw26_RpcFrames_c39, .inBlock 2, .code trellislaw26_RpcFrames_c35] [(1, .slice A3 n4 c5), (7, .slice A25 n26 c27), (9, .slice A50 n51 c52), (12, .slice A2683 n2684 c2685), (13, .int .i64 s.2)] [.own (.slice A50 n51 c52) 5 1 n51 (r48.1.flatMap (eI .u8)), .own (.slice A25 n26 c27) 5 1 n26 (r23.1.flatMap (eI .u8)), .own (.slice A2683 n2684 c2685) 5 1 n2684 (s.1.flatMap (eI .u8))] [Sm w.heap.size F w [], St w []])) ?_ hs
            clear hs s
            intro s o2 h hO2
            obtain ⟨x2682, x2687⟩ := s
            show ∀ (A2683 : Option Addr) (n2684 : Nat) (c2685 : Nat) (h2686 : Ow w.heap.size A2683 n2684 c2685 x2682), G (trellislaw26_RpcFrames_C w F r) [.code trellislaw26_RpcFrames_c39, .inLoop trellislaw26_RpcFrames_c39, .inBlock 2, .code trellislaw26_RpcFrames_c35] [(1, .slice A3 n4 c5), (7, .slice A25 n26 c27), (9, .slice A50 n51 c52), (12, .slice A2683 n2684 c2685), (13, .int .i64 x2687)] [.own (.slice A50 n51 c52) 5 1 n51 (r48.1.flatMap (eI .u8)), .own (.slice A25 n26 c27) 5 1 n26 (r23.1.flatMap (eI .u8)), .own (.slice A2683 n2684 c2685) 5 1 n2684 (x2682.flatMap (eI .u8))] [Sm w.heap.size F w [], St w []]
            intro A2683 n2684 c2685 h2686
            have h : trellislaw26_RpcFrames_b3 x2 r48 r23 x2682 x2687 o2 := h
            unfold trellislaw26_RpcFrames_b3 at h
            refine g_seq (c := trellislaw26_RpcFrames_c39) rfl ?_
            refine g_seq (c := trellislaw26_RpcFrames_c40) rfl ?_
            refine g_region (c := trellislaw26_RpcFrames_c42) rfl rfl ?_
            refine wl_v 0 rfl (v_move rfl) gn rfl ?_
            refine wl_v 1 rfl (v_bin rfl rfl rfl) gn rfl ?_
            refine w_end 2 rfl ?_
            by_cases hp3328 : x2687 < 70
            · have h := if_pos' hp3328 h
              refine g_true (c := trellislaw26_RpcFrames_c43) rfl _ rfl ((decide_eq_true hp3328)) ?_
              refine g_skip (c := trellislaw26_RpcFrames_c44) rfl ?_
              refine g_seq (c := trellislaw26_RpcFrames_c41) rfl ?_
              refine g_block (c := trellislaw26_RpcFrames_c46) rfl ?_
              refine g_region (c := trellislaw26_RpcFrames_c48) rfl rfl ?_
              refine wl_v 0 rfl (v_move rfl) gn rfl ?_
              refine wl_s 1 rfl (s_litO (xs := ([9] : List Int)) [.int .u8 9] bs_22_1 rfl (by kernel_rfl) rfl rfl rfl rfl fun gb3330 h3331 => ?_) gn
              obtain ⟨x3335, hv3336, h⟩ := h
              obtain ⟨hb3337, h⟩ := h
              refine wl_s 2 rfl (s_app (zs := x3335) (cells' := x3335.flatMap (eI .u8)) 3 ap_22 rfl rfl rfl h2686 (Nat.le_refl _) (Src.ownF (hl := (hlI .u8)) (h1 := (hone_int .u8)) 0 rfl h3331) (by rw [hv3336, List.flatMap_append] <;> rfl) (app_len hv3336 h3331.hq) hb3337 rfl rfl fun A3332 c3333 h3334 => ?_) gn
              refine wl_v 3 rfl (v_assign rfl) gn rfl ?_
              refine w_end 4 rfl ?_
              refine g_inBlock ?_
              refine g_region (c := trellislaw26_RpcFrames_c47) rfl rfl ?_
              refine wl_v 0 rfl (v_move rfl) gn rfl ?_
              refine wl_v 1 rfl (v_bin rfl rfl rfl) gn rfl ?_
              refine wl_v 2 rfl (v_assign rfl) gn rfl ?_
              refine w_end 3 rfl ?_
              refine g_inLoop ?_
              have ih := Out.inl hO2 h
              exact g_go [0, 1] (ih A3332 (n2684 + 1) c3333 h3334) ⟨rfl, rfl, rfl, rfl, rfl, trivial⟩ (.cons _ (.cons_cons _ (.cons_cons _ (.cons_cons _ (.slnil))))) rfl
            · have h := if_neg' hp3328 h
              refine g_false (c := trellislaw26_RpcFrames_c43) rfl _ rfl ((decide_eq_false hp3328)) ?_
              refine g_exit (c := trellislaw26_RpcFrames_c45) [.code trellislaw26_RpcFrames_c35] rfl rfl ?_
              refine g_seq (c := trellislaw26_RpcFrames_c35) rfl ?_
              refine g_region (c := trellislaw26_RpcFrames_c49) rfl rfl ?_
              refine wl_v 0 rfl (v_move rfl) gn rfl ?_
              obtain ⟨r3341, hv3342, h⟩ := h
              refine wl_s 1 rfl (s_call [.slice A3 n4 c5] rfl Tryd.func11 rfl rfl rfl fun w3338 hL3339 => ?_) gn
              have hp3340 : List.Perm ([.own (.slice A50 n51 c52) 5 1 n51 (r48.1.flatMap (eI .u8)), .own (.slice A25 n26 c27) 5 1 n26 (r23.1.flatMap (eI .u8)), .own (.slice A2683 n2684 c2685) 5 1 n2684 (x2682.flatMap (eI .u8))] : List Ent) (([] : List Ent) ++ ([.own (.slice A50 n51 c52) 5 1 n51 (r48.1.flatMap (eI .u8)), .own (.slice A25 n26 c27) 5 1 n26 (r23.1.flatMap (eI .u8)), .own (.slice A2683 n2684 c2685) 5 1 n2684 (x2682.flatMap (eI .u8))] : List Ent)) := perm_of_idx [] [0, 1, 2] rfl rfl (by kernel_rfl)
              refine Calls.mono (trellislaw26_marked_calls w3338 (Fl ([] : List Snap)) x2 A3 n4 c5 (Rw.mono h6 (hL3339.toSt hp3340 (me 1 rfl))) (hL3339.hFl (Sl := ([] : List Snap)) hp3340 (sels [] rfl)) (hL3339.into hp3340 (Fl ([] : List Snap))) r3341 hv3342) ?_
              rintro _ w3348 ⟨A3343, n3344, c3345, rfl, hM3349, h3346⟩
              have hL3350 := hL3339.call hp3340 hM3349
              refine ⟨_, _, _, rfl, hL3350, ?_⟩
              refine wl_v 2 rfl (v_assign rfl) gn rfl ?_
              refine w_end 3 rfl ?_
              refine g_seq (c := trellislaw26_RpcFrames_c50) rfl ?_
              refine g_region (c := trellislaw26_RpcFrames_c51) rfl rfl ?_
              refine wl_v 0 rfl (v_move rfl) gn rfl ?_
              refine wl_v 1 rfl (v_move rfl) gn rfl ?_
              refine wl_v 2 rfl (v_lenQ un_22 rfl h6.hq) gn rfl ?_
              obtain ⟨hb3351, h⟩ := h
              obtain ⟨x3353, hv3354, h⟩ := h
              have hle3352 : ((x2.length : Int) : Int).toNat ≤ n3344 := by have q := hb3351; have q1 := (Ow.weak hL3339.env.size h3346).hq; omega
              have h3355 : Ow w.heap.size A3343 ((x2.length : Int) : Int).toNat c3345 x3353 := Ow.w (Ow.cut (Ow.weak hL3339.env.size h3346) hle3352) (by rw [hv3354])
              refine wl_v 3 rfl (v_cutHi (i := (x2.length : Int)) slE_22 rfl rfl (by have q := hb3351; have q1 := (Ow.weak hL3339.env.size h3346).hq; have q2 := (Ow.weak hL3339.env.size h3346).hn; omega) (Ow.weak hL3339.env.size h3346).hn rfl) gn rfl ?_
              obtain ⟨r3359, hv3360, h⟩ := h
              refine wl_s 4 rfl (s_call [.slice A3343 (((x2.length : Int) : Int).toNat) c3345] rfl Tryd.func12 rfl rfl rfl fun w3356 hL3357 => ?_) gn
              have hp3358 : List.Perm ([.own (.slice A3343 n3344 c3345) 5 1 n3344 (r3341.flatMap (eI .u8)), .own (.slice A50 n51 c52) 5 1 n51 (r48.1.flatMap (eI .u8)), .own (.slice A25 n26 c27) 5 1 n26 (r23.1.flatMap (eI .u8)), .own (.slice A2683 n2684 c2685) 5 1 n2684 (x2682.flatMap (eI .u8))] : List Ent) (([] : List Ent) ++ ([.own (.slice A3343 n3344 c3345) 5 1 n3344 (r3341.flatMap (eI .u8)), .own (.slice A50 n51 c52) 5 1 n51 (r48.1.flatMap (eI .u8)), .own (.slice A25 n26 c27) 5 1 n26 (r23.1.flatMap (eI .u8)), .own (.slice A2683 n2684 c2685) 5 1 n2684 (x2682.flatMap (eI .u8))] : List Ent)) := perm_of_idx [] [0, 1, 2, 3] rfl rfl (by kernel_rfl)
              refine Calls.mono (rpc_Take_calls w3356 (Fl ([] : List Snap)) x3353 A3343 (((x2.length : Int) : Int).toNat) c3345 (Rw.w (hL3357.argV (dk := (kInt .u8)) hp3358 [] rfl 0 rfl rfl (Ow.weak hL3339.env.size h3346) (me 0 rfl) (Cells.flat _) (Vw.prefix hle3352) (Nat.le_trans hle3352 (Ow.weak hL3339.env.size h3346).hn) (Ow.weak hL3339.env.size h3346).hm) (by rw [hv3354]; rfl)) (hL3357.hFl (Sl := ([] : List Snap)) hp3358 (sels [] rfl)) (hL3357.into hp3358 (Fl ([] : List Snap))) r3359 hv3360) ?_
              rintro _ w3361 ⟨rfl, hM3362⟩
              have hL3363 := hL3357.call hp3358 hM3362
              refine ⟨_, _, _, rfl, hL3363, ?_⟩
              refine wl_v 5 rfl (v_move rfl) gn rfl ?_
              refine wl_v 6 rfl (v_extract rfl rfl) gn rfl ?_
              refine wl_v 7 rfl (v_extract rfl rfl) gn rfl ?_
              refine wl_v 8 rfl (v_extract rfl rfl) gn rfl ?_
              refine wl_v 9 rfl (v_assign rfl) gn rfl ?_
              refine wl_v 10 rfl (v_assign rfl) gn rfl ?_
              refine wl_v 11 rfl (v_assign rfl) gn rfl ?_
              refine w_end 12 rfl ?_
              refine g_seq (c := trellislaw26_RpcFrames_c52) rfl ?_
              refine g_region (c := trellislaw26_RpcFrames_c53) rfl rfl ?_
              refine wl_v 0 rfl (v_move rfl) gn rfl ?_
              obtain ⟨r3367, hv3368, h⟩ := h
              refine wl_s 1 rfl (s_call [.slice A3 n4 c5] rfl Tryd.func13 rfl rfl rfl fun w3364 hL3365 => ?_) gn
              have hp3366 : List.Perm ([.own (.slice A3343 n3344 c3345) 5 1 n3344 (r3341.flatMap (eI .u8)), .own (.slice A50 n51 c52) 5 1 n51 (r48.1.flatMap (eI .u8)), .own (.slice A25 n26 c27) 5 1 n26 (r23.1.flatMap (eI .u8)), .own (.slice A2683 n2684 c2685) 5 1 n2684 (x2682.flatMap (eI .u8))] : List Ent) (([] : List Ent) ++ ([.own (.slice A3343 n3344 c3345) 5 1 n3344 (r3341.flatMap (eI .u8)), .own (.slice A50 n51 c52) 5 1 n51 (r48.1.flatMap (eI .u8)), .own (.slice A25 n26 c27) 5 1 n26 (r23.1.flatMap (eI .u8)), .own (.slice A2683 n2684 c2685) 5 1 n2684 (x2682.flatMap (eI .u8))] : List Ent)) := perm_of_idx [] [0, 1, 2, 3] rfl rfl (by kernel_rfl)
              refine Calls.mono (trellisref26_Take_calls w3364 (Fl ([] : List Snap)) x2 A3 n4 c5 (Rw.mono h6 (hL3365.toSt hp3366 (me 1 rfl))) (hL3365.hFl (Sl := ([] : List Snap)) hp3366 (sels [] rfl)) (hL3365.into hp3366 (Fl ([] : List Snap))) r3367 hv3368) ?_
              rintro _ w3369 ⟨rfl, hM3370⟩
              have hL3371 := hL3365.call hp3366 hM3370
              refine ⟨_, _, _, rfl, hL3371, ?_⟩
              refine wl_v 2 rfl (v_move rfl) gn rfl ?_
              refine wl_v 3 rfl (v_extract rfl rfl) gn rfl ?_
              refine wl_v 4 rfl (v_extract rfl rfl) gn rfl ?_
              refine wl_v 5 rfl (v_extract rfl rfl) gn rfl ?_
              refine wl_v 6 rfl (v_assign rfl) gn rfl ?_
              refine wl_v 7 rfl (v_assign rfl) gn rfl ?_
              refine wl_v 8 rfl (v_assign rfl) gn rfl ?_
              refine w_end 9 rfl ?_
              refine g_seq (c := trellislaw26_RpcFrames_c54) rfl ?_
              refine g_seq (c := trellislaw26_RpcFrames_c55) rfl ?_
              have j4 : ∀ (x3384 : Bool) (h : trellislaw26_RpcFrames_j4 r3359 r3367 r48 r23 x2 x2682 r3341 x3384 o2) , G (trellislaw26_RpcFrames_C w F r) [.code trellislaw26_RpcFrames_c58, .code trellislaw26_RpcFrames_c56] [(1, .slice A3 n4 c5), (7, .slice A25 n26 c27), (9, .slice A50 n51 c52), (12, .slice A2683 n2684 c2685), (14, .slice A3343 n3344 c3345), (15, .string r3359.1), (18, .string r3367.1), (106, .bool x3384)] [.own (.slice A3343 n3344 c3345) 5 1 n3344 (r3341.flatMap (eI .u8)), .own (.slice A50 n51 c52) 5 1 n51 (r48.1.flatMap (eI .u8)), .own (.slice A25 n26 c27) 5 1 n26 (r23.1.flatMap (eI .u8)), .own (.slice A2683 n2684 c2685) 5 1 n2684 (x2682.flatMap (eI .u8))] [Sm w.heap.size F w [], St w []] := by
                intro x3384 h
                unfold trellislaw26_RpcFrames_j4 at h
                by_cases hp3385 : x3384 = true
                · have h := if_pos' hp3385 h
                  refine g_true (c := trellislaw26_RpcFrames_c58) rfl _ rfl (hp3385) ?_
                  refine g_seq (c := trellislaw26_RpcFrames_c59) rfl ?_
                  refine g_region (c := trellislaw26_RpcFrames_c61) rfl rfl ?_
                  refine wl_v 0 rfl (v_assign rfl) gn rfl ?_
                  refine w_end 1 rfl ?_
                  have h := Out.inr hO2 h
                  have h := Out.inr hO1 h
                  refine g_retR (c := trellislaw26_RpcFrames_c62) [.bool false] rfl Tryd.func3 rfl (.tmp rfl (.nil)) fun wr hLr => ?_
                  have hMr : B.Loc w wr [] [St w []] := hLr.pick (rest := [.own (.slice A3343 n3344 c3345) 5 1 n3344 (r3341.flatMap (eI .u8)), .own (.slice A50 n51 c52) 5 1 n51 (r48.1.flatMap (eI .u8)), .own (.slice A25 n26 c27) 5 1 n26 (r23.1.flatMap (eI .u8)), .own (.slice A2683 n2684 c2685) 5 1 n2684 (x2682.flatMap (eI .u8))]) (perm_of_idx [] [0, 1, 2, 3] rfl rfl (by kernel_rfl)) (sels [1] rfl)
                  have hMi : ∀ e ∈ ([] : List Ent), e ∈ ([.own (.slice A3343 n3344 c3345) 5 1 n3344 (r3341.flatMap (eI .u8)), .own (.slice A50 n51 c52) 5 1 n51 (r48.1.flatMap (eI .u8)), .own (.slice A25 n26 c27) 5 1 n26 (r23.1.flatMap (eI .u8)), .own (.slice A2683 n2684 c2685) 5 1 n2684 (x2682.flatMap (eI .u8))] : List Ent) := sels [] rfl
                  show trellislaw26_RpcFrames_R w F  r (.returned (packV [.bool false])) wr
                  rw [h]
                  exact ⟨rfl, hMr⟩
                · have h := if_neg' hp3385 h
                  refine g_false (c := trellislaw26_RpcFrames_c58) rfl _ rfl ((bf hp3385)) ?_
                  refine g_skip (c := trellislaw26_RpcFrames_c60) rfl ?_
                  refine g_seq (c := trellislaw26_RpcFrames_c56) rfl ?_
                  refine g_seq (c := trellislaw26_RpcFrames_c63) rfl ?_
                  refine g_region (c := trellislaw26_RpcFrames_c65) rfl rfl ?_
                  refine wl_v 0 rfl (v_assign rfl) gn rfl ?_
                  refine w_end 1 rfl ?_
                  refine g_block (c := trellislaw26_RpcFrames_c66) rfl ?_
                  refine g_loop (c := trellislaw26_RpcFrames_c67) rfl ?_
                  have key5 : ∀ s, Rounds (fun (s : (List Int) × Int) o => trellislaw26_RpcFrames_b5 r3359 r3367 r48 r23 x2 x2682 s.1 s.2 o) s o2 → (fun (s : (List Int) × Int) => ∀ (A3576 : Option Addr) (n3577 : Nat) (c3578 : Nat) (h3579 : Ow w.heap.size A3576 n3577 c3578 s.1), G (trellislaw26_RpcFrames_C w F r) [.code trellislaw26_RpcFrames_c68, .inLoop trellislaw26_RpcFrames_c68, .inBlock 4, .code trellislaw26_RpcFrames_c64] [(1, .slice A3 n4 c5), (7, .slice A25 n26 c27), (9, .slice A50 n51 c52), (12, .slice A2683 n2684 c2685), (14, .slice A3576 n3577 c3578), (15, .string r3359.1), (18, .string r3367.1), (21, .int .i64 s.2)] [.own (.slice A3576 n3577 c3578) 5 1 n3577 (s.1.flatMap (eI .u8)), .own (.slice A50 n51 c52) 5 1 n51 (r48.1.flatMap (eI .u8)), .own (.slice A25 n26 c27) 5 1 n26 (r23.1.flatMap (eI .u8)), .own (.slice A2683 n2684 c2685) 5 1 n2684 (x2682.flatMap (eI .u8))] [Sm w.heap.size F w [], St w []]) s := by
                    intro s hs
                    refine Rounds.ind (mot := (fun (s : (List Int) × Int) => ∀ (A3576 : Option Addr) (n3577 : Nat) (c3578 : Nat) (h3579 : Ow w.heap.size A3576 n3577 c3578 s.1), G (trellislaw26_RpcFrames_C w F r) [.code trellislaw26_RpcFrames_c68, .inLoop trellislaw26_RpcFrames_c68, .inBlock 4, .code trellislaw26_RpcFrames_c64] [(1, .slice A3 n4 c5), (7, .slice A25 n26 c27), (9, .slice A50 n51 c52), (12, .slice A2683 n2684 c2685), (14, .slice A3576 n3577 c3578), (15, .string r3359.1), (18, .string r3367.1), (21, .int .i64 s.2)] [.own (.slice A3576 n3577 c3578) 5 1 n3577 (s.1.flatMap (eI .u8)), .own (.slice A50 n51 c52) 5 1 n51 (r48.1.flatMap (eI .u8)), .own (.slice A25 n26 c27) 5 1 n26 (r23.1.flatMap (eI .u8)), .own (.slice A2683 n2684 c2685) 5 1 n2684 (x2682.flatMap (eI .u8))] [Sm w.heap.size F w [], St w []])) ?_ hs
                    clear hs s
                    intro s o3 h hO3
                    obtain ⟨x3575, x3580⟩ := s
                    show ∀ (A3576 : Option Addr) (n3577 : Nat) (c3578 : Nat) (h3579 : Ow w.heap.size A3576 n3577 c3578 x3575), G (trellislaw26_RpcFrames_C w F r) [.code trellislaw26_RpcFrames_c68, .inLoop trellislaw26_RpcFrames_c68, .inBlock 4, .code trellislaw26_RpcFrames_c64] [(1, .slice A3 n4 c5), (7, .slice A25 n26 c27), (9, .slice A50 n51 c52), (12, .slice A2683 n2684 c2685), (14, .slice A3576 n3577 c3578), (15, .string r3359.1), (18, .string r3367.1), (21, .int .i64 x3580)] [.own (.slice A3576 n3577 c3578) 5 1 n3577 (x3575.flatMap (eI .u8)), .own (.slice A50 n51 c52) 5 1 n51 (r48.1.flatMap (eI .u8)), .own (.slice A25 n26 c27) 5 1 n26 (r23.1.flatMap (eI .u8)), .own (.slice A2683 n2684 c2685) 5 1 n2684 (x2682.flatMap (eI .u8))] [Sm w.heap.size F w [], St w []]
                    intro A3576 n3577 c3578 h3579
                    have h : trellislaw26_RpcFrames_b5 r3359 r3367 r48 r23 x2 x2682 x3575 x3580 o3 := h
                    unfold trellislaw26_RpcFrames_b5 at h
                    refine g_seq (c := trellislaw26_RpcFrames_c68) rfl ?_
                    refine g_seq (c := trellislaw26_RpcFrames_c69) rfl ?_
                    refine g_region (c := trellislaw26_RpcFrames_c71) rfl rfl ?_
                    refine wl_v 0 rfl (v_move rfl) gn rfl ?_
                    refine wl_v 1 rfl (v_move rfl) gn rfl ?_
                    refine wl_v 2 rfl (v_lenQ un_22 rfl h3579.hq) gn rfl ?_
                    refine wl_v 3 rfl (v_bin rfl rfl rfl) gn rfl ?_
                    refine w_end 4 rfl ?_
                    by_cases hp3769 : x3580 < (x3575.length : Int)
                    · have h := if_pos' hp3769 h
                      refine g_true (c := trellislaw26_RpcFrames_c72) rfl _ rfl ((decide_eq_true hp3769)) ?_
                      refine g_skip (c := trellislaw26_RpcFrames_c73) rfl ?_
                      refine g_seq (c := trellislaw26_RpcFrames_c70) rfl ?_
                      refine g_block (c := trellislaw26_RpcFrames_c75) rfl ?_
                      refine g_region (c := trellislaw26_RpcFrames_c77) rfl rfl ?_
                      refine wl_v 0 rfl (v_move rfl) gn rfl ?_
                      refine wl_v 1 rfl (v_move rfl) gn rfl ?_
                      obtain ⟨hb3770, h⟩ := h
                      refine wl_v 2 rfl (v_idxO slE_22 rfl rfl h3579 hb3770) gn rfl ?_
                      obtain ⟨x3771, hv3772, h⟩ := h
                      refine wl_s 3 rfl (s_stF (enc := (eI .u8)) (o := 0) (z := 7) (vs := [.int .u8 7]) (i := x3580) 0 (hlI .u8) sz_5 rfl rfl rfl rfl rfl h3579 hb3770 rfl rfl rfl hv3772 fun h3773 => ?_) gn
                      refine w_end 4 rfl ?_
                      refine g_inBlock ?_
                      refine g_region (c := trellislaw26_RpcFrames_c76) rfl rfl ?_
                      refine wl_v 0 rfl (v_move rfl) gn rfl ?_
                      refine wl_v 1 rfl (v_bin rfl rfl rfl) gn rfl ?_
                      refine wl_v 2 rfl (v_assign rfl) gn rfl ?_
                      refine w_end 3 rfl ?_
                      refine g_inLoop ?_
                      have ih := Out.inl hO3 h
                      exact g_go [0, 1] (ih A3576 n3577 c3578 h3773) ⟨rfl, rfl, rfl, rfl, rfl, rfl, rfl, rfl, trivial⟩ (.cons_cons _ (.cons_cons _ (.cons_cons _ (.cons_cons _ (.slnil))))) rfl
                    · have h := if_neg' hp3769 h
                      refine g_false (c := trellislaw26_RpcFrames_c72) rfl _ rfl ((decide_eq_false hp3769)) ?_
                      refine g_exit (c := trellislaw26_RpcFrames_c74) [.code trellislaw26_RpcFrames_c64] rfl rfl ?_
                      refine g_seq (c := trellislaw26_RpcFrames_c64) rfl ?_
                      refine g_seq (c := trellislaw26_RpcFrames_c78) rfl ?_
                      have j6 : ∀ (x3785 : Bool) (h : trellislaw26_RpcFrames_j6 x2 x3785 o3) , G (trellislaw26_RpcFrames_C w F r) [.code trellislaw26_RpcFrames_c81, .code trellislaw26_RpcFrames_c79] [(1, .slice A3 n4 c5), (132, .bool x3785)] [] [Sm w.heap.size F w [], St w []] := by
                        intro x3785 h
                        unfold trellislaw26_RpcFrames_j6 at h
                        by_cases hp3786 : x3785 = true
                        · have h := if_pos' hp3786 h
                          refine g_true (c := trellislaw26_RpcFrames_c81) rfl _ rfl (hp3786) ?_
                          refine g_seq (c := trellislaw26_RpcFrames_c82) rfl ?_
                          refine g_region (c := trellislaw26_RpcFrames_c84) rfl rfl ?_
                          refine wl_v 0 rfl (v_assign rfl) gn rfl ?_
                          refine w_end 1 rfl ?_
                          have h := Out.inr hO3 h
                          have h := Out.inr hO2 h
                          have h := Out.inr hO1 h
                          refine g_retR (c := trellislaw26_RpcFrames_c85) [.bool false] rfl Tryd.func3 rfl (.tmp rfl (.nil)) fun wr hLr => ?_
                          have hMr : B.Loc w wr [] [St w []] := hLr.pick (rest := []) (perm_of_idx [] [] rfl rfl (by kernel_rfl)) (sels [1] rfl)
                          have hMi : ∀ e ∈ ([] : List Ent), e ∈ ([] : List Ent) := sels [] rfl
                          show trellislaw26_RpcFrames_R w F  r (.returned (packV [.bool false])) wr
                          rw [h]
                          exact ⟨rfl, hMr⟩
                        · have h := if_neg' hp3786 h
                          refine g_false (c := trellislaw26_RpcFrames_c81) rfl _ rfl ((bf hp3786)) ?_
                          refine g_skip (c := trellislaw26_RpcFrames_c83) rfl ?_
                          refine g_seq (c := trellislaw26_RpcFrames_c79) rfl ?_
                          refine g_region (c := trellislaw26_RpcFrames_c86) rfl rfl ?_
                          refine wl_v 0 rfl (v_move rfl) gn rfl ?_
                          obtain ⟨r3790, hv3791, h⟩ := h
                          refine wl_s 1 rfl (s_call [.slice A3 n4 c5] rfl Tryd.func11 rfl rfl rfl fun w3787 hL3788 => ?_) gn
                          have hp3789 : List.Perm ([] : List Ent) (([] : List Ent) ++ ([] : List Ent)) := perm_of_idx [] [] rfl rfl (by kernel_rfl)
                          refine Calls.mono (trellislaw26_marked_calls w3787 (Fl ([] : List Snap)) x2 A3 n4 c5 (Rw.mono h6 (hL3788.toSt hp3789 (me 1 rfl))) (hL3788.hFl (Sl := ([] : List Snap)) hp3789 (sels [] rfl)) (hL3788.into hp3789 (Fl ([] : List Snap))) r3790 hv3791) ?_
                          rintro _ w3797 ⟨A3792, n3793, c3794, rfl, hM3798, h3795⟩
                          have hL3799 := hL3788.call hp3789 hM3798
                          refine ⟨_, _, _, rfl, hL3799, ?_⟩
                          refine wl_v 2 rfl (v_move rfl) gn rfl ?_
                          refine wl_v 3 rfl (v_lenQ un_22 rfl h6.hq) gn rfl ?_
                          obtain ⟨hb3800, h⟩ := h
                          obtain ⟨x3802, hv3803, h⟩ := h
                          have hle3801 : ((x2.length : Int) : Int).toNat ≤ n3793 := by have q := hb3800; have q1 := (Ow.weak hL3788.env.size h3795).hq; omega
                          have h3804 : Ow w.heap.size A3792 ((x2.length : Int) : Int).toNat c3794 x3802 := Ow.w (Ow.cut (Ow.weak hL3788.env.size h3795) hle3801) (by rw [hv3803])
                          refine wl_v 4 rfl (v_cutHi (i := (x2.length : Int)) slE_22 rfl rfl (by have q := hb3800; have q1 := (Ow.weak hL3788.env.size h3795).hq; have q2 := (Ow.weak hL3788.env.size h3795).hn; omega) (Ow.weak hL3788.env.size h3795).hn rfl) gn rfl ?_
                          refine wl_v 5 rfl (v_assign rfl) gn rfl ?_
                          refine w_end 6 rfl ?_
                          refine g_seq (c := trellislaw26_RpcFrames_c87) rfl ?_
                          refine g_region (c := trellislaw26_RpcFrames_c88) rfl rfl ?_
                          refine wl_v 0 rfl (v_move rfl) gn rfl ?_
                          obtain ⟨r3808, hv3809, h⟩ := h
                          refine wl_s 1 rfl (s_call [.slice A3792 (((x2.length : Int) : Int).toNat) c3794] rfl Tryd.func12 rfl rfl rfl fun w3805 hL3806 => ?_) gn
                          have hp3807 : List.Perm ([.own (.slice A3792 n3793 c3794) 5 1 n3793 (r3790.flatMap (eI .u8))] : List Ent) (([] : List Ent) ++ ([.own (.slice A3792 n3793 c3794) 5 1 n3793 (r3790.flatMap (eI .u8))] : List Ent)) := perm_of_idx [] [0] rfl rfl (by kernel_rfl)
                          refine Calls.mono (rpc_Take_calls w3805 (Fl ([] : List Snap)) x3802 A3792 (((x2.length : Int) : Int).toNat) c3794 (Rw.w (hL3806.argV (dk := (kInt .u8)) hp3807 [] rfl 0 rfl rfl (Ow.weak hL3788.env.size h3795) (me 0 rfl) (Cells.flat _) (Vw.prefix hle3801) (Nat.le_trans hle3801 (Ow.weak hL3788.env.size h3795).hn) (Ow.weak hL3788.env.size h3795).hm) (by rw [hv3803]; rfl)) (hL3806.hFl (Sl := ([] : List Snap)) hp3807 (sels [] rfl)) (hL3806.into hp3807 (Fl ([] : List Snap))) r3808 hv3809) ?_
                          rintro _ w3810 ⟨rfl, hM3811⟩
                          have hL3812 := hL3806.call hp3807 hM3811
                          refine ⟨_, _, _, rfl, hL3812, ?_⟩
                          refine w_end 2 rfl ?_
                          refine g_seq (c := trellislaw26_RpcFrames_c89) rfl ?_
                          refine g_seq (c := trellislaw26_RpcFrames_c90) rfl ?_
                          refine g_region (c := trellislaw26_RpcFrames_c92) rfl rfl ?_
                          refine wl_v 0 rfl (v_assign rfl) gn rfl ?_
                          refine w_end 1 rfl ?_
                          refine g_block (c := trellislaw26_RpcFrames_c93) rfl ?_
                          refine g_loop (c := trellislaw26_RpcFrames_c94) rfl ?_
                          have key7 : ∀ s, Rounds (fun (s : (List Int) × Int) o => trellislaw26_RpcFrames_b7 s.1 s.2 o) s o3 → (fun (s : (List Int) × Int) => ∀ (A3814 : Option Addr) (n3815 : Nat) (c3816 : Nat) (h3817 : Ow w.heap.size A3814 n3815 c3816 s.1), G (trellislaw26_RpcFrames_C w F r) [.code trellislaw26_RpcFrames_c95, .inLoop trellislaw26_RpcFrames_c95, .inBlock 6, .code trellislaw26_RpcFrames_c91] [(22, .slice A3814 n3815 c3816), (23, .int .i64 s.2)] [.own (.slice A3814 n3815 c3816) 5 1 n3815 (s.1.flatMap (eI .u8))] [Sm w.heap.size F w [], St w []]) s := by
                            intro s hs
                            refine Rounds.ind (mot := (fun (s : (List Int) × Int) => ∀ (A3814 : Option Addr) (n3815 : Nat) (c3816 : Nat) (h3817 : Ow w.heap.size A3814 n3815 c3816 s.1), G (trellislaw26_RpcFrames_C w F r) [.code trellislaw26_RpcFrames_c95, .inLoop trellislaw26_RpcFrames_c95, .inBlock 6, .code trellislaw26_RpcFrames_c91] [(22, .slice A3814 n3815 c3816), (23, .int .i64 s.2)] [.own (.slice A3814 n3815 c3816) 5 1 n3815 (s.1.flatMap (eI .u8))] [Sm w.heap.size F w [], St w []])) ?_ hs
                            clear hs s
                            intro s o4 h hO4
                            obtain ⟨x3860, x3861⟩ := s
                            show ∀ (A3814 : Option Addr) (n3815 : Nat) (c3816 : Nat) (h3817 : Ow w.heap.size A3814 n3815 c3816 x3860), G (trellislaw26_RpcFrames_C w F r) [.code trellislaw26_RpcFrames_c95, .inLoop trellislaw26_RpcFrames_c95, .inBlock 6, .code trellislaw26_RpcFrames_c91] [(22, .slice A3814 n3815 c3816), (23, .int .i64 x3861)] [.own (.slice A3814 n3815 c3816) 5 1 n3815 (x3860.flatMap (eI .u8))] [Sm w.heap.size F w [], St w []]
                            intro A3814 n3815 c3816 h3817
                            have h : trellislaw26_RpcFrames_b7 x3860 x3861 o4 := h
                            unfold trellislaw26_RpcFrames_b7 at h
                            refine g_seq (c := trellislaw26_RpcFrames_c95) rfl ?_
                            refine g_seq (c := trellislaw26_RpcFrames_c96) rfl ?_
                            refine g_region (c := trellislaw26_RpcFrames_c98) rfl rfl ?_
                            refine wl_v 0 rfl (v_move rfl) gn rfl ?_
                            refine wl_v 1 rfl (v_move rfl) gn rfl ?_
                            refine wl_v 2 rfl (v_lenQ un_22 rfl h3817.hq) gn rfl ?_
                            refine wl_v 3 rfl (v_bin rfl rfl rfl) gn rfl ?_
                            refine w_end 4 rfl ?_
                            by_cases hp3904 : x3861 < (x3860.length : Int)
                            · have h := if_pos' hp3904 h
                              refine g_true (c := trellislaw26_RpcFrames_c99) rfl _ rfl ((decide_eq_true hp3904)) ?_
                              refine g_skip (c := trellislaw26_RpcFrames_c100) rfl ?_
                              refine g_seq (c := trellislaw26_RpcFrames_c97) rfl ?_
                              refine g_block (c := trellislaw26_RpcFrames_c102) rfl ?_
                              refine g_region (c := trellislaw26_RpcFrames_c104) rfl rfl ?_
                              refine wl_v 0 rfl (v_move rfl) gn rfl ?_
                              refine wl_v 1 rfl (v_move rfl) gn rfl ?_
                              refine wl_v 2 rfl (v_move rfl) gn rfl ?_
                              refine wl_v 3 rfl (v_move rfl) gn rfl ?_
                              refine wl_v 4 rfl (v_lenQ un_22 rfl h3817.hq) gn rfl ?_
                              refine wl_v 5 rfl (v_bin rfl rfl rfl) gn rfl ?_
                              refine wl_v 6 rfl (v_move rfl) gn rfl ?_
                              refine wl_v 7 rfl (v_bin rfl rfl rfl) gn rfl ?_
                              obtain ⟨hb3905, h⟩ := h
                              refine wl_v 8 rfl (v_idxO slE_22 rfl rfl h3817 hb3905) gn rfl ?_
                              refine wl_v 9 rfl (v_ldO1 (.int .u8 (ix x3860 (w64 ((w64 ((x3860.length : Int) - 1)) - x3861)))) 0 ld_5 rfl rfl (fm_get0 (hlI .u8) hb3905 rfl)) gn rfl ?_
                              obtain ⟨hb3906, h⟩ := h
                              refine wl_v 10 rfl (v_idxO slE_22 rfl rfl h3817 hb3906) gn rfl ?_
                              obtain ⟨x3907, hv3908, h⟩ := h
                              refine wl_s 11 rfl (s_stF (enc := (eI .u8)) (o := 0) (z := (ix x3860 (w64 ((w64 ((x3860.length : Int) - 1)) - x3861)))) (vs := [.int .u8 (ix x3860 (w64 ((w64 ((x3860.length : Int) - 1)) - x3861)))]) (i := x3861) 0 (hlI .u8) sz_5 rfl rfl rfl rfl rfl h3817 hb3906 rfl rfl rfl hv3908 fun h3909 => ?_) gn
                              refine w_end 12 rfl ?_
                              refine g_inBlock ?_
                              refine g_region (c := trellislaw26_RpcFrames_c103) rfl rfl ?_
                              refine wl_v 0 rfl (v_move rfl) gn rfl ?_
                              refine wl_v 1 rfl (v_bin rfl rfl rfl) gn rfl ?_
                              refine wl_v 2 rfl (v_assign rfl) gn rfl ?_
                              refine w_end 3 rfl ?_
                              refine g_inLoop ?_
                              have ih := Out.inl hO4 h
                              exact g_go [0, 1] (ih A3814 n3815 c3816 h3909) ⟨rfl, rfl, trivial⟩ (.cons_cons _ (.slnil)) rfl
                            · have h := if_neg' hp3904 h
                              refine g_false (c := trellislaw26_RpcFrames_c99) rfl _ rfl ((decide_eq_false hp3904)) ?_
                              refine g_exit (c := trellislaw26_RpcFrames_c101) [.code trellislaw26_RpcFrames_c91] rfl rfl ?_
                              refine g_seq (c := trellislaw26_RpcFrames_c91) rfl ?_
                              refine g_region (c := trellislaw26_RpcFrames_c105) rfl rfl ?_
                              refine wl_v 0 rfl (v_move rfl) gn rfl ?_
                              obtain ⟨r3913, hv3914, h⟩ := h
                              refine wl_s 1 rfl (s_call [.slice A3814 n3815 c3816] rfl Tryd.func11 rfl rfl rfl fun w3910 hL3911 => ?_) gn
                              have hp3912 : List.Perm ([.own (.slice A3814 n3815 c3816) 5 1 n3815 (x3860.flatMap (eI .u8))] : List Ent) (([] : List Ent) ++ ([.own (.slice A3814 n3815 c3816) 5 1 n3815 (x3860.flatMap (eI .u8))] : List Ent)) := perm_of_idx [] [0] rfl rfl (by kernel_rfl)
                              refine Calls.mono (trellislaw26_marked_calls w3910 (Fl ([] : List Snap)) x3860 A3814 n3815 c3816 (hL3911.argO (dk := (kInt .u8)) hp3912 [] rfl 0 rfl rfl h3817 (me 0 rfl) (Cells.flat _)) (hL3911.hFl (Sl := ([] : List Snap)) hp3912 (sels [] rfl)) (hL3911.into hp3912 (Fl ([] : List Snap))) r3913 hv3914) ?_
                              rintro _ w3920 ⟨A3915, n3916, c3917, rfl, hM3921, h3918⟩
                              have hL3922 := hL3911.call hp3912 hM3921
                              refine ⟨_, _, _, rfl, hL3922, ?_⟩
                              refine wl_v 2 rfl (v_move rfl) gn rfl ?_
                              refine wl_v 3 rfl (v_lenQ un_22 rfl h3817.hq) gn rfl ?_
                              obtain ⟨hb3923, h⟩ := h
                              obtain ⟨x3925, hv3926, h⟩ := h
                              have hle3924 : ((x3860.length : Int) : Int).toNat ≤ n3916 := by have q := hb3923; have q1 := (Ow.weak hL3911.env.size h3918).hq; omega
                              have h3927 : Ow w.heap.size A3915 ((x3860.length : Int) : Int).toNat c3917 x3925 := Ow.w (Ow.cut (Ow.weak hL3911.env.size h3918) hle3924) (by rw [hv3926])
                              refine wl_v 4 rfl (v_cutHi (i := (x3860.length : Int)) slE_22 rfl rfl (by have q := hb3923; have q1 := (Ow.weak hL3911.env.size h3918).hq; have q2 := (Ow.weak hL3911.env.size h3918).hn; omega) (Ow.weak hL3911.env.size h3918).hn rfl) gn rfl ?_
                              obtain ⟨r3931, hv3932, h⟩ := h
                              refine wl_s 5 rfl (s_call [.slice A3915 (((x3860.length : Int) : Int).toNat) c3917] rfl Tryd.func13 rfl rfl rfl fun w3928 hL3929 => ?_) gn
                              have hp3930 : List.Perm ([.own (.slice A3915 n3916 c3917) 5 1 n3916 (r3913.flatMap (eI .u8)), .own (.slice A3814 n3815 c3816) 5 1 n3815 (x3860.flatMap (eI .u8))] : List Ent) (([] : List Ent) ++ ([.own (.slice A3915 n3916 c3917) 5 1 n3916 (r3913.flatMap (eI .u8)), .own (.slice A3814 n3815 c3816) 5 1 n3815 (x3860.flatMap (eI .u8))] : List Ent)) := perm_of_idx [] [0, 1] rfl rfl (by kernel_rfl)
                              refine Calls.mono (trellisref26_Take_calls w3928 (Fl ([] : List Snap)) x3925 A3915 (((x3860.length : Int) : Int).toNat) c3917 (Rw.w (hL3929.argV (dk := (kInt .u8)) hp3930 [] rfl 0 rfl rfl (Ow.weak hL3911.env.size h3918) (me 0 rfl) (Cells.flat _) (Vw.prefix hle3924) (Nat.le_trans hle3924 (Ow.weak hL3911.env.size h3918).hn) (Ow.weak hL3911.env.size h3918).hm) (by rw [hv3926]; rfl)) (hL3929.hFl (Sl := ([] : List Snap)) hp3930 (sels [] rfl)) (hL3929.into hp3930 (Fl ([] : List Snap))) r3931 hv3932) ?_
                              rintro _ w3933 ⟨rfl, hM3934⟩
                              have hL3935 := hL3929.call hp3930 hM3934
                              refine ⟨_, _, _, rfl, hL3935, ?_⟩
                              refine wl_v 6 rfl (v_move rfl) gn rfl ?_
                              refine wl_v 7 rfl (v_extract rfl rfl) gn rfl ?_
                              refine wl_v 8 rfl (v_extract rfl rfl) gn rfl ?_
                              refine wl_v 9 rfl (v_extract rfl rfl) gn rfl ?_
                              refine wl_v 10 rfl (v_assign rfl) gn rfl ?_
                              refine wl_v 11 rfl (v_assign rfl) gn rfl ?_
                              refine wl_v 12 rfl (v_assign rfl) gn rfl ?_
                              refine w_end 13 rfl ?_
                              refine g_seq (c := trellislaw26_RpcFrames_c106) rfl ?_
                              refine g_region (c := trellislaw26_RpcFrames_c107) rfl rfl ?_
                              refine wl_v 0 rfl (v_move rfl) gn rfl ?_
                              obtain ⟨r3939, hv3940, h⟩ := h
                              refine wl_s 1 rfl (s_call [.slice A3814 n3815 c3816] rfl Tryd.func12 rfl rfl rfl fun w3936 hL3937 => ?_) gn
                              have hp3938 : List.Perm ([.own (.slice A3915 n3916 c3917) 5 1 n3916 (r3913.flatMap (eI .u8)), .own (.slice A3814 n3815 c3816) 5 1 n3815 (x3860.flatMap (eI .u8))] : List Ent) (([] : List Ent) ++ ([.own (.slice A3915 n3916 c3917) 5 1 n3916 (r3913.flatMap (eI .u8)), .own (.slice A3814 n3815 c3816) 5 1 n3815 (x3860.flatMap (eI .u8))] : List Ent)) := perm_of_idx [] [0, 1] rfl rfl (by kernel_rfl)
                              refine Calls.mono (rpc_Take_calls w3936 (Fl ([] : List Snap)) x3860 A3814 n3815 c3816 (hL3937.argO (dk := (kInt .u8)) hp3938 [] rfl 1 rfl rfl h3817 (me 0 rfl) (Cells.flat _)) (hL3937.hFl (Sl := ([] : List Snap)) hp3938 (sels [] rfl)) (hL3937.into hp3938 (Fl ([] : List Snap))) r3939 hv3940) ?_
                              rintro _ w3941 ⟨rfl, hM3942⟩
                              have hL3943 := hL3937.call hp3938 hM3942
                              refine ⟨_, _, _, rfl, hL3943, ?_⟩
                              refine wl_v 2 rfl (v_move rfl) gn rfl ?_
                              refine wl_v 3 rfl (v_extract rfl rfl) gn rfl ?_
                              refine wl_v 4 rfl (v_extract rfl rfl) gn rfl ?_
                              refine wl_v 5 rfl (v_extract rfl rfl) gn rfl ?_
                              refine wl_v 6 rfl (v_assign rfl) gn rfl ?_
                              refine wl_v 7 rfl (v_assign rfl) gn rfl ?_
                              refine wl_v 8 rfl (v_assign rfl) gn rfl ?_
                              refine w_end 9 rfl ?_
                              refine g_seq (c := trellislaw26_RpcFrames_c108) rfl ?_
                              refine g_region (c := trellislaw26_RpcFrames_c109) rfl rfl ?_
                              refine wl_v 0 rfl (v_move rfl) gn rfl ?_
                              refine wl_v 1 rfl (v_move rfl) gn rfl ?_
                              refine wl_v 2 rfl (v_eqS rfl rfl) gn rfl ?_
                              refine wl_v 3 rfl (v_move rfl) gn rfl ?_
                              by_cases hp3944 : r3939.1 = r3931.1
                              · have h := if_pos' hp3944 h
                                refine w_bool 176 rfl ((seq_t hp3944)) ?_
                                refine wl_v 4 rfl (v_move rfl) (gy 176 rfl rfl) rfl ?_
                                refine wl_v 5 rfl (v_move rfl) (gy 176 rfl rfl) rfl ?_
                                refine wl_v 6 rfl (v_bin rfl rfl rfl) (gy 176 rfl rfl) rfl ?_
                                refine wl_v 7 rfl (v_pick (b := true) rfl rfl) gn rfl ?_
                                refine wl_v 8 rfl (v_move rfl) gn rfl ?_
                                by_cases hp3945 : r3939.2.1 = r3931.2.1
                                · have h := if_pos' hp3945 h
                                  refine w_bool 181 rfl ((eqi hp3945)) ?_
                                  refine wl_v 9 rfl (v_move rfl) (gy 181 rfl rfl) rfl ?_
                                  refine wl_v 10 rfl (v_move rfl) (gy 181 rfl rfl) rfl ?_
                                  refine wl_v 11 rfl (v_bin rfl rfl rfl) (gy 181 rfl rfl) rfl ?_
                                  refine wl_v 12 rfl (v_pick (b := true) rfl rfl) gn rfl ?_
                                  refine wl_v 13 rfl (v_assign rfl) gn rfl ?_
                                  refine w_end 14 rfl ?_
                                  have h := Out.inr hO4 h
                                  have h := Out.inr hO3 h
                                  have h := Out.inr hO2 h
                                  have h := Out.inr hO1 h
                                  refine g_retR (c := trellislaw26_RpcFrames_c110) [.bool (r3939.2.2 == r3931.2.2)] rfl Tryd.func3 rfl (.tmp rfl (.nil)) fun wr hLr => ?_
                                  have hMr : B.Loc w wr [] [St w []] := hLr.pick (rest := [.own (.slice A3915 n3916 c3917) 5 1 n3916 (r3913.flatMap (eI .u8)), .own (.slice A3814 n3815 c3816) 5 1 n3815 (x3860.flatMap (eI .u8))]) (perm_of_idx [] [0, 1] rfl rfl (by kernel_rfl)) (sels [1] rfl)
                                  have hMi : ∀ e ∈ ([] : List Ent), e ∈ ([.own (.slice A3915 n3916 c3917) 5 1 n3916 (r3913.flatMap (eI .u8)), .own (.slice A3814 n3815 c3816) 5 1 n3815 (x3860.flatMap (eI .u8))] : List Ent) := sels [] rfl
                                  show trellislaw26_RpcFrames_R w F  r (.returned (packV [.bool (r3939.2.2 == r3931.2.2)])) wr
                                  rw [h]
                                  exact ⟨rfl, hMr⟩
                                · have h := if_neg' hp3945 h
                                  refine w_bool 181 rfl ((nei hp3945)) ?_
                                  refine wl_pass 9 rfl (ps 181 rfl rfl rfl) ?_
                                  refine wl_pass 10 rfl (ps 181 rfl rfl rfl) ?_
                                  refine wl_pass 11 rfl (ps 181 rfl rfl rfl) ?_
                                  refine wl_v 12 rfl (v_pick (b := false) rfl rfl) gn rfl ?_
                                  refine wl_v 13 rfl (v_assign rfl) gn rfl ?_
                                  refine w_end 14 rfl ?_
                                  have h := Out.inr hO4 h
                                  have h := Out.inr hO3 h
                                  have h := Out.inr hO2 h
                                  have h := Out.inr hO1 h
                                  refine g_retR (c := trellislaw26_RpcFrames_c110) [.bool false] rfl Tryd.func3 rfl (.tmp rfl (.nil)) fun wr hLr => ?_
                                  have hMr : B.Loc w wr [] [St w []] := hLr.pick (rest := [.own (.slice A3915 n3916 c3917) 5 1 n3916 (r3913.flatMap (eI .u8)), .own (.slice A3814 n3815 c3816) 5 1 n3815 (x3860.flatMap (eI .u8))]) (perm_of_idx [] [0, 1] rfl rfl (by kernel_rfl)) (sels [1] rfl)
                                  have hMi : ∀ e ∈ ([] : List Ent), e ∈ ([.own (.slice A3915 n3916 c3917) 5 1 n3916 (r3913.flatMap (eI .u8)), .own (.slice A3814 n3815 c3816) 5 1 n3815 (x3860.flatMap (eI .u8))] : List Ent) := sels [] rfl
                                  show trellislaw26_RpcFrames_R w F  r (.returned (packV [.bool false])) wr
                                  rw [h]
                                  exact ⟨rfl, hMr⟩
                              · have h := if_neg' hp3944 h
                                refine w_bool 176 rfl ((seq_f hp3944)) ?_
                                refine wl_pass 4 rfl (ps 176 rfl rfl rfl) ?_
                                refine wl_pass 5 rfl (ps 176 rfl rfl rfl) ?_
                                refine wl_pass 6 rfl (ps 176 rfl rfl rfl) ?_
                                refine wl_v 7 rfl (v_pick (b := false) rfl rfl) gn rfl ?_
                                refine wl_v 8 rfl (v_move rfl) gn rfl ?_
                                refine wl_pass 9 rfl (ps 181 rfl rfl rfl) ?_
                                refine wl_pass 10 rfl (ps 181 rfl rfl rfl) ?_
                                refine wl_pass 11 rfl (ps 181 rfl rfl rfl) ?_
                                refine wl_v 12 rfl (v_pick (b := false) rfl rfl) gn rfl ?_
                                refine wl_v 13 rfl (v_assign rfl) gn rfl ?_
                                refine w_end 14 rfl ?_
                                have h := Out.inr hO4 h
                                have h := Out.inr hO3 h
                                have h := Out.inr hO2 h
                                have h := Out.inr hO1 h
                                refine g_retR (c := trellislaw26_RpcFrames_c110) [.bool false] rfl Tryd.func3 rfl (.tmp rfl (.nil)) fun wr hLr => ?_
                                have hMr : B.Loc w wr [] [St w []] := hLr.pick (rest := [.own (.slice A3915 n3916 c3917) 5 1 n3916 (r3913.flatMap (eI .u8)), .own (.slice A3814 n3815 c3816) 5 1 n3815 (x3860.flatMap (eI .u8))]) (perm_of_idx [] [0, 1] rfl rfl (by kernel_rfl)) (sels [1] rfl)
                                have hMi : ∀ e ∈ ([] : List Ent), e ∈ ([.own (.slice A3915 n3916 c3917) 5 1 n3916 (r3913.flatMap (eI .u8)), .own (.slice A3814 n3815 c3816) 5 1 n3815 (x3860.flatMap (eI .u8))] : List Ent) := sels [] rfl
                                show trellislaw26_RpcFrames_R w F  r (.returned (packV [.bool false])) wr
                                rw [h]
                                exact ⟨rfl, hMr⟩
                          have h3946 : Ow w.heap.size A3792 (((x2.length : Int) : Int).toNat) c3794 x3802 := (Ow.w (Ow.cut (Ow.weak hL3788.env.size h3795) hle3801) (by rw [hv3803]))
                          refine g_short (j := 0) (m := (((x2.length : Int) : Int).toNat)) (cells' := x3802.flatMap (eI .u8)) rfl hle3801 (by rw [fm_take (hlI .u8), hv3803]) ?_
                          exact g_go [0, 1] (key7 _ h A3792 (((x2.length : Int) : Int).toNat) c3794 h3946) ⟨rfl, rfl, trivial⟩ (.cons_cons _ (.slnil)) rfl
                      refine g_region (c := trellislaw26_RpcFrames_c80) rfl rfl ?_
                      refine wl_v 0 rfl (v_move rfl) gn rfl ?_
                      refine wl_v 1 rfl (v_move rfl) gn rfl ?_
                      refine wl_v 2 rfl (v_neS rfl rfl) gn rfl ?_
                      refine wl_v 3 rfl (v_move rfl) gn rfl ?_
                      by_cases hp3947 : r3359.1 = r3367.1
                      · have h := if_pos' hp3947 h
                        refine w_bool 119 rfl ((nf (seq_t hp3947))) ?_
                        refine wl_v 4 rfl (v_move rfl) (gy 119 rfl rfl) rfl ?_
                        refine wl_v 5 rfl (v_move rfl) (gy 119 rfl rfl) rfl ?_
                        obtain ⟨r3951, hv3952, h⟩ := h
                        refine wl_s 6 rfl (s_call [.slice A50 n51 c52, .slice A25 n26 c27] rfl Tryd.func10 rfl rfl rfl fun w3948 hL3949 => ?_) (gy 119 rfl rfl)
                        have hp3950 : List.Perm ([.own (.slice A3576 n3577 c3578) 5 1 n3577 (x3575.flatMap (eI .u8)), .own (.slice A50 n51 c52) 5 1 n51 (r48.1.flatMap (eI .u8)), .own (.slice A25 n26 c27) 5 1 n26 (r23.1.flatMap (eI .u8)), .own (.slice A2683 n2684 c2685) 5 1 n2684 (x2682.flatMap (eI .u8))] : List Ent) (([] : List Ent) ++ ([.own (.slice A3576 n3577 c3578) 5 1 n3577 (x3575.flatMap (eI .u8)), .own (.slice A50 n51 c52) 5 1 n51 (r48.1.flatMap (eI .u8)), .own (.slice A25 n26 c27) 5 1 n26 (r23.1.flatMap (eI .u8)), .own (.slice A2683 n2684 c2685) 5 1 n2684 (x2682.flatMap (eI .u8))] : List Ent)) := perm_of_idx [] [0, 1, 2, 3] rfl rfl (by kernel_rfl)
                        refine Calls.mono (trellislaw26_sameBytes_calls w3948 (Fl ([] : List Snap)) r48.1 r23.1 A50 n51 c52 A25 n26 c27 (hL3949.argO (dk := (kInt .u8)) hp3950 [] rfl 1 rfl rfl (Ow.weak hL46.env.size h53) (me 0 rfl) (Cells.flat _)) (hL3949.argO (dk := (kInt .u8)) hp3950 [] rfl 2 rfl rfl (Ow.weak hL21.env.size h28) (me 0 rfl) (Cells.flat _)) (hL3949.hFl (Sl := ([] : List Snap)) hp3950 (sels [] rfl)) (hL3949.into hp3950 (Fl ([] : List Snap))) r3951 hv3952) ?_
                        rintro _ w3953 ⟨rfl, hM3954⟩
                        have hL3955 := hL3949.call hp3950 hM3954
                        refine ⟨_, _, _, rfl, hL3955, ?_⟩
                        refine wl_v 7 rfl (v_not rfl) (gy 119 rfl rfl) rfl ?_
                        refine wl_v 8 rfl (v_pick (b := false) rfl rfl) gn rfl ?_
                        refine wl_v 9 rfl (v_move rfl) gn rfl ?_
                        by_cases hp3956 : r3951 = true
                        · have h := if_pos' hp3956 h
                          refine w_bool 125 rfl ((nf hp3956)) ?_
                          refine wl_v 10 rfl (v_move rfl) (gy 125 rfl rfl) rfl ?_
                          refine wl_v 11 rfl (v_lenQ un_22 rfl h2686.hq) (gy 125 rfl rfl) rfl ?_
                          refine wl_v 12 rfl (v_move rfl) (gy 125 rfl rfl) rfl ?_
                          refine wl_v 13 rfl (v_lenQ un_22 rfl (Ow.weak hL21.env.size h28).hq) (gy 125 rfl rfl) rfl ?_
                          refine wl_v 14 rfl (v_bin rfl rfl rfl) (gy 125 rfl rfl) rfl ?_
                          refine wl_v 15 rfl (v_bin rfl rfl rfl) (gy 125 rfl rfl) rfl ?_
                          refine wl_v 16 rfl (v_pick (b := false) rfl rfl) gn rfl ?_
                          refine w_end 17 rfl ?_
                          exact g_go [0, 1] (j6 ((x2682.length : Int) != (w64 ((r23.1.length : Int) + 70))) h) ⟨rfl, rfl, trivial⟩ (.cons _ (.cons _ (.cons _ (.cons _ (.slnil))))) rfl
                        · have h := if_neg' hp3956 h
                          refine w_bool 125 rfl ((nt (bf hp3956))) ?_
                          refine wl_pass 10 rfl (ps 125 rfl rfl rfl) ?_
                          refine wl_pass 11 rfl (ps 125 rfl rfl rfl) ?_
                          refine wl_pass 12 rfl (ps 125 rfl rfl rfl) ?_
                          refine wl_pass 13 rfl (ps 125 rfl rfl rfl) ?_
                          refine wl_pass 14 rfl (ps 125 rfl rfl rfl) ?_
                          refine wl_pass 15 rfl (ps 125 rfl rfl rfl) ?_
                          refine wl_v 16 rfl (v_pick (b := true) rfl rfl) gn rfl ?_
                          refine w_end 17 rfl ?_
                          exact g_go [0, 1] (j6 true h) ⟨rfl, rfl, trivial⟩ (.cons _ (.cons _ (.cons _ (.cons _ (.slnil))))) rfl
                      · have h := if_neg' hp3947 h
                        refine w_bool 119 rfl ((nt (seq_f hp3947))) ?_
                        refine wl_pass 4 rfl (ps 119 rfl rfl rfl) ?_
                        refine wl_pass 5 rfl (ps 119 rfl rfl rfl) ?_
                        refine wl_pass 6 rfl (ps 119 rfl rfl rfl) ?_
                        refine wl_pass 7 rfl (ps 119 rfl rfl rfl) ?_
                        refine wl_v 8 rfl (v_pick (b := true) rfl rfl) gn rfl ?_
                        refine wl_v 9 rfl (v_move rfl) gn rfl ?_
                        refine wl_pass 10 rfl (ps 125 rfl rfl rfl) ?_
                        refine wl_pass 11 rfl (ps 125 rfl rfl rfl) ?_
                        refine wl_pass 12 rfl (ps 125 rfl rfl rfl) ?_
                        refine wl_pass 13 rfl (ps 125 rfl rfl rfl) ?_
                        refine wl_pass 14 rfl (ps 125 rfl rfl rfl) ?_
                        refine wl_pass 15 rfl (ps 125 rfl rfl rfl) ?_
                        refine wl_v 16 rfl (v_pick (b := true) rfl rfl) gn rfl ?_
                        refine w_end 17 rfl ?_
                        exact g_go [0, 1] (j6 true h) ⟨rfl, rfl, trivial⟩ (.cons _ (.cons _ (.cons _ (.cons _ (.slnil))))) rfl
                  exact g_go [0, 1] (key5 _ h A3343 n3344 c3345 (Ow.weak hL3339.env.size h3346)) ⟨rfl, rfl, rfl, rfl, rfl, rfl, rfl, rfl, trivial⟩ (.cons_cons _ (.cons_cons _ (.cons_cons _ (.cons_cons _ (.slnil))))) rfl
              refine g_region (c := trellislaw26_RpcFrames_c57) rfl rfl ?_
              refine wl_v 0 rfl (v_move rfl) gn rfl ?_
              refine wl_v 1 rfl (v_move rfl) gn rfl ?_
              refine wl_v 2 rfl (v_neS rfl rfl) gn rfl ?_
              refine wl_v 3 rfl (v_move rfl) gn rfl ?_
              by_cases hp3957 : r3359.1 = r3367.1
              · have h := if_pos' hp3957 h
                refine w_bool 91 rfl ((nf (seq_t hp3957))) ?_
                refine wl_v 4 rfl (v_move rfl) (gy 91 rfl rfl) rfl ?_
                refine wl_v 5 rfl (v_move rfl) (gy 91 rfl rfl) rfl ?_
                refine wl_v 6 rfl (v_bin rfl rfl rfl) (gy 91 rfl rfl) rfl ?_
                refine wl_v 7 rfl (v_pick (b := false) rfl rfl) gn rfl ?_
                refine wl_v 8 rfl (v_move rfl) gn rfl ?_
                by_cases hp3958 : r3359.2.1 = r3367.2.1
                · have h := if_pos' hp3958 h
                  refine w_bool 96 rfl ((eqib hp3958)) ?_
                  refine wl_v 9 rfl (v_move rfl) (gy 96 rfl rfl) rfl ?_
                  refine wl_v 10 rfl (v_move rfl) (gy 96 rfl rfl) rfl ?_
                  refine wl_v 11 rfl (v_bin rfl rfl rfl) (gy 96 rfl rfl) rfl ?_
                  refine wl_v 12 rfl (v_pick (b := false) rfl rfl) gn rfl ?_
                  refine wl_v 13 rfl (v_move rfl) gn rfl ?_
                  by_cases hp3959 : r3359.2.2 = r3367.2.2
                  · have h := if_pos' hp3959 h
                    refine w_bool 101 rfl ((eqib hp3959)) ?_
                    refine wl_v 14 rfl (v_move rfl) (gy 101 rfl rfl) rfl ?_
                    refine wl_v 15 rfl (v_move rfl) (gy 101 rfl rfl) rfl ?_
                    obtain ⟨r3963, hv3964, h⟩ := h
                    refine wl_s 16 rfl (s_call [.slice A3343 n3344 c3345, .slice A3 n4 c5] rfl Tryd.func14 rfl rfl rfl fun w3960 hL3961 => ?_) (gy 101 rfl rfl)
                    have hp3962 : List.Perm ([.own (.slice A3343 n3344 c3345) 5 1 n3344 (r3341.flatMap (eI .u8)), .own (.slice A50 n51 c52) 5 1 n51 (r48.1.flatMap (eI .u8)), .own (.slice A25 n26 c27) 5 1 n26 (r23.1.flatMap (eI .u8)), .own (.slice A2683 n2684 c2685) 5 1 n2684 (x2682.flatMap (eI .u8))] : List Ent) (([] : List Ent) ++ ([.own (.slice A3343 n3344 c3345) 5 1 n3344 (r3341.flatMap (eI .u8)), .own (.slice A50 n51 c52) 5 1 n51 (r48.1.flatMap (eI .u8)), .own (.slice A25 n26 c27) 5 1 n26 (r23.1.flatMap (eI .u8)), .own (.slice A2683 n2684 c2685) 5 1 n2684 (x2682.flatMap (eI .u8))] : List Ent)) := perm_of_idx [] [0, 1, 2, 3] rfl rfl (by kernel_rfl)
                    refine Calls.mono (trellislaw26_whole_calls w3960 (Fl ([] : List Snap)) r3341 x2 A3343 n3344 c3345 A3 n4 c5 (hL3961.argO (dk := (kInt .u8)) hp3962 [] rfl 0 rfl rfl (Ow.weak hL3339.env.size h3346) (me 0 rfl) (Cells.flat _)) (Rw.mono h6 (hL3961.toSt hp3962 (me 1 rfl))) (hL3961.hFl (Sl := ([] : List Snap)) hp3962 (sels [] rfl)) (hL3961.into hp3962 (Fl ([] : List Snap))) r3963 hv3964) ?_
                    rintro _ w3965 ⟨rfl, hM3966⟩
                    have hL3967 := hL3961.call hp3962 hM3966
                    refine ⟨_, _, _, rfl, hL3967, ?_⟩
                    refine wl_v 17 rfl (v_not rfl) (gy 101 rfl rfl) rfl ?_
                    refine wl_v 18 rfl (v_pick (b := false) rfl rfl) gn rfl ?_
                    refine w_end 19 rfl ?_
                    exact g_go [0, 1] (j4 (!r3963) h) ⟨rfl, rfl, rfl, rfl, rfl, rfl, rfl, rfl, trivial⟩ (.cons_cons _ (.cons_cons _ (.cons_cons _ (.cons_cons _ (.slnil))))) rfl
                  · have h := if_neg' hp3959 h
                    refine w_bool 101 rfl ((neib hp3959)) ?_
                    refine wl_pass 14 rfl (ps 101 rfl rfl rfl) ?_
                    refine wl_pass 15 rfl (ps 101 rfl rfl rfl) ?_
                    refine wl_pass 16 rfl (ps 101 rfl rfl rfl) ?_
                    refine wl_pass 17 rfl (ps 101 rfl rfl rfl) ?_
                    refine wl_v 18 rfl (v_pick (b := true) rfl rfl) gn rfl ?_
                    refine w_end 19 rfl ?_
                    exact g_go [0, 1] (j4 true h) ⟨rfl, rfl, rfl, rfl, rfl, rfl, rfl, rfl, trivial⟩ (.cons_cons _ (.cons_cons _ (.cons_cons _ (.cons_cons _ (.slnil))))) rfl
                · have h := if_neg' hp3958 h
                  refine w_bool 96 rfl ((neib hp3958)) ?_
                  refine wl_pass 9 rfl (ps 96 rfl rfl rfl) ?_
                  refine wl_pass 10 rfl (ps 96 rfl rfl rfl) ?_
                  refine wl_pass 11 rfl (ps 96 rfl rfl rfl) ?_
                  refine wl_v 12 rfl (v_pick (b := true) rfl rfl) gn rfl ?_
                  refine wl_v 13 rfl (v_move rfl) gn rfl ?_
                  refine wl_pass 14 rfl (ps 101 rfl rfl rfl) ?_
                  refine wl_pass 15 rfl (ps 101 rfl rfl rfl) ?_
                  refine wl_pass 16 rfl (ps 101 rfl rfl rfl) ?_
                  refine wl_pass 17 rfl (ps 101 rfl rfl rfl) ?_
                  refine wl_v 18 rfl (v_pick (b := true) rfl rfl) gn rfl ?_
                  refine w_end 19 rfl ?_
                  exact g_go [0, 1] (j4 true h) ⟨rfl, rfl, rfl, rfl, rfl, rfl, rfl, rfl, trivial⟩ (.cons_cons _ (.cons_cons _ (.cons_cons _ (.cons_cons _ (.slnil))))) rfl
              · have h := if_neg' hp3957 h
                refine w_bool 91 rfl ((nt (seq_f hp3957))) ?_
                refine wl_pass 4 rfl (ps 91 rfl rfl rfl) ?_
                refine wl_pass 5 rfl (ps 91 rfl rfl rfl) ?_
                refine wl_pass 6 rfl (ps 91 rfl rfl rfl) ?_
                refine wl_v 7 rfl (v_pick (b := true) rfl rfl) gn rfl ?_
                refine wl_v 8 rfl (v_move rfl) gn rfl ?_
                refine wl_pass 9 rfl (ps 96 rfl rfl rfl) ?_
                refine wl_pass 10 rfl (ps 96 rfl rfl rfl) ?_
                refine wl_pass 11 rfl (ps 96 rfl rfl rfl) ?_
                refine wl_v 12 rfl (v_pick (b := true) rfl rfl) gn rfl ?_
                refine wl_v 13 rfl (v_move rfl) gn rfl ?_
                refine wl_pass 14 rfl (ps 101 rfl rfl rfl) ?_
                refine wl_pass 15 rfl (ps 101 rfl rfl rfl) ?_
                refine wl_pass 16 rfl (ps 101 rfl rfl rfl) ?_
                refine wl_pass 17 rfl (ps 101 rfl rfl rfl) ?_
                refine wl_v 18 rfl (v_pick (b := true) rfl rfl) gn rfl ?_
                refine w_end 19 rfl ?_
                exact g_go [0, 1] (j4 true h) ⟨rfl, rfl, rfl, rfl, rfl, rfl, rfl, rfl, trivial⟩ (.cons_cons _ (.cons_cons _ (.cons_cons _ (.cons_cons _ (.slnil))))) rfl
          exact g_go [0, 1] (key3 _ h A1361 n1362 c1363 h1364) ⟨rfl, rfl, rfl, rfl, rfl, trivial⟩ (.cons_cons _ (.cons_cons _ (.cons_cons _ (.slnil)))) rfl
      exact g_go [0, 1] (key2 _ h A12 n13 c14 (Ow.weak hL8.env.size h15)) ⟨rfl, rfl, rfl, rfl, rfl, trivial⟩ (.cons_cons _ (.cons_cons _ (.cons_cons _ (.slnil)))) rfl
  refine g_region (c := trellislaw26_RpcFrames_c9) rfl rfl ?_
  refine wl_v 0 rfl (v_move rfl) gn rfl ?_
  refine wl_v 1 rfl (v_move rfl) gn rfl ?_
  obtain ⟨r3971, hv3972, h⟩ := h
  refine wl_s 2 rfl (s_call [.slice A12 n13 c14, .slice A25 n26 c27] rfl Tryd.func10 rfl rfl rfl fun w3968 hL3969 => ?_) gn
  have hp3970 : List.Perm ([.own (.slice A25 n26 c27) 5 1 n26 (r23.1.flatMap (eI .u8)), .own (.slice A12 n13 c14) 5 1 n13 (r10.1.flatMap (eI .u8))] : List Ent) (([] : List Ent) ++ ([.own (.slice A25 n26 c27) 5 1 n26 (r23.1.flatMap (eI .u8)), .own (.slice A12 n13 c14) 5 1 n13 (r10.1.flatMap (eI .u8))] : List Ent)) := perm_of_idx [] [0, 1] rfl rfl (by kernel_rfl)
  refine Calls.mono (trellislaw26_sameBytes_calls w3968 (Fl ([] : List Snap)) r10.1 r23.1 A12 n13 c14 A25 n26 c27 (hL3969.argO (dk := (kInt .u8)) hp3970 [] rfl 1 rfl rfl (Ow.weak hL8.env.size h15) (me 0 rfl) (Cells.flat _)) (hL3969.argO (dk := (kInt .u8)) hp3970 [] rfl 0 rfl rfl (Ow.weak hL21.env.size h28) (me 0 rfl) (Cells.flat _)) (hL3969.hFl (Sl := ([] : List Snap)) hp3970 (sels [] rfl)) (hL3969.into hp3970 (Fl ([] : List Snap))) r3971 hv3972) ?_
  rintro _ w3973 ⟨rfl, hM3974⟩
  have hL3975 := hL3969.call hp3970 hM3974
  refine ⟨_, _, _, rfl, hL3975, ?_⟩
  refine wl_v 3 rfl (v_not rfl) gn rfl ?_
  refine wl_v 4 rfl (v_move rfl) gn rfl ?_
  by_cases hp3976 : r3971 = true
  · have h := if_pos' hp3976 h
    refine w_bool 44 rfl ((nf hp3976)) ?_
    refine wl_v 5 rfl (v_move rfl) (gy 44 rfl rfl) rfl ?_
    refine wl_v 6 rfl (v_move rfl) (gy 44 rfl rfl) rfl ?_
    refine wl_v 7 rfl (v_bin rfl rfl rfl) (gy 44 rfl rfl) rfl ?_
    refine wl_v 8 rfl (v_pick (b := false) rfl rfl) gn rfl ?_
    refine w_end 9 rfl ?_
    exact g_go [0, 1] (j1 (r10.2 != r23.2) h) ⟨rfl, rfl, rfl, rfl, rfl, trivial⟩ (.cons_cons _ (.cons_cons _ (.slnil))) rfl
  · have h := if_neg' hp3976 h
    refine w_bool 44 rfl ((nt (bf hp3976))) ?_
    refine wl_pass 5 rfl (ps 44 rfl rfl rfl) ?_
    refine wl_pass 6 rfl (ps 44 rfl rfl rfl) ?_
    refine wl_pass 7 rfl (ps 44 rfl rfl rfl) ?_
    refine wl_v 8 rfl (v_pick (b := true) rfl rfl) gn rfl ?_
    refine w_end 9 rfl ?_
    exact g_go [0, 1] (j1 true h) ⟨rfl, rfl, rfl, rfl, rfl, trivial⟩ (.cons_cons _ (.cons_cons _ (.slnil))) rfl
noncomputable abbrev rpc_New_c0 : Code := bodyOf Tryd.f22
noncomputable abbrev rpc_New_c1 : Code := Code.fst rpc_New_c0
noncomputable abbrev rpc_New_c2 : Code := Code.snd rpc_New_c0
noncomputable abbrev rpc_New_c3 : Code := Code.fst rpc_New_c2
noncomputable abbrev rpc_New_c4 : Code := Code.snd rpc_New_c2
abbrev rpc_New_R (w : World) (F : Nat → Prop) (r : rpc_Buffer) : Ending → World → Prop := fun e w' => ∃ gn0 : Nat, ∃ A0 : Option Addr, ∃ n0 : Nat, ∃ c0 : Nat, e = .returned (.pointer (some ⟨gn0, 0, none⟩)) ∧ B.Loc w w' [.box gn0 52 [.slice A0 n0 c0, .int .i64 r.code], .own (.slice A0 n0 c0) 5 1 n0 (r.wait.flatMap (eI .u8))] [St w []] ∧ Ow w.heap.size A0 n0 c0 r.wait
noncomputable abbrev rpc_New_C (w : World) (F : Nat → Prop) (r : rpc_Buffer) : Cx := ⟨Tryd.prog, 22, Tryd.f22, 3, rpc_New_R w F  r, w⟩
theorem rpc_New_calls (w : World) (F : Nat → Prop)  (hF : ∀ b, F b → b < w.heap.size ∧ ∀ o ∈ ([] : List (List Nat)), b ∉ o) (hL0 : B.Loc w w [] [Sm w.heap.size F w [], St w []]) (r : rpc_Buffer) (h : rpc_New  r) : Calls Tryd.prog 22 #[] w (rpc_New_R w F  r) := by
  unfold rpc_New at h
  refine calls_of_Loc (vs := []) 3 Tryd.func22 rfl Tryd.ntmps22 rfl hL0 ?_
  show G (rpc_New_C w F r) _ _ _ _
  refine g_seq (c := rpc_New_c0) rfl ?_
  refine g_region (c := rpc_New_c1) rfl rfl ?_
  refine wl_v 0 rfl (v_assign rfl) gn rfl ?_
  refine w_end 1 rfl ?_
  refine g_seq (c := rpc_New_c2) rfl ?_
  refine g_region (c := rpc_New_c3) rfl rfl ?_
  refine wl_v 0 rfl (v_build #[.slice none 0 0, .int .i64 0] bd_52 rfl (by kernel_rfl)) gn rfl ?_
  refine wl_s 1 rfl (s_box [.slice none 0 0, .int .i64 0] rfl rfl rfl fun gb1 => ?_) gn
  refine wl_v 2 rfl (v_assign rfl) gn rfl ?_
  refine w_end 3 rfl ?_
  refine g_nil 5 1 ?_
  refine g_retR (c := rpc_New_c4) [.pointer (some ⟨gb1, 0, none⟩)] rfl Tryd.func22 rfl (.tmp rfl (.nil)) fun wr hLr => ?_
  have hMr : B.Loc w wr [.box gb1 52 [.slice none 0 0, .int .i64 0], .own (.slice none 0 0) 5 1 0 (([] : List Int).flatMap (eI .u8))] [St w []] := hLr.pick (rest := []) (perm_of_idx [1, 0] [] rfl rfl (by kernel_rfl)) (sels [1] rfl)
  have hMi : ∀ e ∈ ([.box gb1 52 [.slice none 0 0, .int .i64 0], .own (.slice none 0 0) 5 1 0 (([] : List Int).flatMap (eI .u8))] : List Ent), e ∈ ([.own (.slice none 0 0) 5 1 0 (([] : List Int).flatMap (eI .u8)), .box gb1 52 [.slice none 0 0, .int .i64 0]] : List Ent) := sels [1, 0] rfl
  show rpc_New_R w F  r (.returned (packV [.pointer (some ⟨gb1, 0, none⟩)])) wr
  rw [h]
  exact ⟨gb1, none, 0, 0, rfl, hMr, (Ow.nil (z := w.heap.size))⟩
noncomputable abbrev rpc_Buffer_Feed_c0 : Code := bodyOf Tryd.f23
noncomputable abbrev rpc_Buffer_Feed_c1 : Code := Code.fst rpc_Buffer_Feed_c0
noncomputable abbrev rpc_Buffer_Feed_c2 : Code := Code.snd rpc_Buffer_Feed_c0
noncomputable abbrev rpc_Buffer_Feed_c3 : Code := Code.fst rpc_Buffer_Feed_c2
noncomputable abbrev rpc_Buffer_Feed_c4 : Code := Code.snd rpc_Buffer_Feed_c2
noncomputable abbrev rpc_Buffer_Feed_c5 : Code := Code.fst rpc_Buffer_Feed_c3
noncomputable abbrev rpc_Buffer_Feed_c6 : Code := Code.snd rpc_Buffer_Feed_c3
noncomputable abbrev rpc_Buffer_Feed_c7 : Code := Code.fst rpc_Buffer_Feed_c6
noncomputable abbrev rpc_Buffer_Feed_c8 : Code := Code.snd rpc_Buffer_Feed_c6
noncomputable abbrev rpc_Buffer_Feed_c9 : Code := Code.fst rpc_Buffer_Feed_c4
noncomputable abbrev rpc_Buffer_Feed_c10 : Code := Code.snd rpc_Buffer_Feed_c4
noncomputable abbrev rpc_Buffer_Feed_c11 : Code := Code.fst rpc_Buffer_Feed_c10
noncomputable abbrev rpc_Buffer_Feed_c12 : Code := Code.snd rpc_Buffer_Feed_c10
noncomputable abbrev rpc_Buffer_Feed_c13 : Code := Code.fst rpc_Buffer_Feed_c12
noncomputable abbrev rpc_Buffer_Feed_c14 : Code := Code.snd rpc_Buffer_Feed_c12
noncomputable abbrev rpc_Buffer_Feed_c15 : Code := Code.fst rpc_Buffer_Feed_c14
noncomputable abbrev rpc_Buffer_Feed_c16 : Code := Code.snd rpc_Buffer_Feed_c14
noncomputable abbrev rpc_Buffer_Feed_c17 : Code := Code.fst rpc_Buffer_Feed_c16
noncomputable abbrev rpc_Buffer_Feed_c18 : Code := Code.snd rpc_Buffer_Feed_c16
noncomputable abbrev rpc_Buffer_Feed_c19 : Code := Code.fst rpc_Buffer_Feed_c18
noncomputable abbrev rpc_Buffer_Feed_c20 : Code := Code.fst rpc_Buffer_Feed_c19
noncomputable abbrev rpc_Buffer_Feed_c21 : Code := Code.fst rpc_Buffer_Feed_c20
noncomputable abbrev rpc_Buffer_Feed_c22 : Code := Code.fst rpc_Buffer_Feed_c21
noncomputable abbrev rpc_Buffer_Feed_c23 : Code := Code.snd rpc_Buffer_Feed_c21
noncomputable abbrev rpc_Buffer_Feed_c24 : Code := Code.fst rpc_Buffer_Feed_c23
noncomputable abbrev rpc_Buffer_Feed_c25 : Code := Code.snd rpc_Buffer_Feed_c23
noncomputable abbrev rpc_Buffer_Feed_c26 : Code := Code.fst rpc_Buffer_Feed_c25
noncomputable abbrev rpc_Buffer_Feed_c27 : Code := Code.fst rpc_Buffer_Feed_c26
noncomputable abbrev rpc_Buffer_Feed_c28 : Code := Code.snd rpc_Buffer_Feed_c26
noncomputable abbrev rpc_Buffer_Feed_c29 : Code := Code.fst rpc_Buffer_Feed_c28
noncomputable abbrev rpc_Buffer_Feed_c30 : Code := Code.snd rpc_Buffer_Feed_c28
noncomputable abbrev rpc_Buffer_Feed_c31 : Code := Code.fst rpc_Buffer_Feed_c29
noncomputable abbrev rpc_Buffer_Feed_c32 : Code := Code.snd rpc_Buffer_Feed_c29
noncomputable abbrev rpc_Buffer_Feed_c33 : Code := Code.fst rpc_Buffer_Feed_c30
noncomputable abbrev rpc_Buffer_Feed_c34 : Code := Code.snd rpc_Buffer_Feed_c30
noncomputable abbrev rpc_Buffer_Feed_c35 : Code := Code.fst rpc_Buffer_Feed_c34
noncomputable abbrev rpc_Buffer_Feed_c36 : Code := Code.snd rpc_Buffer_Feed_c34
noncomputable abbrev rpc_Buffer_Feed_c37 : Code := Code.fst rpc_Buffer_Feed_c35
noncomputable abbrev rpc_Buffer_Feed_c38 : Code := Code.snd rpc_Buffer_Feed_c35
noncomputable abbrev rpc_Buffer_Feed_c39 : Code := Code.fst rpc_Buffer_Feed_c36
noncomputable abbrev rpc_Buffer_Feed_c40 : Code := Code.snd rpc_Buffer_Feed_c36
noncomputable abbrev rpc_Buffer_Feed_c41 : Code := Code.fst rpc_Buffer_Feed_c40
noncomputable abbrev rpc_Buffer_Feed_c42 : Code := Code.snd rpc_Buffer_Feed_c40
noncomputable abbrev rpc_Buffer_Feed_c43 : Code := Code.fst rpc_Buffer_Feed_c7
noncomputable abbrev rpc_Buffer_Feed_c44 : Code := Code.snd rpc_Buffer_Feed_c7
abbrev rpc_Buffer_Feed_R (w : World) (F : Nat → Prop) (g2 : Nat) (Tb3 : Nat) (r : (List ByteArray) × Int × rpc_Buffer) : Ending → World → Prop := fun e w' => ∃ A0 : Option Addr, ∃ n0 : Nat, ∃ c0 : Nat, ∃ A1 : Option Addr, ∃ n1 : Nat, ∃ c1 : Nat, e = .returned (.tuple #[.slice A0 n0 c0, .int .i64 r.2.1]) ∧ B.Loc w w' [.box g2 Tb3 [.slice A1 n1 c1, .int .i64 r.2.2.code], .own (.slice A0 n0 c0) 9 1 n0 (r.1.flatMap eS)] [St w [[g2]]] ∧ Ow w.heap.size A0 n0 c0 r.1 ∧ Rw (kInt .u8) w' (Nw w w' F [.box g2 Tb3 [.slice A1 n1 c1, .int .i64 r.2.2.code], .own (.slice A0 n0 c0) 9 1 n0 (r.1.flatMap eS)]) A1 n1 c1 r.2.2.wait
noncomputable abbrev rpc_Buffer_Feed_C (w : World) (F : Nat → Prop) (g2 : Nat) (Tb3 : Nat) (r : (List ByteArray) × Int × rpc_Buffer) : Cx := ⟨Tryd.prog, 23, Tryd.f23, 95, rpc_Buffer_Feed_R w F g2 Tb3 r, w⟩
theorem rpc_Buffer_Feed_calls (w : World) (F : Nat → Prop) (x1 : rpc_Buffer) (x8 : List Int) (g2 : Nat) (Tb3 : Nat) (A4 : Option Addr) (n5 : Nat) (c6 : Nat) (A9 : Option Addr) (n10 : Nat) (c11 : Nat) (h7 : Rw (kInt .u8) w F A4 n5 c6 x1.wait) (h12 : Rw (kInt .u8) w (St w [[g2]]).av A9 n10 c11 x8) (hF : ∀ b, F b → b < w.heap.size ∧ ∀ o ∈ ([[g2]] : List (List Nat)), b ∉ o) (hL0 : B.Loc w w [.box g2 Tb3 [.slice A4 n5 c6, .int .i64 x1.code]] [Sm w.heap.size F w [[g2]], St w [[g2]]]) (r : (List ByteArray) × Int × rpc_Buffer) (h : rpc_Buffer_Feed x1 x8 r) : Calls Tryd.prog 23 #[.pointer (some ⟨g2, 0, none⟩), .slice A9 n10 c11] w (rpc_Buffer_Feed_R w F g2 Tb3 r) := by
  unfold rpc_Buffer_Feed at h
  have h7 := Rw.into (bs := [[g2]]) hF h7
  refine calls_of_Loc (vs := [.pointer (some ⟨g2, 0, none⟩), .slice A9 n10 c11]) 95 Tryd.func23 rfl Tryd.ntmps23 rfl hL0 ?_
  show G (rpc_Buffer_Feed_C w F g2 Tb3 r) _ _ _ _
  refine g_seq (c := rpc_Buffer_Feed_c0) rfl ?_
  refine g_region (c := rpc_Buffer_Feed_c1) rfl rfl ?_
  refine wl_v 0 rfl (v_assign rfl) gn rfl ?_
  refine wl_v 1 rfl (v_assign rfl) gn rfl ?_
  refine w_end 2 rfl ?_
  refine g_seq (c := rpc_Buffer_Feed_c2) rfl ?_
  refine g_seq (c := rpc_Buffer_Feed_c3) rfl ?_
  refine g_region (c := rpc_Buffer_Feed_c5) rfl rfl ?_
  refine wl_v 0 rfl (v_move rfl) gn rfl ?_
  refine wl_v 1 rfl (v_nilCheck rfl) gn rfl ?_
  refine wl_v 2 rfl (v_fldB fo_52_1 rfl) gn rfl ?_
  refine wl_v 3 rfl (v_ldB1 0 ld_23 rfl rfl rfl) gn rfl ?_
  refine wl_v 4 rfl (v_bin rfl rfl rfl) gn rfl ?_
  refine w_end 5 rfl ?_
  by_cases hp13 : x1.code = 0
  · have h := if_pos' hp13 h
    refine g_false (c := rpc_Buffer_Feed_c6) rfl _ rfl ((eqib hp13)) ?_
    refine g_skip (c := rpc_Buffer_Feed_c8) rfl ?_
    refine g_seq (c := rpc_Buffer_Feed_c4) rfl ?_
    refine g_region (c := rpc_Buffer_Feed_c9) rfl rfl ?_
    refine wl_v 0 rfl (v_move rfl) gn rfl ?_
    refine wl_v 1 rfl (v_nilCheck rfl) gn rfl ?_
    refine wl_v 2 rfl (v_fldB fo_52_0 rfl) gn rfl ?_
    refine wl_v 3 rfl (v_ldB1 0 ld_22 rfl rfl rfl) gn rfl ?_
    refine wl_v 4 rfl (v_lenQ un_22 rfl h7.hq) gn rfl ?_
    refine wl_v 5 rfl (v_move rfl) gn rfl ?_
    refine wl_v 6 rfl (v_lenQ un_22 rfl h12.hq) gn rfl ?_
    refine wl_v 7 rfl (v_bin rfl rfl rfl) gn rfl ?_
    obtain ⟨hb14, h⟩ := h
    obtain ⟨x18, hv19, h⟩ := h
    refine wl_s 8 rfl (s_makeX (enc := (eI .u8)) (z := 0) mk_22 rfl (by decide) rfl rfl hb14.1 hb14.2 (by decide) hv19 rfl fun A15 h16 => ?_) gn
    refine wl_v 9 rfl (v_assign rfl) gn rfl ?_
    refine w_end 10 rfl ?_
    refine g_seq (c := rpc_Buffer_Feed_c10) rfl ?_
    refine g_region (c := rpc_Buffer_Feed_c11) rfl rfl ?_
    refine wl_v 0 rfl (v_move rfl) gn rfl ?_
    refine wl_v 1 rfl (v_move rfl) gn rfl ?_
    refine wl_v 2 rfl (v_nilCheck rfl) gn rfl ?_
    refine wl_v 3 rfl (v_fldB fo_52_0 rfl) gn rfl ?_
    refine wl_v 4 rfl (v_ldB1 1 ld_22 rfl rfl rfl) gn rfl ?_
    obtain ⟨x20, hv21, h⟩ := h
    have h22 : Ow w.heap.size A15 ((w64 ((x1.wait.length : Int) + (x8.length : Int)) : Int).toNat) ((w64 ((x1.wait.length : Int) + (x8.length : Int)) : Int).toNat) x20 := Ow.w h16 (by rw [hv21]; exact copied_len (by have q := h16.hq; have q2 := (Vw.whole : Vw 1 A15 ((w64 ((x1.wait.length : Int) + (x8.length : Int)) : Int).toNat) 0 ((w64 ((x1.wait.length : Int) + (x8.length : Int)) : Int).toNat) A15).le; have q3 : (w64 ((x1.wait.length : Int) + (x8.length : Int)) : Int).toNat = x18.length := h16.hq; omega))
    refine wl_s 5 rfl (s_copy (lo := 0) (cells' := x20.flatMap (eI .u8)) 0 slE_22 rfl rfl rfl rfl h16 Vw.whole (Src.readF (s := Sm w.heap.size F w [[g2]]) (hl := (hlI .u8)) (h1 := (hone_int .u8)) h7 (me 0 rfl)) (by rw [hv21]; exact fm_copied (hlI .u8) (by have q := h16.hq; have q2 := (Vw.whole : Vw 1 A15 ((w64 ((x1.wait.length : Int) + (x8.length : Int)) : Int).toNat) 0 ((w64 ((x1.wait.length : Int) + (x8.length : Int)) : Int).toNat) A15).le; have q3 : (w64 ((x1.wait.length : Int) + (x8.length : Int)) : Int).toNat = x18.length := h16.hq; omega) h7.hq h16.hq) rfl ?_) gn
    refine w_end 6 rfl ?_
    refine g_seq (c := rpc_Buffer_Feed_c12) rfl ?_
    refine g_region (c := rpc_Buffer_Feed_c13) rfl rfl ?_
    refine wl_v 0 rfl (v_move rfl) gn rfl ?_
    refine wl_v 1 rfl (v_move rfl) gn rfl ?_
    refine wl_v 2 rfl (v_nilCheck rfl) gn rfl ?_
    refine wl_v 3 rfl (v_fldB fo_52_0 rfl) gn rfl ?_
    refine wl_v 4 rfl (v_ldB1 1 ld_22 rfl rfl rfl) gn rfl ?_
    refine wl_v 5 rfl (v_lenQ un_22 rfl h7.hq) gn rfl ?_
    obtain ⟨hb23, h⟩ := h
    have hv24 : Vw 1 A15 ((w64 ((x1.wait.length : Int) + (x8.length : Int)) : Int).toNat) ((x1.wait.length : Int) : Int).toNat (((((w64 ((x1.wait.length : Int) + (x8.length : Int)) : Int).toNat : Nat) : Int) : Int).toNat - ((x1.wait.length : Int) : Int).toNat) (if ((((w64 ((x1.wait.length : Int) + (x8.length : Int)) : Int).toNat : Nat) : Int) : Int).toNat = ((x1.wait.length : Int) : Int).toNat then A15 else A15.map (·.add (((x1.wait.length : Int) : Int).toNat * 1))) := Vw.cut (by have q := hb23; have q1 := h22.hq; have q2 := h22.hn; omega) (by have q := hb23; have q1 := h22.hq; have q2 := h22.hn; omega) (by have q := hb23; have q1 := h22.hq; have q2 := h22.hn; omega)
    refine wl_v 6 rfl (v_cut (sz := 1) (n := (w64 ((x1.wait.length : Int) + (x8.length : Int)) : Int).toNat) (c := (w64 ((x1.wait.length : Int) + (x8.length : Int)) : Int).toNat) (x1.wait.length : Int) (((w64 ((x1.wait.length : Int) + (x8.length : Int)) : Int).toNat : Nat) : Int) (((w64 ((x1.wait.length : Int) + (x8.length : Int)) : Int).toNat : Nat) : Int) slE_22 rfl (by_ rfl) bn bn (by have q := hb23; have q1 := h22.hq; have q2 := h22.hn; omega) (by have q := hb23; have q1 := h22.hq; have q2 := h22.hn; omega) (by have q := hb23; have q1 := h22.hq; have q2 := h22.hn; omega) h22.hn rfl) gn rfl ?_
    refine wl_v 7 rfl (v_move rfl) gn rfl ?_
    obtain ⟨x25, hv26, h⟩ := h
    have h27 : Ow w.heap.size A15 ((w64 ((x1.wait.length : Int) + (x8.length : Int)) : Int).toNat) ((w64 ((x1.wait.length : Int) + (x8.length : Int)) : Int).toNat) x25 := Ow.w h22 (by rw [hv26]; exact copied_len (by have q := h22.hq; have q2 := (hv24 : Vw 1 A15 ((w64 ((x1.wait.length : Int) + (x8.length : Int)) : Int).toNat) (((x1.wait.length : Int) : Int).toNat) (((((w64 ((x1.wait.length : Int) + (x8.length : Int)) : Int).toNat : Nat) : Int) : Int).toNat - ((x1.wait.length : Int) : Int).toNat) (if ((((w64 ((x1.wait.length : Int) + (x8.length : Int)) : Int).toNat : Nat) : Int) : Int).toNat = ((x1.wait.length : Int) : Int).toNat then A15 else A15.map (·.add (((x1.wait.length : Int) : Int).toNat * 1)))).le; have q3 : ((((w64 ((x1.wait.length : Int) + (x8.length : Int)) : Int).toNat : Nat) : Int) : Int).toNat - ((x1.wait.length : Int) : Int).toNat = ((x20.drop ((x1.wait.length : Int) : Int).toNat).take (((((w64 ((x1.wait.length : Int) + (x8.length : Int)) : Int).toNat : Nat) : Int) : Int).toNat - ((x1.wait.length : Int) : Int).toNat)).length := (Vw.len hv24 h22); omega))
    refine wl_s 8 rfl (s_copy (lo := (((x1.wait.length : Int) : Int).toNat)) (cells' := x25.flatMap (eI .u8)) 0 slE_22 rfl rfl rfl rfl h22 hv24 (Src.readF (s := St w [[g2]]) (hl := (hlI .u8)) (h1 := (hone_int .u8)) h12 (me 1 rfl)) (by rw [hv26]; exact fm_copied (hlI .u8) (by have q := h22.hq; have q2 := (hv24 : Vw 1 A15 ((w64 ((x1.wait.length : Int) + (x8.length : Int)) : Int).toNat) (((x1.wait.length : Int) : Int).toNat) (((((w64 ((x1.wait.length : Int) + (x8.length : Int)) : Int).toNat : Nat) : Int) : Int).toNat - ((x1.wait.length : Int) : Int).toNat) (if ((((w64 ((x1.wait.length : Int) + (x8.length : Int)) : Int).toNat : Nat) : Int) : Int).toNat = ((x1.wait.length : Int) : Int).toNat then A15 else A15.map (·.add (((x1.wait.length : Int) : Int).toNat * 1)))).le; have q3 : ((((w64 ((x1.wait.length : Int) + (x8.length : Int)) : Int).toNat : Nat) : Int) : Int).toNat - ((x1.wait.length : Int) : Int).toNat = ((x20.drop ((x1.wait.length : Int) : Int).toNat).take (((((w64 ((x1.wait.length : Int) + (x8.length : Int)) : Int).toNat : Nat) : Int) : Int).toNat - ((x1.wait.length : Int) : Int).toNat)).length := (Vw.len hv24 h22); omega) h12.hq (Vw.len hv24 h22)) rfl ?_) gn
    refine w_end 9 rfl ?_
    refine g_seq (c := rpc_Buffer_Feed_c14) rfl ?_
    refine g_region (c := rpc_Buffer_Feed_c15) rfl rfl ?_
    refine wl_v 0 rfl (v_move rfl) gn rfl ?_
    refine wl_v 1 rfl (v_move rfl) gn rfl ?_
    refine wl_v 2 rfl (v_nilCheck rfl) gn rfl ?_
    refine wl_v 3 rfl (v_fldB fo_52_0 rfl) gn rfl ?_
    refine wl_s 4 rfl (s_stB (vs := [.slice A15 ((w64 ((x1.wait.length : Int) + (x8.length : Int)) : Int).toNat) ((w64 ((x1.wait.length : Int) + (x8.length : Int)) : Int).toNat)]) (cs' := [.slice A15 ((w64 ((x1.wait.length : Int) + (x8.length : Int)) : Int).toNat) ((w64 ((x1.wait.length : Int) + (x8.length : Int)) : Int).toNat), .int .i64 x1.code]) (M' := [.own (.slice A15 ((w64 ((x1.wait.length : Int) + (x8.length : Int)) : Int).toNat) ((w64 ((x1.wait.length : Int) + (x8.length : Int)) : Int).toNat)) 5 1 ((w64 ((x1.wait.length : Int) + (x8.length : Int)) : Int).toNat) (x25.flatMap (eI .u8)), .box g2 Tb3 [.slice A15 ((w64 ((x1.wait.length : Int) + (x8.length : Int)) : Int).toNat) ((w64 ((x1.wait.length : Int) + (x8.length : Int)) : Int).toNat), .int .i64 x1.code]]) 1 sz_22 rfl rfl rfl rfl rfl rfl rfl rfl rfl ?_) gn
    refine w_end 5 rfl ?_
    refine g_seq (c := rpc_Buffer_Feed_c16) rfl ?_
    refine g_region (c := rpc_Buffer_Feed_c17) rfl rfl ?_
    refine wl_v 0 rfl (v_assign rfl) gn rfl ?_
    refine w_end 1 rfl ?_
    refine g_block (c := rpc_Buffer_Feed_c18) rfl ?_
    refine g_loop (c := rpc_Buffer_Feed_c19) rfl ?_
    have key1 : ∀ s, Rounds (fun (s : (List ByteArray) × (List Int)) o => rpc_Buffer_Feed_b1 x1 s.1 s.2 o) s r → (fun (s : (List ByteArray) × (List Int)) => ∀ (A57 : Option Addr) (n58 : Nat) (c59 : Nat) (h60 : Ow w.heap.size A57 n58 c59 s.1) (A62 : Option Addr) (n63 : Nat) (c64 : Nat) (sw65 : World) (sb66 : List (List Nat)) (h67 : At (kInt .u8) (Sm w.heap.size F sw65 sb66) A62 n63 c64 s.2), G (rpc_Buffer_Feed_C w F g2 Tb3 r) [.code rpc_Buffer_Feed_c20, .inLoop rpc_Buffer_Feed_c20, .inBlock 0] [(0, .pointer (some ⟨g2, 0, none⟩)), (7, .slice A57 n58 c59)] [.own (.slice A57 n58 c59) 9 1 n58 (s.1.flatMap eS), .box g2 Tb3 [.slice A62 n63 c64, .int .i64 x1.code]] [Sm w.heap.size F sw65 sb66, Sm w.heap.size F w [[g2]], St w [[g2]]]) s := by
      intro s hs
      refine Rounds.ind (mot := (fun (s : (List ByteArray) × (List Int)) => ∀ (A57 : Option Addr) (n58 : Nat) (c59 : Nat) (h60 : Ow w.heap.size A57 n58 c59 s.1) (A62 : Option Addr) (n63 : Nat) (c64 : Nat) (sw65 : World) (sb66 : List (List Nat)) (h67 : At (kInt .u8) (Sm w.heap.size F sw65 sb66) A62 n63 c64 s.2), G (rpc_Buffer_Feed_C w F g2 Tb3 r) [.code rpc_Buffer_Feed_c20, .inLoop rpc_Buffer_Feed_c20, .inBlock 0] [(0, .pointer (some ⟨g2, 0, none⟩)), (7, .slice A57 n58 c59)] [.own (.slice A57 n58 c59) 9 1 n58 (s.1.flatMap eS), .box g2 Tb3 [.slice A62 n63 c64, .int .i64 x1.code]] [Sm w.heap.size F sw65 sb66, Sm w.heap.size F w [[g2]], St w [[g2]]])) ?_ hs
      clear hs s
      intro s o1 h hO1
      obtain ⟨x56, x61⟩ := s
      show ∀ (A57 : Option Addr) (n58 : Nat) (c59 : Nat) (h60 : Ow w.heap.size A57 n58 c59 x56) (A62 : Option Addr) (n63 : Nat) (c64 : Nat) (sw65 : World) (sb66 : List (List Nat)) (h67 : At (kInt .u8) (Sm w.heap.size F sw65 sb66) A62 n63 c64 x61), G (rpc_Buffer_Feed_C w F g2 Tb3 r) [.code rpc_Buffer_Feed_c20, .inLoop rpc_Buffer_Feed_c20, .inBlock 0] [(0, .pointer (some ⟨g2, 0, none⟩)), (7, .slice A57 n58 c59)] [.own (.slice A57 n58 c59) 9 1 n58 (x56.flatMap eS), .box g2 Tb3 [.slice A62 n63 c64, .int .i64 x1.code]] [Sm w.heap.size F sw65 sb66, Sm w.heap.size F w [[g2]], St w [[g2]]]
      intro A57 n58 c59 h60 A62 n63 c64 sw65 sb66 h67
      have h : rpc_Buffer_Feed_b1 x1 x56 x61 o1 := h
      unfold rpc_Buffer_Feed_b1 at h
      refine g_block (c := rpc_Buffer_Feed_c20) rfl ?_
      refine g_seq (c := rpc_Buffer_Feed_c21) rfl ?_
      refine g_region (c := rpc_Buffer_Feed_c22) rfl rfl ?_
      refine wl_v 0 rfl (v_move rfl) gn rfl ?_
      refine wl_v 1 rfl (v_nilCheck rfl) gn rfl ?_
      refine wl_v 2 rfl (v_fldB fo_52_0 rfl) gn rfl ?_
      refine wl_v 3 rfl (v_ldB1 1 ld_22 rfl rfl rfl) gn rfl ?_
      obtain ⟨r94, hv95, h⟩ := h
      refine wl_s 4 rfl (s_call [.slice A62 n63 c64] rfl Tryd.func12 rfl rfl rfl fun w91 hL92 => ?_) gn
      have hp93 : List.Perm ([.own (.slice A57 n58 c59) 9 1 n58 (x56.flatMap eS), .box g2 Tb3 [.slice A62 n63 c64, .int .i64 x1.code]] : List Ent) (([] : List Ent) ++ ([.own (.slice A57 n58 c59) 9 1 n58 (x56.flatMap eS), .box g2 Tb3 [.slice A62 n63 c64, .int .i64 x1.code]] : List Ent)) := perm_of_idx [] [0, 1] rfl rfl (by kernel_rfl)
      refine Calls.mono (rpc_Take_calls w91 (Fl ([] : List Snap)) x61 A62 n63 c64 (Rw.mono h67 (hL92.toSt hp93 (me 0 rfl))) (hL92.hFl (Sl := ([] : List Snap)) hp93 (sels [] rfl)) (hL92.into hp93 (Fl ([] : List Snap))) r94 hv95) ?_
      rintro _ w96 ⟨rfl, hM97⟩
      have hL98 := hL92.call hp93 hM97
      refine ⟨_, _, _, rfl, hL98, ?_⟩
      refine wl_v 5 rfl (v_move rfl) gn rfl ?_
      refine wl_v 6 rfl (v_extract rfl rfl) gn rfl ?_
      refine wl_v 7 rfl (v_extract rfl rfl) gn rfl ?_
      refine wl_v 8 rfl (v_extract rfl rfl) gn rfl ?_
      refine wl_v 9 rfl (v_assign rfl) gn rfl ?_
      refine wl_v 10 rfl (v_assign rfl) gn rfl ?_
      refine wl_v 11 rfl (v_assign rfl) gn rfl ?_
      refine w_end 12 rfl ?_
      refine g_seq (c := rpc_Buffer_Feed_c23) rfl ?_
      refine g_region (c := rpc_Buffer_Feed_c24) rfl rfl ?_
      refine wl_v 0 rfl (v_move rfl) gn rfl ?_
      refine w_end 1 rfl ?_
      refine g_block (c := rpc_Buffer_Feed_c25) rfl ?_
      refine g_seq (c := rpc_Buffer_Feed_c26) rfl ?_
      refine g_region (c := rpc_Buffer_Feed_c27) rfl rfl ?_
      refine wl_v 0 rfl (v_bin rfl rfl rfl) gn rfl ?_
      refine wl_v 1 rfl (v_assign rfl) gn rfl ?_
      refine w_end 2 rfl ?_
      by_cases hp99 : r94.2.2 = 0
      · have h := if_pos' hp99 h
        refine g_true (c := rpc_Buffer_Feed_c28) rfl _ rfl ((eqi hp99)) ?_
        refine g_seq (c := rpc_Buffer_Feed_c29) rfl ?_
        refine g_region (c := rpc_Buffer_Feed_c31) rfl rfl ?_
        refine wl_v 0 rfl (v_move rfl) gn rfl ?_
        refine wl_v 1 rfl (v_move rfl) gn rfl ?_
        refine wl_s 2 rfl (s_litO (xs := ([r94.1] : List ByteArray)) [.string r94.1] bs_35_1 rfl (by kernel_rfl) rfl rfl rfl rfl fun gb101 h102 => ?_) gn
        obtain ⟨x106, hv107, h⟩ := h
        obtain ⟨hb108, h⟩ := h
        refine wl_s 3 rfl (s_app (zs := x106) (cells' := x106.flatMap eS) 1 ap_35 rfl rfl rfl h60 (Nat.le_refl _) (Src.ownF (hl := hlS) (h1 := hone_str) 0 rfl h102) (by rw [hv107, List.flatMap_append] <;> rfl) (app_len hv107 h102.hq) hb108 rfl rfl fun A103 c104 h105 => ?_) gn
        refine wl_v 4 rfl (v_assign rfl) gn rfl ?_
        refine w_end 5 rfl ?_
        obtain ⟨hb109, h⟩ := h
        have hns : Region.noSelect (Code.ops rpc_Buffer_Feed_c32) = true := by kernel_rfl
        refine g_drawF (c := rpc_Buffer_Feed_c32) [.own (.slice (some ⟨gb101, 0, none⟩) 1 1) 9 1 1 (([r94.1] : List ByteArray).flatMap eS), .own (.slice A103 (n58 + 1) c104) 9 1 (n58 + 1) (x106.flatMap eS), .box g2 Tb3 [.slice A62 n63 c64, .int .i64 x1.code]] [Sm w.heap.size F sw65 sb66, Sm w.heap.size F w [[g2]], St w [[g2]]] [19] 20 rfl rfl mix rfl (.cons_cons _ (.cons_cons _ (.cons_cons _ (.slnil)))) (sels [0, 1, 2] rfl) ?_
        refine wf_v 0 rfl (v_move rfl) gn rfl hns (by kernel_rfl) (by kernel_rfl) (by kernel_rfl) rfl ?_
        refine wf_v 1 rfl (v_move rfl) gn rfl hns (by kernel_rfl) (by kernel_rfl) (by kernel_rfl) rfl ?_
        refine wf_v 2 rfl (v_nilCheck rfl) gn rfl hns (by kernel_rfl) (by kernel_rfl) (by kernel_rfl) rfl ?_
        refine wf_v 3 rfl (v_fldB fo_52_0 rfl) gn rfl hns (by kernel_rfl) (by kernel_rfl) (by kernel_rfl) rfl ?_
        refine wf_v 4 rfl (v_ldB1 2 ld_22 rfl rfl rfl) gn rfl hns (by kernel_rfl) (by kernel_rfl) (by kernel_rfl) rfl ?_
        refine wf_v 5 rfl (v_move rfl) gn rfl hns (by kernel_rfl) (by kernel_rfl) (by kernel_rfl) rfl ?_
        refine wf_v 6 rfl (v_move rfl) gn rfl hns (by kernel_rfl) (by kernel_rfl) (by kernel_rfl) rfl ?_
        refine wf_v 7 rfl (v_nilCheck rfl) gn rfl hns (by kernel_rfl) (by kernel_rfl) (by kernel_rfl) rfl ?_
        refine wf_v 8 rfl (v_fldB fo_52_0 rfl) gn rfl hns (by kernel_rfl) (by kernel_rfl) (by kernel_rfl) rfl ?_
        refine wf_v 9 rfl (v_ldB1 2 ld_22 rfl rfl rfl) gn rfl hns (by kernel_rfl) (by kernel_rfl) (by kernel_rfl) rfl ?_
        refine wf_v 10 rfl (v_lenQ un_22 rfl h67.hq) gn rfl hns (by kernel_rfl) (by kernel_rfl) (by kernel_rfl) rfl ?_
        refine wf_v 11 rfl (v_move rfl) gn rfl hns (by kernel_rfl) (by kernel_rfl) (by kernel_rfl) rfl ?_
        refine wf_v 12 rfl (v_nilCheck rfl) gn rfl hns (by kernel_rfl) (by kernel_rfl) (by kernel_rfl) rfl ?_
        refine wf_v 13 rfl (v_fldB fo_52_0 rfl) gn rfl hns (by kernel_rfl) (by kernel_rfl) (by kernel_rfl) rfl ?_
        refine wf_v 14 rfl (v_ldB1 2 ld_22 rfl rfl rfl) gn rfl hns (by kernel_rfl) (by kernel_rfl) (by kernel_rfl) rfl ?_
        refine wf_v 15 rfl (v_lenQ un_22 rfl h67.hq) gn rfl hns (by kernel_rfl) (by kernel_rfl) (by kernel_rfl) rfl ?_
        have h112 := Rw.cut (sz := 1) (lv := r94.2.1) (hv := (x61.length : Int)) (mv := (x61.length : Int)) h67 rfl (by have q := hb109; have q1 := h67.hq; have q2 := h67.hn; omega) (by have q := hb109; have q1 := h67.hq; have q2 := h67.hn; omega) (by have q := hb109; have q1 := h67.hq; have q2 := h67.hn; omega)
        refine wf_v 16 rfl (v_cut (sz := 1) (n := n63) (c := c64) r94.2.1 (x61.length : Int) (x61.length : Int) slE_22 rfl (by_ rfl) (by_ rfl) (by_ rfl) (by have q := hb109; have q1 := h67.hq; have q2 := h67.hn; omega) (by have q := hb109; have q1 := h67.hq; have q2 := h67.hn; omega) (by have q := hb109; have q1 := h67.hq; have q2 := h67.hn; omega) h67.hn rfl) gn rfl hns (by kernel_rfl) (by kernel_rfl) (by kernel_rfl) rfl ?_
        refine wf_v 17 rfl (v_nilCheck rfl) gn rfl hns (by kernel_rfl) (by kernel_rfl) (by kernel_rfl) rfl ?_
        refine wf_v 18 rfl (v_fldB fo_52_0 rfl) gn rfl hns (by kernel_rfl) (by kernel_rfl) (by kernel_rfl) rfl ?_
        refine wf_all [19] (by kernel_rfl) rfl ⟨on_l 19 rfl gn rfl (s_stB (vs := [.slice (if ((x61.length : Int) : Int).toNat = (r94.2.1 : Int).toNat then A62 else A62.map (·.add ((r94.2.1 : Int).toNat * 1))) (((x61.length : Int) : Int).toNat - (r94.2.1 : Int).toNat) (((x61.length : Int) : Int).toNat - (r94.2.1 : Int).toNat)]) (cs' := [.slice (if ((x61.length : Int) : Int).toNat = (r94.2.1 : Int).toNat then A62 else A62.map (·.add ((r94.2.1 : Int).toNat * 1))) (((x61.length : Int) : Int).toNat - (r94.2.1 : Int).toNat) (((x61.length : Int) : Int).toNat - (r94.2.1 : Int).toNat), .int .i64 x1.code]) (M' := [.own (.slice (some ⟨gb101, 0, none⟩) 1 1) 9 1 1 (([r94.1] : List ByteArray).flatMap eS), .own (.slice A103 (n58 + 1) c104) 9 1 (n58 + 1) (x106.flatMap eS), .box g2 Tb3 [.slice (if ((x61.length : Int) : Int).toNat = (r94.2.1 : Int).toNat then A62 else A62.map (·.add ((r94.2.1 : Int).toNat * 1))) (((x61.length : Int) : Int).toNat - (r94.2.1 : Int).toNat) (((x61.length : Int) : Int).toNat - (r94.2.1 : Int).toNat), .int .i64 x1.code]]) 2 sz_22 rfl rfl rfl rfl rfl rfl rfl rfl rfl ?_), trivial⟩
        unfold NxL
        refine wf_end (by kernel_rfl) ?_
        refine g_inBlock ?_
        refine g_inBlock ?_
        refine g_inLoop ?_
        have ih := Out.inl hO1 h
        exact g_go [0, 1, 2] (ih A103 (n58 + 1) c104 h105 (if ((x61.length : Int) : Int).toNat = (r94.2.1 : Int).toNat then A62 else A62.map (·.add ((r94.2.1 : Int).toNat * 1))) (((x61.length : Int) : Int).toNat - (r94.2.1 : Int).toNat) (((x61.length : Int) : Int).toNat - (r94.2.1 : Int).toNat) sw65 sb66 h112) ⟨rfl, rfl, trivial⟩ (.cons _ (.cons_cons _ (.cons_cons _ (.slnil)))) rfl
      · have h := if_neg' hp99 h
        refine g_false (c := rpc_Buffer_Feed_c28) rfl _ rfl ((nei hp99)) ?_
        refine g_seq (c := rpc_Buffer_Feed_c30) rfl ?_
        refine g_region (c := rpc_Buffer_Feed_c33) rfl rfl ?_
        refine wl_v 0 rfl (v_bin rfl rfl rfl) gn rfl ?_
        refine wl_v 1 rfl (v_assign rfl) gn rfl ?_
        refine w_end 2 rfl ?_
        by_cases hp113 : r94.2.2 = 260
        · have h := if_pos' hp113 h
          refine g_true (c := rpc_Buffer_Feed_c34) rfl _ rfl ((eqi hp113)) ?_
          refine g_seq (c := rpc_Buffer_Feed_c35) rfl ?_
          refine g_region (c := rpc_Buffer_Feed_c37) rfl rfl ?_
          refine wl_v 0 rfl (v_move rfl) gn rfl ?_
          refine wl_v 1 rfl (v_assign rfl) gn rfl ?_
          refine wl_v 2 rfl (v_assign rfl) gn rfl ?_
          refine w_end 3 rfl ?_
          have h := Out.inr hO1 h
          refine g_retR (c := rpc_Buffer_Feed_c38) [.slice A57 n58 c59, .int .i64 0] rfl Tryd.func23 rfl (.tmp rfl (.tmp rfl (.nil))) fun wr hLr => ?_
          have hMr : B.Loc w wr [.box g2 Tb3 [.slice A62 n63 c64, .int .i64 x1.code], .own (.slice A57 n58 c59) 9 1 n58 (x56.flatMap eS)] [St w [[g2]]] := hLr.pick (rest := []) (perm_of_idx [1, 0] [] rfl rfl (by kernel_rfl)) (sels [2] rfl)
          have hMi : ∀ e ∈ ([.box g2 Tb3 [.slice A62 n63 c64, .int .i64 x1.code], .own (.slice A57 n58 c59) 9 1 n58 (x56.flatMap eS)] : List Ent), e ∈ ([.own (.slice A57 n58 c59) 9 1 n58 (x56.flatMap eS), .box g2 Tb3 [.slice A62 n63 c64, .int .i64 x1.code]] : List Ent) := sels [1, 0] rfl
          show rpc_Buffer_Feed_R w F g2 Tb3 r (.returned (packV [.slice A57 n58 c59, .int .i64 0])) wr
          rw [h]
          exact ⟨A57, n58, c59, A62, n63, c64, rfl, hMr, h60, (hLr.outR (s := Sm w.heap.size F sw65 sb66) hMi (me 0 rfl) Sm.ok h67)⟩
        · have h := if_neg' hp113 h
          refine g_false (c := rpc_Buffer_Feed_c34) rfl _ rfl ((nei hp113)) ?_
          refine g_seq (c := rpc_Buffer_Feed_c36) rfl ?_
          refine g_region (c := rpc_Buffer_Feed_c39) rfl rfl ?_
          refine wl_v 0 rfl (v_move rfl) gn rfl ?_
          refine wl_v 1 rfl (v_move rfl) gn rfl ?_
          refine wl_v 2 rfl (v_move rfl) gn rfl ?_
          refine wl_v 3 rfl (v_nilCheck rfl) gn rfl ?_
          refine wl_v 4 rfl (v_fldB fo_52_0 rfl) gn rfl ?_
          refine wl_s 5 rfl (s_stB (vs := [.slice none 0 0]) (cs' := [.slice none 0 0, .int .i64 x1.code]) (M' := [.own (.slice A57 n58 c59) 9 1 n58 (x56.flatMap eS), .box g2 Tb3 [.slice none 0 0, .int .i64 x1.code]]) 1 sz_22 rfl rfl rfl rfl rfl rfl rfl rfl rfl ?_) gn
          refine wl_v 6 rfl (v_nilCheck rfl) gn rfl ?_
          refine wl_v 7 rfl (v_fldB fo_52_1 rfl) gn rfl ?_
          refine wl_s 8 rfl (s_stB (vs := [.int .i64 r94.2.2]) (cs' := [.slice none 0 0, .int .i64 r94.2.2]) (M' := [.own (.slice A57 n58 c59) 9 1 n58 (x56.flatMap eS), .box g2 Tb3 [.slice none 0 0, .int .i64 r94.2.2]]) 1 sz_23 rfl rfl rfl rfl rfl rfl rfl rfl rfl ?_) gn
          refine w_end 9 rfl ?_
          refine g_seq (c := rpc_Buffer_Feed_c40) rfl ?_
          refine g_region (c := rpc_Buffer_Feed_c41) rfl rfl ?_
          refine wl_v 0 rfl (v_move rfl) gn rfl ?_
          refine wl_v 1 rfl (v_move rfl) gn rfl ?_
          refine wl_v 2 rfl (v_assign rfl) gn rfl ?_
          refine wl_v 3 rfl (v_assign rfl) gn rfl ?_
          refine w_end 4 rfl ?_
          have h := Out.inr hO1 h
          refine g_retR (c := rpc_Buffer_Feed_c42) [.slice A57 n58 c59, .int .i64 r94.2.2] rfl Tryd.func23 rfl (.tmp rfl (.tmp rfl (.nil))) fun wr hLr => ?_
          have hMr : B.Loc w wr [.box g2 Tb3 [.slice none 0 0, .int .i64 r94.2.2], .own (.slice A57 n58 c59) 9 1 n58 (x56.flatMap eS)] [St w [[g2]]] := hLr.pick (rest := []) (perm_of_idx [1, 0] [] rfl rfl (by kernel_rfl)) (sels [2] rfl)
          have hMi : ∀ e ∈ ([.box g2 Tb3 [.slice none 0 0, .int .i64 r94.2.2], .own (.slice A57 n58 c59) 9 1 n58 (x56.flatMap eS)] : List Ent), e ∈ ([.own (.slice A57 n58 c59) 9 1 n58 (x56.flatMap eS), .box g2 Tb3 [.slice none 0 0, .int .i64 r94.2.2]] : List Ent) := sels [1, 0] rfl
          show rpc_Buffer_Feed_R w F g2 Tb3 r (.returned (packV [.slice A57 n58 c59, .int .i64 r94.2.2])) wr
          rw [h]
          exact ⟨A57, n58, c59, none, 0, 0, rfl, hMr, h60, Rw.nil⟩
    refine g_freeze (F := F) (dk := (kInt .u8)) (Sm w.heap.size F w [[g2]]) 0 rfl h27 (me 0 rfl) Sm.ok (Cells.flat _) fun sw115 sb116 h114 => ?_
    refine g_nil 9 1 ?_
    exact g_go [0, 1, 2] (key1 _ h none 0 0 (Ow.nil (z := w.heap.size)) A15 ((w64 ((x1.wait.length : Int) + (x8.length : Int)) : Int).toNat) ((w64 ((x1.wait.length : Int) + (x8.length : Int)) : Int).toNat) sw115 sb116 h114) ⟨rfl, rfl, trivial⟩ (.cons_cons _ (.cons_cons _ (.slnil))) rfl
  · have h := if_neg' hp13 h
    refine g_true (c := rpc_Buffer_Feed_c6) rfl _ rfl ((neib hp13)) ?_
    refine g_seq (c := rpc_Buffer_Feed_c7) rfl ?_
    have hns : Region.noSelect (Code.ops rpc_Buffer_Feed_c43) = true := by kernel_rfl
    refine g_drawF (c := rpc_Buffer_Feed_c43) [.box g2 Tb3 [.slice A4 n5 c6, .int .i64 x1.code]] [Sm w.heap.size F w [[g2]], St w [[g2]]] [] 6 rfl rfl mix rfl (.cons_cons _ (.slnil)) (sels [0, 1] rfl) ?_
    refine wf_v 0 rfl (v_move rfl) gn rfl hns (by kernel_rfl) (by kernel_rfl) rfl rfl ?_
    refine wf_v 1 rfl (v_nilCheck rfl) gn rfl hns (by kernel_rfl) (by kernel_rfl) rfl rfl ?_
    refine wf_v 2 rfl (v_fldB fo_52_1 rfl) gn rfl hns (by kernel_rfl) (by kernel_rfl) rfl rfl ?_
    refine wf_v 3 rfl (v_ldB1 0 ld_23 rfl rfl rfl) gn rfl hns (by kernel_rfl) (by kernel_rfl) rfl rfl ?_
    refine wf_v 4 rfl (v_assign rfl) gn rfl hns (by kernel_rfl) (by kernel_rfl) rfl rfl ?_
    refine wf_v 5 rfl (v_assign rfl) gn rfl hns (by kernel_rfl) (by kernel_rfl) rfl rfl ?_
    refine wf_end (by kernel_rfl) ?_
    refine g_nil 9 1 ?_
    refine g_retR (c := rpc_Buffer_Feed_c44) [.slice none 0 0, .int .i64 x1.code] rfl Tryd.func23 rfl (.tmp rfl (.tmp rfl (.nil))) fun wr hLr => ?_
    have hMr : B.Loc w wr [.box g2 Tb3 [.slice A4 n5 c6, .int .i64 x1.code], .own (.slice none 0 0) 9 1 0 (([] : List ByteArray).flatMap eS)] [St w [[g2]]] := hLr.pick (rest := []) (perm_of_idx [1, 0] [] rfl rfl (by kernel_rfl)) (sels [1] rfl)
    have hMi : ∀ e ∈ ([.box g2 Tb3 [.slice A4 n5 c6, .int .i64 x1.code], .own (.slice none 0 0) 9 1 0 (([] : List ByteArray).flatMap eS)] : List Ent), e ∈ ([.own (.slice none 0 0) 9 1 0 (([] : List ByteArray).flatMap eS), .box g2 Tb3 [.slice A4 n5 c6, .int .i64 x1.code]] : List Ent) := sels [1, 0] rfl
    show rpc_Buffer_Feed_R w F g2 Tb3 r (.returned (packV [.slice none 0 0, .int .i64 x1.code])) wr
    rw [h]
    exact ⟨none, 0, 0, A4, n5, c6, rfl, hMr, (Ow.nil (z := w.heap.size)), (hLr.outR (s := Sm w.heap.size F w [[g2]]) hMi (me 0 rfl) Sm.ok h7)⟩
noncomputable abbrev rpc_Buffer_Waiting_c0 : Code := bodyOf Tryd.f24
noncomputable abbrev rpc_Buffer_Waiting_c1 : Code := Code.fst rpc_Buffer_Waiting_c0
noncomputable abbrev rpc_Buffer_Waiting_c2 : Code := Code.snd rpc_Buffer_Waiting_c0
noncomputable abbrev rpc_Buffer_Waiting_c3 : Code := Code.fst rpc_Buffer_Waiting_c2
noncomputable abbrev rpc_Buffer_Waiting_c4 : Code := Code.snd rpc_Buffer_Waiting_c2
abbrev rpc_Buffer_Waiting_R (w : World) (F : Nat → Prop) (g2 : Nat) (Tb3 : Nat) (r : Int × rpc_Buffer) : Ending → World → Prop := fun e w' => ∃ A0 : Option Addr, ∃ n0 : Nat, ∃ c0 : Nat, e = .returned (.int .i64 r.1) ∧ B.Loc w w' [.box g2 Tb3 [.slice A0 n0 c0, .int .i64 r.2.code]] [St w [[g2]]] ∧ Rw (kInt .u8) w' (Nw w w' F [.box g2 Tb3 [.slice A0 n0 c0, .int .i64 r.2.code]]) A0 n0 c0 r.2.wait
noncomputable abbrev rpc_Buffer_Waiting_C (w : World) (F : Nat → Prop) (g2 : Nat) (Tb3 : Nat) (r : Int × rpc_Buffer) : Cx := ⟨Tryd.prog, 24, Tryd.f24, 8, rpc_Buffer_Waiting_R w F g2 Tb3 r, w⟩
theorem rpc_Buffer_Waiting_calls (w : World) (F : Nat → Prop) (x1 : rpc_Buffer) (g2 : Nat) (Tb3 : Nat) (A4 : Option Addr) (n5 : Nat) (c6 : Nat) (h7 : Rw (kInt .u8) w F A4 n5 c6 x1.wait) (hF : ∀ b, F b → b < w.heap.size ∧ ∀ o ∈ ([[g2]] : List (List Nat)), b ∉ o) (hL0 : B.Loc w w [.box g2 Tb3 [.slice A4 n5 c6, .int .i64 x1.code]] [Sm w.heap.size F w [[g2]], St w [[g2]]]) (r : Int × rpc_Buffer) (h : rpc_Buffer_Waiting x1 r) : Calls Tryd.prog 24 #[.pointer (some ⟨g2, 0, none⟩)] w (rpc_Buffer_Waiting_R w F g2 Tb3 r) := by
  unfold rpc_Buffer_Waiting at h
  have h7 := Rw.into (bs := [[g2]]) hF h7
  refine calls_of_Loc (vs := [.pointer (some ⟨g2, 0, none⟩)]) 8 Tryd.func24 rfl Tryd.ntmps24 rfl hL0 ?_
  show G (rpc_Buffer_Waiting_C w F g2 Tb3 r) _ _ _ _
  refine g_seq (c := rpc_Buffer_Waiting_c0) rfl ?_
  refine g_region (c := rpc_Buffer_Waiting_c1) rfl rfl ?_
  refine wl_v 0 rfl (v_assign rfl) gn rfl ?_
  refine w_end 1 rfl ?_
  refine g_seq (c := rpc_Buffer_Waiting_c2) rfl ?_
  refine g_region (c := rpc_Buffer_Waiting_c3) rfl rfl ?_
  refine wl_v 0 rfl (v_move rfl) gn rfl ?_
  refine wl_v 1 rfl (v_nilCheck rfl) gn rfl ?_
  refine wl_v 2 rfl (v_fldB fo_52_0 rfl) gn rfl ?_
  refine wl_v 3 rfl (v_ldB1 0 ld_22 rfl rfl rfl) gn rfl ?_
  refine wl_v 4 rfl (v_lenQ un_22 rfl h7.hq) gn rfl ?_
  refine wl_v 5 rfl (v_assign rfl) gn rfl ?_
  refine w_end 6 rfl ?_
  refine g_retR (c := rpc_Buffer_Waiting_c4) [.int .i64 (x1.wait.length : Int)] rfl Tryd.func24 rfl (.tmp rfl (.nil)) fun wr hLr => ?_
  have hMr : B.Loc w wr [.box g2 Tb3 [.slice A4 n5 c6, .int .i64 x1.code]] [St w [[g2]]] := hLr.pick (rest := []) (perm_of_idx [0] [] rfl rfl (by kernel_rfl)) (sels [1] rfl)
  have hMi : ∀ e ∈ ([.box g2 Tb3 [.slice A4 n5 c6, .int .i64 x1.code]] : List Ent), e ∈ ([.box g2 Tb3 [.slice A4 n5 c6, .int .i64 x1.code]] : List Ent) := sels [0] rfl
  show rpc_Buffer_Waiting_R w F g2 Tb3 r (.returned (packV [.int .i64 (x1.wait.length : Int)])) wr
  rw [h]
  exact ⟨A4, n5, c6, rfl, hMr, (hLr.outR (s := Sm w.heap.size F w [[g2]]) hMi (me 0 rfl) Sm.ok h7)⟩
noncomputable abbrev trellislaw26_started_c0 : Code := bodyOf Tryd.f15
noncomputable abbrev trellislaw26_started_c1 : Code := Code.fst trellislaw26_started_c0
noncomputable abbrev trellislaw26_started_c2 : Code := Code.snd trellislaw26_started_c0
noncomputable abbrev trellislaw26_started_c3 : Code := Code.fst trellislaw26_started_c2
noncomputable abbrev trellislaw26_started_c4 : Code := Code.snd trellislaw26_started_c2
noncomputable abbrev trellislaw26_started_c5 : Code := Code.fst trellislaw26_started_c4
noncomputable abbrev trellislaw26_started_c6 : Code := Code.snd trellislaw26_started_c4
noncomputable abbrev trellislaw26_started_c7 : Code := Code.fst trellislaw26_started_c5
noncomputable abbrev trellislaw26_started_c8 : Code := Code.snd trellislaw26_started_c5
noncomputable abbrev trellislaw26_started_c9 : Code := Code.fst trellislaw26_started_c8
noncomputable abbrev trellislaw26_started_c10 : Code := Code.snd trellislaw26_started_c8
noncomputable abbrev trellislaw26_started_c11 : Code := Code.fst trellislaw26_started_c9
noncomputable abbrev trellislaw26_started_c12 : Code := Code.snd trellislaw26_started_c9
noncomputable abbrev trellislaw26_started_c13 : Code := Code.fst trellislaw26_started_c6
noncomputable abbrev trellislaw26_started_c14 : Code := Code.snd trellislaw26_started_c6
noncomputable abbrev trellislaw26_started_c15 : Code := Code.fst trellislaw26_started_c14
noncomputable abbrev trellislaw26_started_c16 : Code := Code.snd trellislaw26_started_c14
noncomputable abbrev trellislaw26_started_c17 : Code := Code.fst trellislaw26_started_c16
noncomputable abbrev trellislaw26_started_c18 : Code := Code.snd trellislaw26_started_c16
noncomputable abbrev trellislaw26_started_c19 : Code := Code.fst trellislaw26_started_c17
noncomputable abbrev trellislaw26_started_c20 : Code := Code.snd trellislaw26_started_c17
noncomputable abbrev trellislaw26_started_c21 : Code := Code.fst trellislaw26_started_c20
noncomputable abbrev trellislaw26_started_c22 : Code := Code.snd trellislaw26_started_c20
noncomputable abbrev trellislaw26_started_c23 : Code := Code.fst trellislaw26_started_c21
noncomputable abbrev trellislaw26_started_c24 : Code := Code.snd trellislaw26_started_c21
noncomputable abbrev trellislaw26_started_c25 : Code := Code.fst trellislaw26_started_c18
noncomputable abbrev trellislaw26_started_c26 : Code := Code.snd trellislaw26_started_c18
noncomputable abbrev trellislaw26_started_c27 : Code := Code.fst trellislaw26_started_c26
noncomputable abbrev trellislaw26_started_c28 : Code := Code.snd trellislaw26_started_c26
abbrev trellislaw26_started_R (w : World) (F : Nat → Prop) (r : Bool) : Ending → World → Prop := fun e w' => e = .returned (.bool r) ∧ B.Loc w w' [] [St w []]
noncomputable abbrev trellislaw26_started_C (w : World) (F : Nat → Prop) (r : Bool) : Cx := ⟨Tryd.prog, 15, Tryd.f15, 71, trellislaw26_started_R w F  r, w⟩
theorem trellislaw26_started_calls (w : World) (F : Nat → Prop)  (hG : Tb Tryd.prog (St w [])) (hF : ∀ b, F b → b < w.heap.size ∧ ∀ o ∈ ([] : List (List Nat)), b ∉ o) (hL0 : B.Loc w w [] [Sm w.heap.size F w [], St w []]) (r : Bool) (h : trellislaw26_started  r) : Calls Tryd.prog 15 #[] w (trellislaw26_started_R w F  r) := by
  unfold trellislaw26_started at h
  refine calls_of_Loc (vs := []) 71 Tryd.func15 rfl Tryd.ntmps15 rfl hL0 ?_
  show G (trellislaw26_started_C w F r) _ _ _ _
  refine g_seq (c := trellislaw26_started_c0) rfl ?_
  refine g_region (c := trellislaw26_started_c1) rfl rfl ?_
  refine wl_v 0 rfl (v_assign rfl) gn rfl ?_
  refine w_end 1 rfl ?_
  refine g_seq (c := trellislaw26_started_c2) rfl ?_
  refine g_region (c := trellislaw26_started_c3) rfl rfl ?_
  obtain ⟨r4, hv5, h⟩ := h
  refine wl_s 0 rfl (s_call [.string (⟨#[123, 125]⟩ : ByteArray)] rfl Tryd.func8 rfl rfl rfl fun w1 hL2 => ?_) gn
  have hp3 : List.Perm ([] : List Ent) (([] : List Ent) ++ ([] : List Ent)) := perm_of_idx [] [] rfl rfl (by kernel_rfl)
  refine Calls.mono (rpc_Put_calls w1 (Fl ([] : List Snap)) (⟨#[123, 125]⟩ : ByteArray) (hL2.tb hp3 hG (me 1 rfl)) (hL2.hFl (Sl := ([] : List Snap)) hp3 (sels [] rfl)) (hL2.into hp3 (Fl ([] : List Snap))) r4 hv5) ?_
  rintro _ w11 ⟨A6, n7, c8, rfl, hM12, h9⟩
  have hL13 := hL2.call hp3 hM12
  refine ⟨_, _, _, rfl, hL13, ?_⟩
  refine wl_v 1 rfl (v_move rfl) gn rfl ?_
  refine wl_v 2 rfl (v_extract rfl rfl) gn rfl ?_
  refine wl_v 3 rfl (v_extract rfl rfl) gn rfl ?_
  refine wl_v 4 rfl (v_assign rfl) gn rfl ?_
  refine wl_v 5 rfl (v_assign rfl) gn rfl ?_
  refine w_end 6 rfl ?_
  refine g_seq (c := trellislaw26_started_c4) rfl ?_
  refine g_seq (c := trellislaw26_started_c5) rfl ?_
  have j1 : ∀ (x18 : Bool) (h : trellislaw26_started_j1 r4 x18 r) , G (trellislaw26_started_C w F r) [.code trellislaw26_started_c8, .code trellislaw26_started_c6] [(1, .slice A6 n7 c8), (25, .bool x18)] [.own (.slice A6 n7 c8) 5 1 n7 (r4.1.flatMap (eI .u8))] [Sm w.heap.size F w [], St w []] := by
    intro x18 h
    unfold trellislaw26_started_j1 at h
    by_cases hp19 : x18 = true
    · have h := if_pos' hp19 h
      refine g_true (c := trellislaw26_started_c8) rfl _ rfl (hp19) ?_
      refine g_seq (c := trellislaw26_started_c9) rfl ?_
      refine g_region (c := trellislaw26_started_c11) rfl rfl ?_
      refine wl_v 0 rfl (v_assign rfl) gn rfl ?_
      refine w_end 1 rfl ?_
      refine g_retR (c := trellislaw26_started_c12) [.bool false] rfl Tryd.func15 rfl (.tmp rfl (.nil)) fun wr hLr => ?_
      have hMr : B.Loc w wr [] [St w []] := hLr.pick (rest := [.own (.slice A6 n7 c8) 5 1 n7 (r4.1.flatMap (eI .u8))]) (perm_of_idx [] [0] rfl rfl (by kernel_rfl)) (sels [1] rfl)
      have hMi : ∀ e ∈ ([] : List Ent), e ∈ ([.own (.slice A6 n7 c8) 5 1 n7 (r4.1.flatMap (eI .u8))] : List Ent) := sels [] rfl
      show trellislaw26_started_R w F  r (.returned (packV [.bool false])) wr
      rw [h]
      exact ⟨rfl, hMr⟩
    · have h := if_neg' hp19 h
      refine g_false (c := trellislaw26_started_c8) rfl _ rfl ((bf hp19)) ?_
      refine g_skip (c := trellislaw26_started_c10) rfl ?_
      refine g_seq (c := trellislaw26_started_c6) rfl ?_
      refine g_region (c := trellislaw26_started_c13) rfl rfl ?_
      refine wl_v 0 rfl (v_move rfl) gn rfl ?_
      obtain ⟨r23, hv24, h⟩ := h
      refine wl_s 1 rfl (s_call [.slice A6 n7 c8] rfl Tryd.func12 rfl rfl rfl fun w20 hL21 => ?_) gn
      have hp22 : List.Perm ([.own (.slice A6 n7 c8) 5 1 n7 (r4.1.flatMap (eI .u8))] : List Ent) (([] : List Ent) ++ ([.own (.slice A6 n7 c8) 5 1 n7 (r4.1.flatMap (eI .u8))] : List Ent)) := perm_of_idx [] [0] rfl rfl (by kernel_rfl)
      refine Calls.mono (rpc_Take_calls w20 (Fl ([] : List Snap)) r4.1 A6 n7 c8 (hL21.argO (dk := (kInt .u8)) hp22 [] rfl 0 rfl rfl (Ow.weak hL2.env.size h9) (me 0 rfl) (Cells.flat _)) (hL21.hFl (Sl := ([] : List Snap)) hp22 (sels [] rfl)) (hL21.into hp22 (Fl ([] : List Snap))) r23 hv24) ?_
      rintro _ w25 ⟨rfl, hM26⟩
      have hL27 := hL21.call hp22 hM26
      refine ⟨_, _, _, rfl, hL27, ?_⟩
      refine wl_v 2 rfl (v_move rfl) gn rfl ?_
      refine wl_v 3 rfl (v_extract rfl rfl) gn rfl ?_
      refine wl_v 4 rfl (v_extract rfl rfl) gn rfl ?_
      refine wl_v 5 rfl (v_extract rfl rfl) gn rfl ?_
      refine wl_v 6 rfl (v_assign rfl) gn rfl ?_
      refine wl_v 7 rfl (v_assign rfl) gn rfl ?_
      refine wl_v 8 rfl (v_assign rfl) gn rfl ?_
      refine w_end 9 rfl ?_
      refine g_seq (c := trellislaw26_started_c14) rfl ?_
      refine g_region (c := trellislaw26_started_c15) rfl rfl ?_
      obtain ⟨r31, hv32, h⟩ := h
      refine wl_s 0 rfl (s_call [] rfl Tryd.func22 rfl rfl rfl fun w28 hL29 => ?_) gn
      have hp30 : List.Perm ([.own (.slice A6 n7 c8) 5 1 n7 (r4.1.flatMap (eI .u8))] : List Ent) (([] : List Ent) ++ ([.own (.slice A6 n7 c8) 5 1 n7 (r4.1.flatMap (eI .u8))] : List Ent)) := perm_of_idx [] [0] rfl rfl (by kernel_rfl)
      refine Calls.mono (rpc_New_calls w28 (Fl ([] : List Snap)) (hL29.hFl (Sl := ([] : List Snap)) hp30 (sels [] rfl)) (hL29.into hp30 (Fl ([] : List Snap))) r31 hv32) ?_
      rintro _ w38 ⟨gb41, A33, n34, c35, rfl, hM39, h36⟩
      have hL40 := hL29.call hp30 hM39
      refine ⟨_, _, _, rfl, hL40, ?_⟩
      refine wl_v 1 rfl (v_assign rfl) gn rfl ?_
      refine w_end 2 rfl ?_
      refine g_seq (c := trellislaw26_started_c16) rfl ?_
      refine g_seq (c := trellislaw26_started_c17) rfl ?_
      have j2 : ∀ (x46 : Bool) (h : trellislaw26_started_j2 r31 r4 x46 r) , G (trellislaw26_started_C w F r) [.code trellislaw26_started_c20, .code trellislaw26_started_c18] [(1, .slice A6 n7 c8), (6, .pointer (some ⟨gb41, 0, none⟩)), (46, .bool x46)] [.box gb41 52 [.slice A33 n34 c35, .int .i64 r31.code], .own (.slice A33 n34 c35) 5 1 n34 (r31.wait.flatMap (eI .u8)), .own (.slice A6 n7 c8) 5 1 n7 (r4.1.flatMap (eI .u8))] [Sm w.heap.size F w [], St w []] := by
        intro x46 h
        unfold trellislaw26_started_j2 at h
        by_cases hp47 : x46 = true
        · have h := if_pos' hp47 h
          refine g_true (c := trellislaw26_started_c20) rfl _ rfl (hp47) ?_
          refine g_seq (c := trellislaw26_started_c21) rfl ?_
          refine g_region (c := trellislaw26_started_c23) rfl rfl ?_
          refine wl_v 0 rfl (v_assign rfl) gn rfl ?_
          refine w_end 1 rfl ?_
          refine g_retR (c := trellislaw26_started_c24) [.bool false] rfl Tryd.func15 rfl (.tmp rfl (.nil)) fun wr hLr => ?_
          have hMr : B.Loc w wr [] [St w []] := hLr.pick (rest := [.box gb41 52 [.slice A33 n34 c35, .int .i64 r31.code], .own (.slice A33 n34 c35) 5 1 n34 (r31.wait.flatMap (eI .u8)), .own (.slice A6 n7 c8) 5 1 n7 (r4.1.flatMap (eI .u8))]) (perm_of_idx [] [0, 1, 2] rfl rfl (by kernel_rfl)) (sels [1] rfl)
          have hMi : ∀ e ∈ ([] : List Ent), e ∈ ([.box gb41 52 [.slice A33 n34 c35, .int .i64 r31.code], .own (.slice A33 n34 c35) 5 1 n34 (r31.wait.flatMap (eI .u8)), .own (.slice A6 n7 c8) 5 1 n7 (r4.1.flatMap (eI .u8))] : List Ent) := sels [] rfl
          show trellislaw26_started_R w F  r (.returned (packV [.bool false])) wr
          rw [h]
          exact ⟨rfl, hMr⟩
        · have h := if_neg' hp47 h
          refine g_false (c := trellislaw26_started_c20) rfl _ rfl ((bf hp47)) ?_
          refine g_skip (c := trellislaw26_started_c22) rfl ?_
          refine g_seq (c := trellislaw26_started_c18) rfl ?_
          refine g_region (c := trellislaw26_started_c25) rfl rfl ?_
          refine wl_v 0 rfl (v_move rfl) gn rfl ?_
          refine wl_v 1 rfl (v_move rfl) gn rfl ?_
          obtain ⟨r54, hv55, h⟩ := h
          refine w_freeze (F := F) (dk := (kInt .u8)) (Sm w.heap.size F w []) 1 rfl (Ow.weak hL29.env.size h36) (me 0 rfl) Sm.ok (Cells.flat _) fun sw52 sb53 h51 => ?_
          refine wl_s 2 rfl (s_call [.pointer (some ⟨gb41, 0, none⟩), .slice A6 n7 c8] rfl Tryd.func23 rfl rfl rfl fun w48 hL49 => ?_) gn
          have hp50 : List.Perm ([.box gb41 52 [.slice A33 n34 c35, .int .i64 r31.code], .own (.slice A6 n7 c8) 5 1 n7 (r4.1.flatMap (eI .u8))] : List Ent) (([.box gb41 52 [.slice A33 n34 c35, .int .i64 r31.code]] : List Ent) ++ ([.own (.slice A6 n7 c8) 5 1 n7 (r4.1.flatMap (eI .u8))] : List Ent)) := perm_of_idx [0] [1] rfl rfl (by kernel_rfl)
          refine Calls.mono (rpc_Buffer_Feed_calls w48 (Fl ([Sm w.heap.size F sw52 sb53] : List Snap)) r31 r4.1 gb41 52 A33 n34 c35 A6 n7 c8 (Rw.mono h51 (hL49.toFl (me 0 rfl) (me 0 rfl))) (hL49.argO (dk := (kInt .u8)) hp50 [0] rfl 1 rfl rfl (Ow.weak hL2.env.size h9) (me 1 rfl) (Cells.flat _)) (hL49.hFl (Sl := ([Sm w.heap.size F sw52 sb53] : List Snap)) hp50 (sels [0] rfl)) (hL49.into hp50 (Fl ([Sm w.heap.size F sw52 sb53] : List Snap))) r54 hv55) ?_
          rintro _ w65 ⟨A56, n57, c58, A61, n62, c63, rfl, hM66, h59, h64⟩
          obtain ⟨sb69, hL67, hv68⟩ := hL49.callB (Sl := ([Sm w.heap.size F sw52 sb53] : List Snap)) hp50 hM66 F (sels [0] rfl) ⟨Sm.ok, trivial⟩
          have h64 : At (kInt .u8) (Sm w.heap.size F w65 sb69) A61 n62 c63 r54.2.2.wait := Rw.mono h64 hv68
          refine ⟨_, _, _, rfl, hL67, ?_⟩
          refine wl_v 3 rfl (v_move rfl) gn rfl ?_
          refine wl_v 4 rfl (v_extract rfl rfl) gn rfl ?_
          refine wl_v 5 rfl (v_extract rfl rfl) gn rfl ?_
          refine wl_v 6 rfl (v_assign rfl) gn rfl ?_
          refine wl_v 7 rfl (v_assign rfl) gn rfl ?_
          refine w_end 8 rfl ?_
          refine g_seq (c := trellislaw26_started_c26) rfl ?_
          refine g_region (c := trellislaw26_started_c27) rfl rfl ?_
          refine wl_v 0 rfl (v_move rfl) gn rfl ?_
          refine wl_v 1 rfl (v_bin rfl rfl rfl) gn rfl ?_
          refine wl_v 2 rfl (v_move rfl) gn rfl ?_
          by_cases hp70 : r54.2.1 = 0
          · have h := if_pos' hp70 h
            refine w_bool 55 rfl ((eqi hp70)) ?_
            refine wl_v 3 rfl (v_move rfl) (gy 55 rfl rfl) rfl ?_
            refine wl_v 4 rfl (v_lenQ un_35 rfl (Ow.weak hL49.env.size h59).hq) (gy 55 rfl rfl) rfl ?_
            refine wl_v 5 rfl (v_bin rfl rfl rfl) (gy 55 rfl rfl) rfl ?_
            refine wl_v 6 rfl (v_pick (b := true) rfl rfl) gn rfl ?_
            refine wl_v 7 rfl (v_move rfl) gn rfl ?_
            by_cases hp71 : (r54.1.length : Int) = 1
            · have h := if_pos' hp71 h
              refine w_bool 60 rfl ((eqi hp71)) ?_
              refine wl_v 8 rfl (v_move rfl) (gy 60 rfl rfl) rfl ?_
              obtain ⟨hb72, h⟩ := h
              refine wl_v 9 rfl (v_idxO slE_35 rfl rfl (Ow.weak hL49.env.size h59) hb72) (gy 60 rfl rfl) rfl ?_
              refine wl_v 10 rfl (v_ldO1 (.string (ix r54.1 0)) 1 ld_9 rfl rfl (fm_get0 hlS hb72 rfl)) (gy 60 rfl rfl) rfl ?_
              refine wl_v 11 rfl (v_eqS rfl rfl) (gy 60 rfl rfl) rfl ?_
              refine wl_v 12 rfl (v_pick (b := true) rfl rfl) gn rfl ?_
              refine wl_v 13 rfl (v_move rfl) gn rfl ?_
              by_cases hp73 : ix r54.1 0 = (⟨#[123, 125]⟩ : ByteArray)
              · have h := if_pos' hp73 h
                refine w_bool 66 rfl ((seq_t hp73)) ?_
                refine wl_v 14 rfl (v_move rfl) (gy 66 rfl rfl) rfl ?_
                obtain ⟨r77, hv78, h⟩ := h
                refine wl_s 15 rfl (s_call [.pointer (some ⟨gb41, 0, none⟩)] rfl Tryd.func24 rfl rfl rfl fun w74 hL75 => ?_) (gy 66 rfl rfl)
                have hp76 : List.Perm ([.box gb41 52 [.slice A61 n62 c63, .int .i64 r54.2.2.code], .own (.slice A56 n57 c58) 9 1 n57 (r54.1.flatMap eS), .own (.slice A6 n7 c8) 5 1 n7 (r4.1.flatMap (eI .u8))] : List Ent) (([.box gb41 52 [.slice A61 n62 c63, .int .i64 r54.2.2.code]] : List Ent) ++ ([.own (.slice A56 n57 c58) 9 1 n57 (r54.1.flatMap eS), .own (.slice A6 n7 c8) 5 1 n7 (r4.1.flatMap (eI .u8))] : List Ent)) := perm_of_idx [0] [1, 2] rfl rfl (by kernel_rfl)
                refine Calls.mono (rpc_Buffer_Waiting_calls w74 (Fl ([Sm w.heap.size F w65 sb69] : List Snap)) r54.2.2 gb41 52 A61 n62 c63 (Rw.mono h64 (hL75.toFl (me 0 rfl) (me 0 rfl))) (hL75.hFl (Sl := ([Sm w.heap.size F w65 sb69] : List Snap)) hp76 (sels [0] rfl)) (hL75.into hp76 (Fl ([Sm w.heap.size F w65 sb69] : List Snap))) r77 hv78) ?_
                rintro _ w83 ⟨A79, n80, c81, rfl, hM84, h82⟩
                obtain ⟨sb87, hL85, hv86⟩ := hL75.callB (Sl := ([Sm w.heap.size F w65 sb69] : List Snap)) hp76 hM84 F (sels [0] rfl) ⟨Sm.ok, trivial⟩
                have h82 : At (kInt .u8) (Sm w.heap.size F w83 sb87) A79 n80 c81 r77.2.wait := Rw.mono h82 hv86
                refine ⟨_, _, _, rfl, hL85, ?_⟩
                refine wl_v 16 rfl (v_bin rfl rfl rfl) (gy 66 rfl rfl) rfl ?_
                refine wl_v 17 rfl (v_pick (b := true) rfl rfl) gn rfl ?_
                refine wl_v 18 rfl (v_assign rfl) gn rfl ?_
                refine w_end 19 rfl ?_
                refine g_retR (c := trellislaw26_started_c28) [.bool (r77.1 == 0)] rfl Tryd.func15 rfl (.tmp rfl (.nil)) fun wr hLr => ?_
                have hMr : B.Loc w wr [] [St w []] := hLr.pick (rest := [.box gb41 52 [.slice A79 n80 c81, .int .i64 r77.2.code], .own (.slice A56 n57 c58) 9 1 n57 (r54.1.flatMap eS), .own (.slice A6 n7 c8) 5 1 n7 (r4.1.flatMap (eI .u8))]) (perm_of_idx [] [0, 1, 2] rfl rfl (by kernel_rfl)) (sels [4] rfl)
                have hMi : ∀ e ∈ ([] : List Ent), e ∈ ([.box gb41 52 [.slice A79 n80 c81, .int .i64 r77.2.code], .own (.slice A56 n57 c58) 9 1 n57 (r54.1.flatMap eS), .own (.slice A6 n7 c8) 5 1 n7 (r4.1.flatMap (eI .u8))] : List Ent) := sels [] rfl
                show trellislaw26_started_R w F  r (.returned (packV [.bool (r77.1 == 0)])) wr
                rw [h]
                exact ⟨rfl, hMr⟩
              · have h := if_neg' hp73 h
                refine w_bool 66 rfl ((seq_f hp73)) ?_
                refine wl_pass 14 rfl (ps 66 rfl rfl rfl) ?_
                refine wl_pass 15 rfl (ps 66 rfl rfl rfl) ?_
                refine wl_pass 16 rfl (ps 66 rfl rfl rfl) ?_
                refine wl_v 17 rfl (v_pick (b := false) rfl rfl) gn rfl ?_
                refine wl_v 18 rfl (v_assign rfl) gn rfl ?_
                refine w_end 19 rfl ?_
                refine g_retR (c := trellislaw26_started_c28) [.bool false] rfl Tryd.func15 rfl (.tmp rfl (.nil)) fun wr hLr => ?_
                have hMr : B.Loc w wr [] [St w []] := hLr.pick (rest := [.box gb41 52 [.slice A61 n62 c63, .int .i64 r54.2.2.code], .own (.slice A56 n57 c58) 9 1 n57 (r54.1.flatMap eS), .own (.slice A6 n7 c8) 5 1 n7 (r4.1.flatMap (eI .u8))]) (perm_of_idx [] [0, 1, 2] rfl rfl (by kernel_rfl)) (sels [3] rfl)
                have hMi : ∀ e ∈ ([] : List Ent), e ∈ ([.box gb41 52 [.slice A61 n62 c63, .int .i64 r54.2.2.code], .own (.slice A56 n57 c58) 9 1 n57 (r54.1.flatMap eS), .own (.slice A6 n7 c8) 5 1 n7 (r4.1.flatMap (eI .u8))] : List Ent) := sels [] rfl
                show trellislaw26_started_R w F  r (.returned (packV [.bool false])) wr
                rw [h]
                exact ⟨rfl, hMr⟩
            · have h := if_neg' hp71 h
              refine w_bool 60 rfl ((nei hp71)) ?_
              refine wl_pass 8 rfl (ps 60 rfl rfl rfl) ?_
              refine wl_pass 9 rfl (ps 60 rfl rfl rfl) ?_
              refine wl_pass 10 rfl (ps 60 rfl rfl rfl) ?_
              refine wl_pass 11 rfl (ps 60 rfl rfl rfl) ?_
              refine wl_v 12 rfl (v_pick (b := false) rfl rfl) gn rfl ?_
              refine wl_v 13 rfl (v_move rfl) gn rfl ?_
              refine wl_pass 14 rfl (ps 66 rfl rfl rfl) ?_
              refine wl_pass 15 rfl (ps 66 rfl rfl rfl) ?_
              refine wl_pass 16 rfl (ps 66 rfl rfl rfl) ?_
              refine wl_v 17 rfl (v_pick (b := false) rfl rfl) gn rfl ?_
              refine wl_v 18 rfl (v_assign rfl) gn rfl ?_
              refine w_end 19 rfl ?_
              refine g_retR (c := trellislaw26_started_c28) [.bool false] rfl Tryd.func15 rfl (.tmp rfl (.nil)) fun wr hLr => ?_
              have hMr : B.Loc w wr [] [St w []] := hLr.pick (rest := [.box gb41 52 [.slice A61 n62 c63, .int .i64 r54.2.2.code], .own (.slice A56 n57 c58) 9 1 n57 (r54.1.flatMap eS), .own (.slice A6 n7 c8) 5 1 n7 (r4.1.flatMap (eI .u8))]) (perm_of_idx [] [0, 1, 2] rfl rfl (by kernel_rfl)) (sels [3] rfl)
              have hMi : ∀ e ∈ ([] : List Ent), e ∈ ([.box gb41 52 [.slice A61 n62 c63, .int .i64 r54.2.2.code], .own (.slice A56 n57 c58) 9 1 n57 (r54.1.flatMap eS), .own (.slice A6 n7 c8) 5 1 n7 (r4.1.flatMap (eI .u8))] : List Ent) := sels [] rfl
              show trellislaw26_started_R w F  r (.returned (packV [.bool false])) wr
              rw [h]
              exact ⟨rfl, hMr⟩
          · have h := if_neg' hp70 h
            refine w_bool 55 rfl ((nei hp70)) ?_
            refine wl_pass 3 rfl (ps 55 rfl rfl rfl) ?_
            refine wl_pass 4 rfl (ps 55 rfl rfl rfl) ?_
            refine wl_pass 5 rfl (ps 55 rfl rfl rfl) ?_
            refine wl_v 6 rfl (v_pick (b := false) rfl rfl) gn rfl ?_
            refine wl_v 7 rfl (v_move rfl) gn rfl ?_
            refine wl_pass 8 rfl (ps 60 rfl rfl rfl) ?_
            refine wl_pass 9 rfl (ps 60 rfl rfl rfl) ?_
            refine wl_pass 10 rfl (ps 60 rfl rfl rfl) ?_
            refine wl_pass 11 rfl (ps 60 rfl rfl rfl) ?_
            refine wl_v 12 rfl (v_pick (b := false) rfl rfl) gn rfl ?_
            refine wl_v 13 rfl (v_move rfl) gn rfl ?_
            refine wl_pass 14 rfl (ps 66 rfl rfl rfl) ?_
            refine wl_pass 15 rfl (ps 66 rfl rfl rfl) ?_
            refine wl_pass 16 rfl (ps 66 rfl rfl rfl) ?_
            refine wl_v 17 rfl (v_pick (b := false) rfl rfl) gn rfl ?_
            refine wl_v 18 rfl (v_assign rfl) gn rfl ?_
            refine w_end 19 rfl ?_
            refine g_retR (c := trellislaw26_started_c28) [.bool false] rfl Tryd.func15 rfl (.tmp rfl (.nil)) fun wr hLr => ?_
            have hMr : B.Loc w wr [] [St w []] := hLr.pick (rest := [.box gb41 52 [.slice A61 n62 c63, .int .i64 r54.2.2.code], .own (.slice A56 n57 c58) 9 1 n57 (r54.1.flatMap eS), .own (.slice A6 n7 c8) 5 1 n7 (r4.1.flatMap (eI .u8))]) (perm_of_idx [] [0, 1, 2] rfl rfl (by kernel_rfl)) (sels [3] rfl)
            have hMi : ∀ e ∈ ([] : List Ent), e ∈ ([.box gb41 52 [.slice A61 n62 c63, .int .i64 r54.2.2.code], .own (.slice A56 n57 c58) 9 1 n57 (r54.1.flatMap eS), .own (.slice A6 n7 c8) 5 1 n7 (r4.1.flatMap (eI .u8))] : List Ent) := sels [] rfl
            show trellislaw26_started_R w F  r (.returned (packV [.bool false])) wr
            rw [h]
            exact ⟨rfl, hMr⟩
      refine g_region (c := trellislaw26_started_c19) rfl rfl ?_
      refine wl_v 0 rfl (v_move rfl) gn rfl ?_
      refine wl_v 1 rfl (v_eqNP un_46 rfl rfl) gn rfl ?_
      refine wl_v 2 rfl (v_move rfl) gn rfl ?_
      refine wl_v 3 rfl (v_move rfl) (gy 35 rfl rfl) rfl ?_
      refine wl_v 4 rfl (v_bin rfl rfl rfl) (gy 35 rfl rfl) rfl ?_
      refine wl_v 5 rfl (v_pick (b := false) rfl rfl) gn rfl ?_
      refine wl_v 6 rfl (v_move rfl) gn rfl ?_
      by_cases hp88 : r23.2.2 = 0
      · have h := if_pos' hp88 h
        refine w_bool 39 rfl ((eqib hp88)) ?_
        refine wl_v 7 rfl (v_move rfl) (gy 39 rfl rfl) rfl ?_
        refine wl_v 8 rfl (v_neS rfl rfl) (gy 39 rfl rfl) rfl ?_
        refine wl_v 9 rfl (v_pick (b := false) rfl rfl) gn rfl ?_
        refine wl_v 10 rfl (v_move rfl) gn rfl ?_
        by_cases hp89 : r23.1 = (⟨#[123, 125]⟩ : ByteArray)
        · have h := if_pos' hp89 h
          refine w_bool 43 rfl ((nf (seq_t hp89))) ?_
          refine wl_v 11 rfl (v_move rfl) (gy 43 rfl rfl) rfl ?_
          refine wl_v 12 rfl (v_bin rfl rfl rfl) (gy 43 rfl rfl) rfl ?_
          refine wl_v 13 rfl (v_pick (b := false) rfl rfl) gn rfl ?_
          refine w_end 14 rfl ?_
          exact g_go [0, 1] (j2 (r23.2.1 != 23) h) ⟨rfl, rfl, rfl, trivial⟩ (.cons_cons _ (.cons_cons _ (.cons_cons _ (.slnil)))) rfl
        · have h := if_neg' hp89 h
          refine w_bool 43 rfl ((nt (seq_f hp89))) ?_
          refine wl_pass 11 rfl (ps 43 rfl rfl rfl) ?_
          refine wl_pass 12 rfl (ps 43 rfl rfl rfl) ?_
          refine wl_v 13 rfl (v_pick (b := true) rfl rfl) gn rfl ?_
          refine w_end 14 rfl ?_
          exact g_go [0, 1] (j2 true h) ⟨rfl, rfl, rfl, trivial⟩ (.cons_cons _ (.cons_cons _ (.cons_cons _ (.slnil)))) rfl
      · have h := if_neg' hp88 h
        refine w_bool 39 rfl ((neib hp88)) ?_
        refine wl_pass 7 rfl (ps 39 rfl rfl rfl) ?_
        refine wl_pass 8 rfl (ps 39 rfl rfl rfl) ?_
        refine wl_v 9 rfl (v_pick (b := true) rfl rfl) gn rfl ?_
        refine wl_v 10 rfl (v_move rfl) gn rfl ?_
        refine wl_pass 11 rfl (ps 43 rfl rfl rfl) ?_
        refine wl_pass 12 rfl (ps 43 rfl rfl rfl) ?_
        refine wl_v 13 rfl (v_pick (b := true) rfl rfl) gn rfl ?_
        refine w_end 14 rfl ?_
        exact g_go [0, 1] (j2 true h) ⟨rfl, rfl, rfl, trivial⟩ (.cons_cons _ (.cons_cons _ (.cons_cons _ (.slnil)))) rfl
  refine g_region (c := trellislaw26_started_c7) rfl rfl ?_
  refine wl_v 0 rfl (v_move rfl) gn rfl ?_
  refine wl_v 1 rfl (v_bin rfl rfl rfl) gn rfl ?_
  refine wl_v 2 rfl (v_move rfl) gn rfl ?_
  by_cases hp90 : r4.2 = 0
  · have h := if_pos' hp90 h
    refine w_bool 15 rfl ((eqib hp90)) ?_
    refine wl_v 3 rfl (v_move rfl) (gy 15 rfl rfl) rfl ?_
    refine wl_v 4 rfl (v_lenQ un_22 rfl (Ow.weak hL2.env.size h9).hq) (gy 15 rfl rfl) rfl ?_
    refine wl_v 5 rfl (v_bin rfl rfl rfl) (gy 15 rfl rfl) rfl ?_
    refine wl_v 6 rfl (v_pick (b := false) rfl rfl) gn rfl ?_
    refine wl_v 7 rfl (v_move rfl) gn rfl ?_
    by_cases hp91 : (r4.1.length : Int) = 23
    · have h := if_pos' hp91 h
      refine w_bool 20 rfl ((eqib hp91)) ?_
      refine wl_v 8 rfl (v_move rfl) (gy 20 rfl rfl) rfl ?_
      obtain ⟨hb92, h⟩ := h
      refine wl_v 9 rfl (v_idxO slE_22 rfl rfl (Ow.weak hL2.env.size h9) hb92) (gy 20 rfl rfl) rfl ?_
      refine wl_v 10 rfl (v_ldO1 (.int .u8 (ix r4.1 16)) 0 ld_5 rfl rfl (fm_get0 (hlI .u8) hb92 rfl)) (gy 20 rfl rfl) rfl ?_
      refine wl_v 11 rfl (v_bin rfl rfl rfl) (gy 20 rfl rfl) rfl ?_
      refine wl_v 12 rfl (v_pick (b := false) rfl rfl) gn rfl ?_
      refine w_end 13 rfl ?_
      exact g_go [0, 1] (j1 ((ix r4.1 16) != 50) h) ⟨rfl, rfl, trivial⟩ (.cons_cons _ (.slnil)) rfl
    · have h := if_neg' hp91 h
      refine w_bool 20 rfl ((neib hp91)) ?_
      refine wl_pass 8 rfl (ps 20 rfl rfl rfl) ?_
      refine wl_pass 9 rfl (ps 20 rfl rfl rfl) ?_
      refine wl_pass 10 rfl (ps 20 rfl rfl rfl) ?_
      refine wl_pass 11 rfl (ps 20 rfl rfl rfl) ?_
      refine wl_v 12 rfl (v_pick (b := true) rfl rfl) gn rfl ?_
      refine w_end 13 rfl ?_
      exact g_go [0, 1] (j1 true h) ⟨rfl, rfl, trivial⟩ (.cons_cons _ (.slnil)) rfl
  · have h := if_neg' hp90 h
    refine w_bool 15 rfl ((neib hp90)) ?_
    refine wl_pass 3 rfl (ps 15 rfl rfl rfl) ?_
    refine wl_pass 4 rfl (ps 15 rfl rfl rfl) ?_
    refine wl_pass 5 rfl (ps 15 rfl rfl rfl) ?_
    refine wl_v 6 rfl (v_pick (b := true) rfl rfl) gn rfl ?_
    refine wl_v 7 rfl (v_move rfl) gn rfl ?_
    refine wl_pass 8 rfl (ps 20 rfl rfl rfl) ?_
    refine wl_pass 9 rfl (ps 20 rfl rfl rfl) ?_
    refine wl_pass 10 rfl (ps 20 rfl rfl rfl) ?_
    refine wl_pass 11 rfl (ps 20 rfl rfl rfl) ?_
    refine wl_v 12 rfl (v_pick (b := true) rfl rfl) gn rfl ?_
    refine w_end 13 rfl ?_
    exact g_go [0, 1] (j1 true h) ⟨rfl, rfl, trivial⟩ (.cons_cons _ (.slnil)) rfl
noncomputable abbrev trellislaw26_RpcBack_c0 : Code := bodyOf Tryd.f4
noncomputable abbrev trellislaw26_RpcBack_c1 : Code := Code.fst trellislaw26_RpcBack_c0
noncomputable abbrev trellislaw26_RpcBack_c2 : Code := Code.snd trellislaw26_RpcBack_c0
noncomputable abbrev trellislaw26_RpcBack_c3 : Code := Code.fst trellislaw26_RpcBack_c2
noncomputable abbrev trellislaw26_RpcBack_c4 : Code := Code.snd trellislaw26_RpcBack_c2
noncomputable abbrev trellislaw26_RpcBack_c5 : Code := Code.fst trellislaw26_RpcBack_c3
noncomputable abbrev trellislaw26_RpcBack_c6 : Code := Code.snd trellislaw26_RpcBack_c3
noncomputable abbrev trellislaw26_RpcBack_c7 : Code := Code.fst trellislaw26_RpcBack_c6
noncomputable abbrev trellislaw26_RpcBack_c8 : Code := Code.snd trellislaw26_RpcBack_c6
noncomputable abbrev trellislaw26_RpcBack_c9 : Code := Code.fst trellislaw26_RpcBack_c4
noncomputable abbrev trellislaw26_RpcBack_c10 : Code := Code.snd trellislaw26_RpcBack_c4
noncomputable abbrev trellislaw26_RpcBack_c11 : Code := Code.fst trellislaw26_RpcBack_c10
noncomputable abbrev trellislaw26_RpcBack_c12 : Code := Code.snd trellislaw26_RpcBack_c10
noncomputable abbrev trellislaw26_RpcBack_c13 : Code := Code.fst trellislaw26_RpcBack_c11
noncomputable abbrev trellislaw26_RpcBack_c14 : Code := Code.snd trellislaw26_RpcBack_c11
noncomputable abbrev trellislaw26_RpcBack_c15 : Code := Code.fst trellislaw26_RpcBack_c14
noncomputable abbrev trellislaw26_RpcBack_c16 : Code := Code.snd trellislaw26_RpcBack_c14
noncomputable abbrev trellislaw26_RpcBack_c17 : Code := Code.fst trellislaw26_RpcBack_c15
noncomputable abbrev trellislaw26_RpcBack_c18 : Code := Code.snd trellislaw26_RpcBack_c15
noncomputable abbrev trellislaw26_RpcBack_c19 : Code := Code.fst trellislaw26_RpcBack_c12
noncomputable abbrev trellislaw26_RpcBack_c20 : Code := Code.snd trellislaw26_RpcBack_c12
noncomputable abbrev trellislaw26_RpcBack_c21 : Code := Code.fst trellislaw26_RpcBack_c19
noncomputable abbrev trellislaw26_RpcBack_c22 : Code := Code.snd trellislaw26_RpcBack_c19
noncomputable abbrev trellislaw26_RpcBack_c23 : Code := Code.fst trellislaw26_RpcBack_c22
noncomputable abbrev trellislaw26_RpcBack_c24 : Code := Code.snd trellislaw26_RpcBack_c22
noncomputable abbrev trellislaw26_RpcBack_c25 : Code := Code.fst trellislaw26_RpcBack_c20
noncomputable abbrev trellislaw26_RpcBack_c26 : Code := Code.snd trellislaw26_RpcBack_c20
noncomputable abbrev trellislaw26_RpcBack_c27 : Code := Code.fst trellislaw26_RpcBack_c26
noncomputable abbrev trellislaw26_RpcBack_c28 : Code := Code.snd trellislaw26_RpcBack_c26
noncomputable abbrev trellislaw26_RpcBack_c29 : Code := Code.fst trellislaw26_RpcBack_c27
noncomputable abbrev trellislaw26_RpcBack_c30 : Code := Code.snd trellislaw26_RpcBack_c27
noncomputable abbrev trellislaw26_RpcBack_c31 : Code := Code.fst trellislaw26_RpcBack_c30
noncomputable abbrev trellislaw26_RpcBack_c32 : Code := Code.fst trellislaw26_RpcBack_c31
noncomputable abbrev trellislaw26_RpcBack_c33 : Code := Code.fst trellislaw26_RpcBack_c32
noncomputable abbrev trellislaw26_RpcBack_c34 : Code := Code.snd trellislaw26_RpcBack_c32
noncomputable abbrev trellislaw26_RpcBack_c35 : Code := Code.fst trellislaw26_RpcBack_c33
noncomputable abbrev trellislaw26_RpcBack_c36 : Code := Code.snd trellislaw26_RpcBack_c33
noncomputable abbrev trellislaw26_RpcBack_c37 : Code := Code.fst trellislaw26_RpcBack_c36
noncomputable abbrev trellislaw26_RpcBack_c38 : Code := Code.snd trellislaw26_RpcBack_c36
noncomputable abbrev trellislaw26_RpcBack_c39 : Code := Code.fst trellislaw26_RpcBack_c34
noncomputable abbrev trellislaw26_RpcBack_c40 : Code := Code.snd trellislaw26_RpcBack_c34
noncomputable abbrev trellislaw26_RpcBack_c41 : Code := Code.fst trellislaw26_RpcBack_c39
noncomputable abbrev trellislaw26_RpcBack_c42 : Code := Code.fst trellislaw26_RpcBack_c28
noncomputable abbrev trellislaw26_RpcBack_c43 : Code := Code.snd trellislaw26_RpcBack_c28
noncomputable abbrev trellislaw26_RpcBack_c44 : Code := Code.fst trellislaw26_RpcBack_c42
noncomputable abbrev trellislaw26_RpcBack_c45 : Code := Code.snd trellislaw26_RpcBack_c42
noncomputable abbrev trellislaw26_RpcBack_c46 : Code := Code.fst trellislaw26_RpcBack_c45
noncomputable abbrev trellislaw26_RpcBack_c47 : Code := Code.fst trellislaw26_RpcBack_c46
noncomputable abbrev trellislaw26_RpcBack_c48 : Code := Code.fst trellislaw26_RpcBack_c47
noncomputable abbrev trellislaw26_RpcBack_c49 : Code := Code.snd trellislaw26_RpcBack_c47
noncomputable abbrev trellislaw26_RpcBack_c50 : Code := Code.fst trellislaw26_RpcBack_c48
noncomputable abbrev trellislaw26_RpcBack_c51 : Code := Code.snd trellislaw26_RpcBack_c48
noncomputable abbrev trellislaw26_RpcBack_c52 : Code := Code.fst trellislaw26_RpcBack_c51
noncomputable abbrev trellislaw26_RpcBack_c53 : Code := Code.snd trellislaw26_RpcBack_c51
noncomputable abbrev trellislaw26_RpcBack_c54 : Code := Code.fst trellislaw26_RpcBack_c49
noncomputable abbrev trellislaw26_RpcBack_c55 : Code := Code.snd trellislaw26_RpcBack_c49
noncomputable abbrev trellislaw26_RpcBack_c56 : Code := Code.fst trellislaw26_RpcBack_c54
noncomputable abbrev trellislaw26_RpcBack_c57 : Code := Code.fst trellislaw26_RpcBack_c43
noncomputable abbrev trellislaw26_RpcBack_c58 : Code := Code.snd trellislaw26_RpcBack_c43
noncomputable abbrev trellislaw26_RpcBack_c59 : Code := Code.fst trellislaw26_RpcBack_c58
noncomputable abbrev trellislaw26_RpcBack_c60 : Code := Code.snd trellislaw26_RpcBack_c58
noncomputable abbrev trellislaw26_RpcBack_c61 : Code := Code.fst trellislaw26_RpcBack_c59
noncomputable abbrev trellislaw26_RpcBack_c62 : Code := Code.snd trellislaw26_RpcBack_c59
noncomputable abbrev trellislaw26_RpcBack_c63 : Code := Code.fst trellislaw26_RpcBack_c62
noncomputable abbrev trellislaw26_RpcBack_c64 : Code := Code.snd trellislaw26_RpcBack_c62
noncomputable abbrev trellislaw26_RpcBack_c65 : Code := Code.fst trellislaw26_RpcBack_c63
noncomputable abbrev trellislaw26_RpcBack_c66 : Code := Code.snd trellislaw26_RpcBack_c63
noncomputable abbrev trellislaw26_RpcBack_c67 : Code := Code.fst trellislaw26_RpcBack_c60
noncomputable abbrev trellislaw26_RpcBack_c68 : Code := Code.snd trellislaw26_RpcBack_c60
noncomputable abbrev trellislaw26_RpcBack_c69 : Code := Code.fst trellislaw26_RpcBack_c67
noncomputable abbrev trellislaw26_RpcBack_c70 : Code := Code.snd trellislaw26_RpcBack_c67
noncomputable abbrev trellislaw26_RpcBack_c71 : Code := Code.fst trellislaw26_RpcBack_c70
noncomputable abbrev trellislaw26_RpcBack_c72 : Code := Code.snd trellislaw26_RpcBack_c70
noncomputable abbrev trellislaw26_RpcBack_c73 : Code := Code.fst trellislaw26_RpcBack_c71
noncomputable abbrev trellislaw26_RpcBack_c74 : Code := Code.snd trellislaw26_RpcBack_c71
noncomputable abbrev trellislaw26_RpcBack_c75 : Code := Code.fst trellislaw26_RpcBack_c68
noncomputable abbrev trellislaw26_RpcBack_c76 : Code := Code.snd trellislaw26_RpcBack_c68
noncomputable abbrev trellislaw26_RpcBack_c77 : Code := Code.fst trellislaw26_RpcBack_c76
noncomputable abbrev trellislaw26_RpcBack_c78 : Code := Code.snd trellislaw26_RpcBack_c76
noncomputable abbrev trellislaw26_RpcBack_c79 : Code := Code.fst trellislaw26_RpcBack_c23
noncomputable abbrev trellislaw26_RpcBack_c80 : Code := Code.snd trellislaw26_RpcBack_c23
noncomputable abbrev trellislaw26_RpcBack_c81 : Code := Code.fst trellislaw26_RpcBack_c7
noncomputable abbrev trellislaw26_RpcBack_c82 : Code := Code.snd trellislaw26_RpcBack_c7
abbrev trellislaw26_RpcBack_R (w : World) (F : Nat → Prop) (r : Bool) : Ending → World → Prop := fun e w' => e = .returned (.bool r) ∧ B.Loc w w' [] [St w []]
noncomputable abbrev trellislaw26_RpcBack_C (w : World) (F : Nat → Prop) (r : Bool) : Cx := ⟨Tryd.prog, 4, Tryd.f4, 105, trellislaw26_RpcBack_R w F  r, w⟩
theorem trellislaw26_RpcBack_calls (w : World) (F : Nat → Prop) (x1 : ByteArray) (x2 : List Int) (x7 : Int) (A3 : Option Addr) (n4 : Nat) (c5 : Nat) (h6 : Rw (kInt .u8) w (St w []).av A3 n4 c5 x2) (hG : Tb Tryd.prog (St w [])) (hF : ∀ b, F b → b < w.heap.size ∧ ∀ o ∈ ([] : List (List Nat)), b ∉ o) (hL0 : B.Loc w w [] [Sm w.heap.size F w [], St w []]) (r : Bool) (h : trellislaw26_RpcBack x1 x2 x7 r) : Calls Tryd.prog 4 #[.string x1, .slice A3 n4 c5, .int .i64 x7] w (trellislaw26_RpcBack_R w F  r) := by
  unfold trellislaw26_RpcBack at h
  refine calls_of_Loc (vs := [.string x1, .slice A3 n4 c5, .int .i64 x7]) 105 Tryd.func4 rfl Tryd.ntmps4 rfl hL0 ?_
  show G (trellislaw26_RpcBack_C w F r) _ _ _ _
  refine g_seq (c := trellislaw26_RpcBack_c0) rfl ?_
  refine g_region (c := trellislaw26_RpcBack_c1) rfl rfl ?_
  refine wl_v 0 rfl (v_assign rfl) gn rfl ?_
  refine w_end 1 rfl ?_
  refine g_seq (c := trellislaw26_RpcBack_c2) rfl ?_
  refine g_seq (c := trellislaw26_RpcBack_c3) rfl ?_
  refine g_region (c := trellislaw26_RpcBack_c5) rfl rfl ?_
  obtain ⟨r11, hv12, h⟩ := h
  refine wl_s 0 rfl (s_call [] rfl Tryd.func15 rfl rfl rfl fun w8 hL9 => ?_) gn
  have hp10 : List.Perm ([] : List Ent) (([] : List Ent) ++ ([] : List Ent)) := perm_of_idx [] [] rfl rfl (by kernel_rfl)
  refine Calls.mono (trellislaw26_started_calls w8 (Fl ([] : List Snap)) (hL9.tb hp10 hG (me 1 rfl)) (hL9.hFl (Sl := ([] : List Snap)) hp10 (sels [] rfl)) (hL9.into hp10 (Fl ([] : List Snap))) r11 hv12) ?_
  rintro _ w13 ⟨rfl, hM14⟩
  have hL15 := hL9.call hp10 hM14
  refine ⟨_, _, _, rfl, hL15, ?_⟩
  refine wl_v 1 rfl (v_not rfl) gn rfl ?_
  refine w_end 2 rfl ?_
  by_cases hp16 : r11 = true
  · have h := if_pos' hp16 h
    refine g_false (c := trellislaw26_RpcBack_c6) rfl _ rfl ((nf hp16)) ?_
    refine g_skip (c := trellislaw26_RpcBack_c8) rfl ?_
    refine g_seq (c := trellislaw26_RpcBack_c4) rfl ?_
    refine g_region (c := trellislaw26_RpcBack_c9) rfl rfl ?_
    refine wl_v 0 rfl (v_move rfl) gn rfl ?_
    obtain ⟨r20, hv21, h⟩ := h
    refine wl_s 1 rfl (s_call [.string x1] rfl Tryd.func8 rfl rfl rfl fun w17 hL18 => ?_) gn
    have hp19 : List.Perm ([] : List Ent) (([] : List Ent) ++ ([] : List Ent)) := perm_of_idx [] [] rfl rfl (by kernel_rfl)
    refine Calls.mono (rpc_Put_calls w17 (Fl ([] : List Snap)) x1 (hL18.tb hp19 hG (me 1 rfl)) (hL18.hFl (Sl := ([] : List Snap)) hp19 (sels [] rfl)) (hL18.into hp19 (Fl ([] : List Snap))) r20 hv21) ?_
    rintro _ w27 ⟨A22, n23, c24, rfl, hM28, h25⟩
    have hL29 := hL18.call hp19 hM28
    refine ⟨_, _, _, rfl, hL29, ?_⟩
    refine wl_v 2 rfl (v_move rfl) gn rfl ?_
    refine wl_v 3 rfl (v_extract rfl rfl) gn rfl ?_
    refine wl_v 4 rfl (v_extract rfl rfl) gn rfl ?_
    refine wl_v 5 rfl (v_assign rfl) gn rfl ?_
    refine wl_v 6 rfl (v_assign rfl) gn rfl ?_
    refine w_end 7 rfl ?_
    refine g_seq (c := trellislaw26_RpcBack_c10) rfl ?_
    refine g_seq (c := trellislaw26_RpcBack_c11) rfl ?_
    refine g_region (c := trellislaw26_RpcBack_c13) rfl rfl ?_
    refine wl_v 0 rfl (v_move rfl) gn rfl ?_
    refine wl_v 1 rfl (v_lenS un_9 rfl) gn rfl ?_
    refine wl_v 2 rfl (v_bin rfl rfl rfl) gn rfl ?_
    refine w_end 3 rfl ?_
    by_cases hp30 : (x1.size : Int) > 2097152
    · have h := if_pos' hp30 h
      refine g_true (c := trellislaw26_RpcBack_c14) rfl _ rfl ((decide_eq_true hp30)) ?_
      refine g_seq (c := trellislaw26_RpcBack_c15) rfl ?_
      have j1 : ∀ (x33 : Bool) (h : trellislaw26_RpcBack_j1 x33 r) , G (trellislaw26_RpcBack_C w F r) [.code trellislaw26_RpcBack_c18, .code trellislaw26_RpcBack_c12] [(6, .bool x33)] [] [Sm w.heap.size F w [], St w []] := by
        intro x33 h
        unfold trellislaw26_RpcBack_j1 at h
        refine g_retR (c := trellislaw26_RpcBack_c18) [.bool x33] rfl Tryd.func4 rfl (.tmp rfl (.nil)) fun wr hLr => ?_
        have hMr : B.Loc w wr [] [St w []] := hLr.pick (rest := []) (perm_of_idx [] [] rfl rfl (by kernel_rfl)) (sels [1] rfl)
        have hMi : ∀ e ∈ ([] : List Ent), e ∈ ([] : List Ent) := sels [] rfl
        show trellislaw26_RpcBack_R w F  r (.returned (packV [.bool x33])) wr
        rw [h]
        exact ⟨rfl, hMr⟩
      refine g_region (c := trellislaw26_RpcBack_c17) rfl rfl ?_
      refine wl_v 0 rfl (v_move rfl) gn rfl ?_
      refine wl_v 1 rfl (v_bin rfl rfl rfl) gn rfl ?_
      refine wl_v 2 rfl (v_move rfl) gn rfl ?_
      by_cases hp34 : r20.2 = 262
      · have h := if_pos' hp34 h
        refine w_bool 27 rfl ((eqi hp34)) ?_
        refine wl_v 3 rfl (v_move rfl) (gy 27 rfl rfl) rfl ?_
        refine wl_v 4 rfl (v_lenQ un_22 rfl (Ow.weak hL18.env.size h25).hq) (gy 27 rfl rfl) rfl ?_
        refine wl_v 5 rfl (v_bin rfl rfl rfl) (gy 27 rfl rfl) rfl ?_
        refine wl_v 6 rfl (v_pick (b := true) rfl rfl) gn rfl ?_
        refine wl_v 7 rfl (v_assign rfl) gn rfl ?_
        refine w_end 8 rfl ?_
        exact g_go [0, 1] (j1 ((r20.1.length : Int) == 0) h) ⟨rfl, trivial⟩ (.cons _ (.slnil)) rfl
      · have h := if_neg' hp34 h
        refine w_bool 27 rfl ((nei hp34)) ?_
        refine wl_pass 3 rfl (ps 27 rfl rfl rfl) ?_
        refine wl_pass 4 rfl (ps 27 rfl rfl rfl) ?_
        refine wl_pass 5 rfl (ps 27 rfl rfl rfl) ?_
        refine wl_v 6 rfl (v_pick (b := false) rfl rfl) gn rfl ?_
        refine wl_v 7 rfl (v_assign rfl) gn rfl ?_
        refine w_end 8 rfl ?_
        exact g_go [0, 1] (j1 false h) ⟨rfl, trivial⟩ (.cons _ (.slnil)) rfl
    · have h := if_neg' hp30 h
      refine g_false (c := trellislaw26_RpcBack_c14) rfl _ rfl ((decide_eq_false hp30)) ?_
      refine g_skip (c := trellislaw26_RpcBack_c16) rfl ?_
      refine g_seq (c := trellislaw26_RpcBack_c12) rfl ?_
      refine g_seq (c := trellislaw26_RpcBack_c19) rfl ?_
      refine g_region (c := trellislaw26_RpcBack_c21) rfl rfl ?_
      refine wl_v 0 rfl (v_move rfl) gn rfl ?_
      refine wl_v 1 rfl (v_bin rfl rfl rfl) gn rfl ?_
      refine w_end 2 rfl ?_
      by_cases hp35 : r20.2 = 0
      · have h := if_pos' hp35 h
        refine g_false (c := trellislaw26_RpcBack_c22) rfl _ rfl ((eqib hp35)) ?_
        refine g_skip (c := trellislaw26_RpcBack_c24) rfl ?_
        refine g_seq (c := trellislaw26_RpcBack_c20) rfl ?_
        refine g_region (c := trellislaw26_RpcBack_c25) rfl rfl ?_
        refine wl_v 0 rfl (v_assign rfl) gn rfl ?_
        refine w_end 1 rfl ?_
        refine g_seq (c := trellislaw26_RpcBack_c26) rfl ?_
        refine g_seq (c := trellislaw26_RpcBack_c27) rfl ?_
        refine g_region (c := trellislaw26_RpcBack_c29) rfl rfl ?_
        refine wl_v 0 rfl (v_assign rfl) gn rfl ?_
        refine w_end 1 rfl ?_
        refine g_block (c := trellislaw26_RpcBack_c30) rfl ?_
        refine g_loop (c := trellislaw26_RpcBack_c31) rfl ?_
        have key2 : ∀ s, Rounds (fun (s : (List Int) × Int) o => trellislaw26_RpcBack_b2 r20 x2 x1 x7 s.1 s.2 o) s r → (fun (s : (List Int) × Int) => ∀ (A199 : Option Addr) (n200 : Nat) (c201 : Nat) (h202 : Ow w.heap.size A199 n200 c201 s.1), G (trellislaw26_RpcBack_C w F r) [.code trellislaw26_RpcBack_c32, .inLoop trellislaw26_RpcBack_c32, .inBlock 0, .code trellislaw26_RpcBack_c28] [(0, .string x1), (1, .slice A3 n4 c5), (2, .int .i64 x7), (7, .slice A22 n23 c24), (9, .slice A199 n200 c201), (10, .int .i64 s.2)] [.own (.slice A199 n200 c201) 5 1 n200 (s.1.flatMap (eI .u8)), .own (.slice A22 n23 c24) 5 1 n23 (r20.1.flatMap (eI .u8))] [Sm w.heap.size F w [], St w []]) s := by
          intro s hs
          refine Rounds.ind (mot := (fun (s : (List Int) × Int) => ∀ (A199 : Option Addr) (n200 : Nat) (c201 : Nat) (h202 : Ow w.heap.size A199 n200 c201 s.1), G (trellislaw26_RpcBack_C w F r) [.code trellislaw26_RpcBack_c32, .inLoop trellislaw26_RpcBack_c32, .inBlock 0, .code trellislaw26_RpcBack_c28] [(0, .string x1), (1, .slice A3 n4 c5), (2, .int .i64 x7), (7, .slice A22 n23 c24), (9, .slice A199 n200 c201), (10, .int .i64 s.2)] [.own (.slice A199 n200 c201) 5 1 n200 (s.1.flatMap (eI .u8)), .own (.slice A22 n23 c24) 5 1 n23 (r20.1.flatMap (eI .u8))] [Sm w.heap.size F w [], St w []])) ?_ hs
          clear hs s
          intro s o1 h hO1
          obtain ⟨x198, x203⟩ := s
          show ∀ (A199 : Option Addr) (n200 : Nat) (c201 : Nat) (h202 : Ow w.heap.size A199 n200 c201 x198), G (trellislaw26_RpcBack_C w F r) [.code trellislaw26_RpcBack_c32, .inLoop trellislaw26_RpcBack_c32, .inBlock 0, .code trellislaw26_RpcBack_c28] [(0, .string x1), (1, .slice A3 n4 c5), (2, .int .i64 x7), (7, .slice A22 n23 c24), (9, .slice A199 n200 c201), (10, .int .i64 x203)] [.own (.slice A199 n200 c201) 5 1 n200 (x198.flatMap (eI .u8)), .own (.slice A22 n23 c24) 5 1 n23 (r20.1.flatMap (eI .u8))] [Sm w.heap.size F w [], St w []]
          intro A199 n200 c201 h202
          have h : trellislaw26_RpcBack_b2 r20 x2 x1 x7 x198 x203 o1 := h
          unfold trellislaw26_RpcBack_b2 at h
          refine g_seq (c := trellislaw26_RpcBack_c32) rfl ?_
          refine g_seq (c := trellislaw26_RpcBack_c33) rfl ?_
          refine g_region (c := trellislaw26_RpcBack_c35) rfl rfl ?_
          refine wl_v 0 rfl (v_move rfl) gn rfl ?_
          refine wl_v 1 rfl (v_move rfl) gn rfl ?_
          refine wl_v 2 rfl (v_lenQ un_22 rfl (Ow.weak hL18.env.size h25).hq) gn rfl ?_
          refine wl_v 3 rfl (v_bin rfl rfl rfl) gn rfl ?_
          refine w_end 4 rfl ?_
          by_cases hp363 : x203 < (r20.1.length : Int)
          · have h := if_pos' hp363 h
            refine g_true (c := trellislaw26_RpcBack_c36) rfl _ rfl ((decide_eq_true hp363)) ?_
            refine g_skip (c := trellislaw26_RpcBack_c37) rfl ?_
            refine g_seq (c := trellislaw26_RpcBack_c34) rfl ?_
            refine g_block (c := trellislaw26_RpcBack_c39) rfl ?_
            refine g_region (c := trellislaw26_RpcBack_c41) rfl rfl ?_
            refine wl_v 0 rfl (v_move rfl) gn rfl ?_
            refine wl_v 1 rfl (v_move rfl) gn rfl ?_
            refine wl_v 2 rfl (v_move rfl) gn rfl ?_
            obtain ⟨hb364, h⟩ := h
            refine wl_v 3 rfl (v_idxO slE_22 rfl rfl (Ow.weak hL18.env.size h25) hb364) gn rfl ?_
            refine wl_v 4 rfl (v_ldO1 (.int .u8 (ix r20.1 x203)) 1 ld_5 rfl rfl (fm_get0 (hlI .u8) hb364 rfl)) gn rfl ?_
            refine wl_s 5 rfl (s_litO (xs := ([ix r20.1 x203] : List Int)) [.int .u8 (ix r20.1 x203)] bs_22_1 rfl (by kernel_rfl) rfl rfl rfl rfl fun gb366 h367 => ?_) gn
            obtain ⟨x371, hv372, h⟩ := h
            obtain ⟨hb373, h⟩ := h
            refine wl_s 6 rfl (s_app (zs := x371) (cells' := x371.flatMap (eI .u8)) 1 ap_22 rfl rfl rfl h202 (Nat.le_refl _) (Src.ownF (hl := (hlI .u8)) (h1 := (hone_int .u8)) 0 rfl h367) (by rw [hv372, List.flatMap_append] <;> rfl) (app_len hv372 h367.hq) hb373 rfl rfl fun A368 c369 h370 => ?_) gn
            refine wl_v 7 rfl (v_assign rfl) gn rfl ?_
            refine w_end 8 rfl ?_
            refine g_inBlock ?_
            refine g_region (c := trellislaw26_RpcBack_c40) rfl rfl ?_
            refine wl_v 0 rfl (v_move rfl) gn rfl ?_
            refine wl_v 1 rfl (v_bin rfl rfl rfl) gn rfl ?_
            refine wl_v 2 rfl (v_assign rfl) gn rfl ?_
            refine w_end 3 rfl ?_
            refine g_inLoop ?_
            have ih := Out.inl hO1 h
            exact g_go [0, 1] (ih A368 (n200 + 1) c369 h370) ⟨rfl, rfl, rfl, rfl, rfl, rfl, trivial⟩ (.cons _ (.cons_cons _ (.cons_cons _ (.slnil)))) rfl
          · have h := if_neg' hp363 h
            refine g_false (c := trellislaw26_RpcBack_c36) rfl _ rfl ((decide_eq_false hp363)) ?_
            refine g_exit (c := trellislaw26_RpcBack_c38) [.code trellislaw26_RpcBack_c28] rfl rfl ?_
            refine g_seq (c := trellislaw26_RpcBack_c28) rfl ?_
            refine g_seq (c := trellislaw26_RpcBack_c42) rfl ?_
            refine g_region (c := trellislaw26_RpcBack_c44) rfl rfl ?_
            refine wl_v 0 rfl (v_assign rfl) gn rfl ?_
            refine w_end 1 rfl ?_
            refine g_block (c := trellislaw26_RpcBack_c45) rfl ?_
            refine g_loop (c := trellislaw26_RpcBack_c46) rfl ?_
            have key3 : ∀ s, Rounds (fun (s : (List Int) × Int) o => trellislaw26_RpcBack_b3 x2 x1 x7 r20 s.1 s.2 o) s o1 → (fun (s : (List Int) × Int) => ∀ (A423 : Option Addr) (n424 : Nat) (c425 : Nat) (h426 : Ow w.heap.size A423 n424 c425 s.1), G (trellislaw26_RpcBack_C w F r) [.code trellislaw26_RpcBack_c47, .inLoop trellislaw26_RpcBack_c47, .inBlock 2, .code trellislaw26_RpcBack_c43] [(0, .string x1), (1, .slice A3 n4 c5), (2, .int .i64 x7), (7, .slice A22 n23 c24), (9, .slice A423 n424 c425), (11, .int .i64 s.2)] [.own (.slice A423 n424 c425) 5 1 n424 (s.1.flatMap (eI .u8)), .own (.slice A22 n23 c24) 5 1 n23 (r20.1.flatMap (eI .u8))] [Sm w.heap.size F w [], St w []]) s := by
              intro s hs
              refine Rounds.ind (mot := (fun (s : (List Int) × Int) => ∀ (A423 : Option Addr) (n424 : Nat) (c425 : Nat) (h426 : Ow w.heap.size A423 n424 c425 s.1), G (trellislaw26_RpcBack_C w F r) [.code trellislaw26_RpcBack_c47, .inLoop trellislaw26_RpcBack_c47, .inBlock 2, .code trellislaw26_RpcBack_c43] [(0, .string x1), (1, .slice A3 n4 c5), (2, .int .i64 x7), (7, .slice A22 n23 c24), (9, .slice A423 n424 c425), (11, .int .i64 s.2)] [.own (.slice A423 n424 c425) 5 1 n424 (s.1.flatMap (eI .u8)), .own (.slice A22 n23 c24) 5 1 n23 (r20.1.flatMap (eI .u8))] [Sm w.heap.size F w [], St w []])) ?_ hs
              clear hs s
              intro s o2 h hO2
              obtain ⟨x422, x427⟩ := s
              show ∀ (A423 : Option Addr) (n424 : Nat) (c425 : Nat) (h426 : Ow w.heap.size A423 n424 c425 x422), G (trellislaw26_RpcBack_C w F r) [.code trellislaw26_RpcBack_c47, .inLoop trellislaw26_RpcBack_c47, .inBlock 2, .code trellislaw26_RpcBack_c43] [(0, .string x1), (1, .slice A3 n4 c5), (2, .int .i64 x7), (7, .slice A22 n23 c24), (9, .slice A423 n424 c425), (11, .int .i64 x427)] [.own (.slice A423 n424 c425) 5 1 n424 (x422.flatMap (eI .u8)), .own (.slice A22 n23 c24) 5 1 n23 (r20.1.flatMap (eI .u8))] [Sm w.heap.size F w [], St w []]
              intro A423 n424 c425 h426
              have h : trellislaw26_RpcBack_b3 x2 x1 x7 r20 x422 x427 o2 := h
              unfold trellislaw26_RpcBack_b3 at h
              refine g_seq (c := trellislaw26_RpcBack_c47) rfl ?_
              refine g_seq (c := trellislaw26_RpcBack_c48) rfl ?_
              refine g_region (c := trellislaw26_RpcBack_c50) rfl rfl ?_
              refine wl_v 0 rfl (v_move rfl) gn rfl ?_
              refine wl_v 1 rfl (v_move rfl) gn rfl ?_
              refine wl_v 2 rfl (v_lenQ un_22 rfl h6.hq) gn rfl ?_
              refine wl_v 3 rfl (v_bin rfl rfl rfl) gn rfl ?_
              refine w_end 4 rfl ?_
              by_cases hp475 : x427 < (x2.length : Int)
              · have h := if_pos' hp475 h
                refine g_true (c := trellislaw26_RpcBack_c51) rfl _ rfl ((decide_eq_true hp475)) ?_
                refine g_skip (c := trellislaw26_RpcBack_c52) rfl ?_
                refine g_seq (c := trellislaw26_RpcBack_c49) rfl ?_
                refine g_block (c := trellislaw26_RpcBack_c54) rfl ?_
                refine g_region (c := trellislaw26_RpcBack_c56) rfl rfl ?_
                refine wl_v 0 rfl (v_move rfl) gn rfl ?_
                refine wl_v 1 rfl (v_move rfl) gn rfl ?_
                refine wl_v 2 rfl (v_move rfl) gn rfl ?_
                obtain ⟨hb476, h⟩ := h
                have hr477 := Rw.readF (s := St w []) (hl := (hlI .u8)) (h1 := (hone_int .u8)) h6 hb476
                refine wl_v 3 rfl (v_idxR (s := St w []) slE_22 rfl rfl h6 hb476) gn rfl ?_
                refine wl_v 4 rfl (v_ldA1 (kk := (x427 : Int).toNat * 1) (j := 0) (St w []) ld_5 rfl hr477 rfl (me 1 rfl)) gn rfl ?_
                refine wl_s 5 rfl (s_litO (xs := ([ix x2 x427] : List Int)) [.int .u8 (ix x2 x427)] bs_22_1 rfl (by kernel_rfl) rfl rfl rfl rfl fun gb479 h480 => ?_) gn
                obtain ⟨x484, hv485, h⟩ := h
                obtain ⟨hb486, h⟩ := h
                refine wl_s 6 rfl (s_app (zs := x484) (cells' := x484.flatMap (eI .u8)) 1 ap_22 rfl rfl rfl h426 (Nat.le_refl _) (Src.ownF (hl := (hlI .u8)) (h1 := (hone_int .u8)) 0 rfl h480) (by rw [hv485, List.flatMap_append] <;> rfl) (app_len hv485 h480.hq) hb486 rfl rfl fun A481 c482 h483 => ?_) gn
                refine wl_v 7 rfl (v_assign rfl) gn rfl ?_
                refine w_end 8 rfl ?_
                refine g_inBlock ?_
                refine g_region (c := trellislaw26_RpcBack_c55) rfl rfl ?_
                refine wl_v 0 rfl (v_move rfl) gn rfl ?_
                refine wl_v 1 rfl (v_bin rfl rfl rfl) gn rfl ?_
                refine wl_v 2 rfl (v_assign rfl) gn rfl ?_
                refine w_end 3 rfl ?_
                refine g_inLoop ?_
                have ih := Out.inl hO2 h
                exact g_go [0, 1] (ih A481 (n424 + 1) c482 h483) ⟨rfl, rfl, rfl, rfl, rfl, rfl, trivial⟩ (.cons _ (.cons_cons _ (.cons_cons _ (.slnil)))) rfl
              · have h := if_neg' hp475 h
                refine g_false (c := trellislaw26_RpcBack_c51) rfl _ rfl ((decide_eq_false hp475)) ?_
                refine g_exit (c := trellislaw26_RpcBack_c53) [.code trellislaw26_RpcBack_c43] rfl rfl ?_
                refine g_seq (c := trellislaw26_RpcBack_c43) rfl ?_
                refine g_region (c := trellislaw26_RpcBack_c57) rfl rfl ?_
                refine wl_v 0 rfl (v_move rfl) gn rfl ?_
                obtain ⟨r490, hv491, h⟩ := h
                refine wl_s 1 rfl (s_call [.slice A423 n424 c425] rfl Tryd.func12 rfl rfl rfl fun w487 hL488 => ?_) gn
                have hp489 : List.Perm ([.own (.slice A423 n424 c425) 5 1 n424 (x422.flatMap (eI .u8)), .own (.slice A22 n23 c24) 5 1 n23 (r20.1.flatMap (eI .u8))] : List Ent) (([] : List Ent) ++ ([.own (.slice A423 n424 c425) 5 1 n424 (x422.flatMap (eI .u8)), .own (.slice A22 n23 c24) 5 1 n23 (r20.1.flatMap (eI .u8))] : List Ent)) := perm_of_idx [] [0, 1] rfl rfl (by kernel_rfl)
                refine Calls.mono (rpc_Take_calls w487 (Fl ([] : List Snap)) x422 A423 n424 c425 (hL488.argO (dk := (kInt .u8)) hp489 [] rfl 0 rfl rfl h426 (me 0 rfl) (Cells.flat _)) (hL488.hFl (Sl := ([] : List Snap)) hp489 (sels [] rfl)) (hL488.into hp489 (Fl ([] : List Snap))) r490 hv491) ?_
                rintro _ w492 ⟨rfl, hM493⟩
                have hL494 := hL488.call hp489 hM493
                refine ⟨_, _, _, rfl, hL494, ?_⟩
                refine wl_v 2 rfl (v_move rfl) gn rfl ?_
                refine wl_v 3 rfl (v_extract rfl rfl) gn rfl ?_
                refine wl_v 4 rfl (v_extract rfl rfl) gn rfl ?_
                refine wl_v 5 rfl (v_extract rfl rfl) gn rfl ?_
                refine wl_v 6 rfl (v_assign rfl) gn rfl ?_
                refine wl_v 7 rfl (v_assign rfl) gn rfl ?_
                refine wl_v 8 rfl (v_assign rfl) gn rfl ?_
                refine w_end 9 rfl ?_
                refine g_seq (c := trellislaw26_RpcBack_c58) rfl ?_
                refine g_seq (c := trellislaw26_RpcBack_c59) rfl ?_
                have j4 : ∀ (x498 : Bool) (h : trellislaw26_RpcBack_j4 x7 r20 x498 o2) , G (trellislaw26_RpcBack_C w F r) [.code trellislaw26_RpcBack_c62, .code trellislaw26_RpcBack_c60] [(2, .int .i64 x7), (7, .slice A22 n23 c24), (78, .bool x498)] [.own (.slice A22 n23 c24) 5 1 n23 (r20.1.flatMap (eI .u8))] [Sm w.heap.size F w [], St w []] := by
                  intro x498 h
                  unfold trellislaw26_RpcBack_j4 at h
                  by_cases hp499 : x498 = true
                  · have h := if_pos' hp499 h
                    refine g_true (c := trellislaw26_RpcBack_c62) rfl _ rfl (hp499) ?_
                    refine g_seq (c := trellislaw26_RpcBack_c63) rfl ?_
                    refine g_region (c := trellislaw26_RpcBack_c65) rfl rfl ?_
                    refine wl_v 0 rfl (v_assign rfl) gn rfl ?_
                    refine w_end 1 rfl ?_
                    have h := Out.inr hO2 h
                    have h := Out.inr hO1 h
                    refine g_retR (c := trellislaw26_RpcBack_c66) [.bool false] rfl Tryd.func4 rfl (.tmp rfl (.nil)) fun wr hLr => ?_
                    have hMr : B.Loc w wr [] [St w []] := hLr.pick (rest := [.own (.slice A22 n23 c24) 5 1 n23 (r20.1.flatMap (eI .u8))]) (perm_of_idx [] [0] rfl rfl (by kernel_rfl)) (sels [1] rfl)
                    have hMi : ∀ e ∈ ([] : List Ent), e ∈ ([.own (.slice A22 n23 c24) 5 1 n23 (r20.1.flatMap (eI .u8))] : List Ent) := sels [] rfl
                    show trellislaw26_RpcBack_R w F  r (.returned (packV [.bool false])) wr
                    rw [h]
                    exact ⟨rfl, hMr⟩
                  · have h := if_neg' hp499 h
                    refine g_false (c := trellislaw26_RpcBack_c62) rfl _ rfl ((bf hp499)) ?_
                    refine g_skip (c := trellislaw26_RpcBack_c64) rfl ?_
                    refine g_seq (c := trellislaw26_RpcBack_c60) rfl ?_
                    refine g_seq (c := trellislaw26_RpcBack_c67) rfl ?_
                    have j5 : ∀ (x502 : Bool) (h : trellislaw26_RpcBack_j5 x7 r20 x502 o2) , G (trellislaw26_RpcBack_C w F r) [.code trellislaw26_RpcBack_c70, .code trellislaw26_RpcBack_c68] [(2, .int .i64 x7), (7, .slice A22 n23 c24), (86, .bool x502)] [.own (.slice A22 n23 c24) 5 1 n23 (r20.1.flatMap (eI .u8))] [Sm w.heap.size F w [], St w []] := by
                      intro x502 h
                      unfold trellislaw26_RpcBack_j5 at h
                      by_cases hp503 : x502 = true
                      · have h := if_pos' hp503 h
                        refine g_true (c := trellislaw26_RpcBack_c70) rfl _ rfl (hp503) ?_
                        refine g_seq (c := trellislaw26_RpcBack_c71) rfl ?_
                        refine g_region (c := trellislaw26_RpcBack_c73) rfl rfl ?_
                        refine wl_v 0 rfl (v_assign rfl) gn rfl ?_
                        refine w_end 1 rfl ?_
                        have h := Out.inr hO2 h
                        have h := Out.inr hO1 h
                        refine g_retR (c := trellislaw26_RpcBack_c74) [.bool true] rfl Tryd.func4 rfl (.tmp rfl (.nil)) fun wr hLr => ?_
                        have hMr : B.Loc w wr [] [St w []] := hLr.pick (rest := [.own (.slice A22 n23 c24) 5 1 n23 (r20.1.flatMap (eI .u8))]) (perm_of_idx [] [0] rfl rfl (by kernel_rfl)) (sels [1] rfl)
                        have hMi : ∀ e ∈ ([] : List Ent), e ∈ ([.own (.slice A22 n23 c24) 5 1 n23 (r20.1.flatMap (eI .u8))] : List Ent) := sels [] rfl
                        show trellislaw26_RpcBack_R w F  r (.returned (packV [.bool true])) wr
                        rw [h]
                        exact ⟨rfl, hMr⟩
                      · have h := if_neg' hp503 h
                        refine g_false (c := trellislaw26_RpcBack_c70) rfl _ rfl ((bf hp503)) ?_
                        refine g_skip (c := trellislaw26_RpcBack_c72) rfl ?_
                        refine g_seq (c := trellislaw26_RpcBack_c68) rfl ?_
                        refine g_region (c := trellislaw26_RpcBack_c75) rfl rfl ?_
                        refine wl_v 0 rfl (v_move rfl) gn rfl ?_
                        refine wl_v 1 rfl (v_move rfl) gn rfl ?_
                        obtain ⟨hb504, h⟩ := h
                        obtain ⟨x506, hv507, h⟩ := h
                        have hle505 : (x7 : Int).toNat ≤ n23 := by have q := hb504; have q1 := (Ow.weak hL18.env.size h25).hq; omega
                        have h508 : Ow w.heap.size A22 (x7 : Int).toNat c24 x506 := Ow.w (Ow.cut (Ow.weak hL18.env.size h25) hle505) (by rw [hv507])
                        refine wl_v 2 rfl (v_cutHi (i := x7) slE_22 rfl rfl (by have q := hb504; have q1 := (Ow.weak hL18.env.size h25).hq; have q2 := (Ow.weak hL18.env.size h25).hn; omega) (Ow.weak hL18.env.size h25).hn rfl) gn rfl ?_
                        obtain ⟨r512, hv513, h⟩ := h
                        refine wl_s 3 rfl (s_call [.slice A22 ((x7 : Int).toNat) c24] rfl Tryd.func12 rfl rfl rfl fun w509 hL510 => ?_) gn
                        have hp511 : List.Perm ([.own (.slice A22 n23 c24) 5 1 n23 (r20.1.flatMap (eI .u8))] : List Ent) (([] : List Ent) ++ ([.own (.slice A22 n23 c24) 5 1 n23 (r20.1.flatMap (eI .u8))] : List Ent)) := perm_of_idx [] [0] rfl rfl (by kernel_rfl)
                        refine Calls.mono (rpc_Take_calls w509 (Fl ([] : List Snap)) x506 A22 ((x7 : Int).toNat) c24 (Rw.w (hL510.argV (dk := (kInt .u8)) hp511 [] rfl 0 rfl rfl (Ow.weak hL18.env.size h25) (me 0 rfl) (Cells.flat _) (Vw.prefix hle505) (Nat.le_trans hle505 (Ow.weak hL18.env.size h25).hn) (Ow.weak hL18.env.size h25).hm) (by rw [hv507]; rfl)) (hL510.hFl (Sl := ([] : List Snap)) hp511 (sels [] rfl)) (hL510.into hp511 (Fl ([] : List Snap))) r512 hv513) ?_
                        rintro _ w514 ⟨rfl, hM515⟩
                        have hL516 := hL510.call hp511 hM515
                        refine ⟨_, _, _, rfl, hL516, ?_⟩
                        refine wl_v 4 rfl (v_move rfl) gn rfl ?_
                        refine wl_v 5 rfl (v_extract rfl rfl) gn rfl ?_
                        refine wl_v 6 rfl (v_extract rfl rfl) gn rfl ?_
                        refine wl_v 7 rfl (v_extract rfl rfl) gn rfl ?_
                        refine wl_v 8 rfl (v_assign rfl) gn rfl ?_
                        refine wl_v 9 rfl (v_assign rfl) gn rfl ?_
                        refine wl_v 10 rfl (v_assign rfl) gn rfl ?_
                        refine w_end 11 rfl ?_
                        refine g_seq (c := trellislaw26_RpcBack_c76) rfl ?_
                        refine g_region (c := trellislaw26_RpcBack_c77) rfl rfl ?_
                        refine wl_v 0 rfl (v_move rfl) gn rfl ?_
                        refine wl_v 1 rfl (v_bin rfl rfl rfl) gn rfl ?_
                        refine wl_v 2 rfl (v_move rfl) gn rfl ?_
                        by_cases hp517 : r512.2.2 = 260
                        · have h := if_pos' hp517 h
                          refine w_bool 97 rfl ((eqi hp517)) ?_
                          refine wl_v 3 rfl (v_move rfl) (gy 97 rfl rfl) rfl ?_
                          refine wl_v 4 rfl (v_eqS rfl rfl) (gy 97 rfl rfl) rfl ?_
                          refine wl_v 5 rfl (v_pick (b := true) rfl rfl) gn rfl ?_
                          refine wl_v 6 rfl (v_move rfl) gn rfl ?_
                          by_cases hp518 : r512.1 = (⟨#[]⟩ : ByteArray)
                          · have h := if_pos' hp518 h
                            refine w_bool 101 rfl ((seq_t hp518)) ?_
                            refine wl_v 7 rfl (v_move rfl) (gy 101 rfl rfl) rfl ?_
                            refine wl_v 8 rfl (v_bin rfl rfl rfl) (gy 101 rfl rfl) rfl ?_
                            refine wl_v 9 rfl (v_pick (b := true) rfl rfl) gn rfl ?_
                            refine wl_v 10 rfl (v_assign rfl) gn rfl ?_
                            refine w_end 11 rfl ?_
                            have h := Out.inr hO2 h
                            have h := Out.inr hO1 h
                            refine g_retR (c := trellislaw26_RpcBack_c78) [.bool (r512.2.1 == 0)] rfl Tryd.func4 rfl (.tmp rfl (.nil)) fun wr hLr => ?_
                            have hMr : B.Loc w wr [] [St w []] := hLr.pick (rest := [.own (.slice A22 n23 c24) 5 1 n23 (r20.1.flatMap (eI .u8))]) (perm_of_idx [] [0] rfl rfl (by kernel_rfl)) (sels [1] rfl)
                            have hMi : ∀ e ∈ ([] : List Ent), e ∈ ([.own (.slice A22 n23 c24) 5 1 n23 (r20.1.flatMap (eI .u8))] : List Ent) := sels [] rfl
                            show trellislaw26_RpcBack_R w F  r (.returned (packV [.bool (r512.2.1 == 0)])) wr
                            rw [h]
                            exact ⟨rfl, hMr⟩
                          · have h := if_neg' hp518 h
                            refine w_bool 101 rfl ((seq_f hp518)) ?_
                            refine wl_pass 7 rfl (ps 101 rfl rfl rfl) ?_
                            refine wl_pass 8 rfl (ps 101 rfl rfl rfl) ?_
                            refine wl_v 9 rfl (v_pick (b := false) rfl rfl) gn rfl ?_
                            refine wl_v 10 rfl (v_assign rfl) gn rfl ?_
                            refine w_end 11 rfl ?_
                            have h := Out.inr hO2 h
                            have h := Out.inr hO1 h
                            refine g_retR (c := trellislaw26_RpcBack_c78) [.bool false] rfl Tryd.func4 rfl (.tmp rfl (.nil)) fun wr hLr => ?_
                            have hMr : B.Loc w wr [] [St w []] := hLr.pick (rest := [.own (.slice A22 n23 c24) 5 1 n23 (r20.1.flatMap (eI .u8))]) (perm_of_idx [] [0] rfl rfl (by kernel_rfl)) (sels [1] rfl)
                            have hMi : ∀ e ∈ ([] : List Ent), e ∈ ([.own (.slice A22 n23 c24) 5 1 n23 (r20.1.flatMap (eI .u8))] : List Ent) := sels [] rfl
                            show trellislaw26_RpcBack_R w F  r (.returned (packV [.bool false])) wr
                            rw [h]
                            exact ⟨rfl, hMr⟩
                        · have h := if_neg' hp517 h
                          refine w_bool 97 rfl ((nei hp517)) ?_
                          refine wl_pass 3 rfl (ps 97 rfl rfl rfl) ?_
                          refine wl_pass 4 rfl (ps 97 rfl rfl rfl) ?_
                          refine wl_v 5 rfl (v_pick (b := false) rfl rfl) gn rfl ?_
                          refine wl_v 6 rfl (v_move rfl) gn rfl ?_
                          refine wl_pass 7 rfl (ps 101 rfl rfl rfl) ?_
                          refine wl_pass 8 rfl (ps 101 rfl rfl rfl) ?_
                          refine wl_v 9 rfl (v_pick (b := false) rfl rfl) gn rfl ?_
                          refine wl_v 10 rfl (v_assign rfl) gn rfl ?_
                          refine w_end 11 rfl ?_
                          have h := Out.inr hO2 h
                          have h := Out.inr hO1 h
                          refine g_retR (c := trellislaw26_RpcBack_c78) [.bool false] rfl Tryd.func4 rfl (.tmp rfl (.nil)) fun wr hLr => ?_
                          have hMr : B.Loc w wr [] [St w []] := hLr.pick (rest := [.own (.slice A22 n23 c24) 5 1 n23 (r20.1.flatMap (eI .u8))]) (perm_of_idx [] [0] rfl rfl (by kernel_rfl)) (sels [1] rfl)
                          have hMi : ∀ e ∈ ([] : List Ent), e ∈ ([.own (.slice A22 n23 c24) 5 1 n23 (r20.1.flatMap (eI .u8))] : List Ent) := sels [] rfl
                          show trellislaw26_RpcBack_R w F  r (.returned (packV [.bool false])) wr
                          rw [h]
                          exact ⟨rfl, hMr⟩
                    refine g_region (c := trellislaw26_RpcBack_c69) rfl rfl ?_
                    refine wl_v 0 rfl (v_move rfl) gn rfl ?_
                    refine wl_v 1 rfl (v_bin rfl rfl rfl) gn rfl ?_
                    refine wl_v 2 rfl (v_move rfl) gn rfl ?_
                    by_cases hp519 : x7 < 0
                    · have h := if_pos' hp519 h
                      refine w_bool 81 rfl ((decide_eq_true hp519)) ?_
                      refine wl_pass 3 rfl (ps 81 rfl rfl rfl) ?_
                      refine wl_pass 4 rfl (ps 81 rfl rfl rfl) ?_
                      refine wl_pass 5 rfl (ps 81 rfl rfl rfl) ?_
                      refine wl_pass 6 rfl (ps 81 rfl rfl rfl) ?_
                      refine wl_v 7 rfl (v_pick (b := true) rfl rfl) gn rfl ?_
                      refine w_end 8 rfl ?_
                      exact g_go [0, 1] (j5 true h) ⟨rfl, rfl, rfl, trivial⟩ (.cons_cons _ (.slnil)) rfl
                    · have h := if_neg' hp519 h
                      refine w_bool 81 rfl ((decide_eq_false hp519)) ?_
                      refine wl_v 3 rfl (v_move rfl) (gy 81 rfl rfl) rfl ?_
                      refine wl_v 4 rfl (v_move rfl) (gy 81 rfl rfl) rfl ?_
                      refine wl_v 5 rfl (v_lenQ un_22 rfl (Ow.weak hL18.env.size h25).hq) (gy 81 rfl rfl) rfl ?_
                      refine wl_v 6 rfl (v_bin rfl rfl rfl) (gy 81 rfl rfl) rfl ?_
                      refine wl_v 7 rfl (v_pick (b := false) rfl rfl) gn rfl ?_
                      refine w_end 8 rfl ?_
                      exact g_go [0, 1] (j5 (decide (x7 ≥ (r20.1.length : Int))) h) ⟨rfl, rfl, rfl, trivial⟩ (.cons_cons _ (.slnil)) rfl
                refine g_region (c := trellislaw26_RpcBack_c61) rfl rfl ?_
                refine wl_v 0 rfl (v_move rfl) gn rfl ?_
                refine wl_v 1 rfl (v_bin rfl rfl rfl) gn rfl ?_
                refine wl_v 2 rfl (v_move rfl) gn rfl ?_
                by_cases hp520 : r490.2.2 = 0
                · have h := if_pos' hp520 h
                  refine w_bool 68 rfl ((eqib hp520)) ?_
                  refine wl_v 3 rfl (v_move rfl) (gy 68 rfl rfl) rfl ?_
                  refine wl_v 4 rfl (v_move rfl) (gy 68 rfl rfl) rfl ?_
                  refine wl_v 5 rfl (v_neS rfl rfl) (gy 68 rfl rfl) rfl ?_
                  refine wl_v 6 rfl (v_pick (b := false) rfl rfl) gn rfl ?_
                  refine wl_v 7 rfl (v_move rfl) gn rfl ?_
                  by_cases hp521 : r490.1 = x1
                  · have h := if_pos' hp521 h
                    refine w_bool 73 rfl ((nf (seq_t hp521))) ?_
                    refine wl_v 8 rfl (v_move rfl) (gy 73 rfl rfl) rfl ?_
                    refine wl_v 9 rfl (v_move rfl) (gy 73 rfl rfl) rfl ?_
                    refine wl_v 10 rfl (v_lenQ un_22 rfl (Ow.weak hL18.env.size h25).hq) (gy 73 rfl rfl) rfl ?_
                    refine wl_v 11 rfl (v_bin rfl rfl rfl) (gy 73 rfl rfl) rfl ?_
                    refine wl_v 12 rfl (v_pick (b := false) rfl rfl) gn rfl ?_
                    refine w_end 13 rfl ?_
                    exact g_go [0, 1] (j4 (r490.2.1 != (r20.1.length : Int)) h) ⟨rfl, rfl, rfl, trivial⟩ (.cons _ (.cons_cons _ (.slnil))) rfl
                  · have h := if_neg' hp521 h
                    refine w_bool 73 rfl ((nt (seq_f hp521))) ?_
                    refine wl_pass 8 rfl (ps 73 rfl rfl rfl) ?_
                    refine wl_pass 9 rfl (ps 73 rfl rfl rfl) ?_
                    refine wl_pass 10 rfl (ps 73 rfl rfl rfl) ?_
                    refine wl_pass 11 rfl (ps 73 rfl rfl rfl) ?_
                    refine wl_v 12 rfl (v_pick (b := true) rfl rfl) gn rfl ?_
                    refine w_end 13 rfl ?_
                    exact g_go [0, 1] (j4 true h) ⟨rfl, rfl, rfl, trivial⟩ (.cons _ (.cons_cons _ (.slnil))) rfl
                · have h := if_neg' hp520 h
                  refine w_bool 68 rfl ((neib hp520)) ?_
                  refine wl_pass 3 rfl (ps 68 rfl rfl rfl) ?_
                  refine wl_pass 4 rfl (ps 68 rfl rfl rfl) ?_
                  refine wl_pass 5 rfl (ps 68 rfl rfl rfl) ?_
                  refine wl_v 6 rfl (v_pick (b := true) rfl rfl) gn rfl ?_
                  refine wl_v 7 rfl (v_move rfl) gn rfl ?_
                  refine wl_pass 8 rfl (ps 73 rfl rfl rfl) ?_
                  refine wl_pass 9 rfl (ps 73 rfl rfl rfl) ?_
                  refine wl_pass 10 rfl (ps 73 rfl rfl rfl) ?_
                  refine wl_pass 11 rfl (ps 73 rfl rfl rfl) ?_
                  refine wl_v 12 rfl (v_pick (b := true) rfl rfl) gn rfl ?_
                  refine w_end 13 rfl ?_
                  exact g_go [0, 1] (j4 true h) ⟨rfl, rfl, rfl, trivial⟩ (.cons _ (.cons_cons _ (.slnil))) rfl
            exact g_go [0, 1] (key3 _ h A199 n200 c201 h202) ⟨rfl, rfl, rfl, rfl, rfl, rfl, trivial⟩ (.cons_cons _ (.cons_cons _ (.slnil))) rfl
        refine g_nil 5 1 ?_
        exact g_go [0, 1] (key2 _ h none 0 0 (Ow.nil (z := w.heap.size))) ⟨rfl, rfl, rfl, rfl, rfl, rfl, trivial⟩ (.cons_cons _ (.cons_cons _ (.slnil))) rfl
      · have h := if_neg' hp35 h
        refine g_true (c := trellislaw26_RpcBack_c22) rfl _ rfl ((neib hp35)) ?_
        refine g_seq (c := trellislaw26_RpcBack_c23) rfl ?_
        refine g_region (c := trellislaw26_RpcBack_c79) rfl rfl ?_
        refine wl_v 0 rfl (v_assign rfl) gn rfl ?_
        refine w_end 1 rfl ?_
        refine g_retR (c := trellislaw26_RpcBack_c80) [.bool false] rfl Tryd.func4 rfl (.tmp rfl (.nil)) fun wr hLr => ?_
        have hMr : B.Loc w wr [] [St w []] := hLr.pick (rest := [.own (.slice A22 n23 c24) 5 1 n23 (r20.1.flatMap (eI .u8))]) (perm_of_idx [] [0] rfl rfl (by kernel_rfl)) (sels [1] rfl)
        have hMi : ∀ e ∈ ([] : List Ent), e ∈ ([.own (.slice A22 n23 c24) 5 1 n23 (r20.1.flatMap (eI .u8))] : List Ent) := sels [] rfl
        show trellislaw26_RpcBack_R w F  r (.returned (packV [.bool false])) wr
        rw [h]
        exact ⟨rfl, hMr⟩
  · have h := if_neg' hp16 h
    refine g_true (c := trellislaw26_RpcBack_c6) rfl _ rfl ((nt (bf hp16))) ?_
    refine g_seq (c := trellislaw26_RpcBack_c7) rfl ?_
    refine g_region (c := trellislaw26_RpcBack_c81) rfl rfl ?_
    refine wl_v 0 rfl (v_assign rfl) gn rfl ?_
    refine w_end 1 rfl ?_
    refine g_retR (c := trellislaw26_RpcBack_c82) [.bool false] rfl Tryd.func4 rfl (.tmp rfl (.nil)) fun wr hLr => ?_
    have hMr : B.Loc w wr [] [St w []] := hLr.pick (rest := []) (perm_of_idx [] [] rfl rfl (by kernel_rfl)) (sels [1] rfl)
    have hMi : ∀ e ∈ ([] : List Ent), e ∈ ([] : List Ent) := sels [] rfl
    show trellislaw26_RpcBack_R w F  r (.returned (packV [.bool false])) wr
    rw [h]
    exact ⟨rfl, hMr⟩
end Go.Proofs.YtbejkaeidnajkaaDoor.K
