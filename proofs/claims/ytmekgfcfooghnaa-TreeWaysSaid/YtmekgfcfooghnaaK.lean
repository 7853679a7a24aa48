/- What the machine's calls do, function by function, printed by my own tool. Condition of each: its relation holds of the answer, and what is handed in lies in memory as told. -/
import Derived.Test.YtmekgfcfooghnaaK3
set_option linter.unusedVariables false
set_option maxRecDepth 100000
set_option maxHeartbeats 4000000
namespace Go.Proofs.Ytmekgfcfooghnaa.K
open Go.Proofs.Ytmekgfcfooghnaa.B Go.Proofs.Ytmekgfcfooghnaa.R Go.RowKit
noncomputable abbrev trellislaw15_TreeWays_c0 : Code := bodyOf Try.f9
noncomputable abbrev trellislaw15_TreeWays_c1 : Code := Code.fst trellislaw15_TreeWays_c0
noncomputable abbrev trellislaw15_TreeWays_c2 : Code := Code.snd trellislaw15_TreeWays_c0
noncomputable abbrev trellislaw15_TreeWays_c3 : Code := Code.fst trellislaw15_TreeWays_c2
noncomputable abbrev trellislaw15_TreeWays_c4 : Code := Code.snd trellislaw15_TreeWays_c2
noncomputable abbrev trellislaw15_TreeWays_c5 : Code := Code.fst trellislaw15_TreeWays_c3
noncomputable abbrev trellislaw15_TreeWays_c6 : Code := Code.snd trellislaw15_TreeWays_c3
noncomputable abbrev trellislaw15_TreeWays_c7 : Code := Code.fst trellislaw15_TreeWays_c6
noncomputable abbrev trellislaw15_TreeWays_c8 : Code := Code.snd trellislaw15_TreeWays_c6
noncomputable abbrev trellislaw15_TreeWays_c9 : Code := Code.fst trellislaw15_TreeWays_c4
noncomputable abbrev trellislaw15_TreeWays_c10 : Code := Code.snd trellislaw15_TreeWays_c4
noncomputable abbrev trellislaw15_TreeWays_c11 : Code := Code.fst trellislaw15_TreeWays_c9
noncomputable abbrev trellislaw15_TreeWays_c12 : Code := Code.snd trellislaw15_TreeWays_c9
noncomputable abbrev trellislaw15_TreeWays_c13 : Code := Code.fst trellislaw15_TreeWays_c12
noncomputable abbrev trellislaw15_TreeWays_c14 : Code := Code.snd trellislaw15_TreeWays_c12
noncomputable abbrev trellislaw15_TreeWays_c15 : Code := Code.fst trellislaw15_TreeWays_c13
noncomputable abbrev trellislaw15_TreeWays_c16 : Code := Code.snd trellislaw15_TreeWays_c13
noncomputable abbrev trellislaw15_TreeWays_c17 : Code := Code.fst trellislaw15_TreeWays_c10
noncomputable abbrev trellislaw15_TreeWays_c18 : Code := Code.snd trellislaw15_TreeWays_c10
noncomputable abbrev trellislaw15_TreeWays_c19 : Code := Code.fst trellislaw15_TreeWays_c18
noncomputable abbrev trellislaw15_TreeWays_c20 : Code := Code.snd trellislaw15_TreeWays_c18
noncomputable abbrev trellislaw15_TreeWays_c21 : Code := Code.fst trellislaw15_TreeWays_c20
noncomputable abbrev trellislaw15_TreeWays_c22 : Code := Code.snd trellislaw15_TreeWays_c20
noncomputable abbrev trellislaw15_TreeWays_c23 : Code := Code.fst trellislaw15_TreeWays_c21
noncomputable abbrev trellislaw15_TreeWays_c24 : Code := Code.snd trellislaw15_TreeWays_c21
noncomputable abbrev trellislaw15_TreeWays_c25 : Code := Code.fst trellislaw15_TreeWays_c24
noncomputable abbrev trellislaw15_TreeWays_c26 : Code := Code.snd trellislaw15_TreeWays_c24
noncomputable abbrev trellislaw15_TreeWays_c27 : Code := Code.fst trellislaw15_TreeWays_c22
noncomputable abbrev trellislaw15_TreeWays_c28 : Code := Code.snd trellislaw15_TreeWays_c22
noncomputable abbrev trellislaw15_TreeWays_c29 : Code := Code.fst trellislaw15_TreeWays_c27
noncomputable abbrev trellislaw15_TreeWays_c30 : Code := Code.snd trellislaw15_TreeWays_c27
noncomputable abbrev trellislaw15_TreeWays_c31 : Code := Code.fst trellislaw15_TreeWays_c30
noncomputable abbrev trellislaw15_TreeWays_c32 : Code := Code.snd trellislaw15_TreeWays_c30
noncomputable abbrev trellislaw15_TreeWays_c33 : Code := Code.fst trellislaw15_TreeWays_c31
noncomputable abbrev trellislaw15_TreeWays_c34 : Code := Code.snd trellislaw15_TreeWays_c31
noncomputable abbrev trellislaw15_TreeWays_c35 : Code := Code.fst trellislaw15_TreeWays_c28
noncomputable abbrev trellislaw15_TreeWays_c36 : Code := Code.snd trellislaw15_TreeWays_c28
noncomputable abbrev trellislaw15_TreeWays_c37 : Code := Code.fst trellislaw15_TreeWays_c36
noncomputable abbrev trellislaw15_TreeWays_c38 : Code := Code.snd trellislaw15_TreeWays_c36
noncomputable abbrev trellislaw15_TreeWays_c39 : Code := Code.fst trellislaw15_TreeWays_c37
noncomputable abbrev trellislaw15_TreeWays_c40 : Code := Code.snd trellislaw15_TreeWays_c37
noncomputable abbrev trellislaw15_TreeWays_c41 : Code := Code.fst trellislaw15_TreeWays_c40
noncomputable abbrev trellislaw15_TreeWays_c42 : Code := Code.fst trellislaw15_TreeWays_c41
noncomputable abbrev trellislaw15_TreeWays_c43 : Code := Code.fst trellislaw15_TreeWays_c42
noncomputable abbrev trellislaw15_TreeWays_c44 : Code := Code.snd trellislaw15_TreeWays_c42
noncomputable abbrev trellislaw15_TreeWays_c45 : Code := Code.fst trellislaw15_TreeWays_c43
noncomputable abbrev trellislaw15_TreeWays_c46 : Code := Code.snd trellislaw15_TreeWays_c43
noncomputable abbrev trellislaw15_TreeWays_c47 : Code := Code.fst trellislaw15_TreeWays_c46
noncomputable abbrev trellislaw15_TreeWays_c48 : Code := Code.snd trellislaw15_TreeWays_c46
noncomputable abbrev trellislaw15_TreeWays_c49 : Code := Code.fst trellislaw15_TreeWays_c44
noncomputable abbrev trellislaw15_TreeWays_c50 : Code := Code.snd trellislaw15_TreeWays_c44
noncomputable abbrev trellislaw15_TreeWays_c51 : Code := Code.fst trellislaw15_TreeWays_c49
noncomputable abbrev trellislaw15_TreeWays_c52 : Code := Code.fst trellislaw15_TreeWays_c51
noncomputable abbrev trellislaw15_TreeWays_c53 : Code := Code.snd trellislaw15_TreeWays_c51
noncomputable abbrev trellislaw15_TreeWays_c54 : Code := Code.fst trellislaw15_TreeWays_c52
noncomputable abbrev trellislaw15_TreeWays_c55 : Code := Code.snd trellislaw15_TreeWays_c52
noncomputable abbrev trellislaw15_TreeWays_c56 : Code := Code.fst trellislaw15_TreeWays_c55
noncomputable abbrev trellislaw15_TreeWays_c57 : Code := Code.snd trellislaw15_TreeWays_c55
noncomputable abbrev trellislaw15_TreeWays_c58 : Code := Code.fst trellislaw15_TreeWays_c53
noncomputable abbrev trellislaw15_TreeWays_c59 : Code := Code.snd trellislaw15_TreeWays_c53
noncomputable abbrev trellislaw15_TreeWays_c60 : Code := Code.fst trellislaw15_TreeWays_c59
noncomputable abbrev trellislaw15_TreeWays_c61 : Code := Code.snd trellislaw15_TreeWays_c59
noncomputable abbrev trellislaw15_TreeWays_c62 : Code := Code.fst trellislaw15_TreeWays_c61
noncomputable abbrev trellislaw15_TreeWays_c63 : Code := Code.snd trellislaw15_TreeWays_c61
noncomputable abbrev trellislaw15_TreeWays_c64 : Code := Code.fst trellislaw15_TreeWays_c62
noncomputable abbrev trellislaw15_TreeWays_c65 : Code := Code.snd trellislaw15_TreeWays_c62
noncomputable abbrev trellislaw15_TreeWays_c66 : Code := Code.fst trellislaw15_TreeWays_c65
noncomputable abbrev trellislaw15_TreeWays_c67 : Code := Code.fst trellislaw15_TreeWays_c66
noncomputable abbrev trellislaw15_TreeWays_c68 : Code := Code.fst trellislaw15_TreeWays_c67
noncomputable abbrev trellislaw15_TreeWays_c69 : Code := Code.snd trellislaw15_TreeWays_c67
noncomputable abbrev trellislaw15_TreeWays_c70 : Code := Code.fst trellislaw15_TreeWays_c68
noncomputable abbrev trellislaw15_TreeWays_c71 : Code := Code.snd trellislaw15_TreeWays_c68
noncomputable abbrev trellislaw15_TreeWays_c72 : Code := Code.fst trellislaw15_TreeWays_c71
noncomputable abbrev trellislaw15_TreeWays_c73 : Code := Code.snd trellislaw15_TreeWays_c71
noncomputable abbrev trellislaw15_TreeWays_c74 : Code := Code.fst trellislaw15_TreeWays_c69
noncomputable abbrev trellislaw15_TreeWays_c75 : Code := Code.snd trellislaw15_TreeWays_c69
noncomputable abbrev trellislaw15_TreeWays_c76 : Code := Code.fst trellislaw15_TreeWays_c74
noncomputable abbrev trellislaw15_TreeWays_c77 : Code := Code.fst trellislaw15_TreeWays_c76
noncomputable abbrev trellislaw15_TreeWays_c78 : Code := Code.snd trellislaw15_TreeWays_c76
noncomputable abbrev trellislaw15_TreeWays_c79 : Code := Code.fst trellislaw15_TreeWays_c77
noncomputable abbrev trellislaw15_TreeWays_c80 : Code := Code.snd trellislaw15_TreeWays_c77
noncomputable abbrev trellislaw15_TreeWays_c81 : Code := Code.fst trellislaw15_TreeWays_c80
noncomputable abbrev trellislaw15_TreeWays_c82 : Code := Code.snd trellislaw15_TreeWays_c80
noncomputable abbrev trellislaw15_TreeWays_c83 : Code := Code.fst trellislaw15_TreeWays_c81
noncomputable abbrev trellislaw15_TreeWays_c84 : Code := Code.snd trellislaw15_TreeWays_c81
noncomputable abbrev trellislaw15_TreeWays_c85 : Code := Code.fst trellislaw15_TreeWays_c63
noncomputable abbrev trellislaw15_TreeWays_c86 : Code := Code.snd trellislaw15_TreeWays_c63
noncomputable abbrev trellislaw15_TreeWays_c87 : Code := Code.fst trellislaw15_TreeWays_c85
noncomputable abbrev trellislaw15_TreeWays_c88 : Code := Code.snd trellislaw15_TreeWays_c85
noncomputable abbrev trellislaw15_TreeWays_c89 : Code := Code.fst trellislaw15_TreeWays_c88
noncomputable abbrev trellislaw15_TreeWays_c90 : Code := Code.snd trellislaw15_TreeWays_c88
noncomputable abbrev trellislaw15_TreeWays_c91 : Code := Code.fst trellislaw15_TreeWays_c89
noncomputable abbrev trellislaw15_TreeWays_c92 : Code := Code.snd trellislaw15_TreeWays_c89
noncomputable abbrev trellislaw15_TreeWays_c93 : Code := Code.fst trellislaw15_TreeWays_c86
noncomputable abbrev trellislaw15_TreeWays_c94 : Code := Code.snd trellislaw15_TreeWays_c86
noncomputable abbrev trellislaw15_TreeWays_c95 : Code := Code.fst trellislaw15_TreeWays_c93
noncomputable abbrev trellislaw15_TreeWays_c96 : Code := Code.snd trellislaw15_TreeWays_c93
noncomputable abbrev trellislaw15_TreeWays_c97 : Code := Code.fst trellislaw15_TreeWays_c96
noncomputable abbrev trellislaw15_TreeWays_c98 : Code := Code.snd trellislaw15_TreeWays_c96
noncomputable abbrev trellislaw15_TreeWays_c99 : Code := Code.fst trellislaw15_TreeWays_c94
noncomputable abbrev trellislaw15_TreeWays_c100 : Code := Code.snd trellislaw15_TreeWays_c94
noncomputable abbrev trellislaw15_TreeWays_c101 : Code := Code.fst trellislaw15_TreeWays_c100
noncomputable abbrev trellislaw15_TreeWays_c102 : Code := Code.snd trellislaw15_TreeWays_c100
noncomputable abbrev trellislaw15_TreeWays_c103 : Code := Code.fst trellislaw15_TreeWays_c101
noncomputable abbrev trellislaw15_TreeWays_c104 : Code := Code.snd trellislaw15_TreeWays_c101
noncomputable abbrev trellislaw15_TreeWays_c105 : Code := Code.fst trellislaw15_TreeWays_c104
noncomputable abbrev trellislaw15_TreeWays_c106 : Code := Code.snd trellislaw15_TreeWays_c104
noncomputable abbrev trellislaw15_TreeWays_c107 : Code := Code.fst trellislaw15_TreeWays_c105
noncomputable abbrev trellislaw15_TreeWays_c108 : Code := Code.snd trellislaw15_TreeWays_c105
noncomputable abbrev trellislaw15_TreeWays_c109 : Code := Code.fst trellislaw15_TreeWays_c102
noncomputable abbrev trellislaw15_TreeWays_c110 : Code := Code.snd trellislaw15_TreeWays_c102
noncomputable abbrev trellislaw15_TreeWays_c111 : Code := Code.fst trellislaw15_TreeWays_c109
noncomputable abbrev trellislaw15_TreeWays_c112 : Code := Code.snd trellislaw15_TreeWays_c109
noncomputable abbrev trellislaw15_TreeWays_c113 : Code := Code.fst trellislaw15_TreeWays_c112
noncomputable abbrev trellislaw15_TreeWays_c114 : Code := Code.fst trellislaw15_TreeWays_c113
noncomputable abbrev trellislaw15_TreeWays_c115 : Code := Code.fst trellislaw15_TreeWays_c114
noncomputable abbrev trellislaw15_TreeWays_c116 : Code := Code.snd trellislaw15_TreeWays_c114
noncomputable abbrev trellislaw15_TreeWays_c117 : Code := Code.fst trellislaw15_TreeWays_c115
noncomputable abbrev trellislaw15_TreeWays_c118 : Code := Code.snd trellislaw15_TreeWays_c115
noncomputable abbrev trellislaw15_TreeWays_c119 : Code := Code.fst trellislaw15_TreeWays_c118
noncomputable abbrev trellislaw15_TreeWays_c120 : Code := Code.snd trellislaw15_TreeWays_c118
noncomputable abbrev trellislaw15_TreeWays_c121 : Code := Code.fst trellislaw15_TreeWays_c116
noncomputable abbrev trellislaw15_TreeWays_c122 : Code := Code.snd trellislaw15_TreeWays_c116
noncomputable abbrev trellislaw15_TreeWays_c123 : Code := Code.fst trellislaw15_TreeWays_c121
noncomputable abbrev trellislaw15_TreeWays_c124 : Code := Code.fst trellislaw15_TreeWays_c123
noncomputable abbrev trellislaw15_TreeWays_c125 : Code := Code.snd trellislaw15_TreeWays_c123
noncomputable abbrev trellislaw15_TreeWays_c126 : Code := Code.fst trellislaw15_TreeWays_c125
noncomputable abbrev trellislaw15_TreeWays_c127 : Code := Code.snd trellislaw15_TreeWays_c125
noncomputable abbrev trellislaw15_TreeWays_c128 : Code := Code.fst trellislaw15_TreeWays_c127
noncomputable abbrev trellislaw15_TreeWays_c129 : Code := Code.snd trellislaw15_TreeWays_c127
noncomputable abbrev trellislaw15_TreeWays_c130 : Code := Code.fst trellislaw15_TreeWays_c110
noncomputable abbrev trellislaw15_TreeWays_c131 : Code := Code.snd trellislaw15_TreeWays_c110
noncomputable abbrev trellislaw15_TreeWays_c132 : Code := Code.fst trellislaw15_TreeWays_c131
noncomputable abbrev trellislaw15_TreeWays_c133 : Code := Code.snd trellislaw15_TreeWays_c131
noncomputable abbrev trellislaw15_TreeWays_c134 : Code := Code.fst trellislaw15_TreeWays_c132
noncomputable abbrev trellislaw15_TreeWays_c135 : Code := Code.snd trellislaw15_TreeWays_c132
noncomputable abbrev trellislaw15_TreeWays_c136 : Code := Code.fst trellislaw15_TreeWays_c56
noncomputable abbrev trellislaw15_TreeWays_c137 : Code := Code.snd trellislaw15_TreeWays_c56
noncomputable abbrev trellislaw15_TreeWays_c138 : Code := Code.fst trellislaw15_TreeWays_c38
noncomputable abbrev trellislaw15_TreeWays_c139 : Code := Code.snd trellislaw15_TreeWays_c38
noncomputable abbrev trellislaw15_TreeWays_c140 : Code := Code.fst trellislaw15_TreeWays_c7
noncomputable abbrev trellislaw15_TreeWays_c141 : Code := Code.snd trellislaw15_TreeWays_c7
abbrev trellislaw15_TreeWays_R (w : World) (F : Nat → Prop) (r : Bool) : Ending → World → Prop := fun e w' => e = .returned (.bool r) ∧ B.Loc w w' [] [St w []]
noncomputable abbrev trellislaw15_TreeWays_C (w : World) (F : Nat → Prop) (r : Bool) : Cx := ⟨Try.prog, 9, Try.f9, 163, trellislaw15_TreeWays_R w F  r, w⟩
theorem trellislaw15_TreeWays_calls (w : World) (F : Nat → Prop) (x1 : List api_Node) (A2 : Option Addr) (n3 : Nat) (c4 : Nat) (h5 : Rw k_api_Node w (St w []).av A2 n3 c4 x1) (hF : ∀ b, F b → b < w.heap.size ∧ ∀ o ∈ ([] : List (List Nat)), b ∉ o) (hL0 : B.Loc w w [] [Sm w.heap.size F w [], St w []]) (r : Bool) (h : trellislaw15_TreeWays x1 r) : Calls Try.prog 9 #[.slice A2 n3 c4] w (trellislaw15_TreeWays_R w F  r) := by
  unfold trellislaw15_TreeWays at h
  refine calls_of_Loc (vs := [.slice A2 n3 c4]) 163 Try.func9 rfl Try.ntmps9 rfl hL0 ?_
  show G (trellislaw15_TreeWays_C w F r) _ _ _ _
  refine g_seq (c := trellislaw15_TreeWays_c0) rfl ?_
  refine g_region (c := trellislaw15_TreeWays_c1) rfl rfl ?_
  refine wl_v 0 rfl (v_assign rfl) gn rfl ?_
  refine w_end 1 rfl ?_
  refine g_seq (c := trellislaw15_TreeWays_c2) rfl ?_
  refine g_seq (c := trellislaw15_TreeWays_c3) rfl ?_
  refine g_region (c := trellislaw15_TreeWays_c5) rfl rfl ?_
  obtain ⟨r9, hv10, h⟩ := h
  refine wl_s 0 rfl (s_call [] rfl Try.func31 rfl rfl rfl fun w6 hL7 => ?_) gn
  have hp8 : List.Perm ([] : List Ent) (([] : List Ent) ++ ([] : List Ent)) := perm_of_idx [] [] rfl rfl (by kernel_rfl)
  refine Calls.mono (trellislaw15_alive_calls w6 (Fl ([] : List Snap)) (hL7.hFl (Sl := ([] : List Snap)) hp8 (sels [] rfl)) (hL7.into hp8 (Fl ([] : List Snap))) r9 hv10) ?_
  rintro _ w11 ⟨rfl, hM12⟩
  have hL13 := hL7.call hp8 hM12
  refine ⟨_, _, _, rfl, hL13, ?_⟩
  refine wl_v 1 rfl (v_not rfl) gn rfl ?_
  refine w_end 2 rfl ?_
  by_cases hp14 : r9 = true
  · have h := if_pos' hp14 h
    refine g_false (c := trellislaw15_TreeWays_c6) rfl _ rfl ((nf hp14)) ?_
    refine g_skip (c := trellislaw15_TreeWays_c8) rfl ?_
    refine g_seq (c := trellislaw15_TreeWays_c4) rfl ?_
    refine g_seq (c := trellislaw15_TreeWays_c9) rfl ?_
    refine g_region (c := trellislaw15_TreeWays_c11) rfl rfl ?_
    refine wl_v 0 rfl (v_move rfl) gn rfl ?_
    obtain ⟨r18, hv19, h⟩ := h
    refine wl_s 1 rfl (s_call [.slice A2 n3 c4] rfl Try.func10 rfl rfl rfl fun w15 hL16 => ?_) gn
    have hp17 : List.Perm ([] : List Ent) (([] : List Ent) ++ ([] : List Ent)) := perm_of_idx [] [] rfl rfl (by kernel_rfl)
    refine Calls.mono (trellisref15_Beyond_calls w15 (Fl ([] : List Snap)) x1 A2 n3 c4 (Rw.mono h5 (hL16.toSt hp17 (me 1 rfl))) (hL16.hFl (Sl := ([] : List Snap)) hp17 (sels [] rfl)) (hL16.into hp17 (Fl ([] : List Snap))) r18 hv19) ?_
    rintro _ w20 ⟨rfl, hM21⟩
    have hL22 := hL16.call hp17 hM21
    refine ⟨_, _, _, rfl, hL22, ?_⟩
    refine w_end 2 rfl ?_
    by_cases hp23 : r18 = true
    · have h := if_pos' hp23 h
      refine g_true (c := trellislaw15_TreeWays_c12) rfl _ rfl (hp23) ?_
      refine g_seq (c := trellislaw15_TreeWays_c13) rfl ?_
      refine g_region (c := trellislaw15_TreeWays_c15) rfl rfl ?_
      refine wl_v 0 rfl (v_assign rfl) gn rfl ?_
      refine w_end 1 rfl ?_
      refine g_retR (c := trellislaw15_TreeWays_c16) [.bool true] rfl Try.func9 rfl (.tmp rfl (.nil)) fun wr hLr => ?_
      have hMr : B.Loc w wr [] [St w []] := hLr.pick (rest := []) (perm_of_idx [] [] rfl rfl (by kernel_rfl)) (sels [1] rfl)
      have hMi : ∀ e ∈ ([] : List Ent), e ∈ ([] : List Ent) := sels [] rfl
      show trellislaw15_TreeWays_R w F  r (.returned (packV [.bool true])) wr
      rw [h]
      exact ⟨rfl, hMr⟩
    · have h := if_neg' hp23 h
      refine g_false (c := trellislaw15_TreeWays_c12) rfl _ rfl ((bf hp23)) ?_
      refine g_skip (c := trellislaw15_TreeWays_c14) rfl ?_
      refine g_seq (c := trellislaw15_TreeWays_c10) rfl ?_
      refine g_region (c := trellislaw15_TreeWays_c17) rfl rfl ?_
      refine wl_v 0 rfl (v_move rfl) gn rfl ?_
      obtain ⟨r27, hv28, h⟩ := h
      refine wl_s 1 rfl (s_call [.slice A2 n3 c4] rfl Try.func37 rfl rfl rfl fun w24 hL25 => ?_) gn
      have hp26 : List.Perm ([] : List Ent) (([] : List Ent) ++ ([] : List Ent)) := perm_of_idx [] [] rfl rfl (by kernel_rfl)
      refine Calls.mono (tree_Roots_calls w24 (Fl ([] : List Snap)) x1 A2 n3 c4 (Rw.mono h5 (hL25.toSt hp26 (me 1 rfl))) (hL25.hFl (Sl := ([] : List Snap)) hp26 (sels [] rfl)) (hL25.into hp26 (Fl ([] : List Snap))) r27 hv28) ?_
      rintro _ w29 ⟨rfl, hM30⟩
      have hL31 := hL25.call hp26 hM30
      refine ⟨_, _, _, rfl, hL31, ?_⟩
      refine wl_v 2 rfl (v_assign rfl) gn rfl ?_
      refine w_end 3 rfl ?_
      refine g_seq (c := trellislaw15_TreeWays_c18) rfl ?_
      refine g_region (c := trellislaw15_TreeWays_c19) rfl rfl ?_
      refine wl_v 0 rfl (v_move rfl) gn rfl ?_
      obtain ⟨r35, hv36, h⟩ := h
      refine wl_s 1 rfl (s_call [.slice A2 n3 c4] rfl Try.func12 rfl rfl rfl fun w32 hL33 => ?_) gn
      have hp34 : List.Perm ([] : List Ent) (([] : List Ent) ++ ([] : List Ent)) := perm_of_idx [] [] rfl rfl (by kernel_rfl)
      refine Calls.mono (tree_Walk_calls w32 (Fl ([] : List Snap)) x1 A2 n3 c4 (Rw.mono h5 (hL33.toSt hp34 (me 1 rfl))) (hL33.hFl (Sl := ([] : List Snap)) hp34 (sels [] rfl)) (hL33.into hp34 (Fl ([] : List Snap))) r35 hv36) ?_
      rintro _ w49 ⟨gb54, A37, n38, c39, A41, n42, c43, A45, n46, c47, rfl, hM50, h40, h44, h48⟩
      obtain ⟨sb53, hL51, hv52⟩ := hL33.callB (Sl := ([] : List Snap)) hp34 hM50 F (sels [] rfl) trivial
      have h40 : At k_api_Node (Sm w.heap.size F w49 sb53) A37 n38 c39 r35.stand.forest.nodes := Rw.mono h40 hv52
      have h44 : At (kInt .i64) (Sm w.heap.size F w49 sb53) A41 n42 c43 r35.stand.forest.parent := Rw.mono h44 hv52
      have h48 : At (kInt .i64) (Sm w.heap.size F w49 sb53) A45 n46 c47 r35.stand.forest.end_ := Rw.mono h48 hv52
      refine ⟨_, _, _, rfl, hL51, ?_⟩
      refine wl_v 2 rfl (v_assign rfl) gn rfl ?_
      refine w_end 3 rfl ?_
      refine g_seq (c := trellislaw15_TreeWays_c20) rfl ?_
      refine g_seq (c := trellislaw15_TreeWays_c21) rfl ?_
      refine g_region (c := trellislaw15_TreeWays_c23) rfl rfl ?_
      refine wl_v 0 rfl (v_move rfl) gn rfl ?_
      refine wl_v 1 rfl (v_eqNP un_26 rfl rfl) gn rfl ?_
      refine w_end 2 rfl ?_
      refine g_false (c := trellislaw15_TreeWays_c24) rfl _ rfl (rfl) ?_
      refine g_skip (c := trellislaw15_TreeWays_c26) rfl ?_
      refine g_seq (c := trellislaw15_TreeWays_c22) rfl ?_
      refine g_seq (c := trellislaw15_TreeWays_c27) rfl ?_
      have j1 : ∀ (x58 : Bool) (h : trellislaw15_TreeWays_j1 r35 r27 x1 x58 r) , G (trellislaw15_TreeWays_C w F r) [.code trellislaw15_TreeWays_c30, .code trellislaw15_TreeWays_c28] [(0, .slice A2 n3 c4), (3, .int .i64 r27), (4, .pointer (some ⟨gb54, 0, none⟩)), (28, .bool x58)] [.box gb54 36 [.slice A37 n38 c39, .slice A41 n42 c43, .slice A45 n46 c47, .bool r35.stand.forest.ok, .int .i64 r35.stand.at_]] [Sm w.heap.size F w49 sb53, Sm w.heap.size F w [], St w []] := by
        intro x58 h
        unfold trellislaw15_TreeWays_j1 at h
        by_cases hp59 : x58 = true
        · have h := if_pos' hp59 h
          refine g_true (c := trellislaw15_TreeWays_c30) rfl _ rfl (hp59) ?_
          refine g_seq (c := trellislaw15_TreeWays_c31) rfl ?_
          have j2 : ∀ (x153 : Bool) (h : trellislaw15_TreeWays_j2 x153 r) , G (trellislaw15_TreeWays_C w F r) [.code trellislaw15_TreeWays_c34, .code trellislaw15_TreeWays_c28] [(2, .bool x153)] [] [Sm w.heap.size F w49 sb53, Sm w.heap.size F w [], St w []] := by
            intro x153 h
            unfold trellislaw15_TreeWays_j2 at h
            refine g_retR (c := trellislaw15_TreeWays_c34) [.bool x153] rfl Try.func9 rfl (.tmp rfl (.nil)) fun wr hLr => ?_
            have hMr : B.Loc w wr [] [St w []] := hLr.pick (rest := []) (perm_of_idx [] [] rfl rfl (by kernel_rfl)) (sels [2] rfl)
            have hMi : ∀ e ∈ ([] : List Ent), e ∈ ([] : List Ent) := sels [] rfl
            show trellislaw15_TreeWays_R w F  r (.returned (packV [.bool x153])) wr
            rw [h]
            exact ⟨rfl, hMr⟩
          refine g_region (c := trellislaw15_TreeWays_c33) rfl rfl ?_
          refine wl_v 0 rfl (v_move rfl) gn rfl ?_
          refine wl_v 1 rfl (v_nilCheck rfl) gn rfl ?_
          refine wl_v 2 rfl (v_fldB fo_36_0 rfl) gn rfl ?_
          obtain ⟨r157, hv158, h⟩ := h
          refine wl_s 3 rfl (s_call [.pointer (some ⟨gb54, 0, none⟩)] rfl Try.func14 rfl rfl rfl fun w154 hL155 => ?_) gn
          have hp156 : List.Perm ([.box gb54 36 [.slice A37 n38 c39, .slice A41 n42 c43, .slice A45 n46 c47, .bool r35.stand.forest.ok, .int .i64 r35.stand.at_]] : List Ent) (([.box gb54 36 [.slice A37 n38 c39, .slice A41 n42 c43, .slice A45 n46 c47, .bool r35.stand.forest.ok, .int .i64 r35.stand.at_]] : List Ent) ++ ([] : List Ent)) := perm_of_idx [0] [] rfl rfl (by kernel_rfl)
          refine Calls.mono (tree_stand_Place_calls w154 (Fl ([Sm w.heap.size F w49 sb53] : List Snap)) r35.stand gb54 36 A37 n38 c39 A41 n42 c43 A45 n46 c47 (Rw.mono h40 (hL155.toFl (me 0 rfl) (me 0 rfl))) (Rw.mono h44 (hL155.toFl (me 0 rfl) (me 0 rfl))) (Rw.mono h48 (hL155.toFl (me 0 rfl) (me 0 rfl))) (hL155.hFl (Sl := ([Sm w.heap.size F w49 sb53] : List Snap)) hp156 (sels [0] rfl)) (hL155.into hp156 (Fl ([Sm w.heap.size F w49 sb53] : List Snap))) r157 hv158) ?_
          rintro _ w171 ⟨A159, n160, c161, A163, n164, c165, A167, n168, c169, rfl, hM172, h162, h166, h170⟩
          obtain ⟨sb175, hL173, hv174⟩ := hL155.callB (Sl := ([Sm w.heap.size F w49 sb53] : List Snap)) hp156 hM172 F (sels [0] rfl) ⟨Sm.ok, trivial⟩
          have h162 : At k_api_Node (Sm w.heap.size F w171 sb175) A159 n160 c161 r157.2.forest.nodes := Rw.mono h162 hv174
          have h166 : At (kInt .i64) (Sm w.heap.size F w171 sb175) A163 n164 c165 r157.2.forest.parent := Rw.mono h166 hv174
          have h170 : At (kInt .i64) (Sm w.heap.size F w171 sb175) A167 n168 c169 r157.2.forest.end_ := Rw.mono h170 hv174
          refine ⟨_, _, _, rfl, hL173, ?_⟩
          refine wl_v 4 rfl (v_bin rfl rfl rfl) gn rfl ?_
          refine wl_v 5 rfl (v_move rfl) gn rfl ?_
          by_cases hp176 : r157.1 = -1
          · have h := if_pos' hp176 h
            refine w_bool 34 rfl ((eqi hp176)) ?_
            refine wl_v 6 rfl (v_move rfl) (gy 34 rfl rfl) rfl ?_
            obtain ⟨r180, hv181, h⟩ := h
            refine wl_s 7 rfl (s_call [.pointer (some ⟨gb54, 0, none⟩)] rfl Try.func18 rfl rfl rfl fun w177 hL178 => ?_) (gy 34 rfl rfl)
            have hp179 : List.Perm ([.box gb54 36 [.slice A159 n160 c161, .slice A163 n164 c165, .slice A167 n168 c169, .bool r157.2.forest.ok, .int .i64 r157.2.at_]] : List Ent) (([.box gb54 36 [.slice A159 n160 c161, .slice A163 n164 c165, .slice A167 n168 c169, .bool r157.2.forest.ok, .int .i64 r157.2.at_]] : List Ent) ++ ([] : List Ent)) := perm_of_idx [0] [] rfl rfl (by kernel_rfl)
            refine Calls.mono (tree_Cursor_Down_calls w177 (Fl ([Sm w.heap.size F w171 sb175] : List Snap)) (⟨r157.2⟩ : tree_Cursor) gb54 36 A159 n160 c161 A163 n164 c165 A167 n168 c169 (Rw.mono h162 (hL178.toFl (me 0 rfl) (me 0 rfl))) (Rw.mono h166 (hL178.toFl (me 0 rfl) (me 0 rfl))) (Rw.mono h170 (hL178.toFl (me 0 rfl) (me 0 rfl))) (hL178.hFl (Sl := ([Sm w.heap.size F w171 sb175] : List Snap)) hp179 (sels [0] rfl)) (hL178.into hp179 (Fl ([Sm w.heap.size F w171 sb175] : List Snap))) r180 hv181) ?_
            rintro _ w194 ⟨A182, n183, c184, A186, n187, c188, A190, n191, c192, rfl, hM195, h185, h189, h193⟩
            obtain ⟨sb198, hL196, hv197⟩ := hL178.callB (Sl := ([Sm w.heap.size F w171 sb175] : List Snap)) hp179 hM195 F (sels [0] rfl) ⟨Sm.ok, trivial⟩
            have h185 : At k_api_Node (Sm w.heap.size F w194 sb198) A182 n183 c184 r180.2.stand.forest.nodes := Rw.mono h185 hv197
            have h189 : At (kInt .i64) (Sm w.heap.size F w194 sb198) A186 n187 c188 r180.2.stand.forest.parent := Rw.mono h189 hv197
            have h193 : At (kInt .i64) (Sm w.heap.size F w194 sb198) A190 n191 c192 r180.2.stand.forest.end_ := Rw.mono h193 hv197
            refine ⟨_, _, _, rfl, hL196, ?_⟩
            refine wl_v 8 rfl (v_not rfl) (gy 34 rfl rfl) rfl ?_
            refine wl_v 9 rfl (v_pick (b := true) rfl rfl) gn rfl ?_
            refine wl_v 10 rfl (v_move rfl) gn rfl ?_
            by_cases hp199 : r180.1 = true
            · have h := if_pos' hp199 h
              refine w_bool 39 rfl ((nf hp199)) ?_
              refine wl_pass 11 rfl (ps 39 rfl rfl rfl) ?_
              refine wl_pass 12 rfl (ps 39 rfl rfl rfl) ?_
              refine wl_pass 13 rfl (ps 39 rfl rfl rfl) ?_
              refine wl_v 14 rfl (v_pick (b := false) rfl rfl) gn rfl ?_
              refine wl_v 15 rfl (v_move rfl) gn rfl ?_
              refine wl_pass 16 rfl (ps 44 rfl rfl rfl) ?_
              refine wl_pass 17 rfl (ps 44 rfl rfl rfl) ?_
              refine wl_pass 18 rfl (ps 44 rfl rfl rfl) ?_
              refine wl_v 19 rfl (v_pick (b := false) rfl rfl) gn rfl ?_
              refine wl_v 20 rfl (v_move rfl) gn rfl ?_
              refine wl_pass 21 rfl (ps 49 rfl rfl rfl) ?_
              refine wl_pass 22 rfl (ps 49 rfl rfl rfl) ?_
              refine wl_pass 23 rfl (ps 49 rfl rfl rfl) ?_
              refine wl_pass 24 rfl (ps 49 rfl rfl rfl) ?_
              refine wl_pass 25 rfl (ps 49 rfl rfl rfl) ?_
              refine wl_pass 26 rfl (ps 49 rfl rfl rfl) ?_
              refine wl_v 27 rfl (v_pick (b := false) rfl rfl) gn rfl ?_
              refine wl_v 28 rfl (v_assign rfl) gn rfl ?_
              refine w_end 29 rfl ?_
              exact g_go [2, 3, 4] (j2 false h) ⟨rfl, trivial⟩ (.cons _ (.slnil)) rfl
            · have h := if_neg' hp199 h
              refine w_bool 39 rfl ((nt (bf hp199))) ?_
              refine wl_v 11 rfl (v_move rfl) (gy 39 rfl rfl) rfl ?_
              obtain ⟨r203, hv204, h⟩ := h
              refine wl_s 12 rfl (s_call [.pointer (some ⟨gb54, 0, none⟩)] rfl Try.func20 rfl rfl rfl fun w200 hL201 => ?_) (gy 39 rfl rfl)
              have hp202 : List.Perm ([.box gb54 36 [.slice A182 n183 c184, .slice A186 n187 c188, .slice A190 n191 c192, .bool r180.2.stand.forest.ok, .int .i64 r180.2.stand.at_]] : List Ent) (([.box gb54 36 [.slice A182 n183 c184, .slice A186 n187 c188, .slice A190 n191 c192, .bool r180.2.stand.forest.ok, .int .i64 r180.2.stand.at_]] : List Ent) ++ ([] : List Ent)) := perm_of_idx [0] [] rfl rfl (by kernel_rfl)
              refine Calls.mono (tree_Cursor_Next_calls w200 (Fl ([Sm w.heap.size F w194 sb198] : List Snap)) r180.2 gb54 36 A182 n183 c184 A186 n187 c188 A190 n191 c192 (Rw.mono h185 (hL201.toFl (me 0 rfl) (me 0 rfl))) (Rw.mono h189 (hL201.toFl (me 0 rfl) (me 0 rfl))) (Rw.mono h193 (hL201.toFl (me 0 rfl) (me 0 rfl))) (hL201.hFl (Sl := ([Sm w.heap.size F w194 sb198] : List Snap)) hp202 (sels [0] rfl)) (hL201.into hp202 (Fl ([Sm w.heap.size F w194 sb198] : List Snap))) r203 hv204) ?_
              rintro _ w217 ⟨A205, n206, c207, A209, n210, c211, A213, n214, c215, rfl, hM218, h208, h212, h216⟩
              obtain ⟨sb221, hL219, hv220⟩ := hL201.callB (Sl := ([Sm w.heap.size F w194 sb198] : List Snap)) hp202 hM218 F (sels [0] rfl) ⟨Sm.ok, trivial⟩
              have h208 : At k_api_Node (Sm w.heap.size F w217 sb221) A205 n206 c207 r203.2.stand.forest.nodes := Rw.mono h208 hv220
              have h212 : At (kInt .i64) (Sm w.heap.size F w217 sb221) A209 n210 c211 r203.2.stand.forest.parent := Rw.mono h212 hv220
              have h216 : At (kInt .i64) (Sm w.heap.size F w217 sb221) A213 n214 c215 r203.2.stand.forest.end_ := Rw.mono h216 hv220
              refine ⟨_, _, _, rfl, hL219, ?_⟩
              refine wl_v 13 rfl (v_not rfl) (gy 39 rfl rfl) rfl ?_
              refine wl_v 14 rfl (v_pick (b := true) rfl rfl) gn rfl ?_
              refine wl_v 15 rfl (v_move rfl) gn rfl ?_
              by_cases hp222 : r203.1 = true
              · have h := if_pos' hp222 h
                refine w_bool 44 rfl ((nf hp222)) ?_
                refine wl_pass 16 rfl (ps 44 rfl rfl rfl) ?_
                refine wl_pass 17 rfl (ps 44 rfl rfl rfl) ?_
                refine wl_pass 18 rfl (ps 44 rfl rfl rfl) ?_
                refine wl_v 19 rfl (v_pick (b := false) rfl rfl) gn rfl ?_
                refine wl_v 20 rfl (v_move rfl) gn rfl ?_
                refine wl_pass 21 rfl (ps 49 rfl rfl rfl) ?_
                refine wl_pass 22 rfl (ps 49 rfl rfl rfl) ?_
                refine wl_pass 23 rfl (ps 49 rfl rfl rfl) ?_
                refine wl_pass 24 rfl (ps 49 rfl rfl rfl) ?_
                refine wl_pass 25 rfl (ps 49 rfl rfl rfl) ?_
                refine wl_pass 26 rfl (ps 49 rfl rfl rfl) ?_
                refine wl_v 27 rfl (v_pick (b := false) rfl rfl) gn rfl ?_
                refine wl_v 28 rfl (v_assign rfl) gn rfl ?_
                refine w_end 29 rfl ?_
                exact g_go [3, 4, 5] (j2 false h) ⟨rfl, trivial⟩ (.cons _ (.slnil)) rfl
              · have h := if_neg' hp222 h
                refine w_bool 44 rfl ((nt (bf hp222))) ?_
                refine wl_v 16 rfl (v_move rfl) (gy 44 rfl rfl) rfl ?_
                obtain ⟨r226, hv227, h⟩ := h
                refine wl_s 17 rfl (s_call [.pointer (some ⟨gb54, 0, none⟩)] rfl Try.func22 rfl rfl rfl fun w223 hL224 => ?_) (gy 44 rfl rfl)
                have hp225 : List.Perm ([.box gb54 36 [.slice A205 n206 c207, .slice A209 n210 c211, .slice A213 n214 c215, .bool r203.2.stand.forest.ok, .int .i64 r203.2.stand.at_]] : List Ent) (([.box gb54 36 [.slice A205 n206 c207, .slice A209 n210 c211, .slice A213 n214 c215, .bool r203.2.stand.forest.ok, .int .i64 r203.2.stand.at_]] : List Ent) ++ ([] : List Ent)) := perm_of_idx [0] [] rfl rfl (by kernel_rfl)
                refine Calls.mono (tree_Cursor_Up_calls w223 (Fl ([Sm w.heap.size F w217 sb221] : List Snap)) r203.2 gb54 36 A205 n206 c207 A209 n210 c211 A213 n214 c215 (Rw.mono h208 (hL224.toFl (me 0 rfl) (me 0 rfl))) (Rw.mono h212 (hL224.toFl (me 0 rfl) (me 0 rfl))) (Rw.mono h216 (hL224.toFl (me 0 rfl) (me 0 rfl))) (hL224.hFl (Sl := ([Sm w.heap.size F w217 sb221] : List Snap)) hp225 (sels [0] rfl)) (hL224.into hp225 (Fl ([Sm w.heap.size F w217 sb221] : List Snap))) r226 hv227) ?_
                rintro _ w240 ⟨A228, n229, c230, A232, n233, c234, A236, n237, c238, rfl, hM241, h231, h235, h239⟩
                obtain ⟨sb244, hL242, hv243⟩ := hL224.callB (Sl := ([Sm w.heap.size F w217 sb221] : List Snap)) hp225 hM241 F (sels [0] rfl) ⟨Sm.ok, trivial⟩
                have h231 : At k_api_Node (Sm w.heap.size F w240 sb244) A228 n229 c230 r226.2.stand.forest.nodes := Rw.mono h231 hv243
                have h235 : At (kInt .i64) (Sm w.heap.size F w240 sb244) A232 n233 c234 r226.2.stand.forest.parent := Rw.mono h235 hv243
                have h239 : At (kInt .i64) (Sm w.heap.size F w240 sb244) A236 n237 c238 r226.2.stand.forest.end_ := Rw.mono h239 hv243
                refine ⟨_, _, _, rfl, hL242, ?_⟩
                refine wl_v 18 rfl (v_not rfl) (gy 44 rfl rfl) rfl ?_
                refine wl_v 19 rfl (v_pick (b := true) rfl rfl) gn rfl ?_
                refine wl_v 20 rfl (v_move rfl) gn rfl ?_
                by_cases hp245 : r226.1 = true
                · have h := if_pos' hp245 h
                  refine w_bool 49 rfl ((nf hp245)) ?_
                  refine wl_pass 21 rfl (ps 49 rfl rfl rfl) ?_
                  refine wl_pass 22 rfl (ps 49 rfl rfl rfl) ?_
                  refine wl_pass 23 rfl (ps 49 rfl rfl rfl) ?_
                  refine wl_pass 24 rfl (ps 49 rfl rfl rfl) ?_
                  refine wl_pass 25 rfl (ps 49 rfl rfl rfl) ?_
                  refine wl_pass 26 rfl (ps 49 rfl rfl rfl) ?_
                  refine wl_v 27 rfl (v_pick (b := false) rfl rfl) gn rfl ?_
                  refine wl_v 28 rfl (v_assign rfl) gn rfl ?_
                  refine w_end 29 rfl ?_
                  exact g_go [4, 5, 6] (j2 false h) ⟨rfl, trivial⟩ (.cons _ (.slnil)) rfl
                · have h := if_neg' hp245 h
                  refine w_bool 49 rfl ((nt (bf hp245))) ?_
                  refine wl_v 21 rfl (v_move rfl) (gy 49 rfl rfl) rfl ?_
                  refine wl_v 22 rfl (v_bin rfl rfl rfl) (gy 49 rfl rfl) rfl ?_
                  refine wl_v 23 rfl (v_move rfl) (gy 49 rfl rfl) rfl ?_
                  refine wl_v 24 rfl (v_lenQ un_22 rfl h5.hq) (gy 49 rfl rfl) rfl ?_
                  refine wl_v 25 rfl (v_bin rfl rfl rfl) (gy 49 rfl rfl) rfl ?_
                  refine wl_v 26 rfl (v_eqB un_4 rfl rfl) (gy 49 rfl rfl) rfl ?_
                  refine wl_v 27 rfl (v_pick (b := true) rfl rfl) gn rfl ?_
                  refine wl_v 28 rfl (v_assign rfl) gn rfl ?_
                  refine w_end 29 rfl ?_
                  exact g_go [4, 5, 6] (j2 ((decide (r27 < 0)) == (decide ((x1.length : Int) > 0))) h) ⟨rfl, trivial⟩ (.cons _ (.slnil)) rfl
          · have h := if_neg' hp176 h
            refine w_bool 34 rfl ((nei hp176)) ?_
            refine wl_pass 6 rfl (ps 34 rfl rfl rfl) ?_
            refine wl_pass 7 rfl (ps 34 rfl rfl rfl) ?_
            refine wl_pass 8 rfl (ps 34 rfl rfl rfl) ?_
            refine wl_v 9 rfl (v_pick (b := false) rfl rfl) gn rfl ?_
            refine wl_v 10 rfl (v_move rfl) gn rfl ?_
            refine wl_pass 11 rfl (ps 39 rfl rfl rfl) ?_
            refine wl_pass 12 rfl (ps 39 rfl rfl rfl) ?_
            refine wl_pass 13 rfl (ps 39 rfl rfl rfl) ?_
            refine wl_v 14 rfl (v_pick (b := false) rfl rfl) gn rfl ?_
            refine wl_v 15 rfl (v_move rfl) gn rfl ?_
            refine wl_pass 16 rfl (ps 44 rfl rfl rfl) ?_
            refine wl_pass 17 rfl (ps 44 rfl rfl rfl) ?_
            refine wl_pass 18 rfl (ps 44 rfl rfl rfl) ?_
            refine wl_v 19 rfl (v_pick (b := false) rfl rfl) gn rfl ?_
            refine wl_v 20 rfl (v_move rfl) gn rfl ?_
            refine wl_pass 21 rfl (ps 49 rfl rfl rfl) ?_
            refine wl_pass 22 rfl (ps 49 rfl rfl rfl) ?_
            refine wl_pass 23 rfl (ps 49 rfl rfl rfl) ?_
            refine wl_pass 24 rfl (ps 49 rfl rfl rfl) ?_
            refine wl_pass 25 rfl (ps 49 rfl rfl rfl) ?_
            refine wl_pass 26 rfl (ps 49 rfl rfl rfl) ?_
            refine wl_v 27 rfl (v_pick (b := false) rfl rfl) gn rfl ?_
            refine wl_v 28 rfl (v_assign rfl) gn rfl ?_
            refine w_end 29 rfl ?_
            exact g_go [1, 2, 3] (j2 false h) ⟨rfl, trivial⟩ (.cons _ (.slnil)) rfl
        · have h := if_neg' hp59 h
          refine g_false (c := trellislaw15_TreeWays_c30) rfl _ rfl ((bf hp59)) ?_
          refine g_skip (c := trellislaw15_TreeWays_c32) rfl ?_
          refine g_seq (c := trellislaw15_TreeWays_c28) rfl ?_
          refine g_region (c := trellislaw15_TreeWays_c35) rfl rfl ?_
          refine wl_v 0 rfl (v_assign rfl) gn rfl ?_
          refine w_end 1 rfl ?_
          refine g_seq (c := trellislaw15_TreeWays_c36) rfl ?_
          refine g_seq (c := trellislaw15_TreeWays_c37) rfl ?_
          refine g_region (c := trellislaw15_TreeWays_c39) rfl rfl ?_
          refine wl_v 0 rfl (v_assign rfl) gn rfl ?_
          refine w_end 1 rfl ?_
          refine g_block (c := trellislaw15_TreeWays_c40) rfl ?_
          refine g_loop (c := trellislaw15_TreeWays_c41) rfl ?_
          have key3 : ∀ s, Rounds (fun (s : Int × Int × (List api_Node) × (List Int) × (List Int) × Bool × Int) o => trellislaw15_TreeWays_b3 x1 r27 s.1 s.2.1 s.2.2.1 s.2.2.2.1 s.2.2.2.2.1 s.2.2.2.2.2.1 s.2.2.2.2.2.2 o) s r → (fun (s : Int × Int × (List api_Node) × (List Int) × (List Int) × Bool × Int) => ∀ (A1112 : Option Addr) (n1113 : Nat) (c1114 : Nat) (sw1115 : World) (sb1116 : List (List Nat)) (h1117 : At k_api_Node (Sm w.heap.size F sw1115 sb1116) A1112 n1113 c1114 s.2.2.1) (A1119 : Option Addr) (n1120 : Nat) (c1121 : Nat) (sw1122 : World) (sb1123 : List (List Nat)) (h1124 : At (kInt .i64) (Sm w.heap.size F sw1122 sb1123) A1119 n1120 c1121 s.2.2.2.1) (A1126 : Option Addr) (n1127 : Nat) (c1128 : Nat) (sw1129 : World) (sb1130 : List (List Nat)) (h1131 : At (kInt .i64) (Sm w.heap.size F sw1129 sb1130) A1126 n1127 c1128 s.2.2.2.2.1), G (trellislaw15_TreeWays_C w F r) [.code trellislaw15_TreeWays_c42, .inLoop trellislaw15_TreeWays_c42, .inBlock 0, .code trellislaw15_TreeWays_c38] [(0, .slice A2 n3 c4), (3, .int .i64 r27), (4, .pointer (some ⟨gb54, 0, none⟩)), (5, .int .i64 s.1), (6, .int .i64 s.2.1)] [.box gb54 36 [.slice A1112 n1113 c1114, .slice A1119 n1120 c1121, .slice A1126 n1127 c1128, .bool s.2.2.2.2.2.1, .int .i64 s.2.2.2.2.2.2]] [Sm w.heap.size F sw1115 sb1116, Sm w.heap.size F sw1122 sb1123, Sm w.heap.size F sw1129 sb1130, Sm w.heap.size F w49 sb53, Sm w.heap.size F w [], St w []]) s := by
            intro s hs
            refine Rounds.ind (mot := (fun (s : Int × Int × (List api_Node) × (List Int) × (List Int) × Bool × Int) => ∀ (A1112 : Option Addr) (n1113 : Nat) (c1114 : Nat) (sw1115 : World) (sb1116 : List (List Nat)) (h1117 : At k_api_Node (Sm w.heap.size F sw1115 sb1116) A1112 n1113 c1114 s.2.2.1) (A1119 : Option Addr) (n1120 : Nat) (c1121 : Nat) (sw1122 : World) (sb1123 : List (List Nat)) (h1124 : At (kInt .i64) (Sm w.heap.size F sw1122 sb1123) A1119 n1120 c1121 s.2.2.2.1) (A1126 : Option Addr) (n1127 : Nat) (c1128 : Nat) (sw1129 : World) (sb1130 : List (List Nat)) (h1131 : At (kInt .i64) (Sm w.heap.size F sw1129 sb1130) A1126 n1127 c1128 s.2.2.2.2.1), G (trellislaw15_TreeWays_C w F r) [.code trellislaw15_TreeWays_c42, .inLoop trellislaw15_TreeWays_c42, .inBlock 0, .code trellislaw15_TreeWays_c38] [(0, .slice A2 n3 c4), (3, .int .i64 r27), (4, .pointer (some ⟨gb54, 0, none⟩)), (5, .int .i64 s.1), (6, .int .i64 s.2.1)] [.box gb54 36 [.slice A1112 n1113 c1114, .slice A1119 n1120 c1121, .slice A1126 n1127 c1128, .bool s.2.2.2.2.2.1, .int .i64 s.2.2.2.2.2.2]] [Sm w.heap.size F sw1115 sb1116, Sm w.heap.size F sw1122 sb1123, Sm w.heap.size F sw1129 sb1130, Sm w.heap.size F w49 sb53, Sm w.heap.size F w [], St w []])) ?_ hs
            clear hs s
            intro s o1 h hO1
            obtain ⟨x1109, x1110, x1111, x1118, x1125, x1132, x1133⟩ := s
            show ∀ (A1112 : Option Addr) (n1113 : Nat) (c1114 : Nat) (sw1115 : World) (sb1116 : List (List Nat)) (h1117 : At k_api_Node (Sm w.heap.size F sw1115 sb1116) A1112 n1113 c1114 x1111) (A1119 : Option Addr) (n1120 : Nat) (c1121 : Nat) (sw1122 : World) (sb1123 : List (List Nat)) (h1124 : At (kInt .i64) (Sm w.heap.size F sw1122 sb1123) A1119 n1120 c1121 x1118) (A1126 : Option Addr) (n1127 : Nat) (c1128 : Nat) (sw1129 : World) (sb1130 : List (List Nat)) (h1131 : At (kInt .i64) (Sm w.heap.size F sw1129 sb1130) A1126 n1127 c1128 x1125), G (trellislaw15_TreeWays_C w F r) [.code trellislaw15_TreeWays_c42, .inLoop trellislaw15_TreeWays_c42, .inBlock 0, .code trellislaw15_TreeWays_c38] [(0, .slice A2 n3 c4), (3, .int .i64 r27), (4, .pointer (some ⟨gb54, 0, none⟩)), (5, .int .i64 x1109), (6, .int .i64 x1110)] [.box gb54 36 [.slice A1112 n1113 c1114, .slice A1119 n1120 c1121, .slice A1126 n1127 c1128, .bool x1132, .int .i64 x1133]] [Sm w.heap.size F sw1115 sb1116, Sm w.heap.size F sw1122 sb1123, Sm w.heap.size F sw1129 sb1130, Sm w.heap.size F w49 sb53, Sm w.heap.size F w [], St w []]
            intro A1112 n1113 c1114 sw1115 sb1116 h1117 A1119 n1120 c1121 sw1122 sb1123 h1124 A1126 n1127 c1128 sw1129 sb1130 h1131
            have h : trellislaw15_TreeWays_b3 x1 r27 x1109 x1110 x1111 x1118 x1125 x1132 x1133 o1 := h
            unfold trellislaw15_TreeWays_b3 at h
            refine g_seq (c := trellislaw15_TreeWays_c42) rfl ?_
            refine g_seq (c := trellislaw15_TreeWays_c43) rfl ?_
            refine g_region (c := trellislaw15_TreeWays_c45) rfl rfl ?_
            refine wl_v 0 rfl (v_move rfl) gn rfl ?_
            refine wl_v 1 rfl (v_move rfl) gn rfl ?_
            refine wl_v 2 rfl (v_lenQ un_22 rfl h5.hq) gn rfl ?_
            refine wl_v 3 rfl (v_bin rfl rfl rfl) gn rfl ?_
            refine w_end 4 rfl ?_
            by_cases hp1996 : x1110 < (x1.length : Int)
            · have h := if_pos' hp1996 h
              refine g_true (c := trellislaw15_TreeWays_c46) rfl _ rfl ((decide_eq_true hp1996)) ?_
              refine g_skip (c := trellislaw15_TreeWays_c47) rfl ?_
              refine g_seq (c := trellislaw15_TreeWays_c44) rfl ?_
              refine g_block (c := trellislaw15_TreeWays_c49) rfl ?_
              refine g_seq (c := trellislaw15_TreeWays_c51) rfl ?_
              refine g_seq (c := trellislaw15_TreeWays_c52) rfl ?_
              refine g_region (c := trellislaw15_TreeWays_c54) rfl rfl ?_
              refine wl_v 0 rfl (v_move rfl) gn rfl ?_
              refine wl_v 1 rfl (v_nilCheck rfl) gn rfl ?_
              refine wl_v 2 rfl (v_fldB fo_36_0 rfl) gn rfl ?_
              obtain ⟨r2000, hv2001, h⟩ := h
              refine wl_s 3 rfl (s_call [.pointer (some ⟨gb54, 0, none⟩)] rfl Try.func14 rfl rfl rfl fun w1997 hL1998 => ?_) gn
              have hp1999 : List.Perm ([.box gb54 36 [.slice A1112 n1113 c1114, .slice A1119 n1120 c1121, .slice A1126 n1127 c1128, .bool x1132, .int .i64 x1133]] : List Ent) (([.box gb54 36 [.slice A1112 n1113 c1114, .slice A1119 n1120 c1121, .slice A1126 n1127 c1128, .bool x1132, .int .i64 x1133]] : List Ent) ++ ([] : List Ent)) := perm_of_idx [0] [] rfl rfl (by kernel_rfl)
              refine Calls.mono (tree_stand_Place_calls w1997 (Fl ([Sm w.heap.size F sw1115 sb1116, Sm w.heap.size F sw1122 sb1123, Sm w.heap.size F sw1129 sb1130] : List Snap)) (⟨(⟨x1111, x1118, x1125, x1132⟩ : tree_forest), x1133⟩ : tree_stand) gb54 36 A1112 n1113 c1114 A1119 n1120 c1121 A1126 n1127 c1128 (Rw.mono h1117 (hL1998.toFl (me 0 rfl) (me 0 rfl))) (Rw.mono h1124 (hL1998.toFl (me 1 rfl) (me 1 rfl))) (Rw.mono h1131 (hL1998.toFl (me 2 rfl) (me 2 rfl))) (hL1998.hFl (Sl := ([Sm w.heap.size F sw1115 sb1116, Sm w.heap.size F sw1122 sb1123, Sm w.heap.size F sw1129 sb1130] : List Snap)) hp1999 (sels [0, 1, 2] rfl)) (hL1998.into hp1999 (Fl ([Sm w.heap.size F sw1115 sb1116, Sm w.heap.size F sw1122 sb1123, Sm w.heap.size F sw1129 sb1130] : List Snap))) r2000 hv2001) ?_
              rintro _ w2014 ⟨A2002, n2003, c2004, A2006, n2007, c2008, A2010, n2011, c2012, rfl, hM2015, h2005, h2009, h2013⟩
              obtain ⟨sb2018, hL2016, hv2017⟩ := hL1998.callB (Sl := ([Sm w.heap.size F sw1115 sb1116, Sm w.heap.size F sw1122 sb1123, Sm w.heap.size F sw1129 sb1130] : List Snap)) hp1999 hM2015 F (sels [0, 1, 2] rfl) ⟨Sm.ok, Sm.ok, Sm.ok, trivial⟩
              have h2005 : At k_api_Node (Sm w.heap.size F w2014 sb2018) A2002 n2003 c2004 r2000.2.forest.nodes := Rw.mono h2005 hv2017
              have h2009 : At (kInt .i64) (Sm w.heap.size F w2014 sb2018) A2006 n2007 c2008 r2000.2.forest.parent := Rw.mono h2009 hv2017
              have h2013 : At (kInt .i64) (Sm w.heap.size F w2014 sb2018) A2010 n2011 c2012 r2000.2.forest.end_ := Rw.mono h2013 hv2017
              refine ⟨_, _, _, rfl, hL2016, ?_⟩
              refine wl_v 4 rfl (v_move rfl) gn rfl ?_
              refine wl_v 5 rfl (v_bin rfl rfl rfl) gn rfl ?_
              refine w_end 6 rfl ?_
              by_cases hp2019 : r2000.1 = x1110
              · have h := if_pos' hp2019 h
                refine g_false (c := trellislaw15_TreeWays_c55) rfl _ rfl ((eqib hp2019)) ?_
                refine g_skip (c := trellislaw15_TreeWays_c57) rfl ?_
                refine g_seq (c := trellislaw15_TreeWays_c53) rfl ?_
                refine g_region (c := trellislaw15_TreeWays_c58) rfl rfl ?_
                refine wl_v 0 rfl (v_move rfl) gn rfl ?_
                refine wl_v 1 rfl (v_move rfl) gn rfl ?_
                obtain ⟨r2023, hv2024, h⟩ := h
                refine wl_s 2 rfl (s_call [.slice A2 n3 c4, .int .i64 x1110] rfl Try.func42 rfl rfl rfl fun w2020 hL2021 => ?_) gn
                have hp2022 : List.Perm ([.box gb54 36 [.slice A2002 n2003 c2004, .slice A2006 n2007 c2008, .slice A2010 n2011 c2012, .bool r2000.2.forest.ok, .int .i64 r2000.2.at_]] : List Ent) (([] : List Ent) ++ ([.box gb54 36 [.slice A2002 n2003 c2004, .slice A2006 n2007 c2008, .slice A2010 n2011 c2012, .bool r2000.2.forest.ok, .int .i64 r2000.2.at_]] : List Ent)) := perm_of_idx [] [0] rfl rfl (by kernel_rfl)
                refine Calls.mono (tree_Kids_calls w2020 (Fl ([] : List Snap)) x1 x1110 A2 n3 c4 (Rw.mono h5 (hL2021.toSt hp2022 (me 6 rfl))) (hL2021.hFl (Sl := ([] : List Snap)) hp2022 (sels [] rfl)) (hL2021.into hp2022 (Fl ([] : List Snap))) r2023 hv2024) ?_
                rintro _ w2030 ⟨A2025, n2026, c2027, rfl, hM2031, h2028⟩
                have hL2032 := hL2021.call hp2022 hM2031
                refine ⟨_, _, _, rfl, hL2032, ?_⟩
                refine wl_v 3 rfl (v_assign rfl) gn rfl ?_
                refine w_end 4 rfl ?_
                refine g_seq (c := trellislaw15_TreeWays_c59) rfl ?_
                refine g_region (c := trellislaw15_TreeWays_c60) rfl rfl ?_
                refine wl_v 0 rfl (v_assign rfl) gn rfl ?_
                refine w_end 1 rfl ?_
                refine g_seq (c := trellislaw15_TreeWays_c61) rfl ?_
                refine g_seq (c := trellislaw15_TreeWays_c62) rfl ?_
                refine g_region (c := trellislaw15_TreeWays_c64) rfl rfl ?_
                refine wl_v 0 rfl (v_assign rfl) gn rfl ?_
                refine w_end 1 rfl ?_
                refine g_block (c := trellislaw15_TreeWays_c65) rfl ?_
                refine g_loop (c := trellislaw15_TreeWays_c66) rfl ?_
                have key4 : ∀ s, Rounds (fun (s : Int × Int) o => trellislaw15_TreeWays_b4 r2023 x1110 x1 r2000 x1109 s.1 s.2 o) s o1 → (fun (s : Int × Int) => ∀ (_ : Unit), G (trellislaw15_TreeWays_C w F r) [.code trellislaw15_TreeWays_c67, .inLoop trellislaw15_TreeWays_c67, .inBlock 2, .code trellislaw15_TreeWays_c63, .inBlock 1, .code trellislaw15_TreeWays_c50, .inLoop trellislaw15_TreeWays_c42, .inBlock 0, .code trellislaw15_TreeWays_c38] [(0, .slice A2 n3 c4), (3, .int .i64 r27), (4, .pointer (some ⟨gb54, 0, none⟩)), (5, .int .i64 x1109), (6, .int .i64 x1110), (7, .slice A2025 n2026 c2027), (8, .int .i64 s.1), (9, .int .i64 s.2)] [.own (.slice A2025 n2026 c2027) 3 1 n2026 (r2023.flatMap (eI .i64)), .box gb54 36 [.slice A2002 n2003 c2004, .slice A2006 n2007 c2008, .slice A2010 n2011 c2012, .bool r2000.2.forest.ok, .int .i64 r2000.2.at_]] [Sm w.heap.size F w2014 sb2018, Sm w.heap.size F sw1115 sb1116, Sm w.heap.size F sw1122 sb1123, Sm w.heap.size F sw1129 sb1130, Sm w.heap.size F w49 sb53, Sm w.heap.size F w [], St w []]) s := by
                  intro s hs
                  refine Rounds.ind (mot := (fun (s : Int × Int) => ∀ (_ : Unit), G (trellislaw15_TreeWays_C w F r) [.code trellislaw15_TreeWays_c67, .inLoop trellislaw15_TreeWays_c67, .inBlock 2, .code trellislaw15_TreeWays_c63, .inBlock 1, .code trellislaw15_TreeWays_c50, .inLoop trellislaw15_TreeWays_c42, .inBlock 0, .code trellislaw15_TreeWays_c38] [(0, .slice A2 n3 c4), (3, .int .i64 r27), (4, .pointer (some ⟨gb54, 0, none⟩)), (5, .int .i64 x1109), (6, .int .i64 x1110), (7, .slice A2025 n2026 c2027), (8, .int .i64 s.1), (9, .int .i64 s.2)] [.own (.slice A2025 n2026 c2027) 3 1 n2026 (r2023.flatMap (eI .i64)), .box gb54 36 [.slice A2002 n2003 c2004, .slice A2006 n2007 c2008, .slice A2010 n2011 c2012, .bool r2000.2.forest.ok, .int .i64 r2000.2.at_]] [Sm w.heap.size F w2014 sb2018, Sm w.heap.size F sw1115 sb1116, Sm w.heap.size F sw1122 sb1123, Sm w.heap.size F sw1129 sb1130, Sm w.heap.size F w49 sb53, Sm w.heap.size F w [], St w []])) ?_ hs
                  clear hs s
                  intro s o2 h hO2
                  obtain ⟨x2308, x2309⟩ := s
                  show ∀ (_ : Unit), G (trellislaw15_TreeWays_C w F r) [.code trellislaw15_TreeWays_c67, .inLoop trellislaw15_TreeWays_c67, .inBlock 2, .code trellislaw15_TreeWays_c63, .inBlock 1, .code trellislaw15_TreeWays_c50, .inLoop trellislaw15_TreeWays_c42, .inBlock 0, .code trellislaw15_TreeWays_c38] [(0, .slice A2 n3 c4), (3, .int .i64 r27), (4, .pointer (some ⟨gb54, 0, none⟩)), (5, .int .i64 x1109), (6, .int .i64 x1110), (7, .slice A2025 n2026 c2027), (8, .int .i64 x2308), (9, .int .i64 x2309)] [.own (.slice A2025 n2026 c2027) 3 1 n2026 (r2023.flatMap (eI .i64)), .box gb54 36 [.slice A2002 n2003 c2004, .slice A2006 n2007 c2008, .slice A2010 n2011 c2012, .bool r2000.2.forest.ok, .int .i64 r2000.2.at_]] [Sm w.heap.size F w2014 sb2018, Sm w.heap.size F sw1115 sb1116, Sm w.heap.size F sw1122 sb1123, Sm w.heap.size F sw1129 sb1130, Sm w.heap.size F w49 sb53, Sm w.heap.size F w [], St w []]
                  intro _
                  have h : trellislaw15_TreeWays_b4 r2023 x1110 x1 r2000 x1109 x2308 x2309 o2 := h
                  unfold trellislaw15_TreeWays_b4 at h
                  refine g_seq (c := trellislaw15_TreeWays_c67) rfl ?_
                  refine g_seq (c := trellislaw15_TreeWays_c68) rfl ?_
                  refine g_region (c := trellislaw15_TreeWays_c70) rfl rfl ?_
                  refine wl_v 0 rfl (v_move rfl) gn rfl ?_
                  refine wl_v 1 rfl (v_move rfl) gn rfl ?_
                  refine wl_v 2 rfl (v_lenQ un_23 rfl (Ow.weak hL2021.env.size h2028).hq) gn rfl ?_
                  refine wl_v 3 rfl (v_bin rfl rfl rfl) gn rfl ?_
                  refine w_end 4 rfl ?_
                  by_cases hp2584 : x2309 < (r2023.length : Int)
                  · have h := if_pos' hp2584 h
                    refine g_true (c := trellislaw15_TreeWays_c71) rfl _ rfl ((decide_eq_true hp2584)) ?_
                    refine g_skip (c := trellislaw15_TreeWays_c72) rfl ?_
                    refine g_seq (c := trellislaw15_TreeWays_c69) rfl ?_
                    refine g_block (c := trellislaw15_TreeWays_c74) rfl ?_
                    refine g_seq (c := trellislaw15_TreeWays_c76) rfl ?_
                    refine g_seq (c := trellislaw15_TreeWays_c77) rfl ?_
                    have j5 : ∀ (x2596 : Bool) (h : trellislaw15_TreeWays_j5 x2309 r2023 x1 x2308 x2596 o2) , G (trellislaw15_TreeWays_C w F r) [.code trellislaw15_TreeWays_c80, .code trellislaw15_TreeWays_c78, .inBlock 3, .code trellislaw15_TreeWays_c75, .inLoop trellislaw15_TreeWays_c67, .inBlock 2, .code trellislaw15_TreeWays_c63, .inBlock 1, .code trellislaw15_TreeWays_c50, .inLoop trellislaw15_TreeWays_c42, .inBlock 0, .code trellislaw15_TreeWays_c38] [(0, .slice A2 n3 c4), (3, .int .i64 r27), (4, .pointer (some ⟨gb54, 0, none⟩)), (5, .int .i64 x1109), (6, .int .i64 x1110), (7, .slice A2025 n2026 c2027), (8, .int .i64 x2308), (9, .int .i64 x2309), (95, .bool x2596)] [.own (.slice A2025 n2026 c2027) 3 1 n2026 (r2023.flatMap (eI .i64)), .box gb54 36 [.slice A2002 n2003 c2004, .slice A2006 n2007 c2008, .slice A2010 n2011 c2012, .bool r2000.2.forest.ok, .int .i64 r2000.2.at_]] [Sm w.heap.size F w2014 sb2018, Sm w.heap.size F sw1115 sb1116, Sm w.heap.size F sw1122 sb1123, Sm w.heap.size F sw1129 sb1130, Sm w.heap.size F w49 sb53, Sm w.heap.size F w [], St w []] := by
                      intro x2596 h
                      unfold trellislaw15_TreeWays_j5 at h
                      by_cases hp2597 : x2596 = true
                      · have h := if_pos' hp2597 h
                        refine g_true (c := trellislaw15_TreeWays_c80) rfl _ rfl (hp2597) ?_
                        refine g_seq (c := trellislaw15_TreeWays_c81) rfl ?_
                        refine g_region (c := trellislaw15_TreeWays_c83) rfl rfl ?_
                        refine wl_v 0 rfl (v_assign rfl) gn rfl ?_
                        refine w_end 1 rfl ?_
                        have h := Out.inr hO2 h
                        have h := Out.inr hO1 h
                        refine g_retR (c := trellislaw15_TreeWays_c84) [.bool false] rfl Try.func9 rfl (.tmp rfl (.nil)) fun wr hLr => ?_
                        have hMr : B.Loc w wr [] [St w []] := hLr.pick (rest := [.own (.slice A2025 n2026 c2027) 3 1 n2026 (r2023.flatMap (eI .i64)), .box gb54 36 [.slice A2002 n2003 c2004, .slice A2006 n2007 c2008, .slice A2010 n2011 c2012, .bool r2000.2.forest.ok, .int .i64 r2000.2.at_]]) (perm_of_idx [] [0, 1] rfl rfl (by kernel_rfl)) (sels [6] rfl)
                        have hMi : ∀ e ∈ ([] : List Ent), e ∈ ([.own (.slice A2025 n2026 c2027) 3 1 n2026 (r2023.flatMap (eI .i64)), .box gb54 36 [.slice A2002 n2003 c2004, .slice A2006 n2007 c2008, .slice A2010 n2011 c2012, .bool r2000.2.forest.ok, .int .i64 r2000.2.at_]] : List Ent) := sels [] rfl
                        show trellislaw15_TreeWays_R w F  r (.returned (packV [.bool false])) wr
                        rw [h]
                        exact ⟨rfl, hMr⟩
                      · have h := if_neg' hp2597 h
                        refine g_false (c := trellislaw15_TreeWays_c80) rfl _ rfl ((bf hp2597)) ?_
                        refine g_skip (c := trellislaw15_TreeWays_c82) rfl ?_
                        refine g_region (c := trellislaw15_TreeWays_c78) rfl rfl ?_
                        refine wl_v 0 rfl (v_move rfl) gn rfl ?_
                        refine wl_v 1 rfl (v_move rfl) gn rfl ?_
                        refine wl_v 2 rfl (v_move rfl) gn rfl ?_
                        refine wl_v 3 rfl (v_move rfl) gn rfl ?_
                        obtain ⟨hb2598, h⟩ := h
                        refine wl_v 4 rfl (v_idxO slE_23 rfl rfl (Ow.weak hL2021.env.size h2028) hb2598) gn rfl ?_
                        refine wl_v 5 rfl (v_ldO1 (.int .i64 (ix r2023 x2309)) 0 ld_3 rfl rfl (fm_get0 (hlI .i64) hb2598 rfl)) gn rfl ?_
                        obtain ⟨r2602, hv2603, h⟩ := h
                        refine wl_s 6 rfl (s_call [.slice A2 n3 c4, .int .i64 (ix r2023 x2309)] rfl Try.func43 rfl rfl rfl fun w2599 hL2600 => ?_) gn
                        have hp2601 : List.Perm ([.own (.slice A2025 n2026 c2027) 3 1 n2026 (r2023.flatMap (eI .i64)), .box gb54 36 [.slice A2002 n2003 c2004, .slice A2006 n2007 c2008, .slice A2010 n2011 c2012, .bool r2000.2.forest.ok, .int .i64 r2000.2.at_]] : List Ent) (([] : List Ent) ++ ([.own (.slice A2025 n2026 c2027) 3 1 n2026 (r2023.flatMap (eI .i64)), .box gb54 36 [.slice A2002 n2003 c2004, .slice A2006 n2007 c2008, .slice A2010 n2011 c2012, .bool r2000.2.forest.ok, .int .i64 r2000.2.at_]] : List Ent)) := perm_of_idx [] [0, 1] rfl rfl (by kernel_rfl)
                        refine Calls.mono (tree_Size_calls w2599 (Fl ([] : List Snap)) x1 (ix r2023 x2309) A2 n3 c4 (Rw.mono h5 (hL2600.toSt hp2601 (me 6 rfl))) (hL2600.hFl (Sl := ([] : List Snap)) hp2601 (sels [] rfl)) (hL2600.into hp2601 (Fl ([] : List Snap))) r2602 hv2603) ?_
                        rintro _ w2604 ⟨rfl, hM2605⟩
                        have hL2606 := hL2600.call hp2601 hM2605
                        refine ⟨_, _, _, rfl, hL2606, ?_⟩
                        refine wl_v 7 rfl (v_bin rfl rfl rfl) gn rfl ?_
                        refine wl_v 8 rfl (v_assign rfl) gn rfl ?_
                        refine w_end 9 rfl ?_
                        refine g_inBlock ?_
                        refine g_region (c := trellislaw15_TreeWays_c75) rfl rfl ?_
                        refine wl_v 0 rfl (v_move rfl) gn rfl ?_
                        refine wl_v 1 rfl (v_bin rfl rfl rfl) gn rfl ?_
                        refine wl_v 2 rfl (v_assign rfl) gn rfl ?_
                        refine w_end 3 rfl ?_
                        refine g_inLoop ?_
                        have ih := Out.inl hO2 h
                        exact g_go [0, 1, 2, 3, 4, 5, 6] (ih ()) ⟨rfl, rfl, rfl, rfl, rfl, rfl, rfl, rfl, trivial⟩ (.cons_cons _ (.cons_cons _ (.slnil))) rfl
                    refine g_region (c := trellislaw15_TreeWays_c79) rfl rfl ?_
                    refine wl_v 0 rfl (v_move rfl) gn rfl ?_
                    refine wl_v 1 rfl (v_move rfl) gn rfl ?_
                    obtain ⟨hb2607, h⟩ := h
                    refine wl_v 2 rfl (v_idxO slE_23 rfl rfl (Ow.weak hL2021.env.size h2028) hb2607) gn rfl ?_
                    refine wl_v 3 rfl (v_ldO1 (.int .i64 (ix r2023 x2309)) 0 ld_3 rfl rfl (fm_get0 (hlI .i64) hb2607 rfl)) gn rfl ?_
                    refine wl_v 4 rfl (v_move rfl) gn rfl ?_
                    refine wl_v 5 rfl (v_move rfl) gn rfl ?_
                    refine wl_v 6 rfl (v_bin rfl rfl rfl) gn rfl ?_
                    refine wl_v 7 rfl (v_bin rfl rfl rfl) gn rfl ?_
                    refine wl_v 8 rfl (v_move rfl) gn rfl ?_
                    by_cases hp2608 : ix r2023 x2309 = w64 (x1110 + x2308)
                    · have h := if_pos' hp2608 h
                      refine w_bool 86 rfl ((eqib hp2608)) ?_
                      refine wl_v 9 rfl (v_move rfl) (gy 86 rfl rfl) rfl ?_
                      refine wl_v 10 rfl (v_move rfl) (gy 86 rfl rfl) rfl ?_
                      refine wl_v 11 rfl (v_move rfl) (gy 86 rfl rfl) rfl ?_
                      refine wl_v 12 rfl (v_idxO slE_23 rfl rfl (Ow.weak hL2021.env.size h2028) hb2607) (gy 86 rfl rfl) rfl ?_
                      refine wl_v 13 rfl (v_ldO1 (.int .i64 (ix r2023 x2309)) 0 ld_3 rfl rfl (fm_get0 (hlI .i64) hb2607 rfl)) (gy 86 rfl rfl) rfl ?_
                      obtain ⟨r2612, hv2613, h⟩ := h
                      refine wl_s 14 rfl (s_call [.slice A2 n3 c4, .int .i64 (ix r2023 x2309)] rfl Try.func41 rfl rfl rfl fun w2609 hL2610 => ?_) (gy 86 rfl rfl)
                      have hp2611 : List.Perm ([.own (.slice A2025 n2026 c2027) 3 1 n2026 (r2023.flatMap (eI .i64)), .box gb54 36 [.slice A2002 n2003 c2004, .slice A2006 n2007 c2008, .slice A2010 n2011 c2012, .bool r2000.2.forest.ok, .int .i64 r2000.2.at_]] : List Ent) (([] : List Ent) ++ ([.own (.slice A2025 n2026 c2027) 3 1 n2026 (r2023.flatMap (eI .i64)), .box gb54 36 [.slice A2002 n2003 c2004, .slice A2006 n2007 c2008, .slice A2010 n2011 c2012, .bool r2000.2.forest.ok, .int .i64 r2000.2.at_]] : List Ent)) := perm_of_idx [] [0, 1] rfl rfl (by kernel_rfl)
                      refine Calls.mono (tree_Parent_calls w2609 (Fl ([] : List Snap)) x1 (ix r2023 x2309) A2 n3 c4 (Rw.mono h5 (hL2610.toSt hp2611 (me 6 rfl))) (hL2610.hFl (Sl := ([] : List Snap)) hp2611 (sels [] rfl)) (hL2610.into hp2611 (Fl ([] : List Snap))) r2612 hv2613) ?_
                      rintro _ w2614 ⟨rfl, hM2615⟩
                      have hL2616 := hL2610.call hp2611 hM2615
                      refine ⟨_, _, _, rfl, hL2616, ?_⟩
                      refine wl_v 15 rfl (v_move rfl) (gy 86 rfl rfl) rfl ?_
                      refine wl_v 16 rfl (v_bin rfl rfl rfl) (gy 86 rfl rfl) rfl ?_
                      refine wl_v 17 rfl (v_pick (b := false) rfl rfl) gn rfl ?_
                      refine w_end 18 rfl ?_
                      exact g_go [0, 1, 2, 3, 4, 5, 6] (j5 (r2612 != x1110) h) ⟨rfl, rfl, rfl, rfl, rfl, rfl, rfl, rfl, rfl, trivial⟩ (.cons_cons _ (.cons_cons _ (.slnil))) rfl
                    · have h := if_neg' hp2608 h
                      refine w_bool 86 rfl ((neib hp2608)) ?_
                      refine wl_pass 9 rfl (ps 86 rfl rfl rfl) ?_
                      refine wl_pass 10 rfl (ps 86 rfl rfl rfl) ?_
                      refine wl_pass 11 rfl (ps 86 rfl rfl rfl) ?_
                      refine wl_pass 12 rfl (ps 86 rfl rfl rfl) ?_
                      refine wl_pass 13 rfl (ps 86 rfl rfl rfl) ?_
                      refine wl_pass 14 rfl (ps 86 rfl rfl rfl) ?_
                      refine wl_pass 15 rfl (ps 86 rfl rfl rfl) ?_
                      refine wl_pass 16 rfl (ps 86 rfl rfl rfl) ?_
                      refine wl_v 17 rfl (v_pick (b := true) rfl rfl) gn rfl ?_
                      refine w_end 18 rfl ?_
                      exact g_go [0, 1, 2, 3, 4, 5, 6] (j5 true h) ⟨rfl, rfl, rfl, rfl, rfl, rfl, rfl, rfl, rfl, trivial⟩ (.cons_cons _ (.cons_cons _ (.slnil))) rfl
                  · have h := if_neg' hp2584 h
                    refine g_false (c := trellislaw15_TreeWays_c71) rfl _ rfl ((decide_eq_false hp2584)) ?_
                    refine g_exit (c := trellislaw15_TreeWays_c73) [.code trellislaw15_TreeWays_c63, .inBlock 1, .code trellislaw15_TreeWays_c50, .inLoop trellislaw15_TreeWays_c42, .inBlock 0, .code trellislaw15_TreeWays_c38] rfl rfl ?_
                    refine g_seq (c := trellislaw15_TreeWays_c63) rfl ?_
                    refine g_seq (c := trellislaw15_TreeWays_c85) rfl ?_
                    have j6 : ∀ (x2629 : Bool) (h : trellislaw15_TreeWays_j6 x1 x1110 r2000 r2023 x1109 x2629 o2) , G (trellislaw15_TreeWays_C w F r) [.code trellislaw15_TreeWays_c88, .code trellislaw15_TreeWays_c86, .inBlock 1, .code trellislaw15_TreeWays_c50, .inLoop trellislaw15_TreeWays_c42, .inBlock 0, .code trellislaw15_TreeWays_c38] [(0, .slice A2 n3 c4), (3, .int .i64 r27), (4, .pointer (some ⟨gb54, 0, none⟩)), (5, .int .i64 x1109), (6, .int .i64 x1110), (7, .slice A2025 n2026 c2027), (118, .bool x2629)] [.own (.slice A2025 n2026 c2027) 3 1 n2026 (r2023.flatMap (eI .i64)), .box gb54 36 [.slice A2002 n2003 c2004, .slice A2006 n2007 c2008, .slice A2010 n2011 c2012, .bool r2000.2.forest.ok, .int .i64 r2000.2.at_]] [Sm w.heap.size F w2014 sb2018, Sm w.heap.size F sw1115 sb1116, Sm w.heap.size F sw1122 sb1123, Sm w.heap.size F sw1129 sb1130, Sm w.heap.size F w49 sb53, Sm w.heap.size F w [], St w []] := by
                      intro x2629 h
                      unfold trellislaw15_TreeWays_j6 at h
                      by_cases hp2630 : x2629 = true
                      · have h := if_pos' hp2630 h
                        refine g_true (c := trellislaw15_TreeWays_c88) rfl _ rfl (hp2630) ?_
                        refine g_seq (c := trellislaw15_TreeWays_c89) rfl ?_
                        refine g_region (c := trellislaw15_TreeWays_c91) rfl rfl ?_
                        refine wl_v 0 rfl (v_assign rfl) gn rfl ?_
                        refine w_end 1 rfl ?_
                        have h := Out.inr hO2 h
                        have h := Out.inr hO1 h
                        refine g_retR (c := trellislaw15_TreeWays_c92) [.bool false] rfl Try.func9 rfl (.tmp rfl (.nil)) fun wr hLr => ?_
                        have hMr : B.Loc w wr [] [St w []] := hLr.pick (rest := [.own (.slice A2025 n2026 c2027) 3 1 n2026 (r2023.flatMap (eI .i64)), .box gb54 36 [.slice A2002 n2003 c2004, .slice A2006 n2007 c2008, .slice A2010 n2011 c2012, .bool r2000.2.forest.ok, .int .i64 r2000.2.at_]]) (perm_of_idx [] [0, 1] rfl rfl (by kernel_rfl)) (sels [6] rfl)
                        have hMi : ∀ e ∈ ([] : List Ent), e ∈ ([.own (.slice A2025 n2026 c2027) 3 1 n2026 (r2023.flatMap (eI .i64)), .box gb54 36 [.slice A2002 n2003 c2004, .slice A2006 n2007 c2008, .slice A2010 n2011 c2012, .bool r2000.2.forest.ok, .int .i64 r2000.2.at_]] : List Ent) := sels [] rfl
                        show trellislaw15_TreeWays_R w F  r (.returned (packV [.bool false])) wr
                        rw [h]
                        exact ⟨rfl, hMr⟩
                      · have h := if_neg' hp2630 h
                        refine g_false (c := trellislaw15_TreeWays_c88) rfl _ rfl ((bf hp2630)) ?_
                        refine g_skip (c := trellislaw15_TreeWays_c90) rfl ?_
                        refine g_seq (c := trellislaw15_TreeWays_c86) rfl ?_
                        refine g_seq (c := trellislaw15_TreeWays_c93) rfl ?_
                        refine g_region (c := trellislaw15_TreeWays_c95) rfl rfl ?_
                        refine wl_v 0 rfl (v_move rfl) gn rfl ?_
                        refine wl_v 1 rfl (v_move rfl) gn rfl ?_
                        obtain ⟨r2634, hv2635, h⟩ := h
                        refine wl_s 2 rfl (s_call [.slice A2 n3 c4, .int .i64 x1110] rfl Try.func41 rfl rfl rfl fun w2631 hL2632 => ?_) gn
                        have hp2633 : List.Perm ([.own (.slice A2025 n2026 c2027) 3 1 n2026 (r2023.flatMap (eI .i64)), .box gb54 36 [.slice A2002 n2003 c2004, .slice A2006 n2007 c2008, .slice A2010 n2011 c2012, .bool r2000.2.forest.ok, .int .i64 r2000.2.at_]] : List Ent) (([] : List Ent) ++ ([.own (.slice A2025 n2026 c2027) 3 1 n2026 (r2023.flatMap (eI .i64)), .box gb54 36 [.slice A2002 n2003 c2004, .slice A2006 n2007 c2008, .slice A2010 n2011 c2012, .bool r2000.2.forest.ok, .int .i64 r2000.2.at_]] : List Ent)) := perm_of_idx [] [0, 1] rfl rfl (by kernel_rfl)
                        refine Calls.mono (tree_Parent_calls w2631 (Fl ([] : List Snap)) x1 x1110 A2 n3 c4 (Rw.mono h5 (hL2632.toSt hp2633 (me 6 rfl))) (hL2632.hFl (Sl := ([] : List Snap)) hp2633 (sels [] rfl)) (hL2632.into hp2633 (Fl ([] : List Snap))) r2634 hv2635) ?_
                        rintro _ w2636 ⟨rfl, hM2637⟩
                        have hL2638 := hL2632.call hp2633 hM2637
                        refine ⟨_, _, _, rfl, hL2638, ?_⟩
                        refine wl_v 3 rfl (v_bin rfl rfl rfl) gn rfl ?_
                        refine w_end 4 rfl ?_
                        have j7 : ∀ (x2641 : Int) (h : trellislaw15_TreeWays_j7 r2000 r2023 x1 x1110 x2641 o2) , G (trellislaw15_TreeWays_C w F r) [.code trellislaw15_TreeWays_c94, .inBlock 1, .code trellislaw15_TreeWays_c50, .inLoop trellislaw15_TreeWays_c42, .inBlock 0, .code trellislaw15_TreeWays_c38] [(0, .slice A2 n3 c4), (3, .int .i64 r27), (4, .pointer (some ⟨gb54, 0, none⟩)), (5, .int .i64 x2641), (6, .int .i64 x1110), (7, .slice A2025 n2026 c2027)] [.own (.slice A2025 n2026 c2027) 3 1 n2026 (r2023.flatMap (eI .i64)), .box gb54 36 [.slice A2002 n2003 c2004, .slice A2006 n2007 c2008, .slice A2010 n2011 c2012, .bool r2000.2.forest.ok, .int .i64 r2000.2.at_]] [Sm w.heap.size F w2014 sb2018, Sm w.heap.size F sw1115 sb1116, Sm w.heap.size F sw1122 sb1123, Sm w.heap.size F sw1129 sb1130, Sm w.heap.size F w49 sb53, Sm w.heap.size F w [], St w []] := by
                          intro x2641 h
                          unfold trellislaw15_TreeWays_j7 at h
                          refine g_seq (c := trellislaw15_TreeWays_c94) rfl ?_
                          refine g_region (c := trellislaw15_TreeWays_c99) rfl rfl ?_
                          refine wl_v 0 rfl (v_move rfl) gn rfl ?_
                          obtain ⟨r2645, hv2646, h⟩ := h
                          refine wl_s 1 rfl (s_call [.pointer (some ⟨gb54, 0, none⟩)] rfl Try.func18 rfl rfl rfl fun w2642 hL2643 => ?_) gn
                          have hp2644 : List.Perm ([.own (.slice A2025 n2026 c2027) 3 1 n2026 (r2023.flatMap (eI .i64)), .box gb54 36 [.slice A2002 n2003 c2004, .slice A2006 n2007 c2008, .slice A2010 n2011 c2012, .bool r2000.2.forest.ok, .int .i64 r2000.2.at_]] : List Ent) (([.box gb54 36 [.slice A2002 n2003 c2004, .slice A2006 n2007 c2008, .slice A2010 n2011 c2012, .bool r2000.2.forest.ok, .int .i64 r2000.2.at_]] : List Ent) ++ ([.own (.slice A2025 n2026 c2027) 3 1 n2026 (r2023.flatMap (eI .i64))] : List Ent)) := perm_of_idx [1] [0] rfl rfl (by kernel_rfl)
                          refine Calls.mono (tree_Cursor_Down_calls w2642 (Fl ([Sm w.heap.size F w2014 sb2018] : List Snap)) (⟨r2000.2⟩ : tree_Cursor) gb54 36 A2002 n2003 c2004 A2006 n2007 c2008 A2010 n2011 c2012 (Rw.mono h2005 (hL2643.toFl (me 0 rfl) (me 0 rfl))) (Rw.mono h2009 (hL2643.toFl (me 0 rfl) (me 0 rfl))) (Rw.mono h2013 (hL2643.toFl (me 0 rfl) (me 0 rfl))) (hL2643.hFl (Sl := ([Sm w.heap.size F w2014 sb2018] : List Snap)) hp2644 (sels [0] rfl)) (hL2643.into hp2644 (Fl ([Sm w.heap.size F w2014 sb2018] : List Snap))) r2645 hv2646) ?_
                          rintro _ w2659 ⟨A2647, n2648, c2649, A2651, n2652, c2653, A2655, n2656, c2657, rfl, hM2660, h2650, h2654, h2658⟩
                          obtain ⟨sb2663, hL2661, hv2662⟩ := hL2643.callB (Sl := ([Sm w.heap.size F w2014 sb2018] : List Snap)) hp2644 hM2660 F (sels [0] rfl) ⟨Sm.ok, trivial⟩
                          have h2650 : At k_api_Node (Sm w.heap.size F w2659 sb2663) A2647 n2648 c2649 r2645.2.stand.forest.nodes := Rw.mono h2650 hv2662
                          have h2654 : At (kInt .i64) (Sm w.heap.size F w2659 sb2663) A2651 n2652 c2653 r2645.2.stand.forest.parent := Rw.mono h2654 hv2662
                          have h2658 : At (kInt .i64) (Sm w.heap.size F w2659 sb2663) A2655 n2656 c2657 r2645.2.stand.forest.end_ := Rw.mono h2658 hv2662
                          refine ⟨_, _, _, rfl, hL2661, ?_⟩
                          refine wl_v 2 rfl (v_assign rfl) gn rfl ?_
                          refine w_end 3 rfl ?_
                          refine g_seq (c := trellislaw15_TreeWays_c100) rfl ?_
                          refine g_seq (c := trellislaw15_TreeWays_c101) rfl ?_
                          refine g_region (c := trellislaw15_TreeWays_c103) rfl rfl ?_
                          refine wl_v 0 rfl (v_move rfl) gn rfl ?_
                          refine wl_v 1 rfl (v_move rfl) gn rfl ?_
                          refine wl_v 2 rfl (v_lenQ un_23 rfl (Ow.weak hL2021.env.size h2028).hq) gn rfl ?_
                          refine wl_v 3 rfl (v_bin rfl rfl rfl) gn rfl ?_
                          refine wl_v 4 rfl (v_neB un_4 rfl rfl) gn rfl ?_
                          refine w_end 5 rfl ?_
                          by_cases hp2664 : (r2645.1 != (decide ((r2023.length : Int) > 0))) = true
                          · have h := if_pos' hp2664 h
                            refine g_true (c := trellislaw15_TreeWays_c104) rfl _ rfl (hp2664) ?_
                            refine g_seq (c := trellislaw15_TreeWays_c105) rfl ?_
                            refine g_region (c := trellislaw15_TreeWays_c107) rfl rfl ?_
                            refine wl_v 0 rfl (v_assign rfl) gn rfl ?_
                            refine w_end 1 rfl ?_
                            have h := Out.inr hO2 h
                            have h := Out.inr hO1 h
                            refine g_retR (c := trellislaw15_TreeWays_c108) [.bool false] rfl Try.func9 rfl (.tmp rfl (.nil)) fun wr hLr => ?_
                            have hMr : B.Loc w wr [] [St w []] := hLr.pick (rest := [.box gb54 36 [.slice A2647 n2648 c2649, .slice A2651 n2652 c2653, .slice A2655 n2656 c2657, .bool r2645.2.stand.forest.ok, .int .i64 r2645.2.stand.at_], .own (.slice A2025 n2026 c2027) 3 1 n2026 (r2023.flatMap (eI .i64))]) (perm_of_idx [] [0, 1] rfl rfl (by kernel_rfl)) (sels [7] rfl)
                            have hMi : ∀ e ∈ ([] : List Ent), e ∈ ([.box gb54 36 [.slice A2647 n2648 c2649, .slice A2651 n2652 c2653, .slice A2655 n2656 c2657, .bool r2645.2.stand.forest.ok, .int .i64 r2645.2.stand.at_], .own (.slice A2025 n2026 c2027) 3 1 n2026 (r2023.flatMap (eI .i64))] : List Ent) := sels [] rfl
                            show trellislaw15_TreeWays_R w F  r (.returned (packV [.bool false])) wr
                            rw [h]
                            exact ⟨rfl, hMr⟩
                          · have h := if_neg' hp2664 h
                            refine g_false (c := trellislaw15_TreeWays_c104) rfl _ rfl ((bf hp2664)) ?_
                            refine g_skip (c := trellislaw15_TreeWays_c106) rfl ?_
                            refine g_seq (c := trellislaw15_TreeWays_c102) rfl ?_
                            refine g_seq (c := trellislaw15_TreeWays_c109) rfl ?_
                            refine g_region (c := trellislaw15_TreeWays_c111) rfl rfl ?_
                            refine wl_v 0 rfl (v_assign rfl) gn rfl ?_
                            refine w_end 1 rfl ?_
                            refine g_block (c := trellislaw15_TreeWays_c112) rfl ?_
                            refine g_loop (c := trellislaw15_TreeWays_c113) rfl ?_
                            have key8 : ∀ s, Rounds (fun (s : Bool × Int × (List api_Node) × (List Int) × (List Int) × Bool × Int) o => trellislaw15_TreeWays_b8 x1 x1110 x2641 s.1 s.2.1 s.2.2.1 s.2.2.2.1 s.2.2.2.2.1 s.2.2.2.2.2.1 s.2.2.2.2.2.2 o) s o2 → (fun (s : Bool × Int × (List api_Node) × (List Int) × (List Int) × Bool × Int) => ∀ (A2721 : Option Addr) (n2722 : Nat) (c2723 : Nat) (sw2724 : World) (sb2725 : List (List Nat)) (h2726 : At k_api_Node (Sm w.heap.size F sw2724 sb2725) A2721 n2722 c2723 s.2.2.1) (A2728 : Option Addr) (n2729 : Nat) (c2730 : Nat) (sw2731 : World) (sb2732 : List (List Nat)) (h2733 : At (kInt .i64) (Sm w.heap.size F sw2731 sb2732) A2728 n2729 c2730 s.2.2.2.1) (A2735 : Option Addr) (n2736 : Nat) (c2737 : Nat) (sw2738 : World) (sb2739 : List (List Nat)) (h2740 : At (kInt .i64) (Sm w.heap.size F sw2738 sb2739) A2735 n2736 c2737 s.2.2.2.2.1), G (trellislaw15_TreeWays_C w F r) [.code trellislaw15_TreeWays_c114, .inLoop trellislaw15_TreeWays_c114, .inBlock 4, .code trellislaw15_TreeWays_c110, .inBlock 1, .code trellislaw15_TreeWays_c50, .inLoop trellislaw15_TreeWays_c42, .inBlock 0, .code trellislaw15_TreeWays_c38] [(0, .slice A2 n3 c4), (3, .int .i64 r27), (4, .pointer (some ⟨gb54, 0, none⟩)), (5, .int .i64 x2641), (6, .int .i64 x1110), (10, .bool s.1), (11, .int .i64 s.2.1)] [.box gb54 36 [.slice A2721 n2722 c2723, .slice A2728 n2729 c2730, .slice A2735 n2736 c2737, .bool s.2.2.2.2.2.1, .int .i64 s.2.2.2.2.2.2]] [Sm w.heap.size F sw2724 sb2725, Sm w.heap.size F sw2731 sb2732, Sm w.heap.size F sw2738 sb2739, Sm w.heap.size F w2659 sb2663, Sm w.heap.size F w2014 sb2018, Sm w.heap.size F sw1115 sb1116, Sm w.heap.size F sw1122 sb1123, Sm w.heap.size F sw1129 sb1130, Sm w.heap.size F w49 sb53, Sm w.heap.size F w [], St w []]) s := by
                              intro s hs
                              refine Rounds.ind (mot := (fun (s : Bool × Int × (List api_Node) × (List Int) × (List Int) × Bool × Int) => ∀ (A2721 : Option Addr) (n2722 : Nat) (c2723 : Nat) (sw2724 : World) (sb2725 : List (List Nat)) (h2726 : At k_api_Node (Sm w.heap.size F sw2724 sb2725) A2721 n2722 c2723 s.2.2.1) (A2728 : Option Addr) (n2729 : Nat) (c2730 : Nat) (sw2731 : World) (sb2732 : List (List Nat)) (h2733 : At (kInt .i64) (Sm w.heap.size F sw2731 sb2732) A2728 n2729 c2730 s.2.2.2.1) (A2735 : Option Addr) (n2736 : Nat) (c2737 : Nat) (sw2738 : World) (sb2739 : List (List Nat)) (h2740 : At (kInt .i64) (Sm w.heap.size F sw2738 sb2739) A2735 n2736 c2737 s.2.2.2.2.1), G (trellislaw15_TreeWays_C w F r) [.code trellislaw15_TreeWays_c114, .inLoop trellislaw15_TreeWays_c114, .inBlock 4, .code trellislaw15_TreeWays_c110, .inBlock 1, .code trellislaw15_TreeWays_c50, .inLoop trellislaw15_TreeWays_c42, .inBlock 0, .code trellislaw15_TreeWays_c38] [(0, .slice A2 n3 c4), (3, .int .i64 r27), (4, .pointer (some ⟨gb54, 0, none⟩)), (5, .int .i64 x2641), (6, .int .i64 x1110), (10, .bool s.1), (11, .int .i64 s.2.1)] [.box gb54 36 [.slice A2721 n2722 c2723, .slice A2728 n2729 c2730, .slice A2735 n2736 c2737, .bool s.2.2.2.2.2.1, .int .i64 s.2.2.2.2.2.2]] [Sm w.heap.size F sw2724 sb2725, Sm w.heap.size F sw2731 sb2732, Sm w.heap.size F sw2738 sb2739, Sm w.heap.size F w2659 sb2663, Sm w.heap.size F w2014 sb2018, Sm w.heap.size F sw1115 sb1116, Sm w.heap.size F sw1122 sb1123, Sm w.heap.size F sw1129 sb1130, Sm w.heap.size F w49 sb53, Sm w.heap.size F w [], St w []])) ?_ hs
                              clear hs s
                              intro s o3 h hO3
                              obtain ⟨x2718, x2719, x2720, x2727, x2734, x2741, x2742⟩ := s
                              show ∀ (A2721 : Option Addr) (n2722 : Nat) (c2723 : Nat) (sw2724 : World) (sb2725 : List (List Nat)) (h2726 : At k_api_Node (Sm w.heap.size F sw2724 sb2725) A2721 n2722 c2723 x2720) (A2728 : Option Addr) (n2729 : Nat) (c2730 : Nat) (sw2731 : World) (sb2732 : List (List Nat)) (h2733 : At (kInt .i64) (Sm w.heap.size F sw2731 sb2732) A2728 n2729 c2730 x2727) (A2735 : Option Addr) (n2736 : Nat) (c2737 : Nat) (sw2738 : World) (sb2739 : List (List Nat)) (h2740 : At (kInt .i64) (Sm w.heap.size F sw2738 sb2739) A2735 n2736 c2737 x2734), G (trellislaw15_TreeWays_C w F r) [.code trellislaw15_TreeWays_c114, .inLoop trellislaw15_TreeWays_c114, .inBlock 4, .code trellislaw15_TreeWays_c110, .inBlock 1, .code trellislaw15_TreeWays_c50, .inLoop trellislaw15_TreeWays_c42, .inBlock 0, .code trellislaw15_TreeWays_c38] [(0, .slice A2 n3 c4), (3, .int .i64 r27), (4, .pointer (some ⟨gb54, 0, none⟩)), (5, .int .i64 x2641), (6, .int .i64 x1110), (10, .bool x2718), (11, .int .i64 x2719)] [.box gb54 36 [.slice A2721 n2722 c2723, .slice A2728 n2729 c2730, .slice A2735 n2736 c2737, .bool x2741, .int .i64 x2742]] [Sm w.heap.size F sw2724 sb2725, Sm w.heap.size F sw2731 sb2732, Sm w.heap.size F sw2738 sb2739, Sm w.heap.size F w2659 sb2663, Sm w.heap.size F w2014 sb2018, Sm w.heap.size F sw1115 sb1116, Sm w.heap.size F sw1122 sb1123, Sm w.heap.size F sw1129 sb1130, Sm w.heap.size F w49 sb53, Sm w.heap.size F w [], St w []]
                              intro A2721 n2722 c2723 sw2724 sb2725 h2726 A2728 n2729 c2730 sw2731 sb2732 h2733 A2735 n2736 c2737 sw2738 sb2739 h2740
                              have h : trellislaw15_TreeWays_b8 x1 x1110 x2641 x2718 x2719 x2720 x2727 x2734 x2741 x2742 o3 := h
                              unfold trellislaw15_TreeWays_b8 at h
                              refine g_seq (c := trellislaw15_TreeWays_c114) rfl ?_
                              refine g_seq (c := trellislaw15_TreeWays_c115) rfl ?_
                              have j9 : ∀ (x2797 : Bool) (h : trellislaw15_TreeWays_j9 x2720 x2727 x2734 x2741 x2742 x2719 x1 x2718 x1110 x2641 x2797 o3) , G (trellislaw15_TreeWays_C w F r) [.code trellislaw15_TreeWays_c118, .code trellislaw15_TreeWays_c116, .inLoop trellislaw15_TreeWays_c114, .inBlock 4, .code trellislaw15_TreeWays_c110, .inBlock 1, .code trellislaw15_TreeWays_c50, .inLoop trellislaw15_TreeWays_c42, .inBlock 0, .code trellislaw15_TreeWays_c38] [(0, .slice A2 n3 c4), (3, .int .i64 r27), (4, .pointer (some ⟨gb54, 0, none⟩)), (5, .int .i64 x2641), (6, .int .i64 x1110), (10, .bool x2718), (11, .int .i64 x2719), (139, .bool x2797)] [.box gb54 36 [.slice A2721 n2722 c2723, .slice A2728 n2729 c2730, .slice A2735 n2736 c2737, .bool x2741, .int .i64 x2742]] [Sm w.heap.size F sw2724 sb2725, Sm w.heap.size F sw2731 sb2732, Sm w.heap.size F sw2738 sb2739, Sm w.heap.size F w2659 sb2663, Sm w.heap.size F w2014 sb2018, Sm w.heap.size F sw1115 sb1116, Sm w.heap.size F sw1122 sb1123, Sm w.heap.size F sw1129 sb1130, Sm w.heap.size F w49 sb53, Sm w.heap.size F w [], St w []] := by
                                intro x2797 h
                                unfold trellislaw15_TreeWays_j9 at h
                                by_cases hp2798 : x2797 = true
                                · have h := if_pos' hp2798 h
                                  refine g_true (c := trellislaw15_TreeWays_c118) rfl _ rfl (hp2798) ?_
                                  refine g_skip (c := trellislaw15_TreeWays_c119) rfl ?_
                                  refine g_seq (c := trellislaw15_TreeWays_c116) rfl ?_
                                  refine g_block (c := trellislaw15_TreeWays_c121) rfl ?_
                                  refine g_seq (c := trellislaw15_TreeWays_c123) rfl ?_
                                  refine g_region (c := trellislaw15_TreeWays_c124) rfl rfl ?_
                                  refine wl_v 0 rfl (v_move rfl) gn rfl ?_
                                  obtain ⟨r2802, hv2803, h⟩ := h
                                  refine wl_s 1 rfl (s_call [.pointer (some ⟨gb54, 0, none⟩)] rfl Try.func20 rfl rfl rfl fun w2799 hL2800 => ?_) gn
                                  have hp2801 : List.Perm ([.box gb54 36 [.slice A2721 n2722 c2723, .slice A2728 n2729 c2730, .slice A2735 n2736 c2737, .bool x2741, .int .i64 x2742]] : List Ent) (([.box gb54 36 [.slice A2721 n2722 c2723, .slice A2728 n2729 c2730, .slice A2735 n2736 c2737, .bool x2741, .int .i64 x2742]] : List Ent) ++ ([] : List Ent)) := perm_of_idx [0] [] rfl rfl (by kernel_rfl)
                                  refine Calls.mono (tree_Cursor_Next_calls w2799 (Fl ([Sm w.heap.size F sw2724 sb2725, Sm w.heap.size F sw2731 sb2732, Sm w.heap.size F sw2738 sb2739] : List Snap)) (⟨(⟨(⟨x2720, x2727, x2734, x2741⟩ : tree_forest), x2742⟩ : tree_stand)⟩ : tree_Cursor) gb54 36 A2721 n2722 c2723 A2728 n2729 c2730 A2735 n2736 c2737 (Rw.mono h2726 (hL2800.toFl (me 0 rfl) (me 0 rfl))) (Rw.mono h2733 (hL2800.toFl (me 1 rfl) (me 1 rfl))) (Rw.mono h2740 (hL2800.toFl (me 2 rfl) (me 2 rfl))) (hL2800.hFl (Sl := ([Sm w.heap.size F sw2724 sb2725, Sm w.heap.size F sw2731 sb2732, Sm w.heap.size F sw2738 sb2739] : List Snap)) hp2801 (sels [0, 1, 2] rfl)) (hL2800.into hp2801 (Fl ([Sm w.heap.size F sw2724 sb2725, Sm w.heap.size F sw2731 sb2732, Sm w.heap.size F sw2738 sb2739] : List Snap))) r2802 hv2803) ?_
                                  rintro _ w2816 ⟨A2804, n2805, c2806, A2808, n2809, c2810, A2812, n2813, c2814, rfl, hM2817, h2807, h2811, h2815⟩
                                  obtain ⟨sb2820, hL2818, hv2819⟩ := hL2800.callB (Sl := ([Sm w.heap.size F sw2724 sb2725, Sm w.heap.size F sw2731 sb2732, Sm w.heap.size F sw2738 sb2739] : List Snap)) hp2801 hM2817 F (sels [0, 1, 2] rfl) ⟨Sm.ok, Sm.ok, Sm.ok, trivial⟩
                                  have h2807 : At k_api_Node (Sm w.heap.size F w2816 sb2820) A2804 n2805 c2806 r2802.2.stand.forest.nodes := Rw.mono h2807 hv2819
                                  have h2811 : At (kInt .i64) (Sm w.heap.size F w2816 sb2820) A2808 n2809 c2810 r2802.2.stand.forest.parent := Rw.mono h2811 hv2819
                                  have h2815 : At (kInt .i64) (Sm w.heap.size F w2816 sb2820) A2812 n2813 c2814 r2802.2.stand.forest.end_ := Rw.mono h2815 hv2819
                                  refine ⟨_, _, _, rfl, hL2818, ?_⟩
                                  refine wl_v 2 rfl (v_assign rfl) gn rfl ?_
                                  refine w_end 3 rfl ?_
                                  refine g_seq (c := trellislaw15_TreeWays_c125) rfl ?_
                                  refine g_region (c := trellislaw15_TreeWays_c126) rfl rfl ?_
                                  refine wl_v 0 rfl (v_move rfl) gn rfl ?_
                                  refine wl_v 1 rfl (v_not rfl) gn rfl ?_
                                  refine wl_v 2 rfl (v_move rfl) gn rfl ?_
                                  by_cases hp2821 : r2802.1 = true
                                  · have h := if_pos' hp2821 h
                                    refine w_bool 146 rfl ((nf hp2821)) ?_
                                    refine wl_pass 3 rfl (ps 146 rfl rfl rfl) ?_
                                    refine wl_pass 4 rfl (ps 146 rfl rfl rfl) ?_
                                    refine wl_pass 5 rfl (ps 146 rfl rfl rfl) ?_
                                    refine wl_v 6 rfl (v_pick (b := false) rfl rfl) gn rfl ?_
                                    refine w_end 7 rfl ?_
                                    refine g_false (c := trellislaw15_TreeWays_c127) rfl _ rfl (rfl) ?_
                                    refine g_skip (c := trellislaw15_TreeWays_c129) rfl ?_
                                    refine g_inBlock ?_
                                    refine g_region (c := trellislaw15_TreeWays_c122) rfl rfl ?_
                                    refine wl_v 0 rfl (v_move rfl) gn rfl ?_
                                    refine wl_v 1 rfl (v_bin rfl rfl rfl) gn rfl ?_
                                    refine wl_v 2 rfl (v_assign rfl) gn rfl ?_
                                    refine w_end 3 rfl ?_
                                    refine g_inLoop ?_
                                    have ih := Out.inl hO3 h
                                    exact g_go [0, 0, 0, 4, 5, 6, 7, 8, 9, 10, 11] (ih A2804 n2805 c2806 w2816 sb2820 h2807 A2808 n2809 c2810 w2816 sb2820 h2811 A2812 n2813 c2814 w2816 sb2820 h2815) ⟨rfl, rfl, rfl, rfl, rfl, rfl, rfl, trivial⟩ (.cons_cons _ (.slnil)) rfl
                                  · have h := if_neg' hp2821 h
                                    refine w_bool 146 rfl ((nt (bf hp2821))) ?_
                                    refine wl_v 3 rfl (v_move rfl) (gy 146 rfl rfl) rfl ?_
                                    obtain ⟨r2825, hv2826, h⟩ := h
                                    refine wl_s 4 rfl (s_call [.pointer (some ⟨gb54, 0, none⟩)] rfl Try.func22 rfl rfl rfl fun w2822 hL2823 => ?_) (gy 146 rfl rfl)
                                    have hp2824 : List.Perm ([.box gb54 36 [.slice A2804 n2805 c2806, .slice A2808 n2809 c2810, .slice A2812 n2813 c2814, .bool r2802.2.stand.forest.ok, .int .i64 r2802.2.stand.at_]] : List Ent) (([.box gb54 36 [.slice A2804 n2805 c2806, .slice A2808 n2809 c2810, .slice A2812 n2813 c2814, .bool r2802.2.stand.forest.ok, .int .i64 r2802.2.stand.at_]] : List Ent) ++ ([] : List Ent)) := perm_of_idx [0] [] rfl rfl (by kernel_rfl)
                                    refine Calls.mono (tree_Cursor_Up_calls w2822 (Fl ([Sm w.heap.size F w2816 sb2820] : List Snap)) r2802.2 gb54 36 A2804 n2805 c2806 A2808 n2809 c2810 A2812 n2813 c2814 (Rw.mono h2807 (hL2823.toFl (me 0 rfl) (me 0 rfl))) (Rw.mono h2811 (hL2823.toFl (me 0 rfl) (me 0 rfl))) (Rw.mono h2815 (hL2823.toFl (me 0 rfl) (me 0 rfl))) (hL2823.hFl (Sl := ([Sm w.heap.size F w2816 sb2820] : List Snap)) hp2824 (sels [0] rfl)) (hL2823.into hp2824 (Fl ([Sm w.heap.size F w2816 sb2820] : List Snap))) r2825 hv2826) ?_
                                    rintro _ w2839 ⟨A2827, n2828, c2829, A2831, n2832, c2833, A2835, n2836, c2837, rfl, hM2840, h2830, h2834, h2838⟩
                                    obtain ⟨sb2843, hL2841, hv2842⟩ := hL2823.callB (Sl := ([Sm w.heap.size F w2816 sb2820] : List Snap)) hp2824 hM2840 F (sels [0] rfl) ⟨Sm.ok, trivial⟩
                                    have h2830 : At k_api_Node (Sm w.heap.size F w2839 sb2843) A2827 n2828 c2829 r2825.2.stand.forest.nodes := Rw.mono h2830 hv2842
                                    have h2834 : At (kInt .i64) (Sm w.heap.size F w2839 sb2843) A2831 n2832 c2833 r2825.2.stand.forest.parent := Rw.mono h2834 hv2842
                                    have h2838 : At (kInt .i64) (Sm w.heap.size F w2839 sb2843) A2835 n2836 c2837 r2825.2.stand.forest.end_ := Rw.mono h2838 hv2842
                                    refine ⟨_, _, _, rfl, hL2841, ?_⟩
                                    refine wl_v 5 rfl (v_not rfl) (gy 146 rfl rfl) rfl ?_
                                    refine wl_v 6 rfl (v_pick (b := true) rfl rfl) gn rfl ?_
                                    refine w_end 7 rfl ?_
                                    by_cases hp2844 : r2825.1 = true
                                    · have h := if_pos' hp2844 h
                                      refine g_false (c := trellislaw15_TreeWays_c127) rfl _ rfl ((nf hp2844)) ?_
                                      refine g_skip (c := trellislaw15_TreeWays_c129) rfl ?_
                                      refine g_inBlock ?_
                                      refine g_region (c := trellislaw15_TreeWays_c122) rfl rfl ?_
                                      refine wl_v 0 rfl (v_move rfl) gn rfl ?_
                                      refine wl_v 1 rfl (v_bin rfl rfl rfl) gn rfl ?_
                                      refine wl_v 2 rfl (v_assign rfl) gn rfl ?_
                                      refine w_end 3 rfl ?_
                                      refine g_inLoop ?_
                                      have ih := Out.inl hO3 h
                                      exact g_go [0, 0, 0, 5, 6, 7, 8, 9, 10, 11, 12] (ih A2827 n2828 c2829 w2839 sb2843 h2830 A2831 n2832 c2833 w2839 sb2843 h2834 A2835 n2836 c2837 w2839 sb2843 h2838) ⟨rfl, rfl, rfl, rfl, rfl, rfl, rfl, trivial⟩ (.cons_cons _ (.slnil)) rfl
                                    · have h := if_neg' hp2844 h
                                      refine g_true (c := trellislaw15_TreeWays_c127) rfl _ rfl ((nt (bf hp2844))) ?_
                                      refine g_region (c := trellislaw15_TreeWays_c128) rfl rfl ?_
                                      refine wl_v 0 rfl (v_move rfl) gn rfl ?_
                                      refine wl_v 1 rfl (v_lenQ un_22 rfl h5.hq) gn rfl ?_
                                      refine wl_v 2 rfl (v_assign rfl) gn rfl ?_
                                      refine w_end 3 rfl ?_
                                      refine g_inBlock ?_
                                      refine g_region (c := trellislaw15_TreeWays_c122) rfl rfl ?_
                                      refine wl_v 0 rfl (v_move rfl) gn rfl ?_
                                      refine wl_v 1 rfl (v_bin rfl rfl rfl) gn rfl ?_
                                      refine wl_v 2 rfl (v_assign rfl) gn rfl ?_
                                      refine w_end 3 rfl ?_
                                      refine g_inLoop ?_
                                      have ih := Out.inl hO3 h
                                      exact g_go [0, 0, 0, 5, 6, 7, 8, 9, 10, 11, 12] (ih A2827 n2828 c2829 w2839 sb2843 h2830 A2831 n2832 c2833 w2839 sb2843 h2834 A2835 n2836 c2837 w2839 sb2843 h2838) ⟨rfl, rfl, rfl, rfl, rfl, rfl, rfl, trivial⟩ (.cons_cons _ (.slnil)) rfl
                                · have h := if_neg' hp2798 h
                                  refine g_false (c := trellislaw15_TreeWays_c118) rfl _ rfl ((bf hp2798)) ?_
                                  refine g_exit (c := trellislaw15_TreeWays_c120) [.code trellislaw15_TreeWays_c110, .inBlock 1, .code trellislaw15_TreeWays_c50, .inLoop trellislaw15_TreeWays_c42, .inBlock 0, .code trellislaw15_TreeWays_c38] rfl rfl ?_
                                  refine g_seq (c := trellislaw15_TreeWays_c110) rfl ?_
                                  refine g_region (c := trellislaw15_TreeWays_c130) rfl rfl ?_
                                  refine wl_v 0 rfl (v_move rfl) gn rfl ?_
                                  refine wl_v 1 rfl (v_move rfl) gn rfl ?_
                                  refine wl_v 2 rfl (v_move rfl) gn rfl ?_
                                  refine wl_v 3 rfl (v_lenQ un_22 rfl h5.hq) gn rfl ?_
                                  refine wl_v 4 rfl (v_bin rfl rfl rfl) gn rfl ?_
                                  refine wl_v 5 rfl (v_bin rfl rfl rfl) gn rfl ?_
                                  refine wl_v 6 rfl (v_neB un_4 rfl rfl) gn rfl ?_
                                  refine w_end 7 rfl ?_
                                  by_cases hp2845 : (x2718 != (decide (x1110 < w64 ((x1.length : Int) - 1)))) = true
                                  · have h := if_pos' hp2845 h
                                    refine g_true (c := trellislaw15_TreeWays_c131) rfl _ rfl (hp2845) ?_
                                    refine g_seq (c := trellislaw15_TreeWays_c132) rfl ?_
                                    refine g_region (c := trellislaw15_TreeWays_c134) rfl rfl ?_
                                    refine wl_v 0 rfl (v_assign rfl) gn rfl ?_
                                    refine w_end 1 rfl ?_
                                    have h := Out.inr hO3 h
                                    have h := Out.inr hO2 h
                                    have h := Out.inr hO1 h
                                    refine g_retR (c := trellislaw15_TreeWays_c135) [.bool false] rfl Try.func9 rfl (.tmp rfl (.nil)) fun wr hLr => ?_
                                    have hMr : B.Loc w wr [] [St w []] := hLr.pick (rest := [.box gb54 36 [.slice A2721 n2722 c2723, .slice A2728 n2729 c2730, .slice A2735 n2736 c2737, .bool x2741, .int .i64 x2742]]) (perm_of_idx [] [0] rfl rfl (by kernel_rfl)) (sels [10] rfl)
                                    have hMi : ∀ e ∈ ([] : List Ent), e ∈ ([.box gb54 36 [.slice A2721 n2722 c2723, .slice A2728 n2729 c2730, .slice A2735 n2736 c2737, .bool x2741, .int .i64 x2742]] : List Ent) := sels [] rfl
                                    show trellislaw15_TreeWays_R w F  r (.returned (packV [.bool false])) wr
                                    rw [h]
                                    exact ⟨rfl, hMr⟩
                                  · have h := if_neg' hp2845 h
                                    refine g_false (c := trellislaw15_TreeWays_c131) rfl _ rfl ((bf hp2845)) ?_
                                    refine g_skip (c := trellislaw15_TreeWays_c133) rfl ?_
                                    refine g_inBlock ?_
                                    refine g_region (c := trellislaw15_TreeWays_c50) rfl rfl ?_
                                    refine wl_v 0 rfl (v_move rfl) gn rfl ?_
                                    refine wl_v 1 rfl (v_bin rfl rfl rfl) gn rfl ?_
                                    refine wl_v 2 rfl (v_assign rfl) gn rfl ?_
                                    refine w_end 3 rfl ?_
                                    refine g_inLoop ?_
                                    have h := Out.inr hO3 h
                                    have h := Out.inr hO2 h
                                    have ih := Out.inl hO1 h
                                    exact g_go [0, 1, 2, 8, 9, 10] (ih A2721 n2722 c2723 sw2724 sb2725 h2726 A2728 n2729 c2730 sw2731 sb2732 h2733 A2735 n2736 c2737 sw2738 sb2739 h2740) ⟨rfl, rfl, rfl, rfl, rfl, trivial⟩ (.cons_cons _ (.slnil)) rfl
                              refine g_region (c := trellislaw15_TreeWays_c117) rfl rfl ?_
                              refine wl_v 0 rfl (v_move rfl) gn rfl ?_
                              refine wl_v 1 rfl (v_move rfl) gn rfl ?_
                              refine wl_v 2 rfl (v_lenQ un_22 rfl h5.hq) gn rfl ?_
                              refine wl_v 3 rfl (v_bin rfl rfl rfl) gn rfl ?_
                              refine wl_v 4 rfl (v_move rfl) gn rfl ?_
                              by_cases hp2846 : x2719 ≤ (x1.length : Int)
                              · have h := if_pos' hp2846 h
                                refine w_bool 136 rfl ((decide_eq_true hp2846)) ?_
                                refine wl_v 5 rfl (v_move rfl) (gy 136 rfl rfl) rfl ?_
                                refine wl_v 6 rfl (v_not rfl) (gy 136 rfl rfl) rfl ?_
                                refine wl_v 7 rfl (v_pick (b := true) rfl rfl) gn rfl ?_
                                refine w_end 8 rfl ?_
                                exact g_go [0, 1, 2, 3, 4, 5, 6, 7, 8, 9, 10] (j9 (!x2718) h) ⟨rfl, rfl, rfl, rfl, rfl, rfl, rfl, rfl, trivial⟩ (.cons_cons _ (.slnil)) rfl
                              · have h := if_neg' hp2846 h
                                refine w_bool 136 rfl ((decide_eq_false hp2846)) ?_
                                refine wl_pass 5 rfl (ps 136 rfl rfl rfl) ?_
                                refine wl_pass 6 rfl (ps 136 rfl rfl rfl) ?_
                                refine wl_v 7 rfl (v_pick (b := false) rfl rfl) gn rfl ?_
                                refine w_end 8 rfl ?_
                                exact g_go [0, 1, 2, 3, 4, 5, 6, 7, 8, 9, 10] (j9 false h) ⟨rfl, rfl, rfl, rfl, rfl, rfl, rfl, rfl, trivial⟩ (.cons_cons _ (.slnil)) rfl
                            exact g_go [0, 0, 0, 0, 1, 2, 3, 4, 5, 6, 7] (key8 _ h A2647 n2648 c2649 w2659 sb2663 h2650 A2651 n2652 c2653 w2659 sb2663 h2654 A2655 n2656 c2657 w2659 sb2663 h2658) ⟨rfl, rfl, rfl, rfl, rfl, rfl, rfl, trivial⟩ (.cons_cons _ (.cons _ (.slnil))) rfl
                        by_cases hp2639 : r2634 = -1
                        · have h := if_pos' hp2639 h
                          refine g_true (c := trellislaw15_TreeWays_c96) rfl _ rfl ((eqi hp2639)) ?_
                          refine g_region (c := trellislaw15_TreeWays_c97) rfl rfl ?_
                          refine wl_v 0 rfl (v_move rfl) gn rfl ?_
                          refine wl_v 1 rfl (v_bin rfl rfl rfl) gn rfl ?_
                          refine wl_v 2 rfl (v_assign rfl) gn rfl ?_
                          refine w_end 3 rfl ?_
                          exact g_go [0, 1, 2, 3, 4, 5, 6] (j7 (w64 (x1109 + 1)) h) ⟨rfl, rfl, rfl, rfl, rfl, rfl, trivial⟩ (.cons_cons _ (.cons_cons _ (.slnil))) rfl
                        · have h := if_neg' hp2639 h
                          refine g_false (c := trellislaw15_TreeWays_c96) rfl _ rfl ((nei hp2639)) ?_
                          refine g_skip (c := trellislaw15_TreeWays_c98) rfl ?_
                          exact g_go [0, 1, 2, 3, 4, 5, 6] (j7 x1109 h) ⟨rfl, rfl, rfl, rfl, rfl, rfl, trivial⟩ (.cons_cons _ (.cons_cons _ (.slnil))) rfl
                    refine g_region (c := trellislaw15_TreeWays_c87) rfl rfl ?_
                    refine wl_v 0 rfl (v_move rfl) gn rfl ?_
                    refine wl_v 1 rfl (v_move rfl) gn rfl ?_
                    obtain ⟨r2850, hv2851, h⟩ := h
                    refine wl_s 2 rfl (s_call [.slice A2 n3 c4, .int .i64 x1110] rfl Try.func43 rfl rfl rfl fun w2847 hL2848 => ?_) gn
                    have hp2849 : List.Perm ([.own (.slice A2025 n2026 c2027) 3 1 n2026 (r2023.flatMap (eI .i64)), .box gb54 36 [.slice A2002 n2003 c2004, .slice A2006 n2007 c2008, .slice A2010 n2011 c2012, .bool r2000.2.forest.ok, .int .i64 r2000.2.at_]] : List Ent) (([] : List Ent) ++ ([.own (.slice A2025 n2026 c2027) 3 1 n2026 (r2023.flatMap (eI .i64)), .box gb54 36 [.slice A2002 n2003 c2004, .slice A2006 n2007 c2008, .slice A2010 n2011 c2012, .bool r2000.2.forest.ok, .int .i64 r2000.2.at_]] : List Ent)) := perm_of_idx [] [0, 1] rfl rfl (by kernel_rfl)
                    refine Calls.mono (tree_Size_calls w2847 (Fl ([] : List Snap)) x1 x1110 A2 n3 c4 (Rw.mono h5 (hL2848.toSt hp2849 (me 6 rfl))) (hL2848.hFl (Sl := ([] : List Snap)) hp2849 (sels [] rfl)) (hL2848.into hp2849 (Fl ([] : List Snap))) r2850 hv2851) ?_
                    rintro _ w2852 ⟨rfl, hM2853⟩
                    have hL2854 := hL2848.call hp2849 hM2853
                    refine ⟨_, _, _, rfl, hL2854, ?_⟩
                    refine wl_v 3 rfl (v_move rfl) gn rfl ?_
                    refine wl_v 4 rfl (v_bin rfl rfl rfl) gn rfl ?_
                    refine wl_v 5 rfl (v_move rfl) gn rfl ?_
                    by_cases hp2855 : r2850 = x2308
                    · have h := if_pos' hp2855 h
                      refine w_bool 109 rfl ((eqib hp2855)) ?_
                      refine wl_v 6 rfl (v_move rfl) (gy 109 rfl rfl) rfl ?_
                      refine wl_v 7 rfl (v_lenQ un_23 rfl (Ow.weak hL2021.env.size h2028).hq) (gy 109 rfl rfl) rfl ?_
                      refine wl_v 8 rfl (v_move rfl) (gy 109 rfl rfl) rfl ?_
                      refine wl_v 9 rfl (v_move rfl) (gy 109 rfl rfl) rfl ?_
                      obtain ⟨hb2856, h⟩ := h
                      have hr2857 := Rw.readF (s := St w []) (hl := hl_api_Node) (h1 := h1_api_Node) h5 hb2856
                      refine wl_v 10 rfl (v_idxR (s := St w []) slE_22 rfl rfl h5 hb2856) (gy 109 rfl rfl) rfl ?_
                      refine wl_v 11 rfl (v_fldA fo_39_5 rfl) (gy 109 rfl rfl) rfl ?_
                      refine wl_v 12 rfl (v_ldA1 (kk := (x1110 : Int).toNat * 7) (j := 5) (St w []) ld_3 rfl hr2857 rfl (me 6 rfl)) (gy 109 rfl rfl) rfl ?_
                      refine wl_v 13 rfl (v_bin rfl rfl rfl) (gy 109 rfl rfl) rfl ?_
                      refine wl_v 14 rfl (v_pick (b := false) rfl rfl) gn rfl ?_
                      refine w_end 15 rfl ?_
                      exact g_go [0, 1, 2, 3, 4, 5, 6] (j6 ((r2023.length : Int) != ((ix x1 x1110).kids)) h) ⟨rfl, rfl, rfl, rfl, rfl, rfl, rfl, trivial⟩ (.cons_cons _ (.cons_cons _ (.slnil))) rfl
                    · have h := if_neg' hp2855 h
                      refine w_bool 109 rfl ((neib hp2855)) ?_
                      refine wl_pass 6 rfl (ps 109 rfl rfl rfl) ?_
                      refine wl_pass 7 rfl (ps 109 rfl rfl rfl) ?_
                      refine wl_pass 8 rfl (ps 109 rfl rfl rfl) ?_
                      refine wl_pass 9 rfl (ps 109 rfl rfl rfl) ?_
                      refine wl_pass 10 rfl (ps 109 rfl rfl rfl) ?_
                      refine wl_pass 11 rfl (ps 109 rfl rfl rfl) ?_
                      refine wl_pass 12 rfl (ps 109 rfl rfl rfl) ?_
                      refine wl_pass 13 rfl (ps 109 rfl rfl rfl) ?_
                      refine wl_v 14 rfl (v_pick (b := true) rfl rfl) gn rfl ?_
                      refine w_end 15 rfl ?_
                      exact g_go [0, 1, 2, 3, 4, 5, 6] (j6 true h) ⟨rfl, rfl, rfl, rfl, rfl, rfl, rfl, trivial⟩ (.cons_cons _ (.cons_cons _ (.slnil))) rfl
                exact g_go [0, 1, 2, 3, 4, 5, 6] (key4 _ h ()) ⟨rfl, rfl, rfl, rfl, rfl, rfl, rfl, rfl, trivial⟩ (.cons_cons _ (.cons_cons _ (.slnil))) rfl
              · have h := if_neg' hp2019 h
                refine g_true (c := trellislaw15_TreeWays_c55) rfl _ rfl ((neib hp2019)) ?_
                refine g_seq (c := trellislaw15_TreeWays_c56) rfl ?_
                refine g_region (c := trellislaw15_TreeWays_c136) rfl rfl ?_
                refine wl_v 0 rfl (v_assign rfl) gn rfl ?_
                refine w_end 1 rfl ?_
                have h := Out.inr hO1 h
                refine g_retR (c := trellislaw15_TreeWays_c137) [.bool false] rfl Try.func9 rfl (.tmp rfl (.nil)) fun wr hLr => ?_
                have hMr : B.Loc w wr [] [St w []] := hLr.pick (rest := [.box gb54 36 [.slice A2002 n2003 c2004, .slice A2006 n2007 c2008, .slice A2010 n2011 c2012, .bool r2000.2.forest.ok, .int .i64 r2000.2.at_]]) (perm_of_idx [] [0] rfl rfl (by kernel_rfl)) (sels [6] rfl)
                have hMi : ∀ e ∈ ([] : List Ent), e ∈ ([.box gb54 36 [.slice A2002 n2003 c2004, .slice A2006 n2007 c2008, .slice A2010 n2011 c2012, .bool r2000.2.forest.ok, .int .i64 r2000.2.at_]] : List Ent) := sels [] rfl
                show trellislaw15_TreeWays_R w F  r (.returned (packV [.bool false])) wr
                rw [h]
                exact ⟨rfl, hMr⟩
            · have h := if_neg' hp1996 h
              refine g_false (c := trellislaw15_TreeWays_c46) rfl _ rfl ((decide_eq_false hp1996)) ?_
              refine g_exit (c := trellislaw15_TreeWays_c48) [.code trellislaw15_TreeWays_c38] rfl rfl ?_
              refine g_seq (c := trellislaw15_TreeWays_c38) rfl ?_
              refine g_region (c := trellislaw15_TreeWays_c138) rfl rfl ?_
              refine wl_v 0 rfl (v_move rfl) gn rfl ?_
              refine wl_v 1 rfl (v_move rfl) gn rfl ?_
              refine wl_v 2 rfl (v_bin rfl rfl rfl) gn rfl ?_
              refine wl_v 3 rfl (v_assign rfl) gn rfl ?_
              refine w_end 4 rfl ?_
              have h := Out.inr hO1 h
              refine g_retR (c := trellislaw15_TreeWays_c139) [.bool (x1109 == r27)] rfl Try.func9 rfl (.tmp rfl (.nil)) fun wr hLr => ?_
              have hMr : B.Loc w wr [] [St w []] := hLr.pick (rest := [.box gb54 36 [.slice A1112 n1113 c1114, .slice A1119 n1120 c1121, .slice A1126 n1127 c1128, .bool x1132, .int .i64 x1133]]) (perm_of_idx [] [0] rfl rfl (by kernel_rfl)) (sels [5] rfl)
              have hMi : ∀ e ∈ ([] : List Ent), e ∈ ([.box gb54 36 [.slice A1112 n1113 c1114, .slice A1119 n1120 c1121, .slice A1126 n1127 c1128, .bool x1132, .int .i64 x1133]] : List Ent) := sels [] rfl
              show trellislaw15_TreeWays_R w F  r (.returned (packV [.bool (x1109 == r27)])) wr
              rw [h]
              exact ⟨rfl, hMr⟩
          exact g_go [0, 0, 0, 0, 1, 2] (key3 _ h A37 n38 c39 w49 sb53 h40 A41 n42 c43 w49 sb53 h44 A45 n46 c47 w49 sb53 h48) ⟨rfl, rfl, rfl, rfl, rfl, trivial⟩ (.cons_cons _ (.slnil)) rfl
      refine g_region (c := trellislaw15_TreeWays_c29) rfl rfl ?_
      refine wl_v 0 rfl (v_move rfl) gn rfl ?_
      refine wl_v 1 rfl (v_bin rfl rfl rfl) gn rfl ?_
      refine wl_v 2 rfl (v_move rfl) gn rfl ?_
      by_cases hp2858 : r27 < 0
      · have h := if_pos' hp2858 h
        refine w_bool 24 rfl ((decide_eq_true hp2858)) ?_
        refine wl_pass 3 rfl (ps 24 rfl rfl rfl) ?_
        refine wl_pass 4 rfl (ps 24 rfl rfl rfl) ?_
        refine wl_pass 5 rfl (ps 24 rfl rfl rfl) ?_
        refine wl_v 6 rfl (v_pick (b := true) rfl rfl) gn rfl ?_
        refine w_end 7 rfl ?_
        exact g_go [0, 1, 2] (j1 true h) ⟨rfl, rfl, rfl, rfl, trivial⟩ (.cons_cons _ (.slnil)) rfl
      · have h := if_neg' hp2858 h
        refine w_bool 24 rfl ((decide_eq_false hp2858)) ?_
        refine wl_v 3 rfl (v_move rfl) (gy 24 rfl rfl) rfl ?_
        refine wl_v 4 rfl (v_lenQ un_22 rfl h5.hq) (gy 24 rfl rfl) rfl ?_
        refine wl_v 5 rfl (v_bin rfl rfl rfl) (gy 24 rfl rfl) rfl ?_
        refine wl_v 6 rfl (v_pick (b := false) rfl rfl) gn rfl ?_
        refine w_end 7 rfl ?_
        exact g_go [0, 1, 2] (j1 ((x1.length : Int) == 0) h) ⟨rfl, rfl, rfl, rfl, trivial⟩ (.cons_cons _ (.slnil)) rfl
  · have h := if_neg' hp14 h
    refine g_true (c := trellislaw15_TreeWays_c6) rfl _ rfl ((nt (bf hp14))) ?_
    refine g_seq (c := trellislaw15_TreeWays_c7) rfl ?_
    refine g_region (c := trellislaw15_TreeWays_c140) rfl rfl ?_
    refine wl_v 0 rfl (v_assign rfl) gn rfl ?_
    refine w_end 1 rfl ?_
    refine g_retR (c := trellislaw15_TreeWays_c141) [.bool false] rfl Try.func9 rfl (.tmp rfl (.nil)) fun wr hLr => ?_
    have hMr : B.Loc w wr [] [St w []] := hLr.pick (rest := []) (perm_of_idx [] [] rfl rfl (by kernel_rfl)) (sels [1] rfl)
    have hMi : ∀ e ∈ ([] : List Ent), e ∈ ([] : List Ent) := sels [] rfl
    show trellislaw15_TreeWays_R w F  r (.returned (packV [.bool false])) wr
    rw [h]
    exact ⟨rfl, hMr⟩
end Go.Proofs.Ytmekgfcfooghnaa.K
