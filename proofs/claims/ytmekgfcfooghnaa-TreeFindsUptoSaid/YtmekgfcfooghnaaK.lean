/- What the machine's calls do, function by function, printed by my own tool. Condition of each: its relation holds of the answer, and what is handed in lies in memory as told. -/
import Derived.Test.YtmekgfcfooghnaaK3
set_option linter.unusedVariables false
set_option maxRecDepth 100000
set_option maxHeartbeats 4000000
namespace Go.Proofs.Ytmekgfcfooghnaa.K
open Go.Proofs.Ytmekgfcfooghnaa.B Go.Proofs.Ytmekgfcfooghnaa.R Go.RowKit
noncomputable abbrev trellislaw15_finds_c0 : Code := bodyOf Try.f30
noncomputable abbrev trellislaw15_finds_c1 : Code := Code.fst trellislaw15_finds_c0
noncomputable abbrev trellislaw15_finds_c2 : Code := Code.snd trellislaw15_finds_c0
noncomputable abbrev trellislaw15_finds_c3 : Code := Code.fst trellislaw15_finds_c2
noncomputable abbrev trellislaw15_finds_c4 : Code := Code.snd trellislaw15_finds_c2
noncomputable abbrev trellislaw15_finds_c5 : Code := Code.fst trellislaw15_finds_c4
noncomputable abbrev trellislaw15_finds_c6 : Code := Code.snd trellislaw15_finds_c4
noncomputable abbrev trellislaw15_finds_c7 : Code := Code.fst trellislaw15_finds_c6
noncomputable abbrev trellislaw15_finds_c8 : Code := Code.snd trellislaw15_finds_c6
noncomputable abbrev trellislaw15_finds_c9 : Code := Code.fst trellislaw15_finds_c8
noncomputable abbrev trellislaw15_finds_c10 : Code := Code.snd trellislaw15_finds_c8
noncomputable abbrev trellislaw15_finds_c11 : Code := Code.fst trellislaw15_finds_c10
noncomputable abbrev trellislaw15_finds_c12 : Code := Code.snd trellislaw15_finds_c10
noncomputable abbrev trellislaw15_finds_c13 : Code := Code.fst trellislaw15_finds_c12
noncomputable abbrev trellislaw15_finds_c14 : Code := Code.snd trellislaw15_finds_c12
noncomputable abbrev trellislaw15_finds_c15 : Code := Code.fst trellislaw15_finds_c14
noncomputable abbrev trellislaw15_finds_c16 : Code := Code.snd trellislaw15_finds_c14
noncomputable abbrev trellislaw15_finds_c17 : Code := Code.fst trellislaw15_finds_c15
noncomputable abbrev trellislaw15_finds_c18 : Code := Code.snd trellislaw15_finds_c15
noncomputable abbrev trellislaw15_finds_c19 : Code := Code.fst trellislaw15_finds_c18
noncomputable abbrev trellislaw15_finds_c20 : Code := Code.snd trellislaw15_finds_c18
noncomputable abbrev trellislaw15_finds_c21 : Code := Code.fst trellislaw15_finds_c19
noncomputable abbrev trellislaw15_finds_c22 : Code := Code.snd trellislaw15_finds_c19
noncomputable abbrev trellislaw15_finds_c23 : Code := Code.fst trellislaw15_finds_c16
noncomputable abbrev trellislaw15_finds_c24 : Code := Code.snd trellislaw15_finds_c16
noncomputable abbrev trellislaw15_finds_c25 : Code := Code.fst trellislaw15_finds_c23
noncomputable abbrev trellislaw15_finds_c26 : Code := Code.snd trellislaw15_finds_c23
noncomputable abbrev trellislaw15_finds_c27 : Code := Code.fst trellislaw15_finds_c26
noncomputable abbrev trellislaw15_finds_c28 : Code := Code.fst trellislaw15_finds_c27
noncomputable abbrev trellislaw15_finds_c29 : Code := Code.fst trellislaw15_finds_c28
noncomputable abbrev trellislaw15_finds_c30 : Code := Code.snd trellislaw15_finds_c28
noncomputable abbrev trellislaw15_finds_c31 : Code := Code.fst trellislaw15_finds_c29
noncomputable abbrev trellislaw15_finds_c32 : Code := Code.snd trellislaw15_finds_c29
noncomputable abbrev trellislaw15_finds_c33 : Code := Code.fst trellislaw15_finds_c32
noncomputable abbrev trellislaw15_finds_c34 : Code := Code.snd trellislaw15_finds_c32
noncomputable abbrev trellislaw15_finds_c35 : Code := Code.fst trellislaw15_finds_c30
noncomputable abbrev trellislaw15_finds_c36 : Code := Code.snd trellislaw15_finds_c30
noncomputable abbrev trellislaw15_finds_c37 : Code := Code.fst trellislaw15_finds_c35
noncomputable abbrev trellislaw15_finds_c38 : Code := Code.fst trellislaw15_finds_c24
noncomputable abbrev trellislaw15_finds_c39 : Code := Code.snd trellislaw15_finds_c24
noncomputable abbrev trellislaw15_finds_c40 : Code := Code.fst trellislaw15_finds_c38
noncomputable abbrev trellislaw15_finds_c41 : Code := Code.snd trellislaw15_finds_c38
noncomputable abbrev trellislaw15_finds_c42 : Code := Code.fst trellislaw15_finds_c41
noncomputable abbrev trellislaw15_finds_c43 : Code := Code.fst trellislaw15_finds_c42
noncomputable abbrev trellislaw15_finds_c44 : Code := Code.fst trellislaw15_finds_c43
noncomputable abbrev trellislaw15_finds_c45 : Code := Code.snd trellislaw15_finds_c43
noncomputable abbrev trellislaw15_finds_c46 : Code := Code.fst trellislaw15_finds_c44
noncomputable abbrev trellislaw15_finds_c47 : Code := Code.snd trellislaw15_finds_c44
noncomputable abbrev trellislaw15_finds_c48 : Code := Code.fst trellislaw15_finds_c47
noncomputable abbrev trellislaw15_finds_c49 : Code := Code.snd trellislaw15_finds_c47
noncomputable abbrev trellislaw15_finds_c50 : Code := Code.fst trellislaw15_finds_c45
noncomputable abbrev trellislaw15_finds_c51 : Code := Code.snd trellislaw15_finds_c45
noncomputable abbrev trellislaw15_finds_c52 : Code := Code.fst trellislaw15_finds_c50
noncomputable abbrev trellislaw15_finds_c53 : Code := Code.fst trellislaw15_finds_c39
noncomputable abbrev trellislaw15_finds_c54 : Code := Code.snd trellislaw15_finds_c39
noncomputable abbrev trellislaw15_finds_c55 : Code := Code.fst trellislaw15_finds_c54
noncomputable abbrev trellislaw15_finds_c56 : Code := Code.snd trellislaw15_finds_c54
noncomputable abbrev trellislaw15_finds_c57 : Code := Code.fst trellislaw15_finds_c56
noncomputable abbrev trellislaw15_finds_c58 : Code := Code.snd trellislaw15_finds_c56
noncomputable abbrev trellislaw15_finds_c59 : Code := Code.fst trellislaw15_finds_c57
noncomputable abbrev trellislaw15_finds_c60 : Code := Code.snd trellislaw15_finds_c57
noncomputable abbrev trellislaw15_finds_c61 : Code := Code.fst trellislaw15_finds_c60
noncomputable abbrev trellislaw15_finds_c62 : Code := Code.fst trellislaw15_finds_c61
noncomputable abbrev trellislaw15_finds_c63 : Code := Code.fst trellislaw15_finds_c62
noncomputable abbrev trellislaw15_finds_c64 : Code := Code.snd trellislaw15_finds_c62
noncomputable abbrev trellislaw15_finds_c65 : Code := Code.fst trellislaw15_finds_c63
noncomputable abbrev trellislaw15_finds_c66 : Code := Code.snd trellislaw15_finds_c63
noncomputable abbrev trellislaw15_finds_c67 : Code := Code.fst trellislaw15_finds_c66
noncomputable abbrev trellislaw15_finds_c68 : Code := Code.snd trellislaw15_finds_c66
noncomputable abbrev trellislaw15_finds_c69 : Code := Code.fst trellislaw15_finds_c64
noncomputable abbrev trellislaw15_finds_c70 : Code := Code.snd trellislaw15_finds_c64
noncomputable abbrev trellislaw15_finds_c71 : Code := Code.fst trellislaw15_finds_c69
noncomputable abbrev trellislaw15_finds_c72 : Code := Code.fst trellislaw15_finds_c71
noncomputable abbrev trellislaw15_finds_c73 : Code := Code.snd trellislaw15_finds_c71
noncomputable abbrev trellislaw15_finds_c74 : Code := Code.fst trellislaw15_finds_c58
noncomputable abbrev trellislaw15_finds_c75 : Code := Code.snd trellislaw15_finds_c58
noncomputable abbrev trellislaw15_finds_c76 : Code := Code.fst trellislaw15_finds_c74
noncomputable abbrev trellislaw15_finds_c77 : Code := Code.snd trellislaw15_finds_c74
noncomputable abbrev trellislaw15_finds_c78 : Code := Code.fst trellislaw15_finds_c77
noncomputable abbrev trellislaw15_finds_c79 : Code := Code.snd trellislaw15_finds_c77
noncomputable abbrev trellislaw15_finds_c80 : Code := Code.fst trellislaw15_finds_c78
noncomputable abbrev trellislaw15_finds_c81 : Code := Code.snd trellislaw15_finds_c78
noncomputable abbrev trellislaw15_finds_c82 : Code := Code.fst trellislaw15_finds_c75
noncomputable abbrev trellislaw15_finds_c83 : Code := Code.snd trellislaw15_finds_c75
noncomputable abbrev trellislaw15_finds_c84 : Code := Code.fst trellislaw15_finds_c83
noncomputable abbrev trellislaw15_finds_c85 : Code := Code.snd trellislaw15_finds_c83
noncomputable abbrev trellislaw15_finds_c86 : Code := Code.fst trellislaw15_finds_c85
noncomputable abbrev trellislaw15_finds_c87 : Code := Code.snd trellislaw15_finds_c85
noncomputable abbrev trellislaw15_finds_c88 : Code := Code.fst trellislaw15_finds_c86
noncomputable abbrev trellislaw15_finds_c89 : Code := Code.snd trellislaw15_finds_c86
noncomputable abbrev trellislaw15_finds_c90 : Code := Code.fst trellislaw15_finds_c89
noncomputable abbrev trellislaw15_finds_c91 : Code := Code.snd trellislaw15_finds_c89
noncomputable abbrev trellislaw15_finds_c92 : Code := Code.fst trellislaw15_finds_c90
noncomputable abbrev trellislaw15_finds_c93 : Code := Code.snd trellislaw15_finds_c90
noncomputable abbrev trellislaw15_finds_c94 : Code := Code.fst trellislaw15_finds_c87
noncomputable abbrev trellislaw15_finds_c95 : Code := Code.snd trellislaw15_finds_c87
noncomputable abbrev trellislaw15_finds_c96 : Code := Code.fst trellislaw15_finds_c95
noncomputable abbrev trellislaw15_finds_c97 : Code := Code.snd trellislaw15_finds_c95
noncomputable abbrev trellislaw15_finds_c98 : Code := Code.fst trellislaw15_finds_c97
noncomputable abbrev trellislaw15_finds_c99 : Code := Code.snd trellislaw15_finds_c97
noncomputable abbrev trellislaw15_finds_c100 : Code := Code.fst trellislaw15_finds_c99
noncomputable abbrev trellislaw15_finds_c101 : Code := Code.snd trellislaw15_finds_c99
noncomputable abbrev trellislaw15_finds_c102 : Code := Code.fst trellislaw15_finds_c101
noncomputable abbrev trellislaw15_finds_c103 : Code := Code.snd trellislaw15_finds_c101
abbrev trellislaw15_finds_R (w : World) (F : Nat → Prop) (r : Bool) : Ending → World → Prop := fun e w' => e = .returned (.bool r) ∧ B.Loc w w' [] [St w []]
noncomputable abbrev trellislaw15_finds_C (w : World) (F : Nat → Prop) (r : Bool) : Cx := ⟨Try.prog, 30, Try.f30, 171, trellislaw15_finds_R w F  r, w⟩
theorem trellislaw15_finds_calls (w : World) (F : Nat → Prop) (x1 : List api_Node) (k6 : Nat) (x9 : List api_Node) (x14 : Int) (A2 : Option Addr) (n3 : Nat) (c4 : Nat) (A10 : Option Addr) (n11 : Nat) (c12 : Nat) (h5 : Rw k_api_Node w (St w []).av A2 n3 c4 x1) (hk7 : k6 ≤ n3) (h13 : Rw k_api_Node w (St w []).av A10 n11 c12 x9) (hF : ∀ b, F b → b < w.heap.size ∧ ∀ o ∈ ([] : List (List Nat)), b ∉ o) (hL0 : B.Loc w w [] [Sm w.heap.size F w [], St w []]) (r : Bool) (h : trellislaw15_finds x1 k6 x9 x14 r) : Calls Try.prog 30 #[.slice A2 k6 c4, .slice A10 n11 c12, .int .i64 x14] w (trellislaw15_finds_R w F  r) := by
  unfold trellislaw15_finds at h
  have h8 := Rw.pre h5 hk7
  refine calls_of_Loc (vs := [.slice A2 k6 c4, .slice A10 n11 c12, .int .i64 x14]) 171 Try.func30 rfl Try.ntmps30 rfl hL0 ?_
  show G (trellislaw15_finds_C w F r) _ _ _ _
  refine g_seq (c := trellislaw15_finds_c0) rfl ?_
  refine g_region (c := trellislaw15_finds_c1) rfl rfl ?_
  refine wl_v 0 rfl (v_assign rfl) gn rfl ?_
  refine w_end 1 rfl ?_
  refine g_seq (c := trellislaw15_finds_c2) rfl ?_
  refine g_region (c := trellislaw15_finds_c3) rfl rfl ?_
  refine wl_v 0 rfl (v_move rfl) gn rfl ?_
  refine wl_v 1 rfl (v_move rfl) gn rfl ?_
  obtain ⟨r18, hv19, h⟩ := h
  refine wl_s 2 rfl (s_call [.slice A10 n11 c12, .int .i64 x14] rfl Try.func50 rfl rfl rfl fun w15 hL16 => ?_) gn
  have hp17 : List.Perm ([] : List Ent) (([] : List Ent) ++ ([] : List Ent)) := perm_of_idx [] [] rfl rfl (by kernel_rfl)
  refine Calls.mono (trellisref15_Kids_calls w15 (Fl ([] : List Snap)) x9 x14 A10 n11 c12 (Rw.mono h13 (hL16.toSt hp17 (me 1 rfl))) (hL16.hFl (Sl := ([] : List Snap)) hp17 (sels [] rfl)) (hL16.into hp17 (Fl ([] : List Snap))) r18 hv19) ?_
  rintro _ w25 ⟨A20, n21, c22, rfl, hM26, h23⟩
  have hL27 := hL16.call hp17 hM26
  refine ⟨_, _, _, rfl, hL27, ?_⟩
  refine wl_v 3 rfl (v_assign rfl) gn rfl ?_
  refine w_end 4 rfl ?_
  refine g_seq (c := trellislaw15_finds_c4) rfl ?_
  refine g_region (c := trellislaw15_finds_c5) rfl rfl ?_
  refine wl_v 0 rfl (v_move rfl) gn rfl ?_
  refine wl_v 1 rfl (v_move rfl) gn rfl ?_
  obtain ⟨r31, hv32, h⟩ := h
  refine wl_s 2 rfl (s_call [.slice A10 n11 c12, .int .i64 x14] rfl Try.func51 rfl rfl rfl fun w28 hL29 => ?_) gn
  have hp30 : List.Perm ([.own (.slice A20 n21 c22) 3 1 n21 (r18.flatMap (eI .i64))] : List Ent) (([] : List Ent) ++ ([.own (.slice A20 n21 c22) 3 1 n21 (r18.flatMap (eI .i64))] : List Ent)) := perm_of_idx [] [0] rfl rfl (by kernel_rfl)
  refine Calls.mono (trellisref15_Path_calls w28 (Fl ([] : List Snap)) x9 x14 A10 n11 c12 (Rw.mono h13 (hL29.toSt hp30 (me 1 rfl))) (hL29.hFl (Sl := ([] : List Snap)) hp30 (sels [] rfl)) (hL29.into hp30 (Fl ([] : List Snap))) r31 hv32) ?_
  rintro _ w38 ⟨A33, n34, c35, rfl, hM39, h36⟩
  have hL40 := hL29.call hp30 hM39
  refine ⟨_, _, _, rfl, hL40, ?_⟩
  refine wl_v 3 rfl (v_assign rfl) gn rfl ?_
  refine w_end 4 rfl ?_
  refine g_seq (c := trellislaw15_finds_c6) rfl ?_
  refine g_region (c := trellislaw15_finds_c7) rfl rfl ?_
  refine wl_v 0 rfl (v_move rfl) gn rfl ?_
  refine wl_v 1 rfl (v_move rfl) gn rfl ?_
  obtain ⟨r44, hv45, h⟩ := h
  refine wl_s 2 rfl (s_call [.slice A2 k6 c4, .int .i64 x14] rfl Try.func42 rfl rfl rfl fun w41 hL42 => ?_) gn
  have hp43 : List.Perm ([.own (.slice A33 n34 c35) 3 1 n34 (r31.flatMap (eI .i64)), .own (.slice A20 n21 c22) 3 1 n21 (r18.flatMap (eI .i64))] : List Ent) (([] : List Ent) ++ ([.own (.slice A33 n34 c35) 3 1 n34 (r31.flatMap (eI .i64)), .own (.slice A20 n21 c22) 3 1 n21 (r18.flatMap (eI .i64))] : List Ent)) := perm_of_idx [] [0, 1] rfl rfl (by kernel_rfl)
  refine Calls.mono (tree_Kids_calls w41 (Fl ([] : List Snap)) (x1.take k6) x14 A2 k6 c4 (Rw.mono h8 (hL42.toSt hp43 (me 1 rfl))) (hL42.hFl (Sl := ([] : List Snap)) hp43 (sels [] rfl)) (hL42.into hp43 (Fl ([] : List Snap))) r44 hv45) ?_
  rintro _ w51 ⟨A46, n47, c48, rfl, hM52, h49⟩
  have hL53 := hL42.call hp43 hM52
  refine ⟨_, _, _, rfl, hL53, ?_⟩
  refine wl_v 3 rfl (v_assign rfl) gn rfl ?_
  refine w_end 4 rfl ?_
  refine g_seq (c := trellislaw15_finds_c8) rfl ?_
  refine g_region (c := trellislaw15_finds_c9) rfl rfl ?_
  refine wl_v 0 rfl (v_move rfl) gn rfl ?_
  refine wl_v 1 rfl (v_move rfl) gn rfl ?_
  obtain ⟨r57, hv58, h⟩ := h
  refine wl_s 2 rfl (s_call [.slice A2 k6 c4, .int .i64 x14] rfl Try.func39 rfl rfl rfl fun w54 hL55 => ?_) gn
  have hp56 : List.Perm ([.own (.slice A46 n47 c48) 3 1 n47 (r44.flatMap (eI .i64)), .own (.slice A33 n34 c35) 3 1 n34 (r31.flatMap (eI .i64)), .own (.slice A20 n21 c22) 3 1 n21 (r18.flatMap (eI .i64))] : List Ent) (([] : List Ent) ++ ([.own (.slice A46 n47 c48) 3 1 n47 (r44.flatMap (eI .i64)), .own (.slice A33 n34 c35) 3 1 n34 (r31.flatMap (eI .i64)), .own (.slice A20 n21 c22) 3 1 n21 (r18.flatMap (eI .i64))] : List Ent)) := perm_of_idx [] [0, 1, 2] rfl rfl (by kernel_rfl)
  refine Calls.mono (tree_Path_calls w54 (Fl ([] : List Snap)) (x1.take k6) x14 A2 k6 c4 (Rw.mono h8 (hL55.toSt hp56 (me 1 rfl))) (hL55.hFl (Sl := ([] : List Snap)) hp56 (sels [] rfl)) (hL55.into hp56 (Fl ([] : List Snap))) r57 hv58) ?_
  rintro _ w65 ⟨A59, n60, c61, rfl, hM66, h62⟩
  have hL67 := hL55.call hp56 hM66
  refine ⟨_, _, _, rfl, hL67, ?_⟩
  refine wl_v 3 rfl (v_assign rfl) gn rfl ?_
  refine w_end 4 rfl ?_
  refine g_seq (c := trellislaw15_finds_c10) rfl ?_
  refine g_region (c := trellislaw15_finds_c11) rfl rfl ?_
  refine wl_v 0 rfl (v_move rfl) gn rfl ?_
  refine wl_v 1 rfl (v_move rfl) gn rfl ?_
  obtain ⟨r71, hv72, h⟩ := h
  refine wl_s 2 rfl (s_call [.slice A2 k6 c4, .int .i64 x14] rfl Try.func42 rfl rfl rfl fun w68 hL69 => ?_) gn
  have hp70 : List.Perm ([.own (.slice A59 n60 c61) 3 1 n60 (r57.flatMap (eI .i64)), .own (.slice A46 n47 c48) 3 1 n47 (r44.flatMap (eI .i64)), .own (.slice A33 n34 c35) 3 1 n34 (r31.flatMap (eI .i64)), .own (.slice A20 n21 c22) 3 1 n21 (r18.flatMap (eI .i64))] : List Ent) (([] : List Ent) ++ ([.own (.slice A59 n60 c61) 3 1 n60 (r57.flatMap (eI .i64)), .own (.slice A46 n47 c48) 3 1 n47 (r44.flatMap (eI .i64)), .own (.slice A33 n34 c35) 3 1 n34 (r31.flatMap (eI .i64)), .own (.slice A20 n21 c22) 3 1 n21 (r18.flatMap (eI .i64))] : List Ent)) := perm_of_idx [] [0, 1, 2, 3] rfl rfl (by kernel_rfl)
  refine Calls.mono (tree_Kids_calls w68 (Fl ([] : List Snap)) (x1.take k6) x14 A2 k6 c4 (Rw.mono h8 (hL69.toSt hp70 (me 1 rfl))) (hL69.hFl (Sl := ([] : List Snap)) hp70 (sels [] rfl)) (hL69.into hp70 (Fl ([] : List Snap))) r71 hv72) ?_
  rintro _ w78 ⟨A73, n74, c75, rfl, hM79, h76⟩
  have hL80 := hL69.call hp70 hM79
  refine ⟨_, _, _, rfl, hL80, ?_⟩
  refine wl_v 3 rfl (v_assign rfl) gn rfl ?_
  refine w_end 4 rfl ?_
  refine g_seq (c := trellislaw15_finds_c12) rfl ?_
  refine g_region (c := trellislaw15_finds_c13) rfl rfl ?_
  refine wl_v 0 rfl (v_move rfl) gn rfl ?_
  refine wl_v 1 rfl (v_move rfl) gn rfl ?_
  obtain ⟨r84, hv85, h⟩ := h
  refine wl_s 2 rfl (s_call [.slice A2 k6 c4, .int .i64 x14] rfl Try.func39 rfl rfl rfl fun w81 hL82 => ?_) gn
  have hp83 : List.Perm ([.own (.slice A73 n74 c75) 3 1 n74 (r71.flatMap (eI .i64)), .own (.slice A59 n60 c61) 3 1 n60 (r57.flatMap (eI .i64)), .own (.slice A46 n47 c48) 3 1 n47 (r44.flatMap (eI .i64)), .own (.slice A33 n34 c35) 3 1 n34 (r31.flatMap (eI .i64)), .own (.slice A20 n21 c22) 3 1 n21 (r18.flatMap (eI .i64))] : List Ent) (([] : List Ent) ++ ([.own (.slice A73 n74 c75) 3 1 n74 (r71.flatMap (eI .i64)), .own (.slice A59 n60 c61) 3 1 n60 (r57.flatMap (eI .i64)), .own (.slice A46 n47 c48) 3 1 n47 (r44.flatMap (eI .i64)), .own (.slice A33 n34 c35) 3 1 n34 (r31.flatMap (eI .i64)), .own (.slice A20 n21 c22) 3 1 n21 (r18.flatMap (eI .i64))] : List Ent)) := perm_of_idx [] [0, 1, 2, 3, 4] rfl rfl (by kernel_rfl)
  refine Calls.mono (tree_Path_calls w81 (Fl ([] : List Snap)) (x1.take k6) x14 A2 k6 c4 (Rw.mono h8 (hL82.toSt hp83 (me 1 rfl))) (hL82.hFl (Sl := ([] : List Snap)) hp83 (sels [] rfl)) (hL82.into hp83 (Fl ([] : List Snap))) r84 hv85) ?_
  rintro _ w91 ⟨A86, n87, c88, rfl, hM92, h89⟩
  have hL93 := hL82.call hp83 hM92
  refine ⟨_, _, _, rfl, hL93, ?_⟩
  refine wl_v 3 rfl (v_assign rfl) gn rfl ?_
  refine w_end 4 rfl ?_
  refine g_seq (c := trellislaw15_finds_c14) rfl ?_
  refine g_seq (c := trellislaw15_finds_c15) rfl ?_
  have j1 : ∀ (x130 : Bool) (h : trellislaw15_finds_j1 r71 r18 r84 r31 x1 k6 x14 x9 r57 r44 x130 r) , G (trellislaw15_finds_C w F r) [.code trellislaw15_finds_c18, .code trellislaw15_finds_c16] [(0, .slice A2 k6 c4), (1, .slice A10 n11 c12), (2, .int .i64 x14), (7, .slice A20 n21 c22), (8, .slice A33 n34 c35), (9, .slice A46 n47 c48), (10, .slice A59 n60 c61), (11, .slice A73 n74 c75), (12, .slice A86 n87 c88), (63, .bool x130)] [.own (.slice A86 n87 c88) 3 1 n87 (r84.flatMap (eI .i64)), .own (.slice A73 n74 c75) 3 1 n74 (r71.flatMap (eI .i64)), .own (.slice A59 n60 c61) 3 1 n60 (r57.flatMap (eI .i64)), .own (.slice A46 n47 c48) 3 1 n47 (r44.flatMap (eI .i64)), .own (.slice A33 n34 c35) 3 1 n34 (r31.flatMap (eI .i64)), .own (.slice A20 n21 c22) 3 1 n21 (r18.flatMap (eI .i64))] [Sm w.heap.size F w [], St w []] := by
    intro x130 h
    unfold trellislaw15_finds_j1 at h
    by_cases hp131 : x130 = true
    · have h := if_pos' hp131 h
      refine g_true (c := trellislaw15_finds_c18) rfl _ rfl (hp131) ?_
      refine g_seq (c := trellislaw15_finds_c19) rfl ?_
      refine g_region (c := trellislaw15_finds_c21) rfl rfl ?_
      refine wl_v 0 rfl (v_assign rfl) gn rfl ?_
      refine w_end 1 rfl ?_
      refine g_retR (c := trellislaw15_finds_c22) [.bool false] rfl Try.func30 rfl (.tmp rfl (.nil)) fun wr hLr => ?_
      have hMr : B.Loc w wr [] [St w []] := hLr.pick (rest := [.own (.slice A86 n87 c88) 3 1 n87 (r84.flatMap (eI .i64)), .own (.slice A73 n74 c75) 3 1 n74 (r71.flatMap (eI .i64)), .own (.slice A59 n60 c61) 3 1 n60 (r57.flatMap (eI .i64)), .own (.slice A46 n47 c48) 3 1 n47 (r44.flatMap (eI .i64)), .own (.slice A33 n34 c35) 3 1 n34 (r31.flatMap (eI .i64)), .own (.slice A20 n21 c22) 3 1 n21 (r18.flatMap (eI .i64))]) (perm_of_idx [] [0, 1, 2, 3, 4, 5] rfl rfl (by kernel_rfl)) (sels [1] rfl)
      have hMi : ∀ e ∈ ([] : List Ent), e ∈ ([.own (.slice A86 n87 c88) 3 1 n87 (r84.flatMap (eI .i64)), .own (.slice A73 n74 c75) 3 1 n74 (r71.flatMap (eI .i64)), .own (.slice A59 n60 c61) 3 1 n60 (r57.flatMap (eI .i64)), .own (.slice A46 n47 c48) 3 1 n47 (r44.flatMap (eI .i64)), .own (.slice A33 n34 c35) 3 1 n34 (r31.flatMap (eI .i64)), .own (.slice A20 n21 c22) 3 1 n21 (r18.flatMap (eI .i64))] : List Ent) := sels [] rfl
      show trellislaw15_finds_R w F  r (.returned (packV [.bool false])) wr
      rw [h]
      exact ⟨rfl, hMr⟩
    · have h := if_neg' hp131 h
      refine g_false (c := trellislaw15_finds_c18) rfl _ rfl ((bf hp131)) ?_
      refine g_skip (c := trellislaw15_finds_c20) rfl ?_
      refine g_seq (c := trellislaw15_finds_c16) rfl ?_
      refine g_seq (c := trellislaw15_finds_c23) rfl ?_
      refine g_region (c := trellislaw15_finds_c25) rfl rfl ?_
      refine wl_v 0 rfl (v_assign rfl) gn rfl ?_
      refine w_end 1 rfl ?_
      refine g_block (c := trellislaw15_finds_c26) rfl ?_
      refine g_loop (c := trellislaw15_finds_c27) rfl ?_
      have key2 : ∀ s, Rounds (fun (s : (List Int) × Int) o => trellislaw15_finds_b2 r71 r18 r84 r31 x1 k6 x14 x9 r57 s.1 s.2 o) s r → (fun (s : (List Int) × Int) => ∀ (h1766 : Ow w.heap.size A46 n47 c48 s.1), G (trellislaw15_finds_C w F r) [.code trellislaw15_finds_c28, .inLoop trellislaw15_finds_c28, .inBlock 0, .code trellislaw15_finds_c24] [(0, .slice A2 k6 c4), (1, .slice A10 n11 c12), (2, .int .i64 x14), (7, .slice A20 n21 c22), (8, .slice A33 n34 c35), (9, .slice A46 n47 c48), (10, .slice A59 n60 c61), (11, .slice A73 n74 c75), (12, .slice A86 n87 c88), (13, .int .i64 s.2)] [.own (.slice A86 n87 c88) 3 1 n87 (r84.flatMap (eI .i64)), .own (.slice A73 n74 c75) 3 1 n74 (r71.flatMap (eI .i64)), .own (.slice A59 n60 c61) 3 1 n60 (r57.flatMap (eI .i64)), .own (.slice A46 n47 c48) 3 1 n47 (s.1.flatMap (eI .i64)), .own (.slice A33 n34 c35) 3 1 n34 (r31.flatMap (eI .i64)), .own (.slice A20 n21 c22) 3 1 n21 (r18.flatMap (eI .i64))] [Sm w.heap.size F w [], St w []]) s := by
        intro s hs
        refine Rounds.ind (mot := (fun (s : (List Int) × Int) => ∀ (h1766 : Ow w.heap.size A46 n47 c48 s.1), G (trellislaw15_finds_C w F r) [.code trellislaw15_finds_c28, .inLoop trellislaw15_finds_c28, .inBlock 0, .code trellislaw15_finds_c24] [(0, .slice A2 k6 c4), (1, .slice A10 n11 c12), (2, .int .i64 x14), (7, .slice A20 n21 c22), (8, .slice A33 n34 c35), (9, .slice A46 n47 c48), (10, .slice A59 n60 c61), (11, .slice A73 n74 c75), (12, .slice A86 n87 c88), (13, .int .i64 s.2)] [.own (.slice A86 n87 c88) 3 1 n87 (r84.flatMap (eI .i64)), .own (.slice A73 n74 c75) 3 1 n74 (r71.flatMap (eI .i64)), .own (.slice A59 n60 c61) 3 1 n60 (r57.flatMap (eI .i64)), .own (.slice A46 n47 c48) 3 1 n47 (s.1.flatMap (eI .i64)), .own (.slice A33 n34 c35) 3 1 n34 (r31.flatMap (eI .i64)), .own (.slice A20 n21 c22) 3 1 n21 (r18.flatMap (eI .i64))] [Sm w.heap.size F w [], St w []])) ?_ hs
        clear hs s
        intro s o1 h hO1
        obtain ⟨x1765, x1767⟩ := s
        show ∀ (h1766 : Ow w.heap.size A46 n47 c48 x1765), G (trellislaw15_finds_C w F r) [.code trellislaw15_finds_c28, .inLoop trellislaw15_finds_c28, .inBlock 0, .code trellislaw15_finds_c24] [(0, .slice A2 k6 c4), (1, .slice A10 n11 c12), (2, .int .i64 x14), (7, .slice A20 n21 c22), (8, .slice A33 n34 c35), (9, .slice A46 n47 c48), (10, .slice A59 n60 c61), (11, .slice A73 n74 c75), (12, .slice A86 n87 c88), (13, .int .i64 x1767)] [.own (.slice A86 n87 c88) 3 1 n87 (r84.flatMap (eI .i64)), .own (.slice A73 n74 c75) 3 1 n74 (r71.flatMap (eI .i64)), .own (.slice A59 n60 c61) 3 1 n60 (r57.flatMap (eI .i64)), .own (.slice A46 n47 c48) 3 1 n47 (x1765.flatMap (eI .i64)), .own (.slice A33 n34 c35) 3 1 n34 (r31.flatMap (eI .i64)), .own (.slice A20 n21 c22) 3 1 n21 (r18.flatMap (eI .i64))] [Sm w.heap.size F w [], St w []]
        intro h1766
        have h : trellislaw15_finds_b2 r71 r18 r84 r31 x1 k6 x14 x9 r57 x1765 x1767 o1 := h
        unfold trellislaw15_finds_b2 at h
        refine g_seq (c := trellislaw15_finds_c28) rfl ?_
        refine g_seq (c := trellislaw15_finds_c29) rfl ?_
        refine g_region (c := trellislaw15_finds_c31) rfl rfl ?_
        refine wl_v 0 rfl (v_move rfl) gn rfl ?_
        refine wl_v 1 rfl (v_move rfl) gn rfl ?_
        refine wl_v 2 rfl (v_lenQ un_23 rfl h1766.hq) gn rfl ?_
        refine wl_v 3 rfl (v_bin rfl rfl rfl) gn rfl ?_
        refine w_end 4 rfl ?_
        by_cases hp3400 : x1767 < (x1765.length : Int)
        · have h := if_pos' hp3400 h
          refine g_true (c := trellislaw15_finds_c32) rfl _ rfl ((decide_eq_true hp3400)) ?_
          refine g_skip (c := trellislaw15_finds_c33) rfl ?_
          refine g_seq (c := trellislaw15_finds_c30) rfl ?_
          refine g_block (c := trellislaw15_finds_c35) rfl ?_
          refine g_region (c := trellislaw15_finds_c37) rfl rfl ?_
          refine wl_v 0 rfl (v_move rfl) gn rfl ?_
          refine wl_v 1 rfl (v_move rfl) gn rfl ?_
          obtain ⟨hb3401, h⟩ := h
          refine wl_v 2 rfl (v_idxO slE_23 rfl rfl h1766 hb3401) gn rfl ?_
          obtain ⟨x3402, hv3403, h⟩ := h
          refine wl_s 3 rfl (s_stF (enc := (eI .i64)) (o := 0) (z := (-7)) (vs := [.int .i64 (-7)]) (i := x1767) 3 (hlI .i64) sz_3 rfl rfl rfl rfl rfl h1766 hb3401 rfl rfl rfl hv3403 fun h3404 => ?_) gn
          refine w_end 4 rfl ?_
          refine g_inBlock ?_
          refine g_region (c := trellislaw15_finds_c36) rfl rfl ?_
          refine wl_v 0 rfl (v_move rfl) gn rfl ?_
          refine wl_v 1 rfl (v_bin rfl rfl rfl) gn rfl ?_
          refine wl_v 2 rfl (v_assign rfl) gn rfl ?_
          refine w_end 3 rfl ?_
          refine g_inLoop ?_
          have ih := Out.inl hO1 h
          exact g_go [0, 1] (ih h3404) ⟨rfl, rfl, rfl, rfl, rfl, rfl, rfl, rfl, rfl, rfl, trivial⟩ (.cons_cons _ (.cons_cons _ (.cons_cons _ (.cons_cons _ (.cons_cons _ (.cons_cons _ (.slnil))))))) rfl
        · have h := if_neg' hp3400 h
          refine g_false (c := trellislaw15_finds_c32) rfl _ rfl ((decide_eq_false hp3400)) ?_
          refine g_exit (c := trellislaw15_finds_c34) [.code trellislaw15_finds_c24] rfl rfl ?_
          refine g_seq (c := trellislaw15_finds_c24) rfl ?_
          refine g_seq (c := trellislaw15_finds_c38) rfl ?_
          refine g_region (c := trellislaw15_finds_c40) rfl rfl ?_
          refine wl_v 0 rfl (v_assign rfl) gn rfl ?_
          refine w_end 1 rfl ?_
          refine g_block (c := trellislaw15_finds_c41) rfl ?_
          refine g_loop (c := trellislaw15_finds_c42) rfl ?_
          have key3 : ∀ s, Rounds (fun (s : (List Int) × Int) o => trellislaw15_finds_b3 r71 r18 r84 r31 x1 k6 x14 x1765 x9 s.1 s.2 o) s o1 → (fun (s : (List Int) × Int) => ∀ (h3948 : Ow w.heap.size A59 n60 c61 s.1), G (trellislaw15_finds_C w F r) [.code trellislaw15_finds_c43, .inLoop trellislaw15_finds_c43, .inBlock 2, .code trellislaw15_finds_c39] [(0, .slice A2 k6 c4), (1, .slice A10 n11 c12), (2, .int .i64 x14), (7, .slice A20 n21 c22), (8, .slice A33 n34 c35), (9, .slice A46 n47 c48), (10, .slice A59 n60 c61), (11, .slice A73 n74 c75), (12, .slice A86 n87 c88), (14, .int .i64 s.2)] [.own (.slice A86 n87 c88) 3 1 n87 (r84.flatMap (eI .i64)), .own (.slice A73 n74 c75) 3 1 n74 (r71.flatMap (eI .i64)), .own (.slice A59 n60 c61) 3 1 n60 (s.1.flatMap (eI .i64)), .own (.slice A46 n47 c48) 3 1 n47 (x1765.flatMap (eI .i64)), .own (.slice A33 n34 c35) 3 1 n34 (r31.flatMap (eI .i64)), .own (.slice A20 n21 c22) 3 1 n21 (r18.flatMap (eI .i64))] [Sm w.heap.size F w [], St w []]) s := by
            intro s hs
            refine Rounds.ind (mot := (fun (s : (List Int) × Int) => ∀ (h3948 : Ow w.heap.size A59 n60 c61 s.1), G (trellislaw15_finds_C w F r) [.code trellislaw15_finds_c43, .inLoop trellislaw15_finds_c43, .inBlock 2, .code trellislaw15_finds_c39] [(0, .slice A2 k6 c4), (1, .slice A10 n11 c12), (2, .int .i64 x14), (7, .slice A20 n21 c22), (8, .slice A33 n34 c35), (9, .slice A46 n47 c48), (10, .slice A59 n60 c61), (11, .slice A73 n74 c75), (12, .slice A86 n87 c88), (14, .int .i64 s.2)] [.own (.slice A86 n87 c88) 3 1 n87 (r84.flatMap (eI .i64)), .own (.slice A73 n74 c75) 3 1 n74 (r71.flatMap (eI .i64)), .own (.slice A59 n60 c61) 3 1 n60 (s.1.flatMap (eI .i64)), .own (.slice A46 n47 c48) 3 1 n47 (x1765.flatMap (eI .i64)), .own (.slice A33 n34 c35) 3 1 n34 (r31.flatMap (eI .i64)), .own (.slice A20 n21 c22) 3 1 n21 (r18.flatMap (eI .i64))] [Sm w.heap.size F w [], St w []])) ?_ hs
            clear hs s
            intro s o2 h hO2
            obtain ⟨x3947, x3949⟩ := s
            show ∀ (h3948 : Ow w.heap.size A59 n60 c61 x3947), G (trellislaw15_finds_C w F r) [.code trellislaw15_finds_c43, .inLoop trellislaw15_finds_c43, .inBlock 2, .code trellislaw15_finds_c39] [(0, .slice A2 k6 c4), (1, .slice A10 n11 c12), (2, .int .i64 x14), (7, .slice A20 n21 c22), (8, .slice A33 n34 c35), (9, .slice A46 n47 c48), (10, .slice A59 n60 c61), (11, .slice A73 n74 c75), (12, .slice A86 n87 c88), (14, .int .i64 x3949)] [.own (.slice A86 n87 c88) 3 1 n87 (r84.flatMap (eI .i64)), .own (.slice A73 n74 c75) 3 1 n74 (r71.flatMap (eI .i64)), .own (.slice A59 n60 c61) 3 1 n60 (x3947.flatMap (eI .i64)), .own (.slice A46 n47 c48) 3 1 n47 (x1765.flatMap (eI .i64)), .own (.slice A33 n34 c35) 3 1 n34 (r31.flatMap (eI .i64)), .own (.slice A20 n21 c22) 3 1 n21 (r18.flatMap (eI .i64))] [Sm w.heap.size F w [], St w []]
            intro h3948
            have h : trellislaw15_finds_b3 r71 r18 r84 r31 x1 k6 x14 x1765 x9 x3947 x3949 o2 := h
            unfold trellislaw15_finds_b3 at h
            refine g_seq (c := trellislaw15_finds_c43) rfl ?_
            refine g_seq (c := trellislaw15_finds_c44) rfl ?_
            refine g_region (c := trellislaw15_finds_c46) rfl rfl ?_
            refine wl_v 0 rfl (v_move rfl) gn rfl ?_
            refine wl_v 1 rfl (v_move rfl) gn rfl ?_
            refine wl_v 2 rfl (v_lenQ un_23 rfl h3948.hq) gn rfl ?_
            refine wl_v 3 rfl (v_bin rfl rfl rfl) gn rfl ?_
            refine w_end 4 rfl ?_
            by_cases hp4491 : x3949 < (x3947.length : Int)
            · have h := if_pos' hp4491 h
              refine g_true (c := trellislaw15_finds_c47) rfl _ rfl ((decide_eq_true hp4491)) ?_
              refine g_skip (c := trellislaw15_finds_c48) rfl ?_
              refine g_seq (c := trellislaw15_finds_c45) rfl ?_
              refine g_block (c := trellislaw15_finds_c50) rfl ?_
              refine g_region (c := trellislaw15_finds_c52) rfl rfl ?_
              refine wl_v 0 rfl (v_move rfl) gn rfl ?_
              refine wl_v 1 rfl (v_move rfl) gn rfl ?_
              obtain ⟨hb4492, h⟩ := h
              refine wl_v 2 rfl (v_idxO slE_23 rfl rfl h3948 hb4492) gn rfl ?_
              obtain ⟨x4493, hv4494, h⟩ := h
              refine wl_s 3 rfl (s_stF (enc := (eI .i64)) (o := 0) (z := (-8)) (vs := [.int .i64 (-8)]) (i := x3949) 2 (hlI .i64) sz_3 rfl rfl rfl rfl rfl h3948 hb4492 rfl rfl rfl hv4494 fun h4495 => ?_) gn
              refine w_end 4 rfl ?_
              refine g_inBlock ?_
              refine g_region (c := trellislaw15_finds_c51) rfl rfl ?_
              refine wl_v 0 rfl (v_move rfl) gn rfl ?_
              refine wl_v 1 rfl (v_bin rfl rfl rfl) gn rfl ?_
              refine wl_v 2 rfl (v_assign rfl) gn rfl ?_
              refine w_end 3 rfl ?_
              refine g_inLoop ?_
              have ih := Out.inl hO2 h
              exact g_go [0, 1] (ih h4495) ⟨rfl, rfl, rfl, rfl, rfl, rfl, rfl, rfl, rfl, rfl, trivial⟩ (.cons_cons _ (.cons_cons _ (.cons_cons _ (.cons_cons _ (.cons_cons _ (.cons_cons _ (.slnil))))))) rfl
            · have h := if_neg' hp4491 h
              refine g_false (c := trellislaw15_finds_c47) rfl _ rfl ((decide_eq_false hp4491)) ?_
              refine g_exit (c := trellislaw15_finds_c49) [.code trellislaw15_finds_c39] rfl rfl ?_
              refine g_seq (c := trellislaw15_finds_c39) rfl ?_
              refine g_region (c := trellislaw15_finds_c53) rfl rfl ?_
              refine wl_v 0 rfl (v_move rfl) gn rfl ?_
              refine wl_v 1 rfl (v_assign rfl) gn rfl ?_
              refine w_end 2 rfl ?_
              refine g_seq (c := trellislaw15_finds_c54) rfl ?_
              refine g_region (c := trellislaw15_finds_c55) rfl rfl ?_
              refine wl_v 0 rfl (v_move rfl) gn rfl ?_
              refine wl_v 1 rfl (v_assign rfl) gn rfl ?_
              refine w_end 2 rfl ?_
              refine g_seq (c := trellislaw15_finds_c56) rfl ?_
              refine g_seq (c := trellislaw15_finds_c57) rfl ?_
              refine g_region (c := trellislaw15_finds_c59) rfl rfl ?_
              refine wl_v 0 rfl (v_assign rfl) gn rfl ?_
              refine w_end 1 rfl ?_
              refine g_block (c := trellislaw15_finds_c60) rfl ?_
              refine g_loop (c := trellislaw15_finds_c61) rfl ?_
              have key4 : ∀ s, Rounds (fun (s : (List Int) × (List Int) × Int) o => trellislaw15_finds_b4 r71 r18 r84 r31 x1 k6 x14 x1765 x3947 x9 s.1 s.2.1 s.2.2 o) s o2 → (fun (s : (List Int) × (List Int) × Int) => ∀ (A4524 : Option Addr) (n4525 : Nat) (c4526 : Nat) (h4527 : Ow w.heap.size A4524 n4525 c4526 s.1) (h4528 : Ow 0 A46 n47 c48 x1765) (bs4529 : List Nat) (p4530 : World → Prop) (hE4531 : Eld 3 1 A4524 n4525 c4526 (s.1.flatMap (eI .i64)) bs4529 p4530 A46 n47 (x1765.flatMap (eI .i64))) (A4533 : Option Addr) (n4534 : Nat) (c4535 : Nat) (h4536 : Ow w.heap.size A4533 n4534 c4535 s.2.1) (h4537 : Ow 0 A59 n60 c61 x3947) (bs4538 : List Nat) (p4539 : World → Prop) (hE4540 : Eld 3 1 A4533 n4534 c4535 (s.2.1.flatMap (eI .i64)) bs4538 p4539 A59 n60 (x3947.flatMap (eI .i64))), G (trellislaw15_finds_C w F r) [.code trellislaw15_finds_c62, .inLoop trellislaw15_finds_c62, .inBlock 4, .code trellislaw15_finds_c58] [(0, .slice A2 k6 c4), (1, .slice A10 n11 c12), (2, .int .i64 x14), (7, .slice A20 n21 c22), (8, .slice A33 n34 c35), (9, .slice A46 n47 c48), (10, .slice A59 n60 c61), (11, .slice A73 n74 c75), (12, .slice A86 n87 c88), (15, .slice A4524 n4525 c4526), (16, .slice A4533 n4534 c4535), (17, .int .i64 s.2.2)] [.deep .nilIface bs4529 p4530, .deep .nilIface bs4538 p4539, .own (.slice A86 n87 c88) 3 1 n87 (r84.flatMap (eI .i64)), .own (.slice A73 n74 c75) 3 1 n74 (r71.flatMap (eI .i64)), .own (.slice A4533 n4534 c4535) 3 1 n4534 (s.2.1.flatMap (eI .i64)), .own (.slice A4524 n4525 c4526) 3 1 n4525 (s.1.flatMap (eI .i64)), .own (.slice A33 n34 c35) 3 1 n34 (r31.flatMap (eI .i64)), .own (.slice A20 n21 c22) 3 1 n21 (r18.flatMap (eI .i64))] [Sm w.heap.size F w [], St w []]) s := by
                intro s hs
                refine Rounds.ind (mot := (fun (s : (List Int) × (List Int) × Int) => ∀ (A4524 : Option Addr) (n4525 : Nat) (c4526 : Nat) (h4527 : Ow w.heap.size A4524 n4525 c4526 s.1) (h4528 : Ow 0 A46 n47 c48 x1765) (bs4529 : List Nat) (p4530 : World → Prop) (hE4531 : Eld 3 1 A4524 n4525 c4526 (s.1.flatMap (eI .i64)) bs4529 p4530 A46 n47 (x1765.flatMap (eI .i64))) (A4533 : Option Addr) (n4534 : Nat) (c4535 : Nat) (h4536 : Ow w.heap.size A4533 n4534 c4535 s.2.1) (h4537 : Ow 0 A59 n60 c61 x3947) (bs4538 : List Nat) (p4539 : World → Prop) (hE4540 : Eld 3 1 A4533 n4534 c4535 (s.2.1.flatMap (eI .i64)) bs4538 p4539 A59 n60 (x3947.flatMap (eI .i64))), G (trellislaw15_finds_C w F r) [.code trellislaw15_finds_c62, .inLoop trellislaw15_finds_c62, .inBlock 4, .code trellislaw15_finds_c58] [(0, .slice A2 k6 c4), (1, .slice A10 n11 c12), (2, .int .i64 x14), (7, .slice A20 n21 c22), (8, .slice A33 n34 c35), (9, .slice A46 n47 c48), (10, .slice A59 n60 c61), (11, .slice A73 n74 c75), (12, .slice A86 n87 c88), (15, .slice A4524 n4525 c4526), (16, .slice A4533 n4534 c4535), (17, .int .i64 s.2.2)] [.deep .nilIface bs4529 p4530, .deep .nilIface bs4538 p4539, .own (.slice A86 n87 c88) 3 1 n87 (r84.flatMap (eI .i64)), .own (.slice A73 n74 c75) 3 1 n74 (r71.flatMap (eI .i64)), .own (.slice A4533 n4534 c4535) 3 1 n4534 (s.2.1.flatMap (eI .i64)), .own (.slice A4524 n4525 c4526) 3 1 n4525 (s.1.flatMap (eI .i64)), .own (.slice A33 n34 c35) 3 1 n34 (r31.flatMap (eI .i64)), .own (.slice A20 n21 c22) 3 1 n21 (r18.flatMap (eI .i64))] [Sm w.heap.size F w [], St w []])) ?_ hs
                clear hs s
                intro s o3 h hO3
                obtain ⟨x4523, x4532, x4541⟩ := s
                show ∀ (A4524 : Option Addr) (n4525 : Nat) (c4526 : Nat) (h4527 : Ow w.heap.size A4524 n4525 c4526 x4523) (h4528 : Ow 0 A46 n47 c48 x1765) (bs4529 : List Nat) (p4530 : World → Prop) (hE4531 : Eld 3 1 A4524 n4525 c4526 (x4523.flatMap (eI .i64)) bs4529 p4530 A46 n47 (x1765.flatMap (eI .i64))) (A4533 : Option Addr) (n4534 : Nat) (c4535 : Nat) (h4536 : Ow w.heap.size A4533 n4534 c4535 x4532) (h4537 : Ow 0 A59 n60 c61 x3947) (bs4538 : List Nat) (p4539 : World → Prop) (hE4540 : Eld 3 1 A4533 n4534 c4535 (x4532.flatMap (eI .i64)) bs4538 p4539 A59 n60 (x3947.flatMap (eI .i64))), G (trellislaw15_finds_C w F r) [.code trellislaw15_finds_c62, .inLoop trellislaw15_finds_c62, .inBlock 4, .code trellislaw15_finds_c58] [(0, .slice A2 k6 c4), (1, .slice A10 n11 c12), (2, .int .i64 x14), (7, .slice A20 n21 c22), (8, .slice A33 n34 c35), (9, .slice A46 n47 c48), (10, .slice A59 n60 c61), (11, .slice A73 n74 c75), (12, .slice A86 n87 c88), (15, .slice A4524 n4525 c4526), (16, .slice A4533 n4534 c4535), (17, .int .i64 x4541)] [.deep .nilIface bs4529 p4530, .deep .nilIface bs4538 p4539, .own (.slice A86 n87 c88) 3 1 n87 (r84.flatMap (eI .i64)), .own (.slice A73 n74 c75) 3 1 n74 (r71.flatMap (eI .i64)), .own (.slice A4533 n4534 c4535) 3 1 n4534 (x4532.flatMap (eI .i64)), .own (.slice A4524 n4525 c4526) 3 1 n4525 (x4523.flatMap (eI .i64)), .own (.slice A33 n34 c35) 3 1 n34 (r31.flatMap (eI .i64)), .own (.slice A20 n21 c22) 3 1 n21 (r18.flatMap (eI .i64))] [Sm w.heap.size F w [], St w []]
                intro A4524 n4525 c4526 h4527 h4528 bs4529 p4530 hE4531 A4533 n4534 c4535 h4536 h4537 bs4538 p4539 hE4540
                have h : trellislaw15_finds_b4 r71 r18 r84 r31 x1 k6 x14 x1765 x3947 x9 x4523 x4532 x4541 o3 := h
                unfold trellislaw15_finds_b4 at h
                refine g_seq (c := trellislaw15_finds_c62) rfl ?_
                refine g_seq (c := trellislaw15_finds_c63) rfl ?_
                refine g_region (c := trellislaw15_finds_c65) rfl rfl ?_
                refine wl_v 0 rfl (v_move rfl) gn rfl ?_
                refine wl_v 1 rfl (v_bin rfl rfl rfl) gn rfl ?_
                refine w_end 2 rfl ?_
                by_cases hp4787 : x4541 < 70
                · have h := if_pos' hp4787 h
                  refine g_true (c := trellislaw15_finds_c66) rfl _ rfl ((decide_eq_true hp4787)) ?_
                  refine g_skip (c := trellislaw15_finds_c67) rfl ?_
                  refine g_seq (c := trellislaw15_finds_c64) rfl ?_
                  refine g_block (c := trellislaw15_finds_c69) rfl ?_
                  refine g_seq (c := trellislaw15_finds_c71) rfl ?_
                  refine g_region (c := trellislaw15_finds_c72) rfl rfl ?_
                  refine wl_v 0 rfl (v_move rfl) gn rfl ?_
                  refine wl_s 1 rfl (s_litO (xs := ([-9] : List Int)) [.int .i64 (-9)] bs_23_1 rfl (by kernel_rfl) rfl rfl rfl rfl fun gb4789 h4790 => ?_) gn
                  obtain ⟨x4797, hv4798, h⟩ := h
                  obtain ⟨hb4799, h⟩ := h
                  refine wl_s 2 rfl (s_appE (zs := x4797) (cells' := x4797.flatMap (eI .i64)) 6 1 rfl ap_23 rfl rfl rfl rfl hE4531 h4527 (Nat.le_refl _) (Src.ownF (hl := (hlI .i64)) (h1 := (hone_int .i64)) 0 rfl h4790) (by rw [hv4798, List.flatMap_append] <;> rfl) (app_len hv4798 h4790.hq) hb4799 rfl rfl fun A4791 c4792 bs4794 p4795 h4793 hE4796 => ?_) gn
                  refine wl_v 3 rfl (v_assign rfl) gn rfl ?_
                  refine w_end 4 rfl ?_
                  refine g_region (c := trellislaw15_finds_c73) rfl rfl ?_
                  refine wl_v 0 rfl (v_move rfl) gn rfl ?_
                  refine wl_s 1 rfl (s_litO (xs := ([-10] : List Int)) [.int .i64 (-10)] bs_23_1 rfl (by kernel_rfl) rfl rfl rfl rfl fun gb4801 h4802 => ?_) gn
                  obtain ⟨x4809, hv4810, h⟩ := h
                  obtain ⟨hb4811, h⟩ := h
                  refine wl_s 2 rfl (s_appE (zs := x4809) (cells' := x4809.flatMap (eI .i64)) 6 3 rfl ap_23 rfl rfl rfl rfl hE4540 h4536 (Nat.le_refl _) (Src.ownF (hl := (hlI .i64)) (h1 := (hone_int .i64)) 0 rfl h4802) (by rw [hv4810, List.flatMap_append] <;> rfl) (app_len hv4810 h4802.hq) hb4811 rfl rfl fun A4803 c4804 bs4806 p4807 h4805 hE4808 => ?_) gn
                  refine wl_v 3 rfl (v_assign rfl) gn rfl ?_
                  refine w_end 4 rfl ?_
                  refine g_inBlock ?_
                  refine g_region (c := trellislaw15_finds_c70) rfl rfl ?_
                  refine wl_v 0 rfl (v_move rfl) gn rfl ?_
                  refine wl_v 1 rfl (v_bin rfl rfl rfl) gn rfl ?_
                  refine wl_v 2 rfl (v_assign rfl) gn rfl ?_
                  refine w_end 3 rfl ?_
                  refine g_inLoop ?_
                  have ih := Out.inl hO3 h
                  exact g_go [0, 1] (ih A4791 (n4525 + 1) c4792 h4793 h4528 bs4794 p4795 hE4796 A4803 (n4534 + 1) c4804 h4805 h4537 bs4806 p4807 hE4808) ⟨rfl, rfl, rfl, rfl, rfl, rfl, rfl, rfl, rfl, rfl, rfl, rfl, trivial⟩ (.cons _ (.cons _ (.cons_cons _ (.cons_cons _ (.cons_cons _ (.cons_cons _ (.cons_cons _ (.cons_cons _ (.cons_cons _ (.cons_cons _ (.slnil))))))))))) rfl
                · have h := if_neg' hp4787 h
                  refine g_false (c := trellislaw15_finds_c66) rfl _ rfl ((decide_eq_false hp4787)) ?_
                  refine g_exit (c := trellislaw15_finds_c68) [.code trellislaw15_finds_c58] rfl rfl ?_
                  refine g_seq (c := trellislaw15_finds_c58) rfl ?_
                  refine g_seq (c := trellislaw15_finds_c74) rfl ?_
                  have j5 : ∀ (x4838 : Bool) (h : trellislaw15_finds_j5 x1 k6 x14 r18 r31 x1765 x4523 x3947 x4532 x9 x4838 o3) (h4830 : Ow 0 A46 n47 c48 x1765) (bs4831 : List Nat) (p4832 : World → Prop) (hE4833 : Eld 3 1 A4524 n4525 c4526 (x4523.flatMap (eI .i64)) bs4831 p4832 A46 n47 (x1765.flatMap (eI .i64))) (h4834 : Ow 0 A59 n60 c61 x3947) (bs4835 : List Nat) (p4836 : World → Prop) (hE4837 : Eld 3 1 A4533 n4534 c4535 (x4532.flatMap (eI .i64)) bs4835 p4836 A59 n60 (x3947.flatMap (eI .i64))), G (trellislaw15_finds_C w F r) [.code trellislaw15_finds_c77, .code trellislaw15_finds_c75] [(0, .slice A2 k6 c4), (1, .slice A10 n11 c12), (2, .int .i64 x14), (7, .slice A20 n21 c22), (8, .slice A33 n34 c35), (9, .slice A46 n47 c48), (10, .slice A59 n60 c61), (15, .slice A4524 n4525 c4526), (16, .slice A4533 n4534 c4535), (103, .bool x4838)] [.deep .nilIface bs4831 p4832, .deep .nilIface bs4835 p4836, .own (.slice A4533 n4534 c4535) 3 1 n4534 (x4532.flatMap (eI .i64)), .own (.slice A4524 n4525 c4526) 3 1 n4525 (x4523.flatMap (eI .i64)), .own (.slice A33 n34 c35) 3 1 n34 (r31.flatMap (eI .i64)), .own (.slice A20 n21 c22) 3 1 n21 (r18.flatMap (eI .i64))] [Sm w.heap.size F w [], St w []] := by
                    intro x4838 h h4830 bs4831 p4832 hE4833 h4834 bs4835 p4836 hE4837
                    unfold trellislaw15_finds_j5 at h
                    by_cases hp4839 : x4838 = true
                    · have h := if_pos' hp4839 h
                      refine g_true (c := trellislaw15_finds_c77) rfl _ rfl (hp4839) ?_
                      refine g_seq (c := trellislaw15_finds_c78) rfl ?_
                      refine g_region (c := trellislaw15_finds_c80) rfl rfl ?_
                      refine wl_v 0 rfl (v_assign rfl) gn rfl ?_
                      refine w_end 1 rfl ?_
                      have h := Out.inr hO3 h
                      have h := Out.inr hO2 h
                      have h := Out.inr hO1 h
                      refine g_retR (c := trellislaw15_finds_c81) [.bool false] rfl Try.func30 rfl (.tmp rfl (.nil)) fun wr hLr => ?_
                      have hMr : B.Loc w wr [] [St w []] := hLr.pick (rest := [.deep .nilIface bs4831 p4832, .deep .nilIface bs4835 p4836, .own (.slice A4533 n4534 c4535) 3 1 n4534 (x4532.flatMap (eI .i64)), .own (.slice A4524 n4525 c4526) 3 1 n4525 (x4523.flatMap (eI .i64)), .own (.slice A33 n34 c35) 3 1 n34 (r31.flatMap (eI .i64)), .own (.slice A20 n21 c22) 3 1 n21 (r18.flatMap (eI .i64))]) (perm_of_idx [] [0, 1, 2, 3, 4, 5] rfl rfl (by kernel_rfl)) (sels [1] rfl)
                      have hMi : ∀ e ∈ ([] : List Ent), e ∈ ([.deep .nilIface bs4831 p4832, .deep .nilIface bs4835 p4836, .own (.slice A4533 n4534 c4535) 3 1 n4534 (x4532.flatMap (eI .i64)), .own (.slice A4524 n4525 c4526) 3 1 n4525 (x4523.flatMap (eI .i64)), .own (.slice A33 n34 c35) 3 1 n34 (r31.flatMap (eI .i64)), .own (.slice A20 n21 c22) 3 1 n21 (r18.flatMap (eI .i64))] : List Ent) := sels [] rfl
                      show trellislaw15_finds_R w F  r (.returned (packV [.bool false])) wr
                      rw [h]
                      exact ⟨rfl, hMr⟩
                    · have h := if_neg' hp4839 h
                      refine g_false (c := trellislaw15_finds_c77) rfl _ rfl ((bf hp4839)) ?_
                      refine g_skip (c := trellislaw15_finds_c79) rfl ?_
                      refine g_seq (c := trellislaw15_finds_c75) rfl ?_
                      refine g_region (c := trellislaw15_finds_c82) rfl rfl ?_
                      refine wl_v 0 rfl (v_move rfl) gn rfl ?_
                      refine wl_v 1 rfl (v_move rfl) gn rfl ?_
                      obtain ⟨r4843, hv4844, h⟩ := h
                      refine wl_s 2 rfl (s_call [.slice A2 k6 c4, .int .i64 x14] rfl Try.func42 rfl rfl rfl fun w4840 hL4841 => ?_) gn
                      have hp4842 : List.Perm ([.deep .nilIface bs4831 p4832, .deep .nilIface bs4835 p4836, .own (.slice A4533 n4534 c4535) 3 1 n4534 (x4532.flatMap (eI .i64)), .own (.slice A4524 n4525 c4526) 3 1 n4525 (x4523.flatMap (eI .i64)), .own (.slice A33 n34 c35) 3 1 n34 (r31.flatMap (eI .i64)), .own (.slice A20 n21 c22) 3 1 n21 (r18.flatMap (eI .i64))] : List Ent) (([] : List Ent) ++ ([.deep .nilIface bs4831 p4832, .deep .nilIface bs4835 p4836, .own (.slice A4533 n4534 c4535) 3 1 n4534 (x4532.flatMap (eI .i64)), .own (.slice A4524 n4525 c4526) 3 1 n4525 (x4523.flatMap (eI .i64)), .own (.slice A33 n34 c35) 3 1 n34 (r31.flatMap (eI .i64)), .own (.slice A20 n21 c22) 3 1 n21 (r18.flatMap (eI .i64))] : List Ent)) := perm_of_idx [] [0, 1, 2, 3, 4, 5] rfl rfl (by kernel_rfl)
                      refine Calls.mono (tree_Kids_calls w4840 (Fl ([] : List Snap)) (x1.take k6) x14 A2 k6 c4 (Rw.mono h8 (hL4841.toSt hp4842 (me 1 rfl))) (hL4841.hFl (Sl := ([] : List Snap)) hp4842 (sels [] rfl)) (hL4841.into hp4842 (Fl ([] : List Snap))) r4843 hv4844) ?_
                      rintro _ w4850 ⟨A4845, n4846, c4847, rfl, hM4851, h4848⟩
                      have hL4852 := hL4841.call hp4842 hM4851
                      refine ⟨_, _, _, rfl, hL4852, ?_⟩
                      refine wl_v 3 rfl (v_assign rfl) gn rfl ?_
                      refine w_end 4 rfl ?_
                      refine g_seq (c := trellislaw15_finds_c83) rfl ?_
                      refine g_region (c := trellislaw15_finds_c84) rfl rfl ?_
                      refine wl_v 0 rfl (v_move rfl) gn rfl ?_
                      refine wl_v 1 rfl (v_move rfl) gn rfl ?_
                      obtain ⟨r4856, hv4857, h⟩ := h
                      refine wl_s 2 rfl (s_call [.slice A2 k6 c4, .int .i64 x14] rfl Try.func39 rfl rfl rfl fun w4853 hL4854 => ?_) gn
                      have hp4855 : List.Perm ([.own (.slice A4845 n4846 c4847) 3 1 n4846 (r4843.flatMap (eI .i64)), .deep .nilIface bs4831 p4832, .deep .nilIface bs4835 p4836, .own (.slice A4533 n4534 c4535) 3 1 n4534 (x4532.flatMap (eI .i64)), .own (.slice A4524 n4525 c4526) 3 1 n4525 (x4523.flatMap (eI .i64)), .own (.slice A33 n34 c35) 3 1 n34 (r31.flatMap (eI .i64)), .own (.slice A20 n21 c22) 3 1 n21 (r18.flatMap (eI .i64))] : List Ent) (([] : List Ent) ++ ([.own (.slice A4845 n4846 c4847) 3 1 n4846 (r4843.flatMap (eI .i64)), .deep .nilIface bs4831 p4832, .deep .nilIface bs4835 p4836, .own (.slice A4533 n4534 c4535) 3 1 n4534 (x4532.flatMap (eI .i64)), .own (.slice A4524 n4525 c4526) 3 1 n4525 (x4523.flatMap (eI .i64)), .own (.slice A33 n34 c35) 3 1 n34 (r31.flatMap (eI .i64)), .own (.slice A20 n21 c22) 3 1 n21 (r18.flatMap (eI .i64))] : List Ent)) := perm_of_idx [] [0, 1, 2, 3, 4, 5, 6] rfl rfl (by kernel_rfl)
                      refine Calls.mono (tree_Path_calls w4853 (Fl ([] : List Snap)) (x1.take k6) x14 A2 k6 c4 (Rw.mono h8 (hL4854.toSt hp4855 (me 1 rfl))) (hL4854.hFl (Sl := ([] : List Snap)) hp4855 (sels [] rfl)) (hL4854.into hp4855 (Fl ([] : List Snap))) r4856 hv4857) ?_
                      rintro _ w4863 ⟨A4858, n4859, c4860, rfl, hM4864, h4861⟩
                      have hL4865 := hL4854.call hp4855 hM4864
                      refine ⟨_, _, _, rfl, hL4865, ?_⟩
                      refine wl_v 3 rfl (v_assign rfl) gn rfl ?_
                      refine w_end 4 rfl ?_
                      refine g_seq (c := trellislaw15_finds_c85) rfl ?_
                      refine g_seq (c := trellislaw15_finds_c86) rfl ?_
                      have j6 : ∀ (x4902 : Bool) (h : trellislaw15_finds_j6 x1 k6 x14 x9 x4902 o3) , G (trellislaw15_finds_C w F r) [.code trellislaw15_finds_c89, .code trellislaw15_finds_c87] [(0, .slice A2 k6 c4), (1, .slice A10 n11 c12), (2, .int .i64 x14), (131, .bool x4902)] [] [Sm w.heap.size F w [], St w []] := by
                        intro x4902 h
                        unfold trellislaw15_finds_j6 at h
                        by_cases hp4903 : x4902 = true
                        · have h := if_pos' hp4903 h
                          refine g_true (c := trellislaw15_finds_c89) rfl _ rfl (hp4903) ?_
                          refine g_seq (c := trellislaw15_finds_c90) rfl ?_
                          refine g_region (c := trellislaw15_finds_c92) rfl rfl ?_
                          refine wl_v 0 rfl (v_assign rfl) gn rfl ?_
                          refine w_end 1 rfl ?_
                          have h := Out.inr hO3 h
                          have h := Out.inr hO2 h
                          have h := Out.inr hO1 h
                          refine g_retR (c := trellislaw15_finds_c93) [.bool false] rfl Try.func30 rfl (.tmp rfl (.nil)) fun wr hLr => ?_
                          have hMr : B.Loc w wr [] [St w []] := hLr.pick (rest := []) (perm_of_idx [] [] rfl rfl (by kernel_rfl)) (sels [1] rfl)
                          have hMi : ∀ e ∈ ([] : List Ent), e ∈ ([] : List Ent) := sels [] rfl
                          show trellislaw15_finds_R w F  r (.returned (packV [.bool false])) wr
                          rw [h]
                          exact ⟨rfl, hMr⟩
                        · have h := if_neg' hp4903 h
                          refine g_false (c := trellislaw15_finds_c89) rfl _ rfl ((bf hp4903)) ?_
                          refine g_skip (c := trellislaw15_finds_c91) rfl ?_
                          refine g_seq (c := trellislaw15_finds_c87) rfl ?_
                          refine g_region (c := trellislaw15_finds_c94) rfl rfl ?_
                          refine wl_v 0 rfl (v_move rfl) gn rfl ?_
                          obtain ⟨r4907, hv4908, h⟩ := h
                          refine wl_s 1 rfl (s_call [.slice A2 k6 c4] rfl Try.func37 rfl rfl rfl fun w4904 hL4905 => ?_) gn
                          have hp4906 : List.Perm ([] : List Ent) (([] : List Ent) ++ ([] : List Ent)) := perm_of_idx [] [] rfl rfl (by kernel_rfl)
                          refine Calls.mono (tree_Roots_calls w4904 (Fl ([] : List Snap)) (x1.take k6) A2 k6 c4 (Rw.mono h8 (hL4905.toSt hp4906 (me 1 rfl))) (hL4905.hFl (Sl := ([] : List Snap)) hp4906 (sels [] rfl)) (hL4905.into hp4906 (Fl ([] : List Snap))) r4907 hv4908) ?_
                          rintro _ w4909 ⟨rfl, hM4910⟩
                          have hL4911 := hL4905.call hp4906 hM4910
                          refine ⟨_, _, _, rfl, hL4911, ?_⟩
                          refine wl_v 2 rfl (v_assign rfl) gn rfl ?_
                          refine w_end 3 rfl ?_
                          refine g_seq (c := trellislaw15_finds_c95) rfl ?_
                          refine g_region (c := trellislaw15_finds_c96) rfl rfl ?_
                          refine wl_v 0 rfl (v_move rfl) gn rfl ?_
                          refine wl_v 1 rfl (v_move rfl) gn rfl ?_
                          obtain ⟨r4915, hv4916, h⟩ := h
                          refine wl_s 2 rfl (s_call [.slice A2 k6 c4, .int .i64 x14] rfl Try.func43 rfl rfl rfl fun w4912 hL4913 => ?_) gn
                          have hp4914 : List.Perm ([] : List Ent) (([] : List Ent) ++ ([] : List Ent)) := perm_of_idx [] [] rfl rfl (by kernel_rfl)
                          refine Calls.mono (tree_Size_calls w4912 (Fl ([] : List Snap)) (x1.take k6) x14 A2 k6 c4 (Rw.mono h8 (hL4913.toSt hp4914 (me 1 rfl))) (hL4913.hFl (Sl := ([] : List Snap)) hp4914 (sels [] rfl)) (hL4913.into hp4914 (Fl ([] : List Snap))) r4915 hv4916) ?_
                          rintro _ w4917 ⟨rfl, hM4918⟩
                          have hL4919 := hL4913.call hp4914 hM4918
                          refine ⟨_, _, _, rfl, hL4919, ?_⟩
                          refine wl_v 3 rfl (v_assign rfl) gn rfl ?_
                          refine w_end 4 rfl ?_
                          refine g_seq (c := trellislaw15_finds_c97) rfl ?_
                          refine g_region (c := trellislaw15_finds_c98) rfl rfl ?_
                          refine wl_v 0 rfl (v_move rfl) gn rfl ?_
                          refine wl_v 1 rfl (v_move rfl) gn rfl ?_
                          obtain ⟨r4923, hv4924, h⟩ := h
                          refine wl_s 2 rfl (s_call [.slice A2 k6 c4, .int .i64 x14] rfl Try.func41 rfl rfl rfl fun w4920 hL4921 => ?_) gn
                          have hp4922 : List.Perm ([] : List Ent) (([] : List Ent) ++ ([] : List Ent)) := perm_of_idx [] [] rfl rfl (by kernel_rfl)
                          refine Calls.mono (tree_Parent_calls w4920 (Fl ([] : List Snap)) (x1.take k6) x14 A2 k6 c4 (Rw.mono h8 (hL4921.toSt hp4922 (me 1 rfl))) (hL4921.hFl (Sl := ([] : List Snap)) hp4922 (sels [] rfl)) (hL4921.into hp4922 (Fl ([] : List Snap))) r4923 hv4924) ?_
                          rintro _ w4925 ⟨rfl, hM4926⟩
                          have hL4927 := hL4921.call hp4922 hM4926
                          refine ⟨_, _, _, rfl, hL4927, ?_⟩
                          refine wl_v 3 rfl (v_assign rfl) gn rfl ?_
                          refine w_end 4 rfl ?_
                          refine g_seq (c := trellislaw15_finds_c99) rfl ?_
                          refine g_region (c := trellislaw15_finds_c100) rfl rfl ?_
                          refine wl_v 0 rfl (v_move rfl) gn rfl ?_
                          obtain ⟨r4931, hv4932, h⟩ := h
                          refine wl_s 1 rfl (s_call [.slice A2 k6 c4] rfl Try.func53 rfl rfl rfl fun w4928 hL4929 => ?_) gn
                          have hp4930 : List.Perm ([] : List Ent) (([] : List Ent) ++ ([] : List Ent)) := perm_of_idx [] [] rfl rfl (by kernel_rfl)
                          refine Calls.mono (tree_Text_calls w4928 (Fl ([] : List Snap)) (x1.take k6) A2 k6 c4 (Rw.mono h8 (hL4929.toSt hp4930 (me 1 rfl))) (hL4929.hFl (Sl := ([] : List Snap)) hp4930 (sels [] rfl)) (hL4929.into hp4930 (Fl ([] : List Snap))) r4931 hv4932) ?_
                          rintro _ w4933 ⟨rfl, hM4934⟩
                          have hL4935 := hL4929.call hp4930 hM4934
                          refine ⟨_, _, _, rfl, hL4935, ?_⟩
                          refine wl_v 2 rfl (v_assign rfl) gn rfl ?_
                          refine w_end 3 rfl ?_
                          refine g_seq (c := trellislaw15_finds_c101) rfl ?_
                          refine g_region (c := trellislaw15_finds_c102) rfl rfl ?_
                          refine wl_v 0 rfl (v_move rfl) gn rfl ?_
                          refine wl_v 1 rfl (v_move rfl) gn rfl ?_
                          obtain ⟨r4939, hv4940, h⟩ := h
                          refine wl_s 2 rfl (s_call [.slice A10 n11 c12] rfl Try.func54 rfl rfl rfl fun w4936 hL4937 => ?_) gn
                          have hp4938 : List.Perm ([] : List Ent) (([] : List Ent) ++ ([] : List Ent)) := perm_of_idx [] [] rfl rfl (by kernel_rfl)
                          refine Calls.mono (trellisref15_Roots_calls w4936 (Fl ([] : List Snap)) x9 A10 n11 c12 (Rw.mono h13 (hL4937.toSt hp4938 (me 1 rfl))) (hL4937.hFl (Sl := ([] : List Snap)) hp4938 (sels [] rfl)) (hL4937.into hp4938 (Fl ([] : List Snap))) r4939 hv4940) ?_
                          rintro _ w4941 ⟨rfl, hM4942⟩
                          have hL4943 := hL4937.call hp4938 hM4942
                          refine ⟨_, _, _, rfl, hL4943, ?_⟩
                          refine wl_v 3 rfl (v_bin rfl rfl rfl) gn rfl ?_
                          refine wl_v 4 rfl (v_move rfl) gn rfl ?_
                          by_cases hp4944 : r4907 = r4939
                          · have h := if_pos' hp4944 h
                            refine w_bool 146 rfl ((eqi hp4944)) ?_
                            refine wl_v 5 rfl (v_move rfl) (gy 146 rfl rfl) rfl ?_
                            refine wl_v 6 rfl (v_move rfl) (gy 146 rfl rfl) rfl ?_
                            refine wl_v 7 rfl (v_move rfl) (gy 146 rfl rfl) rfl ?_
                            obtain ⟨r4948, hv4949, h⟩ := h
                            refine wl_s 8 rfl (s_call [.slice A10 n11 c12, .int .i64 x14] rfl Try.func55 rfl rfl rfl fun w4945 hL4946 => ?_) (gy 146 rfl rfl)
                            have hp4947 : List.Perm ([] : List Ent) (([] : List Ent) ++ ([] : List Ent)) := perm_of_idx [] [] rfl rfl (by kernel_rfl)
                            refine Calls.mono (trellisref15_Size_calls w4945 (Fl ([] : List Snap)) x9 x14 A10 n11 c12 (Rw.mono h13 (hL4946.toSt hp4947 (me 1 rfl))) (hL4946.hFl (Sl := ([] : List Snap)) hp4947 (sels [] rfl)) (hL4946.into hp4947 (Fl ([] : List Snap))) r4948 hv4949) ?_
                            rintro _ w4950 ⟨rfl, hM4951⟩
                            have hL4952 := hL4946.call hp4947 hM4951
                            refine ⟨_, _, _, rfl, hL4952, ?_⟩
                            refine wl_v 9 rfl (v_bin rfl rfl rfl) (gy 146 rfl rfl) rfl ?_
                            refine wl_v 10 rfl (v_pick (b := true) rfl rfl) gn rfl ?_
                            refine wl_v 11 rfl (v_move rfl) gn rfl ?_
                            by_cases hp4953 : r4915 = r4948
                            · have h := if_pos' hp4953 h
                              refine w_bool 153 rfl ((eqi hp4953)) ?_
                              refine wl_v 12 rfl (v_move rfl) (gy 153 rfl rfl) rfl ?_
                              refine wl_v 13 rfl (v_move rfl) (gy 153 rfl rfl) rfl ?_
                              refine wl_v 14 rfl (v_move rfl) (gy 153 rfl rfl) rfl ?_
                              obtain ⟨r4957, hv4958, h⟩ := h
                              refine wl_s 15 rfl (s_call [.slice A10 n11 c12, .int .i64 x14] rfl Try.func56 rfl rfl rfl fun w4954 hL4955 => ?_) (gy 153 rfl rfl)
                              have hp4956 : List.Perm ([] : List Ent) (([] : List Ent) ++ ([] : List Ent)) := perm_of_idx [] [] rfl rfl (by kernel_rfl)
                              refine Calls.mono (trellisref15_Parent_calls w4954 (Fl ([] : List Snap)) x9 x14 A10 n11 c12 (Rw.mono h13 (hL4955.toSt hp4956 (me 1 rfl))) (hL4955.hFl (Sl := ([] : List Snap)) hp4956 (sels [] rfl)) (hL4955.into hp4956 (Fl ([] : List Snap))) r4957 hv4958) ?_
                              rintro _ w4959 ⟨rfl, hM4960⟩
                              have hL4961 := hL4955.call hp4956 hM4960
                              refine ⟨_, _, _, rfl, hL4961, ?_⟩
                              refine wl_v 16 rfl (v_bin rfl rfl rfl) (gy 153 rfl rfl) rfl ?_
                              refine wl_v 17 rfl (v_pick (b := true) rfl rfl) gn rfl ?_
                              refine wl_v 18 rfl (v_move rfl) gn rfl ?_
                              by_cases hp4962 : r4923 = r4957
                              · have h := if_pos' hp4962 h
                                refine w_bool 160 rfl ((eqi hp4962)) ?_
                                refine wl_v 19 rfl (v_move rfl) (gy 160 rfl rfl) rfl ?_
                                refine wl_v 20 rfl (v_move rfl) (gy 160 rfl rfl) rfl ?_
                                obtain ⟨r4966, hv4967, h⟩ := h
                                refine wl_s 21 rfl (s_call [.slice A10 n11 c12] rfl Try.func57 rfl rfl rfl fun w4963 hL4964 => ?_) (gy 160 rfl rfl)
                                have hp4965 : List.Perm ([] : List Ent) (([] : List Ent) ++ ([] : List Ent)) := perm_of_idx [] [] rfl rfl (by kernel_rfl)
                                refine Calls.mono (trellisref15_Text_calls w4963 (Fl ([] : List Snap)) x9 A10 n11 c12 (Rw.mono h13 (hL4964.toSt hp4965 (me 1 rfl))) (hL4964.hFl (Sl := ([] : List Snap)) hp4965 (sels [] rfl)) (hL4964.into hp4965 (Fl ([] : List Snap))) r4966 hv4967) ?_
                                rintro _ w4968 ⟨rfl, hM4969⟩
                                have hL4970 := hL4964.call hp4965 hM4969
                                refine ⟨_, _, _, rfl, hL4970, ?_⟩
                                refine wl_v 22 rfl (v_eqS rfl rfl) (gy 160 rfl rfl) rfl ?_
                                refine wl_v 23 rfl (v_pick (b := true) rfl rfl) gn rfl ?_
                                refine wl_v 24 rfl (v_move rfl) gn rfl ?_
                                by_cases hp4971 : r4931 = r4966
                                · have h := if_pos' hp4971 h
                                  refine w_bool 166 rfl ((seq_t hp4971)) ?_
                                  refine wl_v 25 rfl (v_move rfl) (gy 166 rfl rfl) rfl ?_
                                  refine wl_v 26 rfl (v_move rfl) (gy 166 rfl rfl) rfl ?_
                                  obtain ⟨r4975, hv4976, h⟩ := h
                                  refine wl_s 27 rfl (s_call [.slice A2 k6 c4, .slice A10 n11 c12] rfl Try.func16 rfl rfl rfl fun w4972 hL4973 => ?_) (gy 166 rfl rfl)
                                  have hp4974 : List.Perm ([] : List Ent) (([] : List Ent) ++ ([] : List Ent)) := perm_of_idx [] [] rfl rfl (by kernel_rfl)
                                  refine Calls.mono (trellislaw15_stays_calls w4972 (Fl ([] : List Snap)) x1 k6 x9 A2 n3 c4 A10 n11 c12 (Rw.mono h5 (hL4973.toSt hp4974 (me 1 rfl))) hk7 (Rw.mono h13 (hL4973.toSt hp4974 (me 1 rfl))) (hL4973.hFl (Sl := ([] : List Snap)) hp4974 (sels [] rfl)) (hL4973.into hp4974 (Fl ([] : List Snap))) r4975 hv4976) ?_
                                  rintro _ w4977 ⟨rfl, hM4978⟩
                                  have hL4979 := hL4973.call hp4974 hM4978
                                  refine ⟨_, _, _, rfl, hL4979, ?_⟩
                                  refine wl_v 28 rfl (v_pick (b := true) rfl rfl) gn rfl ?_
                                  refine wl_v 29 rfl (v_assign rfl) gn rfl ?_
                                  refine w_end 30 rfl ?_
                                  have h := Out.inr hO3 h
                                  have h := Out.inr hO2 h
                                  have h := Out.inr hO1 h
                                  refine g_retR (c := trellislaw15_finds_c103) [.bool r4975] rfl Try.func30 rfl (.tmp rfl (.nil)) fun wr hLr => ?_
                                  have hMr : B.Loc w wr [] [St w []] := hLr.pick (rest := []) (perm_of_idx [] [] rfl rfl (by kernel_rfl)) (sels [1] rfl)
                                  have hMi : ∀ e ∈ ([] : List Ent), e ∈ ([] : List Ent) := sels [] rfl
                                  show trellislaw15_finds_R w F  r (.returned (packV [.bool r4975])) wr
                                  rw [h]
                                  exact ⟨rfl, hMr⟩
                                · have h := if_neg' hp4971 h
                                  refine w_bool 166 rfl ((seq_f hp4971)) ?_
                                  refine wl_pass 25 rfl (ps 166 rfl rfl rfl) ?_
                                  refine wl_pass 26 rfl (ps 166 rfl rfl rfl) ?_
                                  refine wl_pass 27 rfl (ps 166 rfl rfl rfl) ?_
                                  refine wl_v 28 rfl (v_pick (b := false) rfl rfl) gn rfl ?_
                                  refine wl_v 29 rfl (v_assign rfl) gn rfl ?_
                                  refine w_end 30 rfl ?_
                                  have h := Out.inr hO3 h
                                  have h := Out.inr hO2 h
                                  have h := Out.inr hO1 h
                                  refine g_retR (c := trellislaw15_finds_c103) [.bool false] rfl Try.func30 rfl (.tmp rfl (.nil)) fun wr hLr => ?_
                                  have hMr : B.Loc w wr [] [St w []] := hLr.pick (rest := []) (perm_of_idx [] [] rfl rfl (by kernel_rfl)) (sels [1] rfl)
                                  have hMi : ∀ e ∈ ([] : List Ent), e ∈ ([] : List Ent) := sels [] rfl
                                  show trellislaw15_finds_R w F  r (.returned (packV [.bool false])) wr
                                  rw [h]
                                  exact ⟨rfl, hMr⟩
                              · have h := if_neg' hp4962 h
                                refine w_bool 160 rfl ((nei hp4962)) ?_
                                refine wl_pass 19 rfl (ps 160 rfl rfl rfl) ?_
                                refine wl_pass 20 rfl (ps 160 rfl rfl rfl) ?_
                                refine wl_pass 21 rfl (ps 160 rfl rfl rfl) ?_
                                refine wl_pass 22 rfl (ps 160 rfl rfl rfl) ?_
                                refine wl_v 23 rfl (v_pick (b := false) rfl rfl) gn rfl ?_
                                refine wl_v 24 rfl (v_move rfl) gn rfl ?_
                                refine wl_pass 25 rfl (ps 166 rfl rfl rfl) ?_
                                refine wl_pass 26 rfl (ps 166 rfl rfl rfl) ?_
                                refine wl_pass 27 rfl (ps 166 rfl rfl rfl) ?_
                                refine wl_v 28 rfl (v_pick (b := false) rfl rfl) gn rfl ?_
                                refine wl_v 29 rfl (v_assign rfl) gn rfl ?_
                                refine w_end 30 rfl ?_
                                have h := Out.inr hO3 h
                                have h := Out.inr hO2 h
                                have h := Out.inr hO1 h
                                refine g_retR (c := trellislaw15_finds_c103) [.bool false] rfl Try.func30 rfl (.tmp rfl (.nil)) fun wr hLr => ?_
                                have hMr : B.Loc w wr [] [St w []] := hLr.pick (rest := []) (perm_of_idx [] [] rfl rfl (by kernel_rfl)) (sels [1] rfl)
                                have hMi : ∀ e ∈ ([] : List Ent), e ∈ ([] : List Ent) := sels [] rfl
                                show trellislaw15_finds_R w F  r (.returned (packV [.bool false])) wr
                                rw [h]
                                exact ⟨rfl, hMr⟩
                            · have h := if_neg' hp4953 h
                              refine w_bool 153 rfl ((nei hp4953)) ?_
                              refine wl_pass 12 rfl (ps 153 rfl rfl rfl) ?_
                              refine wl_pass 13 rfl (ps 153 rfl rfl rfl) ?_
                              refine wl_pass 14 rfl (ps 153 rfl rfl rfl) ?_
                              refine wl_pass 15 rfl (ps 153 rfl rfl rfl) ?_
                              refine wl_pass 16 rfl (ps 153 rfl rfl rfl) ?_
                              refine wl_v 17 rfl (v_pick (b := false) rfl rfl) gn rfl ?_
                              refine wl_v 18 rfl (v_move rfl) gn rfl ?_
                              refine wl_pass 19 rfl (ps 160 rfl rfl rfl) ?_
                              refine wl_pass 20 rfl (ps 160 rfl rfl rfl) ?_
                              refine wl_pass 21 rfl (ps 160 rfl rfl rfl) ?_
                              refine wl_pass 22 rfl (ps 160 rfl rfl rfl) ?_
                              refine wl_v 23 rfl (v_pick (b := false) rfl rfl) gn rfl ?_
                              refine wl_v 24 rfl (v_move rfl) gn rfl ?_
                              refine wl_pass 25 rfl (ps 166 rfl rfl rfl) ?_
                              refine wl_pass 26 rfl (ps 166 rfl rfl rfl) ?_
                              refine wl_pass 27 rfl (ps 166 rfl rfl rfl) ?_
                              refine wl_v 28 rfl (v_pick (b := false) rfl rfl) gn rfl ?_
                              refine wl_v 29 rfl (v_assign rfl) gn rfl ?_
                              refine w_end 30 rfl ?_
                              have h := Out.inr hO3 h
                              have h := Out.inr hO2 h
                              have h := Out.inr hO1 h
                              refine g_retR (c := trellislaw15_finds_c103) [.bool false] rfl Try.func30 rfl (.tmp rfl (.nil)) fun wr hLr => ?_
                              have hMr : B.Loc w wr [] [St w []] := hLr.pick (rest := []) (perm_of_idx [] [] rfl rfl (by kernel_rfl)) (sels [1] rfl)
                              have hMi : ∀ e ∈ ([] : List Ent), e ∈ ([] : List Ent) := sels [] rfl
                              show trellislaw15_finds_R w F  r (.returned (packV [.bool false])) wr
                              rw [h]
                              exact ⟨rfl, hMr⟩
                          · have h := if_neg' hp4944 h
                            refine w_bool 146 rfl ((nei hp4944)) ?_
                            refine wl_pass 5 rfl (ps 146 rfl rfl rfl) ?_
                            refine wl_pass 6 rfl (ps 146 rfl rfl rfl) ?_
                            refine wl_pass 7 rfl (ps 146 rfl rfl rfl) ?_
                            refine wl_pass 8 rfl (ps 146 rfl rfl rfl) ?_
                            refine wl_pass 9 rfl (ps 146 rfl rfl rfl) ?_
                            refine wl_v 10 rfl (v_pick (b := false) rfl rfl) gn rfl ?_
                            refine wl_v 11 rfl (v_move rfl) gn rfl ?_
                            refine wl_pass 12 rfl (ps 153 rfl rfl rfl) ?_
                            refine wl_pass 13 rfl (ps 153 rfl rfl rfl) ?_
                            refine wl_pass 14 rfl (ps 153 rfl rfl rfl) ?_
                            refine wl_pass 15 rfl (ps 153 rfl rfl rfl) ?_
                            refine wl_pass 16 rfl (ps 153 rfl rfl rfl) ?_
                            refine wl_v 17 rfl (v_pick (b := false) rfl rfl) gn rfl ?_
                            refine wl_v 18 rfl (v_move rfl) gn rfl ?_
                            refine wl_pass 19 rfl (ps 160 rfl rfl rfl) ?_
                            refine wl_pass 20 rfl (ps 160 rfl rfl rfl) ?_
                            refine wl_pass 21 rfl (ps 160 rfl rfl rfl) ?_
                            refine wl_pass 22 rfl (ps 160 rfl rfl rfl) ?_
                            refine wl_v 23 rfl (v_pick (b := false) rfl rfl) gn rfl ?_
                            refine wl_v 24 rfl (v_move rfl) gn rfl ?_
                            refine wl_pass 25 rfl (ps 166 rfl rfl rfl) ?_
                            refine wl_pass 26 rfl (ps 166 rfl rfl rfl) ?_
                            refine wl_pass 27 rfl (ps 166 rfl rfl rfl) ?_
                            refine wl_v 28 rfl (v_pick (b := false) rfl rfl) gn rfl ?_
                            refine wl_v 29 rfl (v_assign rfl) gn rfl ?_
                            refine w_end 30 rfl ?_
                            have h := Out.inr hO3 h
                            have h := Out.inr hO2 h
                            have h := Out.inr hO1 h
                            refine g_retR (c := trellislaw15_finds_c103) [.bool false] rfl Try.func30 rfl (.tmp rfl (.nil)) fun wr hLr => ?_
                            have hMr : B.Loc w wr [] [St w []] := hLr.pick (rest := []) (perm_of_idx [] [] rfl rfl (by kernel_rfl)) (sels [1] rfl)
                            have hMi : ∀ e ∈ ([] : List Ent), e ∈ ([] : List Ent) := sels [] rfl
                            show trellislaw15_finds_R w F  r (.returned (packV [.bool false])) wr
                            rw [h]
                            exact ⟨rfl, hMr⟩
                      refine g_region (c := trellislaw15_finds_c88) rfl rfl ?_
                      refine wl_v 0 rfl (v_move rfl) gn rfl ?_
                      refine wl_v 1 rfl (v_move rfl) gn rfl ?_
                      obtain ⟨r4983, hv4984, h⟩ := h
                      refine wl_s 2 rfl (s_call [.slice A4845 n4846 c4847, .slice A20 n21 c22] rfl Try.func40 rfl rfl rfl fun w4980 hL4981 => ?_) gn
                      have hp4982 : List.Perm ([.own (.slice A4858 n4859 c4860) 3 1 n4859 (r4856.flatMap (eI .i64)), .own (.slice A4845 n4846 c4847) 3 1 n4846 (r4843.flatMap (eI .i64)), .deep .nilIface bs4831 p4832, .deep .nilIface bs4835 p4836, .own (.slice A4533 n4534 c4535) 3 1 n4534 (x4532.flatMap (eI .i64)), .own (.slice A4524 n4525 c4526) 3 1 n4525 (x4523.flatMap (eI .i64)), .own (.slice A33 n34 c35) 3 1 n34 (r31.flatMap (eI .i64)), .own (.slice A20 n21 c22) 3 1 n21 (r18.flatMap (eI .i64))] : List Ent) (([] : List Ent) ++ ([.own (.slice A4858 n4859 c4860) 3 1 n4859 (r4856.flatMap (eI .i64)), .own (.slice A4845 n4846 c4847) 3 1 n4846 (r4843.flatMap (eI .i64)), .deep .nilIface bs4831 p4832, .deep .nilIface bs4835 p4836, .own (.slice A4533 n4534 c4535) 3 1 n4534 (x4532.flatMap (eI .i64)), .own (.slice A4524 n4525 c4526) 3 1 n4525 (x4523.flatMap (eI .i64)), .own (.slice A33 n34 c35) 3 1 n34 (r31.flatMap (eI .i64)), .own (.slice A20 n21 c22) 3 1 n21 (r18.flatMap (eI .i64))] : List Ent)) := perm_of_idx [] [0, 1, 2, 3, 4, 5, 6, 7] rfl rfl (by kernel_rfl)
                      refine Calls.mono (trellislaw15_sameInts_calls w4980 (Fl ([] : List Snap)) r4843 r18 A4845 n4846 c4847 A20 n21 c22 (hL4981.argO (dk := (kInt .i64)) hp4982 [] rfl 1 rfl rfl (Ow.weak hL4841.env.size h4848) (me 0 rfl) (Cells.flat _)) (hL4981.argO (dk := (kInt .i64)) hp4982 [] rfl 7 rfl rfl (Ow.weak hL16.env.size h23) (me 0 rfl) (Cells.flat _)) (hL4981.hFl (Sl := ([] : List Snap)) hp4982 (sels [] rfl)) (hL4981.into hp4982 (Fl ([] : List Snap))) r4983 hv4984) ?_
                      rintro _ w4985 ⟨rfl, hM4986⟩
                      have hL4987 := hL4981.call hp4982 hM4986
                      refine ⟨_, _, _, rfl, hL4987, ?_⟩
                      refine wl_v 3 rfl (v_not rfl) gn rfl ?_
                      refine wl_v 4 rfl (v_move rfl) gn rfl ?_
                      by_cases hp4988 : r4983 = true
                      · have h := if_pos' hp4988 h
                        refine w_bool 114 rfl ((nf hp4988)) ?_
                        refine wl_v 5 rfl (v_move rfl) (gy 114 rfl rfl) rfl ?_
                        refine wl_v 6 rfl (v_move rfl) (gy 114 rfl rfl) rfl ?_
                        obtain ⟨r4992, hv4993, h⟩ := h
                        refine wl_s 7 rfl (s_call [.slice A4858 n4859 c4860, .slice A33 n34 c35] rfl Try.func40 rfl rfl rfl fun w4989 hL4990 => ?_) (gy 114 rfl rfl)
                        have hp4991 : List.Perm ([.own (.slice A4858 n4859 c4860) 3 1 n4859 (r4856.flatMap (eI .i64)), .own (.slice A4845 n4846 c4847) 3 1 n4846 (r4843.flatMap (eI .i64)), .deep .nilIface bs4831 p4832, .deep .nilIface bs4835 p4836, .own (.slice A4533 n4534 c4535) 3 1 n4534 (x4532.flatMap (eI .i64)), .own (.slice A4524 n4525 c4526) 3 1 n4525 (x4523.flatMap (eI .i64)), .own (.slice A33 n34 c35) 3 1 n34 (r31.flatMap (eI .i64)), .own (.slice A20 n21 c22) 3 1 n21 (r18.flatMap (eI .i64))] : List Ent) (([] : List Ent) ++ ([.own (.slice A4858 n4859 c4860) 3 1 n4859 (r4856.flatMap (eI .i64)), .own (.slice A4845 n4846 c4847) 3 1 n4846 (r4843.flatMap (eI .i64)), .deep .nilIface bs4831 p4832, .deep .nilIface bs4835 p4836, .own (.slice A4533 n4534 c4535) 3 1 n4534 (x4532.flatMap (eI .i64)), .own (.slice A4524 n4525 c4526) 3 1 n4525 (x4523.flatMap (eI .i64)), .own (.slice A33 n34 c35) 3 1 n34 (r31.flatMap (eI .i64)), .own (.slice A20 n21 c22) 3 1 n21 (r18.flatMap (eI .i64))] : List Ent)) := perm_of_idx [] [0, 1, 2, 3, 4, 5, 6, 7] rfl rfl (by kernel_rfl)
                        refine Calls.mono (trellislaw15_sameInts_calls w4989 (Fl ([] : List Snap)) r4856 r31 A4858 n4859 c4860 A33 n34 c35 (hL4990.argO (dk := (kInt .i64)) hp4991 [] rfl 0 rfl rfl (Ow.weak hL4854.env.size h4861) (me 0 rfl) (Cells.flat _)) (hL4990.argO (dk := (kInt .i64)) hp4991 [] rfl 6 rfl rfl (Ow.weak hL29.env.size h36) (me 0 rfl) (Cells.flat _)) (hL4990.hFl (Sl := ([] : List Snap)) hp4991 (sels [] rfl)) (hL4990.into hp4991 (Fl ([] : List Snap))) r4992 hv4993) ?_
                        rintro _ w4994 ⟨rfl, hM4995⟩
                        have hL4996 := hL4990.call hp4991 hM4995
                        refine ⟨_, _, _, rfl, hL4996, ?_⟩
                        refine wl_v 8 rfl (v_not rfl) (gy 114 rfl rfl) rfl ?_
                        refine wl_v 9 rfl (v_pick (b := false) rfl rfl) gn rfl ?_
                        refine wl_v 10 rfl (v_move rfl) gn rfl ?_
                        by_cases hp4997 : r4992 = true
                        · have h := if_pos' hp4997 h
                          refine w_bool 120 rfl ((nf hp4997)) ?_
                          refine wl_v 11 rfl (v_move rfl) (gy 120 rfl rfl) rfl ?_
                          refine wl_v 12 rfl (v_move rfl) (gy 120 rfl rfl) rfl ?_
                          obtain ⟨r5001, hv5002, h⟩ := h
                          refine wl_s 13 rfl (s_call [.slice A46 n47 c48, .slice A4524 n4525 c4526, .int .i64 (-7), .int .i64 (-9)] rfl Try.func52 rfl rfl rfl fun w4998 hL4999 => ?_) (gy 120 rfl rfl)
                          have hp5000 : List.Perm ([.own (.slice A4858 n4859 c4860) 3 1 n4859 (r4856.flatMap (eI .i64)), .own (.slice A4845 n4846 c4847) 3 1 n4846 (r4843.flatMap (eI .i64)), .deep .nilIface bs4831 p4832, .deep .nilIface bs4835 p4836, .own (.slice A4533 n4534 c4535) 3 1 n4534 (x4532.flatMap (eI .i64)), .own (.slice A4524 n4525 c4526) 3 1 n4525 (x4523.flatMap (eI .i64)), .own (.slice A33 n34 c35) 3 1 n34 (r31.flatMap (eI .i64)), .own (.slice A20 n21 c22) 3 1 n21 (r18.flatMap (eI .i64))] : List Ent) (([] : List Ent) ++ ([.own (.slice A4858 n4859 c4860) 3 1 n4859 (r4856.flatMap (eI .i64)), .own (.slice A4845 n4846 c4847) 3 1 n4846 (r4843.flatMap (eI .i64)), .deep .nilIface bs4831 p4832, .deep .nilIface bs4835 p4836, .own (.slice A4533 n4534 c4535) 3 1 n4534 (x4532.flatMap (eI .i64)), .own (.slice A4524 n4525 c4526) 3 1 n4525 (x4523.flatMap (eI .i64)), .own (.slice A33 n34 c35) 3 1 n34 (r31.flatMap (eI .i64)), .own (.slice A20 n21 c22) 3 1 n21 (r18.flatMap (eI .i64))] : List Ent)) := perm_of_idx [] [0, 1, 2, 3, 4, 5, 6, 7] rfl rfl (by kernel_rfl)
                          refine Calls.mono (trellislaw15_marked_calls w4998 (Fl ([] : List Snap)) x1765 x4523 (-7) (-9) A46 n47 c48 A4524 n4525 c4526 (hL4999.argE (hl := (hlI .i64)) (h1 := (hone_int .i64)) hp5000 [] rfl 5 2 rfl rfl rfl rfl hE4833 h4830) (hL4999.argO (dk := (kInt .i64)) hp5000 [] rfl 5 rfl rfl h4527 (me 0 rfl) (Cells.flat _)) (hL4999.hFl (Sl := ([] : List Snap)) hp5000 (sels [] rfl)) (hL4999.into hp5000 (Fl ([] : List Snap))) r5001 hv5002) ?_
                          rintro _ w5003 ⟨rfl, hM5004⟩
                          have hL5005 := hL4999.call hp5000 hM5004
                          refine ⟨_, _, _, rfl, hL5005, ?_⟩
                          refine wl_v 14 rfl (v_not rfl) (gy 120 rfl rfl) rfl ?_
                          refine wl_v 15 rfl (v_pick (b := false) rfl rfl) gn rfl ?_
                          refine wl_v 16 rfl (v_move rfl) gn rfl ?_
                          by_cases hp5006 : r5001 = true
                          · have h := if_pos' hp5006 h
                            refine w_bool 126 rfl ((nf hp5006)) ?_
                            refine wl_v 17 rfl (v_move rfl) (gy 126 rfl rfl) rfl ?_
                            refine wl_v 18 rfl (v_move rfl) (gy 126 rfl rfl) rfl ?_
                            obtain ⟨r5010, hv5011, h⟩ := h
                            refine wl_s 19 rfl (s_call [.slice A59 n60 c61, .slice A4533 n4534 c4535, .int .i64 (-8), .int .i64 (-10)] rfl Try.func52 rfl rfl rfl fun w5007 hL5008 => ?_) (gy 126 rfl rfl)
                            have hp5009 : List.Perm ([.own (.slice A4858 n4859 c4860) 3 1 n4859 (r4856.flatMap (eI .i64)), .own (.slice A4845 n4846 c4847) 3 1 n4846 (r4843.flatMap (eI .i64)), .deep .nilIface bs4831 p4832, .deep .nilIface bs4835 p4836, .own (.slice A4533 n4534 c4535) 3 1 n4534 (x4532.flatMap (eI .i64)), .own (.slice A4524 n4525 c4526) 3 1 n4525 (x4523.flatMap (eI .i64)), .own (.slice A33 n34 c35) 3 1 n34 (r31.flatMap (eI .i64)), .own (.slice A20 n21 c22) 3 1 n21 (r18.flatMap (eI .i64))] : List Ent) (([] : List Ent) ++ ([.own (.slice A4858 n4859 c4860) 3 1 n4859 (r4856.flatMap (eI .i64)), .own (.slice A4845 n4846 c4847) 3 1 n4846 (r4843.flatMap (eI .i64)), .deep .nilIface bs4831 p4832, .deep .nilIface bs4835 p4836, .own (.slice A4533 n4534 c4535) 3 1 n4534 (x4532.flatMap (eI .i64)), .own (.slice A4524 n4525 c4526) 3 1 n4525 (x4523.flatMap (eI .i64)), .own (.slice A33 n34 c35) 3 1 n34 (r31.flatMap (eI .i64)), .own (.slice A20 n21 c22) 3 1 n21 (r18.flatMap (eI .i64))] : List Ent)) := perm_of_idx [] [0, 1, 2, 3, 4, 5, 6, 7] rfl rfl (by kernel_rfl)
                            refine Calls.mono (trellislaw15_marked_calls w5007 (Fl ([] : List Snap)) x3947 x4532 (-8) (-10) A59 n60 c61 A4533 n4534 c4535 (hL5008.argE (hl := (hlI .i64)) (h1 := (hone_int .i64)) hp5009 [] rfl 4 3 rfl rfl rfl rfl hE4837 h4834) (hL5008.argO (dk := (kInt .i64)) hp5009 [] rfl 4 rfl rfl h4536 (me 0 rfl) (Cells.flat _)) (hL5008.hFl (Sl := ([] : List Snap)) hp5009 (sels [] rfl)) (hL5008.into hp5009 (Fl ([] : List Snap))) r5010 hv5011) ?_
                            rintro _ w5012 ⟨rfl, hM5013⟩
                            have hL5014 := hL5008.call hp5009 hM5013
                            refine ⟨_, _, _, rfl, hL5014, ?_⟩
                            refine wl_v 20 rfl (v_not rfl) (gy 126 rfl rfl) rfl ?_
                            refine wl_v 21 rfl (v_pick (b := false) rfl rfl) gn rfl ?_
                            refine w_end 22 rfl ?_
                            exact g_go [0, 1] (j6 (!r5010) h) ⟨rfl, rfl, rfl, rfl, trivial⟩ (.cons _ (.cons _ (.cons _ (.cons _ (.cons _ (.cons _ (.cons _ (.cons _ (.slnil))))))))) rfl
                          · have h := if_neg' hp5006 h
                            refine w_bool 126 rfl ((nt (bf hp5006))) ?_
                            refine wl_pass 17 rfl (ps 126 rfl rfl rfl) ?_
                            refine wl_pass 18 rfl (ps 126 rfl rfl rfl) ?_
                            refine wl_pass 19 rfl (ps 126 rfl rfl rfl) ?_
                            refine wl_pass 20 rfl (ps 126 rfl rfl rfl) ?_
                            refine wl_v 21 rfl (v_pick (b := true) rfl rfl) gn rfl ?_
                            refine w_end 22 rfl ?_
                            exact g_go [0, 1] (j6 true h) ⟨rfl, rfl, rfl, rfl, trivial⟩ (.cons _ (.cons _ (.cons _ (.cons _ (.cons _ (.cons _ (.cons _ (.cons _ (.slnil))))))))) rfl
                        · have h := if_neg' hp4997 h
                          refine w_bool 120 rfl ((nt (bf hp4997))) ?_
                          refine wl_pass 11 rfl (ps 120 rfl rfl rfl) ?_
                          refine wl_pass 12 rfl (ps 120 rfl rfl rfl) ?_
                          refine wl_pass 13 rfl (ps 120 rfl rfl rfl) ?_
                          refine wl_pass 14 rfl (ps 120 rfl rfl rfl) ?_
                          refine wl_v 15 rfl (v_pick (b := true) rfl rfl) gn rfl ?_
                          refine wl_v 16 rfl (v_move rfl) gn rfl ?_
                          refine wl_pass 17 rfl (ps 126 rfl rfl rfl) ?_
                          refine wl_pass 18 rfl (ps 126 rfl rfl rfl) ?_
                          refine wl_pass 19 rfl (ps 126 rfl rfl rfl) ?_
                          refine wl_pass 20 rfl (ps 126 rfl rfl rfl) ?_
                          refine wl_v 21 rfl (v_pick (b := true) rfl rfl) gn rfl ?_
                          refine w_end 22 rfl ?_
                          exact g_go [0, 1] (j6 true h) ⟨rfl, rfl, rfl, rfl, trivial⟩ (.cons _ (.cons _ (.cons _ (.cons _ (.cons _ (.cons _ (.cons _ (.cons _ (.slnil))))))))) rfl
                      · have h := if_neg' hp4988 h
                        refine w_bool 114 rfl ((nt (bf hp4988))) ?_
                        refine wl_pass 5 rfl (ps 114 rfl rfl rfl) ?_
                        refine wl_pass 6 rfl (ps 114 rfl rfl rfl) ?_
                        refine wl_pass 7 rfl (ps 114 rfl rfl rfl) ?_
                        refine wl_pass 8 rfl (ps 114 rfl rfl rfl) ?_
                        refine wl_v 9 rfl (v_pick (b := true) rfl rfl) gn rfl ?_
                        refine wl_v 10 rfl (v_move rfl) gn rfl ?_
                        refine wl_pass 11 rfl (ps 120 rfl rfl rfl) ?_
                        refine wl_pass 12 rfl (ps 120 rfl rfl rfl) ?_
                        refine wl_pass 13 rfl (ps 120 rfl rfl rfl) ?_
                        refine wl_pass 14 rfl (ps 120 rfl rfl rfl) ?_
                        refine wl_v 15 rfl (v_pick (b := true) rfl rfl) gn rfl ?_
                        refine wl_v 16 rfl (v_move rfl) gn rfl ?_
                        refine wl_pass 17 rfl (ps 126 rfl rfl rfl) ?_
                        refine wl_pass 18 rfl (ps 126 rfl rfl rfl) ?_
                        refine wl_pass 19 rfl (ps 126 rfl rfl rfl) ?_
                        refine wl_pass 20 rfl (ps 126 rfl rfl rfl) ?_
                        refine wl_v 21 rfl (v_pick (b := true) rfl rfl) gn rfl ?_
                        refine w_end 22 rfl ?_
                        exact g_go [0, 1] (j6 true h) ⟨rfl, rfl, rfl, rfl, trivial⟩ (.cons _ (.cons _ (.cons _ (.cons _ (.cons _ (.cons _ (.cons _ (.cons _ (.slnil))))))))) rfl
                  refine g_region (c := trellislaw15_finds_c76) rfl rfl ?_
                  refine wl_v 0 rfl (v_move rfl) gn rfl ?_
                  refine wl_v 1 rfl (v_move rfl) gn rfl ?_
                  obtain ⟨r5018, hv5019, h⟩ := h
                  refine wl_s 2 rfl (s_call [.slice A73 n74 c75, .slice A20 n21 c22] rfl Try.func40 rfl rfl rfl fun w5015 hL5016 => ?_) gn
                  have hp5017 : List.Perm ([.deep .nilIface bs4529 p4530, .deep .nilIface bs4538 p4539, .own (.slice A86 n87 c88) 3 1 n87 (r84.flatMap (eI .i64)), .own (.slice A73 n74 c75) 3 1 n74 (r71.flatMap (eI .i64)), .own (.slice A4533 n4534 c4535) 3 1 n4534 (x4532.flatMap (eI .i64)), .own (.slice A4524 n4525 c4526) 3 1 n4525 (x4523.flatMap (eI .i64)), .own (.slice A33 n34 c35) 3 1 n34 (r31.flatMap (eI .i64)), .own (.slice A20 n21 c22) 3 1 n21 (r18.flatMap (eI .i64))] : List Ent) (([] : List Ent) ++ ([.deep .nilIface bs4529 p4530, .deep .nilIface bs4538 p4539, .own (.slice A86 n87 c88) 3 1 n87 (r84.flatMap (eI .i64)), .own (.slice A73 n74 c75) 3 1 n74 (r71.flatMap (eI .i64)), .own (.slice A4533 n4534 c4535) 3 1 n4534 (x4532.flatMap (eI .i64)), .own (.slice A4524 n4525 c4526) 3 1 n4525 (x4523.flatMap (eI .i64)), .own (.slice A33 n34 c35) 3 1 n34 (r31.flatMap (eI .i64)), .own (.slice A20 n21 c22) 3 1 n21 (r18.flatMap (eI .i64))] : List Ent)) := perm_of_idx [] [0, 1, 2, 3, 4, 5, 6, 7] rfl rfl (by kernel_rfl)
                  refine Calls.mono (trellislaw15_sameInts_calls w5015 (Fl ([] : List Snap)) r71 r18 A73 n74 c75 A20 n21 c22 (hL5016.argO (dk := (kInt .i64)) hp5017 [] rfl 3 rfl rfl (Ow.weak hL69.env.size h76) (me 0 rfl) (Cells.flat _)) (hL5016.argO (dk := (kInt .i64)) hp5017 [] rfl 7 rfl rfl (Ow.weak hL16.env.size h23) (me 0 rfl) (Cells.flat _)) (hL5016.hFl (Sl := ([] : List Snap)) hp5017 (sels [] rfl)) (hL5016.into hp5017 (Fl ([] : List Snap))) r5018 hv5019) ?_
                  rintro _ w5020 ⟨rfl, hM5021⟩
                  have hL5022 := hL5016.call hp5017 hM5021
                  refine ⟨_, _, _, rfl, hL5022, ?_⟩
                  refine wl_v 3 rfl (v_not rfl) gn rfl ?_
                  refine wl_v 4 rfl (v_move rfl) gn rfl ?_
                  by_cases hp5023 : r5018 = true
                  · have h := if_pos' hp5023 h
                    refine w_bool 98 rfl ((nf hp5023)) ?_
                    refine wl_v 5 rfl (v_move rfl) (gy 98 rfl rfl) rfl ?_
                    refine wl_v 6 rfl (v_move rfl) (gy 98 rfl rfl) rfl ?_
                    obtain ⟨r5027, hv5028, h⟩ := h
                    refine wl_s 7 rfl (s_call [.slice A86 n87 c88, .slice A33 n34 c35] rfl Try.func40 rfl rfl rfl fun w5024 hL5025 => ?_) (gy 98 rfl rfl)
                    have hp5026 : List.Perm ([.deep .nilIface bs4529 p4530, .deep .nilIface bs4538 p4539, .own (.slice A86 n87 c88) 3 1 n87 (r84.flatMap (eI .i64)), .own (.slice A73 n74 c75) 3 1 n74 (r71.flatMap (eI .i64)), .own (.slice A4533 n4534 c4535) 3 1 n4534 (x4532.flatMap (eI .i64)), .own (.slice A4524 n4525 c4526) 3 1 n4525 (x4523.flatMap (eI .i64)), .own (.slice A33 n34 c35) 3 1 n34 (r31.flatMap (eI .i64)), .own (.slice A20 n21 c22) 3 1 n21 (r18.flatMap (eI .i64))] : List Ent) (([] : List Ent) ++ ([.deep .nilIface bs4529 p4530, .deep .nilIface bs4538 p4539, .own (.slice A86 n87 c88) 3 1 n87 (r84.flatMap (eI .i64)), .own (.slice A73 n74 c75) 3 1 n74 (r71.flatMap (eI .i64)), .own (.slice A4533 n4534 c4535) 3 1 n4534 (x4532.flatMap (eI .i64)), .own (.slice A4524 n4525 c4526) 3 1 n4525 (x4523.flatMap (eI .i64)), .own (.slice A33 n34 c35) 3 1 n34 (r31.flatMap (eI .i64)), .own (.slice A20 n21 c22) 3 1 n21 (r18.flatMap (eI .i64))] : List Ent)) := perm_of_idx [] [0, 1, 2, 3, 4, 5, 6, 7] rfl rfl (by kernel_rfl)
                    refine Calls.mono (trellislaw15_sameInts_calls w5024 (Fl ([] : List Snap)) r84 r31 A86 n87 c88 A33 n34 c35 (hL5025.argO (dk := (kInt .i64)) hp5026 [] rfl 2 rfl rfl (Ow.weak hL82.env.size h89) (me 0 rfl) (Cells.flat _)) (hL5025.argO (dk := (kInt .i64)) hp5026 [] rfl 6 rfl rfl (Ow.weak hL29.env.size h36) (me 0 rfl) (Cells.flat _)) (hL5025.hFl (Sl := ([] : List Snap)) hp5026 (sels [] rfl)) (hL5025.into hp5026 (Fl ([] : List Snap))) r5027 hv5028) ?_
                    rintro _ w5029 ⟨rfl, hM5030⟩
                    have hL5031 := hL5025.call hp5026 hM5030
                    refine ⟨_, _, _, rfl, hL5031, ?_⟩
                    refine wl_v 8 rfl (v_not rfl) (gy 98 rfl rfl) rfl ?_
                    refine wl_v 9 rfl (v_pick (b := false) rfl rfl) gn rfl ?_
                    refine w_end 10 rfl ?_
                    exact g_go [0, 1] (j5 (!r5027) h h4528 bs4529 p4530 hE4531 h4537 bs4538 p4539 hE4540) ⟨rfl, rfl, rfl, rfl, rfl, rfl, rfl, rfl, rfl, rfl, trivial⟩ (.cons_cons _ (.cons_cons _ (.cons _ (.cons _ (.cons_cons _ (.cons_cons _ (.cons_cons _ (.cons_cons _ (.slnil))))))))) rfl
                  · have h := if_neg' hp5023 h
                    refine w_bool 98 rfl ((nt (bf hp5023))) ?_
                    refine wl_pass 5 rfl (ps 98 rfl rfl rfl) ?_
                    refine wl_pass 6 rfl (ps 98 rfl rfl rfl) ?_
                    refine wl_pass 7 rfl (ps 98 rfl rfl rfl) ?_
                    refine wl_pass 8 rfl (ps 98 rfl rfl rfl) ?_
                    refine wl_v 9 rfl (v_pick (b := true) rfl rfl) gn rfl ?_
                    refine w_end 10 rfl ?_
                    exact g_go [0, 1] (j5 true h h4528 bs4529 p4530 hE4531 h4537 bs4538 p4539 hE4540) ⟨rfl, rfl, rfl, rfl, rfl, rfl, rfl, rfl, rfl, rfl, trivial⟩ (.cons_cons _ (.cons_cons _ (.cons _ (.cons _ (.cons_cons _ (.cons_cons _ (.cons_cons _ (.cons_cons _ (.slnil))))))))) rfl
              refine g_deep0 ?_
              refine g_deep0 ?_
              refine g_front 7 rfl ?_
              refine g_front 7 rfl ?_
              refine g_front 7 rfl ?_
              refine g_front 7 rfl ?_
              refine g_front 7 rfl ?_
              refine g_front 7 rfl ?_
              refine g_front 6 rfl ?_
              refine g_front 7 rfl ?_
              exact g_go [0, 1] (key4 _ h A46 n47 c48 h1766 (Ow.any h1766) [] (fun _ => True) Eld.self A59 n60 c61 h3948 (Ow.any h3948) [] (fun _ => True) Eld.self) ⟨rfl, rfl, rfl, rfl, rfl, rfl, rfl, rfl, rfl, rfl, rfl, rfl, trivial⟩ (.cons_cons _ (.cons_cons _ (.cons_cons _ (.cons_cons _ (.cons_cons _ (.cons_cons _ (.cons_cons _ (.cons_cons _ (.slnil))))))))) rfl
          exact g_go [0, 1] (key3 _ h (Ow.weak hL55.env.size h62)) ⟨rfl, rfl, rfl, rfl, rfl, rfl, rfl, rfl, rfl, rfl, trivial⟩ (.cons_cons _ (.cons_cons _ (.cons_cons _ (.cons_cons _ (.cons_cons _ (.cons_cons _ (.slnil))))))) rfl
      exact g_go [0, 1] (key2 _ h (Ow.weak hL42.env.size h49)) ⟨rfl, rfl, rfl, rfl, rfl, rfl, rfl, rfl, rfl, rfl, trivial⟩ (.cons_cons _ (.cons_cons _ (.cons_cons _ (.cons_cons _ (.cons_cons _ (.cons_cons _ (.slnil))))))) rfl
  refine g_region (c := trellislaw15_finds_c17) rfl rfl ?_
  refine wl_v 0 rfl (v_move rfl) gn rfl ?_
  refine wl_v 1 rfl (v_move rfl) gn rfl ?_
  obtain ⟨r5035, hv5036, h⟩ := h
  refine wl_s 2 rfl (s_call [.slice A46 n47 c48, .slice A20 n21 c22] rfl Try.func40 rfl rfl rfl fun w5032 hL5033 => ?_) gn
  have hp5034 : List.Perm ([.own (.slice A86 n87 c88) 3 1 n87 (r84.flatMap (eI .i64)), .own (.slice A73 n74 c75) 3 1 n74 (r71.flatMap (eI .i64)), .own (.slice A59 n60 c61) 3 1 n60 (r57.flatMap (eI .i64)), .own (.slice A46 n47 c48) 3 1 n47 (r44.flatMap (eI .i64)), .own (.slice A33 n34 c35) 3 1 n34 (r31.flatMap (eI .i64)), .own (.slice A20 n21 c22) 3 1 n21 (r18.flatMap (eI .i64))] : List Ent) (([] : List Ent) ++ ([.own (.slice A86 n87 c88) 3 1 n87 (r84.flatMap (eI .i64)), .own (.slice A73 n74 c75) 3 1 n74 (r71.flatMap (eI .i64)), .own (.slice A59 n60 c61) 3 1 n60 (r57.flatMap (eI .i64)), .own (.slice A46 n47 c48) 3 1 n47 (r44.flatMap (eI .i64)), .own (.slice A33 n34 c35) 3 1 n34 (r31.flatMap (eI .i64)), .own (.slice A20 n21 c22) 3 1 n21 (r18.flatMap (eI .i64))] : List Ent)) := perm_of_idx [] [0, 1, 2, 3, 4, 5] rfl rfl (by kernel_rfl)
  refine Calls.mono (trellislaw15_sameInts_calls w5032 (Fl ([] : List Snap)) r44 r18 A46 n47 c48 A20 n21 c22 (hL5033.argO (dk := (kInt .i64)) hp5034 [] rfl 3 rfl rfl (Ow.weak hL42.env.size h49) (me 0 rfl) (Cells.flat _)) (hL5033.argO (dk := (kInt .i64)) hp5034 [] rfl 5 rfl rfl (Ow.weak hL16.env.size h23) (me 0 rfl) (Cells.flat _)) (hL5033.hFl (Sl := ([] : List Snap)) hp5034 (sels [] rfl)) (hL5033.into hp5034 (Fl ([] : List Snap))) r5035 hv5036) ?_
  rintro _ w5037 ⟨rfl, hM5038⟩
  have hL5039 := hL5033.call hp5034 hM5038
  refine ⟨_, _, _, rfl, hL5039, ?_⟩
  refine wl_v 3 rfl (v_not rfl) gn rfl ?_
  refine wl_v 4 rfl (v_move rfl) gn rfl ?_
  by_cases hp5040 : r5035 = true
  · have h := if_pos' hp5040 h
    refine w_bool 46 rfl ((nf hp5040)) ?_
    refine wl_v 5 rfl (v_move rfl) (gy 46 rfl rfl) rfl ?_
    refine wl_v 6 rfl (v_move rfl) (gy 46 rfl rfl) rfl ?_
    obtain ⟨r5044, hv5045, h⟩ := h
    refine wl_s 7 rfl (s_call [.slice A59 n60 c61, .slice A33 n34 c35] rfl Try.func40 rfl rfl rfl fun w5041 hL5042 => ?_) (gy 46 rfl rfl)
    have hp5043 : List.Perm ([.own (.slice A86 n87 c88) 3 1 n87 (r84.flatMap (eI .i64)), .own (.slice A73 n74 c75) 3 1 n74 (r71.flatMap (eI .i64)), .own (.slice A59 n60 c61) 3 1 n60 (r57.flatMap (eI .i64)), .own (.slice A46 n47 c48) 3 1 n47 (r44.flatMap (eI .i64)), .own (.slice A33 n34 c35) 3 1 n34 (r31.flatMap (eI .i64)), .own (.slice A20 n21 c22) 3 1 n21 (r18.flatMap (eI .i64))] : List Ent) (([] : List Ent) ++ ([.own (.slice A86 n87 c88) 3 1 n87 (r84.flatMap (eI .i64)), .own (.slice A73 n74 c75) 3 1 n74 (r71.flatMap (eI .i64)), .own (.slice A59 n60 c61) 3 1 n60 (r57.flatMap (eI .i64)), .own (.slice A46 n47 c48) 3 1 n47 (r44.flatMap (eI .i64)), .own (.slice A33 n34 c35) 3 1 n34 (r31.flatMap (eI .i64)), .own (.slice A20 n21 c22) 3 1 n21 (r18.flatMap (eI .i64))] : List Ent)) := perm_of_idx [] [0, 1, 2, 3, 4, 5] rfl rfl (by kernel_rfl)
    refine Calls.mono (trellislaw15_sameInts_calls w5041 (Fl ([] : List Snap)) r57 r31 A59 n60 c61 A33 n34 c35 (hL5042.argO (dk := (kInt .i64)) hp5043 [] rfl 2 rfl rfl (Ow.weak hL55.env.size h62) (me 0 rfl) (Cells.flat _)) (hL5042.argO (dk := (kInt .i64)) hp5043 [] rfl 4 rfl rfl (Ow.weak hL29.env.size h36) (me 0 rfl) (Cells.flat _)) (hL5042.hFl (Sl := ([] : List Snap)) hp5043 (sels [] rfl)) (hL5042.into hp5043 (Fl ([] : List Snap))) r5044 hv5045) ?_
    rintro _ w5046 ⟨rfl, hM5047⟩
    have hL5048 := hL5042.call hp5043 hM5047
    refine ⟨_, _, _, rfl, hL5048, ?_⟩
    refine wl_v 8 rfl (v_not rfl) (gy 46 rfl rfl) rfl ?_
    refine wl_v 9 rfl (v_pick (b := false) rfl rfl) gn rfl ?_
    refine wl_v 10 rfl (v_move rfl) gn rfl ?_
    by_cases hp5049 : r5044 = true
    · have h := if_pos' hp5049 h
      refine w_bool 52 rfl ((nf hp5049)) ?_
      refine wl_v 11 rfl (v_move rfl) (gy 52 rfl rfl) rfl ?_
      refine wl_v 12 rfl (v_move rfl) (gy 52 rfl rfl) rfl ?_
      obtain ⟨r5053, hv5054, h⟩ := h
      refine wl_s 13 rfl (s_call [.slice A73 n74 c75, .slice A20 n21 c22] rfl Try.func40 rfl rfl rfl fun w5050 hL5051 => ?_) (gy 52 rfl rfl)
      have hp5052 : List.Perm ([.own (.slice A86 n87 c88) 3 1 n87 (r84.flatMap (eI .i64)), .own (.slice A73 n74 c75) 3 1 n74 (r71.flatMap (eI .i64)), .own (.slice A59 n60 c61) 3 1 n60 (r57.flatMap (eI .i64)), .own (.slice A46 n47 c48) 3 1 n47 (r44.flatMap (eI .i64)), .own (.slice A33 n34 c35) 3 1 n34 (r31.flatMap (eI .i64)), .own (.slice A20 n21 c22) 3 1 n21 (r18.flatMap (eI .i64))] : List Ent) (([] : List Ent) ++ ([.own (.slice A86 n87 c88) 3 1 n87 (r84.flatMap (eI .i64)), .own (.slice A73 n74 c75) 3 1 n74 (r71.flatMap (eI .i64)), .own (.slice A59 n60 c61) 3 1 n60 (r57.flatMap (eI .i64)), .own (.slice A46 n47 c48) 3 1 n47 (r44.flatMap (eI .i64)), .own (.slice A33 n34 c35) 3 1 n34 (r31.flatMap (eI .i64)), .own (.slice A20 n21 c22) 3 1 n21 (r18.flatMap (eI .i64))] : List Ent)) := perm_of_idx [] [0, 1, 2, 3, 4, 5] rfl rfl (by kernel_rfl)
      refine Calls.mono (trellislaw15_sameInts_calls w5050 (Fl ([] : List Snap)) r71 r18 A73 n74 c75 A20 n21 c22 (hL5051.argO (dk := (kInt .i64)) hp5052 [] rfl 1 rfl rfl (Ow.weak hL69.env.size h76) (me 0 rfl) (Cells.flat _)) (hL5051.argO (dk := (kInt .i64)) hp5052 [] rfl 5 rfl rfl (Ow.weak hL16.env.size h23) (me 0 rfl) (Cells.flat _)) (hL5051.hFl (Sl := ([] : List Snap)) hp5052 (sels [] rfl)) (hL5051.into hp5052 (Fl ([] : List Snap))) r5053 hv5054) ?_
      rintro _ w5055 ⟨rfl, hM5056⟩
      have hL5057 := hL5051.call hp5052 hM5056
      refine ⟨_, _, _, rfl, hL5057, ?_⟩
      refine wl_v 14 rfl (v_not rfl) (gy 52 rfl rfl) rfl ?_
      refine wl_v 15 rfl (v_pick (b := false) rfl rfl) gn rfl ?_
      refine wl_v 16 rfl (v_move rfl) gn rfl ?_
      by_cases hp5058 : r5053 = true
      · have h := if_pos' hp5058 h
        refine w_bool 58 rfl ((nf hp5058)) ?_
        refine wl_v 17 rfl (v_move rfl) (gy 58 rfl rfl) rfl ?_
        refine wl_v 18 rfl (v_move rfl) (gy 58 rfl rfl) rfl ?_
        obtain ⟨r5062, hv5063, h⟩ := h
        refine wl_s 19 rfl (s_call [.slice A86 n87 c88, .slice A33 n34 c35] rfl Try.func40 rfl rfl rfl fun w5059 hL5060 => ?_) (gy 58 rfl rfl)
        have hp5061 : List.Perm ([.own (.slice A86 n87 c88) 3 1 n87 (r84.flatMap (eI .i64)), .own (.slice A73 n74 c75) 3 1 n74 (r71.flatMap (eI .i64)), .own (.slice A59 n60 c61) 3 1 n60 (r57.flatMap (eI .i64)), .own (.slice A46 n47 c48) 3 1 n47 (r44.flatMap (eI .i64)), .own (.slice A33 n34 c35) 3 1 n34 (r31.flatMap (eI .i64)), .own (.slice A20 n21 c22) 3 1 n21 (r18.flatMap (eI .i64))] : List Ent) (([] : List Ent) ++ ([.own (.slice A86 n87 c88) 3 1 n87 (r84.flatMap (eI .i64)), .own (.slice A73 n74 c75) 3 1 n74 (r71.flatMap (eI .i64)), .own (.slice A59 n60 c61) 3 1 n60 (r57.flatMap (eI .i64)), .own (.slice A46 n47 c48) 3 1 n47 (r44.flatMap (eI .i64)), .own (.slice A33 n34 c35) 3 1 n34 (r31.flatMap (eI .i64)), .own (.slice A20 n21 c22) 3 1 n21 (r18.flatMap (eI .i64))] : List Ent)) := perm_of_idx [] [0, 1, 2, 3, 4, 5] rfl rfl (by kernel_rfl)
        refine Calls.mono (trellislaw15_sameInts_calls w5059 (Fl ([] : List Snap)) r84 r31 A86 n87 c88 A33 n34 c35 (hL5060.argO (dk := (kInt .i64)) hp5061 [] rfl 0 rfl rfl (Ow.weak hL82.env.size h89) (me 0 rfl) (Cells.flat _)) (hL5060.argO (dk := (kInt .i64)) hp5061 [] rfl 4 rfl rfl (Ow.weak hL29.env.size h36) (me 0 rfl) (Cells.flat _)) (hL5060.hFl (Sl := ([] : List Snap)) hp5061 (sels [] rfl)) (hL5060.into hp5061 (Fl ([] : List Snap))) r5062 hv5063) ?_
        rintro _ w5064 ⟨rfl, hM5065⟩
        have hL5066 := hL5060.call hp5061 hM5065
        refine ⟨_, _, _, rfl, hL5066, ?_⟩
        refine wl_v 20 rfl (v_not rfl) (gy 58 rfl rfl) rfl ?_
        refine wl_v 21 rfl (v_pick (b := false) rfl rfl) gn rfl ?_
        refine w_end 22 rfl ?_
        exact g_go [0, 1] (j1 (!r5062) h) ⟨rfl, rfl, rfl, rfl, rfl, rfl, rfl, rfl, rfl, rfl, trivial⟩ (.cons_cons _ (.cons_cons _ (.cons_cons _ (.cons_cons _ (.cons_cons _ (.cons_cons _ (.slnil))))))) rfl
      · have h := if_neg' hp5058 h
        refine w_bool 58 rfl ((nt (bf hp5058))) ?_
        refine wl_pass 17 rfl (ps 58 rfl rfl rfl) ?_
        refine wl_pass 18 rfl (ps 58 rfl rfl rfl) ?_
        refine wl_pass 19 rfl (ps 58 rfl rfl rfl) ?_
        refine wl_pass 20 rfl (ps 58 rfl rfl rfl) ?_
        refine wl_v 21 rfl (v_pick (b := true) rfl rfl) gn rfl ?_
        refine w_end 22 rfl ?_
        exact g_go [0, 1] (j1 true h) ⟨rfl, rfl, rfl, rfl, rfl, rfl, rfl, rfl, rfl, rfl, trivial⟩ (.cons_cons _ (.cons_cons _ (.cons_cons _ (.cons_cons _ (.cons_cons _ (.cons_cons _ (.slnil))))))) rfl
    · have h := if_neg' hp5049 h
      refine w_bool 52 rfl ((nt (bf hp5049))) ?_
      refine wl_pass 11 rfl (ps 52 rfl rfl rfl) ?_
      refine wl_pass 12 rfl (ps 52 rfl rfl rfl) ?_
      refine wl_pass 13 rfl (ps 52 rfl rfl rfl) ?_
      refine wl_pass 14 rfl (ps 52 rfl rfl rfl) ?_
      refine wl_v 15 rfl (v_pick (b := true) rfl rfl) gn rfl ?_
      refine wl_v 16 rfl (v_move rfl) gn rfl ?_
      refine wl_pass 17 rfl (ps 58 rfl rfl rfl) ?_
      refine wl_pass 18 rfl (ps 58 rfl rfl rfl) ?_
      refine wl_pass 19 rfl (ps 58 rfl rfl rfl) ?_
      refine wl_pass 20 rfl (ps 58 rfl rfl rfl) ?_
      refine wl_v 21 rfl (v_pick (b := true) rfl rfl) gn rfl ?_
      refine w_end 22 rfl ?_
      exact g_go [0, 1] (j1 true h) ⟨rfl, rfl, rfl, rfl, rfl, rfl, rfl, rfl, rfl, rfl, trivial⟩ (.cons_cons _ (.cons_cons _ (.cons_cons _ (.cons_cons _ (.cons_cons _ (.cons_cons _ (.slnil))))))) rfl
  · have h := if_neg' hp5040 h
    refine w_bool 46 rfl ((nt (bf hp5040))) ?_
    refine wl_pass 5 rfl (ps 46 rfl rfl rfl) ?_
    refine wl_pass 6 rfl (ps 46 rfl rfl rfl) ?_
    refine wl_pass 7 rfl (ps 46 rfl rfl rfl) ?_
    refine wl_pass 8 rfl (ps 46 rfl rfl rfl) ?_
    refine wl_v 9 rfl (v_pick (b := true) rfl rfl) gn rfl ?_
    refine wl_v 10 rfl (v_move rfl) gn rfl ?_
    refine wl_pass 11 rfl (ps 52 rfl rfl rfl) ?_
    refine wl_pass 12 rfl (ps 52 rfl rfl rfl) ?_
    refine wl_pass 13 rfl (ps 52 rfl rfl rfl) ?_
    refine wl_pass 14 rfl (ps 52 rfl rfl rfl) ?_
    refine wl_v 15 rfl (v_pick (b := true) rfl rfl) gn rfl ?_
    refine wl_v 16 rfl (v_move rfl) gn rfl ?_
    refine wl_pass 17 rfl (ps 58 rfl rfl rfl) ?_
    refine wl_pass 18 rfl (ps 58 rfl rfl rfl) ?_
    refine wl_pass 19 rfl (ps 58 rfl rfl rfl) ?_
    refine wl_pass 20 rfl (ps 58 rfl rfl rfl) ?_
    refine wl_v 21 rfl (v_pick (b := true) rfl rfl) gn rfl ?_
    refine w_end 22 rfl ?_
    exact g_go [0, 1] (j1 true h) ⟨rfl, rfl, rfl, rfl, rfl, rfl, rfl, rfl, rfl, rfl, trivial⟩ (.cons_cons _ (.cons_cons _ (.cons_cons _ (.cons_cons _ (.cons_cons _ (.cons_cons _ (.slnil))))))) rfl
noncomputable abbrev trellislaw15_TreeFinds_c0 : Code := bodyOf Try.f5
noncomputable abbrev trellislaw15_TreeFinds_c1 : Code := Code.fst trellislaw15_TreeFinds_c0
noncomputable abbrev trellislaw15_TreeFinds_c2 : Code := Code.snd trellislaw15_TreeFinds_c0
noncomputable abbrev trellislaw15_TreeFinds_c3 : Code := Code.fst trellislaw15_TreeFinds_c2
noncomputable abbrev trellislaw15_TreeFinds_c4 : Code := Code.snd trellislaw15_TreeFinds_c2
noncomputable abbrev trellislaw15_TreeFinds_c5 : Code := Code.fst trellislaw15_TreeFinds_c3
noncomputable abbrev trellislaw15_TreeFinds_c6 : Code := Code.snd trellislaw15_TreeFinds_c3
noncomputable abbrev trellislaw15_TreeFinds_c7 : Code := Code.fst trellislaw15_TreeFinds_c6
noncomputable abbrev trellislaw15_TreeFinds_c8 : Code := Code.snd trellislaw15_TreeFinds_c6
noncomputable abbrev trellislaw15_TreeFinds_c9 : Code := Code.fst trellislaw15_TreeFinds_c7
noncomputable abbrev trellislaw15_TreeFinds_c10 : Code := Code.snd trellislaw15_TreeFinds_c7
noncomputable abbrev trellislaw15_TreeFinds_c11 : Code := Code.fst trellislaw15_TreeFinds_c4
noncomputable abbrev trellislaw15_TreeFinds_c12 : Code := Code.snd trellislaw15_TreeFinds_c4
noncomputable abbrev trellislaw15_TreeFinds_c13 : Code := Code.fst trellislaw15_TreeFinds_c12
noncomputable abbrev trellislaw15_TreeFinds_c14 : Code := Code.snd trellislaw15_TreeFinds_c12
noncomputable abbrev trellislaw15_TreeFinds_c15 : Code := Code.fst trellislaw15_TreeFinds_c13
noncomputable abbrev trellislaw15_TreeFinds_c16 : Code := Code.snd trellislaw15_TreeFinds_c13
noncomputable abbrev trellislaw15_TreeFinds_c17 : Code := Code.fst trellislaw15_TreeFinds_c16
noncomputable abbrev trellislaw15_TreeFinds_c18 : Code := Code.snd trellislaw15_TreeFinds_c16
noncomputable abbrev trellislaw15_TreeFinds_c19 : Code := Code.fst trellislaw15_TreeFinds_c14
noncomputable abbrev trellislaw15_TreeFinds_c20 : Code := Code.snd trellislaw15_TreeFinds_c14
noncomputable abbrev trellislaw15_TreeFinds_c21 : Code := Code.fst trellislaw15_TreeFinds_c19
noncomputable abbrev trellislaw15_TreeFinds_c22 : Code := Code.snd trellislaw15_TreeFinds_c19
noncomputable abbrev trellislaw15_TreeFinds_c23 : Code := Code.fst trellislaw15_TreeFinds_c22
noncomputable abbrev trellislaw15_TreeFinds_c24 : Code := Code.fst trellislaw15_TreeFinds_c23
noncomputable abbrev trellislaw15_TreeFinds_c25 : Code := Code.fst trellislaw15_TreeFinds_c24
noncomputable abbrev trellislaw15_TreeFinds_c26 : Code := Code.snd trellislaw15_TreeFinds_c24
noncomputable abbrev trellislaw15_TreeFinds_c27 : Code := Code.fst trellislaw15_TreeFinds_c25
noncomputable abbrev trellislaw15_TreeFinds_c28 : Code := Code.snd trellislaw15_TreeFinds_c25
noncomputable abbrev trellislaw15_TreeFinds_c29 : Code := Code.fst trellislaw15_TreeFinds_c28
noncomputable abbrev trellislaw15_TreeFinds_c30 : Code := Code.snd trellislaw15_TreeFinds_c28
noncomputable abbrev trellislaw15_TreeFinds_c31 : Code := Code.fst trellislaw15_TreeFinds_c26
noncomputable abbrev trellislaw15_TreeFinds_c32 : Code := Code.snd trellislaw15_TreeFinds_c26
noncomputable abbrev trellislaw15_TreeFinds_c33 : Code := Code.fst trellislaw15_TreeFinds_c31
noncomputable abbrev trellislaw15_TreeFinds_c34 : Code := Code.fst trellislaw15_TreeFinds_c33
noncomputable abbrev trellislaw15_TreeFinds_c35 : Code := Code.snd trellislaw15_TreeFinds_c33
noncomputable abbrev trellislaw15_TreeFinds_c36 : Code := Code.fst trellislaw15_TreeFinds_c35
noncomputable abbrev trellislaw15_TreeFinds_c37 : Code := Code.snd trellislaw15_TreeFinds_c35
noncomputable abbrev trellislaw15_TreeFinds_c38 : Code := Code.fst trellislaw15_TreeFinds_c20
noncomputable abbrev trellislaw15_TreeFinds_c39 : Code := Code.snd trellislaw15_TreeFinds_c20
noncomputable abbrev trellislaw15_TreeFinds_c40 : Code := Code.fst trellislaw15_TreeFinds_c39
noncomputable abbrev trellislaw15_TreeFinds_c41 : Code := Code.snd trellislaw15_TreeFinds_c39
noncomputable abbrev trellislaw15_TreeFinds_c42 : Code := Code.fst trellislaw15_TreeFinds_c40
noncomputable abbrev trellislaw15_TreeFinds_c43 : Code := Code.snd trellislaw15_TreeFinds_c40
noncomputable abbrev trellislaw15_TreeFinds_c44 : Code := Code.fst trellislaw15_TreeFinds_c43
noncomputable abbrev trellislaw15_TreeFinds_c45 : Code := Code.snd trellislaw15_TreeFinds_c43
noncomputable abbrev trellislaw15_TreeFinds_c46 : Code := Code.fst trellislaw15_TreeFinds_c41
noncomputable abbrev trellislaw15_TreeFinds_c47 : Code := Code.snd trellislaw15_TreeFinds_c41
noncomputable abbrev trellislaw15_TreeFinds_c48 : Code := Code.fst trellislaw15_TreeFinds_c46
noncomputable abbrev trellislaw15_TreeFinds_c49 : Code := Code.snd trellislaw15_TreeFinds_c46
noncomputable abbrev trellislaw15_TreeFinds_c50 : Code := Code.fst trellislaw15_TreeFinds_c49
noncomputable abbrev trellislaw15_TreeFinds_c51 : Code := Code.fst trellislaw15_TreeFinds_c50
noncomputable abbrev trellislaw15_TreeFinds_c52 : Code := Code.fst trellislaw15_TreeFinds_c51
noncomputable abbrev trellislaw15_TreeFinds_c53 : Code := Code.snd trellislaw15_TreeFinds_c51
noncomputable abbrev trellislaw15_TreeFinds_c54 : Code := Code.fst trellislaw15_TreeFinds_c52
noncomputable abbrev trellislaw15_TreeFinds_c55 : Code := Code.snd trellislaw15_TreeFinds_c52
noncomputable abbrev trellislaw15_TreeFinds_c56 : Code := Code.fst trellislaw15_TreeFinds_c55
noncomputable abbrev trellislaw15_TreeFinds_c57 : Code := Code.snd trellislaw15_TreeFinds_c55
noncomputable abbrev trellislaw15_TreeFinds_c58 : Code := Code.fst trellislaw15_TreeFinds_c53
noncomputable abbrev trellislaw15_TreeFinds_c59 : Code := Code.snd trellislaw15_TreeFinds_c53
noncomputable abbrev trellislaw15_TreeFinds_c60 : Code := Code.fst trellislaw15_TreeFinds_c58
noncomputable abbrev trellislaw15_TreeFinds_c61 : Code := Code.fst trellislaw15_TreeFinds_c47
noncomputable abbrev trellislaw15_TreeFinds_c62 : Code := Code.snd trellislaw15_TreeFinds_c47
noncomputable abbrev trellislaw15_TreeFinds_c63 : Code := Code.fst trellislaw15_TreeFinds_c62
noncomputable abbrev trellislaw15_TreeFinds_c64 : Code := Code.snd trellislaw15_TreeFinds_c62
noncomputable abbrev trellislaw15_TreeFinds_c65 : Code := Code.fst trellislaw15_TreeFinds_c64
noncomputable abbrev trellislaw15_TreeFinds_c66 : Code := Code.snd trellislaw15_TreeFinds_c64
noncomputable abbrev trellislaw15_TreeFinds_c67 : Code := Code.fst trellislaw15_TreeFinds_c44
noncomputable abbrev trellislaw15_TreeFinds_c68 : Code := Code.snd trellislaw15_TreeFinds_c44
noncomputable abbrev trellislaw15_TreeFinds_c69 : Code := Code.fst trellislaw15_TreeFinds_c17
noncomputable abbrev trellislaw15_TreeFinds_c70 : Code := Code.snd trellislaw15_TreeFinds_c17
abbrev trellislaw15_TreeFinds_R (w : World) (F : Nat → Prop) (r : Bool) : Ending → World → Prop := fun e w' => e = .returned (.bool r) ∧ B.Loc w w' [] [St w []]
noncomputable abbrev trellislaw15_TreeFinds_C (w : World) (F : Nat → Prop) (r : Bool) : Cx := ⟨Try.prog, 5, Try.f5, 79, trellislaw15_TreeFinds_R w F  r, w⟩
theorem trellislaw15_TreeFinds_calls (w : World) (F : Nat → Prop) (x1 : List api_Node) (x6 : Int) (A2 : Option Addr) (n3 : Nat) (c4 : Nat) (h5 : Rw k_api_Node w (St w []).av A2 n3 c4 x1) (hF : ∀ b, F b → b < w.heap.size ∧ ∀ o ∈ ([] : List (List Nat)), b ∉ o) (hL0 : B.Loc w w [] [Sm w.heap.size F w [], St w []]) (r : Bool) (h : trellislaw15_TreeFinds x1 x6 r) : Calls Try.prog 5 #[.slice A2 n3 c4, .int .i64 x6] w (trellislaw15_TreeFinds_R w F  r) := by
  unfold trellislaw15_TreeFinds at h
  refine calls_of_Loc (vs := [.slice A2 n3 c4, .int .i64 x6]) 79 Try.func5 rfl Try.ntmps5 rfl hL0 ?_
  show G (trellislaw15_TreeFinds_C w F r) _ _ _ _
  refine g_seq (c := trellislaw15_TreeFinds_c0) rfl ?_
  refine g_region (c := trellislaw15_TreeFinds_c1) rfl rfl ?_
  refine wl_v 0 rfl (v_assign rfl) gn rfl ?_
  refine w_end 1 rfl ?_
  refine g_seq (c := trellislaw15_TreeFinds_c2) rfl ?_
  refine g_seq (c := trellislaw15_TreeFinds_c3) rfl ?_
  refine g_region (c := trellislaw15_TreeFinds_c5) rfl rfl ?_
  refine wl_v 0 rfl (v_move rfl) gn rfl ?_
  obtain ⟨r10, hv11, h⟩ := h
  refine wl_s 1 rfl (s_call [.slice A2 n3 c4] rfl Try.func10 rfl rfl rfl fun w7 hL8 => ?_) gn
  have hp9 : List.Perm ([] : List Ent) (([] : List Ent) ++ ([] : List Ent)) := perm_of_idx [] [] rfl rfl (by kernel_rfl)
  refine Calls.mono (trellisref15_Beyond_calls w7 (Fl ([] : List Snap)) x1 A2 n3 c4 (Rw.mono h5 (hL8.toSt hp9 (me 1 rfl))) (hL8.hFl (Sl := ([] : List Snap)) hp9 (sels [] rfl)) (hL8.into hp9 (Fl ([] : List Snap))) r10 hv11) ?_
  rintro _ w12 ⟨rfl, hM13⟩
  have hL14 := hL8.call hp9 hM13
  refine ⟨_, _, _, rfl, hL14, ?_⟩
  refine w_end 2 rfl ?_
  by_cases hp15 : r10 = true
  · have h := if_pos' hp15 h
    refine g_true (c := trellislaw15_TreeFinds_c6) rfl _ rfl (hp15) ?_
    refine g_seq (c := trellislaw15_TreeFinds_c7) rfl ?_
    refine g_region (c := trellislaw15_TreeFinds_c9) rfl rfl ?_
    refine wl_v 0 rfl (v_assign rfl) gn rfl ?_
    refine w_end 1 rfl ?_
    refine g_retR (c := trellislaw15_TreeFinds_c10) [.bool true] rfl Try.func5 rfl (.tmp rfl (.nil)) fun wr hLr => ?_
    have hMr : B.Loc w wr [] [St w []] := hLr.pick (rest := []) (perm_of_idx [] [] rfl rfl (by kernel_rfl)) (sels [1] rfl)
    have hMi : ∀ e ∈ ([] : List Ent), e ∈ ([] : List Ent) := sels [] rfl
    show trellislaw15_TreeFinds_R w F  r (.returned (packV [.bool true])) wr
    rw [h]
    exact ⟨rfl, hMr⟩
  · have h := if_neg' hp15 h
    refine g_false (c := trellislaw15_TreeFinds_c6) rfl _ rfl ((bf hp15)) ?_
    refine g_skip (c := trellislaw15_TreeFinds_c8) rfl ?_
    refine g_seq (c := trellislaw15_TreeFinds_c4) rfl ?_
    refine g_region (c := trellislaw15_TreeFinds_c11) rfl rfl ?_
    refine wl_v 0 rfl (v_move rfl) gn rfl ?_
    obtain ⟨r19, hv20, h⟩ := h
    refine wl_s 1 rfl (s_call [.slice A2 n3 c4] rfl Try.func11 rfl rfl rfl fun w16 hL17 => ?_) gn
    have hp18 : List.Perm ([] : List Ent) (([] : List Ent) ++ ([] : List Ent)) := perm_of_idx [] [] rfl rfl (by kernel_rfl)
    refine Calls.mono (trellislaw15_roomy_calls w16 (Fl ([] : List Snap)) x1 A2 n3 c4 (Rw.mono h5 (hL17.toSt hp18 (me 1 rfl))) (hL17.hFl (Sl := ([] : List Snap)) hp18 (sels [] rfl)) (hL17.into hp18 (Fl ([] : List Snap))) r19 hv20) ?_
    rintro _ w27 ⟨A21, n22, c23, rfl, hM28, h24, hk25⟩
    have hL29 := hL17.call hp18 hM28
    refine ⟨_, _, _, rfl, hL29, ?_⟩
    refine wl_v 2 rfl (v_assign rfl) gn rfl ?_
    refine w_end 3 rfl ?_
    refine g_seq (c := trellislaw15_TreeFinds_c12) rfl ?_
    refine g_seq (c := trellislaw15_TreeFinds_c13) rfl ?_
    refine g_region (c := trellislaw15_TreeFinds_c15) rfl rfl ?_
    refine wl_v 0 rfl (v_move rfl) gn rfl ?_
    refine wl_v 1 rfl (v_move rfl) gn rfl ?_
    refine wl_v 2 rfl (v_move rfl) gn rfl ?_
    obtain ⟨r33, hv34, h⟩ := h
    refine wl_s 3 rfl (s_call [.slice A21 r19.2 c23, .slice A2 n3 c4, .int .i64 x6] rfl Try.func30 rfl rfl rfl fun w30 hL31 => ?_) gn
    have hp32 : List.Perm ([.own (.slice A21 n22 c23) 39 7 n22 (r19.1.flatMap enc_api_Node)] : List Ent) (([] : List Ent) ++ ([.own (.slice A21 n22 c23) 39 7 n22 (r19.1.flatMap enc_api_Node)] : List Ent)) := perm_of_idx [] [0] rfl rfl (by kernel_rfl)
    refine Calls.mono (trellislaw15_finds_calls w30 (Fl ([] : List Snap)) r19.1 r19.2 x1 x6 A21 n22 c23 A2 n3 c4 (hL31.argO (dk := k_api_Node) hp32 [] rfl 0 rfl rfl (Ow.weak hL17.env.size h24) (me 0 rfl) (Cells.flat _)) hk25 (Rw.mono h5 (hL31.toSt hp32 (me 1 rfl))) (hL31.hFl (Sl := ([] : List Snap)) hp32 (sels [] rfl)) (hL31.into hp32 (Fl ([] : List Snap))) r33 hv34) ?_
    rintro _ w35 ⟨rfl, hM36⟩
    have hL37 := hL31.call hp32 hM36
    refine ⟨_, _, _, rfl, hL37, ?_⟩
    refine wl_v 4 rfl (v_not rfl) gn rfl ?_
    refine w_end 5 rfl ?_
    by_cases hp38 : r33 = true
    · have h := if_pos' hp38 h
      refine g_false (c := trellislaw15_TreeFinds_c16) rfl _ rfl ((nf hp38)) ?_
      refine g_skip (c := trellislaw15_TreeFinds_c18) rfl ?_
      refine g_seq (c := trellislaw15_TreeFinds_c14) rfl ?_
      refine g_seq (c := trellislaw15_TreeFinds_c19) rfl ?_
      refine g_region (c := trellislaw15_TreeFinds_c21) rfl rfl ?_
      refine wl_v 0 rfl (v_assign rfl) gn rfl ?_
      refine w_end 1 rfl ?_
      refine g_block (c := trellislaw15_TreeFinds_c22) rfl ?_
      refine g_loop (c := trellislaw15_TreeFinds_c23) rfl ?_
      have key1 : ∀ s, Rounds (fun (s : (List api_Node) × Int) o => trellislaw15_TreeFinds_b1 r19 x6 s.1 s.2 o) s r → (fun (s : (List api_Node) × Int) => ∀ (h196 : Ow w.heap.size A21 n22 c23 s.1) (hl40 : r19.2 ≤ n22), G (trellislaw15_TreeFinds_C w F r) [.code trellislaw15_TreeFinds_c24, .inLoop trellislaw15_TreeFinds_c24, .inBlock 0, .code trellislaw15_TreeFinds_c20] [(1, .int .i64 x6), (5, .slice A21 r19.2 c23), (6, .int .i64 s.2)] [.own (.slice A21 n22 c23) 39 7 n22 (s.1.flatMap enc_api_Node)] [Sm w.heap.size F w [], St w []]) s := by
        intro s hs
        refine Rounds.ind (mot := (fun (s : (List api_Node) × Int) => ∀ (h196 : Ow w.heap.size A21 n22 c23 s.1) (hl40 : r19.2 ≤ n22), G (trellislaw15_TreeFinds_C w F r) [.code trellislaw15_TreeFinds_c24, .inLoop trellislaw15_TreeFinds_c24, .inBlock 0, .code trellislaw15_TreeFinds_c20] [(1, .int .i64 x6), (5, .slice A21 r19.2 c23), (6, .int .i64 s.2)] [.own (.slice A21 n22 c23) 39 7 n22 (s.1.flatMap enc_api_Node)] [Sm w.heap.size F w [], St w []])) ?_ hs
        clear hs s
        intro s o1 h hO1
        obtain ⟨x195, x197⟩ := s
        show ∀ (h196 : Ow w.heap.size A21 n22 c23 x195) (hl40 : r19.2 ≤ n22), G (trellislaw15_TreeFinds_C w F r) [.code trellislaw15_TreeFinds_c24, .inLoop trellislaw15_TreeFinds_c24, .inBlock 0, .code trellislaw15_TreeFinds_c20] [(1, .int .i64 x6), (5, .slice A21 r19.2 c23), (6, .int .i64 x197)] [.own (.slice A21 n22 c23) 39 7 n22 (x195.flatMap enc_api_Node)] [Sm w.heap.size F w [], St w []]
        intro h196 hl40
        have h : trellislaw15_TreeFinds_b1 r19 x6 x195 x197 o1 := h
        unfold trellislaw15_TreeFinds_b1 at h
        refine g_seq (c := trellislaw15_TreeFinds_c24) rfl ?_
        refine g_seq (c := trellislaw15_TreeFinds_c25) rfl ?_
        refine g_region (c := trellislaw15_TreeFinds_c27) rfl rfl ?_
        refine wl_v 0 rfl (v_move rfl) gn rfl ?_
        refine wl_v 1 rfl (v_move rfl) gn rfl ?_
        refine wl_v 2 rfl (v_lenQ un_22 rfl (Ow.cut h196 hl40).hq) gn rfl ?_
        refine wl_v 3 rfl (v_bin rfl rfl rfl) gn rfl ?_
        refine w_end 4 rfl ?_
        by_cases hp352 : x197 < ((x195.take r19.2).length : Int)
        · have h := if_pos' hp352 h
          refine g_true (c := trellislaw15_TreeFinds_c28) rfl _ rfl ((decide_eq_true hp352)) ?_
          refine g_skip (c := trellislaw15_TreeFinds_c29) rfl ?_
          refine g_seq (c := trellislaw15_TreeFinds_c26) rfl ?_
          refine g_block (c := trellislaw15_TreeFinds_c31) rfl ?_
          refine g_seq (c := trellislaw15_TreeFinds_c33) rfl ?_
          refine g_region (c := trellislaw15_TreeFinds_c34) rfl rfl ?_
          refine wl_v 0 rfl (v_move rfl) gn rfl ?_
          refine wl_v 1 rfl (v_move rfl) gn rfl ?_
          obtain ⟨hb353, h⟩ := h
          have hb354 : 0 ≤ x197 ∧ x197 < (x195.length : Int) := by have q := hb353; have q2 := List.length_take_le' r19.2 x195; omega
          refine wl_v 2 rfl (v_idxO slE_22 rfl rfl (Ow.cut h196 hl40) hb353) gn rfl ?_
          refine wl_v 3 rfl (v_fldA fo_39_5 rfl) gn rfl ?_
          obtain ⟨x355, hv356, h⟩ := h
          refine wl_s 4 rfl (s_stF (enc := enc_api_Node) (o := 5) (z := ({ (ix x195 x197) with kids := 0 })) (vs := [.int .i64 0]) (i := x197) 0 hl_api_Node sz_3 rfl rfl rfl rfl rfl h196 hb354 rfl rfl rfl hv356 fun h357 => ?_) gn
          refine w_end 5 rfl ?_
          refine g_seq (c := trellislaw15_TreeFinds_c35) rfl ?_
          refine g_region (c := trellislaw15_TreeFinds_c36) rfl rfl ?_
          refine wl_v 0 rfl (v_move rfl) gn rfl ?_
          refine wl_v 1 rfl (v_move rfl) gn rfl ?_
          refine wl_v 2 rfl (v_move rfl) gn rfl ?_
          refine wl_v 3 rfl (v_move rfl) gn rfl ?_
          obtain ⟨hb358, h⟩ := h
          have hb359 : 0 ≤ x197 ∧ x197 < (x355.length : Int) := by have q := hb358; have q2 := List.length_take_le' r19.2 x355; omega
          refine wl_v 4 rfl (v_idxO slE_22 rfl rfl (Ow.cut h357 hl40) hb358) gn rfl ?_
          refine wl_v 5 rfl (v_fldA fo_39_0 rfl) gn rfl ?_
          refine wl_v 6 rfl (v_ldO1 (.string ((ix x355 x197).name)) 0 ld_9 rfl rfl (fm_get hl_api_Node hb359 rfl)) gn rfl ?_
          obtain ⟨hb360, h⟩ := h
          refine wl_v 7 rfl (v_catS rfl rfl hb360) gn rfl ?_
          have hb361 : 0 ≤ x197 ∧ x197 < (x355.length : Int) := by have q := hb358; have q2 := List.length_take_le' r19.2 x355; omega
          refine wl_v 8 rfl (v_idxO slE_22 rfl rfl (Ow.cut h357 hl40) hb358) gn rfl ?_
          refine wl_v 9 rfl (v_fldA fo_39_0 rfl) gn rfl ?_
          obtain ⟨x362, hv363, h⟩ := h
          refine wl_s 10 rfl (s_stF (enc := enc_api_Node) (o := 0) (z := ({ (ix x355 x197) with name := ((ix x355 x197).name) ++ (⟨#[113]⟩ : ByteArray) })) (vs := [.string (((ix x355 x197).name) ++ (⟨#[113]⟩ : ByteArray))]) (i := x197) 0 hl_api_Node sz_9 rfl rfl rfl rfl rfl h357 hb361 rfl rfl rfl hv363 fun h364 => ?_) gn
          refine w_end 11 rfl ?_
          refine g_region (c := trellislaw15_TreeFinds_c37) rfl rfl ?_
          refine wl_v 0 rfl (v_move rfl) gn rfl ?_
          refine wl_v 1 rfl (v_move rfl) gn rfl ?_
          refine wl_v 2 rfl (v_move rfl) gn rfl ?_
          refine wl_v 3 rfl (v_move rfl) gn rfl ?_
          obtain ⟨hb365, h⟩ := h
          have hb366 : 0 ≤ x197 ∧ x197 < (x362.length : Int) := by have q := hb365; have q2 := List.length_take_le' r19.2 x362; omega
          refine wl_v 4 rfl (v_idxO slE_22 rfl rfl (Ow.cut h364 hl40) hb365) gn rfl ?_
          refine wl_v 5 rfl (v_fldA fo_39_4 rfl) gn rfl ?_
          refine wl_v 6 rfl (v_ldO1 (.int .i64 ((ix x362 x197).to)) 0 ld_3 rfl rfl (fm_get hl_api_Node hb366 rfl)) gn rfl ?_
          refine wl_v 7 rfl (v_bin rfl rfl rfl) gn rfl ?_
          have hb367 : 0 ≤ x197 ∧ x197 < (x362.length : Int) := by have q := hb365; have q2 := List.length_take_le' r19.2 x362; omega
          refine wl_v 8 rfl (v_idxO slE_22 rfl rfl (Ow.cut h364 hl40) hb365) gn rfl ?_
          refine wl_v 9 rfl (v_fldA fo_39_4 rfl) gn rfl ?_
          obtain ⟨x368, hv369, h⟩ := h
          refine wl_s 10 rfl (s_stF (enc := enc_api_Node) (o := 4) (z := ({ (ix x362 x197) with to := w64 (((ix x362 x197).to) + 1) })) (vs := [.int .i64 (w64 (((ix x362 x197).to) + 1))]) (i := x197) 0 hl_api_Node sz_3 rfl rfl rfl rfl rfl h364 hb367 rfl rfl rfl hv369 fun h370 => ?_) gn
          refine w_end 11 rfl ?_
          refine g_inBlock ?_
          refine g_region (c := trellislaw15_TreeFinds_c32) rfl rfl ?_
          refine wl_v 0 rfl (v_move rfl) gn rfl ?_
          refine wl_v 1 rfl (v_bin rfl rfl rfl) gn rfl ?_
          refine wl_v 2 rfl (v_assign rfl) gn rfl ?_
          refine w_end 3 rfl ?_
          refine g_inLoop ?_
          have ih := Out.inl hO1 h
          exact g_go [0, 1] (ih h370 hl40) ⟨rfl, rfl, rfl, trivial⟩ (.cons_cons _ (.slnil)) rfl
        · have h := if_neg' hp352 h
          refine g_false (c := trellislaw15_TreeFinds_c28) rfl _ rfl ((decide_eq_false hp352)) ?_
          refine g_exit (c := trellislaw15_TreeFinds_c30) [.code trellislaw15_TreeFinds_c20] rfl rfl ?_
          refine g_seq (c := trellislaw15_TreeFinds_c20) rfl ?_
          refine g_region (c := trellislaw15_TreeFinds_c38) rfl rfl ?_
          refine wl_v 0 rfl (v_move rfl) gn rfl ?_
          obtain ⟨r374, hv375, h⟩ := h
          refine wl_s 1 rfl (s_call [.slice A21 r19.2 c23] rfl Try.func17 rfl rfl rfl fun w371 hL372 => ?_) gn
          have hp373 : List.Perm ([.own (.slice A21 n22 c23) 39 7 n22 (x195.flatMap enc_api_Node)] : List Ent) (([] : List Ent) ++ ([.own (.slice A21 n22 c23) 39 7 n22 (x195.flatMap enc_api_Node)] : List Ent)) := perm_of_idx [] [0] rfl rfl (by kernel_rfl)
          refine Calls.mono (trellisref15_Twin_calls w371 (Fl ([] : List Snap)) (x195.take r19.2) A21 r19.2 c23 (Rw.w (hL372.argV (dk := k_api_Node) hp373 [] rfl 0 rfl rfl h196 (me 0 rfl) (Cells.flat _) (Vw.prefix hl40) (Nat.le_trans hl40 h196.hn) h196.hm) (by rw [(Eq.refl (x195.take r19.2))]; rfl)) (hL372.hFl (Sl := ([] : List Snap)) hp373 (sels [] rfl)) (hL372.into hp373 (Fl ([] : List Snap))) r374 hv375) ?_
          rintro _ w381 ⟨A376, n377, c378, rfl, hM382, h379⟩
          have hL383 := hL372.call hp373 hM382
          refine ⟨_, _, _, rfl, hL383, ?_⟩
          refine wl_v 2 rfl (v_assign rfl) gn rfl ?_
          refine w_end 3 rfl ?_
          refine g_seq (c := trellislaw15_TreeFinds_c39) rfl ?_
          refine g_seq (c := trellislaw15_TreeFinds_c40) rfl ?_
          refine g_region (c := trellislaw15_TreeFinds_c42) rfl rfl ?_
          refine wl_v 0 rfl (v_move rfl) gn rfl ?_
          refine wl_v 1 rfl (v_move rfl) gn rfl ?_
          refine wl_v 2 rfl (v_move rfl) gn rfl ?_
          obtain ⟨r387, hv388, h⟩ := h
          refine wl_s 3 rfl (s_call [.slice A21 r19.2 c23, .slice A376 n377 c378, .int .i64 x6] rfl Try.func30 rfl rfl rfl fun w384 hL385 => ?_) gn
          have hp386 : List.Perm ([.own (.slice A376 n377 c378) 39 7 n377 (r374.flatMap enc_api_Node), .own (.slice A21 n22 c23) 39 7 n22 (x195.flatMap enc_api_Node)] : List Ent) (([] : List Ent) ++ ([.own (.slice A376 n377 c378) 39 7 n377 (r374.flatMap enc_api_Node), .own (.slice A21 n22 c23) 39 7 n22 (x195.flatMap enc_api_Node)] : List Ent)) := perm_of_idx [] [0, 1] rfl rfl (by kernel_rfl)
          refine Calls.mono (trellislaw15_finds_calls w384 (Fl ([] : List Snap)) x195 r19.2 r374 x6 A21 n22 c23 A376 n377 c378 (hL385.argO (dk := k_api_Node) hp386 [] rfl 1 rfl rfl h196 (me 0 rfl) (Cells.flat _)) hl40 (hL385.argO (dk := k_api_Node) hp386 [] rfl 0 rfl rfl (Ow.weak hL372.env.size h379) (me 0 rfl) (Cells.flat _)) (hL385.hFl (Sl := ([] : List Snap)) hp386 (sels [] rfl)) (hL385.into hp386 (Fl ([] : List Snap))) r387 hv388) ?_
          rintro _ w389 ⟨rfl, hM390⟩
          have hL391 := hL385.call hp386 hM390
          refine ⟨_, _, _, rfl, hL391, ?_⟩
          refine wl_v 4 rfl (v_not rfl) gn rfl ?_
          refine w_end 5 rfl ?_
          by_cases hp392 : r387 = true
          · have h := if_pos' hp392 h
            refine g_false (c := trellislaw15_TreeFinds_c43) rfl _ rfl ((nf hp392)) ?_
            refine g_skip (c := trellislaw15_TreeFinds_c45) rfl ?_
            refine g_seq (c := trellislaw15_TreeFinds_c41) rfl ?_
            refine g_seq (c := trellislaw15_TreeFinds_c46) rfl ?_
            refine g_region (c := trellislaw15_TreeFinds_c48) rfl rfl ?_
            refine wl_v 0 rfl (v_assign rfl) gn rfl ?_
            refine w_end 1 rfl ?_
            refine g_block (c := trellislaw15_TreeFinds_c49) rfl ?_
            refine g_loop (c := trellislaw15_TreeFinds_c50) rfl ?_
            have key2 : ∀ s, Rounds (fun (s : (List api_Node) × Int) o => trellislaw15_TreeFinds_b2 r19 x6 s.1 s.2 o) s o1 → (fun (s : (List api_Node) × Int) => ∀ (h432 : Ow w.heap.size A21 n22 c23 s.1) (hl394 : r19.2 ≤ n22), G (trellislaw15_TreeFinds_C w F r) [.code trellislaw15_TreeFinds_c51, .inLoop trellislaw15_TreeFinds_c51, .inBlock 2, .code trellislaw15_TreeFinds_c47] [(1, .int .i64 x6), (5, .slice A21 r19.2 c23), (8, .int .i64 s.2)] [.own (.slice A21 n22 c23) 39 7 n22 (s.1.flatMap enc_api_Node)] [Sm w.heap.size F w [], St w []]) s := by
              intro s hs
              refine Rounds.ind (mot := (fun (s : (List api_Node) × Int) => ∀ (h432 : Ow w.heap.size A21 n22 c23 s.1) (hl394 : r19.2 ≤ n22), G (trellislaw15_TreeFinds_C w F r) [.code trellislaw15_TreeFinds_c51, .inLoop trellislaw15_TreeFinds_c51, .inBlock 2, .code trellislaw15_TreeFinds_c47] [(1, .int .i64 x6), (5, .slice A21 r19.2 c23), (8, .int .i64 s.2)] [.own (.slice A21 n22 c23) 39 7 n22 (s.1.flatMap enc_api_Node)] [Sm w.heap.size F w [], St w []])) ?_ hs
              clear hs s
              intro s o2 h hO2
              obtain ⟨x431, x433⟩ := s
              show ∀ (h432 : Ow w.heap.size A21 n22 c23 x431) (hl394 : r19.2 ≤ n22), G (trellislaw15_TreeFinds_C w F r) [.code trellislaw15_TreeFinds_c51, .inLoop trellislaw15_TreeFinds_c51, .inBlock 2, .code trellislaw15_TreeFinds_c47] [(1, .int .i64 x6), (5, .slice A21 r19.2 c23), (8, .int .i64 x433)] [.own (.slice A21 n22 c23) 39 7 n22 (x431.flatMap enc_api_Node)] [Sm w.heap.size F w [], St w []]
              intro h432 hl394
              have h : trellislaw15_TreeFinds_b2 r19 x6 x431 x433 o2 := h
              unfold trellislaw15_TreeFinds_b2 at h
              refine g_seq (c := trellislaw15_TreeFinds_c51) rfl ?_
              refine g_seq (c := trellislaw15_TreeFinds_c52) rfl ?_
              refine g_region (c := trellislaw15_TreeFinds_c54) rfl rfl ?_
              refine wl_v 0 rfl (v_move rfl) gn rfl ?_
              refine wl_v 1 rfl (v_bin rfl rfl rfl) gn rfl ?_
              refine wl_v 2 rfl (v_move rfl) gn rfl ?_
              refine wl_v 3 rfl (v_lenQ un_22 rfl (Ow.cut h432 hl394).hq) gn rfl ?_
              refine wl_v 4 rfl (v_bin rfl rfl rfl) gn rfl ?_
              refine w_end 5 rfl ?_
              by_cases hp470 : w64 (x433 + 1) < ((x431.take r19.2).length : Int)
              · have h := if_pos' hp470 h
                refine g_true (c := trellislaw15_TreeFinds_c55) rfl _ rfl ((decide_eq_true hp470)) ?_
                refine g_skip (c := trellislaw15_TreeFinds_c56) rfl ?_
                refine g_seq (c := trellislaw15_TreeFinds_c53) rfl ?_
                refine g_block (c := trellislaw15_TreeFinds_c58) rfl ?_
                refine g_region (c := trellislaw15_TreeFinds_c60) rfl rfl ?_
                refine wl_v 0 rfl (v_move rfl) gn rfl ?_
                refine wl_v 1 rfl (v_move rfl) gn rfl ?_
                obtain ⟨hb471, h⟩ := h
                have hb472 : 0 ≤ x433 ∧ x433 < (x431.length : Int) := by have q := hb471; have q2 := List.length_take_le' r19.2 x431; omega
                refine wl_v 2 rfl (v_idxO slE_22 rfl rfl (Ow.cut h432 hl394) hb471) gn rfl ?_
                refine wl_v 3 rfl (v_fldA fo_39_5 rfl) gn rfl ?_
                obtain ⟨x473, hv474, h⟩ := h
                refine wl_s 4 rfl (s_stF (enc := enc_api_Node) (o := 5) (z := ({ (ix x431 x433) with kids := 1 })) (vs := [.int .i64 1]) (i := x433) 0 hl_api_Node sz_3 rfl rfl rfl rfl rfl h432 hb472 rfl rfl rfl hv474 fun h475 => ?_) gn
                refine w_end 5 rfl ?_
                refine g_inBlock ?_
                refine g_region (c := trellislaw15_TreeFinds_c59) rfl rfl ?_
                refine wl_v 0 rfl (v_move rfl) gn rfl ?_
                refine wl_v 1 rfl (v_bin rfl rfl rfl) gn rfl ?_
                refine wl_v 2 rfl (v_assign rfl) gn rfl ?_
                refine w_end 3 rfl ?_
                refine g_inLoop ?_
                have ih := Out.inl hO2 h
                exact g_go [0, 1] (ih h475 hl394) ⟨rfl, rfl, rfl, trivial⟩ (.cons_cons _ (.slnil)) rfl
              · have h := if_neg' hp470 h
                refine g_false (c := trellislaw15_TreeFinds_c55) rfl _ rfl ((decide_eq_false hp470)) ?_
                refine g_exit (c := trellislaw15_TreeFinds_c57) [.code trellislaw15_TreeFinds_c47] rfl rfl ?_
                refine g_seq (c := trellislaw15_TreeFinds_c47) rfl ?_
                refine g_region (c := trellislaw15_TreeFinds_c61) rfl rfl ?_
                refine wl_v 0 rfl (v_move rfl) gn rfl ?_
                obtain ⟨r479, hv480, h⟩ := h
                refine wl_s 1 rfl (s_call [.slice A21 r19.2 c23] rfl Try.func17 rfl rfl rfl fun w476 hL477 => ?_) gn
                have hp478 : List.Perm ([.own (.slice A21 n22 c23) 39 7 n22 (x431.flatMap enc_api_Node)] : List Ent) (([] : List Ent) ++ ([.own (.slice A21 n22 c23) 39 7 n22 (x431.flatMap enc_api_Node)] : List Ent)) := perm_of_idx [] [0] rfl rfl (by kernel_rfl)
                refine Calls.mono (trellisref15_Twin_calls w476 (Fl ([] : List Snap)) (x431.take r19.2) A21 r19.2 c23 (Rw.w (hL477.argV (dk := k_api_Node) hp478 [] rfl 0 rfl rfl h432 (me 0 rfl) (Cells.flat _) (Vw.prefix hl394) (Nat.le_trans hl394 h432.hn) h432.hm) (by rw [(Eq.refl (x431.take r19.2))]; rfl)) (hL477.hFl (Sl := ([] : List Snap)) hp478 (sels [] rfl)) (hL477.into hp478 (Fl ([] : List Snap))) r479 hv480) ?_
                rintro _ w486 ⟨A481, n482, c483, rfl, hM487, h484⟩
                have hL488 := hL477.call hp478 hM487
                refine ⟨_, _, _, rfl, hL488, ?_⟩
                refine wl_v 2 rfl (v_assign rfl) gn rfl ?_
                refine w_end 3 rfl ?_
                refine g_seq (c := trellislaw15_TreeFinds_c62) rfl ?_
                refine g_region (c := trellislaw15_TreeFinds_c63) rfl rfl ?_
                refine wl_v 0 rfl (v_move rfl) gn rfl ?_
                obtain ⟨r492, hv493, h⟩ := h
                refine wl_s 1 rfl (s_call [.slice A481 n482 c483] rfl Try.func10 rfl rfl rfl fun w489 hL490 => ?_) gn
                have hp491 : List.Perm ([.own (.slice A481 n482 c483) 39 7 n482 (r479.flatMap enc_api_Node), .own (.slice A21 n22 c23) 39 7 n22 (x431.flatMap enc_api_Node)] : List Ent) (([] : List Ent) ++ ([.own (.slice A481 n482 c483) 39 7 n482 (r479.flatMap enc_api_Node), .own (.slice A21 n22 c23) 39 7 n22 (x431.flatMap enc_api_Node)] : List Ent)) := perm_of_idx [] [0, 1] rfl rfl (by kernel_rfl)
                refine Calls.mono (trellisref15_Beyond_calls w489 (Fl ([] : List Snap)) r479 A481 n482 c483 (hL490.argO (dk := k_api_Node) hp491 [] rfl 0 rfl rfl (Ow.weak hL477.env.size h484) (me 0 rfl) (Cells.flat _)) (hL490.hFl (Sl := ([] : List Snap)) hp491 (sels [] rfl)) (hL490.into hp491 (Fl ([] : List Snap))) r492 hv493) ?_
                rintro _ w494 ⟨rfl, hM495⟩
                have hL496 := hL490.call hp491 hM495
                refine ⟨_, _, _, rfl, hL496, ?_⟩
                refine wl_v 2 rfl (v_assign rfl) gn rfl ?_
                refine w_end 3 rfl ?_
                refine g_seq (c := trellislaw15_TreeFinds_c64) rfl ?_
                refine g_region (c := trellislaw15_TreeFinds_c65) rfl rfl ?_
                refine wl_v 0 rfl (v_move rfl) gn rfl ?_
                refine wl_v 1 rfl (v_move rfl) gn rfl ?_
                by_cases hp497 : r492 = true
                · have h := if_pos' hp497 h
                  refine w_bool 73 rfl (hp497) ?_
                  refine wl_pass 2 rfl (ps 73 rfl rfl rfl) ?_
                  refine wl_pass 3 rfl (ps 73 rfl rfl rfl) ?_
                  refine wl_pass 4 rfl (ps 73 rfl rfl rfl) ?_
                  refine wl_pass 5 rfl (ps 73 rfl rfl rfl) ?_
                  refine wl_v 6 rfl (v_pick (b := true) rfl rfl) gn rfl ?_
                  refine wl_v 7 rfl (v_assign rfl) gn rfl ?_
                  refine w_end 8 rfl ?_
                  have h := Out.inr hO2 h
                  have h := Out.inr hO1 h
                  refine g_retR (c := trellislaw15_TreeFinds_c66) [.bool true] rfl Try.func5 rfl (.tmp rfl (.nil)) fun wr hLr => ?_
                  have hMr : B.Loc w wr [] [St w []] := hLr.pick (rest := [.own (.slice A481 n482 c483) 39 7 n482 (r479.flatMap enc_api_Node), .own (.slice A21 n22 c23) 39 7 n22 (x431.flatMap enc_api_Node)]) (perm_of_idx [] [0, 1] rfl rfl (by kernel_rfl)) (sels [1] rfl)
                  have hMi : ∀ e ∈ ([] : List Ent), e ∈ ([.own (.slice A481 n482 c483) 39 7 n482 (r479.flatMap enc_api_Node), .own (.slice A21 n22 c23) 39 7 n22 (x431.flatMap enc_api_Node)] : List Ent) := sels [] rfl
                  show trellislaw15_TreeFinds_R w F  r (.returned (packV [.bool true])) wr
                  rw [h]
                  exact ⟨rfl, hMr⟩
                · have h := if_neg' hp497 h
                  refine w_bool 73 rfl ((bf hp497)) ?_
                  refine wl_v 2 rfl (v_move rfl) (gy 73 rfl rfl) rfl ?_
                  refine wl_v 3 rfl (v_move rfl) (gy 73 rfl rfl) rfl ?_
                  refine wl_v 4 rfl (v_move rfl) (gy 73 rfl rfl) rfl ?_
                  obtain ⟨r501, hv502, h⟩ := h
                  refine wl_s 5 rfl (s_call [.slice A21 r19.2 c23, .slice A481 n482 c483, .int .i64 x6] rfl Try.func30 rfl rfl rfl fun w498 hL499 => ?_) (gy 73 rfl rfl)
                  have hp500 : List.Perm ([.own (.slice A481 n482 c483) 39 7 n482 (r479.flatMap enc_api_Node), .own (.slice A21 n22 c23) 39 7 n22 (x431.flatMap enc_api_Node)] : List Ent) (([] : List Ent) ++ ([.own (.slice A481 n482 c483) 39 7 n482 (r479.flatMap enc_api_Node), .own (.slice A21 n22 c23) 39 7 n22 (x431.flatMap enc_api_Node)] : List Ent)) := perm_of_idx [] [0, 1] rfl rfl (by kernel_rfl)
                  refine Calls.mono (trellislaw15_finds_calls w498 (Fl ([] : List Snap)) x431 r19.2 r479 x6 A21 n22 c23 A481 n482 c483 (hL499.argO (dk := k_api_Node) hp500 [] rfl 1 rfl rfl h432 (me 0 rfl) (Cells.flat _)) hl394 (hL499.argO (dk := k_api_Node) hp500 [] rfl 0 rfl rfl (Ow.weak hL477.env.size h484) (me 0 rfl) (Cells.flat _)) (hL499.hFl (Sl := ([] : List Snap)) hp500 (sels [] rfl)) (hL499.into hp500 (Fl ([] : List Snap))) r501 hv502) ?_
                  rintro _ w503 ⟨rfl, hM504⟩
                  have hL505 := hL499.call hp500 hM504
                  refine ⟨_, _, _, rfl, hL505, ?_⟩
                  refine wl_v 6 rfl (v_pick (b := false) rfl rfl) gn rfl ?_
                  refine wl_v 7 rfl (v_assign rfl) gn rfl ?_
                  refine w_end 8 rfl ?_
                  have h := Out.inr hO2 h
                  have h := Out.inr hO1 h
                  refine g_retR (c := trellislaw15_TreeFinds_c66) [.bool r501] rfl Try.func5 rfl (.tmp rfl (.nil)) fun wr hLr => ?_
                  have hMr : B.Loc w wr [] [St w []] := hLr.pick (rest := [.own (.slice A481 n482 c483) 39 7 n482 (r479.flatMap enc_api_Node), .own (.slice A21 n22 c23) 39 7 n22 (x431.flatMap enc_api_Node)]) (perm_of_idx [] [0, 1] rfl rfl (by kernel_rfl)) (sels [1] rfl)
                  have hMi : ∀ e ∈ ([] : List Ent), e ∈ ([.own (.slice A481 n482 c483) 39 7 n482 (r479.flatMap enc_api_Node), .own (.slice A21 n22 c23) 39 7 n22 (x431.flatMap enc_api_Node)] : List Ent) := sels [] rfl
                  show trellislaw15_TreeFinds_R w F  r (.returned (packV [.bool r501])) wr
                  rw [h]
                  exact ⟨rfl, hMr⟩
            exact g_go [0, 1] (key2 _ h h196 hl40) ⟨rfl, rfl, rfl, trivial⟩ (.cons _ (.cons_cons _ (.slnil))) rfl
          · have h := if_neg' hp392 h
            refine g_true (c := trellislaw15_TreeFinds_c43) rfl _ rfl ((nt (bf hp392))) ?_
            refine g_seq (c := trellislaw15_TreeFinds_c44) rfl ?_
            refine g_region (c := trellislaw15_TreeFinds_c67) rfl rfl ?_
            refine wl_v 0 rfl (v_assign rfl) gn rfl ?_
            refine w_end 1 rfl ?_
            have h := Out.inr hO1 h
            refine g_retR (c := trellislaw15_TreeFinds_c68) [.bool false] rfl Try.func5 rfl (.tmp rfl (.nil)) fun wr hLr => ?_
            have hMr : B.Loc w wr [] [St w []] := hLr.pick (rest := [.own (.slice A376 n377 c378) 39 7 n377 (r374.flatMap enc_api_Node), .own (.slice A21 n22 c23) 39 7 n22 (x195.flatMap enc_api_Node)]) (perm_of_idx [] [0, 1] rfl rfl (by kernel_rfl)) (sels [1] rfl)
            have hMi : ∀ e ∈ ([] : List Ent), e ∈ ([.own (.slice A376 n377 c378) 39 7 n377 (r374.flatMap enc_api_Node), .own (.slice A21 n22 c23) 39 7 n22 (x195.flatMap enc_api_Node)] : List Ent) := sels [] rfl
            show trellislaw15_TreeFinds_R w F  r (.returned (packV [.bool false])) wr
            rw [h]
            exact ⟨rfl, hMr⟩
      exact g_go [0, 1] (key1 _ h (Ow.weak hL17.env.size h24) hk25) ⟨rfl, rfl, rfl, trivial⟩ (.cons_cons _ (.slnil)) rfl
    · have h := if_neg' hp38 h
      refine g_true (c := trellislaw15_TreeFinds_c16) rfl _ rfl ((nt (bf hp38))) ?_
      refine g_seq (c := trellislaw15_TreeFinds_c17) rfl ?_
      refine g_region (c := trellislaw15_TreeFinds_c69) rfl rfl ?_
      refine wl_v 0 rfl (v_assign rfl) gn rfl ?_
      refine w_end 1 rfl ?_
      refine g_retR (c := trellislaw15_TreeFinds_c70) [.bool false] rfl Try.func5 rfl (.tmp rfl (.nil)) fun wr hLr => ?_
      have hMr : B.Loc w wr [] [St w []] := hLr.pick (rest := [.own (.slice A21 n22 c23) 39 7 n22 (r19.1.flatMap enc_api_Node)]) (perm_of_idx [] [0] rfl rfl (by kernel_rfl)) (sels [1] rfl)
      have hMi : ∀ e ∈ ([] : List Ent), e ∈ ([.own (.slice A21 n22 c23) 39 7 n22 (r19.1.flatMap enc_api_Node)] : List Ent) := sels [] rfl
      show trellislaw15_TreeFinds_R w F  r (.returned (packV [.bool false])) wr
      rw [h]
      exact ⟨rfl, hMr⟩
end Go.Proofs.Ytmekgfcfooghnaa.K
