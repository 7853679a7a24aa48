/- What the machine's calls do, function by function, printed by my own tool. Condition of each: its relation holds of the answer, and what is handed in lies in memory as told. -/
import Derived.Test.YtmekgfcfooghnaaK2
set_option linter.unusedVariables false
set_option maxRecDepth 100000
set_option maxHeartbeats 4000000
namespace Go.Proofs.Ytmekgfcfooghnaa.K
open Go.Proofs.Ytmekgfcfooghnaa.B Go.Proofs.Ytmekgfcfooghnaa.R Go.RowKit
noncomputable abbrev trellislaw15_TreeWalks_c0 : Code := bodyOf Try.f3
noncomputable abbrev trellislaw15_TreeWalks_c1 : Code := Code.fst trellislaw15_TreeWalks_c0
noncomputable abbrev trellislaw15_TreeWalks_c2 : Code := Code.snd trellislaw15_TreeWalks_c0
noncomputable abbrev trellislaw15_TreeWalks_c3 : Code := Code.fst trellislaw15_TreeWalks_c2
noncomputable abbrev trellislaw15_TreeWalks_c4 : Code := Code.snd trellislaw15_TreeWalks_c2
noncomputable abbrev trellislaw15_TreeWalks_c5 : Code := Code.fst trellislaw15_TreeWalks_c3
noncomputable abbrev trellislaw15_TreeWalks_c6 : Code := Code.snd trellislaw15_TreeWalks_c3
noncomputable abbrev trellislaw15_TreeWalks_c7 : Code := Code.fst trellislaw15_TreeWalks_c6
noncomputable abbrev trellislaw15_TreeWalks_c8 : Code := Code.snd trellislaw15_TreeWalks_c6
noncomputable abbrev trellislaw15_TreeWalks_c9 : Code := Code.fst trellislaw15_TreeWalks_c7
noncomputable abbrev trellislaw15_TreeWalks_c10 : Code := Code.snd trellislaw15_TreeWalks_c7
noncomputable abbrev trellislaw15_TreeWalks_c11 : Code := Code.fst trellislaw15_TreeWalks_c4
noncomputable abbrev trellislaw15_TreeWalks_c12 : Code := Code.snd trellislaw15_TreeWalks_c4
noncomputable abbrev trellislaw15_TreeWalks_c13 : Code := Code.fst trellislaw15_TreeWalks_c12
noncomputable abbrev trellislaw15_TreeWalks_c14 : Code := Code.snd trellislaw15_TreeWalks_c12
noncomputable abbrev trellislaw15_TreeWalks_c15 : Code := Code.fst trellislaw15_TreeWalks_c14
noncomputable abbrev trellislaw15_TreeWalks_c16 : Code := Code.snd trellislaw15_TreeWalks_c14
noncomputable abbrev trellislaw15_TreeWalks_c17 : Code := Code.fst trellislaw15_TreeWalks_c16
noncomputable abbrev trellislaw15_TreeWalks_c18 : Code := Code.snd trellislaw15_TreeWalks_c16
noncomputable abbrev trellislaw15_TreeWalks_c19 : Code := Code.fst trellislaw15_TreeWalks_c17
noncomputable abbrev trellislaw15_TreeWalks_c20 : Code := Code.snd trellislaw15_TreeWalks_c17
noncomputable abbrev trellislaw15_TreeWalks_c21 : Code := Code.fst trellislaw15_TreeWalks_c20
noncomputable abbrev trellislaw15_TreeWalks_c22 : Code := Code.snd trellislaw15_TreeWalks_c20
noncomputable abbrev trellislaw15_TreeWalks_c23 : Code := Code.fst trellislaw15_TreeWalks_c21
noncomputable abbrev trellislaw15_TreeWalks_c24 : Code := Code.snd trellislaw15_TreeWalks_c21
noncomputable abbrev trellislaw15_TreeWalks_c25 : Code := Code.fst trellislaw15_TreeWalks_c18
noncomputable abbrev trellislaw15_TreeWalks_c26 : Code := Code.snd trellislaw15_TreeWalks_c18
noncomputable abbrev trellislaw15_TreeWalks_c27 : Code := Code.fst trellislaw15_TreeWalks_c25
noncomputable abbrev trellislaw15_TreeWalks_c28 : Code := Code.snd trellislaw15_TreeWalks_c25
noncomputable abbrev trellislaw15_TreeWalks_c29 : Code := Code.fst trellislaw15_TreeWalks_c28
noncomputable abbrev trellislaw15_TreeWalks_c30 : Code := Code.fst trellislaw15_TreeWalks_c29
noncomputable abbrev trellislaw15_TreeWalks_c31 : Code := Code.fst trellislaw15_TreeWalks_c30
noncomputable abbrev trellislaw15_TreeWalks_c32 : Code := Code.snd trellislaw15_TreeWalks_c30
noncomputable abbrev trellislaw15_TreeWalks_c33 : Code := Code.fst trellislaw15_TreeWalks_c31
noncomputable abbrev trellislaw15_TreeWalks_c34 : Code := Code.snd trellislaw15_TreeWalks_c31
noncomputable abbrev trellislaw15_TreeWalks_c35 : Code := Code.fst trellislaw15_TreeWalks_c34
noncomputable abbrev trellislaw15_TreeWalks_c36 : Code := Code.snd trellislaw15_TreeWalks_c34
noncomputable abbrev trellislaw15_TreeWalks_c37 : Code := Code.fst trellislaw15_TreeWalks_c32
noncomputable abbrev trellislaw15_TreeWalks_c38 : Code := Code.snd trellislaw15_TreeWalks_c32
noncomputable abbrev trellislaw15_TreeWalks_c39 : Code := Code.fst trellislaw15_TreeWalks_c37
noncomputable abbrev trellislaw15_TreeWalks_c40 : Code := Code.fst trellislaw15_TreeWalks_c26
noncomputable abbrev trellislaw15_TreeWalks_c41 : Code := Code.snd trellislaw15_TreeWalks_c26
noncomputable abbrev trellislaw15_TreeWalks_c42 : Code := Code.fst trellislaw15_TreeWalks_c41
noncomputable abbrev trellislaw15_TreeWalks_c43 : Code := Code.snd trellislaw15_TreeWalks_c41
noncomputable abbrev trellislaw15_TreeWalks_c44 : Code := Code.fst trellislaw15_TreeWalks_c43
noncomputable abbrev trellislaw15_TreeWalks_c45 : Code := Code.snd trellislaw15_TreeWalks_c43
noncomputable abbrev trellislaw15_TreeWalks_c46 : Code := Code.fst trellislaw15_TreeWalks_c44
noncomputable abbrev trellislaw15_TreeWalks_c47 : Code := Code.snd trellislaw15_TreeWalks_c44
noncomputable abbrev trellislaw15_TreeWalks_c48 : Code := Code.fst trellislaw15_TreeWalks_c47
noncomputable abbrev trellislaw15_TreeWalks_c49 : Code := Code.snd trellislaw15_TreeWalks_c47
noncomputable abbrev trellislaw15_TreeWalks_c50 : Code := Code.fst trellislaw15_TreeWalks_c45
noncomputable abbrev trellislaw15_TreeWalks_c51 : Code := Code.snd trellislaw15_TreeWalks_c45
noncomputable abbrev trellislaw15_TreeWalks_c52 : Code := Code.fst trellislaw15_TreeWalks_c50
noncomputable abbrev trellislaw15_TreeWalks_c53 : Code := Code.snd trellislaw15_TreeWalks_c50
noncomputable abbrev trellislaw15_TreeWalks_c54 : Code := Code.fst trellislaw15_TreeWalks_c53
noncomputable abbrev trellislaw15_TreeWalks_c55 : Code := Code.fst trellislaw15_TreeWalks_c54
noncomputable abbrev trellislaw15_TreeWalks_c56 : Code := Code.fst trellislaw15_TreeWalks_c55
noncomputable abbrev trellislaw15_TreeWalks_c57 : Code := Code.snd trellislaw15_TreeWalks_c55
noncomputable abbrev trellislaw15_TreeWalks_c58 : Code := Code.fst trellislaw15_TreeWalks_c56
noncomputable abbrev trellislaw15_TreeWalks_c59 : Code := Code.snd trellislaw15_TreeWalks_c56
noncomputable abbrev trellislaw15_TreeWalks_c60 : Code := Code.fst trellislaw15_TreeWalks_c59
noncomputable abbrev trellislaw15_TreeWalks_c61 : Code := Code.snd trellislaw15_TreeWalks_c59
noncomputable abbrev trellislaw15_TreeWalks_c62 : Code := Code.fst trellislaw15_TreeWalks_c57
noncomputable abbrev trellislaw15_TreeWalks_c63 : Code := Code.snd trellislaw15_TreeWalks_c57
noncomputable abbrev trellislaw15_TreeWalks_c64 : Code := Code.fst trellislaw15_TreeWalks_c62
noncomputable abbrev trellislaw15_TreeWalks_c65 : Code := Code.fst trellislaw15_TreeWalks_c64
noncomputable abbrev trellislaw15_TreeWalks_c66 : Code := Code.snd trellislaw15_TreeWalks_c64
noncomputable abbrev trellislaw15_TreeWalks_c67 : Code := Code.fst trellislaw15_TreeWalks_c66
noncomputable abbrev trellislaw15_TreeWalks_c68 : Code := Code.snd trellislaw15_TreeWalks_c66
noncomputable abbrev trellislaw15_TreeWalks_c69 : Code := Code.fst trellislaw15_TreeWalks_c67
noncomputable abbrev trellislaw15_TreeWalks_c70 : Code := Code.snd trellislaw15_TreeWalks_c67
noncomputable abbrev trellislaw15_TreeWalks_c71 : Code := Code.fst trellislaw15_TreeWalks_c70
noncomputable abbrev trellislaw15_TreeWalks_c72 : Code := Code.fst trellislaw15_TreeWalks_c71
noncomputable abbrev trellislaw15_TreeWalks_c73 : Code := Code.snd trellislaw15_TreeWalks_c71
noncomputable abbrev trellislaw15_TreeWalks_c74 : Code := Code.fst trellislaw15_TreeWalks_c73
noncomputable abbrev trellislaw15_TreeWalks_c75 : Code := Code.snd trellislaw15_TreeWalks_c73
noncomputable abbrev trellislaw15_TreeWalks_c76 : Code := Code.fst trellislaw15_TreeWalks_c75
noncomputable abbrev trellislaw15_TreeWalks_c77 : Code := Code.snd trellislaw15_TreeWalks_c75
noncomputable abbrev trellislaw15_TreeWalks_c78 : Code := Code.fst trellislaw15_TreeWalks_c77
noncomputable abbrev trellislaw15_TreeWalks_c79 : Code := Code.snd trellislaw15_TreeWalks_c77
noncomputable abbrev trellislaw15_TreeWalks_c80 : Code := Code.fst trellislaw15_TreeWalks_c79
noncomputable abbrev trellislaw15_TreeWalks_c81 : Code := Code.snd trellislaw15_TreeWalks_c79
noncomputable abbrev trellislaw15_TreeWalks_c82 : Code := Code.fst trellislaw15_TreeWalks_c81
noncomputable abbrev trellislaw15_TreeWalks_c83 : Code := Code.snd trellislaw15_TreeWalks_c81
noncomputable abbrev trellislaw15_TreeWalks_c84 : Code := Code.fst trellislaw15_TreeWalks_c68
noncomputable abbrev trellislaw15_TreeWalks_c85 : Code := Code.snd trellislaw15_TreeWalks_c68
noncomputable abbrev trellislaw15_TreeWalks_c86 : Code := Code.fst trellislaw15_TreeWalks_c85
noncomputable abbrev trellislaw15_TreeWalks_c87 : Code := Code.snd trellislaw15_TreeWalks_c85
noncomputable abbrev trellislaw15_TreeWalks_c88 : Code := Code.fst trellislaw15_TreeWalks_c86
noncomputable abbrev trellislaw15_TreeWalks_c89 : Code := Code.snd trellislaw15_TreeWalks_c86
noncomputable abbrev trellislaw15_TreeWalks_c90 : Code := Code.fst trellislaw15_TreeWalks_c51
noncomputable abbrev trellislaw15_TreeWalks_c91 : Code := Code.snd trellislaw15_TreeWalks_c51
noncomputable abbrev trellislaw15_TreeWalks_c92 : Code := Code.fst trellislaw15_TreeWalks_c48
noncomputable abbrev trellislaw15_TreeWalks_c93 : Code := Code.snd trellislaw15_TreeWalks_c48
abbrev trellislaw15_TreeWalks_R (w : World) (F : Nat → Prop) (r : Bool) : Ending → World → Prop := fun e w' => e = .returned (.bool r) ∧ B.Loc w w' [] [St w []]
noncomputable abbrev trellislaw15_TreeWalks_C (w : World) (F : Nat → Prop) (r : Bool) : Cx := ⟨Try.prog, 3, Try.f3, 106, trellislaw15_TreeWalks_R w F  r, w⟩
theorem trellislaw15_TreeWalks_calls (w : World) (F : Nat → Prop) (x1 : List api_Node) (x6 : List Int) (A2 : Option Addr) (n3 : Nat) (c4 : Nat) (A7 : Option Addr) (n8 : Nat) (c9 : Nat) (h5 : Rw k_api_Node w (St w []).av A2 n3 c4 x1) (h10 : Rw (kInt .i64) w (St w []).av A7 n8 c9 x6) (hF : ∀ b, F b → b < w.heap.size ∧ ∀ o ∈ ([] : List (List Nat)), b ∉ o) (hL0 : B.Loc w w [] [Sm w.heap.size F w [], St w []]) (r : Bool) (h : trellislaw15_TreeWalks x1 x6 r) : Calls Try.prog 3 #[.slice A2 n3 c4, .slice A7 n8 c9] w (trellislaw15_TreeWalks_R w F  r) := by
  unfold trellislaw15_TreeWalks at h
  refine calls_of_Loc (vs := [.slice A2 n3 c4, .slice A7 n8 c9]) 106 Try.func3 rfl Try.ntmps3 rfl hL0 ?_
  show G (trellislaw15_TreeWalks_C w F r) _ _ _ _
  refine g_seq (c := trellislaw15_TreeWalks_c0) rfl ?_
  refine g_region (c := trellislaw15_TreeWalks_c1) rfl rfl ?_
  refine wl_v 0 rfl (v_assign rfl) gn rfl ?_
  refine w_end 1 rfl ?_
  refine g_seq (c := trellislaw15_TreeWalks_c2) rfl ?_
  refine g_seq (c := trellislaw15_TreeWalks_c3) rfl ?_
  refine g_region (c := trellislaw15_TreeWalks_c5) rfl rfl ?_
  refine wl_v 0 rfl (v_move rfl) gn rfl ?_
  obtain ⟨r14, hv15, h⟩ := h
  refine wl_s 1 rfl (s_call [.slice A2 n3 c4] rfl Try.func10 rfl rfl rfl fun w11 hL12 => ?_) gn
  have hp13 : List.Perm ([] : List Ent) (([] : List Ent) ++ ([] : List Ent)) := perm_of_idx [] [] rfl rfl (by kernel_rfl)
  refine Calls.mono (trellisref15_Beyond_calls w11 (Fl ([] : List Snap)) x1 A2 n3 c4 (Rw.mono h5 (hL12.toSt hp13 (me 1 rfl))) (hL12.hFl (Sl := ([] : List Snap)) hp13 (sels [] rfl)) (hL12.into hp13 (Fl ([] : List Snap))) r14 hv15) ?_
  rintro _ w16 ⟨rfl, hM17⟩
  have hL18 := hL12.call hp13 hM17
  refine ⟨_, _, _, rfl, hL18, ?_⟩
  refine w_end 2 rfl ?_
  by_cases hp19 : r14 = true
  · have h := if_pos' hp19 h
    refine g_true (c := trellislaw15_TreeWalks_c6) rfl _ rfl (hp19) ?_
    refine g_seq (c := trellislaw15_TreeWalks_c7) rfl ?_
    refine g_region (c := trellislaw15_TreeWalks_c9) rfl rfl ?_
    refine wl_v 0 rfl (v_assign rfl) gn rfl ?_
    refine w_end 1 rfl ?_
    refine g_retR (c := trellislaw15_TreeWalks_c10) [.bool true] rfl Try.func3 rfl (.tmp rfl (.nil)) fun wr hLr => ?_
    have hMr : B.Loc w wr [] [St w []] := hLr.pick (rest := []) (perm_of_idx [] [] rfl rfl (by kernel_rfl)) (sels [1] rfl)
    have hMi : ∀ e ∈ ([] : List Ent), e ∈ ([] : List Ent) := sels [] rfl
    show trellislaw15_TreeWalks_R w F  r (.returned (packV [.bool true])) wr
    rw [h]
    exact ⟨rfl, hMr⟩
  · have h := if_neg' hp19 h
    refine g_false (c := trellislaw15_TreeWalks_c6) rfl _ rfl ((bf hp19)) ?_
    refine g_skip (c := trellislaw15_TreeWalks_c8) rfl ?_
    refine g_seq (c := trellislaw15_TreeWalks_c4) rfl ?_
    refine g_region (c := trellislaw15_TreeWalks_c11) rfl rfl ?_
    refine wl_v 0 rfl (v_move rfl) gn rfl ?_
    obtain ⟨r23, hv24, h⟩ := h
    refine wl_s 1 rfl (s_call [.slice A2 n3 c4] rfl Try.func11 rfl rfl rfl fun w20 hL21 => ?_) gn
    have hp22 : List.Perm ([] : List Ent) (([] : List Ent) ++ ([] : List Ent)) := perm_of_idx [] [] rfl rfl (by kernel_rfl)
    refine Calls.mono (trellislaw15_roomy_calls w20 (Fl ([] : List Snap)) x1 A2 n3 c4 (Rw.mono h5 (hL21.toSt hp22 (me 1 rfl))) (hL21.hFl (Sl := ([] : List Snap)) hp22 (sels [] rfl)) (hL21.into hp22 (Fl ([] : List Snap))) r23 hv24) ?_
    rintro _ w31 ⟨A25, n26, c27, rfl, hM32, h28, hk29⟩
    have hL33 := hL21.call hp22 hM32
    refine ⟨_, _, _, rfl, hL33, ?_⟩
    refine wl_v 2 rfl (v_assign rfl) gn rfl ?_
    refine w_end 3 rfl ?_
    refine g_seq (c := trellislaw15_TreeWalks_c12) rfl ?_
    refine g_region (c := trellislaw15_TreeWalks_c13) rfl rfl ?_
    refine wl_v 0 rfl (v_move rfl) gn rfl ?_
    obtain ⟨r37, hv38, h⟩ := h
    refine wl_s 1 rfl (s_call [.slice A25 r23.2 c27] rfl Try.func12 rfl rfl rfl fun w34 hL35 => ?_) gn
    have hp36 : List.Perm ([.own (.slice A25 n26 c27) 39 7 n26 (r23.1.flatMap enc_api_Node)] : List Ent) (([] : List Ent) ++ ([.own (.slice A25 n26 c27) 39 7 n26 (r23.1.flatMap enc_api_Node)] : List Ent)) := perm_of_idx [] [0] rfl rfl (by kernel_rfl)
    refine Calls.mono (tree_Walk_calls w34 (Fl ([] : List Snap)) (r23.1.take r23.2) A25 r23.2 c27 (Rw.w (hL35.argV (dk := k_api_Node) hp36 [] rfl 0 rfl rfl (Ow.weak hL21.env.size h28) (me 0 rfl) (Cells.flat _) (Vw.prefix hk29) (Nat.le_trans hk29 (Ow.weak hL21.env.size h28).hn) (Ow.weak hL21.env.size h28).hm) (by rw [(Eq.refl (r23.1.take r23.2))]; rfl)) (hL35.hFl (Sl := ([] : List Snap)) hp36 (sels [] rfl)) (hL35.into hp36 (Fl ([] : List Snap))) r37 hv38) ?_
    rintro _ w51 ⟨gb56, A39, n40, c41, A43, n44, c45, A47, n48, c49, rfl, hM52, h42, h46, h50⟩
    obtain ⟨sb55, hL53, hv54⟩ := hL35.callB (Sl := ([] : List Snap)) hp36 hM52 F (sels [] rfl) trivial
    have h42 : At k_api_Node (Sm w.heap.size F w51 sb55) A39 n40 c41 r37.stand.forest.nodes := Rw.mono h42 hv54
    have h46 : At (kInt .i64) (Sm w.heap.size F w51 sb55) A43 n44 c45 r37.stand.forest.parent := Rw.mono h46 hv54
    have h50 : At (kInt .i64) (Sm w.heap.size F w51 sb55) A47 n48 c49 r37.stand.forest.end_ := Rw.mono h50 hv54
    refine ⟨_, _, _, rfl, hL53, ?_⟩
    refine wl_v 2 rfl (v_assign rfl) gn rfl ?_
    refine w_end 3 rfl ?_
    refine g_seq (c := trellislaw15_TreeWalks_c14) rfl ?_
    refine g_region (c := trellislaw15_TreeWalks_c15) rfl rfl ?_
    refine wl_v 0 rfl (v_move rfl) gn rfl ?_
    obtain ⟨r61, hv62, h⟩ := h
    refine wl_s 1 rfl (s_call [.slice A2 n3 c4] rfl Try.func13 rfl rfl rfl fun w58 hL59 => ?_) gn
    have hp60 : List.Perm ([.box gb56 36 [.slice A39 n40 c41, .slice A43 n44 c45, .slice A47 n48 c49, .bool r37.stand.forest.ok, .int .i64 r37.stand.at_], .own (.slice A25 n26 c27) 39 7 n26 (r23.1.flatMap enc_api_Node)] : List Ent) (([] : List Ent) ++ ([.box gb56 36 [.slice A39 n40 c41, .slice A43 n44 c45, .slice A47 n48 c49, .bool r37.stand.forest.ok, .int .i64 r37.stand.at_], .own (.slice A25 n26 c27) 39 7 n26 (r23.1.flatMap enc_api_Node)] : List Ent)) := perm_of_idx [] [0, 1] rfl rfl (by kernel_rfl)
    refine Calls.mono (trellisref15_Walk_calls w58 (Fl ([] : List Snap)) x1 A2 n3 c4 (Rw.mono h5 (hL59.toSt hp60 (me 2 rfl))) (hL59.hFl (Sl := ([] : List Snap)) hp60 (sels [] rfl)) (hL59.into hp60 (Fl ([] : List Snap))) r61 hv62) ?_
    rintro _ w70 ⟨gb75, A63, n64, c65, cs68, rfl, hM71, h66, hC69⟩
    obtain ⟨sb74, hL72, hv73⟩ := hL59.callB (Sl := ([] : List Snap)) hp60 hM71 F (sels [] rfl) trivial
    have hC69 : Cells k_trellisref15_Tree (Sm w.heap.size F w70 sb74).w (Sm w.heap.size F w70 sb74).av r61.f cs68 := Cells.mono hv73 hC69
    refine ⟨_, _, _, rfl, hL72, ?_⟩
    refine wl_v 2 rfl (v_assign rfl) gn rfl ?_
    refine w_end 3 rfl ?_
    refine g_seq (c := trellislaw15_TreeWalks_c16) rfl ?_
    refine g_seq (c := trellislaw15_TreeWalks_c17) rfl ?_
    have j1 : ∀ (x127 : Bool) (x128 : List trellisref15_Tree) (x135 : Int) (x136 : List api_Node) (x143 : List Int) (x150 : List Int) (x157 : Bool) (x158 : Int) (h : trellislaw15_TreeWalks_j1 r23 x6 x127 x128 x135 x136 x143 x150 x157 x158 r) (hl126 : r23.2 ≤ n26) (A129 : Option Addr) (n130 : Nat) (c131 : Nat) (sw132 : World) (sb133 : List (List Nat)) (h134 : At k_trellisref15_Tree (Sm w.heap.size F sw132 sb133) A129 n130 c131 x128) (A137 : Option Addr) (n138 : Nat) (c139 : Nat) (sw140 : World) (sb141 : List (List Nat)) (h142 : At k_api_Node (Sm w.heap.size F sw140 sb141) A137 n138 c139 x136) (A144 : Option Addr) (n145 : Nat) (c146 : Nat) (sw147 : World) (sb148 : List (List Nat)) (h149 : At (kInt .i64) (Sm w.heap.size F sw147 sb148) A144 n145 c146 x143) (A151 : Option Addr) (n152 : Nat) (c153 : Nat) (sw154 : World) (sb155 : List (List Nat)) (h156 : At (kInt .i64) (Sm w.heap.size F sw154 sb155) A151 n152 c153 x150), G (trellislaw15_TreeWalks_C w F r) [.code trellislaw15_TreeWalks_c20, .code trellislaw15_TreeWalks_c18] [(1, .slice A7 n8 c9), (5, .slice A25 r23.2 c27), (6, .pointer (some ⟨gb56, 0, none⟩)), (7, .pointer (some ⟨gb75, 0, none⟩)), (37, .bool x127)] [.box gb75 93 [.slice A129 n130 c131, .int .i64 x135], .box gb56 36 [.slice A137 n138 c139, .slice A144 n145 c146, .slice A151 n152 c153, .bool x157, .int .i64 x158], .own (.slice A25 n26 c27) 39 7 n26 (r23.1.flatMap enc_api_Node)] [Sm w.heap.size F sw132 sb133, Sm w.heap.size F sw140 sb141, Sm w.heap.size F sw147 sb148, Sm w.heap.size F sw154 sb155, Sm w.heap.size F w70 sb74, Sm w.heap.size F w51 sb55, Sm w.heap.size F w [], St w []] := by
      intro x127 x128 x135 x136 x143 x150 x157 x158 h hl126 A129 n130 c131 sw132 sb133 h134 A137 n138 c139 sw140 sb141 h142 A144 n145 c146 sw147 sb148 h149 A151 n152 c153 sw154 sb155 h156
      unfold trellislaw15_TreeWalks_j1 at h
      by_cases hp159 : x127 = true
      · have h := if_pos' hp159 h
        refine g_true (c := trellislaw15_TreeWalks_c20) rfl _ rfl (hp159) ?_
        refine g_seq (c := trellislaw15_TreeWalks_c21) rfl ?_
        refine g_region (c := trellislaw15_TreeWalks_c23) rfl rfl ?_
        refine wl_v 0 rfl (v_assign rfl) gn rfl ?_
        refine w_end 1 rfl ?_
        refine g_retR (c := trellislaw15_TreeWalks_c24) [.bool false] rfl Try.func3 rfl (.tmp rfl (.nil)) fun wr hLr => ?_
        have hMr : B.Loc w wr [] [St w []] := hLr.pick (rest := [.box gb75 93 [.slice A129 n130 c131, .int .i64 x135], .box gb56 36 [.slice A137 n138 c139, .slice A144 n145 c146, .slice A151 n152 c153, .bool x157, .int .i64 x158], .own (.slice A25 n26 c27) 39 7 n26 (r23.1.flatMap enc_api_Node)]) (perm_of_idx [] [0, 1, 2] rfl rfl (by kernel_rfl)) (sels [7] rfl)
        have hMi : ∀ e ∈ ([] : List Ent), e ∈ ([.box gb75 93 [.slice A129 n130 c131, .int .i64 x135], .box gb56 36 [.slice A137 n138 c139, .slice A144 n145 c146, .slice A151 n152 c153, .bool x157, .int .i64 x158], .own (.slice A25 n26 c27) 39 7 n26 (r23.1.flatMap enc_api_Node)] : List Ent) := sels [] rfl
        show trellislaw15_TreeWalks_R w F  r (.returned (packV [.bool false])) wr
        rw [h]
        exact ⟨rfl, hMr⟩
      · have h := if_neg' hp159 h
        refine g_false (c := trellislaw15_TreeWalks_c20) rfl _ rfl ((bf hp159)) ?_
        refine g_skip (c := trellislaw15_TreeWalks_c22) rfl ?_
        refine g_seq (c := trellislaw15_TreeWalks_c18) rfl ?_
        refine g_seq (c := trellislaw15_TreeWalks_c25) rfl ?_
        refine g_region (c := trellislaw15_TreeWalks_c27) rfl rfl ?_
        refine wl_v 0 rfl (v_assign rfl) gn rfl ?_
        refine w_end 1 rfl ?_
        refine g_block (c := trellislaw15_TreeWalks_c28) rfl ?_
        refine g_loop (c := trellislaw15_TreeWalks_c29) rfl ?_
        have key2 : ∀ s, Rounds (fun (s : (List api_Node) × Int) o => trellislaw15_TreeWalks_b2 r23 x6 x128 x135 x136 x143 x150 x157 x158 s.1 s.2 o) s r → (fun (s : (List api_Node) × Int) => ∀ (h1222 : Ow w.heap.size A25 n26 c27 s.1) (hl161 : r23.2 ≤ n26), G (trellislaw15_TreeWalks_C w F r) [.code trellislaw15_TreeWalks_c30, .inLoop trellislaw15_TreeWalks_c30, .inBlock 0, .code trellislaw15_TreeWalks_c26] [(1, .slice A7 n8 c9), (5, .slice A25 r23.2 c27), (6, .pointer (some ⟨gb56, 0, none⟩)), (7, .pointer (some ⟨gb75, 0, none⟩)), (8, .int .i64 s.2)] [.box gb75 93 [.slice A129 n130 c131, .int .i64 x135], .box gb56 36 [.slice A137 n138 c139, .slice A144 n145 c146, .slice A151 n152 c153, .bool x157, .int .i64 x158], .own (.slice A25 n26 c27) 39 7 n26 (s.1.flatMap enc_api_Node)] [Sm w.heap.size F sw132 sb133, Sm w.heap.size F sw140 sb141, Sm w.heap.size F sw147 sb148, Sm w.heap.size F sw154 sb155, Sm w.heap.size F w70 sb74, Sm w.heap.size F w51 sb55, Sm w.heap.size F w [], St w []]) s := by
          intro s hs
          refine Rounds.ind (mot := (fun (s : (List api_Node) × Int) => ∀ (h1222 : Ow w.heap.size A25 n26 c27 s.1) (hl161 : r23.2 ≤ n26), G (trellislaw15_TreeWalks_C w F r) [.code trellislaw15_TreeWalks_c30, .inLoop trellislaw15_TreeWalks_c30, .inBlock 0, .code trellislaw15_TreeWalks_c26] [(1, .slice A7 n8 c9), (5, .slice A25 r23.2 c27), (6, .pointer (some ⟨gb56, 0, none⟩)), (7, .pointer (some ⟨gb75, 0, none⟩)), (8, .int .i64 s.2)] [.box gb75 93 [.slice A129 n130 c131, .int .i64 x135], .box gb56 36 [.slice A137 n138 c139, .slice A144 n145 c146, .slice A151 n152 c153, .bool x157, .int .i64 x158], .own (.slice A25 n26 c27) 39 7 n26 (s.1.flatMap enc_api_Node)] [Sm w.heap.size F sw132 sb133, Sm w.heap.size F sw140 sb141, Sm w.heap.size F sw147 sb148, Sm w.heap.size F sw154 sb155, Sm w.heap.size F w70 sb74, Sm w.heap.size F w51 sb55, Sm w.heap.size F w [], St w []])) ?_ hs
          clear hs s
          intro s o1 h hO1
          obtain ⟨x1221, x1223⟩ := s
          show ∀ (h1222 : Ow w.heap.size A25 n26 c27 x1221) (hl161 : r23.2 ≤ n26), G (trellislaw15_TreeWalks_C w F r) [.code trellislaw15_TreeWalks_c30, .inLoop trellislaw15_TreeWalks_c30, .inBlock 0, .code trellislaw15_TreeWalks_c26] [(1, .slice A7 n8 c9), (5, .slice A25 r23.2 c27), (6, .pointer (some ⟨gb56, 0, none⟩)), (7, .pointer (some ⟨gb75, 0, none⟩)), (8, .int .i64 x1223)] [.box gb75 93 [.slice A129 n130 c131, .int .i64 x135], .box gb56 36 [.slice A137 n138 c139, .slice A144 n145 c146, .slice A151 n152 c153, .bool x157, .int .i64 x158], .own (.slice A25 n26 c27) 39 7 n26 (x1221.flatMap enc_api_Node)] [Sm w.heap.size F sw132 sb133, Sm w.heap.size F sw140 sb141, Sm w.heap.size F sw147 sb148, Sm w.heap.size F sw154 sb155, Sm w.heap.size F w70 sb74, Sm w.heap.size F w51 sb55, Sm w.heap.size F w [], St w []]
          intro h1222 hl161
          have h : trellislaw15_TreeWalks_b2 r23 x6 x128 x135 x136 x143 x150 x157 x158 x1221 x1223 o1 := h
          unfold trellislaw15_TreeWalks_b2 at h
          refine g_seq (c := trellislaw15_TreeWalks_c30) rfl ?_
          refine g_seq (c := trellislaw15_TreeWalks_c31) rfl ?_
          refine g_region (c := trellislaw15_TreeWalks_c33) rfl rfl ?_
          refine wl_v 0 rfl (v_move rfl) gn rfl ?_
          refine wl_v 1 rfl (v_move rfl) gn rfl ?_
          refine wl_v 2 rfl (v_lenQ un_22 rfl (Ow.cut h1222 hl161).hq) gn rfl ?_
          refine wl_v 3 rfl (v_bin rfl rfl rfl) gn rfl ?_
          refine w_end 4 rfl ?_
          by_cases hp2283 : x1223 < ((x1221.take r23.2).length : Int)
          · have h := if_pos' hp2283 h
            refine g_true (c := trellislaw15_TreeWalks_c34) rfl _ rfl ((decide_eq_true hp2283)) ?_
            refine g_skip (c := trellislaw15_TreeWalks_c35) rfl ?_
            refine g_seq (c := trellislaw15_TreeWalks_c32) rfl ?_
            refine g_block (c := trellislaw15_TreeWalks_c37) rfl ?_
            refine g_region (c := trellislaw15_TreeWalks_c39) rfl rfl ?_
            refine wl_v 0 rfl (v_move rfl) gn rfl ?_
            refine wl_v 1 rfl (v_move rfl) gn rfl ?_
            refine wl_v 2 rfl (v_build #[.string (⟨#[]⟩ : ByteArray), .bool false, .string (⟨#[]⟩ : ByteArray), .int .i64 0, .int .i64 0, .int .i64 (-1), .int .i64 0] bd_39 rfl (by kernel_rfl)) gn rfl ?_
            obtain ⟨hb2284, h⟩ := h
            have hb2285 : 0 ≤ x1223 ∧ x1223 < (x1221.length : Int) := by have q := hb2284; have q2 := List.length_take_le' r23.2 x1221; omega
            refine wl_v 3 rfl (v_idxO slE_22 rfl rfl (Ow.cut h1222 hl161) hb2284) gn rfl ?_
            obtain ⟨x2286, hv2287, h⟩ := h
            refine wl_s 4 rfl (s_stF (enc := enc_api_Node) (o := 0) (z := (⟨(⟨#[]⟩ : ByteArray), false, (⟨#[]⟩ : ByteArray), 0, 0, -1, 0⟩ : api_Node)) (vs := [.string (⟨#[]⟩ : ByteArray), .bool false, .string (⟨#[]⟩ : ByteArray), .int .i64 0, .int .i64 0, .int .i64 (-1), .int .i64 0]) (i := x1223) 2 hl_api_Node sz_39 rfl rfl rfl rfl rfl h1222 hb2285 rfl rfl rfl hv2287 fun h2288 => ?_) gn
            refine w_end 5 rfl ?_
            refine g_inBlock ?_
            refine g_region (c := trellislaw15_TreeWalks_c38) rfl rfl ?_
            refine wl_v 0 rfl (v_move rfl) gn rfl ?_
            refine wl_v 1 rfl (v_bin rfl rfl rfl) gn rfl ?_
            refine wl_v 2 rfl (v_assign rfl) gn rfl ?_
            refine w_end 3 rfl ?_
            refine g_inLoop ?_
            have ih := Out.inl hO1 h
            exact g_go [0, 1, 2, 3, 4, 5, 6, 7] (ih h2288 hl161) ⟨rfl, rfl, rfl, rfl, rfl, trivial⟩ (.cons_cons _ (.cons_cons _ (.cons_cons _ (.slnil)))) rfl
          · have h := if_neg' hp2283 h
            refine g_false (c := trellislaw15_TreeWalks_c34) rfl _ rfl ((decide_eq_false hp2283)) ?_
            refine g_exit (c := trellislaw15_TreeWalks_c36) [.code trellislaw15_TreeWalks_c26] rfl rfl ?_
            refine g_seq (c := trellislaw15_TreeWalks_c26) rfl ?_
            refine g_region (c := trellislaw15_TreeWalks_c40) rfl rfl ?_
            refine wl_v 0 rfl (v_move rfl) gn rfl ?_
            obtain ⟨r2292, hv2293, h⟩ := h
            refine wl_s 1 rfl (s_call [.slice A25 r23.2 c27] rfl Try.func17 rfl rfl rfl fun w2289 hL2290 => ?_) gn
            have hp2291 : List.Perm ([.box gb75 93 [.slice A129 n130 c131, .int .i64 x135], .box gb56 36 [.slice A137 n138 c139, .slice A144 n145 c146, .slice A151 n152 c153, .bool x157, .int .i64 x158], .own (.slice A25 n26 c27) 39 7 n26 (x1221.flatMap enc_api_Node)] : List Ent) (([] : List Ent) ++ ([.box gb75 93 [.slice A129 n130 c131, .int .i64 x135], .box gb56 36 [.slice A137 n138 c139, .slice A144 n145 c146, .slice A151 n152 c153, .bool x157, .int .i64 x158], .own (.slice A25 n26 c27) 39 7 n26 (x1221.flatMap enc_api_Node)] : List Ent)) := perm_of_idx [] [0, 1, 2] rfl rfl (by kernel_rfl)
            refine Calls.mono (trellisref15_Twin_calls w2289 (Fl ([] : List Snap)) (x1221.take r23.2) A25 r23.2 c27 (Rw.w (hL2290.argV (dk := k_api_Node) hp2291 [] rfl 2 rfl rfl h1222 (me 6 rfl) (Cells.flat _) (Vw.prefix hl161) (Nat.le_trans hl161 h1222.hn) h1222.hm) (by rw [(Eq.refl (x1221.take r23.2))]; rfl)) (hL2290.hFl (Sl := ([] : List Snap)) hp2291 (sels [] rfl)) (hL2290.into hp2291 (Fl ([] : List Snap))) r2292 hv2293) ?_
            rintro _ w2299 ⟨A2294, n2295, c2296, rfl, hM2300, h2297⟩
            have hL2301 := hL2290.call hp2291 hM2300
            refine ⟨_, _, _, rfl, hL2301, ?_⟩
            obtain ⟨r2305, hv2306, h⟩ := h
            refine wl_s 2 rfl (s_call [.slice A2294 n2295 c2296] rfl Try.func13 rfl rfl rfl fun w2302 hL2303 => ?_) gn
            have hp2304 : List.Perm ([.own (.slice A2294 n2295 c2296) 39 7 n2295 (r2292.flatMap enc_api_Node), .box gb75 93 [.slice A129 n130 c131, .int .i64 x135], .box gb56 36 [.slice A137 n138 c139, .slice A144 n145 c146, .slice A151 n152 c153, .bool x157, .int .i64 x158], .own (.slice A25 n26 c27) 39 7 n26 (x1221.flatMap enc_api_Node)] : List Ent) (([] : List Ent) ++ ([.own (.slice A2294 n2295 c2296) 39 7 n2295 (r2292.flatMap enc_api_Node), .box gb75 93 [.slice A129 n130 c131, .int .i64 x135], .box gb56 36 [.slice A137 n138 c139, .slice A144 n145 c146, .slice A151 n152 c153, .bool x157, .int .i64 x158], .own (.slice A25 n26 c27) 39 7 n26 (x1221.flatMap enc_api_Node)] : List Ent)) := perm_of_idx [] [0, 1, 2, 3] rfl rfl (by kernel_rfl)
            refine Calls.mono (trellisref15_Walk_calls w2302 (Fl ([] : List Snap)) r2292 A2294 n2295 c2296 (hL2303.argO (dk := k_api_Node) hp2304 [] rfl 0 rfl rfl (Ow.weak hL2290.env.size h2297) (me 6 rfl) (Cells.flat _)) (hL2303.hFl (Sl := ([] : List Snap)) hp2304 (sels [] rfl)) (hL2303.into hp2304 (Fl ([] : List Snap))) r2305 hv2306) ?_
            rintro _ w2314 ⟨gb2319, A2307, n2308, c2309, cs2312, rfl, hM2315, h2310, hC2313⟩
            obtain ⟨sb2318, hL2316, hv2317⟩ := hL2303.callB (Sl := ([] : List Snap)) hp2304 hM2315 F (sels [] rfl) trivial
            have hC2313 : Cells k_trellisref15_Tree (Sm w.heap.size F w2314 sb2318).w (Sm w.heap.size F w2314 sb2318).av r2305.f cs2312 := Cells.mono hv2317 hC2313
            refine ⟨_, _, _, rfl, hL2316, ?_⟩
            refine wl_v 3 rfl (v_assign rfl) gn rfl ?_
            refine w_end 4 rfl ?_
            refine g_seq (c := trellislaw15_TreeWalks_c41) rfl ?_
            refine g_region (c := trellislaw15_TreeWalks_c42) rfl rfl ?_
            refine wl_v 0 rfl (v_move rfl) gn rfl ?_
            obtain ⟨r2324, hv2325, h⟩ := h
            refine wl_s 1 rfl (s_call [.slice A25 r23.2 c27] rfl Try.func12 rfl rfl rfl fun w2321 hL2322 => ?_) gn
            have hp2323 : List.Perm ([.box gb2319 93 [.slice A2307 n2308 c2309, .int .i64 r2305.at_], .own (.slice A2307 n2308 c2309) 96 9 n2308 cs2312, .own (.slice A2294 n2295 c2296) 39 7 n2295 (r2292.flatMap enc_api_Node), .box gb75 93 [.slice A129 n130 c131, .int .i64 x135], .box gb56 36 [.slice A137 n138 c139, .slice A144 n145 c146, .slice A151 n152 c153, .bool x157, .int .i64 x158], .own (.slice A25 n26 c27) 39 7 n26 (x1221.flatMap enc_api_Node)] : List Ent) (([] : List Ent) ++ ([.box gb2319 93 [.slice A2307 n2308 c2309, .int .i64 r2305.at_], .own (.slice A2307 n2308 c2309) 96 9 n2308 cs2312, .own (.slice A2294 n2295 c2296) 39 7 n2295 (r2292.flatMap enc_api_Node), .box gb75 93 [.slice A129 n130 c131, .int .i64 x135], .box gb56 36 [.slice A137 n138 c139, .slice A144 n145 c146, .slice A151 n152 c153, .bool x157, .int .i64 x158], .own (.slice A25 n26 c27) 39 7 n26 (x1221.flatMap enc_api_Node)] : List Ent)) := perm_of_idx [] [0, 1, 2, 3, 4, 5] rfl rfl (by kernel_rfl)
            refine Calls.mono (tree_Walk_calls w2321 (Fl ([] : List Snap)) (x1221.take r23.2) A25 r23.2 c27 (Rw.w (hL2322.argV (dk := k_api_Node) hp2323 [] rfl 5 rfl rfl h1222 (me 7 rfl) (Cells.flat _) (Vw.prefix hl161) (Nat.le_trans hl161 h1222.hn) h1222.hm) (by rw [(Eq.refl (x1221.take r23.2))]; rfl)) (hL2322.hFl (Sl := ([] : List Snap)) hp2323 (sels [] rfl)) (hL2322.into hp2323 (Fl ([] : List Snap))) r2324 hv2325) ?_
            rintro _ w2338 ⟨gb2343, A2326, n2327, c2328, A2330, n2331, c2332, A2334, n2335, c2336, rfl, hM2339, h2329, h2333, h2337⟩
            obtain ⟨sb2342, hL2340, hv2341⟩ := hL2322.callB (Sl := ([] : List Snap)) hp2323 hM2339 F (sels [] rfl) trivial
            have h2329 : At k_api_Node (Sm w.heap.size F w2338 sb2342) A2326 n2327 c2328 r2324.stand.forest.nodes := Rw.mono h2329 hv2341
            have h2333 : At (kInt .i64) (Sm w.heap.size F w2338 sb2342) A2330 n2331 c2332 r2324.stand.forest.parent := Rw.mono h2333 hv2341
            have h2337 : At (kInt .i64) (Sm w.heap.size F w2338 sb2342) A2334 n2335 c2336 r2324.stand.forest.end_ := Rw.mono h2337 hv2341
            refine ⟨_, _, _, rfl, hL2340, ?_⟩
            refine wl_v 2 rfl (v_assign rfl) gn rfl ?_
            refine w_end 3 rfl ?_
            refine g_seq (c := trellislaw15_TreeWalks_c43) rfl ?_
            refine g_seq (c := trellislaw15_TreeWalks_c44) rfl ?_
            refine g_region (c := trellislaw15_TreeWalks_c46) rfl rfl ?_
            refine wl_v 0 rfl (v_move rfl) gn rfl ?_
            refine wl_v 1 rfl (v_eqNP un_26 rfl rfl) gn rfl ?_
            refine wl_v 2 rfl (v_move rfl) gn rfl ?_
            refine wl_v 3 rfl (v_move rfl) (gy 55 rfl rfl) rfl ?_
            refine wl_v 4 rfl (v_nilCheck rfl) (gy 55 rfl rfl) rfl ?_
            refine wl_v 5 rfl (v_fldB fo_36_0 rfl) (gy 55 rfl rfl) rfl ?_
            obtain ⟨r2387, hv2388, h⟩ := h
            refine wl_s 6 rfl (s_call [.pointer (some ⟨gb2343, 0, none⟩)] rfl Try.func14 rfl rfl rfl fun w2384 hL2385 => ?_) (gy 55 rfl rfl)
            have hp2386 : List.Perm ([.box gb2343 36 [.slice A2326 n2327 c2328, .slice A2330 n2331 c2332, .slice A2334 n2335 c2336, .bool r2324.stand.forest.ok, .int .i64 r2324.stand.at_], .box gb2319 93 [.slice A2307 n2308 c2309, .int .i64 r2305.at_], .own (.slice A2307 n2308 c2309) 96 9 n2308 cs2312, .own (.slice A2294 n2295 c2296) 39 7 n2295 (r2292.flatMap enc_api_Node), .box gb75 93 [.slice A129 n130 c131, .int .i64 x135], .box gb56 36 [.slice A137 n138 c139, .slice A144 n145 c146, .slice A151 n152 c153, .bool x157, .int .i64 x158], .own (.slice A25 n26 c27) 39 7 n26 (x1221.flatMap enc_api_Node)] : List Ent) (([.box gb2343 36 [.slice A2326 n2327 c2328, .slice A2330 n2331 c2332, .slice A2334 n2335 c2336, .bool r2324.stand.forest.ok, .int .i64 r2324.stand.at_]] : List Ent) ++ ([.box gb2319 93 [.slice A2307 n2308 c2309, .int .i64 r2305.at_], .own (.slice A2307 n2308 c2309) 96 9 n2308 cs2312, .own (.slice A2294 n2295 c2296) 39 7 n2295 (r2292.flatMap enc_api_Node), .box gb75 93 [.slice A129 n130 c131, .int .i64 x135], .box gb56 36 [.slice A137 n138 c139, .slice A144 n145 c146, .slice A151 n152 c153, .bool x157, .int .i64 x158], .own (.slice A25 n26 c27) 39 7 n26 (x1221.flatMap enc_api_Node)] : List Ent)) := perm_of_idx [0] [1, 2, 3, 4, 5, 6] rfl rfl (by kernel_rfl)
            refine Calls.mono (tree_stand_Place_calls w2384 (Fl ([Sm w.heap.size F w2338 sb2342] : List Snap)) r2324.stand gb2343 36 A2326 n2327 c2328 A2330 n2331 c2332 A2334 n2335 c2336 (Rw.mono h2329 (hL2385.toFl (me 0 rfl) (me 0 rfl))) (Rw.mono h2333 (hL2385.toFl (me 0 rfl) (me 0 rfl))) (Rw.mono h2337 (hL2385.toFl (me 0 rfl) (me 0 rfl))) (hL2385.hFl (Sl := ([Sm w.heap.size F w2338 sb2342] : List Snap)) hp2386 (sels [0] rfl)) (hL2385.into hp2386 (Fl ([Sm w.heap.size F w2338 sb2342] : List Snap))) r2387 hv2388) ?_
            rintro _ w2401 ⟨A2389, n2390, c2391, A2393, n2394, c2395, A2397, n2398, c2399, rfl, hM2402, h2392, h2396, h2400⟩
            obtain ⟨sb2405, hL2403, hv2404⟩ := hL2385.callB (Sl := ([Sm w.heap.size F w2338 sb2342] : List Snap)) hp2386 hM2402 F (sels [0] rfl) ⟨Sm.ok, trivial⟩
            have h2392 : At k_api_Node (Sm w.heap.size F w2401 sb2405) A2389 n2390 c2391 r2387.2.forest.nodes := Rw.mono h2392 hv2404
            have h2396 : At (kInt .i64) (Sm w.heap.size F w2401 sb2405) A2393 n2394 c2395 r2387.2.forest.parent := Rw.mono h2396 hv2404
            have h2400 : At (kInt .i64) (Sm w.heap.size F w2401 sb2405) A2397 n2398 c2399 r2387.2.forest.end_ := Rw.mono h2400 hv2404
            refine ⟨_, _, _, rfl, hL2403, ?_⟩
            refine wl_v 7 rfl (v_move rfl) (gy 55 rfl rfl) rfl ?_
            obtain ⟨r2412, hv2413, h⟩ := h
            refine w_freeze (F := F) (dk := k_trellisref15_Tree) (Sm w.heap.size F w2314 sb2318) 2 rfl (Ow.weak hL2303.env.size h2310) (me 2 rfl) Sm.ok hC2313 fun sw2410 sb2411 h2409 => ?_
            refine wl_s 8 rfl (s_call [.pointer (some ⟨gb2319, 0, none⟩)] rfl Try.func15 rfl rfl rfl fun w2406 hL2407 => ?_) (gy 55 rfl rfl)
            have hp2408 : List.Perm ([.box gb2343 36 [.slice A2389 n2390 c2391, .slice A2393 n2394 c2395, .slice A2397 n2398 c2399, .bool r2387.2.forest.ok, .int .i64 r2387.2.at_], .box gb2319 93 [.slice A2307 n2308 c2309, .int .i64 r2305.at_], .own (.slice A2294 n2295 c2296) 39 7 n2295 (r2292.flatMap enc_api_Node), .box gb75 93 [.slice A129 n130 c131, .int .i64 x135], .box gb56 36 [.slice A137 n138 c139, .slice A144 n145 c146, .slice A151 n152 c153, .bool x157, .int .i64 x158], .own (.slice A25 n26 c27) 39 7 n26 (x1221.flatMap enc_api_Node)] : List Ent) (([.box gb2319 93 [.slice A2307 n2308 c2309, .int .i64 r2305.at_]] : List Ent) ++ ([.box gb2343 36 [.slice A2389 n2390 c2391, .slice A2393 n2394 c2395, .slice A2397 n2398 c2399, .bool r2387.2.forest.ok, .int .i64 r2387.2.at_], .own (.slice A2294 n2295 c2296) 39 7 n2295 (r2292.flatMap enc_api_Node), .box gb75 93 [.slice A129 n130 c131, .int .i64 x135], .box gb56 36 [.slice A137 n138 c139, .slice A144 n145 c146, .slice A151 n152 c153, .bool x157, .int .i64 x158], .own (.slice A25 n26 c27) 39 7 n26 (x1221.flatMap enc_api_Node)] : List Ent)) := perm_of_idx [1] [0, 2, 3, 4, 5] rfl rfl (by kernel_rfl)
            refine Calls.mono (trellisref15_Model_Place_calls w2406 (Fl ([Sm w.heap.size F sw2410 sb2411] : List Snap)) r2305 gb2319 93 A2307 n2308 c2309 (Rw.mono h2409 (hL2407.toFl (me 0 rfl) (me 0 rfl))) (hL2407.hFl (Sl := ([Sm w.heap.size F sw2410 sb2411] : List Snap)) hp2408 (sels [0] rfl)) (hL2407.into hp2408 (Fl ([Sm w.heap.size F sw2410 sb2411] : List Snap))) r2412 hv2413) ?_
            rintro _ w2418 ⟨A2414, n2415, c2416, rfl, hM2419, h2417⟩
            obtain ⟨sb2422, hL2420, hv2421⟩ := hL2407.callB (Sl := ([Sm w.heap.size F sw2410 sb2411] : List Snap)) hp2408 hM2419 F (sels [0] rfl) ⟨Sm.ok, trivial⟩
            have h2417 : At k_trellisref15_Tree (Sm w.heap.size F w2418 sb2422) A2414 n2415 c2416 r2412.2.f := Rw.mono h2417 hv2421
            refine ⟨_, _, _, rfl, hL2420, ?_⟩
            refine wl_v 9 rfl (v_bin rfl rfl rfl) (gy 55 rfl rfl) rfl ?_
            refine wl_v 10 rfl (v_pick (b := false) rfl rfl) gn rfl ?_
            refine w_end 11 rfl ?_
            by_cases hp2423 : r2387.1 = r2412.1
            · have h := if_pos' hp2423 h
              refine g_false (c := trellislaw15_TreeWalks_c47) rfl _ rfl ((eqib hp2423)) ?_
              refine g_skip (c := trellislaw15_TreeWalks_c49) rfl ?_
              refine g_seq (c := trellislaw15_TreeWalks_c45) rfl ?_
              refine g_seq (c := trellislaw15_TreeWalks_c50) rfl ?_
              refine g_region (c := trellislaw15_TreeWalks_c52) rfl rfl ?_
              refine wl_v 0 rfl (v_assign rfl) gn rfl ?_
              refine w_end 1 rfl ?_
              refine g_block (c := trellislaw15_TreeWalks_c53) rfl ?_
              refine g_loop (c := trellislaw15_TreeWalks_c54) rfl ?_
              have key3 : ∀ s, Rounds (fun (s : Int × (List trellisref15_Tree) × Int × (List api_Node) × (List Int) × (List Int) × Bool × Int) o => trellislaw15_TreeWalks_b3 x6 s.1 s.2.1 s.2.2.1 s.2.2.2.1 s.2.2.2.2.1 s.2.2.2.2.2.1 s.2.2.2.2.2.2.1 s.2.2.2.2.2.2.2 o) s o1 → (fun (s : Int × (List trellisref15_Tree) × Int × (List api_Node) × (List Int) × (List Int) × Bool × Int) => ∀ (A2722 : Option Addr) (n2723 : Nat) (c2724 : Nat) (sw2725 : World) (sb2726 : List (List Nat)) (h2727 : At k_trellisref15_Tree (Sm w.heap.size F sw2725 sb2726) A2722 n2723 c2724 s.2.1) (A2730 : Option Addr) (n2731 : Nat) (c2732 : Nat) (sw2733 : World) (sb2734 : List (List Nat)) (h2735 : At k_api_Node (Sm w.heap.size F sw2733 sb2734) A2730 n2731 c2732 s.2.2.2.1) (A2737 : Option Addr) (n2738 : Nat) (c2739 : Nat) (sw2740 : World) (sb2741 : List (List Nat)) (h2742 : At (kInt .i64) (Sm w.heap.size F sw2740 sb2741) A2737 n2738 c2739 s.2.2.2.2.1) (A2744 : Option Addr) (n2745 : Nat) (c2746 : Nat) (sw2747 : World) (sb2748 : List (List Nat)) (h2749 : At (kInt .i64) (Sm w.heap.size F sw2747 sb2748) A2744 n2745 c2746 s.2.2.2.2.2.1), G (trellislaw15_TreeWalks_C w F r) [.code trellislaw15_TreeWalks_c55, .inLoop trellislaw15_TreeWalks_c55, .inBlock 2, .code trellislaw15_TreeWalks_c51] [(1, .slice A7 n8 c9), (6, .pointer (some ⟨gb56, 0, none⟩)), (7, .pointer (some ⟨gb75, 0, none⟩)), (11, .int .i64 s.1)] [.box gb75 93 [.slice A2722 n2723 c2724, .int .i64 s.2.2.1], .box gb56 36 [.slice A2730 n2731 c2732, .slice A2737 n2738 c2739, .slice A2744 n2745 c2746, .bool s.2.2.2.2.2.2.1, .int .i64 s.2.2.2.2.2.2.2]] [Sm w.heap.size F sw2725 sb2726, Sm w.heap.size F sw2733 sb2734, Sm w.heap.size F sw2740 sb2741, Sm w.heap.size F sw2747 sb2748, Sm w.heap.size F w2418 sb2422, Sm w.heap.size F sw2410 sb2411, Sm w.heap.size F w2401 sb2405, Sm w.heap.size F w2338 sb2342, Sm w.heap.size F w2314 sb2318, Sm w.heap.size F sw132 sb133, Sm w.heap.size F sw140 sb141, Sm w.heap.size F sw147 sb148, Sm w.heap.size F sw154 sb155, Sm w.heap.size F w70 sb74, Sm w.heap.size F w51 sb55, Sm w.heap.size F w [], St w []]) s := by
                intro s hs
                refine Rounds.ind (mot := (fun (s : Int × (List trellisref15_Tree) × Int × (List api_Node) × (List Int) × (List Int) × Bool × Int) => ∀ (A2722 : Option Addr) (n2723 : Nat) (c2724 : Nat) (sw2725 : World) (sb2726 : List (List Nat)) (h2727 : At k_trellisref15_Tree (Sm w.heap.size F sw2725 sb2726) A2722 n2723 c2724 s.2.1) (A2730 : Option Addr) (n2731 : Nat) (c2732 : Nat) (sw2733 : World) (sb2734 : List (List Nat)) (h2735 : At k_api_Node (Sm w.heap.size F sw2733 sb2734) A2730 n2731 c2732 s.2.2.2.1) (A2737 : Option Addr) (n2738 : Nat) (c2739 : Nat) (sw2740 : World) (sb2741 : List (List Nat)) (h2742 : At (kInt .i64) (Sm w.heap.size F sw2740 sb2741) A2737 n2738 c2739 s.2.2.2.2.1) (A2744 : Option Addr) (n2745 : Nat) (c2746 : Nat) (sw2747 : World) (sb2748 : List (List Nat)) (h2749 : At (kInt .i64) (Sm w.heap.size F sw2747 sb2748) A2744 n2745 c2746 s.2.2.2.2.2.1), G (trellislaw15_TreeWalks_C w F r) [.code trellislaw15_TreeWalks_c55, .inLoop trellislaw15_TreeWalks_c55, .inBlock 2, .code trellislaw15_TreeWalks_c51] [(1, .slice A7 n8 c9), (6, .pointer (some ⟨gb56, 0, none⟩)), (7, .pointer (some ⟨gb75, 0, none⟩)), (11, .int .i64 s.1)] [.box gb75 93 [.slice A2722 n2723 c2724, .int .i64 s.2.2.1], .box gb56 36 [.slice A2730 n2731 c2732, .slice A2737 n2738 c2739, .slice A2744 n2745 c2746, .bool s.2.2.2.2.2.2.1, .int .i64 s.2.2.2.2.2.2.2]] [Sm w.heap.size F sw2725 sb2726, Sm w.heap.size F sw2733 sb2734, Sm w.heap.size F sw2740 sb2741, Sm w.heap.size F sw2747 sb2748, Sm w.heap.size F w2418 sb2422, Sm w.heap.size F sw2410 sb2411, Sm w.heap.size F w2401 sb2405, Sm w.heap.size F w2338 sb2342, Sm w.heap.size F w2314 sb2318, Sm w.heap.size F sw132 sb133, Sm w.heap.size F sw140 sb141, Sm w.heap.size F sw147 sb148, Sm w.heap.size F sw154 sb155, Sm w.heap.size F w70 sb74, Sm w.heap.size F w51 sb55, Sm w.heap.size F w [], St w []])) ?_ hs
                clear hs s
                intro s o2 h hO2
                obtain ⟨x2720, x2721, x2728, x2729, x2736, x2743, x2750, x2751⟩ := s
                show ∀ (A2722 : Option Addr) (n2723 : Nat) (c2724 : Nat) (sw2725 : World) (sb2726 : List (List Nat)) (h2727 : At k_trellisref15_Tree (Sm w.heap.size F sw2725 sb2726) A2722 n2723 c2724 x2721) (A2730 : Option Addr) (n2731 : Nat) (c2732 : Nat) (sw2733 : World) (sb2734 : List (List Nat)) (h2735 : At k_api_Node (Sm w.heap.size F sw2733 sb2734) A2730 n2731 c2732 x2729) (A2737 : Option Addr) (n2738 : Nat) (c2739 : Nat) (sw2740 : World) (sb2741 : List (List Nat)) (h2742 : At (kInt .i64) (Sm w.heap.size F sw2740 sb2741) A2737 n2738 c2739 x2736) (A2744 : Option Addr) (n2745 : Nat) (c2746 : Nat) (sw2747 : World) (sb2748 : List (List Nat)) (h2749 : At (kInt .i64) (Sm w.heap.size F sw2747 sb2748) A2744 n2745 c2746 x2743), G (trellislaw15_TreeWalks_C w F r) [.code trellislaw15_TreeWalks_c55, .inLoop trellislaw15_TreeWalks_c55, .inBlock 2, .code trellislaw15_TreeWalks_c51] [(1, .slice A7 n8 c9), (6, .pointer (some ⟨gb56, 0, none⟩)), (7, .pointer (some ⟨gb75, 0, none⟩)), (11, .int .i64 x2720)] [.box gb75 93 [.slice A2722 n2723 c2724, .int .i64 x2728], .box gb56 36 [.slice A2730 n2731 c2732, .slice A2737 n2738 c2739, .slice A2744 n2745 c2746, .bool x2750, .int .i64 x2751]] [Sm w.heap.size F sw2725 sb2726, Sm w.heap.size F sw2733 sb2734, Sm w.heap.size F sw2740 sb2741, Sm w.heap.size F sw2747 sb2748, Sm w.heap.size F w2418 sb2422, Sm w.heap.size F sw2410 sb2411, Sm w.heap.size F w2401 sb2405, Sm w.heap.size F w2338 sb2342, Sm w.heap.size F w2314 sb2318, Sm w.heap.size F sw132 sb133, Sm w.heap.size F sw140 sb141, Sm w.heap.size F sw147 sb148, Sm w.heap.size F sw154 sb155, Sm w.heap.size F w70 sb74, Sm w.heap.size F w51 sb55, Sm w.heap.size F w [], St w []]
                intro A2722 n2723 c2724 sw2725 sb2726 h2727 A2730 n2731 c2732 sw2733 sb2734 h2735 A2737 n2738 c2739 sw2740 sb2741 h2742 A2744 n2745 c2746 sw2747 sb2748 h2749
                have h : trellislaw15_TreeWalks_b3 x6 x2720 x2721 x2728 x2729 x2736 x2743 x2750 x2751 o2 := h
                unfold trellislaw15_TreeWalks_b3 at h
                refine g_seq (c := trellislaw15_TreeWalks_c55) rfl ?_
                refine g_seq (c := trellislaw15_TreeWalks_c56) rfl ?_
                refine g_region (c := trellislaw15_TreeWalks_c58) rfl rfl ?_
                refine wl_v 0 rfl (v_move rfl) gn rfl ?_
                refine wl_v 1 rfl (v_move rfl) gn rfl ?_
                refine wl_v 2 rfl (v_lenQ un_23 rfl h10.hq) gn rfl ?_
                refine wl_v 3 rfl (v_bin rfl rfl rfl) gn rfl ?_
                refine w_end 4 rfl ?_
                by_cases hp3047 : x2720 < (x6.length : Int)
                · have h := if_pos' hp3047 h
                  refine g_true (c := trellislaw15_TreeWalks_c59) rfl _ rfl ((decide_eq_true hp3047)) ?_
                  refine g_skip (c := trellislaw15_TreeWalks_c60) rfl ?_
                  refine g_seq (c := trellislaw15_TreeWalks_c57) rfl ?_
                  refine g_block (c := trellislaw15_TreeWalks_c62) rfl ?_
                  refine g_seq (c := trellislaw15_TreeWalks_c64) rfl ?_
                  refine g_region (c := trellislaw15_TreeWalks_c65) rfl rfl ?_
                  refine wl_v 0 rfl (v_assign rfl) gn rfl ?_
                  refine w_end 1 rfl ?_
                  refine g_seq (c := trellislaw15_TreeWalks_c66) rfl ?_
                  refine g_seq (c := trellislaw15_TreeWalks_c67) rfl ?_
                  refine g_region (c := trellislaw15_TreeWalks_c69) rfl rfl ?_
                  refine wl_v 0 rfl (v_move rfl) gn rfl ?_
                  refine wl_v 1 rfl (v_move rfl) gn rfl ?_
                  obtain ⟨hb3048, h⟩ := h
                  have hr3049 := Rw.readF (s := St w []) (hl := (hlI .i64)) (h1 := (hone_int .i64)) h10 hb3048
                  refine wl_v 2 rfl (v_idxR (s := St w []) slE_23 rfl rfl h10 hb3048) gn rfl ?_
                  refine wl_v 3 rfl (v_ldA1 (kk := (x2720 : Int).toNat * 1) (j := 0) (St w []) ld_3 rfl hr3049 rfl (me 16 rfl)) gn rfl ?_
                  refine w_end 4 rfl ?_
                  refine g_block (c := trellislaw15_TreeWalks_c70) rfl ?_
                  refine g_seq (c := trellislaw15_TreeWalks_c71) rfl ?_
                  refine g_region (c := trellislaw15_TreeWalks_c72) rfl rfl ?_
                  refine wl_v 0 rfl (v_bin rfl rfl rfl) gn rfl ?_
                  refine wl_v 1 rfl (v_assign rfl) gn rfl ?_
                  refine w_end 2 rfl ?_
                  have j4 : ∀ (x3162 : Bool) (x3163 : List trellisref15_Tree) (x3170 : Int) (x3171 : List api_Node) (x3178 : List Int) (x3185 : List Int) (x3192 : Bool) (x3193 : Int) (h : trellislaw15_TreeWalks_j4 x2720 x3162 x3163 x3170 x3171 x3178 x3185 x3192 x3193 o2) (A3164 : Option Addr) (n3165 : Nat) (c3166 : Nat) (sw3167 : World) (sb3168 : List (List Nat)) (h3169 : At k_trellisref15_Tree (Sm w.heap.size F sw3167 sb3168) A3164 n3165 c3166 x3163) (A3172 : Option Addr) (n3173 : Nat) (c3174 : Nat) (sw3175 : World) (sb3176 : List (List Nat)) (h3177 : At k_api_Node (Sm w.heap.size F sw3175 sb3176) A3172 n3173 c3174 x3171) (A3179 : Option Addr) (n3180 : Nat) (c3181 : Nat) (sw3182 : World) (sb3183 : List (List Nat)) (h3184 : At (kInt .i64) (Sm w.heap.size F sw3182 sb3183) A3179 n3180 c3181 x3178) (A3186 : Option Addr) (n3187 : Nat) (c3188 : Nat) (sw3189 : World) (sb3190 : List (List Nat)) (h3191 : At (kInt .i64) (Sm w.heap.size F sw3189 sb3190) A3186 n3187 c3188 x3185), G (trellislaw15_TreeWalks_C w F r) [.inBlock 4, .code trellislaw15_TreeWalks_c68, .inBlock 3, .code trellislaw15_TreeWalks_c63, .inLoop trellislaw15_TreeWalks_c55, .inBlock 2, .code trellislaw15_TreeWalks_c51] [(1, .slice A7 n8 c9), (6, .pointer (some ⟨gb56, 0, none⟩)), (7, .pointer (some ⟨gb75, 0, none⟩)), (11, .int .i64 x2720), (12, .bool x3162)] [.box gb75 93 [.slice A3164 n3165 c3166, .int .i64 x3170], .box gb56 36 [.slice A3172 n3173 c3174, .slice A3179 n3180 c3181, .slice A3186 n3187 c3188, .bool x3192, .int .i64 x3193]] [Sm w.heap.size F sw3167 sb3168, Sm w.heap.size F sw3175 sb3176, Sm w.heap.size F sw3182 sb3183, Sm w.heap.size F sw3189 sb3190, Sm w.heap.size F sw2725 sb2726, Sm w.heap.size F sw2733 sb2734, Sm w.heap.size F sw2740 sb2741, Sm w.heap.size F sw2747 sb2748, Sm w.heap.size F w2418 sb2422, Sm w.heap.size F sw2410 sb2411, Sm w.heap.size F w2401 sb2405, Sm w.heap.size F w2338 sb2342, Sm w.heap.size F w2314 sb2318, Sm w.heap.size F sw132 sb133, Sm w.heap.size F sw140 sb141, Sm w.heap.size F sw147 sb148, Sm w.heap.size F sw154 sb155, Sm w.heap.size F w70 sb74, Sm w.heap.size F w51 sb55, Sm w.heap.size F w [], St w []] := by
                    intro x3162 x3163 x3170 x3171 x3178 x3185 x3192 x3193 h A3164 n3165 c3166 sw3167 sb3168 h3169 A3172 n3173 c3174 sw3175 sb3176 h3177 A3179 n3180 c3181 sw3182 sb3183 h3184 A3186 n3187 c3188 sw3189 sb3190 h3191
                    unfold trellislaw15_TreeWalks_j4 at h
                    refine g_inBlock ?_
                    refine g_seq (c := trellislaw15_TreeWalks_c68) rfl ?_
                    refine g_region (c := trellislaw15_TreeWalks_c84) rfl rfl ?_
                    refine wl_v 0 rfl (v_move rfl) gn rfl ?_
                    refine wl_v 1 rfl (v_not rfl) gn rfl ?_
                    refine wl_v 2 rfl (v_move rfl) gn rfl ?_
                    by_cases hp3194 : x3162 = true
                    · have h := if_pos' hp3194 h
                      refine w_bool 97 rfl ((nf hp3194)) ?_
                      refine wl_v 3 rfl (v_move rfl) (gy 97 rfl rfl) rfl ?_
                      refine wl_v 4 rfl (v_nilCheck rfl) (gy 97 rfl rfl) rfl ?_
                      refine wl_v 5 rfl (v_fldB fo_36_0 rfl) (gy 97 rfl rfl) rfl ?_
                      obtain ⟨r3198, hv3199, h⟩ := h
                      refine wl_s 6 rfl (s_call [.pointer (some ⟨gb56, 0, none⟩)] rfl Try.func14 rfl rfl rfl fun w3195 hL3196 => ?_) (gy 97 rfl rfl)
                      have hp3197 : List.Perm ([.box gb75 93 [.slice A3164 n3165 c3166, .int .i64 x3170], .box gb56 36 [.slice A3172 n3173 c3174, .slice A3179 n3180 c3181, .slice A3186 n3187 c3188, .bool x3192, .int .i64 x3193]] : List Ent) (([.box gb56 36 [.slice A3172 n3173 c3174, .slice A3179 n3180 c3181, .slice A3186 n3187 c3188, .bool x3192, .int .i64 x3193]] : List Ent) ++ ([.box gb75 93 [.slice A3164 n3165 c3166, .int .i64 x3170]] : List Ent)) := perm_of_idx [1] [0] rfl rfl (by kernel_rfl)
                      refine Calls.mono (tree_stand_Place_calls w3195 (Fl ([Sm w.heap.size F sw3175 sb3176, Sm w.heap.size F sw3182 sb3183, Sm w.heap.size F sw3189 sb3190] : List Snap)) (⟨(⟨x3171, x3178, x3185, x3192⟩ : tree_forest), x3193⟩ : tree_stand) gb56 36 A3172 n3173 c3174 A3179 n3180 c3181 A3186 n3187 c3188 (Rw.mono h3177 (hL3196.toFl (me 1 rfl) (me 0 rfl))) (Rw.mono h3184 (hL3196.toFl (me 2 rfl) (me 1 rfl))) (Rw.mono h3191 (hL3196.toFl (me 3 rfl) (me 2 rfl))) (hL3196.hFl (Sl := ([Sm w.heap.size F sw3175 sb3176, Sm w.heap.size F sw3182 sb3183, Sm w.heap.size F sw3189 sb3190] : List Snap)) hp3197 (sels [1, 2, 3] rfl)) (hL3196.into hp3197 (Fl ([Sm w.heap.size F sw3175 sb3176, Sm w.heap.size F sw3182 sb3183, Sm w.heap.size F sw3189 sb3190] : List Snap))) r3198 hv3199) ?_
                      rintro _ w3212 ⟨A3200, n3201, c3202, A3204, n3205, c3206, A3208, n3209, c3210, rfl, hM3213, h3203, h3207, h3211⟩
                      obtain ⟨sb3216, hL3214, hv3215⟩ := hL3196.callB (Sl := ([Sm w.heap.size F sw3175 sb3176, Sm w.heap.size F sw3182 sb3183, Sm w.heap.size F sw3189 sb3190] : List Snap)) hp3197 hM3213 F (sels [1, 2, 3] rfl) ⟨Sm.ok, Sm.ok, Sm.ok, trivial⟩
                      have h3203 : At k_api_Node (Sm w.heap.size F w3212 sb3216) A3200 n3201 c3202 r3198.2.forest.nodes := Rw.mono h3203 hv3215
                      have h3207 : At (kInt .i64) (Sm w.heap.size F w3212 sb3216) A3204 n3205 c3206 r3198.2.forest.parent := Rw.mono h3207 hv3215
                      have h3211 : At (kInt .i64) (Sm w.heap.size F w3212 sb3216) A3208 n3209 c3210 r3198.2.forest.end_ := Rw.mono h3211 hv3215
                      refine ⟨_, _, _, rfl, hL3214, ?_⟩
                      refine wl_v 7 rfl (v_move rfl) (gy 97 rfl rfl) rfl ?_
                      obtain ⟨r3220, hv3221, h⟩ := h
                      refine wl_s 8 rfl (s_call [.pointer (some ⟨gb75, 0, none⟩)] rfl Try.func15 rfl rfl rfl fun w3217 hL3218 => ?_) (gy 97 rfl rfl)
                      have hp3219 : List.Perm ([.box gb56 36 [.slice A3200 n3201 c3202, .slice A3204 n3205 c3206, .slice A3208 n3209 c3210, .bool r3198.2.forest.ok, .int .i64 r3198.2.at_], .box gb75 93 [.slice A3164 n3165 c3166, .int .i64 x3170]] : List Ent) (([.box gb75 93 [.slice A3164 n3165 c3166, .int .i64 x3170]] : List Ent) ++ ([.box gb56 36 [.slice A3200 n3201 c3202, .slice A3204 n3205 c3206, .slice A3208 n3209 c3210, .bool r3198.2.forest.ok, .int .i64 r3198.2.at_]] : List Ent)) := perm_of_idx [1] [0] rfl rfl (by kernel_rfl)
                      refine Calls.mono (trellisref15_Model_Place_calls w3217 (Fl ([Sm w.heap.size F sw3167 sb3168] : List Snap)) (⟨x3163, x3170⟩ : trellisref15_Model) gb75 93 A3164 n3165 c3166 (Rw.mono h3169 (hL3218.toFl (me 1 rfl) (me 0 rfl))) (hL3218.hFl (Sl := ([Sm w.heap.size F sw3167 sb3168] : List Snap)) hp3219 (sels [1] rfl)) (hL3218.into hp3219 (Fl ([Sm w.heap.size F sw3167 sb3168] : List Snap))) r3220 hv3221) ?_
                      rintro _ w3226 ⟨A3222, n3223, c3224, rfl, hM3227, h3225⟩
                      obtain ⟨sb3230, hL3228, hv3229⟩ := hL3218.callB (Sl := ([Sm w.heap.size F sw3167 sb3168] : List Snap)) hp3219 hM3227 F (sels [1] rfl) ⟨Sm.ok, trivial⟩
                      have h3225 : At k_trellisref15_Tree (Sm w.heap.size F w3226 sb3230) A3222 n3223 c3224 r3220.2.f := Rw.mono h3225 hv3229
                      refine ⟨_, _, _, rfl, hL3228, ?_⟩
                      refine wl_v 9 rfl (v_bin rfl rfl rfl) (gy 97 rfl rfl) rfl ?_
                      refine wl_v 10 rfl (v_pick (b := false) rfl rfl) gn rfl ?_
                      refine w_end 11 rfl ?_
                      by_cases hp3231 : r3198.1 = r3220.1
                      · have h := if_pos' hp3231 h
                        refine g_false (c := trellislaw15_TreeWalks_c85) rfl _ rfl ((eqib hp3231)) ?_
                        refine g_skip (c := trellislaw15_TreeWalks_c87) rfl ?_
                        refine g_inBlock ?_
                        refine g_region (c := trellislaw15_TreeWalks_c63) rfl rfl ?_
                        refine wl_v 0 rfl (v_move rfl) gn rfl ?_
                        refine wl_v 1 rfl (v_bin rfl rfl rfl) gn rfl ?_
                        refine wl_v 2 rfl (v_assign rfl) gn rfl ?_
                        refine w_end 3 rfl ?_
                        refine g_inLoop ?_
                        have ih := Out.inl hO2 h
                        exact g_go [0, 1, 1, 1, 10, 11, 12, 13, 14, 15, 16, 17, 18, 19, 20, 21, 22] (ih A3222 n3223 c3224 w3226 sb3230 h3225 A3200 n3201 c3202 w3212 sb3216 h3203 A3204 n3205 c3206 w3212 sb3216 h3207 A3208 n3209 c3210 w3212 sb3216 h3211) ⟨rfl, rfl, rfl, rfl, trivial⟩ (.cons_cons _ (.cons_cons _ (.slnil))) rfl
                      · have h := if_neg' hp3231 h
                        refine g_true (c := trellislaw15_TreeWalks_c85) rfl _ rfl ((neib hp3231)) ?_
                        refine g_seq (c := trellislaw15_TreeWalks_c86) rfl ?_
                        refine g_region (c := trellislaw15_TreeWalks_c88) rfl rfl ?_
                        refine wl_v 0 rfl (v_assign rfl) gn rfl ?_
                        refine w_end 1 rfl ?_
                        have h := Out.inr hO2 h
                        have h := Out.inr hO1 h
                        refine g_retR (c := trellislaw15_TreeWalks_c89) [.bool false] rfl Try.func3 rfl (.tmp rfl (.nil)) fun wr hLr => ?_
                        have hMr : B.Loc w wr [] [St w []] := hLr.pick (rest := [.box gb75 93 [.slice A3222 n3223 c3224, .int .i64 r3220.2.at_], .box gb56 36 [.slice A3200 n3201 c3202, .slice A3204 n3205 c3206, .slice A3208 n3209 c3210, .bool r3198.2.forest.ok, .int .i64 r3198.2.at_]]) (perm_of_idx [] [0, 1] rfl rfl (by kernel_rfl)) (sels [22] rfl)
                        have hMi : ∀ e ∈ ([] : List Ent), e ∈ ([.box gb75 93 [.slice A3222 n3223 c3224, .int .i64 r3220.2.at_], .box gb56 36 [.slice A3200 n3201 c3202, .slice A3204 n3205 c3206, .slice A3208 n3209 c3210, .bool r3198.2.forest.ok, .int .i64 r3198.2.at_]] : List Ent) := sels [] rfl
                        show trellislaw15_TreeWalks_R w F  r (.returned (packV [.bool false])) wr
                        rw [h]
                        exact ⟨rfl, hMr⟩
                    · have h := if_neg' hp3194 h
                      refine w_bool 97 rfl ((nt (bf hp3194))) ?_
                      refine wl_pass 3 rfl (ps 97 rfl rfl rfl) ?_
                      refine wl_pass 4 rfl (ps 97 rfl rfl rfl) ?_
                      refine wl_pass 5 rfl (ps 97 rfl rfl rfl) ?_
                      refine wl_pass 6 rfl (ps 97 rfl rfl rfl) ?_
                      refine wl_pass 7 rfl (ps 97 rfl rfl rfl) ?_
                      refine wl_pass 8 rfl (ps 97 rfl rfl rfl) ?_
                      refine wl_pass 9 rfl (ps 97 rfl rfl rfl) ?_
                      refine wl_v 10 rfl (v_pick (b := true) rfl rfl) gn rfl ?_
                      refine w_end 11 rfl ?_
                      refine g_true (c := trellislaw15_TreeWalks_c85) rfl _ rfl (rfl) ?_
                      refine g_seq (c := trellislaw15_TreeWalks_c86) rfl ?_
                      refine g_region (c := trellislaw15_TreeWalks_c88) rfl rfl ?_
                      refine wl_v 0 rfl (v_assign rfl) gn rfl ?_
                      refine w_end 1 rfl ?_
                      have h := Out.inr hO2 h
                      have h := Out.inr hO1 h
                      refine g_retR (c := trellislaw15_TreeWalks_c89) [.bool false] rfl Try.func3 rfl (.tmp rfl (.nil)) fun wr hLr => ?_
                      have hMr : B.Loc w wr [] [St w []] := hLr.pick (rest := [.box gb75 93 [.slice A3164 n3165 c3166, .int .i64 x3170], .box gb56 36 [.slice A3172 n3173 c3174, .slice A3179 n3180 c3181, .slice A3186 n3187 c3188, .bool x3192, .int .i64 x3193]]) (perm_of_idx [] [0, 1] rfl rfl (by kernel_rfl)) (sels [20] rfl)
                      have hMi : ∀ e ∈ ([] : List Ent), e ∈ ([.box gb75 93 [.slice A3164 n3165 c3166, .int .i64 x3170], .box gb56 36 [.slice A3172 n3173 c3174, .slice A3179 n3180 c3181, .slice A3186 n3187 c3188, .bool x3192, .int .i64 x3193]] : List Ent) := sels [] rfl
                      show trellislaw15_TreeWalks_R w F  r (.returned (packV [.bool false])) wr
                      rw [h]
                      exact ⟨rfl, hMr⟩
                  by_cases hp3050 : ix x6 x2720 = 1
                  · have h := if_pos' hp3050 h
                    refine g_true (c := trellislaw15_TreeWalks_c73) rfl _ rfl ((eqi hp3050)) ?_
                    refine g_region (c := trellislaw15_TreeWalks_c74) rfl rfl ?_
                    refine wl_v 0 rfl (v_move rfl) gn rfl ?_
                    obtain ⟨r3235, hv3236, h⟩ := h
                    refine wl_s 1 rfl (s_call [.pointer (some ⟨gb56, 0, none⟩)] rfl Try.func18 rfl rfl rfl fun w3232 hL3233 => ?_) gn
                    have hp3234 : List.Perm ([.box gb75 93 [.slice A2722 n2723 c2724, .int .i64 x2728], .box gb56 36 [.slice A2730 n2731 c2732, .slice A2737 n2738 c2739, .slice A2744 n2745 c2746, .bool x2750, .int .i64 x2751]] : List Ent) (([.box gb56 36 [.slice A2730 n2731 c2732, .slice A2737 n2738 c2739, .slice A2744 n2745 c2746, .bool x2750, .int .i64 x2751]] : List Ent) ++ ([.box gb75 93 [.slice A2722 n2723 c2724, .int .i64 x2728]] : List Ent)) := perm_of_idx [1] [0] rfl rfl (by kernel_rfl)
                    refine Calls.mono (tree_Cursor_Down_calls w3232 (Fl ([Sm w.heap.size F sw2733 sb2734, Sm w.heap.size F sw2740 sb2741, Sm w.heap.size F sw2747 sb2748] : List Snap)) (⟨(⟨(⟨x2729, x2736, x2743, x2750⟩ : tree_forest), x2751⟩ : tree_stand)⟩ : tree_Cursor) gb56 36 A2730 n2731 c2732 A2737 n2738 c2739 A2744 n2745 c2746 (Rw.mono h2735 (hL3233.toFl (me 1 rfl) (me 0 rfl))) (Rw.mono h2742 (hL3233.toFl (me 2 rfl) (me 1 rfl))) (Rw.mono h2749 (hL3233.toFl (me 3 rfl) (me 2 rfl))) (hL3233.hFl (Sl := ([Sm w.heap.size F sw2733 sb2734, Sm w.heap.size F sw2740 sb2741, Sm w.heap.size F sw2747 sb2748] : List Snap)) hp3234 (sels [1, 2, 3] rfl)) (hL3233.into hp3234 (Fl ([Sm w.heap.size F sw2733 sb2734, Sm w.heap.size F sw2740 sb2741, Sm w.heap.size F sw2747 sb2748] : List Snap))) r3235 hv3236) ?_
                    rintro _ w3249 ⟨A3237, n3238, c3239, A3241, n3242, c3243, A3245, n3246, c3247, rfl, hM3250, h3240, h3244, h3248⟩
                    obtain ⟨sb3253, hL3251, hv3252⟩ := hL3233.callB (Sl := ([Sm w.heap.size F sw2733 sb2734, Sm w.heap.size F sw2740 sb2741, Sm w.heap.size F sw2747 sb2748] : List Snap)) hp3234 hM3250 F (sels [1, 2, 3] rfl) ⟨Sm.ok, Sm.ok, Sm.ok, trivial⟩
                    have h3240 : At k_api_Node (Sm w.heap.size F w3249 sb3253) A3237 n3238 c3239 r3235.2.stand.forest.nodes := Rw.mono h3240 hv3252
                    have h3244 : At (kInt .i64) (Sm w.heap.size F w3249 sb3253) A3241 n3242 c3243 r3235.2.stand.forest.parent := Rw.mono h3244 hv3252
                    have h3248 : At (kInt .i64) (Sm w.heap.size F w3249 sb3253) A3245 n3246 c3247 r3235.2.stand.forest.end_ := Rw.mono h3248 hv3252
                    refine ⟨_, _, _, rfl, hL3251, ?_⟩
                    refine wl_v 2 rfl (v_move rfl) gn rfl ?_
                    obtain ⟨r3257, hv3258, h⟩ := h
                    refine wl_s 3 rfl (s_call [.pointer (some ⟨gb75, 0, none⟩)] rfl Try.func19 rfl rfl rfl fun w3254 hL3255 => ?_) gn
                    have hp3256 : List.Perm ([.box gb56 36 [.slice A3237 n3238 c3239, .slice A3241 n3242 c3243, .slice A3245 n3246 c3247, .bool r3235.2.stand.forest.ok, .int .i64 r3235.2.stand.at_], .box gb75 93 [.slice A2722 n2723 c2724, .int .i64 x2728]] : List Ent) (([.box gb75 93 [.slice A2722 n2723 c2724, .int .i64 x2728]] : List Ent) ++ ([.box gb56 36 [.slice A3237 n3238 c3239, .slice A3241 n3242 c3243, .slice A3245 n3246 c3247, .bool r3235.2.stand.forest.ok, .int .i64 r3235.2.stand.at_]] : List Ent)) := perm_of_idx [1] [0] rfl rfl (by kernel_rfl)
                    refine Calls.mono (trellisref15_Model_Down_calls w3254 (Fl ([Sm w.heap.size F sw2725 sb2726] : List Snap)) (⟨x2721, x2728⟩ : trellisref15_Model) gb75 93 A2722 n2723 c2724 (Rw.mono h2727 (hL3255.toFl (me 1 rfl) (me 0 rfl))) (hL3255.hFl (Sl := ([Sm w.heap.size F sw2725 sb2726] : List Snap)) hp3256 (sels [1] rfl)) (hL3255.into hp3256 (Fl ([Sm w.heap.size F sw2725 sb2726] : List Snap))) r3257 hv3258) ?_
                    rintro _ w3263 ⟨A3259, n3260, c3261, rfl, hM3264, h3262⟩
                    obtain ⟨sb3267, hL3265, hv3266⟩ := hL3255.callB (Sl := ([Sm w.heap.size F sw2725 sb2726] : List Snap)) hp3256 hM3264 F (sels [1] rfl) ⟨Sm.ok, trivial⟩
                    have h3262 : At k_trellisref15_Tree (Sm w.heap.size F w3263 sb3267) A3259 n3260 c3261 r3257.2.f := Rw.mono h3262 hv3266
                    refine ⟨_, _, _, rfl, hL3265, ?_⟩
                    refine wl_v 4 rfl (v_eqB un_4 rfl rfl) gn rfl ?_
                    refine wl_v 5 rfl (v_assign rfl) gn rfl ?_
                    refine w_end 6 rfl ?_
                    exact g_go [0, 1, 1, 1, 2, 3, 4, 5, 6, 7, 8, 9, 10, 11, 12, 13, 14, 15, 16, 17, 18] (j4 (r3235.1 == r3257.1) r3257.2.f r3257.2.at_ r3235.2.stand.forest.nodes r3235.2.stand.forest.parent r3235.2.stand.forest.end_ r3235.2.stand.forest.ok r3235.2.stand.at_ h A3259 n3260 c3261 w3263 sb3267 h3262 A3237 n3238 c3239 w3249 sb3253 h3240 A3241 n3242 c3243 w3249 sb3253 h3244 A3245 n3246 c3247 w3249 sb3253 h3248) ⟨rfl, rfl, rfl, rfl, rfl, trivial⟩ (.cons_cons _ (.cons_cons _ (.slnil))) rfl
                  · have h := if_neg' hp3050 h
                    refine g_false (c := trellislaw15_TreeWalks_c73) rfl _ rfl ((nei hp3050)) ?_
                    refine g_seq (c := trellislaw15_TreeWalks_c75) rfl ?_
                    refine g_region (c := trellislaw15_TreeWalks_c76) rfl rfl ?_
                    refine wl_v 0 rfl (v_bin rfl rfl rfl) gn rfl ?_
                    refine wl_v 1 rfl (v_assign rfl) gn rfl ?_
                    refine w_end 2 rfl ?_
                    by_cases hp3268 : ix x6 x2720 = 2
                    · have h := if_pos' hp3268 h
                      refine g_true (c := trellislaw15_TreeWalks_c77) rfl _ rfl ((eqi hp3268)) ?_
                      refine g_region (c := trellislaw15_TreeWalks_c78) rfl rfl ?_
                      refine wl_v 0 rfl (v_move rfl) gn rfl ?_
                      obtain ⟨r3272, hv3273, h⟩ := h
                      refine wl_s 1 rfl (s_call [.pointer (some ⟨gb56, 0, none⟩)] rfl Try.func20 rfl rfl rfl fun w3269 hL3270 => ?_) gn
                      have hp3271 : List.Perm ([.box gb75 93 [.slice A2722 n2723 c2724, .int .i64 x2728], .box gb56 36 [.slice A2730 n2731 c2732, .slice A2737 n2738 c2739, .slice A2744 n2745 c2746, .bool x2750, .int .i64 x2751]] : List Ent) (([.box gb56 36 [.slice A2730 n2731 c2732, .slice A2737 n2738 c2739, .slice A2744 n2745 c2746, .bool x2750, .int .i64 x2751]] : List Ent) ++ ([.box gb75 93 [.slice A2722 n2723 c2724, .int .i64 x2728]] : List Ent)) := perm_of_idx [1] [0] rfl rfl (by kernel_rfl)
                      refine Calls.mono (tree_Cursor_Next_calls w3269 (Fl ([Sm w.heap.size F sw2733 sb2734, Sm w.heap.size F sw2740 sb2741, Sm w.heap.size F sw2747 sb2748] : List Snap)) (⟨(⟨(⟨x2729, x2736, x2743, x2750⟩ : tree_forest), x2751⟩ : tree_stand)⟩ : tree_Cursor) gb56 36 A2730 n2731 c2732 A2737 n2738 c2739 A2744 n2745 c2746 (Rw.mono h2735 (hL3270.toFl (me 1 rfl) (me 0 rfl))) (Rw.mono h2742 (hL3270.toFl (me 2 rfl) (me 1 rfl))) (Rw.mono h2749 (hL3270.toFl (me 3 rfl) (me 2 rfl))) (hL3270.hFl (Sl := ([Sm w.heap.size F sw2733 sb2734, Sm w.heap.size F sw2740 sb2741, Sm w.heap.size F sw2747 sb2748] : List Snap)) hp3271 (sels [1, 2, 3] rfl)) (hL3270.into hp3271 (Fl ([Sm w.heap.size F sw2733 sb2734, Sm w.heap.size F sw2740 sb2741, Sm w.heap.size F sw2747 sb2748] : List Snap))) r3272 hv3273) ?_
                      rintro _ w3286 ⟨A3274, n3275, c3276, A3278, n3279, c3280, A3282, n3283, c3284, rfl, hM3287, h3277, h3281, h3285⟩
                      obtain ⟨sb3290, hL3288, hv3289⟩ := hL3270.callB (Sl := ([Sm w.heap.size F sw2733 sb2734, Sm w.heap.size F sw2740 sb2741, Sm w.heap.size F sw2747 sb2748] : List Snap)) hp3271 hM3287 F (sels [1, 2, 3] rfl) ⟨Sm.ok, Sm.ok, Sm.ok, trivial⟩
                      have h3277 : At k_api_Node (Sm w.heap.size F w3286 sb3290) A3274 n3275 c3276 r3272.2.stand.forest.nodes := Rw.mono h3277 hv3289
                      have h3281 : At (kInt .i64) (Sm w.heap.size F w3286 sb3290) A3278 n3279 c3280 r3272.2.stand.forest.parent := Rw.mono h3281 hv3289
                      have h3285 : At (kInt .i64) (Sm w.heap.size F w3286 sb3290) A3282 n3283 c3284 r3272.2.stand.forest.end_ := Rw.mono h3285 hv3289
                      refine ⟨_, _, _, rfl, hL3288, ?_⟩
                      refine wl_v 2 rfl (v_move rfl) gn rfl ?_
                      obtain ⟨r3294, hv3295, h⟩ := h
                      refine wl_s 3 rfl (s_call [.pointer (some ⟨gb75, 0, none⟩)] rfl Try.func21 rfl rfl rfl fun w3291 hL3292 => ?_) gn
                      have hp3293 : List.Perm ([.box gb56 36 [.slice A3274 n3275 c3276, .slice A3278 n3279 c3280, .slice A3282 n3283 c3284, .bool r3272.2.stand.forest.ok, .int .i64 r3272.2.stand.at_], .box gb75 93 [.slice A2722 n2723 c2724, .int .i64 x2728]] : List Ent) (([.box gb75 93 [.slice A2722 n2723 c2724, .int .i64 x2728]] : List Ent) ++ ([.box gb56 36 [.slice A3274 n3275 c3276, .slice A3278 n3279 c3280, .slice A3282 n3283 c3284, .bool r3272.2.stand.forest.ok, .int .i64 r3272.2.stand.at_]] : List Ent)) := perm_of_idx [1] [0] rfl rfl (by kernel_rfl)
                      refine Calls.mono (trellisref15_Model_Next_calls w3291 (Fl ([Sm w.heap.size F sw2725 sb2726] : List Snap)) (⟨x2721, x2728⟩ : trellisref15_Model) gb75 93 A2722 n2723 c2724 (Rw.mono h2727 (hL3292.toFl (me 1 rfl) (me 0 rfl))) (hL3292.hFl (Sl := ([Sm w.heap.size F sw2725 sb2726] : List Snap)) hp3293 (sels [1] rfl)) (hL3292.into hp3293 (Fl ([Sm w.heap.size F sw2725 sb2726] : List Snap))) r3294 hv3295) ?_
                      rintro _ w3300 ⟨A3296, n3297, c3298, rfl, hM3301, h3299⟩
                      obtain ⟨sb3304, hL3302, hv3303⟩ := hL3292.callB (Sl := ([Sm w.heap.size F sw2725 sb2726] : List Snap)) hp3293 hM3301 F (sels [1] rfl) ⟨Sm.ok, trivial⟩
                      have h3299 : At k_trellisref15_Tree (Sm w.heap.size F w3300 sb3304) A3296 n3297 c3298 r3294.2.f := Rw.mono h3299 hv3303
                      refine ⟨_, _, _, rfl, hL3302, ?_⟩
                      refine wl_v 4 rfl (v_eqB un_4 rfl rfl) gn rfl ?_
                      refine wl_v 5 rfl (v_assign rfl) gn rfl ?_
                      refine w_end 6 rfl ?_
                      exact g_go [0, 1, 1, 1, 2, 3, 4, 5, 6, 7, 8, 9, 10, 11, 12, 13, 14, 15, 16, 17, 18] (j4 (r3272.1 == r3294.1) r3294.2.f r3294.2.at_ r3272.2.stand.forest.nodes r3272.2.stand.forest.parent r3272.2.stand.forest.end_ r3272.2.stand.forest.ok r3272.2.stand.at_ h A3296 n3297 c3298 w3300 sb3304 h3299 A3274 n3275 c3276 w3286 sb3290 h3277 A3278 n3279 c3280 w3286 sb3290 h3281 A3282 n3283 c3284 w3286 sb3290 h3285) ⟨rfl, rfl, rfl, rfl, rfl, trivial⟩ (.cons_cons _ (.cons_cons _ (.slnil))) rfl
                    · have h := if_neg' hp3268 h
                      refine g_false (c := trellislaw15_TreeWalks_c77) rfl _ rfl ((nei hp3268)) ?_
                      refine g_seq (c := trellislaw15_TreeWalks_c79) rfl ?_
                      refine g_region (c := trellislaw15_TreeWalks_c80) rfl rfl ?_
                      refine wl_v 0 rfl (v_bin rfl rfl rfl) gn rfl ?_
                      refine wl_v 1 rfl (v_assign rfl) gn rfl ?_
                      refine w_end 2 rfl ?_
                      by_cases hp3305 : ix x6 x2720 = 3
                      · have h := if_pos' hp3305 h
                        refine g_true (c := trellislaw15_TreeWalks_c81) rfl _ rfl ((eqi hp3305)) ?_
                        refine g_region (c := trellislaw15_TreeWalks_c82) rfl rfl ?_
                        refine wl_v 0 rfl (v_move rfl) gn rfl ?_
                        obtain ⟨r3309, hv3310, h⟩ := h
                        refine wl_s 1 rfl (s_call [.pointer (some ⟨gb56, 0, none⟩)] rfl Try.func22 rfl rfl rfl fun w3306 hL3307 => ?_) gn
                        have hp3308 : List.Perm ([.box gb75 93 [.slice A2722 n2723 c2724, .int .i64 x2728], .box gb56 36 [.slice A2730 n2731 c2732, .slice A2737 n2738 c2739, .slice A2744 n2745 c2746, .bool x2750, .int .i64 x2751]] : List Ent) (([.box gb56 36 [.slice A2730 n2731 c2732, .slice A2737 n2738 c2739, .slice A2744 n2745 c2746, .bool x2750, .int .i64 x2751]] : List Ent) ++ ([.box gb75 93 [.slice A2722 n2723 c2724, .int .i64 x2728]] : List Ent)) := perm_of_idx [1] [0] rfl rfl (by kernel_rfl)
                        refine Calls.mono (tree_Cursor_Up_calls w3306 (Fl ([Sm w.heap.size F sw2733 sb2734, Sm w.heap.size F sw2740 sb2741, Sm w.heap.size F sw2747 sb2748] : List Snap)) (⟨(⟨(⟨x2729, x2736, x2743, x2750⟩ : tree_forest), x2751⟩ : tree_stand)⟩ : tree_Cursor) gb56 36 A2730 n2731 c2732 A2737 n2738 c2739 A2744 n2745 c2746 (Rw.mono h2735 (hL3307.toFl (me 1 rfl) (me 0 rfl))) (Rw.mono h2742 (hL3307.toFl (me 2 rfl) (me 1 rfl))) (Rw.mono h2749 (hL3307.toFl (me 3 rfl) (me 2 rfl))) (hL3307.hFl (Sl := ([Sm w.heap.size F sw2733 sb2734, Sm w.heap.size F sw2740 sb2741, Sm w.heap.size F sw2747 sb2748] : List Snap)) hp3308 (sels [1, 2, 3] rfl)) (hL3307.into hp3308 (Fl ([Sm w.heap.size F sw2733 sb2734, Sm w.heap.size F sw2740 sb2741, Sm w.heap.size F sw2747 sb2748] : List Snap))) r3309 hv3310) ?_
                        rintro _ w3323 ⟨A3311, n3312, c3313, A3315, n3316, c3317, A3319, n3320, c3321, rfl, hM3324, h3314, h3318, h3322⟩
                        obtain ⟨sb3327, hL3325, hv3326⟩ := hL3307.callB (Sl := ([Sm w.heap.size F sw2733 sb2734, Sm w.heap.size F sw2740 sb2741, Sm w.heap.size F sw2747 sb2748] : List Snap)) hp3308 hM3324 F (sels [1, 2, 3] rfl) ⟨Sm.ok, Sm.ok, Sm.ok, trivial⟩
                        have h3314 : At k_api_Node (Sm w.heap.size F w3323 sb3327) A3311 n3312 c3313 r3309.2.stand.forest.nodes := Rw.mono h3314 hv3326
                        have h3318 : At (kInt .i64) (Sm w.heap.size F w3323 sb3327) A3315 n3316 c3317 r3309.2.stand.forest.parent := Rw.mono h3318 hv3326
                        have h3322 : At (kInt .i64) (Sm w.heap.size F w3323 sb3327) A3319 n3320 c3321 r3309.2.stand.forest.end_ := Rw.mono h3322 hv3326
                        refine ⟨_, _, _, rfl, hL3325, ?_⟩
                        refine wl_v 2 rfl (v_move rfl) gn rfl ?_
                        obtain ⟨r3331, hv3332, h⟩ := h
                        refine wl_s 3 rfl (s_call [.pointer (some ⟨gb75, 0, none⟩)] rfl Try.func23 rfl rfl rfl fun w3328 hL3329 => ?_) gn
                        have hp3330 : List.Perm ([.box gb56 36 [.slice A3311 n3312 c3313, .slice A3315 n3316 c3317, .slice A3319 n3320 c3321, .bool r3309.2.stand.forest.ok, .int .i64 r3309.2.stand.at_], .box gb75 93 [.slice A2722 n2723 c2724, .int .i64 x2728]] : List Ent) (([.box gb75 93 [.slice A2722 n2723 c2724, .int .i64 x2728]] : List Ent) ++ ([.box gb56 36 [.slice A3311 n3312 c3313, .slice A3315 n3316 c3317, .slice A3319 n3320 c3321, .bool r3309.2.stand.forest.ok, .int .i64 r3309.2.stand.at_]] : List Ent)) := perm_of_idx [1] [0] rfl rfl (by kernel_rfl)
                        refine Calls.mono (trellisref15_Model_Up_calls w3328 (Fl ([Sm w.heap.size F sw2725 sb2726] : List Snap)) (⟨x2721, x2728⟩ : trellisref15_Model) gb75 93 A2722 n2723 c2724 (Rw.mono h2727 (hL3329.toFl (me 1 rfl) (me 0 rfl))) (hL3329.hFl (Sl := ([Sm w.heap.size F sw2725 sb2726] : List Snap)) hp3330 (sels [1] rfl)) (hL3329.into hp3330 (Fl ([Sm w.heap.size F sw2725 sb2726] : List Snap))) r3331 hv3332) ?_
                        rintro _ w3337 ⟨A3333, n3334, c3335, rfl, hM3338, h3336⟩
                        obtain ⟨sb3341, hL3339, hv3340⟩ := hL3329.callB (Sl := ([Sm w.heap.size F sw2725 sb2726] : List Snap)) hp3330 hM3338 F (sels [1] rfl) ⟨Sm.ok, trivial⟩
                        have h3336 : At k_trellisref15_Tree (Sm w.heap.size F w3337 sb3341) A3333 n3334 c3335 r3331.2.f := Rw.mono h3336 hv3340
                        refine ⟨_, _, _, rfl, hL3339, ?_⟩
                        refine wl_v 4 rfl (v_eqB un_4 rfl rfl) gn rfl ?_
                        refine wl_v 5 rfl (v_assign rfl) gn rfl ?_
                        refine w_end 6 rfl ?_
                        exact g_go [0, 1, 1, 1, 2, 3, 4, 5, 6, 7, 8, 9, 10, 11, 12, 13, 14, 15, 16, 17, 18] (j4 (r3309.1 == r3331.1) r3331.2.f r3331.2.at_ r3309.2.stand.forest.nodes r3309.2.stand.forest.parent r3309.2.stand.forest.end_ r3309.2.stand.forest.ok r3309.2.stand.at_ h A3333 n3334 c3335 w3337 sb3341 h3336 A3311 n3312 c3313 w3323 sb3327 h3314 A3315 n3316 c3317 w3323 sb3327 h3318 A3319 n3320 c3321 w3323 sb3327 h3322) ⟨rfl, rfl, rfl, rfl, rfl, trivial⟩ (.cons_cons _ (.cons_cons _ (.slnil))) rfl
                      · have h := if_neg' hp3305 h
                        refine g_false (c := trellislaw15_TreeWalks_c81) rfl _ rfl ((nei hp3305)) ?_
                        refine g_skip (c := trellislaw15_TreeWalks_c83) rfl ?_
                        exact g_go [0, 1, 2, 3, 0, 1, 2, 3, 4, 5, 6, 7, 8, 9, 10, 11, 12, 13, 14, 15, 16] (j4 true x2721 x2728 x2729 x2736 x2743 x2750 x2751 h A2722 n2723 c2724 sw2725 sb2726 h2727 A2730 n2731 c2732 sw2733 sb2734 h2735 A2737 n2738 c2739 sw2740 sb2741 h2742 A2744 n2745 c2746 sw2747 sb2748 h2749) ⟨rfl, rfl, rfl, rfl, rfl, trivial⟩ (.cons_cons _ (.cons_cons _ (.slnil))) rfl
                · have h := if_neg' hp3047 h
                  refine g_false (c := trellislaw15_TreeWalks_c59) rfl _ rfl ((decide_eq_false hp3047)) ?_
                  refine g_exit (c := trellislaw15_TreeWalks_c61) [.code trellislaw15_TreeWalks_c51] rfl rfl ?_
                  refine g_seq (c := trellislaw15_TreeWalks_c51) rfl ?_
                  refine g_region (c := trellislaw15_TreeWalks_c90) rfl rfl ?_
                  refine wl_v 0 rfl (v_assign rfl) gn rfl ?_
                  refine w_end 1 rfl ?_
                  have h := Out.inr hO2 h
                  have h := Out.inr hO1 h
                  refine g_retR (c := trellislaw15_TreeWalks_c91) [.bool true] rfl Try.func3 rfl (.tmp rfl (.nil)) fun wr hLr => ?_
                  have hMr : B.Loc w wr [] [St w []] := hLr.pick (rest := [.box gb75 93 [.slice A2722 n2723 c2724, .int .i64 x2728], .box gb56 36 [.slice A2730 n2731 c2732, .slice A2737 n2738 c2739, .slice A2744 n2745 c2746, .bool x2750, .int .i64 x2751]]) (perm_of_idx [] [0, 1] rfl rfl (by kernel_rfl)) (sels [16] rfl)
                  have hMi : ∀ e ∈ ([] : List Ent), e ∈ ([.box gb75 93 [.slice A2722 n2723 c2724, .int .i64 x2728], .box gb56 36 [.slice A2730 n2731 c2732, .slice A2737 n2738 c2739, .slice A2744 n2745 c2746, .bool x2750, .int .i64 x2751]] : List Ent) := sels [] rfl
                  show trellislaw15_TreeWalks_R w F  r (.returned (packV [.bool true])) wr
                  rw [h]
                  exact ⟨rfl, hMr⟩
              exact g_go [5, 6, 7, 8, 0, 1, 2, 3, 4, 5, 6, 7, 8, 9, 10, 11, 12] (key3 _ h A129 n130 c131 sw132 sb133 h134 A137 n138 c139 sw140 sb141 h142 A144 n145 c146 sw147 sb148 h149 A151 n152 c153 sw154 sb155 h156) ⟨rfl, rfl, rfl, rfl, trivial⟩ (.cons _ (.cons _ (.cons _ (.cons_cons _ (.cons_cons _ (.cons _ (.slnil))))))) rfl
            · have h := if_neg' hp2423 h
              refine g_true (c := trellislaw15_TreeWalks_c47) rfl _ rfl ((neib hp2423)) ?_
              refine g_seq (c := trellislaw15_TreeWalks_c48) rfl ?_
              refine g_region (c := trellislaw15_TreeWalks_c92) rfl rfl ?_
              refine wl_v 0 rfl (v_assign rfl) gn rfl ?_
              refine w_end 1 rfl ?_
              have h := Out.inr hO1 h
              refine g_retR (c := trellislaw15_TreeWalks_c93) [.bool false] rfl Try.func3 rfl (.tmp rfl (.nil)) fun wr hLr => ?_
              have hMr : B.Loc w wr [] [St w []] := hLr.pick (rest := [.box gb2319 93 [.slice A2414 n2415 c2416, .int .i64 r2412.2.at_], .box gb2343 36 [.slice A2389 n2390 c2391, .slice A2393 n2394 c2395, .slice A2397 n2398 c2399, .bool r2387.2.forest.ok, .int .i64 r2387.2.at_], .own (.slice A2294 n2295 c2296) 39 7 n2295 (r2292.flatMap enc_api_Node), .box gb75 93 [.slice A129 n130 c131, .int .i64 x135], .box gb56 36 [.slice A137 n138 c139, .slice A144 n145 c146, .slice A151 n152 c153, .bool x157, .int .i64 x158], .own (.slice A25 n26 c27) 39 7 n26 (x1221.flatMap enc_api_Node)]) (perm_of_idx [] [0, 1, 2, 3, 4, 5] rfl rfl (by kernel_rfl)) (sels [12] rfl)
              have hMi : ∀ e ∈ ([] : List Ent), e ∈ ([.box gb2319 93 [.slice A2414 n2415 c2416, .int .i64 r2412.2.at_], .box gb2343 36 [.slice A2389 n2390 c2391, .slice A2393 n2394 c2395, .slice A2397 n2398 c2399, .bool r2387.2.forest.ok, .int .i64 r2387.2.at_], .own (.slice A2294 n2295 c2296) 39 7 n2295 (r2292.flatMap enc_api_Node), .box gb75 93 [.slice A129 n130 c131, .int .i64 x135], .box gb56 36 [.slice A137 n138 c139, .slice A144 n145 c146, .slice A151 n152 c153, .bool x157, .int .i64 x158], .own (.slice A25 n26 c27) 39 7 n26 (x1221.flatMap enc_api_Node)] : List Ent) := sels [] rfl
              show trellislaw15_TreeWalks_R w F  r (.returned (packV [.bool false])) wr
              rw [h]
              exact ⟨rfl, hMr⟩
        exact g_go [0, 1, 2, 3, 4, 5, 6, 7] (key2 _ h (Ow.weak hL21.env.size h28) hl126) ⟨rfl, rfl, rfl, rfl, rfl, trivial⟩ (.cons_cons _ (.cons_cons _ (.cons_cons _ (.slnil)))) rfl
    refine g_region (c := trellislaw15_TreeWalks_c19) rfl rfl ?_
    refine wl_v 0 rfl (v_move rfl) gn rfl ?_
    refine wl_v 1 rfl (v_eqNP un_26 rfl rfl) gn rfl ?_
    refine wl_v 2 rfl (v_move rfl) gn rfl ?_
    refine wl_v 3 rfl (v_move rfl) (gy 23 rfl rfl) rfl ?_
    refine wl_v 4 rfl (v_nilCheck rfl) (gy 23 rfl rfl) rfl ?_
    refine wl_v 5 rfl (v_fldB fo_36_0 rfl) (gy 23 rfl rfl) rfl ?_
    obtain ⟨r3345, hv3346, h⟩ := h
    refine wl_s 6 rfl (s_call [.pointer (some ⟨gb56, 0, none⟩)] rfl Try.func14 rfl rfl rfl fun w3342 hL3343 => ?_) (gy 23 rfl rfl)
    have hp3344 : List.Perm ([.box gb75 93 [.slice A63 n64 c65, .int .i64 r61.at_], .own (.slice A63 n64 c65) 96 9 n64 cs68, .box gb56 36 [.slice A39 n40 c41, .slice A43 n44 c45, .slice A47 n48 c49, .bool r37.stand.forest.ok, .int .i64 r37.stand.at_], .own (.slice A25 n26 c27) 39 7 n26 (r23.1.flatMap enc_api_Node)] : List Ent) (([.box gb56 36 [.slice A39 n40 c41, .slice A43 n44 c45, .slice A47 n48 c49, .bool r37.stand.forest.ok, .int .i64 r37.stand.at_]] : List Ent) ++ ([.box gb75 93 [.slice A63 n64 c65, .int .i64 r61.at_], .own (.slice A63 n64 c65) 96 9 n64 cs68, .own (.slice A25 n26 c27) 39 7 n26 (r23.1.flatMap enc_api_Node)] : List Ent)) := perm_of_idx [2] [0, 1, 3] rfl rfl (by kernel_rfl)
    refine Calls.mono (tree_stand_Place_calls w3342 (Fl ([Sm w.heap.size F w51 sb55] : List Snap)) r37.stand gb56 36 A39 n40 c41 A43 n44 c45 A47 n48 c49 (Rw.mono h42 (hL3343.toFl (me 1 rfl) (me 0 rfl))) (Rw.mono h46 (hL3343.toFl (me 1 rfl) (me 0 rfl))) (Rw.mono h50 (hL3343.toFl (me 1 rfl) (me 0 rfl))) (hL3343.hFl (Sl := ([Sm w.heap.size F w51 sb55] : List Snap)) hp3344 (sels [1] rfl)) (hL3343.into hp3344 (Fl ([Sm w.heap.size F w51 sb55] : List Snap))) r3345 hv3346) ?_
    rintro _ w3359 ⟨A3347, n3348, c3349, A3351, n3352, c3353, A3355, n3356, c3357, rfl, hM3360, h3350, h3354, h3358⟩
    obtain ⟨sb3363, hL3361, hv3362⟩ := hL3343.callB (Sl := ([Sm w.heap.size F w51 sb55] : List Snap)) hp3344 hM3360 F (sels [1] rfl) ⟨Sm.ok, trivial⟩
    have h3350 : At k_api_Node (Sm w.heap.size F w3359 sb3363) A3347 n3348 c3349 r3345.2.forest.nodes := Rw.mono h3350 hv3362
    have h3354 : At (kInt .i64) (Sm w.heap.size F w3359 sb3363) A3351 n3352 c3353 r3345.2.forest.parent := Rw.mono h3354 hv3362
    have h3358 : At (kInt .i64) (Sm w.heap.size F w3359 sb3363) A3355 n3356 c3357 r3345.2.forest.end_ := Rw.mono h3358 hv3362
    refine ⟨_, _, _, rfl, hL3361, ?_⟩
    refine wl_v 7 rfl (v_move rfl) (gy 23 rfl rfl) rfl ?_
    obtain ⟨r3370, hv3371, h⟩ := h
    refine w_freeze (F := F) (dk := k_trellisref15_Tree) (Sm w.heap.size F w70 sb74) 2 rfl (Ow.weak hL59.env.size h66) (me 1 rfl) Sm.ok hC69 fun sw3368 sb3369 h3367 => ?_
    refine wl_s 8 rfl (s_call [.pointer (some ⟨gb75, 0, none⟩)] rfl Try.func15 rfl rfl rfl fun w3364 hL3365 => ?_) (gy 23 rfl rfl)
    have hp3366 : List.Perm ([.box gb56 36 [.slice A3347 n3348 c3349, .slice A3351 n3352 c3353, .slice A3355 n3356 c3357, .bool r3345.2.forest.ok, .int .i64 r3345.2.at_], .box gb75 93 [.slice A63 n64 c65, .int .i64 r61.at_], .own (.slice A25 n26 c27) 39 7 n26 (r23.1.flatMap enc_api_Node)] : List Ent) (([.box gb75 93 [.slice A63 n64 c65, .int .i64 r61.at_]] : List Ent) ++ ([.box gb56 36 [.slice A3347 n3348 c3349, .slice A3351 n3352 c3353, .slice A3355 n3356 c3357, .bool r3345.2.forest.ok, .int .i64 r3345.2.at_], .own (.slice A25 n26 c27) 39 7 n26 (r23.1.flatMap enc_api_Node)] : List Ent)) := perm_of_idx [1] [0, 2] rfl rfl (by kernel_rfl)
    refine Calls.mono (trellisref15_Model_Place_calls w3364 (Fl ([Sm w.heap.size F sw3368 sb3369] : List Snap)) r61 gb75 93 A63 n64 c65 (Rw.mono h3367 (hL3365.toFl (me 0 rfl) (me 0 rfl))) (hL3365.hFl (Sl := ([Sm w.heap.size F sw3368 sb3369] : List Snap)) hp3366 (sels [0] rfl)) (hL3365.into hp3366 (Fl ([Sm w.heap.size F sw3368 sb3369] : List Snap))) r3370 hv3371) ?_
    rintro _ w3376 ⟨A3372, n3373, c3374, rfl, hM3377, h3375⟩
    obtain ⟨sb3380, hL3378, hv3379⟩ := hL3365.callB (Sl := ([Sm w.heap.size F sw3368 sb3369] : List Snap)) hp3366 hM3377 F (sels [0] rfl) ⟨Sm.ok, trivial⟩
    have h3375 : At k_trellisref15_Tree (Sm w.heap.size F w3376 sb3380) A3372 n3373 c3374 r3370.2.f := Rw.mono h3375 hv3379
    refine ⟨_, _, _, rfl, hL3378, ?_⟩
    refine wl_v 9 rfl (v_bin rfl rfl rfl) (gy 23 rfl rfl) rfl ?_
    refine wl_v 10 rfl (v_pick (b := false) rfl rfl) gn rfl ?_
    refine wl_v 11 rfl (v_move rfl) gn rfl ?_
    by_cases hp3381 : r3345.1 = r3370.1
    · have h := if_pos' hp3381 h
      refine w_bool 32 rfl ((eqib hp3381)) ?_
      refine wl_v 12 rfl (v_move rfl) (gy 32 rfl rfl) rfl ?_
      refine wl_v 13 rfl (v_move rfl) (gy 32 rfl rfl) rfl ?_
      obtain ⟨r3385, hv3386, h⟩ := h
      refine wl_s 14 rfl (s_call [.slice A25 r23.2 c27, .slice A2 n3 c4] rfl Try.func16 rfl rfl rfl fun w3382 hL3383 => ?_) (gy 32 rfl rfl)
      have hp3384 : List.Perm ([.box gb75 93 [.slice A3372 n3373 c3374, .int .i64 r3370.2.at_], .box gb56 36 [.slice A3347 n3348 c3349, .slice A3351 n3352 c3353, .slice A3355 n3356 c3357, .bool r3345.2.forest.ok, .int .i64 r3345.2.at_], .own (.slice A25 n26 c27) 39 7 n26 (r23.1.flatMap enc_api_Node)] : List Ent) (([] : List Ent) ++ ([.box gb75 93 [.slice A3372 n3373 c3374, .int .i64 r3370.2.at_], .box gb56 36 [.slice A3347 n3348 c3349, .slice A3351 n3352 c3353, .slice A3355 n3356 c3357, .bool r3345.2.forest.ok, .int .i64 r3345.2.at_], .own (.slice A25 n26 c27) 39 7 n26 (r23.1.flatMap enc_api_Node)] : List Ent)) := perm_of_idx [] [0, 1, 2] rfl rfl (by kernel_rfl)
      refine Calls.mono (trellislaw15_stays_calls w3382 (Fl ([] : List Snap)) r23.1 r23.2 x1 A25 n26 c27 A2 n3 c4 (hL3383.argO (dk := k_api_Node) hp3384 [] rfl 2 rfl rfl (Ow.weak hL21.env.size h28) (me 5 rfl) (Cells.flat _)) hk29 (Rw.mono h5 (hL3383.toSt hp3384 (me 6 rfl))) (hL3383.hFl (Sl := ([] : List Snap)) hp3384 (sels [] rfl)) (hL3383.into hp3384 (Fl ([] : List Snap))) r3385 hv3386) ?_
      rintro _ w3387 ⟨rfl, hM3388⟩
      have hL3389 := hL3383.call hp3384 hM3388
      refine ⟨_, _, _, rfl, hL3389, ?_⟩
      refine wl_v 15 rfl (v_not rfl) (gy 32 rfl rfl) rfl ?_
      refine wl_v 16 rfl (v_pick (b := false) rfl rfl) gn rfl ?_
      refine w_end 17 rfl ?_
      exact g_go [0, 2, 2, 2, 3, 4, 5, 6] (j1 (!r3385) r3370.2.f r3370.2.at_ r3345.2.forest.nodes r3345.2.forest.parent r3345.2.forest.end_ r3345.2.forest.ok r3345.2.at_ h hk29 A3372 n3373 c3374 w3376 sb3380 h3375 A3347 n3348 c3349 w3359 sb3363 h3350 A3351 n3352 c3353 w3359 sb3363 h3354 A3355 n3356 c3357 w3359 sb3363 h3358) ⟨rfl, rfl, rfl, rfl, rfl, trivial⟩ (.cons_cons _ (.cons_cons _ (.cons_cons _ (.slnil)))) rfl
    · have h := if_neg' hp3381 h
      refine w_bool 32 rfl ((neib hp3381)) ?_
      refine wl_pass 12 rfl (ps 32 rfl rfl rfl) ?_
      refine wl_pass 13 rfl (ps 32 rfl rfl rfl) ?_
      refine wl_pass 14 rfl (ps 32 rfl rfl rfl) ?_
      refine wl_pass 15 rfl (ps 32 rfl rfl rfl) ?_
      refine wl_v 16 rfl (v_pick (b := true) rfl rfl) gn rfl ?_
      refine w_end 17 rfl ?_
      exact g_go [0, 2, 2, 2, 3, 4, 5, 6] (j1 true r3370.2.f r3370.2.at_ r3345.2.forest.nodes r3345.2.forest.parent r3345.2.forest.end_ r3345.2.forest.ok r3345.2.at_ h hk29 A3372 n3373 c3374 w3376 sb3380 h3375 A3347 n3348 c3349 w3359 sb3363 h3350 A3351 n3352 c3353 w3359 sb3363 h3354 A3355 n3356 c3357 w3359 sb3363 h3358) ⟨rfl, rfl, rfl, rfl, rfl, trivial⟩ (.cons_cons _ (.cons_cons _ (.cons_cons _ (.slnil)))) rfl
end Go.Proofs.Ytmekgfcfooghnaa.K
