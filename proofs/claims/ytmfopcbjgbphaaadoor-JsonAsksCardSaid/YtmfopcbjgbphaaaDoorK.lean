/- What the machine's calls do, function by function, printed by my own tool. Condition of each: its relation holds of the answer, and what is handed in lies in memory as told. -/
import Derived.Test.YtmfopcbjgbphaaaDoorK4
set_option linter.unusedVariables false
set_option maxRecDepth 100000
set_option maxHeartbeats 4000000
namespace Go.Proofs.YtmfopcbjgbphaaaDoor.K
open Go.Proofs.YtmfopcbjgbphaaaDoor.B Go.Proofs.YtmfopcbjgbphaaaDoor.R Go.RowKit
noncomputable abbrev q20c0 : Code := bodyOf Tryd.f20
noncomputable abbrev q20c1 : Code := Code.fst q20c0
noncomputable abbrev q20c2 : Code := Code.snd q20c0
noncomputable abbrev q20c3 : Code := Code.fst q20c2
noncomputable abbrev q20c4 : Code := Code.fst q20c3
noncomputable abbrev q20c5 : Code := Code.fst q20c4
noncomputable abbrev q20c6 : Code := Code.snd q20c4
noncomputable abbrev q20c7 : Code := Code.fst q20c5
noncomputable abbrev q20c8 : Code := Code.snd q20c5
noncomputable abbrev q20c9 : Code := Code.fst q20c8
noncomputable abbrev q20c10 : Code := Code.snd q20c8
noncomputable abbrev q20c11 : Code := Code.fst q20c6
noncomputable abbrev q20c12 : Code := Code.snd q20c6
noncomputable abbrev q20c13 : Code := Code.fst q20c11
noncomputable abbrev q20c14 : Code := Code.fst q20c13
noncomputable abbrev q20c15 : Code := Code.snd q20c13
abbrev trellislaw25_over_R (w : World) (F : Nat → Prop) (A2 : Option Addr) (n3 : Nat) (c4 : Nat) (z6 : Nat) (r : List api_JNode) : Ending → World → Prop := fun e w' => e = .returned (.tuple #[]) ∧ B.Loc w w' [.own (.slice A2 n3 c4) 31 4 n3 (r.flatMap enc_api_JNode)] [St w [(Value.slice A2 n3 c4).ownBlock.toList]] ∧ Ow z6 A2 n3 c4 r
noncomputable abbrev trellislaw25_over_C (w : World) (F : Nat → Prop) (A2 : Option Addr) (n3 : Nat) (c4 : Nat) (z6 : Nat) (r : List api_JNode) : Cx := ⟨Tryd.prog, 20, Tryd.f20, 31, trellislaw25_over_R w F A2 n3 c4 z6 r, w⟩
theorem trellislaw25_over_calls (w : World) (F : Nat → Prop) (x1 : List api_JNode) (z6 : Nat) (A2 : Option Addr) (n3 : Nat) (c4 : Nat) (hz7 : z6 ≤ w.heap.size) (h5 : Ow z6 A2 n3 c4 x1) (hF : ∀ b, F b → b < w.heap.size ∧ ∀ o ∈ ([(Value.slice A2 n3 c4).ownBlock.toList] : List (List Nat)), b ∉ o) (hL0 : B.Loc w w [.own (.slice A2 n3 c4) 31 4 n3 (x1.flatMap enc_api_JNode)] [Sm w.heap.size F w [(Value.slice A2 n3 c4).ownBlock.toList], St w [(Value.slice A2 n3 c4).ownBlock.toList]]) (r : List api_JNode) (h : trellislaw25_over x1 r) : Calls Tryd.prog 20 #[.slice A2 n3 c4] w (trellislaw25_over_R w F A2 n3 c4 z6 r) := by
 unfold trellislaw25_over at h
 refine calls_of_Loc (vs := [.slice A2 n3 c4]) 31 Tryd.func20 rfl Tryd.ntmps20 rfl hL0 ?_
 show G (trellislaw25_over_C w F A2 n3 c4 z6 r) _ _ _ _
 refine g_seq (c := q20c0) rfl ?_
 refine g_region (c := q20c1) rfl rfl ?_
 refine wl_v 0 rfl (v_assign rfl) gn rfl ?_
 refine w_end 1 rfl ?_
 refine g_block (c := q20c2) rfl ?_
 refine g_loop (c := q20c3) rfl ?_
 have key1 : ∀ s, Rounds (fun (s : (List api_JNode) × Int) o => trellislaw25_over_b1 s.1 s.2 o) s r → (fun (s : (List api_JNode) × Int) => ∀ (h21 : Ow z6 A2 n3 c4 s.1), G (trellislaw25_over_C w F A2 n3 c4 z6 r) [.code q20c4, .inLoop q20c4, .inBlock 0] [(0, .slice A2 n3 c4), (2, .int .i64 s.2)] [.own (.slice A2 n3 c4) 31 4 n3 (s.1.flatMap enc_api_JNode)] [Sm w.heap.size F w [(Value.slice A2 n3 c4).ownBlock.toList], St w [(Value.slice A2 n3 c4).ownBlock.toList]]) s := by
  intro s hs
  refine Rounds.ind (mot := (fun (s : (List api_JNode) × Int) => ∀ (h21 : Ow z6 A2 n3 c4 s.1), G (trellislaw25_over_C w F A2 n3 c4 z6 r) [.code q20c4, .inLoop q20c4, .inBlock 0] [(0, .slice A2 n3 c4), (2, .int .i64 s.2)] [.own (.slice A2 n3 c4) 31 4 n3 (s.1.flatMap enc_api_JNode)] [Sm w.heap.size F w [(Value.slice A2 n3 c4).ownBlock.toList], St w [(Value.slice A2 n3 c4).ownBlock.toList]])) ?_ hs
  clear hs s
  intro s o1 h hO1
  obtain ⟨x20, x22⟩ := s
  show ∀ (h21 : Ow z6 A2 n3 c4 x20), G (trellislaw25_over_C w F A2 n3 c4 z6 r) [.code q20c4, .inLoop q20c4, .inBlock 0] [(0, .slice A2 n3 c4), (2, .int .i64 x22)] [.own (.slice A2 n3 c4) 31 4 n3 (x20.flatMap enc_api_JNode)] [Sm w.heap.size F w [(Value.slice A2 n3 c4).ownBlock.toList], St w [(Value.slice A2 n3 c4).ownBlock.toList]]
  intro h21
  have h : trellislaw25_over_b1 x20 x22 o1 := h
  unfold trellislaw25_over_b1 at h
  refine g_seq (c := q20c4) rfl ?_
  refine g_seq (c := q20c5) rfl ?_
  refine g_region (c := q20c7) rfl rfl ?_
  refine wl_v 0 rfl (v_move rfl) gn rfl ?_
  refine wl_v 1 rfl (v_move rfl) gn rfl ?_
  refine wl_v 2 rfl (v_lenQ un_22 rfl h21.hq) gn rfl ?_
  refine wl_v 3 rfl (v_bin rfl rfl rfl) gn rfl ?_
  refine w_end 4 rfl ?_
  by_cases hp34 : x22 < (x20.length : Int)
  ·have h := if_pos' hp34 h
   refine g_true (c := q20c8) rfl _ rfl ((decide_eq_true hp34)) ?_
   refine g_skip (c := q20c9) rfl ?_
   refine g_seq (c := q20c6) rfl ?_
   refine g_block (c := q20c11) rfl ?_
   refine g_seq (c := q20c13) rfl ?_
   refine g_region (c := q20c14) rfl rfl ?_
   refine wl_v 0 rfl (v_move rfl) gn rfl ?_
   refine wl_v 1 rfl (v_move rfl) gn rfl ?_
   refine wl_v 2 rfl (v_move rfl) gn rfl ?_
   refine wl_v 3 rfl (v_move rfl) gn rfl ?_
   refine wl_v 4 rfl (v_lenQ un_22 rfl h21.hq) gn rfl ?_
   refine wl_v 5 rfl (v_bin rfl rfl rfl) gn rfl ?_
   obtain ⟨hb35, h⟩ := h
   refine wl_v 6 rfl (v_idxO slE_22 rfl rfl h21 hb35) gn rfl ?_
   refine wl_v 7 rfl (v_fldA fo_31_1 rfl) gn rfl ?_
   refine wl_v 8 rfl (v_ldO1 (.string ((ix x20 (w64 ((x20.length : Int) - 1))).key)) 0 ld_9 rfl rfl (fm_get hl_api_JNode hb35 rfl)) gn rfl ?_
   obtain ⟨hb36, h⟩ := h
   refine wl_v 9 rfl (v_idxO slE_22 rfl rfl h21 hb36) gn rfl ?_
   refine wl_v 10 rfl (v_fldA fo_31_1 rfl) gn rfl ?_
   obtain ⟨x37, hv38, h⟩ := h
   refine wl_s 11 rfl (s_stF (enc := enc_api_JNode) (o := 1) (z := ({ (ix x20 x22) with key := (ix x20 (w64 ((x20.length : Int) - 1))).key })) (vs := [.string ((ix x20 (w64 ((x20.length : Int) - 1))).key)]) (i := x22) 0 hl_api_JNode sz_9 rfl rfl rfl rfl rfl h21 hb36 rfl rfl rfl hv38 fun h39 => ?_) gn
   refine w_end 12 rfl ?_
   refine g_region (c := q20c15) rfl rfl ?_
   refine wl_v 0 rfl (v_move rfl) gn rfl ?_
   refine wl_v 1 rfl (v_move rfl) gn rfl ?_
   refine wl_v 2 rfl (v_move rfl) gn rfl ?_
   refine wl_v 3 rfl (v_move rfl) gn rfl ?_
   refine wl_v 4 rfl (v_lenQ un_22 rfl h39.hq) gn rfl ?_
   refine wl_v 5 rfl (v_bin rfl rfl rfl) gn rfl ?_
   obtain ⟨hb40, h⟩ := h
   refine wl_v 6 rfl (v_idxO slE_22 rfl rfl h39 hb40) gn rfl ?_
   refine wl_v 7 rfl (v_fldA fo_31_2 rfl) gn rfl ?_
   refine wl_v 8 rfl (v_ldO1 (.string ((ix x37 (w64 ((x37.length : Int) - 1))).text)) 0 ld_9 rfl rfl (fm_get hl_api_JNode hb40 rfl)) gn rfl ?_
   obtain ⟨hb41, h⟩ := h
   refine wl_v 9 rfl (v_idxO slE_22 rfl rfl h39 hb41) gn rfl ?_
   refine wl_v 10 rfl (v_fldA fo_31_2 rfl) gn rfl ?_
   obtain ⟨x42, hv43, h⟩ := h
   refine wl_s 11 rfl (s_stF (enc := enc_api_JNode) (o := 2) (z := ({ (ix x37 x22) with text := (ix x37 (w64 ((x37.length : Int) - 1))).text })) (vs := [.string ((ix x37 (w64 ((x37.length : Int) - 1))).text)]) (i := x22) 0 hl_api_JNode sz_9 rfl rfl rfl rfl rfl h39 hb41 rfl rfl rfl hv43 fun h44 => ?_) gn
   refine w_end 12 rfl ?_
   refine g_inBlock ?_
   refine g_region (c := q20c12) rfl rfl ?_
   refine wl_v 0 rfl (v_move rfl) gn rfl ?_
   refine wl_v 1 rfl (v_bin rfl rfl rfl) gn rfl ?_
   refine wl_v 2 rfl (v_assign rfl) gn rfl ?_
   refine w_end 3 rfl ?_
   refine g_inLoop ?_
   have ih := Out.inl hO1 h
   exact g_go [0, 1] (ih h44) ⟨rfl, rfl, trivial⟩ (.cons_cons _ (.slnil)) rfl
  ·have h := if_neg' hp34 h
   refine g_false (c := q20c8) rfl _ rfl ((decide_eq_false hp34)) ?_
   refine g_exit (c := q20c10) [] rfl rfl ?_
   have h := Out.inr hO1 h
   refine g_endR [] Tryd.func20 rfl (.nil) fun wr hLr => ?_
   have hMr : B.Loc w wr [.own (.slice A2 n3 c4) 31 4 n3 (x20.flatMap enc_api_JNode)] [St w [(Value.slice A2 n3 c4).ownBlock.toList]] := hLr.pick (rest := []) (perm_of_idx [0] [] rfl rfl (by kernel_rfl)) (sels [1] rfl)
   show trellislaw25_over_R w F A2 n3 c4 z6 r (.returned (packV [])) wr
   rw [h]
   exact ⟨rfl, hMr, h21⟩
 exact g_go [0, 1] (key1 _ h h5) ⟨rfl, rfl, trivial⟩ (.cons_cons _ (.slnil)) rfl
noncomputable abbrev q3c0 : Code := bodyOf Tryd.f3
noncomputable abbrev q3c1 : Code := Code.fst q3c0
noncomputable abbrev q3c2 : Code := Code.snd q3c0
noncomputable abbrev q3c3 : Code := Code.fst q3c2
noncomputable abbrev q3c4 : Code := Code.snd q3c2
noncomputable abbrev q3c5 : Code := Code.fst q3c3
noncomputable abbrev q3c6 : Code := Code.snd q3c3
noncomputable abbrev q3c7 : Code := Code.fst q3c6
noncomputable abbrev q3c8 : Code := Code.snd q3c6
noncomputable abbrev q3c9 : Code := Code.fst q3c7
noncomputable abbrev q3c10 : Code := Code.snd q3c7
noncomputable abbrev q3c11 : Code := Code.fst q3c4
noncomputable abbrev q3c12 : Code := Code.snd q3c4
noncomputable abbrev q3c13 : Code := Code.fst q3c12
noncomputable abbrev q3c14 : Code := Code.snd q3c12
noncomputable abbrev q3c15 : Code := Code.fst q3c14
noncomputable abbrev q3c16 : Code := Code.snd q3c14
noncomputable abbrev q3c17 : Code := Code.fst q3c16
noncomputable abbrev q3c18 : Code := Code.snd q3c16
noncomputable abbrev q3c19 : Code := Code.fst q3c18
noncomputable abbrev q3c20 : Code := Code.snd q3c18
noncomputable abbrev q3c21 : Code := Code.fst q3c20
noncomputable abbrev q3c22 : Code := Code.snd q3c20
noncomputable abbrev q3c23 : Code := Code.fst q3c22
noncomputable abbrev q3c24 : Code := Code.snd q3c22
noncomputable abbrev q3c25 : Code := Code.fst q3c23
noncomputable abbrev q3c26 : Code := Code.snd q3c23
noncomputable abbrev q3c27 : Code := Code.fst q3c26
noncomputable abbrev q3c28 : Code := Code.snd q3c26
noncomputable abbrev q3c29 : Code := Code.fst q3c27
noncomputable abbrev q3c30 : Code := Code.snd q3c27
noncomputable abbrev q3c31 : Code := Code.fst q3c24
noncomputable abbrev q3c32 : Code := Code.snd q3c24
noncomputable abbrev q3c33 : Code := Code.fst q3c32
noncomputable abbrev q3c34 : Code := Code.snd q3c32
noncomputable abbrev q3c35 : Code := Code.fst q3c33
noncomputable abbrev q3c36 : Code := Code.snd q3c33
noncomputable abbrev q3c37 : Code := Code.fst q3c36
noncomputable abbrev q3c38 : Code := Code.snd q3c36
noncomputable abbrev q3c39 : Code := Code.fst q3c34
noncomputable abbrev q3c40 : Code := Code.snd q3c34
noncomputable abbrev q3c41 : Code := Code.fst q3c39
noncomputable abbrev q3c42 : Code := Code.snd q3c39
noncomputable abbrev q3c43 : Code := Code.fst q3c42
noncomputable abbrev q3c44 : Code := Code.fst q3c43
noncomputable abbrev q3c45 : Code := Code.fst q3c44
noncomputable abbrev q3c46 : Code := Code.snd q3c44
noncomputable abbrev q3c47 : Code := Code.fst q3c45
noncomputable abbrev q3c48 : Code := Code.snd q3c45
noncomputable abbrev q3c49 : Code := Code.fst q3c48
noncomputable abbrev q3c50 : Code := Code.snd q3c48
noncomputable abbrev q3c51 : Code := Code.fst q3c46
noncomputable abbrev q3c52 : Code := Code.snd q3c46
noncomputable abbrev q3c53 : Code := Code.fst q3c51
noncomputable abbrev q3c54 : Code := Code.fst q3c53
noncomputable abbrev q3c55 : Code := Code.snd q3c53
noncomputable abbrev q3c56 : Code := Code.fst q3c40
noncomputable abbrev q3c57 : Code := Code.snd q3c40
noncomputable abbrev q3c58 : Code := Code.fst q3c57
noncomputable abbrev q3c59 : Code := Code.snd q3c57
noncomputable abbrev q3c60 : Code := Code.fst q3c59
noncomputable abbrev q3c61 : Code := Code.snd q3c59
noncomputable abbrev q3c62 : Code := Code.fst q3c61
noncomputable abbrev q3c63 : Code := Code.snd q3c61
noncomputable abbrev q3c64 : Code := Code.fst q3c63
noncomputable abbrev q3c65 : Code := Code.snd q3c63
noncomputable abbrev q3c66 : Code := Code.fst q3c64
noncomputable abbrev q3c67 : Code := Code.snd q3c64
noncomputable abbrev q3c68 : Code := Code.fst q3c67
noncomputable abbrev q3c69 : Code := Code.snd q3c67
noncomputable abbrev q3c70 : Code := Code.fst q3c68
noncomputable abbrev q3c71 : Code := Code.snd q3c68
noncomputable abbrev q3c72 : Code := Code.fst q3c65
noncomputable abbrev q3c73 : Code := Code.snd q3c65
noncomputable abbrev q3c74 : Code := Code.fst q3c72
noncomputable abbrev q3c75 : Code := Code.snd q3c72
noncomputable abbrev q3c76 : Code := Code.fst q3c75
noncomputable abbrev q3c77 : Code := Code.fst q3c76
noncomputable abbrev q3c78 : Code := Code.fst q3c77
noncomputable abbrev q3c79 : Code := Code.snd q3c77
noncomputable abbrev q3c80 : Code := Code.fst q3c78
noncomputable abbrev q3c81 : Code := Code.snd q3c78
noncomputable abbrev q3c82 : Code := Code.fst q3c81
noncomputable abbrev q3c83 : Code := Code.snd q3c81
noncomputable abbrev q3c84 : Code := Code.fst q3c79
noncomputable abbrev q3c85 : Code := Code.snd q3c79
noncomputable abbrev q3c86 : Code := Code.fst q3c84
noncomputable abbrev q3c87 : Code := Code.fst q3c86
noncomputable abbrev q3c88 : Code := Code.snd q3c86
noncomputable abbrev q3c89 : Code := Code.fst q3c88
noncomputable abbrev q3c90 : Code := Code.snd q3c88
noncomputable abbrev q3c91 : Code := Code.fst q3c90
noncomputable abbrev q3c92 : Code := Code.snd q3c90
noncomputable abbrev q3c93 : Code := Code.fst q3c92
noncomputable abbrev q3c94 : Code := Code.snd q3c92
noncomputable abbrev q3c95 : Code := Code.fst q3c93
noncomputable abbrev q3c96 : Code := Code.snd q3c93
noncomputable abbrev q3c97 : Code := Code.fst q3c73
noncomputable abbrev q3c98 : Code := Code.snd q3c73
abbrev trellislaw25_JsonAsks_R (w : World) (F : Nat → Prop) (r : Bool) : Ending → World → Prop := fun e w' => e = .returned (.bool r) ∧ B.Loc w w' [] [St w []]
noncomputable abbrev trellislaw25_JsonAsks_C (w : World) (F : Nat → Prop) (r : Bool) : Cx := ⟨Tryd.prog, 3, Tryd.f3, 174, trellislaw25_JsonAsks_R w F  r, w⟩
theorem trellislaw25_JsonAsks_calls (w : World) (F : Nat → Prop) (x1 : List api_JNode) (x6 : Int) (x7 : ByteArray) (A2 : Option Addr) (n3 : Nat) (c4 : Nat) (h5 : Rw k_api_JNode w (St w []).av A2 n3 c4 x1) (hG1 : Tt .u8 tb_1 1 (St w [])) (hG2 : Tt .u8 tb_2 2 (St w [])) (hF : ∀ b, F b → b < w.heap.size ∧ ∀ o ∈ ([] : List (List Nat)), b ∉ o) (hL0 : B.Loc w w [] [Sm w.heap.size F w [], St w []]) (r : Bool) (h : trellislaw25_JsonAsks x1 x6 x7 r) : Calls Tryd.prog 3 #[.slice A2 n3 c4, .int .i64 x6, .string x7] w (trellislaw25_JsonAsks_R w F  r) := by
 unfold trellislaw25_JsonAsks at h
 refine calls_of_Loc (vs := [.slice A2 n3 c4, .int .i64 x6, .string x7]) 174 Tryd.func3 rfl Tryd.ntmps3 rfl hL0 ?_
 show G (trellislaw25_JsonAsks_C w F r) _ _ _ _
 refine g_seq (c := q3c0) rfl ?_
 refine g_region (c := q3c1) rfl rfl ?_
 refine wl_v 0 rfl (v_assign rfl) gn rfl ?_
 refine w_end 1 rfl ?_
 refine g_seq (c := q3c2) rfl ?_
 refine g_seq (c := q3c3) rfl ?_
 refine g_region (c := q3c5) rfl rfl ?_
 refine wl_v 0 rfl (v_move rfl) gn rfl ?_
 obtain ⟨r11, hv12, h⟩ := h
 refine wl_s 1 rfl (s_call [.slice A2 n3 c4] rfl Tryd.func12 rfl rfl rfl fun w8 hL9 => ?_) gn
 have hp10 : List.Perm ([] : List Ent) (([] : List Ent) ++ ([] : List Ent)) := perm_of_idx [] [] rfl rfl (by kernel_rfl)
 refine Calls.mono (trellisref25_Beyond_calls w8 (Fl ([] : List Snap)) x1 A2 n3 c4 (Rw.mono h5 (hL9.toSt hp10 (me 1 rfl))) (hL9.hFl (Sl := ([] : List Snap)) hp10 (sels [] rfl)) (hL9.into hp10 (Fl ([] : List Snap))) r11 hv12) ?_
 rintro _ w13 ⟨rfl, hM14⟩
 have hL15 := hL9.call hp10 hM14
 refine ⟨_, _, _, rfl, hL15, ?_⟩
 refine w_end 2 rfl ?_
 by_cases hp16 : r11 = true
 ·have h := if_pos' hp16 h
  refine g_true (c := q3c6) rfl _ rfl (hp16) ?_
  refine g_seq (c := q3c7) rfl ?_
  refine g_region (c := q3c9) rfl rfl ?_
  refine wl_v 0 rfl (v_assign rfl) gn rfl ?_
  refine w_end 1 rfl ?_
  refine g_retR (c := q3c10) [.bool true] rfl Tryd.func3 rfl (.tmp rfl (.nil)) fun wr hLr => ?_
  have hMr : B.Loc w wr [] [St w []] := hLr.pick0 (sels [1] rfl)
  show trellislaw25_JsonAsks_R w F  r (.returned (packV [.bool true])) wr
  rw [h]
  exact ⟨rfl, hMr⟩
 ·have h := if_neg' hp16 h
  refine g_false (c := q3c6) rfl _ rfl ((bf hp16)) ?_
  refine g_skip (c := q3c8) rfl ?_
  refine g_seq (c := q3c4) rfl ?_
  refine g_region (c := q3c11) rfl rfl ?_
  refine wl_v 0 rfl (v_move rfl) gn rfl ?_
  obtain ⟨r20, hv21, h⟩ := h
  refine wl_s 1 rfl (s_call [.slice A2 n3 c4] rfl Tryd.func13 rfl rfl rfl fun w17 hL18 => ?_) gn
  have hp19 : List.Perm ([] : List Ent) (([] : List Ent) ++ ([] : List Ent)) := perm_of_idx [] [] rfl rfl (by kernel_rfl)
  refine Calls.mono (trellislaw25_twin_calls w17 (Fl ([] : List Snap)) x1 A2 n3 c4 (Rw.mono h5 (hL18.toSt hp19 (me 1 rfl))) (hL18.hFl (Sl := ([] : List Snap)) hp19 (sels [] rfl)) (hL18.into hp19 (Fl ([] : List Snap))) r20 hv21) ?_
  rintro _ w27 ⟨A22, n23, c24, rfl, hM28, h25⟩
  have hL29 := hL18.call hp19 hM28
  refine ⟨_, _, _, rfl, hL29, ?_⟩
  refine wl_v 2 rfl (v_assign rfl) gn rfl ?_
  refine w_end 3 rfl ?_
  refine g_seq (c := q3c12) rfl ?_
  refine g_region (c := q3c13) rfl rfl ?_
  refine wl_v 0 rfl (v_move rfl) gn rfl ?_
  obtain ⟨r33, hv34, h⟩ := h
  refine wl_s 1 rfl (s_call [.slice A2 n3 c4] rfl Tryd.func14 rfl rfl rfl fun w30 hL31 => ?_) gn
  have hp32 : List.Perm ([.own (.slice A22 n23 c24) 31 4 n23 (r20.flatMap enc_api_JNode)] : List Ent) (([] : List Ent) ++ ([.own (.slice A22 n23 c24) 31 4 n23 (r20.flatMap enc_api_JNode)] : List Ent)) := perm_of_idx [] [0] rfl rfl (by kernel_rfl)
  refine Calls.mono (trellislaw25_roomy_calls w30 (Fl ([] : List Snap)) x1 A2 n3 c4 (Rw.mono h5 (hL31.toSt hp32 (me 1 rfl))) (hL31.hFl (Sl := ([] : List Snap)) hp32 (sels [] rfl)) (hL31.into hp32 (Fl ([] : List Snap))) r33 hv34) ?_
  rintro _ w40 ⟨A35, n36, c37, rfl, hM41, h38⟩
  have hL42 := hL31.call hp32 hM41
  refine ⟨_, _, _, rfl, hL42, ?_⟩
  refine wl_v 2 rfl (v_assign rfl) gn rfl ?_
  refine w_end 3 rfl ?_
  refine g_seq (c := q3c14) rfl ?_
  refine g_region (c := q3c15) rfl rfl ?_
  refine wl_v 0 rfl (v_move rfl) gn rfl ?_
  refine wl_v 1 rfl (v_move rfl) gn rfl ?_
  refine wl_v 2 rfl (v_lenQ un_22 rfl h5.hq) gn rfl ?_
  obtain ⟨hb43, h⟩ := h
  obtain ⟨x45, hv46, h⟩ := h
  have hle44 : ((x1.length : Int) : Int).toNat ≤ n36 := by have q := hb43; have q1 := (Ow.weak hL31.env.size h38).hq; omega
  have h47 : Ow w.heap.size A35 ((x1.length : Int) : Int).toNat c37 x45 := Ow.w (Ow.cut (Ow.weak hL31.env.size h38) hle44) (by rw [hv46])
  refine wl_v 3 rfl (v_cutHi (i := (x1.length : Int)) slE_22 rfl rfl (by have q := hb43; have q1 := (Ow.weak hL31.env.size h38).hq; have q2 := (Ow.weak hL31.env.size h38).hn; omega) (Ow.weak hL31.env.size h38).hn rfl) gn rfl ?_
  refine wl_v 4 rfl (v_assign rfl) gn rfl ?_
  refine w_end 5 rfl ?_
  refine g_seq (c := q3c16) rfl ?_
  refine g_region (c := q3c17) rfl rfl ?_
  refine wl_v 0 rfl (v_move rfl) gn rfl ?_
  refine wl_v 1 rfl (v_move rfl) gn rfl ?_
  refine wl_v 2 rfl (v_move rfl) gn rfl ?_
  obtain ⟨r51, hv52, h⟩ := h
  refine wl_s 3 rfl (s_call [.slice A35 (((x1.length : Int) : Int).toNat) c37, .int .i64 x6, .string x7] rfl Tryd.func15 rfl rfl rfl fun w48 hL49 => ?_) gn
  have hp50 : List.Perm ([.own (.slice A35 n36 c37) 31 4 n36 (r33.flatMap enc_api_JNode), .own (.slice A22 n23 c24) 31 4 n23 (r20.flatMap enc_api_JNode)] : List Ent) (([] : List Ent) ++ ([.own (.slice A35 n36 c37) 31 4 n36 (r33.flatMap enc_api_JNode), .own (.slice A22 n23 c24) 31 4 n23 (r20.flatMap enc_api_JNode)] : List Ent)) := perm_of_idx [] [0, 1] rfl rfl (by kernel_rfl)
  refine Calls.mono (json_Member_calls w48 (Fl ([] : List Snap)) x45 x6 x7 A35 (((x1.length : Int) : Int).toNat) c37 (Rw.w (hL49.argV (dk := k_api_JNode) hp50 [] rfl 0 rfl rfl (Ow.weak hL31.env.size h38) (me 0 rfl) (Cells.flat _) (Vw.prefix hle44) (Nat.le_trans hle44 (Ow.weak hL31.env.size h38).hn) (Ow.weak hL31.env.size h38).hm) (by rw [hv46]; rfl)) (hL49.tt hp50 hG1 (me 1 rfl)) (hL49.tt hp50 hG2 (me 1 rfl)) (hL49.hFl (Sl := ([] : List Snap)) hp50 (sels [] rfl)) (hL49.into hp50 (Fl ([] : List Snap))) r51 hv52) ?_
  rintro _ w53 ⟨rfl, hM54⟩
  have hL55 := hL49.call hp50 hM54
  refine ⟨_, _, _, rfl, hL55, ?_⟩
  refine wl_v 4 rfl (v_assign rfl) gn rfl ?_
  refine w_end 5 rfl ?_
  refine g_seq (c := q3c18) rfl ?_
  refine g_region (c := q3c19) rfl rfl ?_
  refine wl_v 0 rfl (v_move rfl) gn rfl ?_
  refine wl_v 1 rfl (v_move rfl) gn rfl ?_
  obtain ⟨r59, hv60, h⟩ := h
  refine wl_s 2 rfl (s_call [.slice A35 (((x1.length : Int) : Int).toNat) c37, .int .i64 x6] rfl Tryd.func16 rfl rfl rfl fun w56 hL57 => ?_) gn
  have hp58 : List.Perm ([.own (.slice A35 n36 c37) 31 4 n36 (r33.flatMap enc_api_JNode), .own (.slice A22 n23 c24) 31 4 n23 (r20.flatMap enc_api_JNode)] : List Ent) (([] : List Ent) ++ ([.own (.slice A35 n36 c37) 31 4 n36 (r33.flatMap enc_api_JNode), .own (.slice A22 n23 c24) 31 4 n23 (r20.flatMap enc_api_JNode)] : List Ent)) := perm_of_idx [] [0, 1] rfl rfl (by kernel_rfl)
  refine Calls.mono (json_Int_calls w56 (Fl ([] : List Snap)) x45 x6 A35 (((x1.length : Int) : Int).toNat) c37 (Rw.w (hL57.argV (dk := k_api_JNode) hp58 [] rfl 0 rfl rfl (Ow.weak hL31.env.size h38) (me 0 rfl) (Cells.flat _) (Vw.prefix hle44) (Nat.le_trans hle44 (Ow.weak hL31.env.size h38).hn) (Ow.weak hL31.env.size h38).hm) (by rw [hv46]; rfl)) (hL57.tt hp58 hG1 (me 1 rfl)) (hL57.tt hp58 hG2 (me 1 rfl)) (hL57.hFl (Sl := ([] : List Snap)) hp58 (sels [] rfl)) (hL57.into hp58 (Fl ([] : List Snap))) r59 hv60) ?_
  rintro _ w61 ⟨rfl, hM62⟩
  have hL63 := hL57.call hp58 hM62
  refine ⟨_, _, _, rfl, hL63, ?_⟩
  refine wl_v 3 rfl (v_move rfl) gn rfl ?_
  refine wl_v 4 rfl (v_extract rfl rfl) gn rfl ?_
  refine wl_v 5 rfl (v_extract rfl rfl) gn rfl ?_
  refine wl_v 6 rfl (v_assign rfl) gn rfl ?_
  refine wl_v 7 rfl (v_assign rfl) gn rfl ?_
  refine w_end 8 rfl ?_
  refine g_seq (c := q3c20) rfl ?_
  refine g_region (c := q3c21) rfl rfl ?_
  refine wl_v 0 rfl (v_move rfl) gn rfl ?_
  refine wl_v 1 rfl (v_move rfl) gn rfl ?_
  obtain ⟨r68, hv69, h⟩ := h
  refine wl_s 2 rfl (s_call [.slice A22 n23 c24, .int .i64 x6] rfl Tryd.func17 rfl rfl rfl fun w65 hL66 => ?_) gn
  have hp67 : List.Perm ([.own (.slice A35 n36 c37) 31 4 n36 (r33.flatMap enc_api_JNode), .own (.slice A22 n23 c24) 31 4 n23 (r20.flatMap enc_api_JNode)] : List Ent) (([] : List Ent) ++ ([.own (.slice A35 n36 c37) 31 4 n36 (r33.flatMap enc_api_JNode), .own (.slice A22 n23 c24) 31 4 n23 (r20.flatMap enc_api_JNode)] : List Ent)) := perm_of_idx [] [0, 1] rfl rfl (by kernel_rfl)
  refine Calls.mono (trellisref25_Int_calls w65 (Fl ([] : List Snap)) r20 x6 A22 n23 c24 (hL66.argO (dk := k_api_JNode) hp67 [] rfl 1 rfl rfl (Ow.weak hL18.env.size h25) (me 0 rfl) (Cells.flat _)) (hL66.hFl (Sl := ([] : List Snap)) hp67 (sels [] rfl)) (hL66.into hp67 (Fl ([] : List Snap))) r68 hv69) ?_
  rintro _ w70 ⟨rfl, hM71⟩
  have hL72 := hL66.call hp67 hM71
  refine ⟨_, _, _, rfl, hL72, ?_⟩
  refine wl_v 3 rfl (v_move rfl) gn rfl ?_
  refine wl_v 4 rfl (v_extract rfl rfl) gn rfl ?_
  refine wl_v 5 rfl (v_extract rfl rfl) gn rfl ?_
  refine wl_v 6 rfl (v_assign rfl) gn rfl ?_
  refine wl_v 7 rfl (v_assign rfl) gn rfl ?_
  refine w_end 8 rfl ?_
  refine g_seq (c := q3c22) rfl ?_
  refine g_seq (c := q3c23) rfl ?_
  have j1 : ∀ (x97 : Bool) (h : trellislaw25_JsonAsks_j1 x1 x45 x6 x7 x97 r) (A93 : Option Addr) (n94 : Nat) (c95 : Nat) (h96 : Ow w.heap.size A93 n94 c95 x45), G (trellislaw25_JsonAsks_C w F r) [.code q3c26, .code q3c24] [(0, .slice A2 n3 c4), (1, .int .i64 x6), (2, .string x7), (9, .slice A93 n94 c95), (70, .bool x97)] [.own (.slice A93 n94 c95) 31 4 n94 (x45.flatMap enc_api_JNode)] [Sm w.heap.size F w [], St w []] := by
   intro x97 h A93 n94 c95 h96
   unfold trellislaw25_JsonAsks_j1 at h
   by_cases hp98 : x97 = true
   ·have h := if_pos' hp98 h
    refine g_true (c := q3c26) rfl _ rfl (hp98) ?_
    refine g_seq (c := q3c27) rfl ?_
    refine g_region (c := q3c29) rfl rfl ?_
    refine wl_v 0 rfl (v_assign rfl) gn rfl ?_
    refine w_end 1 rfl ?_
    refine g_retR (c := q3c30) [.bool false] rfl Tryd.func3 rfl (.tmp rfl (.nil)) fun wr hLr => ?_
    have hMr : B.Loc w wr [] [St w []] := hLr.pick0 (sels [1] rfl)
    show trellislaw25_JsonAsks_R w F  r (.returned (packV [.bool false])) wr
    rw [h]
    exact ⟨rfl, hMr⟩
   ·have h := if_neg' hp98 h
    refine g_false (c := q3c26) rfl _ rfl ((bf hp98)) ?_
    refine g_skip (c := q3c28) rfl ?_
    refine g_seq (c := q3c24) rfl ?_
    refine g_region (c := q3c31) rfl rfl ?_
    refine wl_v 0 rfl (v_assign rfl) gn rfl ?_
    refine w_end 1 rfl ?_
    refine g_seq (c := q3c32) rfl ?_
    refine g_seq (c := q3c33) rfl ?_
    refine g_region (c := q3c35) rfl rfl ?_
    refine wl_v 0 rfl (v_move rfl) gn rfl ?_
    refine wl_v 1 rfl (v_lenQ un_22 rfl h5.hq) gn rfl ?_
    refine wl_v 2 rfl (v_bin rfl rfl rfl) gn rfl ?_
    refine w_end 3 rfl ?_
    have j2 : ∀ (x103 : ByteArray) (h : trellislaw25_JsonAsks_j2 x45 x6 x7 x103 r) , G (trellislaw25_JsonAsks_C w F r) [.code q3c34] [(1, .int .i64 x6), (2, .string x7), (9, .slice A93 n94 c95), (15, .string x103)] [.own (.slice A93 n94 c95) 31 4 n94 (x45.flatMap enc_api_JNode)] [Sm w.heap.size F w [], St w []] := by
     intro x103 h
     unfold trellislaw25_JsonAsks_j2 at h
     refine g_seq (c := q3c34) rfl ?_
     refine g_seq (c := q3c39) rfl ?_
     refine g_region (c := q3c41) rfl rfl ?_
     refine wl_v 0 rfl (v_assign rfl) gn rfl ?_
     refine w_end 1 rfl ?_
     refine g_block (c := q3c42) rfl ?_
     refine g_loop (c := q3c43) rfl ?_
     have key3 : ∀ s, Rounds (fun (s : Int) o => trellislaw25_JsonAsks_b3 x45 x103 x6 x7 s o) s r → (fun (s : Int) => ∀ (_ : Unit), G (trellislaw25_JsonAsks_C w F r) [.code q3c44, .inLoop q3c44, .inBlock 0, .code q3c40] [(1, .int .i64 x6), (2, .string x7), (9, .slice A93 n94 c95), (15, .string x103), (16, .int .i64 s)] [.own (.slice A93 n94 c95) 31 4 n94 (x45.flatMap enc_api_JNode)] [Sm w.heap.size F w [], St w []]) s := by
      intro s hs
      refine Rounds.ind (mot := (fun (s : Int) => ∀ (_ : Unit), G (trellislaw25_JsonAsks_C w F r) [.code q3c44, .inLoop q3c44, .inBlock 0, .code q3c40] [(1, .int .i64 x6), (2, .string x7), (9, .slice A93 n94 c95), (15, .string x103), (16, .int .i64 s)] [.own (.slice A93 n94 c95) 31 4 n94 (x45.flatMap enc_api_JNode)] [Sm w.heap.size F w [], St w []])) ?_ hs
      clear hs s
      intro x325 o1 h hO1
      show ∀ (_ : Unit), G (trellislaw25_JsonAsks_C w F r) [.code q3c44, .inLoop q3c44, .inBlock 0, .code q3c40] [(1, .int .i64 x6), (2, .string x7), (9, .slice A93 n94 c95), (15, .string x103), (16, .int .i64 x325)] [.own (.slice A93 n94 c95) 31 4 n94 (x45.flatMap enc_api_JNode)] [Sm w.heap.size F w [], St w []]
      intro _
      have h : trellislaw25_JsonAsks_b3 x45 x103 x6 x7 x325 o1 := h
      unfold trellislaw25_JsonAsks_b3 at h
      refine g_seq (c := q3c44) rfl ?_
      refine g_seq (c := q3c45) rfl ?_
      have j4 : ∀ (x548 : Bool) (h : trellislaw25_JsonAsks_j4 x45 x325 x103 x6 x7 x548 o1) , G (trellislaw25_JsonAsks_C w F r) [.code q3c48, .code q3c46, .inLoop q3c44, .inBlock 0, .code q3c40] [(1, .int .i64 x6), (2, .string x7), (9, .slice A93 n94 c95), (15, .string x103), (16, .int .i64 x325), (88, .bool x548)] [.own (.slice A93 n94 c95) 31 4 n94 (x45.flatMap enc_api_JNode)] [Sm w.heap.size F w [], St w []] := by
       intro x548 h
       unfold trellislaw25_JsonAsks_j4 at h
       by_cases hp549 : x548 = true
       ·have h := if_pos' hp549 h
        refine g_true (c := q3c48) rfl _ rfl (hp549) ?_
        refine g_skip (c := q3c49) rfl ?_
        refine g_seq (c := q3c46) rfl ?_
        refine g_block (c := q3c51) rfl ?_
        refine g_seq (c := q3c53) rfl ?_
        refine g_region (c := q3c54) rfl rfl ?_
        refine wl_v 0 rfl (v_move rfl) gn rfl ?_
        refine wl_v 1 rfl (v_move rfl) gn rfl ?_
        refine wl_v 2 rfl (v_move rfl) gn rfl ?_
        obtain ⟨r553, hv554, h⟩ := h
        refine wl_s 3 rfl (s_call [.slice A93 n94 c95, .int .i64 x325, .string x103] rfl Tryd.func15 rfl rfl rfl fun w550 hL551 => ?_) gn
        have hp552 : List.Perm ([.own (.slice A93 n94 c95) 31 4 n94 (x45.flatMap enc_api_JNode)] : List Ent) (([] : List Ent) ++ ([.own (.slice A93 n94 c95) 31 4 n94 (x45.flatMap enc_api_JNode)] : List Ent)) := perm_of_idx [] [0] rfl rfl (by kernel_rfl)
        refine Calls.mono (json_Member_calls w550 (Fl ([] : List Snap)) x45 x325 x103 A93 n94 c95 (hL551.argO (dk := k_api_JNode) hp552 [] rfl 0 rfl rfl h96 (me 0 rfl) (Cells.flat _)) (hL551.tt hp552 hG1 (me 1 rfl)) (hL551.tt hp552 hG2 (me 1 rfl)) (hL551.hFl (Sl := ([] : List Snap)) hp552 (sels [] rfl)) (hL551.into hp552 (Fl ([] : List Snap))) r553 hv554) ?_
        rintro _ w555 ⟨rfl, hM556⟩
        have hL557 := hL551.call hp552 hM556
        refine ⟨_, _, _, rfl, hL557, ?_⟩
        refine w_end 4 rfl ?_
        refine g_region (c := q3c55) rfl rfl ?_
        refine wl_v 0 rfl (v_move rfl) gn rfl ?_
        refine wl_v 1 rfl (v_move rfl) gn rfl ?_
        obtain ⟨r561, hv562, h⟩ := h
        refine wl_s 2 rfl (s_call [.slice A93 n94 c95, .int .i64 x325] rfl Tryd.func16 rfl rfl rfl fun w558 hL559 => ?_) gn
        have hp560 : List.Perm ([.own (.slice A93 n94 c95) 31 4 n94 (x45.flatMap enc_api_JNode)] : List Ent) (([] : List Ent) ++ ([.own (.slice A93 n94 c95) 31 4 n94 (x45.flatMap enc_api_JNode)] : List Ent)) := perm_of_idx [] [0] rfl rfl (by kernel_rfl)
        refine Calls.mono (json_Int_calls w558 (Fl ([] : List Snap)) x45 x325 A93 n94 c95 (hL559.argO (dk := k_api_JNode) hp560 [] rfl 0 rfl rfl h96 (me 0 rfl) (Cells.flat _)) (hL559.tt hp560 hG1 (me 1 rfl)) (hL559.tt hp560 hG2 (me 1 rfl)) (hL559.hFl (Sl := ([] : List Snap)) hp560 (sels [] rfl)) (hL559.into hp560 (Fl ([] : List Snap))) r561 hv562) ?_
        rintro _ w563 ⟨rfl, hM564⟩
        have hL565 := hL559.call hp560 hM564
        refine ⟨_, _, _, rfl, hL565, ?_⟩
        refine w_end 3 rfl ?_
        refine g_inBlock ?_
        refine g_region (c := q3c52) rfl rfl ?_
        refine wl_v 0 rfl (v_move rfl) gn rfl ?_
        refine wl_v 1 rfl (v_bin rfl rfl rfl) gn rfl ?_
        refine wl_v 2 rfl (v_assign rfl) gn rfl ?_
        refine w_end 3 rfl ?_
        refine g_inLoop ?_
        have ih := Out.inl hO1 h
        exact g_go [0, 1] (ih ()) ⟨rfl, rfl, rfl, rfl, rfl, trivial⟩ (.cons_cons _ (.slnil)) rfl
       ·have h := if_neg' hp549 h
        refine g_false (c := q3c48) rfl _ rfl ((bf hp549)) ?_
        refine g_exit (c := q3c50) [.code q3c40] rfl rfl ?_
        refine g_seq (c := q3c40) rfl ?_
        refine g_region (c := q3c56) rfl rfl ?_
        refine wl_v 0 rfl (v_move rfl) gn rfl ?_
        obtain ⟨r569, hv570, h⟩ := h
        refine wl_s 1 rfl (s_call [.slice A93 n94 c95] rfl Tryd.func20 rfl rfl rfl fun w566 hL567 => ?_) gn
        have hp568 : List.Perm ([.own (.slice A93 n94 c95) 31 4 n94 (x45.flatMap enc_api_JNode)] : List Ent) (([.own (.slice A93 n94 c95) 31 4 n94 (x45.flatMap enc_api_JNode)] : List Ent) ++ ([] : List Ent)) := perm_of_idx [0] [] rfl rfl (by kernel_rfl)
        refine Calls.mono (trellislaw25_over_calls w566 (Fl ([] : List Snap)) x45 w.heap.size A93 n94 c95 hL567.env.size h96 (hL567.hFl (Sl := ([] : List Snap)) hp568 (sels [] rfl)) (hL567.into hp568 (Fl ([] : List Snap))) r569 hv570) ?_
        rintro _ w571 ⟨rfl, hM572, h574⟩
        have hL573 := hL567.call hp568 hM572
        refine ⟨_, _, _, rfl, hL573, ?_⟩
        refine w_end 2 rfl ?_
        refine g_seq (c := q3c57) rfl ?_
        refine g_region (c := q3c58) rfl rfl ?_
        refine wl_v 0 rfl (v_move rfl) gn rfl ?_
        obtain ⟨r578, hv579, h⟩ := h
        refine wl_s 1 rfl (s_call [.slice A93 n94 c95] rfl Tryd.func13 rfl rfl rfl fun w575 hL576 => ?_) gn
        have hp577 : List.Perm ([.own (.slice A93 n94 c95) 31 4 n94 (r569.flatMap enc_api_JNode)] : List Ent) (([] : List Ent) ++ ([.own (.slice A93 n94 c95) 31 4 n94 (r569.flatMap enc_api_JNode)] : List Ent)) := perm_of_idx [] [0] rfl rfl (by kernel_rfl)
        refine Calls.mono (trellislaw25_twin_calls w575 (Fl ([] : List Snap)) r569 A93 n94 c95 (hL576.argO (dk := k_api_JNode) hp577 [] rfl 0 rfl rfl h574 (me 0 rfl) (Cells.flat _)) (hL576.hFl (Sl := ([] : List Snap)) hp577 (sels [] rfl)) (hL576.into hp577 (Fl ([] : List Snap))) r578 hv579) ?_
        rintro _ w585 ⟨A580, n581, c582, rfl, hM586, h583⟩
        have hL587 := hL576.call hp577 hM586
        refine ⟨_, _, _, rfl, hL587, ?_⟩
        refine wl_v 2 rfl (v_assign rfl) gn rfl ?_
        refine w_end 3 rfl ?_
        refine g_seq (c := q3c59) rfl ?_
        refine g_region (c := q3c60) rfl rfl ?_
        refine wl_v 0 rfl (v_move rfl) gn rfl ?_
        refine wl_v 1 rfl (v_move rfl) gn rfl ?_
        obtain ⟨r591, hv592, h⟩ := h
        refine wl_s 2 rfl (s_call [.slice A93 n94 c95, .int .i64 x6] rfl Tryd.func16 rfl rfl rfl fun w588 hL589 => ?_) gn
        have hp590 : List.Perm ([.own (.slice A580 n581 c582) 31 4 n581 (r578.flatMap enc_api_JNode), .own (.slice A93 n94 c95) 31 4 n94 (r569.flatMap enc_api_JNode)] : List Ent) (([] : List Ent) ++ ([.own (.slice A580 n581 c582) 31 4 n581 (r578.flatMap enc_api_JNode), .own (.slice A93 n94 c95) 31 4 n94 (r569.flatMap enc_api_JNode)] : List Ent)) := perm_of_idx [] [0, 1] rfl rfl (by kernel_rfl)
        refine Calls.mono (json_Int_calls w588 (Fl ([] : List Snap)) r569 x6 A93 n94 c95 (hL589.argO (dk := k_api_JNode) hp590 [] rfl 1 rfl rfl h574 (me 0 rfl) (Cells.flat _)) (hL589.tt hp590 hG1 (me 1 rfl)) (hL589.tt hp590 hG2 (me 1 rfl)) (hL589.hFl (Sl := ([] : List Snap)) hp590 (sels [] rfl)) (hL589.into hp590 (Fl ([] : List Snap))) r591 hv592) ?_
        rintro _ w593 ⟨rfl, hM594⟩
        have hL595 := hL589.call hp590 hM594
        refine ⟨_, _, _, rfl, hL595, ?_⟩
        refine wl_v 3 rfl (v_move rfl) gn rfl ?_
        refine wl_v 4 rfl (v_extract rfl rfl) gn rfl ?_
        refine wl_v 5 rfl (v_extract rfl rfl) gn rfl ?_
        refine wl_v 6 rfl (v_assign rfl) gn rfl ?_
        refine wl_v 7 rfl (v_assign rfl) gn rfl ?_
        refine w_end 8 rfl ?_
        refine g_seq (c := q3c61) rfl ?_
        refine g_region (c := q3c62) rfl rfl ?_
        refine wl_v 0 rfl (v_move rfl) gn rfl ?_
        refine wl_v 1 rfl (v_move rfl) gn rfl ?_
        obtain ⟨r599, hv600, h⟩ := h
        refine wl_s 2 rfl (s_call [.slice A580 n581 c582, .int .i64 x6] rfl Tryd.func17 rfl rfl rfl fun w596 hL597 => ?_) gn
        have hp598 : List.Perm ([.own (.slice A580 n581 c582) 31 4 n581 (r578.flatMap enc_api_JNode), .own (.slice A93 n94 c95) 31 4 n94 (r569.flatMap enc_api_JNode)] : List Ent) (([] : List Ent) ++ ([.own (.slice A580 n581 c582) 31 4 n581 (r578.flatMap enc_api_JNode), .own (.slice A93 n94 c95) 31 4 n94 (r569.flatMap enc_api_JNode)] : List Ent)) := perm_of_idx [] [0, 1] rfl rfl (by kernel_rfl)
        refine Calls.mono (trellisref25_Int_calls w596 (Fl ([] : List Snap)) r578 x6 A580 n581 c582 (hL597.argO (dk := k_api_JNode) hp598 [] rfl 0 rfl rfl (Ow.weak hL576.env.size h583) (me 0 rfl) (Cells.flat _)) (hL597.hFl (Sl := ([] : List Snap)) hp598 (sels [] rfl)) (hL597.into hp598 (Fl ([] : List Snap))) r599 hv600) ?_
        rintro _ w601 ⟨rfl, hM602⟩
        have hL603 := hL597.call hp598 hM602
        refine ⟨_, _, _, rfl, hL603, ?_⟩
        refine wl_v 3 rfl (v_move rfl) gn rfl ?_
        refine wl_v 4 rfl (v_extract rfl rfl) gn rfl ?_
        refine wl_v 5 rfl (v_extract rfl rfl) gn rfl ?_
        refine wl_v 6 rfl (v_assign rfl) gn rfl ?_
        refine wl_v 7 rfl (v_assign rfl) gn rfl ?_
        refine w_end 8 rfl ?_
        refine g_seq (c := q3c63) rfl ?_
        refine g_seq (c := q3c64) rfl ?_
        have j5 : ∀ (x623 : Bool) (h : trellislaw25_JsonAsks_j5 r569 r578 x103 x623 o1) , G (trellislaw25_JsonAsks_C w F r) [.code q3c67, .code q3c65] [(9, .slice A93 n94 c95), (15, .string x103), (17, .slice A580 n581 c582), (132, .bool x623)] [.own (.slice A580 n581 c582) 31 4 n581 (r578.flatMap enc_api_JNode), .own (.slice A93 n94 c95) 31 4 n94 (r569.flatMap enc_api_JNode)] [Sm w.heap.size F w [], St w []] := by
         intro x623 h
         unfold trellislaw25_JsonAsks_j5 at h
         by_cases hp624 : x623 = true
         ·have h := if_pos' hp624 h
          refine g_true (c := q3c67) rfl _ rfl (hp624) ?_
          refine g_seq (c := q3c68) rfl ?_
          refine g_region (c := q3c70) rfl rfl ?_
          refine wl_v 0 rfl (v_assign rfl) gn rfl ?_
          refine w_end 1 rfl ?_
          have h := Out.inr hO1 h
          refine g_retR (c := q3c71) [.bool false] rfl Tryd.func3 rfl (.tmp rfl (.nil)) fun wr hLr => ?_
          have hMr : B.Loc w wr [] [St w []] := hLr.pick0 (sels [1] rfl)
          show trellislaw25_JsonAsks_R w F  r (.returned (packV [.bool false])) wr
          rw [h]
          exact ⟨rfl, hMr⟩
         ·have h := if_neg' hp624 h
          refine g_false (c := q3c67) rfl _ rfl ((bf hp624)) ?_
          refine g_skip (c := q3c69) rfl ?_
          refine g_seq (c := q3c65) rfl ?_
          refine g_seq (c := q3c72) rfl ?_
          refine g_region (c := q3c74) rfl rfl ?_
          refine wl_v 0 rfl (v_assign rfl) gn rfl ?_
          refine w_end 1 rfl ?_
          refine g_block (c := q3c75) rfl ?_
          refine g_loop (c := q3c76) rfl ?_
          have key6 : ∀ s, Rounds (fun (s : Int) o => trellislaw25_JsonAsks_b6 r569 r578 x103 s o) s o1 → (fun (s : Int) => ∀ (_ : Unit), G (trellislaw25_JsonAsks_C w F r) [.code q3c77, .inLoop q3c77, .inBlock 2, .code q3c73] [(9, .slice A93 n94 c95), (15, .string x103), (17, .slice A580 n581 c582), (22, .int .i64 s)] [.own (.slice A580 n581 c582) 31 4 n581 (r578.flatMap enc_api_JNode), .own (.slice A93 n94 c95) 31 4 n94 (r569.flatMap enc_api_JNode)] [Sm w.heap.size F w [], St w []]) s := by
           intro s hs
           refine Rounds.ind (mot := (fun (s : Int) => ∀ (_ : Unit), G (trellislaw25_JsonAsks_C w F r) [.code q3c77, .inLoop q3c77, .inBlock 2, .code q3c73] [(9, .slice A93 n94 c95), (15, .string x103), (17, .slice A580 n581 c582), (22, .int .i64 s)] [.own (.slice A580 n581 c582) 31 4 n581 (r578.flatMap enc_api_JNode), .own (.slice A93 n94 c95) 31 4 n94 (r569.flatMap enc_api_JNode)] [Sm w.heap.size F w [], St w []])) ?_ hs
           clear hs s
           intro x666 o2 h hO2
           show ∀ (_ : Unit), G (trellislaw25_JsonAsks_C w F r) [.code q3c77, .inLoop q3c77, .inBlock 2, .code q3c73] [(9, .slice A93 n94 c95), (15, .string x103), (17, .slice A580 n581 c582), (22, .int .i64 x666)] [.own (.slice A580 n581 c582) 31 4 n581 (r578.flatMap enc_api_JNode), .own (.slice A93 n94 c95) 31 4 n94 (r569.flatMap enc_api_JNode)] [Sm w.heap.size F w [], St w []]
           intro _
           have h : trellislaw25_JsonAsks_b6 r569 r578 x103 x666 o2 := h
           unfold trellislaw25_JsonAsks_b6 at h
           refine g_seq (c := q3c77) rfl ?_
           refine g_seq (c := q3c78) rfl ?_
           have j7 : ∀ (x709 : Bool) (h : trellislaw25_JsonAsks_j7 r569 x666 r578 x103 x709 o2) , G (trellislaw25_JsonAsks_C w F r) [.code q3c81, .code q3c79, .inLoop q3c77, .inBlock 2, .code q3c73] [(9, .slice A93 n94 c95), (15, .string x103), (17, .slice A580 n581 c582), (22, .int .i64 x666), (140, .bool x709)] [.own (.slice A580 n581 c582) 31 4 n581 (r578.flatMap enc_api_JNode), .own (.slice A93 n94 c95) 31 4 n94 (r569.flatMap enc_api_JNode)] [Sm w.heap.size F w [], St w []] := by
            intro x709 h
            unfold trellislaw25_JsonAsks_j7 at h
            by_cases hp710 : x709 = true
            ·have h := if_pos' hp710 h
             refine g_true (c := q3c81) rfl _ rfl (hp710) ?_
             refine g_skip (c := q3c82) rfl ?_
             refine g_seq (c := q3c79) rfl ?_
             refine g_block (c := q3c84) rfl ?_
             refine g_seq (c := q3c86) rfl ?_
             refine g_region (c := q3c87) rfl rfl ?_
             refine wl_v 0 rfl (v_move rfl) gn rfl ?_
             refine wl_v 1 rfl (v_move rfl) gn rfl ?_
             obtain ⟨r714, hv715, h⟩ := h
             refine wl_s 2 rfl (s_call [.slice A93 n94 c95, .int .i64 x666] rfl Tryd.func16 rfl rfl rfl fun w711 hL712 => ?_) gn
             have hp713 : List.Perm ([.own (.slice A580 n581 c582) 31 4 n581 (r578.flatMap enc_api_JNode), .own (.slice A93 n94 c95) 31 4 n94 (r569.flatMap enc_api_JNode)] : List Ent) (([] : List Ent) ++ ([.own (.slice A580 n581 c582) 31 4 n581 (r578.flatMap enc_api_JNode), .own (.slice A93 n94 c95) 31 4 n94 (r569.flatMap enc_api_JNode)] : List Ent)) := perm_of_idx [] [0, 1] rfl rfl (by kernel_rfl)
             refine Calls.mono (json_Int_calls w711 (Fl ([] : List Snap)) r569 x666 A93 n94 c95 (hL712.argO (dk := k_api_JNode) hp713 [] rfl 1 rfl rfl h574 (me 0 rfl) (Cells.flat _)) (hL712.tt hp713 hG1 (me 1 rfl)) (hL712.tt hp713 hG2 (me 1 rfl)) (hL712.hFl (Sl := ([] : List Snap)) hp713 (sels [] rfl)) (hL712.into hp713 (Fl ([] : List Snap))) r714 hv715) ?_
             rintro _ w716 ⟨rfl, hM717⟩
             have hL718 := hL712.call hp713 hM717
             refine ⟨_, _, _, rfl, hL718, ?_⟩
             refine wl_v 3 rfl (v_move rfl) gn rfl ?_
             refine wl_v 4 rfl (v_extract rfl rfl) gn rfl ?_
             refine wl_v 5 rfl (v_extract rfl rfl) gn rfl ?_
             refine wl_v 6 rfl (v_assign rfl) gn rfl ?_
             refine wl_v 7 rfl (v_assign rfl) gn rfl ?_
             refine w_end 8 rfl ?_
             refine g_seq (c := q3c88) rfl ?_
             refine g_region (c := q3c89) rfl rfl ?_
             refine wl_v 0 rfl (v_move rfl) gn rfl ?_
             refine wl_v 1 rfl (v_move rfl) gn rfl ?_
             obtain ⟨r722, hv723, h⟩ := h
             refine wl_s 2 rfl (s_call [.slice A580 n581 c582, .int .i64 x666] rfl Tryd.func17 rfl rfl rfl fun w719 hL720 => ?_) gn
             have hp721 : List.Perm ([.own (.slice A580 n581 c582) 31 4 n581 (r578.flatMap enc_api_JNode), .own (.slice A93 n94 c95) 31 4 n94 (r569.flatMap enc_api_JNode)] : List Ent) (([] : List Ent) ++ ([.own (.slice A580 n581 c582) 31 4 n581 (r578.flatMap enc_api_JNode), .own (.slice A93 n94 c95) 31 4 n94 (r569.flatMap enc_api_JNode)] : List Ent)) := perm_of_idx [] [0, 1] rfl rfl (by kernel_rfl)
             refine Calls.mono (trellisref25_Int_calls w719 (Fl ([] : List Snap)) r578 x666 A580 n581 c582 (hL720.argO (dk := k_api_JNode) hp721 [] rfl 0 rfl rfl (Ow.weak hL576.env.size h583) (me 0 rfl) (Cells.flat _)) (hL720.hFl (Sl := ([] : List Snap)) hp721 (sels [] rfl)) (hL720.into hp721 (Fl ([] : List Snap))) r722 hv723) ?_
             rintro _ w724 ⟨rfl, hM725⟩
             have hL726 := hL720.call hp721 hM725
             refine ⟨_, _, _, rfl, hL726, ?_⟩
             refine wl_v 3 rfl (v_move rfl) gn rfl ?_
             refine wl_v 4 rfl (v_extract rfl rfl) gn rfl ?_
             refine wl_v 5 rfl (v_extract rfl rfl) gn rfl ?_
             refine wl_v 6 rfl (v_assign rfl) gn rfl ?_
             refine wl_v 7 rfl (v_assign rfl) gn rfl ?_
             refine w_end 8 rfl ?_
             refine g_seq (c := q3c90) rfl ?_
             refine g_region (c := q3c91) rfl rfl ?_
             refine wl_v 0 rfl (v_move rfl) gn rfl ?_
             refine wl_v 1 rfl (v_move rfl) gn rfl ?_
             refine wl_v 2 rfl (v_move rfl) gn rfl ?_
             obtain ⟨r730, hv731, h⟩ := h
             refine wl_s 3 rfl (s_call [.slice A93 n94 c95, .int .i64 x666, .string x103] rfl Tryd.func15 rfl rfl rfl fun w727 hL728 => ?_) gn
             have hp729 : List.Perm ([.own (.slice A580 n581 c582) 31 4 n581 (r578.flatMap enc_api_JNode), .own (.slice A93 n94 c95) 31 4 n94 (r569.flatMap enc_api_JNode)] : List Ent) (([] : List Ent) ++ ([.own (.slice A580 n581 c582) 31 4 n581 (r578.flatMap enc_api_JNode), .own (.slice A93 n94 c95) 31 4 n94 (r569.flatMap enc_api_JNode)] : List Ent)) := perm_of_idx [] [0, 1] rfl rfl (by kernel_rfl)
             refine Calls.mono (json_Member_calls w727 (Fl ([] : List Snap)) r569 x666 x103 A93 n94 c95 (hL728.argO (dk := k_api_JNode) hp729 [] rfl 1 rfl rfl h574 (me 0 rfl) (Cells.flat _)) (hL728.tt hp729 hG1 (me 1 rfl)) (hL728.tt hp729 hG2 (me 1 rfl)) (hL728.hFl (Sl := ([] : List Snap)) hp729 (sels [] rfl)) (hL728.into hp729 (Fl ([] : List Snap))) r730 hv731) ?_
             rintro _ w732 ⟨rfl, hM733⟩
             have hL734 := hL728.call hp729 hM733
             refine ⟨_, _, _, rfl, hL734, ?_⟩
             refine wl_v 4 rfl (v_move rfl) gn rfl ?_
             refine wl_v 5 rfl (v_move rfl) gn rfl ?_
             refine wl_v 6 rfl (v_move rfl) gn rfl ?_
             obtain ⟨r738, hv739, h⟩ := h
             refine wl_s 7 rfl (s_call [.slice A580 n581 c582, .int .i64 x666, .string x103] rfl Tryd.func18 rfl rfl rfl fun w735 hL736 => ?_) gn
             have hp737 : List.Perm ([.own (.slice A580 n581 c582) 31 4 n581 (r578.flatMap enc_api_JNode), .own (.slice A93 n94 c95) 31 4 n94 (r569.flatMap enc_api_JNode)] : List Ent) (([] : List Ent) ++ ([.own (.slice A580 n581 c582) 31 4 n581 (r578.flatMap enc_api_JNode), .own (.slice A93 n94 c95) 31 4 n94 (r569.flatMap enc_api_JNode)] : List Ent)) := perm_of_idx [] [0, 1] rfl rfl (by kernel_rfl)
             refine Calls.mono (trellisref25_Member_calls w735 (Fl ([] : List Snap)) r578 x666 x103 A580 n581 c582 (hL736.argO (dk := k_api_JNode) hp737 [] rfl 0 rfl rfl (Ow.weak hL576.env.size h583) (me 0 rfl) (Cells.flat _)) (hL736.hFl (Sl := ([] : List Snap)) hp737 (sels [] rfl)) (hL736.into hp737 (Fl ([] : List Snap))) r738 hv739) ?_
             rintro _ w740 ⟨rfl, hM741⟩
             have hL742 := hL736.call hp737 hM741
             refine ⟨_, _, _, rfl, hL742, ?_⟩
             refine wl_v 8 rfl (v_bin rfl rfl rfl) gn rfl ?_
             refine wl_v 9 rfl (v_move rfl) gn rfl ?_
             by_cases hp743 : r730 = r738
             ·have h := if_pos' hp743 h
              refine w_bool 164 rfl ((eqib hp743)) ?_
              refine wl_v 10 rfl (v_move rfl) (gy 164 rfl rfl) rfl ?_
              refine wl_v 11 rfl (v_move rfl) (gy 164 rfl rfl) rfl ?_
              refine wl_v 12 rfl (v_bin rfl rfl rfl) (gy 164 rfl rfl) rfl ?_
              refine wl_v 13 rfl (v_pick (b := false) rfl rfl) gn rfl ?_
              refine wl_v 14 rfl (v_move rfl) gn rfl ?_
              by_cases hp744 : r714.1 = r722.1
              ·have h := if_pos' hp744 h
               refine w_bool 169 rfl ((eqib hp744)) ?_
               refine wl_v 15 rfl (v_move rfl) (gy 169 rfl rfl) rfl ?_
               refine wl_v 16 rfl (v_move rfl) (gy 169 rfl rfl) rfl ?_
               refine wl_v 17 rfl (v_neB un_4 rfl rfl) (gy 169 rfl rfl) rfl ?_
               refine wl_v 18 rfl (v_pick (b := false) rfl rfl) gn rfl ?_
               refine w_end 19 rfl ?_
               by_cases hp745 : (r714.2 != r722.2) = true
               ·have h := if_pos' hp745 h
                refine g_true (c := q3c92) rfl _ rfl (hp745) ?_
                refine g_seq (c := q3c93) rfl ?_
                refine g_region (c := q3c95) rfl rfl ?_
                refine wl_v 0 rfl (v_assign rfl) gn rfl ?_
                refine w_end 1 rfl ?_
                have h := Out.inr hO2 h
                have h := Out.inr hO1 h
                refine g_retR (c := q3c96) [.bool false] rfl Tryd.func3 rfl (.tmp rfl (.nil)) fun wr hLr => ?_
                have hMr : B.Loc w wr [] [St w []] := hLr.pick0 (sels [1] rfl)
                show trellislaw25_JsonAsks_R w F  r (.returned (packV [.bool false])) wr
                rw [h]
                exact ⟨rfl, hMr⟩
               ·have h := if_neg' hp745 h
                refine g_false (c := q3c92) rfl _ rfl ((bf hp745)) ?_
                refine g_skip (c := q3c94) rfl ?_
                refine g_inBlock ?_
                refine g_region (c := q3c85) rfl rfl ?_
                refine wl_v 0 rfl (v_move rfl) gn rfl ?_
                refine wl_v 1 rfl (v_bin rfl rfl rfl) gn rfl ?_
                refine wl_v 2 rfl (v_assign rfl) gn rfl ?_
                refine w_end 3 rfl ?_
                refine g_inLoop ?_
                have ih := Out.inl hO2 h
                exact g_go [0, 1] (ih ()) ⟨rfl, rfl, rfl, rfl, trivial⟩ (.cons_cons _ (.cons_cons _ (.slnil))) rfl
              ·have h := if_neg' hp744 h
               refine w_bool 169 rfl ((neib hp744)) ?_
               refine wl_pass 15 rfl (ps 169 rfl rfl rfl) ?_
               refine wl_pass 16 rfl (ps 169 rfl rfl rfl) ?_
               refine wl_pass 17 rfl (ps 169 rfl rfl rfl) ?_
               refine wl_v 18 rfl (v_pick (b := true) rfl rfl) gn rfl ?_
               refine w_end 19 rfl ?_
               refine g_true (c := q3c92) rfl _ rfl (rfl) ?_
               refine g_seq (c := q3c93) rfl ?_
               refine g_region (c := q3c95) rfl rfl ?_
               refine wl_v 0 rfl (v_assign rfl) gn rfl ?_
               refine w_end 1 rfl ?_
               have h := Out.inr hO2 h
               have h := Out.inr hO1 h
               refine g_retR (c := q3c96) [.bool false] rfl Tryd.func3 rfl (.tmp rfl (.nil)) fun wr hLr => ?_
               have hMr : B.Loc w wr [] [St w []] := hLr.pick0 (sels [1] rfl)
               show trellislaw25_JsonAsks_R w F  r (.returned (packV [.bool false])) wr
               rw [h]
               exact ⟨rfl, hMr⟩
             ·have h := if_neg' hp743 h
              refine w_bool 164 rfl ((neib hp743)) ?_
              refine wl_pass 10 rfl (ps 164 rfl rfl rfl) ?_
              refine wl_pass 11 rfl (ps 164 rfl rfl rfl) ?_
              refine wl_pass 12 rfl (ps 164 rfl rfl rfl) ?_
              refine wl_v 13 rfl (v_pick (b := true) rfl rfl) gn rfl ?_
              refine wl_v 14 rfl (v_move rfl) gn rfl ?_
              refine wl_pass 15 rfl (ps 169 rfl rfl rfl) ?_
              refine wl_pass 16 rfl (ps 169 rfl rfl rfl) ?_
              refine wl_pass 17 rfl (ps 169 rfl rfl rfl) ?_
              refine wl_v 18 rfl (v_pick (b := true) rfl rfl) gn rfl ?_
              refine w_end 19 rfl ?_
              refine g_true (c := q3c92) rfl _ rfl (rfl) ?_
              refine g_seq (c := q3c93) rfl ?_
              refine g_region (c := q3c95) rfl rfl ?_
              refine wl_v 0 rfl (v_assign rfl) gn rfl ?_
              refine w_end 1 rfl ?_
              have h := Out.inr hO2 h
              have h := Out.inr hO1 h
              refine g_retR (c := q3c96) [.bool false] rfl Tryd.func3 rfl (.tmp rfl (.nil)) fun wr hLr => ?_
              have hMr : B.Loc w wr [] [St w []] := hLr.pick0 (sels [1] rfl)
              show trellislaw25_JsonAsks_R w F  r (.returned (packV [.bool false])) wr
              rw [h]
              exact ⟨rfl, hMr⟩
            ·have h := if_neg' hp710 h
             refine g_false (c := q3c81) rfl _ rfl ((bf hp710)) ?_
             refine g_exit (c := q3c83) [.code q3c73] rfl rfl ?_
             refine g_seq (c := q3c73) rfl ?_
             refine g_region (c := q3c97) rfl rfl ?_
             refine wl_v 0 rfl (v_assign rfl) gn rfl ?_
             refine w_end 1 rfl ?_
             have h := Out.inr hO2 h
             have h := Out.inr hO1 h
             refine g_retR (c := q3c98) [.bool true] rfl Tryd.func3 rfl (.tmp rfl (.nil)) fun wr hLr => ?_
             have hMr : B.Loc w wr [] [St w []] := hLr.pick0 (sels [1] rfl)
             show trellislaw25_JsonAsks_R w F  r (.returned (packV [.bool true])) wr
             rw [h]
             exact ⟨rfl, hMr⟩
           refine g_region (c := q3c80) rfl rfl ?_
           refine wl_v 0 rfl (v_move rfl) gn rfl ?_
           refine wl_v 1 rfl (v_move rfl) gn rfl ?_
           refine wl_v 2 rfl (v_lenQ un_22 rfl h574.hq) gn rfl ?_
           refine wl_v 3 rfl (v_bin rfl rfl rfl) gn rfl ?_
           refine wl_v 4 rfl (v_move rfl) gn rfl ?_
           by_cases hp746 : x666 < (r569.length : Int)
           ·have h := if_pos' hp746 h
            refine w_bool 137 rfl ((decide_eq_true hp746)) ?_
            refine wl_v 5 rfl (v_move rfl) (gy 137 rfl rfl) rfl ?_
            refine wl_v 6 rfl (v_bin rfl rfl rfl) (gy 137 rfl rfl) rfl ?_
            refine wl_v 7 rfl (v_pick (b := true) rfl rfl) gn rfl ?_
            refine w_end 8 rfl ?_
            exact g_go [0, 1] (j7 (decide (x666 < 20)) h) ⟨rfl, rfl, rfl, rfl, rfl, trivial⟩ (.cons_cons _ (.cons_cons _ (.slnil))) rfl
           ·have h := if_neg' hp746 h
            refine w_bool 137 rfl ((decide_eq_false hp746)) ?_
            refine wl_pass 5 rfl (ps 137 rfl rfl rfl) ?_
            refine wl_pass 6 rfl (ps 137 rfl rfl rfl) ?_
            refine wl_v 7 rfl (v_pick (b := false) rfl rfl) gn rfl ?_
            refine w_end 8 rfl ?_
            exact g_go [0, 1] (j7 false h) ⟨rfl, rfl, rfl, rfl, rfl, trivial⟩ (.cons_cons _ (.cons_cons _ (.slnil))) rfl
          exact g_go [0, 1] (key6 _ h ()) ⟨rfl, rfl, rfl, rfl, trivial⟩ (.cons_cons _ (.cons_cons _ (.slnil))) rfl
        refine g_region (c := q3c66) rfl rfl ?_
        refine wl_v 0 rfl (v_move rfl) gn rfl ?_
        refine wl_v 1 rfl (v_move rfl) gn rfl ?_
        refine wl_v 2 rfl (v_move rfl) gn rfl ?_
        obtain ⟨r750, hv751, h⟩ := h
        refine wl_s 3 rfl (s_call [.slice A93 n94 c95, .int .i64 x6, .string x7] rfl Tryd.func15 rfl rfl rfl fun w747 hL748 => ?_) gn
        have hp749 : List.Perm ([.own (.slice A580 n581 c582) 31 4 n581 (r578.flatMap enc_api_JNode), .own (.slice A93 n94 c95) 31 4 n94 (r569.flatMap enc_api_JNode)] : List Ent) (([] : List Ent) ++ ([.own (.slice A580 n581 c582) 31 4 n581 (r578.flatMap enc_api_JNode), .own (.slice A93 n94 c95) 31 4 n94 (r569.flatMap enc_api_JNode)] : List Ent)) := perm_of_idx [] [0, 1] rfl rfl (by kernel_rfl)
        refine Calls.mono (json_Member_calls w747 (Fl ([] : List Snap)) r569 x6 x7 A93 n94 c95 (hL748.argO (dk := k_api_JNode) hp749 [] rfl 1 rfl rfl h574 (me 0 rfl) (Cells.flat _)) (hL748.tt hp749 hG1 (me 1 rfl)) (hL748.tt hp749 hG2 (me 1 rfl)) (hL748.hFl (Sl := ([] : List Snap)) hp749 (sels [] rfl)) (hL748.into hp749 (Fl ([] : List Snap))) r750 hv751) ?_
        rintro _ w752 ⟨rfl, hM753⟩
        have hL754 := hL748.call hp749 hM753
        refine ⟨_, _, _, rfl, hL754, ?_⟩
        refine wl_v 4 rfl (v_move rfl) gn rfl ?_
        refine wl_v 5 rfl (v_move rfl) gn rfl ?_
        refine wl_v 6 rfl (v_move rfl) gn rfl ?_
        obtain ⟨r758, hv759, h⟩ := h
        refine wl_s 7 rfl (s_call [.slice A580 n581 c582, .int .i64 x6, .string x7] rfl Tryd.func18 rfl rfl rfl fun w755 hL756 => ?_) gn
        have hp757 : List.Perm ([.own (.slice A580 n581 c582) 31 4 n581 (r578.flatMap enc_api_JNode), .own (.slice A93 n94 c95) 31 4 n94 (r569.flatMap enc_api_JNode)] : List Ent) (([] : List Ent) ++ ([.own (.slice A580 n581 c582) 31 4 n581 (r578.flatMap enc_api_JNode), .own (.slice A93 n94 c95) 31 4 n94 (r569.flatMap enc_api_JNode)] : List Ent)) := perm_of_idx [] [0, 1] rfl rfl (by kernel_rfl)
        refine Calls.mono (trellisref25_Member_calls w755 (Fl ([] : List Snap)) r578 x6 x7 A580 n581 c582 (hL756.argO (dk := k_api_JNode) hp757 [] rfl 0 rfl rfl (Ow.weak hL576.env.size h583) (me 0 rfl) (Cells.flat _)) (hL756.hFl (Sl := ([] : List Snap)) hp757 (sels [] rfl)) (hL756.into hp757 (Fl ([] : List Snap))) r758 hv759) ?_
        rintro _ w760 ⟨rfl, hM761⟩
        have hL762 := hL756.call hp757 hM761
        refine ⟨_, _, _, rfl, hL762, ?_⟩
        refine wl_v 8 rfl (v_bin rfl rfl rfl) gn rfl ?_
        refine wl_v 9 rfl (v_move rfl) gn rfl ?_
        by_cases hp763 : r750 = r758
        ·have h := if_pos' hp763 h
         refine w_bool 123 rfl ((eqib hp763)) ?_
         refine wl_v 10 rfl (v_move rfl) (gy 123 rfl rfl) rfl ?_
         refine wl_v 11 rfl (v_move rfl) (gy 123 rfl rfl) rfl ?_
         refine wl_v 12 rfl (v_bin rfl rfl rfl) (gy 123 rfl rfl) rfl ?_
         refine wl_v 13 rfl (v_pick (b := false) rfl rfl) gn rfl ?_
         refine wl_v 14 rfl (v_move rfl) gn rfl ?_
         by_cases hp764 : r591.1 = r599.1
         ·have h := if_pos' hp764 h
          refine w_bool 128 rfl ((eqib hp764)) ?_
          refine wl_v 15 rfl (v_move rfl) (gy 128 rfl rfl) rfl ?_
          refine wl_v 16 rfl (v_move rfl) (gy 128 rfl rfl) rfl ?_
          refine wl_v 17 rfl (v_neB un_4 rfl rfl) (gy 128 rfl rfl) rfl ?_
          refine wl_v 18 rfl (v_pick (b := false) rfl rfl) gn rfl ?_
          refine w_end 19 rfl ?_
          exact g_go [0, 1] (j5 (r591.2 != r599.2) h) ⟨rfl, rfl, rfl, rfl, trivial⟩ (.cons_cons _ (.cons_cons _ (.slnil))) rfl
         ·have h := if_neg' hp764 h
          refine w_bool 128 rfl ((neib hp764)) ?_
          refine wl_pass 15 rfl (ps 128 rfl rfl rfl) ?_
          refine wl_pass 16 rfl (ps 128 rfl rfl rfl) ?_
          refine wl_pass 17 rfl (ps 128 rfl rfl rfl) ?_
          refine wl_v 18 rfl (v_pick (b := true) rfl rfl) gn rfl ?_
          refine w_end 19 rfl ?_
          exact g_go [0, 1] (j5 true h) ⟨rfl, rfl, rfl, rfl, trivial⟩ (.cons_cons _ (.cons_cons _ (.slnil))) rfl
        ·have h := if_neg' hp763 h
         refine w_bool 123 rfl ((neib hp763)) ?_
         refine wl_pass 10 rfl (ps 123 rfl rfl rfl) ?_
         refine wl_pass 11 rfl (ps 123 rfl rfl rfl) ?_
         refine wl_pass 12 rfl (ps 123 rfl rfl rfl) ?_
         refine wl_v 13 rfl (v_pick (b := true) rfl rfl) gn rfl ?_
         refine wl_v 14 rfl (v_move rfl) gn rfl ?_
         refine wl_pass 15 rfl (ps 128 rfl rfl rfl) ?_
         refine wl_pass 16 rfl (ps 128 rfl rfl rfl) ?_
         refine wl_pass 17 rfl (ps 128 rfl rfl rfl) ?_
         refine wl_v 18 rfl (v_pick (b := true) rfl rfl) gn rfl ?_
         refine w_end 19 rfl ?_
         exact g_go [0, 1] (j5 true h) ⟨rfl, rfl, rfl, rfl, trivial⟩ (.cons_cons _ (.cons_cons _ (.slnil))) rfl
      refine g_region (c := q3c47) rfl rfl ?_
      refine wl_v 0 rfl (v_move rfl) gn rfl ?_
      refine wl_v 1 rfl (v_move rfl) gn rfl ?_
      refine wl_v 2 rfl (v_lenQ un_22 rfl h96.hq) gn rfl ?_
      refine wl_v 3 rfl (v_bin rfl rfl rfl) gn rfl ?_
      refine wl_v 4 rfl (v_move rfl) gn rfl ?_
      by_cases hp765 : x325 < (x45.length : Int)
      ·have h := if_pos' hp765 h
       refine w_bool 85 rfl ((decide_eq_true hp765)) ?_
       refine wl_v 5 rfl (v_move rfl) (gy 85 rfl rfl) rfl ?_
       refine wl_v 6 rfl (v_bin rfl rfl rfl) (gy 85 rfl rfl) rfl ?_
       refine wl_v 7 rfl (v_pick (b := true) rfl rfl) gn rfl ?_
       refine w_end 8 rfl ?_
       exact g_go [0, 1] (j4 (decide (x325 < 20)) h) ⟨rfl, rfl, rfl, rfl, rfl, rfl, trivial⟩ (.cons_cons _ (.slnil)) rfl
      ·have h := if_neg' hp765 h
       refine w_bool 85 rfl ((decide_eq_false hp765)) ?_
       refine wl_pass 5 rfl (ps 85 rfl rfl rfl) ?_
       refine wl_pass 6 rfl (ps 85 rfl rfl rfl) ?_
       refine wl_v 7 rfl (v_pick (b := false) rfl rfl) gn rfl ?_
       refine w_end 8 rfl ?_
       exact g_go [0, 1] (j4 false h) ⟨rfl, rfl, rfl, rfl, rfl, rfl, trivial⟩ (.cons_cons _ (.slnil)) rfl
     exact g_go [0, 1] (key3 _ h ()) ⟨rfl, rfl, rfl, rfl, rfl, trivial⟩ (.cons_cons _ (.slnil)) rfl
    by_cases hp99 : (x1.length : Int) > 0
    ·have h := if_pos' hp99 h
     refine g_true (c := q3c36) rfl _ rfl ((decide_eq_true hp99)) ?_
     refine g_region (c := q3c37) rfl rfl ?_
     refine wl_v 0 rfl (v_move rfl) gn rfl ?_
     refine wl_v 1 rfl (v_move rfl) gn rfl ?_
     refine wl_v 2 rfl (v_lenQ un_22 rfl h5.hq) gn rfl ?_
     refine wl_v 3 rfl (v_bin rfl rfl rfl) gn rfl ?_
     obtain ⟨hb766, h⟩ := h
     have hr767 := Rw.readF (s := St w []) (hl := hl_api_JNode) (h1 := h1_api_JNode) h5 hb766
     refine wl_v 4 rfl (v_idxR (s := St w []) slE_22 rfl rfl h5 hb766) gn rfl ?_
     refine wl_v 5 rfl (v_fldA fo_31_1 rfl) gn rfl ?_
     refine wl_v 6 rfl (v_ldA1 (kk := (w64 ((x1.length : Int) - 1) : Int).toNat * 4) (j := 1) (St w []) ld_9 rfl hr767 rfl (me 1 rfl)) gn rfl ?_
     refine wl_v 7 rfl (v_assign rfl) gn rfl ?_
     refine w_end 8 rfl ?_
     exact g_go [0, 1] (j2 ((ix x1 (w64 ((x1.length : Int) - 1))).key) h) ⟨rfl, rfl, rfl, rfl, trivial⟩ (.cons_cons _ (.slnil)) rfl
    ·have h := if_neg' hp99 h
     refine g_false (c := q3c36) rfl _ rfl ((decide_eq_false hp99)) ?_
     refine g_skip (c := q3c38) rfl ?_
     exact g_go [0, 1] (j2 (⟨#[]⟩ : ByteArray) h) ⟨rfl, rfl, rfl, rfl, trivial⟩ (.cons_cons _ (.slnil)) rfl
  refine g_region (c := q3c25) rfl rfl ?_
  refine wl_v 0 rfl (v_move rfl) gn rfl ?_
  refine wl_v 1 rfl (v_move rfl) gn rfl ?_
  refine wl_v 2 rfl (v_move rfl) gn rfl ?_
  refine wl_v 3 rfl (v_move rfl) gn rfl ?_
  obtain ⟨r771, hv772, h⟩ := h
  refine wl_s 4 rfl (s_call [.slice A22 n23 c24, .int .i64 x6, .string x7] rfl Tryd.func18 rfl rfl rfl fun w768 hL769 => ?_) gn
  have hp770 : List.Perm ([.own (.slice A35 n36 c37) 31 4 n36 (r33.flatMap enc_api_JNode), .own (.slice A22 n23 c24) 31 4 n23 (r20.flatMap enc_api_JNode)] : List Ent) (([] : List Ent) ++ ([.own (.slice A35 n36 c37) 31 4 n36 (r33.flatMap enc_api_JNode), .own (.slice A22 n23 c24) 31 4 n23 (r20.flatMap enc_api_JNode)] : List Ent)) := perm_of_idx [] [0, 1] rfl rfl (by kernel_rfl)
  refine Calls.mono (trellisref25_Member_calls w768 (Fl ([] : List Snap)) r20 x6 x7 A22 n23 c24 (hL769.argO (dk := k_api_JNode) hp770 [] rfl 1 rfl rfl (Ow.weak hL18.env.size h25) (me 0 rfl) (Cells.flat _)) (hL769.hFl (Sl := ([] : List Snap)) hp770 (sels [] rfl)) (hL769.into hp770 (Fl ([] : List Snap))) r771 hv772) ?_
  rintro _ w773 ⟨rfl, hM774⟩
  have hL775 := hL769.call hp770 hM774
  refine ⟨_, _, _, rfl, hL775, ?_⟩
  refine wl_v 5 rfl (v_bin rfl rfl rfl) gn rfl ?_
  refine wl_v 6 rfl (v_move rfl) gn rfl ?_
  by_cases hp776 : r51 = r771
  ·have h := if_pos' hp776 h
   refine w_bool 55 rfl ((eqib hp776)) ?_
   refine wl_v 7 rfl (v_move rfl) (gy 55 rfl rfl) rfl ?_
   refine wl_v 8 rfl (v_move rfl) (gy 55 rfl rfl) rfl ?_
   refine wl_v 9 rfl (v_bin rfl rfl rfl) (gy 55 rfl rfl) rfl ?_
   refine wl_v 10 rfl (v_pick (b := false) rfl rfl) gn rfl ?_
   refine wl_v 11 rfl (v_move rfl) gn rfl ?_
   by_cases hp777 : r59.1 = r68.1
   ·have h := if_pos' hp777 h
    refine w_bool 60 rfl ((eqib hp777)) ?_
    refine wl_v 12 rfl (v_move rfl) (gy 60 rfl rfl) rfl ?_
    refine wl_v 13 rfl (v_move rfl) (gy 60 rfl rfl) rfl ?_
    refine wl_v 14 rfl (v_neB un_4 rfl rfl) (gy 60 rfl rfl) rfl ?_
    refine wl_v 15 rfl (v_pick (b := false) rfl rfl) gn rfl ?_
    refine wl_v 16 rfl (v_move rfl) gn rfl ?_
    by_cases hp778 : (r59.2 != r68.2) = true
    ·have h := if_pos' hp778 h
     refine w_bool 65 rfl (hp778) ?_
     refine wl_pass 17 rfl (ps 65 rfl rfl rfl) ?_
     refine wl_pass 18 rfl (ps 65 rfl rfl rfl) ?_
     refine wl_pass 19 rfl (ps 65 rfl rfl rfl) ?_
     refine wl_pass 20 rfl (ps 65 rfl rfl rfl) ?_
     refine wl_v 21 rfl (v_pick (b := true) rfl rfl) gn rfl ?_
     refine w_end 22 rfl ?_
     have h779 : Ow w.heap.size A35 (((x1.length : Int) : Int).toNat) c37 x45 := (Ow.w (Ow.cut (Ow.weak hL31.env.size h38) hle44) (by rw [hv46]))
     refine g_short (j := 0) (m := (((x1.length : Int) : Int).toNat)) (cells' := x45.flatMap enc_api_JNode) rfl hle44 (by rw [fm_take hl_api_JNode, hv46]) ?_
     exact g_go [0, 1] (j1 true h A35 (((x1.length : Int) : Int).toNat) c37 h779) ⟨rfl, rfl, rfl, rfl, rfl, trivial⟩ (.cons_cons _ (.cons _ (.slnil))) rfl
    ·have h := if_neg' hp778 h
     refine w_bool 65 rfl ((bf hp778)) ?_
     refine wl_v 17 rfl (v_move rfl) (gy 65 rfl rfl) rfl ?_
     refine wl_v 18 rfl (v_move rfl) (gy 65 rfl rfl) rfl ?_
     obtain ⟨r783, hv784, h⟩ := h
     refine wl_s 19 rfl (s_call [.slice A35 n36 c37, .slice A22 n23 c24] rfl Tryd.func19 rfl rfl rfl fun w780 hL781 => ?_) (gy 65 rfl rfl)
     have hp782 : List.Perm ([.own (.slice A35 n36 c37) 31 4 n36 (r33.flatMap enc_api_JNode), .own (.slice A22 n23 c24) 31 4 n23 (r20.flatMap enc_api_JNode)] : List Ent) (([] : List Ent) ++ ([.own (.slice A35 n36 c37) 31 4 n36 (r33.flatMap enc_api_JNode), .own (.slice A22 n23 c24) 31 4 n23 (r20.flatMap enc_api_JNode)] : List Ent)) := perm_of_idx [] [0, 1] rfl rfl (by kernel_rfl)
     refine Calls.mono (trellislaw25_spared_calls w780 (Fl ([] : List Snap)) r33 r20 A35 n36 c37 A22 n23 c24 (hL781.argO (dk := k_api_JNode) hp782 [] rfl 0 rfl rfl (Ow.weak hL31.env.size h38) (me 0 rfl) (Cells.flat _)) (hL781.argO (dk := k_api_JNode) hp782 [] rfl 1 rfl rfl (Ow.weak hL18.env.size h25) (me 0 rfl) (Cells.flat _)) (hL781.hFl (Sl := ([] : List Snap)) hp782 (sels [] rfl)) (hL781.into hp782 (Fl ([] : List Snap))) r783 hv784) ?_
     rintro _ w785 ⟨rfl, hM786⟩
     have hL787 := hL781.call hp782 hM786
     refine ⟨_, _, _, rfl, hL787, ?_⟩
     refine wl_v 20 rfl (v_not rfl) (gy 65 rfl rfl) rfl ?_
     refine wl_v 21 rfl (v_pick (b := false) rfl rfl) gn rfl ?_
     refine w_end 22 rfl ?_
     have h788 : Ow w.heap.size A35 (((x1.length : Int) : Int).toNat) c37 x45 := (Ow.w (Ow.cut (Ow.weak hL31.env.size h38) hle44) (by rw [hv46]))
     refine g_short (j := 0) (m := (((x1.length : Int) : Int).toNat)) (cells' := x45.flatMap enc_api_JNode) rfl hle44 (by rw [fm_take hl_api_JNode, hv46]) ?_
     exact g_go [0, 1] (j1 (!r783) h A35 (((x1.length : Int) : Int).toNat) c37 h788) ⟨rfl, rfl, rfl, rfl, rfl, trivial⟩ (.cons_cons _ (.cons _ (.slnil))) rfl
   ·have h := if_neg' hp777 h
    refine w_bool 60 rfl ((neib hp777)) ?_
    refine wl_pass 12 rfl (ps 60 rfl rfl rfl) ?_
    refine wl_pass 13 rfl (ps 60 rfl rfl rfl) ?_
    refine wl_pass 14 rfl (ps 60 rfl rfl rfl) ?_
    refine wl_v 15 rfl (v_pick (b := true) rfl rfl) gn rfl ?_
    refine wl_v 16 rfl (v_move rfl) gn rfl ?_
    refine wl_pass 17 rfl (ps 65 rfl rfl rfl) ?_
    refine wl_pass 18 rfl (ps 65 rfl rfl rfl) ?_
    refine wl_pass 19 rfl (ps 65 rfl rfl rfl) ?_
    refine wl_pass 20 rfl (ps 65 rfl rfl rfl) ?_
    refine wl_v 21 rfl (v_pick (b := true) rfl rfl) gn rfl ?_
    refine w_end 22 rfl ?_
    have h789 : Ow w.heap.size A35 (((x1.length : Int) : Int).toNat) c37 x45 := (Ow.w (Ow.cut (Ow.weak hL31.env.size h38) hle44) (by rw [hv46]))
    refine g_short (j := 0) (m := (((x1.length : Int) : Int).toNat)) (cells' := x45.flatMap enc_api_JNode) rfl hle44 (by rw [fm_take hl_api_JNode, hv46]) ?_
    exact g_go [0, 1] (j1 true h A35 (((x1.length : Int) : Int).toNat) c37 h789) ⟨rfl, rfl, rfl, rfl, rfl, trivial⟩ (.cons_cons _ (.cons _ (.slnil))) rfl
  ·have h := if_neg' hp776 h
   refine w_bool 55 rfl ((neib hp776)) ?_
   refine wl_pass 7 rfl (ps 55 rfl rfl rfl) ?_
   refine wl_pass 8 rfl (ps 55 rfl rfl rfl) ?_
   refine wl_pass 9 rfl (ps 55 rfl rfl rfl) ?_
   refine wl_v 10 rfl (v_pick (b := true) rfl rfl) gn rfl ?_
   refine wl_v 11 rfl (v_move rfl) gn rfl ?_
   refine wl_pass 12 rfl (ps 60 rfl rfl rfl) ?_
   refine wl_pass 13 rfl (ps 60 rfl rfl rfl) ?_
   refine wl_pass 14 rfl (ps 60 rfl rfl rfl) ?_
   refine wl_v 15 rfl (v_pick (b := true) rfl rfl) gn rfl ?_
   refine wl_v 16 rfl (v_move rfl) gn rfl ?_
   refine wl_pass 17 rfl (ps 65 rfl rfl rfl) ?_
   refine wl_pass 18 rfl (ps 65 rfl rfl rfl) ?_
   refine wl_pass 19 rfl (ps 65 rfl rfl rfl) ?_
   refine wl_pass 20 rfl (ps 65 rfl rfl rfl) ?_
   refine wl_v 21 rfl (v_pick (b := true) rfl rfl) gn rfl ?_
   refine w_end 22 rfl ?_
   have h790 : Ow w.heap.size A35 (((x1.length : Int) : Int).toNat) c37 x45 := (Ow.w (Ow.cut (Ow.weak hL31.env.size h38) hle44) (by rw [hv46]))
   refine g_short (j := 0) (m := (((x1.length : Int) : Int).toNat)) (cells' := x45.flatMap enc_api_JNode) rfl hle44 (by rw [fm_take hl_api_JNode, hv46]) ?_
   exact g_go [0, 1] (j1 true h A35 (((x1.length : Int) : Int).toNat) c37 h790) ⟨rfl, rfl, rfl, rfl, rfl, trivial⟩ (.cons_cons _ (.cons _ (.slnil))) rfl
end Go.Proofs.YtmfopcbjgbphaaaDoor.K
