/- What the machine's calls do, function by function, printed by my own tool. Condition of each: its relation holds of the answer, and what is handed in lies in memory as told. -/
import Derived.Test.YtmfopcbjgbphaaaDoorK5
set_option linter.unusedVariables false
set_option maxRecDepth 100000
set_option maxHeartbeats 4000000
namespace Go.Proofs.YtmfopcbjgbphaaaDoor.K
open Go.Proofs.YtmfopcbjgbphaaaDoor.B Go.Proofs.YtmfopcbjgbphaaaDoor.R Go.RowKit
noncomputable abbrev q10c0 : Code := bodyOf Tryd.f10
noncomputable abbrev q10c1 : Code := Code.fst q10c0
noncomputable abbrev q10c2 : Code := Code.snd q10c0
noncomputable abbrev q10c3 : Code := Code.fst q10c2
noncomputable abbrev q10c4 : Code := Code.snd q10c2
noncomputable abbrev q10c5 : Code := Code.fst q10c3
noncomputable abbrev q10c6 : Code := Code.snd q10c3
noncomputable abbrev q10c7 : Code := Code.fst q10c6
noncomputable abbrev q10c8 : Code := Code.snd q10c6
noncomputable abbrev q10c9 : Code := Code.fst q10c4
noncomputable abbrev q10c10 : Code := Code.snd q10c4
noncomputable abbrev q10c11 : Code := Code.fst q10c10
noncomputable abbrev q10c12 : Code := Code.snd q10c10
noncomputable abbrev q10c13 : Code := Code.fst q10c12
noncomputable abbrev q10c14 : Code := Code.snd q10c12
noncomputable abbrev q10c15 : Code := Code.fst q10c14
noncomputable abbrev q10c16 : Code := Code.snd q10c14
noncomputable abbrev q10c17 : Code := Code.fst q10c15
noncomputable abbrev q10c18 : Code := Code.snd q10c15
noncomputable abbrev q10c19 : Code := Code.fst q10c18
noncomputable abbrev q10c20 : Code := Code.snd q10c18
noncomputable abbrev q10c21 : Code := Code.fst q10c19
noncomputable abbrev q10c22 : Code := Code.snd q10c19
noncomputable abbrev q10c23 : Code := Code.fst q10c16
noncomputable abbrev q10c24 : Code := Code.snd q10c16
noncomputable abbrev q10c25 : Code := Code.fst q10c23
noncomputable abbrev q10c26 : Code := Code.snd q10c23
noncomputable abbrev q10c27 : Code := Code.fst q10c26
noncomputable abbrev q10c28 : Code := Code.fst q10c27
noncomputable abbrev q10c29 : Code := Code.fst q10c28
noncomputable abbrev q10c30 : Code := Code.snd q10c28
noncomputable abbrev q10c31 : Code := Code.fst q10c29
noncomputable abbrev q10c32 : Code := Code.snd q10c29
noncomputable abbrev q10c33 : Code := Code.fst q10c32
noncomputable abbrev q10c34 : Code := Code.snd q10c32
noncomputable abbrev q10c35 : Code := Code.fst q10c30
noncomputable abbrev q10c36 : Code := Code.snd q10c30
noncomputable abbrev q10c37 : Code := Code.fst q10c35
noncomputable abbrev q10c38 : Code := Code.fst q10c24
noncomputable abbrev q10c39 : Code := Code.snd q10c24
noncomputable abbrev q10c40 : Code := Code.fst q10c39
noncomputable abbrev q10c41 : Code := Code.snd q10c39
noncomputable abbrev q10c42 : Code := Code.fst q10c40
noncomputable abbrev q10c43 : Code := Code.snd q10c40
noncomputable abbrev q10c44 : Code := Code.fst q10c43
noncomputable abbrev q10c45 : Code := Code.fst q10c44
noncomputable abbrev q10c46 : Code := Code.fst q10c45
noncomputable abbrev q10c47 : Code := Code.snd q10c45
noncomputable abbrev q10c48 : Code := Code.fst q10c46
noncomputable abbrev q10c49 : Code := Code.snd q10c46
noncomputable abbrev q10c50 : Code := Code.fst q10c49
noncomputable abbrev q10c51 : Code := Code.snd q10c49
noncomputable abbrev q10c52 : Code := Code.fst q10c47
noncomputable abbrev q10c53 : Code := Code.snd q10c47
noncomputable abbrev q10c54 : Code := Code.fst q10c52
noncomputable abbrev q10c55 : Code := Code.fst q10c41
noncomputable abbrev q10c56 : Code := Code.snd q10c41
noncomputable abbrev q10c57 : Code := Code.fst q10c55
noncomputable abbrev q10c58 : Code := Code.snd q10c55
noncomputable abbrev q10c59 : Code := Code.fst q10c58
noncomputable abbrev q10c60 : Code := Code.fst q10c59
noncomputable abbrev q10c61 : Code := Code.fst q10c60
noncomputable abbrev q10c62 : Code := Code.snd q10c60
noncomputable abbrev q10c63 : Code := Code.fst q10c61
noncomputable abbrev q10c64 : Code := Code.snd q10c61
noncomputable abbrev q10c65 : Code := Code.fst q10c64
noncomputable abbrev q10c66 : Code := Code.snd q10c64
noncomputable abbrev q10c67 : Code := Code.fst q10c56
noncomputable abbrev q10c68 : Code := Code.snd q10c56
noncomputable abbrev q10c69 : Code := Code.fst q10c68
noncomputable abbrev q10c70 : Code := Code.snd q10c68
noncomputable abbrev q10c71 : Code := Code.fst q10c62
noncomputable abbrev q10c72 : Code := Code.snd q10c62
noncomputable abbrev q10c73 : Code := Code.fst q10c71
noncomputable abbrev q10c74 : Code := Code.fst q10c73
noncomputable abbrev q10c75 : Code := Code.snd q10c73
noncomputable abbrev q10c76 : Code := Code.fst q10c75
noncomputable abbrev q10c77 : Code := Code.snd q10c75
noncomputable abbrev q10c78 : Code := Code.fst q10c76
noncomputable abbrev q10c79 : Code := Code.snd q10c76
noncomputable abbrev q10c80 : Code := Code.fst q10c7
noncomputable abbrev q10c81 : Code := Code.snd q10c7
abbrev trellislaw25_JsonSpares_R (w : World) (F : Nat → Prop) (r : Bool) : Ending → World → Prop := fun e w' => e = .returned (.bool r) ∧ B.Loc w w' [] [St w []]
noncomputable abbrev trellislaw25_JsonSpares_C (w : World) (F : Nat → Prop) (r : Bool) : Cx := ⟨Tryd.prog, 10, Tryd.f10, 95, trellislaw25_JsonSpares_R w F  r, w⟩
theorem trellislaw25_JsonSpares_calls (w : World) (F : Nat → Prop) (x1 : ByteArray) (hG0 : Tt .u8 tb_0 0 (St w [])) (hG1 : Tt .u8 tb_1 1 (St w [])) (hG2 : Tt .u8 tb_2 2 (St w [])) (hG3 : Tt .u8 tb_3 3 (St w [])) (hF : ∀ b, F b → b < w.heap.size ∧ ∀ o ∈ ([] : List (List Nat)), b ∉ o) (hL0 : B.Loc w w [] [Sm w.heap.size F w [], St w []]) (r : Bool) (h : trellislaw25_JsonSpares x1 r) : Calls Tryd.prog 10 #[.string x1] w (trellislaw25_JsonSpares_R w F  r) := by
 unfold trellislaw25_JsonSpares at h
 refine calls_of_Loc (vs := [.string x1]) 95 Tryd.func10 rfl Tryd.ntmps10 rfl hL0 ?_
 show G (trellislaw25_JsonSpares_C w F r) _ _ _ _
 refine g_seq (c := q10c0) rfl ?_
 refine g_region (c := q10c1) rfl rfl ?_
 refine wl_v 0 rfl (v_assign rfl) gn rfl ?_
 refine w_end 1 rfl ?_
 refine g_seq (c := q10c2) rfl ?_
 refine g_seq (c := q10c3) rfl ?_
 refine g_region (c := q10c5) rfl rfl ?_
 obtain ⟨r5, hv6, h⟩ := h
 refine wl_s 0 rfl (s_call [] rfl Tryd.func28 rfl rfl rfl fun w2 hL3 => ?_) gn
 have hp4 : List.Perm ([] : List Ent) (([] : List Ent) ++ ([] : List Ent)) := perm_of_idx [] [] rfl rfl (by kernel_rfl)
 refine Calls.mono (trellislaw25_started_calls w2 (Fl ([] : List Snap)) (hL3.tt hp4 hG0 (me 1 rfl)) (hL3.tt hp4 hG1 (me 1 rfl)) (hL3.tt hp4 hG2 (me 1 rfl)) (hL3.tt hp4 hG3 (me 1 rfl)) (hL3.hFl (Sl := ([] : List Snap)) hp4 (sels [] rfl)) (hL3.into hp4 (Fl ([] : List Snap))) r5 hv6) ?_
 rintro _ w7 ⟨rfl, hM8⟩
 have hL9 := hL3.call hp4 hM8
 refine ⟨_, _, _, rfl, hL9, ?_⟩
 refine wl_v 1 rfl (v_not rfl) gn rfl ?_
 refine w_end 2 rfl ?_
 by_cases hp10 : r5 = true
 ·have h := if_pos' hp10 h
  refine g_false (c := q10c6) rfl _ rfl ((nf hp10)) ?_
  refine g_skip (c := q10c8) rfl ?_
  refine g_seq (c := q10c4) rfl ?_
  refine g_region (c := q10c9) rfl rfl ?_
  refine wl_v 0 rfl (v_move rfl) gn rfl ?_
  obtain ⟨r14, hv15, h⟩ := h
  refine wl_s 1 rfl (s_call [.string x1] rfl Tryd.func25 rfl rfl rfl fun w11 hL12 => ?_) gn
  have hp13 : List.Perm ([] : List Ent) (([] : List Ent) ++ ([] : List Ent)) := perm_of_idx [] [] rfl rfl (by kernel_rfl)
  refine Calls.mono (json_Parse_calls w11 (Fl ([] : List Snap)) x1 (hL12.tt hp13 hG3 (me 1 rfl)) (hL12.hFl (Sl := ([] : List Snap)) hp13 (sels [] rfl)) (hL12.into hp13 (Fl ([] : List Snap))) r14 hv15) ?_
  rintro _ w21 ⟨A16, n17, c18, rfl, hM22, h19⟩
  have hL23 := hL12.call hp13 hM22
  refine ⟨_, _, _, rfl, hL23, ?_⟩
  refine wl_v 2 rfl (v_move rfl) gn rfl ?_
  refine wl_v 3 rfl (v_extract rfl rfl) gn rfl ?_
  refine wl_v 4 rfl (v_extract rfl rfl) gn rfl ?_
  refine wl_v 5 rfl (v_extract rfl rfl) gn rfl ?_
  refine wl_v 6 rfl (v_assign rfl) gn rfl ?_
  refine wl_v 7 rfl (v_assign rfl) gn rfl ?_
  refine wl_v 8 rfl (v_assign rfl) gn rfl ?_
  refine w_end 9 rfl ?_
  refine g_seq (c := q10c10) rfl ?_
  refine g_region (c := q10c11) rfl rfl ?_
  refine wl_v 0 rfl (v_move rfl) gn rfl ?_
  obtain ⟨r27, hv28, h⟩ := h
  refine wl_s 1 rfl (s_call [.string x1] rfl Tryd.func25 rfl rfl rfl fun w24 hL25 => ?_) gn
  have hp26 : List.Perm ([.own (.slice A16 n17 c18) 31 4 n17 (r14.1.flatMap enc_api_JNode)] : List Ent) (([] : List Ent) ++ ([.own (.slice A16 n17 c18) 31 4 n17 (r14.1.flatMap enc_api_JNode)] : List Ent)) := perm_of_idx [] [0] rfl rfl (by kernel_rfl)
  refine Calls.mono (json_Parse_calls w24 (Fl ([] : List Snap)) x1 (hL25.tt hp26 hG3 (me 1 rfl)) (hL25.hFl (Sl := ([] : List Snap)) hp26 (sels [] rfl)) (hL25.into hp26 (Fl ([] : List Snap))) r27 hv28) ?_
  rintro _ w34 ⟨A29, n30, c31, rfl, hM35, h32⟩
  have hL36 := hL25.call hp26 hM35
  refine ⟨_, _, _, rfl, hL36, ?_⟩
  refine wl_v 2 rfl (v_move rfl) gn rfl ?_
  refine wl_v 3 rfl (v_extract rfl rfl) gn rfl ?_
  refine wl_v 4 rfl (v_extract rfl rfl) gn rfl ?_
  refine wl_v 5 rfl (v_extract rfl rfl) gn rfl ?_
  refine wl_v 6 rfl (v_assign rfl) gn rfl ?_
  refine wl_v 7 rfl (v_assign rfl) gn rfl ?_
  refine wl_v 8 rfl (v_assign rfl) gn rfl ?_
  refine w_end 9 rfl ?_
  refine g_seq (c := q10c12) rfl ?_
  refine g_region (c := q10c13) rfl rfl ?_
  refine wl_v 0 rfl (v_move rfl) gn rfl ?_
  obtain ⟨r40, hv41, h⟩ := h
  refine wl_s 1 rfl (s_call [.slice A29 n30 c31] rfl Tryd.func13 rfl rfl rfl fun w37 hL38 => ?_) gn
  have hp39 : List.Perm ([.own (.slice A29 n30 c31) 31 4 n30 (r27.1.flatMap enc_api_JNode), .own (.slice A16 n17 c18) 31 4 n17 (r14.1.flatMap enc_api_JNode)] : List Ent) (([] : List Ent) ++ ([.own (.slice A29 n30 c31) 31 4 n30 (r27.1.flatMap enc_api_JNode), .own (.slice A16 n17 c18) 31 4 n17 (r14.1.flatMap enc_api_JNode)] : List Ent)) := perm_of_idx [] [0, 1] rfl rfl (by kernel_rfl)
  refine Calls.mono (trellislaw25_twin_calls w37 (Fl ([] : List Snap)) r27.1 A29 n30 c31 (hL38.argO (dk := k_api_JNode) hp39 [] rfl 0 rfl rfl (Ow.weak hL25.env.size h32) (me 0 rfl) (Cells.flat _)) (hL38.hFl (Sl := ([] : List Snap)) hp39 (sels [] rfl)) (hL38.into hp39 (Fl ([] : List Snap))) r40 hv41) ?_
  rintro _ w47 ⟨A42, n43, c44, rfl, hM48, h45⟩
  have hL49 := hL38.call hp39 hM48
  refine ⟨_, _, _, rfl, hL49, ?_⟩
  refine wl_v 2 rfl (v_assign rfl) gn rfl ?_
  refine w_end 3 rfl ?_
  refine g_seq (c := q10c14) rfl ?_
  refine g_seq (c := q10c15) rfl ?_
  have j1 : ∀ (x60 : Bool) (h : trellislaw25_JsonSpares_j1 x1 r27 r40 r14 x60 r) , G (trellislaw25_JsonSpares_C w F r) [.code q10c18, .code q10c16] [(0, .string x1), (3, .slice A16 n17 c18), (6, .slice A29 n30 c31), (9, .slice A42 n43 c44), (41, .bool x60)] [.own (.slice A42 n43 c44) 31 4 n43 (r40.flatMap enc_api_JNode), .own (.slice A29 n30 c31) 31 4 n30 (r27.1.flatMap enc_api_JNode), .own (.slice A16 n17 c18) 31 4 n17 (r14.1.flatMap enc_api_JNode)] [Sm w.heap.size F w [], St w []] := by
   intro x60 h
   unfold trellislaw25_JsonSpares_j1 at h
   by_cases hp61 : x60 = true
   ·have h := if_pos' hp61 h
    refine g_true (c := q10c18) rfl _ rfl (hp61) ?_
    refine g_seq (c := q10c19) rfl ?_
    refine g_region (c := q10c21) rfl rfl ?_
    refine wl_v 0 rfl (v_assign rfl) gn rfl ?_
    refine w_end 1 rfl ?_
    refine g_retR (c := q10c22) [.bool false] rfl Tryd.func10 rfl (.tmp rfl (.nil)) fun wr hLr => ?_
    have hMr : B.Loc w wr [] [St w []] := hLr.pick0 (sels [1] rfl)
    show trellislaw25_JsonSpares_R w F  r (.returned (packV [.bool false])) wr
    rw [h]
    exact ⟨rfl, hMr⟩
   ·have h := if_neg' hp61 h
    refine g_false (c := q10c18) rfl _ rfl ((bf hp61)) ?_
    refine g_skip (c := q10c20) rfl ?_
    refine g_seq (c := q10c16) rfl ?_
    refine g_seq (c := q10c23) rfl ?_
    refine g_region (c := q10c25) rfl rfl ?_
    refine wl_v 0 rfl (v_assign rfl) gn rfl ?_
    refine w_end 1 rfl ?_
    refine g_block (c := q10c26) rfl ?_
    refine g_loop (c := q10c27) rfl ?_
    have key2 : ∀ s, Rounds (fun (s : (List api_JNode) × Int) o => trellislaw25_JsonSpares_b2 x1 r27 r40 s.1 s.2 o) s r → (fun (s : (List api_JNode) × Int) => ∀ (h249 : Ow w.heap.size A16 n17 c18 s.1), G (trellislaw25_JsonSpares_C w F r) [.code q10c28, .inLoop q10c28, .inBlock 0, .code q10c24] [(0, .string x1), (3, .slice A16 n17 c18), (6, .slice A29 n30 c31), (9, .slice A42 n43 c44), (10, .int .i64 s.2)] [.own (.slice A42 n43 c44) 31 4 n43 (r40.flatMap enc_api_JNode), .own (.slice A29 n30 c31) 31 4 n30 (r27.1.flatMap enc_api_JNode), .own (.slice A16 n17 c18) 31 4 n17 (s.1.flatMap enc_api_JNode)] [Sm w.heap.size F w [], St w []]) s := by
     intro s hs
     refine Rounds.ind (mot := (fun (s : (List api_JNode) × Int) => ∀ (h249 : Ow w.heap.size A16 n17 c18 s.1), G (trellislaw25_JsonSpares_C w F r) [.code q10c28, .inLoop q10c28, .inBlock 0, .code q10c24] [(0, .string x1), (3, .slice A16 n17 c18), (6, .slice A29 n30 c31), (9, .slice A42 n43 c44), (10, .int .i64 s.2)] [.own (.slice A42 n43 c44) 31 4 n43 (r40.flatMap enc_api_JNode), .own (.slice A29 n30 c31) 31 4 n30 (r27.1.flatMap enc_api_JNode), .own (.slice A16 n17 c18) 31 4 n17 (s.1.flatMap enc_api_JNode)] [Sm w.heap.size F w [], St w []])) ?_ hs
     clear hs s
     intro s o1 h hO1
     obtain ⟨x248, x250⟩ := s
     show ∀ (h249 : Ow w.heap.size A16 n17 c18 x248), G (trellislaw25_JsonSpares_C w F r) [.code q10c28, .inLoop q10c28, .inBlock 0, .code q10c24] [(0, .string x1), (3, .slice A16 n17 c18), (6, .slice A29 n30 c31), (9, .slice A42 n43 c44), (10, .int .i64 x250)] [.own (.slice A42 n43 c44) 31 4 n43 (r40.flatMap enc_api_JNode), .own (.slice A29 n30 c31) 31 4 n30 (r27.1.flatMap enc_api_JNode), .own (.slice A16 n17 c18) 31 4 n17 (x248.flatMap enc_api_JNode)] [Sm w.heap.size F w [], St w []]
     intro h249
     have h : trellislaw25_JsonSpares_b2 x1 r27 r40 x248 x250 o1 := h
     unfold trellislaw25_JsonSpares_b2 at h
     refine g_seq (c := q10c28) rfl ?_
     refine g_seq (c := q10c29) rfl ?_
     refine g_region (c := q10c31) rfl rfl ?_
     refine wl_v 0 rfl (v_move rfl) gn rfl ?_
     refine wl_v 1 rfl (v_move rfl) gn rfl ?_
     refine wl_v 2 rfl (v_lenQ un_22 rfl h249.hq) gn rfl ?_
     refine wl_v 3 rfl (v_bin rfl rfl rfl) gn rfl ?_
     refine w_end 4 rfl ?_
     by_cases hp528 : x250 < (x248.length : Int)
     ·have h := if_pos' hp528 h
      refine g_true (c := q10c32) rfl _ rfl ((decide_eq_true hp528)) ?_
      refine g_skip (c := q10c33) rfl ?_
      refine g_seq (c := q10c30) rfl ?_
      refine g_block (c := q10c35) rfl ?_
      refine g_region (c := q10c37) rfl rfl ?_
      refine wl_v 0 rfl (v_move rfl) gn rfl ?_
      refine wl_v 1 rfl (v_move rfl) gn rfl ?_
      refine wl_v 2 rfl (v_build #[.int .i64 9, .string (⟨#[]⟩ : ByteArray), .string (⟨#[115, 112, 111, 105, 108, 116]⟩ : ByteArray), .int .i64 0] bd_31 rfl (by kernel_rfl)) gn rfl ?_
      obtain ⟨hb529, h⟩ := h
      refine wl_v 3 rfl (v_idxO slE_22 rfl rfl h249 hb529) gn rfl ?_
      obtain ⟨x530, hv531, h⟩ := h
      refine wl_s 4 rfl (s_stF (enc := enc_api_JNode) (o := 0) (z := (⟨9, (⟨#[]⟩ : ByteArray), (⟨#[115, 112, 111, 105, 108, 116]⟩ : ByteArray), 0⟩ : api_JNode)) (vs := [.int .i64 9, .string (⟨#[]⟩ : ByteArray), .string (⟨#[115, 112, 111, 105, 108, 116]⟩ : ByteArray), .int .i64 0]) (i := x250) 2 hl_api_JNode sz_31 rfl rfl rfl rfl rfl h249 hb529 rfl rfl rfl hv531 fun h532 => ?_) gn
      refine w_end 5 rfl ?_
      refine g_inBlock ?_
      refine g_region (c := q10c36) rfl rfl ?_
      refine wl_v 0 rfl (v_move rfl) gn rfl ?_
      refine wl_v 1 rfl (v_bin rfl rfl rfl) gn rfl ?_
      refine wl_v 2 rfl (v_assign rfl) gn rfl ?_
      refine w_end 3 rfl ?_
      refine g_inLoop ?_
      have ih := Out.inl hO1 h
      exact g_go [0, 1] (ih h532) ⟨rfl, rfl, rfl, rfl, rfl, trivial⟩ (.cons_cons _ (.cons_cons _ (.cons_cons _ (.slnil)))) rfl
     ·have h := if_neg' hp528 h
      refine g_false (c := q10c32) rfl _ rfl ((decide_eq_false hp528)) ?_
      refine g_exit (c := q10c34) [.code q10c24] rfl rfl ?_
      refine g_seq (c := q10c24) rfl ?_
      refine g_region (c := q10c38) rfl rfl ?_
      refine wl_v 0 rfl (v_move rfl) gn rfl ?_
      refine wl_v 1 rfl (v_assign rfl) gn rfl ?_
      refine w_end 2 rfl ?_
      refine g_seq (c := q10c39) rfl ?_
      refine g_seq (c := q10c40) rfl ?_
      refine g_region (c := q10c42) rfl rfl ?_
      refine wl_v 0 rfl (v_assign rfl) gn rfl ?_
      refine w_end 1 rfl ?_
      refine g_block (c := q10c43) rfl ?_
      refine g_loop (c := q10c44) rfl ?_
      have key3 : ∀ s, Rounds (fun (s : (List api_JNode) × Int) o => trellislaw25_JsonSpares_b3 x248 x1 r27 r40 s.1 s.2 o) s o1 → (fun (s : (List api_JNode) × Int) => ∀ (A548 : Option Addr) (n549 : Nat) (c550 : Nat) (h551 : Ow w.heap.size A548 n549 c550 s.1) (h552 : Ow 0 A16 n17 c18 x248) (bs553 : List Nat) (p554 : World → Prop) (hE555 : Eld 31 4 A548 n549 c550 (s.1.flatMap enc_api_JNode) bs553 p554 A16 n17 (x248.flatMap enc_api_JNode)), G (trellislaw25_JsonSpares_C w F r) [.code q10c45, .inLoop q10c45, .inBlock 2, .code q10c41] [(0, .string x1), (3, .slice A16 n17 c18), (6, .slice A29 n30 c31), (9, .slice A42 n43 c44), (11, .slice A548 n549 c550), (12, .int .i64 s.2)] [.deep .nilIface bs553 p554, .own (.slice A42 n43 c44) 31 4 n43 (r40.flatMap enc_api_JNode), .own (.slice A29 n30 c31) 31 4 n30 (r27.1.flatMap enc_api_JNode), .own (.slice A548 n549 c550) 31 4 n549 (s.1.flatMap enc_api_JNode)] [Sm w.heap.size F w [], St w []]) s := by
       intro s hs
       refine Rounds.ind (mot := (fun (s : (List api_JNode) × Int) => ∀ (A548 : Option Addr) (n549 : Nat) (c550 : Nat) (h551 : Ow w.heap.size A548 n549 c550 s.1) (h552 : Ow 0 A16 n17 c18 x248) (bs553 : List Nat) (p554 : World → Prop) (hE555 : Eld 31 4 A548 n549 c550 (s.1.flatMap enc_api_JNode) bs553 p554 A16 n17 (x248.flatMap enc_api_JNode)), G (trellislaw25_JsonSpares_C w F r) [.code q10c45, .inLoop q10c45, .inBlock 2, .code q10c41] [(0, .string x1), (3, .slice A16 n17 c18), (6, .slice A29 n30 c31), (9, .slice A42 n43 c44), (11, .slice A548 n549 c550), (12, .int .i64 s.2)] [.deep .nilIface bs553 p554, .own (.slice A42 n43 c44) 31 4 n43 (r40.flatMap enc_api_JNode), .own (.slice A29 n30 c31) 31 4 n30 (r27.1.flatMap enc_api_JNode), .own (.slice A548 n549 c550) 31 4 n549 (s.1.flatMap enc_api_JNode)] [Sm w.heap.size F w [], St w []])) ?_ hs
       clear hs s
       intro s o2 h hO2
       obtain ⟨x547, x556⟩ := s
       show ∀ (A548 : Option Addr) (n549 : Nat) (c550 : Nat) (h551 : Ow w.heap.size A548 n549 c550 x547) (h552 : Ow 0 A16 n17 c18 x248) (bs553 : List Nat) (p554 : World → Prop) (hE555 : Eld 31 4 A548 n549 c550 (x547.flatMap enc_api_JNode) bs553 p554 A16 n17 (x248.flatMap enc_api_JNode)), G (trellislaw25_JsonSpares_C w F r) [.code q10c45, .inLoop q10c45, .inBlock 2, .code q10c41] [(0, .string x1), (3, .slice A16 n17 c18), (6, .slice A29 n30 c31), (9, .slice A42 n43 c44), (11, .slice A548 n549 c550), (12, .int .i64 x556)] [.deep .nilIface bs553 p554, .own (.slice A42 n43 c44) 31 4 n43 (r40.flatMap enc_api_JNode), .own (.slice A29 n30 c31) 31 4 n30 (r27.1.flatMap enc_api_JNode), .own (.slice A548 n549 c550) 31 4 n549 (x547.flatMap enc_api_JNode)] [Sm w.heap.size F w [], St w []]
       intro A548 n549 c550 h551 h552 bs553 p554 hE555
       have h : trellislaw25_JsonSpares_b3 x248 x1 r27 r40 x547 x556 o2 := h
       unfold trellislaw25_JsonSpares_b3 at h
       refine g_seq (c := q10c45) rfl ?_
       refine g_seq (c := q10c46) rfl ?_
       refine g_region (c := q10c48) rfl rfl ?_
       refine wl_v 0 rfl (v_move rfl) gn rfl ?_
       refine wl_v 1 rfl (v_bin rfl rfl rfl) gn rfl ?_
       refine w_end 2 rfl ?_
       by_cases hp681 : x556 < 64
       ·have h := if_pos' hp681 h
        refine g_true (c := q10c49) rfl _ rfl ((decide_eq_true hp681)) ?_
        refine g_skip (c := q10c50) rfl ?_
        refine g_seq (c := q10c47) rfl ?_
        refine g_block (c := q10c52) rfl ?_
        refine g_region (c := q10c54) rfl rfl ?_
        refine wl_v 0 rfl (v_move rfl) gn rfl ?_
        refine wl_v 1 rfl (v_build #[.int .i64 8, .string (⟨#[]⟩ : ByteArray), .string (⟨#[]⟩ : ByteArray), .int .i64 0] bd_31 rfl (by kernel_rfl)) gn rfl ?_
        refine wl_s 2 rfl (s_litO (xs := ([(⟨8, (⟨#[]⟩ : ByteArray), (⟨#[]⟩ : ByteArray), 0⟩ : api_JNode)] : List api_JNode)) [.int .i64 8, .string (⟨#[]⟩ : ByteArray), .string (⟨#[]⟩ : ByteArray), .int .i64 0] bs_22_1 rfl (by kernel_rfl) rfl rfl rfl rfl fun gb683 h684 => ?_) gn
        obtain ⟨x691, hv692, h⟩ := h
        obtain ⟨hb693, h⟩ := h
        refine wl_s 3 rfl (s_appE (zs := x691) (cells' := x691.flatMap enc_api_JNode) 4 1 rfl ap_22 rfl rfl rfl rfl hE555 h551 (Nat.le_refl _) (Src.ownF (hl := hl_api_JNode) (h1 := h1_api_JNode) 0 rfl h684) (by rw [hv692, List.flatMap_append] <;> rfl) (app_len hv692 h684.hq) hb693 rfl rfl fun A685 c686 bs688 p689 h687 hE690 => ?_) gn
        refine wl_v 4 rfl (v_assign rfl) gn rfl ?_
        refine w_end 5 rfl ?_
        refine g_inBlock ?_
        refine g_region (c := q10c53) rfl rfl ?_
        refine wl_v 0 rfl (v_move rfl) gn rfl ?_
        refine wl_v 1 rfl (v_bin rfl rfl rfl) gn rfl ?_
        refine wl_v 2 rfl (v_assign rfl) gn rfl ?_
        refine w_end 3 rfl ?_
        refine g_inLoop ?_
        have ih := Out.inl hO2 h
        exact g_go [0, 1] (ih A685 (n549 + 1) c686 h687 h552 bs688 p689 hE690) ⟨rfl, rfl, rfl, rfl, rfl, rfl, trivial⟩ (.cons _ (.cons_cons _ (.cons_cons _ (.cons_cons _ (.cons_cons _ (.slnil)))))) rfl
       ·have h := if_neg' hp681 h
        refine g_false (c := q10c49) rfl _ rfl ((decide_eq_false hp681)) ?_
        refine g_exit (c := q10c51) [.code q10c41] rfl rfl ?_
        refine g_seq (c := q10c41) rfl ?_
        refine g_seq (c := q10c55) rfl ?_
        refine g_region (c := q10c57) rfl rfl ?_
        refine wl_v 0 rfl (v_assign rfl) gn rfl ?_
        refine w_end 1 rfl ?_
        refine g_block (c := q10c58) rfl ?_
        refine g_loop (c := q10c59) rfl ?_
        have key4 : ∀ s, Rounds (fun (s : Int) o => trellislaw25_JsonSpares_b4 x248 x547 x1 r27 r40 s o) s o2 → (fun (s : Int) => ∀ (h695 : Ow 0 A16 n17 c18 x248) (bs696 : List Nat) (p697 : World → Prop) (hE698 : Eld 31 4 A548 n549 c550 (x547.flatMap enc_api_JNode) bs696 p697 A16 n17 (x248.flatMap enc_api_JNode)), G (trellislaw25_JsonSpares_C w F r) [.code q10c60, .inLoop q10c60, .inBlock 4, .code q10c56] [(0, .string x1), (3, .slice A16 n17 c18), (6, .slice A29 n30 c31), (9, .slice A42 n43 c44), (11, .slice A548 n549 c550), (13, .int .i64 s)] [.deep .nilIface bs696 p697, .own (.slice A42 n43 c44) 31 4 n43 (r40.flatMap enc_api_JNode), .own (.slice A29 n30 c31) 31 4 n30 (r27.1.flatMap enc_api_JNode), .own (.slice A548 n549 c550) 31 4 n549 (x547.flatMap enc_api_JNode)] [Sm w.heap.size F w [], St w []]) s := by
         intro s hs
         refine Rounds.ind (mot := (fun (s : Int) => ∀ (h695 : Ow 0 A16 n17 c18 x248) (bs696 : List Nat) (p697 : World → Prop) (hE698 : Eld 31 4 A548 n549 c550 (x547.flatMap enc_api_JNode) bs696 p697 A16 n17 (x248.flatMap enc_api_JNode)), G (trellislaw25_JsonSpares_C w F r) [.code q10c60, .inLoop q10c60, .inBlock 4, .code q10c56] [(0, .string x1), (3, .slice A16 n17 c18), (6, .slice A29 n30 c31), (9, .slice A42 n43 c44), (11, .slice A548 n549 c550), (13, .int .i64 s)] [.deep .nilIface bs696 p697, .own (.slice A42 n43 c44) 31 4 n43 (r40.flatMap enc_api_JNode), .own (.slice A29 n30 c31) 31 4 n30 (r27.1.flatMap enc_api_JNode), .own (.slice A548 n549 c550) 31 4 n549 (x547.flatMap enc_api_JNode)] [Sm w.heap.size F w [], St w []])) ?_ hs
         clear hs s
         intro x734 o3 h hO3
         show ∀ (h695 : Ow 0 A16 n17 c18 x248) (bs696 : List Nat) (p697 : World → Prop) (hE698 : Eld 31 4 A548 n549 c550 (x547.flatMap enc_api_JNode) bs696 p697 A16 n17 (x248.flatMap enc_api_JNode)), G (trellislaw25_JsonSpares_C w F r) [.code q10c60, .inLoop q10c60, .inBlock 4, .code q10c56] [(0, .string x1), (3, .slice A16 n17 c18), (6, .slice A29 n30 c31), (9, .slice A42 n43 c44), (11, .slice A548 n549 c550), (13, .int .i64 x734)] [.deep .nilIface bs696 p697, .own (.slice A42 n43 c44) 31 4 n43 (r40.flatMap enc_api_JNode), .own (.slice A29 n30 c31) 31 4 n30 (r27.1.flatMap enc_api_JNode), .own (.slice A548 n549 c550) 31 4 n549 (x547.flatMap enc_api_JNode)] [Sm w.heap.size F w [], St w []]
         intro h695 bs696 p697 hE698
         have h : trellislaw25_JsonSpares_b4 x248 x547 x1 r27 r40 x734 o3 := h
         unfold trellislaw25_JsonSpares_b4 at h
         refine g_seq (c := q10c60) rfl ?_
         refine g_seq (c := q10c61) rfl ?_
         refine g_region (c := q10c63) rfl rfl ?_
         refine wl_v 0 rfl (v_move rfl) gn rfl ?_
         refine wl_v 1 rfl (v_move rfl) gn rfl ?_
         refine wl_v 2 rfl (v_lenQ un_22 rfl h695.hq) gn rfl ?_
         refine wl_v 3 rfl (v_bin rfl rfl rfl) gn rfl ?_
         refine w_end 4 rfl ?_
         by_cases hp770 : x734 < (x248.length : Int)
         ·have h := if_pos' hp770 h
          refine g_true (c := q10c64) rfl _ rfl ((decide_eq_true hp770)) ?_
          refine g_skip (c := q10c65) rfl ?_
          refine g_seq (c := q10c62) rfl ?_
          refine g_block (c := q10c71) rfl ?_
          refine g_seq (c := q10c73) rfl ?_
          refine g_region (c := q10c74) rfl rfl ?_
          refine wl_v 0 rfl (v_move rfl) gn rfl ?_
          refine wl_v 1 rfl (v_move rfl) gn rfl ?_
          obtain ⟨hb771, h⟩ := h
          refine wl_v 2 rfl (v_idxO slE_22 rfl rfl h695 hb771) gn rfl ?_
          refine wl_v 3 rfl (v_fldA fo_31_0 rfl) gn rfl ?_
          refine wl_v 4 rfl (v_ldE1 (.int .i64 ((ix x248 x734).kind)) 3 0 ld_29 rfl rfl rfl hE698 (fm_get hl_api_JNode hb771 rfl)) gn rfl ?_
          refine wl_v 5 rfl (v_bin rfl rfl rfl) gn rfl ?_
          refine wl_v 6 rfl (v_move rfl) gn rfl ?_
          by_cases hp772 : (ix x248 x734).kind = 9
          ·have h := if_pos' hp772 h
           refine w_bool 73 rfl ((eqib hp772)) ?_
           refine wl_v 7 rfl (v_move rfl) (gy 73 rfl rfl) rfl ?_
           refine wl_v 8 rfl (v_move rfl) (gy 73 rfl rfl) rfl ?_
           obtain ⟨hb773, h⟩ := h
           refine wl_v 9 rfl (v_idxO slE_22 rfl rfl h551 hb773) (gy 73 rfl rfl) rfl ?_
           refine wl_v 10 rfl (v_fldA fo_31_0 rfl) (gy 73 rfl rfl) rfl ?_
           refine wl_v 11 rfl (v_ldO1 (.int .i64 ((ix x547 x734).kind)) 3 ld_29 rfl rfl (fm_get hl_api_JNode hb773 rfl)) (gy 73 rfl rfl) rfl ?_
           refine wl_v 12 rfl (v_bin rfl rfl rfl) (gy 73 rfl rfl) rfl ?_
           refine wl_v 13 rfl (v_pick (b := false) rfl rfl) gn rfl ?_
           refine w_end 14 rfl ?_
           by_cases hp774 : (ix x547 x734).kind = 9
           ·have h := if_pos' hp774 h
            refine g_false (c := q10c75) rfl _ rfl ((eqib hp774)) ?_
            refine g_skip (c := q10c77) rfl ?_
            refine g_inBlock ?_
            refine g_region (c := q10c72) rfl rfl ?_
            refine wl_v 0 rfl (v_move rfl) gn rfl ?_
            refine wl_v 1 rfl (v_bin rfl rfl rfl) gn rfl ?_
            refine wl_v 2 rfl (v_assign rfl) gn rfl ?_
            refine w_end 3 rfl ?_
            refine g_inLoop ?_
            have ih := Out.inl hO3 h
            exact g_go [0, 1] (ih h695 bs696 p697 hE698) ⟨rfl, rfl, rfl, rfl, rfl, rfl, trivial⟩ (.cons_cons _ (.cons_cons _ (.cons_cons _ (.cons_cons _ (.slnil))))) rfl
           ·have h := if_neg' hp774 h
            refine g_true (c := q10c75) rfl _ rfl ((neib hp774)) ?_
            refine g_seq (c := q10c76) rfl ?_
            refine g_region (c := q10c78) rfl rfl ?_
            refine wl_v 0 rfl (v_assign rfl) gn rfl ?_
            refine w_end 1 rfl ?_
            have h := Out.inr hO3 h
            have h := Out.inr hO2 h
            have h := Out.inr hO1 h
            refine g_retR (c := q10c79) [.bool false] rfl Tryd.func10 rfl (.tmp rfl (.nil)) fun wr hLr => ?_
            have hMr : B.Loc w wr [] [St w []] := hLr.pick0 (sels [1] rfl)
            show trellislaw25_JsonSpares_R w F  r (.returned (packV [.bool false])) wr
            rw [h]
            exact ⟨rfl, hMr⟩
          ·have h := if_neg' hp772 h
           refine w_bool 73 rfl ((neib hp772)) ?_
           refine wl_pass 7 rfl (ps 73 rfl rfl rfl) ?_
           refine wl_pass 8 rfl (ps 73 rfl rfl rfl) ?_
           refine wl_pass 9 rfl (ps 73 rfl rfl rfl) ?_
           refine wl_pass 10 rfl (ps 73 rfl rfl rfl) ?_
           refine wl_pass 11 rfl (ps 73 rfl rfl rfl) ?_
           refine wl_pass 12 rfl (ps 73 rfl rfl rfl) ?_
           refine wl_v 13 rfl (v_pick (b := true) rfl rfl) gn rfl ?_
           refine w_end 14 rfl ?_
           refine g_true (c := q10c75) rfl _ rfl (rfl) ?_
           refine g_seq (c := q10c76) rfl ?_
           refine g_region (c := q10c78) rfl rfl ?_
           refine wl_v 0 rfl (v_assign rfl) gn rfl ?_
           refine w_end 1 rfl ?_
           have h := Out.inr hO3 h
           have h := Out.inr hO2 h
           have h := Out.inr hO1 h
           refine g_retR (c := q10c79) [.bool false] rfl Tryd.func10 rfl (.tmp rfl (.nil)) fun wr hLr => ?_
           have hMr : B.Loc w wr [] [St w []] := hLr.pick0 (sels [1] rfl)
           show trellislaw25_JsonSpares_R w F  r (.returned (packV [.bool false])) wr
           rw [h]
           exact ⟨rfl, hMr⟩
         ·have h := if_neg' hp770 h
          refine g_false (c := q10c64) rfl _ rfl ((decide_eq_false hp770)) ?_
          refine g_exit (c := q10c66) [.code q10c56] rfl rfl ?_
          refine g_seq (c := q10c56) rfl ?_
          refine g_region (c := q10c67) rfl rfl ?_
          refine wl_v 0 rfl (v_move rfl) gn rfl ?_
          obtain ⟨r778, hv779, h⟩ := h
          refine wl_s 1 rfl (s_call [.string x1] rfl Tryd.func25 rfl rfl rfl fun w775 hL776 => ?_) gn
          have hp777 : List.Perm ([.deep .nilIface bs696 p697, .own (.slice A42 n43 c44) 31 4 n43 (r40.flatMap enc_api_JNode), .own (.slice A29 n30 c31) 31 4 n30 (r27.1.flatMap enc_api_JNode), .own (.slice A548 n549 c550) 31 4 n549 (x547.flatMap enc_api_JNode)] : List Ent) (([] : List Ent) ++ ([.deep .nilIface bs696 p697, .own (.slice A42 n43 c44) 31 4 n43 (r40.flatMap enc_api_JNode), .own (.slice A29 n30 c31) 31 4 n30 (r27.1.flatMap enc_api_JNode), .own (.slice A548 n549 c550) 31 4 n549 (x547.flatMap enc_api_JNode)] : List Ent)) := perm_of_idx [] [0, 1, 2, 3] rfl rfl (by kernel_rfl)
          refine Calls.mono (json_Parse_calls w775 (Fl ([] : List Snap)) x1 (hL776.tt hp777 hG3 (me 1 rfl)) (hL776.hFl (Sl := ([] : List Snap)) hp777 (sels [] rfl)) (hL776.into hp777 (Fl ([] : List Snap))) r778 hv779) ?_
          rintro _ w785 ⟨A780, n781, c782, rfl, hM786, h783⟩
          have hL787 := hL776.call hp777 hM786
          refine ⟨_, _, _, rfl, hL787, ?_⟩
          refine wl_v 2 rfl (v_move rfl) gn rfl ?_
          refine wl_v 3 rfl (v_extract rfl rfl) gn rfl ?_
          refine wl_v 4 rfl (v_extract rfl rfl) gn rfl ?_
          refine wl_v 5 rfl (v_extract rfl rfl) gn rfl ?_
          refine wl_v 6 rfl (v_assign rfl) gn rfl ?_
          refine wl_v 7 rfl (v_assign rfl) gn rfl ?_
          refine wl_v 8 rfl (v_assign rfl) gn rfl ?_
          refine w_end 9 rfl ?_
          refine g_seq (c := q10c68) rfl ?_
          refine g_region (c := q10c69) rfl rfl ?_
          refine wl_v 0 rfl (v_move rfl) gn rfl ?_
          refine wl_v 1 rfl (v_move rfl) gn rfl ?_
          obtain ⟨r791, hv792, h⟩ := h
          refine wl_s 2 rfl (s_call [.slice A29 n30 c31, .slice A42 n43 c44] rfl Tryd.func27 rfl rfl rfl fun w788 hL789 => ?_) gn
          have hp790 : List.Perm ([.own (.slice A780 n781 c782) 31 4 n781 (r778.1.flatMap enc_api_JNode), .deep .nilIface bs696 p697, .own (.slice A42 n43 c44) 31 4 n43 (r40.flatMap enc_api_JNode), .own (.slice A29 n30 c31) 31 4 n30 (r27.1.flatMap enc_api_JNode), .own (.slice A548 n549 c550) 31 4 n549 (x547.flatMap enc_api_JNode)] : List Ent) (([] : List Ent) ++ ([.own (.slice A780 n781 c782) 31 4 n781 (r778.1.flatMap enc_api_JNode), .deep .nilIface bs696 p697, .own (.slice A42 n43 c44) 31 4 n43 (r40.flatMap enc_api_JNode), .own (.slice A29 n30 c31) 31 4 n30 (r27.1.flatMap enc_api_JNode), .own (.slice A548 n549 c550) 31 4 n549 (x547.flatMap enc_api_JNode)] : List Ent)) := perm_of_idx [] [0, 1, 2, 3, 4] rfl rfl (by kernel_rfl)
          refine Calls.mono (trellislaw25_same_calls w788 (Fl ([] : List Snap)) r27.1 r40 A29 n30 c31 A42 n43 c44 (hL789.argO (dk := k_api_JNode) hp790 [] rfl 3 rfl rfl (Ow.weak hL25.env.size h32) (me 0 rfl) (Cells.flat _)) (hL789.argO (dk := k_api_JNode) hp790 [] rfl 2 rfl rfl (Ow.weak hL38.env.size h45) (me 0 rfl) (Cells.flat _)) (hL789.hFl (Sl := ([] : List Snap)) hp790 (sels [] rfl)) (hL789.into hp790 (Fl ([] : List Snap))) r791 hv792) ?_
          rintro _ w793 ⟨rfl, hM794⟩
          have hL795 := hL789.call hp790 hM794
          refine ⟨_, _, _, rfl, hL795, ?_⟩
          refine wl_v 3 rfl (v_move rfl) gn rfl ?_
          by_cases hp796 : r791 = true
          ·have h := if_pos' hp796 h
           refine w_bool 90 rfl (hp796) ?_
           refine wl_v 4 rfl (v_move rfl) (gy 90 rfl rfl) rfl ?_
           refine wl_v 5 rfl (v_move rfl) (gy 90 rfl rfl) rfl ?_
           obtain ⟨r800, hv801, h⟩ := h
           refine wl_s 6 rfl (s_call [.slice A780 n781 c782, .slice A42 n43 c44] rfl Tryd.func27 rfl rfl rfl fun w797 hL798 => ?_) (gy 90 rfl rfl)
           have hp799 : List.Perm ([.own (.slice A780 n781 c782) 31 4 n781 (r778.1.flatMap enc_api_JNode), .deep .nilIface bs696 p697, .own (.slice A42 n43 c44) 31 4 n43 (r40.flatMap enc_api_JNode), .own (.slice A29 n30 c31) 31 4 n30 (r27.1.flatMap enc_api_JNode), .own (.slice A548 n549 c550) 31 4 n549 (x547.flatMap enc_api_JNode)] : List Ent) (([] : List Ent) ++ ([.own (.slice A780 n781 c782) 31 4 n781 (r778.1.flatMap enc_api_JNode), .deep .nilIface bs696 p697, .own (.slice A42 n43 c44) 31 4 n43 (r40.flatMap enc_api_JNode), .own (.slice A29 n30 c31) 31 4 n30 (r27.1.flatMap enc_api_JNode), .own (.slice A548 n549 c550) 31 4 n549 (x547.flatMap enc_api_JNode)] : List Ent)) := perm_of_idx [] [0, 1, 2, 3, 4] rfl rfl (by kernel_rfl)
           refine Calls.mono (trellislaw25_same_calls w797 (Fl ([] : List Snap)) r778.1 r40 A780 n781 c782 A42 n43 c44 (hL798.argO (dk := k_api_JNode) hp799 [] rfl 0 rfl rfl (Ow.weak hL776.env.size h783) (me 0 rfl) (Cells.flat _)) (hL798.argO (dk := k_api_JNode) hp799 [] rfl 2 rfl rfl (Ow.weak hL38.env.size h45) (me 0 rfl) (Cells.flat _)) (hL798.hFl (Sl := ([] : List Snap)) hp799 (sels [] rfl)) (hL798.into hp799 (Fl ([] : List Snap))) r800 hv801) ?_
           rintro _ w802 ⟨rfl, hM803⟩
           have hL804 := hL798.call hp799 hM803
           refine ⟨_, _, _, rfl, hL804, ?_⟩
           refine wl_v 7 rfl (v_pick (b := true) rfl rfl) gn rfl ?_
           refine wl_v 8 rfl (v_assign rfl) gn rfl ?_
           refine w_end 9 rfl ?_
           have h := Out.inr hO3 h
           have h := Out.inr hO2 h
           have h := Out.inr hO1 h
           refine g_retR (c := q10c70) [.bool r800] rfl Tryd.func10 rfl (.tmp rfl (.nil)) fun wr hLr => ?_
           have hMr : B.Loc w wr [] [St w []] := hLr.pick0 (sels [1] rfl)
           show trellislaw25_JsonSpares_R w F  r (.returned (packV [.bool r800])) wr
           rw [h]
           exact ⟨rfl, hMr⟩
          ·have h := if_neg' hp796 h
           refine w_bool 90 rfl ((bf hp796)) ?_
           refine wl_pass 4 rfl (ps 90 rfl rfl rfl) ?_
           refine wl_pass 5 rfl (ps 90 rfl rfl rfl) ?_
           refine wl_pass 6 rfl (ps 90 rfl rfl rfl) ?_
           refine wl_v 7 rfl (v_pick (b := false) rfl rfl) gn rfl ?_
           refine wl_v 8 rfl (v_assign rfl) gn rfl ?_
           refine w_end 9 rfl ?_
           have h := Out.inr hO3 h
           have h := Out.inr hO2 h
           have h := Out.inr hO1 h
           refine g_retR (c := q10c70) [.bool false] rfl Tryd.func10 rfl (.tmp rfl (.nil)) fun wr hLr => ?_
           have hMr : B.Loc w wr [] [St w []] := hLr.pick0 (sels [1] rfl)
           show trellislaw25_JsonSpares_R w F  r (.returned (packV [.bool false])) wr
           rw [h]
           exact ⟨rfl, hMr⟩
        exact g_go [0, 1] (key4 _ h h552 bs553 p554 hE555) ⟨rfl, rfl, rfl, rfl, rfl, rfl, trivial⟩ (.cons_cons _ (.cons_cons _ (.cons_cons _ (.cons_cons _ (.slnil))))) rfl
      refine g_deep0 ?_
      exact g_go [0, 1] (key3 _ h A16 n17 c18 h249 (Ow.any h249) [] (fun _ => True) Eld.self) ⟨rfl, rfl, rfl, rfl, rfl, rfl, trivial⟩ (.cons_cons _ (.cons_cons _ (.cons_cons _ (.cons_cons _ (.slnil))))) rfl
    exact g_go [0, 1] (key2 _ h (Ow.weak hL12.env.size h19)) ⟨rfl, rfl, rfl, rfl, rfl, trivial⟩ (.cons_cons _ (.cons_cons _ (.cons_cons _ (.slnil)))) rfl
  refine g_region (c := q10c17) rfl rfl ?_
  refine wl_v 0 rfl (v_move rfl) gn rfl ?_
  refine wl_v 1 rfl (v_move rfl) gn rfl ?_
  refine wl_v 2 rfl (v_bin rfl rfl rfl) gn rfl ?_
  refine wl_v 3 rfl (v_move rfl) gn rfl ?_
  by_cases hp805 : r14.2.1 = r27.2.1
  ·have h := if_pos' hp805 h
   refine w_bool 36 rfl ((eqib hp805)) ?_
   refine wl_v 4 rfl (v_move rfl) (gy 36 rfl rfl) rfl ?_
   refine wl_v 5 rfl (v_move rfl) (gy 36 rfl rfl) rfl ?_
   obtain ⟨r809, hv810, h⟩ := h
   refine wl_s 6 rfl (s_call [.slice A16 n17 c18, .slice A29 n30 c31] rfl Tryd.func27 rfl rfl rfl fun w806 hL807 => ?_) (gy 36 rfl rfl)
   have hp808 : List.Perm ([.own (.slice A42 n43 c44) 31 4 n43 (r40.flatMap enc_api_JNode), .own (.slice A29 n30 c31) 31 4 n30 (r27.1.flatMap enc_api_JNode), .own (.slice A16 n17 c18) 31 4 n17 (r14.1.flatMap enc_api_JNode)] : List Ent) (([] : List Ent) ++ ([.own (.slice A42 n43 c44) 31 4 n43 (r40.flatMap enc_api_JNode), .own (.slice A29 n30 c31) 31 4 n30 (r27.1.flatMap enc_api_JNode), .own (.slice A16 n17 c18) 31 4 n17 (r14.1.flatMap enc_api_JNode)] : List Ent)) := perm_of_idx [] [0, 1, 2] rfl rfl (by kernel_rfl)
   refine Calls.mono (trellislaw25_same_calls w806 (Fl ([] : List Snap)) r14.1 r27.1 A16 n17 c18 A29 n30 c31 (hL807.argO (dk := k_api_JNode) hp808 [] rfl 2 rfl rfl (Ow.weak hL12.env.size h19) (me 0 rfl) (Cells.flat _)) (hL807.argO (dk := k_api_JNode) hp808 [] rfl 1 rfl rfl (Ow.weak hL25.env.size h32) (me 0 rfl) (Cells.flat _)) (hL807.hFl (Sl := ([] : List Snap)) hp808 (sels [] rfl)) (hL807.into hp808 (Fl ([] : List Snap))) r809 hv810) ?_
   rintro _ w811 ⟨rfl, hM812⟩
   have hL813 := hL807.call hp808 hM812
   refine ⟨_, _, _, rfl, hL813, ?_⟩
   refine wl_v 7 rfl (v_not rfl) (gy 36 rfl rfl) rfl ?_
   refine wl_v 8 rfl (v_pick (b := false) rfl rfl) gn rfl ?_
   refine w_end 9 rfl ?_
   exact g_go [0, 1] (j1 (!r809) h) ⟨rfl, rfl, rfl, rfl, rfl, trivial⟩ (.cons_cons _ (.cons_cons _ (.cons_cons _ (.slnil)))) rfl
  ·have h := if_neg' hp805 h
   refine w_bool 36 rfl ((neib hp805)) ?_
   refine wl_pass 4 rfl (ps 36 rfl rfl rfl) ?_
   refine wl_pass 5 rfl (ps 36 rfl rfl rfl) ?_
   refine wl_pass 6 rfl (ps 36 rfl rfl rfl) ?_
   refine wl_pass 7 rfl (ps 36 rfl rfl rfl) ?_
   refine wl_v 8 rfl (v_pick (b := true) rfl rfl) gn rfl ?_
   refine w_end 9 rfl ?_
   exact g_go [0, 1] (j1 true h) ⟨rfl, rfl, rfl, rfl, rfl, trivial⟩ (.cons_cons _ (.cons_cons _ (.cons_cons _ (.slnil)))) rfl
 ·have h := if_neg' hp10 h
  refine g_true (c := q10c6) rfl _ rfl ((nt (bf hp10))) ?_
  refine g_seq (c := q10c7) rfl ?_
  refine g_region (c := q10c80) rfl rfl ?_
  refine wl_v 0 rfl (v_assign rfl) gn rfl ?_
  refine w_end 1 rfl ?_
  refine g_retR (c := q10c81) [.bool false] rfl Tryd.func10 rfl (.tmp rfl (.nil)) fun wr hLr => ?_
  have hMr : B.Loc w wr [] [St w []] := hLr.pick0 (sels [1] rfl)
  show trellislaw25_JsonSpares_R w F  r (.returned (packV [.bool false])) wr
  rw [h]
  exact ⟨rfl, hMr⟩
end Go.Proofs.YtmfopcbjgbphaaaDoor.K
