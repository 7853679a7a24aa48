/- What the machine's calls do, function by function, printed by my own tool. Condition of each: its relation holds of the answer, and what is handed in lies in memory as told. -/
import Derived.Test.YtmfopcbjgbphaaaDoorK5
set_option linter.unusedVariables false
set_option maxRecDepth 100000
set_option maxHeartbeats 4000000
namespace Go.Proofs.YtmfopcbjgbphaaaDoor.K
open Go.Proofs.YtmfopcbjgbphaaaDoor.B Go.Proofs.YtmfopcbjgbphaaaDoor.R Go.RowKit
noncomputable abbrev q7c0 : Code := bodyOf Tryd.f7
noncomputable abbrev q7c1 : Code := Code.fst q7c0
noncomputable abbrev q7c2 : Code := Code.snd q7c0
noncomputable abbrev q7c3 : Code := Code.fst q7c2
noncomputable abbrev q7c4 : Code := Code.snd q7c2
noncomputable abbrev q7c5 : Code := Code.fst q7c3
noncomputable abbrev q7c6 : Code := Code.snd q7c3
noncomputable abbrev q7c7 : Code := Code.fst q7c6
noncomputable abbrev q7c8 : Code := Code.snd q7c6
noncomputable abbrev q7c9 : Code := Code.fst q7c4
noncomputable abbrev q7c10 : Code := Code.snd q7c4
noncomputable abbrev q7c11 : Code := Code.fst q7c10
noncomputable abbrev q7c12 : Code := Code.snd q7c10
noncomputable abbrev q7c13 : Code := Code.fst q7c11
noncomputable abbrev q7c14 : Code := Code.snd q7c11
noncomputable abbrev q7c15 : Code := Code.fst q7c14
noncomputable abbrev q7c16 : Code := Code.snd q7c14
noncomputable abbrev q7c17 : Code := Code.fst q7c12
noncomputable abbrev q7c18 : Code := Code.snd q7c12
noncomputable abbrev q7c19 : Code := Code.fst q7c18
noncomputable abbrev q7c20 : Code := Code.snd q7c18
noncomputable abbrev q7c21 : Code := Code.fst q7c20
noncomputable abbrev q7c22 : Code := Code.snd q7c20
noncomputable abbrev q7c23 : Code := Code.fst q7c15
noncomputable abbrev q7c24 : Code := Code.snd q7c15
noncomputable abbrev q7c25 : Code := Code.fst q7c7
noncomputable abbrev q7c26 : Code := Code.snd q7c7
abbrev trellislaw25_JsonReads_R (w : World) (F : Nat → Prop) (r : Bool) : Ending → World → Prop := fun e w' => e = .returned (.bool r) ∧ B.Loc w w' [] [St w []]
noncomputable abbrev trellislaw25_JsonReads_C (w : World) (F : Nat → Prop) (r : Bool) : Cx := ⟨Tryd.prog, 7, Tryd.f7, 79, trellislaw25_JsonReads_R w F  r, w⟩
theorem trellislaw25_JsonReads_calls (w : World) (F : Nat → Prop) (x1 : ByteArray) (hG0 : Tt .u8 tb_0 0 (St w [])) (hG1 : Tt .u8 tb_1 1 (St w [])) (hG2 : Tt .u8 tb_2 2 (St w [])) (hG3 : Tt .u8 tb_3 3 (St w [])) (hF : ∀ b, F b → b < w.heap.size ∧ ∀ o ∈ ([] : List (List Nat)), b ∉ o) (hL0 : B.Loc w w [] [Sm w.heap.size F w [], St w []]) (r : Bool) (h : trellislaw25_JsonReads x1 r) : Calls Tryd.prog 7 #[.string x1] w (trellislaw25_JsonReads_R w F  r) := by
 unfold trellislaw25_JsonReads at h
 refine calls_of_Loc (vs := [.string x1]) 79 Tryd.func7 rfl Tryd.ntmps7 rfl hL0 ?_
 show G (trellislaw25_JsonReads_C w F r) _ _ _ _
 refine g_seq (c := q7c0) rfl ?_
 refine g_region (c := q7c1) rfl rfl ?_
 refine wl_v 0 rfl (v_assign rfl) gn rfl ?_
 refine w_end 1 rfl ?_
 refine g_seq (c := q7c2) rfl ?_
 refine g_seq (c := q7c3) rfl ?_
 refine g_region (c := q7c5) rfl rfl ?_
 obtain ⟨r5, hv6, h⟩ := h
 refine wl_s 0 rfl (s_call [] rfl Tryd.func28 rfl rfl rfl fun w2 hL3 => ?_) gn
 have hp4 : List.Perm ([] : List Ent) (([] : List Ent) ++ ([] : List Ent)) := perm_of_idx [] [] rfl rfl (by kernel_rfl)
 refine Calls.mono (trellislaw25_started_calls w2 (Fl ([] : List Snap)) (hL3.tt hp4 hG0 (me 1 rfl)) (hL3.tt hp4 hG1 (me 1 rfl)) (hL3.tt hp4 hG2 (me 1 rfl)) (hL3.tt hp4 hG3 (me 1 rfl)) (hL3.hFl (Sl := ([] : List Snap)) hp4 (sels [] rfl)) (hL3.into hp4 (Fl ([] : List Snap))) r5 hv6) ?_
 rintro _ w7 ⟨rfl, hM8⟩
 have hL9 := hL3.call hp4 hM8
 refine ⟨_, _, _, rfl, hL9, ?_⟩
 refine wl_v 1 rfl (v_not rfl) gn rfl ?_
 refine w_end 2 rfl ?_
 by_cases hp10 : r5 = true
 ·have h := if_pos' hp10 h
  refine g_false (c := q7c6) rfl _ rfl ((nf hp10)) ?_
  refine g_skip (c := q7c8) rfl ?_
  refine g_seq (c := q7c4) rfl ?_
  refine g_region (c := q7c9) rfl rfl ?_
  refine wl_v 0 rfl (v_move rfl) gn rfl ?_
  obtain ⟨r14, hv15, h⟩ := h
  refine wl_s 1 rfl (s_call [.string x1] rfl Tryd.func25 rfl rfl rfl fun w11 hL12 => ?_) gn
  have hp13 : List.Perm ([] : List Ent) (([] : List Ent) ++ ([] : List Ent)) := perm_of_idx [] [] rfl rfl (by kernel_rfl)
  refine Calls.mono (json_Parse_calls w11 (Fl ([] : List Snap)) x1 (hL12.tt hp13 hG3 (me 1 rfl)) (hL12.hFl (Sl := ([] : List Snap)) hp13 (sels [] rfl)) (hL12.into hp13 (Fl ([] : List Snap))) r14 hv15) ?_
  rintro _ w21 ⟨A16, n17, c18, rfl, hM22, h19⟩
  have hL23 := hL12.call hp13 hM22
  refine ⟨_, _, _, rfl, hL23, ?_⟩
  refine wl_v 2 rfl (v_move rfl) gn rfl ?_
  refine wl_v 3 rfl (v_extract rfl rfl) gn rfl ?_
  refine wl_v 4 rfl (v_extract rfl rfl) gn rfl ?_
  refine wl_v 5 rfl (v_extract rfl rfl) gn rfl ?_
  refine wl_v 6 rfl (v_assign rfl) gn rfl ?_
  refine wl_v 7 rfl (v_assign rfl) gn rfl ?_
  refine wl_v 8 rfl (v_assign rfl) gn rfl ?_
  refine w_end 9 rfl ?_
  refine g_seq (c := q7c10) rfl ?_
  refine g_seq (c := q7c11) rfl ?_
  refine g_region (c := q7c13) rfl rfl ?_
  refine wl_v 0 rfl (v_move rfl) gn rfl ?_
  refine wl_v 1 rfl (v_bin rfl rfl rfl) gn rfl ?_
  refine w_end 2 rfl ?_
  by_cases hp24 : r14.2.1 = 0
  ·have h := if_pos' hp24 h
   refine g_false (c := q7c14) rfl _ rfl ((eqib hp24)) ?_
   refine g_skip (c := q7c16) rfl ?_
   refine g_seq (c := q7c12) rfl ?_
   refine g_region (c := q7c17) rfl rfl ?_
   refine wl_v 0 rfl (v_move rfl) gn rfl ?_
   obtain ⟨r28, hv29, h⟩ := h
   refine wl_s 1 rfl (s_call [.slice A16 n17 c18] rfl Tryd.func22 rfl rfl rfl fun w25 hL26 => ?_) gn
   have hp27 : List.Perm ([.own (.slice A16 n17 c18) 31 4 n17 (r14.1.flatMap enc_api_JNode)] : List Ent) (([] : List Ent) ++ ([.own (.slice A16 n17 c18) 31 4 n17 (r14.1.flatMap enc_api_JNode)] : List Ent)) := perm_of_idx [] [0] rfl rfl (by kernel_rfl)
   refine Calls.mono (json_Print_calls w25 (Fl ([] : List Snap)) r14.1 A16 n17 c18 (hL26.argO (dk := k_api_JNode) hp27 [] rfl 0 rfl rfl (Ow.weak hL12.env.size h19) (me 0 rfl) (Cells.flat _)) (hL26.tt hp27 hG0 (me 1 rfl)) (hL26.tt hp27 hG1 (me 1 rfl)) (hL26.tt hp27 hG2 (me 1 rfl)) (hL26.hFl (Sl := ([] : List Snap)) hp27 (sels [] rfl)) (hL26.into hp27 (Fl ([] : List Snap))) r28 hv29) ?_
   rintro _ w30 ⟨rfl, hM31⟩
   have hL32 := hL26.call hp27 hM31
   refine ⟨_, _, _, rfl, hL32, ?_⟩
   refine wl_v 2 rfl (v_move rfl) gn rfl ?_
   refine wl_v 3 rfl (v_extract rfl rfl) gn rfl ?_
   refine wl_v 4 rfl (v_extract rfl rfl) gn rfl ?_
   refine wl_v 5 rfl (v_assign rfl) gn rfl ?_
   refine wl_v 6 rfl (v_assign rfl) gn rfl ?_
   refine w_end 7 rfl ?_
   refine g_seq (c := q7c18) rfl ?_
   refine g_region (c := q7c19) rfl rfl ?_
   refine wl_v 0 rfl (v_move rfl) gn rfl ?_
   obtain ⟨r36, hv37, h⟩ := h
   refine wl_s 1 rfl (s_call [.string r28.1] rfl Tryd.func25 rfl rfl rfl fun w33 hL34 => ?_) gn
   have hp35 : List.Perm ([.own (.slice A16 n17 c18) 31 4 n17 (r14.1.flatMap enc_api_JNode)] : List Ent) (([] : List Ent) ++ ([.own (.slice A16 n17 c18) 31 4 n17 (r14.1.flatMap enc_api_JNode)] : List Ent)) := perm_of_idx [] [0] rfl rfl (by kernel_rfl)
   refine Calls.mono (json_Parse_calls w33 (Fl ([] : List Snap)) r28.1 (hL34.tt hp35 hG3 (me 1 rfl)) (hL34.hFl (Sl := ([] : List Snap)) hp35 (sels [] rfl)) (hL34.into hp35 (Fl ([] : List Snap))) r36 hv37) ?_
   rintro _ w43 ⟨A38, n39, c40, rfl, hM44, h41⟩
   have hL45 := hL34.call hp35 hM44
   refine ⟨_, _, _, rfl, hL45, ?_⟩
   refine wl_v 2 rfl (v_move rfl) gn rfl ?_
   refine wl_v 3 rfl (v_extract rfl rfl) gn rfl ?_
   refine wl_v 4 rfl (v_extract rfl rfl) gn rfl ?_
   refine wl_v 5 rfl (v_extract rfl rfl) gn rfl ?_
   refine wl_v 6 rfl (v_assign rfl) gn rfl ?_
   refine wl_v 7 rfl (v_assign rfl) gn rfl ?_
   refine wl_v 8 rfl (v_assign rfl) gn rfl ?_
   refine w_end 9 rfl ?_
   refine g_seq (c := q7c20) rfl ?_
   refine g_region (c := q7c21) rfl rfl ?_
   refine wl_v 0 rfl (v_move rfl) gn rfl ?_
   refine wl_v 1 rfl (v_bin rfl rfl rfl) gn rfl ?_
   refine wl_v 2 rfl (v_move rfl) gn rfl ?_
   by_cases hp46 : r14.2.2 = 0
   ·have h := if_pos' hp46 h
    refine w_bool 55 rfl ((eqi hp46)) ?_
    refine wl_v 3 rfl (v_move rfl) (gy 55 rfl rfl) rfl ?_
    obtain ⟨r50, hv51, h⟩ := h
    refine wl_s 4 rfl (s_call [.slice A16 n17 c18] rfl Tryd.func21 rfl rfl rfl fun w47 hL48 => ?_) (gy 55 rfl rfl)
    have hp49 : List.Perm ([.own (.slice A38 n39 c40) 31 4 n39 (r36.1.flatMap enc_api_JNode), .own (.slice A16 n17 c18) 31 4 n17 (r14.1.flatMap enc_api_JNode)] : List Ent) (([] : List Ent) ++ ([.own (.slice A38 n39 c40) 31 4 n39 (r36.1.flatMap enc_api_JNode), .own (.slice A16 n17 c18) 31 4 n17 (r14.1.flatMap enc_api_JNode)] : List Ent)) := perm_of_idx [] [0, 1] rfl rfl (by kernel_rfl)
    refine Calls.mono (json_Shaped_calls w47 (Fl ([] : List Snap)) r14.1 A16 n17 c18 (hL48.argO (dk := k_api_JNode) hp49 [] rfl 1 rfl rfl (Ow.weak hL12.env.size h19) (me 0 rfl) (Cells.flat _)) (hL48.tt hp49 hG1 (me 1 rfl)) (hL48.tt hp49 hG2 (me 1 rfl)) (hL48.hFl (Sl := ([] : List Snap)) hp49 (sels [] rfl)) (hL48.into hp49 (Fl ([] : List Snap))) r50 hv51) ?_
    rintro _ w52 ⟨rfl, hM53⟩
    have hL54 := hL48.call hp49 hM53
    refine ⟨_, _, _, rfl, hL54, ?_⟩
    refine wl_v 5 rfl (v_pick (b := true) rfl rfl) gn rfl ?_
    refine wl_v 6 rfl (v_move rfl) gn rfl ?_
    by_cases hp55 : r50 = true
    ·have h := if_pos' hp55 h
     refine w_bool 59 rfl (hp55) ?_
     refine wl_v 7 rfl (v_move rfl) (gy 59 rfl rfl) rfl ?_
     refine wl_v 8 rfl (v_bin rfl rfl rfl) (gy 59 rfl rfl) rfl ?_
     refine wl_v 9 rfl (v_pick (b := true) rfl rfl) gn rfl ?_
     refine wl_v 10 rfl (v_move rfl) gn rfl ?_
     by_cases hp56 : r28.2 = 0
     ·have h := if_pos' hp56 h
      refine w_bool 63 rfl ((eqi hp56)) ?_
      refine wl_v 11 rfl (v_move rfl) (gy 63 rfl rfl) rfl ?_
      refine wl_v 12 rfl (v_lenS un_9 rfl) (gy 63 rfl rfl) rfl ?_
      refine wl_v 13 rfl (v_move rfl) (gy 63 rfl rfl) rfl ?_
      refine wl_v 14 rfl (v_lenS un_9 rfl) (gy 63 rfl rfl) rfl ?_
      refine wl_v 15 rfl (v_bin rfl rfl rfl) (gy 63 rfl rfl) rfl ?_
      refine wl_v 16 rfl (v_pick (b := true) rfl rfl) gn rfl ?_
      refine wl_v 17 rfl (v_move rfl) gn rfl ?_
      by_cases hp57 : (r28.1.size : Int) ≤ (x1.size : Int)
      ·have h := if_pos' hp57 h
       refine w_bool 70 rfl ((decide_eq_true hp57)) ?_
       refine wl_v 18 rfl (v_move rfl) (gy 70 rfl rfl) rfl ?_
       refine wl_v 19 rfl (v_bin rfl rfl rfl) (gy 70 rfl rfl) rfl ?_
       refine wl_v 20 rfl (v_pick (b := true) rfl rfl) gn rfl ?_
       refine wl_v 21 rfl (v_move rfl) gn rfl ?_
       by_cases hp58 : r36.2.1 = 0
       ·have h := if_pos' hp58 h
        refine w_bool 74 rfl ((eqi hp58)) ?_
        refine wl_v 22 rfl (v_move rfl) (gy 74 rfl rfl) rfl ?_
        refine wl_v 23 rfl (v_move rfl) (gy 74 rfl rfl) rfl ?_
        obtain ⟨r62, hv63, h⟩ := h
        refine wl_s 24 rfl (s_call [.slice A16 n17 c18, .slice A38 n39 c40] rfl Tryd.func27 rfl rfl rfl fun w59 hL60 => ?_) (gy 74 rfl rfl)
        have hp61 : List.Perm ([.own (.slice A38 n39 c40) 31 4 n39 (r36.1.flatMap enc_api_JNode), .own (.slice A16 n17 c18) 31 4 n17 (r14.1.flatMap enc_api_JNode)] : List Ent) (([] : List Ent) ++ ([.own (.slice A38 n39 c40) 31 4 n39 (r36.1.flatMap enc_api_JNode), .own (.slice A16 n17 c18) 31 4 n17 (r14.1.flatMap enc_api_JNode)] : List Ent)) := perm_of_idx [] [0, 1] rfl rfl (by kernel_rfl)
        refine Calls.mono (trellislaw25_same_calls w59 (Fl ([] : List Snap)) r14.1 r36.1 A16 n17 c18 A38 n39 c40 (hL60.argO (dk := k_api_JNode) hp61 [] rfl 1 rfl rfl (Ow.weak hL12.env.size h19) (me 0 rfl) (Cells.flat _)) (hL60.argO (dk := k_api_JNode) hp61 [] rfl 0 rfl rfl (Ow.weak hL34.env.size h41) (me 0 rfl) (Cells.flat _)) (hL60.hFl (Sl := ([] : List Snap)) hp61 (sels [] rfl)) (hL60.into hp61 (Fl ([] : List Snap))) r62 hv63) ?_
        rintro _ w65 ⟨rfl, hM66⟩
        have hL67 := hL60.call hp61 hM66
        refine ⟨_, _, _, rfl, hL67, ?_⟩
        refine wl_v 25 rfl (v_pick (b := true) rfl rfl) gn rfl ?_
        refine wl_v 26 rfl (v_assign rfl) gn rfl ?_
        refine w_end 27 rfl ?_
        refine g_retR (c := q7c22) [.bool r62] rfl Tryd.func7 rfl (.tmp rfl (.nil)) fun wr hLr => ?_
        have hMr : B.Loc w wr [] [St w []] := hLr.pick0 (sels [1] rfl)
        show trellislaw25_JsonReads_R w F  r (.returned (packV [.bool r62])) wr
        rw [h]
        exact ⟨rfl, hMr⟩
       ·have h := if_neg' hp58 h
        refine w_bool 74 rfl ((nei hp58)) ?_
        refine wl_pass 22 rfl (ps 74 rfl rfl rfl) ?_
        refine wl_pass 23 rfl (ps 74 rfl rfl rfl) ?_
        refine wl_pass 24 rfl (ps 74 rfl rfl rfl) ?_
        refine wl_v 25 rfl (v_pick (b := false) rfl rfl) gn rfl ?_
        refine wl_v 26 rfl (v_assign rfl) gn rfl ?_
        refine w_end 27 rfl ?_
        refine g_retR (c := q7c22) [.bool false] rfl Tryd.func7 rfl (.tmp rfl (.nil)) fun wr hLr => ?_
        have hMr : B.Loc w wr [] [St w []] := hLr.pick0 (sels [1] rfl)
        show trellislaw25_JsonReads_R w F  r (.returned (packV [.bool false])) wr
        rw [h]
        exact ⟨rfl, hMr⟩
      ·have h := if_neg' hp57 h
       refine w_bool 70 rfl ((decide_eq_false hp57)) ?_
       refine wl_pass 18 rfl (ps 70 rfl rfl rfl) ?_
       refine wl_pass 19 rfl (ps 70 rfl rfl rfl) ?_
       refine wl_v 20 rfl (v_pick (b := false) rfl rfl) gn rfl ?_
       refine wl_v 21 rfl (v_move rfl) gn rfl ?_
       refine wl_pass 22 rfl (ps 74 rfl rfl rfl) ?_
       refine wl_pass 23 rfl (ps 74 rfl rfl rfl) ?_
       refine wl_pass 24 rfl (ps 74 rfl rfl rfl) ?_
       refine wl_v 25 rfl (v_pick (b := false) rfl rfl) gn rfl ?_
       refine wl_v 26 rfl (v_assign rfl) gn rfl ?_
       refine w_end 27 rfl ?_
       refine g_retR (c := q7c22) [.bool false] rfl Tryd.func7 rfl (.tmp rfl (.nil)) fun wr hLr => ?_
       have hMr : B.Loc w wr [] [St w []] := hLr.pick0 (sels [1] rfl)
       show trellislaw25_JsonReads_R w F  r (.returned (packV [.bool false])) wr
       rw [h]
       exact ⟨rfl, hMr⟩
     ·have h := if_neg' hp56 h
      refine w_bool 63 rfl ((nei hp56)) ?_
      refine wl_pass 11 rfl (ps 63 rfl rfl rfl) ?_
      refine wl_pass 12 rfl (ps 63 rfl rfl rfl) ?_
      refine wl_pass 13 rfl (ps 63 rfl rfl rfl) ?_
      refine wl_pass 14 rfl (ps 63 rfl rfl rfl) ?_
      refine wl_pass 15 rfl (ps 63 rfl rfl rfl) ?_
      refine wl_v 16 rfl (v_pick (b := false) rfl rfl) gn rfl ?_
      refine wl_v 17 rfl (v_move rfl) gn rfl ?_
      refine wl_pass 18 rfl (ps 70 rfl rfl rfl) ?_
      refine wl_pass 19 rfl (ps 70 rfl rfl rfl) ?_
      refine wl_v 20 rfl (v_pick (b := false) rfl rfl) gn rfl ?_
      refine wl_v 21 rfl (v_move rfl) gn rfl ?_
      refine wl_pass 22 rfl (ps 74 rfl rfl rfl) ?_
      refine wl_pass 23 rfl (ps 74 rfl rfl rfl) ?_
      refine wl_pass 24 rfl (ps 74 rfl rfl rfl) ?_
      refine wl_v 25 rfl (v_pick (b := false) rfl rfl) gn rfl ?_
      refine wl_v 26 rfl (v_assign rfl) gn rfl ?_
      refine w_end 27 rfl ?_
      refine g_retR (c := q7c22) [.bool false] rfl Tryd.func7 rfl (.tmp rfl (.nil)) fun wr hLr => ?_
      have hMr : B.Loc w wr [] [St w []] := hLr.pick0 (sels [1] rfl)
      show trellislaw25_JsonReads_R w F  r (.returned (packV [.bool false])) wr
      rw [h]
      exact ⟨rfl, hMr⟩
    ·have h := if_neg' hp55 h
     refine w_bool 59 rfl ((bf hp55)) ?_
     refine wl_pass 7 rfl (ps 59 rfl rfl rfl) ?_
     refine wl_pass 8 rfl (ps 59 rfl rfl rfl) ?_
     refine wl_v 9 rfl (v_pick (b := false) rfl rfl) gn rfl ?_
     refine wl_v 10 rfl (v_move rfl) gn rfl ?_
     refine wl_pass 11 rfl (ps 63 rfl rfl rfl) ?_
     refine wl_pass 12 rfl (ps 63 rfl rfl rfl) ?_
     refine wl_pass 13 rfl (ps 63 rfl rfl rfl) ?_
     refine wl_pass 14 rfl (ps 63 rfl rfl rfl) ?_
     refine wl_pass 15 rfl (ps 63 rfl rfl rfl) ?_
     refine wl_v 16 rfl (v_pick (b := false) rfl rfl) gn rfl ?_
     refine wl_v 17 rfl (v_move rfl) gn rfl ?_
     refine wl_pass 18 rfl (ps 70 rfl rfl rfl) ?_
     refine wl_pass 19 rfl (ps 70 rfl rfl rfl) ?_
     refine wl_v 20 rfl (v_pick (b := false) rfl rfl) gn rfl ?_
     refine wl_v 21 rfl (v_move rfl) gn rfl ?_
     refine wl_pass 22 rfl (ps 74 rfl rfl rfl) ?_
     refine wl_pass 23 rfl (ps 74 rfl rfl rfl) ?_
     refine wl_pass 24 rfl (ps 74 rfl rfl rfl) ?_
     refine wl_v 25 rfl (v_pick (b := false) rfl rfl) gn rfl ?_
     refine wl_v 26 rfl (v_assign rfl) gn rfl ?_
     refine w_end 27 rfl ?_
     refine g_retR (c := q7c22) [.bool false] rfl Tryd.func7 rfl (.tmp rfl (.nil)) fun wr hLr => ?_
     have hMr : B.Loc w wr [] [St w []] := hLr.pick0 (sels [1] rfl)
     show trellislaw25_JsonReads_R w F  r (.returned (packV [.bool false])) wr
     rw [h]
     exact ⟨rfl, hMr⟩
   ·have h := if_neg' hp46 h
    refine w_bool 55 rfl ((nei hp46)) ?_
    refine wl_pass 3 rfl (ps 55 rfl rfl rfl) ?_
    refine wl_pass 4 rfl (ps 55 rfl rfl rfl) ?_
    refine wl_v 5 rfl (v_pick (b := false) rfl rfl) gn rfl ?_
    refine wl_v 6 rfl (v_move rfl) gn rfl ?_
    refine wl_pass 7 rfl (ps 59 rfl rfl rfl) ?_
    refine wl_pass 8 rfl (ps 59 rfl rfl rfl) ?_
    refine wl_v 9 rfl (v_pick (b := false) rfl rfl) gn rfl ?_
    refine wl_v 10 rfl (v_move rfl) gn rfl ?_
    refine wl_pass 11 rfl (ps 63 rfl rfl rfl) ?_
    refine wl_pass 12 rfl (ps 63 rfl rfl rfl) ?_
    refine wl_pass 13 rfl (ps 63 rfl rfl rfl) ?_
    refine wl_pass 14 rfl (ps 63 rfl rfl rfl) ?_
    refine wl_pass 15 rfl (ps 63 rfl rfl rfl) ?_
    refine wl_v 16 rfl (v_pick (b := false) rfl rfl) gn rfl ?_
    refine wl_v 17 rfl (v_move rfl) gn rfl ?_
    refine wl_pass 18 rfl (ps 70 rfl rfl rfl) ?_
    refine wl_pass 19 rfl (ps 70 rfl rfl rfl) ?_
    refine wl_v 20 rfl (v_pick (b := false) rfl rfl) gn rfl ?_
    refine wl_v 21 rfl (v_move rfl) gn rfl ?_
    refine wl_pass 22 rfl (ps 74 rfl rfl rfl) ?_
    refine wl_pass 23 rfl (ps 74 rfl rfl rfl) ?_
    refine wl_pass 24 rfl (ps 74 rfl rfl rfl) ?_
    refine wl_v 25 rfl (v_pick (b := false) rfl rfl) gn rfl ?_
    refine wl_v 26 rfl (v_assign rfl) gn rfl ?_
    refine w_end 27 rfl ?_
    refine g_retR (c := q7c22) [.bool false] rfl Tryd.func7 rfl (.tmp rfl (.nil)) fun wr hLr => ?_
    have hMr : B.Loc w wr [] [St w []] := hLr.pick0 (sels [1] rfl)
    show trellislaw25_JsonReads_R w F  r (.returned (packV [.bool false])) wr
    rw [h]
    exact ⟨rfl, hMr⟩
  ·have h := if_neg' hp24 h
   refine g_true (c := q7c14) rfl _ rfl ((neib hp24)) ?_
   refine g_seq (c := q7c15) rfl ?_
   have j1 : ∀ (x75 : Bool) (h : trellislaw25_JsonReads_j1 x75 r) , G (trellislaw25_JsonReads_C w F r) [.code q7c24, .code q7c12] [(2, .bool x75)] [] [Sm w.heap.size F w [], St w []] := by
    intro x75 h
    unfold trellislaw25_JsonReads_j1 at h
    refine g_retR (c := q7c24) [.bool x75] rfl Tryd.func7 rfl (.tmp rfl (.nil)) fun wr hLr => ?_
    have hMr : B.Loc w wr [] [St w []] := hLr.pick0 (sels [1] rfl)
    show trellislaw25_JsonReads_R w F  r (.returned (packV [.bool x75])) wr
    rw [h]
    exact ⟨rfl, hMr⟩
   refine g_region (c := q7c23) rfl rfl ?_
   refine wl_v 0 rfl (v_move rfl) gn rfl ?_
   refine wl_v 1 rfl (v_bin rfl rfl rfl) gn rfl ?_
   refine wl_v 2 rfl (v_move rfl) gn rfl ?_
   by_cases hp76 : r14.2.1 = 250
   ·have h := if_pos' hp76 h
    refine w_bool 23 rfl ((eqi hp76)) ?_
    refine wl_pass 3 rfl (ps 23 rfl rfl rfl) ?_
    refine wl_pass 4 rfl (ps 23 rfl rfl rfl) ?_
    refine wl_v 5 rfl (v_pick (b := true) rfl rfl) gn rfl ?_
    refine wl_v 6 rfl (v_move rfl) gn rfl ?_
    refine wl_v 7 rfl (v_move rfl) (gy 27 rfl rfl) rfl ?_
    refine wl_v 8 rfl (v_bin rfl rfl rfl) (gy 27 rfl rfl) rfl ?_
    refine wl_v 9 rfl (v_pick (b := true) rfl rfl) gn rfl ?_
    refine wl_v 10 rfl (v_move rfl) gn rfl ?_
    by_cases hp77 : r14.2.2 ≥ 0
    ·have h := if_pos' hp77 h
     refine w_bool 31 rfl ((decide_eq_true hp77)) ?_
     refine wl_v 11 rfl (v_move rfl) (gy 31 rfl rfl) rfl ?_
     refine wl_v 12 rfl (v_move rfl) (gy 31 rfl rfl) rfl ?_
     refine wl_v 13 rfl (v_lenS un_9 rfl) (gy 31 rfl rfl) rfl ?_
     refine wl_v 14 rfl (v_bin rfl rfl rfl) (gy 31 rfl rfl) rfl ?_
     refine wl_v 15 rfl (v_pick (b := true) rfl rfl) gn rfl ?_
     refine wl_v 16 rfl (v_move rfl) gn rfl ?_
     by_cases hp78 : r14.2.2 ≤ (x1.size : Int)
     ·have h := if_pos' hp78 h
      refine w_bool 37 rfl ((decide_eq_true hp78)) ?_
      refine wl_v 17 rfl (v_move rfl) (gy 37 rfl rfl) rfl ?_
      refine wl_v 18 rfl (v_lenQ un_22 rfl (Ow.weak hL12.env.size h19).hq) (gy 37 rfl rfl) rfl ?_
      refine wl_v 19 rfl (v_bin rfl rfl rfl) (gy 37 rfl rfl) rfl ?_
      refine wl_v 20 rfl (v_pick (b := true) rfl rfl) gn rfl ?_
      refine wl_v 21 rfl (v_assign rfl) gn rfl ?_
      refine w_end 22 rfl ?_
      exact g_go [0, 1] (j1 ((r14.1.length : Int) == 0) h) ⟨rfl, trivial⟩ (.cons _ (.slnil)) rfl
     ·have h := if_neg' hp78 h
      refine w_bool 37 rfl ((decide_eq_false hp78)) ?_
      refine wl_pass 17 rfl (ps 37 rfl rfl rfl) ?_
      refine wl_pass 18 rfl (ps 37 rfl rfl rfl) ?_
      refine wl_pass 19 rfl (ps 37 rfl rfl rfl) ?_
      refine wl_v 20 rfl (v_pick (b := false) rfl rfl) gn rfl ?_
      refine wl_v 21 rfl (v_assign rfl) gn rfl ?_
      refine w_end 22 rfl ?_
      exact g_go [0, 1] (j1 false h) ⟨rfl, trivial⟩ (.cons _ (.slnil)) rfl
    ·have h := if_neg' hp77 h
     refine w_bool 31 rfl ((decide_eq_false hp77)) ?_
     refine wl_pass 11 rfl (ps 31 rfl rfl rfl) ?_
     refine wl_pass 12 rfl (ps 31 rfl rfl rfl) ?_
     refine wl_pass 13 rfl (ps 31 rfl rfl rfl) ?_
     refine wl_pass 14 rfl (ps 31 rfl rfl rfl) ?_
     refine wl_v 15 rfl (v_pick (b := false) rfl rfl) gn rfl ?_
     refine wl_v 16 rfl (v_move rfl) gn rfl ?_
     refine wl_pass 17 rfl (ps 37 rfl rfl rfl) ?_
     refine wl_pass 18 rfl (ps 37 rfl rfl rfl) ?_
     refine wl_pass 19 rfl (ps 37 rfl rfl rfl) ?_
     refine wl_v 20 rfl (v_pick (b := false) rfl rfl) gn rfl ?_
     refine wl_v 21 rfl (v_assign rfl) gn rfl ?_
     refine w_end 22 rfl ?_
     exact g_go [0, 1] (j1 false h) ⟨rfl, trivial⟩ (.cons _ (.slnil)) rfl
   ·have h := if_neg' hp76 h
    refine w_bool 23 rfl ((nei hp76)) ?_
    refine wl_v 3 rfl (v_move rfl) (gy 23 rfl rfl) rfl ?_
    refine wl_v 4 rfl (v_bin rfl rfl rfl) (gy 23 rfl rfl) rfl ?_
    refine wl_v 5 rfl (v_pick (b := false) rfl rfl) gn rfl ?_
    refine wl_v 6 rfl (v_move rfl) gn rfl ?_
    by_cases hp79 : r14.2.1 = 251
    ·have h := if_pos' hp79 h
     refine w_bool 27 rfl ((eqi hp79)) ?_
     refine wl_v 7 rfl (v_move rfl) (gy 27 rfl rfl) rfl ?_
     refine wl_v 8 rfl (v_bin rfl rfl rfl) (gy 27 rfl rfl) rfl ?_
     refine wl_v 9 rfl (v_pick (b := true) rfl rfl) gn rfl ?_
     refine wl_v 10 rfl (v_move rfl) gn rfl ?_
     by_cases hp80 : r14.2.2 ≥ 0
     ·have h := if_pos' hp80 h
      refine w_bool 31 rfl ((decide_eq_true hp80)) ?_
      refine wl_v 11 rfl (v_move rfl) (gy 31 rfl rfl) rfl ?_
      refine wl_v 12 rfl (v_move rfl) (gy 31 rfl rfl) rfl ?_
      refine wl_v 13 rfl (v_lenS un_9 rfl) (gy 31 rfl rfl) rfl ?_
      refine wl_v 14 rfl (v_bin rfl rfl rfl) (gy 31 rfl rfl) rfl ?_
      refine wl_v 15 rfl (v_pick (b := true) rfl rfl) gn rfl ?_
      refine wl_v 16 rfl (v_move rfl) gn rfl ?_
      by_cases hp81 : r14.2.2 ≤ (x1.size : Int)
      ·have h := if_pos' hp81 h
       refine w_bool 37 rfl ((decide_eq_true hp81)) ?_
       refine wl_v 17 rfl (v_move rfl) (gy 37 rfl rfl) rfl ?_
       refine wl_v 18 rfl (v_lenQ un_22 rfl (Ow.weak hL12.env.size h19).hq) (gy 37 rfl rfl) rfl ?_
       refine wl_v 19 rfl (v_bin rfl rfl rfl) (gy 37 rfl rfl) rfl ?_
       refine wl_v 20 rfl (v_pick (b := true) rfl rfl) gn rfl ?_
       refine wl_v 21 rfl (v_assign rfl) gn rfl ?_
       refine w_end 22 rfl ?_
       exact g_go [0, 1] (j1 ((r14.1.length : Int) == 0) h) ⟨rfl, trivial⟩ (.cons _ (.slnil)) rfl
      ·have h := if_neg' hp81 h
       refine w_bool 37 rfl ((decide_eq_false hp81)) ?_
       refine wl_pass 17 rfl (ps 37 rfl rfl rfl) ?_
       refine wl_pass 18 rfl (ps 37 rfl rfl rfl) ?_
       refine wl_pass 19 rfl (ps 37 rfl rfl rfl) ?_
       refine wl_v 20 rfl (v_pick (b := false) rfl rfl) gn rfl ?_
       refine wl_v 21 rfl (v_assign rfl) gn rfl ?_
       refine w_end 22 rfl ?_
       exact g_go [0, 1] (j1 false h) ⟨rfl, trivial⟩ (.cons _ (.slnil)) rfl
     ·have h := if_neg' hp80 h
      refine w_bool 31 rfl ((decide_eq_false hp80)) ?_
      refine wl_pass 11 rfl (ps 31 rfl rfl rfl) ?_
      refine wl_pass 12 rfl (ps 31 rfl rfl rfl) ?_
      refine wl_pass 13 rfl (ps 31 rfl rfl rfl) ?_
      refine wl_pass 14 rfl (ps 31 rfl rfl rfl) ?_
      refine wl_v 15 rfl (v_pick (b := false) rfl rfl) gn rfl ?_
      refine wl_v 16 rfl (v_move rfl) gn rfl ?_
      refine wl_pass 17 rfl (ps 37 rfl rfl rfl) ?_
      refine wl_pass 18 rfl (ps 37 rfl rfl rfl) ?_
      refine wl_pass 19 rfl (ps 37 rfl rfl rfl) ?_
      refine wl_v 20 rfl (v_pick (b := false) rfl rfl) gn rfl ?_
      refine wl_v 21 rfl (v_assign rfl) gn rfl ?_
      refine w_end 22 rfl ?_
      exact g_go [0, 1] (j1 false h) ⟨rfl, trivial⟩ (.cons _ (.slnil)) rfl
    ·have h := if_neg' hp79 h
     refine w_bool 27 rfl ((nei hp79)) ?_
     refine wl_pass 7 rfl (ps 27 rfl rfl rfl) ?_
     refine wl_pass 8 rfl (ps 27 rfl rfl rfl) ?_
     refine wl_v 9 rfl (v_pick (b := false) rfl rfl) gn rfl ?_
     refine wl_v 10 rfl (v_move rfl) gn rfl ?_
     refine wl_pass 11 rfl (ps 31 rfl rfl rfl) ?_
     refine wl_pass 12 rfl (ps 31 rfl rfl rfl) ?_
     refine wl_pass 13 rfl (ps 31 rfl rfl rfl) ?_
     refine wl_pass 14 rfl (ps 31 rfl rfl rfl) ?_
     refine wl_v 15 rfl (v_pick (b := false) rfl rfl) gn rfl ?_
     refine wl_v 16 rfl (v_move rfl) gn rfl ?_
     refine wl_pass 17 rfl (ps 37 rfl rfl rfl) ?_
     refine wl_pass 18 rfl (ps 37 rfl rfl rfl) ?_
     refine wl_pass 19 rfl (ps 37 rfl rfl rfl) ?_
     refine wl_v 20 rfl (v_pick (b := false) rfl rfl) gn rfl ?_
     refine wl_v 21 rfl (v_assign rfl) gn rfl ?_
     refine w_end 22 rfl ?_
     exact g_go [0, 1] (j1 false h) ⟨rfl, trivial⟩ (.cons _ (.slnil)) rfl
 ·have h := if_neg' hp10 h
  refine g_true (c := q7c6) rfl _ rfl ((nt (bf hp10))) ?_
  refine g_seq (c := q7c7) rfl ?_
  refine g_region (c := q7c25) rfl rfl ?_
  refine wl_v 0 rfl (v_assign rfl) gn rfl ?_
  refine w_end 1 rfl ?_
  refine g_retR (c := q7c26) [.bool false] rfl Tryd.func7 rfl (.tmp rfl (.nil)) fun wr hLr => ?_
  have hMr : B.Loc w wr [] [St w []] := hLr.pick0 (sels [1] rfl)
  show trellislaw25_JsonReads_R w F  r (.returned (packV [.bool false])) wr
  rw [h]
  exact ⟨rfl, hMr⟩
end Go.Proofs.YtmfopcbjgbphaaaDoor.K
