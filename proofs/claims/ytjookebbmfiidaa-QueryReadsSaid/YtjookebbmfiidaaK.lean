/- What the machine's calls do, function by function, printed by my own tool. Condition of each: its relation holds of the answer, and what is handed in lies in memory as told. -/
import Derived.Test.YtjookebbmfiidaaK6
set_option linter.unusedVariables false
set_option maxRecDepth 100000
set_option maxHeartbeats 4000000
namespace Go.Proofs.Ytjookebbmfiidaa.K
open Go.Proofs.Ytjookebbmfiidaa.B Go.Proofs.Ytjookebbmfiidaa.R Go.RowKit
noncomputable abbrev q3c14 := Code.snd (Code.snd (Code.snd (Code.snd (Code.snd (Code.snd (Code.snd (bodyOf Try.f3)))))))
noncomputable abbrev q3c16 := Code.snd (Code.fst (Code.snd (Code.snd (Code.snd (Code.snd (Code.snd (Code.snd (bodyOf Try.f3))))))))
abbrev trellislaw20_QueryReads_R (w : World) (F : Nat → Prop) (r : Bool) : Ending → World → Prop := fun e w' => e = .returned (.bool r) ∧ B.Loc w w' [] [St w []]
noncomputable abbrev trellislaw20_QueryReads_C (w : World) (F : Nat → Prop) (r : Bool) : Cx := ⟨Try.prog, 3, Try.f3, 85, trellislaw20_QueryReads_R w F  r, w⟩
theorem trellislaw20_QueryReads_calls (w : World) (F : Nat → Prop) (x1 : ByteArray) (hF : ∀ b, F b → b < w.heap.size ∧ ∀ o ∈ ([] : List (List Nat)), b ∉ o) (hL0 : B.Loc w w [] [Sm w.heap.size F w [], St w []]) (r : Bool) (h : trellislaw20_QueryReads x1 r) : Calls Try.prog 3 #[.string x1] w (trellislaw20_QueryReads_R w F  r) := by
 unfold trellislaw20_QueryReads at h
 refine calls_of_Loc (vs := [.string x1]) 85 Try.func3 rfl Try.ntmps3 rfl hL0 ?_
 show G (trellislaw20_QueryReads_C w F r) _ _ _ _
 refine g_seq rfl <| g_region rfl rfl <| wl_v 0 rfl (v_assign rfl) gn rfl <| w_end 1 rfl <| g_seq rfl <| g_region rfl rfl <| wl_v 0 rfl (v_move rfl) gn rfl ?_
 obtain ⟨r5, hv6, h⟩ := h
 refine wl_s 1 rfl (s_call [.string x1] rfl Try.func4 rfl rfl rfl fun w2 hL3 => ?_) gn
 have hp4 := pmI hL3 .n .n (by kernel_rfl)
 refine Calls.mono (trellisref20_Parse_calls w2 (Fl ([] : List Snap)) x1 (hL3.hFl hp4 (sels [] rfl)) (hL3.into hp4 _) r5 hv6) ?_
 rintro _ w17 ⟨A7, n8, c9, A12, n13, c14, rfl, hM18, h10, h15⟩
 have hL19 := hL3.call hp4 hM18
 refine ⟨_, _, _, rfl, hL19, ?_⟩
 refine wl_v 2 rfl (v_move rfl) gn rfl <| wl_v 3 rfl (v_extract rfl rfl) gn rfl <| wl_v 4 rfl (v_extract rfl rfl) gn rfl <| wl_v 5 rfl (v_extract rfl rfl) gn rfl ?_
 refine wl_s 6 rfl (s_alloc [.slice none 0 0, .slice none 0 0] zr_25 rfl fun gb20 => ?_) gn
 refine wl_s 7 rfl (s_stB (vs := [.slice A7 n8 c9, .slice A12 n13 c14]) (cs' := [.slice A7 n8 c9, .slice A12 n13 c14]) (M' := [.box gb20 25 [.slice A7 n8 c9, .slice A12 n13 c14], .own (.slice A7 n8 c9) 46 5 n8 (r5.1.nodes.flatMap enc_api_PatNode), .own (.slice A12 n13 c14) 48 4 n13 (r5.1.conds.flatMap enc_api_Cond)]) 0 sz_25 rfl rfl rfl rfl rfl rfl rfl rfl rfl ?_) gn
 refine wl_v 8 rfl (v_assign rfl) gn rfl <| wl_v 9 rfl (v_assign rfl) gn rfl <| w_end 10 rfl <| g_seq rfl <| g_region rfl rfl ?_
 obtain ⟨r25, hv26, h⟩ := h
 refine wl_s 0 rfl (s_call [.string (⟨#[40, 120, 32, 40, 121, 41, 32, 64, 97, 32, 34, 122, 34, 41, 32, 119, 104, 101, 110, 32, 64, 97, 32, 61, 32, 34, 113, 34]⟩ : ByteArray)] rfl Try.func5 rfl rfl rfl fun w22 hL23 => ?_) gn
 have hp24 := pmI hL23 .n (.c 0 rfl (.c 1 rfl (.c 2 rfl .n))) (by kernel_rfl)
 refine Calls.mono (query_Parse_calls w22 (Fl ([] : List Snap)) (⟨#[40, 120, 32, 40, 121, 41, 32, 64, 97, 32, 34, 122, 34, 41, 32, 119, 104, 101, 110, 32, 64, 97, 32, 61, 32, 34, 113, 34]⟩ : ByteArray) (hL23.hFl hp24 (sels [] rfl)) (hL23.into hp24 _) r25 hv26) ?_
 rintro _ w37 ⟨A27, n28, c29, A32, n33, c34, rfl, hM38, h30, h35⟩
 have hL39 := hL23.call hp24 hM38
 refine ⟨_, _, _, rfl, hL39, ?_⟩
 refine wl_v 1 rfl (v_move rfl) gn rfl <| wl_v 2 rfl (v_extract rfl rfl) gn rfl <| wl_v 3 rfl (v_extract rfl rfl) gn rfl <| wl_v 4 rfl (v_extract rfl rfl) gn rfl ?_
 refine wl_s 5 rfl (s_alloc [.slice none 0 0, .slice none 0 0] zr_25 rfl fun gb40 => ?_) gn
 refine wl_s 6 rfl (s_stB (vs := [.slice A27 n28 c29, .slice A32 n33 c34]) (cs' := [.slice A27 n28 c29, .slice A32 n33 c34]) (M' := [.box gb40 25 [.slice A27 n28 c29, .slice A32 n33 c34], .own (.slice A27 n28 c29) 46 5 n28 (r25.1.nodes.flatMap enc_api_PatNode), .own (.slice A32 n33 c34) 48 4 n33 (r25.1.conds.flatMap enc_api_Cond), .box gb20 25 [.slice A7 n8 c9, .slice A12 n13 c14], .own (.slice A7 n8 c9) 46 5 n8 (r5.1.nodes.flatMap enc_api_PatNode), .own (.slice A12 n13 c14) 48 4 n13 (r5.1.conds.flatMap enc_api_Cond)]) 0 sz_25 rfl rfl rfl rfl rfl rfl rfl rfl rfl ?_) gn
 refine wl_v 7 rfl (v_assign rfl) gn rfl <| wl_v 8 rfl (v_assign rfl) gn rfl <| w_end 9 rfl <| g_seq rfl <| g_region rfl rfl <| wl_v 0 rfl (v_ldB [.slice A27 n28 c29, .slice A32 n33 c34] 0 ld_25 rfl rfl rfl rfl) gn rfl ?_
 obtain ⟨r45, hv46, h⟩ := h
 refine wl_s 1 rfl (s_call [.agg #[.slice A27 n28 c29, .slice A32 n33 c34]] rfl Try.func6 rfl rfl rfl fun w42 hL43 => ?_) gn
 have hp44 := pmI hL43 .n (.c 0 rfl (.c 1 rfl (.c 2 rfl (.c 3 rfl (.c 4 rfl (.c 5 rfl .n)))))) (by kernel_rfl)
 refine Calls.mono (trellislaw20_twin_calls w42 (Fl ([] : List Snap)) r25.1 A27 n28 c29 A32 n33 c34 (hL43.argO (dk := k_api_PatNode) hp44 [] rfl 1 rfl rfl (Ow.weak hL23.env.size h30) (me 0 rfl) (Cells.flat _)) (hL43.argO (dk := k_api_Cond) hp44 [] rfl 2 rfl rfl (Ow.weak hL23.env.size h35) (me 0 rfl) (Cells.flat _)) (hL43.hFl hp44 (sels [] rfl)) (hL43.into hp44 _) r45 hv46) ?_
 rintro _ w57 ⟨A47, n48, c49, A52, n53, c54, rfl, hM58, h50, h55⟩
 have hL59 := hL43.call hp44 hM58
 refine ⟨_, _, _, rfl, hL59, ?_⟩
 refine wl_s 2 rfl (s_alloc [.slice none 0 0, .slice none 0 0] zr_25 rfl fun gb60 => ?_) gn
 refine wl_s 3 rfl (s_stB (vs := [.slice A47 n48 c49, .slice A52 n53 c54]) (cs' := [.slice A47 n48 c49, .slice A52 n53 c54]) (M' := [.box gb60 25 [.slice A47 n48 c49, .slice A52 n53 c54], .own (.slice A47 n48 c49) 46 5 n48 (r45.nodes.flatMap enc_api_PatNode), .own (.slice A52 n53 c54) 48 4 n53 (r45.conds.flatMap enc_api_Cond), .box gb40 25 [.slice A27 n28 c29, .slice A32 n33 c34], .own (.slice A27 n28 c29) 46 5 n28 (r25.1.nodes.flatMap enc_api_PatNode), .own (.slice A32 n33 c34) 48 4 n33 (r25.1.conds.flatMap enc_api_Cond), .box gb20 25 [.slice A7 n8 c9, .slice A12 n13 c14], .own (.slice A7 n8 c9) 46 5 n8 (r5.1.nodes.flatMap enc_api_PatNode), .own (.slice A12 n13 c14) 48 4 n13 (r5.1.conds.flatMap enc_api_Cond)]) 0 sz_25 rfl rfl rfl rfl rfl rfl rfl rfl rfl ?_) gn
 refine w_end 4 rfl <| g_seq rfl <| g_region rfl rfl <| wl_v 0 rfl (v_move rfl) gn rfl ?_
 obtain ⟨r65, hv66, h⟩ := h
 refine wl_s 1 rfl (s_call [.string x1] rfl Try.func5 rfl rfl rfl fun w62 hL63 => ?_) gn
 have hp64 := pmI hL63 .n (.c 0 rfl (.c 1 rfl (.c 2 rfl (.c 3 rfl (.c 4 rfl (.c 5 rfl (.c 6 rfl (.c 7 rfl (.c 8 rfl .n))))))))) (by kernel_rfl)
 refine Calls.mono (query_Parse_calls w62 (Fl ([] : List Snap)) x1 (hL63.hFl hp64 (sels [] rfl)) (hL63.into hp64 _) r65 hv66) ?_
 rintro _ w77 ⟨A67, n68, c69, A72, n73, c74, rfl, hM78, h70, h75⟩
 have hL79 := hL63.call hp64 hM78
 refine ⟨_, _, _, rfl, hL79, ?_⟩
 refine wl_v 2 rfl (v_move rfl) gn rfl <| wl_v 3 rfl (v_extract rfl rfl) gn rfl <| wl_v 4 rfl (v_extract rfl rfl) gn rfl <| wl_v 5 rfl (v_extract rfl rfl) gn rfl ?_
 refine wl_s 6 rfl (s_alloc [.slice none 0 0, .slice none 0 0] zr_25 rfl fun gb80 => ?_) gn
 refine wl_s 7 rfl (s_stB (vs := [.slice A67 n68 c69, .slice A72 n73 c74]) (cs' := [.slice A67 n68 c69, .slice A72 n73 c74]) (M' := [.box gb80 25 [.slice A67 n68 c69, .slice A72 n73 c74], .own (.slice A67 n68 c69) 46 5 n68 (r65.1.nodes.flatMap enc_api_PatNode), .own (.slice A72 n73 c74) 48 4 n73 (r65.1.conds.flatMap enc_api_Cond), .box gb60 25 [.slice A47 n48 c49, .slice A52 n53 c54], .own (.slice A47 n48 c49) 46 5 n48 (r45.nodes.flatMap enc_api_PatNode), .own (.slice A52 n53 c54) 48 4 n53 (r45.conds.flatMap enc_api_Cond), .box gb40 25 [.slice A27 n28 c29, .slice A32 n33 c34], .own (.slice A27 n28 c29) 46 5 n28 (r25.1.nodes.flatMap enc_api_PatNode), .own (.slice A32 n33 c34) 48 4 n33 (r25.1.conds.flatMap enc_api_Cond), .box gb20 25 [.slice A7 n8 c9, .slice A12 n13 c14], .own (.slice A7 n8 c9) 46 5 n8 (r5.1.nodes.flatMap enc_api_PatNode), .own (.slice A12 n13 c14) 48 4 n13 (r5.1.conds.flatMap enc_api_Cond)]) 0 sz_25 rfl rfl rfl rfl rfl rfl rfl rfl rfl ?_) gn
 refine wl_v 8 rfl (v_assign rfl) gn rfl <| wl_v 9 rfl (v_assign rfl) gn rfl <| w_end 10 rfl <| g_seq rfl <| g_region rfl rfl <| wl_v 0 rfl (v_move rfl) gn rfl ?_
 obtain ⟨r85, hv86, h⟩ := h
 refine wl_s 1 rfl (s_call [.string x1] rfl Try.func5 rfl rfl rfl fun w82 hL83 => ?_) gn
 have hp84 := pmI hL83 .n (.c 0 rfl (.c 1 rfl (.c 2 rfl (.c 3 rfl (.c 4 rfl (.c 5 rfl (.c 6 rfl (.c 7 rfl (.c 8 rfl (.c 9 rfl (.c 10 rfl (.c 11 rfl .n)))))))))))) (by kernel_rfl)
 refine Calls.mono (query_Parse_calls w82 (Fl ([] : List Snap)) x1 (hL83.hFl hp84 (sels [] rfl)) (hL83.into hp84 _) r85 hv86) ?_
 rintro _ w97 ⟨A87, n88, c89, A92, n93, c94, rfl, hM98, h90, h95⟩
 have hL99 := hL83.call hp84 hM98
 refine ⟨_, _, _, rfl, hL99, ?_⟩
 refine wl_v 2 rfl (v_move rfl) gn rfl <| wl_v 3 rfl (v_extract rfl rfl) gn rfl <| wl_v 4 rfl (v_extract rfl rfl) gn rfl <| wl_v 5 rfl (v_extract rfl rfl) gn rfl ?_
 refine wl_s 6 rfl (s_alloc [.slice none 0 0, .slice none 0 0] zr_25 rfl fun gb100 => ?_) gn
 refine wl_s 7 rfl (s_stB (vs := [.slice A87 n88 c89, .slice A92 n93 c94]) (cs' := [.slice A87 n88 c89, .slice A92 n93 c94]) (M' := [.box gb100 25 [.slice A87 n88 c89, .slice A92 n93 c94], .own (.slice A87 n88 c89) 46 5 n88 (r85.1.nodes.flatMap enc_api_PatNode), .own (.slice A92 n93 c94) 48 4 n93 (r85.1.conds.flatMap enc_api_Cond), .box gb80 25 [.slice A67 n68 c69, .slice A72 n73 c74], .own (.slice A67 n68 c69) 46 5 n68 (r65.1.nodes.flatMap enc_api_PatNode), .own (.slice A72 n73 c74) 48 4 n73 (r65.1.conds.flatMap enc_api_Cond), .box gb60 25 [.slice A47 n48 c49, .slice A52 n53 c54], .own (.slice A47 n48 c49) 46 5 n48 (r45.nodes.flatMap enc_api_PatNode), .own (.slice A52 n53 c54) 48 4 n53 (r45.conds.flatMap enc_api_Cond), .box gb40 25 [.slice A27 n28 c29, .slice A32 n33 c34], .own (.slice A27 n28 c29) 46 5 n28 (r25.1.nodes.flatMap enc_api_PatNode), .own (.slice A32 n33 c34) 48 4 n33 (r25.1.conds.flatMap enc_api_Cond), .box gb20 25 [.slice A7 n8 c9, .slice A12 n13 c14], .own (.slice A7 n8 c9) 46 5 n8 (r5.1.nodes.flatMap enc_api_PatNode), .own (.slice A12 n13 c14) 48 4 n13 (r5.1.conds.flatMap enc_api_Cond)]) 0 sz_25 rfl rfl rfl rfl rfl rfl rfl rfl rfl ?_) gn
 refine wl_v 8 rfl (v_assign rfl) gn rfl <| wl_v 9 rfl (v_assign rfl) gn rfl <| w_end 10 rfl <| g_seq rfl <| g_seq rfl ?_
 have j1 : ∀ (x149 : Bool) (h : trellislaw20_QueryReads_j1 r85 r25 r45 x149 r) , G (trellislaw20_QueryReads_C w F r) [.code q3c16, .code q3c14] [(6, .pointer (some ⟨gb40, 0, none⟩)), (9, .pointer (some ⟨gb60, 0, none⟩)), (13, .pointer (some ⟨gb100, 0, none⟩)), (77, .bool x149)] [.box gb100 25 [.slice A87 n88 c89, .slice A92 n93 c94], .own (.slice A87 n88 c89) 46 5 n88 (r85.1.nodes.flatMap enc_api_PatNode), .own (.slice A92 n93 c94) 48 4 n93 (r85.1.conds.flatMap enc_api_Cond), .box gb60 25 [.slice A47 n48 c49, .slice A52 n53 c54], .own (.slice A47 n48 c49) 46 5 n48 (r45.nodes.flatMap enc_api_PatNode), .own (.slice A52 n53 c54) 48 4 n53 (r45.conds.flatMap enc_api_Cond), .box gb40 25 [.slice A27 n28 c29, .slice A32 n33 c34], .own (.slice A27 n28 c29) 46 5 n28 (r25.1.nodes.flatMap enc_api_PatNode), .own (.slice A32 n33 c34) 48 4 n33 (r25.1.conds.flatMap enc_api_Cond)] [Sm w.heap.size F w [], St w []] := by
  intro x149 h
  unfold trellislaw20_QueryReads_j1 at h
  by_cases hp150 : x149 = true
  ·have h := if_pos' hp150 h
   refine g_true rfl _ rfl (hp150) <| g_seq rfl <| g_region rfl rfl <| wl_v 0 rfl (v_assign rfl) gn rfl <| w_end 1 rfl ?_
   refine g_retR [.bool false] rfl Try.func3 rfl (.tmp rfl (.nil)) fun wr hLr => ?_
   have hMr := hLr.pk0 (.c 1 rfl .n)
   show trellislaw20_QueryReads_R w F  r (.returned (packV [.bool false])) wr
   rw [h]
   exact ⟨rfl, hMr⟩
  ·have h := if_neg' hp150 h
   refine g_false rfl _ rfl ((bf hp150)) <| g_skip rfl <| g_seq rfl <| g_region rfl rfl <| wl_v 0 rfl (v_ldB [.slice A87 n88 c89, .slice A92 n93 c94] 0 ld_25 rfl rfl rfl rfl) gn rfl ?_
   obtain ⟨r154, hv155, h⟩ := h
   refine wl_s 1 rfl (s_call [.agg #[.slice A87 n88 c89, .slice A92 n93 c94]] rfl Try.func8 rfl rfl rfl fun w151 hL152 => ?_) gn
   have hp153 := pmI hL152 (.c 1 rfl (.c 2 rfl .n)) (.c 0 rfl (.c 3 rfl (.c 4 rfl (.c 5 rfl (.c 6 rfl (.c 7 rfl (.c 8 rfl .n))))))) (by kernel_rfl)
   refine Calls.mono (trellislaw20_keeps_calls w151 (Fl ([] : List Snap)) r85.1 w.heap.size A87 n88 c89 w.heap.size A92 n93 c94 hL152.env.size (Ow.weak hL83.env.size h90) hL152.env.size (Ow.weak hL83.env.size h95) (hL152.hFl hp153 (sels [] rfl)) (hL152.into hp153 _) r154 hv155) ?_
   rintro _ w156 ⟨rfl, hM157⟩
   have hL158 := hL152.call hp153 hM157
   refine ⟨_, _, _, rfl, hL158, ?_⟩
   refine wl_v 2 rfl (v_move rfl) gn rfl ?_
   by_cases hp159 : r154 = true
   ·have h := if_pos' hp159 h
    refine w_bool 80 rfl (hp159) <| wl_v 3 rfl (v_ldB [.slice A27 n28 c29, .slice A32 n33 c34] 4 ld_25 rfl rfl rfl rfl) (gy 80 rfl rfl) rfl <| wl_v 4 rfl (v_ldB [.slice A47 n48 c49, .slice A52 n53 c54] 1 ld_25 rfl rfl rfl rfl) (gy 80 rfl rfl) rfl ?_
    obtain ⟨r163, hv164, h⟩ := h
    refine wl_s 5 rfl (s_call [.agg #[.slice A27 n28 c29, .slice A32 n33 c34], .agg #[.slice A47 n48 c49, .slice A52 n53 c54]] rfl Try.func7 rfl rfl rfl fun w160 hL161 => ?_) (gy 80 rfl rfl)
    have hp162 := pmI hL161 .n (.c 0 rfl (.c 1 rfl (.c 2 rfl (.c 3 rfl (.c 4 rfl (.c 5 rfl (.c 6 rfl .n))))))) (by kernel_rfl)
    refine Calls.mono (trellislaw20_same_calls w160 (Fl ([] : List Snap)) r25.1 r45 A27 n28 c29 A32 n33 c34 A47 n48 c49 A52 n53 c54 (hL161.argO (dk := k_api_PatNode) hp162 [] rfl 5 rfl rfl (Ow.weak hL23.env.size h30) (me 0 rfl) (Cells.flat _)) (hL161.argO (dk := k_api_Cond) hp162 [] rfl 6 rfl rfl (Ow.weak hL23.env.size h35) (me 0 rfl) (Cells.flat _)) (hL161.argO (dk := k_api_PatNode) hp162 [] rfl 2 rfl rfl (Ow.weak hL43.env.size h50) (me 0 rfl) (Cells.flat _)) (hL161.argO (dk := k_api_Cond) hp162 [] rfl 3 rfl rfl (Ow.weak hL43.env.size h55) (me 0 rfl) (Cells.flat _)) (hL161.hFl hp162 (sels [] rfl)) (hL161.into hp162 _) r163 hv164) ?_
    rintro _ w165 ⟨rfl, hM166⟩
    have hL167 := hL161.call hp162 hM166
    refine ⟨_, _, _, rfl, hL167, ?_⟩
    refine wl_v 6 rfl (v_pick (b := true) rfl rfl) gn rfl <| wl_v 7 rfl (v_assign rfl) gn rfl <| w_end 8 rfl ?_
    refine g_retR [.bool r163] rfl Try.func3 rfl (.tmp rfl (.nil)) fun wr hLr => ?_
    have hMr := hLr.pk0 (.c 1 rfl .n)
    show trellislaw20_QueryReads_R w F  r (.returned (packV [.bool r163])) wr
    rw [h]
    exact ⟨rfl, hMr⟩
   ·have h := if_neg' hp159 h
    refine w_bool 80 rfl ((bf hp159)) <| wl_pass 3 rfl (ps 80 rfl rfl rfl) <| wl_pass 4 rfl (ps 80 rfl rfl rfl) <| wl_pass 5 rfl (ps 80 rfl rfl rfl) <| wl_v 6 rfl (v_pick (b := false) rfl rfl) gn rfl <| wl_v 7 rfl (v_assign rfl) gn rfl <| w_end 8 rfl ?_
    refine g_retR [.bool false] rfl Try.func3 rfl (.tmp rfl (.nil)) fun wr hLr => ?_
    have hMr := hLr.pk0 (.c 1 rfl .n)
    show trellislaw20_QueryReads_R w F  r (.returned (packV [.bool false])) wr
    rw [h]
    exact ⟨rfl, hMr⟩
 refine g_region rfl rfl <| wl_v 0 rfl (v_ldB [.slice A67 n68 c69, .slice A72 n73 c74] 3 ld_25 rfl rfl rfl rfl) gn rfl <| wl_v 1 rfl (v_ldB [.slice A7 n8 c9, .slice A12 n13 c14] 12 ld_25 rfl rfl rfl rfl) gn rfl ?_
 obtain ⟨r171, hv172, h⟩ := h
 refine wl_s 2 rfl (s_call [.agg #[.slice A67 n68 c69, .slice A72 n73 c74], .agg #[.slice A7 n8 c9, .slice A12 n13 c14]] rfl Try.func7 rfl rfl rfl fun w168 hL169 => ?_) gn
 have hp170 := pmI hL169 .n (.c 0 rfl (.c 1 rfl (.c 2 rfl (.c 3 rfl (.c 4 rfl (.c 5 rfl (.c 6 rfl (.c 7 rfl (.c 8 rfl (.c 9 rfl (.c 10 rfl (.c 11 rfl (.c 12 rfl (.c 13 rfl (.c 14 rfl .n))))))))))))))) (by kernel_rfl)
 refine Calls.mono (trellislaw20_same_calls w168 (Fl ([] : List Snap)) r65.1 r5.1 A67 n68 c69 A72 n73 c74 A7 n8 c9 A12 n13 c14 (hL169.argO (dk := k_api_PatNode) hp170 [] rfl 4 rfl rfl (Ow.weak hL63.env.size h70) (me 0 rfl) (Cells.flat _)) (hL169.argO (dk := k_api_Cond) hp170 [] rfl 5 rfl rfl (Ow.weak hL63.env.size h75) (me 0 rfl) (Cells.flat _)) (hL169.argO (dk := k_api_PatNode) hp170 [] rfl 13 rfl rfl (Ow.weak hL3.env.size h10) (me 0 rfl) (Cells.flat _)) (hL169.argO (dk := k_api_Cond) hp170 [] rfl 14 rfl rfl (Ow.weak hL3.env.size h15) (me 0 rfl) (Cells.flat _)) (hL169.hFl hp170 (sels [] rfl)) (hL169.into hp170 _) r171 hv172) ?_
 rintro _ w173 ⟨rfl, hM174⟩
 have hL175 := hL169.call hp170 hM174
 refine ⟨_, _, _, rfl, hL175, ?_⟩
 refine wl_v 3 rfl (v_not rfl) gn rfl <| wl_v 4 rfl (v_move rfl) gn rfl ?_
 by_cases hp176 : r171 = true
 ·have h := if_pos' hp176 h
  refine w_bool 45 rfl ((nf hp176)) <| wl_v 5 rfl (v_move rfl) (gy 45 rfl rfl) rfl <| wl_v 6 rfl (v_move rfl) (gy 45 rfl rfl) rfl <| wl_v 7 rfl (v_bin rfl rfl rfl) (gy 45 rfl rfl) rfl <| wl_v 8 rfl (v_pick (b := false) rfl rfl) gn rfl <| wl_v 9 rfl (v_move rfl) gn rfl ?_
  by_cases hp177 : r65.2.1 = r5.2.1
  ·have h := if_pos' hp177 h
   refine w_bool 50 rfl ((eqib hp177)) <| wl_v 10 rfl (v_move rfl) (gy 50 rfl rfl) rfl <| wl_v 11 rfl (v_move rfl) (gy 50 rfl rfl) rfl <| wl_v 12 rfl (v_bin rfl rfl rfl) (gy 50 rfl rfl) rfl <| wl_v 13 rfl (v_pick (b := false) rfl rfl) gn rfl <| wl_v 14 rfl (v_move rfl) gn rfl ?_
   by_cases hp178 : r65.2.2 = r5.2.2
   ·have h := if_pos' hp178 h
    refine w_bool 55 rfl ((eqib hp178)) <| wl_v 15 rfl (v_ldB [.slice A27 n28 c29, .slice A32 n33 c34] 9 ld_25 rfl rfl rfl rfl) (gy 55 rfl rfl) rfl <| wl_v 16 rfl (v_ldB [.slice A47 n48 c49, .slice A52 n53 c54] 6 ld_25 rfl rfl rfl rfl) (gy 55 rfl rfl) rfl ?_
    obtain ⟨r182, hv183, h⟩ := h
    refine wl_s 17 rfl (s_call [.agg #[.slice A27 n28 c29, .slice A32 n33 c34], .agg #[.slice A47 n48 c49, .slice A52 n53 c54]] rfl Try.func7 rfl rfl rfl fun w179 hL180 => ?_) (gy 55 rfl rfl)
    have hp181 := pmI hL180 .n (.c 0 rfl (.c 1 rfl (.c 2 rfl (.c 3 rfl (.c 4 rfl (.c 5 rfl (.c 6 rfl (.c 7 rfl (.c 8 rfl (.c 9 rfl (.c 10 rfl (.c 11 rfl (.c 12 rfl (.c 13 rfl (.c 14 rfl .n))))))))))))))) (by kernel_rfl)
    refine Calls.mono (trellislaw20_same_calls w179 (Fl ([] : List Snap)) r25.1 r45 A27 n28 c29 A32 n33 c34 A47 n48 c49 A52 n53 c54 (hL180.argO (dk := k_api_PatNode) hp181 [] rfl 10 rfl rfl (Ow.weak hL23.env.size h30) (me 0 rfl) (Cells.flat _)) (hL180.argO (dk := k_api_Cond) hp181 [] rfl 11 rfl rfl (Ow.weak hL23.env.size h35) (me 0 rfl) (Cells.flat _)) (hL180.argO (dk := k_api_PatNode) hp181 [] rfl 7 rfl rfl (Ow.weak hL43.env.size h50) (me 0 rfl) (Cells.flat _)) (hL180.argO (dk := k_api_Cond) hp181 [] rfl 8 rfl rfl (Ow.weak hL43.env.size h55) (me 0 rfl) (Cells.flat _)) (hL180.hFl hp181 (sels [] rfl)) (hL180.into hp181 _) r182 hv183) ?_
    rintro _ w184 ⟨rfl, hM185⟩
    have hL186 := hL180.call hp181 hM185
    refine ⟨_, _, _, rfl, hL186, ?_⟩
    refine wl_v 18 rfl (v_not rfl) (gy 55 rfl rfl) rfl <| wl_v 19 rfl (v_pick (b := false) rfl rfl) gn rfl <| wl_v 20 rfl (v_move rfl) gn rfl ?_
    by_cases hp187 : r182 = true
    ·have h := if_pos' hp187 h
     refine w_bool 61 rfl ((nf hp187)) <| wl_v 21 rfl (v_ldB [.slice A67 n68 c69, .slice A72 n73 c74] 3 ld_25 rfl rfl rfl rfl) (gy 61 rfl rfl) rfl ?_
     obtain ⟨r191, hv192, h⟩ := h
     refine wl_s 22 rfl (s_call [.agg #[.slice A67 n68 c69, .slice A72 n73 c74]] rfl Try.func8 rfl rfl rfl fun w188 hL189 => ?_) (gy 61 rfl rfl)
     have hp190 := pmI hL189 (.c 4 rfl (.c 5 rfl .n)) (.c 0 rfl (.c 1 rfl (.c 2 rfl (.c 3 rfl (.c 6 rfl (.c 7 rfl (.c 8 rfl (.c 9 rfl (.c 10 rfl (.c 11 rfl (.c 12 rfl (.c 13 rfl (.c 14 rfl .n))))))))))))) (by kernel_rfl)
     refine Calls.mono (trellislaw20_keeps_calls w188 (Fl ([] : List Snap)) r65.1 w.heap.size A67 n68 c69 w.heap.size A72 n73 c74 hL189.env.size (Ow.weak hL63.env.size h70) hL189.env.size (Ow.weak hL63.env.size h75) (hL189.hFl hp190 (sels [] rfl)) (hL189.into hp190 _) r191 hv192) ?_
     rintro _ w193 ⟨rfl, hM194⟩
     have hL195 := hL189.call hp190 hM194
     refine ⟨_, _, _, rfl, hL195, ?_⟩
     refine wl_v 23 rfl (v_not rfl) (gy 61 rfl rfl) rfl <| wl_v 24 rfl (v_pick (b := false) rfl rfl) gn rfl <| wl_v 25 rfl (v_move rfl) gn rfl ?_
     by_cases hp196 : r191 = true
     ·have h := if_pos' hp196 h
      refine w_bool 66 rfl ((nf hp196)) <| wl_v 26 rfl (v_ldB [.slice A87 n88 c89, .slice A92 n93 c94] 0 ld_25 rfl rfl rfl rfl) (gy 66 rfl rfl) rfl <| wl_v 27 rfl (v_ldB [.slice A7 n8 c9, .slice A12 n13 c14] 10 ld_25 rfl rfl rfl rfl) (gy 66 rfl rfl) rfl ?_
      obtain ⟨r200, hv201, h⟩ := h
      refine wl_s 28 rfl (s_call [.agg #[.slice A87 n88 c89, .slice A92 n93 c94], .agg #[.slice A7 n8 c9, .slice A12 n13 c14]] rfl Try.func7 rfl rfl rfl fun w197 hL198 => ?_) (gy 66 rfl rfl)
      have hp199 := pmI hL198 .n (.c 0 rfl (.c 1 rfl (.c 2 rfl (.c 3 rfl (.c 4 rfl (.c 5 rfl (.c 6 rfl (.c 7 rfl (.c 8 rfl (.c 9 rfl (.c 10 rfl (.c 11 rfl (.c 12 rfl .n))))))))))))) (by kernel_rfl)
      refine Calls.mono (trellislaw20_same_calls w197 (Fl ([] : List Snap)) r85.1 r5.1 A87 n88 c89 A92 n93 c94 A7 n8 c9 A12 n13 c14 (hL198.argO (dk := k_api_PatNode) hp199 [] rfl 1 rfl rfl (Ow.weak hL83.env.size h90) (me 0 rfl) (Cells.flat _)) (hL198.argO (dk := k_api_Cond) hp199 [] rfl 2 rfl rfl (Ow.weak hL83.env.size h95) (me 0 rfl) (Cells.flat _)) (hL198.argO (dk := k_api_PatNode) hp199 [] rfl 11 rfl rfl (Ow.weak hL3.env.size h10) (me 0 rfl) (Cells.flat _)) (hL198.argO (dk := k_api_Cond) hp199 [] rfl 12 rfl rfl (Ow.weak hL3.env.size h15) (me 0 rfl) (Cells.flat _)) (hL198.hFl hp199 (sels [] rfl)) (hL198.into hp199 _) r200 hv201) ?_
      rintro _ w202 ⟨rfl, hM203⟩
      have hL204 := hL198.call hp199 hM203
      refine ⟨_, _, _, rfl, hL204, ?_⟩
      refine wl_v 29 rfl (v_not rfl) (gy 66 rfl rfl) rfl <| wl_v 30 rfl (v_pick (b := false) rfl rfl) gn rfl <| wl_v 31 rfl (v_move rfl) gn rfl ?_
      by_cases hp205 : r200 = true
      ·have h := if_pos' hp205 h
       refine w_bool 72 rfl ((nf hp205)) <| wl_v 32 rfl (v_ldB [.slice A27 n28 c29, .slice A32 n33 c34] 7 ld_25 rfl rfl rfl rfl) (gy 72 rfl rfl) rfl <| wl_v 33 rfl (v_ldB [.slice A47 n48 c49, .slice A52 n53 c54] 4 ld_25 rfl rfl rfl rfl) (gy 72 rfl rfl) rfl ?_
       obtain ⟨r209, hv210, h⟩ := h
       refine wl_s 34 rfl (s_call [.agg #[.slice A27 n28 c29, .slice A32 n33 c34], .agg #[.slice A47 n48 c49, .slice A52 n53 c54]] rfl Try.func7 rfl rfl rfl fun w206 hL207 => ?_) (gy 72 rfl rfl)
       have hp208 := pmI hL207 .n (.c 0 rfl (.c 1 rfl (.c 2 rfl (.c 3 rfl (.c 4 rfl (.c 5 rfl (.c 6 rfl (.c 7 rfl (.c 8 rfl (.c 9 rfl (.c 10 rfl (.c 11 rfl (.c 12 rfl .n))))))))))))) (by kernel_rfl)
       refine Calls.mono (trellislaw20_same_calls w206 (Fl ([] : List Snap)) r25.1 r45 A27 n28 c29 A32 n33 c34 A47 n48 c49 A52 n53 c54 (hL207.argO (dk := k_api_PatNode) hp208 [] rfl 8 rfl rfl (Ow.weak hL23.env.size h30) (me 0 rfl) (Cells.flat _)) (hL207.argO (dk := k_api_Cond) hp208 [] rfl 9 rfl rfl (Ow.weak hL23.env.size h35) (me 0 rfl) (Cells.flat _)) (hL207.argO (dk := k_api_PatNode) hp208 [] rfl 5 rfl rfl (Ow.weak hL43.env.size h50) (me 0 rfl) (Cells.flat _)) (hL207.argO (dk := k_api_Cond) hp208 [] rfl 6 rfl rfl (Ow.weak hL43.env.size h55) (me 0 rfl) (Cells.flat _)) (hL207.hFl hp208 (sels [] rfl)) (hL207.into hp208 _) r209 hv210) ?_
       rintro _ w211 ⟨rfl, hM212⟩
       have hL213 := hL207.call hp208 hM212
       refine ⟨_, _, _, rfl, hL213, ?_⟩
       refine wl_v 35 rfl (v_not rfl) (gy 72 rfl rfl) rfl <| wl_v 36 rfl (v_pick (b := false) rfl rfl) gn rfl <| w_end 37 rfl ?_
       exact g_go [0, 1] (j1 (!r209) h) ⟨rfl, rfl, rfl, rfl, trivial⟩ (.cons_cons _ (.cons_cons _ (.cons_cons _ (.cons _ (.cons_cons _ (.cons_cons _ (.cons_cons _ (.cons_cons _ (.cons_cons _ (.cons_cons _ (.cons _ (.cons _ (.cons _ (.slnil)))))))))))))) rfl
      ·have h := if_neg' hp205 h
       refine w_bool 72 rfl ((nt (bf hp205))) <| wl_pass 32 rfl (ps 72 rfl rfl rfl) <| wl_pass 33 rfl (ps 72 rfl rfl rfl) <| wl_pass 34 rfl (ps 72 rfl rfl rfl) <| wl_pass 35 rfl (ps 72 rfl rfl rfl) <| wl_v 36 rfl (v_pick (b := true) rfl rfl) gn rfl <| w_end 37 rfl ?_
       exact g_go [0, 1] (j1 true h) ⟨rfl, rfl, rfl, rfl, trivial⟩ (.cons_cons _ (.cons_cons _ (.cons_cons _ (.cons _ (.cons_cons _ (.cons_cons _ (.cons_cons _ (.cons_cons _ (.cons_cons _ (.cons_cons _ (.cons _ (.cons _ (.cons _ (.slnil)))))))))))))) rfl
     ·have h := if_neg' hp196 h
      refine w_bool 66 rfl ((nt (bf hp196))) <| wl_pass 26 rfl (ps 66 rfl rfl rfl) <| wl_pass 27 rfl (ps 66 rfl rfl rfl) <| wl_pass 28 rfl (ps 66 rfl rfl rfl) <| wl_pass 29 rfl (ps 66 rfl rfl rfl) <| wl_v 30 rfl (v_pick (b := true) rfl rfl) gn rfl <| wl_v 31 rfl (v_move rfl) gn rfl <| wl_pass 32 rfl (ps 72 rfl rfl rfl) <| wl_pass 33 rfl (ps 72 rfl rfl rfl) <| wl_pass 34 rfl (ps 72 rfl rfl rfl) <| wl_pass 35 rfl (ps 72 rfl rfl rfl) <| wl_v 36 rfl (v_pick (b := true) rfl rfl) gn rfl ?_
      refine w_end 37 rfl ?_
      exact g_go [0, 1] (j1 true h) ⟨rfl, rfl, rfl, rfl, trivial⟩ (.cons_cons _ (.cons_cons _ (.cons_cons _ (.cons _ (.cons_cons _ (.cons_cons _ (.cons_cons _ (.cons_cons _ (.cons_cons _ (.cons_cons _ (.cons _ (.cons _ (.cons _ (.slnil)))))))))))))) rfl
    ·have h := if_neg' hp187 h
     refine w_bool 61 rfl ((nt (bf hp187))) <| wl_pass 21 rfl (ps 61 rfl rfl rfl) <| wl_pass 22 rfl (ps 61 rfl rfl rfl) <| wl_pass 23 rfl (ps 61 rfl rfl rfl) <| wl_v 24 rfl (v_pick (b := true) rfl rfl) gn rfl <| wl_v 25 rfl (v_move rfl) gn rfl <| wl_pass 26 rfl (ps 66 rfl rfl rfl) <| wl_pass 27 rfl (ps 66 rfl rfl rfl) <| wl_pass 28 rfl (ps 66 rfl rfl rfl) <| wl_pass 29 rfl (ps 66 rfl rfl rfl) <| wl_v 30 rfl (v_pick (b := true) rfl rfl) gn rfl <| wl_v 31 rfl (v_move rfl) gn rfl ?_
     refine wl_pass 32 rfl (ps 72 rfl rfl rfl) <| wl_pass 33 rfl (ps 72 rfl rfl rfl) <| wl_pass 34 rfl (ps 72 rfl rfl rfl) <| wl_pass 35 rfl (ps 72 rfl rfl rfl) <| wl_v 36 rfl (v_pick (b := true) rfl rfl) gn rfl <| w_end 37 rfl ?_
     exact g_go [0, 1] (j1 true h) ⟨rfl, rfl, rfl, rfl, trivial⟩ (.cons_cons _ (.cons_cons _ (.cons_cons _ (.cons _ (.cons _ (.cons _ (.cons_cons _ (.cons_cons _ (.cons_cons _ (.cons_cons _ (.cons_cons _ (.cons_cons _ (.cons _ (.cons _ (.cons _ (.slnil)))))))))))))))) rfl
   ·have h := if_neg' hp178 h
    refine w_bool 55 rfl ((neib hp178)) <| wl_pass 15 rfl (ps 55 rfl rfl rfl) <| wl_pass 16 rfl (ps 55 rfl rfl rfl) <| wl_pass 17 rfl (ps 55 rfl rfl rfl) <| wl_pass 18 rfl (ps 55 rfl rfl rfl) <| wl_v 19 rfl (v_pick (b := true) rfl rfl) gn rfl <| wl_v 20 rfl (v_move rfl) gn rfl <| wl_pass 21 rfl (ps 61 rfl rfl rfl) <| wl_pass 22 rfl (ps 61 rfl rfl rfl) <| wl_pass 23 rfl (ps 61 rfl rfl rfl) <| wl_v 24 rfl (v_pick (b := true) rfl rfl) gn rfl <| wl_v 25 rfl (v_move rfl) gn rfl ?_
    refine wl_pass 26 rfl (ps 66 rfl rfl rfl) <| wl_pass 27 rfl (ps 66 rfl rfl rfl) <| wl_pass 28 rfl (ps 66 rfl rfl rfl) <| wl_pass 29 rfl (ps 66 rfl rfl rfl) <| wl_v 30 rfl (v_pick (b := true) rfl rfl) gn rfl <| wl_v 31 rfl (v_move rfl) gn rfl <| wl_pass 32 rfl (ps 72 rfl rfl rfl) <| wl_pass 33 rfl (ps 72 rfl rfl rfl) <| wl_pass 34 rfl (ps 72 rfl rfl rfl) <| wl_pass 35 rfl (ps 72 rfl rfl rfl) <| wl_v 36 rfl (v_pick (b := true) rfl rfl) gn rfl <| w_end 37 rfl ?_
    exact g_go [0, 1] (j1 true h) ⟨rfl, rfl, rfl, rfl, trivial⟩ (.cons_cons _ (.cons_cons _ (.cons_cons _ (.cons _ (.cons _ (.cons _ (.cons_cons _ (.cons_cons _ (.cons_cons _ (.cons_cons _ (.cons_cons _ (.cons_cons _ (.cons _ (.cons _ (.cons _ (.slnil)))))))))))))))) rfl
  ·have h := if_neg' hp177 h
   refine w_bool 50 rfl ((neib hp177)) <| wl_pass 10 rfl (ps 50 rfl rfl rfl) <| wl_pass 11 rfl (ps 50 rfl rfl rfl) <| wl_pass 12 rfl (ps 50 rfl rfl rfl) <| wl_v 13 rfl (v_pick (b := true) rfl rfl) gn rfl <| wl_v 14 rfl (v_move rfl) gn rfl <| wl_pass 15 rfl (ps 55 rfl rfl rfl) <| wl_pass 16 rfl (ps 55 rfl rfl rfl) <| wl_pass 17 rfl (ps 55 rfl rfl rfl) <| wl_pass 18 rfl (ps 55 rfl rfl rfl) <| wl_v 19 rfl (v_pick (b := true) rfl rfl) gn rfl <| wl_v 20 rfl (v_move rfl) gn rfl ?_
   refine wl_pass 21 rfl (ps 61 rfl rfl rfl) <| wl_pass 22 rfl (ps 61 rfl rfl rfl) <| wl_pass 23 rfl (ps 61 rfl rfl rfl) <| wl_v 24 rfl (v_pick (b := true) rfl rfl) gn rfl <| wl_v 25 rfl (v_move rfl) gn rfl <| wl_pass 26 rfl (ps 66 rfl rfl rfl) <| wl_pass 27 rfl (ps 66 rfl rfl rfl) <| wl_pass 28 rfl (ps 66 rfl rfl rfl) <| wl_pass 29 rfl (ps 66 rfl rfl rfl) <| wl_v 30 rfl (v_pick (b := true) rfl rfl) gn rfl <| wl_v 31 rfl (v_move rfl) gn rfl <| wl_pass 32 rfl (ps 72 rfl rfl rfl) ?_
   refine wl_pass 33 rfl (ps 72 rfl rfl rfl) <| wl_pass 34 rfl (ps 72 rfl rfl rfl) <| wl_pass 35 rfl (ps 72 rfl rfl rfl) <| wl_v 36 rfl (v_pick (b := true) rfl rfl) gn rfl <| w_end 37 rfl ?_
   exact g_go [0, 1] (j1 true h) ⟨rfl, rfl, rfl, rfl, trivial⟩ (.cons_cons _ (.cons_cons _ (.cons_cons _ (.cons _ (.cons _ (.cons _ (.cons_cons _ (.cons_cons _ (.cons_cons _ (.cons_cons _ (.cons_cons _ (.cons_cons _ (.cons _ (.cons _ (.cons _ (.slnil)))))))))))))))) rfl
 ·have h := if_neg' hp176 h
  refine w_bool 45 rfl ((nt (bf hp176))) <| wl_pass 5 rfl (ps 45 rfl rfl rfl) <| wl_pass 6 rfl (ps 45 rfl rfl rfl) <| wl_pass 7 rfl (ps 45 rfl rfl rfl) <| wl_v 8 rfl (v_pick (b := true) rfl rfl) gn rfl <| wl_v 9 rfl (v_move rfl) gn rfl <| wl_pass 10 rfl (ps 50 rfl rfl rfl) <| wl_pass 11 rfl (ps 50 rfl rfl rfl) <| wl_pass 12 rfl (ps 50 rfl rfl rfl) <| wl_v 13 rfl (v_pick (b := true) rfl rfl) gn rfl <| wl_v 14 rfl (v_move rfl) gn rfl <| wl_pass 15 rfl (ps 55 rfl rfl rfl) ?_
  refine wl_pass 16 rfl (ps 55 rfl rfl rfl) <| wl_pass 17 rfl (ps 55 rfl rfl rfl) <| wl_pass 18 rfl (ps 55 rfl rfl rfl) <| wl_v 19 rfl (v_pick (b := true) rfl rfl) gn rfl <| wl_v 20 rfl (v_move rfl) gn rfl <| wl_pass 21 rfl (ps 61 rfl rfl rfl) <| wl_pass 22 rfl (ps 61 rfl rfl rfl) <| wl_pass 23 rfl (ps 61 rfl rfl rfl) <| wl_v 24 rfl (v_pick (b := true) rfl rfl) gn rfl <| wl_v 25 rfl (v_move rfl) gn rfl <| wl_pass 26 rfl (ps 66 rfl rfl rfl) <| wl_pass 27 rfl (ps 66 rfl rfl rfl) ?_
  refine wl_pass 28 rfl (ps 66 rfl rfl rfl) <| wl_pass 29 rfl (ps 66 rfl rfl rfl) <| wl_v 30 rfl (v_pick (b := true) rfl rfl) gn rfl <| wl_v 31 rfl (v_move rfl) gn rfl <| wl_pass 32 rfl (ps 72 rfl rfl rfl) <| wl_pass 33 rfl (ps 72 rfl rfl rfl) <| wl_pass 34 rfl (ps 72 rfl rfl rfl) <| wl_pass 35 rfl (ps 72 rfl rfl rfl) <| wl_v 36 rfl (v_pick (b := true) rfl rfl) gn rfl <| w_end 37 rfl ?_
  exact g_go [0, 1] (j1 true h) ⟨rfl, rfl, rfl, rfl, trivial⟩ (.cons_cons _ (.cons_cons _ (.cons_cons _ (.cons _ (.cons _ (.cons _ (.cons_cons _ (.cons_cons _ (.cons_cons _ (.cons_cons _ (.cons_cons _ (.cons_cons _ (.cons _ (.cons _ (.cons _ (.slnil)))))))))))))))) rfl
end Go.Proofs.Ytjookebbmfiidaa.K
