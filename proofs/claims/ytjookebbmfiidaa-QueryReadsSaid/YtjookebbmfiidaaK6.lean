/- What the machine's calls do, function by function, printed by my own tool. Condition of each: its relation holds of the answer, and what is handed in lies in memory as told. -/
import Derived.Test.YtjookebbmfiidaaK5
set_option linter.unusedVariables false
set_option maxRecDepth 100000
set_option maxHeartbeats 4000000
namespace Go.Proofs.Ytjookebbmfiidaa.K
open Go.Proofs.Ytjookebbmfiidaa.B Go.Proofs.Ytjookebbmfiidaa.R Go.RowKit
noncomputable abbrev q14c4 := Code.snd (Code.snd (bodyOf Try.f14))
noncomputable abbrev q14c29 := Code.snd (Code.snd (Code.snd (Code.snd q14c4)))
noncomputable abbrev q14c35 := Code.snd q14c29
noncomputable abbrev q14c36 := Code.fst (Code.fst q14c29)
noncomputable abbrev q14c37 := Code.snd (Code.fst q14c29)
noncomputable abbrev q14c40 := Code.fst (Code.fst q14c37)
abbrev query_parser_cond_R (w : World) (F : Nat → Prop) (g2 : Nat) (Tb3 : Nat) (A8 : Option Addr) (n9 : Nat) (c10 : Nat) (z12 : Nat) (A14 : Option Addr) (n15 : Nat) (c16 : Nat) (z18 : Nat) (r : query_parser) : Ending → World → Prop := fun e w' => ∃ A1 : Option Addr, ∃ n1 : Nat, ∃ c1 : Nat, ∃ A2 : Option Addr, ∃ n2 : Nat, ∃ c2 : Nat, ∃ A0 : Option Addr, ∃ n0 : Nat, ∃ c0 : Nat, e = .returned (.tuple #[]) ∧ B.Loc w w' [.box g2 Tb3 [.slice A0 n0 c0, .int .i64 r.at_, .int .i64 r.end_, .slice A1 n1 c1, .slice A2 n2 c2, .int .i64 r.code, .int .i64 r.place], .own (.slice A1 n1 c1) 46 5 n1 (r.q.nodes.flatMap enc_api_PatNode), .own (.slice A2 n2 c2) 48 4 n2 (r.q.conds.flatMap enc_api_Cond)] [St w [[g2], (Value.slice A8 n9 c10).ownBlock.toList, (Value.slice A14 n15 c16).ownBlock.toList]] ∧ Ow z12 A1 n1 c1 r.q.nodes ∧ Ow z18 A2 n2 c2 r.q.conds ∧ Rw k_api_Word w' (Nw w w' F [.box g2 Tb3 [.slice A0 n0 c0, .int .i64 r.at_, .int .i64 r.end_, .slice A1 n1 c1, .slice A2 n2 c2, .int .i64 r.code, .int .i64 r.place], .own (.slice A1 n1 c1) 46 5 n1 (r.q.nodes.flatMap enc_api_PatNode), .own (.slice A2 n2 c2) 48 4 n2 (r.q.conds.flatMap enc_api_Cond)]) A0 n0 c0 r.words
noncomputable abbrev query_parser_cond_C (w : World) (F : Nat → Prop) (g2 : Nat) (Tb3 : Nat) (A8 : Option Addr) (n9 : Nat) (c10 : Nat) (z12 : Nat) (A14 : Option Addr) (n15 : Nat) (c16 : Nat) (z18 : Nat) (r : query_parser) : Cx := ⟨Try.prog, 14, Try.f14, 125, query_parser_cond_R w F g2 Tb3 A8 n9 c10 z12 A14 n15 c16 z18 r, w⟩
theorem query_parser_cond_calls (w : World) (F : Nat → Prop) (x1 : query_parser) (g2 : Nat) (Tb3 : Nat) (A4 : Option Addr) (n5 : Nat) (c6 : Nat) (z12 : Nat) (A8 : Option Addr) (n9 : Nat) (c10 : Nat) (z18 : Nat) (A14 : Option Addr) (n15 : Nat) (c16 : Nat) (h7 : Rw k_api_Word w F A4 n5 c6 x1.words) (hz13 : z12 ≤ w.heap.size) (h11 : Ow z12 A8 n9 c10 x1.q.nodes) (hz19 : z18 ≤ w.heap.size) (h17 : Ow z18 A14 n15 c16 x1.q.conds) (hF : ∀ b, F b → b < w.heap.size ∧ ∀ o ∈ ([[g2], (Value.slice A8 n9 c10).ownBlock.toList, (Value.slice A14 n15 c16).ownBlock.toList] : List (List Nat)), b ∉ o) (hL0 : B.Loc w w [.box g2 Tb3 [.slice A4 n5 c6, .int .i64 x1.at_, .int .i64 x1.end_, .slice A8 n9 c10, .slice A14 n15 c16, .int .i64 x1.code, .int .i64 x1.place], .own (.slice A8 n9 c10) 46 5 n9 (x1.q.nodes.flatMap enc_api_PatNode), .own (.slice A14 n15 c16) 48 4 n15 (x1.q.conds.flatMap enc_api_Cond)] [Sm w.heap.size F w [[g2], (Value.slice A8 n9 c10).ownBlock.toList, (Value.slice A14 n15 c16).ownBlock.toList], St w [[g2], (Value.slice A8 n9 c10).ownBlock.toList, (Value.slice A14 n15 c16).ownBlock.toList]]) (r : query_parser) (h : query_parser_cond x1 r) : Calls Try.prog 14 #[.pointer (some ⟨g2, 0, none⟩)] w (query_parser_cond_R w F g2 Tb3 A8 n9 c10 z12 A14 n15 c16 z18 r) := by
 unfold query_parser_cond at h
 have h7 := Rw.into (bs := [[g2], (Value.slice A8 n9 c10).ownBlock.toList, (Value.slice A14 n15 c16).ownBlock.toList]) hF h7
 refine calls_of_Loc (vs := [.pointer (some ⟨g2, 0, none⟩)]) 125 Try.func14 rfl Try.ntmps14 rfl hL0 ?_
 show G (query_parser_cond_C w F g2 Tb3 A8 n9 c10 z12 A14 n15 c16 z18 r) _ _ _ _
 refine g_seq rfl <| g_region rfl rfl ?_
 refine wl_s 0 rfl (s_alloc [.bool false, .string (⟨#[]⟩ : ByteArray), .string (⟨#[]⟩ : ByteArray), .string (⟨#[]⟩ : ByteArray)] zr_48 rfl fun gb20 => ?_) gn
 refine w_end 1 rfl <| g_seq rfl <| g_block rfl <| g_seq rfl <| g_region rfl rfl <| wl_v 0 rfl (v_move rfl) gn rfl <| wl_v 1 rfl (v_move rfl) gn rfl <| wl_v 2 rfl (v_nilCheck rfl) gn rfl <| wl_v 3 rfl (v_fldB fo_44_1 rfl) gn rfl <| wl_v 4 rfl (v_ldB1 1 ld_3 rfl rfl rfl) gn rfl ?_
 obtain ⟨r25, hv26, h⟩ := h
 refine wl_s 5 rfl (s_call [.pointer (some ⟨g2, 0, none⟩), .int .i64 x1.at_, .int .i64 1, .string (⟨#[117, 110, 108, 101, 115, 115]⟩ : ByteArray)] rfl Try.func35 rfl rfl rfl fun w22 hL23 => ?_) gn
 have hp24 := pmI hL23 (.c 1 rfl (.c 2 rfl (.c 3 rfl .n))) (.c 0 rfl .n) (by kernel_rfl)
 refine Calls.mono (query_parser_is_calls w22 (Fl ([Sm w.heap.size F w [[g2], (Value.slice A8 n9 c10).ownBlock.toList, (Value.slice A14 n15 c16).ownBlock.toList]] : List Snap)) x1 x1.at_ 1 (⟨#[117, 110, 108, 101, 115, 115]⟩ : ByteArray) g2 Tb3 A4 n5 c6 z12 A8 n9 c10 z18 A14 n15 c16 (Rw.mono h7 (hL23.toFl (me 0 rfl) (me 0 rfl))) (Nat.le_trans hz13 hL23.env.size) h11 (Nat.le_trans hz19 hL23.env.size) h17 (hL23.hFl hp24 (sels [0] rfl)) (hL23.into hp24 _) r25 hv26) ?_
 rintro _ w41 ⟨A31, n32, c33, A36, n37, c38, A27, n28, c29, rfl, hM42, h34, h39, h30⟩
 obtain ⟨sb45, hL43, hv44⟩ := hL23.callB (Sl := ([Sm w.heap.size F w [[g2], (Value.slice A8 n9 c10).ownBlock.toList, (Value.slice A14 n15 c16).ownBlock.toList]] : List Snap)) hp24 hM42 F (sels [0] rfl) ⟨Sm.ok, trivial⟩
 have h30 : At k_api_Word (Sm w.heap.size F w41 sb45) A27 n28 c29 r25.2.words := Rw.mono h30 hv44
 refine ⟨_, _, _, rfl, hL43, ?_⟩
 refine wl_v 6 rfl (v_assign rfl) gn rfl <| w_end 7 rfl ?_
 have j1 : ∀ (x97 : List api_Word) (x104 : Int) (x105 : Int) (x106 : List api_PatNode) (x111 : List api_Cond) (x116 : Int) (x117 : Int) (x118 : Bool) (h : query_parser_cond_j1 x97 x104 x105 x106 x111 x116 x117 x118 r) (A98 : Option Addr) (n99 : Nat) (c100 : Nat) (sw101 : World) (sb102 : List (List Nat)) (h103 : At k_api_Word (Sm w.heap.size F sw101 sb102) A98 n99 c100 x97) (A107 : Option Addr) (n108 : Nat) (c109 : Nat) (h110 : Ow z12 A107 n108 c109 x106) (A112 : Option Addr) (n113 : Nat) (c114 : Nat) (h115 : Ow z18 A112 n113 c114 x111), G (query_parser_cond_C w F g2 Tb3 A8 n9 c10 z12 A14 n15 c16 z18 r) [.inBlock 0, .code q14c4] [(0, .pointer (some ⟨g2, 0, none⟩)), (2, .pointer (some ⟨gb20, 0, none⟩))] [.own (.slice A107 n108 c109) 46 5 n108 (x106.flatMap enc_api_PatNode), .own (.slice A112 n113 c114) 48 4 n113 (x111.flatMap enc_api_Cond), .box g2 Tb3 [.slice A98 n99 c100, .int .i64 x104, .int .i64 x105, .slice A107 n108 c109, .slice A112 n113 c114, .int .i64 x116, .int .i64 x117], .box gb20 48 [.bool x118, .string (⟨#[]⟩ : ByteArray), .string (⟨#[]⟩ : ByteArray), .string (⟨#[]⟩ : ByteArray)]] [Sm w.heap.size F sw101 sb102, Sm w.heap.size F w41 sb45, Sm w.heap.size F w [[g2], (Value.slice A8 n9 c10).ownBlock.toList, (Value.slice A14 n15 c16).ownBlock.toList], St w [[g2], (Value.slice A8 n9 c10).ownBlock.toList, (Value.slice A14 n15 c16).ownBlock.toList]] := by
  intro x97 x104 x105 x106 x111 x116 x117 x118 h A98 n99 c100 sw101 sb102 h103 A107 n108 c109 h110 A112 n113 c114 h115
  unfold query_parser_cond_j1 at h
  refine g_inBlock <| g_seq rfl <| g_seq rfl <| g_region rfl rfl <| wl_v 0 rfl (v_move rfl) gn rfl <| wl_v 1 rfl (v_nilCheck rfl) gn rfl <| wl_v 2 rfl (v_fldB fo_44_3 rfl) gn rfl <| wl_v 3 rfl (v_fldB fo_25_1 rfl) gn rfl <| wl_v 4 rfl (v_ldB1 2 ld_23 rfl rfl rfl) gn rfl <| wl_v 5 rfl (v_lenQ un_23 rfl h115.hq) gn rfl <| wl_v 6 rfl (v_bin rfl rfl rfl) gn rfl <| w_end 7 rfl ?_
  by_cases hp119 : (x111.length : Int) = 16
  ·have h := if_pos' hp119 h
   refine g_true rfl _ rfl ((eqi hp119)) <| g_seq rfl <| g_region rfl rfl <| wl_v 0 rfl (v_move rfl) gn rfl <| wl_v 1 rfl (v_move rfl) gn rfl <| wl_v 2 rfl (v_nilCheck rfl) gn rfl <| wl_v 3 rfl (v_fldB fo_44_1 rfl) gn rfl <| wl_v 4 rfl (v_ldB1 2 ld_3 rfl rfl rfl) gn rfl ?_
   obtain ⟨r123, hv124, h⟩ := h
   refine wl_s 5 rfl (s_call [.pointer (some ⟨g2, 0, none⟩), .int .i64 202, .int .i64 x104] rfl Try.func32 rfl rfl rfl fun w120 hL121 => ?_) gn
   have hp122 := pmI hL121 (.c 2 rfl (.c 0 rfl (.c 1 rfl .n))) (.c 3 rfl .n) (by kernel_rfl)
   refine Calls.mono (query_parser_fail_calls w120 (Fl ([Sm w.heap.size F sw101 sb102] : List Snap)) (⟨x97, x104, x105, (⟨x106, x111⟩ : api_Query), x116, x117⟩ : query_parser) 202 x104 g2 Tb3 A98 n99 c100 z12 A107 n108 c109 z18 A112 n113 c114 (Rw.mono h103 (hL121.toFl (me 0 rfl) (me 0 rfl))) (Nat.le_trans hz13 hL121.env.size) h110 (Nat.le_trans hz19 hL121.env.size) h115 (hL121.hFl hp122 (sels [0] rfl)) (hL121.into hp122 _) r123 hv124) ?_
   rintro _ w139 ⟨A129, n130, c131, A134, n135, c136, A125, n126, c127, rfl, hM140, h132, h137, h128⟩
   obtain ⟨sb143, hL141, hv142⟩ := hL121.callB (Sl := ([Sm w.heap.size F sw101 sb102] : List Snap)) hp122 hM140 F (sels [0] rfl) ⟨Sm.ok, trivial⟩
   have h128 : At k_api_Word (Sm w.heap.size F w139 sb143) A125 n126 c127 r123.words := Rw.mono h128 hv142
   refine ⟨_, _, _, rfl, hL141, ?_⟩
   refine w_end 6 rfl ?_
   refine g_retR [] rfl Try.func14 rfl (.nil) fun wr hLr => ?_
   have hMr := hLr.pkI (.c 0 rfl (.c 1 rfl (.c 2 rfl .n))) (.c 3 rfl .n) (by kernel_rfl) (.c 4 rfl .n)
   have hMi := hLr.selI (.c 0 rfl (.c 1 rfl (.c 2 rfl .n)))
   show query_parser_cond_R w F g2 Tb3 A8 n9 c10 z12 A14 n15 c16 z18 r (.returned (packV [])) wr
   rw [h]
   exact ⟨A129, n130, c131, A134, n135, c136, A125, n126, c127, rfl, hMr, h132, h137, (hLr.outR (s := Sm w.heap.size F w139 sb143) hMi (me 0 rfl) Sm.ok h128)⟩
  ·have h := if_neg' hp119 h
   refine g_false rfl _ rfl ((nei hp119)) <| g_skip rfl <| g_seq rfl <| g_region rfl rfl <| wl_v 0 rfl (v_move rfl) gn rfl <| wl_v 1 rfl (v_nilCheck rfl) gn rfl <| wl_v 2 rfl (v_fldB fo_44_1 rfl) gn rfl <| wl_v 3 rfl (v_ldB1 2 ld_3 rfl rfl rfl) gn rfl <| wl_v 4 rfl (v_bin rfl rfl rfl) gn rfl <| wl_v 5 rfl (v_nilCheck rfl) gn rfl <| wl_v 6 rfl (v_fldB fo_44_1 rfl) gn rfl ?_
   refine wl_s 7 rfl (s_stB (vs := [.int .i64 (w64 (x104 + 1))]) (cs' := [.slice A98 n99 c100, .int .i64 (w64 (x104 + 1)), .int .i64 x105, .slice A107 n108 c109, .slice A112 n113 c114, .int .i64 x116, .int .i64 x117]) (M' := [.own (.slice A107 n108 c109) 46 5 n108 (x106.flatMap enc_api_PatNode), .own (.slice A112 n113 c114) 48 4 n113 (x111.flatMap enc_api_Cond), .box g2 Tb3 [.slice A98 n99 c100, .int .i64 (w64 (x104 + 1)), .int .i64 x105, .slice A107 n108 c109, .slice A112 n113 c114, .int .i64 x116, .int .i64 x117], .box gb20 48 [.bool x118, .string (⟨#[]⟩ : ByteArray), .string (⟨#[]⟩ : ByteArray), .string (⟨#[]⟩ : ByteArray)]]) 2 sz_3 rfl rfl rfl rfl rfl rfl rfl rfl rfl ?_) gn
   refine w_end 8 rfl <| g_seq rfl <| g_region rfl rfl <| wl_v 0 rfl (v_move rfl) gn rfl ?_
   obtain ⟨r147, hv148, h⟩ := h
   refine wl_s 1 rfl (s_call [.pointer (some ⟨g2, 0, none⟩)] rfl Try.func37 rfl rfl rfl fun w144 hL145 => ?_) gn
   have hp146 := pmI hL145 (.c 2 rfl (.c 0 rfl (.c 1 rfl .n))) (.c 3 rfl .n) (by kernel_rfl)
   refine Calls.mono (query_parser_capture_calls w144 (Fl ([Sm w.heap.size F sw101 sb102] : List Snap)) (⟨x97, w64 (x104 + 1), x105, (⟨x106, x111⟩ : api_Query), x116, x117⟩ : query_parser) g2 Tb3 A98 n99 c100 z12 A107 n108 c109 z18 A112 n113 c114 (Rw.mono h103 (hL145.toFl (me 0 rfl) (me 0 rfl))) (Nat.le_trans hz13 hL145.env.size) h110 (Nat.le_trans hz19 hL145.env.size) h115 (hL145.hFl hp146 (sels [0] rfl)) (hL145.into hp146 _) r147 hv148) ?_
   rintro _ w163 ⟨A153, n154, c155, A158, n159, c160, A149, n150, c151, rfl, hM164, h156, h161, h152⟩
   obtain ⟨sb167, hL165, hv166⟩ := hL145.callB (Sl := ([Sm w.heap.size F sw101 sb102] : List Snap)) hp146 hM164 F (sels [0] rfl) ⟨Sm.ok, trivial⟩
   have h152 : At k_api_Word (Sm w.heap.size F w163 sb167) A149 n150 c151 r147.2.words := Rw.mono h152 hv166
   refine ⟨_, _, _, rfl, hL165, ?_⟩
   refine wl_v 2 rfl (v_fldB fo_48_1 rfl) gn rfl ?_
   refine wl_s 3 rfl (s_stB (vs := [.string r147.1]) (cs' := [.bool x118, .string r147.1, .string (⟨#[]⟩ : ByteArray), .string (⟨#[]⟩ : ByteArray)]) (M' := [.box g2 Tb3 [.slice A149 n150 c151, .int .i64 r147.2.at_, .int .i64 r147.2.end_, .slice A153 n154 c155, .slice A158 n159 c160, .int .i64 r147.2.code, .int .i64 r147.2.place], .own (.slice A153 n154 c155) 46 5 n154 (r147.2.q.nodes.flatMap enc_api_PatNode), .own (.slice A158 n159 c160) 48 4 n159 (r147.2.q.conds.flatMap enc_api_Cond), .box gb20 48 [.bool x118, .string r147.1, .string (⟨#[]⟩ : ByteArray), .string (⟨#[]⟩ : ByteArray)]]) 3 sz_9 rfl rfl rfl rfl rfl rfl rfl rfl rfl ?_) gn
   refine w_end 4 rfl <| g_seq rfl <| g_seq rfl <| g_region rfl rfl <| wl_v 0 rfl (v_move rfl) gn rfl <| wl_v 1 rfl (v_nilCheck rfl) gn rfl <| wl_v 2 rfl (v_fldB fo_44_4 rfl) gn rfl <| wl_v 3 rfl (v_ldB1 0 ld_26 rfl rfl rfl) gn rfl <| wl_v 4 rfl (v_bin rfl rfl rfl) gn rfl <| w_end 5 rfl ?_
   have j2 : ∀ (x194 : List api_Word) (x201 : Int) (x202 : Int) (x203 : List api_PatNode) (x208 : List api_Cond) (x213 : Int) (x214 : Int) (h : query_parser_cond_j2 x118 r147 x194 x201 x202 x203 x208 x213 x214 r) (A195 : Option Addr) (n196 : Nat) (c197 : Nat) (sw198 : World) (sb199 : List (List Nat)) (h200 : At k_api_Word (Sm w.heap.size F sw198 sb199) A195 n196 c197 x194) (A204 : Option Addr) (n205 : Nat) (c206 : Nat) (h207 : Ow z12 A204 n205 c206 x203) (A209 : Option Addr) (n210 : Nat) (c211 : Nat) (h212 : Ow z18 A209 n210 c211 x208), G (query_parser_cond_C w F g2 Tb3 A8 n9 c10 z12 A14 n15 c16 z18 r) [.code q14c29] [(0, .pointer (some ⟨g2, 0, none⟩)), (2, .pointer (some ⟨gb20, 0, none⟩))] [.own (.slice A204 n205 c206) 46 5 n205 (x203.flatMap enc_api_PatNode), .own (.slice A209 n210 c211) 48 4 n210 (x208.flatMap enc_api_Cond), .box g2 Tb3 [.slice A195 n196 c197, .int .i64 x201, .int .i64 x202, .slice A204 n205 c206, .slice A209 n210 c211, .int .i64 x213, .int .i64 x214], .box gb20 48 [.bool x118, .string r147.1, .string (⟨#[]⟩ : ByteArray), .string (⟨#[]⟩ : ByteArray)]] [Sm w.heap.size F sw198 sb199, Sm w.heap.size F w163 sb167, Sm w.heap.size F sw101 sb102, Sm w.heap.size F w41 sb45, Sm w.heap.size F w [[g2], (Value.slice A8 n9 c10).ownBlock.toList, (Value.slice A14 n15 c16).ownBlock.toList], St w [[g2], (Value.slice A8 n9 c10).ownBlock.toList, (Value.slice A14 n15 c16).ownBlock.toList]] := by
    intro x194 x201 x202 x203 x208 x213 x214 h A195 n196 c197 sw198 sb199 h200 A204 n205 c206 h207 A209 n210 c211 h212
    unfold query_parser_cond_j2 at h
    refine g_seq rfl <| g_seq rfl ?_
    have j3 : ∀ (x222 : Bool) (h : query_parser_cond_j3 x201 x194 x208 x118 r147 x202 x203 x213 x214 x222 r) , G (query_parser_cond_C w F g2 Tb3 A8 n9 c10 z12 A14 n15 c16 z18 r) [.code q14c37, .code q14c35] [(0, .pointer (some ⟨g2, 0, none⟩)), (2, .pointer (some ⟨gb20, 0, none⟩)), (85, .bool x222)] [.own (.slice A204 n205 c206) 46 5 n205 (x203.flatMap enc_api_PatNode), .own (.slice A209 n210 c211) 48 4 n210 (x208.flatMap enc_api_Cond), .box g2 Tb3 [.slice A195 n196 c197, .int .i64 x201, .int .i64 x202, .slice A204 n205 c206, .slice A209 n210 c211, .int .i64 x213, .int .i64 x214], .box gb20 48 [.bool x118, .string r147.1, .string (⟨#[]⟩ : ByteArray), .string (⟨#[]⟩ : ByteArray)]] [Sm w.heap.size F sw198 sb199, Sm w.heap.size F w163 sb167, Sm w.heap.size F sw101 sb102, Sm w.heap.size F w41 sb45, Sm w.heap.size F w [[g2], (Value.slice A8 n9 c10).ownBlock.toList, (Value.slice A14 n15 c16).ownBlock.toList], St w [[g2], (Value.slice A8 n9 c10).ownBlock.toList, (Value.slice A14 n15 c16).ownBlock.toList]] := by
     intro x222 h
     unfold query_parser_cond_j3 at h
     by_cases hp223 : x222 = true
     ·have h := if_pos' hp223 h
      refine g_true rfl _ rfl (hp223) <| g_seq rfl ?_
      obtain ⟨hb224, h⟩ := h
      have hns : Region.noSelect (Code.ops q14c40) = true := by kernel_rfl
      refine g_drawG [12] 13 rfl rfl mix rfl (.c 0 rfl (.c 1 rfl (.c 2 rfl (.c 3 rfl (.c 4 rfl (.c 5 rfl .n)))))) <| wfv 0 rfl (v_move rfl) gn hns (by kernel_rfl) <| wfv 1 rfl (v_nilCheck rfl) gn hns (by kernel_rfl) <| wfv 2 rfl (v_fldB fo_44_0 rfl) gn hns (by kernel_rfl) <| wfv 3 rfl (v_ldB1 2 ld_33 rfl rfl rfl) gn hns (by kernel_rfl) <| wfv 4 rfl (v_move rfl) gn hns (by kernel_rfl) <| wfv 5 rfl (v_nilCheck rfl) gn hns (by kernel_rfl) <| wfv 6 rfl (v_fldB fo_44_1 rfl) gn hns (by kernel_rfl) <| wfv 7 rfl (v_ldB1 2 ld_3 rfl rfl rfl) gn hns (by kernel_rfl) ?_
      have hr227 := Rw.readF (s := Sm w.heap.size F sw198 sb199) (hl := hl_api_Word) (h1 := h1_api_Word) h200 hb224
      refine wfv 8 rfl (v_idxR (s := Sm w.heap.size F sw198 sb199) slE_33 rfl rfl h200 hb224) gn hns (by kernel_rfl) <| wfv 9 rfl (v_fldA fo_41_1 rfl) gn hns (by kernel_rfl) <| wfv 10 rfl (v_ldA1 (kk := (x201 : Int).toNat * 4) (j := 1) (Sm w.heap.size F sw198 sb199) ld_9 rfl hr227 rfl (me 0 rfl)) gn hns (by kernel_rfl) <| wfv 11 rfl (v_fldB fo_48_3 rfl) gn hns (by kernel_rfl) ?_
      refine wf_all [12] (by kernel_rfl) rfl ⟨on_l 12 rfl gn rfl (s_stB (vs := [.string ((ix x194 x201).text)]) (cs' := [.bool x118, .string r147.1, .string (⟨#[]⟩ : ByteArray), .string ((ix x194 x201).text)]) (M' := [.own (.slice A204 n205 c206) 46 5 n205 (x203.flatMap enc_api_PatNode), .own (.slice A209 n210 c211) 48 4 n210 (x208.flatMap enc_api_Cond), .box g2 Tb3 [.slice A195 n196 c197, .int .i64 x201, .int .i64 x202, .slice A204 n205 c206, .slice A209 n210 c211, .int .i64 x213, .int .i64 x214], .box gb20 48 [.bool x118, .string r147.1, .string (⟨#[]⟩ : ByteArray), .string ((ix x194 x201).text)]]) 3 sz_9 rfl rfl rfl rfl rfl rfl rfl rfl rfl ?_), trivial⟩
      unfold NxL
      refine wf_end (by kernel_rfl) <| g_region rfl rfl <| wl_v 0 rfl (v_move rfl) gn rfl <| wl_v 1 rfl (v_nilCheck rfl) gn rfl <| wl_v 2 rfl (v_fldB fo_44_1 rfl) gn rfl <| wl_v 3 rfl (v_ldB1 2 ld_3 rfl rfl rfl) gn rfl <| wl_v 4 rfl (v_bin rfl rfl rfl) gn rfl <| wl_v 5 rfl (v_nilCheck rfl) gn rfl <| wl_v 6 rfl (v_fldB fo_44_1 rfl) gn rfl ?_
      refine wl_s 7 rfl (s_stB (vs := [.int .i64 (w64 (x201 + 1))]) (cs' := [.slice A195 n196 c197, .int .i64 (w64 (x201 + 1)), .int .i64 x202, .slice A204 n205 c206, .slice A209 n210 c211, .int .i64 x213, .int .i64 x214]) (M' := [.own (.slice A204 n205 c206) 46 5 n205 (x203.flatMap enc_api_PatNode), .own (.slice A209 n210 c211) 48 4 n210 (x208.flatMap enc_api_Cond), .box g2 Tb3 [.slice A195 n196 c197, .int .i64 (w64 (x201 + 1)), .int .i64 x202, .slice A204 n205 c206, .slice A209 n210 c211, .int .i64 x213, .int .i64 x214], .box gb20 48 [.bool x118, .string r147.1, .string (⟨#[]⟩ : ByteArray), .string ((ix x194 x201).text)]]) 2 sz_3 rfl rfl rfl rfl rfl rfl rfl rfl rfl ?_) gn
      refine w_end 8 rfl ?_
      obtain ⟨x234, hv235, h⟩ := h
      obtain ⟨hb236, h⟩ := h
      have hns : Region.noSelect (Code.ops q14c35) = true := by kernel_rfl
      refine g_drawF [.own (.slice A204 n205 c206) 46 5 n205 (x203.flatMap enc_api_PatNode), .box g2 Tb3 [.slice A195 n196 c197, .int .i64 (w64 (x201 + 1)), .int .i64 x202, .slice A204 n205 c206, .slice A209 n210 c211, .int .i64 x213, .int .i64 x214], .box gb20 48 [.bool x118, .string r147.1, .string (⟨#[]⟩ : ByteArray), .string ((ix x194 x201).text)]] [Sm w.heap.size F sw198 sb199, Sm w.heap.size F w163 sb167, Sm w.heap.size F sw101 sb102, Sm w.heap.size F w41 sb45, Sm w.heap.size F w [[g2], (Value.slice A8 n9 c10).ownBlock.toList, (Value.slice A14 n15 c16).ownBlock.toList], St w [[g2], (Value.slice A8 n9 c10).ownBlock.toList, (Value.slice A14 n15 c16).ownBlock.toList]] [12] 13 rfl rfl mix rfl (.cons_cons _ (.cons _ (.cons_cons _ (.cons_cons _ (.slnil))))) (sels [0, 1, 2, 3, 4, 5] rfl) <| wfv 0 rfl (v_move rfl) gn hns (by kernel_rfl) <| wfv 1 rfl (v_move rfl) gn hns (by kernel_rfl) <| wfv 2 rfl (v_nilCheck rfl) gn hns (by kernel_rfl) <| wfv 3 rfl (v_fldB fo_44_3 rfl) gn hns (by kernel_rfl) <| wfv 4 rfl (v_fldB fo_25_1 rfl) gn hns (by kernel_rfl) <| wfv 5 rfl (v_ldB1 1 ld_23 rfl rfl rfl) gn hns (by kernel_rfl) <| wfv 6 rfl (v_ldB [.bool x118, .string r147.1, .string (⟨#[]⟩ : ByteArray), .string ((ix x194 x201).text)] 2 ld_48 rfl rfl rfl rfl) gn hns (by kernel_rfl) ?_
      refine wf_all [7] (by kernel_rfl) rfl ⟨on_s 7 rfl gn rfl (s_litO (xs := ([(⟨x118, r147.1, (⟨#[]⟩ : ByteArray), (ix x194 x201).text⟩ : api_Cond)] : List api_Cond)) [.bool x118, .string r147.1, .string (⟨#[]⟩ : ByteArray), .string ((ix x194 x201).text)] bs_23_1 rfl (by kernel_rfl) rfl rfl rfl rfl fun gb249 h250 => ?_), trivial⟩
      refine ⟨sels [1, 3, 4] rfl, sels [0, 1, 2, 3, 4, 5] rfl, ?_⟩
      refine wf_all [8] (by kernel_rfl) rfl ⟨on_s 8 rfl gn rfl (s_app (zs := x234) (cells' := x234.flatMap enc_api_Cond) 2 ap_23 rfl rfl rfl h212 hz19 (Src.ownF (hl := hl_api_Cond) (h1 := h1_api_Cond) 0 rfl h250) (by rw [hv235, List.flatMap_append] <;> rfl) (app_len hv235 h250.hq) hb236 rfl rfl fun A254 c255 h256 => ?_), trivial⟩
      refine ⟨sels [1, 3, 4] rfl, sels [0, 1, 2, 3, 4, 5] rfl, ?_⟩
      refine wfv 9 rfl (v_nilCheck rfl) gn hns (by kernel_rfl) <| wfv 10 rfl (v_fldB fo_44_3 rfl) gn hns (by kernel_rfl) <| wfv 11 rfl (v_fldB fo_25_1 rfl) gn hns (by kernel_rfl) ?_
      refine wf_all [12] (by kernel_rfl) rfl ⟨on_l 12 rfl gn rfl (s_stB (vs := [.slice A254 (n210 + 1) c255]) (cs' := [.slice A195 n196 c197, .int .i64 (w64 (x201 + 1)), .int .i64 x202, .slice A204 n205 c206, .slice A254 (n210 + 1) c255, .int .i64 x213, .int .i64 x214]) (M' := [.own (.slice (some ⟨gb249, 0, none⟩) 1 1) 48 4 1 (([(⟨x118, r147.1, (⟨#[]⟩ : ByteArray), (ix x194 x201).text⟩ : api_Cond)] : List api_Cond).flatMap enc_api_Cond), .own (.slice A204 n205 c206) 46 5 n205 (x203.flatMap enc_api_PatNode), .own (.slice A254 (n210 + 1) c255) 48 4 (n210 + 1) (x234.flatMap enc_api_Cond), .box g2 Tb3 [.slice A195 n196 c197, .int .i64 (w64 (x201 + 1)), .int .i64 x202, .slice A204 n205 c206, .slice A254 (n210 + 1) c255, .int .i64 x213, .int .i64 x214], .box gb20 48 [.bool x118, .string r147.1, .string (⟨#[]⟩ : ByteArray), .string ((ix x194 x201).text)]]) 3 sz_23 rfl rfl rfl rfl rfl rfl rfl rfl rfl ?_), trivial⟩
      unfold NxL
      refine wf_end (by kernel_rfl) ?_
      refine g_endR [] Try.func14 rfl (.nil) fun wr hLr => ?_
      have hMr := hLr.pkI (.c 3 rfl (.c 1 rfl (.c 2 rfl .n))) (.c 0 rfl (.c 4 rfl .n)) (by kernel_rfl) (.c 5 rfl .n)
      have hMi := hLr.selI (.c 3 rfl (.c 1 rfl (.c 2 rfl .n)))
      show query_parser_cond_R w F g2 Tb3 A8 n9 c10 z12 A14 n15 c16 z18 r (.returned (packV [])) wr
      rw [h]
      exact ⟨A204, n205, c206, A254, n210 + 1, c255, A195, n196, c197, rfl, hMr, h207, h256, (hLr.outR (s := Sm w.heap.size F sw198 sb199) hMi (me 0 rfl) Sm.ok h200)⟩
     ·have h := if_neg' hp223 h
      refine g_false rfl _ rfl ((bf hp223)) <| g_seq rfl <| g_region rfl rfl <| wl_v 0 rfl (v_move rfl) gn rfl <| wl_v 1 rfl (v_nilCheck rfl) gn rfl <| wl_v 2 rfl (v_fldB fo_44_4 rfl) gn rfl <| wl_v 3 rfl (v_ldB1 2 ld_26 rfl rfl rfl) gn rfl <| wl_v 4 rfl (v_bin rfl rfl rfl) gn rfl <| w_end 5 rfl ?_
      by_cases hp257 : x213 = 0
      ·have h := if_pos' hp257 h
       refine g_true rfl _ rfl ((eqi hp257)) <| g_region rfl rfl <| wl_v 0 rfl (v_move rfl) gn rfl ?_
       obtain ⟨r261, hv262, h⟩ := h
       refine wl_s 1 rfl (s_call [.pointer (some ⟨g2, 0, none⟩)] rfl Try.func37 rfl rfl rfl fun w258 hL259 => ?_) gn
       have hp260 := pmI hL259 (.c 2 rfl (.c 0 rfl (.c 1 rfl .n))) (.c 3 rfl .n) (by kernel_rfl)
       refine Calls.mono (query_parser_capture_calls w258 (Fl ([Sm w.heap.size F sw198 sb199] : List Snap)) (⟨x194, x201, x202, (⟨x203, x208⟩ : api_Query), x213, x214⟩ : query_parser) g2 Tb3 A195 n196 c197 z12 A204 n205 c206 z18 A209 n210 c211 (Rw.mono h200 (hL259.toFl (me 0 rfl) (me 0 rfl))) (Nat.le_trans hz13 hL259.env.size) h207 (Nat.le_trans hz19 hL259.env.size) h212 (hL259.hFl hp260 (sels [0] rfl)) (hL259.into hp260 _) r261 hv262) ?_
       rintro _ w277 ⟨A267, n268, c269, A272, n273, c274, A263, n264, c265, rfl, hM278, h270, h275, h266⟩
       obtain ⟨sb281, hL279, hv280⟩ := hL259.callB (Sl := ([Sm w.heap.size F sw198 sb199] : List Snap)) hp260 hM278 F (sels [0] rfl) ⟨Sm.ok, trivial⟩
       have h266 : At k_api_Word (Sm w.heap.size F w277 sb281) A263 n264 c265 r261.2.words := Rw.mono h266 hv280
       refine ⟨_, _, _, rfl, hL279, ?_⟩
       refine wl_v 2 rfl (v_fldB fo_48_2 rfl) gn rfl ?_
       refine wl_s 3 rfl (s_stB (vs := [.string r261.1]) (cs' := [.bool x118, .string r147.1, .string r261.1, .string (⟨#[]⟩ : ByteArray)]) (M' := [.box g2 Tb3 [.slice A263 n264 c265, .int .i64 r261.2.at_, .int .i64 r261.2.end_, .slice A267 n268 c269, .slice A272 n273 c274, .int .i64 r261.2.code, .int .i64 r261.2.place], .own (.slice A267 n268 c269) 46 5 n268 (r261.2.q.nodes.flatMap enc_api_PatNode), .own (.slice A272 n273 c274) 48 4 n273 (r261.2.q.conds.flatMap enc_api_Cond), .box gb20 48 [.bool x118, .string r147.1, .string r261.1, .string (⟨#[]⟩ : ByteArray)]]) 3 sz_9 rfl rfl rfl rfl rfl rfl rfl rfl rfl ?_) gn
       refine w_end 4 rfl ?_
       obtain ⟨x288, hv289, h⟩ := h
       obtain ⟨hb290, h⟩ := h
       have hns : Region.noSelect (Code.ops q14c35) = true := by kernel_rfl
       refine g_drawF [.box g2 Tb3 [.slice A263 n264 c265, .int .i64 r261.2.at_, .int .i64 r261.2.end_, .slice A267 n268 c269, .slice A272 n273 c274, .int .i64 r261.2.code, .int .i64 r261.2.place], .own (.slice A267 n268 c269) 46 5 n268 (r261.2.q.nodes.flatMap enc_api_PatNode), .box gb20 48 [.bool x118, .string r147.1, .string r261.1, .string (⟨#[]⟩ : ByteArray)]] [Sm w.heap.size F w277 sb281, Sm w.heap.size F sw198 sb199, Sm w.heap.size F w163 sb167, Sm w.heap.size F sw101 sb102, Sm w.heap.size F w41 sb45, Sm w.heap.size F w [[g2], (Value.slice A8 n9 c10).ownBlock.toList, (Value.slice A14 n15 c16).ownBlock.toList], St w [[g2], (Value.slice A8 n9 c10).ownBlock.toList, (Value.slice A14 n15 c16).ownBlock.toList]] [12] 13 rfl rfl mix rfl (.cons_cons _ (.cons_cons _ (.cons _ (.cons_cons _ (.slnil))))) (sels [0, 1, 2, 3, 4, 5, 6] rfl) <| wfv 0 rfl (v_move rfl) gn hns (by kernel_rfl) <| wfv 1 rfl (v_move rfl) gn hns (by kernel_rfl) <| wfv 2 rfl (v_nilCheck rfl) gn hns (by kernel_rfl) <| wfv 3 rfl (v_fldB fo_44_3 rfl) gn hns (by kernel_rfl) <| wfv 4 rfl (v_fldB fo_25_1 rfl) gn hns (by kernel_rfl) <| wfv 5 rfl (v_ldB1 0 ld_23 rfl rfl rfl) gn hns (by kernel_rfl) <| wfv 6 rfl (v_ldB [.bool x118, .string r147.1, .string r261.1, .string (⟨#[]⟩ : ByteArray)] 2 ld_48 rfl rfl rfl rfl) gn hns (by kernel_rfl) ?_
       refine wf_all [7] (by kernel_rfl) rfl ⟨on_s 7 rfl gn rfl (s_litO (xs := ([(⟨x118, r147.1, r261.1, (⟨#[]⟩ : ByteArray)⟩ : api_Cond)] : List api_Cond)) [.bool x118, .string r147.1, .string r261.1, .string (⟨#[]⟩ : ByteArray)] bs_23_1 rfl (by kernel_rfl) rfl rfl rfl rfl fun gb303 h304 => ?_), trivial⟩
       refine ⟨sels [1, 2, 4] rfl, sels [0, 1, 2, 3, 4, 5, 6] rfl, ?_⟩
       refine wf_all [8] (by kernel_rfl) rfl ⟨on_s 8 rfl gn rfl (s_app (zs := x288) (cells' := x288.flatMap enc_api_Cond) 3 ap_23 rfl rfl rfl h275 hz19 (Src.ownF (hl := hl_api_Cond) (h1 := h1_api_Cond) 0 rfl h304) (by rw [hv289, List.flatMap_append] <;> rfl) (app_len hv289 h304.hq) hb290 rfl rfl fun A308 c309 h310 => ?_), trivial⟩
       refine ⟨sels [1, 2, 4] rfl, sels [0, 1, 2, 3, 4, 5, 6] rfl, ?_⟩
       refine wfv 9 rfl (v_nilCheck rfl) gn hns (by kernel_rfl) <| wfv 10 rfl (v_fldB fo_44_3 rfl) gn hns (by kernel_rfl) <| wfv 11 rfl (v_fldB fo_25_1 rfl) gn hns (by kernel_rfl) ?_
       refine wf_all [12] (by kernel_rfl) rfl ⟨on_l 12 rfl gn rfl (s_stB (vs := [.slice A308 (n273 + 1) c309]) (cs' := [.slice A263 n264 c265, .int .i64 r261.2.at_, .int .i64 r261.2.end_, .slice A267 n268 c269, .slice A308 (n273 + 1) c309, .int .i64 r261.2.code, .int .i64 r261.2.place]) (M' := [.own (.slice (some ⟨gb303, 0, none⟩) 1 1) 48 4 1 (([(⟨x118, r147.1, r261.1, (⟨#[]⟩ : ByteArray)⟩ : api_Cond)] : List api_Cond).flatMap enc_api_Cond), .box g2 Tb3 [.slice A263 n264 c265, .int .i64 r261.2.at_, .int .i64 r261.2.end_, .slice A267 n268 c269, .slice A308 (n273 + 1) c309, .int .i64 r261.2.code, .int .i64 r261.2.place], .own (.slice A267 n268 c269) 46 5 n268 (r261.2.q.nodes.flatMap enc_api_PatNode), .own (.slice A308 (n273 + 1) c309) 48 4 (n273 + 1) (x288.flatMap enc_api_Cond), .box gb20 48 [.bool x118, .string r147.1, .string r261.1, .string (⟨#[]⟩ : ByteArray)]]) 1 sz_23 rfl rfl rfl rfl rfl rfl rfl rfl rfl ?_), trivial⟩
       unfold NxL
       refine wf_end (by kernel_rfl) ?_
       refine g_endR [] Try.func14 rfl (.nil) fun wr hLr => ?_
       have hMr := hLr.pkI (.c 1 rfl (.c 2 rfl (.c 3 rfl .n))) (.c 0 rfl (.c 4 rfl .n)) (by kernel_rfl) (.c 6 rfl .n)
       have hMi := hLr.selI (.c 1 rfl (.c 2 rfl (.c 3 rfl .n)))
       show query_parser_cond_R w F g2 Tb3 A8 n9 c10 z12 A14 n15 c16 z18 r (.returned (packV [])) wr
       rw [h]
       exact ⟨A267, n268, c269, A308, n273 + 1, c309, A263, n264, c265, rfl, hMr, h270, h310, (hLr.outR (s := Sm w.heap.size F w277 sb281) hMi (me 0 rfl) Sm.ok h266)⟩
      ·have h := if_neg' hp257 h
       refine g_false rfl _ rfl ((nei hp257)) <| g_skip rfl ?_
       obtain ⟨x317, hv318, h⟩ := h
       obtain ⟨hb319, h⟩ := h
       have hns : Region.noSelect (Code.ops q14c35) = true := by kernel_rfl
       refine g_drawF [.own (.slice A204 n205 c206) 46 5 n205 (x203.flatMap enc_api_PatNode), .box g2 Tb3 [.slice A195 n196 c197, .int .i64 x201, .int .i64 x202, .slice A204 n205 c206, .slice A209 n210 c211, .int .i64 x213, .int .i64 x214], .box gb20 48 [.bool x118, .string r147.1, .string (⟨#[]⟩ : ByteArray), .string (⟨#[]⟩ : ByteArray)]] [Sm w.heap.size F sw198 sb199, Sm w.heap.size F w163 sb167, Sm w.heap.size F sw101 sb102, Sm w.heap.size F w41 sb45, Sm w.heap.size F w [[g2], (Value.slice A8 n9 c10).ownBlock.toList, (Value.slice A14 n15 c16).ownBlock.toList], St w [[g2], (Value.slice A8 n9 c10).ownBlock.toList, (Value.slice A14 n15 c16).ownBlock.toList]] [12] 13 rfl rfl mix rfl (.cons_cons _ (.cons _ (.cons_cons _ (.cons_cons _ (.slnil))))) (sels [0, 1, 2, 3, 4, 5] rfl) <| wfv 0 rfl (v_move rfl) gn hns (by kernel_rfl) <| wfv 1 rfl (v_move rfl) gn hns (by kernel_rfl) <| wfv 2 rfl (v_nilCheck rfl) gn hns (by kernel_rfl) <| wfv 3 rfl (v_fldB fo_44_3 rfl) gn hns (by kernel_rfl) <| wfv 4 rfl (v_fldB fo_25_1 rfl) gn hns (by kernel_rfl) <| wfv 5 rfl (v_ldB1 1 ld_23 rfl rfl rfl) gn hns (by kernel_rfl) <| wfv 6 rfl (v_ldB [.bool x118, .string r147.1, .string (⟨#[]⟩ : ByteArray), .string (⟨#[]⟩ : ByteArray)] 2 ld_48 rfl rfl rfl rfl) gn hns (by kernel_rfl) ?_
       refine wf_all [7] (by kernel_rfl) rfl ⟨on_s 7 rfl gn rfl (s_litO (xs := ([(⟨x118, r147.1, (⟨#[]⟩ : ByteArray), (⟨#[]⟩ : ByteArray)⟩ : api_Cond)] : List api_Cond)) [.bool x118, .string r147.1, .string (⟨#[]⟩ : ByteArray), .string (⟨#[]⟩ : ByteArray)] bs_23_1 rfl (by kernel_rfl) rfl rfl rfl rfl fun gb332 h333 => ?_), trivial⟩
       refine ⟨sels [1, 3, 4] rfl, sels [0, 1, 2, 3, 4, 5] rfl, ?_⟩
       refine wf_all [8] (by kernel_rfl) rfl ⟨on_s 8 rfl gn rfl (s_app (zs := x317) (cells' := x317.flatMap enc_api_Cond) 2 ap_23 rfl rfl rfl h212 hz19 (Src.ownF (hl := hl_api_Cond) (h1 := h1_api_Cond) 0 rfl h333) (by rw [hv318, List.flatMap_append] <;> rfl) (app_len hv318 h333.hq) hb319 rfl rfl fun A337 c338 h339 => ?_), trivial⟩
       refine ⟨sels [1, 3, 4] rfl, sels [0, 1, 2, 3, 4, 5] rfl, ?_⟩
       refine wfv 9 rfl (v_nilCheck rfl) gn hns (by kernel_rfl) <| wfv 10 rfl (v_fldB fo_44_3 rfl) gn hns (by kernel_rfl) <| wfv 11 rfl (v_fldB fo_25_1 rfl) gn hns (by kernel_rfl) ?_
       refine wf_all [12] (by kernel_rfl) rfl ⟨on_l 12 rfl gn rfl (s_stB (vs := [.slice A337 (n210 + 1) c338]) (cs' := [.slice A195 n196 c197, .int .i64 x201, .int .i64 x202, .slice A204 n205 c206, .slice A337 (n210 + 1) c338, .int .i64 x213, .int .i64 x214]) (M' := [.own (.slice (some ⟨gb332, 0, none⟩) 1 1) 48 4 1 (([(⟨x118, r147.1, (⟨#[]⟩ : ByteArray), (⟨#[]⟩ : ByteArray)⟩ : api_Cond)] : List api_Cond).flatMap enc_api_Cond), .own (.slice A204 n205 c206) 46 5 n205 (x203.flatMap enc_api_PatNode), .own (.slice A337 (n210 + 1) c338) 48 4 (n210 + 1) (x317.flatMap enc_api_Cond), .box g2 Tb3 [.slice A195 n196 c197, .int .i64 x201, .int .i64 x202, .slice A204 n205 c206, .slice A337 (n210 + 1) c338, .int .i64 x213, .int .i64 x214], .box gb20 48 [.bool x118, .string r147.1, .string (⟨#[]⟩ : ByteArray), .string (⟨#[]⟩ : ByteArray)]]) 3 sz_23 rfl rfl rfl rfl rfl rfl rfl rfl rfl ?_), trivial⟩
       unfold NxL
       refine wf_end (by kernel_rfl) ?_
       refine g_endR [] Try.func14 rfl (.nil) fun wr hLr => ?_
       have hMr := hLr.pkI (.c 3 rfl (.c 1 rfl (.c 2 rfl .n))) (.c 0 rfl (.c 4 rfl .n)) (by kernel_rfl) (.c 5 rfl .n)
       have hMi := hLr.selI (.c 3 rfl (.c 1 rfl (.c 2 rfl .n)))
       show query_parser_cond_R w F g2 Tb3 A8 n9 c10 z12 A14 n15 c16 z18 r (.returned (packV [])) wr
       rw [h]
       exact ⟨A204, n205, c206, A337, n210 + 1, c338, A195, n196, c197, rfl, hMr, h207, h339, (hLr.outR (s := Sm w.heap.size F sw198 sb199) hMi (me 0 rfl) Sm.ok h200)⟩
    by_cases hp340 : x213 = 0
    ·have h := if_pos' hp340 h
     by_cases hp341 : x201 < (x194.length : Int)
     ·have h := if_pos' hp341 h
      obtain ⟨hb342, h⟩ := h
      have hns : Region.noSelect (Code.ops q14c36) = true := by kernel_rfl
      refine g_drawG [] 31 rfl rfl mix rfl (.c 0 rfl (.c 1 rfl (.c 2 rfl (.c 3 rfl (.c 4 rfl (.c 5 rfl .n)))))) <| wfv 0 rfl (v_move rfl) gn hns rfl <| wfv 1 rfl (v_nilCheck rfl) gn hns rfl <| wfv 2 rfl (v_fldB fo_44_4 rfl) gn hns rfl <| wfv 3 rfl (v_ldB1 2 ld_26 rfl rfl rfl) gn hns rfl <| wfv 4 rfl (v_bin rfl rfl rfl) gn hns rfl <| wfv 5 rfl (v_move rfl) gn hns rfl <| wf_bool 60 rfl ((eqi hp340)) <| wfv 6 rfl (v_move rfl) (gy 60 rfl rfl) hns rfl <| wfv 7 rfl (v_nilCheck rfl) (gy 60 rfl rfl) hns rfl <| wfv 8 rfl (v_fldB fo_44_1 rfl) (gy 60 rfl rfl) hns rfl <| wfv 9 rfl (v_ldB1 2 ld_3 rfl rfl rfl) (gy 60 rfl rfl) hns rfl ?_
      refine wfv 10 rfl (v_move rfl) (gy 60 rfl rfl) hns rfl <| wfv 11 rfl (v_nilCheck rfl) (gy 60 rfl rfl) hns rfl <| wfv 12 rfl (v_fldB fo_44_0 rfl) (gy 60 rfl rfl) hns rfl <| wfv 13 rfl (v_ldB1 2 ld_33 rfl rfl rfl) (gy 60 rfl rfl) hns rfl <| wfv 14 rfl (v_lenQ un_33 rfl h200.hq) (gy 60 rfl rfl) hns rfl <| wfv 15 rfl (v_bin rfl rfl rfl) (gy 60 rfl rfl) hns rfl <| wfv 16 rfl (v_pick (b := true) rfl rfl) gn hns rfl <| wfv 17 rfl (v_move rfl) gn hns rfl <| wf_bool 72 rfl ((decide_eq_true hp341)) <| wfv 18 rfl (v_move rfl) (gy 72 rfl rfl) hns rfl <| wfv 19 rfl (v_nilCheck rfl) (gy 72 rfl rfl) hns rfl <| wfv 20 rfl (v_fldB fo_44_0 rfl) (gy 72 rfl rfl) hns rfl ?_
      refine wfv 21 rfl (v_ldB1 2 ld_33 rfl rfl rfl) (gy 72 rfl rfl) hns rfl <| wfv 22 rfl (v_move rfl) (gy 72 rfl rfl) hns rfl <| wfv 23 rfl (v_nilCheck rfl) (gy 72 rfl rfl) hns rfl <| wfv 24 rfl (v_fldB fo_44_1 rfl) (gy 72 rfl rfl) hns rfl <| wfv 25 rfl (v_ldB1 2 ld_3 rfl rfl rfl) (gy 72 rfl rfl) hns rfl ?_
      have hr345 := Rw.readF (s := Sm w.heap.size F sw198 sb199) (hl := hl_api_Word) (h1 := h1_api_Word) h200 hb342
      refine wfv 26 rfl (v_idxR (s := Sm w.heap.size F sw198 sb199) slE_33 rfl rfl h200 hb342) (gy 72 rfl rfl) hns rfl <| wfv 27 rfl (v_fldA fo_41_0 rfl) (gy 72 rfl rfl) hns rfl <| wfv 28 rfl (v_ldA1 (kk := (x201 : Int).toNat * 4) (j := 0) (Sm w.heap.size F sw198 sb199) ld_39 rfl hr345 rfl (me 0 rfl)) (gy 72 rfl rfl) hns rfl <| wfv 29 rfl (v_bin rfl rfl rfl) (gy 72 rfl rfl) hns rfl <| wfv 30 rfl (v_pick (b := true) rfl rfl) gn hns rfl <| wf_end (by kernel_rfl) ?_
      exact g_go [0, 1, 2, 3, 4, 5] (j3 (((ix x194 x201).kind) == 2) h) ⟨rfl, rfl, rfl, trivial⟩ (.cons_cons _ (.cons_cons _ (.cons_cons _ (.cons_cons _ (.slnil))))) rfl
     ·have h := if_neg' hp341 h
      have hns : Region.noSelect (Code.ops q14c36) = true := by kernel_rfl
      refine g_drawG [] 31 rfl rfl mix rfl (.c 0 rfl (.c 1 rfl (.c 2 rfl (.c 3 rfl (.c 4 rfl (.c 5 rfl .n)))))) <| wfv 0 rfl (v_move rfl) gn hns rfl <| wfv 1 rfl (v_nilCheck rfl) gn hns rfl <| wfv 2 rfl (v_fldB fo_44_4 rfl) gn hns rfl <| wfv 3 rfl (v_ldB1 2 ld_26 rfl rfl rfl) gn hns rfl <| wfv 4 rfl (v_bin rfl rfl rfl) gn hns rfl <| wfv 5 rfl (v_move rfl) gn hns rfl <| wf_bool 60 rfl ((eqi hp340)) <| wfv 6 rfl (v_move rfl) (gy 60 rfl rfl) hns rfl <| wfv 7 rfl (v_nilCheck rfl) (gy 60 rfl rfl) hns rfl <| wfv 8 rfl (v_fldB fo_44_1 rfl) (gy 60 rfl rfl) hns rfl <| wfv 9 rfl (v_ldB1 2 ld_3 rfl rfl rfl) (gy 60 rfl rfl) hns rfl ?_
      refine wfv 10 rfl (v_move rfl) (gy 60 rfl rfl) hns rfl <| wfv 11 rfl (v_nilCheck rfl) (gy 60 rfl rfl) hns rfl <| wfv 12 rfl (v_fldB fo_44_0 rfl) (gy 60 rfl rfl) hns rfl <| wfv 13 rfl (v_ldB1 2 ld_33 rfl rfl rfl) (gy 60 rfl rfl) hns rfl <| wfv 14 rfl (v_lenQ un_33 rfl h200.hq) (gy 60 rfl rfl) hns rfl <| wfv 15 rfl (v_bin rfl rfl rfl) (gy 60 rfl rfl) hns rfl <| wfv 16 rfl (v_pick (b := true) rfl rfl) gn hns rfl <| wfv 17 rfl (v_move rfl) gn hns rfl <| wf_bool 72 rfl ((decide_eq_false hp341)) <| wfp 18 rfl (ps 72 rfl rfl rfl) hns rfl <| wfp 19 rfl (ps 72 rfl rfl rfl) hns rfl <| wfp 20 rfl (ps 72 rfl rfl rfl) hns rfl ?_
      refine wfp 21 rfl (ps 72 rfl rfl rfl) hns rfl <| wfp 22 rfl (ps 72 rfl rfl rfl) hns rfl <| wfp 23 rfl (ps 72 rfl rfl rfl) hns rfl <| wfp 24 rfl (ps 72 rfl rfl rfl) hns rfl <| wfp 25 rfl (ps 72 rfl rfl rfl) hns rfl <| wfp 26 rfl (ps 72 rfl rfl rfl) hns rfl <| wfp 27 rfl (ps 72 rfl rfl rfl) hns rfl <| wfp 28 rfl (ps 72 rfl rfl rfl) hns rfl <| wfp 29 rfl (ps 72 rfl rfl rfl) hns rfl <| wfv 30 rfl (v_pick (b := false) rfl rfl) gn hns rfl <| wf_end (by kernel_rfl) ?_
      exact g_go [0, 1, 2, 3, 4, 5] (j3 false h) ⟨rfl, rfl, rfl, trivial⟩ (.cons_cons _ (.cons_cons _ (.cons_cons _ (.cons_cons _ (.slnil))))) rfl
    ·have h := if_neg' hp340 h
     have hns : Region.noSelect (Code.ops q14c36) = true := by kernel_rfl
     refine g_drawG [] 31 rfl rfl mix rfl (.c 0 rfl (.c 1 rfl (.c 2 rfl (.c 3 rfl (.c 4 rfl (.c 5 rfl .n)))))) <| wfv 0 rfl (v_move rfl) gn hns rfl <| wfv 1 rfl (v_nilCheck rfl) gn hns rfl <| wfv 2 rfl (v_fldB fo_44_4 rfl) gn hns rfl <| wfv 3 rfl (v_ldB1 2 ld_26 rfl rfl rfl) gn hns rfl <| wfv 4 rfl (v_bin rfl rfl rfl) gn hns rfl <| wfv 5 rfl (v_move rfl) gn hns rfl <| wf_bool 60 rfl ((nei hp340)) <| wfp 6 rfl (ps 60 rfl rfl rfl) hns rfl <| wfp 7 rfl (ps 60 rfl rfl rfl) hns rfl <| wfp 8 rfl (ps 60 rfl rfl rfl) hns rfl <| wfp 9 rfl (ps 60 rfl rfl rfl) hns rfl ?_
     refine wfp 10 rfl (ps 60 rfl rfl rfl) hns rfl <| wfp 11 rfl (ps 60 rfl rfl rfl) hns rfl <| wfp 12 rfl (ps 60 rfl rfl rfl) hns rfl <| wfp 13 rfl (ps 60 rfl rfl rfl) hns rfl <| wfp 14 rfl (ps 60 rfl rfl rfl) hns rfl <| wfp 15 rfl (ps 60 rfl rfl rfl) hns rfl <| wfv 16 rfl (v_pick (b := false) rfl rfl) gn hns rfl <| wfv 17 rfl (v_move rfl) gn hns rfl <| wfp 18 rfl (ps 72 rfl rfl rfl) hns rfl <| wfp 19 rfl (ps 72 rfl rfl rfl) hns rfl <| wfp 20 rfl (ps 72 rfl rfl rfl) hns rfl <| wfp 21 rfl (ps 72 rfl rfl rfl) hns rfl ?_
     refine wfp 22 rfl (ps 72 rfl rfl rfl) hns rfl <| wfp 23 rfl (ps 72 rfl rfl rfl) hns rfl <| wfp 24 rfl (ps 72 rfl rfl rfl) hns rfl <| wfp 25 rfl (ps 72 rfl rfl rfl) hns rfl <| wfp 26 rfl (ps 72 rfl rfl rfl) hns rfl <| wfp 27 rfl (ps 72 rfl rfl rfl) hns rfl <| wfp 28 rfl (ps 72 rfl rfl rfl) hns rfl <| wfp 29 rfl (ps 72 rfl rfl rfl) hns rfl <| wfv 30 rfl (v_pick (b := false) rfl rfl) gn hns rfl <| wf_end (by kernel_rfl) ?_
     exact g_go [0, 1, 2, 3, 4, 5] (j3 false h) ⟨rfl, rfl, rfl, trivial⟩ (.cons_cons _ (.cons_cons _ (.cons_cons _ (.cons_cons _ (.slnil))))) rfl
   by_cases hp168 : r147.2.code = 0
   ·have h := if_pos' hp168 h
    refine g_true rfl _ rfl ((eqi hp168)) <| g_region rfl rfl <| wl_v 0 rfl (v_move rfl) gn rfl ?_
    obtain ⟨r349, hv350, h⟩ := h
    refine wl_s 1 rfl (s_call [.pointer (some ⟨g2, 0, none⟩), .string (⟨#[61]⟩ : ByteArray)] rfl Try.func34 rfl rfl rfl fun w346 hL347 => ?_) gn
    have hp348 := pmI hL347 (.c 0 rfl (.c 1 rfl (.c 2 rfl .n))) (.c 3 rfl .n) (by kernel_rfl)
    refine Calls.mono (query_parser_sign_calls w346 (Fl ([Sm w.heap.size F w163 sb167] : List Snap)) r147.2 (⟨#[61]⟩ : ByteArray) g2 Tb3 A149 n150 c151 z12 A153 n154 c155 z18 A158 n159 c160 (Rw.mono h152 (hL347.toFl (me 0 rfl) (me 0 rfl))) (Nat.le_trans hz13 hL347.env.size) h156 (Nat.le_trans hz19 hL347.env.size) h161 (hL347.hFl hp348 (sels [0] rfl)) (hL347.into hp348 _) r349 hv350) ?_
    rintro _ w365 ⟨A355, n356, c357, A360, n361, c362, A351, n352, c353, rfl, hM366, h358, h363, h354⟩
    obtain ⟨sb369, hL367, hv368⟩ := hL347.callB (Sl := ([Sm w.heap.size F w163 sb167] : List Snap)) hp348 hM366 F (sels [0] rfl) ⟨Sm.ok, trivial⟩
    have h354 : At k_api_Word (Sm w.heap.size F w365 sb369) A351 n352 c353 r349.words := Rw.mono h354 hv368
    refine ⟨_, _, _, rfl, hL367, ?_⟩
    refine w_end 2 rfl <| g_front 3 rfl <| g_front 1 rfl <| g_front 3 rfl <| g_front 3 rfl ?_
    exact g_go [0, 1, 2, 3, 4, 5] (j2 r349.words r349.at_ r349.end_ r349.q.nodes r349.q.conds r349.code r349.place h A351 n352 c353 w365 sb369 h354 A355 n356 c357 h358 A360 n361 c362 h363) ⟨rfl, rfl, trivial⟩ (.cons_cons _ (.cons_cons _ (.cons_cons _ (.cons_cons _ (.slnil))))) rfl
   ·have h := if_neg' hp168 h
    refine g_false rfl _ rfl ((nei hp168)) <| g_skip rfl <| g_front 3 rfl <| g_front 1 rfl <| g_front 3 rfl <| g_front 3 rfl ?_
    exact g_go [0, 0, 1, 2, 3, 4] (j2 r147.2.words r147.2.at_ r147.2.end_ r147.2.q.nodes r147.2.q.conds r147.2.code r147.2.place h A149 n150 c151 w163 sb167 h152 A153 n154 c155 h156 A158 n159 c160 h161) ⟨rfl, rfl, trivial⟩ (.cons_cons _ (.cons_cons _ (.cons_cons _ (.cons_cons _ (.slnil))))) rfl
 by_cases hp46 : r25.1 = true
 ·have h := if_pos' hp46 h
  refine g_true rfl _ rfl (hp46) <| g_region rfl rfl <| wl_v 0 rfl (v_fldB fo_48_0 rfl) gn rfl ?_
  refine wl_s 1 rfl (s_stB (vs := [.bool true]) (cs' := [.bool true, .string (⟨#[]⟩ : ByteArray), .string (⟨#[]⟩ : ByteArray), .string (⟨#[]⟩ : ByteArray)]) (M' := [.box g2 Tb3 [.slice A27 n28 c29, .int .i64 r25.2.at_, .int .i64 r25.2.end_, .slice A31 n32 c33, .slice A36 n37 c38, .int .i64 r25.2.code, .int .i64 r25.2.place], .own (.slice A31 n32 c33) 46 5 n32 (r25.2.q.nodes.flatMap enc_api_PatNode), .own (.slice A36 n37 c38) 48 4 n37 (r25.2.q.conds.flatMap enc_api_Cond), .box gb20 48 [.bool true, .string (⟨#[]⟩ : ByteArray), .string (⟨#[]⟩ : ByteArray), .string (⟨#[]⟩ : ByteArray)]]) 3 sz_4 rfl rfl rfl rfl rfl rfl rfl rfl rfl ?_) gn
  refine w_end 2 rfl <| g_front 3 rfl <| g_front 1 rfl <| g_front 3 rfl <| g_front 3 rfl ?_
  exact g_go [0, 0, 1, 2] (j1 r25.2.words r25.2.at_ r25.2.end_ r25.2.q.nodes r25.2.q.conds r25.2.code r25.2.place true h A27 n28 c29 w41 sb45 h30 A31 n32 c33 h34 A36 n37 c38 h39) ⟨rfl, rfl, trivial⟩ (.cons_cons _ (.cons_cons _ (.cons_cons _ (.cons_cons _ (.slnil))))) rfl
 ·have h := if_neg' hp46 h
  refine g_false rfl _ rfl ((bf hp46)) <| g_seq rfl <| g_region rfl rfl <| wl_v 0 rfl (v_move rfl) gn rfl <| wl_v 1 rfl (v_move rfl) gn rfl <| wl_v 2 rfl (v_nilCheck rfl) gn rfl <| wl_v 3 rfl (v_fldB fo_44_1 rfl) gn rfl <| wl_v 4 rfl (v_ldB1 0 ld_3 rfl rfl rfl) gn rfl ?_
  obtain ⟨r373, hv374, h⟩ := h
  refine wl_s 5 rfl (s_call [.pointer (some ⟨g2, 0, none⟩), .int .i64 r25.2.at_, .int .i64 1, .string (⟨#[119, 104, 101, 110]⟩ : ByteArray)] rfl Try.func35 rfl rfl rfl fun w370 hL371 => ?_) gn
  have hp372 := pmI hL371 (.c 0 rfl (.c 1 rfl (.c 2 rfl .n))) (.c 3 rfl .n) (by kernel_rfl)
  refine Calls.mono (query_parser_is_calls w370 (Fl ([Sm w.heap.size F w41 sb45] : List Snap)) r25.2 r25.2.at_ 1 (⟨#[119, 104, 101, 110]⟩ : ByteArray) g2 Tb3 A27 n28 c29 z12 A31 n32 c33 z18 A36 n37 c38 (Rw.mono h30 (hL371.toFl (me 0 rfl) (me 0 rfl))) (Nat.le_trans hz13 hL371.env.size) h34 (Nat.le_trans hz19 hL371.env.size) h39 (hL371.hFl hp372 (sels [0] rfl)) (hL371.into hp372 _) r373 hv374) ?_
  rintro _ w389 ⟨A379, n380, c381, A384, n385, c386, A375, n376, c377, rfl, hM390, h382, h387, h378⟩
  obtain ⟨sb393, hL391, hv392⟩ := hL371.callB (Sl := ([Sm w.heap.size F w41 sb45] : List Snap)) hp372 hM390 F (sels [0] rfl) ⟨Sm.ok, trivial⟩
  have h378 : At k_api_Word (Sm w.heap.size F w389 sb393) A375 n376 c377 r373.2.words := Rw.mono h378 hv392
  refine ⟨_, _, _, rfl, hL391, ?_⟩
  refine wl_v 6 rfl (v_not rfl) gn rfl <| wl_v 7 rfl (v_assign rfl) gn rfl <| w_end 8 rfl ?_
  by_cases hp394 : r373.1 = true
  ·have h := if_pos' hp394 h
   refine g_false rfl _ rfl ((nf hp394)) <| g_skip rfl <| g_front 3 rfl <| g_front 1 rfl <| g_front 3 rfl <| g_front 3 rfl ?_
   exact g_go [0, 1, 2, 3] (j1 r373.2.words r373.2.at_ r373.2.end_ r373.2.q.nodes r373.2.q.conds r373.2.code r373.2.place false h A375 n376 c377 w389 sb393 h378 A379 n380 c381 h382 A384 n385 c386 h387) ⟨rfl, rfl, trivial⟩ (.cons_cons _ (.cons_cons _ (.cons_cons _ (.cons_cons _ (.slnil))))) rfl
  ·have h := if_neg' hp394 h
   refine g_true rfl _ rfl ((nt (bf hp394))) <| g_seq rfl <| g_region rfl rfl <| wl_v 0 rfl (v_move rfl) gn rfl <| wl_v 1 rfl (v_move rfl) gn rfl <| wl_v 2 rfl (v_nilCheck rfl) gn rfl <| wl_v 3 rfl (v_fldB fo_44_1 rfl) gn rfl <| wl_v 4 rfl (v_ldB1 0 ld_3 rfl rfl rfl) gn rfl ?_
   obtain ⟨r398, hv399, h⟩ := h
   refine wl_s 5 rfl (s_call [.pointer (some ⟨g2, 0, none⟩), .int .i64 200, .int .i64 r373.2.at_] rfl Try.func32 rfl rfl rfl fun w395 hL396 => ?_) gn
   have hp397 := pmI hL396 (.c 0 rfl (.c 1 rfl (.c 2 rfl .n))) (.c 3 rfl .n) (by kernel_rfl)
   refine Calls.mono (query_parser_fail_calls w395 (Fl ([Sm w.heap.size F w389 sb393] : List Snap)) r373.2 200 r373.2.at_ g2 Tb3 A375 n376 c377 z12 A379 n380 c381 z18 A384 n385 c386 (Rw.mono h378 (hL396.toFl (me 0 rfl) (me 0 rfl))) (Nat.le_trans hz13 hL396.env.size) h382 (Nat.le_trans hz19 hL396.env.size) h387 (hL396.hFl hp397 (sels [0] rfl)) (hL396.into hp397 _) r398 hv399) ?_
   rintro _ w414 ⟨A404, n405, c406, A409, n410, c411, A400, n401, c402, rfl, hM415, h407, h412, h403⟩
   obtain ⟨sb418, hL416, hv417⟩ := hL396.callB (Sl := ([Sm w.heap.size F w389 sb393] : List Snap)) hp397 hM415 F (sels [0] rfl) ⟨Sm.ok, trivial⟩
   have h403 : At k_api_Word (Sm w.heap.size F w414 sb418) A400 n401 c402 r398.words := Rw.mono h403 hv417
   refine ⟨_, _, _, rfl, hL416, ?_⟩
   refine w_end 6 rfl ?_
   refine g_retR [] rfl Try.func14 rfl (.nil) fun wr hLr => ?_
   have hMr := hLr.pkI (.c 0 rfl (.c 1 rfl (.c 2 rfl .n))) (.c 3 rfl .n) (by kernel_rfl) (.c 4 rfl .n)
   have hMi := hLr.selI (.c 0 rfl (.c 1 rfl (.c 2 rfl .n)))
   show query_parser_cond_R w F g2 Tb3 A8 n9 c10 z12 A14 n15 c16 z18 r (.returned (packV [])) wr
   rw [h]
   exact ⟨A404, n405, c406, A409, n410, c411, A400, n401, c402, rfl, hMr, h407, h412, (hLr.outR (s := Sm w.heap.size F w414 sb418) hMi (me 0 rfl) Sm.ok h403)⟩
noncomputable abbrev q5c16 := Code.snd (Code.snd (Code.snd (Code.snd (Code.snd (Code.snd (bodyOf Try.f5))))))
noncomputable abbrev q5c18 := Code.fst (Code.fst (Code.fst (Code.snd (Code.snd (Code.snd (Code.snd (Code.snd (bodyOf Try.f5))))))))
noncomputable abbrev q5c21 := Code.fst (Code.fst q5c18)
noncomputable abbrev q5c34 := Code.fst (Code.fst (Code.snd (Code.fst q5c16)))
abbrev query_Parse_R (w : World) (F : Nat → Prop) (r : api_Query × Int × Int) : Ending → World → Prop := fun e w' => ∃ A0 : Option Addr, ∃ n0 : Nat, ∃ c0 : Nat, ∃ A1 : Option Addr, ∃ n1 : Nat, ∃ c1 : Nat, e = .returned (.tuple #[.agg #[.slice A0 n0 c0, .slice A1 n1 c1], .int .i64 r.2.1, .int .i64 r.2.2]) ∧ B.Loc w w' [.own (.slice A0 n0 c0) 46 5 n0 (r.1.nodes.flatMap enc_api_PatNode), .own (.slice A1 n1 c1) 48 4 n1 (r.1.conds.flatMap enc_api_Cond)] [St w []] ∧ Ow w.heap.size A0 n0 c0 r.1.nodes ∧ Ow w.heap.size A1 n1 c1 r.1.conds
noncomputable abbrev query_Parse_C (w : World) (F : Nat → Prop) (r : api_Query × Int × Int) : Cx := ⟨Try.prog, 5, Try.f5, 64, query_Parse_R w F  r, w⟩
theorem query_Parse_calls (w : World) (F : Nat → Prop) (x1 : ByteArray) (hF : ∀ b, F b → b < w.heap.size ∧ ∀ o ∈ ([] : List (List Nat)), b ∉ o) (hL0 : B.Loc w w [] [Sm w.heap.size F w [], St w []]) (r : api_Query × Int × Int) (h : query_Parse x1 r) : Calls Try.prog 5 #[.string x1] w (query_Parse_R w F  r) := by
 unfold query_Parse at h
 refine calls_of_Loc (vs := [.string x1]) 64 Try.func5 rfl Try.ntmps5 rfl hL0 ?_
 show G (query_Parse_C w F r) _ _ _ _
 refine g_seq rfl <| g_region rfl rfl ?_
 refine wl_s 0 rfl (s_alloc [.slice none 0 0, .slice none 0 0] zr_25 rfl fun gb2 => ?_) gn
 refine wl_v 1 rfl (v_assign rfl) gn rfl <| wl_v 2 rfl (v_assign rfl) gn rfl <| w_end 3 rfl <| g_seq rfl <| g_region rfl rfl <| wl_v 0 rfl (v_move rfl) gn rfl ?_
 obtain ⟨r7, hv8, h⟩ := h
 refine wl_s 1 rfl (s_call [.string x1] rfl Try.func12 rfl rfl rfl fun w4 hL5 => ?_) gn
 have hp6 := pmI hL5 .n (.c 0 rfl .n) (by kernel_rfl)
 refine Calls.mono (words_Cut_calls w4 (Fl ([] : List Snap)) x1 (hL5.hFl hp6 (sels [] rfl)) (hL5.into hp6 _) r7 hv8) ?_
 rintro _ w14 ⟨A9, n10, c11, rfl, hM15, h12⟩
 have hL16 := hL5.call hp6 hM15
 refine ⟨_, _, _, rfl, hL16, ?_⟩
 refine wl_v 2 rfl (v_move rfl) gn rfl <| wl_v 3 rfl (v_extract rfl rfl) gn rfl <| wl_v 4 rfl (v_extract rfl rfl) gn rfl <| wl_v 5 rfl (v_extract rfl rfl) gn rfl <| wl_v 6 rfl (v_assign rfl) gn rfl <| wl_v 7 rfl (v_assign rfl) gn rfl <| wl_v 8 rfl (v_assign rfl) gn rfl <| w_end 9 rfl <| g_seq rfl <| g_seq rfl <| g_region rfl rfl <| wl_v 0 rfl (v_move rfl) gn rfl ?_
 refine wl_v 1 rfl (v_bin rfl rfl rfl) gn rfl <| w_end 2 rfl ?_
 by_cases hp17 : r7.2.1 = 0
 ·have h := if_pos' hp17 h
  refine g_false rfl _ rfl ((eqib hp17)) <| g_skip rfl <| g_seq rfl <| g_region rfl rfl <| wl_v 0 rfl (v_move rfl) gn rfl <| wl_v 1 rfl (v_move rfl) gn rfl <| wl_v 2 rfl (v_lenS un_9 rfl) gn rfl <| wl_v 3 rfl (v_build #[.slice A9 n10 c11, .int .i64 0, .int .i64 (x1.size : Int), .slice none 0 0, .slice none 0 0, .int .i64 0, .int .i64 0] bd_44 rfl (by kernel_rfl)) gn rfl ?_
  refine wl_s 4 rfl (s_box [.slice A9 n10 c11, .int .i64 0, .int .i64 (x1.size : Int), .slice none 0 0, .slice none 0 0, .int .i64 0, .int .i64 0] rfl rfl rfl fun gb18 => ?_) gn
  refine wl_v 5 rfl (v_assign rfl) gn rfl <| w_end 6 rfl <| g_seq rfl <| g_region rfl rfl <| wl_v 0 rfl (v_move rfl) gn rfl ?_
  obtain ⟨r28, hv29, h⟩ := h
  refine w_freeze (F := F) (dk := k_api_Word) (Sm w.heap.size F w []) 1 rfl (Ow.weak hL5.env.size h12) (me 0 rfl) Sm.ok (Cells.flat _) fun sw24 sb25 h23 => ?_
  refine w_nil 46 5 <| w_nil 48 4 ?_
  refine wl_s 1 rfl (s_call [.pointer (some ⟨gb18, 0, none⟩)] rfl Try.func13 rfl rfl rfl fun w20 hL21 => ?_) gn
  have hp22 := pmI hL21 (.c 2 rfl (.c 1 rfl (.c 0 rfl .n))) (.c 3 rfl .n) (by kernel_rfl)
  refine Calls.mono (query_parser_pattern_calls w20 (Fl ([Sm w.heap.size F sw24 sb25] : List Snap)) (⟨r7.1, 0, (x1.size : Int), (⟨([] : List api_PatNode), ([] : List api_Cond)⟩ : api_Query), 0, 0⟩ : query_parser) gb18 44 A9 n10 c11 w.heap.size none 0 0 w.heap.size none 0 0 (Rw.mono h23 (hL21.toFl (me 0 rfl) (me 0 rfl))) hL21.env.size (Ow.nil (z := w.heap.size)) hL21.env.size (Ow.nil (z := w.heap.size)) (hL21.hFl hp22 (sels [0] rfl)) (hL21.into hp22 _) r28 hv29) ?_
  rintro _ w44 ⟨A34, n35, c36, A39, n40, c41, A30, n31, c32, rfl, hM45, h37, h42, h33⟩
  obtain ⟨sb48, hL46, hv47⟩ := hL21.callB (Sl := ([Sm w.heap.size F sw24 sb25] : List Snap)) hp22 hM45 F (sels [0] rfl) ⟨Sm.ok, trivial⟩
  have h33 : At k_api_Word (Sm w.heap.size F w44 sb48) A30 n31 c32 r28.words := Rw.mono h33 hv47
  refine ⟨_, _, _, rfl, hL46, ?_⟩
  refine w_end 2 rfl <| g_seq rfl <| g_block rfl <| g_loop rfl ?_
  have key1 : ∀ s, Rounds (fun (s : (List api_Word) × Int × Int × (List api_PatNode) × (List api_Cond) × Int × Int) o => query_Parse_b1 s.1 s.2.1 s.2.2.1 s.2.2.2.1 s.2.2.2.2.1 s.2.2.2.2.2.1 s.2.2.2.2.2.2 o) s r → (fun (s : (List api_Word) × Int × Int × (List api_PatNode) × (List api_Cond) × Int × Int) => ∀ (A77 : Option Addr) (n78 : Nat) (c79 : Nat) (sw80 : World) (sb81 : List (List Nat)) (h82 : At k_api_Word (Sm w.heap.size F sw80 sb81) A77 n78 c79 s.1) (A86 : Option Addr) (n87 : Nat) (c88 : Nat) (h89 : Ow w.heap.size A86 n87 c88 s.2.2.2.1) (A91 : Option Addr) (n92 : Nat) (c93 : Nat) (h94 : Ow w.heap.size A91 n92 c93 s.2.2.2.2.1), G (query_Parse_C w F r) [.code q5c18, .inLoop q5c18, .inBlock 0, .code q5c16] [(2, .pointer (some ⟨gb2, 0, none⟩)), (8, .pointer (some ⟨gb18, 0, none⟩))] [.own (.slice A86 n87 c88) 46 5 n87 (s.2.2.2.1.flatMap enc_api_PatNode), .own (.slice A91 n92 c93) 48 4 n92 (s.2.2.2.2.1.flatMap enc_api_Cond), .box gb18 44 [.slice A77 n78 c79, .int .i64 s.2.1, .int .i64 s.2.2.1, .slice A86 n87 c88, .slice A91 n92 c93, .int .i64 s.2.2.2.2.2.1, .int .i64 s.2.2.2.2.2.2], .box gb2 25 [.slice none 0 0, .slice none 0 0]] [Sm w.heap.size F sw80 sb81, Sm w.heap.size F w44 sb48, Sm w.heap.size F sw24 sb25, Sm w.heap.size F w [], St w []]) s := by
   intro s hs
   refine Rounds.ind (mot := (fun (s : (List api_Word) × Int × Int × (List api_PatNode) × (List api_Cond) × Int × Int) => ∀ (A77 : Option Addr) (n78 : Nat) (c79 : Nat) (sw80 : World) (sb81 : List (List Nat)) (h82 : At k_api_Word (Sm w.heap.size F sw80 sb81) A77 n78 c79 s.1) (A86 : Option Addr) (n87 : Nat) (c88 : Nat) (h89 : Ow w.heap.size A86 n87 c88 s.2.2.2.1) (A91 : Option Addr) (n92 : Nat) (c93 : Nat) (h94 : Ow w.heap.size A91 n92 c93 s.2.2.2.2.1), G (query_Parse_C w F r) [.code q5c18, .inLoop q5c18, .inBlock 0, .code q5c16] [(2, .pointer (some ⟨gb2, 0, none⟩)), (8, .pointer (some ⟨gb18, 0, none⟩))] [.own (.slice A86 n87 c88) 46 5 n87 (s.2.2.2.1.flatMap enc_api_PatNode), .own (.slice A91 n92 c93) 48 4 n92 (s.2.2.2.2.1.flatMap enc_api_Cond), .box gb18 44 [.slice A77 n78 c79, .int .i64 s.2.1, .int .i64 s.2.2.1, .slice A86 n87 c88, .slice A91 n92 c93, .int .i64 s.2.2.2.2.2.1, .int .i64 s.2.2.2.2.2.2], .box gb2 25 [.slice none 0 0, .slice none 0 0]] [Sm w.heap.size F sw80 sb81, Sm w.heap.size F w44 sb48, Sm w.heap.size F sw24 sb25, Sm w.heap.size F w [], St w []])) ?_ hs
   clear hs s
   intro s o1 h hO1
   obtain ⟨x76, x83, x84, x85, x90, x95, x96⟩ := s
   show ∀ (A77 : Option Addr) (n78 : Nat) (c79 : Nat) (sw80 : World) (sb81 : List (List Nat)) (h82 : At k_api_Word (Sm w.heap.size F sw80 sb81) A77 n78 c79 x76) (A86 : Option Addr) (n87 : Nat) (c88 : Nat) (h89 : Ow w.heap.size A86 n87 c88 x85) (A91 : Option Addr) (n92 : Nat) (c93 : Nat) (h94 : Ow w.heap.size A91 n92 c93 x90), G (query_Parse_C w F r) [.code q5c18, .inLoop q5c18, .inBlock 0, .code q5c16] [(2, .pointer (some ⟨gb2, 0, none⟩)), (8, .pointer (some ⟨gb18, 0, none⟩))] [.own (.slice A86 n87 c88) 46 5 n87 (x85.flatMap enc_api_PatNode), .own (.slice A91 n92 c93) 48 4 n92 (x90.flatMap enc_api_Cond), .box gb18 44 [.slice A77 n78 c79, .int .i64 x83, .int .i64 x84, .slice A86 n87 c88, .slice A91 n92 c93, .int .i64 x95, .int .i64 x96], .box gb2 25 [.slice none 0 0, .slice none 0 0]] [Sm w.heap.size F sw80 sb81, Sm w.heap.size F w44 sb48, Sm w.heap.size F sw24 sb25, Sm w.heap.size F w [], St w []]
   intro A77 n78 c79 sw80 sb81 h82 A86 n87 c88 h89 A91 n92 c93 h94
   have h : query_Parse_b1 x76 x83 x84 x85 x90 x95 x96 o1 := h
   unfold query_Parse_b1 at h
   refine g_seq rfl <| g_seq rfl ?_
   by_cases hp123 : x95 = 0
   ·have h := if_pos' hp123 h
    have hns : Region.noSelect (Code.ops q5c21) = true := by kernel_rfl
    refine g_drawG [] 17 rfl rfl mix rfl (.c 0 rfl (.c 1 rfl (.c 2 rfl (.c 3 rfl (.c 4 rfl .n))))) <| wfv 0 rfl (v_move rfl) gn hns rfl <| wfv 1 rfl (v_nilCheck rfl) gn hns rfl <| wfv 2 rfl (v_fldB fo_44_4 rfl) gn hns rfl <| wfv 3 rfl (v_ldB1 2 ld_26 rfl rfl rfl) gn hns rfl <| wfv 4 rfl (v_bin rfl rfl rfl) gn hns rfl <| wfv 5 rfl (v_move rfl) gn hns rfl <| wf_bool 32 rfl ((eqi hp123)) <| wfv 6 rfl (v_move rfl) (gy 32 rfl rfl) hns rfl <| wfv 7 rfl (v_nilCheck rfl) (gy 32 rfl rfl) hns rfl <| wfv 8 rfl (v_fldB fo_44_1 rfl) (gy 32 rfl rfl) hns rfl <| wfv 9 rfl (v_ldB1 2 ld_3 rfl rfl rfl) (gy 32 rfl rfl) hns rfl ?_
    refine wfv 10 rfl (v_move rfl) (gy 32 rfl rfl) hns rfl <| wfv 11 rfl (v_nilCheck rfl) (gy 32 rfl rfl) hns rfl <| wfv 12 rfl (v_fldB fo_44_0 rfl) (gy 32 rfl rfl) hns rfl <| wfv 13 rfl (v_ldB1 2 ld_33 rfl rfl rfl) (gy 32 rfl rfl) hns rfl <| wfv 14 rfl (v_lenQ un_33 rfl h82.hq) (gy 32 rfl rfl) hns rfl <| wfv 15 rfl (v_bin rfl rfl rfl) (gy 32 rfl rfl) hns rfl <| wfv 16 rfl (v_pick (b := true) rfl rfl) gn hns rfl <| wf_end (by kernel_rfl) ?_
    by_cases hp124 : x83 < (x76.length : Int)
    ·have h := if_pos' hp124 h
     refine g_true rfl _ rfl ((decide_eq_true hp124)) <| g_skip rfl <| g_block rfl <| g_region rfl rfl <| wl_v 0 rfl (v_move rfl) gn rfl ?_
     obtain ⟨r128, hv129, h⟩ := h
     refine wl_s 1 rfl (s_call [.pointer (some ⟨gb18, 0, none⟩)] rfl Try.func14 rfl rfl rfl fun w125 hL126 => ?_) gn
     have hp127 := pmI hL126 (.c 2 rfl (.c 0 rfl (.c 1 rfl .n))) (.c 3 rfl .n) (by kernel_rfl)
     refine Calls.mono (query_parser_cond_calls w125 (Fl ([Sm w.heap.size F sw80 sb81] : List Snap)) (⟨x76, x83, x84, (⟨x85, x90⟩ : api_Query), x95, x96⟩ : query_parser) gb18 44 A77 n78 c79 w.heap.size A86 n87 c88 w.heap.size A91 n92 c93 (Rw.mono h82 (hL126.toFl (me 0 rfl) (me 0 rfl))) hL126.env.size h89 hL126.env.size h94 (hL126.hFl hp127 (sels [0] rfl)) (hL126.into hp127 _) r128 hv129) ?_
     rintro _ w144 ⟨A134, n135, c136, A139, n140, c141, A130, n131, c132, rfl, hM145, h137, h142, h133⟩
     obtain ⟨sb148, hL146, hv147⟩ := hL126.callB (Sl := ([Sm w.heap.size F sw80 sb81] : List Snap)) hp127 hM145 F (sels [0] rfl) ⟨Sm.ok, trivial⟩
     have h133 : At k_api_Word (Sm w.heap.size F w144 sb148) A130 n131 c132 r128.words := Rw.mono h133 hv147
     refine ⟨_, _, _, rfl, hL146, ?_⟩
     refine w_end 2 rfl <| g_inBlock <| g_inLoop <| g_front 3 rfl <| g_front 1 rfl <| g_front 3 rfl <| g_front 3 rfl ?_
     have ih := Out.inl hO1 h
     exact g_go [0, 2, 3, 4, 5] (ih A130 n131 c132 w144 sb148 h133 A134 n135 c136 h137 A139 n140 c141 h142) ⟨rfl, rfl, trivial⟩ (.cons_cons _ (.cons_cons _ (.cons_cons _ (.cons_cons _ (.slnil))))) rfl
    ·have h := if_neg' hp124 h
     refine g_false rfl _ rfl ((decide_eq_false hp124)) <| g_exit [.code q5c16] rfl rfl <| g_seq rfl <| g_seq rfl <| g_region rfl rfl <| wl_v 0 rfl (v_move rfl) gn rfl <| wl_v 1 rfl (v_nilCheck rfl) gn rfl <| wl_v 2 rfl (v_fldB fo_44_4 rfl) gn rfl <| wl_v 3 rfl (v_ldB1 2 ld_26 rfl rfl rfl) gn rfl <| wl_v 4 rfl (v_bin rfl rfl rfl) gn rfl <| w_end 5 rfl <| g_false rfl _ rfl ((eqib hp123)) ?_
     refine g_skip rfl <| g_seq rfl <| g_region rfl rfl <| wl_v 0 rfl (v_move rfl) gn rfl <| wl_v 1 rfl (v_nilCheck rfl) gn rfl <| wl_v 2 rfl (v_fldB fo_44_3 rfl) gn rfl <| wl_v 3 rfl (v_ldB [.slice A86 n87 c88, .slice A91 n92 c93] 2 ld_25 rfl rfl rfl rfl) gn rfl ?_
     refine wl_s 4 rfl (s_stB (vs := [.slice A86 n87 c88, .slice A91 n92 c93]) (cs' := [.slice A86 n87 c88, .slice A91 n92 c93]) (M' := [.own (.slice A86 n87 c88) 46 5 n87 (x85.flatMap enc_api_PatNode), .own (.slice A91 n92 c93) 48 4 n92 (x90.flatMap enc_api_Cond), .box gb18 44 [.slice A77 n78 c79, .int .i64 x83, .int .i64 x84, .slice A86 n87 c88, .slice A91 n92 c93, .int .i64 x95, .int .i64 x96], .box gb2 25 [.slice A86 n87 c88, .slice A91 n92 c93]]) 3 sz_25 rfl rfl rfl rfl rfl rfl rfl rfl rfl ?_) gn
     refine wl_v 5 rfl (v_assign rfl) gn rfl <| wl_v 6 rfl (v_assign rfl) gn rfl <| w_end 7 rfl ?_
     have h := Out.inr hO1 h
     refine g_retR [.agg #[.slice A86 n87 c88, .slice A91 n92 c93], .int .i64 0, .int .i64 0] rfl Try.func5 rfl (.cell (cs := [.slice A86 n87 c88, .slice A91 n92 c93]) (us := [.slice A86 n87 c88, .slice A91 n92 c93]) 3 rfl ld_25 rfl rfl rfl (.tmp rfl (.tmp rfl (.nil)))) fun wr hLr => ?_
     have hMr := hLr.pkI (.c 0 rfl (.c 1 rfl .n)) (.c 2 rfl (.c 3 rfl .n)) (by kernel_rfl) (.c 4 rfl .n)
     show query_Parse_R w F  r (.returned (packV [.agg #[.slice A86 n87 c88, .slice A91 n92 c93], .int .i64 0, .int .i64 0])) wr
     rw [h]
     exact ⟨A86, n87, c88, A91, n92, c93, rfl, hMr, h89, h94⟩
   ·have h := if_neg' hp123 h
    have hns : Region.noSelect (Code.ops q5c21) = true := by kernel_rfl
    refine g_drawG [] 17 rfl rfl mix rfl (.c 0 rfl (.c 1 rfl (.c 2 rfl (.c 3 rfl (.c 4 rfl .n))))) <| wfv 0 rfl (v_move rfl) gn hns rfl <| wfv 1 rfl (v_nilCheck rfl) gn hns rfl <| wfv 2 rfl (v_fldB fo_44_4 rfl) gn hns rfl <| wfv 3 rfl (v_ldB1 2 ld_26 rfl rfl rfl) gn hns rfl <| wfv 4 rfl (v_bin rfl rfl rfl) gn hns rfl <| wfv 5 rfl (v_move rfl) gn hns rfl <| wf_bool 32 rfl ((nei hp123)) <| wfp 6 rfl (ps 32 rfl rfl rfl) hns rfl <| wfp 7 rfl (ps 32 rfl rfl rfl) hns rfl <| wfp 8 rfl (ps 32 rfl rfl rfl) hns rfl <| wfp 9 rfl (ps 32 rfl rfl rfl) hns rfl ?_
    refine wfp 10 rfl (ps 32 rfl rfl rfl) hns rfl <| wfp 11 rfl (ps 32 rfl rfl rfl) hns rfl <| wfp 12 rfl (ps 32 rfl rfl rfl) hns rfl <| wfp 13 rfl (ps 32 rfl rfl rfl) hns rfl <| wfp 14 rfl (ps 32 rfl rfl rfl) hns rfl <| wfp 15 rfl (ps 32 rfl rfl rfl) hns rfl <| wfv 16 rfl (v_pick (b := false) rfl rfl) gn hns rfl <| wf_end (by kernel_rfl) <| g_false rfl _ rfl (rfl) <| g_exit [.code q5c16] rfl rfl <| g_seq rfl <| g_seq rfl ?_
    refine g_region rfl rfl <| wl_v 0 rfl (v_move rfl) gn rfl <| wl_v 1 rfl (v_nilCheck rfl) gn rfl <| wl_v 2 rfl (v_fldB fo_44_4 rfl) gn rfl <| wl_v 3 rfl (v_ldB1 2 ld_26 rfl rfl rfl) gn rfl <| wl_v 4 rfl (v_bin rfl rfl rfl) gn rfl <| w_end 5 rfl <| g_true rfl _ rfl ((neib hp123)) <| g_seq rfl ?_
    have hns : Region.noSelect (Code.ops q5c34) = true := by kernel_rfl
    refine g_drawF [.own (.slice A86 n87 c88) 46 5 n87 (x85.flatMap enc_api_PatNode), .own (.slice A91 n92 c93) 48 4 n92 (x90.flatMap enc_api_Cond), .box gb18 44 [.slice A77 n78 c79, .int .i64 x83, .int .i64 x84, .slice A86 n87 c88, .slice A91 n92 c93, .int .i64 x95, .int .i64 x96]] [Sm w.heap.size F sw80 sb81, Sm w.heap.size F w44 sb48, Sm w.heap.size F sw24 sb25, Sm w.heap.size F w [], St w []] [] 12 rfl rfl mix rfl (.cons_cons _ (.cons_cons _ (.cons_cons _ (.cons _ (.slnil))))) (sels [0, 1, 2, 3, 4] rfl) <| wfv 0 rfl (v_build #[.slice none 0 0, .slice none 0 0] bd_25 rfl (by kernel_rfl)) gn hns rfl <| wfv 1 rfl (v_move rfl) gn hns rfl <| wfv 2 rfl (v_nilCheck rfl) gn hns rfl <| wfv 3 rfl (v_fldB fo_44_4 rfl) gn hns rfl <| wfv 4 rfl (v_ldB1 2 ld_26 rfl rfl rfl) gn hns rfl <| wfv 5 rfl (v_move rfl) gn hns rfl <| wfv 6 rfl (v_nilCheck rfl) gn hns rfl <| wfv 7 rfl (v_fldB fo_44_5 rfl) gn hns rfl <| wfv 8 rfl (v_ldB1 2 ld_3 rfl rfl rfl) gn hns rfl ?_
    refine wf_all [9] (by kernel_rfl) rfl ⟨on_s 9 rfl gn rfl (s_stB (vs := [.slice none 0 0, .slice none 0 0]) (cs' := [.slice none 0 0, .slice none 0 0]) (M' := [.own (.slice A86 n87 c88) 46 5 n87 (x85.flatMap enc_api_PatNode), .own (.slice A91 n92 c93) 48 4 n92 (x90.flatMap enc_api_Cond), .box gb18 44 [.slice A77 n78 c79, .int .i64 x83, .int .i64 x84, .slice A86 n87 c88, .slice A91 n92 c93, .int .i64 x95, .int .i64 x96], .box gb2 25 [.slice none 0 0, .slice none 0 0]]) 3 sz_25 rfl rfl rfl rfl rfl rfl rfl rfl rfl ?_), trivial⟩
    refine ⟨sels [0, 1, 2] rfl, sels [0, 1, 2, 3, 4] rfl, ?_⟩
    refine wfv 10 rfl (v_assign rfl) gn hns rfl <| wfv 11 rfl (v_assign rfl) gn hns rfl <| wf_end (by kernel_rfl) <| g_nil 46 5 <| g_nil 48 4 ?_
    have h := Out.inr hO1 h
    refine g_retR [.agg #[.slice none 0 0, .slice none 0 0], .int .i64 x95, .int .i64 x96] rfl Try.func5 rfl (.cell (cs := [.slice none 0 0, .slice none 0 0]) (us := [.slice none 0 0, .slice none 0 0]) 5 rfl ld_25 rfl rfl rfl (.tmp rfl (.tmp rfl (.nil)))) fun wr hLr => ?_
    have hMr := hLr.pkI (.c 1 rfl (.c 0 rfl .n)) (.c 2 rfl (.c 3 rfl (.c 4 rfl (.c 5 rfl .n)))) (by kernel_rfl) (.c 4 rfl .n)
    show query_Parse_R w F  r (.returned (packV [.agg #[.slice none 0 0, .slice none 0 0], .int .i64 x95, .int .i64 x96])) wr
    rw [h]
    exact ⟨none, 0, 0, none, 0, 0, rfl, hMr, (Ow.nil (z := w.heap.size)), (Ow.nil (z := w.heap.size))⟩
  refine g_front 3 rfl <| g_front 1 rfl <| g_front 3 rfl <| g_front 3 rfl ?_
  exact g_go [0, 0, 1, 2, 3] (key1 _ h A30 n31 c32 w44 sb48 h33 A34 n35 c36 h37 A39 n40 c41 h42) ⟨rfl, rfl, trivial⟩ (.cons_cons _ (.cons_cons _ (.cons_cons _ (.cons_cons _ (.slnil))))) rfl
 ·have h := if_neg' hp17 h
  refine g_true rfl _ rfl ((neib hp17)) <| g_seq rfl <| g_region rfl rfl <| wl_v 0 rfl (v_build #[.slice none 0 0, .slice none 0 0] bd_25 rfl (by kernel_rfl)) gn rfl <| wl_v 1 rfl (v_move rfl) gn rfl <| wl_v 2 rfl (v_move rfl) gn rfl ?_
  refine wl_s 3 rfl (s_stB (vs := [.slice none 0 0, .slice none 0 0]) (cs' := [.slice none 0 0, .slice none 0 0]) (M' := [.own (.slice A9 n10 c11) 41 4 n10 (r7.1.flatMap enc_api_Word), .box gb2 25 [.slice none 0 0, .slice none 0 0]]) 1 sz_25 rfl rfl rfl rfl rfl rfl rfl rfl rfl ?_) gn
  refine wl_v 4 rfl (v_assign rfl) gn rfl <| wl_v 5 rfl (v_assign rfl) gn rfl <| w_end 6 rfl <| g_nil 46 5 <| g_nil 48 4 ?_
  refine g_retR [.agg #[.slice none 0 0, .slice none 0 0], .int .i64 r7.2.1, .int .i64 r7.2.2] rfl Try.func5 rfl (.cell (cs := [.slice none 0 0, .slice none 0 0]) (us := [.slice none 0 0, .slice none 0 0]) 3 rfl ld_25 rfl rfl rfl (.tmp rfl (.tmp rfl (.nil)))) fun wr hLr => ?_
  have hMr := hLr.pkI (.c 1 rfl (.c 0 rfl .n)) (.c 2 rfl (.c 3 rfl .n)) (by kernel_rfl) (.c 1 rfl .n)
  show query_Parse_R w F  r (.returned (packV [.agg #[.slice none 0 0, .slice none 0 0], .int .i64 r7.2.1, .int .i64 r7.2.2])) wr
  rw [h]
  exact ⟨none, 0, 0, none, 0, 0, rfl, hMr, (Ow.nil (z := w.heap.size)), (Ow.nil (z := w.heap.size))⟩
noncomputable abbrev q6c6 := Code.snd (Code.snd (Code.snd (bodyOf Try.f6)))
noncomputable abbrev q6c10 := Code.fst (Code.fst (Code.snd (Code.fst (Code.snd (Code.snd (bodyOf Try.f6))))))
noncomputable abbrev q6c19 := Code.fst (Code.fst (Code.snd q6c10))
noncomputable abbrev q6c21 := Code.snd q6c6
noncomputable abbrev q6c25 := Code.fst (Code.fst (Code.snd (Code.fst q6c6)))
noncomputable abbrev q6c34 := Code.fst (Code.fst (Code.snd q6c25))
abbrev trellislaw20_twin_R (w : World) (F : Nat → Prop) (r : api_Query) : Ending → World → Prop := fun e w' => ∃ A0 : Option Addr, ∃ n0 : Nat, ∃ c0 : Nat, ∃ A1 : Option Addr, ∃ n1 : Nat, ∃ c1 : Nat, e = .returned (.agg #[.slice A0 n0 c0, .slice A1 n1 c1]) ∧ B.Loc w w' [.own (.slice A0 n0 c0) 46 5 n0 (r.nodes.flatMap enc_api_PatNode), .own (.slice A1 n1 c1) 48 4 n1 (r.conds.flatMap enc_api_Cond)] [St w []] ∧ Ow w.heap.size A0 n0 c0 r.nodes ∧ Ow w.heap.size A1 n1 c1 r.conds
noncomputable abbrev trellislaw20_twin_C (w : World) (F : Nat → Prop) (r : api_Query) : Cx := ⟨Try.prog, 6, Try.f6, 41, trellislaw20_twin_R w F  r, w⟩
theorem trellislaw20_twin_calls (w : World) (F : Nat → Prop) (x1 : api_Query) (A2 : Option Addr) (n3 : Nat) (c4 : Nat) (A6 : Option Addr) (n7 : Nat) (c8 : Nat) (h5 : Rw k_api_PatNode w (St w []).av A2 n3 c4 x1.nodes) (h9 : Rw k_api_Cond w (St w []).av A6 n7 c8 x1.conds) (hF : ∀ b, F b → b < w.heap.size ∧ ∀ o ∈ ([] : List (List Nat)), b ∉ o) (hL0 : B.Loc w w [] [Sm w.heap.size F w [], St w []]) (r : api_Query) (h : trellislaw20_twin x1 r) : Calls Try.prog 6 #[.agg #[.slice A2 n3 c4, .slice A6 n7 c8]] w (trellislaw20_twin_R w F  r) := by
 unfold trellislaw20_twin at h
 refine calls_of_Loc (vs := [.agg #[.slice A2 n3 c4, .slice A6 n7 c8]]) 41 Try.func6 rfl Try.ntmps6 rfl hL0 ?_
 show G (trellislaw20_twin_C w F r) _ _ _ _
 refine g_seq rfl <| g_region rfl rfl ?_
 refine wl_s 0 rfl (s_box [.slice A2 n3 c4, .slice A6 n7 c8] rfl rfl rfl fun gb10 => ?_) gn
 refine wl_s 1 rfl (s_alloc [.slice none 0 0, .slice none 0 0] zr_25 rfl fun gb12 => ?_) gn
 refine w_end 2 rfl <| g_seq rfl <| g_region rfl rfl ?_
 refine wl_s 0 rfl (s_alloc [.slice none 0 0, .slice none 0 0] zr_25 rfl fun gb14 => ?_) gn
 refine w_end 1 rfl <| g_seq rfl <| g_seq rfl <| g_region rfl rfl <| wl_v 0 rfl (v_assign rfl) gn rfl <| w_end 1 rfl <| g_block rfl <| g_loop rfl ?_
 have key1 : ∀ s, Rounds (fun (s : Int × (List api_PatNode)) o => trellislaw20_twin_b1 x1 s.1 s.2 o) s r → (fun (s : Int × (List api_PatNode)) => ∀ (A150 : Option Addr) (n151 : Nat) (c152 : Nat) (h153 : Ow w.heap.size A150 n151 c152 s.2), G (trellislaw20_twin_C w F r) [.code q6c10, .inLoop q6c10, .inBlock 0, .code q6c6] [(1, .pointer (some ⟨gb10, 0, none⟩)), (2, .pointer (some ⟨gb12, 0, none⟩)), (3, .pointer (some ⟨gb14, 0, none⟩)), (4, .int .i64 s.1)] [.own (.slice A150 n151 c152) 46 5 n151 (s.2.flatMap enc_api_PatNode), .box gb14 25 [.slice A150 n151 c152, .slice none 0 0], .box gb12 25 [.slice none 0 0, .slice none 0 0], .box gb10 25 [.slice A2 n3 c4, .slice A6 n7 c8]] [Sm w.heap.size F w [], St w []]) s := by
  intro s hs
  refine Rounds.ind (mot := (fun (s : Int × (List api_PatNode)) => ∀ (A150 : Option Addr) (n151 : Nat) (c152 : Nat) (h153 : Ow w.heap.size A150 n151 c152 s.2), G (trellislaw20_twin_C w F r) [.code q6c10, .inLoop q6c10, .inBlock 0, .code q6c6] [(1, .pointer (some ⟨gb10, 0, none⟩)), (2, .pointer (some ⟨gb12, 0, none⟩)), (3, .pointer (some ⟨gb14, 0, none⟩)), (4, .int .i64 s.1)] [.own (.slice A150 n151 c152) 46 5 n151 (s.2.flatMap enc_api_PatNode), .box gb14 25 [.slice A150 n151 c152, .slice none 0 0], .box gb12 25 [.slice none 0 0, .slice none 0 0], .box gb10 25 [.slice A2 n3 c4, .slice A6 n7 c8]] [Sm w.heap.size F w [], St w []])) ?_ hs
  clear hs s
  intro s o1 h hO1
  obtain ⟨x148, x149⟩ := s
  show ∀ (A150 : Option Addr) (n151 : Nat) (c152 : Nat) (h153 : Ow w.heap.size A150 n151 c152 x149), G (trellislaw20_twin_C w F r) [.code q6c10, .inLoop q6c10, .inBlock 0, .code q6c6] [(1, .pointer (some ⟨gb10, 0, none⟩)), (2, .pointer (some ⟨gb12, 0, none⟩)), (3, .pointer (some ⟨gb14, 0, none⟩)), (4, .int .i64 x148)] [.own (.slice A150 n151 c152) 46 5 n151 (x149.flatMap enc_api_PatNode), .box gb14 25 [.slice A150 n151 c152, .slice none 0 0], .box gb12 25 [.slice none 0 0, .slice none 0 0], .box gb10 25 [.slice A2 n3 c4, .slice A6 n7 c8]] [Sm w.heap.size F w [], St w []]
  intro A150 n151 c152 h153
  have h : trellislaw20_twin_b1 x1 x148 x149 o1 := h
  unfold trellislaw20_twin_b1 at h
  refine g_seq rfl <| g_seq rfl <| g_region rfl rfl <| wl_v 0 rfl (v_move rfl) gn rfl <| wl_v 1 rfl (v_fldB fo_25_0 rfl) gn rfl <| wl_v 2 rfl (v_ldB1 3 ld_22 rfl rfl rfl) gn rfl <| wl_v 3 rfl (v_lenQ un_22 rfl h5.hq) gn rfl <| wl_v 4 rfl (v_bin rfl rfl rfl) gn rfl <| w_end 5 rfl ?_
  by_cases hp279 : x148 < (x1.nodes.length : Int)
  ·have h := if_pos' hp279 h
   refine g_true rfl _ rfl ((decide_eq_true hp279)) <| g_skip rfl <| g_seq rfl <| g_block rfl ?_
   obtain ⟨hb280, h⟩ := h
   obtain ⟨x288, hv289, h⟩ := h
   obtain ⟨hb290, h⟩ := h
   have hns : Region.noSelect (Code.ops q6c19) = true := by kernel_rfl
   refine g_drawG [8, 9, 10] 11 rfl rfl mix rfl (.c 0 rfl (.c 1 rfl .n)) <| wfv 0 rfl (v_fldB fo_25_0 rfl) gn hns (by kernel_rfl) <| wfv 1 rfl (v_ldB1 1 ld_22 rfl rfl rfl) gn hns (by kernel_rfl) <| wfv 2 rfl (v_fldB fo_25_0 rfl) gn hns (by kernel_rfl) <| wfv 3 rfl (v_ldB1 3 ld_22 rfl rfl rfl) gn hns (by kernel_rfl) <| wfv 4 rfl (v_move rfl) gn hns (by kernel_rfl) ?_
   have hr299 := Rw.readF (s := St w []) (hl := hl_api_PatNode) (h1 := h1_api_PatNode) h5 hb280
   refine wfv 5 rfl (v_idxR (s := St w []) slE_22 rfl rfl h5 hb280) gn hns (by kernel_rfl) <| wfv 6 rfl (v_ldA (St w []) ld_46 rfl hr299 rfl (me 1 rfl)) gn hns (by kernel_rfl) ?_
   refine wf_all [7] (by kernel_rfl) rfl ⟨on_s 7 rfl gn rfl (s_litO (xs := ([ix x1.nodes x148] : List api_PatNode)) [.string ((ix x1.nodes x148).name), .bool ((ix x1.nodes x148).lit), .string ((ix x1.nodes x148).field), .string ((ix x1.nodes x148).capture), .int .i64 ((ix x1.nodes x148).kids)] bs_22_1 rfl (by kernel_rfl) rfl rfl rfl rfl fun gb302 h303 => ?_), trivial⟩
   refine ⟨sels [1, 2, 3, 4] rfl, sels [0, 1] rfl, ?_⟩
   refine wf_all [8] (by kernel_rfl) rfl ⟨on_l 8 rfl gn rfl (s_app (zs := x288) (cells' := x288.flatMap enc_api_PatNode) 1 ap_22 rfl rfl rfl h153 (Nat.le_refl _) (Src.ownF (hl := hl_api_PatNode) (h1 := h1_api_PatNode) 0 rfl h303) (by rw [hv289, List.flatMap_append] <;> rfl) (app_len hv289 h303.hq) hb290 rfl rfl fun A304 c305 h306 => ?_), trivial⟩
   unfold NxL
   refine wf_all [9] (by kernel_rfl) rfl ⟨on_l 9 rfl gn rfl (s_val (v_fldB fo_25_0 rfl) rfl ?_), trivial⟩
   unfold NxL
   refine wf_all [10] (by kernel_rfl) rfl ⟨on_l 10 rfl gn rfl (s_stB (vs := [.slice A304 (n151 + 1) c305]) (cs' := [.slice A304 (n151 + 1) c305, .slice none 0 0]) (M' := [.own (.slice (some ⟨gb302, 0, none⟩) 1 1) 46 5 1 (([ix x1.nodes x148] : List api_PatNode).flatMap enc_api_PatNode), .own (.slice A304 (n151 + 1) c305) 46 5 (n151 + 1) (x288.flatMap enc_api_PatNode), .box gb14 25 [.slice A304 (n151 + 1) c305, .slice none 0 0], .box gb12 25 [.slice none 0 0, .slice none 0 0], .box gb10 25 [.slice A2 n3 c4, .slice A6 n7 c8]]) 2 sz_22 rfl rfl rfl rfl rfl rfl rfl rfl rfl ?_), trivial⟩
   unfold NxL
   refine wf_end (by kernel_rfl) <| g_inBlock <| g_region rfl rfl <| wl_v 0 rfl (v_move rfl) gn rfl <| wl_v 1 rfl (v_bin rfl rfl rfl) gn rfl <| wl_v 2 rfl (v_assign rfl) gn rfl <| w_end 3 rfl <| g_inLoop ?_
   have ih := Out.inl hO1 h
   exact g_go [0, 1] (ih A304 (n151 + 1) c305 h306) ⟨rfl, rfl, rfl, rfl, trivial⟩ (.cons _ (.cons_cons _ (.cons_cons _ (.cons_cons _ (.cons_cons _ (.slnil)))))) rfl
  ·have h := if_neg' hp279 h
   refine g_false rfl _ rfl ((decide_eq_false hp279)) <| g_exit [.code q6c6] rfl rfl <| g_seq rfl <| g_seq rfl <| g_region rfl rfl <| wl_v 0 rfl (v_assign rfl) gn rfl <| w_end 1 rfl <| g_block rfl <| g_loop rfl ?_
   have key2 : ∀ s, Rounds (fun (s : Int × (List api_Cond)) o => trellislaw20_twin_b2 x1 x149 s.1 s.2 o) s o1 → (fun (s : Int × (List api_Cond)) => ∀ (A344 : Option Addr) (n345 : Nat) (c346 : Nat) (h347 : Ow w.heap.size A344 n345 c346 s.2), G (trellislaw20_twin_C w F r) [.code q6c25, .inLoop q6c25, .inBlock 2, .code q6c21] [(1, .pointer (some ⟨gb10, 0, none⟩)), (2, .pointer (some ⟨gb12, 0, none⟩)), (3, .pointer (some ⟨gb14, 0, none⟩)), (5, .int .i64 s.1)] [.own (.slice A344 n345 c346) 48 4 n345 (s.2.flatMap enc_api_Cond), .own (.slice A150 n151 c152) 46 5 n151 (x149.flatMap enc_api_PatNode), .box gb14 25 [.slice A150 n151 c152, .slice A344 n345 c346], .box gb12 25 [.slice none 0 0, .slice none 0 0], .box gb10 25 [.slice A2 n3 c4, .slice A6 n7 c8]] [Sm w.heap.size F w [], St w []]) s := by
    intro s hs
    refine Rounds.ind (mot := (fun (s : Int × (List api_Cond)) => ∀ (A344 : Option Addr) (n345 : Nat) (c346 : Nat) (h347 : Ow w.heap.size A344 n345 c346 s.2), G (trellislaw20_twin_C w F r) [.code q6c25, .inLoop q6c25, .inBlock 2, .code q6c21] [(1, .pointer (some ⟨gb10, 0, none⟩)), (2, .pointer (some ⟨gb12, 0, none⟩)), (3, .pointer (some ⟨gb14, 0, none⟩)), (5, .int .i64 s.1)] [.own (.slice A344 n345 c346) 48 4 n345 (s.2.flatMap enc_api_Cond), .own (.slice A150 n151 c152) 46 5 n151 (x149.flatMap enc_api_PatNode), .box gb14 25 [.slice A150 n151 c152, .slice A344 n345 c346], .box gb12 25 [.slice none 0 0, .slice none 0 0], .box gb10 25 [.slice A2 n3 c4, .slice A6 n7 c8]] [Sm w.heap.size F w [], St w []])) ?_ hs
    clear hs s
    intro s o2 h hO2
    obtain ⟨x342, x343⟩ := s
    show ∀ (A344 : Option Addr) (n345 : Nat) (c346 : Nat) (h347 : Ow w.heap.size A344 n345 c346 x343), G (trellislaw20_twin_C w F r) [.code q6c25, .inLoop q6c25, .inBlock 2, .code q6c21] [(1, .pointer (some ⟨gb10, 0, none⟩)), (2, .pointer (some ⟨gb12, 0, none⟩)), (3, .pointer (some ⟨gb14, 0, none⟩)), (5, .int .i64 x342)] [.own (.slice A344 n345 c346) 48 4 n345 (x343.flatMap enc_api_Cond), .own (.slice A150 n151 c152) 46 5 n151 (x149.flatMap enc_api_PatNode), .box gb14 25 [.slice A150 n151 c152, .slice A344 n345 c346], .box gb12 25 [.slice none 0 0, .slice none 0 0], .box gb10 25 [.slice A2 n3 c4, .slice A6 n7 c8]] [Sm w.heap.size F w [], St w []]
    intro A344 n345 c346 h347
    have h : trellislaw20_twin_b2 x1 x149 x342 x343 o2 := h
    unfold trellislaw20_twin_b2 at h
    refine g_seq rfl <| g_seq rfl <| g_region rfl rfl <| wl_v 0 rfl (v_move rfl) gn rfl <| wl_v 1 rfl (v_fldB fo_25_1 rfl) gn rfl <| wl_v 2 rfl (v_ldB1 4 ld_23 rfl rfl rfl) gn rfl <| wl_v 3 rfl (v_lenQ un_23 rfl h9.hq) gn rfl <| wl_v 4 rfl (v_bin rfl rfl rfl) gn rfl <| w_end 5 rfl ?_
    by_cases hp376 : x342 < (x1.conds.length : Int)
    ·have h := if_pos' hp376 h
     refine g_true rfl _ rfl ((decide_eq_true hp376)) <| g_skip rfl <| g_seq rfl <| g_block rfl ?_
     obtain ⟨hb377, h⟩ := h
     obtain ⟨x385, hv386, h⟩ := h
     obtain ⟨hb387, h⟩ := h
     have hns : Region.noSelect (Code.ops q6c34) = true := by kernel_rfl
     refine g_drawG [8, 9, 10] 11 rfl rfl mix rfl (.c 0 rfl (.c 1 rfl .n)) <| wfv 0 rfl (v_fldB fo_25_1 rfl) gn hns (by kernel_rfl) <| wfv 1 rfl (v_ldB1 2 ld_23 rfl rfl rfl) gn hns (by kernel_rfl) <| wfv 2 rfl (v_fldB fo_25_1 rfl) gn hns (by kernel_rfl) <| wfv 3 rfl (v_ldB1 4 ld_23 rfl rfl rfl) gn hns (by kernel_rfl) <| wfv 4 rfl (v_move rfl) gn hns (by kernel_rfl) ?_
     have hr396 := Rw.readF (s := St w []) (hl := hl_api_Cond) (h1 := h1_api_Cond) h9 hb377
     refine wfv 5 rfl (v_idxR (s := St w []) slE_23 rfl rfl h9 hb377) gn hns (by kernel_rfl) <| wfv 6 rfl (v_ldA (St w []) ld_48 rfl hr396 rfl (me 1 rfl)) gn hns (by kernel_rfl) ?_
     refine wf_all [7] (by kernel_rfl) rfl ⟨on_s 7 rfl gn rfl (s_litO (xs := ([ix x1.conds x342] : List api_Cond)) [.bool ((ix x1.conds x342).not), .string ((ix x1.conds x342).a), .string ((ix x1.conds x342).b), .string ((ix x1.conds x342).text)] bs_23_1 rfl (by kernel_rfl) rfl rfl rfl rfl fun gb399 h400 => ?_), trivial⟩
     refine ⟨sels [1, 2, 3, 4, 5] rfl, sels [0, 1] rfl, ?_⟩
     refine wf_all [8] (by kernel_rfl) rfl ⟨on_l 8 rfl gn rfl (s_app (zs := x385) (cells' := x385.flatMap enc_api_Cond) 1 ap_23 rfl rfl rfl h347 (Nat.le_refl _) (Src.ownF (hl := hl_api_Cond) (h1 := h1_api_Cond) 0 rfl h400) (by rw [hv386, List.flatMap_append] <;> rfl) (app_len hv386 h400.hq) hb387 rfl rfl fun A401 c402 h403 => ?_), trivial⟩
     unfold NxL
     refine wf_all [9] (by kernel_rfl) rfl ⟨on_l 9 rfl gn rfl (s_val (v_fldB fo_25_1 rfl) rfl ?_), trivial⟩
     unfold NxL
     refine wf_all [10] (by kernel_rfl) rfl ⟨on_l 10 rfl gn rfl (s_stB (vs := [.slice A401 (n345 + 1) c402]) (cs' := [.slice A150 n151 c152, .slice A401 (n345 + 1) c402]) (M' := [.own (.slice (some ⟨gb399, 0, none⟩) 1 1) 48 4 1 (([ix x1.conds x342] : List api_Cond).flatMap enc_api_Cond), .own (.slice A401 (n345 + 1) c402) 48 4 (n345 + 1) (x385.flatMap enc_api_Cond), .own (.slice A150 n151 c152) 46 5 n151 (x149.flatMap enc_api_PatNode), .box gb14 25 [.slice A150 n151 c152, .slice A401 (n345 + 1) c402], .box gb12 25 [.slice none 0 0, .slice none 0 0], .box gb10 25 [.slice A2 n3 c4, .slice A6 n7 c8]]) 3 sz_23 rfl rfl rfl rfl rfl rfl rfl rfl rfl ?_), trivial⟩
     unfold NxL
     refine wf_end (by kernel_rfl) <| g_inBlock <| g_region rfl rfl <| wl_v 0 rfl (v_move rfl) gn rfl <| wl_v 1 rfl (v_bin rfl rfl rfl) gn rfl <| wl_v 2 rfl (v_assign rfl) gn rfl <| w_end 3 rfl <| g_inLoop ?_
     have ih := Out.inl hO2 h
     exact g_go [0, 1] (ih A401 (n345 + 1) c402 h403) ⟨rfl, rfl, rfl, rfl, trivial⟩ (.cons _ (.cons_cons _ (.cons_cons _ (.cons_cons _ (.cons_cons _ (.cons_cons _ (.slnil))))))) rfl
    ·have h := if_neg' hp376 h
     refine g_false rfl _ rfl ((decide_eq_false hp376)) <| g_exit [.code q6c21] rfl rfl <| g_seq rfl <| g_region rfl rfl <| wl_v 0 rfl (v_ldB [.slice A150 n151 c152, .slice A344 n345 c346] 2 ld_25 rfl rfl rfl rfl) gn rfl ?_
     refine wl_s 1 rfl (s_stB (vs := [.slice A150 n151 c152, .slice A344 n345 c346]) (cs' := [.slice A150 n151 c152, .slice A344 n345 c346]) (M' := [.own (.slice A344 n345 c346) 48 4 n345 (x343.flatMap enc_api_Cond), .own (.slice A150 n151 c152) 46 5 n151 (x149.flatMap enc_api_PatNode), .box gb14 25 [.slice A150 n151 c152, .slice A344 n345 c346], .box gb12 25 [.slice A150 n151 c152, .slice A344 n345 c346], .box gb10 25 [.slice A2 n3 c4, .slice A6 n7 c8]]) 3 sz_25 rfl rfl rfl rfl rfl rfl rfl rfl rfl ?_) gn
     refine w_end 2 rfl ?_
     have h := Out.inr hO2 h
     have h := Out.inr hO1 h
     refine g_retR [.agg #[.slice A150 n151 c152, .slice A344 n345 c346]] rfl Try.func6 rfl (.cell (cs := [.slice A150 n151 c152, .slice A344 n345 c346]) (us := [.slice A150 n151 c152, .slice A344 n345 c346]) 3 rfl ld_25 rfl rfl rfl (.nil)) fun wr hLr => ?_
     have hMr := hLr.pkI (.c 1 rfl (.c 0 rfl .n)) (.c 2 rfl (.c 3 rfl (.c 4 rfl .n))) (by kernel_rfl) (.c 1 rfl .n)
     show trellislaw20_twin_R w F  r (.returned (packV [.agg #[.slice A150 n151 c152, .slice A344 n345 c346]])) wr
     rw [h]
     exact ⟨A150, n151, c152, A344, n345, c346, rfl, hMr, h153, h347⟩
   refine g_nil 48 4 ?_
   exact g_go [0, 1] (key2 _ h none 0 0 (Ow.nil (z := w.heap.size))) ⟨rfl, rfl, rfl, rfl, trivial⟩ (.cons_cons _ (.cons_cons _ (.cons_cons _ (.cons_cons _ (.cons_cons _ (.slnil)))))) rfl
 refine g_nil 46 5 ?_
 exact g_go [0, 1] (key1 _ h none 0 0 (Ow.nil (z := w.heap.size))) ⟨rfl, rfl, rfl, rfl, trivial⟩ (.cons_cons _ (.cons_cons _ (.cons_cons _ (.cons_cons _ (.slnil))))) rfl
noncomputable abbrev q7c4 := Code.snd (Code.snd (bodyOf Try.f7))
noncomputable abbrev q7c6 := Code.snd (Code.fst (Code.snd (bodyOf Try.f7)))
noncomputable abbrev q7c12 := Code.snd q7c4
noncomputable abbrev q7c16 := Code.fst (Code.fst (Code.snd (Code.fst q7c4)))
noncomputable abbrev q7c26 := Code.fst (Code.fst (Code.fst (Code.snd q7c16)))
noncomputable abbrev q7c33 := Code.snd q7c12
noncomputable abbrev q7c37 := Code.fst (Code.fst (Code.snd (Code.fst q7c12)))
noncomputable abbrev q7c47 := Code.fst (Code.fst (Code.fst (Code.snd q7c37)))
abbrev trellislaw20_same_R (w : World) (F : Nat → Prop) (r : Bool) : Ending → World → Prop := fun e w' => e = .returned (.bool r) ∧ B.Loc w w' [] [St w []]
noncomputable abbrev trellislaw20_same_C (w : World) (F : Nat → Prop) (r : Bool) : Cx := ⟨Try.prog, 7, Try.f7, 59, trellislaw20_same_R w F  r, w⟩
theorem trellislaw20_same_calls (w : World) (F : Nat → Prop) (x1 : api_Query) (x10 : api_Query) (A2 : Option Addr) (n3 : Nat) (c4 : Nat) (A6 : Option Addr) (n7 : Nat) (c8 : Nat) (A11 : Option Addr) (n12 : Nat) (c13 : Nat) (A15 : Option Addr) (n16 : Nat) (c17 : Nat) (h5 : Rw k_api_PatNode w (St w []).av A2 n3 c4 x1.nodes) (h9 : Rw k_api_Cond w (St w []).av A6 n7 c8 x1.conds) (h14 : Rw k_api_PatNode w (St w []).av A11 n12 c13 x10.nodes) (h18 : Rw k_api_Cond w (St w []).av A15 n16 c17 x10.conds) (hF : ∀ b, F b → b < w.heap.size ∧ ∀ o ∈ ([] : List (List Nat)), b ∉ o) (hL0 : B.Loc w w [] [Sm w.heap.size F w [], St w []]) (r : Bool) (h : trellislaw20_same x1 x10 r) : Calls Try.prog 7 #[.agg #[.slice A2 n3 c4, .slice A6 n7 c8], .agg #[.slice A11 n12 c13, .slice A15 n16 c17]] w (trellislaw20_same_R w F  r) := by
 unfold trellislaw20_same at h
 refine calls_of_Loc (vs := [.agg #[.slice A2 n3 c4, .slice A6 n7 c8], .agg #[.slice A11 n12 c13, .slice A15 n16 c17]]) 59 Try.func7 rfl Try.ntmps7 rfl hL0 ?_
 show G (trellislaw20_same_C w F r) _ _ _ _
 refine g_seq rfl <| g_region rfl rfl ?_
 refine wl_s 0 rfl (s_box [.slice A2 n3 c4, .slice A6 n7 c8] rfl rfl rfl fun gb19 => ?_) gn
 refine wl_s 1 rfl (s_box [.slice A11 n12 c13, .slice A15 n16 c17] rfl rfl rfl fun gb21 => ?_) gn
 refine wl_v 2 rfl (v_assign rfl) gn rfl <| w_end 3 rfl <| g_seq rfl <| g_seq rfl ?_
 have j1 : ∀ (x25 : Bool) (h : trellislaw20_same_j1 x1 x10 x25 r) , G (trellislaw20_same_C w F r) [.code q7c6, .code q7c4] [(2, .pointer (some ⟨gb19, 0, none⟩)), (3, .pointer (some ⟨gb21, 0, none⟩)), (22, .bool x25)] [.box gb21 25 [.slice A11 n12 c13, .slice A15 n16 c17], .box gb19 25 [.slice A2 n3 c4, .slice A6 n7 c8]] [Sm w.heap.size F w [], St w []] := by
  intro x25 h
  unfold trellislaw20_same_j1 at h
  by_cases hp26 : x25 = true
  ·have h := if_pos' hp26 h
   refine g_true rfl _ rfl (hp26) <| g_seq rfl <| g_region rfl rfl <| wl_v 0 rfl (v_assign rfl) gn rfl <| w_end 1 rfl ?_
   refine g_retR [.bool false] rfl Try.func7 rfl (.tmp rfl (.nil)) fun wr hLr => ?_
   have hMr := hLr.pk0 (.c 1 rfl .n)
   show trellislaw20_same_R w F  r (.returned (packV [.bool false])) wr
   rw [h]
   exact ⟨rfl, hMr⟩
  ·have h := if_neg' hp26 h
   refine g_false rfl _ rfl ((bf hp26)) <| g_skip rfl <| g_seq rfl <| g_seq rfl <| g_region rfl rfl <| wl_v 0 rfl (v_assign rfl) gn rfl <| w_end 1 rfl <| g_block rfl <| g_loop rfl ?_
   have key2 : ∀ s, Rounds (fun (s : Int) o => trellislaw20_same_b2 x1 x10 s o) s r → (fun (s : Int) => ∀ (_ : Unit), G (trellislaw20_same_C w F r) [.code q7c16, .inLoop q7c16, .inBlock 0, .code q7c12] [(2, .pointer (some ⟨gb19, 0, none⟩)), (3, .pointer (some ⟨gb21, 0, none⟩)), (5, .int .i64 s)] [.box gb21 25 [.slice A11 n12 c13, .slice A15 n16 c17], .box gb19 25 [.slice A2 n3 c4, .slice A6 n7 c8]] [Sm w.heap.size F w [], St w []]) s := by
    intro s hs
    refine Rounds.ind (mot := (fun (s : Int) => ∀ (_ : Unit), G (trellislaw20_same_C w F r) [.code q7c16, .inLoop q7c16, .inBlock 0, .code q7c12] [(2, .pointer (some ⟨gb19, 0, none⟩)), (3, .pointer (some ⟨gb21, 0, none⟩)), (5, .int .i64 s)] [.box gb21 25 [.slice A11 n12 c13, .slice A15 n16 c17], .box gb19 25 [.slice A2 n3 c4, .slice A6 n7 c8]] [Sm w.heap.size F w [], St w []])) ?_ hs
    clear hs s
    intro x70 o1 h hO1
    show ∀ (_ : Unit), G (trellislaw20_same_C w F r) [.code q7c16, .inLoop q7c16, .inBlock 0, .code q7c12] [(2, .pointer (some ⟨gb19, 0, none⟩)), (3, .pointer (some ⟨gb21, 0, none⟩)), (5, .int .i64 x70)] [.box gb21 25 [.slice A11 n12 c13, .slice A15 n16 c17], .box gb19 25 [.slice A2 n3 c4, .slice A6 n7 c8]] [Sm w.heap.size F w [], St w []]
    intro _
    have h : trellislaw20_same_b2 x1 x10 x70 o1 := h
    unfold trellislaw20_same_b2 at h
    refine g_seq rfl <| g_seq rfl <| g_region rfl rfl <| wl_v 0 rfl (v_move rfl) gn rfl <| wl_v 1 rfl (v_fldB fo_25_0 rfl) gn rfl <| wl_v 2 rfl (v_ldB1 1 ld_22 rfl rfl rfl) gn rfl <| wl_v 3 rfl (v_lenQ un_22 rfl h5.hq) gn rfl <| wl_v 4 rfl (v_bin rfl rfl rfl) gn rfl <| w_end 5 rfl ?_
    by_cases hp113 : x70 < (x1.nodes.length : Int)
    ·have h := if_pos' hp113 h
     refine g_true rfl _ rfl ((decide_eq_true hp113)) <| g_skip rfl <| g_seq rfl <| g_block rfl <| g_seq rfl ?_
     obtain ⟨hb114, h⟩ := h
     obtain ⟨hb116, h⟩ := h
     have hns : Region.noSelect (Code.ops q7c26) = true := by kernel_rfl
     refine g_drawG [] 11 rfl rfl mix rfl (.c 0 rfl (.c 1 rfl .n)) <| wfv 0 rfl (v_fldB fo_25_0 rfl) gn hns rfl <| wfv 1 rfl (v_ldB1 1 ld_22 rfl rfl rfl) gn hns rfl <| wfv 2 rfl (v_move rfl) gn hns rfl ?_
     have hr120 := Rw.readF (s := St w []) (hl := hl_api_PatNode) (h1 := h1_api_PatNode) h5 hb114
     refine wfv 3 rfl (v_idxR (s := St w []) slE_22 rfl rfl h5 hb114) gn hns rfl <| wfv 4 rfl (v_ldA (St w []) ld_46 rfl hr120 rfl (me 1 rfl)) gn hns rfl <| wfv 5 rfl (v_fldB fo_25_0 rfl) gn hns rfl <| wfv 6 rfl (v_ldB1 0 ld_22 rfl rfl rfl) gn hns rfl <| wfv 7 rfl (v_move rfl) gn hns rfl ?_
     have hr121 := Rw.readF (s := St w []) (hl := hl_api_PatNode) (h1 := h1_api_PatNode) h14 hb116
     refine wfv 8 rfl (v_idxR (s := St w []) slE_22 rfl rfl h14 hb116) gn hns rfl <| wfv 9 rfl (v_ldA (St w []) ld_46 rfl hr121 rfl (me 1 rfl)) gn hns rfl <| wfv 10 rfl (v_neSt eq_46 rfl rfl (eqd_api_PatNode (ix x1.nodes x70) (ix x10.nodes x70))) gn hns rfl <| wf_end (by kernel_rfl) ?_
     by_cases hp122 : ix x1.nodes x70 = ix x10.nodes x70
     ·have h := if_pos' hp122 h
      refine g_false rfl _ rfl ((nf (decide_eq_true hp122))) <| g_skip rfl <| g_inBlock <| g_region rfl rfl <| wl_v 0 rfl (v_move rfl) gn rfl <| wl_v 1 rfl (v_bin rfl rfl rfl) gn rfl <| wl_v 2 rfl (v_assign rfl) gn rfl <| w_end 3 rfl <| g_inLoop ?_
      have ih := Out.inl hO1 h
      exact g_go [0, 1] (ih ()) ⟨rfl, rfl, rfl, trivial⟩ (.cons_cons _ (.cons_cons _ (.slnil))) rfl
     ·have h := if_neg' hp122 h
      refine g_true rfl _ rfl ((nt (decide_eq_false hp122))) <| g_seq rfl <| g_region rfl rfl <| wl_v 0 rfl (v_assign rfl) gn rfl <| w_end 1 rfl ?_
      have h := Out.inr hO1 h
      refine g_retR [.bool false] rfl Try.func7 rfl (.tmp rfl (.nil)) fun wr hLr => ?_
      have hMr := hLr.pk0 (.c 1 rfl .n)
      show trellislaw20_same_R w F  r (.returned (packV [.bool false])) wr
      rw [h]
      exact ⟨rfl, hMr⟩
    ·have h := if_neg' hp113 h
     refine g_false rfl _ rfl ((decide_eq_false hp113)) <| g_exit [.code q7c12] rfl rfl <| g_seq rfl <| g_seq rfl <| g_region rfl rfl <| wl_v 0 rfl (v_assign rfl) gn rfl <| w_end 1 rfl <| g_block rfl <| g_loop rfl ?_
     have key3 : ∀ s, Rounds (fun (s : Int) o => trellislaw20_same_b3 x1 x10 s o) s o1 → (fun (s : Int) => ∀ (_ : Unit), G (trellislaw20_same_C w F r) [.code q7c37, .inLoop q7c37, .inBlock 2, .code q7c33] [(2, .pointer (some ⟨gb19, 0, none⟩)), (3, .pointer (some ⟨gb21, 0, none⟩)), (6, .int .i64 s)] [.box gb21 25 [.slice A11 n12 c13, .slice A15 n16 c17], .box gb19 25 [.slice A2 n3 c4, .slice A6 n7 c8]] [Sm w.heap.size F w [], St w []]) s := by
      intro s hs
      refine Rounds.ind (mot := (fun (s : Int) => ∀ (_ : Unit), G (trellislaw20_same_C w F r) [.code q7c37, .inLoop q7c37, .inBlock 2, .code q7c33] [(2, .pointer (some ⟨gb19, 0, none⟩)), (3, .pointer (some ⟨gb21, 0, none⟩)), (6, .int .i64 s)] [.box gb21 25 [.slice A11 n12 c13, .slice A15 n16 c17], .box gb19 25 [.slice A2 n3 c4, .slice A6 n7 c8]] [Sm w.heap.size F w [], St w []])) ?_ hs
      clear hs s
      intro x134 o2 h hO2
      show ∀ (_ : Unit), G (trellislaw20_same_C w F r) [.code q7c37, .inLoop q7c37, .inBlock 2, .code q7c33] [(2, .pointer (some ⟨gb19, 0, none⟩)), (3, .pointer (some ⟨gb21, 0, none⟩)), (6, .int .i64 x134)] [.box gb21 25 [.slice A11 n12 c13, .slice A15 n16 c17], .box gb19 25 [.slice A2 n3 c4, .slice A6 n7 c8]] [Sm w.heap.size F w [], St w []]
      intro _
      have h : trellislaw20_same_b3 x1 x10 x134 o2 := h
      unfold trellislaw20_same_b3 at h
      refine g_seq rfl <| g_seq rfl <| g_region rfl rfl <| wl_v 0 rfl (v_move rfl) gn rfl <| wl_v 1 rfl (v_fldB fo_25_1 rfl) gn rfl <| wl_v 2 rfl (v_ldB1 1 ld_23 rfl rfl rfl) gn rfl <| wl_v 3 rfl (v_lenQ un_23 rfl h9.hq) gn rfl <| wl_v 4 rfl (v_bin rfl rfl rfl) gn rfl <| w_end 5 rfl ?_
      by_cases hp145 : x134 < (x1.conds.length : Int)
      ·have h := if_pos' hp145 h
       refine g_true rfl _ rfl ((decide_eq_true hp145)) <| g_skip rfl <| g_seq rfl <| g_block rfl <| g_seq rfl ?_
       obtain ⟨hb146, h⟩ := h
       obtain ⟨hb148, h⟩ := h
       have hns : Region.noSelect (Code.ops q7c47) = true := by kernel_rfl
       refine g_drawG [] 11 rfl rfl mix rfl (.c 0 rfl (.c 1 rfl .n)) <| wfv 0 rfl (v_fldB fo_25_1 rfl) gn hns rfl <| wfv 1 rfl (v_ldB1 1 ld_23 rfl rfl rfl) gn hns rfl <| wfv 2 rfl (v_move rfl) gn hns rfl ?_
       have hr152 := Rw.readF (s := St w []) (hl := hl_api_Cond) (h1 := h1_api_Cond) h9 hb146
       refine wfv 3 rfl (v_idxR (s := St w []) slE_23 rfl rfl h9 hb146) gn hns rfl <| wfv 4 rfl (v_ldA (St w []) ld_48 rfl hr152 rfl (me 1 rfl)) gn hns rfl <| wfv 5 rfl (v_fldB fo_25_1 rfl) gn hns rfl <| wfv 6 rfl (v_ldB1 0 ld_23 rfl rfl rfl) gn hns rfl <| wfv 7 rfl (v_move rfl) gn hns rfl ?_
       have hr153 := Rw.readF (s := St w []) (hl := hl_api_Cond) (h1 := h1_api_Cond) h18 hb148
       refine wfv 8 rfl (v_idxR (s := St w []) slE_23 rfl rfl h18 hb148) gn hns rfl <| wfv 9 rfl (v_ldA (St w []) ld_48 rfl hr153 rfl (me 1 rfl)) gn hns rfl <| wfv 10 rfl (v_neSt eq_48 rfl rfl (eqd_api_Cond (ix x1.conds x134) (ix x10.conds x134))) gn hns rfl <| wf_end (by kernel_rfl) ?_
       by_cases hp154 : ix x1.conds x134 = ix x10.conds x134
       ·have h := if_pos' hp154 h
        refine g_false rfl _ rfl ((nf (decide_eq_true hp154))) <| g_skip rfl <| g_inBlock <| g_region rfl rfl <| wl_v 0 rfl (v_move rfl) gn rfl <| wl_v 1 rfl (v_bin rfl rfl rfl) gn rfl <| wl_v 2 rfl (v_assign rfl) gn rfl <| w_end 3 rfl <| g_inLoop ?_
        have ih := Out.inl hO2 h
        exact g_go [0, 1] (ih ()) ⟨rfl, rfl, rfl, trivial⟩ (.cons_cons _ (.cons_cons _ (.slnil))) rfl
       ·have h := if_neg' hp154 h
        refine g_true rfl _ rfl ((nt (decide_eq_false hp154))) <| g_seq rfl <| g_region rfl rfl <| wl_v 0 rfl (v_assign rfl) gn rfl <| w_end 1 rfl ?_
        have h := Out.inr hO2 h
        have h := Out.inr hO1 h
        refine g_retR [.bool false] rfl Try.func7 rfl (.tmp rfl (.nil)) fun wr hLr => ?_
        have hMr := hLr.pk0 (.c 1 rfl .n)
        show trellislaw20_same_R w F  r (.returned (packV [.bool false])) wr
        rw [h]
        exact ⟨rfl, hMr⟩
      ·have h := if_neg' hp145 h
       refine g_false rfl _ rfl ((decide_eq_false hp145)) <| g_exit [.code q7c33] rfl rfl <| g_seq rfl <| g_region rfl rfl <| wl_v 0 rfl (v_assign rfl) gn rfl <| w_end 1 rfl ?_
       have h := Out.inr hO2 h
       have h := Out.inr hO1 h
       refine g_retR [.bool true] rfl Try.func7 rfl (.tmp rfl (.nil)) fun wr hLr => ?_
       have hMr := hLr.pk0 (.c 1 rfl .n)
       show trellislaw20_same_R w F  r (.returned (packV [.bool true])) wr
       rw [h]
       exact ⟨rfl, hMr⟩
     exact g_go [0, 1] (key3 _ h ()) ⟨rfl, rfl, rfl, trivial⟩ (.cons_cons _ (.cons_cons _ (.slnil))) rfl
   exact g_go [0, 1] (key2 _ h ()) ⟨rfl, rfl, rfl, trivial⟩ (.cons_cons _ (.cons_cons _ (.slnil))) rfl
 refine g_region rfl rfl <| wl_v 0 rfl (v_fldB fo_25_0 rfl) gn rfl <| wl_v 1 rfl (v_ldB1 1 ld_22 rfl rfl rfl) gn rfl <| wl_v 2 rfl (v_lenQ un_22 rfl h5.hq) gn rfl <| wl_v 3 rfl (v_fldB fo_25_0 rfl) gn rfl <| wl_v 4 rfl (v_ldB1 0 ld_22 rfl rfl rfl) gn rfl <| wl_v 5 rfl (v_lenQ un_22 rfl h14.hq) gn rfl <| wl_v 6 rfl (v_bin rfl rfl rfl) gn rfl <| wl_v 7 rfl (v_move rfl) gn rfl ?_
 by_cases hp155 : (x1.nodes.length : Int) = (x10.nodes.length : Int)
 ·have h := if_pos' hp155 h
  refine w_bool 14 rfl ((eqib hp155)) <| wl_v 8 rfl (v_fldB fo_25_1 rfl) (gy 14 rfl rfl) rfl <| wl_v 9 rfl (v_ldB1 1 ld_23 rfl rfl rfl) (gy 14 rfl rfl) rfl <| wl_v 10 rfl (v_lenQ un_23 rfl h9.hq) (gy 14 rfl rfl) rfl <| wl_v 11 rfl (v_fldB fo_25_1 rfl) (gy 14 rfl rfl) rfl <| wl_v 12 rfl (v_ldB1 0 ld_23 rfl rfl rfl) (gy 14 rfl rfl) rfl <| wl_v 13 rfl (v_lenQ un_23 rfl h18.hq) (gy 14 rfl rfl) rfl <| wl_v 14 rfl (v_bin rfl rfl rfl) (gy 14 rfl rfl) rfl <| wl_v 15 rfl (v_pick (b := false) rfl rfl) gn rfl <| w_end 16 rfl ?_
  exact g_go [0, 1] (j1 ((x1.conds.length : Int) != (x10.conds.length : Int)) h) ⟨rfl, rfl, rfl, trivial⟩ (.cons_cons _ (.cons_cons _ (.slnil))) rfl
 ·have h := if_neg' hp155 h
  refine w_bool 14 rfl ((neib hp155)) <| wl_pass 8 rfl (ps 14 rfl rfl rfl) <| wl_pass 9 rfl (ps 14 rfl rfl rfl) <| wl_pass 10 rfl (ps 14 rfl rfl rfl) <| wl_pass 11 rfl (ps 14 rfl rfl rfl) <| wl_pass 12 rfl (ps 14 rfl rfl rfl) <| wl_pass 13 rfl (ps 14 rfl rfl rfl) <| wl_pass 14 rfl (ps 14 rfl rfl rfl) <| wl_v 15 rfl (v_pick (b := true) rfl rfl) gn rfl <| w_end 16 rfl ?_
  exact g_go [0, 1] (j1 true h) ⟨rfl, rfl, rfl, trivial⟩ (.cons_cons _ (.cons_cons _ (.slnil))) rfl
noncomputable abbrev q8c4 := Code.snd (Code.snd (bodyOf Try.f8))
noncomputable abbrev q8c8 := Code.fst (Code.fst (Code.snd (Code.fst (Code.snd (bodyOf Try.f8)))))
noncomputable abbrev q8c19 := Code.snd q8c4
noncomputable abbrev q8c23 := Code.fst (Code.fst (Code.snd (Code.fst q8c4)))
noncomputable abbrev q8c38 := Code.snd (Code.snd (Code.snd q8c19))
noncomputable abbrev q8c42 := Code.fst (Code.fst (Code.snd (Code.fst (Code.snd (Code.snd q8c19)))))
noncomputable abbrev q8c55 := Code.snd q8c38
noncomputable abbrev q8c59 := Code.fst (Code.fst (Code.snd (Code.fst q8c38)))
noncomputable abbrev q8c67 := Code.snd q8c55
noncomputable abbrev q8c71 := Code.fst (Code.fst (Code.snd (Code.fst q8c55)))
abbrev trellislaw20_keeps_R (w : World) (F : Nat → Prop) (A2 : Option Addr) (n3 : Nat) (c4 : Nat) (z6 : Nat) (A8 : Option Addr) (n9 : Nat) (c10 : Nat) (z12 : Nat) (r : Bool) : Ending → World → Prop := fun e w' => e = .returned (.bool r) ∧ B.Loc w w' [] [St w [(Value.slice A2 n3 c4).ownBlock.toList, (Value.slice A8 n9 c10).ownBlock.toList]]
noncomputable abbrev trellislaw20_keeps_C (w : World) (F : Nat → Prop) (A2 : Option Addr) (n3 : Nat) (c4 : Nat) (z6 : Nat) (A8 : Option Addr) (n9 : Nat) (c10 : Nat) (z12 : Nat) (r : Bool) : Cx := ⟨Try.prog, 8, Try.f8, 84, trellislaw20_keeps_R w F A2 n3 c4 z6 A8 n9 c10 z12 r, w⟩
theorem trellislaw20_keeps_calls (w : World) (F : Nat → Prop) (x1 : api_Query) (z6 : Nat) (A2 : Option Addr) (n3 : Nat) (c4 : Nat) (z12 : Nat) (A8 : Option Addr) (n9 : Nat) (c10 : Nat) (hz7 : z6 ≤ w.heap.size) (h5 : Ow z6 A2 n3 c4 x1.nodes) (hz13 : z12 ≤ w.heap.size) (h11 : Ow z12 A8 n9 c10 x1.conds) (hF : ∀ b, F b → b < w.heap.size ∧ ∀ o ∈ ([(Value.slice A2 n3 c4).ownBlock.toList, (Value.slice A8 n9 c10).ownBlock.toList] : List (List Nat)), b ∉ o) (hL0 : B.Loc w w [.own (.slice A2 n3 c4) 46 5 n3 (x1.nodes.flatMap enc_api_PatNode), .own (.slice A8 n9 c10) 48 4 n9 (x1.conds.flatMap enc_api_Cond)] [Sm w.heap.size F w [(Value.slice A2 n3 c4).ownBlock.toList, (Value.slice A8 n9 c10).ownBlock.toList], St w [(Value.slice A2 n3 c4).ownBlock.toList, (Value.slice A8 n9 c10).ownBlock.toList]]) (r : Bool) (h : trellislaw20_keeps x1 r) : Calls Try.prog 8 #[.agg #[.slice A2 n3 c4, .slice A8 n9 c10]] w (trellislaw20_keeps_R w F A2 n3 c4 z6 A8 n9 c10 z12 r) := by
 unfold trellislaw20_keeps at h
 refine calls_of_Loc (vs := [.agg #[.slice A2 n3 c4, .slice A8 n9 c10]]) 84 Try.func8 rfl Try.ntmps8 rfl hL0 ?_
 show G (trellislaw20_keeps_C w F A2 n3 c4 z6 A8 n9 c10 z12 r) _ _ _ _
 refine g_seq rfl <| g_region rfl rfl ?_
 refine wl_s 0 rfl (s_box [.slice A2 n3 c4, .slice A8 n9 c10] rfl rfl rfl fun gb14 => ?_) gn
 refine wl_v 1 rfl (v_assign rfl) gn rfl <| w_end 2 rfl <| g_seq rfl <| g_seq rfl <| g_region rfl rfl <| wl_v 0 rfl (v_assign rfl) gn rfl <| w_end 1 rfl <| g_block rfl <| g_loop rfl ?_
 have key1 : ∀ s, Rounds (fun (s : Int × (List api_PatNode)) o => trellislaw20_keeps_b1 x1 s.1 s.2 o) s r → (fun (s : Int × (List api_PatNode)) => ∀ (h573 : Ow z6 A2 n3 c4 s.2), G (trellislaw20_keeps_C w F A2 n3 c4 z6 A8 n9 c10 z12 r) [.code q8c8, .inLoop q8c8, .inBlock 0, .code q8c4] [(1, .pointer (some ⟨gb14, 0, none⟩)), (3, .int .i64 s.1)] [.box gb14 25 [.slice A2 n3 c4, .slice A8 n9 c10], .own (.slice A2 n3 c4) 46 5 n3 (s.2.flatMap enc_api_PatNode), .own (.slice A8 n9 c10) 48 4 n9 (x1.conds.flatMap enc_api_Cond)] [Sm w.heap.size F w [(Value.slice A2 n3 c4).ownBlock.toList, (Value.slice A8 n9 c10).ownBlock.toList], St w [(Value.slice A2 n3 c4).ownBlock.toList, (Value.slice A8 n9 c10).ownBlock.toList]]) s := by
  intro s hs
  refine Rounds.ind (mot := (fun (s : Int × (List api_PatNode)) => ∀ (h573 : Ow z6 A2 n3 c4 s.2), G (trellislaw20_keeps_C w F A2 n3 c4 z6 A8 n9 c10 z12 r) [.code q8c8, .inLoop q8c8, .inBlock 0, .code q8c4] [(1, .pointer (some ⟨gb14, 0, none⟩)), (3, .int .i64 s.1)] [.box gb14 25 [.slice A2 n3 c4, .slice A8 n9 c10], .own (.slice A2 n3 c4) 46 5 n3 (s.2.flatMap enc_api_PatNode), .own (.slice A8 n9 c10) 48 4 n9 (x1.conds.flatMap enc_api_Cond)] [Sm w.heap.size F w [(Value.slice A2 n3 c4).ownBlock.toList, (Value.slice A8 n9 c10).ownBlock.toList], St w [(Value.slice A2 n3 c4).ownBlock.toList, (Value.slice A8 n9 c10).ownBlock.toList]])) ?_ hs
  clear hs s
  intro s o1 h hO1
  obtain ⟨x571, x572⟩ := s
  show ∀ (h573 : Ow z6 A2 n3 c4 x572), G (trellislaw20_keeps_C w F A2 n3 c4 z6 A8 n9 c10 z12 r) [.code q8c8, .inLoop q8c8, .inBlock 0, .code q8c4] [(1, .pointer (some ⟨gb14, 0, none⟩)), (3, .int .i64 x571)] [.box gb14 25 [.slice A2 n3 c4, .slice A8 n9 c10], .own (.slice A2 n3 c4) 46 5 n3 (x572.flatMap enc_api_PatNode), .own (.slice A8 n9 c10) 48 4 n9 (x1.conds.flatMap enc_api_Cond)] [Sm w.heap.size F w [(Value.slice A2 n3 c4).ownBlock.toList, (Value.slice A8 n9 c10).ownBlock.toList], St w [(Value.slice A2 n3 c4).ownBlock.toList, (Value.slice A8 n9 c10).ownBlock.toList]]
  intro h573
  have h : trellislaw20_keeps_b1 x1 x571 x572 o1 := h
  unfold trellislaw20_keeps_b1 at h
  refine g_seq rfl <| g_seq rfl <| g_region rfl rfl <| wl_v 0 rfl (v_move rfl) gn rfl <| wl_v 1 rfl (v_fldB fo_25_0 rfl) gn rfl <| wl_v 2 rfl (v_ldB1 0 ld_22 rfl rfl rfl) gn rfl <| wl_v 3 rfl (v_lenQ un_22 rfl h573.hq) gn rfl <| wl_v 4 rfl (v_bin rfl rfl rfl) gn rfl <| w_end 5 rfl ?_
  by_cases hp1282 : x571 < (x572.length : Int)
  ·have h := if_pos' hp1282 h
   refine g_true rfl _ rfl ((decide_eq_true hp1282)) <| g_skip rfl <| g_seq rfl <| g_block rfl <| g_region rfl rfl <| wl_v 0 rfl (v_fldB fo_25_0 rfl) gn rfl <| wl_v 1 rfl (v_ldB1 0 ld_22 rfl rfl rfl) gn rfl <| wl_v 2 rfl (v_move rfl) gn rfl <| wl_v 3 rfl (v_build #[.string (⟨#[]⟩ : ByteArray), .bool false, .string (⟨#[]⟩ : ByteArray), .string (⟨#[]⟩ : ByteArray), .int .i64 77] bd_46 rfl (by kernel_rfl)) gn rfl ?_
   obtain ⟨hb1283, h⟩ := h
   refine wl_v 4 rfl (v_idxO slE_22 rfl rfl h573 hb1283) gn rfl ?_
   obtain ⟨x1284, hv1285, h⟩ := h
   refine wl_s 5 rfl (s_stF (enc := enc_api_PatNode) (o := 0) (z := (⟨(⟨#[]⟩ : ByteArray), false, (⟨#[]⟩ : ByteArray), (⟨#[]⟩ : ByteArray), 77⟩ : api_PatNode)) (vs := [.string (⟨#[]⟩ : ByteArray), .bool false, .string (⟨#[]⟩ : ByteArray), .string (⟨#[]⟩ : ByteArray), .int .i64 77]) (i := x571) 1 hl_api_PatNode sz_46 rfl rfl rfl rfl rfl h573 hb1283 rfl rfl rfl hv1285 fun h1286 => ?_) gn
   refine w_end 6 rfl <| g_inBlock <| g_region rfl rfl <| wl_v 0 rfl (v_move rfl) gn rfl <| wl_v 1 rfl (v_bin rfl rfl rfl) gn rfl <| wl_v 2 rfl (v_assign rfl) gn rfl <| w_end 3 rfl <| g_inLoop ?_
   have ih := Out.inl hO1 h
   exact g_go [0, 1] (ih h1286) ⟨rfl, rfl, trivial⟩ (.cons_cons _ (.cons_cons _ (.cons_cons _ (.slnil)))) rfl
  ·have h := if_neg' hp1282 h
   refine g_false rfl _ rfl ((decide_eq_false hp1282)) <| g_exit [.code q8c4] rfl rfl <| g_seq rfl <| g_seq rfl <| g_region rfl rfl <| wl_v 0 rfl (v_assign rfl) gn rfl <| w_end 1 rfl <| g_block rfl <| g_loop rfl ?_
   have key2 : ∀ s, Rounds (fun (s : Int × (List api_Cond)) o => trellislaw20_keeps_b2 x572 s.1 s.2 o) s o1 → (fun (s : Int × (List api_Cond)) => ∀ (h1483 : Ow z12 A8 n9 c10 s.2), G (trellislaw20_keeps_C w F A2 n3 c4 z6 A8 n9 c10 z12 r) [.code q8c23, .inLoop q8c23, .inBlock 2, .code q8c19] [(1, .pointer (some ⟨gb14, 0, none⟩)), (4, .int .i64 s.1)] [.box gb14 25 [.slice A2 n3 c4, .slice A8 n9 c10], .own (.slice A2 n3 c4) 46 5 n3 (x572.flatMap enc_api_PatNode), .own (.slice A8 n9 c10) 48 4 n9 (s.2.flatMap enc_api_Cond)] [Sm w.heap.size F w [(Value.slice A2 n3 c4).ownBlock.toList, (Value.slice A8 n9 c10).ownBlock.toList], St w [(Value.slice A2 n3 c4).ownBlock.toList, (Value.slice A8 n9 c10).ownBlock.toList]]) s := by
    intro s hs
    refine Rounds.ind (mot := (fun (s : Int × (List api_Cond)) => ∀ (h1483 : Ow z12 A8 n9 c10 s.2), G (trellislaw20_keeps_C w F A2 n3 c4 z6 A8 n9 c10 z12 r) [.code q8c23, .inLoop q8c23, .inBlock 2, .code q8c19] [(1, .pointer (some ⟨gb14, 0, none⟩)), (4, .int .i64 s.1)] [.box gb14 25 [.slice A2 n3 c4, .slice A8 n9 c10], .own (.slice A2 n3 c4) 46 5 n3 (x572.flatMap enc_api_PatNode), .own (.slice A8 n9 c10) 48 4 n9 (s.2.flatMap enc_api_Cond)] [Sm w.heap.size F w [(Value.slice A2 n3 c4).ownBlock.toList, (Value.slice A8 n9 c10).ownBlock.toList], St w [(Value.slice A2 n3 c4).ownBlock.toList, (Value.slice A8 n9 c10).ownBlock.toList]])) ?_ hs
    clear hs s
    intro s o2 h hO2
    obtain ⟨x1481, x1482⟩ := s
    show ∀ (h1483 : Ow z12 A8 n9 c10 x1482), G (trellislaw20_keeps_C w F A2 n3 c4 z6 A8 n9 c10 z12 r) [.code q8c23, .inLoop q8c23, .inBlock 2, .code q8c19] [(1, .pointer (some ⟨gb14, 0, none⟩)), (4, .int .i64 x1481)] [.box gb14 25 [.slice A2 n3 c4, .slice A8 n9 c10], .own (.slice A2 n3 c4) 46 5 n3 (x572.flatMap enc_api_PatNode), .own (.slice A8 n9 c10) 48 4 n9 (x1482.flatMap enc_api_Cond)] [Sm w.heap.size F w [(Value.slice A2 n3 c4).ownBlock.toList, (Value.slice A8 n9 c10).ownBlock.toList], St w [(Value.slice A2 n3 c4).ownBlock.toList, (Value.slice A8 n9 c10).ownBlock.toList]]
    intro h1483
    have h : trellislaw20_keeps_b2 x572 x1481 x1482 o2 := h
    unfold trellislaw20_keeps_b2 at h
    refine g_seq rfl <| g_seq rfl <| g_region rfl rfl <| wl_v 0 rfl (v_move rfl) gn rfl <| wl_v 1 rfl (v_fldB fo_25_1 rfl) gn rfl <| wl_v 2 rfl (v_ldB1 0 ld_23 rfl rfl rfl) gn rfl <| wl_v 3 rfl (v_lenQ un_23 rfl h1483.hq) gn rfl <| wl_v 4 rfl (v_bin rfl rfl rfl) gn rfl <| w_end 5 rfl ?_
    by_cases hp1737 : x1481 < (x1482.length : Int)
    ·have h := if_pos' hp1737 h
     refine g_true rfl _ rfl ((decide_eq_true hp1737)) <| g_skip rfl <| g_seq rfl <| g_block rfl <| g_region rfl rfl <| wl_v 0 rfl (v_fldB fo_25_1 rfl) gn rfl <| wl_v 1 rfl (v_ldB1 0 ld_23 rfl rfl rfl) gn rfl <| wl_v 2 rfl (v_move rfl) gn rfl <| wl_v 3 rfl (v_build #[.bool false, .string (⟨#[]⟩ : ByteArray), .string (⟨#[]⟩ : ByteArray), .string (⟨#[115, 112, 111, 105, 108, 116]⟩ : ByteArray)] bd_48 rfl (by kernel_rfl)) gn rfl ?_
     obtain ⟨hb1738, h⟩ := h
     refine wl_v 4 rfl (v_idxO slE_23 rfl rfl h1483 hb1738) gn rfl ?_
     obtain ⟨x1739, hv1740, h⟩ := h
     refine wl_s 5 rfl (s_stF (enc := enc_api_Cond) (o := 0) (z := (⟨false, (⟨#[]⟩ : ByteArray), (⟨#[]⟩ : ByteArray), (⟨#[115, 112, 111, 105, 108, 116]⟩ : ByteArray)⟩ : api_Cond)) (vs := [.bool false, .string (⟨#[]⟩ : ByteArray), .string (⟨#[]⟩ : ByteArray), .string (⟨#[115, 112, 111, 105, 108, 116]⟩ : ByteArray)]) (i := x1481) 2 hl_api_Cond sz_48 rfl rfl rfl rfl rfl h1483 hb1738 rfl rfl rfl hv1740 fun h1741 => ?_) gn
     refine w_end 6 rfl <| g_inBlock <| g_region rfl rfl <| wl_v 0 rfl (v_move rfl) gn rfl <| wl_v 1 rfl (v_bin rfl rfl rfl) gn rfl <| wl_v 2 rfl (v_assign rfl) gn rfl <| w_end 3 rfl <| g_inLoop ?_
     have ih := Out.inl hO2 h
     exact g_go [0, 1] (ih h1741) ⟨rfl, rfl, trivial⟩ (.cons_cons _ (.cons_cons _ (.cons_cons _ (.slnil)))) rfl
    ·have h := if_neg' hp1737 h
     refine g_false rfl _ rfl ((decide_eq_false hp1737)) <| g_exit [.code q8c19] rfl rfl <| g_seq rfl <| g_region rfl rfl <| wl_v 0 rfl (v_fldB fo_25_0 rfl) gn rfl <| wl_v 1 rfl (v_ldB1 0 ld_22 rfl rfl rfl) gn rfl <| wl_v 2 rfl (v_assign rfl) gn rfl <| w_end 3 rfl <| g_seq rfl <| g_region rfl rfl <| wl_v 0 rfl (v_fldB fo_25_1 rfl) gn rfl <| wl_v 1 rfl (v_ldB1 0 ld_23 rfl rfl rfl) gn rfl ?_
     refine wl_v 2 rfl (v_assign rfl) gn rfl <| w_end 3 rfl <| g_seq rfl <| g_seq rfl <| g_region rfl rfl <| wl_v 0 rfl (v_assign rfl) gn rfl <| w_end 1 rfl <| g_block rfl <| g_loop rfl ?_
     have key3 : ∀ s, Rounds (fun (s : (List api_PatNode) × (List api_Cond) × Int) o => trellislaw20_keeps_b3 x572 x1482 s.1 s.2.1 s.2.2 o) s o2 → (fun (s : (List api_PatNode) × (List api_Cond) × Int) => ∀ (A1770 : Option Addr) (n1771 : Nat) (c1772 : Nat) (h1773 : Ow z6 A1770 n1771 c1772 s.1) (A1775 : Option Addr) (n1776 : Nat) (c1777 : Nat) (h1778 : Ow z12 A1775 n1776 c1777 s.2.1) (h1780 : Ow 0 A2 n3 c4 x572) (bs1781 : List Nat) (p1782 : World → Prop) (hE1783 : Eld 46 5 A1770 n1771 c1772 (s.1.flatMap enc_api_PatNode) bs1781 p1782 A2 n3 (x572.flatMap enc_api_PatNode)) (h1784 : Ow 0 A8 n9 c10 x1482) (bs1785 : List Nat) (p1786 : World → Prop) (hE1787 : Eld 48 4 A1775 n1776 c1777 (s.2.1.flatMap enc_api_Cond) bs1785 p1786 A8 n9 (x1482.flatMap enc_api_Cond)), G (trellislaw20_keeps_C w F A2 n3 c4 z6 A8 n9 c10 z12 r) [.code q8c42, .inLoop q8c42, .inBlock 4, .code q8c38] [(1, .pointer (some ⟨gb14, 0, none⟩)), (5, .slice A1770 n1771 c1772), (6, .slice A1775 n1776 c1777), (7, .int .i64 s.2.2)] [.deep .nilIface bs1781 p1782, .deep .nilIface bs1785 p1786, .box gb14 25 [.slice A2 n3 c4, .slice A8 n9 c10], .own (.slice A1770 n1771 c1772) 46 5 n1771 (s.1.flatMap enc_api_PatNode), .own (.slice A1775 n1776 c1777) 48 4 n1776 (s.2.1.flatMap enc_api_Cond)] [Sm w.heap.size F w [(Value.slice A2 n3 c4).ownBlock.toList, (Value.slice A8 n9 c10).ownBlock.toList], St w [(Value.slice A2 n3 c4).ownBlock.toList, (Value.slice A8 n9 c10).ownBlock.toList]]) s := by
      intro s hs
      refine Rounds.ind (mot := (fun (s : (List api_PatNode) × (List api_Cond) × Int) => ∀ (A1770 : Option Addr) (n1771 : Nat) (c1772 : Nat) (h1773 : Ow z6 A1770 n1771 c1772 s.1) (A1775 : Option Addr) (n1776 : Nat) (c1777 : Nat) (h1778 : Ow z12 A1775 n1776 c1777 s.2.1) (h1780 : Ow 0 A2 n3 c4 x572) (bs1781 : List Nat) (p1782 : World → Prop) (hE1783 : Eld 46 5 A1770 n1771 c1772 (s.1.flatMap enc_api_PatNode) bs1781 p1782 A2 n3 (x572.flatMap enc_api_PatNode)) (h1784 : Ow 0 A8 n9 c10 x1482) (bs1785 : List Nat) (p1786 : World → Prop) (hE1787 : Eld 48 4 A1775 n1776 c1777 (s.2.1.flatMap enc_api_Cond) bs1785 p1786 A8 n9 (x1482.flatMap enc_api_Cond)), G (trellislaw20_keeps_C w F A2 n3 c4 z6 A8 n9 c10 z12 r) [.code q8c42, .inLoop q8c42, .inBlock 4, .code q8c38] [(1, .pointer (some ⟨gb14, 0, none⟩)), (5, .slice A1770 n1771 c1772), (6, .slice A1775 n1776 c1777), (7, .int .i64 s.2.2)] [.deep .nilIface bs1781 p1782, .deep .nilIface bs1785 p1786, .box gb14 25 [.slice A2 n3 c4, .slice A8 n9 c10], .own (.slice A1770 n1771 c1772) 46 5 n1771 (s.1.flatMap enc_api_PatNode), .own (.slice A1775 n1776 c1777) 48 4 n1776 (s.2.1.flatMap enc_api_Cond)] [Sm w.heap.size F w [(Value.slice A2 n3 c4).ownBlock.toList, (Value.slice A8 n9 c10).ownBlock.toList], St w [(Value.slice A2 n3 c4).ownBlock.toList, (Value.slice A8 n9 c10).ownBlock.toList]])) ?_ hs
      clear hs s
      intro s o3 h hO3
      obtain ⟨x1769, x1774, x1779⟩ := s
      show ∀ (A1770 : Option Addr) (n1771 : Nat) (c1772 : Nat) (h1773 : Ow z6 A1770 n1771 c1772 x1769) (A1775 : Option Addr) (n1776 : Nat) (c1777 : Nat) (h1778 : Ow z12 A1775 n1776 c1777 x1774) (h1780 : Ow 0 A2 n3 c4 x572) (bs1781 : List Nat) (p1782 : World → Prop) (hE1783 : Eld 46 5 A1770 n1771 c1772 (x1769.flatMap enc_api_PatNode) bs1781 p1782 A2 n3 (x572.flatMap enc_api_PatNode)) (h1784 : Ow 0 A8 n9 c10 x1482) (bs1785 : List Nat) (p1786 : World → Prop) (hE1787 : Eld 48 4 A1775 n1776 c1777 (x1774.flatMap enc_api_Cond) bs1785 p1786 A8 n9 (x1482.flatMap enc_api_Cond)), G (trellislaw20_keeps_C w F A2 n3 c4 z6 A8 n9 c10 z12 r) [.code q8c42, .inLoop q8c42, .inBlock 4, .code q8c38] [(1, .pointer (some ⟨gb14, 0, none⟩)), (5, .slice A1770 n1771 c1772), (6, .slice A1775 n1776 c1777), (7, .int .i64 x1779)] [.deep .nilIface bs1781 p1782, .deep .nilIface bs1785 p1786, .box gb14 25 [.slice A2 n3 c4, .slice A8 n9 c10], .own (.slice A1770 n1771 c1772) 46 5 n1771 (x1769.flatMap enc_api_PatNode), .own (.slice A1775 n1776 c1777) 48 4 n1776 (x1774.flatMap enc_api_Cond)] [Sm w.heap.size F w [(Value.slice A2 n3 c4).ownBlock.toList, (Value.slice A8 n9 c10).ownBlock.toList], St w [(Value.slice A2 n3 c4).ownBlock.toList, (Value.slice A8 n9 c10).ownBlock.toList]]
      intro A1770 n1771 c1772 h1773 A1775 n1776 c1777 h1778 h1780 bs1781 p1782 hE1783 h1784 bs1785 p1786 hE1787
      have h : trellislaw20_keeps_b3 x572 x1482 x1769 x1774 x1779 o3 := h
      unfold trellislaw20_keeps_b3 at h
      refine g_seq rfl <| g_seq rfl <| g_region rfl rfl <| wl_v 0 rfl (v_move rfl) gn rfl <| wl_v 1 rfl (v_bin rfl rfl rfl) gn rfl <| w_end 2 rfl ?_
      by_cases hp1889 : x1779 < 70
      ·have h := if_pos' hp1889 h
       refine g_true rfl _ rfl ((decide_eq_true hp1889)) <| g_skip rfl <| g_seq rfl <| g_block rfl <| g_seq rfl <| g_region rfl rfl <| wl_v 0 rfl (v_move rfl) gn rfl <| wl_v 1 rfl (v_build #[.string (⟨#[]⟩ : ByteArray), .bool false, .string (⟨#[]⟩ : ByteArray), .string (⟨#[]⟩ : ByteArray), .int .i64 78] bd_46 rfl (by kernel_rfl)) gn rfl ?_
       refine wl_s 2 rfl (s_litO (xs := ([(⟨(⟨#[]⟩ : ByteArray), false, (⟨#[]⟩ : ByteArray), (⟨#[]⟩ : ByteArray), 78⟩ : api_PatNode)] : List api_PatNode)) [.string (⟨#[]⟩ : ByteArray), .bool false, .string (⟨#[]⟩ : ByteArray), .string (⟨#[]⟩ : ByteArray), .int .i64 78] bs_22_1 rfl (by kernel_rfl) rfl rfl rfl rfl fun gb1891 h1892 => ?_) gn
       obtain ⟨x1899, hv1900, h⟩ := h
       obtain ⟨hb1901, h⟩ := h
       refine wl_s 3 rfl (s_appE (zs := x1899) (cells' := x1899.flatMap enc_api_PatNode) 4 1 rfl ap_22 rfl rfl rfl rfl hE1783 h1773 hz7 (Src.ownF (hl := hl_api_PatNode) (h1 := h1_api_PatNode) 0 rfl h1892) (by rw [hv1900, List.flatMap_append] <;> rfl) (app_len hv1900 h1892.hq) hb1901 rfl rfl fun A1893 c1894 bs1896 p1897 h1895 hE1898 => ?_) gn
       refine wl_v 4 rfl (v_assign rfl) gn rfl <| w_end 5 rfl <| g_region rfl rfl <| wl_v 0 rfl (v_move rfl) gn rfl <| wl_v 1 rfl (v_build #[.bool false, .string (⟨#[]⟩ : ByteArray), .string (⟨#[]⟩ : ByteArray), .string (⟨#[109, 111, 114, 101]⟩ : ByteArray)] bd_48 rfl (by kernel_rfl)) gn rfl ?_
       refine wl_s 2 rfl (s_litO (xs := ([(⟨false, (⟨#[]⟩ : ByteArray), (⟨#[]⟩ : ByteArray), (⟨#[109, 111, 114, 101]⟩ : ByteArray)⟩ : api_Cond)] : List api_Cond)) [.bool false, .string (⟨#[]⟩ : ByteArray), .string (⟨#[]⟩ : ByteArray), .string (⟨#[109, 111, 114, 101]⟩ : ByteArray)] bs_23_1 rfl (by kernel_rfl) rfl rfl rfl rfl fun gb1903 h1904 => ?_) gn
       obtain ⟨x1911, hv1912, h⟩ := h
       obtain ⟨hb1913, h⟩ := h
       refine wl_s 3 rfl (s_appE (zs := x1911) (cells' := x1911.flatMap enc_api_Cond) 6 3 rfl ap_23 rfl rfl rfl rfl hE1787 h1778 hz13 (Src.ownF (hl := hl_api_Cond) (h1 := h1_api_Cond) 0 rfl h1904) (by rw [hv1912, List.flatMap_append] <;> rfl) (app_len hv1912 h1904.hq) hb1913 rfl rfl fun A1905 c1906 bs1908 p1909 h1907 hE1910 => ?_) gn
       refine wl_v 4 rfl (v_assign rfl) gn rfl <| w_end 5 rfl <| g_inBlock <| g_region rfl rfl <| wl_v 0 rfl (v_move rfl) gn rfl <| wl_v 1 rfl (v_bin rfl rfl rfl) gn rfl <| wl_v 2 rfl (v_assign rfl) gn rfl <| w_end 3 rfl <| g_inLoop ?_
       have ih := Out.inl hO3 h
       exact g_go [0, 1] (ih A1893 (n1771 + 1) c1894 h1895 A1905 (n1776 + 1) c1906 h1907 h1780 bs1896 p1897 hE1898 h1784 bs1908 p1909 hE1910) ⟨rfl, rfl, rfl, rfl, trivial⟩ (.cons _ (.cons _ (.cons_cons _ (.cons_cons _ (.cons_cons _ (.cons_cons _ (.cons_cons _ (.slnil)))))))) rfl
      ·have h := if_neg' hp1889 h
       refine g_false rfl _ rfl ((decide_eq_false hp1889)) <| g_exit [.code q8c38] rfl rfl <| g_seq rfl <| g_seq rfl <| g_region rfl rfl <| wl_v 0 rfl (v_assign rfl) gn rfl <| w_end 1 rfl <| g_block rfl <| g_loop rfl ?_
       have key4 : ∀ s, Rounds (fun (s : Int) o => trellislaw20_keeps_b4 x572 x1482 x1769 x1774 s o) s o3 → (fun (s : Int) => ∀ (h1915 : Ow 0 A2 n3 c4 x572) (bs1916 : List Nat) (p1917 : World → Prop) (hE1918 : Eld 46 5 A1770 n1771 c1772 (x1769.flatMap enc_api_PatNode) bs1916 p1917 A2 n3 (x572.flatMap enc_api_PatNode)) (h1919 : Ow 0 A8 n9 c10 x1482) (bs1920 : List Nat) (p1921 : World → Prop) (hE1922 : Eld 48 4 A1775 n1776 c1777 (x1774.flatMap enc_api_Cond) bs1920 p1921 A8 n9 (x1482.flatMap enc_api_Cond)), G (trellislaw20_keeps_C w F A2 n3 c4 z6 A8 n9 c10 z12 r) [.code q8c59, .inLoop q8c59, .inBlock 6, .code q8c55] [(1, .pointer (some ⟨gb14, 0, none⟩)), (5, .slice A1770 n1771 c1772), (6, .slice A1775 n1776 c1777), (8, .int .i64 s)] [.deep .nilIface bs1916 p1917, .deep .nilIface bs1920 p1921, .box gb14 25 [.slice A2 n3 c4, .slice A8 n9 c10], .own (.slice A1770 n1771 c1772) 46 5 n1771 (x1769.flatMap enc_api_PatNode), .own (.slice A1775 n1776 c1777) 48 4 n1776 (x1774.flatMap enc_api_Cond)] [Sm w.heap.size F w [(Value.slice A2 n3 c4).ownBlock.toList, (Value.slice A8 n9 c10).ownBlock.toList], St w [(Value.slice A2 n3 c4).ownBlock.toList, (Value.slice A8 n9 c10).ownBlock.toList]]) s := by
        intro s hs
        refine Rounds.ind (mot := (fun (s : Int) => ∀ (h1915 : Ow 0 A2 n3 c4 x572) (bs1916 : List Nat) (p1917 : World → Prop) (hE1918 : Eld 46 5 A1770 n1771 c1772 (x1769.flatMap enc_api_PatNode) bs1916 p1917 A2 n3 (x572.flatMap enc_api_PatNode)) (h1919 : Ow 0 A8 n9 c10 x1482) (bs1920 : List Nat) (p1921 : World → Prop) (hE1922 : Eld 48 4 A1775 n1776 c1777 (x1774.flatMap enc_api_Cond) bs1920 p1921 A8 n9 (x1482.flatMap enc_api_Cond)), G (trellislaw20_keeps_C w F A2 n3 c4 z6 A8 n9 c10 z12 r) [.code q8c59, .inLoop q8c59, .inBlock 6, .code q8c55] [(1, .pointer (some ⟨gb14, 0, none⟩)), (5, .slice A1770 n1771 c1772), (6, .slice A1775 n1776 c1777), (8, .int .i64 s)] [.deep .nilIface bs1916 p1917, .deep .nilIface bs1920 p1921, .box gb14 25 [.slice A2 n3 c4, .slice A8 n9 c10], .own (.slice A1770 n1771 c1772) 46 5 n1771 (x1769.flatMap enc_api_PatNode), .own (.slice A1775 n1776 c1777) 48 4 n1776 (x1774.flatMap enc_api_Cond)] [Sm w.heap.size F w [(Value.slice A2 n3 c4).ownBlock.toList, (Value.slice A8 n9 c10).ownBlock.toList], St w [(Value.slice A2 n3 c4).ownBlock.toList, (Value.slice A8 n9 c10).ownBlock.toList]])) ?_ hs
        clear hs s
        intro x1945 o4 h hO4
        show ∀ (h1915 : Ow 0 A2 n3 c4 x572) (bs1916 : List Nat) (p1917 : World → Prop) (hE1918 : Eld 46 5 A1770 n1771 c1772 (x1769.flatMap enc_api_PatNode) bs1916 p1917 A2 n3 (x572.flatMap enc_api_PatNode)) (h1919 : Ow 0 A8 n9 c10 x1482) (bs1920 : List Nat) (p1921 : World → Prop) (hE1922 : Eld 48 4 A1775 n1776 c1777 (x1774.flatMap enc_api_Cond) bs1920 p1921 A8 n9 (x1482.flatMap enc_api_Cond)), G (trellislaw20_keeps_C w F A2 n3 c4 z6 A8 n9 c10 z12 r) [.code q8c59, .inLoop q8c59, .inBlock 6, .code q8c55] [(1, .pointer (some ⟨gb14, 0, none⟩)), (5, .slice A1770 n1771 c1772), (6, .slice A1775 n1776 c1777), (8, .int .i64 x1945)] [.deep .nilIface bs1916 p1917, .deep .nilIface bs1920 p1921, .box gb14 25 [.slice A2 n3 c4, .slice A8 n9 c10], .own (.slice A1770 n1771 c1772) 46 5 n1771 (x1769.flatMap enc_api_PatNode), .own (.slice A1775 n1776 c1777) 48 4 n1776 (x1774.flatMap enc_api_Cond)] [Sm w.heap.size F w [(Value.slice A2 n3 c4).ownBlock.toList, (Value.slice A8 n9 c10).ownBlock.toList], St w [(Value.slice A2 n3 c4).ownBlock.toList, (Value.slice A8 n9 c10).ownBlock.toList]]
        intro h1915 bs1916 p1917 hE1918 h1919 bs1920 p1921 hE1922
        have h : trellislaw20_keeps_b4 x572 x1482 x1769 x1774 x1945 o4 := h
        unfold trellislaw20_keeps_b4 at h
        refine g_seq rfl <| g_seq rfl <| g_region rfl rfl <| wl_v 0 rfl (v_move rfl) gn rfl <| wl_v 1 rfl (v_fldB fo_25_0 rfl) gn rfl <| wl_v 2 rfl (v_ldB1 2 ld_22 rfl rfl rfl) gn rfl <| wl_v 3 rfl (v_lenQ un_22 rfl h1915.hq) gn rfl <| wl_v 4 rfl (v_bin rfl rfl rfl) gn rfl <| w_end 5 rfl ?_
        by_cases hp1968 : x1945 < (x572.length : Int)
        ·have h := if_pos' hp1968 h
         refine g_true rfl _ rfl ((decide_eq_true hp1968)) <| g_skip rfl <| g_seq rfl <| g_block rfl <| g_seq rfl <| g_region rfl rfl <| wl_v 0 rfl (v_fldB fo_25_0 rfl) gn rfl <| wl_v 1 rfl (v_ldB1 2 ld_22 rfl rfl rfl) gn rfl <| wl_v 2 rfl (v_move rfl) gn rfl ?_
         obtain ⟨hb1969, h⟩ := h
         refine wl_v 3 rfl (v_idxO slE_22 rfl rfl h1915 hb1969) gn rfl <| wl_v 4 rfl (v_ldE [.string ((ix x572 x1945).name), .bool ((ix x572 x1945).lit), .string ((ix x572 x1945).field), .string ((ix x572 x1945).capture), .int .i64 ((ix x572 x1945).kids)] 3 0 ld_46 rfl rfl rfl hE1918 (fm_one hl_api_PatNode hb1969) rfl) gn rfl <| wl_v 5 rfl (v_build #[.string (⟨#[]⟩ : ByteArray), .bool false, .string (⟨#[]⟩ : ByteArray), .string (⟨#[]⟩ : ByteArray), .int .i64 77] bd_46 rfl (by kernel_rfl)) gn rfl <| wl_v 6 rfl (v_neSt eq_46 rfl rfl (eqd_api_PatNode (ix x572 x1945) (⟨(⟨#[]⟩ : ByteArray), false, (⟨#[]⟩ : ByteArray), (⟨#[]⟩ : ByteArray), 77⟩ : api_PatNode))) gn rfl <| w_end 7 rfl ?_
         by_cases hp1970 : ix x572 x1945 = (⟨(⟨#[]⟩ : ByteArray), false, (⟨#[]⟩ : ByteArray), (⟨#[]⟩ : ByteArray), 77⟩ : api_PatNode)
         ·have h := if_pos' hp1970 h
          refine g_false rfl _ rfl ((nf (decide_eq_true hp1970))) <| g_skip rfl <| g_inBlock <| g_region rfl rfl <| wl_v 0 rfl (v_move rfl) gn rfl <| wl_v 1 rfl (v_bin rfl rfl rfl) gn rfl <| wl_v 2 rfl (v_assign rfl) gn rfl <| w_end 3 rfl <| g_inLoop ?_
          have ih := Out.inl hO4 h
          exact g_go [0, 1] (ih h1915 bs1916 p1917 hE1918 h1919 bs1920 p1921 hE1922) ⟨rfl, rfl, rfl, rfl, trivial⟩ (.cons_cons _ (.cons_cons _ (.cons_cons _ (.cons_cons _ (.cons_cons _ (.slnil)))))) rfl
         ·have h := if_neg' hp1970 h
          refine g_true rfl _ rfl ((nt (decide_eq_false hp1970))) <| g_seq rfl <| g_region rfl rfl <| wl_v 0 rfl (v_assign rfl) gn rfl <| w_end 1 rfl ?_
          have h := Out.inr hO4 h
          have h := Out.inr hO3 h
          have h := Out.inr hO2 h
          have h := Out.inr hO1 h
          refine g_retR [.bool false] rfl Try.func8 rfl (.tmp rfl (.nil)) fun wr hLr => ?_
          have hMr := hLr.pk0 (.c 1 rfl .n)
          show trellislaw20_keeps_R w F A2 n3 c4 z6 A8 n9 c10 z12 r (.returned (packV [.bool false])) wr
          rw [h]
          exact ⟨rfl, hMr⟩
        ·have h := if_neg' hp1968 h
         refine g_false rfl _ rfl ((decide_eq_false hp1968)) <| g_exit [.code q8c55] rfl rfl <| g_seq rfl <| g_seq rfl <| g_region rfl rfl <| wl_v 0 rfl (v_assign rfl) gn rfl <| w_end 1 rfl <| g_block rfl <| g_loop rfl ?_
         have key5 : ∀ s, Rounds (fun (s : Int) o => trellislaw20_keeps_b5 x1482 x1769 x1774 s o) s o4 → (fun (s : Int) => ∀ (h1972 : Ow 0 A2 n3 c4 x572) (bs1973 : List Nat) (p1974 : World → Prop) (hE1975 : Eld 46 5 A1770 n1771 c1772 (x1769.flatMap enc_api_PatNode) bs1973 p1974 A2 n3 (x572.flatMap enc_api_PatNode)) (h1976 : Ow 0 A8 n9 c10 x1482) (bs1977 : List Nat) (p1978 : World → Prop) (hE1979 : Eld 48 4 A1775 n1776 c1777 (x1774.flatMap enc_api_Cond) bs1977 p1978 A8 n9 (x1482.flatMap enc_api_Cond)), G (trellislaw20_keeps_C w F A2 n3 c4 z6 A8 n9 c10 z12 r) [.code q8c71, .inLoop q8c71, .inBlock 8, .code q8c67] [(1, .pointer (some ⟨gb14, 0, none⟩)), (5, .slice A1770 n1771 c1772), (6, .slice A1775 n1776 c1777), (9, .int .i64 s)] [.deep .nilIface bs1973 p1974, .deep .nilIface bs1977 p1978, .box gb14 25 [.slice A2 n3 c4, .slice A8 n9 c10], .own (.slice A1770 n1771 c1772) 46 5 n1771 (x1769.flatMap enc_api_PatNode), .own (.slice A1775 n1776 c1777) 48 4 n1776 (x1774.flatMap enc_api_Cond)] [Sm w.heap.size F w [(Value.slice A2 n3 c4).ownBlock.toList, (Value.slice A8 n9 c10).ownBlock.toList], St w [(Value.slice A2 n3 c4).ownBlock.toList, (Value.slice A8 n9 c10).ownBlock.toList]]) s := by
          intro s hs
          refine Rounds.ind (mot := (fun (s : Int) => ∀ (h1972 : Ow 0 A2 n3 c4 x572) (bs1973 : List Nat) (p1974 : World → Prop) (hE1975 : Eld 46 5 A1770 n1771 c1772 (x1769.flatMap enc_api_PatNode) bs1973 p1974 A2 n3 (x572.flatMap enc_api_PatNode)) (h1976 : Ow 0 A8 n9 c10 x1482) (bs1977 : List Nat) (p1978 : World → Prop) (hE1979 : Eld 48 4 A1775 n1776 c1777 (x1774.flatMap enc_api_Cond) bs1977 p1978 A8 n9 (x1482.flatMap enc_api_Cond)), G (trellislaw20_keeps_C w F A2 n3 c4 z6 A8 n9 c10 z12 r) [.code q8c71, .inLoop q8c71, .inBlock 8, .code q8c67] [(1, .pointer (some ⟨gb14, 0, none⟩)), (5, .slice A1770 n1771 c1772), (6, .slice A1775 n1776 c1777), (9, .int .i64 s)] [.deep .nilIface bs1973 p1974, .deep .nilIface bs1977 p1978, .box gb14 25 [.slice A2 n3 c4, .slice A8 n9 c10], .own (.slice A1770 n1771 c1772) 46 5 n1771 (x1769.flatMap enc_api_PatNode), .own (.slice A1775 n1776 c1777) 48 4 n1776 (x1774.flatMap enc_api_Cond)] [Sm w.heap.size F w [(Value.slice A2 n3 c4).ownBlock.toList, (Value.slice A8 n9 c10).ownBlock.toList], St w [(Value.slice A2 n3 c4).ownBlock.toList, (Value.slice A8 n9 c10).ownBlock.toList]])) ?_ hs
          clear hs s
          intro x1983 o5 h hO5
          show ∀ (h1972 : Ow 0 A2 n3 c4 x572) (bs1973 : List Nat) (p1974 : World → Prop) (hE1975 : Eld 46 5 A1770 n1771 c1772 (x1769.flatMap enc_api_PatNode) bs1973 p1974 A2 n3 (x572.flatMap enc_api_PatNode)) (h1976 : Ow 0 A8 n9 c10 x1482) (bs1977 : List Nat) (p1978 : World → Prop) (hE1979 : Eld 48 4 A1775 n1776 c1777 (x1774.flatMap enc_api_Cond) bs1977 p1978 A8 n9 (x1482.flatMap enc_api_Cond)), G (trellislaw20_keeps_C w F A2 n3 c4 z6 A8 n9 c10 z12 r) [.code q8c71, .inLoop q8c71, .inBlock 8, .code q8c67] [(1, .pointer (some ⟨gb14, 0, none⟩)), (5, .slice A1770 n1771 c1772), (6, .slice A1775 n1776 c1777), (9, .int .i64 x1983)] [.deep .nilIface bs1973 p1974, .deep .nilIface bs1977 p1978, .box gb14 25 [.slice A2 n3 c4, .slice A8 n9 c10], .own (.slice A1770 n1771 c1772) 46 5 n1771 (x1769.flatMap enc_api_PatNode), .own (.slice A1775 n1776 c1777) 48 4 n1776 (x1774.flatMap enc_api_Cond)] [Sm w.heap.size F w [(Value.slice A2 n3 c4).ownBlock.toList, (Value.slice A8 n9 c10).ownBlock.toList], St w [(Value.slice A2 n3 c4).ownBlock.toList, (Value.slice A8 n9 c10).ownBlock.toList]]
          intro h1972 bs1973 p1974 hE1975 h1976 bs1977 p1978 hE1979
          have h : trellislaw20_keeps_b5 x1482 x1769 x1774 x1983 o5 := h
          unfold trellislaw20_keeps_b5 at h
          refine g_seq rfl <| g_seq rfl <| g_region rfl rfl <| wl_v 0 rfl (v_move rfl) gn rfl <| wl_v 1 rfl (v_fldB fo_25_1 rfl) gn rfl <| wl_v 2 rfl (v_ldB1 2 ld_23 rfl rfl rfl) gn rfl <| wl_v 3 rfl (v_lenQ un_23 rfl h1976.hq) gn rfl <| wl_v 4 rfl (v_bin rfl rfl rfl) gn rfl <| w_end 5 rfl ?_
          by_cases hp1987 : x1983 < (x1482.length : Int)
          ·have h := if_pos' hp1987 h
           refine g_true rfl _ rfl ((decide_eq_true hp1987)) <| g_skip rfl <| g_seq rfl <| g_block rfl <| g_seq rfl <| g_region rfl rfl <| wl_v 0 rfl (v_fldB fo_25_1 rfl) gn rfl <| wl_v 1 rfl (v_ldB1 2 ld_23 rfl rfl rfl) gn rfl <| wl_v 2 rfl (v_move rfl) gn rfl ?_
           obtain ⟨hb1988, h⟩ := h
           refine wl_v 3 rfl (v_idxO slE_23 rfl rfl h1976 hb1988) gn rfl <| wl_v 4 rfl (v_ldE [.bool ((ix x1482 x1983).not), .string ((ix x1482 x1983).a), .string ((ix x1482 x1983).b), .string ((ix x1482 x1983).text)] 4 1 ld_48 rfl rfl rfl hE1979 (fm_one hl_api_Cond hb1988) rfl) gn rfl <| wl_v 5 rfl (v_build #[.bool false, .string (⟨#[]⟩ : ByteArray), .string (⟨#[]⟩ : ByteArray), .string (⟨#[115, 112, 111, 105, 108, 116]⟩ : ByteArray)] bd_48 rfl (by kernel_rfl)) gn rfl <| wl_v 6 rfl (v_neSt eq_48 rfl rfl (eqd_api_Cond (ix x1482 x1983) (⟨false, (⟨#[]⟩ : ByteArray), (⟨#[]⟩ : ByteArray), (⟨#[115, 112, 111, 105, 108, 116]⟩ : ByteArray)⟩ : api_Cond))) gn rfl <| w_end 7 rfl ?_
           by_cases hp1989 : ix x1482 x1983 = (⟨false, (⟨#[]⟩ : ByteArray), (⟨#[]⟩ : ByteArray), (⟨#[115, 112, 111, 105, 108, 116]⟩ : ByteArray)⟩ : api_Cond)
           ·have h := if_pos' hp1989 h
            refine g_false rfl _ rfl ((nf (decide_eq_true hp1989))) <| g_skip rfl <| g_inBlock <| g_region rfl rfl <| wl_v 0 rfl (v_move rfl) gn rfl <| wl_v 1 rfl (v_bin rfl rfl rfl) gn rfl <| wl_v 2 rfl (v_assign rfl) gn rfl <| w_end 3 rfl <| g_inLoop ?_
            have ih := Out.inl hO5 h
            exact g_go [0, 1] (ih h1972 bs1973 p1974 hE1975 h1976 bs1977 p1978 hE1979) ⟨rfl, rfl, rfl, rfl, trivial⟩ (.cons_cons _ (.cons_cons _ (.cons_cons _ (.cons_cons _ (.cons_cons _ (.slnil)))))) rfl
           ·have h := if_neg' hp1989 h
            refine g_true rfl _ rfl ((nt (decide_eq_false hp1989))) <| g_seq rfl <| g_region rfl rfl <| wl_v 0 rfl (v_assign rfl) gn rfl <| w_end 1 rfl ?_
            have h := Out.inr hO5 h
            have h := Out.inr hO4 h
            have h := Out.inr hO3 h
            have h := Out.inr hO2 h
            have h := Out.inr hO1 h
            refine g_retR [.bool false] rfl Try.func8 rfl (.tmp rfl (.nil)) fun wr hLr => ?_
            have hMr := hLr.pk0 (.c 1 rfl .n)
            show trellislaw20_keeps_R w F A2 n3 c4 z6 A8 n9 c10 z12 r (.returned (packV [.bool false])) wr
            rw [h]
            exact ⟨rfl, hMr⟩
          ·have h := if_neg' hp1987 h
           refine g_false rfl _ rfl ((decide_eq_false hp1987)) <| g_exit [.code q8c67] rfl rfl <| g_seq rfl <| g_region rfl rfl <| wl_v 0 rfl (v_move rfl) gn rfl <| wl_v 1 rfl (v_lenQ un_22 rfl h1773.hq) gn rfl <| wl_v 2 rfl (v_move rfl) gn rfl <| wl_v 3 rfl (v_lenQ un_23 rfl h1778.hq) gn rfl <| wl_v 4 rfl (v_bin rfl rfl rfl) gn rfl <| wl_v 5 rfl (v_bin rfl rfl rfl) gn rfl <| wl_v 6 rfl (v_assign rfl) gn rfl <| w_end 7 rfl ?_
           have h := Out.inr hO5 h
           have h := Out.inr hO4 h
           have h := Out.inr hO3 h
           have h := Out.inr hO2 h
           have h := Out.inr hO1 h
           refine g_retR [.bool (decide (w64 ((x1769.length : Int) + (x1774.length : Int)) ≥ 140))] rfl Try.func8 rfl (.tmp rfl (.nil)) fun wr hLr => ?_
           have hMr := hLr.pk0 (.c 1 rfl .n)
           show trellislaw20_keeps_R w F A2 n3 c4 z6 A8 n9 c10 z12 r (.returned (packV [.bool (decide (w64 ((x1769.length : Int) + (x1774.length : Int)) ≥ 140))])) wr
           rw [h]
           exact ⟨rfl, hMr⟩
         exact g_go [0, 1] (key5 _ h h1915 bs1916 p1917 hE1918 h1919 bs1920 p1921 hE1922) ⟨rfl, rfl, rfl, rfl, trivial⟩ (.cons_cons _ (.cons_cons _ (.cons_cons _ (.cons_cons _ (.cons_cons _ (.slnil)))))) rfl
       exact g_go [0, 1] (key4 _ h h1780 bs1781 p1782 hE1783 h1784 bs1785 p1786 hE1787) ⟨rfl, rfl, rfl, rfl, trivial⟩ (.cons_cons _ (.cons_cons _ (.cons_cons _ (.cons_cons _ (.cons_cons _ (.slnil)))))) rfl
     refine g_deep0 <| g_deep0 <| g_front 4 rfl <| g_front 4 rfl <| g_front 4 rfl <| g_front 3 rfl <| g_front 4 rfl ?_
     exact g_go [0, 1] (key3 _ h A2 n3 c4 h573 A8 n9 c10 h1483 (Ow.any h573) [] (fun _ => True) Eld.self (Ow.any h1483) [] (fun _ => True) Eld.self) ⟨rfl, rfl, rfl, rfl, trivial⟩ (.cons_cons _ (.cons_cons _ (.cons_cons _ (.cons_cons _ (.cons_cons _ (.slnil)))))) rfl
   exact g_go [0, 1] (key2 _ h h11) ⟨rfl, rfl, trivial⟩ (.cons_cons _ (.cons_cons _ (.cons_cons _ (.slnil)))) rfl
 exact g_go [0, 1] (key1 _ h h5) ⟨rfl, rfl, trivial⟩ (.cons_cons _ (.cons_cons _ (.cons_cons _ (.slnil)))) rfl
end Go.Proofs.Ytjookebbmfiidaa.K
