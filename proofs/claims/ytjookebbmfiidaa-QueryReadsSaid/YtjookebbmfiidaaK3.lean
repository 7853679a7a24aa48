/- What the machine's calls do, function by function, printed by my own tool. Condition of each: its relation holds of the answer, and what is handed in lies in memory as told. -/
import Derived.Test.YtjookebbmfiidaaK2
set_option linter.unusedVariables false
set_option maxRecDepth 100000
set_option maxHeartbeats 4000000
namespace Go.Proofs.Ytjookebbmfiidaa.K
open Go.Proofs.Ytjookebbmfiidaa.B Go.Proofs.Ytjookebbmfiidaa.R Go.RowKit
noncomputable abbrev q24c14 := Code.snd (Code.snd (Code.snd (Code.snd (Code.snd (bodyOf Try.f24)))))
noncomputable abbrev q24c16 := Code.snd (Code.fst (Code.snd (Code.snd (Code.snd (Code.snd (bodyOf Try.f24))))))
abbrev trellisref20_Reader_capture_R (w : World) (F : Nat → Prop) (g2 : Nat) (Tb3 : Nat) (A8 : Option Addr) (n9 : Nat) (c10 : Nat) (z12 : Nat) (A14 : Option Addr) (n15 : Nat) (c16 : Nat) (z18 : Nat) (r : ByteArray × trellisref20_Reader) : Ending → World → Prop := fun e w' => ∃ A1 : Option Addr, ∃ n1 : Nat, ∃ c1 : Nat, ∃ A2 : Option Addr, ∃ n2 : Nat, ∃ c2 : Nat, ∃ A0 : Option Addr, ∃ n0 : Nat, ∃ c0 : Nat, e = .returned (.string r.1) ∧ B.Loc w w' [.box g2 Tb3 [.slice A0 n0 c0, .int .i64 r.2.at_, .slice A1 n1 c1, .slice A2 n2 c2, .int .i64 r.2.e, .int .i64 r.2.pos], .own (.slice A1 n1 c1) 46 5 n1 (r.2.q.nodes.flatMap enc_api_PatNode), .own (.slice A2 n2 c2) 48 4 n2 (r.2.q.conds.flatMap enc_api_Cond)] [St w [[g2], (Value.slice A8 n9 c10).ownBlock.toList, (Value.slice A14 n15 c16).ownBlock.toList]] ∧ Ow z12 A1 n1 c1 r.2.q.nodes ∧ Ow z18 A2 n2 c2 r.2.q.conds ∧ Rw k_api_Word w' (Nw w w' F [.box g2 Tb3 [.slice A0 n0 c0, .int .i64 r.2.at_, .slice A1 n1 c1, .slice A2 n2 c2, .int .i64 r.2.e, .int .i64 r.2.pos], .own (.slice A1 n1 c1) 46 5 n1 (r.2.q.nodes.flatMap enc_api_PatNode), .own (.slice A2 n2 c2) 48 4 n2 (r.2.q.conds.flatMap enc_api_Cond)]) A0 n0 c0 r.2.l
noncomputable abbrev trellisref20_Reader_capture_C (w : World) (F : Nat → Prop) (g2 : Nat) (Tb3 : Nat) (A8 : Option Addr) (n9 : Nat) (c10 : Nat) (z12 : Nat) (A14 : Option Addr) (n15 : Nat) (c16 : Nat) (z18 : Nat) (r : ByteArray × trellisref20_Reader) : Cx := ⟨Try.prog, 24, Try.f24, 35, trellisref20_Reader_capture_R w F g2 Tb3 A8 n9 c10 z12 A14 n15 c16 z18 r, w⟩
theorem trellisref20_Reader_capture_calls (w : World) (F : Nat → Prop) (x1 : trellisref20_Reader) (g2 : Nat) (Tb3 : Nat) (A4 : Option Addr) (n5 : Nat) (c6 : Nat) (z12 : Nat) (A8 : Option Addr) (n9 : Nat) (c10 : Nat) (z18 : Nat) (A14 : Option Addr) (n15 : Nat) (c16 : Nat) (h7 : Rw k_api_Word w F A4 n5 c6 x1.l) (hz13 : z12 ≤ w.heap.size) (h11 : Ow z12 A8 n9 c10 x1.q.nodes) (hz19 : z18 ≤ w.heap.size) (h17 : Ow z18 A14 n15 c16 x1.q.conds) (hF : ∀ b, F b → b < w.heap.size ∧ ∀ o ∈ ([[g2], (Value.slice A8 n9 c10).ownBlock.toList, (Value.slice A14 n15 c16).ownBlock.toList] : List (List Nat)), b ∉ o) (hL0 : B.Loc w w [.box g2 Tb3 [.slice A4 n5 c6, .int .i64 x1.at_, .slice A8 n9 c10, .slice A14 n15 c16, .int .i64 x1.e, .int .i64 x1.pos], .own (.slice A8 n9 c10) 46 5 n9 (x1.q.nodes.flatMap enc_api_PatNode), .own (.slice A14 n15 c16) 48 4 n15 (x1.q.conds.flatMap enc_api_Cond)] [Sm w.heap.size F w [[g2], (Value.slice A8 n9 c10).ownBlock.toList, (Value.slice A14 n15 c16).ownBlock.toList], St w [[g2], (Value.slice A8 n9 c10).ownBlock.toList, (Value.slice A14 n15 c16).ownBlock.toList]]) (r : ByteArray × trellisref20_Reader) (h : trellisref20_Reader_capture x1 r) : Calls Try.prog 24 #[.pointer (some ⟨g2, 0, none⟩)] w (trellisref20_Reader_capture_R w F g2 Tb3 A8 n9 c10 z12 A14 n15 c16 z18 r) := by
 unfold trellisref20_Reader_capture at h
 have h7 := Rw.into (bs := [[g2], (Value.slice A8 n9 c10).ownBlock.toList, (Value.slice A14 n15 c16).ownBlock.toList]) hF h7
 refine calls_of_Loc (vs := [.pointer (some ⟨g2, 0, none⟩)]) 35 Try.func24 rfl Try.ntmps24 rfl hL0 ?_
 show G (trellisref20_Reader_capture_C w F g2 Tb3 A8 n9 c10 z12 A14 n15 c16 z18 r) _ _ _ _
 refine g_seq rfl <| g_region rfl rfl <| wl_v 0 rfl (v_assign rfl) gn rfl <| w_end 1 rfl <| g_seq rfl <| g_region rfl rfl <| wl_v 0 rfl (v_move rfl) gn rfl ?_
 obtain ⟨r23, hv24, h⟩ := h
 refine wl_s 1 rfl (s_call [.pointer (some ⟨g2, 0, none⟩), .int .i64 5, .string (⟨#[64]⟩ : ByteArray)] rfl Try.func21 rfl rfl rfl fun w20 hL21 => ?_) gn
 have hp22 := pmI hL21 (.c 0 rfl (.c 1 rfl (.c 2 rfl .n))) .n (by kernel_rfl)
 refine Calls.mono (trellisref20_Reader_take_calls w20 (Fl ([Sm w.heap.size F w [[g2], (Value.slice A8 n9 c10).ownBlock.toList, (Value.slice A14 n15 c16).ownBlock.toList]] : List Snap)) x1 5 (⟨#[64]⟩ : ByteArray) g2 Tb3 A4 n5 c6 z12 A8 n9 c10 z18 A14 n15 c16 (Rw.mono h7 (hL21.toFl (me 0 rfl) (me 0 rfl))) (Nat.le_trans hz13 hL21.env.size) h11 (Nat.le_trans hz19 hL21.env.size) h17 (hL21.hFl hp22 (sels [0] rfl)) (hL21.into hp22 _) r23 hv24) ?_
 rintro _ w39 ⟨A29, n30, c31, A34, n35, c36, A25, n26, c27, rfl, hM40, h32, h37, h28⟩
 obtain ⟨sb43, hL41, hv42⟩ := hL21.callB (Sl := ([Sm w.heap.size F w [[g2], (Value.slice A8 n9 c10).ownBlock.toList, (Value.slice A14 n15 c16).ownBlock.toList]] : List Snap)) hp22 hM40 F (sels [0] rfl) ⟨Sm.ok, trivial⟩
 have h28 : At k_api_Word (Sm w.heap.size F w39 sb43) A25 n26 c27 r23.l := Rw.mono h28 hv42
 refine ⟨_, _, _, rfl, hL41, ?_⟩
 refine w_end 2 rfl <| g_seq rfl <| g_seq rfl <| g_region rfl rfl <| wl_v 0 rfl (v_move rfl) gn rfl <| wl_v 1 rfl (v_nilCheck rfl) gn rfl <| wl_v 2 rfl (v_fldB fo_38_3 rfl) gn rfl <| wl_v 3 rfl (v_ldB1 0 ld_26 rfl rfl rfl) gn rfl <| wl_v 4 rfl (v_bin rfl rfl rfl) gn rfl <| w_end 5 rfl ?_
 by_cases hp44 : r23.e = 0
 ·have h := if_pos' hp44 h
  refine g_false rfl _ rfl ((eqib hp44)) <| g_skip rfl <| g_seq rfl <| g_region rfl rfl <| wl_v 0 rfl (v_move rfl) gn rfl ?_
  obtain ⟨r48, hv49, h⟩ := h
  refine wl_s 1 rfl (s_call [.pointer (some ⟨g2, 0, none⟩)] rfl Try.func22 rfl rfl rfl fun w45 hL46 => ?_) gn
  have hp47 := pmI hL46 (.c 0 rfl (.c 1 rfl (.c 2 rfl .n))) .n (by kernel_rfl)
  refine Calls.mono (trellisref20_Reader_takeName_calls w45 (Fl ([Sm w.heap.size F w39 sb43] : List Snap)) r23 g2 Tb3 A25 n26 c27 z12 A29 n30 c31 z18 A34 n35 c36 (Rw.mono h28 (hL46.toFl (me 0 rfl) (me 0 rfl))) (Nat.le_trans hz13 hL46.env.size) h32 (Nat.le_trans hz19 hL46.env.size) h37 (hL46.hFl hp47 (sels [0] rfl)) (hL46.into hp47 _) r48 hv49) ?_
  rintro _ w65 ⟨A54, n55, c56, A59, n60, c61, A50, n51, c52, rfl, hM66, h57, h62, h53⟩
  obtain ⟨sb69, hL67, hv68⟩ := hL46.callB (Sl := ([Sm w.heap.size F w39 sb43] : List Snap)) hp47 hM66 F (sels [0] rfl) ⟨Sm.ok, trivial⟩
  have h53 : At k_api_Word (Sm w.heap.size F w65 sb69) A50 n51 c52 r48.2.l := Rw.mono h53 hv68
  refine ⟨_, _, _, rfl, hL67, ?_⟩
  refine wl_v 2 rfl (v_assign rfl) gn rfl <| w_end 3 rfl <| g_seq rfl <| g_seq rfl ?_
  have j1 : ∀ (x80 : Bool) (h : trellisref20_Reader_capture_j1 r48 x80 r) , G (trellisref20_Reader_capture_C w F g2 Tb3 A8 n9 c10 z12 A14 n15 c16 z18 r) [.code q24c16, .code q24c14] [(0, .pointer (some ⟨g2, 0, none⟩)), (3, .string r48.1), (26, .bool x80)] [.box g2 Tb3 [.slice A50 n51 c52, .int .i64 r48.2.at_, .slice A54 n55 c56, .slice A59 n60 c61, .int .i64 r48.2.e, .int .i64 r48.2.pos], .own (.slice A54 n55 c56) 46 5 n55 (r48.2.q.nodes.flatMap enc_api_PatNode), .own (.slice A59 n60 c61) 48 4 n60 (r48.2.q.conds.flatMap enc_api_Cond)] [Sm w.heap.size F w65 sb69, Sm w.heap.size F w39 sb43, Sm w.heap.size F w [[g2], (Value.slice A8 n9 c10).ownBlock.toList, (Value.slice A14 n15 c16).ownBlock.toList], St w [[g2], (Value.slice A8 n9 c10).ownBlock.toList, (Value.slice A14 n15 c16).ownBlock.toList]] := by
   intro x80 h
   unfold trellisref20_Reader_capture_j1 at h
   by_cases hp81 : x80 = true
   ·have h := if_pos' hp81 h
    refine g_true rfl _ rfl (hp81) <| g_region rfl rfl <| wl_v 0 rfl (v_move rfl) gn rfl <| wl_v 1 rfl (v_move rfl) gn rfl <| wl_v 2 rfl (v_nilCheck rfl) gn rfl <| wl_v 3 rfl (v_fldB fo_38_1 rfl) gn rfl <| wl_v 4 rfl (v_ldB1 0 ld_3 rfl rfl rfl) gn rfl <| wl_v 5 rfl (v_bin rfl rfl rfl) gn rfl ?_
    obtain ⟨r85, hv86, h⟩ := h
    refine wl_s 6 rfl (s_call [.pointer (some ⟨g2, 0, none⟩), .int .i64 201, .int .i64 (w64 (r48.2.at_ - 1))] rfl Try.func20 rfl rfl rfl fun w82 hL83 => ?_) gn
    have hp84 := pmI hL83 (.c 0 rfl (.c 1 rfl (.c 2 rfl .n))) .n (by kernel_rfl)
    refine Calls.mono (trellisref20_Reader_stop_calls w82 (Fl ([Sm w.heap.size F w65 sb69] : List Snap)) r48.2 201 (w64 (r48.2.at_ - 1)) g2 Tb3 A50 n51 c52 z12 A54 n55 c56 z18 A59 n60 c61 (Rw.mono h53 (hL83.toFl (me 0 rfl) (me 0 rfl))) (Nat.le_trans hz13 hL83.env.size) h57 (Nat.le_trans hz19 hL83.env.size) h62 (hL83.hFl hp84 (sels [0] rfl)) (hL83.into hp84 _) r85 hv86) ?_
    rintro _ w101 ⟨A91, n92, c93, A96, n97, c98, A87, n88, c89, rfl, hM102, h94, h99, h90⟩
    obtain ⟨sb105, hL103, hv104⟩ := hL83.callB (Sl := ([Sm w.heap.size F w65 sb69] : List Snap)) hp84 hM102 F (sels [0] rfl) ⟨Sm.ok, trivial⟩
    have h90 : At k_api_Word (Sm w.heap.size F w101 sb105) A87 n88 c89 r85.l := Rw.mono h90 hv104
    refine ⟨_, _, _, rfl, hL103, ?_⟩
    refine w_end 7 rfl <| g_seq rfl <| g_region rfl rfl <| wl_v 0 rfl (v_move rfl) gn rfl <| wl_v 1 rfl (v_assign rfl) gn rfl <| w_end 2 rfl ?_
    refine g_retR [.string r48.1] rfl Try.func24 rfl (.tmp rfl (.nil)) fun wr hLr => ?_
    have hMr := hLr.pkI (.c 0 rfl (.c 1 rfl (.c 2 rfl .n))) .n (by kernel_rfl) (.c 4 rfl .n)
    have hMi := hLr.selI (.c 0 rfl (.c 1 rfl (.c 2 rfl .n)))
    show trellisref20_Reader_capture_R w F g2 Tb3 A8 n9 c10 z12 A14 n15 c16 z18 r (.returned (packV [.string r48.1])) wr
    rw [h]
    exact ⟨A91, n92, c93, A96, n97, c98, A87, n88, c89, rfl, hMr, h94, h99, (hLr.outR (s := Sm w.heap.size F w101 sb105) hMi (me 0 rfl) Sm.ok h90)⟩
   ·have h := if_neg' hp81 h
    refine g_false rfl _ rfl ((bf hp81)) <| g_skip rfl <| g_seq rfl <| g_region rfl rfl <| wl_v 0 rfl (v_move rfl) gn rfl <| wl_v 1 rfl (v_assign rfl) gn rfl <| w_end 2 rfl ?_
    refine g_retR [.string r48.1] rfl Try.func24 rfl (.tmp rfl (.nil)) fun wr hLr => ?_
    have hMr := hLr.pkI (.c 0 rfl (.c 1 rfl (.c 2 rfl .n))) .n (by kernel_rfl) (.c 3 rfl .n)
    have hMi := hLr.selI (.c 0 rfl (.c 1 rfl (.c 2 rfl .n)))
    show trellisref20_Reader_capture_R w F g2 Tb3 A8 n9 c10 z12 A14 n15 c16 z18 r (.returned (packV [.string r48.1])) wr
    rw [h]
    exact ⟨A54, n55, c56, A59, n60, c61, A50, n51, c52, rfl, hMr, h57, h62, (hLr.outR (s := Sm w.heap.size F w65 sb69) hMi (me 0 rfl) Sm.ok h53)⟩
  refine g_region rfl rfl <| wl_v 0 rfl (v_move rfl) gn rfl <| wl_v 1 rfl (v_nilCheck rfl) gn rfl <| wl_v 2 rfl (v_fldB fo_38_3 rfl) gn rfl <| wl_v 3 rfl (v_ldB1 0 ld_26 rfl rfl rfl) gn rfl <| wl_v 4 rfl (v_bin rfl rfl rfl) gn rfl <| wl_v 5 rfl (v_move rfl) gn rfl ?_
  by_cases hp106 : r48.2.e = 0
  ·have h := if_pos' hp106 h
   refine w_bool 18 rfl ((eqi hp106)) <| wl_v 6 rfl (v_move rfl) (gy 18 rfl rfl) rfl <| wl_v 7 rfl (v_nilCheck rfl) (gy 18 rfl rfl) rfl <| wl_v 8 rfl (v_fldB fo_38_2 rfl) (gy 18 rfl rfl) rfl <| wl_v 9 rfl (v_ldB [.slice A54 n55 c56, .slice A59 n60 c61] 0 ld_25 rfl rfl rfl rfl) (gy 18 rfl rfl) rfl <| wl_v 10 rfl (v_move rfl) (gy 18 rfl rfl) rfl ?_
   obtain ⟨r110, hv111, h⟩ := h
   refine wl_s 11 rfl (s_call [.agg #[.slice A54 n55 c56, .slice A59 n60 c61], .string r48.1] rfl Try.func23 rfl rfl rfl fun w107 hL108 => ?_) (gy 18 rfl rfl)
   have hp109 := pmI hL108 .n (.c 0 rfl (.c 1 rfl (.c 2 rfl .n))) (by kernel_rfl)
   refine Calls.mono (trellisref20_Node_calls w107 (Fl ([] : List Snap)) r48.2.q r48.1 A54 n55 c56 A59 n60 c61 (hL108.argO (dk := k_api_PatNode) hp109 [] rfl 1 rfl rfl h57 (me 2 rfl) (Cells.flat _)) (hL108.argO (dk := k_api_Cond) hp109 [] rfl 2 rfl rfl h62 (me 2 rfl) (Cells.flat _)) (hL108.hFl hp109 (sels [] rfl)) (hL108.into hp109 _) r110 hv111) ?_
   rintro _ w112 ⟨rfl, hM113⟩
   have hL114 := hL108.call hp109 hM113
   refine ⟨_, _, _, rfl, hL114, ?_⟩
   refine wl_v 12 rfl (v_bin rfl rfl rfl) (gy 18 rfl rfl) rfl <| wl_v 13 rfl (v_pick (b := true) rfl rfl) gn rfl <| w_end 14 rfl ?_
   exact g_go [0, 1, 2, 3] (j1 (decide (r110 < 0)) h) ⟨rfl, rfl, rfl, trivial⟩ (.cons_cons _ (.cons_cons _ (.cons_cons _ (.slnil)))) rfl
  ·have h := if_neg' hp106 h
   refine w_bool 18 rfl ((nei hp106)) <| wl_pass 6 rfl (ps 18 rfl rfl rfl) <| wl_pass 7 rfl (ps 18 rfl rfl rfl) <| wl_pass 8 rfl (ps 18 rfl rfl rfl) <| wl_pass 9 rfl (ps 18 rfl rfl rfl) <| wl_pass 10 rfl (ps 18 rfl rfl rfl) <| wl_pass 11 rfl (ps 18 rfl rfl rfl) <| wl_pass 12 rfl (ps 18 rfl rfl rfl) <| wl_v 13 rfl (v_pick (b := false) rfl rfl) gn rfl <| w_end 14 rfl ?_
   exact g_go [0, 1, 2, 3] (j1 false h) ⟨rfl, rfl, rfl, trivial⟩ (.cons_cons _ (.cons_cons _ (.cons_cons _ (.slnil)))) rfl
 ·have h := if_neg' hp44 h
  refine g_true rfl _ rfl ((neib hp44)) <| g_seq rfl <| g_region rfl rfl <| wl_v 0 rfl (v_assign rfl) gn rfl <| w_end 1 rfl ?_
  refine g_retR [.string (⟨#[]⟩ : ByteArray)] rfl Try.func24 rfl (.tmp rfl (.nil)) fun wr hLr => ?_
  have hMr := hLr.pkI (.c 0 rfl (.c 1 rfl (.c 2 rfl .n))) .n (by kernel_rfl) (.c 2 rfl .n)
  have hMi := hLr.selI (.c 0 rfl (.c 1 rfl (.c 2 rfl .n)))
  show trellisref20_Reader_capture_R w F g2 Tb3 A8 n9 c10 z12 A14 n15 c16 z18 r (.returned (packV [.string (⟨#[]⟩ : ByteArray)])) wr
  rw [h]
  exact ⟨A29, n30, c31, A34, n35, c36, A25, n26, c27, rfl, hMr, h32, h37, (hLr.outR (s := Sm w.heap.size F w39 sb43) hMi (me 0 rfl) Sm.ok h28)⟩
noncomputable abbrev q11c4 := Code.snd (Code.snd (bodyOf Try.f11))
noncomputable abbrev q11c6 := Code.snd (Code.fst (Code.snd (bodyOf Try.f11)))
noncomputable abbrev q11c24 := Code.snd (Code.snd (Code.snd (Code.snd q11c4)))
noncomputable abbrev q11c36 := Code.snd (Code.snd q11c24)
noncomputable abbrev q11c37 := Code.fst (Code.fst (Code.snd q11c24))
noncomputable abbrev q11c38 := Code.snd (Code.fst (Code.snd q11c24))
noncomputable abbrev q11c41 := Code.fst (Code.fst q11c38)
abbrev trellisref20_Reader_cond_R (w : World) (F : Nat → Prop) (g2 : Nat) (Tb3 : Nat) (A8 : Option Addr) (n9 : Nat) (c10 : Nat) (z12 : Nat) (A14 : Option Addr) (n15 : Nat) (c16 : Nat) (z18 : Nat) (r : trellisref20_Reader) : Ending → World → Prop := fun e w' => ∃ A1 : Option Addr, ∃ n1 : Nat, ∃ c1 : Nat, ∃ A2 : Option Addr, ∃ n2 : Nat, ∃ c2 : Nat, ∃ A0 : Option Addr, ∃ n0 : Nat, ∃ c0 : Nat, e = .returned (.tuple #[]) ∧ B.Loc w w' [.box g2 Tb3 [.slice A0 n0 c0, .int .i64 r.at_, .slice A1 n1 c1, .slice A2 n2 c2, .int .i64 r.e, .int .i64 r.pos], .own (.slice A1 n1 c1) 46 5 n1 (r.q.nodes.flatMap enc_api_PatNode), .own (.slice A2 n2 c2) 48 4 n2 (r.q.conds.flatMap enc_api_Cond)] [St w [[g2], (Value.slice A8 n9 c10).ownBlock.toList, (Value.slice A14 n15 c16).ownBlock.toList]] ∧ Ow z12 A1 n1 c1 r.q.nodes ∧ Ow z18 A2 n2 c2 r.q.conds ∧ Rw k_api_Word w' (Nw w w' F [.box g2 Tb3 [.slice A0 n0 c0, .int .i64 r.at_, .slice A1 n1 c1, .slice A2 n2 c2, .int .i64 r.e, .int .i64 r.pos], .own (.slice A1 n1 c1) 46 5 n1 (r.q.nodes.flatMap enc_api_PatNode), .own (.slice A2 n2 c2) 48 4 n2 (r.q.conds.flatMap enc_api_Cond)]) A0 n0 c0 r.l
noncomputable abbrev trellisref20_Reader_cond_C (w : World) (F : Nat → Prop) (g2 : Nat) (Tb3 : Nat) (A8 : Option Addr) (n9 : Nat) (c10 : Nat) (z12 : Nat) (A14 : Option Addr) (n15 : Nat) (c16 : Nat) (z18 : Nat) (r : trellisref20_Reader) : Cx := ⟨Try.prog, 11, Try.f11, 121, trellisref20_Reader_cond_R w F g2 Tb3 A8 n9 c10 z12 A14 n15 c16 z18 r, w⟩
theorem trellisref20_Reader_cond_calls (w : World) (F : Nat → Prop) (x1 : trellisref20_Reader) (g2 : Nat) (Tb3 : Nat) (A4 : Option Addr) (n5 : Nat) (c6 : Nat) (z12 : Nat) (A8 : Option Addr) (n9 : Nat) (c10 : Nat) (z18 : Nat) (A14 : Option Addr) (n15 : Nat) (c16 : Nat) (h7 : Rw k_api_Word w F A4 n5 c6 x1.l) (hz13 : z12 ≤ w.heap.size) (h11 : Ow z12 A8 n9 c10 x1.q.nodes) (hz19 : z18 ≤ w.heap.size) (h17 : Ow z18 A14 n15 c16 x1.q.conds) (hF : ∀ b, F b → b < w.heap.size ∧ ∀ o ∈ ([[g2], (Value.slice A8 n9 c10).ownBlock.toList, (Value.slice A14 n15 c16).ownBlock.toList] : List (List Nat)), b ∉ o) (hL0 : B.Loc w w [.box g2 Tb3 [.slice A4 n5 c6, .int .i64 x1.at_, .slice A8 n9 c10, .slice A14 n15 c16, .int .i64 x1.e, .int .i64 x1.pos], .own (.slice A8 n9 c10) 46 5 n9 (x1.q.nodes.flatMap enc_api_PatNode), .own (.slice A14 n15 c16) 48 4 n15 (x1.q.conds.flatMap enc_api_Cond)] [Sm w.heap.size F w [[g2], (Value.slice A8 n9 c10).ownBlock.toList, (Value.slice A14 n15 c16).ownBlock.toList], St w [[g2], (Value.slice A8 n9 c10).ownBlock.toList, (Value.slice A14 n15 c16).ownBlock.toList]]) (r : trellisref20_Reader) (h : trellisref20_Reader_cond x1 r) : Calls Try.prog 11 #[.pointer (some ⟨g2, 0, none⟩)] w (trellisref20_Reader_cond_R w F g2 Tb3 A8 n9 c10 z12 A14 n15 c16 z18 r) := by
 unfold trellisref20_Reader_cond at h
 have h7 := Rw.into (bs := [[g2], (Value.slice A8 n9 c10).ownBlock.toList, (Value.slice A14 n15 c16).ownBlock.toList]) hF h7
 refine calls_of_Loc (vs := [.pointer (some ⟨g2, 0, none⟩)]) 121 Try.func11 rfl Try.ntmps11 rfl hL0 ?_
 show G (trellisref20_Reader_cond_C w F g2 Tb3 A8 n9 c10 z12 A14 n15 c16 z18 r) _ _ _ _
 refine g_seq rfl <| g_region rfl rfl <| wl_v 0 rfl (v_move rfl) gn rfl <| wl_v 1 rfl (v_move rfl) gn rfl <| wl_v 2 rfl (v_nilCheck rfl) gn rfl <| wl_v 3 rfl (v_fldB fo_38_1 rfl) gn rfl <| wl_v 4 rfl (v_ldB1 0 ld_3 rfl rfl rfl) gn rfl ?_
 obtain ⟨r23, hv24, h⟩ := h
 refine wl_s 5 rfl (s_call [.pointer (some ⟨g2, 0, none⟩), .int .i64 x1.at_, .int .i64 1, .string (⟨#[117, 110, 108, 101, 115, 115]⟩ : ByteArray)] rfl Try.func18 rfl rfl rfl fun w20 hL21 => ?_) gn
 have hp22 := pmI hL21 (.c 0 rfl (.c 1 rfl (.c 2 rfl .n))) .n (by kernel_rfl)
 refine Calls.mono (trellisref20_Reader_sees_calls w20 (Fl ([Sm w.heap.size F w [[g2], (Value.slice A8 n9 c10).ownBlock.toList, (Value.slice A14 n15 c16).ownBlock.toList]] : List Snap)) x1 x1.at_ 1 (⟨#[117, 110, 108, 101, 115, 115]⟩ : ByteArray) g2 Tb3 A4 n5 c6 z12 A8 n9 c10 z18 A14 n15 c16 (Rw.mono h7 (hL21.toFl (me 0 rfl) (me 0 rfl))) (Nat.le_trans hz13 hL21.env.size) h11 (Nat.le_trans hz19 hL21.env.size) h17 (hL21.hFl hp22 (sels [0] rfl)) (hL21.into hp22 _) r23 hv24) ?_
 rintro _ w39 ⟨A29, n30, c31, A34, n35, c36, A25, n26, c27, rfl, hM40, h32, h37, h28⟩
 obtain ⟨sb43, hL41, hv42⟩ := hL21.callB (Sl := ([Sm w.heap.size F w [[g2], (Value.slice A8 n9 c10).ownBlock.toList, (Value.slice A14 n15 c16).ownBlock.toList]] : List Snap)) hp22 hM40 F (sels [0] rfl) ⟨Sm.ok, trivial⟩
 have h28 : At k_api_Word (Sm w.heap.size F w39 sb43) A25 n26 c27 r23.2.l := Rw.mono h28 hv42
 refine ⟨_, _, _, rfl, hL41, ?_⟩
 refine wl_v 6 rfl (v_assign rfl) gn rfl <| w_end 7 rfl <| g_seq rfl <| g_seq rfl ?_
 have j1 : ∀ (x71 : Bool) (x72 : List api_Word) (x79 : Int) (x80 : List api_PatNode) (x85 : List api_Cond) (x90 : Int) (x91 : Int) (h : trellisref20_Reader_cond_j1 r23 x71 x72 x79 x80 x85 x90 x91 r) (A73 : Option Addr) (n74 : Nat) (c75 : Nat) (sw76 : World) (sb77 : List (List Nat)) (h78 : At k_api_Word (Sm w.heap.size F sw76 sb77) A73 n74 c75 x72) (A81 : Option Addr) (n82 : Nat) (c83 : Nat) (h84 : Ow z12 A81 n82 c83 x80) (A86 : Option Addr) (n87 : Nat) (c88 : Nat) (h89 : Ow z18 A86 n87 c88 x85), G (trellisref20_Reader_cond_C w F g2 Tb3 A8 n9 c10 z12 A14 n15 c16 z18 r) [.code q11c6, .code q11c4] [(0, .pointer (some ⟨g2, 0, none⟩)), (2, .bool r23.1), (20, .bool x71)] [.own (.slice A81 n82 c83) 46 5 n82 (x80.flatMap enc_api_PatNode), .own (.slice A86 n87 c88) 48 4 n87 (x85.flatMap enc_api_Cond), .box g2 Tb3 [.slice A73 n74 c75, .int .i64 x79, .slice A81 n82 c83, .slice A86 n87 c88, .int .i64 x90, .int .i64 x91]] [Sm w.heap.size F sw76 sb77, Sm w.heap.size F w39 sb43, Sm w.heap.size F w [[g2], (Value.slice A8 n9 c10).ownBlock.toList, (Value.slice A14 n15 c16).ownBlock.toList], St w [[g2], (Value.slice A8 n9 c10).ownBlock.toList, (Value.slice A14 n15 c16).ownBlock.toList]] := by
  intro x71 x72 x79 x80 x85 x90 x91 h A73 n74 c75 sw76 sb77 h78 A81 n82 c83 h84 A86 n87 c88 h89
  unfold trellisref20_Reader_cond_j1 at h
  by_cases hp92 : x71 = true
  ·have h := if_pos' hp92 h
   refine g_true rfl _ rfl (hp92) <| g_seq rfl <| g_region rfl rfl <| wl_v 0 rfl (v_move rfl) gn rfl <| wl_v 1 rfl (v_move rfl) gn rfl <| wl_v 2 rfl (v_nilCheck rfl) gn rfl <| wl_v 3 rfl (v_fldB fo_38_1 rfl) gn rfl <| wl_v 4 rfl (v_ldB1 2 ld_3 rfl rfl rfl) gn rfl ?_
   obtain ⟨r96, hv97, h⟩ := h
   refine wl_s 5 rfl (s_call [.pointer (some ⟨g2, 0, none⟩), .int .i64 200, .int .i64 x79] rfl Try.func20 rfl rfl rfl fun w93 hL94 => ?_) gn
   have hp95 := pmI hL94 (.c 2 rfl (.c 0 rfl (.c 1 rfl .n))) .n (by kernel_rfl)
   refine Calls.mono (trellisref20_Reader_stop_calls w93 (Fl ([Sm w.heap.size F sw76 sb77] : List Snap)) (⟨x72, x79, (⟨x80, x85⟩ : api_Query), x90, x91⟩ : trellisref20_Reader) 200 x79 g2 Tb3 A73 n74 c75 z12 A81 n82 c83 z18 A86 n87 c88 (Rw.mono h78 (hL94.toFl (me 0 rfl) (me 0 rfl))) (Nat.le_trans hz13 hL94.env.size) h84 (Nat.le_trans hz19 hL94.env.size) h89 (hL94.hFl hp95 (sels [0] rfl)) (hL94.into hp95 _) r96 hv97) ?_
   rintro _ w112 ⟨A102, n103, c104, A107, n108, c109, A98, n99, c100, rfl, hM113, h105, h110, h101⟩
   obtain ⟨sb116, hL114, hv115⟩ := hL94.callB (Sl := ([Sm w.heap.size F sw76 sb77] : List Snap)) hp95 hM113 F (sels [0] rfl) ⟨Sm.ok, trivial⟩
   have h101 : At k_api_Word (Sm w.heap.size F w112 sb116) A98 n99 c100 r96.l := Rw.mono h101 hv115
   refine ⟨_, _, _, rfl, hL114, ?_⟩
   refine w_end 6 rfl ?_
   refine g_retR [] rfl Try.func11 rfl (.nil) fun wr hLr => ?_
   have hMr := hLr.pkI (.c 0 rfl (.c 1 rfl (.c 2 rfl .n))) .n (by kernel_rfl) (.c 4 rfl .n)
   have hMi := hLr.selI (.c 0 rfl (.c 1 rfl (.c 2 rfl .n)))
   show trellisref20_Reader_cond_R w F g2 Tb3 A8 n9 c10 z12 A14 n15 c16 z18 r (.returned (packV [])) wr
   rw [h]
   exact ⟨A102, n103, c104, A107, n108, c109, A98, n99, c100, rfl, hMr, h105, h110, (hLr.outR (s := Sm w.heap.size F w112 sb116) hMi (me 0 rfl) Sm.ok h101)⟩
  ·have h := if_neg' hp92 h
   refine g_false rfl _ rfl ((bf hp92)) <| g_skip rfl <| g_seq rfl <| g_seq rfl <| g_region rfl rfl <| wl_v 0 rfl (v_move rfl) gn rfl <| wl_v 1 rfl (v_nilCheck rfl) gn rfl <| wl_v 2 rfl (v_fldB fo_38_2 rfl) gn rfl <| wl_v 3 rfl (v_fldB fo_25_1 rfl) gn rfl <| wl_v 4 rfl (v_ldB1 2 ld_23 rfl rfl rfl) gn rfl <| wl_v 5 rfl (v_lenQ un_23 rfl h89.hq) gn rfl <| wl_v 6 rfl (v_bin rfl rfl rfl) gn rfl ?_
   refine w_end 7 rfl ?_
   by_cases hp117 : (x85.length : Int) ≥ 16
   ·have h := if_pos' hp117 h
    refine g_true rfl _ rfl ((decide_eq_true hp117)) <| g_seq rfl <| g_region rfl rfl <| wl_v 0 rfl (v_move rfl) gn rfl <| wl_v 1 rfl (v_move rfl) gn rfl <| wl_v 2 rfl (v_nilCheck rfl) gn rfl <| wl_v 3 rfl (v_fldB fo_38_1 rfl) gn rfl <| wl_v 4 rfl (v_ldB1 2 ld_3 rfl rfl rfl) gn rfl ?_
    obtain ⟨r121, hv122, h⟩ := h
    refine wl_s 5 rfl (s_call [.pointer (some ⟨g2, 0, none⟩), .int .i64 202, .int .i64 x79] rfl Try.func20 rfl rfl rfl fun w118 hL119 => ?_) gn
    have hp120 := pmI hL119 (.c 2 rfl (.c 0 rfl (.c 1 rfl .n))) .n (by kernel_rfl)
    refine Calls.mono (trellisref20_Reader_stop_calls w118 (Fl ([Sm w.heap.size F sw76 sb77] : List Snap)) (⟨x72, x79, (⟨x80, x85⟩ : api_Query), x90, x91⟩ : trellisref20_Reader) 202 x79 g2 Tb3 A73 n74 c75 z12 A81 n82 c83 z18 A86 n87 c88 (Rw.mono h78 (hL119.toFl (me 0 rfl) (me 0 rfl))) (Nat.le_trans hz13 hL119.env.size) h84 (Nat.le_trans hz19 hL119.env.size) h89 (hL119.hFl hp120 (sels [0] rfl)) (hL119.into hp120 _) r121 hv122) ?_
    rintro _ w137 ⟨A127, n128, c129, A132, n133, c134, A123, n124, c125, rfl, hM138, h130, h135, h126⟩
    obtain ⟨sb141, hL139, hv140⟩ := hL119.callB (Sl := ([Sm w.heap.size F sw76 sb77] : List Snap)) hp120 hM138 F (sels [0] rfl) ⟨Sm.ok, trivial⟩
    have h126 : At k_api_Word (Sm w.heap.size F w137 sb141) A123 n124 c125 r121.l := Rw.mono h126 hv140
    refine ⟨_, _, _, rfl, hL139, ?_⟩
    refine w_end 6 rfl ?_
    refine g_retR [] rfl Try.func11 rfl (.nil) fun wr hLr => ?_
    have hMr := hLr.pkI (.c 0 rfl (.c 1 rfl (.c 2 rfl .n))) .n (by kernel_rfl) (.c 4 rfl .n)
    have hMi := hLr.selI (.c 0 rfl (.c 1 rfl (.c 2 rfl .n)))
    show trellisref20_Reader_cond_R w F g2 Tb3 A8 n9 c10 z12 A14 n15 c16 z18 r (.returned (packV [])) wr
    rw [h]
    exact ⟨A127, n128, c129, A132, n133, c134, A123, n124, c125, rfl, hMr, h130, h135, (hLr.outR (s := Sm w.heap.size F w137 sb141) hMi (me 0 rfl) Sm.ok h126)⟩
   ·have h := if_neg' hp117 h
    refine g_false rfl _ rfl ((decide_eq_false hp117)) <| g_skip rfl <| g_seq rfl <| g_region rfl rfl <| wl_v 0 rfl (v_move rfl) gn rfl <| wl_v 1 rfl (v_nilCheck rfl) gn rfl <| wl_v 2 rfl (v_fldB fo_38_1 rfl) gn rfl <| wl_v 3 rfl (v_ldB1 2 ld_3 rfl rfl rfl) gn rfl <| wl_v 4 rfl (v_bin rfl rfl rfl) gn rfl <| wl_v 5 rfl (v_nilCheck rfl) gn rfl <| wl_v 6 rfl (v_fldB fo_38_1 rfl) gn rfl ?_
    refine wl_s 7 rfl (s_stB (vs := [.int .i64 (w64 (x79 + 1))]) (cs' := [.slice A73 n74 c75, .int .i64 (w64 (x79 + 1)), .slice A81 n82 c83, .slice A86 n87 c88, .int .i64 x90, .int .i64 x91]) (M' := [.own (.slice A81 n82 c83) 46 5 n82 (x80.flatMap enc_api_PatNode), .own (.slice A86 n87 c88) 48 4 n87 (x85.flatMap enc_api_Cond), .box g2 Tb3 [.slice A73 n74 c75, .int .i64 (w64 (x79 + 1)), .slice A81 n82 c83, .slice A86 n87 c88, .int .i64 x90, .int .i64 x91]]) 2 sz_3 rfl rfl rfl rfl rfl rfl rfl rfl rfl ?_) gn
    refine w_end 8 rfl <| g_seq rfl <| g_region rfl rfl <| wl_v 0 rfl (v_move rfl) gn rfl <| wl_v 1 rfl (v_move rfl) gn rfl ?_
    obtain ⟨r145, hv146, h⟩ := h
    refine wl_s 2 rfl (s_call [.pointer (some ⟨g2, 0, none⟩)] rfl Try.func24 rfl rfl rfl fun w142 hL143 => ?_) gn
    have hp144 := pmI hL143 (.c 2 rfl (.c 0 rfl (.c 1 rfl .n))) .n (by kernel_rfl)
    refine Calls.mono (trellisref20_Reader_capture_calls w142 (Fl ([Sm w.heap.size F sw76 sb77] : List Snap)) (⟨x72, w64 (x79 + 1), (⟨x80, x85⟩ : api_Query), x90, x91⟩ : trellisref20_Reader) g2 Tb3 A73 n74 c75 z12 A81 n82 c83 z18 A86 n87 c88 (Rw.mono h78 (hL143.toFl (me 0 rfl) (me 0 rfl))) (Nat.le_trans hz13 hL143.env.size) h84 (Nat.le_trans hz19 hL143.env.size) h89 (hL143.hFl hp144 (sels [0] rfl)) (hL143.into hp144 _) r145 hv146) ?_
    rintro _ w161 ⟨A151, n152, c153, A156, n157, c158, A147, n148, c149, rfl, hM162, h154, h159, h150⟩
    obtain ⟨sb165, hL163, hv164⟩ := hL143.callB (Sl := ([Sm w.heap.size F sw76 sb77] : List Snap)) hp144 hM162 F (sels [0] rfl) ⟨Sm.ok, trivial⟩
    have h150 : At k_api_Word (Sm w.heap.size F w161 sb165) A147 n148 c149 r145.2.l := Rw.mono h150 hv164
    refine ⟨_, _, _, rfl, hL163, ?_⟩
    refine wl_v 3 rfl (v_build #[.bool r23.1, .string r145.1, .string (⟨#[]⟩ : ByteArray), .string (⟨#[]⟩ : ByteArray)] bd_48 rfl (by kernel_rfl)) gn rfl ?_
    refine wl_s 4 rfl (s_alloc [.bool false, .string (⟨#[]⟩ : ByteArray), .string (⟨#[]⟩ : ByteArray), .string (⟨#[]⟩ : ByteArray)] zr_48 rfl fun gb166 => ?_) gn
    refine wl_s 5 rfl (s_stB (vs := [.bool r23.1, .string r145.1, .string (⟨#[]⟩ : ByteArray), .string (⟨#[]⟩ : ByteArray)]) (cs' := [.bool r23.1, .string r145.1, .string (⟨#[]⟩ : ByteArray), .string (⟨#[]⟩ : ByteArray)]) (M' := [.box gb166 48 [.bool r23.1, .string r145.1, .string (⟨#[]⟩ : ByteArray), .string (⟨#[]⟩ : ByteArray)], .box g2 Tb3 [.slice A147 n148 c149, .int .i64 r145.2.at_, .slice A151 n152 c153, .slice A156 n157 c158, .int .i64 r145.2.e, .int .i64 r145.2.pos], .own (.slice A151 n152 c153) 46 5 n152 (r145.2.q.nodes.flatMap enc_api_PatNode), .own (.slice A156 n157 c158) 48 4 n157 (r145.2.q.conds.flatMap enc_api_Cond)]) 0 sz_48 rfl rfl rfl rfl rfl rfl rfl rfl rfl ?_) gn
    refine w_end 6 rfl <| g_seq rfl <| g_seq rfl <| g_region rfl rfl <| wl_v 0 rfl (v_move rfl) gn rfl <| wl_v 1 rfl (v_nilCheck rfl) gn rfl <| wl_v 2 rfl (v_fldB fo_38_3 rfl) gn rfl <| wl_v 3 rfl (v_ldB1 1 ld_26 rfl rfl rfl) gn rfl <| wl_v 4 rfl (v_bin rfl rfl rfl) gn rfl <| w_end 5 rfl ?_
    have j2 : ∀ (x194 : List api_Word) (x201 : Int) (x202 : List api_PatNode) (x207 : List api_Cond) (x212 : Int) (x213 : Int) (h : trellisref20_Reader_cond_j2 r23 r145 x194 x201 x202 x207 x212 x213 r) (A195 : Option Addr) (n196 : Nat) (c197 : Nat) (sw198 : World) (sb199 : List (List Nat)) (h200 : At k_api_Word (Sm w.heap.size F sw198 sb199) A195 n196 c197 x194) (A203 : Option Addr) (n204 : Nat) (c205 : Nat) (h206 : Ow z12 A203 n204 c205 x202) (A208 : Option Addr) (n209 : Nat) (c210 : Nat) (h211 : Ow z18 A208 n209 c210 x207), G (trellisref20_Reader_cond_C w F g2 Tb3 A8 n9 c10 z12 A14 n15 c16 z18 r) [.code q11c24] [(0, .pointer (some ⟨g2, 0, none⟩)), (3, .pointer (some ⟨gb166, 0, none⟩))] [.own (.slice A203 n204 c205) 46 5 n204 (x202.flatMap enc_api_PatNode), .own (.slice A208 n209 c210) 48 4 n209 (x207.flatMap enc_api_Cond), .box g2 Tb3 [.slice A195 n196 c197, .int .i64 x201, .slice A203 n204 c205, .slice A208 n209 c210, .int .i64 x212, .int .i64 x213], .box gb166 48 [.bool r23.1, .string r145.1, .string (⟨#[]⟩ : ByteArray), .string (⟨#[]⟩ : ByteArray)]] [Sm w.heap.size F sw198 sb199, Sm w.heap.size F w161 sb165, Sm w.heap.size F sw76 sb77, Sm w.heap.size F w39 sb43, Sm w.heap.size F w [[g2], (Value.slice A8 n9 c10).ownBlock.toList, (Value.slice A14 n15 c16).ownBlock.toList], St w [[g2], (Value.slice A8 n9 c10).ownBlock.toList, (Value.slice A14 n15 c16).ownBlock.toList]] := by
     intro x194 x201 x202 x207 x212 x213 h A195 n196 c197 sw198 sb199 h200 A203 n204 c205 h206 A208 n209 c210 h211
     unfold trellisref20_Reader_cond_j2 at h
     refine g_seq rfl <| g_seq rfl <| g_region rfl rfl <| wl_v 0 rfl (v_move rfl) gn rfl <| wl_v 1 rfl (v_nilCheck rfl) gn rfl <| wl_v 2 rfl (v_fldB fo_38_3 rfl) gn rfl <| wl_v 3 rfl (v_ldB1 2 ld_26 rfl rfl rfl) gn rfl <| wl_v 4 rfl (v_bin rfl rfl rfl) gn rfl <| w_end 5 rfl ?_
     by_cases hp214 : x212 = 0
     ·have h := if_pos' hp214 h
      refine g_false rfl _ rfl ((eqib hp214)) <| g_skip rfl <| g_seq rfl <| g_seq rfl ?_
      have j3 : ∀ (x221 : Bool) (h : trellisref20_Reader_cond_j3 x201 x194 x207 r23 r145 x202 x212 x213 x221 r) , G (trellisref20_Reader_cond_C w F g2 Tb3 A8 n9 c10 z12 A14 n15 c16 z18 r) [.code q11c38, .code q11c36] [(0, .pointer (some ⟨g2, 0, none⟩)), (3, .pointer (some ⟨gb166, 0, none⟩)), (86, .bool x221)] [.own (.slice A203 n204 c205) 46 5 n204 (x202.flatMap enc_api_PatNode), .own (.slice A208 n209 c210) 48 4 n209 (x207.flatMap enc_api_Cond), .box g2 Tb3 [.slice A195 n196 c197, .int .i64 x201, .slice A203 n204 c205, .slice A208 n209 c210, .int .i64 x212, .int .i64 x213], .box gb166 48 [.bool r23.1, .string r145.1, .string (⟨#[]⟩ : ByteArray), .string (⟨#[]⟩ : ByteArray)]] [Sm w.heap.size F sw198 sb199, Sm w.heap.size F w161 sb165, Sm w.heap.size F sw76 sb77, Sm w.heap.size F w39 sb43, Sm w.heap.size F w [[g2], (Value.slice A8 n9 c10).ownBlock.toList, (Value.slice A14 n15 c16).ownBlock.toList], St w [[g2], (Value.slice A8 n9 c10).ownBlock.toList, (Value.slice A14 n15 c16).ownBlock.toList]] := by
       intro x221 h
       unfold trellisref20_Reader_cond_j3 at h
       by_cases hp222 : x221 = true
       ·have h := if_pos' hp222 h
        refine g_true rfl _ rfl (hp222) <| g_seq rfl ?_
        obtain ⟨hb223, h⟩ := h
        have hns : Region.noSelect (Code.ops q11c41) = true := by kernel_rfl
        refine g_drawG [12] 13 rfl rfl mix rfl (.c 0 rfl (.c 1 rfl (.c 2 rfl (.c 3 rfl (.c 4 rfl (.c 5 rfl .n)))))) <| wfv 0 rfl (v_move rfl) gn hns (by kernel_rfl) <| wfv 1 rfl (v_nilCheck rfl) gn hns (by kernel_rfl) <| wfv 2 rfl (v_fldB fo_38_0 rfl) gn hns (by kernel_rfl) <| wfv 3 rfl (v_ldB1 2 ld_33 rfl rfl rfl) gn hns (by kernel_rfl) <| wfv 4 rfl (v_move rfl) gn hns (by kernel_rfl) <| wfv 5 rfl (v_nilCheck rfl) gn hns (by kernel_rfl) <| wfv 6 rfl (v_fldB fo_38_1 rfl) gn hns (by kernel_rfl) <| wfv 7 rfl (v_ldB1 2 ld_3 rfl rfl rfl) gn hns (by kernel_rfl) ?_
        have hr226 := Rw.readF (s := Sm w.heap.size F sw198 sb199) (hl := hl_api_Word) (h1 := h1_api_Word) h200 hb223
        refine wfv 8 rfl (v_idxR (s := Sm w.heap.size F sw198 sb199) slE_33 rfl rfl h200 hb223) gn hns (by kernel_rfl) <| wfv 9 rfl (v_fldA fo_41_1 rfl) gn hns (by kernel_rfl) <| wfv 10 rfl (v_ldA1 (kk := (x201 : Int).toNat * 4) (j := 1) (Sm w.heap.size F sw198 sb199) ld_9 rfl hr226 rfl (me 0 rfl)) gn hns (by kernel_rfl) <| wfv 11 rfl (v_fldB fo_48_3 rfl) gn hns (by kernel_rfl) ?_
        refine wf_all [12] (by kernel_rfl) rfl ⟨on_l 12 rfl gn rfl (s_stB (vs := [.string ((ix x194 x201).text)]) (cs' := [.bool r23.1, .string r145.1, .string (⟨#[]⟩ : ByteArray), .string ((ix x194 x201).text)]) (M' := [.own (.slice A203 n204 c205) 46 5 n204 (x202.flatMap enc_api_PatNode), .own (.slice A208 n209 c210) 48 4 n209 (x207.flatMap enc_api_Cond), .box g2 Tb3 [.slice A195 n196 c197, .int .i64 x201, .slice A203 n204 c205, .slice A208 n209 c210, .int .i64 x212, .int .i64 x213], .box gb166 48 [.bool r23.1, .string r145.1, .string (⟨#[]⟩ : ByteArray), .string ((ix x194 x201).text)]]) 3 sz_9 rfl rfl rfl rfl rfl rfl rfl rfl rfl ?_), trivial⟩
        unfold NxL
        refine wf_end (by kernel_rfl) <| g_region rfl rfl <| wl_v 0 rfl (v_move rfl) gn rfl <| wl_v 1 rfl (v_nilCheck rfl) gn rfl <| wl_v 2 rfl (v_fldB fo_38_1 rfl) gn rfl <| wl_v 3 rfl (v_ldB1 2 ld_3 rfl rfl rfl) gn rfl <| wl_v 4 rfl (v_bin rfl rfl rfl) gn rfl <| wl_v 5 rfl (v_nilCheck rfl) gn rfl <| wl_v 6 rfl (v_fldB fo_38_1 rfl) gn rfl ?_
        refine wl_s 7 rfl (s_stB (vs := [.int .i64 (w64 (x201 + 1))]) (cs' := [.slice A195 n196 c197, .int .i64 (w64 (x201 + 1)), .slice A203 n204 c205, .slice A208 n209 c210, .int .i64 x212, .int .i64 x213]) (M' := [.own (.slice A203 n204 c205) 46 5 n204 (x202.flatMap enc_api_PatNode), .own (.slice A208 n209 c210) 48 4 n209 (x207.flatMap enc_api_Cond), .box g2 Tb3 [.slice A195 n196 c197, .int .i64 (w64 (x201 + 1)), .slice A203 n204 c205, .slice A208 n209 c210, .int .i64 x212, .int .i64 x213], .box gb166 48 [.bool r23.1, .string r145.1, .string (⟨#[]⟩ : ByteArray), .string ((ix x194 x201).text)]]) 2 sz_3 rfl rfl rfl rfl rfl rfl rfl rfl rfl ?_) gn
        refine w_end 8 rfl ?_
        obtain ⟨x233, hv234, h⟩ := h
        obtain ⟨hb235, h⟩ := h
        have hns : Region.noSelect (Code.ops q11c36) = true := by kernel_rfl
        refine g_drawF [.own (.slice A203 n204 c205) 46 5 n204 (x202.flatMap enc_api_PatNode), .box g2 Tb3 [.slice A195 n196 c197, .int .i64 (w64 (x201 + 1)), .slice A203 n204 c205, .slice A208 n209 c210, .int .i64 x212, .int .i64 x213], .box gb166 48 [.bool r23.1, .string r145.1, .string (⟨#[]⟩ : ByteArray), .string ((ix x194 x201).text)]] [Sm w.heap.size F sw198 sb199, Sm w.heap.size F w161 sb165, Sm w.heap.size F sw76 sb77, Sm w.heap.size F w39 sb43, Sm w.heap.size F w [[g2], (Value.slice A8 n9 c10).ownBlock.toList, (Value.slice A14 n15 c16).ownBlock.toList], St w [[g2], (Value.slice A8 n9 c10).ownBlock.toList, (Value.slice A14 n15 c16).ownBlock.toList]] [12] 13 rfl rfl mix rfl (.cons_cons _ (.cons _ (.cons_cons _ (.cons_cons _ (.slnil))))) (sels [0, 1, 2, 3, 4, 5] rfl) <| wfv 0 rfl (v_move rfl) gn hns (by kernel_rfl) <| wfv 1 rfl (v_move rfl) gn hns (by kernel_rfl) <| wfv 2 rfl (v_nilCheck rfl) gn hns (by kernel_rfl) <| wfv 3 rfl (v_fldB fo_38_2 rfl) gn hns (by kernel_rfl) <| wfv 4 rfl (v_fldB fo_25_1 rfl) gn hns (by kernel_rfl) <| wfv 5 rfl (v_ldB1 1 ld_23 rfl rfl rfl) gn hns (by kernel_rfl) <| wfv 6 rfl (v_ldB [.bool r23.1, .string r145.1, .string (⟨#[]⟩ : ByteArray), .string ((ix x194 x201).text)] 2 ld_48 rfl rfl rfl rfl) gn hns (by kernel_rfl) ?_
        refine wf_all [7] (by kernel_rfl) rfl ⟨on_s 7 rfl gn rfl (s_litO (xs := ([(⟨r23.1, r145.1, (⟨#[]⟩ : ByteArray), (ix x194 x201).text⟩ : api_Cond)] : List api_Cond)) [.bool r23.1, .string r145.1, .string (⟨#[]⟩ : ByteArray), .string ((ix x194 x201).text)] bs_23_1 rfl (by kernel_rfl) rfl rfl rfl rfl fun gb248 h249 => ?_), trivial⟩
        refine ⟨sels [1, 3, 4] rfl, sels [0, 1, 2, 3, 4, 5] rfl, ?_⟩
        refine wf_all [8] (by kernel_rfl) rfl ⟨on_s 8 rfl gn rfl (s_app (zs := x233) (cells' := x233.flatMap enc_api_Cond) 2 ap_23 rfl rfl rfl h211 hz19 (Src.ownF (hl := hl_api_Cond) (h1 := h1_api_Cond) 0 rfl h249) (by rw [hv234, List.flatMap_append] <;> rfl) (app_len hv234 h249.hq) hb235 rfl rfl fun A253 c254 h255 => ?_), trivial⟩
        refine ⟨sels [1, 3, 4] rfl, sels [0, 1, 2, 3, 4, 5] rfl, ?_⟩
        refine wfv 9 rfl (v_nilCheck rfl) gn hns (by kernel_rfl) <| wfv 10 rfl (v_fldB fo_38_2 rfl) gn hns (by kernel_rfl) <| wfv 11 rfl (v_fldB fo_25_1 rfl) gn hns (by kernel_rfl) ?_
        refine wf_all [12] (by kernel_rfl) rfl ⟨on_l 12 rfl gn rfl (s_stB (vs := [.slice A253 (n209 + 1) c254]) (cs' := [.slice A195 n196 c197, .int .i64 (w64 (x201 + 1)), .slice A203 n204 c205, .slice A253 (n209 + 1) c254, .int .i64 x212, .int .i64 x213]) (M' := [.own (.slice (some ⟨gb248, 0, none⟩) 1 1) 48 4 1 (([(⟨r23.1, r145.1, (⟨#[]⟩ : ByteArray), (ix x194 x201).text⟩ : api_Cond)] : List api_Cond).flatMap enc_api_Cond), .own (.slice A203 n204 c205) 46 5 n204 (x202.flatMap enc_api_PatNode), .own (.slice A253 (n209 + 1) c254) 48 4 (n209 + 1) (x233.flatMap enc_api_Cond), .box g2 Tb3 [.slice A195 n196 c197, .int .i64 (w64 (x201 + 1)), .slice A203 n204 c205, .slice A253 (n209 + 1) c254, .int .i64 x212, .int .i64 x213], .box gb166 48 [.bool r23.1, .string r145.1, .string (⟨#[]⟩ : ByteArray), .string ((ix x194 x201).text)]]) 3 sz_23 rfl rfl rfl rfl rfl rfl rfl rfl rfl ?_), trivial⟩
        unfold NxL
        refine wf_end (by kernel_rfl) ?_
        refine g_endR [] Try.func11 rfl (.nil) fun wr hLr => ?_
        have hMr := hLr.pkI (.c 3 rfl (.c 1 rfl (.c 2 rfl .n))) (.c 0 rfl (.c 4 rfl .n)) (by kernel_rfl) (.c 5 rfl .n)
        have hMi := hLr.selI (.c 3 rfl (.c 1 rfl (.c 2 rfl .n)))
        show trellisref20_Reader_cond_R w F g2 Tb3 A8 n9 c10 z12 A14 n15 c16 z18 r (.returned (packV [])) wr
        rw [h]
        exact ⟨A203, n204, c205, A253, n209 + 1, c254, A195, n196, c197, rfl, hMr, h206, h255, (hLr.outR (s := Sm w.heap.size F sw198 sb199) hMi (me 0 rfl) Sm.ok h200)⟩
       ·have h := if_neg' hp222 h
        refine g_false rfl _ rfl ((bf hp222)) <| g_region rfl rfl <| wl_v 0 rfl (v_move rfl) gn rfl ?_
        obtain ⟨r259, hv260, h⟩ := h
        refine wl_s 1 rfl (s_call [.pointer (some ⟨g2, 0, none⟩)] rfl Try.func24 rfl rfl rfl fun w256 hL257 => ?_) gn
        have hp258 := pmI hL257 (.c 2 rfl (.c 0 rfl (.c 1 rfl .n))) (.c 3 rfl .n) (by kernel_rfl)
        refine Calls.mono (trellisref20_Reader_capture_calls w256 (Fl ([Sm w.heap.size F sw198 sb199] : List Snap)) (⟨x194, x201, (⟨x202, x207⟩ : api_Query), x212, x213⟩ : trellisref20_Reader) g2 Tb3 A195 n196 c197 z12 A203 n204 c205 z18 A208 n209 c210 (Rw.mono h200 (hL257.toFl (me 0 rfl) (me 0 rfl))) (Nat.le_trans hz13 hL257.env.size) h206 (Nat.le_trans hz19 hL257.env.size) h211 (hL257.hFl hp258 (sels [0] rfl)) (hL257.into hp258 _) r259 hv260) ?_
        rintro _ w275 ⟨A265, n266, c267, A270, n271, c272, A261, n262, c263, rfl, hM276, h268, h273, h264⟩
        obtain ⟨sb279, hL277, hv278⟩ := hL257.callB (Sl := ([Sm w.heap.size F sw198 sb199] : List Snap)) hp258 hM276 F (sels [0] rfl) ⟨Sm.ok, trivial⟩
        have h264 : At k_api_Word (Sm w.heap.size F w275 sb279) A261 n262 c263 r259.2.l := Rw.mono h264 hv278
        refine ⟨_, _, _, rfl, hL277, ?_⟩
        refine wl_v 2 rfl (v_fldB fo_48_2 rfl) gn rfl ?_
        refine wl_s 3 rfl (s_stB (vs := [.string r259.1]) (cs' := [.bool r23.1, .string r145.1, .string r259.1, .string (⟨#[]⟩ : ByteArray)]) (M' := [.box g2 Tb3 [.slice A261 n262 c263, .int .i64 r259.2.at_, .slice A265 n266 c267, .slice A270 n271 c272, .int .i64 r259.2.e, .int .i64 r259.2.pos], .own (.slice A265 n266 c267) 46 5 n266 (r259.2.q.nodes.flatMap enc_api_PatNode), .own (.slice A270 n271 c272) 48 4 n271 (r259.2.q.conds.flatMap enc_api_Cond), .box gb166 48 [.bool r23.1, .string r145.1, .string r259.1, .string (⟨#[]⟩ : ByteArray)]]) 3 sz_9 rfl rfl rfl rfl rfl rfl rfl rfl rfl ?_) gn
        refine w_end 4 rfl ?_
        obtain ⟨x286, hv287, h⟩ := h
        obtain ⟨hb288, h⟩ := h
        have hns : Region.noSelect (Code.ops q11c36) = true := by kernel_rfl
        refine g_drawF [.box g2 Tb3 [.slice A261 n262 c263, .int .i64 r259.2.at_, .slice A265 n266 c267, .slice A270 n271 c272, .int .i64 r259.2.e, .int .i64 r259.2.pos], .own (.slice A265 n266 c267) 46 5 n266 (r259.2.q.nodes.flatMap enc_api_PatNode), .box gb166 48 [.bool r23.1, .string r145.1, .string r259.1, .string (⟨#[]⟩ : ByteArray)]] [Sm w.heap.size F w275 sb279, Sm w.heap.size F sw198 sb199, Sm w.heap.size F w161 sb165, Sm w.heap.size F sw76 sb77, Sm w.heap.size F w39 sb43, Sm w.heap.size F w [[g2], (Value.slice A8 n9 c10).ownBlock.toList, (Value.slice A14 n15 c16).ownBlock.toList], St w [[g2], (Value.slice A8 n9 c10).ownBlock.toList, (Value.slice A14 n15 c16).ownBlock.toList]] [12] 13 rfl rfl mix rfl (.cons_cons _ (.cons_cons _ (.cons _ (.cons_cons _ (.slnil))))) (sels [0, 1, 2, 3, 4, 5, 6] rfl) <| wfv 0 rfl (v_move rfl) gn hns (by kernel_rfl) <| wfv 1 rfl (v_move rfl) gn hns (by kernel_rfl) <| wfv 2 rfl (v_nilCheck rfl) gn hns (by kernel_rfl) <| wfv 3 rfl (v_fldB fo_38_2 rfl) gn hns (by kernel_rfl) <| wfv 4 rfl (v_fldB fo_25_1 rfl) gn hns (by kernel_rfl) <| wfv 5 rfl (v_ldB1 0 ld_23 rfl rfl rfl) gn hns (by kernel_rfl) <| wfv 6 rfl (v_ldB [.bool r23.1, .string r145.1, .string r259.1, .string (⟨#[]⟩ : ByteArray)] 2 ld_48 rfl rfl rfl rfl) gn hns (by kernel_rfl) ?_
        refine wf_all [7] (by kernel_rfl) rfl ⟨on_s 7 rfl gn rfl (s_litO (xs := ([(⟨r23.1, r145.1, r259.1, (⟨#[]⟩ : ByteArray)⟩ : api_Cond)] : List api_Cond)) [.bool r23.1, .string r145.1, .string r259.1, .string (⟨#[]⟩ : ByteArray)] bs_23_1 rfl (by kernel_rfl) rfl rfl rfl rfl fun gb301 h302 => ?_), trivial⟩
        refine ⟨sels [1, 2, 4] rfl, sels [0, 1, 2, 3, 4, 5, 6] rfl, ?_⟩
        refine wf_all [8] (by kernel_rfl) rfl ⟨on_s 8 rfl gn rfl (s_app (zs := x286) (cells' := x286.flatMap enc_api_Cond) 3 ap_23 rfl rfl rfl h273 hz19 (Src.ownF (hl := hl_api_Cond) (h1 := h1_api_Cond) 0 rfl h302) (by rw [hv287, List.flatMap_append] <;> rfl) (app_len hv287 h302.hq) hb288 rfl rfl fun A306 c307 h308 => ?_), trivial⟩
        refine ⟨sels [1, 2, 4] rfl, sels [0, 1, 2, 3, 4, 5, 6] rfl, ?_⟩
        refine wfv 9 rfl (v_nilCheck rfl) gn hns (by kernel_rfl) <| wfv 10 rfl (v_fldB fo_38_2 rfl) gn hns (by kernel_rfl) <| wfv 11 rfl (v_fldB fo_25_1 rfl) gn hns (by kernel_rfl) ?_
        refine wf_all [12] (by kernel_rfl) rfl ⟨on_l 12 rfl gn rfl (s_stB (vs := [.slice A306 (n271 + 1) c307]) (cs' := [.slice A261 n262 c263, .int .i64 r259.2.at_, .slice A265 n266 c267, .slice A306 (n271 + 1) c307, .int .i64 r259.2.e, .int .i64 r259.2.pos]) (M' := [.own (.slice (some ⟨gb301, 0, none⟩) 1 1) 48 4 1 (([(⟨r23.1, r145.1, r259.1, (⟨#[]⟩ : ByteArray)⟩ : api_Cond)] : List api_Cond).flatMap enc_api_Cond), .box g2 Tb3 [.slice A261 n262 c263, .int .i64 r259.2.at_, .slice A265 n266 c267, .slice A306 (n271 + 1) c307, .int .i64 r259.2.e, .int .i64 r259.2.pos], .own (.slice A265 n266 c267) 46 5 n266 (r259.2.q.nodes.flatMap enc_api_PatNode), .own (.slice A306 (n271 + 1) c307) 48 4 (n271 + 1) (x286.flatMap enc_api_Cond), .box gb166 48 [.bool r23.1, .string r145.1, .string r259.1, .string (⟨#[]⟩ : ByteArray)]]) 1 sz_23 rfl rfl rfl rfl rfl rfl rfl rfl rfl ?_), trivial⟩
        unfold NxL
        refine wf_end (by kernel_rfl) ?_
        refine g_endR [] Try.func11 rfl (.nil) fun wr hLr => ?_
        have hMr := hLr.pkI (.c 1 rfl (.c 2 rfl (.c 3 rfl .n))) (.c 0 rfl (.c 4 rfl .n)) (by kernel_rfl) (.c 6 rfl .n)
        have hMi := hLr.selI (.c 1 rfl (.c 2 rfl (.c 3 rfl .n)))
        show trellisref20_Reader_cond_R w F g2 Tb3 A8 n9 c10 z12 A14 n15 c16 z18 r (.returned (packV [])) wr
        rw [h]
        exact ⟨A265, n266, c267, A306, n271 + 1, c307, A261, n262, c263, rfl, hMr, h268, h308, (hLr.outR (s := Sm w.heap.size F w275 sb279) hMi (me 0 rfl) Sm.ok h264)⟩
      by_cases hp309 : x201 < (x194.length : Int)
      ·have h := if_pos' hp309 h
       obtain ⟨hb310, h⟩ := h
       have hns : Region.noSelect (Code.ops q11c37) = true := by kernel_rfl
       refine g_drawG [] 24 rfl rfl mix rfl (.c 0 rfl (.c 1 rfl (.c 2 rfl (.c 3 rfl (.c 4 rfl (.c 5 rfl .n)))))) <| wfv 0 rfl (v_move rfl) gn hns rfl <| wfv 1 rfl (v_nilCheck rfl) gn hns rfl <| wfv 2 rfl (v_fldB fo_38_1 rfl) gn hns rfl <| wfv 3 rfl (v_ldB1 2 ld_3 rfl rfl rfl) gn hns rfl <| wfv 4 rfl (v_move rfl) gn hns rfl <| wfv 5 rfl (v_nilCheck rfl) gn hns rfl <| wfv 6 rfl (v_fldB fo_38_0 rfl) gn hns rfl <| wfv 7 rfl (v_ldB1 2 ld_33 rfl rfl rfl) gn hns rfl <| wfv 8 rfl (v_lenQ un_33 rfl h200.hq) gn hns rfl <| wfv 9 rfl (v_bin rfl rfl rfl) gn hns rfl <| wfv 10 rfl (v_move rfl) gn hns rfl ?_
       refine wf_bool 73 rfl ((decide_eq_true hp309)) <| wfv 11 rfl (v_move rfl) (gy 73 rfl rfl) hns rfl <| wfv 12 rfl (v_nilCheck rfl) (gy 73 rfl rfl) hns rfl <| wfv 13 rfl (v_fldB fo_38_0 rfl) (gy 73 rfl rfl) hns rfl <| wfv 14 rfl (v_ldB1 2 ld_33 rfl rfl rfl) (gy 73 rfl rfl) hns rfl <| wfv 15 rfl (v_move rfl) (gy 73 rfl rfl) hns rfl <| wfv 16 rfl (v_nilCheck rfl) (gy 73 rfl rfl) hns rfl <| wfv 17 rfl (v_fldB fo_38_1 rfl) (gy 73 rfl rfl) hns rfl <| wfv 18 rfl (v_ldB1 2 ld_3 rfl rfl rfl) (gy 73 rfl rfl) hns rfl ?_
       have hr313 := Rw.readF (s := Sm w.heap.size F sw198 sb199) (hl := hl_api_Word) (h1 := h1_api_Word) h200 hb310
       refine wfv 19 rfl (v_idxR (s := Sm w.heap.size F sw198 sb199) slE_33 rfl rfl h200 hb310) (gy 73 rfl rfl) hns rfl <| wfv 20 rfl (v_fldA fo_41_0 rfl) (gy 73 rfl rfl) hns rfl <| wfv 21 rfl (v_ldA1 (kk := (x201 : Int).toNat * 4) (j := 0) (Sm w.heap.size F sw198 sb199) ld_39 rfl hr313 rfl (me 0 rfl)) (gy 73 rfl rfl) hns rfl <| wfv 22 rfl (v_bin rfl rfl rfl) (gy 73 rfl rfl) hns rfl <| wfv 23 rfl (v_pick (b := true) rfl rfl) gn hns rfl <| wf_end (by kernel_rfl) ?_
       exact g_go [0, 1, 2, 3, 4, 5] (j3 (((ix x194 x201).kind) == 2) h) ⟨rfl, rfl, rfl, trivial⟩ (.cons_cons _ (.cons_cons _ (.cons_cons _ (.cons_cons _ (.slnil))))) rfl
      ·have h := if_neg' hp309 h
       have hns : Region.noSelect (Code.ops q11c37) = true := by kernel_rfl
       refine g_drawG [] 24 rfl rfl mix rfl (.c 0 rfl (.c 1 rfl (.c 2 rfl (.c 3 rfl (.c 4 rfl (.c 5 rfl .n)))))) <| wfv 0 rfl (v_move rfl) gn hns rfl <| wfv 1 rfl (v_nilCheck rfl) gn hns rfl <| wfv 2 rfl (v_fldB fo_38_1 rfl) gn hns rfl <| wfv 3 rfl (v_ldB1 2 ld_3 rfl rfl rfl) gn hns rfl <| wfv 4 rfl (v_move rfl) gn hns rfl <| wfv 5 rfl (v_nilCheck rfl) gn hns rfl <| wfv 6 rfl (v_fldB fo_38_0 rfl) gn hns rfl <| wfv 7 rfl (v_ldB1 2 ld_33 rfl rfl rfl) gn hns rfl <| wfv 8 rfl (v_lenQ un_33 rfl h200.hq) gn hns rfl <| wfv 9 rfl (v_bin rfl rfl rfl) gn hns rfl <| wfv 10 rfl (v_move rfl) gn hns rfl ?_
       refine wf_bool 73 rfl ((decide_eq_false hp309)) <| wfp 11 rfl (ps 73 rfl rfl rfl) hns rfl <| wfp 12 rfl (ps 73 rfl rfl rfl) hns rfl <| wfp 13 rfl (ps 73 rfl rfl rfl) hns rfl <| wfp 14 rfl (ps 73 rfl rfl rfl) hns rfl <| wfp 15 rfl (ps 73 rfl rfl rfl) hns rfl <| wfp 16 rfl (ps 73 rfl rfl rfl) hns rfl <| wfp 17 rfl (ps 73 rfl rfl rfl) hns rfl <| wfp 18 rfl (ps 73 rfl rfl rfl) hns rfl <| wfp 19 rfl (ps 73 rfl rfl rfl) hns rfl <| wfp 20 rfl (ps 73 rfl rfl rfl) hns rfl <| wfp 21 rfl (ps 73 rfl rfl rfl) hns rfl ?_
       refine wfp 22 rfl (ps 73 rfl rfl rfl) hns rfl <| wfv 23 rfl (v_pick (b := false) rfl rfl) gn hns rfl <| wf_end (by kernel_rfl) ?_
       exact g_go [0, 1, 2, 3, 4, 5] (j3 false h) ⟨rfl, rfl, rfl, trivial⟩ (.cons_cons _ (.cons_cons _ (.cons_cons _ (.cons_cons _ (.slnil))))) rfl
     ·have h := if_neg' hp214 h
      refine g_true rfl _ rfl ((neib hp214)) ?_
      refine g_retR [] rfl Try.func11 rfl (.nil) fun wr hLr => ?_
      have hMr := hLr.pkI (.c 2 rfl (.c 0 rfl (.c 1 rfl .n))) (.c 3 rfl .n) (by kernel_rfl) (.c 5 rfl .n)
      have hMi := hLr.selI (.c 2 rfl (.c 0 rfl (.c 1 rfl .n)))
      show trellisref20_Reader_cond_R w F g2 Tb3 A8 n9 c10 z12 A14 n15 c16 z18 r (.returned (packV [])) wr
      rw [h]
      exact ⟨A203, n204, c205, A208, n209, c210, A195, n196, c197, rfl, hMr, h206, h211, (hLr.outR (s := Sm w.heap.size F sw198 sb199) hMi (me 0 rfl) Sm.ok h200)⟩
    by_cases hp168 : r145.2.e = 0
    ·have h := if_pos' hp168 h
     refine g_true rfl _ rfl ((eqi hp168)) <| g_region rfl rfl <| wl_v 0 rfl (v_move rfl) gn rfl ?_
     obtain ⟨r317, hv318, h⟩ := h
     refine wl_s 1 rfl (s_call [.pointer (some ⟨g2, 0, none⟩), .int .i64 5, .string (⟨#[61]⟩ : ByteArray)] rfl Try.func21 rfl rfl rfl fun w314 hL315 => ?_) gn
     have hp316 := pmI hL315 (.c 1 rfl (.c 2 rfl (.c 3 rfl .n))) (.c 0 rfl .n) (by kernel_rfl)
     refine Calls.mono (trellisref20_Reader_take_calls w314 (Fl ([Sm w.heap.size F w161 sb165] : List Snap)) r145.2 5 (⟨#[61]⟩ : ByteArray) g2 Tb3 A147 n148 c149 z12 A151 n152 c153 z18 A156 n157 c158 (Rw.mono h150 (hL315.toFl (me 0 rfl) (me 0 rfl))) (Nat.le_trans hz13 hL315.env.size) h154 (Nat.le_trans hz19 hL315.env.size) h159 (hL315.hFl hp316 (sels [0] rfl)) (hL315.into hp316 _) r317 hv318) ?_
     rintro _ w333 ⟨A323, n324, c325, A328, n329, c330, A319, n320, c321, rfl, hM334, h326, h331, h322⟩
     obtain ⟨sb337, hL335, hv336⟩ := hL315.callB (Sl := ([Sm w.heap.size F w161 sb165] : List Snap)) hp316 hM334 F (sels [0] rfl) ⟨Sm.ok, trivial⟩
     have h322 : At k_api_Word (Sm w.heap.size F w333 sb337) A319 n320 c321 r317.l := Rw.mono h322 hv336
     refine ⟨_, _, _, rfl, hL335, ?_⟩
     refine w_end 2 rfl <| g_front 3 rfl <| g_front 1 rfl <| g_front 3 rfl <| g_front 3 rfl ?_
     exact g_go [0, 1, 2, 3, 4, 5] (j2 r317.l r317.at_ r317.q.nodes r317.q.conds r317.e r317.pos h A319 n320 c321 w333 sb337 h322 A323 n324 c325 h326 A328 n329 c330 h331) ⟨rfl, rfl, trivial⟩ (.cons_cons _ (.cons_cons _ (.cons_cons _ (.cons_cons _ (.slnil))))) rfl
    ·have h := if_neg' hp168 h
     refine g_false rfl _ rfl ((nei hp168)) <| g_skip rfl <| g_front 0 rfl <| g_front 1 rfl <| g_front 3 rfl <| g_front 3 rfl ?_
     exact g_go [0, 0, 1, 2, 3, 4] (j2 r145.2.l r145.2.at_ r145.2.q.nodes r145.2.q.conds r145.2.e r145.2.pos h A147 n148 c149 w161 sb165 h150 A151 n152 c153 h154 A156 n157 c158 h159) ⟨rfl, rfl, trivial⟩ (.cons_cons _ (.cons_cons _ (.cons_cons _ (.cons_cons _ (.slnil))))) rfl
 refine g_region rfl rfl <| wl_v 0 rfl (v_move rfl) gn rfl <| wl_v 1 rfl (v_not rfl) gn rfl <| wl_v 2 rfl (v_move rfl) gn rfl ?_
 by_cases hp338 : r23.1 = true
 ·have h := if_pos' hp338 h
  refine w_bool 12 rfl ((nf hp338)) <| wl_pass 3 rfl (ps 12 rfl rfl rfl) <| wl_pass 4 rfl (ps 12 rfl rfl rfl) <| wl_pass 5 rfl (ps 12 rfl rfl rfl) <| wl_pass 6 rfl (ps 12 rfl rfl rfl) <| wl_pass 7 rfl (ps 12 rfl rfl rfl) <| wl_pass 8 rfl (ps 12 rfl rfl rfl) <| wl_pass 9 rfl (ps 12 rfl rfl rfl) <| wl_v 10 rfl (v_pick (b := false) rfl rfl) gn rfl <| w_end 11 rfl <| g_front 0 rfl <| g_front 2 rfl ?_
  refine g_front 2 rfl ?_
  exact g_go [0, 0, 1, 2] (j1 false r23.2.l r23.2.at_ r23.2.q.nodes r23.2.q.conds r23.2.e r23.2.pos h A25 n26 c27 w39 sb43 h28 A29 n30 c31 h32 A34 n35 c36 h37) ⟨rfl, rfl, rfl, trivial⟩ (.cons_cons _ (.cons_cons _ (.cons_cons _ (.slnil)))) rfl
 ·have h := if_neg' hp338 h
  refine w_bool 12 rfl ((nt (bf hp338))) <| wl_v 3 rfl (v_move rfl) (gy 12 rfl rfl) rfl <| wl_v 4 rfl (v_move rfl) (gy 12 rfl rfl) rfl <| wl_v 5 rfl (v_nilCheck rfl) (gy 12 rfl rfl) rfl <| wl_v 6 rfl (v_fldB fo_38_1 rfl) (gy 12 rfl rfl) rfl <| wl_v 7 rfl (v_ldB1 0 ld_3 rfl rfl rfl) (gy 12 rfl rfl) rfl ?_
  obtain ⟨r342, hv343, h⟩ := h
  refine wl_s 8 rfl (s_call [.pointer (some ⟨g2, 0, none⟩), .int .i64 r23.2.at_, .int .i64 1, .string (⟨#[119, 104, 101, 110]⟩ : ByteArray)] rfl Try.func18 rfl rfl rfl fun w339 hL340 => ?_) (gy 12 rfl rfl)
  have hp341 := pmI hL340 (.c 0 rfl (.c 1 rfl (.c 2 rfl .n))) .n (by kernel_rfl)
  refine Calls.mono (trellisref20_Reader_sees_calls w339 (Fl ([Sm w.heap.size F w39 sb43] : List Snap)) r23.2 r23.2.at_ 1 (⟨#[119, 104, 101, 110]⟩ : ByteArray) g2 Tb3 A25 n26 c27 z12 A29 n30 c31 z18 A34 n35 c36 (Rw.mono h28 (hL340.toFl (me 0 rfl) (me 0 rfl))) (Nat.le_trans hz13 hL340.env.size) h32 (Nat.le_trans hz19 hL340.env.size) h37 (hL340.hFl hp341 (sels [0] rfl)) (hL340.into hp341 _) r342 hv343) ?_
  rintro _ w358 ⟨A348, n349, c350, A353, n354, c355, A344, n345, c346, rfl, hM359, h351, h356, h347⟩
  obtain ⟨sb362, hL360, hv361⟩ := hL340.callB (Sl := ([Sm w.heap.size F w39 sb43] : List Snap)) hp341 hM359 F (sels [0] rfl) ⟨Sm.ok, trivial⟩
  have h347 : At k_api_Word (Sm w.heap.size F w358 sb362) A344 n345 c346 r342.2.l := Rw.mono h347 hv361
  refine ⟨_, _, _, rfl, hL360, ?_⟩
  refine wl_v 9 rfl (v_not rfl) (gy 12 rfl rfl) rfl <| wl_v 10 rfl (v_pick (b := true) rfl rfl) gn rfl <| w_end 11 rfl <| g_front 0 rfl <| g_front 2 rfl <| g_front 2 rfl ?_
  exact g_go [0, 1, 2, 3] (j1 (!r342.1) r342.2.l r342.2.at_ r342.2.q.nodes r342.2.q.conds r342.2.e r342.2.pos h A344 n345 c346 w358 sb362 h347 A348 n349 c350 h351 A353 n354 c355 h356) ⟨rfl, rfl, rfl, trivial⟩ (.cons_cons _ (.cons_cons _ (.cons_cons _ (.slnil)))) rfl
noncomputable abbrev q4c16 := Code.snd (Code.snd (Code.snd (Code.snd (Code.snd (Code.snd (bodyOf Try.f4))))))
noncomputable abbrev q4c18 := Code.fst (Code.fst (Code.fst (Code.snd (Code.snd (Code.snd (Code.snd (Code.snd (bodyOf Try.f4))))))))
noncomputable abbrev q4c21 := Code.fst (Code.fst q4c18)
noncomputable abbrev q4c40 := Code.fst (Code.fst (Code.snd (Code.fst (Code.snd q4c16))))
noncomputable abbrev q4c42 := Code.fst (Code.snd (Code.snd q4c16))
abbrev trellisref20_Parse_R (w : World) (F : Nat → Prop) (r : api_Query × Int × Int) : Ending → World → Prop := fun e w' => ∃ A0 : Option Addr, ∃ n0 : Nat, ∃ c0 : Nat, ∃ A1 : Option Addr, ∃ n1 : Nat, ∃ c1 : Nat, e = .returned (.tuple #[.agg #[.slice A0 n0 c0, .slice A1 n1 c1], .int .i64 r.2.1, .int .i64 r.2.2]) ∧ B.Loc w w' [.own (.slice A0 n0 c0) 46 5 n0 (r.1.nodes.flatMap enc_api_PatNode), .own (.slice A1 n1 c1) 48 4 n1 (r.1.conds.flatMap enc_api_Cond)] [St w []] ∧ Ow w.heap.size A0 n0 c0 r.1.nodes ∧ Ow w.heap.size A1 n1 c1 r.1.conds
noncomputable abbrev trellisref20_Parse_C (w : World) (F : Nat → Prop) (r : api_Query × Int × Int) : Cx := ⟨Try.prog, 4, Try.f4, 80, trellisref20_Parse_R w F  r, w⟩
theorem trellisref20_Parse_calls (w : World) (F : Nat → Prop) (x1 : ByteArray) (hF : ∀ b, F b → b < w.heap.size ∧ ∀ o ∈ ([] : List (List Nat)), b ∉ o) (hL0 : B.Loc w w [] [Sm w.heap.size F w [], St w []]) (r : api_Query × Int × Int) (h : trellisref20_Parse x1 r) : Calls Try.prog 4 #[.string x1] w (trellisref20_Parse_R w F  r) := by
 unfold trellisref20_Parse at h
 refine calls_of_Loc (vs := [.string x1]) 80 Try.func4 rfl Try.ntmps4 rfl hL0 ?_
 show G (trellisref20_Parse_C w F r) _ _ _ _
 refine g_seq rfl <| g_region rfl rfl ?_
 refine wl_s 0 rfl (s_alloc [.slice none 0 0, .slice none 0 0] zr_25 rfl fun gb2 => ?_) gn
 refine wl_v 1 rfl (v_assign rfl) gn rfl <| wl_v 2 rfl (v_assign rfl) gn rfl <| w_end 3 rfl <| g_seq rfl <| g_region rfl rfl <| wl_v 0 rfl (v_move rfl) gn rfl ?_
 obtain ⟨r7, hv8, h⟩ := h
 refine wl_s 1 rfl (s_call [.string x1] rfl Try.func9 rfl rfl rfl fun w4 hL5 => ?_) gn
 have hp6 := pmI hL5 .n (.c 0 rfl .n) (by kernel_rfl)
 refine Calls.mono (trellisref8_Cut_calls w4 (Fl ([] : List Snap)) x1 (hL5.hFl hp6 (sels [] rfl)) (hL5.into hp6 _) r7 hv8) ?_
 rintro _ w14 ⟨A9, n10, c11, rfl, hM15, h12⟩
 have hL16 := hL5.call hp6 hM15
 refine ⟨_, _, _, rfl, hL16, ?_⟩
 refine wl_v 2 rfl (v_move rfl) gn rfl <| wl_v 3 rfl (v_extract rfl rfl) gn rfl <| wl_v 4 rfl (v_extract rfl rfl) gn rfl <| wl_v 5 rfl (v_extract rfl rfl) gn rfl <| wl_v 6 rfl (v_assign rfl) gn rfl <| wl_v 7 rfl (v_assign rfl) gn rfl <| wl_v 8 rfl (v_assign rfl) gn rfl <| w_end 9 rfl <| g_seq rfl <| g_seq rfl <| g_region rfl rfl <| wl_v 0 rfl (v_move rfl) gn rfl ?_
 refine wl_v 1 rfl (v_bin rfl rfl rfl) gn rfl <| w_end 2 rfl ?_
 by_cases hp17 : r7.2.1 = 0
 ·have h := if_pos' hp17 h
  refine g_false rfl _ rfl ((eqib hp17)) <| g_skip rfl <| g_seq rfl <| g_region rfl rfl <| wl_v 0 rfl (v_move rfl) gn rfl <| wl_v 1 rfl (v_build #[.slice A9 n10 c11, .int .i64 0, .slice none 0 0, .slice none 0 0, .int .i64 0, .int .i64 0] bd_38 rfl (by kernel_rfl)) gn rfl ?_
  refine wl_s 2 rfl (s_box [.slice A9 n10 c11, .int .i64 0, .slice none 0 0, .slice none 0 0, .int .i64 0, .int .i64 0] rfl rfl rfl fun gb18 => ?_) gn
  refine wl_v 3 rfl (v_assign rfl) gn rfl <| w_end 4 rfl <| g_seq rfl <| g_region rfl rfl <| wl_v 0 rfl (v_move rfl) gn rfl ?_
  obtain ⟨r28, hv29, h⟩ := h
  refine w_freeze (F := F) (dk := k_api_Word) (Sm w.heap.size F w []) 1 rfl (Ow.weak hL5.env.size h12) (me 0 rfl) Sm.ok (Cells.flat _) fun sw24 sb25 h23 => ?_
  refine w_nil 46 5 <| w_nil 48 4 ?_
  refine wl_s 1 rfl (s_call [.pointer (some ⟨gb18, 0, none⟩)] rfl Try.func10 rfl rfl rfl fun w20 hL21 => ?_) gn
  have hp22 := pmI hL21 (.c 2 rfl (.c 1 rfl (.c 0 rfl .n))) (.c 3 rfl .n) (by kernel_rfl)
  refine Calls.mono (trellisref20_Reader_pattern_calls w20 (Fl ([Sm w.heap.size F sw24 sb25] : List Snap)) (⟨r7.1, 0, (⟨([] : List api_PatNode), ([] : List api_Cond)⟩ : api_Query), 0, 0⟩ : trellisref20_Reader) gb18 38 A9 n10 c11 w.heap.size none 0 0 w.heap.size none 0 0 (Rw.mono h23 (hL21.toFl (me 0 rfl) (me 0 rfl))) hL21.env.size (Ow.nil (z := w.heap.size)) hL21.env.size (Ow.nil (z := w.heap.size)) (hL21.hFl hp22 (sels [0] rfl)) (hL21.into hp22 _) r28 hv29) ?_
  rintro _ w44 ⟨A34, n35, c36, A39, n40, c41, A30, n31, c32, rfl, hM45, h37, h42, h33⟩
  obtain ⟨sb48, hL46, hv47⟩ := hL21.callB (Sl := ([Sm w.heap.size F sw24 sb25] : List Snap)) hp22 hM45 F (sels [0] rfl) ⟨Sm.ok, trivial⟩
  have h33 : At k_api_Word (Sm w.heap.size F w44 sb48) A30 n31 c32 r28.l := Rw.mono h33 hv47
  refine ⟨_, _, _, rfl, hL46, ?_⟩
  refine w_end 2 rfl <| g_seq rfl <| g_block rfl <| g_loop rfl ?_
  have key1 : ∀ s, Rounds (fun (s : (List api_Word) × Int × (List api_PatNode) × (List api_Cond) × Int × Int) o => trellisref20_Parse_b1 r7 x1 s.1 s.2.1 s.2.2.1 s.2.2.2.1 s.2.2.2.2.1 s.2.2.2.2.2 o) s r → (fun (s : (List api_Word) × Int × (List api_PatNode) × (List api_Cond) × Int × Int) => ∀ (A82 : Option Addr) (n83 : Nat) (c84 : Nat) (sw85 : World) (sb86 : List (List Nat)) (h87 : At k_api_Word (Sm w.heap.size F sw85 sb86) A82 n83 c84 s.1) (A90 : Option Addr) (n91 : Nat) (c92 : Nat) (h93 : Ow w.heap.size A90 n91 c92 s.2.2.1) (A95 : Option Addr) (n96 : Nat) (c97 : Nat) (h98 : Ow w.heap.size A95 n96 c97 s.2.2.2.1), G (trellisref20_Parse_C w F r) [.code q4c18, .inLoop q4c18, .inBlock 0, .code q4c16] [(0, .string x1), (2, .pointer (some ⟨gb2, 0, none⟩)), (5, .slice A9 n10 c11), (8, .pointer (some ⟨gb18, 0, none⟩))] [.own (.slice A90 n91 c92) 46 5 n91 (s.2.2.1.flatMap enc_api_PatNode), .own (.slice A95 n96 c97) 48 4 n96 (s.2.2.2.1.flatMap enc_api_Cond), .box gb18 38 [.slice A82 n83 c84, .int .i64 s.2.1, .slice A90 n91 c92, .slice A95 n96 c97, .int .i64 s.2.2.2.2.1, .int .i64 s.2.2.2.2.2], .box gb2 25 [.slice none 0 0, .slice none 0 0]] [Sm w.heap.size F sw85 sb86, Sm w.heap.size F w44 sb48, Sm w.heap.size F sw24 sb25, Sm w.heap.size F w [], St w []]) s := by
   intro s hs
   refine Rounds.ind (mot := (fun (s : (List api_Word) × Int × (List api_PatNode) × (List api_Cond) × Int × Int) => ∀ (A82 : Option Addr) (n83 : Nat) (c84 : Nat) (sw85 : World) (sb86 : List (List Nat)) (h87 : At k_api_Word (Sm w.heap.size F sw85 sb86) A82 n83 c84 s.1) (A90 : Option Addr) (n91 : Nat) (c92 : Nat) (h93 : Ow w.heap.size A90 n91 c92 s.2.2.1) (A95 : Option Addr) (n96 : Nat) (c97 : Nat) (h98 : Ow w.heap.size A95 n96 c97 s.2.2.2.1), G (trellisref20_Parse_C w F r) [.code q4c18, .inLoop q4c18, .inBlock 0, .code q4c16] [(0, .string x1), (2, .pointer (some ⟨gb2, 0, none⟩)), (5, .slice A9 n10 c11), (8, .pointer (some ⟨gb18, 0, none⟩))] [.own (.slice A90 n91 c92) 46 5 n91 (s.2.2.1.flatMap enc_api_PatNode), .own (.slice A95 n96 c97) 48 4 n96 (s.2.2.2.1.flatMap enc_api_Cond), .box gb18 38 [.slice A82 n83 c84, .int .i64 s.2.1, .slice A90 n91 c92, .slice A95 n96 c97, .int .i64 s.2.2.2.2.1, .int .i64 s.2.2.2.2.2], .box gb2 25 [.slice none 0 0, .slice none 0 0]] [Sm w.heap.size F sw85 sb86, Sm w.heap.size F w44 sb48, Sm w.heap.size F sw24 sb25, Sm w.heap.size F w [], St w []])) ?_ hs
   clear hs s
   intro s o1 h hO1
   obtain ⟨x81, x88, x89, x94, x99, x100⟩ := s
   show ∀ (A82 : Option Addr) (n83 : Nat) (c84 : Nat) (sw85 : World) (sb86 : List (List Nat)) (h87 : At k_api_Word (Sm w.heap.size F sw85 sb86) A82 n83 c84 x81) (A90 : Option Addr) (n91 : Nat) (c92 : Nat) (h93 : Ow w.heap.size A90 n91 c92 x89) (A95 : Option Addr) (n96 : Nat) (c97 : Nat) (h98 : Ow w.heap.size A95 n96 c97 x94), G (trellisref20_Parse_C w F r) [.code q4c18, .inLoop q4c18, .inBlock 0, .code q4c16] [(0, .string x1), (2, .pointer (some ⟨gb2, 0, none⟩)), (5, .slice A9 n10 c11), (8, .pointer (some ⟨gb18, 0, none⟩))] [.own (.slice A90 n91 c92) 46 5 n91 (x89.flatMap enc_api_PatNode), .own (.slice A95 n96 c97) 48 4 n96 (x94.flatMap enc_api_Cond), .box gb18 38 [.slice A82 n83 c84, .int .i64 x88, .slice A90 n91 c92, .slice A95 n96 c97, .int .i64 x99, .int .i64 x100], .box gb2 25 [.slice none 0 0, .slice none 0 0]] [Sm w.heap.size F sw85 sb86, Sm w.heap.size F w44 sb48, Sm w.heap.size F sw24 sb25, Sm w.heap.size F w [], St w []]
   intro A82 n83 c84 sw85 sb86 h87 A90 n91 c92 h93 A95 n96 c97 h98
   have h : trellisref20_Parse_b1 r7 x1 x81 x88 x89 x94 x99 x100 o1 := h
   unfold trellisref20_Parse_b1 at h
   refine g_seq rfl <| g_seq rfl ?_
   by_cases hp132 : x99 = 0
   ·have h := if_pos' hp132 h
    have hns : Region.noSelect (Code.ops q4c21) = true := by kernel_rfl
    refine g_drawG [] 17 rfl rfl mix rfl (.c 0 rfl (.c 1 rfl (.c 2 rfl (.c 3 rfl (.c 4 rfl .n))))) <| wfv 0 rfl (v_move rfl) gn hns rfl <| wfv 1 rfl (v_nilCheck rfl) gn hns rfl <| wfv 2 rfl (v_fldB fo_38_3 rfl) gn hns rfl <| wfv 3 rfl (v_ldB1 2 ld_26 rfl rfl rfl) gn hns rfl <| wfv 4 rfl (v_bin rfl rfl rfl) gn hns rfl <| wfv 5 rfl (v_move rfl) gn hns rfl <| wf_bool 30 rfl ((eqi hp132)) <| wfv 6 rfl (v_move rfl) (gy 30 rfl rfl) hns rfl <| wfv 7 rfl (v_nilCheck rfl) (gy 30 rfl rfl) hns rfl <| wfv 8 rfl (v_fldB fo_38_1 rfl) (gy 30 rfl rfl) hns rfl <| wfv 9 rfl (v_ldB1 2 ld_3 rfl rfl rfl) (gy 30 rfl rfl) hns rfl ?_
    refine wfv 10 rfl (v_move rfl) (gy 30 rfl rfl) hns rfl <| wfv 11 rfl (v_nilCheck rfl) (gy 30 rfl rfl) hns rfl <| wfv 12 rfl (v_fldB fo_38_0 rfl) (gy 30 rfl rfl) hns rfl <| wfv 13 rfl (v_ldB1 2 ld_33 rfl rfl rfl) (gy 30 rfl rfl) hns rfl <| wfv 14 rfl (v_lenQ un_33 rfl h87.hq) (gy 30 rfl rfl) hns rfl <| wfv 15 rfl (v_bin rfl rfl rfl) (gy 30 rfl rfl) hns rfl <| wfv 16 rfl (v_pick (b := true) rfl rfl) gn hns rfl <| wf_end (by kernel_rfl) ?_
    by_cases hp133 : x88 < (x81.length : Int)
    ·have h := if_pos' hp133 h
     refine g_true rfl _ rfl ((decide_eq_true hp133)) <| g_skip rfl <| g_block rfl <| g_region rfl rfl <| wl_v 0 rfl (v_move rfl) gn rfl ?_
     obtain ⟨r137, hv138, h⟩ := h
     refine wl_s 1 rfl (s_call [.pointer (some ⟨gb18, 0, none⟩)] rfl Try.func11 rfl rfl rfl fun w134 hL135 => ?_) gn
     have hp136 := pmI hL135 (.c 2 rfl (.c 0 rfl (.c 1 rfl .n))) (.c 3 rfl .n) (by kernel_rfl)
     refine Calls.mono (trellisref20_Reader_cond_calls w134 (Fl ([Sm w.heap.size F sw85 sb86] : List Snap)) (⟨x81, x88, (⟨x89, x94⟩ : api_Query), x99, x100⟩ : trellisref20_Reader) gb18 38 A82 n83 c84 w.heap.size A90 n91 c92 w.heap.size A95 n96 c97 (Rw.mono h87 (hL135.toFl (me 0 rfl) (me 0 rfl))) hL135.env.size h93 hL135.env.size h98 (hL135.hFl hp136 (sels [0] rfl)) (hL135.into hp136 _) r137 hv138) ?_
     rintro _ w153 ⟨A143, n144, c145, A148, n149, c150, A139, n140, c141, rfl, hM154, h146, h151, h142⟩
     obtain ⟨sb157, hL155, hv156⟩ := hL135.callB (Sl := ([Sm w.heap.size F sw85 sb86] : List Snap)) hp136 hM154 F (sels [0] rfl) ⟨Sm.ok, trivial⟩
     have h142 : At k_api_Word (Sm w.heap.size F w153 sb157) A139 n140 c141 r137.l := Rw.mono h142 hv156
     refine ⟨_, _, _, rfl, hL155, ?_⟩
     refine w_end 2 rfl <| g_inBlock <| g_inLoop <| g_front 3 rfl <| g_front 1 rfl <| g_front 3 rfl <| g_front 3 rfl ?_
     have ih := Out.inl hO1 h
     exact g_go [0, 2, 3, 4, 5] (ih A139 n140 c141 w153 sb157 h142 A143 n144 c145 h146 A148 n149 c150 h151) ⟨rfl, rfl, rfl, rfl, trivial⟩ (.cons_cons _ (.cons_cons _ (.cons_cons _ (.cons_cons _ (.slnil))))) rfl
    ·have h := if_neg' hp133 h
     refine g_false rfl _ rfl ((decide_eq_false hp133)) <| g_exit [.code q4c16] rfl rfl <| g_seq rfl <| g_seq rfl <| g_region rfl rfl <| wl_v 0 rfl (v_move rfl) gn rfl <| wl_v 1 rfl (v_nilCheck rfl) gn rfl <| wl_v 2 rfl (v_fldB fo_38_3 rfl) gn rfl <| wl_v 3 rfl (v_ldB1 2 ld_26 rfl rfl rfl) gn rfl <| wl_v 4 rfl (v_bin rfl rfl rfl) gn rfl <| w_end 5 rfl <| g_true rfl _ rfl ((eqi hp132)) ?_
     refine g_seq rfl <| g_region rfl rfl <| wl_v 0 rfl (v_move rfl) gn rfl <| wl_v 1 rfl (v_nilCheck rfl) gn rfl <| wl_v 2 rfl (v_fldB fo_38_2 rfl) gn rfl <| wl_v 3 rfl (v_ldB [.slice A90 n91 c92, .slice A95 n96 c97] 2 ld_25 rfl rfl rfl rfl) gn rfl ?_
     refine wl_s 4 rfl (s_stB (vs := [.slice A90 n91 c92, .slice A95 n96 c97]) (cs' := [.slice A90 n91 c92, .slice A95 n96 c97]) (M' := [.own (.slice A90 n91 c92) 46 5 n91 (x89.flatMap enc_api_PatNode), .own (.slice A95 n96 c97) 48 4 n96 (x94.flatMap enc_api_Cond), .box gb18 38 [.slice A82 n83 c84, .int .i64 x88, .slice A90 n91 c92, .slice A95 n96 c97, .int .i64 x99, .int .i64 x100], .box gb2 25 [.slice A90 n91 c92, .slice A95 n96 c97]]) 3 sz_25 rfl rfl rfl rfl rfl rfl rfl rfl rfl ?_) gn
     refine wl_v 5 rfl (v_assign rfl) gn rfl <| wl_v 6 rfl (v_assign rfl) gn rfl <| w_end 7 rfl ?_
     have h := Out.inr hO1 h
     refine g_retR [.agg #[.slice A90 n91 c92, .slice A95 n96 c97], .int .i64 0, .int .i64 0] rfl Try.func4 rfl (.cell (cs := [.slice A90 n91 c92, .slice A95 n96 c97]) (us := [.slice A90 n91 c92, .slice A95 n96 c97]) 3 rfl ld_25 rfl rfl rfl (.tmp rfl (.tmp rfl (.nil)))) fun wr hLr => ?_
     have hMr := hLr.pkI (.c 0 rfl (.c 1 rfl .n)) (.c 2 rfl (.c 3 rfl .n)) (by kernel_rfl) (.c 4 rfl .n)
     show trellisref20_Parse_R w F  r (.returned (packV [.agg #[.slice A90 n91 c92, .slice A95 n96 c97], .int .i64 0, .int .i64 0])) wr
     rw [h]
     exact ⟨A90, n91, c92, A95, n96, c97, rfl, hMr, h93, h98⟩
   ·have h := if_neg' hp132 h
    have hns : Region.noSelect (Code.ops q4c21) = true := by kernel_rfl
    refine g_drawG [] 17 rfl rfl mix rfl (.c 0 rfl (.c 1 rfl (.c 2 rfl (.c 3 rfl (.c 4 rfl .n))))) <| wfv 0 rfl (v_move rfl) gn hns rfl <| wfv 1 rfl (v_nilCheck rfl) gn hns rfl <| wfv 2 rfl (v_fldB fo_38_3 rfl) gn hns rfl <| wfv 3 rfl (v_ldB1 2 ld_26 rfl rfl rfl) gn hns rfl <| wfv 4 rfl (v_bin rfl rfl rfl) gn hns rfl <| wfv 5 rfl (v_move rfl) gn hns rfl <| wf_bool 30 rfl ((nei hp132)) <| wfp 6 rfl (ps 30 rfl rfl rfl) hns rfl <| wfp 7 rfl (ps 30 rfl rfl rfl) hns rfl <| wfp 8 rfl (ps 30 rfl rfl rfl) hns rfl <| wfp 9 rfl (ps 30 rfl rfl rfl) hns rfl ?_
    refine wfp 10 rfl (ps 30 rfl rfl rfl) hns rfl <| wfp 11 rfl (ps 30 rfl rfl rfl) hns rfl <| wfp 12 rfl (ps 30 rfl rfl rfl) hns rfl <| wfp 13 rfl (ps 30 rfl rfl rfl) hns rfl <| wfp 14 rfl (ps 30 rfl rfl rfl) hns rfl <| wfp 15 rfl (ps 30 rfl rfl rfl) hns rfl <| wfv 16 rfl (v_pick (b := false) rfl rfl) gn hns rfl <| wf_end (by kernel_rfl) <| g_false rfl _ rfl (rfl) <| g_exit [.code q4c16] rfl rfl <| g_seq rfl <| g_seq rfl ?_
    refine g_region rfl rfl <| wl_v 0 rfl (v_move rfl) gn rfl <| wl_v 1 rfl (v_nilCheck rfl) gn rfl <| wl_v 2 rfl (v_fldB fo_38_3 rfl) gn rfl <| wl_v 3 rfl (v_ldB1 2 ld_26 rfl rfl rfl) gn rfl <| wl_v 4 rfl (v_bin rfl rfl rfl) gn rfl <| w_end 5 rfl <| g_false rfl _ rfl ((nei hp132)) <| g_skip rfl <| g_seq rfl <| g_seq rfl <| g_region rfl rfl ?_
    refine wl_v 0 rfl (v_move rfl) gn rfl <| wl_v 1 rfl (v_nilCheck rfl) gn rfl <| wl_v 2 rfl (v_fldB fo_38_4 rfl) gn rfl <| wl_v 3 rfl (v_ldB1 2 ld_3 rfl rfl rfl) gn rfl <| wl_v 4 rfl (v_move rfl) gn rfl <| wl_v 5 rfl (v_lenQ un_33 rfl h23.hq) gn rfl <| wl_v 6 rfl (v_bin rfl rfl rfl) gn rfl <| w_end 7 rfl ?_
    by_cases hp158 : x100 < (r7.1.length : Int)
    ·have h := if_pos' hp158 h
     refine g_true rfl _ rfl ((decide_eq_true hp158)) <| g_seq rfl ?_
     obtain ⟨hb159, h⟩ := h
     have hns : Region.noSelect (Code.ops q4c40) = true := by kernel_rfl
     refine g_drawF [.own (.slice A90 n91 c92) 46 5 n91 (x89.flatMap enc_api_PatNode), .own (.slice A95 n96 c97) 48 4 n96 (x94.flatMap enc_api_Cond), .box gb18 38 [.slice A82 n83 c84, .int .i64 x88, .slice A90 n91 c92, .slice A95 n96 c97, .int .i64 x99, .int .i64 x100]] [Sm w.heap.size F sw85 sb86, Sm w.heap.size F w44 sb48, Sm w.heap.size F sw24 sb25, Sm w.heap.size F w [], St w []] [] 16 rfl rfl mix rfl (.cons_cons _ (.cons_cons _ (.cons_cons _ (.cons _ (.slnil))))) (sels [0, 1, 2, 3, 4] rfl) <| wfv 0 rfl (v_build #[.slice none 0 0, .slice none 0 0] bd_25 rfl (by kernel_rfl)) gn hns rfl <| wfv 1 rfl (v_move rfl) gn hns rfl <| wfv 2 rfl (v_nilCheck rfl) gn hns rfl <| wfv 3 rfl (v_fldB fo_38_3 rfl) gn hns rfl <| wfv 4 rfl (v_ldB1 2 ld_26 rfl rfl rfl) gn hns rfl <| wfv 5 rfl (v_move rfl) gn hns rfl <| wfv 6 rfl (v_move rfl) gn hns rfl <| wfv 7 rfl (v_nilCheck rfl) gn hns rfl <| wfv 8 rfl (v_fldB fo_38_4 rfl) gn hns rfl <| wfv 9 rfl (v_ldB1 2 ld_3 rfl rfl rfl) gn hns rfl ?_
     have hr162 := Rw.readF (s := Sm w.heap.size F sw24 sb25) (hl := hl_api_Word) (h1 := h1_api_Word) h23 hb159
     refine wfv 10 rfl (v_idxR (s := Sm w.heap.size F sw24 sb25) slE_33 rfl rfl h23 hb159) gn hns rfl <| wfv 11 rfl (v_fldA fo_41_3 rfl) gn hns rfl <| wfv 12 rfl (v_ldA1 (kk := (x100 : Int).toNat * 4) (j := 3) (Sm w.heap.size F sw24 sb25) ld_3 rfl hr162 rfl (me 2 rfl)) gn hns rfl ?_
     refine wf_all [13] (by kernel_rfl) rfl ⟨on_s 13 rfl gn rfl (s_stB (vs := [.slice none 0 0, .slice none 0 0]) (cs' := [.slice none 0 0, .slice none 0 0]) (M' := [.own (.slice A90 n91 c92) 46 5 n91 (x89.flatMap enc_api_PatNode), .own (.slice A95 n96 c97) 48 4 n96 (x94.flatMap enc_api_Cond), .box gb18 38 [.slice A82 n83 c84, .int .i64 x88, .slice A90 n91 c92, .slice A95 n96 c97, .int .i64 x99, .int .i64 x100], .box gb2 25 [.slice none 0 0, .slice none 0 0]]) 3 sz_25 rfl rfl rfl rfl rfl rfl rfl rfl rfl ?_), trivial⟩
     refine ⟨sels [0, 1, 2] rfl, sels [0, 1, 2, 3, 4] rfl, ?_⟩
     refine wfv 14 rfl (v_assign rfl) gn hns rfl <| wfv 15 rfl (v_assign rfl) gn hns rfl <| wf_end (by kernel_rfl) <| g_nil 46 5 <| g_nil 48 4 ?_
     have h := Out.inr hO1 h
     refine g_retR [.agg #[.slice none 0 0, .slice none 0 0], .int .i64 x99, .int .i64 ((ix r7.1 x100).at_)] rfl Try.func4 rfl (.cell (cs := [.slice none 0 0, .slice none 0 0]) (us := [.slice none 0 0, .slice none 0 0]) 5 rfl ld_25 rfl rfl rfl (.tmp rfl (.tmp rfl (.nil)))) fun wr hLr => ?_
     have hMr := hLr.pkI (.c 1 rfl (.c 0 rfl .n)) (.c 2 rfl (.c 3 rfl (.c 4 rfl (.c 5 rfl .n)))) (by kernel_rfl) (.c 4 rfl .n)
     show trellisref20_Parse_R w F  r (.returned (packV [.agg #[.slice none 0 0, .slice none 0 0], .int .i64 x99, .int .i64 ((ix r7.1 x100).at_)])) wr
     rw [h]
     exact ⟨none, 0, 0, none, 0, 0, rfl, hMr, (Ow.nil (z := w.heap.size)), (Ow.nil (z := w.heap.size))⟩
    ·have h := if_neg' hp158 h
     refine g_false rfl _ rfl ((decide_eq_false hp158)) <| g_skip rfl <| g_seq rfl ?_
     have hns : Region.noSelect (Code.ops q4c42) = true := by kernel_rfl
     refine g_drawF [.own (.slice A90 n91 c92) 46 5 n91 (x89.flatMap enc_api_PatNode), .own (.slice A95 n96 c97) 48 4 n96 (x94.flatMap enc_api_Cond), .box gb18 38 [.slice A82 n83 c84, .int .i64 x88, .slice A90 n91 c92, .slice A95 n96 c97, .int .i64 x99, .int .i64 x100]] [Sm w.heap.size F sw85 sb86, Sm w.heap.size F w44 sb48, Sm w.heap.size F sw24 sb25, Sm w.heap.size F w [], St w []] [] 10 rfl rfl mix rfl (.cons_cons _ (.cons_cons _ (.cons_cons _ (.cons _ (.slnil))))) (sels [0, 1, 2, 3, 4] rfl) <| wfv 0 rfl (v_build #[.slice none 0 0, .slice none 0 0] bd_25 rfl (by kernel_rfl)) gn hns rfl <| wfv 1 rfl (v_move rfl) gn hns rfl <| wfv 2 rfl (v_nilCheck rfl) gn hns rfl <| wfv 3 rfl (v_fldB fo_38_3 rfl) gn hns rfl <| wfv 4 rfl (v_ldB1 2 ld_26 rfl rfl rfl) gn hns rfl <| wfv 5 rfl (v_move rfl) gn hns rfl <| wfv 6 rfl (v_lenS un_9 rfl) gn hns rfl ?_
     refine wf_all [7] (by kernel_rfl) rfl ⟨on_s 7 rfl gn rfl (s_stB (vs := [.slice none 0 0, .slice none 0 0]) (cs' := [.slice none 0 0, .slice none 0 0]) (M' := [.own (.slice A90 n91 c92) 46 5 n91 (x89.flatMap enc_api_PatNode), .own (.slice A95 n96 c97) 48 4 n96 (x94.flatMap enc_api_Cond), .box gb18 38 [.slice A82 n83 c84, .int .i64 x88, .slice A90 n91 c92, .slice A95 n96 c97, .int .i64 x99, .int .i64 x100], .box gb2 25 [.slice none 0 0, .slice none 0 0]]) 3 sz_25 rfl rfl rfl rfl rfl rfl rfl rfl rfl ?_), trivial⟩
     refine ⟨sels [0, 1, 2] rfl, sels [0, 1, 2, 3, 4] rfl, ?_⟩
     refine wfv 8 rfl (v_assign rfl) gn hns rfl <| wfv 9 rfl (v_assign rfl) gn hns rfl <| wf_end (by kernel_rfl) <| g_nil 46 5 <| g_nil 48 4 ?_
     have h := Out.inr hO1 h
     refine g_retR [.agg #[.slice none 0 0, .slice none 0 0], .int .i64 x99, .int .i64 (x1.size : Int)] rfl Try.func4 rfl (.cell (cs := [.slice none 0 0, .slice none 0 0]) (us := [.slice none 0 0, .slice none 0 0]) 5 rfl ld_25 rfl rfl rfl (.tmp rfl (.tmp rfl (.nil)))) fun wr hLr => ?_
     have hMr := hLr.pkI (.c 1 rfl (.c 0 rfl .n)) (.c 2 rfl (.c 3 rfl (.c 4 rfl (.c 5 rfl .n)))) (by kernel_rfl) (.c 4 rfl .n)
     show trellisref20_Parse_R w F  r (.returned (packV [.agg #[.slice none 0 0, .slice none 0 0], .int .i64 x99, .int .i64 (x1.size : Int)])) wr
     rw [h]
     exact ⟨none, 0, 0, none, 0, 0, rfl, hMr, (Ow.nil (z := w.heap.size)), (Ow.nil (z := w.heap.size))⟩
  refine g_front 3 rfl <| g_front 1 rfl <| g_front 3 rfl <| g_front 3 rfl ?_
  exact g_go [0, 0, 1, 2, 3] (key1 _ h A30 n31 c32 w44 sb48 h33 A34 n35 c36 h37 A39 n40 c41 h42) ⟨rfl, rfl, rfl, rfl, trivial⟩ (.cons_cons _ (.cons_cons _ (.cons_cons _ (.cons_cons _ (.slnil))))) rfl
 ·have h := if_neg' hp17 h
  refine g_true rfl _ rfl ((neib hp17)) <| g_seq rfl <| g_region rfl rfl <| wl_v 0 rfl (v_build #[.slice none 0 0, .slice none 0 0] bd_25 rfl (by kernel_rfl)) gn rfl <| wl_v 1 rfl (v_move rfl) gn rfl <| wl_v 2 rfl (v_move rfl) gn rfl ?_
  refine wl_s 3 rfl (s_stB (vs := [.slice none 0 0, .slice none 0 0]) (cs' := [.slice none 0 0, .slice none 0 0]) (M' := [.own (.slice A9 n10 c11) 41 4 n10 (r7.1.flatMap enc_api_Word), .box gb2 25 [.slice none 0 0, .slice none 0 0]]) 1 sz_25 rfl rfl rfl rfl rfl rfl rfl rfl rfl ?_) gn
  refine wl_v 4 rfl (v_assign rfl) gn rfl <| wl_v 5 rfl (v_assign rfl) gn rfl <| w_end 6 rfl <| g_nil 46 5 <| g_nil 48 4 ?_
  refine g_retR [.agg #[.slice none 0 0, .slice none 0 0], .int .i64 r7.2.1, .int .i64 r7.2.2] rfl Try.func4 rfl (.cell (cs := [.slice none 0 0, .slice none 0 0]) (us := [.slice none 0 0, .slice none 0 0]) 3 rfl ld_25 rfl rfl rfl (.tmp rfl (.tmp rfl (.nil)))) fun wr hLr => ?_
  have hMr := hLr.pkI (.c 1 rfl (.c 0 rfl .n)) (.c 2 rfl (.c 3 rfl .n)) (by kernel_rfl) (.c 1 rfl .n)
  show trellisref20_Parse_R w F  r (.returned (packV [.agg #[.slice none 0 0, .slice none 0 0], .int .i64 r7.2.1, .int .i64 r7.2.2])) wr
  rw [h]
  exact ⟨none, 0, 0, none, 0, 0, rfl, hMr, (Ow.nil (z := w.heap.size)), (Ow.nil (z := w.heap.size))⟩
abbrev words_blank_R (w : World) (F : Nat → Prop) (r : Bool) : Ending → World → Prop := fun e w' => e = .returned (.bool r) ∧ B.Loc w w' [] [St w []]
noncomputable abbrev words_blank_C (w : World) (F : Nat → Prop) (r : Bool) : Cx := ⟨Try.prog, 25, Try.f25, 17, words_blank_R w F  r, w⟩
theorem words_blank_calls (w : World) (F : Nat → Prop) (x1 : Int) (hF : ∀ b, F b → b < w.heap.size ∧ ∀ o ∈ ([] : List (List Nat)), b ∉ o) (hL0 : B.Loc w w [] [Sm w.heap.size F w [], St w []]) (r : Bool) (h : words_blank x1 r) : Calls Try.prog 25 #[.int .u8 x1] w (words_blank_R w F  r) := by
 unfold words_blank at h
 refine calls_of_Loc (vs := [.int .u8 x1]) 17 Try.func25 rfl Try.ntmps25 rfl hL0 ?_
 show G (words_blank_C w F r) _ _ _ _
 refine g_seq rfl <| g_region rfl rfl <| wl_v 0 rfl (v_assign rfl) gn rfl <| w_end 1 rfl <| g_seq rfl <| g_region rfl rfl <| wl_v 0 rfl (v_move rfl) gn rfl <| wl_v 1 rfl (v_bin rfl rfl rfl) gn rfl <| wl_v 2 rfl (v_move rfl) gn rfl ?_
 by_cases hp2 : x1 = 32
 ·have h := if_pos' hp2 h
  refine w_bool 5 rfl ((eqi hp2)) <| wl_pass 3 rfl (ps 5 rfl rfl rfl) <| wl_pass 4 rfl (ps 5 rfl rfl rfl) <| wl_v 5 rfl (v_pick (b := true) rfl rfl) gn rfl <| wl_v 6 rfl (v_move rfl) gn rfl <| wl_pass 7 rfl (ps 9 rfl rfl rfl) <| wl_pass 8 rfl (ps 9 rfl rfl rfl) <| wl_v 9 rfl (v_pick (b := true) rfl rfl) gn rfl <| wl_v 10 rfl (v_move rfl) gn rfl <| wl_pass 11 rfl (ps 13 rfl rfl rfl) <| wl_pass 12 rfl (ps 13 rfl rfl rfl) <| wl_v 13 rfl (v_pick (b := true) rfl rfl) gn rfl ?_
  refine wl_v 14 rfl (v_assign rfl) gn rfl <| w_end 15 rfl ?_
  refine g_retR [.bool true] rfl Try.func25 rfl (.tmp rfl (.nil)) fun wr hLr => ?_
  have hMr := hLr.pk0 (.c 1 rfl .n)
  show words_blank_R w F  r (.returned (packV [.bool true])) wr
  rw [h]
  exact ⟨rfl, hMr⟩
 ·have h := if_neg' hp2 h
  refine w_bool 5 rfl ((nei hp2)) <| wl_v 3 rfl (v_move rfl) (gy 5 rfl rfl) rfl <| wl_v 4 rfl (v_bin rfl rfl rfl) (gy 5 rfl rfl) rfl <| wl_v 5 rfl (v_pick (b := false) rfl rfl) gn rfl <| wl_v 6 rfl (v_move rfl) gn rfl ?_
  by_cases hp3 : x1 = 9
  ·have h := if_pos' hp3 h
   refine w_bool 9 rfl ((eqi hp3)) <| wl_pass 7 rfl (ps 9 rfl rfl rfl) <| wl_pass 8 rfl (ps 9 rfl rfl rfl) <| wl_v 9 rfl (v_pick (b := true) rfl rfl) gn rfl <| wl_v 10 rfl (v_move rfl) gn rfl <| wl_pass 11 rfl (ps 13 rfl rfl rfl) <| wl_pass 12 rfl (ps 13 rfl rfl rfl) <| wl_v 13 rfl (v_pick (b := true) rfl rfl) gn rfl <| wl_v 14 rfl (v_assign rfl) gn rfl <| w_end 15 rfl ?_
   refine g_retR [.bool true] rfl Try.func25 rfl (.tmp rfl (.nil)) fun wr hLr => ?_
   have hMr := hLr.pk0 (.c 1 rfl .n)
   show words_blank_R w F  r (.returned (packV [.bool true])) wr
   rw [h]
   exact ⟨rfl, hMr⟩
  ·have h := if_neg' hp3 h
   refine w_bool 9 rfl ((nei hp3)) <| wl_v 7 rfl (v_move rfl) (gy 9 rfl rfl) rfl <| wl_v 8 rfl (v_bin rfl rfl rfl) (gy 9 rfl rfl) rfl <| wl_v 9 rfl (v_pick (b := false) rfl rfl) gn rfl <| wl_v 10 rfl (v_move rfl) gn rfl ?_
   by_cases hp4 : x1 = 13
   ·have h := if_pos' hp4 h
    refine w_bool 13 rfl ((eqi hp4)) <| wl_pass 11 rfl (ps 13 rfl rfl rfl) <| wl_pass 12 rfl (ps 13 rfl rfl rfl) <| wl_v 13 rfl (v_pick (b := true) rfl rfl) gn rfl <| wl_v 14 rfl (v_assign rfl) gn rfl <| w_end 15 rfl ?_
    refine g_retR [.bool true] rfl Try.func25 rfl (.tmp rfl (.nil)) fun wr hLr => ?_
    have hMr := hLr.pk0 (.c 1 rfl .n)
    show words_blank_R w F  r (.returned (packV [.bool true])) wr
    rw [h]
    exact ⟨rfl, hMr⟩
   ·have h := if_neg' hp4 h
    refine w_bool 13 rfl ((nei hp4)) <| wl_v 11 rfl (v_move rfl) (gy 13 rfl rfl) rfl <| wl_v 12 rfl (v_bin rfl rfl rfl) (gy 13 rfl rfl) rfl <| wl_v 13 rfl (v_pick (b := false) rfl rfl) gn rfl <| wl_v 14 rfl (v_assign rfl) gn rfl <| w_end 15 rfl ?_
    refine g_retR [.bool (x1 == 10)] rfl Try.func25 rfl (.tmp rfl (.nil)) fun wr hLr => ?_
    have hMr := hLr.pk0 (.c 1 rfl .n)
    show words_blank_R w F  r (.returned (packV [.bool (x1 == 10)])) wr
    rw [h]
    exact ⟨rfl, hMr⟩
abbrev words_letter_R (w : World) (F : Nat → Prop) (r : Bool) : Ending → World → Prop := fun e w' => e = .returned (.bool r) ∧ B.Loc w w' [] [St w []]
noncomputable abbrev words_letter_C (w : World) (F : Nat → Prop) (r : Bool) : Cx := ⟨Try.prog, 26, Try.f26, 21, words_letter_R w F  r, w⟩
theorem words_letter_calls (w : World) (F : Nat → Prop) (x1 : Int) (hF : ∀ b, F b → b < w.heap.size ∧ ∀ o ∈ ([] : List (List Nat)), b ∉ o) (hL0 : B.Loc w w [] [Sm w.heap.size F w [], St w []]) (r : Bool) (h : words_letter x1 r) : Calls Try.prog 26 #[.int .u8 x1] w (words_letter_R w F  r) := by
 unfold words_letter at h
 refine calls_of_Loc (vs := [.int .u8 x1]) 21 Try.func26 rfl Try.ntmps26 rfl hL0 ?_
 show G (words_letter_C w F r) _ _ _ _
 refine g_seq rfl <| g_region rfl rfl <| wl_v 0 rfl (v_assign rfl) gn rfl <| w_end 1 rfl <| g_seq rfl <| g_region rfl rfl <| wl_v 0 rfl (v_move rfl) gn rfl <| wl_v 1 rfl (v_bin rfl rfl rfl) gn rfl <| wl_v 2 rfl (v_move rfl) gn rfl ?_
 by_cases hp2 : x1 ≥ 97
 ·have h := if_pos' hp2 h
  refine w_bool 5 rfl ((decide_eq_true hp2)) <| wl_v 3 rfl (v_move rfl) (gy 5 rfl rfl) rfl <| wl_v 4 rfl (v_bin rfl rfl rfl) (gy 5 rfl rfl) rfl <| wl_v 5 rfl (v_pick (b := true) rfl rfl) gn rfl <| wl_v 6 rfl (v_move rfl) gn rfl ?_
  by_cases hp3 : x1 ≤ 122
  ·have h := if_pos' hp3 h
   refine w_bool 9 rfl ((decide_eq_true hp3)) <| wl_pass 7 rfl (ps 9 rfl rfl rfl) <| wl_pass 8 rfl (ps 9 rfl rfl rfl) <| wl_pass 9 rfl (ps 9 rfl rfl rfl) <| wl_pass 10 rfl (pu 12 rfl rfl) <| wl_pass 11 rfl (pu 12 rfl rfl) <| wl_pass 12 rfl (ps 9 rfl rfl rfl) <| wl_v 13 rfl (v_pick (b := true) rfl rfl) gn rfl <| wl_v 14 rfl (v_move rfl) gn rfl <| wl_pass 15 rfl (ps 17 rfl rfl rfl) <| wl_pass 16 rfl (ps 17 rfl rfl rfl) <| wl_v 17 rfl (v_pick (b := true) rfl rfl) gn rfl ?_
   refine wl_v 18 rfl (v_assign rfl) gn rfl <| w_end 19 rfl ?_
   refine g_retR [.bool true] rfl Try.func26 rfl (.tmp rfl (.nil)) fun wr hLr => ?_
   have hMr := hLr.pk0 (.c 1 rfl .n)
   show words_letter_R w F  r (.returned (packV [.bool true])) wr
   rw [h]
   exact ⟨rfl, hMr⟩
  ·have h := if_neg' hp3 h
   refine w_bool 9 rfl ((decide_eq_false hp3)) <| wl_v 7 rfl (v_move rfl) (gy 9 rfl rfl) rfl <| wl_v 8 rfl (v_bin rfl rfl rfl) (gy 9 rfl rfl) rfl <| wl_v 9 rfl (v_move rfl) (gy 9 rfl rfl) rfl ?_
   by_cases hp4 : x1 ≥ 65
   ·have h := if_pos' hp4 h
    refine w_bool 12 rfl ((decide_eq_true hp4)) <| wl_v 10 rfl (v_move rfl) (gy 12 rfl rfl) rfl <| wl_v 11 rfl (v_bin rfl rfl rfl) (gy 12 rfl rfl) rfl <| wl_v 12 rfl (v_pick (b := true) rfl rfl) (gy 9 rfl rfl) rfl <| wl_v 13 rfl (v_pick (b := false) rfl rfl) gn rfl <| wl_v 14 rfl (v_move rfl) gn rfl ?_
    by_cases hp5 : x1 ≤ 90
    ·have h := if_pos' hp5 h
     refine w_bool 17 rfl ((decide_eq_true hp5)) <| wl_pass 15 rfl (ps 17 rfl rfl rfl) <| wl_pass 16 rfl (ps 17 rfl rfl rfl) <| wl_v 17 rfl (v_pick (b := true) rfl rfl) gn rfl <| wl_v 18 rfl (v_assign rfl) gn rfl <| w_end 19 rfl ?_
     refine g_retR [.bool true] rfl Try.func26 rfl (.tmp rfl (.nil)) fun wr hLr => ?_
     have hMr := hLr.pk0 (.c 1 rfl .n)
     show words_letter_R w F  r (.returned (packV [.bool true])) wr
     rw [h]
     exact ⟨rfl, hMr⟩
    ·have h := if_neg' hp5 h
     refine w_bool 17 rfl ((decide_eq_false hp5)) <| wl_v 15 rfl (v_move rfl) (gy 17 rfl rfl) rfl <| wl_v 16 rfl (v_bin rfl rfl rfl) (gy 17 rfl rfl) rfl <| wl_v 17 rfl (v_pick (b := false) rfl rfl) gn rfl <| wl_v 18 rfl (v_assign rfl) gn rfl <| w_end 19 rfl ?_
     refine g_retR [.bool (x1 == 95)] rfl Try.func26 rfl (.tmp rfl (.nil)) fun wr hLr => ?_
     have hMr := hLr.pk0 (.c 1 rfl .n)
     show words_letter_R w F  r (.returned (packV [.bool (x1 == 95)])) wr
     rw [h]
     exact ⟨rfl, hMr⟩
   ·have h := if_neg' hp4 h
    refine w_bool 12 rfl ((decide_eq_false hp4)) <| wl_pass 10 rfl (ps 12 rfl rfl rfl) <| wl_pass 11 rfl (ps 12 rfl rfl rfl) <| wl_v 12 rfl (v_pick (b := false) rfl rfl) (gy 9 rfl rfl) rfl <| wl_v 13 rfl (v_pick (b := false) rfl rfl) gn rfl <| wl_v 14 rfl (v_move rfl) gn rfl <| wl_v 15 rfl (v_move rfl) (gy 17 rfl rfl) rfl <| wl_v 16 rfl (v_bin rfl rfl rfl) (gy 17 rfl rfl) rfl <| wl_v 17 rfl (v_pick (b := false) rfl rfl) gn rfl <| wl_v 18 rfl (v_assign rfl) gn rfl <| w_end 19 rfl ?_
    refine g_retR [.bool (x1 == 95)] rfl Try.func26 rfl (.tmp rfl (.nil)) fun wr hLr => ?_
    have hMr := hLr.pk0 (.c 1 rfl .n)
    show words_letter_R w F  r (.returned (packV [.bool (x1 == 95)])) wr
    rw [h]
    exact ⟨rfl, hMr⟩
 ·have h := if_neg' hp2 h
  refine w_bool 5 rfl ((decide_eq_false hp2)) <| wl_pass 3 rfl (ps 5 rfl rfl rfl) <| wl_pass 4 rfl (ps 5 rfl rfl rfl) <| wl_v 5 rfl (v_pick (b := false) rfl rfl) gn rfl <| wl_v 6 rfl (v_move rfl) gn rfl <| wl_v 7 rfl (v_move rfl) (gy 9 rfl rfl) rfl <| wl_v 8 rfl (v_bin rfl rfl rfl) (gy 9 rfl rfl) rfl <| wl_v 9 rfl (v_move rfl) (gy 9 rfl rfl) rfl ?_
  by_cases hp6 : x1 ≥ 65
  ·have h := if_pos' hp6 h
   refine w_bool 12 rfl ((decide_eq_true hp6)) <| wl_v 10 rfl (v_move rfl) (gy 12 rfl rfl) rfl <| wl_v 11 rfl (v_bin rfl rfl rfl) (gy 12 rfl rfl) rfl <| wl_v 12 rfl (v_pick (b := true) rfl rfl) (gy 9 rfl rfl) rfl <| wl_v 13 rfl (v_pick (b := false) rfl rfl) gn rfl <| wl_v 14 rfl (v_move rfl) gn rfl ?_
   by_cases hp7 : x1 ≤ 90
   ·have h := if_pos' hp7 h
    refine w_bool 17 rfl ((decide_eq_true hp7)) <| wl_pass 15 rfl (ps 17 rfl rfl rfl) <| wl_pass 16 rfl (ps 17 rfl rfl rfl) <| wl_v 17 rfl (v_pick (b := true) rfl rfl) gn rfl <| wl_v 18 rfl (v_assign rfl) gn rfl <| w_end 19 rfl ?_
    refine g_retR [.bool true] rfl Try.func26 rfl (.tmp rfl (.nil)) fun wr hLr => ?_
    have hMr := hLr.pk0 (.c 1 rfl .n)
    show words_letter_R w F  r (.returned (packV [.bool true])) wr
    rw [h]
    exact ⟨rfl, hMr⟩
   ·have h := if_neg' hp7 h
    refine w_bool 17 rfl ((decide_eq_false hp7)) <| wl_v 15 rfl (v_move rfl) (gy 17 rfl rfl) rfl <| wl_v 16 rfl (v_bin rfl rfl rfl) (gy 17 rfl rfl) rfl <| wl_v 17 rfl (v_pick (b := false) rfl rfl) gn rfl <| wl_v 18 rfl (v_assign rfl) gn rfl <| w_end 19 rfl ?_
    refine g_retR [.bool (x1 == 95)] rfl Try.func26 rfl (.tmp rfl (.nil)) fun wr hLr => ?_
    have hMr := hLr.pk0 (.c 1 rfl .n)
    show words_letter_R w F  r (.returned (packV [.bool (x1 == 95)])) wr
    rw [h]
    exact ⟨rfl, hMr⟩
  ·have h := if_neg' hp6 h
   refine w_bool 12 rfl ((decide_eq_false hp6)) <| wl_pass 10 rfl (ps 12 rfl rfl rfl) <| wl_pass 11 rfl (ps 12 rfl rfl rfl) <| wl_v 12 rfl (v_pick (b := false) rfl rfl) (gy 9 rfl rfl) rfl <| wl_v 13 rfl (v_pick (b := false) rfl rfl) gn rfl <| wl_v 14 rfl (v_move rfl) gn rfl <| wl_v 15 rfl (v_move rfl) (gy 17 rfl rfl) rfl <| wl_v 16 rfl (v_bin rfl rfl rfl) (gy 17 rfl rfl) rfl <| wl_v 17 rfl (v_pick (b := false) rfl rfl) gn rfl <| wl_v 18 rfl (v_assign rfl) gn rfl <| w_end 19 rfl ?_
   refine g_retR [.bool (x1 == 95)] rfl Try.func26 rfl (.tmp rfl (.nil)) fun wr hLr => ?_
   have hMr := hLr.pk0 (.c 1 rfl .n)
   show words_letter_R w F  r (.returned (packV [.bool (x1 == 95)])) wr
   rw [h]
   exact ⟨rfl, hMr⟩
abbrev words_digit_R (w : World) (F : Nat → Prop) (r : Bool) : Ending → World → Prop := fun e w' => e = .returned (.bool r) ∧ B.Loc w w' [] [St w []]
noncomputable abbrev words_digit_C (w : World) (F : Nat → Prop) (r : Bool) : Cx := ⟨Try.prog, 27, Try.f27, 9, words_digit_R w F  r, w⟩
theorem words_digit_calls (w : World) (F : Nat → Prop) (x1 : Int) (hF : ∀ b, F b → b < w.heap.size ∧ ∀ o ∈ ([] : List (List Nat)), b ∉ o) (hL0 : B.Loc w w [] [Sm w.heap.size F w [], St w []]) (r : Bool) (h : words_digit x1 r) : Calls Try.prog 27 #[.int .u8 x1] w (words_digit_R w F  r) := by
 unfold words_digit at h
 refine calls_of_Loc (vs := [.int .u8 x1]) 9 Try.func27 rfl Try.ntmps27 rfl hL0 ?_
 show G (words_digit_C w F r) _ _ _ _
 refine g_seq rfl <| g_region rfl rfl <| wl_v 0 rfl (v_assign rfl) gn rfl <| w_end 1 rfl <| g_seq rfl <| g_region rfl rfl <| wl_v 0 rfl (v_move rfl) gn rfl <| wl_v 1 rfl (v_bin rfl rfl rfl) gn rfl <| wl_v 2 rfl (v_move rfl) gn rfl ?_
 by_cases hp2 : x1 ≥ 48
 ·have h := if_pos' hp2 h
  refine w_bool 5 rfl ((decide_eq_true hp2)) <| wl_v 3 rfl (v_move rfl) (gy 5 rfl rfl) rfl <| wl_v 4 rfl (v_bin rfl rfl rfl) (gy 5 rfl rfl) rfl <| wl_v 5 rfl (v_pick (b := true) rfl rfl) gn rfl <| wl_v 6 rfl (v_assign rfl) gn rfl <| w_end 7 rfl ?_
  refine g_retR [.bool (decide (x1 ≤ 57))] rfl Try.func27 rfl (.tmp rfl (.nil)) fun wr hLr => ?_
  have hMr := hLr.pk0 (.c 1 rfl .n)
  show words_digit_R w F  r (.returned (packV [.bool (decide (x1 ≤ 57))])) wr
  rw [h]
  exact ⟨rfl, hMr⟩
 ·have h := if_neg' hp2 h
  refine w_bool 5 rfl ((decide_eq_false hp2)) <| wl_pass 3 rfl (ps 5 rfl rfl rfl) <| wl_pass 4 rfl (ps 5 rfl rfl rfl) <| wl_v 5 rfl (v_pick (b := false) rfl rfl) gn rfl <| wl_v 6 rfl (v_assign rfl) gn rfl <| w_end 7 rfl ?_
  refine g_retR [.bool false] rfl Try.func27 rfl (.tmp rfl (.nil)) fun wr hLr => ?_
  have hMr := hLr.pk0 (.c 1 rfl .n)
  show words_digit_R w F  r (.returned (packV [.bool false])) wr
  rw [h]
  exact ⟨rfl, hMr⟩
abbrev internal_stringslite_IndexByte_R (w : World) (F : Nat → Prop) (r : Int) : Ending → World → Prop := fun e w' => e = .returned (.int .i64 r) ∧ B.Loc w w' [] [St w []]
noncomputable abbrev internal_stringslite_IndexByte_C (w : World) (F : Nat → Prop) (r : Int) : Cx := ⟨Try.prog, 42, Try.f42, 8, internal_stringslite_IndexByte_R w F  r, w⟩
theorem internal_stringslite_IndexByte_calls (w : World) (F : Nat → Prop) (x1 : ByteArray) (x2 : Int) (hF : ∀ b, F b → b < w.heap.size ∧ ∀ o ∈ ([] : List (List Nat)), b ∉ o) (hL0 : B.Loc w w [] [Sm w.heap.size F w [], St w []]) (r : Int) (h : internal_stringslite_IndexByte x1 x2 r) : Calls Try.prog 42 #[.string x1, .int .u8 x2] w (internal_stringslite_IndexByte_R w F  r) := by
 unfold internal_stringslite_IndexByte at h
 refine calls_of_Loc (vs := [.string x1, .int .u8 x2]) 8 Try.func42 rfl Try.ntmps42 rfl hL0 ?_
 show G (internal_stringslite_IndexByte_C w F r) _ _ _ _
 refine g_seq rfl <| g_region rfl rfl <| wl_v 0 rfl (v_assign rfl) gn rfl <| w_end 1 rfl <| g_seq rfl <| g_region rfl rfl <| wl_v 0 rfl (v_move rfl) gn rfl <| wl_v 1 rfl (v_move rfl) gn rfl <| wl_v 2 rfl (v_ext [.string x1, .int .u8 x2] rfl Try.func47 rfl rfl (by kernel_rfl) (by kernel_rfl) (fun w => x_indexByteS _ _ w)) gn rfl <| wl_v 3 rfl (v_assign rfl) gn rfl <| w_end 4 rfl ?_
 refine g_retR [.int .i64 (idxB x1 x2)] rfl Try.func42 rfl (.tmp rfl (.nil)) fun wr hLr => ?_
 have hMr := hLr.pk0 (.c 1 rfl .n)
 show internal_stringslite_IndexByte_R w F  r (.returned (packV [.int .i64 (idxB x1 x2)])) wr
 rw [h]
 exact ⟨rfl, hMr⟩
abbrev strings_IndexByte_R (w : World) (F : Nat → Prop) (r : Int) : Ending → World → Prop := fun e w' => e = .returned (.int .i64 r) ∧ B.Loc w w' [] [St w []]
noncomputable abbrev strings_IndexByte_C (w : World) (F : Nat → Prop) (r : Int) : Cx := ⟨Try.prog, 28, Try.f28, 8, strings_IndexByte_R w F  r, w⟩
theorem strings_IndexByte_calls (w : World) (F : Nat → Prop) (x1 : ByteArray) (x2 : Int) (hF : ∀ b, F b → b < w.heap.size ∧ ∀ o ∈ ([] : List (List Nat)), b ∉ o) (hL0 : B.Loc w w [] [Sm w.heap.size F w [], St w []]) (r : Int) (h : strings_IndexByte x1 x2 r) : Calls Try.prog 28 #[.string x1, .int .u8 x2] w (strings_IndexByte_R w F  r) := by
 unfold strings_IndexByte at h
 refine calls_of_Loc (vs := [.string x1, .int .u8 x2]) 8 Try.func28 rfl Try.ntmps28 rfl hL0 ?_
 show G (strings_IndexByte_C w F r) _ _ _ _
 refine g_seq rfl <| g_region rfl rfl <| wl_v 0 rfl (v_assign rfl) gn rfl <| w_end 1 rfl <| g_seq rfl <| g_region rfl rfl <| wl_v 0 rfl (v_move rfl) gn rfl <| wl_v 1 rfl (v_move rfl) gn rfl ?_
 obtain ⟨r6, hv7, h⟩ := h
 refine wl_s 2 rfl (s_call [.string x1, .int .u8 x2] rfl Try.func42 rfl rfl rfl fun w3 hL4 => ?_) gn
 have hp5 := pmI hL4 .n .n (by kernel_rfl)
 refine Calls.mono (internal_stringslite_IndexByte_calls w3 (Fl ([] : List Snap)) x1 x2 (hL4.hFl hp5 (sels [] rfl)) (hL4.into hp5 _) r6 hv7) ?_
 rintro _ w8 ⟨rfl, hM9⟩
 have hL10 := hL4.call hp5 hM9
 refine ⟨_, _, _, rfl, hL10, ?_⟩
 refine wl_v 3 rfl (v_assign rfl) gn rfl <| w_end 4 rfl ?_
 refine g_retR [.int .i64 r6] rfl Try.func28 rfl (.tmp rfl (.nil)) fun wr hLr => ?_
 have hMr := hLr.pk0 (.c 1 rfl .n)
 show strings_IndexByte_R w F  r (.returned (packV [.int .i64 r6])) wr
 rw [h]
 exact ⟨rfl, hMr⟩
noncomputable abbrev q48c4 := Code.snd (Code.snd (bodyOf Try.f48))
noncomputable abbrev q48c13 := Code.snd (Code.snd (Code.snd (Code.fst (Code.fst (Code.snd (bodyOf Try.f48))))))
noncomputable abbrev q48c19 := Code.snd (Code.snd q48c13)
abbrev words_hex_R (w : World) (F : Nat → Prop) (r : Int × Bool) : Ending → World → Prop := fun e w' => e = .returned (.tuple #[.int .u8 r.1, .bool r.2]) ∧ B.Loc w w' [] [St w []]
noncomputable abbrev words_hex_C (w : World) (F : Nat → Prop) (r : Int × Bool) : Cx := ⟨Try.prog, 48, Try.f48, 29, words_hex_R w F  r, w⟩
theorem words_hex_calls (w : World) (F : Nat → Prop) (x1 : Int) (hF : ∀ b, F b → b < w.heap.size ∧ ∀ o ∈ ([] : List (List Nat)), b ∉ o) (hL0 : B.Loc w w [] [Sm w.heap.size F w [], St w []]) (r : Int × Bool) (h : words_hex x1 r) : Calls Try.prog 48 #[.int .u8 x1] w (words_hex_R w F  r) := by
 unfold words_hex at h
 refine calls_of_Loc (vs := [.int .u8 x1]) 29 Try.func48 rfl Try.ntmps48 rfl hL0 ?_
 show G (words_hex_C w F r) _ _ _ _
 refine g_seq rfl <| g_region rfl rfl <| wl_v 0 rfl (v_assign rfl) gn rfl <| wl_v 1 rfl (v_assign rfl) gn rfl <| w_end 2 rfl <| g_seq rfl <| g_block rfl <| g_seq rfl <| g_region rfl rfl <| wl_v 0 rfl (v_move rfl) gn rfl ?_
 obtain ⟨r5, hv6, h⟩ := h
 refine wl_s 1 rfl (s_call [.int .u8 x1] rfl Try.func27 rfl rfl rfl fun w2 hL3 => ?_) gn
 have hp4 := pmI hL3 .n .n (by kernel_rfl)
 refine Calls.mono (words_digit_calls w2 (Fl ([] : List Snap)) x1 (hL3.hFl hp4 (sels [] rfl)) (hL3.into hp4 _) r5 hv6) ?_
 rintro _ w7 ⟨rfl, hM8⟩
 have hL9 := hL3.call hp4 hM8
 refine ⟨_, _, _, rfl, hL9, ?_⟩
 refine wl_v 2 rfl (v_assign rfl) gn rfl <| w_end 3 rfl ?_
 by_cases hp10 : r5 = true
 ·have h := if_pos' hp10 h
  refine g_true rfl _ rfl (hp10) <| g_seq rfl <| g_region rfl rfl <| wl_v 0 rfl (v_move rfl) gn rfl <| wl_v 1 rfl (v_bin rfl rfl rfl) gn rfl <| wl_v 2 rfl (v_assign rfl) gn rfl <| wl_v 3 rfl (v_assign rfl) gn rfl <| w_end 4 rfl ?_
  refine g_retR [.int .u8 (IntKind.u8.wrap (x1 - 48)), .bool true] rfl Try.func48 rfl (.tmp rfl (.tmp rfl (.nil))) fun wr hLr => ?_
  have hMr := hLr.pk0 (.c 1 rfl .n)
  show words_hex_R w F  r (.returned (packV [.int .u8 (IntKind.u8.wrap (x1 - 48)), .bool true])) wr
  rw [h]
  exact ⟨rfl, hMr⟩
 ·have h := if_neg' hp10 h
  refine g_false rfl _ rfl ((bf hp10)) <| g_seq rfl ?_
  have j1 : ∀ (x13 : Bool) (h : words_hex_j1 x1 x13 r) , G (words_hex_C w F r) [.code q48c13, .inBlock 0, .code q48c4] [(0, .int .u8 x1), (9, .bool x13)] [] [Sm w.heap.size F w [], St w []] := by
   intro x13 h
   unfold words_hex_j1 at h
   by_cases hp14 : x13 = true
   ·have h := if_pos' hp14 h
    refine g_true rfl _ rfl (hp14) <| g_seq rfl <| g_region rfl rfl <| wl_v 0 rfl (v_move rfl) gn rfl <| wl_v 1 rfl (v_bin rfl rfl rfl) gn rfl <| wl_v 2 rfl (v_bin rfl rfl rfl) gn rfl <| wl_v 3 rfl (v_assign rfl) gn rfl <| wl_v 4 rfl (v_assign rfl) gn rfl <| w_end 5 rfl ?_
    refine g_retR [.int .u8 (IntKind.u8.wrap ((IntKind.u8.wrap (x1 - 97)) + 10)), .bool true] rfl Try.func48 rfl (.tmp rfl (.tmp rfl (.nil))) fun wr hLr => ?_
    have hMr := hLr.pk0 (.c 1 rfl .n)
    show words_hex_R w F  r (.returned (packV [.int .u8 (IntKind.u8.wrap ((IntKind.u8.wrap (x1 - 97)) + 10)), .bool true])) wr
    rw [h]
    exact ⟨rfl, hMr⟩
   ·have h := if_neg' hp14 h
    refine g_false rfl _ rfl ((bf hp14)) <| g_seq rfl ?_
    have j2 : ∀ (x17 : Bool) (h : words_hex_j2 x1 x17 r) , G (words_hex_C w F r) [.code q48c19, .inBlock 0, .code q48c4] [(0, .int .u8 x1), (19, .bool x17)] [] [Sm w.heap.size F w [], St w []] := by
     intro x17 h
     unfold words_hex_j2 at h
     by_cases hp18 : x17 = true
     ·have h := if_pos' hp18 h
      refine g_true rfl _ rfl (hp18) <| g_seq rfl <| g_region rfl rfl <| wl_v 0 rfl (v_move rfl) gn rfl <| wl_v 1 rfl (v_bin rfl rfl rfl) gn rfl <| wl_v 2 rfl (v_bin rfl rfl rfl) gn rfl <| wl_v 3 rfl (v_assign rfl) gn rfl <| wl_v 4 rfl (v_assign rfl) gn rfl <| w_end 5 rfl ?_
      refine g_retR [.int .u8 (IntKind.u8.wrap ((IntKind.u8.wrap (x1 - 65)) + 10)), .bool true] rfl Try.func48 rfl (.tmp rfl (.tmp rfl (.nil))) fun wr hLr => ?_
      have hMr := hLr.pk0 (.c 1 rfl .n)
      show words_hex_R w F  r (.returned (packV [.int .u8 (IntKind.u8.wrap ((IntKind.u8.wrap (x1 - 65)) + 10)), .bool true])) wr
      rw [h]
      exact ⟨rfl, hMr⟩
     ·have h := if_neg' hp18 h
      refine g_false rfl _ rfl ((bf hp18)) <| g_skip rfl <| g_inBlock <| g_seq rfl <| g_region rfl rfl <| wl_v 0 rfl (v_assign rfl) gn rfl <| wl_v 1 rfl (v_assign rfl) gn rfl <| w_end 2 rfl ?_
      refine g_retR [.int .u8 0, .bool false] rfl Try.func48 rfl (.tmp rfl (.tmp rfl (.nil))) fun wr hLr => ?_
      have hMr := hLr.pk0 (.c 1 rfl .n)
      show words_hex_R w F  r (.returned (packV [.int .u8 0, .bool false])) wr
      rw [h]
      exact ⟨rfl, hMr⟩
    refine g_region rfl rfl <| wl_v 0 rfl (v_move rfl) gn rfl <| wl_v 1 rfl (v_bin rfl rfl rfl) gn rfl <| wl_v 2 rfl (v_move rfl) gn rfl ?_
    by_cases hp19 : x1 ≥ 65
    ·have h := if_pos' hp19 h
     refine w_bool 22 rfl ((decide_eq_true hp19)) <| wl_v 3 rfl (v_move rfl) (gy 22 rfl rfl) rfl <| wl_v 4 rfl (v_bin rfl rfl rfl) (gy 22 rfl rfl) rfl <| wl_v 5 rfl (v_pick (b := true) rfl rfl) gn rfl <| wl_v 6 rfl (v_assign rfl) gn rfl <| w_end 7 rfl ?_
     exact g_go [0, 1] (j2 (decide (x1 ≤ 70)) h) ⟨rfl, rfl, trivial⟩ (.slnil) rfl
    ·have h := if_neg' hp19 h
     refine w_bool 22 rfl ((decide_eq_false hp19)) <| wl_pass 3 rfl (ps 22 rfl rfl rfl) <| wl_pass 4 rfl (ps 22 rfl rfl rfl) <| wl_v 5 rfl (v_pick (b := false) rfl rfl) gn rfl <| wl_v 6 rfl (v_assign rfl) gn rfl <| w_end 7 rfl ?_
     exact g_go [0, 1] (j2 false h) ⟨rfl, rfl, trivial⟩ (.slnil) rfl
  refine g_region rfl rfl <| wl_v 0 rfl (v_move rfl) gn rfl <| wl_v 1 rfl (v_bin rfl rfl rfl) gn rfl <| wl_v 2 rfl (v_move rfl) gn rfl ?_
  by_cases hp20 : x1 ≥ 97
  ·have h := if_pos' hp20 h
   refine w_bool 12 rfl ((decide_eq_true hp20)) <| wl_v 3 rfl (v_move rfl) (gy 12 rfl rfl) rfl <| wl_v 4 rfl (v_bin rfl rfl rfl) (gy 12 rfl rfl) rfl <| wl_v 5 rfl (v_pick (b := true) rfl rfl) gn rfl <| wl_v 6 rfl (v_assign rfl) gn rfl <| w_end 7 rfl ?_
   exact g_go [0, 1] (j1 (decide (x1 ≤ 102)) h) ⟨rfl, rfl, trivial⟩ (.slnil) rfl
  ·have h := if_neg' hp20 h
   refine w_bool 12 rfl ((decide_eq_false hp20)) <| wl_pass 3 rfl (ps 12 rfl rfl rfl) <| wl_pass 4 rfl (ps 12 rfl rfl rfl) <| wl_v 5 rfl (v_pick (b := false) rfl rfl) gn rfl <| wl_v 6 rfl (v_assign rfl) gn rfl <| w_end 7 rfl ?_
   exact g_go [0, 1] (j1 false h) ⟨rfl, rfl, trivial⟩ (.slnil) rfl
noncomputable abbrev q43c12 := Code.snd (Code.snd (Code.snd (bodyOf Try.f43)))
noncomputable abbrev q43c17 := Code.snd (Code.fst (Code.snd (Code.fst (Code.snd (Code.snd (bodyOf Try.f43))))))
noncomputable abbrev q43c57 := Code.snd (Code.snd (Code.snd (Code.fst (Code.snd (Code.fst (Code.snd (Code.snd (Code.snd (Code.snd (Code.snd (Code.snd (Code.snd (Code.snd q43c17)))))))))))))
abbrev words_escape_R (w : World) (F : Nat → Prop) (r : Int × Int) : Ending → World → Prop := fun e w' => e = .returned (.tuple #[.int .u8 r.1, .int .i64 r.2]) ∧ B.Loc w w' [] [St w []]
noncomputable abbrev words_escape_C (w : World) (F : Nat → Prop) (r : Int × Int) : Cx := ⟨Try.prog, 43, Try.f43, 63, words_escape_R w F  r, w⟩
theorem words_escape_calls (w : World) (F : Nat → Prop) (x1 : ByteArray) (x2 : Int) (hF : ∀ b, F b → b < w.heap.size ∧ ∀ o ∈ ([] : List (List Nat)), b ∉ o) (hL0 : B.Loc w w [] [Sm w.heap.size F w [], St w []]) (r : Int × Int) (h : words_escape x1 x2 r) : Calls Try.prog 43 #[.string x1, .int .i64 x2] w (words_escape_R w F  r) := by
 unfold words_escape at h
 refine calls_of_Loc (vs := [.string x1, .int .i64 x2]) 63 Try.func43 rfl Try.ntmps43 rfl hL0 ?_
 show G (words_escape_C w F r) _ _ _ _
 refine g_seq rfl <| g_region rfl rfl <| wl_v 0 rfl (v_assign rfl) gn rfl <| wl_v 1 rfl (v_assign rfl) gn rfl <| w_end 2 rfl <| g_seq rfl <| g_seq rfl <| g_region rfl rfl <| wl_v 0 rfl (v_move rfl) gn rfl <| wl_v 1 rfl (v_bin rfl rfl rfl) gn rfl <| wl_v 2 rfl (v_move rfl) gn rfl <| wl_v 3 rfl (v_lenS un_9 rfl) gn rfl ?_
 refine wl_v 4 rfl (v_bin rfl rfl rfl) gn rfl <| w_end 5 rfl ?_
 by_cases hp3 : w64 (x2 + 1) ≥ (x1.size : Int)
 ·have h := if_pos' hp3 h
  refine g_true rfl _ rfl ((decide_eq_true hp3)) <| g_seq rfl <| g_region rfl rfl <| wl_v 0 rfl (v_assign rfl) gn rfl <| wl_v 1 rfl (v_assign rfl) gn rfl <| w_end 2 rfl ?_
  refine g_retR [.int .u8 0, .int .i64 0] rfl Try.func43 rfl (.tmp rfl (.tmp rfl (.nil))) fun wr hLr => ?_
  have hMr := hLr.pk0 (.c 1 rfl .n)
  show words_escape_R w F  r (.returned (packV [.int .u8 0, .int .i64 0])) wr
  rw [h]
  exact ⟨rfl, hMr⟩
 ·have h := if_neg' hp3 h
  refine g_false rfl _ rfl ((decide_eq_false hp3)) <| g_skip rfl <| g_seq rfl <| g_seq rfl <| g_region rfl rfl <| wl_v 0 rfl (v_move rfl) gn rfl <| wl_v 1 rfl (v_move rfl) gn rfl <| wl_v 2 rfl (v_bin rfl rfl rfl) gn rfl ?_
  obtain ⟨hb4, h⟩ := h
  refine wl_v 3 rfl (v_indexS un_9 rfl rfl hb4) gn rfl <| w_end 4 rfl <| g_block rfl <| g_seq rfl <| g_seq rfl <| g_region rfl rfl <| wl_v 0 rfl (v_bin rfl rfl rfl) gn rfl <| wl_v 1 rfl (v_assign rfl) gn rfl <| w_end 2 rfl ?_
  have j1 : ∀ (x7 : Bool) (h : words_escape_j1 x1 x2 x7 r) , G (words_escape_C w F r) [.code q43c17, .inBlock 0, .code q43c12] [(0, .string x1), (1, .int .i64 x2), (18, .int .u8 (bt x1 (w64 (x2 + 1)))), (19, .bool x7)] [] [Sm w.heap.size F w [], St w []] := by
   intro x7 h
   unfold words_escape_j1 at h
   by_cases hp8 : x7 = true
   ·have h := if_pos' hp8 h
    refine g_true rfl _ rfl (hp8) <| g_seq rfl <| g_region rfl rfl <| wl_v 0 rfl (v_move rfl) gn rfl <| wl_v 1 rfl (v_move rfl) gn rfl <| wl_v 2 rfl (v_bin rfl rfl rfl) gn rfl <| wl_v 3 rfl (v_indexS un_9 rfl rfl hb4) gn rfl <| wl_v 4 rfl (v_assign rfl) gn rfl <| wl_v 5 rfl (v_assign rfl) gn rfl <| w_end 6 rfl ?_
    refine g_retR [.int .u8 (bt x1 (w64 (x2 + 1))), .int .i64 2] rfl Try.func43 rfl (.tmp rfl (.tmp rfl (.nil))) fun wr hLr => ?_
    have hMr := hLr.pk0 (.c 1 rfl .n)
    show words_escape_R w F  r (.returned (packV [.int .u8 (bt x1 (w64 (x2 + 1))), .int .i64 2])) wr
    rw [h]
    exact ⟨rfl, hMr⟩
   ·have h := if_neg' hp8 h
    refine g_false rfl _ rfl ((bf hp8)) <| g_seq rfl <| g_region rfl rfl <| wl_v 0 rfl (v_bin rfl rfl rfl) gn rfl <| wl_v 1 rfl (v_assign rfl) gn rfl <| w_end 2 rfl ?_
    by_cases hp9 : bt x1 (w64 (x2 + 1)) = 110
    ·have h := if_pos' hp9 h
     refine g_true rfl _ rfl ((eqi hp9)) <| g_seq rfl <| g_region rfl rfl <| wl_v 0 rfl (v_assign rfl) gn rfl <| wl_v 1 rfl (v_assign rfl) gn rfl <| w_end 2 rfl ?_
     refine g_retR [.int .u8 10, .int .i64 2] rfl Try.func43 rfl (.tmp rfl (.tmp rfl (.nil))) fun wr hLr => ?_
     have hMr := hLr.pk0 (.c 1 rfl .n)
     show words_escape_R w F  r (.returned (packV [.int .u8 10, .int .i64 2])) wr
     rw [h]
     exact ⟨rfl, hMr⟩
    ·have h := if_neg' hp9 h
     refine g_false rfl _ rfl ((nei hp9)) <| g_seq rfl <| g_region rfl rfl <| wl_v 0 rfl (v_bin rfl rfl rfl) gn rfl <| wl_v 1 rfl (v_assign rfl) gn rfl <| w_end 2 rfl ?_
     by_cases hp10 : bt x1 (w64 (x2 + 1)) = 116
     ·have h := if_pos' hp10 h
      refine g_true rfl _ rfl ((eqi hp10)) <| g_seq rfl <| g_region rfl rfl <| wl_v 0 rfl (v_assign rfl) gn rfl <| wl_v 1 rfl (v_assign rfl) gn rfl <| w_end 2 rfl ?_
      refine g_retR [.int .u8 9, .int .i64 2] rfl Try.func43 rfl (.tmp rfl (.tmp rfl (.nil))) fun wr hLr => ?_
      have hMr := hLr.pk0 (.c 1 rfl .n)
      show words_escape_R w F  r (.returned (packV [.int .u8 9, .int .i64 2])) wr
      rw [h]
      exact ⟨rfl, hMr⟩
     ·have h := if_neg' hp10 h
      refine g_false rfl _ rfl ((nei hp10)) <| g_seq rfl <| g_region rfl rfl <| wl_v 0 rfl (v_bin rfl rfl rfl) gn rfl <| wl_v 1 rfl (v_assign rfl) gn rfl <| w_end 2 rfl ?_
      by_cases hp11 : bt x1 (w64 (x2 + 1)) = 114
      ·have h := if_pos' hp11 h
       refine g_true rfl _ rfl ((eqi hp11)) <| g_seq rfl <| g_region rfl rfl <| wl_v 0 rfl (v_assign rfl) gn rfl <| wl_v 1 rfl (v_assign rfl) gn rfl <| w_end 2 rfl ?_
       refine g_retR [.int .u8 13, .int .i64 2] rfl Try.func43 rfl (.tmp rfl (.tmp rfl (.nil))) fun wr hLr => ?_
       have hMr := hLr.pk0 (.c 1 rfl .n)
       show words_escape_R w F  r (.returned (packV [.int .u8 13, .int .i64 2])) wr
       rw [h]
       exact ⟨rfl, hMr⟩
      ·have h := if_neg' hp11 h
       refine g_false rfl _ rfl ((nei hp11)) <| g_seq rfl <| g_region rfl rfl <| wl_v 0 rfl (v_bin rfl rfl rfl) gn rfl <| wl_v 1 rfl (v_assign rfl) gn rfl <| w_end 2 rfl ?_
       by_cases hp12 : bt x1 (w64 (x2 + 1)) = 120
       ·have h := if_pos' hp12 h
        refine g_true rfl _ rfl ((eqi hp12)) <| g_seq rfl <| g_region rfl rfl <| wl_v 0 rfl (v_move rfl) gn rfl <| wl_v 1 rfl (v_bin rfl rfl rfl) gn rfl <| wl_v 2 rfl (v_move rfl) gn rfl <| wl_v 3 rfl (v_lenS un_9 rfl) gn rfl <| wl_v 4 rfl (v_bin rfl rfl rfl) gn rfl <| w_end 5 rfl ?_
        by_cases hp13 : w64 (x2 + 3) < (x1.size : Int)
        ·have h := if_pos' hp13 h
         refine g_true rfl _ rfl ((decide_eq_true hp13)) <| g_seq rfl <| g_region rfl rfl <| wl_v 0 rfl (v_move rfl) gn rfl <| wl_v 1 rfl (v_move rfl) gn rfl <| wl_v 2 rfl (v_bin rfl rfl rfl) gn rfl ?_
         obtain ⟨hb14, h⟩ := h
         refine wl_v 3 rfl (v_indexS un_9 rfl rfl hb14) gn rfl ?_
         obtain ⟨r18, hv19, h⟩ := h
         refine wl_s 4 rfl (s_call [.int .u8 (bt x1 (w64 (x2 + 2)))] rfl Try.func48 rfl rfl rfl fun w15 hL16 => ?_) gn
         have hp17 := pmI hL16 .n .n (by kernel_rfl)
         refine Calls.mono (words_hex_calls w15 (Fl ([] : List Snap)) (bt x1 (w64 (x2 + 2))) (hL16.hFl hp17 (sels [] rfl)) (hL16.into hp17 _) r18 hv19) ?_
         rintro _ w20 ⟨rfl, hM21⟩
         have hL22 := hL16.call hp17 hM21
         refine ⟨_, _, _, rfl, hL22, ?_⟩
         refine wl_v 5 rfl (v_move rfl) gn rfl <| wl_v 6 rfl (v_extract rfl rfl) gn rfl <| wl_v 7 rfl (v_extract rfl rfl) gn rfl <| wl_v 8 rfl (v_assign rfl) gn rfl <| wl_v 9 rfl (v_assign rfl) gn rfl <| w_end 10 rfl <| g_seq rfl <| g_region rfl rfl <| wl_v 0 rfl (v_move rfl) gn rfl <| wl_v 1 rfl (v_move rfl) gn rfl <| wl_v 2 rfl (v_bin rfl rfl rfl) gn rfl ?_
         obtain ⟨hb23, h⟩ := h
         refine wl_v 3 rfl (v_indexS un_9 rfl rfl hb23) gn rfl ?_
         obtain ⟨r27, hv28, h⟩ := h
         refine wl_s 4 rfl (s_call [.int .u8 (bt x1 (w64 (x2 + 3)))] rfl Try.func48 rfl rfl rfl fun w24 hL25 => ?_) gn
         have hp26 := pmI hL25 .n .n (by kernel_rfl)
         refine Calls.mono (words_hex_calls w24 (Fl ([] : List Snap)) (bt x1 (w64 (x2 + 3))) (hL25.hFl hp26 (sels [] rfl)) (hL25.into hp26 _) r27 hv28) ?_
         rintro _ w29 ⟨rfl, hM30⟩
         have hL31 := hL25.call hp26 hM30
         refine ⟨_, _, _, rfl, hL31, ?_⟩
         refine wl_v 5 rfl (v_move rfl) gn rfl <| wl_v 6 rfl (v_extract rfl rfl) gn rfl <| wl_v 7 rfl (v_extract rfl rfl) gn rfl <| wl_v 8 rfl (v_assign rfl) gn rfl <| wl_v 9 rfl (v_assign rfl) gn rfl <| w_end 10 rfl <| g_seq rfl ?_
         have j2 : ∀ (x34 : Bool) (h : words_escape_j2 r18 r27 x34 r) , G (words_escape_C w F r) [.code q43c57, .inBlock 0, .code q43c12] [(6, .int .u8 r18.1), (8, .int .u8 r27.1), (58, .bool x34)] [] [Sm w.heap.size F w [], St w []] := by
          intro x34 h
          unfold words_escape_j2 at h
          by_cases hp35 : x34 = true
          ·have h := if_pos' hp35 h
           refine g_true rfl _ rfl (hp35) <| g_seq rfl <| g_region rfl rfl <| wl_v 0 rfl (v_move rfl) gn rfl <| wl_v 1 rfl (v_bin rfl rfl rfl) gn rfl <| wl_v 2 rfl (v_move rfl) gn rfl <| wl_v 3 rfl (v_bin rfl rfl rfl) gn rfl <| wl_v 4 rfl (v_assign rfl) gn rfl <| wl_v 5 rfl (v_assign rfl) gn rfl <| w_end 6 rfl ?_
           refine g_retR [.int .u8 (IntKind.u8.wrap ((IntKind.u8.wrap (16 * r18.1)) + r27.1)), .int .i64 4] rfl Try.func43 rfl (.tmp rfl (.tmp rfl (.nil))) fun wr hLr => ?_
           have hMr := hLr.pk0 (.c 1 rfl .n)
           show words_escape_R w F  r (.returned (packV [.int .u8 (IntKind.u8.wrap ((IntKind.u8.wrap (16 * r18.1)) + r27.1)), .int .i64 4])) wr
           rw [h]
           exact ⟨rfl, hMr⟩
          ·have h := if_neg' hp35 h
           refine g_false rfl _ rfl ((bf hp35)) <| g_skip rfl <| g_inBlock <| g_seq rfl <| g_region rfl rfl <| wl_v 0 rfl (v_assign rfl) gn rfl <| wl_v 1 rfl (v_assign rfl) gn rfl <| w_end 2 rfl ?_
           refine g_retR [.int .u8 0, .int .i64 0] rfl Try.func43 rfl (.tmp rfl (.tmp rfl (.nil))) fun wr hLr => ?_
           have hMr := hLr.pk0 (.c 1 rfl .n)
           show words_escape_R w F  r (.returned (packV [.int .u8 0, .int .i64 0])) wr
           rw [h]
           exact ⟨rfl, hMr⟩
         refine g_region rfl rfl <| wl_v 0 rfl (v_move rfl) gn rfl <| wl_v 1 rfl (v_move rfl) gn rfl ?_
         by_cases hp36 : r18.2 = true
         ·have h := if_pos' hp36 h
          refine w_bool 56 rfl (hp36) <| wl_v 2 rfl (v_move rfl) (gy 56 rfl rfl) rfl <| wl_v 3 rfl (v_pick (b := true) rfl rfl) gn rfl <| w_end 4 rfl ?_
          exact g_go [0, 1] (j2 r27.2 h) ⟨rfl, rfl, rfl, trivial⟩ (.slnil) rfl
         ·have h := if_neg' hp36 h
          refine w_bool 56 rfl ((bf hp36)) <| wl_pass 2 rfl (ps 56 rfl rfl rfl) <| wl_v 3 rfl (v_pick (b := false) rfl rfl) gn rfl <| w_end 4 rfl ?_
          exact g_go [0, 1] (j2 false h) ⟨rfl, rfl, rfl, trivial⟩ (.slnil) rfl
        ·have h := if_neg' hp13 h
         refine g_false rfl _ rfl ((decide_eq_false hp13)) <| g_skip rfl <| g_inBlock <| g_seq rfl <| g_region rfl rfl <| wl_v 0 rfl (v_assign rfl) gn rfl <| wl_v 1 rfl (v_assign rfl) gn rfl <| w_end 2 rfl ?_
         refine g_retR [.int .u8 0, .int .i64 0] rfl Try.func43 rfl (.tmp rfl (.tmp rfl (.nil))) fun wr hLr => ?_
         have hMr := hLr.pk0 (.c 1 rfl .n)
         show words_escape_R w F  r (.returned (packV [.int .u8 0, .int .i64 0])) wr
         rw [h]
         exact ⟨rfl, hMr⟩
       ·have h := if_neg' hp12 h
        refine g_false rfl _ rfl ((nei hp12)) <| g_skip rfl <| g_inBlock <| g_seq rfl <| g_region rfl rfl <| wl_v 0 rfl (v_assign rfl) gn rfl <| wl_v 1 rfl (v_assign rfl) gn rfl <| w_end 2 rfl ?_
        refine g_retR [.int .u8 0, .int .i64 0] rfl Try.func43 rfl (.tmp rfl (.tmp rfl (.nil))) fun wr hLr => ?_
        have hMr := hLr.pk0 (.c 1 rfl .n)
        show words_escape_R w F  r (.returned (packV [.int .u8 0, .int .i64 0])) wr
        rw [h]
        exact ⟨rfl, hMr⟩
  by_cases hp5 : bt x1 (w64 (x2 + 1)) = 34
  ·have h := if_pos' hp5 h
   refine g_true rfl _ rfl ((eqi hp5)) <| g_skip rfl ?_
   exact g_go [0, 1] (j1 ((bt x1 (w64 (x2 + 1))) == 34) h) ⟨rfl, rfl, rfl, rfl, trivial⟩ (.slnil) rfl
  ·have h := if_neg' hp5 h
   refine g_false rfl _ rfl ((nei hp5)) <| g_region rfl rfl <| wl_v 0 rfl (v_bin rfl rfl rfl) gn rfl <| wl_v 1 rfl (v_assign rfl) gn rfl <| w_end 2 rfl ?_
   exact g_go [0, 1] (j1 ((bt x1 (w64 (x2 + 1))) == 92) h) ⟨rfl, rfl, rfl, rfl, trivial⟩ (.slnil) rfl
noncomputable abbrev q29c3 := Code.fst (Code.snd (bodyOf Try.f29))
noncomputable abbrev q29c9 := Code.snd (Code.snd (Code.snd q29c3))
noncomputable abbrev q29c11 := Code.snd q29c9
noncomputable abbrev q29c13 := Code.snd (Code.fst q29c9)
abbrev words_quoted_R (w : World) (F : Nat → Prop) (r : (List Int) × Int × Int) : Ending → World → Prop := fun e w' => ∃ A0 : Option Addr, ∃ n0 : Nat, ∃ c0 : Nat, e = .returned (.tuple #[.slice A0 n0 c0, .int .i64 r.2.1, .int .i64 r.2.2]) ∧ B.Loc w w' [.own (.slice A0 n0 c0) 5 1 n0 (r.1.flatMap (eI .u8))] [St w []] ∧ Ow w.heap.size A0 n0 c0 r.1
noncomputable abbrev words_quoted_C (w : World) (F : Nat → Prop) (r : (List Int) × Int × Int) : Cx := ⟨Try.prog, 29, Try.f29, 58, words_quoted_R w F  r, w⟩
theorem words_quoted_calls (w : World) (F : Nat → Prop) (x1 : ByteArray) (x2 : Int) (hF : ∀ b, F b → b < w.heap.size ∧ ∀ o ∈ ([] : List (List Nat)), b ∉ o) (hL0 : B.Loc w w [] [Sm w.heap.size F w [], St w []]) (r : (List Int) × Int × Int) (h : words_quoted x1 x2 r) : Calls Try.prog 29 #[.string x1, .int .i64 x2] w (words_quoted_R w F  r) := by
 unfold words_quoted at h
 refine calls_of_Loc (vs := [.string x1, .int .i64 x2]) 58 Try.func29 rfl Try.ntmps29 rfl hL0 ?_
 show G (words_quoted_C w F r) _ _ _ _
 refine g_seq rfl <| g_region rfl rfl <| wl_v 0 rfl (v_assign rfl) gn rfl <| wl_v 1 rfl (v_assign rfl) gn rfl <| wl_v 2 rfl (v_assign rfl) gn rfl <| w_end 3 rfl <| g_scope rfl <| g_seq rfl <| g_region rfl rfl <| wl_v 0 rfl (v_assign rfl) gn rfl <| w_end 1 rfl <| g_seq rfl ?_
 refine g_region rfl rfl <| wl_v 0 rfl (v_move rfl) gn rfl <| wl_v 1 rfl (v_bin rfl rfl rfl) gn rfl <| wl_v 2 rfl (v_assign rfl) gn rfl <| w_end 3 rfl <| g_seq rfl <| g_label rfl ?_
 have key1 : ∀ s, Rounds (fun (s : (List Int) × Int) o => words_quoted_b1 x1 x2 s.1 s.2 o) s r → (fun (s : (List Int) × Int) => ∀ (A44 : Option Addr) (n45 : Nat) (c46 : Nat) (h47 : Ow w.heap.size A44 n45 c46 s.1), G (words_quoted_C w F r) [.code q29c9, .inScope q29c3] [(0, .string x1), (1, .int .i64 x2), (7, .slice A44 n45 c46), (8, .int .i64 s.2)] [.own (.slice A44 n45 c46) 5 1 n45 (s.1.flatMap (eI .u8))] [Sm w.heap.size F w [], St w []]) s := by
  intro s hs
  refine Rounds.ind (mot := (fun (s : (List Int) × Int) => ∀ (A44 : Option Addr) (n45 : Nat) (c46 : Nat) (h47 : Ow w.heap.size A44 n45 c46 s.1), G (words_quoted_C w F r) [.code q29c9, .inScope q29c3] [(0, .string x1), (1, .int .i64 x2), (7, .slice A44 n45 c46), (8, .int .i64 s.2)] [.own (.slice A44 n45 c46) 5 1 n45 (s.1.flatMap (eI .u8))] [Sm w.heap.size F w [], St w []])) ?_ hs
  clear hs s
  intro s o1 h hO1
  obtain ⟨x43, x48⟩ := s
  show ∀ (A44 : Option Addr) (n45 : Nat) (c46 : Nat) (h47 : Ow w.heap.size A44 n45 c46 x43), G (words_quoted_C w F r) [.code q29c9, .inScope q29c3] [(0, .string x1), (1, .int .i64 x2), (7, .slice A44 n45 c46), (8, .int .i64 x48)] [.own (.slice A44 n45 c46) 5 1 n45 (x43.flatMap (eI .u8))] [Sm w.heap.size F w [], St w []]
  intro A44 n45 c46 h47
  have h : words_quoted_b1 x1 x2 x43 x48 o1 := h
  unfold words_quoted_b1 at h
  refine g_seq rfl <| g_seq rfl ?_
  have j2 : ∀ (x89 : Bool) (h : words_quoted_j2 x2 x48 x1 x43 x89 o1) , G (words_quoted_C w F r) [.code q29c13, .code q29c11, .inScope q29c3] [(0, .string x1), (1, .int .i64 x2), (7, .slice A44 n45 c46), (8, .int .i64 x48), (23, .bool x89)] [.own (.slice A44 n45 c46) 5 1 n45 (x43.flatMap (eI .u8))] [Sm w.heap.size F w [], St w []] := by
   intro x89 h
   unfold words_quoted_j2 at h
   by_cases hp90 : x89 = true
   ·have h := if_pos' hp90 h
    refine g_true rfl _ rfl (hp90) <| g_seq rfl <| g_region rfl rfl <| wl_v 0 rfl (v_move rfl) gn rfl <| wl_v 1 rfl (v_assign rfl) gn rfl <| wl_v 2 rfl (v_assign rfl) gn rfl <| wl_v 3 rfl (v_assign rfl) gn rfl <| w_end 4 rfl <| g_nil 5 1 ?_
    have h := Out.inr hO1 h
    refine g_retR [.slice none 0 0, .int .i64 82, .int .i64 x2] rfl Try.func29 rfl (.tmp rfl (.tmp rfl (.tmp rfl (.nil)))) fun wr hLr => ?_
    have hMr := hLr.pkI (.c 0 rfl .n) (.c 1 rfl .n) (by kernel_rfl) (.c 1 rfl .n)
    show words_quoted_R w F  r (.returned (packV [.slice none 0 0, .int .i64 82, .int .i64 x2])) wr
    rw [h]
    exact ⟨none, 0, 0, rfl, hMr, (Ow.nil (z := w.heap.size))⟩
   ·have h := if_neg' hp90 h
    refine g_false rfl _ rfl ((bf hp90)) <| g_skip rfl <| g_seq rfl <| g_seq rfl <| g_region rfl rfl <| wl_v 0 rfl (v_move rfl) gn rfl <| wl_v 1 rfl (v_move rfl) gn rfl ?_
    obtain ⟨hb91, h⟩ := h
    refine wl_v 2 rfl (v_indexS un_9 rfl rfl hb91) gn rfl <| wl_v 3 rfl (v_assign rfl) gn rfl <| w_end 4 rfl <| g_seq rfl <| g_region rfl rfl <| wl_v 0 rfl (v_move rfl) gn rfl <| w_end 1 rfl <| g_block rfl <| g_seq rfl <| g_region rfl rfl <| wl_v 0 rfl (v_bin rfl rfl rfl) gn rfl <| wl_v 1 rfl (v_assign rfl) gn rfl ?_
    refine w_end 2 rfl ?_
    by_cases hp92 : bt x1 x48 = 34
    ·have h := if_pos' hp92 h
     refine g_true rfl _ rfl ((eqi hp92)) <| g_seq rfl <| g_region rfl rfl <| wl_v 0 rfl (v_move rfl) gn rfl <| wl_v 1 rfl (v_move rfl) gn rfl <| wl_v 2 rfl (v_bin rfl rfl rfl) gn rfl <| wl_v 3 rfl (v_assign rfl) gn rfl <| wl_v 4 rfl (v_assign rfl) gn rfl <| wl_v 5 rfl (v_assign rfl) gn rfl <| w_end 6 rfl ?_
     have h := Out.inr hO1 h
     refine g_retR [.slice A44 n45 c46, .int .i64 0, .int .i64 (w64 (x48 + 1))] rfl Try.func29 rfl (.tmp rfl (.tmp rfl (.tmp rfl (.nil)))) fun wr hLr => ?_
     have hMr := hLr.pkI (.c 0 rfl .n) .n (by kernel_rfl) (.c 1 rfl .n)
     show words_quoted_R w F  r (.returned (packV [.slice A44 n45 c46, .int .i64 0, .int .i64 (w64 (x48 + 1))])) wr
     rw [h]
     exact ⟨A44, n45, c46, rfl, hMr, h47⟩
    ·have h := if_neg' hp92 h
     refine g_false rfl _ rfl ((nei hp92)) <| g_seq rfl <| g_region rfl rfl <| wl_v 0 rfl (v_bin rfl rfl rfl) gn rfl <| wl_v 1 rfl (v_assign rfl) gn rfl <| w_end 2 rfl ?_
     by_cases hp93 : bt x1 x48 = 92
     ·have h := if_pos' hp93 h
      refine g_true rfl _ rfl ((eqi hp93)) <| g_seq rfl <| g_region rfl rfl <| wl_v 0 rfl (v_move rfl) gn rfl <| wl_v 1 rfl (v_move rfl) gn rfl ?_
      obtain ⟨r97, hv98, h⟩ := h
      refine wl_s 2 rfl (s_call [.string x1, .int .i64 x48] rfl Try.func43 rfl rfl rfl fun w94 hL95 => ?_) gn
      have hp96 := pmI hL95 .n (.c 0 rfl .n) (by kernel_rfl)
      refine Calls.mono (words_escape_calls w94 (Fl ([] : List Snap)) x1 x48 (hL95.hFl hp96 (sels [] rfl)) (hL95.into hp96 _) r97 hv98) ?_
      rintro _ w99 ⟨rfl, hM100⟩
      have hL101 := hL95.call hp96 hM100
      refine ⟨_, _, _, rfl, hL101, ?_⟩
      refine wl_v 3 rfl (v_move rfl) gn rfl <| wl_v 4 rfl (v_extract rfl rfl) gn rfl <| wl_v 5 rfl (v_extract rfl rfl) gn rfl <| wl_v 6 rfl (v_assign rfl) gn rfl <| wl_v 7 rfl (v_assign rfl) gn rfl <| w_end 8 rfl <| g_seq rfl <| g_seq rfl <| g_region rfl rfl <| wl_v 0 rfl (v_move rfl) gn rfl <| wl_v 1 rfl (v_bin rfl rfl rfl) gn rfl <| w_end 2 rfl ?_
      by_cases hp102 : r97.2 = 0
      ·have h := if_pos' hp102 h
       refine g_true rfl _ rfl ((eqi hp102)) <| g_seq rfl <| g_region rfl rfl <| wl_v 0 rfl (v_move rfl) gn rfl <| wl_v 1 rfl (v_assign rfl) gn rfl <| wl_v 2 rfl (v_assign rfl) gn rfl <| wl_v 3 rfl (v_assign rfl) gn rfl <| w_end 4 rfl <| g_nil 5 1 ?_
       have h := Out.inr hO1 h
       refine g_retR [.slice none 0 0, .int .i64 82, .int .i64 x48] rfl Try.func29 rfl (.tmp rfl (.tmp rfl (.tmp rfl (.nil)))) fun wr hLr => ?_
       have hMr := hLr.pkI (.c 0 rfl .n) (.c 1 rfl .n) (by kernel_rfl) (.c 1 rfl .n)
       show words_quoted_R w F  r (.returned (packV [.slice none 0 0, .int .i64 82, .int .i64 x48])) wr
       rw [h]
       exact ⟨none, 0, 0, rfl, hMr, (Ow.nil (z := w.heap.size))⟩
      ·have h := if_neg' hp102 h
       refine g_false rfl _ rfl ((nei hp102)) <| g_skip rfl <| g_seq rfl <| g_region rfl rfl <| wl_v 0 rfl (v_move rfl) gn rfl <| wl_v 1 rfl (v_move rfl) gn rfl ?_
       refine wl_s 2 rfl (s_litO (xs := ([r97.1] : List Int)) [.int .u8 r97.1] bs_58_1 rfl (by kernel_rfl) rfl rfl rfl rfl fun gb104 h105 => ?_) gn
       obtain ⟨x109, hv110, h⟩ := h
       obtain ⟨hb111, h⟩ := h
       refine wl_s 3 rfl (s_app (zs := x109) (cells' := x109.flatMap (eI .u8)) 1 ap_58 rfl rfl rfl h47 (Nat.le_refl _) (Src.ownF (hl := (hlI .u8)) (h1 := (hone_int .u8)) 0 rfl h105) (by rw [hv110, List.flatMap_append] <;> rfl) (app_len hv110 h105.hq) hb111 rfl rfl fun A106 c107 h108 => ?_) gn
       refine wl_v 4 rfl (v_assign rfl) gn rfl <| w_end 5 rfl <| g_region rfl rfl <| wl_v 0 rfl (v_move rfl) gn rfl <| wl_v 1 rfl (v_move rfl) gn rfl <| wl_v 2 rfl (v_bin rfl rfl rfl) gn rfl <| wl_v 3 rfl (v_assign rfl) gn rfl <| w_end 4 rfl <| g_inBlock <| g_goto [.code (.seq .skip q29c9), .inScope q29c3] rfl rfl <| g_seq rfl <| g_skip rfl ?_
       have ih := Out.inl hO1 h
       exact g_go [0, 1] (ih A106 (n45 + 1) c107 h108) ⟨rfl, rfl, rfl, rfl, trivial⟩ (.cons _ (.cons_cons _ (.slnil))) rfl
     ·have h := if_neg' hp93 h
      refine g_false rfl _ rfl ((nei hp93)) <| g_seq rfl <| g_region rfl rfl <| wl_v 0 rfl (v_move rfl) gn rfl <| wl_v 1 rfl (v_move rfl) gn rfl ?_
      refine wl_s 2 rfl (s_litO (xs := ([bt x1 x48] : List Int)) [.int .u8 (bt x1 x48)] bs_58_1 rfl (by kernel_rfl) rfl rfl rfl rfl fun gb113 h114 => ?_) gn
      obtain ⟨x118, hv119, h⟩ := h
      obtain ⟨hb120, h⟩ := h
      refine wl_s 3 rfl (s_app (zs := x118) (cells' := x118.flatMap (eI .u8)) 1 ap_58 rfl rfl rfl h47 (Nat.le_refl _) (Src.ownF (hl := (hlI .u8)) (h1 := (hone_int .u8)) 0 rfl h114) (by rw [hv119, List.flatMap_append] <;> rfl) (app_len hv119 h114.hq) hb120 rfl rfl fun A115 c116 h117 => ?_) gn
      refine wl_v 4 rfl (v_assign rfl) gn rfl <| w_end 5 rfl <| g_region rfl rfl <| wl_v 0 rfl (v_move rfl) gn rfl <| wl_v 1 rfl (v_bin rfl rfl rfl) gn rfl <| wl_v 2 rfl (v_assign rfl) gn rfl <| w_end 3 rfl <| g_inBlock <| g_goto [.code (.seq .skip q29c9), .inScope q29c3] rfl rfl <| g_seq rfl <| g_skip rfl ?_
      have ih := Out.inl hO1 h
      exact g_go [0, 1] (ih A115 (n45 + 1) c116 h117) ⟨rfl, rfl, rfl, rfl, trivial⟩ (.cons _ (.cons_cons _ (.slnil))) rfl
  refine g_region rfl rfl <| wl_v 0 rfl (v_move rfl) gn rfl <| wl_v 1 rfl (v_move rfl) gn rfl <| wl_v 2 rfl (v_lenS un_9 rfl) gn rfl <| wl_v 3 rfl (v_bin rfl rfl rfl) gn rfl <| wl_v 4 rfl (v_move rfl) gn rfl ?_
  by_cases hp121 : x48 = (x1.size : Int)
  ·have h := if_pos' hp121 h
   refine w_bool 18 rfl ((eqi hp121)) <| wl_pass 5 rfl (ps 18 rfl rfl rfl) <| wl_pass 6 rfl (ps 18 rfl rfl rfl) <| wl_pass 7 rfl (ps 18 rfl rfl rfl) <| wl_pass 8 rfl (ps 18 rfl rfl rfl) <| wl_v 9 rfl (v_pick (b := true) rfl rfl) gn rfl <| w_end 10 rfl ?_
   exact g_go [0, 1] (j2 true h) ⟨rfl, rfl, rfl, rfl, rfl, trivial⟩ (.cons_cons _ (.slnil)) rfl
  ·have h := if_neg' hp121 h
   refine w_bool 18 rfl ((nei hp121)) <| wl_v 5 rfl (v_move rfl) (gy 18 rfl rfl) rfl <| wl_v 6 rfl (v_move rfl) (gy 18 rfl rfl) rfl ?_
   obtain ⟨hb122, h⟩ := h
   refine wl_v 7 rfl (v_indexS un_9 rfl rfl hb122) (gy 18 rfl rfl) rfl <| wl_v 8 rfl (v_bin rfl rfl rfl) (gy 18 rfl rfl) rfl <| wl_v 9 rfl (v_pick (b := false) rfl rfl) gn rfl <| w_end 10 rfl ?_
   exact g_go [0, 1] (j2 ((bt x1 x48) == 10) h) ⟨rfl, rfl, rfl, rfl, rfl, trivial⟩ (.cons_cons _ (.slnil)) rfl
 refine g_nil 5 1 ?_
 exact g_go [0, 1] (key1 _ h none 0 0 (Ow.nil (z := w.heap.size))) ⟨rfl, rfl, rfl, rfl, trivial⟩ (.cons_cons _ (.slnil)) rfl
end Go.Proofs.Ytjookebbmfiidaa.K
