/- What the machine's calls do, function by function, printed by my own tool. Condition of each: its relation holds of the answer, and what is handed in lies in memory as told. -/
import Derived.Test.YtjookebbmfiidaaK1
set_option linter.unusedVariables false
set_option maxRecDepth 100000
set_option maxHeartbeats 4000000
namespace Go.Proofs.Ytjookebbmfiidaa.K
open Go.Proofs.Ytjookebbmfiidaa.B Go.Proofs.Ytjookebbmfiidaa.R Go.RowKit
abbrev trellisref20_Reader_stop_R (w : World) (F : Nat → Prop) (g2 : Nat) (Tb3 : Nat) (A8 : Option Addr) (n9 : Nat) (c10 : Nat) (z12 : Nat) (A14 : Option Addr) (n15 : Nat) (c16 : Nat) (z18 : Nat) (r : trellisref20_Reader) : Ending → World → Prop := fun e w' => ∃ A1 : Option Addr, ∃ n1 : Nat, ∃ c1 : Nat, ∃ A2 : Option Addr, ∃ n2 : Nat, ∃ c2 : Nat, ∃ A0 : Option Addr, ∃ n0 : Nat, ∃ c0 : Nat, e = .returned (.tuple #[]) ∧ B.Loc w w' [.box g2 Tb3 [.slice A0 n0 c0, .int .i64 r.at_, .slice A1 n1 c1, .slice A2 n2 c2, .int .i64 r.e, .int .i64 r.pos], .own (.slice A1 n1 c1) 46 5 n1 (r.q.nodes.flatMap enc_api_PatNode), .own (.slice A2 n2 c2) 48 4 n2 (r.q.conds.flatMap enc_api_Cond)] [St w [[g2], (Value.slice A8 n9 c10).ownBlock.toList, (Value.slice A14 n15 c16).ownBlock.toList]] ∧ Ow z12 A1 n1 c1 r.q.nodes ∧ Ow z18 A2 n2 c2 r.q.conds ∧ Rw k_api_Word w' (Nw w w' F [.box g2 Tb3 [.slice A0 n0 c0, .int .i64 r.at_, .slice A1 n1 c1, .slice A2 n2 c2, .int .i64 r.e, .int .i64 r.pos], .own (.slice A1 n1 c1) 46 5 n1 (r.q.nodes.flatMap enc_api_PatNode), .own (.slice A2 n2 c2) 48 4 n2 (r.q.conds.flatMap enc_api_Cond)]) A0 n0 c0 r.l
noncomputable abbrev trellisref20_Reader_stop_C (w : World) (F : Nat → Prop) (g2 : Nat) (Tb3 : Nat) (A8 : Option Addr) (n9 : Nat) (c10 : Nat) (z12 : Nat) (A14 : Option Addr) (n15 : Nat) (c16 : Nat) (z18 : Nat) (r : trellisref20_Reader) : Cx := ⟨Try.prog, 20, Try.f20, 19, trellisref20_Reader_stop_R w F g2 Tb3 A8 n9 c10 z12 A14 n15 c16 z18 r, w⟩
theorem trellisref20_Reader_stop_calls (w : World) (F : Nat → Prop) (x1 : trellisref20_Reader) (x20 : Int) (x21 : Int) (g2 : Nat) (Tb3 : Nat) (A4 : Option Addr) (n5 : Nat) (c6 : Nat) (z12 : Nat) (A8 : Option Addr) (n9 : Nat) (c10 : Nat) (z18 : Nat) (A14 : Option Addr) (n15 : Nat) (c16 : Nat) (h7 : Rw k_api_Word w F A4 n5 c6 x1.l) (hz13 : z12 ≤ w.heap.size) (h11 : Ow z12 A8 n9 c10 x1.q.nodes) (hz19 : z18 ≤ w.heap.size) (h17 : Ow z18 A14 n15 c16 x1.q.conds) (hF : ∀ b, F b → b < w.heap.size ∧ ∀ o ∈ ([[g2], (Value.slice A8 n9 c10).ownBlock.toList, (Value.slice A14 n15 c16).ownBlock.toList] : List (List Nat)), b ∉ o) (hL0 : B.Loc w w [.box g2 Tb3 [.slice A4 n5 c6, .int .i64 x1.at_, .slice A8 n9 c10, .slice A14 n15 c16, .int .i64 x1.e, .int .i64 x1.pos], .own (.slice A8 n9 c10) 46 5 n9 (x1.q.nodes.flatMap enc_api_PatNode), .own (.slice A14 n15 c16) 48 4 n15 (x1.q.conds.flatMap enc_api_Cond)] [Sm w.heap.size F w [[g2], (Value.slice A8 n9 c10).ownBlock.toList, (Value.slice A14 n15 c16).ownBlock.toList], St w [[g2], (Value.slice A8 n9 c10).ownBlock.toList, (Value.slice A14 n15 c16).ownBlock.toList]]) (r : trellisref20_Reader) (h : trellisref20_Reader_stop x1 x20 x21 r) : Calls Try.prog 20 #[.pointer (some ⟨g2, 0, none⟩), .int .i64 x20, .int .i64 x21] w (trellisref20_Reader_stop_R w F g2 Tb3 A8 n9 c10 z12 A14 n15 c16 z18 r) := by
 unfold trellisref20_Reader_stop at h
 have h7 := Rw.into (bs := [[g2], (Value.slice A8 n9 c10).ownBlock.toList, (Value.slice A14 n15 c16).ownBlock.toList]) hF h7
 refine calls_of_Loc (vs := [.pointer (some ⟨g2, 0, none⟩), .int .i64 x20, .int .i64 x21]) 19 Try.func20 rfl Try.ntmps20 rfl hL0 ?_
 show G (trellisref20_Reader_stop_C w F g2 Tb3 A8 n9 c10 z12 A14 n15 c16 z18 r) _ _ _ _
 refine g_seq rfl <| g_region rfl rfl <| wl_v 0 rfl (v_move rfl) gn rfl <| wl_v 1 rfl (v_nilCheck rfl) gn rfl <| wl_v 2 rfl (v_fldB fo_38_3 rfl) gn rfl <| wl_v 3 rfl (v_ldB1 0 ld_26 rfl rfl rfl) gn rfl <| wl_v 4 rfl (v_bin rfl rfl rfl) gn rfl <| w_end 5 rfl ?_
 by_cases hp22 : x1.e = 0
 ·have h := if_pos' hp22 h
  refine g_true rfl _ rfl ((eqi hp22)) <| g_seq rfl <| g_region rfl rfl <| wl_v 0 rfl (v_move rfl) gn rfl <| wl_v 1 rfl (v_move rfl) gn rfl <| wl_v 2 rfl (v_nilCheck rfl) gn rfl <| wl_v 3 rfl (v_fldB fo_38_3 rfl) gn rfl ?_
  refine wl_s 4 rfl (s_stB (vs := [.int .i64 x20]) (cs' := [.slice A4 n5 c6, .int .i64 x1.at_, .slice A8 n9 c10, .slice A14 n15 c16, .int .i64 x20, .int .i64 x1.pos]) (M' := [.box g2 Tb3 [.slice A4 n5 c6, .int .i64 x1.at_, .slice A8 n9 c10, .slice A14 n15 c16, .int .i64 x20, .int .i64 x1.pos], .own (.slice A8 n9 c10) 46 5 n9 (x1.q.nodes.flatMap enc_api_PatNode), .own (.slice A14 n15 c16) 48 4 n15 (x1.q.conds.flatMap enc_api_Cond)]) 0 sz_26 rfl rfl rfl rfl rfl rfl rfl rfl rfl ?_) gn
  refine w_end 5 rfl <| g_region rfl rfl <| wl_v 0 rfl (v_move rfl) gn rfl <| wl_v 1 rfl (v_move rfl) gn rfl <| wl_v 2 rfl (v_nilCheck rfl) gn rfl <| wl_v 3 rfl (v_fldB fo_38_4 rfl) gn rfl ?_
  refine wl_s 4 rfl (s_stB (vs := [.int .i64 x21]) (cs' := [.slice A4 n5 c6, .int .i64 x1.at_, .slice A8 n9 c10, .slice A14 n15 c16, .int .i64 x20, .int .i64 x21]) (M' := [.box g2 Tb3 [.slice A4 n5 c6, .int .i64 x1.at_, .slice A8 n9 c10, .slice A14 n15 c16, .int .i64 x20, .int .i64 x21], .own (.slice A8 n9 c10) 46 5 n9 (x1.q.nodes.flatMap enc_api_PatNode), .own (.slice A14 n15 c16) 48 4 n15 (x1.q.conds.flatMap enc_api_Cond)]) 0 sz_3 rfl rfl rfl rfl rfl rfl rfl rfl rfl ?_) gn
  refine w_end 5 rfl ?_
  refine g_endR [] Try.func20 rfl (.nil) fun wr hLr => ?_
  have hMr := hLr.pkI (.c 0 rfl (.c 1 rfl (.c 2 rfl .n))) .n (by kernel_rfl) (.c 1 rfl .n)
  have hMi := hLr.selI (.c 0 rfl (.c 1 rfl (.c 2 rfl .n)))
  show trellisref20_Reader_stop_R w F g2 Tb3 A8 n9 c10 z12 A14 n15 c16 z18 r (.returned (packV [])) wr
  rw [h]
  exact ⟨A8, n9, c10, A14, n15, c16, A4, n5, c6, rfl, hMr, h11, h17, (hLr.outR (s := Sm w.heap.size F w [[g2], (Value.slice A8 n9 c10).ownBlock.toList, (Value.slice A14 n15 c16).ownBlock.toList]) hMi (me 0 rfl) Sm.ok h7)⟩
 ·have h := if_neg' hp22 h
  refine g_false rfl _ rfl ((nei hp22)) <| g_skip rfl ?_
  refine g_endR [] Try.func20 rfl (.nil) fun wr hLr => ?_
  have hMr := hLr.pkI (.c 0 rfl (.c 1 rfl (.c 2 rfl .n))) .n (by kernel_rfl) (.c 1 rfl .n)
  have hMi := hLr.selI (.c 0 rfl (.c 1 rfl (.c 2 rfl .n)))
  show trellisref20_Reader_stop_R w F g2 Tb3 A8 n9 c10 z12 A14 n15 c16 z18 r (.returned (packV [])) wr
  rw [h]
  exact ⟨A8, n9, c10, A14, n15, c16, A4, n5, c6, rfl, hMr, h11, h17, (hLr.outR (s := Sm w.heap.size F w [[g2], (Value.slice A8 n9 c10).ownBlock.toList, (Value.slice A14 n15 c16).ownBlock.toList]) hMi (me 0 rfl) Sm.ok h7)⟩
abbrev trellisref20_Reader_take_R (w : World) (F : Nat → Prop) (g2 : Nat) (Tb3 : Nat) (A8 : Option Addr) (n9 : Nat) (c10 : Nat) (z12 : Nat) (A14 : Option Addr) (n15 : Nat) (c16 : Nat) (z18 : Nat) (r : trellisref20_Reader) : Ending → World → Prop := fun e w' => ∃ A1 : Option Addr, ∃ n1 : Nat, ∃ c1 : Nat, ∃ A2 : Option Addr, ∃ n2 : Nat, ∃ c2 : Nat, ∃ A0 : Option Addr, ∃ n0 : Nat, ∃ c0 : Nat, e = .returned (.tuple #[]) ∧ B.Loc w w' [.box g2 Tb3 [.slice A0 n0 c0, .int .i64 r.at_, .slice A1 n1 c1, .slice A2 n2 c2, .int .i64 r.e, .int .i64 r.pos], .own (.slice A1 n1 c1) 46 5 n1 (r.q.nodes.flatMap enc_api_PatNode), .own (.slice A2 n2 c2) 48 4 n2 (r.q.conds.flatMap enc_api_Cond)] [St w [[g2], (Value.slice A8 n9 c10).ownBlock.toList, (Value.slice A14 n15 c16).ownBlock.toList]] ∧ Ow z12 A1 n1 c1 r.q.nodes ∧ Ow z18 A2 n2 c2 r.q.conds ∧ Rw k_api_Word w' (Nw w w' F [.box g2 Tb3 [.slice A0 n0 c0, .int .i64 r.at_, .slice A1 n1 c1, .slice A2 n2 c2, .int .i64 r.e, .int .i64 r.pos], .own (.slice A1 n1 c1) 46 5 n1 (r.q.nodes.flatMap enc_api_PatNode), .own (.slice A2 n2 c2) 48 4 n2 (r.q.conds.flatMap enc_api_Cond)]) A0 n0 c0 r.l
noncomputable abbrev trellisref20_Reader_take_C (w : World) (F : Nat → Prop) (g2 : Nat) (Tb3 : Nat) (A8 : Option Addr) (n9 : Nat) (c10 : Nat) (z12 : Nat) (A14 : Option Addr) (n15 : Nat) (c16 : Nat) (z18 : Nat) (r : trellisref20_Reader) : Cx := ⟨Try.prog, 21, Try.f21, 28, trellisref20_Reader_take_R w F g2 Tb3 A8 n9 c10 z12 A14 n15 c16 z18 r, w⟩
theorem trellisref20_Reader_take_calls (w : World) (F : Nat → Prop) (x1 : trellisref20_Reader) (x20 : Int) (x21 : ByteArray) (g2 : Nat) (Tb3 : Nat) (A4 : Option Addr) (n5 : Nat) (c6 : Nat) (z12 : Nat) (A8 : Option Addr) (n9 : Nat) (c10 : Nat) (z18 : Nat) (A14 : Option Addr) (n15 : Nat) (c16 : Nat) (h7 : Rw k_api_Word w F A4 n5 c6 x1.l) (hz13 : z12 ≤ w.heap.size) (h11 : Ow z12 A8 n9 c10 x1.q.nodes) (hz19 : z18 ≤ w.heap.size) (h17 : Ow z18 A14 n15 c16 x1.q.conds) (hF : ∀ b, F b → b < w.heap.size ∧ ∀ o ∈ ([[g2], (Value.slice A8 n9 c10).ownBlock.toList, (Value.slice A14 n15 c16).ownBlock.toList] : List (List Nat)), b ∉ o) (hL0 : B.Loc w w [.box g2 Tb3 [.slice A4 n5 c6, .int .i64 x1.at_, .slice A8 n9 c10, .slice A14 n15 c16, .int .i64 x1.e, .int .i64 x1.pos], .own (.slice A8 n9 c10) 46 5 n9 (x1.q.nodes.flatMap enc_api_PatNode), .own (.slice A14 n15 c16) 48 4 n15 (x1.q.conds.flatMap enc_api_Cond)] [Sm w.heap.size F w [[g2], (Value.slice A8 n9 c10).ownBlock.toList, (Value.slice A14 n15 c16).ownBlock.toList], St w [[g2], (Value.slice A8 n9 c10).ownBlock.toList, (Value.slice A14 n15 c16).ownBlock.toList]]) (r : trellisref20_Reader) (h : trellisref20_Reader_take x1 x20 x21 r) : Calls Try.prog 21 #[.pointer (some ⟨g2, 0, none⟩), .int .i64 x20, .string x21] w (trellisref20_Reader_take_R w F g2 Tb3 A8 n9 c10 z12 A14 n15 c16 z18 r) := by
 unfold trellisref20_Reader_take at h
 have h7 := Rw.into (bs := [[g2], (Value.slice A8 n9 c10).ownBlock.toList, (Value.slice A14 n15 c16).ownBlock.toList]) hF h7
 refine calls_of_Loc (vs := [.pointer (some ⟨g2, 0, none⟩), .int .i64 x20, .string x21]) 28 Try.func21 rfl Try.ntmps21 rfl hL0 ?_
 show G (trellisref20_Reader_take_C w F g2 Tb3 A8 n9 c10 z12 A14 n15 c16 z18 r) _ _ _ _
 refine g_seq rfl <| g_seq rfl <| g_region rfl rfl <| wl_v 0 rfl (v_move rfl) gn rfl <| wl_v 1 rfl (v_move rfl) gn rfl <| wl_v 2 rfl (v_nilCheck rfl) gn rfl <| wl_v 3 rfl (v_fldB fo_38_1 rfl) gn rfl <| wl_v 4 rfl (v_ldB1 0 ld_3 rfl rfl rfl) gn rfl <| wl_v 5 rfl (v_move rfl) gn rfl <| wl_v 6 rfl (v_move rfl) gn rfl ?_
 obtain ⟨r25, hv26, h⟩ := h
 refine wl_s 7 rfl (s_call [.pointer (some ⟨g2, 0, none⟩), .int .i64 x1.at_, .int .i64 x20, .string x21] rfl Try.func18 rfl rfl rfl fun w22 hL23 => ?_) gn
 have hp24 := pmI hL23 (.c 0 rfl (.c 1 rfl (.c 2 rfl .n))) .n (by kernel_rfl)
 refine Calls.mono (trellisref20_Reader_sees_calls w22 (Fl ([Sm w.heap.size F w [[g2], (Value.slice A8 n9 c10).ownBlock.toList, (Value.slice A14 n15 c16).ownBlock.toList]] : List Snap)) x1 x1.at_ x20 x21 g2 Tb3 A4 n5 c6 z12 A8 n9 c10 z18 A14 n15 c16 (Rw.mono h7 (hL23.toFl (me 0 rfl) (me 0 rfl))) (Nat.le_trans hz13 hL23.env.size) h11 (Nat.le_trans hz19 hL23.env.size) h17 (hL23.hFl hp24 (sels [0] rfl)) (hL23.into hp24 _) r25 hv26) ?_
 rintro _ w41 ⟨A31, n32, c33, A36, n37, c38, A27, n28, c29, rfl, hM42, h34, h39, h30⟩
 obtain ⟨sb45, hL43, hv44⟩ := hL23.callB (Sl := ([Sm w.heap.size F w [[g2], (Value.slice A8 n9 c10).ownBlock.toList, (Value.slice A14 n15 c16).ownBlock.toList]] : List Snap)) hp24 hM42 F (sels [0] rfl) ⟨Sm.ok, trivial⟩
 have h30 : At k_api_Word (Sm w.heap.size F w41 sb45) A27 n28 c29 r25.2.l := Rw.mono h30 hv44
 refine ⟨_, _, _, rfl, hL43, ?_⟩
 refine wl_v 8 rfl (v_not rfl) gn rfl <| w_end 9 rfl ?_
 by_cases hp46 : r25.1 = true
 ·have h := if_pos' hp46 h
  refine g_false rfl _ rfl ((nf hp46)) <| g_skip rfl <| g_region rfl rfl <| wl_v 0 rfl (v_move rfl) gn rfl <| wl_v 1 rfl (v_nilCheck rfl) gn rfl <| wl_v 2 rfl (v_fldB fo_38_1 rfl) gn rfl <| wl_v 3 rfl (v_ldB1 0 ld_3 rfl rfl rfl) gn rfl <| wl_v 4 rfl (v_bin rfl rfl rfl) gn rfl <| wl_v 5 rfl (v_nilCheck rfl) gn rfl <| wl_v 6 rfl (v_fldB fo_38_1 rfl) gn rfl ?_
  refine wl_s 7 rfl (s_stB (vs := [.int .i64 (w64 (r25.2.at_ + 1))]) (cs' := [.slice A27 n28 c29, .int .i64 (w64 (r25.2.at_ + 1)), .slice A31 n32 c33, .slice A36 n37 c38, .int .i64 r25.2.e, .int .i64 r25.2.pos]) (M' := [.box g2 Tb3 [.slice A27 n28 c29, .int .i64 (w64 (r25.2.at_ + 1)), .slice A31 n32 c33, .slice A36 n37 c38, .int .i64 r25.2.e, .int .i64 r25.2.pos], .own (.slice A31 n32 c33) 46 5 n32 (r25.2.q.nodes.flatMap enc_api_PatNode), .own (.slice A36 n37 c38) 48 4 n37 (r25.2.q.conds.flatMap enc_api_Cond)]) 0 sz_3 rfl rfl rfl rfl rfl rfl rfl rfl rfl ?_) gn
  refine w_end 8 rfl ?_
  refine g_endR [] Try.func21 rfl (.nil) fun wr hLr => ?_
  have hMr := hLr.pkI (.c 0 rfl (.c 1 rfl (.c 2 rfl .n))) .n (by kernel_rfl) (.c 2 rfl .n)
  have hMi := hLr.selI (.c 0 rfl (.c 1 rfl (.c 2 rfl .n)))
  show trellisref20_Reader_take_R w F g2 Tb3 A8 n9 c10 z12 A14 n15 c16 z18 r (.returned (packV [])) wr
  rw [h]
  exact ⟨A31, n32, c33, A36, n37, c38, A27, n28, c29, rfl, hMr, h34, h39, (hLr.outR (s := Sm w.heap.size F w41 sb45) hMi (me 0 rfl) Sm.ok h30)⟩
 ·have h := if_neg' hp46 h
  refine g_true rfl _ rfl ((nt (bf hp46))) <| g_region rfl rfl <| wl_v 0 rfl (v_move rfl) gn rfl <| wl_v 1 rfl (v_move rfl) gn rfl <| wl_v 2 rfl (v_nilCheck rfl) gn rfl <| wl_v 3 rfl (v_fldB fo_38_1 rfl) gn rfl <| wl_v 4 rfl (v_ldB1 0 ld_3 rfl rfl rfl) gn rfl ?_
  obtain ⟨r50, hv51, h⟩ := h
  refine wl_s 5 rfl (s_call [.pointer (some ⟨g2, 0, none⟩), .int .i64 200, .int .i64 r25.2.at_] rfl Try.func20 rfl rfl rfl fun w47 hL48 => ?_) gn
  have hp49 := pmI hL48 (.c 0 rfl (.c 1 rfl (.c 2 rfl .n))) .n (by kernel_rfl)
  refine Calls.mono (trellisref20_Reader_stop_calls w47 (Fl ([Sm w.heap.size F w41 sb45] : List Snap)) r25.2 200 r25.2.at_ g2 Tb3 A27 n28 c29 z12 A31 n32 c33 z18 A36 n37 c38 (Rw.mono h30 (hL48.toFl (me 0 rfl) (me 0 rfl))) (Nat.le_trans hz13 hL48.env.size) h34 (Nat.le_trans hz19 hL48.env.size) h39 (hL48.hFl hp49 (sels [0] rfl)) (hL48.into hp49 _) r50 hv51) ?_
  rintro _ w66 ⟨A56, n57, c58, A61, n62, c63, A52, n53, c54, rfl, hM67, h59, h64, h55⟩
  obtain ⟨sb70, hL68, hv69⟩ := hL48.callB (Sl := ([Sm w.heap.size F w41 sb45] : List Snap)) hp49 hM67 F (sels [0] rfl) ⟨Sm.ok, trivial⟩
  have h55 : At k_api_Word (Sm w.heap.size F w66 sb70) A52 n53 c54 r50.l := Rw.mono h55 hv69
  refine ⟨_, _, _, rfl, hL68, ?_⟩
  refine w_end 6 rfl <| g_region rfl rfl <| wl_v 0 rfl (v_move rfl) gn rfl <| wl_v 1 rfl (v_nilCheck rfl) gn rfl <| wl_v 2 rfl (v_fldB fo_38_1 rfl) gn rfl <| wl_v 3 rfl (v_ldB1 0 ld_3 rfl rfl rfl) gn rfl <| wl_v 4 rfl (v_bin rfl rfl rfl) gn rfl <| wl_v 5 rfl (v_nilCheck rfl) gn rfl <| wl_v 6 rfl (v_fldB fo_38_1 rfl) gn rfl ?_
  refine wl_s 7 rfl (s_stB (vs := [.int .i64 (w64 (r50.at_ + 1))]) (cs' := [.slice A52 n53 c54, .int .i64 (w64 (r50.at_ + 1)), .slice A56 n57 c58, .slice A61 n62 c63, .int .i64 r50.e, .int .i64 r50.pos]) (M' := [.box g2 Tb3 [.slice A52 n53 c54, .int .i64 (w64 (r50.at_ + 1)), .slice A56 n57 c58, .slice A61 n62 c63, .int .i64 r50.e, .int .i64 r50.pos], .own (.slice A56 n57 c58) 46 5 n57 (r50.q.nodes.flatMap enc_api_PatNode), .own (.slice A61 n62 c63) 48 4 n62 (r50.q.conds.flatMap enc_api_Cond)]) 0 sz_3 rfl rfl rfl rfl rfl rfl rfl rfl rfl ?_) gn
  refine w_end 8 rfl ?_
  refine g_endR [] Try.func21 rfl (.nil) fun wr hLr => ?_
  have hMr := hLr.pkI (.c 0 rfl (.c 1 rfl (.c 2 rfl .n))) .n (by kernel_rfl) (.c 3 rfl .n)
  have hMi := hLr.selI (.c 0 rfl (.c 1 rfl (.c 2 rfl .n)))
  show trellisref20_Reader_take_R w F g2 Tb3 A8 n9 c10 z12 A14 n15 c16 z18 r (.returned (packV [])) wr
  rw [h]
  exact ⟨A56, n57, c58, A61, n62, c63, A52, n53, c54, rfl, hMr, h59, h64, (hLr.outR (s := Sm w.heap.size F w66 sb70) hMi (me 0 rfl) Sm.ok h55)⟩
noncomputable abbrev q22c11 := Code.fst (Code.snd (Code.snd (Code.snd (bodyOf Try.f22))))
abbrev trellisref20_Reader_takeName_R (w : World) (F : Nat → Prop) (g2 : Nat) (Tb3 : Nat) (A8 : Option Addr) (n9 : Nat) (c10 : Nat) (z12 : Nat) (A14 : Option Addr) (n15 : Nat) (c16 : Nat) (z18 : Nat) (r : ByteArray × trellisref20_Reader) : Ending → World → Prop := fun e w' => ∃ A1 : Option Addr, ∃ n1 : Nat, ∃ c1 : Nat, ∃ A2 : Option Addr, ∃ n2 : Nat, ∃ c2 : Nat, ∃ A0 : Option Addr, ∃ n0 : Nat, ∃ c0 : Nat, e = .returned (.string r.1) ∧ B.Loc w w' [.box g2 Tb3 [.slice A0 n0 c0, .int .i64 r.2.at_, .slice A1 n1 c1, .slice A2 n2 c2, .int .i64 r.2.e, .int .i64 r.2.pos], .own (.slice A1 n1 c1) 46 5 n1 (r.2.q.nodes.flatMap enc_api_PatNode), .own (.slice A2 n2 c2) 48 4 n2 (r.2.q.conds.flatMap enc_api_Cond)] [St w [[g2], (Value.slice A8 n9 c10).ownBlock.toList, (Value.slice A14 n15 c16).ownBlock.toList]] ∧ Ow z12 A1 n1 c1 r.2.q.nodes ∧ Ow z18 A2 n2 c2 r.2.q.conds ∧ Rw k_api_Word w' (Nw w w' F [.box g2 Tb3 [.slice A0 n0 c0, .int .i64 r.2.at_, .slice A1 n1 c1, .slice A2 n2 c2, .int .i64 r.2.e, .int .i64 r.2.pos], .own (.slice A1 n1 c1) 46 5 n1 (r.2.q.nodes.flatMap enc_api_PatNode), .own (.slice A2 n2 c2) 48 4 n2 (r.2.q.conds.flatMap enc_api_Cond)]) A0 n0 c0 r.2.l
noncomputable abbrev trellisref20_Reader_takeName_C (w : World) (F : Nat → Prop) (g2 : Nat) (Tb3 : Nat) (A8 : Option Addr) (n9 : Nat) (c10 : Nat) (z12 : Nat) (A14 : Option Addr) (n15 : Nat) (c16 : Nat) (z18 : Nat) (r : ByteArray × trellisref20_Reader) : Cx := ⟨Try.prog, 22, Try.f22, 35, trellisref20_Reader_takeName_R w F g2 Tb3 A8 n9 c10 z12 A14 n15 c16 z18 r, w⟩
theorem trellisref20_Reader_takeName_calls (w : World) (F : Nat → Prop) (x1 : trellisref20_Reader) (g2 : Nat) (Tb3 : Nat) (A4 : Option Addr) (n5 : Nat) (c6 : Nat) (z12 : Nat) (A8 : Option Addr) (n9 : Nat) (c10 : Nat) (z18 : Nat) (A14 : Option Addr) (n15 : Nat) (c16 : Nat) (h7 : Rw k_api_Word w F A4 n5 c6 x1.l) (hz13 : z12 ≤ w.heap.size) (h11 : Ow z12 A8 n9 c10 x1.q.nodes) (hz19 : z18 ≤ w.heap.size) (h17 : Ow z18 A14 n15 c16 x1.q.conds) (hF : ∀ b, F b → b < w.heap.size ∧ ∀ o ∈ ([[g2], (Value.slice A8 n9 c10).ownBlock.toList, (Value.slice A14 n15 c16).ownBlock.toList] : List (List Nat)), b ∉ o) (hL0 : B.Loc w w [.box g2 Tb3 [.slice A4 n5 c6, .int .i64 x1.at_, .slice A8 n9 c10, .slice A14 n15 c16, .int .i64 x1.e, .int .i64 x1.pos], .own (.slice A8 n9 c10) 46 5 n9 (x1.q.nodes.flatMap enc_api_PatNode), .own (.slice A14 n15 c16) 48 4 n15 (x1.q.conds.flatMap enc_api_Cond)] [Sm w.heap.size F w [[g2], (Value.slice A8 n9 c10).ownBlock.toList, (Value.slice A14 n15 c16).ownBlock.toList], St w [[g2], (Value.slice A8 n9 c10).ownBlock.toList, (Value.slice A14 n15 c16).ownBlock.toList]]) (r : ByteArray × trellisref20_Reader) (h : trellisref20_Reader_takeName x1 r) : Calls Try.prog 22 #[.pointer (some ⟨g2, 0, none⟩)] w (trellisref20_Reader_takeName_R w F g2 Tb3 A8 n9 c10 z12 A14 n15 c16 z18 r) := by
 unfold trellisref20_Reader_takeName at h
 have h7 := Rw.into (bs := [[g2], (Value.slice A8 n9 c10).ownBlock.toList, (Value.slice A14 n15 c16).ownBlock.toList]) hF h7
 refine calls_of_Loc (vs := [.pointer (some ⟨g2, 0, none⟩)]) 35 Try.func22 rfl Try.ntmps22 rfl hL0 ?_
 show G (trellisref20_Reader_takeName_C w F g2 Tb3 A8 n9 c10 z12 A14 n15 c16 z18 r) _ _ _ _
 refine g_seq rfl <| g_region rfl rfl <| wl_v 0 rfl (v_assign rfl) gn rfl <| w_end 1 rfl <| g_seq rfl <| g_seq rfl <| g_region rfl rfl <| wl_v 0 rfl (v_move rfl) gn rfl <| wl_v 1 rfl (v_move rfl) gn rfl <| wl_v 2 rfl (v_nilCheck rfl) gn rfl <| wl_v 3 rfl (v_fldB fo_38_1 rfl) gn rfl <| wl_v 4 rfl (v_ldB1 0 ld_3 rfl rfl rfl) gn rfl ?_
 obtain ⟨r23, hv24, h⟩ := h
 refine wl_s 5 rfl (s_call [.pointer (some ⟨g2, 0, none⟩), .int .i64 x1.at_] rfl Try.func17 rfl rfl rfl fun w20 hL21 => ?_) gn
 have hp22 := pmI hL21 (.c 0 rfl (.c 1 rfl (.c 2 rfl .n))) .n (by kernel_rfl)
 refine Calls.mono (trellisref20_Reader_named_calls w20 (Fl ([Sm w.heap.size F w [[g2], (Value.slice A8 n9 c10).ownBlock.toList, (Value.slice A14 n15 c16).ownBlock.toList]] : List Snap)) x1 x1.at_ g2 Tb3 A4 n5 c6 z12 A8 n9 c10 z18 A14 n15 c16 (Rw.mono h7 (hL21.toFl (me 0 rfl) (me 0 rfl))) (Nat.le_trans hz13 hL21.env.size) h11 (Nat.le_trans hz19 hL21.env.size) h17 (hL21.hFl hp22 (sels [0] rfl)) (hL21.into hp22 _) r23 hv24) ?_
 rintro _ w39 ⟨A29, n30, c31, A34, n35, c36, A25, n26, c27, rfl, hM40, h32, h37, h28⟩
 obtain ⟨sb43, hL41, hv42⟩ := hL21.callB (Sl := ([Sm w.heap.size F w [[g2], (Value.slice A8 n9 c10).ownBlock.toList, (Value.slice A14 n15 c16).ownBlock.toList]] : List Snap)) hp22 hM40 F (sels [0] rfl) ⟨Sm.ok, trivial⟩
 have h28 : At k_api_Word (Sm w.heap.size F w39 sb43) A25 n26 c27 r23.2.l := Rw.mono h28 hv42
 refine ⟨_, _, _, rfl, hL41, ?_⟩
 refine wl_v 6 rfl (v_not rfl) gn rfl <| w_end 7 rfl ?_
 by_cases hp44 : r23.1 = true
 ·have h := if_pos' hp44 h
  refine g_false rfl _ rfl ((nf hp44)) <| g_skip rfl <| g_seq rfl <| g_region rfl rfl <| wl_v 0 rfl (v_move rfl) gn rfl <| wl_v 1 rfl (v_nilCheck rfl) gn rfl <| wl_v 2 rfl (v_fldB fo_38_1 rfl) gn rfl <| wl_v 3 rfl (v_ldB1 0 ld_3 rfl rfl rfl) gn rfl <| wl_v 4 rfl (v_bin rfl rfl rfl) gn rfl <| wl_v 5 rfl (v_nilCheck rfl) gn rfl <| wl_v 6 rfl (v_fldB fo_38_1 rfl) gn rfl ?_
  refine wl_s 7 rfl (s_stB (vs := [.int .i64 (w64 (r23.2.at_ + 1))]) (cs' := [.slice A25 n26 c27, .int .i64 (w64 (r23.2.at_ + 1)), .slice A29 n30 c31, .slice A34 n35 c36, .int .i64 r23.2.e, .int .i64 r23.2.pos]) (M' := [.box g2 Tb3 [.slice A25 n26 c27, .int .i64 (w64 (r23.2.at_ + 1)), .slice A29 n30 c31, .slice A34 n35 c36, .int .i64 r23.2.e, .int .i64 r23.2.pos], .own (.slice A29 n30 c31) 46 5 n30 (r23.2.q.nodes.flatMap enc_api_PatNode), .own (.slice A34 n35 c36) 48 4 n35 (r23.2.q.conds.flatMap enc_api_Cond)]) 0 sz_3 rfl rfl rfl rfl rfl rfl rfl rfl rfl ?_) gn
  refine w_end 8 rfl <| g_seq rfl ?_
  obtain ⟨hb45, h⟩ := h
  have hns : Region.noSelect (Code.ops q22c11) = true := by kernel_rfl
  refine g_drawG [] 13 rfl rfl mix rfl (.c 0 rfl (.c 1 rfl (.c 2 rfl .n))) <| wfv 0 rfl (v_move rfl) gn hns rfl <| wfv 1 rfl (v_nilCheck rfl) gn hns rfl <| wfv 2 rfl (v_fldB fo_38_0 rfl) gn hns rfl <| wfv 3 rfl (v_ldB1 0 ld_33 rfl rfl rfl) gn hns rfl <| wfv 4 rfl (v_move rfl) gn hns rfl <| wfv 5 rfl (v_nilCheck rfl) gn hns rfl <| wfv 6 rfl (v_fldB fo_38_1 rfl) gn hns rfl <| wfv 7 rfl (v_ldB1 0 ld_3 rfl rfl rfl) gn hns rfl <| wfv 8 rfl (v_bin rfl rfl rfl) gn hns rfl ?_
  have hr48 := Rw.readF (s := Sm w.heap.size F w39 sb43) (hl := hl_api_Word) (h1 := h1_api_Word) h28 hb45
  refine wfv 9 rfl (v_idxR (s := Sm w.heap.size F w39 sb43) slE_33 rfl rfl h28 hb45) gn hns rfl <| wfv 10 rfl (v_fldA fo_41_1 rfl) gn hns rfl <| wfv 11 rfl (v_ldA1 (kk := (w64 ((w64 (r23.2.at_ + 1)) - 1) : Int).toNat * 4) (j := 1) (Sm w.heap.size F w39 sb43) ld_9 rfl hr48 rfl (me 0 rfl)) gn hns rfl <| wfv 12 rfl (v_assign rfl) gn hns rfl <| wf_end (by kernel_rfl) ?_
  refine g_retR [.string ((ix r23.2.l (w64 ((w64 (r23.2.at_ + 1)) - 1))).text)] rfl Try.func22 rfl (.tmp rfl (.nil)) fun wr hLr => ?_
  have hMr := hLr.pkI (.c 0 rfl (.c 1 rfl (.c 2 rfl .n))) .n (by kernel_rfl) (.c 2 rfl .n)
  have hMi := hLr.selI (.c 0 rfl (.c 1 rfl (.c 2 rfl .n)))
  show trellisref20_Reader_takeName_R w F g2 Tb3 A8 n9 c10 z12 A14 n15 c16 z18 r (.returned (packV [.string ((ix r23.2.l (w64 ((w64 (r23.2.at_ + 1)) - 1))).text)])) wr
  rw [h]
  exact ⟨A29, n30, c31, A34, n35, c36, A25, n26, c27, rfl, hMr, h32, h37, (hLr.outR (s := Sm w.heap.size F w39 sb43) hMi (me 0 rfl) Sm.ok h28)⟩
 ·have h := if_neg' hp44 h
  refine g_true rfl _ rfl ((nt (bf hp44))) <| g_seq rfl <| g_region rfl rfl <| wl_v 0 rfl (v_move rfl) gn rfl <| wl_v 1 rfl (v_move rfl) gn rfl <| wl_v 2 rfl (v_nilCheck rfl) gn rfl <| wl_v 3 rfl (v_fldB fo_38_1 rfl) gn rfl <| wl_v 4 rfl (v_ldB1 0 ld_3 rfl rfl rfl) gn rfl ?_
  obtain ⟨r52, hv53, h⟩ := h
  refine wl_s 5 rfl (s_call [.pointer (some ⟨g2, 0, none⟩), .int .i64 200, .int .i64 r23.2.at_] rfl Try.func20 rfl rfl rfl fun w49 hL50 => ?_) gn
  have hp51 := pmI hL50 (.c 0 rfl (.c 1 rfl (.c 2 rfl .n))) .n (by kernel_rfl)
  refine Calls.mono (trellisref20_Reader_stop_calls w49 (Fl ([Sm w.heap.size F w39 sb43] : List Snap)) r23.2 200 r23.2.at_ g2 Tb3 A25 n26 c27 z12 A29 n30 c31 z18 A34 n35 c36 (Rw.mono h28 (hL50.toFl (me 0 rfl) (me 0 rfl))) (Nat.le_trans hz13 hL50.env.size) h32 (Nat.le_trans hz19 hL50.env.size) h37 (hL50.hFl hp51 (sels [0] rfl)) (hL50.into hp51 _) r52 hv53) ?_
  rintro _ w68 ⟨A58, n59, c60, A63, n64, c65, A54, n55, c56, rfl, hM69, h61, h66, h57⟩
  obtain ⟨sb72, hL70, hv71⟩ := hL50.callB (Sl := ([Sm w.heap.size F w39 sb43] : List Snap)) hp51 hM69 F (sels [0] rfl) ⟨Sm.ok, trivial⟩
  have h57 : At k_api_Word (Sm w.heap.size F w68 sb72) A54 n55 c56 r52.l := Rw.mono h57 hv71
  refine ⟨_, _, _, rfl, hL70, ?_⟩
  refine w_end 6 rfl <| g_seq rfl <| g_region rfl rfl <| wl_v 0 rfl (v_assign rfl) gn rfl <| w_end 1 rfl ?_
  refine g_retR [.string (⟨#[]⟩ : ByteArray)] rfl Try.func22 rfl (.tmp rfl (.nil)) fun wr hLr => ?_
  have hMr := hLr.pkI (.c 0 rfl (.c 1 rfl (.c 2 rfl .n))) .n (by kernel_rfl) (.c 3 rfl .n)
  have hMi := hLr.selI (.c 0 rfl (.c 1 rfl (.c 2 rfl .n)))
  show trellisref20_Reader_takeName_R w F g2 Tb3 A8 n9 c10 z12 A14 n15 c16 z18 r (.returned (packV [.string (⟨#[]⟩ : ByteArray)])) wr
  rw [h]
  exact ⟨A58, n59, c60, A63, n64, c65, A54, n55, c56, rfl, hMr, h61, h66, (hLr.outR (s := Sm w.heap.size F w68 sb72) hMi (me 0 rfl) Sm.ok h57)⟩
noncomputable abbrev q23c4 := Code.snd (Code.snd (bodyOf Try.f23))
noncomputable abbrev q23c8 := Code.fst (Code.fst (Code.snd (Code.fst (Code.snd (bodyOf Try.f23)))))
abbrev trellisref20_Node_R (w : World) (F : Nat → Prop) (r : Int) : Ending → World → Prop := fun e w' => e = .returned (.int .i64 r) ∧ B.Loc w w' [] [St w []]
noncomputable abbrev trellisref20_Node_C (w : World) (F : Nat → Prop) (r : Int) : Cx := ⟨Try.prog, 23, Try.f23, 26, trellisref20_Node_R w F  r, w⟩
theorem trellisref20_Node_calls (w : World) (F : Nat → Prop) (x1 : api_Query) (x10 : ByteArray) (A2 : Option Addr) (n3 : Nat) (c4 : Nat) (A6 : Option Addr) (n7 : Nat) (c8 : Nat) (h5 : Rw k_api_PatNode w (St w []).av A2 n3 c4 x1.nodes) (h9 : Rw k_api_Cond w (St w []).av A6 n7 c8 x1.conds) (hF : ∀ b, F b → b < w.heap.size ∧ ∀ o ∈ ([] : List (List Nat)), b ∉ o) (hL0 : B.Loc w w [] [Sm w.heap.size F w [], St w []]) (r : Int) (h : trellisref20_Node x1 x10 r) : Calls Try.prog 23 #[.agg #[.slice A2 n3 c4, .slice A6 n7 c8], .string x10] w (trellisref20_Node_R w F  r) := by
 unfold trellisref20_Node at h
 refine calls_of_Loc (vs := [.agg #[.slice A2 n3 c4, .slice A6 n7 c8], .string x10]) 26 Try.func23 rfl Try.ntmps23 rfl hL0 ?_
 show G (trellisref20_Node_C w F r) _ _ _ _
 refine g_seq rfl <| g_region rfl rfl ?_
 refine wl_s 0 rfl (s_box [.slice A2 n3 c4, .slice A6 n7 c8] rfl rfl rfl fun gb11 => ?_) gn
 refine wl_v 1 rfl (v_assign rfl) gn rfl <| w_end 2 rfl <| g_seq rfl <| g_seq rfl <| g_region rfl rfl <| wl_v 0 rfl (v_assign rfl) gn rfl <| w_end 1 rfl <| g_block rfl <| g_loop rfl ?_
 have key1 : ∀ s, Rounds (fun (s : Int) o => trellisref20_Node_b1 x1 x10 s o) s r → (fun (s : Int) => ∀ (_ : Unit), G (trellisref20_Node_C w F r) [.code q23c8, .inLoop q23c8, .inBlock 0, .code q23c4] [(1, .string x10), (2, .pointer (some ⟨gb11, 0, none⟩)), (5, .int .i64 s)] [.box gb11 25 [.slice A2 n3 c4, .slice A6 n7 c8]] [Sm w.heap.size F w [], St w []]) s := by
  intro s hs
  refine Rounds.ind (mot := (fun (s : Int) => ∀ (_ : Unit), G (trellisref20_Node_C w F r) [.code q23c8, .inLoop q23c8, .inBlock 0, .code q23c4] [(1, .string x10), (2, .pointer (some ⟨gb11, 0, none⟩)), (5, .int .i64 s)] [.box gb11 25 [.slice A2 n3 c4, .slice A6 n7 c8]] [Sm w.heap.size F w [], St w []])) ?_ hs
  clear hs s
  intro x19 o1 h hO1
  show ∀ (_ : Unit), G (trellisref20_Node_C w F r) [.code q23c8, .inLoop q23c8, .inBlock 0, .code q23c4] [(1, .string x10), (2, .pointer (some ⟨gb11, 0, none⟩)), (5, .int .i64 x19)] [.box gb11 25 [.slice A2 n3 c4, .slice A6 n7 c8]] [Sm w.heap.size F w [], St w []]
  intro _
  have h : trellisref20_Node_b1 x1 x10 x19 o1 := h
  unfold trellisref20_Node_b1 at h
  refine g_seq rfl <| g_seq rfl <| g_region rfl rfl <| wl_v 0 rfl (v_move rfl) gn rfl <| wl_v 1 rfl (v_fldB fo_25_0 rfl) gn rfl <| wl_v 2 rfl (v_ldB1 0 ld_22 rfl rfl rfl) gn rfl <| wl_v 3 rfl (v_lenQ un_22 rfl h5.hq) gn rfl <| wl_v 4 rfl (v_bin rfl rfl rfl) gn rfl <| w_end 5 rfl ?_
  by_cases hp25 : x19 < (x1.nodes.length : Int)
  ·have h := if_pos' hp25 h
   refine g_true rfl _ rfl ((decide_eq_true hp25)) <| g_skip rfl <| g_seq rfl <| g_block rfl <| g_seq rfl <| g_region rfl rfl <| wl_v 0 rfl (v_move rfl) gn rfl <| wl_v 1 rfl (v_neS rfl rfl) gn rfl <| wl_v 2 rfl (v_move rfl) gn rfl ?_
   by_cases hp26 : x10 = (⟨#[]⟩ : ByteArray)
   ·have h := if_pos' hp26 h
    refine w_bool 15 rfl ((nf (seq_t hp26))) <| wl_pass 3 rfl (ps 15 rfl rfl rfl) <| wl_pass 4 rfl (ps 15 rfl rfl rfl) <| wl_pass 5 rfl (ps 15 rfl rfl rfl) <| wl_pass 6 rfl (ps 15 rfl rfl rfl) <| wl_pass 7 rfl (ps 15 rfl rfl rfl) <| wl_pass 8 rfl (ps 15 rfl rfl rfl) <| wl_pass 9 rfl (ps 15 rfl rfl rfl) <| wl_pass 10 rfl (ps 15 rfl rfl rfl) <| wl_v 11 rfl (v_pick (b := false) rfl rfl) gn rfl <| w_end 12 rfl <| g_false rfl _ rfl (rfl) ?_
    refine g_skip rfl <| g_inBlock <| g_region rfl rfl <| wl_v 0 rfl (v_move rfl) gn rfl <| wl_v 1 rfl (v_bin rfl rfl rfl) gn rfl <| wl_v 2 rfl (v_assign rfl) gn rfl <| w_end 3 rfl <| g_inLoop ?_
    have ih := Out.inl hO1 h
    exact g_go [0, 1] (ih ()) ⟨rfl, rfl, rfl, trivial⟩ (.cons_cons _ (.slnil)) rfl
   ·have h := if_neg' hp26 h
    refine w_bool 15 rfl ((nt (seq_f hp26))) <| wl_v 3 rfl (v_fldB fo_25_0 rfl) (gy 15 rfl rfl) rfl <| wl_v 4 rfl (v_ldB1 0 ld_22 rfl rfl rfl) (gy 15 rfl rfl) rfl <| wl_v 5 rfl (v_move rfl) (gy 15 rfl rfl) rfl ?_
    obtain ⟨hb27, h⟩ := h
    have hr28 := Rw.readF (s := St w []) (hl := hl_api_PatNode) (h1 := h1_api_PatNode) h5 hb27
    refine wl_v 6 rfl (v_idxR (s := St w []) slE_22 rfl rfl h5 hb27) (gy 15 rfl rfl) rfl <| wl_v 7 rfl (v_fldA fo_46_3 rfl) (gy 15 rfl rfl) rfl <| wl_v 8 rfl (v_ldA1 (kk := (x19 : Int).toNat * 5) (j := 3) (St w []) ld_9 rfl hr28 rfl (me 1 rfl)) (gy 15 rfl rfl) rfl <| wl_v 9 rfl (v_move rfl) (gy 15 rfl rfl) rfl <| wl_v 10 rfl (v_eqS rfl rfl) (gy 15 rfl rfl) rfl <| wl_v 11 rfl (v_pick (b := true) rfl rfl) gn rfl <| w_end 12 rfl ?_
    by_cases hp29 : (ix x1.nodes x19).capture = x10
    ·have h := if_pos' hp29 h
     refine g_true rfl _ rfl ((seq_t hp29)) <| g_seq rfl <| g_region rfl rfl <| wl_v 0 rfl (v_move rfl) gn rfl <| wl_v 1 rfl (v_assign rfl) gn rfl <| w_end 2 rfl ?_
     have h := Out.inr hO1 h
     refine g_retR [.int .i64 x19] rfl Try.func23 rfl (.tmp rfl (.nil)) fun wr hLr => ?_
     have hMr := hLr.pk0 (.c 1 rfl .n)
     show trellisref20_Node_R w F  r (.returned (packV [.int .i64 x19])) wr
     rw [h]
     exact ⟨rfl, hMr⟩
    ·have h := if_neg' hp29 h
     refine g_false rfl _ rfl ((seq_f hp29)) <| g_skip rfl <| g_inBlock <| g_region rfl rfl <| wl_v 0 rfl (v_move rfl) gn rfl <| wl_v 1 rfl (v_bin rfl rfl rfl) gn rfl <| wl_v 2 rfl (v_assign rfl) gn rfl <| w_end 3 rfl <| g_inLoop ?_
     have ih := Out.inl hO1 h
     exact g_go [0, 1] (ih ()) ⟨rfl, rfl, rfl, trivial⟩ (.cons_cons _ (.slnil)) rfl
  ·have h := if_neg' hp25 h
   refine g_false rfl _ rfl ((decide_eq_false hp25)) <| g_exit [.code q23c4] rfl rfl <| g_seq rfl <| g_region rfl rfl <| wl_v 0 rfl (v_assign rfl) gn rfl <| w_end 1 rfl ?_
   have h := Out.inr hO1 h
   refine g_retR [.int .i64 (-1)] rfl Try.func23 rfl (.tmp rfl (.nil)) fun wr hLr => ?_
   have hMr := hLr.pk0 (.c 1 rfl .n)
   show trellisref20_Node_R w F  r (.returned (packV [.int .i64 (-1)])) wr
   rw [h]
   exact ⟨rfl, hMr⟩
 exact g_go [0, 1] (key1 _ h ()) ⟨rfl, rfl, rfl, trivial⟩ (.cons_cons _ (.slnil)) rfl
noncomputable abbrev q10c2 := Code.snd (bodyOf Try.f10)
noncomputable abbrev q10c4 := Code.snd q10c2
noncomputable abbrev q10c6 := Code.snd (Code.fst q10c2)
noncomputable abbrev q10c23 := Code.fst (Code.snd (Code.snd (Code.snd q10c4)))
noncomputable abbrev q10c26 := Code.snd (Code.snd (Code.snd (Code.snd (Code.snd q10c4))))
noncomputable abbrev q10c31 := Code.fst (Code.fst (Code.snd (Code.fst (Code.snd (Code.snd (Code.snd (Code.snd q10c4)))))))
noncomputable abbrev q10c34 := Code.snd q10c26
noncomputable abbrev q10c41 := Code.fst (Code.snd (Code.fst (Code.snd (Code.fst q10c26))))
noncomputable abbrev q10c46 := Code.snd (Code.snd (Code.snd (Code.snd (Code.fst q10c26))))
noncomputable abbrev q10c48 := Code.snd (Code.fst (Code.snd (Code.snd (Code.snd (Code.fst q10c26)))))
noncomputable abbrev q10c56 := Code.snd q10c46
noncomputable abbrev q10c58 := Code.fst (Code.fst (Code.fst q10c46))
noncomputable abbrev q10c69 := Code.snd q10c34
noncomputable abbrev q10c71 := Code.snd (Code.fst q10c34)
noncomputable abbrev q10c78 := Code.fst (Code.snd (Code.snd (Code.fst q10c71)))
abbrev trellisref20_Reader_pattern_R (w : World) (F : Nat → Prop) (g2 : Nat) (Tb3 : Nat) (A8 : Option Addr) (n9 : Nat) (c10 : Nat) (z12 : Nat) (A14 : Option Addr) (n15 : Nat) (c16 : Nat) (z18 : Nat) (r : trellisref20_Reader) : Ending → World → Prop := fun e w' => ∃ A1 : Option Addr, ∃ n1 : Nat, ∃ c1 : Nat, ∃ A2 : Option Addr, ∃ n2 : Nat, ∃ c2 : Nat, ∃ A0 : Option Addr, ∃ n0 : Nat, ∃ c0 : Nat, e = .returned (.tuple #[]) ∧ B.Loc w w' [.box g2 Tb3 [.slice A0 n0 c0, .int .i64 r.at_, .slice A1 n1 c1, .slice A2 n2 c2, .int .i64 r.e, .int .i64 r.pos], .own (.slice A1 n1 c1) 46 5 n1 (r.q.nodes.flatMap enc_api_PatNode), .own (.slice A2 n2 c2) 48 4 n2 (r.q.conds.flatMap enc_api_Cond)] [St w [[g2], (Value.slice A8 n9 c10).ownBlock.toList, (Value.slice A14 n15 c16).ownBlock.toList]] ∧ Ow z12 A1 n1 c1 r.q.nodes ∧ Ow z18 A2 n2 c2 r.q.conds ∧ Rw k_api_Word w' (Nw w w' F [.box g2 Tb3 [.slice A0 n0 c0, .int .i64 r.at_, .slice A1 n1 c1, .slice A2 n2 c2, .int .i64 r.e, .int .i64 r.pos], .own (.slice A1 n1 c1) 46 5 n1 (r.q.nodes.flatMap enc_api_PatNode), .own (.slice A2 n2 c2) 48 4 n2 (r.q.conds.flatMap enc_api_Cond)]) A0 n0 c0 r.l
noncomputable abbrev trellisref20_Reader_pattern_C (w : World) (F : Nat → Prop) (g2 : Nat) (Tb3 : Nat) (A8 : Option Addr) (n9 : Nat) (c10 : Nat) (z12 : Nat) (A14 : Option Addr) (n15 : Nat) (c16 : Nat) (z18 : Nat) (r : trellisref20_Reader) : Cx := ⟨Try.prog, 10, Try.f10, 227, trellisref20_Reader_pattern_R w F g2 Tb3 A8 n9 c10 z12 A14 n15 c16 z18 r, w⟩
def trellisref20_Reader_pattern_st (rl : trellisref20_Reader → trellisref20_Reader → Prop) : Prop := ∀ (w : World) (F : Nat → Prop) (x1 : trellisref20_Reader) (g2 : Nat) (Tb3 : Nat) (A4 : Option Addr) (n5 : Nat) (c6 : Nat) (z12 : Nat) (A8 : Option Addr) (n9 : Nat) (c10 : Nat) (z18 : Nat) (A14 : Option Addr) (n15 : Nat) (c16 : Nat) (h7 : Rw k_api_Word w F A4 n5 c6 x1.l) (hz13 : z12 ≤ w.heap.size) (h11 : Ow z12 A8 n9 c10 x1.q.nodes) (hz19 : z18 ≤ w.heap.size) (h17 : Ow z18 A14 n15 c16 x1.q.conds) (hF : ∀ b, F b → b < w.heap.size ∧ ∀ o ∈ ([[g2], (Value.slice A8 n9 c10).ownBlock.toList, (Value.slice A14 n15 c16).ownBlock.toList] : List (List Nat)), b ∉ o) (hL0 : B.Loc w w [.box g2 Tb3 [.slice A4 n5 c6, .int .i64 x1.at_, .slice A8 n9 c10, .slice A14 n15 c16, .int .i64 x1.e, .int .i64 x1.pos], .own (.slice A8 n9 c10) 46 5 n9 (x1.q.nodes.flatMap enc_api_PatNode), .own (.slice A14 n15 c16) 48 4 n15 (x1.q.conds.flatMap enc_api_Cond)] [Sm w.heap.size F w [[g2], (Value.slice A8 n9 c10).ownBlock.toList, (Value.slice A14 n15 c16).ownBlock.toList], St w [[g2], (Value.slice A8 n9 c10).ownBlock.toList, (Value.slice A14 n15 c16).ownBlock.toList]]) (r : trellisref20_Reader) (h : rl x1 r), Calls Try.prog 10 #[.pointer (some ⟨g2, 0, none⟩)] w (trellisref20_Reader_pattern_R w F g2 Tb3 A8 n9 c10 z12 A14 n15 c16 z18 r)
theorem trellisref20_Reader_pattern_step (rc_trellisref20_Reader_pattern : trellisref20_Reader → trellisref20_Reader → Prop) (ih_trellisref20_Reader_pattern : trellisref20_Reader_pattern_st rc_trellisref20_Reader_pattern) : trellisref20_Reader_pattern_st (trellisref20_Reader_pattern_body rc_trellisref20_Reader_pattern) := by
 intro w F x1 g2 Tb3 A4 n5 c6 z12 A8 n9 c10 z18 A14 n15 c16 h7 hz13 h11 hz19 h17 hF hL0 r h
 unfold trellisref20_Reader_pattern_body at h
 have h7 := Rw.into (bs := [[g2], (Value.slice A8 n9 c10).ownBlock.toList, (Value.slice A14 n15 c16).ownBlock.toList]) hF h7
 refine calls_of_Loc (vs := [.pointer (some ⟨g2, 0, none⟩)]) 227 Try.func10 rfl Try.ntmps10 rfl hL0 ?_
 show G (trellisref20_Reader_pattern_C w F g2 Tb3 A8 n9 c10 z12 A14 n15 c16 z18 r) _ _ _ _
 refine g_seq rfl ?_
 have j1 : ∀ (x71 : Bool) (x72 : List api_Word) (x79 : Int) (x80 : List api_PatNode) (x85 : List api_Cond) (x90 : Int) (x91 : Int) (h : trellisref20_Reader_pattern_j1 rc_trellisref20_Reader_pattern x71 x72 x79 x80 x85 x90 x91 r) (A73 : Option Addr) (n74 : Nat) (c75 : Nat) (sw76 : World) (sb77 : List (List Nat)) (h78 : At k_api_Word (Sm w.heap.size F sw76 sb77) A73 n74 c75 x72) (A81 : Option Addr) (n82 : Nat) (c83 : Nat) (h84 : Ow z12 A81 n82 c83 x80) (A86 : Option Addr) (n87 : Nat) (c88 : Nat) (h89 : Ow z18 A86 n87 c88 x85), G (trellisref20_Reader_pattern_C w F g2 Tb3 A8 n9 c10 z12 A14 n15 c16 z18 r) [.code q10c2] [(0, .pointer (some ⟨g2, 0, none⟩)), (2, .bool x71)] [.own (.slice A81 n82 c83) 46 5 n82 (x80.flatMap enc_api_PatNode), .own (.slice A86 n87 c88) 48 4 n87 (x85.flatMap enc_api_Cond), .box g2 Tb3 [.slice A73 n74 c75, .int .i64 x79, .slice A81 n82 c83, .slice A86 n87 c88, .int .i64 x90, .int .i64 x91]] [Sm w.heap.size F sw76 sb77, Sm w.heap.size F w [[g2], (Value.slice A8 n9 c10).ownBlock.toList, (Value.slice A14 n15 c16).ownBlock.toList], St w [[g2], (Value.slice A8 n9 c10).ownBlock.toList, (Value.slice A14 n15 c16).ownBlock.toList]] := by
  intro x71 x72 x79 x80 x85 x90 x91 h A73 n74 c75 sw76 sb77 h78 A81 n82 c83 h84 A86 n87 c88 h89
  unfold trellisref20_Reader_pattern_j1 at h
  refine g_seq rfl <| g_seq rfl ?_
  have j2 : ∀ (x143 : Bool) (x144 : List api_Word) (x151 : Int) (x152 : List api_PatNode) (x157 : List api_Cond) (x162 : Int) (x163 : Int) (h : trellisref20_Reader_pattern_j2 x71 rc_trellisref20_Reader_pattern x143 x144 x151 x152 x157 x162 x163 r) (A145 : Option Addr) (n146 : Nat) (c147 : Nat) (sw148 : World) (sb149 : List (List Nat)) (h150 : At k_api_Word (Sm w.heap.size F sw148 sb149) A145 n146 c147 x144) (A153 : Option Addr) (n154 : Nat) (c155 : Nat) (h156 : Ow z12 A153 n154 c155 x152) (A158 : Option Addr) (n159 : Nat) (c160 : Nat) (h161 : Ow z18 A158 n159 c160 x157), G (trellisref20_Reader_pattern_C w F g2 Tb3 A8 n9 c10 z12 A14 n15 c16 z18 r) [.code q10c6, .code q10c4] [(0, .pointer (some ⟨g2, 0, none⟩)), (2, .bool x71), (39, .bool x143)] [.own (.slice A153 n154 c155) 46 5 n154 (x152.flatMap enc_api_PatNode), .own (.slice A158 n159 c160) 48 4 n159 (x157.flatMap enc_api_Cond), .box g2 Tb3 [.slice A145 n146 c147, .int .i64 x151, .slice A153 n154 c155, .slice A158 n159 c160, .int .i64 x162, .int .i64 x163]] [Sm w.heap.size F sw148 sb149, Sm w.heap.size F sw76 sb77, Sm w.heap.size F w [[g2], (Value.slice A8 n9 c10).ownBlock.toList, (Value.slice A14 n15 c16).ownBlock.toList], St w [[g2], (Value.slice A8 n9 c10).ownBlock.toList, (Value.slice A14 n15 c16).ownBlock.toList]] := by
   intro x143 x144 x151 x152 x157 x162 x163 h A145 n146 c147 sw148 sb149 h150 A153 n154 c155 h156 A158 n159 c160 h161
   unfold trellisref20_Reader_pattern_j2 at h
   by_cases hp164 : x143 = true
   ·have h := if_pos' hp164 h
    refine g_true rfl _ rfl (hp164) <| g_seq rfl <| g_region rfl rfl <| wl_v 0 rfl (v_move rfl) gn rfl <| wl_v 1 rfl (v_move rfl) gn rfl <| wl_v 2 rfl (v_nilCheck rfl) gn rfl <| wl_v 3 rfl (v_fldB fo_38_1 rfl) gn rfl <| wl_v 4 rfl (v_ldB1 2 ld_3 rfl rfl rfl) gn rfl ?_
    obtain ⟨r168, hv169, h⟩ := h
    refine wl_s 5 rfl (s_call [.pointer (some ⟨g2, 0, none⟩), .int .i64 200, .int .i64 x151] rfl Try.func20 rfl rfl rfl fun w165 hL166 => ?_) gn
    have hp167 := pmI hL166 (.c 2 rfl (.c 0 rfl (.c 1 rfl .n))) .n (by kernel_rfl)
    refine Calls.mono (trellisref20_Reader_stop_calls w165 (Fl ([Sm w.heap.size F sw148 sb149] : List Snap)) (⟨x144, x151, (⟨x152, x157⟩ : api_Query), x162, x163⟩ : trellisref20_Reader) 200 x151 g2 Tb3 A145 n146 c147 z12 A153 n154 c155 z18 A158 n159 c160 (Rw.mono h150 (hL166.toFl (me 0 rfl) (me 0 rfl))) (Nat.le_trans hz13 hL166.env.size) h156 (Nat.le_trans hz19 hL166.env.size) h161 (hL166.hFl hp167 (sels [0] rfl)) (hL166.into hp167 _) r168 hv169) ?_
    rintro _ w184 ⟨A174, n175, c176, A179, n180, c181, A170, n171, c172, rfl, hM185, h177, h182, h173⟩
    obtain ⟨sb188, hL186, hv187⟩ := hL166.callB (Sl := ([Sm w.heap.size F sw148 sb149] : List Snap)) hp167 hM185 F (sels [0] rfl) ⟨Sm.ok, trivial⟩
    have h173 : At k_api_Word (Sm w.heap.size F w184 sb188) A170 n171 c172 r168.l := Rw.mono h173 hv187
    refine ⟨_, _, _, rfl, hL186, ?_⟩
    refine w_end 6 rfl ?_
    refine g_retR [] rfl Try.func10 rfl (.nil) fun wr hLr => ?_
    have hMr := hLr.pkI (.c 0 rfl (.c 1 rfl (.c 2 rfl .n))) .n (by kernel_rfl) (.c 4 rfl .n)
    have hMi := hLr.selI (.c 0 rfl (.c 1 rfl (.c 2 rfl .n)))
    show trellisref20_Reader_pattern_R w F g2 Tb3 A8 n9 c10 z12 A14 n15 c16 z18 r (.returned (packV [])) wr
    rw [h]
    exact ⟨A174, n175, c176, A179, n180, c181, A170, n171, c172, rfl, hMr, h177, h182, (hLr.outR (s := Sm w.heap.size F w184 sb188) hMi (me 0 rfl) Sm.ok h173)⟩
   ·have h := if_neg' hp164 h
    refine g_false rfl _ rfl ((bf hp164)) <| g_skip rfl <| g_seq rfl <| g_seq rfl <| g_region rfl rfl <| wl_v 0 rfl (v_move rfl) gn rfl <| wl_v 1 rfl (v_nilCheck rfl) gn rfl <| wl_v 2 rfl (v_fldB fo_38_2 rfl) gn rfl <| wl_v 3 rfl (v_fldB fo_25_0 rfl) gn rfl <| wl_v 4 rfl (v_ldB1 2 ld_22 rfl rfl rfl) gn rfl <| wl_v 5 rfl (v_lenQ un_22 rfl h156.hq) gn rfl <| wl_v 6 rfl (v_bin rfl rfl rfl) gn rfl ?_
    refine w_end 7 rfl ?_
    by_cases hp189 : (x152.length : Int) ≥ 32
    ·have h := if_pos' hp189 h
     refine g_true rfl _ rfl ((decide_eq_true hp189)) <| g_seq rfl <| g_region rfl rfl <| wl_v 0 rfl (v_move rfl) gn rfl <| wl_v 1 rfl (v_move rfl) gn rfl <| wl_v 2 rfl (v_nilCheck rfl) gn rfl <| wl_v 3 rfl (v_fldB fo_38_1 rfl) gn rfl <| wl_v 4 rfl (v_ldB1 2 ld_3 rfl rfl rfl) gn rfl ?_
     obtain ⟨r193, hv194, h⟩ := h
     refine wl_s 5 rfl (s_call [.pointer (some ⟨g2, 0, none⟩), .int .i64 202, .int .i64 x151] rfl Try.func20 rfl rfl rfl fun w190 hL191 => ?_) gn
     have hp192 := pmI hL191 (.c 2 rfl (.c 0 rfl (.c 1 rfl .n))) .n (by kernel_rfl)
     refine Calls.mono (trellisref20_Reader_stop_calls w190 (Fl ([Sm w.heap.size F sw148 sb149] : List Snap)) (⟨x144, x151, (⟨x152, x157⟩ : api_Query), x162, x163⟩ : trellisref20_Reader) 202 x151 g2 Tb3 A145 n146 c147 z12 A153 n154 c155 z18 A158 n159 c160 (Rw.mono h150 (hL191.toFl (me 0 rfl) (me 0 rfl))) (Nat.le_trans hz13 hL191.env.size) h156 (Nat.le_trans hz19 hL191.env.size) h161 (hL191.hFl hp192 (sels [0] rfl)) (hL191.into hp192 _) r193 hv194) ?_
     rintro _ w209 ⟨A199, n200, c201, A204, n205, c206, A195, n196, c197, rfl, hM210, h202, h207, h198⟩
     obtain ⟨sb213, hL211, hv212⟩ := hL191.callB (Sl := ([Sm w.heap.size F sw148 sb149] : List Snap)) hp192 hM210 F (sels [0] rfl) ⟨Sm.ok, trivial⟩
     have h198 : At k_api_Word (Sm w.heap.size F w209 sb213) A195 n196 c197 r193.l := Rw.mono h198 hv212
     refine ⟨_, _, _, rfl, hL211, ?_⟩
     refine w_end 6 rfl ?_
     refine g_retR [] rfl Try.func10 rfl (.nil) fun wr hLr => ?_
     have hMr := hLr.pkI (.c 0 rfl (.c 1 rfl (.c 2 rfl .n))) .n (by kernel_rfl) (.c 4 rfl .n)
     have hMi := hLr.selI (.c 0 rfl (.c 1 rfl (.c 2 rfl .n)))
     show trellisref20_Reader_pattern_R w F g2 Tb3 A8 n9 c10 z12 A14 n15 c16 z18 r (.returned (packV [])) wr
     rw [h]
     exact ⟨A199, n200, c201, A204, n205, c206, A195, n196, c197, rfl, hMr, h202, h207, (hLr.outR (s := Sm w.heap.size F w209 sb213) hMi (me 0 rfl) Sm.ok h198)⟩
    ·have h := if_neg' hp189 h
     refine g_false rfl _ rfl ((decide_eq_false hp189)) <| g_skip rfl <| g_seq rfl <| g_region rfl rfl <| wl_v 0 rfl (v_move rfl) gn rfl <| wl_v 1 rfl (v_nilCheck rfl) gn rfl <| wl_v 2 rfl (v_fldB fo_38_2 rfl) gn rfl <| wl_v 3 rfl (v_fldB fo_25_0 rfl) gn rfl <| wl_v 4 rfl (v_ldB1 2 ld_22 rfl rfl rfl) gn rfl <| wl_v 5 rfl (v_lenQ un_22 rfl h156.hq) gn rfl <| wl_v 6 rfl (v_assign rfl) gn rfl <| w_end 7 rfl ?_
     refine g_seq rfl <| g_region rfl rfl ?_
     refine wl_s 0 rfl (s_alloc [.string (⟨#[]⟩ : ByteArray), .bool false, .string (⟨#[]⟩ : ByteArray), .string (⟨#[]⟩ : ByteArray), .int .i64 0] zr_46 rfl fun gb214 => ?_) gn
     refine w_end 1 rfl <| g_seq rfl ?_
     obtain ⟨x222, hv223, h⟩ := h
     obtain ⟨hb224, h⟩ := h
     have hns : Region.noSelect (Code.ops q10c23) = true := by kernel_rfl
     refine g_drawF [.box gb214 46 [.string (⟨#[]⟩ : ByteArray), .bool false, .string (⟨#[]⟩ : ByteArray), .string (⟨#[]⟩ : ByteArray), .int .i64 0], .own (.slice A158 n159 c160) 48 4 n159 (x157.flatMap enc_api_Cond), .box g2 Tb3 [.slice A145 n146 c147, .int .i64 x151, .slice A153 n154 c155, .slice A158 n159 c160, .int .i64 x162, .int .i64 x163]] [Sm w.heap.size F sw148 sb149, Sm w.heap.size F sw76 sb77, Sm w.heap.size F w [[g2], (Value.slice A8 n9 c10).ownBlock.toList, (Value.slice A14 n15 c16).ownBlock.toList], St w [[g2], (Value.slice A8 n9 c10).ownBlock.toList, (Value.slice A14 n15 c16).ownBlock.toList]] [12] 13 rfl rfl mix rfl (.cons_cons _ (.cons _ (.cons_cons _ (.cons_cons _ (.slnil))))) (sels [0, 1, 2, 3] rfl) <| wfv 0 rfl (v_move rfl) gn hns (by kernel_rfl) <| wfv 1 rfl (v_move rfl) gn hns (by kernel_rfl) <| wfv 2 rfl (v_nilCheck rfl) gn hns (by kernel_rfl) <| wfv 3 rfl (v_fldB fo_38_2 rfl) gn hns (by kernel_rfl) <| wfv 4 rfl (v_fldB fo_25_0 rfl) gn hns (by kernel_rfl) <| wfv 5 rfl (v_ldB1 2 ld_22 rfl rfl rfl) gn hns (by kernel_rfl) <| wfv 6 rfl (v_ldB [.string (⟨#[]⟩ : ByteArray), .bool false, .string (⟨#[]⟩ : ByteArray), .string (⟨#[]⟩ : ByteArray), .int .i64 0] 0 ld_46 rfl rfl rfl rfl) gn hns (by kernel_rfl) ?_
     refine wf_all [7] (by kernel_rfl) rfl ⟨on_s 7 rfl gn rfl (s_litO (xs := ([(⟨(⟨#[]⟩ : ByteArray), false, (⟨#[]⟩ : ByteArray), (⟨#[]⟩ : ByteArray), 0⟩ : api_PatNode)] : List api_PatNode)) [.string (⟨#[]⟩ : ByteArray), .bool false, .string (⟨#[]⟩ : ByteArray), .string (⟨#[]⟩ : ByteArray), .int .i64 0] bs_22_1 rfl (by kernel_rfl) rfl rfl rfl rfl fun gb237 h238 => ?_), trivial⟩
     refine ⟨sels [1, 3, 4] rfl, sels [0, 1, 2, 3] rfl, ?_⟩
     refine wf_all [8] (by kernel_rfl) rfl ⟨on_s 8 rfl gn rfl (s_app (zs := x222) (cells' := x222.flatMap enc_api_PatNode) 2 ap_22 rfl rfl rfl h156 hz13 (Src.ownF (hl := hl_api_PatNode) (h1 := h1_api_PatNode) 0 rfl h238) (by rw [hv223, List.flatMap_append] <;> rfl) (app_len hv223 h238.hq) hb224 rfl rfl fun A242 c243 h244 => ?_), trivial⟩
     refine ⟨sels [1, 3, 4] rfl, sels [0, 1, 2, 3] rfl, ?_⟩
     refine wfv 9 rfl (v_nilCheck rfl) gn hns (by kernel_rfl) <| wfv 10 rfl (v_fldB fo_38_2 rfl) gn hns (by kernel_rfl) <| wfv 11 rfl (v_fldB fo_25_0 rfl) gn hns (by kernel_rfl) ?_
     refine wf_all [12] (by kernel_rfl) rfl ⟨on_l 12 rfl gn rfl (s_stB (vs := [.slice A242 (n154 + 1) c243]) (cs' := [.slice A145 n146 c147, .int .i64 x151, .slice A242 (n154 + 1) c243, .slice A158 n159 c160, .int .i64 x162, .int .i64 x163]) (M' := [.own (.slice (some ⟨gb237, 0, none⟩) 1 1) 46 5 1 (([(⟨(⟨#[]⟩ : ByteArray), false, (⟨#[]⟩ : ByteArray), (⟨#[]⟩ : ByteArray), 0⟩ : api_PatNode)] : List api_PatNode).flatMap enc_api_PatNode), .box gb214 46 [.string (⟨#[]⟩ : ByteArray), .bool false, .string (⟨#[]⟩ : ByteArray), .string (⟨#[]⟩ : ByteArray), .int .i64 0], .own (.slice A242 (n154 + 1) c243) 46 5 (n154 + 1) (x222.flatMap enc_api_PatNode), .own (.slice A158 n159 c160) 48 4 n159 (x157.flatMap enc_api_Cond), .box g2 Tb3 [.slice A145 n146 c147, .int .i64 x151, .slice A242 (n154 + 1) c243, .slice A158 n159 c160, .int .i64 x162, .int .i64 x163]]) 4 sz_22 rfl rfl rfl rfl rfl rfl rfl rfl rfl ?_), trivial⟩
     unfold NxL
     refine wf_end (by kernel_rfl) <| g_seq rfl <| g_seq rfl <| g_region rfl rfl <| wl_v 0 rfl (v_move rfl) gn rfl <| w_end 1 rfl ?_
     have j3 : ∀ (x251 : ByteArray) (x252 : Int) (h : trellisref20_Reader_pattern_j3 x144 x222 x157 x162 x163 x152 rc_trellisref20_Reader_pattern x251 x252 r) , G (trellisref20_Reader_pattern_C w F g2 Tb3 A8 n9 c10 z12 A14 n15 c16 z18 r) [.code q10c26] [(0, .pointer (some ⟨g2, 0, none⟩)), (3, .int .i64 (x152.length : Int)), (4, .pointer (some ⟨gb214, 0, none⟩))] [.box gb214 46 [.string (⟨#[]⟩ : ByteArray), .bool false, .string x251, .string (⟨#[]⟩ : ByteArray), .int .i64 0], .own (.slice A242 (n154 + 1) c243) 46 5 (n154 + 1) (x222.flatMap enc_api_PatNode), .own (.slice A158 n159 c160) 48 4 n159 (x157.flatMap enc_api_Cond), .box g2 Tb3 [.slice A145 n146 c147, .int .i64 x252, .slice A242 (n154 + 1) c243, .slice A158 n159 c160, .int .i64 x162, .int .i64 x163]] [Sm w.heap.size F sw148 sb149, Sm w.heap.size F sw76 sb77, Sm w.heap.size F w [[g2], (Value.slice A8 n9 c10).ownBlock.toList, (Value.slice A14 n15 c16).ownBlock.toList], St w [[g2], (Value.slice A8 n9 c10).ownBlock.toList, (Value.slice A14 n15 c16).ownBlock.toList]] := by
      intro x251 x252 h
      unfold trellisref20_Reader_pattern_j3 at h
      refine g_seq rfl <| g_seq rfl <| g_region rfl rfl <| wl_v 0 rfl (v_move rfl) gn rfl <| wl_v 1 rfl (v_move rfl) gn rfl <| wl_v 2 rfl (v_nilCheck rfl) gn rfl <| wl_v 3 rfl (v_fldB fo_38_1 rfl) gn rfl <| wl_v 4 rfl (v_ldB1 3 ld_3 rfl rfl rfl) gn rfl ?_
      obtain ⟨r256, hv257, h⟩ := h
      refine wl_s 5 rfl (s_call [.pointer (some ⟨g2, 0, none⟩), .int .i64 x252] rfl Try.func19 rfl rfl rfl fun w253 hL254 => ?_) gn
      have hp255 := pmI hL254 (.c 3 rfl (.c 1 rfl (.c 2 rfl .n))) (.c 0 rfl .n) (by kernel_rfl)
      refine Calls.mono (trellisref20_Reader_text_calls w253 (Fl ([Sm w.heap.size F sw148 sb149] : List Snap)) (⟨x144, x252, (⟨x222, x157⟩ : api_Query), x162, x163⟩ : trellisref20_Reader) x252 g2 Tb3 A145 n146 c147 z12 A242 (n154 + 1) c243 z18 A158 n159 c160 (Rw.mono h150 (hL254.toFl (me 0 rfl) (me 0 rfl))) (Nat.le_trans hz13 hL254.env.size) h244 (Nat.le_trans hz19 hL254.env.size) h161 (hL254.hFl hp255 (sels [0] rfl)) (hL254.into hp255 _) r256 hv257) ?_
      rintro _ w272 ⟨A262, n263, c264, A267, n268, c269, A258, n259, c260, rfl, hM273, h265, h270, h261⟩
      obtain ⟨sb276, hL274, hv275⟩ := hL254.callB (Sl := ([Sm w.heap.size F sw148 sb149] : List Snap)) hp255 hM273 F (sels [0] rfl) ⟨Sm.ok, trivial⟩
      have h261 : At k_api_Word (Sm w.heap.size F w272 sb276) A258 n259 c260 r256.2.l := Rw.mono h261 hv275
      refine ⟨_, _, _, rfl, hL274, ?_⟩
      refine w_end 6 rfl ?_
      have j4 : ∀ (x624 : List api_Word) (x631 : Int) (x632 : List api_PatNode) (x637 : List api_Cond) (x642 : Int) (x643 : Int) (x644 : ByteArray) (x645 : Bool) (x646 : Int) (h : trellisref20_Reader_pattern_j4 x152 x251 x624 x631 x632 x637 x642 x643 x644 x645 x646 r) (A625 : Option Addr) (n626 : Nat) (c627 : Nat) (sw628 : World) (sb629 : List (List Nat)) (h630 : At k_api_Word (Sm w.heap.size F sw628 sb629) A625 n626 c627 x624) (A633 : Option Addr) (n634 : Nat) (c635 : Nat) (h636 : Ow z12 A633 n634 c635 x632) (A638 : Option Addr) (n639 : Nat) (c640 : Nat) (h641 : Ow z18 A638 n639 c640 x637), G (trellisref20_Reader_pattern_C w F g2 Tb3 A8 n9 c10 z12 A14 n15 c16 z18 r) [.code q10c34] [(0, .pointer (some ⟨g2, 0, none⟩)), (3, .int .i64 (x152.length : Int)), (4, .pointer (some ⟨gb214, 0, none⟩))] [.own (.slice A633 n634 c635) 46 5 n634 (x632.flatMap enc_api_PatNode), .own (.slice A638 n639 c640) 48 4 n639 (x637.flatMap enc_api_Cond), .box g2 Tb3 [.slice A625 n626 c627, .int .i64 x631, .slice A633 n634 c635, .slice A638 n639 c640, .int .i64 x642, .int .i64 x643], .box gb214 46 [.string x644, .bool x645, .string x251, .string (⟨#[]⟩ : ByteArray), .int .i64 x646]] [Sm w.heap.size F sw628 sb629, Sm w.heap.size F w272 sb276, Sm w.heap.size F sw148 sb149, Sm w.heap.size F sw76 sb77, Sm w.heap.size F w [[g2], (Value.slice A8 n9 c10).ownBlock.toList, (Value.slice A14 n15 c16).ownBlock.toList], St w [[g2], (Value.slice A8 n9 c10).ownBlock.toList, (Value.slice A14 n15 c16).ownBlock.toList]] := by
       intro x624 x631 x632 x637 x642 x643 x644 x645 x646 h A625 n626 c627 sw628 sb629 h630 A633 n634 c635 h636 A638 n639 c640 h641
       unfold trellisref20_Reader_pattern_j4 at h
       refine g_seq rfl <| g_seq rfl ?_
       have j5 : ∀ (x673 : Bool) (x674 : List api_Word) (x681 : Int) (x682 : List api_PatNode) (x687 : List api_Cond) (x692 : Int) (x693 : Int) (h : trellisref20_Reader_pattern_j5 x152 x644 x645 x251 x646 x673 x674 x681 x682 x687 x692 x693 r) (A675 : Option Addr) (n676 : Nat) (c677 : Nat) (sw678 : World) (sb679 : List (List Nat)) (h680 : At k_api_Word (Sm w.heap.size F sw678 sb679) A675 n676 c677 x674) (A683 : Option Addr) (n684 : Nat) (c685 : Nat) (h686 : Ow z12 A683 n684 c685 x682) (A688 : Option Addr) (n689 : Nat) (c690 : Nat) (h691 : Ow z18 A688 n689 c690 x687), G (trellisref20_Reader_pattern_C w F g2 Tb3 A8 n9 c10 z12 A14 n15 c16 z18 r) [.code q10c71, .code q10c69] [(0, .pointer (some ⟨g2, 0, none⟩)), (3, .int .i64 (x152.length : Int)), (4, .pointer (some ⟨gb214, 0, none⟩)), (193, .bool x673)] [.own (.slice A683 n684 c685) 46 5 n684 (x682.flatMap enc_api_PatNode), .own (.slice A688 n689 c690) 48 4 n689 (x687.flatMap enc_api_Cond), .box g2 Tb3 [.slice A675 n676 c677, .int .i64 x681, .slice A683 n684 c685, .slice A688 n689 c690, .int .i64 x692, .int .i64 x693], .box gb214 46 [.string x644, .bool x645, .string x251, .string (⟨#[]⟩ : ByteArray), .int .i64 x646]] [Sm w.heap.size F sw678 sb679, Sm w.heap.size F sw628 sb629, Sm w.heap.size F w272 sb276, Sm w.heap.size F sw148 sb149, Sm w.heap.size F sw76 sb77, Sm w.heap.size F w [[g2], (Value.slice A8 n9 c10).ownBlock.toList, (Value.slice A14 n15 c16).ownBlock.toList], St w [[g2], (Value.slice A8 n9 c10).ownBlock.toList, (Value.slice A14 n15 c16).ownBlock.toList]] := by
        intro x673 x674 x681 x682 x687 x692 x693 h A675 n676 c677 sw678 sb679 h680 A683 n684 c685 h686 A688 n689 c690 h691
        unfold trellisref20_Reader_pattern_j5 at h
        by_cases hp694 : x673 = true
        ·have h := if_pos' hp694 h
         refine g_true rfl _ rfl (hp694) <| g_seq rfl <| g_region rfl rfl <| wl_v 0 rfl (v_move rfl) gn rfl <| wl_v 1 rfl (v_nilCheck rfl) gn rfl <| wl_v 2 rfl (v_fldB fo_38_1 rfl) gn rfl <| wl_v 3 rfl (v_ldB1 2 ld_3 rfl rfl rfl) gn rfl <| wl_v 4 rfl (v_bin rfl rfl rfl) gn rfl <| wl_v 5 rfl (v_nilCheck rfl) gn rfl <| wl_v 6 rfl (v_fldB fo_38_1 rfl) gn rfl ?_
         refine wl_s 7 rfl (s_stB (vs := [.int .i64 (w64 (x681 + 1))]) (cs' := [.slice A675 n676 c677, .int .i64 (w64 (x681 + 1)), .slice A683 n684 c685, .slice A688 n689 c690, .int .i64 x692, .int .i64 x693]) (M' := [.own (.slice A683 n684 c685) 46 5 n684 (x682.flatMap enc_api_PatNode), .own (.slice A688 n689 c690) 48 4 n689 (x687.flatMap enc_api_Cond), .box g2 Tb3 [.slice A675 n676 c677, .int .i64 (w64 (x681 + 1)), .slice A683 n684 c685, .slice A688 n689 c690, .int .i64 x692, .int .i64 x693], .box gb214 46 [.string x644, .bool x645, .string x251, .string (⟨#[]⟩ : ByteArray), .int .i64 x646]]) 2 sz_3 rfl rfl rfl rfl rfl rfl rfl rfl rfl ?_) gn
         refine w_end 8 rfl <| g_seq rfl <| g_region rfl rfl <| wl_v 0 rfl (v_move rfl) gn rfl ?_
         obtain ⟨r698, hv699, h⟩ := h
         refine wl_s 1 rfl (s_call [.pointer (some ⟨g2, 0, none⟩)] rfl Try.func22 rfl rfl rfl fun w695 hL696 => ?_) gn
         have hp697 := pmI hL696 (.c 2 rfl (.c 0 rfl (.c 1 rfl .n))) (.c 3 rfl .n) (by kernel_rfl)
         refine Calls.mono (trellisref20_Reader_takeName_calls w695 (Fl ([Sm w.heap.size F sw678 sb679] : List Snap)) (⟨x674, w64 (x681 + 1), (⟨x682, x687⟩ : api_Query), x692, x693⟩ : trellisref20_Reader) g2 Tb3 A675 n676 c677 z12 A683 n684 c685 z18 A688 n689 c690 (Rw.mono h680 (hL696.toFl (me 0 rfl) (me 0 rfl))) (Nat.le_trans hz13 hL696.env.size) h686 (Nat.le_trans hz19 hL696.env.size) h691 (hL696.hFl hp697 (sels [0] rfl)) (hL696.into hp697 _) r698 hv699) ?_
         rintro _ w714 ⟨A704, n705, c706, A709, n710, c711, A700, n701, c702, rfl, hM715, h707, h712, h703⟩
         obtain ⟨sb718, hL716, hv717⟩ := hL696.callB (Sl := ([Sm w.heap.size F sw678 sb679] : List Snap)) hp697 hM715 F (sels [0] rfl) ⟨Sm.ok, trivial⟩
         have h703 : At k_api_Word (Sm w.heap.size F w714 sb718) A700 n701 c702 r698.2.l := Rw.mono h703 hv717
         refine ⟨_, _, _, rfl, hL716, ?_⟩
         refine wl_v 2 rfl (v_fldB fo_46_3 rfl) gn rfl ?_
         refine wl_s 3 rfl (s_stB (vs := [.string r698.1]) (cs' := [.string x644, .bool x645, .string x251, .string r698.1, .int .i64 x646]) (M' := [.box g2 Tb3 [.slice A700 n701 c702, .int .i64 r698.2.at_, .slice A704 n705 c706, .slice A709 n710 c711, .int .i64 r698.2.e, .int .i64 r698.2.pos], .own (.slice A704 n705 c706) 46 5 n705 (r698.2.q.nodes.flatMap enc_api_PatNode), .own (.slice A709 n710 c711) 48 4 n710 (r698.2.q.conds.flatMap enc_api_Cond), .box gb214 46 [.string x644, .bool x645, .string x251, .string r698.1, .int .i64 x646]]) 3 sz_9 rfl rfl rfl rfl rfl rfl rfl rfl rfl ?_) gn
         refine w_end 4 rfl <| g_seq rfl ?_
         obtain ⟨r722, hv723, h⟩ := h
         have hns : Region.noSelect (Code.ops q10c78) = true := by kernel_rfl
         refine g_drawG [] 8 rfl rfl mix rfl (.c 0 rfl (.c 1 rfl (.c 2 rfl (.c 3 rfl (.c 4 rfl (.c 5 rfl (.c 6 rfl (.c 7 rfl .n)))))))) <| wfv 0 rfl (v_move rfl) gn hns rfl <| wfv 1 rfl (v_nilCheck rfl) gn hns rfl <| wfv 2 rfl (v_fldB fo_38_2 rfl) gn hns rfl <| wfv 3 rfl (v_ldB [.slice A704 n705 c706, .slice A709 n710 c711] 0 ld_25 rfl rfl rfl rfl) gn hns rfl <| wfv 4 rfl (v_fldB fo_46_3 rfl) gn hns rfl <| wfv 5 rfl (v_ldB1 3 ld_9 rfl rfl rfl) gn hns rfl ?_
         refine wf_all [6] (by kernel_rfl) rfl ⟨on_s 6 rfl gn rfl (s_call [.agg #[.slice A704 n705 c706, .slice A709 n710 c711], .string r698.1] rfl Try.func23 rfl rfl rfl fun w745 hL746 => ?_), trivial⟩
         have hp747 := pmI hL746 .n (.c 0 rfl (.c 1 rfl (.c 2 rfl (.c 3 rfl .n)))) (by kernel_rfl)
         refine Calls.mono (trellisref20_Node_calls w745 (Fl ([] : List Snap)) r698.2.q r698.1 A704 n705 c706 A709 n710 c711 (hL746.argO (dk := k_api_PatNode) hp747 [] rfl 1 rfl rfl h707 (me 6 rfl) (Cells.flat _)) (hL746.argO (dk := k_api_Cond) hp747 [] rfl 2 rfl rfl h712 (me 6 rfl) (Cells.flat _)) (hL746.hFl hp747 (sels [] rfl)) (hL746.into hp747 _) r722 hv723) ?_
         rintro _ w748 ⟨rfl, hM749⟩
         have hL750 := hL746.call hp747 hM749
         refine ⟨_, _, _, rfl, hL750, ?_⟩
         refine ⟨sels [0, 1, 2, 3] rfl, sels [0, 1, 2, 3, 4, 5, 6, 7] rfl, ?_⟩
         refine wfv 7 rfl (v_bin rfl rfl rfl) gn hns rfl <| wf_end (by kernel_rfl) ?_
         by_cases hp751 : r722 ≥ 0
         ·have h := if_pos' hp751 h
          refine g_true rfl _ rfl ((decide_eq_true hp751)) <| g_region rfl rfl <| wl_v 0 rfl (v_move rfl) gn rfl <| wl_v 1 rfl (v_move rfl) gn rfl <| wl_v 2 rfl (v_nilCheck rfl) gn rfl <| wl_v 3 rfl (v_fldB fo_38_1 rfl) gn rfl <| wl_v 4 rfl (v_ldB1 0 ld_3 rfl rfl rfl) gn rfl <| wl_v 5 rfl (v_bin rfl rfl rfl) gn rfl ?_
          obtain ⟨r755, hv756, h⟩ := h
          refine wl_s 6 rfl (s_call [.pointer (some ⟨g2, 0, none⟩), .int .i64 201, .int .i64 (w64 (r698.2.at_ - 1))] rfl Try.func20 rfl rfl rfl fun w752 hL753 => ?_) gn
          have hp754 := pmI hL753 (.c 0 rfl (.c 1 rfl (.c 2 rfl .n))) (.c 3 rfl .n) (by kernel_rfl)
          refine Calls.mono (trellisref20_Reader_stop_calls w752 (Fl ([Sm w.heap.size F w714 sb718] : List Snap)) r698.2 201 (w64 (r698.2.at_ - 1)) g2 Tb3 A700 n701 c702 z12 A704 n705 c706 z18 A709 n710 c711 (Rw.mono h703 (hL753.toFl (me 0 rfl) (me 0 rfl))) (Nat.le_trans hz13 hL753.env.size) h707 (Nat.le_trans hz19 hL753.env.size) h712 (hL753.hFl hp754 (sels [0] rfl)) (hL753.into hp754 _) r755 hv756) ?_
          rintro _ w771 ⟨A761, n762, c763, A766, n767, c768, A757, n758, c759, rfl, hM772, h764, h769, h760⟩
          obtain ⟨sb775, hL773, hv774⟩ := hL753.callB (Sl := ([Sm w.heap.size F w714 sb718] : List Snap)) hp754 hM772 F (sels [0] rfl) ⟨Sm.ok, trivial⟩
          have h760 : At k_api_Word (Sm w.heap.size F w771 sb775) A757 n758 c759 r755.l := Rw.mono h760 hv774
          refine ⟨_, _, _, rfl, hL773, ?_⟩
          refine w_end 7 rfl ?_
          obtain ⟨hb776, h⟩ := h
          obtain ⟨x777, hv778, h⟩ := h
          have hns : Region.noSelect (Code.ops q10c69) = true := by kernel_rfl
          refine g_drawG [8] 9 rfl rfl mix rfl (.c 0 rfl (.c 1 rfl (.c 2 rfl (.c 3 rfl (.c 4 rfl (.c 5 rfl (.c 6 rfl (.c 7 rfl (.c 8 rfl .n))))))))) <| wfv 0 rfl (v_move rfl) gn hns (by kernel_rfl) <| wfv 1 rfl (v_nilCheck rfl) gn hns (by kernel_rfl) <| wfv 2 rfl (v_fldB fo_38_2 rfl) gn hns (by kernel_rfl) <| wfv 3 rfl (v_fldB fo_25_0 rfl) gn hns (by kernel_rfl) <| wfv 4 rfl (v_ldB1 0 ld_22 rfl rfl rfl) gn hns (by kernel_rfl) <| wfv 5 rfl (v_move rfl) gn hns (by kernel_rfl) <| wfv 6 rfl (v_ldB [.string x644, .bool x645, .string x251, .string r698.1, .int .i64 x646] 3 ld_46 rfl rfl rfl rfl) gn hns (by kernel_rfl) <| wfv 7 rfl (v_idxO slE_22 rfl rfl h764 hb776) gn hns (by kernel_rfl) ?_
          refine wf_all [8] (by kernel_rfl) rfl ⟨on_l 8 rfl gn rfl (s_stF (enc := enc_api_PatNode) (o := 0) (z := (⟨x644, x645, x251, r698.1, x646⟩ : api_PatNode)) (vs := [.string x644, .bool x645, .string x251, .string r698.1, .int .i64 x646]) (i := (x152.length : Int)) 1 hl_api_PatNode sz_46 rfl rfl rfl rfl rfl h764 hb776 rfl rfl rfl hv778 fun h781 => ?_), trivial⟩
          unfold NxL
          refine wf_end (by kernel_rfl) ?_
          refine g_endR [] Try.func10 rfl (.nil) fun wr hLr => ?_
          have hMr := hLr.pkI (.c 0 rfl (.c 1 rfl (.c 2 rfl .n))) (.c 3 rfl .n) (by kernel_rfl) (.c 8 rfl .n)
          have hMi := hLr.selI (.c 0 rfl (.c 1 rfl (.c 2 rfl .n)))
          show trellisref20_Reader_pattern_R w F g2 Tb3 A8 n9 c10 z12 A14 n15 c16 z18 r (.returned (packV [])) wr
          rw [h]
          exact ⟨A761, n762, c763, A766, n767, c768, A757, n758, c759, rfl, hMr, h781, h769, (hLr.outR (s := Sm w.heap.size F w771 sb775) hMi (me 0 rfl) Sm.ok h760)⟩
         ·have h := if_neg' hp751 h
          refine g_false rfl _ rfl ((decide_eq_false hp751)) <| g_skip rfl ?_
          obtain ⟨hb782, h⟩ := h
          obtain ⟨x783, hv784, h⟩ := h
          have hns : Region.noSelect (Code.ops q10c69) = true := by kernel_rfl
          refine g_drawG [8] 9 rfl rfl mix rfl (.c 0 rfl (.c 1 rfl (.c 2 rfl (.c 3 rfl (.c 4 rfl (.c 5 rfl (.c 6 rfl (.c 7 rfl .n)))))))) <| wfv 0 rfl (v_move rfl) gn hns (by kernel_rfl) <| wfv 1 rfl (v_nilCheck rfl) gn hns (by kernel_rfl) <| wfv 2 rfl (v_fldB fo_38_2 rfl) gn hns (by kernel_rfl) <| wfv 3 rfl (v_fldB fo_25_0 rfl) gn hns (by kernel_rfl) <| wfv 4 rfl (v_ldB1 0 ld_22 rfl rfl rfl) gn hns (by kernel_rfl) <| wfv 5 rfl (v_move rfl) gn hns (by kernel_rfl) <| wfv 6 rfl (v_ldB [.string x644, .bool x645, .string x251, .string r698.1, .int .i64 x646] 3 ld_46 rfl rfl rfl rfl) gn hns (by kernel_rfl) <| wfv 7 rfl (v_idxO slE_22 rfl rfl h707 hb782) gn hns (by kernel_rfl) ?_
          refine wf_all [8] (by kernel_rfl) rfl ⟨on_l 8 rfl gn rfl (s_stF (enc := enc_api_PatNode) (o := 0) (z := (⟨x644, x645, x251, r698.1, x646⟩ : api_PatNode)) (vs := [.string x644, .bool x645, .string x251, .string r698.1, .int .i64 x646]) (i := (x152.length : Int)) 1 hl_api_PatNode sz_46 rfl rfl rfl rfl rfl h707 hb782 rfl rfl rfl hv784 fun h787 => ?_), trivial⟩
          unfold NxL
          refine wf_end (by kernel_rfl) ?_
          refine g_endR [] Try.func10 rfl (.nil) fun wr hLr => ?_
          have hMr := hLr.pkI (.c 0 rfl (.c 1 rfl (.c 2 rfl .n))) (.c 3 rfl .n) (by kernel_rfl) (.c 7 rfl .n)
          have hMi := hLr.selI (.c 0 rfl (.c 1 rfl (.c 2 rfl .n)))
          show trellisref20_Reader_pattern_R w F g2 Tb3 A8 n9 c10 z12 A14 n15 c16 z18 r (.returned (packV [])) wr
          rw [h]
          exact ⟨A704, n705, c706, A709, n710, c711, A700, n701, c702, rfl, hMr, h787, h712, (hLr.outR (s := Sm w.heap.size F w714 sb718) hMi (me 0 rfl) Sm.ok h703)⟩
        ·have h := if_neg' hp694 h
         refine g_false rfl _ rfl ((bf hp694)) <| g_skip rfl ?_
         obtain ⟨hb788, h⟩ := h
         obtain ⟨x789, hv790, h⟩ := h
         have hns : Region.noSelect (Code.ops q10c69) = true := by kernel_rfl
         refine g_drawG [8] 9 rfl rfl mix rfl (.c 0 rfl (.c 1 rfl (.c 2 rfl (.c 3 rfl (.c 4 rfl (.c 5 rfl (.c 6 rfl .n))))))) <| wfv 0 rfl (v_move rfl) gn hns (by kernel_rfl) <| wfv 1 rfl (v_nilCheck rfl) gn hns (by kernel_rfl) <| wfv 2 rfl (v_fldB fo_38_2 rfl) gn hns (by kernel_rfl) <| wfv 3 rfl (v_fldB fo_25_0 rfl) gn hns (by kernel_rfl) <| wfv 4 rfl (v_ldB1 2 ld_22 rfl rfl rfl) gn hns (by kernel_rfl) <| wfv 5 rfl (v_move rfl) gn hns (by kernel_rfl) <| wfv 6 rfl (v_ldB [.string x644, .bool x645, .string x251, .string (⟨#[]⟩ : ByteArray), .int .i64 x646] 3 ld_46 rfl rfl rfl rfl) gn hns (by kernel_rfl) <| wfv 7 rfl (v_idxO slE_22 rfl rfl h686 hb788) gn hns (by kernel_rfl) ?_
         refine wf_all [8] (by kernel_rfl) rfl ⟨on_l 8 rfl gn rfl (s_stF (enc := enc_api_PatNode) (o := 0) (z := (⟨x644, x645, x251, (⟨#[]⟩ : ByteArray), x646⟩ : api_PatNode)) (vs := [.string x644, .bool x645, .string x251, .string (⟨#[]⟩ : ByteArray), .int .i64 x646]) (i := (x152.length : Int)) 0 hl_api_PatNode sz_46 rfl rfl rfl rfl rfl h686 hb788 rfl rfl rfl hv790 fun h793 => ?_), trivial⟩
         unfold NxL
         refine wf_end (by kernel_rfl) ?_
         refine g_endR [] Try.func10 rfl (.nil) fun wr hLr => ?_
         have hMr := hLr.pkI (.c 2 rfl (.c 0 rfl (.c 1 rfl .n))) (.c 3 rfl .n) (by kernel_rfl) (.c 6 rfl .n)
         have hMi := hLr.selI (.c 2 rfl (.c 0 rfl (.c 1 rfl .n)))
         show trellisref20_Reader_pattern_R w F g2 Tb3 A8 n9 c10 z12 A14 n15 c16 z18 r (.returned (packV [])) wr
         rw [h]
         exact ⟨A683, n684, c685, A688, n689, c690, A675, n676, c677, rfl, hMr, h793, h691, (hLr.outR (s := Sm w.heap.size F sw678 sb679) hMi (me 0 rfl) Sm.ok h680)⟩
       refine g_region rfl rfl <| wl_v 0 rfl (v_move rfl) gn rfl <| wl_v 1 rfl (v_nilCheck rfl) gn rfl <| wl_v 2 rfl (v_fldB fo_38_3 rfl) gn rfl <| wl_v 3 rfl (v_ldB1 2 ld_26 rfl rfl rfl) gn rfl <| wl_v 4 rfl (v_bin rfl rfl rfl) gn rfl <| wl_v 5 rfl (v_move rfl) gn rfl ?_
       by_cases hp794 : x642 = 0
       ·have h := if_pos' hp794 h
        refine w_bool 186 rfl ((eqi hp794)) <| wl_v 6 rfl (v_move rfl) (gy 186 rfl rfl) rfl <| wl_v 7 rfl (v_move rfl) (gy 186 rfl rfl) rfl <| wl_v 8 rfl (v_nilCheck rfl) (gy 186 rfl rfl) rfl <| wl_v 9 rfl (v_fldB fo_38_1 rfl) (gy 186 rfl rfl) rfl <| wl_v 10 rfl (v_ldB1 2 ld_3 rfl rfl rfl) (gy 186 rfl rfl) rfl ?_
        obtain ⟨r798, hv799, h⟩ := h
        refine wl_s 11 rfl (s_call [.pointer (some ⟨g2, 0, none⟩), .int .i64 x631, .int .i64 5, .string (⟨#[64]⟩ : ByteArray)] rfl Try.func18 rfl rfl rfl fun w795 hL796 => ?_) (gy 186 rfl rfl)
        have hp797 := pmI hL796 (.c 2 rfl (.c 0 rfl (.c 1 rfl .n))) (.c 3 rfl .n) (by kernel_rfl)
        refine Calls.mono (trellisref20_Reader_sees_calls w795 (Fl ([Sm w.heap.size F sw628 sb629] : List Snap)) (⟨x624, x631, (⟨x632, x637⟩ : api_Query), x642, x643⟩ : trellisref20_Reader) x631 5 (⟨#[64]⟩ : ByteArray) g2 Tb3 A625 n626 c627 z12 A633 n634 c635 z18 A638 n639 c640 (Rw.mono h630 (hL796.toFl (me 0 rfl) (me 0 rfl))) (Nat.le_trans hz13 hL796.env.size) h636 (Nat.le_trans hz19 hL796.env.size) h641 (hL796.hFl hp797 (sels [0] rfl)) (hL796.into hp797 _) r798 hv799) ?_
        rintro _ w814 ⟨A804, n805, c806, A809, n810, c811, A800, n801, c802, rfl, hM815, h807, h812, h803⟩
        obtain ⟨sb818, hL816, hv817⟩ := hL796.callB (Sl := ([Sm w.heap.size F sw628 sb629] : List Snap)) hp797 hM815 F (sels [0] rfl) ⟨Sm.ok, trivial⟩
        have h803 : At k_api_Word (Sm w.heap.size F w814 sb818) A800 n801 c802 r798.2.l := Rw.mono h803 hv817
        refine ⟨_, _, _, rfl, hL816, ?_⟩
        refine wl_v 12 rfl (v_pick (b := true) rfl rfl) gn rfl <| w_end 13 rfl <| g_front 3 rfl <| g_front 1 rfl <| g_front 3 rfl <| g_front 3 rfl ?_
        exact g_go [0, 1, 2, 3, 4, 5, 6] (j5 r798.1 r798.2.l r798.2.at_ r798.2.q.nodes r798.2.q.conds r798.2.e r798.2.pos h A800 n801 c802 w814 sb818 h803 A804 n805 c806 h807 A809 n810 c811 h812) ⟨rfl, rfl, rfl, rfl, trivial⟩ (.cons_cons _ (.cons_cons _ (.cons_cons _ (.cons_cons _ (.slnil))))) rfl
       ·have h := if_neg' hp794 h
        refine w_bool 186 rfl ((nei hp794)) <| wl_pass 6 rfl (ps 186 rfl rfl rfl) <| wl_pass 7 rfl (ps 186 rfl rfl rfl) <| wl_pass 8 rfl (ps 186 rfl rfl rfl) <| wl_pass 9 rfl (ps 186 rfl rfl rfl) <| wl_pass 10 rfl (ps 186 rfl rfl rfl) <| wl_pass 11 rfl (ps 186 rfl rfl rfl) <| wl_v 12 rfl (v_pick (b := false) rfl rfl) gn rfl <| w_end 13 rfl ?_
        exact g_go [0, 0, 1, 2, 3, 4, 5] (j5 false x624 x631 x632 x637 x642 x643 h A625 n626 c627 sw628 sb629 h630 A633 n634 c635 h636 A638 n639 c640 h641) ⟨rfl, rfl, rfl, rfl, trivial⟩ (.cons_cons _ (.cons_cons _ (.cons_cons _ (.cons_cons _ (.slnil))))) rfl
      by_cases hp277 : r256.1 = true
      ·have h := if_pos' hp277 h
       refine g_true rfl _ rfl (hp277) <| g_seq rfl <| g_region rfl rfl <| wl_v 0 rfl (v_fldB fo_46_1 rfl) gn rfl ?_
       refine wl_s 1 rfl (s_stB (vs := [.bool true]) (cs' := [.string (⟨#[]⟩ : ByteArray), .bool true, .string x251, .string (⟨#[]⟩ : ByteArray), .int .i64 0]) (M' := [.box g2 Tb3 [.slice A258 n259 c260, .int .i64 r256.2.at_, .slice A262 n263 c264, .slice A267 n268 c269, .int .i64 r256.2.e, .int .i64 r256.2.pos], .own (.slice A262 n263 c264) 46 5 n263 (r256.2.q.nodes.flatMap enc_api_PatNode), .own (.slice A267 n268 c269) 48 4 n268 (r256.2.q.conds.flatMap enc_api_Cond), .box gb214 46 [.string (⟨#[]⟩ : ByteArray), .bool true, .string x251, .string (⟨#[]⟩ : ByteArray), .int .i64 0]]) 3 sz_4 rfl rfl rfl rfl rfl rfl rfl rfl rfl ?_) gn
       refine w_end 2 rfl <| g_seq rfl ?_
       obtain ⟨hb819, h⟩ := h
       have hns : Region.noSelect (Code.ops q10c41) = true := by kernel_rfl
       refine g_drawG [12] 13 rfl rfl mix rfl (.c 0 rfl (.c 1 rfl (.c 2 rfl (.c 3 rfl (.c 4 rfl .n))))) <| wfv 0 rfl (v_move rfl) gn hns (by kernel_rfl) <| wfv 1 rfl (v_nilCheck rfl) gn hns (by kernel_rfl) <| wfv 2 rfl (v_fldB fo_38_0 rfl) gn hns (by kernel_rfl) <| wfv 3 rfl (v_ldB1 0 ld_33 rfl rfl rfl) gn hns (by kernel_rfl) <| wfv 4 rfl (v_move rfl) gn hns (by kernel_rfl) <| wfv 5 rfl (v_nilCheck rfl) gn hns (by kernel_rfl) <| wfv 6 rfl (v_fldB fo_38_1 rfl) gn hns (by kernel_rfl) <| wfv 7 rfl (v_ldB1 0 ld_3 rfl rfl rfl) gn hns (by kernel_rfl) ?_
       have hr822 := Rw.readF (s := Sm w.heap.size F w272 sb276) (hl := hl_api_Word) (h1 := h1_api_Word) h261 hb819
       refine wfv 8 rfl (v_idxR (s := Sm w.heap.size F w272 sb276) slE_33 rfl rfl h261 hb819) gn hns (by kernel_rfl) <| wfv 9 rfl (v_fldA fo_41_1 rfl) gn hns (by kernel_rfl) <| wfv 10 rfl (v_ldA1 (kk := (r256.2.at_ : Int).toNat * 4) (j := 1) (Sm w.heap.size F w272 sb276) ld_9 rfl hr822 rfl (me 0 rfl)) gn hns (by kernel_rfl) <| wfv 11 rfl (v_fldB fo_46_0 rfl) gn hns (by kernel_rfl) ?_
       refine wf_all [12] (by kernel_rfl) rfl ⟨on_l 12 rfl gn rfl (s_stB (vs := [.string ((ix r256.2.l r256.2.at_).text)]) (cs' := [.string ((ix r256.2.l r256.2.at_).text), .bool true, .string x251, .string (⟨#[]⟩ : ByteArray), .int .i64 0]) (M' := [.box g2 Tb3 [.slice A258 n259 c260, .int .i64 r256.2.at_, .slice A262 n263 c264, .slice A267 n268 c269, .int .i64 r256.2.e, .int .i64 r256.2.pos], .own (.slice A262 n263 c264) 46 5 n263 (r256.2.q.nodes.flatMap enc_api_PatNode), .own (.slice A267 n268 c269) 48 4 n268 (r256.2.q.conds.flatMap enc_api_Cond), .box gb214 46 [.string ((ix r256.2.l r256.2.at_).text), .bool true, .string x251, .string (⟨#[]⟩ : ByteArray), .int .i64 0]]) 3 sz_9 rfl rfl rfl rfl rfl rfl rfl rfl rfl ?_), trivial⟩
       unfold NxL
       refine wf_end (by kernel_rfl) <| g_region rfl rfl <| wl_v 0 rfl (v_move rfl) gn rfl <| wl_v 1 rfl (v_nilCheck rfl) gn rfl <| wl_v 2 rfl (v_fldB fo_38_1 rfl) gn rfl <| wl_v 3 rfl (v_ldB1 0 ld_3 rfl rfl rfl) gn rfl <| wl_v 4 rfl (v_bin rfl rfl rfl) gn rfl <| wl_v 5 rfl (v_nilCheck rfl) gn rfl <| wl_v 6 rfl (v_fldB fo_38_1 rfl) gn rfl ?_
       refine wl_s 7 rfl (s_stB (vs := [.int .i64 (w64 (r256.2.at_ + 1))]) (cs' := [.slice A258 n259 c260, .int .i64 (w64 (r256.2.at_ + 1)), .slice A262 n263 c264, .slice A267 n268 c269, .int .i64 r256.2.e, .int .i64 r256.2.pos]) (M' := [.box g2 Tb3 [.slice A258 n259 c260, .int .i64 (w64 (r256.2.at_ + 1)), .slice A262 n263 c264, .slice A267 n268 c269, .int .i64 r256.2.e, .int .i64 r256.2.pos], .own (.slice A262 n263 c264) 46 5 n263 (r256.2.q.nodes.flatMap enc_api_PatNode), .own (.slice A267 n268 c269) 48 4 n268 (r256.2.q.conds.flatMap enc_api_Cond), .box gb214 46 [.string ((ix r256.2.l r256.2.at_).text), .bool true, .string x251, .string (⟨#[]⟩ : ByteArray), .int .i64 0]]) 0 sz_3 rfl rfl rfl rfl rfl rfl rfl rfl rfl ?_) gn
       refine w_end 8 rfl <| g_front 3 rfl <| g_front 1 rfl <| g_front 3 rfl <| g_front 3 rfl ?_
       exact g_go [0, 0, 1, 2, 3, 4] (j4 r256.2.l (w64 (r256.2.at_ + 1)) r256.2.q.nodes r256.2.q.conds r256.2.e r256.2.pos ((ix r256.2.l r256.2.at_).text) true 0 h A258 n259 c260 w272 sb276 h261 A262 n263 c264 h265 A267 n268 c269 h270) ⟨rfl, rfl, rfl, trivial⟩ (.cons_cons _ (.cons_cons _ (.cons_cons _ (.cons_cons _ (.slnil))))) rfl
      ·have h := if_neg' hp277 h
       refine g_false rfl _ rfl ((bf hp277)) <| g_seq rfl <| g_region rfl rfl <| wl_v 0 rfl (v_move rfl) gn rfl ?_
       obtain ⟨r826, hv827, h⟩ := h
       refine wl_s 1 rfl (s_call [.pointer (some ⟨g2, 0, none⟩), .int .i64 5, .string (⟨#[40]⟩ : ByteArray)] rfl Try.func21 rfl rfl rfl fun w823 hL824 => ?_) gn
       have hp825 := pmI hL824 (.c 0 rfl (.c 1 rfl (.c 2 rfl .n))) (.c 3 rfl .n) (by kernel_rfl)
       refine Calls.mono (trellisref20_Reader_take_calls w823 (Fl ([Sm w.heap.size F w272 sb276] : List Snap)) r256.2 5 (⟨#[40]⟩ : ByteArray) g2 Tb3 A258 n259 c260 z12 A262 n263 c264 z18 A267 n268 c269 (Rw.mono h261 (hL824.toFl (me 0 rfl) (me 0 rfl))) (Nat.le_trans hz13 hL824.env.size) h265 (Nat.le_trans hz19 hL824.env.size) h270 (hL824.hFl hp825 (sels [0] rfl)) (hL824.into hp825 _) r826 hv827) ?_
       rintro _ w842 ⟨A832, n833, c834, A837, n838, c839, A828, n829, c830, rfl, hM843, h835, h840, h831⟩
       obtain ⟨sb846, hL844, hv845⟩ := hL824.callB (Sl := ([Sm w.heap.size F w272 sb276] : List Snap)) hp825 hM843 F (sels [0] rfl) ⟨Sm.ok, trivial⟩
       have h831 : At k_api_Word (Sm w.heap.size F w842 sb846) A828 n829 c830 r826.l := Rw.mono h831 hv845
       refine ⟨_, _, _, rfl, hL844, ?_⟩
       refine w_end 2 rfl <| g_seq rfl <| g_seq rfl ?_
       have j6 : ∀ (x873 : Bool) (x874 : List api_Word) (x881 : Int) (x882 : List api_PatNode) (x887 : List api_Cond) (x892 : Int) (x893 : Int) (h : trellisref20_Reader_pattern_j6 x152 x251 rc_trellisref20_Reader_pattern x873 x874 x881 x882 x887 x892 x893 r) (A875 : Option Addr) (n876 : Nat) (c877 : Nat) (sw878 : World) (sb879 : List (List Nat)) (h880 : At k_api_Word (Sm w.heap.size F sw878 sb879) A875 n876 c877 x874) (A883 : Option Addr) (n884 : Nat) (c885 : Nat) (h886 : Ow z12 A883 n884 c885 x882) (A888 : Option Addr) (n889 : Nat) (c890 : Nat) (h891 : Ow z18 A888 n889 c890 x887), G (trellisref20_Reader_pattern_C w F g2 Tb3 A8 n9 c10 z12 A14 n15 c16 z18 r) [.code q10c48, .code q10c46, .code q10c34] [(0, .pointer (some ⟨g2, 0, none⟩)), (3, .int .i64 (x152.length : Int)), (4, .pointer (some ⟨gb214, 0, none⟩)), (138, .bool x873)] [.own (.slice A883 n884 c885) 46 5 n884 (x882.flatMap enc_api_PatNode), .own (.slice A888 n889 c890) 48 4 n889 (x887.flatMap enc_api_Cond), .box g2 Tb3 [.slice A875 n876 c877, .int .i64 x881, .slice A883 n884 c885, .slice A888 n889 c890, .int .i64 x892, .int .i64 x893], .box gb214 46 [.string (⟨#[]⟩ : ByteArray), .bool false, .string x251, .string (⟨#[]⟩ : ByteArray), .int .i64 0]] [Sm w.heap.size F sw878 sb879, Sm w.heap.size F w842 sb846, Sm w.heap.size F w272 sb276, Sm w.heap.size F sw148 sb149, Sm w.heap.size F sw76 sb77, Sm w.heap.size F w [[g2], (Value.slice A8 n9 c10).ownBlock.toList, (Value.slice A14 n15 c16).ownBlock.toList], St w [[g2], (Value.slice A8 n9 c10).ownBlock.toList, (Value.slice A14 n15 c16).ownBlock.toList]] := by
        intro x873 x874 x881 x882 x887 x892 x893 h A875 n876 c877 sw878 sb879 h880 A883 n884 c885 h886 A888 n889 c890 h891
        unfold trellisref20_Reader_pattern_j6 at h
        have j7 : ∀ (x921 : List api_Word) (x928 : Int) (x929 : List api_PatNode) (x934 : List api_Cond) (x939 : Int) (x940 : Int) (x941 : ByteArray) (h : trellisref20_Reader_pattern_j7 x152 x251 rc_trellisref20_Reader_pattern x921 x928 x929 x934 x939 x940 x941 r) (A922 : Option Addr) (n923 : Nat) (c924 : Nat) (sw925 : World) (sb926 : List (List Nat)) (h927 : At k_api_Word (Sm w.heap.size F sw925 sb926) A922 n923 c924 x921) (A930 : Option Addr) (n931 : Nat) (c932 : Nat) (h933 : Ow z12 A930 n931 c932 x929) (A935 : Option Addr) (n936 : Nat) (c937 : Nat) (h938 : Ow z18 A935 n936 c937 x934), G (trellisref20_Reader_pattern_C w F g2 Tb3 A8 n9 c10 z12 A14 n15 c16 z18 r) [.code q10c46, .code q10c34] [(0, .pointer (some ⟨g2, 0, none⟩)), (3, .int .i64 (x152.length : Int)), (4, .pointer (some ⟨gb214, 0, none⟩))] [.own (.slice A930 n931 c932) 46 5 n931 (x929.flatMap enc_api_PatNode), .own (.slice A935 n936 c937) 48 4 n936 (x934.flatMap enc_api_Cond), .box g2 Tb3 [.slice A922 n923 c924, .int .i64 x928, .slice A930 n931 c932, .slice A935 n936 c937, .int .i64 x939, .int .i64 x940], .box gb214 46 [.string x941, .bool false, .string x251, .string (⟨#[]⟩ : ByteArray), .int .i64 0]] [Sm w.heap.size F sw925 sb926, Sm w.heap.size F sw878 sb879, Sm w.heap.size F w842 sb846, Sm w.heap.size F w272 sb276, Sm w.heap.size F sw148 sb149, Sm w.heap.size F sw76 sb77, Sm w.heap.size F w [[g2], (Value.slice A8 n9 c10).ownBlock.toList, (Value.slice A14 n15 c16).ownBlock.toList], St w [[g2], (Value.slice A8 n9 c10).ownBlock.toList, (Value.slice A14 n15 c16).ownBlock.toList]] := by
         intro x921 x928 x929 x934 x939 x940 x941 h A922 n923 c924 sw925 sb926 h927 A930 n931 c932 h933 A935 n936 c937 h938
         unfold trellisref20_Reader_pattern_j7 at h
         refine g_seq rfl <| g_block rfl <| g_loop rfl ?_
         have key8 : ∀ s, Rounds (fun (s : (List api_Word) × Int × (List api_PatNode) × (List api_Cond) × Int × Int × Int) o => trellisref20_Reader_pattern_b8 x152 x251 x941 rc_trellisref20_Reader_pattern s.1 s.2.1 s.2.2.1 s.2.2.2.1 s.2.2.2.2.1 s.2.2.2.2.2.1 s.2.2.2.2.2.2 o) s r → (fun (s : (List api_Word) × Int × (List api_PatNode) × (List api_Cond) × Int × Int × Int) => ∀ (A998 : Option Addr) (n999 : Nat) (c1000 : Nat) (sw1001 : World) (sb1002 : List (List Nat)) (h1003 : At k_api_Word (Sm w.heap.size F sw1001 sb1002) A998 n999 c1000 s.1) (A1006 : Option Addr) (n1007 : Nat) (c1008 : Nat) (h1009 : Ow z12 A1006 n1007 c1008 s.2.2.1) (A1011 : Option Addr) (n1012 : Nat) (c1013 : Nat) (h1014 : Ow z18 A1011 n1012 c1013 s.2.2.2.1), G (trellisref20_Reader_pattern_C w F g2 Tb3 A8 n9 c10 z12 A14 n15 c16 z18 r) [.code q10c58, .inLoop q10c58, .inBlock 0, .code q10c56, .code q10c34] [(0, .pointer (some ⟨g2, 0, none⟩)), (3, .int .i64 (x152.length : Int)), (4, .pointer (some ⟨gb214, 0, none⟩))] [.own (.slice A1006 n1007 c1008) 46 5 n1007 (s.2.2.1.flatMap enc_api_PatNode), .own (.slice A1011 n1012 c1013) 48 4 n1012 (s.2.2.2.1.flatMap enc_api_Cond), .box g2 Tb3 [.slice A998 n999 c1000, .int .i64 s.2.1, .slice A1006 n1007 c1008, .slice A1011 n1012 c1013, .int .i64 s.2.2.2.2.1, .int .i64 s.2.2.2.2.2.1], .box gb214 46 [.string x941, .bool false, .string x251, .string (⟨#[]⟩ : ByteArray), .int .i64 s.2.2.2.2.2.2]] [Sm w.heap.size F sw1001 sb1002, Sm w.heap.size F sw925 sb926, Sm w.heap.size F sw878 sb879, Sm w.heap.size F w842 sb846, Sm w.heap.size F w272 sb276, Sm w.heap.size F sw148 sb149, Sm w.heap.size F sw76 sb77, Sm w.heap.size F w [[g2], (Value.slice A8 n9 c10).ownBlock.toList, (Value.slice A14 n15 c16).ownBlock.toList], St w [[g2], (Value.slice A8 n9 c10).ownBlock.toList, (Value.slice A14 n15 c16).ownBlock.toList]]) s := by
          intro s hs
          refine Rounds.ind (mot := (fun (s : (List api_Word) × Int × (List api_PatNode) × (List api_Cond) × Int × Int × Int) => ∀ (A998 : Option Addr) (n999 : Nat) (c1000 : Nat) (sw1001 : World) (sb1002 : List (List Nat)) (h1003 : At k_api_Word (Sm w.heap.size F sw1001 sb1002) A998 n999 c1000 s.1) (A1006 : Option Addr) (n1007 : Nat) (c1008 : Nat) (h1009 : Ow z12 A1006 n1007 c1008 s.2.2.1) (A1011 : Option Addr) (n1012 : Nat) (c1013 : Nat) (h1014 : Ow z18 A1011 n1012 c1013 s.2.2.2.1), G (trellisref20_Reader_pattern_C w F g2 Tb3 A8 n9 c10 z12 A14 n15 c16 z18 r) [.code q10c58, .inLoop q10c58, .inBlock 0, .code q10c56, .code q10c34] [(0, .pointer (some ⟨g2, 0, none⟩)), (3, .int .i64 (x152.length : Int)), (4, .pointer (some ⟨gb214, 0, none⟩))] [.own (.slice A1006 n1007 c1008) 46 5 n1007 (s.2.2.1.flatMap enc_api_PatNode), .own (.slice A1011 n1012 c1013) 48 4 n1012 (s.2.2.2.1.flatMap enc_api_Cond), .box g2 Tb3 [.slice A998 n999 c1000, .int .i64 s.2.1, .slice A1006 n1007 c1008, .slice A1011 n1012 c1013, .int .i64 s.2.2.2.2.1, .int .i64 s.2.2.2.2.2.1], .box gb214 46 [.string x941, .bool false, .string x251, .string (⟨#[]⟩ : ByteArray), .int .i64 s.2.2.2.2.2.2]] [Sm w.heap.size F sw1001 sb1002, Sm w.heap.size F sw925 sb926, Sm w.heap.size F sw878 sb879, Sm w.heap.size F w842 sb846, Sm w.heap.size F w272 sb276, Sm w.heap.size F sw148 sb149, Sm w.heap.size F sw76 sb77, Sm w.heap.size F w [[g2], (Value.slice A8 n9 c10).ownBlock.toList, (Value.slice A14 n15 c16).ownBlock.toList], St w [[g2], (Value.slice A8 n9 c10).ownBlock.toList, (Value.slice A14 n15 c16).ownBlock.toList]])) ?_ hs
          clear hs s
          intro s o1 h hO1
          obtain ⟨x997, x1004, x1005, x1010, x1015, x1016, x1017⟩ := s
          show ∀ (A998 : Option Addr) (n999 : Nat) (c1000 : Nat) (sw1001 : World) (sb1002 : List (List Nat)) (h1003 : At k_api_Word (Sm w.heap.size F sw1001 sb1002) A998 n999 c1000 x997) (A1006 : Option Addr) (n1007 : Nat) (c1008 : Nat) (h1009 : Ow z12 A1006 n1007 c1008 x1005) (A1011 : Option Addr) (n1012 : Nat) (c1013 : Nat) (h1014 : Ow z18 A1011 n1012 c1013 x1010), G (trellisref20_Reader_pattern_C w F g2 Tb3 A8 n9 c10 z12 A14 n15 c16 z18 r) [.code q10c58, .inLoop q10c58, .inBlock 0, .code q10c56, .code q10c34] [(0, .pointer (some ⟨g2, 0, none⟩)), (3, .int .i64 (x152.length : Int)), (4, .pointer (some ⟨gb214, 0, none⟩))] [.own (.slice A1006 n1007 c1008) 46 5 n1007 (x1005.flatMap enc_api_PatNode), .own (.slice A1011 n1012 c1013) 48 4 n1012 (x1010.flatMap enc_api_Cond), .box g2 Tb3 [.slice A998 n999 c1000, .int .i64 x1004, .slice A1006 n1007 c1008, .slice A1011 n1012 c1013, .int .i64 x1015, .int .i64 x1016], .box gb214 46 [.string x941, .bool false, .string x251, .string (⟨#[]⟩ : ByteArray), .int .i64 x1017]] [Sm w.heap.size F sw1001 sb1002, Sm w.heap.size F sw925 sb926, Sm w.heap.size F sw878 sb879, Sm w.heap.size F w842 sb846, Sm w.heap.size F w272 sb276, Sm w.heap.size F sw148 sb149, Sm w.heap.size F sw76 sb77, Sm w.heap.size F w [[g2], (Value.slice A8 n9 c10).ownBlock.toList, (Value.slice A14 n15 c16).ownBlock.toList], St w [[g2], (Value.slice A8 n9 c10).ownBlock.toList, (Value.slice A14 n15 c16).ownBlock.toList]]
          intro A998 n999 c1000 sw1001 sb1002 h1003 A1006 n1007 c1008 h1009 A1011 n1012 c1013 h1014
          have h : trellisref20_Reader_pattern_b8 x152 x251 x941 rc_trellisref20_Reader_pattern x997 x1004 x1005 x1010 x1015 x1016 x1017 o1 := h
          unfold trellisref20_Reader_pattern_b8 at h
          refine g_seq rfl <| g_seq rfl <| g_region rfl rfl <| wl_v 0 rfl (v_move rfl) gn rfl <| wl_v 1 rfl (v_nilCheck rfl) gn rfl <| wl_v 2 rfl (v_fldB fo_38_3 rfl) gn rfl <| wl_v 3 rfl (v_ldB1 2 ld_26 rfl rfl rfl) gn rfl <| wl_v 4 rfl (v_bin rfl rfl rfl) gn rfl <| wl_v 5 rfl (v_move rfl) gn rfl ?_
          by_cases hp1072 : x1015 = 0
          ·have h := if_pos' hp1072 h
           refine w_bool 159 rfl ((eqi hp1072)) <| wl_v 6 rfl (v_move rfl) (gy 159 rfl rfl) rfl <| wl_v 7 rfl (v_move rfl) (gy 159 rfl rfl) rfl <| wl_v 8 rfl (v_nilCheck rfl) (gy 159 rfl rfl) rfl <| wl_v 9 rfl (v_fldB fo_38_1 rfl) (gy 159 rfl rfl) rfl <| wl_v 10 rfl (v_ldB1 2 ld_3 rfl rfl rfl) (gy 159 rfl rfl) rfl ?_
           obtain ⟨r1076, hv1077, h⟩ := h
           refine wl_s 11 rfl (s_call [.pointer (some ⟨g2, 0, none⟩), .int .i64 x1004, .int .i64 5, .string (⟨#[41]⟩ : ByteArray)] rfl Try.func18 rfl rfl rfl fun w1073 hL1074 => ?_) (gy 159 rfl rfl)
           have hp1075 := pmI hL1074 (.c 2 rfl (.c 0 rfl (.c 1 rfl .n))) (.c 3 rfl .n) (by kernel_rfl)
           refine Calls.mono (trellisref20_Reader_sees_calls w1073 (Fl ([Sm w.heap.size F sw1001 sb1002] : List Snap)) (⟨x997, x1004, (⟨x1005, x1010⟩ : api_Query), x1015, x1016⟩ : trellisref20_Reader) x1004 5 (⟨#[41]⟩ : ByteArray) g2 Tb3 A998 n999 c1000 z12 A1006 n1007 c1008 z18 A1011 n1012 c1013 (Rw.mono h1003 (hL1074.toFl (me 0 rfl) (me 0 rfl))) (Nat.le_trans hz13 hL1074.env.size) h1009 (Nat.le_trans hz19 hL1074.env.size) h1014 (hL1074.hFl hp1075 (sels [0] rfl)) (hL1074.into hp1075 _) r1076 hv1077) ?_
           rintro _ w1092 ⟨A1082, n1083, c1084, A1087, n1088, c1089, A1078, n1079, c1080, rfl, hM1093, h1085, h1090, h1081⟩
           obtain ⟨sb1096, hL1094, hv1095⟩ := hL1074.callB (Sl := ([Sm w.heap.size F sw1001 sb1002] : List Snap)) hp1075 hM1093 F (sels [0] rfl) ⟨Sm.ok, trivial⟩
           have h1081 : At k_api_Word (Sm w.heap.size F w1092 sb1096) A1078 n1079 c1080 r1076.2.l := Rw.mono h1081 hv1095
           refine ⟨_, _, _, rfl, hL1094, ?_⟩
           refine wl_v 12 rfl (v_not rfl) (gy 159 rfl rfl) rfl <| wl_v 13 rfl (v_pick (b := true) rfl rfl) gn rfl <| w_end 14 rfl ?_
           by_cases hp1097 : r1076.1 = true
           ·have h := if_pos' hp1097 h
            refine g_false rfl _ rfl ((nf hp1097)) <| g_exit [.code q10c56, .code q10c34] rfl rfl <| g_region rfl rfl <| wl_v 0 rfl (v_move rfl) gn rfl <| wl_v 1 rfl (v_nilCheck rfl) gn rfl <| wl_v 2 rfl (v_fldB fo_38_1 rfl) gn rfl <| wl_v 3 rfl (v_ldB1 0 ld_3 rfl rfl rfl) gn rfl <| wl_v 4 rfl (v_bin rfl rfl rfl) gn rfl <| wl_v 5 rfl (v_nilCheck rfl) gn rfl <| wl_v 6 rfl (v_fldB fo_38_1 rfl) gn rfl ?_
            refine wl_s 7 rfl (s_stB (vs := [.int .i64 (w64 (r1076.2.at_ + 1))]) (cs' := [.slice A1078 n1079 c1080, .int .i64 (w64 (r1076.2.at_ + 1)), .slice A1082 n1083 c1084, .slice A1087 n1088 c1089, .int .i64 r1076.2.e, .int .i64 r1076.2.pos]) (M' := [.box g2 Tb3 [.slice A1078 n1079 c1080, .int .i64 (w64 (r1076.2.at_ + 1)), .slice A1082 n1083 c1084, .slice A1087 n1088 c1089, .int .i64 r1076.2.e, .int .i64 r1076.2.pos], .own (.slice A1082 n1083 c1084) 46 5 n1083 (r1076.2.q.nodes.flatMap enc_api_PatNode), .own (.slice A1087 n1088 c1089) 48 4 n1088 (r1076.2.q.conds.flatMap enc_api_Cond), .box gb214 46 [.string x941, .bool false, .string x251, .string (⟨#[]⟩ : ByteArray), .int .i64 x1017]]) 0 sz_3 rfl rfl rfl rfl rfl rfl rfl rfl rfl ?_) gn
            refine w_end 8 rfl ?_
            obtain ⟨q1098, hq1099, h⟩ := h
            have hq1099 := Out.inr hO1 hq1099
            rw [← hq1099] at h
            refine g_front 3 rfl <| g_front 1 rfl <| g_front 3 rfl <| g_front 3 rfl ?_
            exact g_go [0, 5, 6, 7, 8, 9] (j4 r1076.2.l (w64 (r1076.2.at_ + 1)) r1076.2.q.nodes r1076.2.q.conds r1076.2.e r1076.2.pos x941 false x1017 h A1078 n1079 c1080 w1092 sb1096 h1081 A1082 n1083 c1084 h1085 A1087 n1088 c1089 h1090) ⟨rfl, rfl, rfl, trivial⟩ (.cons_cons _ (.cons_cons _ (.cons_cons _ (.cons_cons _ (.slnil))))) rfl
           ·have h := if_neg' hp1097 h
            refine g_true rfl _ rfl ((nt (bf hp1097))) <| g_skip rfl <| g_block rfl <| g_seq rfl <| g_region rfl rfl <| wl_v 0 rfl (v_move rfl) gn rfl ?_
            obtain ⟨r1103, hv1104, h⟩ := h
            refine wl_s 1 rfl (s_call [.pointer (some ⟨g2, 0, none⟩)] rfl Try.func10 rfl rfl rfl fun w1100 hL1101 => ?_) gn
            have hp1102 := pmI hL1101 (.c 0 rfl (.c 1 rfl (.c 2 rfl .n))) (.c 3 rfl .n) (by kernel_rfl)
            refine Calls.mono (ih_trellisref20_Reader_pattern w1100 (Fl ([Sm w.heap.size F w1092 sb1096] : List Snap)) r1076.2 g2 Tb3 A1078 n1079 c1080 z12 A1082 n1083 c1084 z18 A1087 n1088 c1089 (Rw.mono h1081 (hL1101.toFl (me 0 rfl) (me 0 rfl))) (Nat.le_trans hz13 hL1101.env.size) h1085 (Nat.le_trans hz19 hL1101.env.size) h1090 (hL1101.hFl hp1102 (sels [0] rfl)) (hL1101.into hp1102 _) r1103 hv1104) ?_
            rintro _ w1119 ⟨A1109, n1110, c1111, A1114, n1115, c1116, A1105, n1106, c1107, rfl, hM1120, h1112, h1117, h1108⟩
            obtain ⟨sb1123, hL1121, hv1122⟩ := hL1101.callB (Sl := ([Sm w.heap.size F w1092 sb1096] : List Snap)) hp1102 hM1120 F (sels [0] rfl) ⟨Sm.ok, trivial⟩
            have h1108 : At k_api_Word (Sm w.heap.size F w1119 sb1123) A1105 n1106 c1107 r1103.l := Rw.mono h1108 hv1122
            refine ⟨_, _, _, rfl, hL1121, ?_⟩
            refine w_end 2 rfl <| g_region rfl rfl <| wl_v 0 rfl (v_fldB fo_46_4 rfl) gn rfl <| wl_v 1 rfl (v_ldB1 3 ld_3 rfl rfl rfl) gn rfl <| wl_v 2 rfl (v_bin rfl rfl rfl) gn rfl <| wl_v 3 rfl (v_fldB fo_46_4 rfl) gn rfl ?_
            refine wl_s 4 rfl (s_stB (vs := [.int .i64 (w64 (x1017 + 1))]) (cs' := [.string x941, .bool false, .string x251, .string (⟨#[]⟩ : ByteArray), .int .i64 (w64 (x1017 + 1))]) (M' := [.box g2 Tb3 [.slice A1105 n1106 c1107, .int .i64 r1103.at_, .slice A1109 n1110 c1111, .slice A1114 n1115 c1116, .int .i64 r1103.e, .int .i64 r1103.pos], .own (.slice A1109 n1110 c1111) 46 5 n1110 (r1103.q.nodes.flatMap enc_api_PatNode), .own (.slice A1114 n1115 c1116) 48 4 n1115 (r1103.q.conds.flatMap enc_api_Cond), .box gb214 46 [.string x941, .bool false, .string x251, .string (⟨#[]⟩ : ByteArray), .int .i64 (w64 (x1017 + 1))]]) 3 sz_3 rfl rfl rfl rfl rfl rfl rfl rfl rfl ?_) gn
            refine w_end 5 rfl <| g_inBlock <| g_inLoop <| g_front 3 rfl <| g_front 1 rfl <| g_front 3 rfl <| g_front 3 rfl ?_
            have ih := Out.inl hO1 h
            exact g_go [0, 3, 4, 5, 6, 7, 8, 9, 10] (ih A1105 n1106 c1107 w1119 sb1123 h1108 A1109 n1110 c1111 h1112 A1114 n1115 c1116 h1117) ⟨rfl, rfl, rfl, trivial⟩ (.cons_cons _ (.cons_cons _ (.cons_cons _ (.cons_cons _ (.slnil))))) rfl
          ·have h := if_neg' hp1072 h
           refine w_bool 159 rfl ((nei hp1072)) <| wl_pass 6 rfl (ps 159 rfl rfl rfl) <| wl_pass 7 rfl (ps 159 rfl rfl rfl) <| wl_pass 8 rfl (ps 159 rfl rfl rfl) <| wl_pass 9 rfl (ps 159 rfl rfl rfl) <| wl_pass 10 rfl (ps 159 rfl rfl rfl) <| wl_pass 11 rfl (ps 159 rfl rfl rfl) <| wl_pass 12 rfl (ps 159 rfl rfl rfl) <| wl_v 13 rfl (v_pick (b := false) rfl rfl) gn rfl <| w_end 14 rfl <| g_false rfl _ rfl (rfl) <| g_exit [.code q10c56, .code q10c34] rfl rfl ?_
           refine g_region rfl rfl <| wl_v 0 rfl (v_move rfl) gn rfl <| wl_v 1 rfl (v_nilCheck rfl) gn rfl <| wl_v 2 rfl (v_fldB fo_38_1 rfl) gn rfl <| wl_v 3 rfl (v_ldB1 2 ld_3 rfl rfl rfl) gn rfl <| wl_v 4 rfl (v_bin rfl rfl rfl) gn rfl <| wl_v 5 rfl (v_nilCheck rfl) gn rfl <| wl_v 6 rfl (v_fldB fo_38_1 rfl) gn rfl ?_
           refine wl_s 7 rfl (s_stB (vs := [.int .i64 (w64 (x1004 + 1))]) (cs' := [.slice A998 n999 c1000, .int .i64 (w64 (x1004 + 1)), .slice A1006 n1007 c1008, .slice A1011 n1012 c1013, .int .i64 x1015, .int .i64 x1016]) (M' := [.own (.slice A1006 n1007 c1008) 46 5 n1007 (x1005.flatMap enc_api_PatNode), .own (.slice A1011 n1012 c1013) 48 4 n1012 (x1010.flatMap enc_api_Cond), .box g2 Tb3 [.slice A998 n999 c1000, .int .i64 (w64 (x1004 + 1)), .slice A1006 n1007 c1008, .slice A1011 n1012 c1013, .int .i64 x1015, .int .i64 x1016], .box gb214 46 [.string x941, .bool false, .string x251, .string (⟨#[]⟩ : ByteArray), .int .i64 x1017]]) 2 sz_3 rfl rfl rfl rfl rfl rfl rfl rfl rfl ?_) gn
           refine w_end 8 rfl ?_
           obtain ⟨q1124, hq1125, h⟩ := h
           have hq1125 := Out.inr hO1 hq1125
           rw [← hq1125] at h
           exact g_go [0, 4, 5, 6, 7, 8] (j4 x997 (w64 (x1004 + 1)) x1005 x1010 x1015 x1016 x941 false x1017 h A998 n999 c1000 sw1001 sb1002 h1003 A1006 n1007 c1008 h1009 A1011 n1012 c1013 h1014) ⟨rfl, rfl, rfl, trivial⟩ (.cons_cons _ (.cons_cons _ (.cons_cons _ (.cons_cons _ (.slnil))))) rfl
         exact g_go [0, 0, 1, 2, 3, 4, 5, 6, 7] (key8 _ h A922 n923 c924 sw925 sb926 h927 A930 n931 c932 h933 A935 n936 c937 h938) ⟨rfl, rfl, rfl, trivial⟩ (.cons_cons _ (.cons_cons _ (.cons_cons _ (.cons_cons _ (.slnil))))) rfl
        by_cases hp894 : x873 = true
        ·have h := if_pos' hp894 h
         refine g_true rfl _ rfl (hp894) <| g_region rfl rfl <| wl_v 0 rfl (v_move rfl) gn rfl <| wl_v 1 rfl (v_nilCheck rfl) gn rfl <| wl_v 2 rfl (v_fldB fo_38_1 rfl) gn rfl <| wl_v 3 rfl (v_ldB1 2 ld_3 rfl rfl rfl) gn rfl <| wl_v 4 rfl (v_bin rfl rfl rfl) gn rfl <| wl_v 5 rfl (v_nilCheck rfl) gn rfl <| wl_v 6 rfl (v_fldB fo_38_1 rfl) gn rfl ?_
         refine wl_s 7 rfl (s_stB (vs := [.int .i64 (w64 (x881 + 1))]) (cs' := [.slice A875 n876 c877, .int .i64 (w64 (x881 + 1)), .slice A883 n884 c885, .slice A888 n889 c890, .int .i64 x892, .int .i64 x893]) (M' := [.own (.slice A883 n884 c885) 46 5 n884 (x882.flatMap enc_api_PatNode), .own (.slice A888 n889 c890) 48 4 n889 (x887.flatMap enc_api_Cond), .box g2 Tb3 [.slice A875 n876 c877, .int .i64 (w64 (x881 + 1)), .slice A883 n884 c885, .slice A888 n889 c890, .int .i64 x892, .int .i64 x893], .box gb214 46 [.string (⟨#[]⟩ : ByteArray), .bool false, .string x251, .string (⟨#[]⟩ : ByteArray), .int .i64 0]]) 2 sz_3 rfl rfl rfl rfl rfl rfl rfl rfl rfl ?_) gn
         refine w_end 8 rfl ?_
         exact g_go [0, 0, 1, 2, 3, 4, 5, 6] (j7 x874 (w64 (x881 + 1)) x882 x887 x892 x893 (⟨#[]⟩ : ByteArray) h A875 n876 c877 sw878 sb879 h880 A883 n884 c885 h886 A888 n889 c890 h891) ⟨rfl, rfl, rfl, trivial⟩ (.cons_cons _ (.cons_cons _ (.cons_cons _ (.cons_cons _ (.slnil))))) rfl
        ·have h := if_neg' hp894 h
         refine g_false rfl _ rfl ((bf hp894)) <| g_seq rfl <| g_region rfl rfl <| wl_v 0 rfl (v_move rfl) gn rfl <| wl_v 1 rfl (v_nilCheck rfl) gn rfl <| wl_v 2 rfl (v_fldB fo_38_3 rfl) gn rfl <| wl_v 3 rfl (v_ldB1 2 ld_26 rfl rfl rfl) gn rfl <| wl_v 4 rfl (v_bin rfl rfl rfl) gn rfl <| w_end 5 rfl ?_
         by_cases hp1126 : x892 = 0
         ·have h := if_pos' hp1126 h
          refine g_true rfl _ rfl ((eqi hp1126)) <| g_region rfl rfl <| wl_v 0 rfl (v_move rfl) gn rfl ?_
          obtain ⟨r1130, hv1131, h⟩ := h
          refine wl_s 1 rfl (s_call [.pointer (some ⟨g2, 0, none⟩)] rfl Try.func22 rfl rfl rfl fun w1127 hL1128 => ?_) gn
          have hp1129 := pmI hL1128 (.c 2 rfl (.c 0 rfl (.c 1 rfl .n))) (.c 3 rfl .n) (by kernel_rfl)
          refine Calls.mono (trellisref20_Reader_takeName_calls w1127 (Fl ([Sm w.heap.size F sw878 sb879] : List Snap)) (⟨x874, x881, (⟨x882, x887⟩ : api_Query), x892, x893⟩ : trellisref20_Reader) g2 Tb3 A875 n876 c877 z12 A883 n884 c885 z18 A888 n889 c890 (Rw.mono h880 (hL1128.toFl (me 0 rfl) (me 0 rfl))) (Nat.le_trans hz13 hL1128.env.size) h886 (Nat.le_trans hz19 hL1128.env.size) h891 (hL1128.hFl hp1129 (sels [0] rfl)) (hL1128.into hp1129 _) r1130 hv1131) ?_
          rintro _ w1146 ⟨A1136, n1137, c1138, A1141, n1142, c1143, A1132, n1133, c1134, rfl, hM1147, h1139, h1144, h1135⟩
          obtain ⟨sb1150, hL1148, hv1149⟩ := hL1128.callB (Sl := ([Sm w.heap.size F sw878 sb879] : List Snap)) hp1129 hM1147 F (sels [0] rfl) ⟨Sm.ok, trivial⟩
          have h1135 : At k_api_Word (Sm w.heap.size F w1146 sb1150) A1132 n1133 c1134 r1130.2.l := Rw.mono h1135 hv1149
          refine ⟨_, _, _, rfl, hL1148, ?_⟩
          refine wl_v 2 rfl (v_fldB fo_46_0 rfl) gn rfl ?_
          refine wl_s 3 rfl (s_stB (vs := [.string r1130.1]) (cs' := [.string r1130.1, .bool false, .string x251, .string (⟨#[]⟩ : ByteArray), .int .i64 0]) (M' := [.box g2 Tb3 [.slice A1132 n1133 c1134, .int .i64 r1130.2.at_, .slice A1136 n1137 c1138, .slice A1141 n1142 c1143, .int .i64 r1130.2.e, .int .i64 r1130.2.pos], .own (.slice A1136 n1137 c1138) 46 5 n1137 (r1130.2.q.nodes.flatMap enc_api_PatNode), .own (.slice A1141 n1142 c1143) 48 4 n1142 (r1130.2.q.conds.flatMap enc_api_Cond), .box gb214 46 [.string r1130.1, .bool false, .string x251, .string (⟨#[]⟩ : ByteArray), .int .i64 0]]) 3 sz_9 rfl rfl rfl rfl rfl rfl rfl rfl rfl ?_) gn
          refine w_end 4 rfl <| g_front 3 rfl <| g_front 1 rfl <| g_front 3 rfl <| g_front 3 rfl ?_
          exact g_go [0, 1, 2, 3, 4, 5, 6, 7] (j7 r1130.2.l r1130.2.at_ r1130.2.q.nodes r1130.2.q.conds r1130.2.e r1130.2.pos r1130.1 h A1132 n1133 c1134 w1146 sb1150 h1135 A1136 n1137 c1138 h1139 A1141 n1142 c1143 h1144) ⟨rfl, rfl, rfl, trivial⟩ (.cons_cons _ (.cons_cons _ (.cons_cons _ (.cons_cons _ (.slnil))))) rfl
         ·have h := if_neg' hp1126 h
          refine g_false rfl _ rfl ((nei hp1126)) <| g_skip rfl ?_
          exact g_go [0, 0, 1, 2, 3, 4, 5, 6] (j7 x874 x881 x882 x887 x892 x893 (⟨#[]⟩ : ByteArray) h A875 n876 c877 sw878 sb879 h880 A883 n884 c885 h886 A888 n889 c890 h891) ⟨rfl, rfl, rfl, trivial⟩ (.cons_cons _ (.cons_cons _ (.cons_cons _ (.cons_cons _ (.slnil))))) rfl
       refine g_region rfl rfl <| wl_v 0 rfl (v_move rfl) gn rfl <| wl_v 1 rfl (v_nilCheck rfl) gn rfl <| wl_v 2 rfl (v_fldB fo_38_3 rfl) gn rfl <| wl_v 3 rfl (v_ldB1 0 ld_26 rfl rfl rfl) gn rfl <| wl_v 4 rfl (v_bin rfl rfl rfl) gn rfl <| wl_v 5 rfl (v_move rfl) gn rfl ?_
       by_cases hp1151 : r826.e = 0
       ·have h := if_pos' hp1151 h
        refine w_bool 131 rfl ((eqi hp1151)) <| wl_v 6 rfl (v_move rfl) (gy 131 rfl rfl) rfl <| wl_v 7 rfl (v_move rfl) (gy 131 rfl rfl) rfl <| wl_v 8 rfl (v_nilCheck rfl) (gy 131 rfl rfl) rfl <| wl_v 9 rfl (v_fldB fo_38_1 rfl) (gy 131 rfl rfl) rfl <| wl_v 10 rfl (v_ldB1 0 ld_3 rfl rfl rfl) (gy 131 rfl rfl) rfl ?_
        obtain ⟨r1155, hv1156, h⟩ := h
        refine wl_s 11 rfl (s_call [.pointer (some ⟨g2, 0, none⟩), .int .i64 r826.at_, .int .i64 1, .string (⟨#[95]⟩ : ByteArray)] rfl Try.func18 rfl rfl rfl fun w1152 hL1153 => ?_) (gy 131 rfl rfl)
        have hp1154 := pmI hL1153 (.c 0 rfl (.c 1 rfl (.c 2 rfl .n))) (.c 3 rfl .n) (by kernel_rfl)
        refine Calls.mono (trellisref20_Reader_sees_calls w1152 (Fl ([Sm w.heap.size F w842 sb846] : List Snap)) r826 r826.at_ 1 (⟨#[95]⟩ : ByteArray) g2 Tb3 A828 n829 c830 z12 A832 n833 c834 z18 A837 n838 c839 (Rw.mono h831 (hL1153.toFl (me 0 rfl) (me 0 rfl))) (Nat.le_trans hz13 hL1153.env.size) h835 (Nat.le_trans hz19 hL1153.env.size) h840 (hL1153.hFl hp1154 (sels [0] rfl)) (hL1153.into hp1154 _) r1155 hv1156) ?_
        rintro _ w1171 ⟨A1161, n1162, c1163, A1166, n1167, c1168, A1157, n1158, c1159, rfl, hM1172, h1164, h1169, h1160⟩
        obtain ⟨sb1175, hL1173, hv1174⟩ := hL1153.callB (Sl := ([Sm w.heap.size F w842 sb846] : List Snap)) hp1154 hM1172 F (sels [0] rfl) ⟨Sm.ok, trivial⟩
        have h1160 : At k_api_Word (Sm w.heap.size F w1171 sb1175) A1157 n1158 c1159 r1155.2.l := Rw.mono h1160 hv1174
        refine ⟨_, _, _, rfl, hL1173, ?_⟩
        refine wl_v 12 rfl (v_pick (b := true) rfl rfl) gn rfl <| w_end 13 rfl <| g_front 3 rfl <| g_front 1 rfl <| g_front 3 rfl <| g_front 3 rfl ?_
        exact g_go [0, 1, 2, 3, 4, 5, 6] (j6 r1155.1 r1155.2.l r1155.2.at_ r1155.2.q.nodes r1155.2.q.conds r1155.2.e r1155.2.pos h A1157 n1158 c1159 w1171 sb1175 h1160 A1161 n1162 c1163 h1164 A1166 n1167 c1168 h1169) ⟨rfl, rfl, rfl, rfl, trivial⟩ (.cons_cons _ (.cons_cons _ (.cons_cons _ (.cons_cons _ (.slnil))))) rfl
       ·have h := if_neg' hp1151 h
        refine w_bool 131 rfl ((nei hp1151)) <| wl_pass 6 rfl (ps 131 rfl rfl rfl) <| wl_pass 7 rfl (ps 131 rfl rfl rfl) <| wl_pass 8 rfl (ps 131 rfl rfl rfl) <| wl_pass 9 rfl (ps 131 rfl rfl rfl) <| wl_pass 10 rfl (ps 131 rfl rfl rfl) <| wl_pass 11 rfl (ps 131 rfl rfl rfl) <| wl_v 12 rfl (v_pick (b := false) rfl rfl) gn rfl <| w_end 13 rfl <| g_front 3 rfl <| g_front 1 rfl <| g_front 3 rfl ?_
        refine g_front 3 rfl ?_
        exact g_go [0, 0, 1, 2, 3, 4, 5] (j6 false r826.l r826.at_ r826.q.nodes r826.q.conds r826.e r826.pos h A828 n829 c830 w842 sb846 h831 A832 n833 c834 h835 A837 n838 c839 h840) ⟨rfl, rfl, rfl, rfl, trivial⟩ (.cons_cons _ (.cons_cons _ (.cons_cons _ (.cons_cons _ (.slnil))))) rfl
     by_cases hp245 : x71 = true
     ·have h := if_pos' hp245 h
      refine g_true rfl _ rfl (hp245) <| g_seq rfl ?_
      obtain ⟨hb1176, h⟩ := h
      have hns : Region.noSelect (Code.ops q10c31) = true := by kernel_rfl
      refine g_drawG [12] 13 rfl rfl mix rfl (.c 0 rfl (.c 1 rfl (.c 2 rfl (.c 3 rfl .n)))) <| wfv 0 rfl (v_move rfl) gn hns (by kernel_rfl) <| wfv 1 rfl (v_nilCheck rfl) gn hns (by kernel_rfl) <| wfv 2 rfl (v_fldB fo_38_0 rfl) gn hns (by kernel_rfl) <| wfv 3 rfl (v_ldB1 4 ld_33 rfl rfl rfl) gn hns (by kernel_rfl) <| wfv 4 rfl (v_move rfl) gn hns (by kernel_rfl) <| wfv 5 rfl (v_nilCheck rfl) gn hns (by kernel_rfl) <| wfv 6 rfl (v_fldB fo_38_1 rfl) gn hns (by kernel_rfl) <| wfv 7 rfl (v_ldB1 4 ld_3 rfl rfl rfl) gn hns (by kernel_rfl) ?_
      have hr1179 := Rw.readF (s := Sm w.heap.size F sw148 sb149) (hl := hl_api_Word) (h1 := h1_api_Word) h150 hb1176
      refine wfv 8 rfl (v_idxR (s := Sm w.heap.size F sw148 sb149) slE_33 rfl rfl h150 hb1176) gn hns (by kernel_rfl) <| wfv 9 rfl (v_fldA fo_41_1 rfl) gn hns (by kernel_rfl) <| wfv 10 rfl (v_ldA1 (kk := (x151 : Int).toNat * 4) (j := 1) (Sm w.heap.size F sw148 sb149) ld_9 rfl hr1179 rfl (me 0 rfl)) gn hns (by kernel_rfl) <| wfv 11 rfl (v_fldB fo_46_2 rfl) gn hns (by kernel_rfl) ?_
      refine wf_all [12] (by kernel_rfl) rfl ⟨on_l 12 rfl gn rfl (s_stB (vs := [.string ((ix x144 x151).text)]) (cs' := [.string (⟨#[]⟩ : ByteArray), .bool false, .string ((ix x144 x151).text), .string (⟨#[]⟩ : ByteArray), .int .i64 0]) (M' := [.own (.slice (some ⟨gb237, 0, none⟩) 1 1) 46 5 1 (([(⟨(⟨#[]⟩ : ByteArray), false, (⟨#[]⟩ : ByteArray), (⟨#[]⟩ : ByteArray), 0⟩ : api_PatNode)] : List api_PatNode).flatMap enc_api_PatNode), .box gb214 46 [.string (⟨#[]⟩ : ByteArray), .bool false, .string ((ix x144 x151).text), .string (⟨#[]⟩ : ByteArray), .int .i64 0], .own (.slice A242 (n154 + 1) c243) 46 5 (n154 + 1) (x222.flatMap enc_api_PatNode), .own (.slice A158 n159 c160) 48 4 n159 (x157.flatMap enc_api_Cond), .box g2 Tb3 [.slice A145 n146 c147, .int .i64 x151, .slice A242 (n154 + 1) c243, .slice A158 n159 c160, .int .i64 x162, .int .i64 x163]]) 1 sz_9 rfl rfl rfl rfl rfl rfl rfl rfl rfl ?_), trivial⟩
      unfold NxL
      refine wf_end (by kernel_rfl) <| g_region rfl rfl <| wl_v 0 rfl (v_move rfl) gn rfl <| wl_v 1 rfl (v_move rfl) gn rfl <| wl_v 2 rfl (v_nilCheck rfl) gn rfl <| wl_v 3 rfl (v_fldB fo_38_1 rfl) gn rfl <| wl_v 4 rfl (v_ldB1 4 ld_3 rfl rfl rfl) gn rfl <| wl_v 5 rfl (v_bin rfl rfl rfl) gn rfl <| wl_v 6 rfl (v_nilCheck rfl) gn rfl <| wl_v 7 rfl (v_fldB fo_38_1 rfl) gn rfl ?_
      refine wl_s 8 rfl (s_stB (vs := [.int .i64 (w64 (x151 + 2))]) (cs' := [.slice A145 n146 c147, .int .i64 (w64 (x151 + 2)), .slice A242 (n154 + 1) c243, .slice A158 n159 c160, .int .i64 x162, .int .i64 x163]) (M' := [.own (.slice (some ⟨gb237, 0, none⟩) 1 1) 46 5 1 (([(⟨(⟨#[]⟩ : ByteArray), false, (⟨#[]⟩ : ByteArray), (⟨#[]⟩ : ByteArray), 0⟩ : api_PatNode)] : List api_PatNode).flatMap enc_api_PatNode), .box gb214 46 [.string (⟨#[]⟩ : ByteArray), .bool false, .string ((ix x144 x151).text), .string (⟨#[]⟩ : ByteArray), .int .i64 0], .own (.slice A242 (n154 + 1) c243) 46 5 (n154 + 1) (x222.flatMap enc_api_PatNode), .own (.slice A158 n159 c160) 48 4 n159 (x157.flatMap enc_api_Cond), .box g2 Tb3 [.slice A145 n146 c147, .int .i64 (w64 (x151 + 2)), .slice A242 (n154 + 1) c243, .slice A158 n159 c160, .int .i64 x162, .int .i64 x163]]) 4 sz_3 rfl rfl rfl rfl rfl rfl rfl rfl rfl ?_) gn
      refine w_end 9 rfl ?_
      exact g_go [0, 1, 2, 3] (j3 ((ix x144 x151).text) (w64 (x151 + 2)) h) ⟨rfl, rfl, rfl, trivial⟩ (.cons _ (.cons_cons _ (.cons_cons _ (.cons_cons _ (.cons_cons _ (.slnil)))))) rfl
     ·have h := if_neg' hp245 h
      refine g_false rfl _ rfl ((bf hp245)) <| g_skip rfl ?_
      exact g_go [0, 1, 2, 3] (j3 (⟨#[]⟩ : ByteArray) x151 h) ⟨rfl, rfl, rfl, trivial⟩ (.cons _ (.cons_cons _ (.cons_cons _ (.cons_cons _ (.cons_cons _ (.slnil)))))) rfl
  refine g_region rfl rfl <| wl_v 0 rfl (v_move rfl) gn rfl <| wl_v 1 rfl (v_not rfl) gn rfl <| wl_v 2 rfl (v_move rfl) gn rfl ?_
  by_cases hp1180 : x71 = true
  ·have h := if_pos' hp1180 h
   refine w_bool 22 rfl ((nf hp1180)) <| wl_pass 3 rfl (ps 22 rfl rfl rfl) <| wl_pass 4 rfl (ps 22 rfl rfl rfl) <| wl_pass 5 rfl (ps 22 rfl rfl rfl) <| wl_pass 6 rfl (ps 22 rfl rfl rfl) <| wl_pass 7 rfl (ps 22 rfl rfl rfl) <| wl_pass 8 rfl (ps 22 rfl rfl rfl) <| wl_pass 9 rfl (ps 22 rfl rfl rfl) <| wl_v 10 rfl (v_pick (b := false) rfl rfl) gn rfl <| wl_v 11 rfl (v_move rfl) gn rfl <| wl_pass 12 rfl (ps 31 rfl rfl rfl) <| wl_pass 13 rfl (ps 31 rfl rfl rfl) ?_
   refine wl_pass 14 rfl (ps 31 rfl rfl rfl) <| wl_pass 15 rfl (ps 31 rfl rfl rfl) <| wl_pass 16 rfl (ps 31 rfl rfl rfl) <| wl_pass 17 rfl (ps 31 rfl rfl rfl) <| wl_pass 18 rfl (ps 31 rfl rfl rfl) <| wl_v 19 rfl (v_pick (b := false) rfl rfl) gn rfl <| w_end 20 rfl ?_
   exact g_go [0, 0, 1, 2] (j2 false x72 x79 x80 x85 x90 x91 h A73 n74 c75 sw76 sb77 h78 A81 n82 c83 h84 A86 n87 c88 h89) ⟨rfl, rfl, rfl, trivial⟩ (.cons_cons _ (.cons_cons _ (.cons_cons _ (.slnil)))) rfl
  ·have h := if_neg' hp1180 h
   refine w_bool 22 rfl ((nt (bf hp1180))) <| wl_v 3 rfl (v_move rfl) (gy 22 rfl rfl) rfl <| wl_v 4 rfl (v_move rfl) (gy 22 rfl rfl) rfl <| wl_v 5 rfl (v_nilCheck rfl) (gy 22 rfl rfl) rfl <| wl_v 6 rfl (v_fldB fo_38_1 rfl) (gy 22 rfl rfl) rfl <| wl_v 7 rfl (v_ldB1 2 ld_3 rfl rfl rfl) (gy 22 rfl rfl) rfl ?_
   obtain ⟨r1184, hv1185, h⟩ := h
   refine wl_s 8 rfl (s_call [.pointer (some ⟨g2, 0, none⟩), .int .i64 x79] rfl Try.func19 rfl rfl rfl fun w1181 hL1182 => ?_) (gy 22 rfl rfl)
   have hp1183 := pmI hL1182 (.c 2 rfl (.c 0 rfl (.c 1 rfl .n))) .n (by kernel_rfl)
   refine Calls.mono (trellisref20_Reader_text_calls w1181 (Fl ([Sm w.heap.size F sw76 sb77] : List Snap)) (⟨x72, x79, (⟨x80, x85⟩ : api_Query), x90, x91⟩ : trellisref20_Reader) x79 g2 Tb3 A73 n74 c75 z12 A81 n82 c83 z18 A86 n87 c88 (Rw.mono h78 (hL1182.toFl (me 0 rfl) (me 0 rfl))) (Nat.le_trans hz13 hL1182.env.size) h84 (Nat.le_trans hz19 hL1182.env.size) h89 (hL1182.hFl hp1183 (sels [0] rfl)) (hL1182.into hp1183 _) r1184 hv1185) ?_
   rintro _ w1200 ⟨A1190, n1191, c1192, A1195, n1196, c1197, A1186, n1187, c1188, rfl, hM1201, h1193, h1198, h1189⟩
   obtain ⟨sb1204, hL1202, hv1203⟩ := hL1182.callB (Sl := ([Sm w.heap.size F sw76 sb77] : List Snap)) hp1183 hM1201 F (sels [0] rfl) ⟨Sm.ok, trivial⟩
   have h1189 : At k_api_Word (Sm w.heap.size F w1200 sb1204) A1186 n1187 c1188 r1184.2.l := Rw.mono h1189 hv1203
   refine ⟨_, _, _, rfl, hL1202, ?_⟩
   refine wl_v 9 rfl (v_not rfl) (gy 22 rfl rfl) rfl <| wl_v 10 rfl (v_pick (b := true) rfl rfl) gn rfl <| wl_v 11 rfl (v_move rfl) gn rfl ?_
   by_cases hp1205 : r1184.1 = true
   ·have h := if_pos' hp1205 h
    refine w_bool 31 rfl ((nf hp1205)) <| wl_pass 12 rfl (ps 31 rfl rfl rfl) <| wl_pass 13 rfl (ps 31 rfl rfl rfl) <| wl_pass 14 rfl (ps 31 rfl rfl rfl) <| wl_pass 15 rfl (ps 31 rfl rfl rfl) <| wl_pass 16 rfl (ps 31 rfl rfl rfl) <| wl_pass 17 rfl (ps 31 rfl rfl rfl) <| wl_pass 18 rfl (ps 31 rfl rfl rfl) <| wl_v 19 rfl (v_pick (b := false) rfl rfl) gn rfl <| w_end 20 rfl <| g_front 0 rfl <| g_front 2 rfl ?_
    refine g_front 2 rfl ?_
    exact g_go [0, 1, 2, 3] (j2 false r1184.2.l r1184.2.at_ r1184.2.q.nodes r1184.2.q.conds r1184.2.e r1184.2.pos h A1186 n1187 c1188 w1200 sb1204 h1189 A1190 n1191 c1192 h1193 A1195 n1196 c1197 h1198) ⟨rfl, rfl, rfl, trivial⟩ (.cons_cons _ (.cons_cons _ (.cons_cons _ (.slnil)))) rfl
   ·have h := if_neg' hp1205 h
    refine w_bool 31 rfl ((nt (bf hp1205))) <| wl_v 12 rfl (v_move rfl) (gy 31 rfl rfl) rfl <| wl_v 13 rfl (v_move rfl) (gy 31 rfl rfl) rfl <| wl_v 14 rfl (v_nilCheck rfl) (gy 31 rfl rfl) rfl <| wl_v 15 rfl (v_fldB fo_38_1 rfl) (gy 31 rfl rfl) rfl <| wl_v 16 rfl (v_ldB1 0 ld_3 rfl rfl rfl) (gy 31 rfl rfl) rfl ?_
    obtain ⟨r1209, hv1210, h⟩ := h
    refine wl_s 17 rfl (s_call [.pointer (some ⟨g2, 0, none⟩), .int .i64 r1184.2.at_, .int .i64 5, .string (⟨#[40]⟩ : ByteArray)] rfl Try.func18 rfl rfl rfl fun w1206 hL1207 => ?_) (gy 31 rfl rfl)
    have hp1208 := pmI hL1207 (.c 0 rfl (.c 1 rfl (.c 2 rfl .n))) .n (by kernel_rfl)
    refine Calls.mono (trellisref20_Reader_sees_calls w1206 (Fl ([Sm w.heap.size F w1200 sb1204] : List Snap)) r1184.2 r1184.2.at_ 5 (⟨#[40]⟩ : ByteArray) g2 Tb3 A1186 n1187 c1188 z12 A1190 n1191 c1192 z18 A1195 n1196 c1197 (Rw.mono h1189 (hL1207.toFl (me 0 rfl) (me 0 rfl))) (Nat.le_trans hz13 hL1207.env.size) h1193 (Nat.le_trans hz19 hL1207.env.size) h1198 (hL1207.hFl hp1208 (sels [0] rfl)) (hL1207.into hp1208 _) r1209 hv1210) ?_
    rintro _ w1225 ⟨A1215, n1216, c1217, A1220, n1221, c1222, A1211, n1212, c1213, rfl, hM1226, h1218, h1223, h1214⟩
    obtain ⟨sb1229, hL1227, hv1228⟩ := hL1207.callB (Sl := ([Sm w.heap.size F w1200 sb1204] : List Snap)) hp1208 hM1226 F (sels [0] rfl) ⟨Sm.ok, trivial⟩
    have h1214 : At k_api_Word (Sm w.heap.size F w1225 sb1229) A1211 n1212 c1213 r1209.2.l := Rw.mono h1214 hv1228
    refine ⟨_, _, _, rfl, hL1227, ?_⟩
    refine wl_v 18 rfl (v_not rfl) (gy 31 rfl rfl) rfl <| wl_v 19 rfl (v_pick (b := true) rfl rfl) gn rfl <| w_end 20 rfl <| g_front 0 rfl <| g_front 2 rfl <| g_front 2 rfl ?_
    exact g_go [0, 2, 3, 4] (j2 (!r1209.1) r1209.2.l r1209.2.at_ r1209.2.q.nodes r1209.2.q.conds r1209.2.e r1209.2.pos h A1211 n1212 c1213 w1225 sb1229 h1214 A1215 n1216 c1217 h1218 A1220 n1221 c1222 h1223) ⟨rfl, rfl, rfl, trivial⟩ (.cons_cons _ (.cons_cons _ (.cons_cons _ (.slnil)))) rfl
 refine g_region rfl rfl <| wl_v 0 rfl (v_move rfl) gn rfl <| wl_v 1 rfl (v_move rfl) gn rfl <| wl_v 2 rfl (v_nilCheck rfl) gn rfl <| wl_v 3 rfl (v_fldB fo_38_1 rfl) gn rfl <| wl_v 4 rfl (v_ldB1 0 ld_3 rfl rfl rfl) gn rfl ?_
 obtain ⟨r1233, hv1234, h⟩ := h
 refine wl_s 5 rfl (s_call [.pointer (some ⟨g2, 0, none⟩), .int .i64 x1.at_] rfl Try.func17 rfl rfl rfl fun w1230 hL1231 => ?_) gn
 have hp1232 := pmI hL1231 (.c 0 rfl (.c 1 rfl (.c 2 rfl .n))) .n (by kernel_rfl)
 refine Calls.mono (trellisref20_Reader_named_calls w1230 (Fl ([Sm w.heap.size F w [[g2], (Value.slice A8 n9 c10).ownBlock.toList, (Value.slice A14 n15 c16).ownBlock.toList]] : List Snap)) x1 x1.at_ g2 Tb3 A4 n5 c6 z12 A8 n9 c10 z18 A14 n15 c16 (Rw.mono h7 (hL1231.toFl (me 0 rfl) (me 0 rfl))) (Nat.le_trans hz13 hL1231.env.size) h11 (Nat.le_trans hz19 hL1231.env.size) h17 (hL1231.hFl hp1232 (sels [0] rfl)) (hL1231.into hp1232 _) r1233 hv1234) ?_
 rintro _ w1249 ⟨A1239, n1240, c1241, A1244, n1245, c1246, A1235, n1236, c1237, rfl, hM1250, h1242, h1247, h1238⟩
 obtain ⟨sb1253, hL1251, hv1252⟩ := hL1231.callB (Sl := ([Sm w.heap.size F w [[g2], (Value.slice A8 n9 c10).ownBlock.toList, (Value.slice A14 n15 c16).ownBlock.toList]] : List Snap)) hp1232 hM1250 F (sels [0] rfl) ⟨Sm.ok, trivial⟩
 have h1238 : At k_api_Word (Sm w.heap.size F w1249 sb1253) A1235 n1236 c1237 r1233.2.l := Rw.mono h1238 hv1252
 refine ⟨_, _, _, rfl, hL1251, ?_⟩
 refine wl_v 6 rfl (v_move rfl) gn rfl ?_
 by_cases hp1254 : r1233.1 = true
 ·have h := if_pos' hp1254 h
  refine w_bool 11 rfl (hp1254) <| wl_v 7 rfl (v_move rfl) (gy 11 rfl rfl) rfl <| wl_v 8 rfl (v_move rfl) (gy 11 rfl rfl) rfl <| wl_v 9 rfl (v_nilCheck rfl) (gy 11 rfl rfl) rfl <| wl_v 10 rfl (v_fldB fo_38_1 rfl) (gy 11 rfl rfl) rfl <| wl_v 11 rfl (v_ldB1 0 ld_3 rfl rfl rfl) (gy 11 rfl rfl) rfl <| wl_v 12 rfl (v_bin rfl rfl rfl) (gy 11 rfl rfl) rfl ?_
  obtain ⟨r1258, hv1259, h⟩ := h
  refine wl_s 13 rfl (s_call [.pointer (some ⟨g2, 0, none⟩), .int .i64 (w64 (r1233.2.at_ + 1)), .int .i64 5, .string (⟨#[58]⟩ : ByteArray)] rfl Try.func18 rfl rfl rfl fun w1255 hL1256 => ?_) (gy 11 rfl rfl)
  have hp1257 := pmI hL1256 (.c 0 rfl (.c 1 rfl (.c 2 rfl .n))) .n (by kernel_rfl)
  refine Calls.mono (trellisref20_Reader_sees_calls w1255 (Fl ([Sm w.heap.size F w1249 sb1253] : List Snap)) r1233.2 (w64 (r1233.2.at_ + 1)) 5 (⟨#[58]⟩ : ByteArray) g2 Tb3 A1235 n1236 c1237 z12 A1239 n1240 c1241 z18 A1244 n1245 c1246 (Rw.mono h1238 (hL1256.toFl (me 0 rfl) (me 0 rfl))) (Nat.le_trans hz13 hL1256.env.size) h1242 (Nat.le_trans hz19 hL1256.env.size) h1247 (hL1256.hFl hp1257 (sels [0] rfl)) (hL1256.into hp1257 _) r1258 hv1259) ?_
  rintro _ w1274 ⟨A1264, n1265, c1266, A1269, n1270, c1271, A1260, n1261, c1262, rfl, hM1275, h1267, h1272, h1263⟩
  obtain ⟨sb1278, hL1276, hv1277⟩ := hL1256.callB (Sl := ([Sm w.heap.size F w1249 sb1253] : List Snap)) hp1257 hM1275 F (sels [0] rfl) ⟨Sm.ok, trivial⟩
  have h1263 : At k_api_Word (Sm w.heap.size F w1274 sb1278) A1260 n1261 c1262 r1258.2.l := Rw.mono h1263 hv1277
  refine ⟨_, _, _, rfl, hL1276, ?_⟩
  refine wl_v 14 rfl (v_pick (b := true) rfl rfl) gn rfl <| wl_v 15 rfl (v_assign rfl) gn rfl <| w_end 16 rfl <| g_front 0 rfl <| g_front 2 rfl <| g_front 2 rfl ?_
  exact g_go [0, 2, 3] (j1 r1258.1 r1258.2.l r1258.2.at_ r1258.2.q.nodes r1258.2.q.conds r1258.2.e r1258.2.pos h A1260 n1261 c1262 w1274 sb1278 h1263 A1264 n1265 c1266 h1267 A1269 n1270 c1271 h1272) ⟨rfl, rfl, trivial⟩ (.cons_cons _ (.cons_cons _ (.cons_cons _ (.slnil)))) rfl
 ·have h := if_neg' hp1254 h
  refine w_bool 11 rfl ((bf hp1254)) <| wl_pass 7 rfl (ps 11 rfl rfl rfl) <| wl_pass 8 rfl (ps 11 rfl rfl rfl) <| wl_pass 9 rfl (ps 11 rfl rfl rfl) <| wl_pass 10 rfl (ps 11 rfl rfl rfl) <| wl_pass 11 rfl (ps 11 rfl rfl rfl) <| wl_pass 12 rfl (ps 11 rfl rfl rfl) <| wl_pass 13 rfl (ps 11 rfl rfl rfl) <| wl_v 14 rfl (v_pick (b := false) rfl rfl) gn rfl <| wl_v 15 rfl (v_assign rfl) gn rfl <| w_end 16 rfl <| g_front 0 rfl ?_
  refine g_front 2 rfl <| g_front 2 rfl ?_
  exact g_go [0, 1, 2] (j1 false r1233.2.l r1233.2.at_ r1233.2.q.nodes r1233.2.q.conds r1233.2.e r1233.2.pos h A1235 n1236 c1237 w1249 sb1253 h1238 A1239 n1240 c1241 h1242 A1244 n1245 c1246 h1247) ⟨rfl, rfl, trivial⟩ (.cons_cons _ (.cons_cons _ (.cons_cons _ (.slnil)))) rfl
theorem trellisref20_Reader_pattern_ind : ∀ n, trellisref20_Reader_pattern_st (trellisref20_Reader_pattern_n n)
 | 0 => fun w F x1 g2 Tb3 A4 n5 c6 z12 A8 n9 c10 z18 A14 n15 c16 h7 hz13 h11 hz19 h17 hF hL0 r h => h.elim
 | n + 1 => by
  have ih := trellisref20_Reader_pattern_ind n
  exact trellisref20_Reader_pattern_step _ ih
theorem trellisref20_Reader_pattern_calls (w : World) (F : Nat → Prop) (x1 : trellisref20_Reader) (g2 : Nat) (Tb3 : Nat) (A4 : Option Addr) (n5 : Nat) (c6 : Nat) (z12 : Nat) (A8 : Option Addr) (n9 : Nat) (c10 : Nat) (z18 : Nat) (A14 : Option Addr) (n15 : Nat) (c16 : Nat) (h7 : Rw k_api_Word w F A4 n5 c6 x1.l) (hz13 : z12 ≤ w.heap.size) (h11 : Ow z12 A8 n9 c10 x1.q.nodes) (hz19 : z18 ≤ w.heap.size) (h17 : Ow z18 A14 n15 c16 x1.q.conds) (hF : ∀ b, F b → b < w.heap.size ∧ ∀ o ∈ ([[g2], (Value.slice A8 n9 c10).ownBlock.toList, (Value.slice A14 n15 c16).ownBlock.toList] : List (List Nat)), b ∉ o) (hL0 : B.Loc w w [.box g2 Tb3 [.slice A4 n5 c6, .int .i64 x1.at_, .slice A8 n9 c10, .slice A14 n15 c16, .int .i64 x1.e, .int .i64 x1.pos], .own (.slice A8 n9 c10) 46 5 n9 (x1.q.nodes.flatMap enc_api_PatNode), .own (.slice A14 n15 c16) 48 4 n15 (x1.q.conds.flatMap enc_api_Cond)] [Sm w.heap.size F w [[g2], (Value.slice A8 n9 c10).ownBlock.toList, (Value.slice A14 n15 c16).ownBlock.toList], St w [[g2], (Value.slice A8 n9 c10).ownBlock.toList, (Value.slice A14 n15 c16).ownBlock.toList]]) (r : trellisref20_Reader) (h : trellisref20_Reader_pattern x1 r) : Calls Try.prog 10 #[.pointer (some ⟨g2, 0, none⟩)] w (trellisref20_Reader_pattern_R w F g2 Tb3 A8 n9 c10 z12 A14 n15 c16 z18 r) := by
 obtain ⟨n, h⟩ := h
 exact (trellisref20_Reader_pattern_ind n) w F x1 g2 Tb3 A4 n5 c6 z12 A8 n9 c10 z18 A14 n15 c16 h7 hz13 h11 hz19 h17 hF hL0 r h
end Go.Proofs.Ytjookebbmfiidaa.K
