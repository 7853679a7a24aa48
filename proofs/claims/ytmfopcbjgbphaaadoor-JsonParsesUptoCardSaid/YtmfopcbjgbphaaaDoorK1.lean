/- What the machine's calls do, function by function, printed by my own tool. Condition of each: its relation holds of the answer, and what is handed in lies in memory as told. -/
import Derived.Test.YtmfopcbjgbphaaaDoorK0
set_option linter.unusedVariables false
set_option maxRecDepth 100000
set_option maxHeartbeats 4000000
namespace Go.Proofs.YtmfopcbjgbphaaaDoor.K
open Go.Proofs.YtmfopcbjgbphaaaDoor.B Go.Proofs.YtmfopcbjgbphaaaDoor.R Go.RowKit
noncomputable abbrev q84c0 : Code := bodyOf Tryd.f84
noncomputable abbrev q84c1 : Code := Code.fst q84c0
noncomputable abbrev q84c2 : Code := Code.snd q84c0
noncomputable abbrev q84c3 : Code := Code.fst q84c2
noncomputable abbrev q84c4 : Code := Code.snd q84c2
abbrev internal_stringslite_IndexByte_R (w : World) (F : Nat → Prop) (r : Int) : Ending → World → Prop := fun e w' => e = .returned (.int .i64 r) ∧ B.Loc w w' [] [St w []]
noncomputable abbrev internal_stringslite_IndexByte_C (w : World) (F : Nat → Prop) (r : Int) : Cx := ⟨Tryd.prog, 84, Tryd.f84, 8, internal_stringslite_IndexByte_R w F  r, w⟩
theorem internal_stringslite_IndexByte_calls (w : World) (F : Nat → Prop) (x1 : ByteArray) (x2 : Int) (hF : ∀ b, F b → b < w.heap.size ∧ ∀ o ∈ ([] : List (List Nat)), b ∉ o) (hL0 : B.Loc w w [] [Sm w.heap.size F w [], St w []]) (r : Int) (h : internal_stringslite_IndexByte x1 x2 r) : Calls Tryd.prog 84 #[.string x1, .int .u8 x2] w (internal_stringslite_IndexByte_R w F  r) := by
 unfold internal_stringslite_IndexByte at h
 refine calls_of_Loc (vs := [.string x1, .int .u8 x2]) 8 Tryd.func84 rfl Tryd.ntmps84 rfl hL0 ?_
 show G (internal_stringslite_IndexByte_C w F r) _ _ _ _
 refine g_seq (c := q84c0) rfl ?_
 refine g_region (c := q84c1) rfl rfl ?_
 refine wl_v 0 rfl (v_assign rfl) gn rfl ?_
 refine w_end 1 rfl ?_
 refine g_seq (c := q84c2) rfl ?_
 refine g_region (c := q84c3) rfl rfl ?_
 refine wl_v 0 rfl (v_move rfl) gn rfl ?_
 refine wl_v 1 rfl (v_move rfl) gn rfl ?_
 refine wl_v 2 rfl (v_ext [.string x1, .int .u8 x2] rfl Tryd.func94 rfl rfl (by kernel_rfl) (by kernel_rfl) (fun w => x_indexByteS _ _ w)) gn rfl ?_
 refine wl_v 3 rfl (v_assign rfl) gn rfl ?_
 refine w_end 4 rfl ?_
 refine g_retR (c := q84c4) [.int .i64 (idxB x1 x2)] rfl Tryd.func84 rfl (.tmp rfl (.nil)) fun wr hLr => ?_
 have hMr : B.Loc w wr [] [St w []] := hLr.pick0 (sels [1] rfl)
 show internal_stringslite_IndexByte_R w F  r (.returned (packV [.int .i64 (idxB x1 x2)])) wr
 rw [h]
 exact ⟨rfl, hMr⟩
noncomputable abbrev q70c0 : Code := bodyOf Tryd.f70
noncomputable abbrev q70c1 : Code := Code.fst q70c0
noncomputable abbrev q70c2 : Code := Code.snd q70c0
noncomputable abbrev q70c3 : Code := Code.fst q70c2
noncomputable abbrev q70c4 : Code := Code.snd q70c2
abbrev strings_IndexByte_R (w : World) (F : Nat → Prop) (r : Int) : Ending → World → Prop := fun e w' => e = .returned (.int .i64 r) ∧ B.Loc w w' [] [St w []]
noncomputable abbrev strings_IndexByte_C (w : World) (F : Nat → Prop) (r : Int) : Cx := ⟨Tryd.prog, 70, Tryd.f70, 8, strings_IndexByte_R w F  r, w⟩
theorem strings_IndexByte_calls (w : World) (F : Nat → Prop) (x1 : ByteArray) (x2 : Int) (hF : ∀ b, F b → b < w.heap.size ∧ ∀ o ∈ ([] : List (List Nat)), b ∉ o) (hL0 : B.Loc w w [] [Sm w.heap.size F w [], St w []]) (r : Int) (h : strings_IndexByte x1 x2 r) : Calls Tryd.prog 70 #[.string x1, .int .u8 x2] w (strings_IndexByte_R w F  r) := by
 unfold strings_IndexByte at h
 refine calls_of_Loc (vs := [.string x1, .int .u8 x2]) 8 Tryd.func70 rfl Tryd.ntmps70 rfl hL0 ?_
 show G (strings_IndexByte_C w F r) _ _ _ _
 refine g_seq (c := q70c0) rfl ?_
 refine g_region (c := q70c1) rfl rfl ?_
 refine wl_v 0 rfl (v_assign rfl) gn rfl ?_
 refine w_end 1 rfl ?_
 refine g_seq (c := q70c2) rfl ?_
 refine g_region (c := q70c3) rfl rfl ?_
 refine wl_v 0 rfl (v_move rfl) gn rfl ?_
 refine wl_v 1 rfl (v_move rfl) gn rfl ?_
 obtain ⟨r6, hv7, h⟩ := h
 refine wl_s 2 rfl (s_call [.string x1, .int .u8 x2] rfl Tryd.func84 rfl rfl rfl fun w3 hL4 => ?_) gn
 have hp5 : List.Perm ([] : List Ent) (([] : List Ent) ++ ([] : List Ent)) := perm_of_idx [] [] rfl rfl (by kernel_rfl)
 refine Calls.mono (internal_stringslite_IndexByte_calls w3 (Fl ([] : List Snap)) x1 x2 (hL4.hFl (Sl := ([] : List Snap)) hp5 (sels [] rfl)) (hL4.into hp5 (Fl ([] : List Snap))) r6 hv7) ?_
 rintro _ w8 ⟨rfl, hM9⟩
 have hL10 := hL4.call hp5 hM9
 refine ⟨_, _, _, rfl, hL10, ?_⟩
 refine wl_v 3 rfl (v_assign rfl) gn rfl ?_
 refine w_end 4 rfl ?_
 refine g_retR (c := q70c4) [.int .i64 r6] rfl Tryd.func70 rfl (.tmp rfl (.nil)) fun wr hLr => ?_
 have hMr : B.Loc w wr [] [St w []] := hLr.pick0 (sels [1] rfl)
 show strings_IndexByte_R w F  r (.returned (packV [.int .i64 r6])) wr
 rw [h]
 exact ⟨rfl, hMr⟩
noncomputable abbrev q55c0 : Code := bodyOf Tryd.f55
noncomputable abbrev q55c1 : Code := Code.fst q55c0
noncomputable abbrev q55c2 : Code := Code.snd q55c0
noncomputable abbrev q55c3 : Code := Code.fst q55c2
noncomputable abbrev q55c4 : Code := Code.snd q55c2
abbrev json_parser_is_R (w : World) (F : Nat → Prop) (g2 : Nat) (Tb3 : Nat) (A4 : Option Addr) (n5 : Nat) (c6 : Nat) (z8 : Nat) (r : Bool × json_parser) : Ending → World → Prop := fun e w' => ∃ A0 : Option Addr, ∃ n0 : Nat, ∃ c0 : Nat, e = .returned (.bool r.1) ∧ B.Loc w w' [.box g2 Tb3 [.string r.2.text, .int .i64 r.2.at_, .slice A0 n0 c0, .int .i64 r.2.in_, .int .i64 r.2.code], .own (.slice A0 n0 c0) 31 4 n0 (r.2.out.flatMap enc_api_JNode)] [St w [[g2], (Value.slice A4 n5 c6).ownBlock.toList]] ∧ Ow z8 A0 n0 c0 r.2.out
noncomputable abbrev json_parser_is_C (w : World) (F : Nat → Prop) (g2 : Nat) (Tb3 : Nat) (A4 : Option Addr) (n5 : Nat) (c6 : Nat) (z8 : Nat) (r : Bool × json_parser) : Cx := ⟨Tryd.prog, 55, Tryd.f55, 29, json_parser_is_R w F g2 Tb3 A4 n5 c6 z8 r, w⟩
theorem json_parser_is_calls (w : World) (F : Nat → Prop) (x1 : json_parser) (x10 : ByteArray) (g2 : Nat) (Tb3 : Nat) (z8 : Nat) (A4 : Option Addr) (n5 : Nat) (c6 : Nat) (hz9 : z8 ≤ w.heap.size) (h7 : Ow z8 A4 n5 c6 x1.out) (hF : ∀ b, F b → b < w.heap.size ∧ ∀ o ∈ ([[g2], (Value.slice A4 n5 c6).ownBlock.toList] : List (List Nat)), b ∉ o) (hL0 : B.Loc w w [.box g2 Tb3 [.string x1.text, .int .i64 x1.at_, .slice A4 n5 c6, .int .i64 x1.in_, .int .i64 x1.code], .own (.slice A4 n5 c6) 31 4 n5 (x1.out.flatMap enc_api_JNode)] [Sm w.heap.size F w [[g2], (Value.slice A4 n5 c6).ownBlock.toList], St w [[g2], (Value.slice A4 n5 c6).ownBlock.toList]]) (r : Bool × json_parser) (h : json_parser_is x1 x10 r) : Calls Tryd.prog 55 #[.pointer (some ⟨g2, 0, none⟩), .string x10] w (json_parser_is_R w F g2 Tb3 A4 n5 c6 z8 r) := by
 unfold json_parser_is at h
 refine calls_of_Loc (vs := [.pointer (some ⟨g2, 0, none⟩), .string x10]) 29 Tryd.func55 rfl Tryd.ntmps55 rfl hL0 ?_
 show G (json_parser_is_C w F g2 Tb3 A4 n5 c6 z8 r) _ _ _ _
 refine g_seq (c := q55c0) rfl ?_
 refine g_region (c := q55c1) rfl rfl ?_
 refine wl_v 0 rfl (v_assign rfl) gn rfl ?_
 refine w_end 1 rfl ?_
 refine g_seq (c := q55c2) rfl ?_
 by_cases hp11 : x1.at_ < (x1.text.size : Int)
 ·have h := if_pos' hp11 h
  obtain ⟨hb12, h⟩ := h
  obtain ⟨r16, hv17, h⟩ := h
  have hns : Region.noSelect (Code.ops q55c3) = true := by kernel_rfl
  refine g_drawF (c := q55c3) [.box g2 Tb3 [.string x1.text, .int .i64 x1.at_, .slice A4 n5 c6, .int .i64 x1.in_, .int .i64 x1.code], .own (.slice A4 n5 c6) 31 4 n5 (x1.out.flatMap enc_api_JNode)] [Sm w.heap.size F w [[g2], (Value.slice A4 n5 c6).ownBlock.toList], St w [[g2], (Value.slice A4 n5 c6).ownBlock.toList]] [] 25 rfl rfl mix rfl (.cons_cons _ (.cons_cons _ (.slnil))) (sels [0, 1] rfl) ?_
  refine wfv 0 rfl (v_move rfl) gn hns rfl ?_
  refine wfv 1 rfl (v_nilCheck rfl) gn hns rfl ?_
  refine wfv 2 rfl (v_fldB fo_70_1 rfl) gn hns rfl ?_
  refine wfv 3 rfl (v_ldB1 0 ld_3 rfl rfl rfl) gn hns rfl ?_
  refine wfv 4 rfl (v_move rfl) gn hns rfl ?_
  refine wfv 5 rfl (v_nilCheck rfl) gn hns rfl ?_
  refine wfv 6 rfl (v_fldB fo_70_0 rfl) gn hns rfl ?_
  refine wfv 7 rfl (v_ldB1 0 ld_9 rfl rfl rfl) gn hns rfl ?_
  refine wfv 8 rfl (v_lenS un_9 rfl) gn hns rfl ?_
  refine wfv 9 rfl (v_bin rfl rfl rfl) gn hns rfl ?_
  refine wfv 10 rfl (v_move rfl) gn hns rfl ?_
  refine wf_bool 15 rfl ((decide_eq_true hp11)) ?_
  refine wfv 11 rfl (v_move rfl) (gy 15 rfl rfl) hns rfl ?_
  refine wfv 12 rfl (v_move rfl) (gy 15 rfl rfl) hns rfl ?_
  refine wfv 13 rfl (v_nilCheck rfl) (gy 15 rfl rfl) hns rfl ?_
  refine wfv 14 rfl (v_fldB fo_70_0 rfl) (gy 15 rfl rfl) hns rfl ?_
  refine wfv 15 rfl (v_ldB1 0 ld_9 rfl rfl rfl) (gy 15 rfl rfl) hns rfl ?_
  refine wfv 16 rfl (v_move rfl) (gy 15 rfl rfl) hns rfl ?_
  refine wfv 17 rfl (v_nilCheck rfl) (gy 15 rfl rfl) hns rfl ?_
  refine wfv 18 rfl (v_fldB fo_70_1 rfl) (gy 15 rfl rfl) hns rfl ?_
  refine wfv 19 rfl (v_ldB1 0 ld_3 rfl rfl rfl) (gy 15 rfl rfl) hns rfl ?_
  refine wfv 20 rfl (v_indexS un_9 rfl rfl hb12) (gy 15 rfl rfl) hns rfl ?_
  refine wf_all [21] (by kernel_rfl) rfl ⟨on_s 21 rfl (gy 15 rfl rfl) rfl (s_call [.string x10, .int .u8 (bt x1.text x1.at_)] rfl Tryd.func70 rfl rfl rfl fun w39 hL40 => ?_), trivial⟩
  have hp41 : List.Perm ([.box g2 Tb3 [.string x1.text, .int .i64 x1.at_, .slice A4 n5 c6, .int .i64 x1.in_, .int .i64 x1.code], .own (.slice A4 n5 c6) 31 4 n5 (x1.out.flatMap enc_api_JNode)] : List Ent) (([] : List Ent) ++ ([.box g2 Tb3 [.string x1.text, .int .i64 x1.at_, .slice A4 n5 c6, .int .i64 x1.in_, .int .i64 x1.code], .own (.slice A4 n5 c6) 31 4 n5 (x1.out.flatMap enc_api_JNode)] : List Ent)) := perm_of_idx [] [0, 1] rfl rfl (by kernel_rfl)
  refine Calls.mono (strings_IndexByte_calls w39 (Fl ([] : List Snap)) x10 (bt x1.text x1.at_) (hL40.hFl (Sl := ([] : List Snap)) hp41 (sels [] rfl)) (hL40.into hp41 (Fl ([] : List Snap))) r16 hv17) ?_
  rintro _ w42 ⟨rfl, hM43⟩
  have hL44 := hL40.call hp41 hM43
  refine ⟨_, _, _, rfl, hL44, ?_⟩
  refine ⟨sels [0, 1] rfl, sels [0, 1] rfl, ?_⟩
  refine wfv 22 rfl (v_bin rfl rfl rfl) (gy 15 rfl rfl) hns rfl ?_
  refine wfv 23 rfl (v_pick (b := true) rfl rfl) gn hns rfl ?_
  refine wfv 24 rfl (v_assign rfl) gn hns rfl ?_
  refine wf_end (by kernel_rfl) ?_
  refine g_retR (c := q55c4) [.bool (decide (r16 ≥ 0))] rfl Tryd.func55 rfl (.tmp rfl (.nil)) fun wr hLr => ?_
  have hMr : B.Loc w wr [.box g2 Tb3 [.string x1.text, .int .i64 x1.at_, .slice A4 n5 c6, .int .i64 x1.in_, .int .i64 x1.code], .own (.slice A4 n5 c6) 31 4 n5 (x1.out.flatMap enc_api_JNode)] [St w [[g2], (Value.slice A4 n5 c6).ownBlock.toList]] := hLr.pick (rest := []) (perm_of_idx [0, 1] [] rfl rfl (by kernel_rfl)) (sels [1] rfl)
  show json_parser_is_R w F g2 Tb3 A4 n5 c6 z8 r (.returned (packV [.bool (decide (r16 ≥ 0))])) wr
  rw [h]
  exact ⟨A4, n5, c6, rfl, hMr, h7⟩
 ·have h := if_neg' hp11 h
  have hns : Region.noSelect (Code.ops q55c3) = true := by kernel_rfl
  refine g_drawF (c := q55c3) [.box g2 Tb3 [.string x1.text, .int .i64 x1.at_, .slice A4 n5 c6, .int .i64 x1.in_, .int .i64 x1.code], .own (.slice A4 n5 c6) 31 4 n5 (x1.out.flatMap enc_api_JNode)] [Sm w.heap.size F w [[g2], (Value.slice A4 n5 c6).ownBlock.toList], St w [[g2], (Value.slice A4 n5 c6).ownBlock.toList]] [] 25 rfl rfl mix rfl (.cons_cons _ (.cons_cons _ (.slnil))) (sels [0, 1] rfl) ?_
  refine wfv 0 rfl (v_move rfl) gn hns rfl ?_
  refine wfv 1 rfl (v_nilCheck rfl) gn hns rfl ?_
  refine wfv 2 rfl (v_fldB fo_70_1 rfl) gn hns rfl ?_
  refine wfv 3 rfl (v_ldB1 0 ld_3 rfl rfl rfl) gn hns rfl ?_
  refine wfv 4 rfl (v_move rfl) gn hns rfl ?_
  refine wfv 5 rfl (v_nilCheck rfl) gn hns rfl ?_
  refine wfv 6 rfl (v_fldB fo_70_0 rfl) gn hns rfl ?_
  refine wfv 7 rfl (v_ldB1 0 ld_9 rfl rfl rfl) gn hns rfl ?_
  refine wfv 8 rfl (v_lenS un_9 rfl) gn hns rfl ?_
  refine wfv 9 rfl (v_bin rfl rfl rfl) gn hns rfl ?_
  refine wfv 10 rfl (v_move rfl) gn hns rfl ?_
  refine wf_bool 15 rfl ((decide_eq_false hp11)) ?_
  refine wfp 11 rfl (ps 15 rfl rfl rfl) hns rfl ?_
  refine wfp 12 rfl (ps 15 rfl rfl rfl) hns rfl ?_
  refine wfp 13 rfl (ps 15 rfl rfl rfl) hns rfl ?_
  refine wfp 14 rfl (ps 15 rfl rfl rfl) hns rfl ?_
  refine wfp 15 rfl (ps 15 rfl rfl rfl) hns rfl ?_
  refine wfp 16 rfl (ps 15 rfl rfl rfl) hns rfl ?_
  refine wfp 17 rfl (ps 15 rfl rfl rfl) hns rfl ?_
  refine wfp 18 rfl (ps 15 rfl rfl rfl) hns rfl ?_
  refine wfp 19 rfl (ps 15 rfl rfl rfl) hns rfl ?_
  refine wfp 20 rfl (ps 15 rfl rfl rfl) hns rfl ?_
  refine wfp 21 rfl (ps 15 rfl rfl rfl) hns rfl ?_
  refine wfp 22 rfl (ps 15 rfl rfl rfl) hns rfl ?_
  refine wfv 23 rfl (v_pick (b := false) rfl rfl) gn hns rfl ?_
  refine wfv 24 rfl (v_assign rfl) gn hns rfl ?_
  refine wf_end (by kernel_rfl) ?_
  refine g_retR (c := q55c4) [.bool false] rfl Tryd.func55 rfl (.tmp rfl (.nil)) fun wr hLr => ?_
  have hMr : B.Loc w wr [.box g2 Tb3 [.string x1.text, .int .i64 x1.at_, .slice A4 n5 c6, .int .i64 x1.in_, .int .i64 x1.code], .own (.slice A4 n5 c6) 31 4 n5 (x1.out.flatMap enc_api_JNode)] [St w [[g2], (Value.slice A4 n5 c6).ownBlock.toList]] := hLr.pick (rest := []) (perm_of_idx [0, 1] [] rfl rfl (by kernel_rfl)) (sels [1] rfl)
  show json_parser_is_R w F g2 Tb3 A4 n5 c6 z8 r (.returned (packV [.bool false])) wr
  rw [h]
  exact ⟨A4, n5, c6, rfl, hMr, h7⟩
noncomputable abbrev q71c0 : Code := bodyOf Tryd.f71
noncomputable abbrev q71c1 : Code := Code.fst q71c0
noncomputable abbrev q71c2 : Code := Code.snd q71c0
noncomputable abbrev q71c3 : Code := Code.fst q71c2
noncomputable abbrev q71c4 : Code := Code.snd q71c2
noncomputable abbrev q71c5 : Code := Code.fst q71c3
noncomputable abbrev q71c6 : Code := Code.snd q71c3
noncomputable abbrev q71c7 : Code := Code.fst q71c6
noncomputable abbrev q71c8 : Code := Code.snd q71c6
noncomputable abbrev q71c9 : Code := Code.fst q71c4
noncomputable abbrev q71c10 : Code := Code.snd q71c4
noncomputable abbrev q71c11 : Code := Code.fst q71c10
noncomputable abbrev q71c12 : Code := Code.snd q71c10
noncomputable abbrev q71c13 : Code := Code.fst q71c7
noncomputable abbrev q71c14 : Code := Code.snd q71c7
abbrev json_parser_take_R (w : World) (F : Nat → Prop) (g2 : Nat) (Tb3 : Nat) (A4 : Option Addr) (n5 : Nat) (c6 : Nat) (z8 : Nat) (r : Bool × json_parser) : Ending → World → Prop := fun e w' => ∃ A0 : Option Addr, ∃ n0 : Nat, ∃ c0 : Nat, e = .returned (.bool r.1) ∧ B.Loc w w' [.box g2 Tb3 [.string r.2.text, .int .i64 r.2.at_, .slice A0 n0 c0, .int .i64 r.2.in_, .int .i64 r.2.code], .own (.slice A0 n0 c0) 31 4 n0 (r.2.out.flatMap enc_api_JNode)] [St w [[g2], (Value.slice A4 n5 c6).ownBlock.toList]] ∧ Ow z8 A0 n0 c0 r.2.out
noncomputable abbrev json_parser_take_C (w : World) (F : Nat → Prop) (g2 : Nat) (Tb3 : Nat) (A4 : Option Addr) (n5 : Nat) (c6 : Nat) (z8 : Nat) (r : Bool × json_parser) : Cx := ⟨Tryd.prog, 71, Tryd.f71, 16, json_parser_take_R w F g2 Tb3 A4 n5 c6 z8 r, w⟩
theorem json_parser_take_calls (w : World) (F : Nat → Prop) (x1 : json_parser) (x10 : ByteArray) (g2 : Nat) (Tb3 : Nat) (z8 : Nat) (A4 : Option Addr) (n5 : Nat) (c6 : Nat) (hz9 : z8 ≤ w.heap.size) (h7 : Ow z8 A4 n5 c6 x1.out) (hF : ∀ b, F b → b < w.heap.size ∧ ∀ o ∈ ([[g2], (Value.slice A4 n5 c6).ownBlock.toList] : List (List Nat)), b ∉ o) (hL0 : B.Loc w w [.box g2 Tb3 [.string x1.text, .int .i64 x1.at_, .slice A4 n5 c6, .int .i64 x1.in_, .int .i64 x1.code], .own (.slice A4 n5 c6) 31 4 n5 (x1.out.flatMap enc_api_JNode)] [Sm w.heap.size F w [[g2], (Value.slice A4 n5 c6).ownBlock.toList], St w [[g2], (Value.slice A4 n5 c6).ownBlock.toList]]) (r : Bool × json_parser) (h : json_parser_take x1 x10 r) : Calls Tryd.prog 71 #[.pointer (some ⟨g2, 0, none⟩), .string x10] w (json_parser_take_R w F g2 Tb3 A4 n5 c6 z8 r) := by
 unfold json_parser_take at h
 refine calls_of_Loc (vs := [.pointer (some ⟨g2, 0, none⟩), .string x10]) 16 Tryd.func71 rfl Tryd.ntmps71 rfl hL0 ?_
 show G (json_parser_take_C w F g2 Tb3 A4 n5 c6 z8 r) _ _ _ _
 refine g_seq (c := q71c0) rfl ?_
 refine g_region (c := q71c1) rfl rfl ?_
 refine wl_v 0 rfl (v_assign rfl) gn rfl ?_
 refine w_end 1 rfl ?_
 refine g_seq (c := q71c2) rfl ?_
 refine g_seq (c := q71c3) rfl ?_
 refine g_region (c := q71c5) rfl rfl ?_
 refine wl_v 0 rfl (v_move rfl) gn rfl ?_
 refine wl_v 1 rfl (v_move rfl) gn rfl ?_
 obtain ⟨r14, hv15, h⟩ := h
 refine wl_s 2 rfl (s_call [.pointer (some ⟨g2, 0, none⟩), .string x10] rfl Tryd.func55 rfl rfl rfl fun w11 hL12 => ?_) gn
 have hp13 : List.Perm ([.box g2 Tb3 [.string x1.text, .int .i64 x1.at_, .slice A4 n5 c6, .int .i64 x1.in_, .int .i64 x1.code], .own (.slice A4 n5 c6) 31 4 n5 (x1.out.flatMap enc_api_JNode)] : List Ent) (([.box g2 Tb3 [.string x1.text, .int .i64 x1.at_, .slice A4 n5 c6, .int .i64 x1.in_, .int .i64 x1.code], .own (.slice A4 n5 c6) 31 4 n5 (x1.out.flatMap enc_api_JNode)] : List Ent) ++ ([] : List Ent)) := perm_of_idx [0, 1] [] rfl rfl (by kernel_rfl)
 refine Calls.mono (json_parser_is_calls w11 (Fl ([] : List Snap)) x1 x10 g2 Tb3 z8 A4 n5 c6 (Nat.le_trans hz9 hL12.env.size) h7 (hL12.hFl (Sl := ([] : List Snap)) hp13 (sels [] rfl)) (hL12.into hp13 (Fl ([] : List Snap))) r14 hv15) ?_
 rintro _ w21 ⟨A16, n17, c18, rfl, hM22, h19⟩
 have hL23 := hL12.call hp13 hM22
 refine ⟨_, _, _, rfl, hL23, ?_⟩
 refine wl_v 3 rfl (v_not rfl) gn rfl ?_
 refine w_end 4 rfl ?_
 by_cases hp24 : r14.1 = true
 ·have h := if_pos' hp24 h
  refine g_false (c := q71c6) rfl _ rfl ((nf hp24)) ?_
  refine g_skip (c := q71c8) rfl ?_
  refine g_seq (c := q71c4) rfl ?_
  refine g_region (c := q71c9) rfl rfl ?_
  refine wl_v 0 rfl (v_move rfl) gn rfl ?_
  refine wl_v 1 rfl (v_nilCheck rfl) gn rfl ?_
  refine wl_v 2 rfl (v_fldB fo_70_1 rfl) gn rfl ?_
  refine wl_v 3 rfl (v_ldB1 0 ld_3 rfl rfl rfl) gn rfl ?_
  refine wl_v 4 rfl (v_bin rfl rfl rfl) gn rfl ?_
  refine wl_v 5 rfl (v_nilCheck rfl) gn rfl ?_
  refine wl_v 6 rfl (v_fldB fo_70_1 rfl) gn rfl ?_
  refine wl_s 7 rfl (s_stB (vs := [.int .i64 (w64 (r14.2.at_ + 1))]) (cs' := [.string r14.2.text, .int .i64 (w64 (r14.2.at_ + 1)), .slice A16 n17 c18, .int .i64 r14.2.in_, .int .i64 r14.2.code]) (M' := [.box g2 Tb3 [.string r14.2.text, .int .i64 (w64 (r14.2.at_ + 1)), .slice A16 n17 c18, .int .i64 r14.2.in_, .int .i64 r14.2.code], .own (.slice A16 n17 c18) 31 4 n17 (r14.2.out.flatMap enc_api_JNode)]) 0 sz_3 rfl rfl rfl rfl rfl rfl rfl rfl rfl ?_) gn
  refine w_end 8 rfl ?_
  refine g_seq (c := q71c10) rfl ?_
  refine g_region (c := q71c11) rfl rfl ?_
  refine wl_v 0 rfl (v_assign rfl) gn rfl ?_
  refine w_end 1 rfl ?_
  refine g_retR (c := q71c12) [.bool true] rfl Tryd.func71 rfl (.tmp rfl (.nil)) fun wr hLr => ?_
  have hMr : B.Loc w wr [.box g2 Tb3 [.string r14.2.text, .int .i64 (w64 (r14.2.at_ + 1)), .slice A16 n17 c18, .int .i64 r14.2.in_, .int .i64 r14.2.code], .own (.slice A16 n17 c18) 31 4 n17 (r14.2.out.flatMap enc_api_JNode)] [St w [[g2], (Value.slice A4 n5 c6).ownBlock.toList]] := hLr.pick (rest := []) (perm_of_idx [0, 1] [] rfl rfl (by kernel_rfl)) (sels [1] rfl)
  show json_parser_take_R w F g2 Tb3 A4 n5 c6 z8 r (.returned (packV [.bool true])) wr
  rw [h]
  exact ⟨A16, n17, c18, rfl, hMr, h19⟩
 ·have h := if_neg' hp24 h
  refine g_true (c := q71c6) rfl _ rfl ((nt (bf hp24))) ?_
  refine g_seq (c := q71c7) rfl ?_
  refine g_region (c := q71c13) rfl rfl ?_
  refine wl_v 0 rfl (v_assign rfl) gn rfl ?_
  refine w_end 1 rfl ?_
  refine g_retR (c := q71c14) [.bool false] rfl Tryd.func71 rfl (.tmp rfl (.nil)) fun wr hLr => ?_
  have hMr : B.Loc w wr [.box g2 Tb3 [.string r14.2.text, .int .i64 r14.2.at_, .slice A16 n17 c18, .int .i64 r14.2.in_, .int .i64 r14.2.code], .own (.slice A16 n17 c18) 31 4 n17 (r14.2.out.flatMap enc_api_JNode)] [St w [[g2], (Value.slice A4 n5 c6).ownBlock.toList]] := hLr.pick (rest := []) (perm_of_idx [0, 1] [] rfl rfl (by kernel_rfl)) (sels [1] rfl)
  show json_parser_take_R w F g2 Tb3 A4 n5 c6 z8 r (.returned (packV [.bool false])) wr
  rw [h]
  exact ⟨A16, n17, c18, rfl, hMr, h19⟩
noncomputable abbrev q74c0 : Code := bodyOf Tryd.f74
noncomputable abbrev q74c1 : Code := Code.fst q74c0
noncomputable abbrev q74c2 : Code := Code.snd q74c0
noncomputable abbrev q74c3 : Code := Code.fst q74c2
noncomputable abbrev q74c4 : Code := Code.snd q74c2
noncomputable abbrev q74c5 : Code := Code.fst q74c3
noncomputable abbrev q74c6 : Code := Code.snd q74c3
noncomputable abbrev q74c7 : Code := Code.fst q74c6
noncomputable abbrev q74c8 : Code := Code.snd q74c6
noncomputable abbrev q74c9 : Code := Code.fst q74c4
noncomputable abbrev q74c10 : Code := Code.snd q74c4
noncomputable abbrev q74c11 : Code := Code.fst q74c9
noncomputable abbrev q74c12 : Code := Code.fst q74c11
noncomputable abbrev q74c13 : Code := Code.fst q74c12
noncomputable abbrev q74c14 : Code := Code.snd q74c12
noncomputable abbrev q74c15 : Code := Code.fst q74c13
noncomputable abbrev q74c16 : Code := Code.snd q74c13
noncomputable abbrev q74c17 : Code := Code.fst q74c16
noncomputable abbrev q74c18 : Code := Code.snd q74c16
noncomputable abbrev q74c19 : Code := Code.fst q74c14
noncomputable abbrev q74c20 : Code := Code.fst q74c10
noncomputable abbrev q74c21 : Code := Code.snd q74c10
noncomputable abbrev q74c22 : Code := Code.fst q74c7
noncomputable abbrev q74c23 : Code := Code.snd q74c7
abbrev json_parser_digits_R (w : World) (F : Nat → Prop) (g2 : Nat) (Tb3 : Nat) (A4 : Option Addr) (n5 : Nat) (c6 : Nat) (z8 : Nat) (r : Bool × json_parser) : Ending → World → Prop := fun e w' => ∃ A0 : Option Addr, ∃ n0 : Nat, ∃ c0 : Nat, e = .returned (.bool r.1) ∧ B.Loc w w' [.box g2 Tb3 [.string r.2.text, .int .i64 r.2.at_, .slice A0 n0 c0, .int .i64 r.2.in_, .int .i64 r.2.code], .own (.slice A0 n0 c0) 31 4 n0 (r.2.out.flatMap enc_api_JNode)] [St w [[g2], (Value.slice A4 n5 c6).ownBlock.toList]] ∧ Ow z8 A0 n0 c0 r.2.out
noncomputable abbrev json_parser_digits_C (w : World) (F : Nat → Prop) (g2 : Nat) (Tb3 : Nat) (A4 : Option Addr) (n5 : Nat) (c6 : Nat) (z8 : Nat) (r : Bool × json_parser) : Cx := ⟨Tryd.prog, 74, Tryd.f74, 15, json_parser_digits_R w F g2 Tb3 A4 n5 c6 z8 r, w⟩
theorem json_parser_digits_calls (w : World) (F : Nat → Prop) (x1 : json_parser) (g2 : Nat) (Tb3 : Nat) (z8 : Nat) (A4 : Option Addr) (n5 : Nat) (c6 : Nat) (hz9 : z8 ≤ w.heap.size) (h7 : Ow z8 A4 n5 c6 x1.out) (hF : ∀ b, F b → b < w.heap.size ∧ ∀ o ∈ ([[g2], (Value.slice A4 n5 c6).ownBlock.toList] : List (List Nat)), b ∉ o) (hL0 : B.Loc w w [.box g2 Tb3 [.string x1.text, .int .i64 x1.at_, .slice A4 n5 c6, .int .i64 x1.in_, .int .i64 x1.code], .own (.slice A4 n5 c6) 31 4 n5 (x1.out.flatMap enc_api_JNode)] [Sm w.heap.size F w [[g2], (Value.slice A4 n5 c6).ownBlock.toList], St w [[g2], (Value.slice A4 n5 c6).ownBlock.toList]]) (r : Bool × json_parser) (h : json_parser_digits x1 r) : Calls Tryd.prog 74 #[.pointer (some ⟨g2, 0, none⟩)] w (json_parser_digits_R w F g2 Tb3 A4 n5 c6 z8 r) := by
 unfold json_parser_digits at h
 refine calls_of_Loc (vs := [.pointer (some ⟨g2, 0, none⟩)]) 15 Tryd.func74 rfl Tryd.ntmps74 rfl hL0 ?_
 show G (json_parser_digits_C w F g2 Tb3 A4 n5 c6 z8 r) _ _ _ _
 refine g_seq (c := q74c0) rfl ?_
 refine g_region (c := q74c1) rfl rfl ?_
 refine wl_v 0 rfl (v_assign rfl) gn rfl ?_
 refine w_end 1 rfl ?_
 refine g_seq (c := q74c2) rfl ?_
 refine g_seq (c := q74c3) rfl ?_
 refine g_region (c := q74c5) rfl rfl ?_
 refine wl_v 0 rfl (v_move rfl) gn rfl ?_
 obtain ⟨r13, hv14, h⟩ := h
 refine wl_s 1 rfl (s_call [.pointer (some ⟨g2, 0, none⟩), .string (⟨#[48, 49, 50, 51, 52, 53, 54, 55, 56, 57]⟩ : ByteArray)] rfl Tryd.func71 rfl rfl rfl fun w10 hL11 => ?_) gn
 have hp12 : List.Perm ([.box g2 Tb3 [.string x1.text, .int .i64 x1.at_, .slice A4 n5 c6, .int .i64 x1.in_, .int .i64 x1.code], .own (.slice A4 n5 c6) 31 4 n5 (x1.out.flatMap enc_api_JNode)] : List Ent) (([.box g2 Tb3 [.string x1.text, .int .i64 x1.at_, .slice A4 n5 c6, .int .i64 x1.in_, .int .i64 x1.code], .own (.slice A4 n5 c6) 31 4 n5 (x1.out.flatMap enc_api_JNode)] : List Ent) ++ ([] : List Ent)) := perm_of_idx [0, 1] [] rfl rfl (by kernel_rfl)
 refine Calls.mono (json_parser_take_calls w10 (Fl ([] : List Snap)) x1 (⟨#[48, 49, 50, 51, 52, 53, 54, 55, 56, 57]⟩ : ByteArray) g2 Tb3 z8 A4 n5 c6 (Nat.le_trans hz9 hL11.env.size) h7 (hL11.hFl (Sl := ([] : List Snap)) hp12 (sels [] rfl)) (hL11.into hp12 (Fl ([] : List Snap))) r13 hv14) ?_
 rintro _ w20 ⟨A15, n16, c17, rfl, hM21, h18⟩
 have hL22 := hL11.call hp12 hM21
 refine ⟨_, _, _, rfl, hL22, ?_⟩
 refine wl_v 2 rfl (v_not rfl) gn rfl ?_
 refine w_end 3 rfl ?_
 by_cases hp23 : r13.1 = true
 ·have h := if_pos' hp23 h
  refine g_false (c := q74c6) rfl _ rfl ((nf hp23)) ?_
  refine g_skip (c := q74c8) rfl ?_
  refine g_seq (c := q74c4) rfl ?_
  refine g_block (c := q74c9) rfl ?_
  refine g_loop (c := q74c11) rfl ?_
  have key1 : ∀ s, Rounds (fun (s : ByteArray × Int × (List api_JNode) × Int × Int) o => json_parser_digits_b1 s.1 s.2.1 s.2.2.1 s.2.2.2.1 s.2.2.2.2 o) s r → (fun (s : ByteArray × Int × (List api_JNode) × Int × Int) => ∀ (A42 : Option Addr) (n43 : Nat) (c44 : Nat) (h45 : Ow z8 A42 n43 c44 s.2.2.1), G (json_parser_digits_C w F g2 Tb3 A4 n5 c6 z8 r) [.code q74c12, .inLoop q74c12, .inBlock 0, .code q74c10] [(0, .pointer (some ⟨g2, 0, none⟩))] [.own (.slice A42 n43 c44) 31 4 n43 (s.2.2.1.flatMap enc_api_JNode), .box g2 Tb3 [.string s.1, .int .i64 s.2.1, .slice A42 n43 c44, .int .i64 s.2.2.2.1, .int .i64 s.2.2.2.2]] [Sm w.heap.size F w [[g2], (Value.slice A4 n5 c6).ownBlock.toList], St w [[g2], (Value.slice A4 n5 c6).ownBlock.toList]]) s := by
   intro s hs
   refine Rounds.ind (mot := (fun (s : ByteArray × Int × (List api_JNode) × Int × Int) => ∀ (A42 : Option Addr) (n43 : Nat) (c44 : Nat) (h45 : Ow z8 A42 n43 c44 s.2.2.1), G (json_parser_digits_C w F g2 Tb3 A4 n5 c6 z8 r) [.code q74c12, .inLoop q74c12, .inBlock 0, .code q74c10] [(0, .pointer (some ⟨g2, 0, none⟩))] [.own (.slice A42 n43 c44) 31 4 n43 (s.2.2.1.flatMap enc_api_JNode), .box g2 Tb3 [.string s.1, .int .i64 s.2.1, .slice A42 n43 c44, .int .i64 s.2.2.2.1, .int .i64 s.2.2.2.2]] [Sm w.heap.size F w [[g2], (Value.slice A4 n5 c6).ownBlock.toList], St w [[g2], (Value.slice A4 n5 c6).ownBlock.toList]])) ?_ hs
   clear hs s
   intro s o1 h hO1
   obtain ⟨x39, x40, x41, x46, x47⟩ := s
   show ∀ (A42 : Option Addr) (n43 : Nat) (c44 : Nat) (h45 : Ow z8 A42 n43 c44 x41), G (json_parser_digits_C w F g2 Tb3 A4 n5 c6 z8 r) [.code q74c12, .inLoop q74c12, .inBlock 0, .code q74c10] [(0, .pointer (some ⟨g2, 0, none⟩))] [.own (.slice A42 n43 c44) 31 4 n43 (x41.flatMap enc_api_JNode), .box g2 Tb3 [.string x39, .int .i64 x40, .slice A42 n43 c44, .int .i64 x46, .int .i64 x47]] [Sm w.heap.size F w [[g2], (Value.slice A4 n5 c6).ownBlock.toList], St w [[g2], (Value.slice A4 n5 c6).ownBlock.toList]]
   intro A42 n43 c44 h45
   have h : json_parser_digits_b1 x39 x40 x41 x46 x47 o1 := h
   unfold json_parser_digits_b1 at h
   refine g_seq (c := q74c12) rfl ?_
   refine g_seq (c := q74c13) rfl ?_
   refine g_region (c := q74c15) rfl rfl ?_
   refine wl_v 0 rfl (v_move rfl) gn rfl ?_
   obtain ⟨r65, hv66, h⟩ := h
   refine wl_s 1 rfl (s_call [.pointer (some ⟨g2, 0, none⟩), .string (⟨#[48, 49, 50, 51, 52, 53, 54, 55, 56, 57]⟩ : ByteArray)] rfl Tryd.func55 rfl rfl rfl fun w62 hL63 => ?_) gn
   have hp64 : List.Perm ([.own (.slice A42 n43 c44) 31 4 n43 (x41.flatMap enc_api_JNode), .box g2 Tb3 [.string x39, .int .i64 x40, .slice A42 n43 c44, .int .i64 x46, .int .i64 x47]] : List Ent) (([.box g2 Tb3 [.string x39, .int .i64 x40, .slice A42 n43 c44, .int .i64 x46, .int .i64 x47], .own (.slice A42 n43 c44) 31 4 n43 (x41.flatMap enc_api_JNode)] : List Ent) ++ ([] : List Ent)) := perm_of_idx [1, 0] [] rfl rfl (by kernel_rfl)
   refine Calls.mono (json_parser_is_calls w62 (Fl ([] : List Snap)) (⟨x39, x40, x41, x46, x47⟩ : json_parser) (⟨#[48, 49, 50, 51, 52, 53, 54, 55, 56, 57]⟩ : ByteArray) g2 Tb3 z8 A42 n43 c44 (Nat.le_trans hz9 hL63.env.size) h45 (hL63.hFl (Sl := ([] : List Snap)) hp64 (sels [] rfl)) (hL63.into hp64 (Fl ([] : List Snap))) r65 hv66) ?_
   rintro _ w72 ⟨A67, n68, c69, rfl, hM73, h70⟩
   have hL74 := hL63.call hp64 hM73
   refine ⟨_, _, _, rfl, hL74, ?_⟩
   refine w_end 2 rfl ?_
   by_cases hp75 : r65.1 = true
   ·have h := if_pos' hp75 h
    refine g_true (c := q74c16) rfl _ rfl (hp75) ?_
    refine g_skip (c := q74c17) rfl ?_
    refine g_block (c := q74c14) rfl ?_
    refine g_region (c := q74c19) rfl rfl ?_
    refine wl_v 0 rfl (v_move rfl) gn rfl ?_
    refine wl_v 1 rfl (v_nilCheck rfl) gn rfl ?_
    refine wl_v 2 rfl (v_fldB fo_70_1 rfl) gn rfl ?_
    refine wl_v 3 rfl (v_ldB1 0 ld_3 rfl rfl rfl) gn rfl ?_
    refine wl_v 4 rfl (v_bin rfl rfl rfl) gn rfl ?_
    refine wl_v 5 rfl (v_nilCheck rfl) gn rfl ?_
    refine wl_v 6 rfl (v_fldB fo_70_1 rfl) gn rfl ?_
    refine wl_s 7 rfl (s_stB (vs := [.int .i64 (w64 (r65.2.at_ + 1))]) (cs' := [.string r65.2.text, .int .i64 (w64 (r65.2.at_ + 1)), .slice A67 n68 c69, .int .i64 r65.2.in_, .int .i64 r65.2.code]) (M' := [.box g2 Tb3 [.string r65.2.text, .int .i64 (w64 (r65.2.at_ + 1)), .slice A67 n68 c69, .int .i64 r65.2.in_, .int .i64 r65.2.code], .own (.slice A67 n68 c69) 31 4 n68 (r65.2.out.flatMap enc_api_JNode)]) 0 sz_3 rfl rfl rfl rfl rfl rfl rfl rfl rfl ?_) gn
    refine w_end 8 rfl ?_
    refine g_inBlock ?_
    refine g_inLoop ?_
    refine g_front 0 rfl ?_
    refine g_front 1 rfl ?_
    have ih := Out.inl hO1 h
    exact g_go [0, 1] (ih A67 n68 c69 h70) ⟨rfl, trivial⟩ (.cons_cons _ (.cons_cons _ (.slnil))) rfl
   ·have h := if_neg' hp75 h
    refine g_false (c := q74c16) rfl _ rfl ((bf hp75)) ?_
    refine g_exit (c := q74c18) [.code q74c10] rfl rfl ?_
    refine g_seq (c := q74c10) rfl ?_
    refine g_region (c := q74c20) rfl rfl ?_
    refine wl_v 0 rfl (v_assign rfl) gn rfl ?_
    refine w_end 1 rfl ?_
    have h := Out.inr hO1 h
    refine g_retR (c := q74c21) [.bool true] rfl Tryd.func74 rfl (.tmp rfl (.nil)) fun wr hLr => ?_
    have hMr : B.Loc w wr [.box g2 Tb3 [.string r65.2.text, .int .i64 r65.2.at_, .slice A67 n68 c69, .int .i64 r65.2.in_, .int .i64 r65.2.code], .own (.slice A67 n68 c69) 31 4 n68 (r65.2.out.flatMap enc_api_JNode)] [St w [[g2], (Value.slice A4 n5 c6).ownBlock.toList]] := hLr.pick (rest := []) (perm_of_idx [0, 1] [] rfl rfl (by kernel_rfl)) (sels [1] rfl)
    show json_parser_digits_R w F g2 Tb3 A4 n5 c6 z8 r (.returned (packV [.bool true])) wr
    rw [h]
    exact ⟨A67, n68, c69, rfl, hMr, h70⟩
  refine g_front 0 rfl ?_
  refine g_front 1 rfl ?_
  exact g_go [0, 1] (key1 _ h A15 n16 c17 h18) ⟨rfl, trivial⟩ (.cons_cons _ (.cons_cons _ (.slnil))) rfl
 ·have h := if_neg' hp23 h
  refine g_true (c := q74c6) rfl _ rfl ((nt (bf hp23))) ?_
  refine g_seq (c := q74c7) rfl ?_
  refine g_region (c := q74c22) rfl rfl ?_
  refine wl_v 0 rfl (v_assign rfl) gn rfl ?_
  refine w_end 1 rfl ?_
  refine g_retR (c := q74c23) [.bool false] rfl Tryd.func74 rfl (.tmp rfl (.nil)) fun wr hLr => ?_
  have hMr : B.Loc w wr [.box g2 Tb3 [.string r13.2.text, .int .i64 r13.2.at_, .slice A15 n16 c17, .int .i64 r13.2.in_, .int .i64 r13.2.code], .own (.slice A15 n16 c17) 31 4 n16 (r13.2.out.flatMap enc_api_JNode)] [St w [[g2], (Value.slice A4 n5 c6).ownBlock.toList]] := hLr.pick (rest := []) (perm_of_idx [0, 1] [] rfl rfl (by kernel_rfl)) (sels [1] rfl)
  show json_parser_digits_R w F g2 Tb3 A4 n5 c6 z8 r (.returned (packV [.bool false])) wr
  rw [h]
  exact ⟨A15, n16, c17, rfl, hMr, h18⟩
noncomputable abbrev q59c0 : Code := bodyOf Tryd.f59
noncomputable abbrev q59c1 : Code := Code.fst q59c0
noncomputable abbrev q59c2 : Code := Code.snd q59c0
noncomputable abbrev q59c3 : Code := Code.fst q59c2
noncomputable abbrev q59c4 : Code := Code.snd q59c2
noncomputable abbrev q59c5 : Code := Code.fst q59c3
noncomputable abbrev q59c6 : Code := Code.snd q59c3
noncomputable abbrev q59c7 : Code := Code.fst q59c6
noncomputable abbrev q59c8 : Code := Code.snd q59c6
noncomputable abbrev q59c9 : Code := Code.fst q59c4
noncomputable abbrev q59c10 : Code := Code.snd q59c4
noncomputable abbrev q59c11 : Code := Code.fst q59c9
noncomputable abbrev q59c12 : Code := Code.snd q59c9
noncomputable abbrev q59c13 : Code := Code.fst q59c12
noncomputable abbrev q59c14 : Code := Code.snd q59c12
noncomputable abbrev q59c15 : Code := Code.fst q59c14
noncomputable abbrev q59c16 : Code := Code.snd q59c14
noncomputable abbrev q59c17 : Code := Code.fst q59c16
noncomputable abbrev q59c18 : Code := Code.snd q59c16
noncomputable abbrev q59c19 : Code := Code.fst q59c17
noncomputable abbrev q59c20 : Code := Code.snd q59c17
noncomputable abbrev q59c21 : Code := Code.fst q59c10
noncomputable abbrev q59c22 : Code := Code.snd q59c10
noncomputable abbrev q59c23 : Code := Code.fst q59c21
noncomputable abbrev q59c24 : Code := Code.snd q59c21
noncomputable abbrev q59c25 : Code := Code.fst q59c24
noncomputable abbrev q59c26 : Code := Code.snd q59c24
noncomputable abbrev q59c27 : Code := Code.fst q59c25
noncomputable abbrev q59c28 : Code := Code.snd q59c25
noncomputable abbrev q59c29 : Code := Code.fst q59c28
noncomputable abbrev q59c30 : Code := Code.snd q59c28
noncomputable abbrev q59c31 : Code := Code.fst q59c30
noncomputable abbrev q59c32 : Code := Code.snd q59c30
noncomputable abbrev q59c33 : Code := Code.fst q59c31
noncomputable abbrev q59c34 : Code := Code.snd q59c31
noncomputable abbrev q59c35 : Code := Code.fst q59c22
noncomputable abbrev q59c36 : Code := Code.snd q59c22
noncomputable abbrev q59c37 : Code := Code.fst q59c35
noncomputable abbrev q59c38 : Code := Code.snd q59c35
noncomputable abbrev q59c39 : Code := Code.fst q59c38
noncomputable abbrev q59c40 : Code := Code.snd q59c38
noncomputable abbrev q59c41 : Code := Code.fst q59c39
noncomputable abbrev q59c42 : Code := Code.snd q59c39
noncomputable abbrev q59c43 : Code := Code.fst q59c42
noncomputable abbrev q59c44 : Code := Code.snd q59c42
noncomputable abbrev q59c45 : Code := Code.fst q59c43
noncomputable abbrev q59c46 : Code := Code.snd q59c43
noncomputable abbrev q59c47 : Code := Code.fst q59c46
noncomputable abbrev q59c48 : Code := Code.snd q59c46
noncomputable abbrev q59c49 : Code := Code.fst q59c44
noncomputable abbrev q59c50 : Code := Code.snd q59c44
noncomputable abbrev q59c51 : Code := Code.fst q59c36
noncomputable abbrev q59c52 : Code := Code.snd q59c36
abbrev json_parser_number_R (w : World) (F : Nat → Prop) (g2 : Nat) (Tb3 : Nat) (A4 : Option Addr) (n5 : Nat) (c6 : Nat) (z8 : Nat) (r : Bool × json_parser) : Ending → World → Prop := fun e w' => ∃ A0 : Option Addr, ∃ n0 : Nat, ∃ c0 : Nat, e = .returned (.bool r.1) ∧ B.Loc w w' [.box g2 Tb3 [.string r.2.text, .int .i64 r.2.at_, .slice A0 n0 c0, .int .i64 r.2.in_, .int .i64 r.2.code], .own (.slice A0 n0 c0) 31 4 n0 (r.2.out.flatMap enc_api_JNode)] [St w [[g2], (Value.slice A4 n5 c6).ownBlock.toList]] ∧ Ow z8 A0 n0 c0 r.2.out
noncomputable abbrev json_parser_number_C (w : World) (F : Nat → Prop) (g2 : Nat) (Tb3 : Nat) (A4 : Option Addr) (n5 : Nat) (c6 : Nat) (z8 : Nat) (r : Bool × json_parser) : Cx := ⟨Tryd.prog, 59, Tryd.f59, 56, json_parser_number_R w F g2 Tb3 A4 n5 c6 z8 r, w⟩
theorem json_parser_number_calls (w : World) (F : Nat → Prop) (x1 : json_parser) (g2 : Nat) (Tb3 : Nat) (z8 : Nat) (A4 : Option Addr) (n5 : Nat) (c6 : Nat) (hz9 : z8 ≤ w.heap.size) (h7 : Ow z8 A4 n5 c6 x1.out) (hF : ∀ b, F b → b < w.heap.size ∧ ∀ o ∈ ([[g2], (Value.slice A4 n5 c6).ownBlock.toList] : List (List Nat)), b ∉ o) (hL0 : B.Loc w w [.box g2 Tb3 [.string x1.text, .int .i64 x1.at_, .slice A4 n5 c6, .int .i64 x1.in_, .int .i64 x1.code], .own (.slice A4 n5 c6) 31 4 n5 (x1.out.flatMap enc_api_JNode)] [Sm w.heap.size F w [[g2], (Value.slice A4 n5 c6).ownBlock.toList], St w [[g2], (Value.slice A4 n5 c6).ownBlock.toList]]) (r : Bool × json_parser) (h : json_parser_number x1 r) : Calls Tryd.prog 59 #[.pointer (some ⟨g2, 0, none⟩)] w (json_parser_number_R w F g2 Tb3 A4 n5 c6 z8 r) := by
 unfold json_parser_number at h
 refine calls_of_Loc (vs := [.pointer (some ⟨g2, 0, none⟩)]) 56 Tryd.func59 rfl Tryd.ntmps59 rfl hL0 ?_
 show G (json_parser_number_C w F g2 Tb3 A4 n5 c6 z8 r) _ _ _ _
 refine g_seq (c := q59c0) rfl ?_
 refine g_region (c := q59c1) rfl rfl ?_
 refine wl_v 0 rfl (v_assign rfl) gn rfl ?_
 refine w_end 1 rfl ?_
 refine g_seq (c := q59c2) rfl ?_
 refine g_seq (c := q59c3) rfl ?_
 refine g_region (c := q59c5) rfl rfl ?_
 refine wl_v 0 rfl (v_move rfl) gn rfl ?_
 obtain ⟨r13, hv14, h⟩ := h
 refine wl_s 1 rfl (s_call [.pointer (some ⟨g2, 0, none⟩), .string (⟨#[45]⟩ : ByteArray)] rfl Tryd.func55 rfl rfl rfl fun w10 hL11 => ?_) gn
 have hp12 : List.Perm ([.box g2 Tb3 [.string x1.text, .int .i64 x1.at_, .slice A4 n5 c6, .int .i64 x1.in_, .int .i64 x1.code], .own (.slice A4 n5 c6) 31 4 n5 (x1.out.flatMap enc_api_JNode)] : List Ent) (([.box g2 Tb3 [.string x1.text, .int .i64 x1.at_, .slice A4 n5 c6, .int .i64 x1.in_, .int .i64 x1.code], .own (.slice A4 n5 c6) 31 4 n5 (x1.out.flatMap enc_api_JNode)] : List Ent) ++ ([] : List Ent)) := perm_of_idx [0, 1] [] rfl rfl (by kernel_rfl)
 refine Calls.mono (json_parser_is_calls w10 (Fl ([] : List Snap)) x1 (⟨#[45]⟩ : ByteArray) g2 Tb3 z8 A4 n5 c6 (Nat.le_trans hz9 hL11.env.size) h7 (hL11.hFl (Sl := ([] : List Snap)) hp12 (sels [] rfl)) (hL11.into hp12 (Fl ([] : List Snap))) r13 hv14) ?_
 rintro _ w20 ⟨A15, n16, c17, rfl, hM21, h18⟩
 have hL22 := hL11.call hp12 hM21
 refine ⟨_, _, _, rfl, hL22, ?_⟩
 refine w_end 2 rfl ?_
 have j1 : ∀ (x25 : Int) (h : json_parser_number_j1 r13 x25 r) , G (json_parser_number_C w F g2 Tb3 A4 n5 c6 z8 r) [.code q59c4] [(0, .pointer (some ⟨g2, 0, none⟩))] [.box g2 Tb3 [.string r13.2.text, .int .i64 x25, .slice A15 n16 c17, .int .i64 r13.2.in_, .int .i64 r13.2.code], .own (.slice A15 n16 c17) 31 4 n16 (r13.2.out.flatMap enc_api_JNode)] [Sm w.heap.size F w [[g2], (Value.slice A4 n5 c6).ownBlock.toList], St w [[g2], (Value.slice A4 n5 c6).ownBlock.toList]] := by
  intro x25 h
  unfold json_parser_number_j1 at h
  refine g_seq (c := q59c4) rfl ?_
  refine g_seq (c := q59c9) rfl ?_
  refine g_region (c := q59c11) rfl rfl ?_
  refine wl_v 0 rfl (v_move rfl) gn rfl ?_
  obtain ⟨r29, hv30, h⟩ := h
  refine wl_s 1 rfl (s_call [.pointer (some ⟨g2, 0, none⟩), .string (⟨#[48]⟩ : ByteArray)] rfl Tryd.func55 rfl rfl rfl fun w26 hL27 => ?_) gn
  have hp28 : List.Perm ([.box g2 Tb3 [.string r13.2.text, .int .i64 x25, .slice A15 n16 c17, .int .i64 r13.2.in_, .int .i64 r13.2.code], .own (.slice A15 n16 c17) 31 4 n16 (r13.2.out.flatMap enc_api_JNode)] : List Ent) (([.box g2 Tb3 [.string r13.2.text, .int .i64 x25, .slice A15 n16 c17, .int .i64 r13.2.in_, .int .i64 r13.2.code], .own (.slice A15 n16 c17) 31 4 n16 (r13.2.out.flatMap enc_api_JNode)] : List Ent) ++ ([] : List Ent)) := perm_of_idx [0, 1] [] rfl rfl (by kernel_rfl)
  refine Calls.mono (json_parser_is_calls w26 (Fl ([] : List Snap)) (⟨r13.2.text, x25, r13.2.out, r13.2.in_, r13.2.code⟩ : json_parser) (⟨#[48]⟩ : ByteArray) g2 Tb3 z8 A15 n16 c17 (Nat.le_trans hz9 hL27.env.size) h18 (hL27.hFl (Sl := ([] : List Snap)) hp28 (sels [] rfl)) (hL27.into hp28 (Fl ([] : List Snap))) r29 hv30) ?_
  rintro _ w36 ⟨A31, n32, c33, rfl, hM37, h34⟩
  have hL38 := hL27.call hp28 hM37
  refine ⟨_, _, _, rfl, hL38, ?_⟩
  refine w_end 2 rfl ?_
  have j2 : ∀ (x55 : ByteArray) (x56 : Int) (x57 : List api_JNode) (x62 : Int) (x63 : Int) (h : json_parser_number_j2 x55 x56 x57 x62 x63 r) (A58 : Option Addr) (n59 : Nat) (c60 : Nat) (h61 : Ow z8 A58 n59 c60 x57), G (json_parser_number_C w F g2 Tb3 A4 n5 c6 z8 r) [.code q59c10] [(0, .pointer (some ⟨g2, 0, none⟩))] [.own (.slice A58 n59 c60) 31 4 n59 (x57.flatMap enc_api_JNode), .box g2 Tb3 [.string x55, .int .i64 x56, .slice A58 n59 c60, .int .i64 x62, .int .i64 x63]] [Sm w.heap.size F w [[g2], (Value.slice A4 n5 c6).ownBlock.toList], St w [[g2], (Value.slice A4 n5 c6).ownBlock.toList]] := by
   intro x55 x56 x57 x62 x63 h A58 n59 c60 h61
   unfold json_parser_number_j2 at h
   refine g_seq (c := q59c10) rfl ?_
   refine g_seq (c := q59c21) rfl ?_
   refine g_region (c := q59c23) rfl rfl ?_
   refine wl_v 0 rfl (v_move rfl) gn rfl ?_
   obtain ⟨r68, hv69, h⟩ := h
   refine wl_s 1 rfl (s_call [.pointer (some ⟨g2, 0, none⟩), .string (⟨#[46]⟩ : ByteArray)] rfl Tryd.func55 rfl rfl rfl fun w65 hL66 => ?_) gn
   have hp67 : List.Perm ([.own (.slice A58 n59 c60) 31 4 n59 (x57.flatMap enc_api_JNode), .box g2 Tb3 [.string x55, .int .i64 x56, .slice A58 n59 c60, .int .i64 x62, .int .i64 x63]] : List Ent) (([.box g2 Tb3 [.string x55, .int .i64 x56, .slice A58 n59 c60, .int .i64 x62, .int .i64 x63], .own (.slice A58 n59 c60) 31 4 n59 (x57.flatMap enc_api_JNode)] : List Ent) ++ ([] : List Ent)) := perm_of_idx [1, 0] [] rfl rfl (by kernel_rfl)
   refine Calls.mono (json_parser_is_calls w65 (Fl ([] : List Snap)) (⟨x55, x56, x57, x62, x63⟩ : json_parser) (⟨#[46]⟩ : ByteArray) g2 Tb3 z8 A58 n59 c60 (Nat.le_trans hz9 hL66.env.size) h61 (hL66.hFl (Sl := ([] : List Snap)) hp67 (sels [] rfl)) (hL66.into hp67 (Fl ([] : List Snap))) r68 hv69) ?_
   rintro _ w75 ⟨A70, n71, c72, rfl, hM76, h73⟩
   have hL77 := hL66.call hp67 hM76
   refine ⟨_, _, _, rfl, hL77, ?_⟩
   refine w_end 2 rfl ?_
   have j3 : ∀ (x94 : ByteArray) (x95 : Int) (x96 : List api_JNode) (x101 : Int) (x102 : Int) (h : json_parser_number_j3 x94 x95 x96 x101 x102 r) (A97 : Option Addr) (n98 : Nat) (c99 : Nat) (h100 : Ow z8 A97 n98 c99 x96), G (json_parser_number_C w F g2 Tb3 A4 n5 c6 z8 r) [.code q59c22] [(0, .pointer (some ⟨g2, 0, none⟩))] [.own (.slice A97 n98 c99) 31 4 n98 (x96.flatMap enc_api_JNode), .box g2 Tb3 [.string x94, .int .i64 x95, .slice A97 n98 c99, .int .i64 x101, .int .i64 x102]] [Sm w.heap.size F w [[g2], (Value.slice A4 n5 c6).ownBlock.toList], St w [[g2], (Value.slice A4 n5 c6).ownBlock.toList]] := by
    intro x94 x95 x96 x101 x102 h A97 n98 c99 h100
    unfold json_parser_number_j3 at h
    refine g_seq (c := q59c22) rfl ?_
    refine g_seq (c := q59c35) rfl ?_
    refine g_region (c := q59c37) rfl rfl ?_
    refine wl_v 0 rfl (v_move rfl) gn rfl ?_
    obtain ⟨r106, hv107, h⟩ := h
    refine wl_s 1 rfl (s_call [.pointer (some ⟨g2, 0, none⟩), .string (⟨#[101, 69]⟩ : ByteArray)] rfl Tryd.func55 rfl rfl rfl fun w103 hL104 => ?_) gn
    have hp105 : List.Perm ([.own (.slice A97 n98 c99) 31 4 n98 (x96.flatMap enc_api_JNode), .box g2 Tb3 [.string x94, .int .i64 x95, .slice A97 n98 c99, .int .i64 x101, .int .i64 x102]] : List Ent) (([.box g2 Tb3 [.string x94, .int .i64 x95, .slice A97 n98 c99, .int .i64 x101, .int .i64 x102], .own (.slice A97 n98 c99) 31 4 n98 (x96.flatMap enc_api_JNode)] : List Ent) ++ ([] : List Ent)) := perm_of_idx [1, 0] [] rfl rfl (by kernel_rfl)
    refine Calls.mono (json_parser_is_calls w103 (Fl ([] : List Snap)) (⟨x94, x95, x96, x101, x102⟩ : json_parser) (⟨#[101, 69]⟩ : ByteArray) g2 Tb3 z8 A97 n98 c99 (Nat.le_trans hz9 hL104.env.size) h100 (hL104.hFl (Sl := ([] : List Snap)) hp105 (sels [] rfl)) (hL104.into hp105 (Fl ([] : List Snap))) r106 hv107) ?_
    rintro _ w113 ⟨A108, n109, c110, rfl, hM114, h111⟩
    have hL115 := hL104.call hp105 hM114
    refine ⟨_, _, _, rfl, hL115, ?_⟩
    refine w_end 2 rfl ?_
    by_cases hp116 : r106.1 = true
    ·have h := if_pos' hp116 h
     refine g_true (c := q59c38) rfl _ rfl (hp116) ?_
     refine g_seq (c := q59c39) rfl ?_
     refine g_region (c := q59c41) rfl rfl ?_
     refine wl_v 0 rfl (v_move rfl) gn rfl ?_
     refine wl_v 1 rfl (v_nilCheck rfl) gn rfl ?_
     refine wl_v 2 rfl (v_fldB fo_70_1 rfl) gn rfl ?_
     refine wl_v 3 rfl (v_ldB1 0 ld_3 rfl rfl rfl) gn rfl ?_
     refine wl_v 4 rfl (v_bin rfl rfl rfl) gn rfl ?_
     refine wl_v 5 rfl (v_nilCheck rfl) gn rfl ?_
     refine wl_v 6 rfl (v_fldB fo_70_1 rfl) gn rfl ?_
     refine wl_s 7 rfl (s_stB (vs := [.int .i64 (w64 (r106.2.at_ + 1))]) (cs' := [.string r106.2.text, .int .i64 (w64 (r106.2.at_ + 1)), .slice A108 n109 c110, .int .i64 r106.2.in_, .int .i64 r106.2.code]) (M' := [.box g2 Tb3 [.string r106.2.text, .int .i64 (w64 (r106.2.at_ + 1)), .slice A108 n109 c110, .int .i64 r106.2.in_, .int .i64 r106.2.code], .own (.slice A108 n109 c110) 31 4 n109 (r106.2.out.flatMap enc_api_JNode)]) 0 sz_3 rfl rfl rfl rfl rfl rfl rfl rfl rfl ?_) gn
     refine w_end 8 rfl ?_
     refine g_seq (c := q59c42) rfl ?_
     refine g_seq (c := q59c43) rfl ?_
     refine g_region (c := q59c45) rfl rfl ?_
     refine wl_v 0 rfl (v_move rfl) gn rfl ?_
     obtain ⟨r120, hv121, h⟩ := h
     refine wl_s 1 rfl (s_call [.pointer (some ⟨g2, 0, none⟩), .string (⟨#[43, 45]⟩ : ByteArray)] rfl Tryd.func55 rfl rfl rfl fun w117 hL118 => ?_) gn
     have hp119 : List.Perm ([.box g2 Tb3 [.string r106.2.text, .int .i64 (w64 (r106.2.at_ + 1)), .slice A108 n109 c110, .int .i64 r106.2.in_, .int .i64 r106.2.code], .own (.slice A108 n109 c110) 31 4 n109 (r106.2.out.flatMap enc_api_JNode)] : List Ent) (([.box g2 Tb3 [.string r106.2.text, .int .i64 (w64 (r106.2.at_ + 1)), .slice A108 n109 c110, .int .i64 r106.2.in_, .int .i64 r106.2.code], .own (.slice A108 n109 c110) 31 4 n109 (r106.2.out.flatMap enc_api_JNode)] : List Ent) ++ ([] : List Ent)) := perm_of_idx [0, 1] [] rfl rfl (by kernel_rfl)
     refine Calls.mono (json_parser_is_calls w117 (Fl ([] : List Snap)) (⟨r106.2.text, w64 (r106.2.at_ + 1), r106.2.out, r106.2.in_, r106.2.code⟩ : json_parser) (⟨#[43, 45]⟩ : ByteArray) g2 Tb3 z8 A108 n109 c110 (Nat.le_trans hz9 hL118.env.size) h111 (hL118.hFl (Sl := ([] : List Snap)) hp119 (sels [] rfl)) (hL118.into hp119 (Fl ([] : List Snap))) r120 hv121) ?_
     rintro _ w127 ⟨A122, n123, c124, rfl, hM128, h125⟩
     have hL129 := hL118.call hp119 hM128
     refine ⟨_, _, _, rfl, hL129, ?_⟩
     refine w_end 2 rfl ?_
     have j4 : ∀ (x132 : Int) (h : json_parser_number_j4 r120 x132 r) , G (json_parser_number_C w F g2 Tb3 A4 n5 c6 z8 r) [.code q59c44, .code q59c36] [(0, .pointer (some ⟨g2, 0, none⟩))] [.box g2 Tb3 [.string r120.2.text, .int .i64 x132, .slice A122 n123 c124, .int .i64 r120.2.in_, .int .i64 r120.2.code], .own (.slice A122 n123 c124) 31 4 n123 (r120.2.out.flatMap enc_api_JNode)] [Sm w.heap.size F w [[g2], (Value.slice A4 n5 c6).ownBlock.toList], St w [[g2], (Value.slice A4 n5 c6).ownBlock.toList]] := by
      intro x132 h
      unfold json_parser_number_j4 at h
      refine g_seq (c := q59c44) rfl ?_
      refine g_region (c := q59c49) rfl rfl ?_
      refine wl_v 0 rfl (v_move rfl) gn rfl ?_
      obtain ⟨r136, hv137, h⟩ := h
      refine wl_s 1 rfl (s_call [.pointer (some ⟨g2, 0, none⟩)] rfl Tryd.func74 rfl rfl rfl fun w133 hL134 => ?_) gn
      have hp135 : List.Perm ([.box g2 Tb3 [.string r120.2.text, .int .i64 x132, .slice A122 n123 c124, .int .i64 r120.2.in_, .int .i64 r120.2.code], .own (.slice A122 n123 c124) 31 4 n123 (r120.2.out.flatMap enc_api_JNode)] : List Ent) (([.box g2 Tb3 [.string r120.2.text, .int .i64 x132, .slice A122 n123 c124, .int .i64 r120.2.in_, .int .i64 r120.2.code], .own (.slice A122 n123 c124) 31 4 n123 (r120.2.out.flatMap enc_api_JNode)] : List Ent) ++ ([] : List Ent)) := perm_of_idx [0, 1] [] rfl rfl (by kernel_rfl)
      refine Calls.mono (json_parser_digits_calls w133 (Fl ([] : List Snap)) (⟨r120.2.text, x132, r120.2.out, r120.2.in_, r120.2.code⟩ : json_parser) g2 Tb3 z8 A122 n123 c124 (Nat.le_trans hz9 hL134.env.size) h125 (hL134.hFl (Sl := ([] : List Snap)) hp135 (sels [] rfl)) (hL134.into hp135 (Fl ([] : List Snap))) r136 hv137) ?_
      rintro _ w143 ⟨A138, n139, c140, rfl, hM144, h141⟩
      have hL145 := hL134.call hp135 hM144
      refine ⟨_, _, _, rfl, hL145, ?_⟩
      refine wl_v 2 rfl (v_assign rfl) gn rfl ?_
      refine w_end 3 rfl ?_
      refine g_retR (c := q59c50) [.bool r136.1] rfl Tryd.func59 rfl (.tmp rfl (.nil)) fun wr hLr => ?_
      have hMr : B.Loc w wr [.box g2 Tb3 [.string r136.2.text, .int .i64 r136.2.at_, .slice A138 n139 c140, .int .i64 r136.2.in_, .int .i64 r136.2.code], .own (.slice A138 n139 c140) 31 4 n139 (r136.2.out.flatMap enc_api_JNode)] [St w [[g2], (Value.slice A4 n5 c6).ownBlock.toList]] := hLr.pick (rest := []) (perm_of_idx [0, 1] [] rfl rfl (by kernel_rfl)) (sels [1] rfl)
      show json_parser_number_R w F g2 Tb3 A4 n5 c6 z8 r (.returned (packV [.bool r136.1])) wr
      rw [h]
      exact ⟨A138, n139, c140, rfl, hMr, h141⟩
     by_cases hp130 : r120.1 = true
     ·have h := if_pos' hp130 h
      refine g_true (c := q59c46) rfl _ rfl (hp130) ?_
      refine g_region (c := q59c47) rfl rfl ?_
      refine wl_v 0 rfl (v_move rfl) gn rfl ?_
      refine wl_v 1 rfl (v_nilCheck rfl) gn rfl ?_
      refine wl_v 2 rfl (v_fldB fo_70_1 rfl) gn rfl ?_
      refine wl_v 3 rfl (v_ldB1 0 ld_3 rfl rfl rfl) gn rfl ?_
      refine wl_v 4 rfl (v_bin rfl rfl rfl) gn rfl ?_
      refine wl_v 5 rfl (v_nilCheck rfl) gn rfl ?_
      refine wl_v 6 rfl (v_fldB fo_70_1 rfl) gn rfl ?_
      refine wl_s 7 rfl (s_stB (vs := [.int .i64 (w64 (r120.2.at_ + 1))]) (cs' := [.string r120.2.text, .int .i64 (w64 (r120.2.at_ + 1)), .slice A122 n123 c124, .int .i64 r120.2.in_, .int .i64 r120.2.code]) (M' := [.box g2 Tb3 [.string r120.2.text, .int .i64 (w64 (r120.2.at_ + 1)), .slice A122 n123 c124, .int .i64 r120.2.in_, .int .i64 r120.2.code], .own (.slice A122 n123 c124) 31 4 n123 (r120.2.out.flatMap enc_api_JNode)]) 0 sz_3 rfl rfl rfl rfl rfl rfl rfl rfl rfl ?_) gn
      refine w_end 8 rfl ?_
      exact g_go [0, 1] (j4 (w64 (r120.2.at_ + 1)) h) ⟨rfl, trivial⟩ (.cons_cons _ (.cons_cons _ (.slnil))) rfl
     ·have h := if_neg' hp130 h
      refine g_false (c := q59c46) rfl _ rfl ((bf hp130)) ?_
      refine g_skip (c := q59c48) rfl ?_
      exact g_go [0, 1] (j4 r120.2.at_ h) ⟨rfl, trivial⟩ (.cons_cons _ (.cons_cons _ (.slnil))) rfl
    ·have h := if_neg' hp116 h
     refine g_false (c := q59c38) rfl _ rfl ((bf hp116)) ?_
     refine g_skip (c := q59c40) rfl ?_
     refine g_seq (c := q59c36) rfl ?_
     refine g_region (c := q59c51) rfl rfl ?_
     refine wl_v 0 rfl (v_assign rfl) gn rfl ?_
     refine w_end 1 rfl ?_
     refine g_retR (c := q59c52) [.bool true] rfl Tryd.func59 rfl (.tmp rfl (.nil)) fun wr hLr => ?_
     have hMr : B.Loc w wr [.box g2 Tb3 [.string r106.2.text, .int .i64 r106.2.at_, .slice A108 n109 c110, .int .i64 r106.2.in_, .int .i64 r106.2.code], .own (.slice A108 n109 c110) 31 4 n109 (r106.2.out.flatMap enc_api_JNode)] [St w [[g2], (Value.slice A4 n5 c6).ownBlock.toList]] := hLr.pick (rest := []) (perm_of_idx [0, 1] [] rfl rfl (by kernel_rfl)) (sels [1] rfl)
     show json_parser_number_R w F g2 Tb3 A4 n5 c6 z8 r (.returned (packV [.bool true])) wr
     rw [h]
     exact ⟨A108, n109, c110, rfl, hMr, h111⟩
   by_cases hp78 : r68.1 = true
   ·have h := if_pos' hp78 h
    refine g_true (c := q59c24) rfl _ rfl (hp78) ?_
    refine g_seq (c := q59c25) rfl ?_
    refine g_region (c := q59c27) rfl rfl ?_
    refine wl_v 0 rfl (v_move rfl) gn rfl ?_
    refine wl_v 1 rfl (v_nilCheck rfl) gn rfl ?_
    refine wl_v 2 rfl (v_fldB fo_70_1 rfl) gn rfl ?_
    refine wl_v 3 rfl (v_ldB1 0 ld_3 rfl rfl rfl) gn rfl ?_
    refine wl_v 4 rfl (v_bin rfl rfl rfl) gn rfl ?_
    refine wl_v 5 rfl (v_nilCheck rfl) gn rfl ?_
    refine wl_v 6 rfl (v_fldB fo_70_1 rfl) gn rfl ?_
    refine wl_s 7 rfl (s_stB (vs := [.int .i64 (w64 (r68.2.at_ + 1))]) (cs' := [.string r68.2.text, .int .i64 (w64 (r68.2.at_ + 1)), .slice A70 n71 c72, .int .i64 r68.2.in_, .int .i64 r68.2.code]) (M' := [.box g2 Tb3 [.string r68.2.text, .int .i64 (w64 (r68.2.at_ + 1)), .slice A70 n71 c72, .int .i64 r68.2.in_, .int .i64 r68.2.code], .own (.slice A70 n71 c72) 31 4 n71 (r68.2.out.flatMap enc_api_JNode)]) 0 sz_3 rfl rfl rfl rfl rfl rfl rfl rfl rfl ?_) gn
    refine w_end 8 rfl ?_
    refine g_seq (c := q59c28) rfl ?_
    refine g_region (c := q59c29) rfl rfl ?_
    refine wl_v 0 rfl (v_move rfl) gn rfl ?_
    obtain ⟨r149, hv150, h⟩ := h
    refine wl_s 1 rfl (s_call [.pointer (some ⟨g2, 0, none⟩)] rfl Tryd.func74 rfl rfl rfl fun w146 hL147 => ?_) gn
    have hp148 : List.Perm ([.box g2 Tb3 [.string r68.2.text, .int .i64 (w64 (r68.2.at_ + 1)), .slice A70 n71 c72, .int .i64 r68.2.in_, .int .i64 r68.2.code], .own (.slice A70 n71 c72) 31 4 n71 (r68.2.out.flatMap enc_api_JNode)] : List Ent) (([.box g2 Tb3 [.string r68.2.text, .int .i64 (w64 (r68.2.at_ + 1)), .slice A70 n71 c72, .int .i64 r68.2.in_, .int .i64 r68.2.code], .own (.slice A70 n71 c72) 31 4 n71 (r68.2.out.flatMap enc_api_JNode)] : List Ent) ++ ([] : List Ent)) := perm_of_idx [0, 1] [] rfl rfl (by kernel_rfl)
    refine Calls.mono (json_parser_digits_calls w146 (Fl ([] : List Snap)) (⟨r68.2.text, w64 (r68.2.at_ + 1), r68.2.out, r68.2.in_, r68.2.code⟩ : json_parser) g2 Tb3 z8 A70 n71 c72 (Nat.le_trans hz9 hL147.env.size) h73 (hL147.hFl (Sl := ([] : List Snap)) hp148 (sels [] rfl)) (hL147.into hp148 (Fl ([] : List Snap))) r149 hv150) ?_
    rintro _ w156 ⟨A151, n152, c153, rfl, hM157, h154⟩
    have hL158 := hL147.call hp148 hM157
    refine ⟨_, _, _, rfl, hL158, ?_⟩
    refine wl_v 2 rfl (v_not rfl) gn rfl ?_
    refine w_end 3 rfl ?_
    by_cases hp159 : r149.1 = true
    ·have h := if_pos' hp159 h
     refine g_false (c := q59c30) rfl _ rfl ((nf hp159)) ?_
     refine g_skip (c := q59c32) rfl ?_
     refine g_front 0 rfl ?_
     refine g_front 1 rfl ?_
     exact g_go [0, 1] (j3 r149.2.text r149.2.at_ r149.2.out r149.2.in_ r149.2.code h A151 n152 c153 h154) ⟨rfl, trivial⟩ (.cons_cons _ (.cons_cons _ (.slnil))) rfl
    ·have h := if_neg' hp159 h
     refine g_true (c := q59c30) rfl _ rfl ((nt (bf hp159))) ?_
     refine g_seq (c := q59c31) rfl ?_
     refine g_region (c := q59c33) rfl rfl ?_
     refine wl_v 0 rfl (v_assign rfl) gn rfl ?_
     refine w_end 1 rfl ?_
     refine g_retR (c := q59c34) [.bool false] rfl Tryd.func59 rfl (.tmp rfl (.nil)) fun wr hLr => ?_
     have hMr : B.Loc w wr [.box g2 Tb3 [.string r149.2.text, .int .i64 r149.2.at_, .slice A151 n152 c153, .int .i64 r149.2.in_, .int .i64 r149.2.code], .own (.slice A151 n152 c153) 31 4 n152 (r149.2.out.flatMap enc_api_JNode)] [St w [[g2], (Value.slice A4 n5 c6).ownBlock.toList]] := hLr.pick (rest := []) (perm_of_idx [0, 1] [] rfl rfl (by kernel_rfl)) (sels [1] rfl)
     show json_parser_number_R w F g2 Tb3 A4 n5 c6 z8 r (.returned (packV [.bool false])) wr
     rw [h]
     exact ⟨A151, n152, c153, rfl, hMr, h154⟩
   ·have h := if_neg' hp78 h
    refine g_false (c := q59c24) rfl _ rfl ((bf hp78)) ?_
    refine g_skip (c := q59c26) rfl ?_
    refine g_front 0 rfl ?_
    refine g_front 1 rfl ?_
    exact g_go [0, 1] (j3 r68.2.text r68.2.at_ r68.2.out r68.2.in_ r68.2.code h A70 n71 c72 h73) ⟨rfl, trivial⟩ (.cons_cons _ (.cons_cons _ (.slnil))) rfl
  by_cases hp39 : r29.1 = true
  ·have h := if_pos' hp39 h
   refine g_true (c := q59c12) rfl _ rfl (hp39) ?_
   refine g_region (c := q59c13) rfl rfl ?_
   refine wl_v 0 rfl (v_move rfl) gn rfl ?_
   refine wl_v 1 rfl (v_nilCheck rfl) gn rfl ?_
   refine wl_v 2 rfl (v_fldB fo_70_1 rfl) gn rfl ?_
   refine wl_v 3 rfl (v_ldB1 0 ld_3 rfl rfl rfl) gn rfl ?_
   refine wl_v 4 rfl (v_bin rfl rfl rfl) gn rfl ?_
   refine wl_v 5 rfl (v_nilCheck rfl) gn rfl ?_
   refine wl_v 6 rfl (v_fldB fo_70_1 rfl) gn rfl ?_
   refine wl_s 7 rfl (s_stB (vs := [.int .i64 (w64 (r29.2.at_ + 1))]) (cs' := [.string r29.2.text, .int .i64 (w64 (r29.2.at_ + 1)), .slice A31 n32 c33, .int .i64 r29.2.in_, .int .i64 r29.2.code]) (M' := [.box g2 Tb3 [.string r29.2.text, .int .i64 (w64 (r29.2.at_ + 1)), .slice A31 n32 c33, .int .i64 r29.2.in_, .int .i64 r29.2.code], .own (.slice A31 n32 c33) 31 4 n32 (r29.2.out.flatMap enc_api_JNode)]) 0 sz_3 rfl rfl rfl rfl rfl rfl rfl rfl rfl ?_) gn
   refine w_end 8 rfl ?_
   refine g_front 0 rfl ?_
   refine g_front 1 rfl ?_
   exact g_go [0, 1] (j2 r29.2.text (w64 (r29.2.at_ + 1)) r29.2.out r29.2.in_ r29.2.code h A31 n32 c33 h34) ⟨rfl, trivial⟩ (.cons_cons _ (.cons_cons _ (.slnil))) rfl
  ·have h := if_neg' hp39 h
   refine g_false (c := q59c12) rfl _ rfl ((bf hp39)) ?_
   refine g_seq (c := q59c14) rfl ?_
   refine g_region (c := q59c15) rfl rfl ?_
   refine wl_v 0 rfl (v_move rfl) gn rfl ?_
   obtain ⟨r163, hv164, h⟩ := h
   refine wl_s 1 rfl (s_call [.pointer (some ⟨g2, 0, none⟩)] rfl Tryd.func74 rfl rfl rfl fun w160 hL161 => ?_) gn
   have hp162 : List.Perm ([.box g2 Tb3 [.string r29.2.text, .int .i64 r29.2.at_, .slice A31 n32 c33, .int .i64 r29.2.in_, .int .i64 r29.2.code], .own (.slice A31 n32 c33) 31 4 n32 (r29.2.out.flatMap enc_api_JNode)] : List Ent) (([.box g2 Tb3 [.string r29.2.text, .int .i64 r29.2.at_, .slice A31 n32 c33, .int .i64 r29.2.in_, .int .i64 r29.2.code], .own (.slice A31 n32 c33) 31 4 n32 (r29.2.out.flatMap enc_api_JNode)] : List Ent) ++ ([] : List Ent)) := perm_of_idx [0, 1] [] rfl rfl (by kernel_rfl)
   refine Calls.mono (json_parser_digits_calls w160 (Fl ([] : List Snap)) r29.2 g2 Tb3 z8 A31 n32 c33 (Nat.le_trans hz9 hL161.env.size) h34 (hL161.hFl (Sl := ([] : List Snap)) hp162 (sels [] rfl)) (hL161.into hp162 (Fl ([] : List Snap))) r163 hv164) ?_
   rintro _ w170 ⟨A165, n166, c167, rfl, hM171, h168⟩
   have hL172 := hL161.call hp162 hM171
   refine ⟨_, _, _, rfl, hL172, ?_⟩
   refine wl_v 2 rfl (v_not rfl) gn rfl ?_
   refine w_end 3 rfl ?_
   by_cases hp173 : r163.1 = true
   ·have h := if_pos' hp173 h
    refine g_false (c := q59c16) rfl _ rfl ((nf hp173)) ?_
    refine g_skip (c := q59c18) rfl ?_
    refine g_front 0 rfl ?_
    refine g_front 1 rfl ?_
    exact g_go [0, 1] (j2 r163.2.text r163.2.at_ r163.2.out r163.2.in_ r163.2.code h A165 n166 c167 h168) ⟨rfl, trivial⟩ (.cons_cons _ (.cons_cons _ (.slnil))) rfl
   ·have h := if_neg' hp173 h
    refine g_true (c := q59c16) rfl _ rfl ((nt (bf hp173))) ?_
    refine g_seq (c := q59c17) rfl ?_
    refine g_region (c := q59c19) rfl rfl ?_
    refine wl_v 0 rfl (v_assign rfl) gn rfl ?_
    refine w_end 1 rfl ?_
    refine g_retR (c := q59c20) [.bool false] rfl Tryd.func59 rfl (.tmp rfl (.nil)) fun wr hLr => ?_
    have hMr : B.Loc w wr [.box g2 Tb3 [.string r163.2.text, .int .i64 r163.2.at_, .slice A165 n166 c167, .int .i64 r163.2.in_, .int .i64 r163.2.code], .own (.slice A165 n166 c167) 31 4 n166 (r163.2.out.flatMap enc_api_JNode)] [St w [[g2], (Value.slice A4 n5 c6).ownBlock.toList]] := hLr.pick (rest := []) (perm_of_idx [0, 1] [] rfl rfl (by kernel_rfl)) (sels [1] rfl)
    show json_parser_number_R w F g2 Tb3 A4 n5 c6 z8 r (.returned (packV [.bool false])) wr
    rw [h]
    exact ⟨A165, n166, c167, rfl, hMr, h168⟩
 by_cases hp23 : r13.1 = true
 ·have h := if_pos' hp23 h
  refine g_true (c := q59c6) rfl _ rfl (hp23) ?_
  refine g_region (c := q59c7) rfl rfl ?_
  refine wl_v 0 rfl (v_move rfl) gn rfl ?_
  refine wl_v 1 rfl (v_nilCheck rfl) gn rfl ?_
  refine wl_v 2 rfl (v_fldB fo_70_1 rfl) gn rfl ?_
  refine wl_v 3 rfl (v_ldB1 0 ld_3 rfl rfl rfl) gn rfl ?_
  refine wl_v 4 rfl (v_bin rfl rfl rfl) gn rfl ?_
  refine wl_v 5 rfl (v_nilCheck rfl) gn rfl ?_
  refine wl_v 6 rfl (v_fldB fo_70_1 rfl) gn rfl ?_
  refine wl_s 7 rfl (s_stB (vs := [.int .i64 (w64 (r13.2.at_ + 1))]) (cs' := [.string r13.2.text, .int .i64 (w64 (r13.2.at_ + 1)), .slice A15 n16 c17, .int .i64 r13.2.in_, .int .i64 r13.2.code]) (M' := [.box g2 Tb3 [.string r13.2.text, .int .i64 (w64 (r13.2.at_ + 1)), .slice A15 n16 c17, .int .i64 r13.2.in_, .int .i64 r13.2.code], .own (.slice A15 n16 c17) 31 4 n16 (r13.2.out.flatMap enc_api_JNode)]) 0 sz_3 rfl rfl rfl rfl rfl rfl rfl rfl rfl ?_) gn
  refine w_end 8 rfl ?_
  exact g_go [0, 1] (j1 (w64 (r13.2.at_ + 1)) h) ⟨rfl, trivial⟩ (.cons_cons _ (.cons_cons _ (.slnil))) rfl
 ·have h := if_neg' hp23 h
  refine g_false (c := q59c6) rfl _ rfl ((bf hp23)) ?_
  refine g_skip (c := q59c8) rfl ?_
  exact g_go [0, 1] (j1 r13.2.at_ h) ⟨rfl, trivial⟩ (.cons_cons _ (.cons_cons _ (.slnil))) rfl
noncomputable abbrev q83c0 : Code := bodyOf Tryd.f83
noncomputable abbrev q83c1 : Code := Code.fst q83c0
noncomputable abbrev q83c2 : Code := Code.snd q83c0
noncomputable abbrev q83c3 : Code := Code.fst q83c2
noncomputable abbrev q83c4 : Code := Code.snd q83c2
noncomputable abbrev q83c5 : Code := Code.fst q83c3
noncomputable abbrev q83c6 : Code := Code.fst q83c5
noncomputable abbrev q83c7 : Code := Code.snd q83c5
noncomputable abbrev q83c8 : Code := Code.fst q83c7
noncomputable abbrev q83c9 : Code := Code.snd q83c7
noncomputable abbrev q83c10 : Code := Code.fst q83c8
noncomputable abbrev q83c11 : Code := Code.snd q83c8
noncomputable abbrev q83c12 : Code := Code.fst q83c9
noncomputable abbrev q83c13 : Code := Code.snd q83c9
noncomputable abbrev q83c14 : Code := Code.fst q83c13
noncomputable abbrev q83c15 : Code := Code.snd q83c13
noncomputable abbrev q83c16 : Code := Code.fst q83c14
noncomputable abbrev q83c17 : Code := Code.snd q83c14
noncomputable abbrev q83c18 : Code := Code.fst q83c15
noncomputable abbrev q83c19 : Code := Code.snd q83c15
noncomputable abbrev q83c20 : Code := Code.fst q83c19
noncomputable abbrev q83c21 : Code := Code.snd q83c19
noncomputable abbrev q83c22 : Code := Code.fst q83c20
noncomputable abbrev q83c23 : Code := Code.snd q83c20
noncomputable abbrev q83c24 : Code := Code.fst q83c21
noncomputable abbrev q83c25 : Code := Code.snd q83c21
noncomputable abbrev q83c26 : Code := Code.fst q83c25
noncomputable abbrev q83c27 : Code := Code.snd q83c25
noncomputable abbrev q83c28 : Code := Code.fst q83c26
noncomputable abbrev q83c29 : Code := Code.snd q83c26
noncomputable abbrev q83c30 : Code := Code.fst q83c27
noncomputable abbrev q83c31 : Code := Code.snd q83c27
noncomputable abbrev q83c32 : Code := Code.fst q83c31
noncomputable abbrev q83c33 : Code := Code.snd q83c31
noncomputable abbrev q83c34 : Code := Code.fst q83c32
noncomputable abbrev q83c35 : Code := Code.snd q83c32
noncomputable abbrev q83c36 : Code := Code.fst q83c33
noncomputable abbrev q83c37 : Code := Code.snd q83c33
noncomputable abbrev q83c38 : Code := Code.fst q83c37
noncomputable abbrev q83c39 : Code := Code.snd q83c37
noncomputable abbrev q83c40 : Code := Code.fst q83c38
noncomputable abbrev q83c41 : Code := Code.snd q83c38
noncomputable abbrev q83c42 : Code := Code.fst q83c39
noncomputable abbrev q83c43 : Code := Code.snd q83c39
noncomputable abbrev q83c44 : Code := Code.fst q83c43
noncomputable abbrev q83c45 : Code := Code.snd q83c43
noncomputable abbrev q83c46 : Code := Code.fst q83c44
noncomputable abbrev q83c47 : Code := Code.snd q83c44
noncomputable abbrev q83c48 : Code := Code.fst q83c45
noncomputable abbrev q83c49 : Code := Code.snd q83c45
noncomputable abbrev q83c50 : Code := Code.fst q83c49
noncomputable abbrev q83c51 : Code := Code.snd q83c49
noncomputable abbrev q83c52 : Code := Code.fst q83c50
noncomputable abbrev q83c53 : Code := Code.snd q83c50
noncomputable abbrev q83c54 : Code := Code.fst q83c4
noncomputable abbrev q83c55 : Code := Code.snd q83c4
abbrev trellisref25_Ranges_R (w : World) (F : Nat → Prop) (r : (List Int) × Bool) : Ending → World → Prop := fun e w' => ∃ A0 : Option Addr, ∃ n0 : Nat, ∃ c0 : Nat, e = .returned (.tuple #[.slice A0 n0 c0, .bool r.2]) ∧ B.Loc w w' [.own (.slice A0 n0 c0) 3 1 n0 (r.1.flatMap (eI .i64))] [St w []] ∧ Ow w.heap.size A0 n0 c0 r.1
noncomputable abbrev trellisref25_Ranges_C (w : World) (F : Nat → Prop) (r : (List Int) × Bool) : Cx := ⟨Tryd.prog, 83, Tryd.f83, 39, trellisref25_Ranges_R w F  r, w⟩
theorem trellisref25_Ranges_calls (w : World) (F : Nat → Prop) (x1 : Int) (hF : ∀ b, F b → b < w.heap.size ∧ ∀ o ∈ ([] : List (List Nat)), b ∉ o) (hL0 : B.Loc w w [] [Sm w.heap.size F w [], St w []]) (r : (List Int) × Bool) (h : trellisref25_Ranges x1 r) : Calls Tryd.prog 83 #[.int .u8 x1] w (trellisref25_Ranges_R w F  r) := by
 unfold trellisref25_Ranges at h
 refine calls_of_Loc (vs := [.int .u8 x1]) 39 Tryd.func83 rfl Tryd.ntmps83 rfl hL0 ?_
 show G (trellisref25_Ranges_C w F r) _ _ _ _
 refine g_seq (c := q83c0) rfl ?_
 refine g_region (c := q83c1) rfl rfl ?_
 refine wl_v 0 rfl (v_assign rfl) gn rfl ?_
 refine wl_v 1 rfl (v_assign rfl) gn rfl ?_
 refine w_end 2 rfl ?_
 refine g_seq (c := q83c2) rfl ?_
 refine g_block (c := q83c3) rfl ?_
 refine g_seq (c := q83c5) rfl ?_
 refine g_region (c := q83c6) rfl rfl ?_
 refine wl_v 0 rfl (v_move rfl) gn rfl ?_
 refine wl_v 1 rfl (v_bin rfl rfl rfl) gn rfl ?_
 refine wl_v 2 rfl (v_assign rfl) gn rfl ?_
 refine w_end 3 rfl ?_
 by_cases hp2 : x1 < 128
 ·have h := if_pos' hp2 h
  refine g_true (c := q83c7) rfl _ rfl ((decide_eq_true hp2)) ?_
  refine g_seq (c := q83c8) rfl ?_
  refine g_region (c := q83c10) rfl rfl ?_
  refine wl_v 0 rfl (v_assign rfl) gn rfl ?_
  refine wl_v 1 rfl (v_assign rfl) gn rfl ?_
  refine w_end 2 rfl ?_
  refine g_nil 3 1 ?_
  refine g_retR (c := q83c11) [.slice none 0 0, .bool true] rfl Tryd.func83 rfl (.tmp rfl (.tmp rfl (.nil))) fun wr hLr => ?_
  have hMr : B.Loc w wr [.own (.slice none 0 0) 3 1 0 (([] : List Int).flatMap (eI .i64))] [St w []] := hLr.pick (rest := []) (perm_of_idx [0] [] rfl rfl (by kernel_rfl)) (sels [1] rfl)
  show trellisref25_Ranges_R w F  r (.returned (packV [.slice none 0 0, .bool true])) wr
  rw [h]
  exact ⟨none, 0, 0, rfl, hMr, (Ow.nil (z := w.heap.size))⟩
 ·have h := if_neg' hp2 h
  refine g_false (c := q83c7) rfl _ rfl ((decide_eq_false hp2)) ?_
  refine g_seq (c := q83c9) rfl ?_
  have j1 : ∀ (x5 : Bool) (h : trellisref25_Ranges_j1 x1 x5 r) , G (trellisref25_Ranges_C w F r) [.code q83c13, .inBlock 0, .code q83c4] [(0, .int .u8 x1), (7, .bool x5)] [] [Sm w.heap.size F w [], St w []] := by
   intro x5 h
   unfold trellisref25_Ranges_j1 at h
   by_cases hp6 : x5 = true
   ·have h := if_pos' hp6 h
    refine g_true (c := q83c13) rfl _ rfl (hp6) ?_
    refine g_seq (c := q83c14) rfl ?_
    refine g_region (c := q83c16) rfl rfl ?_
    refine wl_v 0 rfl (v_assign rfl) gn rfl ?_
    refine wl_v 1 rfl (v_assign rfl) gn rfl ?_
    refine w_end 2 rfl ?_
    refine g_nil 3 1 ?_
    refine g_retR (c := q83c17) [.slice none 0 0, .bool false] rfl Tryd.func83 rfl (.tmp rfl (.tmp rfl (.nil))) fun wr hLr => ?_
    have hMr : B.Loc w wr [.own (.slice none 0 0) 3 1 0 (([] : List Int).flatMap (eI .i64))] [St w []] := hLr.pick (rest := []) (perm_of_idx [0] [] rfl rfl (by kernel_rfl)) (sels [1] rfl)
    show trellisref25_Ranges_R w F  r (.returned (packV [.slice none 0 0, .bool false])) wr
    rw [h]
    exact ⟨none, 0, 0, rfl, hMr, (Ow.nil (z := w.heap.size))⟩
   ·have h := if_neg' hp6 h
    refine g_false (c := q83c13) rfl _ rfl ((bf hp6)) ?_
    refine g_seq (c := q83c15) rfl ?_
    refine g_region (c := q83c18) rfl rfl ?_
    refine wl_v 0 rfl (v_move rfl) gn rfl ?_
    refine wl_v 1 rfl (v_bin rfl rfl rfl) gn rfl ?_
    refine wl_v 2 rfl (v_assign rfl) gn rfl ?_
    refine w_end 3 rfl ?_
    by_cases hp7 : x1 < 224
    ·have h := if_pos' hp7 h
     refine g_true (c := q83c19) rfl _ rfl ((decide_eq_true hp7)) ?_
     refine g_seq (c := q83c20) rfl ?_
     refine g_region (c := q83c22) rfl rfl ?_
     refine wl_s 0 rfl (s_litO (xs := ([128, 191] : List Int)) [.int .i64 128, .int .i64 191] bs_46_2 rfl (by kernel_rfl) rfl rfl rfl rfl fun gb9 h10 => ?_) gn
     refine wl_v 1 rfl (v_assign rfl) gn rfl ?_
     refine wl_v 2 rfl (v_assign rfl) gn rfl ?_
     refine w_end 3 rfl ?_
     refine g_retR (c := q83c23) [.slice (some ⟨gb9, 0, none⟩) 2 2, .bool true] rfl Tryd.func83 rfl (.tmp rfl (.tmp rfl (.nil))) fun wr hLr => ?_
     have hMr : B.Loc w wr [.own (.slice (some ⟨gb9, 0, none⟩) 2 2) 3 1 2 (([128, 191] : List Int).flatMap (eI .i64))] [St w []] := hLr.pick (rest := []) (perm_of_idx [0] [] rfl rfl (by kernel_rfl)) (sels [1] rfl)
     show trellisref25_Ranges_R w F  r (.returned (packV [.slice (some ⟨gb9, 0, none⟩) 2 2, .bool true])) wr
     rw [h]
     exact ⟨(some ⟨gb9, 0, none⟩), 2, 2, rfl, hMr, h10⟩
    ·have h := if_neg' hp7 h
     refine g_false (c := q83c19) rfl _ rfl ((decide_eq_false hp7)) ?_
     refine g_seq (c := q83c21) rfl ?_
     refine g_region (c := q83c24) rfl rfl ?_
     refine wl_v 0 rfl (v_move rfl) gn rfl ?_
     refine wl_v 1 rfl (v_bin rfl rfl rfl) gn rfl ?_
     refine wl_v 2 rfl (v_assign rfl) gn rfl ?_
     refine w_end 3 rfl ?_
     by_cases hp11 : x1 = 224
     ·have h := if_pos' hp11 h
      refine g_true (c := q83c25) rfl _ rfl ((eqi hp11)) ?_
      refine g_seq (c := q83c26) rfl ?_
      refine g_region (c := q83c28) rfl rfl ?_
      refine wl_s 0 rfl (s_litO (xs := ([160, 191, 128, 191] : List Int)) [.int .i64 160, .int .i64 191, .int .i64 128, .int .i64 191] bs_46_4 rfl (by kernel_rfl) rfl rfl rfl rfl fun gb13 h14 => ?_) gn
      refine wl_v 1 rfl (v_assign rfl) gn rfl ?_
      refine wl_v 2 rfl (v_assign rfl) gn rfl ?_
      refine w_end 3 rfl ?_
      refine g_retR (c := q83c29) [.slice (some ⟨gb13, 0, none⟩) 4 4, .bool true] rfl Tryd.func83 rfl (.tmp rfl (.tmp rfl (.nil))) fun wr hLr => ?_
      have hMr : B.Loc w wr [.own (.slice (some ⟨gb13, 0, none⟩) 4 4) 3 1 4 (([160, 191, 128, 191] : List Int).flatMap (eI .i64))] [St w []] := hLr.pick (rest := []) (perm_of_idx [0] [] rfl rfl (by kernel_rfl)) (sels [1] rfl)
      show trellisref25_Ranges_R w F  r (.returned (packV [.slice (some ⟨gb13, 0, none⟩) 4 4, .bool true])) wr
      rw [h]
      exact ⟨(some ⟨gb13, 0, none⟩), 4, 4, rfl, hMr, h14⟩
     ·have h := if_neg' hp11 h
      refine g_false (c := q83c25) rfl _ rfl ((nei hp11)) ?_
      refine g_seq (c := q83c27) rfl ?_
      refine g_region (c := q83c30) rfl rfl ?_
      refine wl_v 0 rfl (v_move rfl) gn rfl ?_
      refine wl_v 1 rfl (v_bin rfl rfl rfl) gn rfl ?_
      refine wl_v 2 rfl (v_assign rfl) gn rfl ?_
      refine w_end 3 rfl ?_
      by_cases hp15 : x1 = 237
      ·have h := if_pos' hp15 h
       refine g_true (c := q83c31) rfl _ rfl ((eqi hp15)) ?_
       refine g_seq (c := q83c32) rfl ?_
       refine g_region (c := q83c34) rfl rfl ?_
       refine wl_s 0 rfl (s_litO (xs := ([128, 159, 128, 191] : List Int)) [.int .i64 128, .int .i64 159, .int .i64 128, .int .i64 191] bs_46_4 rfl (by kernel_rfl) rfl rfl rfl rfl fun gb17 h18 => ?_) gn
       refine wl_v 1 rfl (v_assign rfl) gn rfl ?_
       refine wl_v 2 rfl (v_assign rfl) gn rfl ?_
       refine w_end 3 rfl ?_
       refine g_retR (c := q83c35) [.slice (some ⟨gb17, 0, none⟩) 4 4, .bool true] rfl Tryd.func83 rfl (.tmp rfl (.tmp rfl (.nil))) fun wr hLr => ?_
       have hMr : B.Loc w wr [.own (.slice (some ⟨gb17, 0, none⟩) 4 4) 3 1 4 (([128, 159, 128, 191] : List Int).flatMap (eI .i64))] [St w []] := hLr.pick (rest := []) (perm_of_idx [0] [] rfl rfl (by kernel_rfl)) (sels [1] rfl)
       show trellisref25_Ranges_R w F  r (.returned (packV [.slice (some ⟨gb17, 0, none⟩) 4 4, .bool true])) wr
       rw [h]
       exact ⟨(some ⟨gb17, 0, none⟩), 4, 4, rfl, hMr, h18⟩
      ·have h := if_neg' hp15 h
       refine g_false (c := q83c31) rfl _ rfl ((nei hp15)) ?_
       refine g_seq (c := q83c33) rfl ?_
       refine g_region (c := q83c36) rfl rfl ?_
       refine wl_v 0 rfl (v_move rfl) gn rfl ?_
       refine wl_v 1 rfl (v_bin rfl rfl rfl) gn rfl ?_
       refine wl_v 2 rfl (v_assign rfl) gn rfl ?_
       refine w_end 3 rfl ?_
       by_cases hp19 : x1 < 240
       ·have h := if_pos' hp19 h
        refine g_true (c := q83c37) rfl _ rfl ((decide_eq_true hp19)) ?_
        refine g_seq (c := q83c38) rfl ?_
        refine g_region (c := q83c40) rfl rfl ?_
        refine wl_s 0 rfl (s_litO (xs := ([128, 191, 128, 191] : List Int)) [.int .i64 128, .int .i64 191, .int .i64 128, .int .i64 191] bs_46_4 rfl (by kernel_rfl) rfl rfl rfl rfl fun gb21 h22 => ?_) gn
        refine wl_v 1 rfl (v_assign rfl) gn rfl ?_
        refine wl_v 2 rfl (v_assign rfl) gn rfl ?_
        refine w_end 3 rfl ?_
        refine g_retR (c := q83c41) [.slice (some ⟨gb21, 0, none⟩) 4 4, .bool true] rfl Tryd.func83 rfl (.tmp rfl (.tmp rfl (.nil))) fun wr hLr => ?_
        have hMr : B.Loc w wr [.own (.slice (some ⟨gb21, 0, none⟩) 4 4) 3 1 4 (([128, 191, 128, 191] : List Int).flatMap (eI .i64))] [St w []] := hLr.pick (rest := []) (perm_of_idx [0] [] rfl rfl (by kernel_rfl)) (sels [1] rfl)
        show trellisref25_Ranges_R w F  r (.returned (packV [.slice (some ⟨gb21, 0, none⟩) 4 4, .bool true])) wr
        rw [h]
        exact ⟨(some ⟨gb21, 0, none⟩), 4, 4, rfl, hMr, h22⟩
       ·have h := if_neg' hp19 h
        refine g_false (c := q83c37) rfl _ rfl ((decide_eq_false hp19)) ?_
        refine g_seq (c := q83c39) rfl ?_
        refine g_region (c := q83c42) rfl rfl ?_
        refine wl_v 0 rfl (v_move rfl) gn rfl ?_
        refine wl_v 1 rfl (v_bin rfl rfl rfl) gn rfl ?_
        refine wl_v 2 rfl (v_assign rfl) gn rfl ?_
        refine w_end 3 rfl ?_
        by_cases hp23 : x1 = 240
        ·have h := if_pos' hp23 h
         refine g_true (c := q83c43) rfl _ rfl ((eqi hp23)) ?_
         refine g_seq (c := q83c44) rfl ?_
         refine g_region (c := q83c46) rfl rfl ?_
         refine wl_s 0 rfl (s_litO (xs := ([144, 191, 128, 191, 128, 191] : List Int)) [.int .i64 144, .int .i64 191, .int .i64 128, .int .i64 191, .int .i64 128, .int .i64 191] bs_46_6 rfl (by kernel_rfl) rfl rfl rfl rfl fun gb25 h26 => ?_) gn
         refine wl_v 1 rfl (v_assign rfl) gn rfl ?_
         refine wl_v 2 rfl (v_assign rfl) gn rfl ?_
         refine w_end 3 rfl ?_
         refine g_retR (c := q83c47) [.slice (some ⟨gb25, 0, none⟩) 6 6, .bool true] rfl Tryd.func83 rfl (.tmp rfl (.tmp rfl (.nil))) fun wr hLr => ?_
         have hMr : B.Loc w wr [.own (.slice (some ⟨gb25, 0, none⟩) 6 6) 3 1 6 (([144, 191, 128, 191, 128, 191] : List Int).flatMap (eI .i64))] [St w []] := hLr.pick (rest := []) (perm_of_idx [0] [] rfl rfl (by kernel_rfl)) (sels [1] rfl)
         show trellisref25_Ranges_R w F  r (.returned (packV [.slice (some ⟨gb25, 0, none⟩) 6 6, .bool true])) wr
         rw [h]
         exact ⟨(some ⟨gb25, 0, none⟩), 6, 6, rfl, hMr, h26⟩
        ·have h := if_neg' hp23 h
         refine g_false (c := q83c43) rfl _ rfl ((nei hp23)) ?_
         refine g_seq (c := q83c45) rfl ?_
         refine g_region (c := q83c48) rfl rfl ?_
         refine wl_v 0 rfl (v_move rfl) gn rfl ?_
         refine wl_v 1 rfl (v_bin rfl rfl rfl) gn rfl ?_
         refine wl_v 2 rfl (v_assign rfl) gn rfl ?_
         refine w_end 3 rfl ?_
         by_cases hp27 : x1 = 244
         ·have h := if_pos' hp27 h
          refine g_true (c := q83c49) rfl _ rfl ((eqi hp27)) ?_
          refine g_seq (c := q83c50) rfl ?_
          refine g_region (c := q83c52) rfl rfl ?_
          refine wl_s 0 rfl (s_litO (xs := ([128, 143, 128, 191, 128, 191] : List Int)) [.int .i64 128, .int .i64 143, .int .i64 128, .int .i64 191, .int .i64 128, .int .i64 191] bs_46_6 rfl (by kernel_rfl) rfl rfl rfl rfl fun gb29 h30 => ?_) gn
          refine wl_v 1 rfl (v_assign rfl) gn rfl ?_
          refine wl_v 2 rfl (v_assign rfl) gn rfl ?_
          refine w_end 3 rfl ?_
          refine g_retR (c := q83c53) [.slice (some ⟨gb29, 0, none⟩) 6 6, .bool true] rfl Tryd.func83 rfl (.tmp rfl (.tmp rfl (.nil))) fun wr hLr => ?_
          have hMr : B.Loc w wr [.own (.slice (some ⟨gb29, 0, none⟩) 6 6) 3 1 6 (([128, 143, 128, 191, 128, 191] : List Int).flatMap (eI .i64))] [St w []] := hLr.pick (rest := []) (perm_of_idx [0] [] rfl rfl (by kernel_rfl)) (sels [1] rfl)
          show trellisref25_Ranges_R w F  r (.returned (packV [.slice (some ⟨gb29, 0, none⟩) 6 6, .bool true])) wr
          rw [h]
          exact ⟨(some ⟨gb29, 0, none⟩), 6, 6, rfl, hMr, h30⟩
         ·have h := if_neg' hp27 h
          refine g_false (c := q83c49) rfl _ rfl ((nei hp27)) ?_
          refine g_skip (c := q83c51) rfl ?_
          refine g_inBlock ?_
          refine g_seq (c := q83c4) rfl ?_
          refine g_region (c := q83c54) rfl rfl ?_
          refine wl_s 0 rfl (s_litO (xs := ([128, 191, 128, 191, 128, 191] : List Int)) [.int .i64 128, .int .i64 191, .int .i64 128, .int .i64 191, .int .i64 128, .int .i64 191] bs_46_6 rfl (by kernel_rfl) rfl rfl rfl rfl fun gb32 h33 => ?_) gn
          refine wl_v 1 rfl (v_assign rfl) gn rfl ?_
          refine wl_v 2 rfl (v_assign rfl) gn rfl ?_
          refine w_end 3 rfl ?_
          refine g_retR (c := q83c55) [.slice (some ⟨gb32, 0, none⟩) 6 6, .bool true] rfl Tryd.func83 rfl (.tmp rfl (.tmp rfl (.nil))) fun wr hLr => ?_
          have hMr : B.Loc w wr [.own (.slice (some ⟨gb32, 0, none⟩) 6 6) 3 1 6 (([128, 191, 128, 191, 128, 191] : List Int).flatMap (eI .i64))] [St w []] := hLr.pick (rest := []) (perm_of_idx [0] [] rfl rfl (by kernel_rfl)) (sels [1] rfl)
          show trellisref25_Ranges_R w F  r (.returned (packV [.slice (some ⟨gb32, 0, none⟩) 6 6, .bool true])) wr
          rw [h]
          exact ⟨(some ⟨gb32, 0, none⟩), 6, 6, rfl, hMr, h33⟩
  refine g_region (c := q83c12) rfl rfl ?_
  refine wl_v 0 rfl (v_move rfl) gn rfl ?_
  refine wl_v 1 rfl (v_bin rfl rfl rfl) gn rfl ?_
  refine wl_v 2 rfl (v_move rfl) gn rfl ?_
  by_cases hp34 : x1 < 194
  ·have h := if_pos' hp34 h
   refine w_bool 10 rfl ((decide_eq_true hp34)) ?_
   refine wl_pass 3 rfl (ps 10 rfl rfl rfl) ?_
   refine wl_pass 4 rfl (ps 10 rfl rfl rfl) ?_
   refine wl_v 5 rfl (v_pick (b := true) rfl rfl) gn rfl ?_
   refine wl_v 6 rfl (v_assign rfl) gn rfl ?_
   refine w_end 7 rfl ?_
   exact g_go [0, 1] (j1 true h) ⟨rfl, rfl, trivial⟩ (.slnil) rfl
  ·have h := if_neg' hp34 h
   refine w_bool 10 rfl ((decide_eq_false hp34)) ?_
   refine wl_v 3 rfl (v_move rfl) (gy 10 rfl rfl) rfl ?_
   refine wl_v 4 rfl (v_bin rfl rfl rfl) (gy 10 rfl rfl) rfl ?_
   refine wl_v 5 rfl (v_pick (b := false) rfl rfl) gn rfl ?_
   refine wl_v 6 rfl (v_assign rfl) gn rfl ?_
   refine w_end 7 rfl ?_
   exact g_go [0, 1] (j1 (decide (x1 > 244)) h) ⟨rfl, rfl, trivial⟩ (.slnil) rfl
noncomputable abbrev q47c0 : Code := bodyOf Tryd.f47
noncomputable abbrev q47c1 : Code := Code.fst q47c0
noncomputable abbrev q47c2 : Code := Code.snd q47c0
noncomputable abbrev q47c3 : Code := Code.fst q47c2
noncomputable abbrev q47c4 : Code := Code.snd q47c2
noncomputable abbrev q47c5 : Code := Code.fst q47c3
noncomputable abbrev q47c6 : Code := Code.snd q47c3
noncomputable abbrev q47c7 : Code := Code.fst q47c6
noncomputable abbrev q47c8 : Code := Code.snd q47c6
noncomputable abbrev q47c9 : Code := Code.fst q47c7
noncomputable abbrev q47c10 : Code := Code.snd q47c7
noncomputable abbrev q47c11 : Code := Code.fst q47c4
noncomputable abbrev q47c12 : Code := Code.snd q47c4
abbrev trellisref25_Reader_stop_R (w : World) (F : Nat → Prop) (g2 : Nat) (Tb3 : Nat) (A4 : Option Addr) (n5 : Nat) (c6 : Nat) (z8 : Nat) (r : Int × trellisref25_Reader) : Ending → World → Prop := fun e w' => ∃ A0 : Option Addr, ∃ n0 : Nat, ∃ c0 : Nat, e = .returned (.int .i64 r.1) ∧ B.Loc w w' [.box g2 Tb3 [.string r.2.s, .slice A0 n0 c0, .int .i64 r.2.e, .int .i64 r.2.at_], .own (.slice A0 n0 c0) 31 4 n0 (r.2.l.flatMap enc_api_JNode)] [St w [[g2], (Value.slice A4 n5 c6).ownBlock.toList]] ∧ Ow z8 A0 n0 c0 r.2.l
noncomputable abbrev trellisref25_Reader_stop_C (w : World) (F : Nat → Prop) (g2 : Nat) (Tb3 : Nat) (A4 : Option Addr) (n5 : Nat) (c6 : Nat) (z8 : Nat) (r : Int × trellisref25_Reader) : Cx := ⟨Tryd.prog, 47, Tryd.f47, 21, trellisref25_Reader_stop_R w F g2 Tb3 A4 n5 c6 z8 r, w⟩
theorem trellisref25_Reader_stop_calls (w : World) (F : Nat → Prop) (x1 : trellisref25_Reader) (x10 : Int) (x11 : Int) (g2 : Nat) (Tb3 : Nat) (z8 : Nat) (A4 : Option Addr) (n5 : Nat) (c6 : Nat) (hz9 : z8 ≤ w.heap.size) (h7 : Ow z8 A4 n5 c6 x1.l) (hF : ∀ b, F b → b < w.heap.size ∧ ∀ o ∈ ([[g2], (Value.slice A4 n5 c6).ownBlock.toList] : List (List Nat)), b ∉ o) (hL0 : B.Loc w w [.box g2 Tb3 [.string x1.s, .slice A4 n5 c6, .int .i64 x1.e, .int .i64 x1.at_], .own (.slice A4 n5 c6) 31 4 n5 (x1.l.flatMap enc_api_JNode)] [Sm w.heap.size F w [[g2], (Value.slice A4 n5 c6).ownBlock.toList], St w [[g2], (Value.slice A4 n5 c6).ownBlock.toList]]) (r : Int × trellisref25_Reader) (h : trellisref25_Reader_stop x1 x10 x11 r) : Calls Tryd.prog 47 #[.pointer (some ⟨g2, 0, none⟩), .int .i64 x10, .int .i64 x11] w (trellisref25_Reader_stop_R w F g2 Tb3 A4 n5 c6 z8 r) := by
 unfold trellisref25_Reader_stop at h
 refine calls_of_Loc (vs := [.pointer (some ⟨g2, 0, none⟩), .int .i64 x10, .int .i64 x11]) 21 Tryd.func47 rfl Tryd.ntmps47 rfl hL0 ?_
 show G (trellisref25_Reader_stop_C w F g2 Tb3 A4 n5 c6 z8 r) _ _ _ _
 refine g_seq (c := q47c0) rfl ?_
 refine g_region (c := q47c1) rfl rfl ?_
 refine wl_v 0 rfl (v_assign rfl) gn rfl ?_
 refine w_end 1 rfl ?_
 refine g_seq (c := q47c2) rfl ?_
 refine g_seq (c := q47c3) rfl ?_
 refine g_region (c := q47c5) rfl rfl ?_
 refine wl_v 0 rfl (v_move rfl) gn rfl ?_
 refine wl_v 1 rfl (v_nilCheck rfl) gn rfl ?_
 refine wl_v 2 rfl (v_fldB fo_73_2 rfl) gn rfl ?_
 refine wl_v 3 rfl (v_ldB1 0 ld_34 rfl rfl rfl) gn rfl ?_
 refine wl_v 4 rfl (v_bin rfl rfl rfl) gn rfl ?_
 refine w_end 5 rfl ?_
 by_cases hp12 : x1.e = 0
 ·have h := if_pos' hp12 h
  refine g_true (c := q47c6) rfl _ rfl ((eqi hp12)) ?_
  refine g_seq (c := q47c7) rfl ?_
  refine g_region (c := q47c9) rfl rfl ?_
  refine wl_v 0 rfl (v_move rfl) gn rfl ?_
  refine wl_v 1 rfl (v_move rfl) gn rfl ?_
  refine wl_v 2 rfl (v_nilCheck rfl) gn rfl ?_
  refine wl_v 3 rfl (v_fldB fo_73_2 rfl) gn rfl ?_
  refine wl_s 4 rfl (s_stB (vs := [.int .i64 x10]) (cs' := [.string x1.s, .slice A4 n5 c6, .int .i64 x10, .int .i64 x1.at_]) (M' := [.box g2 Tb3 [.string x1.s, .slice A4 n5 c6, .int .i64 x10, .int .i64 x1.at_], .own (.slice A4 n5 c6) 31 4 n5 (x1.l.flatMap enc_api_JNode)]) 0 sz_34 rfl rfl rfl rfl rfl rfl rfl rfl rfl ?_) gn
  refine w_end 5 rfl ?_
  refine g_region (c := q47c10) rfl rfl ?_
  refine wl_v 0 rfl (v_move rfl) gn rfl ?_
  refine wl_v 1 rfl (v_move rfl) gn rfl ?_
  refine wl_v 2 rfl (v_nilCheck rfl) gn rfl ?_
  refine wl_v 3 rfl (v_fldB fo_73_3 rfl) gn rfl ?_
  refine wl_s 4 rfl (s_stB (vs := [.int .i64 x11]) (cs' := [.string x1.s, .slice A4 n5 c6, .int .i64 x10, .int .i64 x11]) (M' := [.box g2 Tb3 [.string x1.s, .slice A4 n5 c6, .int .i64 x10, .int .i64 x11], .own (.slice A4 n5 c6) 31 4 n5 (x1.l.flatMap enc_api_JNode)]) 0 sz_3 rfl rfl rfl rfl rfl rfl rfl rfl rfl ?_) gn
  refine w_end 5 rfl ?_
  refine g_seq (c := q47c4) rfl ?_
  refine g_region (c := q47c11) rfl rfl ?_
  refine wl_v 0 rfl (v_move rfl) gn rfl ?_
  refine wl_v 1 rfl (v_assign rfl) gn rfl ?_
  refine w_end 2 rfl ?_
  refine g_retR (c := q47c12) [.int .i64 x11] rfl Tryd.func47 rfl (.tmp rfl (.nil)) fun wr hLr => ?_
  have hMr : B.Loc w wr [.box g2 Tb3 [.string x1.s, .slice A4 n5 c6, .int .i64 x10, .int .i64 x11], .own (.slice A4 n5 c6) 31 4 n5 (x1.l.flatMap enc_api_JNode)] [St w [[g2], (Value.slice A4 n5 c6).ownBlock.toList]] := hLr.pick (rest := []) (perm_of_idx [0, 1] [] rfl rfl (by kernel_rfl)) (sels [1] rfl)
  show trellisref25_Reader_stop_R w F g2 Tb3 A4 n5 c6 z8 r (.returned (packV [.int .i64 x11])) wr
  rw [h]
  exact ⟨A4, n5, c6, rfl, hMr, h7⟩
 ·have h := if_neg' hp12 h
  refine g_false (c := q47c6) rfl _ rfl ((nei hp12)) ?_
  refine g_skip (c := q47c8) rfl ?_
  refine g_seq (c := q47c4) rfl ?_
  refine g_region (c := q47c11) rfl rfl ?_
  refine wl_v 0 rfl (v_move rfl) gn rfl ?_
  refine wl_v 1 rfl (v_assign rfl) gn rfl ?_
  refine w_end 2 rfl ?_
  refine g_retR (c := q47c12) [.int .i64 x11] rfl Tryd.func47 rfl (.tmp rfl (.nil)) fun wr hLr => ?_
  have hMr : B.Loc w wr [.box g2 Tb3 [.string x1.s, .slice A4 n5 c6, .int .i64 x1.e, .int .i64 x1.at_], .own (.slice A4 n5 c6) 31 4 n5 (x1.l.flatMap enc_api_JNode)] [St w [[g2], (Value.slice A4 n5 c6).ownBlock.toList]] := hLr.pick (rest := []) (perm_of_idx [0, 1] [] rfl rfl (by kernel_rfl)) (sels [1] rfl)
  show trellisref25_Reader_stop_R w F g2 Tb3 A4 n5 c6 z8 r (.returned (packV [.int .i64 x11])) wr
  rw [h]
  exact ⟨A4, n5, c6, rfl, hMr, h7⟩
noncomputable abbrev q69c0 : Code := bodyOf Tryd.f69
noncomputable abbrev q69c1 : Code := Code.fst q69c0
noncomputable abbrev q69c2 : Code := Code.snd q69c0
noncomputable abbrev q69c3 : Code := Code.fst q69c2
noncomputable abbrev q69c4 : Code := Code.snd q69c2
noncomputable abbrev q69c5 : Code := Code.fst q69c4
noncomputable abbrev q69c6 : Code := Code.snd q69c4
noncomputable abbrev q69c7 : Code := Code.fst q69c5
noncomputable abbrev q69c8 : Code := Code.snd q69c5
noncomputable abbrev q69c9 : Code := Code.fst q69c8
noncomputable abbrev q69c10 : Code := Code.snd q69c8
noncomputable abbrev q69c11 : Code := Code.fst q69c6
noncomputable abbrev q69c12 : Code := Code.snd q69c6
noncomputable abbrev q69c13 : Code := Code.fst q69c12
noncomputable abbrev q69c14 : Code := Code.snd q69c12
noncomputable abbrev q69c15 : Code := Code.fst q69c13
noncomputable abbrev q69c16 : Code := Code.snd q69c13
noncomputable abbrev q69c17 : Code := Code.fst q69c16
noncomputable abbrev q69c18 : Code := Code.fst q69c17
noncomputable abbrev q69c19 : Code := Code.fst q69c18
noncomputable abbrev q69c20 : Code := Code.snd q69c18
noncomputable abbrev q69c21 : Code := Code.fst q69c19
noncomputable abbrev q69c22 : Code := Code.snd q69c19
noncomputable abbrev q69c23 : Code := Code.fst q69c22
noncomputable abbrev q69c24 : Code := Code.snd q69c22
noncomputable abbrev q69c25 : Code := Code.fst q69c20
noncomputable abbrev q69c26 : Code := Code.snd q69c20
noncomputable abbrev q69c27 : Code := Code.fst q69c25
noncomputable abbrev q69c28 : Code := Code.fst q69c27
noncomputable abbrev q69c29 : Code := Code.snd q69c27
noncomputable abbrev q69c30 : Code := Code.fst q69c28
noncomputable abbrev q69c31 : Code := Code.snd q69c28
noncomputable abbrev q69c32 : Code := Code.fst q69c31
noncomputable abbrev q69c33 : Code := Code.snd q69c31
noncomputable abbrev q69c34 : Code := Code.fst q69c32
noncomputable abbrev q69c35 : Code := Code.snd q69c32
noncomputable abbrev q69c36 : Code := Code.fst q69c14
noncomputable abbrev q69c37 : Code := Code.snd q69c14
noncomputable abbrev q69c38 : Code := Code.fst q69c9
noncomputable abbrev q69c39 : Code := Code.snd q69c9
abbrev trellisref25_Reader_char_R (w : World) (F : Nat → Prop) (g2 : Nat) (Tb3 : Nat) (A4 : Option Addr) (n5 : Nat) (c6 : Nat) (z8 : Nat) (r : Int × trellisref25_Reader) : Ending → World → Prop := fun e w' => ∃ A0 : Option Addr, ∃ n0 : Nat, ∃ c0 : Nat, e = .returned (.int .i64 r.1) ∧ B.Loc w w' [.box g2 Tb3 [.string r.2.s, .slice A0 n0 c0, .int .i64 r.2.e, .int .i64 r.2.at_], .own (.slice A0 n0 c0) 31 4 n0 (r.2.l.flatMap enc_api_JNode)] [St w [[g2], (Value.slice A4 n5 c6).ownBlock.toList]] ∧ Ow z8 A0 n0 c0 r.2.l
noncomputable abbrev trellisref25_Reader_char_C (w : World) (F : Nat → Prop) (g2 : Nat) (Tb3 : Nat) (A4 : Option Addr) (n5 : Nat) (c6 : Nat) (z8 : Nat) (r : Int × trellisref25_Reader) : Cx := ⟨Tryd.prog, 69, Tryd.f69, 73, trellisref25_Reader_char_R w F g2 Tb3 A4 n5 c6 z8 r, w⟩
theorem trellisref25_Reader_char_calls (w : World) (F : Nat → Prop) (x1 : trellisref25_Reader) (x10 : Int) (g2 : Nat) (Tb3 : Nat) (z8 : Nat) (A4 : Option Addr) (n5 : Nat) (c6 : Nat) (hz9 : z8 ≤ w.heap.size) (h7 : Ow z8 A4 n5 c6 x1.l) (hF : ∀ b, F b → b < w.heap.size ∧ ∀ o ∈ ([[g2], (Value.slice A4 n5 c6).ownBlock.toList] : List (List Nat)), b ∉ o) (hL0 : B.Loc w w [.box g2 Tb3 [.string x1.s, .slice A4 n5 c6, .int .i64 x1.e, .int .i64 x1.at_], .own (.slice A4 n5 c6) 31 4 n5 (x1.l.flatMap enc_api_JNode)] [Sm w.heap.size F w [[g2], (Value.slice A4 n5 c6).ownBlock.toList], St w [[g2], (Value.slice A4 n5 c6).ownBlock.toList]]) (r : Int × trellisref25_Reader) (h : trellisref25_Reader_char x1 x10 r) : Calls Tryd.prog 69 #[.pointer (some ⟨g2, 0, none⟩), .int .i64 x10] w (trellisref25_Reader_char_R w F g2 Tb3 A4 n5 c6 z8 r) := by
 unfold trellisref25_Reader_char at h
 refine calls_of_Loc (vs := [.pointer (some ⟨g2, 0, none⟩), .int .i64 x10]) 73 Tryd.func69 rfl Tryd.ntmps69 rfl hL0 ?_
 show G (trellisref25_Reader_char_C w F g2 Tb3 A4 n5 c6 z8 r) _ _ _ _
 refine g_seq (c := q69c0) rfl ?_
 refine g_region (c := q69c1) rfl rfl ?_
 refine wl_v 0 rfl (v_assign rfl) gn rfl ?_
 refine w_end 1 rfl ?_
 refine g_seq (c := q69c2) rfl ?_
 refine g_region (c := q69c3) rfl rfl ?_
 refine wl_v 0 rfl (v_move rfl) gn rfl ?_
 refine wl_v 1 rfl (v_nilCheck rfl) gn rfl ?_
 refine wl_v 2 rfl (v_fldB fo_73_0 rfl) gn rfl ?_
 refine wl_v 3 rfl (v_ldB1 0 ld_9 rfl rfl rfl) gn rfl ?_
 refine wl_v 4 rfl (v_move rfl) gn rfl ?_
 obtain ⟨hb11, h⟩ := h
 refine wl_v 5 rfl (v_indexS un_9 rfl rfl hb11) gn rfl ?_
 obtain ⟨r15, hv16, h⟩ := h
 refine wl_s 6 rfl (s_call [.int .u8 (bt x1.s x10)] rfl Tryd.func83 rfl rfl rfl fun w12 hL13 => ?_) gn
 have hp14 : List.Perm ([.box g2 Tb3 [.string x1.s, .slice A4 n5 c6, .int .i64 x1.e, .int .i64 x1.at_], .own (.slice A4 n5 c6) 31 4 n5 (x1.l.flatMap enc_api_JNode)] : List Ent) (([] : List Ent) ++ ([.box g2 Tb3 [.string x1.s, .slice A4 n5 c6, .int .i64 x1.e, .int .i64 x1.at_], .own (.slice A4 n5 c6) 31 4 n5 (x1.l.flatMap enc_api_JNode)] : List Ent)) := perm_of_idx [] [0, 1] rfl rfl (by kernel_rfl)
 refine Calls.mono (trellisref25_Ranges_calls w12 (Fl ([] : List Snap)) (bt x1.s x10) (hL13.hFl (Sl := ([] : List Snap)) hp14 (sels [] rfl)) (hL13.into hp14 (Fl ([] : List Snap))) r15 hv16) ?_
 rintro _ w22 ⟨A17, n18, c19, rfl, hM23, h20⟩
 have hL24 := hL13.call hp14 hM23
 refine ⟨_, _, _, rfl, hL24, ?_⟩
 refine wl_v 7 rfl (v_move rfl) gn rfl ?_
 refine wl_v 8 rfl (v_extract rfl rfl) gn rfl ?_
 refine wl_v 9 rfl (v_extract rfl rfl) gn rfl ?_
 refine wl_v 10 rfl (v_assign rfl) gn rfl ?_
 refine wl_v 11 rfl (v_assign rfl) gn rfl ?_
 refine w_end 12 rfl ?_
 refine g_seq (c := q69c4) rfl ?_
 refine g_seq (c := q69c5) rfl ?_
 refine g_region (c := q69c7) rfl rfl ?_
 refine wl_v 0 rfl (v_move rfl) gn rfl ?_
 refine wl_v 1 rfl (v_not rfl) gn rfl ?_
 refine w_end 2 rfl ?_
 by_cases hp25 : r15.2 = true
 ·have h := if_pos' hp25 h
  refine g_false (c := q69c8) rfl _ rfl ((nf hp25)) ?_
  refine g_skip (c := q69c10) rfl ?_
  refine g_seq (c := q69c6) rfl ?_
  refine g_region (c := q69c11) rfl rfl ?_
  refine wl_v 0 rfl (v_move rfl) gn rfl ?_
  refine wl_v 1 rfl (v_bin rfl rfl rfl) gn rfl ?_
  refine wl_v 2 rfl (v_assign rfl) gn rfl ?_
  refine w_end 3 rfl ?_
  refine g_seq (c := q69c12) rfl ?_
  refine g_seq (c := q69c13) rfl ?_
  refine g_region (c := q69c15) rfl rfl ?_
  refine wl_v 0 rfl (v_assign rfl) gn rfl ?_
  refine w_end 1 rfl ?_
  refine g_block (c := q69c16) rfl ?_
  refine g_loop (c := q69c17) rfl ?_
  have key1 : ∀ s, Rounds (fun (s : Int × Int) o => trellisref25_Reader_char_b1 r15 x1 s.1 s.2 o) s r → (fun (s : Int × Int) => ∀ (_ : Unit), G (trellisref25_Reader_char_C w F g2 Tb3 A4 n5 c6 z8 r) [.code q69c18, .inLoop q69c18, .inBlock 0, .code q69c14] [(0, .pointer (some ⟨g2, 0, none⟩)), (1, .int .i64 s.1), (5, .slice A17 n18 c19), (7, .int .i64 s.2)] [.own (.slice A17 n18 c19) 3 1 n18 (r15.1.flatMap (eI .i64)), .box g2 Tb3 [.string x1.s, .slice A4 n5 c6, .int .i64 x1.e, .int .i64 x1.at_], .own (.slice A4 n5 c6) 31 4 n5 (x1.l.flatMap enc_api_JNode)] [Sm w.heap.size F w [[g2], (Value.slice A4 n5 c6).ownBlock.toList], St w [[g2], (Value.slice A4 n5 c6).ownBlock.toList]]) s := by
   intro s hs
   refine Rounds.ind (mot := (fun (s : Int × Int) => ∀ (_ : Unit), G (trellisref25_Reader_char_C w F g2 Tb3 A4 n5 c6 z8 r) [.code q69c18, .inLoop q69c18, .inBlock 0, .code q69c14] [(0, .pointer (some ⟨g2, 0, none⟩)), (1, .int .i64 s.1), (5, .slice A17 n18 c19), (7, .int .i64 s.2)] [.own (.slice A17 n18 c19) 3 1 n18 (r15.1.flatMap (eI .i64)), .box g2 Tb3 [.string x1.s, .slice A4 n5 c6, .int .i64 x1.e, .int .i64 x1.at_], .own (.slice A4 n5 c6) 31 4 n5 (x1.l.flatMap enc_api_JNode)] [Sm w.heap.size F w [[g2], (Value.slice A4 n5 c6).ownBlock.toList], St w [[g2], (Value.slice A4 n5 c6).ownBlock.toList]])) ?_ hs
   clear hs s
   intro s o1 h hO1
   obtain ⟨x54, x55⟩ := s
   show ∀ (_ : Unit), G (trellisref25_Reader_char_C w F g2 Tb3 A4 n5 c6 z8 r) [.code q69c18, .inLoop q69c18, .inBlock 0, .code q69c14] [(0, .pointer (some ⟨g2, 0, none⟩)), (1, .int .i64 x54), (5, .slice A17 n18 c19), (7, .int .i64 x55)] [.own (.slice A17 n18 c19) 3 1 n18 (r15.1.flatMap (eI .i64)), .box g2 Tb3 [.string x1.s, .slice A4 n5 c6, .int .i64 x1.e, .int .i64 x1.at_], .own (.slice A4 n5 c6) 31 4 n5 (x1.l.flatMap enc_api_JNode)] [Sm w.heap.size F w [[g2], (Value.slice A4 n5 c6).ownBlock.toList], St w [[g2], (Value.slice A4 n5 c6).ownBlock.toList]]
   intro _
   have h : trellisref25_Reader_char_b1 r15 x1 x54 x55 o1 := h
   unfold trellisref25_Reader_char_b1 at h
   refine g_seq (c := q69c18) rfl ?_
   refine g_seq (c := q69c19) rfl ?_
   refine g_region (c := q69c21) rfl rfl ?_
   refine wl_v 0 rfl (v_move rfl) gn rfl ?_
   refine wl_v 1 rfl (v_move rfl) gn rfl ?_
   refine wl_v 2 rfl (v_lenQ un_46 rfl (Ow.weak hL13.env.size h20).hq) gn rfl ?_
   refine wl_v 3 rfl (v_bin rfl rfl rfl) gn rfl ?_
   refine w_end 4 rfl ?_
   by_cases hp83 : x55 < (r15.1.length : Int)
   ·have h := if_pos' hp83 h
    refine g_true (c := q69c22) rfl _ rfl ((decide_eq_true hp83)) ?_
    refine g_skip (c := q69c23) rfl ?_
    refine g_seq (c := q69c20) rfl ?_
    refine g_block (c := q69c25) rfl ?_
    refine g_seq (c := q69c27) rfl ?_
    refine g_seq (c := q69c28) rfl ?_
    have j2 : ∀ (x90 : Bool) (h : trellisref25_Reader_char_j2 x1 x54 x55 x90 o1) , G (trellisref25_Reader_char_C w F g2 Tb3 A4 n5 c6 z8 r) [.code q69c31, .code q69c29, .inBlock 1, .code q69c26, .inLoop q69c18, .inBlock 0, .code q69c14] [(0, .pointer (some ⟨g2, 0, none⟩)), (1, .int .i64 x54), (5, .slice A17 n18 c19), (7, .int .i64 x55), (66, .bool x90)] [.own (.slice A17 n18 c19) 3 1 n18 (r15.1.flatMap (eI .i64)), .box g2 Tb3 [.string x1.s, .slice A4 n5 c6, .int .i64 x1.e, .int .i64 x1.at_], .own (.slice A4 n5 c6) 31 4 n5 (x1.l.flatMap enc_api_JNode)] [Sm w.heap.size F w [[g2], (Value.slice A4 n5 c6).ownBlock.toList], St w [[g2], (Value.slice A4 n5 c6).ownBlock.toList]] := by
     intro x90 h
     unfold trellisref25_Reader_char_j2 at h
     by_cases hp91 : x90 = true
     ·have h := if_pos' hp91 h
      refine g_true (c := q69c31) rfl _ rfl (hp91) ?_
      refine g_seq (c := q69c32) rfl ?_
      refine g_region (c := q69c34) rfl rfl ?_
      refine wl_v 0 rfl (v_move rfl) gn rfl ?_
      refine wl_v 1 rfl (v_move rfl) gn rfl ?_
      obtain ⟨r95, hv96, h⟩ := h
      refine wl_s 2 rfl (s_call [.pointer (some ⟨g2, 0, none⟩), .int .i64 250, .int .i64 x54] rfl Tryd.func47 rfl rfl rfl fun w92 hL93 => ?_) gn
      have hp94 : List.Perm ([.own (.slice A17 n18 c19) 3 1 n18 (r15.1.flatMap (eI .i64)), .box g2 Tb3 [.string x1.s, .slice A4 n5 c6, .int .i64 x1.e, .int .i64 x1.at_], .own (.slice A4 n5 c6) 31 4 n5 (x1.l.flatMap enc_api_JNode)] : List Ent) (([.box g2 Tb3 [.string x1.s, .slice A4 n5 c6, .int .i64 x1.e, .int .i64 x1.at_], .own (.slice A4 n5 c6) 31 4 n5 (x1.l.flatMap enc_api_JNode)] : List Ent) ++ ([.own (.slice A17 n18 c19) 3 1 n18 (r15.1.flatMap (eI .i64))] : List Ent)) := perm_of_idx [1, 2] [0] rfl rfl (by kernel_rfl)
      refine Calls.mono (trellisref25_Reader_stop_calls w92 (Fl ([] : List Snap)) x1 250 x54 g2 Tb3 z8 A4 n5 c6 (Nat.le_trans hz9 hL93.env.size) h7 (hL93.hFl (Sl := ([] : List Snap)) hp94 (sels [] rfl)) (hL93.into hp94 (Fl ([] : List Snap))) r95 hv96) ?_
      rintro _ w102 ⟨A97, n98, c99, rfl, hM103, h100⟩
      have hL104 := hL93.call hp94 hM103
      refine ⟨_, _, _, rfl, hL104, ?_⟩
      refine wl_v 3 rfl (v_assign rfl) gn rfl ?_
      refine w_end 4 rfl ?_
      have h := Out.inr hO1 h
      refine g_retR (c := q69c35) [.int .i64 r95.1] rfl Tryd.func69 rfl (.tmp rfl (.nil)) fun wr hLr => ?_
      have hMr : B.Loc w wr [.box g2 Tb3 [.string r95.2.s, .slice A97 n98 c99, .int .i64 r95.2.e, .int .i64 r95.2.at_], .own (.slice A97 n98 c99) 31 4 n98 (r95.2.l.flatMap enc_api_JNode)] [St w [[g2], (Value.slice A4 n5 c6).ownBlock.toList]] := hLr.pick (rest := [.own (.slice A17 n18 c19) 3 1 n18 (r15.1.flatMap (eI .i64))]) (perm_of_idx [0, 1] [2] rfl rfl (by kernel_rfl)) (sels [1] rfl)
      show trellisref25_Reader_char_R w F g2 Tb3 A4 n5 c6 z8 r (.returned (packV [.int .i64 r95.1])) wr
      rw [h]
      exact ⟨A97, n98, c99, rfl, hMr, h100⟩
     ·have h := if_neg' hp91 h
      refine g_false (c := q69c31) rfl _ rfl ((bf hp91)) ?_
      refine g_skip (c := q69c33) rfl ?_
      refine g_region (c := q69c29) rfl rfl ?_
      refine wl_v 0 rfl (v_move rfl) gn rfl ?_
      refine wl_v 1 rfl (v_bin rfl rfl rfl) gn rfl ?_
      refine wl_v 2 rfl (v_assign rfl) gn rfl ?_
      refine w_end 3 rfl ?_
      refine g_inBlock ?_
      refine g_region (c := q69c26) rfl rfl ?_
      refine wl_v 0 rfl (v_move rfl) gn rfl ?_
      refine wl_v 1 rfl (v_bin rfl rfl rfl) gn rfl ?_
      refine wl_v 2 rfl (v_assign rfl) gn rfl ?_
      refine w_end 3 rfl ?_
      refine g_inLoop ?_
      have ih := Out.inl hO1 h
      exact g_go [0, 1] (ih ()) ⟨rfl, rfl, rfl, rfl, trivial⟩ (.cons_cons _ (.cons_cons _ (.cons_cons _ (.slnil)))) rfl
    by_cases hp105 : x54 ≥ (x1.s.size : Int)
    ·have h := if_pos' hp105 h
     have hns : Region.noSelect (Code.ops q69c30) = true := by kernel_rfl
     refine g_drawF (c := q69c30) [.own (.slice A17 n18 c19) 3 1 n18 (r15.1.flatMap (eI .i64)), .box g2 Tb3 [.string x1.s, .slice A4 n5 c6, .int .i64 x1.e, .int .i64 x1.at_], .own (.slice A4 n5 c6) 31 4 n5 (x1.l.flatMap enc_api_JNode)] [Sm w.heap.size F w [[g2], (Value.slice A4 n5 c6).ownBlock.toList], St w [[g2], (Value.slice A4 n5 c6).ownBlock.toList]] [] 36 rfl rfl mix rfl (.cons_cons _ (.cons_cons _ (.cons_cons _ (.slnil)))) (sels [0, 1] rfl) ?_
     refine wfv 0 rfl (v_move rfl) gn hns rfl ?_
     refine wfv 1 rfl (v_move rfl) gn hns rfl ?_
     refine wfv 2 rfl (v_nilCheck rfl) gn hns rfl ?_
     refine wfv 3 rfl (v_fldB fo_73_0 rfl) gn hns rfl ?_
     refine wfv 4 rfl (v_ldB1 1 ld_9 rfl rfl rfl) gn hns rfl ?_
     refine wfv 5 rfl (v_lenS un_9 rfl) gn hns rfl ?_
     refine wfv 6 rfl (v_bin rfl rfl rfl) gn hns rfl ?_
     refine wfv 7 rfl (v_move rfl) gn hns rfl ?_
     refine wf_bool 38 rfl ((decide_eq_true hp105)) ?_
     refine wfp 8 rfl (ps 38 rfl rfl rfl) hns rfl ?_
     refine wfp 9 rfl (ps 38 rfl rfl rfl) hns rfl ?_
     refine wfp 10 rfl (ps 38 rfl rfl rfl) hns rfl ?_
     refine wfp 11 rfl (ps 38 rfl rfl rfl) hns rfl ?_
     refine wfp 12 rfl (ps 38 rfl rfl rfl) hns rfl ?_
     refine wfp 13 rfl (ps 38 rfl rfl rfl) hns rfl ?_
     refine wfp 14 rfl (ps 38 rfl rfl rfl) hns rfl ?_
     refine wfp 15 rfl (ps 38 rfl rfl rfl) hns rfl ?_
     refine wfp 16 rfl (ps 38 rfl rfl rfl) hns rfl ?_
     refine wfp 17 rfl (ps 38 rfl rfl rfl) hns rfl ?_
     refine wfp 18 rfl (ps 38 rfl rfl rfl) hns rfl ?_
     refine wfp 19 rfl (ps 38 rfl rfl rfl) hns rfl ?_
     refine wfv 20 rfl (v_pick (b := true) rfl rfl) gn hns rfl ?_
     refine wfv 21 rfl (v_move rfl) gn hns rfl ?_
     refine wfp 22 rfl (ps 52 rfl rfl rfl) hns rfl ?_
     refine wfp 23 rfl (ps 52 rfl rfl rfl) hns rfl ?_
     refine wfp 24 rfl (ps 52 rfl rfl rfl) hns rfl ?_
     refine wfp 25 rfl (ps 52 rfl rfl rfl) hns rfl ?_
     refine wfp 26 rfl (ps 52 rfl rfl rfl) hns rfl ?_
     refine wfp 27 rfl (ps 52 rfl rfl rfl) hns rfl ?_
     refine wfp 28 rfl (ps 52 rfl rfl rfl) hns rfl ?_
     refine wfp 29 rfl (ps 52 rfl rfl rfl) hns rfl ?_
     refine wfp 30 rfl (ps 52 rfl rfl rfl) hns rfl ?_
     refine wfp 31 rfl (ps 52 rfl rfl rfl) hns rfl ?_
     refine wfp 32 rfl (ps 52 rfl rfl rfl) hns rfl ?_
     refine wfp 33 rfl (ps 52 rfl rfl rfl) hns rfl ?_
     refine wfp 34 rfl (ps 52 rfl rfl rfl) hns rfl ?_
     refine wfv 35 rfl (v_pick (b := true) rfl rfl) gn hns rfl ?_
     refine wf_end (by kernel_rfl) ?_
     exact g_go [0, 1] (j2 true h) ⟨rfl, rfl, rfl, rfl, rfl, trivial⟩ (.cons_cons _ (.cons_cons _ (.cons_cons _ (.slnil)))) rfl
    ·have h := if_neg' hp105 h
     obtain ⟨hb106, h⟩ := h
     obtain ⟨hb107, h⟩ := h
     by_cases hp108 : w64 (bt x1.s x54) < ix r15.1 x55
     ·have h := if_pos' hp108 h
      have hns : Region.noSelect (Code.ops q69c30) = true := by kernel_rfl
      refine g_drawF (c := q69c30) [.own (.slice A17 n18 c19) 3 1 n18 (r15.1.flatMap (eI .i64)), .box g2 Tb3 [.string x1.s, .slice A4 n5 c6, .int .i64 x1.e, .int .i64 x1.at_], .own (.slice A4 n5 c6) 31 4 n5 (x1.l.flatMap enc_api_JNode)] [Sm w.heap.size F w [[g2], (Value.slice A4 n5 c6).ownBlock.toList], St w [[g2], (Value.slice A4 n5 c6).ownBlock.toList]] [] 36 rfl rfl mix rfl (.cons_cons _ (.cons_cons _ (.cons_cons _ (.slnil)))) (sels [0, 1] rfl) ?_
      refine wfv 0 rfl (v_move rfl) gn hns rfl ?_
      refine wfv 1 rfl (v_move rfl) gn hns rfl ?_
      refine wfv 2 rfl (v_nilCheck rfl) gn hns rfl ?_
      refine wfv 3 rfl (v_fldB fo_73_0 rfl) gn hns rfl ?_
      refine wfv 4 rfl (v_ldB1 1 ld_9 rfl rfl rfl) gn hns rfl ?_
      refine wfv 5 rfl (v_lenS un_9 rfl) gn hns rfl ?_
      refine wfv 6 rfl (v_bin rfl rfl rfl) gn hns rfl ?_
      refine wfv 7 rfl (v_move rfl) gn hns rfl ?_
      refine wf_bool 38 rfl ((decide_eq_false hp105)) ?_
      refine wfv 8 rfl (v_move rfl) (gy 38 rfl rfl) hns rfl ?_
      refine wfv 9 rfl (v_nilCheck rfl) (gy 38 rfl rfl) hns rfl ?_
      refine wfv 10 rfl (v_fldB fo_73_0 rfl) (gy 38 rfl rfl) hns rfl ?_
      refine wfv 11 rfl (v_ldB1 1 ld_9 rfl rfl rfl) (gy 38 rfl rfl) hns rfl ?_
      refine wfv 12 rfl (v_move rfl) (gy 38 rfl rfl) hns rfl ?_
      refine wfv 13 rfl (v_indexS un_9 rfl rfl hb106) (gy 38 rfl rfl) hns rfl ?_
      refine wfv 14 rfl (v_conv ⟨_, un_5⟩ un_3 rfl) (gy 38 rfl rfl) hns rfl ?_
      refine wfv 15 rfl (v_move rfl) (gy 38 rfl rfl) hns rfl ?_
      refine wfv 16 rfl (v_move rfl) (gy 38 rfl rfl) hns rfl ?_
      refine wfv 17 rfl (v_idxO slE_46 rfl rfl (Ow.weak hL13.env.size h20) hb107) (gy 38 rfl rfl) hns rfl ?_
      refine wfv 18 rfl (v_ldO1 (.int .i64 (ix r15.1 x55)) 0 ld_3 rfl rfl (fm_get0 (hlI .i64) hb107 rfl)) (gy 38 rfl rfl) hns rfl ?_
      refine wfv 19 rfl (v_bin rfl rfl rfl) (gy 38 rfl rfl) hns rfl ?_
      refine wfv 20 rfl (v_pick (b := false) rfl rfl) gn hns rfl ?_
      refine wfv 21 rfl (v_move rfl) gn hns rfl ?_
      refine wf_bool 52 rfl ((decide_eq_true hp108)) ?_
      refine wfp 22 rfl (ps 52 rfl rfl rfl) hns rfl ?_
      refine wfp 23 rfl (ps 52 rfl rfl rfl) hns rfl ?_
      refine wfp 24 rfl (ps 52 rfl rfl rfl) hns rfl ?_
      refine wfp 25 rfl (ps 52 rfl rfl rfl) hns rfl ?_
      refine wfp 26 rfl (ps 52 rfl rfl rfl) hns rfl ?_
      refine wfp 27 rfl (ps 52 rfl rfl rfl) hns rfl ?_
      refine wfp 28 rfl (ps 52 rfl rfl rfl) hns rfl ?_
      refine wfp 29 rfl (ps 52 rfl rfl rfl) hns rfl ?_
      refine wfp 30 rfl (ps 52 rfl rfl rfl) hns rfl ?_
      refine wfp 31 rfl (ps 52 rfl rfl rfl) hns rfl ?_
      refine wfp 32 rfl (ps 52 rfl rfl rfl) hns rfl ?_
      refine wfp 33 rfl (ps 52 rfl rfl rfl) hns rfl ?_
      refine wfp 34 rfl (ps 52 rfl rfl rfl) hns rfl ?_
      refine wfv 35 rfl (v_pick (b := true) rfl rfl) gn hns rfl ?_
      refine wf_end (by kernel_rfl) ?_
      exact g_go [0, 1] (j2 true h) ⟨rfl, rfl, rfl, rfl, rfl, trivial⟩ (.cons_cons _ (.cons_cons _ (.cons_cons _ (.slnil)))) rfl
     ·have h := if_neg' hp108 h
      obtain ⟨hb109, h⟩ := h
      have hns : Region.noSelect (Code.ops q69c30) = true := by kernel_rfl
      refine g_drawF (c := q69c30) [.own (.slice A17 n18 c19) 3 1 n18 (r15.1.flatMap (eI .i64)), .box g2 Tb3 [.string x1.s, .slice A4 n5 c6, .int .i64 x1.e, .int .i64 x1.at_], .own (.slice A4 n5 c6) 31 4 n5 (x1.l.flatMap enc_api_JNode)] [Sm w.heap.size F w [[g2], (Value.slice A4 n5 c6).ownBlock.toList], St w [[g2], (Value.slice A4 n5 c6).ownBlock.toList]] [] 36 rfl rfl mix rfl (.cons_cons _ (.cons_cons _ (.cons_cons _ (.slnil)))) (sels [0, 1] rfl) ?_
      refine wfv 0 rfl (v_move rfl) gn hns rfl ?_
      refine wfv 1 rfl (v_move rfl) gn hns rfl ?_
      refine wfv 2 rfl (v_nilCheck rfl) gn hns rfl ?_
      refine wfv 3 rfl (v_fldB fo_73_0 rfl) gn hns rfl ?_
      refine wfv 4 rfl (v_ldB1 1 ld_9 rfl rfl rfl) gn hns rfl ?_
      refine wfv 5 rfl (v_lenS un_9 rfl) gn hns rfl ?_
      refine wfv 6 rfl (v_bin rfl rfl rfl) gn hns rfl ?_
      refine wfv 7 rfl (v_move rfl) gn hns rfl ?_
      refine wf_bool 38 rfl ((decide_eq_false hp105)) ?_
      refine wfv 8 rfl (v_move rfl) (gy 38 rfl rfl) hns rfl ?_
      refine wfv 9 rfl (v_nilCheck rfl) (gy 38 rfl rfl) hns rfl ?_
      refine wfv 10 rfl (v_fldB fo_73_0 rfl) (gy 38 rfl rfl) hns rfl ?_
      refine wfv 11 rfl (v_ldB1 1 ld_9 rfl rfl rfl) (gy 38 rfl rfl) hns rfl ?_
      refine wfv 12 rfl (v_move rfl) (gy 38 rfl rfl) hns rfl ?_
      refine wfv 13 rfl (v_indexS un_9 rfl rfl hb106) (gy 38 rfl rfl) hns rfl ?_
      refine wfv 14 rfl (v_conv ⟨_, un_5⟩ un_3 rfl) (gy 38 rfl rfl) hns rfl ?_
      refine wfv 15 rfl (v_move rfl) (gy 38 rfl rfl) hns rfl ?_
      refine wfv 16 rfl (v_move rfl) (gy 38 rfl rfl) hns rfl ?_
      refine wfv 17 rfl (v_idxO slE_46 rfl rfl (Ow.weak hL13.env.size h20) hb107) (gy 38 rfl rfl) hns rfl ?_
      refine wfv 18 rfl (v_ldO1 (.int .i64 (ix r15.1 x55)) 0 ld_3 rfl rfl (fm_get0 (hlI .i64) hb107 rfl)) (gy 38 rfl rfl) hns rfl ?_
      refine wfv 19 rfl (v_bin rfl rfl rfl) (gy 38 rfl rfl) hns rfl ?_
      refine wfv 20 rfl (v_pick (b := false) rfl rfl) gn hns rfl ?_
      refine wfv 21 rfl (v_move rfl) gn hns rfl ?_
      refine wf_bool 52 rfl ((decide_eq_false hp108)) ?_
      refine wfv 22 rfl (v_move rfl) (gy 52 rfl rfl) hns rfl ?_
      refine wfv 23 rfl (v_nilCheck rfl) (gy 52 rfl rfl) hns rfl ?_
      refine wfv 24 rfl (v_fldB fo_73_0 rfl) (gy 52 rfl rfl) hns rfl ?_
      refine wfv 25 rfl (v_ldB1 1 ld_9 rfl rfl rfl) (gy 52 rfl rfl) hns rfl ?_
      refine wfv 26 rfl (v_move rfl) (gy 52 rfl rfl) hns rfl ?_
      refine wfv 27 rfl (v_indexS un_9 rfl rfl hb106) (gy 52 rfl rfl) hns rfl ?_
      refine wfv 28 rfl (v_conv ⟨_, un_5⟩ un_3 rfl) (gy 52 rfl rfl) hns rfl ?_
      refine wfv 29 rfl (v_move rfl) (gy 52 rfl rfl) hns rfl ?_
      refine wfv 30 rfl (v_move rfl) (gy 52 rfl rfl) hns rfl ?_
      refine wfv 31 rfl (v_bin rfl rfl rfl) (gy 52 rfl rfl) hns rfl ?_
      refine wfv 32 rfl (v_idxO slE_46 rfl rfl (Ow.weak hL13.env.size h20) hb109) (gy 52 rfl rfl) hns rfl ?_
      refine wfv 33 rfl (v_ldO1 (.int .i64 (ix r15.1 (w64 (x55 + 1)))) 0 ld_3 rfl rfl (fm_get0 (hlI .i64) hb109 rfl)) (gy 52 rfl rfl) hns rfl ?_
      refine wfv 34 rfl (v_bin rfl rfl rfl) (gy 52 rfl rfl) hns rfl ?_
      refine wfv 35 rfl (v_pick (b := false) rfl rfl) gn hns rfl ?_
      refine wf_end (by kernel_rfl) ?_
      exact g_go [0, 1] (j2 (decide (w64 (bt x1.s x54) > ix r15.1 (w64 (x55 + 1)))) h) ⟨rfl, rfl, rfl, rfl, rfl, trivial⟩ (.cons_cons _ (.cons_cons _ (.cons_cons _ (.slnil)))) rfl
   ·have h := if_neg' hp83 h
    refine g_false (c := q69c22) rfl _ rfl ((decide_eq_false hp83)) ?_
    refine g_exit (c := q69c24) [.code q69c14] rfl rfl ?_
    refine g_seq (c := q69c14) rfl ?_
    refine g_region (c := q69c36) rfl rfl ?_
    refine wl_v 0 rfl (v_move rfl) gn rfl ?_
    refine wl_v 1 rfl (v_assign rfl) gn rfl ?_
    refine w_end 2 rfl ?_
    have h := Out.inr hO1 h
    refine g_retR (c := q69c37) [.int .i64 x54] rfl Tryd.func69 rfl (.tmp rfl (.nil)) fun wr hLr => ?_
    have hMr : B.Loc w wr [.box g2 Tb3 [.string x1.s, .slice A4 n5 c6, .int .i64 x1.e, .int .i64 x1.at_], .own (.slice A4 n5 c6) 31 4 n5 (x1.l.flatMap enc_api_JNode)] [St w [[g2], (Value.slice A4 n5 c6).ownBlock.toList]] := hLr.pick (rest := [.own (.slice A17 n18 c19) 3 1 n18 (r15.1.flatMap (eI .i64))]) (perm_of_idx [1, 2] [0] rfl rfl (by kernel_rfl)) (sels [1] rfl)
    show trellisref25_Reader_char_R w F g2 Tb3 A4 n5 c6 z8 r (.returned (packV [.int .i64 x54])) wr
    rw [h]
    exact ⟨A4, n5, c6, rfl, hMr, h7⟩
  exact g_go [0, 1] (key1 _ h ()) ⟨rfl, rfl, rfl, rfl, trivial⟩ (.cons_cons _ (.cons_cons _ (.cons_cons _ (.slnil)))) rfl
 ·have h := if_neg' hp25 h
  refine g_true (c := q69c8) rfl _ rfl ((nt (bf hp25))) ?_
  refine g_seq (c := q69c9) rfl ?_
  refine g_region (c := q69c38) rfl rfl ?_
  refine wl_v 0 rfl (v_move rfl) gn rfl ?_
  refine wl_v 1 rfl (v_move rfl) gn rfl ?_
  obtain ⟨r113, hv114, h⟩ := h
  refine wl_s 2 rfl (s_call [.pointer (some ⟨g2, 0, none⟩), .int .i64 250, .int .i64 x10] rfl Tryd.func47 rfl rfl rfl fun w110 hL111 => ?_) gn
  have hp112 : List.Perm ([.own (.slice A17 n18 c19) 3 1 n18 (r15.1.flatMap (eI .i64)), .box g2 Tb3 [.string x1.s, .slice A4 n5 c6, .int .i64 x1.e, .int .i64 x1.at_], .own (.slice A4 n5 c6) 31 4 n5 (x1.l.flatMap enc_api_JNode)] : List Ent) (([.box g2 Tb3 [.string x1.s, .slice A4 n5 c6, .int .i64 x1.e, .int .i64 x1.at_], .own (.slice A4 n5 c6) 31 4 n5 (x1.l.flatMap enc_api_JNode)] : List Ent) ++ ([.own (.slice A17 n18 c19) 3 1 n18 (r15.1.flatMap (eI .i64))] : List Ent)) := perm_of_idx [1, 2] [0] rfl rfl (by kernel_rfl)
  refine Calls.mono (trellisref25_Reader_stop_calls w110 (Fl ([] : List Snap)) x1 250 x10 g2 Tb3 z8 A4 n5 c6 (Nat.le_trans hz9 hL111.env.size) h7 (hL111.hFl (Sl := ([] : List Snap)) hp112 (sels [] rfl)) (hL111.into hp112 (Fl ([] : List Snap))) r113 hv114) ?_
  rintro _ w120 ⟨A115, n116, c117, rfl, hM121, h118⟩
  have hL122 := hL111.call hp112 hM121
  refine ⟨_, _, _, rfl, hL122, ?_⟩
  refine wl_v 3 rfl (v_assign rfl) gn rfl ?_
  refine w_end 4 rfl ?_
  refine g_retR (c := q69c39) [.int .i64 r113.1] rfl Tryd.func69 rfl (.tmp rfl (.nil)) fun wr hLr => ?_
  have hMr : B.Loc w wr [.box g2 Tb3 [.string r113.2.s, .slice A115 n116 c117, .int .i64 r113.2.e, .int .i64 r113.2.at_], .own (.slice A115 n116 c117) 31 4 n116 (r113.2.l.flatMap enc_api_JNode)] [St w [[g2], (Value.slice A4 n5 c6).ownBlock.toList]] := hLr.pick (rest := [.own (.slice A17 n18 c19) 3 1 n18 (r15.1.flatMap (eI .i64))]) (perm_of_idx [0, 1] [2] rfl rfl (by kernel_rfl)) (sels [1] rfl)
  show trellisref25_Reader_char_R w F g2 Tb3 A4 n5 c6 z8 r (.returned (packV [.int .i64 r113.1])) wr
  rw [h]
  exact ⟨A115, n116, c117, rfl, hMr, h118⟩
noncomputable abbrev q60c0 : Code := bodyOf Tryd.f60
noncomputable abbrev q60c1 : Code := Code.fst q60c0
noncomputable abbrev q60c2 : Code := Code.snd q60c0
noncomputable abbrev q60c3 : Code := Code.fst q60c2
noncomputable abbrev q60c4 : Code := Code.snd q60c2
noncomputable abbrev q60c5 : Code := Code.fst q60c3
noncomputable abbrev q60c6 : Code := Code.snd q60c3
noncomputable abbrev q60c7 : Code := Code.fst q60c6
noncomputable abbrev q60c8 : Code := Code.snd q60c6
noncomputable abbrev q60c9 : Code := Code.fst q60c7
noncomputable abbrev q60c10 : Code := Code.snd q60c7
noncomputable abbrev q60c11 : Code := Code.fst q60c4
noncomputable abbrev q60c12 : Code := Code.snd q60c4
noncomputable abbrev q60c13 : Code := Code.fst q60c11
noncomputable abbrev q60c14 : Code := Code.snd q60c11
noncomputable abbrev q60c15 : Code := Code.fst q60c14
noncomputable abbrev q60c16 : Code := Code.fst q60c15
noncomputable abbrev q60c17 : Code := Code.fst q60c16
noncomputable abbrev q60c18 : Code := Code.snd q60c16
noncomputable abbrev q60c19 : Code := Code.fst q60c17
noncomputable abbrev q60c20 : Code := Code.snd q60c17
noncomputable abbrev q60c21 : Code := Code.fst q60c20
noncomputable abbrev q60c22 : Code := Code.snd q60c20
noncomputable abbrev q60c23 : Code := Code.fst q60c18
noncomputable abbrev q60c24 : Code := Code.snd q60c18
noncomputable abbrev q60c25 : Code := Code.fst q60c23
noncomputable abbrev q60c26 : Code := Code.fst q60c25
noncomputable abbrev q60c27 : Code := Code.snd q60c25
noncomputable abbrev q60c28 : Code := Code.fst q60c27
noncomputable abbrev q60c29 : Code := Code.snd q60c27
noncomputable abbrev q60c30 : Code := Code.fst q60c28
noncomputable abbrev q60c31 : Code := Code.snd q60c28
noncomputable abbrev q60c32 : Code := Code.fst q60c12
noncomputable abbrev q60c33 : Code := Code.snd q60c12
abbrev trellisref25_Reader_has_R (w : World) (F : Nat → Prop) (g2 : Nat) (Tb3 : Nat) (A4 : Option Addr) (n5 : Nat) (c6 : Nat) (z8 : Nat) (r : Bool × trellisref25_Reader) : Ending → World → Prop := fun e w' => ∃ A0 : Option Addr, ∃ n0 : Nat, ∃ c0 : Nat, e = .returned (.bool r.1) ∧ B.Loc w w' [.box g2 Tb3 [.string r.2.s, .slice A0 n0 c0, .int .i64 r.2.e, .int .i64 r.2.at_], .own (.slice A0 n0 c0) 31 4 n0 (r.2.l.flatMap enc_api_JNode)] [St w [[g2], (Value.slice A4 n5 c6).ownBlock.toList]] ∧ Ow z8 A0 n0 c0 r.2.l
noncomputable abbrev trellisref25_Reader_has_C (w : World) (F : Nat → Prop) (g2 : Nat) (Tb3 : Nat) (A4 : Option Addr) (n5 : Nat) (c6 : Nat) (z8 : Nat) (r : Bool × trellisref25_Reader) : Cx := ⟨Tryd.prog, 60, Tryd.f60, 31, trellisref25_Reader_has_R w F g2 Tb3 A4 n5 c6 z8 r, w⟩
theorem trellisref25_Reader_has_calls (w : World) (F : Nat → Prop) (x1 : trellisref25_Reader) (x10 : Int) (x11 : ByteArray) (g2 : Nat) (Tb3 : Nat) (z8 : Nat) (A4 : Option Addr) (n5 : Nat) (c6 : Nat) (hz9 : z8 ≤ w.heap.size) (h7 : Ow z8 A4 n5 c6 x1.l) (hF : ∀ b, F b → b < w.heap.size ∧ ∀ o ∈ ([[g2], (Value.slice A4 n5 c6).ownBlock.toList] : List (List Nat)), b ∉ o) (hL0 : B.Loc w w [.box g2 Tb3 [.string x1.s, .slice A4 n5 c6, .int .i64 x1.e, .int .i64 x1.at_], .own (.slice A4 n5 c6) 31 4 n5 (x1.l.flatMap enc_api_JNode)] [Sm w.heap.size F w [[g2], (Value.slice A4 n5 c6).ownBlock.toList], St w [[g2], (Value.slice A4 n5 c6).ownBlock.toList]]) (r : Bool × trellisref25_Reader) (h : trellisref25_Reader_has x1 x10 x11 r) : Calls Tryd.prog 60 #[.pointer (some ⟨g2, 0, none⟩), .int .i64 x10, .string x11] w (trellisref25_Reader_has_R w F g2 Tb3 A4 n5 c6 z8 r) := by
 unfold trellisref25_Reader_has at h
 refine calls_of_Loc (vs := [.pointer (some ⟨g2, 0, none⟩), .int .i64 x10, .string x11]) 31 Tryd.func60 rfl Tryd.ntmps60 rfl hL0 ?_
 show G (trellisref25_Reader_has_C w F g2 Tb3 A4 n5 c6 z8 r) _ _ _ _
 refine g_seq (c := q60c0) rfl ?_
 refine g_region (c := q60c1) rfl rfl ?_
 refine wl_v 0 rfl (v_assign rfl) gn rfl ?_
 refine w_end 1 rfl ?_
 refine g_seq (c := q60c2) rfl ?_
 refine g_seq (c := q60c3) rfl ?_
 refine g_region (c := q60c5) rfl rfl ?_
 refine wl_v 0 rfl (v_move rfl) gn rfl ?_
 refine wl_v 1 rfl (v_move rfl) gn rfl ?_
 refine wl_v 2 rfl (v_nilCheck rfl) gn rfl ?_
 refine wl_v 3 rfl (v_fldB fo_73_0 rfl) gn rfl ?_
 refine wl_v 4 rfl (v_ldB1 0 ld_9 rfl rfl rfl) gn rfl ?_
 refine wl_v 5 rfl (v_lenS un_9 rfl) gn rfl ?_
 refine wl_v 6 rfl (v_bin rfl rfl rfl) gn rfl ?_
 refine w_end 7 rfl ?_
 by_cases hp12 : x10 ≥ (x1.s.size : Int)
 ·have h := if_pos' hp12 h
  refine g_true (c := q60c6) rfl _ rfl ((decide_eq_true hp12)) ?_
  refine g_seq (c := q60c7) rfl ?_
  refine g_region (c := q60c9) rfl rfl ?_
  refine wl_v 0 rfl (v_assign rfl) gn rfl ?_
  refine w_end 1 rfl ?_
  refine g_retR (c := q60c10) [.bool false] rfl Tryd.func60 rfl (.tmp rfl (.nil)) fun wr hLr => ?_
  have hMr : B.Loc w wr [.box g2 Tb3 [.string x1.s, .slice A4 n5 c6, .int .i64 x1.e, .int .i64 x1.at_], .own (.slice A4 n5 c6) 31 4 n5 (x1.l.flatMap enc_api_JNode)] [St w [[g2], (Value.slice A4 n5 c6).ownBlock.toList]] := hLr.pick (rest := []) (perm_of_idx [0, 1] [] rfl rfl (by kernel_rfl)) (sels [1] rfl)
  show trellisref25_Reader_has_R w F g2 Tb3 A4 n5 c6 z8 r (.returned (packV [.bool false])) wr
  rw [h]
  exact ⟨A4, n5, c6, rfl, hMr, h7⟩
 ·have h := if_neg' hp12 h
  refine g_false (c := q60c6) rfl _ rfl ((decide_eq_false hp12)) ?_
  refine g_skip (c := q60c8) rfl ?_
  refine g_seq (c := q60c4) rfl ?_
  refine g_seq (c := q60c11) rfl ?_
  refine g_region (c := q60c13) rfl rfl ?_
  refine wl_v 0 rfl (v_assign rfl) gn rfl ?_
  refine w_end 1 rfl ?_
  refine g_block (c := q60c14) rfl ?_
  refine g_loop (c := q60c15) rfl ?_
  have key1 : ∀ s, Rounds (fun (s : Int) o => trellisref25_Reader_has_b1 x11 x10 x1 s o) s r → (fun (s : Int) => ∀ (_ : Unit), G (trellisref25_Reader_has_C w F g2 Tb3 A4 n5 c6 z8 r) [.code q60c16, .inLoop q60c16, .inBlock 0, .code q60c12] [(0, .pointer (some ⟨g2, 0, none⟩)), (1, .int .i64 x10), (2, .string x11), (7, .int .i64 s)] [.box g2 Tb3 [.string x1.s, .slice A4 n5 c6, .int .i64 x1.e, .int .i64 x1.at_], .own (.slice A4 n5 c6) 31 4 n5 (x1.l.flatMap enc_api_JNode)] [Sm w.heap.size F w [[g2], (Value.slice A4 n5 c6).ownBlock.toList], St w [[g2], (Value.slice A4 n5 c6).ownBlock.toList]]) s := by
   intro s hs
   refine Rounds.ind (mot := (fun (s : Int) => ∀ (_ : Unit), G (trellisref25_Reader_has_C w F g2 Tb3 A4 n5 c6 z8 r) [.code q60c16, .inLoop q60c16, .inBlock 0, .code q60c12] [(0, .pointer (some ⟨g2, 0, none⟩)), (1, .int .i64 x10), (2, .string x11), (7, .int .i64 s)] [.box g2 Tb3 [.string x1.s, .slice A4 n5 c6, .int .i64 x1.e, .int .i64 x1.at_], .own (.slice A4 n5 c6) 31 4 n5 (x1.l.flatMap enc_api_JNode)] [Sm w.heap.size F w [[g2], (Value.slice A4 n5 c6).ownBlock.toList], St w [[g2], (Value.slice A4 n5 c6).ownBlock.toList]])) ?_ hs
   clear hs s
   intro x18 o1 h hO1
   show ∀ (_ : Unit), G (trellisref25_Reader_has_C w F g2 Tb3 A4 n5 c6 z8 r) [.code q60c16, .inLoop q60c16, .inBlock 0, .code q60c12] [(0, .pointer (some ⟨g2, 0, none⟩)), (1, .int .i64 x10), (2, .string x11), (7, .int .i64 x18)] [.box g2 Tb3 [.string x1.s, .slice A4 n5 c6, .int .i64 x1.e, .int .i64 x1.at_], .own (.slice A4 n5 c6) 31 4 n5 (x1.l.flatMap enc_api_JNode)] [Sm w.heap.size F w [[g2], (Value.slice A4 n5 c6).ownBlock.toList], St w [[g2], (Value.slice A4 n5 c6).ownBlock.toList]]
   intro _
   have h : trellisref25_Reader_has_b1 x11 x10 x1 x18 o1 := h
   unfold trellisref25_Reader_has_b1 at h
   refine g_seq (c := q60c16) rfl ?_
   refine g_seq (c := q60c17) rfl ?_
   refine g_region (c := q60c19) rfl rfl ?_
   refine wl_v 0 rfl (v_move rfl) gn rfl ?_
   refine wl_v 1 rfl (v_move rfl) gn rfl ?_
   refine wl_v 2 rfl (v_lenS un_9 rfl) gn rfl ?_
   refine wl_v 3 rfl (v_bin rfl rfl rfl) gn rfl ?_
   refine w_end 4 rfl ?_
   by_cases hp23 : x18 < (x11.size : Int)
   ·have h := if_pos' hp23 h
    refine g_true (c := q60c20) rfl _ rfl ((decide_eq_true hp23)) ?_
    refine g_skip (c := q60c21) rfl ?_
    refine g_seq (c := q60c18) rfl ?_
    refine g_block (c := q60c23) rfl ?_
    refine g_seq (c := q60c25) rfl ?_
    obtain ⟨hb24, h⟩ := h
    obtain ⟨hb25, h⟩ := h
    have hns : Region.noSelect (Code.ops q60c26) = true := by kernel_rfl
    refine g_drawF (c := q60c26) [.box g2 Tb3 [.string x1.s, .slice A4 n5 c6, .int .i64 x1.e, .int .i64 x1.at_], .own (.slice A4 n5 c6) 31 4 n5 (x1.l.flatMap enc_api_JNode)] [Sm w.heap.size F w [[g2], (Value.slice A4 n5 c6).ownBlock.toList], St w [[g2], (Value.slice A4 n5 c6).ownBlock.toList]] [] 10 rfl rfl mix rfl (.cons_cons _ (.cons_cons _ (.slnil))) (sels [0, 1] rfl) ?_
    refine wfv 0 rfl (v_move rfl) gn hns rfl ?_
    refine wfv 1 rfl (v_move rfl) gn hns rfl ?_
    refine wfv 2 rfl (v_indexS un_9 rfl rfl hb24) gn hns rfl ?_
    refine wfv 3 rfl (v_move rfl) gn hns rfl ?_
    refine wfv 4 rfl (v_nilCheck rfl) gn hns rfl ?_
    refine wfv 5 rfl (v_fldB fo_73_0 rfl) gn hns rfl ?_
    refine wfv 6 rfl (v_ldB1 0 ld_9 rfl rfl rfl) gn hns rfl ?_
    refine wfv 7 rfl (v_move rfl) gn hns rfl ?_
    refine wfv 8 rfl (v_indexS un_9 rfl rfl hb25) gn hns rfl ?_
    refine wfv 9 rfl (v_bin rfl rfl rfl) gn hns rfl ?_
    refine wf_end (by kernel_rfl) ?_
    by_cases hp26 : bt x11 x18 = bt x1.s x10
    ·have h := if_pos' hp26 h
     refine g_true (c := q60c27) rfl _ rfl ((eqi hp26)) ?_
     refine g_seq (c := q60c28) rfl ?_
     refine g_region (c := q60c30) rfl rfl ?_
     refine wl_v 0 rfl (v_assign rfl) gn rfl ?_
     refine w_end 1 rfl ?_
     have h := Out.inr hO1 h
     refine g_retR (c := q60c31) [.bool true] rfl Tryd.func60 rfl (.tmp rfl (.nil)) fun wr hLr => ?_
     have hMr : B.Loc w wr [.box g2 Tb3 [.string x1.s, .slice A4 n5 c6, .int .i64 x1.e, .int .i64 x1.at_], .own (.slice A4 n5 c6) 31 4 n5 (x1.l.flatMap enc_api_JNode)] [St w [[g2], (Value.slice A4 n5 c6).ownBlock.toList]] := hLr.pick (rest := []) (perm_of_idx [0, 1] [] rfl rfl (by kernel_rfl)) (sels [1] rfl)
     show trellisref25_Reader_has_R w F g2 Tb3 A4 n5 c6 z8 r (.returned (packV [.bool true])) wr
     rw [h]
     exact ⟨A4, n5, c6, rfl, hMr, h7⟩
    ·have h := if_neg' hp26 h
     refine g_false (c := q60c27) rfl _ rfl ((nei hp26)) ?_
     refine g_skip (c := q60c29) rfl ?_
     refine g_inBlock ?_
     refine g_region (c := q60c24) rfl rfl ?_
     refine wl_v 0 rfl (v_move rfl) gn rfl ?_
     refine wl_v 1 rfl (v_bin rfl rfl rfl) gn rfl ?_
     refine wl_v 2 rfl (v_assign rfl) gn rfl ?_
     refine w_end 3 rfl ?_
     refine g_inLoop ?_
     have ih := Out.inl hO1 h
     exact g_go [0, 1] (ih ()) ⟨rfl, rfl, rfl, rfl, trivial⟩ (.cons_cons _ (.cons_cons _ (.slnil))) rfl
   ·have h := if_neg' hp23 h
    refine g_false (c := q60c20) rfl _ rfl ((decide_eq_false hp23)) ?_
    refine g_exit (c := q60c22) [.code q60c12] rfl rfl ?_
    refine g_seq (c := q60c12) rfl ?_
    refine g_region (c := q60c32) rfl rfl ?_
    refine wl_v 0 rfl (v_assign rfl) gn rfl ?_
    refine w_end 1 rfl ?_
    have h := Out.inr hO1 h
    refine g_retR (c := q60c33) [.bool false] rfl Tryd.func60 rfl (.tmp rfl (.nil)) fun wr hLr => ?_
    have hMr : B.Loc w wr [.box g2 Tb3 [.string x1.s, .slice A4 n5 c6, .int .i64 x1.e, .int .i64 x1.at_], .own (.slice A4 n5 c6) 31 4 n5 (x1.l.flatMap enc_api_JNode)] [St w [[g2], (Value.slice A4 n5 c6).ownBlock.toList]] := hLr.pick (rest := []) (perm_of_idx [0, 1] [] rfl rfl (by kernel_rfl)) (sels [1] rfl)
    show trellisref25_Reader_has_R w F g2 Tb3 A4 n5 c6 z8 r (.returned (packV [.bool false])) wr
    rw [h]
    exact ⟨A4, n5, c6, rfl, hMr, h7⟩
  exact g_go [0, 1] (key1 _ h ()) ⟨rfl, rfl, rfl, rfl, trivial⟩ (.cons_cons _ (.cons_cons _ (.slnil))) rfl
noncomputable abbrev q75c0 : Code := bodyOf Tryd.f75
noncomputable abbrev q75c1 : Code := Code.fst q75c0
noncomputable abbrev q75c2 : Code := Code.snd q75c0
noncomputable abbrev q75c3 : Code := Code.fst q75c2
noncomputable abbrev q75c4 : Code := Code.snd q75c2
noncomputable abbrev q75c5 : Code := Code.fst q75c3
noncomputable abbrev q75c6 : Code := Code.snd q75c3
noncomputable abbrev q75c7 : Code := Code.fst q75c6
noncomputable abbrev q75c8 : Code := Code.snd q75c6
noncomputable abbrev q75c9 : Code := Code.fst q75c4
noncomputable abbrev q75c10 : Code := Code.snd q75c4
noncomputable abbrev q75c11 : Code := Code.fst q75c9
noncomputable abbrev q75c12 : Code := Code.snd q75c9
noncomputable abbrev q75c13 : Code := Code.fst q75c12
noncomputable abbrev q75c14 : Code := Code.snd q75c12
noncomputable abbrev q75c15 : Code := Code.fst q75c10
noncomputable abbrev q75c16 : Code := Code.snd q75c10
noncomputable abbrev q75c17 : Code := Code.fst q75c13
noncomputable abbrev q75c18 : Code := Code.snd q75c13
noncomputable abbrev q75c19 : Code := Code.fst q75c7
noncomputable abbrev q75c20 : Code := Code.snd q75c7
abbrev trellisref25_Reader_need_R (w : World) (F : Nat → Prop) (g2 : Nat) (Tb3 : Nat) (A4 : Option Addr) (n5 : Nat) (c6 : Nat) (z8 : Nat) (r : Int × trellisref25_Reader) : Ending → World → Prop := fun e w' => ∃ A0 : Option Addr, ∃ n0 : Nat, ∃ c0 : Nat, e = .returned (.int .i64 r.1) ∧ B.Loc w w' [.box g2 Tb3 [.string r.2.s, .slice A0 n0 c0, .int .i64 r.2.e, .int .i64 r.2.at_], .own (.slice A0 n0 c0) 31 4 n0 (r.2.l.flatMap enc_api_JNode)] [St w [[g2], (Value.slice A4 n5 c6).ownBlock.toList]] ∧ Ow z8 A0 n0 c0 r.2.l
noncomputable abbrev trellisref25_Reader_need_C (w : World) (F : Nat → Prop) (g2 : Nat) (Tb3 : Nat) (A4 : Option Addr) (n5 : Nat) (c6 : Nat) (z8 : Nat) (r : Int × trellisref25_Reader) : Cx := ⟨Tryd.prog, 75, Tryd.f75, 23, trellisref25_Reader_need_R w F g2 Tb3 A4 n5 c6 z8 r, w⟩
theorem trellisref25_Reader_need_calls (w : World) (F : Nat → Prop) (x1 : trellisref25_Reader) (x10 : Int) (x11 : ByteArray) (g2 : Nat) (Tb3 : Nat) (z8 : Nat) (A4 : Option Addr) (n5 : Nat) (c6 : Nat) (hz9 : z8 ≤ w.heap.size) (h7 : Ow z8 A4 n5 c6 x1.l) (hF : ∀ b, F b → b < w.heap.size ∧ ∀ o ∈ ([[g2], (Value.slice A4 n5 c6).ownBlock.toList] : List (List Nat)), b ∉ o) (hL0 : B.Loc w w [.box g2 Tb3 [.string x1.s, .slice A4 n5 c6, .int .i64 x1.e, .int .i64 x1.at_], .own (.slice A4 n5 c6) 31 4 n5 (x1.l.flatMap enc_api_JNode)] [Sm w.heap.size F w [[g2], (Value.slice A4 n5 c6).ownBlock.toList], St w [[g2], (Value.slice A4 n5 c6).ownBlock.toList]]) (r : Int × trellisref25_Reader) (h : trellisref25_Reader_need x1 x10 x11 r) : Calls Tryd.prog 75 #[.pointer (some ⟨g2, 0, none⟩), .int .i64 x10, .string x11] w (trellisref25_Reader_need_R w F g2 Tb3 A4 n5 c6 z8 r) := by
 unfold trellisref25_Reader_need at h
 refine calls_of_Loc (vs := [.pointer (some ⟨g2, 0, none⟩), .int .i64 x10, .string x11]) 23 Tryd.func75 rfl Tryd.ntmps75 rfl hL0 ?_
 show G (trellisref25_Reader_need_C w F g2 Tb3 A4 n5 c6 z8 r) _ _ _ _
 refine g_seq (c := q75c0) rfl ?_
 refine g_region (c := q75c1) rfl rfl ?_
 refine wl_v 0 rfl (v_assign rfl) gn rfl ?_
 refine w_end 1 rfl ?_
 refine g_seq (c := q75c2) rfl ?_
 refine g_seq (c := q75c3) rfl ?_
 refine g_region (c := q75c5) rfl rfl ?_
 refine wl_v 0 rfl (v_move rfl) gn rfl ?_
 refine wl_v 1 rfl (v_nilCheck rfl) gn rfl ?_
 refine wl_v 2 rfl (v_fldB fo_73_2 rfl) gn rfl ?_
 refine wl_v 3 rfl (v_ldB1 0 ld_34 rfl rfl rfl) gn rfl ?_
 refine wl_v 4 rfl (v_bin rfl rfl rfl) gn rfl ?_
 refine w_end 5 rfl ?_
 by_cases hp12 : x1.e = 0
 ·have h := if_pos' hp12 h
  refine g_false (c := q75c6) rfl _ rfl ((eqib hp12)) ?_
  refine g_skip (c := q75c8) rfl ?_
  refine g_seq (c := q75c4) rfl ?_
  refine g_seq (c := q75c9) rfl ?_
  refine g_region (c := q75c11) rfl rfl ?_
  refine wl_v 0 rfl (v_move rfl) gn rfl ?_
  refine wl_v 1 rfl (v_move rfl) gn rfl ?_
  refine wl_v 2 rfl (v_move rfl) gn rfl ?_
  obtain ⟨r16, hv17, h⟩ := h
  refine wl_s 3 rfl (s_call [.pointer (some ⟨g2, 0, none⟩), .int .i64 x10, .string x11] rfl Tryd.func60 rfl rfl rfl fun w13 hL14 => ?_) gn
  have hp15 : List.Perm ([.box g2 Tb3 [.string x1.s, .slice A4 n5 c6, .int .i64 x1.e, .int .i64 x1.at_], .own (.slice A4 n5 c6) 31 4 n5 (x1.l.flatMap enc_api_JNode)] : List Ent) (([.box g2 Tb3 [.string x1.s, .slice A4 n5 c6, .int .i64 x1.e, .int .i64 x1.at_], .own (.slice A4 n5 c6) 31 4 n5 (x1.l.flatMap enc_api_JNode)] : List Ent) ++ ([] : List Ent)) := perm_of_idx [0, 1] [] rfl rfl (by kernel_rfl)
  refine Calls.mono (trellisref25_Reader_has_calls w13 (Fl ([] : List Snap)) x1 x10 x11 g2 Tb3 z8 A4 n5 c6 (Nat.le_trans hz9 hL14.env.size) h7 (hL14.hFl (Sl := ([] : List Snap)) hp15 (sels [] rfl)) (hL14.into hp15 (Fl ([] : List Snap))) r16 hv17) ?_
  rintro _ w23 ⟨A18, n19, c20, rfl, hM24, h21⟩
  have hL25 := hL14.call hp15 hM24
  refine ⟨_, _, _, rfl, hL25, ?_⟩
  refine wl_v 4 rfl (v_not rfl) gn rfl ?_
  refine w_end 5 rfl ?_
  by_cases hp26 : r16.1 = true
  ·have h := if_pos' hp26 h
   refine g_false (c := q75c12) rfl _ rfl ((nf hp26)) ?_
   refine g_skip (c := q75c14) rfl ?_
   refine g_seq (c := q75c10) rfl ?_
   refine g_region (c := q75c15) rfl rfl ?_
   refine wl_v 0 rfl (v_move rfl) gn rfl ?_
   refine wl_v 1 rfl (v_bin rfl rfl rfl) gn rfl ?_
   refine wl_v 2 rfl (v_assign rfl) gn rfl ?_
   refine w_end 3 rfl ?_
   refine g_retR (c := q75c16) [.int .i64 (w64 (x10 + 1))] rfl Tryd.func75 rfl (.tmp rfl (.nil)) fun wr hLr => ?_
   have hMr : B.Loc w wr [.box g2 Tb3 [.string r16.2.s, .slice A18 n19 c20, .int .i64 r16.2.e, .int .i64 r16.2.at_], .own (.slice A18 n19 c20) 31 4 n19 (r16.2.l.flatMap enc_api_JNode)] [St w [[g2], (Value.slice A4 n5 c6).ownBlock.toList]] := hLr.pick (rest := []) (perm_of_idx [0, 1] [] rfl rfl (by kernel_rfl)) (sels [1] rfl)
   show trellisref25_Reader_need_R w F g2 Tb3 A4 n5 c6 z8 r (.returned (packV [.int .i64 (w64 (x10 + 1))])) wr
   rw [h]
   exact ⟨A18, n19, c20, rfl, hMr, h21⟩
  ·have h := if_neg' hp26 h
   refine g_true (c := q75c12) rfl _ rfl ((nt (bf hp26))) ?_
   refine g_seq (c := q75c13) rfl ?_
   refine g_region (c := q75c17) rfl rfl ?_
   refine wl_v 0 rfl (v_move rfl) gn rfl ?_
   refine wl_v 1 rfl (v_move rfl) gn rfl ?_
   obtain ⟨r30, hv31, h⟩ := h
   refine wl_s 2 rfl (s_call [.pointer (some ⟨g2, 0, none⟩), .int .i64 250, .int .i64 x10] rfl Tryd.func47 rfl rfl rfl fun w27 hL28 => ?_) gn
   have hp29 : List.Perm ([.box g2 Tb3 [.string r16.2.s, .slice A18 n19 c20, .int .i64 r16.2.e, .int .i64 r16.2.at_], .own (.slice A18 n19 c20) 31 4 n19 (r16.2.l.flatMap enc_api_JNode)] : List Ent) (([.box g2 Tb3 [.string r16.2.s, .slice A18 n19 c20, .int .i64 r16.2.e, .int .i64 r16.2.at_], .own (.slice A18 n19 c20) 31 4 n19 (r16.2.l.flatMap enc_api_JNode)] : List Ent) ++ ([] : List Ent)) := perm_of_idx [0, 1] [] rfl rfl (by kernel_rfl)
   refine Calls.mono (trellisref25_Reader_stop_calls w27 (Fl ([] : List Snap)) r16.2 250 x10 g2 Tb3 z8 A18 n19 c20 (Nat.le_trans hz9 hL28.env.size) h21 (hL28.hFl (Sl := ([] : List Snap)) hp29 (sels [] rfl)) (hL28.into hp29 (Fl ([] : List Snap))) r30 hv31) ?_
   rintro _ w37 ⟨A32, n33, c34, rfl, hM38, h35⟩
   have hL39 := hL28.call hp29 hM38
   refine ⟨_, _, _, rfl, hL39, ?_⟩
   refine wl_v 3 rfl (v_assign rfl) gn rfl ?_
   refine w_end 4 rfl ?_
   refine g_retR (c := q75c18) [.int .i64 r30.1] rfl Tryd.func75 rfl (.tmp rfl (.nil)) fun wr hLr => ?_
   have hMr : B.Loc w wr [.box g2 Tb3 [.string r30.2.s, .slice A32 n33 c34, .int .i64 r30.2.e, .int .i64 r30.2.at_], .own (.slice A32 n33 c34) 31 4 n33 (r30.2.l.flatMap enc_api_JNode)] [St w [[g2], (Value.slice A4 n5 c6).ownBlock.toList]] := hLr.pick (rest := []) (perm_of_idx [0, 1] [] rfl rfl (by kernel_rfl)) (sels [1] rfl)
   show trellisref25_Reader_need_R w F g2 Tb3 A4 n5 c6 z8 r (.returned (packV [.int .i64 r30.1])) wr
   rw [h]
   exact ⟨A32, n33, c34, rfl, hMr, h35⟩
 ·have h := if_neg' hp12 h
  refine g_true (c := q75c6) rfl _ rfl ((neib hp12)) ?_
  refine g_seq (c := q75c7) rfl ?_
  refine g_region (c := q75c19) rfl rfl ?_
  refine wl_v 0 rfl (v_move rfl) gn rfl ?_
  refine wl_v 1 rfl (v_assign rfl) gn rfl ?_
  refine w_end 2 rfl ?_
  refine g_retR (c := q75c20) [.int .i64 x10] rfl Tryd.func75 rfl (.tmp rfl (.nil)) fun wr hLr => ?_
  have hMr : B.Loc w wr [.box g2 Tb3 [.string x1.s, .slice A4 n5 c6, .int .i64 x1.e, .int .i64 x1.at_], .own (.slice A4 n5 c6) 31 4 n5 (x1.l.flatMap enc_api_JNode)] [St w [[g2], (Value.slice A4 n5 c6).ownBlock.toList]] := hLr.pick (rest := []) (perm_of_idx [0, 1] [] rfl rfl (by kernel_rfl)) (sels [1] rfl)
  show trellisref25_Reader_need_R w F g2 Tb3 A4 n5 c6 z8 r (.returned (packV [.int .i64 x10])) wr
  rw [h]
  exact ⟨A4, n5, c6, rfl, hMr, h7⟩
noncomputable abbrev q45c0 : Code := bodyOf Tryd.f45
noncomputable abbrev q45c1 : Code := Code.fst q45c0
noncomputable abbrev q45c2 : Code := Code.snd q45c0
noncomputable abbrev q45c3 : Code := Code.fst q45c2
noncomputable abbrev q45c4 : Code := Code.snd q45c2
noncomputable abbrev q45c5 : Code := Code.fst q45c3
noncomputable abbrev q45c6 : Code := Code.fst q45c5
noncomputable abbrev q45c7 : Code := Code.fst q45c6
noncomputable abbrev q45c8 : Code := Code.snd q45c6
noncomputable abbrev q45c9 : Code := Code.fst q45c7
noncomputable abbrev q45c10 : Code := Code.snd q45c7
noncomputable abbrev q45c11 : Code := Code.fst q45c10
noncomputable abbrev q45c12 : Code := Code.snd q45c10
noncomputable abbrev q45c13 : Code := Code.fst q45c8
noncomputable abbrev q45c14 : Code := Code.fst q45c4
noncomputable abbrev q45c15 : Code := Code.snd q45c4
abbrev trellisref25_Reader_skip_R (w : World) (F : Nat → Prop) (g2 : Nat) (Tb3 : Nat) (A4 : Option Addr) (n5 : Nat) (c6 : Nat) (z8 : Nat) (r : Int × trellisref25_Reader) : Ending → World → Prop := fun e w' => ∃ A0 : Option Addr, ∃ n0 : Nat, ∃ c0 : Nat, e = .returned (.int .i64 r.1) ∧ B.Loc w w' [.box g2 Tb3 [.string r.2.s, .slice A0 n0 c0, .int .i64 r.2.e, .int .i64 r.2.at_], .own (.slice A0 n0 c0) 31 4 n0 (r.2.l.flatMap enc_api_JNode)] [St w [[g2], (Value.slice A4 n5 c6).ownBlock.toList]] ∧ Ow z8 A0 n0 c0 r.2.l
noncomputable abbrev trellisref25_Reader_skip_C (w : World) (F : Nat → Prop) (g2 : Nat) (Tb3 : Nat) (A4 : Option Addr) (n5 : Nat) (c6 : Nat) (z8 : Nat) (r : Int × trellisref25_Reader) : Cx := ⟨Tryd.prog, 45, Tryd.f45, 21, trellisref25_Reader_skip_R w F g2 Tb3 A4 n5 c6 z8 r, w⟩
theorem trellisref25_Reader_skip_calls (w : World) (F : Nat → Prop) (x1 : trellisref25_Reader) (x10 : Int) (x11 : ByteArray) (g2 : Nat) (Tb3 : Nat) (z8 : Nat) (A4 : Option Addr) (n5 : Nat) (c6 : Nat) (hz9 : z8 ≤ w.heap.size) (h7 : Ow z8 A4 n5 c6 x1.l) (hF : ∀ b, F b → b < w.heap.size ∧ ∀ o ∈ ([[g2], (Value.slice A4 n5 c6).ownBlock.toList] : List (List Nat)), b ∉ o) (hL0 : B.Loc w w [.box g2 Tb3 [.string x1.s, .slice A4 n5 c6, .int .i64 x1.e, .int .i64 x1.at_], .own (.slice A4 n5 c6) 31 4 n5 (x1.l.flatMap enc_api_JNode)] [Sm w.heap.size F w [[g2], (Value.slice A4 n5 c6).ownBlock.toList], St w [[g2], (Value.slice A4 n5 c6).ownBlock.toList]]) (r : Int × trellisref25_Reader) (h : trellisref25_Reader_skip x1 x10 x11 r) : Calls Tryd.prog 45 #[.pointer (some ⟨g2, 0, none⟩), .int .i64 x10, .string x11] w (trellisref25_Reader_skip_R w F g2 Tb3 A4 n5 c6 z8 r) := by
 unfold trellisref25_Reader_skip at h
 refine calls_of_Loc (vs := [.pointer (some ⟨g2, 0, none⟩), .int .i64 x10, .string x11]) 21 Tryd.func45 rfl Tryd.ntmps45 rfl hL0 ?_
 show G (trellisref25_Reader_skip_C w F g2 Tb3 A4 n5 c6 z8 r) _ _ _ _
 refine g_seq (c := q45c0) rfl ?_
 refine g_region (c := q45c1) rfl rfl ?_
 refine wl_v 0 rfl (v_assign rfl) gn rfl ?_
 refine w_end 1 rfl ?_
 refine g_seq (c := q45c2) rfl ?_
 refine g_block (c := q45c3) rfl ?_
 refine g_loop (c := q45c5) rfl ?_
 have key1 : ∀ s, Rounds (fun (s : Int × ByteArray × (List api_JNode) × Int × Int) o => trellisref25_Reader_skip_b1 x11 s.1 s.2.1 s.2.2.1 s.2.2.2.1 s.2.2.2.2 o) s r → (fun (s : Int × ByteArray × (List api_JNode) × Int × Int) => ∀ (A31 : Option Addr) (n32 : Nat) (c33 : Nat) (h34 : Ow z8 A31 n32 c33 s.2.2.1), G (trellisref25_Reader_skip_C w F g2 Tb3 A4 n5 c6 z8 r) [.code q45c6, .inLoop q45c6, .inBlock 0, .code q45c4] [(0, .pointer (some ⟨g2, 0, none⟩)), (1, .int .i64 s.1), (2, .string x11)] [.own (.slice A31 n32 c33) 31 4 n32 (s.2.2.1.flatMap enc_api_JNode), .box g2 Tb3 [.string s.2.1, .slice A31 n32 c33, .int .i64 s.2.2.2.1, .int .i64 s.2.2.2.2]] [Sm w.heap.size F w [[g2], (Value.slice A4 n5 c6).ownBlock.toList], St w [[g2], (Value.slice A4 n5 c6).ownBlock.toList]]) s := by
  intro s hs
  refine Rounds.ind (mot := (fun (s : Int × ByteArray × (List api_JNode) × Int × Int) => ∀ (A31 : Option Addr) (n32 : Nat) (c33 : Nat) (h34 : Ow z8 A31 n32 c33 s.2.2.1), G (trellisref25_Reader_skip_C w F g2 Tb3 A4 n5 c6 z8 r) [.code q45c6, .inLoop q45c6, .inBlock 0, .code q45c4] [(0, .pointer (some ⟨g2, 0, none⟩)), (1, .int .i64 s.1), (2, .string x11)] [.own (.slice A31 n32 c33) 31 4 n32 (s.2.2.1.flatMap enc_api_JNode), .box g2 Tb3 [.string s.2.1, .slice A31 n32 c33, .int .i64 s.2.2.2.1, .int .i64 s.2.2.2.2]] [Sm w.heap.size F w [[g2], (Value.slice A4 n5 c6).ownBlock.toList], St w [[g2], (Value.slice A4 n5 c6).ownBlock.toList]])) ?_ hs
  clear hs s
  intro s o1 h hO1
  obtain ⟨x28, x29, x30, x35, x36⟩ := s
  show ∀ (A31 : Option Addr) (n32 : Nat) (c33 : Nat) (h34 : Ow z8 A31 n32 c33 x30), G (trellisref25_Reader_skip_C w F g2 Tb3 A4 n5 c6 z8 r) [.code q45c6, .inLoop q45c6, .inBlock 0, .code q45c4] [(0, .pointer (some ⟨g2, 0, none⟩)), (1, .int .i64 x28), (2, .string x11)] [.own (.slice A31 n32 c33) 31 4 n32 (x30.flatMap enc_api_JNode), .box g2 Tb3 [.string x29, .slice A31 n32 c33, .int .i64 x35, .int .i64 x36]] [Sm w.heap.size F w [[g2], (Value.slice A4 n5 c6).ownBlock.toList], St w [[g2], (Value.slice A4 n5 c6).ownBlock.toList]]
  intro A31 n32 c33 h34
  have h : trellisref25_Reader_skip_b1 x11 x28 x29 x30 x35 x36 o1 := h
  unfold trellisref25_Reader_skip_b1 at h
  refine g_seq (c := q45c6) rfl ?_
  refine g_seq (c := q45c7) rfl ?_
  refine g_region (c := q45c9) rfl rfl ?_
  refine wl_v 0 rfl (v_move rfl) gn rfl ?_
  refine wl_v 1 rfl (v_nilCheck rfl) gn rfl ?_
  refine wl_v 2 rfl (v_fldB fo_73_2 rfl) gn rfl ?_
  refine wl_v 3 rfl (v_ldB1 1 ld_34 rfl rfl rfl) gn rfl ?_
  refine wl_v 4 rfl (v_bin rfl rfl rfl) gn rfl ?_
  refine wl_v 5 rfl (v_move rfl) gn rfl ?_
  by_cases hp52 : x35 = 0
  ·have h := if_pos' hp52 h
   refine w_bool 12 rfl ((eqi hp52)) ?_
   refine wl_v 6 rfl (v_move rfl) (gy 12 rfl rfl) rfl ?_
   refine wl_v 7 rfl (v_move rfl) (gy 12 rfl rfl) rfl ?_
   refine wl_v 8 rfl (v_move rfl) (gy 12 rfl rfl) rfl ?_
   obtain ⟨r56, hv57, h⟩ := h
   refine wl_s 9 rfl (s_call [.pointer (some ⟨g2, 0, none⟩), .int .i64 x28, .string x11] rfl Tryd.func60 rfl rfl rfl fun w53 hL54 => ?_) (gy 12 rfl rfl)
   have hp55 : List.Perm ([.own (.slice A31 n32 c33) 31 4 n32 (x30.flatMap enc_api_JNode), .box g2 Tb3 [.string x29, .slice A31 n32 c33, .int .i64 x35, .int .i64 x36]] : List Ent) (([.box g2 Tb3 [.string x29, .slice A31 n32 c33, .int .i64 x35, .int .i64 x36], .own (.slice A31 n32 c33) 31 4 n32 (x30.flatMap enc_api_JNode)] : List Ent) ++ ([] : List Ent)) := perm_of_idx [1, 0] [] rfl rfl (by kernel_rfl)
   refine Calls.mono (trellisref25_Reader_has_calls w53 (Fl ([] : List Snap)) (⟨x29, x30, x35, x36⟩ : trellisref25_Reader) x28 x11 g2 Tb3 z8 A31 n32 c33 (Nat.le_trans hz9 hL54.env.size) h34 (hL54.hFl (Sl := ([] : List Snap)) hp55 (sels [] rfl)) (hL54.into hp55 (Fl ([] : List Snap))) r56 hv57) ?_
   rintro _ w63 ⟨A58, n59, c60, rfl, hM64, h61⟩
   have hL65 := hL54.call hp55 hM64
   refine ⟨_, _, _, rfl, hL65, ?_⟩
   refine wl_v 10 rfl (v_pick (b := true) rfl rfl) gn rfl ?_
   refine w_end 11 rfl ?_
   by_cases hp66 : r56.1 = true
   ·have h := if_pos' hp66 h
    refine g_true (c := q45c10) rfl _ rfl (hp66) ?_
    refine g_skip (c := q45c11) rfl ?_
    refine g_block (c := q45c8) rfl ?_
    refine g_region (c := q45c13) rfl rfl ?_
    refine wl_v 0 rfl (v_move rfl) gn rfl ?_
    refine wl_v 1 rfl (v_bin rfl rfl rfl) gn rfl ?_
    refine wl_v 2 rfl (v_assign rfl) gn rfl ?_
    refine w_end 3 rfl ?_
    refine g_inBlock ?_
    refine g_inLoop ?_
    refine g_front 0 rfl ?_
    refine g_front 1 rfl ?_
    have ih := Out.inl hO1 h
    exact g_go [0, 1] (ih A58 n59 c60 h61) ⟨rfl, rfl, rfl, trivial⟩ (.cons_cons _ (.cons_cons _ (.slnil))) rfl
   ·have h := if_neg' hp66 h
    refine g_false (c := q45c10) rfl _ rfl ((bf hp66)) ?_
    refine g_exit (c := q45c12) [.code q45c4] rfl rfl ?_
    refine g_seq (c := q45c4) rfl ?_
    refine g_region (c := q45c14) rfl rfl ?_
    refine wl_v 0 rfl (v_move rfl) gn rfl ?_
    refine wl_v 1 rfl (v_assign rfl) gn rfl ?_
    refine w_end 2 rfl ?_
    have h := Out.inr hO1 h
    refine g_retR (c := q45c15) [.int .i64 x28] rfl Tryd.func45 rfl (.tmp rfl (.nil)) fun wr hLr => ?_
    have hMr : B.Loc w wr [.box g2 Tb3 [.string r56.2.s, .slice A58 n59 c60, .int .i64 r56.2.e, .int .i64 r56.2.at_], .own (.slice A58 n59 c60) 31 4 n59 (r56.2.l.flatMap enc_api_JNode)] [St w [[g2], (Value.slice A4 n5 c6).ownBlock.toList]] := hLr.pick (rest := []) (perm_of_idx [0, 1] [] rfl rfl (by kernel_rfl)) (sels [1] rfl)
    show trellisref25_Reader_skip_R w F g2 Tb3 A4 n5 c6 z8 r (.returned (packV [.int .i64 x28])) wr
    rw [h]
    exact ⟨A58, n59, c60, rfl, hMr, h61⟩
  ·have h := if_neg' hp52 h
   refine w_bool 12 rfl ((nei hp52)) ?_
   refine wl_pass 6 rfl (ps 12 rfl rfl rfl) ?_
   refine wl_pass 7 rfl (ps 12 rfl rfl rfl) ?_
   refine wl_pass 8 rfl (ps 12 rfl rfl rfl) ?_
   refine wl_pass 9 rfl (ps 12 rfl rfl rfl) ?_
   refine wl_v 10 rfl (v_pick (b := false) rfl rfl) gn rfl ?_
   refine w_end 11 rfl ?_
   refine g_false (c := q45c10) rfl _ rfl (rfl) ?_
   refine g_exit (c := q45c12) [.code q45c4] rfl rfl ?_
   refine g_seq (c := q45c4) rfl ?_
   refine g_region (c := q45c14) rfl rfl ?_
   refine wl_v 0 rfl (v_move rfl) gn rfl ?_
   refine wl_v 1 rfl (v_assign rfl) gn rfl ?_
   refine w_end 2 rfl ?_
   have h := Out.inr hO1 h
   refine g_retR (c := q45c15) [.int .i64 x28] rfl Tryd.func45 rfl (.tmp rfl (.nil)) fun wr hLr => ?_
   have hMr : B.Loc w wr [.box g2 Tb3 [.string x29, .slice A31 n32 c33, .int .i64 x35, .int .i64 x36], .own (.slice A31 n32 c33) 31 4 n32 (x30.flatMap enc_api_JNode)] [St w [[g2], (Value.slice A4 n5 c6).ownBlock.toList]] := hLr.pick (rest := []) (perm_of_idx [1, 0] [] rfl rfl (by kernel_rfl)) (sels [1] rfl)
   show trellisref25_Reader_skip_R w F g2 Tb3 A4 n5 c6 z8 r (.returned (packV [.int .i64 x28])) wr
   rw [h]
   exact ⟨A31, n32, c33, rfl, hMr, h34⟩
 refine g_front 0 rfl ?_
 refine g_front 1 rfl ?_
 exact g_go [0, 1] (key1 _ h A4 n5 c6 h7) ⟨rfl, rfl, rfl, trivial⟩ (.cons_cons _ (.cons_cons _ (.slnil))) rfl
noncomputable abbrev q64c0 : Code := bodyOf Tryd.f64
noncomputable abbrev q64c1 : Code := Code.fst q64c0
noncomputable abbrev q64c2 : Code := Code.snd q64c0
noncomputable abbrev q64c3 : Code := Code.fst q64c2
noncomputable abbrev q64c4 : Code := Code.snd q64c2
noncomputable abbrev q64c5 : Code := Code.fst q64c3
noncomputable abbrev q64c6 : Code := Code.snd q64c3
noncomputable abbrev q64c7 : Code := Code.fst q64c6
noncomputable abbrev q64c8 : Code := Code.snd q64c6
noncomputable abbrev q64c9 : Code := Code.fst q64c4
noncomputable abbrev q64c10 : Code := Code.snd q64c4
noncomputable abbrev q64c11 : Code := Code.fst q64c9
noncomputable abbrev q64c12 : Code := Code.snd q64c9
noncomputable abbrev q64c13 : Code := Code.fst q64c12
noncomputable abbrev q64c14 : Code := Code.snd q64c12
noncomputable abbrev q64c15 : Code := Code.fst q64c14
noncomputable abbrev q64c16 : Code := Code.snd q64c14
noncomputable abbrev q64c17 : Code := Code.fst q64c10
noncomputable abbrev q64c18 : Code := Code.snd q64c10
noncomputable abbrev q64c19 : Code := Code.fst q64c17
noncomputable abbrev q64c20 : Code := Code.snd q64c17
noncomputable abbrev q64c21 : Code := Code.fst q64c20
noncomputable abbrev q64c22 : Code := Code.snd q64c20
noncomputable abbrev q64c23 : Code := Code.fst q64c21
noncomputable abbrev q64c24 : Code := Code.snd q64c21
noncomputable abbrev q64c25 : Code := Code.fst q64c18
noncomputable abbrev q64c26 : Code := Code.snd q64c18
noncomputable abbrev q64c27 : Code := Code.fst q64c25
noncomputable abbrev q64c28 : Code := Code.snd q64c25
noncomputable abbrev q64c29 : Code := Code.fst q64c28
noncomputable abbrev q64c30 : Code := Code.snd q64c28
noncomputable abbrev q64c31 : Code := Code.fst q64c29
noncomputable abbrev q64c32 : Code := Code.snd q64c29
noncomputable abbrev q64c33 : Code := Code.fst q64c32
noncomputable abbrev q64c34 : Code := Code.snd q64c32
noncomputable abbrev q64c35 : Code := Code.fst q64c33
noncomputable abbrev q64c36 : Code := Code.snd q64c33
noncomputable abbrev q64c37 : Code := Code.fst q64c36
noncomputable abbrev q64c38 : Code := Code.snd q64c36
noncomputable abbrev q64c39 : Code := Code.fst q64c34
noncomputable abbrev q64c40 : Code := Code.snd q64c34
noncomputable abbrev q64c41 : Code := Code.fst q64c26
noncomputable abbrev q64c42 : Code := Code.snd q64c26
abbrev trellisref25_Reader_number_R (w : World) (F : Nat → Prop) (g2 : Nat) (Tb3 : Nat) (A4 : Option Addr) (n5 : Nat) (c6 : Nat) (z8 : Nat) (r : Int × trellisref25_Reader) : Ending → World → Prop := fun e w' => ∃ A0 : Option Addr, ∃ n0 : Nat, ∃ c0 : Nat, e = .returned (.int .i64 r.1) ∧ B.Loc w w' [.box g2 Tb3 [.string r.2.s, .slice A0 n0 c0, .int .i64 r.2.e, .int .i64 r.2.at_], .own (.slice A0 n0 c0) 31 4 n0 (r.2.l.flatMap enc_api_JNode)] [St w [[g2], (Value.slice A4 n5 c6).ownBlock.toList]] ∧ Ow z8 A0 n0 c0 r.2.l
noncomputable abbrev trellisref25_Reader_number_C (w : World) (F : Nat → Prop) (g2 : Nat) (Tb3 : Nat) (A4 : Option Addr) (n5 : Nat) (c6 : Nat) (z8 : Nat) (r : Int × trellisref25_Reader) : Cx := ⟨Tryd.prog, 64, Tryd.f64, 62, trellisref25_Reader_number_R w F g2 Tb3 A4 n5 c6 z8 r, w⟩
theorem trellisref25_Reader_number_calls (w : World) (F : Nat → Prop) (x1 : trellisref25_Reader) (x10 : Int) (g2 : Nat) (Tb3 : Nat) (z8 : Nat) (A4 : Option Addr) (n5 : Nat) (c6 : Nat) (hz9 : z8 ≤ w.heap.size) (h7 : Ow z8 A4 n5 c6 x1.l) (hF : ∀ b, F b → b < w.heap.size ∧ ∀ o ∈ ([[g2], (Value.slice A4 n5 c6).ownBlock.toList] : List (List Nat)), b ∉ o) (hL0 : B.Loc w w [.box g2 Tb3 [.string x1.s, .slice A4 n5 c6, .int .i64 x1.e, .int .i64 x1.at_], .own (.slice A4 n5 c6) 31 4 n5 (x1.l.flatMap enc_api_JNode)] [Sm w.heap.size F w [[g2], (Value.slice A4 n5 c6).ownBlock.toList], St w [[g2], (Value.slice A4 n5 c6).ownBlock.toList]]) (r : Int × trellisref25_Reader) (h : trellisref25_Reader_number x1 x10 r) : Calls Tryd.prog 64 #[.pointer (some ⟨g2, 0, none⟩), .int .i64 x10] w (trellisref25_Reader_number_R w F g2 Tb3 A4 n5 c6 z8 r) := by
 unfold trellisref25_Reader_number at h
 refine calls_of_Loc (vs := [.pointer (some ⟨g2, 0, none⟩), .int .i64 x10]) 62 Tryd.func64 rfl Tryd.ntmps64 rfl hL0 ?_
 show G (trellisref25_Reader_number_C w F g2 Tb3 A4 n5 c6 z8 r) _ _ _ _
 refine g_seq (c := q64c0) rfl ?_
 refine g_region (c := q64c1) rfl rfl ?_
 refine wl_v 0 rfl (v_assign rfl) gn rfl ?_
 refine w_end 1 rfl ?_
 refine g_seq (c := q64c2) rfl ?_
 refine g_seq (c := q64c3) rfl ?_
 refine g_region (c := q64c5) rfl rfl ?_
 refine wl_v 0 rfl (v_move rfl) gn rfl ?_
 refine wl_v 1 rfl (v_move rfl) gn rfl ?_
 obtain ⟨r14, hv15, h⟩ := h
 refine wl_s 2 rfl (s_call [.pointer (some ⟨g2, 0, none⟩), .int .i64 x10, .string (⟨#[45]⟩ : ByteArray)] rfl Tryd.func60 rfl rfl rfl fun w11 hL12 => ?_) gn
 have hp13 : List.Perm ([.box g2 Tb3 [.string x1.s, .slice A4 n5 c6, .int .i64 x1.e, .int .i64 x1.at_], .own (.slice A4 n5 c6) 31 4 n5 (x1.l.flatMap enc_api_JNode)] : List Ent) (([.box g2 Tb3 [.string x1.s, .slice A4 n5 c6, .int .i64 x1.e, .int .i64 x1.at_], .own (.slice A4 n5 c6) 31 4 n5 (x1.l.flatMap enc_api_JNode)] : List Ent) ++ ([] : List Ent)) := perm_of_idx [0, 1] [] rfl rfl (by kernel_rfl)
 refine Calls.mono (trellisref25_Reader_has_calls w11 (Fl ([] : List Snap)) x1 x10 (⟨#[45]⟩ : ByteArray) g2 Tb3 z8 A4 n5 c6 (Nat.le_trans hz9 hL12.env.size) h7 (hL12.hFl (Sl := ([] : List Snap)) hp13 (sels [] rfl)) (hL12.into hp13 (Fl ([] : List Snap))) r14 hv15) ?_
 rintro _ w21 ⟨A16, n17, c18, rfl, hM22, h19⟩
 have hL23 := hL12.call hp13 hM22
 refine ⟨_, _, _, rfl, hL23, ?_⟩
 refine w_end 3 rfl ?_
 have j1 : ∀ (x26 : Int) (h : trellisref25_Reader_number_j1 r14 x26 r) , G (trellisref25_Reader_number_C w F g2 Tb3 A4 n5 c6 z8 r) [.code q64c4] [(0, .pointer (some ⟨g2, 0, none⟩)), (1, .int .i64 x26)] [.box g2 Tb3 [.string r14.2.s, .slice A16 n17 c18, .int .i64 r14.2.e, .int .i64 r14.2.at_], .own (.slice A16 n17 c18) 31 4 n17 (r14.2.l.flatMap enc_api_JNode)] [Sm w.heap.size F w [[g2], (Value.slice A4 n5 c6).ownBlock.toList], St w [[g2], (Value.slice A4 n5 c6).ownBlock.toList]] := by
  intro x26 h
  unfold trellisref25_Reader_number_j1 at h
  refine g_seq (c := q64c4) rfl ?_
  refine g_seq (c := q64c9) rfl ?_
  refine g_region (c := q64c11) rfl rfl ?_
  refine wl_v 0 rfl (v_move rfl) gn rfl ?_
  refine wl_v 1 rfl (v_move rfl) gn rfl ?_
  obtain ⟨r30, hv31, h⟩ := h
  refine wl_s 2 rfl (s_call [.pointer (some ⟨g2, 0, none⟩), .int .i64 x26, .string (⟨#[48]⟩ : ByteArray)] rfl Tryd.func60 rfl rfl rfl fun w27 hL28 => ?_) gn
  have hp29 : List.Perm ([.box g2 Tb3 [.string r14.2.s, .slice A16 n17 c18, .int .i64 r14.2.e, .int .i64 r14.2.at_], .own (.slice A16 n17 c18) 31 4 n17 (r14.2.l.flatMap enc_api_JNode)] : List Ent) (([.box g2 Tb3 [.string r14.2.s, .slice A16 n17 c18, .int .i64 r14.2.e, .int .i64 r14.2.at_], .own (.slice A16 n17 c18) 31 4 n17 (r14.2.l.flatMap enc_api_JNode)] : List Ent) ++ ([] : List Ent)) := perm_of_idx [0, 1] [] rfl rfl (by kernel_rfl)
  refine Calls.mono (trellisref25_Reader_has_calls w27 (Fl ([] : List Snap)) r14.2 x26 (⟨#[48]⟩ : ByteArray) g2 Tb3 z8 A16 n17 c18 (Nat.le_trans hz9 hL28.env.size) h19 (hL28.hFl (Sl := ([] : List Snap)) hp29 (sels [] rfl)) (hL28.into hp29 (Fl ([] : List Snap))) r30 hv31) ?_
  rintro _ w37 ⟨A32, n33, c34, rfl, hM38, h35⟩
  have hL39 := hL28.call hp29 hM38
  refine ⟨_, _, _, rfl, hL39, ?_⟩
  refine w_end 3 rfl ?_
  have j2 : ∀ (x69 : Int) (x70 : ByteArray) (x71 : List api_JNode) (x76 : Int) (x77 : Int) (h : trellisref25_Reader_number_j2 x69 x70 x71 x76 x77 r) (A72 : Option Addr) (n73 : Nat) (c74 : Nat) (h75 : Ow z8 A72 n73 c74 x71), G (trellisref25_Reader_number_C w F g2 Tb3 A4 n5 c6 z8 r) [.code q64c10] [(0, .pointer (some ⟨g2, 0, none⟩)), (1, .int .i64 x69)] [.own (.slice A72 n73 c74) 31 4 n73 (x71.flatMap enc_api_JNode), .box g2 Tb3 [.string x70, .slice A72 n73 c74, .int .i64 x76, .int .i64 x77]] [Sm w.heap.size F w [[g2], (Value.slice A4 n5 c6).ownBlock.toList], St w [[g2], (Value.slice A4 n5 c6).ownBlock.toList]] := by
   intro x69 x70 x71 x76 x77 h A72 n73 c74 h75
   unfold trellisref25_Reader_number_j2 at h
   refine g_seq (c := q64c10) rfl ?_
   refine g_seq (c := q64c17) rfl ?_
   have j3 : ∀ (x93 : Bool) (x94 : ByteArray) (x95 : List api_JNode) (x100 : Int) (x101 : Int) (h : trellisref25_Reader_number_j3 x69 x93 x94 x95 x100 x101 r) (A96 : Option Addr) (n97 : Nat) (c98 : Nat) (h99 : Ow z8 A96 n97 c98 x95), G (trellisref25_Reader_number_C w F g2 Tb3 A4 n5 c6 z8 r) [.code q64c20, .code q64c18] [(0, .pointer (some ⟨g2, 0, none⟩)), (1, .int .i64 x69), (30, .bool x93)] [.own (.slice A96 n97 c98) 31 4 n97 (x95.flatMap enc_api_JNode), .box g2 Tb3 [.string x94, .slice A96 n97 c98, .int .i64 x100, .int .i64 x101]] [Sm w.heap.size F w [[g2], (Value.slice A4 n5 c6).ownBlock.toList], St w [[g2], (Value.slice A4 n5 c6).ownBlock.toList]] := by
    intro x93 x94 x95 x100 x101 h A96 n97 c98 h99
    unfold trellisref25_Reader_number_j3 at h
    have j4 : ∀ (x130 : Int) (x131 : ByteArray) (x132 : List api_JNode) (x137 : Int) (x138 : Int) (h : trellisref25_Reader_number_j4 x130 x131 x132 x137 x138 r) (A133 : Option Addr) (n134 : Nat) (c135 : Nat) (h136 : Ow z8 A133 n134 c135 x132), G (trellisref25_Reader_number_C w F g2 Tb3 A4 n5 c6 z8 r) [.code q64c18] [(0, .pointer (some ⟨g2, 0, none⟩)), (1, .int .i64 x130)] [.own (.slice A133 n134 c135) 31 4 n134 (x132.flatMap enc_api_JNode), .box g2 Tb3 [.string x131, .slice A133 n134 c135, .int .i64 x137, .int .i64 x138]] [Sm w.heap.size F w [[g2], (Value.slice A4 n5 c6).ownBlock.toList], St w [[g2], (Value.slice A4 n5 c6).ownBlock.toList]] := by
     intro x130 x131 x132 x137 x138 h A133 n134 c135 h136
     unfold trellisref25_Reader_number_j4 at h
     refine g_seq (c := q64c18) rfl ?_
     refine g_seq (c := q64c25) rfl ?_
     have j5 : ∀ (x154 : Bool) (x155 : ByteArray) (x156 : List api_JNode) (x161 : Int) (x162 : Int) (h : trellisref25_Reader_number_j5 x130 x154 x155 x156 x161 x162 r) (A157 : Option Addr) (n158 : Nat) (c159 : Nat) (h160 : Ow z8 A157 n158 c159 x156), G (trellisref25_Reader_number_C w F g2 Tb3 A4 n5 c6 z8 r) [.code q64c28, .code q64c26] [(0, .pointer (some ⟨g2, 0, none⟩)), (1, .int .i64 x130), (47, .bool x154)] [.own (.slice A157 n158 c159) 31 4 n158 (x156.flatMap enc_api_JNode), .box g2 Tb3 [.string x155, .slice A157 n158 c159, .int .i64 x161, .int .i64 x162]] [Sm w.heap.size F w [[g2], (Value.slice A4 n5 c6).ownBlock.toList], St w [[g2], (Value.slice A4 n5 c6).ownBlock.toList]] := by
      intro x154 x155 x156 x161 x162 h A157 n158 c159 h160
      unfold trellisref25_Reader_number_j5 at h
      by_cases hp163 : x154 = true
      ·have h := if_pos' hp163 h
       refine g_true (c := q64c28) rfl _ rfl (hp163) ?_
       refine g_seq (c := q64c29) rfl ?_
       refine g_region (c := q64c31) rfl rfl ?_
       refine wl_v 0 rfl (v_move rfl) gn rfl ?_
       refine wl_v 1 rfl (v_bin rfl rfl rfl) gn rfl ?_
       refine wl_v 2 rfl (v_assign rfl) gn rfl ?_
       refine w_end 3 rfl ?_
       refine g_seq (c := q64c32) rfl ?_
       refine g_seq (c := q64c33) rfl ?_
       refine g_region (c := q64c35) rfl rfl ?_
       refine wl_v 0 rfl (v_move rfl) gn rfl ?_
       refine wl_v 1 rfl (v_move rfl) gn rfl ?_
       obtain ⟨r167, hv168, h⟩ := h
       refine wl_s 2 rfl (s_call [.pointer (some ⟨g2, 0, none⟩), .int .i64 (w64 (x130 + 1)), .string (⟨#[43, 45]⟩ : ByteArray)] rfl Tryd.func60 rfl rfl rfl fun w164 hL165 => ?_) gn
       have hp166 : List.Perm ([.own (.slice A157 n158 c159) 31 4 n158 (x156.flatMap enc_api_JNode), .box g2 Tb3 [.string x155, .slice A157 n158 c159, .int .i64 x161, .int .i64 x162]] : List Ent) (([.box g2 Tb3 [.string x155, .slice A157 n158 c159, .int .i64 x161, .int .i64 x162], .own (.slice A157 n158 c159) 31 4 n158 (x156.flatMap enc_api_JNode)] : List Ent) ++ ([] : List Ent)) := perm_of_idx [1, 0] [] rfl rfl (by kernel_rfl)
       refine Calls.mono (trellisref25_Reader_has_calls w164 (Fl ([] : List Snap)) (⟨x155, x156, x161, x162⟩ : trellisref25_Reader) (w64 (x130 + 1)) (⟨#[43, 45]⟩ : ByteArray) g2 Tb3 z8 A157 n158 c159 (Nat.le_trans hz9 hL165.env.size) h160 (hL165.hFl (Sl := ([] : List Snap)) hp166 (sels [] rfl)) (hL165.into hp166 (Fl ([] : List Snap))) r167 hv168) ?_
       rintro _ w174 ⟨A169, n170, c171, rfl, hM175, h172⟩
       have hL176 := hL165.call hp166 hM175
       refine ⟨_, _, _, rfl, hL176, ?_⟩
       refine w_end 3 rfl ?_
       have j6 : ∀ (x179 : Int) (h : trellisref25_Reader_number_j6 r167 x179 r) , G (trellisref25_Reader_number_C w F g2 Tb3 A4 n5 c6 z8 r) [.code q64c34, .code q64c26] [(0, .pointer (some ⟨g2, 0, none⟩)), (1, .int .i64 x179)] [.box g2 Tb3 [.string r167.2.s, .slice A169 n170 c171, .int .i64 r167.2.e, .int .i64 r167.2.at_], .own (.slice A169 n170 c171) 31 4 n170 (r167.2.l.flatMap enc_api_JNode)] [Sm w.heap.size F w [[g2], (Value.slice A4 n5 c6).ownBlock.toList], St w [[g2], (Value.slice A4 n5 c6).ownBlock.toList]] := by
        intro x179 h
        unfold trellisref25_Reader_number_j6 at h
        refine g_seq (c := q64c34) rfl ?_
        refine g_region (c := q64c39) rfl rfl ?_
        refine wl_v 0 rfl (v_move rfl) gn rfl ?_
        refine wl_v 1 rfl (v_move rfl) gn rfl ?_
        obtain ⟨r183, hv184, h⟩ := h
        refine wl_s 2 rfl (s_call [.pointer (some ⟨g2, 0, none⟩), .int .i64 x179, .string (⟨#[48, 49, 50, 51, 52, 53, 54, 55, 56, 57]⟩ : ByteArray)] rfl Tryd.func75 rfl rfl rfl fun w180 hL181 => ?_) gn
        have hp182 : List.Perm ([.box g2 Tb3 [.string r167.2.s, .slice A169 n170 c171, .int .i64 r167.2.e, .int .i64 r167.2.at_], .own (.slice A169 n170 c171) 31 4 n170 (r167.2.l.flatMap enc_api_JNode)] : List Ent) (([.box g2 Tb3 [.string r167.2.s, .slice A169 n170 c171, .int .i64 r167.2.e, .int .i64 r167.2.at_], .own (.slice A169 n170 c171) 31 4 n170 (r167.2.l.flatMap enc_api_JNode)] : List Ent) ++ ([] : List Ent)) := perm_of_idx [0, 1] [] rfl rfl (by kernel_rfl)
        refine Calls.mono (trellisref25_Reader_need_calls w180 (Fl ([] : List Snap)) r167.2 x179 (⟨#[48, 49, 50, 51, 52, 53, 54, 55, 56, 57]⟩ : ByteArray) g2 Tb3 z8 A169 n170 c171 (Nat.le_trans hz9 hL181.env.size) h172 (hL181.hFl (Sl := ([] : List Snap)) hp182 (sels [] rfl)) (hL181.into hp182 (Fl ([] : List Snap))) r183 hv184) ?_
        rintro _ w190 ⟨A185, n186, c187, rfl, hM191, h188⟩
        have hL192 := hL181.call hp182 hM191
        refine ⟨_, _, _, rfl, hL192, ?_⟩
        refine wl_v 3 rfl (v_assign rfl) gn rfl ?_
        refine w_end 4 rfl ?_
        refine g_region (c := q64c40) rfl rfl ?_
        refine wl_v 0 rfl (v_move rfl) gn rfl ?_
        refine wl_v 1 rfl (v_move rfl) gn rfl ?_
        obtain ⟨r196, hv197, h⟩ := h
        refine wl_s 2 rfl (s_call [.pointer (some ⟨g2, 0, none⟩), .int .i64 r183.1, .string (⟨#[48, 49, 50, 51, 52, 53, 54, 55, 56, 57]⟩ : ByteArray)] rfl Tryd.func45 rfl rfl rfl fun w193 hL194 => ?_) gn
        have hp195 : List.Perm ([.box g2 Tb3 [.string r183.2.s, .slice A185 n186 c187, .int .i64 r183.2.e, .int .i64 r183.2.at_], .own (.slice A185 n186 c187) 31 4 n186 (r183.2.l.flatMap enc_api_JNode)] : List Ent) (([.box g2 Tb3 [.string r183.2.s, .slice A185 n186 c187, .int .i64 r183.2.e, .int .i64 r183.2.at_], .own (.slice A185 n186 c187) 31 4 n186 (r183.2.l.flatMap enc_api_JNode)] : List Ent) ++ ([] : List Ent)) := perm_of_idx [0, 1] [] rfl rfl (by kernel_rfl)
        refine Calls.mono (trellisref25_Reader_skip_calls w193 (Fl ([] : List Snap)) r183.2 r183.1 (⟨#[48, 49, 50, 51, 52, 53, 54, 55, 56, 57]⟩ : ByteArray) g2 Tb3 z8 A185 n186 c187 (Nat.le_trans hz9 hL194.env.size) h188 (hL194.hFl (Sl := ([] : List Snap)) hp195 (sels [] rfl)) (hL194.into hp195 (Fl ([] : List Snap))) r196 hv197) ?_
        rintro _ w203 ⟨A198, n199, c200, rfl, hM204, h201⟩
        have hL205 := hL194.call hp195 hM204
        refine ⟨_, _, _, rfl, hL205, ?_⟩
        refine wl_v 3 rfl (v_assign rfl) gn rfl ?_
        refine w_end 4 rfl ?_
        refine g_seq (c := q64c26) rfl ?_
        refine g_region (c := q64c41) rfl rfl ?_
        refine wl_v 0 rfl (v_move rfl) gn rfl ?_
        refine wl_v 1 rfl (v_assign rfl) gn rfl ?_
        refine w_end 2 rfl ?_
        refine g_retR (c := q64c42) [.int .i64 r196.1] rfl Tryd.func64 rfl (.tmp rfl (.nil)) fun wr hLr => ?_
        have hMr : B.Loc w wr [.box g2 Tb3 [.string r196.2.s, .slice A198 n199 c200, .int .i64 r196.2.e, .int .i64 r196.2.at_], .own (.slice A198 n199 c200) 31 4 n199 (r196.2.l.flatMap enc_api_JNode)] [St w [[g2], (Value.slice A4 n5 c6).ownBlock.toList]] := hLr.pick (rest := []) (perm_of_idx [0, 1] [] rfl rfl (by kernel_rfl)) (sels [1] rfl)
        show trellisref25_Reader_number_R w F g2 Tb3 A4 n5 c6 z8 r (.returned (packV [.int .i64 r196.1])) wr
        rw [h]
        exact ⟨A198, n199, c200, rfl, hMr, h201⟩
       by_cases hp177 : r167.1 = true
       ·have h := if_pos' hp177 h
        refine g_true (c := q64c36) rfl _ rfl (hp177) ?_
        refine g_region (c := q64c37) rfl rfl ?_
        refine wl_v 0 rfl (v_move rfl) gn rfl ?_
        refine wl_v 1 rfl (v_bin rfl rfl rfl) gn rfl ?_
        refine wl_v 2 rfl (v_assign rfl) gn rfl ?_
        refine w_end 3 rfl ?_
        exact g_go [0, 1] (j6 (w64 ((w64 (x130 + 1)) + 1)) h) ⟨rfl, rfl, trivial⟩ (.cons_cons _ (.cons_cons _ (.slnil))) rfl
       ·have h := if_neg' hp177 h
        refine g_false (c := q64c36) rfl _ rfl ((bf hp177)) ?_
        refine g_skip (c := q64c38) rfl ?_
        exact g_go [0, 1] (j6 (w64 (x130 + 1)) h) ⟨rfl, rfl, trivial⟩ (.cons_cons _ (.cons_cons _ (.slnil))) rfl
      ·have h := if_neg' hp163 h
       refine g_false (c := q64c28) rfl _ rfl ((bf hp163)) ?_
       refine g_skip (c := q64c30) rfl ?_
       refine g_seq (c := q64c26) rfl ?_
       refine g_region (c := q64c41) rfl rfl ?_
       refine wl_v 0 rfl (v_move rfl) gn rfl ?_
       refine wl_v 1 rfl (v_assign rfl) gn rfl ?_
       refine w_end 2 rfl ?_
       refine g_retR (c := q64c42) [.int .i64 x130] rfl Tryd.func64 rfl (.tmp rfl (.nil)) fun wr hLr => ?_
       have hMr : B.Loc w wr [.box g2 Tb3 [.string x155, .slice A157 n158 c159, .int .i64 x161, .int .i64 x162], .own (.slice A157 n158 c159) 31 4 n158 (x156.flatMap enc_api_JNode)] [St w [[g2], (Value.slice A4 n5 c6).ownBlock.toList]] := hLr.pick (rest := []) (perm_of_idx [1, 0] [] rfl rfl (by kernel_rfl)) (sels [1] rfl)
       show trellisref25_Reader_number_R w F g2 Tb3 A4 n5 c6 z8 r (.returned (packV [.int .i64 x130])) wr
       rw [h]
       exact ⟨A157, n158, c159, rfl, hMr, h160⟩
     refine g_region (c := q64c27) rfl rfl ?_
     refine wl_v 0 rfl (v_move rfl) gn rfl ?_
     refine wl_v 1 rfl (v_nilCheck rfl) gn rfl ?_
     refine wl_v 2 rfl (v_fldB fo_73_2 rfl) gn rfl ?_
     refine wl_v 3 rfl (v_ldB1 1 ld_34 rfl rfl rfl) gn rfl ?_
     refine wl_v 4 rfl (v_bin rfl rfl rfl) gn rfl ?_
     refine wl_v 5 rfl (v_move rfl) gn rfl ?_
     by_cases hp206 : x137 = 0
     ·have h := if_pos' hp206 h
      refine w_bool 43 rfl ((eqi hp206)) ?_
      refine wl_v 6 rfl (v_move rfl) (gy 43 rfl rfl) rfl ?_
      refine wl_v 7 rfl (v_move rfl) (gy 43 rfl rfl) rfl ?_
      obtain ⟨r210, hv211, h⟩ := h
      refine wl_s 8 rfl (s_call [.pointer (some ⟨g2, 0, none⟩), .int .i64 x130, .string (⟨#[101, 69]⟩ : ByteArray)] rfl Tryd.func60 rfl rfl rfl fun w207 hL208 => ?_) (gy 43 rfl rfl)
      have hp209 : List.Perm ([.own (.slice A133 n134 c135) 31 4 n134 (x132.flatMap enc_api_JNode), .box g2 Tb3 [.string x131, .slice A133 n134 c135, .int .i64 x137, .int .i64 x138]] : List Ent) (([.box g2 Tb3 [.string x131, .slice A133 n134 c135, .int .i64 x137, .int .i64 x138], .own (.slice A133 n134 c135) 31 4 n134 (x132.flatMap enc_api_JNode)] : List Ent) ++ ([] : List Ent)) := perm_of_idx [1, 0] [] rfl rfl (by kernel_rfl)
      refine Calls.mono (trellisref25_Reader_has_calls w207 (Fl ([] : List Snap)) (⟨x131, x132, x137, x138⟩ : trellisref25_Reader) x130 (⟨#[101, 69]⟩ : ByteArray) g2 Tb3 z8 A133 n134 c135 (Nat.le_trans hz9 hL208.env.size) h136 (hL208.hFl (Sl := ([] : List Snap)) hp209 (sels [] rfl)) (hL208.into hp209 (Fl ([] : List Snap))) r210 hv211) ?_
      rintro _ w217 ⟨A212, n213, c214, rfl, hM218, h215⟩
      have hL219 := hL208.call hp209 hM218
      refine ⟨_, _, _, rfl, hL219, ?_⟩
      refine wl_v 9 rfl (v_pick (b := true) rfl rfl) gn rfl ?_
      refine w_end 10 rfl ?_
      refine g_front 0 rfl ?_
      refine g_front 1 rfl ?_
      exact g_go [0, 1] (j5 r210.1 r210.2.s r210.2.l r210.2.e r210.2.at_ h A212 n213 c214 h215) ⟨rfl, rfl, rfl, trivial⟩ (.cons_cons _ (.cons_cons _ (.slnil))) rfl
     ·have h := if_neg' hp206 h
      refine w_bool 43 rfl ((nei hp206)) ?_
      refine wl_pass 6 rfl (ps 43 rfl rfl rfl) ?_
      refine wl_pass 7 rfl (ps 43 rfl rfl rfl) ?_
      refine wl_pass 8 rfl (ps 43 rfl rfl rfl) ?_
      refine wl_v 9 rfl (v_pick (b := false) rfl rfl) gn rfl ?_
      refine w_end 10 rfl ?_
      exact g_go [0, 1] (j5 false x131 x132 x137 x138 h A133 n134 c135 h136) ⟨rfl, rfl, rfl, trivial⟩ (.cons_cons _ (.cons_cons _ (.slnil))) rfl
    by_cases hp102 : x93 = true
    ·have h := if_pos' hp102 h
     refine g_true (c := q64c20) rfl _ rfl (hp102) ?_
     refine g_seq (c := q64c21) rfl ?_
     refine g_region (c := q64c23) rfl rfl ?_
     refine wl_v 0 rfl (v_move rfl) gn rfl ?_
     refine wl_v 1 rfl (v_move rfl) gn rfl ?_
     refine wl_v 2 rfl (v_bin rfl rfl rfl) gn rfl ?_
     obtain ⟨r223, hv224, h⟩ := h
     refine wl_s 3 rfl (s_call [.pointer (some ⟨g2, 0, none⟩), .int .i64 (w64 (x69 + 1)), .string (⟨#[48, 49, 50, 51, 52, 53, 54, 55, 56, 57]⟩ : ByteArray)] rfl Tryd.func75 rfl rfl rfl fun w220 hL221 => ?_) gn
     have hp222 : List.Perm ([.own (.slice A96 n97 c98) 31 4 n97 (x95.flatMap enc_api_JNode), .box g2 Tb3 [.string x94, .slice A96 n97 c98, .int .i64 x100, .int .i64 x101]] : List Ent) (([.box g2 Tb3 [.string x94, .slice A96 n97 c98, .int .i64 x100, .int .i64 x101], .own (.slice A96 n97 c98) 31 4 n97 (x95.flatMap enc_api_JNode)] : List Ent) ++ ([] : List Ent)) := perm_of_idx [1, 0] [] rfl rfl (by kernel_rfl)
     refine Calls.mono (trellisref25_Reader_need_calls w220 (Fl ([] : List Snap)) (⟨x94, x95, x100, x101⟩ : trellisref25_Reader) (w64 (x69 + 1)) (⟨#[48, 49, 50, 51, 52, 53, 54, 55, 56, 57]⟩ : ByteArray) g2 Tb3 z8 A96 n97 c98 (Nat.le_trans hz9 hL221.env.size) h99 (hL221.hFl (Sl := ([] : List Snap)) hp222 (sels [] rfl)) (hL221.into hp222 (Fl ([] : List Snap))) r223 hv224) ?_
     rintro _ w230 ⟨A225, n226, c227, rfl, hM231, h228⟩
     have hL232 := hL221.call hp222 hM231
     refine ⟨_, _, _, rfl, hL232, ?_⟩
     refine wl_v 4 rfl (v_assign rfl) gn rfl ?_
     refine w_end 5 rfl ?_
     refine g_region (c := q64c24) rfl rfl ?_
     refine wl_v 0 rfl (v_move rfl) gn rfl ?_
     refine wl_v 1 rfl (v_move rfl) gn rfl ?_
     obtain ⟨r236, hv237, h⟩ := h
     refine wl_s 2 rfl (s_call [.pointer (some ⟨g2, 0, none⟩), .int .i64 r223.1, .string (⟨#[48, 49, 50, 51, 52, 53, 54, 55, 56, 57]⟩ : ByteArray)] rfl Tryd.func45 rfl rfl rfl fun w233 hL234 => ?_) gn
     have hp235 : List.Perm ([.box g2 Tb3 [.string r223.2.s, .slice A225 n226 c227, .int .i64 r223.2.e, .int .i64 r223.2.at_], .own (.slice A225 n226 c227) 31 4 n226 (r223.2.l.flatMap enc_api_JNode)] : List Ent) (([.box g2 Tb3 [.string r223.2.s, .slice A225 n226 c227, .int .i64 r223.2.e, .int .i64 r223.2.at_], .own (.slice A225 n226 c227) 31 4 n226 (r223.2.l.flatMap enc_api_JNode)] : List Ent) ++ ([] : List Ent)) := perm_of_idx [0, 1] [] rfl rfl (by kernel_rfl)
     refine Calls.mono (trellisref25_Reader_skip_calls w233 (Fl ([] : List Snap)) r223.2 r223.1 (⟨#[48, 49, 50, 51, 52, 53, 54, 55, 56, 57]⟩ : ByteArray) g2 Tb3 z8 A225 n226 c227 (Nat.le_trans hz9 hL234.env.size) h228 (hL234.hFl (Sl := ([] : List Snap)) hp235 (sels [] rfl)) (hL234.into hp235 (Fl ([] : List Snap))) r236 hv237) ?_
     rintro _ w243 ⟨A238, n239, c240, rfl, hM244, h241⟩
     have hL245 := hL234.call hp235 hM244
     refine ⟨_, _, _, rfl, hL245, ?_⟩
     refine wl_v 3 rfl (v_assign rfl) gn rfl ?_
     refine w_end 4 rfl ?_
     refine g_front 0 rfl ?_
     refine g_front 1 rfl ?_
     exact g_go [0, 1] (j4 r236.1 r236.2.s r236.2.l r236.2.e r236.2.at_ h A238 n239 c240 h241) ⟨rfl, rfl, trivial⟩ (.cons_cons _ (.cons_cons _ (.slnil))) rfl
    ·have h := if_neg' hp102 h
     refine g_false (c := q64c20) rfl _ rfl ((bf hp102)) ?_
     refine g_skip (c := q64c22) rfl ?_
     exact g_go [0, 1] (j4 x69 x94 x95 x100 x101 h A96 n97 c98 h99) ⟨rfl, rfl, trivial⟩ (.cons_cons _ (.cons_cons _ (.slnil))) rfl
   refine g_region (c := q64c19) rfl rfl ?_
   refine wl_v 0 rfl (v_move rfl) gn rfl ?_
   refine wl_v 1 rfl (v_nilCheck rfl) gn rfl ?_
   refine wl_v 2 rfl (v_fldB fo_73_2 rfl) gn rfl ?_
   refine wl_v 3 rfl (v_ldB1 1 ld_34 rfl rfl rfl) gn rfl ?_
   refine wl_v 4 rfl (v_bin rfl rfl rfl) gn rfl ?_
   refine wl_v 5 rfl (v_move rfl) gn rfl ?_
   by_cases hp246 : x76 = 0
   ·have h := if_pos' hp246 h
    refine w_bool 26 rfl ((eqi hp246)) ?_
    refine wl_v 6 rfl (v_move rfl) (gy 26 rfl rfl) rfl ?_
    refine wl_v 7 rfl (v_move rfl) (gy 26 rfl rfl) rfl ?_
    obtain ⟨r250, hv251, h⟩ := h
    refine wl_s 8 rfl (s_call [.pointer (some ⟨g2, 0, none⟩), .int .i64 x69, .string (⟨#[46]⟩ : ByteArray)] rfl Tryd.func60 rfl rfl rfl fun w247 hL248 => ?_) (gy 26 rfl rfl)
    have hp249 : List.Perm ([.own (.slice A72 n73 c74) 31 4 n73 (x71.flatMap enc_api_JNode), .box g2 Tb3 [.string x70, .slice A72 n73 c74, .int .i64 x76, .int .i64 x77]] : List Ent) (([.box g2 Tb3 [.string x70, .slice A72 n73 c74, .int .i64 x76, .int .i64 x77], .own (.slice A72 n73 c74) 31 4 n73 (x71.flatMap enc_api_JNode)] : List Ent) ++ ([] : List Ent)) := perm_of_idx [1, 0] [] rfl rfl (by kernel_rfl)
    refine Calls.mono (trellisref25_Reader_has_calls w247 (Fl ([] : List Snap)) (⟨x70, x71, x76, x77⟩ : trellisref25_Reader) x69 (⟨#[46]⟩ : ByteArray) g2 Tb3 z8 A72 n73 c74 (Nat.le_trans hz9 hL248.env.size) h75 (hL248.hFl (Sl := ([] : List Snap)) hp249 (sels [] rfl)) (hL248.into hp249 (Fl ([] : List Snap))) r250 hv251) ?_
    rintro _ w257 ⟨A252, n253, c254, rfl, hM258, h255⟩
    have hL259 := hL248.call hp249 hM258
    refine ⟨_, _, _, rfl, hL259, ?_⟩
    refine wl_v 9 rfl (v_pick (b := true) rfl rfl) gn rfl ?_
    refine w_end 10 rfl ?_
    refine g_front 0 rfl ?_
    refine g_front 1 rfl ?_
    exact g_go [0, 1] (j3 r250.1 r250.2.s r250.2.l r250.2.e r250.2.at_ h A252 n253 c254 h255) ⟨rfl, rfl, rfl, trivial⟩ (.cons_cons _ (.cons_cons _ (.slnil))) rfl
   ·have h := if_neg' hp246 h
    refine w_bool 26 rfl ((nei hp246)) ?_
    refine wl_pass 6 rfl (ps 26 rfl rfl rfl) ?_
    refine wl_pass 7 rfl (ps 26 rfl rfl rfl) ?_
    refine wl_pass 8 rfl (ps 26 rfl rfl rfl) ?_
    refine wl_v 9 rfl (v_pick (b := false) rfl rfl) gn rfl ?_
    refine w_end 10 rfl ?_
    exact g_go [0, 1] (j3 false x70 x71 x76 x77 h A72 n73 c74 h75) ⟨rfl, rfl, rfl, trivial⟩ (.cons_cons _ (.cons_cons _ (.slnil))) rfl
  by_cases hp40 : r30.1 = true
  ·have h := if_pos' hp40 h
   refine g_true (c := q64c12) rfl _ rfl (hp40) ?_
   refine g_region (c := q64c13) rfl rfl ?_
   refine wl_v 0 rfl (v_move rfl) gn rfl ?_
   refine wl_v 1 rfl (v_bin rfl rfl rfl) gn rfl ?_
   refine wl_v 2 rfl (v_assign rfl) gn rfl ?_
   refine w_end 3 rfl ?_
   refine g_front 0 rfl ?_
   refine g_front 1 rfl ?_
   exact g_go [0, 1] (j2 (w64 (x26 + 1)) r30.2.s r30.2.l r30.2.e r30.2.at_ h A32 n33 c34 h35) ⟨rfl, rfl, trivial⟩ (.cons_cons _ (.cons_cons _ (.slnil))) rfl
  ·have h := if_neg' hp40 h
   refine g_false (c := q64c12) rfl _ rfl ((bf hp40)) ?_
   refine g_seq (c := q64c14) rfl ?_
   refine g_region (c := q64c15) rfl rfl ?_
   refine wl_v 0 rfl (v_move rfl) gn rfl ?_
   refine wl_v 1 rfl (v_move rfl) gn rfl ?_
   obtain ⟨r263, hv264, h⟩ := h
   refine wl_s 2 rfl (s_call [.pointer (some ⟨g2, 0, none⟩), .int .i64 x26, .string (⟨#[48, 49, 50, 51, 52, 53, 54, 55, 56, 57]⟩ : ByteArray)] rfl Tryd.func75 rfl rfl rfl fun w260 hL261 => ?_) gn
   have hp262 : List.Perm ([.box g2 Tb3 [.string r30.2.s, .slice A32 n33 c34, .int .i64 r30.2.e, .int .i64 r30.2.at_], .own (.slice A32 n33 c34) 31 4 n33 (r30.2.l.flatMap enc_api_JNode)] : List Ent) (([.box g2 Tb3 [.string r30.2.s, .slice A32 n33 c34, .int .i64 r30.2.e, .int .i64 r30.2.at_], .own (.slice A32 n33 c34) 31 4 n33 (r30.2.l.flatMap enc_api_JNode)] : List Ent) ++ ([] : List Ent)) := perm_of_idx [0, 1] [] rfl rfl (by kernel_rfl)
   refine Calls.mono (trellisref25_Reader_need_calls w260 (Fl ([] : List Snap)) r30.2 x26 (⟨#[48, 49, 50, 51, 52, 53, 54, 55, 56, 57]⟩ : ByteArray) g2 Tb3 z8 A32 n33 c34 (Nat.le_trans hz9 hL261.env.size) h35 (hL261.hFl (Sl := ([] : List Snap)) hp262 (sels [] rfl)) (hL261.into hp262 (Fl ([] : List Snap))) r263 hv264) ?_
   rintro _ w270 ⟨A265, n266, c267, rfl, hM271, h268⟩
   have hL272 := hL261.call hp262 hM271
   refine ⟨_, _, _, rfl, hL272, ?_⟩
   refine wl_v 3 rfl (v_assign rfl) gn rfl ?_
   refine w_end 4 rfl ?_
   refine g_region (c := q64c16) rfl rfl ?_
   refine wl_v 0 rfl (v_move rfl) gn rfl ?_
   refine wl_v 1 rfl (v_move rfl) gn rfl ?_
   obtain ⟨r276, hv277, h⟩ := h
   refine wl_s 2 rfl (s_call [.pointer (some ⟨g2, 0, none⟩), .int .i64 r263.1, .string (⟨#[48, 49, 50, 51, 52, 53, 54, 55, 56, 57]⟩ : ByteArray)] rfl Tryd.func45 rfl rfl rfl fun w273 hL274 => ?_) gn
   have hp275 : List.Perm ([.box g2 Tb3 [.string r263.2.s, .slice A265 n266 c267, .int .i64 r263.2.e, .int .i64 r263.2.at_], .own (.slice A265 n266 c267) 31 4 n266 (r263.2.l.flatMap enc_api_JNode)] : List Ent) (([.box g2 Tb3 [.string r263.2.s, .slice A265 n266 c267, .int .i64 r263.2.e, .int .i64 r263.2.at_], .own (.slice A265 n266 c267) 31 4 n266 (r263.2.l.flatMap enc_api_JNode)] : List Ent) ++ ([] : List Ent)) := perm_of_idx [0, 1] [] rfl rfl (by kernel_rfl)
   refine Calls.mono (trellisref25_Reader_skip_calls w273 (Fl ([] : List Snap)) r263.2 r263.1 (⟨#[48, 49, 50, 51, 52, 53, 54, 55, 56, 57]⟩ : ByteArray) g2 Tb3 z8 A265 n266 c267 (Nat.le_trans hz9 hL274.env.size) h268 (hL274.hFl (Sl := ([] : List Snap)) hp275 (sels [] rfl)) (hL274.into hp275 (Fl ([] : List Snap))) r276 hv277) ?_
   rintro _ w283 ⟨A278, n279, c280, rfl, hM284, h281⟩
   have hL285 := hL274.call hp275 hM284
   refine ⟨_, _, _, rfl, hL285, ?_⟩
   refine wl_v 3 rfl (v_assign rfl) gn rfl ?_
   refine w_end 4 rfl ?_
   refine g_front 0 rfl ?_
   refine g_front 1 rfl ?_
   exact g_go [0, 1] (j2 r276.1 r276.2.s r276.2.l r276.2.e r276.2.at_ h A278 n279 c280 h281) ⟨rfl, rfl, trivial⟩ (.cons_cons _ (.cons_cons _ (.slnil))) rfl
 by_cases hp24 : r14.1 = true
 ·have h := if_pos' hp24 h
  refine g_true (c := q64c6) rfl _ rfl (hp24) ?_
  refine g_region (c := q64c7) rfl rfl ?_
  refine wl_v 0 rfl (v_move rfl) gn rfl ?_
  refine wl_v 1 rfl (v_bin rfl rfl rfl) gn rfl ?_
  refine wl_v 2 rfl (v_assign rfl) gn rfl ?_
  refine w_end 3 rfl ?_
  exact g_go [0, 1] (j1 (w64 (x10 + 1)) h) ⟨rfl, rfl, trivial⟩ (.cons_cons _ (.cons_cons _ (.slnil))) rfl
 ·have h := if_neg' hp24 h
  refine g_false (c := q64c6) rfl _ rfl ((bf hp24)) ?_
  refine g_skip (c := q64c8) rfl ?_
  exact g_go [0, 1] (j1 x10 h) ⟨rfl, rfl, trivial⟩ (.cons_cons _ (.cons_cons _ (.slnil))) rfl
end Go.Proofs.YtmfopcbjgbphaaaDoor.K
