/- What the machine's calls do, function by function, printed by my own tool. Condition of each: its relation holds of the answer, and what is handed in lies in memory as told. -/
import Derived.Test.YtmekgfcfooghnaaK2
set_option linter.unusedVariables false
set_option maxRecDepth 100000
set_option maxHeartbeats 4000000
namespace Go.Proofs.Ytmekgfcfooghnaa.K
open Go.Proofs.Ytmekgfcfooghnaa.B Go.Proofs.Ytmekgfcfooghnaa.R Go.RowKit
noncomputable abbrev strings_Builder_WriteByte_c0 : Code := bodyOf Try.f70
noncomputable abbrev strings_Builder_WriteByte_c1 : Code := Code.fst strings_Builder_WriteByte_c0
noncomputable abbrev strings_Builder_WriteByte_c2 : Code := Code.snd strings_Builder_WriteByte_c0
noncomputable abbrev strings_Builder_WriteByte_c3 : Code := Code.fst strings_Builder_WriteByte_c2
noncomputable abbrev strings_Builder_WriteByte_c4 : Code := Code.snd strings_Builder_WriteByte_c2
noncomputable abbrev strings_Builder_WriteByte_c5 : Code := Code.fst strings_Builder_WriteByte_c4
noncomputable abbrev strings_Builder_WriteByte_c6 : Code := Code.snd strings_Builder_WriteByte_c4
noncomputable abbrev strings_Builder_WriteByte_c7 : Code := Code.fst strings_Builder_WriteByte_c6
noncomputable abbrev strings_Builder_WriteByte_c8 : Code := Code.snd strings_Builder_WriteByte_c6
abbrev strings_Builder_WriteByte_R (w : World) (F : Nat → Prop) (g2 : Nat) (A3 : Option Addr) (n4 : Nat) (c5 : Nat) (z7 : Nat) (r : strings_Builder) : Ending → World → Prop := fun e w' => ∃ A0 : Option Addr, ∃ n0 : Nat, ∃ c0 : Nat, e = .returned (.nilIface) ∧ B.Loc w w' [.box g2 123 [selfP g2 r.addr, .slice A0 n0 c0], .own (.slice A0 n0 c0) 5 1 n0 (r.buf.flatMap (eI .u8))] [St w [[g2], (Value.slice A3 n4 c5).ownBlock.toList]] ∧ Ow z7 A0 n0 c0 r.buf
noncomputable abbrev strings_Builder_WriteByte_C (w : World) (F : Nat → Prop) (g2 : Nat) (A3 : Option Addr) (n4 : Nat) (c5 : Nat) (z7 : Nat) (r : strings_Builder) : Cx := ⟨Try.prog, 70, Try.f70, 17, strings_Builder_WriteByte_R w F g2 A3 n4 c5 z7 r, w⟩
theorem strings_Builder_WriteByte_calls (w : World) (F : Nat → Prop) (x1 : strings_Builder) (x9 : Int) (g2 : Nat) (z7 : Nat) (A3 : Option Addr) (n4 : Nat) (c5 : Nat) (hz8 : z7 ≤ w.heap.size) (h6 : Ow z7 A3 n4 c5 x1.buf) (hF : ∀ b, F b → b < w.heap.size ∧ ∀ o ∈ ([[g2], (Value.slice A3 n4 c5).ownBlock.toList] : List (List Nat)), b ∉ o) (hL0 : B.Loc w w [.box g2 123 [selfP g2 x1.addr, .slice A3 n4 c5], .own (.slice A3 n4 c5) 5 1 n4 (x1.buf.flatMap (eI .u8))] [Sm w.heap.size F w [[g2], (Value.slice A3 n4 c5).ownBlock.toList], St w [[g2], (Value.slice A3 n4 c5).ownBlock.toList]]) (r : strings_Builder) (h : strings_Builder_WriteByte x1 x9 r) : Calls Try.prog 70 #[.pointer (some ⟨g2, 0, none⟩), .int .u8 x9] w (strings_Builder_WriteByte_R w F g2 A3 n4 c5 z7 r) := by
  unfold strings_Builder_WriteByte at h
  refine calls_of_Loc (vs := [.pointer (some ⟨g2, 0, none⟩), .int .u8 x9]) 17 Try.func70 rfl Try.ntmps70 rfl hL0 ?_
  show G (strings_Builder_WriteByte_C w F g2 A3 n4 c5 z7 r) _ _ _ _
  refine g_seq (c := strings_Builder_WriteByte_c0) rfl ?_
  refine g_region (c := strings_Builder_WriteByte_c1) rfl rfl ?_
  refine wl_v 0 rfl (v_assign rfl) gn rfl ?_
  refine w_end 1 rfl ?_
  refine g_seq (c := strings_Builder_WriteByte_c2) rfl ?_
  refine g_region (c := strings_Builder_WriteByte_c3) rfl rfl ?_
  refine wl_v 0 rfl (v_move rfl) gn rfl ?_
  obtain ⟨r13, hv14, h⟩ := h
  refine wl_s 1 rfl (s_call [.pointer (some ⟨g2, 0, none⟩)] rfl Try.func79 rfl rfl rfl fun w10 hL11 => ?_) gn
  have hp12 : List.Perm ([.box g2 123 [selfP g2 x1.addr, .slice A3 n4 c5], .own (.slice A3 n4 c5) 5 1 n4 (x1.buf.flatMap (eI .u8))] : List Ent) (([.box g2 123 [selfP g2 x1.addr, .slice A3 n4 c5]] : List Ent) ++ ([.own (.slice A3 n4 c5) 5 1 n4 (x1.buf.flatMap (eI .u8))] : List Ent)) := perm_of_idx [0] [1] rfl rfl (by kernel_rfl)
  refine Calls.mono (strings_Builder_copyCheck_calls w10 (Fl ([] : List Snap)) x1 g2 (.slice A3 n4 c5) (hL11.hFl (Sl := ([] : List Snap)) hp12 (sels [] rfl)) (hL11.into hp12 (Fl ([] : List Snap))) r13 hv14) ?_
  rintro _ w15 ⟨rfl, hM16⟩
  have hL17 := hL11.call hp12 hM16
  refine ⟨_, _, _, rfl, hL17, ?_⟩
  refine w_end 2 rfl ?_
  refine g_seq (c := strings_Builder_WriteByte_c4) rfl ?_
  refine g_region (c := strings_Builder_WriteByte_c5) rfl rfl ?_
  refine wl_v 0 rfl (v_move rfl) gn rfl ?_
  refine wl_v 1 rfl (v_move rfl) gn rfl ?_
  refine wl_v 2 rfl (v_nilCheck rfl) gn rfl ?_
  refine wl_v 3 rfl (v_fldB fo_123_1 rfl) gn rfl ?_
  refine wl_v 4 rfl (v_ldB1 0 ld_121 rfl rfl rfl) gn rfl ?_
  refine wl_v 5 rfl (v_move rfl) gn rfl ?_
  refine wl_s 6 rfl (s_litO (xs := ([x9] : List Int)) [.int .u8 x9] bs_121_1 rfl (by kernel_rfl) rfl rfl rfl rfl fun gb19 h20 => ?_) gn
  obtain ⟨x24, hv25, h⟩ := h
  obtain ⟨hb26, h⟩ := h
  refine wl_s 7 rfl (s_app (zs := x24) (cells' := x24.flatMap (eI .u8)) 2 ap_121 rfl rfl rfl h6 hz8 (Src.ownF (hl := (hlI .u8)) (h1 := (hone_int .u8)) 0 rfl h20) (by rw [hv25, List.flatMap_append] <;> rfl) (app_len hv25 h20.hq) hb26 rfl rfl fun A21 c22 h23 => ?_) gn
  refine wl_v 8 rfl (v_nilCheck rfl) gn rfl ?_
  refine wl_v 9 rfl (v_fldB fo_123_1 rfl) gn rfl ?_
  refine wl_s 10 rfl (s_stB (vs := [.slice A21 (n4 + 1) c22]) (cs' := [selfP g2 r13.addr, .slice A21 (n4 + 1) c22]) (M' := [.own (.slice (some ⟨gb19, 0, none⟩) 1 1) 5 1 1 (([x9] : List Int).flatMap (eI .u8)), .box g2 123 [selfP g2 r13.addr, .slice A21 (n4 + 1) c22], .own (.slice A21 (n4 + 1) c22) 5 1 (n4 + 1) (x24.flatMap (eI .u8))]) 1 sz_121 rfl rfl rfl rfl rfl rfl rfl rfl rfl ?_) gn
  refine w_end 11 rfl ?_
  refine g_seq (c := strings_Builder_WriteByte_c6) rfl ?_
  refine g_region (c := strings_Builder_WriteByte_c7) rfl rfl ?_
  refine wl_v 0 rfl (v_assign rfl) gn rfl ?_
  refine w_end 1 rfl ?_
  refine g_retR (c := strings_Builder_WriteByte_c8) [.nilIface] rfl Try.func70 rfl (.tmp rfl (.nil)) fun wr hLr => ?_
  have hMr : B.Loc w wr [.box g2 123 [selfP g2 r13.addr, .slice A21 (n4 + 1) c22], .own (.slice A21 (n4 + 1) c22) 5 1 (n4 + 1) (x24.flatMap (eI .u8))] [St w [[g2], (Value.slice A3 n4 c5).ownBlock.toList]] := hLr.pick (rest := [.own (.slice (some ⟨gb19, 0, none⟩) 1 1) 5 1 1 (([x9] : List Int).flatMap (eI .u8))]) (perm_of_idx [1, 2] [0] rfl rfl (by kernel_rfl)) (sels [1] rfl)
  have hMi : ∀ e ∈ ([.box g2 123 [selfP g2 r13.addr, .slice A21 (n4 + 1) c22], .own (.slice A21 (n4 + 1) c22) 5 1 (n4 + 1) (x24.flatMap (eI .u8))] : List Ent), e ∈ ([.own (.slice (some ⟨gb19, 0, none⟩) 1 1) 5 1 1 (([x9] : List Int).flatMap (eI .u8)), .box g2 123 [selfP g2 r13.addr, .slice A21 (n4 + 1) c22], .own (.slice A21 (n4 + 1) c22) 5 1 (n4 + 1) (x24.flatMap (eI .u8))] : List Ent) := sels [1, 2] rfl
  show strings_Builder_WriteByte_R w F g2 A3 n4 c5 z7 r (.returned (packV [.nilIface])) wr
  rw [h]
  exact ⟨A21, n4 + 1, c22, rfl, hMr, h23⟩
noncomputable abbrev strings_Builder_WriteString_c0 : Code := bodyOf Try.f71
noncomputable abbrev strings_Builder_WriteString_c1 : Code := Code.fst strings_Builder_WriteString_c0
noncomputable abbrev strings_Builder_WriteString_c2 : Code := Code.snd strings_Builder_WriteString_c0
noncomputable abbrev strings_Builder_WriteString_c3 : Code := Code.fst strings_Builder_WriteString_c2
noncomputable abbrev strings_Builder_WriteString_c4 : Code := Code.snd strings_Builder_WriteString_c2
noncomputable abbrev strings_Builder_WriteString_c5 : Code := Code.fst strings_Builder_WriteString_c4
noncomputable abbrev strings_Builder_WriteString_c6 : Code := Code.snd strings_Builder_WriteString_c4
noncomputable abbrev strings_Builder_WriteString_c7 : Code := Code.fst strings_Builder_WriteString_c6
noncomputable abbrev strings_Builder_WriteString_c8 : Code := Code.snd strings_Builder_WriteString_c6
abbrev strings_Builder_WriteString_R (w : World) (F : Nat → Prop) (g2 : Nat) (A3 : Option Addr) (n4 : Nat) (c5 : Nat) (z7 : Nat) (r : Int × strings_Builder) : Ending → World → Prop := fun e w' => ∃ A0 : Option Addr, ∃ n0 : Nat, ∃ c0 : Nat, e = .returned (.tuple #[.int .i64 r.1, .nilIface]) ∧ B.Loc w w' [.box g2 123 [selfP g2 r.2.addr, .slice A0 n0 c0], .own (.slice A0 n0 c0) 5 1 n0 (r.2.buf.flatMap (eI .u8))] [St w [[g2], (Value.slice A3 n4 c5).ownBlock.toList]] ∧ Ow z7 A0 n0 c0 r.2.buf
noncomputable abbrev strings_Builder_WriteString_C (w : World) (F : Nat → Prop) (g2 : Nat) (A3 : Option Addr) (n4 : Nat) (c5 : Nat) (z7 : Nat) (r : Int × strings_Builder) : Cx := ⟨Try.prog, 71, Try.f71, 19, strings_Builder_WriteString_R w F g2 A3 n4 c5 z7 r, w⟩
theorem strings_Builder_WriteString_calls (w : World) (F : Nat → Prop) (x1 : strings_Builder) (x9 : ByteArray) (g2 : Nat) (z7 : Nat) (A3 : Option Addr) (n4 : Nat) (c5 : Nat) (hz8 : z7 ≤ w.heap.size) (h6 : Ow z7 A3 n4 c5 x1.buf) (hF : ∀ b, F b → b < w.heap.size ∧ ∀ o ∈ ([[g2], (Value.slice A3 n4 c5).ownBlock.toList] : List (List Nat)), b ∉ o) (hL0 : B.Loc w w [.box g2 123 [selfP g2 x1.addr, .slice A3 n4 c5], .own (.slice A3 n4 c5) 5 1 n4 (x1.buf.flatMap (eI .u8))] [Sm w.heap.size F w [[g2], (Value.slice A3 n4 c5).ownBlock.toList], St w [[g2], (Value.slice A3 n4 c5).ownBlock.toList]]) (r : Int × strings_Builder) (h : strings_Builder_WriteString x1 x9 r) : Calls Try.prog 71 #[.pointer (some ⟨g2, 0, none⟩), .string x9] w (strings_Builder_WriteString_R w F g2 A3 n4 c5 z7 r) := by
  unfold strings_Builder_WriteString at h
  refine calls_of_Loc (vs := [.pointer (some ⟨g2, 0, none⟩), .string x9]) 19 Try.func71 rfl Try.ntmps71 rfl hL0 ?_
  show G (strings_Builder_WriteString_C w F g2 A3 n4 c5 z7 r) _ _ _ _
  refine g_seq (c := strings_Builder_WriteString_c0) rfl ?_
  refine g_region (c := strings_Builder_WriteString_c1) rfl rfl ?_
  refine wl_v 0 rfl (v_assign rfl) gn rfl ?_
  refine wl_v 1 rfl (v_assign rfl) gn rfl ?_
  refine w_end 2 rfl ?_
  refine g_seq (c := strings_Builder_WriteString_c2) rfl ?_
  refine g_region (c := strings_Builder_WriteString_c3) rfl rfl ?_
  refine wl_v 0 rfl (v_move rfl) gn rfl ?_
  obtain ⟨r13, hv14, h⟩ := h
  refine wl_s 1 rfl (s_call [.pointer (some ⟨g2, 0, none⟩)] rfl Try.func79 rfl rfl rfl fun w10 hL11 => ?_) gn
  have hp12 : List.Perm ([.box g2 123 [selfP g2 x1.addr, .slice A3 n4 c5], .own (.slice A3 n4 c5) 5 1 n4 (x1.buf.flatMap (eI .u8))] : List Ent) (([.box g2 123 [selfP g2 x1.addr, .slice A3 n4 c5]] : List Ent) ++ ([.own (.slice A3 n4 c5) 5 1 n4 (x1.buf.flatMap (eI .u8))] : List Ent)) := perm_of_idx [0] [1] rfl rfl (by kernel_rfl)
  refine Calls.mono (strings_Builder_copyCheck_calls w10 (Fl ([] : List Snap)) x1 g2 (.slice A3 n4 c5) (hL11.hFl (Sl := ([] : List Snap)) hp12 (sels [] rfl)) (hL11.into hp12 (Fl ([] : List Snap))) r13 hv14) ?_
  rintro _ w15 ⟨rfl, hM16⟩
  have hL17 := hL11.call hp12 hM16
  refine ⟨_, _, _, rfl, hL17, ?_⟩
  refine w_end 2 rfl ?_
  refine g_seq (c := strings_Builder_WriteString_c4) rfl ?_
  refine g_region (c := strings_Builder_WriteString_c5) rfl rfl ?_
  refine wl_v 0 rfl (v_move rfl) gn rfl ?_
  refine wl_v 1 rfl (v_move rfl) gn rfl ?_
  refine wl_v 2 rfl (v_nilCheck rfl) gn rfl ?_
  refine wl_v 3 rfl (v_fldB fo_123_1 rfl) gn rfl ?_
  refine wl_v 4 rfl (v_ldB1 0 ld_121 rfl rfl rfl) gn rfl ?_
  refine wl_v 5 rfl (v_move rfl) gn rfl ?_
  obtain ⟨x21, hv22, h⟩ := h
  obtain ⟨hb23, h⟩ := h
  refine wl_s 6 rfl (s_appS (zs := x21) 1 as_121_9 rfl rfl rfl h6 hz8 hv22 hb23 rfl fun A18 c19 h20 => ?_) gn
  refine wl_v 7 rfl (v_nilCheck rfl) gn rfl ?_
  refine wl_v 8 rfl (v_fldB fo_123_1 rfl) gn rfl ?_
  refine wl_s 9 rfl (s_stB (vs := [.slice A18 (n4 + x9.size) c19]) (cs' := [selfP g2 r13.addr, .slice A18 (n4 + x9.size) c19]) (M' := [.box g2 123 [selfP g2 r13.addr, .slice A18 (n4 + x9.size) c19], .own (.slice A18 (n4 + x9.size) c19) 5 1 (n4 + x9.size) (x21.flatMap (eI .u8))]) 0 sz_121 rfl rfl rfl rfl rfl rfl rfl rfl rfl ?_) gn
  refine w_end 10 rfl ?_
  refine g_seq (c := strings_Builder_WriteString_c6) rfl ?_
  refine g_region (c := strings_Builder_WriteString_c7) rfl rfl ?_
  refine wl_v 0 rfl (v_move rfl) gn rfl ?_
  refine wl_v 1 rfl (v_lenS un_9 rfl) gn rfl ?_
  refine wl_v 2 rfl (v_assign rfl) gn rfl ?_
  refine wl_v 3 rfl (v_assign rfl) gn rfl ?_
  refine w_end 4 rfl ?_
  refine g_retR (c := strings_Builder_WriteString_c8) [.int .i64 (x9.size : Int), .nilIface] rfl Try.func71 rfl (.tmp rfl (.tmp rfl (.nil))) fun wr hLr => ?_
  have hMr : B.Loc w wr [.box g2 123 [selfP g2 r13.addr, .slice A18 (n4 + x9.size) c19], .own (.slice A18 (n4 + x9.size) c19) 5 1 (n4 + x9.size) (x21.flatMap (eI .u8))] [St w [[g2], (Value.slice A3 n4 c5).ownBlock.toList]] := hLr.pick (rest := []) (perm_of_idx [0, 1] [] rfl rfl (by kernel_rfl)) (sels [1] rfl)
  have hMi : ∀ e ∈ ([.box g2 123 [selfP g2 r13.addr, .slice A18 (n4 + x9.size) c19], .own (.slice A18 (n4 + x9.size) c19) 5 1 (n4 + x9.size) (x21.flatMap (eI .u8))] : List Ent), e ∈ ([.box g2 123 [selfP g2 r13.addr, .slice A18 (n4 + x9.size) c19], .own (.slice A18 (n4 + x9.size) c19) 5 1 (n4 + x9.size) (x21.flatMap (eI .u8))] : List Ent) := sels [0, 1] rfl
  show strings_Builder_WriteString_R w F g2 A3 n4 c5 z7 r (.returned (packV [.int .i64 (x9.size : Int), .nilIface])) wr
  rw [h]
  exact ⟨A18, n4 + x9.size, c19, rfl, hMr, h20⟩
noncomputable abbrev strings_Builder_String_c0 : Code := bodyOf Try.f73
noncomputable abbrev strings_Builder_String_c1 : Code := Code.fst strings_Builder_String_c0
noncomputable abbrev strings_Builder_String_c2 : Code := Code.snd strings_Builder_String_c0
noncomputable abbrev strings_Builder_String_c3 : Code := Code.fst strings_Builder_String_c2
noncomputable abbrev strings_Builder_String_c4 : Code := Code.snd strings_Builder_String_c2
abbrev strings_Builder_String_R (w : World) (F : Nat → Prop) (g2 : Nat) (A3 : Option Addr) (n4 : Nat) (c5 : Nat) (z7 : Nat) (r : ByteArray) : Ending → World → Prop := fun e w' => e = .returned (.string r) ∧ B.Loc w w' [] [St w [[g2], (Value.slice A3 n4 c5).ownBlock.toList]]
noncomputable abbrev strings_Builder_String_C (w : World) (F : Nat → Prop) (g2 : Nat) (A3 : Option Addr) (n4 : Nat) (c5 : Nat) (z7 : Nat) (r : ByteArray) : Cx := ⟨Try.prog, 73, Try.f73, 14, strings_Builder_String_R w F g2 A3 n4 c5 z7 r, w⟩
theorem strings_Builder_String_calls (w : World) (F : Nat → Prop) (x1 : strings_Builder) (g2 : Nat) (z7 : Nat) (A3 : Option Addr) (n4 : Nat) (c5 : Nat) (hz8 : z7 ≤ w.heap.size) (h6 : Ow z7 A3 n4 c5 x1.buf) (hF : ∀ b, F b → b < w.heap.size ∧ ∀ o ∈ ([[g2], (Value.slice A3 n4 c5).ownBlock.toList] : List (List Nat)), b ∉ o) (hL0 : B.Loc w w [.box g2 123 [selfP g2 x1.addr, .slice A3 n4 c5], .own (.slice A3 n4 c5) 5 1 n4 (x1.buf.flatMap (eI .u8))] [Sm w.heap.size F w [[g2], (Value.slice A3 n4 c5).ownBlock.toList], St w [[g2], (Value.slice A3 n4 c5).ownBlock.toList]]) (r : ByteArray) (h : strings_Builder_String x1 r) : Calls Try.prog 73 #[.pointer (some ⟨g2, 0, none⟩)] w (strings_Builder_String_R w F g2 A3 n4 c5 z7 r) := by
  unfold strings_Builder_String at h
  refine calls_of_Loc (vs := [.pointer (some ⟨g2, 0, none⟩)]) 14 Try.func73 rfl Try.ntmps73 rfl hL0 ?_
  show G (strings_Builder_String_C w F g2 A3 n4 c5 z7 r) _ _ _ _
  refine g_seq (c := strings_Builder_String_c0) rfl ?_
  refine g_region (c := strings_Builder_String_c1) rfl rfl ?_
  refine wl_v 0 rfl (v_assign rfl) gn rfl ?_
  refine w_end 1 rfl ?_
  refine g_seq (c := strings_Builder_String_c2) rfl ?_
  have hns : Region.noSelect (Code.ops strings_Builder_String_c3) = true := by kernel_rfl
  refine g_drawF (c := strings_Builder_String_c3) [.box g2 123 [selfP g2 x1.addr, .slice A3 n4 c5], .own (.slice A3 n4 c5) 5 1 n4 (x1.buf.flatMap (eI .u8))] [Sm w.heap.size F w [[g2], (Value.slice A3 n4 c5).ownBlock.toList], St w [[g2], (Value.slice A3 n4 c5).ownBlock.toList]] [10, 11] 12 rfl rfl mix rfl (.cons_cons _ (.cons_cons _ (.slnil))) (sels [0, 1] rfl) ?_
  refine wf_v 0 rfl (v_move rfl) gn rfl hns (by kernel_rfl) (by kernel_rfl) (by kernel_rfl) rfl ?_
  refine wf_v 1 rfl (v_nilCheck rfl) gn rfl hns (by kernel_rfl) (by kernel_rfl) (by kernel_rfl) rfl ?_
  refine wf_v 2 rfl (v_fldB fo_123_1 rfl) gn rfl hns (by kernel_rfl) (by kernel_rfl) (by kernel_rfl) rfl ?_
  refine wf_v 3 rfl (v_ldB1 0 ld_121 rfl rfl rfl) gn rfl hns (by kernel_rfl) (by kernel_rfl) (by kernel_rfl) rfl ?_
  refine wf_v 5 rfl (v_move rfl) gn rfl hns (by kernel_rfl) (by kernel_rfl) (by kernel_rfl) rfl ?_
  refine wf_v 6 rfl (v_nilCheck rfl) gn rfl hns (by kernel_rfl) (by kernel_rfl) (by kernel_rfl) rfl ?_
  refine wf_v 7 rfl (v_fldB fo_123_1 rfl) gn rfl hns (by kernel_rfl) (by kernel_rfl) (by kernel_rfl) rfl ?_
  refine wf_v 8 rfl (v_ldB1 0 ld_121 rfl rfl rfl) gn rfl hns (by kernel_rfl) (by kernel_rfl) (by kernel_rfl) rfl ?_
  refine wf_v 9 rfl (v_lenQ un_121 rfl h6.hq) gn rfl hns (by kernel_rfl) (by kernel_rfl) (by kernel_rfl) rfl ?_
  refine wf_all [4] (by kernel_rfl) rfl ⟨on_s 4 rfl gn rfl (s_slData 1 un_135 rfl rfl rfl fun p37 hp38 => ?_), trivial⟩
  refine ⟨sels [0, 1] rfl, sels [0, 1] rfl, ?_⟩
  refine wf_all [10] (by kernel_rfl) rfl ⟨on_l 10 rfl gn rfl (s_ustr 1 by_135_5 rfl hp38 rfl h6 rfl rfl ?_), trivial⟩
  unfold NxL
  refine wf_all [11] (by kernel_rfl) rfl ⟨on_l 11 rfl gn rfl (s_val (v_assign rfl) rfl ?_), trivial⟩
  unfold NxL
  refine wf_end (by kernel_rfl) ?_
  refine g_retR (c := strings_Builder_String_c4) [.string (ofBs x1.buf)] rfl Try.func73 rfl (.tmp rfl (.nil)) fun wr hLr => ?_
  have hMr : B.Loc w wr [] [St w [[g2], (Value.slice A3 n4 c5).ownBlock.toList]] := hLr.pick (rest := [.box g2 123 [selfP g2 x1.addr, .slice A3 n4 c5]]) (perm_of_idx [] [0] rfl rfl (by kernel_rfl)) (sels [1] rfl)
  have hMi : ∀ e ∈ ([] : List Ent), e ∈ ([.box g2 123 [selfP g2 x1.addr, .slice A3 n4 c5]] : List Ent) := sels [] rfl
  show strings_Builder_String_R w F g2 A3 n4 c5 z7 r (.returned (packV [.string (ofBs x1.buf)])) wr
  rw [h]
  exact ⟨rfl, hMr⟩
noncomputable abbrev tree_quoted_c0 : Code := bodyOf Try.f72
noncomputable abbrev tree_quoted_c1 : Code := Code.fst tree_quoted_c0
noncomputable abbrev tree_quoted_c2 : Code := Code.snd tree_quoted_c0
noncomputable abbrev tree_quoted_c3 : Code := Code.fst tree_quoted_c2
noncomputable abbrev tree_quoted_c4 : Code := Code.snd tree_quoted_c2
noncomputable abbrev tree_quoted_c5 : Code := Code.fst tree_quoted_c4
noncomputable abbrev tree_quoted_c6 : Code := Code.snd tree_quoted_c4
noncomputable abbrev tree_quoted_c7 : Code := Code.fst tree_quoted_c6
noncomputable abbrev tree_quoted_c8 : Code := Code.snd tree_quoted_c6
noncomputable abbrev tree_quoted_c9 : Code := Code.fst tree_quoted_c7
noncomputable abbrev tree_quoted_c10 : Code := Code.snd tree_quoted_c7
noncomputable abbrev tree_quoted_c11 : Code := Code.fst tree_quoted_c10
noncomputable abbrev tree_quoted_c12 : Code := Code.fst tree_quoted_c11
noncomputable abbrev tree_quoted_c13 : Code := Code.fst tree_quoted_c12
noncomputable abbrev tree_quoted_c14 : Code := Code.snd tree_quoted_c12
noncomputable abbrev tree_quoted_c15 : Code := Code.fst tree_quoted_c14
noncomputable abbrev tree_quoted_c16 : Code := Code.snd tree_quoted_c14
noncomputable abbrev tree_quoted_c17 : Code := Code.fst tree_quoted_c15
noncomputable abbrev tree_quoted_c18 : Code := Code.snd tree_quoted_c15
noncomputable abbrev tree_quoted_c19 : Code := Code.fst tree_quoted_c16
noncomputable abbrev tree_quoted_c20 : Code := Code.snd tree_quoted_c16
noncomputable abbrev tree_quoted_c21 : Code := Code.fst tree_quoted_c19
noncomputable abbrev tree_quoted_c22 : Code := Code.fst tree_quoted_c21
noncomputable abbrev tree_quoted_c23 : Code := Code.snd tree_quoted_c21
noncomputable abbrev tree_quoted_c24 : Code := Code.fst tree_quoted_c23
noncomputable abbrev tree_quoted_c25 : Code := Code.fst tree_quoted_c24
noncomputable abbrev tree_quoted_c26 : Code := Code.snd tree_quoted_c24
noncomputable abbrev tree_quoted_c27 : Code := Code.fst tree_quoted_c26
noncomputable abbrev tree_quoted_c28 : Code := Code.snd tree_quoted_c26
noncomputable abbrev tree_quoted_c29 : Code := Code.fst tree_quoted_c28
noncomputable abbrev tree_quoted_c30 : Code := Code.snd tree_quoted_c28
noncomputable abbrev tree_quoted_c31 : Code := Code.fst tree_quoted_c30
noncomputable abbrev tree_quoted_c32 : Code := Code.snd tree_quoted_c30
noncomputable abbrev tree_quoted_c33 : Code := Code.fst tree_quoted_c32
noncomputable abbrev tree_quoted_c34 : Code := Code.snd tree_quoted_c32
noncomputable abbrev tree_quoted_c35 : Code := Code.fst tree_quoted_c34
noncomputable abbrev tree_quoted_c36 : Code := Code.snd tree_quoted_c34
noncomputable abbrev tree_quoted_c37 : Code := Code.fst tree_quoted_c8
noncomputable abbrev tree_quoted_c38 : Code := Code.snd tree_quoted_c8
noncomputable abbrev tree_quoted_c39 : Code := Code.fst tree_quoted_c38
noncomputable abbrev tree_quoted_c40 : Code := Code.snd tree_quoted_c38
abbrev tree_quoted_R (w : World) (F : Nat → Prop) (r : ByteArray) : Ending → World → Prop := fun e w' => e = .returned (.string r) ∧ B.Loc w w' [] [St w []]
noncomputable abbrev tree_quoted_C (w : World) (F : Nat → Prop) (r : ByteArray) : Cx := ⟨Try.prog, 72, Try.f72, 53, tree_quoted_R w F  r, w⟩
theorem tree_quoted_calls (w : World) (F : Nat → Prop) (x1 : ByteArray) (hF : ∀ b, F b → b < w.heap.size ∧ ∀ o ∈ ([] : List (List Nat)), b ∉ o) (hL0 : B.Loc w w [] [Sm w.heap.size F w [], St w []]) (r : ByteArray) (h : tree_quoted x1 r) : Calls Try.prog 72 #[.string x1] w (tree_quoted_R w F  r) := by
  unfold tree_quoted at h
  refine calls_of_Loc (vs := [.string x1]) 53 Try.func72 rfl Try.ntmps72 rfl hL0 ?_
  show G (tree_quoted_C w F r) _ _ _ _
  refine g_seq (c := tree_quoted_c0) rfl ?_
  refine g_region (c := tree_quoted_c1) rfl rfl ?_
  refine wl_v 0 rfl (v_assign rfl) gn rfl ?_
  refine w_end 1 rfl ?_
  refine g_seq (c := tree_quoted_c2) rfl ?_
  refine g_region (c := tree_quoted_c3) rfl rfl ?_
  refine wl_s 0 rfl (s_alloc [.pointer none, .slice none 0 0] zr_123 rfl fun gb2 => ?_) gn
  refine w_end 1 rfl ?_
  refine g_seq (c := tree_quoted_c4) rfl ?_
  refine g_region (c := tree_quoted_c5) rfl rfl ?_
  obtain ⟨r8, hv9, h⟩ := h
  refine w_nil 5 1 ?_
  refine wl_s 0 rfl (s_call [.pointer (some ⟨gb2, 0, none⟩), .int .u8 34] rfl Try.func70 rfl rfl rfl fun w4 hL5 => ?_) gn
  have hp6 : List.Perm ([.own (.slice none 0 0) 5 1 0 (([] : List Int).flatMap (eI .u8)), .box gb2 123 [.pointer none, .slice none 0 0]] : List Ent) (([.box gb2 123 [.pointer none, .slice none 0 0], .own (.slice none 0 0) 5 1 0 (([] : List Int).flatMap (eI .u8))] : List Ent) ++ ([] : List Ent)) := perm_of_idx [1, 0] [] rfl rfl (by kernel_rfl)
  refine Calls.mono (strings_Builder_WriteByte_calls w4 (Fl ([] : List Snap)) (⟨false, ([] : List Int)⟩ : strings_Builder) 34 gb2 w.heap.size none 0 0 hL5.env.size (Ow.nil (z := w.heap.size)) (hL5.hFl (Sl := ([] : List Snap)) hp6 (sels [] rfl)) (hL5.into hp6 (Fl ([] : List Snap))) r8 hv9) ?_
  rintro _ w15 ⟨A10, n11, c12, rfl, hM16, h13⟩
  have hL17 := hL5.call hp6 hM16
  refine ⟨_, _, _, rfl, hL17, ?_⟩
  refine w_end 1 rfl ?_
  refine g_seq (c := tree_quoted_c6) rfl ?_
  refine g_seq (c := tree_quoted_c7) rfl ?_
  refine g_region (c := tree_quoted_c9) rfl rfl ?_
  refine wl_v 0 rfl (v_move rfl) gn rfl ?_
  obtain ⟨hb18, h⟩ := h
  refine wl_s 1 rfl (s_s2b un_9 slE_121 un_5 rfl hb18 rfl fun A19 c20 h21 => ?_) gn
  refine wl_v 2 rfl (v_lenQ un_121 rfl h21.hq) gn rfl ?_
  refine wl_v 3 rfl (v_move rfl) gn rfl ?_
  refine w_end 4 rfl ?_
  refine g_block (c := tree_quoted_c10) rfl ?_
  refine g_loop (c := tree_quoted_c11) rfl ?_
  have key1 : ∀ s, Rounds (fun (s : Int × Bool × (List Int)) o => tree_quoted_b1 x1 s.1 s.2.1 s.2.2 o) s r → (fun (s : Int × Bool × (List Int)) => ∀ (A138 : Option Addr) (n139 : Nat) (c140 : Nat) (h141 : Ow w.heap.size A138 n139 c140 s.2.2), G (tree_quoted_C w F r) [.code tree_quoted_c12, .inLoop tree_quoted_c12, .inBlock 0, .code tree_quoted_c8] [(3, .pointer (some ⟨gb2, 0, none⟩)), (8, .slice A19 x1.size c20), (9, .int .i64 ((bsOf x1).length : Int)), (10, .int .i64 s.1)] [.own (.slice A138 n139 c140) 5 1 n139 (s.2.2.flatMap (eI .u8)), .own (.slice A19 x1.size c20) 5 1 x1.size ((bsOf x1).flatMap (eI .u8)), .box gb2 123 [selfP gb2 s.2.1, .slice A138 n139 c140]] [Sm w.heap.size F w [], St w []]) s := by
    intro s hs
    refine Rounds.ind (mot := (fun (s : Int × Bool × (List Int)) => ∀ (A138 : Option Addr) (n139 : Nat) (c140 : Nat) (h141 : Ow w.heap.size A138 n139 c140 s.2.2), G (tree_quoted_C w F r) [.code tree_quoted_c12, .inLoop tree_quoted_c12, .inBlock 0, .code tree_quoted_c8] [(3, .pointer (some ⟨gb2, 0, none⟩)), (8, .slice A19 x1.size c20), (9, .int .i64 ((bsOf x1).length : Int)), (10, .int .i64 s.1)] [.own (.slice A138 n139 c140) 5 1 n139 (s.2.2.flatMap (eI .u8)), .own (.slice A19 x1.size c20) 5 1 x1.size ((bsOf x1).flatMap (eI .u8)), .box gb2 123 [selfP gb2 s.2.1, .slice A138 n139 c140]] [Sm w.heap.size F w [], St w []])) ?_ hs
    clear hs s
    intro s o1 h hO1
    obtain ⟨x135, x136, x137⟩ := s
    show ∀ (A138 : Option Addr) (n139 : Nat) (c140 : Nat) (h141 : Ow w.heap.size A138 n139 c140 x137), G (tree_quoted_C w F r) [.code tree_quoted_c12, .inLoop tree_quoted_c12, .inBlock 0, .code tree_quoted_c8] [(3, .pointer (some ⟨gb2, 0, none⟩)), (8, .slice A19 x1.size c20), (9, .int .i64 ((bsOf x1).length : Int)), (10, .int .i64 x135)] [.own (.slice A138 n139 c140) 5 1 n139 (x137.flatMap (eI .u8)), .own (.slice A19 x1.size c20) 5 1 x1.size ((bsOf x1).flatMap (eI .u8)), .box gb2 123 [selfP gb2 x136, .slice A138 n139 c140]] [Sm w.heap.size F w [], St w []]
    intro A138 n139 c140 h141
    have h : tree_quoted_b1 x1 x135 x136 x137 o1 := h
    unfold tree_quoted_b1 at h
    refine g_seq (c := tree_quoted_c12) rfl ?_
    refine g_region (c := tree_quoted_c13) rfl rfl ?_
    refine wl_v 0 rfl (v_bin rfl rfl rfl) gn rfl ?_
    refine w_end 1 rfl ?_
    refine g_seq (c := tree_quoted_c14) rfl ?_
    by_cases hp253 : x135 < ((bsOf x1).length : Int)
    · have h := if_pos' hp253 h
      refine g_true (c := tree_quoted_c15) rfl _ rfl ((decide_eq_true hp253)) ?_
      refine g_skip (c := tree_quoted_c17) rfl ?_
      refine g_seq (c := tree_quoted_c16) rfl ?_
      refine g_block (c := tree_quoted_c19) rfl ?_
      refine g_seq (c := tree_quoted_c21) rfl ?_
      refine g_region (c := tree_quoted_c22) rfl rfl ?_
      obtain ⟨hb254, h⟩ := h
      refine wl_v 0 rfl (v_idxO slE_121 rfl rfl h21 hb254) gn rfl ?_
      refine wl_v 1 rfl (v_ldO1 (.int .u8 (ix (bsOf x1) x135)) 1 ld_5 rfl rfl (fm_get0 (hlI .u8) hb254 rfl)) gn rfl ?_
      refine wl_v 2 rfl (v_assign rfl) gn rfl ?_
      refine w_end 3 rfl ?_
      refine g_block (c := tree_quoted_c23) rfl ?_
      refine g_seq (c := tree_quoted_c24) rfl ?_
      have j2 : ∀ (x257 : Bool) (h : tree_quoted_j2 x1 x135 x136 x137 x257 o1) , G (tree_quoted_C w F r) [.code tree_quoted_c26, .inBlock 2, .inBlock 1, .code tree_quoted_c20, .inLoop tree_quoted_c12, .inBlock 0, .code tree_quoted_c8] [(3, .pointer (some ⟨gb2, 0, none⟩)), (5, .int .u8 (ix (bsOf x1) x135)), (8, .slice A19 x1.size c20), (9, .int .i64 ((bsOf x1).length : Int)), (10, .int .i64 x135), (16, .bool x257)] [.own (.slice A138 n139 c140) 5 1 n139 (x137.flatMap (eI .u8)), .own (.slice A19 x1.size c20) 5 1 x1.size ((bsOf x1).flatMap (eI .u8)), .box gb2 123 [selfP gb2 x136, .slice A138 n139 c140]] [Sm w.heap.size F w [], St w []] := by
        intro x257 h
        unfold tree_quoted_j2 at h
        by_cases hp258 : x257 = true
        · have h := if_pos' hp258 h
          refine g_true (c := tree_quoted_c26) rfl _ rfl (hp258) ?_
          refine g_region (c := tree_quoted_c27) rfl rfl ?_
          refine wl_v 0 rfl (v_move rfl) gn rfl ?_
          refine wl_v 1 rfl (v_conv ⟨_, un_5⟩ un_21 rfl) gn rfl ?_
          refine wl_v 2 rfl (v_convC un_21 un_9 rfl) gn rfl ?_
          obtain ⟨hb259, h⟩ := h
          refine wl_v 3 rfl (v_catS rfl rfl hb259) gn rfl ?_
          obtain ⟨r263, hv264, h⟩ := h
          refine wl_s 4 rfl (s_call [.pointer (some ⟨gb2, 0, none⟩), .string ((⟨#[92]⟩ : ByteArray) ++ (chrB (IntKind.i32.wrap (ix (bsOf x1) x135))))] rfl Try.func71 rfl rfl rfl fun w260 hL261 => ?_) gn
          have hp262 : List.Perm ([.own (.slice A138 n139 c140) 5 1 n139 (x137.flatMap (eI .u8)), .own (.slice A19 x1.size c20) 5 1 x1.size ((bsOf x1).flatMap (eI .u8)), .box gb2 123 [selfP gb2 x136, .slice A138 n139 c140]] : List Ent) (([.box gb2 123 [selfP gb2 x136, .slice A138 n139 c140], .own (.slice A138 n139 c140) 5 1 n139 (x137.flatMap (eI .u8))] : List Ent) ++ ([.own (.slice A19 x1.size c20) 5 1 x1.size ((bsOf x1).flatMap (eI .u8))] : List Ent)) := perm_of_idx [2, 0] [1] rfl rfl (by kernel_rfl)
          refine Calls.mono (strings_Builder_WriteString_calls w260 (Fl ([] : List Snap)) (⟨x136, x137⟩ : strings_Builder) ((⟨#[92]⟩ : ByteArray) ++ (chrB (IntKind.i32.wrap (ix (bsOf x1) x135)))) gb2 w.heap.size A138 n139 c140 hL261.env.size h141 (hL261.hFl (Sl := ([] : List Snap)) hp262 (sels [] rfl)) (hL261.into hp262 (Fl ([] : List Snap))) r263 hv264) ?_
          rintro _ w270 ⟨A265, n266, c267, rfl, hM271, h268⟩
          have hL272 := hL261.call hp262 hM271
          refine ⟨_, _, _, rfl, hL272, ?_⟩
          refine w_end 5 rfl ?_
          refine g_inBlock ?_
          refine g_inBlock ?_
          refine g_region (c := tree_quoted_c20) rfl rfl ?_
          refine wl_v 0 rfl (v_bin rfl rfl rfl) gn rfl ?_
          refine wl_v 1 rfl (v_move rfl) gn rfl ?_
          refine w_end 2 rfl ?_
          refine g_inLoop ?_
          refine g_front 0 rfl ?_
          refine g_front 2 rfl ?_
          refine g_front 2 rfl ?_
          have ih := Out.inl hO1 h
          exact g_go [0, 1] (ih A265 n266 c267 h268) ⟨rfl, rfl, rfl, rfl, trivial⟩ (.cons_cons _ (.cons_cons _ (.cons_cons _ (.slnil)))) rfl
        · have h := if_neg' hp258 h
          refine g_false (c := tree_quoted_c26) rfl _ rfl ((bf hp258)) ?_
          refine g_seq (c := tree_quoted_c28) rfl ?_
          refine g_region (c := tree_quoted_c29) rfl rfl ?_
          refine wl_v 0 rfl (v_move rfl) gn rfl ?_
          refine wl_v 1 rfl (v_bin rfl rfl rfl) gn rfl ?_
          refine wl_v 2 rfl (v_assign rfl) gn rfl ?_
          refine w_end 3 rfl ?_
          by_cases hp273 : ix (bsOf x1) x135 = 10
          · have h := if_pos' hp273 h
            refine g_true (c := tree_quoted_c30) rfl _ rfl ((eqi hp273)) ?_
            refine g_region (c := tree_quoted_c31) rfl rfl ?_
            obtain ⟨r277, hv278, h⟩ := h
            refine wl_s 0 rfl (s_call [.pointer (some ⟨gb2, 0, none⟩), .string (⟨#[92, 110]⟩ : ByteArray)] rfl Try.func71 rfl rfl rfl fun w274 hL275 => ?_) gn
            have hp276 : List.Perm ([.own (.slice A138 n139 c140) 5 1 n139 (x137.flatMap (eI .u8)), .own (.slice A19 x1.size c20) 5 1 x1.size ((bsOf x1).flatMap (eI .u8)), .box gb2 123 [selfP gb2 x136, .slice A138 n139 c140]] : List Ent) (([.box gb2 123 [selfP gb2 x136, .slice A138 n139 c140], .own (.slice A138 n139 c140) 5 1 n139 (x137.flatMap (eI .u8))] : List Ent) ++ ([.own (.slice A19 x1.size c20) 5 1 x1.size ((bsOf x1).flatMap (eI .u8))] : List Ent)) := perm_of_idx [2, 0] [1] rfl rfl (by kernel_rfl)
            refine Calls.mono (strings_Builder_WriteString_calls w274 (Fl ([] : List Snap)) (⟨x136, x137⟩ : strings_Builder) (⟨#[92, 110]⟩ : ByteArray) gb2 w.heap.size A138 n139 c140 hL275.env.size h141 (hL275.hFl (Sl := ([] : List Snap)) hp276 (sels [] rfl)) (hL275.into hp276 (Fl ([] : List Snap))) r277 hv278) ?_
            rintro _ w284 ⟨A279, n280, c281, rfl, hM285, h282⟩
            have hL286 := hL275.call hp276 hM285
            refine ⟨_, _, _, rfl, hL286, ?_⟩
            refine w_end 1 rfl ?_
            refine g_inBlock ?_
            refine g_inBlock ?_
            refine g_region (c := tree_quoted_c20) rfl rfl ?_
            refine wl_v 0 rfl (v_bin rfl rfl rfl) gn rfl ?_
            refine wl_v 1 rfl (v_move rfl) gn rfl ?_
            refine w_end 2 rfl ?_
            refine g_inLoop ?_
            refine g_front 0 rfl ?_
            refine g_front 2 rfl ?_
            refine g_front 2 rfl ?_
            have ih := Out.inl hO1 h
            exact g_go [0, 1] (ih A279 n280 c281 h282) ⟨rfl, rfl, rfl, rfl, trivial⟩ (.cons_cons _ (.cons_cons _ (.cons_cons _ (.slnil)))) rfl
          · have h := if_neg' hp273 h
            refine g_false (c := tree_quoted_c30) rfl _ rfl ((nei hp273)) ?_
            refine g_seq (c := tree_quoted_c32) rfl ?_
            have j3 : ∀ (x289 : Bool) (h : tree_quoted_j3 x1 x135 x136 x137 x289 o1) , G (tree_quoted_C w F r) [.code tree_quoted_c34, .inBlock 2, .inBlock 1, .code tree_quoted_c20, .inLoop tree_quoted_c12, .inBlock 0, .code tree_quoted_c8] [(3, .pointer (some ⟨gb2, 0, none⟩)), (5, .int .u8 (ix (bsOf x1) x135)), (8, .slice A19 x1.size c20), (9, .int .i64 ((bsOf x1).length : Int)), (10, .int .i64 x135), (32, .bool x289)] [.own (.slice A138 n139 c140) 5 1 n139 (x137.flatMap (eI .u8)), .own (.slice A19 x1.size c20) 5 1 x1.size ((bsOf x1).flatMap (eI .u8)), .box gb2 123 [selfP gb2 x136, .slice A138 n139 c140]] [Sm w.heap.size F w [], St w []] := by
              intro x289 h
              unfold tree_quoted_j3 at h
              by_cases hp290 : x289 = true
              · have h := if_pos' hp290 h
                refine g_true (c := tree_quoted_c34) rfl _ rfl (hp290) ?_
                obtain ⟨hb291, h⟩ := h
                obtain ⟨hb292, h⟩ := h
                obtain ⟨hb293, h⟩ := h
                obtain ⟨hb294, h⟩ := h
                obtain ⟨r298, hv299, h⟩ := h
                have hns : Region.noSelect (Code.ops tree_quoted_c35) = true := by kernel_rfl
                refine g_drawF (c := tree_quoted_c35) [.own (.slice A138 n139 c140) 5 1 n139 (x137.flatMap (eI .u8)), .own (.slice A19 x1.size c20) 5 1 x1.size ((bsOf x1).flatMap (eI .u8)), .box gb2 123 [selfP gb2 x136, .slice A138 n139 c140]] [Sm w.heap.size F w [], St w []] [10] 11 rfl rfl mix rfl (.cons_cons _ (.cons_cons _ (.cons_cons _ (.slnil)))) (sels [0, 1] rfl) ?_
                refine wf_v 0 rfl (v_move rfl) gn rfl hns (by kernel_rfl) (by kernel_rfl) (by kernel_rfl) rfl ?_
                refine wf_v 1 rfl (v_shr rfl rfl (by decide)) gn rfl hns (by kernel_rfl) (by kernel_rfl) (by kernel_rfl) rfl ?_
                refine wf_v 2 rfl (v_indexS un_9 rfl rfl hb291) gn rfl hns (by kernel_rfl) (by kernel_rfl) (by kernel_rfl) rfl ?_
                refine wf_v 3 rfl (v_convC un_5 un_9 rfl) gn rfl hns (by kernel_rfl) (by kernel_rfl) (by kernel_rfl) rfl ?_
                refine wf_v 4 rfl (v_catS rfl rfl hb292) gn rfl hns (by kernel_rfl) (by kernel_rfl) (by kernel_rfl) rfl ?_
                refine wf_v 5 rfl (v_move rfl) gn rfl hns (by kernel_rfl) (by kernel_rfl) (by kernel_rfl) rfl ?_
                refine wf_v 6 rfl (v_bin rfl rfl rfl) gn rfl hns (by kernel_rfl) (by kernel_rfl) (by kernel_rfl) rfl ?_
                refine wf_v 7 rfl (v_indexS un_9 rfl rfl hb293) gn rfl hns (by kernel_rfl) (by kernel_rfl) (by kernel_rfl) rfl ?_
                refine wf_v 8 rfl (v_convC un_5 un_9 rfl) gn rfl hns (by kernel_rfl) (by kernel_rfl) (by kernel_rfl) rfl ?_
                refine wf_v 9 rfl (v_catS rfl rfl hb294) gn rfl hns (by kernel_rfl) (by kernel_rfl) (by kernel_rfl) rfl ?_
                refine wf_all [10] (by kernel_rfl) rfl ⟨on_l 10 rfl gn rfl (s_call [.pointer (some ⟨gb2, 0, none⟩), .string (((⟨#[92, 120]⟩ : ByteArray) ++ (chrB (bt (⟨#[48, 49, 50, 51, 52, 53, 54, 55, 56, 57, 97, 98, 99, 100, 101, 102]⟩ : ByteArray) (shrV .u8 (ix (bsOf x1) x135) 4)))) ++ (chrB (bt (⟨#[48, 49, 50, 51, 52, 53, 54, 55, 56, 57, 97, 98, 99, 100, 101, 102]⟩ : ByteArray) (bits .and .u8 (ix (bsOf x1) x135) 15))))] rfl Try.func71 rfl rfl rfl fun w318 hL319 => ?_), trivial⟩
                have hp320 : List.Perm ([.own (.slice A138 n139 c140) 5 1 n139 (x137.flatMap (eI .u8)), .own (.slice A19 x1.size c20) 5 1 x1.size ((bsOf x1).flatMap (eI .u8)), .box gb2 123 [selfP gb2 x136, .slice A138 n139 c140]] : List Ent) (([.box gb2 123 [selfP gb2 x136, .slice A138 n139 c140], .own (.slice A138 n139 c140) 5 1 n139 (x137.flatMap (eI .u8))] : List Ent) ++ ([.own (.slice A19 x1.size c20) 5 1 x1.size ((bsOf x1).flatMap (eI .u8))] : List Ent)) := perm_of_idx [2, 0] [1] rfl rfl (by kernel_rfl)
                refine Calls.mono (strings_Builder_WriteString_calls w318 (Fl ([] : List Snap)) (⟨x136, x137⟩ : strings_Builder) (((⟨#[92, 120]⟩ : ByteArray) ++ (chrB (bt (⟨#[48, 49, 50, 51, 52, 53, 54, 55, 56, 57, 97, 98, 99, 100, 101, 102]⟩ : ByteArray) (shrV .u8 (ix (bsOf x1) x135) 4)))) ++ (chrB (bt (⟨#[48, 49, 50, 51, 52, 53, 54, 55, 56, 57, 97, 98, 99, 100, 101, 102]⟩ : ByteArray) (bits .and .u8 (ix (bsOf x1) x135) 15)))) gb2 w.heap.size A138 n139 c140 hL319.env.size h141 (hL319.hFl (Sl := ([] : List Snap)) hp320 (sels [] rfl)) (hL319.into hp320 (Fl ([] : List Snap))) r298 hv299) ?_
                rintro _ w325 ⟨A321, n322, c323, rfl, hM326, h324⟩
                have hL327 := hL319.call hp320 hM326
                refine ⟨_, _, _, rfl, hL327, ?_⟩
                unfold NxL
                refine wf_end (by kernel_rfl) ?_
                refine g_inBlock ?_
                refine g_inBlock ?_
                refine g_region (c := tree_quoted_c20) rfl rfl ?_
                refine wl_v 0 rfl (v_bin rfl rfl rfl) gn rfl ?_
                refine wl_v 1 rfl (v_move rfl) gn rfl ?_
                refine w_end 2 rfl ?_
                refine g_inLoop ?_
                refine g_front 0 rfl ?_
                refine g_front 2 rfl ?_
                refine g_front 2 rfl ?_
                have ih := Out.inl hO1 h
                exact g_go [0, 1] (ih A321 n322 c323 h324) ⟨rfl, rfl, rfl, rfl, trivial⟩ (.cons_cons _ (.cons_cons _ (.cons_cons _ (.slnil)))) rfl
              · have h := if_neg' hp290 h
                refine g_false (c := tree_quoted_c34) rfl _ rfl ((bf hp290)) ?_
                refine g_region (c := tree_quoted_c36) rfl rfl ?_
                refine wl_v 0 rfl (v_move rfl) gn rfl ?_
                obtain ⟨r331, hv332, h⟩ := h
                refine wl_s 1 rfl (s_call [.pointer (some ⟨gb2, 0, none⟩), .int .u8 (ix (bsOf x1) x135)] rfl Try.func70 rfl rfl rfl fun w328 hL329 => ?_) gn
                have hp330 : List.Perm ([.own (.slice A138 n139 c140) 5 1 n139 (x137.flatMap (eI .u8)), .own (.slice A19 x1.size c20) 5 1 x1.size ((bsOf x1).flatMap (eI .u8)), .box gb2 123 [selfP gb2 x136, .slice A138 n139 c140]] : List Ent) (([.box gb2 123 [selfP gb2 x136, .slice A138 n139 c140], .own (.slice A138 n139 c140) 5 1 n139 (x137.flatMap (eI .u8))] : List Ent) ++ ([.own (.slice A19 x1.size c20) 5 1 x1.size ((bsOf x1).flatMap (eI .u8))] : List Ent)) := perm_of_idx [2, 0] [1] rfl rfl (by kernel_rfl)
                refine Calls.mono (strings_Builder_WriteByte_calls w328 (Fl ([] : List Snap)) (⟨x136, x137⟩ : strings_Builder) (ix (bsOf x1) x135) gb2 w.heap.size A138 n139 c140 hL329.env.size h141 (hL329.hFl (Sl := ([] : List Snap)) hp330 (sels [] rfl)) (hL329.into hp330 (Fl ([] : List Snap))) r331 hv332) ?_
                rintro _ w338 ⟨A333, n334, c335, rfl, hM339, h336⟩
                have hL340 := hL329.call hp330 hM339
                refine ⟨_, _, _, rfl, hL340, ?_⟩
                refine w_end 2 rfl ?_
                refine g_inBlock ?_
                refine g_inBlock ?_
                refine g_region (c := tree_quoted_c20) rfl rfl ?_
                refine wl_v 0 rfl (v_bin rfl rfl rfl) gn rfl ?_
                refine wl_v 1 rfl (v_move rfl) gn rfl ?_
                refine w_end 2 rfl ?_
                refine g_inLoop ?_
                refine g_front 0 rfl ?_
                refine g_front 2 rfl ?_
                refine g_front 2 rfl ?_
                have ih := Out.inl hO1 h
                exact g_go [0, 1] (ih A333 n334 c335 h336) ⟨rfl, rfl, rfl, rfl, trivial⟩ (.cons_cons _ (.cons_cons _ (.cons_cons _ (.slnil)))) rfl
            refine g_region (c := tree_quoted_c33) rfl rfl ?_
            refine wl_v 0 rfl (v_move rfl) gn rfl ?_
            refine wl_v 1 rfl (v_bin rfl rfl rfl) gn rfl ?_
            refine wl_v 2 rfl (v_move rfl) gn rfl ?_
            by_cases hp341 : ix (bsOf x1) x135 < 32
            · have h := if_pos' hp341 h
              refine w_bool 35 rfl ((decide_eq_true hp341)) ?_
              refine wl_pass 3 rfl (ps 35 rfl rfl rfl) ?_
              refine wl_pass 4 rfl (ps 35 rfl rfl rfl) ?_
              refine wl_v 5 rfl (v_pick (b := true) rfl rfl) gn rfl ?_
              refine wl_v 6 rfl (v_assign rfl) gn rfl ?_
              refine w_end 7 rfl ?_
              exact g_go [0, 1] (j3 true h) ⟨rfl, rfl, rfl, rfl, rfl, rfl, trivial⟩ (.cons_cons _ (.cons_cons _ (.cons_cons _ (.slnil)))) rfl
            · have h := if_neg' hp341 h
              refine w_bool 35 rfl ((decide_eq_false hp341)) ?_
              refine wl_v 3 rfl (v_move rfl) (gy 35 rfl rfl) rfl ?_
              refine wl_v 4 rfl (v_bin rfl rfl rfl) (gy 35 rfl rfl) rfl ?_
              refine wl_v 5 rfl (v_pick (b := false) rfl rfl) gn rfl ?_
              refine wl_v 6 rfl (v_assign rfl) gn rfl ?_
              refine w_end 7 rfl ?_
              exact g_go [0, 1] (j3 (decide (ix (bsOf x1) x135 > 126)) h) ⟨rfl, rfl, rfl, rfl, rfl, rfl, trivial⟩ (.cons_cons _ (.cons_cons _ (.cons_cons _ (.slnil)))) rfl
      refine g_region (c := tree_quoted_c25) rfl rfl ?_
      refine wl_v 0 rfl (v_move rfl) gn rfl ?_
      refine wl_v 1 rfl (v_bin rfl rfl rfl) gn rfl ?_
      refine wl_v 2 rfl (v_move rfl) gn rfl ?_
      by_cases hp342 : ix (bsOf x1) x135 = 34
      · have h := if_pos' hp342 h
        refine w_bool 19 rfl ((eqi hp342)) ?_
        refine wl_pass 3 rfl (ps 19 rfl rfl rfl) ?_
        refine wl_pass 4 rfl (ps 19 rfl rfl rfl) ?_
        refine wl_v 5 rfl (v_pick (b := true) rfl rfl) gn rfl ?_
        refine wl_v 6 rfl (v_assign rfl) gn rfl ?_
        refine w_end 7 rfl ?_
        exact g_go [0, 1] (j2 true h) ⟨rfl, rfl, rfl, rfl, rfl, rfl, trivial⟩ (.cons_cons _ (.cons_cons _ (.cons_cons _ (.slnil)))) rfl
      · have h := if_neg' hp342 h
        refine w_bool 19 rfl ((nei hp342)) ?_
        refine wl_v 3 rfl (v_move rfl) (gy 19 rfl rfl) rfl ?_
        refine wl_v 4 rfl (v_bin rfl rfl rfl) (gy 19 rfl rfl) rfl ?_
        refine wl_v 5 rfl (v_pick (b := false) rfl rfl) gn rfl ?_
        refine wl_v 6 rfl (v_assign rfl) gn rfl ?_
        refine w_end 7 rfl ?_
        exact g_go [0, 1] (j2 ((ix (bsOf x1) x135) == 92) h) ⟨rfl, rfl, rfl, rfl, rfl, rfl, trivial⟩ (.cons_cons _ (.cons_cons _ (.cons_cons _ (.slnil)))) rfl
    · have h := if_neg' hp253 h
      refine g_false (c := tree_quoted_c15) rfl _ rfl ((decide_eq_false hp253)) ?_
      refine g_exit (c := tree_quoted_c18) [.code tree_quoted_c8] rfl rfl ?_
      refine g_seq (c := tree_quoted_c8) rfl ?_
      refine g_region (c := tree_quoted_c37) rfl rfl ?_
      obtain ⟨r346, hv347, h⟩ := h
      refine wl_s 0 rfl (s_call [.pointer (some ⟨gb2, 0, none⟩), .int .u8 34] rfl Try.func70 rfl rfl rfl fun w343 hL344 => ?_) gn
      have hp345 : List.Perm ([.own (.slice A138 n139 c140) 5 1 n139 (x137.flatMap (eI .u8)), .own (.slice A19 x1.size c20) 5 1 x1.size ((bsOf x1).flatMap (eI .u8)), .box gb2 123 [selfP gb2 x136, .slice A138 n139 c140]] : List Ent) (([.box gb2 123 [selfP gb2 x136, .slice A138 n139 c140], .own (.slice A138 n139 c140) 5 1 n139 (x137.flatMap (eI .u8))] : List Ent) ++ ([.own (.slice A19 x1.size c20) 5 1 x1.size ((bsOf x1).flatMap (eI .u8))] : List Ent)) := perm_of_idx [2, 0] [1] rfl rfl (by kernel_rfl)
      refine Calls.mono (strings_Builder_WriteByte_calls w343 (Fl ([] : List Snap)) (⟨x136, x137⟩ : strings_Builder) 34 gb2 w.heap.size A138 n139 c140 hL344.env.size h141 (hL344.hFl (Sl := ([] : List Snap)) hp345 (sels [] rfl)) (hL344.into hp345 (Fl ([] : List Snap))) r346 hv347) ?_
      rintro _ w353 ⟨A348, n349, c350, rfl, hM354, h351⟩
      have hL355 := hL344.call hp345 hM354
      refine ⟨_, _, _, rfl, hL355, ?_⟩
      refine w_end 1 rfl ?_
      refine g_seq (c := tree_quoted_c38) rfl ?_
      refine g_region (c := tree_quoted_c39) rfl rfl ?_
      obtain ⟨r359, hv360, h⟩ := h
      refine wl_s 0 rfl (s_call [.pointer (some ⟨gb2, 0, none⟩)] rfl Try.func73 rfl rfl rfl fun w356 hL357 => ?_) gn
      have hp358 : List.Perm ([.box gb2 123 [selfP gb2 r346.addr, .slice A348 n349 c350], .own (.slice A348 n349 c350) 5 1 n349 (r346.buf.flatMap (eI .u8)), .own (.slice A19 x1.size c20) 5 1 x1.size ((bsOf x1).flatMap (eI .u8))] : List Ent) (([.box gb2 123 [selfP gb2 r346.addr, .slice A348 n349 c350], .own (.slice A348 n349 c350) 5 1 n349 (r346.buf.flatMap (eI .u8))] : List Ent) ++ ([.own (.slice A19 x1.size c20) 5 1 x1.size ((bsOf x1).flatMap (eI .u8))] : List Ent)) := perm_of_idx [0, 1] [2] rfl rfl (by kernel_rfl)
      refine Calls.mono (strings_Builder_String_calls w356 (Fl ([] : List Snap)) r346 gb2 w.heap.size A348 n349 c350 hL357.env.size h351 (hL357.hFl (Sl := ([] : List Snap)) hp358 (sels [] rfl)) (hL357.into hp358 (Fl ([] : List Snap))) r359 hv360) ?_
      rintro _ w361 ⟨rfl, hM362⟩
      have hL363 := hL357.call hp358 hM362
      refine ⟨_, _, _, rfl, hL363, ?_⟩
      refine wl_v 1 rfl (v_assign rfl) gn rfl ?_
      refine w_end 2 rfl ?_
      have h := Out.inr hO1 h
      refine g_retR (c := tree_quoted_c40) [.string r359] rfl Try.func72 rfl (.tmp rfl (.nil)) fun wr hLr => ?_
      have hMr : B.Loc w wr [] [St w []] := hLr.pick (rest := [.own (.slice A19 x1.size c20) 5 1 x1.size ((bsOf x1).flatMap (eI .u8))]) (perm_of_idx [] [0] rfl rfl (by kernel_rfl)) (sels [1] rfl)
      have hMi : ∀ e ∈ ([] : List Ent), e ∈ ([.own (.slice A19 x1.size c20) 5 1 x1.size ((bsOf x1).flatMap (eI .u8))] : List Ent) := sels [] rfl
      show tree_quoted_R w F  r (.returned (packV [.string r359])) wr
      rw [h]
      exact ⟨rfl, hMr⟩
  refine g_front 1 rfl ?_
  refine g_front 1 rfl ?_
  refine g_front 2 rfl ?_
  exact g_go [0, 1] (key1 _ h A10 n11 c12 h13) ⟨rfl, rfl, rfl, rfl, trivial⟩ (.cons_cons _ (.cons_cons _ (.cons_cons _ (.slnil)))) rfl
noncomputable abbrev tree_Text_c0 : Code := bodyOf Try.f53
noncomputable abbrev tree_Text_c1 : Code := Code.fst tree_Text_c0
noncomputable abbrev tree_Text_c2 : Code := Code.snd tree_Text_c0
noncomputable abbrev tree_Text_c3 : Code := Code.fst tree_Text_c2
noncomputable abbrev tree_Text_c4 : Code := Code.snd tree_Text_c2
noncomputable abbrev tree_Text_c5 : Code := Code.fst tree_Text_c4
noncomputable abbrev tree_Text_c6 : Code := Code.snd tree_Text_c4
noncomputable abbrev tree_Text_c7 : Code := Code.fst tree_Text_c5
noncomputable abbrev tree_Text_c8 : Code := Code.snd tree_Text_c5
noncomputable abbrev tree_Text_c9 : Code := Code.fst tree_Text_c8
noncomputable abbrev tree_Text_c10 : Code := Code.snd tree_Text_c8
noncomputable abbrev tree_Text_c11 : Code := Code.fst tree_Text_c6
noncomputable abbrev tree_Text_c12 : Code := Code.snd tree_Text_c6
noncomputable abbrev tree_Text_c13 : Code := Code.fst tree_Text_c12
noncomputable abbrev tree_Text_c14 : Code := Code.snd tree_Text_c12
noncomputable abbrev tree_Text_c15 : Code := Code.fst tree_Text_c14
noncomputable abbrev tree_Text_c16 : Code := Code.snd tree_Text_c14
noncomputable abbrev tree_Text_c17 : Code := Code.fst tree_Text_c15
noncomputable abbrev tree_Text_c18 : Code := Code.snd tree_Text_c15
noncomputable abbrev tree_Text_c19 : Code := Code.fst tree_Text_c18
noncomputable abbrev tree_Text_c20 : Code := Code.fst tree_Text_c19
noncomputable abbrev tree_Text_c21 : Code := Code.fst tree_Text_c20
noncomputable abbrev tree_Text_c22 : Code := Code.snd tree_Text_c20
noncomputable abbrev tree_Text_c23 : Code := Code.fst tree_Text_c22
noncomputable abbrev tree_Text_c24 : Code := Code.snd tree_Text_c22
noncomputable abbrev tree_Text_c25 : Code := Code.fst tree_Text_c23
noncomputable abbrev tree_Text_c26 : Code := Code.snd tree_Text_c23
noncomputable abbrev tree_Text_c27 : Code := Code.fst tree_Text_c24
noncomputable abbrev tree_Text_c28 : Code := Code.snd tree_Text_c24
noncomputable abbrev tree_Text_c29 : Code := Code.fst tree_Text_c27
noncomputable abbrev tree_Text_c30 : Code := Code.fst tree_Text_c29
noncomputable abbrev tree_Text_c31 : Code := Code.snd tree_Text_c29
noncomputable abbrev tree_Text_c32 : Code := Code.fst tree_Text_c31
noncomputable abbrev tree_Text_c33 : Code := Code.snd tree_Text_c31
noncomputable abbrev tree_Text_c34 : Code := Code.fst tree_Text_c32
noncomputable abbrev tree_Text_c35 : Code := Code.snd tree_Text_c32
noncomputable abbrev tree_Text_c36 : Code := Code.fst tree_Text_c35
noncomputable abbrev tree_Text_c37 : Code := Code.snd tree_Text_c35
noncomputable abbrev tree_Text_c38 : Code := Code.fst tree_Text_c33
noncomputable abbrev tree_Text_c39 : Code := Code.snd tree_Text_c33
noncomputable abbrev tree_Text_c40 : Code := Code.fst tree_Text_c38
noncomputable abbrev tree_Text_c41 : Code := Code.snd tree_Text_c38
noncomputable abbrev tree_Text_c42 : Code := Code.fst tree_Text_c41
noncomputable abbrev tree_Text_c43 : Code := Code.snd tree_Text_c41
noncomputable abbrev tree_Text_c44 : Code := Code.fst tree_Text_c39
noncomputable abbrev tree_Text_c45 : Code := Code.snd tree_Text_c39
noncomputable abbrev tree_Text_c46 : Code := Code.fst tree_Text_c45
noncomputable abbrev tree_Text_c47 : Code := Code.snd tree_Text_c45
noncomputable abbrev tree_Text_c48 : Code := Code.fst tree_Text_c46
noncomputable abbrev tree_Text_c49 : Code := Code.snd tree_Text_c46
noncomputable abbrev tree_Text_c50 : Code := Code.fst tree_Text_c49
noncomputable abbrev tree_Text_c51 : Code := Code.snd tree_Text_c49
noncomputable abbrev tree_Text_c52 : Code := Code.fst tree_Text_c47
noncomputable abbrev tree_Text_c53 : Code := Code.snd tree_Text_c47
noncomputable abbrev tree_Text_c54 : Code := Code.fst tree_Text_c52
noncomputable abbrev tree_Text_c55 : Code := Code.snd tree_Text_c52
noncomputable abbrev tree_Text_c56 : Code := Code.fst tree_Text_c55
noncomputable abbrev tree_Text_c57 : Code := Code.snd tree_Text_c55
noncomputable abbrev tree_Text_c58 : Code := Code.fst tree_Text_c56
noncomputable abbrev tree_Text_c59 : Code := Code.snd tree_Text_c56
noncomputable abbrev tree_Text_c60 : Code := Code.fst tree_Text_c53
noncomputable abbrev tree_Text_c61 : Code := Code.snd tree_Text_c53
noncomputable abbrev tree_Text_c62 : Code := Code.fst tree_Text_c61
noncomputable abbrev tree_Text_c63 : Code := Code.fst tree_Text_c62
noncomputable abbrev tree_Text_c64 : Code := Code.fst tree_Text_c63
noncomputable abbrev tree_Text_c65 : Code := Code.snd tree_Text_c63
noncomputable abbrev tree_Text_c66 : Code := Code.fst tree_Text_c64
noncomputable abbrev tree_Text_c67 : Code := Code.snd tree_Text_c64
noncomputable abbrev tree_Text_c68 : Code := Code.fst tree_Text_c67
noncomputable abbrev tree_Text_c69 : Code := Code.snd tree_Text_c67
noncomputable abbrev tree_Text_c70 : Code := Code.fst tree_Text_c65
noncomputable abbrev tree_Text_c71 : Code := Code.fst tree_Text_c70
noncomputable abbrev tree_Text_c72 : Code := Code.snd tree_Text_c70
noncomputable abbrev tree_Text_c73 : Code := Code.fst tree_Text_c16
noncomputable abbrev tree_Text_c74 : Code := Code.snd tree_Text_c16
noncomputable abbrev tree_Text_c75 : Code := Code.fst tree_Text_c9
noncomputable abbrev tree_Text_c76 : Code := Code.snd tree_Text_c9
abbrev tree_Text_R (w : World) (F : Nat → Prop) (r : ByteArray) : Ending → World → Prop := fun e w' => e = .returned (.string r) ∧ B.Loc w w' [] [St w []]
noncomputable abbrev tree_Text_C (w : World) (F : Nat → Prop) (r : ByteArray) : Cx := ⟨Try.prog, 53, Try.f53, 79, tree_Text_R w F  r, w⟩
theorem tree_Text_calls (w : World) (F : Nat → Prop) (x1 : List api_Node) (A2 : Option Addr) (n3 : Nat) (c4 : Nat) (h5 : Rw k_api_Node w (St w []).av A2 n3 c4 x1) (hF : ∀ b, F b → b < w.heap.size ∧ ∀ o ∈ ([] : List (List Nat)), b ∉ o) (hL0 : B.Loc w w [] [Sm w.heap.size F w [], St w []]) (r : ByteArray) (h : tree_Text x1 r) : Calls Try.prog 53 #[.slice A2 n3 c4] w (tree_Text_R w F  r) := by
  unfold tree_Text at h
  refine calls_of_Loc (vs := [.slice A2 n3 c4]) 79 Try.func53 rfl Try.ntmps53 rfl hL0 ?_
  show G (tree_Text_C w F r) _ _ _ _
  refine g_seq (c := tree_Text_c0) rfl ?_
  refine g_region (c := tree_Text_c1) rfl rfl ?_
  refine wl_v 0 rfl (v_assign rfl) gn rfl ?_
  refine w_end 1 rfl ?_
  refine g_seq (c := tree_Text_c2) rfl ?_
  refine g_region (c := tree_Text_c3) rfl rfl ?_
  refine wl_v 0 rfl (v_move rfl) gn rfl ?_
  obtain ⟨r9, hv10, h⟩ := h
  refine wl_s 1 rfl (s_call [.slice A2 n3 c4] rfl Try.func44 rfl rfl rfl fun w6 hL7 => ?_) gn
  have hp8 : List.Perm ([] : List Ent) (([] : List Ent) ++ ([] : List Ent)) := perm_of_idx [] [] rfl rfl (by kernel_rfl)
  refine Calls.mono (tree_plant_calls w6 (Fl ([St w []] : List Snap)) x1 A2 n3 c4 (Rw.mono h5 (hL7.toFl (me 1 rfl) (me 0 rfl))) (hL7.hFl (Sl := ([St w []] : List Snap)) hp8 (sels [1] rfl)) (hL7.into hp8 (Fl ([St w []] : List Snap))) r9 hv10) ?_
  rintro _ w25 ⟨A15, n16, c17, A20, n21, c22, A11, n12, c13, rfl, hM26, h18, h23, h14⟩
  obtain ⟨sv29, hL27, hv28⟩ := hL7.callN (Sl := ([St w []] : List Snap)) hp8 hM26 (sels [1] rfl)
  have h14 : At k_api_Node (sv29) A11 n12 c13 r9.nodes := Rw.mono h14 hv28
  refine ⟨_, _, _, rfl, hL27, ?_⟩
  refine wl_s 2 rfl (s_alloc [.slice none 0 0, .slice none 0 0, .slice none 0 0, .bool false] zr_32 rfl fun gb30 => ?_) gn
  refine wl_s 3 rfl (s_stB (vs := [.slice A11 n12 c13, .slice A15 n16 c17, .slice A20 n21 c22, .bool r9.ok]) (cs' := [.slice A11 n12 c13, .slice A15 n16 c17, .slice A20 n21 c22, .bool r9.ok]) (M' := [.box gb30 32 [.slice A11 n12 c13, .slice A15 n16 c17, .slice A20 n21 c22, .bool r9.ok], .own (.slice A15 n16 c17) 3 1 n16 (r9.parent.flatMap (eI .i64)), .own (.slice A20 n21 c22) 3 1 n21 (r9.end_.flatMap (eI .i64))]) 0 sz_32 rfl rfl rfl rfl rfl rfl rfl rfl rfl ?_) gn
  refine w_end 4 rfl ?_
  refine g_seq (c := tree_Text_c4) rfl ?_
  refine g_seq (c := tree_Text_c5) rfl ?_
  refine g_region (c := tree_Text_c7) rfl rfl ?_
  refine wl_v 0 rfl (v_fldB fo_32_3 rfl) gn rfl ?_
  refine wl_v 1 rfl (v_ldB1 0 ld_4 rfl rfl rfl) gn rfl ?_
  refine wl_v 2 rfl (v_not rfl) gn rfl ?_
  refine w_end 3 rfl ?_
  by_cases hp32 : r9.ok = true
  · have h := if_pos' hp32 h
    refine g_false (c := tree_Text_c8) rfl _ rfl ((nf hp32)) ?_
    refine g_skip (c := tree_Text_c10) rfl ?_
    refine g_seq (c := tree_Text_c6) rfl ?_
    refine g_region (c := tree_Text_c11) rfl rfl ?_
    refine wl_s 0 rfl (s_alloc [.pointer none, .slice none 0 0] zr_123 rfl fun gb33 => ?_) gn
    refine w_end 1 rfl ?_
    refine g_seq (c := tree_Text_c12) rfl ?_
    refine g_region (c := tree_Text_c13) rfl rfl ?_
    refine wl_v 0 rfl (v_assign rfl) gn rfl ?_
    refine w_end 1 rfl ?_
    refine g_seq (c := tree_Text_c14) rfl ?_
    refine g_seq (c := tree_Text_c15) rfl ?_
    refine g_region (c := tree_Text_c17) rfl rfl ?_
    refine wl_v 0 rfl (v_move rfl) gn rfl ?_
    refine wl_v 1 rfl (v_lenQ un_22 rfl h5.hq) gn rfl ?_
    refine wl_v 2 rfl (v_move rfl) gn rfl ?_
    refine w_end 3 rfl ?_
    refine g_block (c := tree_Text_c18) rfl ?_
    refine g_loop (c := tree_Text_c19) rfl ?_
    have key1 : ∀ s, Rounds (fun (s : (List Int) × Int × Bool × (List Int)) o => tree_Text_b1 x1 r9 s.1 s.2.1 s.2.2.1 s.2.2.2 o) s r → (fun (s : (List Int) × Int × Bool × (List Int)) => ∀ (A263 : Option Addr) (n264 : Nat) (c265 : Nat) (h266 : Ow w.heap.size A263 n264 c265 s.1) (A270 : Option Addr) (n271 : Nat) (c272 : Nat) (h273 : Ow w.heap.size A270 n271 c272 s.2.2.2), G (tree_Text_C w F r) [.code tree_Text_c20, .inLoop tree_Text_c20, .inBlock 0, .code tree_Text_c16] [(3, .pointer (some ⟨gb30, 0, none⟩)), (4, .pointer (some ⟨gb33, 0, none⟩)), (5, .slice A263 n264 c265), (14, .slice A2 n3 c4), (15, .int .i64 (x1.length : Int)), (16, .int .i64 s.2.1)] [.own (.slice A263 n264 c265) 3 1 n264 (s.1.flatMap (eI .i64)), .own (.slice A270 n271 c272) 5 1 n271 (s.2.2.2.flatMap (eI .u8)), .box gb33 123 [selfP gb33 s.2.2.1, .slice A270 n271 c272], .box gb30 32 [.slice A11 n12 c13, .slice A15 n16 c17, .slice A20 n21 c22, .bool r9.ok], .own (.slice A15 n16 c17) 3 1 n16 (r9.parent.flatMap (eI .i64)), .own (.slice A20 n21 c22) 3 1 n21 (r9.end_.flatMap (eI .i64))] [sv29, Sm w.heap.size F w [], St w []]) s := by
      intro s hs
      refine Rounds.ind (mot := (fun (s : (List Int) × Int × Bool × (List Int)) => ∀ (A263 : Option Addr) (n264 : Nat) (c265 : Nat) (h266 : Ow w.heap.size A263 n264 c265 s.1) (A270 : Option Addr) (n271 : Nat) (c272 : Nat) (h273 : Ow w.heap.size A270 n271 c272 s.2.2.2), G (tree_Text_C w F r) [.code tree_Text_c20, .inLoop tree_Text_c20, .inBlock 0, .code tree_Text_c16] [(3, .pointer (some ⟨gb30, 0, none⟩)), (4, .pointer (some ⟨gb33, 0, none⟩)), (5, .slice A263 n264 c265), (14, .slice A2 n3 c4), (15, .int .i64 (x1.length : Int)), (16, .int .i64 s.2.1)] [.own (.slice A263 n264 c265) 3 1 n264 (s.1.flatMap (eI .i64)), .own (.slice A270 n271 c272) 5 1 n271 (s.2.2.2.flatMap (eI .u8)), .box gb33 123 [selfP gb33 s.2.2.1, .slice A270 n271 c272], .box gb30 32 [.slice A11 n12 c13, .slice A15 n16 c17, .slice A20 n21 c22, .bool r9.ok], .own (.slice A15 n16 c17) 3 1 n16 (r9.parent.flatMap (eI .i64)), .own (.slice A20 n21 c22) 3 1 n21 (r9.end_.flatMap (eI .i64))] [sv29, Sm w.heap.size F w [], St w []])) ?_ hs
      clear hs s
      intro s o1 h hO1
      obtain ⟨x262, x267, x268, x269⟩ := s
      show ∀ (A263 : Option Addr) (n264 : Nat) (c265 : Nat) (h266 : Ow w.heap.size A263 n264 c265 x262) (A270 : Option Addr) (n271 : Nat) (c272 : Nat) (h273 : Ow w.heap.size A270 n271 c272 x269), G (tree_Text_C w F r) [.code tree_Text_c20, .inLoop tree_Text_c20, .inBlock 0, .code tree_Text_c16] [(3, .pointer (some ⟨gb30, 0, none⟩)), (4, .pointer (some ⟨gb33, 0, none⟩)), (5, .slice A263 n264 c265), (14, .slice A2 n3 c4), (15, .int .i64 (x1.length : Int)), (16, .int .i64 x267)] [.own (.slice A263 n264 c265) 3 1 n264 (x262.flatMap (eI .i64)), .own (.slice A270 n271 c272) 5 1 n271 (x269.flatMap (eI .u8)), .box gb33 123 [selfP gb33 x268, .slice A270 n271 c272], .box gb30 32 [.slice A11 n12 c13, .slice A15 n16 c17, .slice A20 n21 c22, .bool r9.ok], .own (.slice A15 n16 c17) 3 1 n16 (r9.parent.flatMap (eI .i64)), .own (.slice A20 n21 c22) 3 1 n21 (r9.end_.flatMap (eI .i64))] [sv29, Sm w.heap.size F w [], St w []]
      intro A263 n264 c265 h266 A270 n271 c272 h273
      have h : tree_Text_b1 x1 r9 x262 x267 x268 x269 o1 := h
      unfold tree_Text_b1 at h
      refine g_seq (c := tree_Text_c20) rfl ?_
      refine g_region (c := tree_Text_c21) rfl rfl ?_
      refine wl_v 0 rfl (v_bin rfl rfl rfl) gn rfl ?_
      refine w_end 1 rfl ?_
      refine g_seq (c := tree_Text_c22) rfl ?_
      by_cases hp529 : x267 < (x1.length : Int)
      · have h := if_pos' hp529 h
        refine g_true (c := tree_Text_c23) rfl _ rfl ((decide_eq_true hp529)) ?_
        refine g_skip (c := tree_Text_c25) rfl ?_
        refine g_seq (c := tree_Text_c24) rfl ?_
        refine g_block (c := tree_Text_c27) rfl ?_
        refine g_seq (c := tree_Text_c29) rfl ?_
        refine g_region (c := tree_Text_c30) rfl rfl ?_
        refine wl_v 0 rfl (v_move rfl) gn rfl ?_
        obtain ⟨hb530, h⟩ := h
        have hr531 := Rw.readF (s := St w []) (hl := hl_api_Node) (h1 := h1_api_Node) h5 hb530
        refine wl_v 1 rfl (v_idxR (s := St w []) slE_22 rfl rfl h5 hb530) gn rfl ?_
        refine wl_v 2 rfl (v_ldA (St w []) ld_39 rfl hr531 rfl (me 2 rfl)) gn rfl ?_
        refine wl_s 3 rfl (s_alloc [.string (⟨#[]⟩ : ByteArray), .bool false, .string (⟨#[]⟩ : ByteArray), .int .i64 0, .int .i64 0, .int .i64 0, .int .i64 0] zr_39 rfl fun gb532 => ?_) gn
        refine wl_v 4 rfl (v_assign rfl) gn rfl ?_
        refine wl_s 5 rfl (s_stB (vs := [.string ((ix x1 x267).name), .bool ((ix x1 x267).named), .string ((ix x1 x267).field), .int .i64 ((ix x1 x267).from_), .int .i64 ((ix x1 x267).to), .int .i64 ((ix x1 x267).kids), .int .i64 ((ix x1 x267).leaf)]) (cs' := [.string ((ix x1 x267).name), .bool ((ix x1 x267).named), .string ((ix x1 x267).field), .int .i64 ((ix x1 x267).from_), .int .i64 ((ix x1 x267).to), .int .i64 ((ix x1 x267).kids), .int .i64 ((ix x1 x267).leaf)]) (M' := [.box gb532 39 [.string ((ix x1 x267).name), .bool ((ix x1 x267).named), .string ((ix x1 x267).field), .int .i64 ((ix x1 x267).from_), .int .i64 ((ix x1 x267).to), .int .i64 ((ix x1 x267).kids), .int .i64 ((ix x1 x267).leaf)], .own (.slice A263 n264 c265) 3 1 n264 (x262.flatMap (eI .i64)), .own (.slice A270 n271 c272) 5 1 n271 (x269.flatMap (eI .u8)), .box gb33 123 [selfP gb33 x268, .slice A270 n271 c272], .box gb30 32 [.slice A11 n12 c13, .slice A15 n16 c17, .slice A20 n21 c22, .bool r9.ok], .own (.slice A15 n16 c17) 3 1 n16 (r9.parent.flatMap (eI .i64)), .own (.slice A20 n21 c22) 3 1 n21 (r9.end_.flatMap (eI .i64))]) 0 sz_39 rfl rfl rfl rfl rfl rfl rfl rfl rfl ?_) gn
        refine w_end 6 rfl ?_
        refine g_seq (c := tree_Text_c31) rfl ?_
        refine g_seq (c := tree_Text_c32) rfl ?_
        refine g_region (c := tree_Text_c34) rfl rfl ?_
        refine wl_v 0 rfl (v_move rfl) gn rfl ?_
        refine wl_v 1 rfl (v_bin rfl rfl rfl) gn rfl ?_
        refine w_end 2 rfl ?_
        have j2 : ∀ (x549 : Bool) (x550 : List Int) (h : tree_Text_j2 x1 x267 x262 r9 x549 x550 o1) (A551 : Option Addr) (n552 : Nat) (c553 : Nat) (h554 : Ow w.heap.size A551 n552 c553 x550), G (tree_Text_C w F r) [.code tree_Text_c33, .inBlock 1, .code tree_Text_c28, .inLoop tree_Text_c20, .inBlock 0, .code tree_Text_c16] [(3, .pointer (some ⟨gb30, 0, none⟩)), (4, .pointer (some ⟨gb33, 0, none⟩)), (5, .slice A263 n264 c265), (6, .int .i64 x267), (7, .pointer (some ⟨gb532, 0, none⟩)), (14, .slice A2 n3 c4), (15, .int .i64 (x1.length : Int)), (16, .int .i64 x267)] [.own (.slice A551 n552 c553) 5 1 n552 (x550.flatMap (eI .u8)), .box gb33 123 [selfP gb33 x549, .slice A551 n552 c553], .box gb532 39 [.string ((ix x1 x267).name), .bool ((ix x1 x267).named), .string ((ix x1 x267).field), .int .i64 ((ix x1 x267).from_), .int .i64 ((ix x1 x267).to), .int .i64 ((ix x1 x267).kids), .int .i64 ((ix x1 x267).leaf)], .own (.slice A263 n264 c265) 3 1 n264 (x262.flatMap (eI .i64)), .box gb30 32 [.slice A11 n12 c13, .slice A15 n16 c17, .slice A20 n21 c22, .bool r9.ok], .own (.slice A15 n16 c17) 3 1 n16 (r9.parent.flatMap (eI .i64)), .own (.slice A20 n21 c22) 3 1 n21 (r9.end_.flatMap (eI .i64))] [sv29, Sm w.heap.size F w [], St w []] := by
          intro x549 x550 h A551 n552 c553 h554
          unfold tree_Text_j2 at h
          refine g_seq (c := tree_Text_c33) rfl ?_
          refine g_seq (c := tree_Text_c38) rfl ?_
          refine g_region (c := tree_Text_c40) rfl rfl ?_
          refine wl_v 0 rfl (v_fldB fo_39_2 rfl) gn rfl ?_
          refine wl_v 1 rfl (v_ldB1 2 ld_9 rfl rfl rfl) gn rfl ?_
          refine wl_v 2 rfl (v_neS rfl rfl) gn rfl ?_
          refine w_end 3 rfl ?_
          have j3 : ∀ (x571 : Bool) (x572 : List Int) (h : tree_Text_j3 x1 x267 x262 r9 x571 x572 o1) (A573 : Option Addr) (n574 : Nat) (c575 : Nat) (h576 : Ow w.heap.size A573 n574 c575 x572), G (tree_Text_C w F r) [.code tree_Text_c39, .inBlock 1, .code tree_Text_c28, .inLoop tree_Text_c20, .inBlock 0, .code tree_Text_c16] [(3, .pointer (some ⟨gb30, 0, none⟩)), (4, .pointer (some ⟨gb33, 0, none⟩)), (5, .slice A263 n264 c265), (6, .int .i64 x267), (7, .pointer (some ⟨gb532, 0, none⟩)), (14, .slice A2 n3 c4), (15, .int .i64 (x1.length : Int)), (16, .int .i64 x267)] [.own (.slice A573 n574 c575) 5 1 n574 (x572.flatMap (eI .u8)), .box gb33 123 [selfP gb33 x571, .slice A573 n574 c575], .box gb532 39 [.string ((ix x1 x267).name), .bool ((ix x1 x267).named), .string ((ix x1 x267).field), .int .i64 ((ix x1 x267).from_), .int .i64 ((ix x1 x267).to), .int .i64 ((ix x1 x267).kids), .int .i64 ((ix x1 x267).leaf)], .own (.slice A263 n264 c265) 3 1 n264 (x262.flatMap (eI .i64)), .box gb30 32 [.slice A11 n12 c13, .slice A15 n16 c17, .slice A20 n21 c22, .bool r9.ok], .own (.slice A15 n16 c17) 3 1 n16 (r9.parent.flatMap (eI .i64)), .own (.slice A20 n21 c22) 3 1 n21 (r9.end_.flatMap (eI .i64))] [sv29, Sm w.heap.size F w [], St w []] := by
            intro x571 x572 h A573 n574 c575 h576
            unfold tree_Text_j3 at h
            refine g_seq (c := tree_Text_c39) rfl ?_
            refine g_region (c := tree_Text_c44) rfl rfl ?_
            refine wl_v 0 rfl (v_fldB fo_39_0 rfl) gn rfl ?_
            refine wl_v 1 rfl (v_ldB1 2 ld_9 rfl rfl rfl) gn rfl ?_
            refine wl_v 2 rfl (v_assign rfl) gn rfl ?_
            refine w_end 3 rfl ?_
            refine g_seq (c := tree_Text_c45) rfl ?_
            refine g_seq (c := tree_Text_c46) rfl ?_
            refine g_region (c := tree_Text_c48) rfl rfl ?_
            refine wl_v 0 rfl (v_fldB fo_39_1 rfl) gn rfl ?_
            refine wl_v 1 rfl (v_ldB1 2 ld_4 rfl rfl rfl) gn rfl ?_
            refine wl_v 2 rfl (v_not rfl) gn rfl ?_
            refine w_end 3 rfl ?_
            have j4 : ∀ (x587 : ByteArray) (h : tree_Text_j4 x1 x267 x571 x572 x262 r9 x587 o1) , G (tree_Text_C w F r) [.code tree_Text_c47, .inBlock 1, .code tree_Text_c28, .inLoop tree_Text_c20, .inBlock 0, .code tree_Text_c16] [(3, .pointer (some ⟨gb30, 0, none⟩)), (4, .pointer (some ⟨gb33, 0, none⟩)), (5, .slice A263 n264 c265), (6, .int .i64 x267), (7, .pointer (some ⟨gb532, 0, none⟩)), (8, .string x587), (14, .slice A2 n3 c4), (15, .int .i64 (x1.length : Int)), (16, .int .i64 x267)] [.own (.slice A573 n574 c575) 5 1 n574 (x572.flatMap (eI .u8)), .box gb33 123 [selfP gb33 x571, .slice A573 n574 c575], .box gb532 39 [.string ((ix x1 x267).name), .bool ((ix x1 x267).named), .string ((ix x1 x267).field), .int .i64 ((ix x1 x267).from_), .int .i64 ((ix x1 x267).to), .int .i64 ((ix x1 x267).kids), .int .i64 ((ix x1 x267).leaf)], .own (.slice A263 n264 c265) 3 1 n264 (x262.flatMap (eI .i64)), .box gb30 32 [.slice A11 n12 c13, .slice A15 n16 c17, .slice A20 n21 c22, .bool r9.ok], .own (.slice A15 n16 c17) 3 1 n16 (r9.parent.flatMap (eI .i64)), .own (.slice A20 n21 c22) 3 1 n21 (r9.end_.flatMap (eI .i64))] [sv29, Sm w.heap.size F w [], St w []] := by
              intro x587 h
              unfold tree_Text_j4 at h
              refine g_seq (c := tree_Text_c47) rfl ?_
              refine g_seq (c := tree_Text_c52) rfl ?_
              have j5 : ∀ (x590 : Bool) (h : tree_Text_j5 x571 x572 x262 x267 x587 r9 x590 o1) , G (tree_Text_C w F r) [.code tree_Text_c55, .code tree_Text_c53, .inBlock 1, .code tree_Text_c28, .inLoop tree_Text_c20, .inBlock 0, .code tree_Text_c16] [(3, .pointer (some ⟨gb30, 0, none⟩)), (4, .pointer (some ⟨gb33, 0, none⟩)), (5, .slice A263 n264 c265), (6, .int .i64 x267), (8, .string x587), (14, .slice A2 n3 c4), (15, .int .i64 (x1.length : Int)), (16, .int .i64 x267), (45, .bool x590)] [.own (.slice A573 n574 c575) 5 1 n574 (x572.flatMap (eI .u8)), .box gb33 123 [selfP gb33 x571, .slice A573 n574 c575], .own (.slice A263 n264 c265) 3 1 n264 (x262.flatMap (eI .i64)), .box gb30 32 [.slice A11 n12 c13, .slice A15 n16 c17, .slice A20 n21 c22, .bool r9.ok], .own (.slice A15 n16 c17) 3 1 n16 (r9.parent.flatMap (eI .i64)), .own (.slice A20 n21 c22) 3 1 n21 (r9.end_.flatMap (eI .i64))] [sv29, Sm w.heap.size F w [], St w []] := by
                intro x590 h
                unfold tree_Text_j5 at h
                have j6 : ∀ (x615 : List Int) (x620 : Bool) (x621 : List Int) (h : tree_Text_j6 x587 r9 x267 x615 x620 x621 o1) (A616 : Option Addr) (n617 : Nat) (c618 : Nat) (h619 : Ow w.heap.size A616 n617 c618 x615) (A622 : Option Addr) (n623 : Nat) (c624 : Nat) (h625 : Ow w.heap.size A622 n623 c624 x621), G (tree_Text_C w F r) [.code tree_Text_c53, .inBlock 1, .code tree_Text_c28, .inLoop tree_Text_c20, .inBlock 0, .code tree_Text_c16] [(3, .pointer (some ⟨gb30, 0, none⟩)), (4, .pointer (some ⟨gb33, 0, none⟩)), (5, .slice A616 n617 c618), (6, .int .i64 x267), (8, .string x587), (14, .slice A2 n3 c4), (15, .int .i64 (x1.length : Int)), (16, .int .i64 x267)] [.own (.slice A622 n623 c624) 5 1 n623 (x621.flatMap (eI .u8)), .box gb33 123 [selfP gb33 x620, .slice A622 n623 c624], .own (.slice A616 n617 c618) 3 1 n617 (x615.flatMap (eI .i64)), .box gb30 32 [.slice A11 n12 c13, .slice A15 n16 c17, .slice A20 n21 c22, .bool r9.ok], .own (.slice A15 n16 c17) 3 1 n16 (r9.parent.flatMap (eI .i64)), .own (.slice A20 n21 c22) 3 1 n21 (r9.end_.flatMap (eI .i64))] [sv29, Sm w.heap.size F w [], St w []] := by
                  intro x615 x620 x621 h A616 n617 c618 h619 A622 n623 c624 h625
                  unfold tree_Text_j6 at h
                  refine g_seq (c := tree_Text_c53) rfl ?_
                  refine g_region (c := tree_Text_c60) rfl rfl ?_
                  refine wl_v 0 rfl (v_move rfl) gn rfl ?_
                  obtain ⟨r629, hv630, h⟩ := h
                  refine wl_s 1 rfl (s_call [.pointer (some ⟨gb33, 0, none⟩), .string x587] rfl Try.func71 rfl rfl rfl fun w626 hL627 => ?_) gn
                  have hp628 : List.Perm ([.own (.slice A622 n623 c624) 5 1 n623 (x621.flatMap (eI .u8)), .box gb33 123 [selfP gb33 x620, .slice A622 n623 c624], .own (.slice A616 n617 c618) 3 1 n617 (x615.flatMap (eI .i64)), .box gb30 32 [.slice A11 n12 c13, .slice A15 n16 c17, .slice A20 n21 c22, .bool r9.ok], .own (.slice A15 n16 c17) 3 1 n16 (r9.parent.flatMap (eI .i64)), .own (.slice A20 n21 c22) 3 1 n21 (r9.end_.flatMap (eI .i64))] : List Ent) (([.box gb33 123 [selfP gb33 x620, .slice A622 n623 c624], .own (.slice A622 n623 c624) 5 1 n623 (x621.flatMap (eI .u8))] : List Ent) ++ ([.own (.slice A616 n617 c618) 3 1 n617 (x615.flatMap (eI .i64)), .box gb30 32 [.slice A11 n12 c13, .slice A15 n16 c17, .slice A20 n21 c22, .bool r9.ok], .own (.slice A15 n16 c17) 3 1 n16 (r9.parent.flatMap (eI .i64)), .own (.slice A20 n21 c22) 3 1 n21 (r9.end_.flatMap (eI .i64))] : List Ent)) := perm_of_idx [1, 0] [2, 3, 4, 5] rfl rfl (by kernel_rfl)
                  refine Calls.mono (strings_Builder_WriteString_calls w626 (Fl ([] : List Snap)) (⟨x620, x621⟩ : strings_Builder) x587 gb33 w.heap.size A622 n623 c624 hL627.env.size h625 (hL627.hFl (Sl := ([] : List Snap)) hp628 (sels [] rfl)) (hL627.into hp628 (Fl ([] : List Snap))) r629 hv630) ?_
                  rintro _ w636 ⟨A631, n632, c633, rfl, hM637, h634⟩
                  have hL638 := hL627.call hp628 hM637
                  refine ⟨_, _, _, rfl, hL638, ?_⟩
                  refine w_end 2 rfl ?_
                  refine g_block (c := tree_Text_c61) rfl ?_
                  refine g_loop (c := tree_Text_c62) rfl ?_
                  have key7 : ∀ s, Rounds (fun (s : (List Int) × Bool × (List Int)) o => tree_Text_b7 r9 x267 s.1 s.2.1 s.2.2 o) s o1 → (fun (s : (List Int) × Bool × (List Int)) => ∀ (A663 : Option Addr) (n664 : Nat) (c665 : Nat) (h666 : Ow w.heap.size A663 n664 c665 s.1) (A669 : Option Addr) (n670 : Nat) (c671 : Nat) (h672 : Ow w.heap.size A669 n670 c671 s.2.2), G (tree_Text_C w F r) [.code tree_Text_c63, .inLoop tree_Text_c63, .inBlock 2, .inBlock 1, .code tree_Text_c28, .inLoop tree_Text_c20, .inBlock 0, .code tree_Text_c16] [(3, .pointer (some ⟨gb30, 0, none⟩)), (4, .pointer (some ⟨gb33, 0, none⟩)), (5, .slice A663 n664 c665), (6, .int .i64 x267), (14, .slice A2 n3 c4), (15, .int .i64 (x1.length : Int)), (16, .int .i64 x267)] [.own (.slice A669 n670 c671) 5 1 n670 (s.2.2.flatMap (eI .u8)), .box gb33 123 [selfP gb33 s.2.1, .slice A669 n670 c671], .own (.slice A663 n664 c665) 3 1 n664 (s.1.flatMap (eI .i64)), .box gb30 32 [.slice A11 n12 c13, .slice A15 n16 c17, .slice A20 n21 c22, .bool r9.ok], .own (.slice A15 n16 c17) 3 1 n16 (r9.parent.flatMap (eI .i64)), .own (.slice A20 n21 c22) 3 1 n21 (r9.end_.flatMap (eI .i64))] [sv29, Sm w.heap.size F w [], St w []]) s := by
                    intro s hs
                    refine Rounds.ind (mot := (fun (s : (List Int) × Bool × (List Int)) => ∀ (A663 : Option Addr) (n664 : Nat) (c665 : Nat) (h666 : Ow w.heap.size A663 n664 c665 s.1) (A669 : Option Addr) (n670 : Nat) (c671 : Nat) (h672 : Ow w.heap.size A669 n670 c671 s.2.2), G (tree_Text_C w F r) [.code tree_Text_c63, .inLoop tree_Text_c63, .inBlock 2, .inBlock 1, .code tree_Text_c28, .inLoop tree_Text_c20, .inBlock 0, .code tree_Text_c16] [(3, .pointer (some ⟨gb30, 0, none⟩)), (4, .pointer (some ⟨gb33, 0, none⟩)), (5, .slice A663 n664 c665), (6, .int .i64 x267), (14, .slice A2 n3 c4), (15, .int .i64 (x1.length : Int)), (16, .int .i64 x267)] [.own (.slice A669 n670 c671) 5 1 n670 (s.2.2.flatMap (eI .u8)), .box gb33 123 [selfP gb33 s.2.1, .slice A669 n670 c671], .own (.slice A663 n664 c665) 3 1 n664 (s.1.flatMap (eI .i64)), .box gb30 32 [.slice A11 n12 c13, .slice A15 n16 c17, .slice A20 n21 c22, .bool r9.ok], .own (.slice A15 n16 c17) 3 1 n16 (r9.parent.flatMap (eI .i64)), .own (.slice A20 n21 c22) 3 1 n21 (r9.end_.flatMap (eI .i64))] [sv29, Sm w.heap.size F w [], St w []])) ?_ hs
                    clear hs s
                    intro s o2 h hO2
                    obtain ⟨x662, x667, x668⟩ := s
                    show ∀ (A663 : Option Addr) (n664 : Nat) (c665 : Nat) (h666 : Ow w.heap.size A663 n664 c665 x662) (A669 : Option Addr) (n670 : Nat) (c671 : Nat) (h672 : Ow w.heap.size A669 n670 c671 x668), G (tree_Text_C w F r) [.code tree_Text_c63, .inLoop tree_Text_c63, .inBlock 2, .inBlock 1, .code tree_Text_c28, .inLoop tree_Text_c20, .inBlock 0, .code tree_Text_c16] [(3, .pointer (some ⟨gb30, 0, none⟩)), (4, .pointer (some ⟨gb33, 0, none⟩)), (5, .slice A663 n664 c665), (6, .int .i64 x267), (14, .slice A2 n3 c4), (15, .int .i64 (x1.length : Int)), (16, .int .i64 x267)] [.own (.slice A669 n670 c671) 5 1 n670 (x668.flatMap (eI .u8)), .box gb33 123 [selfP gb33 x667, .slice A669 n670 c671], .own (.slice A663 n664 c665) 3 1 n664 (x662.flatMap (eI .i64)), .box gb30 32 [.slice A11 n12 c13, .slice A15 n16 c17, .slice A20 n21 c22, .bool r9.ok], .own (.slice A15 n16 c17) 3 1 n16 (r9.parent.flatMap (eI .i64)), .own (.slice A20 n21 c22) 3 1 n21 (r9.end_.flatMap (eI .i64))] [sv29, Sm w.heap.size F w [], St w []]
                    intro A663 n664 c665 h666 A669 n670 c671 h672
                    have h : tree_Text_b7 r9 x267 x662 x667 x668 o2 := h
                    unfold tree_Text_b7 at h
                    refine g_seq (c := tree_Text_c63) rfl ?_
                    refine g_seq (c := tree_Text_c64) rfl ?_
                    by_cases hp695 : (x662.length : Int) > 0
                    · have h := if_pos' hp695 h
                      obtain ⟨hb696, h⟩ := h
                      obtain ⟨hb697, h⟩ := h
                      have hns : Region.noSelect (Code.ops tree_Text_c66) = true := by kernel_rfl
                      refine g_drawF (c := tree_Text_c66) [.own (.slice A669 n670 c671) 5 1 n670 (x668.flatMap (eI .u8)), .box gb33 123 [selfP gb33 x667, .slice A669 n670 c671], .own (.slice A663 n664 c665) 3 1 n664 (x662.flatMap (eI .i64)), .box gb30 32 [.slice A11 n12 c13, .slice A15 n16 c17, .slice A20 n21 c22, .bool r9.ok], .own (.slice A15 n16 c17) 3 1 n16 (r9.parent.flatMap (eI .i64)), .own (.slice A20 n21 c22) 3 1 n21 (r9.end_.flatMap (eI .i64))] [sv29, Sm w.heap.size F w [], St w []] [] 18 rfl rfl mix rfl (.cons_cons _ (.cons_cons _ (.cons_cons _ (.cons_cons _ (.cons_cons _ (.cons_cons _ (.slnil))))))) (sels [0, 1, 2] rfl) ?_
                      refine wf_v 0 rfl (v_move rfl) gn rfl hns (by kernel_rfl) (by kernel_rfl) rfl rfl ?_
                      refine wf_v 1 rfl (v_lenQ un_23 rfl h666.hq) gn rfl hns (by kernel_rfl) (by kernel_rfl) rfl rfl ?_
                      refine wf_v 2 rfl (v_bin rfl rfl rfl) gn rfl hns (by kernel_rfl) (by kernel_rfl) rfl rfl ?_
                      refine wf_v 3 rfl (v_move rfl) gn rfl hns (by kernel_rfl) (by kernel_rfl) rfl rfl ?_
                      refine wf_bool 56 rfl ((decide_eq_true hp695)) ?_
                      refine wf_v 4 rfl (v_fldB fo_32_2 rfl) (gy 56 rfl rfl) rfl hns (by kernel_rfl) (by kernel_rfl) rfl rfl ?_
                      refine wf_v 5 rfl (v_ldB1 3 ld_23 rfl rfl rfl) (gy 56 rfl rfl) rfl hns (by kernel_rfl) (by kernel_rfl) rfl rfl ?_
                      refine wf_v 6 rfl (v_move rfl) (gy 56 rfl rfl) rfl hns (by kernel_rfl) (by kernel_rfl) rfl rfl ?_
                      refine wf_v 7 rfl (v_move rfl) (gy 56 rfl rfl) rfl hns (by kernel_rfl) (by kernel_rfl) rfl rfl ?_
                      refine wf_v 8 rfl (v_lenQ un_23 rfl h666.hq) (gy 56 rfl rfl) rfl hns (by kernel_rfl) (by kernel_rfl) rfl rfl ?_
                      refine wf_v 9 rfl (v_bin rfl rfl rfl) (gy 56 rfl rfl) rfl hns (by kernel_rfl) (by kernel_rfl) rfl rfl ?_
                      refine wf_v 10 rfl (v_idxO slE_23 rfl rfl h666 hb696) (gy 56 rfl rfl) rfl hns (by kernel_rfl) (by kernel_rfl) rfl rfl ?_
                      refine wf_v 11 rfl (v_ldO1 (.int .i64 (ix x662 (w64 ((x662.length : Int) - 1)))) 2 ld_3 rfl rfl (fm_get0 (hlI .i64) hb696 rfl)) (gy 56 rfl rfl) rfl hns (by kernel_rfl) (by kernel_rfl) rfl rfl ?_
                      refine wf_v 12 rfl (v_idxO slE_23 rfl rfl (Ow.weak hL7.env.size h23) hb697) (gy 56 rfl rfl) rfl hns (by kernel_rfl) (by kernel_rfl) rfl rfl ?_
                      refine wf_v 13 rfl (v_ldO1 (.int .i64 (ix r9.end_ (ix x662 (w64 ((x662.length : Int) - 1))))) 5 ld_3 rfl rfl (fm_get0 (hlI .i64) hb697 rfl)) (gy 56 rfl rfl) rfl hns (by kernel_rfl) (by kernel_rfl) rfl rfl ?_
                      refine wf_v 14 rfl (v_move rfl) (gy 56 rfl rfl) rfl hns (by kernel_rfl) (by kernel_rfl) rfl rfl ?_
                      refine wf_v 15 rfl (v_bin rfl rfl rfl) (gy 56 rfl rfl) rfl hns (by kernel_rfl) (by kernel_rfl) rfl rfl ?_
                      refine wf_v 16 rfl (v_bin rfl rfl rfl) (gy 56 rfl rfl) rfl hns (by kernel_rfl) (by kernel_rfl) rfl rfl ?_
                      refine wf_v 17 rfl (v_pick (b := true) rfl rfl) gn rfl hns (by kernel_rfl) (by kernel_rfl) rfl rfl ?_
                      refine wf_end (by kernel_rfl) ?_
                      by_cases hp698 : ix r9.end_ (ix x662 (w64 ((x662.length : Int) - 1))) = w64 (x267 + 1)
                      · have h := if_pos' hp698 h
                        refine g_true (c := tree_Text_c67) rfl _ rfl ((eqi hp698)) ?_
                        refine g_skip (c := tree_Text_c68) rfl ?_
                        refine g_block (c := tree_Text_c65) rfl ?_
                        refine g_seq (c := tree_Text_c70) rfl ?_
                        refine g_region (c := tree_Text_c71) rfl rfl ?_
                        obtain ⟨r702, hv703, h⟩ := h
                        refine wl_s 0 rfl (s_call [.pointer (some ⟨gb33, 0, none⟩), .int .u8 41] rfl Try.func70 rfl rfl rfl fun w699 hL700 => ?_) gn
                        have hp701 : List.Perm ([.own (.slice A669 n670 c671) 5 1 n670 (x668.flatMap (eI .u8)), .box gb33 123 [selfP gb33 x667, .slice A669 n670 c671], .own (.slice A663 n664 c665) 3 1 n664 (x662.flatMap (eI .i64)), .box gb30 32 [.slice A11 n12 c13, .slice A15 n16 c17, .slice A20 n21 c22, .bool r9.ok], .own (.slice A15 n16 c17) 3 1 n16 (r9.parent.flatMap (eI .i64)), .own (.slice A20 n21 c22) 3 1 n21 (r9.end_.flatMap (eI .i64))] : List Ent) (([.box gb33 123 [selfP gb33 x667, .slice A669 n670 c671], .own (.slice A669 n670 c671) 5 1 n670 (x668.flatMap (eI .u8))] : List Ent) ++ ([.own (.slice A663 n664 c665) 3 1 n664 (x662.flatMap (eI .i64)), .box gb30 32 [.slice A11 n12 c13, .slice A15 n16 c17, .slice A20 n21 c22, .bool r9.ok], .own (.slice A15 n16 c17) 3 1 n16 (r9.parent.flatMap (eI .i64)), .own (.slice A20 n21 c22) 3 1 n21 (r9.end_.flatMap (eI .i64))] : List Ent)) := perm_of_idx [1, 0] [2, 3, 4, 5] rfl rfl (by kernel_rfl)
                        refine Calls.mono (strings_Builder_WriteByte_calls w699 (Fl ([] : List Snap)) (⟨x667, x668⟩ : strings_Builder) 41 gb33 w.heap.size A669 n670 c671 hL700.env.size h672 (hL700.hFl (Sl := ([] : List Snap)) hp701 (sels [] rfl)) (hL700.into hp701 (Fl ([] : List Snap))) r702 hv703) ?_
                        rintro _ w709 ⟨A704, n705, c706, rfl, hM710, h707⟩
                        have hL711 := hL700.call hp701 hM710
                        refine ⟨_, _, _, rfl, hL711, ?_⟩
                        refine w_end 1 rfl ?_
                        refine g_region (c := tree_Text_c72) rfl rfl ?_
                        refine wl_v 0 rfl (v_move rfl) gn rfl ?_
                        refine wl_v 1 rfl (v_move rfl) gn rfl ?_
                        refine wl_v 2 rfl (v_lenQ un_23 rfl h666.hq) gn rfl ?_
                        refine wl_v 3 rfl (v_bin rfl rfl rfl) gn rfl ?_
                        obtain ⟨hb712, h⟩ := h
                        obtain ⟨x714, hv715, h⟩ := h
                        have hle713 : (w64 ((x662.length : Int) - 1) : Int).toNat ≤ n664 := by have q := hb712; have q1 := h666.hq; omega
                        have h716 : Ow w.heap.size A663 (w64 ((x662.length : Int) - 1) : Int).toNat c665 x714 := Ow.w (Ow.cut h666 hle713) (by rw [hv715])
                        refine wl_v 4 rfl (v_cutHi (i := w64 ((x662.length : Int) - 1)) slE_23 rfl rfl (by have q := hb712; have q1 := h666.hq; have q2 := h666.hn; omega) h666.hn rfl) gn rfl ?_
                        refine wl_v 5 rfl (v_assign rfl) gn rfl ?_
                        refine w_end 6 rfl ?_
                        refine g_inBlock ?_
                        refine g_inLoop ?_
                        have h717 : Ow w.heap.size A663 ((w64 ((x662.length : Int) - 1) : Int).toNat) c665 x714 := (Ow.w (Ow.cut h666 hle713) (by rw [hv715]))
                        refine g_short (j := 2) (m := ((w64 ((x662.length : Int) - 1) : Int).toNat)) (cells' := x714.flatMap (eI .i64)) rfl hle713 (by rw [fm_take (hlI .i64), hv715]) ?_
                        refine g_front 5 rfl ?_
                        refine g_front 5 rfl ?_
                        refine g_front 5 rfl ?_
                        refine g_front 5 rfl ?_
                        refine g_front 4 rfl ?_
                        refine g_front 5 rfl ?_
                        have ih := Out.inl hO2 h
                        exact g_go [0, 1, 2] (ih A663 ((w64 ((x662.length : Int) - 1) : Int).toNat) c665 h717 A704 n705 c706 h707) ⟨rfl, rfl, rfl, rfl, rfl, rfl, rfl, trivial⟩ (.cons_cons _ (.cons_cons _ (.cons_cons _ (.cons_cons _ (.cons_cons _ (.cons_cons _ (.slnil))))))) rfl
                      · have h := if_neg' hp698 h
                        refine g_false (c := tree_Text_c67) rfl _ rfl ((nei hp698)) ?_
                        refine g_exit (c := tree_Text_c69) [.inBlock 1, .code tree_Text_c28, .inLoop tree_Text_c20, .inBlock 0, .code tree_Text_c16] rfl rfl ?_
                        refine g_inBlock ?_
                        refine g_region (c := tree_Text_c28) rfl rfl ?_
                        refine wl_v 0 rfl (v_bin rfl rfl rfl) gn rfl ?_
                        refine wl_v 1 rfl (v_move rfl) gn rfl ?_
                        refine w_end 2 rfl ?_
                        refine g_inLoop ?_
                        refine g_front 5 rfl ?_
                        refine g_front 5 rfl ?_
                        refine g_front 5 rfl ?_
                        refine g_front 4 rfl ?_
                        refine g_front 4 rfl ?_
                        refine g_front 5 rfl ?_
                        have h := Out.inr hO2 h
                        have ih := Out.inl hO1 h
                        exact g_go [0, 1, 2] (ih A663 n664 c665 h666 A669 n670 c671 h672) ⟨rfl, rfl, rfl, rfl, rfl, rfl, trivial⟩ (.cons_cons _ (.cons_cons _ (.cons_cons _ (.cons_cons _ (.cons_cons _ (.cons_cons _ (.slnil))))))) rfl
                    · have h := if_neg' hp695 h
                      have hns : Region.noSelect (Code.ops tree_Text_c66) = true := by kernel_rfl
                      refine g_drawF (c := tree_Text_c66) [.own (.slice A669 n670 c671) 5 1 n670 (x668.flatMap (eI .u8)), .box gb33 123 [selfP gb33 x667, .slice A669 n670 c671], .own (.slice A663 n664 c665) 3 1 n664 (x662.flatMap (eI .i64)), .box gb30 32 [.slice A11 n12 c13, .slice A15 n16 c17, .slice A20 n21 c22, .bool r9.ok], .own (.slice A15 n16 c17) 3 1 n16 (r9.parent.flatMap (eI .i64)), .own (.slice A20 n21 c22) 3 1 n21 (r9.end_.flatMap (eI .i64))] [sv29, Sm w.heap.size F w [], St w []] [] 18 rfl rfl mix rfl (.cons_cons _ (.cons_cons _ (.cons_cons _ (.cons_cons _ (.cons_cons _ (.cons_cons _ (.slnil))))))) (sels [0, 1, 2] rfl) ?_
                      refine wf_v 0 rfl (v_move rfl) gn rfl hns (by kernel_rfl) (by kernel_rfl) rfl rfl ?_
                      refine wf_v 1 rfl (v_lenQ un_23 rfl h666.hq) gn rfl hns (by kernel_rfl) (by kernel_rfl) rfl rfl ?_
                      refine wf_v 2 rfl (v_bin rfl rfl rfl) gn rfl hns (by kernel_rfl) (by kernel_rfl) rfl rfl ?_
                      refine wf_v 3 rfl (v_move rfl) gn rfl hns (by kernel_rfl) (by kernel_rfl) rfl rfl ?_
                      refine wf_bool 56 rfl ((decide_eq_false hp695)) ?_
                      refine wf_pass 4 rfl (ps 56 rfl rfl rfl) hns (by kernel_rfl) (by kernel_rfl) rfl rfl ?_
                      refine wf_pass 5 rfl (ps 56 rfl rfl rfl) hns (by kernel_rfl) (by kernel_rfl) rfl rfl ?_
                      refine wf_pass 6 rfl (ps 56 rfl rfl rfl) hns (by kernel_rfl) (by kernel_rfl) rfl rfl ?_
                      refine wf_pass 7 rfl (ps 56 rfl rfl rfl) hns (by kernel_rfl) (by kernel_rfl) rfl rfl ?_
                      refine wf_pass 8 rfl (ps 56 rfl rfl rfl) hns (by kernel_rfl) (by kernel_rfl) rfl rfl ?_
                      refine wf_pass 9 rfl (ps 56 rfl rfl rfl) hns (by kernel_rfl) (by kernel_rfl) rfl rfl ?_
                      refine wf_pass 10 rfl (ps 56 rfl rfl rfl) hns (by kernel_rfl) (by kernel_rfl) rfl rfl ?_
                      refine wf_pass 11 rfl (ps 56 rfl rfl rfl) hns (by kernel_rfl) (by kernel_rfl) rfl rfl ?_
                      refine wf_pass 12 rfl (ps 56 rfl rfl rfl) hns (by kernel_rfl) (by kernel_rfl) rfl rfl ?_
                      refine wf_pass 13 rfl (ps 56 rfl rfl rfl) hns (by kernel_rfl) (by kernel_rfl) rfl rfl ?_
                      refine wf_pass 14 rfl (ps 56 rfl rfl rfl) hns (by kernel_rfl) (by kernel_rfl) rfl rfl ?_
                      refine wf_pass 15 rfl (ps 56 rfl rfl rfl) hns (by kernel_rfl) (by kernel_rfl) rfl rfl ?_
                      refine wf_pass 16 rfl (ps 56 rfl rfl rfl) hns (by kernel_rfl) (by kernel_rfl) rfl rfl ?_
                      refine wf_v 17 rfl (v_pick (b := false) rfl rfl) gn rfl hns (by kernel_rfl) (by kernel_rfl) rfl rfl ?_
                      refine wf_end (by kernel_rfl) ?_
                      refine g_false (c := tree_Text_c67) rfl _ rfl (rfl) ?_
                      refine g_exit (c := tree_Text_c69) [.inBlock 1, .code tree_Text_c28, .inLoop tree_Text_c20, .inBlock 0, .code tree_Text_c16] rfl rfl ?_
                      refine g_inBlock ?_
                      refine g_region (c := tree_Text_c28) rfl rfl ?_
                      refine wl_v 0 rfl (v_bin rfl rfl rfl) gn rfl ?_
                      refine wl_v 1 rfl (v_move rfl) gn rfl ?_
                      refine w_end 2 rfl ?_
                      refine g_inLoop ?_
                      refine g_front 5 rfl ?_
                      refine g_front 5 rfl ?_
                      refine g_front 5 rfl ?_
                      refine g_front 4 rfl ?_
                      refine g_front 4 rfl ?_
                      refine g_front 5 rfl ?_
                      have h := Out.inr hO2 h
                      have ih := Out.inl hO1 h
                      exact g_go [0, 1, 2] (ih A663 n664 c665 h666 A669 n670 c671 h672) ⟨rfl, rfl, rfl, rfl, rfl, rfl, trivial⟩ (.cons_cons _ (.cons_cons _ (.cons_cons _ (.cons_cons _ (.cons_cons _ (.cons_cons _ (.slnil))))))) rfl
                  refine g_front 5 rfl ?_
                  refine g_front 5 rfl ?_
                  refine g_front 5 rfl ?_
                  refine g_front 5 rfl ?_
                  refine g_front 4 rfl ?_
                  refine g_front 5 rfl ?_
                  exact g_go [0, 1, 2] (key7 _ h A616 n617 c618 h619 A631 n632 c633 h634) ⟨rfl, rfl, rfl, rfl, rfl, rfl, rfl, trivial⟩ (.cons_cons _ (.cons_cons _ (.cons_cons _ (.cons_cons _ (.cons_cons _ (.cons_cons _ (.slnil))))))) rfl
                by_cases hp591 : x590 = true
                · have h := if_pos' hp591 h
                  refine g_true (c := tree_Text_c55) rfl _ rfl (hp591) ?_
                  refine g_seq (c := tree_Text_c56) rfl ?_
                  refine g_region (c := tree_Text_c58) rfl rfl ?_
                  obtain ⟨r721, hv722, h⟩ := h
                  refine wl_s 0 rfl (s_call [.pointer (some ⟨gb33, 0, none⟩), .int .u8 40] rfl Try.func70 rfl rfl rfl fun w718 hL719 => ?_) gn
                  have hp720 : List.Perm ([.own (.slice A573 n574 c575) 5 1 n574 (x572.flatMap (eI .u8)), .box gb33 123 [selfP gb33 x571, .slice A573 n574 c575], .own (.slice A263 n264 c265) 3 1 n264 (x262.flatMap (eI .i64)), .box gb30 32 [.slice A11 n12 c13, .slice A15 n16 c17, .slice A20 n21 c22, .bool r9.ok], .own (.slice A15 n16 c17) 3 1 n16 (r9.parent.flatMap (eI .i64)), .own (.slice A20 n21 c22) 3 1 n21 (r9.end_.flatMap (eI .i64))] : List Ent) (([.box gb33 123 [selfP gb33 x571, .slice A573 n574 c575], .own (.slice A573 n574 c575) 5 1 n574 (x572.flatMap (eI .u8))] : List Ent) ++ ([.own (.slice A263 n264 c265) 3 1 n264 (x262.flatMap (eI .i64)), .box gb30 32 [.slice A11 n12 c13, .slice A15 n16 c17, .slice A20 n21 c22, .bool r9.ok], .own (.slice A15 n16 c17) 3 1 n16 (r9.parent.flatMap (eI .i64)), .own (.slice A20 n21 c22) 3 1 n21 (r9.end_.flatMap (eI .i64))] : List Ent)) := perm_of_idx [1, 0] [2, 3, 4, 5] rfl rfl (by kernel_rfl)
                  refine Calls.mono (strings_Builder_WriteByte_calls w718 (Fl ([] : List Snap)) (⟨x571, x572⟩ : strings_Builder) 40 gb33 w.heap.size A573 n574 c575 hL719.env.size h576 (hL719.hFl (Sl := ([] : List Snap)) hp720 (sels [] rfl)) (hL719.into hp720 (Fl ([] : List Snap))) r721 hv722) ?_
                  rintro _ w728 ⟨A723, n724, c725, rfl, hM729, h726⟩
                  have hL730 := hL719.call hp720 hM729
                  refine ⟨_, _, _, rfl, hL730, ?_⟩
                  refine w_end 1 rfl ?_
                  refine g_region (c := tree_Text_c59) rfl rfl ?_
                  refine wl_v 0 rfl (v_move rfl) gn rfl ?_
                  refine wl_v 1 rfl (v_move rfl) gn rfl ?_
                  refine wl_s 2 rfl (s_litO (xs := ([x267] : List Int)) [.int .i64 x267] bs_23_1 rfl (by kernel_rfl) rfl rfl rfl rfl fun gb732 h733 => ?_) gn
                  obtain ⟨x737, hv738, h⟩ := h
                  obtain ⟨hb739, h⟩ := h
                  refine wl_s 3 rfl (s_app (zs := x737) (cells' := x737.flatMap (eI .i64)) 3 ap_23 rfl rfl rfl h266 (Nat.le_refl _) (Src.ownF (hl := (hlI .i64)) (h1 := (hone_int .i64)) 0 rfl h733) (by rw [hv738, List.flatMap_append] <;> rfl) (app_len hv738 h733.hq) hb739 rfl rfl fun A734 c735 h736 => ?_) gn
                  refine wl_v 4 rfl (v_assign rfl) gn rfl ?_
                  refine w_end 5 rfl ?_
                  refine g_front 6 rfl ?_
                  refine g_front 6 rfl ?_
                  refine g_front 6 rfl ?_
                  refine g_front 6 rfl ?_
                  refine g_front 5 rfl ?_
                  refine g_front 6 rfl ?_
                  exact g_go [0, 1, 2] (j6 x737 r721.addr r721.buf h A734 (n264 + 1) c735 h736 A723 n724 c725 h726) ⟨rfl, rfl, rfl, rfl, rfl, rfl, rfl, rfl, trivial⟩ (.cons_cons _ (.cons_cons _ (.cons_cons _ (.cons_cons _ (.cons_cons _ (.cons_cons _ (.cons _ (.slnil)))))))) rfl
                · have h := if_neg' hp591 h
                  refine g_false (c := tree_Text_c55) rfl _ rfl ((bf hp591)) ?_
                  refine g_skip (c := tree_Text_c57) rfl ?_
                  exact g_go [0, 1, 2] (j6 x262 x571 x572 h A263 n264 c265 h266 A573 n574 c575 h576) ⟨rfl, rfl, rfl, rfl, rfl, rfl, rfl, rfl, trivial⟩ (.cons_cons _ (.cons_cons _ (.cons_cons _ (.cons_cons _ (.cons_cons _ (.cons_cons _ (.slnil))))))) rfl
              refine g_region (c := tree_Text_c54) rfl rfl ?_
              refine wl_v 0 rfl (v_fldB fo_39_1 rfl) gn rfl ?_
              refine wl_v 1 rfl (v_ldB1 2 ld_4 rfl rfl rfl) gn rfl ?_
              refine wl_v 2 rfl (v_move rfl) gn rfl ?_
              by_cases hp740 : ((ix x1 x267).named) = true
              · have h := if_pos' hp740 h
                refine w_bool 41 rfl (hp740) ?_
                refine wl_pass 3 rfl (ps 41 rfl rfl rfl) ?_
                refine wl_pass 4 rfl (ps 41 rfl rfl rfl) ?_
                refine wl_pass 5 rfl (ps 41 rfl rfl rfl) ?_
                refine wl_v 6 rfl (v_pick (b := true) rfl rfl) gn rfl ?_
                refine w_end 7 rfl ?_
                exact g_go [0, 1, 2] (j5 true h) ⟨rfl, rfl, rfl, rfl, rfl, rfl, rfl, rfl, rfl, trivial⟩ (.cons_cons _ (.cons_cons _ (.cons _ (.cons_cons _ (.cons_cons _ (.cons_cons _ (.cons_cons _ (.slnil)))))))) rfl
              · have h := if_neg' hp740 h
                refine w_bool 41 rfl ((bf hp740)) ?_
                refine wl_v 3 rfl (v_fldB fo_39_5 rfl) (gy 41 rfl rfl) rfl ?_
                refine wl_v 4 rfl (v_ldB1 2 ld_3 rfl rfl rfl) (gy 41 rfl rfl) rfl ?_
                refine wl_v 5 rfl (v_bin rfl rfl rfl) (gy 41 rfl rfl) rfl ?_
                refine wl_v 6 rfl (v_pick (b := false) rfl rfl) gn rfl ?_
                refine w_end 7 rfl ?_
                exact g_go [0, 1, 2] (j5 (decide ((ix x1 x267).kids > 0)) h) ⟨rfl, rfl, rfl, rfl, rfl, rfl, rfl, rfl, rfl, trivial⟩ (.cons_cons _ (.cons_cons _ (.cons _ (.cons_cons _ (.cons_cons _ (.cons_cons _ (.cons_cons _ (.slnil)))))))) rfl
            by_cases hp577 : ((ix x1 x267).named) = true
            · have h := if_pos' hp577 h
              refine g_false (c := tree_Text_c49) rfl _ rfl ((nf hp577)) ?_
              refine g_skip (c := tree_Text_c51) rfl ?_
              exact g_go [0, 1, 2] (j4 ((ix x1 x267).name) h) ⟨rfl, rfl, rfl, rfl, rfl, rfl, rfl, rfl, rfl, trivial⟩ (.cons_cons _ (.cons_cons _ (.cons_cons _ (.cons_cons _ (.cons_cons _ (.cons_cons _ (.cons_cons _ (.slnil)))))))) rfl
            · have h := if_neg' hp577 h
              refine g_true (c := tree_Text_c49) rfl _ rfl ((nt (bf hp577))) ?_
              refine g_region (c := tree_Text_c50) rfl rfl ?_
              refine wl_v 0 rfl (v_fldB fo_39_0 rfl) gn rfl ?_
              refine wl_v 1 rfl (v_ldB1 2 ld_9 rfl rfl rfl) gn rfl ?_
              obtain ⟨r744, hv745, h⟩ := h
              refine wl_s 2 rfl (s_call [.string ((ix x1 x267).name)] rfl Try.func72 rfl rfl rfl fun w741 hL742 => ?_) gn
              have hp743 : List.Perm ([.own (.slice A573 n574 c575) 5 1 n574 (x572.flatMap (eI .u8)), .box gb33 123 [selfP gb33 x571, .slice A573 n574 c575], .box gb532 39 [.string ((ix x1 x267).name), .bool ((ix x1 x267).named), .string ((ix x1 x267).field), .int .i64 ((ix x1 x267).from_), .int .i64 ((ix x1 x267).to), .int .i64 ((ix x1 x267).kids), .int .i64 ((ix x1 x267).leaf)], .own (.slice A263 n264 c265) 3 1 n264 (x262.flatMap (eI .i64)), .box gb30 32 [.slice A11 n12 c13, .slice A15 n16 c17, .slice A20 n21 c22, .bool r9.ok], .own (.slice A15 n16 c17) 3 1 n16 (r9.parent.flatMap (eI .i64)), .own (.slice A20 n21 c22) 3 1 n21 (r9.end_.flatMap (eI .i64))] : List Ent) (([] : List Ent) ++ ([.own (.slice A573 n574 c575) 5 1 n574 (x572.flatMap (eI .u8)), .box gb33 123 [selfP gb33 x571, .slice A573 n574 c575], .box gb532 39 [.string ((ix x1 x267).name), .bool ((ix x1 x267).named), .string ((ix x1 x267).field), .int .i64 ((ix x1 x267).from_), .int .i64 ((ix x1 x267).to), .int .i64 ((ix x1 x267).kids), .int .i64 ((ix x1 x267).leaf)], .own (.slice A263 n264 c265) 3 1 n264 (x262.flatMap (eI .i64)), .box gb30 32 [.slice A11 n12 c13, .slice A15 n16 c17, .slice A20 n21 c22, .bool r9.ok], .own (.slice A15 n16 c17) 3 1 n16 (r9.parent.flatMap (eI .i64)), .own (.slice A20 n21 c22) 3 1 n21 (r9.end_.flatMap (eI .i64))] : List Ent)) := perm_of_idx [] [0, 1, 2, 3, 4, 5, 6] rfl rfl (by kernel_rfl)
              refine Calls.mono (tree_quoted_calls w741 (Fl ([] : List Snap)) ((ix x1 x267).name) (hL742.hFl (Sl := ([] : List Snap)) hp743 (sels [] rfl)) (hL742.into hp743 (Fl ([] : List Snap))) r744 hv745) ?_
              rintro _ w746 ⟨rfl, hM747⟩
              have hL748 := hL742.call hp743 hM747
              refine ⟨_, _, _, rfl, hL748, ?_⟩
              refine wl_v 3 rfl (v_assign rfl) gn rfl ?_
              refine w_end 4 rfl ?_
              exact g_go [0, 1, 2] (j4 r744 h) ⟨rfl, rfl, rfl, rfl, rfl, rfl, rfl, rfl, rfl, trivial⟩ (.cons_cons _ (.cons_cons _ (.cons_cons _ (.cons_cons _ (.cons_cons _ (.cons_cons _ (.cons_cons _ (.slnil)))))))) rfl
          by_cases hp555 : (ix x1 x267).field = (⟨#[]⟩ : ByteArray)
          · have h := if_pos' hp555 h
            refine g_false (c := tree_Text_c41) rfl _ rfl ((nf (seq_t hp555))) ?_
            refine g_skip (c := tree_Text_c43) rfl ?_
            exact g_go [0, 1, 2] (j3 x549 x550 h A551 n552 c553 h554) ⟨rfl, rfl, rfl, rfl, rfl, rfl, rfl, rfl, trivial⟩ (.cons_cons _ (.cons_cons _ (.cons_cons _ (.cons_cons _ (.cons_cons _ (.cons_cons _ (.cons_cons _ (.slnil)))))))) rfl
          · have h := if_neg' hp555 h
            refine g_true (c := tree_Text_c41) rfl _ rfl ((nt (seq_f hp555))) ?_
            refine g_region (c := tree_Text_c42) rfl rfl ?_
            refine wl_v 0 rfl (v_fldB fo_39_2 rfl) gn rfl ?_
            refine wl_v 1 rfl (v_ldB1 2 ld_9 rfl rfl rfl) gn rfl ?_
            obtain ⟨hb749, h⟩ := h
            refine wl_v 2 rfl (v_catS rfl rfl hb749) gn rfl ?_
            obtain ⟨r753, hv754, h⟩ := h
            refine wl_s 3 rfl (s_call [.pointer (some ⟨gb33, 0, none⟩), .string (((ix x1 x267).field) ++ (⟨#[58, 32]⟩ : ByteArray))] rfl Try.func71 rfl rfl rfl fun w750 hL751 => ?_) gn
            have hp752 : List.Perm ([.own (.slice A551 n552 c553) 5 1 n552 (x550.flatMap (eI .u8)), .box gb33 123 [selfP gb33 x549, .slice A551 n552 c553], .box gb532 39 [.string ((ix x1 x267).name), .bool ((ix x1 x267).named), .string ((ix x1 x267).field), .int .i64 ((ix x1 x267).from_), .int .i64 ((ix x1 x267).to), .int .i64 ((ix x1 x267).kids), .int .i64 ((ix x1 x267).leaf)], .own (.slice A263 n264 c265) 3 1 n264 (x262.flatMap (eI .i64)), .box gb30 32 [.slice A11 n12 c13, .slice A15 n16 c17, .slice A20 n21 c22, .bool r9.ok], .own (.slice A15 n16 c17) 3 1 n16 (r9.parent.flatMap (eI .i64)), .own (.slice A20 n21 c22) 3 1 n21 (r9.end_.flatMap (eI .i64))] : List Ent) (([.box gb33 123 [selfP gb33 x549, .slice A551 n552 c553], .own (.slice A551 n552 c553) 5 1 n552 (x550.flatMap (eI .u8))] : List Ent) ++ ([.box gb532 39 [.string ((ix x1 x267).name), .bool ((ix x1 x267).named), .string ((ix x1 x267).field), .int .i64 ((ix x1 x267).from_), .int .i64 ((ix x1 x267).to), .int .i64 ((ix x1 x267).kids), .int .i64 ((ix x1 x267).leaf)], .own (.slice A263 n264 c265) 3 1 n264 (x262.flatMap (eI .i64)), .box gb30 32 [.slice A11 n12 c13, .slice A15 n16 c17, .slice A20 n21 c22, .bool r9.ok], .own (.slice A15 n16 c17) 3 1 n16 (r9.parent.flatMap (eI .i64)), .own (.slice A20 n21 c22) 3 1 n21 (r9.end_.flatMap (eI .i64))] : List Ent)) := perm_of_idx [1, 0] [2, 3, 4, 5, 6] rfl rfl (by kernel_rfl)
            refine Calls.mono (strings_Builder_WriteString_calls w750 (Fl ([] : List Snap)) (⟨x549, x550⟩ : strings_Builder) (((ix x1 x267).field) ++ (⟨#[58, 32]⟩ : ByteArray)) gb33 w.heap.size A551 n552 c553 hL751.env.size h554 (hL751.hFl (Sl := ([] : List Snap)) hp752 (sels [] rfl)) (hL751.into hp752 (Fl ([] : List Snap))) r753 hv754) ?_
            rintro _ w760 ⟨A755, n756, c757, rfl, hM761, h758⟩
            have hL762 := hL751.call hp752 hM761
            refine ⟨_, _, _, rfl, hL762, ?_⟩
            refine w_end 4 rfl ?_
            refine g_front 6 rfl ?_
            refine g_front 6 rfl ?_
            refine g_front 6 rfl ?_
            refine g_front 6 rfl ?_
            refine g_front 6 rfl ?_
            refine g_front 5 rfl ?_
            refine g_front 6 rfl ?_
            exact g_go [0, 1, 2] (j3 r753.2.addr r753.2.buf h A755 n756 c757 h758) ⟨rfl, rfl, rfl, rfl, rfl, rfl, rfl, rfl, trivial⟩ (.cons_cons _ (.cons_cons _ (.cons_cons _ (.cons_cons _ (.cons_cons _ (.cons_cons _ (.cons_cons _ (.slnil)))))))) rfl
        by_cases hp534 : x267 > 0
        · have h := if_pos' hp534 h
          refine g_true (c := tree_Text_c35) rfl _ rfl ((decide_eq_true hp534)) ?_
          refine g_region (c := tree_Text_c36) rfl rfl ?_
          obtain ⟨r766, hv767, h⟩ := h
          refine wl_s 0 rfl (s_call [.pointer (some ⟨gb33, 0, none⟩), .int .u8 32] rfl Try.func70 rfl rfl rfl fun w763 hL764 => ?_) gn
          have hp765 : List.Perm ([.box gb532 39 [.string ((ix x1 x267).name), .bool ((ix x1 x267).named), .string ((ix x1 x267).field), .int .i64 ((ix x1 x267).from_), .int .i64 ((ix x1 x267).to), .int .i64 ((ix x1 x267).kids), .int .i64 ((ix x1 x267).leaf)], .own (.slice A263 n264 c265) 3 1 n264 (x262.flatMap (eI .i64)), .own (.slice A270 n271 c272) 5 1 n271 (x269.flatMap (eI .u8)), .box gb33 123 [selfP gb33 x268, .slice A270 n271 c272], .box gb30 32 [.slice A11 n12 c13, .slice A15 n16 c17, .slice A20 n21 c22, .bool r9.ok], .own (.slice A15 n16 c17) 3 1 n16 (r9.parent.flatMap (eI .i64)), .own (.slice A20 n21 c22) 3 1 n21 (r9.end_.flatMap (eI .i64))] : List Ent) (([.box gb33 123 [selfP gb33 x268, .slice A270 n271 c272], .own (.slice A270 n271 c272) 5 1 n271 (x269.flatMap (eI .u8))] : List Ent) ++ ([.box gb532 39 [.string ((ix x1 x267).name), .bool ((ix x1 x267).named), .string ((ix x1 x267).field), .int .i64 ((ix x1 x267).from_), .int .i64 ((ix x1 x267).to), .int .i64 ((ix x1 x267).kids), .int .i64 ((ix x1 x267).leaf)], .own (.slice A263 n264 c265) 3 1 n264 (x262.flatMap (eI .i64)), .box gb30 32 [.slice A11 n12 c13, .slice A15 n16 c17, .slice A20 n21 c22, .bool r9.ok], .own (.slice A15 n16 c17) 3 1 n16 (r9.parent.flatMap (eI .i64)), .own (.slice A20 n21 c22) 3 1 n21 (r9.end_.flatMap (eI .i64))] : List Ent)) := perm_of_idx [3, 2] [0, 1, 4, 5, 6] rfl rfl (by kernel_rfl)
          refine Calls.mono (strings_Builder_WriteByte_calls w763 (Fl ([] : List Snap)) (⟨x268, x269⟩ : strings_Builder) 32 gb33 w.heap.size A270 n271 c272 hL764.env.size h273 (hL764.hFl (Sl := ([] : List Snap)) hp765 (sels [] rfl)) (hL764.into hp765 (Fl ([] : List Snap))) r766 hv767) ?_
          rintro _ w773 ⟨A768, n769, c770, rfl, hM774, h771⟩
          have hL775 := hL764.call hp765 hM774
          refine ⟨_, _, _, rfl, hL775, ?_⟩
          refine w_end 1 rfl ?_
          refine g_front 6 rfl ?_
          refine g_front 6 rfl ?_
          refine g_front 6 rfl ?_
          refine g_front 6 rfl ?_
          refine g_front 6 rfl ?_
          refine g_front 5 rfl ?_
          refine g_front 6 rfl ?_
          exact g_go [0, 1, 2] (j2 r766.addr r766.buf h A768 n769 c770 h771) ⟨rfl, rfl, rfl, rfl, rfl, rfl, rfl, rfl, trivial⟩ (.cons_cons _ (.cons_cons _ (.cons_cons _ (.cons_cons _ (.cons_cons _ (.cons_cons _ (.cons_cons _ (.slnil)))))))) rfl
        · have h := if_neg' hp534 h
          refine g_false (c := tree_Text_c35) rfl _ rfl ((decide_eq_false hp534)) ?_
          refine g_skip (c := tree_Text_c37) rfl ?_
          refine g_front 6 rfl ?_
          refine g_front 6 rfl ?_
          refine g_front 6 rfl ?_
          refine g_front 4 rfl ?_
          refine g_front 4 rfl ?_
          refine g_front 6 rfl ?_
          refine g_front 6 rfl ?_
          exact g_go [0, 1, 2] (j2 x268 x269 h A270 n271 c272 h273) ⟨rfl, rfl, rfl, rfl, rfl, rfl, rfl, rfl, trivial⟩ (.cons_cons _ (.cons_cons _ (.cons_cons _ (.cons_cons _ (.cons_cons _ (.cons_cons _ (.cons_cons _ (.slnil)))))))) rfl
      · have h := if_neg' hp529 h
        refine g_false (c := tree_Text_c23) rfl _ rfl ((decide_eq_false hp529)) ?_
        refine g_exit (c := tree_Text_c26) [.code tree_Text_c16] rfl rfl ?_
        refine g_seq (c := tree_Text_c16) rfl ?_
        refine g_region (c := tree_Text_c73) rfl rfl ?_
        obtain ⟨r779, hv780, h⟩ := h
        refine wl_s 0 rfl (s_call [.pointer (some ⟨gb33, 0, none⟩)] rfl Try.func73 rfl rfl rfl fun w776 hL777 => ?_) gn
        have hp778 : List.Perm ([.own (.slice A263 n264 c265) 3 1 n264 (x262.flatMap (eI .i64)), .own (.slice A270 n271 c272) 5 1 n271 (x269.flatMap (eI .u8)), .box gb33 123 [selfP gb33 x268, .slice A270 n271 c272], .box gb30 32 [.slice A11 n12 c13, .slice A15 n16 c17, .slice A20 n21 c22, .bool r9.ok], .own (.slice A15 n16 c17) 3 1 n16 (r9.parent.flatMap (eI .i64)), .own (.slice A20 n21 c22) 3 1 n21 (r9.end_.flatMap (eI .i64))] : List Ent) (([.box gb33 123 [selfP gb33 x268, .slice A270 n271 c272], .own (.slice A270 n271 c272) 5 1 n271 (x269.flatMap (eI .u8))] : List Ent) ++ ([.own (.slice A263 n264 c265) 3 1 n264 (x262.flatMap (eI .i64)), .box gb30 32 [.slice A11 n12 c13, .slice A15 n16 c17, .slice A20 n21 c22, .bool r9.ok], .own (.slice A15 n16 c17) 3 1 n16 (r9.parent.flatMap (eI .i64)), .own (.slice A20 n21 c22) 3 1 n21 (r9.end_.flatMap (eI .i64))] : List Ent)) := perm_of_idx [2, 1] [0, 3, 4, 5] rfl rfl (by kernel_rfl)
        refine Calls.mono (strings_Builder_String_calls w776 (Fl ([] : List Snap)) (⟨x268, x269⟩ : strings_Builder) gb33 w.heap.size A270 n271 c272 hL777.env.size h273 (hL777.hFl (Sl := ([] : List Snap)) hp778 (sels [] rfl)) (hL777.into hp778 (Fl ([] : List Snap))) r779 hv780) ?_
        rintro _ w781 ⟨rfl, hM782⟩
        have hL783 := hL777.call hp778 hM782
        refine ⟨_, _, _, rfl, hL783, ?_⟩
        refine wl_v 1 rfl (v_assign rfl) gn rfl ?_
        refine w_end 2 rfl ?_
        have h := Out.inr hO1 h
        refine g_retR (c := tree_Text_c74) [.string r779] rfl Try.func53 rfl (.tmp rfl (.nil)) fun wr hLr => ?_
        have hMr : B.Loc w wr [] [St w []] := hLr.pick (rest := [.own (.slice A263 n264 c265) 3 1 n264 (x262.flatMap (eI .i64)), .box gb30 32 [.slice A11 n12 c13, .slice A15 n16 c17, .slice A20 n21 c22, .bool r9.ok], .own (.slice A15 n16 c17) 3 1 n16 (r9.parent.flatMap (eI .i64)), .own (.slice A20 n21 c22) 3 1 n21 (r9.end_.flatMap (eI .i64))]) (perm_of_idx [] [0, 1, 2, 3] rfl rfl (by kernel_rfl)) (sels [2] rfl)
        have hMi : ∀ e ∈ ([] : List Ent), e ∈ ([.own (.slice A263 n264 c265) 3 1 n264 (x262.flatMap (eI .i64)), .box gb30 32 [.slice A11 n12 c13, .slice A15 n16 c17, .slice A20 n21 c22, .bool r9.ok], .own (.slice A15 n16 c17) 3 1 n16 (r9.parent.flatMap (eI .i64)), .own (.slice A20 n21 c22) 3 1 n21 (r9.end_.flatMap (eI .i64))] : List Ent) := sels [] rfl
        show tree_Text_R w F  r (.returned (packV [.string r779])) wr
        rw [h]
        exact ⟨rfl, hMr⟩
    refine g_nil 5 1 ?_
    refine g_nil 3 1 ?_
    exact g_go [0, 1, 2] (key1 _ h none 0 0 (Ow.nil (z := w.heap.size)) none 0 0 (Ow.nil (z := w.heap.size))) ⟨rfl, rfl, rfl, rfl, rfl, rfl, trivial⟩ (.cons_cons _ (.cons_cons _ (.cons_cons _ (.cons_cons _ (.cons_cons _ (.cons_cons _ (.slnil))))))) rfl
  · have h := if_neg' hp32 h
    refine g_true (c := tree_Text_c8) rfl _ rfl ((nt (bf hp32))) ?_
    refine g_seq (c := tree_Text_c9) rfl ?_
    refine g_region (c := tree_Text_c75) rfl rfl ?_
    refine wl_v 0 rfl (v_assign rfl) gn rfl ?_
    refine w_end 1 rfl ?_
    refine g_retR (c := tree_Text_c76) [.string (⟨#[]⟩ : ByteArray)] rfl Try.func53 rfl (.tmp rfl (.nil)) fun wr hLr => ?_
    have hMr : B.Loc w wr [] [St w []] := hLr.pick (rest := [.box gb30 32 [.slice A11 n12 c13, .slice A15 n16 c17, .slice A20 n21 c22, .bool r9.ok], .own (.slice A15 n16 c17) 3 1 n16 (r9.parent.flatMap (eI .i64)), .own (.slice A20 n21 c22) 3 1 n21 (r9.end_.flatMap (eI .i64))]) (perm_of_idx [] [0, 1, 2] rfl rfl (by kernel_rfl)) (sels [2] rfl)
    have hMi : ∀ e ∈ ([] : List Ent), e ∈ ([.box gb30 32 [.slice A11 n12 c13, .slice A15 n16 c17, .slice A20 n21 c22, .bool r9.ok], .own (.slice A15 n16 c17) 3 1 n16 (r9.parent.flatMap (eI .i64)), .own (.slice A20 n21 c22) 3 1 n21 (r9.end_.flatMap (eI .i64))] : List Ent) := sels [] rfl
    show tree_Text_R w F  r (.returned (packV [.string (⟨#[]⟩ : ByteArray)])) wr
    rw [h]
    exact ⟨rfl, hMr⟩
noncomputable abbrev trellisref15_Roots_c0 : Code := bodyOf Try.f54
noncomputable abbrev trellisref15_Roots_c1 : Code := Code.fst trellisref15_Roots_c0
noncomputable abbrev trellisref15_Roots_c2 : Code := Code.snd trellisref15_Roots_c0
noncomputable abbrev trellisref15_Roots_c3 : Code := Code.fst trellisref15_Roots_c2
noncomputable abbrev trellisref15_Roots_c4 : Code := Code.snd trellisref15_Roots_c2
noncomputable abbrev trellisref15_Roots_c5 : Code := Code.fst trellisref15_Roots_c4
noncomputable abbrev trellisref15_Roots_c6 : Code := Code.snd trellisref15_Roots_c4
noncomputable abbrev trellisref15_Roots_c7 : Code := Code.fst trellisref15_Roots_c5
noncomputable abbrev trellisref15_Roots_c8 : Code := Code.snd trellisref15_Roots_c5
noncomputable abbrev trellisref15_Roots_c9 : Code := Code.fst trellisref15_Roots_c8
noncomputable abbrev trellisref15_Roots_c10 : Code := Code.snd trellisref15_Roots_c8
noncomputable abbrev trellisref15_Roots_c11 : Code := Code.fst trellisref15_Roots_c6
noncomputable abbrev trellisref15_Roots_c12 : Code := Code.snd trellisref15_Roots_c6
noncomputable abbrev trellisref15_Roots_c13 : Code := Code.fst trellisref15_Roots_c9
noncomputable abbrev trellisref15_Roots_c14 : Code := Code.snd trellisref15_Roots_c9
abbrev trellisref15_Roots_R (w : World) (F : Nat → Prop) (r : Int) : Ending → World → Prop := fun e w' => e = .returned (.int .i64 r) ∧ B.Loc w w' [] [St w []]
noncomputable abbrev trellisref15_Roots_C (w : World) (F : Nat → Prop) (r : Int) : Cx := ⟨Try.prog, 54, Try.f54, 14, trellisref15_Roots_R w F  r, w⟩
theorem trellisref15_Roots_calls (w : World) (F : Nat → Prop) (x1 : List api_Node) (A2 : Option Addr) (n3 : Nat) (c4 : Nat) (h5 : Rw k_api_Node w (St w []).av A2 n3 c4 x1) (hF : ∀ b, F b → b < w.heap.size ∧ ∀ o ∈ ([] : List (List Nat)), b ∉ o) (hL0 : B.Loc w w [] [Sm w.heap.size F w [], St w []]) (r : Int) (h : trellisref15_Roots x1 r) : Calls Try.prog 54 #[.slice A2 n3 c4] w (trellisref15_Roots_R w F  r) := by
  unfold trellisref15_Roots at h
  refine calls_of_Loc (vs := [.slice A2 n3 c4]) 14 Try.func54 rfl Try.ntmps54 rfl hL0 ?_
  show G (trellisref15_Roots_C w F r) _ _ _ _
  refine g_seq (c := trellisref15_Roots_c0) rfl ?_
  refine g_region (c := trellisref15_Roots_c1) rfl rfl ?_
  refine wl_v 0 rfl (v_assign rfl) gn rfl ?_
  refine w_end 1 rfl ?_
  refine g_seq (c := trellisref15_Roots_c2) rfl ?_
  refine g_region (c := trellisref15_Roots_c3) rfl rfl ?_
  refine wl_v 0 rfl (v_move rfl) gn rfl ?_
  obtain ⟨r9, hv10, h⟩ := h
  refine wl_s 1 rfl (s_call [.slice A2 n3 c4] rfl Try.func47 rfl rfl rfl fun w6 hL7 => ?_) gn
  have hp8 : List.Perm ([] : List Ent) (([] : List Ent) ++ ([] : List Ent)) := perm_of_idx [] [] rfl rfl (by kernel_rfl)
  refine Calls.mono (trellisref15_Forest_calls w6 (Fl ([] : List Snap)) x1 A2 n3 c4 (Rw.mono h5 (hL7.toSt hp8 (me 1 rfl))) (hL7.hFl (Sl := ([] : List Snap)) hp8 (sels [] rfl)) (hL7.into hp8 (Fl ([] : List Snap))) r9 hv10) ?_
  rintro _ w18 ⟨A11, n12, c13, cs16, rfl, hM19, h14, hC17⟩
  obtain ⟨sb22, hL20, hv21⟩ := hL7.callB (Sl := ([] : List Snap)) hp8 hM19 F (sels [] rfl) trivial
  have hC17 : Cells k_trellisref15_Tree (Sm w.heap.size F w18 sb22).w (Sm w.heap.size F w18 sb22).av r9.1 cs16 := Cells.mono hv21 hC17
  refine ⟨_, _, _, rfl, hL20, ?_⟩
  refine wl_v 2 rfl (v_move rfl) gn rfl ?_
  refine wl_v 3 rfl (v_extract rfl rfl) gn rfl ?_
  refine wl_v 4 rfl (v_extract rfl rfl) gn rfl ?_
  refine wl_v 5 rfl (v_assign rfl) gn rfl ?_
  refine wl_v 6 rfl (v_assign rfl) gn rfl ?_
  refine w_end 7 rfl ?_
  refine g_seq (c := trellisref15_Roots_c4) rfl ?_
  refine g_seq (c := trellisref15_Roots_c5) rfl ?_
  refine g_region (c := trellisref15_Roots_c7) rfl rfl ?_
  refine wl_v 0 rfl (v_move rfl) gn rfl ?_
  refine wl_v 1 rfl (v_not rfl) gn rfl ?_
  refine w_end 2 rfl ?_
  by_cases hp23 : r9.2 = true
  · have h := if_pos' hp23 h
    refine g_false (c := trellisref15_Roots_c8) rfl _ rfl ((nf hp23)) ?_
    refine g_skip (c := trellisref15_Roots_c10) rfl ?_
    refine g_seq (c := trellisref15_Roots_c6) rfl ?_
    refine g_region (c := trellisref15_Roots_c11) rfl rfl ?_
    refine wl_v 0 rfl (v_move rfl) gn rfl ?_
    refine wl_v 1 rfl (v_lenQ un_89 rfl (Ow.weak hL7.env.size h14).hq) gn rfl ?_
    refine wl_v 2 rfl (v_assign rfl) gn rfl ?_
    refine w_end 3 rfl ?_
    refine g_retR (c := trellisref15_Roots_c12) [.int .i64 (r9.1.length : Int)] rfl Try.func54 rfl (.tmp rfl (.nil)) fun wr hLr => ?_
    have hMr : B.Loc w wr [] [St w []] := hLr.pick (rest := [.own (.slice A11 n12 c13) 96 9 n12 cs16]) (perm_of_idx [] [0] rfl rfl (by kernel_rfl)) (sels [2] rfl)
    have hMi : ∀ e ∈ ([] : List Ent), e ∈ ([.own (.slice A11 n12 c13) 96 9 n12 cs16] : List Ent) := sels [] rfl
    show trellisref15_Roots_R w F  r (.returned (packV [.int .i64 (r9.1.length : Int)])) wr
    rw [h]
    exact ⟨rfl, hMr⟩
  · have h := if_neg' hp23 h
    refine g_true (c := trellisref15_Roots_c8) rfl _ rfl ((nt (bf hp23))) ?_
    refine g_seq (c := trellisref15_Roots_c9) rfl ?_
    refine g_region (c := trellisref15_Roots_c13) rfl rfl ?_
    refine wl_v 0 rfl (v_assign rfl) gn rfl ?_
    refine w_end 1 rfl ?_
    refine g_retR (c := trellisref15_Roots_c14) [.int .i64 (-1)] rfl Try.func54 rfl (.tmp rfl (.nil)) fun wr hLr => ?_
    have hMr : B.Loc w wr [] [St w []] := hLr.pick (rest := [.own (.slice A11 n12 c13) 96 9 n12 cs16]) (perm_of_idx [] [0] rfl rfl (by kernel_rfl)) (sels [2] rfl)
    have hMi : ∀ e ∈ ([] : List Ent), e ∈ ([.own (.slice A11 n12 c13) 96 9 n12 cs16] : List Ent) := sels [] rfl
    show trellisref15_Roots_R w F  r (.returned (packV [.int .i64 (-1)])) wr
    rw [h]
    exact ⟨rfl, hMr⟩
noncomputable abbrev trellisref15_Size_c0 : Code := bodyOf Try.f55
noncomputable abbrev trellisref15_Size_c1 : Code := Code.fst trellisref15_Size_c0
noncomputable abbrev trellisref15_Size_c2 : Code := Code.snd trellisref15_Size_c0
noncomputable abbrev trellisref15_Size_c3 : Code := Code.fst trellisref15_Size_c2
noncomputable abbrev trellisref15_Size_c4 : Code := Code.snd trellisref15_Size_c2
noncomputable abbrev trellisref15_Size_c5 : Code := Code.fst trellisref15_Size_c4
noncomputable abbrev trellisref15_Size_c6 : Code := Code.snd trellisref15_Size_c4
noncomputable abbrev trellisref15_Size_c7 : Code := Code.fst trellisref15_Size_c6
noncomputable abbrev trellisref15_Size_c8 : Code := Code.snd trellisref15_Size_c6
noncomputable abbrev trellisref15_Size_c9 : Code := Code.fst trellisref15_Size_c7
noncomputable abbrev trellisref15_Size_c10 : Code := Code.snd trellisref15_Size_c7
noncomputable abbrev trellisref15_Size_c11 : Code := Code.fst trellisref15_Size_c10
noncomputable abbrev trellisref15_Size_c12 : Code := Code.snd trellisref15_Size_c10
noncomputable abbrev trellisref15_Size_c13 : Code := Code.fst trellisref15_Size_c8
noncomputable abbrev trellisref15_Size_c14 : Code := Code.snd trellisref15_Size_c8
noncomputable abbrev trellisref15_Size_c15 : Code := Code.fst trellisref15_Size_c14
noncomputable abbrev trellisref15_Size_c16 : Code := Code.snd trellisref15_Size_c14
noncomputable abbrev trellisref15_Size_c17 : Code := Code.fst trellisref15_Size_c11
noncomputable abbrev trellisref15_Size_c18 : Code := Code.snd trellisref15_Size_c11
abbrev trellisref15_Size_R (w : World) (F : Nat → Prop) (r : Int) : Ending → World → Prop := fun e w' => e = .returned (.int .i64 r) ∧ B.Loc w w' [] [St w []]
noncomputable abbrev trellisref15_Size_C (w : World) (F : Nat → Prop) (r : Int) : Cx := ⟨Try.prog, 55, Try.f55, 30, trellisref15_Size_R w F  r, w⟩
theorem trellisref15_Size_calls (w : World) (F : Nat → Prop) (x1 : List api_Node) (x6 : Int) (A2 : Option Addr) (n3 : Nat) (c4 : Nat) (h5 : Rw k_api_Node w (St w []).av A2 n3 c4 x1) (hF : ∀ b, F b → b < w.heap.size ∧ ∀ o ∈ ([] : List (List Nat)), b ∉ o) (hL0 : B.Loc w w [] [Sm w.heap.size F w [], St w []]) (r : Int) (h : trellisref15_Size x1 x6 r) : Calls Try.prog 55 #[.slice A2 n3 c4, .int .i64 x6] w (trellisref15_Size_R w F  r) := by
  unfold trellisref15_Size at h
  refine calls_of_Loc (vs := [.slice A2 n3 c4, .int .i64 x6]) 30 Try.func55 rfl Try.ntmps55 rfl hL0 ?_
  show G (trellisref15_Size_C w F r) _ _ _ _
  refine g_seq (c := trellisref15_Size_c0) rfl ?_
  refine g_region (c := trellisref15_Size_c1) rfl rfl ?_
  refine wl_v 0 rfl (v_assign rfl) gn rfl ?_
  refine w_end 1 rfl ?_
  refine g_seq (c := trellisref15_Size_c2) rfl ?_
  refine g_region (c := trellisref15_Size_c3) rfl rfl ?_
  refine wl_v 0 rfl (v_move rfl) gn rfl ?_
  obtain ⟨r10, hv11, h⟩ := h
  refine wl_s 1 rfl (s_call [.slice A2 n3 c4] rfl Try.func47 rfl rfl rfl fun w7 hL8 => ?_) gn
  have hp9 : List.Perm ([] : List Ent) (([] : List Ent) ++ ([] : List Ent)) := perm_of_idx [] [] rfl rfl (by kernel_rfl)
  refine Calls.mono (trellisref15_Forest_calls w7 (Fl ([] : List Snap)) x1 A2 n3 c4 (Rw.mono h5 (hL8.toSt hp9 (me 1 rfl))) (hL8.hFl (Sl := ([] : List Snap)) hp9 (sels [] rfl)) (hL8.into hp9 (Fl ([] : List Snap))) r10 hv11) ?_
  rintro _ w19 ⟨A12, n13, c14, cs17, rfl, hM20, h15, hC18⟩
  obtain ⟨sb23, hL21, hv22⟩ := hL8.callB (Sl := ([] : List Snap)) hp9 hM20 F (sels [] rfl) trivial
  have hC18 : Cells k_trellisref15_Tree (Sm w.heap.size F w19 sb23).w (Sm w.heap.size F w19 sb23).av r10.1 cs17 := Cells.mono hv22 hC18
  refine ⟨_, _, _, rfl, hL21, ?_⟩
  refine wl_v 2 rfl (v_move rfl) gn rfl ?_
  refine wl_v 3 rfl (v_extract rfl rfl) gn rfl ?_
  refine wl_v 4 rfl (v_extract rfl rfl) gn rfl ?_
  refine wl_v 5 rfl (v_assign rfl) gn rfl ?_
  refine wl_v 6 rfl (v_assign rfl) gn rfl ?_
  refine w_end 7 rfl ?_
  refine g_seq (c := trellisref15_Size_c4) rfl ?_
  refine g_region (c := trellisref15_Size_c5) rfl rfl ?_
  refine wl_v 0 rfl (v_move rfl) gn rfl ?_
  refine wl_v 1 rfl (v_move rfl) gn rfl ?_
  obtain ⟨r30, hv31, h⟩ := h
  refine w_freeze (F := F) (dk := k_trellisref15_Tree) (Sm w.heap.size F w19 sb23) 0 rfl (Ow.weak hL8.env.size h15) (me 0 rfl) Sm.ok hC18 fun sw28 sb29 h27 => ?_
  refine wl_s 2 rfl (s_call [.slice A12 n13 c14, .int .i64 x6, .int .i64 (-1)] rfl Try.func48 rfl rfl rfl fun w24 hL25 => ?_) gn
  have hp26 : List.Perm ([] : List Ent) (([] : List Ent) ++ ([] : List Ent)) := perm_of_idx [] [] rfl rfl (by kernel_rfl)
  refine Calls.mono (trellisref15_find_calls w24 (Fl ([Sm w.heap.size F sw28 sb29] : List Snap)) r10.1 x6 (-1) A12 n13 c14 (Rw.mono h27 (hL25.toFl (me 0 rfl) (me 0 rfl))) (hL25.hFl (Sl := ([Sm w.heap.size F sw28 sb29] : List Snap)) hp26 (sels [0] rfl)) (hL25.into hp26 (Fl ([Sm w.heap.size F sw28 sb29] : List Snap))) r30 hv31) ?_
  rintro _ w36 ⟨A32, n33, c34, rfl, hM37, h35⟩
  obtain ⟨sb40, hL38, hv39⟩ := hL25.callB (Sl := ([Sm w.heap.size F sw28 sb29] : List Snap)) hp26 hM37 F (sels [0] rfl) ⟨Sm.ok, trivial⟩
  have h35 : At k_trellisref15_Tree (Sm w.heap.size F w36 sb40) A32 n33 c34 r30.1.kids := Rw.mono h35 hv39
  refine ⟨_, _, _, rfl, hL38, ?_⟩
  refine wl_v 3 rfl (v_move rfl) gn rfl ?_
  refine wl_v 4 rfl (v_extract rfl rfl) gn rfl ?_
  refine wl_v 5 rfl (v_extract rfl rfl) gn rfl ?_
  refine wl_v 6 rfl (v_extract rfl rfl) gn rfl ?_
  refine wl_s 7 rfl (s_alloc [.string (⟨#[]⟩ : ByteArray), .bool false, .string (⟨#[]⟩ : ByteArray), .int .i64 0, .int .i64 0, .int .i64 0, .int .i64 0, .slice none 0 0, .int .i64 0] zr_96 rfl fun gb41 => ?_) gn
  refine wl_s 8 rfl (s_stB (vs := [.string r30.1.node.name, .bool r30.1.node.named, .string r30.1.node.field, .int .i64 r30.1.node.from_, .int .i64 r30.1.node.to, .int .i64 r30.1.node.kids, .int .i64 r30.1.node.leaf, .slice A32 n33 c34, .int .i64 r30.1.at_]) (cs' := [.string r30.1.node.name, .bool r30.1.node.named, .string r30.1.node.field, .int .i64 r30.1.node.from_, .int .i64 r30.1.node.to, .int .i64 r30.1.node.kids, .int .i64 r30.1.node.leaf, .slice A32 n33 c34, .int .i64 r30.1.at_]) (M' := [.box gb41 96 [.string r30.1.node.name, .bool r30.1.node.named, .string r30.1.node.field, .int .i64 r30.1.node.from_, .int .i64 r30.1.node.to, .int .i64 r30.1.node.kids, .int .i64 r30.1.node.leaf, .slice A32 n33 c34, .int .i64 r30.1.at_]]) 0 sz_96 rfl rfl rfl rfl rfl rfl rfl rfl rfl ?_) gn
  refine wl_v 9 rfl (v_assign rfl) gn rfl ?_
  refine wl_v 10 rfl (v_assign rfl) gn rfl ?_
  refine w_end 11 rfl ?_
  refine g_seq (c := trellisref15_Size_c6) rfl ?_
  refine g_seq (c := trellisref15_Size_c7) rfl ?_
  refine g_region (c := trellisref15_Size_c9) rfl rfl ?_
  refine wl_v 0 rfl (v_move rfl) gn rfl ?_
  refine wl_v 1 rfl (v_not rfl) gn rfl ?_
  refine w_end 2 rfl ?_
  by_cases hp43 : r30.2.2 = true
  · have h := if_pos' hp43 h
    refine g_false (c := trellisref15_Size_c10) rfl _ rfl ((nf hp43)) ?_
    refine g_skip (c := trellisref15_Size_c12) rfl ?_
    refine g_seq (c := trellisref15_Size_c8) rfl ?_
    refine g_region (c := trellisref15_Size_c13) rfl rfl ?_
    refine wl_v 0 rfl (v_ldB [.string r30.1.node.name, .bool r30.1.node.named, .string r30.1.node.field, .int .i64 r30.1.node.from_, .int .i64 r30.1.node.to, .int .i64 r30.1.node.kids, .int .i64 r30.1.node.leaf, .slice A32 n33 c34, .int .i64 r30.1.at_] 0 ld_96 rfl rfl rfl rfl) gn rfl ?_
    have hC45 : Cells k_trellisref15_Tree (Sm w.heap.size F w36 sb40).w (Sm w.heap.size F w36 sb40).av ([r30.1] : List trellisref15_Tree) [.string r30.1.node.name, .bool r30.1.node.named, .string r30.1.node.field, .int .i64 r30.1.node.from_, .int .i64 r30.1.node.to, .int .i64 r30.1.node.kids, .int .i64 r30.1.node.leaf, .slice A32 n33 c34, .int .i64 r30.1.at_] := (Cells.cons (c1 := [.string r30.1.node.name, .bool r30.1.node.named, .string r30.1.node.field, .int .i64 r30.1.node.from_, .int .i64 r30.1.node.to, .int .i64 r30.1.node.kids, .int .i64 r30.1.node.leaf, .slice A32 n33 c34, .int .i64 r30.1.at_]) (k_trellisref15_Tree_in ⟨A32, n33, c34, rfl, h35⟩) Cells.nil)
    refine wl_s 1 rfl (s_litO (xs := ([r30.1] : List trellisref15_Tree)) [.string r30.1.node.name, .bool r30.1.node.named, .string r30.1.node.field, .int .i64 r30.1.node.from_, .int .i64 r30.1.node.to, .int .i64 r30.1.node.kids, .int .i64 r30.1.node.leaf, .slice A32 n33 c34, .int .i64 r30.1.at_] bs_89_1 rfl (by kernel_rfl) rfl rfl rfl rfl fun gb46 h47 => ?_) gn
    obtain ⟨r51, hv52, h⟩ := h
    refine wl_s 2 rfl (s_call [.slice (some ⟨gb46, 0, none⟩) 1 1] rfl Try.func64 rfl rfl rfl fun w48 hL49 => ?_) gn
    have hp50 : List.Perm ([.own (.slice (some ⟨gb46, 0, none⟩) 1 1) 96 9 1 [.string r30.1.node.name, .bool r30.1.node.named, .string r30.1.node.field, .int .i64 r30.1.node.from_, .int .i64 r30.1.node.to, .int .i64 r30.1.node.kids, .int .i64 r30.1.node.leaf, .slice A32 n33 c34, .int .i64 r30.1.at_], .box gb41 96 [.string r30.1.node.name, .bool r30.1.node.named, .string r30.1.node.field, .int .i64 r30.1.node.from_, .int .i64 r30.1.node.to, .int .i64 r30.1.node.kids, .int .i64 r30.1.node.leaf, .slice A32 n33 c34, .int .i64 r30.1.at_]] : List Ent) (([] : List Ent) ++ ([.own (.slice (some ⟨gb46, 0, none⟩) 1 1) 96 9 1 [.string r30.1.node.name, .bool r30.1.node.named, .string r30.1.node.field, .int .i64 r30.1.node.from_, .int .i64 r30.1.node.to, .int .i64 r30.1.node.kids, .int .i64 r30.1.node.leaf, .slice A32 n33 c34, .int .i64 r30.1.at_], .box gb41 96 [.string r30.1.node.name, .bool r30.1.node.named, .string r30.1.node.field, .int .i64 r30.1.node.from_, .int .i64 r30.1.node.to, .int .i64 r30.1.node.kids, .int .i64 r30.1.node.leaf, .slice A32 n33 c34, .int .i64 r30.1.at_]] : List Ent)) := perm_of_idx [] [0, 1] rfl rfl (by kernel_rfl)
    refine Calls.mono (trellisref15_list_calls w48 (Fl ([] : List Snap)) ([r30.1] : List trellisref15_Tree) (some ⟨gb46, 0, none⟩) 1 1 (hL49.argO (dk := k_trellisref15_Tree) hp50 [] rfl 0 rfl rfl h47 (me 0 rfl) hC45) (hL49.hFl (Sl := ([] : List Snap)) hp50 (sels [] rfl)) (hL49.into hp50 (Fl ([] : List Snap))) r51 hv52) ?_
    rintro _ w58 ⟨A53, n54, c55, rfl, hM59, h56⟩
    have hL60 := hL49.call hp50 hM59
    refine ⟨_, _, _, rfl, hL60, ?_⟩
    refine wl_v 3 rfl (v_assign rfl) gn rfl ?_
    refine w_end 4 rfl ?_
    refine g_seq (c := trellisref15_Size_c14) rfl ?_
    refine g_region (c := trellisref15_Size_c15) rfl rfl ?_
    refine wl_v 0 rfl (v_move rfl) gn rfl ?_
    refine wl_v 1 rfl (v_lenQ un_22 rfl (Ow.weak hL49.env.size h56).hq) gn rfl ?_
    refine wl_v 2 rfl (v_assign rfl) gn rfl ?_
    refine w_end 3 rfl ?_
    refine g_retR (c := trellisref15_Size_c16) [.int .i64 (r51.length : Int)] rfl Try.func55 rfl (.tmp rfl (.nil)) fun wr hLr => ?_
    have hMr : B.Loc w wr [] [St w []] := hLr.pick (rest := [.own (.slice A53 n54 c55) 39 7 n54 (r51.flatMap enc_api_Node), .own (.slice (some ⟨gb46, 0, none⟩) 1 1) 96 9 1 [.string r30.1.node.name, .bool r30.1.node.named, .string r30.1.node.field, .int .i64 r30.1.node.from_, .int .i64 r30.1.node.to, .int .i64 r30.1.node.kids, .int .i64 r30.1.node.leaf, .slice A32 n33 c34, .int .i64 r30.1.at_], .box gb41 96 [.string r30.1.node.name, .bool r30.1.node.named, .string r30.1.node.field, .int .i64 r30.1.node.from_, .int .i64 r30.1.node.to, .int .i64 r30.1.node.kids, .int .i64 r30.1.node.leaf, .slice A32 n33 c34, .int .i64 r30.1.at_]]) (perm_of_idx [] [0, 1, 2] rfl rfl (by kernel_rfl)) (sels [4] rfl)
    have hMi : ∀ e ∈ ([] : List Ent), e ∈ ([.own (.slice A53 n54 c55) 39 7 n54 (r51.flatMap enc_api_Node), .own (.slice (some ⟨gb46, 0, none⟩) 1 1) 96 9 1 [.string r30.1.node.name, .bool r30.1.node.named, .string r30.1.node.field, .int .i64 r30.1.node.from_, .int .i64 r30.1.node.to, .int .i64 r30.1.node.kids, .int .i64 r30.1.node.leaf, .slice A32 n33 c34, .int .i64 r30.1.at_], .box gb41 96 [.string r30.1.node.name, .bool r30.1.node.named, .string r30.1.node.field, .int .i64 r30.1.node.from_, .int .i64 r30.1.node.to, .int .i64 r30.1.node.kids, .int .i64 r30.1.node.leaf, .slice A32 n33 c34, .int .i64 r30.1.at_]] : List Ent) := sels [] rfl
    show trellisref15_Size_R w F  r (.returned (packV [.int .i64 (r51.length : Int)])) wr
    rw [h]
    exact ⟨rfl, hMr⟩
  · have h := if_neg' hp43 h
    refine g_true (c := trellisref15_Size_c10) rfl _ rfl ((nt (bf hp43))) ?_
    refine g_seq (c := trellisref15_Size_c11) rfl ?_
    refine g_region (c := trellisref15_Size_c17) rfl rfl ?_
    refine wl_v 0 rfl (v_assign rfl) gn rfl ?_
    refine w_end 1 rfl ?_
    refine g_retR (c := trellisref15_Size_c18) [.int .i64 0] rfl Try.func55 rfl (.tmp rfl (.nil)) fun wr hLr => ?_
    have hMr : B.Loc w wr [] [St w []] := hLr.pick (rest := [.box gb41 96 [.string r30.1.node.name, .bool r30.1.node.named, .string r30.1.node.field, .int .i64 r30.1.node.from_, .int .i64 r30.1.node.to, .int .i64 r30.1.node.kids, .int .i64 r30.1.node.leaf, .slice A32 n33 c34, .int .i64 r30.1.at_]]) (perm_of_idx [] [0] rfl rfl (by kernel_rfl)) (sels [4] rfl)
    have hMi : ∀ e ∈ ([] : List Ent), e ∈ ([.box gb41 96 [.string r30.1.node.name, .bool r30.1.node.named, .string r30.1.node.field, .int .i64 r30.1.node.from_, .int .i64 r30.1.node.to, .int .i64 r30.1.node.kids, .int .i64 r30.1.node.leaf, .slice A32 n33 c34, .int .i64 r30.1.at_]] : List Ent) := sels [] rfl
    show trellisref15_Size_R w F  r (.returned (packV [.int .i64 0])) wr
    rw [h]
    exact ⟨rfl, hMr⟩
noncomputable abbrev trellisref15_Parent_c0 : Code := bodyOf Try.f56
noncomputable abbrev trellisref15_Parent_c1 : Code := Code.fst trellisref15_Parent_c0
noncomputable abbrev trellisref15_Parent_c2 : Code := Code.snd trellisref15_Parent_c0
noncomputable abbrev trellisref15_Parent_c3 : Code := Code.fst trellisref15_Parent_c2
noncomputable abbrev trellisref15_Parent_c4 : Code := Code.snd trellisref15_Parent_c2
noncomputable abbrev trellisref15_Parent_c5 : Code := Code.fst trellisref15_Parent_c4
noncomputable abbrev trellisref15_Parent_c6 : Code := Code.snd trellisref15_Parent_c4
noncomputable abbrev trellisref15_Parent_c7 : Code := Code.fst trellisref15_Parent_c6
noncomputable abbrev trellisref15_Parent_c8 : Code := Code.snd trellisref15_Parent_c6
abbrev trellisref15_Parent_R (w : World) (F : Nat → Prop) (r : Int) : Ending → World → Prop := fun e w' => e = .returned (.int .i64 r) ∧ B.Loc w w' [] [St w []]
noncomputable abbrev trellisref15_Parent_C (w : World) (F : Nat → Prop) (r : Int) : Cx := ⟨Try.prog, 56, Try.f56, 23, trellisref15_Parent_R w F  r, w⟩
theorem trellisref15_Parent_calls (w : World) (F : Nat → Prop) (x1 : List api_Node) (x6 : Int) (A2 : Option Addr) (n3 : Nat) (c4 : Nat) (h5 : Rw k_api_Node w (St w []).av A2 n3 c4 x1) (hF : ∀ b, F b → b < w.heap.size ∧ ∀ o ∈ ([] : List (List Nat)), b ∉ o) (hL0 : B.Loc w w [] [Sm w.heap.size F w [], St w []]) (r : Int) (h : trellisref15_Parent x1 x6 r) : Calls Try.prog 56 #[.slice A2 n3 c4, .int .i64 x6] w (trellisref15_Parent_R w F  r) := by
  unfold trellisref15_Parent at h
  refine calls_of_Loc (vs := [.slice A2 n3 c4, .int .i64 x6]) 23 Try.func56 rfl Try.ntmps56 rfl hL0 ?_
  show G (trellisref15_Parent_C w F r) _ _ _ _
  refine g_seq (c := trellisref15_Parent_c0) rfl ?_
  refine g_region (c := trellisref15_Parent_c1) rfl rfl ?_
  refine wl_v 0 rfl (v_assign rfl) gn rfl ?_
  refine w_end 1 rfl ?_
  refine g_seq (c := trellisref15_Parent_c2) rfl ?_
  refine g_region (c := trellisref15_Parent_c3) rfl rfl ?_
  refine wl_v 0 rfl (v_move rfl) gn rfl ?_
  obtain ⟨r10, hv11, h⟩ := h
  refine wl_s 1 rfl (s_call [.slice A2 n3 c4] rfl Try.func47 rfl rfl rfl fun w7 hL8 => ?_) gn
  have hp9 : List.Perm ([] : List Ent) (([] : List Ent) ++ ([] : List Ent)) := perm_of_idx [] [] rfl rfl (by kernel_rfl)
  refine Calls.mono (trellisref15_Forest_calls w7 (Fl ([] : List Snap)) x1 A2 n3 c4 (Rw.mono h5 (hL8.toSt hp9 (me 1 rfl))) (hL8.hFl (Sl := ([] : List Snap)) hp9 (sels [] rfl)) (hL8.into hp9 (Fl ([] : List Snap))) r10 hv11) ?_
  rintro _ w19 ⟨A12, n13, c14, cs17, rfl, hM20, h15, hC18⟩
  obtain ⟨sb23, hL21, hv22⟩ := hL8.callB (Sl := ([] : List Snap)) hp9 hM20 F (sels [] rfl) trivial
  have hC18 : Cells k_trellisref15_Tree (Sm w.heap.size F w19 sb23).w (Sm w.heap.size F w19 sb23).av r10.1 cs17 := Cells.mono hv22 hC18
  refine ⟨_, _, _, rfl, hL21, ?_⟩
  refine wl_v 2 rfl (v_move rfl) gn rfl ?_
  refine wl_v 3 rfl (v_extract rfl rfl) gn rfl ?_
  refine wl_v 4 rfl (v_extract rfl rfl) gn rfl ?_
  refine wl_v 5 rfl (v_assign rfl) gn rfl ?_
  refine wl_v 6 rfl (v_assign rfl) gn rfl ?_
  refine w_end 7 rfl ?_
  refine g_seq (c := trellisref15_Parent_c4) rfl ?_
  refine g_region (c := trellisref15_Parent_c5) rfl rfl ?_
  refine wl_v 0 rfl (v_move rfl) gn rfl ?_
  refine wl_v 1 rfl (v_move rfl) gn rfl ?_
  obtain ⟨r30, hv31, h⟩ := h
  refine w_freeze (F := F) (dk := k_trellisref15_Tree) (Sm w.heap.size F w19 sb23) 0 rfl (Ow.weak hL8.env.size h15) (me 0 rfl) Sm.ok hC18 fun sw28 sb29 h27 => ?_
  refine wl_s 2 rfl (s_call [.slice A12 n13 c14, .int .i64 x6, .int .i64 (-1)] rfl Try.func48 rfl rfl rfl fun w24 hL25 => ?_) gn
  have hp26 : List.Perm ([] : List Ent) (([] : List Ent) ++ ([] : List Ent)) := perm_of_idx [] [] rfl rfl (by kernel_rfl)
  refine Calls.mono (trellisref15_find_calls w24 (Fl ([Sm w.heap.size F sw28 sb29] : List Snap)) r10.1 x6 (-1) A12 n13 c14 (Rw.mono h27 (hL25.toFl (me 0 rfl) (me 0 rfl))) (hL25.hFl (Sl := ([Sm w.heap.size F sw28 sb29] : List Snap)) hp26 (sels [0] rfl)) (hL25.into hp26 (Fl ([Sm w.heap.size F sw28 sb29] : List Snap))) r30 hv31) ?_
  rintro _ w36 ⟨A32, n33, c34, rfl, hM37, h35⟩
  obtain ⟨sb40, hL38, hv39⟩ := hL25.callB (Sl := ([Sm w.heap.size F sw28 sb29] : List Snap)) hp26 hM37 F (sels [0] rfl) ⟨Sm.ok, trivial⟩
  have h35 : At k_trellisref15_Tree (Sm w.heap.size F w36 sb40) A32 n33 c34 r30.1.kids := Rw.mono h35 hv39
  refine ⟨_, _, _, rfl, hL38, ?_⟩
  refine wl_v 3 rfl (v_move rfl) gn rfl ?_
  refine wl_v 4 rfl (v_extract rfl rfl) gn rfl ?_
  refine wl_v 5 rfl (v_extract rfl rfl) gn rfl ?_
  refine wl_v 6 rfl (v_extract rfl rfl) gn rfl ?_
  refine wl_s 7 rfl (s_alloc [.string (⟨#[]⟩ : ByteArray), .bool false, .string (⟨#[]⟩ : ByteArray), .int .i64 0, .int .i64 0, .int .i64 0, .int .i64 0, .slice none 0 0, .int .i64 0] zr_96 rfl fun gb41 => ?_) gn
  refine wl_s 8 rfl (s_stB (vs := [.string r30.1.node.name, .bool r30.1.node.named, .string r30.1.node.field, .int .i64 r30.1.node.from_, .int .i64 r30.1.node.to, .int .i64 r30.1.node.kids, .int .i64 r30.1.node.leaf, .slice A32 n33 c34, .int .i64 r30.1.at_]) (cs' := [.string r30.1.node.name, .bool r30.1.node.named, .string r30.1.node.field, .int .i64 r30.1.node.from_, .int .i64 r30.1.node.to, .int .i64 r30.1.node.kids, .int .i64 r30.1.node.leaf, .slice A32 n33 c34, .int .i64 r30.1.at_]) (M' := [.box gb41 96 [.string r30.1.node.name, .bool r30.1.node.named, .string r30.1.node.field, .int .i64 r30.1.node.from_, .int .i64 r30.1.node.to, .int .i64 r30.1.node.kids, .int .i64 r30.1.node.leaf, .slice A32 n33 c34, .int .i64 r30.1.at_]]) 0 sz_96 rfl rfl rfl rfl rfl rfl rfl rfl rfl ?_) gn
  refine wl_v 9 rfl (v_assign rfl) gn rfl ?_
  refine wl_v 10 rfl (v_assign rfl) gn rfl ?_
  refine w_end 11 rfl ?_
  refine g_seq (c := trellisref15_Parent_c6) rfl ?_
  refine g_region (c := trellisref15_Parent_c7) rfl rfl ?_
  refine wl_v 0 rfl (v_move rfl) gn rfl ?_
  refine wl_v 1 rfl (v_assign rfl) gn rfl ?_
  refine w_end 2 rfl ?_
  refine g_retR (c := trellisref15_Parent_c8) [.int .i64 r30.2.1] rfl Try.func56 rfl (.tmp rfl (.nil)) fun wr hLr => ?_
  have hMr : B.Loc w wr [] [St w []] := hLr.pick (rest := [.box gb41 96 [.string r30.1.node.name, .bool r30.1.node.named, .string r30.1.node.field, .int .i64 r30.1.node.from_, .int .i64 r30.1.node.to, .int .i64 r30.1.node.kids, .int .i64 r30.1.node.leaf, .slice A32 n33 c34, .int .i64 r30.1.at_]]) (perm_of_idx [] [0] rfl rfl (by kernel_rfl)) (sels [4] rfl)
  have hMi : ∀ e ∈ ([] : List Ent), e ∈ ([.box gb41 96 [.string r30.1.node.name, .bool r30.1.node.named, .string r30.1.node.field, .int .i64 r30.1.node.from_, .int .i64 r30.1.node.to, .int .i64 r30.1.node.kids, .int .i64 r30.1.node.leaf, .slice A32 n33 c34, .int .i64 r30.1.at_]] : List Ent) := sels [] rfl
  show trellisref15_Parent_R w F  r (.returned (packV [.int .i64 r30.2.1])) wr
  rw [h]
  exact ⟨rfl, hMr⟩
noncomputable abbrev trellisref15_Quoted_c0 : Code := bodyOf Try.f80
noncomputable abbrev trellisref15_Quoted_c1 : Code := Code.fst trellisref15_Quoted_c0
noncomputable abbrev trellisref15_Quoted_c2 : Code := Code.snd trellisref15_Quoted_c0
noncomputable abbrev trellisref15_Quoted_c3 : Code := Code.fst trellisref15_Quoted_c2
noncomputable abbrev trellisref15_Quoted_c4 : Code := Code.snd trellisref15_Quoted_c2
noncomputable abbrev trellisref15_Quoted_c5 : Code := Code.fst trellisref15_Quoted_c4
noncomputable abbrev trellisref15_Quoted_c6 : Code := Code.snd trellisref15_Quoted_c4
noncomputable abbrev trellisref15_Quoted_c7 : Code := Code.fst trellisref15_Quoted_c6
noncomputable abbrev trellisref15_Quoted_c8 : Code := Code.snd trellisref15_Quoted_c6
noncomputable abbrev trellisref15_Quoted_c9 : Code := Code.fst trellisref15_Quoted_c7
noncomputable abbrev trellisref15_Quoted_c10 : Code := Code.snd trellisref15_Quoted_c7
noncomputable abbrev trellisref15_Quoted_c11 : Code := Code.fst trellisref15_Quoted_c10
noncomputable abbrev trellisref15_Quoted_c12 : Code := Code.fst trellisref15_Quoted_c11
noncomputable abbrev trellisref15_Quoted_c13 : Code := Code.fst trellisref15_Quoted_c12
noncomputable abbrev trellisref15_Quoted_c14 : Code := Code.snd trellisref15_Quoted_c12
noncomputable abbrev trellisref15_Quoted_c15 : Code := Code.fst trellisref15_Quoted_c13
noncomputable abbrev trellisref15_Quoted_c16 : Code := Code.snd trellisref15_Quoted_c13
noncomputable abbrev trellisref15_Quoted_c17 : Code := Code.fst trellisref15_Quoted_c16
noncomputable abbrev trellisref15_Quoted_c18 : Code := Code.snd trellisref15_Quoted_c16
noncomputable abbrev trellisref15_Quoted_c19 : Code := Code.fst trellisref15_Quoted_c14
noncomputable abbrev trellisref15_Quoted_c20 : Code := Code.snd trellisref15_Quoted_c14
noncomputable abbrev trellisref15_Quoted_c21 : Code := Code.fst trellisref15_Quoted_c19
noncomputable abbrev trellisref15_Quoted_c22 : Code := Code.fst trellisref15_Quoted_c21
noncomputable abbrev trellisref15_Quoted_c23 : Code := Code.snd trellisref15_Quoted_c21
noncomputable abbrev trellisref15_Quoted_c24 : Code := Code.fst trellisref15_Quoted_c23
noncomputable abbrev trellisref15_Quoted_c25 : Code := Code.fst trellisref15_Quoted_c24
noncomputable abbrev trellisref15_Quoted_c26 : Code := Code.snd trellisref15_Quoted_c24
noncomputable abbrev trellisref15_Quoted_c27 : Code := Code.fst trellisref15_Quoted_c26
noncomputable abbrev trellisref15_Quoted_c28 : Code := Code.snd trellisref15_Quoted_c26
noncomputable abbrev trellisref15_Quoted_c29 : Code := Code.fst trellisref15_Quoted_c28
noncomputable abbrev trellisref15_Quoted_c30 : Code := Code.snd trellisref15_Quoted_c28
noncomputable abbrev trellisref15_Quoted_c31 : Code := Code.fst trellisref15_Quoted_c30
noncomputable abbrev trellisref15_Quoted_c32 : Code := Code.snd trellisref15_Quoted_c30
noncomputable abbrev trellisref15_Quoted_c33 : Code := Code.fst trellisref15_Quoted_c32
noncomputable abbrev trellisref15_Quoted_c34 : Code := Code.snd trellisref15_Quoted_c32
noncomputable abbrev trellisref15_Quoted_c35 : Code := Code.fst trellisref15_Quoted_c34
noncomputable abbrev trellisref15_Quoted_c36 : Code := Code.snd trellisref15_Quoted_c34
noncomputable abbrev trellisref15_Quoted_c37 : Code := Code.fst trellisref15_Quoted_c8
noncomputable abbrev trellisref15_Quoted_c38 : Code := Code.snd trellisref15_Quoted_c8
abbrev trellisref15_Quoted_R (w : World) (F : Nat → Prop) (r : ByteArray) : Ending → World → Prop := fun e w' => e = .returned (.string r) ∧ B.Loc w w' [] [St w []]
noncomputable abbrev trellisref15_Quoted_C (w : World) (F : Nat → Prop) (r : ByteArray) : Cx := ⟨Try.prog, 80, Try.f80, 65, trellisref15_Quoted_R w F  r, w⟩
theorem trellisref15_Quoted_calls (w : World) (F : Nat → Prop) (x1 : ByteArray) (hF : ∀ b, F b → b < w.heap.size ∧ ∀ o ∈ ([] : List (List Nat)), b ∉ o) (hL0 : B.Loc w w [] [Sm w.heap.size F w [], St w []]) (r : ByteArray) (h : trellisref15_Quoted x1 r) : Calls Try.prog 80 #[.string x1] w (trellisref15_Quoted_R w F  r) := by
  unfold trellisref15_Quoted at h
  refine calls_of_Loc (vs := [.string x1]) 65 Try.func80 rfl Try.ntmps80 rfl hL0 ?_
  show G (trellisref15_Quoted_C w F r) _ _ _ _
  refine g_seq (c := trellisref15_Quoted_c0) rfl ?_
  refine g_region (c := trellisref15_Quoted_c1) rfl rfl ?_
  refine wl_v 0 rfl (v_assign rfl) gn rfl ?_
  refine w_end 1 rfl ?_
  refine g_seq (c := trellisref15_Quoted_c2) rfl ?_
  refine g_region (c := trellisref15_Quoted_c3) rfl rfl ?_
  refine wl_v 0 rfl (v_assign rfl) gn rfl ?_
  refine w_end 1 rfl ?_
  refine g_seq (c := trellisref15_Quoted_c4) rfl ?_
  refine g_region (c := trellisref15_Quoted_c5) rfl rfl ?_
  refine wl_s 0 rfl (s_litO (xs := ([34] : List Int)) [.int .u8 34] bs_121_1 rfl (by kernel_rfl) rfl rfl rfl rfl fun gb3 h4 => ?_) gn
  refine wl_v 1 rfl (v_assign rfl) gn rfl ?_
  refine w_end 2 rfl ?_
  refine g_seq (c := trellisref15_Quoted_c6) rfl ?_
  refine g_seq (c := trellisref15_Quoted_c7) rfl ?_
  refine g_region (c := trellisref15_Quoted_c9) rfl rfl ?_
  refine wl_v 0 rfl (v_assign rfl) gn rfl ?_
  refine w_end 1 rfl ?_
  refine g_block (c := trellisref15_Quoted_c10) rfl ?_
  refine g_loop (c := trellisref15_Quoted_c11) rfl ?_
  have key1 : ∀ s, Rounds (fun (s : (List Int) × Int) o => trellisref15_Quoted_b1 x1 s.1 s.2 o) s r → (fun (s : (List Int) × Int) => ∀ (A81 : Option Addr) (n82 : Nat) (c83 : Nat) (h84 : Ow w.heap.size A81 n82 c83 s.1), G (trellisref15_Quoted_C w F r) [.code trellisref15_Quoted_c12, .inLoop trellisref15_Quoted_c12, .inBlock 0, .code trellisref15_Quoted_c8] [(0, .string x1), (3, .string (⟨#[48, 49, 50, 51, 52, 53, 54, 55, 56, 57, 97, 98, 99, 100, 101, 102]⟩ : ByteArray)), (4, .slice A81 n82 c83), (5, .int .i64 s.2)] [.own (.slice A81 n82 c83) 5 1 n82 (s.1.flatMap (eI .u8))] [Sm w.heap.size F w [], St w []]) s := by
    intro s hs
    refine Rounds.ind (mot := (fun (s : (List Int) × Int) => ∀ (A81 : Option Addr) (n82 : Nat) (c83 : Nat) (h84 : Ow w.heap.size A81 n82 c83 s.1), G (trellisref15_Quoted_C w F r) [.code trellisref15_Quoted_c12, .inLoop trellisref15_Quoted_c12, .inBlock 0, .code trellisref15_Quoted_c8] [(0, .string x1), (3, .string (⟨#[48, 49, 50, 51, 52, 53, 54, 55, 56, 57, 97, 98, 99, 100, 101, 102]⟩ : ByteArray)), (4, .slice A81 n82 c83), (5, .int .i64 s.2)] [.own (.slice A81 n82 c83) 5 1 n82 (s.1.flatMap (eI .u8))] [Sm w.heap.size F w [], St w []])) ?_ hs
    clear hs s
    intro s o1 h hO1
    obtain ⟨x80, x85⟩ := s
    show ∀ (A81 : Option Addr) (n82 : Nat) (c83 : Nat) (h84 : Ow w.heap.size A81 n82 c83 x80), G (trellisref15_Quoted_C w F r) [.code trellisref15_Quoted_c12, .inLoop trellisref15_Quoted_c12, .inBlock 0, .code trellisref15_Quoted_c8] [(0, .string x1), (3, .string (⟨#[48, 49, 50, 51, 52, 53, 54, 55, 56, 57, 97, 98, 99, 100, 101, 102]⟩ : ByteArray)), (4, .slice A81 n82 c83), (5, .int .i64 x85)] [.own (.slice A81 n82 c83) 5 1 n82 (x80.flatMap (eI .u8))] [Sm w.heap.size F w [], St w []]
    intro A81 n82 c83 h84
    have h : trellisref15_Quoted_b1 x1 x80 x85 o1 := h
    unfold trellisref15_Quoted_b1 at h
    refine g_seq (c := trellisref15_Quoted_c12) rfl ?_
    refine g_seq (c := trellisref15_Quoted_c13) rfl ?_
    refine g_region (c := trellisref15_Quoted_c15) rfl rfl ?_
    refine wl_v 0 rfl (v_move rfl) gn rfl ?_
    refine wl_v 1 rfl (v_move rfl) gn rfl ?_
    refine wl_v 2 rfl (v_lenS un_9 rfl) gn rfl ?_
    refine wl_v 3 rfl (v_bin rfl rfl rfl) gn rfl ?_
    refine w_end 4 rfl ?_
    by_cases hp160 : x85 < (x1.size : Int)
    · have h := if_pos' hp160 h
      refine g_true (c := trellisref15_Quoted_c16) rfl _ rfl ((decide_eq_true hp160)) ?_
      refine g_skip (c := trellisref15_Quoted_c17) rfl ?_
      refine g_seq (c := trellisref15_Quoted_c14) rfl ?_
      refine g_block (c := trellisref15_Quoted_c19) rfl ?_
      refine g_seq (c := trellisref15_Quoted_c21) rfl ?_
      refine g_region (c := trellisref15_Quoted_c22) rfl rfl ?_
      refine wl_v 0 rfl (v_move rfl) gn rfl ?_
      refine wl_v 1 rfl (v_move rfl) gn rfl ?_
      obtain ⟨hb161, h⟩ := h
      refine wl_v 2 rfl (v_indexS un_9 rfl rfl hb161) gn rfl ?_
      refine wl_v 3 rfl (v_conv ⟨_, un_5⟩ un_3 rfl) gn rfl ?_
      refine wl_v 4 rfl (v_assign rfl) gn rfl ?_
      refine w_end 5 rfl ?_
      refine g_block (c := trellisref15_Quoted_c23) rfl ?_
      refine g_seq (c := trellisref15_Quoted_c24) rfl ?_
      have j2 : ∀ (x164 : Bool) (h : trellisref15_Quoted_j2 x80 x1 x85 x164 o1) , G (trellisref15_Quoted_C w F r) [.code trellisref15_Quoted_c26, .inBlock 2, .inBlock 1, .code trellisref15_Quoted_c20, .inLoop trellisref15_Quoted_c12, .inBlock 0, .code trellisref15_Quoted_c8] [(0, .string x1), (3, .string (⟨#[48, 49, 50, 51, 52, 53, 54, 55, 56, 57, 97, 98, 99, 100, 101, 102]⟩ : ByteArray)), (4, .slice A81 n82 c83), (5, .int .i64 x85), (6, .int .i64 (w64 (bt x1 x85))), (24, .bool x164)] [.own (.slice A81 n82 c83) 5 1 n82 (x80.flatMap (eI .u8))] [Sm w.heap.size F w [], St w []] := by
        intro x164 h
        unfold trellisref15_Quoted_j2 at h
        by_cases hp165 : x164 = true
        · have h := if_pos' hp165 h
          refine g_true (c := trellisref15_Quoted_c26) rfl _ rfl (hp165) ?_
          refine g_region (c := trellisref15_Quoted_c27) rfl rfl ?_
          refine wl_v 0 rfl (v_move rfl) gn rfl ?_
          refine wl_v 1 rfl (v_move rfl) gn rfl ?_
          refine wl_v 2 rfl (v_move rfl) gn rfl ?_
          refine wl_v 3 rfl (v_indexS un_9 rfl rfl hb161) gn rfl ?_
          refine wl_s 4 rfl (s_litO (xs := ([92, bt x1 x85] : List Int)) [.int .u8 92, .int .u8 (bt x1 x85)] bs_121_2 rfl (by kernel_rfl) rfl rfl rfl rfl fun gb167 h168 => ?_) gn
          obtain ⟨x172, hv173, h⟩ := h
          obtain ⟨hb174, h⟩ := h
          refine wl_s 5 rfl (s_app (zs := x172) (cells' := x172.flatMap (eI .u8)) 1 ap_121 rfl rfl rfl h84 (Nat.le_refl _) (Src.ownF (hl := (hlI .u8)) (h1 := (hone_int .u8)) 0 rfl h168) (by rw [hv173, List.flatMap_append] <;> rfl) (app_len hv173 h168.hq) hb174 rfl rfl fun A169 c170 h171 => ?_) gn
          refine wl_v 6 rfl (v_assign rfl) gn rfl ?_
          refine w_end 7 rfl ?_
          refine g_inBlock ?_
          refine g_inBlock ?_
          refine g_region (c := trellisref15_Quoted_c20) rfl rfl ?_
          refine wl_v 0 rfl (v_move rfl) gn rfl ?_
          refine wl_v 1 rfl (v_bin rfl rfl rfl) gn rfl ?_
          refine wl_v 2 rfl (v_assign rfl) gn rfl ?_
          refine w_end 3 rfl ?_
          refine g_inLoop ?_
          have ih := Out.inl hO1 h
          exact g_go [0, 1] (ih A169 (n82 + 2) c170 h171) ⟨rfl, rfl, rfl, rfl, trivial⟩ (.cons _ (.cons_cons _ (.slnil))) rfl
        · have h := if_neg' hp165 h
          refine g_false (c := trellisref15_Quoted_c26) rfl _ rfl ((bf hp165)) ?_
          refine g_seq (c := trellisref15_Quoted_c28) rfl ?_
          refine g_region (c := trellisref15_Quoted_c29) rfl rfl ?_
          refine wl_v 0 rfl (v_move rfl) gn rfl ?_
          refine wl_v 1 rfl (v_bin rfl rfl rfl) gn rfl ?_
          refine wl_v 2 rfl (v_assign rfl) gn rfl ?_
          refine w_end 3 rfl ?_
          by_cases hp175 : w64 (bt x1 x85) = 10
          · have h := if_pos' hp175 h
            refine g_true (c := trellisref15_Quoted_c30) rfl _ rfl ((eqi hp175)) ?_
            refine g_region (c := trellisref15_Quoted_c31) rfl rfl ?_
            refine wl_v 0 rfl (v_move rfl) gn rfl ?_
            refine wl_s 1 rfl (s_litO (xs := ([92, 110] : List Int)) [.int .u8 92, .int .u8 110] bs_121_2 rfl (by kernel_rfl) rfl rfl rfl rfl fun gb177 h178 => ?_) gn
            obtain ⟨x182, hv183, h⟩ := h
            obtain ⟨hb184, h⟩ := h
            refine wl_s 2 rfl (s_app (zs := x182) (cells' := x182.flatMap (eI .u8)) 1 ap_121 rfl rfl rfl h84 (Nat.le_refl _) (Src.ownF (hl := (hlI .u8)) (h1 := (hone_int .u8)) 0 rfl h178) (by rw [hv183, List.flatMap_append] <;> rfl) (app_len hv183 h178.hq) hb184 rfl rfl fun A179 c180 h181 => ?_) gn
            refine wl_v 3 rfl (v_assign rfl) gn rfl ?_
            refine w_end 4 rfl ?_
            refine g_inBlock ?_
            refine g_inBlock ?_
            refine g_region (c := trellisref15_Quoted_c20) rfl rfl ?_
            refine wl_v 0 rfl (v_move rfl) gn rfl ?_
            refine wl_v 1 rfl (v_bin rfl rfl rfl) gn rfl ?_
            refine wl_v 2 rfl (v_assign rfl) gn rfl ?_
            refine w_end 3 rfl ?_
            refine g_inLoop ?_
            have ih := Out.inl hO1 h
            exact g_go [0, 1] (ih A179 (n82 + 2) c180 h181) ⟨rfl, rfl, rfl, rfl, trivial⟩ (.cons _ (.cons_cons _ (.slnil))) rfl
          · have h := if_neg' hp175 h
            refine g_false (c := trellisref15_Quoted_c30) rfl _ rfl ((nei hp175)) ?_
            refine g_seq (c := trellisref15_Quoted_c32) rfl ?_
            have j3 : ∀ (x187 : Bool) (h : trellisref15_Quoted_j3 x1 x85 x80 x187 o1) , G (trellisref15_Quoted_C w F r) [.code trellisref15_Quoted_c34, .inBlock 2, .inBlock 1, .code trellisref15_Quoted_c20, .inLoop trellisref15_Quoted_c12, .inBlock 0, .code trellisref15_Quoted_c8] [(0, .string x1), (3, .string (⟨#[48, 49, 50, 51, 52, 53, 54, 55, 56, 57, 97, 98, 99, 100, 101, 102]⟩ : ByteArray)), (4, .slice A81 n82 c83), (5, .int .i64 x85), (6, .int .i64 (w64 (bt x1 x85))), (43, .bool x187)] [.own (.slice A81 n82 c83) 5 1 n82 (x80.flatMap (eI .u8))] [Sm w.heap.size F w [], St w []] := by
              intro x187 h
              unfold trellisref15_Quoted_j3 at h
              by_cases hp188 : x187 = true
              · have h := if_pos' hp188 h
                refine g_true (c := trellisref15_Quoted_c34) rfl _ rfl (hp188) ?_
                obtain ⟨hb189, h⟩ := h
                obtain ⟨hb190, h⟩ := h
                obtain ⟨x197, hv198, h⟩ := h
                obtain ⟨hb199, h⟩ := h
                have hns : Region.noSelect (Code.ops trellisref15_Quoted_c35) = true := by kernel_rfl
                refine g_drawF (c := trellisref15_Quoted_c35) [.own (.slice A81 n82 c83) 5 1 n82 (x80.flatMap (eI .u8))] [Sm w.heap.size F w [], St w []] [10, 11] 12 rfl rfl mix rfl (.cons_cons _ (.slnil)) (sels [0, 1] rfl) ?_
                refine wf_v 0 rfl (v_move rfl) gn rfl hns (by kernel_rfl) (by kernel_rfl) (by kernel_rfl) rfl ?_
                refine wf_v 1 rfl (v_move rfl) gn rfl hns (by kernel_rfl) (by kernel_rfl) (by kernel_rfl) rfl ?_
                refine wf_v 2 rfl (v_move rfl) gn rfl hns (by kernel_rfl) (by kernel_rfl) (by kernel_rfl) rfl ?_
                refine wf_v 3 rfl (v_quo rfl rfl (by decide)) gn rfl hns (by kernel_rfl) (by kernel_rfl) (by kernel_rfl) rfl ?_
                refine wf_v 4 rfl (v_indexS un_9 rfl rfl hb189) gn rfl hns (by kernel_rfl) (by kernel_rfl) (by kernel_rfl) rfl ?_
                refine wf_v 5 rfl (v_move rfl) gn rfl hns (by kernel_rfl) (by kernel_rfl) (by kernel_rfl) rfl ?_
                refine wf_v 6 rfl (v_move rfl) gn rfl hns (by kernel_rfl) (by kernel_rfl) (by kernel_rfl) rfl ?_
                refine wf_v 7 rfl (v_rem rfl rfl (by decide)) gn rfl hns (by kernel_rfl) (by kernel_rfl) (by kernel_rfl) rfl ?_
                refine wf_v 8 rfl (v_indexS un_9 rfl rfl hb190) gn rfl hns (by kernel_rfl) (by kernel_rfl) (by kernel_rfl) rfl ?_
                refine wf_all [9] (by kernel_rfl) rfl ⟨on_s 9 rfl gn rfl (s_litO (xs := ([92, 120, bt (⟨#[48, 49, 50, 51, 52, 53, 54, 55, 56, 57, 97, 98, 99, 100, 101, 102]⟩ : ByteArray) (w64 (Int.tdiv (w64 (bt x1 x85)) 16)), bt (⟨#[48, 49, 50, 51, 52, 53, 54, 55, 56, 57, 97, 98, 99, 100, 101, 102]⟩ : ByteArray) (Int.tmod (w64 (bt x1 x85)) 16)] : List Int)) [.int .u8 92, .int .u8 120, .int .u8 (bt (⟨#[48, 49, 50, 51, 52, 53, 54, 55, 56, 57, 97, 98, 99, 100, 101, 102]⟩ : ByteArray) (w64 (Int.tdiv (w64 (bt x1 x85)) 16))), .int .u8 (bt (⟨#[48, 49, 50, 51, 52, 53, 54, 55, 56, 57, 97, 98, 99, 100, 101, 102]⟩ : ByteArray) (Int.tmod (w64 (bt x1 x85)) 16))] bs_121_4 rfl (by kernel_rfl) rfl rfl rfl rfl fun gb209 h210 => ?_), trivial⟩
                refine ⟨sels [1] rfl, sels [0, 1] rfl, ?_⟩
                refine wf_all [10] (by kernel_rfl) rfl ⟨on_l 10 rfl gn rfl (s_app (zs := x197) (cells' := x197.flatMap (eI .u8)) 1 ap_121 rfl rfl rfl h84 (Nat.le_refl _) (Src.ownF (hl := (hlI .u8)) (h1 := (hone_int .u8)) 0 rfl h210) (by rw [hv198, List.flatMap_append] <;> rfl) (app_len hv198 h210.hq) hb199 rfl rfl fun A211 c212 h213 => ?_), trivial⟩
                unfold NxL
                refine wf_all [11] (by kernel_rfl) rfl ⟨on_l 11 rfl gn rfl (s_val (v_assign rfl) rfl ?_), trivial⟩
                unfold NxL
                refine wf_end (by kernel_rfl) ?_
                refine g_inBlock ?_
                refine g_inBlock ?_
                refine g_region (c := trellisref15_Quoted_c20) rfl rfl ?_
                refine wl_v 0 rfl (v_move rfl) gn rfl ?_
                refine wl_v 1 rfl (v_bin rfl rfl rfl) gn rfl ?_
                refine wl_v 2 rfl (v_assign rfl) gn rfl ?_
                refine w_end 3 rfl ?_
                refine g_inLoop ?_
                have ih := Out.inl hO1 h
                exact g_go [0, 1] (ih A211 (n82 + 4) c212 h213) ⟨rfl, rfl, rfl, rfl, trivial⟩ (.cons _ (.cons_cons _ (.slnil))) rfl
              · have h := if_neg' hp188 h
                refine g_false (c := trellisref15_Quoted_c34) rfl _ rfl ((bf hp188)) ?_
                refine g_region (c := trellisref15_Quoted_c36) rfl rfl ?_
                refine wl_v 0 rfl (v_move rfl) gn rfl ?_
                refine wl_v 1 rfl (v_move rfl) gn rfl ?_
                refine wl_v 2 rfl (v_move rfl) gn rfl ?_
                refine wl_v 3 rfl (v_indexS un_9 rfl rfl hb161) gn rfl ?_
                refine wl_s 4 rfl (s_litO (xs := ([bt x1 x85] : List Int)) [.int .u8 (bt x1 x85)] bs_121_1 rfl (by kernel_rfl) rfl rfl rfl rfl fun gb215 h216 => ?_) gn
                obtain ⟨x220, hv221, h⟩ := h
                obtain ⟨hb222, h⟩ := h
                refine wl_s 5 rfl (s_app (zs := x220) (cells' := x220.flatMap (eI .u8)) 1 ap_121 rfl rfl rfl h84 (Nat.le_refl _) (Src.ownF (hl := (hlI .u8)) (h1 := (hone_int .u8)) 0 rfl h216) (by rw [hv221, List.flatMap_append] <;> rfl) (app_len hv221 h216.hq) hb222 rfl rfl fun A217 c218 h219 => ?_) gn
                refine wl_v 6 rfl (v_assign rfl) gn rfl ?_
                refine w_end 7 rfl ?_
                refine g_inBlock ?_
                refine g_inBlock ?_
                refine g_region (c := trellisref15_Quoted_c20) rfl rfl ?_
                refine wl_v 0 rfl (v_move rfl) gn rfl ?_
                refine wl_v 1 rfl (v_bin rfl rfl rfl) gn rfl ?_
                refine wl_v 2 rfl (v_assign rfl) gn rfl ?_
                refine w_end 3 rfl ?_
                refine g_inLoop ?_
                have ih := Out.inl hO1 h
                exact g_go [0, 1] (ih A217 (n82 + 1) c218 h219) ⟨rfl, rfl, rfl, rfl, trivial⟩ (.cons _ (.cons_cons _ (.slnil))) rfl
            refine g_region (c := trellisref15_Quoted_c33) rfl rfl ?_
            refine wl_v 0 rfl (v_move rfl) gn rfl ?_
            refine wl_v 1 rfl (v_bin rfl rfl rfl) gn rfl ?_
            refine wl_v 2 rfl (v_move rfl) gn rfl ?_
            by_cases hp223 : w64 (bt x1 x85) < 32
            · have h := if_pos' hp223 h
              refine w_bool 46 rfl ((decide_eq_true hp223)) ?_
              refine wl_pass 3 rfl (ps 46 rfl rfl rfl) ?_
              refine wl_pass 4 rfl (ps 46 rfl rfl rfl) ?_
              refine wl_v 5 rfl (v_pick (b := true) rfl rfl) gn rfl ?_
              refine wl_v 6 rfl (v_assign rfl) gn rfl ?_
              refine w_end 7 rfl ?_
              exact g_go [0, 1] (j3 true h) ⟨rfl, rfl, rfl, rfl, rfl, rfl, trivial⟩ (.cons_cons _ (.slnil)) rfl
            · have h := if_neg' hp223 h
              refine w_bool 46 rfl ((decide_eq_false hp223)) ?_
              refine wl_v 3 rfl (v_move rfl) (gy 46 rfl rfl) rfl ?_
              refine wl_v 4 rfl (v_bin rfl rfl rfl) (gy 46 rfl rfl) rfl ?_
              refine wl_v 5 rfl (v_pick (b := false) rfl rfl) gn rfl ?_
              refine wl_v 6 rfl (v_assign rfl) gn rfl ?_
              refine w_end 7 rfl ?_
              exact g_go [0, 1] (j3 (decide (w64 (bt x1 x85) > 126)) h) ⟨rfl, rfl, rfl, rfl, rfl, rfl, trivial⟩ (.cons_cons _ (.slnil)) rfl
      refine g_region (c := trellisref15_Quoted_c25) rfl rfl ?_
      refine wl_v 0 rfl (v_move rfl) gn rfl ?_
      refine wl_v 1 rfl (v_bin rfl rfl rfl) gn rfl ?_
      refine wl_v 2 rfl (v_move rfl) gn rfl ?_
      by_cases hp224 : w64 (bt x1 x85) = 34
      · have h := if_pos' hp224 h
        refine w_bool 27 rfl ((eqi hp224)) ?_
        refine wl_pass 3 rfl (ps 27 rfl rfl rfl) ?_
        refine wl_pass 4 rfl (ps 27 rfl rfl rfl) ?_
        refine wl_v 5 rfl (v_pick (b := true) rfl rfl) gn rfl ?_
        refine wl_v 6 rfl (v_assign rfl) gn rfl ?_
        refine w_end 7 rfl ?_
        exact g_go [0, 1] (j2 true h) ⟨rfl, rfl, rfl, rfl, rfl, rfl, trivial⟩ (.cons_cons _ (.slnil)) rfl
      · have h := if_neg' hp224 h
        refine w_bool 27 rfl ((nei hp224)) ?_
        refine wl_v 3 rfl (v_move rfl) (gy 27 rfl rfl) rfl ?_
        refine wl_v 4 rfl (v_bin rfl rfl rfl) (gy 27 rfl rfl) rfl ?_
        refine wl_v 5 rfl (v_pick (b := false) rfl rfl) gn rfl ?_
        refine wl_v 6 rfl (v_assign rfl) gn rfl ?_
        refine w_end 7 rfl ?_
        exact g_go [0, 1] (j2 ((w64 (bt x1 x85)) == 92) h) ⟨rfl, rfl, rfl, rfl, rfl, rfl, trivial⟩ (.cons_cons _ (.slnil)) rfl
    · have h := if_neg' hp160 h
      refine g_false (c := trellisref15_Quoted_c16) rfl _ rfl ((decide_eq_false hp160)) ?_
      refine g_exit (c := trellisref15_Quoted_c18) [.code trellisref15_Quoted_c8] rfl rfl ?_
      refine g_seq (c := trellisref15_Quoted_c8) rfl ?_
      refine g_region (c := trellisref15_Quoted_c37) rfl rfl ?_
      refine wl_v 0 rfl (v_move rfl) gn rfl ?_
      refine wl_s 1 rfl (s_litO (xs := ([34] : List Int)) [.int .u8 34] bs_121_1 rfl (by kernel_rfl) rfl rfl rfl rfl fun gb226 h227 => ?_) gn
      obtain ⟨x231, hv232, h⟩ := h
      obtain ⟨hb233, h⟩ := h
      refine wl_s 2 rfl (s_app (zs := x231) (cells' := x231.flatMap (eI .u8)) 1 ap_121 rfl rfl rfl h84 (Nat.le_refl _) (Src.ownF (hl := (hlI .u8)) (h1 := (hone_int .u8)) 0 rfl h227) (by rw [hv232, List.flatMap_append] <;> rfl) (app_len hv232 h227.hq) hb233 rfl rfl fun A228 c229 h230 => ?_) gn
      refine wl_v 3 rfl (v_b2s u8_121 un_9 rfl (Src.ownF (hl := (hlI .u8)) (h1 := (hone_int .u8)) 1 rfl h230) h230.hq) gn rfl ?_
      refine wl_v 4 rfl (v_assign rfl) gn rfl ?_
      refine w_end 5 rfl ?_
      have h := Out.inr hO1 h
      refine g_retR (c := trellisref15_Quoted_c38) [.string (ofBs x231)] rfl Try.func80 rfl (.tmp rfl (.nil)) fun wr hLr => ?_
      have hMr : B.Loc w wr [] [St w []] := hLr.pick (rest := [.own (.slice (some ⟨gb226, 0, none⟩) 1 1) 5 1 1 (([34] : List Int).flatMap (eI .u8)), .own (.slice A228 (n82 + 1) c229) 5 1 (n82 + 1) (x231.flatMap (eI .u8))]) (perm_of_idx [] [0, 1] rfl rfl (by kernel_rfl)) (sels [1] rfl)
      have hMi : ∀ e ∈ ([] : List Ent), e ∈ ([.own (.slice (some ⟨gb226, 0, none⟩) 1 1) 5 1 1 (([34] : List Int).flatMap (eI .u8)), .own (.slice A228 (n82 + 1) c229) 5 1 (n82 + 1) (x231.flatMap (eI .u8))] : List Ent) := sels [] rfl
      show trellisref15_Quoted_R w F  r (.returned (packV [.string (ofBs x231)])) wr
      rw [h]
      exact ⟨rfl, hMr⟩
  exact g_go [0, 1] (key1 _ h (some ⟨gb3, 0, none⟩) 1 1 h4) ⟨rfl, rfl, rfl, rfl, trivial⟩ (.cons_cons _ (.slnil)) rfl
noncomputable abbrev trellisref15_text_c0 : Code := bodyOf Try.f74
noncomputable abbrev trellisref15_text_c1 : Code := Code.fst trellisref15_text_c0
noncomputable abbrev trellisref15_text_c2 : Code := Code.snd trellisref15_text_c0
noncomputable abbrev trellisref15_text_c3 : Code := Code.fst trellisref15_text_c2
noncomputable abbrev trellisref15_text_c4 : Code := Code.snd trellisref15_text_c2
noncomputable abbrev trellisref15_text_c5 : Code := Code.fst trellisref15_text_c4
noncomputable abbrev trellisref15_text_c6 : Code := Code.snd trellisref15_text_c4
noncomputable abbrev trellisref15_text_c7 : Code := Code.fst trellisref15_text_c5
noncomputable abbrev trellisref15_text_c8 : Code := Code.snd trellisref15_text_c5
noncomputable abbrev trellisref15_text_c9 : Code := Code.fst trellisref15_text_c8
noncomputable abbrev trellisref15_text_c10 : Code := Code.snd trellisref15_text_c8
noncomputable abbrev trellisref15_text_c11 : Code := Code.fst trellisref15_text_c6
noncomputable abbrev trellisref15_text_c12 : Code := Code.snd trellisref15_text_c6
noncomputable abbrev trellisref15_text_c13 : Code := Code.fst trellisref15_text_c12
noncomputable abbrev trellisref15_text_c14 : Code := Code.snd trellisref15_text_c12
noncomputable abbrev trellisref15_text_c15 : Code := Code.fst trellisref15_text_c13
noncomputable abbrev trellisref15_text_c16 : Code := Code.snd trellisref15_text_c13
noncomputable abbrev trellisref15_text_c17 : Code := Code.fst trellisref15_text_c16
noncomputable abbrev trellisref15_text_c18 : Code := Code.snd trellisref15_text_c16
noncomputable abbrev trellisref15_text_c19 : Code := Code.fst trellisref15_text_c14
noncomputable abbrev trellisref15_text_c20 : Code := Code.snd trellisref15_text_c14
noncomputable abbrev trellisref15_text_c21 : Code := Code.fst trellisref15_text_c19
noncomputable abbrev trellisref15_text_c22 : Code := Code.snd trellisref15_text_c19
noncomputable abbrev trellisref15_text_c23 : Code := Code.fst trellisref15_text_c22
noncomputable abbrev trellisref15_text_c24 : Code := Code.snd trellisref15_text_c22
noncomputable abbrev trellisref15_text_c25 : Code := Code.fst trellisref15_text_c23
noncomputable abbrev trellisref15_text_c26 : Code := Code.snd trellisref15_text_c23
noncomputable abbrev trellisref15_text_c27 : Code := Code.fst trellisref15_text_c20
noncomputable abbrev trellisref15_text_c28 : Code := Code.snd trellisref15_text_c20
noncomputable abbrev trellisref15_text_c29 : Code := Code.fst trellisref15_text_c28
noncomputable abbrev trellisref15_text_c30 : Code := Code.snd trellisref15_text_c28
noncomputable abbrev trellisref15_text_c31 : Code := Code.fst trellisref15_text_c29
noncomputable abbrev trellisref15_text_c32 : Code := Code.snd trellisref15_text_c29
noncomputable abbrev trellisref15_text_c33 : Code := Code.fst trellisref15_text_c32
noncomputable abbrev trellisref15_text_c34 : Code := Code.fst trellisref15_text_c33
noncomputable abbrev trellisref15_text_c35 : Code := Code.fst trellisref15_text_c34
noncomputable abbrev trellisref15_text_c36 : Code := Code.snd trellisref15_text_c34
noncomputable abbrev trellisref15_text_c37 : Code := Code.fst trellisref15_text_c35
noncomputable abbrev trellisref15_text_c38 : Code := Code.snd trellisref15_text_c35
noncomputable abbrev trellisref15_text_c39 : Code := Code.fst trellisref15_text_c38
noncomputable abbrev trellisref15_text_c40 : Code := Code.snd trellisref15_text_c38
noncomputable abbrev trellisref15_text_c41 : Code := Code.fst trellisref15_text_c36
noncomputable abbrev trellisref15_text_c42 : Code := Code.snd trellisref15_text_c36
noncomputable abbrev trellisref15_text_c43 : Code := Code.fst trellisref15_text_c41
noncomputable abbrev trellisref15_text_c44 : Code := Code.fst trellisref15_text_c43
noncomputable abbrev trellisref15_text_c45 : Code := Code.snd trellisref15_text_c43
noncomputable abbrev trellisref15_text_c46 : Code := Code.fst trellisref15_text_c30
noncomputable abbrev trellisref15_text_c47 : Code := Code.snd trellisref15_text_c30
abbrev trellisref15_text_R (w : World) (F : Nat → Prop) (r : ByteArray) : Ending → World → Prop := fun e w' => e = .returned (.string r) ∧ B.Loc w w' [] [St w []]
noncomputable abbrev trellisref15_text_C (w : World) (F : Nat → Prop) (r : ByteArray) : Cx := ⟨Try.prog, 74, Try.f74, 62, trellisref15_text_R w F  r, w⟩
def trellisref15_text_st (rl : trellisref15_Tree → ByteArray → Prop) : Prop := ∀ (w : World) (F : Nat → Prop) (x1 : trellisref15_Tree) (A2 : Option Addr) (n3 : Nat) (c4 : Nat) (h5 : Rw k_trellisref15_Tree w (St w []).av A2 n3 c4 x1.kids) (hF : ∀ b, F b → b < w.heap.size ∧ ∀ o ∈ ([] : List (List Nat)), b ∉ o) (hL0 : B.Loc w w [] [Sm w.heap.size F w [], St w []]) (r : ByteArray) (h : rl x1 r), Calls Try.prog 74 #[.agg #[.string x1.node.name, .bool x1.node.named, .string x1.node.field, .int .i64 x1.node.from_, .int .i64 x1.node.to, .int .i64 x1.node.kids, .int .i64 x1.node.leaf, .slice A2 n3 c4, .int .i64 x1.at_]] w (trellisref15_text_R w F  r)
theorem trellisref15_text_step (rc_trellisref15_text : trellisref15_Tree → ByteArray → Prop) (ih_trellisref15_text : trellisref15_text_st rc_trellisref15_text) : trellisref15_text_st (trellisref15_text_body rc_trellisref15_text) := by
  intro w F x1 A2 n3 c4 h5 hF hL0 r h
  unfold trellisref15_text_body at h
  refine calls_of_Loc (vs := [.agg #[.string x1.node.name, .bool x1.node.named, .string x1.node.field, .int .i64 x1.node.from_, .int .i64 x1.node.to, .int .i64 x1.node.kids, .int .i64 x1.node.leaf, .slice A2 n3 c4, .int .i64 x1.at_]]) 62 Try.func74 rfl Try.ntmps74 rfl hL0 ?_
  show G (trellisref15_text_C w F r) _ _ _ _
  refine g_seq (c := trellisref15_text_c0) rfl ?_
  refine g_region (c := trellisref15_text_c1) rfl rfl ?_
  refine wl_s 0 rfl (s_box [.string x1.node.name, .bool x1.node.named, .string x1.node.field, .int .i64 x1.node.from_, .int .i64 x1.node.to, .int .i64 x1.node.kids, .int .i64 x1.node.leaf, .slice A2 n3 c4, .int .i64 x1.at_] rfl rfl rfl fun gb6 => ?_) gn
  refine wl_v 1 rfl (v_assign rfl) gn rfl ?_
  refine w_end 2 rfl ?_
  refine g_seq (c := trellisref15_text_c2) rfl ?_
  refine g_region (c := trellisref15_text_c3) rfl rfl ?_
  refine wl_v 0 rfl (v_assign rfl) gn rfl ?_
  refine w_end 1 rfl ?_
  refine g_seq (c := trellisref15_text_c4) rfl ?_
  refine g_seq (c := trellisref15_text_c5) rfl ?_
  refine g_region (c := trellisref15_text_c7) rfl rfl ?_
  refine wl_v 0 rfl (v_fldB fo_96_0 rfl) gn rfl ?_
  refine wl_v 1 rfl (v_fldB fo_39_2 rfl) gn rfl ?_
  refine wl_v 2 rfl (v_ldB1 0 ld_9 rfl rfl rfl) gn rfl ?_
  refine wl_v 3 rfl (v_neS rfl rfl) gn rfl ?_
  refine w_end 4 rfl ?_
  have j1 : ∀ (x11 : ByteArray) (h : trellisref15_text_j1 x1 rc_trellisref15_text x11 r) , G (trellisref15_text_C w F r) [.code trellisref15_text_c6] [(1, .pointer (some ⟨gb6, 0, none⟩)), (3, .string x11)] [.box gb6 96 [.string x1.node.name, .bool x1.node.named, .string x1.node.field, .int .i64 x1.node.from_, .int .i64 x1.node.to, .int .i64 x1.node.kids, .int .i64 x1.node.leaf, .slice A2 n3 c4, .int .i64 x1.at_]] [Sm w.heap.size F w [], St w []] := by
    intro x11 h
    unfold trellisref15_text_j1 at h
    refine g_seq (c := trellisref15_text_c6) rfl ?_
    refine g_region (c := trellisref15_text_c11) rfl rfl ?_
    refine wl_v 0 rfl (v_fldB fo_96_0 rfl) gn rfl ?_
    refine wl_v 1 rfl (v_fldB fo_39_0 rfl) gn rfl ?_
    refine wl_v 2 rfl (v_ldB1 0 ld_9 rfl rfl rfl) gn rfl ?_
    refine wl_v 3 rfl (v_assign rfl) gn rfl ?_
    refine w_end 4 rfl ?_
    refine g_seq (c := trellisref15_text_c12) rfl ?_
    refine g_seq (c := trellisref15_text_c13) rfl ?_
    refine g_region (c := trellisref15_text_c15) rfl rfl ?_
    refine wl_v 0 rfl (v_fldB fo_96_0 rfl) gn rfl ?_
    refine wl_v 1 rfl (v_fldB fo_39_1 rfl) gn rfl ?_
    refine wl_v 2 rfl (v_ldB1 0 ld_4 rfl rfl rfl) gn rfl ?_
    refine wl_v 3 rfl (v_not rfl) gn rfl ?_
    refine w_end 4 rfl ?_
    have j2 : ∀ (x22 : ByteArray) (h : trellisref15_text_j2 x1 x11 rc_trellisref15_text x22 r) , G (trellisref15_text_C w F r) [.code trellisref15_text_c14] [(1, .pointer (some ⟨gb6, 0, none⟩)), (3, .string x11), (4, .string x22)] [.box gb6 96 [.string x1.node.name, .bool x1.node.named, .string x1.node.field, .int .i64 x1.node.from_, .int .i64 x1.node.to, .int .i64 x1.node.kids, .int .i64 x1.node.leaf, .slice A2 n3 c4, .int .i64 x1.at_]] [Sm w.heap.size F w [], St w []] := by
      intro x22 h
      unfold trellisref15_text_j2 at h
      refine g_seq (c := trellisref15_text_c14) rfl ?_
      refine g_seq (c := trellisref15_text_c19) rfl ?_
      have j3 : ∀ (x25 : Bool) (h : trellisref15_text_j3 x11 x22 x1 rc_trellisref15_text x25 r) , G (trellisref15_text_C w F r) [.code trellisref15_text_c22, .code trellisref15_text_c20] [(1, .pointer (some ⟨gb6, 0, none⟩)), (3, .string x11), (4, .string x22), (35, .bool x25)] [.box gb6 96 [.string x1.node.name, .bool x1.node.named, .string x1.node.field, .int .i64 x1.node.from_, .int .i64 x1.node.to, .int .i64 x1.node.kids, .int .i64 x1.node.leaf, .slice A2 n3 c4, .int .i64 x1.at_]] [Sm w.heap.size F w [], St w []] := by
        intro x25 h
        unfold trellisref15_text_j3 at h
        by_cases hp26 : x25 = true
        · have h := if_pos' hp26 h
          refine g_true (c := trellisref15_text_c22) rfl _ rfl (hp26) ?_
          refine g_seq (c := trellisref15_text_c23) rfl ?_
          refine g_region (c := trellisref15_text_c25) rfl rfl ?_
          refine wl_v 0 rfl (v_move rfl) gn rfl ?_
          refine wl_v 1 rfl (v_move rfl) gn rfl ?_
          obtain ⟨hb27, h⟩ := h
          refine wl_v 2 rfl (v_catS rfl rfl hb27) gn rfl ?_
          refine wl_v 3 rfl (v_assign rfl) gn rfl ?_
          refine w_end 4 rfl ?_
          refine g_retR (c := trellisref15_text_c26) [.string (x11 ++ x22)] rfl Try.func74 rfl (.tmp rfl (.nil)) fun wr hLr => ?_
          have hMr : B.Loc w wr [] [St w []] := hLr.pick (rest := [.box gb6 96 [.string x1.node.name, .bool x1.node.named, .string x1.node.field, .int .i64 x1.node.from_, .int .i64 x1.node.to, .int .i64 x1.node.kids, .int .i64 x1.node.leaf, .slice A2 n3 c4, .int .i64 x1.at_]]) (perm_of_idx [] [0] rfl rfl (by kernel_rfl)) (sels [1] rfl)
          have hMi : ∀ e ∈ ([] : List Ent), e ∈ ([.box gb6 96 [.string x1.node.name, .bool x1.node.named, .string x1.node.field, .int .i64 x1.node.from_, .int .i64 x1.node.to, .int .i64 x1.node.kids, .int .i64 x1.node.leaf, .slice A2 n3 c4, .int .i64 x1.at_]] : List Ent) := sels [] rfl
          show trellisref15_text_R w F  r (.returned (packV [.string (x11 ++ x22)])) wr
          rw [h]
          exact ⟨rfl, hMr⟩
        · have h := if_neg' hp26 h
          refine g_false (c := trellisref15_text_c22) rfl _ rfl ((bf hp26)) ?_
          refine g_skip (c := trellisref15_text_c24) rfl ?_
          refine g_seq (c := trellisref15_text_c20) rfl ?_
          refine g_region (c := trellisref15_text_c27) rfl rfl ?_
          refine wl_v 0 rfl (v_move rfl) gn rfl ?_
          obtain ⟨hb28, h⟩ := h
          refine wl_v 1 rfl (v_catS rfl rfl hb28) gn rfl ?_
          refine wl_v 2 rfl (v_move rfl) gn rfl ?_
          obtain ⟨hb29, h⟩ := h
          refine wl_v 3 rfl (v_catS rfl rfl hb29) gn rfl ?_
          refine wl_v 4 rfl (v_assign rfl) gn rfl ?_
          refine w_end 5 rfl ?_
          refine g_seq (c := trellisref15_text_c28) rfl ?_
          refine g_seq (c := trellisref15_text_c29) rfl ?_
          refine g_region (c := trellisref15_text_c31) rfl rfl ?_
          refine wl_v 0 rfl (v_assign rfl) gn rfl ?_
          refine w_end 1 rfl ?_
          refine g_block (c := trellisref15_text_c32) rfl ?_
          refine g_loop (c := trellisref15_text_c33) rfl ?_
          have key4 : ∀ s, Rounds (fun (s : ByteArray × Int) o => trellisref15_text_b4 x1 rc_trellisref15_text s.1 s.2 o) s r → (fun (s : ByteArray × Int) => ∀ (_ : Unit), G (trellisref15_text_C w F r) [.code trellisref15_text_c34, .inLoop trellisref15_text_c34, .inBlock 0, .code trellisref15_text_c30] [(1, .pointer (some ⟨gb6, 0, none⟩)), (3, .string s.1), (5, .int .i64 s.2)] [.box gb6 96 [.string x1.node.name, .bool x1.node.named, .string x1.node.field, .int .i64 x1.node.from_, .int .i64 x1.node.to, .int .i64 x1.node.kids, .int .i64 x1.node.leaf, .slice A2 n3 c4, .int .i64 x1.at_]] [Sm w.heap.size F w [], St w []]) s := by
            intro s hs
            refine Rounds.ind (mot := (fun (s : ByteArray × Int) => ∀ (_ : Unit), G (trellisref15_text_C w F r) [.code trellisref15_text_c34, .inLoop trellisref15_text_c34, .inBlock 0, .code trellisref15_text_c30] [(1, .pointer (some ⟨gb6, 0, none⟩)), (3, .string s.1), (5, .int .i64 s.2)] [.box gb6 96 [.string x1.node.name, .bool x1.node.named, .string x1.node.field, .int .i64 x1.node.from_, .int .i64 x1.node.to, .int .i64 x1.node.kids, .int .i64 x1.node.leaf, .slice A2 n3 c4, .int .i64 x1.at_]] [Sm w.heap.size F w [], St w []])) ?_ hs
            clear hs s
            intro s o1 h hO1
            obtain ⟨x51, x52⟩ := s
            show ∀ (_ : Unit), G (trellisref15_text_C w F r) [.code trellisref15_text_c34, .inLoop trellisref15_text_c34, .inBlock 0, .code trellisref15_text_c30] [(1, .pointer (some ⟨gb6, 0, none⟩)), (3, .string x51), (5, .int .i64 x52)] [.box gb6 96 [.string x1.node.name, .bool x1.node.named, .string x1.node.field, .int .i64 x1.node.from_, .int .i64 x1.node.to, .int .i64 x1.node.kids, .int .i64 x1.node.leaf, .slice A2 n3 c4, .int .i64 x1.at_]] [Sm w.heap.size F w [], St w []]
            intro _
            have h : trellisref15_text_b4 x1 rc_trellisref15_text x51 x52 o1 := h
            unfold trellisref15_text_b4 at h
            refine g_seq (c := trellisref15_text_c34) rfl ?_
            refine g_seq (c := trellisref15_text_c35) rfl ?_
            refine g_region (c := trellisref15_text_c37) rfl rfl ?_
            refine wl_v 0 rfl (v_move rfl) gn rfl ?_
            refine wl_v 1 rfl (v_fldB fo_96_1 rfl) gn rfl ?_
            refine wl_v 2 rfl (v_ldB1 0 ld_89 rfl rfl rfl) gn rfl ?_
            refine wl_v 3 rfl (v_lenQ un_89 rfl h5.hq) gn rfl ?_
            refine wl_v 4 rfl (v_bin rfl rfl rfl) gn rfl ?_
            refine w_end 5 rfl ?_
            by_cases hp73 : x52 < (x1.kids.length : Int)
            · have h := if_pos' hp73 h
              refine g_true (c := trellisref15_text_c38) rfl _ rfl ((decide_eq_true hp73)) ?_
              refine g_skip (c := trellisref15_text_c39) rfl ?_
              refine g_seq (c := trellisref15_text_c36) rfl ?_
              refine g_block (c := trellisref15_text_c41) rfl ?_
              refine g_seq (c := trellisref15_text_c43) rfl ?_
              refine g_region (c := trellisref15_text_c44) rfl rfl ?_
              refine wl_v 0 rfl (v_fldB fo_96_1 rfl) gn rfl ?_
              refine wl_v 1 rfl (v_ldB1 0 ld_89 rfl rfl rfl) gn rfl ?_
              refine wl_v 2 rfl (v_move rfl) gn rfl ?_
              obtain ⟨hb74, h⟩ := h
              obtain ⟨ce76, hK77, hr75⟩ := Rw.read (s := St w []) h5 hb74
              obtain ⟨A78, n79, c80, rfl, h81⟩ := k_trellisref15_Tree_out hK77
              refine wl_v 3 rfl (v_idxR (s := St w []) slE_89 rfl rfl h5 hb74) gn rfl ?_
              refine wl_v 4 rfl (v_ldA (St w []) ld_96 rfl hr75 rfl (me 1 rfl)) gn rfl ?_
              obtain ⟨r85, hv86, h⟩ := h
              refine wl_s 5 rfl (s_call [.agg #[.string (((ix x1.kids x52).node).name), .bool (((ix x1.kids x52).node).named), .string (((ix x1.kids x52).node).field), .int .i64 (((ix x1.kids x52).node).from_), .int .i64 (((ix x1.kids x52).node).to), .int .i64 (((ix x1.kids x52).node).kids), .int .i64 (((ix x1.kids x52).node).leaf), .slice A78 n79 c80, .int .i64 ((ix x1.kids x52).at_)]] rfl Try.func74 rfl rfl rfl fun w82 hL83 => ?_) gn
              have hp84 : List.Perm ([.box gb6 96 [.string x1.node.name, .bool x1.node.named, .string x1.node.field, .int .i64 x1.node.from_, .int .i64 x1.node.to, .int .i64 x1.node.kids, .int .i64 x1.node.leaf, .slice A2 n3 c4, .int .i64 x1.at_]] : List Ent) (([] : List Ent) ++ ([.box gb6 96 [.string x1.node.name, .bool x1.node.named, .string x1.node.field, .int .i64 x1.node.from_, .int .i64 x1.node.to, .int .i64 x1.node.kids, .int .i64 x1.node.leaf, .slice A2 n3 c4, .int .i64 x1.at_]] : List Ent)) := perm_of_idx [] [0] rfl rfl (by kernel_rfl)
              refine Calls.mono (ih_trellisref15_text w82 (Fl ([] : List Snap)) (ix x1.kids x52) A78 n79 c80 (Rw.mono h81 (hL83.toSt hp84 (me 1 rfl))) (hL83.hFl (Sl := ([] : List Snap)) hp84 (sels [] rfl)) (hL83.into hp84 (Fl ([] : List Snap))) r85 hv86) ?_
              rintro _ w87 ⟨rfl, hM88⟩
              have hL89 := hL83.call hp84 hM88
              refine ⟨_, _, _, rfl, hL89, ?_⟩
              refine wl_v 6 rfl (v_assign rfl) gn rfl ?_
              refine w_end 7 rfl ?_
              refine g_region (c := trellisref15_text_c45) rfl rfl ?_
              refine wl_v 0 rfl (v_move rfl) gn rfl ?_
              obtain ⟨hb90, h⟩ := h
              refine wl_v 1 rfl (v_catS rfl rfl hb90) gn rfl ?_
              refine wl_v 2 rfl (v_move rfl) gn rfl ?_
              obtain ⟨hb91, h⟩ := h
              refine wl_v 3 rfl (v_catS rfl rfl hb91) gn rfl ?_
              refine wl_v 4 rfl (v_assign rfl) gn rfl ?_
              refine w_end 5 rfl ?_
              refine g_inBlock ?_
              refine g_region (c := trellisref15_text_c42) rfl rfl ?_
              refine wl_v 0 rfl (v_move rfl) gn rfl ?_
              refine wl_v 1 rfl (v_bin rfl rfl rfl) gn rfl ?_
              refine wl_v 2 rfl (v_assign rfl) gn rfl ?_
              refine w_end 3 rfl ?_
              refine g_inLoop ?_
              have ih := Out.inl hO1 h
              exact g_go [0, 1] (ih ()) ⟨rfl, rfl, rfl, trivial⟩ (.cons_cons _ (.slnil)) rfl
            · have h := if_neg' hp73 h
              refine g_false (c := trellisref15_text_c38) rfl _ rfl ((decide_eq_false hp73)) ?_
              refine g_exit (c := trellisref15_text_c40) [.code trellisref15_text_c30] rfl rfl ?_
              refine g_seq (c := trellisref15_text_c30) rfl ?_
              refine g_region (c := trellisref15_text_c46) rfl rfl ?_
              refine wl_v 0 rfl (v_move rfl) gn rfl ?_
              obtain ⟨hb92, h⟩ := h
              refine wl_v 1 rfl (v_catS rfl rfl hb92) gn rfl ?_
              refine wl_v 2 rfl (v_assign rfl) gn rfl ?_
              refine w_end 3 rfl ?_
              have h := Out.inr hO1 h
              refine g_retR (c := trellisref15_text_c47) [.string (x51 ++ (⟨#[41]⟩ : ByteArray))] rfl Try.func74 rfl (.tmp rfl (.nil)) fun wr hLr => ?_
              have hMr : B.Loc w wr [] [St w []] := hLr.pick (rest := [.box gb6 96 [.string x1.node.name, .bool x1.node.named, .string x1.node.field, .int .i64 x1.node.from_, .int .i64 x1.node.to, .int .i64 x1.node.kids, .int .i64 x1.node.leaf, .slice A2 n3 c4, .int .i64 x1.at_]]) (perm_of_idx [] [0] rfl rfl (by kernel_rfl)) (sels [1] rfl)
              have hMi : ∀ e ∈ ([] : List Ent), e ∈ ([.box gb6 96 [.string x1.node.name, .bool x1.node.named, .string x1.node.field, .int .i64 x1.node.from_, .int .i64 x1.node.to, .int .i64 x1.node.kids, .int .i64 x1.node.leaf, .slice A2 n3 c4, .int .i64 x1.at_]] : List Ent) := sels [] rfl
              show trellisref15_text_R w F  r (.returned (packV [.string (x51 ++ (⟨#[41]⟩ : ByteArray))])) wr
              rw [h]
              exact ⟨rfl, hMr⟩
          exact g_go [0, 1] (key4 _ h ()) ⟨rfl, rfl, rfl, trivial⟩ (.cons_cons _ (.slnil)) rfl
      refine g_region (c := trellisref15_text_c21) rfl rfl ?_
      refine wl_v 0 rfl (v_fldB fo_96_0 rfl) gn rfl ?_
      refine wl_v 1 rfl (v_fldB fo_39_1 rfl) gn rfl ?_
      refine wl_v 2 rfl (v_ldB1 0 ld_4 rfl rfl rfl) gn rfl ?_
      refine wl_v 3 rfl (v_not rfl) gn rfl ?_
      refine wl_v 4 rfl (v_move rfl) gn rfl ?_
      by_cases hp93 : x1.node.named = true
      · have h := if_pos' hp93 h
        refine w_bool 30 rfl ((nf hp93)) ?_
        refine wl_pass 5 rfl (ps 30 rfl rfl rfl) ?_
        refine wl_pass 6 rfl (ps 30 rfl rfl rfl) ?_
        refine wl_pass 7 rfl (ps 30 rfl rfl rfl) ?_
        refine wl_pass 8 rfl (ps 30 rfl rfl rfl) ?_
        refine wl_v 9 rfl (v_pick (b := false) rfl rfl) gn rfl ?_
        refine w_end 10 rfl ?_
        exact g_go [0, 1] (j3 false h) ⟨rfl, rfl, rfl, rfl, trivial⟩ (.cons_cons _ (.slnil)) rfl
      · have h := if_neg' hp93 h
        refine w_bool 30 rfl ((nt (bf hp93))) ?_
        refine wl_v 5 rfl (v_fldB fo_96_1 rfl) (gy 30 rfl rfl) rfl ?_
        refine wl_v 6 rfl (v_ldB1 0 ld_89 rfl rfl rfl) (gy 30 rfl rfl) rfl ?_
        refine wl_v 7 rfl (v_lenQ un_89 rfl h5.hq) (gy 30 rfl rfl) rfl ?_
        refine wl_v 8 rfl (v_bin rfl rfl rfl) (gy 30 rfl rfl) rfl ?_
        refine wl_v 9 rfl (v_pick (b := true) rfl rfl) gn rfl ?_
        refine w_end 10 rfl ?_
        exact g_go [0, 1] (j3 ((x1.kids.length : Int) == 0) h) ⟨rfl, rfl, rfl, rfl, trivial⟩ (.cons_cons _ (.slnil)) rfl
    by_cases hp12 : x1.node.named = true
    · have h := if_pos' hp12 h
      refine g_false (c := trellisref15_text_c16) rfl _ rfl ((nf hp12)) ?_
      refine g_skip (c := trellisref15_text_c18) rfl ?_
      exact g_go [0, 1] (j2 x1.node.name h) ⟨rfl, rfl, rfl, trivial⟩ (.cons_cons _ (.slnil)) rfl
    · have h := if_neg' hp12 h
      refine g_true (c := trellisref15_text_c16) rfl _ rfl ((nt (bf hp12))) ?_
      refine g_region (c := trellisref15_text_c17) rfl rfl ?_
      refine wl_v 0 rfl (v_fldB fo_96_0 rfl) gn rfl ?_
      refine wl_v 1 rfl (v_fldB fo_39_0 rfl) gn rfl ?_
      refine wl_v 2 rfl (v_ldB1 0 ld_9 rfl rfl rfl) gn rfl ?_
      obtain ⟨r97, hv98, h⟩ := h
      refine wl_s 3 rfl (s_call [.string x1.node.name] rfl Try.func80 rfl rfl rfl fun w94 hL95 => ?_) gn
      have hp96 : List.Perm ([.box gb6 96 [.string x1.node.name, .bool x1.node.named, .string x1.node.field, .int .i64 x1.node.from_, .int .i64 x1.node.to, .int .i64 x1.node.kids, .int .i64 x1.node.leaf, .slice A2 n3 c4, .int .i64 x1.at_]] : List Ent) (([] : List Ent) ++ ([.box gb6 96 [.string x1.node.name, .bool x1.node.named, .string x1.node.field, .int .i64 x1.node.from_, .int .i64 x1.node.to, .int .i64 x1.node.kids, .int .i64 x1.node.leaf, .slice A2 n3 c4, .int .i64 x1.at_]] : List Ent)) := perm_of_idx [] [0] rfl rfl (by kernel_rfl)
      refine Calls.mono (trellisref15_Quoted_calls w94 (Fl ([] : List Snap)) x1.node.name (hL95.hFl (Sl := ([] : List Snap)) hp96 (sels [] rfl)) (hL95.into hp96 (Fl ([] : List Snap))) r97 hv98) ?_
      rintro _ w99 ⟨rfl, hM100⟩
      have hL101 := hL95.call hp96 hM100
      refine ⟨_, _, _, rfl, hL101, ?_⟩
      refine wl_v 4 rfl (v_assign rfl) gn rfl ?_
      refine w_end 5 rfl ?_
      exact g_go [0, 1] (j2 r97 h) ⟨rfl, rfl, rfl, trivial⟩ (.cons_cons _ (.slnil)) rfl
  by_cases hp8 : x1.node.field = (⟨#[]⟩ : ByteArray)
  · have h := if_pos' hp8 h
    refine g_false (c := trellisref15_text_c8) rfl _ rfl ((nf (seq_t hp8))) ?_
    refine g_skip (c := trellisref15_text_c10) rfl ?_
    exact g_go [0, 1] (j1 (⟨#[]⟩ : ByteArray) h) ⟨rfl, rfl, trivial⟩ (.cons_cons _ (.slnil)) rfl
  · have h := if_neg' hp8 h
    refine g_true (c := trellisref15_text_c8) rfl _ rfl ((nt (seq_f hp8))) ?_
    refine g_region (c := trellisref15_text_c9) rfl rfl ?_
    refine wl_v 0 rfl (v_fldB fo_96_0 rfl) gn rfl ?_
    refine wl_v 1 rfl (v_fldB fo_39_2 rfl) gn rfl ?_
    refine wl_v 2 rfl (v_ldB1 0 ld_9 rfl rfl rfl) gn rfl ?_
    obtain ⟨hb102, h⟩ := h
    refine wl_v 3 rfl (v_catS rfl rfl hb102) gn rfl ?_
    refine wl_v 4 rfl (v_assign rfl) gn rfl ?_
    refine w_end 5 rfl ?_
    exact g_go [0, 1] (j1 (x1.node.field ++ (⟨#[58, 32]⟩ : ByteArray)) h) ⟨rfl, rfl, trivial⟩ (.cons_cons _ (.slnil)) rfl
theorem trellisref15_text_ind : ∀ n, trellisref15_text_st (trellisref15_text_n n)
  | 0 => fun w F x1 A2 n3 c4 h5 hF hL0 r h => h.elim
  | n + 1 => by
    have ih := trellisref15_text_ind n
    exact trellisref15_text_step _ ih
theorem trellisref15_text_calls (w : World) (F : Nat → Prop) (x1 : trellisref15_Tree) (A2 : Option Addr) (n3 : Nat) (c4 : Nat) (h5 : Rw k_trellisref15_Tree w (St w []).av A2 n3 c4 x1.kids) (hF : ∀ b, F b → b < w.heap.size ∧ ∀ o ∈ ([] : List (List Nat)), b ∉ o) (hL0 : B.Loc w w [] [Sm w.heap.size F w [], St w []]) (r : ByteArray) (h : trellisref15_text x1 r) : Calls Try.prog 74 #[.agg #[.string x1.node.name, .bool x1.node.named, .string x1.node.field, .int .i64 x1.node.from_, .int .i64 x1.node.to, .int .i64 x1.node.kids, .int .i64 x1.node.leaf, .slice A2 n3 c4, .int .i64 x1.at_]] w (trellisref15_text_R w F  r) := by
  obtain ⟨n, h⟩ := h
  exact (trellisref15_text_ind n) w F x1 A2 n3 c4 h5 hF hL0 r h
noncomputable abbrev trellisref15_Text_c0 : Code := bodyOf Try.f57
noncomputable abbrev trellisref15_Text_c1 : Code := Code.fst trellisref15_Text_c0
noncomputable abbrev trellisref15_Text_c2 : Code := Code.snd trellisref15_Text_c0
noncomputable abbrev trellisref15_Text_c3 : Code := Code.fst trellisref15_Text_c2
noncomputable abbrev trellisref15_Text_c4 : Code := Code.snd trellisref15_Text_c2
noncomputable abbrev trellisref15_Text_c5 : Code := Code.fst trellisref15_Text_c4
noncomputable abbrev trellisref15_Text_c6 : Code := Code.snd trellisref15_Text_c4
noncomputable abbrev trellisref15_Text_c7 : Code := Code.fst trellisref15_Text_c6
noncomputable abbrev trellisref15_Text_c8 : Code := Code.snd trellisref15_Text_c6
noncomputable abbrev trellisref15_Text_c9 : Code := Code.fst trellisref15_Text_c7
noncomputable abbrev trellisref15_Text_c10 : Code := Code.snd trellisref15_Text_c7
noncomputable abbrev trellisref15_Text_c11 : Code := Code.fst trellisref15_Text_c10
noncomputable abbrev trellisref15_Text_c12 : Code := Code.fst trellisref15_Text_c11
noncomputable abbrev trellisref15_Text_c13 : Code := Code.fst trellisref15_Text_c12
noncomputable abbrev trellisref15_Text_c14 : Code := Code.snd trellisref15_Text_c12
noncomputable abbrev trellisref15_Text_c15 : Code := Code.fst trellisref15_Text_c13
noncomputable abbrev trellisref15_Text_c16 : Code := Code.snd trellisref15_Text_c13
noncomputable abbrev trellisref15_Text_c17 : Code := Code.fst trellisref15_Text_c16
noncomputable abbrev trellisref15_Text_c18 : Code := Code.snd trellisref15_Text_c16
noncomputable abbrev trellisref15_Text_c19 : Code := Code.fst trellisref15_Text_c14
noncomputable abbrev trellisref15_Text_c20 : Code := Code.snd trellisref15_Text_c14
noncomputable abbrev trellisref15_Text_c21 : Code := Code.fst trellisref15_Text_c19
noncomputable abbrev trellisref15_Text_c22 : Code := Code.fst trellisref15_Text_c21
noncomputable abbrev trellisref15_Text_c23 : Code := Code.snd trellisref15_Text_c21
noncomputable abbrev trellisref15_Text_c24 : Code := Code.fst trellisref15_Text_c23
noncomputable abbrev trellisref15_Text_c25 : Code := Code.snd trellisref15_Text_c23
noncomputable abbrev trellisref15_Text_c26 : Code := Code.fst trellisref15_Text_c24
noncomputable abbrev trellisref15_Text_c27 : Code := Code.snd trellisref15_Text_c24
noncomputable abbrev trellisref15_Text_c28 : Code := Code.fst trellisref15_Text_c27
noncomputable abbrev trellisref15_Text_c29 : Code := Code.snd trellisref15_Text_c27
noncomputable abbrev trellisref15_Text_c30 : Code := Code.fst trellisref15_Text_c8
noncomputable abbrev trellisref15_Text_c31 : Code := Code.snd trellisref15_Text_c8
abbrev trellisref15_Text_R (w : World) (F : Nat → Prop) (r : ByteArray) : Ending → World → Prop := fun e w' => e = .returned (.string r) ∧ B.Loc w w' [] [St w []]
noncomputable abbrev trellisref15_Text_C (w : World) (F : Nat → Prop) (r : ByteArray) : Cx := ⟨Try.prog, 57, Try.f57, 32, trellisref15_Text_R w F  r, w⟩
theorem trellisref15_Text_calls (w : World) (F : Nat → Prop) (x1 : List api_Node) (A2 : Option Addr) (n3 : Nat) (c4 : Nat) (h5 : Rw k_api_Node w (St w []).av A2 n3 c4 x1) (hF : ∀ b, F b → b < w.heap.size ∧ ∀ o ∈ ([] : List (List Nat)), b ∉ o) (hL0 : B.Loc w w [] [Sm w.heap.size F w [], St w []]) (r : ByteArray) (h : trellisref15_Text x1 r) : Calls Try.prog 57 #[.slice A2 n3 c4] w (trellisref15_Text_R w F  r) := by
  unfold trellisref15_Text at h
  refine calls_of_Loc (vs := [.slice A2 n3 c4]) 32 Try.func57 rfl Try.ntmps57 rfl hL0 ?_
  show G (trellisref15_Text_C w F r) _ _ _ _
  refine g_seq (c := trellisref15_Text_c0) rfl ?_
  refine g_region (c := trellisref15_Text_c1) rfl rfl ?_
  refine wl_v 0 rfl (v_assign rfl) gn rfl ?_
  refine w_end 1 rfl ?_
  refine g_seq (c := trellisref15_Text_c2) rfl ?_
  refine g_region (c := trellisref15_Text_c3) rfl rfl ?_
  refine wl_v 0 rfl (v_move rfl) gn rfl ?_
  obtain ⟨r9, hv10, h⟩ := h
  refine wl_s 1 rfl (s_call [.slice A2 n3 c4] rfl Try.func47 rfl rfl rfl fun w6 hL7 => ?_) gn
  have hp8 : List.Perm ([] : List Ent) (([] : List Ent) ++ ([] : List Ent)) := perm_of_idx [] [] rfl rfl (by kernel_rfl)
  refine Calls.mono (trellisref15_Forest_calls w6 (Fl ([] : List Snap)) x1 A2 n3 c4 (Rw.mono h5 (hL7.toSt hp8 (me 1 rfl))) (hL7.hFl (Sl := ([] : List Snap)) hp8 (sels [] rfl)) (hL7.into hp8 (Fl ([] : List Snap))) r9 hv10) ?_
  rintro _ w18 ⟨A11, n12, c13, cs16, rfl, hM19, h14, hC17⟩
  obtain ⟨sb22, hL20, hv21⟩ := hL7.callB (Sl := ([] : List Snap)) hp8 hM19 F (sels [] rfl) trivial
  have hC17 : Cells k_trellisref15_Tree (Sm w.heap.size F w18 sb22).w (Sm w.heap.size F w18 sb22).av r9.1 cs16 := Cells.mono hv21 hC17
  refine ⟨_, _, _, rfl, hL20, ?_⟩
  refine wl_v 2 rfl (v_move rfl) gn rfl ?_
  refine wl_v 3 rfl (v_extract rfl rfl) gn rfl ?_
  refine wl_v 4 rfl (v_extract rfl rfl) gn rfl ?_
  refine wl_v 5 rfl (v_assign rfl) gn rfl ?_
  refine wl_v 6 rfl (v_assign rfl) gn rfl ?_
  refine w_end 7 rfl ?_
  refine g_seq (c := trellisref15_Text_c4) rfl ?_
  refine g_region (c := trellisref15_Text_c5) rfl rfl ?_
  refine wl_v 0 rfl (v_assign rfl) gn rfl ?_
  refine w_end 1 rfl ?_
  refine g_seq (c := trellisref15_Text_c6) rfl ?_
  refine g_seq (c := trellisref15_Text_c7) rfl ?_
  refine g_region (c := trellisref15_Text_c9) rfl rfl ?_
  refine wl_v 0 rfl (v_assign rfl) gn rfl ?_
  refine w_end 1 rfl ?_
  refine g_block (c := trellisref15_Text_c10) rfl ?_
  refine g_loop (c := trellisref15_Text_c11) rfl ?_
  have key1 : ∀ s, Rounds (fun (s : ByteArray × Int) o => trellisref15_Text_b1 r9 s.1 s.2 o) s r → (fun (s : ByteArray × Int) => ∀ (_ : Unit), G (trellisref15_Text_C w F r) [.code trellisref15_Text_c12, .inLoop trellisref15_Text_c12, .inBlock 0, .code trellisref15_Text_c8] [(3, .slice A11 n12 c13), (5, .string s.1), (6, .int .i64 s.2)] [.own (.slice A11 n12 c13) 96 9 n12 cs16] [Sm w.heap.size F w18 sb22, Sm w.heap.size F w [], St w []]) s := by
    intro s hs
    refine Rounds.ind (mot := (fun (s : ByteArray × Int) => ∀ (_ : Unit), G (trellisref15_Text_C w F r) [.code trellisref15_Text_c12, .inLoop trellisref15_Text_c12, .inBlock 0, .code trellisref15_Text_c8] [(3, .slice A11 n12 c13), (5, .string s.1), (6, .int .i64 s.2)] [.own (.slice A11 n12 c13) 96 9 n12 cs16] [Sm w.heap.size F w18 sb22, Sm w.heap.size F w [], St w []])) ?_ hs
    clear hs s
    intro s o1 h hO1
    obtain ⟨x43, x44⟩ := s
    show ∀ (_ : Unit), G (trellisref15_Text_C w F r) [.code trellisref15_Text_c12, .inLoop trellisref15_Text_c12, .inBlock 0, .code trellisref15_Text_c8] [(3, .slice A11 n12 c13), (5, .string x43), (6, .int .i64 x44)] [.own (.slice A11 n12 c13) 96 9 n12 cs16] [Sm w.heap.size F w18 sb22, Sm w.heap.size F w [], St w []]
    intro _
    have h : trellisref15_Text_b1 r9 x43 x44 o1 := h
    unfold trellisref15_Text_b1 at h
    refine g_seq (c := trellisref15_Text_c12) rfl ?_
    refine g_seq (c := trellisref15_Text_c13) rfl ?_
    refine g_region (c := trellisref15_Text_c15) rfl rfl ?_
    refine wl_v 0 rfl (v_move rfl) gn rfl ?_
    refine wl_v 1 rfl (v_move rfl) gn rfl ?_
    refine wl_v 2 rfl (v_lenQ un_89 rfl (Ow.weak hL7.env.size h14).hq) gn rfl ?_
    refine wl_v 3 rfl (v_bin rfl rfl rfl) gn rfl ?_
    refine w_end 4 rfl ?_
    by_cases hp67 : x44 < (r9.1.length : Int)
    · have h := if_pos' hp67 h
      refine g_true (c := trellisref15_Text_c16) rfl _ rfl ((decide_eq_true hp67)) ?_
      refine g_skip (c := trellisref15_Text_c17) rfl ?_
      refine g_seq (c := trellisref15_Text_c14) rfl ?_
      refine g_block (c := trellisref15_Text_c19) rfl ?_
      refine g_seq (c := trellisref15_Text_c21) rfl ?_
      refine g_region (c := trellisref15_Text_c22) rfl rfl ?_
      refine wl_v 0 rfl (v_move rfl) gn rfl ?_
      refine wl_v 1 rfl (v_move rfl) gn rfl ?_
      obtain ⟨hb68, h⟩ := h
      obtain ⟨ce69, hK70, ht71, hg72⟩ := Cells.get hC17 hb68
      obtain ⟨A73, n74, c75, rfl, h76⟩ := k_trellisref15_Tree_out hK70
      refine wl_v 2 rfl (v_idxO slE_89 rfl rfl (Ow.weak hL7.env.size h14) hb68) gn rfl ?_
      refine wl_v 3 rfl (v_ldO [.string (((ix r9.1 x44).node).name), .bool (((ix r9.1 x44).node).named), .string (((ix r9.1 x44).node).field), .int .i64 (((ix r9.1 x44).node).from_), .int .i64 (((ix r9.1 x44).node).to), .int .i64 (((ix r9.1 x44).node).kids), .int .i64 (((ix r9.1 x44).node).leaf), .slice A73 n74 c75, .int .i64 ((ix r9.1 x44).at_)] 0 ld_96 rfl rfl ht71 rfl) gn rfl ?_
      obtain ⟨r80, hv81, h⟩ := h
      refine wl_s 4 rfl (s_call [.agg #[.string (((ix r9.1 x44).node).name), .bool (((ix r9.1 x44).node).named), .string (((ix r9.1 x44).node).field), .int .i64 (((ix r9.1 x44).node).from_), .int .i64 (((ix r9.1 x44).node).to), .int .i64 (((ix r9.1 x44).node).kids), .int .i64 (((ix r9.1 x44).node).leaf), .slice A73 n74 c75, .int .i64 ((ix r9.1 x44).at_)]] rfl Try.func74 rfl rfl rfl fun w77 hL78 => ?_) gn
      have hp79 : List.Perm ([.own (.slice A11 n12 c13) 96 9 n12 cs16] : List Ent) (([] : List Ent) ++ ([.own (.slice A11 n12 c13) 96 9 n12 cs16] : List Ent)) := perm_of_idx [] [0] rfl rfl (by kernel_rfl)
      refine Calls.mono (trellisref15_text_calls w77 (Fl ([] : List Snap)) (ix r9.1 x44) A73 n74 c75 (Rw.mono h76 (hL78.toSt hp79 (me 0 rfl))) (hL78.hFl (Sl := ([] : List Snap)) hp79 (sels [] rfl)) (hL78.into hp79 (Fl ([] : List Snap))) r80 hv81) ?_
      rintro _ w82 ⟨rfl, hM83⟩
      have hL84 := hL78.call hp79 hM83
      refine ⟨_, _, _, rfl, hL84, ?_⟩
      refine wl_v 5 rfl (v_assign rfl) gn rfl ?_
      refine w_end 6 rfl ?_
      refine g_seq (c := trellisref15_Text_c23) rfl ?_
      refine g_seq (c := trellisref15_Text_c24) rfl ?_
      refine g_region (c := trellisref15_Text_c26) rfl rfl ?_
      refine wl_v 0 rfl (v_move rfl) gn rfl ?_
      refine wl_v 1 rfl (v_bin rfl rfl rfl) gn rfl ?_
      refine w_end 2 rfl ?_
      by_cases hp85 : x44 > 0
      · have h := if_pos' hp85 h
        refine g_true (c := trellisref15_Text_c27) rfl _ rfl ((decide_eq_true hp85)) ?_
        refine g_region (c := trellisref15_Text_c28) rfl rfl ?_
        refine wl_v 0 rfl (v_move rfl) gn rfl ?_
        obtain ⟨hb86, h⟩ := h
        refine wl_v 1 rfl (v_catS rfl rfl hb86) gn rfl ?_
        refine wl_v 2 rfl (v_assign rfl) gn rfl ?_
        refine w_end 3 rfl ?_
        refine g_region (c := trellisref15_Text_c25) rfl rfl ?_
        refine wl_v 0 rfl (v_move rfl) gn rfl ?_
        refine wl_v 1 rfl (v_move rfl) gn rfl ?_
        obtain ⟨hb87, h⟩ := h
        refine wl_v 2 rfl (v_catS rfl rfl hb87) gn rfl ?_
        refine wl_v 3 rfl (v_assign rfl) gn rfl ?_
        refine w_end 4 rfl ?_
        refine g_inBlock ?_
        refine g_region (c := trellisref15_Text_c20) rfl rfl ?_
        refine wl_v 0 rfl (v_move rfl) gn rfl ?_
        refine wl_v 1 rfl (v_bin rfl rfl rfl) gn rfl ?_
        refine wl_v 2 rfl (v_assign rfl) gn rfl ?_
        refine w_end 3 rfl ?_
        refine g_inLoop ?_
        have ih := Out.inl hO1 h
        exact g_go [0, 1, 2] (ih ()) ⟨rfl, rfl, rfl, trivial⟩ (.cons_cons _ (.slnil)) rfl
      · have h := if_neg' hp85 h
        refine g_false (c := trellisref15_Text_c27) rfl _ rfl ((decide_eq_false hp85)) ?_
        refine g_skip (c := trellisref15_Text_c29) rfl ?_
        refine g_region (c := trellisref15_Text_c25) rfl rfl ?_
        refine wl_v 0 rfl (v_move rfl) gn rfl ?_
        refine wl_v 1 rfl (v_move rfl) gn rfl ?_
        obtain ⟨hb88, h⟩ := h
        refine wl_v 2 rfl (v_catS rfl rfl hb88) gn rfl ?_
        refine wl_v 3 rfl (v_assign rfl) gn rfl ?_
        refine w_end 4 rfl ?_
        refine g_inBlock ?_
        refine g_region (c := trellisref15_Text_c20) rfl rfl ?_
        refine wl_v 0 rfl (v_move rfl) gn rfl ?_
        refine wl_v 1 rfl (v_bin rfl rfl rfl) gn rfl ?_
        refine wl_v 2 rfl (v_assign rfl) gn rfl ?_
        refine w_end 3 rfl ?_
        refine g_inLoop ?_
        have ih := Out.inl hO1 h
        exact g_go [0, 1, 2] (ih ()) ⟨rfl, rfl, rfl, trivial⟩ (.cons_cons _ (.slnil)) rfl
    · have h := if_neg' hp67 h
      refine g_false (c := trellisref15_Text_c16) rfl _ rfl ((decide_eq_false hp67)) ?_
      refine g_exit (c := trellisref15_Text_c18) [.code trellisref15_Text_c8] rfl rfl ?_
      refine g_seq (c := trellisref15_Text_c8) rfl ?_
      refine g_region (c := trellisref15_Text_c30) rfl rfl ?_
      refine wl_v 0 rfl (v_move rfl) gn rfl ?_
      refine wl_v 1 rfl (v_assign rfl) gn rfl ?_
      refine w_end 2 rfl ?_
      have h := Out.inr hO1 h
      refine g_retR (c := trellisref15_Text_c31) [.string x43] rfl Try.func57 rfl (.tmp rfl (.nil)) fun wr hLr => ?_
      have hMr : B.Loc w wr [] [St w []] := hLr.pick (rest := [.own (.slice A11 n12 c13) 96 9 n12 cs16]) (perm_of_idx [] [0] rfl rfl (by kernel_rfl)) (sels [2] rfl)
      have hMi : ∀ e ∈ ([] : List Ent), e ∈ ([.own (.slice A11 n12 c13) 96 9 n12 cs16] : List Ent) := sels [] rfl
      show trellisref15_Text_R w F  r (.returned (packV [.string x43])) wr
      rw [h]
      exact ⟨rfl, hMr⟩
  exact g_go [0, 1, 2] (key1 _ h ()) ⟨rfl, rfl, rfl, trivial⟩ (.cons_cons _ (.slnil)) rfl
end Go.Proofs.Ytmekgfcfooghnaa.K
