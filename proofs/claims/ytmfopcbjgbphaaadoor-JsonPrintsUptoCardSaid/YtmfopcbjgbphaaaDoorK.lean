/- What the machine's calls do, function by function, printed by my own tool. Condition of each: its relation holds of the answer, and what is handed in lies in memory as told. -/
import Derived.Test.YtmfopcbjgbphaaaDoorK4
set_option linter.unusedVariables false
set_option maxRecDepth 100000
set_option maxHeartbeats 4000000
namespace Go.Proofs.YtmfopcbjgbphaaaDoor.K
open Go.Proofs.YtmfopcbjgbphaaaDoor.B Go.Proofs.YtmfopcbjgbphaaaDoor.R Go.RowKit
noncomputable abbrev q22c0 : Code := bodyOf Tryd.f22
noncomputable abbrev q22c1 : Code := Code.fst q22c0
noncomputable abbrev q22c2 : Code := Code.snd q22c0
noncomputable abbrev q22c3 : Code := Code.fst q22c2
noncomputable abbrev q22c4 : Code := Code.snd q22c2
noncomputable abbrev q22c5 : Code := Code.fst q22c3
noncomputable abbrev q22c6 : Code := Code.snd q22c3
noncomputable abbrev q22c7 : Code := Code.fst q22c6
noncomputable abbrev q22c8 : Code := Code.snd q22c6
noncomputable abbrev q22c9 : Code := Code.fst q22c4
noncomputable abbrev q22c10 : Code := Code.snd q22c4
noncomputable abbrev q22c11 : Code := Code.fst q22c10
noncomputable abbrev q22c12 : Code := Code.snd q22c10
noncomputable abbrev q22c13 : Code := Code.fst q22c12
noncomputable abbrev q22c14 : Code := Code.snd q22c12
noncomputable abbrev q22c15 : Code := Code.fst q22c14
noncomputable abbrev q22c16 : Code := Code.snd q22c14
noncomputable abbrev q22c17 : Code := Code.fst q22c16
noncomputable abbrev q22c18 : Code := Code.snd q22c16
noncomputable abbrev q22c19 : Code := Code.fst q22c18
noncomputable abbrev q22c20 : Code := Code.snd q22c18
noncomputable abbrev q22c21 : Code := Code.fst q22c7
noncomputable abbrev q22c22 : Code := Code.snd q22c7
abbrev json_Print_R (w : World) (F : Nat → Prop) (r : ByteArray × Int) : Ending → World → Prop := fun e w' => e = .returned (.tuple #[.string r.1, .int .i64 r.2]) ∧ B.Loc w w' [] [St w []]
noncomputable abbrev json_Print_C (w : World) (F : Nat → Prop) (r : ByteArray × Int) : Cx := ⟨Tryd.prog, 22, Tryd.f22, 14, json_Print_R w F  r, w⟩
theorem json_Print_calls (w : World) (F : Nat → Prop) (x1 : List api_JNode) (A2 : Option Addr) (n3 : Nat) (c4 : Nat) (h5 : Rw k_api_JNode w (St w []).av A2 n3 c4 x1) (hG0 : Tt .u8 tb_0 0 (St w [])) (hG1 : Tt .u8 tb_1 1 (St w [])) (hG2 : Tt .u8 tb_2 2 (St w [])) (hF : ∀ b, F b → b < w.heap.size ∧ ∀ o ∈ ([] : List (List Nat)), b ∉ o) (hL0 : B.Loc w w [] [Sm w.heap.size F w [], St w []]) (r : ByteArray × Int) (h : json_Print x1 r) : Calls Tryd.prog 22 #[.slice A2 n3 c4] w (json_Print_R w F  r) := by
 unfold json_Print at h
 refine calls_of_Loc (vs := [.slice A2 n3 c4]) 14 Tryd.func22 rfl Tryd.ntmps22 rfl hL0 ?_
 show G (json_Print_C w F r) _ _ _ _
 refine g_seq (c := q22c0) rfl ?_
 refine g_region (c := q22c1) rfl rfl ?_
 refine wl_s 0 rfl (s_box [.slice A2 n3 c4] rfl rfl rfl fun gb6 => ?_) gn
 refine wl_v 1 rfl (v_assign rfl) gn rfl ?_
 refine wl_v 2 rfl (v_assign rfl) gn rfl ?_
 refine w_end 3 rfl ?_
 refine g_seq (c := q22c2) rfl ?_
 refine g_seq (c := q22c3) rfl ?_
 refine g_region (c := q22c5) rfl rfl ?_
 refine wl_v 0 rfl (v_ldB1 0 ld_22 rfl rfl rfl) gn rfl ?_
 obtain ⟨r11, hv12, h⟩ := h
 refine wl_s 1 rfl (s_call [.slice A2 n3 c4] rfl Tryd.func21 rfl rfl rfl fun w8 hL9 => ?_) gn
 have hp10 : List.Perm ([.box gb6 22 [.slice A2 n3 c4]] : List Ent) (([] : List Ent) ++ ([.box gb6 22 [.slice A2 n3 c4]] : List Ent)) := perm_of_idx [] [0] rfl rfl (by kernel_rfl)
 refine Calls.mono (json_Shaped_calls w8 (Fl ([] : List Snap)) x1 A2 n3 c4 (Rw.mono h5 (hL9.toSt hp10 (me 1 rfl))) (hL9.tt hp10 hG1 (me 1 rfl)) (hL9.tt hp10 hG2 (me 1 rfl)) (hL9.hFl (Sl := ([] : List Snap)) hp10 (sels [] rfl)) (hL9.into hp10 (Fl ([] : List Snap))) r11 hv12) ?_
 rintro _ w13 ⟨rfl, hM14⟩
 have hL15 := hL9.call hp10 hM14
 refine ⟨_, _, _, rfl, hL15, ?_⟩
 refine wl_v 2 rfl (v_not rfl) gn rfl ?_
 refine w_end 3 rfl ?_
 by_cases hp16 : r11 = true
 ·have h := if_pos' hp16 h
  refine g_false (c := q22c6) rfl _ rfl ((nf hp16)) ?_
  refine g_skip (c := q22c8) rfl ?_
  refine g_seq (c := q22c4) rfl ?_
  refine g_region (c := q22c9) rfl rfl ?_
  refine wl_s 0 rfl (s_alloc [.pointer none, .slice none 0 0] zr_56 rfl fun gb17 => ?_) gn
  refine w_end 1 rfl ?_
  refine g_seq (c := q22c10) rfl ?_
  refine g_region (c := q22c11) rfl rfl ?_
  refine wl_s 0 rfl (s_alloc [.int .i64 0] zr_3 rfl fun gb19 => ?_) gn
  refine wl_s 1 rfl (s_stB (vs := [.int .i64 0]) (cs' := [.int .i64 0]) (M' := [.box gb19 3 [.int .i64 0], .box gb17 56 [.pointer none, .slice none 0 0], .box gb6 22 [.slice A2 n3 c4]]) 0 sz_3 rfl rfl rfl rfl rfl rfl rfl rfl rfl ?_) gn
  refine w_end 2 rfl ?_
  refine g_seq (c := q22c12) rfl ?_
  refine g_region (c := q22c13) rfl rfl ?_
  refine wl_s 0 rfl (s_alloc [.nilFunc] zr_57 rfl fun gb21 => ?_) gn
  refine w_end 1 rfl ?_
  refine g_seq (c := q22c14) rfl ?_
  refine g_region (c := q22c15) rfl rfl ?_
  refine wl_v 0 rfl (v_makeFunc [.pointer (some ⟨gb6, 0, none⟩), .pointer (some ⟨gb19, 0, none⟩), .pointer (some ⟨gb17, 0, none⟩), .pointer (some ⟨gb21, 0, none⟩)] rfl) gn rfl ?_
  refine wl_s 1 rfl (s_stB (vs := [.func (.func 34) #[] #[.pointer (some ⟨gb6, 0, none⟩), .pointer (some ⟨gb19, 0, none⟩), .pointer (some ⟨gb17, 0, none⟩), .pointer (some ⟨gb21, 0, none⟩)]]) (cs' := [.func (.func 34) #[] #[.pointer (some ⟨gb6, 0, none⟩), .pointer (some ⟨gb19, 0, none⟩), .pointer (some ⟨gb17, 0, none⟩), .pointer (some ⟨gb21, 0, none⟩)]]) (M' := [.box gb21 57 [.func (.func 34) #[] #[.pointer (some ⟨gb6, 0, none⟩), .pointer (some ⟨gb19, 0, none⟩), .pointer (some ⟨gb17, 0, none⟩), .pointer (some ⟨gb21, 0, none⟩)]], .box gb19 3 [.int .i64 0], .box gb17 56 [.pointer none, .slice none 0 0], .box gb6 22 [.slice A2 n3 c4]]) 0 sz_57 rfl rfl rfl rfl rfl rfl rfl rfl rfl ?_) gn
  refine w_end 2 rfl ?_
  refine g_seq (c := q22c16) rfl ?_
  refine g_region (c := q22c17) rfl rfl ?_
  refine wl_v 0 rfl (v_ldB1 0 ld_57 rfl rfl rfl) gn rfl ?_
  obtain ⟨r27, hv28, h⟩ := h
  refine w_nil 5 1 ?_
  refine wl_s 1 rfl (s_callC [.bool false] [.pointer (some ⟨gb6, 0, none⟩), .pointer (some ⟨gb19, 0, none⟩), .pointer (some ⟨gb17, 0, none⟩), .pointer (some ⟨gb21, 0, none⟩)] rfl rfl Tryd.func34 rfl rfl rfl fun w23 hL24 => ?_) gn
  have hp25 : List.Perm ([.own (.slice none 0 0) 5 1 0 (([] : List Int).flatMap (eI .u8)), .box gb21 57 [.func (.func 34) #[] #[.pointer (some ⟨gb6, 0, none⟩), .pointer (some ⟨gb19, 0, none⟩), .pointer (some ⟨gb17, 0, none⟩), .pointer (some ⟨gb21, 0, none⟩)]], .box gb19 3 [.int .i64 0], .box gb17 56 [.pointer none, .slice none 0 0], .box gb6 22 [.slice A2 n3 c4]] : List Ent) (([.box gb6 22 [.slice A2 n3 c4], .box gb19 3 [.int .i64 0], .box gb17 56 [.pointer none, .slice none 0 0], .own (.slice none 0 0) 5 1 0 (([] : List Int).flatMap (eI .u8)), .box gb21 57 [.func (.func 34) #[] #[.pointer (some ⟨gb6, 0, none⟩), .pointer (some ⟨gb19, 0, none⟩), .pointer (some ⟨gb17, 0, none⟩), .pointer (some ⟨gb21, 0, none⟩)]]] : List Ent) ++ ([] : List Ent)) := perm_of_idx [4, 2, 3, 0, 1] [] rfl rfl (by kernel_rfl)
  refine Calls.mono (json_Print_1_calls w23 (Fl ([St w []] : List Snap)) false x1 0 (⟨false, ([] : List Int)⟩ : strings_Builder) gb6 22 A2 n3 c4 gb19 3 gb17 w.heap.size none 0 0 gb21 57 (Rw.mono h5 (hL24.toFl (me 1 rfl) (me 0 rfl))) hL24.env.size (Ow.nil (z := w.heap.size)) (hL24.tt hp25 hG0 (me 1 rfl)) (hL24.hFl (Sl := ([St w []] : List Snap)) hp25 (sels [1] rfl)) (hL24.into hp25 (Fl ([St w []] : List Snap))) r27 hv28) ?_
  rintro _ w38 ⟨A33, n34, c35, A29, n30, c31, rfl, hM39, h36, h32⟩
  obtain ⟨sv42, hL40, hv41⟩ := hL24.callN (Sl := ([St w []] : List Snap)) hp25 hM39 (sels [1] rfl)
  have h32 : At k_api_JNode (sv42) A29 n30 c31 r27.1 := Rw.mono h32 hv41
  refine ⟨_, _, _, rfl, hL40, ?_⟩
  refine w_end 2 rfl ?_
  refine g_seq (c := q22c18) rfl ?_
  refine g_region (c := q22c19) rfl rfl ?_
  obtain ⟨r46, hv47, h⟩ := h
  refine wl_s 0 rfl (s_call [.pointer (some ⟨gb17, 0, none⟩)] rfl Tryd.func38 rfl rfl rfl fun w43 hL44 => ?_) gn
  have hp45 : List.Perm ([.box gb6 22 [.slice A29 n30 c31], .box gb19 3 [.int .i64 r27.2.1], .box gb17 56 [selfP gb17 r27.2.2.addr, .slice A33 n34 c35], .box gb21 57 [.func (.func 34) #[] #[.pointer (some ⟨gb6, 0, none⟩), .pointer (some ⟨gb19, 0, none⟩), .pointer (some ⟨gb17, 0, none⟩), .pointer (some ⟨gb21, 0, none⟩)]], .own (.slice A33 n34 c35) 5 1 n34 (r27.2.2.buf.flatMap (eI .u8))] : List Ent) (([.box gb17 56 [selfP gb17 r27.2.2.addr, .slice A33 n34 c35], .own (.slice A33 n34 c35) 5 1 n34 (r27.2.2.buf.flatMap (eI .u8))] : List Ent) ++ ([.box gb6 22 [.slice A29 n30 c31], .box gb19 3 [.int .i64 r27.2.1], .box gb21 57 [.func (.func 34) #[] #[.pointer (some ⟨gb6, 0, none⟩), .pointer (some ⟨gb19, 0, none⟩), .pointer (some ⟨gb17, 0, none⟩), .pointer (some ⟨gb21, 0, none⟩)]]] : List Ent)) := perm_of_idx [2, 4] [0, 1, 3] rfl rfl (by kernel_rfl)
  refine Calls.mono (strings_Builder_String_calls w43 (Fl ([] : List Snap)) r27.2.2 gb17 w.heap.size A33 n34 c35 hL44.env.size h36 (hL44.hFl (Sl := ([] : List Snap)) hp45 (sels [] rfl)) (hL44.into hp45 (Fl ([] : List Snap))) r46 hv47) ?_
  rintro _ w48 ⟨rfl, hM49⟩
  have hL50 := hL44.call hp45 hM49
  refine ⟨_, _, _, rfl, hL50, ?_⟩
  refine wl_v 1 rfl (v_assign rfl) gn rfl ?_
  refine wl_v 2 rfl (v_assign rfl) gn rfl ?_
  refine w_end 3 rfl ?_
  refine g_retR (c := q22c20) [.string r46, .int .i64 0] rfl Tryd.func22 rfl (.tmp rfl (.tmp rfl (.nil))) fun wr hLr => ?_
  have hMr : B.Loc w wr [] [St w []] := hLr.pick0 (sels [2] rfl)
  show json_Print_R w F  r (.returned (packV [.string r46, .int .i64 0])) wr
  rw [h]
  exact ⟨rfl, hMr⟩
 ·have h := if_neg' hp16 h
  refine g_true (c := q22c6) rfl _ rfl ((nt (bf hp16))) ?_
  refine g_seq (c := q22c7) rfl ?_
  refine g_region (c := q22c21) rfl rfl ?_
  refine wl_v 0 rfl (v_assign rfl) gn rfl ?_
  refine wl_v 1 rfl (v_assign rfl) gn rfl ?_
  refine w_end 2 rfl ?_
  refine g_retR (c := q22c22) [.string (⟨#[]⟩ : ByteArray), .int .i64 43] rfl Tryd.func22 rfl (.tmp rfl (.tmp rfl (.nil))) fun wr hLr => ?_
  have hMr : B.Loc w wr [] [St w []] := hLr.pick0 (sels [1] rfl)
  show json_Print_R w F  r (.returned (packV [.string (⟨#[]⟩ : ByteArray), .int .i64 43])) wr
  rw [h]
  exact ⟨rfl, hMr⟩
noncomputable abbrev q52c0 : Code := bodyOf Tryd.f52
noncomputable abbrev q52c1 : Code := Code.fst q52c0
noncomputable abbrev q52c2 : Code := Code.snd q52c0
noncomputable abbrev q52c3 : Code := Code.fst q52c2
noncomputable abbrev q52c4 : Code := Code.snd q52c2
noncomputable abbrev q52c5 : Code := Code.fst q52c4
noncomputable abbrev q52c6 : Code := Code.snd q52c4
noncomputable abbrev q52c7 : Code := Code.fst q52c5
noncomputable abbrev q52c8 : Code := Code.snd q52c5
noncomputable abbrev q52c9 : Code := Code.fst q52c8
noncomputable abbrev q52c10 : Code := Code.fst q52c9
noncomputable abbrev q52c11 : Code := Code.fst q52c10
noncomputable abbrev q52c12 : Code := Code.snd q52c10
noncomputable abbrev q52c13 : Code := Code.fst q52c11
noncomputable abbrev q52c14 : Code := Code.snd q52c11
noncomputable abbrev q52c15 : Code := Code.fst q52c14
noncomputable abbrev q52c16 : Code := Code.snd q52c14
noncomputable abbrev q52c17 : Code := Code.fst q52c12
noncomputable abbrev q52c18 : Code := Code.snd q52c12
noncomputable abbrev q52c19 : Code := Code.fst q52c17
noncomputable abbrev q52c20 : Code := Code.fst q52c19
noncomputable abbrev q52c21 : Code := Code.snd q52c19
noncomputable abbrev q52c22 : Code := Code.fst q52c21
noncomputable abbrev q52c23 : Code := Code.snd q52c21
noncomputable abbrev q52c24 : Code := Code.fst q52c22
noncomputable abbrev q52c25 : Code := Code.snd q52c22
noncomputable abbrev q52c26 : Code := Code.fst q52c25
noncomputable abbrev q52c27 : Code := Code.snd q52c25
noncomputable abbrev q52c28 : Code := Code.fst q52c23
noncomputable abbrev q52c29 : Code := Code.snd q52c23
noncomputable abbrev q52c30 : Code := Code.fst q52c28
noncomputable abbrev q52c31 : Code := Code.snd q52c28
noncomputable abbrev q52c32 : Code := Code.fst q52c31
noncomputable abbrev q52c33 : Code := Code.fst q52c32
noncomputable abbrev q52c34 : Code := Code.fst q52c33
noncomputable abbrev q52c35 : Code := Code.snd q52c33
noncomputable abbrev q52c36 : Code := Code.fst q52c34
noncomputable abbrev q52c37 : Code := Code.snd q52c34
noncomputable abbrev q52c38 : Code := Code.fst q52c37
noncomputable abbrev q52c39 : Code := Code.snd q52c37
noncomputable abbrev q52c40 : Code := Code.fst q52c35
noncomputable abbrev q52c41 : Code := Code.snd q52c35
noncomputable abbrev q52c42 : Code := Code.fst q52c40
noncomputable abbrev q52c43 : Code := Code.fst q52c42
noncomputable abbrev q52c44 : Code := Code.snd q52c42
noncomputable abbrev q52c45 : Code := Code.fst q52c44
noncomputable abbrev q52c46 : Code := Code.snd q52c44
noncomputable abbrev q52c47 : Code := Code.fst q52c6
noncomputable abbrev q52c48 : Code := Code.snd q52c6
abbrev trellisref25_Quote_R (w : World) (F : Nat → Prop) (r : ByteArray) : Ending → World → Prop := fun e w' => e = .returned (.string r) ∧ B.Loc w w' [] [St w []]
noncomputable abbrev trellisref25_Quote_C (w : World) (F : Nat → Prop) (r : ByteArray) : Cx := ⟨Tryd.prog, 52, Tryd.f52, 64, trellisref25_Quote_R w F  r, w⟩
theorem trellisref25_Quote_calls (w : World) (F : Nat → Prop) (x1 : ByteArray) (hF : ∀ b, F b → b < w.heap.size ∧ ∀ o ∈ ([] : List (List Nat)), b ∉ o) (hL0 : B.Loc w w [] [Sm w.heap.size F w [], St w []]) (r : ByteArray) (h : trellisref25_Quote x1 r) : Calls Tryd.prog 52 #[.string x1] w (trellisref25_Quote_R w F  r) := by
 unfold trellisref25_Quote at h
 refine calls_of_Loc (vs := [.string x1]) 64 Tryd.func52 rfl Tryd.ntmps52 rfl hL0 ?_
 show G (trellisref25_Quote_C w F r) _ _ _ _
 refine g_seq (c := q52c0) rfl ?_
 refine g_region (c := q52c1) rfl rfl ?_
 refine wl_v 0 rfl (v_assign rfl) gn rfl ?_
 refine w_end 1 rfl ?_
 refine g_seq (c := q52c2) rfl ?_
 refine g_region (c := q52c3) rfl rfl ?_
 refine wl_v 0 rfl (v_assign rfl) gn rfl ?_
 refine w_end 1 rfl ?_
 refine g_seq (c := q52c4) rfl ?_
 refine g_seq (c := q52c5) rfl ?_
 refine g_region (c := q52c7) rfl rfl ?_
 refine wl_v 0 rfl (v_assign rfl) gn rfl ?_
 refine w_end 1 rfl ?_
 refine g_block (c := q52c8) rfl ?_
 refine g_loop (c := q52c9) rfl ?_
 have key1 : ∀ s, Rounds (fun (s : ByteArray × Int) o => trellisref25_Quote_b1 x1 s.1 s.2 o) s r → (fun (s : ByteArray × Int) => ∀ (_ : Unit), G (trellisref25_Quote_C w F r) [.code q52c10, .inLoop q52c10, .inBlock 0, .code q52c6] [(0, .string x1), (3, .string s.1), (4, .int .i64 s.2)] [] [Sm w.heap.size F w [], St w []]) s := by
  intro s hs
  refine Rounds.ind (mot := (fun (s : ByteArray × Int) => ∀ (_ : Unit), G (trellisref25_Quote_C w F r) [.code q52c10, .inLoop q52c10, .inBlock 0, .code q52c6] [(0, .string x1), (3, .string s.1), (4, .int .i64 s.2)] [] [Sm w.heap.size F w [], St w []])) ?_ hs
  clear hs s
  intro s o1 h hO1
  obtain ⟨x37, x38⟩ := s
  show ∀ (_ : Unit), G (trellisref25_Quote_C w F r) [.code q52c10, .inLoop q52c10, .inBlock 0, .code q52c6] [(0, .string x1), (3, .string x37), (4, .int .i64 x38)] [] [Sm w.heap.size F w [], St w []]
  intro _
  have h : trellisref25_Quote_b1 x1 x37 x38 o1 := h
  unfold trellisref25_Quote_b1 at h
  refine g_seq (c := q52c10) rfl ?_
  refine g_seq (c := q52c11) rfl ?_
  refine g_region (c := q52c13) rfl rfl ?_
  refine wl_v 0 rfl (v_move rfl) gn rfl ?_
  refine wl_v 1 rfl (v_move rfl) gn rfl ?_
  refine wl_v 2 rfl (v_lenS un_9 rfl) gn rfl ?_
  refine wl_v 3 rfl (v_bin rfl rfl rfl) gn rfl ?_
  refine w_end 4 rfl ?_
  by_cases hp73 : x38 < (x1.size : Int)
  ·have h := if_pos' hp73 h
   refine g_true (c := q52c14) rfl _ rfl ((decide_eq_true hp73)) ?_
   refine g_skip (c := q52c15) rfl ?_
   refine g_seq (c := q52c12) rfl ?_
   refine g_block (c := q52c17) rfl ?_
   refine g_seq (c := q52c19) rfl ?_
   refine g_region (c := q52c20) rfl rfl ?_
   refine wl_v 0 rfl (v_move rfl) gn rfl ?_
   refine wl_v 1 rfl (v_move rfl) gn rfl ?_
   refine wl_v 2 rfl (v_move rfl) gn rfl ?_
   refine wl_v 3 rfl (v_bin rfl rfl rfl) gn rfl ?_
   obtain ⟨hb74, h⟩ := h
   refine wl_v 4 rfl (v_cutS x38 (w64 (x38 + 1)) un_9 rfl (.inr ⟨_, _, rfl, rfl⟩) (.inr ⟨_, _, rfl, rfl⟩) ⟨hb74.1, hb74.2.1⟩ hb74.2.2) gn rfl ?_
   refine wl_v 5 rfl (v_assign rfl) gn rfl ?_
   refine w_end 6 rfl ?_
   refine g_seq (c := q52c21) rfl ?_
   refine g_seq (c := q52c22) rfl ?_
   refine g_region (c := q52c24) rfl rfl ?_
   refine wl_v 0 rfl (v_move rfl) gn rfl ?_
   refine wl_v 1 rfl (v_move rfl) gn rfl ?_
   obtain ⟨hb75, h⟩ := h
   refine wl_v 2 rfl (v_indexS un_9 rfl rfl hb75) gn rfl ?_
   refine wl_v 3 rfl (v_bin rfl rfl rfl) gn rfl ?_
   refine w_end 4 rfl ?_
   have j2 : ∀ (x82 : ByteArray) (h : trellisref25_Quote_j2 x1 x38 x37 x82 o1) , G (trellisref25_Quote_C w F r) [.code q52c23, .inBlock 1, .code q52c18, .inLoop q52c10, .inBlock 0, .code q52c6] [(0, .string x1), (3, .string x37), (4, .int .i64 x38), (5, .string x82)] [] [Sm w.heap.size F w [], St w []] := by
    intro x82 h
    unfold trellisref25_Quote_j2 at h
    refine g_seq (c := q52c23) rfl ?_
    refine g_seq (c := q52c28) rfl ?_
    refine g_region (c := q52c30) rfl rfl ?_
    refine wl_v 0 rfl (v_assign rfl) gn rfl ?_
    refine w_end 1 rfl ?_
    refine g_block (c := q52c31) rfl ?_
    refine g_loop (c := q52c32) rfl ?_
    have key3 : ∀ s, Rounds (fun (s : ByteArray × Int) o => trellisref25_Quote_b3 x1 x38 x37 s.1 s.2 o) s o1 → (fun (s : ByteArray × Int) => ∀ (_ : Unit), G (trellisref25_Quote_C w F r) [.code q52c33, .inLoop q52c33, .inBlock 2, .code q52c29, .inBlock 1, .code q52c18, .inLoop q52c10, .inBlock 0, .code q52c6] [(0, .string x1), (3, .string x37), (4, .int .i64 x38), (5, .string s.1), (6, .int .i64 s.2)] [] [Sm w.heap.size F w [], St w []]) s := by
     intro s hs
     refine Rounds.ind (mot := (fun (s : ByteArray × Int) => ∀ (_ : Unit), G (trellisref25_Quote_C w F r) [.code q52c33, .inLoop q52c33, .inBlock 2, .code q52c29, .inBlock 1, .code q52c18, .inLoop q52c10, .inBlock 0, .code q52c6] [(0, .string x1), (3, .string x37), (4, .int .i64 x38), (5, .string s.1), (6, .int .i64 s.2)] [] [Sm w.heap.size F w [], St w []])) ?_ hs
     clear hs s
     intro s o2 h hO2
     obtain ⟨x88, x89⟩ := s
     show ∀ (_ : Unit), G (trellisref25_Quote_C w F r) [.code q52c33, .inLoop q52c33, .inBlock 2, .code q52c29, .inBlock 1, .code q52c18, .inLoop q52c10, .inBlock 0, .code q52c6] [(0, .string x1), (3, .string x37), (4, .int .i64 x38), (5, .string x88), (6, .int .i64 x89)] [] [Sm w.heap.size F w [], St w []]
     intro _
     have h : trellisref25_Quote_b3 x1 x38 x37 x88 x89 o2 := h
     unfold trellisref25_Quote_b3 at h
     refine g_seq (c := q52c33) rfl ?_
     refine g_seq (c := q52c34) rfl ?_
     refine g_region (c := q52c36) rfl rfl ?_
     refine wl_v 0 rfl (v_move rfl) gn rfl ?_
     refine wl_v 1 rfl (v_bin rfl rfl rfl) gn rfl ?_
     refine w_end 2 rfl ?_
     by_cases hp96 : x89 < 7
     ·have h := if_pos' hp96 h
      refine g_true (c := q52c37) rfl _ rfl ((decide_eq_true hp96)) ?_
      refine g_skip (c := q52c38) rfl ?_
      refine g_seq (c := q52c35) rfl ?_
      refine g_block (c := q52c40) rfl ?_
      refine g_seq (c := q52c42) rfl ?_
      obtain ⟨hb97, h⟩ := h
      have hns : Region.noSelect (Code.ops q52c43) = true := by kernel_rfl
      refine g_drawF (c := q52c43) [] [Sm w.heap.size F w [], St w []] [] 6 rfl rfl mix rfl (.slnil) (sels [0, 1] rfl) ?_
      refine wfv 0 rfl (v_move rfl) gn hns rfl ?_
      refine wfv 1 rfl (v_indexS un_9 rfl rfl hb97) gn hns rfl ?_
      refine wfv 2 rfl (v_move rfl) gn hns rfl ?_
      refine wfv 3 rfl (v_move rfl) gn hns rfl ?_
      refine wfv 4 rfl (v_indexS un_9 rfl rfl hb75) gn hns rfl ?_
      refine wfv 5 rfl (v_bin rfl rfl rfl) gn hns rfl ?_
      refine wf_end (by kernel_rfl) ?_
      by_cases hp98 : bt (⟨#[34, 92, 8, 12, 10, 13, 9]⟩ : ByteArray) x89 = bt x1 x38
      ·have h := if_pos' hp98 h
       refine g_true (c := q52c44) rfl _ rfl ((eqi hp98)) ?_
       refine g_region (c := q52c45) rfl rfl ?_
       refine wl_v 0 rfl (v_move rfl) gn rfl ?_
       refine wl_v 1 rfl (v_move rfl) gn rfl ?_
       refine wl_v 2 rfl (v_bin rfl rfl rfl) gn rfl ?_
       obtain ⟨hb99, h⟩ := h
       refine wl_v 3 rfl (v_cutS x89 (w64 (x89 + 1)) un_9 rfl (.inr ⟨_, _, rfl, rfl⟩) (.inr ⟨_, _, rfl, rfl⟩) ⟨hb99.1, hb99.2.1⟩ hb99.2.2) gn rfl ?_
       obtain ⟨hb100, h⟩ := h
       refine wl_v 4 rfl (v_catS rfl rfl hb100) gn rfl ?_
       refine wl_v 5 rfl (v_assign rfl) gn rfl ?_
       refine w_end 6 rfl ?_
       refine g_inBlock ?_
       refine g_region (c := q52c41) rfl rfl ?_
       refine wl_v 0 rfl (v_move rfl) gn rfl ?_
       refine wl_v 1 rfl (v_bin rfl rfl rfl) gn rfl ?_
       refine wl_v 2 rfl (v_assign rfl) gn rfl ?_
       refine w_end 3 rfl ?_
       refine g_inLoop ?_
       have ih := Out.inl hO2 h
       exact g_go [0, 1] (ih ()) ⟨rfl, rfl, rfl, rfl, rfl, trivial⟩ (.slnil) rfl
      ·have h := if_neg' hp98 h
       refine g_false (c := q52c44) rfl _ rfl ((nei hp98)) ?_
       refine g_skip (c := q52c46) rfl ?_
       refine g_inBlock ?_
       refine g_region (c := q52c41) rfl rfl ?_
       refine wl_v 0 rfl (v_move rfl) gn rfl ?_
       refine wl_v 1 rfl (v_bin rfl rfl rfl) gn rfl ?_
       refine wl_v 2 rfl (v_assign rfl) gn rfl ?_
       refine w_end 3 rfl ?_
       refine g_inLoop ?_
       have ih := Out.inl hO2 h
       exact g_go [0, 1] (ih ()) ⟨rfl, rfl, rfl, rfl, rfl, trivial⟩ (.slnil) rfl
     ·have h := if_neg' hp96 h
      refine g_false (c := q52c37) rfl _ rfl ((decide_eq_false hp96)) ?_
      refine g_exit (c := q52c39) [.code q52c29, .inBlock 1, .code q52c18, .inLoop q52c10, .inBlock 0, .code q52c6] rfl rfl ?_
      refine g_region (c := q52c29) rfl rfl ?_
      refine wl_v 0 rfl (v_move rfl) gn rfl ?_
      refine wl_v 1 rfl (v_move rfl) gn rfl ?_
      obtain ⟨hb101, h⟩ := h
      refine wl_v 2 rfl (v_catS rfl rfl hb101) gn rfl ?_
      refine wl_v 3 rfl (v_assign rfl) gn rfl ?_
      refine w_end 4 rfl ?_
      refine g_inBlock ?_
      refine g_region (c := q52c18) rfl rfl ?_
      refine wl_v 0 rfl (v_move rfl) gn rfl ?_
      refine wl_v 1 rfl (v_bin rfl rfl rfl) gn rfl ?_
      refine wl_v 2 rfl (v_assign rfl) gn rfl ?_
      refine w_end 3 rfl ?_
      refine g_inLoop ?_
      have h := Out.inr hO2 h
      have ih := Out.inl hO1 h
      exact g_go [0, 1] (ih ()) ⟨rfl, rfl, rfl, trivial⟩ (.slnil) rfl
    exact g_go [0, 1] (key3 _ h ()) ⟨rfl, rfl, rfl, rfl, rfl, trivial⟩ (.slnil) rfl
   by_cases hp76 : bt x1 x38 < 32
   ·have h := if_pos' hp76 h
    refine g_true (c := q52c25) rfl _ rfl ((decide_eq_true hp76)) ?_
    obtain ⟨hb102, h⟩ := h
    obtain ⟨hb103, h⟩ := h
    obtain ⟨hb104, h⟩ := h
    obtain ⟨hb105, h⟩ := h
    have hns : Region.noSelect (Code.ops q52c26) = true := by kernel_rfl
    refine g_drawF (c := q52c26) [] [Sm w.heap.size F w [], St w []] [] 23 rfl rfl mix rfl (.slnil) (sels [0, 1] rfl) ?_
    refine wfv 0 rfl (v_move rfl) gn hns rfl ?_
    refine wfv 1 rfl (v_move rfl) gn hns rfl ?_
    refine wfv 2 rfl (v_indexS un_9 rfl rfl hb75) gn hns rfl ?_
    refine wfv 3 rfl (v_quo rfl rfl (by decide)) gn hns rfl ?_
    refine wfv 4 rfl (v_move rfl) gn hns rfl ?_
    refine wfv 5 rfl (v_move rfl) gn hns rfl ?_
    refine wfv 6 rfl (v_indexS un_9 rfl rfl hb75) gn hns rfl ?_
    refine wfv 7 rfl (v_quo rfl rfl (by decide)) gn hns rfl ?_
    refine wfv 8 rfl (v_bin rfl rfl rfl) gn hns rfl ?_
    refine wfv 9 rfl (v_cutS (IntKind.u8.wrap (Int.tdiv (bt x1 x38) 16)) (IntKind.u8.wrap ((IntKind.u8.wrap (Int.tdiv (bt x1 x38) 16)) + 1)) un_9 rfl (.inr ⟨_, _, rfl, rfl⟩) (.inr ⟨_, _, rfl, rfl⟩) ⟨hb102.1, hb102.2.1⟩ hb102.2.2) gn hns rfl ?_
    refine wfv 10 rfl (v_catS rfl rfl hb103) gn hns rfl ?_
    refine wfv 11 rfl (v_move rfl) gn hns rfl ?_
    refine wfv 12 rfl (v_move rfl) gn hns rfl ?_
    refine wfv 13 rfl (v_indexS un_9 rfl rfl hb75) gn hns rfl ?_
    refine wfv 14 rfl (v_rem rfl rfl (by decide)) gn hns rfl ?_
    refine wfv 15 rfl (v_move rfl) gn hns rfl ?_
    refine wfv 16 rfl (v_move rfl) gn hns rfl ?_
    refine wfv 17 rfl (v_indexS un_9 rfl rfl hb75) gn hns rfl ?_
    refine wfv 18 rfl (v_rem rfl rfl (by decide)) gn hns rfl ?_
    refine wfv 19 rfl (v_bin rfl rfl rfl) gn hns rfl ?_
    refine wfv 20 rfl (v_cutS (Int.tmod (bt x1 x38) 16) (IntKind.u8.wrap ((Int.tmod (bt x1 x38) 16) + 1)) un_9 rfl (.inr ⟨_, _, rfl, rfl⟩) (.inr ⟨_, _, rfl, rfl⟩) ⟨hb104.1, hb104.2.1⟩ hb104.2.2) gn hns rfl ?_
    refine wfv 21 rfl (v_catS rfl rfl hb105) gn hns rfl ?_
    refine wfv 22 rfl (v_assign rfl) gn hns rfl ?_
    refine wf_end (by kernel_rfl) ?_
    exact g_go [0, 1] (j2 (((⟨#[92, 117, 48, 48]⟩ : ByteArray) ++ ((⟨#[48, 49, 50, 51, 52, 53, 54, 55, 56, 57, 97, 98, 99, 100, 101, 102, 65, 66, 67, 68, 69, 70]⟩ : ByteArray).extract (IntKind.u8.wrap (Int.tdiv (bt x1 x38) 16) : Int).toNat (IntKind.u8.wrap ((IntKind.u8.wrap (Int.tdiv (bt x1 x38) 16)) + 1) : Int).toNat)) ++ ((⟨#[48, 49, 50, 51, 52, 53, 54, 55, 56, 57, 97, 98, 99, 100, 101, 102, 65, 66, 67, 68, 69, 70]⟩ : ByteArray).extract (Int.tmod (bt x1 x38) 16 : Int).toNat (IntKind.u8.wrap ((Int.tmod (bt x1 x38) 16) + 1) : Int).toNat)) h) ⟨rfl, rfl, rfl, rfl, trivial⟩ (.slnil) rfl
   ·have h := if_neg' hp76 h
    refine g_false (c := q52c25) rfl _ rfl ((decide_eq_false hp76)) ?_
    refine g_skip (c := q52c27) rfl ?_
    exact g_go [0, 1] (j2 (x1.extract (x38 : Int).toNat (w64 (x38 + 1) : Int).toNat) h) ⟨rfl, rfl, rfl, rfl, trivial⟩ (.slnil) rfl
  ·have h := if_neg' hp73 h
   refine g_false (c := q52c14) rfl _ rfl ((decide_eq_false hp73)) ?_
   refine g_exit (c := q52c16) [.code q52c6] rfl rfl ?_
   refine g_seq (c := q52c6) rfl ?_
   refine g_region (c := q52c47) rfl rfl ?_
   refine wl_v 0 rfl (v_move rfl) gn rfl ?_
   obtain ⟨hb106, h⟩ := h
   refine wl_v 1 rfl (v_catS rfl rfl hb106) gn rfl ?_
   refine wl_v 2 rfl (v_assign rfl) gn rfl ?_
   refine w_end 3 rfl ?_
   have h := Out.inr hO1 h
   refine g_retR (c := q52c48) [.string (x37 ++ (⟨#[34]⟩ : ByteArray))] rfl Tryd.func52 rfl (.tmp rfl (.nil)) fun wr hLr => ?_
   have hMr : B.Loc w wr [] [St w []] := hLr.pick0 (sels [1] rfl)
   show trellisref25_Quote_R w F  r (.returned (packV [.string (x37 ++ (⟨#[34]⟩ : ByteArray))])) wr
   rw [h]
   exact ⟨rfl, hMr⟩
 exact g_go [0, 1] (key1 _ h ()) ⟨rfl, rfl, rfl, trivial⟩ (.slnil) rfl
noncomputable abbrev q39c0 : Code := bodyOf Tryd.f39
noncomputable abbrev q39c1 : Code := Code.fst q39c0
noncomputable abbrev q39c2 : Code := Code.snd q39c0
noncomputable abbrev q39c3 : Code := Code.fst q39c2
noncomputable abbrev q39c4 : Code := Code.snd q39c2
noncomputable abbrev q39c5 : Code := Code.fst q39c4
noncomputable abbrev q39c6 : Code := Code.snd q39c4
noncomputable abbrev q39c7 : Code := Code.fst q39c5
noncomputable abbrev q39c8 : Code := Code.snd q39c5
noncomputable abbrev q39c9 : Code := Code.fst q39c8
noncomputable abbrev q39c10 : Code := Code.fst q39c9
noncomputable abbrev q39c11 : Code := Code.snd q39c9
noncomputable abbrev q39c12 : Code := Code.fst q39c11
noncomputable abbrev q39c13 : Code := Code.snd q39c11
noncomputable abbrev q39c14 : Code := Code.fst q39c12
noncomputable abbrev q39c15 : Code := Code.snd q39c12
noncomputable abbrev q39c16 : Code := Code.fst q39c13
noncomputable abbrev q39c17 : Code := Code.snd q39c13
noncomputable abbrev q39c18 : Code := Code.fst q39c17
noncomputable abbrev q39c19 : Code := Code.snd q39c17
noncomputable abbrev q39c20 : Code := Code.fst q39c18
noncomputable abbrev q39c21 : Code := Code.snd q39c18
noncomputable abbrev q39c22 : Code := Code.fst q39c19
noncomputable abbrev q39c23 : Code := Code.snd q39c19
noncomputable abbrev q39c24 : Code := Code.fst q39c23
noncomputable abbrev q39c25 : Code := Code.snd q39c23
noncomputable abbrev q39c26 : Code := Code.fst q39c24
noncomputable abbrev q39c27 : Code := Code.snd q39c24
noncomputable abbrev q39c28 : Code := Code.fst q39c25
noncomputable abbrev q39c29 : Code := Code.snd q39c25
noncomputable abbrev q39c30 : Code := Code.fst q39c29
noncomputable abbrev q39c31 : Code := Code.snd q39c29
noncomputable abbrev q39c32 : Code := Code.fst q39c30
noncomputable abbrev q39c33 : Code := Code.snd q39c30
noncomputable abbrev q39c34 : Code := Code.fst q39c31
noncomputable abbrev q39c35 : Code := Code.snd q39c31
noncomputable abbrev q39c36 : Code := Code.fst q39c35
noncomputable abbrev q39c37 : Code := Code.snd q39c35
noncomputable abbrev q39c38 : Code := Code.fst q39c36
noncomputable abbrev q39c39 : Code := Code.snd q39c36
noncomputable abbrev q39c40 : Code := Code.fst q39c6
noncomputable abbrev q39c41 : Code := Code.snd q39c6
noncomputable abbrev q39c42 : Code := Code.fst q39c41
noncomputable abbrev q39c43 : Code := Code.snd q39c41
noncomputable abbrev q39c44 : Code := Code.fst q39c43
noncomputable abbrev q39c45 : Code := Code.snd q39c43
noncomputable abbrev q39c46 : Code := Code.fst q39c44
noncomputable abbrev q39c47 : Code := Code.snd q39c44
noncomputable abbrev q39c48 : Code := Code.fst q39c47
noncomputable abbrev q39c49 : Code := Code.fst q39c48
noncomputable abbrev q39c50 : Code := Code.fst q39c49
noncomputable abbrev q39c51 : Code := Code.snd q39c49
noncomputable abbrev q39c52 : Code := Code.fst q39c50
noncomputable abbrev q39c53 : Code := Code.snd q39c50
noncomputable abbrev q39c54 : Code := Code.fst q39c53
noncomputable abbrev q39c55 : Code := Code.snd q39c53
noncomputable abbrev q39c56 : Code := Code.fst q39c51
noncomputable abbrev q39c57 : Code := Code.snd q39c51
noncomputable abbrev q39c58 : Code := Code.fst q39c56
noncomputable abbrev q39c59 : Code := Code.fst q39c58
noncomputable abbrev q39c60 : Code := Code.snd q39c58
noncomputable abbrev q39c61 : Code := Code.fst q39c59
noncomputable abbrev q39c62 : Code := Code.snd q39c59
noncomputable abbrev q39c63 : Code := Code.fst q39c62
noncomputable abbrev q39c64 : Code := Code.snd q39c62
noncomputable abbrev q39c65 : Code := Code.fst q39c60
noncomputable abbrev q39c66 : Code := Code.snd q39c60
noncomputable abbrev q39c67 : Code := Code.fst q39c65
noncomputable abbrev q39c68 : Code := Code.snd q39c65
noncomputable abbrev q39c69 : Code := Code.fst q39c68
noncomputable abbrev q39c70 : Code := Code.snd q39c68
noncomputable abbrev q39c71 : Code := Code.fst q39c45
noncomputable abbrev q39c72 : Code := Code.snd q39c45
noncomputable abbrev q39c73 : Code := Code.fst q39c71
noncomputable abbrev q39c74 : Code := Code.snd q39c71
noncomputable abbrev q39c75 : Code := Code.fst q39c74
noncomputable abbrev q39c76 : Code := Code.snd q39c74
noncomputable abbrev q39c77 : Code := Code.fst q39c75
noncomputable abbrev q39c78 : Code := Code.snd q39c75
noncomputable abbrev q39c79 : Code := Code.fst q39c72
noncomputable abbrev q39c80 : Code := Code.snd q39c72
abbrev trellisref25_text_R (w : World) (F : Nat → Prop) (r : ByteArray) : Ending → World → Prop := fun e w' => e = .returned (.string r) ∧ B.Loc w w' [] [St w []]
noncomputable abbrev trellisref25_text_C (w : World) (F : Nat → Prop) (r : ByteArray) : Cx := ⟨Tryd.prog, 39, Tryd.f39, 75, trellisref25_text_R w F  r, w⟩
def trellisref25_text_st (rl : (List api_JNode) → Int → ByteArray → Prop) : Prop := ∀ (w : World) (F : Nat → Prop) (x1 : List api_JNode) (x6 : Int) (A2 : Option Addr) (n3 : Nat) (c4 : Nat) (h5 : Rw k_api_JNode w (St w []).av A2 n3 c4 x1) (hF : ∀ b, F b → b < w.heap.size ∧ ∀ o ∈ ([] : List (List Nat)), b ∉ o) (hL0 : B.Loc w w [] [Sm w.heap.size F w [], St w []]) (r : ByteArray) (h : rl x1 x6 r), Calls Tryd.prog 39 #[.slice A2 n3 c4, .int .i64 x6] w (trellisref25_text_R w F  r)
theorem trellisref25_text_step (rc_trellisref25_text : (List api_JNode) → Int → ByteArray → Prop) (ih_trellisref25_text : trellisref25_text_st rc_trellisref25_text) : trellisref25_text_st (trellisref25_text_body rc_trellisref25_text) := by
 intro w F x1 x6 A2 n3 c4 h5 hF hL0 r h
 unfold trellisref25_text_body at h
 refine calls_of_Loc (vs := [.slice A2 n3 c4, .int .i64 x6]) 75 Tryd.func39 rfl Tryd.ntmps39 rfl hL0 ?_
 show G (trellisref25_text_C w F r) _ _ _ _
 refine g_seq (c := q39c0) rfl ?_
 refine g_region (c := q39c1) rfl rfl ?_
 refine wl_v 0 rfl (v_assign rfl) gn rfl ?_
 refine w_end 1 rfl ?_
 refine g_seq (c := q39c2) rfl ?_
 refine g_region (c := q39c3) rfl rfl ?_
 refine wl_v 0 rfl (v_move rfl) gn rfl ?_
 refine wl_v 1 rfl (v_move rfl) gn rfl ?_
 obtain ⟨hb7, h⟩ := h
 have hr8 := Rw.readF (s := St w []) (hl := hl_api_JNode) (h1 := h1_api_JNode) h5 hb7
 refine wl_v 2 rfl (v_idxR (s := St w []) slE_22 rfl rfl h5 hb7) gn rfl ?_
 refine wl_v 3 rfl (v_ldA (St w []) ld_31 rfl hr8 rfl (me 1 rfl)) gn rfl ?_
 refine wl_s 4 rfl (s_alloc [.int .i64 0, .string (⟨#[]⟩ : ByteArray), .string (⟨#[]⟩ : ByteArray), .int .i64 0] zr_31 rfl fun gb9 => ?_) gn
 refine wl_s 5 rfl (s_stB (vs := [.int .i64 ((ix x1 x6).kind), .string ((ix x1 x6).key), .string ((ix x1 x6).text), .int .i64 ((ix x1 x6).kids)]) (cs' := [.int .i64 ((ix x1 x6).kind), .string ((ix x1 x6).key), .string ((ix x1 x6).text), .int .i64 ((ix x1 x6).kids)]) (M' := [.box gb9 31 [.int .i64 ((ix x1 x6).kind), .string ((ix x1 x6).key), .string ((ix x1 x6).text), .int .i64 ((ix x1 x6).kids)]]) 0 sz_31 rfl rfl rfl rfl rfl rfl rfl rfl rfl ?_) gn
 refine w_end 6 rfl ?_
 refine g_seq (c := q39c4) rfl ?_
 refine g_seq (c := q39c5) rfl ?_
 refine g_region (c := q39c7) rfl rfl ?_
 refine wl_v 0 rfl (v_fldB fo_31_0 rfl) gn rfl ?_
 refine wl_v 1 rfl (v_ldB1 0 ld_29 rfl rfl rfl) gn rfl ?_
 refine w_end 2 rfl ?_
 refine g_block (c := q39c8) rfl ?_
 refine g_seq (c := q39c9) rfl ?_
 refine g_region (c := q39c10) rfl rfl ?_
 refine wl_v 0 rfl (v_bin rfl rfl rfl) gn rfl ?_
 refine wl_v 1 rfl (v_assign rfl) gn rfl ?_
 refine w_end 2 rfl ?_
 by_cases hp11 : (ix x1 x6).kind = 1
 ·have h := if_pos' hp11 h
  refine g_true (c := q39c11) rfl _ rfl ((eqi hp11)) ?_
  refine g_seq (c := q39c12) rfl ?_
  refine g_region (c := q39c14) rfl rfl ?_
  refine wl_v 0 rfl (v_assign rfl) gn rfl ?_
  refine w_end 1 rfl ?_
  refine g_retR (c := q39c15) [.string (⟨#[110, 117, 108, 108]⟩ : ByteArray)] rfl Tryd.func39 rfl (.tmp rfl (.nil)) fun wr hLr => ?_
  have hMr : B.Loc w wr [] [St w []] := hLr.pick0 (sels [1] rfl)
  show trellisref25_text_R w F  r (.returned (packV [.string (⟨#[110, 117, 108, 108]⟩ : ByteArray)])) wr
  rw [h]
  exact ⟨rfl, hMr⟩
 ·have h := if_neg' hp11 h
  refine g_false (c := q39c11) rfl _ rfl ((nei hp11)) ?_
  refine g_seq (c := q39c13) rfl ?_
  refine g_region (c := q39c16) rfl rfl ?_
  refine wl_v 0 rfl (v_bin rfl rfl rfl) gn rfl ?_
  refine wl_v 1 rfl (v_assign rfl) gn rfl ?_
  refine w_end 2 rfl ?_
  by_cases hp12 : (ix x1 x6).kind = 2
  ·have h := if_pos' hp12 h
   refine g_true (c := q39c17) rfl _ rfl ((eqi hp12)) ?_
   refine g_seq (c := q39c18) rfl ?_
   refine g_region (c := q39c20) rfl rfl ?_
   refine wl_v 0 rfl (v_assign rfl) gn rfl ?_
   refine w_end 1 rfl ?_
   refine g_retR (c := q39c21) [.string (⟨#[102, 97, 108, 115, 101]⟩ : ByteArray)] rfl Tryd.func39 rfl (.tmp rfl (.nil)) fun wr hLr => ?_
   have hMr : B.Loc w wr [] [St w []] := hLr.pick0 (sels [1] rfl)
   show trellisref25_text_R w F  r (.returned (packV [.string (⟨#[102, 97, 108, 115, 101]⟩ : ByteArray)])) wr
   rw [h]
   exact ⟨rfl, hMr⟩
  ·have h := if_neg' hp12 h
   refine g_false (c := q39c17) rfl _ rfl ((nei hp12)) ?_
   refine g_seq (c := q39c19) rfl ?_
   refine g_region (c := q39c22) rfl rfl ?_
   refine wl_v 0 rfl (v_bin rfl rfl rfl) gn rfl ?_
   refine wl_v 1 rfl (v_assign rfl) gn rfl ?_
   refine w_end 2 rfl ?_
   by_cases hp13 : (ix x1 x6).kind = 3
   ·have h := if_pos' hp13 h
    refine g_true (c := q39c23) rfl _ rfl ((eqi hp13)) ?_
    refine g_seq (c := q39c24) rfl ?_
    refine g_region (c := q39c26) rfl rfl ?_
    refine wl_v 0 rfl (v_assign rfl) gn rfl ?_
    refine w_end 1 rfl ?_
    refine g_retR (c := q39c27) [.string (⟨#[116, 114, 117, 101]⟩ : ByteArray)] rfl Tryd.func39 rfl (.tmp rfl (.nil)) fun wr hLr => ?_
    have hMr : B.Loc w wr [] [St w []] := hLr.pick0 (sels [1] rfl)
    show trellisref25_text_R w F  r (.returned (packV [.string (⟨#[116, 114, 117, 101]⟩ : ByteArray)])) wr
    rw [h]
    exact ⟨rfl, hMr⟩
   ·have h := if_neg' hp13 h
    refine g_false (c := q39c23) rfl _ rfl ((nei hp13)) ?_
    refine g_seq (c := q39c25) rfl ?_
    refine g_region (c := q39c28) rfl rfl ?_
    refine wl_v 0 rfl (v_bin rfl rfl rfl) gn rfl ?_
    refine wl_v 1 rfl (v_assign rfl) gn rfl ?_
    refine w_end 2 rfl ?_
    by_cases hp14 : (ix x1 x6).kind = 4
    ·have h := if_pos' hp14 h
     refine g_true (c := q39c29) rfl _ rfl ((eqi hp14)) ?_
     refine g_seq (c := q39c30) rfl ?_
     refine g_region (c := q39c32) rfl rfl ?_
     refine wl_v 0 rfl (v_fldB fo_31_2 rfl) gn rfl ?_
     refine wl_v 1 rfl (v_ldB1 0 ld_9 rfl rfl rfl) gn rfl ?_
     refine wl_v 2 rfl (v_assign rfl) gn rfl ?_
     refine w_end 3 rfl ?_
     refine g_retR (c := q39c33) [.string ((ix x1 x6).text)] rfl Tryd.func39 rfl (.tmp rfl (.nil)) fun wr hLr => ?_
     have hMr : B.Loc w wr [] [St w []] := hLr.pick0 (sels [1] rfl)
     show trellisref25_text_R w F  r (.returned (packV [.string ((ix x1 x6).text)])) wr
     rw [h]
     exact ⟨rfl, hMr⟩
    ·have h := if_neg' hp14 h
     refine g_false (c := q39c29) rfl _ rfl ((nei hp14)) ?_
     refine g_seq (c := q39c31) rfl ?_
     refine g_region (c := q39c34) rfl rfl ?_
     refine wl_v 0 rfl (v_bin rfl rfl rfl) gn rfl ?_
     refine wl_v 1 rfl (v_assign rfl) gn rfl ?_
     refine w_end 2 rfl ?_
     by_cases hp15 : (ix x1 x6).kind = 5
     ·have h := if_pos' hp15 h
      refine g_true (c := q39c35) rfl _ rfl ((eqi hp15)) ?_
      refine g_seq (c := q39c36) rfl ?_
      refine g_region (c := q39c38) rfl rfl ?_
      refine wl_v 0 rfl (v_fldB fo_31_2 rfl) gn rfl ?_
      refine wl_v 1 rfl (v_ldB1 0 ld_9 rfl rfl rfl) gn rfl ?_
      obtain ⟨r19, hv20, h⟩ := h
      refine wl_s 2 rfl (s_call [.string ((ix x1 x6).text)] rfl Tryd.func52 rfl rfl rfl fun w16 hL17 => ?_) gn
      have hp18 : List.Perm ([.box gb9 31 [.int .i64 ((ix x1 x6).kind), .string ((ix x1 x6).key), .string ((ix x1 x6).text), .int .i64 ((ix x1 x6).kids)]] : List Ent) (([] : List Ent) ++ ([.box gb9 31 [.int .i64 ((ix x1 x6).kind), .string ((ix x1 x6).key), .string ((ix x1 x6).text), .int .i64 ((ix x1 x6).kids)]] : List Ent)) := perm_of_idx [] [0] rfl rfl (by kernel_rfl)
      refine Calls.mono (trellisref25_Quote_calls w16 (Fl ([] : List Snap)) ((ix x1 x6).text) (hL17.hFl (Sl := ([] : List Snap)) hp18 (sels [] rfl)) (hL17.into hp18 (Fl ([] : List Snap))) r19 hv20) ?_
      rintro _ w21 ⟨rfl, hM22⟩
      have hL23 := hL17.call hp18 hM22
      refine ⟨_, _, _, rfl, hL23, ?_⟩
      refine wl_v 3 rfl (v_assign rfl) gn rfl ?_
      refine w_end 4 rfl ?_
      refine g_retR (c := q39c39) [.string r19] rfl Tryd.func39 rfl (.tmp rfl (.nil)) fun wr hLr => ?_
      have hMr : B.Loc w wr [] [St w []] := hLr.pick0 (sels [1] rfl)
      show trellisref25_text_R w F  r (.returned (packV [.string r19])) wr
      rw [h]
      exact ⟨rfl, hMr⟩
     ·have h := if_neg' hp15 h
      refine g_false (c := q39c35) rfl _ rfl ((nei hp15)) ?_
      refine g_skip (c := q39c37) rfl ?_
      refine g_inBlock ?_
      refine g_seq (c := q39c6) rfl ?_
      refine g_region (c := q39c40) rfl rfl ?_
      refine wl_v 0 rfl (v_assign rfl) gn rfl ?_
      refine w_end 1 rfl ?_
      refine g_seq (c := q39c41) rfl ?_
      refine g_region (c := q39c42) rfl rfl ?_
      refine wl_v 0 rfl (v_move rfl) gn rfl ?_
      refine wl_v 1 rfl (v_move rfl) gn rfl ?_
      obtain ⟨r27, hv28, h⟩ := h
      refine wl_s 2 rfl (s_call [.slice A2 n3 c4, .int .i64 x6] rfl Tryd.func32 rfl rfl rfl fun w24 hL25 => ?_) gn
      have hp26 : List.Perm ([.box gb9 31 [.int .i64 ((ix x1 x6).kind), .string ((ix x1 x6).key), .string ((ix x1 x6).text), .int .i64 ((ix x1 x6).kids)]] : List Ent) (([] : List Ent) ++ ([.box gb9 31 [.int .i64 ((ix x1 x6).kind), .string ((ix x1 x6).key), .string ((ix x1 x6).text), .int .i64 ((ix x1 x6).kids)]] : List Ent)) := perm_of_idx [] [0] rfl rfl (by kernel_rfl)
      refine Calls.mono (trellisref25_kids_calls w24 (Fl ([] : List Snap)) x1 x6 A2 n3 c4 (Rw.mono h5 (hL25.toSt hp26 (me 1 rfl))) (hL25.hFl (Sl := ([] : List Snap)) hp26 (sels [] rfl)) (hL25.into hp26 (Fl ([] : List Snap))) r27 hv28) ?_
      rintro _ w34 ⟨A29, n30, c31, rfl, hM35, h32⟩
      have hL36 := hL25.call hp26 hM35
      refine ⟨_, _, _, rfl, hL36, ?_⟩
      refine wl_v 3 rfl (v_assign rfl) gn rfl ?_
      refine w_end 4 rfl ?_
      refine g_seq (c := q39c43) rfl ?_
      refine g_seq (c := q39c44) rfl ?_
      refine g_region (c := q39c46) rfl rfl ?_
      refine wl_v 0 rfl (v_assign rfl) gn rfl ?_
      refine w_end 1 rfl ?_
      refine g_block (c := q39c47) rfl ?_
      refine g_loop (c := q39c48) rfl ?_
      have key1 : ∀ s, Rounds (fun (s : ByteArray × Int) o => trellisref25_text_b1 r27 x1 x6 rc_trellisref25_text s.1 s.2 o) s r → (fun (s : ByteArray × Int) => ∀ (_ : Unit), G (trellisref25_text_C w F r) [.code q39c49, .inLoop q39c49, .inBlock 1, .code q39c45] [(0, .slice A2 n3 c4), (5, .pointer (some ⟨gb9, 0, none⟩)), (6, .string s.1), (7, .slice A29 n30 c31), (8, .int .i64 s.2)] [.own (.slice A29 n30 c31) 3 1 n30 (r27.flatMap (eI .i64)), .box gb9 31 [.int .i64 ((ix x1 x6).kind), .string ((ix x1 x6).key), .string ((ix x1 x6).text), .int .i64 ((ix x1 x6).kids)]] [Sm w.heap.size F w [], St w []]) s := by
       intro s hs
       refine Rounds.ind (mot := (fun (s : ByteArray × Int) => ∀ (_ : Unit), G (trellisref25_text_C w F r) [.code q39c49, .inLoop q39c49, .inBlock 1, .code q39c45] [(0, .slice A2 n3 c4), (5, .pointer (some ⟨gb9, 0, none⟩)), (6, .string s.1), (7, .slice A29 n30 c31), (8, .int .i64 s.2)] [.own (.slice A29 n30 c31) 3 1 n30 (r27.flatMap (eI .i64)), .box gb9 31 [.int .i64 ((ix x1 x6).kind), .string ((ix x1 x6).key), .string ((ix x1 x6).text), .int .i64 ((ix x1 x6).kids)]] [Sm w.heap.size F w [], St w []])) ?_ hs
       clear hs s
       intro s o1 h hO1
       obtain ⟨x77, x78⟩ := s
       show ∀ (_ : Unit), G (trellisref25_text_C w F r) [.code q39c49, .inLoop q39c49, .inBlock 1, .code q39c45] [(0, .slice A2 n3 c4), (5, .pointer (some ⟨gb9, 0, none⟩)), (6, .string x77), (7, .slice A29 n30 c31), (8, .int .i64 x78)] [.own (.slice A29 n30 c31) 3 1 n30 (r27.flatMap (eI .i64)), .box gb9 31 [.int .i64 ((ix x1 x6).kind), .string ((ix x1 x6).key), .string ((ix x1 x6).text), .int .i64 ((ix x1 x6).kids)]] [Sm w.heap.size F w [], St w []]
       intro _
       have h : trellisref25_text_b1 r27 x1 x6 rc_trellisref25_text x77 x78 o1 := h
       unfold trellisref25_text_b1 at h
       refine g_seq (c := q39c49) rfl ?_
       refine g_seq (c := q39c50) rfl ?_
       refine g_region (c := q39c52) rfl rfl ?_
       refine wl_v 0 rfl (v_move rfl) gn rfl ?_
       refine wl_v 1 rfl (v_move rfl) gn rfl ?_
       refine wl_v 2 rfl (v_lenQ un_46 rfl (Ow.weak hL25.env.size h32).hq) gn rfl ?_
       refine wl_v 3 rfl (v_bin rfl rfl rfl) gn rfl ?_
       refine w_end 4 rfl ?_
       by_cases hp123 : x78 < (r27.length : Int)
       ·have h := if_pos' hp123 h
        refine g_true (c := q39c53) rfl _ rfl ((decide_eq_true hp123)) ?_
        refine g_skip (c := q39c54) rfl ?_
        refine g_seq (c := q39c51) rfl ?_
        refine g_block (c := q39c56) rfl ?_
        refine g_seq (c := q39c58) rfl ?_
        refine g_seq (c := q39c59) rfl ?_
        refine g_region (c := q39c61) rfl rfl ?_
        refine wl_v 0 rfl (v_move rfl) gn rfl ?_
        refine wl_v 1 rfl (v_bin rfl rfl rfl) gn rfl ?_
        refine w_end 2 rfl ?_
        have j2 : ∀ (x127 : ByteArray) (h : trellisref25_text_j2 x1 x6 x78 r27 rc_trellisref25_text x127 o1) , G (trellisref25_text_C w F r) [.code q39c60, .inBlock 2, .code q39c57, .inLoop q39c49, .inBlock 1, .code q39c45] [(0, .slice A2 n3 c4), (5, .pointer (some ⟨gb9, 0, none⟩)), (6, .string x127), (7, .slice A29 n30 c31), (8, .int .i64 x78)] [.own (.slice A29 n30 c31) 3 1 n30 (r27.flatMap (eI .i64)), .box gb9 31 [.int .i64 ((ix x1 x6).kind), .string ((ix x1 x6).key), .string ((ix x1 x6).text), .int .i64 ((ix x1 x6).kids)]] [Sm w.heap.size F w [], St w []] := by
         intro x127 h
         unfold trellisref25_text_j2 at h
         refine g_seq (c := q39c60) rfl ?_
         refine g_seq (c := q39c65) rfl ?_
         refine g_region (c := q39c67) rfl rfl ?_
         refine wl_v 0 rfl (v_fldB fo_31_0 rfl) gn rfl ?_
         refine wl_v 1 rfl (v_ldB1 1 ld_29 rfl rfl rfl) gn rfl ?_
         refine wl_v 2 rfl (v_bin rfl rfl rfl) gn rfl ?_
         refine w_end 3 rfl ?_
         by_cases hp128 : (ix x1 x6).kind = 7
         ·have h := if_pos' hp128 h
          refine g_true (c := q39c68) rfl _ rfl ((eqi hp128)) ?_
          refine g_region (c := q39c69) rfl rfl ?_
          refine wl_v 0 rfl (v_move rfl) gn rfl ?_
          refine wl_v 1 rfl (v_move rfl) gn rfl ?_
          refine wl_v 2 rfl (v_move rfl) gn rfl ?_
          refine wl_v 3 rfl (v_move rfl) gn rfl ?_
          obtain ⟨hb129, h⟩ := h
          refine wl_v 4 rfl (v_idxO slE_46 rfl rfl (Ow.weak hL25.env.size h32) hb129) gn rfl ?_
          refine wl_v 5 rfl (v_ldO1 (.int .i64 (ix r27 x78)) 0 ld_3 rfl rfl (fm_get0 (hlI .i64) hb129 rfl)) gn rfl ?_
          obtain ⟨hb130, h⟩ := h
          have hr131 := Rw.readF (s := St w []) (hl := hl_api_JNode) (h1 := h1_api_JNode) h5 hb130
          refine wl_v 6 rfl (v_idxR (s := St w []) slE_22 rfl rfl h5 hb130) gn rfl ?_
          refine wl_v 7 rfl (v_fldA fo_31_1 rfl) gn rfl ?_
          refine wl_v 8 rfl (v_ldA1 (kk := (ix r27 x78 : Int).toNat * 4) (j := 1) (St w []) ld_9 rfl hr131 rfl (me 1 rfl)) gn rfl ?_
          obtain ⟨r135, hv136, h⟩ := h
          refine wl_s 9 rfl (s_call [.string ((ix x1 (ix r27 x78)).key)] rfl Tryd.func52 rfl rfl rfl fun w132 hL133 => ?_) gn
          have hp134 : List.Perm ([.own (.slice A29 n30 c31) 3 1 n30 (r27.flatMap (eI .i64)), .box gb9 31 [.int .i64 ((ix x1 x6).kind), .string ((ix x1 x6).key), .string ((ix x1 x6).text), .int .i64 ((ix x1 x6).kids)]] : List Ent) (([] : List Ent) ++ ([.own (.slice A29 n30 c31) 3 1 n30 (r27.flatMap (eI .i64)), .box gb9 31 [.int .i64 ((ix x1 x6).kind), .string ((ix x1 x6).key), .string ((ix x1 x6).text), .int .i64 ((ix x1 x6).kids)]] : List Ent)) := perm_of_idx [] [0, 1] rfl rfl (by kernel_rfl)
          refine Calls.mono (trellisref25_Quote_calls w132 (Fl ([] : List Snap)) ((ix x1 (ix r27 x78)).key) (hL133.hFl (Sl := ([] : List Snap)) hp134 (sels [] rfl)) (hL133.into hp134 (Fl ([] : List Snap))) r135 hv136) ?_
          rintro _ w137 ⟨rfl, hM138⟩
          have hL139 := hL133.call hp134 hM138
          refine ⟨_, _, _, rfl, hL139, ?_⟩
          obtain ⟨hb140, h⟩ := h
          refine wl_v 10 rfl (v_catS rfl rfl hb140) gn rfl ?_
          obtain ⟨hb141, h⟩ := h
          refine wl_v 11 rfl (v_catS rfl rfl hb141) gn rfl ?_
          refine wl_v 12 rfl (v_assign rfl) gn rfl ?_
          refine w_end 13 rfl ?_
          refine g_region (c := q39c66) rfl rfl ?_
          refine wl_v 0 rfl (v_move rfl) gn rfl ?_
          refine wl_v 1 rfl (v_move rfl) gn rfl ?_
          refine wl_v 2 rfl (v_move rfl) gn rfl ?_
          refine wl_v 3 rfl (v_move rfl) gn rfl ?_
          refine wl_v 4 rfl (v_idxO slE_46 rfl rfl (Ow.weak hL25.env.size h32) hb129) gn rfl ?_
          refine wl_v 5 rfl (v_ldO1 (.int .i64 (ix r27 x78)) 0 ld_3 rfl rfl (fm_get0 (hlI .i64) hb129 rfl)) gn rfl ?_
          obtain ⟨r145, hv146, h⟩ := h
          refine wl_s 6 rfl (s_call [.slice A2 n3 c4, .int .i64 (ix r27 x78)] rfl Tryd.func39 rfl rfl rfl fun w142 hL143 => ?_) gn
          have hp144 : List.Perm ([.own (.slice A29 n30 c31) 3 1 n30 (r27.flatMap (eI .i64)), .box gb9 31 [.int .i64 ((ix x1 x6).kind), .string ((ix x1 x6).key), .string ((ix x1 x6).text), .int .i64 ((ix x1 x6).kids)]] : List Ent) (([] : List Ent) ++ ([.own (.slice A29 n30 c31) 3 1 n30 (r27.flatMap (eI .i64)), .box gb9 31 [.int .i64 ((ix x1 x6).kind), .string ((ix x1 x6).key), .string ((ix x1 x6).text), .int .i64 ((ix x1 x6).kids)]] : List Ent)) := perm_of_idx [] [0, 1] rfl rfl (by kernel_rfl)
          refine Calls.mono (ih_trellisref25_text w142 (Fl ([] : List Snap)) x1 (ix r27 x78) A2 n3 c4 (Rw.mono h5 (hL143.toSt hp144 (me 1 rfl))) (hL143.hFl (Sl := ([] : List Snap)) hp144 (sels [] rfl)) (hL143.into hp144 (Fl ([] : List Snap))) r145 hv146) ?_
          rintro _ w147 ⟨rfl, hM148⟩
          have hL149 := hL143.call hp144 hM148
          refine ⟨_, _, _, rfl, hL149, ?_⟩
          obtain ⟨hb150, h⟩ := h
          refine wl_v 7 rfl (v_catS rfl rfl hb150) gn rfl ?_
          refine wl_v 8 rfl (v_assign rfl) gn rfl ?_
          refine w_end 9 rfl ?_
          refine g_inBlock ?_
          refine g_region (c := q39c57) rfl rfl ?_
          refine wl_v 0 rfl (v_move rfl) gn rfl ?_
          refine wl_v 1 rfl (v_bin rfl rfl rfl) gn rfl ?_
          refine wl_v 2 rfl (v_assign rfl) gn rfl ?_
          refine w_end 3 rfl ?_
          refine g_inLoop ?_
          have ih := Out.inl hO1 h
          exact g_go [0, 1] (ih ()) ⟨rfl, rfl, rfl, rfl, rfl, trivial⟩ (.cons_cons _ (.cons_cons _ (.slnil))) rfl
         ·have h := if_neg' hp128 h
          refine g_false (c := q39c68) rfl _ rfl ((nei hp128)) ?_
          refine g_skip (c := q39c70) rfl ?_
          refine g_region (c := q39c66) rfl rfl ?_
          refine wl_v 0 rfl (v_move rfl) gn rfl ?_
          refine wl_v 1 rfl (v_move rfl) gn rfl ?_
          refine wl_v 2 rfl (v_move rfl) gn rfl ?_
          refine wl_v 3 rfl (v_move rfl) gn rfl ?_
          obtain ⟨hb151, h⟩ := h
          refine wl_v 4 rfl (v_idxO slE_46 rfl rfl (Ow.weak hL25.env.size h32) hb151) gn rfl ?_
          refine wl_v 5 rfl (v_ldO1 (.int .i64 (ix r27 x78)) 0 ld_3 rfl rfl (fm_get0 (hlI .i64) hb151 rfl)) gn rfl ?_
          obtain ⟨r155, hv156, h⟩ := h
          refine wl_s 6 rfl (s_call [.slice A2 n3 c4, .int .i64 (ix r27 x78)] rfl Tryd.func39 rfl rfl rfl fun w152 hL153 => ?_) gn
          have hp154 : List.Perm ([.own (.slice A29 n30 c31) 3 1 n30 (r27.flatMap (eI .i64)), .box gb9 31 [.int .i64 ((ix x1 x6).kind), .string ((ix x1 x6).key), .string ((ix x1 x6).text), .int .i64 ((ix x1 x6).kids)]] : List Ent) (([] : List Ent) ++ ([.own (.slice A29 n30 c31) 3 1 n30 (r27.flatMap (eI .i64)), .box gb9 31 [.int .i64 ((ix x1 x6).kind), .string ((ix x1 x6).key), .string ((ix x1 x6).text), .int .i64 ((ix x1 x6).kids)]] : List Ent)) := perm_of_idx [] [0, 1] rfl rfl (by kernel_rfl)
          refine Calls.mono (ih_trellisref25_text w152 (Fl ([] : List Snap)) x1 (ix r27 x78) A2 n3 c4 (Rw.mono h5 (hL153.toSt hp154 (me 1 rfl))) (hL153.hFl (Sl := ([] : List Snap)) hp154 (sels [] rfl)) (hL153.into hp154 (Fl ([] : List Snap))) r155 hv156) ?_
          rintro _ w157 ⟨rfl, hM158⟩
          have hL159 := hL153.call hp154 hM158
          refine ⟨_, _, _, rfl, hL159, ?_⟩
          obtain ⟨hb160, h⟩ := h
          refine wl_v 7 rfl (v_catS rfl rfl hb160) gn rfl ?_
          refine wl_v 8 rfl (v_assign rfl) gn rfl ?_
          refine w_end 9 rfl ?_
          refine g_inBlock ?_
          refine g_region (c := q39c57) rfl rfl ?_
          refine wl_v 0 rfl (v_move rfl) gn rfl ?_
          refine wl_v 1 rfl (v_bin rfl rfl rfl) gn rfl ?_
          refine wl_v 2 rfl (v_assign rfl) gn rfl ?_
          refine w_end 3 rfl ?_
          refine g_inLoop ?_
          have ih := Out.inl hO1 h
          exact g_go [0, 1] (ih ()) ⟨rfl, rfl, rfl, rfl, rfl, trivial⟩ (.cons_cons _ (.cons_cons _ (.slnil))) rfl
        by_cases hp124 : x78 > 0
        ·have h := if_pos' hp124 h
         refine g_true (c := q39c62) rfl _ rfl ((decide_eq_true hp124)) ?_
         refine g_region (c := q39c63) rfl rfl ?_
         refine wl_v 0 rfl (v_move rfl) gn rfl ?_
         obtain ⟨hb161, h⟩ := h
         refine wl_v 1 rfl (v_catS rfl rfl hb161) gn rfl ?_
         refine wl_v 2 rfl (v_assign rfl) gn rfl ?_
         refine w_end 3 rfl ?_
         exact g_go [0, 1] (j2 (x77 ++ (⟨#[44]⟩ : ByteArray)) h) ⟨rfl, rfl, rfl, rfl, rfl, trivial⟩ (.cons_cons _ (.cons_cons _ (.slnil))) rfl
        ·have h := if_neg' hp124 h
         refine g_false (c := q39c62) rfl _ rfl ((decide_eq_false hp124)) ?_
         refine g_skip (c := q39c64) rfl ?_
         exact g_go [0, 1] (j2 x77 h) ⟨rfl, rfl, rfl, rfl, rfl, trivial⟩ (.cons_cons _ (.cons_cons _ (.slnil))) rfl
       ·have h := if_neg' hp123 h
        refine g_false (c := q39c53) rfl _ rfl ((decide_eq_false hp123)) ?_
        refine g_exit (c := q39c55) [.code q39c45] rfl rfl ?_
        refine g_seq (c := q39c45) rfl ?_
        refine g_seq (c := q39c71) rfl ?_
        refine g_region (c := q39c73) rfl rfl ?_
        refine wl_v 0 rfl (v_fldB fo_31_0 rfl) gn rfl ?_
        refine wl_v 1 rfl (v_ldB1 1 ld_29 rfl rfl rfl) gn rfl ?_
        refine wl_v 2 rfl (v_bin rfl rfl rfl) gn rfl ?_
        refine w_end 3 rfl ?_
        by_cases hp162 : (ix x1 x6).kind = 7
        ·have h := if_pos' hp162 h
         refine g_true (c := q39c74) rfl _ rfl ((eqi hp162)) ?_
         refine g_seq (c := q39c75) rfl ?_
         refine g_region (c := q39c77) rfl rfl ?_
         refine wl_v 0 rfl (v_move rfl) gn rfl ?_
         obtain ⟨hb163, h⟩ := h
         refine wl_v 1 rfl (v_catS rfl rfl hb163) gn rfl ?_
         obtain ⟨hb164, h⟩ := h
         refine wl_v 2 rfl (v_catS rfl rfl hb164) gn rfl ?_
         refine wl_v 3 rfl (v_assign rfl) gn rfl ?_
         refine w_end 4 rfl ?_
         have h := Out.inr hO1 h
         refine g_retR (c := q39c78) [.string (((⟨#[123]⟩ : ByteArray) ++ x77) ++ (⟨#[125]⟩ : ByteArray))] rfl Tryd.func39 rfl (.tmp rfl (.nil)) fun wr hLr => ?_
         have hMr : B.Loc w wr [] [St w []] := hLr.pick0 (sels [1] rfl)
         show trellisref25_text_R w F  r (.returned (packV [.string (((⟨#[123]⟩ : ByteArray) ++ x77) ++ (⟨#[125]⟩ : ByteArray))])) wr
         rw [h]
         exact ⟨rfl, hMr⟩
        ·have h := if_neg' hp162 h
         refine g_false (c := q39c74) rfl _ rfl ((nei hp162)) ?_
         refine g_skip (c := q39c76) rfl ?_
         refine g_seq (c := q39c72) rfl ?_
         refine g_region (c := q39c79) rfl rfl ?_
         refine wl_v 0 rfl (v_move rfl) gn rfl ?_
         obtain ⟨hb165, h⟩ := h
         refine wl_v 1 rfl (v_catS rfl rfl hb165) gn rfl ?_
         obtain ⟨hb166, h⟩ := h
         refine wl_v 2 rfl (v_catS rfl rfl hb166) gn rfl ?_
         refine wl_v 3 rfl (v_assign rfl) gn rfl ?_
         refine w_end 4 rfl ?_
         have h := Out.inr hO1 h
         refine g_retR (c := q39c80) [.string (((⟨#[91]⟩ : ByteArray) ++ x77) ++ (⟨#[93]⟩ : ByteArray))] rfl Tryd.func39 rfl (.tmp rfl (.nil)) fun wr hLr => ?_
         have hMr : B.Loc w wr [] [St w []] := hLr.pick0 (sels [1] rfl)
         show trellisref25_text_R w F  r (.returned (packV [.string (((⟨#[91]⟩ : ByteArray) ++ x77) ++ (⟨#[93]⟩ : ByteArray))])) wr
         rw [h]
         exact ⟨rfl, hMr⟩
      exact g_go [0, 1] (key1 _ h ()) ⟨rfl, rfl, rfl, rfl, rfl, trivial⟩ (.cons_cons _ (.cons_cons _ (.slnil))) rfl
theorem trellisref25_text_ind : ∀ n, trellisref25_text_st (trellisref25_text_n n)
 | 0 => fun w F x1 x6 A2 n3 c4 h5 hF hL0 r h => h.elim
 | n + 1 => by
  have ih := trellisref25_text_ind n
  exact trellisref25_text_step _ ih
theorem trellisref25_text_calls (w : World) (F : Nat → Prop) (x1 : List api_JNode) (x6 : Int) (A2 : Option Addr) (n3 : Nat) (c4 : Nat) (h5 : Rw k_api_JNode w (St w []).av A2 n3 c4 x1) (hF : ∀ b, F b → b < w.heap.size ∧ ∀ o ∈ ([] : List (List Nat)), b ∉ o) (hL0 : B.Loc w w [] [Sm w.heap.size F w [], St w []]) (r : ByteArray) (h : trellisref25_text x1 x6 r) : Calls Tryd.prog 39 #[.slice A2 n3 c4, .int .i64 x6] w (trellisref25_text_R w F  r) := by
 obtain ⟨n, h⟩ := h
 exact (trellisref25_text_ind n) w F x1 x6 A2 n3 c4 h5 hF hL0 r h
noncomputable abbrev q23c0 : Code := bodyOf Tryd.f23
noncomputable abbrev q23c1 : Code := Code.fst q23c0
noncomputable abbrev q23c2 : Code := Code.snd q23c0
noncomputable abbrev q23c3 : Code := Code.fst q23c2
noncomputable abbrev q23c4 : Code := Code.snd q23c2
noncomputable abbrev q23c5 : Code := Code.fst q23c3
noncomputable abbrev q23c6 : Code := Code.snd q23c3
noncomputable abbrev q23c7 : Code := Code.fst q23c6
noncomputable abbrev q23c8 : Code := Code.snd q23c6
noncomputable abbrev q23c9 : Code := Code.fst q23c4
noncomputable abbrev q23c10 : Code := Code.snd q23c4
noncomputable abbrev q23c11 : Code := Code.fst q23c7
noncomputable abbrev q23c12 : Code := Code.snd q23c7
abbrev trellisref25_Print_R (w : World) (F : Nat → Prop) (r : ByteArray × Int) : Ending → World → Prop := fun e w' => e = .returned (.tuple #[.string r.1, .int .i64 r.2]) ∧ B.Loc w w' [] [St w []]
noncomputable abbrev trellisref25_Print_C (w : World) (F : Nat → Prop) (r : ByteArray × Int) : Cx := ⟨Tryd.prog, 23, Tryd.f23, 9, trellisref25_Print_R w F  r, w⟩
theorem trellisref25_Print_calls (w : World) (F : Nat → Prop) (x1 : List api_JNode) (A2 : Option Addr) (n3 : Nat) (c4 : Nat) (h5 : Rw k_api_JNode w (St w []).av A2 n3 c4 x1) (hF : ∀ b, F b → b < w.heap.size ∧ ∀ o ∈ ([] : List (List Nat)), b ∉ o) (hL0 : B.Loc w w [] [Sm w.heap.size F w [], St w []]) (r : ByteArray × Int) (h : trellisref25_Print x1 r) : Calls Tryd.prog 23 #[.slice A2 n3 c4] w (trellisref25_Print_R w F  r) := by
 unfold trellisref25_Print at h
 refine calls_of_Loc (vs := [.slice A2 n3 c4]) 9 Tryd.func23 rfl Tryd.ntmps23 rfl hL0 ?_
 show G (trellisref25_Print_C w F r) _ _ _ _
 refine g_seq (c := q23c0) rfl ?_
 refine g_region (c := q23c1) rfl rfl ?_
 refine wl_v 0 rfl (v_assign rfl) gn rfl ?_
 refine wl_v 1 rfl (v_assign rfl) gn rfl ?_
 refine w_end 2 rfl ?_
 refine g_seq (c := q23c2) rfl ?_
 refine g_seq (c := q23c3) rfl ?_
 refine g_region (c := q23c5) rfl rfl ?_
 refine wl_v 0 rfl (v_move rfl) gn rfl ?_
 obtain ⟨r9, hv10, h⟩ := h
 refine wl_s 1 rfl (s_call [.slice A2 n3 c4] rfl Tryd.func24 rfl rfl rfl fun w6 hL7 => ?_) gn
 have hp8 : List.Perm ([] : List Ent) (([] : List Ent) ++ ([] : List Ent)) := perm_of_idx [] [] rfl rfl (by kernel_rfl)
 refine Calls.mono (trellisref25_Shaped_calls w6 (Fl ([] : List Snap)) x1 A2 n3 c4 (Rw.mono h5 (hL7.toSt hp8 (me 1 rfl))) (hL7.hFl (Sl := ([] : List Snap)) hp8 (sels [] rfl)) (hL7.into hp8 (Fl ([] : List Snap))) r9 hv10) ?_
 rintro _ w11 ⟨rfl, hM12⟩
 have hL13 := hL7.call hp8 hM12
 refine ⟨_, _, _, rfl, hL13, ?_⟩
 refine wl_v 2 rfl (v_not rfl) gn rfl ?_
 refine w_end 3 rfl ?_
 by_cases hp14 : r9 = true
 ·have h := if_pos' hp14 h
  refine g_false (c := q23c6) rfl _ rfl ((nf hp14)) ?_
  refine g_skip (c := q23c8) rfl ?_
  refine g_seq (c := q23c4) rfl ?_
  refine g_region (c := q23c9) rfl rfl ?_
  refine wl_v 0 rfl (v_move rfl) gn rfl ?_
  obtain ⟨r18, hv19, h⟩ := h
  refine wl_s 1 rfl (s_call [.slice A2 n3 c4, .int .i64 0] rfl Tryd.func39 rfl rfl rfl fun w15 hL16 => ?_) gn
  have hp17 : List.Perm ([] : List Ent) (([] : List Ent) ++ ([] : List Ent)) := perm_of_idx [] [] rfl rfl (by kernel_rfl)
  refine Calls.mono (trellisref25_text_calls w15 (Fl ([] : List Snap)) x1 0 A2 n3 c4 (Rw.mono h5 (hL16.toSt hp17 (me 1 rfl))) (hL16.hFl (Sl := ([] : List Snap)) hp17 (sels [] rfl)) (hL16.into hp17 (Fl ([] : List Snap))) r18 hv19) ?_
  rintro _ w20 ⟨rfl, hM21⟩
  have hL22 := hL16.call hp17 hM21
  refine ⟨_, _, _, rfl, hL22, ?_⟩
  refine wl_v 2 rfl (v_assign rfl) gn rfl ?_
  refine wl_v 3 rfl (v_assign rfl) gn rfl ?_
  refine w_end 4 rfl ?_
  refine g_retR (c := q23c10) [.string r18, .int .i64 0] rfl Tryd.func23 rfl (.tmp rfl (.tmp rfl (.nil))) fun wr hLr => ?_
  have hMr : B.Loc w wr [] [St w []] := hLr.pick0 (sels [1] rfl)
  show trellisref25_Print_R w F  r (.returned (packV [.string r18, .int .i64 0])) wr
  rw [h]
  exact ⟨rfl, hMr⟩
 ·have h := if_neg' hp14 h
  refine g_true (c := q23c6) rfl _ rfl ((nt (bf hp14))) ?_
  refine g_seq (c := q23c7) rfl ?_
  refine g_region (c := q23c11) rfl rfl ?_
  refine wl_v 0 rfl (v_assign rfl) gn rfl ?_
  refine wl_v 1 rfl (v_assign rfl) gn rfl ?_
  refine w_end 2 rfl ?_
  refine g_retR (c := q23c12) [.string (⟨#[]⟩ : ByteArray), .int .i64 43] rfl Tryd.func23 rfl (.tmp rfl (.tmp rfl (.nil))) fun wr hLr => ?_
  have hMr : B.Loc w wr [] [St w []] := hLr.pick0 (sels [1] rfl)
  show trellisref25_Print_R w F  r (.returned (packV [.string (⟨#[]⟩ : ByteArray), .int .i64 43])) wr
  rw [h]
  exact ⟨rfl, hMr⟩
noncomputable abbrev q4c0 : Code := bodyOf Tryd.f4
noncomputable abbrev q4c1 : Code := Code.fst q4c0
noncomputable abbrev q4c2 : Code := Code.snd q4c0
noncomputable abbrev q4c3 : Code := Code.fst q4c2
noncomputable abbrev q4c4 : Code := Code.snd q4c2
noncomputable abbrev q4c5 : Code := Code.fst q4c3
noncomputable abbrev q4c6 : Code := Code.snd q4c3
noncomputable abbrev q4c7 : Code := Code.fst q4c6
noncomputable abbrev q4c8 : Code := Code.snd q4c6
noncomputable abbrev q4c9 : Code := Code.fst q4c7
noncomputable abbrev q4c10 : Code := Code.snd q4c7
noncomputable abbrev q4c11 : Code := Code.fst q4c4
noncomputable abbrev q4c12 : Code := Code.snd q4c4
noncomputable abbrev q4c13 : Code := Code.fst q4c12
noncomputable abbrev q4c14 : Code := Code.snd q4c12
noncomputable abbrev q4c15 : Code := Code.fst q4c14
noncomputable abbrev q4c16 : Code := Code.snd q4c14
noncomputable abbrev q4c17 : Code := Code.fst q4c16
noncomputable abbrev q4c18 : Code := Code.snd q4c16
noncomputable abbrev q4c19 : Code := Code.fst q4c18
noncomputable abbrev q4c20 : Code := Code.snd q4c18
noncomputable abbrev q4c21 : Code := Code.fst q4c20
noncomputable abbrev q4c22 : Code := Code.snd q4c20
noncomputable abbrev q4c23 : Code := Code.fst q4c21
noncomputable abbrev q4c24 : Code := Code.snd q4c21
noncomputable abbrev q4c25 : Code := Code.fst q4c24
noncomputable abbrev q4c26 : Code := Code.snd q4c24
noncomputable abbrev q4c27 : Code := Code.fst q4c25
noncomputable abbrev q4c28 : Code := Code.snd q4c25
noncomputable abbrev q4c29 : Code := Code.fst q4c22
noncomputable abbrev q4c30 : Code := Code.snd q4c22
noncomputable abbrev q4c31 : Code := Code.fst q4c30
noncomputable abbrev q4c32 : Code := Code.snd q4c30
noncomputable abbrev q4c33 : Code := Code.fst q4c32
noncomputable abbrev q4c34 : Code := Code.snd q4c32
noncomputable abbrev q4c35 : Code := Code.fst q4c34
noncomputable abbrev q4c36 : Code := Code.snd q4c34
noncomputable abbrev q4c37 : Code := Code.fst q4c36
noncomputable abbrev q4c38 : Code := Code.snd q4c36
noncomputable abbrev q4c39 : Code := Code.fst q4c38
noncomputable abbrev q4c40 : Code := Code.snd q4c38
noncomputable abbrev q4c41 : Code := Code.fst q4c40
noncomputable abbrev q4c42 : Code := Code.snd q4c40
abbrev trellislaw25_JsonPrints_R (w : World) (F : Nat → Prop) (r : Bool) : Ending → World → Prop := fun e w' => e = .returned (.bool r) ∧ B.Loc w w' [] [St w []]
noncomputable abbrev trellislaw25_JsonPrints_C (w : World) (F : Nat → Prop) (r : Bool) : Cx := ⟨Tryd.prog, 4, Tryd.f4, 94, trellislaw25_JsonPrints_R w F  r, w⟩
theorem trellislaw25_JsonPrints_calls (w : World) (F : Nat → Prop) (x1 : List api_JNode) (A2 : Option Addr) (n3 : Nat) (c4 : Nat) (h5 : Rw k_api_JNode w (St w []).av A2 n3 c4 x1) (hG0 : Tt .u8 tb_0 0 (St w [])) (hG1 : Tt .u8 tb_1 1 (St w [])) (hG2 : Tt .u8 tb_2 2 (St w [])) (hF : ∀ b, F b → b < w.heap.size ∧ ∀ o ∈ ([] : List (List Nat)), b ∉ o) (hL0 : B.Loc w w [] [Sm w.heap.size F w [], St w []]) (r : Bool) (h : trellislaw25_JsonPrints x1 r) : Calls Tryd.prog 4 #[.slice A2 n3 c4] w (trellislaw25_JsonPrints_R w F  r) := by
 unfold trellislaw25_JsonPrints at h
 refine calls_of_Loc (vs := [.slice A2 n3 c4]) 94 Tryd.func4 rfl Tryd.ntmps4 rfl hL0 ?_
 show G (trellislaw25_JsonPrints_C w F r) _ _ _ _
 refine g_seq (c := q4c0) rfl ?_
 refine g_region (c := q4c1) rfl rfl ?_
 refine wl_v 0 rfl (v_assign rfl) gn rfl ?_
 refine w_end 1 rfl ?_
 refine g_seq (c := q4c2) rfl ?_
 refine g_seq (c := q4c3) rfl ?_
 refine g_region (c := q4c5) rfl rfl ?_
 refine wl_v 0 rfl (v_move rfl) gn rfl ?_
 obtain ⟨r9, hv10, h⟩ := h
 refine wl_s 1 rfl (s_call [.slice A2 n3 c4] rfl Tryd.func12 rfl rfl rfl fun w6 hL7 => ?_) gn
 have hp8 : List.Perm ([] : List Ent) (([] : List Ent) ++ ([] : List Ent)) := perm_of_idx [] [] rfl rfl (by kernel_rfl)
 refine Calls.mono (trellisref25_Beyond_calls w6 (Fl ([] : List Snap)) x1 A2 n3 c4 (Rw.mono h5 (hL7.toSt hp8 (me 1 rfl))) (hL7.hFl (Sl := ([] : List Snap)) hp8 (sels [] rfl)) (hL7.into hp8 (Fl ([] : List Snap))) r9 hv10) ?_
 rintro _ w11 ⟨rfl, hM12⟩
 have hL13 := hL7.call hp8 hM12
 refine ⟨_, _, _, rfl, hL13, ?_⟩
 refine w_end 2 rfl ?_
 by_cases hp14 : r9 = true
 ·have h := if_pos' hp14 h
  refine g_true (c := q4c6) rfl _ rfl (hp14) ?_
  refine g_seq (c := q4c7) rfl ?_
  refine g_region (c := q4c9) rfl rfl ?_
  refine wl_v 0 rfl (v_assign rfl) gn rfl ?_
  refine w_end 1 rfl ?_
  refine g_retR (c := q4c10) [.bool true] rfl Tryd.func4 rfl (.tmp rfl (.nil)) fun wr hLr => ?_
  have hMr : B.Loc w wr [] [St w []] := hLr.pick0 (sels [1] rfl)
  show trellislaw25_JsonPrints_R w F  r (.returned (packV [.bool true])) wr
  rw [h]
  exact ⟨rfl, hMr⟩
 ·have h := if_neg' hp14 h
  refine g_false (c := q4c6) rfl _ rfl ((bf hp14)) ?_
  refine g_skip (c := q4c8) rfl ?_
  refine g_seq (c := q4c4) rfl ?_
  refine g_region (c := q4c11) rfl rfl ?_
  refine wl_v 0 rfl (v_move rfl) gn rfl ?_
  obtain ⟨r18, hv19, h⟩ := h
  refine wl_s 1 rfl (s_call [.slice A2 n3 c4] rfl Tryd.func13 rfl rfl rfl fun w15 hL16 => ?_) gn
  have hp17 : List.Perm ([] : List Ent) (([] : List Ent) ++ ([] : List Ent)) := perm_of_idx [] [] rfl rfl (by kernel_rfl)
  refine Calls.mono (trellislaw25_twin_calls w15 (Fl ([] : List Snap)) x1 A2 n3 c4 (Rw.mono h5 (hL16.toSt hp17 (me 1 rfl))) (hL16.hFl (Sl := ([] : List Snap)) hp17 (sels [] rfl)) (hL16.into hp17 (Fl ([] : List Snap))) r18 hv19) ?_
  rintro _ w25 ⟨A20, n21, c22, rfl, hM26, h23⟩
  have hL27 := hL16.call hp17 hM26
  refine ⟨_, _, _, rfl, hL27, ?_⟩
  refine wl_v 2 rfl (v_assign rfl) gn rfl ?_
  refine w_end 3 rfl ?_
  refine g_seq (c := q4c12) rfl ?_
  refine g_region (c := q4c13) rfl rfl ?_
  refine wl_v 0 rfl (v_move rfl) gn rfl ?_
  obtain ⟨r31, hv32, h⟩ := h
  refine wl_s 1 rfl (s_call [.slice A2 n3 c4] rfl Tryd.func14 rfl rfl rfl fun w28 hL29 => ?_) gn
  have hp30 : List.Perm ([.own (.slice A20 n21 c22) 31 4 n21 (r18.flatMap enc_api_JNode)] : List Ent) (([] : List Ent) ++ ([.own (.slice A20 n21 c22) 31 4 n21 (r18.flatMap enc_api_JNode)] : List Ent)) := perm_of_idx [] [0] rfl rfl (by kernel_rfl)
  refine Calls.mono (trellislaw25_roomy_calls w28 (Fl ([] : List Snap)) x1 A2 n3 c4 (Rw.mono h5 (hL29.toSt hp30 (me 1 rfl))) (hL29.hFl (Sl := ([] : List Snap)) hp30 (sels [] rfl)) (hL29.into hp30 (Fl ([] : List Snap))) r31 hv32) ?_
  rintro _ w38 ⟨A33, n34, c35, rfl, hM39, h36⟩
  have hL40 := hL29.call hp30 hM39
  refine ⟨_, _, _, rfl, hL40, ?_⟩
  refine wl_v 2 rfl (v_assign rfl) gn rfl ?_
  refine w_end 3 rfl ?_
  refine g_seq (c := q4c14) rfl ?_
  refine g_region (c := q4c15) rfl rfl ?_
  refine wl_v 0 rfl (v_move rfl) gn rfl ?_
  refine wl_v 1 rfl (v_move rfl) gn rfl ?_
  refine wl_v 2 rfl (v_lenQ un_22 rfl h5.hq) gn rfl ?_
  obtain ⟨hb41, h⟩ := h
  obtain ⟨x43, hv44, h⟩ := h
  have hle42 : ((x1.length : Int) : Int).toNat ≤ n34 := by have q := hb41; have q1 := (Ow.weak hL29.env.size h36).hq; omega
  have h45 : Ow w.heap.size A33 ((x1.length : Int) : Int).toNat c35 x43 := Ow.w (Ow.cut (Ow.weak hL29.env.size h36) hle42) (by rw [hv44])
  refine wl_v 3 rfl (v_cutHi (i := (x1.length : Int)) slE_22 rfl rfl (by have q := hb41; have q1 := (Ow.weak hL29.env.size h36).hq; have q2 := (Ow.weak hL29.env.size h36).hn; omega) (Ow.weak hL29.env.size h36).hn rfl) gn rfl ?_
  obtain ⟨r49, hv50, h⟩ := h
  refine wl_s 4 rfl (s_call [.slice A33 (((x1.length : Int) : Int).toNat) c35] rfl Tryd.func21 rfl rfl rfl fun w46 hL47 => ?_) gn
  have hp48 : List.Perm ([.own (.slice A33 n34 c35) 31 4 n34 (r31.flatMap enc_api_JNode), .own (.slice A20 n21 c22) 31 4 n21 (r18.flatMap enc_api_JNode)] : List Ent) (([] : List Ent) ++ ([.own (.slice A33 n34 c35) 31 4 n34 (r31.flatMap enc_api_JNode), .own (.slice A20 n21 c22) 31 4 n21 (r18.flatMap enc_api_JNode)] : List Ent)) := perm_of_idx [] [0, 1] rfl rfl (by kernel_rfl)
  refine Calls.mono (json_Shaped_calls w46 (Fl ([] : List Snap)) x43 A33 (((x1.length : Int) : Int).toNat) c35 (Rw.w (hL47.argV (dk := k_api_JNode) hp48 [] rfl 0 rfl rfl (Ow.weak hL29.env.size h36) (me 0 rfl) (Cells.flat _) (Vw.prefix hle42) (Nat.le_trans hle42 (Ow.weak hL29.env.size h36).hn) (Ow.weak hL29.env.size h36).hm) (by rw [hv44]; rfl)) (hL47.tt hp48 hG1 (me 1 rfl)) (hL47.tt hp48 hG2 (me 1 rfl)) (hL47.hFl (Sl := ([] : List Snap)) hp48 (sels [] rfl)) (hL47.into hp48 (Fl ([] : List Snap))) r49 hv50) ?_
  rintro _ w51 ⟨rfl, hM52⟩
  have hL53 := hL47.call hp48 hM52
  refine ⟨_, _, _, rfl, hL53, ?_⟩
  refine wl_v 5 rfl (v_assign rfl) gn rfl ?_
  refine w_end 6 rfl ?_
  refine g_seq (c := q4c16) rfl ?_
  refine g_region (c := q4c17) rfl rfl ?_
  refine wl_v 0 rfl (v_move rfl) gn rfl ?_
  refine wl_v 1 rfl (v_move rfl) gn rfl ?_
  refine wl_v 2 rfl (v_lenQ un_22 rfl h5.hq) gn rfl ?_
  obtain ⟨x55, hv56, h⟩ := h
  have hle54 : ((x1.length : Int) : Int).toNat ≤ n34 := by have q := hb41; have q1 := (Ow.weak hL29.env.size h36).hq; omega
  have h57 : Ow w.heap.size A33 ((x1.length : Int) : Int).toNat c35 x55 := Ow.w (Ow.cut (Ow.weak hL29.env.size h36) hle54) (by rw [hv56])
  refine wl_v 3 rfl (v_cutHi (i := (x1.length : Int)) slE_22 rfl rfl (by have q := hb41; have q1 := (Ow.weak hL29.env.size h36).hq; have q2 := (Ow.weak hL29.env.size h36).hn; omega) (Ow.weak hL29.env.size h36).hn rfl) gn rfl ?_
  obtain ⟨r61, hv62, h⟩ := h
  refine wl_s 4 rfl (s_call [.slice A33 (((x1.length : Int) : Int).toNat) c35] rfl Tryd.func22 rfl rfl rfl fun w58 hL59 => ?_) gn
  have hp60 : List.Perm ([.own (.slice A33 n34 c35) 31 4 n34 (r31.flatMap enc_api_JNode), .own (.slice A20 n21 c22) 31 4 n21 (r18.flatMap enc_api_JNode)] : List Ent) (([] : List Ent) ++ ([.own (.slice A33 n34 c35) 31 4 n34 (r31.flatMap enc_api_JNode), .own (.slice A20 n21 c22) 31 4 n21 (r18.flatMap enc_api_JNode)] : List Ent)) := perm_of_idx [] [0, 1] rfl rfl (by kernel_rfl)
  refine Calls.mono (json_Print_calls w58 (Fl ([] : List Snap)) x55 A33 (((x1.length : Int) : Int).toNat) c35 (Rw.w (hL59.argV (dk := k_api_JNode) hp60 [] rfl 0 rfl rfl (Ow.weak hL29.env.size h36) (me 0 rfl) (Cells.flat _) (Vw.prefix hle54) (Nat.le_trans hle54 (Ow.weak hL29.env.size h36).hn) (Ow.weak hL29.env.size h36).hm) (by rw [hv56]; rfl)) (hL59.tt hp60 hG0 (me 1 rfl)) (hL59.tt hp60 hG1 (me 1 rfl)) (hL59.tt hp60 hG2 (me 1 rfl)) (hL59.hFl (Sl := ([] : List Snap)) hp60 (sels [] rfl)) (hL59.into hp60 (Fl ([] : List Snap))) r61 hv62) ?_
  rintro _ w63 ⟨rfl, hM64⟩
  have hL65 := hL59.call hp60 hM64
  refine ⟨_, _, _, rfl, hL65, ?_⟩
  refine wl_v 5 rfl (v_move rfl) gn rfl ?_
  refine wl_v 6 rfl (v_extract rfl rfl) gn rfl ?_
  refine wl_v 7 rfl (v_extract rfl rfl) gn rfl ?_
  refine wl_v 8 rfl (v_assign rfl) gn rfl ?_
  refine wl_v 9 rfl (v_assign rfl) gn rfl ?_
  refine w_end 10 rfl ?_
  refine g_seq (c := q4c18) rfl ?_
  refine g_region (c := q4c19) rfl rfl ?_
  refine wl_v 0 rfl (v_move rfl) gn rfl ?_
  obtain ⟨r69, hv70, h⟩ := h
  refine wl_s 1 rfl (s_call [.slice A20 n21 c22] rfl Tryd.func23 rfl rfl rfl fun w66 hL67 => ?_) gn
  have hp68 : List.Perm ([.own (.slice A33 n34 c35) 31 4 n34 (r31.flatMap enc_api_JNode), .own (.slice A20 n21 c22) 31 4 n21 (r18.flatMap enc_api_JNode)] : List Ent) (([] : List Ent) ++ ([.own (.slice A33 n34 c35) 31 4 n34 (r31.flatMap enc_api_JNode), .own (.slice A20 n21 c22) 31 4 n21 (r18.flatMap enc_api_JNode)] : List Ent)) := perm_of_idx [] [0, 1] rfl rfl (by kernel_rfl)
  refine Calls.mono (trellisref25_Print_calls w66 (Fl ([] : List Snap)) r18 A20 n21 c22 (hL67.argO (dk := k_api_JNode) hp68 [] rfl 1 rfl rfl (Ow.weak hL16.env.size h23) (me 0 rfl) (Cells.flat _)) (hL67.hFl (Sl := ([] : List Snap)) hp68 (sels [] rfl)) (hL67.into hp68 (Fl ([] : List Snap))) r69 hv70) ?_
  rintro _ w71 ⟨rfl, hM72⟩
  have hL73 := hL67.call hp68 hM72
  refine ⟨_, _, _, rfl, hL73, ?_⟩
  refine wl_v 2 rfl (v_move rfl) gn rfl ?_
  refine wl_v 3 rfl (v_extract rfl rfl) gn rfl ?_
  refine wl_v 4 rfl (v_extract rfl rfl) gn rfl ?_
  refine wl_v 5 rfl (v_assign rfl) gn rfl ?_
  refine wl_v 6 rfl (v_assign rfl) gn rfl ?_
  refine w_end 7 rfl ?_
  refine g_seq (c := q4c20) rfl ?_
  refine g_seq (c := q4c21) rfl ?_
  have j1 : ∀ (x94 : Bool) (h : trellislaw25_JsonPrints_j1 x1 x94 r) , G (trellislaw25_JsonPrints_C w F r) [.code q4c24, .code q4c22] [(0, .slice A2 n3 c4), (58, .bool x94)] [] [Sm w.heap.size F w [], St w []] := by
   intro x94 h
   unfold trellislaw25_JsonPrints_j1 at h
   by_cases hp95 : x94 = true
   ·have h := if_pos' hp95 h
    refine g_true (c := q4c24) rfl _ rfl (hp95) ?_
    refine g_seq (c := q4c25) rfl ?_
    refine g_region (c := q4c27) rfl rfl ?_
    refine wl_v 0 rfl (v_assign rfl) gn rfl ?_
    refine w_end 1 rfl ?_
    refine g_retR (c := q4c28) [.bool false] rfl Tryd.func4 rfl (.tmp rfl (.nil)) fun wr hLr => ?_
    have hMr : B.Loc w wr [] [St w []] := hLr.pick0 (sels [1] rfl)
    show trellislaw25_JsonPrints_R w F  r (.returned (packV [.bool false])) wr
    rw [h]
    exact ⟨rfl, hMr⟩
   ·have h := if_neg' hp95 h
    refine g_false (c := q4c24) rfl _ rfl ((bf hp95)) ?_
    refine g_skip (c := q4c26) rfl ?_
    refine g_seq (c := q4c22) rfl ?_
    refine g_region (c := q4c29) rfl rfl ?_
    refine wl_v 0 rfl (v_move rfl) gn rfl ?_
    obtain ⟨r99, hv100, h⟩ := h
    refine wl_s 1 rfl (s_call [.slice A2 n3 c4] rfl Tryd.func13 rfl rfl rfl fun w96 hL97 => ?_) gn
    have hp98 : List.Perm ([] : List Ent) (([] : List Ent) ++ ([] : List Ent)) := perm_of_idx [] [] rfl rfl (by kernel_rfl)
    refine Calls.mono (trellislaw25_twin_calls w96 (Fl ([] : List Snap)) x1 A2 n3 c4 (Rw.mono h5 (hL97.toSt hp98 (me 1 rfl))) (hL97.hFl (Sl := ([] : List Snap)) hp98 (sels [] rfl)) (hL97.into hp98 (Fl ([] : List Snap))) r99 hv100) ?_
    rintro _ w106 ⟨A101, n102, c103, rfl, hM107, h104⟩
    have hL108 := hL97.call hp98 hM107
    refine ⟨_, _, _, rfl, hL108, ?_⟩
    refine wl_v 2 rfl (v_assign rfl) gn rfl ?_
    refine w_end 3 rfl ?_
    refine g_seq (c := q4c30) rfl ?_
    refine g_region (c := q4c31) rfl rfl ?_
    refine wl_v 0 rfl (v_move rfl) gn rfl ?_
    obtain ⟨r112, hv113, h⟩ := h
    refine wl_s 1 rfl (s_call [.slice A101 n102 c103] rfl Tryd.func21 rfl rfl rfl fun w109 hL110 => ?_) gn
    have hp111 : List.Perm ([.own (.slice A101 n102 c103) 31 4 n102 (r99.flatMap enc_api_JNode)] : List Ent) (([] : List Ent) ++ ([.own (.slice A101 n102 c103) 31 4 n102 (r99.flatMap enc_api_JNode)] : List Ent)) := perm_of_idx [] [0] rfl rfl (by kernel_rfl)
    refine Calls.mono (json_Shaped_calls w109 (Fl ([] : List Snap)) r99 A101 n102 c103 (hL110.argO (dk := k_api_JNode) hp111 [] rfl 0 rfl rfl (Ow.weak hL97.env.size h104) (me 0 rfl) (Cells.flat _)) (hL110.tt hp111 hG1 (me 1 rfl)) (hL110.tt hp111 hG2 (me 1 rfl)) (hL110.hFl (Sl := ([] : List Snap)) hp111 (sels [] rfl)) (hL110.into hp111 (Fl ([] : List Snap))) r112 hv113) ?_
    rintro _ w114 ⟨rfl, hM115⟩
    have hL116 := hL110.call hp111 hM115
    refine ⟨_, _, _, rfl, hL116, ?_⟩
    refine w_end 2 rfl ?_
    refine g_seq (c := q4c32) rfl ?_
    refine g_region (c := q4c33) rfl rfl ?_
    refine wl_v 0 rfl (v_move rfl) gn rfl ?_
    obtain ⟨r120, hv121, h⟩ := h
    refine wl_s 1 rfl (s_call [.slice A101 n102 c103] rfl Tryd.func22 rfl rfl rfl fun w117 hL118 => ?_) gn
    have hp119 : List.Perm ([.own (.slice A101 n102 c103) 31 4 n102 (r99.flatMap enc_api_JNode)] : List Ent) (([] : List Ent) ++ ([.own (.slice A101 n102 c103) 31 4 n102 (r99.flatMap enc_api_JNode)] : List Ent)) := perm_of_idx [] [0] rfl rfl (by kernel_rfl)
    refine Calls.mono (json_Print_calls w117 (Fl ([] : List Snap)) r99 A101 n102 c103 (hL118.argO (dk := k_api_JNode) hp119 [] rfl 0 rfl rfl (Ow.weak hL97.env.size h104) (me 0 rfl) (Cells.flat _)) (hL118.tt hp119 hG0 (me 1 rfl)) (hL118.tt hp119 hG1 (me 1 rfl)) (hL118.tt hp119 hG2 (me 1 rfl)) (hL118.hFl (Sl := ([] : List Snap)) hp119 (sels [] rfl)) (hL118.into hp119 (Fl ([] : List Snap))) r120 hv121) ?_
    rintro _ w122 ⟨rfl, hM123⟩
    have hL124 := hL118.call hp119 hM123
    refine ⟨_, _, _, rfl, hL124, ?_⟩
    refine w_end 2 rfl ?_
    refine g_seq (c := q4c34) rfl ?_
    refine g_region (c := q4c35) rfl rfl ?_
    refine wl_v 0 rfl (v_move rfl) gn rfl ?_
    obtain ⟨r128, hv129, h⟩ := h
    refine wl_s 1 rfl (s_call [.slice A101 n102 c103] rfl Tryd.func20 rfl rfl rfl fun w125 hL126 => ?_) gn
    have hp127 : List.Perm ([.own (.slice A101 n102 c103) 31 4 n102 (r99.flatMap enc_api_JNode)] : List Ent) (([.own (.slice A101 n102 c103) 31 4 n102 (r99.flatMap enc_api_JNode)] : List Ent) ++ ([] : List Ent)) := perm_of_idx [0] [] rfl rfl (by kernel_rfl)
    refine Calls.mono (trellislaw25_over_calls w125 (Fl ([] : List Snap)) r99 w.heap.size A101 n102 c103 hL126.env.size (Ow.weak hL97.env.size h104) (hL126.hFl (Sl := ([] : List Snap)) hp127 (sels [] rfl)) (hL126.into hp127 (Fl ([] : List Snap))) r128 hv129) ?_
    rintro _ w130 ⟨rfl, hM131, h133⟩
    have hL132 := hL126.call hp127 hM131
    refine ⟨_, _, _, rfl, hL132, ?_⟩
    refine w_end 2 rfl ?_
    refine g_seq (c := q4c36) rfl ?_
    refine g_region (c := q4c37) rfl rfl ?_
    refine wl_v 0 rfl (v_move rfl) gn rfl ?_
    obtain ⟨r137, hv138, h⟩ := h
    refine wl_s 1 rfl (s_call [.slice A101 n102 c103] rfl Tryd.func22 rfl rfl rfl fun w134 hL135 => ?_) gn
    have hp136 : List.Perm ([.own (.slice A101 n102 c103) 31 4 n102 (r128.flatMap enc_api_JNode)] : List Ent) (([] : List Ent) ++ ([.own (.slice A101 n102 c103) 31 4 n102 (r128.flatMap enc_api_JNode)] : List Ent)) := perm_of_idx [] [0] rfl rfl (by kernel_rfl)
    refine Calls.mono (json_Print_calls w134 (Fl ([] : List Snap)) r128 A101 n102 c103 (hL135.argO (dk := k_api_JNode) hp136 [] rfl 0 rfl rfl h133 (me 0 rfl) (Cells.flat _)) (hL135.tt hp136 hG0 (me 1 rfl)) (hL135.tt hp136 hG1 (me 1 rfl)) (hL135.tt hp136 hG2 (me 1 rfl)) (hL135.hFl (Sl := ([] : List Snap)) hp136 (sels [] rfl)) (hL135.into hp136 (Fl ([] : List Snap))) r137 hv138) ?_
    rintro _ w139 ⟨rfl, hM140⟩
    have hL141 := hL135.call hp136 hM140
    refine ⟨_, _, _, rfl, hL141, ?_⟩
    refine wl_v 2 rfl (v_move rfl) gn rfl ?_
    refine wl_v 3 rfl (v_extract rfl rfl) gn rfl ?_
    refine wl_v 4 rfl (v_extract rfl rfl) gn rfl ?_
    refine wl_v 5 rfl (v_assign rfl) gn rfl ?_
    refine wl_v 6 rfl (v_assign rfl) gn rfl ?_
    refine w_end 7 rfl ?_
    refine g_seq (c := q4c38) rfl ?_
    refine g_region (c := q4c39) rfl rfl ?_
    refine wl_v 0 rfl (v_move rfl) gn rfl ?_
    obtain ⟨r145, hv146, h⟩ := h
    refine wl_s 1 rfl (s_call [.slice A101 n102 c103] rfl Tryd.func13 rfl rfl rfl fun w142 hL143 => ?_) gn
    have hp144 : List.Perm ([.own (.slice A101 n102 c103) 31 4 n102 (r128.flatMap enc_api_JNode)] : List Ent) (([] : List Ent) ++ ([.own (.slice A101 n102 c103) 31 4 n102 (r128.flatMap enc_api_JNode)] : List Ent)) := perm_of_idx [] [0] rfl rfl (by kernel_rfl)
    refine Calls.mono (trellislaw25_twin_calls w142 (Fl ([] : List Snap)) r128 A101 n102 c103 (hL143.argO (dk := k_api_JNode) hp144 [] rfl 0 rfl rfl h133 (me 0 rfl) (Cells.flat _)) (hL143.hFl (Sl := ([] : List Snap)) hp144 (sels [] rfl)) (hL143.into hp144 (Fl ([] : List Snap))) r145 hv146) ?_
    rintro _ w152 ⟨A147, n148, c149, rfl, hM153, h150⟩
    have hL154 := hL143.call hp144 hM153
    refine ⟨_, _, _, rfl, hL154, ?_⟩
    obtain ⟨r158, hv159, h⟩ := h
    refine wl_s 2 rfl (s_call [.slice A147 n148 c149] rfl Tryd.func23 rfl rfl rfl fun w155 hL156 => ?_) gn
    have hp157 : List.Perm ([.own (.slice A147 n148 c149) 31 4 n148 (r145.flatMap enc_api_JNode), .own (.slice A101 n102 c103) 31 4 n102 (r128.flatMap enc_api_JNode)] : List Ent) (([] : List Ent) ++ ([.own (.slice A147 n148 c149) 31 4 n148 (r145.flatMap enc_api_JNode), .own (.slice A101 n102 c103) 31 4 n102 (r128.flatMap enc_api_JNode)] : List Ent)) := perm_of_idx [] [0, 1] rfl rfl (by kernel_rfl)
    refine Calls.mono (trellisref25_Print_calls w155 (Fl ([] : List Snap)) r145 A147 n148 c149 (hL156.argO (dk := k_api_JNode) hp157 [] rfl 0 rfl rfl (Ow.weak hL143.env.size h150) (me 0 rfl) (Cells.flat _)) (hL156.hFl (Sl := ([] : List Snap)) hp157 (sels [] rfl)) (hL156.into hp157 (Fl ([] : List Snap))) r158 hv159) ?_
    rintro _ w160 ⟨rfl, hM161⟩
    have hL162 := hL156.call hp157 hM161
    refine ⟨_, _, _, rfl, hL162, ?_⟩
    refine wl_v 3 rfl (v_move rfl) gn rfl ?_
    refine wl_v 4 rfl (v_extract rfl rfl) gn rfl ?_
    refine wl_v 5 rfl (v_extract rfl rfl) gn rfl ?_
    refine wl_v 6 rfl (v_assign rfl) gn rfl ?_
    refine wl_v 7 rfl (v_assign rfl) gn rfl ?_
    refine w_end 8 rfl ?_
    refine g_seq (c := q4c40) rfl ?_
    refine g_region (c := q4c41) rfl rfl ?_
    refine wl_v 0 rfl (v_move rfl) gn rfl ?_
    obtain ⟨r166, hv167, h⟩ := h
    refine wl_s 1 rfl (s_call [.slice A101 n102 c103] rfl Tryd.func21 rfl rfl rfl fun w163 hL164 => ?_) gn
    have hp165 : List.Perm ([.own (.slice A147 n148 c149) 31 4 n148 (r145.flatMap enc_api_JNode), .own (.slice A101 n102 c103) 31 4 n102 (r128.flatMap enc_api_JNode)] : List Ent) (([] : List Ent) ++ ([.own (.slice A147 n148 c149) 31 4 n148 (r145.flatMap enc_api_JNode), .own (.slice A101 n102 c103) 31 4 n102 (r128.flatMap enc_api_JNode)] : List Ent)) := perm_of_idx [] [0, 1] rfl rfl (by kernel_rfl)
    refine Calls.mono (json_Shaped_calls w163 (Fl ([] : List Snap)) r128 A101 n102 c103 (hL164.argO (dk := k_api_JNode) hp165 [] rfl 1 rfl rfl h133 (me 0 rfl) (Cells.flat _)) (hL164.tt hp165 hG1 (me 1 rfl)) (hL164.tt hp165 hG2 (me 1 rfl)) (hL164.hFl (Sl := ([] : List Snap)) hp165 (sels [] rfl)) (hL164.into hp165 (Fl ([] : List Snap))) r166 hv167) ?_
    rintro _ w168 ⟨rfl, hM169⟩
    have hL170 := hL164.call hp165 hM169
    refine ⟨_, _, _, rfl, hL170, ?_⟩
    refine wl_v 2 rfl (v_move rfl) gn rfl ?_
    obtain ⟨r174, hv175, h⟩ := h
    refine wl_s 3 rfl (s_call [.slice A101 n102 c103] rfl Tryd.func13 rfl rfl rfl fun w171 hL172 => ?_) gn
    have hp173 : List.Perm ([.own (.slice A147 n148 c149) 31 4 n148 (r145.flatMap enc_api_JNode), .own (.slice A101 n102 c103) 31 4 n102 (r128.flatMap enc_api_JNode)] : List Ent) (([] : List Ent) ++ ([.own (.slice A147 n148 c149) 31 4 n148 (r145.flatMap enc_api_JNode), .own (.slice A101 n102 c103) 31 4 n102 (r128.flatMap enc_api_JNode)] : List Ent)) := perm_of_idx [] [0, 1] rfl rfl (by kernel_rfl)
    refine Calls.mono (trellislaw25_twin_calls w171 (Fl ([] : List Snap)) r128 A101 n102 c103 (hL172.argO (dk := k_api_JNode) hp173 [] rfl 1 rfl rfl h133 (me 0 rfl) (Cells.flat _)) (hL172.hFl (Sl := ([] : List Snap)) hp173 (sels [] rfl)) (hL172.into hp173 (Fl ([] : List Snap))) r174 hv175) ?_
    rintro _ w181 ⟨A176, n177, c178, rfl, hM182, h179⟩
    have hL183 := hL172.call hp173 hM182
    refine ⟨_, _, _, rfl, hL183, ?_⟩
    obtain ⟨r187, hv188, h⟩ := h
    refine wl_s 4 rfl (s_call [.slice A176 n177 c178] rfl Tryd.func24 rfl rfl rfl fun w184 hL185 => ?_) gn
    have hp186 : List.Perm ([.own (.slice A176 n177 c178) 31 4 n177 (r174.flatMap enc_api_JNode), .own (.slice A147 n148 c149) 31 4 n148 (r145.flatMap enc_api_JNode), .own (.slice A101 n102 c103) 31 4 n102 (r128.flatMap enc_api_JNode)] : List Ent) (([] : List Ent) ++ ([.own (.slice A176 n177 c178) 31 4 n177 (r174.flatMap enc_api_JNode), .own (.slice A147 n148 c149) 31 4 n148 (r145.flatMap enc_api_JNode), .own (.slice A101 n102 c103) 31 4 n102 (r128.flatMap enc_api_JNode)] : List Ent)) := perm_of_idx [] [0, 1, 2] rfl rfl (by kernel_rfl)
    refine Calls.mono (trellisref25_Shaped_calls w184 (Fl ([] : List Snap)) r174 A176 n177 c178 (hL185.argO (dk := k_api_JNode) hp186 [] rfl 0 rfl rfl (Ow.weak hL172.env.size h179) (me 0 rfl) (Cells.flat _)) (hL185.hFl (Sl := ([] : List Snap)) hp186 (sels [] rfl)) (hL185.into hp186 (Fl ([] : List Snap))) r187 hv188) ?_
    rintro _ w189 ⟨rfl, hM190⟩
    have hL191 := hL185.call hp186 hM190
    refine ⟨_, _, _, rfl, hL191, ?_⟩
    refine wl_v 5 rfl (v_eqB un_4 rfl rfl) gn rfl ?_
    refine wl_v 6 rfl (v_move rfl) gn rfl ?_
    by_cases hp192 : (r166 == r187) = true
    ·have h := if_pos' hp192 h
     refine w_bool 84 rfl (hp192) ?_
     refine wl_v 7 rfl (v_move rfl) (gy 84 rfl rfl) rfl ?_
     refine wl_v 8 rfl (v_move rfl) (gy 84 rfl rfl) rfl ?_
     refine wl_v 9 rfl (v_eqS rfl rfl) (gy 84 rfl rfl) rfl ?_
     refine wl_v 10 rfl (v_pick (b := true) rfl rfl) gn rfl ?_
     refine wl_v 11 rfl (v_move rfl) gn rfl ?_
     by_cases hp193 : r137.1 = r158.1
     ·have h := if_pos' hp193 h
      refine w_bool 89 rfl ((seq_t hp193)) ?_
      refine wl_v 12 rfl (v_move rfl) (gy 89 rfl rfl) rfl ?_
      refine wl_v 13 rfl (v_move rfl) (gy 89 rfl rfl) rfl ?_
      refine wl_v 14 rfl (v_bin rfl rfl rfl) (gy 89 rfl rfl) rfl ?_
      refine wl_v 15 rfl (v_pick (b := true) rfl rfl) gn rfl ?_
      refine wl_v 16 rfl (v_assign rfl) gn rfl ?_
      refine w_end 17 rfl ?_
      refine g_retR (c := q4c42) [.bool (r137.2 == r158.2)] rfl Tryd.func4 rfl (.tmp rfl (.nil)) fun wr hLr => ?_
      have hMr : B.Loc w wr [] [St w []] := hLr.pick0 (sels [1] rfl)
      show trellislaw25_JsonPrints_R w F  r (.returned (packV [.bool (r137.2 == r158.2)])) wr
      rw [h]
      exact ⟨rfl, hMr⟩
     ·have h := if_neg' hp193 h
      refine w_bool 89 rfl ((seq_f hp193)) ?_
      refine wl_pass 12 rfl (ps 89 rfl rfl rfl) ?_
      refine wl_pass 13 rfl (ps 89 rfl rfl rfl) ?_
      refine wl_pass 14 rfl (ps 89 rfl rfl rfl) ?_
      refine wl_v 15 rfl (v_pick (b := false) rfl rfl) gn rfl ?_
      refine wl_v 16 rfl (v_assign rfl) gn rfl ?_
      refine w_end 17 rfl ?_
      refine g_retR (c := q4c42) [.bool false] rfl Tryd.func4 rfl (.tmp rfl (.nil)) fun wr hLr => ?_
      have hMr : B.Loc w wr [] [St w []] := hLr.pick0 (sels [1] rfl)
      show trellislaw25_JsonPrints_R w F  r (.returned (packV [.bool false])) wr
      rw [h]
      exact ⟨rfl, hMr⟩
    ·have h := if_neg' hp192 h
     refine w_bool 84 rfl ((bf hp192)) ?_
     refine wl_pass 7 rfl (ps 84 rfl rfl rfl) ?_
     refine wl_pass 8 rfl (ps 84 rfl rfl rfl) ?_
     refine wl_pass 9 rfl (ps 84 rfl rfl rfl) ?_
     refine wl_v 10 rfl (v_pick (b := false) rfl rfl) gn rfl ?_
     refine wl_v 11 rfl (v_move rfl) gn rfl ?_
     refine wl_pass 12 rfl (ps 89 rfl rfl rfl) ?_
     refine wl_pass 13 rfl (ps 89 rfl rfl rfl) ?_
     refine wl_pass 14 rfl (ps 89 rfl rfl rfl) ?_
     refine wl_v 15 rfl (v_pick (b := false) rfl rfl) gn rfl ?_
     refine wl_v 16 rfl (v_assign rfl) gn rfl ?_
     refine w_end 17 rfl ?_
     refine g_retR (c := q4c42) [.bool false] rfl Tryd.func4 rfl (.tmp rfl (.nil)) fun wr hLr => ?_
     have hMr : B.Loc w wr [] [St w []] := hLr.pick0 (sels [1] rfl)
     show trellislaw25_JsonPrints_R w F  r (.returned (packV [.bool false])) wr
     rw [h]
     exact ⟨rfl, hMr⟩
  refine g_region (c := q4c23) rfl rfl ?_
  refine wl_v 0 rfl (v_move rfl) gn rfl ?_
  refine wl_v 1 rfl (v_move rfl) gn rfl ?_
  obtain ⟨r197, hv198, h⟩ := h
  refine wl_s 2 rfl (s_call [.slice A20 n21 c22] rfl Tryd.func24 rfl rfl rfl fun w194 hL195 => ?_) gn
  have hp196 : List.Perm ([.own (.slice A33 n34 c35) 31 4 n34 (r31.flatMap enc_api_JNode), .own (.slice A20 n21 c22) 31 4 n21 (r18.flatMap enc_api_JNode)] : List Ent) (([] : List Ent) ++ ([.own (.slice A33 n34 c35) 31 4 n34 (r31.flatMap enc_api_JNode), .own (.slice A20 n21 c22) 31 4 n21 (r18.flatMap enc_api_JNode)] : List Ent)) := perm_of_idx [] [0, 1] rfl rfl (by kernel_rfl)
  refine Calls.mono (trellisref25_Shaped_calls w194 (Fl ([] : List Snap)) r18 A20 n21 c22 (hL195.argO (dk := k_api_JNode) hp196 [] rfl 1 rfl rfl (Ow.weak hL16.env.size h23) (me 0 rfl) (Cells.flat _)) (hL195.hFl (Sl := ([] : List Snap)) hp196 (sels [] rfl)) (hL195.into hp196 (Fl ([] : List Snap))) r197 hv198) ?_
  rintro _ w199 ⟨rfl, hM200⟩
  have hL201 := hL195.call hp196 hM200
  refine ⟨_, _, _, rfl, hL201, ?_⟩
  refine wl_v 3 rfl (v_neB un_4 rfl rfl) gn rfl ?_
  refine wl_v 4 rfl (v_move rfl) gn rfl ?_
  by_cases hp202 : (r49 != r197) = true
  ·have h := if_pos' hp202 h
   refine w_bool 43 rfl (hp202) ?_
   refine wl_pass 5 rfl (ps 43 rfl rfl rfl) ?_
   refine wl_pass 6 rfl (ps 43 rfl rfl rfl) ?_
   refine wl_pass 7 rfl (ps 43 rfl rfl rfl) ?_
   refine wl_v 8 rfl (v_pick (b := true) rfl rfl) gn rfl ?_
   refine wl_v 9 rfl (v_move rfl) gn rfl ?_
   refine wl_pass 10 rfl (ps 48 rfl rfl rfl) ?_
   refine wl_pass 11 rfl (ps 48 rfl rfl rfl) ?_
   refine wl_pass 12 rfl (ps 48 rfl rfl rfl) ?_
   refine wl_v 13 rfl (v_pick (b := true) rfl rfl) gn rfl ?_
   refine wl_v 14 rfl (v_move rfl) gn rfl ?_
   refine wl_pass 15 rfl (ps 53 rfl rfl rfl) ?_
   refine wl_pass 16 rfl (ps 53 rfl rfl rfl) ?_
   refine wl_pass 17 rfl (ps 53 rfl rfl rfl) ?_
   refine wl_pass 18 rfl (ps 53 rfl rfl rfl) ?_
   refine wl_v 19 rfl (v_pick (b := true) rfl rfl) gn rfl ?_
   refine w_end 20 rfl ?_
   exact g_go [0, 1] (j1 true h) ⟨rfl, rfl, trivial⟩ (.cons _ (.cons _ (.slnil))) rfl
  ·have h := if_neg' hp202 h
   refine w_bool 43 rfl ((bf hp202)) ?_
   refine wl_v 5 rfl (v_move rfl) (gy 43 rfl rfl) rfl ?_
   refine wl_v 6 rfl (v_move rfl) (gy 43 rfl rfl) rfl ?_
   refine wl_v 7 rfl (v_neS rfl rfl) (gy 43 rfl rfl) rfl ?_
   refine wl_v 8 rfl (v_pick (b := false) rfl rfl) gn rfl ?_
   refine wl_v 9 rfl (v_move rfl) gn rfl ?_
   by_cases hp203 : r61.1 = r69.1
   ·have h := if_pos' hp203 h
    refine w_bool 48 rfl ((nf (seq_t hp203))) ?_
    refine wl_v 10 rfl (v_move rfl) (gy 48 rfl rfl) rfl ?_
    refine wl_v 11 rfl (v_move rfl) (gy 48 rfl rfl) rfl ?_
    refine wl_v 12 rfl (v_bin rfl rfl rfl) (gy 48 rfl rfl) rfl ?_
    refine wl_v 13 rfl (v_pick (b := false) rfl rfl) gn rfl ?_
    refine wl_v 14 rfl (v_move rfl) gn rfl ?_
    by_cases hp204 : r61.2 = r69.2
    ·have h := if_pos' hp204 h
     refine w_bool 53 rfl ((eqib hp204)) ?_
     refine wl_v 15 rfl (v_move rfl) (gy 53 rfl rfl) rfl ?_
     refine wl_v 16 rfl (v_move rfl) (gy 53 rfl rfl) rfl ?_
     obtain ⟨r208, hv209, h⟩ := h
     refine wl_s 17 rfl (s_call [.slice A33 n34 c35, .slice A20 n21 c22] rfl Tryd.func19 rfl rfl rfl fun w205 hL206 => ?_) (gy 53 rfl rfl)
     have hp207 : List.Perm ([.own (.slice A33 n34 c35) 31 4 n34 (r31.flatMap enc_api_JNode), .own (.slice A20 n21 c22) 31 4 n21 (r18.flatMap enc_api_JNode)] : List Ent) (([] : List Ent) ++ ([.own (.slice A33 n34 c35) 31 4 n34 (r31.flatMap enc_api_JNode), .own (.slice A20 n21 c22) 31 4 n21 (r18.flatMap enc_api_JNode)] : List Ent)) := perm_of_idx [] [0, 1] rfl rfl (by kernel_rfl)
     refine Calls.mono (trellislaw25_spared_calls w205 (Fl ([] : List Snap)) r31 r18 A33 n34 c35 A20 n21 c22 (hL206.argO (dk := k_api_JNode) hp207 [] rfl 0 rfl rfl (Ow.weak hL29.env.size h36) (me 0 rfl) (Cells.flat _)) (hL206.argO (dk := k_api_JNode) hp207 [] rfl 1 rfl rfl (Ow.weak hL16.env.size h23) (me 0 rfl) (Cells.flat _)) (hL206.hFl (Sl := ([] : List Snap)) hp207 (sels [] rfl)) (hL206.into hp207 (Fl ([] : List Snap))) r208 hv209) ?_
     rintro _ w210 ⟨rfl, hM211⟩
     have hL212 := hL206.call hp207 hM211
     refine ⟨_, _, _, rfl, hL212, ?_⟩
     refine wl_v 18 rfl (v_not rfl) (gy 53 rfl rfl) rfl ?_
     refine wl_v 19 rfl (v_pick (b := false) rfl rfl) gn rfl ?_
     refine w_end 20 rfl ?_
     exact g_go [0, 1] (j1 (!r208) h) ⟨rfl, rfl, trivial⟩ (.cons _ (.cons _ (.slnil))) rfl
    ·have h := if_neg' hp204 h
     refine w_bool 53 rfl ((neib hp204)) ?_
     refine wl_pass 15 rfl (ps 53 rfl rfl rfl) ?_
     refine wl_pass 16 rfl (ps 53 rfl rfl rfl) ?_
     refine wl_pass 17 rfl (ps 53 rfl rfl rfl) ?_
     refine wl_pass 18 rfl (ps 53 rfl rfl rfl) ?_
     refine wl_v 19 rfl (v_pick (b := true) rfl rfl) gn rfl ?_
     refine w_end 20 rfl ?_
     exact g_go [0, 1] (j1 true h) ⟨rfl, rfl, trivial⟩ (.cons _ (.cons _ (.slnil))) rfl
   ·have h := if_neg' hp203 h
    refine w_bool 48 rfl ((nt (seq_f hp203))) ?_
    refine wl_pass 10 rfl (ps 48 rfl rfl rfl) ?_
    refine wl_pass 11 rfl (ps 48 rfl rfl rfl) ?_
    refine wl_pass 12 rfl (ps 48 rfl rfl rfl) ?_
    refine wl_v 13 rfl (v_pick (b := true) rfl rfl) gn rfl ?_
    refine wl_v 14 rfl (v_move rfl) gn rfl ?_
    refine wl_pass 15 rfl (ps 53 rfl rfl rfl) ?_
    refine wl_pass 16 rfl (ps 53 rfl rfl rfl) ?_
    refine wl_pass 17 rfl (ps 53 rfl rfl rfl) ?_
    refine wl_pass 18 rfl (ps 53 rfl rfl rfl) ?_
    refine wl_v 19 rfl (v_pick (b := true) rfl rfl) gn rfl ?_
    refine w_end 20 rfl ?_
    exact g_go [0, 1] (j1 true h) ⟨rfl, rfl, trivial⟩ (.cons _ (.cons _ (.slnil))) rfl
end Go.Proofs.YtmfopcbjgbphaaaDoor.K
