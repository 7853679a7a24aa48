/- What the machine's calls do, function by function, printed by my own tool. Condition of each: its relation holds of the answer, and what is handed in lies in memory as told. -/
import Derived.Test.YtmekgfcfooghnaaK2
set_option linter.unusedVariables false
set_option maxRecDepth 100000
set_option maxHeartbeats 4000000
namespace Go.Proofs.Ytmekgfcfooghnaa.K
open Go.Proofs.Ytmekgfcfooghnaa.B Go.Proofs.Ytmekgfcfooghnaa.R Go.RowKit
noncomputable abbrev q53c0 : Code := bodyOf Try.f53
noncomputable abbrev q53c1 : Code := Code.fst q53c0
noncomputable abbrev q53c2 : Code := Code.snd q53c0
noncomputable abbrev q53c3 : Code := Code.fst q53c2
noncomputable abbrev q53c4 : Code := Code.snd q53c2
noncomputable abbrev q53c5 : Code := Code.fst q53c4
noncomputable abbrev q53c6 : Code := Code.snd q53c4
noncomputable abbrev q53c7 : Code := Code.fst q53c5
noncomputable abbrev q53c8 : Code := Code.snd q53c5
noncomputable abbrev q53c9 : Code := Code.fst q53c8
noncomputable abbrev q53c10 : Code := Code.snd q53c8
noncomputable abbrev q53c11 : Code := Code.fst q53c6
noncomputable abbrev q53c12 : Code := Code.snd q53c6
noncomputable abbrev q53c13 : Code := Code.fst q53c12
noncomputable abbrev q53c14 : Code := Code.snd q53c12
noncomputable abbrev q53c15 : Code := Code.fst q53c14
noncomputable abbrev q53c16 : Code := Code.snd q53c14
noncomputable abbrev q53c17 : Code := Code.fst q53c15
noncomputable abbrev q53c18 : Code := Code.snd q53c15
noncomputable abbrev q53c19 : Code := Code.fst q53c18
noncomputable abbrev q53c20 : Code := Code.fst q53c19
noncomputable abbrev q53c21 : Code := Code.fst q53c20
noncomputable abbrev q53c22 : Code := Code.snd q53c20
noncomputable abbrev q53c23 : Code := Code.fst q53c22
noncomputable abbrev q53c24 : Code := Code.snd q53c22
noncomputable abbrev q53c25 : Code := Code.fst q53c23
noncomputable abbrev q53c26 : Code := Code.snd q53c23
noncomputable abbrev q53c27 : Code := Code.fst q53c24
noncomputable abbrev q53c28 : Code := Code.snd q53c24
noncomputable abbrev q53c29 : Code := Code.fst q53c27
noncomputable abbrev q53c30 : Code := Code.fst q53c29
noncomputable abbrev q53c31 : Code := Code.snd q53c29
noncomputable abbrev q53c32 : Code := Code.fst q53c31
noncomputable abbrev q53c33 : Code := Code.snd q53c31
noncomputable abbrev q53c34 : Code := Code.fst q53c32
noncomputable abbrev q53c35 : Code := Code.snd q53c32
noncomputable abbrev q53c36 : Code := Code.fst q53c35
noncomputable abbrev q53c37 : Code := Code.snd q53c35
noncomputable abbrev q53c38 : Code := Code.fst q53c33
noncomputable abbrev q53c39 : Code := Code.snd q53c33
noncomputable abbrev q53c40 : Code := Code.fst q53c38
noncomputable abbrev q53c41 : Code := Code.snd q53c38
noncomputable abbrev q53c42 : Code := Code.fst q53c41
noncomputable abbrev q53c43 : Code := Code.snd q53c41
noncomputable abbrev q53c44 : Code := Code.fst q53c39
noncomputable abbrev q53c45 : Code := Code.snd q53c39
noncomputable abbrev q53c46 : Code := Code.fst q53c45
noncomputable abbrev q53c47 : Code := Code.snd q53c45
noncomputable abbrev q53c48 : Code := Code.fst q53c46
noncomputable abbrev q53c49 : Code := Code.snd q53c46
noncomputable abbrev q53c50 : Code := Code.fst q53c49
noncomputable abbrev q53c51 : Code := Code.snd q53c49
noncomputable abbrev q53c52 : Code := Code.fst q53c47
noncomputable abbrev q53c53 : Code := Code.snd q53c47
noncomputable abbrev q53c54 : Code := Code.fst q53c52
noncomputable abbrev q53c55 : Code := Code.snd q53c52
noncomputable abbrev q53c56 : Code := Code.fst q53c55
noncomputable abbrev q53c57 : Code := Code.snd q53c55
noncomputable abbrev q53c58 : Code := Code.fst q53c56
noncomputable abbrev q53c59 : Code := Code.snd q53c56
noncomputable abbrev q53c60 : Code := Code.fst q53c53
noncomputable abbrev q53c61 : Code := Code.snd q53c53
noncomputable abbrev q53c62 : Code := Code.fst q53c61
noncomputable abbrev q53c63 : Code := Code.fst q53c62
noncomputable abbrev q53c64 : Code := Code.fst q53c63
noncomputable abbrev q53c65 : Code := Code.snd q53c63
noncomputable abbrev q53c66 : Code := Code.fst q53c64
noncomputable abbrev q53c67 : Code := Code.snd q53c64
noncomputable abbrev q53c68 : Code := Code.fst q53c67
noncomputable abbrev q53c69 : Code := Code.snd q53c67
noncomputable abbrev q53c70 : Code := Code.fst q53c65
noncomputable abbrev q53c71 : Code := Code.fst q53c70
noncomputable abbrev q53c72 : Code := Code.snd q53c70
noncomputable abbrev q53c73 : Code := Code.fst q53c16
noncomputable abbrev q53c74 : Code := Code.snd q53c16
noncomputable abbrev q53c75 : Code := Code.fst q53c9
noncomputable abbrev q53c76 : Code := Code.snd q53c9
abbrev tree_Text_R (w : World) (F : Nat → Prop) (r : ByteArray) : Ending → World → Prop := fun e w' => e = .returned (.string r) ∧ B.Loc w w' [] [St w []]
noncomputable abbrev tree_Text_C (w : World) (F : Nat → Prop) (r : ByteArray) : Cx := ⟨Try.prog, 53, Try.f53, 79, tree_Text_R w F  r, w⟩
theorem tree_Text_calls (w : World) (F : Nat → Prop) (x1 : List api_Node) (A2 : Option Addr) (n3 : Nat) (c4 : Nat) (h5 : Rw k_api_Node w (St w []).av A2 n3 c4 x1) (hF : ∀ b, F b → b < w.heap.size ∧ ∀ o ∈ ([] : List (List Nat)), b ∉ o) (hL0 : B.Loc w w [] [Sm w.heap.size F w [], St w []]) (r : ByteArray) (h : tree_Text x1 r) : Calls Try.prog 53 #[.slice A2 n3 c4] w (tree_Text_R w F  r) := by
 unfold tree_Text at h
 refine calls_of_Loc (vs := [.slice A2 n3 c4]) 79 Try.func53 rfl Try.ntmps53 rfl hL0 ?_
 show G (tree_Text_C w F r) _ _ _ _
 refine g_seq (c := q53c0) rfl ?_
 refine g_region (c := q53c1) rfl rfl ?_
 refine wl_v 0 rfl (v_assign rfl) gn rfl ?_
 refine w_end 1 rfl ?_
 refine g_seq (c := q53c2) rfl ?_
 refine g_region (c := q53c3) rfl rfl ?_
 refine wl_v 0 rfl (v_move rfl) gn rfl ?_
 obtain ⟨r9, hv10, h⟩ := h
 refine wl_s 1 rfl (s_call [.slice A2 n3 c4] rfl Try.func44 rfl rfl rfl fun w6 hL7 => ?_) gn
 have hp8 : List.Perm ([] : List Ent) (([] : List Ent) ++ ([] : List Ent)) := perm_of_idx [] [] rfl rfl (by kernel_rfl)
 refine Calls.mono (tree_plant_calls w6 (Fl ([St w []] : List Snap)) x1 A2 n3 c4 (Rw.mono h5 (hL7.toFl (me 1 rfl) (me 0 rfl))) (hL7.hFl (Sl := ([St w []] : List Snap)) hp8 (sels [1] rfl)) (hL7.into hp8 (Fl ([St w []] : List Snap))) r9 hv10) ?_
 rintro _ w25 ⟨A15, n16, c17, A20, n21, c22, A11, n12, c13, rfl, hM26, h18, h23, h14⟩
 obtain ⟨sv29, hL27, hv28⟩ := hL7.callN (Sl := ([St w []] : List Snap)) hp8 hM26 (sels [1] rfl)
 have h14 : At k_api_Node (sv29) A11 n12 c13 r9.nodes := Rw.mono h14 hv28
 refine ⟨_, _, _, rfl, hL27, ?_⟩
 refine wl_s 2 rfl (s_alloc [.slice none 0 0, .slice none 0 0, .slice none 0 0, .bool false] zr_32 rfl fun gb30 => ?_) gn
 refine wl_s 3 rfl (s_stB (vs := [.slice A11 n12 c13, .slice A15 n16 c17, .slice A20 n21 c22, .bool r9.ok]) (cs' := [.slice A11 n12 c13, .slice A15 n16 c17, .slice A20 n21 c22, .bool r9.ok]) (M' := [.box gb30 32 [.slice A11 n12 c13, .slice A15 n16 c17, .slice A20 n21 c22, .bool r9.ok], .own (.slice A15 n16 c17) 3 1 n16 (r9.parent.flatMap (eI .i64)), .own (.slice A20 n21 c22) 3 1 n21 (r9.end_.flatMap (eI .i64))]) 0 sz_32 rfl rfl rfl rfl rfl rfl rfl rfl rfl ?_) gn
 refine w_end 4 rfl ?_
 refine g_seq (c := q53c4) rfl ?_
 refine g_seq (c := q53c5) rfl ?_
 refine g_region (c := q53c7) rfl rfl ?_
 refine wl_v 0 rfl (v_fldB fo_32_3 rfl) gn rfl ?_
 refine wl_v 1 rfl (v_ldB1 0 ld_4 rfl rfl rfl) gn rfl ?_
 refine wl_v 2 rfl (v_not rfl) gn rfl ?_
 refine w_end 3 rfl ?_
 by_cases hp32 : r9.ok = true
 ·have h := if_pos' hp32 h
  refine g_false (c := q53c8) rfl _ rfl ((nf hp32)) ?_
  refine g_skip (c := q53c10) rfl ?_
  refine g_seq (c := q53c6) rfl ?_
  refine g_region (c := q53c11) rfl rfl ?_
  refine wl_s 0 rfl (s_alloc [.pointer none, .slice none 0 0] zr_123 rfl fun gb33 => ?_) gn
  refine w_end 1 rfl ?_
  refine g_seq (c := q53c12) rfl ?_
  refine g_region (c := q53c13) rfl rfl ?_
  refine wl_v 0 rfl (v_assign rfl) gn rfl ?_
  refine w_end 1 rfl ?_
  refine g_seq (c := q53c14) rfl ?_
  refine g_seq (c := q53c15) rfl ?_
  refine g_region (c := q53c17) rfl rfl ?_
  refine wl_v 0 rfl (v_move rfl) gn rfl ?_
  refine wl_v 1 rfl (v_lenQ un_22 rfl h5.hq) gn rfl ?_
  refine wl_v 2 rfl (v_move rfl) gn rfl ?_
  refine w_end 3 rfl ?_
  refine g_block (c := q53c18) rfl ?_
  refine g_loop (c := q53c19) rfl ?_
  have key1 : ∀ s, Rounds (fun (s : (List Int) × Int × Bool × (List Int)) o => tree_Text_b1 x1 r9 s.1 s.2.1 s.2.2.1 s.2.2.2 o) s r → (fun (s : (List Int) × Int × Bool × (List Int)) => ∀ (A263 : Option Addr) (n264 : Nat) (c265 : Nat) (h266 : Ow w.heap.size A263 n264 c265 s.1) (A270 : Option Addr) (n271 : Nat) (c272 : Nat) (h273 : Ow w.heap.size A270 n271 c272 s.2.2.2), G (tree_Text_C w F r) [.code q53c20, .inLoop q53c20, .inBlock 0, .code q53c16] [(3, .pointer (some ⟨gb30, 0, none⟩)), (4, .pointer (some ⟨gb33, 0, none⟩)), (5, .slice A263 n264 c265), (14, .slice A2 n3 c4), (15, .int .i64 (x1.length : Int)), (16, .int .i64 s.2.1)] [.own (.slice A263 n264 c265) 3 1 n264 (s.1.flatMap (eI .i64)), .own (.slice A270 n271 c272) 5 1 n271 (s.2.2.2.flatMap (eI .u8)), .box gb33 123 [selfP gb33 s.2.2.1, .slice A270 n271 c272], .box gb30 32 [.slice A11 n12 c13, .slice A15 n16 c17, .slice A20 n21 c22, .bool r9.ok], .own (.slice A15 n16 c17) 3 1 n16 (r9.parent.flatMap (eI .i64)), .own (.slice A20 n21 c22) 3 1 n21 (r9.end_.flatMap (eI .i64))] [sv29, Sm w.heap.size F w [], St w []]) s := by
   intro s hs
   refine Rounds.ind (mot := (fun (s : (List Int) × Int × Bool × (List Int)) => ∀ (A263 : Option Addr) (n264 : Nat) (c265 : Nat) (h266 : Ow w.heap.size A263 n264 c265 s.1) (A270 : Option Addr) (n271 : Nat) (c272 : Nat) (h273 : Ow w.heap.size A270 n271 c272 s.2.2.2), G (tree_Text_C w F r) [.code q53c20, .inLoop q53c20, .inBlock 0, .code q53c16] [(3, .pointer (some ⟨gb30, 0, none⟩)), (4, .pointer (some ⟨gb33, 0, none⟩)), (5, .slice A263 n264 c265), (14, .slice A2 n3 c4), (15, .int .i64 (x1.length : Int)), (16, .int .i64 s.2.1)] [.own (.slice A263 n264 c265) 3 1 n264 (s.1.flatMap (eI .i64)), .own (.slice A270 n271 c272) 5 1 n271 (s.2.2.2.flatMap (eI .u8)), .box gb33 123 [selfP gb33 s.2.2.1, .slice A270 n271 c272], .box gb30 32 [.slice A11 n12 c13, .slice A15 n16 c17, .slice A20 n21 c22, .bool r9.ok], .own (.slice A15 n16 c17) 3 1 n16 (r9.parent.flatMap (eI .i64)), .own (.slice A20 n21 c22) 3 1 n21 (r9.end_.flatMap (eI .i64))] [sv29, Sm w.heap.size F w [], St w []])) ?_ hs
   clear hs s
   intro s o1 h hO1
   obtain ⟨x262, x267, x268, x269⟩ := s
   show ∀ (A263 : Option Addr) (n264 : Nat) (c265 : Nat) (h266 : Ow w.heap.size A263 n264 c265 x262) (A270 : Option Addr) (n271 : Nat) (c272 : Nat) (h273 : Ow w.heap.size A270 n271 c272 x269), G (tree_Text_C w F r) [.code q53c20, .inLoop q53c20, .inBlock 0, .code q53c16] [(3, .pointer (some ⟨gb30, 0, none⟩)), (4, .pointer (some ⟨gb33, 0, none⟩)), (5, .slice A263 n264 c265), (14, .slice A2 n3 c4), (15, .int .i64 (x1.length : Int)), (16, .int .i64 x267)] [.own (.slice A263 n264 c265) 3 1 n264 (x262.flatMap (eI .i64)), .own (.slice A270 n271 c272) 5 1 n271 (x269.flatMap (eI .u8)), .box gb33 123 [selfP gb33 x268, .slice A270 n271 c272], .box gb30 32 [.slice A11 n12 c13, .slice A15 n16 c17, .slice A20 n21 c22, .bool r9.ok], .own (.slice A15 n16 c17) 3 1 n16 (r9.parent.flatMap (eI .i64)), .own (.slice A20 n21 c22) 3 1 n21 (r9.end_.flatMap (eI .i64))] [sv29, Sm w.heap.size F w [], St w []]
   intro A263 n264 c265 h266 A270 n271 c272 h273
   have h : tree_Text_b1 x1 r9 x262 x267 x268 x269 o1 := h
   unfold tree_Text_b1 at h
   refine g_seq (c := q53c20) rfl ?_
   refine g_region (c := q53c21) rfl rfl ?_
   refine wl_v 0 rfl (v_bin rfl rfl rfl) gn rfl ?_
   refine w_end 1 rfl ?_
   refine g_seq (c := q53c22) rfl ?_
   by_cases hp529 : x267 < (x1.length : Int)
   ·have h := if_pos' hp529 h
    refine g_true (c := q53c23) rfl _ rfl ((decide_eq_true hp529)) ?_
    refine g_skip (c := q53c25) rfl ?_
    refine g_seq (c := q53c24) rfl ?_
    refine g_block (c := q53c27) rfl ?_
    refine g_seq (c := q53c29) rfl ?_
    refine g_region (c := q53c30) rfl rfl ?_
    refine wl_v 0 rfl (v_move rfl) gn rfl ?_
    obtain ⟨hb530, h⟩ := h
    have hr531 := Rw.readF (s := St w []) (hl := hl_api_Node) (h1 := h1_api_Node) h5 hb530
    refine wl_v 1 rfl (v_idxR (s := St w []) slE_22 rfl rfl h5 hb530) gn rfl ?_
    refine wl_v 2 rfl (v_ldA (St w []) ld_39 rfl hr531 rfl (me 2 rfl)) gn rfl ?_
    refine wl_s 3 rfl (s_alloc [.string (⟨#[]⟩ : ByteArray), .bool false, .string (⟨#[]⟩ : ByteArray), .int .i64 0, .int .i64 0, .int .i64 0, .int .i64 0] zr_39 rfl fun gb532 => ?_) gn
    refine wl_v 4 rfl (v_assign rfl) gn rfl ?_
    refine wl_s 5 rfl (s_stB (vs := [.string ((ix x1 x267).name), .bool ((ix x1 x267).named), .string ((ix x1 x267).field), .int .i64 ((ix x1 x267).from_), .int .i64 ((ix x1 x267).to), .int .i64 ((ix x1 x267).kids), .int .i64 ((ix x1 x267).leaf)]) (cs' := [.string ((ix x1 x267).name), .bool ((ix x1 x267).named), .string ((ix x1 x267).field), .int .i64 ((ix x1 x267).from_), .int .i64 ((ix x1 x267).to), .int .i64 ((ix x1 x267).kids), .int .i64 ((ix x1 x267).leaf)]) (M' := [.box gb532 39 [.string ((ix x1 x267).name), .bool ((ix x1 x267).named), .string ((ix x1 x267).field), .int .i64 ((ix x1 x267).from_), .int .i64 ((ix x1 x267).to), .int .i64 ((ix x1 x267).kids), .int .i64 ((ix x1 x267).leaf)], .own (.slice A263 n264 c265) 3 1 n264 (x262.flatMap (eI .i64)), .own (.slice A270 n271 c272) 5 1 n271 (x269.flatMap (eI .u8)), .box gb33 123 [selfP gb33 x268, .slice A270 n271 c272], .box gb30 32 [.slice A11 n12 c13, .slice A15 n16 c17, .slice A20 n21 c22, .bool r9.ok], .own (.slice A15 n16 c17) 3 1 n16 (r9.parent.flatMap (eI .i64)), .own (.slice A20 n21 c22) 3 1 n21 (r9.end_.flatMap (eI .i64))]) 0 sz_39 rfl rfl rfl rfl rfl rfl rfl rfl rfl ?_) gn
    refine w_end 6 rfl ?_
    refine g_seq (c := q53c31) rfl ?_
    refine g_seq (c := q53c32) rfl ?_
    refine g_region (c := q53c34) rfl rfl ?_
    refine wl_v 0 rfl (v_move rfl) gn rfl ?_
    refine wl_v 1 rfl (v_bin rfl rfl rfl) gn rfl ?_
    refine w_end 2 rfl ?_
    have j2 : ∀ (x549 : Bool) (x550 : List Int) (h : tree_Text_j2 x1 x267 x262 r9 x549 x550 o1) (A551 : Option Addr) (n552 : Nat) (c553 : Nat) (h554 : Ow w.heap.size A551 n552 c553 x550), G (tree_Text_C w F r) [.code q53c33, .inBlock 1, .code q53c28, .inLoop q53c20, .inBlock 0, .code q53c16] [(3, .pointer (some ⟨gb30, 0, none⟩)), (4, .pointer (some ⟨gb33, 0, none⟩)), (5, .slice A263 n264 c265), (6, .int .i64 x267), (7, .pointer (some ⟨gb532, 0, none⟩)), (14, .slice A2 n3 c4), (15, .int .i64 (x1.length : Int)), (16, .int .i64 x267)] [.own (.slice A551 n552 c553) 5 1 n552 (x550.flatMap (eI .u8)), .box gb33 123 [selfP gb33 x549, .slice A551 n552 c553], .box gb532 39 [.string ((ix x1 x267).name), .bool ((ix x1 x267).named), .string ((ix x1 x267).field), .int .i64 ((ix x1 x267).from_), .int .i64 ((ix x1 x267).to), .int .i64 ((ix x1 x267).kids), .int .i64 ((ix x1 x267).leaf)], .own (.slice A263 n264 c265) 3 1 n264 (x262.flatMap (eI .i64)), .box gb30 32 [.slice A11 n12 c13, .slice A15 n16 c17, .slice A20 n21 c22, .bool r9.ok], .own (.slice A15 n16 c17) 3 1 n16 (r9.parent.flatMap (eI .i64)), .own (.slice A20 n21 c22) 3 1 n21 (r9.end_.flatMap (eI .i64))] [sv29, Sm w.heap.size F w [], St w []] := by
     intro x549 x550 h A551 n552 c553 h554
     unfold tree_Text_j2 at h
     refine g_seq (c := q53c33) rfl ?_
     refine g_seq (c := q53c38) rfl ?_
     refine g_region (c := q53c40) rfl rfl ?_
     refine wl_v 0 rfl (v_fldB fo_39_2 rfl) gn rfl ?_
     refine wl_v 1 rfl (v_ldB1 2 ld_9 rfl rfl rfl) gn rfl ?_
     refine wl_v 2 rfl (v_neS rfl rfl) gn rfl ?_
     refine w_end 3 rfl ?_
     have j3 : ∀ (x571 : Bool) (x572 : List Int) (h : tree_Text_j3 x1 x267 x262 r9 x571 x572 o1) (A573 : Option Addr) (n574 : Nat) (c575 : Nat) (h576 : Ow w.heap.size A573 n574 c575 x572), G (tree_Text_C w F r) [.code q53c39, .inBlock 1, .code q53c28, .inLoop q53c20, .inBlock 0, .code q53c16] [(3, .pointer (some ⟨gb30, 0, none⟩)), (4, .pointer (some ⟨gb33, 0, none⟩)), (5, .slice A263 n264 c265), (6, .int .i64 x267), (7, .pointer (some ⟨gb532, 0, none⟩)), (14, .slice A2 n3 c4), (15, .int .i64 (x1.length : Int)), (16, .int .i64 x267)] [.own (.slice A573 n574 c575) 5 1 n574 (x572.flatMap (eI .u8)), .box gb33 123 [selfP gb33 x571, .slice A573 n574 c575], .box gb532 39 [.string ((ix x1 x267).name), .bool ((ix x1 x267).named), .string ((ix x1 x267).field), .int .i64 ((ix x1 x267).from_), .int .i64 ((ix x1 x267).to), .int .i64 ((ix x1 x267).kids), .int .i64 ((ix x1 x267).leaf)], .own (.slice A263 n264 c265) 3 1 n264 (x262.flatMap (eI .i64)), .box gb30 32 [.slice A11 n12 c13, .slice A15 n16 c17, .slice A20 n21 c22, .bool r9.ok], .own (.slice A15 n16 c17) 3 1 n16 (r9.parent.flatMap (eI .i64)), .own (.slice A20 n21 c22) 3 1 n21 (r9.end_.flatMap (eI .i64))] [sv29, Sm w.heap.size F w [], St w []] := by
      intro x571 x572 h A573 n574 c575 h576
      unfold tree_Text_j3 at h
      refine g_seq (c := q53c39) rfl ?_
      refine g_region (c := q53c44) rfl rfl ?_
      refine wl_v 0 rfl (v_fldB fo_39_0 rfl) gn rfl ?_
      refine wl_v 1 rfl (v_ldB1 2 ld_9 rfl rfl rfl) gn rfl ?_
      refine wl_v 2 rfl (v_assign rfl) gn rfl ?_
      refine w_end 3 rfl ?_
      refine g_seq (c := q53c45) rfl ?_
      refine g_seq (c := q53c46) rfl ?_
      refine g_region (c := q53c48) rfl rfl ?_
      refine wl_v 0 rfl (v_fldB fo_39_1 rfl) gn rfl ?_
      refine wl_v 1 rfl (v_ldB1 2 ld_4 rfl rfl rfl) gn rfl ?_
      refine wl_v 2 rfl (v_not rfl) gn rfl ?_
      refine w_end 3 rfl ?_
      have j4 : ∀ (x587 : ByteArray) (h : tree_Text_j4 x1 x267 x571 x572 x262 r9 x587 o1) , G (tree_Text_C w F r) [.code q53c47, .inBlock 1, .code q53c28, .inLoop q53c20, .inBlock 0, .code q53c16] [(3, .pointer (some ⟨gb30, 0, none⟩)), (4, .pointer (some ⟨gb33, 0, none⟩)), (5, .slice A263 n264 c265), (6, .int .i64 x267), (7, .pointer (some ⟨gb532, 0, none⟩)), (8, .string x587), (14, .slice A2 n3 c4), (15, .int .i64 (x1.length : Int)), (16, .int .i64 x267)] [.own (.slice A573 n574 c575) 5 1 n574 (x572.flatMap (eI .u8)), .box gb33 123 [selfP gb33 x571, .slice A573 n574 c575], .box gb532 39 [.string ((ix x1 x267).name), .bool ((ix x1 x267).named), .string ((ix x1 x267).field), .int .i64 ((ix x1 x267).from_), .int .i64 ((ix x1 x267).to), .int .i64 ((ix x1 x267).kids), .int .i64 ((ix x1 x267).leaf)], .own (.slice A263 n264 c265) 3 1 n264 (x262.flatMap (eI .i64)), .box gb30 32 [.slice A11 n12 c13, .slice A15 n16 c17, .slice A20 n21 c22, .bool r9.ok], .own (.slice A15 n16 c17) 3 1 n16 (r9.parent.flatMap (eI .i64)), .own (.slice A20 n21 c22) 3 1 n21 (r9.end_.flatMap (eI .i64))] [sv29, Sm w.heap.size F w [], St w []] := by
       intro x587 h
       unfold tree_Text_j4 at h
       refine g_seq (c := q53c47) rfl ?_
       refine g_seq (c := q53c52) rfl ?_
       have j5 : ∀ (x590 : Bool) (h : tree_Text_j5 x571 x572 x262 x267 x587 r9 x590 o1) , G (tree_Text_C w F r) [.code q53c55, .code q53c53, .inBlock 1, .code q53c28, .inLoop q53c20, .inBlock 0, .code q53c16] [(3, .pointer (some ⟨gb30, 0, none⟩)), (4, .pointer (some ⟨gb33, 0, none⟩)), (5, .slice A263 n264 c265), (6, .int .i64 x267), (8, .string x587), (14, .slice A2 n3 c4), (15, .int .i64 (x1.length : Int)), (16, .int .i64 x267), (45, .bool x590)] [.own (.slice A573 n574 c575) 5 1 n574 (x572.flatMap (eI .u8)), .box gb33 123 [selfP gb33 x571, .slice A573 n574 c575], .own (.slice A263 n264 c265) 3 1 n264 (x262.flatMap (eI .i64)), .box gb30 32 [.slice A11 n12 c13, .slice A15 n16 c17, .slice A20 n21 c22, .bool r9.ok], .own (.slice A15 n16 c17) 3 1 n16 (r9.parent.flatMap (eI .i64)), .own (.slice A20 n21 c22) 3 1 n21 (r9.end_.flatMap (eI .i64))] [sv29, Sm w.heap.size F w [], St w []] := by
        intro x590 h
        unfold tree_Text_j5 at h
        have j6 : ∀ (x615 : List Int) (x620 : Bool) (x621 : List Int) (h : tree_Text_j6 x587 r9 x267 x615 x620 x621 o1) (A616 : Option Addr) (n617 : Nat) (c618 : Nat) (h619 : Ow w.heap.size A616 n617 c618 x615) (A622 : Option Addr) (n623 : Nat) (c624 : Nat) (h625 : Ow w.heap.size A622 n623 c624 x621), G (tree_Text_C w F r) [.code q53c53, .inBlock 1, .code q53c28, .inLoop q53c20, .inBlock 0, .code q53c16] [(3, .pointer (some ⟨gb30, 0, none⟩)), (4, .pointer (some ⟨gb33, 0, none⟩)), (5, .slice A616 n617 c618), (6, .int .i64 x267), (8, .string x587), (14, .slice A2 n3 c4), (15, .int .i64 (x1.length : Int)), (16, .int .i64 x267)] [.own (.slice A622 n623 c624) 5 1 n623 (x621.flatMap (eI .u8)), .box gb33 123 [selfP gb33 x620, .slice A622 n623 c624], .own (.slice A616 n617 c618) 3 1 n617 (x615.flatMap (eI .i64)), .box gb30 32 [.slice A11 n12 c13, .slice A15 n16 c17, .slice A20 n21 c22, .bool r9.ok], .own (.slice A15 n16 c17) 3 1 n16 (r9.parent.flatMap (eI .i64)), .own (.slice A20 n21 c22) 3 1 n21 (r9.end_.flatMap (eI .i64))] [sv29, Sm w.heap.size F w [], St w []] := by
         intro x615 x620 x621 h A616 n617 c618 h619 A622 n623 c624 h625
         unfold tree_Text_j6 at h
         refine g_seq (c := q53c53) rfl ?_
         refine g_region (c := q53c60) rfl rfl ?_
         refine wl_v 0 rfl (v_move rfl) gn rfl ?_
         obtain ⟨r629, hv630, h⟩ := h
         refine wl_s 1 rfl (s_call [.pointer (some ⟨gb33, 0, none⟩), .string x587] rfl Try.func71 rfl rfl rfl fun w626 hL627 => ?_) gn
         have hp628 : List.Perm ([.own (.slice A622 n623 c624) 5 1 n623 (x621.flatMap (eI .u8)), .box gb33 123 [selfP gb33 x620, .slice A622 n623 c624], .own (.slice A616 n617 c618) 3 1 n617 (x615.flatMap (eI .i64)), .box gb30 32 [.slice A11 n12 c13, .slice A15 n16 c17, .slice A20 n21 c22, .bool r9.ok], .own (.slice A15 n16 c17) 3 1 n16 (r9.parent.flatMap (eI .i64)), .own (.slice A20 n21 c22) 3 1 n21 (r9.end_.flatMap (eI .i64))] : List Ent) (([.box gb33 123 [selfP gb33 x620, .slice A622 n623 c624], .own (.slice A622 n623 c624) 5 1 n623 (x621.flatMap (eI .u8))] : List Ent) ++ ([.own (.slice A616 n617 c618) 3 1 n617 (x615.flatMap (eI .i64)), .box gb30 32 [.slice A11 n12 c13, .slice A15 n16 c17, .slice A20 n21 c22, .bool r9.ok], .own (.slice A15 n16 c17) 3 1 n16 (r9.parent.flatMap (eI .i64)), .own (.slice A20 n21 c22) 3 1 n21 (r9.end_.flatMap (eI .i64))] : List Ent)) := perm_of_idx [1, 0] [2, 3, 4, 5] rfl rfl (by kernel_rfl)
         refine Calls.mono (strings_Builder_WriteString_calls w626 (Fl ([] : List Snap)) (⟨x620, x621⟩ : strings_Builder) x587 gb33 w.heap.size A622 n623 c624 hL627.env.size h625 (hL627.hFl (Sl := ([] : List Snap)) hp628 (sels [] rfl)) (hL627.into hp628 (Fl ([] : List Snap))) r629 hv630) ?_
         rintro _ w636 ⟨A631, n632, c633, rfl, hM637, h634⟩
         have hL638 := hL627.call hp628 hM637
         refine ⟨_, _, _, rfl, hL638, ?_⟩
         refine w_end 2 rfl ?_
         refine g_block (c := q53c61) rfl ?_
         refine g_loop (c := q53c62) rfl ?_
         have key7 : ∀ s, Rounds (fun (s : (List Int) × Bool × (List Int)) o => tree_Text_b7 r9 x267 s.1 s.2.1 s.2.2 o) s o1 → (fun (s : (List Int) × Bool × (List Int)) => ∀ (A663 : Option Addr) (n664 : Nat) (c665 : Nat) (h666 : Ow w.heap.size A663 n664 c665 s.1) (A669 : Option Addr) (n670 : Nat) (c671 : Nat) (h672 : Ow w.heap.size A669 n670 c671 s.2.2), G (tree_Text_C w F r) [.code q53c63, .inLoop q53c63, .inBlock 2, .inBlock 1, .code q53c28, .inLoop q53c20, .inBlock 0, .code q53c16] [(3, .pointer (some ⟨gb30, 0, none⟩)), (4, .pointer (some ⟨gb33, 0, none⟩)), (5, .slice A663 n664 c665), (6, .int .i64 x267), (14, .slice A2 n3 c4), (15, .int .i64 (x1.length : Int)), (16, .int .i64 x267)] [.own (.slice A669 n670 c671) 5 1 n670 (s.2.2.flatMap (eI .u8)), .box gb33 123 [selfP gb33 s.2.1, .slice A669 n670 c671], .own (.slice A663 n664 c665) 3 1 n664 (s.1.flatMap (eI .i64)), .box gb30 32 [.slice A11 n12 c13, .slice A15 n16 c17, .slice A20 n21 c22, .bool r9.ok], .own (.slice A15 n16 c17) 3 1 n16 (r9.parent.flatMap (eI .i64)), .own (.slice A20 n21 c22) 3 1 n21 (r9.end_.flatMap (eI .i64))] [sv29, Sm w.heap.size F w [], St w []]) s := by
          intro s hs
          refine Rounds.ind (mot := (fun (s : (List Int) × Bool × (List Int)) => ∀ (A663 : Option Addr) (n664 : Nat) (c665 : Nat) (h666 : Ow w.heap.size A663 n664 c665 s.1) (A669 : Option Addr) (n670 : Nat) (c671 : Nat) (h672 : Ow w.heap.size A669 n670 c671 s.2.2), G (tree_Text_C w F r) [.code q53c63, .inLoop q53c63, .inBlock 2, .inBlock 1, .code q53c28, .inLoop q53c20, .inBlock 0, .code q53c16] [(3, .pointer (some ⟨gb30, 0, none⟩)), (4, .pointer (some ⟨gb33, 0, none⟩)), (5, .slice A663 n664 c665), (6, .int .i64 x267), (14, .slice A2 n3 c4), (15, .int .i64 (x1.length : Int)), (16, .int .i64 x267)] [.own (.slice A669 n670 c671) 5 1 n670 (s.2.2.flatMap (eI .u8)), .box gb33 123 [selfP gb33 s.2.1, .slice A669 n670 c671], .own (.slice A663 n664 c665) 3 1 n664 (s.1.flatMap (eI .i64)), .box gb30 32 [.slice A11 n12 c13, .slice A15 n16 c17, .slice A20 n21 c22, .bool r9.ok], .own (.slice A15 n16 c17) 3 1 n16 (r9.parent.flatMap (eI .i64)), .own (.slice A20 n21 c22) 3 1 n21 (r9.end_.flatMap (eI .i64))] [sv29, Sm w.heap.size F w [], St w []])) ?_ hs
          clear hs s
          intro s o2 h hO2
          obtain ⟨x662, x667, x668⟩ := s
          show ∀ (A663 : Option Addr) (n664 : Nat) (c665 : Nat) (h666 : Ow w.heap.size A663 n664 c665 x662) (A669 : Option Addr) (n670 : Nat) (c671 : Nat) (h672 : Ow w.heap.size A669 n670 c671 x668), G (tree_Text_C w F r) [.code q53c63, .inLoop q53c63, .inBlock 2, .inBlock 1, .code q53c28, .inLoop q53c20, .inBlock 0, .code q53c16] [(3, .pointer (some ⟨gb30, 0, none⟩)), (4, .pointer (some ⟨gb33, 0, none⟩)), (5, .slice A663 n664 c665), (6, .int .i64 x267), (14, .slice A2 n3 c4), (15, .int .i64 (x1.length : Int)), (16, .int .i64 x267)] [.own (.slice A669 n670 c671) 5 1 n670 (x668.flatMap (eI .u8)), .box gb33 123 [selfP gb33 x667, .slice A669 n670 c671], .own (.slice A663 n664 c665) 3 1 n664 (x662.flatMap (eI .i64)), .box gb30 32 [.slice A11 n12 c13, .slice A15 n16 c17, .slice A20 n21 c22, .bool r9.ok], .own (.slice A15 n16 c17) 3 1 n16 (r9.parent.flatMap (eI .i64)), .own (.slice A20 n21 c22) 3 1 n21 (r9.end_.flatMap (eI .i64))] [sv29, Sm w.heap.size F w [], St w []]
          intro A663 n664 c665 h666 A669 n670 c671 h672
          have h : tree_Text_b7 r9 x267 x662 x667 x668 o2 := h
          unfold tree_Text_b7 at h
          refine g_seq (c := q53c63) rfl ?_
          refine g_seq (c := q53c64) rfl ?_
          by_cases hp695 : (x662.length : Int) > 0
          ·have h := if_pos' hp695 h
           obtain ⟨hb696, h⟩ := h
           obtain ⟨hb697, h⟩ := h
           have hns : Region.noSelect (Code.ops q53c66) = true := by kernel_rfl
           refine g_drawF (c := q53c66) [.own (.slice A669 n670 c671) 5 1 n670 (x668.flatMap (eI .u8)), .box gb33 123 [selfP gb33 x667, .slice A669 n670 c671], .own (.slice A663 n664 c665) 3 1 n664 (x662.flatMap (eI .i64)), .box gb30 32 [.slice A11 n12 c13, .slice A15 n16 c17, .slice A20 n21 c22, .bool r9.ok], .own (.slice A15 n16 c17) 3 1 n16 (r9.parent.flatMap (eI .i64)), .own (.slice A20 n21 c22) 3 1 n21 (r9.end_.flatMap (eI .i64))] [sv29, Sm w.heap.size F w [], St w []] [] 18 rfl rfl mix rfl (.cons_cons _ (.cons_cons _ (.cons_cons _ (.cons_cons _ (.cons_cons _ (.cons_cons _ (.slnil))))))) (sels [0, 1, 2] rfl) ?_
           refine wfv 0 rfl (v_move rfl) gn hns rfl ?_
           refine wfv 1 rfl (v_lenQ un_23 rfl h666.hq) gn hns rfl ?_
           refine wfv 2 rfl (v_bin rfl rfl rfl) gn hns rfl ?_
           refine wfv 3 rfl (v_move rfl) gn hns rfl ?_
           refine wf_bool 56 rfl ((decide_eq_true hp695)) ?_
           refine wfv 4 rfl (v_fldB fo_32_2 rfl) (gy 56 rfl rfl) hns rfl ?_
           refine wfv 5 rfl (v_ldB1 3 ld_23 rfl rfl rfl) (gy 56 rfl rfl) hns rfl ?_
           refine wfv 6 rfl (v_move rfl) (gy 56 rfl rfl) hns rfl ?_
           refine wfv 7 rfl (v_move rfl) (gy 56 rfl rfl) hns rfl ?_
           refine wfv 8 rfl (v_lenQ un_23 rfl h666.hq) (gy 56 rfl rfl) hns rfl ?_
           refine wfv 9 rfl (v_bin rfl rfl rfl) (gy 56 rfl rfl) hns rfl ?_
           refine wfv 10 rfl (v_idxO slE_23 rfl rfl h666 hb696) (gy 56 rfl rfl) hns rfl ?_
           refine wfv 11 rfl (v_ldO1 (.int .i64 (ix x662 (w64 ((x662.length : Int) - 1)))) 2 ld_3 rfl rfl (fm_get0 (hlI .i64) hb696 rfl)) (gy 56 rfl rfl) hns rfl ?_
           refine wfv 12 rfl (v_idxO slE_23 rfl rfl (Ow.weak hL7.env.size h23) hb697) (gy 56 rfl rfl) hns rfl ?_
           refine wfv 13 rfl (v_ldO1 (.int .i64 (ix r9.end_ (ix x662 (w64 ((x662.length : Int) - 1))))) 5 ld_3 rfl rfl (fm_get0 (hlI .i64) hb697 rfl)) (gy 56 rfl rfl) hns rfl ?_
           refine wfv 14 rfl (v_move rfl) (gy 56 rfl rfl) hns rfl ?_
           refine wfv 15 rfl (v_bin rfl rfl rfl) (gy 56 rfl rfl) hns rfl ?_
           refine wfv 16 rfl (v_bin rfl rfl rfl) (gy 56 rfl rfl) hns rfl ?_
           refine wfv 17 rfl (v_pick (b := true) rfl rfl) gn hns rfl ?_
           refine wf_end (by kernel_rfl) ?_
           by_cases hp698 : ix r9.end_ (ix x662 (w64 ((x662.length : Int) - 1))) = w64 (x267 + 1)
           ·have h := if_pos' hp698 h
            refine g_true (c := q53c67) rfl _ rfl ((eqi hp698)) ?_
            refine g_skip (c := q53c68) rfl ?_
            refine g_block (c := q53c65) rfl ?_
            refine g_seq (c := q53c70) rfl ?_
            refine g_region (c := q53c71) rfl rfl ?_
            obtain ⟨r702, hv703, h⟩ := h
            refine wl_s 0 rfl (s_call [.pointer (some ⟨gb33, 0, none⟩), .int .u8 41] rfl Try.func70 rfl rfl rfl fun w699 hL700 => ?_) gn
            have hp701 : List.Perm ([.own (.slice A669 n670 c671) 5 1 n670 (x668.flatMap (eI .u8)), .box gb33 123 [selfP gb33 x667, .slice A669 n670 c671], .own (.slice A663 n664 c665) 3 1 n664 (x662.flatMap (eI .i64)), .box gb30 32 [.slice A11 n12 c13, .slice A15 n16 c17, .slice A20 n21 c22, .bool r9.ok], .own (.slice A15 n16 c17) 3 1 n16 (r9.parent.flatMap (eI .i64)), .own (.slice A20 n21 c22) 3 1 n21 (r9.end_.flatMap (eI .i64))] : List Ent) (([.box gb33 123 [selfP gb33 x667, .slice A669 n670 c671], .own (.slice A669 n670 c671) 5 1 n670 (x668.flatMap (eI .u8))] : List Ent) ++ ([.own (.slice A663 n664 c665) 3 1 n664 (x662.flatMap (eI .i64)), .box gb30 32 [.slice A11 n12 c13, .slice A15 n16 c17, .slice A20 n21 c22, .bool r9.ok], .own (.slice A15 n16 c17) 3 1 n16 (r9.parent.flatMap (eI .i64)), .own (.slice A20 n21 c22) 3 1 n21 (r9.end_.flatMap (eI .i64))] : List Ent)) := perm_of_idx [1, 0] [2, 3, 4, 5] rfl rfl (by kernel_rfl)
            refine Calls.mono (strings_Builder_WriteByte_calls w699 (Fl ([] : List Snap)) (⟨x667, x668⟩ : strings_Builder) 41 gb33 w.heap.size A669 n670 c671 hL700.env.size h672 (hL700.hFl (Sl := ([] : List Snap)) hp701 (sels [] rfl)) (hL700.into hp701 (Fl ([] : List Snap))) r702 hv703) ?_
            rintro _ w709 ⟨A704, n705, c706, rfl, hM710, h707⟩
            have hL711 := hL700.call hp701 hM710
            refine ⟨_, _, _, rfl, hL711, ?_⟩
            refine w_end 1 rfl ?_
            refine g_region (c := q53c72) rfl rfl ?_
            refine wl_v 0 rfl (v_move rfl) gn rfl ?_
            refine wl_v 1 rfl (v_move rfl) gn rfl ?_
            refine wl_v 2 rfl (v_lenQ un_23 rfl h666.hq) gn rfl ?_
            refine wl_v 3 rfl (v_bin rfl rfl rfl) gn rfl ?_
            obtain ⟨hb712, h⟩ := h
            obtain ⟨x714, hv715, h⟩ := h
            have hle713 : (w64 ((x662.length : Int) - 1) : Int).toNat ≤ n664 := by have q := hb712; have q1 := h666.hq; omega
            have h716 : Ow w.heap.size A663 (w64 ((x662.length : Int) - 1) : Int).toNat c665 x714 := Ow.w (Ow.cut h666 hle713) (by rw [hv715])
            refine wl_v 4 rfl (v_cutHi (i := w64 ((x662.length : Int) - 1)) slE_23 rfl rfl (by have q := hb712; have q1 := h666.hq; have q2 := h666.hn; omega) h666.hn rfl) gn rfl ?_
            refine wl_v 5 rfl (v_assign rfl) gn rfl ?_
            refine w_end 6 rfl ?_
            refine g_inBlock ?_
            refine g_inLoop ?_
            have h717 : Ow w.heap.size A663 ((w64 ((x662.length : Int) - 1) : Int).toNat) c665 x714 := (Ow.w (Ow.cut h666 hle713) (by rw [hv715]))
            refine g_short (j := 2) (m := ((w64 ((x662.length : Int) - 1) : Int).toNat)) (cells' := x714.flatMap (eI .i64)) rfl hle713 (by rw [fm_take (hlI .i64), hv715]) ?_
            refine g_front 5 rfl ?_
            refine g_front 5 rfl ?_
            refine g_front 5 rfl ?_
            refine g_front 5 rfl ?_
            refine g_front 4 rfl ?_
            refine g_front 5 rfl ?_
            have ih := Out.inl hO2 h
            exact g_go [0, 1, 2] (ih A663 ((w64 ((x662.length : Int) - 1) : Int).toNat) c665 h717 A704 n705 c706 h707) ⟨rfl, rfl, rfl, rfl, rfl, rfl, rfl, trivial⟩ (.cons_cons _ (.cons_cons _ (.cons_cons _ (.cons_cons _ (.cons_cons _ (.cons_cons _ (.slnil))))))) rfl
           ·have h := if_neg' hp698 h
            refine g_false (c := q53c67) rfl _ rfl ((nei hp698)) ?_
            refine g_exit (c := q53c69) [.inBlock 1, .code q53c28, .inLoop q53c20, .inBlock 0, .code q53c16] rfl rfl ?_
            refine g_inBlock ?_
            refine g_region (c := q53c28) rfl rfl ?_
            refine wl_v 0 rfl (v_bin rfl rfl rfl) gn rfl ?_
            refine wl_v 1 rfl (v_move rfl) gn rfl ?_
            refine w_end 2 rfl ?_
            refine g_inLoop ?_
            refine g_front 5 rfl ?_
            refine g_front 5 rfl ?_
            refine g_front 5 rfl ?_
            refine g_front 4 rfl ?_
            refine g_front 4 rfl ?_
            refine g_front 5 rfl ?_
            have h := Out.inr hO2 h
            have ih := Out.inl hO1 h
            exact g_go [0, 1, 2] (ih A663 n664 c665 h666 A669 n670 c671 h672) ⟨rfl, rfl, rfl, rfl, rfl, rfl, trivial⟩ (.cons_cons _ (.cons_cons _ (.cons_cons _ (.cons_cons _ (.cons_cons _ (.cons_cons _ (.slnil))))))) rfl
          ·have h := if_neg' hp695 h
           have hns : Region.noSelect (Code.ops q53c66) = true := by kernel_rfl
           refine g_drawF (c := q53c66) [.own (.slice A669 n670 c671) 5 1 n670 (x668.flatMap (eI .u8)), .box gb33 123 [selfP gb33 x667, .slice A669 n670 c671], .own (.slice A663 n664 c665) 3 1 n664 (x662.flatMap (eI .i64)), .box gb30 32 [.slice A11 n12 c13, .slice A15 n16 c17, .slice A20 n21 c22, .bool r9.ok], .own (.slice A15 n16 c17) 3 1 n16 (r9.parent.flatMap (eI .i64)), .own (.slice A20 n21 c22) 3 1 n21 (r9.end_.flatMap (eI .i64))] [sv29, Sm w.heap.size F w [], St w []] [] 18 rfl rfl mix rfl (.cons_cons _ (.cons_cons _ (.cons_cons _ (.cons_cons _ (.cons_cons _ (.cons_cons _ (.slnil))))))) (sels [0, 1, 2] rfl) ?_
           refine wfv 0 rfl (v_move rfl) gn hns rfl ?_
           refine wfv 1 rfl (v_lenQ un_23 rfl h666.hq) gn hns rfl ?_
           refine wfv 2 rfl (v_bin rfl rfl rfl) gn hns rfl ?_
           refine wfv 3 rfl (v_move rfl) gn hns rfl ?_
           refine wf_bool 56 rfl ((decide_eq_false hp695)) ?_
           refine wfp 4 rfl (ps 56 rfl rfl rfl) hns rfl ?_
           refine wfp 5 rfl (ps 56 rfl rfl rfl) hns rfl ?_
           refine wfp 6 rfl (ps 56 rfl rfl rfl) hns rfl ?_
           refine wfp 7 rfl (ps 56 rfl rfl rfl) hns rfl ?_
           refine wfp 8 rfl (ps 56 rfl rfl rfl) hns rfl ?_
           refine wfp 9 rfl (ps 56 rfl rfl rfl) hns rfl ?_
           refine wfp 10 rfl (ps 56 rfl rfl rfl) hns rfl ?_
           refine wfp 11 rfl (ps 56 rfl rfl rfl) hns rfl ?_
           refine wfp 12 rfl (ps 56 rfl rfl rfl) hns rfl ?_
           refine wfp 13 rfl (ps 56 rfl rfl rfl) hns rfl ?_
           refine wfp 14 rfl (ps 56 rfl rfl rfl) hns rfl ?_
           refine wfp 15 rfl (ps 56 rfl rfl rfl) hns rfl ?_
           refine wfp 16 rfl (ps 56 rfl rfl rfl) hns rfl ?_
           refine wfv 17 rfl (v_pick (b := false) rfl rfl) gn hns rfl ?_
           refine wf_end (by kernel_rfl) ?_
           refine g_false (c := q53c67) rfl _ rfl (rfl) ?_
           refine g_exit (c := q53c69) [.inBlock 1, .code q53c28, .inLoop q53c20, .inBlock 0, .code q53c16] rfl rfl ?_
           refine g_inBlock ?_
           refine g_region (c := q53c28) rfl rfl ?_
           refine wl_v 0 rfl (v_bin rfl rfl rfl) gn rfl ?_
           refine wl_v 1 rfl (v_move rfl) gn rfl ?_
           refine w_end 2 rfl ?_
           refine g_inLoop ?_
           refine g_front 5 rfl ?_
           refine g_front 5 rfl ?_
           refine g_front 5 rfl ?_
           refine g_front 4 rfl ?_
           refine g_front 4 rfl ?_
           refine g_front 5 rfl ?_
           have h := Out.inr hO2 h
           have ih := Out.inl hO1 h
           exact g_go [0, 1, 2] (ih A663 n664 c665 h666 A669 n670 c671 h672) ⟨rfl, rfl, rfl, rfl, rfl, rfl, trivial⟩ (.cons_cons _ (.cons_cons _ (.cons_cons _ (.cons_cons _ (.cons_cons _ (.cons_cons _ (.slnil))))))) rfl
         refine g_front 5 rfl ?_
         refine g_front 5 rfl ?_
         refine g_front 5 rfl ?_
         refine g_front 5 rfl ?_
         refine g_front 4 rfl ?_
         refine g_front 5 rfl ?_
         exact g_go [0, 1, 2] (key7 _ h A616 n617 c618 h619 A631 n632 c633 h634) ⟨rfl, rfl, rfl, rfl, rfl, rfl, rfl, trivial⟩ (.cons_cons _ (.cons_cons _ (.cons_cons _ (.cons_cons _ (.cons_cons _ (.cons_cons _ (.slnil))))))) rfl
        by_cases hp591 : x590 = true
        ·have h := if_pos' hp591 h
         refine g_true (c := q53c55) rfl _ rfl (hp591) ?_
         refine g_seq (c := q53c56) rfl ?_
         refine g_region (c := q53c58) rfl rfl ?_
         obtain ⟨r721, hv722, h⟩ := h
         refine wl_s 0 rfl (s_call [.pointer (some ⟨gb33, 0, none⟩), .int .u8 40] rfl Try.func70 rfl rfl rfl fun w718 hL719 => ?_) gn
         have hp720 : List.Perm ([.own (.slice A573 n574 c575) 5 1 n574 (x572.flatMap (eI .u8)), .box gb33 123 [selfP gb33 x571, .slice A573 n574 c575], .own (.slice A263 n264 c265) 3 1 n264 (x262.flatMap (eI .i64)), .box gb30 32 [.slice A11 n12 c13, .slice A15 n16 c17, .slice A20 n21 c22, .bool r9.ok], .own (.slice A15 n16 c17) 3 1 n16 (r9.parent.flatMap (eI .i64)), .own (.slice A20 n21 c22) 3 1 n21 (r9.end_.flatMap (eI .i64))] : List Ent) (([.box gb33 123 [selfP gb33 x571, .slice A573 n574 c575], .own (.slice A573 n574 c575) 5 1 n574 (x572.flatMap (eI .u8))] : List Ent) ++ ([.own (.slice A263 n264 c265) 3 1 n264 (x262.flatMap (eI .i64)), .box gb30 32 [.slice A11 n12 c13, .slice A15 n16 c17, .slice A20 n21 c22, .bool r9.ok], .own (.slice A15 n16 c17) 3 1 n16 (r9.parent.flatMap (eI .i64)), .own (.slice A20 n21 c22) 3 1 n21 (r9.end_.flatMap (eI .i64))] : List Ent)) := perm_of_idx [1, 0] [2, 3, 4, 5] rfl rfl (by kernel_rfl)
         refine Calls.mono (strings_Builder_WriteByte_calls w718 (Fl ([] : List Snap)) (⟨x571, x572⟩ : strings_Builder) 40 gb33 w.heap.size A573 n574 c575 hL719.env.size h576 (hL719.hFl (Sl := ([] : List Snap)) hp720 (sels [] rfl)) (hL719.into hp720 (Fl ([] : List Snap))) r721 hv722) ?_
         rintro _ w728 ⟨A723, n724, c725, rfl, hM729, h726⟩
         have hL730 := hL719.call hp720 hM729
         refine ⟨_, _, _, rfl, hL730, ?_⟩
         refine w_end 1 rfl ?_
         refine g_region (c := q53c59) rfl rfl ?_
         refine wl_v 0 rfl (v_move rfl) gn rfl ?_
         refine wl_v 1 rfl (v_move rfl) gn rfl ?_
         refine wl_s 2 rfl (s_litO (xs := ([x267] : List Int)) [.int .i64 x267] bs_23_1 rfl (by kernel_rfl) rfl rfl rfl rfl fun gb732 h733 => ?_) gn
         obtain ⟨x737, hv738, h⟩ := h
         obtain ⟨hb739, h⟩ := h
         refine wl_s 3 rfl (s_app (zs := x737) (cells' := x737.flatMap (eI .i64)) 3 ap_23 rfl rfl rfl h266 (Nat.le_refl _) (Src.ownF (hl := (hlI .i64)) (h1 := (hone_int .i64)) 0 rfl h733) (by rw [hv738, List.flatMap_append] <;> rfl) (app_len hv738 h733.hq) hb739 rfl rfl fun A734 c735 h736 => ?_) gn
         refine wl_v 4 rfl (v_assign rfl) gn rfl ?_
         refine w_end 5 rfl ?_
         refine g_front 6 rfl ?_
         refine g_front 6 rfl ?_
         refine g_front 6 rfl ?_
         refine g_front 6 rfl ?_
         refine g_front 5 rfl ?_
         refine g_front 6 rfl ?_
         exact g_go [0, 1, 2] (j6 x737 r721.addr r721.buf h A734 (n264 + 1) c735 h736 A723 n724 c725 h726) ⟨rfl, rfl, rfl, rfl, rfl, rfl, rfl, rfl, trivial⟩ (.cons_cons _ (.cons_cons _ (.cons_cons _ (.cons_cons _ (.cons_cons _ (.cons_cons _ (.cons _ (.slnil)))))))) rfl
        ·have h := if_neg' hp591 h
         refine g_false (c := q53c55) rfl _ rfl ((bf hp591)) ?_
         refine g_skip (c := q53c57) rfl ?_
         exact g_go [0, 1, 2] (j6 x262 x571 x572 h A263 n264 c265 h266 A573 n574 c575 h576) ⟨rfl, rfl, rfl, rfl, rfl, rfl, rfl, rfl, trivial⟩ (.cons_cons _ (.cons_cons _ (.cons_cons _ (.cons_cons _ (.cons_cons _ (.cons_cons _ (.slnil))))))) rfl
       refine g_region (c := q53c54) rfl rfl ?_
       refine wl_v 0 rfl (v_fldB fo_39_1 rfl) gn rfl ?_
       refine wl_v 1 rfl (v_ldB1 2 ld_4 rfl rfl rfl) gn rfl ?_
       refine wl_v 2 rfl (v_move rfl) gn rfl ?_
       by_cases hp740 : ((ix x1 x267).named) = true
       ·have h := if_pos' hp740 h
        refine w_bool 41 rfl (hp740) ?_
        refine wl_pass 3 rfl (ps 41 rfl rfl rfl) ?_
        refine wl_pass 4 rfl (ps 41 rfl rfl rfl) ?_
        refine wl_pass 5 rfl (ps 41 rfl rfl rfl) ?_
        refine wl_v 6 rfl (v_pick (b := true) rfl rfl) gn rfl ?_
        refine w_end 7 rfl ?_
        exact g_go [0, 1, 2] (j5 true h) ⟨rfl, rfl, rfl, rfl, rfl, rfl, rfl, rfl, rfl, trivial⟩ (.cons_cons _ (.cons_cons _ (.cons _ (.cons_cons _ (.cons_cons _ (.cons_cons _ (.cons_cons _ (.slnil)))))))) rfl
       ·have h := if_neg' hp740 h
        refine w_bool 41 rfl ((bf hp740)) ?_
        refine wl_v 3 rfl (v_fldB fo_39_5 rfl) (gy 41 rfl rfl) rfl ?_
        refine wl_v 4 rfl (v_ldB1 2 ld_3 rfl rfl rfl) (gy 41 rfl rfl) rfl ?_
        refine wl_v 5 rfl (v_bin rfl rfl rfl) (gy 41 rfl rfl) rfl ?_
        refine wl_v 6 rfl (v_pick (b := false) rfl rfl) gn rfl ?_
        refine w_end 7 rfl ?_
        exact g_go [0, 1, 2] (j5 (decide ((ix x1 x267).kids > 0)) h) ⟨rfl, rfl, rfl, rfl, rfl, rfl, rfl, rfl, rfl, trivial⟩ (.cons_cons _ (.cons_cons _ (.cons _ (.cons_cons _ (.cons_cons _ (.cons_cons _ (.cons_cons _ (.slnil)))))))) rfl
      by_cases hp577 : ((ix x1 x267).named) = true
      ·have h := if_pos' hp577 h
       refine g_false (c := q53c49) rfl _ rfl ((nf hp577)) ?_
       refine g_skip (c := q53c51) rfl ?_
       exact g_go [0, 1, 2] (j4 ((ix x1 x267).name) h) ⟨rfl, rfl, rfl, rfl, rfl, rfl, rfl, rfl, rfl, trivial⟩ (.cons_cons _ (.cons_cons _ (.cons_cons _ (.cons_cons _ (.cons_cons _ (.cons_cons _ (.cons_cons _ (.slnil)))))))) rfl
      ·have h := if_neg' hp577 h
       refine g_true (c := q53c49) rfl _ rfl ((nt (bf hp577))) ?_
       refine g_region (c := q53c50) rfl rfl ?_
       refine wl_v 0 rfl (v_fldB fo_39_0 rfl) gn rfl ?_
       refine wl_v 1 rfl (v_ldB1 2 ld_9 rfl rfl rfl) gn rfl ?_
       obtain ⟨r744, hv745, h⟩ := h
       refine wl_s 2 rfl (s_call [.string ((ix x1 x267).name)] rfl Try.func72 rfl rfl rfl fun w741 hL742 => ?_) gn
       have hp743 : List.Perm ([.own (.slice A573 n574 c575) 5 1 n574 (x572.flatMap (eI .u8)), .box gb33 123 [selfP gb33 x571, .slice A573 n574 c575], .box gb532 39 [.string ((ix x1 x267).name), .bool ((ix x1 x267).named), .string ((ix x1 x267).field), .int .i64 ((ix x1 x267).from_), .int .i64 ((ix x1 x267).to), .int .i64 ((ix x1 x267).kids), .int .i64 ((ix x1 x267).leaf)], .own (.slice A263 n264 c265) 3 1 n264 (x262.flatMap (eI .i64)), .box gb30 32 [.slice A11 n12 c13, .slice A15 n16 c17, .slice A20 n21 c22, .bool r9.ok], .own (.slice A15 n16 c17) 3 1 n16 (r9.parent.flatMap (eI .i64)), .own (.slice A20 n21 c22) 3 1 n21 (r9.end_.flatMap (eI .i64))] : List Ent) (([] : List Ent) ++ ([.own (.slice A573 n574 c575) 5 1 n574 (x572.flatMap (eI .u8)), .box gb33 123 [selfP gb33 x571, .slice A573 n574 c575], .box gb532 39 [.string ((ix x1 x267).name), .bool ((ix x1 x267).named), .string ((ix x1 x267).field), .int .i64 ((ix x1 x267).from_), .int .i64 ((ix x1 x267).to), .int .i64 ((ix x1 x267).kids), .int .i64 ((ix x1 x267).leaf)], .own (.slice A263 n264 c265) 3 1 n264 (x262.flatMap (eI .i64)), .box gb30 32 [.slice A11 n12 c13, .slice A15 n16 c17, .slice A20 n21 c22, .bool r9.ok], .own (.slice A15 n16 c17) 3 1 n16 (r9.parent.flatMap (eI .i64)), .own (.slice A20 n21 c22) 3 1 n21 (r9.end_.flatMap (eI .i64))] : List Ent)) := perm_of_idx [] [0, 1, 2, 3, 4, 5, 6] rfl rfl (by kernel_rfl)
       refine Calls.mono (tree_quoted_calls w741 (Fl ([] : List Snap)) ((ix x1 x267).name) (hL742.hFl (Sl := ([] : List Snap)) hp743 (sels [] rfl)) (hL742.into hp743 (Fl ([] : List Snap))) r744 hv745) ?_
       rintro _ w746 ⟨rfl, hM747⟩
       have hL748 := hL742.call hp743 hM747
       refine ⟨_, _, _, rfl, hL748, ?_⟩
       refine wl_v 3 rfl (v_assign rfl) gn rfl ?_
       refine w_end 4 rfl ?_
       exact g_go [0, 1, 2] (j4 r744 h) ⟨rfl, rfl, rfl, rfl, rfl, rfl, rfl, rfl, rfl, trivial⟩ (.cons_cons _ (.cons_cons _ (.cons_cons _ (.cons_cons _ (.cons_cons _ (.cons_cons _ (.cons_cons _ (.slnil)))))))) rfl
     by_cases hp555 : (ix x1 x267).field = (⟨#[]⟩ : ByteArray)
     ·have h := if_pos' hp555 h
      refine g_false (c := q53c41) rfl _ rfl ((nf (seq_t hp555))) ?_
      refine g_skip (c := q53c43) rfl ?_
      exact g_go [0, 1, 2] (j3 x549 x550 h A551 n552 c553 h554) ⟨rfl, rfl, rfl, rfl, rfl, rfl, rfl, rfl, trivial⟩ (.cons_cons _ (.cons_cons _ (.cons_cons _ (.cons_cons _ (.cons_cons _ (.cons_cons _ (.cons_cons _ (.slnil)))))))) rfl
     ·have h := if_neg' hp555 h
      refine g_true (c := q53c41) rfl _ rfl ((nt (seq_f hp555))) ?_
      refine g_region (c := q53c42) rfl rfl ?_
      refine wl_v 0 rfl (v_fldB fo_39_2 rfl) gn rfl ?_
      refine wl_v 1 rfl (v_ldB1 2 ld_9 rfl rfl rfl) gn rfl ?_
      obtain ⟨hb749, h⟩ := h
      refine wl_v 2 rfl (v_catS rfl rfl hb749) gn rfl ?_
      obtain ⟨r753, hv754, h⟩ := h
      refine wl_s 3 rfl (s_call [.pointer (some ⟨gb33, 0, none⟩), .string (((ix x1 x267).field) ++ (⟨#[58, 32]⟩ : ByteArray))] rfl Try.func71 rfl rfl rfl fun w750 hL751 => ?_) gn
      have hp752 : List.Perm ([.own (.slice A551 n552 c553) 5 1 n552 (x550.flatMap (eI .u8)), .box gb33 123 [selfP gb33 x549, .slice A551 n552 c553], .box gb532 39 [.string ((ix x1 x267).name), .bool ((ix x1 x267).named), .string ((ix x1 x267).field), .int .i64 ((ix x1 x267).from_), .int .i64 ((ix x1 x267).to), .int .i64 ((ix x1 x267).kids), .int .i64 ((ix x1 x267).leaf)], .own (.slice A263 n264 c265) 3 1 n264 (x262.flatMap (eI .i64)), .box gb30 32 [.slice A11 n12 c13, .slice A15 n16 c17, .slice A20 n21 c22, .bool r9.ok], .own (.slice A15 n16 c17) 3 1 n16 (r9.parent.flatMap (eI .i64)), .own (.slice A20 n21 c22) 3 1 n21 (r9.end_.flatMap (eI .i64))] : List Ent) (([.box gb33 123 [selfP gb33 x549, .slice A551 n552 c553], .own (.slice A551 n552 c553) 5 1 n552 (x550.flatMap (eI .u8))] : List Ent) ++ ([.box gb532 39 [.string ((ix x1 x267).name), .bool ((ix x1 x267).named), .string ((ix x1 x267).field), .int .i64 ((ix x1 x267).from_), .int .i64 ((ix x1 x267).to), .int .i64 ((ix x1 x267).kids), .int .i64 ((ix x1 x267).leaf)], .own (.slice A263 n264 c265) 3 1 n264 (x262.flatMap (eI .i64)), .box gb30 32 [.slice A11 n12 c13, .slice A15 n16 c17, .slice A20 n21 c22, .bool r9.ok], .own (.slice A15 n16 c17) 3 1 n16 (r9.parent.flatMap (eI .i64)), .own (.slice A20 n21 c22) 3 1 n21 (r9.end_.flatMap (eI .i64))] : List Ent)) := perm_of_idx [1, 0] [2, 3, 4, 5, 6] rfl rfl (by kernel_rfl)
      refine Calls.mono (strings_Builder_WriteString_calls w750 (Fl ([] : List Snap)) (⟨x549, x550⟩ : strings_Builder) (((ix x1 x267).field) ++ (⟨#[58, 32]⟩ : ByteArray)) gb33 w.heap.size A551 n552 c553 hL751.env.size h554 (hL751.hFl (Sl := ([] : List Snap)) hp752 (sels [] rfl)) (hL751.into hp752 (Fl ([] : List Snap))) r753 hv754) ?_
      rintro _ w760 ⟨A755, n756, c757, rfl, hM761, h758⟩
      have hL762 := hL751.call hp752 hM761
      refine ⟨_, _, _, rfl, hL762, ?_⟩
      refine w_end 4 rfl ?_
      refine g_front 6 rfl ?_
      refine g_front 6 rfl ?_
      refine g_front 6 rfl ?_
      refine g_front 6 rfl ?_
      refine g_front 6 rfl ?_
      refine g_front 5 rfl ?_
      refine g_front 6 rfl ?_
      exact g_go [0, 1, 2] (j3 r753.2.addr r753.2.buf h A755 n756 c757 h758) ⟨rfl, rfl, rfl, rfl, rfl, rfl, rfl, rfl, trivial⟩ (.cons_cons _ (.cons_cons _ (.cons_cons _ (.cons_cons _ (.cons_cons _ (.cons_cons _ (.cons_cons _ (.slnil)))))))) rfl
    by_cases hp534 : x267 > 0
    ·have h := if_pos' hp534 h
     refine g_true (c := q53c35) rfl _ rfl ((decide_eq_true hp534)) ?_
     refine g_region (c := q53c36) rfl rfl ?_
     obtain ⟨r766, hv767, h⟩ := h
     refine wl_s 0 rfl (s_call [.pointer (some ⟨gb33, 0, none⟩), .int .u8 32] rfl Try.func70 rfl rfl rfl fun w763 hL764 => ?_) gn
     have hp765 : List.Perm ([.box gb532 39 [.string ((ix x1 x267).name), .bool ((ix x1 x267).named), .string ((ix x1 x267).field), .int .i64 ((ix x1 x267).from_), .int .i64 ((ix x1 x267).to), .int .i64 ((ix x1 x267).kids), .int .i64 ((ix x1 x267).leaf)], .own (.slice A263 n264 c265) 3 1 n264 (x262.flatMap (eI .i64)), .own (.slice A270 n271 c272) 5 1 n271 (x269.flatMap (eI .u8)), .box gb33 123 [selfP gb33 x268, .slice A270 n271 c272], .box gb30 32 [.slice A11 n12 c13, .slice A15 n16 c17, .slice A20 n21 c22, .bool r9.ok], .own (.slice A15 n16 c17) 3 1 n16 (r9.parent.flatMap (eI .i64)), .own (.slice A20 n21 c22) 3 1 n21 (r9.end_.flatMap (eI .i64))] : List Ent) (([.box gb33 123 [selfP gb33 x268, .slice A270 n271 c272], .own (.slice A270 n271 c272) 5 1 n271 (x269.flatMap (eI .u8))] : List Ent) ++ ([.box gb532 39 [.string ((ix x1 x267).name), .bool ((ix x1 x267).named), .string ((ix x1 x267).field), .int .i64 ((ix x1 x267).from_), .int .i64 ((ix x1 x267).to), .int .i64 ((ix x1 x267).kids), .int .i64 ((ix x1 x267).leaf)], .own (.slice A263 n264 c265) 3 1 n264 (x262.flatMap (eI .i64)), .box gb30 32 [.slice A11 n12 c13, .slice A15 n16 c17, .slice A20 n21 c22, .bool r9.ok], .own (.slice A15 n16 c17) 3 1 n16 (r9.parent.flatMap (eI .i64)), .own (.slice A20 n21 c22) 3 1 n21 (r9.end_.flatMap (eI .i64))] : List Ent)) := perm_of_idx [3, 2] [0, 1, 4, 5, 6] rfl rfl (by kernel_rfl)
     refine Calls.mono (strings_Builder_WriteByte_calls w763 (Fl ([] : List Snap)) (⟨x268, x269⟩ : strings_Builder) 32 gb33 w.heap.size A270 n271 c272 hL764.env.size h273 (hL764.hFl (Sl := ([] : List Snap)) hp765 (sels [] rfl)) (hL764.into hp765 (Fl ([] : List Snap))) r766 hv767) ?_
     rintro _ w773 ⟨A768, n769, c770, rfl, hM774, h771⟩
     have hL775 := hL764.call hp765 hM774
     refine ⟨_, _, _, rfl, hL775, ?_⟩
     refine w_end 1 rfl ?_
     refine g_front 6 rfl ?_
     refine g_front 6 rfl ?_
     refine g_front 6 rfl ?_
     refine g_front 6 rfl ?_
     refine g_front 6 rfl ?_
     refine g_front 5 rfl ?_
     refine g_front 6 rfl ?_
     exact g_go [0, 1, 2] (j2 r766.addr r766.buf h A768 n769 c770 h771) ⟨rfl, rfl, rfl, rfl, rfl, rfl, rfl, rfl, trivial⟩ (.cons_cons _ (.cons_cons _ (.cons_cons _ (.cons_cons _ (.cons_cons _ (.cons_cons _ (.cons_cons _ (.slnil)))))))) rfl
    ·have h := if_neg' hp534 h
     refine g_false (c := q53c35) rfl _ rfl ((decide_eq_false hp534)) ?_
     refine g_skip (c := q53c37) rfl ?_
     refine g_front 6 rfl ?_
     refine g_front 6 rfl ?_
     refine g_front 6 rfl ?_
     refine g_front 4 rfl ?_
     refine g_front 4 rfl ?_
     refine g_front 6 rfl ?_
     refine g_front 6 rfl ?_
     exact g_go [0, 1, 2] (j2 x268 x269 h A270 n271 c272 h273) ⟨rfl, rfl, rfl, rfl, rfl, rfl, rfl, rfl, trivial⟩ (.cons_cons _ (.cons_cons _ (.cons_cons _ (.cons_cons _ (.cons_cons _ (.cons_cons _ (.cons_cons _ (.slnil)))))))) rfl
   ·have h := if_neg' hp529 h
    refine g_false (c := q53c23) rfl _ rfl ((decide_eq_false hp529)) ?_
    refine g_exit (c := q53c26) [.code q53c16] rfl rfl ?_
    refine g_seq (c := q53c16) rfl ?_
    refine g_region (c := q53c73) rfl rfl ?_
    obtain ⟨r779, hv780, h⟩ := h
    refine wl_s 0 rfl (s_call [.pointer (some ⟨gb33, 0, none⟩)] rfl Try.func73 rfl rfl rfl fun w776 hL777 => ?_) gn
    have hp778 : List.Perm ([.own (.slice A263 n264 c265) 3 1 n264 (x262.flatMap (eI .i64)), .own (.slice A270 n271 c272) 5 1 n271 (x269.flatMap (eI .u8)), .box gb33 123 [selfP gb33 x268, .slice A270 n271 c272], .box gb30 32 [.slice A11 n12 c13, .slice A15 n16 c17, .slice A20 n21 c22, .bool r9.ok], .own (.slice A15 n16 c17) 3 1 n16 (r9.parent.flatMap (eI .i64)), .own (.slice A20 n21 c22) 3 1 n21 (r9.end_.flatMap (eI .i64))] : List Ent) (([.box gb33 123 [selfP gb33 x268, .slice A270 n271 c272], .own (.slice A270 n271 c272) 5 1 n271 (x269.flatMap (eI .u8))] : List Ent) ++ ([.own (.slice A263 n264 c265) 3 1 n264 (x262.flatMap (eI .i64)), .box gb30 32 [.slice A11 n12 c13, .slice A15 n16 c17, .slice A20 n21 c22, .bool r9.ok], .own (.slice A15 n16 c17) 3 1 n16 (r9.parent.flatMap (eI .i64)), .own (.slice A20 n21 c22) 3 1 n21 (r9.end_.flatMap (eI .i64))] : List Ent)) := perm_of_idx [2, 1] [0, 3, 4, 5] rfl rfl (by kernel_rfl)
    refine Calls.mono (strings_Builder_String_calls w776 (Fl ([] : List Snap)) (⟨x268, x269⟩ : strings_Builder) gb33 w.heap.size A270 n271 c272 hL777.env.size h273 (hL777.hFl (Sl := ([] : List Snap)) hp778 (sels [] rfl)) (hL777.into hp778 (Fl ([] : List Snap))) r779 hv780) ?_
    rintro _ w781 ⟨rfl, hM782⟩
    have hL783 := hL777.call hp778 hM782
    refine ⟨_, _, _, rfl, hL783, ?_⟩
    refine wl_v 1 rfl (v_assign rfl) gn rfl ?_
    refine w_end 2 rfl ?_
    have h := Out.inr hO1 h
    refine g_retR (c := q53c74) [.string r779] rfl Try.func53 rfl (.tmp rfl (.nil)) fun wr hLr => ?_
    have hMr : B.Loc w wr [] [St w []] := hLr.pick0 (sels [2] rfl)
    show tree_Text_R w F  r (.returned (packV [.string r779])) wr
    rw [h]
    exact ⟨rfl, hMr⟩
  refine g_nil 5 1 ?_
  refine g_nil 3 1 ?_
  exact g_go [0, 1, 2] (key1 _ h none 0 0 (Ow.nil (z := w.heap.size)) none 0 0 (Ow.nil (z := w.heap.size))) ⟨rfl, rfl, rfl, rfl, rfl, rfl, trivial⟩ (.cons_cons _ (.cons_cons _ (.cons_cons _ (.cons_cons _ (.cons_cons _ (.cons_cons _ (.slnil))))))) rfl
 ·have h := if_neg' hp32 h
  refine g_true (c := q53c8) rfl _ rfl ((nt (bf hp32))) ?_
  refine g_seq (c := q53c9) rfl ?_
  refine g_region (c := q53c75) rfl rfl ?_
  refine wl_v 0 rfl (v_assign rfl) gn rfl ?_
  refine w_end 1 rfl ?_
  refine g_retR (c := q53c76) [.string (⟨#[]⟩ : ByteArray)] rfl Try.func53 rfl (.tmp rfl (.nil)) fun wr hLr => ?_
  have hMr : B.Loc w wr [] [St w []] := hLr.pick0 (sels [2] rfl)
  show tree_Text_R w F  r (.returned (packV [.string (⟨#[]⟩ : ByteArray)])) wr
  rw [h]
  exact ⟨rfl, hMr⟩
noncomputable abbrev q31c0 : Code := bodyOf Try.f31
noncomputable abbrev q31c1 : Code := Code.fst q31c0
noncomputable abbrev q31c2 : Code := Code.snd q31c0
noncomputable abbrev q31c3 : Code := Code.fst q31c2
noncomputable abbrev q31c4 : Code := Code.snd q31c2
noncomputable abbrev q31c5 : Code := Code.fst q31c4
noncomputable abbrev q31c6 : Code := Code.snd q31c4
noncomputable abbrev q31c7 : Code := Code.fst q31c6
noncomputable abbrev q31c8 : Code := Code.snd q31c6
noncomputable abbrev q31c9 : Code := Code.fst q31c8
noncomputable abbrev q31c10 : Code := Code.snd q31c8
noncomputable abbrev q31c11 : Code := Code.fst q31c10
noncomputable abbrev q31c12 : Code := Code.snd q31c10
noncomputable abbrev q31c13 : Code := Code.fst q31c12
noncomputable abbrev q31c14 : Code := Code.snd q31c12
abbrev trellislaw15_alive_R (w : World) (F : Nat → Prop) (r : Bool) : Ending → World → Prop := fun e w' => e = .returned (.bool r) ∧ B.Loc w w' [] [St w []]
noncomputable abbrev trellislaw15_alive_C (w : World) (F : Nat → Prop) (r : Bool) : Cx := ⟨Try.prog, 31, Try.f31, 87, trellislaw15_alive_R w F  r, w⟩
theorem trellislaw15_alive_calls (w : World) (F : Nat → Prop)  (hF : ∀ b, F b → b < w.heap.size ∧ ∀ o ∈ ([] : List (List Nat)), b ∉ o) (hL0 : B.Loc w w [] [Sm w.heap.size F w [], St w []]) (r : Bool) (h : trellislaw15_alive  r) : Calls Try.prog 31 #[] w (trellislaw15_alive_R w F  r) := by
 unfold trellislaw15_alive at h
 refine calls_of_Loc (vs := []) 87 Try.func31 rfl Try.ntmps31 rfl hL0 ?_
 show G (trellislaw15_alive_C w F r) _ _ _ _
 refine g_seq (c := q31c0) rfl ?_
 refine g_region (c := q31c1) rfl rfl ?_
 refine wl_v 0 rfl (v_assign rfl) gn rfl ?_
 refine w_end 1 rfl ?_
 refine g_seq (c := q31c2) rfl ?_
 refine g_region (c := q31c3) rfl rfl ?_
 refine wl_v 0 rfl (v_build #[.string (⟨#[]⟩ : ByteArray), .bool false] bd_100 rfl (by kernel_rfl)) gn rfl ?_
 refine wl_v 1 rfl (v_build #[.string (⟨#[97]⟩ : ByteArray), .bool false] bd_100 rfl (by kernel_rfl)) gn rfl ?_
 refine wl_s 2 rfl (s_litO (xs := ([(⟨(⟨#[]⟩ : ByteArray), false⟩ : api_TermDef), (⟨(⟨#[97]⟩ : ByteArray), false⟩ : api_TermDef)] : List api_TermDef)) [.string (⟨#[]⟩ : ByteArray), .bool false, .string (⟨#[97]⟩ : ByteArray), .bool false] bs_43_2 rfl (by kernel_rfl) rfl rfl rfl rfl fun gb2 h3 => ?_) gn
 refine wl_v 3 rfl (v_build #[.string (⟨#[115]⟩ : ByteArray), .int .i64 1] bd_74 rfl (by kernel_rfl)) gn rfl ?_
 refine wl_s 4 rfl (s_litO (xs := ([(⟨(⟨#[115]⟩ : ByteArray), 1⟩ : api_Sym)] : List api_Sym)) [.string (⟨#[115]⟩ : ByteArray), .int .i64 1] bs_44_1 rfl (by kernel_rfl) rfl rfl rfl rfl fun gb5 h6 => ?_) gn
 refine wl_v 5 rfl (v_build #[.int .i64 2, .string (⟨#[]⟩ : ByteArray), .string (⟨#[]⟩ : ByteArray)] bd_104 rfl (by kernel_rfl)) gn rfl ?_
 refine wl_s 6 rfl (s_litO (xs := ([(⟨2, (⟨#[]⟩ : ByteArray), (⟨#[]⟩ : ByteArray)⟩ : api_Ref)] : List api_Ref)) [.int .i64 2, .string (⟨#[]⟩ : ByteArray), .string (⟨#[]⟩ : ByteArray)] bs_105_1 rfl (by kernel_rfl) rfl rfl rfl rfl fun gb8 h9 => ?_) gn
 refine wl_v 7 rfl (v_build #[.int .i64 (-1), .slice (some ⟨gb8, 0, none⟩) 1 1] bd_107 rfl (by kernel_rfl)) gn rfl ?_
 refine wl_v 8 rfl (v_build #[.int .i64 1, .string (⟨#[102]⟩ : ByteArray), .string (⟨#[]⟩ : ByteArray)] bd_104 rfl (by kernel_rfl)) gn rfl ?_
 refine wl_s 9 rfl (s_litO (xs := ([(⟨1, (⟨#[102]⟩ : ByteArray), (⟨#[]⟩ : ByteArray)⟩ : api_Ref)] : List api_Ref)) [.int .i64 1, .string (⟨#[102]⟩ : ByteArray), .string (⟨#[]⟩ : ByteArray)] bs_105_1 rfl (by kernel_rfl) rfl rfl rfl rfl fun gb11 h12 => ?_) gn
 refine wl_v 10 rfl (v_build #[.int .i64 0, .slice (some ⟨gb11, 0, none⟩) 1 1] bd_107 rfl (by kernel_rfl)) gn rfl ?_
 refine w_freeze (F := F) (dk := k_api_Ref) (Sm w.heap.size F w []) 1 rfl h9 (me 0 rfl) Sm.ok (Cells.flat _) fun sw14 sb15 h13 => ?_
 refine w_freeze (F := F) (dk := k_api_Ref) (Sm w.heap.size F w []) 0 rfl h12 (me 1 rfl) Sm.ok (Cells.flat _) fun sw17 sb18 h16 => ?_
 refine w_mark (F := F) fun sw20 sb21 ho22 => ?_
 have hC23 : Cells k_api_Prod (Sm w.heap.size F sw20 sb21).w (Sm w.heap.size F sw20 sb21).av ([(⟨-1, ([(⟨2, (⟨#[]⟩ : ByteArray), (⟨#[]⟩ : ByteArray)⟩ : api_Ref)] : List api_Ref)⟩ : api_Prod), (⟨0, ([(⟨1, (⟨#[102]⟩ : ByteArray), (⟨#[]⟩ : ByteArray)⟩ : api_Ref)] : List api_Ref)⟩ : api_Prod)] : List api_Prod) [.int .i64 (-1), .slice (some ⟨gb8, 0, none⟩) 1 1, .int .i64 0, .slice (some ⟨gb11, 0, none⟩) 1 1] := (Cells.cons (c1 := [.int .i64 (-1), .slice (some ⟨gb8, 0, none⟩) 1 1]) ⟨(some ⟨gb8, 0, none⟩), 1, 1, rfl, (Rw.older (s := Sm w.heap.size F sw14 sb15) h13 (ho22 _ (me 1 rfl) Sm.ok))⟩ (Cells.cons (c1 := [.int .i64 0, .slice (some ⟨gb11, 0, none⟩) 1 1]) ⟨(some ⟨gb11, 0, none⟩), 1, 1, rfl, (Rw.older (s := Sm w.heap.size F sw17 sb18) h16 (ho22 _ (me 0 rfl) Sm.ok))⟩ Cells.nil))
 refine wl_s 11 rfl (s_litO (xs := ([(⟨-1, ([(⟨2, (⟨#[]⟩ : ByteArray), (⟨#[]⟩ : ByteArray)⟩ : api_Ref)] : List api_Ref)⟩ : api_Prod), (⟨0, ([(⟨1, (⟨#[102]⟩ : ByteArray), (⟨#[]⟩ : ByteArray)⟩ : api_Ref)] : List api_Ref)⟩ : api_Prod)] : List api_Prod)) [.int .i64 (-1), .slice (some ⟨gb8, 0, none⟩) 1 1, .int .i64 0, .slice (some ⟨gb11, 0, none⟩) 1 1] bs_45_2 rfl (by kernel_rfl) rfl rfl rfl rfl fun gb24 h25 => ?_) gn
 refine wl_v 12 rfl (v_build #[.slice (some ⟨gb2, 0, none⟩) 2 2, .slice (some ⟨gb5, 0, none⟩) 1 1, .slice (some ⟨gb24, 0, none⟩) 2 2] bd_47 rfl (by kernel_rfl)) gn rfl ?_
 refine wl_v 13 rfl (v_build #[.string (⟨#[]⟩ : ByteArray), .slice none 0 0, .slice (some ⟨gb2, 0, none⟩) 2 2, .slice (some ⟨gb5, 0, none⟩) 1 1, .slice (some ⟨gb24, 0, none⟩) 2 2, .slice none 0 0, .slice none 0 0, .slice none 0 0, .slice none 0 0, .slice none 0 0, .slice none 0 0, .slice none 0 0] bd_58 rfl (by kernel_rfl)) gn rfl ?_
 refine wl_s 14 rfl (s_alloc [.string (⟨#[]⟩ : ByteArray), .slice none 0 0, .slice none 0 0, .slice none 0 0, .slice none 0 0, .slice none 0 0, .slice none 0 0, .slice none 0 0, .slice none 0 0, .slice none 0 0, .slice none 0 0, .slice none 0 0] zr_58 rfl fun gb26 => ?_) gn
 refine wl_s 15 rfl (s_stB (vs := [.string (⟨#[]⟩ : ByteArray), .slice none 0 0, .slice (some ⟨gb2, 0, none⟩) 2 2, .slice (some ⟨gb5, 0, none⟩) 1 1, .slice (some ⟨gb24, 0, none⟩) 2 2, .slice none 0 0, .slice none 0 0, .slice none 0 0, .slice none 0 0, .slice none 0 0, .slice none 0 0, .slice none 0 0]) (cs' := [.string (⟨#[]⟩ : ByteArray), .slice none 0 0, .slice (some ⟨gb2, 0, none⟩) 2 2, .slice (some ⟨gb5, 0, none⟩) 1 1, .slice (some ⟨gb24, 0, none⟩) 2 2, .slice none 0 0, .slice none 0 0, .slice none 0 0, .slice none 0 0, .slice none 0 0, .slice none 0 0, .slice none 0 0]) (M' := [.box gb26 58 [.string (⟨#[]⟩ : ByteArray), .slice none 0 0, .slice (some ⟨gb2, 0, none⟩) 2 2, .slice (some ⟨gb5, 0, none⟩) 1 1, .slice (some ⟨gb24, 0, none⟩) 2 2, .slice none 0 0, .slice none 0 0, .slice none 0 0, .slice none 0 0, .slice none 0 0, .slice none 0 0, .slice none 0 0], .own (.slice (some ⟨gb24, 0, none⟩) 2 2) 107 2 2 [.int .i64 (-1), .slice (some ⟨gb8, 0, none⟩) 1 1, .int .i64 0, .slice (some ⟨gb11, 0, none⟩) 1 1], .own (.slice (some ⟨gb5, 0, none⟩) 1 1) 74 2 1 (([(⟨(⟨#[115]⟩ : ByteArray), 1⟩ : api_Sym)] : List api_Sym).flatMap enc_api_Sym), .own (.slice (some ⟨gb2, 0, none⟩) 2 2) 100 2 2 (([(⟨(⟨#[]⟩ : ByteArray), false⟩ : api_TermDef), (⟨(⟨#[97]⟩ : ByteArray), false⟩ : api_TermDef)] : List api_TermDef).flatMap enc_api_TermDef)]) 0 sz_58 rfl rfl rfl rfl rfl rfl rfl rfl rfl ?_) gn
 refine w_end 16 rfl ?_
 refine g_seq (c := q31c4) rfl ?_
 refine g_region (c := q31c5) rfl rfl ?_
 refine wl_v 0 rfl (v_ldB [.string (⟨#[]⟩ : ByteArray), .slice none 0 0, .slice (some ⟨gb2, 0, none⟩) 2 2, .slice (some ⟨gb5, 0, none⟩) 1 1, .slice (some ⟨gb24, 0, none⟩) 2 2, .slice none 0 0, .slice none 0 0, .slice none 0 0, .slice none 0 0, .slice none 0 0, .slice none 0 0, .slice none 0 0] 0 ld_58 rfl rfl rfl rfl) gn rfl ?_
 obtain ⟨r31, hv32, h⟩ := h
 refine wl_s 1 rfl (s_call [.agg #[.string (⟨#[]⟩ : ByteArray), .slice none 0 0, .slice (some ⟨gb2, 0, none⟩) 2 2, .slice (some ⟨gb5, 0, none⟩) 1 1, .slice (some ⟨gb24, 0, none⟩) 2 2, .slice none 0 0, .slice none 0 0, .slice none 0 0, .slice none 0 0, .slice none 0 0, .slice none 0 0, .slice none 0 0], .int .i64 1, .int .i64 0, .int .i64 2, .int .i64 5] rfl Try.func25 rfl rfl rfl fun w28 hL29 => ?_) gn
 have hp30 : List.Perm ([.box gb26 58 [.string (⟨#[]⟩ : ByteArray), .slice none 0 0, .slice (some ⟨gb2, 0, none⟩) 2 2, .slice (some ⟨gb5, 0, none⟩) 1 1, .slice (some ⟨gb24, 0, none⟩) 2 2, .slice none 0 0, .slice none 0 0, .slice none 0 0, .slice none 0 0, .slice none 0 0, .slice none 0 0, .slice none 0 0], .own (.slice (some ⟨gb24, 0, none⟩) 2 2) 107 2 2 [.int .i64 (-1), .slice (some ⟨gb8, 0, none⟩) 1 1, .int .i64 0, .slice (some ⟨gb11, 0, none⟩) 1 1], .own (.slice (some ⟨gb5, 0, none⟩) 1 1) 74 2 1 (([(⟨(⟨#[115]⟩ : ByteArray), 1⟩ : api_Sym)] : List api_Sym).flatMap enc_api_Sym), .own (.slice (some ⟨gb2, 0, none⟩) 2 2) 100 2 2 (([(⟨(⟨#[]⟩ : ByteArray), false⟩ : api_TermDef), (⟨(⟨#[97]⟩ : ByteArray), false⟩ : api_TermDef)] : List api_TermDef).flatMap enc_api_TermDef)] : List Ent) (([] : List Ent) ++ ([.box gb26 58 [.string (⟨#[]⟩ : ByteArray), .slice none 0 0, .slice (some ⟨gb2, 0, none⟩) 2 2, .slice (some ⟨gb5, 0, none⟩) 1 1, .slice (some ⟨gb24, 0, none⟩) 2 2, .slice none 0 0, .slice none 0 0, .slice none 0 0, .slice none 0 0, .slice none 0 0, .slice none 0 0, .slice none 0 0], .own (.slice (some ⟨gb24, 0, none⟩) 2 2) 107 2 2 [.int .i64 (-1), .slice (some ⟨gb8, 0, none⟩) 1 1, .int .i64 0, .slice (some ⟨gb11, 0, none⟩) 1 1], .own (.slice (some ⟨gb5, 0, none⟩) 1 1) 74 2 1 (([(⟨(⟨#[115]⟩ : ByteArray), 1⟩ : api_Sym)] : List api_Sym).flatMap enc_api_Sym), .own (.slice (some ⟨gb2, 0, none⟩) 2 2) 100 2 2 (([(⟨(⟨#[]⟩ : ByteArray), false⟩ : api_TermDef), (⟨(⟨#[97]⟩ : ByteArray), false⟩ : api_TermDef)] : List api_TermDef).flatMap enc_api_TermDef)] : List Ent)) := perm_of_idx [] [0, 1, 2, 3] rfl rfl (by kernel_rfl)
 refine Calls.mono (tree_Token_calls w28 (Fl ([] : List Snap)) (⟨(⟨#[]⟩ : ByteArray), ([] : List api_ModeDef), (⟨([(⟨(⟨#[]⟩ : ByteArray), false⟩ : api_TermDef), (⟨(⟨#[97]⟩ : ByteArray), false⟩ : api_TermDef)] : List api_TermDef), ([(⟨(⟨#[115]⟩ : ByteArray), 1⟩ : api_Sym)] : List api_Sym), ([(⟨-1, ([(⟨2, (⟨#[]⟩ : ByteArray), (⟨#[]⟩ : ByteArray)⟩ : api_Ref)] : List api_Ref)⟩ : api_Prod), (⟨0, ([(⟨1, (⟨#[102]⟩ : ByteArray), (⟨#[]⟩ : ByteArray)⟩ : api_Ref)] : List api_Ref)⟩ : api_Prod)] : List api_Prod)⟩ : api_Gram), ([] : List api_Rule), (⟨([] : List (List api_Action)), ([] : List (List Int))⟩ : api_Table), ([] : List api_PaintDef), ([] : List ByteArray), ([] : List api_MarkDef), ([] : List api_InjectDef)⟩ : api_Lang) 1 0 2 5 none 0 0 (some ⟨gb2, 0, none⟩) 2 2 (some ⟨gb5, 0, none⟩) 1 1 (some ⟨gb24, 0, none⟩) 2 2 none 0 0 none 0 0 none 0 0 none 0 0 none 0 0 none 0 0 none 0 0 Rw.nil (hL29.argO (dk := k_api_TermDef) hp30 [] rfl 3 rfl rfl h3 (me 3 rfl) (Cells.flat _)) (hL29.argO (dk := k_api_Sym) hp30 [] rfl 2 rfl rfl h6 (me 3 rfl) (Cells.flat _)) (hL29.argO (dk := k_api_Prod) hp30 [] rfl 1 rfl rfl h25 (me 0 rfl) hC23) Rw.nil Rw.nil Rw.nil Rw.nil Rw.nil Rw.nil Rw.nil (hL29.hFl (Sl := ([] : List Snap)) hp30 (sels [] rfl)) (hL29.into hp30 (Fl ([] : List Snap))) r31 hv32) ?_
 rintro _ w38 ⟨A33, n34, c35, rfl, hM39, h36⟩
 have hL40 := hL29.call hp30 hM39
 refine ⟨_, _, _, rfl, hL40, ?_⟩
 refine wl_v 2 rfl (v_assign rfl) gn rfl ?_
 refine w_end 3 rfl ?_
 refine g_seq (c := q31c6) rfl ?_
 refine g_region (c := q31c7) rfl rfl ?_
 refine wl_v 0 rfl (v_ldB [.string (⟨#[]⟩ : ByteArray), .slice none 0 0, .slice (some ⟨gb2, 0, none⟩) 2 2, .slice (some ⟨gb5, 0, none⟩) 1 1, .slice (some ⟨gb24, 0, none⟩) 2 2, .slice none 0 0, .slice none 0 0, .slice none 0 0, .slice none 0 0, .slice none 0 0, .slice none 0 0, .slice none 0 0] 1 ld_58 rfl rfl rfl rfl) gn rfl ?_
 refine wl_v 1 rfl (v_move rfl) gn rfl ?_
 refine w_freeze (F := F) (dk := k_api_Node) (Sm w.heap.size F w []) 0 rfl (Ow.weak hL29.env.size h36) (me 3 rfl) Sm.ok (Cells.flat _) fun sw42 sb43 h41 => ?_
 have hC45 : Cells (Kd.slice k_api_Node) (Sm w.heap.size F sw42 sb43).w (Sm w.heap.size F sw42 sb43).av ([r31] : List (List api_Node)) [.slice A33 n34 c35] := (Cells.cons (c1 := [.slice A33 n34 c35]) ⟨A33, n34, c35, rfl, h41⟩ Cells.nil)
 refine wl_s 2 rfl (s_litO (xs := ([r31] : List (List api_Node))) [.slice A33 n34 c35] bs_59_1 rfl (by kernel_rfl) rfl rfl rfl rfl fun gb46 h47 => ?_) gn
 refine wl_s 3 rfl (s_litO (xs := ([0, 5] : List Int)) [.int .i64 0, .int .i64 5] bs_23_2 rfl (by kernel_rfl) rfl rfl rfl rfl fun gb49 h50 => ?_) gn
 obtain ⟨r54, hv55, h⟩ := h
 refine wl_s 4 rfl (s_call [.agg #[.string (⟨#[]⟩ : ByteArray), .slice none 0 0, .slice (some ⟨gb2, 0, none⟩) 2 2, .slice (some ⟨gb5, 0, none⟩) 1 1, .slice (some ⟨gb24, 0, none⟩) 2 2, .slice none 0 0, .slice none 0 0, .slice none 0 0, .slice none 0 0, .slice none 0 0, .slice none 0 0, .slice none 0 0], .int .i64 1, .slice (some ⟨gb46, 0, none⟩) 1 1, .slice (some ⟨gb49, 0, none⟩) 2 2] rfl Try.func32 rfl rfl rfl fun w51 hL52 => ?_) gn
 have hp53 : List.Perm ([.own (.slice (some ⟨gb49, 0, none⟩) 2 2) 3 1 2 (([0, 5] : List Int).flatMap (eI .i64)), .own (.slice (some ⟨gb46, 0, none⟩) 1 1) 22 1 1 [.slice A33 n34 c35], .box gb26 58 [.string (⟨#[]⟩ : ByteArray), .slice none 0 0, .slice (some ⟨gb2, 0, none⟩) 2 2, .slice (some ⟨gb5, 0, none⟩) 1 1, .slice (some ⟨gb24, 0, none⟩) 2 2, .slice none 0 0, .slice none 0 0, .slice none 0 0, .slice none 0 0, .slice none 0 0, .slice none 0 0, .slice none 0 0], .own (.slice (some ⟨gb24, 0, none⟩) 2 2) 107 2 2 [.int .i64 (-1), .slice (some ⟨gb8, 0, none⟩) 1 1, .int .i64 0, .slice (some ⟨gb11, 0, none⟩) 1 1], .own (.slice (some ⟨gb5, 0, none⟩) 1 1) 74 2 1 (([(⟨(⟨#[115]⟩ : ByteArray), 1⟩ : api_Sym)] : List api_Sym).flatMap enc_api_Sym), .own (.slice (some ⟨gb2, 0, none⟩) 2 2) 100 2 2 (([(⟨(⟨#[]⟩ : ByteArray), false⟩ : api_TermDef), (⟨(⟨#[97]⟩ : ByteArray), false⟩ : api_TermDef)] : List api_TermDef).flatMap enc_api_TermDef)] : List Ent) (([] : List Ent) ++ ([.own (.slice (some ⟨gb49, 0, none⟩) 2 2) 3 1 2 (([0, 5] : List Int).flatMap (eI .i64)), .own (.slice (some ⟨gb46, 0, none⟩) 1 1) 22 1 1 [.slice A33 n34 c35], .box gb26 58 [.string (⟨#[]⟩ : ByteArray), .slice none 0 0, .slice (some ⟨gb2, 0, none⟩) 2 2, .slice (some ⟨gb5, 0, none⟩) 1 1, .slice (some ⟨gb24, 0, none⟩) 2 2, .slice none 0 0, .slice none 0 0, .slice none 0 0, .slice none 0 0, .slice none 0 0, .slice none 0 0, .slice none 0 0], .own (.slice (some ⟨gb24, 0, none⟩) 2 2) 107 2 2 [.int .i64 (-1), .slice (some ⟨gb8, 0, none⟩) 1 1, .int .i64 0, .slice (some ⟨gb11, 0, none⟩) 1 1], .own (.slice (some ⟨gb5, 0, none⟩) 1 1) 74 2 1 (([(⟨(⟨#[115]⟩ : ByteArray), 1⟩ : api_Sym)] : List api_Sym).flatMap enc_api_Sym), .own (.slice (some ⟨gb2, 0, none⟩) 2 2) 100 2 2 (([(⟨(⟨#[]⟩ : ByteArray), false⟩ : api_TermDef), (⟨(⟨#[97]⟩ : ByteArray), false⟩ : api_TermDef)] : List api_TermDef).flatMap enc_api_TermDef)] : List Ent)) := perm_of_idx [] [0, 1, 2, 3, 4, 5] rfl rfl (by kernel_rfl)
 refine Calls.mono (tree_Reduce_calls w51 (Fl ([] : List Snap)) (⟨(⟨#[]⟩ : ByteArray), ([] : List api_ModeDef), (⟨([(⟨(⟨#[]⟩ : ByteArray), false⟩ : api_TermDef), (⟨(⟨#[97]⟩ : ByteArray), false⟩ : api_TermDef)] : List api_TermDef), ([(⟨(⟨#[115]⟩ : ByteArray), 1⟩ : api_Sym)] : List api_Sym), ([(⟨-1, ([(⟨2, (⟨#[]⟩ : ByteArray), (⟨#[]⟩ : ByteArray)⟩ : api_Ref)] : List api_Ref)⟩ : api_Prod), (⟨0, ([(⟨1, (⟨#[102]⟩ : ByteArray), (⟨#[]⟩ : ByteArray)⟩ : api_Ref)] : List api_Ref)⟩ : api_Prod)] : List api_Prod)⟩ : api_Gram), ([] : List api_Rule), (⟨([] : List (List api_Action)), ([] : List (List Int))⟩ : api_Table), ([] : List api_PaintDef), ([] : List ByteArray), ([] : List api_MarkDef), ([] : List api_InjectDef)⟩ : api_Lang) 1 ([r31] : List (List api_Node)) ([0, 5] : List Int) none 0 0 (some ⟨gb2, 0, none⟩) 2 2 (some ⟨gb5, 0, none⟩) 1 1 (some ⟨gb24, 0, none⟩) 2 2 none 0 0 none 0 0 none 0 0 none 0 0 none 0 0 none 0 0 none 0 0 (some ⟨gb46, 0, none⟩) 1 1 (some ⟨gb49, 0, none⟩) 2 2 Rw.nil (hL52.argO (dk := k_api_TermDef) hp53 [] rfl 5 rfl rfl h3 (me 4 rfl) (Cells.flat _)) (hL52.argO (dk := k_api_Sym) hp53 [] rfl 4 rfl rfl h6 (me 4 rfl) (Cells.flat _)) (hL52.argO (dk := k_api_Prod) hp53 [] rfl 3 rfl rfl h25 (me 1 rfl) hC23) Rw.nil Rw.nil Rw.nil Rw.nil Rw.nil Rw.nil Rw.nil (hL52.argO (dk := (Kd.slice k_api_Node)) hp53 [] rfl 1 rfl rfl h47 (me 0 rfl) hC45) (hL52.argO (dk := (kInt .i64)) hp53 [] rfl 0 rfl rfl h50 (me 4 rfl) (Cells.flat _)) (hL52.hFl (Sl := ([] : List Snap)) hp53 (sels [] rfl)) (hL52.into hp53 (Fl ([] : List Snap))) r54 hv55) ?_
 rintro _ w61 ⟨A56, n57, c58, rfl, hM62, h59⟩
 have hL63 := hL52.call hp53 hM62
 refine ⟨_, _, _, rfl, hL63, ?_⟩
 refine wl_v 5 rfl (v_assign rfl) gn rfl ?_
 refine w_end 6 rfl ?_
 refine g_seq (c := q31c8) rfl ?_
 refine g_region (c := q31c9) rfl rfl ?_
 refine wl_v 0 rfl (v_move rfl) gn rfl ?_
 obtain ⟨r68, hv69, h⟩ := h
 refine wl_s 1 rfl (s_call [.slice A56 n57 c58, .int .i64 0] rfl Try.func42 rfl rfl rfl fun w65 hL66 => ?_) gn
 have hp67 : List.Perm ([.own (.slice A56 n57 c58) 39 7 n57 (r54.flatMap enc_api_Node), .own (.slice (some ⟨gb49, 0, none⟩) 2 2) 3 1 2 (([0, 5] : List Int).flatMap (eI .i64)), .own (.slice (some ⟨gb46, 0, none⟩) 1 1) 22 1 1 [.slice A33 n34 c35], .box gb26 58 [.string (⟨#[]⟩ : ByteArray), .slice none 0 0, .slice (some ⟨gb2, 0, none⟩) 2 2, .slice (some ⟨gb5, 0, none⟩) 1 1, .slice (some ⟨gb24, 0, none⟩) 2 2, .slice none 0 0, .slice none 0 0, .slice none 0 0, .slice none 0 0, .slice none 0 0, .slice none 0 0, .slice none 0 0], .own (.slice (some ⟨gb24, 0, none⟩) 2 2) 107 2 2 [.int .i64 (-1), .slice (some ⟨gb8, 0, none⟩) 1 1, .int .i64 0, .slice (some ⟨gb11, 0, none⟩) 1 1], .own (.slice (some ⟨gb5, 0, none⟩) 1 1) 74 2 1 (([(⟨(⟨#[115]⟩ : ByteArray), 1⟩ : api_Sym)] : List api_Sym).flatMap enc_api_Sym), .own (.slice (some ⟨gb2, 0, none⟩) 2 2) 100 2 2 (([(⟨(⟨#[]⟩ : ByteArray), false⟩ : api_TermDef), (⟨(⟨#[97]⟩ : ByteArray), false⟩ : api_TermDef)] : List api_TermDef).flatMap enc_api_TermDef)] : List Ent) (([] : List Ent) ++ ([.own (.slice A56 n57 c58) 39 7 n57 (r54.flatMap enc_api_Node), .own (.slice (some ⟨gb49, 0, none⟩) 2 2) 3 1 2 (([0, 5] : List Int).flatMap (eI .i64)), .own (.slice (some ⟨gb46, 0, none⟩) 1 1) 22 1 1 [.slice A33 n34 c35], .box gb26 58 [.string (⟨#[]⟩ : ByteArray), .slice none 0 0, .slice (some ⟨gb2, 0, none⟩) 2 2, .slice (some ⟨gb5, 0, none⟩) 1 1, .slice (some ⟨gb24, 0, none⟩) 2 2, .slice none 0 0, .slice none 0 0, .slice none 0 0, .slice none 0 0, .slice none 0 0, .slice none 0 0, .slice none 0 0], .own (.slice (some ⟨gb24, 0, none⟩) 2 2) 107 2 2 [.int .i64 (-1), .slice (some ⟨gb8, 0, none⟩) 1 1, .int .i64 0, .slice (some ⟨gb11, 0, none⟩) 1 1], .own (.slice (some ⟨gb5, 0, none⟩) 1 1) 74 2 1 (([(⟨(⟨#[115]⟩ : ByteArray), 1⟩ : api_Sym)] : List api_Sym).flatMap enc_api_Sym), .own (.slice (some ⟨gb2, 0, none⟩) 2 2) 100 2 2 (([(⟨(⟨#[]⟩ : ByteArray), false⟩ : api_TermDef), (⟨(⟨#[97]⟩ : ByteArray), false⟩ : api_TermDef)] : List api_TermDef).flatMap enc_api_TermDef)] : List Ent)) := perm_of_idx [] [0, 1, 2, 3, 4, 5, 6] rfl rfl (by kernel_rfl)
 refine Calls.mono (tree_Kids_calls w65 (Fl ([] : List Snap)) r54 0 A56 n57 c58 (hL66.argO (dk := k_api_Node) hp67 [] rfl 0 rfl rfl (Ow.weak hL52.env.size h59) (me 4 rfl) (Cells.flat _)) (hL66.hFl (Sl := ([] : List Snap)) hp67 (sels [] rfl)) (hL66.into hp67 (Fl ([] : List Snap))) r68 hv69) ?_
 rintro _ w75 ⟨A70, n71, c72, rfl, hM76, h73⟩
 have hL77 := hL66.call hp67 hM76
 refine ⟨_, _, _, rfl, hL77, ?_⟩
 refine wl_v 2 rfl (v_assign rfl) gn rfl ?_
 refine w_end 3 rfl ?_
 refine g_seq (c := q31c10) rfl ?_
 refine g_region (c := q31c11) rfl rfl ?_
 refine wl_v 0 rfl (v_move rfl) gn rfl ?_
 obtain ⟨r81, hv82, h⟩ := h
 refine wl_s 1 rfl (s_call [.slice A56 n57 c58] rfl Try.func53 rfl rfl rfl fun w78 hL79 => ?_) gn
 have hp80 : List.Perm ([.own (.slice A70 n71 c72) 3 1 n71 (r68.flatMap (eI .i64)), .own (.slice A56 n57 c58) 39 7 n57 (r54.flatMap enc_api_Node), .own (.slice (some ⟨gb49, 0, none⟩) 2 2) 3 1 2 (([0, 5] : List Int).flatMap (eI .i64)), .own (.slice (some ⟨gb46, 0, none⟩) 1 1) 22 1 1 [.slice A33 n34 c35], .box gb26 58 [.string (⟨#[]⟩ : ByteArray), .slice none 0 0, .slice (some ⟨gb2, 0, none⟩) 2 2, .slice (some ⟨gb5, 0, none⟩) 1 1, .slice (some ⟨gb24, 0, none⟩) 2 2, .slice none 0 0, .slice none 0 0, .slice none 0 0, .slice none 0 0, .slice none 0 0, .slice none 0 0, .slice none 0 0], .own (.slice (some ⟨gb24, 0, none⟩) 2 2) 107 2 2 [.int .i64 (-1), .slice (some ⟨gb8, 0, none⟩) 1 1, .int .i64 0, .slice (some ⟨gb11, 0, none⟩) 1 1], .own (.slice (some ⟨gb5, 0, none⟩) 1 1) 74 2 1 (([(⟨(⟨#[115]⟩ : ByteArray), 1⟩ : api_Sym)] : List api_Sym).flatMap enc_api_Sym), .own (.slice (some ⟨gb2, 0, none⟩) 2 2) 100 2 2 (([(⟨(⟨#[]⟩ : ByteArray), false⟩ : api_TermDef), (⟨(⟨#[97]⟩ : ByteArray), false⟩ : api_TermDef)] : List api_TermDef).flatMap enc_api_TermDef)] : List Ent) (([] : List Ent) ++ ([.own (.slice A70 n71 c72) 3 1 n71 (r68.flatMap (eI .i64)), .own (.slice A56 n57 c58) 39 7 n57 (r54.flatMap enc_api_Node), .own (.slice (some ⟨gb49, 0, none⟩) 2 2) 3 1 2 (([0, 5] : List Int).flatMap (eI .i64)), .own (.slice (some ⟨gb46, 0, none⟩) 1 1) 22 1 1 [.slice A33 n34 c35], .box gb26 58 [.string (⟨#[]⟩ : ByteArray), .slice none 0 0, .slice (some ⟨gb2, 0, none⟩) 2 2, .slice (some ⟨gb5, 0, none⟩) 1 1, .slice (some ⟨gb24, 0, none⟩) 2 2, .slice none 0 0, .slice none 0 0, .slice none 0 0, .slice none 0 0, .slice none 0 0, .slice none 0 0, .slice none 0 0], .own (.slice (some ⟨gb24, 0, none⟩) 2 2) 107 2 2 [.int .i64 (-1), .slice (some ⟨gb8, 0, none⟩) 1 1, .int .i64 0, .slice (some ⟨gb11, 0, none⟩) 1 1], .own (.slice (some ⟨gb5, 0, none⟩) 1 1) 74 2 1 (([(⟨(⟨#[115]⟩ : ByteArray), 1⟩ : api_Sym)] : List api_Sym).flatMap enc_api_Sym), .own (.slice (some ⟨gb2, 0, none⟩) 2 2) 100 2 2 (([(⟨(⟨#[]⟩ : ByteArray), false⟩ : api_TermDef), (⟨(⟨#[97]⟩ : ByteArray), false⟩ : api_TermDef)] : List api_TermDef).flatMap enc_api_TermDef)] : List Ent)) := perm_of_idx [] [0, 1, 2, 3, 4, 5, 6, 7] rfl rfl (by kernel_rfl)
 refine Calls.mono (tree_Text_calls w78 (Fl ([] : List Snap)) r54 A56 n57 c58 (hL79.argO (dk := k_api_Node) hp80 [] rfl 1 rfl rfl (Ow.weak hL52.env.size h59) (me 4 rfl) (Cells.flat _)) (hL79.hFl (Sl := ([] : List Snap)) hp80 (sels [] rfl)) (hL79.into hp80 (Fl ([] : List Snap))) r81 hv82) ?_
 rintro _ w83 ⟨rfl, hM84⟩
 have hL85 := hL79.call hp80 hM84
 refine ⟨_, _, _, rfl, hL85, ?_⟩
 refine wl_v 2 rfl (v_assign rfl) gn rfl ?_
 refine w_end 3 rfl ?_
 refine g_seq (c := q31c12) rfl ?_
 refine g_region (c := q31c13) rfl rfl ?_
 refine wl_v 0 rfl (v_move rfl) gn rfl ?_
 refine wl_v 1 rfl (v_lenQ un_22 rfl h41.hq) gn rfl ?_
 refine wl_v 2 rfl (v_bin rfl rfl rfl) gn rfl ?_
 refine wl_v 3 rfl (v_move rfl) gn rfl ?_
 by_cases hp86 : (r31.length : Int) = 1
 ·have h := if_pos' hp86 h
  refine w_bool 34 rfl ((eqi hp86)) ?_
  refine wl_v 4 rfl (v_move rfl) (gy 34 rfl rfl) rfl ?_
  refine wl_v 5 rfl (v_lenQ un_22 rfl (Ow.weak hL52.env.size h59).hq) (gy 34 rfl rfl) rfl ?_
  refine wl_v 6 rfl (v_bin rfl rfl rfl) (gy 34 rfl rfl) rfl ?_
  refine wl_v 7 rfl (v_pick (b := true) rfl rfl) gn rfl ?_
  refine wl_v 8 rfl (v_move rfl) gn rfl ?_
  by_cases hp87 : (r54.length : Int) = 2
  ·have h := if_pos' hp87 h
   refine w_bool 39 rfl ((eqi hp87)) ?_
   refine wl_v 9 rfl (v_move rfl) (gy 39 rfl rfl) rfl ?_
   obtain ⟨hb88, h⟩ := h
   refine wl_v 10 rfl (v_idxO slE_22 rfl rfl (Ow.weak hL52.env.size h59) hb88) (gy 39 rfl rfl) rfl ?_
   refine wl_v 11 rfl (v_fldA fo_39_3 rfl) (gy 39 rfl rfl) rfl ?_
   refine wl_v 12 rfl (v_ldO1 (.int .i64 ((ix r54 0).from_)) 1 ld_3 rfl rfl (fm_get hl_api_Node hb88 rfl)) (gy 39 rfl rfl) rfl ?_
   refine wl_v 13 rfl (v_bin rfl rfl rfl) (gy 39 rfl rfl) rfl ?_
   refine wl_v 14 rfl (v_pick (b := true) rfl rfl) gn rfl ?_
   refine wl_v 15 rfl (v_move rfl) gn rfl ?_
   by_cases hp89 : (ix r54 0).from_ = 2
   ·have h := if_pos' hp89 h
    refine w_bool 46 rfl ((eqi hp89)) ?_
    refine wl_v 16 rfl (v_move rfl) (gy 46 rfl rfl) rfl ?_
    refine wl_v 17 rfl (v_idxO slE_22 rfl rfl (Ow.weak hL52.env.size h59) hb88) (gy 46 rfl rfl) rfl ?_
    refine wl_v 18 rfl (v_fldA fo_39_4 rfl) (gy 46 rfl rfl) rfl ?_
    refine wl_v 19 rfl (v_ldO1 (.int .i64 ((ix r54 0).to)) 1 ld_3 rfl rfl (fm_get hl_api_Node hb88 rfl)) (gy 46 rfl rfl) rfl ?_
    refine wl_v 20 rfl (v_bin rfl rfl rfl) (gy 46 rfl rfl) rfl ?_
    refine wl_v 21 rfl (v_pick (b := true) rfl rfl) gn rfl ?_
    refine wl_v 22 rfl (v_move rfl) gn rfl ?_
    by_cases hp90 : (ix r54 0).to = 5
    ·have h := if_pos' hp90 h
     refine w_bool 53 rfl ((eqi hp90)) ?_
     refine wl_v 23 rfl (v_move rfl) (gy 53 rfl rfl) rfl ?_
     refine wl_v 24 rfl (v_idxO slE_22 rfl rfl (Ow.weak hL52.env.size h59) hb88) (gy 53 rfl rfl) rfl ?_
     refine wl_v 25 rfl (v_fldA fo_39_5 rfl) (gy 53 rfl rfl) rfl ?_
     refine wl_v 26 rfl (v_ldO1 (.int .i64 ((ix r54 0).kids)) 1 ld_3 rfl rfl (fm_get hl_api_Node hb88 rfl)) (gy 53 rfl rfl) rfl ?_
     refine wl_v 27 rfl (v_bin rfl rfl rfl) (gy 53 rfl rfl) rfl ?_
     refine wl_v 28 rfl (v_pick (b := true) rfl rfl) gn rfl ?_
     refine wl_v 29 rfl (v_move rfl) gn rfl ?_
     by_cases hp91 : (ix r54 0).kids = 1
     ·have h := if_pos' hp91 h
      refine w_bool 60 rfl ((eqi hp91)) ?_
      refine wl_v 30 rfl (v_move rfl) (gy 60 rfl rfl) rfl ?_
      refine wl_v 31 rfl (v_idxO slE_22 rfl rfl (Ow.weak hL52.env.size h59) hb88) (gy 60 rfl rfl) rfl ?_
      refine wl_v 32 rfl (v_fldA fo_39_6 rfl) (gy 60 rfl rfl) rfl ?_
      refine wl_v 33 rfl (v_ldO1 (.int .i64 ((ix r54 0).leaf)) 1 ld_3 rfl rfl (fm_get hl_api_Node hb88 rfl)) (gy 60 rfl rfl) rfl ?_
      refine wl_v 34 rfl (v_bin rfl rfl rfl) (gy 60 rfl rfl) rfl ?_
      refine wl_v 35 rfl (v_pick (b := true) rfl rfl) gn rfl ?_
      refine wl_v 36 rfl (v_move rfl) gn rfl ?_
      by_cases hp92 : (ix r54 0).leaf = -1
      ·have h := if_pos' hp92 h
       refine w_bool 67 rfl ((eqi hp92)) ?_
       refine wl_v 37 rfl (v_move rfl) (gy 67 rfl rfl) rfl ?_
       refine wl_v 38 rfl (v_lenQ un_23 rfl (Ow.weak hL66.env.size h73).hq) (gy 67 rfl rfl) rfl ?_
       refine wl_v 39 rfl (v_bin rfl rfl rfl) (gy 67 rfl rfl) rfl ?_
       refine wl_v 40 rfl (v_pick (b := true) rfl rfl) gn rfl ?_
       refine wl_v 41 rfl (v_move rfl) gn rfl ?_
       by_cases hp93 : (r68.length : Int) = 1
       ·have h := if_pos' hp93 h
        refine w_bool 72 rfl ((eqi hp93)) ?_
        refine wl_v 42 rfl (v_move rfl) (gy 72 rfl rfl) rfl ?_
        obtain ⟨hb94, h⟩ := h
        refine wl_v 43 rfl (v_idxO slE_23 rfl rfl (Ow.weak hL66.env.size h73) hb94) (gy 72 rfl rfl) rfl ?_
        refine wl_v 44 rfl (v_ldO1 (.int .i64 (ix r68 0)) 0 ld_3 rfl rfl (fm_get0 (hlI .i64) hb94 rfl)) (gy 72 rfl rfl) rfl ?_
        refine wl_v 45 rfl (v_bin rfl rfl rfl) (gy 72 rfl rfl) rfl ?_
        refine wl_v 46 rfl (v_pick (b := true) rfl rfl) gn rfl ?_
        refine wl_v 47 rfl (v_move rfl) gn rfl ?_
        by_cases hp95 : ix r68 0 = 1
        ·have h := if_pos' hp95 h
         refine w_bool 78 rfl ((eqi hp95)) ?_
         refine wl_v 48 rfl (v_move rfl) (gy 78 rfl rfl) rfl ?_
         refine wl_v 49 rfl (v_eqS rfl rfl) (gy 78 rfl rfl) rfl ?_
         refine wl_v 50 rfl (v_pick (b := true) rfl rfl) gn rfl ?_
         refine wl_v 51 rfl (v_move rfl) gn rfl ?_
         by_cases hp96 : r81 = (⟨#[40, 115, 32, 102, 58, 32, 40, 97, 41, 41]⟩ : ByteArray)
         ·have h := if_pos' hp96 h
          refine w_bool 82 rfl ((seq_t hp96)) ?_
          refine wl_v 52 rfl (v_move rfl) (gy 82 rfl rfl) rfl ?_
          obtain ⟨r100, hv101, h⟩ := h
          refine wl_s 53 rfl (s_call [.slice A56 n57 c58] rfl Try.func37 rfl rfl rfl fun w97 hL98 => ?_) (gy 82 rfl rfl)
          have hp99 : List.Perm ([.own (.slice A70 n71 c72) 3 1 n71 (r68.flatMap (eI .i64)), .own (.slice A56 n57 c58) 39 7 n57 (r54.flatMap enc_api_Node), .own (.slice (some ⟨gb49, 0, none⟩) 2 2) 3 1 2 (([0, 5] : List Int).flatMap (eI .i64)), .own (.slice (some ⟨gb46, 0, none⟩) 1 1) 22 1 1 [.slice A33 n34 c35], .box gb26 58 [.string (⟨#[]⟩ : ByteArray), .slice none 0 0, .slice (some ⟨gb2, 0, none⟩) 2 2, .slice (some ⟨gb5, 0, none⟩) 1 1, .slice (some ⟨gb24, 0, none⟩) 2 2, .slice none 0 0, .slice none 0 0, .slice none 0 0, .slice none 0 0, .slice none 0 0, .slice none 0 0, .slice none 0 0], .own (.slice (some ⟨gb24, 0, none⟩) 2 2) 107 2 2 [.int .i64 (-1), .slice (some ⟨gb8, 0, none⟩) 1 1, .int .i64 0, .slice (some ⟨gb11, 0, none⟩) 1 1], .own (.slice (some ⟨gb5, 0, none⟩) 1 1) 74 2 1 (([(⟨(⟨#[115]⟩ : ByteArray), 1⟩ : api_Sym)] : List api_Sym).flatMap enc_api_Sym), .own (.slice (some ⟨gb2, 0, none⟩) 2 2) 100 2 2 (([(⟨(⟨#[]⟩ : ByteArray), false⟩ : api_TermDef), (⟨(⟨#[97]⟩ : ByteArray), false⟩ : api_TermDef)] : List api_TermDef).flatMap enc_api_TermDef)] : List Ent) (([] : List Ent) ++ ([.own (.slice A70 n71 c72) 3 1 n71 (r68.flatMap (eI .i64)), .own (.slice A56 n57 c58) 39 7 n57 (r54.flatMap enc_api_Node), .own (.slice (some ⟨gb49, 0, none⟩) 2 2) 3 1 2 (([0, 5] : List Int).flatMap (eI .i64)), .own (.slice (some ⟨gb46, 0, none⟩) 1 1) 22 1 1 [.slice A33 n34 c35], .box gb26 58 [.string (⟨#[]⟩ : ByteArray), .slice none 0 0, .slice (some ⟨gb2, 0, none⟩) 2 2, .slice (some ⟨gb5, 0, none⟩) 1 1, .slice (some ⟨gb24, 0, none⟩) 2 2, .slice none 0 0, .slice none 0 0, .slice none 0 0, .slice none 0 0, .slice none 0 0, .slice none 0 0, .slice none 0 0], .own (.slice (some ⟨gb24, 0, none⟩) 2 2) 107 2 2 [.int .i64 (-1), .slice (some ⟨gb8, 0, none⟩) 1 1, .int .i64 0, .slice (some ⟨gb11, 0, none⟩) 1 1], .own (.slice (some ⟨gb5, 0, none⟩) 1 1) 74 2 1 (([(⟨(⟨#[115]⟩ : ByteArray), 1⟩ : api_Sym)] : List api_Sym).flatMap enc_api_Sym), .own (.slice (some ⟨gb2, 0, none⟩) 2 2) 100 2 2 (([(⟨(⟨#[]⟩ : ByteArray), false⟩ : api_TermDef), (⟨(⟨#[97]⟩ : ByteArray), false⟩ : api_TermDef)] : List api_TermDef).flatMap enc_api_TermDef)] : List Ent)) := perm_of_idx [] [0, 1, 2, 3, 4, 5, 6, 7] rfl rfl (by kernel_rfl)
          refine Calls.mono (tree_Roots_calls w97 (Fl ([] : List Snap)) r54 A56 n57 c58 (hL98.argO (dk := k_api_Node) hp99 [] rfl 1 rfl rfl (Ow.weak hL52.env.size h59) (me 4 rfl) (Cells.flat _)) (hL98.hFl (Sl := ([] : List Snap)) hp99 (sels [] rfl)) (hL98.into hp99 (Fl ([] : List Snap))) r100 hv101) ?_
          rintro _ w102 ⟨rfl, hM103⟩
          have hL104 := hL98.call hp99 hM103
          refine ⟨_, _, _, rfl, hL104, ?_⟩
          refine wl_v 54 rfl (v_bin rfl rfl rfl) (gy 82 rfl rfl) rfl ?_
          refine wl_v 55 rfl (v_pick (b := true) rfl rfl) gn rfl ?_
          refine wl_v 56 rfl (v_assign rfl) gn rfl ?_
          refine w_end 57 rfl ?_
          refine g_retR (c := q31c14) [.bool (r100 == 1)] rfl Try.func31 rfl (.tmp rfl (.nil)) fun wr hLr => ?_
          have hMr : B.Loc w wr [] [St w []] := hLr.pick0 (sels [5] rfl)
          show trellislaw15_alive_R w F  r (.returned (packV [.bool (r100 == 1)])) wr
          rw [h]
          exact ⟨rfl, hMr⟩
         ·have h := if_neg' hp96 h
          refine w_bool 82 rfl ((seq_f hp96)) ?_
          refine wl_pass 52 rfl (ps 82 rfl rfl rfl) ?_
          refine wl_pass 53 rfl (ps 82 rfl rfl rfl) ?_
          refine wl_pass 54 rfl (ps 82 rfl rfl rfl) ?_
          refine wl_v 55 rfl (v_pick (b := false) rfl rfl) gn rfl ?_
          refine wl_v 56 rfl (v_assign rfl) gn rfl ?_
          refine w_end 57 rfl ?_
          refine g_retR (c := q31c14) [.bool false] rfl Try.func31 rfl (.tmp rfl (.nil)) fun wr hLr => ?_
          have hMr : B.Loc w wr [] [St w []] := hLr.pick0 (sels [5] rfl)
          show trellislaw15_alive_R w F  r (.returned (packV [.bool false])) wr
          rw [h]
          exact ⟨rfl, hMr⟩
        ·have h := if_neg' hp95 h
         refine w_bool 78 rfl ((nei hp95)) ?_
         refine wl_pass 48 rfl (ps 78 rfl rfl rfl) ?_
         refine wl_pass 49 rfl (ps 78 rfl rfl rfl) ?_
         refine wl_v 50 rfl (v_pick (b := false) rfl rfl) gn rfl ?_
         refine wl_v 51 rfl (v_move rfl) gn rfl ?_
         refine wl_pass 52 rfl (ps 82 rfl rfl rfl) ?_
         refine wl_pass 53 rfl (ps 82 rfl rfl rfl) ?_
         refine wl_pass 54 rfl (ps 82 rfl rfl rfl) ?_
         refine wl_v 55 rfl (v_pick (b := false) rfl rfl) gn rfl ?_
         refine wl_v 56 rfl (v_assign rfl) gn rfl ?_
         refine w_end 57 rfl ?_
         refine g_retR (c := q31c14) [.bool false] rfl Try.func31 rfl (.tmp rfl (.nil)) fun wr hLr => ?_
         have hMr : B.Loc w wr [] [St w []] := hLr.pick0 (sels [5] rfl)
         show trellislaw15_alive_R w F  r (.returned (packV [.bool false])) wr
         rw [h]
         exact ⟨rfl, hMr⟩
       ·have h := if_neg' hp93 h
        refine w_bool 72 rfl ((nei hp93)) ?_
        refine wl_pass 42 rfl (ps 72 rfl rfl rfl) ?_
        refine wl_pass 43 rfl (ps 72 rfl rfl rfl) ?_
        refine wl_pass 44 rfl (ps 72 rfl rfl rfl) ?_
        refine wl_pass 45 rfl (ps 72 rfl rfl rfl) ?_
        refine wl_v 46 rfl (v_pick (b := false) rfl rfl) gn rfl ?_
        refine wl_v 47 rfl (v_move rfl) gn rfl ?_
        refine wl_pass 48 rfl (ps 78 rfl rfl rfl) ?_
        refine wl_pass 49 rfl (ps 78 rfl rfl rfl) ?_
        refine wl_v 50 rfl (v_pick (b := false) rfl rfl) gn rfl ?_
        refine wl_v 51 rfl (v_move rfl) gn rfl ?_
        refine wl_pass 52 rfl (ps 82 rfl rfl rfl) ?_
        refine wl_pass 53 rfl (ps 82 rfl rfl rfl) ?_
        refine wl_pass 54 rfl (ps 82 rfl rfl rfl) ?_
        refine wl_v 55 rfl (v_pick (b := false) rfl rfl) gn rfl ?_
        refine wl_v 56 rfl (v_assign rfl) gn rfl ?_
        refine w_end 57 rfl ?_
        refine g_retR (c := q31c14) [.bool false] rfl Try.func31 rfl (.tmp rfl (.nil)) fun wr hLr => ?_
        have hMr : B.Loc w wr [] [St w []] := hLr.pick0 (sels [5] rfl)
        show trellislaw15_alive_R w F  r (.returned (packV [.bool false])) wr
        rw [h]
        exact ⟨rfl, hMr⟩
      ·have h := if_neg' hp92 h
       refine w_bool 67 rfl ((nei hp92)) ?_
       refine wl_pass 37 rfl (ps 67 rfl rfl rfl) ?_
       refine wl_pass 38 rfl (ps 67 rfl rfl rfl) ?_
       refine wl_pass 39 rfl (ps 67 rfl rfl rfl) ?_
       refine wl_v 40 rfl (v_pick (b := false) rfl rfl) gn rfl ?_
       refine wl_v 41 rfl (v_move rfl) gn rfl ?_
       refine wl_pass 42 rfl (ps 72 rfl rfl rfl) ?_
       refine wl_pass 43 rfl (ps 72 rfl rfl rfl) ?_
       refine wl_pass 44 rfl (ps 72 rfl rfl rfl) ?_
       refine wl_pass 45 rfl (ps 72 rfl rfl rfl) ?_
       refine wl_v 46 rfl (v_pick (b := false) rfl rfl) gn rfl ?_
       refine wl_v 47 rfl (v_move rfl) gn rfl ?_
       refine wl_pass 48 rfl (ps 78 rfl rfl rfl) ?_
       refine wl_pass 49 rfl (ps 78 rfl rfl rfl) ?_
       refine wl_v 50 rfl (v_pick (b := false) rfl rfl) gn rfl ?_
       refine wl_v 51 rfl (v_move rfl) gn rfl ?_
       refine wl_pass 52 rfl (ps 82 rfl rfl rfl) ?_
       refine wl_pass 53 rfl (ps 82 rfl rfl rfl) ?_
       refine wl_pass 54 rfl (ps 82 rfl rfl rfl) ?_
       refine wl_v 55 rfl (v_pick (b := false) rfl rfl) gn rfl ?_
       refine wl_v 56 rfl (v_assign rfl) gn rfl ?_
       refine w_end 57 rfl ?_
       refine g_retR (c := q31c14) [.bool false] rfl Try.func31 rfl (.tmp rfl (.nil)) fun wr hLr => ?_
       have hMr : B.Loc w wr [] [St w []] := hLr.pick0 (sels [5] rfl)
       show trellislaw15_alive_R w F  r (.returned (packV [.bool false])) wr
       rw [h]
       exact ⟨rfl, hMr⟩
     ·have h := if_neg' hp91 h
      refine w_bool 60 rfl ((nei hp91)) ?_
      refine wl_pass 30 rfl (ps 60 rfl rfl rfl) ?_
      refine wl_pass 31 rfl (ps 60 rfl rfl rfl) ?_
      refine wl_pass 32 rfl (ps 60 rfl rfl rfl) ?_
      refine wl_pass 33 rfl (ps 60 rfl rfl rfl) ?_
      refine wl_pass 34 rfl (ps 60 rfl rfl rfl) ?_
      refine wl_v 35 rfl (v_pick (b := false) rfl rfl) gn rfl ?_
      refine wl_v 36 rfl (v_move rfl) gn rfl ?_
      refine wl_pass 37 rfl (ps 67 rfl rfl rfl) ?_
      refine wl_pass 38 rfl (ps 67 rfl rfl rfl) ?_
      refine wl_pass 39 rfl (ps 67 rfl rfl rfl) ?_
      refine wl_v 40 rfl (v_pick (b := false) rfl rfl) gn rfl ?_
      refine wl_v 41 rfl (v_move rfl) gn rfl ?_
      refine wl_pass 42 rfl (ps 72 rfl rfl rfl) ?_
      refine wl_pass 43 rfl (ps 72 rfl rfl rfl) ?_
      refine wl_pass 44 rfl (ps 72 rfl rfl rfl) ?_
      refine wl_pass 45 rfl (ps 72 rfl rfl rfl) ?_
      refine wl_v 46 rfl (v_pick (b := false) rfl rfl) gn rfl ?_
      refine wl_v 47 rfl (v_move rfl) gn rfl ?_
      refine wl_pass 48 rfl (ps 78 rfl rfl rfl) ?_
      refine wl_pass 49 rfl (ps 78 rfl rfl rfl) ?_
      refine wl_v 50 rfl (v_pick (b := false) rfl rfl) gn rfl ?_
      refine wl_v 51 rfl (v_move rfl) gn rfl ?_
      refine wl_pass 52 rfl (ps 82 rfl rfl rfl) ?_
      refine wl_pass 53 rfl (ps 82 rfl rfl rfl) ?_
      refine wl_pass 54 rfl (ps 82 rfl rfl rfl) ?_
      refine wl_v 55 rfl (v_pick (b := false) rfl rfl) gn rfl ?_
      refine wl_v 56 rfl (v_assign rfl) gn rfl ?_
      refine w_end 57 rfl ?_
      refine g_retR (c := q31c14) [.bool false] rfl Try.func31 rfl (.tmp rfl (.nil)) fun wr hLr => ?_
      have hMr : B.Loc w wr [] [St w []] := hLr.pick0 (sels [5] rfl)
      show trellislaw15_alive_R w F  r (.returned (packV [.bool false])) wr
      rw [h]
      exact ⟨rfl, hMr⟩
    ·have h := if_neg' hp90 h
     refine w_bool 53 rfl ((nei hp90)) ?_
     refine wl_pass 23 rfl (ps 53 rfl rfl rfl) ?_
     refine wl_pass 24 rfl (ps 53 rfl rfl rfl) ?_
     refine wl_pass 25 rfl (ps 53 rfl rfl rfl) ?_
     refine wl_pass 26 rfl (ps 53 rfl rfl rfl) ?_
     refine wl_pass 27 rfl (ps 53 rfl rfl rfl) ?_
     refine wl_v 28 rfl (v_pick (b := false) rfl rfl) gn rfl ?_
     refine wl_v 29 rfl (v_move rfl) gn rfl ?_
     refine wl_pass 30 rfl (ps 60 rfl rfl rfl) ?_
     refine wl_pass 31 rfl (ps 60 rfl rfl rfl) ?_
     refine wl_pass 32 rfl (ps 60 rfl rfl rfl) ?_
     refine wl_pass 33 rfl (ps 60 rfl rfl rfl) ?_
     refine wl_pass 34 rfl (ps 60 rfl rfl rfl) ?_
     refine wl_v 35 rfl (v_pick (b := false) rfl rfl) gn rfl ?_
     refine wl_v 36 rfl (v_move rfl) gn rfl ?_
     refine wl_pass 37 rfl (ps 67 rfl rfl rfl) ?_
     refine wl_pass 38 rfl (ps 67 rfl rfl rfl) ?_
     refine wl_pass 39 rfl (ps 67 rfl rfl rfl) ?_
     refine wl_v 40 rfl (v_pick (b := false) rfl rfl) gn rfl ?_
     refine wl_v 41 rfl (v_move rfl) gn rfl ?_
     refine wl_pass 42 rfl (ps 72 rfl rfl rfl) ?_
     refine wl_pass 43 rfl (ps 72 rfl rfl rfl) ?_
     refine wl_pass 44 rfl (ps 72 rfl rfl rfl) ?_
     refine wl_pass 45 rfl (ps 72 rfl rfl rfl) ?_
     refine wl_v 46 rfl (v_pick (b := false) rfl rfl) gn rfl ?_
     refine wl_v 47 rfl (v_move rfl) gn rfl ?_
     refine wl_pass 48 rfl (ps 78 rfl rfl rfl) ?_
     refine wl_pass 49 rfl (ps 78 rfl rfl rfl) ?_
     refine wl_v 50 rfl (v_pick (b := false) rfl rfl) gn rfl ?_
     refine wl_v 51 rfl (v_move rfl) gn rfl ?_
     refine wl_pass 52 rfl (ps 82 rfl rfl rfl) ?_
     refine wl_pass 53 rfl (ps 82 rfl rfl rfl) ?_
     refine wl_pass 54 rfl (ps 82 rfl rfl rfl) ?_
     refine wl_v 55 rfl (v_pick (b := false) rfl rfl) gn rfl ?_
     refine wl_v 56 rfl (v_assign rfl) gn rfl ?_
     refine w_end 57 rfl ?_
     refine g_retR (c := q31c14) [.bool false] rfl Try.func31 rfl (.tmp rfl (.nil)) fun wr hLr => ?_
     have hMr : B.Loc w wr [] [St w []] := hLr.pick0 (sels [5] rfl)
     show trellislaw15_alive_R w F  r (.returned (packV [.bool false])) wr
     rw [h]
     exact ⟨rfl, hMr⟩
   ·have h := if_neg' hp89 h
    refine w_bool 46 rfl ((nei hp89)) ?_
    refine wl_pass 16 rfl (ps 46 rfl rfl rfl) ?_
    refine wl_pass 17 rfl (ps 46 rfl rfl rfl) ?_
    refine wl_pass 18 rfl (ps 46 rfl rfl rfl) ?_
    refine wl_pass 19 rfl (ps 46 rfl rfl rfl) ?_
    refine wl_pass 20 rfl (ps 46 rfl rfl rfl) ?_
    refine wl_v 21 rfl (v_pick (b := false) rfl rfl) gn rfl ?_
    refine wl_v 22 rfl (v_move rfl) gn rfl ?_
    refine wl_pass 23 rfl (ps 53 rfl rfl rfl) ?_
    refine wl_pass 24 rfl (ps 53 rfl rfl rfl) ?_
    refine wl_pass 25 rfl (ps 53 rfl rfl rfl) ?_
    refine wl_pass 26 rfl (ps 53 rfl rfl rfl) ?_
    refine wl_pass 27 rfl (ps 53 rfl rfl rfl) ?_
    refine wl_v 28 rfl (v_pick (b := false) rfl rfl) gn rfl ?_
    refine wl_v 29 rfl (v_move rfl) gn rfl ?_
    refine wl_pass 30 rfl (ps 60 rfl rfl rfl) ?_
    refine wl_pass 31 rfl (ps 60 rfl rfl rfl) ?_
    refine wl_pass 32 rfl (ps 60 rfl rfl rfl) ?_
    refine wl_pass 33 rfl (ps 60 rfl rfl rfl) ?_
    refine wl_pass 34 rfl (ps 60 rfl rfl rfl) ?_
    refine wl_v 35 rfl (v_pick (b := false) rfl rfl) gn rfl ?_
    refine wl_v 36 rfl (v_move rfl) gn rfl ?_
    refine wl_pass 37 rfl (ps 67 rfl rfl rfl) ?_
    refine wl_pass 38 rfl (ps 67 rfl rfl rfl) ?_
    refine wl_pass 39 rfl (ps 67 rfl rfl rfl) ?_
    refine wl_v 40 rfl (v_pick (b := false) rfl rfl) gn rfl ?_
    refine wl_v 41 rfl (v_move rfl) gn rfl ?_
    refine wl_pass 42 rfl (ps 72 rfl rfl rfl) ?_
    refine wl_pass 43 rfl (ps 72 rfl rfl rfl) ?_
    refine wl_pass 44 rfl (ps 72 rfl rfl rfl) ?_
    refine wl_pass 45 rfl (ps 72 rfl rfl rfl) ?_
    refine wl_v 46 rfl (v_pick (b := false) rfl rfl) gn rfl ?_
    refine wl_v 47 rfl (v_move rfl) gn rfl ?_
    refine wl_pass 48 rfl (ps 78 rfl rfl rfl) ?_
    refine wl_pass 49 rfl (ps 78 rfl rfl rfl) ?_
    refine wl_v 50 rfl (v_pick (b := false) rfl rfl) gn rfl ?_
    refine wl_v 51 rfl (v_move rfl) gn rfl ?_
    refine wl_pass 52 rfl (ps 82 rfl rfl rfl) ?_
    refine wl_pass 53 rfl (ps 82 rfl rfl rfl) ?_
    refine wl_pass 54 rfl (ps 82 rfl rfl rfl) ?_
    refine wl_v 55 rfl (v_pick (b := false) rfl rfl) gn rfl ?_
    refine wl_v 56 rfl (v_assign rfl) gn rfl ?_
    refine w_end 57 rfl ?_
    refine g_retR (c := q31c14) [.bool false] rfl Try.func31 rfl (.tmp rfl (.nil)) fun wr hLr => ?_
    have hMr : B.Loc w wr [] [St w []] := hLr.pick0 (sels [5] rfl)
    show trellislaw15_alive_R w F  r (.returned (packV [.bool false])) wr
    rw [h]
    exact ⟨rfl, hMr⟩
  ·have h := if_neg' hp87 h
   refine w_bool 39 rfl ((nei hp87)) ?_
   refine wl_pass 9 rfl (ps 39 rfl rfl rfl) ?_
   refine wl_pass 10 rfl (ps 39 rfl rfl rfl) ?_
   refine wl_pass 11 rfl (ps 39 rfl rfl rfl) ?_
   refine wl_pass 12 rfl (ps 39 rfl rfl rfl) ?_
   refine wl_pass 13 rfl (ps 39 rfl rfl rfl) ?_
   refine wl_v 14 rfl (v_pick (b := false) rfl rfl) gn rfl ?_
   refine wl_v 15 rfl (v_move rfl) gn rfl ?_
   refine wl_pass 16 rfl (ps 46 rfl rfl rfl) ?_
   refine wl_pass 17 rfl (ps 46 rfl rfl rfl) ?_
   refine wl_pass 18 rfl (ps 46 rfl rfl rfl) ?_
   refine wl_pass 19 rfl (ps 46 rfl rfl rfl) ?_
   refine wl_pass 20 rfl (ps 46 rfl rfl rfl) ?_
   refine wl_v 21 rfl (v_pick (b := false) rfl rfl) gn rfl ?_
   refine wl_v 22 rfl (v_move rfl) gn rfl ?_
   refine wl_pass 23 rfl (ps 53 rfl rfl rfl) ?_
   refine wl_pass 24 rfl (ps 53 rfl rfl rfl) ?_
   refine wl_pass 25 rfl (ps 53 rfl rfl rfl) ?_
   refine wl_pass 26 rfl (ps 53 rfl rfl rfl) ?_
   refine wl_pass 27 rfl (ps 53 rfl rfl rfl) ?_
   refine wl_v 28 rfl (v_pick (b := false) rfl rfl) gn rfl ?_
   refine wl_v 29 rfl (v_move rfl) gn rfl ?_
   refine wl_pass 30 rfl (ps 60 rfl rfl rfl) ?_
   refine wl_pass 31 rfl (ps 60 rfl rfl rfl) ?_
   refine wl_pass 32 rfl (ps 60 rfl rfl rfl) ?_
   refine wl_pass 33 rfl (ps 60 rfl rfl rfl) ?_
   refine wl_pass 34 rfl (ps 60 rfl rfl rfl) ?_
   refine wl_v 35 rfl (v_pick (b := false) rfl rfl) gn rfl ?_
   refine wl_v 36 rfl (v_move rfl) gn rfl ?_
   refine wl_pass 37 rfl (ps 67 rfl rfl rfl) ?_
   refine wl_pass 38 rfl (ps 67 rfl rfl rfl) ?_
   refine wl_pass 39 rfl (ps 67 rfl rfl rfl) ?_
   refine wl_v 40 rfl (v_pick (b := false) rfl rfl) gn rfl ?_
   refine wl_v 41 rfl (v_move rfl) gn rfl ?_
   refine wl_pass 42 rfl (ps 72 rfl rfl rfl) ?_
   refine wl_pass 43 rfl (ps 72 rfl rfl rfl) ?_
   refine wl_pass 44 rfl (ps 72 rfl rfl rfl) ?_
   refine wl_pass 45 rfl (ps 72 rfl rfl rfl) ?_
   refine wl_v 46 rfl (v_pick (b := false) rfl rfl) gn rfl ?_
   refine wl_v 47 rfl (v_move rfl) gn rfl ?_
   refine wl_pass 48 rfl (ps 78 rfl rfl rfl) ?_
   refine wl_pass 49 rfl (ps 78 rfl rfl rfl) ?_
   refine wl_v 50 rfl (v_pick (b := false) rfl rfl) gn rfl ?_
   refine wl_v 51 rfl (v_move rfl) gn rfl ?_
   refine wl_pass 52 rfl (ps 82 rfl rfl rfl) ?_
   refine wl_pass 53 rfl (ps 82 rfl rfl rfl) ?_
   refine wl_pass 54 rfl (ps 82 rfl rfl rfl) ?_
   refine wl_v 55 rfl (v_pick (b := false) rfl rfl) gn rfl ?_
   refine wl_v 56 rfl (v_assign rfl) gn rfl ?_
   refine w_end 57 rfl ?_
   refine g_retR (c := q31c14) [.bool false] rfl Try.func31 rfl (.tmp rfl (.nil)) fun wr hLr => ?_
   have hMr : B.Loc w wr [] [St w []] := hLr.pick0 (sels [5] rfl)
   show trellislaw15_alive_R w F  r (.returned (packV [.bool false])) wr
   rw [h]
   exact ⟨rfl, hMr⟩
 ·have h := if_neg' hp86 h
  refine w_bool 34 rfl ((nei hp86)) ?_
  refine wl_pass 4 rfl (ps 34 rfl rfl rfl) ?_
  refine wl_pass 5 rfl (ps 34 rfl rfl rfl) ?_
  refine wl_pass 6 rfl (ps 34 rfl rfl rfl) ?_
  refine wl_v 7 rfl (v_pick (b := false) rfl rfl) gn rfl ?_
  refine wl_v 8 rfl (v_move rfl) gn rfl ?_
  refine wl_pass 9 rfl (ps 39 rfl rfl rfl) ?_
  refine wl_pass 10 rfl (ps 39 rfl rfl rfl) ?_
  refine wl_pass 11 rfl (ps 39 rfl rfl rfl) ?_
  refine wl_pass 12 rfl (ps 39 rfl rfl rfl) ?_
  refine wl_pass 13 rfl (ps 39 rfl rfl rfl) ?_
  refine wl_v 14 rfl (v_pick (b := false) rfl rfl) gn rfl ?_
  refine wl_v 15 rfl (v_move rfl) gn rfl ?_
  refine wl_pass 16 rfl (ps 46 rfl rfl rfl) ?_
  refine wl_pass 17 rfl (ps 46 rfl rfl rfl) ?_
  refine wl_pass 18 rfl (ps 46 rfl rfl rfl) ?_
  refine wl_pass 19 rfl (ps 46 rfl rfl rfl) ?_
  refine wl_pass 20 rfl (ps 46 rfl rfl rfl) ?_
  refine wl_v 21 rfl (v_pick (b := false) rfl rfl) gn rfl ?_
  refine wl_v 22 rfl (v_move rfl) gn rfl ?_
  refine wl_pass 23 rfl (ps 53 rfl rfl rfl) ?_
  refine wl_pass 24 rfl (ps 53 rfl rfl rfl) ?_
  refine wl_pass 25 rfl (ps 53 rfl rfl rfl) ?_
  refine wl_pass 26 rfl (ps 53 rfl rfl rfl) ?_
  refine wl_pass 27 rfl (ps 53 rfl rfl rfl) ?_
  refine wl_v 28 rfl (v_pick (b := false) rfl rfl) gn rfl ?_
  refine wl_v 29 rfl (v_move rfl) gn rfl ?_
  refine wl_pass 30 rfl (ps 60 rfl rfl rfl) ?_
  refine wl_pass 31 rfl (ps 60 rfl rfl rfl) ?_
  refine wl_pass 32 rfl (ps 60 rfl rfl rfl) ?_
  refine wl_pass 33 rfl (ps 60 rfl rfl rfl) ?_
  refine wl_pass 34 rfl (ps 60 rfl rfl rfl) ?_
  refine wl_v 35 rfl (v_pick (b := false) rfl rfl) gn rfl ?_
  refine wl_v 36 rfl (v_move rfl) gn rfl ?_
  refine wl_pass 37 rfl (ps 67 rfl rfl rfl) ?_
  refine wl_pass 38 rfl (ps 67 rfl rfl rfl) ?_
  refine wl_pass 39 rfl (ps 67 rfl rfl rfl) ?_
  refine wl_v 40 rfl (v_pick (b := false) rfl rfl) gn rfl ?_
  refine wl_v 41 rfl (v_move rfl) gn rfl ?_
  refine wl_pass 42 rfl (ps 72 rfl rfl rfl) ?_
  refine wl_pass 43 rfl (ps 72 rfl rfl rfl) ?_
  refine wl_pass 44 rfl (ps 72 rfl rfl rfl) ?_
  refine wl_pass 45 rfl (ps 72 rfl rfl rfl) ?_
  refine wl_v 46 rfl (v_pick (b := false) rfl rfl) gn rfl ?_
  refine wl_v 47 rfl (v_move rfl) gn rfl ?_
  refine wl_pass 48 rfl (ps 78 rfl rfl rfl) ?_
  refine wl_pass 49 rfl (ps 78 rfl rfl rfl) ?_
  refine wl_v 50 rfl (v_pick (b := false) rfl rfl) gn rfl ?_
  refine wl_v 51 rfl (v_move rfl) gn rfl ?_
  refine wl_pass 52 rfl (ps 82 rfl rfl rfl) ?_
  refine wl_pass 53 rfl (ps 82 rfl rfl rfl) ?_
  refine wl_pass 54 rfl (ps 82 rfl rfl rfl) ?_
  refine wl_v 55 rfl (v_pick (b := false) rfl rfl) gn rfl ?_
  refine wl_v 56 rfl (v_assign rfl) gn rfl ?_
  refine w_end 57 rfl ?_
  refine g_retR (c := q31c14) [.bool false] rfl Try.func31 rfl (.tmp rfl (.nil)) fun wr hLr => ?_
  have hMr : B.Loc w wr [] [St w []] := hLr.pick0 (sels [5] rfl)
  show trellislaw15_alive_R w F  r (.returned (packV [.bool false])) wr
  rw [h]
  exact ⟨rfl, hMr⟩
end Go.Proofs.Ytmekgfcfooghnaa.K
