/- What the machine's calls do, function by function, printed by my own tool. Condition of each: its relation holds of the answer, and what is handed in lies in memory as told. -/
import Derived.Test.YtmekgfcfooghnaaK0
set_option linter.unusedVariables false
set_option maxRecDepth 100000
set_option maxHeartbeats 4000000
namespace Go.Proofs.Ytmekgfcfooghnaa.K
open Go.Proofs.Ytmekgfcfooghnaa.B Go.Proofs.Ytmekgfcfooghnaa.R Go.RowKit
noncomputable abbrev q44c0 : Code := bodyOf Try.f44
noncomputable abbrev q44c1 : Code := Code.fst q44c0
noncomputable abbrev q44c2 : Code := Code.snd q44c0
noncomputable abbrev q44c3 : Code := Code.fst q44c2
noncomputable abbrev q44c4 : Code := Code.snd q44c2
noncomputable abbrev q44c5 : Code := Code.fst q44c4
noncomputable abbrev q44c6 : Code := Code.snd q44c4
noncomputable abbrev q44c7 : Code := Code.fst q44c6
noncomputable abbrev q44c8 : Code := Code.snd q44c6
noncomputable abbrev q44c9 : Code := Code.fst q44c7
noncomputable abbrev q44c10 : Code := Code.snd q44c7
noncomputable abbrev q44c11 : Code := Code.fst q44c10
noncomputable abbrev q44c12 : Code := Code.fst q44c11
noncomputable abbrev q44c13 : Code := Code.fst q44c12
noncomputable abbrev q44c14 : Code := Code.snd q44c12
noncomputable abbrev q44c15 : Code := Code.fst q44c14
noncomputable abbrev q44c16 : Code := Code.snd q44c14
noncomputable abbrev q44c17 : Code := Code.fst q44c15
noncomputable abbrev q44c18 : Code := Code.snd q44c15
noncomputable abbrev q44c19 : Code := Code.fst q44c16
noncomputable abbrev q44c20 : Code := Code.snd q44c16
noncomputable abbrev q44c21 : Code := Code.fst q44c19
noncomputable abbrev q44c22 : Code := Code.fst q44c21
noncomputable abbrev q44c23 : Code := Code.snd q44c21
noncomputable abbrev q44c24 : Code := Code.fst q44c23
noncomputable abbrev q44c25 : Code := Code.snd q44c23
noncomputable abbrev q44c26 : Code := Code.fst q44c25
noncomputable abbrev q44c27 : Code := Code.snd q44c25
noncomputable abbrev q44c28 : Code := Code.fst q44c26
noncomputable abbrev q44c29 : Code := Code.snd q44c26
noncomputable abbrev q44c30 : Code := Code.fst q44c29
noncomputable abbrev q44c31 : Code := Code.snd q44c29
noncomputable abbrev q44c32 : Code := Code.fst q44c27
noncomputable abbrev q44c33 : Code := Code.snd q44c27
noncomputable abbrev q44c34 : Code := Code.fst q44c32
noncomputable abbrev q44c35 : Code := Code.snd q44c32
noncomputable abbrev q44c36 : Code := Code.fst q44c35
noncomputable abbrev q44c37 : Code := Code.snd q44c35
noncomputable abbrev q44c38 : Code := Code.fst q44c36
noncomputable abbrev q44c39 : Code := Code.snd q44c36
noncomputable abbrev q44c40 : Code := Code.fst q44c33
noncomputable abbrev q44c41 : Code := Code.snd q44c33
noncomputable abbrev q44c42 : Code := Code.fst q44c41
noncomputable abbrev q44c43 : Code := Code.fst q44c42
noncomputable abbrev q44c44 : Code := Code.fst q44c43
noncomputable abbrev q44c45 : Code := Code.snd q44c43
noncomputable abbrev q44c46 : Code := Code.fst q44c44
noncomputable abbrev q44c47 : Code := Code.snd q44c44
noncomputable abbrev q44c48 : Code := Code.fst q44c47
noncomputable abbrev q44c49 : Code := Code.snd q44c47
noncomputable abbrev q44c50 : Code := Code.fst q44c45
noncomputable abbrev q44c51 : Code := Code.fst q44c50
noncomputable abbrev q44c52 : Code := Code.snd q44c50
noncomputable abbrev q44c53 : Code := Code.fst q44c8
noncomputable abbrev q44c54 : Code := Code.snd q44c8
noncomputable abbrev q44c55 : Code := Code.fst q44c54
noncomputable abbrev q44c56 : Code := Code.snd q44c54
noncomputable abbrev q44c57 : Code := Code.fst q44c30
noncomputable abbrev q44c58 : Code := Code.snd q44c30
abbrev tree_plant_R (w : World) (F : Nat → Prop) (r : tree_forest) : Ending → World → Prop := fun e w' => ∃ A1 : Option Addr, ∃ n1 : Nat, ∃ c1 : Nat, ∃ A2 : Option Addr, ∃ n2 : Nat, ∃ c2 : Nat, ∃ A0 : Option Addr, ∃ n0 : Nat, ∃ c0 : Nat, e = .returned (.agg #[.slice A0 n0 c0, .slice A1 n1 c1, .slice A2 n2 c2, .bool r.ok]) ∧ B.Loc w w' [.own (.slice A1 n1 c1) 3 1 n1 (r.parent.flatMap (eI .i64)), .own (.slice A2 n2 c2) 3 1 n2 (r.end_.flatMap (eI .i64))] [St w []] ∧ Ow w.heap.size A1 n1 c1 r.parent ∧ Ow w.heap.size A2 n2 c2 r.end_ ∧ Rw k_api_Node w' (Nw w w' F [.own (.slice A1 n1 c1) 3 1 n1 (r.parent.flatMap (eI .i64)), .own (.slice A2 n2 c2) 3 1 n2 (r.end_.flatMap (eI .i64))]) A0 n0 c0 r.nodes
noncomputable abbrev tree_plant_C (w : World) (F : Nat → Prop) (r : tree_forest) : Cx := ⟨Try.prog, 44, Try.f44, 100, tree_plant_R w F  r, w⟩
theorem tree_plant_calls (w : World) (F : Nat → Prop) (x1 : List api_Node) (A2 : Option Addr) (n3 : Nat) (c4 : Nat) (h5 : Rw k_api_Node w F A2 n3 c4 x1) (hF : ∀ b, F b → b < w.heap.size ∧ ∀ o ∈ ([] : List (List Nat)), b ∉ o) (hL0 : B.Loc w w [] [Sm w.heap.size F w [], St w []]) (r : tree_forest) (h : tree_plant x1 r) : Calls Try.prog 44 #[.slice A2 n3 c4] w (tree_plant_R w F  r) := by
 unfold tree_plant at h
 have h5 := Rw.into (bs := []) hF h5
 refine calls_of_Loc (vs := [.slice A2 n3 c4]) 100 Try.func44 rfl Try.ntmps44 rfl hL0 ?_
 show G (tree_plant_C w F r) _ _ _ _
 refine g_seq (c := q44c0) rfl ?_
 refine g_region (c := q44c1) rfl rfl ?_
 refine wl_s 0 rfl (s_alloc [.slice none 0 0, .slice none 0 0, .slice none 0 0, .bool false] zr_32 rfl fun gb6 => ?_) gn
 refine w_end 1 rfl ?_
 refine g_seq (c := q44c2) rfl ?_
 obtain ⟨hb8, h⟩ := h
 obtain ⟨x12, hv13, h⟩ := h
 obtain ⟨x17, hv18, h⟩ := h
 have d1 : ∀ (gb76 : Nat) (A77 : Option Addr) (n78 : Nat) (c79 : Nat) (h80 : Ow w.heap.size A77 n78 c79 x12) (A81 : Option Addr) (n82 : Nat) (c83 : Nat) (h84 : Ow w.heap.size A81 n82 c83 x17), G (tree_plant_C w F r) [.code q44c4] [(0, .slice A2 n3 c4), (2, .pointer (some ⟨gb6, 0, none⟩)), (3, .pointer (some ⟨gb76, 0, none⟩))] [.box gb76 32 [.slice A2 n3 c4, .slice A77 n78 c79, .slice A81 n82 c83, .bool false], .own (.slice A81 n82 c83) 3 1 n82 (x17.flatMap (eI .i64)), .own (.slice A77 n78 c79) 3 1 n78 (x12.flatMap (eI .i64)), .box gb6 32 [.slice none 0 0, .slice none 0 0, .slice none 0 0, .bool false]] [Sm w.heap.size F w [], St w []] := by
  intro gb76 A77 n78 c79 h80 A81 n82 c83 h84
  refine g_seq (c := q44c4) rfl ?_
  refine g_region (c := q44c5) rfl rfl ?_
  refine wl_v 0 rfl (v_assign rfl) gn rfl ?_
  refine wl_v 1 rfl (v_assign rfl) gn rfl ?_
  refine w_end 2 rfl ?_
  refine g_seq (c := q44c6) rfl ?_
  refine g_seq (c := q44c7) rfl ?_
  refine g_region (c := q44c9) rfl rfl ?_
  refine wl_v 0 rfl (v_move rfl) gn rfl ?_
  refine wl_v 1 rfl (v_lenQ un_22 rfl h5.hq) gn rfl ?_
  refine wl_v 2 rfl (v_move rfl) gn rfl ?_
  refine w_end 3 rfl ?_
  refine g_block (c := q44c10) rfl ?_
  refine g_loop (c := q44c11) rfl ?_
  have key1 : ∀ s, Rounds (fun (s : (List Int) × (List Int) × Int × (List Int) × (List Int)) o => tree_plant_b1 x1 s.1 s.2.1 s.2.2.1 s.2.2.2.1 s.2.2.2.2 o) s r → (fun (s : (List Int) × (List Int) × Int × (List Int) × (List Int)) => ∀ (A346 : Option Addr) (n347 : Nat) (c348 : Nat) (h349 : Ow w.heap.size A346 n347 c348 s.1) (A351 : Option Addr) (n352 : Nat) (c353 : Nat) (h354 : Ow w.heap.size A351 n352 c353 s.2.1) (h357 : Ow w.heap.size A77 n78 c79 s.2.2.2.1) (h359 : Ow w.heap.size A81 n82 c83 s.2.2.2.2), G (tree_plant_C w F r) [.code q44c12, .inLoop q44c12, .inBlock 0, .code q44c8] [(2, .pointer (some ⟨gb6, 0, none⟩)), (3, .pointer (some ⟨gb76, 0, none⟩)), (4, .slice A346 n347 c348), (5, .slice A351 n352 c353), (16, .slice A2 n3 c4), (17, .int .i64 (x1.length : Int)), (18, .int .i64 s.2.2.1)] [.own (.slice A346 n347 c348) 3 1 n347 (s.1.flatMap (eI .i64)), .own (.slice A351 n352 c353) 3 1 n352 (s.2.1.flatMap (eI .i64)), .box gb76 32 [.slice A2 n3 c4, .slice A77 n78 c79, .slice A81 n82 c83, .bool false], .own (.slice A81 n82 c83) 3 1 n82 (s.2.2.2.2.flatMap (eI .i64)), .own (.slice A77 n78 c79) 3 1 n78 (s.2.2.2.1.flatMap (eI .i64)), .box gb6 32 [.slice none 0 0, .slice none 0 0, .slice none 0 0, .bool false]] [Sm w.heap.size F w [], St w []]) s := by
   intro s hs
   refine Rounds.ind (mot := (fun (s : (List Int) × (List Int) × Int × (List Int) × (List Int)) => ∀ (A346 : Option Addr) (n347 : Nat) (c348 : Nat) (h349 : Ow w.heap.size A346 n347 c348 s.1) (A351 : Option Addr) (n352 : Nat) (c353 : Nat) (h354 : Ow w.heap.size A351 n352 c353 s.2.1) (h357 : Ow w.heap.size A77 n78 c79 s.2.2.2.1) (h359 : Ow w.heap.size A81 n82 c83 s.2.2.2.2), G (tree_plant_C w F r) [.code q44c12, .inLoop q44c12, .inBlock 0, .code q44c8] [(2, .pointer (some ⟨gb6, 0, none⟩)), (3, .pointer (some ⟨gb76, 0, none⟩)), (4, .slice A346 n347 c348), (5, .slice A351 n352 c353), (16, .slice A2 n3 c4), (17, .int .i64 (x1.length : Int)), (18, .int .i64 s.2.2.1)] [.own (.slice A346 n347 c348) 3 1 n347 (s.1.flatMap (eI .i64)), .own (.slice A351 n352 c353) 3 1 n352 (s.2.1.flatMap (eI .i64)), .box gb76 32 [.slice A2 n3 c4, .slice A77 n78 c79, .slice A81 n82 c83, .bool false], .own (.slice A81 n82 c83) 3 1 n82 (s.2.2.2.2.flatMap (eI .i64)), .own (.slice A77 n78 c79) 3 1 n78 (s.2.2.2.1.flatMap (eI .i64)), .box gb6 32 [.slice none 0 0, .slice none 0 0, .slice none 0 0, .bool false]] [Sm w.heap.size F w [], St w []])) ?_ hs
   clear hs s
   intro s o1 h hO1
   obtain ⟨x345, x350, x355, x356, x358⟩ := s
   show ∀ (A346 : Option Addr) (n347 : Nat) (c348 : Nat) (h349 : Ow w.heap.size A346 n347 c348 x345) (A351 : Option Addr) (n352 : Nat) (c353 : Nat) (h354 : Ow w.heap.size A351 n352 c353 x350) (h357 : Ow w.heap.size A77 n78 c79 x356) (h359 : Ow w.heap.size A81 n82 c83 x358), G (tree_plant_C w F r) [.code q44c12, .inLoop q44c12, .inBlock 0, .code q44c8] [(2, .pointer (some ⟨gb6, 0, none⟩)), (3, .pointer (some ⟨gb76, 0, none⟩)), (4, .slice A346 n347 c348), (5, .slice A351 n352 c353), (16, .slice A2 n3 c4), (17, .int .i64 (x1.length : Int)), (18, .int .i64 x355)] [.own (.slice A346 n347 c348) 3 1 n347 (x345.flatMap (eI .i64)), .own (.slice A351 n352 c353) 3 1 n352 (x350.flatMap (eI .i64)), .box gb76 32 [.slice A2 n3 c4, .slice A77 n78 c79, .slice A81 n82 c83, .bool false], .own (.slice A81 n82 c83) 3 1 n82 (x358.flatMap (eI .i64)), .own (.slice A77 n78 c79) 3 1 n78 (x356.flatMap (eI .i64)), .box gb6 32 [.slice none 0 0, .slice none 0 0, .slice none 0 0, .bool false]] [Sm w.heap.size F w [], St w []]
   intro A346 n347 c348 h349 A351 n352 c353 h354 h357 h359
   have h : tree_plant_b1 x1 x345 x350 x355 x356 x358 o1 := h
   unfold tree_plant_b1 at h
   refine g_seq (c := q44c12) rfl ?_
   refine g_region (c := q44c13) rfl rfl ?_
   refine wl_v 0 rfl (v_bin rfl rfl rfl) gn rfl ?_
   refine w_end 1 rfl ?_
   refine g_seq (c := q44c14) rfl ?_
   by_cases hp630 : x355 < (x1.length : Int)
   ·have h := if_pos' hp630 h
    refine g_true (c := q44c15) rfl _ rfl ((decide_eq_true hp630)) ?_
    refine g_skip (c := q44c17) rfl ?_
    refine g_seq (c := q44c16) rfl ?_
    refine g_block (c := q44c19) rfl ?_
    refine g_seq (c := q44c21) rfl ?_
    refine g_region (c := q44c22) rfl rfl ?_
    refine wl_v 0 rfl (v_move rfl) gn rfl ?_
    obtain ⟨hb631, h⟩ := h
    have hr632 := Rw.readF (s := Sm w.heap.size F w []) (hl := hl_api_Node) (h1 := h1_api_Node) h5 hb631
    refine wl_v 1 rfl (v_idxR (s := Sm w.heap.size F w []) slE_22 rfl rfl h5 hb631) gn rfl ?_
    refine wl_v 2 rfl (v_ldA (Sm w.heap.size F w []) ld_39 rfl hr632 rfl (me 0 rfl)) gn rfl ?_
    refine wl_s 3 rfl (s_alloc [.string (⟨#[]⟩ : ByteArray), .bool false, .string (⟨#[]⟩ : ByteArray), .int .i64 0, .int .i64 0, .int .i64 0, .int .i64 0] zr_39 rfl fun gb633 => ?_) gn
    refine wl_v 4 rfl (v_assign rfl) gn rfl ?_
    refine wl_s 5 rfl (s_stB (vs := [.string ((ix x1 x355).name), .bool ((ix x1 x355).named), .string ((ix x1 x355).field), .int .i64 ((ix x1 x355).from_), .int .i64 ((ix x1 x355).to), .int .i64 ((ix x1 x355).kids), .int .i64 ((ix x1 x355).leaf)]) (cs' := [.string ((ix x1 x355).name), .bool ((ix x1 x355).named), .string ((ix x1 x355).field), .int .i64 ((ix x1 x355).from_), .int .i64 ((ix x1 x355).to), .int .i64 ((ix x1 x355).kids), .int .i64 ((ix x1 x355).leaf)]) (M' := [.box gb633 39 [.string ((ix x1 x355).name), .bool ((ix x1 x355).named), .string ((ix x1 x355).field), .int .i64 ((ix x1 x355).from_), .int .i64 ((ix x1 x355).to), .int .i64 ((ix x1 x355).kids), .int .i64 ((ix x1 x355).leaf)], .own (.slice A346 n347 c348) 3 1 n347 (x345.flatMap (eI .i64)), .own (.slice A351 n352 c353) 3 1 n352 (x350.flatMap (eI .i64)), .box gb76 32 [.slice A2 n3 c4, .slice A77 n78 c79, .slice A81 n82 c83, .bool false], .own (.slice A81 n82 c83) 3 1 n82 (x358.flatMap (eI .i64)), .own (.slice A77 n78 c79) 3 1 n78 (x356.flatMap (eI .i64)), .box gb6 32 [.slice none 0 0, .slice none 0 0, .slice none 0 0, .bool false]]) 0 sz_39 rfl rfl rfl rfl rfl rfl rfl rfl rfl ?_) gn
    refine w_end 6 rfl ?_
    refine g_seq (c := q44c23) rfl ?_
    refine g_region (c := q44c24) rfl rfl ?_
    refine wl_v 0 rfl (v_fldB fo_32_1 rfl) gn rfl ?_
    refine wl_v 1 rfl (v_ldB1 3 ld_23 rfl rfl rfl) gn rfl ?_
    refine wl_v 2 rfl (v_move rfl) gn rfl ?_
    obtain ⟨hb635, h⟩ := h
    refine wl_v 3 rfl (v_idxO slE_23 rfl rfl h357 hb635) gn rfl ?_
    obtain ⟨x636, hv637, h⟩ := h
    refine wl_s 4 rfl (s_stF (enc := (eI .i64)) (o := 0) (z := (-1)) (vs := [.int .i64 (-1)]) (i := x355) 5 (hlI .i64) sz_3 rfl rfl rfl rfl rfl h357 hb635 rfl rfl rfl hv637 fun h638 => ?_) gn
    refine w_end 5 rfl ?_
    refine g_seq (c := q44c25) rfl ?_
    refine g_seq (c := q44c26) rfl ?_
    refine g_region (c := q44c28) rfl rfl ?_
    refine wl_v 0 rfl (v_move rfl) gn rfl ?_
    refine wl_v 1 rfl (v_lenQ un_23 rfl h349.hq) gn rfl ?_
    refine wl_v 2 rfl (v_bin rfl rfl rfl) gn rfl ?_
    refine w_end 3 rfl ?_
    have j2 : ∀ (x652 : List Int) (x654 : List Int) (h : tree_plant_j2 x1 x355 x358 x345 x652 x654 o1) (h653 : Ow w.heap.size A351 n352 c353 x652) (h655 : Ow w.heap.size A77 n78 c79 x654), G (tree_plant_C w F r) [.code q44c27, .inBlock 1, .code q44c20, .inLoop q44c12, .inBlock 0, .code q44c8] [(2, .pointer (some ⟨gb6, 0, none⟩)), (3, .pointer (some ⟨gb76, 0, none⟩)), (4, .slice A346 n347 c348), (5, .slice A351 n352 c353), (6, .int .i64 x355), (7, .pointer (some ⟨gb633, 0, none⟩)), (16, .slice A2 n3 c4), (17, .int .i64 (x1.length : Int)), (18, .int .i64 x355)] [.box gb633 39 [.string ((ix x1 x355).name), .bool ((ix x1 x355).named), .string ((ix x1 x355).field), .int .i64 ((ix x1 x355).from_), .int .i64 ((ix x1 x355).to), .int .i64 ((ix x1 x355).kids), .int .i64 ((ix x1 x355).leaf)], .own (.slice A346 n347 c348) 3 1 n347 (x345.flatMap (eI .i64)), .own (.slice A351 n352 c353) 3 1 n352 (x652.flatMap (eI .i64)), .box gb76 32 [.slice A2 n3 c4, .slice A77 n78 c79, .slice A81 n82 c83, .bool false], .own (.slice A81 n82 c83) 3 1 n82 (x358.flatMap (eI .i64)), .own (.slice A77 n78 c79) 3 1 n78 (x654.flatMap (eI .i64)), .box gb6 32 [.slice none 0 0, .slice none 0 0, .slice none 0 0, .bool false]] [Sm w.heap.size F w [], St w []] := by
     intro x652 x654 h h653 h655
     unfold tree_plant_j2 at h
     refine g_seq (c := q44c27) rfl ?_
     refine g_seq (c := q44c32) rfl ?_
     refine g_region (c := q44c34) rfl rfl ?_
     refine wl_v 0 rfl (v_fldB fo_39_5 rfl) gn rfl ?_
     refine wl_v 1 rfl (v_ldB1 0 ld_3 rfl rfl rfl) gn rfl ?_
     refine wl_v 2 rfl (v_bin rfl rfl rfl) gn rfl ?_
     refine w_end 3 rfl ?_
     by_cases hp656 : (ix x1 x355).kids < 0
     ·have h := if_pos' hp656 h
      refine g_true (c := q44c35) rfl _ rfl ((decide_eq_true hp656)) ?_
      refine g_seq (c := q44c36) rfl ?_
      refine g_region (c := q44c38) rfl rfl ?_
      refine wl_v 0 rfl (v_ldB [.slice A2 n3 c4, .slice A77 n78 c79, .slice A81 n82 c83, .bool false] 3 ld_32 rfl rfl rfl rfl) gn rfl ?_
      refine wl_s 1 rfl (s_stB (vs := [.slice A2 n3 c4, .slice A77 n78 c79, .slice A81 n82 c83, .bool false]) (cs' := [.slice A2 n3 c4, .slice A77 n78 c79, .slice A81 n82 c83, .bool false]) (M' := [.box gb633 39 [.string ((ix x1 x355).name), .bool ((ix x1 x355).named), .string ((ix x1 x355).field), .int .i64 ((ix x1 x355).from_), .int .i64 ((ix x1 x355).to), .int .i64 ((ix x1 x355).kids), .int .i64 ((ix x1 x355).leaf)], .own (.slice A346 n347 c348) 3 1 n347 (x345.flatMap (eI .i64)), .own (.slice A351 n352 c353) 3 1 n352 (x652.flatMap (eI .i64)), .box gb76 32 [.slice A2 n3 c4, .slice A77 n78 c79, .slice A81 n82 c83, .bool false], .own (.slice A81 n82 c83) 3 1 n82 (x358.flatMap (eI .i64)), .own (.slice A77 n78 c79) 3 1 n78 (x654.flatMap (eI .i64)), .box gb6 32 [.slice A2 n3 c4, .slice A77 n78 c79, .slice A81 n82 c83, .bool false]]) 6 sz_32 rfl rfl rfl rfl rfl rfl rfl rfl rfl ?_) gn
      refine w_end 2 rfl ?_
      have h := Out.inr hO1 h
      refine g_retR (c := q44c39) [.agg #[.slice A2 n3 c4, .slice A77 n78 c79, .slice A81 n82 c83, .bool false]] rfl Try.func44 rfl (.cell (cs := [.slice A2 n3 c4, .slice A77 n78 c79, .slice A81 n82 c83, .bool false]) (us := [.slice A2 n3 c4, .slice A77 n78 c79, .slice A81 n82 c83, .bool false]) 6 rfl ld_32 rfl rfl rfl (.nil)) fun wr hLr => ?_
      have hMr : B.Loc w wr [.own (.slice A77 n78 c79) 3 1 n78 (x654.flatMap (eI .i64)), .own (.slice A81 n82 c83) 3 1 n82 (x358.flatMap (eI .i64))] [St w []] := hLr.pick (rest := [.box gb633 39 [.string ((ix x1 x355).name), .bool ((ix x1 x355).named), .string ((ix x1 x355).field), .int .i64 ((ix x1 x355).from_), .int .i64 ((ix x1 x355).to), .int .i64 ((ix x1 x355).kids), .int .i64 ((ix x1 x355).leaf)], .own (.slice A346 n347 c348) 3 1 n347 (x345.flatMap (eI .i64)), .own (.slice A351 n352 c353) 3 1 n352 (x652.flatMap (eI .i64)), .box gb76 32 [.slice A2 n3 c4, .slice A77 n78 c79, .slice A81 n82 c83, .bool false], .box gb6 32 [.slice A2 n3 c4, .slice A77 n78 c79, .slice A81 n82 c83, .bool false]]) (perm_of_idx [5, 4] [0, 1, 2, 3, 6] rfl rfl (by kernel_rfl)) (sels [1] rfl)
      have hMi : ∀ e ∈ ([.own (.slice A77 n78 c79) 3 1 n78 (x654.flatMap (eI .i64)), .own (.slice A81 n82 c83) 3 1 n82 (x358.flatMap (eI .i64))] : List Ent), e ∈ ([.box gb633 39 [.string ((ix x1 x355).name), .bool ((ix x1 x355).named), .string ((ix x1 x355).field), .int .i64 ((ix x1 x355).from_), .int .i64 ((ix x1 x355).to), .int .i64 ((ix x1 x355).kids), .int .i64 ((ix x1 x355).leaf)], .own (.slice A346 n347 c348) 3 1 n347 (x345.flatMap (eI .i64)), .own (.slice A351 n352 c353) 3 1 n352 (x652.flatMap (eI .i64)), .box gb76 32 [.slice A2 n3 c4, .slice A77 n78 c79, .slice A81 n82 c83, .bool false], .own (.slice A81 n82 c83) 3 1 n82 (x358.flatMap (eI .i64)), .own (.slice A77 n78 c79) 3 1 n78 (x654.flatMap (eI .i64)), .box gb6 32 [.slice A2 n3 c4, .slice A77 n78 c79, .slice A81 n82 c83, .bool false]] : List Ent) := sels [5, 4] rfl
      show tree_plant_R w F  r (.returned (packV [.agg #[.slice A2 n3 c4, .slice A77 n78 c79, .slice A81 n82 c83, .bool false]])) wr
      rw [h]
      exact ⟨A77, n78, c79, A81, n82, c83, A2, n3, c4, rfl, hMr, h655, h359, (hLr.outR (s := Sm w.heap.size F w []) hMi (me 0 rfl) Sm.ok h5)⟩
     ·have h := if_neg' hp656 h
      refine g_false (c := q44c35) rfl _ rfl ((decide_eq_false hp656)) ?_
      refine g_skip (c := q44c37) rfl ?_
      refine g_seq (c := q44c33) rfl ?_
      obtain ⟨x663, hv664, h⟩ := h
      obtain ⟨hb665, h⟩ := h
      obtain ⟨x672, hv673, h⟩ := h
      obtain ⟨hb674, h⟩ := h
      have d4 : ∀ (A729 : Option Addr) (n730 : Nat) (c731 : Nat) (h732 : Ow w.heap.size A729 n730 c731 x663) (A733 : Option Addr) (n734 : Nat) (c735 : Nat) (h736 : Ow w.heap.size A733 n734 c735 x672), G (tree_plant_C w F r) [.code q44c41, .inBlock 1, .code q44c20, .inLoop q44c12, .inBlock 0, .code q44c8] [(2, .pointer (some ⟨gb6, 0, none⟩)), (3, .pointer (some ⟨gb76, 0, none⟩)), (4, .slice A729 n730 c731), (5, .slice A733 n734 c735), (6, .int .i64 x355), (16, .slice A2 n3 c4), (17, .int .i64 (x1.length : Int)), (18, .int .i64 x355)] [.own (.slice A729 n730 c731) 3 1 n730 (x663.flatMap (eI .i64)), .own (.slice A733 n734 c735) 3 1 n734 (x672.flatMap (eI .i64)), .box gb76 32 [.slice A2 n3 c4, .slice A77 n78 c79, .slice A81 n82 c83, .bool false], .own (.slice A81 n82 c83) 3 1 n82 (x358.flatMap (eI .i64)), .own (.slice A77 n78 c79) 3 1 n78 (x654.flatMap (eI .i64)), .box gb6 32 [.slice none 0 0, .slice none 0 0, .slice none 0 0, .bool false]] [Sm w.heap.size F w [], St w []] := by
       intro A729 n730 c731 h732 A733 n734 c735 h736
       refine g_block (c := q44c41) rfl ?_
       refine g_loop (c := q44c42) rfl ?_
       have key3 : ∀ s, Rounds (fun (s : (List Int) × (List Int) × (List Int)) o => tree_plant_b3 x355 x654 s.1 s.2.1 s.2.2 o) s o1 → (fun (s : (List Int) × (List Int) × (List Int)) => ∀ (A767 : Option Addr) (n768 : Nat) (c769 : Nat) (h770 : Ow w.heap.size A767 n768 c769 s.1) (A772 : Option Addr) (n773 : Nat) (c774 : Nat) (h775 : Ow w.heap.size A772 n773 c774 s.2.1) (h777 : Ow w.heap.size A81 n82 c83 s.2.2), G (tree_plant_C w F r) [.code q44c43, .inLoop q44c43, .inBlock 2, .inBlock 1, .code q44c20, .inLoop q44c12, .inBlock 0, .code q44c8] [(2, .pointer (some ⟨gb6, 0, none⟩)), (3, .pointer (some ⟨gb76, 0, none⟩)), (4, .slice A767 n768 c769), (5, .slice A772 n773 c774), (6, .int .i64 x355), (16, .slice A2 n3 c4), (17, .int .i64 (x1.length : Int)), (18, .int .i64 x355)] [.own (.slice A767 n768 c769) 3 1 n768 (s.1.flatMap (eI .i64)), .own (.slice A772 n773 c774) 3 1 n773 (s.2.1.flatMap (eI .i64)), .box gb76 32 [.slice A2 n3 c4, .slice A77 n78 c79, .slice A81 n82 c83, .bool false], .own (.slice A81 n82 c83) 3 1 n82 (s.2.2.flatMap (eI .i64)), .own (.slice A77 n78 c79) 3 1 n78 (x654.flatMap (eI .i64)), .box gb6 32 [.slice none 0 0, .slice none 0 0, .slice none 0 0, .bool false]] [Sm w.heap.size F w [], St w []]) s := by
        intro s hs
        refine Rounds.ind (mot := (fun (s : (List Int) × (List Int) × (List Int)) => ∀ (A767 : Option Addr) (n768 : Nat) (c769 : Nat) (h770 : Ow w.heap.size A767 n768 c769 s.1) (A772 : Option Addr) (n773 : Nat) (c774 : Nat) (h775 : Ow w.heap.size A772 n773 c774 s.2.1) (h777 : Ow w.heap.size A81 n82 c83 s.2.2), G (tree_plant_C w F r) [.code q44c43, .inLoop q44c43, .inBlock 2, .inBlock 1, .code q44c20, .inLoop q44c12, .inBlock 0, .code q44c8] [(2, .pointer (some ⟨gb6, 0, none⟩)), (3, .pointer (some ⟨gb76, 0, none⟩)), (4, .slice A767 n768 c769), (5, .slice A772 n773 c774), (6, .int .i64 x355), (16, .slice A2 n3 c4), (17, .int .i64 (x1.length : Int)), (18, .int .i64 x355)] [.own (.slice A767 n768 c769) 3 1 n768 (s.1.flatMap (eI .i64)), .own (.slice A772 n773 c774) 3 1 n773 (s.2.1.flatMap (eI .i64)), .box gb76 32 [.slice A2 n3 c4, .slice A77 n78 c79, .slice A81 n82 c83, .bool false], .own (.slice A81 n82 c83) 3 1 n82 (s.2.2.flatMap (eI .i64)), .own (.slice A77 n78 c79) 3 1 n78 (x654.flatMap (eI .i64)), .box gb6 32 [.slice none 0 0, .slice none 0 0, .slice none 0 0, .bool false]] [Sm w.heap.size F w [], St w []])) ?_ hs
        clear hs s
        intro s o2 h hO2
        obtain ⟨x766, x771, x776⟩ := s
        show ∀ (A767 : Option Addr) (n768 : Nat) (c769 : Nat) (h770 : Ow w.heap.size A767 n768 c769 x766) (A772 : Option Addr) (n773 : Nat) (c774 : Nat) (h775 : Ow w.heap.size A772 n773 c774 x771) (h777 : Ow w.heap.size A81 n82 c83 x776), G (tree_plant_C w F r) [.code q44c43, .inLoop q44c43, .inBlock 2, .inBlock 1, .code q44c20, .inLoop q44c12, .inBlock 0, .code q44c8] [(2, .pointer (some ⟨gb6, 0, none⟩)), (3, .pointer (some ⟨gb76, 0, none⟩)), (4, .slice A767 n768 c769), (5, .slice A772 n773 c774), (6, .int .i64 x355), (16, .slice A2 n3 c4), (17, .int .i64 (x1.length : Int)), (18, .int .i64 x355)] [.own (.slice A767 n768 c769) 3 1 n768 (x766.flatMap (eI .i64)), .own (.slice A772 n773 c774) 3 1 n773 (x771.flatMap (eI .i64)), .box gb76 32 [.slice A2 n3 c4, .slice A77 n78 c79, .slice A81 n82 c83, .bool false], .own (.slice A81 n82 c83) 3 1 n82 (x776.flatMap (eI .i64)), .own (.slice A77 n78 c79) 3 1 n78 (x654.flatMap (eI .i64)), .box gb6 32 [.slice none 0 0, .slice none 0 0, .slice none 0 0, .bool false]] [Sm w.heap.size F w [], St w []]
        intro A767 n768 c769 h770 A772 n773 c774 h775 h777
        have h : tree_plant_b3 x355 x654 x766 x771 x776 o2 := h
        unfold tree_plant_b3 at h
        refine g_seq (c := q44c43) rfl ?_
        refine g_seq (c := q44c44) rfl ?_
        refine g_region (c := q44c46) rfl rfl ?_
        refine wl_v 0 rfl (v_move rfl) gn rfl ?_
        refine wl_v 1 rfl (v_lenQ un_23 rfl h770.hq) gn rfl ?_
        refine wl_v 2 rfl (v_bin rfl rfl rfl) gn rfl ?_
        refine wl_v 3 rfl (v_move rfl) gn rfl ?_
        by_cases hp806 : (x766.length : Int) > 0
        ·have h := if_pos' hp806 h
         refine w_bool 64 rfl ((decide_eq_true hp806)) ?_
         refine wl_v 4 rfl (v_move rfl) (gy 64 rfl rfl) rfl ?_
         refine wl_v 5 rfl (v_move rfl) (gy 64 rfl rfl) rfl ?_
         refine wl_v 6 rfl (v_lenQ un_23 rfl h775.hq) (gy 64 rfl rfl) rfl ?_
         refine wl_v 7 rfl (v_bin rfl rfl rfl) (gy 64 rfl rfl) rfl ?_
         obtain ⟨hb807, h⟩ := h
         refine wl_v 8 rfl (v_idxO slE_23 rfl rfl h775 hb807) (gy 64 rfl rfl) rfl ?_
         refine wl_v 9 rfl (v_ldO1 (.int .i64 (ix x771 (w64 ((x771.length : Int) - 1)))) 1 ld_3 rfl rfl (fm_get0 (hlI .i64) hb807 rfl)) (gy 64 rfl rfl) rfl ?_
         refine wl_v 10 rfl (v_bin rfl rfl rfl) (gy 64 rfl rfl) rfl ?_
         refine wl_v 11 rfl (v_pick (b := true) rfl rfl) gn rfl ?_
         refine w_end 12 rfl ?_
         by_cases hp808 : ix x771 (w64 ((x771.length : Int) - 1)) = 0
         ·have h := if_pos' hp808 h
          refine g_true (c := q44c47) rfl _ rfl ((eqi hp808)) ?_
          refine g_skip (c := q44c48) rfl ?_
          refine g_block (c := q44c45) rfl ?_
          refine g_seq (c := q44c50) rfl ?_
          obtain ⟨hb809, h⟩ := h
          obtain ⟨hb810, h⟩ := h
          obtain ⟨x811, hv812, h⟩ := h
          have hns : Region.noSelect (Code.ops q44c51) = true := by kernel_rfl
          refine g_drawF (c := q44c51) [.own (.slice A767 n768 c769) 3 1 n768 (x766.flatMap (eI .i64)), .own (.slice A772 n773 c774) 3 1 n773 (x771.flatMap (eI .i64)), .box gb76 32 [.slice A2 n3 c4, .slice A77 n78 c79, .slice A81 n82 c83, .bool false], .own (.slice A81 n82 c83) 3 1 n82 (x776.flatMap (eI .i64)), .own (.slice A77 n78 c79) 3 1 n78 (x654.flatMap (eI .i64)), .box gb6 32 [.slice none 0 0, .slice none 0 0, .slice none 0 0, .bool false]] [Sm w.heap.size F w [], St w []] [11] 12 rfl rfl mix rfl (.cons_cons _ (.cons_cons _ (.cons_cons _ (.cons_cons _ (.cons_cons _ (.cons_cons _ (.slnil))))))) (sels [0, 1] rfl) ?_
          refine wfv 0 rfl (v_fldB fo_32_2 rfl) gn hns (by kernel_rfl) ?_
          refine wfv 1 rfl (v_ldB1 2 ld_23 rfl rfl rfl) gn hns (by kernel_rfl) ?_
          refine wfv 2 rfl (v_move rfl) gn hns (by kernel_rfl) ?_
          refine wfv 3 rfl (v_move rfl) gn hns (by kernel_rfl) ?_
          refine wfv 4 rfl (v_lenQ un_23 rfl h770.hq) gn hns (by kernel_rfl) ?_
          refine wfv 5 rfl (v_bin rfl rfl rfl) gn hns (by kernel_rfl) ?_
          refine wfv 6 rfl (v_idxO slE_23 rfl rfl h770 hb809) gn hns (by kernel_rfl) ?_
          refine wfv 7 rfl (v_ldO1 (.int .i64 (ix x766 (w64 ((x766.length : Int) - 1)))) 0 ld_3 rfl rfl (fm_get0 (hlI .i64) hb809 rfl)) gn hns (by kernel_rfl) ?_
          refine wfv 8 rfl (v_move rfl) gn hns (by kernel_rfl) ?_
          refine wfv 9 rfl (v_bin rfl rfl rfl) gn hns (by kernel_rfl) ?_
          refine wfv 10 rfl (v_idxO slE_23 rfl rfl h777 hb810) gn hns (by kernel_rfl) ?_
          refine wf_all [11] (by kernel_rfl) rfl ⟨on_l 11 rfl gn rfl (s_stF (enc := (eI .i64)) (o := 0) (z := (w64 (x355 + 1))) (vs := [.int .i64 (w64 (x355 + 1))]) (i := (ix x766 (w64 ((x766.length : Int) - 1)))) 3 (hlI .i64) sz_3 rfl rfl rfl rfl rfl h777 hb810 rfl rfl rfl hv812 fun h815 => ?_), trivial⟩
          unfold NxL
          refine wf_end (by kernel_rfl) ?_
          obtain ⟨hb816, h⟩ := h
          obtain ⟨x818, hv819, h⟩ := h
          obtain ⟨hb821, h⟩ := h
          obtain ⟨x823, hv824, h⟩ := h
          have hns : Region.noSelect (Code.ops q44c52) = true := by kernel_rfl
          refine g_drawF (c := q44c52) [.own (.slice A767 n768 c769) 3 1 n768 (x766.flatMap (eI .i64)), .own (.slice A772 n773 c774) 3 1 n773 (x771.flatMap (eI .i64)), .box gb76 32 [.slice A2 n3 c4, .slice A77 n78 c79, .slice A81 n82 c83, .bool false], .own (.slice A81 n82 c83) 3 1 n82 (x811.flatMap (eI .i64)), .own (.slice A77 n78 c79) 3 1 n78 (x654.flatMap (eI .i64)), .box gb6 32 [.slice none 0 0, .slice none 0 0, .slice none 0 0, .bool false]] [Sm w.heap.size F w [], St w []] [] 12 rfl rfl mix rfl (.cons_cons _ (.cons_cons _ (.cons_cons _ (.cons_cons _ (.cons_cons _ (.cons_cons _ (.slnil))))))) (sels [0, 1] rfl) ?_
          refine wfv 0 rfl (v_move rfl) gn hns rfl ?_
          refine wfv 1 rfl (v_move rfl) gn hns rfl ?_
          refine wfv 2 rfl (v_lenQ un_23 rfl h770.hq) gn hns rfl ?_
          refine wfv 3 rfl (v_bin rfl rfl rfl) gn hns rfl ?_
          have hle830 : (w64 ((x766.length : Int) - 1) : Int).toNat ≤ n768 := by have q := hb816; have q1 := h770.hq; omega
          have h831 : Ow w.heap.size A767 (w64 ((x766.length : Int) - 1) : Int).toNat c769 x818 := Ow.w (Ow.cut h770 hle830) (by rw [hv819])
          refine wfv 4 rfl (v_cutHi (i := w64 ((x766.length : Int) - 1)) slE_23 rfl rfl (by have q := hb816; have q1 := h770.hq; have q2 := h770.hn; omega) h770.hn rfl) gn hns rfl ?_
          refine wfv 5 rfl (v_move rfl) gn hns rfl ?_
          refine wfv 6 rfl (v_move rfl) gn hns rfl ?_
          refine wfv 7 rfl (v_lenQ un_23 rfl h775.hq) gn hns rfl ?_
          refine wfv 8 rfl (v_bin rfl rfl rfl) gn hns rfl ?_
          have hle832 : (w64 ((x771.length : Int) - 1) : Int).toNat ≤ n773 := by have q := hb821; have q1 := h775.hq; omega
          have h833 : Ow w.heap.size A772 (w64 ((x771.length : Int) - 1) : Int).toNat c774 x823 := Ow.w (Ow.cut h775 hle832) (by rw [hv824])
          refine wfv 9 rfl (v_cutHi (i := w64 ((x771.length : Int) - 1)) slE_23 rfl rfl (by have q := hb821; have q1 := h775.hq; have q2 := h775.hn; omega) h775.hn rfl) gn hns rfl ?_
          refine wfv 10 rfl (v_assign rfl) gn hns rfl ?_
          refine wfv 11 rfl (v_assign rfl) gn hns rfl ?_
          refine wf_end (by kernel_rfl) ?_
          refine g_inBlock ?_
          refine g_inLoop ?_
          have h834 : Ow w.heap.size A767 ((w64 ((x766.length : Int) - 1) : Int).toNat) c769 x818 := (Ow.w (Ow.cut h770 hle830) (by rw [hv819]))
          refine g_short (j := 0) (m := ((w64 ((x766.length : Int) - 1) : Int).toNat)) (cells' := x818.flatMap (eI .i64)) rfl hle830 (by rw [fm_take (hlI .i64), hv819]) ?_
          have h835 : Ow w.heap.size A772 ((w64 ((x771.length : Int) - 1) : Int).toNat) c774 x823 := (Ow.w (Ow.cut h775 hle832) (by rw [hv824]))
          refine g_short (j := 1) (m := ((w64 ((x771.length : Int) - 1) : Int).toNat)) (cells' := x823.flatMap (eI .i64)) rfl hle832 (by rw [fm_take (hlI .i64), hv824]) ?_
          have ih := Out.inl hO2 h
          exact g_go [0, 1] (ih A767 ((w64 ((x766.length : Int) - 1) : Int).toNat) c769 h834 A772 ((w64 ((x771.length : Int) - 1) : Int).toNat) c774 h835 h815) ⟨rfl, rfl, rfl, rfl, rfl, rfl, rfl, rfl, trivial⟩ (.cons_cons _ (.cons_cons _ (.cons_cons _ (.cons_cons _ (.cons_cons _ (.cons_cons _ (.slnil))))))) rfl
         ·have h := if_neg' hp808 h
          refine g_false (c := q44c47) rfl _ rfl ((nei hp808)) ?_
          refine g_exit (c := q44c49) [.inBlock 1, .code q44c20, .inLoop q44c12, .inBlock 0, .code q44c8] rfl rfl ?_
          refine g_inBlock ?_
          refine g_region (c := q44c20) rfl rfl ?_
          refine wl_v 0 rfl (v_bin rfl rfl rfl) gn rfl ?_
          refine wl_v 1 rfl (v_move rfl) gn rfl ?_
          refine w_end 2 rfl ?_
          refine g_inLoop ?_
          have h := Out.inr hO2 h
          have ih := Out.inl hO1 h
          exact g_go [0, 1] (ih A767 n768 c769 h770 A772 n773 c774 h775 h655 h777) ⟨rfl, rfl, rfl, rfl, rfl, rfl, rfl, trivial⟩ (.cons_cons _ (.cons_cons _ (.cons_cons _ (.cons_cons _ (.cons_cons _ (.cons_cons _ (.slnil))))))) rfl
        ·have h := if_neg' hp806 h
         refine w_bool 64 rfl ((decide_eq_false hp806)) ?_
         refine wl_pass 4 rfl (ps 64 rfl rfl rfl) ?_
         refine wl_pass 5 rfl (ps 64 rfl rfl rfl) ?_
         refine wl_pass 6 rfl (ps 64 rfl rfl rfl) ?_
         refine wl_pass 7 rfl (ps 64 rfl rfl rfl) ?_
         refine wl_pass 8 rfl (ps 64 rfl rfl rfl) ?_
         refine wl_pass 9 rfl (ps 64 rfl rfl rfl) ?_
         refine wl_pass 10 rfl (ps 64 rfl rfl rfl) ?_
         refine wl_v 11 rfl (v_pick (b := false) rfl rfl) gn rfl ?_
         refine w_end 12 rfl ?_
         refine g_false (c := q44c47) rfl _ rfl (rfl) ?_
         refine g_exit (c := q44c49) [.inBlock 1, .code q44c20, .inLoop q44c12, .inBlock 0, .code q44c8] rfl rfl ?_
         refine g_inBlock ?_
         refine g_region (c := q44c20) rfl rfl ?_
         refine wl_v 0 rfl (v_bin rfl rfl rfl) gn rfl ?_
         refine wl_v 1 rfl (v_move rfl) gn rfl ?_
         refine w_end 2 rfl ?_
         refine g_inLoop ?_
         have h := Out.inr hO2 h
         have ih := Out.inl hO1 h
         exact g_go [0, 1] (ih A767 n768 c769 h770 A772 n773 c774 h775 h655 h777) ⟨rfl, rfl, rfl, rfl, rfl, rfl, rfl, trivial⟩ (.cons_cons _ (.cons_cons _ (.cons_cons _ (.cons_cons _ (.cons_cons _ (.cons_cons _ (.slnil))))))) rfl
       exact g_go [0, 1] (key3 _ h A729 n730 c731 h732 A733 n734 c735 h736 h359) ⟨rfl, rfl, rfl, rfl, rfl, rfl, rfl, rfl, trivial⟩ (.cons_cons _ (.cons_cons _ (.cons_cons _ (.cons_cons _ (.cons_cons _ (.cons_cons _ (.slnil))))))) rfl
      have hns : Region.noSelect (Code.ops q44c40) = true := by kernel_rfl
      refine g_drawF (c := q44c40) [.box gb633 39 [.string ((ix x1 x355).name), .bool ((ix x1 x355).named), .string ((ix x1 x355).field), .int .i64 ((ix x1 x355).from_), .int .i64 ((ix x1 x355).to), .int .i64 ((ix x1 x355).kids), .int .i64 ((ix x1 x355).leaf)], .own (.slice A351 n352 c353) 3 1 n352 (x652.flatMap (eI .i64)), .box gb76 32 [.slice A2 n3 c4, .slice A77 n78 c79, .slice A81 n82 c83, .bool false], .own (.slice A81 n82 c83) 3 1 n82 (x358.flatMap (eI .i64)), .own (.slice A77 n78 c79) 3 1 n78 (x654.flatMap (eI .i64)), .box gb6 32 [.slice none 0 0, .slice none 0 0, .slice none 0 0, .bool false]] [Sm w.heap.size F w [], St w []] [8, 9, 10] 11 rfl rfl mix rfl (.cons_cons _ (.cons _ (.cons_cons _ (.cons_cons _ (.cons_cons _ (.cons_cons _ (.cons_cons _ (.slnil)))))))) (sels [0, 1] rfl) ?_
      refine wfv 0 rfl (v_move rfl) gn hns (by kernel_rfl) ?_
      refine wfv 1 rfl (v_move rfl) gn hns (by kernel_rfl) ?_
      refine wfv 4 rfl (v_move rfl) gn hns (by kernel_rfl) ?_
      refine wfv 5 rfl (v_fldB fo_39_5 rfl) gn hns (by kernel_rfl) ?_
      refine wfv 6 rfl (v_ldB1 0 ld_3 rfl rfl rfl) gn hns (by kernel_rfl) ?_
      refine wf_all [2, 7] (by kernel_rfl) rfl ⟨?_, ?_, trivial⟩
      ·refine on_s 2 rfl gn rfl (s_litO (xs := ([x355] : List Int)) [.int .i64 x355] bs_23_1 rfl (by kernel_rfl) rfl rfl rfl rfl fun gb846 h847 => ?_)
       refine ⟨sels [1, 3, 4, 5, 6, 7] rfl, sels [0, 1] rfl, ?_⟩
       refine wf_all [3, 7] (by kernel_rfl) rfl ⟨?_, ?_, trivial⟩
       ·refine on_s 3 rfl gn rfl (s_app (zs := x663) (cells' := x663.flatMap (eI .i64)) 2 ap_23 rfl rfl rfl h349 (Nat.le_refl _) (Src.ownF (hl := (hlI .i64)) (h1 := (hone_int .i64)) 0 rfl h847) (by rw [hv664, List.flatMap_append] <;> rfl) (app_len hv664 h847.hq) hb665 rfl rfl fun A853 c854 h855 => ?_)
        refine ⟨sels [1, 3, 4, 5, 6, 7] rfl, sels [0, 1] rfl, ?_⟩
        refine wf_all [7] (by kernel_rfl) rfl ⟨on_s 7 rfl gn rfl (s_litO (xs := ([(ix x1 x355).kids] : List Int)) [.int .i64 ((ix x1 x355).kids)] bs_23_1 rfl (by kernel_rfl) rfl rfl rfl rfl fun gb858 h859 => ?_), trivial⟩
        refine ⟨sels [2, 4, 5, 6, 7, 8] rfl, sels [0, 1] rfl, ?_⟩
        refine wf_all [8] (by kernel_rfl) rfl ⟨on_l 8 rfl gn rfl (s_app (zs := x672) (cells' := x672.flatMap (eI .i64)) 4 ap_23 rfl rfl rfl h653 (Nat.le_refl _) (Src.ownF (hl := (hlI .i64)) (h1 := (hone_int .i64)) 0 rfl h859) (by rw [hv673, List.flatMap_append] <;> rfl) (app_len hv673 h859.hq) hb674 rfl rfl fun A860 c861 h862 => ?_), trivial⟩
        unfold NxL
        refine wf_all [9] (by kernel_rfl) rfl ⟨on_l 9 rfl gn rfl (s_val (v_assign rfl) rfl ?_), trivial⟩
        unfold NxL
        refine wf_all [10] (by kernel_rfl) rfl ⟨on_l 10 rfl gn rfl (s_val (v_assign rfl) rfl ?_), trivial⟩
        unfold NxL
        refine wf_end (by kernel_rfl) ?_
        exact g_go [0, 1] (d4 A853 (n347 + 1) c854 h855 A860 (n352 + 1) c861 h862) ⟨rfl, rfl, rfl, rfl, rfl, rfl, rfl, rfl, trivial⟩ (.cons _ (.cons _ (.cons _ (.cons_cons _ (.cons_cons _ (.cons_cons _ (.cons_cons _ (.cons_cons _ (.cons_cons _ (.slnil)))))))))) rfl
       ·refine on_s 7 rfl gn rfl (s_litO (xs := ([(ix x1 x355).kids] : List Int)) [.int .i64 ((ix x1 x355).kids)] bs_23_1 rfl (by kernel_rfl) rfl rfl rfl rfl fun gb863 h864 => ?_)
        refine ⟨sels [2, 4, 5, 6, 7, 8] rfl, sels [0, 1] rfl, ?_⟩
        refine wf_all [3] (by kernel_rfl) rfl ⟨on_s 3 rfl gn rfl (s_app (zs := x663) (cells' := x663.flatMap (eI .i64)) 3 ap_23 rfl rfl rfl h349 (Nat.le_refl _) (Src.ownF (hl := (hlI .i64)) (h1 := (hone_int .i64)) 1 rfl h847) (by rw [hv664, List.flatMap_append] <;> rfl) (app_len hv664 h847.hq) hb665 rfl rfl fun A868 c869 h870 => ?_), trivial⟩
        refine ⟨sels [2, 4, 5, 6, 7, 8] rfl, sels [0, 1] rfl, ?_⟩
        refine wf_all [8] (by kernel_rfl) rfl ⟨on_l 8 rfl gn rfl (s_app (zs := x672) (cells' := x672.flatMap (eI .i64)) 4 ap_23 rfl rfl rfl h653 (Nat.le_refl _) (Src.ownF (hl := (hlI .i64)) (h1 := (hone_int .i64)) 0 rfl h864) (by rw [hv673, List.flatMap_append] <;> rfl) (app_len hv673 h864.hq) hb674 rfl rfl fun A871 c872 h873 => ?_), trivial⟩
        unfold NxL
        refine wf_all [9] (by kernel_rfl) rfl ⟨on_l 9 rfl gn rfl (s_val (v_assign rfl) rfl ?_), trivial⟩
        unfold NxL
        refine wf_all [10] (by kernel_rfl) rfl ⟨on_l 10 rfl gn rfl (s_val (v_assign rfl) rfl ?_), trivial⟩
        unfold NxL
        refine wf_end (by kernel_rfl) ?_
        exact g_go [0, 1] (d4 A868 (n347 + 1) c869 h870 A871 (n352 + 1) c872 h873) ⟨rfl, rfl, rfl, rfl, rfl, rfl, rfl, rfl, trivial⟩ (.cons _ (.cons _ (.cons _ (.cons_cons _ (.cons_cons _ (.cons_cons _ (.cons_cons _ (.cons_cons _ (.cons_cons _ (.slnil)))))))))) rfl
      ·refine on_s 7 rfl gn rfl (s_litO (xs := ([(ix x1 x355).kids] : List Int)) [.int .i64 ((ix x1 x355).kids)] bs_23_1 rfl (by kernel_rfl) rfl rfl rfl rfl fun gb874 h875 => ?_)
       refine ⟨sels [1, 3, 4, 5, 6, 7] rfl, sels [0, 1] rfl, ?_⟩
       refine wf_all [2] (by kernel_rfl) rfl ⟨on_s 2 rfl gn rfl (s_litO (xs := ([x355] : List Int)) [.int .i64 x355] bs_23_1 rfl (by kernel_rfl) rfl rfl rfl rfl fun gb878 h879 => ?_), trivial⟩
       refine ⟨sels [2, 4, 5, 6, 7, 8] rfl, sels [0, 1] rfl, ?_⟩
       refine wf_all [3] (by kernel_rfl) rfl ⟨on_s 3 rfl gn rfl (s_app (zs := x663) (cells' := x663.flatMap (eI .i64)) 3 ap_23 rfl rfl rfl h349 (Nat.le_refl _) (Src.ownF (hl := (hlI .i64)) (h1 := (hone_int .i64)) 0 rfl h879) (by rw [hv664, List.flatMap_append] <;> rfl) (app_len hv664 h879.hq) hb665 rfl rfl fun A883 c884 h885 => ?_), trivial⟩
       refine ⟨sels [2, 4, 5, 6, 7, 8] rfl, sels [0, 1] rfl, ?_⟩
       refine wf_all [8] (by kernel_rfl) rfl ⟨on_l 8 rfl gn rfl (s_app (zs := x672) (cells' := x672.flatMap (eI .i64)) 4 ap_23 rfl rfl rfl h653 (Nat.le_refl _) (Src.ownF (hl := (hlI .i64)) (h1 := (hone_int .i64)) 1 rfl h875) (by rw [hv673, List.flatMap_append] <;> rfl) (app_len hv673 h875.hq) hb674 rfl rfl fun A886 c887 h888 => ?_), trivial⟩
       unfold NxL
       refine wf_all [9] (by kernel_rfl) rfl ⟨on_l 9 rfl gn rfl (s_val (v_assign rfl) rfl ?_), trivial⟩
       unfold NxL
       refine wf_all [10] (by kernel_rfl) rfl ⟨on_l 10 rfl gn rfl (s_val (v_assign rfl) rfl ?_), trivial⟩
       unfold NxL
       refine wf_end (by kernel_rfl) ?_
       exact g_go [0, 1] (d4 A883 (n347 + 1) c884 h885 A886 (n352 + 1) c887 h888) ⟨rfl, rfl, rfl, rfl, rfl, rfl, rfl, rfl, trivial⟩ (.cons _ (.cons _ (.cons _ (.cons_cons _ (.cons_cons _ (.cons_cons _ (.cons_cons _ (.cons_cons _ (.cons_cons _ (.slnil)))))))))) rfl
    by_cases hp639 : (x345.length : Int) > 0
    ·have h := if_pos' hp639 h
     refine g_true (c := q44c29) rfl _ rfl ((decide_eq_true hp639)) ?_
     refine g_seq (c := q44c30) rfl ?_
     obtain ⟨hb889, h⟩ := h
     obtain ⟨hb890, h⟩ := h
     obtain ⟨x891, hv892, h⟩ := h
     have hns : Region.noSelect (Code.ops q44c57) = true := by kernel_rfl
     refine g_drawF (c := q44c57) [.box gb633 39 [.string ((ix x1 x355).name), .bool ((ix x1 x355).named), .string ((ix x1 x355).field), .int .i64 ((ix x1 x355).from_), .int .i64 ((ix x1 x355).to), .int .i64 ((ix x1 x355).kids), .int .i64 ((ix x1 x355).leaf)], .own (.slice A346 n347 c348) 3 1 n347 (x345.flatMap (eI .i64)), .own (.slice A351 n352 c353) 3 1 n352 (x350.flatMap (eI .i64)), .box gb76 32 [.slice A2 n3 c4, .slice A77 n78 c79, .slice A81 n82 c83, .bool false], .own (.slice A81 n82 c83) 3 1 n82 (x358.flatMap (eI .i64)), .own (.slice A77 n78 c79) 3 1 n78 (x636.flatMap (eI .i64)), .box gb6 32 [.slice none 0 0, .slice none 0 0, .slice none 0 0, .bool false]] [Sm w.heap.size F w [], St w []] [10] 11 rfl rfl mix rfl (.cons_cons _ (.cons_cons _ (.cons_cons _ (.cons_cons _ (.cons_cons _ (.cons_cons _ (.cons_cons _ (.slnil)))))))) (sels [0, 1] rfl) ?_
     refine wfv 0 rfl (v_fldB fo_32_1 rfl) gn hns (by kernel_rfl) ?_
     refine wfv 1 rfl (v_ldB1 3 ld_23 rfl rfl rfl) gn hns (by kernel_rfl) ?_
     refine wfv 2 rfl (v_move rfl) gn hns (by kernel_rfl) ?_
     refine wfv 3 rfl (v_move rfl) gn hns (by kernel_rfl) ?_
     refine wfv 4 rfl (v_move rfl) gn hns (by kernel_rfl) ?_
     refine wfv 5 rfl (v_lenQ un_23 rfl h349.hq) gn hns (by kernel_rfl) ?_
     refine wfv 6 rfl (v_bin rfl rfl rfl) gn hns (by kernel_rfl) ?_
     refine wfv 7 rfl (v_idxO slE_23 rfl rfl h349 hb889) gn hns (by kernel_rfl) ?_
     refine wfv 8 rfl (v_ldO1 (.int .i64 (ix x345 (w64 ((x345.length : Int) - 1)))) 1 ld_3 rfl rfl (fm_get0 (hlI .i64) hb889 rfl)) gn hns (by kernel_rfl) ?_
     refine wfv 9 rfl (v_idxO slE_23 rfl rfl h638 hb890) gn hns (by kernel_rfl) ?_
     refine wf_all [10] (by kernel_rfl) rfl ⟨on_l 10 rfl gn rfl (s_stF (enc := (eI .i64)) (o := 0) (z := (ix x345 (w64 ((x345.length : Int) - 1)))) (vs := [.int .i64 (ix x345 (w64 ((x345.length : Int) - 1)))]) (i := x355) 5 (hlI .i64) sz_3 rfl rfl rfl rfl rfl h638 hb890 rfl rfl rfl hv892 fun h895 => ?_), trivial⟩
     unfold NxL
     refine wf_end (by kernel_rfl) ?_
     refine g_region (c := q44c58) rfl rfl ?_
     refine wl_v 0 rfl (v_move rfl) gn rfl ?_
     refine wl_v 1 rfl (v_move rfl) gn rfl ?_
     refine wl_v 2 rfl (v_lenQ un_23 rfl h354.hq) gn rfl ?_
     refine wl_v 3 rfl (v_bin rfl rfl rfl) gn rfl ?_
     obtain ⟨hb896, h⟩ := h
     refine wl_v 4 rfl (v_idxO slE_23 rfl rfl h354 hb896) gn rfl ?_
     refine wl_v 5 rfl (v_ldO1 (.int .i64 (ix x350 (w64 ((x350.length : Int) - 1)))) 2 ld_3 rfl rfl (fm_get0 (hlI .i64) hb896 rfl)) gn rfl ?_
     refine wl_v 6 rfl (v_bin rfl rfl rfl) gn rfl ?_
     refine wl_v 7 rfl (v_idxO slE_23 rfl rfl h354 hb896) gn rfl ?_
     obtain ⟨x897, hv898, h⟩ := h
     refine wl_s 8 rfl (s_stF (enc := (eI .i64)) (o := 0) (z := (w64 ((ix x350 (w64 ((x350.length : Int) - 1))) - 1))) (vs := [.int .i64 (w64 ((ix x350 (w64 ((x350.length : Int) - 1))) - 1))]) (i := (w64 ((x350.length : Int) - 1))) 2 (hlI .i64) sz_3 rfl rfl rfl rfl rfl h354 hb896 rfl rfl rfl hv898 fun h899 => ?_) gn
     refine w_end 9 rfl ?_
     exact g_go [0, 1] (j2 x897 x891 h h899 h895) ⟨rfl, rfl, rfl, rfl, rfl, rfl, rfl, rfl, rfl, trivial⟩ (.cons_cons _ (.cons_cons _ (.cons_cons _ (.cons_cons _ (.cons_cons _ (.cons_cons _ (.cons_cons _ (.slnil)))))))) rfl
    ·have h := if_neg' hp639 h
     refine g_false (c := q44c29) rfl _ rfl ((decide_eq_false hp639)) ?_
     refine g_skip (c := q44c31) rfl ?_
     exact g_go [0, 1] (j2 x350 x636 h h354 h638) ⟨rfl, rfl, rfl, rfl, rfl, rfl, rfl, rfl, rfl, trivial⟩ (.cons_cons _ (.cons_cons _ (.cons_cons _ (.cons_cons _ (.cons_cons _ (.cons_cons _ (.cons_cons _ (.slnil)))))))) rfl
   ·have h := if_neg' hp630 h
    refine g_false (c := q44c15) rfl _ rfl ((decide_eq_false hp630)) ?_
    refine g_exit (c := q44c18) [.code q44c8] rfl rfl ?_
    refine g_seq (c := q44c8) rfl ?_
    refine g_region (c := q44c53) rfl rfl ?_
    refine wl_v 0 rfl (v_move rfl) gn rfl ?_
    refine wl_v 1 rfl (v_lenQ un_23 rfl h349.hq) gn rfl ?_
    refine wl_v 2 rfl (v_bin rfl rfl rfl) gn rfl ?_
    refine wl_v 3 rfl (v_fldB fo_32_3 rfl) gn rfl ?_
    refine wl_s 4 rfl (s_stB (vs := [.bool ((x345.length : Int) == 0)]) (cs' := [.slice A2 n3 c4, .slice A77 n78 c79, .slice A81 n82 c83, .bool ((x345.length : Int) == 0)]) (M' := [.own (.slice A346 n347 c348) 3 1 n347 (x345.flatMap (eI .i64)), .own (.slice A351 n352 c353) 3 1 n352 (x350.flatMap (eI .i64)), .box gb76 32 [.slice A2 n3 c4, .slice A77 n78 c79, .slice A81 n82 c83, .bool ((x345.length : Int) == 0)], .own (.slice A81 n82 c83) 3 1 n82 (x358.flatMap (eI .i64)), .own (.slice A77 n78 c79) 3 1 n78 (x356.flatMap (eI .i64)), .box gb6 32 [.slice none 0 0, .slice none 0 0, .slice none 0 0, .bool false]]) 2 sz_4 rfl rfl rfl rfl rfl rfl rfl rfl rfl ?_) gn
    refine w_end 5 rfl ?_
    refine g_seq (c := q44c54) rfl ?_
    refine g_region (c := q44c55) rfl rfl ?_
    refine wl_v 0 rfl (v_ldB [.slice A2 n3 c4, .slice A77 n78 c79, .slice A81 n82 c83, .bool ((x345.length : Int) == 0)] 2 ld_32 rfl rfl rfl rfl) gn rfl ?_
    refine wl_s 1 rfl (s_stB (vs := [.slice A2 n3 c4, .slice A77 n78 c79, .slice A81 n82 c83, .bool ((x345.length : Int) == 0)]) (cs' := [.slice A2 n3 c4, .slice A77 n78 c79, .slice A81 n82 c83, .bool ((x345.length : Int) == 0)]) (M' := [.own (.slice A346 n347 c348) 3 1 n347 (x345.flatMap (eI .i64)), .own (.slice A351 n352 c353) 3 1 n352 (x350.flatMap (eI .i64)), .box gb76 32 [.slice A2 n3 c4, .slice A77 n78 c79, .slice A81 n82 c83, .bool ((x345.length : Int) == 0)], .own (.slice A81 n82 c83) 3 1 n82 (x358.flatMap (eI .i64)), .own (.slice A77 n78 c79) 3 1 n78 (x356.flatMap (eI .i64)), .box gb6 32 [.slice A2 n3 c4, .slice A77 n78 c79, .slice A81 n82 c83, .bool ((x345.length : Int) == 0)]]) 5 sz_32 rfl rfl rfl rfl rfl rfl rfl rfl rfl ?_) gn
    refine w_end 2 rfl ?_
    have h := Out.inr hO1 h
    refine g_retR (c := q44c56) [.agg #[.slice A2 n3 c4, .slice A77 n78 c79, .slice A81 n82 c83, .bool ((x345.length : Int) == 0)]] rfl Try.func44 rfl (.cell (cs := [.slice A2 n3 c4, .slice A77 n78 c79, .slice A81 n82 c83, .bool ((x345.length : Int) == 0)]) (us := [.slice A2 n3 c4, .slice A77 n78 c79, .slice A81 n82 c83, .bool ((x345.length : Int) == 0)]) 5 rfl ld_32 rfl rfl rfl (.nil)) fun wr hLr => ?_
    have hMr : B.Loc w wr [.own (.slice A77 n78 c79) 3 1 n78 (x356.flatMap (eI .i64)), .own (.slice A81 n82 c83) 3 1 n82 (x358.flatMap (eI .i64))] [St w []] := hLr.pick (rest := [.own (.slice A346 n347 c348) 3 1 n347 (x345.flatMap (eI .i64)), .own (.slice A351 n352 c353) 3 1 n352 (x350.flatMap (eI .i64)), .box gb76 32 [.slice A2 n3 c4, .slice A77 n78 c79, .slice A81 n82 c83, .bool ((x345.length : Int) == 0)], .box gb6 32 [.slice A2 n3 c4, .slice A77 n78 c79, .slice A81 n82 c83, .bool ((x345.length : Int) == 0)]]) (perm_of_idx [4, 3] [0, 1, 2, 5] rfl rfl (by kernel_rfl)) (sels [1] rfl)
    have hMi : ∀ e ∈ ([.own (.slice A77 n78 c79) 3 1 n78 (x356.flatMap (eI .i64)), .own (.slice A81 n82 c83) 3 1 n82 (x358.flatMap (eI .i64))] : List Ent), e ∈ ([.own (.slice A346 n347 c348) 3 1 n347 (x345.flatMap (eI .i64)), .own (.slice A351 n352 c353) 3 1 n352 (x350.flatMap (eI .i64)), .box gb76 32 [.slice A2 n3 c4, .slice A77 n78 c79, .slice A81 n82 c83, .bool ((x345.length : Int) == 0)], .own (.slice A81 n82 c83) 3 1 n82 (x358.flatMap (eI .i64)), .own (.slice A77 n78 c79) 3 1 n78 (x356.flatMap (eI .i64)), .box gb6 32 [.slice A2 n3 c4, .slice A77 n78 c79, .slice A81 n82 c83, .bool ((x345.length : Int) == 0)]] : List Ent) := sels [4, 3] rfl
    show tree_plant_R w F  r (.returned (packV [.agg #[.slice A2 n3 c4, .slice A77 n78 c79, .slice A81 n82 c83, .bool ((x345.length : Int) == 0)]])) wr
    rw [h]
    exact ⟨A77, n78, c79, A81, n82, c83, A2, n3, c4, rfl, hMr, h357, h359, (hLr.outR (s := Sm w.heap.size F w []) hMi (me 0 rfl) Sm.ok h5)⟩
  refine g_nil 3 1 ?_
  refine g_nil 3 1 ?_
  exact g_go [0, 1] (key1 _ h none 0 0 (Ow.nil (z := w.heap.size)) none 0 0 (Ow.nil (z := w.heap.size)) h80 h84) ⟨rfl, rfl, rfl, rfl, rfl, rfl, rfl, trivial⟩ (.cons_cons _ (.cons_cons _ (.cons_cons _ (.cons_cons _ (.cons_cons _ (.cons_cons _ (.slnil))))))) rfl
 have hns : Region.noSelect (Code.ops q44c3) = true := by kernel_rfl
 refine g_drawF (c := q44c3) [.box gb6 32 [.slice none 0 0, .slice none 0 0, .slice none 0 0, .bool false]] [Sm w.heap.size F w [], St w []] [] 10 rfl rfl mix rfl (.cons_cons _ (.slnil)) (sels [0, 1] rfl) ?_
 refine wfv 0 rfl (v_move rfl) gn hns rfl ?_
 refine wfv 1 rfl (v_move rfl) gn hns rfl ?_
 refine wfv 2 rfl (v_lenQ un_22 rfl h5.hq) gn hns rfl ?_
 refine wfv 4 rfl (v_move rfl) gn hns rfl ?_
 refine wfv 5 rfl (v_lenQ un_22 rfl h5.hq) gn hns rfl ?_
 refine wf_all [3, 6, 8] (by kernel_rfl) rfl ⟨?_, ?_, ?_, trivial⟩
 ·refine on_s 3 rfl gn rfl (s_makeX (enc := (eI .i64)) (z := 0) mk_23 rfl (by decide) rfl rfl hb8.1 hb8.2 (by decide) hv13 rfl fun A909 h910 => ?_)
  refine ⟨sels [1] rfl, sels [0, 1] rfl, ?_⟩
  refine wf_all [6, 8] (by kernel_rfl) rfl ⟨?_, ?_, trivial⟩
  ·refine on_s 6 rfl gn rfl (s_makeX (enc := (eI .i64)) (z := 0) mk_23 rfl (by decide) rfl rfl hb8.1 hb8.2 (by decide) hv18 rfl fun A914 h915 => ?_)
   refine ⟨sels [2] rfl, sels [0, 1] rfl, ?_⟩
   refine wfv 7 rfl (v_build #[.slice A2 n3 c4, .slice A909 (((x1.length : Int) : Int).toNat) (((x1.length : Int) : Int).toNat), .slice A914 (((x1.length : Int) : Int).toNat) (((x1.length : Int) : Int).toNat), .bool false] bd_32 rfl (by kernel_rfl)) gn hns rfl ?_
   refine wf_all [8] (by kernel_rfl) rfl ⟨on_s 8 rfl gn rfl (s_alloc [.slice none 0 0, .slice none 0 0, .slice none 0 0, .bool false] zr_32 rfl fun gb917 => ?_), trivial⟩
   refine ⟨sels [3] rfl, sels [0, 1] rfl, ?_⟩
   refine wf_all [9] (by kernel_rfl) rfl ⟨on_s 9 rfl gn rfl (s_stB (vs := [.slice A2 n3 c4, .slice A909 (((x1.length : Int) : Int).toNat) (((x1.length : Int) : Int).toNat), .slice A914 (((x1.length : Int) : Int).toNat) (((x1.length : Int) : Int).toNat), .bool false]) (cs' := [.slice A2 n3 c4, .slice A909 (((x1.length : Int) : Int).toNat) (((x1.length : Int) : Int).toNat), .slice A914 (((x1.length : Int) : Int).toNat) (((x1.length : Int) : Int).toNat), .bool false]) (M' := [.box gb917 32 [.slice A2 n3 c4, .slice A909 (((x1.length : Int) : Int).toNat) (((x1.length : Int) : Int).toNat), .slice A914 (((x1.length : Int) : Int).toNat) (((x1.length : Int) : Int).toNat), .bool false], .own (.slice A914 (((x1.length : Int) : Int).toNat) (((x1.length : Int) : Int).toNat)) 3 1 (((x1.length : Int) : Int).toNat) (x17.flatMap (eI .i64)), .own (.slice A909 (((x1.length : Int) : Int).toNat) (((x1.length : Int) : Int).toNat)) 3 1 (((x1.length : Int) : Int).toNat) (x12.flatMap (eI .i64)), .box gb6 32 [.slice none 0 0, .slice none 0 0, .slice none 0 0, .bool false]]) 0 sz_32 rfl rfl rfl rfl rfl rfl rfl rfl rfl ?_), trivial⟩
   refine ⟨sels [3] rfl, sels [0, 1] rfl, ?_⟩
   refine wf_end (by kernel_rfl) ?_
   exact g_go [0, 1] (d1 gb917 A909 (((x1.length : Int) : Int).toNat) (((x1.length : Int) : Int).toNat) h910 A914 (((x1.length : Int) : Int).toNat) (((x1.length : Int) : Int).toNat) h915) ⟨rfl, rfl, rfl, trivial⟩ (.cons_cons _ (.cons_cons _ (.cons_cons _ (.cons_cons _ (.slnil))))) rfl
  ·refine on_s 8 rfl gn rfl (s_alloc [.slice none 0 0, .slice none 0 0, .slice none 0 0, .bool false] zr_32 rfl fun gb918 => ?_)
   refine ⟨sels [2] rfl, sels [0, 1] rfl, ?_⟩
   refine wf_all [6] (by kernel_rfl) rfl ⟨on_s 6 rfl gn rfl (s_makeX (enc := (eI .i64)) (z := 0) mk_23 rfl (by decide) rfl rfl hb8.1 hb8.2 (by decide) hv18 rfl fun A921 h922 => ?_), trivial⟩
   refine ⟨sels [3] rfl, sels [0, 1] rfl, ?_⟩
   refine wfv 7 rfl (v_build #[.slice A2 n3 c4, .slice A909 (((x1.length : Int) : Int).toNat) (((x1.length : Int) : Int).toNat), .slice A921 (((x1.length : Int) : Int).toNat) (((x1.length : Int) : Int).toNat), .bool false] bd_32 rfl (by kernel_rfl)) gn hns rfl ?_
   refine wf_all [9] (by kernel_rfl) rfl ⟨on_s 9 rfl gn rfl (s_stB (vs := [.slice A2 n3 c4, .slice A909 (((x1.length : Int) : Int).toNat) (((x1.length : Int) : Int).toNat), .slice A921 (((x1.length : Int) : Int).toNat) (((x1.length : Int) : Int).toNat), .bool false]) (cs' := [.slice A2 n3 c4, .slice A909 (((x1.length : Int) : Int).toNat) (((x1.length : Int) : Int).toNat), .slice A921 (((x1.length : Int) : Int).toNat) (((x1.length : Int) : Int).toNat), .bool false]) (M' := [.own (.slice A921 (((x1.length : Int) : Int).toNat) (((x1.length : Int) : Int).toNat)) 3 1 (((x1.length : Int) : Int).toNat) (x17.flatMap (eI .i64)), .box gb918 32 [.slice A2 n3 c4, .slice A909 (((x1.length : Int) : Int).toNat) (((x1.length : Int) : Int).toNat), .slice A921 (((x1.length : Int) : Int).toNat) (((x1.length : Int) : Int).toNat), .bool false], .own (.slice A909 (((x1.length : Int) : Int).toNat) (((x1.length : Int) : Int).toNat)) 3 1 (((x1.length : Int) : Int).toNat) (x12.flatMap (eI .i64)), .box gb6 32 [.slice none 0 0, .slice none 0 0, .slice none 0 0, .bool false]]) 1 sz_32 rfl rfl rfl rfl rfl rfl rfl rfl rfl ?_), trivial⟩
   refine ⟨sels [3] rfl, sels [0, 1] rfl, ?_⟩
   refine wf_end (by kernel_rfl) ?_
   refine g_front 3 rfl ?_
   refine g_front 3 rfl ?_
   refine g_front 2 rfl ?_
   refine g_front 3 rfl ?_
   exact g_go [0, 1] (d1 gb918 A909 (((x1.length : Int) : Int).toNat) (((x1.length : Int) : Int).toNat) h910 A921 (((x1.length : Int) : Int).toNat) (((x1.length : Int) : Int).toNat) h922) ⟨rfl, rfl, rfl, trivial⟩ (.cons_cons _ (.cons_cons _ (.cons_cons _ (.cons_cons _ (.slnil))))) rfl
 ·refine on_s 6 rfl gn rfl (s_makeX (enc := (eI .i64)) (z := 0) mk_23 rfl (by decide) rfl rfl hb8.1 hb8.2 (by decide) hv18 rfl fun A923 h924 => ?_)
  refine ⟨sels [1] rfl, sels [0, 1] rfl, ?_⟩
  refine wf_all [3, 8] (by kernel_rfl) rfl ⟨?_, ?_, trivial⟩
  ·refine on_s 3 rfl gn rfl (s_makeX (enc := (eI .i64)) (z := 0) mk_23 rfl (by decide) rfl rfl hb8.1 hb8.2 (by decide) hv13 rfl fun A928 h929 => ?_)
   refine ⟨sels [2] rfl, sels [0, 1] rfl, ?_⟩
   refine wfv 7 rfl (v_build #[.slice A2 n3 c4, .slice A928 (((x1.length : Int) : Int).toNat) (((x1.length : Int) : Int).toNat), .slice A923 (((x1.length : Int) : Int).toNat) (((x1.length : Int) : Int).toNat), .bool false] bd_32 rfl (by kernel_rfl)) gn hns rfl ?_
   refine wf_all [8] (by kernel_rfl) rfl ⟨on_s 8 rfl gn rfl (s_alloc [.slice none 0 0, .slice none 0 0, .slice none 0 0, .bool false] zr_32 rfl fun gb931 => ?_), trivial⟩
   refine ⟨sels [3] rfl, sels [0, 1] rfl, ?_⟩
   refine wf_all [9] (by kernel_rfl) rfl ⟨on_s 9 rfl gn rfl (s_stB (vs := [.slice A2 n3 c4, .slice A928 (((x1.length : Int) : Int).toNat) (((x1.length : Int) : Int).toNat), .slice A923 (((x1.length : Int) : Int).toNat) (((x1.length : Int) : Int).toNat), .bool false]) (cs' := [.slice A2 n3 c4, .slice A928 (((x1.length : Int) : Int).toNat) (((x1.length : Int) : Int).toNat), .slice A923 (((x1.length : Int) : Int).toNat) (((x1.length : Int) : Int).toNat), .bool false]) (M' := [.box gb931 32 [.slice A2 n3 c4, .slice A928 (((x1.length : Int) : Int).toNat) (((x1.length : Int) : Int).toNat), .slice A923 (((x1.length : Int) : Int).toNat) (((x1.length : Int) : Int).toNat), .bool false], .own (.slice A928 (((x1.length : Int) : Int).toNat) (((x1.length : Int) : Int).toNat)) 3 1 (((x1.length : Int) : Int).toNat) (x12.flatMap (eI .i64)), .own (.slice A923 (((x1.length : Int) : Int).toNat) (((x1.length : Int) : Int).toNat)) 3 1 (((x1.length : Int) : Int).toNat) (x17.flatMap (eI .i64)), .box gb6 32 [.slice none 0 0, .slice none 0 0, .slice none 0 0, .bool false]]) 0 sz_32 rfl rfl rfl rfl rfl rfl rfl rfl rfl ?_), trivial⟩
   refine ⟨sels [3] rfl, sels [0, 1] rfl, ?_⟩
   refine wf_end (by kernel_rfl) ?_
   refine g_front 3 rfl ?_
   refine g_front 2 rfl ?_
   refine g_front 3 rfl ?_
   refine g_front 3 rfl ?_
   exact g_go [0, 1] (d1 gb931 A928 (((x1.length : Int) : Int).toNat) (((x1.length : Int) : Int).toNat) h929 A923 (((x1.length : Int) : Int).toNat) (((x1.length : Int) : Int).toNat) h924) ⟨rfl, rfl, rfl, trivial⟩ (.cons_cons _ (.cons_cons _ (.cons_cons _ (.cons_cons _ (.slnil))))) rfl
  ·refine on_s 8 rfl gn rfl (s_alloc [.slice none 0 0, .slice none 0 0, .slice none 0 0, .bool false] zr_32 rfl fun gb932 => ?_)
   refine ⟨sels [2] rfl, sels [0, 1] rfl, ?_⟩
   refine wf_all [3] (by kernel_rfl) rfl ⟨on_s 3 rfl gn rfl (s_makeX (enc := (eI .i64)) (z := 0) mk_23 rfl (by decide) rfl rfl hb8.1 hb8.2 (by decide) hv13 rfl fun A935 h936 => ?_), trivial⟩
   refine ⟨sels [3] rfl, sels [0, 1] rfl, ?_⟩
   refine wfv 7 rfl (v_build #[.slice A2 n3 c4, .slice A935 (((x1.length : Int) : Int).toNat) (((x1.length : Int) : Int).toNat), .slice A923 (((x1.length : Int) : Int).toNat) (((x1.length : Int) : Int).toNat), .bool false] bd_32 rfl (by kernel_rfl)) gn hns rfl ?_
   refine wf_all [9] (by kernel_rfl) rfl ⟨on_s 9 rfl gn rfl (s_stB (vs := [.slice A2 n3 c4, .slice A935 (((x1.length : Int) : Int).toNat) (((x1.length : Int) : Int).toNat), .slice A923 (((x1.length : Int) : Int).toNat) (((x1.length : Int) : Int).toNat), .bool false]) (cs' := [.slice A2 n3 c4, .slice A935 (((x1.length : Int) : Int).toNat) (((x1.length : Int) : Int).toNat), .slice A923 (((x1.length : Int) : Int).toNat) (((x1.length : Int) : Int).toNat), .bool false]) (M' := [.own (.slice A935 (((x1.length : Int) : Int).toNat) (((x1.length : Int) : Int).toNat)) 3 1 (((x1.length : Int) : Int).toNat) (x12.flatMap (eI .i64)), .box gb932 32 [.slice A2 n3 c4, .slice A935 (((x1.length : Int) : Int).toNat) (((x1.length : Int) : Int).toNat), .slice A923 (((x1.length : Int) : Int).toNat) (((x1.length : Int) : Int).toNat), .bool false], .own (.slice A923 (((x1.length : Int) : Int).toNat) (((x1.length : Int) : Int).toNat)) 3 1 (((x1.length : Int) : Int).toNat) (x17.flatMap (eI .i64)), .box gb6 32 [.slice none 0 0, .slice none 0 0, .slice none 0 0, .bool false]]) 1 sz_32 rfl rfl rfl rfl rfl rfl rfl rfl rfl ?_), trivial⟩
   refine ⟨sels [3] rfl, sels [0, 1] rfl, ?_⟩
   refine wf_end (by kernel_rfl) ?_
   refine g_front 3 rfl ?_
   refine g_front 1 rfl ?_
   refine g_front 3 rfl ?_
   refine g_front 3 rfl ?_
   exact g_go [0, 1] (d1 gb932 A935 (((x1.length : Int) : Int).toNat) (((x1.length : Int) : Int).toNat) h936 A923 (((x1.length : Int) : Int).toNat) (((x1.length : Int) : Int).toNat) h924) ⟨rfl, rfl, rfl, trivial⟩ (.cons_cons _ (.cons_cons _ (.cons_cons _ (.cons_cons _ (.slnil))))) rfl
 ·refine on_s 8 rfl gn rfl (s_alloc [.slice none 0 0, .slice none 0 0, .slice none 0 0, .bool false] zr_32 rfl fun gb937 => ?_)
  refine ⟨sels [1] rfl, sels [0, 1] rfl, ?_⟩
  refine wf_all [3, 6] (by kernel_rfl) rfl ⟨?_, ?_, trivial⟩
  ·refine on_s 3 rfl gn rfl (s_makeX (enc := (eI .i64)) (z := 0) mk_23 rfl (by decide) rfl rfl hb8.1 hb8.2 (by decide) hv13 rfl fun A942 h943 => ?_)
   refine ⟨sels [2] rfl, sels [0, 1] rfl, ?_⟩
   refine wf_all [6] (by kernel_rfl) rfl ⟨on_s 6 rfl gn rfl (s_makeX (enc := (eI .i64)) (z := 0) mk_23 rfl (by decide) rfl rfl hb8.1 hb8.2 (by decide) hv18 rfl fun A946 h947 => ?_), trivial⟩
   refine ⟨sels [3] rfl, sels [0, 1] rfl, ?_⟩
   refine wfv 7 rfl (v_build #[.slice A2 n3 c4, .slice A942 (((x1.length : Int) : Int).toNat) (((x1.length : Int) : Int).toNat), .slice A946 (((x1.length : Int) : Int).toNat) (((x1.length : Int) : Int).toNat), .bool false] bd_32 rfl (by kernel_rfl)) gn hns rfl ?_
   refine wf_all [9] (by kernel_rfl) rfl ⟨on_s 9 rfl gn rfl (s_stB (vs := [.slice A2 n3 c4, .slice A942 (((x1.length : Int) : Int).toNat) (((x1.length : Int) : Int).toNat), .slice A946 (((x1.length : Int) : Int).toNat) (((x1.length : Int) : Int).toNat), .bool false]) (cs' := [.slice A2 n3 c4, .slice A942 (((x1.length : Int) : Int).toNat) (((x1.length : Int) : Int).toNat), .slice A946 (((x1.length : Int) : Int).toNat) (((x1.length : Int) : Int).toNat), .bool false]) (M' := [.own (.slice A946 (((x1.length : Int) : Int).toNat) (((x1.length : Int) : Int).toNat)) 3 1 (((x1.length : Int) : Int).toNat) (x17.flatMap (eI .i64)), .own (.slice A942 (((x1.length : Int) : Int).toNat) (((x1.length : Int) : Int).toNat)) 3 1 (((x1.length : Int) : Int).toNat) (x12.flatMap (eI .i64)), .box gb937 32 [.slice A2 n3 c4, .slice A942 (((x1.length : Int) : Int).toNat) (((x1.length : Int) : Int).toNat), .slice A946 (((x1.length : Int) : Int).toNat) (((x1.length : Int) : Int).toNat), .bool false], .box gb6 32 [.slice none 0 0, .slice none 0 0, .slice none 0 0, .bool false]]) 2 sz_32 rfl rfl rfl rfl rfl rfl rfl rfl rfl ?_), trivial⟩
   refine ⟨sels [3] rfl, sels [0, 1] rfl, ?_⟩
   refine wf_end (by kernel_rfl) ?_
   refine g_front 3 rfl ?_
   refine g_front 2 rfl ?_
   refine g_front 2 rfl ?_
   refine g_front 3 rfl ?_
   exact g_go [0, 1] (d1 gb937 A942 (((x1.length : Int) : Int).toNat) (((x1.length : Int) : Int).toNat) h943 A946 (((x1.length : Int) : Int).toNat) (((x1.length : Int) : Int).toNat) h947) ⟨rfl, rfl, rfl, trivial⟩ (.cons_cons _ (.cons_cons _ (.cons_cons _ (.cons_cons _ (.slnil))))) rfl
  ·refine on_s 6 rfl gn rfl (s_makeX (enc := (eI .i64)) (z := 0) mk_23 rfl (by decide) rfl rfl hb8.1 hb8.2 (by decide) hv18 rfl fun A948 h949 => ?_)
   refine ⟨sels [2] rfl, sels [0, 1] rfl, ?_⟩
   refine wf_all [3] (by kernel_rfl) rfl ⟨on_s 3 rfl gn rfl (s_makeX (enc := (eI .i64)) (z := 0) mk_23 rfl (by decide) rfl rfl hb8.1 hb8.2 (by decide) hv13 rfl fun A952 h953 => ?_), trivial⟩
   refine ⟨sels [3] rfl, sels [0, 1] rfl, ?_⟩
   refine wfv 7 rfl (v_build #[.slice A2 n3 c4, .slice A952 (((x1.length : Int) : Int).toNat) (((x1.length : Int) : Int).toNat), .slice A948 (((x1.length : Int) : Int).toNat) (((x1.length : Int) : Int).toNat), .bool false] bd_32 rfl (by kernel_rfl)) gn hns rfl ?_
   refine wf_all [9] (by kernel_rfl) rfl ⟨on_s 9 rfl gn rfl (s_stB (vs := [.slice A2 n3 c4, .slice A952 (((x1.length : Int) : Int).toNat) (((x1.length : Int) : Int).toNat), .slice A948 (((x1.length : Int) : Int).toNat) (((x1.length : Int) : Int).toNat), .bool false]) (cs' := [.slice A2 n3 c4, .slice A952 (((x1.length : Int) : Int).toNat) (((x1.length : Int) : Int).toNat), .slice A948 (((x1.length : Int) : Int).toNat) (((x1.length : Int) : Int).toNat), .bool false]) (M' := [.own (.slice A952 (((x1.length : Int) : Int).toNat) (((x1.length : Int) : Int).toNat)) 3 1 (((x1.length : Int) : Int).toNat) (x12.flatMap (eI .i64)), .own (.slice A948 (((x1.length : Int) : Int).toNat) (((x1.length : Int) : Int).toNat)) 3 1 (((x1.length : Int) : Int).toNat) (x17.flatMap (eI .i64)), .box gb937 32 [.slice A2 n3 c4, .slice A952 (((x1.length : Int) : Int).toNat) (((x1.length : Int) : Int).toNat), .slice A948 (((x1.length : Int) : Int).toNat) (((x1.length : Int) : Int).toNat), .bool false], .box gb6 32 [.slice none 0 0, .slice none 0 0, .slice none 0 0, .bool false]]) 2 sz_32 rfl rfl rfl rfl rfl rfl rfl rfl rfl ?_), trivial⟩
   refine ⟨sels [3] rfl, sels [0, 1] rfl, ?_⟩
   refine wf_end (by kernel_rfl) ?_
   refine g_front 3 rfl ?_
   refine g_front 1 rfl ?_
   refine g_front 2 rfl ?_
   refine g_front 3 rfl ?_
   exact g_go [0, 1] (d1 gb937 A952 (((x1.length : Int) : Int).toNat) (((x1.length : Int) : Int).toNat) h953 A948 (((x1.length : Int) : Int).toNat) (((x1.length : Int) : Int).toNat) h949) ⟨rfl, rfl, rfl, trivial⟩ (.cons_cons _ (.cons_cons _ (.cons_cons _ (.cons_cons _ (.slnil))))) rfl
noncomputable abbrev q46c0 : Code := bodyOf Try.f46
noncomputable abbrev q46c1 : Code := Code.fst q46c0
noncomputable abbrev q46c2 : Code := Code.snd q46c0
noncomputable abbrev q46c3 : Code := Code.fst q46c2
noncomputable abbrev q46c4 : Code := Code.snd q46c2
abbrev tree_forest_has_R (w : World) (F : Nat → Prop) (r : Bool) : Ending → World → Prop := fun e w' => e = .returned (.bool r) ∧ B.Loc w w' [] [St w []]
noncomputable abbrev tree_forest_has_C (w : World) (F : Nat → Prop) (r : Bool) : Cx := ⟨Try.prog, 46, Try.f46, 18, tree_forest_has_R w F  r, w⟩
theorem tree_forest_has_calls (w : World) (F : Nat → Prop) (x1 : tree_forest) (x14 : Int) (A2 : Option Addr) (n3 : Nat) (c4 : Nat) (A6 : Option Addr) (n7 : Nat) (c8 : Nat) (A10 : Option Addr) (n11 : Nat) (c12 : Nat) (h5 : Rw k_api_Node w (St w []).av A2 n3 c4 x1.nodes) (h9 : Rw (kInt .i64) w (St w []).av A6 n7 c8 x1.parent) (h13 : Rw (kInt .i64) w (St w []).av A10 n11 c12 x1.end_) (hF : ∀ b, F b → b < w.heap.size ∧ ∀ o ∈ ([] : List (List Nat)), b ∉ o) (hL0 : B.Loc w w [] [Sm w.heap.size F w [], St w []]) (r : Bool) (h : tree_forest_has x1 x14 r) : Calls Try.prog 46 #[.agg #[.slice A2 n3 c4, .slice A6 n7 c8, .slice A10 n11 c12, .bool x1.ok], .int .i64 x14] w (tree_forest_has_R w F  r) := by
 unfold tree_forest_has at h
 refine calls_of_Loc (vs := [.agg #[.slice A2 n3 c4, .slice A6 n7 c8, .slice A10 n11 c12, .bool x1.ok], .int .i64 x14]) 18 Try.func46 rfl Try.ntmps46 rfl hL0 ?_
 show G (tree_forest_has_C w F r) _ _ _ _
 refine g_seq (c := q46c0) rfl ?_
 refine g_region (c := q46c1) rfl rfl ?_
 refine wl_s 0 rfl (s_box [.slice A2 n3 c4, .slice A6 n7 c8, .slice A10 n11 c12, .bool x1.ok] rfl rfl rfl fun gb15 => ?_) gn
 refine wl_v 1 rfl (v_assign rfl) gn rfl ?_
 refine w_end 2 rfl ?_
 refine g_seq (c := q46c2) rfl ?_
 refine g_region (c := q46c3) rfl rfl ?_
 refine wl_v 0 rfl (v_fldB fo_32_3 rfl) gn rfl ?_
 refine wl_v 1 rfl (v_ldB1 0 ld_4 rfl rfl rfl) gn rfl ?_
 refine wl_v 2 rfl (v_move rfl) gn rfl ?_
 by_cases hp17 : x1.ok = true
 ·have h := if_pos' hp17 h
  refine w_bool 7 rfl (hp17) ?_
  refine wl_v 3 rfl (v_move rfl) (gy 7 rfl rfl) rfl ?_
  refine wl_v 4 rfl (v_bin rfl rfl rfl) (gy 7 rfl rfl) rfl ?_
  refine wl_v 5 rfl (v_pick (b := true) rfl rfl) gn rfl ?_
  refine wl_v 6 rfl (v_move rfl) gn rfl ?_
  by_cases hp18 : x14 ≥ 0
  ·have h := if_pos' hp18 h
   refine w_bool 11 rfl ((decide_eq_true hp18)) ?_
   refine wl_v 7 rfl (v_move rfl) (gy 11 rfl rfl) rfl ?_
   refine wl_v 8 rfl (v_fldB fo_32_0 rfl) (gy 11 rfl rfl) rfl ?_
   refine wl_v 9 rfl (v_ldB1 0 ld_22 rfl rfl rfl) (gy 11 rfl rfl) rfl ?_
   refine wl_v 10 rfl (v_lenQ un_22 rfl h5.hq) (gy 11 rfl rfl) rfl ?_
   refine wl_v 11 rfl (v_bin rfl rfl rfl) (gy 11 rfl rfl) rfl ?_
   refine wl_v 12 rfl (v_pick (b := true) rfl rfl) gn rfl ?_
   refine wl_v 13 rfl (v_assign rfl) gn rfl ?_
   refine w_end 14 rfl ?_
   refine g_retR (c := q46c4) [.bool (decide (x14 < (x1.nodes.length : Int)))] rfl Try.func46 rfl (.tmp rfl (.nil)) fun wr hLr => ?_
   have hMr : B.Loc w wr [] [St w []] := hLr.pick0 (sels [1] rfl)
   show tree_forest_has_R w F  r (.returned (packV [.bool (decide (x14 < (x1.nodes.length : Int)))])) wr
   rw [h]
   exact ⟨rfl, hMr⟩
  ·have h := if_neg' hp18 h
   refine w_bool 11 rfl ((decide_eq_false hp18)) ?_
   refine wl_pass 7 rfl (ps 11 rfl rfl rfl) ?_
   refine wl_pass 8 rfl (ps 11 rfl rfl rfl) ?_
   refine wl_pass 9 rfl (ps 11 rfl rfl rfl) ?_
   refine wl_pass 10 rfl (ps 11 rfl rfl rfl) ?_
   refine wl_pass 11 rfl (ps 11 rfl rfl rfl) ?_
   refine wl_v 12 rfl (v_pick (b := false) rfl rfl) gn rfl ?_
   refine wl_v 13 rfl (v_assign rfl) gn rfl ?_
   refine w_end 14 rfl ?_
   refine g_retR (c := q46c4) [.bool false] rfl Try.func46 rfl (.tmp rfl (.nil)) fun wr hLr => ?_
   have hMr : B.Loc w wr [] [St w []] := hLr.pick0 (sels [1] rfl)
   show tree_forest_has_R w F  r (.returned (packV [.bool false])) wr
   rw [h]
   exact ⟨rfl, hMr⟩
 ·have h := if_neg' hp17 h
  refine w_bool 7 rfl ((bf hp17)) ?_
  refine wl_pass 3 rfl (ps 7 rfl rfl rfl) ?_
  refine wl_pass 4 rfl (ps 7 rfl rfl rfl) ?_
  refine wl_v 5 rfl (v_pick (b := false) rfl rfl) gn rfl ?_
  refine wl_v 6 rfl (v_move rfl) gn rfl ?_
  refine wl_pass 7 rfl (ps 11 rfl rfl rfl) ?_
  refine wl_pass 8 rfl (ps 11 rfl rfl rfl) ?_
  refine wl_pass 9 rfl (ps 11 rfl rfl rfl) ?_
  refine wl_pass 10 rfl (ps 11 rfl rfl rfl) ?_
  refine wl_pass 11 rfl (ps 11 rfl rfl rfl) ?_
  refine wl_v 12 rfl (v_pick (b := false) rfl rfl) gn rfl ?_
  refine wl_v 13 rfl (v_assign rfl) gn rfl ?_
  refine w_end 14 rfl ?_
  refine g_retR (c := q46c4) [.bool false] rfl Try.func46 rfl (.tmp rfl (.nil)) fun wr hLr => ?_
  have hMr : B.Loc w wr [] [St w []] := hLr.pick0 (sels [1] rfl)
  show tree_forest_has_R w F  r (.returned (packV [.bool false])) wr
  rw [h]
  exact ⟨rfl, hMr⟩
noncomputable abbrev q25c0 : Code := bodyOf Try.f25
noncomputable abbrev q25c1 : Code := Code.fst q25c0
noncomputable abbrev q25c2 : Code := Code.snd q25c0
noncomputable abbrev q25c3 : Code := Code.fst q25c2
noncomputable abbrev q25c4 : Code := Code.snd q25c2
noncomputable abbrev q25c5 : Code := Code.fst q25c3
noncomputable abbrev q25c6 : Code := Code.snd q25c3
noncomputable abbrev q25c7 : Code := Code.fst q25c6
noncomputable abbrev q25c8 : Code := Code.snd q25c6
noncomputable abbrev q25c9 : Code := Code.fst q25c7
noncomputable abbrev q25c10 : Code := Code.snd q25c7
noncomputable abbrev q25c11 : Code := Code.fst q25c4
noncomputable abbrev q25c12 : Code := Code.snd q25c4
noncomputable abbrev q25c13 : Code := Code.fst q25c12
noncomputable abbrev q25c14 : Code := Code.snd q25c12
abbrev tree_Token_R (w : World) (F : Nat → Prop) (r : List api_Node) : Ending → World → Prop := fun e w' => ∃ A0 : Option Addr, ∃ n0 : Nat, ∃ c0 : Nat, e = .returned (.slice A0 n0 c0) ∧ B.Loc w w' [.own (.slice A0 n0 c0) 39 7 n0 (r.flatMap enc_api_Node)] [St w []] ∧ Ow w.heap.size A0 n0 c0 r
noncomputable abbrev tree_Token_C (w : World) (F : Nat → Prop) (r : List api_Node) : Cx := ⟨Try.prog, 25, Try.f25, 38, tree_Token_R w F  r, w⟩
theorem tree_Token_calls (w : World) (F : Nat → Prop) (x1 : api_Lang) (x46 : Int) (x47 : Int) (x48 : Int) (x49 : Int) (A2 : Option Addr) (n3 : Nat) (c4 : Nat) (A6 : Option Addr) (n7 : Nat) (c8 : Nat) (A10 : Option Addr) (n11 : Nat) (c12 : Nat) (A14 : Option Addr) (n15 : Nat) (c16 : Nat) (A18 : Option Addr) (n19 : Nat) (c20 : Nat) (A22 : Option Addr) (n23 : Nat) (c24 : Nat) (A26 : Option Addr) (n27 : Nat) (c28 : Nat) (A30 : Option Addr) (n31 : Nat) (c32 : Nat) (A34 : Option Addr) (n35 : Nat) (c36 : Nat) (A38 : Option Addr) (n39 : Nat) (c40 : Nat) (A42 : Option Addr) (n43 : Nat) (c44 : Nat) (h5 : Rw k_api_ModeDef w (St w []).av A2 n3 c4 x1.modes) (h9 : Rw k_api_TermDef w (St w []).av A6 n7 c8 x1.gram.terms) (h13 : Rw k_api_Sym w (St w []).av A10 n11 c12 x1.gram.syms) (h17 : Rw k_api_Prod w (St w []).av A14 n15 c16 x1.gram.prods) (h21 : Rw k_api_Rule w (St w []).av A18 n19 c20 x1.rules) (h25 : Rw (Kd.slice k_api_Action) w (St w []).av A22 n23 c24 x1.table.actions) (h29 : Rw (Kd.slice (kInt .i64)) w (St w []).av A26 n27 c28 x1.table.gotos) (h33 : Rw k_api_PaintDef w (St w []).av A30 n31 c32 x1.paints) (h37 : Rw kStr w (St w []).av A34 n35 c36 x1.folds) (h41 : Rw k_api_MarkDef w (St w []).av A38 n39 c40 x1.marks) (h45 : Rw k_api_InjectDef w (St w []).av A42 n43 c44 x1.injects) (hF : ∀ b, F b → b < w.heap.size ∧ ∀ o ∈ ([] : List (List Nat)), b ∉ o) (hL0 : B.Loc w w [] [Sm w.heap.size F w [], St w []]) (r : List api_Node) (h : tree_Token x1 x46 x47 x48 x49 r) : Calls Try.prog 25 #[.agg #[.string x1.name, .slice A2 n3 c4, .slice A6 n7 c8, .slice A10 n11 c12, .slice A14 n15 c16, .slice A18 n19 c20, .slice A22 n23 c24, .slice A26 n27 c28, .slice A30 n31 c32, .slice A34 n35 c36, .slice A38 n39 c40, .slice A42 n43 c44], .int .i64 x46, .int .i64 x47, .int .i64 x48, .int .i64 x49] w (tree_Token_R w F  r) := by
 unfold tree_Token at h
 refine calls_of_Loc (vs := [.agg #[.string x1.name, .slice A2 n3 c4, .slice A6 n7 c8, .slice A10 n11 c12, .slice A14 n15 c16, .slice A18 n19 c20, .slice A22 n23 c24, .slice A26 n27 c28, .slice A30 n31 c32, .slice A34 n35 c36, .slice A38 n39 c40, .slice A42 n43 c44], .int .i64 x46, .int .i64 x47, .int .i64 x48, .int .i64 x49]) 38 Try.func25 rfl Try.ntmps25 rfl hL0 ?_
 show G (tree_Token_C w F r) _ _ _ _
 refine g_seq (c := q25c0) rfl ?_
 refine g_region (c := q25c1) rfl rfl ?_
 refine wl_s 0 rfl (s_box [.string x1.name, .slice A2 n3 c4, .slice A6 n7 c8, .slice A10 n11 c12, .slice A14 n15 c16, .slice A18 n19 c20, .slice A22 n23 c24, .slice A26 n27 c28, .slice A30 n31 c32, .slice A34 n35 c36, .slice A38 n39 c40, .slice A42 n43 c44] rfl rfl rfl fun gb50 => ?_) gn
 refine wl_v 1 rfl (v_assign rfl) gn rfl ?_
 refine w_end 2 rfl ?_
 refine g_seq (c := q25c2) rfl ?_
 refine g_seq (c := q25c3) rfl ?_
 have j1 : ∀ (x54 : Bool) (h : tree_Token_j1 x46 x1 x48 x49 x47 x54 r) , G (tree_Token_C w F r) [.code q25c6, .code q25c4] [(1, .int .i64 x46), (2, .int .i64 x47), (3, .int .i64 x48), (4, .int .i64 x49), (5, .pointer (some ⟨gb50, 0, none⟩)), (21, .bool x54)] [.box gb50 58 [.string x1.name, .slice A2 n3 c4, .slice A6 n7 c8, .slice A10 n11 c12, .slice A14 n15 c16, .slice A18 n19 c20, .slice A22 n23 c24, .slice A26 n27 c28, .slice A30 n31 c32, .slice A34 n35 c36, .slice A38 n39 c40, .slice A42 n43 c44]] [Sm w.heap.size F w [], St w []] := by
  intro x54 h
  unfold tree_Token_j1 at h
  by_cases hp55 : x54 = true
  ·have h := if_pos' hp55 h
   refine g_true (c := q25c6) rfl _ rfl (hp55) ?_
   refine g_seq (c := q25c7) rfl ?_
   refine g_region (c := q25c9) rfl rfl ?_
   refine wl_v 0 rfl (v_assign rfl) gn rfl ?_
   refine w_end 1 rfl ?_
   refine g_nil 39 7 ?_
   refine g_retR (c := q25c10) [.slice none 0 0] rfl Try.func25 rfl (.tmp rfl (.nil)) fun wr hLr => ?_
   have hMr : B.Loc w wr [.own (.slice none 0 0) 39 7 0 (([] : List api_Node).flatMap enc_api_Node)] [St w []] := hLr.pick (rest := [.box gb50 58 [.string x1.name, .slice A2 n3 c4, .slice A6 n7 c8, .slice A10 n11 c12, .slice A14 n15 c16, .slice A18 n19 c20, .slice A22 n23 c24, .slice A26 n27 c28, .slice A30 n31 c32, .slice A34 n35 c36, .slice A38 n39 c40, .slice A42 n43 c44]]) (perm_of_idx [0] [1] rfl rfl (by kernel_rfl)) (sels [1] rfl)
   show tree_Token_R w F  r (.returned (packV [.slice none 0 0])) wr
   rw [h]
   exact ⟨none, 0, 0, rfl, hMr, (Ow.nil (z := w.heap.size))⟩
  ·have h := if_neg' hp55 h
   refine g_false (c := q25c6) rfl _ rfl ((bf hp55)) ?_
   refine g_skip (c := q25c8) rfl ?_
   refine g_seq (c := q25c4) rfl ?_
   refine g_region (c := q25c11) rfl rfl ?_
   refine wl_v 0 rfl (v_fldB fo_58_2 rfl) gn rfl ?_
   refine wl_v 1 rfl (v_fldB fo_47_0 rfl) gn rfl ?_
   refine wl_v 2 rfl (v_ldB1 0 ld_43 rfl rfl rfl) gn rfl ?_
   refine wl_v 3 rfl (v_move rfl) gn rfl ?_
   obtain ⟨hb56, h⟩ := h
   have hr57 := Rw.readF (s := St w []) (hl := hl_api_TermDef) (h1 := h1_api_TermDef) h9 hb56
   refine wl_v 4 rfl (v_idxR (s := St w []) slE_43 rfl rfl h9 hb56) gn rfl ?_
   refine wl_v 5 rfl (v_ldA (St w []) ld_100 rfl hr57 rfl (me 1 rfl)) gn rfl ?_
   refine wl_s 6 rfl (s_alloc [.string (⟨#[]⟩ : ByteArray), .bool false] zr_100 rfl fun gb58 => ?_) gn
   refine wl_s 7 rfl (s_stB (vs := [.string ((ix x1.gram.terms x46).name), .bool ((ix x1.gram.terms x46).lit)]) (cs' := [.string ((ix x1.gram.terms x46).name), .bool ((ix x1.gram.terms x46).lit)]) (M' := [.box gb58 100 [.string ((ix x1.gram.terms x46).name), .bool ((ix x1.gram.terms x46).lit)], .box gb50 58 [.string x1.name, .slice A2 n3 c4, .slice A6 n7 c8, .slice A10 n11 c12, .slice A14 n15 c16, .slice A18 n19 c20, .slice A22 n23 c24, .slice A26 n27 c28, .slice A30 n31 c32, .slice A34 n35 c36, .slice A38 n39 c40, .slice A42 n43 c44]]) 0 sz_100 rfl rfl rfl rfl rfl rfl rfl rfl rfl ?_) gn
   refine w_end 8 rfl ?_
   refine g_seq (c := q25c12) rfl ?_
   refine g_region (c := q25c13) rfl rfl ?_
   refine wl_v 0 rfl (v_fldB fo_100_0 rfl) gn rfl ?_
   refine wl_v 1 rfl (v_ldB1 0 ld_9 rfl rfl rfl) gn rfl ?_
   refine wl_v 2 rfl (v_fldB fo_100_1 rfl) gn rfl ?_
   refine wl_v 3 rfl (v_ldB1 0 ld_4 rfl rfl rfl) gn rfl ?_
   refine wl_v 4 rfl (v_not rfl) gn rfl ?_
   refine wl_v 5 rfl (v_move rfl) gn rfl ?_
   refine wl_v 6 rfl (v_move rfl) gn rfl ?_
   refine wl_v 7 rfl (v_move rfl) gn rfl ?_
   refine wl_v 8 rfl (v_build #[.string ((ix x1.gram.terms x46).name), .bool (!((ix x1.gram.terms x46).lit)), .string (⟨#[]⟩ : ByteArray), .int .i64 x48, .int .i64 x49, .int .i64 0, .int .i64 x47] bd_39 rfl (by kernel_rfl)) gn rfl ?_
   refine wl_s 9 rfl (s_litO (xs := ([(⟨(ix x1.gram.terms x46).name, (!((ix x1.gram.terms x46).lit)), (⟨#[]⟩ : ByteArray), x48, x49, 0, x47⟩ : api_Node)] : List api_Node)) [.string ((ix x1.gram.terms x46).name), .bool (!((ix x1.gram.terms x46).lit)), .string (⟨#[]⟩ : ByteArray), .int .i64 x48, .int .i64 x49, .int .i64 0, .int .i64 x47] bs_22_1 rfl (by kernel_rfl) rfl rfl rfl rfl fun gb61 h62 => ?_) gn
   refine wl_v 10 rfl (v_assign rfl) gn rfl ?_
   refine w_end 11 rfl ?_
   refine g_retR (c := q25c14) [.slice (some ⟨gb61, 0, none⟩) 1 1] rfl Try.func25 rfl (.tmp rfl (.nil)) fun wr hLr => ?_
   have hMr : B.Loc w wr [.own (.slice (some ⟨gb61, 0, none⟩) 1 1) 39 7 1 (([(⟨(ix x1.gram.terms x46).name, (!((ix x1.gram.terms x46).lit)), (⟨#[]⟩ : ByteArray), x48, x49, 0, x47⟩ : api_Node)] : List api_Node).flatMap enc_api_Node)] [St w []] := hLr.pick (rest := [.box gb58 100 [.string ((ix x1.gram.terms x46).name), .bool ((ix x1.gram.terms x46).lit)], .box gb50 58 [.string x1.name, .slice A2 n3 c4, .slice A6 n7 c8, .slice A10 n11 c12, .slice A14 n15 c16, .slice A18 n19 c20, .slice A22 n23 c24, .slice A26 n27 c28, .slice A30 n31 c32, .slice A34 n35 c36, .slice A38 n39 c40, .slice A42 n43 c44]]) (perm_of_idx [0] [1, 2] rfl rfl (by kernel_rfl)) (sels [1] rfl)
   show tree_Token_R w F  r (.returned (packV [.slice (some ⟨gb61, 0, none⟩) 1 1])) wr
   rw [h]
   exact ⟨(some ⟨gb61, 0, none⟩), 1, 1, rfl, hMr, h62⟩
 refine g_region (c := q25c5) rfl rfl ?_
 refine wl_v 0 rfl (v_move rfl) gn rfl ?_
 refine wl_v 1 rfl (v_bin rfl rfl rfl) gn rfl ?_
 refine wl_v 2 rfl (v_move rfl) gn rfl ?_
 by_cases hp63 : x46 < 1
 ·have h := if_pos' hp63 h
  refine w_bool 14 rfl ((decide_eq_true hp63)) ?_
  refine wl_pass 3 rfl (ps 14 rfl rfl rfl) ?_
  refine wl_pass 4 rfl (ps 14 rfl rfl rfl) ?_
  refine wl_pass 5 rfl (ps 14 rfl rfl rfl) ?_
  refine wl_pass 6 rfl (ps 14 rfl rfl rfl) ?_
  refine wl_pass 7 rfl (ps 14 rfl rfl rfl) ?_
  refine wl_pass 8 rfl (ps 14 rfl rfl rfl) ?_
  refine wl_v 9 rfl (v_pick (b := true) rfl rfl) gn rfl ?_
  refine w_end 10 rfl ?_
  exact g_go [0, 1] (j1 true h) ⟨rfl, rfl, rfl, rfl, rfl, rfl, trivial⟩ (.cons_cons _ (.slnil)) rfl
 ·have h := if_neg' hp63 h
  refine w_bool 14 rfl ((decide_eq_false hp63)) ?_
  refine wl_v 3 rfl (v_move rfl) (gy 14 rfl rfl) rfl ?_
  refine wl_v 4 rfl (v_fldB fo_58_2 rfl) (gy 14 rfl rfl) rfl ?_
  refine wl_v 5 rfl (v_fldB fo_47_0 rfl) (gy 14 rfl rfl) rfl ?_
  refine wl_v 6 rfl (v_ldB1 0 ld_43 rfl rfl rfl) (gy 14 rfl rfl) rfl ?_
  refine wl_v 7 rfl (v_lenQ un_43 rfl h9.hq) (gy 14 rfl rfl) rfl ?_
  refine wl_v 8 rfl (v_bin rfl rfl rfl) (gy 14 rfl rfl) rfl ?_
  refine wl_v 9 rfl (v_pick (b := false) rfl rfl) gn rfl ?_
  refine w_end 10 rfl ?_
  exact g_go [0, 1] (j1 (decide (x46 ≥ (x1.gram.terms.length : Int))) h) ⟨rfl, rfl, rfl, rfl, rfl, rfl, trivial⟩ (.cons_cons _ (.slnil)) rfl
noncomputable abbrev q66c0 : Code := bodyOf Try.f66
noncomputable abbrev q66c1 : Code := Code.fst q66c0
noncomputable abbrev q66c2 : Code := Code.snd q66c0
noncomputable abbrev q66c3 : Code := Code.fst q66c2
noncomputable abbrev q66c4 : Code := Code.snd q66c2
noncomputable abbrev q66c5 : Code := Code.fst q66c4
noncomputable abbrev q66c6 : Code := Code.snd q66c4
noncomputable abbrev q66c7 : Code := Code.fst q66c5
noncomputable abbrev q66c8 : Code := Code.fst q66c7
noncomputable abbrev q66c9 : Code := Code.fst q66c8
noncomputable abbrev q66c10 : Code := Code.snd q66c8
noncomputable abbrev q66c11 : Code := Code.fst q66c9
noncomputable abbrev q66c12 : Code := Code.snd q66c9
noncomputable abbrev q66c13 : Code := Code.fst q66c12
noncomputable abbrev q66c14 : Code := Code.snd q66c12
noncomputable abbrev q66c15 : Code := Code.fst q66c10
noncomputable abbrev q66c16 : Code := Code.snd q66c10
noncomputable abbrev q66c17 : Code := Code.fst q66c15
noncomputable abbrev q66c18 : Code := Code.fst q66c6
noncomputable abbrev q66c19 : Code := Code.snd q66c6
abbrev tree_forest_beside_R (w : World) (F : Nat → Prop) (r : List Int) : Ending → World → Prop := fun e w' => ∃ A0 : Option Addr, ∃ n0 : Nat, ∃ c0 : Nat, e = .returned (.slice A0 n0 c0) ∧ B.Loc w w' [.own (.slice A0 n0 c0) 3 1 n0 (r.flatMap (eI .i64))] [St w []] ∧ Ow w.heap.size A0 n0 c0 r
noncomputable abbrev tree_forest_beside_C (w : World) (F : Nat → Prop) (r : List Int) : Cx := ⟨Try.prog, 66, Try.f66, 21, tree_forest_beside_R w F  r, w⟩
theorem tree_forest_beside_calls (w : World) (F : Nat → Prop) (x1 : tree_forest) (x14 : Int) (x15 : Int) (A2 : Option Addr) (n3 : Nat) (c4 : Nat) (A6 : Option Addr) (n7 : Nat) (c8 : Nat) (A10 : Option Addr) (n11 : Nat) (c12 : Nat) (h5 : Rw k_api_Node w (St w []).av A2 n3 c4 x1.nodes) (h9 : Rw (kInt .i64) w (St w []).av A6 n7 c8 x1.parent) (h13 : Rw (kInt .i64) w (St w []).av A10 n11 c12 x1.end_) (hF : ∀ b, F b → b < w.heap.size ∧ ∀ o ∈ ([] : List (List Nat)), b ∉ o) (hL0 : B.Loc w w [] [Sm w.heap.size F w [], St w []]) (r : List Int) (h : tree_forest_beside x1 x14 x15 r) : Calls Try.prog 66 #[.agg #[.slice A2 n3 c4, .slice A6 n7 c8, .slice A10 n11 c12, .bool x1.ok], .int .i64 x14, .int .i64 x15] w (tree_forest_beside_R w F  r) := by
 unfold tree_forest_beside at h
 refine calls_of_Loc (vs := [.agg #[.slice A2 n3 c4, .slice A6 n7 c8, .slice A10 n11 c12, .bool x1.ok], .int .i64 x14, .int .i64 x15]) 21 Try.func66 rfl Try.ntmps66 rfl hL0 ?_
 show G (tree_forest_beside_C w F r) _ _ _ _
 refine g_seq (c := q66c0) rfl ?_
 refine g_region (c := q66c1) rfl rfl ?_
 refine wl_s 0 rfl (s_box [.slice A2 n3 c4, .slice A6 n7 c8, .slice A10 n11 c12, .bool x1.ok] rfl rfl rfl fun gb16 => ?_) gn
 refine wl_v 1 rfl (v_assign rfl) gn rfl ?_
 refine w_end 2 rfl ?_
 refine g_seq (c := q66c2) rfl ?_
 refine g_region (c := q66c3) rfl rfl ?_
 refine wl_v 0 rfl (v_assign rfl) gn rfl ?_
 refine w_end 1 rfl ?_
 refine g_seq (c := q66c4) rfl ?_
 refine g_block (c := q66c5) rfl ?_
 refine g_loop (c := q66c7) rfl ?_
 have key1 : ∀ s, Rounds (fun (s : Int × (List Int)) o => tree_forest_beside_b1 x15 x1 s.1 s.2 o) s r → (fun (s : Int × (List Int)) => ∀ (A34 : Option Addr) (n35 : Nat) (c36 : Nat) (h37 : Ow w.heap.size A34 n35 c36 s.2), G (tree_forest_beside_C w F r) [.code q66c8, .inLoop q66c8, .inBlock 0, .code q66c6] [(1, .int .i64 s.1), (2, .int .i64 x15), (3, .pointer (some ⟨gb16, 0, none⟩)), (7, .slice A34 n35 c36)] [.own (.slice A34 n35 c36) 3 1 n35 (s.2.flatMap (eI .i64)), .box gb16 32 [.slice A2 n3 c4, .slice A6 n7 c8, .slice A10 n11 c12, .bool x1.ok]] [Sm w.heap.size F w [], St w []]) s := by
  intro s hs
  refine Rounds.ind (mot := (fun (s : Int × (List Int)) => ∀ (A34 : Option Addr) (n35 : Nat) (c36 : Nat) (h37 : Ow w.heap.size A34 n35 c36 s.2), G (tree_forest_beside_C w F r) [.code q66c8, .inLoop q66c8, .inBlock 0, .code q66c6] [(1, .int .i64 s.1), (2, .int .i64 x15), (3, .pointer (some ⟨gb16, 0, none⟩)), (7, .slice A34 n35 c36)] [.own (.slice A34 n35 c36) 3 1 n35 (s.2.flatMap (eI .i64)), .box gb16 32 [.slice A2 n3 c4, .slice A6 n7 c8, .slice A10 n11 c12, .bool x1.ok]] [Sm w.heap.size F w [], St w []])) ?_ hs
  clear hs s
  intro s o1 h hO1
  obtain ⟨x32, x33⟩ := s
  show ∀ (A34 : Option Addr) (n35 : Nat) (c36 : Nat) (h37 : Ow w.heap.size A34 n35 c36 x33), G (tree_forest_beside_C w F r) [.code q66c8, .inLoop q66c8, .inBlock 0, .code q66c6] [(1, .int .i64 x32), (2, .int .i64 x15), (3, .pointer (some ⟨gb16, 0, none⟩)), (7, .slice A34 n35 c36)] [.own (.slice A34 n35 c36) 3 1 n35 (x33.flatMap (eI .i64)), .box gb16 32 [.slice A2 n3 c4, .slice A6 n7 c8, .slice A10 n11 c12, .bool x1.ok]] [Sm w.heap.size F w [], St w []]
  intro A34 n35 c36 h37
  have h : tree_forest_beside_b1 x15 x1 x32 x33 o1 := h
  unfold tree_forest_beside_b1 at h
  refine g_seq (c := q66c8) rfl ?_
  refine g_seq (c := q66c9) rfl ?_
  refine g_region (c := q66c11) rfl rfl ?_
  refine wl_v 0 rfl (v_move rfl) gn rfl ?_
  refine wl_v 1 rfl (v_move rfl) gn rfl ?_
  refine wl_v 2 rfl (v_bin rfl rfl rfl) gn rfl ?_
  refine w_end 3 rfl ?_
  by_cases hp50 : x32 < x15
  ·have h := if_pos' hp50 h
   refine g_true (c := q66c12) rfl _ rfl ((decide_eq_true hp50)) ?_
   refine g_skip (c := q66c13) rfl ?_
   refine g_seq (c := q66c10) rfl ?_
   refine g_block (c := q66c15) rfl ?_
   refine g_region (c := q66c17) rfl rfl ?_
   refine wl_v 0 rfl (v_move rfl) gn rfl ?_
   refine wl_v 1 rfl (v_move rfl) gn rfl ?_
   refine wl_s 2 rfl (s_litO (xs := ([x32] : List Int)) [.int .i64 x32] bs_23_1 rfl (by kernel_rfl) rfl rfl rfl rfl fun gb52 h53 => ?_) gn
   obtain ⟨x57, hv58, h⟩ := h
   obtain ⟨hb59, h⟩ := h
   refine wl_s 3 rfl (s_app (zs := x57) (cells' := x57.flatMap (eI .i64)) 1 ap_23 rfl rfl rfl h37 (Nat.le_refl _) (Src.ownF (hl := (hlI .i64)) (h1 := (hone_int .i64)) 0 rfl h53) (by rw [hv58, List.flatMap_append] <;> rfl) (app_len hv58 h53.hq) hb59 rfl rfl fun A54 c55 h56 => ?_) gn
   refine wl_v 4 rfl (v_assign rfl) gn rfl ?_
   refine w_end 5 rfl ?_
   refine g_inBlock ?_
   refine g_region (c := q66c16) rfl rfl ?_
   refine wl_v 0 rfl (v_fldB fo_32_2 rfl) gn rfl ?_
   refine wl_v 1 rfl (v_ldB1 2 ld_23 rfl rfl rfl) gn rfl ?_
   refine wl_v 2 rfl (v_move rfl) gn rfl ?_
   obtain ⟨hb60, h⟩ := h
   have hr61 := Rw.readF (s := St w []) (hl := (hlI .i64)) (h1 := (hone_int .i64)) h13 hb60
   refine wl_v 3 rfl (v_idxR (s := St w []) slE_23 rfl rfl h13 hb60) gn rfl ?_
   refine wl_v 4 rfl (v_ldA1 (kk := (x32 : Int).toNat * 1) (j := 0) (St w []) ld_3 rfl hr61 rfl (me 1 rfl)) gn rfl ?_
   refine wl_v 5 rfl (v_assign rfl) gn rfl ?_
   refine w_end 6 rfl ?_
   refine g_inLoop ?_
   have ih := Out.inl hO1 h
   exact g_go [0, 1] (ih A54 (n35 + 1) c55 h56) ⟨rfl, rfl, rfl, rfl, trivial⟩ (.cons _ (.cons_cons _ (.cons_cons _ (.slnil)))) rfl
  ·have h := if_neg' hp50 h
   refine g_false (c := q66c12) rfl _ rfl ((decide_eq_false hp50)) ?_
   refine g_exit (c := q66c14) [.code q66c6] rfl rfl ?_
   refine g_seq (c := q66c6) rfl ?_
   refine g_region (c := q66c18) rfl rfl ?_
   refine wl_v 0 rfl (v_move rfl) gn rfl ?_
   refine wl_v 1 rfl (v_assign rfl) gn rfl ?_
   refine w_end 2 rfl ?_
   have h := Out.inr hO1 h
   refine g_retR (c := q66c19) [.slice A34 n35 c36] rfl Try.func66 rfl (.tmp rfl (.nil)) fun wr hLr => ?_
   have hMr : B.Loc w wr [.own (.slice A34 n35 c36) 3 1 n35 (x33.flatMap (eI .i64))] [St w []] := hLr.pick (rest := [.box gb16 32 [.slice A2 n3 c4, .slice A6 n7 c8, .slice A10 n11 c12, .bool x1.ok]]) (perm_of_idx [0] [1] rfl rfl (by kernel_rfl)) (sels [1] rfl)
   show tree_forest_beside_R w F  r (.returned (packV [.slice A34 n35 c36])) wr
   rw [h]
   exact ⟨A34, n35, c36, rfl, hMr, h37⟩
 refine g_nil 3 1 ?_
 exact g_go [0, 1] (key1 _ h none 0 0 (Ow.nil (z := w.heap.size))) ⟨rfl, rfl, rfl, rfl, trivial⟩ (.cons_cons _ (.cons_cons _ (.slnil))) rfl
noncomputable abbrev q65c0 : Code := bodyOf Try.f65
noncomputable abbrev q65c1 : Code := Code.fst q65c0
noncomputable abbrev q65c2 : Code := Code.snd q65c0
noncomputable abbrev q65c3 : Code := Code.fst q65c2
noncomputable abbrev q65c4 : Code := Code.snd q65c2
noncomputable abbrev q65c5 : Code := Code.fst q65c4
noncomputable abbrev q65c6 : Code := Code.snd q65c4
noncomputable abbrev q65c7 : Code := Code.fst q65c5
noncomputable abbrev q65c8 : Code := Code.snd q65c5
noncomputable abbrev q65c9 : Code := Code.fst q65c8
noncomputable abbrev q65c10 : Code := Code.snd q65c8
noncomputable abbrev q65c11 : Code := Code.fst q65c6
noncomputable abbrev q65c12 : Code := Code.snd q65c6
noncomputable abbrev q65c13 : Code := Code.fst q65c9
noncomputable abbrev q65c14 : Code := Code.snd q65c9
abbrev tree_roots_R (w : World) (F : Nat → Prop) (r : List Int) : Ending → World → Prop := fun e w' => ∃ A0 : Option Addr, ∃ n0 : Nat, ∃ c0 : Nat, e = .returned (.slice A0 n0 c0) ∧ B.Loc w w' [.own (.slice A0 n0 c0) 3 1 n0 (r.flatMap (eI .i64))] [St w []] ∧ Ow w.heap.size A0 n0 c0 r
noncomputable abbrev tree_roots_C (w : World) (F : Nat → Prop) (r : List Int) : Cx := ⟨Try.prog, 65, Try.f65, 13, tree_roots_R w F  r, w⟩
theorem tree_roots_calls (w : World) (F : Nat → Prop) (x1 : List api_Node) (A2 : Option Addr) (n3 : Nat) (c4 : Nat) (h5 : Rw k_api_Node w (St w []).av A2 n3 c4 x1) (hF : ∀ b, F b → b < w.heap.size ∧ ∀ o ∈ ([] : List (List Nat)), b ∉ o) (hL0 : B.Loc w w [] [Sm w.heap.size F w [], St w []]) (r : List Int) (h : tree_roots x1 r) : Calls Try.prog 65 #[.slice A2 n3 c4] w (tree_roots_R w F  r) := by
 unfold tree_roots at h
 refine calls_of_Loc (vs := [.slice A2 n3 c4]) 13 Try.func65 rfl Try.ntmps65 rfl hL0 ?_
 show G (tree_roots_C w F r) _ _ _ _
 refine g_seq (c := q65c0) rfl ?_
 refine g_region (c := q65c1) rfl rfl ?_
 refine wl_v 0 rfl (v_assign rfl) gn rfl ?_
 refine w_end 1 rfl ?_
 refine g_seq (c := q65c2) rfl ?_
 refine g_region (c := q65c3) rfl rfl ?_
 refine wl_v 0 rfl (v_move rfl) gn rfl ?_
 obtain ⟨r9, hv10, h⟩ := h
 refine wl_s 1 rfl (s_call [.slice A2 n3 c4] rfl Try.func44 rfl rfl rfl fun w6 hL7 => ?_) gn
 have hp8 : List.Perm ([] : List Ent) (([] : List Ent) ++ ([] : List Ent)) := perm_of_idx [] [] rfl rfl (by kernel_rfl)
 refine Calls.mono (tree_plant_calls w6 (Fl ([St w []] : List Snap)) x1 A2 n3 c4 (Rw.mono h5 (hL7.toFl (me 1 rfl) (me 0 rfl))) (hL7.hFl (Sl := ([St w []] : List Snap)) hp8 (sels [1] rfl)) (hL7.into hp8 (Fl ([St w []] : List Snap))) r9 hv10) ?_
 rintro _ w25 ⟨A15, n16, c17, A20, n21, c22, A11, n12, c13, rfl, hM26, h18, h23, h14⟩
 obtain ⟨sv29, hL27, hv28⟩ := hL7.callN (Sl := ([St w []] : List Snap)) hp8 hM26 (sels [1] rfl)
 have h14 : At k_api_Node (sv29) A11 n12 c13 r9.nodes := Rw.mono h14 hv28
 refine ⟨_, _, _, rfl, hL27, ?_⟩
 refine wl_s 2 rfl (s_alloc [.slice none 0 0, .slice none 0 0, .slice none 0 0, .bool false] zr_32 rfl fun gb30 => ?_) gn
 refine wl_s 3 rfl (s_stB (vs := [.slice A11 n12 c13, .slice A15 n16 c17, .slice A20 n21 c22, .bool r9.ok]) (cs' := [.slice A11 n12 c13, .slice A15 n16 c17, .slice A20 n21 c22, .bool r9.ok]) (M' := [.box gb30 32 [.slice A11 n12 c13, .slice A15 n16 c17, .slice A20 n21 c22, .bool r9.ok], .own (.slice A15 n16 c17) 3 1 n16 (r9.parent.flatMap (eI .i64)), .own (.slice A20 n21 c22) 3 1 n21 (r9.end_.flatMap (eI .i64))]) 0 sz_32 rfl rfl rfl rfl rfl rfl rfl rfl rfl ?_) gn
 refine w_end 4 rfl ?_
 refine g_seq (c := q65c4) rfl ?_
 refine g_seq (c := q65c5) rfl ?_
 refine g_region (c := q65c7) rfl rfl ?_
 refine wl_v 0 rfl (v_fldB fo_32_3 rfl) gn rfl ?_
 refine wl_v 1 rfl (v_ldB1 0 ld_4 rfl rfl rfl) gn rfl ?_
 refine wl_v 2 rfl (v_not rfl) gn rfl ?_
 refine w_end 3 rfl ?_
 by_cases hp32 : r9.ok = true
 ·have h := if_pos' hp32 h
  refine g_false (c := q65c8) rfl _ rfl ((nf hp32)) ?_
  refine g_skip (c := q65c10) rfl ?_
  refine g_seq (c := q65c6) rfl ?_
  refine g_region (c := q65c11) rfl rfl ?_
  refine wl_v 0 rfl (v_ldB [.slice A11 n12 c13, .slice A15 n16 c17, .slice A20 n21 c22, .bool r9.ok] 0 ld_32 rfl rfl rfl rfl) gn rfl ?_
  refine wl_v 1 rfl (v_move rfl) gn rfl ?_
  refine wl_v 2 rfl (v_lenQ un_22 rfl h5.hq) gn rfl ?_
  obtain ⟨r36, hv37, h⟩ := h
  refine wl_s 3 rfl (s_call [.agg #[.slice A11 n12 c13, .slice A15 n16 c17, .slice A20 n21 c22, .bool r9.ok], .int .i64 0, .int .i64 (x1.length : Int)] rfl Try.func66 rfl rfl rfl fun w33 hL34 => ?_) gn
  have hp35 : List.Perm ([.box gb30 32 [.slice A11 n12 c13, .slice A15 n16 c17, .slice A20 n21 c22, .bool r9.ok], .own (.slice A15 n16 c17) 3 1 n16 (r9.parent.flatMap (eI .i64)), .own (.slice A20 n21 c22) 3 1 n21 (r9.end_.flatMap (eI .i64))] : List Ent) (([] : List Ent) ++ ([.box gb30 32 [.slice A11 n12 c13, .slice A15 n16 c17, .slice A20 n21 c22, .bool r9.ok], .own (.slice A15 n16 c17) 3 1 n16 (r9.parent.flatMap (eI .i64)), .own (.slice A20 n21 c22) 3 1 n21 (r9.end_.flatMap (eI .i64))] : List Ent)) := perm_of_idx [] [0, 1, 2] rfl rfl (by kernel_rfl)
  refine Calls.mono (tree_forest_beside_calls w33 (Fl ([] : List Snap)) r9 0 (x1.length : Int) A11 n12 c13 A15 n16 c17 A20 n21 c22 (Rw.mono h14 (hL34.toSt hp35 (me 0 rfl))) (hL34.argO (dk := (kInt .i64)) hp35 [] rfl 1 rfl rfl (Ow.weak hL7.env.size h18) (me 1 rfl) (Cells.flat _)) (hL34.argO (dk := (kInt .i64)) hp35 [] rfl 2 rfl rfl (Ow.weak hL7.env.size h23) (me 1 rfl) (Cells.flat _)) (hL34.hFl (Sl := ([] : List Snap)) hp35 (sels [] rfl)) (hL34.into hp35 (Fl ([] : List Snap))) r36 hv37) ?_
  rintro _ w43 ⟨A38, n39, c40, rfl, hM44, h41⟩
  have hL45 := hL34.call hp35 hM44
  refine ⟨_, _, _, rfl, hL45, ?_⟩
  refine wl_v 4 rfl (v_assign rfl) gn rfl ?_
  refine w_end 5 rfl ?_
  refine g_retR (c := q65c12) [.slice A38 n39 c40] rfl Try.func65 rfl (.tmp rfl (.nil)) fun wr hLr => ?_
  have hMr : B.Loc w wr [.own (.slice A38 n39 c40) 3 1 n39 (r36.flatMap (eI .i64))] [St w []] := hLr.pick (rest := [.box gb30 32 [.slice A11 n12 c13, .slice A15 n16 c17, .slice A20 n21 c22, .bool r9.ok], .own (.slice A15 n16 c17) 3 1 n16 (r9.parent.flatMap (eI .i64)), .own (.slice A20 n21 c22) 3 1 n21 (r9.end_.flatMap (eI .i64))]) (perm_of_idx [0] [1, 2, 3] rfl rfl (by kernel_rfl)) (sels [2] rfl)
  show tree_roots_R w F  r (.returned (packV [.slice A38 n39 c40])) wr
  rw [h]
  exact ⟨A38, n39, c40, rfl, hMr, (Ow.weak hL34.env.size h41)⟩
 ·have h := if_neg' hp32 h
  refine g_true (c := q65c8) rfl _ rfl ((nt (bf hp32))) ?_
  refine g_seq (c := q65c9) rfl ?_
  refine g_region (c := q65c13) rfl rfl ?_
  refine wl_v 0 rfl (v_assign rfl) gn rfl ?_
  refine w_end 1 rfl ?_
  refine g_nil 3 1 ?_
  refine g_retR (c := q65c14) [.slice none 0 0] rfl Try.func65 rfl (.tmp rfl (.nil)) fun wr hLr => ?_
  have hMr : B.Loc w wr [.own (.slice none 0 0) 3 1 0 (([] : List Int).flatMap (eI .i64))] [St w []] := hLr.pick (rest := [.box gb30 32 [.slice A11 n12 c13, .slice A15 n16 c17, .slice A20 n21 c22, .bool r9.ok], .own (.slice A15 n16 c17) 3 1 n16 (r9.parent.flatMap (eI .i64)), .own (.slice A20 n21 c22) 3 1 n21 (r9.end_.flatMap (eI .i64))]) (perm_of_idx [0] [1, 2, 3] rfl rfl (by kernel_rfl)) (sels [2] rfl)
  show tree_roots_R w F  r (.returned (packV [.slice none 0 0])) wr
  rw [h]
  exact ⟨none, 0, 0, rfl, hMr, (Ow.nil (z := w.heap.size))⟩
noncomputable abbrev q37c0 : Code := bodyOf Try.f37
noncomputable abbrev q37c1 : Code := Code.fst q37c0
noncomputable abbrev q37c2 : Code := Code.snd q37c0
noncomputable abbrev q37c3 : Code := Code.fst q37c2
noncomputable abbrev q37c4 : Code := Code.snd q37c2
noncomputable abbrev q37c5 : Code := Code.fst q37c3
noncomputable abbrev q37c6 : Code := Code.snd q37c3
noncomputable abbrev q37c7 : Code := Code.fst q37c6
noncomputable abbrev q37c8 : Code := Code.snd q37c6
noncomputable abbrev q37c9 : Code := Code.fst q37c4
noncomputable abbrev q37c10 : Code := Code.snd q37c4
noncomputable abbrev q37c11 : Code := Code.fst q37c7
noncomputable abbrev q37c12 : Code := Code.snd q37c7
abbrev tree_Roots_R (w : World) (F : Nat → Prop) (r : Int) : Ending → World → Prop := fun e w' => e = .returned (.int .i64 r) ∧ B.Loc w w' [] [St w []]
noncomputable abbrev tree_Roots_C (w : World) (F : Nat → Prop) (r : Int) : Cx := ⟨Try.prog, 37, Try.f37, 10, tree_Roots_R w F  r, w⟩
theorem tree_Roots_calls (w : World) (F : Nat → Prop) (x1 : List api_Node) (A2 : Option Addr) (n3 : Nat) (c4 : Nat) (h5 : Rw k_api_Node w (St w []).av A2 n3 c4 x1) (hF : ∀ b, F b → b < w.heap.size ∧ ∀ o ∈ ([] : List (List Nat)), b ∉ o) (hL0 : B.Loc w w [] [Sm w.heap.size F w [], St w []]) (r : Int) (h : tree_Roots x1 r) : Calls Try.prog 37 #[.slice A2 n3 c4] w (tree_Roots_R w F  r) := by
 unfold tree_Roots at h
 refine calls_of_Loc (vs := [.slice A2 n3 c4]) 10 Try.func37 rfl Try.ntmps37 rfl hL0 ?_
 show G (tree_Roots_C w F r) _ _ _ _
 refine g_seq (c := q37c0) rfl ?_
 refine g_region (c := q37c1) rfl rfl ?_
 refine wl_v 0 rfl (v_assign rfl) gn rfl ?_
 refine w_end 1 rfl ?_
 refine g_seq (c := q37c2) rfl ?_
 refine g_seq (c := q37c3) rfl ?_
 refine g_region (c := q37c5) rfl rfl ?_
 refine wl_v 0 rfl (v_move rfl) gn rfl ?_
 obtain ⟨r9, hv10, h⟩ := h
 refine wl_s 1 rfl (s_call [.slice A2 n3 c4] rfl Try.func44 rfl rfl rfl fun w6 hL7 => ?_) gn
 have hp8 : List.Perm ([] : List Ent) (([] : List Ent) ++ ([] : List Ent)) := perm_of_idx [] [] rfl rfl (by kernel_rfl)
 refine Calls.mono (tree_plant_calls w6 (Fl ([St w []] : List Snap)) x1 A2 n3 c4 (Rw.mono h5 (hL7.toFl (me 1 rfl) (me 0 rfl))) (hL7.hFl (Sl := ([St w []] : List Snap)) hp8 (sels [1] rfl)) (hL7.into hp8 (Fl ([St w []] : List Snap))) r9 hv10) ?_
 rintro _ w25 ⟨A15, n16, c17, A20, n21, c22, A11, n12, c13, rfl, hM26, h18, h23, h14⟩
 obtain ⟨sv29, hL27, hv28⟩ := hL7.callN (Sl := ([St w []] : List Snap)) hp8 hM26 (sels [1] rfl)
 have h14 : At k_api_Node (sv29) A11 n12 c13 r9.nodes := Rw.mono h14 hv28
 refine ⟨_, _, _, rfl, hL27, ?_⟩
 refine wl_v 2 rfl (v_field1 fd_32_3 rfl rfl) gn rfl ?_
 refine wl_v 3 rfl (v_not rfl) gn rfl ?_
 refine w_end 4 rfl ?_
 by_cases hp30 : r9.ok = true
 ·have h := if_pos' hp30 h
  refine g_false (c := q37c6) rfl _ rfl ((nf hp30)) ?_
  refine g_skip (c := q37c8) rfl ?_
  refine g_seq (c := q37c4) rfl ?_
  refine g_region (c := q37c9) rfl rfl ?_
  refine wl_v 0 rfl (v_move rfl) gn rfl ?_
  obtain ⟨r34, hv35, h⟩ := h
  refine wl_s 1 rfl (s_call [.slice A2 n3 c4] rfl Try.func65 rfl rfl rfl fun w31 hL32 => ?_) gn
  have hp33 : List.Perm ([.own (.slice A15 n16 c17) 3 1 n16 (r9.parent.flatMap (eI .i64)), .own (.slice A20 n21 c22) 3 1 n21 (r9.end_.flatMap (eI .i64))] : List Ent) (([] : List Ent) ++ ([.own (.slice A15 n16 c17) 3 1 n16 (r9.parent.flatMap (eI .i64)), .own (.slice A20 n21 c22) 3 1 n21 (r9.end_.flatMap (eI .i64))] : List Ent)) := perm_of_idx [] [0, 1] rfl rfl (by kernel_rfl)
  refine Calls.mono (tree_roots_calls w31 (Fl ([] : List Snap)) x1 A2 n3 c4 (Rw.mono h5 (hL32.toSt hp33 (me 2 rfl))) (hL32.hFl (Sl := ([] : List Snap)) hp33 (sels [] rfl)) (hL32.into hp33 (Fl ([] : List Snap))) r34 hv35) ?_
  rintro _ w41 ⟨A36, n37, c38, rfl, hM42, h39⟩
  have hL43 := hL32.call hp33 hM42
  refine ⟨_, _, _, rfl, hL43, ?_⟩
  refine wl_v 2 rfl (v_lenQ un_23 rfl (Ow.weak hL32.env.size h39).hq) gn rfl ?_
  refine wl_v 3 rfl (v_assign rfl) gn rfl ?_
  refine w_end 4 rfl ?_
  refine g_retR (c := q37c10) [.int .i64 (r34.length : Int)] rfl Try.func37 rfl (.tmp rfl (.nil)) fun wr hLr => ?_
  have hMr : B.Loc w wr [] [St w []] := hLr.pick0 (sels [2] rfl)
  show tree_Roots_R w F  r (.returned (packV [.int .i64 (r34.length : Int)])) wr
  rw [h]
  exact ⟨rfl, hMr⟩
 ·have h := if_neg' hp30 h
  refine g_true (c := q37c6) rfl _ rfl ((nt (bf hp30))) ?_
  refine g_seq (c := q37c7) rfl ?_
  refine g_region (c := q37c11) rfl rfl ?_
  refine wl_v 0 rfl (v_assign rfl) gn rfl ?_
  refine w_end 1 rfl ?_
  refine g_retR (c := q37c12) [.int .i64 (-1)] rfl Try.func37 rfl (.tmp rfl (.nil)) fun wr hLr => ?_
  have hMr : B.Loc w wr [] [St w []] := hLr.pick0 (sels [2] rfl)
  show tree_Roots_R w F  r (.returned (packV [.int .i64 (-1)])) wr
  rw [h]
  exact ⟨rfl, hMr⟩
noncomputable abbrev q61c0 : Code := bodyOf Try.f61
noncomputable abbrev q61c1 : Code := Code.fst q61c0
noncomputable abbrev q61c2 : Code := Code.snd q61c0
noncomputable abbrev q61c3 : Code := Code.fst q61c2
noncomputable abbrev q61c4 : Code := Code.snd q61c2
noncomputable abbrev q61c5 : Code := Code.fst q61c3
noncomputable abbrev q61c6 : Code := Code.snd q61c3
noncomputable abbrev q61c7 : Code := Code.fst q61c6
noncomputable abbrev q61c8 : Code := Code.snd q61c6
noncomputable abbrev q61c9 : Code := Code.fst q61c7
noncomputable abbrev q61c10 : Code := Code.snd q61c7
noncomputable abbrev q61c11 : Code := Code.fst q61c4
noncomputable abbrev q61c12 : Code := Code.snd q61c4
abbrev slices_Clone_api_Node_api_Node_R (w : World) (F : Nat → Prop) (r : List api_Node) : Ending → World → Prop := fun e w' => ∃ A0 : Option Addr, ∃ n0 : Nat, ∃ c0 : Nat, e = .returned (.slice A0 n0 c0) ∧ B.Loc w w' [.own (.slice A0 n0 c0) 39 7 n0 (r.flatMap enc_api_Node)] [St w []] ∧ Ow w.heap.size A0 n0 c0 r
noncomputable abbrev slices_Clone_api_Node_api_Node_C (w : World) (F : Nat → Prop) (r : List api_Node) : Cx := ⟨Try.prog, 61, Try.f61, 8, slices_Clone_api_Node_api_Node_R w F  r, w⟩
theorem slices_Clone_api_Node_api_Node_calls (w : World) (F : Nat → Prop) (x1 : List api_Node) (A2 : Option Addr) (n3 : Nat) (c4 : Nat) (h5 : Rw k_api_Node w (St w []).av A2 n3 c4 x1) (hF : ∀ b, F b → b < w.heap.size ∧ ∀ o ∈ ([] : List (List Nat)), b ∉ o) (hL0 : B.Loc w w [] [Sm w.heap.size F w [], St w []]) (r : List api_Node) (h : slices_Clone_api_Node_api_Node x1 r) : Calls Try.prog 61 #[.slice A2 n3 c4] w (slices_Clone_api_Node_api_Node_R w F  r) := by
 unfold slices_Clone_api_Node_api_Node at h
 refine calls_of_Loc (vs := [.slice A2 n3 c4]) 8 Try.func61 rfl Try.ntmps61 rfl hL0 ?_
 show G (slices_Clone_api_Node_api_Node_C w F r) _ _ _ _
 refine g_seq (c := q61c0) rfl ?_
 refine g_region (c := q61c1) rfl rfl ?_
 refine wl_v 0 rfl (v_assign rfl) gn rfl ?_
 refine w_end 1 rfl ?_
 refine g_seq (c := q61c2) rfl ?_
 refine g_seq (c := q61c3) rfl ?_
 refine g_region (c := q61c5) rfl rfl ?_
 refine wl_v 0 rfl (v_move rfl) gn rfl ?_
 obtain ⟨b6, hb7⟩ : ∃ b, b = A2.isNone := ⟨_, rfl⟩
 have h := h b6 (nil_of hb7 (fun h0 => (h5.row.1 (by rw [← h5.hq]; exact h0)).1) h5.hq)
 refine wl_v 1 rfl (v_eqSL un_22 rfl hb7.symm) gn rfl ?_
 refine w_end 2 rfl ?_
 by_cases hp8 : b6 = true
 ·have h := if_pos' hp8 h
  refine g_true (c := q61c6) rfl _ rfl (hp8) ?_
  refine g_seq (c := q61c7) rfl ?_
  refine g_region (c := q61c9) rfl rfl ?_
  refine wl_v 0 rfl (v_assign rfl) gn rfl ?_
  refine w_end 1 rfl ?_
  refine g_nil 39 7 ?_
  refine g_retR (c := q61c10) [.slice none 0 0] rfl Try.func61 rfl (.tmp rfl (.nil)) fun wr hLr => ?_
  have hMr : B.Loc w wr [.own (.slice none 0 0) 39 7 0 (([] : List api_Node).flatMap enc_api_Node)] [St w []] := hLr.pick (rest := []) (perm_of_idx [0] [] rfl rfl (by kernel_rfl)) (sels [1] rfl)
  show slices_Clone_api_Node_api_Node_R w F  r (.returned (packV [.slice none 0 0])) wr
  rw [h]
  exact ⟨none, 0, 0, rfl, hMr, (Ow.nil (z := w.heap.size))⟩
 ·have h := if_neg' hp8 h
  refine g_false (c := q61c6) rfl _ rfl ((bf hp8)) ?_
  refine g_skip (c := q61c8) rfl ?_
  refine g_seq (c := q61c4) rfl ?_
  refine g_region (c := q61c11) rfl rfl ?_
  refine wl_s 0 rfl (s_litO (xs := ([] : List api_Node)) [] bs_22_0 rfl (by kernel_rfl) rfl rfl rfl rfl fun gb10 h11 => ?_) gn
  refine wl_v 1 rfl (v_move rfl) gn rfl ?_
  obtain ⟨x15, hv16, h⟩ := h
  obtain ⟨hb17, h⟩ := h
  refine wl_s 2 rfl (s_app (zs := x15) (cells' := x15.flatMap enc_api_Node) 0 ap_22 rfl rfl rfl h11 (Nat.le_refl _) (Src.readF (s := St w []) (hl := hl_api_Node) (h1 := h1_api_Node) h5 (me 1 rfl)) (by rw [hv16, List.flatMap_append] <;> rfl) (app_len hv16 h5.hq) hb17 rfl rfl fun A12 c13 h14 => ?_) gn
  refine wl_v 3 rfl (v_assign rfl) gn rfl ?_
  refine w_end 4 rfl ?_
  refine g_retR (c := q61c12) [.slice A12 (0 + n3) c13] rfl Try.func61 rfl (.tmp rfl (.nil)) fun wr hLr => ?_
  have hMr : B.Loc w wr [.own (.slice A12 (0 + n3) c13) 39 7 (0 + n3) (x15.flatMap enc_api_Node)] [St w []] := hLr.pick (rest := []) (perm_of_idx [0] [] rfl rfl (by kernel_rfl)) (sels [1] rfl)
  show slices_Clone_api_Node_api_Node_R w F  r (.returned (packV [.slice A12 (0 + n3) c13])) wr
  rw [h]
  exact ⟨A12, 0 + n3, c13, rfl, hMr, h14⟩
noncomputable abbrev q75c0 : Code := bodyOf Try.f75
noncomputable abbrev q75c1 : Code := Code.fst q75c0
noncomputable abbrev q75c2 : Code := Code.snd q75c0
noncomputable abbrev q75c3 : Code := Code.fst q75c2
noncomputable abbrev q75c4 : Code := Code.snd q75c2
abbrev tree_token_R (w : World) (F : Nat → Prop) (r : Bool) : Ending → World → Prop := fun e w' => e = .returned (.bool r) ∧ B.Loc w w' [] [St w []]
noncomputable abbrev tree_token_C (w : World) (F : Nat → Prop) (r : Bool) : Cx := ⟨Try.prog, 75, Try.f75, 14, tree_token_R w F  r, w⟩
theorem tree_token_calls (w : World) (F : Nat → Prop) (x1 : api_Gram) (x14 : Int) (A2 : Option Addr) (n3 : Nat) (c4 : Nat) (A6 : Option Addr) (n7 : Nat) (c8 : Nat) (A10 : Option Addr) (n11 : Nat) (c12 : Nat) (h5 : Rw k_api_TermDef w (St w []).av A2 n3 c4 x1.terms) (h9 : Rw k_api_Sym w (St w []).av A6 n7 c8 x1.syms) (h13 : Rw k_api_Prod w (St w []).av A10 n11 c12 x1.prods) (hF : ∀ b, F b → b < w.heap.size ∧ ∀ o ∈ ([] : List (List Nat)), b ∉ o) (hL0 : B.Loc w w [] [Sm w.heap.size F w [], St w []]) (r : Bool) (h : tree_token x1 x14 r) : Calls Try.prog 75 #[.agg #[.slice A2 n3 c4, .slice A6 n7 c8, .slice A10 n11 c12], .int .i64 x14] w (tree_token_R w F  r) := by
 unfold tree_token at h
 refine calls_of_Loc (vs := [.agg #[.slice A2 n3 c4, .slice A6 n7 c8, .slice A10 n11 c12], .int .i64 x14]) 14 Try.func75 rfl Try.ntmps75 rfl hL0 ?_
 show G (tree_token_C w F r) _ _ _ _
 refine g_seq (c := q75c0) rfl ?_
 refine g_region (c := q75c1) rfl rfl ?_
 refine wl_s 0 rfl (s_box [.slice A2 n3 c4, .slice A6 n7 c8, .slice A10 n11 c12] rfl rfl rfl fun gb15 => ?_) gn
 refine wl_v 1 rfl (v_assign rfl) gn rfl ?_
 refine w_end 2 rfl ?_
 refine g_seq (c := q75c2) rfl ?_
 refine g_region (c := q75c3) rfl rfl ?_
 refine wl_v 0 rfl (v_move rfl) gn rfl ?_
 refine wl_v 1 rfl (v_bin rfl rfl rfl) gn rfl ?_
 refine wl_v 2 rfl (v_move rfl) gn rfl ?_
 by_cases hp17 : x14 ≥ 0
 ·have h := if_pos' hp17 h
  refine w_bool 7 rfl ((decide_eq_true hp17)) ?_
  refine wl_v 3 rfl (v_move rfl) (gy 7 rfl rfl) rfl ?_
  refine wl_v 4 rfl (v_fldB fo_47_0 rfl) (gy 7 rfl rfl) rfl ?_
  refine wl_v 5 rfl (v_ldB1 0 ld_43 rfl rfl rfl) (gy 7 rfl rfl) rfl ?_
  refine wl_v 6 rfl (v_lenQ un_43 rfl h5.hq) (gy 7 rfl rfl) rfl ?_
  refine wl_v 7 rfl (v_bin rfl rfl rfl) (gy 7 rfl rfl) rfl ?_
  refine wl_v 8 rfl (v_pick (b := true) rfl rfl) gn rfl ?_
  refine wl_v 9 rfl (v_assign rfl) gn rfl ?_
  refine w_end 10 rfl ?_
  refine g_retR (c := q75c4) [.bool (decide (x14 < (x1.terms.length : Int)))] rfl Try.func75 rfl (.tmp rfl (.nil)) fun wr hLr => ?_
  have hMr : B.Loc w wr [] [St w []] := hLr.pick0 (sels [1] rfl)
  show tree_token_R w F  r (.returned (packV [.bool (decide (x14 < (x1.terms.length : Int)))])) wr
  rw [h]
  exact ⟨rfl, hMr⟩
 ·have h := if_neg' hp17 h
  refine w_bool 7 rfl ((decide_eq_false hp17)) ?_
  refine wl_pass 3 rfl (ps 7 rfl rfl rfl) ?_
  refine wl_pass 4 rfl (ps 7 rfl rfl rfl) ?_
  refine wl_pass 5 rfl (ps 7 rfl rfl rfl) ?_
  refine wl_pass 6 rfl (ps 7 rfl rfl rfl) ?_
  refine wl_pass 7 rfl (ps 7 rfl rfl rfl) ?_
  refine wl_v 8 rfl (v_pick (b := false) rfl rfl) gn rfl ?_
  refine wl_v 9 rfl (v_assign rfl) gn rfl ?_
  refine w_end 10 rfl ?_
  refine g_retR (c := q75c4) [.bool false] rfl Try.func75 rfl (.tmp rfl (.nil)) fun wr hLr => ?_
  have hMr : B.Loc w wr [] [St w []] := hLr.pick0 (sels [1] rfl)
  show tree_token_R w F  r (.returned (packV [.bool false])) wr
  rw [h]
  exact ⟨rfl, hMr⟩
noncomputable abbrev q81c0 : Code := bodyOf Try.f81
noncomputable abbrev q81c1 : Code := Code.fst q81c0
noncomputable abbrev q81c2 : Code := Code.snd q81c0
noncomputable abbrev q81c3 : Code := Code.fst q81c2
noncomputable abbrev q81c4 : Code := Code.snd q81c2
abbrev internal_stringslite_HasPrefix_R (w : World) (F : Nat → Prop) (r : Bool) : Ending → World → Prop := fun e w' => e = .returned (.bool r) ∧ B.Loc w w' [] [St w []]
noncomputable abbrev internal_stringslite_HasPrefix_C (w : World) (F : Nat → Prop) (r : Bool) : Cx := ⟨Try.prog, 81, Try.f81, 18, internal_stringslite_HasPrefix_R w F  r, w⟩
theorem internal_stringslite_HasPrefix_calls (w : World) (F : Nat → Prop) (x1 : ByteArray) (x2 : ByteArray) (hF : ∀ b, F b → b < w.heap.size ∧ ∀ o ∈ ([] : List (List Nat)), b ∉ o) (hL0 : B.Loc w w [] [Sm w.heap.size F w [], St w []]) (r : Bool) (h : internal_stringslite_HasPrefix x1 x2 r) : Calls Try.prog 81 #[.string x1, .string x2] w (internal_stringslite_HasPrefix_R w F  r) := by
 unfold internal_stringslite_HasPrefix at h
 refine calls_of_Loc (vs := [.string x1, .string x2]) 18 Try.func81 rfl Try.ntmps81 rfl hL0 ?_
 show G (internal_stringslite_HasPrefix_C w F r) _ _ _ _
 refine g_seq (c := q81c0) rfl ?_
 refine g_region (c := q81c1) rfl rfl ?_
 refine wl_v 0 rfl (v_assign rfl) gn rfl ?_
 refine w_end 1 rfl ?_
 refine g_seq (c := q81c2) rfl ?_
 refine g_region (c := q81c3) rfl rfl ?_
 refine wl_v 0 rfl (v_move rfl) gn rfl ?_
 refine wl_v 1 rfl (v_lenS un_9 rfl) gn rfl ?_
 refine wl_v 2 rfl (v_move rfl) gn rfl ?_
 refine wl_v 3 rfl (v_lenS un_9 rfl) gn rfl ?_
 refine wl_v 4 rfl (v_bin rfl rfl rfl) gn rfl ?_
 refine wl_v 5 rfl (v_move rfl) gn rfl ?_
 by_cases hp3 : (x1.size : Int) ≥ (x2.size : Int)
 ·have h := if_pos' hp3 h
  refine w_bool 10 rfl ((decide_eq_true hp3)) ?_
  refine wl_v 6 rfl (v_move rfl) (gy 10 rfl rfl) rfl ?_
  refine wl_v 7 rfl (v_move rfl) (gy 10 rfl rfl) rfl ?_
  refine wl_v 8 rfl (v_lenS un_9 rfl) (gy 10 rfl rfl) rfl ?_
  obtain ⟨hb4, h⟩ := h
  refine wl_v 9 rfl (v_cutS 0 (x2.size : Int) un_9 rfl (.inl ⟨rfl, rfl⟩) (.inr ⟨_, _, rfl, rfl⟩) ⟨hb4.1, hb4.2.1⟩ hb4.2.2) (gy 10 rfl rfl) rfl ?_
  refine wl_v 10 rfl (v_move rfl) (gy 10 rfl rfl) rfl ?_
  refine wl_v 11 rfl (v_eqS rfl rfl) (gy 10 rfl rfl) rfl ?_
  refine wl_v 12 rfl (v_pick (b := true) rfl rfl) gn rfl ?_
  refine wl_v 13 rfl (v_assign rfl) gn rfl ?_
  refine w_end 14 rfl ?_
  refine g_retR (c := q81c4) [.bool (seq (x1.extract (0 : Int).toNat ((x2.size : Int) : Int).toNat) x2)] rfl Try.func81 rfl (.tmp rfl (.nil)) fun wr hLr => ?_
  have hMr : B.Loc w wr [] [St w []] := hLr.pick0 (sels [1] rfl)
  show internal_stringslite_HasPrefix_R w F  r (.returned (packV [.bool (seq (x1.extract (0 : Int).toNat ((x2.size : Int) : Int).toNat) x2)])) wr
  rw [h]
  exact ⟨rfl, hMr⟩
 ·have h := if_neg' hp3 h
  refine w_bool 10 rfl ((decide_eq_false hp3)) ?_
  refine wl_pass 6 rfl (ps 10 rfl rfl rfl) ?_
  refine wl_pass 7 rfl (ps 10 rfl rfl rfl) ?_
  refine wl_pass 8 rfl (ps 10 rfl rfl rfl) ?_
  refine wl_pass 9 rfl (ps 10 rfl rfl rfl) ?_
  refine wl_pass 10 rfl (ps 10 rfl rfl rfl) ?_
  refine wl_pass 11 rfl (ps 10 rfl rfl rfl) ?_
  refine wl_v 12 rfl (v_pick (b := false) rfl rfl) gn rfl ?_
  refine wl_v 13 rfl (v_assign rfl) gn rfl ?_
  refine w_end 14 rfl ?_
  refine g_retR (c := q81c4) [.bool false] rfl Try.func81 rfl (.tmp rfl (.nil)) fun wr hLr => ?_
  have hMr : B.Loc w wr [] [St w []] := hLr.pick0 (sels [1] rfl)
  show internal_stringslite_HasPrefix_R w F  r (.returned (packV [.bool false])) wr
  rw [h]
  exact ⟨rfl, hMr⟩
noncomputable abbrev q77c0 : Code := bodyOf Try.f77
noncomputable abbrev q77c1 : Code := Code.fst q77c0
noncomputable abbrev q77c2 : Code := Code.snd q77c0
noncomputable abbrev q77c3 : Code := Code.fst q77c2
noncomputable abbrev q77c4 : Code := Code.snd q77c2
abbrev strings_HasPrefix_R (w : World) (F : Nat → Prop) (r : Bool) : Ending → World → Prop := fun e w' => e = .returned (.bool r) ∧ B.Loc w w' [] [St w []]
noncomputable abbrev strings_HasPrefix_C (w : World) (F : Nat → Prop) (r : Bool) : Cx := ⟨Try.prog, 77, Try.f77, 8, strings_HasPrefix_R w F  r, w⟩
theorem strings_HasPrefix_calls (w : World) (F : Nat → Prop) (x1 : ByteArray) (x2 : ByteArray) (hF : ∀ b, F b → b < w.heap.size ∧ ∀ o ∈ ([] : List (List Nat)), b ∉ o) (hL0 : B.Loc w w [] [Sm w.heap.size F w [], St w []]) (r : Bool) (h : strings_HasPrefix x1 x2 r) : Calls Try.prog 77 #[.string x1, .string x2] w (strings_HasPrefix_R w F  r) := by
 unfold strings_HasPrefix at h
 refine calls_of_Loc (vs := [.string x1, .string x2]) 8 Try.func77 rfl Try.ntmps77 rfl hL0 ?_
 show G (strings_HasPrefix_C w F r) _ _ _ _
 refine g_seq (c := q77c0) rfl ?_
 refine g_region (c := q77c1) rfl rfl ?_
 refine wl_v 0 rfl (v_assign rfl) gn rfl ?_
 refine w_end 1 rfl ?_
 refine g_seq (c := q77c2) rfl ?_
 refine g_region (c := q77c3) rfl rfl ?_
 refine wl_v 0 rfl (v_move rfl) gn rfl ?_
 refine wl_v 1 rfl (v_move rfl) gn rfl ?_
 obtain ⟨r6, hv7, h⟩ := h
 refine wl_s 2 rfl (s_call [.string x1, .string x2] rfl Try.func81 rfl rfl rfl fun w3 hL4 => ?_) gn
 have hp5 : List.Perm ([] : List Ent) (([] : List Ent) ++ ([] : List Ent)) := perm_of_idx [] [] rfl rfl (by kernel_rfl)
 refine Calls.mono (internal_stringslite_HasPrefix_calls w3 (Fl ([] : List Snap)) x1 x2 (hL4.hFl (Sl := ([] : List Snap)) hp5 (sels [] rfl)) (hL4.into hp5 (Fl ([] : List Snap))) r6 hv7) ?_
 rintro _ w8 ⟨rfl, hM9⟩
 have hL10 := hL4.call hp5 hM9
 refine ⟨_, _, _, rfl, hL10, ?_⟩
 refine wl_v 3 rfl (v_assign rfl) gn rfl ?_
 refine w_end 4 rfl ?_
 refine g_retR (c := q77c4) [.bool r6] rfl Try.func77 rfl (.tmp rfl (.nil)) fun wr hLr => ?_
 have hMr : B.Loc w wr [] [St w []] := hLr.pick0 (sels [1] rfl)
 show strings_HasPrefix_R w F  r (.returned (packV [.bool r6])) wr
 rw [h]
 exact ⟨rfl, hMr⟩
noncomputable abbrev q60c0 : Code := bodyOf Try.f60
noncomputable abbrev q60c1 : Code := Code.fst q60c0
noncomputable abbrev q60c2 : Code := Code.snd q60c0
noncomputable abbrev q60c3 : Code := Code.fst q60c2
noncomputable abbrev q60c4 : Code := Code.snd q60c2
abbrev tree_hidden_R (w : World) (F : Nat → Prop) (r : Bool) : Ending → World → Prop := fun e w' => e = .returned (.bool r) ∧ B.Loc w w' [] [St w []]
noncomputable abbrev tree_hidden_C (w : World) (F : Nat → Prop) (r : Bool) : Cx := ⟨Try.prog, 60, Try.f60, 26, tree_hidden_R w F  r, w⟩
theorem tree_hidden_calls (w : World) (F : Nat → Prop) (x1 : api_Gram) (x14 : Int) (A2 : Option Addr) (n3 : Nat) (c4 : Nat) (A6 : Option Addr) (n7 : Nat) (c8 : Nat) (A10 : Option Addr) (n11 : Nat) (c12 : Nat) (h5 : Rw k_api_TermDef w (St w []).av A2 n3 c4 x1.terms) (h9 : Rw k_api_Sym w (St w []).av A6 n7 c8 x1.syms) (h13 : Rw k_api_Prod w (St w []).av A10 n11 c12 x1.prods) (hF : ∀ b, F b → b < w.heap.size ∧ ∀ o ∈ ([] : List (List Nat)), b ∉ o) (hL0 : B.Loc w w [] [Sm w.heap.size F w [], St w []]) (r : Bool) (h : tree_hidden x1 x14 r) : Calls Try.prog 60 #[.agg #[.slice A2 n3 c4, .slice A6 n7 c8, .slice A10 n11 c12], .int .i64 x14] w (tree_hidden_R w F  r) := by
 unfold tree_hidden at h
 refine calls_of_Loc (vs := [.agg #[.slice A2 n3 c4, .slice A6 n7 c8, .slice A10 n11 c12], .int .i64 x14]) 26 Try.func60 rfl Try.ntmps60 rfl hL0 ?_
 show G (tree_hidden_C w F r) _ _ _ _
 refine g_seq (c := q60c0) rfl ?_
 refine g_region (c := q60c1) rfl rfl ?_
 refine wl_s 0 rfl (s_box [.slice A2 n3 c4, .slice A6 n7 c8, .slice A10 n11 c12] rfl rfl rfl fun gb15 => ?_) gn
 refine wl_v 1 rfl (v_assign rfl) gn rfl ?_
 refine w_end 2 rfl ?_
 refine g_seq (c := q60c2) rfl ?_
 refine g_region (c := q60c3) rfl rfl ?_
 refine wl_v 0 rfl (v_ldB [.slice A2 n3 c4, .slice A6 n7 c8, .slice A10 n11 c12] 0 ld_47 rfl rfl rfl rfl) gn rfl ?_
 refine wl_v 1 rfl (v_move rfl) gn rfl ?_
 obtain ⟨r20, hv21, h⟩ := h
 refine wl_s 2 rfl (s_call [.agg #[.slice A2 n3 c4, .slice A6 n7 c8, .slice A10 n11 c12], .int .i64 x14] rfl Try.func75 rfl rfl rfl fun w17 hL18 => ?_) gn
 have hp19 : List.Perm ([.box gb15 47 [.slice A2 n3 c4, .slice A6 n7 c8, .slice A10 n11 c12]] : List Ent) (([] : List Ent) ++ ([.box gb15 47 [.slice A2 n3 c4, .slice A6 n7 c8, .slice A10 n11 c12]] : List Ent)) := perm_of_idx [] [0] rfl rfl (by kernel_rfl)
 refine Calls.mono (tree_token_calls w17 (Fl ([] : List Snap)) x1 x14 A2 n3 c4 A6 n7 c8 A10 n11 c12 (Rw.mono h5 (hL18.toSt hp19 (me 1 rfl))) (Rw.mono h9 (hL18.toSt hp19 (me 1 rfl))) (Rw.mono h13 (hL18.toSt hp19 (me 1 rfl))) (hL18.hFl (Sl := ([] : List Snap)) hp19 (sels [] rfl)) (hL18.into hp19 (Fl ([] : List Snap))) r20 hv21) ?_
 rintro _ w22 ⟨rfl, hM23⟩
 have hL24 := hL18.call hp19 hM23
 refine ⟨_, _, _, rfl, hL24, ?_⟩
 refine wl_v 3 rfl (v_move rfl) gn rfl ?_
 by_cases hp25 : r20 = true
 ·have h := if_pos' hp25 h
  refine w_bool 8 rfl (hp25) ?_
  refine wl_v 4 rfl (v_fldB fo_47_0 rfl) (gy 8 rfl rfl) rfl ?_
  refine wl_v 5 rfl (v_ldB1 0 ld_43 rfl rfl rfl) (gy 8 rfl rfl) rfl ?_
  refine wl_v 6 rfl (v_move rfl) (gy 8 rfl rfl) rfl ?_
  obtain ⟨hb26, h⟩ := h
  have hr27 := Rw.readF (s := St w []) (hl := hl_api_TermDef) (h1 := h1_api_TermDef) h5 hb26
  refine wl_v 7 rfl (v_idxR (s := St w []) slE_43 rfl rfl h5 hb26) (gy 8 rfl rfl) rfl ?_
  refine wl_v 8 rfl (v_fldA fo_100_1 rfl) (gy 8 rfl rfl) rfl ?_
  refine wl_v 9 rfl (v_ldA1 (kk := (x14 : Int).toNat * 2) (j := 1) (St w []) ld_4 rfl hr27 rfl (me 1 rfl)) (gy 8 rfl rfl) rfl ?_
  refine wl_v 10 rfl (v_not rfl) (gy 8 rfl rfl) rfl ?_
  refine wl_v 11 rfl (v_pick (b := true) rfl rfl) gn rfl ?_
  refine wl_v 12 rfl (v_move rfl) gn rfl ?_
  by_cases hp28 : ((ix x1.terms x14).lit) = true
  ·have h := if_pos' hp28 h
   refine w_bool 17 rfl ((nf hp28)) ?_
   refine wl_pass 13 rfl (ps 17 rfl rfl rfl) ?_
   refine wl_pass 14 rfl (ps 17 rfl rfl rfl) ?_
   refine wl_pass 15 rfl (ps 17 rfl rfl rfl) ?_
   refine wl_pass 16 rfl (ps 17 rfl rfl rfl) ?_
   refine wl_pass 17 rfl (ps 17 rfl rfl rfl) ?_
   refine wl_pass 18 rfl (ps 17 rfl rfl rfl) ?_
   refine wl_pass 19 rfl (ps 17 rfl rfl rfl) ?_
   refine wl_v 20 rfl (v_pick (b := false) rfl rfl) gn rfl ?_
   refine wl_v 21 rfl (v_assign rfl) gn rfl ?_
   refine w_end 22 rfl ?_
   refine g_retR (c := q60c4) [.bool false] rfl Try.func60 rfl (.tmp rfl (.nil)) fun wr hLr => ?_
   have hMr : B.Loc w wr [] [St w []] := hLr.pick0 (sels [1] rfl)
   show tree_hidden_R w F  r (.returned (packV [.bool false])) wr
   rw [h]
   exact ⟨rfl, hMr⟩
  ·have h := if_neg' hp28 h
   refine w_bool 17 rfl ((nt (bf hp28))) ?_
   refine wl_v 13 rfl (v_fldB fo_47_0 rfl) (gy 17 rfl rfl) rfl ?_
   refine wl_v 14 rfl (v_ldB1 0 ld_43 rfl rfl rfl) (gy 17 rfl rfl) rfl ?_
   refine wl_v 15 rfl (v_move rfl) (gy 17 rfl rfl) rfl ?_
   have hr29 := Rw.readF (s := St w []) (hl := hl_api_TermDef) (h1 := h1_api_TermDef) h5 hb26
   refine wl_v 16 rfl (v_idxR (s := St w []) slE_43 rfl rfl h5 hb26) (gy 17 rfl rfl) rfl ?_
   refine wl_v 17 rfl (v_fldA fo_100_0 rfl) (gy 17 rfl rfl) rfl ?_
   refine wl_v 18 rfl (v_ldA1 (kk := (x14 : Int).toNat * 2) (j := 0) (St w []) ld_9 rfl hr29 rfl (me 1 rfl)) (gy 17 rfl rfl) rfl ?_
   obtain ⟨r33, hv34, h⟩ := h
   refine wl_s 19 rfl (s_call [.string ((ix x1.terms x14).name), .string (⟨#[95]⟩ : ByteArray)] rfl Try.func77 rfl rfl rfl fun w30 hL31 => ?_) (gy 17 rfl rfl)
   have hp32 : List.Perm ([.box gb15 47 [.slice A2 n3 c4, .slice A6 n7 c8, .slice A10 n11 c12]] : List Ent) (([] : List Ent) ++ ([.box gb15 47 [.slice A2 n3 c4, .slice A6 n7 c8, .slice A10 n11 c12]] : List Ent)) := perm_of_idx [] [0] rfl rfl (by kernel_rfl)
   refine Calls.mono (strings_HasPrefix_calls w30 (Fl ([] : List Snap)) ((ix x1.terms x14).name) (⟨#[95]⟩ : ByteArray) (hL31.hFl (Sl := ([] : List Snap)) hp32 (sels [] rfl)) (hL31.into hp32 (Fl ([] : List Snap))) r33 hv34) ?_
   rintro _ w35 ⟨rfl, hM36⟩
   have hL37 := hL31.call hp32 hM36
   refine ⟨_, _, _, rfl, hL37, ?_⟩
   refine wl_v 20 rfl (v_pick (b := true) rfl rfl) gn rfl ?_
   refine wl_v 21 rfl (v_assign rfl) gn rfl ?_
   refine w_end 22 rfl ?_
   refine g_retR (c := q60c4) [.bool r33] rfl Try.func60 rfl (.tmp rfl (.nil)) fun wr hLr => ?_
   have hMr : B.Loc w wr [] [St w []] := hLr.pick0 (sels [1] rfl)
   show tree_hidden_R w F  r (.returned (packV [.bool r33])) wr
   rw [h]
   exact ⟨rfl, hMr⟩
 ·have h := if_neg' hp25 h
  refine w_bool 8 rfl ((bf hp25)) ?_
  refine wl_pass 4 rfl (ps 8 rfl rfl rfl) ?_
  refine wl_pass 5 rfl (ps 8 rfl rfl rfl) ?_
  refine wl_pass 6 rfl (ps 8 rfl rfl rfl) ?_
  refine wl_pass 7 rfl (ps 8 rfl rfl rfl) ?_
  refine wl_pass 8 rfl (ps 8 rfl rfl rfl) ?_
  refine wl_pass 9 rfl (ps 8 rfl rfl rfl) ?_
  refine wl_pass 10 rfl (ps 8 rfl rfl rfl) ?_
  refine wl_v 11 rfl (v_pick (b := false) rfl rfl) gn rfl ?_
  refine wl_v 12 rfl (v_move rfl) gn rfl ?_
  refine wl_pass 13 rfl (ps 17 rfl rfl rfl) ?_
  refine wl_pass 14 rfl (ps 17 rfl rfl rfl) ?_
  refine wl_pass 15 rfl (ps 17 rfl rfl rfl) ?_
  refine wl_pass 16 rfl (ps 17 rfl rfl rfl) ?_
  refine wl_pass 17 rfl (ps 17 rfl rfl rfl) ?_
  refine wl_pass 18 rfl (ps 17 rfl rfl rfl) ?_
  refine wl_pass 19 rfl (ps 17 rfl rfl rfl) ?_
  refine wl_v 20 rfl (v_pick (b := false) rfl rfl) gn rfl ?_
  refine wl_v 21 rfl (v_assign rfl) gn rfl ?_
  refine w_end 22 rfl ?_
  refine g_retR (c := q60c4) [.bool false] rfl Try.func60 rfl (.tmp rfl (.nil)) fun wr hLr => ?_
  have hMr : B.Loc w wr [] [St w []] := hLr.pick0 (sels [1] rfl)
  show tree_hidden_R w F  r (.returned (packV [.bool false])) wr
  rw [h]
  exact ⟨rfl, hMr⟩
noncomputable abbrev q33c0 : Code := bodyOf Try.f33
noncomputable abbrev q33c1 : Code := Code.fst q33c0
noncomputable abbrev q33c2 : Code := Code.snd q33c0
noncomputable abbrev q33c3 : Code := Code.fst q33c2
noncomputable abbrev q33c4 : Code := Code.snd q33c2
noncomputable abbrev q33c5 : Code := Code.fst q33c3
noncomputable abbrev q33c6 : Code := Code.snd q33c3
noncomputable abbrev q33c7 : Code := Code.fst q33c6
noncomputable abbrev q33c8 : Code := Code.snd q33c6
noncomputable abbrev q33c9 : Code := Code.fst q33c7
noncomputable abbrev q33c10 : Code := Code.snd q33c7
noncomputable abbrev q33c11 : Code := Code.fst q33c4
noncomputable abbrev q33c12 : Code := Code.snd q33c4
abbrev tree_Show_R (w : World) (F : Nat → Prop) (r : List api_Node) : Ending → World → Prop := fun e w' => ∃ A0 : Option Addr, ∃ n0 : Nat, ∃ c0 : Nat, e = .returned (.slice A0 n0 c0) ∧ B.Loc w w' [.own (.slice A0 n0 c0) 39 7 n0 (r.flatMap enc_api_Node)] [St w []] ∧ Ow w.heap.size A0 n0 c0 r
noncomputable abbrev tree_Show_C (w : World) (F : Nat → Prop) (r : List api_Node) : Cx := ⟨Try.prog, 33, Try.f33, 13, tree_Show_R w F  r, w⟩
theorem tree_Show_calls (w : World) (F : Nat → Prop) (x1 : api_Lang) (x46 : Int) (x47 : List api_Node) (A2 : Option Addr) (n3 : Nat) (c4 : Nat) (A6 : Option Addr) (n7 : Nat) (c8 : Nat) (A10 : Option Addr) (n11 : Nat) (c12 : Nat) (A14 : Option Addr) (n15 : Nat) (c16 : Nat) (A18 : Option Addr) (n19 : Nat) (c20 : Nat) (A22 : Option Addr) (n23 : Nat) (c24 : Nat) (A26 : Option Addr) (n27 : Nat) (c28 : Nat) (A30 : Option Addr) (n31 : Nat) (c32 : Nat) (A34 : Option Addr) (n35 : Nat) (c36 : Nat) (A38 : Option Addr) (n39 : Nat) (c40 : Nat) (A42 : Option Addr) (n43 : Nat) (c44 : Nat) (A48 : Option Addr) (n49 : Nat) (c50 : Nat) (h5 : Rw k_api_ModeDef w (St w []).av A2 n3 c4 x1.modes) (h9 : Rw k_api_TermDef w (St w []).av A6 n7 c8 x1.gram.terms) (h13 : Rw k_api_Sym w (St w []).av A10 n11 c12 x1.gram.syms) (h17 : Rw k_api_Prod w (St w []).av A14 n15 c16 x1.gram.prods) (h21 : Rw k_api_Rule w (St w []).av A18 n19 c20 x1.rules) (h25 : Rw (Kd.slice k_api_Action) w (St w []).av A22 n23 c24 x1.table.actions) (h29 : Rw (Kd.slice (kInt .i64)) w (St w []).av A26 n27 c28 x1.table.gotos) (h33 : Rw k_api_PaintDef w (St w []).av A30 n31 c32 x1.paints) (h37 : Rw kStr w (St w []).av A34 n35 c36 x1.folds) (h41 : Rw k_api_MarkDef w (St w []).av A38 n39 c40 x1.marks) (h45 : Rw k_api_InjectDef w (St w []).av A42 n43 c44 x1.injects) (h51 : Rw k_api_Node w (St w []).av A48 n49 c50 x47) (hF : ∀ b, F b → b < w.heap.size ∧ ∀ o ∈ ([] : List (List Nat)), b ∉ o) (hL0 : B.Loc w w [] [Sm w.heap.size F w [], St w []]) (r : List api_Node) (h : tree_Show x1 x46 x47 r) : Calls Try.prog 33 #[.agg #[.string x1.name, .slice A2 n3 c4, .slice A6 n7 c8, .slice A10 n11 c12, .slice A14 n15 c16, .slice A18 n19 c20, .slice A22 n23 c24, .slice A26 n27 c28, .slice A30 n31 c32, .slice A34 n35 c36, .slice A38 n39 c40, .slice A42 n43 c44], .int .i64 x46, .slice A48 n49 c50] w (tree_Show_R w F  r) := by
 unfold tree_Show at h
 refine calls_of_Loc (vs := [.agg #[.string x1.name, .slice A2 n3 c4, .slice A6 n7 c8, .slice A10 n11 c12, .slice A14 n15 c16, .slice A18 n19 c20, .slice A22 n23 c24, .slice A26 n27 c28, .slice A30 n31 c32, .slice A34 n35 c36, .slice A38 n39 c40, .slice A42 n43 c44], .int .i64 x46, .slice A48 n49 c50]) 13 Try.func33 rfl Try.ntmps33 rfl hL0 ?_
 show G (tree_Show_C w F r) _ _ _ _
 refine g_seq (c := q33c0) rfl ?_
 refine g_region (c := q33c1) rfl rfl ?_
 refine wl_s 0 rfl (s_box [.string x1.name, .slice A2 n3 c4, .slice A6 n7 c8, .slice A10 n11 c12, .slice A14 n15 c16, .slice A18 n19 c20, .slice A22 n23 c24, .slice A26 n27 c28, .slice A30 n31 c32, .slice A34 n35 c36, .slice A38 n39 c40, .slice A42 n43 c44] rfl rfl rfl fun gb52 => ?_) gn
 refine wl_v 1 rfl (v_assign rfl) gn rfl ?_
 refine w_end 2 rfl ?_
 refine g_seq (c := q33c2) rfl ?_
 refine g_seq (c := q33c3) rfl ?_
 refine g_region (c := q33c5) rfl rfl ?_
 refine wl_v 0 rfl (v_fldB fo_58_2 rfl) gn rfl ?_
 refine wl_v 1 rfl (v_ldB [.slice A6 n7 c8, .slice A10 n11 c12, .slice A14 n15 c16] 0 ld_47 rfl rfl rfl rfl) gn rfl ?_
 refine wl_v 2 rfl (v_move rfl) gn rfl ?_
 obtain ⟨r57, hv58, h⟩ := h
 refine wl_s 3 rfl (s_call [.agg #[.slice A6 n7 c8, .slice A10 n11 c12, .slice A14 n15 c16], .int .i64 x46] rfl Try.func60 rfl rfl rfl fun w54 hL55 => ?_) gn
 have hp56 : List.Perm ([.box gb52 58 [.string x1.name, .slice A2 n3 c4, .slice A6 n7 c8, .slice A10 n11 c12, .slice A14 n15 c16, .slice A18 n19 c20, .slice A22 n23 c24, .slice A26 n27 c28, .slice A30 n31 c32, .slice A34 n35 c36, .slice A38 n39 c40, .slice A42 n43 c44]] : List Ent) (([] : List Ent) ++ ([.box gb52 58 [.string x1.name, .slice A2 n3 c4, .slice A6 n7 c8, .slice A10 n11 c12, .slice A14 n15 c16, .slice A18 n19 c20, .slice A22 n23 c24, .slice A26 n27 c28, .slice A30 n31 c32, .slice A34 n35 c36, .slice A38 n39 c40, .slice A42 n43 c44]] : List Ent)) := perm_of_idx [] [0] rfl rfl (by kernel_rfl)
 refine Calls.mono (tree_hidden_calls w54 (Fl ([] : List Snap)) x1.gram x46 A6 n7 c8 A10 n11 c12 A14 n15 c16 (Rw.mono h9 (hL55.toSt hp56 (me 1 rfl))) (Rw.mono h13 (hL55.toSt hp56 (me 1 rfl))) (Rw.mono h17 (hL55.toSt hp56 (me 1 rfl))) (hL55.hFl (Sl := ([] : List Snap)) hp56 (sels [] rfl)) (hL55.into hp56 (Fl ([] : List Snap))) r57 hv58) ?_
 rintro _ w59 ⟨rfl, hM60⟩
 have hL61 := hL55.call hp56 hM60
 refine ⟨_, _, _, rfl, hL61, ?_⟩
 refine w_end 4 rfl ?_
 by_cases hp62 : r57 = true
 ·have h := if_pos' hp62 h
  refine g_true (c := q33c6) rfl _ rfl (hp62) ?_
  refine g_seq (c := q33c7) rfl ?_
  refine g_region (c := q33c9) rfl rfl ?_
  refine wl_v 0 rfl (v_assign rfl) gn rfl ?_
  refine w_end 1 rfl ?_
  refine g_nil 39 7 ?_
  refine g_retR (c := q33c10) [.slice none 0 0] rfl Try.func33 rfl (.tmp rfl (.nil)) fun wr hLr => ?_
  have hMr : B.Loc w wr [.own (.slice none 0 0) 39 7 0 (([] : List api_Node).flatMap enc_api_Node)] [St w []] := hLr.pick (rest := [.box gb52 58 [.string x1.name, .slice A2 n3 c4, .slice A6 n7 c8, .slice A10 n11 c12, .slice A14 n15 c16, .slice A18 n19 c20, .slice A22 n23 c24, .slice A26 n27 c28, .slice A30 n31 c32, .slice A34 n35 c36, .slice A38 n39 c40, .slice A42 n43 c44]]) (perm_of_idx [0] [1] rfl rfl (by kernel_rfl)) (sels [1] rfl)
  show tree_Show_R w F  r (.returned (packV [.slice none 0 0])) wr
  rw [h]
  exact ⟨none, 0, 0, rfl, hMr, (Ow.nil (z := w.heap.size))⟩
 ·have h := if_neg' hp62 h
  refine g_false (c := q33c6) rfl _ rfl ((bf hp62)) ?_
  refine g_skip (c := q33c8) rfl ?_
  refine g_seq (c := q33c4) rfl ?_
  refine g_region (c := q33c11) rfl rfl ?_
  refine wl_v 0 rfl (v_move rfl) gn rfl ?_
  obtain ⟨r66, hv67, h⟩ := h
  refine wl_s 1 rfl (s_call [.slice A48 n49 c50] rfl Try.func61 rfl rfl rfl fun w63 hL64 => ?_) gn
  have hp65 : List.Perm ([.box gb52 58 [.string x1.name, .slice A2 n3 c4, .slice A6 n7 c8, .slice A10 n11 c12, .slice A14 n15 c16, .slice A18 n19 c20, .slice A22 n23 c24, .slice A26 n27 c28, .slice A30 n31 c32, .slice A34 n35 c36, .slice A38 n39 c40, .slice A42 n43 c44]] : List Ent) (([] : List Ent) ++ ([.box gb52 58 [.string x1.name, .slice A2 n3 c4, .slice A6 n7 c8, .slice A10 n11 c12, .slice A14 n15 c16, .slice A18 n19 c20, .slice A22 n23 c24, .slice A26 n27 c28, .slice A30 n31 c32, .slice A34 n35 c36, .slice A38 n39 c40, .slice A42 n43 c44]] : List Ent)) := perm_of_idx [] [0] rfl rfl (by kernel_rfl)
  refine Calls.mono (slices_Clone_api_Node_api_Node_calls w63 (Fl ([] : List Snap)) x47 A48 n49 c50 (Rw.mono h51 (hL64.toSt hp65 (me 1 rfl))) (hL64.hFl (Sl := ([] : List Snap)) hp65 (sels [] rfl)) (hL64.into hp65 (Fl ([] : List Snap))) r66 hv67) ?_
  rintro _ w73 ⟨A68, n69, c70, rfl, hM74, h71⟩
  have hL75 := hL64.call hp65 hM74
  refine ⟨_, _, _, rfl, hL75, ?_⟩
  refine wl_v 2 rfl (v_assign rfl) gn rfl ?_
  refine w_end 3 rfl ?_
  refine g_retR (c := q33c12) [.slice A68 n69 c70] rfl Try.func33 rfl (.tmp rfl (.nil)) fun wr hLr => ?_
  have hMr : B.Loc w wr [.own (.slice A68 n69 c70) 39 7 n69 (r66.flatMap enc_api_Node)] [St w []] := hLr.pick (rest := [.box gb52 58 [.string x1.name, .slice A2 n3 c4, .slice A6 n7 c8, .slice A10 n11 c12, .slice A14 n15 c16, .slice A18 n19 c20, .slice A22 n23 c24, .slice A26 n27 c28, .slice A30 n31 c32, .slice A34 n35 c36, .slice A38 n39 c40, .slice A42 n43 c44]]) (perm_of_idx [0] [1] rfl rfl (by kernel_rfl)) (sels [1] rfl)
  show tree_Show_R w F  r (.returned (packV [.slice A68 n69 c70])) wr
  rw [h]
  exact ⟨A68, n69, c70, rfl, hMr, (Ow.weak hL64.env.size h71)⟩
noncomputable abbrev q76c0 : Code := bodyOf Try.f76
noncomputable abbrev q76c1 : Code := Code.fst q76c0
noncomputable abbrev q76c2 : Code := Code.snd q76c0
noncomputable abbrev q76c3 : Code := Code.fst q76c2
noncomputable abbrev q76c4 : Code := Code.snd q76c2
noncomputable abbrev q76c5 : Code := Code.fst q76c4
noncomputable abbrev q76c6 : Code := Code.snd q76c4
abbrev tree_shown_R (w : World) (F : Nat → Prop) (r : Bool) : Ending → World → Prop := fun e w' => e = .returned (.bool r) ∧ B.Loc w w' [] [St w []]
noncomputable abbrev tree_shown_C (w : World) (F : Nat → Prop) (r : Bool) : Cx := ⟨Try.prog, 76, Try.f76, 33, tree_shown_R w F  r, w⟩
theorem tree_shown_calls (w : World) (F : Nat → Prop) (x1 : api_Gram) (x14 : Int) (A2 : Option Addr) (n3 : Nat) (c4 : Nat) (A6 : Option Addr) (n7 : Nat) (c8 : Nat) (A10 : Option Addr) (n11 : Nat) (c12 : Nat) (h5 : Rw k_api_TermDef w (St w []).av A2 n3 c4 x1.terms) (h9 : Rw k_api_Sym w (St w []).av A6 n7 c8 x1.syms) (h13 : Rw k_api_Prod w (St w []).av A10 n11 c12 x1.prods) (hF : ∀ b, F b → b < w.heap.size ∧ ∀ o ∈ ([] : List (List Nat)), b ∉ o) (hL0 : B.Loc w w [] [Sm w.heap.size F w [], St w []]) (r : Bool) (h : tree_shown x1 x14 r) : Calls Try.prog 76 #[.agg #[.slice A2 n3 c4, .slice A6 n7 c8, .slice A10 n11 c12], .int .i64 x14] w (tree_shown_R w F  r) := by
 unfold tree_shown at h
 refine calls_of_Loc (vs := [.agg #[.slice A2 n3 c4, .slice A6 n7 c8, .slice A10 n11 c12], .int .i64 x14]) 33 Try.func76 rfl Try.ntmps76 rfl hL0 ?_
 show G (tree_shown_C w F r) _ _ _ _
 refine g_seq (c := q76c0) rfl ?_
 refine g_region (c := q76c1) rfl rfl ?_
 refine wl_s 0 rfl (s_box [.slice A2 n3 c4, .slice A6 n7 c8, .slice A10 n11 c12] rfl rfl rfl fun gb15 => ?_) gn
 refine wl_v 1 rfl (v_assign rfl) gn rfl ?_
 refine w_end 2 rfl ?_
 refine g_seq (c := q76c2) rfl ?_
 refine g_region (c := q76c3) rfl rfl ?_
 refine wl_v 0 rfl (v_move rfl) gn rfl ?_
 refine wl_v 1 rfl (v_fldB fo_47_0 rfl) gn rfl ?_
 refine wl_v 2 rfl (v_ldB1 0 ld_43 rfl rfl rfl) gn rfl ?_
 refine wl_v 3 rfl (v_lenQ un_43 rfl h5.hq) gn rfl ?_
 refine wl_v 4 rfl (v_bin rfl rfl rfl) gn rfl ?_
 refine wl_v 5 rfl (v_assign rfl) gn rfl ?_
 refine w_end 6 rfl ?_
 refine g_seq (c := q76c4) rfl ?_
 refine g_region (c := q76c5) rfl rfl ?_
 refine wl_v 0 rfl (v_move rfl) gn rfl ?_
 refine wl_v 1 rfl (v_bin rfl rfl rfl) gn rfl ?_
 refine wl_v 2 rfl (v_move rfl) gn rfl ?_
 by_cases hp17 : x14 ≥ 0
 ·have h := if_pos' hp17 h
  refine w_bool 13 rfl ((decide_eq_true hp17)) ?_
  refine wl_v 3 rfl (v_move rfl) (gy 13 rfl rfl) rfl ?_
  refine wl_v 4 rfl (v_bin rfl rfl rfl) (gy 13 rfl rfl) rfl ?_
  refine wl_v 5 rfl (v_pick (b := true) rfl rfl) gn rfl ?_
  refine wl_v 6 rfl (v_move rfl) gn rfl ?_
  by_cases hp18 : w64 (x14 - (x1.terms.length : Int)) ≥ 0
  ·have h := if_pos' hp18 h
   refine w_bool 17 rfl ((decide_eq_true hp18)) ?_
   refine wl_v 7 rfl (v_move rfl) (gy 17 rfl rfl) rfl ?_
   refine wl_v 8 rfl (v_fldB fo_47_1 rfl) (gy 17 rfl rfl) rfl ?_
   refine wl_v 9 rfl (v_ldB1 0 ld_44 rfl rfl rfl) (gy 17 rfl rfl) rfl ?_
   refine wl_v 10 rfl (v_lenQ un_44 rfl h9.hq) (gy 17 rfl rfl) rfl ?_
   refine wl_v 11 rfl (v_bin rfl rfl rfl) (gy 17 rfl rfl) rfl ?_
   refine wl_v 12 rfl (v_pick (b := true) rfl rfl) gn rfl ?_
   refine wl_v 13 rfl (v_move rfl) gn rfl ?_
   by_cases hp19 : w64 (x14 - (x1.terms.length : Int)) < (x1.syms.length : Int)
   ·have h := if_pos' hp19 h
    refine w_bool 24 rfl ((decide_eq_true hp19)) ?_
    refine wl_v 14 rfl (v_fldB fo_47_1 rfl) (gy 24 rfl rfl) rfl ?_
    refine wl_v 15 rfl (v_ldB1 0 ld_44 rfl rfl rfl) (gy 24 rfl rfl) rfl ?_
    refine wl_v 16 rfl (v_move rfl) (gy 24 rfl rfl) rfl ?_
    obtain ⟨hb20, h⟩ := h
    have hr21 := Rw.readF (s := St w []) (hl := hl_api_Sym) (h1 := h1_api_Sym) h9 hb20
    refine wl_v 17 rfl (v_idxR (s := St w []) slE_44 rfl rfl h9 hb20) (gy 24 rfl rfl) rfl ?_
    refine wl_v 18 rfl (v_fldA fo_74_1 rfl) (gy 24 rfl rfl) rfl ?_
    refine wl_v 19 rfl (v_ldA1 (kk := (w64 (x14 - (x1.terms.length : Int)) : Int).toNat * 2) (j := 1) (St w []) ld_72 rfl hr21 rfl (me 1 rfl)) (gy 24 rfl rfl) rfl ?_
    refine wl_v 20 rfl (v_bin rfl rfl rfl) (gy 24 rfl rfl) rfl ?_
    refine wl_v 21 rfl (v_pick (b := true) rfl rfl) gn rfl ?_
    refine wl_v 22 rfl (v_assign rfl) gn rfl ?_
    refine w_end 23 rfl ?_
    refine g_retR (c := q76c6) [.bool (((ix x1.syms (w64 (x14 - (x1.terms.length : Int)))).kind) == 1)] rfl Try.func76 rfl (.tmp rfl (.nil)) fun wr hLr => ?_
    have hMr : B.Loc w wr [] [St w []] := hLr.pick0 (sels [1] rfl)
    show tree_shown_R w F  r (.returned (packV [.bool (((ix x1.syms (w64 (x14 - (x1.terms.length : Int)))).kind) == 1)])) wr
    rw [h]
    exact ⟨rfl, hMr⟩
   ·have h := if_neg' hp19 h
    refine w_bool 24 rfl ((decide_eq_false hp19)) ?_
    refine wl_pass 14 rfl (ps 24 rfl rfl rfl) ?_
    refine wl_pass 15 rfl (ps 24 rfl rfl rfl) ?_
    refine wl_pass 16 rfl (ps 24 rfl rfl rfl) ?_
    refine wl_pass 17 rfl (ps 24 rfl rfl rfl) ?_
    refine wl_pass 18 rfl (ps 24 rfl rfl rfl) ?_
    refine wl_pass 19 rfl (ps 24 rfl rfl rfl) ?_
    refine wl_pass 20 rfl (ps 24 rfl rfl rfl) ?_
    refine wl_v 21 rfl (v_pick (b := false) rfl rfl) gn rfl ?_
    refine wl_v 22 rfl (v_assign rfl) gn rfl ?_
    refine w_end 23 rfl ?_
    refine g_retR (c := q76c6) [.bool false] rfl Try.func76 rfl (.tmp rfl (.nil)) fun wr hLr => ?_
    have hMr : B.Loc w wr [] [St w []] := hLr.pick0 (sels [1] rfl)
    show tree_shown_R w F  r (.returned (packV [.bool false])) wr
    rw [h]
    exact ⟨rfl, hMr⟩
  ·have h := if_neg' hp18 h
   refine w_bool 17 rfl ((decide_eq_false hp18)) ?_
   refine wl_pass 7 rfl (ps 17 rfl rfl rfl) ?_
   refine wl_pass 8 rfl (ps 17 rfl rfl rfl) ?_
   refine wl_pass 9 rfl (ps 17 rfl rfl rfl) ?_
   refine wl_pass 10 rfl (ps 17 rfl rfl rfl) ?_
   refine wl_pass 11 rfl (ps 17 rfl rfl rfl) ?_
   refine wl_v 12 rfl (v_pick (b := false) rfl rfl) gn rfl ?_
   refine wl_v 13 rfl (v_move rfl) gn rfl ?_
   refine wl_pass 14 rfl (ps 24 rfl rfl rfl) ?_
   refine wl_pass 15 rfl (ps 24 rfl rfl rfl) ?_
   refine wl_pass 16 rfl (ps 24 rfl rfl rfl) ?_
   refine wl_pass 17 rfl (ps 24 rfl rfl rfl) ?_
   refine wl_pass 18 rfl (ps 24 rfl rfl rfl) ?_
   refine wl_pass 19 rfl (ps 24 rfl rfl rfl) ?_
   refine wl_pass 20 rfl (ps 24 rfl rfl rfl) ?_
   refine wl_v 21 rfl (v_pick (b := false) rfl rfl) gn rfl ?_
   refine wl_v 22 rfl (v_assign rfl) gn rfl ?_
   refine w_end 23 rfl ?_
   refine g_retR (c := q76c6) [.bool false] rfl Try.func76 rfl (.tmp rfl (.nil)) fun wr hLr => ?_
   have hMr : B.Loc w wr [] [St w []] := hLr.pick0 (sels [1] rfl)
   show tree_shown_R w F  r (.returned (packV [.bool false])) wr
   rw [h]
   exact ⟨rfl, hMr⟩
 ·have h := if_neg' hp17 h
  refine w_bool 13 rfl ((decide_eq_false hp17)) ?_
  refine wl_pass 3 rfl (ps 13 rfl rfl rfl) ?_
  refine wl_pass 4 rfl (ps 13 rfl rfl rfl) ?_
  refine wl_v 5 rfl (v_pick (b := false) rfl rfl) gn rfl ?_
  refine wl_v 6 rfl (v_move rfl) gn rfl ?_
  refine wl_pass 7 rfl (ps 17 rfl rfl rfl) ?_
  refine wl_pass 8 rfl (ps 17 rfl rfl rfl) ?_
  refine wl_pass 9 rfl (ps 17 rfl rfl rfl) ?_
  refine wl_pass 10 rfl (ps 17 rfl rfl rfl) ?_
  refine wl_pass 11 rfl (ps 17 rfl rfl rfl) ?_
  refine wl_v 12 rfl (v_pick (b := false) rfl rfl) gn rfl ?_
  refine wl_v 13 rfl (v_move rfl) gn rfl ?_
  refine wl_pass 14 rfl (ps 24 rfl rfl rfl) ?_
  refine wl_pass 15 rfl (ps 24 rfl rfl rfl) ?_
  refine wl_pass 16 rfl (ps 24 rfl rfl rfl) ?_
  refine wl_pass 17 rfl (ps 24 rfl rfl rfl) ?_
  refine wl_pass 18 rfl (ps 24 rfl rfl rfl) ?_
  refine wl_pass 19 rfl (ps 24 rfl rfl rfl) ?_
  refine wl_pass 20 rfl (ps 24 rfl rfl rfl) ?_
  refine wl_v 21 rfl (v_pick (b := false) rfl rfl) gn rfl ?_
  refine wl_v 22 rfl (v_assign rfl) gn rfl ?_
  refine w_end 23 rfl ?_
  refine g_retR (c := q76c6) [.bool false] rfl Try.func76 rfl (.tmp rfl (.nil)) fun wr hLr => ?_
  have hMr : B.Loc w wr [] [St w []] := hLr.pick0 (sels [1] rfl)
  show tree_shown_R w F  r (.returned (packV [.bool false])) wr
  rw [h]
  exact ⟨rfl, hMr⟩
noncomputable abbrev q59c0 : Code := bodyOf Try.f59
noncomputable abbrev q59c1 : Code := Code.fst q59c0
noncomputable abbrev q59c2 : Code := Code.snd q59c0
noncomputable abbrev q59c3 : Code := Code.fst q59c2
noncomputable abbrev q59c4 : Code := Code.snd q59c2
noncomputable abbrev q59c5 : Code := Code.fst q59c4
noncomputable abbrev q59c6 : Code := Code.snd q59c4
noncomputable abbrev q59c7 : Code := Code.fst q59c6
noncomputable abbrev q59c8 : Code := Code.snd q59c6
noncomputable abbrev q59c9 : Code := Code.fst q59c7
noncomputable abbrev q59c10 : Code := Code.snd q59c7
noncomputable abbrev q59c11 : Code := Code.fst q59c10
noncomputable abbrev q59c12 : Code := Code.snd q59c10
noncomputable abbrev q59c13 : Code := Code.fst q59c12
noncomputable abbrev q59c14 : Code := Code.snd q59c12
noncomputable abbrev q59c15 : Code := Code.fst q59c8
noncomputable abbrev q59c16 : Code := Code.snd q59c8
abbrev tree_over_R (w : World) (F : Nat → Prop) (r : List api_Node) : Ending → World → Prop := fun e w' => ∃ A0 : Option Addr, ∃ n0 : Nat, ∃ c0 : Nat, e = .returned (.slice A0 n0 c0) ∧ B.Loc w w' [.own (.slice A0 n0 c0) 39 7 n0 (r.flatMap enc_api_Node)] [St w []] ∧ Ow w.heap.size A0 n0 c0 r
noncomputable abbrev tree_over_C (w : World) (F : Nat → Prop) (r : List api_Node) : Cx := ⟨Try.prog, 59, Try.f59, 44, tree_over_R w F  r, w⟩
theorem tree_over_calls (w : World) (F : Nat → Prop) (x1 : ByteArray) (x2 : List api_Node) (x7 : Int) (A3 : Option Addr) (n4 : Nat) (c5 : Nat) (h6 : Rw k_api_Node w (St w []).av A3 n4 c5 x2) (hF : ∀ b, F b → b < w.heap.size ∧ ∀ o ∈ ([] : List (List Nat)), b ∉ o) (hL0 : B.Loc w w [] [Sm w.heap.size F w [], St w []]) (r : List api_Node) (h : tree_over x1 x2 x7 r) : Calls Try.prog 59 #[.string x1, .slice A3 n4 c5, .int .i64 x7] w (tree_over_R w F  r) := by
 unfold tree_over at h
 refine calls_of_Loc (vs := [.string x1, .slice A3 n4 c5, .int .i64 x7]) 44 Try.func59 rfl Try.ntmps59 rfl hL0 ?_
 show G (tree_over_C w F r) _ _ _ _
 refine g_seq (c := q59c0) rfl ?_
 refine g_region (c := q59c1) rfl rfl ?_
 refine wl_v 0 rfl (v_assign rfl) gn rfl ?_
 refine w_end 1 rfl ?_
 refine g_seq (c := q59c2) rfl ?_
 refine g_region (c := q59c3) rfl rfl ?_
 refine wl_v 0 rfl (v_move rfl) gn rfl ?_
 refine wl_v 1 rfl (v_move rfl) gn rfl ?_
 refine wl_v 2 rfl (v_move rfl) gn rfl ?_
 refine wl_v 3 rfl (v_build #[.string x1, .bool true, .string (⟨#[]⟩ : ByteArray), .int .i64 x7, .int .i64 x7, .int .i64 0, .int .i64 (-1)] bd_39 rfl (by kernel_rfl)) gn rfl ?_
 refine wl_s 4 rfl (s_alloc [.string (⟨#[]⟩ : ByteArray), .bool false, .string (⟨#[]⟩ : ByteArray), .int .i64 0, .int .i64 0, .int .i64 0, .int .i64 0] zr_39 rfl fun gb8 => ?_) gn
 refine wl_s 5 rfl (s_stB (vs := [.string x1, .bool true, .string (⟨#[]⟩ : ByteArray), .int .i64 x7, .int .i64 x7, .int .i64 0, .int .i64 (-1)]) (cs' := [.string x1, .bool true, .string (⟨#[]⟩ : ByteArray), .int .i64 x7, .int .i64 x7, .int .i64 0, .int .i64 (-1)]) (M' := [.box gb8 39 [.string x1, .bool true, .string (⟨#[]⟩ : ByteArray), .int .i64 x7, .int .i64 x7, .int .i64 0, .int .i64 (-1)]]) 0 sz_39 rfl rfl rfl rfl rfl rfl rfl rfl rfl ?_) gn
 refine w_end 6 rfl ?_
 refine g_seq (c := q59c4) rfl ?_
 refine g_region (c := q59c5) rfl rfl ?_
 refine wl_v 0 rfl (v_move rfl) gn rfl ?_
 obtain ⟨r13, hv14, h⟩ := h
 refine wl_s 1 rfl (s_call [.slice A3 n4 c5] rfl Try.func65 rfl rfl rfl fun w10 hL11 => ?_) gn
 have hp12 : List.Perm ([.box gb8 39 [.string x1, .bool true, .string (⟨#[]⟩ : ByteArray), .int .i64 x7, .int .i64 x7, .int .i64 0, .int .i64 (-1)]] : List Ent) (([] : List Ent) ++ ([.box gb8 39 [.string x1, .bool true, .string (⟨#[]⟩ : ByteArray), .int .i64 x7, .int .i64 x7, .int .i64 0, .int .i64 (-1)]] : List Ent)) := perm_of_idx [] [0] rfl rfl (by kernel_rfl)
 refine Calls.mono (tree_roots_calls w10 (Fl ([] : List Snap)) x2 A3 n4 c5 (Rw.mono h6 (hL11.toSt hp12 (me 1 rfl))) (hL11.hFl (Sl := ([] : List Snap)) hp12 (sels [] rfl)) (hL11.into hp12 (Fl ([] : List Snap))) r13 hv14) ?_
 rintro _ w20 ⟨A15, n16, c17, rfl, hM21, h18⟩
 have hL22 := hL11.call hp12 hM21
 refine ⟨_, _, _, rfl, hL22, ?_⟩
 refine wl_v 2 rfl (v_assign rfl) gn rfl ?_
 refine w_end 3 rfl ?_
 refine g_seq (c := q59c6) rfl ?_
 refine g_seq (c := q59c7) rfl ?_
 refine g_region (c := q59c9) rfl rfl ?_
 refine wl_v 0 rfl (v_move rfl) gn rfl ?_
 refine wl_v 1 rfl (v_lenQ un_23 rfl (Ow.weak hL11.env.size h18).hq) gn rfl ?_
 refine wl_v 2 rfl (v_fldB fo_39_5 rfl) gn rfl ?_
 refine wl_s 3 rfl (s_stB (vs := [.int .i64 (r13.length : Int)]) (cs' := [.string x1, .bool true, .string (⟨#[]⟩ : ByteArray), .int .i64 x7, .int .i64 x7, .int .i64 (r13.length : Int), .int .i64 (-1)]) (M' := [.own (.slice A15 n16 c17) 3 1 n16 (r13.flatMap (eI .i64)), .box gb8 39 [.string x1, .bool true, .string (⟨#[]⟩ : ByteArray), .int .i64 x7, .int .i64 x7, .int .i64 (r13.length : Int), .int .i64 (-1)]]) 1 sz_3 rfl rfl rfl rfl rfl rfl rfl rfl rfl ?_) gn
 refine w_end 4 rfl ?_
 refine g_seq (c := q59c10) rfl ?_
 refine g_region (c := q59c11) rfl rfl ?_
 refine wl_v 0 rfl (v_fldB fo_39_5 rfl) gn rfl ?_
 refine wl_v 1 rfl (v_ldB1 1 ld_3 rfl rfl rfl) gn rfl ?_
 refine wl_v 2 rfl (v_bin rfl rfl rfl) gn rfl ?_
 refine w_end 3 rfl ?_
 by_cases hp23 : (r13.length : Int) > 0
 ·have h := if_pos' hp23 h
  refine g_true (c := q59c12) rfl _ rfl ((decide_eq_true hp23)) ?_
  obtain ⟨hb24, h⟩ := h
  obtain ⟨hb25, h⟩ := h
  obtain ⟨hb27, h⟩ := h
  obtain ⟨hb28, h⟩ := h
  have hns : Region.noSelect (Code.ops q59c13) = true := by kernel_rfl
  refine g_drawF (c := q59c13) [.own (.slice A15 n16 c17) 3 1 n16 (r13.flatMap (eI .i64))] [Sm w.heap.size F w [], St w []] [] 21 rfl rfl mix rfl (.cons_cons _ (.cons _ (.slnil))) (sels [0, 1] rfl) ?_
  refine wfv 0 rfl (v_move rfl) gn hns rfl ?_
  refine wfv 1 rfl (v_move rfl) gn hns rfl ?_
  refine wfv 2 rfl (v_idxO slE_23 rfl rfl (Ow.weak hL11.env.size h18) hb24) gn hns rfl ?_
  refine wfv 3 rfl (v_ldO1 (.int .i64 (ix r13 0)) 0 ld_3 rfl rfl (fm_get0 (hlI .i64) hb24 rfl)) gn hns rfl ?_
  have hr32 := Rw.readF (s := St w []) (hl := hl_api_Node) (h1 := h1_api_Node) h6 hb25
  refine wfv 4 rfl (v_idxR (s := St w []) slE_22 rfl rfl h6 hb25) gn hns rfl ?_
  refine wfv 5 rfl (v_fldA fo_39_3 rfl) gn hns rfl ?_
  refine wfv 6 rfl (v_ldA1 (kk := (ix r13 0 : Int).toNat * 7) (j := 3) (St w []) ld_3 rfl hr32 rfl (me 1 rfl)) gn hns rfl ?_
  refine wfv 7 rfl (v_move rfl) gn hns rfl ?_
  refine wfv 8 rfl (v_move rfl) gn hns rfl ?_
  refine wfv 9 rfl (v_fldB fo_39_5 rfl) gn hns rfl ?_
  refine wf_all [10] (by kernel_rfl) rfl ⟨on_s 10 rfl gn rfl (s_val (v_ldB1 1 ld_3 rfl rfl rfl) rfl ?_), trivial⟩
  refine ⟨sels [0] rfl, sels [0, 1] rfl, ?_⟩
  refine wfv 11 rfl (v_bin rfl rfl rfl) gn hns rfl ?_
  refine wfv 12 rfl (v_idxO slE_23 rfl rfl (Ow.weak hL11.env.size h18) hb27) gn hns rfl ?_
  refine wfv 13 rfl (v_ldO1 (.int .i64 (ix r13 (w64 ((r13.length : Int) - 1)))) 0 ld_3 rfl rfl (fm_get0 (hlI .i64) hb27 rfl)) gn hns rfl ?_
  have hr33 := Rw.readF (s := St w []) (hl := hl_api_Node) (h1 := h1_api_Node) h6 hb28
  refine wfv 14 rfl (v_idxR (s := St w []) slE_22 rfl rfl h6 hb28) gn hns rfl ?_
  refine wfv 15 rfl (v_fldA fo_39_4 rfl) gn hns rfl ?_
  refine wfv 16 rfl (v_ldA1 (kk := (ix r13 (w64 ((r13.length : Int) - 1)) : Int).toNat * 7) (j := 4) (St w []) ld_3 rfl hr33 rfl (me 1 rfl)) gn hns rfl ?_
  refine wfv 17 rfl (v_fldB fo_39_3 rfl) gn hns rfl ?_
  refine wf_all [18] (by kernel_rfl) rfl ⟨on_s 18 rfl gn rfl (s_stB (vs := [.int .i64 ((ix x2 (ix r13 0)).from_)]) (cs' := [.string x1, .bool true, .string (⟨#[]⟩ : ByteArray), .int .i64 ((ix x2 (ix r13 0)).from_), .int .i64 x7, .int .i64 (r13.length : Int), .int .i64 (-1)]) (M' := [.own (.slice A15 n16 c17) 3 1 n16 (r13.flatMap (eI .i64)), .box gb8 39 [.string x1, .bool true, .string (⟨#[]⟩ : ByteArray), .int .i64 ((ix x2 (ix r13 0)).from_), .int .i64 x7, .int .i64 (r13.length : Int), .int .i64 (-1)]]) 1 sz_3 rfl rfl rfl rfl rfl rfl rfl rfl rfl ?_), trivial⟩
  refine ⟨sels [0] rfl, sels [0, 1] rfl, ?_⟩
  refine wfv 19 rfl (v_fldB fo_39_4 rfl) gn hns rfl ?_
  refine wf_all [20] (by kernel_rfl) rfl ⟨on_s 20 rfl gn rfl (s_stB (vs := [.int .i64 ((ix x2 (ix r13 (w64 ((r13.length : Int) - 1)))).to)]) (cs' := [.string x1, .bool true, .string (⟨#[]⟩ : ByteArray), .int .i64 ((ix x2 (ix r13 0)).from_), .int .i64 ((ix x2 (ix r13 (w64 ((r13.length : Int) - 1)))).to), .int .i64 (r13.length : Int), .int .i64 (-1)]) (M' := [.own (.slice A15 n16 c17) 3 1 n16 (r13.flatMap (eI .i64)), .box gb8 39 [.string x1, .bool true, .string (⟨#[]⟩ : ByteArray), .int .i64 ((ix x2 (ix r13 0)).from_), .int .i64 ((ix x2 (ix r13 (w64 ((r13.length : Int) - 1)))).to), .int .i64 (r13.length : Int), .int .i64 (-1)]]) 1 sz_3 rfl rfl rfl rfl rfl rfl rfl rfl rfl ?_), trivial⟩
  refine ⟨sels [0] rfl, sels [0, 1] rfl, ?_⟩
  refine wf_end (by kernel_rfl) ?_
  refine g_seq (c := q59c8) rfl ?_
  refine g_region (c := q59c15) rfl rfl ?_
  refine wl_v 0 rfl (v_ldB [.string x1, .bool true, .string (⟨#[]⟩ : ByteArray), .int .i64 ((ix x2 (ix r13 0)).from_), .int .i64 ((ix x2 (ix r13 (w64 ((r13.length : Int) - 1)))).to), .int .i64 (r13.length : Int), .int .i64 (-1)] 1 ld_39 rfl rfl rfl rfl) gn rfl ?_
  refine wl_s 1 rfl (s_litO (xs := ([(⟨x1, true, (⟨#[]⟩ : ByteArray), (ix x2 (ix r13 0)).from_, (ix x2 (ix r13 (w64 ((r13.length : Int) - 1)))).to, (r13.length : Int), -1⟩ : api_Node)] : List api_Node)) [.string x1, .bool true, .string (⟨#[]⟩ : ByteArray), .int .i64 ((ix x2 (ix r13 0)).from_), .int .i64 ((ix x2 (ix r13 (w64 ((r13.length : Int) - 1)))).to), .int .i64 (r13.length : Int), .int .i64 (-1)] bs_22_1 rfl (by kernel_rfl) rfl rfl rfl rfl fun gb35 h36 => ?_) gn
  refine wl_v 2 rfl (v_move rfl) gn rfl ?_
  obtain ⟨x40, hv41, h⟩ := h
  obtain ⟨hb42, h⟩ := h
  refine wl_s 3 rfl (s_app (zs := x40) (cells' := x40.flatMap enc_api_Node) 0 ap_22 rfl rfl rfl h36 (Nat.le_refl _) (Src.readF (s := St w []) (hl := hl_api_Node) (h1 := h1_api_Node) h6 (me 1 rfl)) (by rw [hv41, List.flatMap_append] <;> rfl) (app_len hv41 h6.hq) hb42 rfl rfl fun A37 c38 h39 => ?_) gn
  refine wl_v 4 rfl (v_assign rfl) gn rfl ?_
  refine w_end 5 rfl ?_
  refine g_retR (c := q59c16) [.slice A37 (1 + n4) c38] rfl Try.func59 rfl (.tmp rfl (.nil)) fun wr hLr => ?_
  have hMr : B.Loc w wr [.own (.slice A37 (1 + n4) c38) 39 7 (1 + n4) (x40.flatMap enc_api_Node)] [St w []] := hLr.pick (rest := [.own (.slice A15 n16 c17) 3 1 n16 (r13.flatMap (eI .i64)), .box gb8 39 [.string x1, .bool true, .string (⟨#[]⟩ : ByteArray), .int .i64 ((ix x2 (ix r13 0)).from_), .int .i64 ((ix x2 (ix r13 (w64 ((r13.length : Int) - 1)))).to), .int .i64 (r13.length : Int), .int .i64 (-1)]]) (perm_of_idx [0] [1, 2] rfl rfl (by kernel_rfl)) (sels [1] rfl)
  show tree_over_R w F  r (.returned (packV [.slice A37 (1 + n4) c38])) wr
  rw [h]
  exact ⟨A37, 1 + n4, c38, rfl, hMr, h39⟩
 ·have h := if_neg' hp23 h
  refine g_false (c := q59c12) rfl _ rfl ((decide_eq_false hp23)) ?_
  refine g_skip (c := q59c14) rfl ?_
  refine g_seq (c := q59c8) rfl ?_
  refine g_region (c := q59c15) rfl rfl ?_
  refine wl_v 0 rfl (v_ldB [.string x1, .bool true, .string (⟨#[]⟩ : ByteArray), .int .i64 x7, .int .i64 x7, .int .i64 (r13.length : Int), .int .i64 (-1)] 1 ld_39 rfl rfl rfl rfl) gn rfl ?_
  refine wl_s 1 rfl (s_litO (xs := ([(⟨x1, true, (⟨#[]⟩ : ByteArray), x7, x7, (r13.length : Int), -1⟩ : api_Node)] : List api_Node)) [.string x1, .bool true, .string (⟨#[]⟩ : ByteArray), .int .i64 x7, .int .i64 x7, .int .i64 (r13.length : Int), .int .i64 (-1)] bs_22_1 rfl (by kernel_rfl) rfl rfl rfl rfl fun gb44 h45 => ?_) gn
  refine wl_v 2 rfl (v_move rfl) gn rfl ?_
  obtain ⟨x49, hv50, h⟩ := h
  obtain ⟨hb51, h⟩ := h
  refine wl_s 3 rfl (s_app (zs := x49) (cells' := x49.flatMap enc_api_Node) 0 ap_22 rfl rfl rfl h45 (Nat.le_refl _) (Src.readF (s := St w []) (hl := hl_api_Node) (h1 := h1_api_Node) h6 (me 1 rfl)) (by rw [hv50, List.flatMap_append] <;> rfl) (app_len hv50 h6.hq) hb51 rfl rfl fun A46 c47 h48 => ?_) gn
  refine wl_v 4 rfl (v_assign rfl) gn rfl ?_
  refine w_end 5 rfl ?_
  refine g_retR (c := q59c16) [.slice A46 (1 + n4) c47] rfl Try.func59 rfl (.tmp rfl (.nil)) fun wr hLr => ?_
  have hMr : B.Loc w wr [.own (.slice A46 (1 + n4) c47) 39 7 (1 + n4) (x49.flatMap enc_api_Node)] [St w []] := hLr.pick (rest := [.own (.slice A15 n16 c17) 3 1 n16 (r13.flatMap (eI .i64)), .box gb8 39 [.string x1, .bool true, .string (⟨#[]⟩ : ByteArray), .int .i64 x7, .int .i64 x7, .int .i64 (r13.length : Int), .int .i64 (-1)]]) (perm_of_idx [0] [1, 2] rfl rfl (by kernel_rfl)) (sels [1] rfl)
  show tree_over_R w F  r (.returned (packV [.slice A46 (1 + n4) c47])) wr
  rw [h]
  exact ⟨A46, 1 + n4, c47, rfl, hMr, h48⟩
noncomputable abbrev q58c0 : Code := bodyOf Try.f58
noncomputable abbrev q58c1 : Code := Code.fst q58c0
noncomputable abbrev q58c2 : Code := Code.snd q58c0
noncomputable abbrev q58c3 : Code := Code.fst q58c2
noncomputable abbrev q58c4 : Code := Code.snd q58c2
noncomputable abbrev q58c5 : Code := Code.fst q58c4
noncomputable abbrev q58c6 : Code := Code.snd q58c4
noncomputable abbrev q58c7 : Code := Code.fst q58c5
noncomputable abbrev q58c8 : Code := Code.fst q58c7
noncomputable abbrev q58c9 : Code := Code.snd q58c7
noncomputable abbrev q58c10 : Code := Code.fst q58c9
noncomputable abbrev q58c11 : Code := Code.snd q58c9
noncomputable abbrev q58c12 : Code := Code.fst q58c11
noncomputable abbrev q58c13 : Code := Code.snd q58c11
noncomputable abbrev q58c14 : Code := Code.fst q58c13
noncomputable abbrev q58c15 : Code := Code.snd q58c13
noncomputable abbrev q58c16 : Code := Code.fst q58c15
noncomputable abbrev q58c17 : Code := Code.snd q58c15
noncomputable abbrev q58c18 : Code := Code.fst q58c17
noncomputable abbrev q58c19 : Code := Code.fst q58c18
noncomputable abbrev q58c20 : Code := Code.fst q58c19
noncomputable abbrev q58c21 : Code := Code.snd q58c19
noncomputable abbrev q58c22 : Code := Code.fst q58c21
noncomputable abbrev q58c23 : Code := Code.snd q58c21
noncomputable abbrev q58c24 : Code := Code.fst q58c22
noncomputable abbrev q58c25 : Code := Code.snd q58c22
noncomputable abbrev q58c26 : Code := Code.fst q58c23
noncomputable abbrev q58c27 : Code := Code.snd q58c23
noncomputable abbrev q58c28 : Code := Code.fst q58c26
noncomputable abbrev q58c29 : Code := Code.fst q58c28
noncomputable abbrev q58c30 : Code := Code.snd q58c28
noncomputable abbrev q58c31 : Code := Code.fst q58c6
noncomputable abbrev q58c32 : Code := Code.snd q58c6
noncomputable abbrev q58c33 : Code := Code.fst q58c31
noncomputable abbrev q58c34 : Code := Code.snd q58c31
noncomputable abbrev q58c35 : Code := Code.fst q58c34
noncomputable abbrev q58c36 : Code := Code.fst q58c35
noncomputable abbrev q58c37 : Code := Code.fst q58c36
noncomputable abbrev q58c38 : Code := Code.snd q58c36
noncomputable abbrev q58c39 : Code := Code.fst q58c38
noncomputable abbrev q58c40 : Code := Code.snd q58c38
noncomputable abbrev q58c41 : Code := Code.fst q58c39
noncomputable abbrev q58c42 : Code := Code.snd q58c39
noncomputable abbrev q58c43 : Code := Code.fst q58c40
noncomputable abbrev q58c44 : Code := Code.snd q58c40
noncomputable abbrev q58c45 : Code := Code.fst q58c43
noncomputable abbrev q58c46 : Code := Code.fst q58c45
noncomputable abbrev q58c47 : Code := Code.snd q58c45
noncomputable abbrev q58c48 : Code := Code.fst q58c47
noncomputable abbrev q58c49 : Code := Code.snd q58c47
noncomputable abbrev q58c50 : Code := Code.fst q58c49
noncomputable abbrev q58c51 : Code := Code.snd q58c49
noncomputable abbrev q58c52 : Code := Code.fst q58c32
noncomputable abbrev q58c53 : Code := Code.snd q58c32
abbrev tree_part_R (w : World) (F : Nat → Prop) (r : List api_Node) : Ending → World → Prop := fun e w' => ∃ A0 : Option Addr, ∃ n0 : Nat, ∃ c0 : Nat, e = .returned (.slice A0 n0 c0) ∧ B.Loc w w' [.own (.slice A0 n0 c0) 39 7 n0 (r.flatMap enc_api_Node)] [St w []] ∧ Ow w.heap.size A0 n0 c0 r
noncomputable abbrev tree_part_C (w : World) (F : Nat → Prop) (r : List api_Node) : Cx := ⟨Try.prog, 58, Try.f58, 84, tree_part_R w F  r, w⟩
theorem tree_part_calls (w : World) (F : Nat → Prop) (x1 : api_Lang) (x46 : api_Ref) (x47 : List api_Node) (x52 : Int) (A2 : Option Addr) (n3 : Nat) (c4 : Nat) (A6 : Option Addr) (n7 : Nat) (c8 : Nat) (A10 : Option Addr) (n11 : Nat) (c12 : Nat) (A14 : Option Addr) (n15 : Nat) (c16 : Nat) (A18 : Option Addr) (n19 : Nat) (c20 : Nat) (A22 : Option Addr) (n23 : Nat) (c24 : Nat) (A26 : Option Addr) (n27 : Nat) (c28 : Nat) (A30 : Option Addr) (n31 : Nat) (c32 : Nat) (A34 : Option Addr) (n35 : Nat) (c36 : Nat) (A38 : Option Addr) (n39 : Nat) (c40 : Nat) (A42 : Option Addr) (n43 : Nat) (c44 : Nat) (A48 : Option Addr) (n49 : Nat) (c50 : Nat) (h5 : Rw k_api_ModeDef w (St w []).av A2 n3 c4 x1.modes) (h9 : Rw k_api_TermDef w (St w []).av A6 n7 c8 x1.gram.terms) (h13 : Rw k_api_Sym w (St w []).av A10 n11 c12 x1.gram.syms) (h17 : Rw k_api_Prod w (St w []).av A14 n15 c16 x1.gram.prods) (h21 : Rw k_api_Rule w (St w []).av A18 n19 c20 x1.rules) (h25 : Rw (Kd.slice k_api_Action) w (St w []).av A22 n23 c24 x1.table.actions) (h29 : Rw (Kd.slice (kInt .i64)) w (St w []).av A26 n27 c28 x1.table.gotos) (h33 : Rw k_api_PaintDef w (St w []).av A30 n31 c32 x1.paints) (h37 : Rw kStr w (St w []).av A34 n35 c36 x1.folds) (h41 : Rw k_api_MarkDef w (St w []).av A38 n39 c40 x1.marks) (h45 : Rw k_api_InjectDef w (St w []).av A42 n43 c44 x1.injects) (h51 : Rw k_api_Node w (St w []).av A48 n49 c50 x47) (hF : ∀ b, F b → b < w.heap.size ∧ ∀ o ∈ ([] : List (List Nat)), b ∉ o) (hL0 : B.Loc w w [] [Sm w.heap.size F w [], St w []]) (r : List api_Node) (h : tree_part x1 x46 x47 x52 r) : Calls Try.prog 58 #[.agg #[.string x1.name, .slice A2 n3 c4, .slice A6 n7 c8, .slice A10 n11 c12, .slice A14 n15 c16, .slice A18 n19 c20, .slice A22 n23 c24, .slice A26 n27 c28, .slice A30 n31 c32, .slice A34 n35 c36, .slice A38 n39 c40, .slice A42 n43 c44], .agg #[.int .i64 x46.sym, .string x46.field, .string x46.as], .slice A48 n49 c50, .int .i64 x52] w (tree_part_R w F  r) := by
 unfold tree_part at h
 refine calls_of_Loc (vs := [.agg #[.string x1.name, .slice A2 n3 c4, .slice A6 n7 c8, .slice A10 n11 c12, .slice A14 n15 c16, .slice A18 n19 c20, .slice A22 n23 c24, .slice A26 n27 c28, .slice A30 n31 c32, .slice A34 n35 c36, .slice A38 n39 c40, .slice A42 n43 c44], .agg #[.int .i64 x46.sym, .string x46.field, .string x46.as], .slice A48 n49 c50, .int .i64 x52]) 84 Try.func58 rfl Try.ntmps58 rfl hL0 ?_
 show G (tree_part_C w F r) _ _ _ _
 refine g_seq (c := q58c0) rfl ?_
 refine g_region (c := q58c1) rfl rfl ?_
 refine wl_s 0 rfl (s_box [.string x1.name, .slice A2 n3 c4, .slice A6 n7 c8, .slice A10 n11 c12, .slice A14 n15 c16, .slice A18 n19 c20, .slice A22 n23 c24, .slice A26 n27 c28, .slice A30 n31 c32, .slice A34 n35 c36, .slice A38 n39 c40, .slice A42 n43 c44] rfl rfl rfl fun gb53 => ?_) gn
 refine wl_s 1 rfl (s_box [.int .i64 x46.sym, .string x46.field, .string x46.as] rfl rfl rfl fun gb55 => ?_) gn
 refine wl_v 2 rfl (v_assign rfl) gn rfl ?_
 refine w_end 3 rfl ?_
 refine g_seq (c := q58c2) rfl ?_
 refine g_region (c := q58c3) rfl rfl ?_
 refine wl_v 0 rfl (v_move rfl) gn rfl ?_
 obtain ⟨r60, hv61, h⟩ := h
 refine wl_s 1 rfl (s_call [.slice A48 n49 c50] rfl Try.func61 rfl rfl rfl fun w57 hL58 => ?_) gn
 have hp59 : List.Perm ([.box gb55 104 [.int .i64 x46.sym, .string x46.field, .string x46.as], .box gb53 58 [.string x1.name, .slice A2 n3 c4, .slice A6 n7 c8, .slice A10 n11 c12, .slice A14 n15 c16, .slice A18 n19 c20, .slice A22 n23 c24, .slice A26 n27 c28, .slice A30 n31 c32, .slice A34 n35 c36, .slice A38 n39 c40, .slice A42 n43 c44]] : List Ent) (([] : List Ent) ++ ([.box gb55 104 [.int .i64 x46.sym, .string x46.field, .string x46.as], .box gb53 58 [.string x1.name, .slice A2 n3 c4, .slice A6 n7 c8, .slice A10 n11 c12, .slice A14 n15 c16, .slice A18 n19 c20, .slice A22 n23 c24, .slice A26 n27 c28, .slice A30 n31 c32, .slice A34 n35 c36, .slice A38 n39 c40, .slice A42 n43 c44]] : List Ent)) := perm_of_idx [] [0, 1] rfl rfl (by kernel_rfl)
 refine Calls.mono (slices_Clone_api_Node_api_Node_calls w57 (Fl ([] : List Snap)) x47 A48 n49 c50 (Rw.mono h51 (hL58.toSt hp59 (me 1 rfl))) (hL58.hFl (Sl := ([] : List Snap)) hp59 (sels [] rfl)) (hL58.into hp59 (Fl ([] : List Snap))) r60 hv61) ?_
 rintro _ w67 ⟨A62, n63, c64, rfl, hM68, h65⟩
 have hL69 := hL58.call hp59 hM68
 refine ⟨_, _, _, rfl, hL69, ?_⟩
 refine wl_v 2 rfl (v_assign rfl) gn rfl ?_
 refine w_end 3 rfl ?_
 refine g_seq (c := q58c4) rfl ?_
 refine g_block (c := q58c5) rfl ?_
 refine g_seq (c := q58c7) rfl ?_
 refine g_region (c := q58c8) rfl rfl ?_
 refine wl_v 0 rfl (v_fldB fo_104_2 rfl) gn rfl ?_
 refine wl_v 1 rfl (v_ldB1 1 ld_9 rfl rfl rfl) gn rfl ?_
 refine wl_v 2 rfl (v_eqS rfl rfl) gn rfl ?_
 refine wl_v 3 rfl (v_assign rfl) gn rfl ?_
 refine w_end 4 rfl ?_
 have j1 : ∀ (x182 : List api_Node) (h : tree_part_j1 x46 x182 r) (A183 : Option Addr) (n184 : Nat) (c185 : Nat) (h186 : Ow w.heap.size A183 n184 c185 x182), G (tree_part_C w F r) [.inBlock 0, .code q58c6] [(5, .pointer (some ⟨gb55, 0, none⟩)), (9, .slice A183 n184 c185)] [.own (.slice A183 n184 c185) 39 7 n184 (x182.flatMap enc_api_Node), .box gb55 104 [.int .i64 x46.sym, .string x46.field, .string x46.as]] [Sm w.heap.size F w [], St w []] := by
  intro x182 h A183 n184 c185 h186
  unfold tree_part_j1 at h
  refine g_inBlock ?_
  refine g_seq (c := q58c6) rfl ?_
  refine g_seq (c := q58c31) rfl ?_
  refine g_region (c := q58c33) rfl rfl ?_
  refine wl_v 0 rfl (v_move rfl) gn rfl ?_
  obtain ⟨r190, hv191, h⟩ := h
  refine wl_s 1 rfl (s_call [.slice A183 n184 c185] rfl Try.func65 rfl rfl rfl fun w187 hL188 => ?_) gn
  have hp189 : List.Perm ([.own (.slice A183 n184 c185) 39 7 n184 (x182.flatMap enc_api_Node), .box gb55 104 [.int .i64 x46.sym, .string x46.field, .string x46.as]] : List Ent) (([] : List Ent) ++ ([.own (.slice A183 n184 c185) 39 7 n184 (x182.flatMap enc_api_Node), .box gb55 104 [.int .i64 x46.sym, .string x46.field, .string x46.as]] : List Ent)) := perm_of_idx [] [0, 1] rfl rfl (by kernel_rfl)
  refine Calls.mono (tree_roots_calls w187 (Fl ([] : List Snap)) x182 A183 n184 c185 (hL188.argO (dk := k_api_Node) hp189 [] rfl 0 rfl rfl h186 (me 0 rfl) (Cells.flat _)) (hL188.hFl (Sl := ([] : List Snap)) hp189 (sels [] rfl)) (hL188.into hp189 (Fl ([] : List Snap))) r190 hv191) ?_
  rintro _ w197 ⟨A192, n193, c194, rfl, hM198, h195⟩
  have hL199 := hL188.call hp189 hM198
  refine ⟨_, _, _, rfl, hL199, ?_⟩
  refine wl_v 2 rfl (v_lenQ un_23 rfl (Ow.weak hL188.env.size h195).hq) gn rfl ?_
  refine wl_v 3 rfl (v_move rfl) gn rfl ?_
  refine w_end 4 rfl ?_
  refine g_block (c := q58c34) rfl ?_
  refine g_loop (c := q58c35) rfl ?_
  have key2 : ∀ s, Rounds (fun (s : (List api_Node) × Int) o => tree_part_b2 r190 x46 s.1 s.2 o) s r → (fun (s : (List api_Node) × Int) => ∀ (h209 : Ow w.heap.size A183 n184 c185 s.1), G (tree_part_C w F r) [.code q58c36, .inLoop q58c36, .inBlock 3, .code q58c32] [(5, .pointer (some ⟨gb55, 0, none⟩)), (9, .slice A183 n184 c185), (64, .slice A192 n193 c194), (65, .int .i64 (r190.length : Int)), (66, .int .i64 s.2)] [.own (.slice A192 n193 c194) 3 1 n193 (r190.flatMap (eI .i64)), .own (.slice A183 n184 c185) 39 7 n184 (s.1.flatMap enc_api_Node), .box gb55 104 [.int .i64 x46.sym, .string x46.field, .string x46.as]] [Sm w.heap.size F w [], St w []]) s := by
   intro s hs
   refine Rounds.ind (mot := (fun (s : (List api_Node) × Int) => ∀ (h209 : Ow w.heap.size A183 n184 c185 s.1), G (tree_part_C w F r) [.code q58c36, .inLoop q58c36, .inBlock 3, .code q58c32] [(5, .pointer (some ⟨gb55, 0, none⟩)), (9, .slice A183 n184 c185), (64, .slice A192 n193 c194), (65, .int .i64 (r190.length : Int)), (66, .int .i64 s.2)] [.own (.slice A192 n193 c194) 3 1 n193 (r190.flatMap (eI .i64)), .own (.slice A183 n184 c185) 39 7 n184 (s.1.flatMap enc_api_Node), .box gb55 104 [.int .i64 x46.sym, .string x46.field, .string x46.as]] [Sm w.heap.size F w [], St w []])) ?_ hs
   clear hs s
   intro s o1 h hO1
   obtain ⟨x208, x210⟩ := s
   show ∀ (h209 : Ow w.heap.size A183 n184 c185 x208), G (tree_part_C w F r) [.code q58c36, .inLoop q58c36, .inBlock 3, .code q58c32] [(5, .pointer (some ⟨gb55, 0, none⟩)), (9, .slice A183 n184 c185), (64, .slice A192 n193 c194), (65, .int .i64 (r190.length : Int)), (66, .int .i64 x210)] [.own (.slice A192 n193 c194) 3 1 n193 (r190.flatMap (eI .i64)), .own (.slice A183 n184 c185) 39 7 n184 (x208.flatMap enc_api_Node), .box gb55 104 [.int .i64 x46.sym, .string x46.field, .string x46.as]] [Sm w.heap.size F w [], St w []]
   intro h209
   have h : tree_part_b2 r190 x46 x208 x210 o1 := h
   unfold tree_part_b2 at h
   refine g_seq (c := q58c36) rfl ?_
   refine g_region (c := q58c37) rfl rfl ?_
   refine wl_v 0 rfl (v_bin rfl rfl rfl) gn rfl ?_
   refine w_end 1 rfl ?_
   refine g_seq (c := q58c38) rfl ?_
   by_cases hp218 : x210 < (r190.length : Int)
   ·have h := if_pos' hp218 h
    refine g_true (c := q58c39) rfl _ rfl ((decide_eq_true hp218)) ?_
    refine g_skip (c := q58c41) rfl ?_
    refine g_seq (c := q58c40) rfl ?_
    refine g_block (c := q58c43) rfl ?_
    refine g_seq (c := q58c45) rfl ?_
    refine g_region (c := q58c46) rfl rfl ?_
    obtain ⟨hb219, h⟩ := h
    refine wl_v 0 rfl (v_idxO slE_23 rfl rfl (Ow.weak hL188.env.size h195) hb219) gn rfl ?_
    refine wl_v 1 rfl (v_ldO1 (.int .i64 (ix r190 x210)) 0 ld_3 rfl rfl (fm_get0 (hlI .i64) hb219 rfl)) gn rfl ?_
    refine wl_v 2 rfl (v_assign rfl) gn rfl ?_
    refine w_end 3 rfl ?_
    refine g_seq (c := q58c47) rfl ?_
    refine g_region (c := q58c48) rfl rfl ?_
    refine wl_v 0 rfl (v_move rfl) gn rfl ?_
    refine wl_v 1 rfl (v_move rfl) gn rfl ?_
    obtain ⟨hb220, h⟩ := h
    refine wl_v 2 rfl (v_idxO slE_22 rfl rfl h209 hb220) gn rfl ?_
    refine wl_v 3 rfl (v_fldA fo_39_2 rfl) gn rfl ?_
    refine wl_v 4 rfl (v_ldO1 (.string ((ix x208 (ix r190 x210)).field)) 1 ld_9 rfl rfl (fm_get hl_api_Node hb220 rfl)) gn rfl ?_
    refine wl_v 5 rfl (v_eqS rfl rfl) gn rfl ?_
    refine w_end 6 rfl ?_
    by_cases hp221 : (ix x208 (ix r190 x210)).field = (⟨#[]⟩ : ByteArray)
    ·have h := if_pos' hp221 h
     refine g_true (c := q58c49) rfl _ rfl ((seq_t hp221)) ?_
     refine g_region (c := q58c50) rfl rfl ?_
     refine wl_v 0 rfl (v_move rfl) gn rfl ?_
     refine wl_v 1 rfl (v_move rfl) gn rfl ?_
     refine wl_v 2 rfl (v_fldB fo_104_1 rfl) gn rfl ?_
     refine wl_v 3 rfl (v_ldB1 2 ld_9 rfl rfl rfl) gn rfl ?_
     refine wl_v 4 rfl (v_idxO slE_22 rfl rfl h209 hb220) gn rfl ?_
     refine wl_v 5 rfl (v_fldA fo_39_2 rfl) gn rfl ?_
     obtain ⟨x222, hv223, h⟩ := h
     refine wl_s 6 rfl (s_stF (enc := enc_api_Node) (o := 2) (z := ({ (ix x208 (ix r190 x210)) with field := x46.field })) (vs := [.string x46.field]) (i := (ix r190 x210)) 1 hl_api_Node sz_9 rfl rfl rfl rfl rfl h209 hb220 rfl rfl rfl hv223 fun h224 => ?_) gn
     refine w_end 7 rfl ?_
     refine g_inBlock ?_
     refine g_region (c := q58c44) rfl rfl ?_
     refine wl_v 0 rfl (v_bin rfl rfl rfl) gn rfl ?_
     refine wl_v 1 rfl (v_move rfl) gn rfl ?_
     refine w_end 2 rfl ?_
     refine g_inLoop ?_
     have ih := Out.inl hO1 h
     exact g_go [0, 1] (ih h224) ⟨rfl, rfl, rfl, rfl, rfl, trivial⟩ (.cons_cons _ (.cons_cons _ (.cons_cons _ (.slnil)))) rfl
    ·have h := if_neg' hp221 h
     refine g_false (c := q58c49) rfl _ rfl ((seq_f hp221)) ?_
     refine g_skip (c := q58c51) rfl ?_
     refine g_inBlock ?_
     refine g_region (c := q58c44) rfl rfl ?_
     refine wl_v 0 rfl (v_bin rfl rfl rfl) gn rfl ?_
     refine wl_v 1 rfl (v_move rfl) gn rfl ?_
     refine w_end 2 rfl ?_
     refine g_inLoop ?_
     have ih := Out.inl hO1 h
     exact g_go [0, 1] (ih h209) ⟨rfl, rfl, rfl, rfl, rfl, trivial⟩ (.cons_cons _ (.cons_cons _ (.cons_cons _ (.slnil)))) rfl
   ·have h := if_neg' hp218 h
    refine g_false (c := q58c39) rfl _ rfl ((decide_eq_false hp218)) ?_
    refine g_exit (c := q58c42) [.code q58c32] rfl rfl ?_
    refine g_seq (c := q58c32) rfl ?_
    refine g_region (c := q58c52) rfl rfl ?_
    refine wl_v 0 rfl (v_move rfl) gn rfl ?_
    refine wl_v 1 rfl (v_assign rfl) gn rfl ?_
    refine w_end 2 rfl ?_
    have h := Out.inr hO1 h
    refine g_retR (c := q58c53) [.slice A183 n184 c185] rfl Try.func58 rfl (.tmp rfl (.nil)) fun wr hLr => ?_
    have hMr : B.Loc w wr [.own (.slice A183 n184 c185) 39 7 n184 (x208.flatMap enc_api_Node)] [St w []] := hLr.pick (rest := [.own (.slice A192 n193 c194) 3 1 n193 (r190.flatMap (eI .i64)), .box gb55 104 [.int .i64 x46.sym, .string x46.field, .string x46.as]]) (perm_of_idx [1] [0, 2] rfl rfl (by kernel_rfl)) (sels [1] rfl)
    show tree_part_R w F  r (.returned (packV [.slice A183 n184 c185])) wr
    rw [h]
    exact ⟨A183, n184, c185, rfl, hMr, h209⟩
  exact g_go [0, 1] (key2 _ h h186) ⟨rfl, rfl, rfl, rfl, rfl, trivial⟩ (.cons_cons _ (.cons_cons _ (.cons_cons _ (.slnil)))) rfl
 by_cases hp70 : x46.as = (⟨#[]⟩ : ByteArray)
 ·have h := if_pos' hp70 h
  refine g_true (c := q58c9) rfl _ rfl ((seq_t hp70)) ?_
  refine g_region (c := q58c10) rfl rfl ?_
  refine wl_v 0 rfl (v_ldB [.string x1.name, .slice A2 n3 c4, .slice A6 n7 c8, .slice A10 n11 c12, .slice A14 n15 c16, .slice A18 n19 c20, .slice A22 n23 c24, .slice A26 n27 c28, .slice A30 n31 c32, .slice A34 n35 c36, .slice A38 n39 c40, .slice A42 n43 c44] 2 ld_58 rfl rfl rfl rfl) gn rfl ?_
  refine wl_v 1 rfl (v_fldB fo_104_0 rfl) gn rfl ?_
  refine wl_v 2 rfl (v_ldB1 1 ld_3 rfl rfl rfl) gn rfl ?_
  refine wl_v 3 rfl (v_move rfl) gn rfl ?_
  obtain ⟨r228, hv229, h⟩ := h
  refine wl_s 4 rfl (s_call [.agg #[.string x1.name, .slice A2 n3 c4, .slice A6 n7 c8, .slice A10 n11 c12, .slice A14 n15 c16, .slice A18 n19 c20, .slice A22 n23 c24, .slice A26 n27 c28, .slice A30 n31 c32, .slice A34 n35 c36, .slice A38 n39 c40, .slice A42 n43 c44], .int .i64 x46.sym, .slice A48 n49 c50] rfl Try.func33 rfl rfl rfl fun w225 hL226 => ?_) gn
  have hp227 : List.Perm ([.own (.slice A62 n63 c64) 39 7 n63 (r60.flatMap enc_api_Node), .box gb55 104 [.int .i64 x46.sym, .string x46.field, .string x46.as], .box gb53 58 [.string x1.name, .slice A2 n3 c4, .slice A6 n7 c8, .slice A10 n11 c12, .slice A14 n15 c16, .slice A18 n19 c20, .slice A22 n23 c24, .slice A26 n27 c28, .slice A30 n31 c32, .slice A34 n35 c36, .slice A38 n39 c40, .slice A42 n43 c44]] : List Ent) (([] : List Ent) ++ ([.own (.slice A62 n63 c64) 39 7 n63 (r60.flatMap enc_api_Node), .box gb55 104 [.int .i64 x46.sym, .string x46.field, .string x46.as], .box gb53 58 [.string x1.name, .slice A2 n3 c4, .slice A6 n7 c8, .slice A10 n11 c12, .slice A14 n15 c16, .slice A18 n19 c20, .slice A22 n23 c24, .slice A26 n27 c28, .slice A30 n31 c32, .slice A34 n35 c36, .slice A38 n39 c40, .slice A42 n43 c44]] : List Ent)) := perm_of_idx [] [0, 1, 2] rfl rfl (by kernel_rfl)
  refine Calls.mono (tree_Show_calls w225 (Fl ([] : List Snap)) x1 x46.sym x47 A2 n3 c4 A6 n7 c8 A10 n11 c12 A14 n15 c16 A18 n19 c20 A22 n23 c24 A26 n27 c28 A30 n31 c32 A34 n35 c36 A38 n39 c40 A42 n43 c44 A48 n49 c50 (Rw.mono h5 (hL226.toSt hp227 (me 1 rfl))) (Rw.mono h9 (hL226.toSt hp227 (me 1 rfl))) (Rw.mono h13 (hL226.toSt hp227 (me 1 rfl))) (Rw.mono h17 (hL226.toSt hp227 (me 1 rfl))) (Rw.mono h21 (hL226.toSt hp227 (me 1 rfl))) (Rw.mono h25 (hL226.toSt hp227 (me 1 rfl))) (Rw.mono h29 (hL226.toSt hp227 (me 1 rfl))) (Rw.mono h33 (hL226.toSt hp227 (me 1 rfl))) (Rw.mono h37 (hL226.toSt hp227 (me 1 rfl))) (Rw.mono h41 (hL226.toSt hp227 (me 1 rfl))) (Rw.mono h45 (hL226.toSt hp227 (me 1 rfl))) (Rw.mono h51 (hL226.toSt hp227 (me 1 rfl))) (hL226.hFl (Sl := ([] : List Snap)) hp227 (sels [] rfl)) (hL226.into hp227 (Fl ([] : List Snap))) r228 hv229) ?_
  rintro _ w235 ⟨A230, n231, c232, rfl, hM236, h233⟩
  have hL237 := hL226.call hp227 hM236
  refine ⟨_, _, _, rfl, hL237, ?_⟩
  refine wl_v 5 rfl (v_assign rfl) gn rfl ?_
  refine w_end 6 rfl ?_
  exact g_go [0, 1] (j1 r228 h A230 n231 c232 (Ow.weak hL226.env.size h233)) ⟨rfl, rfl, trivial⟩ (.cons_cons _ (.cons _ (.cons_cons _ (.cons _ (.slnil))))) rfl
 ·have h := if_neg' hp70 h
  refine g_false (c := q58c9) rfl _ rfl ((seq_f hp70)) ?_
  refine g_seq (c := q58c11) rfl ?_
  have j3 : ∀ (x256 : Bool) (h : tree_part_j3 x46 r60 x52 x256 r) , G (tree_part_C w F r) [.code q58c13, .inBlock 0, .code q58c6] [(3, .int .i64 x52), (5, .pointer (some ⟨gb55, 0, none⟩)), (9, .slice A62 n63 c64), (43, .bool x256)] [.own (.slice A62 n63 c64) 39 7 n63 (r60.flatMap enc_api_Node), .box gb55 104 [.int .i64 x46.sym, .string x46.field, .string x46.as]] [Sm w.heap.size F w [], St w []] := by
   intro x256 h
   unfold tree_part_j3 at h
   by_cases hp257 : x256 = true
   ·have h := if_pos' hp257 h
    refine g_true (c := q58c13) rfl _ rfl (hp257) ?_
    refine g_region (c := q58c14) rfl rfl ?_
    refine wl_v 0 rfl (v_fldB fo_104_2 rfl) gn rfl ?_
    refine wl_v 1 rfl (v_ldB1 1 ld_9 rfl rfl rfl) gn rfl ?_
    refine wl_v 2 rfl (v_move rfl) gn rfl ?_
    refine wl_v 3 rfl (v_move rfl) gn rfl ?_
    obtain ⟨r261, hv262, h⟩ := h
    refine wl_s 4 rfl (s_call [.string x46.as, .slice A62 n63 c64, .int .i64 x52] rfl Try.func59 rfl rfl rfl fun w258 hL259 => ?_) gn
    have hp260 : List.Perm ([.own (.slice A62 n63 c64) 39 7 n63 (r60.flatMap enc_api_Node), .box gb55 104 [.int .i64 x46.sym, .string x46.field, .string x46.as]] : List Ent) (([] : List Ent) ++ ([.own (.slice A62 n63 c64) 39 7 n63 (r60.flatMap enc_api_Node), .box gb55 104 [.int .i64 x46.sym, .string x46.field, .string x46.as]] : List Ent)) := perm_of_idx [] [0, 1] rfl rfl (by kernel_rfl)
    refine Calls.mono (tree_over_calls w258 (Fl ([] : List Snap)) x46.as r60 x52 A62 n63 c64 (hL259.argO (dk := k_api_Node) hp260 [] rfl 0 rfl rfl (Ow.weak hL58.env.size h65) (me 0 rfl) (Cells.flat _)) (hL259.hFl (Sl := ([] : List Snap)) hp260 (sels [] rfl)) (hL259.into hp260 (Fl ([] : List Snap))) r261 hv262) ?_
    rintro _ w268 ⟨A263, n264, c265, rfl, hM269, h266⟩
    have hL270 := hL259.call hp260 hM269
    refine ⟨_, _, _, rfl, hL270, ?_⟩
    refine wl_v 5 rfl (v_assign rfl) gn rfl ?_
    refine w_end 6 rfl ?_
    exact g_go [0, 1] (j1 r261 h A263 n264 c265 (Ow.weak hL259.env.size h266)) ⟨rfl, rfl, trivial⟩ (.cons_cons _ (.cons _ (.cons_cons _ (.slnil)))) rfl
   ·have h := if_neg' hp257 h
    refine g_false (c := q58c13) rfl _ rfl ((bf hp257)) ?_
    refine g_seq (c := q58c15) rfl ?_
    refine g_region (c := q58c16) rfl rfl ?_
    refine wl_v 0 rfl (v_move rfl) gn rfl ?_
    obtain ⟨r274, hv275, h⟩ := h
    refine wl_s 1 rfl (s_call [.slice A62 n63 c64] rfl Try.func65 rfl rfl rfl fun w271 hL272 => ?_) gn
    have hp273 : List.Perm ([.own (.slice A62 n63 c64) 39 7 n63 (r60.flatMap enc_api_Node), .box gb55 104 [.int .i64 x46.sym, .string x46.field, .string x46.as]] : List Ent) (([] : List Ent) ++ ([.own (.slice A62 n63 c64) 39 7 n63 (r60.flatMap enc_api_Node), .box gb55 104 [.int .i64 x46.sym, .string x46.field, .string x46.as]] : List Ent)) := perm_of_idx [] [0, 1] rfl rfl (by kernel_rfl)
    refine Calls.mono (tree_roots_calls w271 (Fl ([] : List Snap)) r60 A62 n63 c64 (hL272.argO (dk := k_api_Node) hp273 [] rfl 0 rfl rfl (Ow.weak hL58.env.size h65) (me 0 rfl) (Cells.flat _)) (hL272.hFl (Sl := ([] : List Snap)) hp273 (sels [] rfl)) (hL272.into hp273 (Fl ([] : List Snap))) r274 hv275) ?_
    rintro _ w281 ⟨A276, n277, c278, rfl, hM282, h279⟩
    have hL283 := hL272.call hp273 hM282
    refine ⟨_, _, _, rfl, hL283, ?_⟩
    refine wl_v 2 rfl (v_lenQ un_23 rfl (Ow.weak hL272.env.size h279).hq) gn rfl ?_
    refine wl_v 3 rfl (v_move rfl) gn rfl ?_
    refine w_end 4 rfl ?_
    refine g_block (c := q58c17) rfl ?_
    refine g_loop (c := q58c18) rfl ?_
    have key4 : ∀ s, Rounds (fun (s : (List api_Node) × Int) o => tree_part_b4 r274 x46 s.1 s.2 o) s r → (fun (s : (List api_Node) × Int) => ∀ (h298 : Ow w.heap.size A62 n63 c64 s.1), G (tree_part_C w F r) [.code q58c19, .inLoop q58c19, .inBlock 1, .inBlock 0, .code q58c6] [(5, .pointer (some ⟨gb55, 0, none⟩)), (9, .slice A62 n63 c64), (17, .slice A276 n277 c278), (18, .int .i64 (r274.length : Int)), (19, .int .i64 s.2)] [.own (.slice A276 n277 c278) 3 1 n277 (r274.flatMap (eI .i64)), .own (.slice A62 n63 c64) 39 7 n63 (s.1.flatMap enc_api_Node), .box gb55 104 [.int .i64 x46.sym, .string x46.field, .string x46.as]] [Sm w.heap.size F w [], St w []]) s := by
     intro s hs
     refine Rounds.ind (mot := (fun (s : (List api_Node) × Int) => ∀ (h298 : Ow w.heap.size A62 n63 c64 s.1), G (tree_part_C w F r) [.code q58c19, .inLoop q58c19, .inBlock 1, .inBlock 0, .code q58c6] [(5, .pointer (some ⟨gb55, 0, none⟩)), (9, .slice A62 n63 c64), (17, .slice A276 n277 c278), (18, .int .i64 (r274.length : Int)), (19, .int .i64 s.2)] [.own (.slice A276 n277 c278) 3 1 n277 (r274.flatMap (eI .i64)), .own (.slice A62 n63 c64) 39 7 n63 (s.1.flatMap enc_api_Node), .box gb55 104 [.int .i64 x46.sym, .string x46.field, .string x46.as]] [Sm w.heap.size F w [], St w []])) ?_ hs
     clear hs s
     intro s o1 h hO1
     obtain ⟨x297, x299⟩ := s
     show ∀ (h298 : Ow w.heap.size A62 n63 c64 x297), G (tree_part_C w F r) [.code q58c19, .inLoop q58c19, .inBlock 1, .inBlock 0, .code q58c6] [(5, .pointer (some ⟨gb55, 0, none⟩)), (9, .slice A62 n63 c64), (17, .slice A276 n277 c278), (18, .int .i64 (r274.length : Int)), (19, .int .i64 x299)] [.own (.slice A276 n277 c278) 3 1 n277 (r274.flatMap (eI .i64)), .own (.slice A62 n63 c64) 39 7 n63 (x297.flatMap enc_api_Node), .box gb55 104 [.int .i64 x46.sym, .string x46.field, .string x46.as]] [Sm w.heap.size F w [], St w []]
     intro h298
     have h : tree_part_b4 r274 x46 x297 x299 o1 := h
     unfold tree_part_b4 at h
     refine g_seq (c := q58c19) rfl ?_
     refine g_region (c := q58c20) rfl rfl ?_
     refine wl_v 0 rfl (v_bin rfl rfl rfl) gn rfl ?_
     refine w_end 1 rfl ?_
     refine g_seq (c := q58c21) rfl ?_
     by_cases hp312 : x299 < (r274.length : Int)
     ·have h := if_pos' hp312 h
      refine g_true (c := q58c22) rfl _ rfl ((decide_eq_true hp312)) ?_
      refine g_skip (c := q58c24) rfl ?_
      refine g_seq (c := q58c23) rfl ?_
      refine g_block (c := q58c26) rfl ?_
      refine g_seq (c := q58c28) rfl ?_
      refine g_region (c := q58c29) rfl rfl ?_
      obtain ⟨hb313, h⟩ := h
      refine wl_v 0 rfl (v_idxO slE_23 rfl rfl (Ow.weak hL272.env.size h279) hb313) gn rfl ?_
      refine wl_v 1 rfl (v_ldO1 (.int .i64 (ix r274 x299)) 0 ld_3 rfl rfl (fm_get0 (hlI .i64) hb313 rfl)) gn rfl ?_
      refine wl_v 2 rfl (v_assign rfl) gn rfl ?_
      refine w_end 3 rfl ?_
      refine g_region (c := q58c30) rfl rfl ?_
      refine wl_v 0 rfl (v_move rfl) gn rfl ?_
      refine wl_v 1 rfl (v_move rfl) gn rfl ?_
      refine wl_v 2 rfl (v_move rfl) gn rfl ?_
      refine wl_v 3 rfl (v_move rfl) gn rfl ?_
      refine wl_v 4 rfl (v_fldB fo_104_2 rfl) gn rfl ?_
      refine wl_v 5 rfl (v_ldB1 2 ld_9 rfl rfl rfl) gn rfl ?_
      obtain ⟨hb314, h⟩ := h
      refine wl_v 6 rfl (v_idxO slE_22 rfl rfl h298 hb314) gn rfl ?_
      refine wl_v 7 rfl (v_fldA fo_39_0 rfl) gn rfl ?_
      obtain ⟨x315, hv316, h⟩ := h
      refine wl_s 8 rfl (s_stF (enc := enc_api_Node) (o := 0) (z := ({ (ix x297 (ix r274 x299)) with name := x46.as })) (vs := [.string x46.as]) (i := (ix r274 x299)) 1 hl_api_Node sz_9 rfl rfl rfl rfl rfl h298 hb314 rfl rfl rfl hv316 fun h317 => ?_) gn
      obtain ⟨hb318, h⟩ := h
      refine wl_v 9 rfl (v_idxO slE_22 rfl rfl h317 hb318) gn rfl ?_
      refine wl_v 10 rfl (v_fldA fo_39_1 rfl) gn rfl ?_
      obtain ⟨x319, hv320, h⟩ := h
      refine wl_s 11 rfl (s_stF (enc := enc_api_Node) (o := 1) (z := ({ (ix x315 (ix r274 x299)) with named := true })) (vs := [.bool true]) (i := (ix r274 x299)) 1 hl_api_Node sz_4 rfl rfl rfl rfl rfl h317 hb318 rfl rfl rfl hv320 fun h321 => ?_) gn
      refine w_end 12 rfl ?_
      refine g_inBlock ?_
      refine g_region (c := q58c27) rfl rfl ?_
      refine wl_v 0 rfl (v_bin rfl rfl rfl) gn rfl ?_
      refine wl_v 1 rfl (v_move rfl) gn rfl ?_
      refine w_end 2 rfl ?_
      refine g_inLoop ?_
      have ih := Out.inl hO1 h
      exact g_go [0, 1] (ih h321) ⟨rfl, rfl, rfl, rfl, rfl, trivial⟩ (.cons_cons _ (.cons_cons _ (.cons_cons _ (.slnil)))) rfl
     ·have h := if_neg' hp312 h
      refine g_false (c := q58c22) rfl _ rfl ((decide_eq_false hp312)) ?_
      refine g_exit (c := q58c25) [.inBlock 0, .code q58c6] rfl rfl ?_
      obtain ⟨q322, hq323, h⟩ := h
      have hq323 := Out.inr hO1 hq323
      rw [← hq323] at h
      exact g_go [0, 1] (j1 x297 h A62 n63 c64 h298) ⟨rfl, rfl, trivial⟩ (.cons _ (.cons_cons _ (.cons_cons _ (.slnil)))) rfl
    exact g_go [0, 1] (key4 _ h (Ow.weak hL58.env.size h65)) ⟨rfl, rfl, rfl, rfl, rfl, trivial⟩ (.cons_cons _ (.cons_cons _ (.cons_cons _ (.slnil)))) rfl
  refine g_region (c := q58c12) rfl rfl ?_
  refine wl_v 0 rfl (v_fldB fo_58_2 rfl) gn rfl ?_
  refine wl_v 1 rfl (v_ldB [.slice A6 n7 c8, .slice A10 n11 c12, .slice A14 n15 c16] 2 ld_47 rfl rfl rfl rfl) gn rfl ?_
  refine wl_v 2 rfl (v_fldB fo_104_0 rfl) gn rfl ?_
  refine wl_v 3 rfl (v_ldB1 1 ld_3 rfl rfl rfl) gn rfl ?_
  obtain ⟨r327, hv328, h⟩ := h
  refine wl_s 4 rfl (s_call [.agg #[.slice A6 n7 c8, .slice A10 n11 c12, .slice A14 n15 c16], .int .i64 x46.sym] rfl Try.func75 rfl rfl rfl fun w324 hL325 => ?_) gn
  have hp326 : List.Perm ([.own (.slice A62 n63 c64) 39 7 n63 (r60.flatMap enc_api_Node), .box gb55 104 [.int .i64 x46.sym, .string x46.field, .string x46.as], .box gb53 58 [.string x1.name, .slice A2 n3 c4, .slice A6 n7 c8, .slice A10 n11 c12, .slice A14 n15 c16, .slice A18 n19 c20, .slice A22 n23 c24, .slice A26 n27 c28, .slice A30 n31 c32, .slice A34 n35 c36, .slice A38 n39 c40, .slice A42 n43 c44]] : List Ent) (([] : List Ent) ++ ([.own (.slice A62 n63 c64) 39 7 n63 (r60.flatMap enc_api_Node), .box gb55 104 [.int .i64 x46.sym, .string x46.field, .string x46.as], .box gb53 58 [.string x1.name, .slice A2 n3 c4, .slice A6 n7 c8, .slice A10 n11 c12, .slice A14 n15 c16, .slice A18 n19 c20, .slice A22 n23 c24, .slice A26 n27 c28, .slice A30 n31 c32, .slice A34 n35 c36, .slice A38 n39 c40, .slice A42 n43 c44]] : List Ent)) := perm_of_idx [] [0, 1, 2] rfl rfl (by kernel_rfl)
  refine Calls.mono (tree_token_calls w324 (Fl ([] : List Snap)) x1.gram x46.sym A6 n7 c8 A10 n11 c12 A14 n15 c16 (Rw.mono h9 (hL325.toSt hp326 (me 1 rfl))) (Rw.mono h13 (hL325.toSt hp326 (me 1 rfl))) (Rw.mono h17 (hL325.toSt hp326 (me 1 rfl))) (hL325.hFl (Sl := ([] : List Snap)) hp326 (sels [] rfl)) (hL325.into hp326 (Fl ([] : List Snap))) r327 hv328) ?_
  rintro _ w329 ⟨rfl, hM330⟩
  have hL331 := hL325.call hp326 hM330
  refine ⟨_, _, _, rfl, hL331, ?_⟩
  refine wl_v 5 rfl (v_not rfl) gn rfl ?_
  refine wl_v 6 rfl (v_move rfl) gn rfl ?_
  by_cases hp332 : r327 = true
  ·have h := if_pos' hp332 h
   refine w_bool 50 rfl ((nf hp332)) ?_
   refine wl_pass 7 rfl (ps 50 rfl rfl rfl) ?_
   refine wl_pass 8 rfl (ps 50 rfl rfl rfl) ?_
   refine wl_pass 9 rfl (ps 50 rfl rfl rfl) ?_
   refine wl_pass 10 rfl (ps 50 rfl rfl rfl) ?_
   refine wl_pass 11 rfl (ps 50 rfl rfl rfl) ?_
   refine wl_pass 12 rfl (ps 50 rfl rfl rfl) ?_
   refine wl_v 13 rfl (v_pick (b := false) rfl rfl) gn rfl ?_
   refine wl_v 14 rfl (v_assign rfl) gn rfl ?_
   refine w_end 15 rfl ?_
   exact g_go [0, 1] (j3 false h) ⟨rfl, rfl, rfl, rfl, trivial⟩ (.cons_cons _ (.cons_cons _ (.cons _ (.slnil)))) rfl
  ·have h := if_neg' hp332 h
   refine w_bool 50 rfl ((nt (bf hp332))) ?_
   refine wl_v 7 rfl (v_fldB fo_58_2 rfl) (gy 50 rfl rfl) rfl ?_
   refine wl_v 8 rfl (v_ldB [.slice A6 n7 c8, .slice A10 n11 c12, .slice A14 n15 c16] 2 ld_47 rfl rfl rfl rfl) (gy 50 rfl rfl) rfl ?_
   refine wl_v 9 rfl (v_fldB fo_104_0 rfl) (gy 50 rfl rfl) rfl ?_
   refine wl_v 10 rfl (v_ldB1 1 ld_3 rfl rfl rfl) (gy 50 rfl rfl) rfl ?_
   obtain ⟨r336, hv337, h⟩ := h
   refine wl_s 11 rfl (s_call [.agg #[.slice A6 n7 c8, .slice A10 n11 c12, .slice A14 n15 c16], .int .i64 x46.sym] rfl Try.func76 rfl rfl rfl fun w333 hL334 => ?_) (gy 50 rfl rfl)
   have hp335 : List.Perm ([.own (.slice A62 n63 c64) 39 7 n63 (r60.flatMap enc_api_Node), .box gb55 104 [.int .i64 x46.sym, .string x46.field, .string x46.as], .box gb53 58 [.string x1.name, .slice A2 n3 c4, .slice A6 n7 c8, .slice A10 n11 c12, .slice A14 n15 c16, .slice A18 n19 c20, .slice A22 n23 c24, .slice A26 n27 c28, .slice A30 n31 c32, .slice A34 n35 c36, .slice A38 n39 c40, .slice A42 n43 c44]] : List Ent) (([] : List Ent) ++ ([.own (.slice A62 n63 c64) 39 7 n63 (r60.flatMap enc_api_Node), .box gb55 104 [.int .i64 x46.sym, .string x46.field, .string x46.as], .box gb53 58 [.string x1.name, .slice A2 n3 c4, .slice A6 n7 c8, .slice A10 n11 c12, .slice A14 n15 c16, .slice A18 n19 c20, .slice A22 n23 c24, .slice A26 n27 c28, .slice A30 n31 c32, .slice A34 n35 c36, .slice A38 n39 c40, .slice A42 n43 c44]] : List Ent)) := perm_of_idx [] [0, 1, 2] rfl rfl (by kernel_rfl)
   refine Calls.mono (tree_shown_calls w333 (Fl ([] : List Snap)) x1.gram x46.sym A6 n7 c8 A10 n11 c12 A14 n15 c16 (Rw.mono h9 (hL334.toSt hp335 (me 1 rfl))) (Rw.mono h13 (hL334.toSt hp335 (me 1 rfl))) (Rw.mono h17 (hL334.toSt hp335 (me 1 rfl))) (hL334.hFl (Sl := ([] : List Snap)) hp335 (sels [] rfl)) (hL334.into hp335 (Fl ([] : List Snap))) r336 hv337) ?_
   rintro _ w338 ⟨rfl, hM339⟩
   have hL340 := hL334.call hp335 hM339
   refine ⟨_, _, _, rfl, hL340, ?_⟩
   refine wl_v 12 rfl (v_not rfl) (gy 50 rfl rfl) rfl ?_
   refine wl_v 13 rfl (v_pick (b := true) rfl rfl) gn rfl ?_
   refine wl_v 14 rfl (v_assign rfl) gn rfl ?_
   refine w_end 15 rfl ?_
   exact g_go [0, 1] (j3 (!r336) h) ⟨rfl, rfl, rfl, rfl, trivial⟩ (.cons_cons _ (.cons_cons _ (.cons _ (.slnil)))) rfl
end Go.Proofs.Ytmekgfcfooghnaa.K
