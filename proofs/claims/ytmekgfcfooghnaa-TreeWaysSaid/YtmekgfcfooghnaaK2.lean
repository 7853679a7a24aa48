/- What the machine's calls do, function by function, printed by my own tool. Condition of each: its relation holds of the answer, and what is handed in lies in memory as told. -/
import Derived.Test.YtmekgfcfooghnaaK1
set_option linter.unusedVariables false
set_option maxRecDepth 100000
set_option maxHeartbeats 4000000
namespace Go.Proofs.Ytmekgfcfooghnaa.K
open Go.Proofs.Ytmekgfcfooghnaa.B Go.Proofs.Ytmekgfcfooghnaa.R Go.RowKit
noncomputable abbrev tree_Token_c0 : Code := bodyOf Try.f25
noncomputable abbrev tree_Token_c1 : Code := Code.fst tree_Token_c0
noncomputable abbrev tree_Token_c2 : Code := Code.snd tree_Token_c0
noncomputable abbrev tree_Token_c3 : Code := Code.fst tree_Token_c2
noncomputable abbrev tree_Token_c4 : Code := Code.snd tree_Token_c2
noncomputable abbrev tree_Token_c5 : Code := Code.fst tree_Token_c3
noncomputable abbrev tree_Token_c6 : Code := Code.snd tree_Token_c3
noncomputable abbrev tree_Token_c7 : Code := Code.fst tree_Token_c6
noncomputable abbrev tree_Token_c8 : Code := Code.snd tree_Token_c6
noncomputable abbrev tree_Token_c9 : Code := Code.fst tree_Token_c7
noncomputable abbrev tree_Token_c10 : Code := Code.snd tree_Token_c7
noncomputable abbrev tree_Token_c11 : Code := Code.fst tree_Token_c4
noncomputable abbrev tree_Token_c12 : Code := Code.snd tree_Token_c4
noncomputable abbrev tree_Token_c13 : Code := Code.fst tree_Token_c12
noncomputable abbrev tree_Token_c14 : Code := Code.snd tree_Token_c12
abbrev tree_Token_R (w : World) (F : Nat → Prop) (r : List api_Node) : Ending → World → Prop := fun e w' => ∃ A0 : Option Addr, ∃ n0 : Nat, ∃ c0 : Nat, e = .returned (.slice A0 n0 c0) ∧ B.Loc w w' [.own (.slice A0 n0 c0) 39 7 n0 (r.flatMap enc_api_Node)] [St w []] ∧ Ow w.heap.size A0 n0 c0 r
noncomputable abbrev tree_Token_C (w : World) (F : Nat → Prop) (r : List api_Node) : Cx := ⟨Try.prog, 25, Try.f25, 38, tree_Token_R w F  r, w⟩
theorem tree_Token_calls (w : World) (F : Nat → Prop) (x1 : api_Lang) (x46 : Int) (x47 : Int) (x48 : Int) (x49 : Int) (A2 : Option Addr) (n3 : Nat) (c4 : Nat) (A6 : Option Addr) (n7 : Nat) (c8 : Nat) (A10 : Option Addr) (n11 : Nat) (c12 : Nat) (A14 : Option Addr) (n15 : Nat) (c16 : Nat) (A18 : Option Addr) (n19 : Nat) (c20 : Nat) (A22 : Option Addr) (n23 : Nat) (c24 : Nat) (A26 : Option Addr) (n27 : Nat) (c28 : Nat) (A30 : Option Addr) (n31 : Nat) (c32 : Nat) (A34 : Option Addr) (n35 : Nat) (c36 : Nat) (A38 : Option Addr) (n39 : Nat) (c40 : Nat) (A42 : Option Addr) (n43 : Nat) (c44 : Nat) (h5 : Rw k_api_ModeDef w (St w []).av A2 n3 c4 x1.modes) (h9 : Rw k_api_TermDef w (St w []).av A6 n7 c8 x1.gram.terms) (h13 : Rw k_api_Sym w (St w []).av A10 n11 c12 x1.gram.syms) (h17 : Rw k_api_Prod w (St w []).av A14 n15 c16 x1.gram.prods) (h21 : Rw k_api_Rule w (St w []).av A18 n19 c20 x1.rules) (h25 : Rw (Kd.slice k_api_Action) w (St w []).av A22 n23 c24 x1.table.actions) (h29 : Rw (Kd.slice (kInt .i64)) w (St w []).av A26 n27 c28 x1.table.gotos) (h33 : Rw k_api_PaintDef w (St w []).av A30 n31 c32 x1.paints) (h37 : Rw kStr w (St w []).av A34 n35 c36 x1.folds) (h41 : Rw k_api_MarkDef w (St w []).av A38 n39 c40 x1.marks) (h45 : Rw k_api_InjectDef w (St w []).av A42 n43 c44 x1.injects) (hF : ∀ b, F b → b < w.heap.size ∧ ∀ o ∈ ([] : List (List Nat)), b ∉ o) (hL0 : B.Loc w w [] [Sm w.heap.size F w [], St w []]) (r : List api_Node) (h : tree_Token x1 x46 x47 x48 x49 r) : Calls Try.prog 25 #[.agg #[.string x1.name, .slice A2 n3 c4, .slice A6 n7 c8, .slice A10 n11 c12, .slice A14 n15 c16, .slice A18 n19 c20, .slice A22 n23 c24, .slice A26 n27 c28, .slice A30 n31 c32, .slice A34 n35 c36, .slice A38 n39 c40, .slice A42 n43 c44], .int .i64 x46, .int .i64 x47, .int .i64 x48, .int .i64 x49] w (tree_Token_R w F  r) := by
  unfold tree_Token at h
  refine calls_of_Loc (vs := [.agg #[.string x1.name, .slice A2 n3 c4, .slice A6 n7 c8, .slice A10 n11 c12, .slice A14 n15 c16, .slice A18 n19 c20, .slice A22 n23 c24, .slice A26 n27 c28, .slice A30 n31 c32, .slice A34 n35 c36, .slice A38 n39 c40, .slice A42 n43 c44], .int .i64 x46, .int .i64 x47, .int .i64 x48, .int .i64 x49]) 38 Try.func25 rfl Try.ntmps25 rfl hL0 ?_
  show G (tree_Token_C w F r) _ _ _ _
  refine g_seq (c := tree_Token_c0) rfl ?_
  refine g_region (c := tree_Token_c1) rfl rfl ?_
  refine wl_s 0 rfl (s_box [.string x1.name, .slice A2 n3 c4, .slice A6 n7 c8, .slice A10 n11 c12, .slice A14 n15 c16, .slice A18 n19 c20, .slice A22 n23 c24, .slice A26 n27 c28, .slice A30 n31 c32, .slice A34 n35 c36, .slice A38 n39 c40, .slice A42 n43 c44] rfl rfl rfl fun gb50 => ?_) gn
  refine wl_v 1 rfl (v_assign rfl) gn rfl ?_
  refine w_end 2 rfl ?_
  refine g_seq (c := tree_Token_c2) rfl ?_
  refine g_seq (c := tree_Token_c3) rfl ?_
  have j1 : ∀ (x54 : Bool) (h : tree_Token_j1 x46 x1 x48 x49 x47 x54 r) , G (tree_Token_C w F r) [.code tree_Token_c6, .code tree_Token_c4] [(1, .int .i64 x46), (2, .int .i64 x47), (3, .int .i64 x48), (4, .int .i64 x49), (5, .pointer (some ⟨gb50, 0, none⟩)), (21, .bool x54)] [.box gb50 58 [.string x1.name, .slice A2 n3 c4, .slice A6 n7 c8, .slice A10 n11 c12, .slice A14 n15 c16, .slice A18 n19 c20, .slice A22 n23 c24, .slice A26 n27 c28, .slice A30 n31 c32, .slice A34 n35 c36, .slice A38 n39 c40, .slice A42 n43 c44]] [Sm w.heap.size F w [], St w []] := by
    intro x54 h
    unfold tree_Token_j1 at h
    by_cases hp55 : x54 = true
    · have h := if_pos' hp55 h
      refine g_true (c := tree_Token_c6) rfl _ rfl (hp55) ?_
      refine g_seq (c := tree_Token_c7) rfl ?_
      refine g_region (c := tree_Token_c9) rfl rfl ?_
      refine wl_v 0 rfl (v_assign rfl) gn rfl ?_
      refine w_end 1 rfl ?_
      refine g_nil 39 7 ?_
      refine g_retR (c := tree_Token_c10) [.slice none 0 0] rfl Try.func25 rfl (.tmp rfl (.nil)) fun wr hLr => ?_
      have hMr : B.Loc w wr [.own (.slice none 0 0) 39 7 0 (([] : List api_Node).flatMap enc_api_Node)] [St w []] := hLr.pick (rest := [.box gb50 58 [.string x1.name, .slice A2 n3 c4, .slice A6 n7 c8, .slice A10 n11 c12, .slice A14 n15 c16, .slice A18 n19 c20, .slice A22 n23 c24, .slice A26 n27 c28, .slice A30 n31 c32, .slice A34 n35 c36, .slice A38 n39 c40, .slice A42 n43 c44]]) (perm_of_idx [0] [1] rfl rfl (by kernel_rfl)) (sels [1] rfl)
      have hMi : ∀ e ∈ ([.own (.slice none 0 0) 39 7 0 (([] : List api_Node).flatMap enc_api_Node)] : List Ent), e ∈ ([.own (.slice none 0 0) 39 7 0 (([] : List api_Node).flatMap enc_api_Node), .box gb50 58 [.string x1.name, .slice A2 n3 c4, .slice A6 n7 c8, .slice A10 n11 c12, .slice A14 n15 c16, .slice A18 n19 c20, .slice A22 n23 c24, .slice A26 n27 c28, .slice A30 n31 c32, .slice A34 n35 c36, .slice A38 n39 c40, .slice A42 n43 c44]] : List Ent) := sels [0] rfl
      show tree_Token_R w F  r (.returned (packV [.slice none 0 0])) wr
      rw [h]
      exact ⟨none, 0, 0, rfl, hMr, (Ow.nil (z := w.heap.size))⟩
    · have h := if_neg' hp55 h
      refine g_false (c := tree_Token_c6) rfl _ rfl ((bf hp55)) ?_
      refine g_skip (c := tree_Token_c8) rfl ?_
      refine g_seq (c := tree_Token_c4) rfl ?_
      refine g_region (c := tree_Token_c11) rfl rfl ?_
      refine wl_v 0 rfl (v_fldB fo_58_2 rfl) gn rfl ?_
      refine wl_v 1 rfl (v_fldB fo_47_0 rfl) gn rfl ?_
      refine wl_v 2 rfl (v_ldB1 0 ld_43 rfl rfl rfl) gn rfl ?_
      refine wl_v 3 rfl (v_move rfl) gn rfl ?_
      obtain ⟨hb56, h⟩ := h
      have hr57 := Rw.readF (s := St w []) (hl := hl_api_TermDef) (h1 := h1_api_TermDef) h9 hb56
      refine wl_v 4 rfl (v_idxR (s := St w []) slE_43 rfl rfl h9 hb56) gn rfl ?_
      refine wl_v 5 rfl (v_ldA (St w []) ld_100 rfl hr57 rfl (me 1 rfl)) gn rfl ?_
      refine wl_s 6 rfl (s_alloc [.string (⟨#[]⟩ : ByteArray), .bool false] zr_100 rfl fun gb58 => ?_) gn
      refine wl_s 7 rfl (s_stB (vs := [.string ((ix x1.gram.terms x46).name), .bool ((ix x1.gram.terms x46).lit)]) (cs' := [.string ((ix x1.gram.terms x46).name), .bool ((ix x1.gram.terms x46).lit)]) (M' := [.box gb58 100 [.string ((ix x1.gram.terms x46).name), .bool ((ix x1.gram.terms x46).lit)], .box gb50 58 [.string x1.name, .slice A2 n3 c4, .slice A6 n7 c8, .slice A10 n11 c12, .slice A14 n15 c16, .slice A18 n19 c20, .slice A22 n23 c24, .slice A26 n27 c28, .slice A30 n31 c32, .slice A34 n35 c36, .slice A38 n39 c40, .slice A42 n43 c44]]) 0 sz_100 rfl rfl rfl rfl rfl rfl rfl rfl rfl ?_) gn
      refine w_end 8 rfl ?_
      refine g_seq (c := tree_Token_c12) rfl ?_
      refine g_region (c := tree_Token_c13) rfl rfl ?_
      refine wl_v 0 rfl (v_fldB fo_100_0 rfl) gn rfl ?_
      refine wl_v 1 rfl (v_ldB1 0 ld_9 rfl rfl rfl) gn rfl ?_
      refine wl_v 2 rfl (v_fldB fo_100_1 rfl) gn rfl ?_
      refine wl_v 3 rfl (v_ldB1 0 ld_4 rfl rfl rfl) gn rfl ?_
      refine wl_v 4 rfl (v_not rfl) gn rfl ?_
      refine wl_v 5 rfl (v_move rfl) gn rfl ?_
      refine wl_v 6 rfl (v_move rfl) gn rfl ?_
      refine wl_v 7 rfl (v_move rfl) gn rfl ?_
      refine wl_v 8 rfl (v_build #[.string ((ix x1.gram.terms x46).name), .bool (!((ix x1.gram.terms x46).lit)), .string (⟨#[]⟩ : ByteArray), .int .i64 x48, .int .i64 x49, .int .i64 0, .int .i64 x47] bd_39 rfl (by kernel_rfl)) gn rfl ?_
      refine wl_s 9 rfl (s_litO (xs := ([(⟨(ix x1.gram.terms x46).name, (!((ix x1.gram.terms x46).lit)), (⟨#[]⟩ : ByteArray), x48, x49, 0, x47⟩ : api_Node)] : List api_Node)) [.string ((ix x1.gram.terms x46).name), .bool (!((ix x1.gram.terms x46).lit)), .string (⟨#[]⟩ : ByteArray), .int .i64 x48, .int .i64 x49, .int .i64 0, .int .i64 x47] bs_22_1 rfl (by kernel_rfl) rfl rfl rfl rfl fun gb61 h62 => ?_) gn
      refine wl_v 10 rfl (v_assign rfl) gn rfl ?_
      refine w_end 11 rfl ?_
      refine g_retR (c := tree_Token_c14) [.slice (some ⟨gb61, 0, none⟩) 1 1] rfl Try.func25 rfl (.tmp rfl (.nil)) fun wr hLr => ?_
      have hMr : B.Loc w wr [.own (.slice (some ⟨gb61, 0, none⟩) 1 1) 39 7 1 (([(⟨(ix x1.gram.terms x46).name, (!((ix x1.gram.terms x46).lit)), (⟨#[]⟩ : ByteArray), x48, x49, 0, x47⟩ : api_Node)] : List api_Node).flatMap enc_api_Node)] [St w []] := hLr.pick (rest := [.box gb58 100 [.string ((ix x1.gram.terms x46).name), .bool ((ix x1.gram.terms x46).lit)], .box gb50 58 [.string x1.name, .slice A2 n3 c4, .slice A6 n7 c8, .slice A10 n11 c12, .slice A14 n15 c16, .slice A18 n19 c20, .slice A22 n23 c24, .slice A26 n27 c28, .slice A30 n31 c32, .slice A34 n35 c36, .slice A38 n39 c40, .slice A42 n43 c44]]) (perm_of_idx [0] [1, 2] rfl rfl (by kernel_rfl)) (sels [1] rfl)
      have hMi : ∀ e ∈ ([.own (.slice (some ⟨gb61, 0, none⟩) 1 1) 39 7 1 (([(⟨(ix x1.gram.terms x46).name, (!((ix x1.gram.terms x46).lit)), (⟨#[]⟩ : ByteArray), x48, x49, 0, x47⟩ : api_Node)] : List api_Node).flatMap enc_api_Node)] : List Ent), e ∈ ([.own (.slice (some ⟨gb61, 0, none⟩) 1 1) 39 7 1 (([(⟨(ix x1.gram.terms x46).name, (!((ix x1.gram.terms x46).lit)), (⟨#[]⟩ : ByteArray), x48, x49, 0, x47⟩ : api_Node)] : List api_Node).flatMap enc_api_Node), .box gb58 100 [.string ((ix x1.gram.terms x46).name), .bool ((ix x1.gram.terms x46).lit)], .box gb50 58 [.string x1.name, .slice A2 n3 c4, .slice A6 n7 c8, .slice A10 n11 c12, .slice A14 n15 c16, .slice A18 n19 c20, .slice A22 n23 c24, .slice A26 n27 c28, .slice A30 n31 c32, .slice A34 n35 c36, .slice A38 n39 c40, .slice A42 n43 c44]] : List Ent) := sels [0] rfl
      show tree_Token_R w F  r (.returned (packV [.slice (some ⟨gb61, 0, none⟩) 1 1])) wr
      rw [h]
      exact ⟨(some ⟨gb61, 0, none⟩), 1, 1, rfl, hMr, h62⟩
  refine g_region (c := tree_Token_c5) rfl rfl ?_
  refine wl_v 0 rfl (v_move rfl) gn rfl ?_
  refine wl_v 1 rfl (v_bin rfl rfl rfl) gn rfl ?_
  refine wl_v 2 rfl (v_move rfl) gn rfl ?_
  by_cases hp63 : x46 < 1
  · have h := if_pos' hp63 h
    refine w_bool 14 rfl ((decide_eq_true hp63)) ?_
    refine wl_pass 3 rfl (ps 14 rfl rfl rfl) ?_
    refine wl_pass 4 rfl (ps 14 rfl rfl rfl) ?_
    refine wl_pass 5 rfl (ps 14 rfl rfl rfl) ?_
    refine wl_pass 6 rfl (ps 14 rfl rfl rfl) ?_
    refine wl_pass 7 rfl (ps 14 rfl rfl rfl) ?_
    refine wl_pass 8 rfl (ps 14 rfl rfl rfl) ?_
    refine wl_v 9 rfl (v_pick (b := true) rfl rfl) gn rfl ?_
    refine w_end 10 rfl ?_
    exact g_go [0, 1] (j1 true h) ⟨rfl, rfl, rfl, rfl, rfl, rfl, trivial⟩ (.cons_cons _ (.slnil)) rfl
  · have h := if_neg' hp63 h
    refine w_bool 14 rfl ((decide_eq_false hp63)) ?_
    refine wl_v 3 rfl (v_move rfl) (gy 14 rfl rfl) rfl ?_
    refine wl_v 4 rfl (v_fldB fo_58_2 rfl) (gy 14 rfl rfl) rfl ?_
    refine wl_v 5 rfl (v_fldB fo_47_0 rfl) (gy 14 rfl rfl) rfl ?_
    refine wl_v 6 rfl (v_ldB1 0 ld_43 rfl rfl rfl) (gy 14 rfl rfl) rfl ?_
    refine wl_v 7 rfl (v_lenQ un_43 rfl h9.hq) (gy 14 rfl rfl) rfl ?_
    refine wl_v 8 rfl (v_bin rfl rfl rfl) (gy 14 rfl rfl) rfl ?_
    refine wl_v 9 rfl (v_pick (b := false) rfl rfl) gn rfl ?_
    refine w_end 10 rfl ?_
    exact g_go [0, 1] (j1 (decide (x46 ≥ (x1.gram.terms.length : Int))) h) ⟨rfl, rfl, rfl, rfl, rfl, rfl, trivial⟩ (.cons_cons _ (.slnil)) rfl
noncomputable abbrev tree_forest_beside_c0 : Code := bodyOf Try.f66
noncomputable abbrev tree_forest_beside_c1 : Code := Code.fst tree_forest_beside_c0
noncomputable abbrev tree_forest_beside_c2 : Code := Code.snd tree_forest_beside_c0
noncomputable abbrev tree_forest_beside_c3 : Code := Code.fst tree_forest_beside_c2
noncomputable abbrev tree_forest_beside_c4 : Code := Code.snd tree_forest_beside_c2
noncomputable abbrev tree_forest_beside_c5 : Code := Code.fst tree_forest_beside_c4
noncomputable abbrev tree_forest_beside_c6 : Code := Code.snd tree_forest_beside_c4
noncomputable abbrev tree_forest_beside_c7 : Code := Code.fst tree_forest_beside_c5
noncomputable abbrev tree_forest_beside_c8 : Code := Code.fst tree_forest_beside_c7
noncomputable abbrev tree_forest_beside_c9 : Code := Code.fst tree_forest_beside_c8
noncomputable abbrev tree_forest_beside_c10 : Code := Code.snd tree_forest_beside_c8
noncomputable abbrev tree_forest_beside_c11 : Code := Code.fst tree_forest_beside_c9
noncomputable abbrev tree_forest_beside_c12 : Code := Code.snd tree_forest_beside_c9
noncomputable abbrev tree_forest_beside_c13 : Code := Code.fst tree_forest_beside_c12
noncomputable abbrev tree_forest_beside_c14 : Code := Code.snd tree_forest_beside_c12
noncomputable abbrev tree_forest_beside_c15 : Code := Code.fst tree_forest_beside_c10
noncomputable abbrev tree_forest_beside_c16 : Code := Code.snd tree_forest_beside_c10
noncomputable abbrev tree_forest_beside_c17 : Code := Code.fst tree_forest_beside_c15
noncomputable abbrev tree_forest_beside_c18 : Code := Code.fst tree_forest_beside_c6
noncomputable abbrev tree_forest_beside_c19 : Code := Code.snd tree_forest_beside_c6
abbrev tree_forest_beside_R (w : World) (F : Nat → Prop) (r : List Int) : Ending → World → Prop := fun e w' => ∃ A0 : Option Addr, ∃ n0 : Nat, ∃ c0 : Nat, e = .returned (.slice A0 n0 c0) ∧ B.Loc w w' [.own (.slice A0 n0 c0) 3 1 n0 (r.flatMap (eI .i64))] [St w []] ∧ Ow w.heap.size A0 n0 c0 r
noncomputable abbrev tree_forest_beside_C (w : World) (F : Nat → Prop) (r : List Int) : Cx := ⟨Try.prog, 66, Try.f66, 21, tree_forest_beside_R w F  r, w⟩
theorem tree_forest_beside_calls (w : World) (F : Nat → Prop) (x1 : tree_forest) (x14 : Int) (x15 : Int) (A2 : Option Addr) (n3 : Nat) (c4 : Nat) (A6 : Option Addr) (n7 : Nat) (c8 : Nat) (A10 : Option Addr) (n11 : Nat) (c12 : Nat) (h5 : Rw k_api_Node w (St w []).av A2 n3 c4 x1.nodes) (h9 : Rw (kInt .i64) w (St w []).av A6 n7 c8 x1.parent) (h13 : Rw (kInt .i64) w (St w []).av A10 n11 c12 x1.end_) (hF : ∀ b, F b → b < w.heap.size ∧ ∀ o ∈ ([] : List (List Nat)), b ∉ o) (hL0 : B.Loc w w [] [Sm w.heap.size F w [], St w []]) (r : List Int) (h : tree_forest_beside x1 x14 x15 r) : Calls Try.prog 66 #[.agg #[.slice A2 n3 c4, .slice A6 n7 c8, .slice A10 n11 c12, .bool x1.ok], .int .i64 x14, .int .i64 x15] w (tree_forest_beside_R w F  r) := by
  unfold tree_forest_beside at h
  refine calls_of_Loc (vs := [.agg #[.slice A2 n3 c4, .slice A6 n7 c8, .slice A10 n11 c12, .bool x1.ok], .int .i64 x14, .int .i64 x15]) 21 Try.func66 rfl Try.ntmps66 rfl hL0 ?_
  show G (tree_forest_beside_C w F r) _ _ _ _
  refine g_seq (c := tree_forest_beside_c0) rfl ?_
  refine g_region (c := tree_forest_beside_c1) rfl rfl ?_
  refine wl_s 0 rfl (s_box [.slice A2 n3 c4, .slice A6 n7 c8, .slice A10 n11 c12, .bool x1.ok] rfl rfl rfl fun gb16 => ?_) gn
  refine wl_v 1 rfl (v_assign rfl) gn rfl ?_
  refine w_end 2 rfl ?_
  refine g_seq (c := tree_forest_beside_c2) rfl ?_
  refine g_region (c := tree_forest_beside_c3) rfl rfl ?_
  refine wl_v 0 rfl (v_assign rfl) gn rfl ?_
  refine w_end 1 rfl ?_
  refine g_seq (c := tree_forest_beside_c4) rfl ?_
  refine g_block (c := tree_forest_beside_c5) rfl ?_
  refine g_loop (c := tree_forest_beside_c7) rfl ?_
  have key1 : ∀ s, Rounds (fun (s : Int × (List Int)) o => tree_forest_beside_b1 x15 x1 s.1 s.2 o) s r → (fun (s : Int × (List Int)) => ∀ (A34 : Option Addr) (n35 : Nat) (c36 : Nat) (h37 : Ow w.heap.size A34 n35 c36 s.2), G (tree_forest_beside_C w F r) [.code tree_forest_beside_c8, .inLoop tree_forest_beside_c8, .inBlock 0, .code tree_forest_beside_c6] [(1, .int .i64 s.1), (2, .int .i64 x15), (3, .pointer (some ⟨gb16, 0, none⟩)), (7, .slice A34 n35 c36)] [.own (.slice A34 n35 c36) 3 1 n35 (s.2.flatMap (eI .i64)), .box gb16 32 [.slice A2 n3 c4, .slice A6 n7 c8, .slice A10 n11 c12, .bool x1.ok]] [Sm w.heap.size F w [], St w []]) s := by
    intro s hs
    refine Rounds.ind (mot := (fun (s : Int × (List Int)) => ∀ (A34 : Option Addr) (n35 : Nat) (c36 : Nat) (h37 : Ow w.heap.size A34 n35 c36 s.2), G (tree_forest_beside_C w F r) [.code tree_forest_beside_c8, .inLoop tree_forest_beside_c8, .inBlock 0, .code tree_forest_beside_c6] [(1, .int .i64 s.1), (2, .int .i64 x15), (3, .pointer (some ⟨gb16, 0, none⟩)), (7, .slice A34 n35 c36)] [.own (.slice A34 n35 c36) 3 1 n35 (s.2.flatMap (eI .i64)), .box gb16 32 [.slice A2 n3 c4, .slice A6 n7 c8, .slice A10 n11 c12, .bool x1.ok]] [Sm w.heap.size F w [], St w []])) ?_ hs
    clear hs s
    intro s o1 h hO1
    obtain ⟨x32, x33⟩ := s
    show ∀ (A34 : Option Addr) (n35 : Nat) (c36 : Nat) (h37 : Ow w.heap.size A34 n35 c36 x33), G (tree_forest_beside_C w F r) [.code tree_forest_beside_c8, .inLoop tree_forest_beside_c8, .inBlock 0, .code tree_forest_beside_c6] [(1, .int .i64 x32), (2, .int .i64 x15), (3, .pointer (some ⟨gb16, 0, none⟩)), (7, .slice A34 n35 c36)] [.own (.slice A34 n35 c36) 3 1 n35 (x33.flatMap (eI .i64)), .box gb16 32 [.slice A2 n3 c4, .slice A6 n7 c8, .slice A10 n11 c12, .bool x1.ok]] [Sm w.heap.size F w [], St w []]
    intro A34 n35 c36 h37
    have h : tree_forest_beside_b1 x15 x1 x32 x33 o1 := h
    unfold tree_forest_beside_b1 at h
    refine g_seq (c := tree_forest_beside_c8) rfl ?_
    refine g_seq (c := tree_forest_beside_c9) rfl ?_
    refine g_region (c := tree_forest_beside_c11) rfl rfl ?_
    refine wl_v 0 rfl (v_move rfl) gn rfl ?_
    refine wl_v 1 rfl (v_move rfl) gn rfl ?_
    refine wl_v 2 rfl (v_bin rfl rfl rfl) gn rfl ?_
    refine w_end 3 rfl ?_
    by_cases hp50 : x32 < x15
    · have h := if_pos' hp50 h
      refine g_true (c := tree_forest_beside_c12) rfl _ rfl ((decide_eq_true hp50)) ?_
      refine g_skip (c := tree_forest_beside_c13) rfl ?_
      refine g_seq (c := tree_forest_beside_c10) rfl ?_
      refine g_block (c := tree_forest_beside_c15) rfl ?_
      refine g_region (c := tree_forest_beside_c17) rfl rfl ?_
      refine wl_v 0 rfl (v_move rfl) gn rfl ?_
      refine wl_v 1 rfl (v_move rfl) gn rfl ?_
      refine wl_s 2 rfl (s_litO (xs := ([x32] : List Int)) [.int .i64 x32] bs_23_1 rfl (by kernel_rfl) rfl rfl rfl rfl fun gb52 h53 => ?_) gn
      obtain ⟨x57, hv58, h⟩ := h
      obtain ⟨hb59, h⟩ := h
      refine wl_s 3 rfl (s_app (zs := x57) (cells' := x57.flatMap (eI .i64)) 1 ap_23 rfl rfl rfl h37 (Nat.le_refl _) (Src.ownF (hl := (hlI .i64)) (h1 := (hone_int .i64)) 0 rfl h53) (by rw [hv58, List.flatMap_append] <;> rfl) (app_len hv58 h53.hq) hb59 rfl rfl fun A54 c55 h56 => ?_) gn
      refine wl_v 4 rfl (v_assign rfl) gn rfl ?_
      refine w_end 5 rfl ?_
      refine g_inBlock ?_
      refine g_region (c := tree_forest_beside_c16) rfl rfl ?_
      refine wl_v 0 rfl (v_fldB fo_32_2 rfl) gn rfl ?_
      refine wl_v 1 rfl (v_ldB1 2 ld_23 rfl rfl rfl) gn rfl ?_
      refine wl_v 2 rfl (v_move rfl) gn rfl ?_
      obtain ⟨hb60, h⟩ := h
      have hr61 := Rw.readF (s := St w []) (hl := (hlI .i64)) (h1 := (hone_int .i64)) h13 hb60
      refine wl_v 3 rfl (v_idxR (s := St w []) slE_23 rfl rfl h13 hb60) gn rfl ?_
      refine wl_v 4 rfl (v_ldA1 (kk := (x32 : Int).toNat * 1) (j := 0) (St w []) ld_3 rfl hr61 rfl (me 1 rfl)) gn rfl ?_
      refine wl_v 5 rfl (v_assign rfl) gn rfl ?_
      refine w_end 6 rfl ?_
      refine g_inLoop ?_
      have ih := Out.inl hO1 h
      exact g_go [0, 1] (ih A54 (n35 + 1) c55 h56) ⟨rfl, rfl, rfl, rfl, trivial⟩ (.cons _ (.cons_cons _ (.cons_cons _ (.slnil)))) rfl
    · have h := if_neg' hp50 h
      refine g_false (c := tree_forest_beside_c12) rfl _ rfl ((decide_eq_false hp50)) ?_
      refine g_exit (c := tree_forest_beside_c14) [.code tree_forest_beside_c6] rfl rfl ?_
      refine g_seq (c := tree_forest_beside_c6) rfl ?_
      refine g_region (c := tree_forest_beside_c18) rfl rfl ?_
      refine wl_v 0 rfl (v_move rfl) gn rfl ?_
      refine wl_v 1 rfl (v_assign rfl) gn rfl ?_
      refine w_end 2 rfl ?_
      have h := Out.inr hO1 h
      refine g_retR (c := tree_forest_beside_c19) [.slice A34 n35 c36] rfl Try.func66 rfl (.tmp rfl (.nil)) fun wr hLr => ?_
      have hMr : B.Loc w wr [.own (.slice A34 n35 c36) 3 1 n35 (x33.flatMap (eI .i64))] [St w []] := hLr.pick (rest := [.box gb16 32 [.slice A2 n3 c4, .slice A6 n7 c8, .slice A10 n11 c12, .bool x1.ok]]) (perm_of_idx [0] [1] rfl rfl (by kernel_rfl)) (sels [1] rfl)
      have hMi : ∀ e ∈ ([.own (.slice A34 n35 c36) 3 1 n35 (x33.flatMap (eI .i64))] : List Ent), e ∈ ([.own (.slice A34 n35 c36) 3 1 n35 (x33.flatMap (eI .i64)), .box gb16 32 [.slice A2 n3 c4, .slice A6 n7 c8, .slice A10 n11 c12, .bool x1.ok]] : List Ent) := sels [0] rfl
      show tree_forest_beside_R w F  r (.returned (packV [.slice A34 n35 c36])) wr
      rw [h]
      exact ⟨A34, n35, c36, rfl, hMr, h37⟩
  refine g_nil 3 1 ?_
  exact g_go [0, 1] (key1 _ h none 0 0 (Ow.nil (z := w.heap.size))) ⟨rfl, rfl, rfl, rfl, trivial⟩ (.cons_cons _ (.cons_cons _ (.slnil))) rfl
noncomputable abbrev tree_roots_c0 : Code := bodyOf Try.f65
noncomputable abbrev tree_roots_c1 : Code := Code.fst tree_roots_c0
noncomputable abbrev tree_roots_c2 : Code := Code.snd tree_roots_c0
noncomputable abbrev tree_roots_c3 : Code := Code.fst tree_roots_c2
noncomputable abbrev tree_roots_c4 : Code := Code.snd tree_roots_c2
noncomputable abbrev tree_roots_c5 : Code := Code.fst tree_roots_c4
noncomputable abbrev tree_roots_c6 : Code := Code.snd tree_roots_c4
noncomputable abbrev tree_roots_c7 : Code := Code.fst tree_roots_c5
noncomputable abbrev tree_roots_c8 : Code := Code.snd tree_roots_c5
noncomputable abbrev tree_roots_c9 : Code := Code.fst tree_roots_c8
noncomputable abbrev tree_roots_c10 : Code := Code.snd tree_roots_c8
noncomputable abbrev tree_roots_c11 : Code := Code.fst tree_roots_c6
noncomputable abbrev tree_roots_c12 : Code := Code.snd tree_roots_c6
noncomputable abbrev tree_roots_c13 : Code := Code.fst tree_roots_c9
noncomputable abbrev tree_roots_c14 : Code := Code.snd tree_roots_c9
abbrev tree_roots_R (w : World) (F : Nat → Prop) (r : List Int) : Ending → World → Prop := fun e w' => ∃ A0 : Option Addr, ∃ n0 : Nat, ∃ c0 : Nat, e = .returned (.slice A0 n0 c0) ∧ B.Loc w w' [.own (.slice A0 n0 c0) 3 1 n0 (r.flatMap (eI .i64))] [St w []] ∧ Ow w.heap.size A0 n0 c0 r
noncomputable abbrev tree_roots_C (w : World) (F : Nat → Prop) (r : List Int) : Cx := ⟨Try.prog, 65, Try.f65, 13, tree_roots_R w F  r, w⟩
theorem tree_roots_calls (w : World) (F : Nat → Prop) (x1 : List api_Node) (A2 : Option Addr) (n3 : Nat) (c4 : Nat) (h5 : Rw k_api_Node w (St w []).av A2 n3 c4 x1) (hF : ∀ b, F b → b < w.heap.size ∧ ∀ o ∈ ([] : List (List Nat)), b ∉ o) (hL0 : B.Loc w w [] [Sm w.heap.size F w [], St w []]) (r : List Int) (h : tree_roots x1 r) : Calls Try.prog 65 #[.slice A2 n3 c4] w (tree_roots_R w F  r) := by
  unfold tree_roots at h
  refine calls_of_Loc (vs := [.slice A2 n3 c4]) 13 Try.func65 rfl Try.ntmps65 rfl hL0 ?_
  show G (tree_roots_C w F r) _ _ _ _
  refine g_seq (c := tree_roots_c0) rfl ?_
  refine g_region (c := tree_roots_c1) rfl rfl ?_
  refine wl_v 0 rfl (v_assign rfl) gn rfl ?_
  refine w_end 1 rfl ?_
  refine g_seq (c := tree_roots_c2) rfl ?_
  refine g_region (c := tree_roots_c3) rfl rfl ?_
  refine wl_v 0 rfl (v_move rfl) gn rfl ?_
  obtain ⟨r9, hv10, h⟩ := h
  refine wl_s 1 rfl (s_call [.slice A2 n3 c4] rfl Try.func44 rfl rfl rfl fun w6 hL7 => ?_) gn
  have hp8 : List.Perm ([] : List Ent) (([] : List Ent) ++ ([] : List Ent)) := perm_of_idx [] [] rfl rfl (by kernel_rfl)
  refine Calls.mono (tree_plant_calls w6 (Fl ([St w []] : List Snap)) x1 A2 n3 c4 (Rw.mono h5 (hL7.toFl (me 1 rfl) (me 0 rfl))) (hL7.hFl (Sl := ([St w []] : List Snap)) hp8 (sels [1] rfl)) (hL7.into hp8 (Fl ([St w []] : List Snap))) r9 hv10) ?_
  rintro _ w25 ⟨A15, n16, c17, A20, n21, c22, A11, n12, c13, rfl, hM26, h18, h23, h14⟩
  obtain ⟨sv29, hL27, hv28⟩ := hL7.callN (Sl := ([St w []] : List Snap)) hp8 hM26 (sels [1] rfl)
  have h14 : At k_api_Node (sv29) A11 n12 c13 r9.nodes := Rw.mono h14 hv28
  refine ⟨_, _, _, rfl, hL27, ?_⟩
  refine wl_s 2 rfl (s_alloc [.slice none 0 0, .slice none 0 0, .slice none 0 0, .bool false] zr_32 rfl fun gb30 => ?_) gn
  refine wl_s 3 rfl (s_stB (vs := [.slice A11 n12 c13, .slice A15 n16 c17, .slice A20 n21 c22, .bool r9.ok]) (cs' := [.slice A11 n12 c13, .slice A15 n16 c17, .slice A20 n21 c22, .bool r9.ok]) (M' := [.box gb30 32 [.slice A11 n12 c13, .slice A15 n16 c17, .slice A20 n21 c22, .bool r9.ok], .own (.slice A15 n16 c17) 3 1 n16 (r9.parent.flatMap (eI .i64)), .own (.slice A20 n21 c22) 3 1 n21 (r9.end_.flatMap (eI .i64))]) 0 sz_32 rfl rfl rfl rfl rfl rfl rfl rfl rfl ?_) gn
  refine w_end 4 rfl ?_
  refine g_seq (c := tree_roots_c4) rfl ?_
  refine g_seq (c := tree_roots_c5) rfl ?_
  refine g_region (c := tree_roots_c7) rfl rfl ?_
  refine wl_v 0 rfl (v_fldB fo_32_3 rfl) gn rfl ?_
  refine wl_v 1 rfl (v_ldB1 0 ld_4 rfl rfl rfl) gn rfl ?_
  refine wl_v 2 rfl (v_not rfl) gn rfl ?_
  refine w_end 3 rfl ?_
  by_cases hp32 : r9.ok = true
  · have h := if_pos' hp32 h
    refine g_false (c := tree_roots_c8) rfl _ rfl ((nf hp32)) ?_
    refine g_skip (c := tree_roots_c10) rfl ?_
    refine g_seq (c := tree_roots_c6) rfl ?_
    refine g_region (c := tree_roots_c11) rfl rfl ?_
    refine wl_v 0 rfl (v_ldB [.slice A11 n12 c13, .slice A15 n16 c17, .slice A20 n21 c22, .bool r9.ok] 0 ld_32 rfl rfl rfl rfl) gn rfl ?_
    refine wl_v 1 rfl (v_move rfl) gn rfl ?_
    refine wl_v 2 rfl (v_lenQ un_22 rfl h5.hq) gn rfl ?_
    obtain ⟨r36, hv37, h⟩ := h
    refine wl_s 3 rfl (s_call [.agg #[.slice A11 n12 c13, .slice A15 n16 c17, .slice A20 n21 c22, .bool r9.ok], .int .i64 0, .int .i64 (x1.length : Int)] rfl Try.func66 rfl rfl rfl fun w33 hL34 => ?_) gn
    have hp35 : List.Perm ([.box gb30 32 [.slice A11 n12 c13, .slice A15 n16 c17, .slice A20 n21 c22, .bool r9.ok], .own (.slice A15 n16 c17) 3 1 n16 (r9.parent.flatMap (eI .i64)), .own (.slice A20 n21 c22) 3 1 n21 (r9.end_.flatMap (eI .i64))] : List Ent) (([] : List Ent) ++ ([.box gb30 32 [.slice A11 n12 c13, .slice A15 n16 c17, .slice A20 n21 c22, .bool r9.ok], .own (.slice A15 n16 c17) 3 1 n16 (r9.parent.flatMap (eI .i64)), .own (.slice A20 n21 c22) 3 1 n21 (r9.end_.flatMap (eI .i64))] : List Ent)) := perm_of_idx [] [0, 1, 2] rfl rfl (by kernel_rfl)
    refine Calls.mono (tree_forest_beside_calls w33 (Fl ([] : List Snap)) r9 0 (x1.length : Int) A11 n12 c13 A15 n16 c17 A20 n21 c22 (Rw.mono h14 (hL34.toSt hp35 (me 0 rfl))) (hL34.argO (dk := (kInt .i64)) hp35 [] rfl 1 rfl rfl (Ow.weak hL7.env.size h18) (me 1 rfl) (Cells.flat _)) (hL34.argO (dk := (kInt .i64)) hp35 [] rfl 2 rfl rfl (Ow.weak hL7.env.size h23) (me 1 rfl) (Cells.flat _)) (hL34.hFl (Sl := ([] : List Snap)) hp35 (sels [] rfl)) (hL34.into hp35 (Fl ([] : List Snap))) r36 hv37) ?_
    rintro _ w43 ⟨A38, n39, c40, rfl, hM44, h41⟩
    have hL45 := hL34.call hp35 hM44
    refine ⟨_, _, _, rfl, hL45, ?_⟩
    refine wl_v 4 rfl (v_assign rfl) gn rfl ?_
    refine w_end 5 rfl ?_
    refine g_retR (c := tree_roots_c12) [.slice A38 n39 c40] rfl Try.func65 rfl (.tmp rfl (.nil)) fun wr hLr => ?_
    have hMr : B.Loc w wr [.own (.slice A38 n39 c40) 3 1 n39 (r36.flatMap (eI .i64))] [St w []] := hLr.pick (rest := [.box gb30 32 [.slice A11 n12 c13, .slice A15 n16 c17, .slice A20 n21 c22, .bool r9.ok], .own (.slice A15 n16 c17) 3 1 n16 (r9.parent.flatMap (eI .i64)), .own (.slice A20 n21 c22) 3 1 n21 (r9.end_.flatMap (eI .i64))]) (perm_of_idx [0] [1, 2, 3] rfl rfl (by kernel_rfl)) (sels [2] rfl)
    have hMi : ∀ e ∈ ([.own (.slice A38 n39 c40) 3 1 n39 (r36.flatMap (eI .i64))] : List Ent), e ∈ ([.own (.slice A38 n39 c40) 3 1 n39 (r36.flatMap (eI .i64)), .box gb30 32 [.slice A11 n12 c13, .slice A15 n16 c17, .slice A20 n21 c22, .bool r9.ok], .own (.slice A15 n16 c17) 3 1 n16 (r9.parent.flatMap (eI .i64)), .own (.slice A20 n21 c22) 3 1 n21 (r9.end_.flatMap (eI .i64))] : List Ent) := sels [0] rfl
    show tree_roots_R w F  r (.returned (packV [.slice A38 n39 c40])) wr
    rw [h]
    exact ⟨A38, n39, c40, rfl, hMr, (Ow.weak hL34.env.size h41)⟩
  · have h := if_neg' hp32 h
    refine g_true (c := tree_roots_c8) rfl _ rfl ((nt (bf hp32))) ?_
    refine g_seq (c := tree_roots_c9) rfl ?_
    refine g_region (c := tree_roots_c13) rfl rfl ?_
    refine wl_v 0 rfl (v_assign rfl) gn rfl ?_
    refine w_end 1 rfl ?_
    refine g_nil 3 1 ?_
    refine g_retR (c := tree_roots_c14) [.slice none 0 0] rfl Try.func65 rfl (.tmp rfl (.nil)) fun wr hLr => ?_
    have hMr : B.Loc w wr [.own (.slice none 0 0) 3 1 0 (([] : List Int).flatMap (eI .i64))] [St w []] := hLr.pick (rest := [.box gb30 32 [.slice A11 n12 c13, .slice A15 n16 c17, .slice A20 n21 c22, .bool r9.ok], .own (.slice A15 n16 c17) 3 1 n16 (r9.parent.flatMap (eI .i64)), .own (.slice A20 n21 c22) 3 1 n21 (r9.end_.flatMap (eI .i64))]) (perm_of_idx [0] [1, 2, 3] rfl rfl (by kernel_rfl)) (sels [2] rfl)
    have hMi : ∀ e ∈ ([.own (.slice none 0 0) 3 1 0 (([] : List Int).flatMap (eI .i64))] : List Ent), e ∈ ([.own (.slice none 0 0) 3 1 0 (([] : List Int).flatMap (eI .i64)), .box gb30 32 [.slice A11 n12 c13, .slice A15 n16 c17, .slice A20 n21 c22, .bool r9.ok], .own (.slice A15 n16 c17) 3 1 n16 (r9.parent.flatMap (eI .i64)), .own (.slice A20 n21 c22) 3 1 n21 (r9.end_.flatMap (eI .i64))] : List Ent) := sels [0] rfl
    show tree_roots_R w F  r (.returned (packV [.slice none 0 0])) wr
    rw [h]
    exact ⟨none, 0, 0, rfl, hMr, (Ow.nil (z := w.heap.size))⟩
noncomputable abbrev tree_Roots_c0 : Code := bodyOf Try.f37
noncomputable abbrev tree_Roots_c1 : Code := Code.fst tree_Roots_c0
noncomputable abbrev tree_Roots_c2 : Code := Code.snd tree_Roots_c0
noncomputable abbrev tree_Roots_c3 : Code := Code.fst tree_Roots_c2
noncomputable abbrev tree_Roots_c4 : Code := Code.snd tree_Roots_c2
noncomputable abbrev tree_Roots_c5 : Code := Code.fst tree_Roots_c3
noncomputable abbrev tree_Roots_c6 : Code := Code.snd tree_Roots_c3
noncomputable abbrev tree_Roots_c7 : Code := Code.fst tree_Roots_c6
noncomputable abbrev tree_Roots_c8 : Code := Code.snd tree_Roots_c6
noncomputable abbrev tree_Roots_c9 : Code := Code.fst tree_Roots_c4
noncomputable abbrev tree_Roots_c10 : Code := Code.snd tree_Roots_c4
noncomputable abbrev tree_Roots_c11 : Code := Code.fst tree_Roots_c7
noncomputable abbrev tree_Roots_c12 : Code := Code.snd tree_Roots_c7
abbrev tree_Roots_R (w : World) (F : Nat → Prop) (r : Int) : Ending → World → Prop := fun e w' => e = .returned (.int .i64 r) ∧ B.Loc w w' [] [St w []]
noncomputable abbrev tree_Roots_C (w : World) (F : Nat → Prop) (r : Int) : Cx := ⟨Try.prog, 37, Try.f37, 10, tree_Roots_R w F  r, w⟩
theorem tree_Roots_calls (w : World) (F : Nat → Prop) (x1 : List api_Node) (A2 : Option Addr) (n3 : Nat) (c4 : Nat) (h5 : Rw k_api_Node w (St w []).av A2 n3 c4 x1) (hF : ∀ b, F b → b < w.heap.size ∧ ∀ o ∈ ([] : List (List Nat)), b ∉ o) (hL0 : B.Loc w w [] [Sm w.heap.size F w [], St w []]) (r : Int) (h : tree_Roots x1 r) : Calls Try.prog 37 #[.slice A2 n3 c4] w (tree_Roots_R w F  r) := by
  unfold tree_Roots at h
  refine calls_of_Loc (vs := [.slice A2 n3 c4]) 10 Try.func37 rfl Try.ntmps37 rfl hL0 ?_
  show G (tree_Roots_C w F r) _ _ _ _
  refine g_seq (c := tree_Roots_c0) rfl ?_
  refine g_region (c := tree_Roots_c1) rfl rfl ?_
  refine wl_v 0 rfl (v_assign rfl) gn rfl ?_
  refine w_end 1 rfl ?_
  refine g_seq (c := tree_Roots_c2) rfl ?_
  refine g_seq (c := tree_Roots_c3) rfl ?_
  refine g_region (c := tree_Roots_c5) rfl rfl ?_
  refine wl_v 0 rfl (v_move rfl) gn rfl ?_
  obtain ⟨r9, hv10, h⟩ := h
  refine wl_s 1 rfl (s_call [.slice A2 n3 c4] rfl Try.func44 rfl rfl rfl fun w6 hL7 => ?_) gn
  have hp8 : List.Perm ([] : List Ent) (([] : List Ent) ++ ([] : List Ent)) := perm_of_idx [] [] rfl rfl (by kernel_rfl)
  refine Calls.mono (tree_plant_calls w6 (Fl ([St w []] : List Snap)) x1 A2 n3 c4 (Rw.mono h5 (hL7.toFl (me 1 rfl) (me 0 rfl))) (hL7.hFl (Sl := ([St w []] : List Snap)) hp8 (sels [1] rfl)) (hL7.into hp8 (Fl ([St w []] : List Snap))) r9 hv10) ?_
  rintro _ w25 ⟨A15, n16, c17, A20, n21, c22, A11, n12, c13, rfl, hM26, h18, h23, h14⟩
  obtain ⟨sv29, hL27, hv28⟩ := hL7.callN (Sl := ([St w []] : List Snap)) hp8 hM26 (sels [1] rfl)
  have h14 : At k_api_Node (sv29) A11 n12 c13 r9.nodes := Rw.mono h14 hv28
  refine ⟨_, _, _, rfl, hL27, ?_⟩
  refine wl_v 2 rfl (v_field1 fd_32_3 rfl rfl) gn rfl ?_
  refine wl_v 3 rfl (v_not rfl) gn rfl ?_
  refine w_end 4 rfl ?_
  by_cases hp30 : r9.ok = true
  · have h := if_pos' hp30 h
    refine g_false (c := tree_Roots_c6) rfl _ rfl ((nf hp30)) ?_
    refine g_skip (c := tree_Roots_c8) rfl ?_
    refine g_seq (c := tree_Roots_c4) rfl ?_
    refine g_region (c := tree_Roots_c9) rfl rfl ?_
    refine wl_v 0 rfl (v_move rfl) gn rfl ?_
    obtain ⟨r34, hv35, h⟩ := h
    refine wl_s 1 rfl (s_call [.slice A2 n3 c4] rfl Try.func65 rfl rfl rfl fun w31 hL32 => ?_) gn
    have hp33 : List.Perm ([.own (.slice A15 n16 c17) 3 1 n16 (r9.parent.flatMap (eI .i64)), .own (.slice A20 n21 c22) 3 1 n21 (r9.end_.flatMap (eI .i64))] : List Ent) (([] : List Ent) ++ ([.own (.slice A15 n16 c17) 3 1 n16 (r9.parent.flatMap (eI .i64)), .own (.slice A20 n21 c22) 3 1 n21 (r9.end_.flatMap (eI .i64))] : List Ent)) := perm_of_idx [] [0, 1] rfl rfl (by kernel_rfl)
    refine Calls.mono (tree_roots_calls w31 (Fl ([] : List Snap)) x1 A2 n3 c4 (Rw.mono h5 (hL32.toSt hp33 (me 2 rfl))) (hL32.hFl (Sl := ([] : List Snap)) hp33 (sels [] rfl)) (hL32.into hp33 (Fl ([] : List Snap))) r34 hv35) ?_
    rintro _ w41 ⟨A36, n37, c38, rfl, hM42, h39⟩
    have hL43 := hL32.call hp33 hM42
    refine ⟨_, _, _, rfl, hL43, ?_⟩
    refine wl_v 2 rfl (v_lenQ un_23 rfl (Ow.weak hL32.env.size h39).hq) gn rfl ?_
    refine wl_v 3 rfl (v_assign rfl) gn rfl ?_
    refine w_end 4 rfl ?_
    refine g_retR (c := tree_Roots_c10) [.int .i64 (r34.length : Int)] rfl Try.func37 rfl (.tmp rfl (.nil)) fun wr hLr => ?_
    have hMr : B.Loc w wr [] [St w []] := hLr.pick (rest := [.own (.slice A36 n37 c38) 3 1 n37 (r34.flatMap (eI .i64)), .own (.slice A15 n16 c17) 3 1 n16 (r9.parent.flatMap (eI .i64)), .own (.slice A20 n21 c22) 3 1 n21 (r9.end_.flatMap (eI .i64))]) (perm_of_idx [] [0, 1, 2] rfl rfl (by kernel_rfl)) (sels [2] rfl)
    have hMi : ∀ e ∈ ([] : List Ent), e ∈ ([.own (.slice A36 n37 c38) 3 1 n37 (r34.flatMap (eI .i64)), .own (.slice A15 n16 c17) 3 1 n16 (r9.parent.flatMap (eI .i64)), .own (.slice A20 n21 c22) 3 1 n21 (r9.end_.flatMap (eI .i64))] : List Ent) := sels [] rfl
    show tree_Roots_R w F  r (.returned (packV [.int .i64 (r34.length : Int)])) wr
    rw [h]
    exact ⟨rfl, hMr⟩
  · have h := if_neg' hp30 h
    refine g_true (c := tree_Roots_c6) rfl _ rfl ((nt (bf hp30))) ?_
    refine g_seq (c := tree_Roots_c7) rfl ?_
    refine g_region (c := tree_Roots_c11) rfl rfl ?_
    refine wl_v 0 rfl (v_assign rfl) gn rfl ?_
    refine w_end 1 rfl ?_
    refine g_retR (c := tree_Roots_c12) [.int .i64 (-1)] rfl Try.func37 rfl (.tmp rfl (.nil)) fun wr hLr => ?_
    have hMr : B.Loc w wr [] [St w []] := hLr.pick (rest := [.own (.slice A15 n16 c17) 3 1 n16 (r9.parent.flatMap (eI .i64)), .own (.slice A20 n21 c22) 3 1 n21 (r9.end_.flatMap (eI .i64))]) (perm_of_idx [] [0, 1] rfl rfl (by kernel_rfl)) (sels [2] rfl)
    have hMi : ∀ e ∈ ([] : List Ent), e ∈ ([.own (.slice A15 n16 c17) 3 1 n16 (r9.parent.flatMap (eI .i64)), .own (.slice A20 n21 c22) 3 1 n21 (r9.end_.flatMap (eI .i64))] : List Ent) := sels [] rfl
    show tree_Roots_R w F  r (.returned (packV [.int .i64 (-1)])) wr
    rw [h]
    exact ⟨rfl, hMr⟩
noncomputable abbrev slices_Clone_api_Node_api_Node_c0 : Code := bodyOf Try.f61
noncomputable abbrev slices_Clone_api_Node_api_Node_c1 : Code := Code.fst slices_Clone_api_Node_api_Node_c0
noncomputable abbrev slices_Clone_api_Node_api_Node_c2 : Code := Code.snd slices_Clone_api_Node_api_Node_c0
noncomputable abbrev slices_Clone_api_Node_api_Node_c3 : Code := Code.fst slices_Clone_api_Node_api_Node_c2
noncomputable abbrev slices_Clone_api_Node_api_Node_c4 : Code := Code.snd slices_Clone_api_Node_api_Node_c2
noncomputable abbrev slices_Clone_api_Node_api_Node_c5 : Code := Code.fst slices_Clone_api_Node_api_Node_c3
noncomputable abbrev slices_Clone_api_Node_api_Node_c6 : Code := Code.snd slices_Clone_api_Node_api_Node_c3
noncomputable abbrev slices_Clone_api_Node_api_Node_c7 : Code := Code.fst slices_Clone_api_Node_api_Node_c6
noncomputable abbrev slices_Clone_api_Node_api_Node_c8 : Code := Code.snd slices_Clone_api_Node_api_Node_c6
noncomputable abbrev slices_Clone_api_Node_api_Node_c9 : Code := Code.fst slices_Clone_api_Node_api_Node_c7
noncomputable abbrev slices_Clone_api_Node_api_Node_c10 : Code := Code.snd slices_Clone_api_Node_api_Node_c7
noncomputable abbrev slices_Clone_api_Node_api_Node_c11 : Code := Code.fst slices_Clone_api_Node_api_Node_c4
noncomputable abbrev slices_Clone_api_Node_api_Node_c12 : Code := Code.snd slices_Clone_api_Node_api_Node_c4
abbrev slices_Clone_api_Node_api_Node_R (w : World) (F : Nat → Prop) (r : List api_Node) : Ending → World → Prop := fun e w' => ∃ A0 : Option Addr, ∃ n0 : Nat, ∃ c0 : Nat, e = .returned (.slice A0 n0 c0) ∧ B.Loc w w' [.own (.slice A0 n0 c0) 39 7 n0 (r.flatMap enc_api_Node)] [St w []] ∧ Ow w.heap.size A0 n0 c0 r
noncomputable abbrev slices_Clone_api_Node_api_Node_C (w : World) (F : Nat → Prop) (r : List api_Node) : Cx := ⟨Try.prog, 61, Try.f61, 8, slices_Clone_api_Node_api_Node_R w F  r, w⟩
theorem slices_Clone_api_Node_api_Node_calls (w : World) (F : Nat → Prop) (x1 : List api_Node) (A2 : Option Addr) (n3 : Nat) (c4 : Nat) (h5 : Rw k_api_Node w (St w []).av A2 n3 c4 x1) (hF : ∀ b, F b → b < w.heap.size ∧ ∀ o ∈ ([] : List (List Nat)), b ∉ o) (hL0 : B.Loc w w [] [Sm w.heap.size F w [], St w []]) (r : List api_Node) (h : slices_Clone_api_Node_api_Node x1 r) : Calls Try.prog 61 #[.slice A2 n3 c4] w (slices_Clone_api_Node_api_Node_R w F  r) := by
  unfold slices_Clone_api_Node_api_Node at h
  refine calls_of_Loc (vs := [.slice A2 n3 c4]) 8 Try.func61 rfl Try.ntmps61 rfl hL0 ?_
  show G (slices_Clone_api_Node_api_Node_C w F r) _ _ _ _
  refine g_seq (c := slices_Clone_api_Node_api_Node_c0) rfl ?_
  refine g_region (c := slices_Clone_api_Node_api_Node_c1) rfl rfl ?_
  refine wl_v 0 rfl (v_assign rfl) gn rfl ?_
  refine w_end 1 rfl ?_
  refine g_seq (c := slices_Clone_api_Node_api_Node_c2) rfl ?_
  refine g_seq (c := slices_Clone_api_Node_api_Node_c3) rfl ?_
  refine g_region (c := slices_Clone_api_Node_api_Node_c5) rfl rfl ?_
  refine wl_v 0 rfl (v_move rfl) gn rfl ?_
  obtain ⟨b6, hb7⟩ : ∃ b, b = A2.isNone := ⟨_, rfl⟩
  have h := h b6 (nil_of hb7 (fun h0 => (h5.row.1 (by rw [← h5.hq]; exact h0)).1) h5.hq)
  refine wl_v 1 rfl (v_eqSL un_22 rfl hb7.symm) gn rfl ?_
  refine w_end 2 rfl ?_
  by_cases hp8 : b6 = true
  · have h := if_pos' hp8 h
    refine g_true (c := slices_Clone_api_Node_api_Node_c6) rfl _ rfl (hp8) ?_
    refine g_seq (c := slices_Clone_api_Node_api_Node_c7) rfl ?_
    refine g_region (c := slices_Clone_api_Node_api_Node_c9) rfl rfl ?_
    refine wl_v 0 rfl (v_assign rfl) gn rfl ?_
    refine w_end 1 rfl ?_
    refine g_nil 39 7 ?_
    refine g_retR (c := slices_Clone_api_Node_api_Node_c10) [.slice none 0 0] rfl Try.func61 rfl (.tmp rfl (.nil)) fun wr hLr => ?_
    have hMr : B.Loc w wr [.own (.slice none 0 0) 39 7 0 (([] : List api_Node).flatMap enc_api_Node)] [St w []] := hLr.pick (rest := []) (perm_of_idx [0] [] rfl rfl (by kernel_rfl)) (sels [1] rfl)
    have hMi : ∀ e ∈ ([.own (.slice none 0 0) 39 7 0 (([] : List api_Node).flatMap enc_api_Node)] : List Ent), e ∈ ([.own (.slice none 0 0) 39 7 0 (([] : List api_Node).flatMap enc_api_Node)] : List Ent) := sels [0] rfl
    show slices_Clone_api_Node_api_Node_R w F  r (.returned (packV [.slice none 0 0])) wr
    rw [h]
    exact ⟨none, 0, 0, rfl, hMr, (Ow.nil (z := w.heap.size))⟩
  · have h := if_neg' hp8 h
    refine g_false (c := slices_Clone_api_Node_api_Node_c6) rfl _ rfl ((bf hp8)) ?_
    refine g_skip (c := slices_Clone_api_Node_api_Node_c8) rfl ?_
    refine g_seq (c := slices_Clone_api_Node_api_Node_c4) rfl ?_
    refine g_region (c := slices_Clone_api_Node_api_Node_c11) rfl rfl ?_
    refine wl_s 0 rfl (s_litO (xs := ([] : List api_Node)) [] bs_22_0 rfl (by kernel_rfl) rfl rfl rfl rfl fun gb10 h11 => ?_) gn
    refine wl_v 1 rfl (v_move rfl) gn rfl ?_
    obtain ⟨x15, hv16, h⟩ := h
    obtain ⟨hb17, h⟩ := h
    refine wl_s 2 rfl (s_app (zs := x15) (cells' := x15.flatMap enc_api_Node) 0 ap_22 rfl rfl rfl h11 (Nat.le_refl _) (Src.readF (s := St w []) (hl := hl_api_Node) (h1 := h1_api_Node) h5 (me 1 rfl)) (by rw [hv16, List.flatMap_append] <;> rfl) (app_len hv16 h5.hq) hb17 rfl rfl fun A12 c13 h14 => ?_) gn
    refine wl_v 3 rfl (v_assign rfl) gn rfl ?_
    refine w_end 4 rfl ?_
    refine g_retR (c := slices_Clone_api_Node_api_Node_c12) [.slice A12 (0 + n3) c13] rfl Try.func61 rfl (.tmp rfl (.nil)) fun wr hLr => ?_
    have hMr : B.Loc w wr [.own (.slice A12 (0 + n3) c13) 39 7 (0 + n3) (x15.flatMap enc_api_Node)] [St w []] := hLr.pick (rest := []) (perm_of_idx [0] [] rfl rfl (by kernel_rfl)) (sels [1] rfl)
    have hMi : ∀ e ∈ ([.own (.slice A12 (0 + n3) c13) 39 7 (0 + n3) (x15.flatMap enc_api_Node)] : List Ent), e ∈ ([.own (.slice A12 (0 + n3) c13) 39 7 (0 + n3) (x15.flatMap enc_api_Node)] : List Ent) := sels [0] rfl
    show slices_Clone_api_Node_api_Node_R w F  r (.returned (packV [.slice A12 (0 + n3) c13])) wr
    rw [h]
    exact ⟨A12, 0 + n3, c13, rfl, hMr, h14⟩
noncomputable abbrev tree_token_c0 : Code := bodyOf Try.f75
noncomputable abbrev tree_token_c1 : Code := Code.fst tree_token_c0
noncomputable abbrev tree_token_c2 : Code := Code.snd tree_token_c0
noncomputable abbrev tree_token_c3 : Code := Code.fst tree_token_c2
noncomputable abbrev tree_token_c4 : Code := Code.snd tree_token_c2
abbrev tree_token_R (w : World) (F : Nat → Prop) (r : Bool) : Ending → World → Prop := fun e w' => e = .returned (.bool r) ∧ B.Loc w w' [] [St w []]
noncomputable abbrev tree_token_C (w : World) (F : Nat → Prop) (r : Bool) : Cx := ⟨Try.prog, 75, Try.f75, 14, tree_token_R w F  r, w⟩
theorem tree_token_calls (w : World) (F : Nat → Prop) (x1 : api_Gram) (x14 : Int) (A2 : Option Addr) (n3 : Nat) (c4 : Nat) (A6 : Option Addr) (n7 : Nat) (c8 : Nat) (A10 : Option Addr) (n11 : Nat) (c12 : Nat) (h5 : Rw k_api_TermDef w (St w []).av A2 n3 c4 x1.terms) (h9 : Rw k_api_Sym w (St w []).av A6 n7 c8 x1.syms) (h13 : Rw k_api_Prod w (St w []).av A10 n11 c12 x1.prods) (hF : ∀ b, F b → b < w.heap.size ∧ ∀ o ∈ ([] : List (List Nat)), b ∉ o) (hL0 : B.Loc w w [] [Sm w.heap.size F w [], St w []]) (r : Bool) (h : tree_token x1 x14 r) : Calls Try.prog 75 #[.agg #[.slice A2 n3 c4, .slice A6 n7 c8, .slice A10 n11 c12], .int .i64 x14] w (tree_token_R w F  r) := by
  unfold tree_token at h
  refine calls_of_Loc (vs := [.agg #[.slice A2 n3 c4, .slice A6 n7 c8, .slice A10 n11 c12], .int .i64 x14]) 14 Try.func75 rfl Try.ntmps75 rfl hL0 ?_
  show G (tree_token_C w F r) _ _ _ _
  refine g_seq (c := tree_token_c0) rfl ?_
  refine g_region (c := tree_token_c1) rfl rfl ?_
  refine wl_s 0 rfl (s_box [.slice A2 n3 c4, .slice A6 n7 c8, .slice A10 n11 c12] rfl rfl rfl fun gb15 => ?_) gn
  refine wl_v 1 rfl (v_assign rfl) gn rfl ?_
  refine w_end 2 rfl ?_
  refine g_seq (c := tree_token_c2) rfl ?_
  refine g_region (c := tree_token_c3) rfl rfl ?_
  refine wl_v 0 rfl (v_move rfl) gn rfl ?_
  refine wl_v 1 rfl (v_bin rfl rfl rfl) gn rfl ?_
  refine wl_v 2 rfl (v_move rfl) gn rfl ?_
  by_cases hp17 : x14 ≥ 0
  · have h := if_pos' hp17 h
    refine w_bool 7 rfl ((decide_eq_true hp17)) ?_
    refine wl_v 3 rfl (v_move rfl) (gy 7 rfl rfl) rfl ?_
    refine wl_v 4 rfl (v_fldB fo_47_0 rfl) (gy 7 rfl rfl) rfl ?_
    refine wl_v 5 rfl (v_ldB1 0 ld_43 rfl rfl rfl) (gy 7 rfl rfl) rfl ?_
    refine wl_v 6 rfl (v_lenQ un_43 rfl h5.hq) (gy 7 rfl rfl) rfl ?_
    refine wl_v 7 rfl (v_bin rfl rfl rfl) (gy 7 rfl rfl) rfl ?_
    refine wl_v 8 rfl (v_pick (b := true) rfl rfl) gn rfl ?_
    refine wl_v 9 rfl (v_assign rfl) gn rfl ?_
    refine w_end 10 rfl ?_
    refine g_retR (c := tree_token_c4) [.bool (decide (x14 < (x1.terms.length : Int)))] rfl Try.func75 rfl (.tmp rfl (.nil)) fun wr hLr => ?_
    have hMr : B.Loc w wr [] [St w []] := hLr.pick (rest := [.box gb15 47 [.slice A2 n3 c4, .slice A6 n7 c8, .slice A10 n11 c12]]) (perm_of_idx [] [0] rfl rfl (by kernel_rfl)) (sels [1] rfl)
    have hMi : ∀ e ∈ ([] : List Ent), e ∈ ([.box gb15 47 [.slice A2 n3 c4, .slice A6 n7 c8, .slice A10 n11 c12]] : List Ent) := sels [] rfl
    show tree_token_R w F  r (.returned (packV [.bool (decide (x14 < (x1.terms.length : Int)))])) wr
    rw [h]
    exact ⟨rfl, hMr⟩
  · have h := if_neg' hp17 h
    refine w_bool 7 rfl ((decide_eq_false hp17)) ?_
    refine wl_pass 3 rfl (ps 7 rfl rfl rfl) ?_
    refine wl_pass 4 rfl (ps 7 rfl rfl rfl) ?_
    refine wl_pass 5 rfl (ps 7 rfl rfl rfl) ?_
    refine wl_pass 6 rfl (ps 7 rfl rfl rfl) ?_
    refine wl_pass 7 rfl (ps 7 rfl rfl rfl) ?_
    refine wl_v 8 rfl (v_pick (b := false) rfl rfl) gn rfl ?_
    refine wl_v 9 rfl (v_assign rfl) gn rfl ?_
    refine w_end 10 rfl ?_
    refine g_retR (c := tree_token_c4) [.bool false] rfl Try.func75 rfl (.tmp rfl (.nil)) fun wr hLr => ?_
    have hMr : B.Loc w wr [] [St w []] := hLr.pick (rest := [.box gb15 47 [.slice A2 n3 c4, .slice A6 n7 c8, .slice A10 n11 c12]]) (perm_of_idx [] [0] rfl rfl (by kernel_rfl)) (sels [1] rfl)
    have hMi : ∀ e ∈ ([] : List Ent), e ∈ ([.box gb15 47 [.slice A2 n3 c4, .slice A6 n7 c8, .slice A10 n11 c12]] : List Ent) := sels [] rfl
    show tree_token_R w F  r (.returned (packV [.bool false])) wr
    rw [h]
    exact ⟨rfl, hMr⟩
noncomputable abbrev internal_stringslite_HasPrefix_c0 : Code := bodyOf Try.f81
noncomputable abbrev internal_stringslite_HasPrefix_c1 : Code := Code.fst internal_stringslite_HasPrefix_c0
noncomputable abbrev internal_stringslite_HasPrefix_c2 : Code := Code.snd internal_stringslite_HasPrefix_c0
noncomputable abbrev internal_stringslite_HasPrefix_c3 : Code := Code.fst internal_stringslite_HasPrefix_c2
noncomputable abbrev internal_stringslite_HasPrefix_c4 : Code := Code.snd internal_stringslite_HasPrefix_c2
abbrev internal_stringslite_HasPrefix_R (w : World) (F : Nat → Prop) (r : Bool) : Ending → World → Prop := fun e w' => e = .returned (.bool r) ∧ B.Loc w w' [] [St w []]
noncomputable abbrev internal_stringslite_HasPrefix_C (w : World) (F : Nat → Prop) (r : Bool) : Cx := ⟨Try.prog, 81, Try.f81, 18, internal_stringslite_HasPrefix_R w F  r, w⟩
theorem internal_stringslite_HasPrefix_calls (w : World) (F : Nat → Prop) (x1 : ByteArray) (x2 : ByteArray) (hF : ∀ b, F b → b < w.heap.size ∧ ∀ o ∈ ([] : List (List Nat)), b ∉ o) (hL0 : B.Loc w w [] [Sm w.heap.size F w [], St w []]) (r : Bool) (h : internal_stringslite_HasPrefix x1 x2 r) : Calls Try.prog 81 #[.string x1, .string x2] w (internal_stringslite_HasPrefix_R w F  r) := by
  unfold internal_stringslite_HasPrefix at h
  refine calls_of_Loc (vs := [.string x1, .string x2]) 18 Try.func81 rfl Try.ntmps81 rfl hL0 ?_
  show G (internal_stringslite_HasPrefix_C w F r) _ _ _ _
  refine g_seq (c := internal_stringslite_HasPrefix_c0) rfl ?_
  refine g_region (c := internal_stringslite_HasPrefix_c1) rfl rfl ?_
  refine wl_v 0 rfl (v_assign rfl) gn rfl ?_
  refine w_end 1 rfl ?_
  refine g_seq (c := internal_stringslite_HasPrefix_c2) rfl ?_
  refine g_region (c := internal_stringslite_HasPrefix_c3) rfl rfl ?_
  refine wl_v 0 rfl (v_move rfl) gn rfl ?_
  refine wl_v 1 rfl (v_lenS un_9 rfl) gn rfl ?_
  refine wl_v 2 rfl (v_move rfl) gn rfl ?_
  refine wl_v 3 rfl (v_lenS un_9 rfl) gn rfl ?_
  refine wl_v 4 rfl (v_bin rfl rfl rfl) gn rfl ?_
  refine wl_v 5 rfl (v_move rfl) gn rfl ?_
  by_cases hp3 : (x1.size : Int) ≥ (x2.size : Int)
  · have h := if_pos' hp3 h
    refine w_bool 10 rfl ((decide_eq_true hp3)) ?_
    refine wl_v 6 rfl (v_move rfl) (gy 10 rfl rfl) rfl ?_
    refine wl_v 7 rfl (v_move rfl) (gy 10 rfl rfl) rfl ?_
    refine wl_v 8 rfl (v_lenS un_9 rfl) (gy 10 rfl rfl) rfl ?_
    obtain ⟨hb4, h⟩ := h
    refine wl_v 9 rfl (v_cutS 0 (x2.size : Int) un_9 rfl (.inl ⟨rfl, rfl⟩) (.inr ⟨_, _, rfl, rfl⟩) ⟨hb4.1, hb4.2.1⟩ hb4.2.2) (gy 10 rfl rfl) rfl ?_
    refine wl_v 10 rfl (v_move rfl) (gy 10 rfl rfl) rfl ?_
    refine wl_v 11 rfl (v_eqS rfl rfl) (gy 10 rfl rfl) rfl ?_
    refine wl_v 12 rfl (v_pick (b := true) rfl rfl) gn rfl ?_
    refine wl_v 13 rfl (v_assign rfl) gn rfl ?_
    refine w_end 14 rfl ?_
    refine g_retR (c := internal_stringslite_HasPrefix_c4) [.bool (seq (x1.extract (0 : Int).toNat ((x2.size : Int) : Int).toNat) x2)] rfl Try.func81 rfl (.tmp rfl (.nil)) fun wr hLr => ?_
    have hMr : B.Loc w wr [] [St w []] := hLr.pick (rest := []) (perm_of_idx [] [] rfl rfl (by kernel_rfl)) (sels [1] rfl)
    have hMi : ∀ e ∈ ([] : List Ent), e ∈ ([] : List Ent) := sels [] rfl
    show internal_stringslite_HasPrefix_R w F  r (.returned (packV [.bool (seq (x1.extract (0 : Int).toNat ((x2.size : Int) : Int).toNat) x2)])) wr
    rw [h]
    exact ⟨rfl, hMr⟩
  · have h := if_neg' hp3 h
    refine w_bool 10 rfl ((decide_eq_false hp3)) ?_
    refine wl_pass 6 rfl (ps 10 rfl rfl rfl) ?_
    refine wl_pass 7 rfl (ps 10 rfl rfl rfl) ?_
    refine wl_pass 8 rfl (ps 10 rfl rfl rfl) ?_
    refine wl_pass 9 rfl (ps 10 rfl rfl rfl) ?_
    refine wl_pass 10 rfl (ps 10 rfl rfl rfl) ?_
    refine wl_pass 11 rfl (ps 10 rfl rfl rfl) ?_
    refine wl_v 12 rfl (v_pick (b := false) rfl rfl) gn rfl ?_
    refine wl_v 13 rfl (v_assign rfl) gn rfl ?_
    refine w_end 14 rfl ?_
    refine g_retR (c := internal_stringslite_HasPrefix_c4) [.bool false] rfl Try.func81 rfl (.tmp rfl (.nil)) fun wr hLr => ?_
    have hMr : B.Loc w wr [] [St w []] := hLr.pick (rest := []) (perm_of_idx [] [] rfl rfl (by kernel_rfl)) (sels [1] rfl)
    have hMi : ∀ e ∈ ([] : List Ent), e ∈ ([] : List Ent) := sels [] rfl
    show internal_stringslite_HasPrefix_R w F  r (.returned (packV [.bool false])) wr
    rw [h]
    exact ⟨rfl, hMr⟩
noncomputable abbrev strings_HasPrefix_c0 : Code := bodyOf Try.f77
noncomputable abbrev strings_HasPrefix_c1 : Code := Code.fst strings_HasPrefix_c0
noncomputable abbrev strings_HasPrefix_c2 : Code := Code.snd strings_HasPrefix_c0
noncomputable abbrev strings_HasPrefix_c3 : Code := Code.fst strings_HasPrefix_c2
noncomputable abbrev strings_HasPrefix_c4 : Code := Code.snd strings_HasPrefix_c2
abbrev strings_HasPrefix_R (w : World) (F : Nat → Prop) (r : Bool) : Ending → World → Prop := fun e w' => e = .returned (.bool r) ∧ B.Loc w w' [] [St w []]
noncomputable abbrev strings_HasPrefix_C (w : World) (F : Nat → Prop) (r : Bool) : Cx := ⟨Try.prog, 77, Try.f77, 8, strings_HasPrefix_R w F  r, w⟩
theorem strings_HasPrefix_calls (w : World) (F : Nat → Prop) (x1 : ByteArray) (x2 : ByteArray) (hF : ∀ b, F b → b < w.heap.size ∧ ∀ o ∈ ([] : List (List Nat)), b ∉ o) (hL0 : B.Loc w w [] [Sm w.heap.size F w [], St w []]) (r : Bool) (h : strings_HasPrefix x1 x2 r) : Calls Try.prog 77 #[.string x1, .string x2] w (strings_HasPrefix_R w F  r) := by
  unfold strings_HasPrefix at h
  refine calls_of_Loc (vs := [.string x1, .string x2]) 8 Try.func77 rfl Try.ntmps77 rfl hL0 ?_
  show G (strings_HasPrefix_C w F r) _ _ _ _
  refine g_seq (c := strings_HasPrefix_c0) rfl ?_
  refine g_region (c := strings_HasPrefix_c1) rfl rfl ?_
  refine wl_v 0 rfl (v_assign rfl) gn rfl ?_
  refine w_end 1 rfl ?_
  refine g_seq (c := strings_HasPrefix_c2) rfl ?_
  refine g_region (c := strings_HasPrefix_c3) rfl rfl ?_
  refine wl_v 0 rfl (v_move rfl) gn rfl ?_
  refine wl_v 1 rfl (v_move rfl) gn rfl ?_
  obtain ⟨r6, hv7, h⟩ := h
  refine wl_s 2 rfl (s_call [.string x1, .string x2] rfl Try.func81 rfl rfl rfl fun w3 hL4 => ?_) gn
  have hp5 : List.Perm ([] : List Ent) (([] : List Ent) ++ ([] : List Ent)) := perm_of_idx [] [] rfl rfl (by kernel_rfl)
  refine Calls.mono (internal_stringslite_HasPrefix_calls w3 (Fl ([] : List Snap)) x1 x2 (hL4.hFl (Sl := ([] : List Snap)) hp5 (sels [] rfl)) (hL4.into hp5 (Fl ([] : List Snap))) r6 hv7) ?_
  rintro _ w8 ⟨rfl, hM9⟩
  have hL10 := hL4.call hp5 hM9
  refine ⟨_, _, _, rfl, hL10, ?_⟩
  refine wl_v 3 rfl (v_assign rfl) gn rfl ?_
  refine w_end 4 rfl ?_
  refine g_retR (c := strings_HasPrefix_c4) [.bool r6] rfl Try.func77 rfl (.tmp rfl (.nil)) fun wr hLr => ?_
  have hMr : B.Loc w wr [] [St w []] := hLr.pick (rest := []) (perm_of_idx [] [] rfl rfl (by kernel_rfl)) (sels [1] rfl)
  have hMi : ∀ e ∈ ([] : List Ent), e ∈ ([] : List Ent) := sels [] rfl
  show strings_HasPrefix_R w F  r (.returned (packV [.bool r6])) wr
  rw [h]
  exact ⟨rfl, hMr⟩
noncomputable abbrev tree_hidden_c0 : Code := bodyOf Try.f60
noncomputable abbrev tree_hidden_c1 : Code := Code.fst tree_hidden_c0
noncomputable abbrev tree_hidden_c2 : Code := Code.snd tree_hidden_c0
noncomputable abbrev tree_hidden_c3 : Code := Code.fst tree_hidden_c2
noncomputable abbrev tree_hidden_c4 : Code := Code.snd tree_hidden_c2
abbrev tree_hidden_R (w : World) (F : Nat → Prop) (r : Bool) : Ending → World → Prop := fun e w' => e = .returned (.bool r) ∧ B.Loc w w' [] [St w []]
noncomputable abbrev tree_hidden_C (w : World) (F : Nat → Prop) (r : Bool) : Cx := ⟨Try.prog, 60, Try.f60, 26, tree_hidden_R w F  r, w⟩
theorem tree_hidden_calls (w : World) (F : Nat → Prop) (x1 : api_Gram) (x14 : Int) (A2 : Option Addr) (n3 : Nat) (c4 : Nat) (A6 : Option Addr) (n7 : Nat) (c8 : Nat) (A10 : Option Addr) (n11 : Nat) (c12 : Nat) (h5 : Rw k_api_TermDef w (St w []).av A2 n3 c4 x1.terms) (h9 : Rw k_api_Sym w (St w []).av A6 n7 c8 x1.syms) (h13 : Rw k_api_Prod w (St w []).av A10 n11 c12 x1.prods) (hF : ∀ b, F b → b < w.heap.size ∧ ∀ o ∈ ([] : List (List Nat)), b ∉ o) (hL0 : B.Loc w w [] [Sm w.heap.size F w [], St w []]) (r : Bool) (h : tree_hidden x1 x14 r) : Calls Try.prog 60 #[.agg #[.slice A2 n3 c4, .slice A6 n7 c8, .slice A10 n11 c12], .int .i64 x14] w (tree_hidden_R w F  r) := by
  unfold tree_hidden at h
  refine calls_of_Loc (vs := [.agg #[.slice A2 n3 c4, .slice A6 n7 c8, .slice A10 n11 c12], .int .i64 x14]) 26 Try.func60 rfl Try.ntmps60 rfl hL0 ?_
  show G (tree_hidden_C w F r) _ _ _ _
  refine g_seq (c := tree_hidden_c0) rfl ?_
  refine g_region (c := tree_hidden_c1) rfl rfl ?_
  refine wl_s 0 rfl (s_box [.slice A2 n3 c4, .slice A6 n7 c8, .slice A10 n11 c12] rfl rfl rfl fun gb15 => ?_) gn
  refine wl_v 1 rfl (v_assign rfl) gn rfl ?_
  refine w_end 2 rfl ?_
  refine g_seq (c := tree_hidden_c2) rfl ?_
  refine g_region (c := tree_hidden_c3) rfl rfl ?_
  refine wl_v 0 rfl (v_ldB [.slice A2 n3 c4, .slice A6 n7 c8, .slice A10 n11 c12] 0 ld_47 rfl rfl rfl rfl) gn rfl ?_
  refine wl_v 1 rfl (v_move rfl) gn rfl ?_
  obtain ⟨r20, hv21, h⟩ := h
  refine wl_s 2 rfl (s_call [.agg #[.slice A2 n3 c4, .slice A6 n7 c8, .slice A10 n11 c12], .int .i64 x14] rfl Try.func75 rfl rfl rfl fun w17 hL18 => ?_) gn
  have hp19 : List.Perm ([.box gb15 47 [.slice A2 n3 c4, .slice A6 n7 c8, .slice A10 n11 c12]] : List Ent) (([] : List Ent) ++ ([.box gb15 47 [.slice A2 n3 c4, .slice A6 n7 c8, .slice A10 n11 c12]] : List Ent)) := perm_of_idx [] [0] rfl rfl (by kernel_rfl)
  refine Calls.mono (tree_token_calls w17 (Fl ([] : List Snap)) x1 x14 A2 n3 c4 A6 n7 c8 A10 n11 c12 (Rw.mono h5 (hL18.toSt hp19 (me 1 rfl))) (Rw.mono h9 (hL18.toSt hp19 (me 1 rfl))) (Rw.mono h13 (hL18.toSt hp19 (me 1 rfl))) (hL18.hFl (Sl := ([] : List Snap)) hp19 (sels [] rfl)) (hL18.into hp19 (Fl ([] : List Snap))) r20 hv21) ?_
  rintro _ w22 ⟨rfl, hM23⟩
  have hL24 := hL18.call hp19 hM23
  refine ⟨_, _, _, rfl, hL24, ?_⟩
  refine wl_v 3 rfl (v_move rfl) gn rfl ?_
  by_cases hp25 : r20 = true
  · have h := if_pos' hp25 h
    refine w_bool 8 rfl (hp25) ?_
    refine wl_v 4 rfl (v_fldB fo_47_0 rfl) (gy 8 rfl rfl) rfl ?_
    refine wl_v 5 rfl (v_ldB1 0 ld_43 rfl rfl rfl) (gy 8 rfl rfl) rfl ?_
    refine wl_v 6 rfl (v_move rfl) (gy 8 rfl rfl) rfl ?_
    obtain ⟨hb26, h⟩ := h
    have hr27 := Rw.readF (s := St w []) (hl := hl_api_TermDef) (h1 := h1_api_TermDef) h5 hb26
    refine wl_v 7 rfl (v_idxR (s := St w []) slE_43 rfl rfl h5 hb26) (gy 8 rfl rfl) rfl ?_
    refine wl_v 8 rfl (v_fldA fo_100_1 rfl) (gy 8 rfl rfl) rfl ?_
    refine wl_v 9 rfl (v_ldA1 (kk := (x14 : Int).toNat * 2) (j := 1) (St w []) ld_4 rfl hr27 rfl (me 1 rfl)) (gy 8 rfl rfl) rfl ?_
    refine wl_v 10 rfl (v_not rfl) (gy 8 rfl rfl) rfl ?_
    refine wl_v 11 rfl (v_pick (b := true) rfl rfl) gn rfl ?_
    refine wl_v 12 rfl (v_move rfl) gn rfl ?_
    by_cases hp28 : ((ix x1.terms x14).lit) = true
    · have h := if_pos' hp28 h
      refine w_bool 17 rfl ((nf hp28)) ?_
      refine wl_pass 13 rfl (ps 17 rfl rfl rfl) ?_
      refine wl_pass 14 rfl (ps 17 rfl rfl rfl) ?_
      refine wl_pass 15 rfl (ps 17 rfl rfl rfl) ?_
      refine wl_pass 16 rfl (ps 17 rfl rfl rfl) ?_
      refine wl_pass 17 rfl (ps 17 rfl rfl rfl) ?_
      refine wl_pass 18 rfl (ps 17 rfl rfl rfl) ?_
      refine wl_pass 19 rfl (ps 17 rfl rfl rfl) ?_
      refine wl_v 20 rfl (v_pick (b := false) rfl rfl) gn rfl ?_
      refine wl_v 21 rfl (v_assign rfl) gn rfl ?_
      refine w_end 22 rfl ?_
      refine g_retR (c := tree_hidden_c4) [.bool false] rfl Try.func60 rfl (.tmp rfl (.nil)) fun wr hLr => ?_
      have hMr : B.Loc w wr [] [St w []] := hLr.pick (rest := [.box gb15 47 [.slice A2 n3 c4, .slice A6 n7 c8, .slice A10 n11 c12]]) (perm_of_idx [] [0] rfl rfl (by kernel_rfl)) (sels [1] rfl)
      have hMi : ∀ e ∈ ([] : List Ent), e ∈ ([.box gb15 47 [.slice A2 n3 c4, .slice A6 n7 c8, .slice A10 n11 c12]] : List Ent) := sels [] rfl
      show tree_hidden_R w F  r (.returned (packV [.bool false])) wr
      rw [h]
      exact ⟨rfl, hMr⟩
    · have h := if_neg' hp28 h
      refine w_bool 17 rfl ((nt (bf hp28))) ?_
      refine wl_v 13 rfl (v_fldB fo_47_0 rfl) (gy 17 rfl rfl) rfl ?_
      refine wl_v 14 rfl (v_ldB1 0 ld_43 rfl rfl rfl) (gy 17 rfl rfl) rfl ?_
      refine wl_v 15 rfl (v_move rfl) (gy 17 rfl rfl) rfl ?_
      have hr29 := Rw.readF (s := St w []) (hl := hl_api_TermDef) (h1 := h1_api_TermDef) h5 hb26
      refine wl_v 16 rfl (v_idxR (s := St w []) slE_43 rfl rfl h5 hb26) (gy 17 rfl rfl) rfl ?_
      refine wl_v 17 rfl (v_fldA fo_100_0 rfl) (gy 17 rfl rfl) rfl ?_
      refine wl_v 18 rfl (v_ldA1 (kk := (x14 : Int).toNat * 2) (j := 0) (St w []) ld_9 rfl hr29 rfl (me 1 rfl)) (gy 17 rfl rfl) rfl ?_
      obtain ⟨r33, hv34, h⟩ := h
      refine wl_s 19 rfl (s_call [.string ((ix x1.terms x14).name), .string (⟨#[95]⟩ : ByteArray)] rfl Try.func77 rfl rfl rfl fun w30 hL31 => ?_) (gy 17 rfl rfl)
      have hp32 : List.Perm ([.box gb15 47 [.slice A2 n3 c4, .slice A6 n7 c8, .slice A10 n11 c12]] : List Ent) (([] : List Ent) ++ ([.box gb15 47 [.slice A2 n3 c4, .slice A6 n7 c8, .slice A10 n11 c12]] : List Ent)) := perm_of_idx [] [0] rfl rfl (by kernel_rfl)
      refine Calls.mono (strings_HasPrefix_calls w30 (Fl ([] : List Snap)) ((ix x1.terms x14).name) (⟨#[95]⟩ : ByteArray) (hL31.hFl (Sl := ([] : List Snap)) hp32 (sels [] rfl)) (hL31.into hp32 (Fl ([] : List Snap))) r33 hv34) ?_
      rintro _ w35 ⟨rfl, hM36⟩
      have hL37 := hL31.call hp32 hM36
      refine ⟨_, _, _, rfl, hL37, ?_⟩
      refine wl_v 20 rfl (v_pick (b := true) rfl rfl) gn rfl ?_
      refine wl_v 21 rfl (v_assign rfl) gn rfl ?_
      refine w_end 22 rfl ?_
      refine g_retR (c := tree_hidden_c4) [.bool r33] rfl Try.func60 rfl (.tmp rfl (.nil)) fun wr hLr => ?_
      have hMr : B.Loc w wr [] [St w []] := hLr.pick (rest := [.box gb15 47 [.slice A2 n3 c4, .slice A6 n7 c8, .slice A10 n11 c12]]) (perm_of_idx [] [0] rfl rfl (by kernel_rfl)) (sels [1] rfl)
      have hMi : ∀ e ∈ ([] : List Ent), e ∈ ([.box gb15 47 [.slice A2 n3 c4, .slice A6 n7 c8, .slice A10 n11 c12]] : List Ent) := sels [] rfl
      show tree_hidden_R w F  r (.returned (packV [.bool r33])) wr
      rw [h]
      exact ⟨rfl, hMr⟩
  · have h := if_neg' hp25 h
    refine w_bool 8 rfl ((bf hp25)) ?_
    refine wl_pass 4 rfl (ps 8 rfl rfl rfl) ?_
    refine wl_pass 5 rfl (ps 8 rfl rfl rfl) ?_
    refine wl_pass 6 rfl (ps 8 rfl rfl rfl) ?_
    refine wl_pass 7 rfl (ps 8 rfl rfl rfl) ?_
    refine wl_pass 8 rfl (ps 8 rfl rfl rfl) ?_
    refine wl_pass 9 rfl (ps 8 rfl rfl rfl) ?_
    refine wl_pass 10 rfl (ps 8 rfl rfl rfl) ?_
    refine wl_v 11 rfl (v_pick (b := false) rfl rfl) gn rfl ?_
    refine wl_v 12 rfl (v_move rfl) gn rfl ?_
    refine wl_pass 13 rfl (ps 17 rfl rfl rfl) ?_
    refine wl_pass 14 rfl (ps 17 rfl rfl rfl) ?_
    refine wl_pass 15 rfl (ps 17 rfl rfl rfl) ?_
    refine wl_pass 16 rfl (ps 17 rfl rfl rfl) ?_
    refine wl_pass 17 rfl (ps 17 rfl rfl rfl) ?_
    refine wl_pass 18 rfl (ps 17 rfl rfl rfl) ?_
    refine wl_pass 19 rfl (ps 17 rfl rfl rfl) ?_
    refine wl_v 20 rfl (v_pick (b := false) rfl rfl) gn rfl ?_
    refine wl_v 21 rfl (v_assign rfl) gn rfl ?_
    refine w_end 22 rfl ?_
    refine g_retR (c := tree_hidden_c4) [.bool false] rfl Try.func60 rfl (.tmp rfl (.nil)) fun wr hLr => ?_
    have hMr : B.Loc w wr [] [St w []] := hLr.pick (rest := [.box gb15 47 [.slice A2 n3 c4, .slice A6 n7 c8, .slice A10 n11 c12]]) (perm_of_idx [] [0] rfl rfl (by kernel_rfl)) (sels [1] rfl)
    have hMi : ∀ e ∈ ([] : List Ent), e ∈ ([.box gb15 47 [.slice A2 n3 c4, .slice A6 n7 c8, .slice A10 n11 c12]] : List Ent) := sels [] rfl
    show tree_hidden_R w F  r (.returned (packV [.bool false])) wr
    rw [h]
    exact ⟨rfl, hMr⟩
noncomputable abbrev tree_Show_c0 : Code := bodyOf Try.f33
noncomputable abbrev tree_Show_c1 : Code := Code.fst tree_Show_c0
noncomputable abbrev tree_Show_c2 : Code := Code.snd tree_Show_c0
noncomputable abbrev tree_Show_c3 : Code := Code.fst tree_Show_c2
noncomputable abbrev tree_Show_c4 : Code := Code.snd tree_Show_c2
noncomputable abbrev tree_Show_c5 : Code := Code.fst tree_Show_c3
noncomputable abbrev tree_Show_c6 : Code := Code.snd tree_Show_c3
noncomputable abbrev tree_Show_c7 : Code := Code.fst tree_Show_c6
noncomputable abbrev tree_Show_c8 : Code := Code.snd tree_Show_c6
noncomputable abbrev tree_Show_c9 : Code := Code.fst tree_Show_c7
noncomputable abbrev tree_Show_c10 : Code := Code.snd tree_Show_c7
noncomputable abbrev tree_Show_c11 : Code := Code.fst tree_Show_c4
noncomputable abbrev tree_Show_c12 : Code := Code.snd tree_Show_c4
abbrev tree_Show_R (w : World) (F : Nat → Prop) (r : List api_Node) : Ending → World → Prop := fun e w' => ∃ A0 : Option Addr, ∃ n0 : Nat, ∃ c0 : Nat, e = .returned (.slice A0 n0 c0) ∧ B.Loc w w' [.own (.slice A0 n0 c0) 39 7 n0 (r.flatMap enc_api_Node)] [St w []] ∧ Ow w.heap.size A0 n0 c0 r
noncomputable abbrev tree_Show_C (w : World) (F : Nat → Prop) (r : List api_Node) : Cx := ⟨Try.prog, 33, Try.f33, 13, tree_Show_R w F  r, w⟩
theorem tree_Show_calls (w : World) (F : Nat → Prop) (x1 : api_Lang) (x46 : Int) (x47 : List api_Node) (A2 : Option Addr) (n3 : Nat) (c4 : Nat) (A6 : Option Addr) (n7 : Nat) (c8 : Nat) (A10 : Option Addr) (n11 : Nat) (c12 : Nat) (A14 : Option Addr) (n15 : Nat) (c16 : Nat) (A18 : Option Addr) (n19 : Nat) (c20 : Nat) (A22 : Option Addr) (n23 : Nat) (c24 : Nat) (A26 : Option Addr) (n27 : Nat) (c28 : Nat) (A30 : Option Addr) (n31 : Nat) (c32 : Nat) (A34 : Option Addr) (n35 : Nat) (c36 : Nat) (A38 : Option Addr) (n39 : Nat) (c40 : Nat) (A42 : Option Addr) (n43 : Nat) (c44 : Nat) (A48 : Option Addr) (n49 : Nat) (c50 : Nat) (h5 : Rw k_api_ModeDef w (St w []).av A2 n3 c4 x1.modes) (h9 : Rw k_api_TermDef w (St w []).av A6 n7 c8 x1.gram.terms) (h13 : Rw k_api_Sym w (St w []).av A10 n11 c12 x1.gram.syms) (h17 : Rw k_api_Prod w (St w []).av A14 n15 c16 x1.gram.prods) (h21 : Rw k_api_Rule w (St w []).av A18 n19 c20 x1.rules) (h25 : Rw (Kd.slice k_api_Action) w (St w []).av A22 n23 c24 x1.table.actions) (h29 : Rw (Kd.slice (kInt .i64)) w (St w []).av A26 n27 c28 x1.table.gotos) (h33 : Rw k_api_PaintDef w (St w []).av A30 n31 c32 x1.paints) (h37 : Rw kStr w (St w []).av A34 n35 c36 x1.folds) (h41 : Rw k_api_MarkDef w (St w []).av A38 n39 c40 x1.marks) (h45 : Rw k_api_InjectDef w (St w []).av A42 n43 c44 x1.injects) (h51 : Rw k_api_Node w (St w []).av A48 n49 c50 x47) (hF : ∀ b, F b → b < w.heap.size ∧ ∀ o ∈ ([] : List (List Nat)), b ∉ o) (hL0 : B.Loc w w [] [Sm w.heap.size F w [], St w []]) (r : List api_Node) (h : tree_Show x1 x46 x47 r) : Calls Try.prog 33 #[.agg #[.string x1.name, .slice A2 n3 c4, .slice A6 n7 c8, .slice A10 n11 c12, .slice A14 n15 c16, .slice A18 n19 c20, .slice A22 n23 c24, .slice A26 n27 c28, .slice A30 n31 c32, .slice A34 n35 c36, .slice A38 n39 c40, .slice A42 n43 c44], .int .i64 x46, .slice A48 n49 c50] w (tree_Show_R w F  r) := by
  unfold tree_Show at h
  refine calls_of_Loc (vs := [.agg #[.string x1.name, .slice A2 n3 c4, .slice A6 n7 c8, .slice A10 n11 c12, .slice A14 n15 c16, .slice A18 n19 c20, .slice A22 n23 c24, .slice A26 n27 c28, .slice A30 n31 c32, .slice A34 n35 c36, .slice A38 n39 c40, .slice A42 n43 c44], .int .i64 x46, .slice A48 n49 c50]) 13 Try.func33 rfl Try.ntmps33 rfl hL0 ?_
  show G (tree_Show_C w F r) _ _ _ _
  refine g_seq (c := tree_Show_c0) rfl ?_
  refine g_region (c := tree_Show_c1) rfl rfl ?_
  refine wl_s 0 rfl (s_box [.string x1.name, .slice A2 n3 c4, .slice A6 n7 c8, .slice A10 n11 c12, .slice A14 n15 c16, .slice A18 n19 c20, .slice A22 n23 c24, .slice A26 n27 c28, .slice A30 n31 c32, .slice A34 n35 c36, .slice A38 n39 c40, .slice A42 n43 c44] rfl rfl rfl fun gb52 => ?_) gn
  refine wl_v 1 rfl (v_assign rfl) gn rfl ?_
  refine w_end 2 rfl ?_
  refine g_seq (c := tree_Show_c2) rfl ?_
  refine g_seq (c := tree_Show_c3) rfl ?_
  refine g_region (c := tree_Show_c5) rfl rfl ?_
  refine wl_v 0 rfl (v_fldB fo_58_2 rfl) gn rfl ?_
  refine wl_v 1 rfl (v_ldB [.slice A6 n7 c8, .slice A10 n11 c12, .slice A14 n15 c16] 0 ld_47 rfl rfl rfl rfl) gn rfl ?_
  refine wl_v 2 rfl (v_move rfl) gn rfl ?_
  obtain ⟨r57, hv58, h⟩ := h
  refine wl_s 3 rfl (s_call [.agg #[.slice A6 n7 c8, .slice A10 n11 c12, .slice A14 n15 c16], .int .i64 x46] rfl Try.func60 rfl rfl rfl fun w54 hL55 => ?_) gn
  have hp56 : List.Perm ([.box gb52 58 [.string x1.name, .slice A2 n3 c4, .slice A6 n7 c8, .slice A10 n11 c12, .slice A14 n15 c16, .slice A18 n19 c20, .slice A22 n23 c24, .slice A26 n27 c28, .slice A30 n31 c32, .slice A34 n35 c36, .slice A38 n39 c40, .slice A42 n43 c44]] : List Ent) (([] : List Ent) ++ ([.box gb52 58 [.string x1.name, .slice A2 n3 c4, .slice A6 n7 c8, .slice A10 n11 c12, .slice A14 n15 c16, .slice A18 n19 c20, .slice A22 n23 c24, .slice A26 n27 c28, .slice A30 n31 c32, .slice A34 n35 c36, .slice A38 n39 c40, .slice A42 n43 c44]] : List Ent)) := perm_of_idx [] [0] rfl rfl (by kernel_rfl)
  refine Calls.mono (tree_hidden_calls w54 (Fl ([] : List Snap)) x1.gram x46 A6 n7 c8 A10 n11 c12 A14 n15 c16 (Rw.mono h9 (hL55.toSt hp56 (me 1 rfl))) (Rw.mono h13 (hL55.toSt hp56 (me 1 rfl))) (Rw.mono h17 (hL55.toSt hp56 (me 1 rfl))) (hL55.hFl (Sl := ([] : List Snap)) hp56 (sels [] rfl)) (hL55.into hp56 (Fl ([] : List Snap))) r57 hv58) ?_
  rintro _ w59 ⟨rfl, hM60⟩
  have hL61 := hL55.call hp56 hM60
  refine ⟨_, _, _, rfl, hL61, ?_⟩
  refine w_end 4 rfl ?_
  by_cases hp62 : r57 = true
  · have h := if_pos' hp62 h
    refine g_true (c := tree_Show_c6) rfl _ rfl (hp62) ?_
    refine g_seq (c := tree_Show_c7) rfl ?_
    refine g_region (c := tree_Show_c9) rfl rfl ?_
    refine wl_v 0 rfl (v_assign rfl) gn rfl ?_
    refine w_end 1 rfl ?_
    refine g_nil 39 7 ?_
    refine g_retR (c := tree_Show_c10) [.slice none 0 0] rfl Try.func33 rfl (.tmp rfl (.nil)) fun wr hLr => ?_
    have hMr : B.Loc w wr [.own (.slice none 0 0) 39 7 0 (([] : List api_Node).flatMap enc_api_Node)] [St w []] := hLr.pick (rest := [.box gb52 58 [.string x1.name, .slice A2 n3 c4, .slice A6 n7 c8, .slice A10 n11 c12, .slice A14 n15 c16, .slice A18 n19 c20, .slice A22 n23 c24, .slice A26 n27 c28, .slice A30 n31 c32, .slice A34 n35 c36, .slice A38 n39 c40, .slice A42 n43 c44]]) (perm_of_idx [0] [1] rfl rfl (by kernel_rfl)) (sels [1] rfl)
    have hMi : ∀ e ∈ ([.own (.slice none 0 0) 39 7 0 (([] : List api_Node).flatMap enc_api_Node)] : List Ent), e ∈ ([.own (.slice none 0 0) 39 7 0 (([] : List api_Node).flatMap enc_api_Node), .box gb52 58 [.string x1.name, .slice A2 n3 c4, .slice A6 n7 c8, .slice A10 n11 c12, .slice A14 n15 c16, .slice A18 n19 c20, .slice A22 n23 c24, .slice A26 n27 c28, .slice A30 n31 c32, .slice A34 n35 c36, .slice A38 n39 c40, .slice A42 n43 c44]] : List Ent) := sels [0] rfl
    show tree_Show_R w F  r (.returned (packV [.slice none 0 0])) wr
    rw [h]
    exact ⟨none, 0, 0, rfl, hMr, (Ow.nil (z := w.heap.size))⟩
  · have h := if_neg' hp62 h
    refine g_false (c := tree_Show_c6) rfl _ rfl ((bf hp62)) ?_
    refine g_skip (c := tree_Show_c8) rfl ?_
    refine g_seq (c := tree_Show_c4) rfl ?_
    refine g_region (c := tree_Show_c11) rfl rfl ?_
    refine wl_v 0 rfl (v_move rfl) gn rfl ?_
    obtain ⟨r66, hv67, h⟩ := h
    refine wl_s 1 rfl (s_call [.slice A48 n49 c50] rfl Try.func61 rfl rfl rfl fun w63 hL64 => ?_) gn
    have hp65 : List.Perm ([.box gb52 58 [.string x1.name, .slice A2 n3 c4, .slice A6 n7 c8, .slice A10 n11 c12, .slice A14 n15 c16, .slice A18 n19 c20, .slice A22 n23 c24, .slice A26 n27 c28, .slice A30 n31 c32, .slice A34 n35 c36, .slice A38 n39 c40, .slice A42 n43 c44]] : List Ent) (([] : List Ent) ++ ([.box gb52 58 [.string x1.name, .slice A2 n3 c4, .slice A6 n7 c8, .slice A10 n11 c12, .slice A14 n15 c16, .slice A18 n19 c20, .slice A22 n23 c24, .slice A26 n27 c28, .slice A30 n31 c32, .slice A34 n35 c36, .slice A38 n39 c40, .slice A42 n43 c44]] : List Ent)) := perm_of_idx [] [0] rfl rfl (by kernel_rfl)
    refine Calls.mono (slices_Clone_api_Node_api_Node_calls w63 (Fl ([] : List Snap)) x47 A48 n49 c50 (Rw.mono h51 (hL64.toSt hp65 (me 1 rfl))) (hL64.hFl (Sl := ([] : List Snap)) hp65 (sels [] rfl)) (hL64.into hp65 (Fl ([] : List Snap))) r66 hv67) ?_
    rintro _ w73 ⟨A68, n69, c70, rfl, hM74, h71⟩
    have hL75 := hL64.call hp65 hM74
    refine ⟨_, _, _, rfl, hL75, ?_⟩
    refine wl_v 2 rfl (v_assign rfl) gn rfl ?_
    refine w_end 3 rfl ?_
    refine g_retR (c := tree_Show_c12) [.slice A68 n69 c70] rfl Try.func33 rfl (.tmp rfl (.nil)) fun wr hLr => ?_
    have hMr : B.Loc w wr [.own (.slice A68 n69 c70) 39 7 n69 (r66.flatMap enc_api_Node)] [St w []] := hLr.pick (rest := [.box gb52 58 [.string x1.name, .slice A2 n3 c4, .slice A6 n7 c8, .slice A10 n11 c12, .slice A14 n15 c16, .slice A18 n19 c20, .slice A22 n23 c24, .slice A26 n27 c28, .slice A30 n31 c32, .slice A34 n35 c36, .slice A38 n39 c40, .slice A42 n43 c44]]) (perm_of_idx [0] [1] rfl rfl (by kernel_rfl)) (sels [1] rfl)
    have hMi : ∀ e ∈ ([.own (.slice A68 n69 c70) 39 7 n69 (r66.flatMap enc_api_Node)] : List Ent), e ∈ ([.own (.slice A68 n69 c70) 39 7 n69 (r66.flatMap enc_api_Node), .box gb52 58 [.string x1.name, .slice A2 n3 c4, .slice A6 n7 c8, .slice A10 n11 c12, .slice A14 n15 c16, .slice A18 n19 c20, .slice A22 n23 c24, .slice A26 n27 c28, .slice A30 n31 c32, .slice A34 n35 c36, .slice A38 n39 c40, .slice A42 n43 c44]] : List Ent) := sels [0] rfl
    show tree_Show_R w F  r (.returned (packV [.slice A68 n69 c70])) wr
    rw [h]
    exact ⟨A68, n69, c70, rfl, hMr, (Ow.weak hL64.env.size h71)⟩
noncomputable abbrev tree_shown_c0 : Code := bodyOf Try.f76
noncomputable abbrev tree_shown_c1 : Code := Code.fst tree_shown_c0
noncomputable abbrev tree_shown_c2 : Code := Code.snd tree_shown_c0
noncomputable abbrev tree_shown_c3 : Code := Code.fst tree_shown_c2
noncomputable abbrev tree_shown_c4 : Code := Code.snd tree_shown_c2
noncomputable abbrev tree_shown_c5 : Code := Code.fst tree_shown_c4
noncomputable abbrev tree_shown_c6 : Code := Code.snd tree_shown_c4
abbrev tree_shown_R (w : World) (F : Nat → Prop) (r : Bool) : Ending → World → Prop := fun e w' => e = .returned (.bool r) ∧ B.Loc w w' [] [St w []]
noncomputable abbrev tree_shown_C (w : World) (F : Nat → Prop) (r : Bool) : Cx := ⟨Try.prog, 76, Try.f76, 33, tree_shown_R w F  r, w⟩
theorem tree_shown_calls (w : World) (F : Nat → Prop) (x1 : api_Gram) (x14 : Int) (A2 : Option Addr) (n3 : Nat) (c4 : Nat) (A6 : Option Addr) (n7 : Nat) (c8 : Nat) (A10 : Option Addr) (n11 : Nat) (c12 : Nat) (h5 : Rw k_api_TermDef w (St w []).av A2 n3 c4 x1.terms) (h9 : Rw k_api_Sym w (St w []).av A6 n7 c8 x1.syms) (h13 : Rw k_api_Prod w (St w []).av A10 n11 c12 x1.prods) (hF : ∀ b, F b → b < w.heap.size ∧ ∀ o ∈ ([] : List (List Nat)), b ∉ o) (hL0 : B.Loc w w [] [Sm w.heap.size F w [], St w []]) (r : Bool) (h : tree_shown x1 x14 r) : Calls Try.prog 76 #[.agg #[.slice A2 n3 c4, .slice A6 n7 c8, .slice A10 n11 c12], .int .i64 x14] w (tree_shown_R w F  r) := by
  unfold tree_shown at h
  refine calls_of_Loc (vs := [.agg #[.slice A2 n3 c4, .slice A6 n7 c8, .slice A10 n11 c12], .int .i64 x14]) 33 Try.func76 rfl Try.ntmps76 rfl hL0 ?_
  show G (tree_shown_C w F r) _ _ _ _
  refine g_seq (c := tree_shown_c0) rfl ?_
  refine g_region (c := tree_shown_c1) rfl rfl ?_
  refine wl_s 0 rfl (s_box [.slice A2 n3 c4, .slice A6 n7 c8, .slice A10 n11 c12] rfl rfl rfl fun gb15 => ?_) gn
  refine wl_v 1 rfl (v_assign rfl) gn rfl ?_
  refine w_end 2 rfl ?_
  refine g_seq (c := tree_shown_c2) rfl ?_
  refine g_region (c := tree_shown_c3) rfl rfl ?_
  refine wl_v 0 rfl (v_move rfl) gn rfl ?_
  refine wl_v 1 rfl (v_fldB fo_47_0 rfl) gn rfl ?_
  refine wl_v 2 rfl (v_ldB1 0 ld_43 rfl rfl rfl) gn rfl ?_
  refine wl_v 3 rfl (v_lenQ un_43 rfl h5.hq) gn rfl ?_
  refine wl_v 4 rfl (v_bin rfl rfl rfl) gn rfl ?_
  refine wl_v 5 rfl (v_assign rfl) gn rfl ?_
  refine w_end 6 rfl ?_
  refine g_seq (c := tree_shown_c4) rfl ?_
  refine g_region (c := tree_shown_c5) rfl rfl ?_
  refine wl_v 0 rfl (v_move rfl) gn rfl ?_
  refine wl_v 1 rfl (v_bin rfl rfl rfl) gn rfl ?_
  refine wl_v 2 rfl (v_move rfl) gn rfl ?_
  by_cases hp17 : x14 ≥ 0
  · have h := if_pos' hp17 h
    refine w_bool 13 rfl ((decide_eq_true hp17)) ?_
    refine wl_v 3 rfl (v_move rfl) (gy 13 rfl rfl) rfl ?_
    refine wl_v 4 rfl (v_bin rfl rfl rfl) (gy 13 rfl rfl) rfl ?_
    refine wl_v 5 rfl (v_pick (b := true) rfl rfl) gn rfl ?_
    refine wl_v 6 rfl (v_move rfl) gn rfl ?_
    by_cases hp18 : w64 (x14 - (x1.terms.length : Int)) ≥ 0
    · have h := if_pos' hp18 h
      refine w_bool 17 rfl ((decide_eq_true hp18)) ?_
      refine wl_v 7 rfl (v_move rfl) (gy 17 rfl rfl) rfl ?_
      refine wl_v 8 rfl (v_fldB fo_47_1 rfl) (gy 17 rfl rfl) rfl ?_
      refine wl_v 9 rfl (v_ldB1 0 ld_44 rfl rfl rfl) (gy 17 rfl rfl) rfl ?_
      refine wl_v 10 rfl (v_lenQ un_44 rfl h9.hq) (gy 17 rfl rfl) rfl ?_
      refine wl_v 11 rfl (v_bin rfl rfl rfl) (gy 17 rfl rfl) rfl ?_
      refine wl_v 12 rfl (v_pick (b := true) rfl rfl) gn rfl ?_
      refine wl_v 13 rfl (v_move rfl) gn rfl ?_
      by_cases hp19 : w64 (x14 - (x1.terms.length : Int)) < (x1.syms.length : Int)
      · have h := if_pos' hp19 h
        refine w_bool 24 rfl ((decide_eq_true hp19)) ?_
        refine wl_v 14 rfl (v_fldB fo_47_1 rfl) (gy 24 rfl rfl) rfl ?_
        refine wl_v 15 rfl (v_ldB1 0 ld_44 rfl rfl rfl) (gy 24 rfl rfl) rfl ?_
        refine wl_v 16 rfl (v_move rfl) (gy 24 rfl rfl) rfl ?_
        obtain ⟨hb20, h⟩ := h
        have hr21 := Rw.readF (s := St w []) (hl := hl_api_Sym) (h1 := h1_api_Sym) h9 hb20
        refine wl_v 17 rfl (v_idxR (s := St w []) slE_44 rfl rfl h9 hb20) (gy 24 rfl rfl) rfl ?_
        refine wl_v 18 rfl (v_fldA fo_74_1 rfl) (gy 24 rfl rfl) rfl ?_
        refine wl_v 19 rfl (v_ldA1 (kk := (w64 (x14 - (x1.terms.length : Int)) : Int).toNat * 2) (j := 1) (St w []) ld_72 rfl hr21 rfl (me 1 rfl)) (gy 24 rfl rfl) rfl ?_
        refine wl_v 20 rfl (v_bin rfl rfl rfl) (gy 24 rfl rfl) rfl ?_
        refine wl_v 21 rfl (v_pick (b := true) rfl rfl) gn rfl ?_
        refine wl_v 22 rfl (v_assign rfl) gn rfl ?_
        refine w_end 23 rfl ?_
        refine g_retR (c := tree_shown_c6) [.bool (((ix x1.syms (w64 (x14 - (x1.terms.length : Int)))).kind) == 1)] rfl Try.func76 rfl (.tmp rfl (.nil)) fun wr hLr => ?_
        have hMr : B.Loc w wr [] [St w []] := hLr.pick (rest := [.box gb15 47 [.slice A2 n3 c4, .slice A6 n7 c8, .slice A10 n11 c12]]) (perm_of_idx [] [0] rfl rfl (by kernel_rfl)) (sels [1] rfl)
        have hMi : ∀ e ∈ ([] : List Ent), e ∈ ([.box gb15 47 [.slice A2 n3 c4, .slice A6 n7 c8, .slice A10 n11 c12]] : List Ent) := sels [] rfl
        show tree_shown_R w F  r (.returned (packV [.bool (((ix x1.syms (w64 (x14 - (x1.terms.length : Int)))).kind) == 1)])) wr
        rw [h]
        exact ⟨rfl, hMr⟩
      · have h := if_neg' hp19 h
        refine w_bool 24 rfl ((decide_eq_false hp19)) ?_
        refine wl_pass 14 rfl (ps 24 rfl rfl rfl) ?_
        refine wl_pass 15 rfl (ps 24 rfl rfl rfl) ?_
        refine wl_pass 16 rfl (ps 24 rfl rfl rfl) ?_
        refine wl_pass 17 rfl (ps 24 rfl rfl rfl) ?_
        refine wl_pass 18 rfl (ps 24 rfl rfl rfl) ?_
        refine wl_pass 19 rfl (ps 24 rfl rfl rfl) ?_
        refine wl_pass 20 rfl (ps 24 rfl rfl rfl) ?_
        refine wl_v 21 rfl (v_pick (b := false) rfl rfl) gn rfl ?_
        refine wl_v 22 rfl (v_assign rfl) gn rfl ?_
        refine w_end 23 rfl ?_
        refine g_retR (c := tree_shown_c6) [.bool false] rfl Try.func76 rfl (.tmp rfl (.nil)) fun wr hLr => ?_
        have hMr : B.Loc w wr [] [St w []] := hLr.pick (rest := [.box gb15 47 [.slice A2 n3 c4, .slice A6 n7 c8, .slice A10 n11 c12]]) (perm_of_idx [] [0] rfl rfl (by kernel_rfl)) (sels [1] rfl)
        have hMi : ∀ e ∈ ([] : List Ent), e ∈ ([.box gb15 47 [.slice A2 n3 c4, .slice A6 n7 c8, .slice A10 n11 c12]] : List Ent) := sels [] rfl
        show tree_shown_R w F  r (.returned (packV [.bool false])) wr
        rw [h]
        exact ⟨rfl, hMr⟩
    · have h := if_neg' hp18 h
      refine w_bool 17 rfl ((decide_eq_false hp18)) ?_
      refine wl_pass 7 rfl (ps 17 rfl rfl rfl) ?_
      refine wl_pass 8 rfl (ps 17 rfl rfl rfl) ?_
      refine wl_pass 9 rfl (ps 17 rfl rfl rfl) ?_
      refine wl_pass 10 rfl (ps 17 rfl rfl rfl) ?_
      refine wl_pass 11 rfl (ps 17 rfl rfl rfl) ?_
      refine wl_v 12 rfl (v_pick (b := false) rfl rfl) gn rfl ?_
      refine wl_v 13 rfl (v_move rfl) gn rfl ?_
      refine wl_pass 14 rfl (ps 24 rfl rfl rfl) ?_
      refine wl_pass 15 rfl (ps 24 rfl rfl rfl) ?_
      refine wl_pass 16 rfl (ps 24 rfl rfl rfl) ?_
      refine wl_pass 17 rfl (ps 24 rfl rfl rfl) ?_
      refine wl_pass 18 rfl (ps 24 rfl rfl rfl) ?_
      refine wl_pass 19 rfl (ps 24 rfl rfl rfl) ?_
      refine wl_pass 20 rfl (ps 24 rfl rfl rfl) ?_
      refine wl_v 21 rfl (v_pick (b := false) rfl rfl) gn rfl ?_
      refine wl_v 22 rfl (v_assign rfl) gn rfl ?_
      refine w_end 23 rfl ?_
      refine g_retR (c := tree_shown_c6) [.bool false] rfl Try.func76 rfl (.tmp rfl (.nil)) fun wr hLr => ?_
      have hMr : B.Loc w wr [] [St w []] := hLr.pick (rest := [.box gb15 47 [.slice A2 n3 c4, .slice A6 n7 c8, .slice A10 n11 c12]]) (perm_of_idx [] [0] rfl rfl (by kernel_rfl)) (sels [1] rfl)
      have hMi : ∀ e ∈ ([] : List Ent), e ∈ ([.box gb15 47 [.slice A2 n3 c4, .slice A6 n7 c8, .slice A10 n11 c12]] : List Ent) := sels [] rfl
      show tree_shown_R w F  r (.returned (packV [.bool false])) wr
      rw [h]
      exact ⟨rfl, hMr⟩
  · have h := if_neg' hp17 h
    refine w_bool 13 rfl ((decide_eq_false hp17)) ?_
    refine wl_pass 3 rfl (ps 13 rfl rfl rfl) ?_
    refine wl_pass 4 rfl (ps 13 rfl rfl rfl) ?_
    refine wl_v 5 rfl (v_pick (b := false) rfl rfl) gn rfl ?_
    refine wl_v 6 rfl (v_move rfl) gn rfl ?_
    refine wl_pass 7 rfl (ps 17 rfl rfl rfl) ?_
    refine wl_pass 8 rfl (ps 17 rfl rfl rfl) ?_
    refine wl_pass 9 rfl (ps 17 rfl rfl rfl) ?_
    refine wl_pass 10 rfl (ps 17 rfl rfl rfl) ?_
    refine wl_pass 11 rfl (ps 17 rfl rfl rfl) ?_
    refine wl_v 12 rfl (v_pick (b := false) rfl rfl) gn rfl ?_
    refine wl_v 13 rfl (v_move rfl) gn rfl ?_
    refine wl_pass 14 rfl (ps 24 rfl rfl rfl) ?_
    refine wl_pass 15 rfl (ps 24 rfl rfl rfl) ?_
    refine wl_pass 16 rfl (ps 24 rfl rfl rfl) ?_
    refine wl_pass 17 rfl (ps 24 rfl rfl rfl) ?_
    refine wl_pass 18 rfl (ps 24 rfl rfl rfl) ?_
    refine wl_pass 19 rfl (ps 24 rfl rfl rfl) ?_
    refine wl_pass 20 rfl (ps 24 rfl rfl rfl) ?_
    refine wl_v 21 rfl (v_pick (b := false) rfl rfl) gn rfl ?_
    refine wl_v 22 rfl (v_assign rfl) gn rfl ?_
    refine w_end 23 rfl ?_
    refine g_retR (c := tree_shown_c6) [.bool false] rfl Try.func76 rfl (.tmp rfl (.nil)) fun wr hLr => ?_
    have hMr : B.Loc w wr [] [St w []] := hLr.pick (rest := [.box gb15 47 [.slice A2 n3 c4, .slice A6 n7 c8, .slice A10 n11 c12]]) (perm_of_idx [] [0] rfl rfl (by kernel_rfl)) (sels [1] rfl)
    have hMi : ∀ e ∈ ([] : List Ent), e ∈ ([.box gb15 47 [.slice A2 n3 c4, .slice A6 n7 c8, .slice A10 n11 c12]] : List Ent) := sels [] rfl
    show tree_shown_R w F  r (.returned (packV [.bool false])) wr
    rw [h]
    exact ⟨rfl, hMr⟩
noncomputable abbrev tree_over_c0 : Code := bodyOf Try.f59
noncomputable abbrev tree_over_c1 : Code := Code.fst tree_over_c0
noncomputable abbrev tree_over_c2 : Code := Code.snd tree_over_c0
noncomputable abbrev tree_over_c3 : Code := Code.fst tree_over_c2
noncomputable abbrev tree_over_c4 : Code := Code.snd tree_over_c2
noncomputable abbrev tree_over_c5 : Code := Code.fst tree_over_c4
noncomputable abbrev tree_over_c6 : Code := Code.snd tree_over_c4
noncomputable abbrev tree_over_c7 : Code := Code.fst tree_over_c6
noncomputable abbrev tree_over_c8 : Code := Code.snd tree_over_c6
noncomputable abbrev tree_over_c9 : Code := Code.fst tree_over_c7
noncomputable abbrev tree_over_c10 : Code := Code.snd tree_over_c7
noncomputable abbrev tree_over_c11 : Code := Code.fst tree_over_c10
noncomputable abbrev tree_over_c12 : Code := Code.snd tree_over_c10
noncomputable abbrev tree_over_c13 : Code := Code.fst tree_over_c12
noncomputable abbrev tree_over_c14 : Code := Code.snd tree_over_c12
noncomputable abbrev tree_over_c15 : Code := Code.fst tree_over_c8
noncomputable abbrev tree_over_c16 : Code := Code.snd tree_over_c8
abbrev tree_over_R (w : World) (F : Nat → Prop) (r : List api_Node) : Ending → World → Prop := fun e w' => ∃ A0 : Option Addr, ∃ n0 : Nat, ∃ c0 : Nat, e = .returned (.slice A0 n0 c0) ∧ B.Loc w w' [.own (.slice A0 n0 c0) 39 7 n0 (r.flatMap enc_api_Node)] [St w []] ∧ Ow w.heap.size A0 n0 c0 r
noncomputable abbrev tree_over_C (w : World) (F : Nat → Prop) (r : List api_Node) : Cx := ⟨Try.prog, 59, Try.f59, 44, tree_over_R w F  r, w⟩
theorem tree_over_calls (w : World) (F : Nat → Prop) (x1 : ByteArray) (x2 : List api_Node) (x7 : Int) (A3 : Option Addr) (n4 : Nat) (c5 : Nat) (h6 : Rw k_api_Node w (St w []).av A3 n4 c5 x2) (hF : ∀ b, F b → b < w.heap.size ∧ ∀ o ∈ ([] : List (List Nat)), b ∉ o) (hL0 : B.Loc w w [] [Sm w.heap.size F w [], St w []]) (r : List api_Node) (h : tree_over x1 x2 x7 r) : Calls Try.prog 59 #[.string x1, .slice A3 n4 c5, .int .i64 x7] w (tree_over_R w F  r) := by
  unfold tree_over at h
  refine calls_of_Loc (vs := [.string x1, .slice A3 n4 c5, .int .i64 x7]) 44 Try.func59 rfl Try.ntmps59 rfl hL0 ?_
  show G (tree_over_C w F r) _ _ _ _
  refine g_seq (c := tree_over_c0) rfl ?_
  refine g_region (c := tree_over_c1) rfl rfl ?_
  refine wl_v 0 rfl (v_assign rfl) gn rfl ?_
  refine w_end 1 rfl ?_
  refine g_seq (c := tree_over_c2) rfl ?_
  refine g_region (c := tree_over_c3) rfl rfl ?_
  refine wl_v 0 rfl (v_move rfl) gn rfl ?_
  refine wl_v 1 rfl (v_move rfl) gn rfl ?_
  refine wl_v 2 rfl (v_move rfl) gn rfl ?_
  refine wl_v 3 rfl (v_build #[.string x1, .bool true, .string (⟨#[]⟩ : ByteArray), .int .i64 x7, .int .i64 x7, .int .i64 0, .int .i64 (-1)] bd_39 rfl (by kernel_rfl)) gn rfl ?_
  refine wl_s 4 rfl (s_alloc [.string (⟨#[]⟩ : ByteArray), .bool false, .string (⟨#[]⟩ : ByteArray), .int .i64 0, .int .i64 0, .int .i64 0, .int .i64 0] zr_39 rfl fun gb8 => ?_) gn
  refine wl_s 5 rfl (s_stB (vs := [.string x1, .bool true, .string (⟨#[]⟩ : ByteArray), .int .i64 x7, .int .i64 x7, .int .i64 0, .int .i64 (-1)]) (cs' := [.string x1, .bool true, .string (⟨#[]⟩ : ByteArray), .int .i64 x7, .int .i64 x7, .int .i64 0, .int .i64 (-1)]) (M' := [.box gb8 39 [.string x1, .bool true, .string (⟨#[]⟩ : ByteArray), .int .i64 x7, .int .i64 x7, .int .i64 0, .int .i64 (-1)]]) 0 sz_39 rfl rfl rfl rfl rfl rfl rfl rfl rfl ?_) gn
  refine w_end 6 rfl ?_
  refine g_seq (c := tree_over_c4) rfl ?_
  refine g_region (c := tree_over_c5) rfl rfl ?_
  refine wl_v 0 rfl (v_move rfl) gn rfl ?_
  obtain ⟨r13, hv14, h⟩ := h
  refine wl_s 1 rfl (s_call [.slice A3 n4 c5] rfl Try.func65 rfl rfl rfl fun w10 hL11 => ?_) gn
  have hp12 : List.Perm ([.box gb8 39 [.string x1, .bool true, .string (⟨#[]⟩ : ByteArray), .int .i64 x7, .int .i64 x7, .int .i64 0, .int .i64 (-1)]] : List Ent) (([] : List Ent) ++ ([.box gb8 39 [.string x1, .bool true, .string (⟨#[]⟩ : ByteArray), .int .i64 x7, .int .i64 x7, .int .i64 0, .int .i64 (-1)]] : List Ent)) := perm_of_idx [] [0] rfl rfl (by kernel_rfl)
  refine Calls.mono (tree_roots_calls w10 (Fl ([] : List Snap)) x2 A3 n4 c5 (Rw.mono h6 (hL11.toSt hp12 (me 1 rfl))) (hL11.hFl (Sl := ([] : List Snap)) hp12 (sels [] rfl)) (hL11.into hp12 (Fl ([] : List Snap))) r13 hv14) ?_
  rintro _ w20 ⟨A15, n16, c17, rfl, hM21, h18⟩
  have hL22 := hL11.call hp12 hM21
  refine ⟨_, _, _, rfl, hL22, ?_⟩
  refine wl_v 2 rfl (v_assign rfl) gn rfl ?_
  refine w_end 3 rfl ?_
  refine g_seq (c := tree_over_c6) rfl ?_
  refine g_seq (c := tree_over_c7) rfl ?_
  refine g_region (c := tree_over_c9) rfl rfl ?_
  refine wl_v 0 rfl (v_move rfl) gn rfl ?_
  refine wl_v 1 rfl (v_lenQ un_23 rfl (Ow.weak hL11.env.size h18).hq) gn rfl ?_
  refine wl_v 2 rfl (v_fldB fo_39_5 rfl) gn rfl ?_
  refine wl_s 3 rfl (s_stB (vs := [.int .i64 (r13.length : Int)]) (cs' := [.string x1, .bool true, .string (⟨#[]⟩ : ByteArray), .int .i64 x7, .int .i64 x7, .int .i64 (r13.length : Int), .int .i64 (-1)]) (M' := [.own (.slice A15 n16 c17) 3 1 n16 (r13.flatMap (eI .i64)), .box gb8 39 [.string x1, .bool true, .string (⟨#[]⟩ : ByteArray), .int .i64 x7, .int .i64 x7, .int .i64 (r13.length : Int), .int .i64 (-1)]]) 1 sz_3 rfl rfl rfl rfl rfl rfl rfl rfl rfl ?_) gn
  refine w_end 4 rfl ?_
  refine g_seq (c := tree_over_c10) rfl ?_
  refine g_region (c := tree_over_c11) rfl rfl ?_
  refine wl_v 0 rfl (v_fldB fo_39_5 rfl) gn rfl ?_
  refine wl_v 1 rfl (v_ldB1 1 ld_3 rfl rfl rfl) gn rfl ?_
  refine wl_v 2 rfl (v_bin rfl rfl rfl) gn rfl ?_
  refine w_end 3 rfl ?_
  by_cases hp23 : (r13.length : Int) > 0
  · have h := if_pos' hp23 h
    refine g_true (c := tree_over_c12) rfl _ rfl ((decide_eq_true hp23)) ?_
    obtain ⟨hb24, h⟩ := h
    obtain ⟨hb25, h⟩ := h
    obtain ⟨hb27, h⟩ := h
    obtain ⟨hb28, h⟩ := h
    have hns : Region.noSelect (Code.ops tree_over_c13) = true := by kernel_rfl
    refine g_drawF (c := tree_over_c13) [.own (.slice A15 n16 c17) 3 1 n16 (r13.flatMap (eI .i64))] [Sm w.heap.size F w [], St w []] [] 21 rfl rfl mix rfl (.cons_cons _ (.cons _ (.slnil))) (sels [0, 1] rfl) ?_
    refine wf_v 0 rfl (v_move rfl) gn rfl hns (by kernel_rfl) (by kernel_rfl) rfl rfl ?_
    refine wf_v 1 rfl (v_move rfl) gn rfl hns (by kernel_rfl) (by kernel_rfl) rfl rfl ?_
    refine wf_v 2 rfl (v_idxO slE_23 rfl rfl (Ow.weak hL11.env.size h18) hb24) gn rfl hns (by kernel_rfl) (by kernel_rfl) rfl rfl ?_
    refine wf_v 3 rfl (v_ldO1 (.int .i64 (ix r13 0)) 0 ld_3 rfl rfl (fm_get0 (hlI .i64) hb24 rfl)) gn rfl hns (by kernel_rfl) (by kernel_rfl) rfl rfl ?_
    have hr32 := Rw.readF (s := St w []) (hl := hl_api_Node) (h1 := h1_api_Node) h6 hb25
    refine wf_v 4 rfl (v_idxR (s := St w []) slE_22 rfl rfl h6 hb25) gn rfl hns (by kernel_rfl) (by kernel_rfl) rfl rfl ?_
    refine wf_v 5 rfl (v_fldA fo_39_3 rfl) gn rfl hns (by kernel_rfl) (by kernel_rfl) rfl rfl ?_
    refine wf_v 6 rfl (v_ldA1 (kk := (ix r13 0 : Int).toNat * 7) (j := 3) (St w []) ld_3 rfl hr32 rfl (me 1 rfl)) gn rfl hns (by kernel_rfl) (by kernel_rfl) rfl rfl ?_
    refine wf_v 7 rfl (v_move rfl) gn rfl hns (by kernel_rfl) (by kernel_rfl) rfl rfl ?_
    refine wf_v 8 rfl (v_move rfl) gn rfl hns (by kernel_rfl) (by kernel_rfl) rfl rfl ?_
    refine wf_v 9 rfl (v_fldB fo_39_5 rfl) gn rfl hns (by kernel_rfl) (by kernel_rfl) rfl rfl ?_
    refine wf_all [10] (by kernel_rfl) rfl ⟨on_s 10 rfl gn rfl (s_val (v_ldB1 1 ld_3 rfl rfl rfl) rfl ?_), trivial⟩
    refine ⟨sels [0] rfl, sels [0, 1] rfl, ?_⟩
    refine wf_v 11 rfl (v_bin rfl rfl rfl) gn rfl hns (by kernel_rfl) (by kernel_rfl) rfl rfl ?_
    refine wf_v 12 rfl (v_idxO slE_23 rfl rfl (Ow.weak hL11.env.size h18) hb27) gn rfl hns (by kernel_rfl) (by kernel_rfl) rfl rfl ?_
    refine wf_v 13 rfl (v_ldO1 (.int .i64 (ix r13 (w64 ((r13.length : Int) - 1)))) 0 ld_3 rfl rfl (fm_get0 (hlI .i64) hb27 rfl)) gn rfl hns (by kernel_rfl) (by kernel_rfl) rfl rfl ?_
    have hr33 := Rw.readF (s := St w []) (hl := hl_api_Node) (h1 := h1_api_Node) h6 hb28
    refine wf_v 14 rfl (v_idxR (s := St w []) slE_22 rfl rfl h6 hb28) gn rfl hns (by kernel_rfl) (by kernel_rfl) rfl rfl ?_
    refine wf_v 15 rfl (v_fldA fo_39_4 rfl) gn rfl hns (by kernel_rfl) (by kernel_rfl) rfl rfl ?_
    refine wf_v 16 rfl (v_ldA1 (kk := (ix r13 (w64 ((r13.length : Int) - 1)) : Int).toNat * 7) (j := 4) (St w []) ld_3 rfl hr33 rfl (me 1 rfl)) gn rfl hns (by kernel_rfl) (by kernel_rfl) rfl rfl ?_
    refine wf_v 17 rfl (v_fldB fo_39_3 rfl) gn rfl hns (by kernel_rfl) (by kernel_rfl) rfl rfl ?_
    refine wf_all [18] (by kernel_rfl) rfl ⟨on_s 18 rfl gn rfl (s_stB (vs := [.int .i64 ((ix x2 (ix r13 0)).from_)]) (cs' := [.string x1, .bool true, .string (⟨#[]⟩ : ByteArray), .int .i64 ((ix x2 (ix r13 0)).from_), .int .i64 x7, .int .i64 (r13.length : Int), .int .i64 (-1)]) (M' := [.own (.slice A15 n16 c17) 3 1 n16 (r13.flatMap (eI .i64)), .box gb8 39 [.string x1, .bool true, .string (⟨#[]⟩ : ByteArray), .int .i64 ((ix x2 (ix r13 0)).from_), .int .i64 x7, .int .i64 (r13.length : Int), .int .i64 (-1)]]) 1 sz_3 rfl rfl rfl rfl rfl rfl rfl rfl rfl ?_), trivial⟩
    refine ⟨sels [0] rfl, sels [0, 1] rfl, ?_⟩
    refine wf_v 19 rfl (v_fldB fo_39_4 rfl) gn rfl hns (by kernel_rfl) (by kernel_rfl) rfl rfl ?_
    refine wf_all [20] (by kernel_rfl) rfl ⟨on_s 20 rfl gn rfl (s_stB (vs := [.int .i64 ((ix x2 (ix r13 (w64 ((r13.length : Int) - 1)))).to)]) (cs' := [.string x1, .bool true, .string (⟨#[]⟩ : ByteArray), .int .i64 ((ix x2 (ix r13 0)).from_), .int .i64 ((ix x2 (ix r13 (w64 ((r13.length : Int) - 1)))).to), .int .i64 (r13.length : Int), .int .i64 (-1)]) (M' := [.own (.slice A15 n16 c17) 3 1 n16 (r13.flatMap (eI .i64)), .box gb8 39 [.string x1, .bool true, .string (⟨#[]⟩ : ByteArray), .int .i64 ((ix x2 (ix r13 0)).from_), .int .i64 ((ix x2 (ix r13 (w64 ((r13.length : Int) - 1)))).to), .int .i64 (r13.length : Int), .int .i64 (-1)]]) 1 sz_3 rfl rfl rfl rfl rfl rfl rfl rfl rfl ?_), trivial⟩
    refine ⟨sels [0] rfl, sels [0, 1] rfl, ?_⟩
    refine wf_end (by kernel_rfl) ?_
    refine g_seq (c := tree_over_c8) rfl ?_
    refine g_region (c := tree_over_c15) rfl rfl ?_
    refine wl_v 0 rfl (v_ldB [.string x1, .bool true, .string (⟨#[]⟩ : ByteArray), .int .i64 ((ix x2 (ix r13 0)).from_), .int .i64 ((ix x2 (ix r13 (w64 ((r13.length : Int) - 1)))).to), .int .i64 (r13.length : Int), .int .i64 (-1)] 1 ld_39 rfl rfl rfl rfl) gn rfl ?_
    refine wl_s 1 rfl (s_litO (xs := ([(⟨x1, true, (⟨#[]⟩ : ByteArray), (ix x2 (ix r13 0)).from_, (ix x2 (ix r13 (w64 ((r13.length : Int) - 1)))).to, (r13.length : Int), -1⟩ : api_Node)] : List api_Node)) [.string x1, .bool true, .string (⟨#[]⟩ : ByteArray), .int .i64 ((ix x2 (ix r13 0)).from_), .int .i64 ((ix x2 (ix r13 (w64 ((r13.length : Int) - 1)))).to), .int .i64 (r13.length : Int), .int .i64 (-1)] bs_22_1 rfl (by kernel_rfl) rfl rfl rfl rfl fun gb35 h36 => ?_) gn
    refine wl_v 2 rfl (v_move rfl) gn rfl ?_
    obtain ⟨x40, hv41, h⟩ := h
    obtain ⟨hb42, h⟩ := h
    refine wl_s 3 rfl (s_app (zs := x40) (cells' := x40.flatMap enc_api_Node) 0 ap_22 rfl rfl rfl h36 (Nat.le_refl _) (Src.readF (s := St w []) (hl := hl_api_Node) (h1 := h1_api_Node) h6 (me 1 rfl)) (by rw [hv41, List.flatMap_append] <;> rfl) (app_len hv41 h6.hq) hb42 rfl rfl fun A37 c38 h39 => ?_) gn
    refine wl_v 4 rfl (v_assign rfl) gn rfl ?_
    refine w_end 5 rfl ?_
    refine g_retR (c := tree_over_c16) [.slice A37 (1 + n4) c38] rfl Try.func59 rfl (.tmp rfl (.nil)) fun wr hLr => ?_
    have hMr : B.Loc w wr [.own (.slice A37 (1 + n4) c38) 39 7 (1 + n4) (x40.flatMap enc_api_Node)] [St w []] := hLr.pick (rest := [.own (.slice A15 n16 c17) 3 1 n16 (r13.flatMap (eI .i64)), .box gb8 39 [.string x1, .bool true, .string (⟨#[]⟩ : ByteArray), .int .i64 ((ix x2 (ix r13 0)).from_), .int .i64 ((ix x2 (ix r13 (w64 ((r13.length : Int) - 1)))).to), .int .i64 (r13.length : Int), .int .i64 (-1)]]) (perm_of_idx [0] [1, 2] rfl rfl (by kernel_rfl)) (sels [1] rfl)
    have hMi : ∀ e ∈ ([.own (.slice A37 (1 + n4) c38) 39 7 (1 + n4) (x40.flatMap enc_api_Node)] : List Ent), e ∈ ([.own (.slice A37 (1 + n4) c38) 39 7 (1 + n4) (x40.flatMap enc_api_Node), .own (.slice A15 n16 c17) 3 1 n16 (r13.flatMap (eI .i64)), .box gb8 39 [.string x1, .bool true, .string (⟨#[]⟩ : ByteArray), .int .i64 ((ix x2 (ix r13 0)).from_), .int .i64 ((ix x2 (ix r13 (w64 ((r13.length : Int) - 1)))).to), .int .i64 (r13.length : Int), .int .i64 (-1)]] : List Ent) := sels [0] rfl
    show tree_over_R w F  r (.returned (packV [.slice A37 (1 + n4) c38])) wr
    rw [h]
    exact ⟨A37, 1 + n4, c38, rfl, hMr, h39⟩
  · have h := if_neg' hp23 h
    refine g_false (c := tree_over_c12) rfl _ rfl ((decide_eq_false hp23)) ?_
    refine g_skip (c := tree_over_c14) rfl ?_
    refine g_seq (c := tree_over_c8) rfl ?_
    refine g_region (c := tree_over_c15) rfl rfl ?_
    refine wl_v 0 rfl (v_ldB [.string x1, .bool true, .string (⟨#[]⟩ : ByteArray), .int .i64 x7, .int .i64 x7, .int .i64 (r13.length : Int), .int .i64 (-1)] 1 ld_39 rfl rfl rfl rfl) gn rfl ?_
    refine wl_s 1 rfl (s_litO (xs := ([(⟨x1, true, (⟨#[]⟩ : ByteArray), x7, x7, (r13.length : Int), -1⟩ : api_Node)] : List api_Node)) [.string x1, .bool true, .string (⟨#[]⟩ : ByteArray), .int .i64 x7, .int .i64 x7, .int .i64 (r13.length : Int), .int .i64 (-1)] bs_22_1 rfl (by kernel_rfl) rfl rfl rfl rfl fun gb44 h45 => ?_) gn
    refine wl_v 2 rfl (v_move rfl) gn rfl ?_
    obtain ⟨x49, hv50, h⟩ := h
    obtain ⟨hb51, h⟩ := h
    refine wl_s 3 rfl (s_app (zs := x49) (cells' := x49.flatMap enc_api_Node) 0 ap_22 rfl rfl rfl h45 (Nat.le_refl _) (Src.readF (s := St w []) (hl := hl_api_Node) (h1 := h1_api_Node) h6 (me 1 rfl)) (by rw [hv50, List.flatMap_append] <;> rfl) (app_len hv50 h6.hq) hb51 rfl rfl fun A46 c47 h48 => ?_) gn
    refine wl_v 4 rfl (v_assign rfl) gn rfl ?_
    refine w_end 5 rfl ?_
    refine g_retR (c := tree_over_c16) [.slice A46 (1 + n4) c47] rfl Try.func59 rfl (.tmp rfl (.nil)) fun wr hLr => ?_
    have hMr : B.Loc w wr [.own (.slice A46 (1 + n4) c47) 39 7 (1 + n4) (x49.flatMap enc_api_Node)] [St w []] := hLr.pick (rest := [.own (.slice A15 n16 c17) 3 1 n16 (r13.flatMap (eI .i64)), .box gb8 39 [.string x1, .bool true, .string (⟨#[]⟩ : ByteArray), .int .i64 x7, .int .i64 x7, .int .i64 (r13.length : Int), .int .i64 (-1)]]) (perm_of_idx [0] [1, 2] rfl rfl (by kernel_rfl)) (sels [1] rfl)
    have hMi : ∀ e ∈ ([.own (.slice A46 (1 + n4) c47) 39 7 (1 + n4) (x49.flatMap enc_api_Node)] : List Ent), e ∈ ([.own (.slice A46 (1 + n4) c47) 39 7 (1 + n4) (x49.flatMap enc_api_Node), .own (.slice A15 n16 c17) 3 1 n16 (r13.flatMap (eI .i64)), .box gb8 39 [.string x1, .bool true, .string (⟨#[]⟩ : ByteArray), .int .i64 x7, .int .i64 x7, .int .i64 (r13.length : Int), .int .i64 (-1)]] : List Ent) := sels [0] rfl
    show tree_over_R w F  r (.returned (packV [.slice A46 (1 + n4) c47])) wr
    rw [h]
    exact ⟨A46, 1 + n4, c47, rfl, hMr, h48⟩
noncomputable abbrev tree_part_c0 : Code := bodyOf Try.f58
noncomputable abbrev tree_part_c1 : Code := Code.fst tree_part_c0
noncomputable abbrev tree_part_c2 : Code := Code.snd tree_part_c0
noncomputable abbrev tree_part_c3 : Code := Code.fst tree_part_c2
noncomputable abbrev tree_part_c4 : Code := Code.snd tree_part_c2
noncomputable abbrev tree_part_c5 : Code := Code.fst tree_part_c4
noncomputable abbrev tree_part_c6 : Code := Code.snd tree_part_c4
noncomputable abbrev tree_part_c7 : Code := Code.fst tree_part_c5
noncomputable abbrev tree_part_c8 : Code := Code.fst tree_part_c7
noncomputable abbrev tree_part_c9 : Code := Code.snd tree_part_c7
noncomputable abbrev tree_part_c10 : Code := Code.fst tree_part_c9
noncomputable abbrev tree_part_c11 : Code := Code.snd tree_part_c9
noncomputable abbrev tree_part_c12 : Code := Code.fst tree_part_c11
noncomputable abbrev tree_part_c13 : Code := Code.snd tree_part_c11
noncomputable abbrev tree_part_c14 : Code := Code.fst tree_part_c13
noncomputable abbrev tree_part_c15 : Code := Code.snd tree_part_c13
noncomputable abbrev tree_part_c16 : Code := Code.fst tree_part_c15
noncomputable abbrev tree_part_c17 : Code := Code.snd tree_part_c15
noncomputable abbrev tree_part_c18 : Code := Code.fst tree_part_c17
noncomputable abbrev tree_part_c19 : Code := Code.fst tree_part_c18
noncomputable abbrev tree_part_c20 : Code := Code.fst tree_part_c19
noncomputable abbrev tree_part_c21 : Code := Code.snd tree_part_c19
noncomputable abbrev tree_part_c22 : Code := Code.fst tree_part_c21
noncomputable abbrev tree_part_c23 : Code := Code.snd tree_part_c21
noncomputable abbrev tree_part_c24 : Code := Code.fst tree_part_c22
noncomputable abbrev tree_part_c25 : Code := Code.snd tree_part_c22
noncomputable abbrev tree_part_c26 : Code := Code.fst tree_part_c23
noncomputable abbrev tree_part_c27 : Code := Code.snd tree_part_c23
noncomputable abbrev tree_part_c28 : Code := Code.fst tree_part_c26
noncomputable abbrev tree_part_c29 : Code := Code.fst tree_part_c28
noncomputable abbrev tree_part_c30 : Code := Code.snd tree_part_c28
noncomputable abbrev tree_part_c31 : Code := Code.fst tree_part_c6
noncomputable abbrev tree_part_c32 : Code := Code.snd tree_part_c6
noncomputable abbrev tree_part_c33 : Code := Code.fst tree_part_c31
noncomputable abbrev tree_part_c34 : Code := Code.snd tree_part_c31
noncomputable abbrev tree_part_c35 : Code := Code.fst tree_part_c34
noncomputable abbrev tree_part_c36 : Code := Code.fst tree_part_c35
noncomputable abbrev tree_part_c37 : Code := Code.fst tree_part_c36
noncomputable abbrev tree_part_c38 : Code := Code.snd tree_part_c36
noncomputable abbrev tree_part_c39 : Code := Code.fst tree_part_c38
noncomputable abbrev tree_part_c40 : Code := Code.snd tree_part_c38
noncomputable abbrev tree_part_c41 : Code := Code.fst tree_part_c39
noncomputable abbrev tree_part_c42 : Code := Code.snd tree_part_c39
noncomputable abbrev tree_part_c43 : Code := Code.fst tree_part_c40
noncomputable abbrev tree_part_c44 : Code := Code.snd tree_part_c40
noncomputable abbrev tree_part_c45 : Code := Code.fst tree_part_c43
noncomputable abbrev tree_part_c46 : Code := Code.fst tree_part_c45
noncomputable abbrev tree_part_c47 : Code := Code.snd tree_part_c45
noncomputable abbrev tree_part_c48 : Code := Code.fst tree_part_c47
noncomputable abbrev tree_part_c49 : Code := Code.snd tree_part_c47
noncomputable abbrev tree_part_c50 : Code := Code.fst tree_part_c49
noncomputable abbrev tree_part_c51 : Code := Code.snd tree_part_c49
noncomputable abbrev tree_part_c52 : Code := Code.fst tree_part_c32
noncomputable abbrev tree_part_c53 : Code := Code.snd tree_part_c32
abbrev tree_part_R (w : World) (F : Nat → Prop) (r : List api_Node) : Ending → World → Prop := fun e w' => ∃ A0 : Option Addr, ∃ n0 : Nat, ∃ c0 : Nat, e = .returned (.slice A0 n0 c0) ∧ B.Loc w w' [.own (.slice A0 n0 c0) 39 7 n0 (r.flatMap enc_api_Node)] [St w []] ∧ Ow w.heap.size A0 n0 c0 r
noncomputable abbrev tree_part_C (w : World) (F : Nat → Prop) (r : List api_Node) : Cx := ⟨Try.prog, 58, Try.f58, 84, tree_part_R w F  r, w⟩
theorem tree_part_calls (w : World) (F : Nat → Prop) (x1 : api_Lang) (x46 : api_Ref) (x47 : List api_Node) (x52 : Int) (A2 : Option Addr) (n3 : Nat) (c4 : Nat) (A6 : Option Addr) (n7 : Nat) (c8 : Nat) (A10 : Option Addr) (n11 : Nat) (c12 : Nat) (A14 : Option Addr) (n15 : Nat) (c16 : Nat) (A18 : Option Addr) (n19 : Nat) (c20 : Nat) (A22 : Option Addr) (n23 : Nat) (c24 : Nat) (A26 : Option Addr) (n27 : Nat) (c28 : Nat) (A30 : Option Addr) (n31 : Nat) (c32 : Nat) (A34 : Option Addr) (n35 : Nat) (c36 : Nat) (A38 : Option Addr) (n39 : Nat) (c40 : Nat) (A42 : Option Addr) (n43 : Nat) (c44 : Nat) (A48 : Option Addr) (n49 : Nat) (c50 : Nat) (h5 : Rw k_api_ModeDef w (St w []).av A2 n3 c4 x1.modes) (h9 : Rw k_api_TermDef w (St w []).av A6 n7 c8 x1.gram.terms) (h13 : Rw k_api_Sym w (St w []).av A10 n11 c12 x1.gram.syms) (h17 : Rw k_api_Prod w (St w []).av A14 n15 c16 x1.gram.prods) (h21 : Rw k_api_Rule w (St w []).av A18 n19 c20 x1.rules) (h25 : Rw (Kd.slice k_api_Action) w (St w []).av A22 n23 c24 x1.table.actions) (h29 : Rw (Kd.slice (kInt .i64)) w (St w []).av A26 n27 c28 x1.table.gotos) (h33 : Rw k_api_PaintDef w (St w []).av A30 n31 c32 x1.paints) (h37 : Rw kStr w (St w []).av A34 n35 c36 x1.folds) (h41 : Rw k_api_MarkDef w (St w []).av A38 n39 c40 x1.marks) (h45 : Rw k_api_InjectDef w (St w []).av A42 n43 c44 x1.injects) (h51 : Rw k_api_Node w (St w []).av A48 n49 c50 x47) (hF : ∀ b, F b → b < w.heap.size ∧ ∀ o ∈ ([] : List (List Nat)), b ∉ o) (hL0 : B.Loc w w [] [Sm w.heap.size F w [], St w []]) (r : List api_Node) (h : tree_part x1 x46 x47 x52 r) : Calls Try.prog 58 #[.agg #[.string x1.name, .slice A2 n3 c4, .slice A6 n7 c8, .slice A10 n11 c12, .slice A14 n15 c16, .slice A18 n19 c20, .slice A22 n23 c24, .slice A26 n27 c28, .slice A30 n31 c32, .slice A34 n35 c36, .slice A38 n39 c40, .slice A42 n43 c44], .agg #[.int .i64 x46.sym, .string x46.field, .string x46.as], .slice A48 n49 c50, .int .i64 x52] w (tree_part_R w F  r) := by
  unfold tree_part at h
  refine calls_of_Loc (vs := [.agg #[.string x1.name, .slice A2 n3 c4, .slice A6 n7 c8, .slice A10 n11 c12, .slice A14 n15 c16, .slice A18 n19 c20, .slice A22 n23 c24, .slice A26 n27 c28, .slice A30 n31 c32, .slice A34 n35 c36, .slice A38 n39 c40, .slice A42 n43 c44], .agg #[.int .i64 x46.sym, .string x46.field, .string x46.as], .slice A48 n49 c50, .int .i64 x52]) 84 Try.func58 rfl Try.ntmps58 rfl hL0 ?_
  show G (tree_part_C w F r) _ _ _ _
  refine g_seq (c := tree_part_c0) rfl ?_
  refine g_region (c := tree_part_c1) rfl rfl ?_
  refine wl_s 0 rfl (s_box [.string x1.name, .slice A2 n3 c4, .slice A6 n7 c8, .slice A10 n11 c12, .slice A14 n15 c16, .slice A18 n19 c20, .slice A22 n23 c24, .slice A26 n27 c28, .slice A30 n31 c32, .slice A34 n35 c36, .slice A38 n39 c40, .slice A42 n43 c44] rfl rfl rfl fun gb53 => ?_) gn
  refine wl_s 1 rfl (s_box [.int .i64 x46.sym, .string x46.field, .string x46.as] rfl rfl rfl fun gb55 => ?_) gn
  refine wl_v 2 rfl (v_assign rfl) gn rfl ?_
  refine w_end 3 rfl ?_
  refine g_seq (c := tree_part_c2) rfl ?_
  refine g_region (c := tree_part_c3) rfl rfl ?_
  refine wl_v 0 rfl (v_move rfl) gn rfl ?_
  obtain ⟨r60, hv61, h⟩ := h
  refine wl_s 1 rfl (s_call [.slice A48 n49 c50] rfl Try.func61 rfl rfl rfl fun w57 hL58 => ?_) gn
  have hp59 : List.Perm ([.box gb55 104 [.int .i64 x46.sym, .string x46.field, .string x46.as], .box gb53 58 [.string x1.name, .slice A2 n3 c4, .slice A6 n7 c8, .slice A10 n11 c12, .slice A14 n15 c16, .slice A18 n19 c20, .slice A22 n23 c24, .slice A26 n27 c28, .slice A30 n31 c32, .slice A34 n35 c36, .slice A38 n39 c40, .slice A42 n43 c44]] : List Ent) (([] : List Ent) ++ ([.box gb55 104 [.int .i64 x46.sym, .string x46.field, .string x46.as], .box gb53 58 [.string x1.name, .slice A2 n3 c4, .slice A6 n7 c8, .slice A10 n11 c12, .slice A14 n15 c16, .slice A18 n19 c20, .slice A22 n23 c24, .slice A26 n27 c28, .slice A30 n31 c32, .slice A34 n35 c36, .slice A38 n39 c40, .slice A42 n43 c44]] : List Ent)) := perm_of_idx [] [0, 1] rfl rfl (by kernel_rfl)
  refine Calls.mono (slices_Clone_api_Node_api_Node_calls w57 (Fl ([] : List Snap)) x47 A48 n49 c50 (Rw.mono h51 (hL58.toSt hp59 (me 1 rfl))) (hL58.hFl (Sl := ([] : List Snap)) hp59 (sels [] rfl)) (hL58.into hp59 (Fl ([] : List Snap))) r60 hv61) ?_
  rintro _ w67 ⟨A62, n63, c64, rfl, hM68, h65⟩
  have hL69 := hL58.call hp59 hM68
  refine ⟨_, _, _, rfl, hL69, ?_⟩
  refine wl_v 2 rfl (v_assign rfl) gn rfl ?_
  refine w_end 3 rfl ?_
  refine g_seq (c := tree_part_c4) rfl ?_
  refine g_block (c := tree_part_c5) rfl ?_
  refine g_seq (c := tree_part_c7) rfl ?_
  refine g_region (c := tree_part_c8) rfl rfl ?_
  refine wl_v 0 rfl (v_fldB fo_104_2 rfl) gn rfl ?_
  refine wl_v 1 rfl (v_ldB1 1 ld_9 rfl rfl rfl) gn rfl ?_
  refine wl_v 2 rfl (v_eqS rfl rfl) gn rfl ?_
  refine wl_v 3 rfl (v_assign rfl) gn rfl ?_
  refine w_end 4 rfl ?_
  have j1 : ∀ (x182 : List api_Node) (h : tree_part_j1 x46 x182 r) (A183 : Option Addr) (n184 : Nat) (c185 : Nat) (h186 : Ow w.heap.size A183 n184 c185 x182), G (tree_part_C w F r) [.inBlock 0, .code tree_part_c6] [(5, .pointer (some ⟨gb55, 0, none⟩)), (9, .slice A183 n184 c185)] [.own (.slice A183 n184 c185) 39 7 n184 (x182.flatMap enc_api_Node), .box gb55 104 [.int .i64 x46.sym, .string x46.field, .string x46.as]] [Sm w.heap.size F w [], St w []] := by
    intro x182 h A183 n184 c185 h186
    unfold tree_part_j1 at h
    refine g_inBlock ?_
    refine g_seq (c := tree_part_c6) rfl ?_
    refine g_seq (c := tree_part_c31) rfl ?_
    refine g_region (c := tree_part_c33) rfl rfl ?_
    refine wl_v 0 rfl (v_move rfl) gn rfl ?_
    obtain ⟨r190, hv191, h⟩ := h
    refine wl_s 1 rfl (s_call [.slice A183 n184 c185] rfl Try.func65 rfl rfl rfl fun w187 hL188 => ?_) gn
    have hp189 : List.Perm ([.own (.slice A183 n184 c185) 39 7 n184 (x182.flatMap enc_api_Node), .box gb55 104 [.int .i64 x46.sym, .string x46.field, .string x46.as]] : List Ent) (([] : List Ent) ++ ([.own (.slice A183 n184 c185) 39 7 n184 (x182.flatMap enc_api_Node), .box gb55 104 [.int .i64 x46.sym, .string x46.field, .string x46.as]] : List Ent)) := perm_of_idx [] [0, 1] rfl rfl (by kernel_rfl)
    refine Calls.mono (tree_roots_calls w187 (Fl ([] : List Snap)) x182 A183 n184 c185 (hL188.argO (dk := k_api_Node) hp189 [] rfl 0 rfl rfl h186 (me 0 rfl) (Cells.flat _)) (hL188.hFl (Sl := ([] : List Snap)) hp189 (sels [] rfl)) (hL188.into hp189 (Fl ([] : List Snap))) r190 hv191) ?_
    rintro _ w197 ⟨A192, n193, c194, rfl, hM198, h195⟩
    have hL199 := hL188.call hp189 hM198
    refine ⟨_, _, _, rfl, hL199, ?_⟩
    refine wl_v 2 rfl (v_lenQ un_23 rfl (Ow.weak hL188.env.size h195).hq) gn rfl ?_
    refine wl_v 3 rfl (v_move rfl) gn rfl ?_
    refine w_end 4 rfl ?_
    refine g_block (c := tree_part_c34) rfl ?_
    refine g_loop (c := tree_part_c35) rfl ?_
    have key2 : ∀ s, Rounds (fun (s : (List api_Node) × Int) o => tree_part_b2 r190 x46 s.1 s.2 o) s r → (fun (s : (List api_Node) × Int) => ∀ (h209 : Ow w.heap.size A183 n184 c185 s.1), G (tree_part_C w F r) [.code tree_part_c36, .inLoop tree_part_c36, .inBlock 3, .code tree_part_c32] [(5, .pointer (some ⟨gb55, 0, none⟩)), (9, .slice A183 n184 c185), (64, .slice A192 n193 c194), (65, .int .i64 (r190.length : Int)), (66, .int .i64 s.2)] [.own (.slice A192 n193 c194) 3 1 n193 (r190.flatMap (eI .i64)), .own (.slice A183 n184 c185) 39 7 n184 (s.1.flatMap enc_api_Node), .box gb55 104 [.int .i64 x46.sym, .string x46.field, .string x46.as]] [Sm w.heap.size F w [], St w []]) s := by
      intro s hs
      refine Rounds.ind (mot := (fun (s : (List api_Node) × Int) => ∀ (h209 : Ow w.heap.size A183 n184 c185 s.1), G (tree_part_C w F r) [.code tree_part_c36, .inLoop tree_part_c36, .inBlock 3, .code tree_part_c32] [(5, .pointer (some ⟨gb55, 0, none⟩)), (9, .slice A183 n184 c185), (64, .slice A192 n193 c194), (65, .int .i64 (r190.length : Int)), (66, .int .i64 s.2)] [.own (.slice A192 n193 c194) 3 1 n193 (r190.flatMap (eI .i64)), .own (.slice A183 n184 c185) 39 7 n184 (s.1.flatMap enc_api_Node), .box gb55 104 [.int .i64 x46.sym, .string x46.field, .string x46.as]] [Sm w.heap.size F w [], St w []])) ?_ hs
      clear hs s
      intro s o1 h hO1
      obtain ⟨x208, x210⟩ := s
      show ∀ (h209 : Ow w.heap.size A183 n184 c185 x208), G (tree_part_C w F r) [.code tree_part_c36, .inLoop tree_part_c36, .inBlock 3, .code tree_part_c32] [(5, .pointer (some ⟨gb55, 0, none⟩)), (9, .slice A183 n184 c185), (64, .slice A192 n193 c194), (65, .int .i64 (r190.length : Int)), (66, .int .i64 x210)] [.own (.slice A192 n193 c194) 3 1 n193 (r190.flatMap (eI .i64)), .own (.slice A183 n184 c185) 39 7 n184 (x208.flatMap enc_api_Node), .box gb55 104 [.int .i64 x46.sym, .string x46.field, .string x46.as]] [Sm w.heap.size F w [], St w []]
      intro h209
      have h : tree_part_b2 r190 x46 x208 x210 o1 := h
      unfold tree_part_b2 at h
      refine g_seq (c := tree_part_c36) rfl ?_
      refine g_region (c := tree_part_c37) rfl rfl ?_
      refine wl_v 0 rfl (v_bin rfl rfl rfl) gn rfl ?_
      refine w_end 1 rfl ?_
      refine g_seq (c := tree_part_c38) rfl ?_
      by_cases hp218 : x210 < (r190.length : Int)
      · have h := if_pos' hp218 h
        refine g_true (c := tree_part_c39) rfl _ rfl ((decide_eq_true hp218)) ?_
        refine g_skip (c := tree_part_c41) rfl ?_
        refine g_seq (c := tree_part_c40) rfl ?_
        refine g_block (c := tree_part_c43) rfl ?_
        refine g_seq (c := tree_part_c45) rfl ?_
        refine g_region (c := tree_part_c46) rfl rfl ?_
        obtain ⟨hb219, h⟩ := h
        refine wl_v 0 rfl (v_idxO slE_23 rfl rfl (Ow.weak hL188.env.size h195) hb219) gn rfl ?_
        refine wl_v 1 rfl (v_ldO1 (.int .i64 (ix r190 x210)) 0 ld_3 rfl rfl (fm_get0 (hlI .i64) hb219 rfl)) gn rfl ?_
        refine wl_v 2 rfl (v_assign rfl) gn rfl ?_
        refine w_end 3 rfl ?_
        refine g_seq (c := tree_part_c47) rfl ?_
        refine g_region (c := tree_part_c48) rfl rfl ?_
        refine wl_v 0 rfl (v_move rfl) gn rfl ?_
        refine wl_v 1 rfl (v_move rfl) gn rfl ?_
        obtain ⟨hb220, h⟩ := h
        refine wl_v 2 rfl (v_idxO slE_22 rfl rfl h209 hb220) gn rfl ?_
        refine wl_v 3 rfl (v_fldA fo_39_2 rfl) gn rfl ?_
        refine wl_v 4 rfl (v_ldO1 (.string ((ix x208 (ix r190 x210)).field)) 1 ld_9 rfl rfl (fm_get hl_api_Node hb220 rfl)) gn rfl ?_
        refine wl_v 5 rfl (v_eqS rfl rfl) gn rfl ?_
        refine w_end 6 rfl ?_
        by_cases hp221 : (ix x208 (ix r190 x210)).field = (⟨#[]⟩ : ByteArray)
        · have h := if_pos' hp221 h
          refine g_true (c := tree_part_c49) rfl _ rfl ((seq_t hp221)) ?_
          refine g_region (c := tree_part_c50) rfl rfl ?_
          refine wl_v 0 rfl (v_move rfl) gn rfl ?_
          refine wl_v 1 rfl (v_move rfl) gn rfl ?_
          refine wl_v 2 rfl (v_fldB fo_104_1 rfl) gn rfl ?_
          refine wl_v 3 rfl (v_ldB1 2 ld_9 rfl rfl rfl) gn rfl ?_
          refine wl_v 4 rfl (v_idxO slE_22 rfl rfl h209 hb220) gn rfl ?_
          refine wl_v 5 rfl (v_fldA fo_39_2 rfl) gn rfl ?_
          obtain ⟨x222, hv223, h⟩ := h
          refine wl_s 6 rfl (s_stF (enc := enc_api_Node) (o := 2) (z := ({ (ix x208 (ix r190 x210)) with field := x46.field })) (vs := [.string x46.field]) (i := (ix r190 x210)) 1 hl_api_Node sz_9 rfl rfl rfl rfl rfl h209 hb220 rfl rfl rfl hv223 fun h224 => ?_) gn
          refine w_end 7 rfl ?_
          refine g_inBlock ?_
          refine g_region (c := tree_part_c44) rfl rfl ?_
          refine wl_v 0 rfl (v_bin rfl rfl rfl) gn rfl ?_
          refine wl_v 1 rfl (v_move rfl) gn rfl ?_
          refine w_end 2 rfl ?_
          refine g_inLoop ?_
          have ih := Out.inl hO1 h
          exact g_go [0, 1] (ih h224) ⟨rfl, rfl, rfl, rfl, rfl, trivial⟩ (.cons_cons _ (.cons_cons _ (.cons_cons _ (.slnil)))) rfl
        · have h := if_neg' hp221 h
          refine g_false (c := tree_part_c49) rfl _ rfl ((seq_f hp221)) ?_
          refine g_skip (c := tree_part_c51) rfl ?_
          refine g_inBlock ?_
          refine g_region (c := tree_part_c44) rfl rfl ?_
          refine wl_v 0 rfl (v_bin rfl rfl rfl) gn rfl ?_
          refine wl_v 1 rfl (v_move rfl) gn rfl ?_
          refine w_end 2 rfl ?_
          refine g_inLoop ?_
          have ih := Out.inl hO1 h
          exact g_go [0, 1] (ih h209) ⟨rfl, rfl, rfl, rfl, rfl, trivial⟩ (.cons_cons _ (.cons_cons _ (.cons_cons _ (.slnil)))) rfl
      · have h := if_neg' hp218 h
        refine g_false (c := tree_part_c39) rfl _ rfl ((decide_eq_false hp218)) ?_
        refine g_exit (c := tree_part_c42) [.code tree_part_c32] rfl rfl ?_
        refine g_seq (c := tree_part_c32) rfl ?_
        refine g_region (c := tree_part_c52) rfl rfl ?_
        refine wl_v 0 rfl (v_move rfl) gn rfl ?_
        refine wl_v 1 rfl (v_assign rfl) gn rfl ?_
        refine w_end 2 rfl ?_
        have h := Out.inr hO1 h
        refine g_retR (c := tree_part_c53) [.slice A183 n184 c185] rfl Try.func58 rfl (.tmp rfl (.nil)) fun wr hLr => ?_
        have hMr : B.Loc w wr [.own (.slice A183 n184 c185) 39 7 n184 (x208.flatMap enc_api_Node)] [St w []] := hLr.pick (rest := [.own (.slice A192 n193 c194) 3 1 n193 (r190.flatMap (eI .i64)), .box gb55 104 [.int .i64 x46.sym, .string x46.field, .string x46.as]]) (perm_of_idx [1] [0, 2] rfl rfl (by kernel_rfl)) (sels [1] rfl)
        have hMi : ∀ e ∈ ([.own (.slice A183 n184 c185) 39 7 n184 (x208.flatMap enc_api_Node)] : List Ent), e ∈ ([.own (.slice A192 n193 c194) 3 1 n193 (r190.flatMap (eI .i64)), .own (.slice A183 n184 c185) 39 7 n184 (x208.flatMap enc_api_Node), .box gb55 104 [.int .i64 x46.sym, .string x46.field, .string x46.as]] : List Ent) := sels [1] rfl
        show tree_part_R w F  r (.returned (packV [.slice A183 n184 c185])) wr
        rw [h]
        exact ⟨A183, n184, c185, rfl, hMr, h209⟩
    exact g_go [0, 1] (key2 _ h h186) ⟨rfl, rfl, rfl, rfl, rfl, trivial⟩ (.cons_cons _ (.cons_cons _ (.cons_cons _ (.slnil)))) rfl
  by_cases hp70 : x46.as = (⟨#[]⟩ : ByteArray)
  · have h := if_pos' hp70 h
    refine g_true (c := tree_part_c9) rfl _ rfl ((seq_t hp70)) ?_
    refine g_region (c := tree_part_c10) rfl rfl ?_
    refine wl_v 0 rfl (v_ldB [.string x1.name, .slice A2 n3 c4, .slice A6 n7 c8, .slice A10 n11 c12, .slice A14 n15 c16, .slice A18 n19 c20, .slice A22 n23 c24, .slice A26 n27 c28, .slice A30 n31 c32, .slice A34 n35 c36, .slice A38 n39 c40, .slice A42 n43 c44] 2 ld_58 rfl rfl rfl rfl) gn rfl ?_
    refine wl_v 1 rfl (v_fldB fo_104_0 rfl) gn rfl ?_
    refine wl_v 2 rfl (v_ldB1 1 ld_3 rfl rfl rfl) gn rfl ?_
    refine wl_v 3 rfl (v_move rfl) gn rfl ?_
    obtain ⟨r228, hv229, h⟩ := h
    refine wl_s 4 rfl (s_call [.agg #[.string x1.name, .slice A2 n3 c4, .slice A6 n7 c8, .slice A10 n11 c12, .slice A14 n15 c16, .slice A18 n19 c20, .slice A22 n23 c24, .slice A26 n27 c28, .slice A30 n31 c32, .slice A34 n35 c36, .slice A38 n39 c40, .slice A42 n43 c44], .int .i64 x46.sym, .slice A48 n49 c50] rfl Try.func33 rfl rfl rfl fun w225 hL226 => ?_) gn
    have hp227 : List.Perm ([.own (.slice A62 n63 c64) 39 7 n63 (r60.flatMap enc_api_Node), .box gb55 104 [.int .i64 x46.sym, .string x46.field, .string x46.as], .box gb53 58 [.string x1.name, .slice A2 n3 c4, .slice A6 n7 c8, .slice A10 n11 c12, .slice A14 n15 c16, .slice A18 n19 c20, .slice A22 n23 c24, .slice A26 n27 c28, .slice A30 n31 c32, .slice A34 n35 c36, .slice A38 n39 c40, .slice A42 n43 c44]] : List Ent) (([] : List Ent) ++ ([.own (.slice A62 n63 c64) 39 7 n63 (r60.flatMap enc_api_Node), .box gb55 104 [.int .i64 x46.sym, .string x46.field, .string x46.as], .box gb53 58 [.string x1.name, .slice A2 n3 c4, .slice A6 n7 c8, .slice A10 n11 c12, .slice A14 n15 c16, .slice A18 n19 c20, .slice A22 n23 c24, .slice A26 n27 c28, .slice A30 n31 c32, .slice A34 n35 c36, .slice A38 n39 c40, .slice A42 n43 c44]] : List Ent)) := perm_of_idx [] [0, 1, 2] rfl rfl (by kernel_rfl)
    refine Calls.mono (tree_Show_calls w225 (Fl ([] : List Snap)) x1 x46.sym x47 A2 n3 c4 A6 n7 c8 A10 n11 c12 A14 n15 c16 A18 n19 c20 A22 n23 c24 A26 n27 c28 A30 n31 c32 A34 n35 c36 A38 n39 c40 A42 n43 c44 A48 n49 c50 (Rw.mono h5 (hL226.toSt hp227 (me 1 rfl))) (Rw.mono h9 (hL226.toSt hp227 (me 1 rfl))) (Rw.mono h13 (hL226.toSt hp227 (me 1 rfl))) (Rw.mono h17 (hL226.toSt hp227 (me 1 rfl))) (Rw.mono h21 (hL226.toSt hp227 (me 1 rfl))) (Rw.mono h25 (hL226.toSt hp227 (me 1 rfl))) (Rw.mono h29 (hL226.toSt hp227 (me 1 rfl))) (Rw.mono h33 (hL226.toSt hp227 (me 1 rfl))) (Rw.mono h37 (hL226.toSt hp227 (me 1 rfl))) (Rw.mono h41 (hL226.toSt hp227 (me 1 rfl))) (Rw.mono h45 (hL226.toSt hp227 (me 1 rfl))) (Rw.mono h51 (hL226.toSt hp227 (me 1 rfl))) (hL226.hFl (Sl := ([] : List Snap)) hp227 (sels [] rfl)) (hL226.into hp227 (Fl ([] : List Snap))) r228 hv229) ?_
    rintro _ w235 ⟨A230, n231, c232, rfl, hM236, h233⟩
    have hL237 := hL226.call hp227 hM236
    refine ⟨_, _, _, rfl, hL237, ?_⟩
    refine wl_v 5 rfl (v_assign rfl) gn rfl ?_
    refine w_end 6 rfl ?_
    exact g_go [0, 1] (j1 r228 h A230 n231 c232 (Ow.weak hL226.env.size h233)) ⟨rfl, rfl, trivial⟩ (.cons_cons _ (.cons _ (.cons_cons _ (.cons _ (.slnil))))) rfl
  · have h := if_neg' hp70 h
    refine g_false (c := tree_part_c9) rfl _ rfl ((seq_f hp70)) ?_
    refine g_seq (c := tree_part_c11) rfl ?_
    have j3 : ∀ (x256 : Bool) (h : tree_part_j3 x46 r60 x52 x256 r) , G (tree_part_C w F r) [.code tree_part_c13, .inBlock 0, .code tree_part_c6] [(3, .int .i64 x52), (5, .pointer (some ⟨gb55, 0, none⟩)), (9, .slice A62 n63 c64), (43, .bool x256)] [.own (.slice A62 n63 c64) 39 7 n63 (r60.flatMap enc_api_Node), .box gb55 104 [.int .i64 x46.sym, .string x46.field, .string x46.as]] [Sm w.heap.size F w [], St w []] := by
      intro x256 h
      unfold tree_part_j3 at h
      by_cases hp257 : x256 = true
      · have h := if_pos' hp257 h
        refine g_true (c := tree_part_c13) rfl _ rfl (hp257) ?_
        refine g_region (c := tree_part_c14) rfl rfl ?_
        refine wl_v 0 rfl (v_fldB fo_104_2 rfl) gn rfl ?_
        refine wl_v 1 rfl (v_ldB1 1 ld_9 rfl rfl rfl) gn rfl ?_
        refine wl_v 2 rfl (v_move rfl) gn rfl ?_
        refine wl_v 3 rfl (v_move rfl) gn rfl ?_
        obtain ⟨r261, hv262, h⟩ := h
        refine wl_s 4 rfl (s_call [.string x46.as, .slice A62 n63 c64, .int .i64 x52] rfl Try.func59 rfl rfl rfl fun w258 hL259 => ?_) gn
        have hp260 : List.Perm ([.own (.slice A62 n63 c64) 39 7 n63 (r60.flatMap enc_api_Node), .box gb55 104 [.int .i64 x46.sym, .string x46.field, .string x46.as]] : List Ent) (([] : List Ent) ++ ([.own (.slice A62 n63 c64) 39 7 n63 (r60.flatMap enc_api_Node), .box gb55 104 [.int .i64 x46.sym, .string x46.field, .string x46.as]] : List Ent)) := perm_of_idx [] [0, 1] rfl rfl (by kernel_rfl)
        refine Calls.mono (tree_over_calls w258 (Fl ([] : List Snap)) x46.as r60 x52 A62 n63 c64 (hL259.argO (dk := k_api_Node) hp260 [] rfl 0 rfl rfl (Ow.weak hL58.env.size h65) (me 0 rfl) (Cells.flat _)) (hL259.hFl (Sl := ([] : List Snap)) hp260 (sels [] rfl)) (hL259.into hp260 (Fl ([] : List Snap))) r261 hv262) ?_
        rintro _ w268 ⟨A263, n264, c265, rfl, hM269, h266⟩
        have hL270 := hL259.call hp260 hM269
        refine ⟨_, _, _, rfl, hL270, ?_⟩
        refine wl_v 5 rfl (v_assign rfl) gn rfl ?_
        refine w_end 6 rfl ?_
        exact g_go [0, 1] (j1 r261 h A263 n264 c265 (Ow.weak hL259.env.size h266)) ⟨rfl, rfl, trivial⟩ (.cons_cons _ (.cons _ (.cons_cons _ (.slnil)))) rfl
      · have h := if_neg' hp257 h
        refine g_false (c := tree_part_c13) rfl _ rfl ((bf hp257)) ?_
        refine g_seq (c := tree_part_c15) rfl ?_
        refine g_region (c := tree_part_c16) rfl rfl ?_
        refine wl_v 0 rfl (v_move rfl) gn rfl ?_
        obtain ⟨r274, hv275, h⟩ := h
        refine wl_s 1 rfl (s_call [.slice A62 n63 c64] rfl Try.func65 rfl rfl rfl fun w271 hL272 => ?_) gn
        have hp273 : List.Perm ([.own (.slice A62 n63 c64) 39 7 n63 (r60.flatMap enc_api_Node), .box gb55 104 [.int .i64 x46.sym, .string x46.field, .string x46.as]] : List Ent) (([] : List Ent) ++ ([.own (.slice A62 n63 c64) 39 7 n63 (r60.flatMap enc_api_Node), .box gb55 104 [.int .i64 x46.sym, .string x46.field, .string x46.as]] : List Ent)) := perm_of_idx [] [0, 1] rfl rfl (by kernel_rfl)
        refine Calls.mono (tree_roots_calls w271 (Fl ([] : List Snap)) r60 A62 n63 c64 (hL272.argO (dk := k_api_Node) hp273 [] rfl 0 rfl rfl (Ow.weak hL58.env.size h65) (me 0 rfl) (Cells.flat _)) (hL272.hFl (Sl := ([] : List Snap)) hp273 (sels [] rfl)) (hL272.into hp273 (Fl ([] : List Snap))) r274 hv275) ?_
        rintro _ w281 ⟨A276, n277, c278, rfl, hM282, h279⟩
        have hL283 := hL272.call hp273 hM282
        refine ⟨_, _, _, rfl, hL283, ?_⟩
        refine wl_v 2 rfl (v_lenQ un_23 rfl (Ow.weak hL272.env.size h279).hq) gn rfl ?_
        refine wl_v 3 rfl (v_move rfl) gn rfl ?_
        refine w_end 4 rfl ?_
        refine g_block (c := tree_part_c17) rfl ?_
        refine g_loop (c := tree_part_c18) rfl ?_
        have key4 : ∀ s, Rounds (fun (s : (List api_Node) × Int) o => tree_part_b4 r274 x46 s.1 s.2 o) s r → (fun (s : (List api_Node) × Int) => ∀ (h298 : Ow w.heap.size A62 n63 c64 s.1), G (tree_part_C w F r) [.code tree_part_c19, .inLoop tree_part_c19, .inBlock 1, .inBlock 0, .code tree_part_c6] [(5, .pointer (some ⟨gb55, 0, none⟩)), (9, .slice A62 n63 c64), (17, .slice A276 n277 c278), (18, .int .i64 (r274.length : Int)), (19, .int .i64 s.2)] [.own (.slice A276 n277 c278) 3 1 n277 (r274.flatMap (eI .i64)), .own (.slice A62 n63 c64) 39 7 n63 (s.1.flatMap enc_api_Node), .box gb55 104 [.int .i64 x46.sym, .string x46.field, .string x46.as]] [Sm w.heap.size F w [], St w []]) s := by
          intro s hs
          refine Rounds.ind (mot := (fun (s : (List api_Node) × Int) => ∀ (h298 : Ow w.heap.size A62 n63 c64 s.1), G (tree_part_C w F r) [.code tree_part_c19, .inLoop tree_part_c19, .inBlock 1, .inBlock 0, .code tree_part_c6] [(5, .pointer (some ⟨gb55, 0, none⟩)), (9, .slice A62 n63 c64), (17, .slice A276 n277 c278), (18, .int .i64 (r274.length : Int)), (19, .int .i64 s.2)] [.own (.slice A276 n277 c278) 3 1 n277 (r274.flatMap (eI .i64)), .own (.slice A62 n63 c64) 39 7 n63 (s.1.flatMap enc_api_Node), .box gb55 104 [.int .i64 x46.sym, .string x46.field, .string x46.as]] [Sm w.heap.size F w [], St w []])) ?_ hs
          clear hs s
          intro s o1 h hO1
          obtain ⟨x297, x299⟩ := s
          show ∀ (h298 : Ow w.heap.size A62 n63 c64 x297), G (tree_part_C w F r) [.code tree_part_c19, .inLoop tree_part_c19, .inBlock 1, .inBlock 0, .code tree_part_c6] [(5, .pointer (some ⟨gb55, 0, none⟩)), (9, .slice A62 n63 c64), (17, .slice A276 n277 c278), (18, .int .i64 (r274.length : Int)), (19, .int .i64 x299)] [.own (.slice A276 n277 c278) 3 1 n277 (r274.flatMap (eI .i64)), .own (.slice A62 n63 c64) 39 7 n63 (x297.flatMap enc_api_Node), .box gb55 104 [.int .i64 x46.sym, .string x46.field, .string x46.as]] [Sm w.heap.size F w [], St w []]
          intro h298
          have h : tree_part_b4 r274 x46 x297 x299 o1 := h
          unfold tree_part_b4 at h
          refine g_seq (c := tree_part_c19) rfl ?_
          refine g_region (c := tree_part_c20) rfl rfl ?_
          refine wl_v 0 rfl (v_bin rfl rfl rfl) gn rfl ?_
          refine w_end 1 rfl ?_
          refine g_seq (c := tree_part_c21) rfl ?_
          by_cases hp312 : x299 < (r274.length : Int)
          · have h := if_pos' hp312 h
            refine g_true (c := tree_part_c22) rfl _ rfl ((decide_eq_true hp312)) ?_
            refine g_skip (c := tree_part_c24) rfl ?_
            refine g_seq (c := tree_part_c23) rfl ?_
            refine g_block (c := tree_part_c26) rfl ?_
            refine g_seq (c := tree_part_c28) rfl ?_
            refine g_region (c := tree_part_c29) rfl rfl ?_
            obtain ⟨hb313, h⟩ := h
            refine wl_v 0 rfl (v_idxO slE_23 rfl rfl (Ow.weak hL272.env.size h279) hb313) gn rfl ?_
            refine wl_v 1 rfl (v_ldO1 (.int .i64 (ix r274 x299)) 0 ld_3 rfl rfl (fm_get0 (hlI .i64) hb313 rfl)) gn rfl ?_
            refine wl_v 2 rfl (v_assign rfl) gn rfl ?_
            refine w_end 3 rfl ?_
            refine g_region (c := tree_part_c30) rfl rfl ?_
            refine wl_v 0 rfl (v_move rfl) gn rfl ?_
            refine wl_v 1 rfl (v_move rfl) gn rfl ?_
            refine wl_v 2 rfl (v_move rfl) gn rfl ?_
            refine wl_v 3 rfl (v_move rfl) gn rfl ?_
            refine wl_v 4 rfl (v_fldB fo_104_2 rfl) gn rfl ?_
            refine wl_v 5 rfl (v_ldB1 2 ld_9 rfl rfl rfl) gn rfl ?_
            obtain ⟨hb314, h⟩ := h
            refine wl_v 6 rfl (v_idxO slE_22 rfl rfl h298 hb314) gn rfl ?_
            refine wl_v 7 rfl (v_fldA fo_39_0 rfl) gn rfl ?_
            obtain ⟨x315, hv316, h⟩ := h
            refine wl_s 8 rfl (s_stF (enc := enc_api_Node) (o := 0) (z := ({ (ix x297 (ix r274 x299)) with name := x46.as })) (vs := [.string x46.as]) (i := (ix r274 x299)) 1 hl_api_Node sz_9 rfl rfl rfl rfl rfl h298 hb314 rfl rfl rfl hv316 fun h317 => ?_) gn
            obtain ⟨hb318, h⟩ := h
            refine wl_v 9 rfl (v_idxO slE_22 rfl rfl h317 hb318) gn rfl ?_
            refine wl_v 10 rfl (v_fldA fo_39_1 rfl) gn rfl ?_
            obtain ⟨x319, hv320, h⟩ := h
            refine wl_s 11 rfl (s_stF (enc := enc_api_Node) (o := 1) (z := ({ (ix x315 (ix r274 x299)) with named := true })) (vs := [.bool true]) (i := (ix r274 x299)) 1 hl_api_Node sz_4 rfl rfl rfl rfl rfl h317 hb318 rfl rfl rfl hv320 fun h321 => ?_) gn
            refine w_end 12 rfl ?_
            refine g_inBlock ?_
            refine g_region (c := tree_part_c27) rfl rfl ?_
            refine wl_v 0 rfl (v_bin rfl rfl rfl) gn rfl ?_
            refine wl_v 1 rfl (v_move rfl) gn rfl ?_
            refine w_end 2 rfl ?_
            refine g_inLoop ?_
            have ih := Out.inl hO1 h
            exact g_go [0, 1] (ih h321) ⟨rfl, rfl, rfl, rfl, rfl, trivial⟩ (.cons_cons _ (.cons_cons _ (.cons_cons _ (.slnil)))) rfl
          · have h := if_neg' hp312 h
            refine g_false (c := tree_part_c22) rfl _ rfl ((decide_eq_false hp312)) ?_
            refine g_exit (c := tree_part_c25) [.inBlock 0, .code tree_part_c6] rfl rfl ?_
            obtain ⟨q322, hq323, h⟩ := h
            have hq323 := Out.inr hO1 hq323
            rw [← hq323] at h
            exact g_go [0, 1] (j1 x297 h A62 n63 c64 h298) ⟨rfl, rfl, trivial⟩ (.cons _ (.cons_cons _ (.cons_cons _ (.slnil)))) rfl
        exact g_go [0, 1] (key4 _ h (Ow.weak hL58.env.size h65)) ⟨rfl, rfl, rfl, rfl, rfl, trivial⟩ (.cons_cons _ (.cons_cons _ (.cons_cons _ (.slnil)))) rfl
    refine g_region (c := tree_part_c12) rfl rfl ?_
    refine wl_v 0 rfl (v_fldB fo_58_2 rfl) gn rfl ?_
    refine wl_v 1 rfl (v_ldB [.slice A6 n7 c8, .slice A10 n11 c12, .slice A14 n15 c16] 2 ld_47 rfl rfl rfl rfl) gn rfl ?_
    refine wl_v 2 rfl (v_fldB fo_104_0 rfl) gn rfl ?_
    refine wl_v 3 rfl (v_ldB1 1 ld_3 rfl rfl rfl) gn rfl ?_
    obtain ⟨r327, hv328, h⟩ := h
    refine wl_s 4 rfl (s_call [.agg #[.slice A6 n7 c8, .slice A10 n11 c12, .slice A14 n15 c16], .int .i64 x46.sym] rfl Try.func75 rfl rfl rfl fun w324 hL325 => ?_) gn
    have hp326 : List.Perm ([.own (.slice A62 n63 c64) 39 7 n63 (r60.flatMap enc_api_Node), .box gb55 104 [.int .i64 x46.sym, .string x46.field, .string x46.as], .box gb53 58 [.string x1.name, .slice A2 n3 c4, .slice A6 n7 c8, .slice A10 n11 c12, .slice A14 n15 c16, .slice A18 n19 c20, .slice A22 n23 c24, .slice A26 n27 c28, .slice A30 n31 c32, .slice A34 n35 c36, .slice A38 n39 c40, .slice A42 n43 c44]] : List Ent) (([] : List Ent) ++ ([.own (.slice A62 n63 c64) 39 7 n63 (r60.flatMap enc_api_Node), .box gb55 104 [.int .i64 x46.sym, .string x46.field, .string x46.as], .box gb53 58 [.string x1.name, .slice A2 n3 c4, .slice A6 n7 c8, .slice A10 n11 c12, .slice A14 n15 c16, .slice A18 n19 c20, .slice A22 n23 c24, .slice A26 n27 c28, .slice A30 n31 c32, .slice A34 n35 c36, .slice A38 n39 c40, .slice A42 n43 c44]] : List Ent)) := perm_of_idx [] [0, 1, 2] rfl rfl (by kernel_rfl)
    refine Calls.mono (tree_token_calls w324 (Fl ([] : List Snap)) x1.gram x46.sym A6 n7 c8 A10 n11 c12 A14 n15 c16 (Rw.mono h9 (hL325.toSt hp326 (me 1 rfl))) (Rw.mono h13 (hL325.toSt hp326 (me 1 rfl))) (Rw.mono h17 (hL325.toSt hp326 (me 1 rfl))) (hL325.hFl (Sl := ([] : List Snap)) hp326 (sels [] rfl)) (hL325.into hp326 (Fl ([] : List Snap))) r327 hv328) ?_
    rintro _ w329 ⟨rfl, hM330⟩
    have hL331 := hL325.call hp326 hM330
    refine ⟨_, _, _, rfl, hL331, ?_⟩
    refine wl_v 5 rfl (v_not rfl) gn rfl ?_
    refine wl_v 6 rfl (v_move rfl) gn rfl ?_
    by_cases hp332 : r327 = true
    · have h := if_pos' hp332 h
      refine w_bool 50 rfl ((nf hp332)) ?_
      refine wl_pass 7 rfl (ps 50 rfl rfl rfl) ?_
      refine wl_pass 8 rfl (ps 50 rfl rfl rfl) ?_
      refine wl_pass 9 rfl (ps 50 rfl rfl rfl) ?_
      refine wl_pass 10 rfl (ps 50 rfl rfl rfl) ?_
      refine wl_pass 11 rfl (ps 50 rfl rfl rfl) ?_
      refine wl_pass 12 rfl (ps 50 rfl rfl rfl) ?_
      refine wl_v 13 rfl (v_pick (b := false) rfl rfl) gn rfl ?_
      refine wl_v 14 rfl (v_assign rfl) gn rfl ?_
      refine w_end 15 rfl ?_
      exact g_go [0, 1] (j3 false h) ⟨rfl, rfl, rfl, rfl, trivial⟩ (.cons_cons _ (.cons_cons _ (.cons _ (.slnil)))) rfl
    · have h := if_neg' hp332 h
      refine w_bool 50 rfl ((nt (bf hp332))) ?_
      refine wl_v 7 rfl (v_fldB fo_58_2 rfl) (gy 50 rfl rfl) rfl ?_
      refine wl_v 8 rfl (v_ldB [.slice A6 n7 c8, .slice A10 n11 c12, .slice A14 n15 c16] 2 ld_47 rfl rfl rfl rfl) (gy 50 rfl rfl) rfl ?_
      refine wl_v 9 rfl (v_fldB fo_104_0 rfl) (gy 50 rfl rfl) rfl ?_
      refine wl_v 10 rfl (v_ldB1 1 ld_3 rfl rfl rfl) (gy 50 rfl rfl) rfl ?_
      obtain ⟨r336, hv337, h⟩ := h
      refine wl_s 11 rfl (s_call [.agg #[.slice A6 n7 c8, .slice A10 n11 c12, .slice A14 n15 c16], .int .i64 x46.sym] rfl Try.func76 rfl rfl rfl fun w333 hL334 => ?_) (gy 50 rfl rfl)
      have hp335 : List.Perm ([.own (.slice A62 n63 c64) 39 7 n63 (r60.flatMap enc_api_Node), .box gb55 104 [.int .i64 x46.sym, .string x46.field, .string x46.as], .box gb53 58 [.string x1.name, .slice A2 n3 c4, .slice A6 n7 c8, .slice A10 n11 c12, .slice A14 n15 c16, .slice A18 n19 c20, .slice A22 n23 c24, .slice A26 n27 c28, .slice A30 n31 c32, .slice A34 n35 c36, .slice A38 n39 c40, .slice A42 n43 c44]] : List Ent) (([] : List Ent) ++ ([.own (.slice A62 n63 c64) 39 7 n63 (r60.flatMap enc_api_Node), .box gb55 104 [.int .i64 x46.sym, .string x46.field, .string x46.as], .box gb53 58 [.string x1.name, .slice A2 n3 c4, .slice A6 n7 c8, .slice A10 n11 c12, .slice A14 n15 c16, .slice A18 n19 c20, .slice A22 n23 c24, .slice A26 n27 c28, .slice A30 n31 c32, .slice A34 n35 c36, .slice A38 n39 c40, .slice A42 n43 c44]] : List Ent)) := perm_of_idx [] [0, 1, 2] rfl rfl (by kernel_rfl)
      refine Calls.mono (tree_shown_calls w333 (Fl ([] : List Snap)) x1.gram x46.sym A6 n7 c8 A10 n11 c12 A14 n15 c16 (Rw.mono h9 (hL334.toSt hp335 (me 1 rfl))) (Rw.mono h13 (hL334.toSt hp335 (me 1 rfl))) (Rw.mono h17 (hL334.toSt hp335 (me 1 rfl))) (hL334.hFl (Sl := ([] : List Snap)) hp335 (sels [] rfl)) (hL334.into hp335 (Fl ([] : List Snap))) r336 hv337) ?_
      rintro _ w338 ⟨rfl, hM339⟩
      have hL340 := hL334.call hp335 hM339
      refine ⟨_, _, _, rfl, hL340, ?_⟩
      refine wl_v 12 rfl (v_not rfl) (gy 50 rfl rfl) rfl ?_
      refine wl_v 13 rfl (v_pick (b := true) rfl rfl) gn rfl ?_
      refine wl_v 14 rfl (v_assign rfl) gn rfl ?_
      refine w_end 15 rfl ?_
      exact g_go [0, 1] (j3 (!r336) h) ⟨rfl, rfl, rfl, rfl, trivial⟩ (.cons_cons _ (.cons_cons _ (.cons _ (.slnil)))) rfl
noncomputable abbrev tree_Reduce_c0 : Code := bodyOf Try.f32
noncomputable abbrev tree_Reduce_c1 : Code := Code.fst tree_Reduce_c0
noncomputable abbrev tree_Reduce_c2 : Code := Code.snd tree_Reduce_c0
noncomputable abbrev tree_Reduce_c3 : Code := Code.fst tree_Reduce_c2
noncomputable abbrev tree_Reduce_c4 : Code := Code.snd tree_Reduce_c2
noncomputable abbrev tree_Reduce_c5 : Code := Code.fst tree_Reduce_c3
noncomputable abbrev tree_Reduce_c6 : Code := Code.snd tree_Reduce_c3
noncomputable abbrev tree_Reduce_c7 : Code := Code.fst tree_Reduce_c6
noncomputable abbrev tree_Reduce_c8 : Code := Code.snd tree_Reduce_c6
noncomputable abbrev tree_Reduce_c9 : Code := Code.fst tree_Reduce_c7
noncomputable abbrev tree_Reduce_c10 : Code := Code.snd tree_Reduce_c7
noncomputable abbrev tree_Reduce_c11 : Code := Code.fst tree_Reduce_c4
noncomputable abbrev tree_Reduce_c12 : Code := Code.snd tree_Reduce_c4
noncomputable abbrev tree_Reduce_c13 : Code := Code.fst tree_Reduce_c12
noncomputable abbrev tree_Reduce_c14 : Code := Code.snd tree_Reduce_c12
noncomputable abbrev tree_Reduce_c15 : Code := Code.fst tree_Reduce_c13
noncomputable abbrev tree_Reduce_c16 : Code := Code.snd tree_Reduce_c13
noncomputable abbrev tree_Reduce_c17 : Code := Code.fst tree_Reduce_c16
noncomputable abbrev tree_Reduce_c18 : Code := Code.snd tree_Reduce_c16
noncomputable abbrev tree_Reduce_c19 : Code := Code.fst tree_Reduce_c17
noncomputable abbrev tree_Reduce_c20 : Code := Code.snd tree_Reduce_c17
noncomputable abbrev tree_Reduce_c21 : Code := Code.fst tree_Reduce_c14
noncomputable abbrev tree_Reduce_c22 : Code := Code.snd tree_Reduce_c14
noncomputable abbrev tree_Reduce_c23 : Code := Code.fst tree_Reduce_c22
noncomputable abbrev tree_Reduce_c24 : Code := Code.snd tree_Reduce_c22
noncomputable abbrev tree_Reduce_c25 : Code := Code.fst tree_Reduce_c23
noncomputable abbrev tree_Reduce_c26 : Code := Code.snd tree_Reduce_c23
noncomputable abbrev tree_Reduce_c27 : Code := Code.fst tree_Reduce_c26
noncomputable abbrev tree_Reduce_c28 : Code := Code.fst tree_Reduce_c27
noncomputable abbrev tree_Reduce_c29 : Code := Code.fst tree_Reduce_c28
noncomputable abbrev tree_Reduce_c30 : Code := Code.snd tree_Reduce_c28
noncomputable abbrev tree_Reduce_c31 : Code := Code.fst tree_Reduce_c30
noncomputable abbrev tree_Reduce_c32 : Code := Code.snd tree_Reduce_c30
noncomputable abbrev tree_Reduce_c33 : Code := Code.fst tree_Reduce_c31
noncomputable abbrev tree_Reduce_c34 : Code := Code.snd tree_Reduce_c31
noncomputable abbrev tree_Reduce_c35 : Code := Code.fst tree_Reduce_c32
noncomputable abbrev tree_Reduce_c36 : Code := Code.snd tree_Reduce_c32
noncomputable abbrev tree_Reduce_c37 : Code := Code.fst tree_Reduce_c35
noncomputable abbrev tree_Reduce_c38 : Code := Code.fst tree_Reduce_c37
noncomputable abbrev tree_Reduce_c39 : Code := Code.snd tree_Reduce_c37
noncomputable abbrev tree_Reduce_c40 : Code := Code.fst tree_Reduce_c39
noncomputable abbrev tree_Reduce_c41 : Code := Code.snd tree_Reduce_c39
noncomputable abbrev tree_Reduce_c42 : Code := Code.fst tree_Reduce_c40
noncomputable abbrev tree_Reduce_c43 : Code := Code.snd tree_Reduce_c40
noncomputable abbrev tree_Reduce_c44 : Code := Code.fst tree_Reduce_c43
noncomputable abbrev tree_Reduce_c45 : Code := Code.snd tree_Reduce_c43
noncomputable abbrev tree_Reduce_c46 : Code := Code.fst tree_Reduce_c44
noncomputable abbrev tree_Reduce_c47 : Code := Code.snd tree_Reduce_c44
noncomputable abbrev tree_Reduce_c48 : Code := Code.fst tree_Reduce_c24
noncomputable abbrev tree_Reduce_c49 : Code := Code.snd tree_Reduce_c24
noncomputable abbrev tree_Reduce_c50 : Code := Code.fst tree_Reduce_c48
noncomputable abbrev tree_Reduce_c51 : Code := Code.snd tree_Reduce_c48
noncomputable abbrev tree_Reduce_c52 : Code := Code.fst tree_Reduce_c51
noncomputable abbrev tree_Reduce_c53 : Code := Code.snd tree_Reduce_c51
noncomputable abbrev tree_Reduce_c54 : Code := Code.fst tree_Reduce_c52
noncomputable abbrev tree_Reduce_c55 : Code := Code.snd tree_Reduce_c52
noncomputable abbrev tree_Reduce_c56 : Code := Code.fst tree_Reduce_c49
noncomputable abbrev tree_Reduce_c57 : Code := Code.snd tree_Reduce_c49
abbrev tree_Reduce_R (w : World) (F : Nat → Prop) (r : List api_Node) : Ending → World → Prop := fun e w' => ∃ A0 : Option Addr, ∃ n0 : Nat, ∃ c0 : Nat, e = .returned (.slice A0 n0 c0) ∧ B.Loc w w' [.own (.slice A0 n0 c0) 39 7 n0 (r.flatMap enc_api_Node)] [St w []] ∧ Ow w.heap.size A0 n0 c0 r
noncomputable abbrev tree_Reduce_C (w : World) (F : Nat → Prop) (r : List api_Node) : Cx := ⟨Try.prog, 32, Try.f32, 113, tree_Reduce_R w F  r, w⟩
theorem tree_Reduce_calls (w : World) (F : Nat → Prop) (x1 : api_Lang) (x46 : Int) (x47 : List (List api_Node)) (x52 : List Int) (A2 : Option Addr) (n3 : Nat) (c4 : Nat) (A6 : Option Addr) (n7 : Nat) (c8 : Nat) (A10 : Option Addr) (n11 : Nat) (c12 : Nat) (A14 : Option Addr) (n15 : Nat) (c16 : Nat) (A18 : Option Addr) (n19 : Nat) (c20 : Nat) (A22 : Option Addr) (n23 : Nat) (c24 : Nat) (A26 : Option Addr) (n27 : Nat) (c28 : Nat) (A30 : Option Addr) (n31 : Nat) (c32 : Nat) (A34 : Option Addr) (n35 : Nat) (c36 : Nat) (A38 : Option Addr) (n39 : Nat) (c40 : Nat) (A42 : Option Addr) (n43 : Nat) (c44 : Nat) (A48 : Option Addr) (n49 : Nat) (c50 : Nat) (A53 : Option Addr) (n54 : Nat) (c55 : Nat) (h5 : Rw k_api_ModeDef w (St w []).av A2 n3 c4 x1.modes) (h9 : Rw k_api_TermDef w (St w []).av A6 n7 c8 x1.gram.terms) (h13 : Rw k_api_Sym w (St w []).av A10 n11 c12 x1.gram.syms) (h17 : Rw k_api_Prod w (St w []).av A14 n15 c16 x1.gram.prods) (h21 : Rw k_api_Rule w (St w []).av A18 n19 c20 x1.rules) (h25 : Rw (Kd.slice k_api_Action) w (St w []).av A22 n23 c24 x1.table.actions) (h29 : Rw (Kd.slice (kInt .i64)) w (St w []).av A26 n27 c28 x1.table.gotos) (h33 : Rw k_api_PaintDef w (St w []).av A30 n31 c32 x1.paints) (h37 : Rw kStr w (St w []).av A34 n35 c36 x1.folds) (h41 : Rw k_api_MarkDef w (St w []).av A38 n39 c40 x1.marks) (h45 : Rw k_api_InjectDef w (St w []).av A42 n43 c44 x1.injects) (h51 : Rw (Kd.slice k_api_Node) w (St w []).av A48 n49 c50 x47) (h56 : Rw (kInt .i64) w (St w []).av A53 n54 c55 x52) (hF : ∀ b, F b → b < w.heap.size ∧ ∀ o ∈ ([] : List (List Nat)), b ∉ o) (hL0 : B.Loc w w [] [Sm w.heap.size F w [], St w []]) (r : List api_Node) (h : tree_Reduce x1 x46 x47 x52 r) : Calls Try.prog 32 #[.agg #[.string x1.name, .slice A2 n3 c4, .slice A6 n7 c8, .slice A10 n11 c12, .slice A14 n15 c16, .slice A18 n19 c20, .slice A22 n23 c24, .slice A26 n27 c28, .slice A30 n31 c32, .slice A34 n35 c36, .slice A38 n39 c40, .slice A42 n43 c44], .int .i64 x46, .slice A48 n49 c50, .slice A53 n54 c55] w (tree_Reduce_R w F  r) := by
  unfold tree_Reduce at h
  refine calls_of_Loc (vs := [.agg #[.string x1.name, .slice A2 n3 c4, .slice A6 n7 c8, .slice A10 n11 c12, .slice A14 n15 c16, .slice A18 n19 c20, .slice A22 n23 c24, .slice A26 n27 c28, .slice A30 n31 c32, .slice A34 n35 c36, .slice A38 n39 c40, .slice A42 n43 c44], .int .i64 x46, .slice A48 n49 c50, .slice A53 n54 c55]) 113 Try.func32 rfl Try.ntmps32 rfl hL0 ?_
  show G (tree_Reduce_C w F r) _ _ _ _
  refine g_seq (c := tree_Reduce_c0) rfl ?_
  refine g_region (c := tree_Reduce_c1) rfl rfl ?_
  refine wl_s 0 rfl (s_box [.string x1.name, .slice A2 n3 c4, .slice A6 n7 c8, .slice A10 n11 c12, .slice A14 n15 c16, .slice A18 n19 c20, .slice A22 n23 c24, .slice A26 n27 c28, .slice A30 n31 c32, .slice A34 n35 c36, .slice A38 n39 c40, .slice A42 n43 c44] rfl rfl rfl fun gb57 => ?_) gn
  refine wl_v 1 rfl (v_assign rfl) gn rfl ?_
  refine w_end 2 rfl ?_
  refine g_seq (c := tree_Reduce_c2) rfl ?_
  refine g_seq (c := tree_Reduce_c3) rfl ?_
  have j1 : ∀ (x61 : Bool) (h : tree_Reduce_j1 x46 x1 x47 x52 x61 r) , G (tree_Reduce_C w F r) [.code tree_Reduce_c6, .code tree_Reduce_c4] [(1, .int .i64 x46), (2, .slice A48 n49 c50), (3, .slice A53 n54 c55), (4, .pointer (some ⟨gb57, 0, none⟩)), (22, .bool x61)] [.box gb57 58 [.string x1.name, .slice A2 n3 c4, .slice A6 n7 c8, .slice A10 n11 c12, .slice A14 n15 c16, .slice A18 n19 c20, .slice A22 n23 c24, .slice A26 n27 c28, .slice A30 n31 c32, .slice A34 n35 c36, .slice A38 n39 c40, .slice A42 n43 c44]] [Sm w.heap.size F w [], St w []] := by
    intro x61 h
    unfold tree_Reduce_j1 at h
    by_cases hp62 : x61 = true
    · have h := if_pos' hp62 h
      refine g_true (c := tree_Reduce_c6) rfl _ rfl (hp62) ?_
      refine g_seq (c := tree_Reduce_c7) rfl ?_
      refine g_region (c := tree_Reduce_c9) rfl rfl ?_
      refine wl_v 0 rfl (v_assign rfl) gn rfl ?_
      refine w_end 1 rfl ?_
      refine g_nil 39 7 ?_
      refine g_retR (c := tree_Reduce_c10) [.slice none 0 0] rfl Try.func32 rfl (.tmp rfl (.nil)) fun wr hLr => ?_
      have hMr : B.Loc w wr [.own (.slice none 0 0) 39 7 0 (([] : List api_Node).flatMap enc_api_Node)] [St w []] := hLr.pick (rest := [.box gb57 58 [.string x1.name, .slice A2 n3 c4, .slice A6 n7 c8, .slice A10 n11 c12, .slice A14 n15 c16, .slice A18 n19 c20, .slice A22 n23 c24, .slice A26 n27 c28, .slice A30 n31 c32, .slice A34 n35 c36, .slice A38 n39 c40, .slice A42 n43 c44]]) (perm_of_idx [0] [1] rfl rfl (by kernel_rfl)) (sels [1] rfl)
      have hMi : ∀ e ∈ ([.own (.slice none 0 0) 39 7 0 (([] : List api_Node).flatMap enc_api_Node)] : List Ent), e ∈ ([.own (.slice none 0 0) 39 7 0 (([] : List api_Node).flatMap enc_api_Node), .box gb57 58 [.string x1.name, .slice A2 n3 c4, .slice A6 n7 c8, .slice A10 n11 c12, .slice A14 n15 c16, .slice A18 n19 c20, .slice A22 n23 c24, .slice A26 n27 c28, .slice A30 n31 c32, .slice A34 n35 c36, .slice A38 n39 c40, .slice A42 n43 c44]] : List Ent) := sels [0] rfl
      show tree_Reduce_R w F  r (.returned (packV [.slice none 0 0])) wr
      rw [h]
      exact ⟨none, 0, 0, rfl, hMr, (Ow.nil (z := w.heap.size))⟩
    · have h := if_neg' hp62 h
      refine g_false (c := tree_Reduce_c6) rfl _ rfl ((bf hp62)) ?_
      refine g_skip (c := tree_Reduce_c8) rfl ?_
      refine g_seq (c := tree_Reduce_c4) rfl ?_
      refine g_region (c := tree_Reduce_c11) rfl rfl ?_
      refine wl_v 0 rfl (v_fldB fo_58_2 rfl) gn rfl ?_
      refine wl_v 1 rfl (v_fldB fo_47_2 rfl) gn rfl ?_
      refine wl_v 2 rfl (v_ldB1 0 ld_45 rfl rfl rfl) gn rfl ?_
      refine wl_v 3 rfl (v_move rfl) gn rfl ?_
      obtain ⟨hb63, h⟩ := h
      obtain ⟨ce65, hK66, hr64⟩ := Rw.read (s := St w []) h17 hb63
      obtain ⟨A67, n68, c69, rfl, h70⟩ := hK66
      refine wl_v 4 rfl (v_idxR (s := St w []) slE_45 rfl rfl h17 hb63) gn rfl ?_
      refine wl_v 5 rfl (v_ldA (St w []) ld_107 rfl hr64 rfl (me 1 rfl)) gn rfl ?_
      refine wl_s 6 rfl (s_alloc [.int .i64 0, .slice none 0 0] zr_107 rfl fun gb71 => ?_) gn
      refine wl_s 7 rfl (s_stB (vs := [.int .i64 ((ix x1.gram.prods x46).lhs), .slice A67 n68 c69]) (cs' := [.int .i64 ((ix x1.gram.prods x46).lhs), .slice A67 n68 c69]) (M' := [.box gb71 107 [.int .i64 ((ix x1.gram.prods x46).lhs), .slice A67 n68 c69], .box gb57 58 [.string x1.name, .slice A2 n3 c4, .slice A6 n7 c8, .slice A10 n11 c12, .slice A14 n15 c16, .slice A18 n19 c20, .slice A22 n23 c24, .slice A26 n27 c28, .slice A30 n31 c32, .slice A34 n35 c36, .slice A38 n39 c40, .slice A42 n43 c44]]) 0 sz_107 rfl rfl rfl rfl rfl rfl rfl rfl rfl ?_) gn
      refine w_end 8 rfl ?_
      refine g_seq (c := tree_Reduce_c12) rfl ?_
      refine g_seq (c := tree_Reduce_c13) rfl ?_
      have j2 : ∀ (x75 : Bool) (h : tree_Reduce_j2 x1 x46 x47 x52 x75 r) , G (tree_Reduce_C w F r) [.code tree_Reduce_c16, .code tree_Reduce_c14] [(2, .slice A48 n49 c50), (3, .slice A53 n54 c55), (4, .pointer (some ⟨gb57, 0, none⟩)), (9, .pointer (some ⟨gb71, 0, none⟩)), (43, .bool x75)] [.box gb71 107 [.int .i64 ((ix x1.gram.prods x46).lhs), .slice A67 n68 c69], .box gb57 58 [.string x1.name, .slice A2 n3 c4, .slice A6 n7 c8, .slice A10 n11 c12, .slice A14 n15 c16, .slice A18 n19 c20, .slice A22 n23 c24, .slice A26 n27 c28, .slice A30 n31 c32, .slice A34 n35 c36, .slice A38 n39 c40, .slice A42 n43 c44]] [Sm w.heap.size F w [], St w []] := by
        intro x75 h
        unfold tree_Reduce_j2 at h
        by_cases hp76 : x75 = true
        · have h := if_pos' hp76 h
          refine g_true (c := tree_Reduce_c16) rfl _ rfl (hp76) ?_
          refine g_seq (c := tree_Reduce_c17) rfl ?_
          refine g_region (c := tree_Reduce_c19) rfl rfl ?_
          refine wl_v 0 rfl (v_assign rfl) gn rfl ?_
          refine w_end 1 rfl ?_
          refine g_nil 39 7 ?_
          refine g_retR (c := tree_Reduce_c20) [.slice none 0 0] rfl Try.func32 rfl (.tmp rfl (.nil)) fun wr hLr => ?_
          have hMr : B.Loc w wr [.own (.slice none 0 0) 39 7 0 (([] : List api_Node).flatMap enc_api_Node)] [St w []] := hLr.pick (rest := [.box gb71 107 [.int .i64 ((ix x1.gram.prods x46).lhs), .slice A67 n68 c69], .box gb57 58 [.string x1.name, .slice A2 n3 c4, .slice A6 n7 c8, .slice A10 n11 c12, .slice A14 n15 c16, .slice A18 n19 c20, .slice A22 n23 c24, .slice A26 n27 c28, .slice A30 n31 c32, .slice A34 n35 c36, .slice A38 n39 c40, .slice A42 n43 c44]]) (perm_of_idx [0] [1, 2] rfl rfl (by kernel_rfl)) (sels [1] rfl)
          have hMi : ∀ e ∈ ([.own (.slice none 0 0) 39 7 0 (([] : List api_Node).flatMap enc_api_Node)] : List Ent), e ∈ ([.own (.slice none 0 0) 39 7 0 (([] : List api_Node).flatMap enc_api_Node), .box gb71 107 [.int .i64 ((ix x1.gram.prods x46).lhs), .slice A67 n68 c69], .box gb57 58 [.string x1.name, .slice A2 n3 c4, .slice A6 n7 c8, .slice A10 n11 c12, .slice A14 n15 c16, .slice A18 n19 c20, .slice A22 n23 c24, .slice A26 n27 c28, .slice A30 n31 c32, .slice A34 n35 c36, .slice A38 n39 c40, .slice A42 n43 c44]] : List Ent) := sels [0] rfl
          show tree_Reduce_R w F  r (.returned (packV [.slice none 0 0])) wr
          rw [h]
          exact ⟨none, 0, 0, rfl, hMr, (Ow.nil (z := w.heap.size))⟩
        · have h := if_neg' hp76 h
          refine g_false (c := tree_Reduce_c16) rfl _ rfl ((bf hp76)) ?_
          refine g_skip (c := tree_Reduce_c18) rfl ?_
          refine g_seq (c := tree_Reduce_c14) rfl ?_
          refine g_region (c := tree_Reduce_c21) rfl rfl ?_
          refine wl_v 0 rfl (v_assign rfl) gn rfl ?_
          refine w_end 1 rfl ?_
          refine g_seq (c := tree_Reduce_c22) rfl ?_
          refine g_seq (c := tree_Reduce_c23) rfl ?_
          refine g_region (c := tree_Reduce_c25) rfl rfl ?_
          refine wl_v 0 rfl (v_fldB fo_107_1 rfl) gn rfl ?_
          refine wl_v 1 rfl (v_ldB1 0 ld_105 rfl rfl rfl) gn rfl ?_
          refine wl_v 2 rfl (v_lenQ un_105 rfl h70.hq) gn rfl ?_
          refine wl_v 3 rfl (v_move rfl) gn rfl ?_
          refine w_end 4 rfl ?_
          refine g_block (c := tree_Reduce_c26) rfl ?_
          refine g_loop (c := tree_Reduce_c27) rfl ?_
          have key3 : ∀ s, Rounds (fun (s : (List api_Node) × Int) o => tree_Reduce_b3 x1 x46 x47 x52 s.1 s.2 o) s r → (fun (s : (List api_Node) × Int) => ∀ (A286 : Option Addr) (n287 : Nat) (c288 : Nat) (h289 : Ow w.heap.size A286 n287 c288 s.1), G (tree_Reduce_C w F r) [.code tree_Reduce_c28, .inLoop tree_Reduce_c28, .inBlock 0, .code tree_Reduce_c24] [(2, .slice A48 n49 c50), (3, .slice A53 n54 c55), (4, .pointer (some ⟨gb57, 0, none⟩)), (9, .pointer (some ⟨gb71, 0, none⟩)), (10, .slice A286 n287 c288), (45, .slice A67 n68 c69), (46, .int .i64 (((ix x1.gram.prods x46).rhs).length : Int)), (47, .int .i64 s.2)] [.own (.slice A286 n287 c288) 39 7 n287 (s.1.flatMap enc_api_Node), .box gb71 107 [.int .i64 ((ix x1.gram.prods x46).lhs), .slice A67 n68 c69], .box gb57 58 [.string x1.name, .slice A2 n3 c4, .slice A6 n7 c8, .slice A10 n11 c12, .slice A14 n15 c16, .slice A18 n19 c20, .slice A22 n23 c24, .slice A26 n27 c28, .slice A30 n31 c32, .slice A34 n35 c36, .slice A38 n39 c40, .slice A42 n43 c44]] [Sm w.heap.size F w [], St w []]) s := by
            intro s hs
            refine Rounds.ind (mot := (fun (s : (List api_Node) × Int) => ∀ (A286 : Option Addr) (n287 : Nat) (c288 : Nat) (h289 : Ow w.heap.size A286 n287 c288 s.1), G (tree_Reduce_C w F r) [.code tree_Reduce_c28, .inLoop tree_Reduce_c28, .inBlock 0, .code tree_Reduce_c24] [(2, .slice A48 n49 c50), (3, .slice A53 n54 c55), (4, .pointer (some ⟨gb57, 0, none⟩)), (9, .pointer (some ⟨gb71, 0, none⟩)), (10, .slice A286 n287 c288), (45, .slice A67 n68 c69), (46, .int .i64 (((ix x1.gram.prods x46).rhs).length : Int)), (47, .int .i64 s.2)] [.own (.slice A286 n287 c288) 39 7 n287 (s.1.flatMap enc_api_Node), .box gb71 107 [.int .i64 ((ix x1.gram.prods x46).lhs), .slice A67 n68 c69], .box gb57 58 [.string x1.name, .slice A2 n3 c4, .slice A6 n7 c8, .slice A10 n11 c12, .slice A14 n15 c16, .slice A18 n19 c20, .slice A22 n23 c24, .slice A26 n27 c28, .slice A30 n31 c32, .slice A34 n35 c36, .slice A38 n39 c40, .slice A42 n43 c44]] [Sm w.heap.size F w [], St w []])) ?_ hs
            clear hs s
            intro s o1 h hO1
            obtain ⟨x285, x290⟩ := s
            show ∀ (A286 : Option Addr) (n287 : Nat) (c288 : Nat) (h289 : Ow w.heap.size A286 n287 c288 x285), G (tree_Reduce_C w F r) [.code tree_Reduce_c28, .inLoop tree_Reduce_c28, .inBlock 0, .code tree_Reduce_c24] [(2, .slice A48 n49 c50), (3, .slice A53 n54 c55), (4, .pointer (some ⟨gb57, 0, none⟩)), (9, .pointer (some ⟨gb71, 0, none⟩)), (10, .slice A286 n287 c288), (45, .slice A67 n68 c69), (46, .int .i64 (((ix x1.gram.prods x46).rhs).length : Int)), (47, .int .i64 x290)] [.own (.slice A286 n287 c288) 39 7 n287 (x285.flatMap enc_api_Node), .box gb71 107 [.int .i64 ((ix x1.gram.prods x46).lhs), .slice A67 n68 c69], .box gb57 58 [.string x1.name, .slice A2 n3 c4, .slice A6 n7 c8, .slice A10 n11 c12, .slice A14 n15 c16, .slice A18 n19 c20, .slice A22 n23 c24, .slice A26 n27 c28, .slice A30 n31 c32, .slice A34 n35 c36, .slice A38 n39 c40, .slice A42 n43 c44]] [Sm w.heap.size F w [], St w []]
            intro A286 n287 c288 h289
            have h : tree_Reduce_b3 x1 x46 x47 x52 x285 x290 o1 := h
            unfold tree_Reduce_b3 at h
            refine g_seq (c := tree_Reduce_c28) rfl ?_
            refine g_region (c := tree_Reduce_c29) rfl rfl ?_
            refine wl_v 0 rfl (v_bin rfl rfl rfl) gn rfl ?_
            refine w_end 1 rfl ?_
            refine g_seq (c := tree_Reduce_c30) rfl ?_
            by_cases hp475 : x290 < (((ix x1.gram.prods x46).rhs).length : Int)
            · have h := if_pos' hp475 h
              refine g_true (c := tree_Reduce_c31) rfl _ rfl ((decide_eq_true hp475)) ?_
              refine g_skip (c := tree_Reduce_c33) rfl ?_
              refine g_seq (c := tree_Reduce_c32) rfl ?_
              refine g_block (c := tree_Reduce_c35) rfl ?_
              refine g_seq (c := tree_Reduce_c37) rfl ?_
              refine g_region (c := tree_Reduce_c38) rfl rfl ?_
              refine wl_v 0 rfl (v_move rfl) gn rfl ?_
              obtain ⟨hb476, h⟩ := h
              have hr477 := Rw.readF (s := St w []) (hl := hl_api_Ref) (h1 := h1_api_Ref) h70 hb476
              refine wl_v 1 rfl (v_idxR (s := St w []) slE_105 rfl rfl h70 hb476) gn rfl ?_
              refine wl_v 2 rfl (v_ldA (St w []) ld_104 rfl hr477 rfl (me 1 rfl)) gn rfl ?_
              refine wl_s 3 rfl (s_alloc [.int .i64 0, .string (⟨#[]⟩ : ByteArray), .string (⟨#[]⟩ : ByteArray)] zr_104 rfl fun gb478 => ?_) gn
              refine wl_v 4 rfl (v_assign rfl) gn rfl ?_
              refine wl_s 5 rfl (s_stB (vs := [.int .i64 ((ix ((ix x1.gram.prods x46).rhs) x290).sym), .string ((ix ((ix x1.gram.prods x46).rhs) x290).field), .string ((ix ((ix x1.gram.prods x46).rhs) x290).as)]) (cs' := [.int .i64 ((ix ((ix x1.gram.prods x46).rhs) x290).sym), .string ((ix ((ix x1.gram.prods x46).rhs) x290).field), .string ((ix ((ix x1.gram.prods x46).rhs) x290).as)]) (M' := [.box gb478 104 [.int .i64 ((ix ((ix x1.gram.prods x46).rhs) x290).sym), .string ((ix ((ix x1.gram.prods x46).rhs) x290).field), .string ((ix ((ix x1.gram.prods x46).rhs) x290).as)], .own (.slice A286 n287 c288) 39 7 n287 (x285.flatMap enc_api_Node), .box gb71 107 [.int .i64 ((ix x1.gram.prods x46).lhs), .slice A67 n68 c69], .box gb57 58 [.string x1.name, .slice A2 n3 c4, .slice A6 n7 c8, .slice A10 n11 c12, .slice A14 n15 c16, .slice A18 n19 c20, .slice A22 n23 c24, .slice A26 n27 c28, .slice A30 n31 c32, .slice A34 n35 c36, .slice A38 n39 c40, .slice A42 n43 c44]]) 0 sz_104 rfl rfl rfl rfl rfl rfl rfl rfl rfl ?_) gn
              refine w_end 6 rfl ?_
              refine g_seq (c := tree_Reduce_c39) rfl ?_
              refine g_seq (c := tree_Reduce_c40) rfl ?_
              refine g_region (c := tree_Reduce_c42) rfl rfl ?_
              refine wl_v 0 rfl (v_move rfl) gn rfl ?_
              refine wl_v 1 rfl (v_move rfl) gn rfl ?_
              obtain ⟨hb480, h⟩ := h
              obtain ⟨ce482, hK483, hr481⟩ := Rw.read (s := St w []) h51 hb480
              obtain ⟨A484, n485, c486, rfl, h487⟩ := hK483
              refine wl_v 2 rfl (v_idxR (s := St w []) slE_59 rfl rfl h51 hb480) gn rfl ?_
              refine wl_v 3 rfl (v_ldA1 (kk := (x290 : Int).toNat * 1) (j := 0) (St w []) ld_22 rfl hr481 rfl (me 1 rfl)) gn rfl ?_
              obtain ⟨r491, hv492, h⟩ := h
              refine wl_s 4 rfl (s_call [.slice A484 n485 c486] rfl Try.func37 rfl rfl rfl fun w488 hL489 => ?_) gn
              have hp490 : List.Perm ([.box gb478 104 [.int .i64 ((ix ((ix x1.gram.prods x46).rhs) x290).sym), .string ((ix ((ix x1.gram.prods x46).rhs) x290).field), .string ((ix ((ix x1.gram.prods x46).rhs) x290).as)], .own (.slice A286 n287 c288) 39 7 n287 (x285.flatMap enc_api_Node), .box gb71 107 [.int .i64 ((ix x1.gram.prods x46).lhs), .slice A67 n68 c69], .box gb57 58 [.string x1.name, .slice A2 n3 c4, .slice A6 n7 c8, .slice A10 n11 c12, .slice A14 n15 c16, .slice A18 n19 c20, .slice A22 n23 c24, .slice A26 n27 c28, .slice A30 n31 c32, .slice A34 n35 c36, .slice A38 n39 c40, .slice A42 n43 c44]] : List Ent) (([] : List Ent) ++ ([.box gb478 104 [.int .i64 ((ix ((ix x1.gram.prods x46).rhs) x290).sym), .string ((ix ((ix x1.gram.prods x46).rhs) x290).field), .string ((ix ((ix x1.gram.prods x46).rhs) x290).as)], .own (.slice A286 n287 c288) 39 7 n287 (x285.flatMap enc_api_Node), .box gb71 107 [.int .i64 ((ix x1.gram.prods x46).lhs), .slice A67 n68 c69], .box gb57 58 [.string x1.name, .slice A2 n3 c4, .slice A6 n7 c8, .slice A10 n11 c12, .slice A14 n15 c16, .slice A18 n19 c20, .slice A22 n23 c24, .slice A26 n27 c28, .slice A30 n31 c32, .slice A34 n35 c36, .slice A38 n39 c40, .slice A42 n43 c44]] : List Ent)) := perm_of_idx [] [0, 1, 2, 3] rfl rfl (by kernel_rfl)
              refine Calls.mono (tree_Roots_calls w488 (Fl ([] : List Snap)) (ix x47 x290) A484 n485 c486 (Rw.mono h487 (hL489.toSt hp490 (me 1 rfl))) (hL489.hFl (Sl := ([] : List Snap)) hp490 (sels [] rfl)) (hL489.into hp490 (Fl ([] : List Snap))) r491 hv492) ?_
              rintro _ w493 ⟨rfl, hM494⟩
              have hL495 := hL489.call hp490 hM494
              refine ⟨_, _, _, rfl, hL495, ?_⟩
              refine wl_v 5 rfl (v_bin rfl rfl rfl) gn rfl ?_
              refine w_end 6 rfl ?_
              by_cases hp496 : r491 < 0
              · have h := if_pos' hp496 h
                refine g_true (c := tree_Reduce_c43) rfl _ rfl ((decide_eq_true hp496)) ?_
                refine g_seq (c := tree_Reduce_c44) rfl ?_
                refine g_region (c := tree_Reduce_c46) rfl rfl ?_
                refine wl_v 0 rfl (v_assign rfl) gn rfl ?_
                refine w_end 1 rfl ?_
                refine g_nil 39 7 ?_
                have h := Out.inr hO1 h
                refine g_retR (c := tree_Reduce_c47) [.slice none 0 0] rfl Try.func32 rfl (.tmp rfl (.nil)) fun wr hLr => ?_
                have hMr : B.Loc w wr [.own (.slice none 0 0) 39 7 0 (([] : List api_Node).flatMap enc_api_Node)] [St w []] := hLr.pick (rest := [.box gb478 104 [.int .i64 ((ix ((ix x1.gram.prods x46).rhs) x290).sym), .string ((ix ((ix x1.gram.prods x46).rhs) x290).field), .string ((ix ((ix x1.gram.prods x46).rhs) x290).as)], .own (.slice A286 n287 c288) 39 7 n287 (x285.flatMap enc_api_Node), .box gb71 107 [.int .i64 ((ix x1.gram.prods x46).lhs), .slice A67 n68 c69], .box gb57 58 [.string x1.name, .slice A2 n3 c4, .slice A6 n7 c8, .slice A10 n11 c12, .slice A14 n15 c16, .slice A18 n19 c20, .slice A22 n23 c24, .slice A26 n27 c28, .slice A30 n31 c32, .slice A34 n35 c36, .slice A38 n39 c40, .slice A42 n43 c44]]) (perm_of_idx [0] [1, 2, 3, 4] rfl rfl (by kernel_rfl)) (sels [1] rfl)
                have hMi : ∀ e ∈ ([.own (.slice none 0 0) 39 7 0 (([] : List api_Node).flatMap enc_api_Node)] : List Ent), e ∈ ([.own (.slice none 0 0) 39 7 0 (([] : List api_Node).flatMap enc_api_Node), .box gb478 104 [.int .i64 ((ix ((ix x1.gram.prods x46).rhs) x290).sym), .string ((ix ((ix x1.gram.prods x46).rhs) x290).field), .string ((ix ((ix x1.gram.prods x46).rhs) x290).as)], .own (.slice A286 n287 c288) 39 7 n287 (x285.flatMap enc_api_Node), .box gb71 107 [.int .i64 ((ix x1.gram.prods x46).lhs), .slice A67 n68 c69], .box gb57 58 [.string x1.name, .slice A2 n3 c4, .slice A6 n7 c8, .slice A10 n11 c12, .slice A14 n15 c16, .slice A18 n19 c20, .slice A22 n23 c24, .slice A26 n27 c28, .slice A30 n31 c32, .slice A34 n35 c36, .slice A38 n39 c40, .slice A42 n43 c44]] : List Ent) := sels [0] rfl
                show tree_Reduce_R w F  r (.returned (packV [.slice none 0 0])) wr
                rw [h]
                exact ⟨none, 0, 0, rfl, hMr, (Ow.nil (z := w.heap.size))⟩
              · have h := if_neg' hp496 h
                refine g_false (c := tree_Reduce_c43) rfl _ rfl ((decide_eq_false hp496)) ?_
                refine g_skip (c := tree_Reduce_c45) rfl ?_
                obtain ⟨hb504, h⟩ := h
                obtain ⟨r509, hv510, h⟩ := h
                obtain ⟨x522, hv523, h⟩ := h
                obtain ⟨hb524, h⟩ := h
                have hns : Region.noSelect (Code.ops tree_Reduce_c41) = true := by kernel_rfl
                refine g_drawF (c := tree_Reduce_c41) [.box gb478 104 [.int .i64 ((ix ((ix x1.gram.prods x46).rhs) x290).sym), .string ((ix ((ix x1.gram.prods x46).rhs) x290).field), .string ((ix ((ix x1.gram.prods x46).rhs) x290).as)], .own (.slice A286 n287 c288) 39 7 n287 (x285.flatMap enc_api_Node), .box gb71 107 [.int .i64 ((ix x1.gram.prods x46).lhs), .slice A67 n68 c69], .box gb57 58 [.string x1.name, .slice A2 n3 c4, .slice A6 n7 c8, .slice A10 n11 c12, .slice A14 n15 c16, .slice A18 n19 c20, .slice A22 n23 c24, .slice A26 n27 c28, .slice A30 n31 c32, .slice A34 n35 c36, .slice A38 n39 c40, .slice A42 n43 c44]] [Sm w.heap.size F w [], St w []] [13, 14] 15 rfl rfl mix rfl (.cons_cons _ (.cons_cons _ (.cons_cons _ (.cons_cons _ (.slnil))))) (sels [0, 1] rfl) ?_
                refine wf_v 0 rfl (v_move rfl) gn rfl hns (by kernel_rfl) (by kernel_rfl) (by kernel_rfl) rfl ?_
                refine wf_v 1 rfl (v_ldB [.string x1.name, .slice A2 n3 c4, .slice A6 n7 c8, .slice A10 n11 c12, .slice A14 n15 c16, .slice A18 n19 c20, .slice A22 n23 c24, .slice A26 n27 c28, .slice A30 n31 c32, .slice A34 n35 c36, .slice A38 n39 c40, .slice A42 n43 c44] 3 ld_58 rfl rfl rfl rfl) gn rfl hns (by kernel_rfl) (by kernel_rfl) (by kernel_rfl) rfl ?_
                refine wf_v 2 rfl (v_ldB [.int .i64 ((ix ((ix x1.gram.prods x46).rhs) x290).sym), .string ((ix ((ix x1.gram.prods x46).rhs) x290).field), .string ((ix ((ix x1.gram.prods x46).rhs) x290).as)] 0 ld_104 rfl rfl rfl rfl) gn rfl hns (by kernel_rfl) (by kernel_rfl) (by kernel_rfl) rfl ?_
                refine wf_v 3 rfl (v_move rfl) gn rfl hns (by kernel_rfl) (by kernel_rfl) (by kernel_rfl) rfl ?_
                refine wf_v 4 rfl (v_move rfl) gn rfl hns (by kernel_rfl) (by kernel_rfl) (by kernel_rfl) rfl ?_
                obtain ⟨ce557, hK558, hr556⟩ := Rw.read (s := St w []) h51 hb480
                obtain ⟨A559, n560, c561, rfl, h562⟩ := hK558
                refine wf_v 5 rfl (v_idxR (s := St w []) slE_59 rfl rfl h51 hb480) gn rfl hns (by kernel_rfl) (by kernel_rfl) (by kernel_rfl) rfl ?_
                refine wf_v 6 rfl (v_ldA1 (kk := (x290 : Int).toNat * 1) (j := 0) (St w []) ld_22 rfl hr556 rfl (me 1 rfl)) gn rfl hns (by kernel_rfl) (by kernel_rfl) (by kernel_rfl) rfl ?_
                refine wf_v 7 rfl (v_move rfl) gn rfl hns (by kernel_rfl) (by kernel_rfl) (by kernel_rfl) rfl ?_
                refine wf_v 8 rfl (v_move rfl) gn rfl hns (by kernel_rfl) (by kernel_rfl) (by kernel_rfl) rfl ?_
                refine wf_v 9 rfl (v_bin rfl rfl rfl) gn rfl hns (by kernel_rfl) (by kernel_rfl) (by kernel_rfl) rfl ?_
                have hr563 := Rw.readF (s := St w []) (hl := (hlI .i64)) (h1 := (hone_int .i64)) h56 hb504
                refine wf_v 10 rfl (v_idxR (s := St w []) slE_23 rfl rfl h56 hb504) gn rfl hns (by kernel_rfl) (by kernel_rfl) (by kernel_rfl) rfl ?_
                refine wf_v 11 rfl (v_ldA1 (kk := (w64 (x290 + 1) : Int).toNat * 1) (j := 0) (St w []) ld_3 rfl hr563 rfl (me 1 rfl)) gn rfl hns (by kernel_rfl) (by kernel_rfl) (by kernel_rfl) rfl ?_
                refine wf_all [12] (by kernel_rfl) rfl ⟨on_s 12 rfl gn rfl (s_call [.agg #[.string x1.name, .slice A2 n3 c4, .slice A6 n7 c8, .slice A10 n11 c12, .slice A14 n15 c16, .slice A18 n19 c20, .slice A22 n23 c24, .slice A26 n27 c28, .slice A30 n31 c32, .slice A34 n35 c36, .slice A38 n39 c40, .slice A42 n43 c44], .agg #[.int .i64 ((ix ((ix x1.gram.prods x46).rhs) x290).sym), .string ((ix ((ix x1.gram.prods x46).rhs) x290).field), .string ((ix ((ix x1.gram.prods x46).rhs) x290).as)], .slice A559 n560 c561, .int .i64 (ix x52 (w64 (x290 + 1)))] rfl Try.func58 rfl rfl rfl fun w574 hL575 => ?_), trivial⟩
                have hp576 : List.Perm ([.box gb478 104 [.int .i64 ((ix ((ix x1.gram.prods x46).rhs) x290).sym), .string ((ix ((ix x1.gram.prods x46).rhs) x290).field), .string ((ix ((ix x1.gram.prods x46).rhs) x290).as)], .own (.slice A286 n287 c288) 39 7 n287 (x285.flatMap enc_api_Node), .box gb71 107 [.int .i64 ((ix x1.gram.prods x46).lhs), .slice A67 n68 c69], .box gb57 58 [.string x1.name, .slice A2 n3 c4, .slice A6 n7 c8, .slice A10 n11 c12, .slice A14 n15 c16, .slice A18 n19 c20, .slice A22 n23 c24, .slice A26 n27 c28, .slice A30 n31 c32, .slice A34 n35 c36, .slice A38 n39 c40, .slice A42 n43 c44]] : List Ent) (([] : List Ent) ++ ([.box gb478 104 [.int .i64 ((ix ((ix x1.gram.prods x46).rhs) x290).sym), .string ((ix ((ix x1.gram.prods x46).rhs) x290).field), .string ((ix ((ix x1.gram.prods x46).rhs) x290).as)], .own (.slice A286 n287 c288) 39 7 n287 (x285.flatMap enc_api_Node), .box gb71 107 [.int .i64 ((ix x1.gram.prods x46).lhs), .slice A67 n68 c69], .box gb57 58 [.string x1.name, .slice A2 n3 c4, .slice A6 n7 c8, .slice A10 n11 c12, .slice A14 n15 c16, .slice A18 n19 c20, .slice A22 n23 c24, .slice A26 n27 c28, .slice A30 n31 c32, .slice A34 n35 c36, .slice A38 n39 c40, .slice A42 n43 c44]] : List Ent)) := perm_of_idx [] [0, 1, 2, 3] rfl rfl (by kernel_rfl)
                refine Calls.mono (tree_part_calls w574 (Fl ([] : List Snap)) x1 (ix ((ix x1.gram.prods x46).rhs) x290) (ix x47 x290) (ix x52 (w64 (x290 + 1))) A2 n3 c4 A6 n7 c8 A10 n11 c12 A14 n15 c16 A18 n19 c20 A22 n23 c24 A26 n27 c28 A30 n31 c32 A34 n35 c36 A38 n39 c40 A42 n43 c44 A559 n560 c561 (Rw.mono h5 (hL575.toSt hp576 (me 1 rfl))) (Rw.mono h9 (hL575.toSt hp576 (me 1 rfl))) (Rw.mono h13 (hL575.toSt hp576 (me 1 rfl))) (Rw.mono h17 (hL575.toSt hp576 (me 1 rfl))) (Rw.mono h21 (hL575.toSt hp576 (me 1 rfl))) (Rw.mono h25 (hL575.toSt hp576 (me 1 rfl))) (Rw.mono h29 (hL575.toSt hp576 (me 1 rfl))) (Rw.mono h33 (hL575.toSt hp576 (me 1 rfl))) (Rw.mono h37 (hL575.toSt hp576 (me 1 rfl))) (Rw.mono h41 (hL575.toSt hp576 (me 1 rfl))) (Rw.mono h45 (hL575.toSt hp576 (me 1 rfl))) (Rw.mono h562 (hL575.toSt hp576 (me 1 rfl))) (hL575.hFl (Sl := ([] : List Snap)) hp576 (sels [] rfl)) (hL575.into hp576 (Fl ([] : List Snap))) r509 hv510) ?_
                rintro _ w581 ⟨A577, n578, c579, rfl, hM582, h580⟩
                have hL583 := hL575.call hp576 hM582
                refine ⟨_, _, _, rfl, hL583, ?_⟩
                refine ⟨sels [1, 2, 3, 4] rfl, sels [0, 1] rfl, ?_⟩
                refine wf_all [13] (by kernel_rfl) rfl ⟨on_l 13 rfl gn rfl (s_app (zs := x522) (cells' := x522.flatMap enc_api_Node) 2 ap_22 rfl rfl rfl h289 (Nat.le_refl _) (Src.ownF (hl := hl_api_Node) (h1 := h1_api_Node) 0 rfl (Ow.weak hL575.env.size h580)) (by rw [hv523, List.flatMap_append] <;> rfl) (app_len hv523 (Ow.weak hL575.env.size h580).hq) hb524 rfl rfl fun A584 c585 h586 => ?_), trivial⟩
                unfold NxL
                refine wf_all [14] (by kernel_rfl) rfl ⟨on_l 14 rfl gn rfl (s_val (v_assign rfl) rfl ?_), trivial⟩
                unfold NxL
                refine wf_end (by kernel_rfl) ?_
                refine g_inBlock ?_
                refine g_region (c := tree_Reduce_c36) rfl rfl ?_
                refine wl_v 0 rfl (v_bin rfl rfl rfl) gn rfl ?_
                refine wl_v 1 rfl (v_move rfl) gn rfl ?_
                refine w_end 2 rfl ?_
                refine g_inLoop ?_
                have ih := Out.inl hO1 h
                exact g_go [0, 1] (ih A584 (n287 + n578) c585 h586) ⟨rfl, rfl, rfl, rfl, rfl, rfl, rfl, rfl, trivial⟩ (.cons _ (.cons _ (.cons_cons _ (.cons_cons _ (.cons_cons _ (.slnil)))))) rfl
            · have h := if_neg' hp475 h
              refine g_false (c := tree_Reduce_c31) rfl _ rfl ((decide_eq_false hp475)) ?_
              refine g_exit (c := tree_Reduce_c34) [.code tree_Reduce_c24] rfl rfl ?_
              refine g_seq (c := tree_Reduce_c24) rfl ?_
              refine g_seq (c := tree_Reduce_c48) rfl ?_
              have j4 : ∀ (x592 : Bool) (h : tree_Reduce_j4 x1 x46 x52 x285 x592 o1) , G (tree_Reduce_C w F r) [.code tree_Reduce_c51, .code tree_Reduce_c49] [(3, .slice A53 n54 c55), (4, .pointer (some ⟨gb57, 0, none⟩)), (9, .pointer (some ⟨gb71, 0, none⟩)), (10, .slice A286 n287 c288), (95, .bool x592)] [.own (.slice A286 n287 c288) 39 7 n287 (x285.flatMap enc_api_Node), .box gb71 107 [.int .i64 ((ix x1.gram.prods x46).lhs), .slice A67 n68 c69], .box gb57 58 [.string x1.name, .slice A2 n3 c4, .slice A6 n7 c8, .slice A10 n11 c12, .slice A14 n15 c16, .slice A18 n19 c20, .slice A22 n23 c24, .slice A26 n27 c28, .slice A30 n31 c32, .slice A34 n35 c36, .slice A38 n39 c40, .slice A42 n43 c44]] [Sm w.heap.size F w [], St w []] := by
                intro x592 h
                unfold tree_Reduce_j4 at h
                by_cases hp593 : x592 = true
                · have h := if_pos' hp593 h
                  refine g_true (c := tree_Reduce_c51) rfl _ rfl (hp593) ?_
                  refine g_seq (c := tree_Reduce_c52) rfl ?_
                  obtain ⟨hb594, h⟩ := h
                  obtain ⟨hb596, h⟩ := h
                  obtain ⟨r601, hv602, h⟩ := h
                  have hns : Region.noSelect (Code.ops tree_Reduce_c54) = true := by kernel_rfl
                  refine g_drawF (c := tree_Reduce_c54) [.own (.slice A286 n287 c288) 39 7 n287 (x285.flatMap enc_api_Node), .box gb71 107 [.int .i64 ((ix x1.gram.prods x46).lhs), .slice A67 n68 c69], .box gb57 58 [.string x1.name, .slice A2 n3 c4, .slice A6 n7 c8, .slice A10 n11 c12, .slice A14 n15 c16, .slice A18 n19 c20, .slice A22 n23 c24, .slice A26 n27 c28, .slice A30 n31 c32, .slice A34 n35 c36, .slice A38 n39 c40, .slice A42 n43 c44]] [Sm w.heap.size F w [], St w []] [] 17 rfl rfl mix rfl (.cons_cons _ (.cons_cons _ (.cons_cons _ (.slnil)))) (sels [0, 1] rfl) ?_
                  refine wf_v 0 rfl (v_fldB fo_58_2 rfl) gn rfl hns (by kernel_rfl) (by kernel_rfl) rfl rfl ?_
                  refine wf_v 1 rfl (v_fldB fo_47_1 rfl) gn rfl hns (by kernel_rfl) (by kernel_rfl) rfl rfl ?_
                  refine wf_v 2 rfl (v_ldB1 2 ld_44 rfl rfl rfl) gn rfl hns (by kernel_rfl) (by kernel_rfl) rfl rfl ?_
                  refine wf_v 3 rfl (v_fldB fo_107_0 rfl) gn rfl hns (by kernel_rfl) (by kernel_rfl) rfl rfl ?_
                  refine wf_v 4 rfl (v_ldB1 1 ld_3 rfl rfl rfl) gn rfl hns (by kernel_rfl) (by kernel_rfl) rfl rfl ?_
                  have hr633 := Rw.readF (s := St w []) (hl := hl_api_Sym) (h1 := h1_api_Sym) h13 hb594
                  refine wf_v 5 rfl (v_idxR (s := St w []) slE_44 rfl rfl h13 hb594) gn rfl hns (by kernel_rfl) (by kernel_rfl) rfl rfl ?_
                  refine wf_v 6 rfl (v_fldA fo_74_0 rfl) gn rfl hns (by kernel_rfl) (by kernel_rfl) rfl rfl ?_
                  refine wf_v 7 rfl (v_ldA1 (kk := ((ix x1.gram.prods x46).lhs : Int).toNat * 2) (j := 0) (St w []) ld_9 rfl hr633 rfl (me 1 rfl)) gn rfl hns (by kernel_rfl) (by kernel_rfl) rfl rfl ?_
                  refine wf_v 8 rfl (v_move rfl) gn rfl hns (by kernel_rfl) (by kernel_rfl) rfl rfl ?_
                  refine wf_v 9 rfl (v_move rfl) gn rfl hns (by kernel_rfl) (by kernel_rfl) rfl rfl ?_
                  refine wf_v 10 rfl (v_fldB fo_107_1 rfl) gn rfl hns (by kernel_rfl) (by kernel_rfl) rfl rfl ?_
                  refine wf_v 11 rfl (v_ldB1 1 ld_105 rfl rfl rfl) gn rfl hns (by kernel_rfl) (by kernel_rfl) rfl rfl ?_
                  refine wf_v 12 rfl (v_lenQ un_105 rfl h70.hq) gn rfl hns (by kernel_rfl) (by kernel_rfl) rfl rfl ?_
                  have hr634 := Rw.readF (s := St w []) (hl := (hlI .i64)) (h1 := (hone_int .i64)) h56 hb596
                  refine wf_v 13 rfl (v_idxR (s := St w []) slE_23 rfl rfl h56 hb596) gn rfl hns (by kernel_rfl) (by kernel_rfl) rfl rfl ?_
                  refine wf_v 14 rfl (v_ldA1 (kk := ((((ix x1.gram.prods x46).rhs).length : Int) : Int).toNat * 1) (j := 0) (St w []) ld_3 rfl hr634 rfl (me 1 rfl)) gn rfl hns (by kernel_rfl) (by kernel_rfl) rfl rfl ?_
                  refine wf_all [15] (by kernel_rfl) rfl ⟨on_s 15 rfl gn rfl (s_call [.string ((ix x1.gram.syms ((ix x1.gram.prods x46).lhs)).name), .slice A286 n287 c288, .int .i64 (ix x52 (((ix x1.gram.prods x46).rhs).length : Int))] rfl Try.func59 rfl rfl rfl fun w645 hL646 => ?_), trivial⟩
                  have hp647 : List.Perm ([.own (.slice A286 n287 c288) 39 7 n287 (x285.flatMap enc_api_Node), .box gb71 107 [.int .i64 ((ix x1.gram.prods x46).lhs), .slice A67 n68 c69], .box gb57 58 [.string x1.name, .slice A2 n3 c4, .slice A6 n7 c8, .slice A10 n11 c12, .slice A14 n15 c16, .slice A18 n19 c20, .slice A22 n23 c24, .slice A26 n27 c28, .slice A30 n31 c32, .slice A34 n35 c36, .slice A38 n39 c40, .slice A42 n43 c44]] : List Ent) (([] : List Ent) ++ ([.own (.slice A286 n287 c288) 39 7 n287 (x285.flatMap enc_api_Node), .box gb71 107 [.int .i64 ((ix x1.gram.prods x46).lhs), .slice A67 n68 c69], .box gb57 58 [.string x1.name, .slice A2 n3 c4, .slice A6 n7 c8, .slice A10 n11 c12, .slice A14 n15 c16, .slice A18 n19 c20, .slice A22 n23 c24, .slice A26 n27 c28, .slice A30 n31 c32, .slice A34 n35 c36, .slice A38 n39 c40, .slice A42 n43 c44]] : List Ent)) := perm_of_idx [] [0, 1, 2] rfl rfl (by kernel_rfl)
                  refine Calls.mono (tree_over_calls w645 (Fl ([] : List Snap)) ((ix x1.gram.syms ((ix x1.gram.prods x46).lhs)).name) x285 (ix x52 (((ix x1.gram.prods x46).rhs).length : Int)) A286 n287 c288 (hL646.argO (dk := k_api_Node) hp647 [] rfl 0 rfl rfl h289 (me 0 rfl) (Cells.flat _)) (hL646.hFl (Sl := ([] : List Snap)) hp647 (sels [] rfl)) (hL646.into hp647 (Fl ([] : List Snap))) r601 hv602) ?_
                  rintro _ w652 ⟨A648, n649, c650, rfl, hM653, h651⟩
                  have hL654 := hL646.call hp647 hM653
                  refine ⟨_, _, _, rfl, hL654, ?_⟩
                  refine ⟨sels [1, 2, 3] rfl, sels [0, 1] rfl, ?_⟩
                  refine wf_v 16 rfl (v_assign rfl) gn rfl hns (by kernel_rfl) (by kernel_rfl) rfl rfl ?_
                  refine wf_end (by kernel_rfl) ?_
                  have h := Out.inr hO1 h
                  refine g_retR (c := tree_Reduce_c55) [.slice A648 n649 c650] rfl Try.func32 rfl (.tmp rfl (.nil)) fun wr hLr => ?_
                  have hMr : B.Loc w wr [.own (.slice A648 n649 c650) 39 7 n649 (r601.flatMap enc_api_Node)] [St w []] := hLr.pick (rest := [.own (.slice A286 n287 c288) 39 7 n287 (x285.flatMap enc_api_Node), .box gb71 107 [.int .i64 ((ix x1.gram.prods x46).lhs), .slice A67 n68 c69], .box gb57 58 [.string x1.name, .slice A2 n3 c4, .slice A6 n7 c8, .slice A10 n11 c12, .slice A14 n15 c16, .slice A18 n19 c20, .slice A22 n23 c24, .slice A26 n27 c28, .slice A30 n31 c32, .slice A34 n35 c36, .slice A38 n39 c40, .slice A42 n43 c44]]) (perm_of_idx [0] [1, 2, 3] rfl rfl (by kernel_rfl)) (sels [1] rfl)
                  have hMi : ∀ e ∈ ([.own (.slice A648 n649 c650) 39 7 n649 (r601.flatMap enc_api_Node)] : List Ent), e ∈ ([.own (.slice A648 n649 c650) 39 7 n649 (r601.flatMap enc_api_Node), .own (.slice A286 n287 c288) 39 7 n287 (x285.flatMap enc_api_Node), .box gb71 107 [.int .i64 ((ix x1.gram.prods x46).lhs), .slice A67 n68 c69], .box gb57 58 [.string x1.name, .slice A2 n3 c4, .slice A6 n7 c8, .slice A10 n11 c12, .slice A14 n15 c16, .slice A18 n19 c20, .slice A22 n23 c24, .slice A26 n27 c28, .slice A30 n31 c32, .slice A34 n35 c36, .slice A38 n39 c40, .slice A42 n43 c44]] : List Ent) := sels [0] rfl
                  show tree_Reduce_R w F  r (.returned (packV [.slice A648 n649 c650])) wr
                  rw [h]
                  exact ⟨A648, n649, c650, rfl, hMr, (Ow.weak hL646.env.size h651)⟩
                · have h := if_neg' hp593 h
                  refine g_false (c := tree_Reduce_c51) rfl _ rfl ((bf hp593)) ?_
                  refine g_skip (c := tree_Reduce_c53) rfl ?_
                  refine g_seq (c := tree_Reduce_c49) rfl ?_
                  refine g_region (c := tree_Reduce_c56) rfl rfl ?_
                  refine wl_v 0 rfl (v_move rfl) gn rfl ?_
                  refine wl_v 1 rfl (v_assign rfl) gn rfl ?_
                  refine w_end 2 rfl ?_
                  have h := Out.inr hO1 h
                  refine g_retR (c := tree_Reduce_c57) [.slice A286 n287 c288] rfl Try.func32 rfl (.tmp rfl (.nil)) fun wr hLr => ?_
                  have hMr : B.Loc w wr [.own (.slice A286 n287 c288) 39 7 n287 (x285.flatMap enc_api_Node)] [St w []] := hLr.pick (rest := [.box gb71 107 [.int .i64 ((ix x1.gram.prods x46).lhs), .slice A67 n68 c69], .box gb57 58 [.string x1.name, .slice A2 n3 c4, .slice A6 n7 c8, .slice A10 n11 c12, .slice A14 n15 c16, .slice A18 n19 c20, .slice A22 n23 c24, .slice A26 n27 c28, .slice A30 n31 c32, .slice A34 n35 c36, .slice A38 n39 c40, .slice A42 n43 c44]]) (perm_of_idx [0] [1, 2] rfl rfl (by kernel_rfl)) (sels [1] rfl)
                  have hMi : ∀ e ∈ ([.own (.slice A286 n287 c288) 39 7 n287 (x285.flatMap enc_api_Node)] : List Ent), e ∈ ([.own (.slice A286 n287 c288) 39 7 n287 (x285.flatMap enc_api_Node), .box gb71 107 [.int .i64 ((ix x1.gram.prods x46).lhs), .slice A67 n68 c69], .box gb57 58 [.string x1.name, .slice A2 n3 c4, .slice A6 n7 c8, .slice A10 n11 c12, .slice A14 n15 c16, .slice A18 n19 c20, .slice A22 n23 c24, .slice A26 n27 c28, .slice A30 n31 c32, .slice A34 n35 c36, .slice A38 n39 c40, .slice A42 n43 c44]] : List Ent) := sels [0] rfl
                  show tree_Reduce_R w F  r (.returned (packV [.slice A286 n287 c288])) wr
                  rw [h]
                  exact ⟨A286, n287, c288, rfl, hMr, h289⟩
              refine g_region (c := tree_Reduce_c50) rfl rfl ?_
              refine wl_v 0 rfl (v_fldB fo_107_0 rfl) gn rfl ?_
              refine wl_v 1 rfl (v_ldB1 1 ld_3 rfl rfl rfl) gn rfl ?_
              refine wl_v 2 rfl (v_bin rfl rfl rfl) gn rfl ?_
              refine wl_v 3 rfl (v_move rfl) gn rfl ?_
              by_cases hp655 : (ix x1.gram.prods x46).lhs ≥ 0
              · have h := if_pos' hp655 h
                refine w_bool 76 rfl ((decide_eq_true hp655)) ?_
                refine wl_v 4 rfl (v_fldB fo_107_0 rfl) (gy 76 rfl rfl) rfl ?_
                refine wl_v 5 rfl (v_ldB1 1 ld_3 rfl rfl rfl) (gy 76 rfl rfl) rfl ?_
                refine wl_v 6 rfl (v_fldB fo_58_2 rfl) (gy 76 rfl rfl) rfl ?_
                refine wl_v 7 rfl (v_fldB fo_47_1 rfl) (gy 76 rfl rfl) rfl ?_
                refine wl_v 8 rfl (v_ldB1 2 ld_44 rfl rfl rfl) (gy 76 rfl rfl) rfl ?_
                refine wl_v 9 rfl (v_lenQ un_44 rfl h13.hq) (gy 76 rfl rfl) rfl ?_
                refine wl_v 10 rfl (v_bin rfl rfl rfl) (gy 76 rfl rfl) rfl ?_
                refine wl_v 11 rfl (v_pick (b := true) rfl rfl) gn rfl ?_
                refine wl_v 12 rfl (v_move rfl) gn rfl ?_
                by_cases hp656 : (ix x1.gram.prods x46).lhs < (x1.gram.syms.length : Int)
                · have h := if_pos' hp656 h
                  refine w_bool 85 rfl ((decide_eq_true hp656)) ?_
                  refine wl_v 13 rfl (v_fldB fo_58_2 rfl) (gy 85 rfl rfl) rfl ?_
                  refine wl_v 14 rfl (v_fldB fo_47_1 rfl) (gy 85 rfl rfl) rfl ?_
                  refine wl_v 15 rfl (v_ldB1 2 ld_44 rfl rfl rfl) (gy 85 rfl rfl) rfl ?_
                  refine wl_v 16 rfl (v_fldB fo_107_0 rfl) (gy 85 rfl rfl) rfl ?_
                  refine wl_v 17 rfl (v_ldB1 1 ld_3 rfl rfl rfl) (gy 85 rfl rfl) rfl ?_
                  obtain ⟨hb657, h⟩ := h
                  have hr658 := Rw.readF (s := St w []) (hl := hl_api_Sym) (h1 := h1_api_Sym) h13 hb657
                  refine wl_v 18 rfl (v_idxR (s := St w []) slE_44 rfl rfl h13 hb657) (gy 85 rfl rfl) rfl ?_
                  refine wl_v 19 rfl (v_fldA fo_74_1 rfl) (gy 85 rfl rfl) rfl ?_
                  refine wl_v 20 rfl (v_ldA1 (kk := ((ix x1.gram.prods x46).lhs : Int).toNat * 2) (j := 1) (St w []) ld_72 rfl hr658 rfl (me 1 rfl)) (gy 85 rfl rfl) rfl ?_
                  refine wl_v 21 rfl (v_bin rfl rfl rfl) (gy 85 rfl rfl) rfl ?_
                  refine wl_v 22 rfl (v_pick (b := true) rfl rfl) gn rfl ?_
                  refine w_end 23 rfl ?_
                  exact g_go [0, 1] (j4 (((ix x1.gram.syms ((ix x1.gram.prods x46).lhs)).kind) == 1) h) ⟨rfl, rfl, rfl, rfl, rfl, trivial⟩ (.cons_cons _ (.cons_cons _ (.cons_cons _ (.slnil)))) rfl
                · have h := if_neg' hp656 h
                  refine w_bool 85 rfl ((decide_eq_false hp656)) ?_
                  refine wl_pass 13 rfl (ps 85 rfl rfl rfl) ?_
                  refine wl_pass 14 rfl (ps 85 rfl rfl rfl) ?_
                  refine wl_pass 15 rfl (ps 85 rfl rfl rfl) ?_
                  refine wl_pass 16 rfl (ps 85 rfl rfl rfl) ?_
                  refine wl_pass 17 rfl (ps 85 rfl rfl rfl) ?_
                  refine wl_pass 18 rfl (ps 85 rfl rfl rfl) ?_
                  refine wl_pass 19 rfl (ps 85 rfl rfl rfl) ?_
                  refine wl_pass 20 rfl (ps 85 rfl rfl rfl) ?_
                  refine wl_pass 21 rfl (ps 85 rfl rfl rfl) ?_
                  refine wl_v 22 rfl (v_pick (b := false) rfl rfl) gn rfl ?_
                  refine w_end 23 rfl ?_
                  exact g_go [0, 1] (j4 false h) ⟨rfl, rfl, rfl, rfl, rfl, trivial⟩ (.cons_cons _ (.cons_cons _ (.cons_cons _ (.slnil)))) rfl
              · have h := if_neg' hp655 h
                refine w_bool 76 rfl ((decide_eq_false hp655)) ?_
                refine wl_pass 4 rfl (ps 76 rfl rfl rfl) ?_
                refine wl_pass 5 rfl (ps 76 rfl rfl rfl) ?_
                refine wl_pass 6 rfl (ps 76 rfl rfl rfl) ?_
                refine wl_pass 7 rfl (ps 76 rfl rfl rfl) ?_
                refine wl_pass 8 rfl (ps 76 rfl rfl rfl) ?_
                refine wl_pass 9 rfl (ps 76 rfl rfl rfl) ?_
                refine wl_pass 10 rfl (ps 76 rfl rfl rfl) ?_
                refine wl_v 11 rfl (v_pick (b := false) rfl rfl) gn rfl ?_
                refine wl_v 12 rfl (v_move rfl) gn rfl ?_
                refine wl_pass 13 rfl (ps 85 rfl rfl rfl) ?_
                refine wl_pass 14 rfl (ps 85 rfl rfl rfl) ?_
                refine wl_pass 15 rfl (ps 85 rfl rfl rfl) ?_
                refine wl_pass 16 rfl (ps 85 rfl rfl rfl) ?_
                refine wl_pass 17 rfl (ps 85 rfl rfl rfl) ?_
                refine wl_pass 18 rfl (ps 85 rfl rfl rfl) ?_
                refine wl_pass 19 rfl (ps 85 rfl rfl rfl) ?_
                refine wl_pass 20 rfl (ps 85 rfl rfl rfl) ?_
                refine wl_pass 21 rfl (ps 85 rfl rfl rfl) ?_
                refine wl_v 22 rfl (v_pick (b := false) rfl rfl) gn rfl ?_
                refine w_end 23 rfl ?_
                exact g_go [0, 1] (j4 false h) ⟨rfl, rfl, rfl, rfl, rfl, trivial⟩ (.cons_cons _ (.cons_cons _ (.cons_cons _ (.slnil)))) rfl
          refine g_nil 39 7 ?_
          exact g_go [0, 1] (key3 _ h none 0 0 (Ow.nil (z := w.heap.size))) ⟨rfl, rfl, rfl, rfl, rfl, rfl, rfl, rfl, trivial⟩ (.cons_cons _ (.cons_cons _ (.cons_cons _ (.slnil)))) rfl
      refine g_region (c := tree_Reduce_c15) rfl rfl ?_
      refine wl_v 0 rfl (v_move rfl) gn rfl ?_
      refine wl_v 1 rfl (v_lenQ un_59 rfl h51.hq) gn rfl ?_
      refine wl_v 2 rfl (v_fldB fo_107_1 rfl) gn rfl ?_
      refine wl_v 3 rfl (v_ldB1 0 ld_105 rfl rfl rfl) gn rfl ?_
      refine wl_v 4 rfl (v_lenQ un_105 rfl h70.hq) gn rfl ?_
      refine wl_v 5 rfl (v_bin rfl rfl rfl) gn rfl ?_
      refine wl_v 6 rfl (v_move rfl) gn rfl ?_
      by_cases hp659 : (x47.length : Int) = (((ix x1.gram.prods x46).rhs).length : Int)
      · have h := if_pos' hp659 h
        refine w_bool 35 rfl ((eqib hp659)) ?_
        refine wl_v 7 rfl (v_move rfl) (gy 35 rfl rfl) rfl ?_
        refine wl_v 8 rfl (v_lenQ un_23 rfl h56.hq) (gy 35 rfl rfl) rfl ?_
        refine wl_v 9 rfl (v_fldB fo_107_1 rfl) (gy 35 rfl rfl) rfl ?_
        refine wl_v 10 rfl (v_ldB1 0 ld_105 rfl rfl rfl) (gy 35 rfl rfl) rfl ?_
        refine wl_v 11 rfl (v_lenQ un_105 rfl h70.hq) (gy 35 rfl rfl) rfl ?_
        refine wl_v 12 rfl (v_bin rfl rfl rfl) (gy 35 rfl rfl) rfl ?_
        refine wl_v 13 rfl (v_bin rfl rfl rfl) (gy 35 rfl rfl) rfl ?_
        refine wl_v 14 rfl (v_pick (b := false) rfl rfl) gn rfl ?_
        refine w_end 15 rfl ?_
        exact g_go [0, 1] (j2 ((x52.length : Int) != (w64 ((((ix x1.gram.prods x46).rhs).length : Int) + 1))) h) ⟨rfl, rfl, rfl, rfl, rfl, trivial⟩ (.cons_cons _ (.cons_cons _ (.slnil))) rfl
      · have h := if_neg' hp659 h
        refine w_bool 35 rfl ((neib hp659)) ?_
        refine wl_pass 7 rfl (ps 35 rfl rfl rfl) ?_
        refine wl_pass 8 rfl (ps 35 rfl rfl rfl) ?_
        refine wl_pass 9 rfl (ps 35 rfl rfl rfl) ?_
        refine wl_pass 10 rfl (ps 35 rfl rfl rfl) ?_
        refine wl_pass 11 rfl (ps 35 rfl rfl rfl) ?_
        refine wl_pass 12 rfl (ps 35 rfl rfl rfl) ?_
        refine wl_pass 13 rfl (ps 35 rfl rfl rfl) ?_
        refine wl_v 14 rfl (v_pick (b := true) rfl rfl) gn rfl ?_
        refine w_end 15 rfl ?_
        exact g_go [0, 1] (j2 true h) ⟨rfl, rfl, rfl, rfl, rfl, trivial⟩ (.cons_cons _ (.cons_cons _ (.slnil))) rfl
  refine g_region (c := tree_Reduce_c5) rfl rfl ?_
  refine wl_v 0 rfl (v_move rfl) gn rfl ?_
  refine wl_v 1 rfl (v_bin rfl rfl rfl) gn rfl ?_
  refine wl_v 2 rfl (v_move rfl) gn rfl ?_
  by_cases hp660 : x46 < 0
  · have h := if_pos' hp660 h
    refine w_bool 15 rfl ((decide_eq_true hp660)) ?_
    refine wl_pass 3 rfl (ps 15 rfl rfl rfl) ?_
    refine wl_pass 4 rfl (ps 15 rfl rfl rfl) ?_
    refine wl_pass 5 rfl (ps 15 rfl rfl rfl) ?_
    refine wl_pass 6 rfl (ps 15 rfl rfl rfl) ?_
    refine wl_pass 7 rfl (ps 15 rfl rfl rfl) ?_
    refine wl_pass 8 rfl (ps 15 rfl rfl rfl) ?_
    refine wl_v 9 rfl (v_pick (b := true) rfl rfl) gn rfl ?_
    refine w_end 10 rfl ?_
    exact g_go [0, 1] (j1 true h) ⟨rfl, rfl, rfl, rfl, rfl, trivial⟩ (.cons_cons _ (.slnil)) rfl
  · have h := if_neg' hp660 h
    refine w_bool 15 rfl ((decide_eq_false hp660)) ?_
    refine wl_v 3 rfl (v_move rfl) (gy 15 rfl rfl) rfl ?_
    refine wl_v 4 rfl (v_fldB fo_58_2 rfl) (gy 15 rfl rfl) rfl ?_
    refine wl_v 5 rfl (v_fldB fo_47_2 rfl) (gy 15 rfl rfl) rfl ?_
    refine wl_v 6 rfl (v_ldB1 0 ld_45 rfl rfl rfl) (gy 15 rfl rfl) rfl ?_
    refine wl_v 7 rfl (v_lenQ un_45 rfl h17.hq) (gy 15 rfl rfl) rfl ?_
    refine wl_v 8 rfl (v_bin rfl rfl rfl) (gy 15 rfl rfl) rfl ?_
    refine wl_v 9 rfl (v_pick (b := false) rfl rfl) gn rfl ?_
    refine w_end 10 rfl ?_
    exact g_go [0, 1] (j1 (decide (x46 ≥ (x1.gram.prods.length : Int))) h) ⟨rfl, rfl, rfl, rfl, rfl, trivial⟩ (.cons_cons _ (.slnil)) rfl
noncomputable abbrev tree_Kids_c0 : Code := bodyOf Try.f42
noncomputable abbrev tree_Kids_c1 : Code := Code.fst tree_Kids_c0
noncomputable abbrev tree_Kids_c2 : Code := Code.snd tree_Kids_c0
noncomputable abbrev tree_Kids_c3 : Code := Code.fst tree_Kids_c2
noncomputable abbrev tree_Kids_c4 : Code := Code.snd tree_Kids_c2
noncomputable abbrev tree_Kids_c5 : Code := Code.fst tree_Kids_c4
noncomputable abbrev tree_Kids_c6 : Code := Code.snd tree_Kids_c4
noncomputable abbrev tree_Kids_c7 : Code := Code.fst tree_Kids_c5
noncomputable abbrev tree_Kids_c8 : Code := Code.snd tree_Kids_c5
noncomputable abbrev tree_Kids_c9 : Code := Code.fst tree_Kids_c8
noncomputable abbrev tree_Kids_c10 : Code := Code.snd tree_Kids_c8
noncomputable abbrev tree_Kids_c11 : Code := Code.fst tree_Kids_c6
noncomputable abbrev tree_Kids_c12 : Code := Code.snd tree_Kids_c6
noncomputable abbrev tree_Kids_c13 : Code := Code.fst tree_Kids_c9
noncomputable abbrev tree_Kids_c14 : Code := Code.snd tree_Kids_c9
abbrev tree_Kids_R (w : World) (F : Nat → Prop) (r : List Int) : Ending → World → Prop := fun e w' => ∃ A0 : Option Addr, ∃ n0 : Nat, ∃ c0 : Nat, e = .returned (.slice A0 n0 c0) ∧ B.Loc w w' [.own (.slice A0 n0 c0) 3 1 n0 (r.flatMap (eI .i64))] [St w []] ∧ Ow w.heap.size A0 n0 c0 r
noncomputable abbrev tree_Kids_C (w : World) (F : Nat → Prop) (r : List Int) : Cx := ⟨Try.prog, 42, Try.f42, 21, tree_Kids_R w F  r, w⟩
theorem tree_Kids_calls (w : World) (F : Nat → Prop) (x1 : List api_Node) (x6 : Int) (A2 : Option Addr) (n3 : Nat) (c4 : Nat) (h5 : Rw k_api_Node w (St w []).av A2 n3 c4 x1) (hF : ∀ b, F b → b < w.heap.size ∧ ∀ o ∈ ([] : List (List Nat)), b ∉ o) (hL0 : B.Loc w w [] [Sm w.heap.size F w [], St w []]) (r : List Int) (h : tree_Kids x1 x6 r) : Calls Try.prog 42 #[.slice A2 n3 c4, .int .i64 x6] w (tree_Kids_R w F  r) := by
  unfold tree_Kids at h
  refine calls_of_Loc (vs := [.slice A2 n3 c4, .int .i64 x6]) 21 Try.func42 rfl Try.ntmps42 rfl hL0 ?_
  show G (tree_Kids_C w F r) _ _ _ _
  refine g_seq (c := tree_Kids_c0) rfl ?_
  refine g_region (c := tree_Kids_c1) rfl rfl ?_
  refine wl_v 0 rfl (v_assign rfl) gn rfl ?_
  refine w_end 1 rfl ?_
  refine g_seq (c := tree_Kids_c2) rfl ?_
  refine g_region (c := tree_Kids_c3) rfl rfl ?_
  refine wl_v 0 rfl (v_move rfl) gn rfl ?_
  obtain ⟨r10, hv11, h⟩ := h
  refine wl_s 1 rfl (s_call [.slice A2 n3 c4] rfl Try.func44 rfl rfl rfl fun w7 hL8 => ?_) gn
  have hp9 : List.Perm ([] : List Ent) (([] : List Ent) ++ ([] : List Ent)) := perm_of_idx [] [] rfl rfl (by kernel_rfl)
  refine Calls.mono (tree_plant_calls w7 (Fl ([St w []] : List Snap)) x1 A2 n3 c4 (Rw.mono h5 (hL8.toFl (me 1 rfl) (me 0 rfl))) (hL8.hFl (Sl := ([St w []] : List Snap)) hp9 (sels [1] rfl)) (hL8.into hp9 (Fl ([St w []] : List Snap))) r10 hv11) ?_
  rintro _ w26 ⟨A16, n17, c18, A21, n22, c23, A12, n13, c14, rfl, hM27, h19, h24, h15⟩
  obtain ⟨sv30, hL28, hv29⟩ := hL8.callN (Sl := ([St w []] : List Snap)) hp9 hM27 (sels [1] rfl)
  have h15 : At k_api_Node (sv30) A12 n13 c14 r10.nodes := Rw.mono h15 hv29
  refine ⟨_, _, _, rfl, hL28, ?_⟩
  refine wl_s 2 rfl (s_alloc [.slice none 0 0, .slice none 0 0, .slice none 0 0, .bool false] zr_32 rfl fun gb31 => ?_) gn
  refine wl_s 3 rfl (s_stB (vs := [.slice A12 n13 c14, .slice A16 n17 c18, .slice A21 n22 c23, .bool r10.ok]) (cs' := [.slice A12 n13 c14, .slice A16 n17 c18, .slice A21 n22 c23, .bool r10.ok]) (M' := [.box gb31 32 [.slice A12 n13 c14, .slice A16 n17 c18, .slice A21 n22 c23, .bool r10.ok], .own (.slice A16 n17 c18) 3 1 n17 (r10.parent.flatMap (eI .i64)), .own (.slice A21 n22 c23) 3 1 n22 (r10.end_.flatMap (eI .i64))]) 0 sz_32 rfl rfl rfl rfl rfl rfl rfl rfl rfl ?_) gn
  refine w_end 4 rfl ?_
  refine g_seq (c := tree_Kids_c4) rfl ?_
  refine g_seq (c := tree_Kids_c5) rfl ?_
  refine g_region (c := tree_Kids_c7) rfl rfl ?_
  refine wl_v 0 rfl (v_ldB [.slice A12 n13 c14, .slice A16 n17 c18, .slice A21 n22 c23, .bool r10.ok] 0 ld_32 rfl rfl rfl rfl) gn rfl ?_
  refine wl_v 1 rfl (v_move rfl) gn rfl ?_
  obtain ⟨r36, hv37, h⟩ := h
  refine wl_s 2 rfl (s_call [.agg #[.slice A12 n13 c14, .slice A16 n17 c18, .slice A21 n22 c23, .bool r10.ok], .int .i64 x6] rfl Try.func46 rfl rfl rfl fun w33 hL34 => ?_) gn
  have hp35 : List.Perm ([.box gb31 32 [.slice A12 n13 c14, .slice A16 n17 c18, .slice A21 n22 c23, .bool r10.ok], .own (.slice A16 n17 c18) 3 1 n17 (r10.parent.flatMap (eI .i64)), .own (.slice A21 n22 c23) 3 1 n22 (r10.end_.flatMap (eI .i64))] : List Ent) (([] : List Ent) ++ ([.box gb31 32 [.slice A12 n13 c14, .slice A16 n17 c18, .slice A21 n22 c23, .bool r10.ok], .own (.slice A16 n17 c18) 3 1 n17 (r10.parent.flatMap (eI .i64)), .own (.slice A21 n22 c23) 3 1 n22 (r10.end_.flatMap (eI .i64))] : List Ent)) := perm_of_idx [] [0, 1, 2] rfl rfl (by kernel_rfl)
  refine Calls.mono (tree_forest_has_calls w33 (Fl ([] : List Snap)) r10 x6 A12 n13 c14 A16 n17 c18 A21 n22 c23 (Rw.mono h15 (hL34.toSt hp35 (me 0 rfl))) (hL34.argO (dk := (kInt .i64)) hp35 [] rfl 1 rfl rfl (Ow.weak hL8.env.size h19) (me 1 rfl) (Cells.flat _)) (hL34.argO (dk := (kInt .i64)) hp35 [] rfl 2 rfl rfl (Ow.weak hL8.env.size h24) (me 1 rfl) (Cells.flat _)) (hL34.hFl (Sl := ([] : List Snap)) hp35 (sels [] rfl)) (hL34.into hp35 (Fl ([] : List Snap))) r36 hv37) ?_
  rintro _ w38 ⟨rfl, hM39⟩
  have hL40 := hL34.call hp35 hM39
  refine ⟨_, _, _, rfl, hL40, ?_⟩
  refine wl_v 3 rfl (v_not rfl) gn rfl ?_
  refine w_end 4 rfl ?_
  by_cases hp41 : r36 = true
  · have h := if_pos' hp41 h
    refine g_false (c := tree_Kids_c8) rfl _ rfl ((nf hp41)) ?_
    refine g_skip (c := tree_Kids_c10) rfl ?_
    refine g_seq (c := tree_Kids_c6) rfl ?_
    obtain ⟨hb42, h⟩ := h
    obtain ⟨r46, hv47, h⟩ := h
    have hns : Region.noSelect (Code.ops tree_Kids_c11) = true := by kernel_rfl
    refine g_drawF (c := tree_Kids_c11) [.box gb31 32 [.slice A12 n13 c14, .slice A16 n17 c18, .slice A21 n22 c23, .bool r10.ok], .own (.slice A16 n17 c18) 3 1 n17 (r10.parent.flatMap (eI .i64)), .own (.slice A21 n22 c23) 3 1 n22 (r10.end_.flatMap (eI .i64))] [sv30, Sm w.heap.size F w [], St w []] [] 10 rfl rfl mix rfl (.cons_cons _ (.cons_cons _ (.cons_cons _ (.slnil)))) (sels [0, 1, 2] rfl) ?_
    refine wf_v 0 rfl (v_ldB [.slice A12 n13 c14, .slice A16 n17 c18, .slice A21 n22 c23, .bool r10.ok] 0 ld_32 rfl rfl rfl rfl) gn rfl hns (by kernel_rfl) (by kernel_rfl) rfl rfl ?_
    refine wf_v 1 rfl (v_move rfl) gn rfl hns (by kernel_rfl) (by kernel_rfl) rfl rfl ?_
    refine wf_v 2 rfl (v_bin rfl rfl rfl) gn rfl hns (by kernel_rfl) (by kernel_rfl) rfl rfl ?_
    refine wf_v 3 rfl (v_fldB fo_32_2 rfl) gn rfl hns (by kernel_rfl) (by kernel_rfl) rfl rfl ?_
    refine wf_v 4 rfl (v_ldB1 0 ld_23 rfl rfl rfl) gn rfl hns (by kernel_rfl) (by kernel_rfl) rfl rfl ?_
    refine wf_v 5 rfl (v_move rfl) gn rfl hns (by kernel_rfl) (by kernel_rfl) rfl rfl ?_
    refine wf_v 6 rfl (v_idxO slE_23 rfl rfl (Ow.weak hL8.env.size h24) hb42) gn rfl hns (by kernel_rfl) (by kernel_rfl) rfl rfl ?_
    refine wf_v 7 rfl (v_ldO1 (.int .i64 (ix r10.end_ x6)) 2 ld_3 rfl rfl (fm_get0 (hlI .i64) hb42 rfl)) gn rfl hns (by kernel_rfl) (by kernel_rfl) rfl rfl ?_
    refine wf_all [8] (by kernel_rfl) rfl ⟨on_s 8 rfl gn rfl (s_call [.agg #[.slice A12 n13 c14, .slice A16 n17 c18, .slice A21 n22 c23, .bool r10.ok], .int .i64 (w64 (x6 + 1)), .int .i64 (ix r10.end_ x6)] rfl Try.func66 rfl rfl rfl fun w86 hL87 => ?_), trivial⟩
    have hp88 : List.Perm ([.box gb31 32 [.slice A12 n13 c14, .slice A16 n17 c18, .slice A21 n22 c23, .bool r10.ok], .own (.slice A16 n17 c18) 3 1 n17 (r10.parent.flatMap (eI .i64)), .own (.slice A21 n22 c23) 3 1 n22 (r10.end_.flatMap (eI .i64))] : List Ent) (([] : List Ent) ++ ([.box gb31 32 [.slice A12 n13 c14, .slice A16 n17 c18, .slice A21 n22 c23, .bool r10.ok], .own (.slice A16 n17 c18) 3 1 n17 (r10.parent.flatMap (eI .i64)), .own (.slice A21 n22 c23) 3 1 n22 (r10.end_.flatMap (eI .i64))] : List Ent)) := perm_of_idx [] [0, 1, 2] rfl rfl (by kernel_rfl)
    refine Calls.mono (tree_forest_beside_calls w86 (Fl ([] : List Snap)) r10 (w64 (x6 + 1)) (ix r10.end_ x6) A12 n13 c14 A16 n17 c18 A21 n22 c23 (Rw.mono h15 (hL87.toSt hp88 (me 0 rfl))) (hL87.argO (dk := (kInt .i64)) hp88 [] rfl 1 rfl rfl (Ow.weak hL8.env.size h19) (me 1 rfl) (Cells.flat _)) (hL87.argO (dk := (kInt .i64)) hp88 [] rfl 2 rfl rfl (Ow.weak hL8.env.size h24) (me 1 rfl) (Cells.flat _)) (hL87.hFl (Sl := ([] : List Snap)) hp88 (sels [] rfl)) (hL87.into hp88 (Fl ([] : List Snap))) r46 hv47) ?_
    rintro _ w93 ⟨A89, n90, c91, rfl, hM94, h92⟩
    have hL95 := hL87.call hp88 hM94
    refine ⟨_, _, _, rfl, hL95, ?_⟩
    refine ⟨sels [1, 2, 3] rfl, sels [0, 1, 2] rfl, ?_⟩
    refine wf_v 9 rfl (v_assign rfl) gn rfl hns (by kernel_rfl) (by kernel_rfl) rfl rfl ?_
    refine wf_end (by kernel_rfl) ?_
    refine g_retR (c := tree_Kids_c12) [.slice A89 n90 c91] rfl Try.func42 rfl (.tmp rfl (.nil)) fun wr hLr => ?_
    have hMr : B.Loc w wr [.own (.slice A89 n90 c91) 3 1 n90 (r46.flatMap (eI .i64))] [St w []] := hLr.pick (rest := [.box gb31 32 [.slice A12 n13 c14, .slice A16 n17 c18, .slice A21 n22 c23, .bool r10.ok], .own (.slice A16 n17 c18) 3 1 n17 (r10.parent.flatMap (eI .i64)), .own (.slice A21 n22 c23) 3 1 n22 (r10.end_.flatMap (eI .i64))]) (perm_of_idx [0] [1, 2, 3] rfl rfl (by kernel_rfl)) (sels [2] rfl)
    have hMi : ∀ e ∈ ([.own (.slice A89 n90 c91) 3 1 n90 (r46.flatMap (eI .i64))] : List Ent), e ∈ ([.own (.slice A89 n90 c91) 3 1 n90 (r46.flatMap (eI .i64)), .box gb31 32 [.slice A12 n13 c14, .slice A16 n17 c18, .slice A21 n22 c23, .bool r10.ok], .own (.slice A16 n17 c18) 3 1 n17 (r10.parent.flatMap (eI .i64)), .own (.slice A21 n22 c23) 3 1 n22 (r10.end_.flatMap (eI .i64))] : List Ent) := sels [0] rfl
    show tree_Kids_R w F  r (.returned (packV [.slice A89 n90 c91])) wr
    rw [h]
    exact ⟨A89, n90, c91, rfl, hMr, (Ow.weak hL87.env.size h92)⟩
  · have h := if_neg' hp41 h
    refine g_true (c := tree_Kids_c8) rfl _ rfl ((nt (bf hp41))) ?_
    refine g_seq (c := tree_Kids_c9) rfl ?_
    refine g_region (c := tree_Kids_c13) rfl rfl ?_
    refine wl_v 0 rfl (v_assign rfl) gn rfl ?_
    refine w_end 1 rfl ?_
    refine g_nil 3 1 ?_
    refine g_retR (c := tree_Kids_c14) [.slice none 0 0] rfl Try.func42 rfl (.tmp rfl (.nil)) fun wr hLr => ?_
    have hMr : B.Loc w wr [.own (.slice none 0 0) 3 1 0 (([] : List Int).flatMap (eI .i64))] [St w []] := hLr.pick (rest := [.box gb31 32 [.slice A12 n13 c14, .slice A16 n17 c18, .slice A21 n22 c23, .bool r10.ok], .own (.slice A16 n17 c18) 3 1 n17 (r10.parent.flatMap (eI .i64)), .own (.slice A21 n22 c23) 3 1 n22 (r10.end_.flatMap (eI .i64))]) (perm_of_idx [0] [1, 2, 3] rfl rfl (by kernel_rfl)) (sels [2] rfl)
    have hMi : ∀ e ∈ ([.own (.slice none 0 0) 3 1 0 (([] : List Int).flatMap (eI .i64))] : List Ent), e ∈ ([.own (.slice none 0 0) 3 1 0 (([] : List Int).flatMap (eI .i64)), .box gb31 32 [.slice A12 n13 c14, .slice A16 n17 c18, .slice A21 n22 c23, .bool r10.ok], .own (.slice A16 n17 c18) 3 1 n17 (r10.parent.flatMap (eI .i64)), .own (.slice A21 n22 c23) 3 1 n22 (r10.end_.flatMap (eI .i64))] : List Ent) := sels [0] rfl
    show tree_Kids_R w F  r (.returned (packV [.slice none 0 0])) wr
    rw [h]
    exact ⟨none, 0, 0, rfl, hMr, (Ow.nil (z := w.heap.size))⟩
end Go.Proofs.Ytmekgfcfooghnaa.K
