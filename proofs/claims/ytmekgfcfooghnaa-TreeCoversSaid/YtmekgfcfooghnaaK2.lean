/- What the machine's calls do, function by function, printed by my own tool. Condition of each: its relation holds of the answer, and what is handed in lies in memory as told. -/
import Derived.Test.YtmekgfcfooghnaaK1
set_option linter.unusedVariables false
set_option maxRecDepth 100000
set_option maxHeartbeats 4000000
namespace Go.Proofs.Ytmekgfcfooghnaa.K
open Go.Proofs.Ytmekgfcfooghnaa.B Go.Proofs.Ytmekgfcfooghnaa.R Go.RowKit
noncomputable abbrev q32c0 : Code := bodyOf Try.f32
noncomputable abbrev q32c1 : Code := Code.fst q32c0
noncomputable abbrev q32c2 : Code := Code.snd q32c0
noncomputable abbrev q32c3 : Code := Code.fst q32c2
noncomputable abbrev q32c4 : Code := Code.snd q32c2
noncomputable abbrev q32c5 : Code := Code.fst q32c3
noncomputable abbrev q32c6 : Code := Code.snd q32c3
noncomputable abbrev q32c7 : Code := Code.fst q32c6
noncomputable abbrev q32c8 : Code := Code.snd q32c6
noncomputable abbrev q32c9 : Code := Code.fst q32c7
noncomputable abbrev q32c10 : Code := Code.snd q32c7
noncomputable abbrev q32c11 : Code := Code.fst q32c4
noncomputable abbrev q32c12 : Code := Code.snd q32c4
noncomputable abbrev q32c13 : Code := Code.fst q32c12
noncomputable abbrev q32c14 : Code := Code.snd q32c12
noncomputable abbrev q32c15 : Code := Code.fst q32c13
noncomputable abbrev q32c16 : Code := Code.snd q32c13
noncomputable abbrev q32c17 : Code := Code.fst q32c16
noncomputable abbrev q32c18 : Code := Code.snd q32c16
noncomputable abbrev q32c19 : Code := Code.fst q32c17
noncomputable abbrev q32c20 : Code := Code.snd q32c17
noncomputable abbrev q32c21 : Code := Code.fst q32c14
noncomputable abbrev q32c22 : Code := Code.snd q32c14
noncomputable abbrev q32c23 : Code := Code.fst q32c22
noncomputable abbrev q32c24 : Code := Code.snd q32c22
noncomputable abbrev q32c25 : Code := Code.fst q32c23
noncomputable abbrev q32c26 : Code := Code.snd q32c23
noncomputable abbrev q32c27 : Code := Code.fst q32c26
noncomputable abbrev q32c28 : Code := Code.fst q32c27
noncomputable abbrev q32c29 : Code := Code.fst q32c28
noncomputable abbrev q32c30 : Code := Code.snd q32c28
noncomputable abbrev q32c31 : Code := Code.fst q32c30
noncomputable abbrev q32c32 : Code := Code.snd q32c30
noncomputable abbrev q32c33 : Code := Code.fst q32c31
noncomputable abbrev q32c34 : Code := Code.snd q32c31
noncomputable abbrev q32c35 : Code := Code.fst q32c32
noncomputable abbrev q32c36 : Code := Code.snd q32c32
noncomputable abbrev q32c37 : Code := Code.fst q32c35
noncomputable abbrev q32c38 : Code := Code.fst q32c37
noncomputable abbrev q32c39 : Code := Code.snd q32c37
noncomputable abbrev q32c40 : Code := Code.fst q32c39
noncomputable abbrev q32c41 : Code := Code.snd q32c39
noncomputable abbrev q32c42 : Code := Code.fst q32c40
noncomputable abbrev q32c43 : Code := Code.snd q32c40
noncomputable abbrev q32c44 : Code := Code.fst q32c43
noncomputable abbrev q32c45 : Code := Code.snd q32c43
noncomputable abbrev q32c46 : Code := Code.fst q32c44
noncomputable abbrev q32c47 : Code := Code.snd q32c44
noncomputable abbrev q32c48 : Code := Code.fst q32c24
noncomputable abbrev q32c49 : Code := Code.snd q32c24
noncomputable abbrev q32c50 : Code := Code.fst q32c48
noncomputable abbrev q32c51 : Code := Code.snd q32c48
noncomputable abbrev q32c52 : Code := Code.fst q32c51
noncomputable abbrev q32c53 : Code := Code.snd q32c51
noncomputable abbrev q32c54 : Code := Code.fst q32c52
noncomputable abbrev q32c55 : Code := Code.snd q32c52
noncomputable abbrev q32c56 : Code := Code.fst q32c49
noncomputable abbrev q32c57 : Code := Code.snd q32c49
abbrev tree_Reduce_R (w : World) (F : Nat → Prop) (r : List api_Node) : Ending → World → Prop := fun e w' => ∃ A0 : Option Addr, ∃ n0 : Nat, ∃ c0 : Nat, e = .returned (.slice A0 n0 c0) ∧ B.Loc w w' [.own (.slice A0 n0 c0) 39 7 n0 (r.flatMap enc_api_Node)] [St w []] ∧ Ow w.heap.size A0 n0 c0 r
noncomputable abbrev tree_Reduce_C (w : World) (F : Nat → Prop) (r : List api_Node) : Cx := ⟨Try.prog, 32, Try.f32, 113, tree_Reduce_R w F  r, w⟩
theorem tree_Reduce_calls (w : World) (F : Nat → Prop) (x1 : api_Lang) (x46 : Int) (x47 : List (List api_Node)) (x52 : List Int) (A2 : Option Addr) (n3 : Nat) (c4 : Nat) (A6 : Option Addr) (n7 : Nat) (c8 : Nat) (A10 : Option Addr) (n11 : Nat) (c12 : Nat) (A14 : Option Addr) (n15 : Nat) (c16 : Nat) (A18 : Option Addr) (n19 : Nat) (c20 : Nat) (A22 : Option Addr) (n23 : Nat) (c24 : Nat) (A26 : Option Addr) (n27 : Nat) (c28 : Nat) (A30 : Option Addr) (n31 : Nat) (c32 : Nat) (A34 : Option Addr) (n35 : Nat) (c36 : Nat) (A38 : Option Addr) (n39 : Nat) (c40 : Nat) (A42 : Option Addr) (n43 : Nat) (c44 : Nat) (A48 : Option Addr) (n49 : Nat) (c50 : Nat) (A53 : Option Addr) (n54 : Nat) (c55 : Nat) (h5 : Rw k_api_ModeDef w (St w []).av A2 n3 c4 x1.modes) (h9 : Rw k_api_TermDef w (St w []).av A6 n7 c8 x1.gram.terms) (h13 : Rw k_api_Sym w (St w []).av A10 n11 c12 x1.gram.syms) (h17 : Rw k_api_Prod w (St w []).av A14 n15 c16 x1.gram.prods) (h21 : Rw k_api_Rule w (St w []).av A18 n19 c20 x1.rules) (h25 : Rw (Kd.slice k_api_Action) w (St w []).av A22 n23 c24 x1.table.actions) (h29 : Rw (Kd.slice (kInt .i64)) w (St w []).av A26 n27 c28 x1.table.gotos) (h33 : Rw k_api_PaintDef w (St w []).av A30 n31 c32 x1.paints) (h37 : Rw kStr w (St w []).av A34 n35 c36 x1.folds) (h41 : Rw k_api_MarkDef w (St w []).av A38 n39 c40 x1.marks) (h45 : Rw k_api_InjectDef w (St w []).av A42 n43 c44 x1.injects) (h51 : Rw (Kd.slice k_api_Node) w (St w []).av A48 n49 c50 x47) (h56 : Rw (kInt .i64) w (St w []).av A53 n54 c55 x52) (hF : ∀ b, F b → b < w.heap.size ∧ ∀ o ∈ ([] : List (List Nat)), b ∉ o) (hL0 : B.Loc w w [] [Sm w.heap.size F w [], St w []]) (r : List api_Node) (h : tree_Reduce x1 x46 x47 x52 r) : Calls Try.prog 32 #[.agg #[.string x1.name, .slice A2 n3 c4, .slice A6 n7 c8, .slice A10 n11 c12, .slice A14 n15 c16, .slice A18 n19 c20, .slice A22 n23 c24, .slice A26 n27 c28, .slice A30 n31 c32, .slice A34 n35 c36, .slice A38 n39 c40, .slice A42 n43 c44], .int .i64 x46, .slice A48 n49 c50, .slice A53 n54 c55] w (tree_Reduce_R w F  r) := by
 unfold tree_Reduce at h
 refine calls_of_Loc (vs := [.agg #[.string x1.name, .slice A2 n3 c4, .slice A6 n7 c8, .slice A10 n11 c12, .slice A14 n15 c16, .slice A18 n19 c20, .slice A22 n23 c24, .slice A26 n27 c28, .slice A30 n31 c32, .slice A34 n35 c36, .slice A38 n39 c40, .slice A42 n43 c44], .int .i64 x46, .slice A48 n49 c50, .slice A53 n54 c55]) 113 Try.func32 rfl Try.ntmps32 rfl hL0 ?_
 show G (tree_Reduce_C w F r) _ _ _ _
 refine g_seq (c := q32c0) rfl ?_
 refine g_region (c := q32c1) rfl rfl ?_
 refine wl_s 0 rfl (s_box [.string x1.name, .slice A2 n3 c4, .slice A6 n7 c8, .slice A10 n11 c12, .slice A14 n15 c16, .slice A18 n19 c20, .slice A22 n23 c24, .slice A26 n27 c28, .slice A30 n31 c32, .slice A34 n35 c36, .slice A38 n39 c40, .slice A42 n43 c44] rfl rfl rfl fun gb57 => ?_) gn
 refine wl_v 1 rfl (v_assign rfl) gn rfl ?_
 refine w_end 2 rfl ?_
 refine g_seq (c := q32c2) rfl ?_
 refine g_seq (c := q32c3) rfl ?_
 have j1 : ∀ (x61 : Bool) (h : tree_Reduce_j1 x46 x1 x47 x52 x61 r) , G (tree_Reduce_C w F r) [.code q32c6, .code q32c4] [(1, .int .i64 x46), (2, .slice A48 n49 c50), (3, .slice A53 n54 c55), (4, .pointer (some ⟨gb57, 0, none⟩)), (22, .bool x61)] [.box gb57 58 [.string x1.name, .slice A2 n3 c4, .slice A6 n7 c8, .slice A10 n11 c12, .slice A14 n15 c16, .slice A18 n19 c20, .slice A22 n23 c24, .slice A26 n27 c28, .slice A30 n31 c32, .slice A34 n35 c36, .slice A38 n39 c40, .slice A42 n43 c44]] [Sm w.heap.size F w [], St w []] := by
  intro x61 h
  unfold tree_Reduce_j1 at h
  by_cases hp62 : x61 = true
  ·have h := if_pos' hp62 h
   refine g_true (c := q32c6) rfl _ rfl (hp62) ?_
   refine g_seq (c := q32c7) rfl ?_
   refine g_region (c := q32c9) rfl rfl ?_
   refine wl_v 0 rfl (v_assign rfl) gn rfl ?_
   refine w_end 1 rfl ?_
   refine g_nil 39 7 ?_
   refine g_retR (c := q32c10) [.slice none 0 0] rfl Try.func32 rfl (.tmp rfl (.nil)) fun wr hLr => ?_
   have hMr : B.Loc w wr [.own (.slice none 0 0) 39 7 0 (([] : List api_Node).flatMap enc_api_Node)] [St w []] := hLr.pick (rest := [.box gb57 58 [.string x1.name, .slice A2 n3 c4, .slice A6 n7 c8, .slice A10 n11 c12, .slice A14 n15 c16, .slice A18 n19 c20, .slice A22 n23 c24, .slice A26 n27 c28, .slice A30 n31 c32, .slice A34 n35 c36, .slice A38 n39 c40, .slice A42 n43 c44]]) (perm_of_idx [0] [1] rfl rfl (by kernel_rfl)) (sels [1] rfl)
   show tree_Reduce_R w F  r (.returned (packV [.slice none 0 0])) wr
   rw [h]
   exact ⟨none, 0, 0, rfl, hMr, (Ow.nil (z := w.heap.size))⟩
  ·have h := if_neg' hp62 h
   refine g_false (c := q32c6) rfl _ rfl ((bf hp62)) ?_
   refine g_skip (c := q32c8) rfl ?_
   refine g_seq (c := q32c4) rfl ?_
   refine g_region (c := q32c11) rfl rfl ?_
   refine wl_v 0 rfl (v_fldB fo_58_2 rfl) gn rfl ?_
   refine wl_v 1 rfl (v_fldB fo_47_2 rfl) gn rfl ?_
   refine wl_v 2 rfl (v_ldB1 0 ld_45 rfl rfl rfl) gn rfl ?_
   refine wl_v 3 rfl (v_move rfl) gn rfl ?_
   obtain ⟨hb63, h⟩ := h
   obtain ⟨ce65, hK66, hr64⟩ := Rw.read (s := St w []) h17 hb63
   obtain ⟨A67, n68, c69, rfl, h70⟩ := hK66
   refine wl_v 4 rfl (v_idxR (s := St w []) slE_45 rfl rfl h17 hb63) gn rfl ?_
   refine wl_v 5 rfl (v_ldA (St w []) ld_107 rfl hr64 rfl (me 1 rfl)) gn rfl ?_
   refine wl_s 6 rfl (s_alloc [.int .i64 0, .slice none 0 0] zr_107 rfl fun gb71 => ?_) gn
   refine wl_s 7 rfl (s_stB (vs := [.int .i64 ((ix x1.gram.prods x46).lhs), .slice A67 n68 c69]) (cs' := [.int .i64 ((ix x1.gram.prods x46).lhs), .slice A67 n68 c69]) (M' := [.box gb71 107 [.int .i64 ((ix x1.gram.prods x46).lhs), .slice A67 n68 c69], .box gb57 58 [.string x1.name, .slice A2 n3 c4, .slice A6 n7 c8, .slice A10 n11 c12, .slice A14 n15 c16, .slice A18 n19 c20, .slice A22 n23 c24, .slice A26 n27 c28, .slice A30 n31 c32, .slice A34 n35 c36, .slice A38 n39 c40, .slice A42 n43 c44]]) 0 sz_107 rfl rfl rfl rfl rfl rfl rfl rfl rfl ?_) gn
   refine w_end 8 rfl ?_
   refine g_seq (c := q32c12) rfl ?_
   refine g_seq (c := q32c13) rfl ?_
   have j2 : ∀ (x75 : Bool) (h : tree_Reduce_j2 x1 x46 x47 x52 x75 r) , G (tree_Reduce_C w F r) [.code q32c16, .code q32c14] [(2, .slice A48 n49 c50), (3, .slice A53 n54 c55), (4, .pointer (some ⟨gb57, 0, none⟩)), (9, .pointer (some ⟨gb71, 0, none⟩)), (43, .bool x75)] [.box gb71 107 [.int .i64 ((ix x1.gram.prods x46).lhs), .slice A67 n68 c69], .box gb57 58 [.string x1.name, .slice A2 n3 c4, .slice A6 n7 c8, .slice A10 n11 c12, .slice A14 n15 c16, .slice A18 n19 c20, .slice A22 n23 c24, .slice A26 n27 c28, .slice A30 n31 c32, .slice A34 n35 c36, .slice A38 n39 c40, .slice A42 n43 c44]] [Sm w.heap.size F w [], St w []] := by
    intro x75 h
    unfold tree_Reduce_j2 at h
    by_cases hp76 : x75 = true
    ·have h := if_pos' hp76 h
     refine g_true (c := q32c16) rfl _ rfl (hp76) ?_
     refine g_seq (c := q32c17) rfl ?_
     refine g_region (c := q32c19) rfl rfl ?_
     refine wl_v 0 rfl (v_assign rfl) gn rfl ?_
     refine w_end 1 rfl ?_
     refine g_nil 39 7 ?_
     refine g_retR (c := q32c20) [.slice none 0 0] rfl Try.func32 rfl (.tmp rfl (.nil)) fun wr hLr => ?_
     have hMr : B.Loc w wr [.own (.slice none 0 0) 39 7 0 (([] : List api_Node).flatMap enc_api_Node)] [St w []] := hLr.pick (rest := [.box gb71 107 [.int .i64 ((ix x1.gram.prods x46).lhs), .slice A67 n68 c69], .box gb57 58 [.string x1.name, .slice A2 n3 c4, .slice A6 n7 c8, .slice A10 n11 c12, .slice A14 n15 c16, .slice A18 n19 c20, .slice A22 n23 c24, .slice A26 n27 c28, .slice A30 n31 c32, .slice A34 n35 c36, .slice A38 n39 c40, .slice A42 n43 c44]]) (perm_of_idx [0] [1, 2] rfl rfl (by kernel_rfl)) (sels [1] rfl)
     show tree_Reduce_R w F  r (.returned (packV [.slice none 0 0])) wr
     rw [h]
     exact ⟨none, 0, 0, rfl, hMr, (Ow.nil (z := w.heap.size))⟩
    ·have h := if_neg' hp76 h
     refine g_false (c := q32c16) rfl _ rfl ((bf hp76)) ?_
     refine g_skip (c := q32c18) rfl ?_
     refine g_seq (c := q32c14) rfl ?_
     refine g_region (c := q32c21) rfl rfl ?_
     refine wl_v 0 rfl (v_assign rfl) gn rfl ?_
     refine w_end 1 rfl ?_
     refine g_seq (c := q32c22) rfl ?_
     refine g_seq (c := q32c23) rfl ?_
     refine g_region (c := q32c25) rfl rfl ?_
     refine wl_v 0 rfl (v_fldB fo_107_1 rfl) gn rfl ?_
     refine wl_v 1 rfl (v_ldB1 0 ld_105 rfl rfl rfl) gn rfl ?_
     refine wl_v 2 rfl (v_lenQ un_105 rfl h70.hq) gn rfl ?_
     refine wl_v 3 rfl (v_move rfl) gn rfl ?_
     refine w_end 4 rfl ?_
     refine g_block (c := q32c26) rfl ?_
     refine g_loop (c := q32c27) rfl ?_
     have key3 : ∀ s, Rounds (fun (s : (List api_Node) × Int) o => tree_Reduce_b3 x1 x46 x47 x52 s.1 s.2 o) s r → (fun (s : (List api_Node) × Int) => ∀ (A286 : Option Addr) (n287 : Nat) (c288 : Nat) (h289 : Ow w.heap.size A286 n287 c288 s.1), G (tree_Reduce_C w F r) [.code q32c28, .inLoop q32c28, .inBlock 0, .code q32c24] [(2, .slice A48 n49 c50), (3, .slice A53 n54 c55), (4, .pointer (some ⟨gb57, 0, none⟩)), (9, .pointer (some ⟨gb71, 0, none⟩)), (10, .slice A286 n287 c288), (45, .slice A67 n68 c69), (46, .int .i64 (((ix x1.gram.prods x46).rhs).length : Int)), (47, .int .i64 s.2)] [.own (.slice A286 n287 c288) 39 7 n287 (s.1.flatMap enc_api_Node), .box gb71 107 [.int .i64 ((ix x1.gram.prods x46).lhs), .slice A67 n68 c69], .box gb57 58 [.string x1.name, .slice A2 n3 c4, .slice A6 n7 c8, .slice A10 n11 c12, .slice A14 n15 c16, .slice A18 n19 c20, .slice A22 n23 c24, .slice A26 n27 c28, .slice A30 n31 c32, .slice A34 n35 c36, .slice A38 n39 c40, .slice A42 n43 c44]] [Sm w.heap.size F w [], St w []]) s := by
      intro s hs
      refine Rounds.ind (mot := (fun (s : (List api_Node) × Int) => ∀ (A286 : Option Addr) (n287 : Nat) (c288 : Nat) (h289 : Ow w.heap.size A286 n287 c288 s.1), G (tree_Reduce_C w F r) [.code q32c28, .inLoop q32c28, .inBlock 0, .code q32c24] [(2, .slice A48 n49 c50), (3, .slice A53 n54 c55), (4, .pointer (some ⟨gb57, 0, none⟩)), (9, .pointer (some ⟨gb71, 0, none⟩)), (10, .slice A286 n287 c288), (45, .slice A67 n68 c69), (46, .int .i64 (((ix x1.gram.prods x46).rhs).length : Int)), (47, .int .i64 s.2)] [.own (.slice A286 n287 c288) 39 7 n287 (s.1.flatMap enc_api_Node), .box gb71 107 [.int .i64 ((ix x1.gram.prods x46).lhs), .slice A67 n68 c69], .box gb57 58 [.string x1.name, .slice A2 n3 c4, .slice A6 n7 c8, .slice A10 n11 c12, .slice A14 n15 c16, .slice A18 n19 c20, .slice A22 n23 c24, .slice A26 n27 c28, .slice A30 n31 c32, .slice A34 n35 c36, .slice A38 n39 c40, .slice A42 n43 c44]] [Sm w.heap.size F w [], St w []])) ?_ hs
      clear hs s
      intro s o1 h hO1
      obtain ⟨x285, x290⟩ := s
      show ∀ (A286 : Option Addr) (n287 : Nat) (c288 : Nat) (h289 : Ow w.heap.size A286 n287 c288 x285), G (tree_Reduce_C w F r) [.code q32c28, .inLoop q32c28, .inBlock 0, .code q32c24] [(2, .slice A48 n49 c50), (3, .slice A53 n54 c55), (4, .pointer (some ⟨gb57, 0, none⟩)), (9, .pointer (some ⟨gb71, 0, none⟩)), (10, .slice A286 n287 c288), (45, .slice A67 n68 c69), (46, .int .i64 (((ix x1.gram.prods x46).rhs).length : Int)), (47, .int .i64 x290)] [.own (.slice A286 n287 c288) 39 7 n287 (x285.flatMap enc_api_Node), .box gb71 107 [.int .i64 ((ix x1.gram.prods x46).lhs), .slice A67 n68 c69], .box gb57 58 [.string x1.name, .slice A2 n3 c4, .slice A6 n7 c8, .slice A10 n11 c12, .slice A14 n15 c16, .slice A18 n19 c20, .slice A22 n23 c24, .slice A26 n27 c28, .slice A30 n31 c32, .slice A34 n35 c36, .slice A38 n39 c40, .slice A42 n43 c44]] [Sm w.heap.size F w [], St w []]
      intro A286 n287 c288 h289
      have h : tree_Reduce_b3 x1 x46 x47 x52 x285 x290 o1 := h
      unfold tree_Reduce_b3 at h
      refine g_seq (c := q32c28) rfl ?_
      refine g_region (c := q32c29) rfl rfl ?_
      refine wl_v 0 rfl (v_bin rfl rfl rfl) gn rfl ?_
      refine w_end 1 rfl ?_
      refine g_seq (c := q32c30) rfl ?_
      by_cases hp475 : x290 < (((ix x1.gram.prods x46).rhs).length : Int)
      ·have h := if_pos' hp475 h
       refine g_true (c := q32c31) rfl _ rfl ((decide_eq_true hp475)) ?_
       refine g_skip (c := q32c33) rfl ?_
       refine g_seq (c := q32c32) rfl ?_
       refine g_block (c := q32c35) rfl ?_
       refine g_seq (c := q32c37) rfl ?_
       refine g_region (c := q32c38) rfl rfl ?_
       refine wl_v 0 rfl (v_move rfl) gn rfl ?_
       obtain ⟨hb476, h⟩ := h
       have hr477 := Rw.readF (s := St w []) (hl := hl_api_Ref) (h1 := h1_api_Ref) h70 hb476
       refine wl_v 1 rfl (v_idxR (s := St w []) slE_105 rfl rfl h70 hb476) gn rfl ?_
       refine wl_v 2 rfl (v_ldA (St w []) ld_104 rfl hr477 rfl (me 1 rfl)) gn rfl ?_
       refine wl_s 3 rfl (s_alloc [.int .i64 0, .string (⟨#[]⟩ : ByteArray), .string (⟨#[]⟩ : ByteArray)] zr_104 rfl fun gb478 => ?_) gn
       refine wl_v 4 rfl (v_assign rfl) gn rfl ?_
       refine wl_s 5 rfl (s_stB (vs := [.int .i64 ((ix ((ix x1.gram.prods x46).rhs) x290).sym), .string ((ix ((ix x1.gram.prods x46).rhs) x290).field), .string ((ix ((ix x1.gram.prods x46).rhs) x290).as)]) (cs' := [.int .i64 ((ix ((ix x1.gram.prods x46).rhs) x290).sym), .string ((ix ((ix x1.gram.prods x46).rhs) x290).field), .string ((ix ((ix x1.gram.prods x46).rhs) x290).as)]) (M' := [.box gb478 104 [.int .i64 ((ix ((ix x1.gram.prods x46).rhs) x290).sym), .string ((ix ((ix x1.gram.prods x46).rhs) x290).field), .string ((ix ((ix x1.gram.prods x46).rhs) x290).as)], .own (.slice A286 n287 c288) 39 7 n287 (x285.flatMap enc_api_Node), .box gb71 107 [.int .i64 ((ix x1.gram.prods x46).lhs), .slice A67 n68 c69], .box gb57 58 [.string x1.name, .slice A2 n3 c4, .slice A6 n7 c8, .slice A10 n11 c12, .slice A14 n15 c16, .slice A18 n19 c20, .slice A22 n23 c24, .slice A26 n27 c28, .slice A30 n31 c32, .slice A34 n35 c36, .slice A38 n39 c40, .slice A42 n43 c44]]) 0 sz_104 rfl rfl rfl rfl rfl rfl rfl rfl rfl ?_) gn
       refine w_end 6 rfl ?_
       refine g_seq (c := q32c39) rfl ?_
       refine g_seq (c := q32c40) rfl ?_
       refine g_region (c := q32c42) rfl rfl ?_
       refine wl_v 0 rfl (v_move rfl) gn rfl ?_
       refine wl_v 1 rfl (v_move rfl) gn rfl ?_
       obtain ⟨hb480, h⟩ := h
       obtain ⟨ce482, hK483, hr481⟩ := Rw.read (s := St w []) h51 hb480
       obtain ⟨A484, n485, c486, rfl, h487⟩ := hK483
       refine wl_v 2 rfl (v_idxR (s := St w []) slE_59 rfl rfl h51 hb480) gn rfl ?_
       refine wl_v 3 rfl (v_ldA1 (kk := (x290 : Int).toNat * 1) (j := 0) (St w []) ld_22 rfl hr481 rfl (me 1 rfl)) gn rfl ?_
       obtain ⟨r491, hv492, h⟩ := h
       refine wl_s 4 rfl (s_call [.slice A484 n485 c486] rfl Try.func37 rfl rfl rfl fun w488 hL489 => ?_) gn
       have hp490 : List.Perm ([.box gb478 104 [.int .i64 ((ix ((ix x1.gram.prods x46).rhs) x290).sym), .string ((ix ((ix x1.gram.prods x46).rhs) x290).field), .string ((ix ((ix x1.gram.prods x46).rhs) x290).as)], .own (.slice A286 n287 c288) 39 7 n287 (x285.flatMap enc_api_Node), .box gb71 107 [.int .i64 ((ix x1.gram.prods x46).lhs), .slice A67 n68 c69], .box gb57 58 [.string x1.name, .slice A2 n3 c4, .slice A6 n7 c8, .slice A10 n11 c12, .slice A14 n15 c16, .slice A18 n19 c20, .slice A22 n23 c24, .slice A26 n27 c28, .slice A30 n31 c32, .slice A34 n35 c36, .slice A38 n39 c40, .slice A42 n43 c44]] : List Ent) (([] : List Ent) ++ ([.box gb478 104 [.int .i64 ((ix ((ix x1.gram.prods x46).rhs) x290).sym), .string ((ix ((ix x1.gram.prods x46).rhs) x290).field), .string ((ix ((ix x1.gram.prods x46).rhs) x290).as)], .own (.slice A286 n287 c288) 39 7 n287 (x285.flatMap enc_api_Node), .box gb71 107 [.int .i64 ((ix x1.gram.prods x46).lhs), .slice A67 n68 c69], .box gb57 58 [.string x1.name, .slice A2 n3 c4, .slice A6 n7 c8, .slice A10 n11 c12, .slice A14 n15 c16, .slice A18 n19 c20, .slice A22 n23 c24, .slice A26 n27 c28, .slice A30 n31 c32, .slice A34 n35 c36, .slice A38 n39 c40, .slice A42 n43 c44]] : List Ent)) := perm_of_idx [] [0, 1, 2, 3] rfl rfl (by kernel_rfl)
       refine Calls.mono (tree_Roots_calls w488 (Fl ([] : List Snap)) (ix x47 x290) A484 n485 c486 (Rw.mono h487 (hL489.toSt hp490 (me 1 rfl))) (hL489.hFl (Sl := ([] : List Snap)) hp490 (sels [] rfl)) (hL489.into hp490 (Fl ([] : List Snap))) r491 hv492) ?_
       rintro _ w493 ⟨rfl, hM494⟩
       have hL495 := hL489.call hp490 hM494
       refine ⟨_, _, _, rfl, hL495, ?_⟩
       refine wl_v 5 rfl (v_bin rfl rfl rfl) gn rfl ?_
       refine w_end 6 rfl ?_
       by_cases hp496 : r491 < 0
       ·have h := if_pos' hp496 h
        refine g_true (c := q32c43) rfl _ rfl ((decide_eq_true hp496)) ?_
        refine g_seq (c := q32c44) rfl ?_
        refine g_region (c := q32c46) rfl rfl ?_
        refine wl_v 0 rfl (v_assign rfl) gn rfl ?_
        refine w_end 1 rfl ?_
        refine g_nil 39 7 ?_
        have h := Out.inr hO1 h
        refine g_retR (c := q32c47) [.slice none 0 0] rfl Try.func32 rfl (.tmp rfl (.nil)) fun wr hLr => ?_
        have hMr : B.Loc w wr [.own (.slice none 0 0) 39 7 0 (([] : List api_Node).flatMap enc_api_Node)] [St w []] := hLr.pick (rest := [.box gb478 104 [.int .i64 ((ix ((ix x1.gram.prods x46).rhs) x290).sym), .string ((ix ((ix x1.gram.prods x46).rhs) x290).field), .string ((ix ((ix x1.gram.prods x46).rhs) x290).as)], .own (.slice A286 n287 c288) 39 7 n287 (x285.flatMap enc_api_Node), .box gb71 107 [.int .i64 ((ix x1.gram.prods x46).lhs), .slice A67 n68 c69], .box gb57 58 [.string x1.name, .slice A2 n3 c4, .slice A6 n7 c8, .slice A10 n11 c12, .slice A14 n15 c16, .slice A18 n19 c20, .slice A22 n23 c24, .slice A26 n27 c28, .slice A30 n31 c32, .slice A34 n35 c36, .slice A38 n39 c40, .slice A42 n43 c44]]) (perm_of_idx [0] [1, 2, 3, 4] rfl rfl (by kernel_rfl)) (sels [1] rfl)
        show tree_Reduce_R w F  r (.returned (packV [.slice none 0 0])) wr
        rw [h]
        exact ⟨none, 0, 0, rfl, hMr, (Ow.nil (z := w.heap.size))⟩
       ·have h := if_neg' hp496 h
        refine g_false (c := q32c43) rfl _ rfl ((decide_eq_false hp496)) ?_
        refine g_skip (c := q32c45) rfl ?_
        obtain ⟨hb504, h⟩ := h
        obtain ⟨r509, hv510, h⟩ := h
        obtain ⟨x522, hv523, h⟩ := h
        obtain ⟨hb524, h⟩ := h
        have hns : Region.noSelect (Code.ops q32c41) = true := by kernel_rfl
        refine g_drawF (c := q32c41) [.box gb478 104 [.int .i64 ((ix ((ix x1.gram.prods x46).rhs) x290).sym), .string ((ix ((ix x1.gram.prods x46).rhs) x290).field), .string ((ix ((ix x1.gram.prods x46).rhs) x290).as)], .own (.slice A286 n287 c288) 39 7 n287 (x285.flatMap enc_api_Node), .box gb71 107 [.int .i64 ((ix x1.gram.prods x46).lhs), .slice A67 n68 c69], .box gb57 58 [.string x1.name, .slice A2 n3 c4, .slice A6 n7 c8, .slice A10 n11 c12, .slice A14 n15 c16, .slice A18 n19 c20, .slice A22 n23 c24, .slice A26 n27 c28, .slice A30 n31 c32, .slice A34 n35 c36, .slice A38 n39 c40, .slice A42 n43 c44]] [Sm w.heap.size F w [], St w []] [13, 14] 15 rfl rfl mix rfl (.cons_cons _ (.cons_cons _ (.cons_cons _ (.cons_cons _ (.slnil))))) (sels [0, 1] rfl) ?_
        refine wfv 0 rfl (v_move rfl) gn hns (by kernel_rfl) ?_
        refine wfv 1 rfl (v_ldB [.string x1.name, .slice A2 n3 c4, .slice A6 n7 c8, .slice A10 n11 c12, .slice A14 n15 c16, .slice A18 n19 c20, .slice A22 n23 c24, .slice A26 n27 c28, .slice A30 n31 c32, .slice A34 n35 c36, .slice A38 n39 c40, .slice A42 n43 c44] 3 ld_58 rfl rfl rfl rfl) gn hns (by kernel_rfl) ?_
        refine wfv 2 rfl (v_ldB [.int .i64 ((ix ((ix x1.gram.prods x46).rhs) x290).sym), .string ((ix ((ix x1.gram.prods x46).rhs) x290).field), .string ((ix ((ix x1.gram.prods x46).rhs) x290).as)] 0 ld_104 rfl rfl rfl rfl) gn hns (by kernel_rfl) ?_
        refine wfv 3 rfl (v_move rfl) gn hns (by kernel_rfl) ?_
        refine wfv 4 rfl (v_move rfl) gn hns (by kernel_rfl) ?_
        obtain ⟨ce557, hK558, hr556⟩ := Rw.read (s := St w []) h51 hb480
        obtain ⟨A559, n560, c561, rfl, h562⟩ := hK558
        refine wfv 5 rfl (v_idxR (s := St w []) slE_59 rfl rfl h51 hb480) gn hns (by kernel_rfl) ?_
        refine wfv 6 rfl (v_ldA1 (kk := (x290 : Int).toNat * 1) (j := 0) (St w []) ld_22 rfl hr556 rfl (me 1 rfl)) gn hns (by kernel_rfl) ?_
        refine wfv 7 rfl (v_move rfl) gn hns (by kernel_rfl) ?_
        refine wfv 8 rfl (v_move rfl) gn hns (by kernel_rfl) ?_
        refine wfv 9 rfl (v_bin rfl rfl rfl) gn hns (by kernel_rfl) ?_
        have hr563 := Rw.readF (s := St w []) (hl := (hlI .i64)) (h1 := (hone_int .i64)) h56 hb504
        refine wfv 10 rfl (v_idxR (s := St w []) slE_23 rfl rfl h56 hb504) gn hns (by kernel_rfl) ?_
        refine wfv 11 rfl (v_ldA1 (kk := (w64 (x290 + 1) : Int).toNat * 1) (j := 0) (St w []) ld_3 rfl hr563 rfl (me 1 rfl)) gn hns (by kernel_rfl) ?_
        refine wf_all [12] (by kernel_rfl) rfl ⟨on_s 12 rfl gn rfl (s_call [.agg #[.string x1.name, .slice A2 n3 c4, .slice A6 n7 c8, .slice A10 n11 c12, .slice A14 n15 c16, .slice A18 n19 c20, .slice A22 n23 c24, .slice A26 n27 c28, .slice A30 n31 c32, .slice A34 n35 c36, .slice A38 n39 c40, .slice A42 n43 c44], .agg #[.int .i64 ((ix ((ix x1.gram.prods x46).rhs) x290).sym), .string ((ix ((ix x1.gram.prods x46).rhs) x290).field), .string ((ix ((ix x1.gram.prods x46).rhs) x290).as)], .slice A559 n560 c561, .int .i64 (ix x52 (w64 (x290 + 1)))] rfl Try.func58 rfl rfl rfl fun w574 hL575 => ?_), trivial⟩
        have hp576 : List.Perm ([.box gb478 104 [.int .i64 ((ix ((ix x1.gram.prods x46).rhs) x290).sym), .string ((ix ((ix x1.gram.prods x46).rhs) x290).field), .string ((ix ((ix x1.gram.prods x46).rhs) x290).as)], .own (.slice A286 n287 c288) 39 7 n287 (x285.flatMap enc_api_Node), .box gb71 107 [.int .i64 ((ix x1.gram.prods x46).lhs), .slice A67 n68 c69], .box gb57 58 [.string x1.name, .slice A2 n3 c4, .slice A6 n7 c8, .slice A10 n11 c12, .slice A14 n15 c16, .slice A18 n19 c20, .slice A22 n23 c24, .slice A26 n27 c28, .slice A30 n31 c32, .slice A34 n35 c36, .slice A38 n39 c40, .slice A42 n43 c44]] : List Ent) (([] : List Ent) ++ ([.box gb478 104 [.int .i64 ((ix ((ix x1.gram.prods x46).rhs) x290).sym), .string ((ix ((ix x1.gram.prods x46).rhs) x290).field), .string ((ix ((ix x1.gram.prods x46).rhs) x290).as)], .own (.slice A286 n287 c288) 39 7 n287 (x285.flatMap enc_api_Node), .box gb71 107 [.int .i64 ((ix x1.gram.prods x46).lhs), .slice A67 n68 c69], .box gb57 58 [.string x1.name, .slice A2 n3 c4, .slice A6 n7 c8, .slice A10 n11 c12, .slice A14 n15 c16, .slice A18 n19 c20, .slice A22 n23 c24, .slice A26 n27 c28, .slice A30 n31 c32, .slice A34 n35 c36, .slice A38 n39 c40, .slice A42 n43 c44]] : List Ent)) := perm_of_idx [] [0, 1, 2, 3] rfl rfl (by kernel_rfl)
        refine Calls.mono (tree_part_calls w574 (Fl ([] : List Snap)) x1 (ix ((ix x1.gram.prods x46).rhs) x290) (ix x47 x290) (ix x52 (w64 (x290 + 1))) A2 n3 c4 A6 n7 c8 A10 n11 c12 A14 n15 c16 A18 n19 c20 A22 n23 c24 A26 n27 c28 A30 n31 c32 A34 n35 c36 A38 n39 c40 A42 n43 c44 A559 n560 c561 (Rw.mono h5 (hL575.toSt hp576 (me 1 rfl))) (Rw.mono h9 (hL575.toSt hp576 (me 1 rfl))) (Rw.mono h13 (hL575.toSt hp576 (me 1 rfl))) (Rw.mono h17 (hL575.toSt hp576 (me 1 rfl))) (Rw.mono h21 (hL575.toSt hp576 (me 1 rfl))) (Rw.mono h25 (hL575.toSt hp576 (me 1 rfl))) (Rw.mono h29 (hL575.toSt hp576 (me 1 rfl))) (Rw.mono h33 (hL575.toSt hp576 (me 1 rfl))) (Rw.mono h37 (hL575.toSt hp576 (me 1 rfl))) (Rw.mono h41 (hL575.toSt hp576 (me 1 rfl))) (Rw.mono h45 (hL575.toSt hp576 (me 1 rfl))) (Rw.mono h562 (hL575.toSt hp576 (me 1 rfl))) (hL575.hFl (Sl := ([] : List Snap)) hp576 (sels [] rfl)) (hL575.into hp576 (Fl ([] : List Snap))) r509 hv510) ?_
        rintro _ w581 ⟨A577, n578, c579, rfl, hM582, h580⟩
        have hL583 := hL575.call hp576 hM582
        refine ⟨_, _, _, rfl, hL583, ?_⟩
        refine ⟨sels [1, 2, 3, 4] rfl, sels [0, 1] rfl, ?_⟩
        refine wf_all [13] (by kernel_rfl) rfl ⟨on_l 13 rfl gn rfl (s_app (zs := x522) (cells' := x522.flatMap enc_api_Node) 2 ap_22 rfl rfl rfl h289 (Nat.le_refl _) (Src.ownF (hl := hl_api_Node) (h1 := h1_api_Node) 0 rfl (Ow.weak hL575.env.size h580)) (by rw [hv523, List.flatMap_append] <;> rfl) (app_len hv523 (Ow.weak hL575.env.size h580).hq) hb524 rfl rfl fun A584 c585 h586 => ?_), trivial⟩
        unfold NxL
        refine wf_all [14] (by kernel_rfl) rfl ⟨on_l 14 rfl gn rfl (s_val (v_assign rfl) rfl ?_), trivial⟩
        unfold NxL
        refine wf_end (by kernel_rfl) ?_
        refine g_inBlock ?_
        refine g_region (c := q32c36) rfl rfl ?_
        refine wl_v 0 rfl (v_bin rfl rfl rfl) gn rfl ?_
        refine wl_v 1 rfl (v_move rfl) gn rfl ?_
        refine w_end 2 rfl ?_
        refine g_inLoop ?_
        have ih := Out.inl hO1 h
        exact g_go [0, 1] (ih A584 (n287 + n578) c585 h586) ⟨rfl, rfl, rfl, rfl, rfl, rfl, rfl, rfl, trivial⟩ (.cons _ (.cons _ (.cons_cons _ (.cons_cons _ (.cons_cons _ (.slnil)))))) rfl
      ·have h := if_neg' hp475 h
       refine g_false (c := q32c31) rfl _ rfl ((decide_eq_false hp475)) ?_
       refine g_exit (c := q32c34) [.code q32c24] rfl rfl ?_
       refine g_seq (c := q32c24) rfl ?_
       refine g_seq (c := q32c48) rfl ?_
       have j4 : ∀ (x592 : Bool) (h : tree_Reduce_j4 x1 x46 x52 x285 x592 o1) , G (tree_Reduce_C w F r) [.code q32c51, .code q32c49] [(3, .slice A53 n54 c55), (4, .pointer (some ⟨gb57, 0, none⟩)), (9, .pointer (some ⟨gb71, 0, none⟩)), (10, .slice A286 n287 c288), (95, .bool x592)] [.own (.slice A286 n287 c288) 39 7 n287 (x285.flatMap enc_api_Node), .box gb71 107 [.int .i64 ((ix x1.gram.prods x46).lhs), .slice A67 n68 c69], .box gb57 58 [.string x1.name, .slice A2 n3 c4, .slice A6 n7 c8, .slice A10 n11 c12, .slice A14 n15 c16, .slice A18 n19 c20, .slice A22 n23 c24, .slice A26 n27 c28, .slice A30 n31 c32, .slice A34 n35 c36, .slice A38 n39 c40, .slice A42 n43 c44]] [Sm w.heap.size F w [], St w []] := by
        intro x592 h
        unfold tree_Reduce_j4 at h
        by_cases hp593 : x592 = true
        ·have h := if_pos' hp593 h
         refine g_true (c := q32c51) rfl _ rfl (hp593) ?_
         refine g_seq (c := q32c52) rfl ?_
         obtain ⟨hb594, h⟩ := h
         obtain ⟨hb596, h⟩ := h
         obtain ⟨r601, hv602, h⟩ := h
         have hns : Region.noSelect (Code.ops q32c54) = true := by kernel_rfl
         refine g_drawF (c := q32c54) [.own (.slice A286 n287 c288) 39 7 n287 (x285.flatMap enc_api_Node), .box gb71 107 [.int .i64 ((ix x1.gram.prods x46).lhs), .slice A67 n68 c69], .box gb57 58 [.string x1.name, .slice A2 n3 c4, .slice A6 n7 c8, .slice A10 n11 c12, .slice A14 n15 c16, .slice A18 n19 c20, .slice A22 n23 c24, .slice A26 n27 c28, .slice A30 n31 c32, .slice A34 n35 c36, .slice A38 n39 c40, .slice A42 n43 c44]] [Sm w.heap.size F w [], St w []] [] 17 rfl rfl mix rfl (.cons_cons _ (.cons_cons _ (.cons_cons _ (.slnil)))) (sels [0, 1] rfl) ?_
         refine wfv 0 rfl (v_fldB fo_58_2 rfl) gn hns rfl ?_
         refine wfv 1 rfl (v_fldB fo_47_1 rfl) gn hns rfl ?_
         refine wfv 2 rfl (v_ldB1 2 ld_44 rfl rfl rfl) gn hns rfl ?_
         refine wfv 3 rfl (v_fldB fo_107_0 rfl) gn hns rfl ?_
         refine wfv 4 rfl (v_ldB1 1 ld_3 rfl rfl rfl) gn hns rfl ?_
         have hr633 := Rw.readF (s := St w []) (hl := hl_api_Sym) (h1 := h1_api_Sym) h13 hb594
         refine wfv 5 rfl (v_idxR (s := St w []) slE_44 rfl rfl h13 hb594) gn hns rfl ?_
         refine wfv 6 rfl (v_fldA fo_74_0 rfl) gn hns rfl ?_
         refine wfv 7 rfl (v_ldA1 (kk := ((ix x1.gram.prods x46).lhs : Int).toNat * 2) (j := 0) (St w []) ld_9 rfl hr633 rfl (me 1 rfl)) gn hns rfl ?_
         refine wfv 8 rfl (v_move rfl) gn hns rfl ?_
         refine wfv 9 rfl (v_move rfl) gn hns rfl ?_
         refine wfv 10 rfl (v_fldB fo_107_1 rfl) gn hns rfl ?_
         refine wfv 11 rfl (v_ldB1 1 ld_105 rfl rfl rfl) gn hns rfl ?_
         refine wfv 12 rfl (v_lenQ un_105 rfl h70.hq) gn hns rfl ?_
         have hr634 := Rw.readF (s := St w []) (hl := (hlI .i64)) (h1 := (hone_int .i64)) h56 hb596
         refine wfv 13 rfl (v_idxR (s := St w []) slE_23 rfl rfl h56 hb596) gn hns rfl ?_
         refine wfv 14 rfl (v_ldA1 (kk := ((((ix x1.gram.prods x46).rhs).length : Int) : Int).toNat * 1) (j := 0) (St w []) ld_3 rfl hr634 rfl (me 1 rfl)) gn hns rfl ?_
         refine wf_all [15] (by kernel_rfl) rfl ⟨on_s 15 rfl gn rfl (s_call [.string ((ix x1.gram.syms ((ix x1.gram.prods x46).lhs)).name), .slice A286 n287 c288, .int .i64 (ix x52 (((ix x1.gram.prods x46).rhs).length : Int))] rfl Try.func59 rfl rfl rfl fun w645 hL646 => ?_), trivial⟩
         have hp647 : List.Perm ([.own (.slice A286 n287 c288) 39 7 n287 (x285.flatMap enc_api_Node), .box gb71 107 [.int .i64 ((ix x1.gram.prods x46).lhs), .slice A67 n68 c69], .box gb57 58 [.string x1.name, .slice A2 n3 c4, .slice A6 n7 c8, .slice A10 n11 c12, .slice A14 n15 c16, .slice A18 n19 c20, .slice A22 n23 c24, .slice A26 n27 c28, .slice A30 n31 c32, .slice A34 n35 c36, .slice A38 n39 c40, .slice A42 n43 c44]] : List Ent) (([] : List Ent) ++ ([.own (.slice A286 n287 c288) 39 7 n287 (x285.flatMap enc_api_Node), .box gb71 107 [.int .i64 ((ix x1.gram.prods x46).lhs), .slice A67 n68 c69], .box gb57 58 [.string x1.name, .slice A2 n3 c4, .slice A6 n7 c8, .slice A10 n11 c12, .slice A14 n15 c16, .slice A18 n19 c20, .slice A22 n23 c24, .slice A26 n27 c28, .slice A30 n31 c32, .slice A34 n35 c36, .slice A38 n39 c40, .slice A42 n43 c44]] : List Ent)) := perm_of_idx [] [0, 1, 2] rfl rfl (by kernel_rfl)
         refine Calls.mono (tree_over_calls w645 (Fl ([] : List Snap)) ((ix x1.gram.syms ((ix x1.gram.prods x46).lhs)).name) x285 (ix x52 (((ix x1.gram.prods x46).rhs).length : Int)) A286 n287 c288 (hL646.argO (dk := k_api_Node) hp647 [] rfl 0 rfl rfl h289 (me 0 rfl) (Cells.flat _)) (hL646.hFl (Sl := ([] : List Snap)) hp647 (sels [] rfl)) (hL646.into hp647 (Fl ([] : List Snap))) r601 hv602) ?_
         rintro _ w652 ⟨A648, n649, c650, rfl, hM653, h651⟩
         have hL654 := hL646.call hp647 hM653
         refine ⟨_, _, _, rfl, hL654, ?_⟩
         refine ⟨sels [1, 2, 3] rfl, sels [0, 1] rfl, ?_⟩
         refine wfv 16 rfl (v_assign rfl) gn hns rfl ?_
         refine wf_end (by kernel_rfl) ?_
         have h := Out.inr hO1 h
         refine g_retR (c := q32c55) [.slice A648 n649 c650] rfl Try.func32 rfl (.tmp rfl (.nil)) fun wr hLr => ?_
         have hMr : B.Loc w wr [.own (.slice A648 n649 c650) 39 7 n649 (r601.flatMap enc_api_Node)] [St w []] := hLr.pick (rest := [.own (.slice A286 n287 c288) 39 7 n287 (x285.flatMap enc_api_Node), .box gb71 107 [.int .i64 ((ix x1.gram.prods x46).lhs), .slice A67 n68 c69], .box gb57 58 [.string x1.name, .slice A2 n3 c4, .slice A6 n7 c8, .slice A10 n11 c12, .slice A14 n15 c16, .slice A18 n19 c20, .slice A22 n23 c24, .slice A26 n27 c28, .slice A30 n31 c32, .slice A34 n35 c36, .slice A38 n39 c40, .slice A42 n43 c44]]) (perm_of_idx [0] [1, 2, 3] rfl rfl (by kernel_rfl)) (sels [1] rfl)
         show tree_Reduce_R w F  r (.returned (packV [.slice A648 n649 c650])) wr
         rw [h]
         exact ⟨A648, n649, c650, rfl, hMr, (Ow.weak hL646.env.size h651)⟩
        ·have h := if_neg' hp593 h
         refine g_false (c := q32c51) rfl _ rfl ((bf hp593)) ?_
         refine g_skip (c := q32c53) rfl ?_
         refine g_seq (c := q32c49) rfl ?_
         refine g_region (c := q32c56) rfl rfl ?_
         refine wl_v 0 rfl (v_move rfl) gn rfl ?_
         refine wl_v 1 rfl (v_assign rfl) gn rfl ?_
         refine w_end 2 rfl ?_
         have h := Out.inr hO1 h
         refine g_retR (c := q32c57) [.slice A286 n287 c288] rfl Try.func32 rfl (.tmp rfl (.nil)) fun wr hLr => ?_
         have hMr : B.Loc w wr [.own (.slice A286 n287 c288) 39 7 n287 (x285.flatMap enc_api_Node)] [St w []] := hLr.pick (rest := [.box gb71 107 [.int .i64 ((ix x1.gram.prods x46).lhs), .slice A67 n68 c69], .box gb57 58 [.string x1.name, .slice A2 n3 c4, .slice A6 n7 c8, .slice A10 n11 c12, .slice A14 n15 c16, .slice A18 n19 c20, .slice A22 n23 c24, .slice A26 n27 c28, .slice A30 n31 c32, .slice A34 n35 c36, .slice A38 n39 c40, .slice A42 n43 c44]]) (perm_of_idx [0] [1, 2] rfl rfl (by kernel_rfl)) (sels [1] rfl)
         show tree_Reduce_R w F  r (.returned (packV [.slice A286 n287 c288])) wr
         rw [h]
         exact ⟨A286, n287, c288, rfl, hMr, h289⟩
       refine g_region (c := q32c50) rfl rfl ?_
       refine wl_v 0 rfl (v_fldB fo_107_0 rfl) gn rfl ?_
       refine wl_v 1 rfl (v_ldB1 1 ld_3 rfl rfl rfl) gn rfl ?_
       refine wl_v 2 rfl (v_bin rfl rfl rfl) gn rfl ?_
       refine wl_v 3 rfl (v_move rfl) gn rfl ?_
       by_cases hp655 : (ix x1.gram.prods x46).lhs ≥ 0
       ·have h := if_pos' hp655 h
        refine w_bool 76 rfl ((decide_eq_true hp655)) ?_
        refine wl_v 4 rfl (v_fldB fo_107_0 rfl) (gy 76 rfl rfl) rfl ?_
        refine wl_v 5 rfl (v_ldB1 1 ld_3 rfl rfl rfl) (gy 76 rfl rfl) rfl ?_
        refine wl_v 6 rfl (v_fldB fo_58_2 rfl) (gy 76 rfl rfl) rfl ?_
        refine wl_v 7 rfl (v_fldB fo_47_1 rfl) (gy 76 rfl rfl) rfl ?_
        refine wl_v 8 rfl (v_ldB1 2 ld_44 rfl rfl rfl) (gy 76 rfl rfl) rfl ?_
        refine wl_v 9 rfl (v_lenQ un_44 rfl h13.hq) (gy 76 rfl rfl) rfl ?_
        refine wl_v 10 rfl (v_bin rfl rfl rfl) (gy 76 rfl rfl) rfl ?_
        refine wl_v 11 rfl (v_pick (b := true) rfl rfl) gn rfl ?_
        refine wl_v 12 rfl (v_move rfl) gn rfl ?_
        by_cases hp656 : (ix x1.gram.prods x46).lhs < (x1.gram.syms.length : Int)
        ·have h := if_pos' hp656 h
         refine w_bool 85 rfl ((decide_eq_true hp656)) ?_
         refine wl_v 13 rfl (v_fldB fo_58_2 rfl) (gy 85 rfl rfl) rfl ?_
         refine wl_v 14 rfl (v_fldB fo_47_1 rfl) (gy 85 rfl rfl) rfl ?_
         refine wl_v 15 rfl (v_ldB1 2 ld_44 rfl rfl rfl) (gy 85 rfl rfl) rfl ?_
         refine wl_v 16 rfl (v_fldB fo_107_0 rfl) (gy 85 rfl rfl) rfl ?_
         refine wl_v 17 rfl (v_ldB1 1 ld_3 rfl rfl rfl) (gy 85 rfl rfl) rfl ?_
         obtain ⟨hb657, h⟩ := h
         have hr658 := Rw.readF (s := St w []) (hl := hl_api_Sym) (h1 := h1_api_Sym) h13 hb657
         refine wl_v 18 rfl (v_idxR (s := St w []) slE_44 rfl rfl h13 hb657) (gy 85 rfl rfl) rfl ?_
         refine wl_v 19 rfl (v_fldA fo_74_1 rfl) (gy 85 rfl rfl) rfl ?_
         refine wl_v 20 rfl (v_ldA1 (kk := ((ix x1.gram.prods x46).lhs : Int).toNat * 2) (j := 1) (St w []) ld_72 rfl hr658 rfl (me 1 rfl)) (gy 85 rfl rfl) rfl ?_
         refine wl_v 21 rfl (v_bin rfl rfl rfl) (gy 85 rfl rfl) rfl ?_
         refine wl_v 22 rfl (v_pick (b := true) rfl rfl) gn rfl ?_
         refine w_end 23 rfl ?_
         exact g_go [0, 1] (j4 (((ix x1.gram.syms ((ix x1.gram.prods x46).lhs)).kind) == 1) h) ⟨rfl, rfl, rfl, rfl, rfl, trivial⟩ (.cons_cons _ (.cons_cons _ (.cons_cons _ (.slnil)))) rfl
        ·have h := if_neg' hp656 h
         refine w_bool 85 rfl ((decide_eq_false hp656)) ?_
         refine wl_pass 13 rfl (ps 85 rfl rfl rfl) ?_
         refine wl_pass 14 rfl (ps 85 rfl rfl rfl) ?_
         refine wl_pass 15 rfl (ps 85 rfl rfl rfl) ?_
         refine wl_pass 16 rfl (ps 85 rfl rfl rfl) ?_
         refine wl_pass 17 rfl (ps 85 rfl rfl rfl) ?_
         refine wl_pass 18 rfl (ps 85 rfl rfl rfl) ?_
         refine wl_pass 19 rfl (ps 85 rfl rfl rfl) ?_
         refine wl_pass 20 rfl (ps 85 rfl rfl rfl) ?_
         refine wl_pass 21 rfl (ps 85 rfl rfl rfl) ?_
         refine wl_v 22 rfl (v_pick (b := false) rfl rfl) gn rfl ?_
         refine w_end 23 rfl ?_
         exact g_go [0, 1] (j4 false h) ⟨rfl, rfl, rfl, rfl, rfl, trivial⟩ (.cons_cons _ (.cons_cons _ (.cons_cons _ (.slnil)))) rfl
       ·have h := if_neg' hp655 h
        refine w_bool 76 rfl ((decide_eq_false hp655)) ?_
        refine wl_pass 4 rfl (ps 76 rfl rfl rfl) ?_
        refine wl_pass 5 rfl (ps 76 rfl rfl rfl) ?_
        refine wl_pass 6 rfl (ps 76 rfl rfl rfl) ?_
        refine wl_pass 7 rfl (ps 76 rfl rfl rfl) ?_
        refine wl_pass 8 rfl (ps 76 rfl rfl rfl) ?_
        refine wl_pass 9 rfl (ps 76 rfl rfl rfl) ?_
        refine wl_pass 10 rfl (ps 76 rfl rfl rfl) ?_
        refine wl_v 11 rfl (v_pick (b := false) rfl rfl) gn rfl ?_
        refine wl_v 12 rfl (v_move rfl) gn rfl ?_
        refine wl_pass 13 rfl (ps 85 rfl rfl rfl) ?_
        refine wl_pass 14 rfl (ps 85 rfl rfl rfl) ?_
        refine wl_pass 15 rfl (ps 85 rfl rfl rfl) ?_
        refine wl_pass 16 rfl (ps 85 rfl rfl rfl) ?_
        refine wl_pass 17 rfl (ps 85 rfl rfl rfl) ?_
        refine wl_pass 18 rfl (ps 85 rfl rfl rfl) ?_
        refine wl_pass 19 rfl (ps 85 rfl rfl rfl) ?_
        refine wl_pass 20 rfl (ps 85 rfl rfl rfl) ?_
        refine wl_pass 21 rfl (ps 85 rfl rfl rfl) ?_
        refine wl_v 22 rfl (v_pick (b := false) rfl rfl) gn rfl ?_
        refine w_end 23 rfl ?_
        exact g_go [0, 1] (j4 false h) ⟨rfl, rfl, rfl, rfl, rfl, trivial⟩ (.cons_cons _ (.cons_cons _ (.cons_cons _ (.slnil)))) rfl
     refine g_nil 39 7 ?_
     exact g_go [0, 1] (key3 _ h none 0 0 (Ow.nil (z := w.heap.size))) ⟨rfl, rfl, rfl, rfl, rfl, rfl, rfl, rfl, trivial⟩ (.cons_cons _ (.cons_cons _ (.cons_cons _ (.slnil)))) rfl
   refine g_region (c := q32c15) rfl rfl ?_
   refine wl_v 0 rfl (v_move rfl) gn rfl ?_
   refine wl_v 1 rfl (v_lenQ un_59 rfl h51.hq) gn rfl ?_
   refine wl_v 2 rfl (v_fldB fo_107_1 rfl) gn rfl ?_
   refine wl_v 3 rfl (v_ldB1 0 ld_105 rfl rfl rfl) gn rfl ?_
   refine wl_v 4 rfl (v_lenQ un_105 rfl h70.hq) gn rfl ?_
   refine wl_v 5 rfl (v_bin rfl rfl rfl) gn rfl ?_
   refine wl_v 6 rfl (v_move rfl) gn rfl ?_
   by_cases hp659 : (x47.length : Int) = (((ix x1.gram.prods x46).rhs).length : Int)
   ·have h := if_pos' hp659 h
    refine w_bool 35 rfl ((eqib hp659)) ?_
    refine wl_v 7 rfl (v_move rfl) (gy 35 rfl rfl) rfl ?_
    refine wl_v 8 rfl (v_lenQ un_23 rfl h56.hq) (gy 35 rfl rfl) rfl ?_
    refine wl_v 9 rfl (v_fldB fo_107_1 rfl) (gy 35 rfl rfl) rfl ?_
    refine wl_v 10 rfl (v_ldB1 0 ld_105 rfl rfl rfl) (gy 35 rfl rfl) rfl ?_
    refine wl_v 11 rfl (v_lenQ un_105 rfl h70.hq) (gy 35 rfl rfl) rfl ?_
    refine wl_v 12 rfl (v_bin rfl rfl rfl) (gy 35 rfl rfl) rfl ?_
    refine wl_v 13 rfl (v_bin rfl rfl rfl) (gy 35 rfl rfl) rfl ?_
    refine wl_v 14 rfl (v_pick (b := false) rfl rfl) gn rfl ?_
    refine w_end 15 rfl ?_
    exact g_go [0, 1] (j2 ((x52.length : Int) != (w64 ((((ix x1.gram.prods x46).rhs).length : Int) + 1))) h) ⟨rfl, rfl, rfl, rfl, rfl, trivial⟩ (.cons_cons _ (.cons_cons _ (.slnil))) rfl
   ·have h := if_neg' hp659 h
    refine w_bool 35 rfl ((neib hp659)) ?_
    refine wl_pass 7 rfl (ps 35 rfl rfl rfl) ?_
    refine wl_pass 8 rfl (ps 35 rfl rfl rfl) ?_
    refine wl_pass 9 rfl (ps 35 rfl rfl rfl) ?_
    refine wl_pass 10 rfl (ps 35 rfl rfl rfl) ?_
    refine wl_pass 11 rfl (ps 35 rfl rfl rfl) ?_
    refine wl_pass 12 rfl (ps 35 rfl rfl rfl) ?_
    refine wl_pass 13 rfl (ps 35 rfl rfl rfl) ?_
    refine wl_v 14 rfl (v_pick (b := true) rfl rfl) gn rfl ?_
    refine w_end 15 rfl ?_
    exact g_go [0, 1] (j2 true h) ⟨rfl, rfl, rfl, rfl, rfl, trivial⟩ (.cons_cons _ (.cons_cons _ (.slnil))) rfl
 refine g_region (c := q32c5) rfl rfl ?_
 refine wl_v 0 rfl (v_move rfl) gn rfl ?_
 refine wl_v 1 rfl (v_bin rfl rfl rfl) gn rfl ?_
 refine wl_v 2 rfl (v_move rfl) gn rfl ?_
 by_cases hp660 : x46 < 0
 ·have h := if_pos' hp660 h
  refine w_bool 15 rfl ((decide_eq_true hp660)) ?_
  refine wl_pass 3 rfl (ps 15 rfl rfl rfl) ?_
  refine wl_pass 4 rfl (ps 15 rfl rfl rfl) ?_
  refine wl_pass 5 rfl (ps 15 rfl rfl rfl) ?_
  refine wl_pass 6 rfl (ps 15 rfl rfl rfl) ?_
  refine wl_pass 7 rfl (ps 15 rfl rfl rfl) ?_
  refine wl_pass 8 rfl (ps 15 rfl rfl rfl) ?_
  refine wl_v 9 rfl (v_pick (b := true) rfl rfl) gn rfl ?_
  refine w_end 10 rfl ?_
  exact g_go [0, 1] (j1 true h) ⟨rfl, rfl, rfl, rfl, rfl, trivial⟩ (.cons_cons _ (.slnil)) rfl
 ·have h := if_neg' hp660 h
  refine w_bool 15 rfl ((decide_eq_false hp660)) ?_
  refine wl_v 3 rfl (v_move rfl) (gy 15 rfl rfl) rfl ?_
  refine wl_v 4 rfl (v_fldB fo_58_2 rfl) (gy 15 rfl rfl) rfl ?_
  refine wl_v 5 rfl (v_fldB fo_47_2 rfl) (gy 15 rfl rfl) rfl ?_
  refine wl_v 6 rfl (v_ldB1 0 ld_45 rfl rfl rfl) (gy 15 rfl rfl) rfl ?_
  refine wl_v 7 rfl (v_lenQ un_45 rfl h17.hq) (gy 15 rfl rfl) rfl ?_
  refine wl_v 8 rfl (v_bin rfl rfl rfl) (gy 15 rfl rfl) rfl ?_
  refine wl_v 9 rfl (v_pick (b := false) rfl rfl) gn rfl ?_
  refine w_end 10 rfl ?_
  exact g_go [0, 1] (j1 (decide (x46 ≥ (x1.gram.prods.length : Int))) h) ⟨rfl, rfl, rfl, rfl, rfl, trivial⟩ (.cons_cons _ (.slnil)) rfl
noncomputable abbrev q40c0 : Code := bodyOf Try.f40
noncomputable abbrev q40c1 : Code := Code.fst q40c0
noncomputable abbrev q40c2 : Code := Code.snd q40c0
noncomputable abbrev q40c3 : Code := Code.fst q40c2
noncomputable abbrev q40c4 : Code := Code.snd q40c2
noncomputable abbrev q40c5 : Code := Code.fst q40c3
noncomputable abbrev q40c6 : Code := Code.snd q40c3
noncomputable abbrev q40c7 : Code := Code.fst q40c6
noncomputable abbrev q40c8 : Code := Code.snd q40c6
noncomputable abbrev q40c9 : Code := Code.fst q40c4
noncomputable abbrev q40c10 : Code := Code.snd q40c4
noncomputable abbrev q40c11 : Code := Code.fst q40c9
noncomputable abbrev q40c12 : Code := Code.snd q40c9
noncomputable abbrev q40c13 : Code := Code.fst q40c12
noncomputable abbrev q40c14 : Code := Code.fst q40c13
noncomputable abbrev q40c15 : Code := Code.fst q40c14
noncomputable abbrev q40c16 : Code := Code.snd q40c14
noncomputable abbrev q40c17 : Code := Code.fst q40c15
noncomputable abbrev q40c18 : Code := Code.snd q40c15
noncomputable abbrev q40c19 : Code := Code.fst q40c18
noncomputable abbrev q40c20 : Code := Code.snd q40c18
noncomputable abbrev q40c21 : Code := Code.fst q40c16
noncomputable abbrev q40c22 : Code := Code.snd q40c16
noncomputable abbrev q40c23 : Code := Code.fst q40c21
noncomputable abbrev q40c24 : Code := Code.fst q40c23
noncomputable abbrev q40c25 : Code := Code.snd q40c23
noncomputable abbrev q40c26 : Code := Code.fst q40c25
noncomputable abbrev q40c27 : Code := Code.snd q40c25
noncomputable abbrev q40c28 : Code := Code.fst q40c26
noncomputable abbrev q40c29 : Code := Code.snd q40c26
noncomputable abbrev q40c30 : Code := Code.fst q40c10
noncomputable abbrev q40c31 : Code := Code.snd q40c10
noncomputable abbrev q40c32 : Code := Code.fst q40c7
noncomputable abbrev q40c33 : Code := Code.snd q40c7
abbrev trellislaw15_sameInts_R (w : World) (F : Nat → Prop) (r : Bool) : Ending → World → Prop := fun e w' => e = .returned (.bool r) ∧ B.Loc w w' [] [St w []]
noncomputable abbrev trellislaw15_sameInts_C (w : World) (F : Nat → Prop) (r : Bool) : Cx := ⟨Try.prog, 40, Try.f40, 26, trellislaw15_sameInts_R w F  r, w⟩
theorem trellislaw15_sameInts_calls (w : World) (F : Nat → Prop) (x1 : List Int) (x6 : List Int) (A2 : Option Addr) (n3 : Nat) (c4 : Nat) (A7 : Option Addr) (n8 : Nat) (c9 : Nat) (h5 : Rw (kInt .i64) w (St w []).av A2 n3 c4 x1) (h10 : Rw (kInt .i64) w (St w []).av A7 n8 c9 x6) (hF : ∀ b, F b → b < w.heap.size ∧ ∀ o ∈ ([] : List (List Nat)), b ∉ o) (hL0 : B.Loc w w [] [Sm w.heap.size F w [], St w []]) (r : Bool) (h : trellislaw15_sameInts x1 x6 r) : Calls Try.prog 40 #[.slice A2 n3 c4, .slice A7 n8 c9] w (trellislaw15_sameInts_R w F  r) := by
 unfold trellislaw15_sameInts at h
 refine calls_of_Loc (vs := [.slice A2 n3 c4, .slice A7 n8 c9]) 26 Try.func40 rfl Try.ntmps40 rfl hL0 ?_
 show G (trellislaw15_sameInts_C w F r) _ _ _ _
 refine g_seq (c := q40c0) rfl ?_
 refine g_region (c := q40c1) rfl rfl ?_
 refine wl_v 0 rfl (v_assign rfl) gn rfl ?_
 refine w_end 1 rfl ?_
 refine g_seq (c := q40c2) rfl ?_
 refine g_seq (c := q40c3) rfl ?_
 refine g_region (c := q40c5) rfl rfl ?_
 refine wl_v 0 rfl (v_move rfl) gn rfl ?_
 refine wl_v 1 rfl (v_lenQ un_23 rfl h5.hq) gn rfl ?_
 refine wl_v 2 rfl (v_move rfl) gn rfl ?_
 refine wl_v 3 rfl (v_lenQ un_23 rfl h10.hq) gn rfl ?_
 refine wl_v 4 rfl (v_bin rfl rfl rfl) gn rfl ?_
 refine w_end 5 rfl ?_
 by_cases hp11 : (x1.length : Int) = (x6.length : Int)
 ·have h := if_pos' hp11 h
  refine g_false (c := q40c6) rfl _ rfl ((eqib hp11)) ?_
  refine g_skip (c := q40c8) rfl ?_
  refine g_seq (c := q40c4) rfl ?_
  refine g_seq (c := q40c9) rfl ?_
  refine g_region (c := q40c11) rfl rfl ?_
  refine wl_v 0 rfl (v_assign rfl) gn rfl ?_
  refine w_end 1 rfl ?_
  refine g_block (c := q40c12) rfl ?_
  refine g_loop (c := q40c13) rfl ?_
  have key1 : ∀ s, Rounds (fun (s : Int) o => trellislaw15_sameInts_b1 x1 x6 s o) s r → (fun (s : Int) => ∀ (_ : Unit), G (trellislaw15_sameInts_C w F r) [.code q40c14, .inLoop q40c14, .inBlock 0, .code q40c10] [(0, .slice A2 n3 c4), (1, .slice A7 n8 c9), (5, .int .i64 s)] [] [Sm w.heap.size F w [], St w []]) s := by
   intro s hs
   refine Rounds.ind (mot := (fun (s : Int) => ∀ (_ : Unit), G (trellislaw15_sameInts_C w F r) [.code q40c14, .inLoop q40c14, .inBlock 0, .code q40c10] [(0, .slice A2 n3 c4), (1, .slice A7 n8 c9), (5, .int .i64 s)] [] [Sm w.heap.size F w [], St w []])) ?_ hs
   clear hs s
   intro x23 o1 h hO1
   show ∀ (_ : Unit), G (trellislaw15_sameInts_C w F r) [.code q40c14, .inLoop q40c14, .inBlock 0, .code q40c10] [(0, .slice A2 n3 c4), (1, .slice A7 n8 c9), (5, .int .i64 x23)] [] [Sm w.heap.size F w [], St w []]
   intro _
   have h : trellislaw15_sameInts_b1 x1 x6 x23 o1 := h
   unfold trellislaw15_sameInts_b1 at h
   refine g_seq (c := q40c14) rfl ?_
   refine g_seq (c := q40c15) rfl ?_
   refine g_region (c := q40c17) rfl rfl ?_
   refine wl_v 0 rfl (v_move rfl) gn rfl ?_
   refine wl_v 1 rfl (v_move rfl) gn rfl ?_
   refine wl_v 2 rfl (v_lenQ un_23 rfl h5.hq) gn rfl ?_
   refine wl_v 3 rfl (v_bin rfl rfl rfl) gn rfl ?_
   refine w_end 4 rfl ?_
   by_cases hp34 : x23 < (x1.length : Int)
   ·have h := if_pos' hp34 h
    refine g_true (c := q40c18) rfl _ rfl ((decide_eq_true hp34)) ?_
    refine g_skip (c := q40c19) rfl ?_
    refine g_seq (c := q40c16) rfl ?_
    refine g_block (c := q40c21) rfl ?_
    refine g_seq (c := q40c23) rfl ?_
    obtain ⟨hb35, h⟩ := h
    obtain ⟨hb37, h⟩ := h
    have hns : Region.noSelect (Code.ops q40c24) = true := by kernel_rfl
    refine g_drawF (c := q40c24) [] [Sm w.heap.size F w [], St w []] [] 9 rfl rfl mix rfl (.slnil) (sels [0, 1] rfl) ?_
    refine wfv 0 rfl (v_move rfl) gn hns rfl ?_
    refine wfv 1 rfl (v_move rfl) gn hns rfl ?_
    have hr41 := Rw.readF (s := St w []) (hl := (hlI .i64)) (h1 := (hone_int .i64)) h5 hb35
    refine wfv 2 rfl (v_idxR (s := St w []) slE_23 rfl rfl h5 hb35) gn hns rfl ?_
    refine wfv 3 rfl (v_ldA1 (kk := (x23 : Int).toNat * 1) (j := 0) (St w []) ld_3 rfl hr41 rfl (me 1 rfl)) gn hns rfl ?_
    refine wfv 4 rfl (v_move rfl) gn hns rfl ?_
    refine wfv 5 rfl (v_move rfl) gn hns rfl ?_
    have hr42 := Rw.readF (s := St w []) (hl := (hlI .i64)) (h1 := (hone_int .i64)) h10 hb37
    refine wfv 6 rfl (v_idxR (s := St w []) slE_23 rfl rfl h10 hb37) gn hns rfl ?_
    refine wfv 7 rfl (v_ldA1 (kk := (x23 : Int).toNat * 1) (j := 0) (St w []) ld_3 rfl hr42 rfl (me 1 rfl)) gn hns rfl ?_
    refine wfv 8 rfl (v_bin rfl rfl rfl) gn hns rfl ?_
    refine wf_end (by kernel_rfl) ?_
    by_cases hp43 : ix x1 x23 = ix x6 x23
    ·have h := if_pos' hp43 h
     refine g_false (c := q40c25) rfl _ rfl ((eqib hp43)) ?_
     refine g_skip (c := q40c27) rfl ?_
     refine g_inBlock ?_
     refine g_region (c := q40c22) rfl rfl ?_
     refine wl_v 0 rfl (v_move rfl) gn rfl ?_
     refine wl_v 1 rfl (v_bin rfl rfl rfl) gn rfl ?_
     refine wl_v 2 rfl (v_assign rfl) gn rfl ?_
     refine w_end 3 rfl ?_
     refine g_inLoop ?_
     have ih := Out.inl hO1 h
     exact g_go [0, 1] (ih ()) ⟨rfl, rfl, rfl, trivial⟩ (.slnil) rfl
    ·have h := if_neg' hp43 h
     refine g_true (c := q40c25) rfl _ rfl ((neib hp43)) ?_
     refine g_seq (c := q40c26) rfl ?_
     refine g_region (c := q40c28) rfl rfl ?_
     refine wl_v 0 rfl (v_assign rfl) gn rfl ?_
     refine w_end 1 rfl ?_
     have h := Out.inr hO1 h
     refine g_retR (c := q40c29) [.bool false] rfl Try.func40 rfl (.tmp rfl (.nil)) fun wr hLr => ?_
     have hMr : B.Loc w wr [] [St w []] := hLr.pick0 (sels [1] rfl)
     show trellislaw15_sameInts_R w F  r (.returned (packV [.bool false])) wr
     rw [h]
     exact ⟨rfl, hMr⟩
   ·have h := if_neg' hp34 h
    refine g_false (c := q40c18) rfl _ rfl ((decide_eq_false hp34)) ?_
    refine g_exit (c := q40c20) [.code q40c10] rfl rfl ?_
    refine g_seq (c := q40c10) rfl ?_
    refine g_region (c := q40c30) rfl rfl ?_
    refine wl_v 0 rfl (v_assign rfl) gn rfl ?_
    refine w_end 1 rfl ?_
    have h := Out.inr hO1 h
    refine g_retR (c := q40c31) [.bool true] rfl Try.func40 rfl (.tmp rfl (.nil)) fun wr hLr => ?_
    have hMr : B.Loc w wr [] [St w []] := hLr.pick0 (sels [1] rfl)
    show trellislaw15_sameInts_R w F  r (.returned (packV [.bool true])) wr
    rw [h]
    exact ⟨rfl, hMr⟩
  exact g_go [0, 1] (key1 _ h ()) ⟨rfl, rfl, rfl, trivial⟩ (.slnil) rfl
 ·have h := if_neg' hp11 h
  refine g_true (c := q40c6) rfl _ rfl ((neib hp11)) ?_
  refine g_seq (c := q40c7) rfl ?_
  refine g_region (c := q40c32) rfl rfl ?_
  refine wl_v 0 rfl (v_assign rfl) gn rfl ?_
  refine w_end 1 rfl ?_
  refine g_retR (c := q40c33) [.bool false] rfl Try.func40 rfl (.tmp rfl (.nil)) fun wr hLr => ?_
  have hMr : B.Loc w wr [] [St w []] := hLr.pick0 (sels [1] rfl)
  show trellislaw15_sameInts_R w F  r (.returned (packV [.bool false])) wr
  rw [h]
  exact ⟨rfl, hMr⟩
noncomputable abbrev q42c0 : Code := bodyOf Try.f42
noncomputable abbrev q42c1 : Code := Code.fst q42c0
noncomputable abbrev q42c2 : Code := Code.snd q42c0
noncomputable abbrev q42c3 : Code := Code.fst q42c2
noncomputable abbrev q42c4 : Code := Code.snd q42c2
noncomputable abbrev q42c5 : Code := Code.fst q42c4
noncomputable abbrev q42c6 : Code := Code.snd q42c4
noncomputable abbrev q42c7 : Code := Code.fst q42c5
noncomputable abbrev q42c8 : Code := Code.snd q42c5
noncomputable abbrev q42c9 : Code := Code.fst q42c8
noncomputable abbrev q42c10 : Code := Code.snd q42c8
noncomputable abbrev q42c11 : Code := Code.fst q42c6
noncomputable abbrev q42c12 : Code := Code.snd q42c6
noncomputable abbrev q42c13 : Code := Code.fst q42c9
noncomputable abbrev q42c14 : Code := Code.snd q42c9
abbrev tree_Kids_R (w : World) (F : Nat → Prop) (r : List Int) : Ending → World → Prop := fun e w' => ∃ A0 : Option Addr, ∃ n0 : Nat, ∃ c0 : Nat, e = .returned (.slice A0 n0 c0) ∧ B.Loc w w' [.own (.slice A0 n0 c0) 3 1 n0 (r.flatMap (eI .i64))] [St w []] ∧ Ow w.heap.size A0 n0 c0 r
noncomputable abbrev tree_Kids_C (w : World) (F : Nat → Prop) (r : List Int) : Cx := ⟨Try.prog, 42, Try.f42, 21, tree_Kids_R w F  r, w⟩
theorem tree_Kids_calls (w : World) (F : Nat → Prop) (x1 : List api_Node) (x6 : Int) (A2 : Option Addr) (n3 : Nat) (c4 : Nat) (h5 : Rw k_api_Node w (St w []).av A2 n3 c4 x1) (hF : ∀ b, F b → b < w.heap.size ∧ ∀ o ∈ ([] : List (List Nat)), b ∉ o) (hL0 : B.Loc w w [] [Sm w.heap.size F w [], St w []]) (r : List Int) (h : tree_Kids x1 x6 r) : Calls Try.prog 42 #[.slice A2 n3 c4, .int .i64 x6] w (tree_Kids_R w F  r) := by
 unfold tree_Kids at h
 refine calls_of_Loc (vs := [.slice A2 n3 c4, .int .i64 x6]) 21 Try.func42 rfl Try.ntmps42 rfl hL0 ?_
 show G (tree_Kids_C w F r) _ _ _ _
 refine g_seq (c := q42c0) rfl ?_
 refine g_region (c := q42c1) rfl rfl ?_
 refine wl_v 0 rfl (v_assign rfl) gn rfl ?_
 refine w_end 1 rfl ?_
 refine g_seq (c := q42c2) rfl ?_
 refine g_region (c := q42c3) rfl rfl ?_
 refine wl_v 0 rfl (v_move rfl) gn rfl ?_
 obtain ⟨r10, hv11, h⟩ := h
 refine wl_s 1 rfl (s_call [.slice A2 n3 c4] rfl Try.func44 rfl rfl rfl fun w7 hL8 => ?_) gn
 have hp9 : List.Perm ([] : List Ent) (([] : List Ent) ++ ([] : List Ent)) := perm_of_idx [] [] rfl rfl (by kernel_rfl)
 refine Calls.mono (tree_plant_calls w7 (Fl ([St w []] : List Snap)) x1 A2 n3 c4 (Rw.mono h5 (hL8.toFl (me 1 rfl) (me 0 rfl))) (hL8.hFl (Sl := ([St w []] : List Snap)) hp9 (sels [1] rfl)) (hL8.into hp9 (Fl ([St w []] : List Snap))) r10 hv11) ?_
 rintro _ w26 ⟨A16, n17, c18, A21, n22, c23, A12, n13, c14, rfl, hM27, h19, h24, h15⟩
 obtain ⟨sv30, hL28, hv29⟩ := hL8.callN (Sl := ([St w []] : List Snap)) hp9 hM27 (sels [1] rfl)
 have h15 : At k_api_Node (sv30) A12 n13 c14 r10.nodes := Rw.mono h15 hv29
 refine ⟨_, _, _, rfl, hL28, ?_⟩
 refine wl_s 2 rfl (s_alloc [.slice none 0 0, .slice none 0 0, .slice none 0 0, .bool false] zr_32 rfl fun gb31 => ?_) gn
 refine wl_s 3 rfl (s_stB (vs := [.slice A12 n13 c14, .slice A16 n17 c18, .slice A21 n22 c23, .bool r10.ok]) (cs' := [.slice A12 n13 c14, .slice A16 n17 c18, .slice A21 n22 c23, .bool r10.ok]) (M' := [.box gb31 32 [.slice A12 n13 c14, .slice A16 n17 c18, .slice A21 n22 c23, .bool r10.ok], .own (.slice A16 n17 c18) 3 1 n17 (r10.parent.flatMap (eI .i64)), .own (.slice A21 n22 c23) 3 1 n22 (r10.end_.flatMap (eI .i64))]) 0 sz_32 rfl rfl rfl rfl rfl rfl rfl rfl rfl ?_) gn
 refine w_end 4 rfl ?_
 refine g_seq (c := q42c4) rfl ?_
 refine g_seq (c := q42c5) rfl ?_
 refine g_region (c := q42c7) rfl rfl ?_
 refine wl_v 0 rfl (v_ldB [.slice A12 n13 c14, .slice A16 n17 c18, .slice A21 n22 c23, .bool r10.ok] 0 ld_32 rfl rfl rfl rfl) gn rfl ?_
 refine wl_v 1 rfl (v_move rfl) gn rfl ?_
 obtain ⟨r36, hv37, h⟩ := h
 refine wl_s 2 rfl (s_call [.agg #[.slice A12 n13 c14, .slice A16 n17 c18, .slice A21 n22 c23, .bool r10.ok], .int .i64 x6] rfl Try.func46 rfl rfl rfl fun w33 hL34 => ?_) gn
 have hp35 : List.Perm ([.box gb31 32 [.slice A12 n13 c14, .slice A16 n17 c18, .slice A21 n22 c23, .bool r10.ok], .own (.slice A16 n17 c18) 3 1 n17 (r10.parent.flatMap (eI .i64)), .own (.slice A21 n22 c23) 3 1 n22 (r10.end_.flatMap (eI .i64))] : List Ent) (([] : List Ent) ++ ([.box gb31 32 [.slice A12 n13 c14, .slice A16 n17 c18, .slice A21 n22 c23, .bool r10.ok], .own (.slice A16 n17 c18) 3 1 n17 (r10.parent.flatMap (eI .i64)), .own (.slice A21 n22 c23) 3 1 n22 (r10.end_.flatMap (eI .i64))] : List Ent)) := perm_of_idx [] [0, 1, 2] rfl rfl (by kernel_rfl)
 refine Calls.mono (tree_forest_has_calls w33 (Fl ([] : List Snap)) r10 x6 A12 n13 c14 A16 n17 c18 A21 n22 c23 (Rw.mono h15 (hL34.toSt hp35 (me 0 rfl))) (hL34.argO (dk := (kInt .i64)) hp35 [] rfl 1 rfl rfl (Ow.weak hL8.env.size h19) (me 1 rfl) (Cells.flat _)) (hL34.argO (dk := (kInt .i64)) hp35 [] rfl 2 rfl rfl (Ow.weak hL8.env.size h24) (me 1 rfl) (Cells.flat _)) (hL34.hFl (Sl := ([] : List Snap)) hp35 (sels [] rfl)) (hL34.into hp35 (Fl ([] : List Snap))) r36 hv37) ?_
 rintro _ w38 ⟨rfl, hM39⟩
 have hL40 := hL34.call hp35 hM39
 refine ⟨_, _, _, rfl, hL40, ?_⟩
 refine wl_v 3 rfl (v_not rfl) gn rfl ?_
 refine w_end 4 rfl ?_
 by_cases hp41 : r36 = true
 ·have h := if_pos' hp41 h
  refine g_false (c := q42c8) rfl _ rfl ((nf hp41)) ?_
  refine g_skip (c := q42c10) rfl ?_
  refine g_seq (c := q42c6) rfl ?_
  obtain ⟨hb42, h⟩ := h
  obtain ⟨r46, hv47, h⟩ := h
  have hns : Region.noSelect (Code.ops q42c11) = true := by kernel_rfl
  refine g_drawF (c := q42c11) [.box gb31 32 [.slice A12 n13 c14, .slice A16 n17 c18, .slice A21 n22 c23, .bool r10.ok], .own (.slice A16 n17 c18) 3 1 n17 (r10.parent.flatMap (eI .i64)), .own (.slice A21 n22 c23) 3 1 n22 (r10.end_.flatMap (eI .i64))] [sv30, Sm w.heap.size F w [], St w []] [] 10 rfl rfl mix rfl (.cons_cons _ (.cons_cons _ (.cons_cons _ (.slnil)))) (sels [0, 1, 2] rfl) ?_
  refine wfv 0 rfl (v_ldB [.slice A12 n13 c14, .slice A16 n17 c18, .slice A21 n22 c23, .bool r10.ok] 0 ld_32 rfl rfl rfl rfl) gn hns rfl ?_
  refine wfv 1 rfl (v_move rfl) gn hns rfl ?_
  refine wfv 2 rfl (v_bin rfl rfl rfl) gn hns rfl ?_
  refine wfv 3 rfl (v_fldB fo_32_2 rfl) gn hns rfl ?_
  refine wfv 4 rfl (v_ldB1 0 ld_23 rfl rfl rfl) gn hns rfl ?_
  refine wfv 5 rfl (v_move rfl) gn hns rfl ?_
  refine wfv 6 rfl (v_idxO slE_23 rfl rfl (Ow.weak hL8.env.size h24) hb42) gn hns rfl ?_
  refine wfv 7 rfl (v_ldO1 (.int .i64 (ix r10.end_ x6)) 2 ld_3 rfl rfl (fm_get0 (hlI .i64) hb42 rfl)) gn hns rfl ?_
  refine wf_all [8] (by kernel_rfl) rfl ⟨on_s 8 rfl gn rfl (s_call [.agg #[.slice A12 n13 c14, .slice A16 n17 c18, .slice A21 n22 c23, .bool r10.ok], .int .i64 (w64 (x6 + 1)), .int .i64 (ix r10.end_ x6)] rfl Try.func66 rfl rfl rfl fun w86 hL87 => ?_), trivial⟩
  have hp88 : List.Perm ([.box gb31 32 [.slice A12 n13 c14, .slice A16 n17 c18, .slice A21 n22 c23, .bool r10.ok], .own (.slice A16 n17 c18) 3 1 n17 (r10.parent.flatMap (eI .i64)), .own (.slice A21 n22 c23) 3 1 n22 (r10.end_.flatMap (eI .i64))] : List Ent) (([] : List Ent) ++ ([.box gb31 32 [.slice A12 n13 c14, .slice A16 n17 c18, .slice A21 n22 c23, .bool r10.ok], .own (.slice A16 n17 c18) 3 1 n17 (r10.parent.flatMap (eI .i64)), .own (.slice A21 n22 c23) 3 1 n22 (r10.end_.flatMap (eI .i64))] : List Ent)) := perm_of_idx [] [0, 1, 2] rfl rfl (by kernel_rfl)
  refine Calls.mono (tree_forest_beside_calls w86 (Fl ([] : List Snap)) r10 (w64 (x6 + 1)) (ix r10.end_ x6) A12 n13 c14 A16 n17 c18 A21 n22 c23 (Rw.mono h15 (hL87.toSt hp88 (me 0 rfl))) (hL87.argO (dk := (kInt .i64)) hp88 [] rfl 1 rfl rfl (Ow.weak hL8.env.size h19) (me 1 rfl) (Cells.flat _)) (hL87.argO (dk := (kInt .i64)) hp88 [] rfl 2 rfl rfl (Ow.weak hL8.env.size h24) (me 1 rfl) (Cells.flat _)) (hL87.hFl (Sl := ([] : List Snap)) hp88 (sels [] rfl)) (hL87.into hp88 (Fl ([] : List Snap))) r46 hv47) ?_
  rintro _ w93 ⟨A89, n90, c91, rfl, hM94, h92⟩
  have hL95 := hL87.call hp88 hM94
  refine ⟨_, _, _, rfl, hL95, ?_⟩
  refine ⟨sels [1, 2, 3] rfl, sels [0, 1, 2] rfl, ?_⟩
  refine wfv 9 rfl (v_assign rfl) gn hns rfl ?_
  refine wf_end (by kernel_rfl) ?_
  refine g_retR (c := q42c12) [.slice A89 n90 c91] rfl Try.func42 rfl (.tmp rfl (.nil)) fun wr hLr => ?_
  have hMr : B.Loc w wr [.own (.slice A89 n90 c91) 3 1 n90 (r46.flatMap (eI .i64))] [St w []] := hLr.pick (rest := [.box gb31 32 [.slice A12 n13 c14, .slice A16 n17 c18, .slice A21 n22 c23, .bool r10.ok], .own (.slice A16 n17 c18) 3 1 n17 (r10.parent.flatMap (eI .i64)), .own (.slice A21 n22 c23) 3 1 n22 (r10.end_.flatMap (eI .i64))]) (perm_of_idx [0] [1, 2, 3] rfl rfl (by kernel_rfl)) (sels [2] rfl)
  show tree_Kids_R w F  r (.returned (packV [.slice A89 n90 c91])) wr
  rw [h]
  exact ⟨A89, n90, c91, rfl, hMr, (Ow.weak hL87.env.size h92)⟩
 ·have h := if_neg' hp41 h
  refine g_true (c := q42c8) rfl _ rfl ((nt (bf hp41))) ?_
  refine g_seq (c := q42c9) rfl ?_
  refine g_region (c := q42c13) rfl rfl ?_
  refine wl_v 0 rfl (v_assign rfl) gn rfl ?_
  refine w_end 1 rfl ?_
  refine g_nil 3 1 ?_
  refine g_retR (c := q42c14) [.slice none 0 0] rfl Try.func42 rfl (.tmp rfl (.nil)) fun wr hLr => ?_
  have hMr : B.Loc w wr [.own (.slice none 0 0) 3 1 0 (([] : List Int).flatMap (eI .i64))] [St w []] := hLr.pick (rest := [.box gb31 32 [.slice A12 n13 c14, .slice A16 n17 c18, .slice A21 n22 c23, .bool r10.ok], .own (.slice A16 n17 c18) 3 1 n17 (r10.parent.flatMap (eI .i64)), .own (.slice A21 n22 c23) 3 1 n22 (r10.end_.flatMap (eI .i64))]) (perm_of_idx [0] [1, 2, 3] rfl rfl (by kernel_rfl)) (sels [2] rfl)
  show tree_Kids_R w F  r (.returned (packV [.slice none 0 0])) wr
  rw [h]
  exact ⟨none, 0, 0, rfl, hMr, (Ow.nil (z := w.heap.size))⟩
noncomputable abbrev q39c0 : Code := bodyOf Try.f39
noncomputable abbrev q39c1 : Code := Code.fst q39c0
noncomputable abbrev q39c2 : Code := Code.snd q39c0
noncomputable abbrev q39c3 : Code := Code.fst q39c2
noncomputable abbrev q39c4 : Code := Code.snd q39c2
noncomputable abbrev q39c5 : Code := Code.fst q39c4
noncomputable abbrev q39c6 : Code := Code.snd q39c4
noncomputable abbrev q39c7 : Code := Code.fst q39c5
noncomputable abbrev q39c8 : Code := Code.snd q39c5
noncomputable abbrev q39c9 : Code := Code.fst q39c8
noncomputable abbrev q39c10 : Code := Code.snd q39c8
noncomputable abbrev q39c11 : Code := Code.fst q39c6
noncomputable abbrev q39c12 : Code := Code.snd q39c6
noncomputable abbrev q39c13 : Code := Code.fst q39c12
noncomputable abbrev q39c14 : Code := Code.snd q39c12
noncomputable abbrev q39c15 : Code := Code.fst q39c13
noncomputable abbrev q39c16 : Code := Code.snd q39c13
noncomputable abbrev q39c17 : Code := Code.fst q39c16
noncomputable abbrev q39c18 : Code := Code.fst q39c17
noncomputable abbrev q39c19 : Code := Code.fst q39c18
noncomputable abbrev q39c20 : Code := Code.snd q39c18
noncomputable abbrev q39c21 : Code := Code.fst q39c19
noncomputable abbrev q39c22 : Code := Code.snd q39c19
noncomputable abbrev q39c23 : Code := Code.fst q39c22
noncomputable abbrev q39c24 : Code := Code.snd q39c22
noncomputable abbrev q39c25 : Code := Code.fst q39c20
noncomputable abbrev q39c26 : Code := Code.fst q39c25
noncomputable abbrev q39c27 : Code := Code.snd q39c25
noncomputable abbrev q39c28 : Code := Code.fst q39c27
noncomputable abbrev q39c29 : Code := Code.snd q39c27
noncomputable abbrev q39c30 : Code := Code.fst q39c28
noncomputable abbrev q39c31 : Code := Code.snd q39c28
noncomputable abbrev q39c32 : Code := Code.fst q39c14
noncomputable abbrev q39c33 : Code := Code.snd q39c14
noncomputable abbrev q39c34 : Code := Code.fst q39c9
noncomputable abbrev q39c35 : Code := Code.snd q39c9
abbrev tree_Path_R (w : World) (F : Nat → Prop) (r : List Int) : Ending → World → Prop := fun e w' => ∃ A0 : Option Addr, ∃ n0 : Nat, ∃ c0 : Nat, e = .returned (.slice A0 n0 c0) ∧ B.Loc w w' [.own (.slice A0 n0 c0) 3 1 n0 (r.flatMap (eI .i64))] [St w []] ∧ Ow w.heap.size A0 n0 c0 r
noncomputable abbrev tree_Path_C (w : World) (F : Nat → Prop) (r : List Int) : Cx := ⟨Try.prog, 39, Try.f39, 52, tree_Path_R w F  r, w⟩
theorem tree_Path_calls (w : World) (F : Nat → Prop) (x1 : List api_Node) (x6 : Int) (A2 : Option Addr) (n3 : Nat) (c4 : Nat) (h5 : Rw k_api_Node w (St w []).av A2 n3 c4 x1) (hF : ∀ b, F b → b < w.heap.size ∧ ∀ o ∈ ([] : List (List Nat)), b ∉ o) (hL0 : B.Loc w w [] [Sm w.heap.size F w [], St w []]) (r : List Int) (h : tree_Path x1 x6 r) : Calls Try.prog 39 #[.slice A2 n3 c4, .int .i64 x6] w (tree_Path_R w F  r) := by
 unfold tree_Path at h
 refine calls_of_Loc (vs := [.slice A2 n3 c4, .int .i64 x6]) 52 Try.func39 rfl Try.ntmps39 rfl hL0 ?_
 show G (tree_Path_C w F r) _ _ _ _
 refine g_seq (c := q39c0) rfl ?_
 refine g_region (c := q39c1) rfl rfl ?_
 refine wl_v 0 rfl (v_assign rfl) gn rfl ?_
 refine w_end 1 rfl ?_
 refine g_seq (c := q39c2) rfl ?_
 refine g_region (c := q39c3) rfl rfl ?_
 refine wl_v 0 rfl (v_move rfl) gn rfl ?_
 obtain ⟨r10, hv11, h⟩ := h
 refine wl_s 1 rfl (s_call [.slice A2 n3 c4] rfl Try.func44 rfl rfl rfl fun w7 hL8 => ?_) gn
 have hp9 : List.Perm ([] : List Ent) (([] : List Ent) ++ ([] : List Ent)) := perm_of_idx [] [] rfl rfl (by kernel_rfl)
 refine Calls.mono (tree_plant_calls w7 (Fl ([St w []] : List Snap)) x1 A2 n3 c4 (Rw.mono h5 (hL8.toFl (me 1 rfl) (me 0 rfl))) (hL8.hFl (Sl := ([St w []] : List Snap)) hp9 (sels [1] rfl)) (hL8.into hp9 (Fl ([St w []] : List Snap))) r10 hv11) ?_
 rintro _ w26 ⟨A16, n17, c18, A21, n22, c23, A12, n13, c14, rfl, hM27, h19, h24, h15⟩
 obtain ⟨sv30, hL28, hv29⟩ := hL8.callN (Sl := ([St w []] : List Snap)) hp9 hM27 (sels [1] rfl)
 have h15 : At k_api_Node (sv30) A12 n13 c14 r10.nodes := Rw.mono h15 hv29
 refine ⟨_, _, _, rfl, hL28, ?_⟩
 refine wl_s 2 rfl (s_alloc [.slice none 0 0, .slice none 0 0, .slice none 0 0, .bool false] zr_32 rfl fun gb31 => ?_) gn
 refine wl_s 3 rfl (s_stB (vs := [.slice A12 n13 c14, .slice A16 n17 c18, .slice A21 n22 c23, .bool r10.ok]) (cs' := [.slice A12 n13 c14, .slice A16 n17 c18, .slice A21 n22 c23, .bool r10.ok]) (M' := [.box gb31 32 [.slice A12 n13 c14, .slice A16 n17 c18, .slice A21 n22 c23, .bool r10.ok], .own (.slice A16 n17 c18) 3 1 n17 (r10.parent.flatMap (eI .i64)), .own (.slice A21 n22 c23) 3 1 n22 (r10.end_.flatMap (eI .i64))]) 0 sz_32 rfl rfl rfl rfl rfl rfl rfl rfl rfl ?_) gn
 refine w_end 4 rfl ?_
 refine g_seq (c := q39c4) rfl ?_
 refine g_seq (c := q39c5) rfl ?_
 refine g_region (c := q39c7) rfl rfl ?_
 refine wl_v 0 rfl (v_fldB fo_32_3 rfl) gn rfl ?_
 refine wl_v 1 rfl (v_ldB1 0 ld_4 rfl rfl rfl) gn rfl ?_
 refine wl_v 2 rfl (v_not rfl) gn rfl ?_
 refine w_end 3 rfl ?_
 by_cases hp33 : r10.ok = true
 ·have h := if_pos' hp33 h
  refine g_false (c := q39c8) rfl _ rfl ((nf hp33)) ?_
  refine g_skip (c := q39c10) rfl ?_
  refine g_seq (c := q39c6) rfl ?_
  refine g_region (c := q39c11) rfl rfl ?_
  refine wl_v 0 rfl (v_assign rfl) gn rfl ?_
  refine w_end 1 rfl ?_
  refine g_seq (c := q39c12) rfl ?_
  refine g_seq (c := q39c13) rfl ?_
  refine g_region (c := q39c15) rfl rfl ?_
  refine wl_v 0 rfl (v_move rfl) gn rfl ?_
  refine wl_v 1 rfl (v_lenQ un_22 rfl h5.hq) gn rfl ?_
  refine wl_v 2 rfl (v_assign rfl) gn rfl ?_
  refine wl_v 3 rfl (v_assign rfl) gn rfl ?_
  refine w_end 4 rfl ?_
  refine g_block (c := q39c16) rfl ?_
  refine g_loop (c := q39c17) rfl ?_
  have key1 : ∀ s, Rounds (fun (s : (List Int) × Int × Int) o => tree_Path_b1 x1 x6 r10 s.1 s.2.1 s.2.2 o) s r → (fun (s : (List Int) × Int × Int) => ∀ (A60 : Option Addr) (n61 : Nat) (c62 : Nat) (h63 : Ow w.heap.size A60 n61 c62 s.1), G (tree_Path_C w F r) [.code q39c18, .inLoop q39c18, .inBlock 0, .code q39c14] [(0, .slice A2 n3 c4), (1, .int .i64 x6), (5, .pointer (some ⟨gb31, 0, none⟩)), (6, .slice A60 n61 c62), (7, .int .i64 s.2.1), (8, .int .i64 s.2.2)] [.own (.slice A60 n61 c62) 3 1 n61 (s.1.flatMap (eI .i64)), .box gb31 32 [.slice A12 n13 c14, .slice A16 n17 c18, .slice A21 n22 c23, .bool r10.ok], .own (.slice A16 n17 c18) 3 1 n17 (r10.parent.flatMap (eI .i64)), .own (.slice A21 n22 c23) 3 1 n22 (r10.end_.flatMap (eI .i64))] [sv30, Sm w.heap.size F w [], St w []]) s := by
   intro s hs
   refine Rounds.ind (mot := (fun (s : (List Int) × Int × Int) => ∀ (A60 : Option Addr) (n61 : Nat) (c62 : Nat) (h63 : Ow w.heap.size A60 n61 c62 s.1), G (tree_Path_C w F r) [.code q39c18, .inLoop q39c18, .inBlock 0, .code q39c14] [(0, .slice A2 n3 c4), (1, .int .i64 x6), (5, .pointer (some ⟨gb31, 0, none⟩)), (6, .slice A60 n61 c62), (7, .int .i64 s.2.1), (8, .int .i64 s.2.2)] [.own (.slice A60 n61 c62) 3 1 n61 (s.1.flatMap (eI .i64)), .box gb31 32 [.slice A12 n13 c14, .slice A16 n17 c18, .slice A21 n22 c23, .bool r10.ok], .own (.slice A16 n17 c18) 3 1 n17 (r10.parent.flatMap (eI .i64)), .own (.slice A21 n22 c23) 3 1 n22 (r10.end_.flatMap (eI .i64))] [sv30, Sm w.heap.size F w [], St w []])) ?_ hs
   clear hs s
   intro s o1 h hO1
   obtain ⟨x59, x64, x65⟩ := s
   show ∀ (A60 : Option Addr) (n61 : Nat) (c62 : Nat) (h63 : Ow w.heap.size A60 n61 c62 x59), G (tree_Path_C w F r) [.code q39c18, .inLoop q39c18, .inBlock 0, .code q39c14] [(0, .slice A2 n3 c4), (1, .int .i64 x6), (5, .pointer (some ⟨gb31, 0, none⟩)), (6, .slice A60 n61 c62), (7, .int .i64 x64), (8, .int .i64 x65)] [.own (.slice A60 n61 c62) 3 1 n61 (x59.flatMap (eI .i64)), .box gb31 32 [.slice A12 n13 c14, .slice A16 n17 c18, .slice A21 n22 c23, .bool r10.ok], .own (.slice A16 n17 c18) 3 1 n17 (r10.parent.flatMap (eI .i64)), .own (.slice A21 n22 c23) 3 1 n22 (r10.end_.flatMap (eI .i64))] [sv30, Sm w.heap.size F w [], St w []]
   intro A60 n61 c62 h63
   have h : tree_Path_b1 x1 x6 r10 x59 x64 x65 o1 := h
   unfold tree_Path_b1 at h
   refine g_seq (c := q39c18) rfl ?_
   refine g_seq (c := q39c19) rfl ?_
   refine g_region (c := q39c21) rfl rfl ?_
   refine wl_v 0 rfl (v_move rfl) gn rfl ?_
   refine wl_v 1 rfl (v_move rfl) gn rfl ?_
   refine wl_v 2 rfl (v_bin rfl rfl rfl) gn rfl ?_
   refine w_end 3 rfl ?_
   by_cases hp89 : x64 < x65
   ·have h := if_pos' hp89 h
    refine g_true (c := q39c22) rfl _ rfl ((decide_eq_true hp89)) ?_
    refine g_skip (c := q39c23) rfl ?_
    refine g_block (c := q39c20) rfl ?_
    refine g_seq (c := q39c25) rfl ?_
    have j2 : ∀ (x95 : Bool) (h : tree_Path_j2 x59 x64 r10 x65 x95 o1) , G (tree_Path_C w F r) [.code q39c27, .inBlock 1, .inLoop q39c18, .inBlock 0, .code q39c14] [(0, .slice A2 n3 c4), (1, .int .i64 x6), (5, .pointer (some ⟨gb31, 0, none⟩)), (6, .slice A60 n61 c62), (7, .int .i64 x64), (8, .int .i64 x65), (34, .bool x95)] [.own (.slice A60 n61 c62) 3 1 n61 (x59.flatMap (eI .i64)), .box gb31 32 [.slice A12 n13 c14, .slice A16 n17 c18, .slice A21 n22 c23, .bool r10.ok], .own (.slice A16 n17 c18) 3 1 n17 (r10.parent.flatMap (eI .i64)), .own (.slice A21 n22 c23) 3 1 n22 (r10.end_.flatMap (eI .i64))] [sv30, Sm w.heap.size F w [], St w []] := by
     intro x95 h
     unfold tree_Path_j2 at h
     by_cases hp96 : x95 = true
     ·have h := if_pos' hp96 h
      refine g_true (c := q39c27) rfl _ rfl (hp96) ?_
      refine g_seq (c := q39c28) rfl ?_
      refine g_region (c := q39c30) rfl rfl ?_
      refine wl_v 0 rfl (v_move rfl) gn rfl ?_
      refine wl_v 1 rfl (v_move rfl) gn rfl ?_
      refine wl_s 2 rfl (s_litO (xs := ([x64] : List Int)) [.int .i64 x64] bs_23_1 rfl (by kernel_rfl) rfl rfl rfl rfl fun gb98 h99 => ?_) gn
      obtain ⟨x103, hv104, h⟩ := h
      obtain ⟨hb105, h⟩ := h
      refine wl_s 3 rfl (s_app (zs := x103) (cells' := x103.flatMap (eI .i64)) 1 ap_23 rfl rfl rfl h63 (Nat.le_refl _) (Src.ownF (hl := (hlI .i64)) (h1 := (hone_int .i64)) 0 rfl h99) (by rw [hv104, List.flatMap_append] <;> rfl) (app_len hv104 h99.hq) hb105 rfl rfl fun A100 c101 h102 => ?_) gn
      refine wl_v 4 rfl (v_assign rfl) gn rfl ?_
      refine w_end 5 rfl ?_
      obtain ⟨hb106, h⟩ := h
      have hns : Region.noSelect (Code.ops q39c31) = true := by kernel_rfl
      refine g_drawF (c := q39c31) [.own (.slice (some ⟨gb98, 0, none⟩) 1 1) 3 1 1 (([x64] : List Int).flatMap (eI .i64)), .own (.slice A100 (n61 + 1) c101) 3 1 (n61 + 1) (x103.flatMap (eI .i64)), .box gb31 32 [.slice A12 n13 c14, .slice A16 n17 c18, .slice A21 n22 c23, .bool r10.ok], .own (.slice A16 n17 c18) 3 1 n17 (r10.parent.flatMap (eI .i64)), .own (.slice A21 n22 c23) 3 1 n22 (r10.end_.flatMap (eI .i64))] [sv30, Sm w.heap.size F w [], St w []] [] 9 rfl rfl mix rfl (.cons_cons _ (.cons_cons _ (.cons_cons _ (.cons_cons _ (.cons_cons _ (.slnil)))))) (sels [0, 1, 2] rfl) ?_
      refine wfv 0 rfl (v_move rfl) gn hns rfl ?_
      refine wfv 1 rfl (v_bin rfl rfl rfl) gn hns rfl ?_
      refine wfv 2 rfl (v_fldB fo_32_2 rfl) gn hns rfl ?_
      refine wfv 3 rfl (v_ldB1 2 ld_23 rfl rfl rfl) gn hns rfl ?_
      refine wfv 4 rfl (v_move rfl) gn hns rfl ?_
      refine wfv 5 rfl (v_idxO slE_23 rfl rfl (Ow.weak hL8.env.size h24) hb106) gn hns rfl ?_
      refine wfv 6 rfl (v_ldO1 (.int .i64 (ix r10.end_ x64)) 4 ld_3 rfl rfl (fm_get0 (hlI .i64) hb106 rfl)) gn hns rfl ?_
      refine wfv 7 rfl (v_assign rfl) gn hns rfl ?_
      refine wfv 8 rfl (v_assign rfl) gn hns rfl ?_
      refine wf_end (by kernel_rfl) ?_
      refine g_inBlock ?_
      refine g_inLoop ?_
      have ih := Out.inl hO1 h
      exact g_go [0, 1, 2] (ih A100 (n61 + 1) c101 h102) ⟨rfl, rfl, rfl, rfl, rfl, rfl, trivial⟩ (.cons _ (.cons_cons _ (.cons_cons _ (.cons_cons _ (.cons_cons _ (.slnil)))))) rfl
     ·have h := if_neg' hp96 h
      refine g_false (c := q39c27) rfl _ rfl ((bf hp96)) ?_
      refine g_region (c := q39c29) rfl rfl ?_
      refine wl_v 0 rfl (v_fldB fo_32_2 rfl) gn rfl ?_
      refine wl_v 1 rfl (v_ldB1 1 ld_23 rfl rfl rfl) gn rfl ?_
      refine wl_v 2 rfl (v_move rfl) gn rfl ?_
      obtain ⟨hb107, h⟩ := h
      refine wl_v 3 rfl (v_idxO slE_23 rfl rfl (Ow.weak hL8.env.size h24) hb107) gn rfl ?_
      refine wl_v 4 rfl (v_ldO1 (.int .i64 (ix r10.end_ x64)) 3 ld_3 rfl rfl (fm_get0 (hlI .i64) hb107 rfl)) gn rfl ?_
      refine wl_v 5 rfl (v_assign rfl) gn rfl ?_
      refine w_end 6 rfl ?_
      refine g_inBlock ?_
      refine g_inLoop ?_
      have ih := Out.inl hO1 h
      exact g_go [0, 1, 2] (ih A60 n61 c62 h63) ⟨rfl, rfl, rfl, rfl, rfl, rfl, trivial⟩ (.cons_cons _ (.cons_cons _ (.cons_cons _ (.cons_cons _ (.slnil))))) rfl
    refine g_region (c := q39c26) rfl rfl ?_
    refine wl_v 0 rfl (v_move rfl) gn rfl ?_
    refine wl_v 1 rfl (v_move rfl) gn rfl ?_
    obtain ⟨hb108, h⟩ := h
    have hr109 := Rw.readF (s := St w []) (hl := hl_api_Node) (h1 := h1_api_Node) h5 hb108
    refine wl_v 2 rfl (v_idxR (s := St w []) slE_22 rfl rfl h5 hb108) gn rfl ?_
    refine wl_v 3 rfl (v_fldA fo_39_3 rfl) gn rfl ?_
    refine wl_v 4 rfl (v_ldA1 (kk := (x64 : Int).toNat * 7) (j := 3) (St w []) ld_3 rfl hr109 rfl (me 2 rfl)) gn rfl ?_
    refine wl_v 5 rfl (v_move rfl) gn rfl ?_
    refine wl_v 6 rfl (v_bin rfl rfl rfl) gn rfl ?_
    refine wl_v 7 rfl (v_move rfl) gn rfl ?_
    by_cases hp110 : (ix x1 x64).from_ ≤ x6
    ·have h := if_pos' hp110 h
     refine w_bool 26 rfl ((decide_eq_true hp110)) ?_
     refine wl_v 8 rfl (v_move rfl) (gy 26 rfl rfl) rfl ?_
     refine wl_v 9 rfl (v_move rfl) (gy 26 rfl rfl) rfl ?_
     refine wl_v 10 rfl (v_move rfl) (gy 26 rfl rfl) rfl ?_
     have hr111 := Rw.readF (s := St w []) (hl := hl_api_Node) (h1 := h1_api_Node) h5 hb108
     refine wl_v 11 rfl (v_idxR (s := St w []) slE_22 rfl rfl h5 hb108) (gy 26 rfl rfl) rfl ?_
     refine wl_v 12 rfl (v_fldA fo_39_4 rfl) (gy 26 rfl rfl) rfl ?_
     refine wl_v 13 rfl (v_ldA1 (kk := (x64 : Int).toNat * 7) (j := 4) (St w []) ld_3 rfl hr111 rfl (me 2 rfl)) (gy 26 rfl rfl) rfl ?_
     refine wl_v 14 rfl (v_bin rfl rfl rfl) (gy 26 rfl rfl) rfl ?_
     refine wl_v 15 rfl (v_pick (b := true) rfl rfl) gn rfl ?_
     refine w_end 16 rfl ?_
     exact g_go [0, 1, 2] (j2 (decide (x6 < (ix x1 x64).to)) h) ⟨rfl, rfl, rfl, rfl, rfl, rfl, rfl, trivial⟩ (.cons_cons _ (.cons_cons _ (.cons_cons _ (.cons_cons _ (.slnil))))) rfl
    ·have h := if_neg' hp110 h
     refine w_bool 26 rfl ((decide_eq_false hp110)) ?_
     refine wl_pass 8 rfl (ps 26 rfl rfl rfl) ?_
     refine wl_pass 9 rfl (ps 26 rfl rfl rfl) ?_
     refine wl_pass 10 rfl (ps 26 rfl rfl rfl) ?_
     refine wl_pass 11 rfl (ps 26 rfl rfl rfl) ?_
     refine wl_pass 12 rfl (ps 26 rfl rfl rfl) ?_
     refine wl_pass 13 rfl (ps 26 rfl rfl rfl) ?_
     refine wl_pass 14 rfl (ps 26 rfl rfl rfl) ?_
     refine wl_v 15 rfl (v_pick (b := false) rfl rfl) gn rfl ?_
     refine w_end 16 rfl ?_
     exact g_go [0, 1, 2] (j2 false h) ⟨rfl, rfl, rfl, rfl, rfl, rfl, rfl, trivial⟩ (.cons_cons _ (.cons_cons _ (.cons_cons _ (.cons_cons _ (.slnil))))) rfl
   ·have h := if_neg' hp89 h
    refine g_false (c := q39c22) rfl _ rfl ((decide_eq_false hp89)) ?_
    refine g_exit (c := q39c24) [.code q39c14] rfl rfl ?_
    refine g_seq (c := q39c14) rfl ?_
    refine g_region (c := q39c32) rfl rfl ?_
    refine wl_v 0 rfl (v_move rfl) gn rfl ?_
    refine wl_v 1 rfl (v_assign rfl) gn rfl ?_
    refine w_end 2 rfl ?_
    have h := Out.inr hO1 h
    refine g_retR (c := q39c33) [.slice A60 n61 c62] rfl Try.func39 rfl (.tmp rfl (.nil)) fun wr hLr => ?_
    have hMr : B.Loc w wr [.own (.slice A60 n61 c62) 3 1 n61 (x59.flatMap (eI .i64))] [St w []] := hLr.pick (rest := [.box gb31 32 [.slice A12 n13 c14, .slice A16 n17 c18, .slice A21 n22 c23, .bool r10.ok], .own (.slice A16 n17 c18) 3 1 n17 (r10.parent.flatMap (eI .i64)), .own (.slice A21 n22 c23) 3 1 n22 (r10.end_.flatMap (eI .i64))]) (perm_of_idx [0] [1, 2, 3] rfl rfl (by kernel_rfl)) (sels [2] rfl)
    show tree_Path_R w F  r (.returned (packV [.slice A60 n61 c62])) wr
    rw [h]
    exact ⟨A60, n61, c62, rfl, hMr, h63⟩
  refine g_nil 3 1 ?_
  exact g_go [0, 1, 2] (key1 _ h none 0 0 (Ow.nil (z := w.heap.size))) ⟨rfl, rfl, rfl, rfl, rfl, rfl, trivial⟩ (.cons_cons _ (.cons_cons _ (.cons_cons _ (.cons_cons _ (.slnil))))) rfl
 ·have h := if_neg' hp33 h
  refine g_true (c := q39c8) rfl _ rfl ((nt (bf hp33))) ?_
  refine g_seq (c := q39c9) rfl ?_
  refine g_region (c := q39c34) rfl rfl ?_
  refine wl_v 0 rfl (v_assign rfl) gn rfl ?_
  refine w_end 1 rfl ?_
  refine g_nil 3 1 ?_
  refine g_retR (c := q39c35) [.slice none 0 0] rfl Try.func39 rfl (.tmp rfl (.nil)) fun wr hLr => ?_
  have hMr : B.Loc w wr [.own (.slice none 0 0) 3 1 0 (([] : List Int).flatMap (eI .i64))] [St w []] := hLr.pick (rest := [.box gb31 32 [.slice A12 n13 c14, .slice A16 n17 c18, .slice A21 n22 c23, .bool r10.ok], .own (.slice A16 n17 c18) 3 1 n17 (r10.parent.flatMap (eI .i64)), .own (.slice A21 n22 c23) 3 1 n22 (r10.end_.flatMap (eI .i64))]) (perm_of_idx [0] [1, 2, 3] rfl rfl (by kernel_rfl)) (sels [2] rfl)
  show tree_Path_R w F  r (.returned (packV [.slice none 0 0])) wr
  rw [h]
  exact ⟨none, 0, 0, rfl, hMr, (Ow.nil (z := w.heap.size))⟩
noncomputable abbrev q41c0 : Code := bodyOf Try.f41
noncomputable abbrev q41c1 : Code := Code.fst q41c0
noncomputable abbrev q41c2 : Code := Code.snd q41c0
noncomputable abbrev q41c3 : Code := Code.fst q41c2
noncomputable abbrev q41c4 : Code := Code.snd q41c2
noncomputable abbrev q41c5 : Code := Code.fst q41c4
noncomputable abbrev q41c6 : Code := Code.snd q41c4
noncomputable abbrev q41c7 : Code := Code.fst q41c5
noncomputable abbrev q41c8 : Code := Code.snd q41c5
noncomputable abbrev q41c9 : Code := Code.fst q41c8
noncomputable abbrev q41c10 : Code := Code.snd q41c8
noncomputable abbrev q41c11 : Code := Code.fst q41c6
noncomputable abbrev q41c12 : Code := Code.snd q41c6
noncomputable abbrev q41c13 : Code := Code.fst q41c9
noncomputable abbrev q41c14 : Code := Code.snd q41c9
abbrev tree_Parent_R (w : World) (F : Nat → Prop) (r : Int) : Ending → World → Prop := fun e w' => e = .returned (.int .i64 r) ∧ B.Loc w w' [] [St w []]
noncomputable abbrev tree_Parent_C (w : World) (F : Nat → Prop) (r : Int) : Cx := ⟨Try.prog, 41, Try.f41, 17, tree_Parent_R w F  r, w⟩
theorem tree_Parent_calls (w : World) (F : Nat → Prop) (x1 : List api_Node) (x6 : Int) (A2 : Option Addr) (n3 : Nat) (c4 : Nat) (h5 : Rw k_api_Node w (St w []).av A2 n3 c4 x1) (hF : ∀ b, F b → b < w.heap.size ∧ ∀ o ∈ ([] : List (List Nat)), b ∉ o) (hL0 : B.Loc w w [] [Sm w.heap.size F w [], St w []]) (r : Int) (h : tree_Parent x1 x6 r) : Calls Try.prog 41 #[.slice A2 n3 c4, .int .i64 x6] w (tree_Parent_R w F  r) := by
 unfold tree_Parent at h
 refine calls_of_Loc (vs := [.slice A2 n3 c4, .int .i64 x6]) 17 Try.func41 rfl Try.ntmps41 rfl hL0 ?_
 show G (tree_Parent_C w F r) _ _ _ _
 refine g_seq (c := q41c0) rfl ?_
 refine g_region (c := q41c1) rfl rfl ?_
 refine wl_v 0 rfl (v_assign rfl) gn rfl ?_
 refine w_end 1 rfl ?_
 refine g_seq (c := q41c2) rfl ?_
 refine g_region (c := q41c3) rfl rfl ?_
 refine wl_v 0 rfl (v_move rfl) gn rfl ?_
 obtain ⟨r10, hv11, h⟩ := h
 refine wl_s 1 rfl (s_call [.slice A2 n3 c4] rfl Try.func44 rfl rfl rfl fun w7 hL8 => ?_) gn
 have hp9 : List.Perm ([] : List Ent) (([] : List Ent) ++ ([] : List Ent)) := perm_of_idx [] [] rfl rfl (by kernel_rfl)
 refine Calls.mono (tree_plant_calls w7 (Fl ([St w []] : List Snap)) x1 A2 n3 c4 (Rw.mono h5 (hL8.toFl (me 1 rfl) (me 0 rfl))) (hL8.hFl (Sl := ([St w []] : List Snap)) hp9 (sels [1] rfl)) (hL8.into hp9 (Fl ([St w []] : List Snap))) r10 hv11) ?_
 rintro _ w26 ⟨A16, n17, c18, A21, n22, c23, A12, n13, c14, rfl, hM27, h19, h24, h15⟩
 obtain ⟨sv30, hL28, hv29⟩ := hL8.callN (Sl := ([St w []] : List Snap)) hp9 hM27 (sels [1] rfl)
 have h15 : At k_api_Node (sv30) A12 n13 c14 r10.nodes := Rw.mono h15 hv29
 refine ⟨_, _, _, rfl, hL28, ?_⟩
 refine wl_s 2 rfl (s_alloc [.slice none 0 0, .slice none 0 0, .slice none 0 0, .bool false] zr_32 rfl fun gb31 => ?_) gn
 refine wl_s 3 rfl (s_stB (vs := [.slice A12 n13 c14, .slice A16 n17 c18, .slice A21 n22 c23, .bool r10.ok]) (cs' := [.slice A12 n13 c14, .slice A16 n17 c18, .slice A21 n22 c23, .bool r10.ok]) (M' := [.box gb31 32 [.slice A12 n13 c14, .slice A16 n17 c18, .slice A21 n22 c23, .bool r10.ok], .own (.slice A16 n17 c18) 3 1 n17 (r10.parent.flatMap (eI .i64)), .own (.slice A21 n22 c23) 3 1 n22 (r10.end_.flatMap (eI .i64))]) 0 sz_32 rfl rfl rfl rfl rfl rfl rfl rfl rfl ?_) gn
 refine w_end 4 rfl ?_
 refine g_seq (c := q41c4) rfl ?_
 refine g_seq (c := q41c5) rfl ?_
 refine g_region (c := q41c7) rfl rfl ?_
 refine wl_v 0 rfl (v_ldB [.slice A12 n13 c14, .slice A16 n17 c18, .slice A21 n22 c23, .bool r10.ok] 0 ld_32 rfl rfl rfl rfl) gn rfl ?_
 refine wl_v 1 rfl (v_move rfl) gn rfl ?_
 obtain ⟨r36, hv37, h⟩ := h
 refine wl_s 2 rfl (s_call [.agg #[.slice A12 n13 c14, .slice A16 n17 c18, .slice A21 n22 c23, .bool r10.ok], .int .i64 x6] rfl Try.func46 rfl rfl rfl fun w33 hL34 => ?_) gn
 have hp35 : List.Perm ([.box gb31 32 [.slice A12 n13 c14, .slice A16 n17 c18, .slice A21 n22 c23, .bool r10.ok], .own (.slice A16 n17 c18) 3 1 n17 (r10.parent.flatMap (eI .i64)), .own (.slice A21 n22 c23) 3 1 n22 (r10.end_.flatMap (eI .i64))] : List Ent) (([] : List Ent) ++ ([.box gb31 32 [.slice A12 n13 c14, .slice A16 n17 c18, .slice A21 n22 c23, .bool r10.ok], .own (.slice A16 n17 c18) 3 1 n17 (r10.parent.flatMap (eI .i64)), .own (.slice A21 n22 c23) 3 1 n22 (r10.end_.flatMap (eI .i64))] : List Ent)) := perm_of_idx [] [0, 1, 2] rfl rfl (by kernel_rfl)
 refine Calls.mono (tree_forest_has_calls w33 (Fl ([] : List Snap)) r10 x6 A12 n13 c14 A16 n17 c18 A21 n22 c23 (Rw.mono h15 (hL34.toSt hp35 (me 0 rfl))) (hL34.argO (dk := (kInt .i64)) hp35 [] rfl 1 rfl rfl (Ow.weak hL8.env.size h19) (me 1 rfl) (Cells.flat _)) (hL34.argO (dk := (kInt .i64)) hp35 [] rfl 2 rfl rfl (Ow.weak hL8.env.size h24) (me 1 rfl) (Cells.flat _)) (hL34.hFl (Sl := ([] : List Snap)) hp35 (sels [] rfl)) (hL34.into hp35 (Fl ([] : List Snap))) r36 hv37) ?_
 rintro _ w38 ⟨rfl, hM39⟩
 have hL40 := hL34.call hp35 hM39
 refine ⟨_, _, _, rfl, hL40, ?_⟩
 refine wl_v 3 rfl (v_not rfl) gn rfl ?_
 refine w_end 4 rfl ?_
 by_cases hp41 : r36 = true
 ·have h := if_pos' hp41 h
  refine g_false (c := q41c8) rfl _ rfl ((nf hp41)) ?_
  refine g_skip (c := q41c10) rfl ?_
  refine g_seq (c := q41c6) rfl ?_
  refine g_region (c := q41c11) rfl rfl ?_
  refine wl_v 0 rfl (v_fldB fo_32_1 rfl) gn rfl ?_
  refine wl_v 1 rfl (v_ldB1 0 ld_23 rfl rfl rfl) gn rfl ?_
  refine wl_v 2 rfl (v_move rfl) gn rfl ?_
  obtain ⟨hb42, h⟩ := h
  refine wl_v 3 rfl (v_idxO slE_23 rfl rfl (Ow.weak hL8.env.size h19) hb42) gn rfl ?_
  refine wl_v 4 rfl (v_ldO1 (.int .i64 (ix r10.parent x6)) 1 ld_3 rfl rfl (fm_get0 (hlI .i64) hb42 rfl)) gn rfl ?_
  refine wl_v 5 rfl (v_assign rfl) gn rfl ?_
  refine w_end 6 rfl ?_
  refine g_retR (c := q41c12) [.int .i64 (ix r10.parent x6)] rfl Try.func41 rfl (.tmp rfl (.nil)) fun wr hLr => ?_
  have hMr : B.Loc w wr [] [St w []] := hLr.pick0 (sels [2] rfl)
  show tree_Parent_R w F  r (.returned (packV [.int .i64 (ix r10.parent x6)])) wr
  rw [h]
  exact ⟨rfl, hMr⟩
 ·have h := if_neg' hp41 h
  refine g_true (c := q41c8) rfl _ rfl ((nt (bf hp41))) ?_
  refine g_seq (c := q41c9) rfl ?_
  refine g_region (c := q41c13) rfl rfl ?_
  refine wl_v 0 rfl (v_assign rfl) gn rfl ?_
  refine w_end 1 rfl ?_
  refine g_retR (c := q41c14) [.int .i64 (-1)] rfl Try.func41 rfl (.tmp rfl (.nil)) fun wr hLr => ?_
  have hMr : B.Loc w wr [] [St w []] := hLr.pick0 (sels [2] rfl)
  show tree_Parent_R w F  r (.returned (packV [.int .i64 (-1)])) wr
  rw [h]
  exact ⟨rfl, hMr⟩
noncomputable abbrev q79c0 : Code := bodyOf Try.f79
noncomputable abbrev q79c1 : Code := Code.fst q79c0
noncomputable abbrev q79c2 : Code := Code.snd q79c0
noncomputable abbrev q79c3 : Code := Code.fst q79c2
noncomputable abbrev q79c4 : Code := Code.snd q79c2
noncomputable abbrev q79c5 : Code := Code.fst q79c4
noncomputable abbrev q79c6 : Code := Code.snd q79c4
noncomputable abbrev q79c7 : Code := Code.fst q79c6
noncomputable abbrev q79c8 : Code := Code.snd q79c6
abbrev strings_Builder_copyCheck_R (w : World) (F : Nat → Prop) (g2 : Nat) (v3 : Value) (r : strings_Builder) : Ending → World → Prop := fun e w' => e = .returned (.tuple #[]) ∧ B.Loc w w' [.box g2 123 [selfP g2 r.addr, v3]] [St w [[g2]]]
noncomputable abbrev strings_Builder_copyCheck_C (w : World) (F : Nat → Prop) (g2 : Nat) (v3 : Value) (r : strings_Builder) : Cx := ⟨Try.prog, 79, Try.f79, 20, strings_Builder_copyCheck_R w F g2 v3 r, w⟩
theorem strings_Builder_copyCheck_calls (w : World) (F : Nat → Prop) (x1 : strings_Builder) (g2 : Nat) (v3 : Value) (hF : ∀ b, F b → b < w.heap.size ∧ ∀ o ∈ ([[g2]] : List (List Nat)), b ∉ o) (hL0 : B.Loc w w [.box g2 123 [selfP g2 x1.addr, v3]] [Sm w.heap.size F w [[g2]], St w [[g2]]]) (r : strings_Builder) (h : strings_Builder_copyCheck x1 r) : Calls Try.prog 79 #[.pointer (some ⟨g2, 0, none⟩)] w (strings_Builder_copyCheck_R w F g2 v3 r) := by
 unfold strings_Builder_copyCheck at h
 refine calls_of_Loc (vs := [.pointer (some ⟨g2, 0, none⟩)]) 20 Try.func79 rfl Try.ntmps79 rfl hL0 ?_
 show G (strings_Builder_copyCheck_C w F g2 v3 r) _ _ _ _
 refine g_seq (c := q79c0) rfl ?_
 refine g_region (c := q79c1) rfl rfl ?_
 refine wl_v 0 rfl (v_move rfl) gn rfl ?_
 refine wl_v 1 rfl (v_nilCheck rfl) gn rfl ?_
 refine wl_v 2 rfl (v_fldB fo_123_0 rfl) gn rfl ?_
 refine wl_v 3 rfl (v_ldB1 0 ld_120 rfl rfl rfl) gn rfl ?_
 refine wl_v 4 rfl (v_eqSelf (gb := g2) (b := x1.addr) un_120 rfl rfl) gn rfl ?_
 refine w_end 5 rfl ?_
 by_cases hp4 : x1.addr = true
 ·have h := if_pos' hp4 h
  refine g_false (c := q79c2) rfl _ rfl ((nf hp4)) ?_
  refine g_seq (c := q79c4) rfl ?_
  refine g_region (c := q79c5) rfl rfl ?_
  refine wl_v 0 rfl (v_move rfl) gn rfl ?_
  refine wl_v 1 rfl (v_nilCheck rfl) gn rfl ?_
  refine wl_v 2 rfl (v_fldB fo_123_0 rfl) gn rfl ?_
  refine wl_v 3 rfl (v_ldB1 0 ld_120 rfl rfl rfl) gn rfl ?_
  refine wl_v 4 rfl (v_move rfl) gn rfl ?_
  refine wl_v 5 rfl (v_neSelf (gb := g2) (b := x1.addr) pt_120 rfl rfl) gn rfl ?_
  refine w_end 6 rfl ?_
  refine g_false (c := q79c6) rfl _ rfl ((nf hp4)) ?_
  refine g_skip (c := q79c8) rfl ?_
  refine g_endR [] Try.func79 rfl (.nil) fun wr hLr => ?_
  have hMr : B.Loc w wr [.box g2 123 [selfP g2 x1.addr, v3]] [St w [[g2]]] := hLr.pick (rest := []) (perm_of_idx [0] [] rfl rfl (by kernel_rfl)) (sels [1] rfl)
  show strings_Builder_copyCheck_R w F g2 v3 r (.returned (packV [])) wr
  rw [h]
  exact ⟨rfl, hMr⟩
 ·have h := if_neg' hp4 h
  refine g_true (c := q79c2) rfl _ rfl ((nt (bf hp4))) ?_
  refine g_region (c := q79c3) rfl rfl ?_
  refine wl_v 0 rfl (v_move rfl) gn rfl ?_
  refine wl_v 1 rfl (v_move rfl) gn rfl ?_
  refine wl_v 2 rfl (v_toU 0 pt_120 un_136 rfl rfl rfl) gn rfl ?_
  refine wl_v 3 rfl (v_ext [.pointer (some ⟨g2, 0, none⟩)] rfl Try.func82 rfl rfl (by kernel_rfl) (by kernel_rfl) (fun w => x_noEscape _ w)) gn rfl ?_
  refine wl_v 4 rfl (v_fromU 0 un_136 li_120_123_0 rfl rfl rfl) gn rfl ?_
  refine wl_v 5 rfl (v_nilCheck rfl) gn rfl ?_
  refine wl_v 6 rfl (v_fldB fo_123_0 rfl) gn rfl ?_
  refine wl_s 7 rfl (s_stB (vs := [.pointer (some ⟨g2, 0, none⟩)]) (cs' := [.pointer (some ⟨g2, 0, none⟩), v3]) (M' := [.box g2 123 [.pointer (some ⟨g2, 0, none⟩), v3]]) 0 sz_120 rfl rfl rfl rfl rfl rfl rfl rfl rfl ?_) gn
  refine w_end 8 rfl ?_
  refine g_endR [] Try.func79 rfl (.nil) fun wr hLr => ?_
  have hMr : B.Loc w wr [.box g2 123 [.pointer (some ⟨g2, 0, none⟩), v3]] [St w [[g2]]] := hLr.pick (rest := []) (perm_of_idx [0] [] rfl rfl (by kernel_rfl)) (sels [1] rfl)
  show strings_Builder_copyCheck_R w F g2 v3 r (.returned (packV [])) wr
  rw [h]
  exact ⟨rfl, hMr⟩
noncomputable abbrev q70c0 : Code := bodyOf Try.f70
noncomputable abbrev q70c1 : Code := Code.fst q70c0
noncomputable abbrev q70c2 : Code := Code.snd q70c0
noncomputable abbrev q70c3 : Code := Code.fst q70c2
noncomputable abbrev q70c4 : Code := Code.snd q70c2
noncomputable abbrev q70c5 : Code := Code.fst q70c4
noncomputable abbrev q70c6 : Code := Code.snd q70c4
noncomputable abbrev q70c7 : Code := Code.fst q70c6
noncomputable abbrev q70c8 : Code := Code.snd q70c6
abbrev strings_Builder_WriteByte_R (w : World) (F : Nat → Prop) (g2 : Nat) (A3 : Option Addr) (n4 : Nat) (c5 : Nat) (z7 : Nat) (r : strings_Builder) : Ending → World → Prop := fun e w' => ∃ A0 : Option Addr, ∃ n0 : Nat, ∃ c0 : Nat, e = .returned (.nilIface) ∧ B.Loc w w' [.box g2 123 [selfP g2 r.addr, .slice A0 n0 c0], .own (.slice A0 n0 c0) 5 1 n0 (r.buf.flatMap (eI .u8))] [St w [[g2], (Value.slice A3 n4 c5).ownBlock.toList]] ∧ Ow z7 A0 n0 c0 r.buf
noncomputable abbrev strings_Builder_WriteByte_C (w : World) (F : Nat → Prop) (g2 : Nat) (A3 : Option Addr) (n4 : Nat) (c5 : Nat) (z7 : Nat) (r : strings_Builder) : Cx := ⟨Try.prog, 70, Try.f70, 17, strings_Builder_WriteByte_R w F g2 A3 n4 c5 z7 r, w⟩
theorem strings_Builder_WriteByte_calls (w : World) (F : Nat → Prop) (x1 : strings_Builder) (x9 : Int) (g2 : Nat) (z7 : Nat) (A3 : Option Addr) (n4 : Nat) (c5 : Nat) (hz8 : z7 ≤ w.heap.size) (h6 : Ow z7 A3 n4 c5 x1.buf) (hF : ∀ b, F b → b < w.heap.size ∧ ∀ o ∈ ([[g2], (Value.slice A3 n4 c5).ownBlock.toList] : List (List Nat)), b ∉ o) (hL0 : B.Loc w w [.box g2 123 [selfP g2 x1.addr, .slice A3 n4 c5], .own (.slice A3 n4 c5) 5 1 n4 (x1.buf.flatMap (eI .u8))] [Sm w.heap.size F w [[g2], (Value.slice A3 n4 c5).ownBlock.toList], St w [[g2], (Value.slice A3 n4 c5).ownBlock.toList]]) (r : strings_Builder) (h : strings_Builder_WriteByte x1 x9 r) : Calls Try.prog 70 #[.pointer (some ⟨g2, 0, none⟩), .int .u8 x9] w (strings_Builder_WriteByte_R w F g2 A3 n4 c5 z7 r) := by
 unfold strings_Builder_WriteByte at h
 refine calls_of_Loc (vs := [.pointer (some ⟨g2, 0, none⟩), .int .u8 x9]) 17 Try.func70 rfl Try.ntmps70 rfl hL0 ?_
 show G (strings_Builder_WriteByte_C w F g2 A3 n4 c5 z7 r) _ _ _ _
 refine g_seq (c := q70c0) rfl ?_
 refine g_region (c := q70c1) rfl rfl ?_
 refine wl_v 0 rfl (v_assign rfl) gn rfl ?_
 refine w_end 1 rfl ?_
 refine g_seq (c := q70c2) rfl ?_
 refine g_region (c := q70c3) rfl rfl ?_
 refine wl_v 0 rfl (v_move rfl) gn rfl ?_
 obtain ⟨r13, hv14, h⟩ := h
 refine wl_s 1 rfl (s_call [.pointer (some ⟨g2, 0, none⟩)] rfl Try.func79 rfl rfl rfl fun w10 hL11 => ?_) gn
 have hp12 : List.Perm ([.box g2 123 [selfP g2 x1.addr, .slice A3 n4 c5], .own (.slice A3 n4 c5) 5 1 n4 (x1.buf.flatMap (eI .u8))] : List Ent) (([.box g2 123 [selfP g2 x1.addr, .slice A3 n4 c5]] : List Ent) ++ ([.own (.slice A3 n4 c5) 5 1 n4 (x1.buf.flatMap (eI .u8))] : List Ent)) := perm_of_idx [0] [1] rfl rfl (by kernel_rfl)
 refine Calls.mono (strings_Builder_copyCheck_calls w10 (Fl ([] : List Snap)) x1 g2 (.slice A3 n4 c5) (hL11.hFl (Sl := ([] : List Snap)) hp12 (sels [] rfl)) (hL11.into hp12 (Fl ([] : List Snap))) r13 hv14) ?_
 rintro _ w15 ⟨rfl, hM16⟩
 have hL17 := hL11.call hp12 hM16
 refine ⟨_, _, _, rfl, hL17, ?_⟩
 refine w_end 2 rfl ?_
 refine g_seq (c := q70c4) rfl ?_
 refine g_region (c := q70c5) rfl rfl ?_
 refine wl_v 0 rfl (v_move rfl) gn rfl ?_
 refine wl_v 1 rfl (v_move rfl) gn rfl ?_
 refine wl_v 2 rfl (v_nilCheck rfl) gn rfl ?_
 refine wl_v 3 rfl (v_fldB fo_123_1 rfl) gn rfl ?_
 refine wl_v 4 rfl (v_ldB1 0 ld_121 rfl rfl rfl) gn rfl ?_
 refine wl_v 5 rfl (v_move rfl) gn rfl ?_
 refine wl_s 6 rfl (s_litO (xs := ([x9] : List Int)) [.int .u8 x9] bs_121_1 rfl (by kernel_rfl) rfl rfl rfl rfl fun gb19 h20 => ?_) gn
 obtain ⟨x24, hv25, h⟩ := h
 obtain ⟨hb26, h⟩ := h
 refine wl_s 7 rfl (s_app (zs := x24) (cells' := x24.flatMap (eI .u8)) 2 ap_121 rfl rfl rfl h6 hz8 (Src.ownF (hl := (hlI .u8)) (h1 := (hone_int .u8)) 0 rfl h20) (by rw [hv25, List.flatMap_append] <;> rfl) (app_len hv25 h20.hq) hb26 rfl rfl fun A21 c22 h23 => ?_) gn
 refine wl_v 8 rfl (v_nilCheck rfl) gn rfl ?_
 refine wl_v 9 rfl (v_fldB fo_123_1 rfl) gn rfl ?_
 refine wl_s 10 rfl (s_stB (vs := [.slice A21 (n4 + 1) c22]) (cs' := [selfP g2 r13.addr, .slice A21 (n4 + 1) c22]) (M' := [.own (.slice (some ⟨gb19, 0, none⟩) 1 1) 5 1 1 (([x9] : List Int).flatMap (eI .u8)), .box g2 123 [selfP g2 r13.addr, .slice A21 (n4 + 1) c22], .own (.slice A21 (n4 + 1) c22) 5 1 (n4 + 1) (x24.flatMap (eI .u8))]) 1 sz_121 rfl rfl rfl rfl rfl rfl rfl rfl rfl ?_) gn
 refine w_end 11 rfl ?_
 refine g_seq (c := q70c6) rfl ?_
 refine g_region (c := q70c7) rfl rfl ?_
 refine wl_v 0 rfl (v_assign rfl) gn rfl ?_
 refine w_end 1 rfl ?_
 refine g_retR (c := q70c8) [.nilIface] rfl Try.func70 rfl (.tmp rfl (.nil)) fun wr hLr => ?_
 have hMr : B.Loc w wr [.box g2 123 [selfP g2 r13.addr, .slice A21 (n4 + 1) c22], .own (.slice A21 (n4 + 1) c22) 5 1 (n4 + 1) (x24.flatMap (eI .u8))] [St w [[g2], (Value.slice A3 n4 c5).ownBlock.toList]] := hLr.pick (rest := [.own (.slice (some ⟨gb19, 0, none⟩) 1 1) 5 1 1 (([x9] : List Int).flatMap (eI .u8))]) (perm_of_idx [1, 2] [0] rfl rfl (by kernel_rfl)) (sels [1] rfl)
 show strings_Builder_WriteByte_R w F g2 A3 n4 c5 z7 r (.returned (packV [.nilIface])) wr
 rw [h]
 exact ⟨A21, n4 + 1, c22, rfl, hMr, h23⟩
noncomputable abbrev q71c0 : Code := bodyOf Try.f71
noncomputable abbrev q71c1 : Code := Code.fst q71c0
noncomputable abbrev q71c2 : Code := Code.snd q71c0
noncomputable abbrev q71c3 : Code := Code.fst q71c2
noncomputable abbrev q71c4 : Code := Code.snd q71c2
noncomputable abbrev q71c5 : Code := Code.fst q71c4
noncomputable abbrev q71c6 : Code := Code.snd q71c4
noncomputable abbrev q71c7 : Code := Code.fst q71c6
noncomputable abbrev q71c8 : Code := Code.snd q71c6
abbrev strings_Builder_WriteString_R (w : World) (F : Nat → Prop) (g2 : Nat) (A3 : Option Addr) (n4 : Nat) (c5 : Nat) (z7 : Nat) (r : Int × strings_Builder) : Ending → World → Prop := fun e w' => ∃ A0 : Option Addr, ∃ n0 : Nat, ∃ c0 : Nat, e = .returned (.tuple #[.int .i64 r.1, .nilIface]) ∧ B.Loc w w' [.box g2 123 [selfP g2 r.2.addr, .slice A0 n0 c0], .own (.slice A0 n0 c0) 5 1 n0 (r.2.buf.flatMap (eI .u8))] [St w [[g2], (Value.slice A3 n4 c5).ownBlock.toList]] ∧ Ow z7 A0 n0 c0 r.2.buf
noncomputable abbrev strings_Builder_WriteString_C (w : World) (F : Nat → Prop) (g2 : Nat) (A3 : Option Addr) (n4 : Nat) (c5 : Nat) (z7 : Nat) (r : Int × strings_Builder) : Cx := ⟨Try.prog, 71, Try.f71, 19, strings_Builder_WriteString_R w F g2 A3 n4 c5 z7 r, w⟩
theorem strings_Builder_WriteString_calls (w : World) (F : Nat → Prop) (x1 : strings_Builder) (x9 : ByteArray) (g2 : Nat) (z7 : Nat) (A3 : Option Addr) (n4 : Nat) (c5 : Nat) (hz8 : z7 ≤ w.heap.size) (h6 : Ow z7 A3 n4 c5 x1.buf) (hF : ∀ b, F b → b < w.heap.size ∧ ∀ o ∈ ([[g2], (Value.slice A3 n4 c5).ownBlock.toList] : List (List Nat)), b ∉ o) (hL0 : B.Loc w w [.box g2 123 [selfP g2 x1.addr, .slice A3 n4 c5], .own (.slice A3 n4 c5) 5 1 n4 (x1.buf.flatMap (eI .u8))] [Sm w.heap.size F w [[g2], (Value.slice A3 n4 c5).ownBlock.toList], St w [[g2], (Value.slice A3 n4 c5).ownBlock.toList]]) (r : Int × strings_Builder) (h : strings_Builder_WriteString x1 x9 r) : Calls Try.prog 71 #[.pointer (some ⟨g2, 0, none⟩), .string x9] w (strings_Builder_WriteString_R w F g2 A3 n4 c5 z7 r) := by
 unfold strings_Builder_WriteString at h
 refine calls_of_Loc (vs := [.pointer (some ⟨g2, 0, none⟩), .string x9]) 19 Try.func71 rfl Try.ntmps71 rfl hL0 ?_
 show G (strings_Builder_WriteString_C w F g2 A3 n4 c5 z7 r) _ _ _ _
 refine g_seq (c := q71c0) rfl ?_
 refine g_region (c := q71c1) rfl rfl ?_
 refine wl_v 0 rfl (v_assign rfl) gn rfl ?_
 refine wl_v 1 rfl (v_assign rfl) gn rfl ?_
 refine w_end 2 rfl ?_
 refine g_seq (c := q71c2) rfl ?_
 refine g_region (c := q71c3) rfl rfl ?_
 refine wl_v 0 rfl (v_move rfl) gn rfl ?_
 obtain ⟨r13, hv14, h⟩ := h
 refine wl_s 1 rfl (s_call [.pointer (some ⟨g2, 0, none⟩)] rfl Try.func79 rfl rfl rfl fun w10 hL11 => ?_) gn
 have hp12 : List.Perm ([.box g2 123 [selfP g2 x1.addr, .slice A3 n4 c5], .own (.slice A3 n4 c5) 5 1 n4 (x1.buf.flatMap (eI .u8))] : List Ent) (([.box g2 123 [selfP g2 x1.addr, .slice A3 n4 c5]] : List Ent) ++ ([.own (.slice A3 n4 c5) 5 1 n4 (x1.buf.flatMap (eI .u8))] : List Ent)) := perm_of_idx [0] [1] rfl rfl (by kernel_rfl)
 refine Calls.mono (strings_Builder_copyCheck_calls w10 (Fl ([] : List Snap)) x1 g2 (.slice A3 n4 c5) (hL11.hFl (Sl := ([] : List Snap)) hp12 (sels [] rfl)) (hL11.into hp12 (Fl ([] : List Snap))) r13 hv14) ?_
 rintro _ w15 ⟨rfl, hM16⟩
 have hL17 := hL11.call hp12 hM16
 refine ⟨_, _, _, rfl, hL17, ?_⟩
 refine w_end 2 rfl ?_
 refine g_seq (c := q71c4) rfl ?_
 refine g_region (c := q71c5) rfl rfl ?_
 refine wl_v 0 rfl (v_move rfl) gn rfl ?_
 refine wl_v 1 rfl (v_move rfl) gn rfl ?_
 refine wl_v 2 rfl (v_nilCheck rfl) gn rfl ?_
 refine wl_v 3 rfl (v_fldB fo_123_1 rfl) gn rfl ?_
 refine wl_v 4 rfl (v_ldB1 0 ld_121 rfl rfl rfl) gn rfl ?_
 refine wl_v 5 rfl (v_move rfl) gn rfl ?_
 obtain ⟨x21, hv22, h⟩ := h
 obtain ⟨hb23, h⟩ := h
 refine wl_s 6 rfl (s_appS (zs := x21) 1 as_121_9 rfl rfl rfl h6 hz8 hv22 hb23 rfl fun A18 c19 h20 => ?_) gn
 refine wl_v 7 rfl (v_nilCheck rfl) gn rfl ?_
 refine wl_v 8 rfl (v_fldB fo_123_1 rfl) gn rfl ?_
 refine wl_s 9 rfl (s_stB (vs := [.slice A18 (n4 + x9.size) c19]) (cs' := [selfP g2 r13.addr, .slice A18 (n4 + x9.size) c19]) (M' := [.box g2 123 [selfP g2 r13.addr, .slice A18 (n4 + x9.size) c19], .own (.slice A18 (n4 + x9.size) c19) 5 1 (n4 + x9.size) (x21.flatMap (eI .u8))]) 0 sz_121 rfl rfl rfl rfl rfl rfl rfl rfl rfl ?_) gn
 refine w_end 10 rfl ?_
 refine g_seq (c := q71c6) rfl ?_
 refine g_region (c := q71c7) rfl rfl ?_
 refine wl_v 0 rfl (v_move rfl) gn rfl ?_
 refine wl_v 1 rfl (v_lenS un_9 rfl) gn rfl ?_
 refine wl_v 2 rfl (v_assign rfl) gn rfl ?_
 refine wl_v 3 rfl (v_assign rfl) gn rfl ?_
 refine w_end 4 rfl ?_
 refine g_retR (c := q71c8) [.int .i64 (x9.size : Int), .nilIface] rfl Try.func71 rfl (.tmp rfl (.tmp rfl (.nil))) fun wr hLr => ?_
 have hMr : B.Loc w wr [.box g2 123 [selfP g2 r13.addr, .slice A18 (n4 + x9.size) c19], .own (.slice A18 (n4 + x9.size) c19) 5 1 (n4 + x9.size) (x21.flatMap (eI .u8))] [St w [[g2], (Value.slice A3 n4 c5).ownBlock.toList]] := hLr.pick (rest := []) (perm_of_idx [0, 1] [] rfl rfl (by kernel_rfl)) (sels [1] rfl)
 show strings_Builder_WriteString_R w F g2 A3 n4 c5 z7 r (.returned (packV [.int .i64 (x9.size : Int), .nilIface])) wr
 rw [h]
 exact ⟨A18, n4 + x9.size, c19, rfl, hMr, h20⟩
noncomputable abbrev q73c0 : Code := bodyOf Try.f73
noncomputable abbrev q73c1 : Code := Code.fst q73c0
noncomputable abbrev q73c2 : Code := Code.snd q73c0
noncomputable abbrev q73c3 : Code := Code.fst q73c2
noncomputable abbrev q73c4 : Code := Code.snd q73c2
abbrev strings_Builder_String_R (w : World) (F : Nat → Prop) (g2 : Nat) (A3 : Option Addr) (n4 : Nat) (c5 : Nat) (z7 : Nat) (r : ByteArray) : Ending → World → Prop := fun e w' => e = .returned (.string r) ∧ B.Loc w w' [] [St w [[g2], (Value.slice A3 n4 c5).ownBlock.toList]]
noncomputable abbrev strings_Builder_String_C (w : World) (F : Nat → Prop) (g2 : Nat) (A3 : Option Addr) (n4 : Nat) (c5 : Nat) (z7 : Nat) (r : ByteArray) : Cx := ⟨Try.prog, 73, Try.f73, 14, strings_Builder_String_R w F g2 A3 n4 c5 z7 r, w⟩
theorem strings_Builder_String_calls (w : World) (F : Nat → Prop) (x1 : strings_Builder) (g2 : Nat) (z7 : Nat) (A3 : Option Addr) (n4 : Nat) (c5 : Nat) (hz8 : z7 ≤ w.heap.size) (h6 : Ow z7 A3 n4 c5 x1.buf) (hF : ∀ b, F b → b < w.heap.size ∧ ∀ o ∈ ([[g2], (Value.slice A3 n4 c5).ownBlock.toList] : List (List Nat)), b ∉ o) (hL0 : B.Loc w w [.box g2 123 [selfP g2 x1.addr, .slice A3 n4 c5], .own (.slice A3 n4 c5) 5 1 n4 (x1.buf.flatMap (eI .u8))] [Sm w.heap.size F w [[g2], (Value.slice A3 n4 c5).ownBlock.toList], St w [[g2], (Value.slice A3 n4 c5).ownBlock.toList]]) (r : ByteArray) (h : strings_Builder_String x1 r) : Calls Try.prog 73 #[.pointer (some ⟨g2, 0, none⟩)] w (strings_Builder_String_R w F g2 A3 n4 c5 z7 r) := by
 unfold strings_Builder_String at h
 refine calls_of_Loc (vs := [.pointer (some ⟨g2, 0, none⟩)]) 14 Try.func73 rfl Try.ntmps73 rfl hL0 ?_
 show G (strings_Builder_String_C w F g2 A3 n4 c5 z7 r) _ _ _ _
 refine g_seq (c := q73c0) rfl ?_
 refine g_region (c := q73c1) rfl rfl ?_
 refine wl_v 0 rfl (v_assign rfl) gn rfl ?_
 refine w_end 1 rfl ?_
 refine g_seq (c := q73c2) rfl ?_
 have hns : Region.noSelect (Code.ops q73c3) = true := by kernel_rfl
 refine g_drawF (c := q73c3) [.box g2 123 [selfP g2 x1.addr, .slice A3 n4 c5], .own (.slice A3 n4 c5) 5 1 n4 (x1.buf.flatMap (eI .u8))] [Sm w.heap.size F w [[g2], (Value.slice A3 n4 c5).ownBlock.toList], St w [[g2], (Value.slice A3 n4 c5).ownBlock.toList]] [10, 11] 12 rfl rfl mix rfl (.cons_cons _ (.cons_cons _ (.slnil))) (sels [0, 1] rfl) ?_
 refine wfv 0 rfl (v_move rfl) gn hns (by kernel_rfl) ?_
 refine wfv 1 rfl (v_nilCheck rfl) gn hns (by kernel_rfl) ?_
 refine wfv 2 rfl (v_fldB fo_123_1 rfl) gn hns (by kernel_rfl) ?_
 refine wfv 3 rfl (v_ldB1 0 ld_121 rfl rfl rfl) gn hns (by kernel_rfl) ?_
 refine wfv 5 rfl (v_move rfl) gn hns (by kernel_rfl) ?_
 refine wfv 6 rfl (v_nilCheck rfl) gn hns (by kernel_rfl) ?_
 refine wfv 7 rfl (v_fldB fo_123_1 rfl) gn hns (by kernel_rfl) ?_
 refine wfv 8 rfl (v_ldB1 0 ld_121 rfl rfl rfl) gn hns (by kernel_rfl) ?_
 refine wfv 9 rfl (v_lenQ un_121 rfl h6.hq) gn hns (by kernel_rfl) ?_
 refine wf_all [4] (by kernel_rfl) rfl ⟨on_s 4 rfl gn rfl (s_slData 1 un_135 rfl rfl rfl fun p37 hp38 => ?_), trivial⟩
 refine ⟨sels [0, 1] rfl, sels [0, 1] rfl, ?_⟩
 refine wf_all [10] (by kernel_rfl) rfl ⟨on_l 10 rfl gn rfl (s_ustr 1 by_135_5 rfl hp38 rfl h6 rfl rfl ?_), trivial⟩
 unfold NxL
 refine wf_all [11] (by kernel_rfl) rfl ⟨on_l 11 rfl gn rfl (s_val (v_assign rfl) rfl ?_), trivial⟩
 unfold NxL
 refine wf_end (by kernel_rfl) ?_
 refine g_retR (c := q73c4) [.string (ofBs x1.buf)] rfl Try.func73 rfl (.tmp rfl (.nil)) fun wr hLr => ?_
 have hMr : B.Loc w wr [] [St w [[g2], (Value.slice A3 n4 c5).ownBlock.toList]] := hLr.pick0 (sels [1] rfl)
 show strings_Builder_String_R w F g2 A3 n4 c5 z7 r (.returned (packV [.string (ofBs x1.buf)])) wr
 rw [h]
 exact ⟨rfl, hMr⟩
noncomputable abbrev q72c0 : Code := bodyOf Try.f72
noncomputable abbrev q72c1 : Code := Code.fst q72c0
noncomputable abbrev q72c2 : Code := Code.snd q72c0
noncomputable abbrev q72c3 : Code := Code.fst q72c2
noncomputable abbrev q72c4 : Code := Code.snd q72c2
noncomputable abbrev q72c5 : Code := Code.fst q72c4
noncomputable abbrev q72c6 : Code := Code.snd q72c4
noncomputable abbrev q72c7 : Code := Code.fst q72c6
noncomputable abbrev q72c8 : Code := Code.snd q72c6
noncomputable abbrev q72c9 : Code := Code.fst q72c7
noncomputable abbrev q72c10 : Code := Code.snd q72c7
noncomputable abbrev q72c11 : Code := Code.fst q72c10
noncomputable abbrev q72c12 : Code := Code.fst q72c11
noncomputable abbrev q72c13 : Code := Code.fst q72c12
noncomputable abbrev q72c14 : Code := Code.snd q72c12
noncomputable abbrev q72c15 : Code := Code.fst q72c14
noncomputable abbrev q72c16 : Code := Code.snd q72c14
noncomputable abbrev q72c17 : Code := Code.fst q72c15
noncomputable abbrev q72c18 : Code := Code.snd q72c15
noncomputable abbrev q72c19 : Code := Code.fst q72c16
noncomputable abbrev q72c20 : Code := Code.snd q72c16
noncomputable abbrev q72c21 : Code := Code.fst q72c19
noncomputable abbrev q72c22 : Code := Code.fst q72c21
noncomputable abbrev q72c23 : Code := Code.snd q72c21
noncomputable abbrev q72c24 : Code := Code.fst q72c23
noncomputable abbrev q72c25 : Code := Code.fst q72c24
noncomputable abbrev q72c26 : Code := Code.snd q72c24
noncomputable abbrev q72c27 : Code := Code.fst q72c26
noncomputable abbrev q72c28 : Code := Code.snd q72c26
noncomputable abbrev q72c29 : Code := Code.fst q72c28
noncomputable abbrev q72c30 : Code := Code.snd q72c28
noncomputable abbrev q72c31 : Code := Code.fst q72c30
noncomputable abbrev q72c32 : Code := Code.snd q72c30
noncomputable abbrev q72c33 : Code := Code.fst q72c32
noncomputable abbrev q72c34 : Code := Code.snd q72c32
noncomputable abbrev q72c35 : Code := Code.fst q72c34
noncomputable abbrev q72c36 : Code := Code.snd q72c34
noncomputable abbrev q72c37 : Code := Code.fst q72c8
noncomputable abbrev q72c38 : Code := Code.snd q72c8
noncomputable abbrev q72c39 : Code := Code.fst q72c38
noncomputable abbrev q72c40 : Code := Code.snd q72c38
abbrev tree_quoted_R (w : World) (F : Nat → Prop) (r : ByteArray) : Ending → World → Prop := fun e w' => e = .returned (.string r) ∧ B.Loc w w' [] [St w []]
noncomputable abbrev tree_quoted_C (w : World) (F : Nat → Prop) (r : ByteArray) : Cx := ⟨Try.prog, 72, Try.f72, 53, tree_quoted_R w F  r, w⟩
theorem tree_quoted_calls (w : World) (F : Nat → Prop) (x1 : ByteArray) (hF : ∀ b, F b → b < w.heap.size ∧ ∀ o ∈ ([] : List (List Nat)), b ∉ o) (hL0 : B.Loc w w [] [Sm w.heap.size F w [], St w []]) (r : ByteArray) (h : tree_quoted x1 r) : Calls Try.prog 72 #[.string x1] w (tree_quoted_R w F  r) := by
 unfold tree_quoted at h
 refine calls_of_Loc (vs := [.string x1]) 53 Try.func72 rfl Try.ntmps72 rfl hL0 ?_
 show G (tree_quoted_C w F r) _ _ _ _
 refine g_seq (c := q72c0) rfl ?_
 refine g_region (c := q72c1) rfl rfl ?_
 refine wl_v 0 rfl (v_assign rfl) gn rfl ?_
 refine w_end 1 rfl ?_
 refine g_seq (c := q72c2) rfl ?_
 refine g_region (c := q72c3) rfl rfl ?_
 refine wl_s 0 rfl (s_alloc [.pointer none, .slice none 0 0] zr_123 rfl fun gb2 => ?_) gn
 refine w_end 1 rfl ?_
 refine g_seq (c := q72c4) rfl ?_
 refine g_region (c := q72c5) rfl rfl ?_
 obtain ⟨r8, hv9, h⟩ := h
 refine w_nil 5 1 ?_
 refine wl_s 0 rfl (s_call [.pointer (some ⟨gb2, 0, none⟩), .int .u8 34] rfl Try.func70 rfl rfl rfl fun w4 hL5 => ?_) gn
 have hp6 : List.Perm ([.own (.slice none 0 0) 5 1 0 (([] : List Int).flatMap (eI .u8)), .box gb2 123 [.pointer none, .slice none 0 0]] : List Ent) (([.box gb2 123 [.pointer none, .slice none 0 0], .own (.slice none 0 0) 5 1 0 (([] : List Int).flatMap (eI .u8))] : List Ent) ++ ([] : List Ent)) := perm_of_idx [1, 0] [] rfl rfl (by kernel_rfl)
 refine Calls.mono (strings_Builder_WriteByte_calls w4 (Fl ([] : List Snap)) (⟨false, ([] : List Int)⟩ : strings_Builder) 34 gb2 w.heap.size none 0 0 hL5.env.size (Ow.nil (z := w.heap.size)) (hL5.hFl (Sl := ([] : List Snap)) hp6 (sels [] rfl)) (hL5.into hp6 (Fl ([] : List Snap))) r8 hv9) ?_
 rintro _ w15 ⟨A10, n11, c12, rfl, hM16, h13⟩
 have hL17 := hL5.call hp6 hM16
 refine ⟨_, _, _, rfl, hL17, ?_⟩
 refine w_end 1 rfl ?_
 refine g_seq (c := q72c6) rfl ?_
 refine g_seq (c := q72c7) rfl ?_
 refine g_region (c := q72c9) rfl rfl ?_
 refine wl_v 0 rfl (v_move rfl) gn rfl ?_
 obtain ⟨hb18, h⟩ := h
 refine wl_s 1 rfl (s_s2b un_9 slE_121 un_5 rfl hb18 rfl fun A19 c20 h21 => ?_) gn
 refine wl_v 2 rfl (v_lenQ un_121 rfl h21.hq) gn rfl ?_
 refine wl_v 3 rfl (v_move rfl) gn rfl ?_
 refine w_end 4 rfl ?_
 refine g_block (c := q72c10) rfl ?_
 refine g_loop (c := q72c11) rfl ?_
 have key1 : ∀ s, Rounds (fun (s : Int × Bool × (List Int)) o => tree_quoted_b1 x1 s.1 s.2.1 s.2.2 o) s r → (fun (s : Int × Bool × (List Int)) => ∀ (A138 : Option Addr) (n139 : Nat) (c140 : Nat) (h141 : Ow w.heap.size A138 n139 c140 s.2.2), G (tree_quoted_C w F r) [.code q72c12, .inLoop q72c12, .inBlock 0, .code q72c8] [(3, .pointer (some ⟨gb2, 0, none⟩)), (8, .slice A19 x1.size c20), (9, .int .i64 ((bsOf x1).length : Int)), (10, .int .i64 s.1)] [.own (.slice A138 n139 c140) 5 1 n139 (s.2.2.flatMap (eI .u8)), .own (.slice A19 x1.size c20) 5 1 x1.size ((bsOf x1).flatMap (eI .u8)), .box gb2 123 [selfP gb2 s.2.1, .slice A138 n139 c140]] [Sm w.heap.size F w [], St w []]) s := by
  intro s hs
  refine Rounds.ind (mot := (fun (s : Int × Bool × (List Int)) => ∀ (A138 : Option Addr) (n139 : Nat) (c140 : Nat) (h141 : Ow w.heap.size A138 n139 c140 s.2.2), G (tree_quoted_C w F r) [.code q72c12, .inLoop q72c12, .inBlock 0, .code q72c8] [(3, .pointer (some ⟨gb2, 0, none⟩)), (8, .slice A19 x1.size c20), (9, .int .i64 ((bsOf x1).length : Int)), (10, .int .i64 s.1)] [.own (.slice A138 n139 c140) 5 1 n139 (s.2.2.flatMap (eI .u8)), .own (.slice A19 x1.size c20) 5 1 x1.size ((bsOf x1).flatMap (eI .u8)), .box gb2 123 [selfP gb2 s.2.1, .slice A138 n139 c140]] [Sm w.heap.size F w [], St w []])) ?_ hs
  clear hs s
  intro s o1 h hO1
  obtain ⟨x135, x136, x137⟩ := s
  show ∀ (A138 : Option Addr) (n139 : Nat) (c140 : Nat) (h141 : Ow w.heap.size A138 n139 c140 x137), G (tree_quoted_C w F r) [.code q72c12, .inLoop q72c12, .inBlock 0, .code q72c8] [(3, .pointer (some ⟨gb2, 0, none⟩)), (8, .slice A19 x1.size c20), (9, .int .i64 ((bsOf x1).length : Int)), (10, .int .i64 x135)] [.own (.slice A138 n139 c140) 5 1 n139 (x137.flatMap (eI .u8)), .own (.slice A19 x1.size c20) 5 1 x1.size ((bsOf x1).flatMap (eI .u8)), .box gb2 123 [selfP gb2 x136, .slice A138 n139 c140]] [Sm w.heap.size F w [], St w []]
  intro A138 n139 c140 h141
  have h : tree_quoted_b1 x1 x135 x136 x137 o1 := h
  unfold tree_quoted_b1 at h
  refine g_seq (c := q72c12) rfl ?_
  refine g_region (c := q72c13) rfl rfl ?_
  refine wl_v 0 rfl (v_bin rfl rfl rfl) gn rfl ?_
  refine w_end 1 rfl ?_
  refine g_seq (c := q72c14) rfl ?_
  by_cases hp253 : x135 < ((bsOf x1).length : Int)
  ·have h := if_pos' hp253 h
   refine g_true (c := q72c15) rfl _ rfl ((decide_eq_true hp253)) ?_
   refine g_skip (c := q72c17) rfl ?_
   refine g_seq (c := q72c16) rfl ?_
   refine g_block (c := q72c19) rfl ?_
   refine g_seq (c := q72c21) rfl ?_
   refine g_region (c := q72c22) rfl rfl ?_
   obtain ⟨hb254, h⟩ := h
   refine wl_v 0 rfl (v_idxO slE_121 rfl rfl h21 hb254) gn rfl ?_
   refine wl_v 1 rfl (v_ldO1 (.int .u8 (ix (bsOf x1) x135)) 1 ld_5 rfl rfl (fm_get0 (hlI .u8) hb254 rfl)) gn rfl ?_
   refine wl_v 2 rfl (v_assign rfl) gn rfl ?_
   refine w_end 3 rfl ?_
   refine g_block (c := q72c23) rfl ?_
   refine g_seq (c := q72c24) rfl ?_
   have j2 : ∀ (x257 : Bool) (h : tree_quoted_j2 x1 x135 x136 x137 x257 o1) , G (tree_quoted_C w F r) [.code q72c26, .inBlock 2, .inBlock 1, .code q72c20, .inLoop q72c12, .inBlock 0, .code q72c8] [(3, .pointer (some ⟨gb2, 0, none⟩)), (5, .int .u8 (ix (bsOf x1) x135)), (8, .slice A19 x1.size c20), (9, .int .i64 ((bsOf x1).length : Int)), (10, .int .i64 x135), (16, .bool x257)] [.own (.slice A138 n139 c140) 5 1 n139 (x137.flatMap (eI .u8)), .own (.slice A19 x1.size c20) 5 1 x1.size ((bsOf x1).flatMap (eI .u8)), .box gb2 123 [selfP gb2 x136, .slice A138 n139 c140]] [Sm w.heap.size F w [], St w []] := by
    intro x257 h
    unfold tree_quoted_j2 at h
    by_cases hp258 : x257 = true
    ·have h := if_pos' hp258 h
     refine g_true (c := q72c26) rfl _ rfl (hp258) ?_
     refine g_region (c := q72c27) rfl rfl ?_
     refine wl_v 0 rfl (v_move rfl) gn rfl ?_
     refine wl_v 1 rfl (v_conv ⟨_, un_5⟩ un_21 rfl) gn rfl ?_
     refine wl_v 2 rfl (v_convC un_21 un_9 rfl) gn rfl ?_
     obtain ⟨hb259, h⟩ := h
     refine wl_v 3 rfl (v_catS rfl rfl hb259) gn rfl ?_
     obtain ⟨r263, hv264, h⟩ := h
     refine wl_s 4 rfl (s_call [.pointer (some ⟨gb2, 0, none⟩), .string ((⟨#[92]⟩ : ByteArray) ++ (chrB (IntKind.i32.wrap (ix (bsOf x1) x135))))] rfl Try.func71 rfl rfl rfl fun w260 hL261 => ?_) gn
     have hp262 : List.Perm ([.own (.slice A138 n139 c140) 5 1 n139 (x137.flatMap (eI .u8)), .own (.slice A19 x1.size c20) 5 1 x1.size ((bsOf x1).flatMap (eI .u8)), .box gb2 123 [selfP gb2 x136, .slice A138 n139 c140]] : List Ent) (([.box gb2 123 [selfP gb2 x136, .slice A138 n139 c140], .own (.slice A138 n139 c140) 5 1 n139 (x137.flatMap (eI .u8))] : List Ent) ++ ([.own (.slice A19 x1.size c20) 5 1 x1.size ((bsOf x1).flatMap (eI .u8))] : List Ent)) := perm_of_idx [2, 0] [1] rfl rfl (by kernel_rfl)
     refine Calls.mono (strings_Builder_WriteString_calls w260 (Fl ([] : List Snap)) (⟨x136, x137⟩ : strings_Builder) ((⟨#[92]⟩ : ByteArray) ++ (chrB (IntKind.i32.wrap (ix (bsOf x1) x135)))) gb2 w.heap.size A138 n139 c140 hL261.env.size h141 (hL261.hFl (Sl := ([] : List Snap)) hp262 (sels [] rfl)) (hL261.into hp262 (Fl ([] : List Snap))) r263 hv264) ?_
     rintro _ w270 ⟨A265, n266, c267, rfl, hM271, h268⟩
     have hL272 := hL261.call hp262 hM271
     refine ⟨_, _, _, rfl, hL272, ?_⟩
     refine w_end 5 rfl ?_
     refine g_inBlock ?_
     refine g_inBlock ?_
     refine g_region (c := q72c20) rfl rfl ?_
     refine wl_v 0 rfl (v_bin rfl rfl rfl) gn rfl ?_
     refine wl_v 1 rfl (v_move rfl) gn rfl ?_
     refine w_end 2 rfl ?_
     refine g_inLoop ?_
     refine g_front 0 rfl ?_
     refine g_front 2 rfl ?_
     refine g_front 2 rfl ?_
     have ih := Out.inl hO1 h
     exact g_go [0, 1] (ih A265 n266 c267 h268) ⟨rfl, rfl, rfl, rfl, trivial⟩ (.cons_cons _ (.cons_cons _ (.cons_cons _ (.slnil)))) rfl
    ·have h := if_neg' hp258 h
     refine g_false (c := q72c26) rfl _ rfl ((bf hp258)) ?_
     refine g_seq (c := q72c28) rfl ?_
     refine g_region (c := q72c29) rfl rfl ?_
     refine wl_v 0 rfl (v_move rfl) gn rfl ?_
     refine wl_v 1 rfl (v_bin rfl rfl rfl) gn rfl ?_
     refine wl_v 2 rfl (v_assign rfl) gn rfl ?_
     refine w_end 3 rfl ?_
     by_cases hp273 : ix (bsOf x1) x135 = 10
     ·have h := if_pos' hp273 h
      refine g_true (c := q72c30) rfl _ rfl ((eqi hp273)) ?_
      refine g_region (c := q72c31) rfl rfl ?_
      obtain ⟨r277, hv278, h⟩ := h
      refine wl_s 0 rfl (s_call [.pointer (some ⟨gb2, 0, none⟩), .string (⟨#[92, 110]⟩ : ByteArray)] rfl Try.func71 rfl rfl rfl fun w274 hL275 => ?_) gn
      have hp276 : List.Perm ([.own (.slice A138 n139 c140) 5 1 n139 (x137.flatMap (eI .u8)), .own (.slice A19 x1.size c20) 5 1 x1.size ((bsOf x1).flatMap (eI .u8)), .box gb2 123 [selfP gb2 x136, .slice A138 n139 c140]] : List Ent) (([.box gb2 123 [selfP gb2 x136, .slice A138 n139 c140], .own (.slice A138 n139 c140) 5 1 n139 (x137.flatMap (eI .u8))] : List Ent) ++ ([.own (.slice A19 x1.size c20) 5 1 x1.size ((bsOf x1).flatMap (eI .u8))] : List Ent)) := perm_of_idx [2, 0] [1] rfl rfl (by kernel_rfl)
      refine Calls.mono (strings_Builder_WriteString_calls w274 (Fl ([] : List Snap)) (⟨x136, x137⟩ : strings_Builder) (⟨#[92, 110]⟩ : ByteArray) gb2 w.heap.size A138 n139 c140 hL275.env.size h141 (hL275.hFl (Sl := ([] : List Snap)) hp276 (sels [] rfl)) (hL275.into hp276 (Fl ([] : List Snap))) r277 hv278) ?_
      rintro _ w284 ⟨A279, n280, c281, rfl, hM285, h282⟩
      have hL286 := hL275.call hp276 hM285
      refine ⟨_, _, _, rfl, hL286, ?_⟩
      refine w_end 1 rfl ?_
      refine g_inBlock ?_
      refine g_inBlock ?_
      refine g_region (c := q72c20) rfl rfl ?_
      refine wl_v 0 rfl (v_bin rfl rfl rfl) gn rfl ?_
      refine wl_v 1 rfl (v_move rfl) gn rfl ?_
      refine w_end 2 rfl ?_
      refine g_inLoop ?_
      refine g_front 0 rfl ?_
      refine g_front 2 rfl ?_
      refine g_front 2 rfl ?_
      have ih := Out.inl hO1 h
      exact g_go [0, 1] (ih A279 n280 c281 h282) ⟨rfl, rfl, rfl, rfl, trivial⟩ (.cons_cons _ (.cons_cons _ (.cons_cons _ (.slnil)))) rfl
     ·have h := if_neg' hp273 h
      refine g_false (c := q72c30) rfl _ rfl ((nei hp273)) ?_
      refine g_seq (c := q72c32) rfl ?_
      have j3 : ∀ (x289 : Bool) (h : tree_quoted_j3 x1 x135 x136 x137 x289 o1) , G (tree_quoted_C w F r) [.code q72c34, .inBlock 2, .inBlock 1, .code q72c20, .inLoop q72c12, .inBlock 0, .code q72c8] [(3, .pointer (some ⟨gb2, 0, none⟩)), (5, .int .u8 (ix (bsOf x1) x135)), (8, .slice A19 x1.size c20), (9, .int .i64 ((bsOf x1).length : Int)), (10, .int .i64 x135), (32, .bool x289)] [.own (.slice A138 n139 c140) 5 1 n139 (x137.flatMap (eI .u8)), .own (.slice A19 x1.size c20) 5 1 x1.size ((bsOf x1).flatMap (eI .u8)), .box gb2 123 [selfP gb2 x136, .slice A138 n139 c140]] [Sm w.heap.size F w [], St w []] := by
       intro x289 h
       unfold tree_quoted_j3 at h
       by_cases hp290 : x289 = true
       ·have h := if_pos' hp290 h
        refine g_true (c := q72c34) rfl _ rfl (hp290) ?_
        obtain ⟨hb291, h⟩ := h
        obtain ⟨hb292, h⟩ := h
        obtain ⟨hb293, h⟩ := h
        obtain ⟨hb294, h⟩ := h
        obtain ⟨r298, hv299, h⟩ := h
        have hns : Region.noSelect (Code.ops q72c35) = true := by kernel_rfl
        refine g_drawF (c := q72c35) [.own (.slice A138 n139 c140) 5 1 n139 (x137.flatMap (eI .u8)), .own (.slice A19 x1.size c20) 5 1 x1.size ((bsOf x1).flatMap (eI .u8)), .box gb2 123 [selfP gb2 x136, .slice A138 n139 c140]] [Sm w.heap.size F w [], St w []] [10] 11 rfl rfl mix rfl (.cons_cons _ (.cons_cons _ (.cons_cons _ (.slnil)))) (sels [0, 1] rfl) ?_
        refine wfv 0 rfl (v_move rfl) gn hns (by kernel_rfl) ?_
        refine wfv 1 rfl (v_shr rfl rfl (by decide)) gn hns (by kernel_rfl) ?_
        refine wfv 2 rfl (v_indexS un_9 rfl rfl hb291) gn hns (by kernel_rfl) ?_
        refine wfv 3 rfl (v_convC un_5 un_9 rfl) gn hns (by kernel_rfl) ?_
        refine wfv 4 rfl (v_catS rfl rfl hb292) gn hns (by kernel_rfl) ?_
        refine wfv 5 rfl (v_move rfl) gn hns (by kernel_rfl) ?_
        refine wfv 6 rfl (v_bin rfl rfl rfl) gn hns (by kernel_rfl) ?_
        refine wfv 7 rfl (v_indexS un_9 rfl rfl hb293) gn hns (by kernel_rfl) ?_
        refine wfv 8 rfl (v_convC un_5 un_9 rfl) gn hns (by kernel_rfl) ?_
        refine wfv 9 rfl (v_catS rfl rfl hb294) gn hns (by kernel_rfl) ?_
        refine wf_all [10] (by kernel_rfl) rfl ⟨on_l 10 rfl gn rfl (s_call [.pointer (some ⟨gb2, 0, none⟩), .string (((⟨#[92, 120]⟩ : ByteArray) ++ (chrB (bt (⟨#[48, 49, 50, 51, 52, 53, 54, 55, 56, 57, 97, 98, 99, 100, 101, 102]⟩ : ByteArray) (shrV .u8 (ix (bsOf x1) x135) 4)))) ++ (chrB (bt (⟨#[48, 49, 50, 51, 52, 53, 54, 55, 56, 57, 97, 98, 99, 100, 101, 102]⟩ : ByteArray) (bits .and .u8 (ix (bsOf x1) x135) 15))))] rfl Try.func71 rfl rfl rfl fun w318 hL319 => ?_), trivial⟩
        have hp320 : List.Perm ([.own (.slice A138 n139 c140) 5 1 n139 (x137.flatMap (eI .u8)), .own (.slice A19 x1.size c20) 5 1 x1.size ((bsOf x1).flatMap (eI .u8)), .box gb2 123 [selfP gb2 x136, .slice A138 n139 c140]] : List Ent) (([.box gb2 123 [selfP gb2 x136, .slice A138 n139 c140], .own (.slice A138 n139 c140) 5 1 n139 (x137.flatMap (eI .u8))] : List Ent) ++ ([.own (.slice A19 x1.size c20) 5 1 x1.size ((bsOf x1).flatMap (eI .u8))] : List Ent)) := perm_of_idx [2, 0] [1] rfl rfl (by kernel_rfl)
        refine Calls.mono (strings_Builder_WriteString_calls w318 (Fl ([] : List Snap)) (⟨x136, x137⟩ : strings_Builder) (((⟨#[92, 120]⟩ : ByteArray) ++ (chrB (bt (⟨#[48, 49, 50, 51, 52, 53, 54, 55, 56, 57, 97, 98, 99, 100, 101, 102]⟩ : ByteArray) (shrV .u8 (ix (bsOf x1) x135) 4)))) ++ (chrB (bt (⟨#[48, 49, 50, 51, 52, 53, 54, 55, 56, 57, 97, 98, 99, 100, 101, 102]⟩ : ByteArray) (bits .and .u8 (ix (bsOf x1) x135) 15)))) gb2 w.heap.size A138 n139 c140 hL319.env.size h141 (hL319.hFl (Sl := ([] : List Snap)) hp320 (sels [] rfl)) (hL319.into hp320 (Fl ([] : List Snap))) r298 hv299) ?_
        rintro _ w325 ⟨A321, n322, c323, rfl, hM326, h324⟩
        have hL327 := hL319.call hp320 hM326
        refine ⟨_, _, _, rfl, hL327, ?_⟩
        unfold NxL
        refine wf_end (by kernel_rfl) ?_
        refine g_inBlock ?_
        refine g_inBlock ?_
        refine g_region (c := q72c20) rfl rfl ?_
        refine wl_v 0 rfl (v_bin rfl rfl rfl) gn rfl ?_
        refine wl_v 1 rfl (v_move rfl) gn rfl ?_
        refine w_end 2 rfl ?_
        refine g_inLoop ?_
        refine g_front 0 rfl ?_
        refine g_front 2 rfl ?_
        refine g_front 2 rfl ?_
        have ih := Out.inl hO1 h
        exact g_go [0, 1] (ih A321 n322 c323 h324) ⟨rfl, rfl, rfl, rfl, trivial⟩ (.cons_cons _ (.cons_cons _ (.cons_cons _ (.slnil)))) rfl
       ·have h := if_neg' hp290 h
        refine g_false (c := q72c34) rfl _ rfl ((bf hp290)) ?_
        refine g_region (c := q72c36) rfl rfl ?_
        refine wl_v 0 rfl (v_move rfl) gn rfl ?_
        obtain ⟨r331, hv332, h⟩ := h
        refine wl_s 1 rfl (s_call [.pointer (some ⟨gb2, 0, none⟩), .int .u8 (ix (bsOf x1) x135)] rfl Try.func70 rfl rfl rfl fun w328 hL329 => ?_) gn
        have hp330 : List.Perm ([.own (.slice A138 n139 c140) 5 1 n139 (x137.flatMap (eI .u8)), .own (.slice A19 x1.size c20) 5 1 x1.size ((bsOf x1).flatMap (eI .u8)), .box gb2 123 [selfP gb2 x136, .slice A138 n139 c140]] : List Ent) (([.box gb2 123 [selfP gb2 x136, .slice A138 n139 c140], .own (.slice A138 n139 c140) 5 1 n139 (x137.flatMap (eI .u8))] : List Ent) ++ ([.own (.slice A19 x1.size c20) 5 1 x1.size ((bsOf x1).flatMap (eI .u8))] : List Ent)) := perm_of_idx [2, 0] [1] rfl rfl (by kernel_rfl)
        refine Calls.mono (strings_Builder_WriteByte_calls w328 (Fl ([] : List Snap)) (⟨x136, x137⟩ : strings_Builder) (ix (bsOf x1) x135) gb2 w.heap.size A138 n139 c140 hL329.env.size h141 (hL329.hFl (Sl := ([] : List Snap)) hp330 (sels [] rfl)) (hL329.into hp330 (Fl ([] : List Snap))) r331 hv332) ?_
        rintro _ w338 ⟨A333, n334, c335, rfl, hM339, h336⟩
        have hL340 := hL329.call hp330 hM339
        refine ⟨_, _, _, rfl, hL340, ?_⟩
        refine w_end 2 rfl ?_
        refine g_inBlock ?_
        refine g_inBlock ?_
        refine g_region (c := q72c20) rfl rfl ?_
        refine wl_v 0 rfl (v_bin rfl rfl rfl) gn rfl ?_
        refine wl_v 1 rfl (v_move rfl) gn rfl ?_
        refine w_end 2 rfl ?_
        refine g_inLoop ?_
        refine g_front 0 rfl ?_
        refine g_front 2 rfl ?_
        refine g_front 2 rfl ?_
        have ih := Out.inl hO1 h
        exact g_go [0, 1] (ih A333 n334 c335 h336) ⟨rfl, rfl, rfl, rfl, trivial⟩ (.cons_cons _ (.cons_cons _ (.cons_cons _ (.slnil)))) rfl
      refine g_region (c := q72c33) rfl rfl ?_
      refine wl_v 0 rfl (v_move rfl) gn rfl ?_
      refine wl_v 1 rfl (v_bin rfl rfl rfl) gn rfl ?_
      refine wl_v 2 rfl (v_move rfl) gn rfl ?_
      by_cases hp341 : ix (bsOf x1) x135 < 32
      ·have h := if_pos' hp341 h
       refine w_bool 35 rfl ((decide_eq_true hp341)) ?_
       refine wl_pass 3 rfl (ps 35 rfl rfl rfl) ?_
       refine wl_pass 4 rfl (ps 35 rfl rfl rfl) ?_
       refine wl_v 5 rfl (v_pick (b := true) rfl rfl) gn rfl ?_
       refine wl_v 6 rfl (v_assign rfl) gn rfl ?_
       refine w_end 7 rfl ?_
       exact g_go [0, 1] (j3 true h) ⟨rfl, rfl, rfl, rfl, rfl, rfl, trivial⟩ (.cons_cons _ (.cons_cons _ (.cons_cons _ (.slnil)))) rfl
      ·have h := if_neg' hp341 h
       refine w_bool 35 rfl ((decide_eq_false hp341)) ?_
       refine wl_v 3 rfl (v_move rfl) (gy 35 rfl rfl) rfl ?_
       refine wl_v 4 rfl (v_bin rfl rfl rfl) (gy 35 rfl rfl) rfl ?_
       refine wl_v 5 rfl (v_pick (b := false) rfl rfl) gn rfl ?_
       refine wl_v 6 rfl (v_assign rfl) gn rfl ?_
       refine w_end 7 rfl ?_
       exact g_go [0, 1] (j3 (decide (ix (bsOf x1) x135 > 126)) h) ⟨rfl, rfl, rfl, rfl, rfl, rfl, trivial⟩ (.cons_cons _ (.cons_cons _ (.cons_cons _ (.slnil)))) rfl
   refine g_region (c := q72c25) rfl rfl ?_
   refine wl_v 0 rfl (v_move rfl) gn rfl ?_
   refine wl_v 1 rfl (v_bin rfl rfl rfl) gn rfl ?_
   refine wl_v 2 rfl (v_move rfl) gn rfl ?_
   by_cases hp342 : ix (bsOf x1) x135 = 34
   ·have h := if_pos' hp342 h
    refine w_bool 19 rfl ((eqi hp342)) ?_
    refine wl_pass 3 rfl (ps 19 rfl rfl rfl) ?_
    refine wl_pass 4 rfl (ps 19 rfl rfl rfl) ?_
    refine wl_v 5 rfl (v_pick (b := true) rfl rfl) gn rfl ?_
    refine wl_v 6 rfl (v_assign rfl) gn rfl ?_
    refine w_end 7 rfl ?_
    exact g_go [0, 1] (j2 true h) ⟨rfl, rfl, rfl, rfl, rfl, rfl, trivial⟩ (.cons_cons _ (.cons_cons _ (.cons_cons _ (.slnil)))) rfl
   ·have h := if_neg' hp342 h
    refine w_bool 19 rfl ((nei hp342)) ?_
    refine wl_v 3 rfl (v_move rfl) (gy 19 rfl rfl) rfl ?_
    refine wl_v 4 rfl (v_bin rfl rfl rfl) (gy 19 rfl rfl) rfl ?_
    refine wl_v 5 rfl (v_pick (b := false) rfl rfl) gn rfl ?_
    refine wl_v 6 rfl (v_assign rfl) gn rfl ?_
    refine w_end 7 rfl ?_
    exact g_go [0, 1] (j2 ((ix (bsOf x1) x135) == 92) h) ⟨rfl, rfl, rfl, rfl, rfl, rfl, trivial⟩ (.cons_cons _ (.cons_cons _ (.cons_cons _ (.slnil)))) rfl
  ·have h := if_neg' hp253 h
   refine g_false (c := q72c15) rfl _ rfl ((decide_eq_false hp253)) ?_
   refine g_exit (c := q72c18) [.code q72c8] rfl rfl ?_
   refine g_seq (c := q72c8) rfl ?_
   refine g_region (c := q72c37) rfl rfl ?_
   obtain ⟨r346, hv347, h⟩ := h
   refine wl_s 0 rfl (s_call [.pointer (some ⟨gb2, 0, none⟩), .int .u8 34] rfl Try.func70 rfl rfl rfl fun w343 hL344 => ?_) gn
   have hp345 : List.Perm ([.own (.slice A138 n139 c140) 5 1 n139 (x137.flatMap (eI .u8)), .own (.slice A19 x1.size c20) 5 1 x1.size ((bsOf x1).flatMap (eI .u8)), .box gb2 123 [selfP gb2 x136, .slice A138 n139 c140]] : List Ent) (([.box gb2 123 [selfP gb2 x136, .slice A138 n139 c140], .own (.slice A138 n139 c140) 5 1 n139 (x137.flatMap (eI .u8))] : List Ent) ++ ([.own (.slice A19 x1.size c20) 5 1 x1.size ((bsOf x1).flatMap (eI .u8))] : List Ent)) := perm_of_idx [2, 0] [1] rfl rfl (by kernel_rfl)
   refine Calls.mono (strings_Builder_WriteByte_calls w343 (Fl ([] : List Snap)) (⟨x136, x137⟩ : strings_Builder) 34 gb2 w.heap.size A138 n139 c140 hL344.env.size h141 (hL344.hFl (Sl := ([] : List Snap)) hp345 (sels [] rfl)) (hL344.into hp345 (Fl ([] : List Snap))) r346 hv347) ?_
   rintro _ w353 ⟨A348, n349, c350, rfl, hM354, h351⟩
   have hL355 := hL344.call hp345 hM354
   refine ⟨_, _, _, rfl, hL355, ?_⟩
   refine w_end 1 rfl ?_
   refine g_seq (c := q72c38) rfl ?_
   refine g_region (c := q72c39) rfl rfl ?_
   obtain ⟨r359, hv360, h⟩ := h
   refine wl_s 0 rfl (s_call [.pointer (some ⟨gb2, 0, none⟩)] rfl Try.func73 rfl rfl rfl fun w356 hL357 => ?_) gn
   have hp358 : List.Perm ([.box gb2 123 [selfP gb2 r346.addr, .slice A348 n349 c350], .own (.slice A348 n349 c350) 5 1 n349 (r346.buf.flatMap (eI .u8)), .own (.slice A19 x1.size c20) 5 1 x1.size ((bsOf x1).flatMap (eI .u8))] : List Ent) (([.box gb2 123 [selfP gb2 r346.addr, .slice A348 n349 c350], .own (.slice A348 n349 c350) 5 1 n349 (r346.buf.flatMap (eI .u8))] : List Ent) ++ ([.own (.slice A19 x1.size c20) 5 1 x1.size ((bsOf x1).flatMap (eI .u8))] : List Ent)) := perm_of_idx [0, 1] [2] rfl rfl (by kernel_rfl)
   refine Calls.mono (strings_Builder_String_calls w356 (Fl ([] : List Snap)) r346 gb2 w.heap.size A348 n349 c350 hL357.env.size h351 (hL357.hFl (Sl := ([] : List Snap)) hp358 (sels [] rfl)) (hL357.into hp358 (Fl ([] : List Snap))) r359 hv360) ?_
   rintro _ w361 ⟨rfl, hM362⟩
   have hL363 := hL357.call hp358 hM362
   refine ⟨_, _, _, rfl, hL363, ?_⟩
   refine wl_v 1 rfl (v_assign rfl) gn rfl ?_
   refine w_end 2 rfl ?_
   have h := Out.inr hO1 h
   refine g_retR (c := q72c40) [.string r359] rfl Try.func72 rfl (.tmp rfl (.nil)) fun wr hLr => ?_
   have hMr : B.Loc w wr [] [St w []] := hLr.pick0 (sels [1] rfl)
   show tree_quoted_R w F  r (.returned (packV [.string r359])) wr
   rw [h]
   exact ⟨rfl, hMr⟩
 refine g_front 1 rfl ?_
 refine g_front 1 rfl ?_
 refine g_front 2 rfl ?_
 exact g_go [0, 1] (key1 _ h A10 n11 c12 h13) ⟨rfl, rfl, rfl, rfl, trivial⟩ (.cons_cons _ (.cons_cons _ (.cons_cons _ (.slnil)))) rfl
end Go.Proofs.Ytmekgfcfooghnaa.K
