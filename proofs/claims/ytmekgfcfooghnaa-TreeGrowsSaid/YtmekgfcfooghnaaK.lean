/- What the machine's calls do, function by function, printed by my own tool. Condition of each: its relation holds of the answer, and what is handed in lies in memory as told. -/
import Derived.Test.YtmekgfcfooghnaaK4
set_option linter.unusedVariables false
set_option maxRecDepth 100000
set_option maxHeartbeats 4000000
namespace Go.Proofs.Ytmekgfcfooghnaa.K
open Go.Proofs.Ytmekgfcfooghnaa.B Go.Proofs.Ytmekgfcfooghnaa.R Go.RowKit
noncomputable abbrev q7c0 : Code := bodyOf Try.f7
noncomputable abbrev q7c1 : Code := Code.fst q7c0
noncomputable abbrev q7c2 : Code := Code.snd q7c0
noncomputable abbrev q7c3 : Code := Code.fst q7c2
noncomputable abbrev q7c4 : Code := Code.snd q7c2
noncomputable abbrev q7c5 : Code := Code.fst q7c3
noncomputable abbrev q7c6 : Code := Code.snd q7c3
noncomputable abbrev q7c7 : Code := Code.fst q7c6
noncomputable abbrev q7c8 : Code := Code.snd q7c6
noncomputable abbrev q7c9 : Code := Code.fst q7c4
noncomputable abbrev q7c10 : Code := Code.snd q7c4
noncomputable abbrev q7c11 : Code := Code.fst q7c9
noncomputable abbrev q7c12 : Code := Code.snd q7c9
noncomputable abbrev q7c13 : Code := Code.fst q7c12
noncomputable abbrev q7c14 : Code := Code.fst q7c13
noncomputable abbrev q7c15 : Code := Code.fst q7c14
noncomputable abbrev q7c16 : Code := Code.snd q7c14
noncomputable abbrev q7c17 : Code := Code.fst q7c15
noncomputable abbrev q7c18 : Code := Code.snd q7c15
noncomputable abbrev q7c19 : Code := Code.fst q7c18
noncomputable abbrev q7c20 : Code := Code.snd q7c18
noncomputable abbrev q7c21 : Code := Code.fst q7c16
noncomputable abbrev q7c22 : Code := Code.snd q7c16
noncomputable abbrev q7c23 : Code := Code.fst q7c21
noncomputable abbrev q7c24 : Code := Code.fst q7c23
noncomputable abbrev q7c25 : Code := Code.snd q7c23
noncomputable abbrev q7c26 : Code := Code.fst q7c25
noncomputable abbrev q7c27 : Code := Code.snd q7c25
noncomputable abbrev q7c28 : Code := Code.fst q7c27
noncomputable abbrev q7c29 : Code := Code.snd q7c27
noncomputable abbrev q7c30 : Code := Code.fst q7c28
noncomputable abbrev q7c31 : Code := Code.snd q7c28
noncomputable abbrev q7c32 : Code := Code.fst q7c10
noncomputable abbrev q7c33 : Code := Code.snd q7c10
noncomputable abbrev q7c34 : Code := Code.fst q7c33
noncomputable abbrev q7c35 : Code := Code.snd q7c33
noncomputable abbrev q7c36 : Code := Code.fst q7c34
noncomputable abbrev q7c37 : Code := Code.snd q7c34
noncomputable abbrev q7c38 : Code := Code.fst q7c37
noncomputable abbrev q7c39 : Code := Code.snd q7c37
noncomputable abbrev q7c40 : Code := Code.fst q7c35
noncomputable abbrev q7c41 : Code := Code.snd q7c35
noncomputable abbrev q7c42 : Code := Code.fst q7c41
noncomputable abbrev q7c43 : Code := Code.snd q7c41
noncomputable abbrev q7c44 : Code := Code.fst q7c42
noncomputable abbrev q7c45 : Code := Code.snd q7c42
noncomputable abbrev q7c46 : Code := Code.fst q7c45
noncomputable abbrev q7c47 : Code := Code.fst q7c46
noncomputable abbrev q7c48 : Code := Code.fst q7c47
noncomputable abbrev q7c49 : Code := Code.snd q7c47
noncomputable abbrev q7c50 : Code := Code.fst q7c48
noncomputable abbrev q7c51 : Code := Code.snd q7c48
noncomputable abbrev q7c52 : Code := Code.fst q7c51
noncomputable abbrev q7c53 : Code := Code.snd q7c51
noncomputable abbrev q7c54 : Code := Code.fst q7c49
noncomputable abbrev q7c55 : Code := Code.snd q7c49
noncomputable abbrev q7c56 : Code := Code.fst q7c54
noncomputable abbrev q7c57 : Code := Code.fst q7c56
noncomputable abbrev q7c58 : Code := Code.snd q7c56
noncomputable abbrev q7c59 : Code := Code.fst q7c58
noncomputable abbrev q7c60 : Code := Code.snd q7c58
noncomputable abbrev q7c61 : Code := Code.fst q7c60
noncomputable abbrev q7c62 : Code := Code.snd q7c60
noncomputable abbrev q7c63 : Code := Code.fst q7c61
noncomputable abbrev q7c64 : Code := Code.snd q7c61
noncomputable abbrev q7c65 : Code := Code.fst q7c64
noncomputable abbrev q7c66 : Code := Code.snd q7c64
noncomputable abbrev q7c67 : Code := Code.fst q7c65
noncomputable abbrev q7c68 : Code := Code.snd q7c65
noncomputable abbrev q7c69 : Code := Code.fst q7c62
noncomputable abbrev q7c70 : Code := Code.snd q7c62
noncomputable abbrev q7c71 : Code := Code.fst q7c70
noncomputable abbrev q7c72 : Code := Code.snd q7c70
noncomputable abbrev q7c73 : Code := Code.fst q7c71
noncomputable abbrev q7c74 : Code := Code.snd q7c71
noncomputable abbrev q7c75 : Code := Code.fst q7c74
noncomputable abbrev q7c76 : Code := Code.snd q7c74
noncomputable abbrev q7c77 : Code := Code.fst q7c75
noncomputable abbrev q7c78 : Code := Code.snd q7c75
noncomputable abbrev q7c79 : Code := Code.fst q7c72
noncomputable abbrev q7c80 : Code := Code.snd q7c72
noncomputable abbrev q7c81 : Code := Code.fst q7c80
noncomputable abbrev q7c82 : Code := Code.snd q7c80
noncomputable abbrev q7c83 : Code := Code.fst q7c81
noncomputable abbrev q7c84 : Code := Code.snd q7c81
noncomputable abbrev q7c85 : Code := Code.fst q7c84
noncomputable abbrev q7c86 : Code := Code.snd q7c84
noncomputable abbrev q7c87 : Code := Code.fst q7c82
noncomputable abbrev q7c88 : Code := Code.snd q7c82
noncomputable abbrev q7c89 : Code := Code.fst q7c88
noncomputable abbrev q7c90 : Code := Code.fst q7c89
noncomputable abbrev q7c91 : Code := Code.fst q7c90
noncomputable abbrev q7c92 : Code := Code.snd q7c90
noncomputable abbrev q7c93 : Code := Code.fst q7c91
noncomputable abbrev q7c94 : Code := Code.snd q7c91
noncomputable abbrev q7c95 : Code := Code.fst q7c94
noncomputable abbrev q7c96 : Code := Code.snd q7c94
noncomputable abbrev q7c97 : Code := Code.fst q7c92
noncomputable abbrev q7c98 : Code := Code.snd q7c92
noncomputable abbrev q7c99 : Code := Code.fst q7c97
noncomputable abbrev q7c100 : Code := Code.fst q7c99
noncomputable abbrev q7c101 : Code := Code.snd q7c99
noncomputable abbrev q7c102 : Code := Code.fst q7c100
noncomputable abbrev q7c103 : Code := Code.snd q7c100
noncomputable abbrev q7c104 : Code := Code.fst q7c103
noncomputable abbrev q7c105 : Code := Code.snd q7c103
noncomputable abbrev q7c106 : Code := Code.fst q7c101
noncomputable abbrev q7c107 : Code := Code.snd q7c101
noncomputable abbrev q7c108 : Code := Code.fst q7c106
noncomputable abbrev q7c109 : Code := Code.snd q7c106
noncomputable abbrev q7c110 : Code := Code.fst q7c109
noncomputable abbrev q7c111 : Code := Code.snd q7c109
noncomputable abbrev q7c112 : Code := Code.fst q7c110
noncomputable abbrev q7c113 : Code := Code.snd q7c110
noncomputable abbrev q7c114 : Code := Code.fst q7c107
noncomputable abbrev q7c115 : Code := Code.snd q7c107
noncomputable abbrev q7c116 : Code := Code.fst q7c114
noncomputable abbrev q7c117 : Code := Code.fst q7c116
noncomputable abbrev q7c118 : Code := Code.fst q7c117
noncomputable abbrev q7c119 : Code := Code.snd q7c117
noncomputable abbrev q7c120 : Code := Code.fst q7c118
noncomputable abbrev q7c121 : Code := Code.snd q7c118
noncomputable abbrev q7c122 : Code := Code.fst q7c121
noncomputable abbrev q7c123 : Code := Code.snd q7c121
noncomputable abbrev q7c124 : Code := Code.fst q7c119
noncomputable abbrev q7c125 : Code := Code.fst q7c124
noncomputable abbrev q7c126 : Code := Code.snd q7c124
noncomputable abbrev q7c127 : Code := Code.fst q7c125
noncomputable abbrev q7c128 : Code := Code.snd q7c125
noncomputable abbrev q7c129 : Code := Code.fst q7c128
noncomputable abbrev q7c130 : Code := Code.snd q7c128
noncomputable abbrev q7c131 : Code := Code.fst q7c129
noncomputable abbrev q7c132 : Code := Code.snd q7c129
noncomputable abbrev q7c133 : Code := Code.fst q7c85
noncomputable abbrev q7c134 : Code := Code.snd q7c85
noncomputable abbrev q7c135 : Code := Code.fst q7c43
noncomputable abbrev q7c136 : Code := Code.snd q7c43
noncomputable abbrev q7c137 : Code := Code.fst q7c135
noncomputable abbrev q7c138 : Code := Code.fst q7c137
noncomputable abbrev q7c139 : Code := Code.fst q7c138
noncomputable abbrev q7c140 : Code := Code.snd q7c138
noncomputable abbrev q7c141 : Code := Code.fst q7c139
noncomputable abbrev q7c142 : Code := Code.snd q7c139
noncomputable abbrev q7c143 : Code := Code.fst q7c142
noncomputable abbrev q7c144 : Code := Code.snd q7c142
noncomputable abbrev q7c145 : Code := Code.fst q7c140
noncomputable abbrev q7c146 : Code := Code.fst q7c145
noncomputable abbrev q7c147 : Code := Code.snd q7c145
noncomputable abbrev q7c148 : Code := Code.fst q7c146
noncomputable abbrev q7c149 : Code := Code.snd q7c146
noncomputable abbrev q7c150 : Code := Code.fst q7c149
noncomputable abbrev q7c151 : Code := Code.snd q7c149
noncomputable abbrev q7c152 : Code := Code.fst q7c150
noncomputable abbrev q7c153 : Code := Code.snd q7c150
noncomputable abbrev q7c154 : Code := Code.fst q7c136
noncomputable abbrev q7c155 : Code := Code.snd q7c136
noncomputable abbrev q7c156 : Code := Code.fst q7c38
noncomputable abbrev q7c157 : Code := Code.snd q7c38
noncomputable abbrev q7c158 : Code := Code.fst q7c7
noncomputable abbrev q7c159 : Code := Code.snd q7c7
abbrev trellislaw15_TreeGrows_R (w : World) (F : Nat → Prop) (r : Bool) : Ending → World → Prop := fun e w' => e = .returned (.bool r) ∧ B.Loc w w' [] [St w []]
noncomputable abbrev trellislaw15_TreeGrows_C (w : World) (F : Nat → Prop) (r : Bool) : Cx := ⟨Try.prog, 7, Try.f7, 220, trellislaw15_TreeGrows_R w F  r, w⟩
theorem trellislaw15_TreeGrows_calls (w : World) (F : Nat → Prop) (x1 : api_Lang) (x46 : List trellislaw15_Op) (A2 : Option Addr) (n3 : Nat) (c4 : Nat) (A6 : Option Addr) (n7 : Nat) (c8 : Nat) (A10 : Option Addr) (n11 : Nat) (c12 : Nat) (A14 : Option Addr) (n15 : Nat) (c16 : Nat) (A18 : Option Addr) (n19 : Nat) (c20 : Nat) (A22 : Option Addr) (n23 : Nat) (c24 : Nat) (A26 : Option Addr) (n27 : Nat) (c28 : Nat) (A30 : Option Addr) (n31 : Nat) (c32 : Nat) (A34 : Option Addr) (n35 : Nat) (c36 : Nat) (A38 : Option Addr) (n39 : Nat) (c40 : Nat) (A42 : Option Addr) (n43 : Nat) (c44 : Nat) (A47 : Option Addr) (n48 : Nat) (c49 : Nat) (h5 : Rw k_api_ModeDef w (St w []).av A2 n3 c4 x1.modes) (h9 : Rw k_api_TermDef w (St w []).av A6 n7 c8 x1.gram.terms) (h13 : Rw k_api_Sym w (St w []).av A10 n11 c12 x1.gram.syms) (h17 : Rw k_api_Prod w (St w []).av A14 n15 c16 x1.gram.prods) (h21 : Rw k_api_Rule w (St w []).av A18 n19 c20 x1.rules) (h25 : Rw (Kd.slice k_api_Action) w (St w []).av A22 n23 c24 x1.table.actions) (h29 : Rw (Kd.slice (kInt .i64)) w (St w []).av A26 n27 c28 x1.table.gotos) (h33 : Rw k_api_PaintDef w (St w []).av A30 n31 c32 x1.paints) (h37 : Rw kStr w (St w []).av A34 n35 c36 x1.folds) (h41 : Rw k_api_MarkDef w (St w []).av A38 n39 c40 x1.marks) (h45 : Rw k_api_InjectDef w (St w []).av A42 n43 c44 x1.injects) (h50 : Rw k_trellislaw15_Op w (St w []).av A47 n48 c49 x46) (hF : ∀ b, F b → b < w.heap.size ∧ ∀ o ∈ ([] : List (List Nat)), b ∉ o) (hL0 : B.Loc w w [] [Sm w.heap.size F w [], St w []]) (r : Bool) (h : trellislaw15_TreeGrows x1 x46 r) : Calls Try.prog 7 #[.agg #[.string x1.name, .slice A2 n3 c4, .slice A6 n7 c8, .slice A10 n11 c12, .slice A14 n15 c16, .slice A18 n19 c20, .slice A22 n23 c24, .slice A26 n27 c28, .slice A30 n31 c32, .slice A34 n35 c36, .slice A38 n39 c40, .slice A42 n43 c44], .slice A47 n48 c49] w (trellislaw15_TreeGrows_R w F  r) := by
 unfold trellislaw15_TreeGrows at h
 refine calls_of_Loc (vs := [.agg #[.string x1.name, .slice A2 n3 c4, .slice A6 n7 c8, .slice A10 n11 c12, .slice A14 n15 c16, .slice A18 n19 c20, .slice A22 n23 c24, .slice A26 n27 c28, .slice A30 n31 c32, .slice A34 n35 c36, .slice A38 n39 c40, .slice A42 n43 c44], .slice A47 n48 c49]) 220 Try.func7 rfl Try.ntmps7 rfl hL0 ?_
 show G (trellislaw15_TreeGrows_C w F r) _ _ _ _
 refine g_seq (c := q7c0) rfl ?_
 refine g_region (c := q7c1) rfl rfl ?_
 refine wl_s 0 rfl (s_box [.string x1.name, .slice A2 n3 c4, .slice A6 n7 c8, .slice A10 n11 c12, .slice A14 n15 c16, .slice A18 n19 c20, .slice A22 n23 c24, .slice A26 n27 c28, .slice A30 n31 c32, .slice A34 n35 c36, .slice A38 n39 c40, .slice A42 n43 c44] rfl rfl rfl fun gb51 => ?_) gn
 refine wl_v 1 rfl (v_assign rfl) gn rfl ?_
 refine w_end 2 rfl ?_
 refine g_seq (c := q7c2) rfl ?_
 refine g_seq (c := q7c3) rfl ?_
 refine g_region (c := q7c5) rfl rfl ?_
 obtain ⟨r56, hv57, h⟩ := h
 refine wl_s 0 rfl (s_call [] rfl Try.func31 rfl rfl rfl fun w53 hL54 => ?_) gn
 have hp55 : List.Perm ([.box gb51 58 [.string x1.name, .slice A2 n3 c4, .slice A6 n7 c8, .slice A10 n11 c12, .slice A14 n15 c16, .slice A18 n19 c20, .slice A22 n23 c24, .slice A26 n27 c28, .slice A30 n31 c32, .slice A34 n35 c36, .slice A38 n39 c40, .slice A42 n43 c44]] : List Ent) (([] : List Ent) ++ ([.box gb51 58 [.string x1.name, .slice A2 n3 c4, .slice A6 n7 c8, .slice A10 n11 c12, .slice A14 n15 c16, .slice A18 n19 c20, .slice A22 n23 c24, .slice A26 n27 c28, .slice A30 n31 c32, .slice A34 n35 c36, .slice A38 n39 c40, .slice A42 n43 c44]] : List Ent)) := perm_of_idx [] [0] rfl rfl (by kernel_rfl)
 refine Calls.mono (trellislaw15_alive_calls w53 (Fl ([] : List Snap)) (hL54.hFl (Sl := ([] : List Snap)) hp55 (sels [] rfl)) (hL54.into hp55 (Fl ([] : List Snap))) r56 hv57) ?_
 rintro _ w58 ⟨rfl, hM59⟩
 have hL60 := hL54.call hp55 hM59
 refine ⟨_, _, _, rfl, hL60, ?_⟩
 refine wl_v 1 rfl (v_not rfl) gn rfl ?_
 refine w_end 2 rfl ?_
 by_cases hp61 : r56 = true
 ·have h := if_pos' hp61 h
  refine g_false (c := q7c6) rfl _ rfl ((nf hp61)) ?_
  refine g_skip (c := q7c8) rfl ?_
  refine g_seq (c := q7c4) rfl ?_
  refine g_seq (c := q7c9) rfl ?_
  refine g_region (c := q7c11) rfl rfl ?_
  refine wl_v 0 rfl (v_assign rfl) gn rfl ?_
  refine w_end 1 rfl ?_
  refine g_block (c := q7c12) rfl ?_
  refine g_loop (c := q7c13) rfl ?_
  have key1 : ∀ s, Rounds (fun (s : Int) o => trellislaw15_TreeGrows_b1 x1 x46 s o) s r → (fun (s : Int) => ∀ (_ : Unit), G (trellislaw15_TreeGrows_C w F r) [.code q7c14, .inLoop q7c14, .inBlock 0, .code q7c10] [(1, .slice A47 n48 c49), (2, .pointer (some ⟨gb51, 0, none⟩)), (5, .int .i64 s)] [.box gb51 58 [.string x1.name, .slice A2 n3 c4, .slice A6 n7 c8, .slice A10 n11 c12, .slice A14 n15 c16, .slice A18 n19 c20, .slice A22 n23 c24, .slice A26 n27 c28, .slice A30 n31 c32, .slice A34 n35 c36, .slice A38 n39 c40, .slice A42 n43 c44]] [Sm w.heap.size F w [], St w []]) s := by
   intro s hs
   refine Rounds.ind (mot := (fun (s : Int) => ∀ (_ : Unit), G (trellislaw15_TreeGrows_C w F r) [.code q7c14, .inLoop q7c14, .inBlock 0, .code q7c10] [(1, .slice A47 n48 c49), (2, .pointer (some ⟨gb51, 0, none⟩)), (5, .int .i64 s)] [.box gb51 58 [.string x1.name, .slice A2 n3 c4, .slice A6 n7 c8, .slice A10 n11 c12, .slice A14 n15 c16, .slice A18 n19 c20, .slice A22 n23 c24, .slice A26 n27 c28, .slice A30 n31 c32, .slice A34 n35 c36, .slice A38 n39 c40, .slice A42 n43 c44]] [Sm w.heap.size F w [], St w []])) ?_ hs
   clear hs s
   intro x1446 o1 h hO1
   show ∀ (_ : Unit), G (trellislaw15_TreeGrows_C w F r) [.code q7c14, .inLoop q7c14, .inBlock 0, .code q7c10] [(1, .slice A47 n48 c49), (2, .pointer (some ⟨gb51, 0, none⟩)), (5, .int .i64 x1446)] [.box gb51 58 [.string x1.name, .slice A2 n3 c4, .slice A6 n7 c8, .slice A10 n11 c12, .slice A14 n15 c16, .slice A18 n19 c20, .slice A22 n23 c24, .slice A26 n27 c28, .slice A30 n31 c32, .slice A34 n35 c36, .slice A38 n39 c40, .slice A42 n43 c44]] [Sm w.heap.size F w [], St w []]
   intro _
   have h : trellislaw15_TreeGrows_b1 x1 x46 x1446 o1 := h
   unfold trellislaw15_TreeGrows_b1 at h
   refine g_seq (c := q7c14) rfl ?_
   refine g_seq (c := q7c15) rfl ?_
   refine g_region (c := q7c17) rfl rfl ?_
   refine wl_v 0 rfl (v_move rfl) gn rfl ?_
   refine wl_v 1 rfl (v_fldB fo_58_2 rfl) gn rfl ?_
   refine wl_v 2 rfl (v_fldB fo_47_1 rfl) gn rfl ?_
   refine wl_v 3 rfl (v_ldB1 0 ld_44 rfl rfl rfl) gn rfl ?_
   refine wl_v 4 rfl (v_lenQ un_44 rfl h13.hq) gn rfl ?_
   refine wl_v 5 rfl (v_bin rfl rfl rfl) gn rfl ?_
   refine w_end 6 rfl ?_
   by_cases hp2830 : x1446 < (x1.gram.syms.length : Int)
   ·have h := if_pos' hp2830 h
    refine g_true (c := q7c18) rfl _ rfl ((decide_eq_true hp2830)) ?_
    refine g_skip (c := q7c19) rfl ?_
    refine g_seq (c := q7c16) rfl ?_
    refine g_block (c := q7c21) rfl ?_
    refine g_seq (c := q7c23) rfl ?_
    refine g_region (c := q7c24) rfl rfl ?_
    refine wl_v 0 rfl (v_fldB fo_58_2 rfl) gn rfl ?_
    refine wl_v 1 rfl (v_fldB fo_47_1 rfl) gn rfl ?_
    refine wl_v 2 rfl (v_ldB1 0 ld_44 rfl rfl rfl) gn rfl ?_
    refine wl_v 3 rfl (v_move rfl) gn rfl ?_
    obtain ⟨hb2831, h⟩ := h
    have hr2832 := Rw.readF (s := St w []) (hl := hl_api_Sym) (h1 := h1_api_Sym) h13 hb2831
    refine wl_v 4 rfl (v_idxR (s := St w []) slE_44 rfl rfl h13 hb2831) gn rfl ?_
    refine wl_v 5 rfl (v_fldA fo_74_1 rfl) gn rfl ?_
    refine wl_v 6 rfl (v_ldA1 (kk := (x1446 : Int).toNat * 2) (j := 1) (St w []) ld_72 rfl hr2832 rfl (me 1 rfl)) gn rfl ?_
    refine wl_v 7 rfl (v_assign rfl) gn rfl ?_
    refine w_end 8 rfl ?_
    refine g_seq (c := q7c25) rfl ?_
    refine g_region (c := q7c26) rfl rfl ?_
    refine wl_v 0 rfl (v_move rfl) gn rfl ?_
    refine wl_v 1 rfl (v_bin rfl rfl rfl) gn rfl ?_
    refine wl_v 2 rfl (v_move rfl) gn rfl ?_
    by_cases hp2833 : (ix x1.gram.syms x1446).kind < 1
    ·have h := if_pos' hp2833 h
     refine w_bool 36 rfl ((decide_eq_true hp2833)) ?_
     refine wl_pass 3 rfl (ps 36 rfl rfl rfl) ?_
     refine wl_pass 4 rfl (ps 36 rfl rfl rfl) ?_
     refine wl_v 5 rfl (v_pick (b := true) rfl rfl) gn rfl ?_
     refine w_end 6 rfl ?_
     refine g_true (c := q7c27) rfl _ rfl (rfl) ?_
     refine g_seq (c := q7c28) rfl ?_
     refine g_region (c := q7c30) rfl rfl ?_
     refine wl_v 0 rfl (v_assign rfl) gn rfl ?_
     refine w_end 1 rfl ?_
     have h := Out.inr hO1 h
     refine g_retR (c := q7c31) [.bool true] rfl Try.func7 rfl (.tmp rfl (.nil)) fun wr hLr => ?_
     have hMr : B.Loc w wr [] [St w []] := hLr.pick0 (sels [1] rfl)
     show trellislaw15_TreeGrows_R w F  r (.returned (packV [.bool true])) wr
     rw [h]
     exact ⟨rfl, hMr⟩
    ·have h := if_neg' hp2833 h
     refine w_bool 36 rfl ((decide_eq_false hp2833)) ?_
     refine wl_v 3 rfl (v_move rfl) (gy 36 rfl rfl) rfl ?_
     refine wl_v 4 rfl (v_bin rfl rfl rfl) (gy 36 rfl rfl) rfl ?_
     refine wl_v 5 rfl (v_pick (b := false) rfl rfl) gn rfl ?_
     refine w_end 6 rfl ?_
     by_cases hp2834 : (ix x1.gram.syms x1446).kind > 3
     ·have h := if_pos' hp2834 h
      refine g_true (c := q7c27) rfl _ rfl ((decide_eq_true hp2834)) ?_
      refine g_seq (c := q7c28) rfl ?_
      refine g_region (c := q7c30) rfl rfl ?_
      refine wl_v 0 rfl (v_assign rfl) gn rfl ?_
      refine w_end 1 rfl ?_
      have h := Out.inr hO1 h
      refine g_retR (c := q7c31) [.bool true] rfl Try.func7 rfl (.tmp rfl (.nil)) fun wr hLr => ?_
      have hMr : B.Loc w wr [] [St w []] := hLr.pick0 (sels [1] rfl)
      show trellislaw15_TreeGrows_R w F  r (.returned (packV [.bool true])) wr
      rw [h]
      exact ⟨rfl, hMr⟩
     ·have h := if_neg' hp2834 h
      refine g_false (c := q7c27) rfl _ rfl ((decide_eq_false hp2834)) ?_
      refine g_skip (c := q7c29) rfl ?_
      refine g_inBlock ?_
      refine g_region (c := q7c22) rfl rfl ?_
      refine wl_v 0 rfl (v_move rfl) gn rfl ?_
      refine wl_v 1 rfl (v_bin rfl rfl rfl) gn rfl ?_
      refine wl_v 2 rfl (v_assign rfl) gn rfl ?_
      refine w_end 3 rfl ?_
      refine g_inLoop ?_
      have ih := Out.inl hO1 h
      exact g_go [0, 1] (ih ()) ⟨rfl, rfl, rfl, trivial⟩ (.cons_cons _ (.slnil)) rfl
   ·have h := if_neg' hp2830 h
    refine g_false (c := q7c18) rfl _ rfl ((decide_eq_false hp2830)) ?_
    refine g_exit (c := q7c20) [.code q7c10] rfl rfl ?_
    refine g_seq (c := q7c10) rfl ?_
    refine g_region (c := q7c32) rfl rfl ?_
    refine wl_v 0 rfl (v_ldB [.string x1.name, .slice A2 n3 c4, .slice A6 n7 c8, .slice A10 n11 c12, .slice A14 n15 c16, .slice A18 n19 c20, .slice A22 n23 c24, .slice A26 n27 c28, .slice A30 n31 c32, .slice A34 n35 c36, .slice A38 n39 c40, .slice A42 n43 c44] 0 ld_58 rfl rfl rfl rfl) gn rfl ?_
    refine wl_v 1 rfl (v_move rfl) gn rfl ?_
    obtain ⟨r2838, hv2839, h⟩ := h
    refine wl_s 2 rfl (s_call [.agg #[.string x1.name, .slice A2 n3 c4, .slice A6 n7 c8, .slice A10 n11 c12, .slice A14 n15 c16, .slice A18 n19 c20, .slice A22 n23 c24, .slice A26 n27 c28, .slice A30 n31 c32, .slice A34 n35 c36, .slice A38 n39 c40, .slice A42 n43 c44], .slice A47 n48 c49] rfl Try.func36 rfl rfl rfl fun w2835 hL2836 => ?_) gn
    have hp2837 : List.Perm ([.box gb51 58 [.string x1.name, .slice A2 n3 c4, .slice A6 n7 c8, .slice A10 n11 c12, .slice A14 n15 c16, .slice A18 n19 c20, .slice A22 n23 c24, .slice A26 n27 c28, .slice A30 n31 c32, .slice A34 n35 c36, .slice A38 n39 c40, .slice A42 n43 c44]] : List Ent) (([] : List Ent) ++ ([.box gb51 58 [.string x1.name, .slice A2 n3 c4, .slice A6 n7 c8, .slice A10 n11 c12, .slice A14 n15 c16, .slice A18 n19 c20, .slice A22 n23 c24, .slice A26 n27 c28, .slice A30 n31 c32, .slice A34 n35 c36, .slice A38 n39 c40, .slice A42 n43 c44]] : List Ent)) := perm_of_idx [] [0] rfl rfl (by kernel_rfl)
    refine Calls.mono (trellislaw15_made_calls w2835 (Fl ([] : List Snap)) x1 x46 A2 n3 c4 A6 n7 c8 A10 n11 c12 A14 n15 c16 A18 n19 c20 A22 n23 c24 A26 n27 c28 A30 n31 c32 A34 n35 c36 A38 n39 c40 A42 n43 c44 A47 n48 c49 (Rw.mono h5 (hL2836.toSt hp2837 (me 1 rfl))) (Rw.mono h9 (hL2836.toSt hp2837 (me 1 rfl))) (Rw.mono h13 (hL2836.toSt hp2837 (me 1 rfl))) (Rw.mono h17 (hL2836.toSt hp2837 (me 1 rfl))) (Rw.mono h21 (hL2836.toSt hp2837 (me 1 rfl))) (Rw.mono h25 (hL2836.toSt hp2837 (me 1 rfl))) (Rw.mono h29 (hL2836.toSt hp2837 (me 1 rfl))) (Rw.mono h33 (hL2836.toSt hp2837 (me 1 rfl))) (Rw.mono h37 (hL2836.toSt hp2837 (me 1 rfl))) (Rw.mono h41 (hL2836.toSt hp2837 (me 1 rfl))) (Rw.mono h45 (hL2836.toSt hp2837 (me 1 rfl))) (Rw.mono h50 (hL2836.toSt hp2837 (me 1 rfl))) (hL2836.hFl (Sl := ([] : List Snap)) hp2837 (sels [] rfl)) (hL2836.into hp2837 (Fl ([] : List Snap))) r2838 hv2839) ?_
    rintro _ w2852 ⟨A2840, n2841, c2842, cs2845, A2847, n2848, c2849, rfl, hM2853, h2843, hC2846, h2850⟩
    obtain ⟨sb2856, hL2854, hv2855⟩ := hL2836.callB (Sl := ([] : List Snap)) hp2837 hM2853 F (sels [] rfl) trivial
    have hC2846 : Cells k_trellislaw15_Made (Sm w.heap.size F w2852 sb2856).w (Sm w.heap.size F w2852 sb2856).av r2838.1 cs2845 := Cells.mono hv2855 hC2846
    refine ⟨_, _, _, rfl, hL2854, ?_⟩
    refine wl_v 3 rfl (v_move rfl) gn rfl ?_
    refine wl_v 4 rfl (v_extract rfl rfl) gn rfl ?_
    refine wl_v 5 rfl (v_extract rfl rfl) gn rfl ?_
    refine wl_v 6 rfl (v_extract rfl rfl) gn rfl ?_
    refine wl_v 7 rfl (v_assign rfl) gn rfl ?_
    refine wl_v 8 rfl (v_assign rfl) gn rfl ?_
    refine wl_v 9 rfl (v_assign rfl) gn rfl ?_
    refine w_end 10 rfl ?_
    refine g_seq (c := q7c33) rfl ?_
    refine g_seq (c := q7c34) rfl ?_
    refine g_region (c := q7c36) rfl rfl ?_
    refine wl_v 0 rfl (v_move rfl) gn rfl ?_
    refine wl_v 1 rfl (v_not rfl) gn rfl ?_
    refine w_end 2 rfl ?_
    by_cases hp2857 : r2838.2.2 = true
    ·have h := if_pos' hp2857 h
     refine g_false (c := q7c37) rfl _ rfl ((nf hp2857)) ?_
     refine g_skip (c := q7c39) rfl ?_
     refine g_seq (c := q7c35) rfl ?_
     refine g_region (c := q7c40) rfl rfl ?_
     refine wl_v 0 rfl (v_assign rfl) gn rfl ?_
     refine w_end 1 rfl ?_
     refine g_seq (c := q7c41) rfl ?_
     refine g_seq (c := q7c42) rfl ?_
     refine g_region (c := q7c44) rfl rfl ?_
     refine wl_v 0 rfl (v_assign rfl) gn rfl ?_
     refine w_end 1 rfl ?_
     refine g_block (c := q7c45) rfl ?_
     refine g_loop (c := q7c46) rfl ?_
     have key2 : ∀ s, Rounds (fun (s : Int × Int) o => trellislaw15_TreeGrows_b2 r2838 x1 s.1 s.2 o) s o1 → (fun (s : Int × Int) => ∀ (_ : Unit), G (trellislaw15_TreeGrows_C w F r) [.code q7c47, .inLoop q7c47, .inBlock 2, .code q7c43] [(2, .pointer (some ⟨gb51, 0, none⟩)), (7, .slice A2840 n2841 c2842), (8, .slice A2847 n2848 c2849), (10, .int .i64 s.1), (11, .int .i64 s.2)] [.own (.slice A2840 n2841 c2842) 79 3 n2841 cs2845, .own (.slice A2847 n2848 c2849) 39 7 n2848 (r2838.2.1.flatMap enc_api_Node), .box gb51 58 [.string x1.name, .slice A2 n3 c4, .slice A6 n7 c8, .slice A10 n11 c12, .slice A14 n15 c16, .slice A18 n19 c20, .slice A22 n23 c24, .slice A26 n27 c28, .slice A30 n31 c32, .slice A34 n35 c36, .slice A38 n39 c40, .slice A42 n43 c44]] [Sm w.heap.size F w2852 sb2856, Sm w.heap.size F w [], St w []]) s := by
      intro s hs
      refine Rounds.ind (mot := (fun (s : Int × Int) => ∀ (_ : Unit), G (trellislaw15_TreeGrows_C w F r) [.code q7c47, .inLoop q7c47, .inBlock 2, .code q7c43] [(2, .pointer (some ⟨gb51, 0, none⟩)), (7, .slice A2840 n2841 c2842), (8, .slice A2847 n2848 c2849), (10, .int .i64 s.1), (11, .int .i64 s.2)] [.own (.slice A2840 n2841 c2842) 79 3 n2841 cs2845, .own (.slice A2847 n2848 c2849) 39 7 n2848 (r2838.2.1.flatMap enc_api_Node), .box gb51 58 [.string x1.name, .slice A2 n3 c4, .slice A6 n7 c8, .slice A10 n11 c12, .slice A14 n15 c16, .slice A18 n19 c20, .slice A22 n23 c24, .slice A26 n27 c28, .slice A30 n31 c32, .slice A34 n35 c36, .slice A38 n39 c40, .slice A42 n43 c44]] [Sm w.heap.size F w2852 sb2856, Sm w.heap.size F w [], St w []])) ?_ hs
      clear hs s
      intro s o2 h hO2
      obtain ⟨x3303, x3304⟩ := s
      show ∀ (_ : Unit), G (trellislaw15_TreeGrows_C w F r) [.code q7c47, .inLoop q7c47, .inBlock 2, .code q7c43] [(2, .pointer (some ⟨gb51, 0, none⟩)), (7, .slice A2840 n2841 c2842), (8, .slice A2847 n2848 c2849), (10, .int .i64 x3303), (11, .int .i64 x3304)] [.own (.slice A2840 n2841 c2842) 79 3 n2841 cs2845, .own (.slice A2847 n2848 c2849) 39 7 n2848 (r2838.2.1.flatMap enc_api_Node), .box gb51 58 [.string x1.name, .slice A2 n3 c4, .slice A6 n7 c8, .slice A10 n11 c12, .slice A14 n15 c16, .slice A18 n19 c20, .slice A22 n23 c24, .slice A26 n27 c28, .slice A30 n31 c32, .slice A34 n35 c36, .slice A38 n39 c40, .slice A42 n43 c44]] [Sm w.heap.size F w2852 sb2856, Sm w.heap.size F w [], St w []]
      intro _
      have h : trellislaw15_TreeGrows_b2 r2838 x1 x3303 x3304 o2 := h
      unfold trellislaw15_TreeGrows_b2 at h
      refine g_seq (c := q7c47) rfl ?_
      refine g_seq (c := q7c48) rfl ?_
      refine g_region (c := q7c50) rfl rfl ?_
      refine wl_v 0 rfl (v_move rfl) gn rfl ?_
      refine wl_v 1 rfl (v_move rfl) gn rfl ?_
      refine wl_v 2 rfl (v_lenQ un_75 rfl (Ow.weak hL2836.env.size h2843).hq) gn rfl ?_
      refine wl_v 3 rfl (v_bin rfl rfl rfl) gn rfl ?_
      refine w_end 4 rfl ?_
      by_cases hp3759 : x3304 < (r2838.1.length : Int)
      ·have h := if_pos' hp3759 h
       refine g_true (c := q7c51) rfl _ rfl ((decide_eq_true hp3759)) ?_
       refine g_skip (c := q7c52) rfl ?_
       refine g_seq (c := q7c49) rfl ?_
       refine g_block (c := q7c54) rfl ?_
       refine g_seq (c := q7c56) rfl ?_
       refine g_region (c := q7c57) rfl rfl ?_
       refine wl_v 0 rfl (v_move rfl) gn rfl ?_
       refine wl_v 1 rfl (v_move rfl) gn rfl ?_
       obtain ⟨hb3760, h⟩ := h
       obtain ⟨ce3761, hK3762, ht3763, hg3764⟩ := Cells.get hC2846 hb3760
       obtain ⟨A3765, n3766, c3767, rfl, h3768⟩ := hK3762
       refine wl_v 2 rfl (v_idxO slE_75 rfl rfl (Ow.weak hL2836.env.size h2843) hb3760) gn rfl ?_
       refine wl_v 3 rfl (v_fldA fo_79_1 rfl) gn rfl ?_
       refine wl_v 4 rfl (v_ldO1 (.slice A3765 n3766 c3767) 0 ld_22 rfl rfl (hg3764 1 _ rfl)) gn rfl ?_
       refine wl_v 5 rfl (v_assign rfl) gn rfl ?_
       refine w_end 6 rfl ?_
       refine g_seq (c := q7c58) rfl ?_
       refine g_region (c := q7c59) rfl rfl ?_
       refine wl_v 0 rfl (v_move rfl) gn rfl ?_
       obtain ⟨r3772, hv3773, h⟩ := h
       refine wl_s 1 rfl (s_call [.slice A3765 n3766 c3767] rfl Try.func37 rfl rfl rfl fun w3769 hL3770 => ?_) gn
       have hp3771 : List.Perm ([.own (.slice A2840 n2841 c2842) 79 3 n2841 cs2845, .own (.slice A2847 n2848 c2849) 39 7 n2848 (r2838.2.1.flatMap enc_api_Node), .box gb51 58 [.string x1.name, .slice A2 n3 c4, .slice A6 n7 c8, .slice A10 n11 c12, .slice A14 n15 c16, .slice A18 n19 c20, .slice A22 n23 c24, .slice A26 n27 c28, .slice A30 n31 c32, .slice A34 n35 c36, .slice A38 n39 c40, .slice A42 n43 c44]] : List Ent) (([] : List Ent) ++ ([.own (.slice A2840 n2841 c2842) 79 3 n2841 cs2845, .own (.slice A2847 n2848 c2849) 39 7 n2848 (r2838.2.1.flatMap enc_api_Node), .box gb51 58 [.string x1.name, .slice A2 n3 c4, .slice A6 n7 c8, .slice A10 n11 c12, .slice A14 n15 c16, .slice A18 n19 c20, .slice A22 n23 c24, .slice A26 n27 c28, .slice A30 n31 c32, .slice A34 n35 c36, .slice A38 n39 c40, .slice A42 n43 c44]] : List Ent)) := perm_of_idx [] [0, 1, 2] rfl rfl (by kernel_rfl)
       refine Calls.mono (tree_Roots_calls w3769 (Fl ([] : List Snap)) ((ix r2838.1 x3304).t) A3765 n3766 c3767 (Rw.mono h3768 (hL3770.toSt hp3771 (me 0 rfl))) (hL3770.hFl (Sl := ([] : List Snap)) hp3771 (sels [] rfl)) (hL3770.into hp3771 (Fl ([] : List Snap))) r3772 hv3773) ?_
       rintro _ w3774 ⟨rfl, hM3775⟩
       have hL3776 := hL3770.call hp3771 hM3775
       refine ⟨_, _, _, rfl, hL3776, ?_⟩
       refine wl_v 2 rfl (v_assign rfl) gn rfl ?_
       refine w_end 3 rfl ?_
       refine g_seq (c := q7c60) rfl ?_
       refine g_seq (c := q7c61) rfl ?_
       refine g_region (c := q7c63) rfl rfl ?_
       refine wl_v 0 rfl (v_move rfl) gn rfl ?_
       refine wl_v 1 rfl (v_bin rfl rfl rfl) gn rfl ?_
       refine w_end 2 rfl ?_
       by_cases hp3777 : r3772 < 0
       ·have h := if_pos' hp3777 h
        refine g_true (c := q7c64) rfl _ rfl ((decide_eq_true hp3777)) ?_
        refine g_seq (c := q7c65) rfl ?_
        refine g_region (c := q7c67) rfl rfl ?_
        refine wl_v 0 rfl (v_assign rfl) gn rfl ?_
        refine w_end 1 rfl ?_
        have h := Out.inr hO2 h
        have h := Out.inr hO1 h
        refine g_retR (c := q7c68) [.bool false] rfl Try.func7 rfl (.tmp rfl (.nil)) fun wr hLr => ?_
        have hMr : B.Loc w wr [] [St w []] := hLr.pick0 (sels [2] rfl)
        show trellislaw15_TreeGrows_R w F  r (.returned (packV [.bool false])) wr
        rw [h]
        exact ⟨rfl, hMr⟩
       ·have h := if_neg' hp3777 h
        refine g_false (c := q7c64) rfl _ rfl ((decide_eq_false hp3777)) ?_
        refine g_skip (c := q7c66) rfl ?_
        refine g_seq (c := q7c62) rfl ?_
        have hns : Region.noSelect (Code.ops q7c69) = true := by kernel_rfl
        refine g_drawF (c := q7c69) [.own (.slice A2840 n2841 c2842) 79 3 n2841 cs2845, .own (.slice A2847 n2848 c2849) 39 7 n2848 (r2838.2.1.flatMap enc_api_Node), .box gb51 58 [.string x1.name, .slice A2 n3 c4, .slice A6 n7 c8, .slice A10 n11 c12, .slice A14 n15 c16, .slice A18 n19 c20, .slice A22 n23 c24, .slice A26 n27 c28, .slice A30 n31 c32, .slice A34 n35 c36, .slice A38 n39 c40, .slice A42 n43 c44]] [Sm w.heap.size F w2852 sb2856, Sm w.heap.size F w [], St w []] [] 11 rfl rfl mix rfl (.cons_cons _ (.cons_cons _ (.cons_cons _ (.slnil)))) (sels [0, 1, 2] rfl) ?_
        refine wfv 0 rfl (v_move rfl) gn hns rfl ?_
        refine wfv 1 rfl (v_move rfl) gn hns rfl ?_
        obtain ⟨ce3794, hK3795, ht3796, hg3797⟩ := Cells.get hC2846 hb3760
        obtain ⟨A3798, n3799, c3800, rfl, h3801⟩ := hK3795
        refine wfv 2 rfl (v_idxO slE_75 rfl rfl (Ow.weak hL2836.env.size h2843) hb3760) gn hns rfl ?_
        refine wfv 3 rfl (v_fldA fo_79_0 rfl) gn hns rfl ?_
        refine wfv 4 rfl (v_ldO1 (.int .i64 ((ix r2838.1 x3304).sym)) 0 ld_3 rfl rfl (hg3797 0 _ rfl)) gn hns rfl ?_
        refine wfv 5 rfl (v_fldB fo_58_2 rfl) gn hns rfl ?_
        refine wfv 6 rfl (v_fldB fo_47_0 rfl) gn hns rfl ?_
        refine wfv 7 rfl (v_ldB1 2 ld_43 rfl rfl rfl) gn hns rfl ?_
        refine wfv 8 rfl (v_lenQ un_43 rfl h9.hq) gn hns rfl ?_
        refine wfv 9 rfl (v_bin rfl rfl rfl) gn hns rfl ?_
        refine wfv 10 rfl (v_assign rfl) gn hns rfl ?_
        refine wf_end (by kernel_rfl) ?_
        refine g_seq (c := q7c70) rfl ?_
        refine g_seq (c := q7c71) rfl ?_
        have j3 : ∀ (x3808 : Bool) (h : trellislaw15_TreeGrows_j3 r2838 x3304 x3303 x3808 o2) , G (trellislaw15_TreeGrows_C w F r) [.code q7c74, .code q7c72, .inBlock 3, .code q7c55, .inLoop q7c47, .inBlock 2, .code q7c43] [(2, .pointer (some ⟨gb51, 0, none⟩)), (7, .slice A2840 n2841 c2842), (8, .slice A2847 n2848 c2849), (10, .int .i64 x3303), (11, .int .i64 x3304), (12, .slice A3765 n3766 c3767), (97, .bool x3808)] [.own (.slice A2840 n2841 c2842) 79 3 n2841 cs2845, .own (.slice A2847 n2848 c2849) 39 7 n2848 (r2838.2.1.flatMap enc_api_Node), .box gb51 58 [.string x1.name, .slice A2 n3 c4, .slice A6 n7 c8, .slice A10 n11 c12, .slice A14 n15 c16, .slice A18 n19 c20, .slice A22 n23 c24, .slice A26 n27 c28, .slice A30 n31 c32, .slice A34 n35 c36, .slice A38 n39 c40, .slice A42 n43 c44]] [Sm w.heap.size F w2852 sb2856, Sm w.heap.size F w [], St w []] := by
         intro x3808 h
         unfold trellislaw15_TreeGrows_j3 at h
         by_cases hp3809 : x3808 = true
         ·have h := if_pos' hp3809 h
          refine g_true (c := q7c74) rfl _ rfl (hp3809) ?_
          refine g_seq (c := q7c75) rfl ?_
          refine g_region (c := q7c77) rfl rfl ?_
          refine wl_v 0 rfl (v_assign rfl) gn rfl ?_
          refine w_end 1 rfl ?_
          have h := Out.inr hO2 h
          have h := Out.inr hO1 h
          refine g_retR (c := q7c78) [.bool false] rfl Try.func7 rfl (.tmp rfl (.nil)) fun wr hLr => ?_
          have hMr : B.Loc w wr [] [St w []] := hLr.pick0 (sels [2] rfl)
          show trellislaw15_TreeGrows_R w F  r (.returned (packV [.bool false])) wr
          rw [h]
          exact ⟨rfl, hMr⟩
         ·have h := if_neg' hp3809 h
          refine g_false (c := q7c74) rfl _ rfl ((bf hp3809)) ?_
          refine g_skip (c := q7c76) rfl ?_
          refine g_seq (c := q7c72) rfl ?_
          refine g_region (c := q7c79) rfl rfl ?_
          refine wl_v 0 rfl (v_move rfl) gn rfl ?_
          obtain ⟨r3813, hv3814, h⟩ := h
          refine wl_s 1 rfl (s_call [.slice A3765 n3766 c3767] rfl Try.func38 rfl rfl rfl fun w3810 hL3811 => ?_) gn
          have hp3812 : List.Perm ([.own (.slice A2840 n2841 c2842) 79 3 n2841 cs2845, .own (.slice A2847 n2848 c2849) 39 7 n2848 (r2838.2.1.flatMap enc_api_Node), .box gb51 58 [.string x1.name, .slice A2 n3 c4, .slice A6 n7 c8, .slice A10 n11 c12, .slice A14 n15 c16, .slice A18 n19 c20, .slice A22 n23 c24, .slice A26 n27 c28, .slice A30 n31 c32, .slice A34 n35 c36, .slice A38 n39 c40, .slice A42 n43 c44]] : List Ent) (([] : List Ent) ++ ([.own (.slice A2840 n2841 c2842) 79 3 n2841 cs2845, .own (.slice A2847 n2848 c2849) 39 7 n2848 (r2838.2.1.flatMap enc_api_Node), .box gb51 58 [.string x1.name, .slice A2 n3 c4, .slice A6 n7 c8, .slice A10 n11 c12, .slice A14 n15 c16, .slice A18 n19 c20, .slice A22 n23 c24, .slice A26 n27 c28, .slice A30 n31 c32, .slice A34 n35 c36, .slice A38 n39 c40, .slice A42 n43 c44]] : List Ent)) := perm_of_idx [] [0, 1, 2] rfl rfl (by kernel_rfl)
          refine Calls.mono (trellislaw15_nested_calls w3810 (Fl ([] : List Snap)) ((ix r2838.1 x3304).t) A3765 n3766 c3767 (Rw.mono h3768 (hL3811.toSt hp3812 (me 0 rfl))) (hL3811.hFl (Sl := ([] : List Snap)) hp3812 (sels [] rfl)) (hL3811.into hp3812 (Fl ([] : List Snap))) r3813 hv3814) ?_
          rintro _ w3815 ⟨rfl, hM3816⟩
          have hL3817 := hL3811.call hp3812 hM3816
          refine ⟨_, _, _, rfl, hL3817, ?_⟩
          refine wl_v 2 rfl (v_assign rfl) gn rfl ?_
          refine w_end 3 rfl ?_
          refine g_seq (c := q7c80) rfl ?_
          refine g_seq (c := q7c81) rfl ?_
          refine g_region (c := q7c83) rfl rfl ?_
          refine wl_v 0 rfl (v_move rfl) gn rfl ?_
          refine wl_v 1 rfl (v_not rfl) gn rfl ?_
          refine w_end 2 rfl ?_
          by_cases hp3818 : r3813 = true
          ·have h := if_pos' hp3818 h
           refine g_false (c := q7c84) rfl _ rfl ((nf hp3818)) ?_
           refine g_skip (c := q7c86) rfl ?_
           refine g_seq (c := q7c82) rfl ?_
           refine g_region (c := q7c87) rfl rfl ?_
           refine wl_v 0 rfl (v_assign rfl) gn rfl ?_
           refine w_end 1 rfl ?_
           refine g_block (c := q7c88) rfl ?_
           refine g_loop (c := q7c89) rfl ?_
           have key4 : ∀ s, Rounds (fun (s : Int × Int) o => trellislaw15_TreeGrows_b4 r2838 x3304 s.1 s.2 o) s o2 → (fun (s : Int × Int) => ∀ (_ : Unit), G (trellislaw15_TreeGrows_C w F r) [.code q7c90, .inLoop q7c90, .inBlock 4, .inBlock 3, .code q7c55, .inLoop q7c47, .inBlock 2, .code q7c43] [(2, .pointer (some ⟨gb51, 0, none⟩)), (7, .slice A2840 n2841 c2842), (8, .slice A2847 n2848 c2849), (10, .int .i64 s.1), (11, .int .i64 x3304), (12, .slice A3765 n3766 c3767), (16, .int .i64 s.2)] [.own (.slice A2840 n2841 c2842) 79 3 n2841 cs2845, .own (.slice A2847 n2848 c2849) 39 7 n2848 (r2838.2.1.flatMap enc_api_Node), .box gb51 58 [.string x1.name, .slice A2 n3 c4, .slice A6 n7 c8, .slice A10 n11 c12, .slice A14 n15 c16, .slice A18 n19 c20, .slice A22 n23 c24, .slice A26 n27 c28, .slice A30 n31 c32, .slice A34 n35 c36, .slice A38 n39 c40, .slice A42 n43 c44]] [Sm w.heap.size F w2852 sb2856, Sm w.heap.size F w [], St w []]) s := by
            intro s hs
            refine Rounds.ind (mot := (fun (s : Int × Int) => ∀ (_ : Unit), G (trellislaw15_TreeGrows_C w F r) [.code q7c90, .inLoop q7c90, .inBlock 4, .inBlock 3, .code q7c55, .inLoop q7c47, .inBlock 2, .code q7c43] [(2, .pointer (some ⟨gb51, 0, none⟩)), (7, .slice A2840 n2841 c2842), (8, .slice A2847 n2848 c2849), (10, .int .i64 s.1), (11, .int .i64 x3304), (12, .slice A3765 n3766 c3767), (16, .int .i64 s.2)] [.own (.slice A2840 n2841 c2842) 79 3 n2841 cs2845, .own (.slice A2847 n2848 c2849) 39 7 n2848 (r2838.2.1.flatMap enc_api_Node), .box gb51 58 [.string x1.name, .slice A2 n3 c4, .slice A6 n7 c8, .slice A10 n11 c12, .slice A14 n15 c16, .slice A18 n19 c20, .slice A22 n23 c24, .slice A26 n27 c28, .slice A30 n31 c32, .slice A34 n35 c36, .slice A38 n39 c40, .slice A42 n43 c44]] [Sm w.heap.size F w2852 sb2856, Sm w.heap.size F w [], St w []])) ?_ hs
            clear hs s
            intro s o3 h hO3
            obtain ⟨x3943, x3944⟩ := s
            show ∀ (_ : Unit), G (trellislaw15_TreeGrows_C w F r) [.code q7c90, .inLoop q7c90, .inBlock 4, .inBlock 3, .code q7c55, .inLoop q7c47, .inBlock 2, .code q7c43] [(2, .pointer (some ⟨gb51, 0, none⟩)), (7, .slice A2840 n2841 c2842), (8, .slice A2847 n2848 c2849), (10, .int .i64 x3943), (11, .int .i64 x3304), (12, .slice A3765 n3766 c3767), (16, .int .i64 x3944)] [.own (.slice A2840 n2841 c2842) 79 3 n2841 cs2845, .own (.slice A2847 n2848 c2849) 39 7 n2848 (r2838.2.1.flatMap enc_api_Node), .box gb51 58 [.string x1.name, .slice A2 n3 c4, .slice A6 n7 c8, .slice A10 n11 c12, .slice A14 n15 c16, .slice A18 n19 c20, .slice A22 n23 c24, .slice A26 n27 c28, .slice A30 n31 c32, .slice A34 n35 c36, .slice A38 n39 c40, .slice A42 n43 c44]] [Sm w.heap.size F w2852 sb2856, Sm w.heap.size F w [], St w []]
            intro _
            have h : trellislaw15_TreeGrows_b4 r2838 x3304 x3943 x3944 o3 := h
            unfold trellislaw15_TreeGrows_b4 at h
            refine g_seq (c := q7c90) rfl ?_
            refine g_seq (c := q7c91) rfl ?_
            refine g_region (c := q7c93) rfl rfl ?_
            refine wl_v 0 rfl (v_move rfl) gn rfl ?_
            refine wl_v 1 rfl (v_move rfl) gn rfl ?_
            refine wl_v 2 rfl (v_lenQ un_22 rfl h3768.hq) gn rfl ?_
            refine wl_v 3 rfl (v_bin rfl rfl rfl) gn rfl ?_
            refine w_end 4 rfl ?_
            by_cases hp4068 : x3944 < (((ix r2838.1 x3304).t).length : Int)
            ·have h := if_pos' hp4068 h
             refine g_true (c := q7c94) rfl _ rfl ((decide_eq_true hp4068)) ?_
             refine g_skip (c := q7c95) rfl ?_
             refine g_seq (c := q7c92) rfl ?_
             refine g_block (c := q7c97) rfl ?_
             refine g_seq (c := q7c99) rfl ?_
             refine g_seq (c := q7c100) rfl ?_
             refine g_region (c := q7c102) rfl rfl ?_
             refine wl_v 0 rfl (v_move rfl) gn rfl ?_
             refine wl_v 1 rfl (v_move rfl) gn rfl ?_
             obtain ⟨hb4069, h⟩ := h
             have hr4070 := Rw.readF (s := Sm w.heap.size F w2852 sb2856) (hl := hl_api_Node) (h1 := h1_api_Node) h3768 hb4069
             refine wl_v 2 rfl (v_idxR (s := Sm w.heap.size F w2852 sb2856) slE_22 rfl rfl h3768 hb4069) gn rfl ?_
             refine wl_v 3 rfl (v_fldA fo_39_6 rfl) gn rfl ?_
             refine wl_v 4 rfl (v_ldA1 (kk := (x3944 : Int).toNat * 7) (j := 6) (Sm w.heap.size F w2852 sb2856) ld_3 rfl hr4070 rfl (me 0 rfl)) gn rfl ?_
             refine wl_v 5 rfl (v_bin rfl rfl rfl) gn rfl ?_
             refine w_end 6 rfl ?_
             by_cases hp4071 : (ix ((ix r2838.1 x3304).t) x3944).leaf < 0
             ·have h := if_pos' hp4071 h
              refine g_true (c := q7c103) rfl _ rfl ((decide_eq_true hp4071)) ?_
              refine g_exit (c := q7c104) [.code q7c98, .inLoop q7c90, .inBlock 4, .inBlock 3, .code q7c55, .inLoop q7c47, .inBlock 2, .code q7c43] rfl rfl ?_
              refine g_region (c := q7c98) rfl rfl ?_
              refine wl_v 0 rfl (v_move rfl) gn rfl ?_
              refine wl_v 1 rfl (v_bin rfl rfl rfl) gn rfl ?_
              refine wl_v 2 rfl (v_assign rfl) gn rfl ?_
              refine w_end 3 rfl ?_
              refine g_inLoop ?_
              have ih := Out.inl hO3 h
              exact g_go [0, 1, 2] (ih ()) ⟨rfl, rfl, rfl, rfl, rfl, rfl, rfl, trivial⟩ (.cons_cons _ (.cons_cons _ (.cons_cons _ (.slnil)))) rfl
             ·have h := if_neg' hp4071 h
              refine g_false (c := q7c103) rfl _ rfl ((decide_eq_false hp4071)) ?_
              refine g_skip (c := q7c105) rfl ?_
              refine g_seq (c := q7c101) rfl ?_
              refine g_seq (c := q7c106) rfl ?_
              have j5 : ∀ (x4121 : Bool) (h : trellislaw15_TreeGrows_j5 r2838 x3304 x3944 x3943 x4121 o3) , G (trellislaw15_TreeGrows_C w F r) [.code q7c109, .code q7c107, .inBlock 5, .code q7c98, .inLoop q7c90, .inBlock 4, .inBlock 3, .code q7c55, .inLoop q7c47, .inBlock 2, .code q7c43] [(2, .pointer (some ⟨gb51, 0, none⟩)), (7, .slice A2840 n2841 c2842), (8, .slice A2847 n2848 c2849), (10, .int .i64 x3943), (11, .int .i64 x3304), (12, .slice A3765 n3766 c3767), (16, .int .i64 x3944), (172, .bool x4121)] [.own (.slice A2840 n2841 c2842) 79 3 n2841 cs2845, .own (.slice A2847 n2848 c2849) 39 7 n2848 (r2838.2.1.flatMap enc_api_Node), .box gb51 58 [.string x1.name, .slice A2 n3 c4, .slice A6 n7 c8, .slice A10 n11 c12, .slice A14 n15 c16, .slice A18 n19 c20, .slice A22 n23 c24, .slice A26 n27 c28, .slice A30 n31 c32, .slice A34 n35 c36, .slice A38 n39 c40, .slice A42 n43 c44]] [Sm w.heap.size F w2852 sb2856, Sm w.heap.size F w [], St w []] := by
               intro x4121 h
               unfold trellislaw15_TreeGrows_j5 at h
               by_cases hp4122 : x4121 = true
               ·have h := if_pos' hp4122 h
                refine g_true (c := q7c109) rfl _ rfl (hp4122) ?_
                refine g_seq (c := q7c110) rfl ?_
                refine g_region (c := q7c112) rfl rfl ?_
                refine wl_v 0 rfl (v_assign rfl) gn rfl ?_
                refine w_end 1 rfl ?_
                have h := Out.inr hO3 h
                have h := Out.inr hO2 h
                have h := Out.inr hO1 h
                refine g_retR (c := q7c113) [.bool false] rfl Try.func7 rfl (.tmp rfl (.nil)) fun wr hLr => ?_
                have hMr : B.Loc w wr [] [St w []] := hLr.pick0 (sels [2] rfl)
                show trellislaw15_TreeGrows_R w F  r (.returned (packV [.bool false])) wr
                rw [h]
                exact ⟨rfl, hMr⟩
               ·have h := if_neg' hp4122 h
                refine g_false (c := q7c109) rfl _ rfl ((bf hp4122)) ?_
                refine g_skip (c := q7c111) rfl ?_
                refine g_seq (c := q7c107) rfl ?_
                refine g_block (c := q7c114) rfl ?_
                refine g_loop (c := q7c116) rfl ?_
                have key6 : ∀ s, Rounds (fun (s : Int) o => trellislaw15_TreeGrows_b6 r2838 x3304 x3944 s o) s o3 → (fun (s : Int) => ∀ (_ : Unit), G (trellislaw15_TreeGrows_C w F r) [.code q7c117, .inLoop q7c117, .inBlock 6, .code q7c115, .inBlock 5, .code q7c98, .inLoop q7c90, .inBlock 4, .inBlock 3, .code q7c55, .inLoop q7c47, .inBlock 2, .code q7c43] [(2, .pointer (some ⟨gb51, 0, none⟩)), (7, .slice A2840 n2841 c2842), (8, .slice A2847 n2848 c2849), (10, .int .i64 s), (11, .int .i64 x3304), (12, .slice A3765 n3766 c3767), (16, .int .i64 x3944)] [.own (.slice A2840 n2841 c2842) 79 3 n2841 cs2845, .own (.slice A2847 n2848 c2849) 39 7 n2848 (r2838.2.1.flatMap enc_api_Node), .box gb51 58 [.string x1.name, .slice A2 n3 c4, .slice A6 n7 c8, .slice A10 n11 c12, .slice A14 n15 c16, .slice A18 n19 c20, .slice A22 n23 c24, .slice A26 n27 c28, .slice A30 n31 c32, .slice A34 n35 c36, .slice A38 n39 c40, .slice A42 n43 c44]] [Sm w.heap.size F w2852 sb2856, Sm w.heap.size F w [], St w []]) s := by
                 intro s hs
                 refine Rounds.ind (mot := (fun (s : Int) => ∀ (_ : Unit), G (trellislaw15_TreeGrows_C w F r) [.code q7c117, .inLoop q7c117, .inBlock 6, .code q7c115, .inBlock 5, .code q7c98, .inLoop q7c90, .inBlock 4, .inBlock 3, .code q7c55, .inLoop q7c47, .inBlock 2, .code q7c43] [(2, .pointer (some ⟨gb51, 0, none⟩)), (7, .slice A2840 n2841 c2842), (8, .slice A2847 n2848 c2849), (10, .int .i64 s), (11, .int .i64 x3304), (12, .slice A3765 n3766 c3767), (16, .int .i64 x3944)] [.own (.slice A2840 n2841 c2842) 79 3 n2841 cs2845, .own (.slice A2847 n2848 c2849) 39 7 n2848 (r2838.2.1.flatMap enc_api_Node), .box gb51 58 [.string x1.name, .slice A2 n3 c4, .slice A6 n7 c8, .slice A10 n11 c12, .slice A14 n15 c16, .slice A18 n19 c20, .slice A22 n23 c24, .slice A26 n27 c28, .slice A30 n31 c32, .slice A34 n35 c36, .slice A38 n39 c40, .slice A42 n43 c44]] [Sm w.heap.size F w2852 sb2856, Sm w.heap.size F w [], St w []])) ?_ hs
                 clear hs s
                 intro x4130 o4 h hO4
                 show ∀ (_ : Unit), G (trellislaw15_TreeGrows_C w F r) [.code q7c117, .inLoop q7c117, .inBlock 6, .code q7c115, .inBlock 5, .code q7c98, .inLoop q7c90, .inBlock 4, .inBlock 3, .code q7c55, .inLoop q7c47, .inBlock 2, .code q7c43] [(2, .pointer (some ⟨gb51, 0, none⟩)), (7, .slice A2840 n2841 c2842), (8, .slice A2847 n2848 c2849), (10, .int .i64 x4130), (11, .int .i64 x3304), (12, .slice A3765 n3766 c3767), (16, .int .i64 x3944)] [.own (.slice A2840 n2841 c2842) 79 3 n2841 cs2845, .own (.slice A2847 n2848 c2849) 39 7 n2848 (r2838.2.1.flatMap enc_api_Node), .box gb51 58 [.string x1.name, .slice A2 n3 c4, .slice A6 n7 c8, .slice A10 n11 c12, .slice A14 n15 c16, .slice A18 n19 c20, .slice A22 n23 c24, .slice A26 n27 c28, .slice A30 n31 c32, .slice A34 n35 c36, .slice A38 n39 c40, .slice A42 n43 c44]] [Sm w.heap.size F w2852 sb2856, Sm w.heap.size F w [], St w []]
                 intro _
                 have h : trellislaw15_TreeGrows_b6 r2838 x3304 x3944 x4130 o4 := h
                 unfold trellislaw15_TreeGrows_b6 at h
                 refine g_seq (c := q7c117) rfl ?_
                 refine g_seq (c := q7c118) rfl ?_
                 refine g_region (c := q7c120) rfl rfl ?_
                 refine wl_v 0 rfl (v_move rfl) gn rfl ?_
                 refine wl_v 1 rfl (v_move rfl) gn rfl ?_
                 refine wl_v 2 rfl (v_move rfl) gn rfl ?_
                 have hr4137 := Rw.readF (s := Sm w.heap.size F w2852 sb2856) (hl := hl_api_Node) (h1 := h1_api_Node) h3768 hb4069
                 refine wl_v 3 rfl (v_idxR (s := Sm w.heap.size F w2852 sb2856) slE_22 rfl rfl h3768 hb4069) gn rfl ?_
                 refine wl_v 4 rfl (v_fldA fo_39_6 rfl) gn rfl ?_
                 refine wl_v 5 rfl (v_ldA1 (kk := (x3944 : Int).toNat * 7) (j := 6) (Sm w.heap.size F w2852 sb2856) ld_3 rfl hr4137 rfl (me 0 rfl)) gn rfl ?_
                 refine wl_v 6 rfl (v_bin rfl rfl rfl) gn rfl ?_
                 refine w_end 7 rfl ?_
                 by_cases hp4138 : x4130 < (ix ((ix r2838.1 x3304).t) x3944).leaf
                 ·have h := if_pos' hp4138 h
                  refine g_true (c := q7c121) rfl _ rfl ((decide_eq_true hp4138)) ?_
                  refine g_skip (c := q7c122) rfl ?_
                  refine g_block (c := q7c119) rfl ?_
                  refine g_seq (c := q7c124) rfl ?_
                  refine g_seq (c := q7c125) rfl ?_
                  refine g_region (c := q7c127) rfl rfl ?_
                  refine wl_v 0 rfl (v_move rfl) gn rfl ?_
                  refine wl_v 1 rfl (v_move rfl) gn rfl ?_
                  obtain ⟨hb4139, h⟩ := h
                  refine wl_v 2 rfl (v_idxO slE_22 rfl rfl (Ow.weak hL2836.env.size h2850) hb4139) gn rfl ?_
                  refine wl_v 3 rfl (v_fldA fo_39_0 rfl) gn rfl ?_
                  refine wl_v 4 rfl (v_ldO1 (.string ((ix r2838.2.1 x4130).name)) 1 ld_9 rfl rfl (fm_get hl_api_Node hb4139 rfl)) gn rfl ?_
                  refine wl_v 5 rfl (v_eqS rfl rfl) gn rfl ?_
                  refine wl_v 6 rfl (v_move rfl) gn rfl ?_
                  by_cases hp4140 : (ix r2838.2.1 x4130).name = (⟨#[]⟩ : ByteArray)
                  ·have h := if_pos' hp4140 h
                   refine w_bool 186 rfl ((seq_t hp4140)) ?_
                   refine wl_pass 7 rfl (ps 186 rfl rfl rfl) ?_
                   refine wl_pass 8 rfl (ps 186 rfl rfl rfl) ?_
                   refine wl_pass 9 rfl (ps 186 rfl rfl rfl) ?_
                   refine wl_pass 10 rfl (ps 186 rfl rfl rfl) ?_
                   refine wl_pass 11 rfl (ps 186 rfl rfl rfl) ?_
                   refine wl_pass 12 rfl (ps 186 rfl rfl rfl) ?_
                   refine wl_pass 13 rfl (ps 186 rfl rfl rfl) ?_
                   refine wl_v 14 rfl (v_pick (b := true) rfl rfl) gn rfl ?_
                   refine w_end 15 rfl ?_
                   refine g_true (c := q7c128) rfl _ rfl (rfl) ?_
                   refine g_seq (c := q7c129) rfl ?_
                   refine g_region (c := q7c131) rfl rfl ?_
                   refine wl_v 0 rfl (v_assign rfl) gn rfl ?_
                   refine w_end 1 rfl ?_
                   have h := Out.inr hO4 h
                   have h := Out.inr hO3 h
                   have h := Out.inr hO2 h
                   have h := Out.inr hO1 h
                   refine g_retR (c := q7c132) [.bool false] rfl Try.func7 rfl (.tmp rfl (.nil)) fun wr hLr => ?_
                   have hMr : B.Loc w wr [] [St w []] := hLr.pick0 (sels [2] rfl)
                   show trellislaw15_TreeGrows_R w F  r (.returned (packV [.bool false])) wr
                   rw [h]
                   exact ⟨rfl, hMr⟩
                  ·have h := if_neg' hp4140 h
                   refine w_bool 186 rfl ((seq_f hp4140)) ?_
                   refine wl_v 7 rfl (v_move rfl) (gy 186 rfl rfl) rfl ?_
                   refine wl_v 8 rfl (v_move rfl) (gy 186 rfl rfl) rfl ?_
                   refine wl_v 9 rfl (v_idxO slE_22 rfl rfl (Ow.weak hL2836.env.size h2850) hb4139) (gy 186 rfl rfl) rfl ?_
                   refine wl_v 10 rfl (v_fldA fo_39_0 rfl) (gy 186 rfl rfl) rfl ?_
                   refine wl_v 11 rfl (v_ldO1 (.string ((ix r2838.2.1 x4130).name)) 1 ld_9 rfl rfl (fm_get hl_api_Node hb4139 rfl)) (gy 186 rfl rfl) rfl ?_
                   obtain ⟨hb4141, h⟩ := h
                   refine wl_v 12 rfl (v_indexS un_9 rfl rfl hb4141) (gy 186 rfl rfl) rfl ?_
                   refine wl_v 13 rfl (v_bin rfl rfl rfl) (gy 186 rfl rfl) rfl ?_
                   refine wl_v 14 rfl (v_pick (b := false) rfl rfl) gn rfl ?_
                   refine w_end 15 rfl ?_
                   by_cases hp4142 : bt ((ix r2838.2.1 x4130).name) 0 = 95
                   ·have h := if_pos' hp4142 h
                    refine g_false (c := q7c128) rfl _ rfl ((eqib hp4142)) ?_
                    refine g_skip (c := q7c130) rfl ?_
                    refine g_region (c := q7c126) rfl rfl ?_
                    refine wl_v 0 rfl (v_move rfl) gn rfl ?_
                    refine wl_v 1 rfl (v_bin rfl rfl rfl) gn rfl ?_
                    refine wl_v 2 rfl (v_assign rfl) gn rfl ?_
                    refine w_end 3 rfl ?_
                    refine g_inBlock ?_
                    refine g_inLoop ?_
                    have ih := Out.inl hO4 h
                    exact g_go [0, 1, 2] (ih ()) ⟨rfl, rfl, rfl, rfl, rfl, rfl, rfl, trivial⟩ (.cons_cons _ (.cons_cons _ (.cons_cons _ (.slnil)))) rfl
                   ·have h := if_neg' hp4142 h
                    refine g_true (c := q7c128) rfl _ rfl ((neib hp4142)) ?_
                    refine g_seq (c := q7c129) rfl ?_
                    refine g_region (c := q7c131) rfl rfl ?_
                    refine wl_v 0 rfl (v_assign rfl) gn rfl ?_
                    refine w_end 1 rfl ?_
                    have h := Out.inr hO4 h
                    have h := Out.inr hO3 h
                    have h := Out.inr hO2 h
                    have h := Out.inr hO1 h
                    refine g_retR (c := q7c132) [.bool false] rfl Try.func7 rfl (.tmp rfl (.nil)) fun wr hLr => ?_
                    have hMr : B.Loc w wr [] [St w []] := hLr.pick0 (sels [2] rfl)
                    show trellislaw15_TreeGrows_R w F  r (.returned (packV [.bool false])) wr
                    rw [h]
                    exact ⟨rfl, hMr⟩
                 ·have h := if_neg' hp4138 h
                  refine g_false (c := q7c121) rfl _ rfl ((decide_eq_false hp4138)) ?_
                  refine g_exit (c := q7c123) [.code q7c115, .inBlock 5, .code q7c98, .inLoop q7c90, .inBlock 4, .inBlock 3, .code q7c55, .inLoop q7c47, .inBlock 2, .code q7c43] rfl rfl ?_
                  refine g_region (c := q7c115) rfl rfl ?_
                  refine wl_v 0 rfl (v_move rfl) gn rfl ?_
                  refine wl_v 1 rfl (v_bin rfl rfl rfl) gn rfl ?_
                  refine wl_v 2 rfl (v_assign rfl) gn rfl ?_
                  refine w_end 3 rfl ?_
                  refine g_inBlock ?_
                  refine g_region (c := q7c98) rfl rfl ?_
                  refine wl_v 0 rfl (v_move rfl) gn rfl ?_
                  refine wl_v 1 rfl (v_bin rfl rfl rfl) gn rfl ?_
                  refine wl_v 2 rfl (v_assign rfl) gn rfl ?_
                  refine w_end 3 rfl ?_
                  refine g_inLoop ?_
                  have h := Out.inr hO4 h
                  have ih := Out.inl hO3 h
                  exact g_go [0, 1, 2] (ih ()) ⟨rfl, rfl, rfl, rfl, rfl, rfl, rfl, trivial⟩ (.cons_cons _ (.cons_cons _ (.cons_cons _ (.slnil)))) rfl
                exact g_go [0, 1, 2] (key6 _ h ()) ⟨rfl, rfl, rfl, rfl, rfl, rfl, rfl, trivial⟩ (.cons_cons _ (.cons_cons _ (.cons_cons _ (.slnil)))) rfl
              by_cases hp4144 : (ix ((ix r2838.1 x3304).t) x3944).leaf ≥ (r2838.2.1.length : Int)
              ·have h := if_pos' hp4144 h
               have hns : Region.noSelect (Code.ops q7c108) = true := by kernel_rfl
               refine g_drawF (c := q7c108) [.own (.slice A2840 n2841 c2842) 79 3 n2841 cs2845, .own (.slice A2847 n2848 c2849) 39 7 n2848 (r2838.2.1.flatMap enc_api_Node), .box gb51 58 [.string x1.name, .slice A2 n3 c4, .slice A6 n7 c8, .slice A10 n11 c12, .slice A14 n15 c16, .slice A18 n19 c20, .slice A22 n23 c24, .slice A26 n27 c28, .slice A30 n31 c32, .slice A34 n35 c36, .slice A38 n39 c40, .slice A42 n43 c44]] [Sm w.heap.size F w2852 sb2856, Sm w.heap.size F w [], St w []] [] 59 rfl rfl mix rfl (.cons_cons _ (.cons_cons _ (.cons_cons _ (.slnil)))) (sels [0, 1, 2] rfl) ?_
               refine wfv 0 rfl (v_move rfl) gn hns rfl ?_
               refine wfv 1 rfl (v_move rfl) gn hns rfl ?_
               have hr4146 := Rw.readF (s := Sm w.heap.size F w2852 sb2856) (hl := hl_api_Node) (h1 := h1_api_Node) h3768 hb4069
               refine wfv 2 rfl (v_idxR (s := Sm w.heap.size F w2852 sb2856) slE_22 rfl rfl h3768 hb4069) gn hns rfl ?_
               refine wfv 3 rfl (v_fldA fo_39_6 rfl) gn hns rfl ?_
               refine wfv 4 rfl (v_ldA1 (kk := (x3944 : Int).toNat * 7) (j := 6) (Sm w.heap.size F w2852 sb2856) ld_3 rfl hr4146 rfl (me 0 rfl)) gn hns rfl ?_
               refine wfv 5 rfl (v_move rfl) gn hns rfl ?_
               refine wfv 6 rfl (v_lenQ un_22 rfl (Ow.weak hL2836.env.size h2850).hq) gn hns rfl ?_
               refine wfv 7 rfl (v_bin rfl rfl rfl) gn hns rfl ?_
               refine wfv 8 rfl (v_move rfl) gn hns rfl ?_
               refine wf_bool 122 rfl ((decide_eq_true hp4144)) ?_
               refine wfp 9 rfl (ps 122 rfl rfl rfl) hns rfl ?_
               refine wfp 10 rfl (ps 122 rfl rfl rfl) hns rfl ?_
               refine wfp 11 rfl (ps 122 rfl rfl rfl) hns rfl ?_
               refine wfp 12 rfl (ps 122 rfl rfl rfl) hns rfl ?_
               refine wfp 13 rfl (ps 122 rfl rfl rfl) hns rfl ?_
               refine wfp 14 rfl (ps 122 rfl rfl rfl) hns rfl ?_
               refine wfp 15 rfl (ps 122 rfl rfl rfl) hns rfl ?_
               refine wfv 16 rfl (v_pick (b := true) rfl rfl) gn hns rfl ?_
               refine wfv 17 rfl (v_move rfl) gn hns rfl ?_
               refine wfp 18 rfl (ps 131 rfl rfl rfl) hns rfl ?_
               refine wfp 19 rfl (ps 131 rfl rfl rfl) hns rfl ?_
               refine wfp 20 rfl (ps 131 rfl rfl rfl) hns rfl ?_
               refine wfp 21 rfl (ps 131 rfl rfl rfl) hns rfl ?_
               refine wfp 22 rfl (ps 131 rfl rfl rfl) hns rfl ?_
               refine wfp 23 rfl (ps 131 rfl rfl rfl) hns rfl ?_
               refine wfv 24 rfl (v_pick (b := true) rfl rfl) gn hns rfl ?_
               refine wfv 25 rfl (v_move rfl) gn hns rfl ?_
               refine wfp 26 rfl (ps 139 rfl rfl rfl) hns rfl ?_
               refine wfp 27 rfl (ps 139 rfl rfl rfl) hns rfl ?_
               refine wfp 28 rfl (ps 139 rfl rfl rfl) hns rfl ?_
               refine wfp 29 rfl (ps 139 rfl rfl rfl) hns rfl ?_
               refine wfp 30 rfl (ps 139 rfl rfl rfl) hns rfl ?_
               refine wfp 31 rfl (ps 139 rfl rfl rfl) hns rfl ?_
               refine wfp 32 rfl (ps 139 rfl rfl rfl) hns rfl ?_
               refine wfp 33 rfl (ps 139 rfl rfl rfl) hns rfl ?_
               refine wfp 34 rfl (ps 139 rfl rfl rfl) hns rfl ?_
               refine wfp 35 rfl (ps 139 rfl rfl rfl) hns rfl ?_
               refine wfp 36 rfl (ps 139 rfl rfl rfl) hns rfl ?_
               refine wfp 37 rfl (ps 139 rfl rfl rfl) hns rfl ?_
               refine wfp 38 rfl (ps 139 rfl rfl rfl) hns rfl ?_
               refine wfp 39 rfl (ps 139 rfl rfl rfl) hns rfl ?_
               refine wfp 40 rfl (ps 139 rfl rfl rfl) hns rfl ?_
               refine wfv 41 rfl (v_pick (b := true) rfl rfl) gn hns rfl ?_
               refine wfv 42 rfl (v_move rfl) gn hns rfl ?_
               refine wfp 43 rfl (ps 156 rfl rfl rfl) hns rfl ?_
               refine wfp 44 rfl (ps 156 rfl rfl rfl) hns rfl ?_
               refine wfp 45 rfl (ps 156 rfl rfl rfl) hns rfl ?_
               refine wfp 46 rfl (ps 156 rfl rfl rfl) hns rfl ?_
               refine wfp 47 rfl (ps 156 rfl rfl rfl) hns rfl ?_
               refine wfp 48 rfl (ps 156 rfl rfl rfl) hns rfl ?_
               refine wfp 49 rfl (ps 156 rfl rfl rfl) hns rfl ?_
               refine wfp 50 rfl (ps 156 rfl rfl rfl) hns rfl ?_
               refine wfp 51 rfl (ps 156 rfl rfl rfl) hns rfl ?_
               refine wfp 52 rfl (ps 156 rfl rfl rfl) hns rfl ?_
               refine wfp 53 rfl (ps 156 rfl rfl rfl) hns rfl ?_
               refine wfp 54 rfl (ps 156 rfl rfl rfl) hns rfl ?_
               refine wfp 55 rfl (ps 156 rfl rfl rfl) hns rfl ?_
               refine wfp 56 rfl (ps 156 rfl rfl rfl) hns rfl ?_
               refine wfp 57 rfl (ps 156 rfl rfl rfl) hns rfl ?_
               refine wfv 58 rfl (v_pick (b := true) rfl rfl) gn hns rfl ?_
               refine wf_end (by kernel_rfl) ?_
               exact g_go [0, 1, 2] (j5 true h) ⟨rfl, rfl, rfl, rfl, rfl, rfl, rfl, rfl, trivial⟩ (.cons_cons _ (.cons_cons _ (.cons_cons _ (.slnil)))) rfl
              ·have h := if_neg' hp4144 h
               by_cases hp4148 : (ix ((ix r2838.1 x3304).t) x3944).leaf < x3943
               ·have h := if_pos' hp4148 h
                have hns : Region.noSelect (Code.ops q7c108) = true := by kernel_rfl
                refine g_drawF (c := q7c108) [.own (.slice A2840 n2841 c2842) 79 3 n2841 cs2845, .own (.slice A2847 n2848 c2849) 39 7 n2848 (r2838.2.1.flatMap enc_api_Node), .box gb51 58 [.string x1.name, .slice A2 n3 c4, .slice A6 n7 c8, .slice A10 n11 c12, .slice A14 n15 c16, .slice A18 n19 c20, .slice A22 n23 c24, .slice A26 n27 c28, .slice A30 n31 c32, .slice A34 n35 c36, .slice A38 n39 c40, .slice A42 n43 c44]] [Sm w.heap.size F w2852 sb2856, Sm w.heap.size F w [], St w []] [] 59 rfl rfl mix rfl (.cons_cons _ (.cons_cons _ (.cons_cons _ (.slnil)))) (sels [0, 1, 2] rfl) ?_
                refine wfv 0 rfl (v_move rfl) gn hns rfl ?_
                refine wfv 1 rfl (v_move rfl) gn hns rfl ?_
                have hr4151 := Rw.readF (s := Sm w.heap.size F w2852 sb2856) (hl := hl_api_Node) (h1 := h1_api_Node) h3768 hb4069
                refine wfv 2 rfl (v_idxR (s := Sm w.heap.size F w2852 sb2856) slE_22 rfl rfl h3768 hb4069) gn hns rfl ?_
                refine wfv 3 rfl (v_fldA fo_39_6 rfl) gn hns rfl ?_
                refine wfv 4 rfl (v_ldA1 (kk := (x3944 : Int).toNat * 7) (j := 6) (Sm w.heap.size F w2852 sb2856) ld_3 rfl hr4151 rfl (me 0 rfl)) gn hns rfl ?_
                refine wfv 5 rfl (v_move rfl) gn hns rfl ?_
                refine wfv 6 rfl (v_lenQ un_22 rfl (Ow.weak hL2836.env.size h2850).hq) gn hns rfl ?_
                refine wfv 7 rfl (v_bin rfl rfl rfl) gn hns rfl ?_
                refine wfv 8 rfl (v_move rfl) gn hns rfl ?_
                refine wf_bool 122 rfl ((decide_eq_false hp4144)) ?_
                refine wfv 9 rfl (v_move rfl) (gy 122 rfl rfl) hns rfl ?_
                refine wfv 10 rfl (v_move rfl) (gy 122 rfl rfl) hns rfl ?_
                have hr4152 := Rw.readF (s := Sm w.heap.size F w2852 sb2856) (hl := hl_api_Node) (h1 := h1_api_Node) h3768 hb4069
                refine wfv 11 rfl (v_idxR (s := Sm w.heap.size F w2852 sb2856) slE_22 rfl rfl h3768 hb4069) (gy 122 rfl rfl) hns rfl ?_
                refine wfv 12 rfl (v_fldA fo_39_6 rfl) (gy 122 rfl rfl) hns rfl ?_
                refine wfv 13 rfl (v_ldA1 (kk := (x3944 : Int).toNat * 7) (j := 6) (Sm w.heap.size F w2852 sb2856) ld_3 rfl hr4152 rfl (me 0 rfl)) (gy 122 rfl rfl) hns rfl ?_
                refine wfv 14 rfl (v_move rfl) (gy 122 rfl rfl) hns rfl ?_
                refine wfv 15 rfl (v_bin rfl rfl rfl) (gy 122 rfl rfl) hns rfl ?_
                refine wfv 16 rfl (v_pick (b := false) rfl rfl) gn hns rfl ?_
                refine wfv 17 rfl (v_move rfl) gn hns rfl ?_
                refine wf_bool 131 rfl ((decide_eq_true hp4148)) ?_
                refine wfp 18 rfl (ps 131 rfl rfl rfl) hns rfl ?_
                refine wfp 19 rfl (ps 131 rfl rfl rfl) hns rfl ?_
                refine wfp 20 rfl (ps 131 rfl rfl rfl) hns rfl ?_
                refine wfp 21 rfl (ps 131 rfl rfl rfl) hns rfl ?_
                refine wfp 22 rfl (ps 131 rfl rfl rfl) hns rfl ?_
                refine wfp 23 rfl (ps 131 rfl rfl rfl) hns rfl ?_
                refine wfv 24 rfl (v_pick (b := true) rfl rfl) gn hns rfl ?_
                refine wfv 25 rfl (v_move rfl) gn hns rfl ?_
                refine wfp 26 rfl (ps 139 rfl rfl rfl) hns rfl ?_
                refine wfp 27 rfl (ps 139 rfl rfl rfl) hns rfl ?_
                refine wfp 28 rfl (ps 139 rfl rfl rfl) hns rfl ?_
                refine wfp 29 rfl (ps 139 rfl rfl rfl) hns rfl ?_
                refine wfp 30 rfl (ps 139 rfl rfl rfl) hns rfl ?_
                refine wfp 31 rfl (ps 139 rfl rfl rfl) hns rfl ?_
                refine wfp 32 rfl (ps 139 rfl rfl rfl) hns rfl ?_
                refine wfp 33 rfl (ps 139 rfl rfl rfl) hns rfl ?_
                refine wfp 34 rfl (ps 139 rfl rfl rfl) hns rfl ?_
                refine wfp 35 rfl (ps 139 rfl rfl rfl) hns rfl ?_
                refine wfp 36 rfl (ps 139 rfl rfl rfl) hns rfl ?_
                refine wfp 37 rfl (ps 139 rfl rfl rfl) hns rfl ?_
                refine wfp 38 rfl (ps 139 rfl rfl rfl) hns rfl ?_
                refine wfp 39 rfl (ps 139 rfl rfl rfl) hns rfl ?_
                refine wfp 40 rfl (ps 139 rfl rfl rfl) hns rfl ?_
                refine wfv 41 rfl (v_pick (b := true) rfl rfl) gn hns rfl ?_
                refine wfv 42 rfl (v_move rfl) gn hns rfl ?_
                refine wfp 43 rfl (ps 156 rfl rfl rfl) hns rfl ?_
                refine wfp 44 rfl (ps 156 rfl rfl rfl) hns rfl ?_
                refine wfp 45 rfl (ps 156 rfl rfl rfl) hns rfl ?_
                refine wfp 46 rfl (ps 156 rfl rfl rfl) hns rfl ?_
                refine wfp 47 rfl (ps 156 rfl rfl rfl) hns rfl ?_
                refine wfp 48 rfl (ps 156 rfl rfl rfl) hns rfl ?_
                refine wfp 49 rfl (ps 156 rfl rfl rfl) hns rfl ?_
                refine wfp 50 rfl (ps 156 rfl rfl rfl) hns rfl ?_
                refine wfp 51 rfl (ps 156 rfl rfl rfl) hns rfl ?_
                refine wfp 52 rfl (ps 156 rfl rfl rfl) hns rfl ?_
                refine wfp 53 rfl (ps 156 rfl rfl rfl) hns rfl ?_
                refine wfp 54 rfl (ps 156 rfl rfl rfl) hns rfl ?_
                refine wfp 55 rfl (ps 156 rfl rfl rfl) hns rfl ?_
                refine wfp 56 rfl (ps 156 rfl rfl rfl) hns rfl ?_
                refine wfp 57 rfl (ps 156 rfl rfl rfl) hns rfl ?_
                refine wfv 58 rfl (v_pick (b := true) rfl rfl) gn hns rfl ?_
                refine wf_end (by kernel_rfl) ?_
                exact g_go [0, 1, 2] (j5 true h) ⟨rfl, rfl, rfl, rfl, rfl, rfl, rfl, rfl, trivial⟩ (.cons_cons _ (.cons_cons _ (.cons_cons _ (.slnil)))) rfl
               ·have h := if_neg' hp4148 h
                by_cases hp4154 : (ix ((ix r2838.1 x3304).t) x3944).kids = 0
                ·have h := if_pos' hp4154 h
                 obtain ⟨hb4157, h⟩ := h
                 by_cases hp4158 : (ix ((ix r2838.1 x3304).t) x3944).from_ = (ix r2838.2.1 ((ix ((ix r2838.1 x3304).t) x3944).leaf)).from_
                 ·have h := if_pos' hp4158 h
                  have hns : Region.noSelect (Code.ops q7c108) = true := by kernel_rfl
                  refine g_drawF (c := q7c108) [.own (.slice A2840 n2841 c2842) 79 3 n2841 cs2845, .own (.slice A2847 n2848 c2849) 39 7 n2848 (r2838.2.1.flatMap enc_api_Node), .box gb51 58 [.string x1.name, .slice A2 n3 c4, .slice A6 n7 c8, .slice A10 n11 c12, .slice A14 n15 c16, .slice A18 n19 c20, .slice A22 n23 c24, .slice A26 n27 c28, .slice A30 n31 c32, .slice A34 n35 c36, .slice A38 n39 c40, .slice A42 n43 c44]] [Sm w.heap.size F w2852 sb2856, Sm w.heap.size F w [], St w []] [] 59 rfl rfl mix rfl (.cons_cons _ (.cons_cons _ (.cons_cons _ (.slnil)))) (sels [0, 1, 2] rfl) ?_
                  refine wfv 0 rfl (v_move rfl) gn hns rfl ?_
                  refine wfv 1 rfl (v_move rfl) gn hns rfl ?_
                  have hr4168 := Rw.readF (s := Sm w.heap.size F w2852 sb2856) (hl := hl_api_Node) (h1 := h1_api_Node) h3768 hb4069
                  refine wfv 2 rfl (v_idxR (s := Sm w.heap.size F w2852 sb2856) slE_22 rfl rfl h3768 hb4069) gn hns rfl ?_
                  refine wfv 3 rfl (v_fldA fo_39_6 rfl) gn hns rfl ?_
                  refine wfv 4 rfl (v_ldA1 (kk := (x3944 : Int).toNat * 7) (j := 6) (Sm w.heap.size F w2852 sb2856) ld_3 rfl hr4168 rfl (me 0 rfl)) gn hns rfl ?_
                  refine wfv 5 rfl (v_move rfl) gn hns rfl ?_
                  refine wfv 6 rfl (v_lenQ un_22 rfl (Ow.weak hL2836.env.size h2850).hq) gn hns rfl ?_
                  refine wfv 7 rfl (v_bin rfl rfl rfl) gn hns rfl ?_
                  refine wfv 8 rfl (v_move rfl) gn hns rfl ?_
                  refine wf_bool 122 rfl ((decide_eq_false hp4144)) ?_
                  refine wfv 9 rfl (v_move rfl) (gy 122 rfl rfl) hns rfl ?_
                  refine wfv 10 rfl (v_move rfl) (gy 122 rfl rfl) hns rfl ?_
                  have hr4169 := Rw.readF (s := Sm w.heap.size F w2852 sb2856) (hl := hl_api_Node) (h1 := h1_api_Node) h3768 hb4069
                  refine wfv 11 rfl (v_idxR (s := Sm w.heap.size F w2852 sb2856) slE_22 rfl rfl h3768 hb4069) (gy 122 rfl rfl) hns rfl ?_
                  refine wfv 12 rfl (v_fldA fo_39_6 rfl) (gy 122 rfl rfl) hns rfl ?_
                  refine wfv 13 rfl (v_ldA1 (kk := (x3944 : Int).toNat * 7) (j := 6) (Sm w.heap.size F w2852 sb2856) ld_3 rfl hr4169 rfl (me 0 rfl)) (gy 122 rfl rfl) hns rfl ?_
                  refine wfv 14 rfl (v_move rfl) (gy 122 rfl rfl) hns rfl ?_
                  refine wfv 15 rfl (v_bin rfl rfl rfl) (gy 122 rfl rfl) hns rfl ?_
                  refine wfv 16 rfl (v_pick (b := false) rfl rfl) gn hns rfl ?_
                  refine wfv 17 rfl (v_move rfl) gn hns rfl ?_
                  refine wf_bool 131 rfl ((decide_eq_false hp4148)) ?_
                  refine wfv 18 rfl (v_move rfl) (gy 131 rfl rfl) hns rfl ?_
                  refine wfv 19 rfl (v_move rfl) (gy 131 rfl rfl) hns rfl ?_
                  have hr4170 := Rw.readF (s := Sm w.heap.size F w2852 sb2856) (hl := hl_api_Node) (h1 := h1_api_Node) h3768 hb4069
                  refine wfv 20 rfl (v_idxR (s := Sm w.heap.size F w2852 sb2856) slE_22 rfl rfl h3768 hb4069) (gy 131 rfl rfl) hns rfl ?_
                  refine wfv 21 rfl (v_fldA fo_39_5 rfl) (gy 131 rfl rfl) hns rfl ?_
                  refine wfv 22 rfl (v_ldA1 (kk := (x3944 : Int).toNat * 7) (j := 5) (Sm w.heap.size F w2852 sb2856) ld_3 rfl hr4170 rfl (me 0 rfl)) (gy 131 rfl rfl) hns rfl ?_
                  refine wfv 23 rfl (v_bin rfl rfl rfl) (gy 131 rfl rfl) hns rfl ?_
                  refine wfv 24 rfl (v_pick (b := false) rfl rfl) gn hns rfl ?_
                  refine wfv 25 rfl (v_move rfl) gn hns rfl ?_
                  refine wf_bool 139 rfl ((eqib hp4154)) ?_
                  refine wfv 26 rfl (v_move rfl) (gy 139 rfl rfl) hns rfl ?_
                  refine wfv 27 rfl (v_move rfl) (gy 139 rfl rfl) hns rfl ?_
                  have hr4171 := Rw.readF (s := Sm w.heap.size F w2852 sb2856) (hl := hl_api_Node) (h1 := h1_api_Node) h3768 hb4069
                  refine wfv 28 rfl (v_idxR (s := Sm w.heap.size F w2852 sb2856) slE_22 rfl rfl h3768 hb4069) (gy 139 rfl rfl) hns rfl ?_
                  refine wfv 29 rfl (v_fldA fo_39_3 rfl) (gy 139 rfl rfl) hns rfl ?_
                  refine wfv 30 rfl (v_ldA1 (kk := (x3944 : Int).toNat * 7) (j := 3) (Sm w.heap.size F w2852 sb2856) ld_3 rfl hr4171 rfl (me 0 rfl)) (gy 139 rfl rfl) hns rfl ?_
                  refine wfv 31 rfl (v_move rfl) (gy 139 rfl rfl) hns rfl ?_
                  refine wfv 32 rfl (v_move rfl) (gy 139 rfl rfl) hns rfl ?_
                  refine wfv 33 rfl (v_move rfl) (gy 139 rfl rfl) hns rfl ?_
                  have hr4172 := Rw.readF (s := Sm w.heap.size F w2852 sb2856) (hl := hl_api_Node) (h1 := h1_api_Node) h3768 hb4069
                  refine wfv 34 rfl (v_idxR (s := Sm w.heap.size F w2852 sb2856) slE_22 rfl rfl h3768 hb4069) (gy 139 rfl rfl) hns rfl ?_
                  refine wfv 35 rfl (v_fldA fo_39_6 rfl) (gy 139 rfl rfl) hns rfl ?_
                  refine wfv 36 rfl (v_ldA1 (kk := (x3944 : Int).toNat * 7) (j := 6) (Sm w.heap.size F w2852 sb2856) ld_3 rfl hr4172 rfl (me 0 rfl)) (gy 139 rfl rfl) hns rfl ?_
                  refine wfv 37 rfl (v_idxO slE_22 rfl rfl (Ow.weak hL2836.env.size h2850) hb4157) (gy 139 rfl rfl) hns rfl ?_
                  refine wfv 38 rfl (v_fldA fo_39_3 rfl) (gy 139 rfl rfl) hns rfl ?_
                  refine wfv 39 rfl (v_ldO1 (.int .i64 ((ix r2838.2.1 ((ix ((ix r2838.1 x3304).t) x3944).leaf)).from_)) 1 ld_3 rfl rfl (fm_get hl_api_Node hb4157 rfl)) (gy 139 rfl rfl) hns rfl ?_
                  refine wfv 40 rfl (v_bin rfl rfl rfl) (gy 139 rfl rfl) hns rfl ?_
                  refine wfv 41 rfl (v_pick (b := false) rfl rfl) gn hns rfl ?_
                  refine wfv 42 rfl (v_move rfl) gn hns rfl ?_
                  refine wf_bool 156 rfl ((eqib hp4158)) ?_
                  refine wfv 43 rfl (v_move rfl) (gy 156 rfl rfl) hns rfl ?_
                  refine wfv 44 rfl (v_move rfl) (gy 156 rfl rfl) hns rfl ?_
                  have hr4173 := Rw.readF (s := Sm w.heap.size F w2852 sb2856) (hl := hl_api_Node) (h1 := h1_api_Node) h3768 hb4069
                  refine wfv 45 rfl (v_idxR (s := Sm w.heap.size F w2852 sb2856) slE_22 rfl rfl h3768 hb4069) (gy 156 rfl rfl) hns rfl ?_
                  refine wfv 46 rfl (v_fldA fo_39_4 rfl) (gy 156 rfl rfl) hns rfl ?_
                  refine wfv 47 rfl (v_ldA1 (kk := (x3944 : Int).toNat * 7) (j := 4) (Sm w.heap.size F w2852 sb2856) ld_3 rfl hr4173 rfl (me 0 rfl)) (gy 156 rfl rfl) hns rfl ?_
                  refine wfv 48 rfl (v_move rfl) (gy 156 rfl rfl) hns rfl ?_
                  refine wfv 49 rfl (v_move rfl) (gy 156 rfl rfl) hns rfl ?_
                  refine wfv 50 rfl (v_move rfl) (gy 156 rfl rfl) hns rfl ?_
                  have hr4174 := Rw.readF (s := Sm w.heap.size F w2852 sb2856) (hl := hl_api_Node) (h1 := h1_api_Node) h3768 hb4069
                  refine wfv 51 rfl (v_idxR (s := Sm w.heap.size F w2852 sb2856) slE_22 rfl rfl h3768 hb4069) (gy 156 rfl rfl) hns rfl ?_
                  refine wfv 52 rfl (v_fldA fo_39_6 rfl) (gy 156 rfl rfl) hns rfl ?_
                  refine wfv 53 rfl (v_ldA1 (kk := (x3944 : Int).toNat * 7) (j := 6) (Sm w.heap.size F w2852 sb2856) ld_3 rfl hr4174 rfl (me 0 rfl)) (gy 156 rfl rfl) hns rfl ?_
                  refine wfv 54 rfl (v_idxO slE_22 rfl rfl (Ow.weak hL2836.env.size h2850) hb4157) (gy 156 rfl rfl) hns rfl ?_
                  refine wfv 55 rfl (v_fldA fo_39_4 rfl) (gy 156 rfl rfl) hns rfl ?_
                  refine wfv 56 rfl (v_ldO1 (.int .i64 ((ix r2838.2.1 ((ix ((ix r2838.1 x3304).t) x3944).leaf)).to)) 1 ld_3 rfl rfl (fm_get hl_api_Node hb4157 rfl)) (gy 156 rfl rfl) hns rfl ?_
                  refine wfv 57 rfl (v_bin rfl rfl rfl) (gy 156 rfl rfl) hns rfl ?_
                  refine wfv 58 rfl (v_pick (b := false) rfl rfl) gn hns rfl ?_
                  refine wf_end (by kernel_rfl) ?_
                  exact g_go [0, 1, 2] (j5 (((ix ((ix r2838.1 x3304).t) x3944).to) != ((ix r2838.2.1 ((ix ((ix r2838.1 x3304).t) x3944).leaf)).to)) h) ⟨rfl, rfl, rfl, rfl, rfl, rfl, rfl, rfl, trivial⟩ (.cons_cons _ (.cons_cons _ (.cons_cons _ (.slnil)))) rfl
                 ·have h := if_neg' hp4158 h
                  have hns : Region.noSelect (Code.ops q7c108) = true := by kernel_rfl
                  refine g_drawF (c := q7c108) [.own (.slice A2840 n2841 c2842) 79 3 n2841 cs2845, .own (.slice A2847 n2848 c2849) 39 7 n2848 (r2838.2.1.flatMap enc_api_Node), .box gb51 58 [.string x1.name, .slice A2 n3 c4, .slice A6 n7 c8, .slice A10 n11 c12, .slice A14 n15 c16, .slice A18 n19 c20, .slice A22 n23 c24, .slice A26 n27 c28, .slice A30 n31 c32, .slice A34 n35 c36, .slice A38 n39 c40, .slice A42 n43 c44]] [Sm w.heap.size F w2852 sb2856, Sm w.heap.size F w [], St w []] [] 59 rfl rfl mix rfl (.cons_cons _ (.cons_cons _ (.cons_cons _ (.slnil)))) (sels [0, 1, 2] rfl) ?_
                  refine wfv 0 rfl (v_move rfl) gn hns rfl ?_
                  refine wfv 1 rfl (v_move rfl) gn hns rfl ?_
                  have hr4180 := Rw.readF (s := Sm w.heap.size F w2852 sb2856) (hl := hl_api_Node) (h1 := h1_api_Node) h3768 hb4069
                  refine wfv 2 rfl (v_idxR (s := Sm w.heap.size F w2852 sb2856) slE_22 rfl rfl h3768 hb4069) gn hns rfl ?_
                  refine wfv 3 rfl (v_fldA fo_39_6 rfl) gn hns rfl ?_
                  refine wfv 4 rfl (v_ldA1 (kk := (x3944 : Int).toNat * 7) (j := 6) (Sm w.heap.size F w2852 sb2856) ld_3 rfl hr4180 rfl (me 0 rfl)) gn hns rfl ?_
                  refine wfv 5 rfl (v_move rfl) gn hns rfl ?_
                  refine wfv 6 rfl (v_lenQ un_22 rfl (Ow.weak hL2836.env.size h2850).hq) gn hns rfl ?_
                  refine wfv 7 rfl (v_bin rfl rfl rfl) gn hns rfl ?_
                  refine wfv 8 rfl (v_move rfl) gn hns rfl ?_
                  refine wf_bool 122 rfl ((decide_eq_false hp4144)) ?_
                  refine wfv 9 rfl (v_move rfl) (gy 122 rfl rfl) hns rfl ?_
                  refine wfv 10 rfl (v_move rfl) (gy 122 rfl rfl) hns rfl ?_
                  have hr4181 := Rw.readF (s := Sm w.heap.size F w2852 sb2856) (hl := hl_api_Node) (h1 := h1_api_Node) h3768 hb4069
                  refine wfv 11 rfl (v_idxR (s := Sm w.heap.size F w2852 sb2856) slE_22 rfl rfl h3768 hb4069) (gy 122 rfl rfl) hns rfl ?_
                  refine wfv 12 rfl (v_fldA fo_39_6 rfl) (gy 122 rfl rfl) hns rfl ?_
                  refine wfv 13 rfl (v_ldA1 (kk := (x3944 : Int).toNat * 7) (j := 6) (Sm w.heap.size F w2852 sb2856) ld_3 rfl hr4181 rfl (me 0 rfl)) (gy 122 rfl rfl) hns rfl ?_
                  refine wfv 14 rfl (v_move rfl) (gy 122 rfl rfl) hns rfl ?_
                  refine wfv 15 rfl (v_bin rfl rfl rfl) (gy 122 rfl rfl) hns rfl ?_
                  refine wfv 16 rfl (v_pick (b := false) rfl rfl) gn hns rfl ?_
                  refine wfv 17 rfl (v_move rfl) gn hns rfl ?_
                  refine wf_bool 131 rfl ((decide_eq_false hp4148)) ?_
                  refine wfv 18 rfl (v_move rfl) (gy 131 rfl rfl) hns rfl ?_
                  refine wfv 19 rfl (v_move rfl) (gy 131 rfl rfl) hns rfl ?_
                  have hr4182 := Rw.readF (s := Sm w.heap.size F w2852 sb2856) (hl := hl_api_Node) (h1 := h1_api_Node) h3768 hb4069
                  refine wfv 20 rfl (v_idxR (s := Sm w.heap.size F w2852 sb2856) slE_22 rfl rfl h3768 hb4069) (gy 131 rfl rfl) hns rfl ?_
                  refine wfv 21 rfl (v_fldA fo_39_5 rfl) (gy 131 rfl rfl) hns rfl ?_
                  refine wfv 22 rfl (v_ldA1 (kk := (x3944 : Int).toNat * 7) (j := 5) (Sm w.heap.size F w2852 sb2856) ld_3 rfl hr4182 rfl (me 0 rfl)) (gy 131 rfl rfl) hns rfl ?_
                  refine wfv 23 rfl (v_bin rfl rfl rfl) (gy 131 rfl rfl) hns rfl ?_
                  refine wfv 24 rfl (v_pick (b := false) rfl rfl) gn hns rfl ?_
                  refine wfv 25 rfl (v_move rfl) gn hns rfl ?_
                  refine wf_bool 139 rfl ((eqib hp4154)) ?_
                  refine wfv 26 rfl (v_move rfl) (gy 139 rfl rfl) hns rfl ?_
                  refine wfv 27 rfl (v_move rfl) (gy 139 rfl rfl) hns rfl ?_
                  have hr4183 := Rw.readF (s := Sm w.heap.size F w2852 sb2856) (hl := hl_api_Node) (h1 := h1_api_Node) h3768 hb4069
                  refine wfv 28 rfl (v_idxR (s := Sm w.heap.size F w2852 sb2856) slE_22 rfl rfl h3768 hb4069) (gy 139 rfl rfl) hns rfl ?_
                  refine wfv 29 rfl (v_fldA fo_39_3 rfl) (gy 139 rfl rfl) hns rfl ?_
                  refine wfv 30 rfl (v_ldA1 (kk := (x3944 : Int).toNat * 7) (j := 3) (Sm w.heap.size F w2852 sb2856) ld_3 rfl hr4183 rfl (me 0 rfl)) (gy 139 rfl rfl) hns rfl ?_
                  refine wfv 31 rfl (v_move rfl) (gy 139 rfl rfl) hns rfl ?_
                  refine wfv 32 rfl (v_move rfl) (gy 139 rfl rfl) hns rfl ?_
                  refine wfv 33 rfl (v_move rfl) (gy 139 rfl rfl) hns rfl ?_
                  have hr4184 := Rw.readF (s := Sm w.heap.size F w2852 sb2856) (hl := hl_api_Node) (h1 := h1_api_Node) h3768 hb4069
                  refine wfv 34 rfl (v_idxR (s := Sm w.heap.size F w2852 sb2856) slE_22 rfl rfl h3768 hb4069) (gy 139 rfl rfl) hns rfl ?_
                  refine wfv 35 rfl (v_fldA fo_39_6 rfl) (gy 139 rfl rfl) hns rfl ?_
                  refine wfv 36 rfl (v_ldA1 (kk := (x3944 : Int).toNat * 7) (j := 6) (Sm w.heap.size F w2852 sb2856) ld_3 rfl hr4184 rfl (me 0 rfl)) (gy 139 rfl rfl) hns rfl ?_
                  refine wfv 37 rfl (v_idxO slE_22 rfl rfl (Ow.weak hL2836.env.size h2850) hb4157) (gy 139 rfl rfl) hns rfl ?_
                  refine wfv 38 rfl (v_fldA fo_39_3 rfl) (gy 139 rfl rfl) hns rfl ?_
                  refine wfv 39 rfl (v_ldO1 (.int .i64 ((ix r2838.2.1 ((ix ((ix r2838.1 x3304).t) x3944).leaf)).from_)) 1 ld_3 rfl rfl (fm_get hl_api_Node hb4157 rfl)) (gy 139 rfl rfl) hns rfl ?_
                  refine wfv 40 rfl (v_bin rfl rfl rfl) (gy 139 rfl rfl) hns rfl ?_
                  refine wfv 41 rfl (v_pick (b := false) rfl rfl) gn hns rfl ?_
                  refine wfv 42 rfl (v_move rfl) gn hns rfl ?_
                  refine wf_bool 156 rfl ((neib hp4158)) ?_
                  refine wfp 43 rfl (ps 156 rfl rfl rfl) hns rfl ?_
                  refine wfp 44 rfl (ps 156 rfl rfl rfl) hns rfl ?_
                  refine wfp 45 rfl (ps 156 rfl rfl rfl) hns rfl ?_
                  refine wfp 46 rfl (ps 156 rfl rfl rfl) hns rfl ?_
                  refine wfp 47 rfl (ps 156 rfl rfl rfl) hns rfl ?_
                  refine wfp 48 rfl (ps 156 rfl rfl rfl) hns rfl ?_
                  refine wfp 49 rfl (ps 156 rfl rfl rfl) hns rfl ?_
                  refine wfp 50 rfl (ps 156 rfl rfl rfl) hns rfl ?_
                  refine wfp 51 rfl (ps 156 rfl rfl rfl) hns rfl ?_
                  refine wfp 52 rfl (ps 156 rfl rfl rfl) hns rfl ?_
                  refine wfp 53 rfl (ps 156 rfl rfl rfl) hns rfl ?_
                  refine wfp 54 rfl (ps 156 rfl rfl rfl) hns rfl ?_
                  refine wfp 55 rfl (ps 156 rfl rfl rfl) hns rfl ?_
                  refine wfp 56 rfl (ps 156 rfl rfl rfl) hns rfl ?_
                  refine wfp 57 rfl (ps 156 rfl rfl rfl) hns rfl ?_
                  refine wfv 58 rfl (v_pick (b := true) rfl rfl) gn hns rfl ?_
                  refine wf_end (by kernel_rfl) ?_
                  exact g_go [0, 1, 2] (j5 true h) ⟨rfl, rfl, rfl, rfl, rfl, rfl, rfl, rfl, trivial⟩ (.cons_cons _ (.cons_cons _ (.cons_cons _ (.slnil)))) rfl
                ·have h := if_neg' hp4154 h
                 have hns : Region.noSelect (Code.ops q7c108) = true := by kernel_rfl
                 refine g_drawF (c := q7c108) [.own (.slice A2840 n2841 c2842) 79 3 n2841 cs2845, .own (.slice A2847 n2848 c2849) 39 7 n2848 (r2838.2.1.flatMap enc_api_Node), .box gb51 58 [.string x1.name, .slice A2 n3 c4, .slice A6 n7 c8, .slice A10 n11 c12, .slice A14 n15 c16, .slice A18 n19 c20, .slice A22 n23 c24, .slice A26 n27 c28, .slice A30 n31 c32, .slice A34 n35 c36, .slice A38 n39 c40, .slice A42 n43 c44]] [Sm w.heap.size F w2852 sb2856, Sm w.heap.size F w [], St w []] [] 59 rfl rfl mix rfl (.cons_cons _ (.cons_cons _ (.cons_cons _ (.slnil)))) (sels [0, 1, 2] rfl) ?_
                 refine wfv 0 rfl (v_move rfl) gn hns rfl ?_
                 refine wfv 1 rfl (v_move rfl) gn hns rfl ?_
                 have hr4188 := Rw.readF (s := Sm w.heap.size F w2852 sb2856) (hl := hl_api_Node) (h1 := h1_api_Node) h3768 hb4069
                 refine wfv 2 rfl (v_idxR (s := Sm w.heap.size F w2852 sb2856) slE_22 rfl rfl h3768 hb4069) gn hns rfl ?_
                 refine wfv 3 rfl (v_fldA fo_39_6 rfl) gn hns rfl ?_
                 refine wfv 4 rfl (v_ldA1 (kk := (x3944 : Int).toNat * 7) (j := 6) (Sm w.heap.size F w2852 sb2856) ld_3 rfl hr4188 rfl (me 0 rfl)) gn hns rfl ?_
                 refine wfv 5 rfl (v_move rfl) gn hns rfl ?_
                 refine wfv 6 rfl (v_lenQ un_22 rfl (Ow.weak hL2836.env.size h2850).hq) gn hns rfl ?_
                 refine wfv 7 rfl (v_bin rfl rfl rfl) gn hns rfl ?_
                 refine wfv 8 rfl (v_move rfl) gn hns rfl ?_
                 refine wf_bool 122 rfl ((decide_eq_false hp4144)) ?_
                 refine wfv 9 rfl (v_move rfl) (gy 122 rfl rfl) hns rfl ?_
                 refine wfv 10 rfl (v_move rfl) (gy 122 rfl rfl) hns rfl ?_
                 have hr4189 := Rw.readF (s := Sm w.heap.size F w2852 sb2856) (hl := hl_api_Node) (h1 := h1_api_Node) h3768 hb4069
                 refine wfv 11 rfl (v_idxR (s := Sm w.heap.size F w2852 sb2856) slE_22 rfl rfl h3768 hb4069) (gy 122 rfl rfl) hns rfl ?_
                 refine wfv 12 rfl (v_fldA fo_39_6 rfl) (gy 122 rfl rfl) hns rfl ?_
                 refine wfv 13 rfl (v_ldA1 (kk := (x3944 : Int).toNat * 7) (j := 6) (Sm w.heap.size F w2852 sb2856) ld_3 rfl hr4189 rfl (me 0 rfl)) (gy 122 rfl rfl) hns rfl ?_
                 refine wfv 14 rfl (v_move rfl) (gy 122 rfl rfl) hns rfl ?_
                 refine wfv 15 rfl (v_bin rfl rfl rfl) (gy 122 rfl rfl) hns rfl ?_
                 refine wfv 16 rfl (v_pick (b := false) rfl rfl) gn hns rfl ?_
                 refine wfv 17 rfl (v_move rfl) gn hns rfl ?_
                 refine wf_bool 131 rfl ((decide_eq_false hp4148)) ?_
                 refine wfv 18 rfl (v_move rfl) (gy 131 rfl rfl) hns rfl ?_
                 refine wfv 19 rfl (v_move rfl) (gy 131 rfl rfl) hns rfl ?_
                 have hr4190 := Rw.readF (s := Sm w.heap.size F w2852 sb2856) (hl := hl_api_Node) (h1 := h1_api_Node) h3768 hb4069
                 refine wfv 20 rfl (v_idxR (s := Sm w.heap.size F w2852 sb2856) slE_22 rfl rfl h3768 hb4069) (gy 131 rfl rfl) hns rfl ?_
                 refine wfv 21 rfl (v_fldA fo_39_5 rfl) (gy 131 rfl rfl) hns rfl ?_
                 refine wfv 22 rfl (v_ldA1 (kk := (x3944 : Int).toNat * 7) (j := 5) (Sm w.heap.size F w2852 sb2856) ld_3 rfl hr4190 rfl (me 0 rfl)) (gy 131 rfl rfl) hns rfl ?_
                 refine wfv 23 rfl (v_bin rfl rfl rfl) (gy 131 rfl rfl) hns rfl ?_
                 refine wfv 24 rfl (v_pick (b := false) rfl rfl) gn hns rfl ?_
                 refine wfv 25 rfl (v_move rfl) gn hns rfl ?_
                 refine wf_bool 139 rfl ((neib hp4154)) ?_
                 refine wfp 26 rfl (ps 139 rfl rfl rfl) hns rfl ?_
                 refine wfp 27 rfl (ps 139 rfl rfl rfl) hns rfl ?_
                 refine wfp 28 rfl (ps 139 rfl rfl rfl) hns rfl ?_
                 refine wfp 29 rfl (ps 139 rfl rfl rfl) hns rfl ?_
                 refine wfp 30 rfl (ps 139 rfl rfl rfl) hns rfl ?_
                 refine wfp 31 rfl (ps 139 rfl rfl rfl) hns rfl ?_
                 refine wfp 32 rfl (ps 139 rfl rfl rfl) hns rfl ?_
                 refine wfp 33 rfl (ps 139 rfl rfl rfl) hns rfl ?_
                 refine wfp 34 rfl (ps 139 rfl rfl rfl) hns rfl ?_
                 refine wfp 35 rfl (ps 139 rfl rfl rfl) hns rfl ?_
                 refine wfp 36 rfl (ps 139 rfl rfl rfl) hns rfl ?_
                 refine wfp 37 rfl (ps 139 rfl rfl rfl) hns rfl ?_
                 refine wfp 38 rfl (ps 139 rfl rfl rfl) hns rfl ?_
                 refine wfp 39 rfl (ps 139 rfl rfl rfl) hns rfl ?_
                 refine wfp 40 rfl (ps 139 rfl rfl rfl) hns rfl ?_
                 refine wfv 41 rfl (v_pick (b := true) rfl rfl) gn hns rfl ?_
                 refine wfv 42 rfl (v_move rfl) gn hns rfl ?_
                 refine wfp 43 rfl (ps 156 rfl rfl rfl) hns rfl ?_
                 refine wfp 44 rfl (ps 156 rfl rfl rfl) hns rfl ?_
                 refine wfp 45 rfl (ps 156 rfl rfl rfl) hns rfl ?_
                 refine wfp 46 rfl (ps 156 rfl rfl rfl) hns rfl ?_
                 refine wfp 47 rfl (ps 156 rfl rfl rfl) hns rfl ?_
                 refine wfp 48 rfl (ps 156 rfl rfl rfl) hns rfl ?_
                 refine wfp 49 rfl (ps 156 rfl rfl rfl) hns rfl ?_
                 refine wfp 50 rfl (ps 156 rfl rfl rfl) hns rfl ?_
                 refine wfp 51 rfl (ps 156 rfl rfl rfl) hns rfl ?_
                 refine wfp 52 rfl (ps 156 rfl rfl rfl) hns rfl ?_
                 refine wfp 53 rfl (ps 156 rfl rfl rfl) hns rfl ?_
                 refine wfp 54 rfl (ps 156 rfl rfl rfl) hns rfl ?_
                 refine wfp 55 rfl (ps 156 rfl rfl rfl) hns rfl ?_
                 refine wfp 56 rfl (ps 156 rfl rfl rfl) hns rfl ?_
                 refine wfp 57 rfl (ps 156 rfl rfl rfl) hns rfl ?_
                 refine wfv 58 rfl (v_pick (b := true) rfl rfl) gn hns rfl ?_
                 refine wf_end (by kernel_rfl) ?_
                 exact g_go [0, 1, 2] (j5 true h) ⟨rfl, rfl, rfl, rfl, rfl, rfl, rfl, rfl, trivial⟩ (.cons_cons _ (.cons_cons _ (.cons_cons _ (.slnil)))) rfl
            ·have h := if_neg' hp4068 h
             refine g_false (c := q7c94) rfl _ rfl ((decide_eq_false hp4068)) ?_
             refine g_exit (c := q7c96) [.inBlock 3, .code q7c55, .inLoop q7c47, .inBlock 2, .code q7c43] rfl rfl ?_
             refine g_inBlock ?_
             refine g_region (c := q7c55) rfl rfl ?_
             refine wl_v 0 rfl (v_move rfl) gn rfl ?_
             refine wl_v 1 rfl (v_bin rfl rfl rfl) gn rfl ?_
             refine wl_v 2 rfl (v_assign rfl) gn rfl ?_
             refine w_end 3 rfl ?_
             refine g_inLoop ?_
             have h := Out.inr hO3 h
             have ih := Out.inl hO2 h
             exact g_go [0, 1, 2] (ih ()) ⟨rfl, rfl, rfl, rfl, rfl, trivial⟩ (.cons_cons _ (.cons_cons _ (.cons_cons _ (.slnil)))) rfl
           exact g_go [0, 1, 2] (key4 _ h ()) ⟨rfl, rfl, rfl, rfl, rfl, rfl, rfl, trivial⟩ (.cons_cons _ (.cons_cons _ (.cons_cons _ (.slnil)))) rfl
          ·have h := if_neg' hp3818 h
           refine g_true (c := q7c84) rfl _ rfl ((nt (bf hp3818))) ?_
           refine g_seq (c := q7c85) rfl ?_
           refine g_region (c := q7c133) rfl rfl ?_
           refine wl_v 0 rfl (v_assign rfl) gn rfl ?_
           refine w_end 1 rfl ?_
           have h := Out.inr hO2 h
           have h := Out.inr hO1 h
           refine g_retR (c := q7c134) [.bool false] rfl Try.func7 rfl (.tmp rfl (.nil)) fun wr hLr => ?_
           have hMr : B.Loc w wr [] [St w []] := hLr.pick0 (sels [2] rfl)
           show trellislaw15_TreeGrows_R w F  r (.returned (packV [.bool false])) wr
           rw [h]
           exact ⟨rfl, hMr⟩
        refine g_region (c := q7c73) rfl rfl ?_
        refine wl_v 0 rfl (v_move rfl) gn rfl ?_
        refine wl_v 1 rfl (v_bin rfl rfl rfl) gn rfl ?_
        refine wl_v 2 rfl (v_move rfl) gn rfl ?_
        by_cases hp4191 : w64 (((ix r2838.1 x3304).sym) - (x1.gram.terms.length : Int)) ≥ 0
        ·have h := if_pos' hp4191 h
         refine w_bool 76 rfl ((decide_eq_true hp4191)) ?_
         refine wl_v 3 rfl (v_move rfl) (gy 76 rfl rfl) rfl ?_
         refine wl_v 4 rfl (v_fldB fo_58_2 rfl) (gy 76 rfl rfl) rfl ?_
         refine wl_v 5 rfl (v_fldB fo_47_1 rfl) (gy 76 rfl rfl) rfl ?_
         refine wl_v 6 rfl (v_ldB1 2 ld_44 rfl rfl rfl) (gy 76 rfl rfl) rfl ?_
         refine wl_v 7 rfl (v_lenQ un_44 rfl h13.hq) (gy 76 rfl rfl) rfl ?_
         refine wl_v 8 rfl (v_bin rfl rfl rfl) (gy 76 rfl rfl) rfl ?_
         refine wl_v 9 rfl (v_pick (b := true) rfl rfl) gn rfl ?_
         refine wl_v 10 rfl (v_move rfl) gn rfl ?_
         by_cases hp4192 : w64 (((ix r2838.1 x3304).sym) - (x1.gram.terms.length : Int)) < (x1.gram.syms.length : Int)
         ·have h := if_pos' hp4192 h
          refine w_bool 84 rfl ((decide_eq_true hp4192)) ?_
          refine wl_v 11 rfl (v_fldB fo_58_2 rfl) (gy 84 rfl rfl) rfl ?_
          refine wl_v 12 rfl (v_fldB fo_47_1 rfl) (gy 84 rfl rfl) rfl ?_
          refine wl_v 13 rfl (v_ldB1 2 ld_44 rfl rfl rfl) (gy 84 rfl rfl) rfl ?_
          refine wl_v 14 rfl (v_move rfl) (gy 84 rfl rfl) rfl ?_
          obtain ⟨hb4193, h⟩ := h
          have hr4194 := Rw.readF (s := St w []) (hl := hl_api_Sym) (h1 := h1_api_Sym) h13 hb4193
          refine wl_v 15 rfl (v_idxR (s := St w []) slE_44 rfl rfl h13 hb4193) (gy 84 rfl rfl) rfl ?_
          refine wl_v 16 rfl (v_fldA fo_74_1 rfl) (gy 84 rfl rfl) rfl ?_
          refine wl_v 17 rfl (v_ldA1 (kk := (w64 (((ix r2838.1 x3304).sym) - (x1.gram.terms.length : Int)) : Int).toNat * 2) (j := 1) (St w []) ld_72 rfl hr4194 rfl (me 2 rfl)) (gy 84 rfl rfl) rfl ?_
          refine wl_v 18 rfl (v_bin rfl rfl rfl) (gy 84 rfl rfl) rfl ?_
          refine wl_v 19 rfl (v_pick (b := true) rfl rfl) gn rfl ?_
          refine wl_v 20 rfl (v_move rfl) gn rfl ?_
          by_cases hp4195 : (ix x1.gram.syms (w64 (((ix r2838.1 x3304).sym) - (x1.gram.terms.length : Int)))).kind = 1
          ·have h := if_pos' hp4195 h
           refine w_bool 94 rfl ((eqi hp4195)) ?_
           refine wl_v 21 rfl (v_move rfl) (gy 94 rfl rfl) rfl ?_
           refine wl_v 22 rfl (v_bin rfl rfl rfl) (gy 94 rfl rfl) rfl ?_
           refine wl_v 23 rfl (v_pick (b := true) rfl rfl) gn rfl ?_
           refine w_end 24 rfl ?_
           exact g_go [0, 1, 2] (j3 (r3772 != 1) h) ⟨rfl, rfl, rfl, rfl, rfl, rfl, rfl, trivial⟩ (.cons_cons _ (.cons_cons _ (.cons_cons _ (.slnil)))) rfl
          ·have h := if_neg' hp4195 h
           refine w_bool 94 rfl ((nei hp4195)) ?_
           refine wl_pass 21 rfl (ps 94 rfl rfl rfl) ?_
           refine wl_pass 22 rfl (ps 94 rfl rfl rfl) ?_
           refine wl_v 23 rfl (v_pick (b := false) rfl rfl) gn rfl ?_
           refine w_end 24 rfl ?_
           exact g_go [0, 1, 2] (j3 false h) ⟨rfl, rfl, rfl, rfl, rfl, rfl, rfl, trivial⟩ (.cons_cons _ (.cons_cons _ (.cons_cons _ (.slnil)))) rfl
         ·have h := if_neg' hp4192 h
          refine w_bool 84 rfl ((decide_eq_false hp4192)) ?_
          refine wl_pass 11 rfl (ps 84 rfl rfl rfl) ?_
          refine wl_pass 12 rfl (ps 84 rfl rfl rfl) ?_
          refine wl_pass 13 rfl (ps 84 rfl rfl rfl) ?_
          refine wl_pass 14 rfl (ps 84 rfl rfl rfl) ?_
          refine wl_pass 15 rfl (ps 84 rfl rfl rfl) ?_
          refine wl_pass 16 rfl (ps 84 rfl rfl rfl) ?_
          refine wl_pass 17 rfl (ps 84 rfl rfl rfl) ?_
          refine wl_pass 18 rfl (ps 84 rfl rfl rfl) ?_
          refine wl_v 19 rfl (v_pick (b := false) rfl rfl) gn rfl ?_
          refine wl_v 20 rfl (v_move rfl) gn rfl ?_
          refine wl_pass 21 rfl (ps 94 rfl rfl rfl) ?_
          refine wl_pass 22 rfl (ps 94 rfl rfl rfl) ?_
          refine wl_v 23 rfl (v_pick (b := false) rfl rfl) gn rfl ?_
          refine w_end 24 rfl ?_
          exact g_go [0, 1, 2] (j3 false h) ⟨rfl, rfl, rfl, rfl, rfl, rfl, rfl, trivial⟩ (.cons_cons _ (.cons_cons _ (.cons_cons _ (.slnil)))) rfl
        ·have h := if_neg' hp4191 h
         refine w_bool 76 rfl ((decide_eq_false hp4191)) ?_
         refine wl_pass 3 rfl (ps 76 rfl rfl rfl) ?_
         refine wl_pass 4 rfl (ps 76 rfl rfl rfl) ?_
         refine wl_pass 5 rfl (ps 76 rfl rfl rfl) ?_
         refine wl_pass 6 rfl (ps 76 rfl rfl rfl) ?_
         refine wl_pass 7 rfl (ps 76 rfl rfl rfl) ?_
         refine wl_pass 8 rfl (ps 76 rfl rfl rfl) ?_
         refine wl_v 9 rfl (v_pick (b := false) rfl rfl) gn rfl ?_
         refine wl_v 10 rfl (v_move rfl) gn rfl ?_
         refine wl_pass 11 rfl (ps 84 rfl rfl rfl) ?_
         refine wl_pass 12 rfl (ps 84 rfl rfl rfl) ?_
         refine wl_pass 13 rfl (ps 84 rfl rfl rfl) ?_
         refine wl_pass 14 rfl (ps 84 rfl rfl rfl) ?_
         refine wl_pass 15 rfl (ps 84 rfl rfl rfl) ?_
         refine wl_pass 16 rfl (ps 84 rfl rfl rfl) ?_
         refine wl_pass 17 rfl (ps 84 rfl rfl rfl) ?_
         refine wl_pass 18 rfl (ps 84 rfl rfl rfl) ?_
         refine wl_v 19 rfl (v_pick (b := false) rfl rfl) gn rfl ?_
         refine wl_v 20 rfl (v_move rfl) gn rfl ?_
         refine wl_pass 21 rfl (ps 94 rfl rfl rfl) ?_
         refine wl_pass 22 rfl (ps 94 rfl rfl rfl) ?_
         refine wl_v 23 rfl (v_pick (b := false) rfl rfl) gn rfl ?_
         refine w_end 24 rfl ?_
         exact g_go [0, 1, 2] (j3 false h) ⟨rfl, rfl, rfl, rfl, rfl, rfl, rfl, trivial⟩ (.cons_cons _ (.cons_cons _ (.cons_cons _ (.slnil)))) rfl
      ·have h := if_neg' hp3759 h
       refine g_false (c := q7c51) rfl _ rfl ((decide_eq_false hp3759)) ?_
       refine g_exit (c := q7c53) [.code q7c43] rfl rfl ?_
       refine g_seq (c := q7c43) rfl ?_
       refine g_block (c := q7c135) rfl ?_
       refine g_loop (c := q7c137) rfl ?_
       have key7 : ∀ s, Rounds (fun (s : Int) o => trellislaw15_TreeGrows_b7 r2838 s o) s o2 → (fun (s : Int) => ∀ (_ : Unit), G (trellislaw15_TreeGrows_C w F r) [.code q7c138, .inLoop q7c138, .inBlock 8, .code q7c136] [(8, .slice A2847 n2848 c2849), (10, .int .i64 s)] [.own (.slice A2847 n2848 c2849) 39 7 n2848 (r2838.2.1.flatMap enc_api_Node)] [Sm w.heap.size F w2852 sb2856, Sm w.heap.size F w [], St w []]) s := by
        intro s hs
        refine Rounds.ind (mot := (fun (s : Int) => ∀ (_ : Unit), G (trellislaw15_TreeGrows_C w F r) [.code q7c138, .inLoop q7c138, .inBlock 8, .code q7c136] [(8, .slice A2847 n2848 c2849), (10, .int .i64 s)] [.own (.slice A2847 n2848 c2849) 39 7 n2848 (r2838.2.1.flatMap enc_api_Node)] [Sm w.heap.size F w2852 sb2856, Sm w.heap.size F w [], St w []])) ?_ hs
        clear hs s
        intro x4202 o3 h hO3
        show ∀ (_ : Unit), G (trellislaw15_TreeGrows_C w F r) [.code q7c138, .inLoop q7c138, .inBlock 8, .code q7c136] [(8, .slice A2847 n2848 c2849), (10, .int .i64 x4202)] [.own (.slice A2847 n2848 c2849) 39 7 n2848 (r2838.2.1.flatMap enc_api_Node)] [Sm w.heap.size F w2852 sb2856, Sm w.heap.size F w [], St w []]
        intro _
        have h : trellislaw15_TreeGrows_b7 r2838 x4202 o3 := h
        unfold trellislaw15_TreeGrows_b7 at h
        refine g_seq (c := q7c138) rfl ?_
        refine g_seq (c := q7c139) rfl ?_
        refine g_region (c := q7c141) rfl rfl ?_
        refine wl_v 0 rfl (v_move rfl) gn rfl ?_
        refine wl_v 1 rfl (v_move rfl) gn rfl ?_
        refine wl_v 2 rfl (v_lenQ un_22 rfl (Ow.weak hL2836.env.size h2850).hq) gn rfl ?_
        refine wl_v 3 rfl (v_bin rfl rfl rfl) gn rfl ?_
        refine w_end 4 rfl ?_
        by_cases hp4208 : x4202 < (r2838.2.1.length : Int)
        ·have h := if_pos' hp4208 h
         refine g_true (c := q7c142) rfl _ rfl ((decide_eq_true hp4208)) ?_
         refine g_skip (c := q7c143) rfl ?_
         refine g_block (c := q7c140) rfl ?_
         refine g_seq (c := q7c145) rfl ?_
         refine g_seq (c := q7c146) rfl ?_
         refine g_region (c := q7c148) rfl rfl ?_
         refine wl_v 0 rfl (v_move rfl) gn rfl ?_
         refine wl_v 1 rfl (v_move rfl) gn rfl ?_
         obtain ⟨hb4209, h⟩ := h
         refine wl_v 2 rfl (v_idxO slE_22 rfl rfl (Ow.weak hL2836.env.size h2850) hb4209) gn rfl ?_
         refine wl_v 3 rfl (v_fldA fo_39_0 rfl) gn rfl ?_
         refine wl_v 4 rfl (v_ldO1 (.string ((ix r2838.2.1 x4202).name)) 0 ld_9 rfl rfl (fm_get hl_api_Node hb4209 rfl)) gn rfl ?_
         refine wl_v 5 rfl (v_eqS rfl rfl) gn rfl ?_
         refine wl_v 6 rfl (v_move rfl) gn rfl ?_
         by_cases hp4210 : (ix r2838.2.1 x4202).name = (⟨#[]⟩ : ByteArray)
         ·have h := if_pos' hp4210 h
          refine w_bool 209 rfl ((seq_t hp4210)) ?_
          refine wl_pass 7 rfl (ps 209 rfl rfl rfl) ?_
          refine wl_pass 8 rfl (ps 209 rfl rfl rfl) ?_
          refine wl_pass 9 rfl (ps 209 rfl rfl rfl) ?_
          refine wl_pass 10 rfl (ps 209 rfl rfl rfl) ?_
          refine wl_pass 11 rfl (ps 209 rfl rfl rfl) ?_
          refine wl_pass 12 rfl (ps 209 rfl rfl rfl) ?_
          refine wl_pass 13 rfl (ps 209 rfl rfl rfl) ?_
          refine wl_v 14 rfl (v_pick (b := true) rfl rfl) gn rfl ?_
          refine w_end 15 rfl ?_
          refine g_true (c := q7c149) rfl _ rfl (rfl) ?_
          refine g_seq (c := q7c150) rfl ?_
          refine g_region (c := q7c152) rfl rfl ?_
          refine wl_v 0 rfl (v_assign rfl) gn rfl ?_
          refine w_end 1 rfl ?_
          have h := Out.inr hO3 h
          have h := Out.inr hO2 h
          have h := Out.inr hO1 h
          refine g_retR (c := q7c153) [.bool false] rfl Try.func7 rfl (.tmp rfl (.nil)) fun wr hLr => ?_
          have hMr : B.Loc w wr [] [St w []] := hLr.pick0 (sels [2] rfl)
          show trellislaw15_TreeGrows_R w F  r (.returned (packV [.bool false])) wr
          rw [h]
          exact ⟨rfl, hMr⟩
         ·have h := if_neg' hp4210 h
          refine w_bool 209 rfl ((seq_f hp4210)) ?_
          refine wl_v 7 rfl (v_move rfl) (gy 209 rfl rfl) rfl ?_
          refine wl_v 8 rfl (v_move rfl) (gy 209 rfl rfl) rfl ?_
          refine wl_v 9 rfl (v_idxO slE_22 rfl rfl (Ow.weak hL2836.env.size h2850) hb4209) (gy 209 rfl rfl) rfl ?_
          refine wl_v 10 rfl (v_fldA fo_39_0 rfl) (gy 209 rfl rfl) rfl ?_
          refine wl_v 11 rfl (v_ldO1 (.string ((ix r2838.2.1 x4202).name)) 0 ld_9 rfl rfl (fm_get hl_api_Node hb4209 rfl)) (gy 209 rfl rfl) rfl ?_
          obtain ⟨hb4211, h⟩ := h
          refine wl_v 12 rfl (v_indexS un_9 rfl rfl hb4211) (gy 209 rfl rfl) rfl ?_
          refine wl_v 13 rfl (v_bin rfl rfl rfl) (gy 209 rfl rfl) rfl ?_
          refine wl_v 14 rfl (v_pick (b := false) rfl rfl) gn rfl ?_
          refine w_end 15 rfl ?_
          by_cases hp4212 : bt ((ix r2838.2.1 x4202).name) 0 = 95
          ·have h := if_pos' hp4212 h
           refine g_false (c := q7c149) rfl _ rfl ((eqib hp4212)) ?_
           refine g_skip (c := q7c151) rfl ?_
           refine g_region (c := q7c147) rfl rfl ?_
           refine wl_v 0 rfl (v_move rfl) gn rfl ?_
           refine wl_v 1 rfl (v_bin rfl rfl rfl) gn rfl ?_
           refine wl_v 2 rfl (v_assign rfl) gn rfl ?_
           refine w_end 3 rfl ?_
           refine g_inBlock ?_
           refine g_inLoop ?_
           have ih := Out.inl hO3 h
           exact g_go [0, 1, 2] (ih ()) ⟨rfl, rfl, trivial⟩ (.cons_cons _ (.slnil)) rfl
          ·have h := if_neg' hp4212 h
           refine g_true (c := q7c149) rfl _ rfl ((neib hp4212)) ?_
           refine g_seq (c := q7c150) rfl ?_
           refine g_region (c := q7c152) rfl rfl ?_
           refine wl_v 0 rfl (v_assign rfl) gn rfl ?_
           refine w_end 1 rfl ?_
           have h := Out.inr hO3 h
           have h := Out.inr hO2 h
           have h := Out.inr hO1 h
           refine g_retR (c := q7c153) [.bool false] rfl Try.func7 rfl (.tmp rfl (.nil)) fun wr hLr => ?_
           have hMr : B.Loc w wr [] [St w []] := hLr.pick0 (sels [2] rfl)
           show trellislaw15_TreeGrows_R w F  r (.returned (packV [.bool false])) wr
           rw [h]
           exact ⟨rfl, hMr⟩
        ·have h := if_neg' hp4208 h
         refine g_false (c := q7c142) rfl _ rfl ((decide_eq_false hp4208)) ?_
         refine g_exit (c := q7c144) [.code q7c136] rfl rfl ?_
         refine g_seq (c := q7c136) rfl ?_
         refine g_region (c := q7c154) rfl rfl ?_
         refine wl_v 0 rfl (v_assign rfl) gn rfl ?_
         refine w_end 1 rfl ?_
         have h := Out.inr hO3 h
         have h := Out.inr hO2 h
         have h := Out.inr hO1 h
         refine g_retR (c := q7c155) [.bool true] rfl Try.func7 rfl (.tmp rfl (.nil)) fun wr hLr => ?_
         have hMr : B.Loc w wr [] [St w []] := hLr.pick0 (sels [2] rfl)
         show trellislaw15_TreeGrows_R w F  r (.returned (packV [.bool true])) wr
         rw [h]
         exact ⟨rfl, hMr⟩
       exact g_go [0, 1, 2] (key7 _ h ()) ⟨rfl, rfl, trivial⟩ (.cons _ (.cons_cons _ (.cons _ (.slnil)))) rfl
     exact g_go [0, 1, 2] (key2 _ h ()) ⟨rfl, rfl, rfl, rfl, rfl, trivial⟩ (.cons_cons _ (.cons_cons _ (.cons_cons _ (.slnil)))) rfl
    ·have h := if_neg' hp2857 h
     refine g_true (c := q7c37) rfl _ rfl ((nt (bf hp2857))) ?_
     refine g_seq (c := q7c38) rfl ?_
     refine g_region (c := q7c156) rfl rfl ?_
     refine wl_v 0 rfl (v_assign rfl) gn rfl ?_
     refine w_end 1 rfl ?_
     have h := Out.inr hO1 h
     refine g_retR (c := q7c157) [.bool false] rfl Try.func7 rfl (.tmp rfl (.nil)) fun wr hLr => ?_
     have hMr : B.Loc w wr [] [St w []] := hLr.pick0 (sels [2] rfl)
     show trellislaw15_TreeGrows_R w F  r (.returned (packV [.bool false])) wr
     rw [h]
     exact ⟨rfl, hMr⟩
  exact g_go [0, 1] (key1 _ h ()) ⟨rfl, rfl, rfl, trivial⟩ (.cons_cons _ (.slnil)) rfl
 ·have h := if_neg' hp61 h
  refine g_true (c := q7c6) rfl _ rfl ((nt (bf hp61))) ?_
  refine g_seq (c := q7c7) rfl ?_
  refine g_region (c := q7c158) rfl rfl ?_
  refine wl_v 0 rfl (v_assign rfl) gn rfl ?_
  refine w_end 1 rfl ?_
  refine g_retR (c := q7c159) [.bool false] rfl Try.func7 rfl (.tmp rfl (.nil)) fun wr hLr => ?_
  have hMr : B.Loc w wr [] [St w []] := hLr.pick0 (sels [1] rfl)
  show trellislaw15_TreeGrows_R w F  r (.returned (packV [.bool false])) wr
  rw [h]
  exact ⟨rfl, hMr⟩
end Go.Proofs.Ytmekgfcfooghnaa.K
