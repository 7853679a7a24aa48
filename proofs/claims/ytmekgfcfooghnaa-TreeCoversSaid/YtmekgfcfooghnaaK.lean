/- What the machine's calls do, function by function, printed by my own tool. Condition of each: its relation holds of the answer, and what is handed in lies in memory as told. -/
import Derived.Test.YtmekgfcfooghnaaK3
set_option linter.unusedVariables false
set_option maxRecDepth 100000
set_option maxHeartbeats 4000000
namespace Go.Proofs.Ytmekgfcfooghnaa.K
open Go.Proofs.Ytmekgfcfooghnaa.B Go.Proofs.Ytmekgfcfooghnaa.R Go.RowKit
noncomputable abbrev q36c0 : Code := bodyOf Try.f36
noncomputable abbrev q36c1 : Code := Code.fst q36c0
noncomputable abbrev q36c2 : Code := Code.snd q36c0
noncomputable abbrev q36c3 : Code := Code.fst q36c2
noncomputable abbrev q36c4 : Code := Code.snd q36c2
noncomputable abbrev q36c5 : Code := Code.fst q36c4
noncomputable abbrev q36c6 : Code := Code.snd q36c4
noncomputable abbrev q36c7 : Code := Code.fst q36c6
noncomputable abbrev q36c8 : Code := Code.snd q36c6
noncomputable abbrev q36c9 : Code := Code.fst q36c8
noncomputable abbrev q36c10 : Code := Code.snd q36c8
noncomputable abbrev q36c11 : Code := Code.fst q36c9
noncomputable abbrev q36c12 : Code := Code.snd q36c9
noncomputable abbrev q36c13 : Code := Code.fst q36c12
noncomputable abbrev q36c14 : Code := Code.fst q36c13
noncomputable abbrev q36c15 : Code := Code.fst q36c14
noncomputable abbrev q36c16 : Code := Code.snd q36c14
noncomputable abbrev q36c17 : Code := Code.fst q36c15
noncomputable abbrev q36c18 : Code := Code.snd q36c15
noncomputable abbrev q36c19 : Code := Code.fst q36c18
noncomputable abbrev q36c20 : Code := Code.snd q36c18
noncomputable abbrev q36c21 : Code := Code.fst q36c16
noncomputable abbrev q36c22 : Code := Code.snd q36c16
noncomputable abbrev q36c23 : Code := Code.fst q36c21
noncomputable abbrev q36c24 : Code := Code.fst q36c23
noncomputable abbrev q36c25 : Code := Code.snd q36c23
noncomputable abbrev q36c26 : Code := Code.fst q36c25
noncomputable abbrev q36c27 : Code := Code.snd q36c25
noncomputable abbrev q36c28 : Code := Code.fst q36c26
noncomputable abbrev q36c29 : Code := Code.snd q36c26
noncomputable abbrev q36c30 : Code := Code.fst q36c29
noncomputable abbrev q36c31 : Code := Code.snd q36c29
noncomputable abbrev q36c32 : Code := Code.fst q36c30
noncomputable abbrev q36c33 : Code := Code.snd q36c30
noncomputable abbrev q36c34 : Code := Code.fst q36c33
noncomputable abbrev q36c35 : Code := Code.snd q36c33
noncomputable abbrev q36c36 : Code := Code.fst q36c34
noncomputable abbrev q36c37 : Code := Code.snd q36c34
noncomputable abbrev q36c38 : Code := Code.fst q36c37
noncomputable abbrev q36c39 : Code := Code.snd q36c37
noncomputable abbrev q36c40 : Code := Code.fst q36c35
noncomputable abbrev q36c41 : Code := Code.snd q36c35
noncomputable abbrev q36c42 : Code := Code.fst q36c41
noncomputable abbrev q36c43 : Code := Code.snd q36c41
noncomputable abbrev q36c44 : Code := Code.fst q36c43
noncomputable abbrev q36c45 : Code := Code.snd q36c43
noncomputable abbrev q36c46 : Code := Code.fst q36c45
noncomputable abbrev q36c47 : Code := Code.snd q36c45
noncomputable abbrev q36c48 : Code := Code.fst q36c46
noncomputable abbrev q36c49 : Code := Code.snd q36c46
noncomputable abbrev q36c50 : Code := Code.fst q36c49
noncomputable abbrev q36c51 : Code := Code.snd q36c49
noncomputable abbrev q36c52 : Code := Code.fst q36c47
noncomputable abbrev q36c53 : Code := Code.snd q36c47
noncomputable abbrev q36c54 : Code := Code.fst q36c53
noncomputable abbrev q36c55 : Code := Code.snd q36c53
noncomputable abbrev q36c56 : Code := Code.fst q36c50
noncomputable abbrev q36c57 : Code := Code.snd q36c50
noncomputable abbrev q36c58 : Code := Code.fst q36c27
noncomputable abbrev q36c59 : Code := Code.snd q36c27
noncomputable abbrev q36c60 : Code := Code.fst q36c58
noncomputable abbrev q36c61 : Code := Code.snd q36c58
noncomputable abbrev q36c62 : Code := Code.fst q36c61
noncomputable abbrev q36c63 : Code := Code.snd q36c61
noncomputable abbrev q36c64 : Code := Code.fst q36c59
noncomputable abbrev q36c65 : Code := Code.snd q36c59
noncomputable abbrev q36c66 : Code := Code.fst q36c65
noncomputable abbrev q36c67 : Code := Code.snd q36c65
noncomputable abbrev q36c68 : Code := Code.fst q36c67
noncomputable abbrev q36c69 : Code := Code.snd q36c67
noncomputable abbrev q36c70 : Code := Code.fst q36c69
noncomputable abbrev q36c71 : Code := Code.snd q36c69
noncomputable abbrev q36c72 : Code := Code.fst q36c70
noncomputable abbrev q36c73 : Code := Code.snd q36c70
noncomputable abbrev q36c74 : Code := Code.fst q36c73
noncomputable abbrev q36c75 : Code := Code.fst q36c74
noncomputable abbrev q36c76 : Code := Code.fst q36c75
noncomputable abbrev q36c77 : Code := Code.snd q36c75
noncomputable abbrev q36c78 : Code := Code.fst q36c76
noncomputable abbrev q36c79 : Code := Code.snd q36c76
noncomputable abbrev q36c80 : Code := Code.fst q36c79
noncomputable abbrev q36c81 : Code := Code.snd q36c79
noncomputable abbrev q36c82 : Code := Code.fst q36c77
noncomputable abbrev q36c83 : Code := Code.snd q36c77
noncomputable abbrev q36c84 : Code := Code.fst q36c82
noncomputable abbrev q36c85 : Code := Code.fst q36c71
noncomputable abbrev q36c86 : Code := Code.snd q36c71
noncomputable abbrev q36c87 : Code := Code.fst q36c85
noncomputable abbrev q36c88 : Code := Code.snd q36c85
noncomputable abbrev q36c89 : Code := Code.fst q36c88
noncomputable abbrev q36c90 : Code := Code.snd q36c88
noncomputable abbrev q36c91 : Code := Code.fst q36c86
noncomputable abbrev q36c92 : Code := Code.snd q36c86
noncomputable abbrev q36c93 : Code := Code.fst q36c92
noncomputable abbrev q36c94 : Code := Code.snd q36c92
noncomputable abbrev q36c95 : Code := Code.fst q36c93
noncomputable abbrev q36c96 : Code := Code.snd q36c93
noncomputable abbrev q36c97 : Code := Code.fst q36c96
noncomputable abbrev q36c98 : Code := Code.snd q36c96
noncomputable abbrev q36c99 : Code := Code.fst q36c94
noncomputable abbrev q36c100 : Code := Code.snd q36c94
noncomputable abbrev q36c101 : Code := Code.fst q36c100
noncomputable abbrev q36c102 : Code := Code.snd q36c100
noncomputable abbrev q36c103 : Code := Code.fst q36c101
noncomputable abbrev q36c104 : Code := Code.snd q36c101
noncomputable abbrev q36c105 : Code := Code.fst q36c104
noncomputable abbrev q36c106 : Code := Code.fst q36c105
noncomputable abbrev q36c107 : Code := Code.fst q36c106
noncomputable abbrev q36c108 : Code := Code.snd q36c106
noncomputable abbrev q36c109 : Code := Code.fst q36c107
noncomputable abbrev q36c110 : Code := Code.snd q36c107
noncomputable abbrev q36c111 : Code := Code.fst q36c110
noncomputable abbrev q36c112 : Code := Code.snd q36c110
noncomputable abbrev q36c113 : Code := Code.fst q36c102
noncomputable abbrev q36c114 : Code := Code.snd q36c102
noncomputable abbrev q36c115 : Code := Code.fst q36c114
noncomputable abbrev q36c116 : Code := Code.snd q36c114
noncomputable abbrev q36c117 : Code := Code.fst q36c116
noncomputable abbrev q36c118 : Code := Code.snd q36c116
noncomputable abbrev q36c119 : Code := Code.fst q36c10
noncomputable abbrev q36c120 : Code := Code.snd q36c10
noncomputable abbrev q36c121 : Code := Code.fst q36c108
noncomputable abbrev q36c122 : Code := Code.snd q36c108
noncomputable abbrev q36c123 : Code := Code.fst q36c121
noncomputable abbrev q36c124 : Code := Code.fst q36c123
noncomputable abbrev q36c125 : Code := Code.snd q36c123
abbrev trellislaw15_made_R (w : World) (F : Nat → Prop) (r : (List trellislaw15_Made) × (List api_Node) × Bool) : Ending → World → Prop := fun e w' => ∃ A0 : Option Addr, ∃ n0 : Nat, ∃ c0 : Nat, ∃ cs0 : List Value, ∃ A1 : Option Addr, ∃ n1 : Nat, ∃ c1 : Nat, e = .returned (.tuple #[.slice A0 n0 c0, .slice A1 n1 c1, .bool r.2.2]) ∧ B.Loc w w' [.own (.slice A0 n0 c0) 79 3 n0 cs0, .own (.slice A1 n1 c1) 39 7 n1 (r.2.1.flatMap enc_api_Node)] [St w []] ∧ Ow w.heap.size A0 n0 c0 r.1 ∧ Cells k_trellislaw15_Made w' (Nw w w' F [.own (.slice A0 n0 c0) 79 3 n0 cs0, .own (.slice A1 n1 c1) 39 7 n1 (r.2.1.flatMap enc_api_Node)]) r.1 cs0 ∧ Ow w.heap.size A1 n1 c1 r.2.1
noncomputable abbrev trellislaw15_made_C (w : World) (F : Nat → Prop) (r : (List trellislaw15_Made) × (List api_Node) × Bool) : Cx := ⟨Try.prog, 36, Try.f36, 237, trellislaw15_made_R w F  r, w⟩
theorem trellislaw15_made_calls (w : World) (F : Nat → Prop) (x1 : api_Lang) (x46 : List trellislaw15_Op) (A2 : Option Addr) (n3 : Nat) (c4 : Nat) (A6 : Option Addr) (n7 : Nat) (c8 : Nat) (A10 : Option Addr) (n11 : Nat) (c12 : Nat) (A14 : Option Addr) (n15 : Nat) (c16 : Nat) (A18 : Option Addr) (n19 : Nat) (c20 : Nat) (A22 : Option Addr) (n23 : Nat) (c24 : Nat) (A26 : Option Addr) (n27 : Nat) (c28 : Nat) (A30 : Option Addr) (n31 : Nat) (c32 : Nat) (A34 : Option Addr) (n35 : Nat) (c36 : Nat) (A38 : Option Addr) (n39 : Nat) (c40 : Nat) (A42 : Option Addr) (n43 : Nat) (c44 : Nat) (A47 : Option Addr) (n48 : Nat) (c49 : Nat) (h5 : Rw k_api_ModeDef w (St w []).av A2 n3 c4 x1.modes) (h9 : Rw k_api_TermDef w (St w []).av A6 n7 c8 x1.gram.terms) (h13 : Rw k_api_Sym w (St w []).av A10 n11 c12 x1.gram.syms) (h17 : Rw k_api_Prod w (St w []).av A14 n15 c16 x1.gram.prods) (h21 : Rw k_api_Rule w (St w []).av A18 n19 c20 x1.rules) (h25 : Rw (Kd.slice k_api_Action) w (St w []).av A22 n23 c24 x1.table.actions) (h29 : Rw (Kd.slice (kInt .i64)) w (St w []).av A26 n27 c28 x1.table.gotos) (h33 : Rw k_api_PaintDef w (St w []).av A30 n31 c32 x1.paints) (h37 : Rw kStr w (St w []).av A34 n35 c36 x1.folds) (h41 : Rw k_api_MarkDef w (St w []).av A38 n39 c40 x1.marks) (h45 : Rw k_api_InjectDef w (St w []).av A42 n43 c44 x1.injects) (h50 : Rw k_trellislaw15_Op w (St w []).av A47 n48 c49 x46) (hF : ∀ b, F b → b < w.heap.size ∧ ∀ o ∈ ([] : List (List Nat)), b ∉ o) (hL0 : B.Loc w w [] [Sm w.heap.size F w [], St w []]) (r : (List trellislaw15_Made) × (List api_Node) × Bool) (h : trellislaw15_made x1 x46 r) : Calls Try.prog 36 #[.agg #[.string x1.name, .slice A2 n3 c4, .slice A6 n7 c8, .slice A10 n11 c12, .slice A14 n15 c16, .slice A18 n19 c20, .slice A22 n23 c24, .slice A26 n27 c28, .slice A30 n31 c32, .slice A34 n35 c36, .slice A38 n39 c40, .slice A42 n43 c44], .slice A47 n48 c49] w (trellislaw15_made_R w F  r) := by
 unfold trellislaw15_made at h
 refine calls_of_Loc (vs := [.agg #[.string x1.name, .slice A2 n3 c4, .slice A6 n7 c8, .slice A10 n11 c12, .slice A14 n15 c16, .slice A18 n19 c20, .slice A22 n23 c24, .slice A26 n27 c28, .slice A30 n31 c32, .slice A34 n35 c36, .slice A38 n39 c40, .slice A42 n43 c44], .slice A47 n48 c49]) 237 Try.func36 rfl Try.ntmps36 rfl hL0 ?_
 show G (trellislaw15_made_C w F r) _ _ _ _
 refine g_seq (c := q36c0) rfl ?_
 refine g_region (c := q36c1) rfl rfl ?_
 refine wl_s 0 rfl (s_box [.string x1.name, .slice A2 n3 c4, .slice A6 n7 c8, .slice A10 n11 c12, .slice A14 n15 c16, .slice A18 n19 c20, .slice A22 n23 c24, .slice A26 n27 c28, .slice A30 n31 c32, .slice A34 n35 c36, .slice A38 n39 c40, .slice A42 n43 c44] rfl rfl rfl fun gb51 => ?_) gn
 refine wl_v 1 rfl (v_assign rfl) gn rfl ?_
 refine wl_v 2 rfl (v_assign rfl) gn rfl ?_
 refine wl_v 3 rfl (v_assign rfl) gn rfl ?_
 refine w_end 4 rfl ?_
 refine g_seq (c := q36c2) rfl ?_
 refine g_region (c := q36c3) rfl rfl ?_
 refine wl_v 0 rfl (v_assign rfl) gn rfl ?_
 refine w_end 1 rfl ?_
 refine g_seq (c := q36c4) rfl ?_
 refine g_region (c := q36c5) rfl rfl ?_
 refine wl_v 0 rfl (v_assign rfl) gn rfl ?_
 refine w_end 1 rfl ?_
 refine g_seq (c := q36c6) rfl ?_
 refine g_region (c := q36c7) rfl rfl ?_
 refine wl_v 0 rfl (v_assign rfl) gn rfl ?_
 refine w_end 1 rfl ?_
 refine g_seq (c := q36c8) rfl ?_
 refine g_seq (c := q36c9) rfl ?_
 refine g_region (c := q36c11) rfl rfl ?_
 refine wl_v 0 rfl (v_assign rfl) gn rfl ?_
 refine w_end 1 rfl ?_
 refine g_block (c := q36c12) rfl ?_
 refine g_loop (c := q36c13) rfl ?_
 have key1 : ∀ s, Rounds (fun (s : (List trellislaw15_Made) × (List api_Node) × Int × Int) o => trellislaw15_made_b1 x46 x1 s.1 s.2.1 s.2.2.1 s.2.2.2 o) s r → (fun (s : (List trellislaw15_Made) × (List api_Node) × Int × Int) => ∀ (A639 : Option Addr) (n640 : Nat) (c641 : Nat) (h642 : Ow w.heap.size A639 n640 c641 s.1) (cs643 : List Value) (sw644 : World) (sb645 : List (List Nat)) (hC646 : Cells k_trellislaw15_Made (Sm w.heap.size F sw644 sb645).w (Sm w.heap.size F sw644 sb645).av s.1 cs643) (A648 : Option Addr) (n649 : Nat) (c650 : Nat) (h651 : Ow w.heap.size A648 n649 c650 s.2.1), G (trellislaw15_made_C w F r) [.code q36c14, .inLoop q36c14, .inBlock 0, .code q36c10] [(1, .slice A47 n48 c49), (2, .pointer (some ⟨gb51, 0, none⟩)), (7, .slice A639 n640 c641), (8, .slice A648 n649 c650), (9, .int .i64 s.2.2.1), (10, .int .i64 s.2.2.2)] [.own (.slice A639 n640 c641) 79 3 n640 cs643, .own (.slice A648 n649 c650) 39 7 n649 (s.2.1.flatMap enc_api_Node), .box gb51 58 [.string x1.name, .slice A2 n3 c4, .slice A6 n7 c8, .slice A10 n11 c12, .slice A14 n15 c16, .slice A18 n19 c20, .slice A22 n23 c24, .slice A26 n27 c28, .slice A30 n31 c32, .slice A34 n35 c36, .slice A38 n39 c40, .slice A42 n43 c44]] [Sm w.heap.size F sw644 sb645, Sm w.heap.size F w [], St w []]) s := by
  intro s hs
  refine Rounds.ind (mot := (fun (s : (List trellislaw15_Made) × (List api_Node) × Int × Int) => ∀ (A639 : Option Addr) (n640 : Nat) (c641 : Nat) (h642 : Ow w.heap.size A639 n640 c641 s.1) (cs643 : List Value) (sw644 : World) (sb645 : List (List Nat)) (hC646 : Cells k_trellislaw15_Made (Sm w.heap.size F sw644 sb645).w (Sm w.heap.size F sw644 sb645).av s.1 cs643) (A648 : Option Addr) (n649 : Nat) (c650 : Nat) (h651 : Ow w.heap.size A648 n649 c650 s.2.1), G (trellislaw15_made_C w F r) [.code q36c14, .inLoop q36c14, .inBlock 0, .code q36c10] [(1, .slice A47 n48 c49), (2, .pointer (some ⟨gb51, 0, none⟩)), (7, .slice A639 n640 c641), (8, .slice A648 n649 c650), (9, .int .i64 s.2.2.1), (10, .int .i64 s.2.2.2)] [.own (.slice A639 n640 c641) 79 3 n640 cs643, .own (.slice A648 n649 c650) 39 7 n649 (s.2.1.flatMap enc_api_Node), .box gb51 58 [.string x1.name, .slice A2 n3 c4, .slice A6 n7 c8, .slice A10 n11 c12, .slice A14 n15 c16, .slice A18 n19 c20, .slice A22 n23 c24, .slice A26 n27 c28, .slice A30 n31 c32, .slice A34 n35 c36, .slice A38 n39 c40, .slice A42 n43 c44]] [Sm w.heap.size F sw644 sb645, Sm w.heap.size F w [], St w []])) ?_ hs
  clear hs s
  intro s o1 h hO1
  obtain ⟨x638, x647, x652, x653⟩ := s
  show ∀ (A639 : Option Addr) (n640 : Nat) (c641 : Nat) (h642 : Ow w.heap.size A639 n640 c641 x638) (cs643 : List Value) (sw644 : World) (sb645 : List (List Nat)) (hC646 : Cells k_trellislaw15_Made (Sm w.heap.size F sw644 sb645).w (Sm w.heap.size F sw644 sb645).av x638 cs643) (A648 : Option Addr) (n649 : Nat) (c650 : Nat) (h651 : Ow w.heap.size A648 n649 c650 x647), G (trellislaw15_made_C w F r) [.code q36c14, .inLoop q36c14, .inBlock 0, .code q36c10] [(1, .slice A47 n48 c49), (2, .pointer (some ⟨gb51, 0, none⟩)), (7, .slice A639 n640 c641), (8, .slice A648 n649 c650), (9, .int .i64 x652), (10, .int .i64 x653)] [.own (.slice A639 n640 c641) 79 3 n640 cs643, .own (.slice A648 n649 c650) 39 7 n649 (x647.flatMap enc_api_Node), .box gb51 58 [.string x1.name, .slice A2 n3 c4, .slice A6 n7 c8, .slice A10 n11 c12, .slice A14 n15 c16, .slice A18 n19 c20, .slice A22 n23 c24, .slice A26 n27 c28, .slice A30 n31 c32, .slice A34 n35 c36, .slice A38 n39 c40, .slice A42 n43 c44]] [Sm w.heap.size F sw644 sb645, Sm w.heap.size F w [], St w []]
  intro A639 n640 c641 h642 cs643 sw644 sb645 hC646 A648 n649 c650 h651
  have h : trellislaw15_made_b1 x46 x1 x638 x647 x652 x653 o1 := h
  unfold trellislaw15_made_b1 at h
  refine g_seq (c := q36c14) rfl ?_
  refine g_seq (c := q36c15) rfl ?_
  have j2 : ∀ (x2202 : Bool) (h : trellislaw15_made_j2 x653 x46 x638 x647 x652 x1 x2202 o1) , G (trellislaw15_made_C w F r) [.code q36c18, .code q36c16, .inLoop q36c14, .inBlock 0, .code q36c10] [(1, .slice A47 n48 c49), (2, .pointer (some ⟨gb51, 0, none⟩)), (7, .slice A639 n640 c641), (8, .slice A648 n649 c650), (9, .int .i64 x652), (10, .int .i64 x653), (31, .bool x2202)] [.own (.slice A639 n640 c641) 79 3 n640 cs643, .own (.slice A648 n649 c650) 39 7 n649 (x647.flatMap enc_api_Node), .box gb51 58 [.string x1.name, .slice A2 n3 c4, .slice A6 n7 c8, .slice A10 n11 c12, .slice A14 n15 c16, .slice A18 n19 c20, .slice A22 n23 c24, .slice A26 n27 c28, .slice A30 n31 c32, .slice A34 n35 c36, .slice A38 n39 c40, .slice A42 n43 c44]] [Sm w.heap.size F sw644 sb645, Sm w.heap.size F w [], St w []] := by
   intro x2202 h
   unfold trellislaw15_made_j2 at h
   by_cases hp2203 : x2202 = true
   ·have h := if_pos' hp2203 h
    refine g_true (c := q36c18) rfl _ rfl (hp2203) ?_
    refine g_skip (c := q36c19) rfl ?_
    refine g_seq (c := q36c16) rfl ?_
    refine g_block (c := q36c21) rfl ?_
    refine g_seq (c := q36c23) rfl ?_
    refine g_region (c := q36c24) rfl rfl ?_
    refine wl_v 0 rfl (v_move rfl) gn rfl ?_
    refine wl_v 1 rfl (v_move rfl) gn rfl ?_
    obtain ⟨hb2204, h⟩ := h
    have hr2205 := Rw.readF (s := St w []) (hl := hl_trellislaw15_Op) (h1 := h1_trellislaw15_Op) h50 hb2204
    refine wl_v 2 rfl (v_idxR (s := St w []) slE_71 rfl rfl h50 hb2204) gn rfl ?_
    refine wl_v 3 rfl (v_ldA (St w []) ld_115 rfl hr2205 rfl (me 2 rfl)) gn rfl ?_
    refine wl_s 4 rfl (s_alloc [.int .i64 0, .int .i64 0, .int .i64 0] zr_115 rfl fun gb2206 => ?_) gn
    refine wl_s 5 rfl (s_stB (vs := [.int .i64 ((ix x46 x653).n), .int .i64 ((ix x46 x653).pad), .int .i64 ((ix x46 x653).len)]) (cs' := [.int .i64 ((ix x46 x653).n), .int .i64 ((ix x46 x653).pad), .int .i64 ((ix x46 x653).len)]) (M' := [.box gb2206 115 [.int .i64 ((ix x46 x653).n), .int .i64 ((ix x46 x653).pad), .int .i64 ((ix x46 x653).len)], .own (.slice A639 n640 c641) 79 3 n640 cs643, .own (.slice A648 n649 c650) 39 7 n649 (x647.flatMap enc_api_Node), .box gb51 58 [.string x1.name, .slice A2 n3 c4, .slice A6 n7 c8, .slice A10 n11 c12, .slice A14 n15 c16, .slice A18 n19 c20, .slice A22 n23 c24, .slice A26 n27 c28, .slice A30 n31 c32, .slice A34 n35 c36, .slice A38 n39 c40, .slice A42 n43 c44]]) 0 sz_115 rfl rfl rfl rfl rfl rfl rfl rfl rfl ?_) gn
    refine w_end 6 rfl ?_
    refine g_seq (c := q36c25) rfl ?_
    refine g_seq (c := q36c26) rfl ?_
    refine g_region (c := q36c28) rfl rfl ?_
    refine wl_v 0 rfl (v_fldB fo_115_0 rfl) gn rfl ?_
    refine wl_v 1 rfl (v_ldB1 0 ld_3 rfl rfl rfl) gn rfl ?_
    refine wl_v 2 rfl (v_bin rfl rfl rfl) gn rfl ?_
    refine w_end 3 rfl ?_
    by_cases hp2208 : (ix x46 x653).n < 0
    ·have h := if_pos' hp2208 h
     refine g_true (c := q36c29) rfl _ rfl ((decide_eq_true hp2208)) ?_
     refine g_seq (c := q36c30) rfl ?_
     refine g_region (c := q36c32) rfl rfl ?_
     refine wl_v 0 rfl (v_fldB fo_115_0 rfl) gn rfl ?_
     refine wl_v 1 rfl (v_ldB1 0 ld_3 rfl rfl rfl) gn rfl ?_
     refine wl_v 2 rfl (v_bin rfl rfl rfl) gn rfl ?_
     refine wl_v 3 rfl (v_neg rfl) gn rfl ?_
     refine wl_v 4 rfl (v_bin rfl rfl rfl) gn rfl ?_
     refine wl_v 5 rfl (v_assign rfl) gn rfl ?_
     refine w_end 6 rfl ?_
     refine g_seq (c := q36c33) rfl ?_
     refine g_seq (c := q36c34) rfl ?_
     have j3 : ∀ (x2215 : Bool) (h : trellislaw15_made_j3 x638 x647 x652 x653 x1 x46 x2215 o1) , G (trellislaw15_made_C w F r) [.code q36c37, .code q36c35, .code q36c27, .inBlock 1, .code q36c22, .inLoop q36c14, .inBlock 0, .code q36c10] [(1, .slice A47 n48 c49), (2, .pointer (some ⟨gb51, 0, none⟩)), (7, .slice A639 n640 c641), (8, .slice A648 n649 c650), (9, .int .i64 x652), (10, .int .i64 x653), (11, .pointer (some ⟨gb2206, 0, none⟩)), (12, .int .i64 (w64 ((w64 (0 - (w64 (((ix x46 x653).n) + 1)))) + 1))), (75, .bool x2215)] [.box gb2206 115 [.int .i64 ((ix x46 x653).n), .int .i64 ((ix x46 x653).pad), .int .i64 ((ix x46 x653).len)], .own (.slice A639 n640 c641) 79 3 n640 cs643, .own (.slice A648 n649 c650) 39 7 n649 (x647.flatMap enc_api_Node), .box gb51 58 [.string x1.name, .slice A2 n3 c4, .slice A6 n7 c8, .slice A10 n11 c12, .slice A14 n15 c16, .slice A18 n19 c20, .slice A22 n23 c24, .slice A26 n27 c28, .slice A30 n31 c32, .slice A34 n35 c36, .slice A38 n39 c40, .slice A42 n43 c44]] [Sm w.heap.size F sw644 sb645, Sm w.heap.size F w [], St w []] := by
      intro x2215 h
      unfold trellislaw15_made_j3 at h
      by_cases hp2216 : x2215 = true
      ·have h := if_pos' hp2216 h
       refine g_true (c := q36c37) rfl _ rfl (hp2216) ?_
       refine g_exit (c := q36c38) [.code q36c22, .inLoop q36c14, .inBlock 0, .code q36c10] rfl rfl ?_
       refine g_region (c := q36c22) rfl rfl ?_
       refine wl_v 0 rfl (v_move rfl) gn rfl ?_
       refine wl_v 1 rfl (v_bin rfl rfl rfl) gn rfl ?_
       refine wl_v 2 rfl (v_assign rfl) gn rfl ?_
       refine w_end 3 rfl ?_
       refine g_inLoop ?_
       have ih := Out.inl hO1 h
       exact g_go [0, 1, 2] (ih A639 n640 c641 h642 cs643 sw644 sb645 hC646 A648 n649 c650 h651) ⟨rfl, rfl, rfl, rfl, rfl, rfl, trivial⟩ (.cons _ (.cons_cons _ (.cons_cons _ (.cons_cons _ (.slnil))))) rfl
      ·have h := if_neg' hp2216 h
       refine g_false (c := q36c37) rfl _ rfl ((bf hp2216)) ?_
       refine g_skip (c := q36c39) rfl ?_
       refine g_seq (c := q36c35) rfl ?_
       refine g_region (c := q36c40) rfl rfl ?_
       refine wl_v 0 rfl (v_move rfl) gn rfl ?_
       refine wl_v 1 rfl (v_fldB fo_115_1 rfl) gn rfl ?_
       refine wl_v 2 rfl (v_ldB1 0 ld_3 rfl rfl rfl) gn rfl ?_
       refine wl_v 3 rfl (v_bin rfl rfl rfl) gn rfl ?_
       refine wl_v 4 rfl (v_assign rfl) gn rfl ?_
       refine w_end 5 rfl ?_
       refine g_seq (c := q36c41) rfl ?_
       refine g_region (c := q36c42) rfl rfl ?_
       refine wl_v 0 rfl (v_move rfl) gn rfl ?_
       refine wl_v 1 rfl (v_fldB fo_115_2 rfl) gn rfl ?_
       refine wl_v 2 rfl (v_ldB1 0 ld_3 rfl rfl rfl) gn rfl ?_
       refine wl_v 3 rfl (v_bin rfl rfl rfl) gn rfl ?_
       refine wl_v 4 rfl (v_assign rfl) gn rfl ?_
       refine w_end 5 rfl ?_
       refine g_seq (c := q36c43) rfl ?_
       refine g_region (c := q36c44) rfl rfl ?_
       refine wl_v 0 rfl (v_ldB [.string x1.name, .slice A2 n3 c4, .slice A6 n7 c8, .slice A10 n11 c12, .slice A14 n15 c16, .slice A18 n19 c20, .slice A22 n23 c24, .slice A26 n27 c28, .slice A30 n31 c32, .slice A34 n35 c36, .slice A38 n39 c40, .slice A42 n43 c44] 3 ld_58 rfl rfl rfl rfl) gn rfl ?_
       refine wl_v 1 rfl (v_move rfl) gn rfl ?_
       refine wl_v 2 rfl (v_move rfl) gn rfl ?_
       refine wl_v 3 rfl (v_lenQ un_22 rfl h651.hq) gn rfl ?_
       refine wl_v 4 rfl (v_move rfl) gn rfl ?_
       refine wl_v 5 rfl (v_move rfl) gn rfl ?_
       obtain ⟨r2220, hv2221, h⟩ := h
       refine wl_s 6 rfl (s_call [.agg #[.string x1.name, .slice A2 n3 c4, .slice A6 n7 c8, .slice A10 n11 c12, .slice A14 n15 c16, .slice A18 n19 c20, .slice A22 n23 c24, .slice A26 n27 c28, .slice A30 n31 c32, .slice A34 n35 c36, .slice A38 n39 c40, .slice A42 n43 c44], .int .i64 (w64 ((w64 (0 - (w64 (((ix x46 x653).n) + 1)))) + 1)), .int .i64 (x647.length : Int), .int .i64 (w64 (x652 + ((ix x46 x653).pad))), .int .i64 (w64 ((w64 (x652 + ((ix x46 x653).pad))) + ((ix x46 x653).len)))] rfl Try.func25 rfl rfl rfl fun w2217 hL2218 => ?_) gn
       have hp2219 : List.Perm ([.box gb2206 115 [.int .i64 ((ix x46 x653).n), .int .i64 ((ix x46 x653).pad), .int .i64 ((ix x46 x653).len)], .own (.slice A639 n640 c641) 79 3 n640 cs643, .own (.slice A648 n649 c650) 39 7 n649 (x647.flatMap enc_api_Node), .box gb51 58 [.string x1.name, .slice A2 n3 c4, .slice A6 n7 c8, .slice A10 n11 c12, .slice A14 n15 c16, .slice A18 n19 c20, .slice A22 n23 c24, .slice A26 n27 c28, .slice A30 n31 c32, .slice A34 n35 c36, .slice A38 n39 c40, .slice A42 n43 c44]] : List Ent) (([] : List Ent) ++ ([.box gb2206 115 [.int .i64 ((ix x46 x653).n), .int .i64 ((ix x46 x653).pad), .int .i64 ((ix x46 x653).len)], .own (.slice A639 n640 c641) 79 3 n640 cs643, .own (.slice A648 n649 c650) 39 7 n649 (x647.flatMap enc_api_Node), .box gb51 58 [.string x1.name, .slice A2 n3 c4, .slice A6 n7 c8, .slice A10 n11 c12, .slice A14 n15 c16, .slice A18 n19 c20, .slice A22 n23 c24, .slice A26 n27 c28, .slice A30 n31 c32, .slice A34 n35 c36, .slice A38 n39 c40, .slice A42 n43 c44]] : List Ent)) := perm_of_idx [] [0, 1, 2, 3] rfl rfl (by kernel_rfl)
       refine Calls.mono (tree_Token_calls w2217 (Fl ([] : List Snap)) x1 (w64 ((w64 (0 - (w64 (((ix x46 x653).n) + 1)))) + 1)) (x647.length : Int) (w64 (x652 + ((ix x46 x653).pad))) (w64 ((w64 (x652 + ((ix x46 x653).pad))) + ((ix x46 x653).len))) A2 n3 c4 A6 n7 c8 A10 n11 c12 A14 n15 c16 A18 n19 c20 A22 n23 c24 A26 n27 c28 A30 n31 c32 A34 n35 c36 A38 n39 c40 A42 n43 c44 (Rw.mono h5 (hL2218.toSt hp2219 (me 2 rfl))) (Rw.mono h9 (hL2218.toSt hp2219 (me 2 rfl))) (Rw.mono h13 (hL2218.toSt hp2219 (me 2 rfl))) (Rw.mono h17 (hL2218.toSt hp2219 (me 2 rfl))) (Rw.mono h21 (hL2218.toSt hp2219 (me 2 rfl))) (Rw.mono h25 (hL2218.toSt hp2219 (me 2 rfl))) (Rw.mono h29 (hL2218.toSt hp2219 (me 2 rfl))) (Rw.mono h33 (hL2218.toSt hp2219 (me 2 rfl))) (Rw.mono h37 (hL2218.toSt hp2219 (me 2 rfl))) (Rw.mono h41 (hL2218.toSt hp2219 (me 2 rfl))) (Rw.mono h45 (hL2218.toSt hp2219 (me 2 rfl))) (hL2218.hFl (Sl := ([] : List Snap)) hp2219 (sels [] rfl)) (hL2218.into hp2219 (Fl ([] : List Snap))) r2220 hv2221) ?_
       rintro _ w2227 ⟨A2222, n2223, c2224, rfl, hM2228, h2225⟩
       have hL2229 := hL2218.call hp2219 hM2228
       refine ⟨_, _, _, rfl, hL2229, ?_⟩
       refine wl_v 7 rfl (v_assign rfl) gn rfl ?_
       refine w_end 8 rfl ?_
       refine g_seq (c := q36c45) rfl ?_
       refine g_seq (c := q36c46) rfl ?_
       refine g_region (c := q36c48) rfl rfl ?_
       refine wl_v 0 rfl (v_move rfl) gn rfl ?_
       refine wl_v 1 rfl (v_lenQ un_22 rfl (Ow.weak hL2218.env.size h2225).hq) gn rfl ?_
       refine wl_v 2 rfl (v_bin rfl rfl rfl) gn rfl ?_
       refine w_end 3 rfl ?_
       by_cases hp2230 : (r2220.length : Int) = 1
       ·have h := if_pos' hp2230 h
        refine g_false (c := q36c49) rfl _ rfl ((eqib hp2230)) ?_
        refine g_skip (c := q36c51) rfl ?_
        refine g_seq (c := q36c47) rfl ?_
        refine g_region (c := q36c52) rfl rfl ?_
        refine wl_v 0 rfl (v_move rfl) gn rfl ?_
        refine wl_v 1 rfl (v_move rfl) gn rfl ?_
        obtain ⟨hb2231, h⟩ := h
        refine wl_v 2 rfl (v_idxO slE_22 rfl rfl (Ow.weak hL2218.env.size h2225) hb2231) gn rfl ?_
        refine wl_v 3 rfl (v_ldO [.string ((ix r2220 0).name), .bool ((ix r2220 0).named), .string ((ix r2220 0).field), .int .i64 ((ix r2220 0).from_), .int .i64 ((ix r2220 0).to), .int .i64 ((ix r2220 0).kids), .int .i64 ((ix r2220 0).leaf)] 0 ld_39 rfl rfl (fm_one hl_api_Node hb2231) rfl) gn rfl ?_
        refine wl_s 4 rfl (s_litO (xs := ([ix r2220 0] : List api_Node)) [.string ((ix r2220 0).name), .bool ((ix r2220 0).named), .string ((ix r2220 0).field), .int .i64 ((ix r2220 0).from_), .int .i64 ((ix r2220 0).to), .int .i64 ((ix r2220 0).kids), .int .i64 ((ix r2220 0).leaf)] bs_22_1 rfl (by kernel_rfl) rfl rfl rfl rfl fun gb2233 h2234 => ?_) gn
        obtain ⟨x2238, hv2239, h⟩ := h
        obtain ⟨hb2240, h⟩ := h
        refine wl_s 5 rfl (s_app (zs := x2238) (cells' := x2238.flatMap enc_api_Node) 4 ap_22 rfl rfl rfl h651 (Nat.le_refl _) (Src.ownF (hl := hl_api_Node) (h1 := h1_api_Node) 0 rfl h2234) (by rw [hv2239, List.flatMap_append] <;> rfl) (app_len hv2239 h2234.hq) hb2240 rfl rfl fun A2235 c2236 h2237 => ?_) gn
        refine wl_v 6 rfl (v_assign rfl) gn rfl ?_
        refine w_end 7 rfl ?_
        refine g_seq (c := q36c53) rfl ?_
        refine g_region (c := q36c54) rfl rfl ?_
        refine wl_v 0 rfl (v_move rfl) gn rfl ?_
        refine wl_v 1 rfl (v_move rfl) gn rfl ?_
        refine wl_v 2 rfl (v_move rfl) gn rfl ?_
        refine wl_v 3 rfl (v_move rfl) gn rfl ?_
        refine wl_v 4 rfl (v_build #[.int .i64 (w64 ((w64 (0 - (w64 (((ix x46 x653).n) + 1)))) + 1)), .slice A2222 n2223 c2224, .int .i64 (w64 ((w64 (x652 + ((ix x46 x653).pad))) + ((ix x46 x653).len)))] bd_79 rfl (by kernel_rfl)) gn rfl ?_
        refine w_freeze (F := F) (dk := k_api_Node) (Sm w.heap.size F w []) 1 rfl (Ow.weak hL2218.env.size h2225) (me 1 rfl) Sm.ok (Cells.flat _) fun sw2242 sb2243 h2241 => ?_
        have hC2245 : Cells k_trellislaw15_Made (Sm w.heap.size F sw2242 sb2243).w (Sm w.heap.size F sw2242 sb2243).av ([(⟨w64 ((w64 (0 - (w64 (((ix x46 x653).n) + 1)))) + 1), r2220, w64 ((w64 (x652 + ((ix x46 x653).pad))) + ((ix x46 x653).len))⟩ : trellislaw15_Made)] : List trellislaw15_Made) [.int .i64 (w64 ((w64 (0 - (w64 (((ix x46 x653).n) + 1)))) + 1)), .slice A2222 n2223 c2224, .int .i64 (w64 ((w64 (x652 + ((ix x46 x653).pad))) + ((ix x46 x653).len)))] := (Cells.cons (c1 := [.int .i64 (w64 ((w64 (0 - (w64 (((ix x46 x653).n) + 1)))) + 1)), .slice A2222 n2223 c2224, .int .i64 (w64 ((w64 (x652 + ((ix x46 x653).pad))) + ((ix x46 x653).len)))]) ⟨A2222, n2223, c2224, rfl, h2241⟩ Cells.nil)
        refine wl_s 5 rfl (s_litO (xs := ([(⟨w64 ((w64 (0 - (w64 (((ix x46 x653).n) + 1)))) + 1), r2220, w64 ((w64 (x652 + ((ix x46 x653).pad))) + ((ix x46 x653).len))⟩ : trellislaw15_Made)] : List trellislaw15_Made)) [.int .i64 (w64 ((w64 (0 - (w64 (((ix x46 x653).n) + 1)))) + 1)), .slice A2222 n2223 c2224, .int .i64 (w64 ((w64 (x652 + ((ix x46 x653).pad))) + ((ix x46 x653).len)))] bs_75_1 rfl (by kernel_rfl) rfl rfl rfl rfl fun gb2246 h2247 => ?_) gn
        obtain ⟨x2254, hv2255, h⟩ := h
        obtain ⟨hb2256, h⟩ := h
        refine w_mark (F := F) fun sw2251 sb2252 ho2253 => ?_
        obtain ⟨cs2257, hc2258⟩ : ∃ x : List Value, x = cs643 ++ [.int .i64 (w64 ((w64 (0 - (w64 (((ix x46 x653).n) + 1)))) + 1)), .slice A2222 n2223 c2224, .int .i64 (w64 ((w64 (x652 + ((ix x46 x653).pad))) + ((ix x46 x653).len)))] := ⟨_, rfl⟩
        have hC2259 : Cells k_trellislaw15_Made (Sm w.heap.size F sw2251 sb2252).w (Sm w.heap.size F sw2251 sb2252).av x2254 cs2257 := by rw [hv2255, hc2258]; exact Cells.app (Cells.older (s := Sm w.heap.size F sw644 sb645) hC646 (ho2253 _ (me 1 rfl) Sm.ok)) (Cells.older (s := Sm w.heap.size F sw2242 sb2243) hC2245 (ho2253 _ (me 0 rfl) Sm.ok))
        refine wl_s 6 rfl (s_app (zs := x2254) 3 ap_75 rfl rfl rfl h642 (Nat.le_refl _) (Src.ownAll 0 rfl h2247 hC2245) hc2258.symm (app_len hv2255 h2247.hq) hb2256 rfl rfl fun A2248 c2249 h2250 => ?_) gn
        refine wl_v 7 rfl (v_assign rfl) gn rfl ?_
        refine w_end 8 rfl ?_
        refine g_exit (c := q36c55) [.code q36c22, .inLoop q36c14, .inBlock 0, .code q36c10] rfl rfl ?_
        refine g_region (c := q36c22) rfl rfl ?_
        refine wl_v 0 rfl (v_move rfl) gn rfl ?_
        refine wl_v 1 rfl (v_bin rfl rfl rfl) gn rfl ?_
        refine wl_v 2 rfl (v_assign rfl) gn rfl ?_
        refine w_end 3 rfl ?_
        refine g_inLoop ?_
        have ih := Out.inl hO1 h
        exact g_go [0, 3, 4] (ih A2248 (n640 + 1) c2249 h2250 cs2257 sw2251 sb2252 hC2259 A2235 (n649 + 1) c2236 h2237) ⟨rfl, rfl, rfl, rfl, rfl, rfl, trivial⟩ (.cons _ (.cons _ (.cons _ (.cons_cons _ (.cons_cons _ (.cons_cons _ (.slnil))))))) rfl
       ·have h := if_neg' hp2230 h
        refine g_true (c := q36c49) rfl _ rfl ((neib hp2230)) ?_
        refine g_seq (c := q36c50) rfl ?_
        refine g_region (c := q36c56) rfl rfl ?_
        refine wl_v 0 rfl (v_assign rfl) gn rfl ?_
        refine wl_v 1 rfl (v_assign rfl) gn rfl ?_
        refine wl_v 2 rfl (v_assign rfl) gn rfl ?_
        refine w_end 3 rfl ?_
        refine g_nil 79 3 ?_
        refine g_nil 39 7 ?_
        have h := Out.inr hO1 h
        refine g_retR (c := q36c57) [.slice none 0 0, .slice none 0 0, .bool false] rfl Try.func36 rfl (.tmp rfl (.tmp rfl (.tmp rfl (.nil)))) fun wr hLr => ?_
        have hMr : B.Loc w wr [.own (.slice none 0 0) 79 3 0 [], .own (.slice none 0 0) 39 7 0 (([] : List api_Node).flatMap enc_api_Node)] [St w []] := hLr.pick (rest := [.own (.slice A2222 n2223 c2224) 39 7 n2223 (r2220.flatMap enc_api_Node), .box gb2206 115 [.int .i64 ((ix x46 x653).n), .int .i64 ((ix x46 x653).pad), .int .i64 ((ix x46 x653).len)], .own (.slice A639 n640 c641) 79 3 n640 cs643, .own (.slice A648 n649 c650) 39 7 n649 (x647.flatMap enc_api_Node), .box gb51 58 [.string x1.name, .slice A2 n3 c4, .slice A6 n7 c8, .slice A10 n11 c12, .slice A14 n15 c16, .slice A18 n19 c20, .slice A22 n23 c24, .slice A26 n27 c28, .slice A30 n31 c32, .slice A34 n35 c36, .slice A38 n39 c40, .slice A42 n43 c44]]) (perm_of_idx [1, 0] [2, 3, 4, 5, 6] rfl rfl (by kernel_rfl)) (sels [2] rfl)
        have hMi : ∀ e ∈ ([.own (.slice none 0 0) 79 3 0 [], .own (.slice none 0 0) 39 7 0 (([] : List api_Node).flatMap enc_api_Node)] : List Ent), e ∈ ([.own (.slice none 0 0) 39 7 0 (([] : List api_Node).flatMap enc_api_Node), .own (.slice none 0 0) 79 3 0 [], .own (.slice A2222 n2223 c2224) 39 7 n2223 (r2220.flatMap enc_api_Node), .box gb2206 115 [.int .i64 ((ix x46 x653).n), .int .i64 ((ix x46 x653).pad), .int .i64 ((ix x46 x653).len)], .own (.slice A639 n640 c641) 79 3 n640 cs643, .own (.slice A648 n649 c650) 39 7 n649 (x647.flatMap enc_api_Node), .box gb51 58 [.string x1.name, .slice A2 n3 c4, .slice A6 n7 c8, .slice A10 n11 c12, .slice A14 n15 c16, .slice A18 n19 c20, .slice A22 n23 c24, .slice A26 n27 c28, .slice A30 n31 c32, .slice A34 n35 c36, .slice A38 n39 c40, .slice A42 n43 c44]] : List Ent) := sels [1, 0] rfl
        show trellislaw15_made_R w F  r (.returned (packV [.slice none 0 0, .slice none 0 0, .bool false])) wr
        rw [h]
        exact ⟨none, 0, 0, [], none, 0, 0, rfl, hMr, (Ow.nil (z := w.heap.size)), (hLr.outC (s := Sm w.heap.size F w []) hMi (me 1 rfl) Sm.ok Cells.nil), (Ow.nil (z := w.heap.size))⟩
     refine g_region (c := q36c36) rfl rfl ?_
     refine wl_v 0 rfl (v_move rfl) gn rfl ?_
     refine wl_v 1 rfl (v_bin rfl rfl rfl) gn rfl ?_
     refine wl_v 2 rfl (v_move rfl) gn rfl ?_
     by_cases hp2260 : w64 ((w64 (0 - (w64 (((ix x46 x653).n) + 1)))) + 1) < 1
     ·have h := if_pos' hp2260 h
      refine w_bool 48 rfl ((decide_eq_true hp2260)) ?_
      refine wl_pass 3 rfl (ps 48 rfl rfl rfl) ?_
      refine wl_pass 4 rfl (ps 48 rfl rfl rfl) ?_
      refine wl_pass 5 rfl (ps 48 rfl rfl rfl) ?_
      refine wl_pass 6 rfl (ps 48 rfl rfl rfl) ?_
      refine wl_pass 7 rfl (ps 48 rfl rfl rfl) ?_
      refine wl_pass 8 rfl (ps 48 rfl rfl rfl) ?_
      refine wl_v 9 rfl (v_pick (b := true) rfl rfl) gn rfl ?_
      refine wl_v 10 rfl (v_move rfl) gn rfl ?_
      refine wl_pass 11 rfl (ps 56 rfl rfl rfl) ?_
      refine wl_pass 12 rfl (ps 56 rfl rfl rfl) ?_
      refine wl_pass 13 rfl (ps 56 rfl rfl rfl) ?_
      refine wl_v 14 rfl (v_pick (b := true) rfl rfl) gn rfl ?_
      refine wl_v 15 rfl (v_move rfl) gn rfl ?_
      refine wl_pass 16 rfl (ps 61 rfl rfl rfl) ?_
      refine wl_pass 17 rfl (ps 61 rfl rfl rfl) ?_
      refine wl_pass 18 rfl (ps 61 rfl rfl rfl) ?_
      refine wl_v 19 rfl (v_pick (b := true) rfl rfl) gn rfl ?_
      refine wl_v 20 rfl (v_move rfl) gn rfl ?_
      refine wl_pass 21 rfl (ps 66 rfl rfl rfl) ?_
      refine wl_pass 22 rfl (ps 66 rfl rfl rfl) ?_
      refine wl_pass 23 rfl (ps 66 rfl rfl rfl) ?_
      refine wl_v 24 rfl (v_pick (b := true) rfl rfl) gn rfl ?_
      refine wl_v 25 rfl (v_move rfl) gn rfl ?_
      refine wl_pass 26 rfl (ps 71 rfl rfl rfl) ?_
      refine wl_pass 27 rfl (ps 71 rfl rfl rfl) ?_
      refine wl_pass 28 rfl (ps 71 rfl rfl rfl) ?_
      refine wl_v 29 rfl (v_pick (b := true) rfl rfl) gn rfl ?_
      refine w_end 30 rfl ?_
      exact g_go [0, 1, 2] (j3 true h) ⟨rfl, rfl, rfl, rfl, rfl, rfl, rfl, rfl, rfl, trivial⟩ (.cons_cons _ (.cons_cons _ (.cons_cons _ (.cons_cons _ (.slnil))))) rfl
     ·have h := if_neg' hp2260 h
      refine w_bool 48 rfl ((decide_eq_false hp2260)) ?_
      refine wl_v 3 rfl (v_move rfl) (gy 48 rfl rfl) rfl ?_
      refine wl_v 4 rfl (v_fldB fo_58_2 rfl) (gy 48 rfl rfl) rfl ?_
      refine wl_v 5 rfl (v_fldB fo_47_0 rfl) (gy 48 rfl rfl) rfl ?_
      refine wl_v 6 rfl (v_ldB1 3 ld_43 rfl rfl rfl) (gy 48 rfl rfl) rfl ?_
      refine wl_v 7 rfl (v_lenQ un_43 rfl h9.hq) (gy 48 rfl rfl) rfl ?_
      refine wl_v 8 rfl (v_bin rfl rfl rfl) (gy 48 rfl rfl) rfl ?_
      refine wl_v 9 rfl (v_pick (b := false) rfl rfl) gn rfl ?_
      refine wl_v 10 rfl (v_move rfl) gn rfl ?_
      by_cases hp2261 : w64 ((w64 (0 - (w64 (((ix x46 x653).n) + 1)))) + 1) ≥ (x1.gram.terms.length : Int)
      ·have h := if_pos' hp2261 h
       refine w_bool 56 rfl ((decide_eq_true hp2261)) ?_
       refine wl_pass 11 rfl (ps 56 rfl rfl rfl) ?_
       refine wl_pass 12 rfl (ps 56 rfl rfl rfl) ?_
       refine wl_pass 13 rfl (ps 56 rfl rfl rfl) ?_
       refine wl_v 14 rfl (v_pick (b := true) rfl rfl) gn rfl ?_
       refine wl_v 15 rfl (v_move rfl) gn rfl ?_
       refine wl_pass 16 rfl (ps 61 rfl rfl rfl) ?_
       refine wl_pass 17 rfl (ps 61 rfl rfl rfl) ?_
       refine wl_pass 18 rfl (ps 61 rfl rfl rfl) ?_
       refine wl_v 19 rfl (v_pick (b := true) rfl rfl) gn rfl ?_
       refine wl_v 20 rfl (v_move rfl) gn rfl ?_
       refine wl_pass 21 rfl (ps 66 rfl rfl rfl) ?_
       refine wl_pass 22 rfl (ps 66 rfl rfl rfl) ?_
       refine wl_pass 23 rfl (ps 66 rfl rfl rfl) ?_
       refine wl_v 24 rfl (v_pick (b := true) rfl rfl) gn rfl ?_
       refine wl_v 25 rfl (v_move rfl) gn rfl ?_
       refine wl_pass 26 rfl (ps 71 rfl rfl rfl) ?_
       refine wl_pass 27 rfl (ps 71 rfl rfl rfl) ?_
       refine wl_pass 28 rfl (ps 71 rfl rfl rfl) ?_
       refine wl_v 29 rfl (v_pick (b := true) rfl rfl) gn rfl ?_
       refine w_end 30 rfl ?_
       exact g_go [0, 1, 2] (j3 true h) ⟨rfl, rfl, rfl, rfl, rfl, rfl, rfl, rfl, rfl, trivial⟩ (.cons_cons _ (.cons_cons _ (.cons_cons _ (.cons_cons _ (.slnil))))) rfl
      ·have h := if_neg' hp2261 h
       refine w_bool 56 rfl ((decide_eq_false hp2261)) ?_
       refine wl_v 11 rfl (v_fldB fo_115_1 rfl) (gy 56 rfl rfl) rfl ?_
       refine wl_v 12 rfl (v_ldB1 0 ld_3 rfl rfl rfl) (gy 56 rfl rfl) rfl ?_
       refine wl_v 13 rfl (v_bin rfl rfl rfl) (gy 56 rfl rfl) rfl ?_
       refine wl_v 14 rfl (v_pick (b := false) rfl rfl) gn rfl ?_
       refine wl_v 15 rfl (v_move rfl) gn rfl ?_
       by_cases hp2262 : (ix x46 x653).pad < 0
       ·have h := if_pos' hp2262 h
        refine w_bool 61 rfl ((decide_eq_true hp2262)) ?_
        refine wl_pass 16 rfl (ps 61 rfl rfl rfl) ?_
        refine wl_pass 17 rfl (ps 61 rfl rfl rfl) ?_
        refine wl_pass 18 rfl (ps 61 rfl rfl rfl) ?_
        refine wl_v 19 rfl (v_pick (b := true) rfl rfl) gn rfl ?_
        refine wl_v 20 rfl (v_move rfl) gn rfl ?_
        refine wl_pass 21 rfl (ps 66 rfl rfl rfl) ?_
        refine wl_pass 22 rfl (ps 66 rfl rfl rfl) ?_
        refine wl_pass 23 rfl (ps 66 rfl rfl rfl) ?_
        refine wl_v 24 rfl (v_pick (b := true) rfl rfl) gn rfl ?_
        refine wl_v 25 rfl (v_move rfl) gn rfl ?_
        refine wl_pass 26 rfl (ps 71 rfl rfl rfl) ?_
        refine wl_pass 27 rfl (ps 71 rfl rfl rfl) ?_
        refine wl_pass 28 rfl (ps 71 rfl rfl rfl) ?_
        refine wl_v 29 rfl (v_pick (b := true) rfl rfl) gn rfl ?_
        refine w_end 30 rfl ?_
        exact g_go [0, 1, 2] (j3 true h) ⟨rfl, rfl, rfl, rfl, rfl, rfl, rfl, rfl, rfl, trivial⟩ (.cons_cons _ (.cons_cons _ (.cons_cons _ (.cons_cons _ (.slnil))))) rfl
       ·have h := if_neg' hp2262 h
        refine w_bool 61 rfl ((decide_eq_false hp2262)) ?_
        refine wl_v 16 rfl (v_fldB fo_115_1 rfl) (gy 61 rfl rfl) rfl ?_
        refine wl_v 17 rfl (v_ldB1 0 ld_3 rfl rfl rfl) (gy 61 rfl rfl) rfl ?_
        refine wl_v 18 rfl (v_bin rfl rfl rfl) (gy 61 rfl rfl) rfl ?_
        refine wl_v 19 rfl (v_pick (b := false) rfl rfl) gn rfl ?_
        refine wl_v 20 rfl (v_move rfl) gn rfl ?_
        by_cases hp2263 : (ix x46 x653).pad > 1048576
        ·have h := if_pos' hp2263 h
         refine w_bool 66 rfl ((decide_eq_true hp2263)) ?_
         refine wl_pass 21 rfl (ps 66 rfl rfl rfl) ?_
         refine wl_pass 22 rfl (ps 66 rfl rfl rfl) ?_
         refine wl_pass 23 rfl (ps 66 rfl rfl rfl) ?_
         refine wl_v 24 rfl (v_pick (b := true) rfl rfl) gn rfl ?_
         refine wl_v 25 rfl (v_move rfl) gn rfl ?_
         refine wl_pass 26 rfl (ps 71 rfl rfl rfl) ?_
         refine wl_pass 27 rfl (ps 71 rfl rfl rfl) ?_
         refine wl_pass 28 rfl (ps 71 rfl rfl rfl) ?_
         refine wl_v 29 rfl (v_pick (b := true) rfl rfl) gn rfl ?_
         refine w_end 30 rfl ?_
         exact g_go [0, 1, 2] (j3 true h) ⟨rfl, rfl, rfl, rfl, rfl, rfl, rfl, rfl, rfl, trivial⟩ (.cons_cons _ (.cons_cons _ (.cons_cons _ (.cons_cons _ (.slnil))))) rfl
        ·have h := if_neg' hp2263 h
         refine w_bool 66 rfl ((decide_eq_false hp2263)) ?_
         refine wl_v 21 rfl (v_fldB fo_115_2 rfl) (gy 66 rfl rfl) rfl ?_
         refine wl_v 22 rfl (v_ldB1 0 ld_3 rfl rfl rfl) (gy 66 rfl rfl) rfl ?_
         refine wl_v 23 rfl (v_bin rfl rfl rfl) (gy 66 rfl rfl) rfl ?_
         refine wl_v 24 rfl (v_pick (b := false) rfl rfl) gn rfl ?_
         refine wl_v 25 rfl (v_move rfl) gn rfl ?_
         by_cases hp2264 : (ix x46 x653).len < 0
         ·have h := if_pos' hp2264 h
          refine w_bool 71 rfl ((decide_eq_true hp2264)) ?_
          refine wl_pass 26 rfl (ps 71 rfl rfl rfl) ?_
          refine wl_pass 27 rfl (ps 71 rfl rfl rfl) ?_
          refine wl_pass 28 rfl (ps 71 rfl rfl rfl) ?_
          refine wl_v 29 rfl (v_pick (b := true) rfl rfl) gn rfl ?_
          refine w_end 30 rfl ?_
          exact g_go [0, 1, 2] (j3 true h) ⟨rfl, rfl, rfl, rfl, rfl, rfl, rfl, rfl, rfl, trivial⟩ (.cons_cons _ (.cons_cons _ (.cons_cons _ (.cons_cons _ (.slnil))))) rfl
         ·have h := if_neg' hp2264 h
          refine w_bool 71 rfl ((decide_eq_false hp2264)) ?_
          refine wl_v 26 rfl (v_fldB fo_115_2 rfl) (gy 71 rfl rfl) rfl ?_
          refine wl_v 27 rfl (v_ldB1 0 ld_3 rfl rfl rfl) (gy 71 rfl rfl) rfl ?_
          refine wl_v 28 rfl (v_bin rfl rfl rfl) (gy 71 rfl rfl) rfl ?_
          refine wl_v 29 rfl (v_pick (b := false) rfl rfl) gn rfl ?_
          refine w_end 30 rfl ?_
          exact g_go [0, 1, 2] (j3 (decide ((ix x46 x653).len > 1048576)) h) ⟨rfl, rfl, rfl, rfl, rfl, rfl, rfl, rfl, rfl, trivial⟩ (.cons_cons _ (.cons_cons _ (.cons_cons _ (.cons_cons _ (.slnil))))) rfl
    ·have h := if_neg' hp2208 h
     refine g_false (c := q36c29) rfl _ rfl ((decide_eq_false hp2208)) ?_
     refine g_skip (c := q36c31) rfl ?_
     refine g_seq (c := q36c27) rfl ?_
     refine g_seq (c := q36c58) rfl ?_
     have j4 : ∀ (x2275 : Bool) (h : trellislaw15_made_j4 x638 x647 x652 x653 x46 x1 x2275 o1) , G (trellislaw15_made_C w F r) [.code q36c61, .code q36c59, .inBlock 1, .code q36c22, .inLoop q36c14, .inBlock 0, .code q36c10] [(1, .slice A47 n48 c49), (2, .pointer (some ⟨gb51, 0, none⟩)), (7, .slice A639 n640 c641), (8, .slice A648 n649 c650), (9, .int .i64 x652), (10, .int .i64 x653), (11, .pointer (some ⟨gb2206, 0, none⟩)), (124, .bool x2275)] [.box gb2206 115 [.int .i64 ((ix x46 x653).n), .int .i64 ((ix x46 x653).pad), .int .i64 ((ix x46 x653).len)], .own (.slice A639 n640 c641) 79 3 n640 cs643, .own (.slice A648 n649 c650) 39 7 n649 (x647.flatMap enc_api_Node), .box gb51 58 [.string x1.name, .slice A2 n3 c4, .slice A6 n7 c8, .slice A10 n11 c12, .slice A14 n15 c16, .slice A18 n19 c20, .slice A22 n23 c24, .slice A26 n27 c28, .slice A30 n31 c32, .slice A34 n35 c36, .slice A38 n39 c40, .slice A42 n43 c44]] [Sm w.heap.size F sw644 sb645, Sm w.heap.size F w [], St w []] := by
      intro x2275 h
      unfold trellislaw15_made_j4 at h
      by_cases hp2276 : x2275 = true
      ·have h := if_pos' hp2276 h
       refine g_true (c := q36c61) rfl _ rfl (hp2276) ?_
       refine g_exit (c := q36c62) [.code q36c22, .inLoop q36c14, .inBlock 0, .code q36c10] rfl rfl ?_
       refine g_region (c := q36c22) rfl rfl ?_
       refine wl_v 0 rfl (v_move rfl) gn rfl ?_
       refine wl_v 1 rfl (v_bin rfl rfl rfl) gn rfl ?_
       refine wl_v 2 rfl (v_assign rfl) gn rfl ?_
       refine w_end 3 rfl ?_
       refine g_inLoop ?_
       have ih := Out.inl hO1 h
       exact g_go [0, 1, 2] (ih A639 n640 c641 h642 cs643 sw644 sb645 hC646 A648 n649 c650 h651) ⟨rfl, rfl, rfl, rfl, rfl, rfl, trivial⟩ (.cons _ (.cons_cons _ (.cons_cons _ (.cons_cons _ (.slnil))))) rfl
      ·have h := if_neg' hp2276 h
       refine g_false (c := q36c61) rfl _ rfl ((bf hp2276)) ?_
       refine g_skip (c := q36c63) rfl ?_
       refine g_seq (c := q36c59) rfl ?_
       refine g_region (c := q36c64) rfl rfl ?_
       refine wl_v 0 rfl (v_fldB fo_58_2 rfl) gn rfl ?_
       refine wl_v 1 rfl (v_fldB fo_47_2 rfl) gn rfl ?_
       refine wl_v 2 rfl (v_ldB1 3 ld_45 rfl rfl rfl) gn rfl ?_
       refine wl_v 3 rfl (v_fldB fo_115_0 rfl) gn rfl ?_
       refine wl_v 4 rfl (v_ldB1 0 ld_3 rfl rfl rfl) gn rfl ?_
       obtain ⟨hb2277, h⟩ := h
       obtain ⟨ce2279, hK2280, hr2278⟩ := Rw.read (s := St w []) h17 hb2277
       obtain ⟨A2281, n2282, c2283, rfl, h2284⟩ := hK2280
       refine wl_v 5 rfl (v_idxR (s := St w []) slE_45 rfl rfl h17 hb2277) gn rfl ?_
       refine wl_v 6 rfl (v_fldA fo_107_1 rfl) gn rfl ?_
       refine wl_v 7 rfl (v_ldA1 (kk := ((ix x46 x653).n : Int).toNat * 2) (j := 1) (St w []) ld_105 rfl hr2278 rfl (me 2 rfl)) gn rfl ?_
       refine wl_v 8 rfl (v_assign rfl) gn rfl ?_
       refine w_end 9 rfl ?_
       refine g_seq (c := q36c65) rfl ?_
       refine g_region (c := q36c66) rfl rfl ?_
       refine wl_v 0 rfl (v_move rfl) gn rfl ?_
       refine wl_v 1 rfl (v_lenQ un_75 rfl h642.hq) gn rfl ?_
       refine wl_v 2 rfl (v_move rfl) gn rfl ?_
       refine wl_v 3 rfl (v_lenQ un_105 rfl h2284.hq) gn rfl ?_
       refine wl_v 4 rfl (v_bin rfl rfl rfl) gn rfl ?_
       refine wl_v 5 rfl (v_assign rfl) gn rfl ?_
       refine w_end 6 rfl ?_
       refine g_seq (c := q36c67) rfl ?_
       refine g_region (c := q36c68) rfl rfl ?_
       refine wl_v 0 rfl (v_move rfl) gn rfl ?_
       refine wl_v 1 rfl (v_bin rfl rfl rfl) gn rfl ?_
       refine wl_v 2 rfl (v_assign rfl) gn rfl ?_
       refine w_end 3 rfl ?_
       refine g_seq (c := q36c69) rfl ?_
       refine g_seq (c := q36c70) rfl ?_
       refine g_region (c := q36c72) rfl rfl ?_
       refine wl_v 0 rfl (v_assign rfl) gn rfl ?_
       refine w_end 1 rfl ?_
       refine g_block (c := q36c73) rfl ?_
       refine g_loop (c := q36c74) rfl ?_
       have key5 : ∀ s, Rounds (fun (s : Bool × Int) o => trellislaw15_made_b5 x1 x46 x653 x638 x647 x652 s.1 s.2 o) s o1 → (fun (s : Bool × Int) => ∀ (_ : Unit), G (trellislaw15_made_C w F r) [.code q36c75, .inLoop q36c75, .inBlock 2, .code q36c71, .inBlock 1, .code q36c22, .inLoop q36c14, .inBlock 0, .code q36c10] [(1, .slice A47 n48 c49), (2, .pointer (some ⟨gb51, 0, none⟩)), (7, .slice A639 n640 c641), (8, .slice A648 n649 c650), (9, .int .i64 x652), (10, .int .i64 x653), (11, .pointer (some ⟨gb2206, 0, none⟩)), (15, .slice A2281 n2282 c2283), (16, .int .i64 (w64 ((x638.length : Int) - (((ix x1.gram.prods ((ix x46 x653).n)).rhs).length : Int)))), (17, .bool s.1), (18, .int .i64 s.2)] [.box gb2206 115 [.int .i64 ((ix x46 x653).n), .int .i64 ((ix x46 x653).pad), .int .i64 ((ix x46 x653).len)], .own (.slice A639 n640 c641) 79 3 n640 cs643, .own (.slice A648 n649 c650) 39 7 n649 (x647.flatMap enc_api_Node), .box gb51 58 [.string x1.name, .slice A2 n3 c4, .slice A6 n7 c8, .slice A10 n11 c12, .slice A14 n15 c16, .slice A18 n19 c20, .slice A22 n23 c24, .slice A26 n27 c28, .slice A30 n31 c32, .slice A34 n35 c36, .slice A38 n39 c40, .slice A42 n43 c44]] [Sm w.heap.size F sw644 sb645, Sm w.heap.size F w [], St w []]) s := by
        intro s hs
        refine Rounds.ind (mot := (fun (s : Bool × Int) => ∀ (_ : Unit), G (trellislaw15_made_C w F r) [.code q36c75, .inLoop q36c75, .inBlock 2, .code q36c71, .inBlock 1, .code q36c22, .inLoop q36c14, .inBlock 0, .code q36c10] [(1, .slice A47 n48 c49), (2, .pointer (some ⟨gb51, 0, none⟩)), (7, .slice A639 n640 c641), (8, .slice A648 n649 c650), (9, .int .i64 x652), (10, .int .i64 x653), (11, .pointer (some ⟨gb2206, 0, none⟩)), (15, .slice A2281 n2282 c2283), (16, .int .i64 (w64 ((x638.length : Int) - (((ix x1.gram.prods ((ix x46 x653).n)).rhs).length : Int)))), (17, .bool s.1), (18, .int .i64 s.2)] [.box gb2206 115 [.int .i64 ((ix x46 x653).n), .int .i64 ((ix x46 x653).pad), .int .i64 ((ix x46 x653).len)], .own (.slice A639 n640 c641) 79 3 n640 cs643, .own (.slice A648 n649 c650) 39 7 n649 (x647.flatMap enc_api_Node), .box gb51 58 [.string x1.name, .slice A2 n3 c4, .slice A6 n7 c8, .slice A10 n11 c12, .slice A14 n15 c16, .slice A18 n19 c20, .slice A22 n23 c24, .slice A26 n27 c28, .slice A30 n31 c32, .slice A34 n35 c36, .slice A38 n39 c40, .slice A42 n43 c44]] [Sm w.heap.size F sw644 sb645, Sm w.heap.size F w [], St w []])) ?_ hs
        clear hs s
        intro s o2 h hO2
        obtain ⟨x2592, x2593⟩ := s
        show ∀ (_ : Unit), G (trellislaw15_made_C w F r) [.code q36c75, .inLoop q36c75, .inBlock 2, .code q36c71, .inBlock 1, .code q36c22, .inLoop q36c14, .inBlock 0, .code q36c10] [(1, .slice A47 n48 c49), (2, .pointer (some ⟨gb51, 0, none⟩)), (7, .slice A639 n640 c641), (8, .slice A648 n649 c650), (9, .int .i64 x652), (10, .int .i64 x653), (11, .pointer (some ⟨gb2206, 0, none⟩)), (15, .slice A2281 n2282 c2283), (16, .int .i64 (w64 ((x638.length : Int) - (((ix x1.gram.prods ((ix x46 x653).n)).rhs).length : Int)))), (17, .bool x2592), (18, .int .i64 x2593)] [.box gb2206 115 [.int .i64 ((ix x46 x653).n), .int .i64 ((ix x46 x653).pad), .int .i64 ((ix x46 x653).len)], .own (.slice A639 n640 c641) 79 3 n640 cs643, .own (.slice A648 n649 c650) 39 7 n649 (x647.flatMap enc_api_Node), .box gb51 58 [.string x1.name, .slice A2 n3 c4, .slice A6 n7 c8, .slice A10 n11 c12, .slice A14 n15 c16, .slice A18 n19 c20, .slice A22 n23 c24, .slice A26 n27 c28, .slice A30 n31 c32, .slice A34 n35 c36, .slice A38 n39 c40, .slice A42 n43 c44]] [Sm w.heap.size F sw644 sb645, Sm w.heap.size F w [], St w []]
        intro _
        have h : trellislaw15_made_b5 x1 x46 x653 x638 x647 x652 x2592 x2593 o2 := h
        unfold trellislaw15_made_b5 at h
        refine g_seq (c := q36c75) rfl ?_
        refine g_seq (c := q36c76) rfl ?_
        refine g_region (c := q36c78) rfl rfl ?_
        refine wl_v 0 rfl (v_move rfl) gn rfl ?_
        refine wl_v 1 rfl (v_move rfl) gn rfl ?_
        refine wl_v 2 rfl (v_lenQ un_105 rfl h2284.hq) gn rfl ?_
        refine wl_v 3 rfl (v_bin rfl rfl rfl) gn rfl ?_
        refine wl_v 4 rfl (v_move rfl) gn rfl ?_
        by_cases hp3165 : x2593 < (((ix x1.gram.prods ((ix x46 x653).n)).rhs).length : Int)
        ·have h := if_pos' hp3165 h
         refine w_bool 144 rfl ((decide_eq_true hp3165)) ?_
         refine wl_v 5 rfl (v_move rfl) (gy 144 rfl rfl) rfl ?_
         refine wl_v 6 rfl (v_pick (b := true) rfl rfl) gn rfl ?_
         refine w_end 7 rfl ?_
         by_cases hp3166 : x2592 = true
         ·have h := if_pos' hp3166 h
          refine g_true (c := q36c79) rfl _ rfl (hp3166) ?_
          refine g_skip (c := q36c80) rfl ?_
          refine g_seq (c := q36c77) rfl ?_
          refine g_block (c := q36c82) rfl ?_
          obtain ⟨hb3167, h⟩ := h
          obtain ⟨hb3176, h⟩ := h
          have hns : Region.noSelect (Code.ops q36c84) = true := by kernel_rfl
          refine g_drawF (c := q36c84) [.box gb2206 115 [.int .i64 ((ix x46 x653).n), .int .i64 ((ix x46 x653).pad), .int .i64 ((ix x46 x653).len)], .own (.slice A639 n640 c641) 79 3 n640 cs643, .own (.slice A648 n649 c650) 39 7 n649 (x647.flatMap enc_api_Node), .box gb51 58 [.string x1.name, .slice A2 n3 c4, .slice A6 n7 c8, .slice A10 n11 c12, .slice A14 n15 c16, .slice A18 n19 c20, .slice A22 n23 c24, .slice A26 n27 c28, .slice A30 n31 c32, .slice A34 n35 c36, .slice A38 n39 c40, .slice A42 n43 c44]] [Sm w.heap.size F sw644 sb645, Sm w.heap.size F w [], St w []] [] 14 rfl rfl mix rfl (.cons_cons _ (.cons_cons _ (.cons_cons _ (.cons_cons _ (.slnil))))) (sels [0, 1, 2] rfl) ?_
          refine wfv 0 rfl (v_move rfl) gn hns rfl ?_
          refine wfv 1 rfl (v_move rfl) gn hns rfl ?_
          refine wfv 2 rfl (v_move rfl) gn hns rfl ?_
          refine wfv 3 rfl (v_bin rfl rfl rfl) gn hns rfl ?_
          obtain ⟨ce3187, hK3188, ht3189, hg3190⟩ := Cells.get hC646 hb3167
          obtain ⟨A3191, n3192, c3193, rfl, h3194⟩ := hK3188
          refine wfv 4 rfl (v_idxO slE_75 rfl rfl h642 hb3167) gn hns rfl ?_
          refine wfv 5 rfl (v_fldA fo_79_0 rfl) gn hns rfl ?_
          refine wfv 6 rfl (v_ldO1 (.int .i64 ((ix x638 (w64 ((w64 ((x638.length : Int) - (((ix x1.gram.prods ((ix x46 x653).n)).rhs).length : Int))) + x2593))).sym)) 1 ld_3 rfl rfl (hg3190 0 _ rfl)) gn hns rfl ?_
          refine wfv 7 rfl (v_move rfl) gn hns rfl ?_
          refine wfv 8 rfl (v_move rfl) gn hns rfl ?_
          have hr3195 := Rw.readF (s := St w []) (hl := hl_api_Ref) (h1 := h1_api_Ref) h2284 hb3176
          refine wfv 9 rfl (v_idxR (s := St w []) slE_105 rfl rfl h2284 hb3176) gn hns rfl ?_
          refine wfv 10 rfl (v_fldA fo_104_0 rfl) gn hns rfl ?_
          refine wfv 11 rfl (v_ldA1 (kk := (x2593 : Int).toNat * 3) (j := 0) (St w []) ld_3 rfl hr3195 rfl (me 2 rfl)) gn hns rfl ?_
          refine wfv 12 rfl (v_bin rfl rfl rfl) gn hns rfl ?_
          refine wfv 13 rfl (v_assign rfl) gn hns rfl ?_
          refine wf_end (by kernel_rfl) ?_
          refine g_inBlock ?_
          refine g_region (c := q36c83) rfl rfl ?_
          refine wl_v 0 rfl (v_move rfl) gn rfl ?_
          refine wl_v 1 rfl (v_bin rfl rfl rfl) gn rfl ?_
          refine wl_v 2 rfl (v_assign rfl) gn rfl ?_
          refine w_end 3 rfl ?_
          refine g_inLoop ?_
          have ih := Out.inl hO2 h
          exact g_go [0, 1, 2] (ih ()) ⟨rfl, rfl, rfl, rfl, rfl, rfl, rfl, rfl, rfl, rfl, rfl, trivial⟩ (.cons_cons _ (.cons_cons _ (.cons_cons _ (.cons_cons _ (.slnil))))) rfl
         ·have h := if_neg' hp3166 h
          refine g_false (c := q36c79) rfl _ rfl ((bf hp3166)) ?_
          refine g_exit (c := q36c81) [.code q36c71, .inBlock 1, .code q36c22, .inLoop q36c14, .inBlock 0, .code q36c10] rfl rfl ?_
          refine g_seq (c := q36c71) rfl ?_
          refine g_seq (c := q36c85) rfl ?_
          refine g_region (c := q36c87) rfl rfl ?_
          refine wl_v 0 rfl (v_move rfl) gn rfl ?_
          refine wl_v 1 rfl (v_not rfl) gn rfl ?_
          refine w_end 2 rfl ?_
          refine g_true (c := q36c88) rfl _ rfl ((nt (bf hp3166))) ?_
          refine g_exit (c := q36c89) [.code q36c22, .inLoop q36c14, .inBlock 0, .code q36c10] rfl rfl ?_
          refine g_region (c := q36c22) rfl rfl ?_
          refine wl_v 0 rfl (v_move rfl) gn rfl ?_
          refine wl_v 1 rfl (v_bin rfl rfl rfl) gn rfl ?_
          refine wl_v 2 rfl (v_assign rfl) gn rfl ?_
          refine w_end 3 rfl ?_
          refine g_inLoop ?_
          have h := Out.inr hO2 h
          have ih := Out.inl hO1 h
          exact g_go [0, 1, 2] (ih A639 n640 c641 h642 cs643 sw644 sb645 hC646 A648 n649 c650 h651) ⟨rfl, rfl, rfl, rfl, rfl, rfl, trivial⟩ (.cons _ (.cons_cons _ (.cons_cons _ (.cons_cons _ (.slnil))))) rfl
        ·have h := if_neg' hp3165 h
         refine w_bool 144 rfl ((decide_eq_false hp3165)) ?_
         refine wl_pass 5 rfl (ps 144 rfl rfl rfl) ?_
         refine wl_v 6 rfl (v_pick (b := false) rfl rfl) gn rfl ?_
         refine w_end 7 rfl ?_
         refine g_false (c := q36c79) rfl _ rfl (rfl) ?_
         refine g_exit (c := q36c81) [.code q36c71, .inBlock 1, .code q36c22, .inLoop q36c14, .inBlock 0, .code q36c10] rfl rfl ?_
         refine g_seq (c := q36c71) rfl ?_
         refine g_seq (c := q36c85) rfl ?_
         refine g_region (c := q36c87) rfl rfl ?_
         refine wl_v 0 rfl (v_move rfl) gn rfl ?_
         refine wl_v 1 rfl (v_not rfl) gn rfl ?_
         refine w_end 2 rfl ?_
         by_cases hp3196 : x2592 = true
         ·have h := if_pos' hp3196 h
          refine g_false (c := q36c88) rfl _ rfl ((nf hp3196)) ?_
          refine g_skip (c := q36c90) rfl ?_
          refine g_seq (c := q36c86) rfl ?_
          refine g_region (c := q36c91) rfl rfl ?_
          refine wl_s 0 rfl (s_litO (xs := ([0] : List Int)) [.int .i64 0] bs_23_1 rfl (by kernel_rfl) rfl rfl rfl rfl fun gb3198 h3199 => ?_) gn
          refine wl_v 1 rfl (v_assign rfl) gn rfl ?_
          refine w_end 2 rfl ?_
          refine g_seq (c := q36c92) rfl ?_
          refine g_seq (c := q36c93) rfl ?_
          refine g_region (c := q36c95) rfl rfl ?_
          refine wl_v 0 rfl (v_move rfl) gn rfl ?_
          refine wl_v 1 rfl (v_bin rfl rfl rfl) gn rfl ?_
          refine w_end 2 rfl ?_
          have j6 : ∀ (x3215 : List Int) (h : trellislaw15_made_j6 x1 x46 x653 x638 x647 x652 x3215 o2) (h3216 : Ow w.heap.size (some ⟨gb3198, 0, none⟩) 1 1 x3215), G (trellislaw15_made_C w F r) [.code q36c94, .inBlock 1, .code q36c22, .inLoop q36c14, .inBlock 0, .code q36c10] [(1, .slice A47 n48 c49), (2, .pointer (some ⟨gb51, 0, none⟩)), (7, .slice A639 n640 c641), (8, .slice A648 n649 c650), (9, .int .i64 x652), (10, .int .i64 x653), (11, .pointer (some ⟨gb2206, 0, none⟩)), (15, .slice A2281 n2282 c2283), (16, .int .i64 (w64 ((x638.length : Int) - (((ix x1.gram.prods ((ix x46 x653).n)).rhs).length : Int)))), (19, .slice (some ⟨gb3198, 0, none⟩) 1 1)] [.own (.slice (some ⟨gb3198, 0, none⟩) 1 1) 3 1 1 (x3215.flatMap (eI .i64)), .box gb2206 115 [.int .i64 ((ix x46 x653).n), .int .i64 ((ix x46 x653).pad), .int .i64 ((ix x46 x653).len)], .own (.slice A639 n640 c641) 79 3 n640 cs643, .own (.slice A648 n649 c650) 39 7 n649 (x647.flatMap enc_api_Node), .box gb51 58 [.string x1.name, .slice A2 n3 c4, .slice A6 n7 c8, .slice A10 n11 c12, .slice A14 n15 c16, .slice A18 n19 c20, .slice A22 n23 c24, .slice A26 n27 c28, .slice A30 n31 c32, .slice A34 n35 c36, .slice A38 n39 c40, .slice A42 n43 c44]] [Sm w.heap.size F sw644 sb645, Sm w.heap.size F w [], St w []] := by
           intro x3215 h h3216
           unfold trellislaw15_made_j6 at h
           refine g_seq (c := q36c94) rfl ?_
           refine g_region (c := q36c99) rfl rfl ?_
           refine wl_v 0 rfl (v_assign rfl) gn rfl ?_
           refine w_end 1 rfl ?_
           refine g_seq (c := q36c100) rfl ?_
           refine g_seq (c := q36c101) rfl ?_
           refine g_region (c := q36c103) rfl rfl ?_
           refine wl_v 0 rfl (v_assign rfl) gn rfl ?_
           refine w_end 1 rfl ?_
           refine g_block (c := q36c104) rfl ?_
           refine g_loop (c := q36c105) rfl ?_
           have key7 : ∀ s, Rounds (fun (s : (List Int) × (List (List api_Node)) × Int) o => trellislaw15_made_b7 x1 x46 x653 x638 x647 x652 s.1 s.2.1 s.2.2 o) s o2 → (fun (s : (List Int) × (List (List api_Node)) × Int) => ∀ (A3383 : Option Addr) (n3384 : Nat) (c3385 : Nat) (h3386 : Ow w.heap.size A3383 n3384 c3385 s.1) (A3388 : Option Addr) (n3389 : Nat) (c3390 : Nat) (h3391 : Ow w.heap.size A3388 n3389 c3390 s.2.1) (cs3392 : List Value) (sw3393 : World) (sb3394 : List (List Nat)) (hC3395 : Cells (Kd.slice k_api_Node) (Sm w.heap.size F sw3393 sb3394).w (Sm w.heap.size F sw3393 sb3394).av s.2.1 cs3392), G (trellislaw15_made_C w F r) [.code q36c106, .inLoop q36c106, .inBlock 4, .code q36c102, .inBlock 1, .code q36c22, .inLoop q36c14, .inBlock 0, .code q36c10] [(1, .slice A47 n48 c49), (2, .pointer (some ⟨gb51, 0, none⟩)), (7, .slice A639 n640 c641), (8, .slice A648 n649 c650), (9, .int .i64 x652), (10, .int .i64 x653), (11, .pointer (some ⟨gb2206, 0, none⟩)), (15, .slice A2281 n2282 c2283), (16, .int .i64 (w64 ((x638.length : Int) - (((ix x1.gram.prods ((ix x46 x653).n)).rhs).length : Int)))), (19, .slice A3383 n3384 c3385), (20, .slice A3388 n3389 c3390), (21, .int .i64 s.2.2)] [.own (.slice A3388 n3389 c3390) 22 1 n3389 cs3392, .own (.slice A3383 n3384 c3385) 3 1 n3384 (s.1.flatMap (eI .i64)), .box gb2206 115 [.int .i64 ((ix x46 x653).n), .int .i64 ((ix x46 x653).pad), .int .i64 ((ix x46 x653).len)], .own (.slice A639 n640 c641) 79 3 n640 cs643, .own (.slice A648 n649 c650) 39 7 n649 (x647.flatMap enc_api_Node), .box gb51 58 [.string x1.name, .slice A2 n3 c4, .slice A6 n7 c8, .slice A10 n11 c12, .slice A14 n15 c16, .slice A18 n19 c20, .slice A22 n23 c24, .slice A26 n27 c28, .slice A30 n31 c32, .slice A34 n35 c36, .slice A38 n39 c40, .slice A42 n43 c44]] [Sm w.heap.size F sw3393 sb3394, Sm w.heap.size F sw644 sb645, Sm w.heap.size F w [], St w []]) s := by
            intro s hs
            refine Rounds.ind (mot := (fun (s : (List Int) × (List (List api_Node)) × Int) => ∀ (A3383 : Option Addr) (n3384 : Nat) (c3385 : Nat) (h3386 : Ow w.heap.size A3383 n3384 c3385 s.1) (A3388 : Option Addr) (n3389 : Nat) (c3390 : Nat) (h3391 : Ow w.heap.size A3388 n3389 c3390 s.2.1) (cs3392 : List Value) (sw3393 : World) (sb3394 : List (List Nat)) (hC3395 : Cells (Kd.slice k_api_Node) (Sm w.heap.size F sw3393 sb3394).w (Sm w.heap.size F sw3393 sb3394).av s.2.1 cs3392), G (trellislaw15_made_C w F r) [.code q36c106, .inLoop q36c106, .inBlock 4, .code q36c102, .inBlock 1, .code q36c22, .inLoop q36c14, .inBlock 0, .code q36c10] [(1, .slice A47 n48 c49), (2, .pointer (some ⟨gb51, 0, none⟩)), (7, .slice A639 n640 c641), (8, .slice A648 n649 c650), (9, .int .i64 x652), (10, .int .i64 x653), (11, .pointer (some ⟨gb2206, 0, none⟩)), (15, .slice A2281 n2282 c2283), (16, .int .i64 (w64 ((x638.length : Int) - (((ix x1.gram.prods ((ix x46 x653).n)).rhs).length : Int)))), (19, .slice A3383 n3384 c3385), (20, .slice A3388 n3389 c3390), (21, .int .i64 s.2.2)] [.own (.slice A3388 n3389 c3390) 22 1 n3389 cs3392, .own (.slice A3383 n3384 c3385) 3 1 n3384 (s.1.flatMap (eI .i64)), .box gb2206 115 [.int .i64 ((ix x46 x653).n), .int .i64 ((ix x46 x653).pad), .int .i64 ((ix x46 x653).len)], .own (.slice A639 n640 c641) 79 3 n640 cs643, .own (.slice A648 n649 c650) 39 7 n649 (x647.flatMap enc_api_Node), .box gb51 58 [.string x1.name, .slice A2 n3 c4, .slice A6 n7 c8, .slice A10 n11 c12, .slice A14 n15 c16, .slice A18 n19 c20, .slice A22 n23 c24, .slice A26 n27 c28, .slice A30 n31 c32, .slice A34 n35 c36, .slice A38 n39 c40, .slice A42 n43 c44]] [Sm w.heap.size F sw3393 sb3394, Sm w.heap.size F sw644 sb645, Sm w.heap.size F w [], St w []])) ?_ hs
            clear hs s
            intro s o3 h hO3
            obtain ⟨x3382, x3387, x3396⟩ := s
            show ∀ (A3383 : Option Addr) (n3384 : Nat) (c3385 : Nat) (h3386 : Ow w.heap.size A3383 n3384 c3385 x3382) (A3388 : Option Addr) (n3389 : Nat) (c3390 : Nat) (h3391 : Ow w.heap.size A3388 n3389 c3390 x3387) (cs3392 : List Value) (sw3393 : World) (sb3394 : List (List Nat)) (hC3395 : Cells (Kd.slice k_api_Node) (Sm w.heap.size F sw3393 sb3394).w (Sm w.heap.size F sw3393 sb3394).av x3387 cs3392), G (trellislaw15_made_C w F r) [.code q36c106, .inLoop q36c106, .inBlock 4, .code q36c102, .inBlock 1, .code q36c22, .inLoop q36c14, .inBlock 0, .code q36c10] [(1, .slice A47 n48 c49), (2, .pointer (some ⟨gb51, 0, none⟩)), (7, .slice A639 n640 c641), (8, .slice A648 n649 c650), (9, .int .i64 x652), (10, .int .i64 x653), (11, .pointer (some ⟨gb2206, 0, none⟩)), (15, .slice A2281 n2282 c2283), (16, .int .i64 (w64 ((x638.length : Int) - (((ix x1.gram.prods ((ix x46 x653).n)).rhs).length : Int)))), (19, .slice A3383 n3384 c3385), (20, .slice A3388 n3389 c3390), (21, .int .i64 x3396)] [.own (.slice A3388 n3389 c3390) 22 1 n3389 cs3392, .own (.slice A3383 n3384 c3385) 3 1 n3384 (x3382.flatMap (eI .i64)), .box gb2206 115 [.int .i64 ((ix x46 x653).n), .int .i64 ((ix x46 x653).pad), .int .i64 ((ix x46 x653).len)], .own (.slice A639 n640 c641) 79 3 n640 cs643, .own (.slice A648 n649 c650) 39 7 n649 (x647.flatMap enc_api_Node), .box gb51 58 [.string x1.name, .slice A2 n3 c4, .slice A6 n7 c8, .slice A10 n11 c12, .slice A14 n15 c16, .slice A18 n19 c20, .slice A22 n23 c24, .slice A26 n27 c28, .slice A30 n31 c32, .slice A34 n35 c36, .slice A38 n39 c40, .slice A42 n43 c44]] [Sm w.heap.size F sw3393 sb3394, Sm w.heap.size F sw644 sb645, Sm w.heap.size F w [], St w []]
            intro A3383 n3384 c3385 h3386 A3388 n3389 c3390 h3391 cs3392 sw3393 sb3394 hC3395
            have h : trellislaw15_made_b7 x1 x46 x653 x638 x647 x652 x3382 x3387 x3396 o3 := h
            unfold trellislaw15_made_b7 at h
            refine g_seq (c := q36c106) rfl ?_
            refine g_seq (c := q36c107) rfl ?_
            refine g_region (c := q36c109) rfl rfl ?_
            refine wl_v 0 rfl (v_move rfl) gn rfl ?_
            refine wl_v 1 rfl (v_move rfl) gn rfl ?_
            refine wl_v 2 rfl (v_lenQ un_105 rfl h2284.hq) gn rfl ?_
            refine wl_v 3 rfl (v_bin rfl rfl rfl) gn rfl ?_
            refine w_end 4 rfl ?_
            by_cases hp3560 : x3396 < (((ix x1.gram.prods ((ix x46 x653).n)).rhs).length : Int)
            ·have h := if_pos' hp3560 h
             refine g_true (c := q36c110) rfl _ rfl ((decide_eq_true hp3560)) ?_
             refine g_skip (c := q36c111) rfl ?_
             refine g_seq (c := q36c108) rfl ?_
             refine g_block (c := q36c121) rfl ?_
             refine g_seq (c := q36c123) rfl ?_
             refine g_region (c := q36c124) rfl rfl ?_
             refine wl_v 0 rfl (v_move rfl) gn rfl ?_
             refine wl_v 1 rfl (v_move rfl) gn rfl ?_
             refine wl_v 2 rfl (v_move rfl) gn rfl ?_
             refine wl_v 3 rfl (v_move rfl) gn rfl ?_
             refine wl_v 4 rfl (v_bin rfl rfl rfl) gn rfl ?_
             obtain ⟨hb3561, h⟩ := h
             obtain ⟨ce3562, hK3563, ht3564, hg3565⟩ := Cells.get hC646 hb3561
             obtain ⟨A3566, n3567, c3568, rfl, h3569⟩ := hK3563
             refine wl_v 5 rfl (v_idxO slE_75 rfl rfl h642 hb3561) gn rfl ?_
             refine wl_v 6 rfl (v_fldA fo_79_1 rfl) gn rfl ?_
             refine wl_v 7 rfl (v_ldO1 (.slice A3566 n3567 c3568) 3 ld_22 rfl rfl (hg3565 1 _ rfl)) gn rfl ?_
             have hC3571 : Cells (Kd.slice k_api_Node) (Sm w.heap.size F sw644 sb645).w (Sm w.heap.size F sw644 sb645).av ([(ix x638 (w64 ((w64 ((x638.length : Int) - (((ix x1.gram.prods ((ix x46 x653).n)).rhs).length : Int))) + x3396))).t] : List (List api_Node)) [.slice A3566 n3567 c3568] := (Cells.cons (c1 := [.slice A3566 n3567 c3568]) ⟨A3566, n3567, c3568, rfl, h3569⟩ Cells.nil)
             refine wl_s 8 rfl (s_litO (xs := ([(ix x638 (w64 ((w64 ((x638.length : Int) - (((ix x1.gram.prods ((ix x46 x653).n)).rhs).length : Int))) + x3396))).t] : List (List api_Node))) [.slice A3566 n3567 c3568] bs_59_1 rfl (by kernel_rfl) rfl rfl rfl rfl fun gb3572 h3573 => ?_) gn
             obtain ⟨x3580, hv3581, h⟩ := h
             obtain ⟨hb3582, h⟩ := h
             refine w_mark (F := F) fun sw3577 sb3578 ho3579 => ?_
             obtain ⟨cs3583, hc3584⟩ : ∃ x : List Value, x = cs3392 ++ [.slice A3566 n3567 c3568] := ⟨_, rfl⟩
             have hC3585 : Cells (Kd.slice k_api_Node) (Sm w.heap.size F sw3577 sb3578).w (Sm w.heap.size F sw3577 sb3578).av x3580 cs3583 := by rw [hv3581, hc3584]; exact Cells.app (Cells.older (s := Sm w.heap.size F sw3393 sb3394) hC3395 (ho3579 _ (me 0 rfl) Sm.ok)) (Cells.older (s := Sm w.heap.size F sw644 sb645) hC3571 (ho3579 _ (me 1 rfl) Sm.ok))
             refine wl_s 9 rfl (s_app (zs := x3580) 1 ap_59 rfl rfl rfl h3391 (Nat.le_refl _) (Src.ownAll 0 rfl h3573 hC3571) hc3584.symm (app_len hv3581 h3573.hq) hb3582 rfl rfl fun A3574 c3575 h3576 => ?_) gn
             refine wl_v 10 rfl (v_assign rfl) gn rfl ?_
             refine w_end 11 rfl ?_
             refine g_region (c := q36c125) rfl rfl ?_
             refine wl_v 0 rfl (v_move rfl) gn rfl ?_
             refine wl_v 1 rfl (v_move rfl) gn rfl ?_
             refine wl_v 2 rfl (v_move rfl) gn rfl ?_
             refine wl_v 3 rfl (v_move rfl) gn rfl ?_
             refine wl_v 4 rfl (v_bin rfl rfl rfl) gn rfl ?_
             obtain ⟨ce3586, hK3587, ht3588, hg3589⟩ := Cells.get hC646 hb3561
             obtain ⟨A3590, n3591, c3592, rfl, h3593⟩ := hK3587
             refine wl_v 5 rfl (v_idxO slE_75 rfl rfl h642 hb3561) gn rfl ?_
             refine wl_v 6 rfl (v_fldA fo_79_2 rfl) gn rfl ?_
             refine wl_v 7 rfl (v_ldO1 (.int .i64 ((ix x638 (w64 ((w64 ((x638.length : Int) - (((ix x1.gram.prods ((ix x46 x653).n)).rhs).length : Int))) + x3396))).ends)) 4 ld_3 rfl rfl (hg3589 2 _ rfl)) gn rfl ?_
             refine wl_s 8 rfl (s_litO (xs := ([(ix x638 (w64 ((w64 ((x638.length : Int) - (((ix x1.gram.prods ((ix x46 x653).n)).rhs).length : Int))) + x3396))).ends] : List Int)) [.int .i64 ((ix x638 (w64 ((w64 ((x638.length : Int) - (((ix x1.gram.prods ((ix x46 x653).n)).rhs).length : Int))) + x3396))).ends)] bs_23_1 rfl (by kernel_rfl) rfl rfl rfl rfl fun gb3595 h3596 => ?_) gn
             obtain ⟨x3600, hv3601, h⟩ := h
             obtain ⟨hb3602, h⟩ := h
             refine wl_s 9 rfl (s_app (zs := x3600) (cells' := x3600.flatMap (eI .i64)) 3 ap_23 rfl rfl rfl h3386 (Nat.le_refl _) (Src.ownF (hl := (hlI .i64)) (h1 := (hone_int .i64)) 0 rfl h3596) (by rw [hv3601, List.flatMap_append] <;> rfl) (app_len hv3601 h3596.hq) hb3602 rfl rfl fun A3597 c3598 h3599 => ?_) gn
             refine wl_v 10 rfl (v_assign rfl) gn rfl ?_
             refine w_end 11 rfl ?_
             refine g_inBlock ?_
             refine g_region (c := q36c122) rfl rfl ?_
             refine wl_v 0 rfl (v_move rfl) gn rfl ?_
             refine wl_v 1 rfl (v_bin rfl rfl rfl) gn rfl ?_
             refine wl_v 2 rfl (v_assign rfl) gn rfl ?_
             refine w_end 3 rfl ?_
             refine g_inLoop ?_
             have ih := Out.inl hO3 h
             exact g_go [0, 2, 3, 4] (ih A3597 (n3384 + 1) c3598 h3599 A3574 (n3389 + 1) c3575 h3576 cs3583 sw3577 sb3578 hC3585) ⟨rfl, rfl, rfl, rfl, rfl, rfl, rfl, rfl, rfl, rfl, rfl, rfl, trivial⟩ (.cons _ (.cons _ (.cons_cons _ (.cons_cons _ (.cons_cons _ (.cons_cons _ (.cons_cons _ (.cons_cons _ (.slnil))))))))) rfl
            ·have h := if_neg' hp3560 h
             refine g_false (c := q36c110) rfl _ rfl ((decide_eq_false hp3560)) ?_
             refine g_exit (c := q36c112) [.code q36c102, .inBlock 1, .code q36c22, .inLoop q36c14, .inBlock 0, .code q36c10] rfl rfl ?_
             refine g_seq (c := q36c102) rfl ?_
             refine g_region (c := q36c113) rfl rfl ?_
             refine wl_v 0 rfl (v_ldB [.string x1.name, .slice A2 n3 c4, .slice A6 n7 c8, .slice A10 n11 c12, .slice A14 n15 c16, .slice A18 n19 c20, .slice A22 n23 c24, .slice A26 n27 c28, .slice A30 n31 c32, .slice A34 n35 c36, .slice A38 n39 c40, .slice A42 n43 c44] 5 ld_58 rfl rfl rfl rfl) gn rfl ?_
             refine wl_v 1 rfl (v_fldB fo_115_0 rfl) gn rfl ?_
             refine wl_v 2 rfl (v_ldB1 2 ld_3 rfl rfl rfl) gn rfl ?_
             refine wl_v 3 rfl (v_move rfl) gn rfl ?_
             refine wl_v 4 rfl (v_move rfl) gn rfl ?_
             obtain ⟨r3606, hv3607, h⟩ := h
             refine wl_s 5 rfl (s_call [.agg #[.string x1.name, .slice A2 n3 c4, .slice A6 n7 c8, .slice A10 n11 c12, .slice A14 n15 c16, .slice A18 n19 c20, .slice A22 n23 c24, .slice A26 n27 c28, .slice A30 n31 c32, .slice A34 n35 c36, .slice A38 n39 c40, .slice A42 n43 c44], .int .i64 ((ix x46 x653).n), .slice A3388 n3389 c3390, .slice A3383 n3384 c3385] rfl Try.func32 rfl rfl rfl fun w3603 hL3604 => ?_) gn
             have hp3605 : List.Perm ([.own (.slice A3388 n3389 c3390) 22 1 n3389 cs3392, .own (.slice A3383 n3384 c3385) 3 1 n3384 (x3382.flatMap (eI .i64)), .box gb2206 115 [.int .i64 ((ix x46 x653).n), .int .i64 ((ix x46 x653).pad), .int .i64 ((ix x46 x653).len)], .own (.slice A639 n640 c641) 79 3 n640 cs643, .own (.slice A648 n649 c650) 39 7 n649 (x647.flatMap enc_api_Node), .box gb51 58 [.string x1.name, .slice A2 n3 c4, .slice A6 n7 c8, .slice A10 n11 c12, .slice A14 n15 c16, .slice A18 n19 c20, .slice A22 n23 c24, .slice A26 n27 c28, .slice A30 n31 c32, .slice A34 n35 c36, .slice A38 n39 c40, .slice A42 n43 c44]] : List Ent) (([] : List Ent) ++ ([.own (.slice A3388 n3389 c3390) 22 1 n3389 cs3392, .own (.slice A3383 n3384 c3385) 3 1 n3384 (x3382.flatMap (eI .i64)), .box gb2206 115 [.int .i64 ((ix x46 x653).n), .int .i64 ((ix x46 x653).pad), .int .i64 ((ix x46 x653).len)], .own (.slice A639 n640 c641) 79 3 n640 cs643, .own (.slice A648 n649 c650) 39 7 n649 (x647.flatMap enc_api_Node), .box gb51 58 [.string x1.name, .slice A2 n3 c4, .slice A6 n7 c8, .slice A10 n11 c12, .slice A14 n15 c16, .slice A18 n19 c20, .slice A22 n23 c24, .slice A26 n27 c28, .slice A30 n31 c32, .slice A34 n35 c36, .slice A38 n39 c40, .slice A42 n43 c44]] : List Ent)) := perm_of_idx [] [0, 1, 2, 3, 4, 5] rfl rfl (by kernel_rfl)
             refine Calls.mono (tree_Reduce_calls w3603 (Fl ([] : List Snap)) x1 ((ix x46 x653).n) x3387 x3382 A2 n3 c4 A6 n7 c8 A10 n11 c12 A14 n15 c16 A18 n19 c20 A22 n23 c24 A26 n27 c28 A30 n31 c32 A34 n35 c36 A38 n39 c40 A42 n43 c44 A3388 n3389 c3390 A3383 n3384 c3385 (Rw.mono h5 (hL3604.toSt hp3605 (me 3 rfl))) (Rw.mono h9 (hL3604.toSt hp3605 (me 3 rfl))) (Rw.mono h13 (hL3604.toSt hp3605 (me 3 rfl))) (Rw.mono h17 (hL3604.toSt hp3605 (me 3 rfl))) (Rw.mono h21 (hL3604.toSt hp3605 (me 3 rfl))) (Rw.mono h25 (hL3604.toSt hp3605 (me 3 rfl))) (Rw.mono h29 (hL3604.toSt hp3605 (me 3 rfl))) (Rw.mono h33 (hL3604.toSt hp3605 (me 3 rfl))) (Rw.mono h37 (hL3604.toSt hp3605 (me 3 rfl))) (Rw.mono h41 (hL3604.toSt hp3605 (me 3 rfl))) (Rw.mono h45 (hL3604.toSt hp3605 (me 3 rfl))) (hL3604.argO (dk := (Kd.slice k_api_Node)) hp3605 [] rfl 0 rfl rfl h3391 (me 0 rfl) hC3395) (hL3604.argO (dk := (kInt .i64)) hp3605 [] rfl 1 rfl rfl h3386 (me 2 rfl) (Cells.flat _)) (hL3604.hFl (Sl := ([] : List Snap)) hp3605 (sels [] rfl)) (hL3604.into hp3605 (Fl ([] : List Snap))) r3606 hv3607) ?_
             rintro _ w3613 ⟨A3608, n3609, c3610, rfl, hM3614, h3611⟩
             have hL3615 := hL3604.call hp3605 hM3614
             refine ⟨_, _, _, rfl, hL3615, ?_⟩
             refine wl_v 6 rfl (v_assign rfl) gn rfl ?_
             refine w_end 7 rfl ?_
             refine g_seq (c := q36c114) rfl ?_
             refine g_region (c := q36c115) rfl rfl ?_
             refine wl_v 0 rfl (v_assign rfl) gn rfl ?_
             refine w_end 1 rfl ?_
             refine g_seq (c := q36c116) rfl ?_
             refine g_region (c := q36c117) rfl rfl ?_
             refine wl_v 0 rfl (v_move rfl) gn rfl ?_
             refine wl_v 1 rfl (v_move rfl) gn rfl ?_
             refine wl_v 2 rfl (v_move rfl) gn rfl ?_
             obtain ⟨hb3616, h⟩ := h
             obtain ⟨x3618, hv3619, h⟩ := h
             have hle3617 : (w64 ((x638.length : Int) - (((ix x1.gram.prods ((ix x46 x653).n)).rhs).length : Int)) : Int).toNat ≤ n640 := by have q := hb3616; have q1 := h642.hq; omega
             have h3620 : Ow w.heap.size A639 (w64 ((x638.length : Int) - (((ix x1.gram.prods ((ix x46 x653).n)).rhs).length : Int)) : Int).toNat c641 x3618 := Ow.w (Ow.cut h642 hle3617) (by rw [hv3619])
             refine wl_v 3 rfl (v_cutHi (i := w64 ((x638.length : Int) - (((ix x1.gram.prods ((ix x46 x653).n)).rhs).length : Int))) slE_75 rfl rfl (by have q := hb3616; have q1 := h642.hq; have q2 := h642.hn; omega) h642.hn rfl) gn rfl ?_
             obtain ⟨x3629, hv3630, h⟩ := h
             obtain ⟨hb3631, h⟩ := h
             refine w_nil 79 3 ?_
             have hC3625 : Cells k_trellislaw15_Made (Sm w.heap.size F sw644 sb645).w (Sm w.heap.size F sw644 sb645).av x3618 (cs643.take (((w64 ((x638.length : Int) - (((ix x1.gram.prods ((ix x46 x653).n)).rhs).length : Int)) : Int).toNat) * 3)) := by rw [hv3619]; exact Cells.take _ hC646
             refine w_mark (F := F) fun sw3626 sb3627 ho3628 => ?_
             obtain ⟨cs3632, hc3633⟩ : ∃ x : List Value, x = [] ++ (cs643.take (((w64 ((x638.length : Int) - (((ix x1.gram.prods ((ix x46 x653).n)).rhs).length : Int)) : Int).toNat) * 3)) := ⟨_, rfl⟩
             have hC3634 : Cells k_trellislaw15_Made (Sm w.heap.size F sw3626 sb3627).w (Sm w.heap.size F sw3626 sb3627).av x3629 cs3632 := by rw [hv3630, hc3633]; exact Cells.app (Cells.older (s := Sm w.heap.size F w []) Cells.nil (ho3628 _ (me 2 rfl) Sm.ok)) (Cells.older (s := Sm w.heap.size F sw644 sb645) hC3625 (ho3628 _ (me 1 rfl) Sm.ok))
             refine wl_s 4 rfl (s_app (zs := x3629) 0 ap_75 rfl rfl rfl (Ow.nil (z := w.heap.size)) (Nat.le_refl _) (Src.cutAll 5 rfl h642 hC646 hle3617) hc3633.symm (app_len hv3630 h3620.hq) hb3631 rfl rfl fun A3622 c3623 h3624 => ?_) gn
             refine wl_v 5 rfl (v_assign rfl) gn rfl ?_
             refine w_end 6 rfl ?_
             refine g_freeze (F := F) (dk := k_api_Node) (Sm w.heap.size F w []) 1 rfl (Ow.weak hL3604.env.size h3611) (me 3 rfl) Sm.ok (Cells.flat _) fun sw3644 sb3645 h3643 => ?_
             obtain ⟨hb3653, h⟩ := h
             obtain ⟨x3667, hv3668, h⟩ := h
             obtain ⟨hb3669, h⟩ := h
             have hns : Region.noSelect (Code.ops q36c118) = true := by kernel_rfl
             refine g_drawF (c := q36c118) [.own (.slice A3622 (0 + ((w64 ((x638.length : Int) - (((ix x1.gram.prods ((ix x46 x653).n)).rhs).length : Int)) : Int).toNat)) c3623) 79 3 (0 + ((w64 ((x638.length : Int) - (((ix x1.gram.prods ((ix x46 x653).n)).rhs).length : Int)) : Int).toNat)) cs3632, .own (.slice A3388 n3389 c3390) 22 1 n3389 cs3392, .own (.slice A3383 n3384 c3385) 3 1 n3384 (x3382.flatMap (eI .i64)), .box gb2206 115 [.int .i64 ((ix x46 x653).n), .int .i64 ((ix x46 x653).pad), .int .i64 ((ix x46 x653).len)], .own (.slice A639 n640 c641) 79 3 n640 cs643, .own (.slice A648 n649 c650) 39 7 n649 (x647.flatMap enc_api_Node), .box gb51 58 [.string x1.name, .slice A2 n3 c4, .slice A6 n7 c8, .slice A10 n11 c12, .slice A14 n15 c16, .slice A18 n19 c20, .slice A22 n23 c24, .slice A26 n27 c28, .slice A30 n31 c32, .slice A34 n35 c36, .slice A38 n39 c40, .slice A42 n43 c44]] [Sm w.heap.size F sw3644 sb3645, Sm w.heap.size F sw3626 sb3627, Sm w.heap.size F sw3393 sb3394, Sm w.heap.size F sw644 sb645, Sm w.heap.size F w [], St w []] [22, 23] 24 rfl rfl mix rfl (.cons_cons _ (.cons_cons _ (.cons_cons _ (.cons_cons _ (.cons_cons _ (.cons_cons _ (.cons_cons _ (.slnil)))))))) (sels [0, 1, 2, 3, 4, 5] rfl) ?_
             refine wfv 0 rfl (v_move rfl) gn hns (by kernel_rfl) ?_
             refine wfv 1 rfl (v_fldB fo_58_2 rfl) gn hns (by kernel_rfl) ?_
             refine wfv 2 rfl (v_fldB fo_47_2 rfl) gn hns (by kernel_rfl) ?_
             refine wfv 3 rfl (v_ldB1 6 ld_45 rfl rfl rfl) gn hns (by kernel_rfl) ?_
             refine wfv 4 rfl (v_fldB fo_115_0 rfl) gn hns (by kernel_rfl) ?_
             refine wfv 5 rfl (v_ldB1 3 ld_3 rfl rfl rfl) gn hns (by kernel_rfl) ?_
             obtain ⟨ce3699, hK3700, hr3698⟩ := Rw.read (s := St w []) h17 hb2277
             obtain ⟨A3701, n3702, c3703, rfl, h3704⟩ := hK3700
             refine wfv 6 rfl (v_idxR (s := St w []) slE_45 rfl rfl h17 hb2277) gn hns (by kernel_rfl) ?_
             refine wfv 7 rfl (v_fldA fo_107_0 rfl) gn hns (by kernel_rfl) ?_
             refine wfv 8 rfl (v_ldA1 (kk := ((ix x46 x653).n : Int).toNat * 2) (j := 0) (St w []) ld_3 rfl hr3698 rfl (me 5 rfl)) gn hns (by kernel_rfl) ?_
             refine wfv 9 rfl (v_fldB fo_58_2 rfl) gn hns (by kernel_rfl) ?_
             refine wfv 10 rfl (v_fldB fo_47_0 rfl) gn hns (by kernel_rfl) ?_
             refine wfv 11 rfl (v_ldB1 6 ld_43 rfl rfl rfl) gn hns (by kernel_rfl) ?_
             refine wfv 12 rfl (v_lenQ un_43 rfl h9.hq) gn hns (by kernel_rfl) ?_
             refine wfv 13 rfl (v_bin rfl rfl rfl) gn hns (by kernel_rfl) ?_
             refine wfv 14 rfl (v_move rfl) gn hns (by kernel_rfl) ?_
             refine wfv 15 rfl (v_move rfl) gn hns (by kernel_rfl) ?_
             refine wfv 16 rfl (v_move rfl) gn hns (by kernel_rfl) ?_
             refine wfv 17 rfl (v_lenQ un_105 rfl h2284.hq) gn hns (by kernel_rfl) ?_
             refine wfv 18 rfl (v_idxO slE_23 rfl rfl h3386 hb3653) gn hns (by kernel_rfl) ?_
             refine wfv 19 rfl (v_ldO1 (.int .i64 (ix x3382 (((ix x1.gram.prods ((ix x46 x653).n)).rhs).length : Int))) 2 ld_3 rfl rfl (fm_get0 (hlI .i64) hb3653 rfl)) gn hns (by kernel_rfl) ?_
             refine wfv 20 rfl (v_build #[.int .i64 (w64 (((ix x1.gram.prods ((ix x46 x653).n)).lhs) + (x1.gram.terms.length : Int))), .slice A3608 n3609 c3610, .int .i64 (ix x3382 (((ix x1.gram.prods ((ix x46 x653).n)).rhs).length : Int))] bd_79 rfl (by kernel_rfl)) gn hns (by kernel_rfl) ?_
             have hC3708 : Cells k_trellislaw15_Made (Sm w.heap.size F sw3644 sb3645).w (Sm w.heap.size F sw3644 sb3645).av ([(⟨w64 (((ix x1.gram.prods ((ix x46 x653).n)).lhs) + (x1.gram.terms.length : Int)), r3606, ix x3382 (((ix x1.gram.prods ((ix x46 x653).n)).rhs).length : Int)⟩ : trellislaw15_Made)] : List trellislaw15_Made) [.int .i64 (w64 (((ix x1.gram.prods ((ix x46 x653).n)).lhs) + (x1.gram.terms.length : Int))), .slice A3608 n3609 c3610, .int .i64 (ix x3382 (((ix x1.gram.prods ((ix x46 x653).n)).rhs).length : Int))] := (Cells.cons (c1 := [.int .i64 (w64 (((ix x1.gram.prods ((ix x46 x653).n)).lhs) + (x1.gram.terms.length : Int))), .slice A3608 n3609 c3610, .int .i64 (ix x3382 (((ix x1.gram.prods ((ix x46 x653).n)).rhs).length : Int))]) ⟨A3608, n3609, c3610, rfl, h3643⟩ Cells.nil)
             refine wf_all [21] (by kernel_rfl) rfl ⟨on_s 21 rfl gn rfl (s_litO (xs := ([(⟨w64 (((ix x1.gram.prods ((ix x46 x653).n)).lhs) + (x1.gram.terms.length : Int)), r3606, ix x3382 (((ix x1.gram.prods ((ix x46 x653).n)).rhs).length : Int)⟩ : trellislaw15_Made)] : List trellislaw15_Made)) [.int .i64 (w64 (((ix x1.gram.prods ((ix x46 x653).n)).lhs) + (x1.gram.terms.length : Int))), .slice A3608 n3609 c3610, .int .i64 (ix x3382 (((ix x1.gram.prods ((ix x46 x653).n)).rhs).length : Int))] bs_75_1 rfl (by kernel_rfl) rfl rfl rfl rfl fun gb3709 h3710 => ?_), trivial⟩
             refine ⟨sels [1, 2, 3, 4, 5, 6, 7] rfl, sels [0, 1, 2, 3, 4, 5] rfl, ?_⟩
             refine wf_mark (F := F) fun sw3714 sb3715 ho3716 => ?_
             obtain ⟨cs3720, hc3721⟩ : ∃ x : List Value, x = cs3632 ++ [.int .i64 (w64 (((ix x1.gram.prods ((ix x46 x653).n)).lhs) + (x1.gram.terms.length : Int))), .slice A3608 n3609 c3610, .int .i64 (ix x3382 (((ix x1.gram.prods ((ix x46 x653).n)).rhs).length : Int))] := ⟨_, rfl⟩
             have hC3722 : Cells k_trellislaw15_Made (Sm w.heap.size F sw3714 sb3715).w (Sm w.heap.size F sw3714 sb3715).av x3667 cs3720 := by rw [hv3668, hc3721]; exact Cells.app (Cells.older (s := Sm w.heap.size F sw3626 sb3627) hC3634 (ho3716 _ (me 1 rfl) Sm.ok)) (Cells.older (s := Sm w.heap.size F sw3644 sb3645) hC3708 (ho3716 _ (me 0 rfl) Sm.ok))
             refine wf_all [22] (by kernel_rfl) rfl ⟨on_l 22 rfl gn rfl (s_app (zs := x3667) 1 ap_75 rfl rfl rfl h3624 (Nat.le_refl _) (Src.ownAll 0 rfl h3710 hC3708) hc3721.symm (app_len hv3668 h3710.hq) hb3669 rfl rfl fun A3717 c3718 h3719 => ?_), trivial⟩
             unfold NxL
             refine wf_all [23] (by kernel_rfl) rfl ⟨on_l 23 rfl gn rfl (s_val (v_assign rfl) rfl ?_), trivial⟩
             unfold NxL
             refine wf_end (by kernel_rfl) ?_
             refine g_inBlock ?_
             refine g_region (c := q36c22) rfl rfl ?_
             refine wl_v 0 rfl (v_move rfl) gn rfl ?_
             refine wl_v 1 rfl (v_bin rfl rfl rfl) gn rfl ?_
             refine wl_v 2 rfl (v_assign rfl) gn rfl ?_
             refine w_end 3 rfl ?_
             refine g_inLoop ?_
             have h := Out.inr hO3 h
             have h := Out.inr hO2 h
             have ih := Out.inl hO1 h
             exact g_go [0, 5, 6] (ih A3717 ((0 + ((w64 ((x638.length : Int) - (((ix x1.gram.prods ((ix x46 x653).n)).rhs).length : Int)) : Int).toNat)) + 1) c3718 h3719 cs3720 sw3714 sb3715 hC3722 A648 n649 c650 h651) ⟨rfl, rfl, rfl, rfl, rfl, rfl, trivial⟩ (.cons _ (.cons_cons _ (.cons _ (.cons _ (.cons _ (.cons _ (.cons_cons _ (.cons_cons _ (.slnil))))))))) rfl
           refine g_nil 22 1 ?_
           exact g_go [1, 0, 1, 2] (key7 _ h (some ⟨gb3198, 0, none⟩) 1 1 h3216 none 0 0 (Ow.nil (z := w.heap.size)) [] w [] Cells.nil) ⟨rfl, rfl, rfl, rfl, rfl, rfl, rfl, rfl, rfl, rfl, rfl, rfl, trivial⟩ (.cons_cons _ (.cons_cons _ (.cons_cons _ (.cons_cons _ (.cons_cons _ (.cons_cons _ (.slnil))))))) rfl
          by_cases hp3200 : w64 ((x638.length : Int) - (((ix x1.gram.prods ((ix x46 x653).n)).rhs).length : Int)) > 0
          ·have h := if_pos' hp3200 h
           refine g_true (c := q36c96) rfl _ rfl ((decide_eq_true hp3200)) ?_
           refine g_region (c := q36c97) rfl rfl ?_
           refine wl_v 0 rfl (v_move rfl) gn rfl ?_
           refine wl_v 1 rfl (v_move rfl) gn rfl ?_
           refine wl_v 2 rfl (v_move rfl) gn rfl ?_
           refine wl_v 3 rfl (v_bin rfl rfl rfl) gn rfl ?_
           obtain ⟨hb3723, h⟩ := h
           obtain ⟨ce3724, hK3725, ht3726, hg3727⟩ := Cells.get hC646 hb3723
           obtain ⟨A3728, n3729, c3730, rfl, h3731⟩ := hK3725
           refine wl_v 4 rfl (v_idxO slE_75 rfl rfl h642 hb3723) gn rfl ?_
           refine wl_v 5 rfl (v_fldA fo_79_2 rfl) gn rfl ?_
           refine wl_v 6 rfl (v_ldO1 (.int .i64 ((ix x638 (w64 ((w64 ((x638.length : Int) - (((ix x1.gram.prods ((ix x46 x653).n)).rhs).length : Int))) - 1))).ends)) 2 ld_3 rfl rfl (hg3727 2 _ rfl)) gn rfl ?_
           obtain ⟨hb3732, h⟩ := h
           refine wl_v 7 rfl (v_idxO slE_23 rfl rfl h3199 hb3732) gn rfl ?_
           obtain ⟨x3733, hv3734, h⟩ := h
           refine wl_s 8 rfl (s_stF (enc := (eI .i64)) (o := 0) (z := ((ix x638 (w64 ((w64 ((x638.length : Int) - (((ix x1.gram.prods ((ix x46 x653).n)).rhs).length : Int))) - 1))).ends)) (vs := [.int .i64 ((ix x638 (w64 ((w64 ((x638.length : Int) - (((ix x1.gram.prods ((ix x46 x653).n)).rhs).length : Int))) - 1))).ends)]) (i := 0) 0 (hlI .i64) sz_3 rfl rfl rfl rfl rfl h3199 hb3732 rfl rfl rfl hv3734 fun h3735 => ?_) gn
           refine w_end 9 rfl ?_
           exact g_go [0, 1, 2] (j6 x3733 h h3735) ⟨rfl, rfl, rfl, rfl, rfl, rfl, rfl, rfl, rfl, rfl, trivial⟩ (.cons_cons _ (.cons_cons _ (.cons_cons _ (.cons_cons _ (.cons_cons _ (.slnil)))))) rfl
          ·have h := if_neg' hp3200 h
           refine g_false (c := q36c96) rfl _ rfl ((decide_eq_false hp3200)) ?_
           refine g_skip (c := q36c98) rfl ?_
           exact g_go [0, 1, 2] (j6 ([0] : List Int) h h3199) ⟨rfl, rfl, rfl, rfl, rfl, rfl, rfl, rfl, rfl, rfl, trivial⟩ (.cons_cons _ (.cons_cons _ (.cons_cons _ (.cons_cons _ (.cons_cons _ (.slnil)))))) rfl
         ·have h := if_neg' hp3196 h
          refine g_true (c := q36c88) rfl _ rfl ((nt (bf hp3196))) ?_
          refine g_exit (c := q36c89) [.code q36c22, .inLoop q36c14, .inBlock 0, .code q36c10] rfl rfl ?_
          refine g_region (c := q36c22) rfl rfl ?_
          refine wl_v 0 rfl (v_move rfl) gn rfl ?_
          refine wl_v 1 rfl (v_bin rfl rfl rfl) gn rfl ?_
          refine wl_v 2 rfl (v_assign rfl) gn rfl ?_
          refine w_end 3 rfl ?_
          refine g_inLoop ?_
          have h := Out.inr hO2 h
          have ih := Out.inl hO1 h
          exact g_go [0, 1, 2] (ih A639 n640 c641 h642 cs643 sw644 sb645 hC646 A648 n649 c650 h651) ⟨rfl, rfl, rfl, rfl, rfl, rfl, trivial⟩ (.cons _ (.cons_cons _ (.cons_cons _ (.cons_cons _ (.slnil))))) rfl
       exact g_go [0, 1, 2] (key5 _ h ()) ⟨rfl, rfl, rfl, rfl, rfl, rfl, rfl, rfl, rfl, rfl, rfl, trivial⟩ (.cons_cons _ (.cons_cons _ (.cons_cons _ (.cons_cons _ (.slnil))))) rfl
     refine g_region (c := q36c60) rfl rfl ?_
     refine wl_v 0 rfl (v_fldB fo_115_0 rfl) gn rfl ?_
     refine wl_v 1 rfl (v_ldB1 0 ld_3 rfl rfl rfl) gn rfl ?_
     refine wl_v 2 rfl (v_fldB fo_58_2 rfl) gn rfl ?_
     refine wl_v 3 rfl (v_fldB fo_47_2 rfl) gn rfl ?_
     refine wl_v 4 rfl (v_ldB1 3 ld_45 rfl rfl rfl) gn rfl ?_
     refine wl_v 5 rfl (v_lenQ un_45 rfl h17.hq) gn rfl ?_
     refine wl_v 6 rfl (v_bin rfl rfl rfl) gn rfl ?_
     refine wl_v 7 rfl (v_move rfl) gn rfl ?_
     by_cases hp3736 : (ix x46 x653).n ≥ (x1.gram.prods.length : Int)
     ·have h := if_pos' hp3736 h
      refine w_bool 114 rfl ((decide_eq_true hp3736)) ?_
      refine wl_pass 8 rfl (ps 114 rfl rfl rfl) ?_
      refine wl_pass 9 rfl (ps 114 rfl rfl rfl) ?_
      refine wl_pass 10 rfl (ps 114 rfl rfl rfl) ?_
      refine wl_pass 11 rfl (ps 114 rfl rfl rfl) ?_
      refine wl_pass 12 rfl (ps 114 rfl rfl rfl) ?_
      refine wl_pass 13 rfl (ps 114 rfl rfl rfl) ?_
      refine wl_pass 14 rfl (ps 114 rfl rfl rfl) ?_
      refine wl_pass 15 rfl (ps 114 rfl rfl rfl) ?_
      refine wl_pass 16 rfl (ps 114 rfl rfl rfl) ?_
      refine wl_v 17 rfl (v_pick (b := true) rfl rfl) gn rfl ?_
      refine w_end 18 rfl ?_
      exact g_go [0, 1, 2] (j4 true h) ⟨rfl, rfl, rfl, rfl, rfl, rfl, rfl, rfl, trivial⟩ (.cons_cons _ (.cons_cons _ (.cons_cons _ (.cons_cons _ (.slnil))))) rfl
     ·have h := if_neg' hp3736 h
      refine w_bool 114 rfl ((decide_eq_false hp3736)) ?_
      refine wl_v 8 rfl (v_fldB fo_58_2 rfl) (gy 114 rfl rfl) rfl ?_
      refine wl_v 9 rfl (v_fldB fo_47_2 rfl) (gy 114 rfl rfl) rfl ?_
      refine wl_v 10 rfl (v_ldB1 3 ld_45 rfl rfl rfl) (gy 114 rfl rfl) rfl ?_
      refine wl_v 11 rfl (v_fldB fo_115_0 rfl) (gy 114 rfl rfl) rfl ?_
      refine wl_v 12 rfl (v_ldB1 0 ld_3 rfl rfl rfl) (gy 114 rfl rfl) rfl ?_
      obtain ⟨hb3737, h⟩ := h
      obtain ⟨ce3739, hK3740, hr3738⟩ := Rw.read (s := St w []) h17 hb3737
      obtain ⟨A3741, n3742, c3743, rfl, h3744⟩ := hK3740
      refine wl_v 13 rfl (v_idxR (s := St w []) slE_45 rfl rfl h17 hb3737) (gy 114 rfl rfl) rfl ?_
      refine wl_v 14 rfl (v_fldA fo_107_0 rfl) (gy 114 rfl rfl) rfl ?_
      refine wl_v 15 rfl (v_ldA1 (kk := ((ix x46 x653).n : Int).toNat * 2) (j := 0) (St w []) ld_3 rfl hr3738 rfl (me 2 rfl)) (gy 114 rfl rfl) rfl ?_
      refine wl_v 16 rfl (v_bin rfl rfl rfl) (gy 114 rfl rfl) rfl ?_
      refine wl_v 17 rfl (v_pick (b := false) rfl rfl) gn rfl ?_
      refine w_end 18 rfl ?_
      exact g_go [0, 1, 2] (j4 (decide ((ix x1.gram.prods ((ix x46 x653).n)).lhs < 0)) h) ⟨rfl, rfl, rfl, rfl, rfl, rfl, rfl, rfl, trivial⟩ (.cons_cons _ (.cons_cons _ (.cons_cons _ (.cons_cons _ (.slnil))))) rfl
   ·have h := if_neg' hp2203 h
    refine g_false (c := q36c18) rfl _ rfl ((bf hp2203)) ?_
    refine g_exit (c := q36c20) [.code q36c10] rfl rfl ?_
    refine g_seq (c := q36c10) rfl ?_
    refine g_region (c := q36c119) rfl rfl ?_
    refine wl_v 0 rfl (v_move rfl) gn rfl ?_
    refine wl_v 1 rfl (v_move rfl) gn rfl ?_
    refine wl_v 2 rfl (v_assign rfl) gn rfl ?_
    refine wl_v 3 rfl (v_assign rfl) gn rfl ?_
    refine wl_v 4 rfl (v_assign rfl) gn rfl ?_
    refine w_end 5 rfl ?_
    have h := Out.inr hO1 h
    refine g_retR (c := q36c120) [.slice A639 n640 c641, .slice A648 n649 c650, .bool true] rfl Try.func36 rfl (.tmp rfl (.tmp rfl (.tmp rfl (.nil)))) fun wr hLr => ?_
    have hMr : B.Loc w wr [.own (.slice A639 n640 c641) 79 3 n640 cs643, .own (.slice A648 n649 c650) 39 7 n649 (x647.flatMap enc_api_Node)] [St w []] := hLr.pick (rest := [.box gb51 58 [.string x1.name, .slice A2 n3 c4, .slice A6 n7 c8, .slice A10 n11 c12, .slice A14 n15 c16, .slice A18 n19 c20, .slice A22 n23 c24, .slice A26 n27 c28, .slice A30 n31 c32, .slice A34 n35 c36, .slice A38 n39 c40, .slice A42 n43 c44]]) (perm_of_idx [0, 1] [2] rfl rfl (by kernel_rfl)) (sels [2] rfl)
    have hMi : ∀ e ∈ ([.own (.slice A639 n640 c641) 79 3 n640 cs643, .own (.slice A648 n649 c650) 39 7 n649 (x647.flatMap enc_api_Node)] : List Ent), e ∈ ([.own (.slice A639 n640 c641) 79 3 n640 cs643, .own (.slice A648 n649 c650) 39 7 n649 (x647.flatMap enc_api_Node), .box gb51 58 [.string x1.name, .slice A2 n3 c4, .slice A6 n7 c8, .slice A10 n11 c12, .slice A14 n15 c16, .slice A18 n19 c20, .slice A22 n23 c24, .slice A26 n27 c28, .slice A30 n31 c32, .slice A34 n35 c36, .slice A38 n39 c40, .slice A42 n43 c44]] : List Ent) := sels [0, 1] rfl
    show trellislaw15_made_R w F  r (.returned (packV [.slice A639 n640 c641, .slice A648 n649 c650, .bool true])) wr
    rw [h]
    exact ⟨A639, n640, c641, cs643, A648, n649, c650, rfl, hMr, h642, (hLr.outC (s := Sm w.heap.size F sw644 sb645) hMi (me 0 rfl) Sm.ok hC646), h651⟩
  refine g_region (c := q36c17) rfl rfl ?_
  refine wl_v 0 rfl (v_move rfl) gn rfl ?_
  refine wl_v 1 rfl (v_move rfl) gn rfl ?_
  refine wl_v 2 rfl (v_lenQ un_71 rfl h50.hq) gn rfl ?_
  refine wl_v 3 rfl (v_bin rfl rfl rfl) gn rfl ?_
  refine wl_v 4 rfl (v_move rfl) gn rfl ?_
  by_cases hp3745 : x653 < (x46.length : Int)
  ·have h := if_pos' hp3745 h
   refine w_bool 28 rfl ((decide_eq_true hp3745)) ?_
   refine wl_v 5 rfl (v_move rfl) (gy 28 rfl rfl) rfl ?_
   refine wl_v 6 rfl (v_bin rfl rfl rfl) (gy 28 rfl rfl) rfl ?_
   refine wl_v 7 rfl (v_pick (b := true) rfl rfl) gn rfl ?_
   refine w_end 8 rfl ?_
   exact g_go [0, 1, 2] (j2 (decide (x653 < 65536)) h) ⟨rfl, rfl, rfl, rfl, rfl, rfl, rfl, trivial⟩ (.cons_cons _ (.cons_cons _ (.cons_cons _ (.slnil)))) rfl
  ·have h := if_neg' hp3745 h
   refine w_bool 28 rfl ((decide_eq_false hp3745)) ?_
   refine wl_pass 5 rfl (ps 28 rfl rfl rfl) ?_
   refine wl_pass 6 rfl (ps 28 rfl rfl rfl) ?_
   refine wl_v 7 rfl (v_pick (b := false) rfl rfl) gn rfl ?_
   refine w_end 8 rfl ?_
   exact g_go [0, 1, 2] (j2 false h) ⟨rfl, rfl, rfl, rfl, rfl, rfl, rfl, trivial⟩ (.cons_cons _ (.cons_cons _ (.cons_cons _ (.slnil)))) rfl
 refine g_nil 39 7 ?_
 refine g_nil 79 3 ?_
 exact g_go [0, 0, 1] (key1 _ h none 0 0 (Ow.nil (z := w.heap.size)) [] w [] Cells.nil none 0 0 (Ow.nil (z := w.heap.size))) ⟨rfl, rfl, rfl, rfl, rfl, rfl, trivial⟩ (.cons_cons _ (.cons_cons _ (.cons_cons _ (.slnil)))) rfl
noncomputable abbrev q8c0 : Code := bodyOf Try.f8
noncomputable abbrev q8c1 : Code := Code.fst q8c0
noncomputable abbrev q8c2 : Code := Code.snd q8c0
noncomputable abbrev q8c3 : Code := Code.fst q8c2
noncomputable abbrev q8c4 : Code := Code.snd q8c2
noncomputable abbrev q8c5 : Code := Code.fst q8c3
noncomputable abbrev q8c6 : Code := Code.snd q8c3
noncomputable abbrev q8c7 : Code := Code.fst q8c6
noncomputable abbrev q8c8 : Code := Code.snd q8c6
noncomputable abbrev q8c9 : Code := Code.fst q8c4
noncomputable abbrev q8c10 : Code := Code.snd q8c4
noncomputable abbrev q8c11 : Code := Code.fst q8c10
noncomputable abbrev q8c12 : Code := Code.snd q8c10
noncomputable abbrev q8c13 : Code := Code.fst q8c11
noncomputable abbrev q8c14 : Code := Code.snd q8c11
noncomputable abbrev q8c15 : Code := Code.fst q8c14
noncomputable abbrev q8c16 : Code := Code.snd q8c14
noncomputable abbrev q8c17 : Code := Code.fst q8c12
noncomputable abbrev q8c18 : Code := Code.snd q8c12
noncomputable abbrev q8c19 : Code := Code.fst q8c17
noncomputable abbrev q8c20 : Code := Code.snd q8c17
noncomputable abbrev q8c21 : Code := Code.fst q8c20
noncomputable abbrev q8c22 : Code := Code.fst q8c21
noncomputable abbrev q8c23 : Code := Code.fst q8c22
noncomputable abbrev q8c24 : Code := Code.snd q8c22
noncomputable abbrev q8c25 : Code := Code.fst q8c23
noncomputable abbrev q8c26 : Code := Code.snd q8c23
noncomputable abbrev q8c27 : Code := Code.fst q8c26
noncomputable abbrev q8c28 : Code := Code.snd q8c26
noncomputable abbrev q8c29 : Code := Code.fst q8c24
noncomputable abbrev q8c30 : Code := Code.snd q8c24
noncomputable abbrev q8c31 : Code := Code.fst q8c29
noncomputable abbrev q8c32 : Code := Code.fst q8c31
noncomputable abbrev q8c33 : Code := Code.snd q8c31
noncomputable abbrev q8c34 : Code := Code.fst q8c33
noncomputable abbrev q8c35 : Code := Code.snd q8c33
noncomputable abbrev q8c36 : Code := Code.fst q8c35
noncomputable abbrev q8c37 : Code := Code.snd q8c35
noncomputable abbrev q8c38 : Code := Code.fst q8c36
noncomputable abbrev q8c39 : Code := Code.snd q8c36
noncomputable abbrev q8c40 : Code := Code.fst q8c39
noncomputable abbrev q8c41 : Code := Code.fst q8c40
noncomputable abbrev q8c42 : Code := Code.fst q8c41
noncomputable abbrev q8c43 : Code := Code.snd q8c41
noncomputable abbrev q8c44 : Code := Code.fst q8c42
noncomputable abbrev q8c45 : Code := Code.snd q8c42
noncomputable abbrev q8c46 : Code := Code.fst q8c45
noncomputable abbrev q8c47 : Code := Code.snd q8c45
noncomputable abbrev q8c48 : Code := Code.fst q8c43
noncomputable abbrev q8c49 : Code := Code.snd q8c43
noncomputable abbrev q8c50 : Code := Code.fst q8c48
noncomputable abbrev q8c51 : Code := Code.fst q8c50
noncomputable abbrev q8c52 : Code := Code.snd q8c50
noncomputable abbrev q8c53 : Code := Code.fst q8c52
noncomputable abbrev q8c54 : Code := Code.snd q8c52
noncomputable abbrev q8c55 : Code := Code.fst q8c37
noncomputable abbrev q8c56 : Code := Code.snd q8c37
noncomputable abbrev q8c57 : Code := Code.fst q8c56
noncomputable abbrev q8c58 : Code := Code.snd q8c56
noncomputable abbrev q8c59 : Code := Code.fst q8c57
noncomputable abbrev q8c60 : Code := Code.snd q8c57
noncomputable abbrev q8c61 : Code := Code.fst q8c60
noncomputable abbrev q8c62 : Code := Code.snd q8c60
noncomputable abbrev q8c63 : Code := Code.fst q8c58
noncomputable abbrev q8c64 : Code := Code.snd q8c58
noncomputable abbrev q8c65 : Code := Code.fst q8c64
noncomputable abbrev q8c66 : Code := Code.fst q8c65
noncomputable abbrev q8c67 : Code := Code.fst q8c66
noncomputable abbrev q8c68 : Code := Code.snd q8c66
noncomputable abbrev q8c69 : Code := Code.fst q8c67
noncomputable abbrev q8c70 : Code := Code.snd q8c67
noncomputable abbrev q8c71 : Code := Code.fst q8c70
noncomputable abbrev q8c72 : Code := Code.snd q8c70
noncomputable abbrev q8c73 : Code := Code.fst q8c68
noncomputable abbrev q8c74 : Code := Code.snd q8c68
noncomputable abbrev q8c75 : Code := Code.fst q8c73
noncomputable abbrev q8c76 : Code := Code.fst q8c75
noncomputable abbrev q8c77 : Code := Code.snd q8c75
noncomputable abbrev q8c78 : Code := Code.fst q8c77
noncomputable abbrev q8c79 : Code := Code.snd q8c77
noncomputable abbrev q8c80 : Code := Code.fst q8c78
noncomputable abbrev q8c81 : Code := Code.snd q8c78
noncomputable abbrev q8c82 : Code := Code.fst q8c81
noncomputable abbrev q8c83 : Code := Code.snd q8c81
noncomputable abbrev q8c84 : Code := Code.fst q8c79
noncomputable abbrev q8c85 : Code := Code.snd q8c79
noncomputable abbrev q8c86 : Code := Code.fst q8c85
noncomputable abbrev q8c87 : Code := Code.snd q8c85
noncomputable abbrev q8c88 : Code := Code.fst q8c86
noncomputable abbrev q8c89 : Code := Code.snd q8c86
noncomputable abbrev q8c90 : Code := Code.fst q8c61
noncomputable abbrev q8c91 : Code := Code.snd q8c61
noncomputable abbrev q8c92 : Code := Code.fst q8c18
noncomputable abbrev q8c93 : Code := Code.snd q8c18
noncomputable abbrev q8c94 : Code := Code.fst q8c15
noncomputable abbrev q8c95 : Code := Code.snd q8c15
noncomputable abbrev q8c96 : Code := Code.fst q8c7
noncomputable abbrev q8c97 : Code := Code.snd q8c7
abbrev trellislaw15_TreeCovers_R (w : World) (F : Nat → Prop) (r : Bool) : Ending → World → Prop := fun e w' => e = .returned (.bool r) ∧ B.Loc w w' [] [St w []]
noncomputable abbrev trellislaw15_TreeCovers_C (w : World) (F : Nat → Prop) (r : Bool) : Cx := ⟨Try.prog, 8, Try.f8, 93, trellislaw15_TreeCovers_R w F  r, w⟩
theorem trellislaw15_TreeCovers_calls (w : World) (F : Nat → Prop) (x1 : api_Lang) (x46 : List trellislaw15_Op) (x51 : Int) (A2 : Option Addr) (n3 : Nat) (c4 : Nat) (A6 : Option Addr) (n7 : Nat) (c8 : Nat) (A10 : Option Addr) (n11 : Nat) (c12 : Nat) (A14 : Option Addr) (n15 : Nat) (c16 : Nat) (A18 : Option Addr) (n19 : Nat) (c20 : Nat) (A22 : Option Addr) (n23 : Nat) (c24 : Nat) (A26 : Option Addr) (n27 : Nat) (c28 : Nat) (A30 : Option Addr) (n31 : Nat) (c32 : Nat) (A34 : Option Addr) (n35 : Nat) (c36 : Nat) (A38 : Option Addr) (n39 : Nat) (c40 : Nat) (A42 : Option Addr) (n43 : Nat) (c44 : Nat) (A47 : Option Addr) (n48 : Nat) (c49 : Nat) (h5 : Rw k_api_ModeDef w (St w []).av A2 n3 c4 x1.modes) (h9 : Rw k_api_TermDef w (St w []).av A6 n7 c8 x1.gram.terms) (h13 : Rw k_api_Sym w (St w []).av A10 n11 c12 x1.gram.syms) (h17 : Rw k_api_Prod w (St w []).av A14 n15 c16 x1.gram.prods) (h21 : Rw k_api_Rule w (St w []).av A18 n19 c20 x1.rules) (h25 : Rw (Kd.slice k_api_Action) w (St w []).av A22 n23 c24 x1.table.actions) (h29 : Rw (Kd.slice (kInt .i64)) w (St w []).av A26 n27 c28 x1.table.gotos) (h33 : Rw k_api_PaintDef w (St w []).av A30 n31 c32 x1.paints) (h37 : Rw kStr w (St w []).av A34 n35 c36 x1.folds) (h41 : Rw k_api_MarkDef w (St w []).av A38 n39 c40 x1.marks) (h45 : Rw k_api_InjectDef w (St w []).av A42 n43 c44 x1.injects) (h50 : Rw k_trellislaw15_Op w (St w []).av A47 n48 c49 x46) (hF : ∀ b, F b → b < w.heap.size ∧ ∀ o ∈ ([] : List (List Nat)), b ∉ o) (hL0 : B.Loc w w [] [Sm w.heap.size F w [], St w []]) (r : Bool) (h : trellislaw15_TreeCovers x1 x46 x51 r) : Calls Try.prog 8 #[.agg #[.string x1.name, .slice A2 n3 c4, .slice A6 n7 c8, .slice A10 n11 c12, .slice A14 n15 c16, .slice A18 n19 c20, .slice A22 n23 c24, .slice A26 n27 c28, .slice A30 n31 c32, .slice A34 n35 c36, .slice A38 n39 c40, .slice A42 n43 c44], .slice A47 n48 c49, .int .i64 x51] w (trellislaw15_TreeCovers_R w F  r) := by
 unfold trellislaw15_TreeCovers at h
 refine calls_of_Loc (vs := [.agg #[.string x1.name, .slice A2 n3 c4, .slice A6 n7 c8, .slice A10 n11 c12, .slice A14 n15 c16, .slice A18 n19 c20, .slice A22 n23 c24, .slice A26 n27 c28, .slice A30 n31 c32, .slice A34 n35 c36, .slice A38 n39 c40, .slice A42 n43 c44], .slice A47 n48 c49, .int .i64 x51]) 93 Try.func8 rfl Try.ntmps8 rfl hL0 ?_
 show G (trellislaw15_TreeCovers_C w F r) _ _ _ _
 refine g_seq (c := q8c0) rfl ?_
 refine g_region (c := q8c1) rfl rfl ?_
 refine wl_s 0 rfl (s_box [.string x1.name, .slice A2 n3 c4, .slice A6 n7 c8, .slice A10 n11 c12, .slice A14 n15 c16, .slice A18 n19 c20, .slice A22 n23 c24, .slice A26 n27 c28, .slice A30 n31 c32, .slice A34 n35 c36, .slice A38 n39 c40, .slice A42 n43 c44] rfl rfl rfl fun gb52 => ?_) gn
 refine wl_v 1 rfl (v_assign rfl) gn rfl ?_
 refine w_end 2 rfl ?_
 refine g_seq (c := q8c2) rfl ?_
 refine g_seq (c := q8c3) rfl ?_
 refine g_region (c := q8c5) rfl rfl ?_
 obtain ⟨r57, hv58, h⟩ := h
 refine wl_s 0 rfl (s_call [] rfl Try.func31 rfl rfl rfl fun w54 hL55 => ?_) gn
 have hp56 : List.Perm ([.box gb52 58 [.string x1.name, .slice A2 n3 c4, .slice A6 n7 c8, .slice A10 n11 c12, .slice A14 n15 c16, .slice A18 n19 c20, .slice A22 n23 c24, .slice A26 n27 c28, .slice A30 n31 c32, .slice A34 n35 c36, .slice A38 n39 c40, .slice A42 n43 c44]] : List Ent) (([] : List Ent) ++ ([.box gb52 58 [.string x1.name, .slice A2 n3 c4, .slice A6 n7 c8, .slice A10 n11 c12, .slice A14 n15 c16, .slice A18 n19 c20, .slice A22 n23 c24, .slice A26 n27 c28, .slice A30 n31 c32, .slice A34 n35 c36, .slice A38 n39 c40, .slice A42 n43 c44]] : List Ent)) := perm_of_idx [] [0] rfl rfl (by kernel_rfl)
 refine Calls.mono (trellislaw15_alive_calls w54 (Fl ([] : List Snap)) (hL55.hFl (Sl := ([] : List Snap)) hp56 (sels [] rfl)) (hL55.into hp56 (Fl ([] : List Snap))) r57 hv58) ?_
 rintro _ w59 ⟨rfl, hM60⟩
 have hL61 := hL55.call hp56 hM60
 refine ⟨_, _, _, rfl, hL61, ?_⟩
 refine wl_v 1 rfl (v_not rfl) gn rfl ?_
 refine w_end 2 rfl ?_
 by_cases hp62 : r57 = true
 ·have h := if_pos' hp62 h
  refine g_false (c := q8c6) rfl _ rfl ((nf hp62)) ?_
  refine g_skip (c := q8c8) rfl ?_
  refine g_seq (c := q8c4) rfl ?_
  refine g_region (c := q8c9) rfl rfl ?_
  refine wl_v 0 rfl (v_ldB [.string x1.name, .slice A2 n3 c4, .slice A6 n7 c8, .slice A10 n11 c12, .slice A14 n15 c16, .slice A18 n19 c20, .slice A22 n23 c24, .slice A26 n27 c28, .slice A30 n31 c32, .slice A34 n35 c36, .slice A38 n39 c40, .slice A42 n43 c44] 0 ld_58 rfl rfl rfl rfl) gn rfl ?_
  refine wl_v 1 rfl (v_move rfl) gn rfl ?_
  obtain ⟨r66, hv67, h⟩ := h
  refine wl_s 2 rfl (s_call [.agg #[.string x1.name, .slice A2 n3 c4, .slice A6 n7 c8, .slice A10 n11 c12, .slice A14 n15 c16, .slice A18 n19 c20, .slice A22 n23 c24, .slice A26 n27 c28, .slice A30 n31 c32, .slice A34 n35 c36, .slice A38 n39 c40, .slice A42 n43 c44], .slice A47 n48 c49] rfl Try.func36 rfl rfl rfl fun w63 hL64 => ?_) gn
  have hp65 : List.Perm ([.box gb52 58 [.string x1.name, .slice A2 n3 c4, .slice A6 n7 c8, .slice A10 n11 c12, .slice A14 n15 c16, .slice A18 n19 c20, .slice A22 n23 c24, .slice A26 n27 c28, .slice A30 n31 c32, .slice A34 n35 c36, .slice A38 n39 c40, .slice A42 n43 c44]] : List Ent) (([] : List Ent) ++ ([.box gb52 58 [.string x1.name, .slice A2 n3 c4, .slice A6 n7 c8, .slice A10 n11 c12, .slice A14 n15 c16, .slice A18 n19 c20, .slice A22 n23 c24, .slice A26 n27 c28, .slice A30 n31 c32, .slice A34 n35 c36, .slice A38 n39 c40, .slice A42 n43 c44]] : List Ent)) := perm_of_idx [] [0] rfl rfl (by kernel_rfl)
  refine Calls.mono (trellislaw15_made_calls w63 (Fl ([] : List Snap)) x1 x46 A2 n3 c4 A6 n7 c8 A10 n11 c12 A14 n15 c16 A18 n19 c20 A22 n23 c24 A26 n27 c28 A30 n31 c32 A34 n35 c36 A38 n39 c40 A42 n43 c44 A47 n48 c49 (Rw.mono h5 (hL64.toSt hp65 (me 1 rfl))) (Rw.mono h9 (hL64.toSt hp65 (me 1 rfl))) (Rw.mono h13 (hL64.toSt hp65 (me 1 rfl))) (Rw.mono h17 (hL64.toSt hp65 (me 1 rfl))) (Rw.mono h21 (hL64.toSt hp65 (me 1 rfl))) (Rw.mono h25 (hL64.toSt hp65 (me 1 rfl))) (Rw.mono h29 (hL64.toSt hp65 (me 1 rfl))) (Rw.mono h33 (hL64.toSt hp65 (me 1 rfl))) (Rw.mono h37 (hL64.toSt hp65 (me 1 rfl))) (Rw.mono h41 (hL64.toSt hp65 (me 1 rfl))) (Rw.mono h45 (hL64.toSt hp65 (me 1 rfl))) (Rw.mono h50 (hL64.toSt hp65 (me 1 rfl))) (hL64.hFl (Sl := ([] : List Snap)) hp65 (sels [] rfl)) (hL64.into hp65 (Fl ([] : List Snap))) r66 hv67) ?_
  rintro _ w80 ⟨A68, n69, c70, cs73, A75, n76, c77, rfl, hM81, h71, hC74, h78⟩
  obtain ⟨sb84, hL82, hv83⟩ := hL64.callB (Sl := ([] : List Snap)) hp65 hM81 F (sels [] rfl) trivial
  have hC74 : Cells k_trellislaw15_Made (Sm w.heap.size F w80 sb84).w (Sm w.heap.size F w80 sb84).av r66.1 cs73 := Cells.mono hv83 hC74
  refine ⟨_, _, _, rfl, hL82, ?_⟩
  refine wl_v 3 rfl (v_move rfl) gn rfl ?_
  refine wl_v 4 rfl (v_extract rfl rfl) gn rfl ?_
  refine wl_v 5 rfl (v_extract rfl rfl) gn rfl ?_
  refine wl_v 6 rfl (v_extract rfl rfl) gn rfl ?_
  refine wl_v 7 rfl (v_assign rfl) gn rfl ?_
  refine wl_v 8 rfl (v_assign rfl) gn rfl ?_
  refine wl_v 9 rfl (v_assign rfl) gn rfl ?_
  refine w_end 10 rfl ?_
  refine g_seq (c := q8c10) rfl ?_
  refine g_seq (c := q8c11) rfl ?_
  refine g_region (c := q8c13) rfl rfl ?_
  refine wl_v 0 rfl (v_move rfl) gn rfl ?_
  refine wl_v 1 rfl (v_not rfl) gn rfl ?_
  refine w_end 2 rfl ?_
  by_cases hp85 : r66.2.2 = true
  ·have h := if_pos' hp85 h
   refine g_false (c := q8c14) rfl _ rfl ((nf hp85)) ?_
   refine g_skip (c := q8c16) rfl ?_
   refine g_seq (c := q8c12) rfl ?_
   refine g_seq (c := q8c17) rfl ?_
   refine g_region (c := q8c19) rfl rfl ?_
   refine wl_v 0 rfl (v_assign rfl) gn rfl ?_
   refine w_end 1 rfl ?_
   refine g_block (c := q8c20) rfl ?_
   refine g_loop (c := q8c21) rfl ?_
   have key1 : ∀ s, Rounds (fun (s : Int) o => trellislaw15_TreeCovers_b1 r66 x51 s o) s r → (fun (s : Int) => ∀ (_ : Unit), G (trellislaw15_TreeCovers_C w F r) [.code q8c22, .inLoop q8c22, .inBlock 0, .code q8c18] [(2, .int .i64 x51), (7, .slice A68 n69 c70), (10, .int .i64 s)] [.own (.slice A68 n69 c70) 79 3 n69 cs73] [Sm w.heap.size F w80 sb84, Sm w.heap.size F w [], St w []]) s := by
    intro s hs
    refine Rounds.ind (mot := (fun (s : Int) => ∀ (_ : Unit), G (trellislaw15_TreeCovers_C w F r) [.code q8c22, .inLoop q8c22, .inBlock 0, .code q8c18] [(2, .int .i64 x51), (7, .slice A68 n69 c70), (10, .int .i64 s)] [.own (.slice A68 n69 c70) 79 3 n69 cs73] [Sm w.heap.size F w80 sb84, Sm w.heap.size F w [], St w []])) ?_ hs
    clear hs s
    intro x351 o1 h hO1
    show ∀ (_ : Unit), G (trellislaw15_TreeCovers_C w F r) [.code q8c22, .inLoop q8c22, .inBlock 0, .code q8c18] [(2, .int .i64 x51), (7, .slice A68 n69 c70), (10, .int .i64 x351)] [.own (.slice A68 n69 c70) 79 3 n69 cs73] [Sm w.heap.size F w80 sb84, Sm w.heap.size F w [], St w []]
    intro _
    have h : trellislaw15_TreeCovers_b1 r66 x51 x351 o1 := h
    unfold trellislaw15_TreeCovers_b1 at h
    refine g_seq (c := q8c22) rfl ?_
    refine g_seq (c := q8c23) rfl ?_
    refine g_region (c := q8c25) rfl rfl ?_
    refine wl_v 0 rfl (v_move rfl) gn rfl ?_
    refine wl_v 1 rfl (v_move rfl) gn rfl ?_
    refine wl_v 2 rfl (v_lenQ un_75 rfl (Ow.weak hL64.env.size h71).hq) gn rfl ?_
    refine wl_v 3 rfl (v_bin rfl rfl rfl) gn rfl ?_
    refine w_end 4 rfl ?_
    by_cases hp616 : x351 < (r66.1.length : Int)
    ·have h := if_pos' hp616 h
     refine g_true (c := q8c26) rfl _ rfl ((decide_eq_true hp616)) ?_
     refine g_skip (c := q8c27) rfl ?_
     refine g_seq (c := q8c24) rfl ?_
     refine g_block (c := q8c29) rfl ?_
     refine g_seq (c := q8c31) rfl ?_
     refine g_region (c := q8c32) rfl rfl ?_
     refine wl_v 0 rfl (v_move rfl) gn rfl ?_
     refine wl_v 1 rfl (v_move rfl) gn rfl ?_
     obtain ⟨hb617, h⟩ := h
     obtain ⟨ce618, hK619, ht620, hg621⟩ := Cells.get hC74 hb617
     obtain ⟨A622, n623, c624, rfl, h625⟩ := hK619
     refine wl_v 2 rfl (v_idxO slE_75 rfl rfl (Ow.weak hL64.env.size h71) hb617) gn rfl ?_
     refine wl_v 3 rfl (v_fldA fo_79_1 rfl) gn rfl ?_
     refine wl_v 4 rfl (v_ldO1 (.slice A622 n623 c624) 0 ld_22 rfl rfl (hg621 1 _ rfl)) gn rfl ?_
     refine wl_v 5 rfl (v_assign rfl) gn rfl ?_
     refine w_end 6 rfl ?_
     refine g_seq (c := q8c33) rfl ?_
     refine g_region (c := q8c34) rfl rfl ?_
     refine wl_v 0 rfl (v_assign rfl) gn rfl ?_
     refine w_end 1 rfl ?_
     refine g_seq (c := q8c35) rfl ?_
     refine g_seq (c := q8c36) rfl ?_
     refine g_region (c := q8c38) rfl rfl ?_
     refine wl_v 0 rfl (v_assign rfl) gn rfl ?_
     refine w_end 1 rfl ?_
     refine g_block (c := q8c39) rfl ?_
     refine g_loop (c := q8c40) rfl ?_
     have key2 : ∀ s, Rounds (fun (s : (List Int) × Int) o => trellislaw15_TreeCovers_b2 r66 x351 x51 s.1 s.2 o) s o1 → (fun (s : (List Int) × Int) => ∀ (A711 : Option Addr) (n712 : Nat) (c713 : Nat) (h714 : Ow w.heap.size A711 n712 c713 s.1), G (trellislaw15_TreeCovers_C w F r) [.code q8c41, .inLoop q8c41, .inBlock 2, .code q8c37, .inBlock 1, .code q8c30, .inLoop q8c22, .inBlock 0, .code q8c18] [(2, .int .i64 x51), (7, .slice A68 n69 c70), (10, .int .i64 x351), (11, .slice A622 n623 c624), (12, .slice A711 n712 c713), (13, .int .i64 s.2)] [.own (.slice A711 n712 c713) 3 1 n712 (s.1.flatMap (eI .i64)), .own (.slice A68 n69 c70) 79 3 n69 cs73] [Sm w.heap.size F w80 sb84, Sm w.heap.size F w [], St w []]) s := by
      intro s hs
      refine Rounds.ind (mot := (fun (s : (List Int) × Int) => ∀ (A711 : Option Addr) (n712 : Nat) (c713 : Nat) (h714 : Ow w.heap.size A711 n712 c713 s.1), G (trellislaw15_TreeCovers_C w F r) [.code q8c41, .inLoop q8c41, .inBlock 2, .code q8c37, .inBlock 1, .code q8c30, .inLoop q8c22, .inBlock 0, .code q8c18] [(2, .int .i64 x51), (7, .slice A68 n69 c70), (10, .int .i64 x351), (11, .slice A622 n623 c624), (12, .slice A711 n712 c713), (13, .int .i64 s.2)] [.own (.slice A711 n712 c713) 3 1 n712 (s.1.flatMap (eI .i64)), .own (.slice A68 n69 c70) 79 3 n69 cs73] [Sm w.heap.size F w80 sb84, Sm w.heap.size F w [], St w []])) ?_ hs
      clear hs s
      intro s o2 h hO2
      obtain ⟨x710, x715⟩ := s
      show ∀ (A711 : Option Addr) (n712 : Nat) (c713 : Nat) (h714 : Ow w.heap.size A711 n712 c713 x710), G (trellislaw15_TreeCovers_C w F r) [.code q8c41, .inLoop q8c41, .inBlock 2, .code q8c37, .inBlock 1, .code q8c30, .inLoop q8c22, .inBlock 0, .code q8c18] [(2, .int .i64 x51), (7, .slice A68 n69 c70), (10, .int .i64 x351), (11, .slice A622 n623 c624), (12, .slice A711 n712 c713), (13, .int .i64 x715)] [.own (.slice A711 n712 c713) 3 1 n712 (x710.flatMap (eI .i64)), .own (.slice A68 n69 c70) 79 3 n69 cs73] [Sm w.heap.size F w80 sb84, Sm w.heap.size F w [], St w []]
      intro A711 n712 c713 h714
      have h : trellislaw15_TreeCovers_b2 r66 x351 x51 x710 x715 o2 := h
      unfold trellislaw15_TreeCovers_b2 at h
      refine g_seq (c := q8c41) rfl ?_
      refine g_seq (c := q8c42) rfl ?_
      refine g_region (c := q8c44) rfl rfl ?_
      refine wl_v 0 rfl (v_move rfl) gn rfl ?_
      refine wl_v 1 rfl (v_move rfl) gn rfl ?_
      refine wl_v 2 rfl (v_lenQ un_22 rfl h625.hq) gn rfl ?_
      refine wl_v 3 rfl (v_bin rfl rfl rfl) gn rfl ?_
      refine w_end 4 rfl ?_
      by_cases hp798 : x715 < (((ix r66.1 x351).t).length : Int)
      ·have h := if_pos' hp798 h
       refine g_true (c := q8c45) rfl _ rfl ((decide_eq_true hp798)) ?_
       refine g_skip (c := q8c46) rfl ?_
       refine g_seq (c := q8c43) rfl ?_
       refine g_block (c := q8c48) rfl ?_
       refine g_seq (c := q8c50) rfl ?_
       refine g_region (c := q8c51) rfl rfl ?_
       refine wl_v 0 rfl (v_move rfl) gn rfl ?_
       refine wl_v 1 rfl (v_move rfl) gn rfl ?_
       obtain ⟨hb799, h⟩ := h
       have hr800 := Rw.readF (s := Sm w.heap.size F w80 sb84) (hl := hl_api_Node) (h1 := h1_api_Node) h625 hb799
       refine wl_v 2 rfl (v_idxR (s := Sm w.heap.size F w80 sb84) slE_22 rfl rfl h625 hb799) gn rfl ?_
       refine wl_v 3 rfl (v_fldA fo_39_3 rfl) gn rfl ?_
       refine wl_v 4 rfl (v_ldA1 (kk := (x715 : Int).toNat * 7) (j := 3) (Sm w.heap.size F w80 sb84) ld_3 rfl hr800 rfl (me 0 rfl)) gn rfl ?_
       refine wl_v 5 rfl (v_move rfl) gn rfl ?_
       refine wl_v 6 rfl (v_bin rfl rfl rfl) gn rfl ?_
       refine wl_v 7 rfl (v_move rfl) gn rfl ?_
       by_cases hp801 : (ix ((ix r66.1 x351).t) x715).from_ ≤ x51
       ·have h := if_pos' hp801 h
        refine w_bool 52 rfl ((decide_eq_true hp801)) ?_
        refine wl_v 8 rfl (v_move rfl) (gy 52 rfl rfl) rfl ?_
        refine wl_v 9 rfl (v_move rfl) (gy 52 rfl rfl) rfl ?_
        refine wl_v 10 rfl (v_move rfl) (gy 52 rfl rfl) rfl ?_
        have hr802 := Rw.readF (s := Sm w.heap.size F w80 sb84) (hl := hl_api_Node) (h1 := h1_api_Node) h625 hb799
        refine wl_v 11 rfl (v_idxR (s := Sm w.heap.size F w80 sb84) slE_22 rfl rfl h625 hb799) (gy 52 rfl rfl) rfl ?_
        refine wl_v 12 rfl (v_fldA fo_39_4 rfl) (gy 52 rfl rfl) rfl ?_
        refine wl_v 13 rfl (v_ldA1 (kk := (x715 : Int).toNat * 7) (j := 4) (Sm w.heap.size F w80 sb84) ld_3 rfl hr802 rfl (me 0 rfl)) (gy 52 rfl rfl) rfl ?_
        refine wl_v 14 rfl (v_bin rfl rfl rfl) (gy 52 rfl rfl) rfl ?_
        refine wl_v 15 rfl (v_pick (b := true) rfl rfl) gn rfl ?_
        refine w_end 16 rfl ?_
        by_cases hp803 : x51 < (ix ((ix r66.1 x351).t) x715).to
        ·have h := if_pos' hp803 h
         refine g_true (c := q8c52) rfl _ rfl ((decide_eq_true hp803)) ?_
         refine g_region (c := q8c53) rfl rfl ?_
         refine wl_v 0 rfl (v_move rfl) gn rfl ?_
         refine wl_v 1 rfl (v_move rfl) gn rfl ?_
         refine wl_s 2 rfl (s_litO (xs := ([x715] : List Int)) [.int .i64 x715] bs_23_1 rfl (by kernel_rfl) rfl rfl rfl rfl fun gb805 h806 => ?_) gn
         obtain ⟨x810, hv811, h⟩ := h
         obtain ⟨hb812, h⟩ := h
         refine wl_s 3 rfl (s_app (zs := x810) (cells' := x810.flatMap (eI .i64)) 1 ap_23 rfl rfl rfl h714 (Nat.le_refl _) (Src.ownF (hl := (hlI .i64)) (h1 := (hone_int .i64)) 0 rfl h806) (by rw [hv811, List.flatMap_append] <;> rfl) (app_len hv811 h806.hq) hb812 rfl rfl fun A807 c808 h809 => ?_) gn
         refine wl_v 4 rfl (v_assign rfl) gn rfl ?_
         refine w_end 5 rfl ?_
         refine g_inBlock ?_
         refine g_region (c := q8c49) rfl rfl ?_
         refine wl_v 0 rfl (v_move rfl) gn rfl ?_
         refine wl_v 1 rfl (v_bin rfl rfl rfl) gn rfl ?_
         refine wl_v 2 rfl (v_assign rfl) gn rfl ?_
         refine w_end 3 rfl ?_
         refine g_inLoop ?_
         have ih := Out.inl hO2 h
         exact g_go [0, 1, 2] (ih A807 (n712 + 1) c808 h809) ⟨rfl, rfl, rfl, rfl, rfl, rfl, trivial⟩ (.cons _ (.cons_cons _ (.cons_cons _ (.slnil)))) rfl
        ·have h := if_neg' hp803 h
         refine g_false (c := q8c52) rfl _ rfl ((decide_eq_false hp803)) ?_
         refine g_skip (c := q8c54) rfl ?_
         refine g_inBlock ?_
         refine g_region (c := q8c49) rfl rfl ?_
         refine wl_v 0 rfl (v_move rfl) gn rfl ?_
         refine wl_v 1 rfl (v_bin rfl rfl rfl) gn rfl ?_
         refine wl_v 2 rfl (v_assign rfl) gn rfl ?_
         refine w_end 3 rfl ?_
         refine g_inLoop ?_
         have ih := Out.inl hO2 h
         exact g_go [0, 1, 2] (ih A711 n712 c713 h714) ⟨rfl, rfl, rfl, rfl, rfl, rfl, trivial⟩ (.cons_cons _ (.cons_cons _ (.slnil))) rfl
       ·have h := if_neg' hp801 h
        refine w_bool 52 rfl ((decide_eq_false hp801)) ?_
        refine wl_pass 8 rfl (ps 52 rfl rfl rfl) ?_
        refine wl_pass 9 rfl (ps 52 rfl rfl rfl) ?_
        refine wl_pass 10 rfl (ps 52 rfl rfl rfl) ?_
        refine wl_pass 11 rfl (ps 52 rfl rfl rfl) ?_
        refine wl_pass 12 rfl (ps 52 rfl rfl rfl) ?_
        refine wl_pass 13 rfl (ps 52 rfl rfl rfl) ?_
        refine wl_pass 14 rfl (ps 52 rfl rfl rfl) ?_
        refine wl_v 15 rfl (v_pick (b := false) rfl rfl) gn rfl ?_
        refine w_end 16 rfl ?_
        refine g_false (c := q8c52) rfl _ rfl (rfl) ?_
        refine g_skip (c := q8c54) rfl ?_
        refine g_inBlock ?_
        refine g_region (c := q8c49) rfl rfl ?_
        refine wl_v 0 rfl (v_move rfl) gn rfl ?_
        refine wl_v 1 rfl (v_bin rfl rfl rfl) gn rfl ?_
        refine wl_v 2 rfl (v_assign rfl) gn rfl ?_
        refine w_end 3 rfl ?_
        refine g_inLoop ?_
        have ih := Out.inl hO2 h
        exact g_go [0, 1, 2] (ih A711 n712 c713 h714) ⟨rfl, rfl, rfl, rfl, rfl, rfl, trivial⟩ (.cons_cons _ (.cons_cons _ (.slnil))) rfl
      ·have h := if_neg' hp798 h
       refine g_false (c := q8c45) rfl _ rfl ((decide_eq_false hp798)) ?_
       refine g_exit (c := q8c47) [.code q8c37, .inBlock 1, .code q8c30, .inLoop q8c22, .inBlock 0, .code q8c18] rfl rfl ?_
       refine g_seq (c := q8c37) rfl ?_
       refine g_region (c := q8c55) rfl rfl ?_
       refine wl_v 0 rfl (v_move rfl) gn rfl ?_
       refine wl_v 1 rfl (v_move rfl) gn rfl ?_
       obtain ⟨r816, hv817, h⟩ := h
       refine wl_s 2 rfl (s_call [.slice A622 n623 c624, .int .i64 x51] rfl Try.func39 rfl rfl rfl fun w813 hL814 => ?_) gn
       have hp815 : List.Perm ([.own (.slice A711 n712 c713) 3 1 n712 (x710.flatMap (eI .i64)), .own (.slice A68 n69 c70) 79 3 n69 cs73] : List Ent) (([] : List Ent) ++ ([.own (.slice A711 n712 c713) 3 1 n712 (x710.flatMap (eI .i64)), .own (.slice A68 n69 c70) 79 3 n69 cs73] : List Ent)) := perm_of_idx [] [0, 1] rfl rfl (by kernel_rfl)
       refine Calls.mono (tree_Path_calls w813 (Fl ([] : List Snap)) ((ix r66.1 x351).t) x51 A622 n623 c624 (Rw.mono h625 (hL814.toSt hp815 (me 0 rfl))) (hL814.hFl (Sl := ([] : List Snap)) hp815 (sels [] rfl)) (hL814.into hp815 (Fl ([] : List Snap))) r816 hv817) ?_
       rintro _ w823 ⟨A818, n819, c820, rfl, hM824, h821⟩
       have hL825 := hL814.call hp815 hM824
       refine ⟨_, _, _, rfl, hL825, ?_⟩
       refine wl_v 3 rfl (v_assign rfl) gn rfl ?_
       refine w_end 4 rfl ?_
       refine g_seq (c := q8c56) rfl ?_
       refine g_seq (c := q8c57) rfl ?_
       refine g_region (c := q8c59) rfl rfl ?_
       refine wl_v 0 rfl (v_move rfl) gn rfl ?_
       refine wl_v 1 rfl (v_move rfl) gn rfl ?_
       obtain ⟨r829, hv830, h⟩ := h
       refine wl_s 2 rfl (s_call [.slice A818 n819 c820, .slice A711 n712 c713] rfl Try.func40 rfl rfl rfl fun w826 hL827 => ?_) gn
       have hp828 : List.Perm ([.own (.slice A818 n819 c820) 3 1 n819 (r816.flatMap (eI .i64)), .own (.slice A711 n712 c713) 3 1 n712 (x710.flatMap (eI .i64)), .own (.slice A68 n69 c70) 79 3 n69 cs73] : List Ent) (([] : List Ent) ++ ([.own (.slice A818 n819 c820) 3 1 n819 (r816.flatMap (eI .i64)), .own (.slice A711 n712 c713) 3 1 n712 (x710.flatMap (eI .i64)), .own (.slice A68 n69 c70) 79 3 n69 cs73] : List Ent)) := perm_of_idx [] [0, 1, 2] rfl rfl (by kernel_rfl)
       refine Calls.mono (trellislaw15_sameInts_calls w826 (Fl ([] : List Snap)) r816 x710 A818 n819 c820 A711 n712 c713 (hL827.argO (dk := (kInt .i64)) hp828 [] rfl 0 rfl rfl (Ow.weak hL814.env.size h821) (me 1 rfl) (Cells.flat _)) (hL827.argO (dk := (kInt .i64)) hp828 [] rfl 1 rfl rfl h714 (me 1 rfl) (Cells.flat _)) (hL827.hFl (Sl := ([] : List Snap)) hp828 (sels [] rfl)) (hL827.into hp828 (Fl ([] : List Snap))) r829 hv830) ?_
       rintro _ w831 ⟨rfl, hM832⟩
       have hL833 := hL827.call hp828 hM832
       refine ⟨_, _, _, rfl, hL833, ?_⟩
       refine wl_v 3 rfl (v_not rfl) gn rfl ?_
       refine w_end 4 rfl ?_
       by_cases hp834 : r829 = true
       ·have h := if_pos' hp834 h
        refine g_false (c := q8c60) rfl _ rfl ((nf hp834)) ?_
        refine g_skip (c := q8c62) rfl ?_
        refine g_seq (c := q8c58) rfl ?_
        refine g_region (c := q8c63) rfl rfl ?_
        refine wl_v 0 rfl (v_assign rfl) gn rfl ?_
        refine w_end 1 rfl ?_
        refine g_block (c := q8c64) rfl ?_
        refine g_loop (c := q8c65) rfl ?_
        have key3 : ∀ s, Rounds (fun (s : Int) o => trellislaw15_TreeCovers_b3 r816 r66 x351 s o) s o2 → (fun (s : Int) => ∀ (_ : Unit), G (trellislaw15_TreeCovers_C w F r) [.code q8c66, .inLoop q8c66, .inBlock 4, .inBlock 1, .code q8c30, .inLoop q8c22, .inBlock 0, .code q8c18] [(2, .int .i64 x51), (7, .slice A68 n69 c70), (10, .int .i64 x351), (11, .slice A622 n623 c624), (14, .slice A818 n819 c820), (15, .int .i64 s)] [.own (.slice A818 n819 c820) 3 1 n819 (r816.flatMap (eI .i64)), .own (.slice A68 n69 c70) 79 3 n69 cs73] [Sm w.heap.size F w80 sb84, Sm w.heap.size F w [], St w []]) s := by
         intro s hs
         refine Rounds.ind (mot := (fun (s : Int) => ∀ (_ : Unit), G (trellislaw15_TreeCovers_C w F r) [.code q8c66, .inLoop q8c66, .inBlock 4, .inBlock 1, .code q8c30, .inLoop q8c22, .inBlock 0, .code q8c18] [(2, .int .i64 x51), (7, .slice A68 n69 c70), (10, .int .i64 x351), (11, .slice A622 n623 c624), (14, .slice A818 n819 c820), (15, .int .i64 s)] [.own (.slice A818 n819 c820) 3 1 n819 (r816.flatMap (eI .i64)), .own (.slice A68 n69 c70) 79 3 n69 cs73] [Sm w.heap.size F w80 sb84, Sm w.heap.size F w [], St w []])) ?_ hs
         clear hs s
         intro x847 o3 h hO3
         show ∀ (_ : Unit), G (trellislaw15_TreeCovers_C w F r) [.code q8c66, .inLoop q8c66, .inBlock 4, .inBlock 1, .code q8c30, .inLoop q8c22, .inBlock 0, .code q8c18] [(2, .int .i64 x51), (7, .slice A68 n69 c70), (10, .int .i64 x351), (11, .slice A622 n623 c624), (14, .slice A818 n819 c820), (15, .int .i64 x847)] [.own (.slice A818 n819 c820) 3 1 n819 (r816.flatMap (eI .i64)), .own (.slice A68 n69 c70) 79 3 n69 cs73] [Sm w.heap.size F w80 sb84, Sm w.heap.size F w [], St w []]
         intro _
         have h : trellislaw15_TreeCovers_b3 r816 r66 x351 x847 o3 := h
         unfold trellislaw15_TreeCovers_b3 at h
         refine g_seq (c := q8c66) rfl ?_
         refine g_seq (c := q8c67) rfl ?_
         refine g_region (c := q8c69) rfl rfl ?_
         refine wl_v 0 rfl (v_move rfl) gn rfl ?_
         refine wl_v 1 rfl (v_move rfl) gn rfl ?_
         refine wl_v 2 rfl (v_lenQ un_23 rfl (Ow.weak hL814.env.size h821).hq) gn rfl ?_
         refine wl_v 3 rfl (v_bin rfl rfl rfl) gn rfl ?_
         refine w_end 4 rfl ?_
         by_cases hp864 : x847 < (r816.length : Int)
         ·have h := if_pos' hp864 h
          refine g_true (c := q8c70) rfl _ rfl ((decide_eq_true hp864)) ?_
          refine g_skip (c := q8c71) rfl ?_
          refine g_seq (c := q8c68) rfl ?_
          refine g_block (c := q8c73) rfl ?_
          refine g_seq (c := q8c75) rfl ?_
          refine g_region (c := q8c76) rfl rfl ?_
          refine wl_v 0 rfl (v_assign rfl) gn rfl ?_
          refine w_end 1 rfl ?_
          refine g_seq (c := q8c77) rfl ?_
          refine g_seq (c := q8c78) rfl ?_
          refine g_region (c := q8c80) rfl rfl ?_
          refine wl_v 0 rfl (v_move rfl) gn rfl ?_
          refine wl_v 1 rfl (v_bin rfl rfl rfl) gn rfl ?_
          refine w_end 2 rfl ?_
          have j4 : ∀ (x868 : Int) (h : trellislaw15_TreeCovers_j4 x847 r816 r66 x351 x868 o3) , G (trellislaw15_TreeCovers_C w F r) [.code q8c79, .inBlock 5, .code q8c74, .inLoop q8c66, .inBlock 4, .inBlock 1, .code q8c30, .inLoop q8c22, .inBlock 0, .code q8c18] [(2, .int .i64 x51), (7, .slice A68 n69 c70), (10, .int .i64 x351), (11, .slice A622 n623 c624), (14, .slice A818 n819 c820), (15, .int .i64 x847), (16, .int .i64 x868)] [.own (.slice A818 n819 c820) 3 1 n819 (r816.flatMap (eI .i64)), .own (.slice A68 n69 c70) 79 3 n69 cs73] [Sm w.heap.size F w80 sb84, Sm w.heap.size F w [], St w []] := by
           intro x868 h
           unfold trellislaw15_TreeCovers_j4 at h
           refine g_seq (c := q8c79) rfl ?_
           refine g_region (c := q8c84) rfl rfl ?_
           refine wl_v 0 rfl (v_move rfl) gn rfl ?_
           refine wl_v 1 rfl (v_move rfl) gn rfl ?_
           refine wl_v 2 rfl (v_move rfl) gn rfl ?_
           obtain ⟨hb869, h⟩ := h
           refine wl_v 3 rfl (v_idxO slE_23 rfl rfl (Ow.weak hL814.env.size h821) hb869) gn rfl ?_
           refine wl_v 4 rfl (v_ldO1 (.int .i64 (ix r816 x847)) 0 ld_3 rfl rfl (fm_get0 (hlI .i64) hb869 rfl)) gn rfl ?_
           obtain ⟨r873, hv874, h⟩ := h
           refine wl_s 5 rfl (s_call [.slice A622 n623 c624, .int .i64 (ix r816 x847)] rfl Try.func41 rfl rfl rfl fun w870 hL871 => ?_) gn
           have hp872 : List.Perm ([.own (.slice A818 n819 c820) 3 1 n819 (r816.flatMap (eI .i64)), .own (.slice A68 n69 c70) 79 3 n69 cs73] : List Ent) (([] : List Ent) ++ ([.own (.slice A818 n819 c820) 3 1 n819 (r816.flatMap (eI .i64)), .own (.slice A68 n69 c70) 79 3 n69 cs73] : List Ent)) := perm_of_idx [] [0, 1] rfl rfl (by kernel_rfl)
           refine Calls.mono (tree_Parent_calls w870 (Fl ([] : List Snap)) ((ix r66.1 x351).t) (ix r816 x847) A622 n623 c624 (Rw.mono h625 (hL871.toSt hp872 (me 0 rfl))) (hL871.hFl (Sl := ([] : List Snap)) hp872 (sels [] rfl)) (hL871.into hp872 (Fl ([] : List Snap))) r873 hv874) ?_
           rintro _ w875 ⟨rfl, hM876⟩
           have hL877 := hL871.call hp872 hM876
           refine ⟨_, _, _, rfl, hL877, ?_⟩
           refine wl_v 6 rfl (v_move rfl) gn rfl ?_
           refine wl_v 7 rfl (v_bin rfl rfl rfl) gn rfl ?_
           refine w_end 8 rfl ?_
           by_cases hp878 : r873 = x868
           ·have h := if_pos' hp878 h
            refine g_false (c := q8c85) rfl _ rfl ((eqib hp878)) ?_
            refine g_skip (c := q8c87) rfl ?_
            refine g_inBlock ?_
            refine g_region (c := q8c74) rfl rfl ?_
            refine wl_v 0 rfl (v_move rfl) gn rfl ?_
            refine wl_v 1 rfl (v_bin rfl rfl rfl) gn rfl ?_
            refine wl_v 2 rfl (v_assign rfl) gn rfl ?_
            refine w_end 3 rfl ?_
            refine g_inLoop ?_
            have ih := Out.inl hO3 h
            exact g_go [0, 1, 2] (ih ()) ⟨rfl, rfl, rfl, rfl, rfl, rfl, trivial⟩ (.cons_cons _ (.cons_cons _ (.slnil))) rfl
           ·have h := if_neg' hp878 h
            refine g_true (c := q8c85) rfl _ rfl ((neib hp878)) ?_
            refine g_seq (c := q8c86) rfl ?_
            refine g_region (c := q8c88) rfl rfl ?_
            refine wl_v 0 rfl (v_assign rfl) gn rfl ?_
            refine w_end 1 rfl ?_
            have h := Out.inr hO3 h
            have h := Out.inr hO2 h
            have h := Out.inr hO1 h
            refine g_retR (c := q8c89) [.bool false] rfl Try.func8 rfl (.tmp rfl (.nil)) fun wr hLr => ?_
            have hMr : B.Loc w wr [] [St w []] := hLr.pick0 (sels [2] rfl)
            show trellislaw15_TreeCovers_R w F  r (.returned (packV [.bool false])) wr
            rw [h]
            exact ⟨rfl, hMr⟩
          by_cases hp865 : x847 > 0
          ·have h := if_pos' hp865 h
           refine g_true (c := q8c81) rfl _ rfl ((decide_eq_true hp865)) ?_
           refine g_region (c := q8c82) rfl rfl ?_
           refine wl_v 0 rfl (v_move rfl) gn rfl ?_
           refine wl_v 1 rfl (v_move rfl) gn rfl ?_
           refine wl_v 2 rfl (v_bin rfl rfl rfl) gn rfl ?_
           obtain ⟨hb879, h⟩ := h
           refine wl_v 3 rfl (v_idxO slE_23 rfl rfl (Ow.weak hL814.env.size h821) hb879) gn rfl ?_
           refine wl_v 4 rfl (v_ldO1 (.int .i64 (ix r816 (w64 (x847 - 1)))) 0 ld_3 rfl rfl (fm_get0 (hlI .i64) hb879 rfl)) gn rfl ?_
           refine wl_v 5 rfl (v_assign rfl) gn rfl ?_
           refine w_end 6 rfl ?_
           exact g_go [0, 1, 2] (j4 (ix r816 (w64 (x847 - 1))) h) ⟨rfl, rfl, rfl, rfl, rfl, rfl, rfl, trivial⟩ (.cons_cons _ (.cons_cons _ (.slnil))) rfl
          ·have h := if_neg' hp865 h
           refine g_false (c := q8c81) rfl _ rfl ((decide_eq_false hp865)) ?_
           refine g_skip (c := q8c83) rfl ?_
           exact g_go [0, 1, 2] (j4 (-1) h) ⟨rfl, rfl, rfl, rfl, rfl, rfl, rfl, trivial⟩ (.cons_cons _ (.cons_cons _ (.slnil))) rfl
         ·have h := if_neg' hp864 h
          refine g_false (c := q8c70) rfl _ rfl ((decide_eq_false hp864)) ?_
          refine g_exit (c := q8c72) [.inBlock 1, .code q8c30, .inLoop q8c22, .inBlock 0, .code q8c18] rfl rfl ?_
          refine g_inBlock ?_
          refine g_region (c := q8c30) rfl rfl ?_
          refine wl_v 0 rfl (v_move rfl) gn rfl ?_
          refine wl_v 1 rfl (v_bin rfl rfl rfl) gn rfl ?_
          refine wl_v 2 rfl (v_assign rfl) gn rfl ?_
          refine w_end 3 rfl ?_
          refine g_inLoop ?_
          have h := Out.inr hO3 h
          have h := Out.inr hO2 h
          have ih := Out.inl hO1 h
          exact g_go [0, 1, 2] (ih ()) ⟨rfl, rfl, rfl, trivial⟩ (.cons _ (.cons_cons _ (.slnil))) rfl
        exact g_go [0, 1, 2] (key3 _ h ()) ⟨rfl, rfl, rfl, rfl, rfl, rfl, trivial⟩ (.cons_cons _ (.cons _ (.cons_cons _ (.slnil)))) rfl
       ·have h := if_neg' hp834 h
        refine g_true (c := q8c60) rfl _ rfl ((nt (bf hp834))) ?_
        refine g_seq (c := q8c61) rfl ?_
        refine g_region (c := q8c90) rfl rfl ?_
        refine wl_v 0 rfl (v_assign rfl) gn rfl ?_
        refine w_end 1 rfl ?_
        have h := Out.inr hO2 h
        have h := Out.inr hO1 h
        refine g_retR (c := q8c91) [.bool false] rfl Try.func8 rfl (.tmp rfl (.nil)) fun wr hLr => ?_
        have hMr : B.Loc w wr [] [St w []] := hLr.pick0 (sels [2] rfl)
        show trellislaw15_TreeCovers_R w F  r (.returned (packV [.bool false])) wr
        rw [h]
        exact ⟨rfl, hMr⟩
     refine g_nil 3 1 ?_
     exact g_go [0, 1, 2] (key2 _ h none 0 0 (Ow.nil (z := w.heap.size))) ⟨rfl, rfl, rfl, rfl, rfl, rfl, trivial⟩ (.cons_cons _ (.cons_cons _ (.slnil))) rfl
    ·have h := if_neg' hp616 h
     refine g_false (c := q8c26) rfl _ rfl ((decide_eq_false hp616)) ?_
     refine g_exit (c := q8c28) [.code q8c18] rfl rfl ?_
     refine g_seq (c := q8c18) rfl ?_
     refine g_region (c := q8c92) rfl rfl ?_
     refine wl_v 0 rfl (v_assign rfl) gn rfl ?_
     refine w_end 1 rfl ?_
     have h := Out.inr hO1 h
     refine g_retR (c := q8c93) [.bool true] rfl Try.func8 rfl (.tmp rfl (.nil)) fun wr hLr => ?_
     have hMr : B.Loc w wr [] [St w []] := hLr.pick0 (sels [2] rfl)
     show trellislaw15_TreeCovers_R w F  r (.returned (packV [.bool true])) wr
     rw [h]
     exact ⟨rfl, hMr⟩
   exact g_go [0, 1, 2] (key1 _ h ()) ⟨rfl, rfl, rfl, trivial⟩ (.cons_cons _ (.cons _ (.cons _ (.slnil)))) rfl
  ·have h := if_neg' hp85 h
   refine g_true (c := q8c14) rfl _ rfl ((nt (bf hp85))) ?_
   refine g_seq (c := q8c15) rfl ?_
   refine g_region (c := q8c94) rfl rfl ?_
   refine wl_v 0 rfl (v_assign rfl) gn rfl ?_
   refine w_end 1 rfl ?_
   refine g_retR (c := q8c95) [.bool false] rfl Try.func8 rfl (.tmp rfl (.nil)) fun wr hLr => ?_
   have hMr : B.Loc w wr [] [St w []] := hLr.pick0 (sels [2] rfl)
   show trellislaw15_TreeCovers_R w F  r (.returned (packV [.bool false])) wr
   rw [h]
   exact ⟨rfl, hMr⟩
 ·have h := if_neg' hp62 h
  refine g_true (c := q8c6) rfl _ rfl ((nt (bf hp62))) ?_
  refine g_seq (c := q8c7) rfl ?_
  refine g_region (c := q8c96) rfl rfl ?_
  refine wl_v 0 rfl (v_assign rfl) gn rfl ?_
  refine w_end 1 rfl ?_
  refine g_retR (c := q8c97) [.bool false] rfl Try.func8 rfl (.tmp rfl (.nil)) fun wr hLr => ?_
  have hMr : B.Loc w wr [] [St w []] := hLr.pick0 (sels [1] rfl)
  show trellislaw15_TreeCovers_R w F  r (.returned (packV [.bool false])) wr
  rw [h]
  exact ⟨rfl, hMr⟩
end Go.Proofs.Ytmekgfcfooghnaa.K
