/- What the machine's calls do, function by function, printed by my own tool. Condition of each: its relation holds of the answer, and what is handed in lies in memory as told. -/
import Derived.Test.YtmfopcbjgbphaaaDoorK3
set_option linter.unusedVariables false
set_option maxRecDepth 100000
set_option maxHeartbeats 4000000
namespace Go.Proofs.YtmfopcbjgbphaaaDoor.K
open Go.Proofs.YtmfopcbjgbphaaaDoor.B Go.Proofs.YtmfopcbjgbphaaaDoor.R Go.RowKit
noncomputable abbrev q64c0 : Code := bodyOf Tryd.f64
noncomputable abbrev q64c1 : Code := Code.fst q64c0
noncomputable abbrev q64c2 : Code := Code.snd q64c0
noncomputable abbrev q64c3 : Code := Code.fst q64c2
noncomputable abbrev q64c4 : Code := Code.snd q64c2
noncomputable abbrev q64c5 : Code := Code.fst q64c3
noncomputable abbrev q64c6 : Code := Code.snd q64c3
noncomputable abbrev q64c7 : Code := Code.fst q64c6
noncomputable abbrev q64c8 : Code := Code.snd q64c6
noncomputable abbrev q64c9 : Code := Code.fst q64c4
noncomputable abbrev q64c10 : Code := Code.snd q64c4
noncomputable abbrev q64c11 : Code := Code.fst q64c9
noncomputable abbrev q64c12 : Code := Code.snd q64c9
noncomputable abbrev q64c13 : Code := Code.fst q64c12
noncomputable abbrev q64c14 : Code := Code.snd q64c12
noncomputable abbrev q64c15 : Code := Code.fst q64c14
noncomputable abbrev q64c16 : Code := Code.snd q64c14
noncomputable abbrev q64c17 : Code := Code.fst q64c10
noncomputable abbrev q64c18 : Code := Code.snd q64c10
noncomputable abbrev q64c19 : Code := Code.fst q64c17
noncomputable abbrev q64c20 : Code := Code.snd q64c17
noncomputable abbrev q64c21 : Code := Code.fst q64c20
noncomputable abbrev q64c22 : Code := Code.snd q64c20
noncomputable abbrev q64c23 : Code := Code.fst q64c21
noncomputable abbrev q64c24 : Code := Code.snd q64c21
noncomputable abbrev q64c25 : Code := Code.fst q64c18
noncomputable abbrev q64c26 : Code := Code.snd q64c18
noncomputable abbrev q64c27 : Code := Code.fst q64c25
noncomputable abbrev q64c28 : Code := Code.snd q64c25
noncomputable abbrev q64c29 : Code := Code.fst q64c28
noncomputable abbrev q64c30 : Code := Code.snd q64c28
noncomputable abbrev q64c31 : Code := Code.fst q64c29
noncomputable abbrev q64c32 : Code := Code.snd q64c29
noncomputable abbrev q64c33 : Code := Code.fst q64c32
noncomputable abbrev q64c34 : Code := Code.snd q64c32
noncomputable abbrev q64c35 : Code := Code.fst q64c33
noncomputable abbrev q64c36 : Code := Code.snd q64c33
noncomputable abbrev q64c37 : Code := Code.fst q64c36
noncomputable abbrev q64c38 : Code := Code.snd q64c36
noncomputable abbrev q64c39 : Code := Code.fst q64c34
noncomputable abbrev q64c40 : Code := Code.snd q64c34
noncomputable abbrev q64c41 : Code := Code.fst q64c26
noncomputable abbrev q64c42 : Code := Code.snd q64c26
abbrev trellisref25_Reader_number_R (w : World) (F : Nat → Prop) (g2 : Nat) (Tb3 : Nat) (r : Int × trellisref25_Reader) : Ending → World → Prop := fun e w' => ∃ A0 : Option Addr, ∃ n0 : Nat, ∃ c0 : Nat, e = .returned (.int .i64 r.1) ∧ B.Loc w w' [.box g2 Tb3 [.string r.2.s, .slice A0 n0 c0, .int .i64 r.2.e, .int .i64 r.2.at_]] [St w [[g2]]] ∧ Rw k_api_JNode w' (Nw w w' F [.box g2 Tb3 [.string r.2.s, .slice A0 n0 c0, .int .i64 r.2.e, .int .i64 r.2.at_]]) A0 n0 c0 r.2.l
noncomputable abbrev trellisref25_Reader_number_C (w : World) (F : Nat → Prop) (g2 : Nat) (Tb3 : Nat) (r : Int × trellisref25_Reader) : Cx := ⟨Tryd.prog, 64, Tryd.f64, 62, trellisref25_Reader_number_R w F g2 Tb3 r, w⟩
theorem trellisref25_Reader_number_calls (w : World) (F : Nat → Prop) (x1 : trellisref25_Reader) (x8 : Int) (g2 : Nat) (Tb3 : Nat) (A4 : Option Addr) (n5 : Nat) (c6 : Nat) (h7 : Rw k_api_JNode w F A4 n5 c6 x1.l) (hF : ∀ b, F b → b < w.heap.size ∧ ∀ o ∈ ([[g2]] : List (List Nat)), b ∉ o) (hL0 : B.Loc w w [.box g2 Tb3 [.string x1.s, .slice A4 n5 c6, .int .i64 x1.e, .int .i64 x1.at_]] [Sm w.heap.size F w [[g2]], St w [[g2]]]) (r : Int × trellisref25_Reader) (h : trellisref25_Reader_number x1 x8 r) : Calls Tryd.prog 64 #[.pointer (some ⟨g2, 0, none⟩), .int .i64 x8] w (trellisref25_Reader_number_R w F g2 Tb3 r) := by
 unfold trellisref25_Reader_number at h
 have h7 := Rw.into (bs := [[g2]]) hF h7
 refine calls_of_Loc (vs := [.pointer (some ⟨g2, 0, none⟩), .int .i64 x8]) 62 Tryd.func64 rfl Tryd.ntmps64 rfl hL0 ?_
 show G (trellisref25_Reader_number_C w F g2 Tb3 r) _ _ _ _
 refine g_seq (c := q64c0) rfl ?_
 refine g_region (c := q64c1) rfl rfl ?_
 refine wl_v 0 rfl (v_assign rfl) gn rfl ?_
 refine w_end 1 rfl ?_
 refine g_seq (c := q64c2) rfl ?_
 refine g_seq (c := q64c3) rfl ?_
 refine g_region (c := q64c5) rfl rfl ?_
 refine wl_v 0 rfl (v_move rfl) gn rfl ?_
 refine wl_v 1 rfl (v_move rfl) gn rfl ?_
 obtain ⟨r12, hv13, h⟩ := h
 refine wl_s 2 rfl (s_call [.pointer (some ⟨g2, 0, none⟩), .int .i64 x8, .string (⟨#[45]⟩ : ByteArray)] rfl Tryd.func60 rfl rfl rfl fun w9 hL10 => ?_) gn
 have hp11 : List.Perm ([.box g2 Tb3 [.string x1.s, .slice A4 n5 c6, .int .i64 x1.e, .int .i64 x1.at_]] : List Ent) (([.box g2 Tb3 [.string x1.s, .slice A4 n5 c6, .int .i64 x1.e, .int .i64 x1.at_]] : List Ent) ++ ([] : List Ent)) := perm_of_idx [0] [] rfl rfl (by kernel_rfl)
 refine Calls.mono (trellisref25_Reader_has_calls w9 (Fl ([Sm w.heap.size F w [[g2]]] : List Snap)) x1 x8 (⟨#[45]⟩ : ByteArray) g2 Tb3 A4 n5 c6 (Rw.mono h7 (hL10.toFl (me 0 rfl) (me 0 rfl))) (hL10.hFl (Sl := ([Sm w.heap.size F w [[g2]]] : List Snap)) hp11 (sels [0] rfl)) (hL10.into hp11 (Fl ([Sm w.heap.size F w [[g2]]] : List Snap))) r12 hv13) ?_
 rintro _ w18 ⟨A14, n15, c16, rfl, hM19, h17⟩
 obtain ⟨sb22, hL20, hv21⟩ := hL10.callB (Sl := ([Sm w.heap.size F w [[g2]]] : List Snap)) hp11 hM19 F (sels [0] rfl) ⟨Sm.ok, trivial⟩
 have h17 : At k_api_JNode (Sm w.heap.size F w18 sb22) A14 n15 c16 r12.2.l := Rw.mono h17 hv21
 refine ⟨_, _, _, rfl, hL20, ?_⟩
 refine w_end 3 rfl ?_
 have j1 : ∀ (x25 : Int) (h : trellisref25_Reader_number_j1 r12 x25 r) , G (trellisref25_Reader_number_C w F g2 Tb3 r) [.code q64c4] [(0, .pointer (some ⟨g2, 0, none⟩)), (1, .int .i64 x25)] [.box g2 Tb3 [.string r12.2.s, .slice A14 n15 c16, .int .i64 r12.2.e, .int .i64 r12.2.at_]] [Sm w.heap.size F w18 sb22, Sm w.heap.size F w [[g2]], St w [[g2]]] := by
  intro x25 h
  unfold trellisref25_Reader_number_j1 at h
  refine g_seq (c := q64c4) rfl ?_
  refine g_seq (c := q64c9) rfl ?_
  refine g_region (c := q64c11) rfl rfl ?_
  refine wl_v 0 rfl (v_move rfl) gn rfl ?_
  refine wl_v 1 rfl (v_move rfl) gn rfl ?_
  obtain ⟨r29, hv30, h⟩ := h
  refine wl_s 2 rfl (s_call [.pointer (some ⟨g2, 0, none⟩), .int .i64 x25, .string (⟨#[48]⟩ : ByteArray)] rfl Tryd.func60 rfl rfl rfl fun w26 hL27 => ?_) gn
  have hp28 : List.Perm ([.box g2 Tb3 [.string r12.2.s, .slice A14 n15 c16, .int .i64 r12.2.e, .int .i64 r12.2.at_]] : List Ent) (([.box g2 Tb3 [.string r12.2.s, .slice A14 n15 c16, .int .i64 r12.2.e, .int .i64 r12.2.at_]] : List Ent) ++ ([] : List Ent)) := perm_of_idx [0] [] rfl rfl (by kernel_rfl)
  refine Calls.mono (trellisref25_Reader_has_calls w26 (Fl ([Sm w.heap.size F w18 sb22] : List Snap)) r12.2 x25 (⟨#[48]⟩ : ByteArray) g2 Tb3 A14 n15 c16 (Rw.mono h17 (hL27.toFl (me 0 rfl) (me 0 rfl))) (hL27.hFl (Sl := ([Sm w.heap.size F w18 sb22] : List Snap)) hp28 (sels [0] rfl)) (hL27.into hp28 (Fl ([Sm w.heap.size F w18 sb22] : List Snap))) r29 hv30) ?_
  rintro _ w35 ⟨A31, n32, c33, rfl, hM36, h34⟩
  obtain ⟨sb39, hL37, hv38⟩ := hL27.callB (Sl := ([Sm w.heap.size F w18 sb22] : List Snap)) hp28 hM36 F (sels [0] rfl) ⟨Sm.ok, trivial⟩
  have h34 : At k_api_JNode (Sm w.heap.size F w35 sb39) A31 n32 c33 r29.2.l := Rw.mono h34 hv38
  refine ⟨_, _, _, rfl, hL37, ?_⟩
  refine w_end 3 rfl ?_
  have j2 : ∀ (x71 : Int) (x72 : ByteArray) (x73 : List api_JNode) (x80 : Int) (x81 : Int) (h : trellisref25_Reader_number_j2 x71 x72 x73 x80 x81 r) (A74 : Option Addr) (n75 : Nat) (c76 : Nat) (sw77 : World) (sb78 : List (List Nat)) (h79 : At k_api_JNode (Sm w.heap.size F sw77 sb78) A74 n75 c76 x73), G (trellisref25_Reader_number_C w F g2 Tb3 r) [.code q64c10] [(0, .pointer (some ⟨g2, 0, none⟩)), (1, .int .i64 x71)] [.box g2 Tb3 [.string x72, .slice A74 n75 c76, .int .i64 x80, .int .i64 x81]] [Sm w.heap.size F sw77 sb78, Sm w.heap.size F w35 sb39, Sm w.heap.size F w18 sb22, Sm w.heap.size F w [[g2]], St w [[g2]]] := by
   intro x71 x72 x73 x80 x81 h A74 n75 c76 sw77 sb78 h79
   unfold trellisref25_Reader_number_j2 at h
   refine g_seq (c := q64c10) rfl ?_
   refine g_seq (c := q64c17) rfl ?_
   have j3 : ∀ (x98 : Bool) (x99 : ByteArray) (x100 : List api_JNode) (x107 : Int) (x108 : Int) (h : trellisref25_Reader_number_j3 x71 x98 x99 x100 x107 x108 r) (A101 : Option Addr) (n102 : Nat) (c103 : Nat) (sw104 : World) (sb105 : List (List Nat)) (h106 : At k_api_JNode (Sm w.heap.size F sw104 sb105) A101 n102 c103 x100), G (trellisref25_Reader_number_C w F g2 Tb3 r) [.code q64c20, .code q64c18] [(0, .pointer (some ⟨g2, 0, none⟩)), (1, .int .i64 x71), (30, .bool x98)] [.box g2 Tb3 [.string x99, .slice A101 n102 c103, .int .i64 x107, .int .i64 x108]] [Sm w.heap.size F sw104 sb105, Sm w.heap.size F sw77 sb78, Sm w.heap.size F w35 sb39, Sm w.heap.size F w18 sb22, Sm w.heap.size F w [[g2]], St w [[g2]]] := by
    intro x98 x99 x100 x107 x108 h A101 n102 c103 sw104 sb105 h106
    unfold trellisref25_Reader_number_j3 at h
    have j4 : ∀ (x139 : Int) (x140 : ByteArray) (x141 : List api_JNode) (x148 : Int) (x149 : Int) (h : trellisref25_Reader_number_j4 x139 x140 x141 x148 x149 r) (A142 : Option Addr) (n143 : Nat) (c144 : Nat) (sw145 : World) (sb146 : List (List Nat)) (h147 : At k_api_JNode (Sm w.heap.size F sw145 sb146) A142 n143 c144 x141), G (trellisref25_Reader_number_C w F g2 Tb3 r) [.code q64c18] [(0, .pointer (some ⟨g2, 0, none⟩)), (1, .int .i64 x139)] [.box g2 Tb3 [.string x140, .slice A142 n143 c144, .int .i64 x148, .int .i64 x149]] [Sm w.heap.size F sw145 sb146, Sm w.heap.size F sw104 sb105, Sm w.heap.size F sw77 sb78, Sm w.heap.size F w35 sb39, Sm w.heap.size F w18 sb22, Sm w.heap.size F w [[g2]], St w [[g2]]] := by
     intro x139 x140 x141 x148 x149 h A142 n143 c144 sw145 sb146 h147
     unfold trellisref25_Reader_number_j4 at h
     refine g_seq (c := q64c18) rfl ?_
     refine g_seq (c := q64c25) rfl ?_
     have j5 : ∀ (x166 : Bool) (x167 : ByteArray) (x168 : List api_JNode) (x175 : Int) (x176 : Int) (h : trellisref25_Reader_number_j5 x139 x166 x167 x168 x175 x176 r) (A169 : Option Addr) (n170 : Nat) (c171 : Nat) (sw172 : World) (sb173 : List (List Nat)) (h174 : At k_api_JNode (Sm w.heap.size F sw172 sb173) A169 n170 c171 x168), G (trellisref25_Reader_number_C w F g2 Tb3 r) [.code q64c28, .code q64c26] [(0, .pointer (some ⟨g2, 0, none⟩)), (1, .int .i64 x139), (47, .bool x166)] [.box g2 Tb3 [.string x167, .slice A169 n170 c171, .int .i64 x175, .int .i64 x176]] [Sm w.heap.size F sw172 sb173, Sm w.heap.size F sw145 sb146, Sm w.heap.size F sw104 sb105, Sm w.heap.size F sw77 sb78, Sm w.heap.size F w35 sb39, Sm w.heap.size F w18 sb22, Sm w.heap.size F w [[g2]], St w [[g2]]] := by
      intro x166 x167 x168 x175 x176 h A169 n170 c171 sw172 sb173 h174
      unfold trellisref25_Reader_number_j5 at h
      by_cases hp177 : x166 = true
      ·have h := if_pos' hp177 h
       refine g_true (c := q64c28) rfl _ rfl (hp177) ?_
       refine g_seq (c := q64c29) rfl ?_
       refine g_region (c := q64c31) rfl rfl ?_
       refine wl_v 0 rfl (v_move rfl) gn rfl ?_
       refine wl_v 1 rfl (v_bin rfl rfl rfl) gn rfl ?_
       refine wl_v 2 rfl (v_assign rfl) gn rfl ?_
       refine w_end 3 rfl ?_
       refine g_seq (c := q64c32) rfl ?_
       refine g_seq (c := q64c33) rfl ?_
       refine g_region (c := q64c35) rfl rfl ?_
       refine wl_v 0 rfl (v_move rfl) gn rfl ?_
       refine wl_v 1 rfl (v_move rfl) gn rfl ?_
       obtain ⟨r181, hv182, h⟩ := h
       refine wl_s 2 rfl (s_call [.pointer (some ⟨g2, 0, none⟩), .int .i64 (w64 (x139 + 1)), .string (⟨#[43, 45]⟩ : ByteArray)] rfl Tryd.func60 rfl rfl rfl fun w178 hL179 => ?_) gn
       have hp180 : List.Perm ([.box g2 Tb3 [.string x167, .slice A169 n170 c171, .int .i64 x175, .int .i64 x176]] : List Ent) (([.box g2 Tb3 [.string x167, .slice A169 n170 c171, .int .i64 x175, .int .i64 x176]] : List Ent) ++ ([] : List Ent)) := perm_of_idx [0] [] rfl rfl (by kernel_rfl)
       refine Calls.mono (trellisref25_Reader_has_calls w178 (Fl ([Sm w.heap.size F sw172 sb173] : List Snap)) (⟨x167, x168, x175, x176⟩ : trellisref25_Reader) (w64 (x139 + 1)) (⟨#[43, 45]⟩ : ByteArray) g2 Tb3 A169 n170 c171 (Rw.mono h174 (hL179.toFl (me 0 rfl) (me 0 rfl))) (hL179.hFl (Sl := ([Sm w.heap.size F sw172 sb173] : List Snap)) hp180 (sels [0] rfl)) (hL179.into hp180 (Fl ([Sm w.heap.size F sw172 sb173] : List Snap))) r181 hv182) ?_
       rintro _ w187 ⟨A183, n184, c185, rfl, hM188, h186⟩
       obtain ⟨sb191, hL189, hv190⟩ := hL179.callB (Sl := ([Sm w.heap.size F sw172 sb173] : List Snap)) hp180 hM188 F (sels [0] rfl) ⟨Sm.ok, trivial⟩
       have h186 : At k_api_JNode (Sm w.heap.size F w187 sb191) A183 n184 c185 r181.2.l := Rw.mono h186 hv190
       refine ⟨_, _, _, rfl, hL189, ?_⟩
       refine w_end 3 rfl ?_
       have j6 : ∀ (x194 : Int) (h : trellisref25_Reader_number_j6 r181 x194 r) , G (trellisref25_Reader_number_C w F g2 Tb3 r) [.code q64c34, .code q64c26] [(0, .pointer (some ⟨g2, 0, none⟩)), (1, .int .i64 x194)] [.box g2 Tb3 [.string r181.2.s, .slice A183 n184 c185, .int .i64 r181.2.e, .int .i64 r181.2.at_]] [Sm w.heap.size F w187 sb191, Sm w.heap.size F sw172 sb173, Sm w.heap.size F sw145 sb146, Sm w.heap.size F sw104 sb105, Sm w.heap.size F sw77 sb78, Sm w.heap.size F w35 sb39, Sm w.heap.size F w18 sb22, Sm w.heap.size F w [[g2]], St w [[g2]]] := by
        intro x194 h
        unfold trellisref25_Reader_number_j6 at h
        refine g_seq (c := q64c34) rfl ?_
        refine g_region (c := q64c39) rfl rfl ?_
        refine wl_v 0 rfl (v_move rfl) gn rfl ?_
        refine wl_v 1 rfl (v_move rfl) gn rfl ?_
        obtain ⟨r198, hv199, h⟩ := h
        refine wl_s 2 rfl (s_call [.pointer (some ⟨g2, 0, none⟩), .int .i64 x194, .string (⟨#[48, 49, 50, 51, 52, 53, 54, 55, 56, 57]⟩ : ByteArray)] rfl Tryd.func75 rfl rfl rfl fun w195 hL196 => ?_) gn
        have hp197 : List.Perm ([.box g2 Tb3 [.string r181.2.s, .slice A183 n184 c185, .int .i64 r181.2.e, .int .i64 r181.2.at_]] : List Ent) (([.box g2 Tb3 [.string r181.2.s, .slice A183 n184 c185, .int .i64 r181.2.e, .int .i64 r181.2.at_]] : List Ent) ++ ([] : List Ent)) := perm_of_idx [0] [] rfl rfl (by kernel_rfl)
        refine Calls.mono (trellisref25_Reader_need_calls w195 (Fl ([Sm w.heap.size F w187 sb191] : List Snap)) r181.2 x194 (⟨#[48, 49, 50, 51, 52, 53, 54, 55, 56, 57]⟩ : ByteArray) g2 Tb3 A183 n184 c185 (Rw.mono h186 (hL196.toFl (me 0 rfl) (me 0 rfl))) (hL196.hFl (Sl := ([Sm w.heap.size F w187 sb191] : List Snap)) hp197 (sels [0] rfl)) (hL196.into hp197 (Fl ([Sm w.heap.size F w187 sb191] : List Snap))) r198 hv199) ?_
        rintro _ w204 ⟨A200, n201, c202, rfl, hM205, h203⟩
        obtain ⟨sb208, hL206, hv207⟩ := hL196.callB (Sl := ([Sm w.heap.size F w187 sb191] : List Snap)) hp197 hM205 F (sels [0] rfl) ⟨Sm.ok, trivial⟩
        have h203 : At k_api_JNode (Sm w.heap.size F w204 sb208) A200 n201 c202 r198.2.l := Rw.mono h203 hv207
        refine ⟨_, _, _, rfl, hL206, ?_⟩
        refine wl_v 3 rfl (v_assign rfl) gn rfl ?_
        refine w_end 4 rfl ?_
        refine g_region (c := q64c40) rfl rfl ?_
        refine wl_v 0 rfl (v_move rfl) gn rfl ?_
        refine wl_v 1 rfl (v_move rfl) gn rfl ?_
        obtain ⟨r212, hv213, h⟩ := h
        refine wl_s 2 rfl (s_call [.pointer (some ⟨g2, 0, none⟩), .int .i64 r198.1, .string (⟨#[48, 49, 50, 51, 52, 53, 54, 55, 56, 57]⟩ : ByteArray)] rfl Tryd.func45 rfl rfl rfl fun w209 hL210 => ?_) gn
        have hp211 : List.Perm ([.box g2 Tb3 [.string r198.2.s, .slice A200 n201 c202, .int .i64 r198.2.e, .int .i64 r198.2.at_]] : List Ent) (([.box g2 Tb3 [.string r198.2.s, .slice A200 n201 c202, .int .i64 r198.2.e, .int .i64 r198.2.at_]] : List Ent) ++ ([] : List Ent)) := perm_of_idx [0] [] rfl rfl (by kernel_rfl)
        refine Calls.mono (trellisref25_Reader_skip_calls w209 (Fl ([Sm w.heap.size F w204 sb208] : List Snap)) r198.2 r198.1 (⟨#[48, 49, 50, 51, 52, 53, 54, 55, 56, 57]⟩ : ByteArray) g2 Tb3 A200 n201 c202 (Rw.mono h203 (hL210.toFl (me 0 rfl) (me 0 rfl))) (hL210.hFl (Sl := ([Sm w.heap.size F w204 sb208] : List Snap)) hp211 (sels [0] rfl)) (hL210.into hp211 (Fl ([Sm w.heap.size F w204 sb208] : List Snap))) r212 hv213) ?_
        rintro _ w218 ⟨A214, n215, c216, rfl, hM219, h217⟩
        obtain ⟨sb222, hL220, hv221⟩ := hL210.callB (Sl := ([Sm w.heap.size F w204 sb208] : List Snap)) hp211 hM219 F (sels [0] rfl) ⟨Sm.ok, trivial⟩
        have h217 : At k_api_JNode (Sm w.heap.size F w218 sb222) A214 n215 c216 r212.2.l := Rw.mono h217 hv221
        refine ⟨_, _, _, rfl, hL220, ?_⟩
        refine wl_v 3 rfl (v_assign rfl) gn rfl ?_
        refine w_end 4 rfl ?_
        refine g_seq (c := q64c26) rfl ?_
        refine g_region (c := q64c41) rfl rfl ?_
        refine wl_v 0 rfl (v_move rfl) gn rfl ?_
        refine wl_v 1 rfl (v_assign rfl) gn rfl ?_
        refine w_end 2 rfl ?_
        refine g_retR (c := q64c42) [.int .i64 r212.1] rfl Tryd.func64 rfl (.tmp rfl (.nil)) fun wr hLr => ?_
        have hMr : B.Loc w wr [.box g2 Tb3 [.string r212.2.s, .slice A214 n215 c216, .int .i64 r212.2.e, .int .i64 r212.2.at_]] [St w [[g2]]] := hLr.pick (rest := []) (perm_of_idx [0] [] rfl rfl (by kernel_rfl)) (sels [10] rfl)
        have hMi : ∀ e ∈ ([.box g2 Tb3 [.string r212.2.s, .slice A214 n215 c216, .int .i64 r212.2.e, .int .i64 r212.2.at_]] : List Ent), e ∈ ([.box g2 Tb3 [.string r212.2.s, .slice A214 n215 c216, .int .i64 r212.2.e, .int .i64 r212.2.at_]] : List Ent) := sels [0] rfl
        show trellisref25_Reader_number_R w F g2 Tb3 r (.returned (packV [.int .i64 r212.1])) wr
        rw [h]
        exact ⟨A214, n215, c216, rfl, hMr, (hLr.outR (s := Sm w.heap.size F w218 sb222) hMi (me 0 rfl) Sm.ok h217)⟩
       by_cases hp192 : r181.1 = true
       ·have h := if_pos' hp192 h
        refine g_true (c := q64c36) rfl _ rfl (hp192) ?_
        refine g_region (c := q64c37) rfl rfl ?_
        refine wl_v 0 rfl (v_move rfl) gn rfl ?_
        refine wl_v 1 rfl (v_bin rfl rfl rfl) gn rfl ?_
        refine wl_v 2 rfl (v_assign rfl) gn rfl ?_
        refine w_end 3 rfl ?_
        exact g_go [0, 1, 2, 3, 4, 5, 6, 7, 8] (j6 (w64 ((w64 (x139 + 1)) + 1)) h) ⟨rfl, rfl, trivial⟩ (.cons_cons _ (.slnil)) rfl
       ·have h := if_neg' hp192 h
        refine g_false (c := q64c36) rfl _ rfl ((bf hp192)) ?_
        refine g_skip (c := q64c38) rfl ?_
        exact g_go [0, 1, 2, 3, 4, 5, 6, 7, 8] (j6 (w64 (x139 + 1)) h) ⟨rfl, rfl, trivial⟩ (.cons_cons _ (.slnil)) rfl
      ·have h := if_neg' hp177 h
       refine g_false (c := q64c28) rfl _ rfl ((bf hp177)) ?_
       refine g_skip (c := q64c30) rfl ?_
       refine g_seq (c := q64c26) rfl ?_
       refine g_region (c := q64c41) rfl rfl ?_
       refine wl_v 0 rfl (v_move rfl) gn rfl ?_
       refine wl_v 1 rfl (v_assign rfl) gn rfl ?_
       refine w_end 2 rfl ?_
       refine g_retR (c := q64c42) [.int .i64 x139] rfl Tryd.func64 rfl (.tmp rfl (.nil)) fun wr hLr => ?_
       have hMr : B.Loc w wr [.box g2 Tb3 [.string x167, .slice A169 n170 c171, .int .i64 x175, .int .i64 x176]] [St w [[g2]]] := hLr.pick (rest := []) (perm_of_idx [0] [] rfl rfl (by kernel_rfl)) (sels [7] rfl)
       have hMi : ∀ e ∈ ([.box g2 Tb3 [.string x167, .slice A169 n170 c171, .int .i64 x175, .int .i64 x176]] : List Ent), e ∈ ([.box g2 Tb3 [.string x167, .slice A169 n170 c171, .int .i64 x175, .int .i64 x176]] : List Ent) := sels [0] rfl
       show trellisref25_Reader_number_R w F g2 Tb3 r (.returned (packV [.int .i64 x139])) wr
       rw [h]
       exact ⟨A169, n170, c171, rfl, hMr, (hLr.outR (s := Sm w.heap.size F sw172 sb173) hMi (me 0 rfl) Sm.ok h174)⟩
     refine g_region (c := q64c27) rfl rfl ?_
     refine wl_v 0 rfl (v_move rfl) gn rfl ?_
     refine wl_v 1 rfl (v_nilCheck rfl) gn rfl ?_
     refine wl_v 2 rfl (v_fldB fo_73_2 rfl) gn rfl ?_
     refine wl_v 3 rfl (v_ldB1 0 ld_34 rfl rfl rfl) gn rfl ?_
     refine wl_v 4 rfl (v_bin rfl rfl rfl) gn rfl ?_
     refine wl_v 5 rfl (v_move rfl) gn rfl ?_
     by_cases hp223 : x148 = 0
     ·have h := if_pos' hp223 h
      refine w_bool 43 rfl ((eqi hp223)) ?_
      refine wl_v 6 rfl (v_move rfl) (gy 43 rfl rfl) rfl ?_
      refine wl_v 7 rfl (v_move rfl) (gy 43 rfl rfl) rfl ?_
      obtain ⟨r227, hv228, h⟩ := h
      refine wl_s 8 rfl (s_call [.pointer (some ⟨g2, 0, none⟩), .int .i64 x139, .string (⟨#[101, 69]⟩ : ByteArray)] rfl Tryd.func60 rfl rfl rfl fun w224 hL225 => ?_) (gy 43 rfl rfl)
      have hp226 : List.Perm ([.box g2 Tb3 [.string x140, .slice A142 n143 c144, .int .i64 x148, .int .i64 x149]] : List Ent) (([.box g2 Tb3 [.string x140, .slice A142 n143 c144, .int .i64 x148, .int .i64 x149]] : List Ent) ++ ([] : List Ent)) := perm_of_idx [0] [] rfl rfl (by kernel_rfl)
      refine Calls.mono (trellisref25_Reader_has_calls w224 (Fl ([Sm w.heap.size F sw145 sb146] : List Snap)) (⟨x140, x141, x148, x149⟩ : trellisref25_Reader) x139 (⟨#[101, 69]⟩ : ByteArray) g2 Tb3 A142 n143 c144 (Rw.mono h147 (hL225.toFl (me 0 rfl) (me 0 rfl))) (hL225.hFl (Sl := ([Sm w.heap.size F sw145 sb146] : List Snap)) hp226 (sels [0] rfl)) (hL225.into hp226 (Fl ([Sm w.heap.size F sw145 sb146] : List Snap))) r227 hv228) ?_
      rintro _ w233 ⟨A229, n230, c231, rfl, hM234, h232⟩
      obtain ⟨sb237, hL235, hv236⟩ := hL225.callB (Sl := ([Sm w.heap.size F sw145 sb146] : List Snap)) hp226 hM234 F (sels [0] rfl) ⟨Sm.ok, trivial⟩
      have h232 : At k_api_JNode (Sm w.heap.size F w233 sb237) A229 n230 c231 r227.2.l := Rw.mono h232 hv236
      refine ⟨_, _, _, rfl, hL235, ?_⟩
      refine wl_v 9 rfl (v_pick (b := true) rfl rfl) gn rfl ?_
      refine w_end 10 rfl ?_
      exact g_go [0, 1, 2, 3, 4, 5, 6, 7] (j5 r227.1 r227.2.s r227.2.l r227.2.e r227.2.at_ h A229 n230 c231 w233 sb237 h232) ⟨rfl, rfl, rfl, trivial⟩ (.cons_cons _ (.slnil)) rfl
     ·have h := if_neg' hp223 h
      refine w_bool 43 rfl ((nei hp223)) ?_
      refine wl_pass 6 rfl (ps 43 rfl rfl rfl) ?_
      refine wl_pass 7 rfl (ps 43 rfl rfl rfl) ?_
      refine wl_pass 8 rfl (ps 43 rfl rfl rfl) ?_
      refine wl_v 9 rfl (v_pick (b := false) rfl rfl) gn rfl ?_
      refine w_end 10 rfl ?_
      exact g_go [0, 0, 1, 2, 3, 4, 5, 6] (j5 false x140 x141 x148 x149 h A142 n143 c144 sw145 sb146 h147) ⟨rfl, rfl, rfl, trivial⟩ (.cons_cons _ (.slnil)) rfl
    by_cases hp109 : x98 = true
    ·have h := if_pos' hp109 h
     refine g_true (c := q64c20) rfl _ rfl (hp109) ?_
     refine g_seq (c := q64c21) rfl ?_
     refine g_region (c := q64c23) rfl rfl ?_
     refine wl_v 0 rfl (v_move rfl) gn rfl ?_
     refine wl_v 1 rfl (v_move rfl) gn rfl ?_
     refine wl_v 2 rfl (v_bin rfl rfl rfl) gn rfl ?_
     obtain ⟨r241, hv242, h⟩ := h
     refine wl_s 3 rfl (s_call [.pointer (some ⟨g2, 0, none⟩), .int .i64 (w64 (x71 + 1)), .string (⟨#[48, 49, 50, 51, 52, 53, 54, 55, 56, 57]⟩ : ByteArray)] rfl Tryd.func75 rfl rfl rfl fun w238 hL239 => ?_) gn
     have hp240 : List.Perm ([.box g2 Tb3 [.string x99, .slice A101 n102 c103, .int .i64 x107, .int .i64 x108]] : List Ent) (([.box g2 Tb3 [.string x99, .slice A101 n102 c103, .int .i64 x107, .int .i64 x108]] : List Ent) ++ ([] : List Ent)) := perm_of_idx [0] [] rfl rfl (by kernel_rfl)
     refine Calls.mono (trellisref25_Reader_need_calls w238 (Fl ([Sm w.heap.size F sw104 sb105] : List Snap)) (⟨x99, x100, x107, x108⟩ : trellisref25_Reader) (w64 (x71 + 1)) (⟨#[48, 49, 50, 51, 52, 53, 54, 55, 56, 57]⟩ : ByteArray) g2 Tb3 A101 n102 c103 (Rw.mono h106 (hL239.toFl (me 0 rfl) (me 0 rfl))) (hL239.hFl (Sl := ([Sm w.heap.size F sw104 sb105] : List Snap)) hp240 (sels [0] rfl)) (hL239.into hp240 (Fl ([Sm w.heap.size F sw104 sb105] : List Snap))) r241 hv242) ?_
     rintro _ w247 ⟨A243, n244, c245, rfl, hM248, h246⟩
     obtain ⟨sb251, hL249, hv250⟩ := hL239.callB (Sl := ([Sm w.heap.size F sw104 sb105] : List Snap)) hp240 hM248 F (sels [0] rfl) ⟨Sm.ok, trivial⟩
     have h246 : At k_api_JNode (Sm w.heap.size F w247 sb251) A243 n244 c245 r241.2.l := Rw.mono h246 hv250
     refine ⟨_, _, _, rfl, hL249, ?_⟩
     refine wl_v 4 rfl (v_assign rfl) gn rfl ?_
     refine w_end 5 rfl ?_
     refine g_region (c := q64c24) rfl rfl ?_
     refine wl_v 0 rfl (v_move rfl) gn rfl ?_
     refine wl_v 1 rfl (v_move rfl) gn rfl ?_
     obtain ⟨r255, hv256, h⟩ := h
     refine wl_s 2 rfl (s_call [.pointer (some ⟨g2, 0, none⟩), .int .i64 r241.1, .string (⟨#[48, 49, 50, 51, 52, 53, 54, 55, 56, 57]⟩ : ByteArray)] rfl Tryd.func45 rfl rfl rfl fun w252 hL253 => ?_) gn
     have hp254 : List.Perm ([.box g2 Tb3 [.string r241.2.s, .slice A243 n244 c245, .int .i64 r241.2.e, .int .i64 r241.2.at_]] : List Ent) (([.box g2 Tb3 [.string r241.2.s, .slice A243 n244 c245, .int .i64 r241.2.e, .int .i64 r241.2.at_]] : List Ent) ++ ([] : List Ent)) := perm_of_idx [0] [] rfl rfl (by kernel_rfl)
     refine Calls.mono (trellisref25_Reader_skip_calls w252 (Fl ([Sm w.heap.size F w247 sb251] : List Snap)) r241.2 r241.1 (⟨#[48, 49, 50, 51, 52, 53, 54, 55, 56, 57]⟩ : ByteArray) g2 Tb3 A243 n244 c245 (Rw.mono h246 (hL253.toFl (me 0 rfl) (me 0 rfl))) (hL253.hFl (Sl := ([Sm w.heap.size F w247 sb251] : List Snap)) hp254 (sels [0] rfl)) (hL253.into hp254 (Fl ([Sm w.heap.size F w247 sb251] : List Snap))) r255 hv256) ?_
     rintro _ w261 ⟨A257, n258, c259, rfl, hM262, h260⟩
     obtain ⟨sb265, hL263, hv264⟩ := hL253.callB (Sl := ([Sm w.heap.size F w247 sb251] : List Snap)) hp254 hM262 F (sels [0] rfl) ⟨Sm.ok, trivial⟩
     have h260 : At k_api_JNode (Sm w.heap.size F w261 sb265) A257 n258 c259 r255.2.l := Rw.mono h260 hv264
     refine ⟨_, _, _, rfl, hL263, ?_⟩
     refine wl_v 3 rfl (v_assign rfl) gn rfl ?_
     refine w_end 4 rfl ?_
     exact g_go [0, 2, 3, 4, 5, 6, 7] (j4 r255.1 r255.2.s r255.2.l r255.2.e r255.2.at_ h A257 n258 c259 w261 sb265 h260) ⟨rfl, rfl, trivial⟩ (.cons_cons _ (.slnil)) rfl
    ·have h := if_neg' hp109 h
     refine g_false (c := q64c20) rfl _ rfl ((bf hp109)) ?_
     refine g_skip (c := q64c22) rfl ?_
     exact g_go [0, 0, 1, 2, 3, 4, 5] (j4 x71 x99 x100 x107 x108 h A101 n102 c103 sw104 sb105 h106) ⟨rfl, rfl, trivial⟩ (.cons_cons _ (.slnil)) rfl
   refine g_region (c := q64c19) rfl rfl ?_
   refine wl_v 0 rfl (v_move rfl) gn rfl ?_
   refine wl_v 1 rfl (v_nilCheck rfl) gn rfl ?_
   refine wl_v 2 rfl (v_fldB fo_73_2 rfl) gn rfl ?_
   refine wl_v 3 rfl (v_ldB1 0 ld_34 rfl rfl rfl) gn rfl ?_
   refine wl_v 4 rfl (v_bin rfl rfl rfl) gn rfl ?_
   refine wl_v 5 rfl (v_move rfl) gn rfl ?_
   by_cases hp266 : x80 = 0
   ·have h := if_pos' hp266 h
    refine w_bool 26 rfl ((eqi hp266)) ?_
    refine wl_v 6 rfl (v_move rfl) (gy 26 rfl rfl) rfl ?_
    refine wl_v 7 rfl (v_move rfl) (gy 26 rfl rfl) rfl ?_
    obtain ⟨r270, hv271, h⟩ := h
    refine wl_s 8 rfl (s_call [.pointer (some ⟨g2, 0, none⟩), .int .i64 x71, .string (⟨#[46]⟩ : ByteArray)] rfl Tryd.func60 rfl rfl rfl fun w267 hL268 => ?_) (gy 26 rfl rfl)
    have hp269 : List.Perm ([.box g2 Tb3 [.string x72, .slice A74 n75 c76, .int .i64 x80, .int .i64 x81]] : List Ent) (([.box g2 Tb3 [.string x72, .slice A74 n75 c76, .int .i64 x80, .int .i64 x81]] : List Ent) ++ ([] : List Ent)) := perm_of_idx [0] [] rfl rfl (by kernel_rfl)
    refine Calls.mono (trellisref25_Reader_has_calls w267 (Fl ([Sm w.heap.size F sw77 sb78] : List Snap)) (⟨x72, x73, x80, x81⟩ : trellisref25_Reader) x71 (⟨#[46]⟩ : ByteArray) g2 Tb3 A74 n75 c76 (Rw.mono h79 (hL268.toFl (me 0 rfl) (me 0 rfl))) (hL268.hFl (Sl := ([Sm w.heap.size F sw77 sb78] : List Snap)) hp269 (sels [0] rfl)) (hL268.into hp269 (Fl ([Sm w.heap.size F sw77 sb78] : List Snap))) r270 hv271) ?_
    rintro _ w276 ⟨A272, n273, c274, rfl, hM277, h275⟩
    obtain ⟨sb280, hL278, hv279⟩ := hL268.callB (Sl := ([Sm w.heap.size F sw77 sb78] : List Snap)) hp269 hM277 F (sels [0] rfl) ⟨Sm.ok, trivial⟩
    have h275 : At k_api_JNode (Sm w.heap.size F w276 sb280) A272 n273 c274 r270.2.l := Rw.mono h275 hv279
    refine ⟨_, _, _, rfl, hL278, ?_⟩
    refine wl_v 9 rfl (v_pick (b := true) rfl rfl) gn rfl ?_
    refine w_end 10 rfl ?_
    exact g_go [0, 1, 2, 3, 4, 5] (j3 r270.1 r270.2.s r270.2.l r270.2.e r270.2.at_ h A272 n273 c274 w276 sb280 h275) ⟨rfl, rfl, rfl, trivial⟩ (.cons_cons _ (.slnil)) rfl
   ·have h := if_neg' hp266 h
    refine w_bool 26 rfl ((nei hp266)) ?_
    refine wl_pass 6 rfl (ps 26 rfl rfl rfl) ?_
    refine wl_pass 7 rfl (ps 26 rfl rfl rfl) ?_
    refine wl_pass 8 rfl (ps 26 rfl rfl rfl) ?_
    refine wl_v 9 rfl (v_pick (b := false) rfl rfl) gn rfl ?_
    refine w_end 10 rfl ?_
    exact g_go [0, 0, 1, 2, 3, 4] (j3 false x72 x73 x80 x81 h A74 n75 c76 sw77 sb78 h79) ⟨rfl, rfl, rfl, trivial⟩ (.cons_cons _ (.slnil)) rfl
  by_cases hp40 : r29.1 = true
  ·have h := if_pos' hp40 h
   refine g_true (c := q64c12) rfl _ rfl (hp40) ?_
   refine g_region (c := q64c13) rfl rfl ?_
   refine wl_v 0 rfl (v_move rfl) gn rfl ?_
   refine wl_v 1 rfl (v_bin rfl rfl rfl) gn rfl ?_
   refine wl_v 2 rfl (v_assign rfl) gn rfl ?_
   refine w_end 3 rfl ?_
   exact g_go [0, 0, 1, 2, 3] (j2 (w64 (x25 + 1)) r29.2.s r29.2.l r29.2.e r29.2.at_ h A31 n32 c33 w35 sb39 h34) ⟨rfl, rfl, trivial⟩ (.cons_cons _ (.slnil)) rfl
  ·have h := if_neg' hp40 h
   refine g_false (c := q64c12) rfl _ rfl ((bf hp40)) ?_
   refine g_seq (c := q64c14) rfl ?_
   refine g_region (c := q64c15) rfl rfl ?_
   refine wl_v 0 rfl (v_move rfl) gn rfl ?_
   refine wl_v 1 rfl (v_move rfl) gn rfl ?_
   obtain ⟨r284, hv285, h⟩ := h
   refine wl_s 2 rfl (s_call [.pointer (some ⟨g2, 0, none⟩), .int .i64 x25, .string (⟨#[48, 49, 50, 51, 52, 53, 54, 55, 56, 57]⟩ : ByteArray)] rfl Tryd.func75 rfl rfl rfl fun w281 hL282 => ?_) gn
   have hp283 : List.Perm ([.box g2 Tb3 [.string r29.2.s, .slice A31 n32 c33, .int .i64 r29.2.e, .int .i64 r29.2.at_]] : List Ent) (([.box g2 Tb3 [.string r29.2.s, .slice A31 n32 c33, .int .i64 r29.2.e, .int .i64 r29.2.at_]] : List Ent) ++ ([] : List Ent)) := perm_of_idx [0] [] rfl rfl (by kernel_rfl)
   refine Calls.mono (trellisref25_Reader_need_calls w281 (Fl ([Sm w.heap.size F w35 sb39] : List Snap)) r29.2 x25 (⟨#[48, 49, 50, 51, 52, 53, 54, 55, 56, 57]⟩ : ByteArray) g2 Tb3 A31 n32 c33 (Rw.mono h34 (hL282.toFl (me 0 rfl) (me 0 rfl))) (hL282.hFl (Sl := ([Sm w.heap.size F w35 sb39] : List Snap)) hp283 (sels [0] rfl)) (hL282.into hp283 (Fl ([Sm w.heap.size F w35 sb39] : List Snap))) r284 hv285) ?_
   rintro _ w290 ⟨A286, n287, c288, rfl, hM291, h289⟩
   obtain ⟨sb294, hL292, hv293⟩ := hL282.callB (Sl := ([Sm w.heap.size F w35 sb39] : List Snap)) hp283 hM291 F (sels [0] rfl) ⟨Sm.ok, trivial⟩
   have h289 : At k_api_JNode (Sm w.heap.size F w290 sb294) A286 n287 c288 r284.2.l := Rw.mono h289 hv293
   refine ⟨_, _, _, rfl, hL292, ?_⟩
   refine wl_v 3 rfl (v_assign rfl) gn rfl ?_
   refine w_end 4 rfl ?_
   refine g_region (c := q64c16) rfl rfl ?_
   refine wl_v 0 rfl (v_move rfl) gn rfl ?_
   refine wl_v 1 rfl (v_move rfl) gn rfl ?_
   obtain ⟨r298, hv299, h⟩ := h
   refine wl_s 2 rfl (s_call [.pointer (some ⟨g2, 0, none⟩), .int .i64 r284.1, .string (⟨#[48, 49, 50, 51, 52, 53, 54, 55, 56, 57]⟩ : ByteArray)] rfl Tryd.func45 rfl rfl rfl fun w295 hL296 => ?_) gn
   have hp297 : List.Perm ([.box g2 Tb3 [.string r284.2.s, .slice A286 n287 c288, .int .i64 r284.2.e, .int .i64 r284.2.at_]] : List Ent) (([.box g2 Tb3 [.string r284.2.s, .slice A286 n287 c288, .int .i64 r284.2.e, .int .i64 r284.2.at_]] : List Ent) ++ ([] : List Ent)) := perm_of_idx [0] [] rfl rfl (by kernel_rfl)
   refine Calls.mono (trellisref25_Reader_skip_calls w295 (Fl ([Sm w.heap.size F w290 sb294] : List Snap)) r284.2 r284.1 (⟨#[48, 49, 50, 51, 52, 53, 54, 55, 56, 57]⟩ : ByteArray) g2 Tb3 A286 n287 c288 (Rw.mono h289 (hL296.toFl (me 0 rfl) (me 0 rfl))) (hL296.hFl (Sl := ([Sm w.heap.size F w290 sb294] : List Snap)) hp297 (sels [0] rfl)) (hL296.into hp297 (Fl ([Sm w.heap.size F w290 sb294] : List Snap))) r298 hv299) ?_
   rintro _ w304 ⟨A300, n301, c302, rfl, hM305, h303⟩
   obtain ⟨sb308, hL306, hv307⟩ := hL296.callB (Sl := ([Sm w.heap.size F w290 sb294] : List Snap)) hp297 hM305 F (sels [0] rfl) ⟨Sm.ok, trivial⟩
   have h303 : At k_api_JNode (Sm w.heap.size F w304 sb308) A300 n301 c302 r298.2.l := Rw.mono h303 hv307
   refine ⟨_, _, _, rfl, hL306, ?_⟩
   refine wl_v 3 rfl (v_assign rfl) gn rfl ?_
   refine w_end 4 rfl ?_
   exact g_go [0, 2, 3, 4, 5] (j2 r298.1 r298.2.s r298.2.l r298.2.e r298.2.at_ h A300 n301 c302 w304 sb308 h303) ⟨rfl, rfl, trivial⟩ (.cons_cons _ (.slnil)) rfl
 by_cases hp23 : r12.1 = true
 ·have h := if_pos' hp23 h
  refine g_true (c := q64c6) rfl _ rfl (hp23) ?_
  refine g_region (c := q64c7) rfl rfl ?_
  refine wl_v 0 rfl (v_move rfl) gn rfl ?_
  refine wl_v 1 rfl (v_bin rfl rfl rfl) gn rfl ?_
  refine wl_v 2 rfl (v_assign rfl) gn rfl ?_
  refine w_end 3 rfl ?_
  exact g_go [0, 1, 2] (j1 (w64 (x8 + 1)) h) ⟨rfl, rfl, trivial⟩ (.cons_cons _ (.slnil)) rfl
 ·have h := if_neg' hp23 h
  refine g_false (c := q64c6) rfl _ rfl ((bf hp23)) ?_
  refine g_skip (c := q64c8) rfl ?_
  exact g_go [0, 1, 2] (j1 x8 h) ⟨rfl, rfl, trivial⟩ (.cons_cons _ (.slnil)) rfl
noncomputable abbrev q54c0 : Code := bodyOf Tryd.f54
noncomputable abbrev q54c1 : Code := Code.fst q54c0
noncomputable abbrev q54c2 : Code := Code.snd q54c0
noncomputable abbrev q54c3 : Code := Code.fst q54c2
noncomputable abbrev q54c4 : Code := Code.snd q54c2
noncomputable abbrev q54c5 : Code := Code.fst q54c4
noncomputable abbrev q54c6 : Code := Code.snd q54c4
noncomputable abbrev q54c7 : Code := Code.fst q54c6
noncomputable abbrev q54c8 : Code := Code.snd q54c6
abbrev trellisref25_IsNumber_R (w : World) (F : Nat → Prop) (r : Bool) : Ending → World → Prop := fun e w' => e = .returned (.bool r) ∧ B.Loc w w' [] [St w []]
noncomputable abbrev trellisref25_IsNumber_C (w : World) (F : Nat → Prop) (r : Bool) : Cx := ⟨Tryd.prog, 54, Tryd.f54, 21, trellisref25_IsNumber_R w F  r, w⟩
theorem trellisref25_IsNumber_calls (w : World) (F : Nat → Prop) (x1 : ByteArray) (hF : ∀ b, F b → b < w.heap.size ∧ ∀ o ∈ ([] : List (List Nat)), b ∉ o) (hL0 : B.Loc w w [] [Sm w.heap.size F w [], St w []]) (r : Bool) (h : trellisref25_IsNumber x1 r) : Calls Tryd.prog 54 #[.string x1] w (trellisref25_IsNumber_R w F  r) := by
 unfold trellisref25_IsNumber at h
 refine calls_of_Loc (vs := [.string x1]) 21 Tryd.func54 rfl Tryd.ntmps54 rfl hL0 ?_
 show G (trellisref25_IsNumber_C w F r) _ _ _ _
 refine g_seq (c := q54c0) rfl ?_
 refine g_region (c := q54c1) rfl rfl ?_
 refine wl_v 0 rfl (v_assign rfl) gn rfl ?_
 refine w_end 1 rfl ?_
 refine g_seq (c := q54c2) rfl ?_
 refine g_region (c := q54c3) rfl rfl ?_
 refine wl_v 0 rfl (v_move rfl) gn rfl ?_
 refine wl_v 1 rfl (v_build #[.string x1, .slice none 0 0, .int .i64 0, .int .i64 0] bd_73 rfl (by kernel_rfl)) gn rfl ?_
 refine wl_s 2 rfl (s_box [.string x1, .slice none 0 0, .int .i64 0, .int .i64 0] rfl rfl rfl fun gb2 => ?_) gn
 refine wl_v 3 rfl (v_assign rfl) gn rfl ?_
 refine w_end 4 rfl ?_
 refine g_seq (c := q54c4) rfl ?_
 refine g_region (c := q54c5) rfl rfl ?_
 refine wl_v 0 rfl (v_move rfl) gn rfl ?_
 obtain ⟨r7, hv8, h⟩ := h
 refine wl_s 1 rfl (s_call [.pointer (some ⟨gb2, 0, none⟩), .int .i64 0] rfl Tryd.func64 rfl rfl rfl fun w4 hL5 => ?_) gn
 have hp6 : List.Perm ([.box gb2 73 [.string x1, .slice none 0 0, .int .i64 0, .int .i64 0]] : List Ent) (([.box gb2 73 [.string x1, .slice none 0 0, .int .i64 0, .int .i64 0]] : List Ent) ++ ([] : List Ent)) := perm_of_idx [0] [] rfl rfl (by kernel_rfl)
 refine Calls.mono (trellisref25_Reader_number_calls w4 (Fl ([] : List Snap)) (⟨x1, ([] : List api_JNode), 0, 0⟩ : trellisref25_Reader) 0 gb2 73 none 0 0 Rw.nil (hL5.hFl (Sl := ([] : List Snap)) hp6 (sels [] rfl)) (hL5.into hp6 (Fl ([] : List Snap))) r7 hv8) ?_
 rintro _ w13 ⟨A9, n10, c11, rfl, hM14, h12⟩
 obtain ⟨sb17, hL15, hv16⟩ := hL5.callB (Sl := ([] : List Snap)) hp6 hM14 F (sels [] rfl) trivial
 have h12 : At k_api_JNode (Sm w.heap.size F w13 sb17) A9 n10 c11 r7.2.l := Rw.mono h12 hv16
 refine ⟨_, _, _, rfl, hL15, ?_⟩
 refine wl_v 2 rfl (v_assign rfl) gn rfl ?_
 refine w_end 3 rfl ?_
 refine g_seq (c := q54c6) rfl ?_
 refine g_region (c := q54c7) rfl rfl ?_
 refine wl_v 0 rfl (v_move rfl) gn rfl ?_
 refine wl_v 1 rfl (v_nilCheck rfl) gn rfl ?_
 refine wl_v 2 rfl (v_fldB fo_73_2 rfl) gn rfl ?_
 refine wl_v 3 rfl (v_ldB1 0 ld_34 rfl rfl rfl) gn rfl ?_
 refine wl_v 4 rfl (v_bin rfl rfl rfl) gn rfl ?_
 refine wl_v 5 rfl (v_move rfl) gn rfl ?_
 by_cases hp18 : r7.2.e = 0
 ·have h := if_pos' hp18 h
  refine w_bool 15 rfl ((eqi hp18)) ?_
  refine wl_v 6 rfl (v_move rfl) (gy 15 rfl rfl) rfl ?_
  refine wl_v 7 rfl (v_move rfl) (gy 15 rfl rfl) rfl ?_
  refine wl_v 8 rfl (v_lenS un_9 rfl) (gy 15 rfl rfl) rfl ?_
  refine wl_v 9 rfl (v_bin rfl rfl rfl) (gy 15 rfl rfl) rfl ?_
  refine wl_v 10 rfl (v_pick (b := true) rfl rfl) gn rfl ?_
  refine wl_v 11 rfl (v_assign rfl) gn rfl ?_
  refine w_end 12 rfl ?_
  refine g_retR (c := q54c8) [.bool (r7.1 == (x1.size : Int))] rfl Tryd.func54 rfl (.tmp rfl (.nil)) fun wr hLr => ?_
  have hMr : B.Loc w wr [] [St w []] := hLr.pick0 (sels [2] rfl)
  show trellisref25_IsNumber_R w F  r (.returned (packV [.bool (r7.1 == (x1.size : Int))])) wr
  rw [h]
  exact ⟨rfl, hMr⟩
 ·have h := if_neg' hp18 h
  refine w_bool 15 rfl ((nei hp18)) ?_
  refine wl_pass 6 rfl (ps 15 rfl rfl rfl) ?_
  refine wl_pass 7 rfl (ps 15 rfl rfl rfl) ?_
  refine wl_pass 8 rfl (ps 15 rfl rfl rfl) ?_
  refine wl_pass 9 rfl (ps 15 rfl rfl rfl) ?_
  refine wl_v 10 rfl (v_pick (b := false) rfl rfl) gn rfl ?_
  refine wl_v 11 rfl (v_assign rfl) gn rfl ?_
  refine w_end 12 rfl ?_
  refine g_retR (c := q54c8) [.bool false] rfl Tryd.func54 rfl (.tmp rfl (.nil)) fun wr hLr => ?_
  have hMr : B.Loc w wr [] [St w []] := hLr.pick0 (sels [2] rfl)
  show trellisref25_IsNumber_R w F  r (.returned (packV [.bool false])) wr
  rw [h]
  exact ⟨rfl, hMr⟩
noncomputable abbrev q41c0 : Code := bodyOf Tryd.f41
noncomputable abbrev q41c1 : Code := Code.fst q41c0
noncomputable abbrev q41c2 : Code := Code.snd q41c0
noncomputable abbrev q41c3 : Code := Code.fst q41c2
noncomputable abbrev q41c4 : Code := Code.snd q41c2
noncomputable abbrev q41c5 : Code := Code.fst q41c3
noncomputable abbrev q41c6 : Code := Code.snd q41c3
noncomputable abbrev q41c7 : Code := Code.fst q41c6
noncomputable abbrev q41c8 : Code := Code.snd q41c6
noncomputable abbrev q41c9 : Code := Code.fst q41c7
noncomputable abbrev q41c10 : Code := Code.snd q41c7
noncomputable abbrev q41c11 : Code := Code.fst q41c4
noncomputable abbrev q41c12 : Code := Code.snd q41c4
noncomputable abbrev q41c13 : Code := Code.fst q41c12
noncomputable abbrev q41c14 : Code := Code.snd q41c12
noncomputable abbrev q41c15 : Code := Code.fst q41c13
noncomputable abbrev q41c16 : Code := Code.snd q41c13
noncomputable abbrev q41c17 : Code := Code.fst q41c16
noncomputable abbrev q41c18 : Code := Code.snd q41c16
noncomputable abbrev q41c19 : Code := Code.fst q41c17
noncomputable abbrev q41c20 : Code := Code.snd q41c17
noncomputable abbrev q41c21 : Code := Code.fst q41c14
noncomputable abbrev q41c22 : Code := Code.snd q41c14
noncomputable abbrev q41c23 : Code := Code.fst q41c21
noncomputable abbrev q41c24 : Code := Code.snd q41c21
noncomputable abbrev q41c25 : Code := Code.fst q41c24
noncomputable abbrev q41c26 : Code := Code.snd q41c24
noncomputable abbrev q41c27 : Code := Code.fst q41c25
noncomputable abbrev q41c28 : Code := Code.snd q41c25
noncomputable abbrev q41c29 : Code := Code.fst q41c22
noncomputable abbrev q41c30 : Code := Code.snd q41c22
abbrev trellisref25_alone_R (w : World) (F : Nat → Prop) (r : Bool) : Ending → World → Prop := fun e w' => e = .returned (.bool r) ∧ B.Loc w w' [] [St w []]
noncomputable abbrev trellisref25_alone_C (w : World) (F : Nat → Prop) (r : Bool) : Cx := ⟨Tryd.prog, 41, Tryd.f41, 58, trellisref25_alone_R w F  r, w⟩
theorem trellisref25_alone_calls (w : World) (F : Nat → Prop) (x1 : api_JNode) (hF : ∀ b, F b → b < w.heap.size ∧ ∀ o ∈ ([] : List (List Nat)), b ∉ o) (hL0 : B.Loc w w [] [Sm w.heap.size F w [], St w []]) (r : Bool) (h : trellisref25_alone x1 r) : Calls Tryd.prog 41 #[.agg #[.int .i64 x1.kind, .string x1.key, .string x1.text, .int .i64 x1.kids]] w (trellisref25_alone_R w F  r) := by
 unfold trellisref25_alone at h
 refine calls_of_Loc (vs := [.agg #[.int .i64 x1.kind, .string x1.key, .string x1.text, .int .i64 x1.kids]]) 58 Tryd.func41 rfl Tryd.ntmps41 rfl hL0 ?_
 show G (trellisref25_alone_C w F r) _ _ _ _
 refine g_seq (c := q41c0) rfl ?_
 refine g_region (c := q41c1) rfl rfl ?_
 refine wl_s 0 rfl (s_box [.int .i64 x1.kind, .string x1.key, .string x1.text, .int .i64 x1.kids] rfl rfl rfl fun gb2 => ?_) gn
 refine wl_v 1 rfl (v_assign rfl) gn rfl ?_
 refine w_end 2 rfl ?_
 refine g_seq (c := q41c2) rfl ?_
 refine g_seq (c := q41c3) rfl ?_
 have j1 : ∀ (x23 : Bool) (h : trellisref25_alone_j1 x1 x23 r) , G (trellisref25_alone_C w F r) [.code q41c6, .code q41c4] [(1, .pointer (some ⟨gb2, 0, none⟩)), (18, .bool x23)] [.box gb2 31 [.int .i64 x1.kind, .string x1.key, .string x1.text, .int .i64 x1.kids]] [Sm w.heap.size F w [], St w []] := by
  intro x23 h
  unfold trellisref25_alone_j1 at h
  by_cases hp24 : x23 = true
  ·have h := if_pos' hp24 h
   refine g_true (c := q41c6) rfl _ rfl (hp24) ?_
   refine g_seq (c := q41c7) rfl ?_
   refine g_region (c := q41c9) rfl rfl ?_
   refine wl_v 0 rfl (v_assign rfl) gn rfl ?_
   refine w_end 1 rfl ?_
   refine g_retR (c := q41c10) [.bool false] rfl Tryd.func41 rfl (.tmp rfl (.nil)) fun wr hLr => ?_
   have hMr : B.Loc w wr [] [St w []] := hLr.pick0 (sels [1] rfl)
   show trellisref25_alone_R w F  r (.returned (packV [.bool false])) wr
   rw [h]
   exact ⟨rfl, hMr⟩
  ·have h := if_neg' hp24 h
   refine g_false (c := q41c6) rfl _ rfl ((bf hp24)) ?_
   refine g_skip (c := q41c8) rfl ?_
   refine g_seq (c := q41c4) rfl ?_
   have j2 : ∀ (x27 : Bool) (h : trellisref25_alone_j2 x1 x27 r) , G (trellisref25_alone_C w F r) [.code q41c12] [(1, .pointer (some ⟨gb2, 0, none⟩)), (3, .bool x27)] [.box gb2 31 [.int .i64 x1.kind, .string x1.key, .string x1.text, .int .i64 x1.kids]] [Sm w.heap.size F w [], St w []] := by
    intro x27 h
    unfold trellisref25_alone_j2 at h
    refine g_seq (c := q41c12) rfl ?_
    refine g_seq (c := q41c13) rfl ?_
    have j3 : ∀ (x32 : Bool) (h : trellisref25_alone_j3 x1 x32 r) , G (trellisref25_alone_C w F r) [.code q41c16, .code q41c14] [(1, .pointer (some ⟨gb2, 0, none⟩)), (43, .bool x32)] [.box gb2 31 [.int .i64 x1.kind, .string x1.key, .string x1.text, .int .i64 x1.kids]] [Sm w.heap.size F w [], St w []] := by
     intro x32 h
     unfold trellisref25_alone_j3 at h
     by_cases hp33 : x32 = true
     ·have h := if_pos' hp33 h
      refine g_true (c := q41c16) rfl _ rfl (hp33) ?_
      refine g_seq (c := q41c17) rfl ?_
      refine g_region (c := q41c19) rfl rfl ?_
      refine wl_v 0 rfl (v_assign rfl) gn rfl ?_
      refine w_end 1 rfl ?_
      refine g_retR (c := q41c20) [.bool false] rfl Tryd.func41 rfl (.tmp rfl (.nil)) fun wr hLr => ?_
      have hMr : B.Loc w wr [] [St w []] := hLr.pick0 (sels [1] rfl)
      show trellisref25_alone_R w F  r (.returned (packV [.bool false])) wr
      rw [h]
      exact ⟨rfl, hMr⟩
     ·have h := if_neg' hp33 h
      refine g_false (c := q41c16) rfl _ rfl ((bf hp33)) ?_
      refine g_skip (c := q41c18) rfl ?_
      refine g_seq (c := q41c14) rfl ?_
      refine g_seq (c := q41c21) rfl ?_
      refine g_region (c := q41c23) rfl rfl ?_
      refine wl_v 0 rfl (v_fldB fo_31_0 rfl) gn rfl ?_
      refine wl_v 1 rfl (v_ldB1 0 ld_29 rfl rfl rfl) gn rfl ?_
      refine wl_v 2 rfl (v_bin rfl rfl rfl) gn rfl ?_
      refine w_end 3 rfl ?_
      by_cases hp34 : x1.kind = 4
      ·have h := if_pos' hp34 h
       refine g_true (c := q41c24) rfl _ rfl ((eqi hp34)) ?_
       refine g_seq (c := q41c25) rfl ?_
       refine g_region (c := q41c27) rfl rfl ?_
       refine wl_v 0 rfl (v_fldB fo_31_2 rfl) gn rfl ?_
       refine wl_v 1 rfl (v_ldB1 0 ld_9 rfl rfl rfl) gn rfl ?_
       obtain ⟨r38, hv39, h⟩ := h
       refine wl_s 2 rfl (s_call [.string x1.text] rfl Tryd.func54 rfl rfl rfl fun w35 hL36 => ?_) gn
       have hp37 : List.Perm ([.box gb2 31 [.int .i64 x1.kind, .string x1.key, .string x1.text, .int .i64 x1.kids]] : List Ent) (([] : List Ent) ++ ([.box gb2 31 [.int .i64 x1.kind, .string x1.key, .string x1.text, .int .i64 x1.kids]] : List Ent)) := perm_of_idx [] [0] rfl rfl (by kernel_rfl)
       refine Calls.mono (trellisref25_IsNumber_calls w35 (Fl ([] : List Snap)) x1.text (hL36.hFl (Sl := ([] : List Snap)) hp37 (sels [] rfl)) (hL36.into hp37 (Fl ([] : List Snap))) r38 hv39) ?_
       rintro _ w40 ⟨rfl, hM41⟩
       have hL42 := hL36.call hp37 hM41
       refine ⟨_, _, _, rfl, hL42, ?_⟩
       refine wl_v 3 rfl (v_assign rfl) gn rfl ?_
       refine w_end 4 rfl ?_
       refine g_retR (c := q41c28) [.bool r38] rfl Tryd.func41 rfl (.tmp rfl (.nil)) fun wr hLr => ?_
       have hMr : B.Loc w wr [] [St w []] := hLr.pick0 (sels [1] rfl)
       show trellisref25_alone_R w F  r (.returned (packV [.bool r38])) wr
       rw [h]
       exact ⟨rfl, hMr⟩
      ·have h := if_neg' hp34 h
       refine g_false (c := q41c24) rfl _ rfl ((nei hp34)) ?_
       refine g_skip (c := q41c26) rfl ?_
       refine g_seq (c := q41c22) rfl ?_
       refine g_region (c := q41c29) rfl rfl ?_
       refine wl_v 0 rfl (v_fldB fo_31_0 rfl) gn rfl ?_
       refine wl_v 1 rfl (v_ldB1 0 ld_29 rfl rfl rfl) gn rfl ?_
       refine wl_v 2 rfl (v_bin rfl rfl rfl) gn rfl ?_
       refine wl_v 3 rfl (v_move rfl) gn rfl ?_
       by_cases hp43 : x1.kind = 5
       ·have h := if_pos' hp43 h
        refine w_bool 53 rfl ((eqi hp43)) ?_
        refine wl_pass 4 rfl (ps 53 rfl rfl rfl) ?_
        refine wl_pass 5 rfl (ps 53 rfl rfl rfl) ?_
        refine wl_pass 6 rfl (ps 53 rfl rfl rfl) ?_
        refine wl_v 7 rfl (v_pick (b := true) rfl rfl) gn rfl ?_
        refine wl_v 8 rfl (v_assign rfl) gn rfl ?_
        refine w_end 9 rfl ?_
        refine g_retR (c := q41c30) [.bool true] rfl Tryd.func41 rfl (.tmp rfl (.nil)) fun wr hLr => ?_
        have hMr : B.Loc w wr [] [St w []] := hLr.pick0 (sels [1] rfl)
        show trellisref25_alone_R w F  r (.returned (packV [.bool true])) wr
        rw [h]
        exact ⟨rfl, hMr⟩
       ·have h := if_neg' hp43 h
        refine w_bool 53 rfl ((nei hp43)) ?_
        refine wl_v 4 rfl (v_fldB fo_31_2 rfl) (gy 53 rfl rfl) rfl ?_
        refine wl_v 5 rfl (v_ldB1 0 ld_9 rfl rfl rfl) (gy 53 rfl rfl) rfl ?_
        refine wl_v 6 rfl (v_eqS rfl rfl) (gy 53 rfl rfl) rfl ?_
        refine wl_v 7 rfl (v_pick (b := false) rfl rfl) gn rfl ?_
        refine wl_v 8 rfl (v_assign rfl) gn rfl ?_
        refine w_end 9 rfl ?_
        refine g_retR (c := q41c30) [.bool (seq x1.text (⟨#[]⟩ : ByteArray))] rfl Tryd.func41 rfl (.tmp rfl (.nil)) fun wr hLr => ?_
        have hMr : B.Loc w wr [] [St w []] := hLr.pick0 (sels [1] rfl)
        show trellisref25_alone_R w F  r (.returned (packV [.bool (seq x1.text (⟨#[]⟩ : ByteArray))])) wr
        rw [h]
        exact ⟨rfl, hMr⟩
    refine g_region (c := q41c15) rfl rfl ?_
    refine wl_v 0 rfl (v_fldB fo_31_0 rfl) gn rfl ?_
    refine wl_v 1 rfl (v_ldB1 0 ld_29 rfl rfl rfl) gn rfl ?_
    refine wl_v 2 rfl (v_bin rfl rfl rfl) gn rfl ?_
    refine wl_v 3 rfl (v_move rfl) gn rfl ?_
    by_cases hp44 : x1.kind < 1
    ·have h := if_pos' hp44 h
     refine w_bool 30 rfl ((decide_eq_true hp44)) ?_
     refine wl_pass 4 rfl (ps 30 rfl rfl rfl) ?_
     refine wl_pass 5 rfl (ps 30 rfl rfl rfl) ?_
     refine wl_pass 6 rfl (ps 30 rfl rfl rfl) ?_
     refine wl_v 7 rfl (v_pick (b := true) rfl rfl) gn rfl ?_
     refine wl_v 8 rfl (v_move rfl) gn rfl ?_
     refine wl_pass 9 rfl (ps 35 rfl rfl rfl) ?_
     refine wl_pass 10 rfl (ps 35 rfl rfl rfl) ?_
     refine wl_pass 11 rfl (ps 35 rfl rfl rfl) ?_
     refine wl_pass 12 rfl (pu 38 rfl rfl) ?_
     refine wl_pass 13 rfl (pu 38 rfl rfl) ?_
     refine wl_pass 14 rfl (pu 38 rfl rfl) ?_
     refine wl_pass 15 rfl (ps 35 rfl rfl rfl) ?_
     refine wl_v 16 rfl (v_pick (b := true) rfl rfl) gn rfl ?_
     refine w_end 17 rfl ?_
     exact g_go [0, 1] (j3 true h) ⟨rfl, rfl, trivial⟩ (.cons_cons _ (.slnil)) rfl
    ·have h := if_neg' hp44 h
     refine w_bool 30 rfl ((decide_eq_false hp44)) ?_
     refine wl_v 4 rfl (v_fldB fo_31_0 rfl) (gy 30 rfl rfl) rfl ?_
     refine wl_v 5 rfl (v_ldB1 0 ld_29 rfl rfl rfl) (gy 30 rfl rfl) rfl ?_
     refine wl_v 6 rfl (v_bin rfl rfl rfl) (gy 30 rfl rfl) rfl ?_
     refine wl_v 7 rfl (v_pick (b := false) rfl rfl) gn rfl ?_
     refine wl_v 8 rfl (v_move rfl) gn rfl ?_
     by_cases hp45 : x1.kind > 7
     ·have h := if_pos' hp45 h
      refine w_bool 35 rfl ((decide_eq_true hp45)) ?_
      refine wl_pass 9 rfl (ps 35 rfl rfl rfl) ?_
      refine wl_pass 10 rfl (ps 35 rfl rfl rfl) ?_
      refine wl_pass 11 rfl (ps 35 rfl rfl rfl) ?_
      refine wl_pass 12 rfl (pu 38 rfl rfl) ?_
      refine wl_pass 13 rfl (pu 38 rfl rfl) ?_
      refine wl_pass 14 rfl (pu 38 rfl rfl) ?_
      refine wl_pass 15 rfl (ps 35 rfl rfl rfl) ?_
      refine wl_v 16 rfl (v_pick (b := true) rfl rfl) gn rfl ?_
      refine w_end 17 rfl ?_
      exact g_go [0, 1] (j3 true h) ⟨rfl, rfl, trivial⟩ (.cons_cons _ (.slnil)) rfl
     ·have h := if_neg' hp45 h
      refine w_bool 35 rfl ((decide_eq_false hp45)) ?_
      refine wl_v 9 rfl (v_move rfl) (gy 35 rfl rfl) rfl ?_
      refine wl_v 10 rfl (v_not rfl) (gy 35 rfl rfl) rfl ?_
      refine wl_v 11 rfl (v_move rfl) (gy 35 rfl rfl) rfl ?_
      by_cases hp46 : x27 = true
      ·have h := if_pos' hp46 h
       refine w_bool 38 rfl ((nf hp46)) ?_
       refine wl_pass 12 rfl (ps 38 rfl rfl rfl) ?_
       refine wl_pass 13 rfl (ps 38 rfl rfl rfl) ?_
       refine wl_pass 14 rfl (ps 38 rfl rfl rfl) ?_
       refine wl_v 15 rfl (v_pick (b := false) rfl rfl) (gy 35 rfl rfl) rfl ?_
       refine wl_v 16 rfl (v_pick (b := false) rfl rfl) gn rfl ?_
       refine w_end 17 rfl ?_
       exact g_go [0, 1] (j3 false h) ⟨rfl, rfl, trivial⟩ (.cons_cons _ (.slnil)) rfl
      ·have h := if_neg' hp46 h
       refine w_bool 38 rfl ((nt (bf hp46))) ?_
       refine wl_v 12 rfl (v_fldB fo_31_3 rfl) (gy 38 rfl rfl) rfl ?_
       refine wl_v 13 rfl (v_ldB1 0 ld_3 rfl rfl rfl) (gy 38 rfl rfl) rfl ?_
       refine wl_v 14 rfl (v_bin rfl rfl rfl) (gy 38 rfl rfl) rfl ?_
       refine wl_v 15 rfl (v_pick (b := true) rfl rfl) (gy 35 rfl rfl) rfl ?_
       refine wl_v 16 rfl (v_pick (b := false) rfl rfl) gn rfl ?_
       refine w_end 17 rfl ?_
       exact g_go [0, 1] (j3 (x1.kids != 0) h) ⟨rfl, rfl, trivial⟩ (.cons_cons _ (.slnil)) rfl
   refine g_region (c := q41c11) rfl rfl ?_
   refine wl_v 0 rfl (v_fldB fo_31_0 rfl) gn rfl ?_
   refine wl_v 1 rfl (v_ldB1 0 ld_29 rfl rfl rfl) gn rfl ?_
   refine wl_v 2 rfl (v_bin rfl rfl rfl) gn rfl ?_
   refine wl_v 3 rfl (v_move rfl) gn rfl ?_
   by_cases hp47 : x1.kind = 6
   ·have h := if_pos' hp47 h
    refine w_bool 22 rfl ((eqi hp47)) ?_
    refine wl_pass 4 rfl (ps 22 rfl rfl rfl) ?_
    refine wl_pass 5 rfl (ps 22 rfl rfl rfl) ?_
    refine wl_pass 6 rfl (ps 22 rfl rfl rfl) ?_
    refine wl_v 7 rfl (v_pick (b := true) rfl rfl) gn rfl ?_
    refine wl_v 8 rfl (v_assign rfl) gn rfl ?_
    refine w_end 9 rfl ?_
    exact g_go [0, 1] (j2 true h) ⟨rfl, rfl, trivial⟩ (.cons_cons _ (.slnil)) rfl
   ·have h := if_neg' hp47 h
    refine w_bool 22 rfl ((nei hp47)) ?_
    refine wl_v 4 rfl (v_fldB fo_31_0 rfl) (gy 22 rfl rfl) rfl ?_
    refine wl_v 5 rfl (v_ldB1 0 ld_29 rfl rfl rfl) (gy 22 rfl rfl) rfl ?_
    refine wl_v 6 rfl (v_bin rfl rfl rfl) (gy 22 rfl rfl) rfl ?_
    refine wl_v 7 rfl (v_pick (b := false) rfl rfl) gn rfl ?_
    refine wl_v 8 rfl (v_assign rfl) gn rfl ?_
    refine w_end 9 rfl ?_
    exact g_go [0, 1] (j2 (x1.kind == 7) h) ⟨rfl, rfl, trivial⟩ (.cons_cons _ (.slnil)) rfl
 refine g_region (c := q41c5) rfl rfl ?_
 refine wl_v 0 rfl (v_fldB fo_31_1 rfl) gn rfl ?_
 refine wl_v 1 rfl (v_ldB1 0 ld_9 rfl rfl rfl) gn rfl ?_
 obtain ⟨r51, hv52, h⟩ := h
 refine wl_s 2 rfl (s_call [.string x1.key] rfl Tryd.func53 rfl rfl rfl fun w48 hL49 => ?_) gn
 have hp50 : List.Perm ([.box gb2 31 [.int .i64 x1.kind, .string x1.key, .string x1.text, .int .i64 x1.kids]] : List Ent) (([] : List Ent) ++ ([.box gb2 31 [.int .i64 x1.kind, .string x1.key, .string x1.text, .int .i64 x1.kids]] : List Ent)) := perm_of_idx [] [0] rfl rfl (by kernel_rfl)
 refine Calls.mono (trellisref25_Valid_calls w48 (Fl ([] : List Snap)) x1.key (hL49.hFl (Sl := ([] : List Snap)) hp50 (sels [] rfl)) (hL49.into hp50 (Fl ([] : List Snap))) r51 hv52) ?_
 rintro _ w53 ⟨rfl, hM54⟩
 have hL55 := hL49.call hp50 hM54
 refine ⟨_, _, _, rfl, hL55, ?_⟩
 refine wl_v 3 rfl (v_not rfl) gn rfl ?_
 refine wl_v 4 rfl (v_move rfl) gn rfl ?_
 by_cases hp56 : r51 = true
 ·have h := if_pos' hp56 h
  refine w_bool 8 rfl ((nf hp56)) ?_
  refine wl_v 5 rfl (v_fldB fo_31_2 rfl) (gy 8 rfl rfl) rfl ?_
  refine wl_v 6 rfl (v_ldB1 0 ld_9 rfl rfl rfl) (gy 8 rfl rfl) rfl ?_
  obtain ⟨r60, hv61, h⟩ := h
  refine wl_s 7 rfl (s_call [.string x1.text] rfl Tryd.func53 rfl rfl rfl fun w57 hL58 => ?_) (gy 8 rfl rfl)
  have hp59 : List.Perm ([.box gb2 31 [.int .i64 x1.kind, .string x1.key, .string x1.text, .int .i64 x1.kids]] : List Ent) (([] : List Ent) ++ ([.box gb2 31 [.int .i64 x1.kind, .string x1.key, .string x1.text, .int .i64 x1.kids]] : List Ent)) := perm_of_idx [] [0] rfl rfl (by kernel_rfl)
  refine Calls.mono (trellisref25_Valid_calls w57 (Fl ([] : List Snap)) x1.text (hL58.hFl (Sl := ([] : List Snap)) hp59 (sels [] rfl)) (hL58.into hp59 (Fl ([] : List Snap))) r60 hv61) ?_
  rintro _ w62 ⟨rfl, hM63⟩
  have hL64 := hL58.call hp59 hM63
  refine ⟨_, _, _, rfl, hL64, ?_⟩
  refine wl_v 8 rfl (v_not rfl) (gy 8 rfl rfl) rfl ?_
  refine wl_v 9 rfl (v_pick (b := false) rfl rfl) gn rfl ?_
  refine wl_v 10 rfl (v_move rfl) gn rfl ?_
  by_cases hp65 : r60 = true
  ·have h := if_pos' hp65 h
   refine w_bool 14 rfl ((nf hp65)) ?_
   refine wl_v 11 rfl (v_fldB fo_31_3 rfl) (gy 14 rfl rfl) rfl ?_
   refine wl_v 12 rfl (v_ldB1 0 ld_3 rfl rfl rfl) (gy 14 rfl rfl) rfl ?_
   refine wl_v 13 rfl (v_bin rfl rfl rfl) (gy 14 rfl rfl) rfl ?_
   refine wl_v 14 rfl (v_pick (b := false) rfl rfl) gn rfl ?_
   refine w_end 15 rfl ?_
   exact g_go [0, 1] (j1 (decide (x1.kids < 0)) h) ⟨rfl, rfl, trivial⟩ (.cons_cons _ (.slnil)) rfl
  ·have h := if_neg' hp65 h
   refine w_bool 14 rfl ((nt (bf hp65))) ?_
   refine wl_pass 11 rfl (ps 14 rfl rfl rfl) ?_
   refine wl_pass 12 rfl (ps 14 rfl rfl rfl) ?_
   refine wl_pass 13 rfl (ps 14 rfl rfl rfl) ?_
   refine wl_v 14 rfl (v_pick (b := true) rfl rfl) gn rfl ?_
   refine w_end 15 rfl ?_
   exact g_go [0, 1] (j1 true h) ⟨rfl, rfl, trivial⟩ (.cons_cons _ (.slnil)) rfl
 ·have h := if_neg' hp56 h
  refine w_bool 8 rfl ((nt (bf hp56))) ?_
  refine wl_pass 5 rfl (ps 8 rfl rfl rfl) ?_
  refine wl_pass 6 rfl (ps 8 rfl rfl rfl) ?_
  refine wl_pass 7 rfl (ps 8 rfl rfl rfl) ?_
  refine wl_pass 8 rfl (ps 8 rfl rfl rfl) ?_
  refine wl_v 9 rfl (v_pick (b := true) rfl rfl) gn rfl ?_
  refine wl_v 10 rfl (v_move rfl) gn rfl ?_
  refine wl_pass 11 rfl (ps 14 rfl rfl rfl) ?_
  refine wl_pass 12 rfl (ps 14 rfl rfl rfl) ?_
  refine wl_pass 13 rfl (ps 14 rfl rfl rfl) ?_
  refine wl_v 14 rfl (v_pick (b := true) rfl rfl) gn rfl ?_
  refine w_end 15 rfl ?_
  exact g_go [0, 1] (j1 true h) ⟨rfl, rfl, trivial⟩ (.cons_cons _ (.slnil)) rfl
noncomputable abbrev q32c0 : Code := bodyOf Tryd.f32
noncomputable abbrev q32c1 : Code := Code.fst q32c0
noncomputable abbrev q32c2 : Code := Code.snd q32c0
noncomputable abbrev q32c3 : Code := Code.fst q32c2
noncomputable abbrev q32c4 : Code := Code.snd q32c2
noncomputable abbrev q32c5 : Code := Code.fst q32c4
noncomputable abbrev q32c6 : Code := Code.snd q32c4
noncomputable abbrev q32c7 : Code := Code.fst q32c6
noncomputable abbrev q32c8 : Code := Code.snd q32c6
noncomputable abbrev q32c9 : Code := Code.fst q32c7
noncomputable abbrev q32c10 : Code := Code.snd q32c7
noncomputable abbrev q32c11 : Code := Code.fst q32c10
noncomputable abbrev q32c12 : Code := Code.fst q32c11
noncomputable abbrev q32c13 : Code := Code.fst q32c12
noncomputable abbrev q32c14 : Code := Code.snd q32c12
noncomputable abbrev q32c15 : Code := Code.fst q32c13
noncomputable abbrev q32c16 : Code := Code.snd q32c13
noncomputable abbrev q32c17 : Code := Code.fst q32c16
noncomputable abbrev q32c18 : Code := Code.snd q32c16
noncomputable abbrev q32c19 : Code := Code.fst q32c14
noncomputable abbrev q32c20 : Code := Code.snd q32c14
noncomputable abbrev q32c21 : Code := Code.fst q32c19
noncomputable abbrev q32c22 : Code := Code.fst q32c21
noncomputable abbrev q32c23 : Code := Code.snd q32c21
noncomputable abbrev q32c24 : Code := Code.fst q32c8
noncomputable abbrev q32c25 : Code := Code.snd q32c8
abbrev trellisref25_kids_R (w : World) (F : Nat → Prop) (r : List Int) : Ending → World → Prop := fun e w' => ∃ A0 : Option Addr, ∃ n0 : Nat, ∃ c0 : Nat, e = .returned (.slice A0 n0 c0) ∧ B.Loc w w' [.own (.slice A0 n0 c0) 3 1 n0 (r.flatMap (eI .i64))] [St w []] ∧ Ow w.heap.size A0 n0 c0 r
noncomputable abbrev trellisref25_kids_C (w : World) (F : Nat → Prop) (r : List Int) : Cx := ⟨Tryd.prog, 32, Tryd.f32, 27, trellisref25_kids_R w F  r, w⟩
theorem trellisref25_kids_calls (w : World) (F : Nat → Prop) (x1 : List api_JNode) (x6 : Int) (A2 : Option Addr) (n3 : Nat) (c4 : Nat) (h5 : Rw k_api_JNode w (St w []).av A2 n3 c4 x1) (hF : ∀ b, F b → b < w.heap.size ∧ ∀ o ∈ ([] : List (List Nat)), b ∉ o) (hL0 : B.Loc w w [] [Sm w.heap.size F w [], St w []]) (r : List Int) (h : trellisref25_kids x1 x6 r) : Calls Tryd.prog 32 #[.slice A2 n3 c4, .int .i64 x6] w (trellisref25_kids_R w F  r) := by
 unfold trellisref25_kids at h
 refine calls_of_Loc (vs := [.slice A2 n3 c4, .int .i64 x6]) 27 Tryd.func32 rfl Tryd.ntmps32 rfl hL0 ?_
 show G (trellisref25_kids_C w F r) _ _ _ _
 refine g_seq (c := q32c0) rfl ?_
 refine g_region (c := q32c1) rfl rfl ?_
 refine wl_v 0 rfl (v_assign rfl) gn rfl ?_
 refine w_end 1 rfl ?_
 refine g_seq (c := q32c2) rfl ?_
 refine g_region (c := q32c3) rfl rfl ?_
 refine wl_v 0 rfl (v_assign rfl) gn rfl ?_
 refine w_end 1 rfl ?_
 refine g_seq (c := q32c4) rfl ?_
 refine g_region (c := q32c5) rfl rfl ?_
 refine wl_v 0 rfl (v_move rfl) gn rfl ?_
 refine wl_v 1 rfl (v_bin rfl rfl rfl) gn rfl ?_
 refine wl_v 2 rfl (v_assign rfl) gn rfl ?_
 refine w_end 3 rfl ?_
 refine g_seq (c := q32c6) rfl ?_
 refine g_seq (c := q32c7) rfl ?_
 refine g_region (c := q32c9) rfl rfl ?_
 refine wl_v 0 rfl (v_assign rfl) gn rfl ?_
 refine w_end 1 rfl ?_
 refine g_block (c := q32c10) rfl ?_
 refine g_loop (c := q32c11) rfl ?_
 have key1 : ∀ s, Rounds (fun (s : (List Int) × Int × Int) o => trellisref25_kids_b1 x6 x1 s.1 s.2.1 s.2.2 o) s r → (fun (s : (List Int) × Int × Int) => ∀ (A30 : Option Addr) (n31 : Nat) (c32 : Nat) (h33 : Ow w.heap.size A30 n31 c32 s.1), G (trellisref25_kids_C w F r) [.code q32c12, .inLoop q32c12, .inBlock 0, .code q32c8] [(0, .slice A2 n3 c4), (1, .int .i64 x6), (5, .slice A30 n31 c32), (6, .int .i64 s.2.1), (7, .int .i64 s.2.2)] [.own (.slice A30 n31 c32) 3 1 n31 (s.1.flatMap (eI .i64))] [Sm w.heap.size F w [], St w []]) s := by
  intro s hs
  refine Rounds.ind (mot := (fun (s : (List Int) × Int × Int) => ∀ (A30 : Option Addr) (n31 : Nat) (c32 : Nat) (h33 : Ow w.heap.size A30 n31 c32 s.1), G (trellisref25_kids_C w F r) [.code q32c12, .inLoop q32c12, .inBlock 0, .code q32c8] [(0, .slice A2 n3 c4), (1, .int .i64 x6), (5, .slice A30 n31 c32), (6, .int .i64 s.2.1), (7, .int .i64 s.2.2)] [.own (.slice A30 n31 c32) 3 1 n31 (s.1.flatMap (eI .i64))] [Sm w.heap.size F w [], St w []])) ?_ hs
  clear hs s
  intro s o1 h hO1
  obtain ⟨x29, x34, x35⟩ := s
  show ∀ (A30 : Option Addr) (n31 : Nat) (c32 : Nat) (h33 : Ow w.heap.size A30 n31 c32 x29), G (trellisref25_kids_C w F r) [.code q32c12, .inLoop q32c12, .inBlock 0, .code q32c8] [(0, .slice A2 n3 c4), (1, .int .i64 x6), (5, .slice A30 n31 c32), (6, .int .i64 x34), (7, .int .i64 x35)] [.own (.slice A30 n31 c32) 3 1 n31 (x29.flatMap (eI .i64))] [Sm w.heap.size F w [], St w []]
  intro A30 n31 c32 h33
  have h : trellisref25_kids_b1 x6 x1 x29 x34 x35 o1 := h
  unfold trellisref25_kids_b1 at h
  refine g_seq (c := q32c12) rfl ?_
  refine g_seq (c := q32c13) rfl ?_
  refine g_region (c := q32c15) rfl rfl ?_
  refine wl_v 0 rfl (v_move rfl) gn rfl ?_
  refine wl_v 1 rfl (v_move rfl) gn rfl ?_
  refine wl_v 2 rfl (v_move rfl) gn rfl ?_
  obtain ⟨hb56, h⟩ := h
  have hr57 := Rw.readF (s := St w []) (hl := hl_api_JNode) (h1 := h1_api_JNode) h5 hb56
  refine wl_v 3 rfl (v_idxR (s := St w []) slE_22 rfl rfl h5 hb56) gn rfl ?_
  refine wl_v 4 rfl (v_fldA fo_31_3 rfl) gn rfl ?_
  refine wl_v 5 rfl (v_ldA1 (kk := (x6 : Int).toNat * 4) (j := 3) (St w []) ld_3 rfl hr57 rfl (me 1 rfl)) gn rfl ?_
  refine wl_v 6 rfl (v_bin rfl rfl rfl) gn rfl ?_
  refine w_end 7 rfl ?_
  by_cases hp58 : x35 < (ix x1 x6).kids
  ·have h := if_pos' hp58 h
   refine g_true (c := q32c16) rfl _ rfl ((decide_eq_true hp58)) ?_
   refine g_skip (c := q32c17) rfl ?_
   refine g_seq (c := q32c14) rfl ?_
   refine g_block (c := q32c19) rfl ?_
   refine g_seq (c := q32c21) rfl ?_
   refine g_region (c := q32c22) rfl rfl ?_
   refine wl_v 0 rfl (v_move rfl) gn rfl ?_
   refine wl_v 1 rfl (v_move rfl) gn rfl ?_
   refine wl_s 2 rfl (s_litO (xs := ([x34] : List Int)) [.int .i64 x34] bs_46_1 rfl (by kernel_rfl) rfl rfl rfl rfl fun gb60 h61 => ?_) gn
   obtain ⟨x65, hv66, h⟩ := h
   obtain ⟨hb67, h⟩ := h
   refine wl_s 3 rfl (s_app (zs := x65) (cells' := x65.flatMap (eI .i64)) 1 ap_46 rfl rfl rfl h33 (Nat.le_refl _) (Src.ownF (hl := (hlI .i64)) (h1 := (hone_int .i64)) 0 rfl h61) (by rw [hv66, List.flatMap_append] <;> rfl) (app_len hv66 h61.hq) hb67 rfl rfl fun A62 c63 h64 => ?_) gn
   refine wl_v 4 rfl (v_assign rfl) gn rfl ?_
   refine w_end 5 rfl ?_
   refine g_region (c := q32c23) rfl rfl ?_
   refine wl_v 0 rfl (v_move rfl) gn rfl ?_
   refine wl_v 1 rfl (v_move rfl) gn rfl ?_
   obtain ⟨r71, hv72, h⟩ := h
   refine wl_s 2 rfl (s_call [.slice A2 n3 c4, .int .i64 x34] rfl Tryd.func40 rfl rfl rfl fun w68 hL69 => ?_) gn
   have hp70 : List.Perm ([.own (.slice (some ⟨gb60, 0, none⟩) 1 1) 3 1 1 (([x34] : List Int).flatMap (eI .i64)), .own (.slice A62 (n31 + 1) c63) 3 1 (n31 + 1) (x65.flatMap (eI .i64))] : List Ent) (([] : List Ent) ++ ([.own (.slice (some ⟨gb60, 0, none⟩) 1 1) 3 1 1 (([x34] : List Int).flatMap (eI .i64)), .own (.slice A62 (n31 + 1) c63) 3 1 (n31 + 1) (x65.flatMap (eI .i64))] : List Ent)) := perm_of_idx [] [0, 1] rfl rfl (by kernel_rfl)
   refine Calls.mono (trellisref25_Behind_calls w68 (Fl ([] : List Snap)) x1 x34 A2 n3 c4 (Rw.mono h5 (hL69.toSt hp70 (me 1 rfl))) (hL69.hFl (Sl := ([] : List Snap)) hp70 (sels [] rfl)) (hL69.into hp70 (Fl ([] : List Snap))) r71 hv72) ?_
   rintro _ w73 ⟨rfl, hM74⟩
   have hL75 := hL69.call hp70 hM74
   refine ⟨_, _, _, rfl, hL75, ?_⟩
   refine wl_v 3 rfl (v_assign rfl) gn rfl ?_
   refine w_end 4 rfl ?_
   refine g_inBlock ?_
   refine g_region (c := q32c20) rfl rfl ?_
   refine wl_v 0 rfl (v_move rfl) gn rfl ?_
   refine wl_v 1 rfl (v_bin rfl rfl rfl) gn rfl ?_
   refine wl_v 2 rfl (v_assign rfl) gn rfl ?_
   refine w_end 3 rfl ?_
   refine g_inLoop ?_
   have ih := Out.inl hO1 h
   exact g_go [0, 1] (ih A62 (n31 + 1) c63 h64) ⟨rfl, rfl, rfl, rfl, rfl, trivial⟩ (.cons _ (.cons_cons _ (.slnil))) rfl
  ·have h := if_neg' hp58 h
   refine g_false (c := q32c16) rfl _ rfl ((decide_eq_false hp58)) ?_
   refine g_exit (c := q32c18) [.code q32c8] rfl rfl ?_
   refine g_seq (c := q32c8) rfl ?_
   refine g_region (c := q32c24) rfl rfl ?_
   refine wl_v 0 rfl (v_move rfl) gn rfl ?_
   refine wl_v 1 rfl (v_assign rfl) gn rfl ?_
   refine w_end 2 rfl ?_
   have h := Out.inr hO1 h
   refine g_retR (c := q32c25) [.slice A30 n31 c32] rfl Tryd.func32 rfl (.tmp rfl (.nil)) fun wr hLr => ?_
   have hMr : B.Loc w wr [.own (.slice A30 n31 c32) 3 1 n31 (x29.flatMap (eI .i64))] [St w []] := hLr.pick (rest := []) (perm_of_idx [0] [] rfl rfl (by kernel_rfl)) (sels [1] rfl)
   show trellisref25_kids_R w F  r (.returned (packV [.slice A30 n31 c32])) wr
   rw [h]
   exact ⟨A30, n31, c32, rfl, hMr, h33⟩
 refine g_nil 3 1 ?_
 exact g_go [0, 1] (key1 _ h none 0 0 (Ow.nil (z := w.heap.size))) ⟨rfl, rfl, rfl, rfl, rfl, trivial⟩ (.cons_cons _ (.slnil)) rfl
noncomputable abbrev q42c0 : Code := bodyOf Tryd.f42
noncomputable abbrev q42c1 : Code := Code.fst q42c0
noncomputable abbrev q42c2 : Code := Code.snd q42c0
noncomputable abbrev q42c3 : Code := Code.fst q42c2
noncomputable abbrev q42c4 : Code := Code.snd q42c2
noncomputable abbrev q42c5 : Code := Code.fst q42c4
noncomputable abbrev q42c6 : Code := Code.snd q42c4
noncomputable abbrev q42c7 : Code := Code.fst q42c5
noncomputable abbrev q42c8 : Code := Code.snd q42c5
noncomputable abbrev q42c9 : Code := Code.fst q42c8
noncomputable abbrev q42c10 : Code := Code.snd q42c8
noncomputable abbrev q42c11 : Code := Code.fst q42c9
noncomputable abbrev q42c12 : Code := Code.snd q42c9
noncomputable abbrev q42c13 : Code := Code.fst q42c6
noncomputable abbrev q42c14 : Code := Code.snd q42c6
noncomputable abbrev q42c15 : Code := Code.fst q42c14
noncomputable abbrev q42c16 : Code := Code.snd q42c14
noncomputable abbrev q42c17 : Code := Code.fst q42c15
noncomputable abbrev q42c18 : Code := Code.snd q42c15
noncomputable abbrev q42c19 : Code := Code.fst q42c18
noncomputable abbrev q42c20 : Code := Code.fst q42c19
noncomputable abbrev q42c21 : Code := Code.fst q42c20
noncomputable abbrev q42c22 : Code := Code.snd q42c20
noncomputable abbrev q42c23 : Code := Code.fst q42c21
noncomputable abbrev q42c24 : Code := Code.snd q42c21
noncomputable abbrev q42c25 : Code := Code.fst q42c24
noncomputable abbrev q42c26 : Code := Code.snd q42c24
noncomputable abbrev q42c27 : Code := Code.fst q42c22
noncomputable abbrev q42c28 : Code := Code.snd q42c22
noncomputable abbrev q42c29 : Code := Code.fst q42c27
noncomputable abbrev q42c30 : Code := Code.fst q42c29
noncomputable abbrev q42c31 : Code := Code.snd q42c29
noncomputable abbrev q42c32 : Code := Code.fst q42c30
noncomputable abbrev q42c33 : Code := Code.snd q42c30
noncomputable abbrev q42c34 : Code := Code.fst q42c33
noncomputable abbrev q42c35 : Code := Code.snd q42c33
noncomputable abbrev q42c36 : Code := Code.fst q42c34
noncomputable abbrev q42c37 : Code := Code.snd q42c34
noncomputable abbrev q42c38 : Code := Code.fst q42c31
noncomputable abbrev q42c39 : Code := Code.snd q42c31
noncomputable abbrev q42c40 : Code := Code.fst q42c38
noncomputable abbrev q42c41 : Code := Code.snd q42c38
noncomputable abbrev q42c42 : Code := Code.fst q42c41
noncomputable abbrev q42c43 : Code := Code.fst q42c42
noncomputable abbrev q42c44 : Code := Code.fst q42c43
noncomputable abbrev q42c45 : Code := Code.snd q42c43
noncomputable abbrev q42c46 : Code := Code.fst q42c44
noncomputable abbrev q42c47 : Code := Code.snd q42c44
noncomputable abbrev q42c48 : Code := Code.fst q42c47
noncomputable abbrev q42c49 : Code := Code.snd q42c47
noncomputable abbrev q42c50 : Code := Code.fst q42c39
noncomputable abbrev q42c51 : Code := Code.snd q42c39
noncomputable abbrev q42c52 : Code := Code.fst q42c51
noncomputable abbrev q42c53 : Code := Code.snd q42c51
noncomputable abbrev q42c54 : Code := Code.fst q42c52
noncomputable abbrev q42c55 : Code := Code.snd q42c52
noncomputable abbrev q42c56 : Code := Code.fst q42c16
noncomputable abbrev q42c57 : Code := Code.snd q42c16
noncomputable abbrev q42c58 : Code := Code.fst q42c45
noncomputable abbrev q42c59 : Code := Code.snd q42c45
noncomputable abbrev q42c60 : Code := Code.fst q42c58
noncomputable abbrev q42c61 : Code := Code.fst q42c60
noncomputable abbrev q42c62 : Code := Code.snd q42c60
noncomputable abbrev q42c63 : Code := Code.fst q42c62
noncomputable abbrev q42c64 : Code := Code.snd q42c62
noncomputable abbrev q42c65 : Code := Code.fst q42c63
noncomputable abbrev q42c66 : Code := Code.snd q42c63
abbrev trellisref25_inside_R (w : World) (F : Nat → Prop) (r : Bool) : Ending → World → Prop := fun e w' => e = .returned (.bool r) ∧ B.Loc w w' [] [St w []]
noncomputable abbrev trellisref25_inside_C (w : World) (F : Nat → Prop) (r : Bool) : Cx := ⟨Tryd.prog, 42, Tryd.f42, 95, trellisref25_inside_R w F  r, w⟩
def trellisref25_inside_st (rl : (List api_JNode) → Int → Int → Bool → Prop) : Prop := ∀ (w : World) (F : Nat → Prop) (x1 : List api_JNode) (x6 : Int) (x7 : Int) (A2 : Option Addr) (n3 : Nat) (c4 : Nat) (h5 : Rw k_api_JNode w (St w []).av A2 n3 c4 x1) (hF : ∀ b, F b → b < w.heap.size ∧ ∀ o ∈ ([] : List (List Nat)), b ∉ o) (hL0 : B.Loc w w [] [Sm w.heap.size F w [], St w []]) (r : Bool) (h : rl x1 x6 x7 r), Calls Tryd.prog 42 #[.slice A2 n3 c4, .int .i64 x6, .int .i64 x7] w (trellisref25_inside_R w F  r)
theorem trellisref25_inside_step (rc_trellisref25_inside : (List api_JNode) → Int → Int → Bool → Prop) (ih_trellisref25_inside : trellisref25_inside_st rc_trellisref25_inside) : trellisref25_inside_st (trellisref25_inside_body rc_trellisref25_inside) := by
 intro w F x1 x6 x7 A2 n3 c4 h5 hF hL0 r h
 unfold trellisref25_inside_body at h
 refine calls_of_Loc (vs := [.slice A2 n3 c4, .int .i64 x6, .int .i64 x7]) 95 Tryd.func42 rfl Tryd.ntmps42 rfl hL0 ?_
 show G (trellisref25_inside_C w F r) _ _ _ _
 refine g_seq (c := q42c0) rfl ?_
 refine g_region (c := q42c1) rfl rfl ?_
 refine wl_v 0 rfl (v_assign rfl) gn rfl ?_
 refine w_end 1 rfl ?_
 refine g_seq (c := q42c2) rfl ?_
 have j1 : ∀ (x13 : Bool) (h : trellisref25_inside_j1 x1 x6 rc_trellisref25_inside x7 x13 r) , G (trellisref25_inside_C w F r) [.code q42c4] [(0, .slice A2 n3 c4), (1, .int .i64 x6), (2, .int .i64 x7), (7, .bool x13)] [] [Sm w.heap.size F w [], St w []] := by
  intro x13 h
  unfold trellisref25_inside_j1 at h
  refine g_seq (c := q42c4) rfl ?_
  refine g_seq (c := q42c5) rfl ?_
  have j2 : ∀ (x16 : Bool) (h : trellisref25_inside_j2 x1 x6 rc_trellisref25_inside x7 x16 r) , G (trellisref25_inside_C w F r) [.code q42c8, .code q42c6] [(0, .slice A2 n3 c4), (1, .int .i64 x6), (2, .int .i64 x7), (29, .bool x16)] [] [Sm w.heap.size F w [], St w []] := by
   intro x16 h
   unfold trellisref25_inside_j2 at h
   by_cases hp17 : x16 = true
   ·have h := if_pos' hp17 h
    refine g_true (c := q42c8) rfl _ rfl (hp17) ?_
    refine g_seq (c := q42c9) rfl ?_
    refine g_region (c := q42c11) rfl rfl ?_
    refine wl_v 0 rfl (v_assign rfl) gn rfl ?_
    refine w_end 1 rfl ?_
    refine g_retR (c := q42c12) [.bool false] rfl Tryd.func42 rfl (.tmp rfl (.nil)) fun wr hLr => ?_
    have hMr : B.Loc w wr [] [St w []] := hLr.pick0 (sels [1] rfl)
    show trellisref25_inside_R w F  r (.returned (packV [.bool false])) wr
    rw [h]
    exact ⟨rfl, hMr⟩
   ·have h := if_neg' hp17 h
    refine g_false (c := q42c8) rfl _ rfl ((bf hp17)) ?_
    refine g_skip (c := q42c10) rfl ?_
    refine g_seq (c := q42c6) rfl ?_
    refine g_region (c := q42c13) rfl rfl ?_
    refine wl_v 0 rfl (v_move rfl) gn rfl ?_
    refine wl_v 1 rfl (v_move rfl) gn rfl ?_
    obtain ⟨r21, hv22, h⟩ := h
    refine wl_s 2 rfl (s_call [.slice A2 n3 c4, .int .i64 x6] rfl Tryd.func32 rfl rfl rfl fun w18 hL19 => ?_) gn
    have hp20 : List.Perm ([] : List Ent) (([] : List Ent) ++ ([] : List Ent)) := perm_of_idx [] [] rfl rfl (by kernel_rfl)
    refine Calls.mono (trellisref25_kids_calls w18 (Fl ([] : List Snap)) x1 x6 A2 n3 c4 (Rw.mono h5 (hL19.toSt hp20 (me 1 rfl))) (hL19.hFl (Sl := ([] : List Snap)) hp20 (sels [] rfl)) (hL19.into hp20 (Fl ([] : List Snap))) r21 hv22) ?_
    rintro _ w28 ⟨A23, n24, c25, rfl, hM29, h26⟩
    have hL30 := hL19.call hp20 hM29
    refine ⟨_, _, _, rfl, hL30, ?_⟩
    refine wl_v 3 rfl (v_assign rfl) gn rfl ?_
    refine w_end 4 rfl ?_
    refine g_seq (c := q42c14) rfl ?_
    refine g_seq (c := q42c15) rfl ?_
    refine g_region (c := q42c17) rfl rfl ?_
    refine wl_v 0 rfl (v_assign rfl) gn rfl ?_
    refine w_end 1 rfl ?_
    refine g_block (c := q42c18) rfl ?_
    refine g_loop (c := q42c19) rfl ?_
    have key3 : ∀ s, Rounds (fun (s : Int) o => trellisref25_inside_b3 r21 x6 x1 rc_trellisref25_inside x7 s o) s r → (fun (s : Int) => ∀ (_ : Unit), G (trellisref25_inside_C w F r) [.code q42c20, .inLoop q42c20, .inBlock 0, .code q42c16] [(0, .slice A2 n3 c4), (1, .int .i64 x6), (2, .int .i64 x7), (8, .slice A23 n24 c25), (9, .int .i64 s)] [.own (.slice A23 n24 c25) 3 1 n24 (r21.flatMap (eI .i64))] [Sm w.heap.size F w [], St w []]) s := by
     intro s hs
     refine Rounds.ind (mot := (fun (s : Int) => ∀ (_ : Unit), G (trellisref25_inside_C w F r) [.code q42c20, .inLoop q42c20, .inBlock 0, .code q42c16] [(0, .slice A2 n3 c4), (1, .int .i64 x6), (2, .int .i64 x7), (8, .slice A23 n24 c25), (9, .int .i64 s)] [.own (.slice A23 n24 c25) 3 1 n24 (r21.flatMap (eI .i64))] [Sm w.heap.size F w [], St w []])) ?_ hs
     clear hs s
     intro x69 o1 h hO1
     show ∀ (_ : Unit), G (trellisref25_inside_C w F r) [.code q42c20, .inLoop q42c20, .inBlock 0, .code q42c16] [(0, .slice A2 n3 c4), (1, .int .i64 x6), (2, .int .i64 x7), (8, .slice A23 n24 c25), (9, .int .i64 x69)] [.own (.slice A23 n24 c25) 3 1 n24 (r21.flatMap (eI .i64))] [Sm w.heap.size F w [], St w []]
     intro _
     have h : trellisref25_inside_b3 r21 x6 x1 rc_trellisref25_inside x7 x69 o1 := h
     unfold trellisref25_inside_b3 at h
     refine g_seq (c := q42c20) rfl ?_
     refine g_seq (c := q42c21) rfl ?_
     refine g_region (c := q42c23) rfl rfl ?_
     refine wl_v 0 rfl (v_move rfl) gn rfl ?_
     refine wl_v 1 rfl (v_move rfl) gn rfl ?_
     refine wl_v 2 rfl (v_lenQ un_46 rfl (Ow.weak hL19.env.size h26).hq) gn rfl ?_
     refine wl_v 3 rfl (v_bin rfl rfl rfl) gn rfl ?_
     refine w_end 4 rfl ?_
     by_cases hp175 : x69 < (r21.length : Int)
     ·have h := if_pos' hp175 h
      refine g_true (c := q42c24) rfl _ rfl ((decide_eq_true hp175)) ?_
      refine g_skip (c := q42c25) rfl ?_
      refine g_seq (c := q42c22) rfl ?_
      refine g_block (c := q42c27) rfl ?_
      refine g_seq (c := q42c29) rfl ?_
      refine g_seq (c := q42c30) rfl ?_
      have j4 : ∀ (x183 : Bool) (h : trellisref25_inside_j4 x69 x6 x1 r21 rc_trellisref25_inside x7 x183 o1) , G (trellisref25_inside_C w F r) [.code q42c33, .code q42c31, .inBlock 1, .code q42c28, .inLoop q42c20, .inBlock 0, .code q42c16] [(0, .slice A2 n3 c4), (1, .int .i64 x6), (2, .int .i64 x7), (8, .slice A23 n24 c25), (9, .int .i64 x69), (55, .bool x183)] [.own (.slice A23 n24 c25) 3 1 n24 (r21.flatMap (eI .i64))] [Sm w.heap.size F w [], St w []] := by
       intro x183 h
       unfold trellisref25_inside_j4 at h
       by_cases hp184 : x183 = true
       ·have h := if_pos' hp184 h
        refine g_true (c := q42c33) rfl _ rfl (hp184) ?_
        refine g_seq (c := q42c34) rfl ?_
        refine g_region (c := q42c36) rfl rfl ?_
        refine wl_v 0 rfl (v_assign rfl) gn rfl ?_
        refine w_end 1 rfl ?_
        have h := Out.inr hO1 h
        refine g_retR (c := q42c37) [.bool false] rfl Tryd.func42 rfl (.tmp rfl (.nil)) fun wr hLr => ?_
        have hMr : B.Loc w wr [] [St w []] := hLr.pick0 (sels [1] rfl)
        show trellisref25_inside_R w F  r (.returned (packV [.bool false])) wr
        rw [h]
        exact ⟨rfl, hMr⟩
       ·have h := if_neg' hp184 h
        refine g_false (c := q42c33) rfl _ rfl ((bf hp184)) ?_
        refine g_skip (c := q42c35) rfl ?_
        refine g_seq (c := q42c31) rfl ?_
        refine g_seq (c := q42c38) rfl ?_
        refine g_region (c := q42c40) rfl rfl ?_
        refine wl_v 0 rfl (v_assign rfl) gn rfl ?_
        refine w_end 1 rfl ?_
        refine g_block (c := q42c41) rfl ?_
        refine g_loop (c := q42c42) rfl ?_
        have key5 : ∀ s, Rounds (fun (s : Int) o => trellisref25_inside_b5 x69 x6 x1 r21 rc_trellisref25_inside x7 s o) s o1 → (fun (s : Int) => ∀ (_ : Unit), G (trellisref25_inside_C w F r) [.code q42c43, .inLoop q42c43, .inBlock 2, .code q42c39, .inBlock 1, .code q42c28, .inLoop q42c20, .inBlock 0, .code q42c16] [(0, .slice A2 n3 c4), (1, .int .i64 x6), (2, .int .i64 x7), (8, .slice A23 n24 c25), (9, .int .i64 x69), (10, .int .i64 s)] [.own (.slice A23 n24 c25) 3 1 n24 (r21.flatMap (eI .i64))] [Sm w.heap.size F w [], St w []]) s := by
         intro s hs
         refine Rounds.ind (mot := (fun (s : Int) => ∀ (_ : Unit), G (trellisref25_inside_C w F r) [.code q42c43, .inLoop q42c43, .inBlock 2, .code q42c39, .inBlock 1, .code q42c28, .inLoop q42c20, .inBlock 0, .code q42c16] [(0, .slice A2 n3 c4), (1, .int .i64 x6), (2, .int .i64 x7), (8, .slice A23 n24 c25), (9, .int .i64 x69), (10, .int .i64 s)] [.own (.slice A23 n24 c25) 3 1 n24 (r21.flatMap (eI .i64))] [Sm w.heap.size F w [], St w []])) ?_ hs
         clear hs s
         intro x215 o2 h hO2
         show ∀ (_ : Unit), G (trellisref25_inside_C w F r) [.code q42c43, .inLoop q42c43, .inBlock 2, .code q42c39, .inBlock 1, .code q42c28, .inLoop q42c20, .inBlock 0, .code q42c16] [(0, .slice A2 n3 c4), (1, .int .i64 x6), (2, .int .i64 x7), (8, .slice A23 n24 c25), (9, .int .i64 x69), (10, .int .i64 x215)] [.own (.slice A23 n24 c25) 3 1 n24 (r21.flatMap (eI .i64))] [Sm w.heap.size F w [], St w []]
         intro _
         have h : trellisref25_inside_b5 x69 x6 x1 r21 rc_trellisref25_inside x7 x215 o2 := h
         unfold trellisref25_inside_b5 at h
         refine g_seq (c := q42c43) rfl ?_
         refine g_seq (c := q42c44) rfl ?_
         refine g_region (c := q42c46) rfl rfl ?_
         refine wl_v 0 rfl (v_move rfl) gn rfl ?_
         refine wl_v 1 rfl (v_move rfl) gn rfl ?_
         refine wl_v 2 rfl (v_bin rfl rfl rfl) gn rfl ?_
         refine w_end 3 rfl ?_
         by_cases hp245 : x215 < x69
         ·have h := if_pos' hp245 h
          refine g_true (c := q42c47) rfl _ rfl ((decide_eq_true hp245)) ?_
          refine g_skip (c := q42c48) rfl ?_
          refine g_seq (c := q42c45) rfl ?_
          refine g_block (c := q42c58) rfl ?_
          refine g_seq (c := q42c60) rfl ?_
          obtain ⟨hb246, h⟩ := h
          by_cases hp248 : (ix x1 x6).kind = 7
          ·have h := if_pos' hp248 h
           obtain ⟨hb249, h⟩ := h
           obtain ⟨hb250, h⟩ := h
           obtain ⟨hb252, h⟩ := h
           obtain ⟨hb253, h⟩ := h
           have hns : Region.noSelect (Code.ops q42c61) = true := by kernel_rfl
           refine g_drawF (c := q42c61) [.own (.slice A23 n24 c25) 3 1 n24 (r21.flatMap (eI .i64))] [Sm w.heap.size F w [], St w []] [] 25 rfl rfl mix rfl (.cons_cons _ (.slnil)) (sels [0, 1] rfl) ?_
           refine wfv 0 rfl (v_move rfl) gn hns rfl ?_
           refine wfv 1 rfl (v_move rfl) gn hns rfl ?_
           have hr258 := Rw.readF (s := St w []) (hl := hl_api_JNode) (h1 := h1_api_JNode) h5 hb246
           refine wfv 2 rfl (v_idxR (s := St w []) slE_22 rfl rfl h5 hb246) gn hns rfl ?_
           refine wfv 3 rfl (v_fldA fo_31_0 rfl) gn hns rfl ?_
           refine wfv 4 rfl (v_ldA1 (kk := (x6 : Int).toNat * 4) (j := 0) (St w []) ld_29 rfl hr258 rfl (me 1 rfl)) gn hns rfl ?_
           refine wfv 5 rfl (v_bin rfl rfl rfl) gn hns rfl ?_
           refine wfv 6 rfl (v_move rfl) gn hns rfl ?_
           refine wf_bool 67 rfl ((eqi hp248)) ?_
           refine wfv 7 rfl (v_move rfl) (gy 67 rfl rfl) hns rfl ?_
           refine wfv 8 rfl (v_move rfl) (gy 67 rfl rfl) hns rfl ?_
           refine wfv 9 rfl (v_move rfl) (gy 67 rfl rfl) hns rfl ?_
           refine wfv 10 rfl (v_idxO slE_46 rfl rfl (Ow.weak hL19.env.size h26) hb249) (gy 67 rfl rfl) hns rfl ?_
           refine wfv 11 rfl (v_ldO1 (.int .i64 (ix r21 x215)) 0 ld_3 rfl rfl (fm_get0 (hlI .i64) hb249 rfl)) (gy 67 rfl rfl) hns rfl ?_
           have hr259 := Rw.readF (s := St w []) (hl := hl_api_JNode) (h1 := h1_api_JNode) h5 hb250
           refine wfv 12 rfl (v_idxR (s := St w []) slE_22 rfl rfl h5 hb250) (gy 67 rfl rfl) hns rfl ?_
           refine wfv 13 rfl (v_fldA fo_31_1 rfl) (gy 67 rfl rfl) hns rfl ?_
           refine wfv 14 rfl (v_ldA1 (kk := (ix r21 x215 : Int).toNat * 4) (j := 1) (St w []) ld_9 rfl hr259 rfl (me 1 rfl)) (gy 67 rfl rfl) hns rfl ?_
           refine wfv 15 rfl (v_move rfl) (gy 67 rfl rfl) hns rfl ?_
           refine wfv 16 rfl (v_move rfl) (gy 67 rfl rfl) hns rfl ?_
           refine wfv 17 rfl (v_move rfl) (gy 67 rfl rfl) hns rfl ?_
           refine wfv 18 rfl (v_idxO slE_46 rfl rfl (Ow.weak hL19.env.size h26) hb252) (gy 67 rfl rfl) hns rfl ?_
           refine wfv 19 rfl (v_ldO1 (.int .i64 (ix r21 x69)) 0 ld_3 rfl rfl (fm_get0 (hlI .i64) hb252 rfl)) (gy 67 rfl rfl) hns rfl ?_
           have hr260 := Rw.readF (s := St w []) (hl := hl_api_JNode) (h1 := h1_api_JNode) h5 hb253
           refine wfv 20 rfl (v_idxR (s := St w []) slE_22 rfl rfl h5 hb253) (gy 67 rfl rfl) hns rfl ?_
           refine wfv 21 rfl (v_fldA fo_31_1 rfl) (gy 67 rfl rfl) hns rfl ?_
           refine wfv 22 rfl (v_ldA1 (kk := (ix r21 x69 : Int).toNat * 4) (j := 1) (St w []) ld_9 rfl hr260 rfl (me 1 rfl)) (gy 67 rfl rfl) hns rfl ?_
           refine wfv 23 rfl (v_eqS rfl rfl) (gy 67 rfl rfl) hns rfl ?_
           refine wfv 24 rfl (v_pick (b := true) rfl rfl) gn hns rfl ?_
           refine wf_end (by kernel_rfl) ?_
           by_cases hp261 : (ix x1 (ix r21 x215)).key = (ix x1 (ix r21 x69)).key
           ·have h := if_pos' hp261 h
            refine g_true (c := q42c62) rfl _ rfl ((seq_t hp261)) ?_
            refine g_seq (c := q42c63) rfl ?_
            refine g_region (c := q42c65) rfl rfl ?_
            refine wl_v 0 rfl (v_assign rfl) gn rfl ?_
            refine w_end 1 rfl ?_
            have h := Out.inr hO2 h
            have h := Out.inr hO1 h
            refine g_retR (c := q42c66) [.bool false] rfl Tryd.func42 rfl (.tmp rfl (.nil)) fun wr hLr => ?_
            have hMr : B.Loc w wr [] [St w []] := hLr.pick0 (sels [1] rfl)
            show trellisref25_inside_R w F  r (.returned (packV [.bool false])) wr
            rw [h]
            exact ⟨rfl, hMr⟩
           ·have h := if_neg' hp261 h
            refine g_false (c := q42c62) rfl _ rfl ((seq_f hp261)) ?_
            refine g_skip (c := q42c64) rfl ?_
            refine g_inBlock ?_
            refine g_region (c := q42c59) rfl rfl ?_
            refine wl_v 0 rfl (v_move rfl) gn rfl ?_
            refine wl_v 1 rfl (v_bin rfl rfl rfl) gn rfl ?_
            refine wl_v 2 rfl (v_assign rfl) gn rfl ?_
            refine w_end 3 rfl ?_
            refine g_inLoop ?_
            have ih := Out.inl hO2 h
            exact g_go [0, 1] (ih ()) ⟨rfl, rfl, rfl, rfl, rfl, rfl, trivial⟩ (.cons_cons _ (.slnil)) rfl
          ·have h := if_neg' hp248 h
           have hns : Region.noSelect (Code.ops q42c61) = true := by kernel_rfl
           refine g_drawF (c := q42c61) [.own (.slice A23 n24 c25) 3 1 n24 (r21.flatMap (eI .i64))] [Sm w.heap.size F w [], St w []] [] 25 rfl rfl mix rfl (.cons_cons _ (.slnil)) (sels [0, 1] rfl) ?_
           refine wfv 0 rfl (v_move rfl) gn hns rfl ?_
           refine wfv 1 rfl (v_move rfl) gn hns rfl ?_
           have hr263 := Rw.readF (s := St w []) (hl := hl_api_JNode) (h1 := h1_api_JNode) h5 hb246
           refine wfv 2 rfl (v_idxR (s := St w []) slE_22 rfl rfl h5 hb246) gn hns rfl ?_
           refine wfv 3 rfl (v_fldA fo_31_0 rfl) gn hns rfl ?_
           refine wfv 4 rfl (v_ldA1 (kk := (x6 : Int).toNat * 4) (j := 0) (St w []) ld_29 rfl hr263 rfl (me 1 rfl)) gn hns rfl ?_
           refine wfv 5 rfl (v_bin rfl rfl rfl) gn hns rfl ?_
           refine wfv 6 rfl (v_move rfl) gn hns rfl ?_
           refine wf_bool 67 rfl ((nei hp248)) ?_
           refine wfp 7 rfl (ps 67 rfl rfl rfl) hns rfl ?_
           refine wfp 8 rfl (ps 67 rfl rfl rfl) hns rfl ?_
           refine wfp 9 rfl (ps 67 rfl rfl rfl) hns rfl ?_
           refine wfp 10 rfl (ps 67 rfl rfl rfl) hns rfl ?_
           refine wfp 11 rfl (ps 67 rfl rfl rfl) hns rfl ?_
           refine wfp 12 rfl (ps 67 rfl rfl rfl) hns rfl ?_
           refine wfp 13 rfl (ps 67 rfl rfl rfl) hns rfl ?_
           refine wfp 14 rfl (ps 67 rfl rfl rfl) hns rfl ?_
           refine wfp 15 rfl (ps 67 rfl rfl rfl) hns rfl ?_
           refine wfp 16 rfl (ps 67 rfl rfl rfl) hns rfl ?_
           refine wfp 17 rfl (ps 67 rfl rfl rfl) hns rfl ?_
           refine wfp 18 rfl (ps 67 rfl rfl rfl) hns rfl ?_
           refine wfp 19 rfl (ps 67 rfl rfl rfl) hns rfl ?_
           refine wfp 20 rfl (ps 67 rfl rfl rfl) hns rfl ?_
           refine wfp 21 rfl (ps 67 rfl rfl rfl) hns rfl ?_
           refine wfp 22 rfl (ps 67 rfl rfl rfl) hns rfl ?_
           refine wfp 23 rfl (ps 67 rfl rfl rfl) hns rfl ?_
           refine wfv 24 rfl (v_pick (b := false) rfl rfl) gn hns rfl ?_
           refine wf_end (by kernel_rfl) ?_
           refine g_false (c := q42c62) rfl _ rfl (rfl) ?_
           refine g_skip (c := q42c64) rfl ?_
           refine g_inBlock ?_
           refine g_region (c := q42c59) rfl rfl ?_
           refine wl_v 0 rfl (v_move rfl) gn rfl ?_
           refine wl_v 1 rfl (v_bin rfl rfl rfl) gn rfl ?_
           refine wl_v 2 rfl (v_assign rfl) gn rfl ?_
           refine w_end 3 rfl ?_
           refine g_inLoop ?_
           have ih := Out.inl hO2 h
           exact g_go [0, 1] (ih ()) ⟨rfl, rfl, rfl, rfl, rfl, rfl, trivial⟩ (.cons_cons _ (.slnil)) rfl
         ·have h := if_neg' hp245 h
          refine g_false (c := q42c47) rfl _ rfl ((decide_eq_false hp245)) ?_
          refine g_exit (c := q42c49) [.code q42c39, .inBlock 1, .code q42c28, .inLoop q42c20, .inBlock 0, .code q42c16] rfl rfl ?_
          refine g_seq (c := q42c39) rfl ?_
          refine g_region (c := q42c50) rfl rfl ?_
          refine wl_v 0 rfl (v_move rfl) gn rfl ?_
          refine wl_v 1 rfl (v_move rfl) gn rfl ?_
          refine wl_v 2 rfl (v_move rfl) gn rfl ?_
          obtain ⟨hb264, h⟩ := h
          refine wl_v 3 rfl (v_idxO slE_46 rfl rfl (Ow.weak hL19.env.size h26) hb264) gn rfl ?_
          refine wl_v 4 rfl (v_ldO1 (.int .i64 (ix r21 x69)) 0 ld_3 rfl rfl (fm_get0 (hlI .i64) hb264 rfl)) gn rfl ?_
          refine wl_v 5 rfl (v_move rfl) gn rfl ?_
          refine wl_v 6 rfl (v_bin rfl rfl rfl) gn rfl ?_
          obtain ⟨r268, hv269, h⟩ := h
          refine wl_s 7 rfl (s_call [.slice A2 n3 c4, .int .i64 (ix r21 x69), .int .i64 (w64 (x7 + 1))] rfl Tryd.func42 rfl rfl rfl fun w265 hL266 => ?_) gn
          have hp267 : List.Perm ([.own (.slice A23 n24 c25) 3 1 n24 (r21.flatMap (eI .i64))] : List Ent) (([] : List Ent) ++ ([.own (.slice A23 n24 c25) 3 1 n24 (r21.flatMap (eI .i64))] : List Ent)) := perm_of_idx [] [0] rfl rfl (by kernel_rfl)
          refine Calls.mono (ih_trellisref25_inside w265 (Fl ([] : List Snap)) x1 (ix r21 x69) (w64 (x7 + 1)) A2 n3 c4 (Rw.mono h5 (hL266.toSt hp267 (me 1 rfl))) (hL266.hFl (Sl := ([] : List Snap)) hp267 (sels [] rfl)) (hL266.into hp267 (Fl ([] : List Snap))) r268 hv269) ?_
          rintro _ w270 ⟨rfl, hM271⟩
          have hL272 := hL266.call hp267 hM271
          refine ⟨_, _, _, rfl, hL272, ?_⟩
          refine wl_v 8 rfl (v_not rfl) gn rfl ?_
          refine w_end 9 rfl ?_
          by_cases hp273 : r268 = true
          ·have h := if_pos' hp273 h
           refine g_false (c := q42c51) rfl _ rfl ((nf hp273)) ?_
           refine g_skip (c := q42c53) rfl ?_
           refine g_inBlock ?_
           refine g_region (c := q42c28) rfl rfl ?_
           refine wl_v 0 rfl (v_move rfl) gn rfl ?_
           refine wl_v 1 rfl (v_bin rfl rfl rfl) gn rfl ?_
           refine wl_v 2 rfl (v_assign rfl) gn rfl ?_
           refine w_end 3 rfl ?_
           refine g_inLoop ?_
           have h := Out.inr hO2 h
           have ih := Out.inl hO1 h
           exact g_go [0, 1] (ih ()) ⟨rfl, rfl, rfl, rfl, rfl, trivial⟩ (.cons_cons _ (.slnil)) rfl
          ·have h := if_neg' hp273 h
           refine g_true (c := q42c51) rfl _ rfl ((nt (bf hp273))) ?_
           refine g_seq (c := q42c52) rfl ?_
           refine g_region (c := q42c54) rfl rfl ?_
           refine wl_v 0 rfl (v_assign rfl) gn rfl ?_
           refine w_end 1 rfl ?_
           have h := Out.inr hO2 h
           have h := Out.inr hO1 h
           refine g_retR (c := q42c55) [.bool false] rfl Tryd.func42 rfl (.tmp rfl (.nil)) fun wr hLr => ?_
           have hMr : B.Loc w wr [] [St w []] := hLr.pick0 (sels [1] rfl)
           show trellisref25_inside_R w F  r (.returned (packV [.bool false])) wr
           rw [h]
           exact ⟨rfl, hMr⟩
        exact g_go [0, 1] (key5 _ h ()) ⟨rfl, rfl, rfl, rfl, rfl, rfl, trivial⟩ (.cons_cons _ (.slnil)) rfl
      refine g_region (c := q42c32) rfl rfl ?_
      refine wl_v 0 rfl (v_move rfl) gn rfl ?_
      refine wl_v 1 rfl (v_move rfl) gn rfl ?_
      obtain ⟨hb274, h⟩ := h
      have hr275 := Rw.readF (s := St w []) (hl := hl_api_JNode) (h1 := h1_api_JNode) h5 hb274
      refine wl_v 2 rfl (v_idxR (s := St w []) slE_22 rfl rfl h5 hb274) gn rfl ?_
      refine wl_v 3 rfl (v_fldA fo_31_0 rfl) gn rfl ?_
      refine wl_v 4 rfl (v_ldA1 (kk := (x6 : Int).toNat * 4) (j := 0) (St w []) ld_29 rfl hr275 rfl (me 1 rfl)) gn rfl ?_
      refine wl_v 5 rfl (v_bin rfl rfl rfl) gn rfl ?_
      refine wl_v 6 rfl (v_move rfl) gn rfl ?_
      by_cases hp276 : (ix x1 x6).kind = 6
      ·have h := if_pos' hp276 h
       refine w_bool 45 rfl ((eqi hp276)) ?_
       refine wl_v 7 rfl (v_move rfl) (gy 45 rfl rfl) rfl ?_
       refine wl_v 8 rfl (v_move rfl) (gy 45 rfl rfl) rfl ?_
       refine wl_v 9 rfl (v_move rfl) (gy 45 rfl rfl) rfl ?_
       obtain ⟨hb277, h⟩ := h
       refine wl_v 10 rfl (v_idxO slE_46 rfl rfl (Ow.weak hL19.env.size h26) hb277) (gy 45 rfl rfl) rfl ?_
       refine wl_v 11 rfl (v_ldO1 (.int .i64 (ix r21 x69)) 0 ld_3 rfl rfl (fm_get0 (hlI .i64) hb277 rfl)) (gy 45 rfl rfl) rfl ?_
       obtain ⟨hb278, h⟩ := h
       have hr279 := Rw.readF (s := St w []) (hl := hl_api_JNode) (h1 := h1_api_JNode) h5 hb278
       refine wl_v 12 rfl (v_idxR (s := St w []) slE_22 rfl rfl h5 hb278) (gy 45 rfl rfl) rfl ?_
       refine wl_v 13 rfl (v_fldA fo_31_1 rfl) (gy 45 rfl rfl) rfl ?_
       refine wl_v 14 rfl (v_ldA1 (kk := (ix r21 x69 : Int).toNat * 4) (j := 1) (St w []) ld_9 rfl hr279 rfl (me 1 rfl)) (gy 45 rfl rfl) rfl ?_
       refine wl_v 15 rfl (v_neS rfl rfl) (gy 45 rfl rfl) rfl ?_
       refine wl_v 16 rfl (v_pick (b := true) rfl rfl) gn rfl ?_
       refine w_end 17 rfl ?_
       exact g_go [0, 1] (j4 (!(seq ((ix x1 (ix r21 x69)).key) (⟨#[]⟩ : ByteArray))) h) ⟨rfl, rfl, rfl, rfl, rfl, rfl, trivial⟩ (.cons_cons _ (.slnil)) rfl
      ·have h := if_neg' hp276 h
       refine w_bool 45 rfl ((nei hp276)) ?_
       refine wl_pass 7 rfl (ps 45 rfl rfl rfl) ?_
       refine wl_pass 8 rfl (ps 45 rfl rfl rfl) ?_
       refine wl_pass 9 rfl (ps 45 rfl rfl rfl) ?_
       refine wl_pass 10 rfl (ps 45 rfl rfl rfl) ?_
       refine wl_pass 11 rfl (ps 45 rfl rfl rfl) ?_
       refine wl_pass 12 rfl (ps 45 rfl rfl rfl) ?_
       refine wl_pass 13 rfl (ps 45 rfl rfl rfl) ?_
       refine wl_pass 14 rfl (ps 45 rfl rfl rfl) ?_
       refine wl_pass 15 rfl (ps 45 rfl rfl rfl) ?_
       refine wl_v 16 rfl (v_pick (b := false) rfl rfl) gn rfl ?_
       refine w_end 17 rfl ?_
       exact g_go [0, 1] (j4 false h) ⟨rfl, rfl, rfl, rfl, rfl, rfl, trivial⟩ (.cons_cons _ (.slnil)) rfl
     ·have h := if_neg' hp175 h
      refine g_false (c := q42c24) rfl _ rfl ((decide_eq_false hp175)) ?_
      refine g_exit (c := q42c26) [.code q42c16] rfl rfl ?_
      refine g_seq (c := q42c16) rfl ?_
      refine g_region (c := q42c56) rfl rfl ?_
      refine wl_v 0 rfl (v_assign rfl) gn rfl ?_
      refine w_end 1 rfl ?_
      have h := Out.inr hO1 h
      refine g_retR (c := q42c57) [.bool true] rfl Tryd.func42 rfl (.tmp rfl (.nil)) fun wr hLr => ?_
      have hMr : B.Loc w wr [] [St w []] := hLr.pick0 (sels [1] rfl)
      show trellisref25_inside_R w F  r (.returned (packV [.bool true])) wr
      rw [h]
      exact ⟨rfl, hMr⟩
    exact g_go [0, 1] (key3 _ h ()) ⟨rfl, rfl, rfl, rfl, rfl, trivial⟩ (.cons_cons _ (.slnil)) rfl
  refine g_region (c := q42c7) rfl rfl ?_
  refine wl_v 0 rfl (v_move rfl) gn rfl ?_
  refine wl_v 1 rfl (v_move rfl) gn rfl ?_
  by_cases hp280 : x13 = true
  ·have h := if_pos' hp280 h
   refine w_bool 26 rfl (hp280) ?_
   refine wl_v 2 rfl (v_move rfl) (gy 26 rfl rfl) rfl ?_
   refine wl_v 3 rfl (v_bin rfl rfl rfl) (gy 26 rfl rfl) rfl ?_
   refine wl_v 4 rfl (v_pick (b := true) rfl rfl) gn rfl ?_
   refine w_end 5 rfl ?_
   exact g_go [0, 1] (j2 (decide (x7 ≥ 64)) h) ⟨rfl, rfl, rfl, rfl, trivial⟩ (.slnil) rfl
  ·have h := if_neg' hp280 h
   refine w_bool 26 rfl ((bf hp280)) ?_
   refine wl_pass 2 rfl (ps 26 rfl rfl rfl) ?_
   refine wl_pass 3 rfl (ps 26 rfl rfl rfl) ?_
   refine wl_v 4 rfl (v_pick (b := false) rfl rfl) gn rfl ?_
   refine w_end 5 rfl ?_
   exact g_go [0, 1] (j2 false h) ⟨rfl, rfl, rfl, rfl, trivial⟩ (.slnil) rfl
 refine g_region (c := q42c3) rfl rfl ?_
 refine wl_v 0 rfl (v_move rfl) gn rfl ?_
 refine wl_v 1 rfl (v_move rfl) gn rfl ?_
 obtain ⟨hb281, h⟩ := h
 have hr282 := Rw.readF (s := St w []) (hl := hl_api_JNode) (h1 := h1_api_JNode) h5 hb281
 refine wl_v 2 rfl (v_idxR (s := St w []) slE_22 rfl rfl h5 hb281) gn rfl ?_
 refine wl_v 3 rfl (v_fldA fo_31_0 rfl) gn rfl ?_
 refine wl_v 4 rfl (v_ldA1 (kk := (x6 : Int).toNat * 4) (j := 0) (St w []) ld_29 rfl hr282 rfl (me 1 rfl)) gn rfl ?_
 refine wl_v 5 rfl (v_bin rfl rfl rfl) gn rfl ?_
 refine wl_v 6 rfl (v_move rfl) gn rfl ?_
 by_cases hp283 : (ix x1 x6).kind = 6
 ·have h := if_pos' hp283 h
  refine w_bool 17 rfl ((eqi hp283)) ?_
  refine wl_pass 7 rfl (ps 17 rfl rfl rfl) ?_
  refine wl_pass 8 rfl (ps 17 rfl rfl rfl) ?_
  refine wl_pass 9 rfl (ps 17 rfl rfl rfl) ?_
  refine wl_pass 10 rfl (ps 17 rfl rfl rfl) ?_
  refine wl_pass 11 rfl (ps 17 rfl rfl rfl) ?_
  refine wl_pass 12 rfl (ps 17 rfl rfl rfl) ?_
  refine wl_v 13 rfl (v_pick (b := true) rfl rfl) gn rfl ?_
  refine wl_v 14 rfl (v_assign rfl) gn rfl ?_
  refine w_end 15 rfl ?_
  exact g_go [0, 1] (j1 true h) ⟨rfl, rfl, rfl, rfl, trivial⟩ (.slnil) rfl
 ·have h := if_neg' hp283 h
  refine w_bool 17 rfl ((nei hp283)) ?_
  refine wl_v 7 rfl (v_move rfl) (gy 17 rfl rfl) rfl ?_
  refine wl_v 8 rfl (v_move rfl) (gy 17 rfl rfl) rfl ?_
  have hr284 := Rw.readF (s := St w []) (hl := hl_api_JNode) (h1 := h1_api_JNode) h5 hb281
  refine wl_v 9 rfl (v_idxR (s := St w []) slE_22 rfl rfl h5 hb281) (gy 17 rfl rfl) rfl ?_
  refine wl_v 10 rfl (v_fldA fo_31_0 rfl) (gy 17 rfl rfl) rfl ?_
  refine wl_v 11 rfl (v_ldA1 (kk := (x6 : Int).toNat * 4) (j := 0) (St w []) ld_29 rfl hr284 rfl (me 1 rfl)) (gy 17 rfl rfl) rfl ?_
  refine wl_v 12 rfl (v_bin rfl rfl rfl) (gy 17 rfl rfl) rfl ?_
  refine wl_v 13 rfl (v_pick (b := false) rfl rfl) gn rfl ?_
  refine wl_v 14 rfl (v_assign rfl) gn rfl ?_
  refine w_end 15 rfl ?_
  exact g_go [0, 1] (j1 (((ix x1 x6).kind) == 7) h) ⟨rfl, rfl, rfl, rfl, trivial⟩ (.slnil) rfl
theorem trellisref25_inside_ind : ∀ n, trellisref25_inside_st (trellisref25_inside_n n)
 | 0 => fun w F x1 x6 x7 A2 n3 c4 h5 hF hL0 r h => h.elim
 | n + 1 => by
  have ih := trellisref25_inside_ind n
  exact trellisref25_inside_step _ ih
theorem trellisref25_inside_calls (w : World) (F : Nat → Prop) (x1 : List api_JNode) (x6 : Int) (x7 : Int) (A2 : Option Addr) (n3 : Nat) (c4 : Nat) (h5 : Rw k_api_JNode w (St w []).av A2 n3 c4 x1) (hF : ∀ b, F b → b < w.heap.size ∧ ∀ o ∈ ([] : List (List Nat)), b ∉ o) (hL0 : B.Loc w w [] [Sm w.heap.size F w [], St w []]) (r : Bool) (h : trellisref25_inside x1 x6 x7 r) : Calls Tryd.prog 42 #[.slice A2 n3 c4, .int .i64 x6, .int .i64 x7] w (trellisref25_inside_R w F  r) := by
 obtain ⟨n, h⟩ := h
 exact (trellisref25_inside_ind n) w F x1 x6 x7 A2 n3 c4 h5 hF hL0 r h
noncomputable abbrev q24c0 : Code := bodyOf Tryd.f24
noncomputable abbrev q24c1 : Code := Code.fst q24c0
noncomputable abbrev q24c2 : Code := Code.snd q24c0
noncomputable abbrev q24c3 : Code := Code.fst q24c2
noncomputable abbrev q24c4 : Code := Code.snd q24c2
noncomputable abbrev q24c5 : Code := Code.fst q24c3
noncomputable abbrev q24c6 : Code := Code.snd q24c3
noncomputable abbrev q24c7 : Code := Code.fst q24c6
noncomputable abbrev q24c8 : Code := Code.snd q24c6
noncomputable abbrev q24c9 : Code := Code.fst q24c7
noncomputable abbrev q24c10 : Code := Code.snd q24c7
noncomputable abbrev q24c11 : Code := Code.fst q24c4
noncomputable abbrev q24c12 : Code := Code.snd q24c4
noncomputable abbrev q24c13 : Code := Code.fst q24c11
noncomputable abbrev q24c14 : Code := Code.snd q24c11
noncomputable abbrev q24c15 : Code := Code.fst q24c14
noncomputable abbrev q24c16 : Code := Code.fst q24c15
noncomputable abbrev q24c17 : Code := Code.fst q24c16
noncomputable abbrev q24c18 : Code := Code.snd q24c16
noncomputable abbrev q24c19 : Code := Code.fst q24c17
noncomputable abbrev q24c20 : Code := Code.snd q24c17
noncomputable abbrev q24c21 : Code := Code.fst q24c20
noncomputable abbrev q24c22 : Code := Code.snd q24c20
noncomputable abbrev q24c23 : Code := Code.fst q24c18
noncomputable abbrev q24c24 : Code := Code.snd q24c18
noncomputable abbrev q24c25 : Code := Code.fst q24c23
noncomputable abbrev q24c26 : Code := Code.fst q24c25
noncomputable abbrev q24c27 : Code := Code.snd q24c25
noncomputable abbrev q24c28 : Code := Code.fst q24c27
noncomputable abbrev q24c29 : Code := Code.snd q24c27
noncomputable abbrev q24c30 : Code := Code.fst q24c28
noncomputable abbrev q24c31 : Code := Code.snd q24c28
noncomputable abbrev q24c32 : Code := Code.fst q24c12
noncomputable abbrev q24c33 : Code := Code.snd q24c12
abbrev trellisref25_Shaped_R (w : World) (F : Nat → Prop) (r : Bool) : Ending → World → Prop := fun e w' => e = .returned (.bool r) ∧ B.Loc w w' [] [St w []]
noncomputable abbrev trellisref25_Shaped_C (w : World) (F : Nat → Prop) (r : Bool) : Cx := ⟨Tryd.prog, 24, Tryd.f24, 35, trellisref25_Shaped_R w F  r, w⟩
theorem trellisref25_Shaped_calls (w : World) (F : Nat → Prop) (x1 : List api_JNode) (A2 : Option Addr) (n3 : Nat) (c4 : Nat) (h5 : Rw k_api_JNode w (St w []).av A2 n3 c4 x1) (hF : ∀ b, F b → b < w.heap.size ∧ ∀ o ∈ ([] : List (List Nat)), b ∉ o) (hL0 : B.Loc w w [] [Sm w.heap.size F w [], St w []]) (r : Bool) (h : trellisref25_Shaped x1 r) : Calls Tryd.prog 24 #[.slice A2 n3 c4] w (trellisref25_Shaped_R w F  r) := by
 unfold trellisref25_Shaped at h
 refine calls_of_Loc (vs := [.slice A2 n3 c4]) 35 Tryd.func24 rfl Tryd.ntmps24 rfl hL0 ?_
 show G (trellisref25_Shaped_C w F r) _ _ _ _
 refine g_seq (c := q24c0) rfl ?_
 refine g_region (c := q24c1) rfl rfl ?_
 refine wl_v 0 rfl (v_assign rfl) gn rfl ?_
 refine w_end 1 rfl ?_
 refine g_seq (c := q24c2) rfl ?_
 refine g_seq (c := q24c3) rfl ?_
 have j1 : ∀ (x19 : Bool) (h : trellisref25_Shaped_j1 x1 x19 r) , G (trellisref25_Shaped_C w F r) [.code q24c6, .code q24c4] [(0, .slice A2 n3 c4), (20, .bool x19)] [] [Sm w.heap.size F w [], St w []] := by
  intro x19 h
  unfold trellisref25_Shaped_j1 at h
  by_cases hp20 : x19 = true
  ·have h := if_pos' hp20 h
   refine g_true (c := q24c6) rfl _ rfl (hp20) ?_
   refine g_seq (c := q24c7) rfl ?_
   refine g_region (c := q24c9) rfl rfl ?_
   refine wl_v 0 rfl (v_assign rfl) gn rfl ?_
   refine w_end 1 rfl ?_
   refine g_retR (c := q24c10) [.bool false] rfl Tryd.func24 rfl (.tmp rfl (.nil)) fun wr hLr => ?_
   have hMr : B.Loc w wr [] [St w []] := hLr.pick0 (sels [1] rfl)
   show trellisref25_Shaped_R w F  r (.returned (packV [.bool false])) wr
   rw [h]
   exact ⟨rfl, hMr⟩
  ·have h := if_neg' hp20 h
   refine g_false (c := q24c6) rfl _ rfl ((bf hp20)) ?_
   refine g_skip (c := q24c8) rfl ?_
   refine g_seq (c := q24c4) rfl ?_
   refine g_seq (c := q24c11) rfl ?_
   refine g_region (c := q24c13) rfl rfl ?_
   refine wl_v 0 rfl (v_assign rfl) gn rfl ?_
   refine w_end 1 rfl ?_
   refine g_block (c := q24c14) rfl ?_
   refine g_loop (c := q24c15) rfl ?_
   have key2 : ∀ s, Rounds (fun (s : Int) o => trellisref25_Shaped_b2 x1 s o) s r → (fun (s : Int) => ∀ (_ : Unit), G (trellisref25_Shaped_C w F r) [.code q24c16, .inLoop q24c16, .inBlock 0, .code q24c12] [(0, .slice A2 n3 c4), (3, .int .i64 s)] [] [Sm w.heap.size F w [], St w []]) s := by
    intro s hs
    refine Rounds.ind (mot := (fun (s : Int) => ∀ (_ : Unit), G (trellisref25_Shaped_C w F r) [.code q24c16, .inLoop q24c16, .inBlock 0, .code q24c12] [(0, .slice A2 n3 c4), (3, .int .i64 s)] [] [Sm w.heap.size F w [], St w []])) ?_ hs
    clear hs s
    intro x42 o1 h hO1
    show ∀ (_ : Unit), G (trellisref25_Shaped_C w F r) [.code q24c16, .inLoop q24c16, .inBlock 0, .code q24c12] [(0, .slice A2 n3 c4), (3, .int .i64 x42)] [] [Sm w.heap.size F w [], St w []]
    intro _
    have h : trellisref25_Shaped_b2 x1 x42 o1 := h
    unfold trellisref25_Shaped_b2 at h
    refine g_seq (c := q24c16) rfl ?_
    refine g_seq (c := q24c17) rfl ?_
    refine g_region (c := q24c19) rfl rfl ?_
    refine wl_v 0 rfl (v_move rfl) gn rfl ?_
    refine wl_v 1 rfl (v_move rfl) gn rfl ?_
    refine wl_v 2 rfl (v_lenQ un_22 rfl h5.hq) gn rfl ?_
    refine wl_v 3 rfl (v_bin rfl rfl rfl) gn rfl ?_
    refine w_end 4 rfl ?_
    by_cases hp63 : x42 < (x1.length : Int)
    ·have h := if_pos' hp63 h
     refine g_true (c := q24c20) rfl _ rfl ((decide_eq_true hp63)) ?_
     refine g_skip (c := q24c21) rfl ?_
     refine g_seq (c := q24c18) rfl ?_
     refine g_block (c := q24c23) rfl ?_
     refine g_seq (c := q24c25) rfl ?_
     refine g_region (c := q24c26) rfl rfl ?_
     refine wl_v 0 rfl (v_move rfl) gn rfl ?_
     refine wl_v 1 rfl (v_move rfl) gn rfl ?_
     obtain ⟨hb64, h⟩ := h
     have hr65 := Rw.readF (s := St w []) (hl := hl_api_JNode) (h1 := h1_api_JNode) h5 hb64
     refine wl_v 2 rfl (v_idxR (s := St w []) slE_22 rfl rfl h5 hb64) gn rfl ?_
     refine wl_v 3 rfl (v_ldA (St w []) ld_31 rfl hr65 rfl (me 1 rfl)) gn rfl ?_
     obtain ⟨r69, hv70, h⟩ := h
     refine wl_s 4 rfl (s_call [.agg #[.int .i64 ((ix x1 x42).kind), .string ((ix x1 x42).key), .string ((ix x1 x42).text), .int .i64 ((ix x1 x42).kids)]] rfl Tryd.func41 rfl rfl rfl fun w66 hL67 => ?_) gn
     have hp68 : List.Perm ([] : List Ent) (([] : List Ent) ++ ([] : List Ent)) := perm_of_idx [] [] rfl rfl (by kernel_rfl)
     refine Calls.mono (trellisref25_alone_calls w66 (Fl ([] : List Snap)) (ix x1 x42) (hL67.hFl (Sl := ([] : List Snap)) hp68 (sels [] rfl)) (hL67.into hp68 (Fl ([] : List Snap))) r69 hv70) ?_
     rintro _ w71 ⟨rfl, hM72⟩
     have hL73 := hL67.call hp68 hM72
     refine ⟨_, _, _, rfl, hL73, ?_⟩
     refine wl_v 5 rfl (v_not rfl) gn rfl ?_
     refine w_end 6 rfl ?_
     by_cases hp74 : r69 = true
     ·have h := if_pos' hp74 h
      refine g_false (c := q24c27) rfl _ rfl ((nf hp74)) ?_
      refine g_skip (c := q24c29) rfl ?_
      refine g_inBlock ?_
      refine g_region (c := q24c24) rfl rfl ?_
      refine wl_v 0 rfl (v_move rfl) gn rfl ?_
      refine wl_v 1 rfl (v_bin rfl rfl rfl) gn rfl ?_
      refine wl_v 2 rfl (v_assign rfl) gn rfl ?_
      refine w_end 3 rfl ?_
      refine g_inLoop ?_
      have ih := Out.inl hO1 h
      exact g_go [0, 1] (ih ()) ⟨rfl, rfl, trivial⟩ (.slnil) rfl
     ·have h := if_neg' hp74 h
      refine g_true (c := q24c27) rfl _ rfl ((nt (bf hp74))) ?_
      refine g_seq (c := q24c28) rfl ?_
      refine g_region (c := q24c30) rfl rfl ?_
      refine wl_v 0 rfl (v_assign rfl) gn rfl ?_
      refine w_end 1 rfl ?_
      have h := Out.inr hO1 h
      refine g_retR (c := q24c31) [.bool false] rfl Tryd.func24 rfl (.tmp rfl (.nil)) fun wr hLr => ?_
      have hMr : B.Loc w wr [] [St w []] := hLr.pick0 (sels [1] rfl)
      show trellisref25_Shaped_R w F  r (.returned (packV [.bool false])) wr
      rw [h]
      exact ⟨rfl, hMr⟩
    ·have h := if_neg' hp63 h
     refine g_false (c := q24c20) rfl _ rfl ((decide_eq_false hp63)) ?_
     refine g_exit (c := q24c22) [.code q24c12] rfl rfl ?_
     refine g_seq (c := q24c12) rfl ?_
     refine g_region (c := q24c32) rfl rfl ?_
     refine wl_v 0 rfl (v_move rfl) gn rfl ?_
     obtain ⟨r78, hv79, h⟩ := h
     refine wl_s 1 rfl (s_call [.slice A2 n3 c4, .int .i64 0, .int .i64 0] rfl Tryd.func42 rfl rfl rfl fun w75 hL76 => ?_) gn
     have hp77 : List.Perm ([] : List Ent) (([] : List Ent) ++ ([] : List Ent)) := perm_of_idx [] [] rfl rfl (by kernel_rfl)
     refine Calls.mono (trellisref25_inside_calls w75 (Fl ([] : List Snap)) x1 0 0 A2 n3 c4 (Rw.mono h5 (hL76.toSt hp77 (me 1 rfl))) (hL76.hFl (Sl := ([] : List Snap)) hp77 (sels [] rfl)) (hL76.into hp77 (Fl ([] : List Snap))) r78 hv79) ?_
     rintro _ w80 ⟨rfl, hM81⟩
     have hL82 := hL76.call hp77 hM81
     refine ⟨_, _, _, rfl, hL82, ?_⟩
     refine wl_v 2 rfl (v_assign rfl) gn rfl ?_
     refine w_end 3 rfl ?_
     have h := Out.inr hO1 h
     refine g_retR (c := q24c33) [.bool r78] rfl Tryd.func24 rfl (.tmp rfl (.nil)) fun wr hLr => ?_
     have hMr : B.Loc w wr [] [St w []] := hLr.pick0 (sels [1] rfl)
     show trellisref25_Shaped_R w F  r (.returned (packV [.bool r78])) wr
     rw [h]
     exact ⟨rfl, hMr⟩
   exact g_go [0, 1] (key2 _ h ()) ⟨rfl, rfl, trivial⟩ (.slnil) rfl
 refine g_region (c := q24c5) rfl rfl ?_
 refine wl_v 0 rfl (v_move rfl) gn rfl ?_
 refine wl_v 1 rfl (v_lenQ un_22 rfl h5.hq) gn rfl ?_
 refine wl_v 2 rfl (v_bin rfl rfl rfl) gn rfl ?_
 refine wl_v 3 rfl (v_move rfl) gn rfl ?_
 by_cases hp83 : (x1.length : Int) = 0
 ·have h := if_pos' hp83 h
  refine w_bool 7 rfl ((eqi hp83)) ?_
  refine wl_pass 4 rfl (ps 7 rfl rfl rfl) ?_
  refine wl_pass 5 rfl (ps 7 rfl rfl rfl) ?_
  refine wl_pass 6 rfl (ps 7 rfl rfl rfl) ?_
  refine wl_pass 7 rfl (ps 7 rfl rfl rfl) ?_
  refine wl_pass 8 rfl (ps 7 rfl rfl rfl) ?_
  refine wl_v 9 rfl (v_pick (b := true) rfl rfl) gn rfl ?_
  refine wl_v 10 rfl (v_move rfl) gn rfl ?_
  refine wl_pass 11 rfl (ps 14 rfl rfl rfl) ?_
  refine wl_pass 12 rfl (ps 14 rfl rfl rfl) ?_
  refine wl_pass 13 rfl (ps 14 rfl rfl rfl) ?_
  refine wl_pass 14 rfl (ps 14 rfl rfl rfl) ?_
  refine wl_pass 15 rfl (ps 14 rfl rfl rfl) ?_
  refine wl_v 16 rfl (v_pick (b := true) rfl rfl) gn rfl ?_
  refine w_end 17 rfl ?_
  exact g_go [0, 1] (j1 true h) ⟨rfl, rfl, trivial⟩ (.slnil) rfl
 ·have h := if_neg' hp83 h
  refine w_bool 7 rfl ((nei hp83)) ?_
  refine wl_v 4 rfl (v_move rfl) (gy 7 rfl rfl) rfl ?_
  obtain ⟨r87, hv88, h⟩ := h
  refine wl_s 5 rfl (s_call [.slice A2 n3 c4, .int .i64 0] rfl Tryd.func40 rfl rfl rfl fun w84 hL85 => ?_) (gy 7 rfl rfl)
  have hp86 : List.Perm ([] : List Ent) (([] : List Ent) ++ ([] : List Ent)) := perm_of_idx [] [] rfl rfl (by kernel_rfl)
  refine Calls.mono (trellisref25_Behind_calls w84 (Fl ([] : List Snap)) x1 0 A2 n3 c4 (Rw.mono h5 (hL85.toSt hp86 (me 1 rfl))) (hL85.hFl (Sl := ([] : List Snap)) hp86 (sels [] rfl)) (hL85.into hp86 (Fl ([] : List Snap))) r87 hv88) ?_
  rintro _ w89 ⟨rfl, hM90⟩
  have hL91 := hL85.call hp86 hM90
  refine ⟨_, _, _, rfl, hL91, ?_⟩
  refine wl_v 6 rfl (v_move rfl) (gy 7 rfl rfl) rfl ?_
  refine wl_v 7 rfl (v_lenQ un_22 rfl h5.hq) (gy 7 rfl rfl) rfl ?_
  refine wl_v 8 rfl (v_bin rfl rfl rfl) (gy 7 rfl rfl) rfl ?_
  refine wl_v 9 rfl (v_pick (b := false) rfl rfl) gn rfl ?_
  refine wl_v 10 rfl (v_move rfl) gn rfl ?_
  by_cases hp92 : r87 = (x1.length : Int)
  ·have h := if_pos' hp92 h
   refine w_bool 14 rfl ((eqib hp92)) ?_
   refine wl_v 11 rfl (v_move rfl) (gy 14 rfl rfl) rfl ?_
   obtain ⟨hb93, h⟩ := h
   have hr94 := Rw.readF (s := St w []) (hl := hl_api_JNode) (h1 := h1_api_JNode) h5 hb93
   refine wl_v 12 rfl (v_idxR (s := St w []) slE_22 rfl rfl h5 hb93) (gy 14 rfl rfl) rfl ?_
   refine wl_v 13 rfl (v_fldA fo_31_1 rfl) (gy 14 rfl rfl) rfl ?_
   refine wl_v 14 rfl (v_ldA1 (kk := (0 : Int).toNat * 4) (j := 1) (St w []) ld_9 rfl hr94 rfl (me 1 rfl)) (gy 14 rfl rfl) rfl ?_
   refine wl_v 15 rfl (v_neS rfl rfl) (gy 14 rfl rfl) rfl ?_
   refine wl_v 16 rfl (v_pick (b := false) rfl rfl) gn rfl ?_
   refine w_end 17 rfl ?_
   exact g_go [0, 1] (j1 (!(seq ((ix x1 0).key) (⟨#[]⟩ : ByteArray))) h) ⟨rfl, rfl, trivial⟩ (.slnil) rfl
  ·have h := if_neg' hp92 h
   refine w_bool 14 rfl ((neib hp92)) ?_
   refine wl_pass 11 rfl (ps 14 rfl rfl rfl) ?_
   refine wl_pass 12 rfl (ps 14 rfl rfl rfl) ?_
   refine wl_pass 13 rfl (ps 14 rfl rfl rfl) ?_
   refine wl_pass 14 rfl (ps 14 rfl rfl rfl) ?_
   refine wl_pass 15 rfl (ps 14 rfl rfl rfl) ?_
   refine wl_v 16 rfl (v_pick (b := true) rfl rfl) gn rfl ?_
   refine w_end 17 rfl ?_
   exact g_go [0, 1] (j1 true h) ⟨rfl, rfl, trivial⟩ (.slnil) rfl
noncomputable abbrev q17c0 : Code := bodyOf Tryd.f17
noncomputable abbrev q17c1 : Code := Code.fst q17c0
noncomputable abbrev q17c2 : Code := Code.snd q17c0
noncomputable abbrev q17c3 : Code := Code.fst q17c2
noncomputable abbrev q17c4 : Code := Code.snd q17c2
noncomputable abbrev q17c5 : Code := Code.fst q17c3
noncomputable abbrev q17c6 : Code := Code.snd q17c3
noncomputable abbrev q17c7 : Code := Code.fst q17c6
noncomputable abbrev q17c8 : Code := Code.snd q17c6
noncomputable abbrev q17c9 : Code := Code.fst q17c7
noncomputable abbrev q17c10 : Code := Code.snd q17c7
noncomputable abbrev q17c11 : Code := Code.fst q17c4
noncomputable abbrev q17c12 : Code := Code.snd q17c4
noncomputable abbrev q17c13 : Code := Code.fst q17c12
noncomputable abbrev q17c14 : Code := Code.snd q17c12
noncomputable abbrev q17c15 : Code := Code.fst q17c14
noncomputable abbrev q17c16 : Code := Code.snd q17c14
noncomputable abbrev q17c17 : Code := Code.fst q17c15
noncomputable abbrev q17c18 : Code := Code.snd q17c15
noncomputable abbrev q17c19 : Code := Code.fst q17c18
noncomputable abbrev q17c20 : Code := Code.snd q17c18
noncomputable abbrev q17c21 : Code := Code.fst q17c16
noncomputable abbrev q17c22 : Code := Code.snd q17c16
noncomputable abbrev q17c23 : Code := Code.fst q17c22
noncomputable abbrev q17c24 : Code := Code.snd q17c22
noncomputable abbrev q17c25 : Code := Code.fst q17c23
noncomputable abbrev q17c26 : Code := Code.snd q17c23
noncomputable abbrev q17c27 : Code := Code.fst q17c26
noncomputable abbrev q17c28 : Code := Code.fst q17c27
noncomputable abbrev q17c29 : Code := Code.fst q17c28
noncomputable abbrev q17c30 : Code := Code.snd q17c28
noncomputable abbrev q17c31 : Code := Code.fst q17c29
noncomputable abbrev q17c32 : Code := Code.snd q17c29
noncomputable abbrev q17c33 : Code := Code.fst q17c32
noncomputable abbrev q17c34 : Code := Code.snd q17c32
noncomputable abbrev q17c35 : Code := Code.fst q17c30
noncomputable abbrev q17c36 : Code := Code.snd q17c30
noncomputable abbrev q17c37 : Code := Code.fst q17c35
noncomputable abbrev q17c38 : Code := Code.fst q17c37
noncomputable abbrev q17c39 : Code := Code.snd q17c37
noncomputable abbrev q17c40 : Code := Code.fst q17c38
noncomputable abbrev q17c41 : Code := Code.snd q17c38
noncomputable abbrev q17c42 : Code := Code.fst q17c41
noncomputable abbrev q17c43 : Code := Code.snd q17c41
noncomputable abbrev q17c44 : Code := Code.fst q17c42
noncomputable abbrev q17c45 : Code := Code.snd q17c42
noncomputable abbrev q17c46 : Code := Code.fst q17c39
noncomputable abbrev q17c47 : Code := Code.snd q17c39
noncomputable abbrev q17c48 : Code := Code.fst q17c47
noncomputable abbrev q17c49 : Code := Code.snd q17c47
noncomputable abbrev q17c50 : Code := Code.fst q17c48
noncomputable abbrev q17c51 : Code := Code.snd q17c48
noncomputable abbrev q17c52 : Code := Code.fst q17c51
noncomputable abbrev q17c53 : Code := Code.snd q17c51
noncomputable abbrev q17c54 : Code := Code.fst q17c52
noncomputable abbrev q17c55 : Code := Code.snd q17c52
noncomputable abbrev q17c56 : Code := Code.fst q17c24
noncomputable abbrev q17c57 : Code := Code.snd q17c24
noncomputable abbrev q17c58 : Code := Code.fst q17c56
noncomputable abbrev q17c59 : Code := Code.snd q17c56
noncomputable abbrev q17c60 : Code := Code.fst q17c59
noncomputable abbrev q17c61 : Code := Code.snd q17c59
noncomputable abbrev q17c62 : Code := Code.fst q17c60
noncomputable abbrev q17c63 : Code := Code.snd q17c60
noncomputable abbrev q17c64 : Code := Code.fst q17c57
noncomputable abbrev q17c65 : Code := Code.snd q17c57
noncomputable abbrev q17c66 : Code := Code.fst q17c64
noncomputable abbrev q17c67 : Code := Code.snd q17c64
noncomputable abbrev q17c68 : Code := Code.fst q17c67
noncomputable abbrev q17c69 : Code := Code.snd q17c67
noncomputable abbrev q17c70 : Code := Code.fst q17c65
noncomputable abbrev q17c71 : Code := Code.snd q17c65
noncomputable abbrev q17c72 : Code := Code.fst q17c68
noncomputable abbrev q17c73 : Code := Code.snd q17c68
abbrev trellisref25_Int_R (w : World) (F : Nat → Prop) (r : Int × Bool) : Ending → World → Prop := fun e w' => e = .returned (.tuple #[.int .i64 r.1, .bool r.2]) ∧ B.Loc w w' [] [St w []]
noncomputable abbrev trellisref25_Int_C (w : World) (F : Nat → Prop) (r : Int × Bool) : Cx := ⟨Tryd.prog, 17, Tryd.f17, 79, trellisref25_Int_R w F  r, w⟩
theorem trellisref25_Int_calls (w : World) (F : Nat → Prop) (x1 : List api_JNode) (x6 : Int) (A2 : Option Addr) (n3 : Nat) (c4 : Nat) (h5 : Rw k_api_JNode w (St w []).av A2 n3 c4 x1) (hF : ∀ b, F b → b < w.heap.size ∧ ∀ o ∈ ([] : List (List Nat)), b ∉ o) (hL0 : B.Loc w w [] [Sm w.heap.size F w [], St w []]) (r : Int × Bool) (h : trellisref25_Int x1 x6 r) : Calls Tryd.prog 17 #[.slice A2 n3 c4, .int .i64 x6] w (trellisref25_Int_R w F  r) := by
 unfold trellisref25_Int at h
 refine calls_of_Loc (vs := [.slice A2 n3 c4, .int .i64 x6]) 79 Tryd.func17 rfl Tryd.ntmps17 rfl hL0 ?_
 show G (trellisref25_Int_C w F r) _ _ _ _
 refine g_seq (c := q17c0) rfl ?_
 refine g_region (c := q17c1) rfl rfl ?_
 refine wl_v 0 rfl (v_assign rfl) gn rfl ?_
 refine wl_v 1 rfl (v_assign rfl) gn rfl ?_
 refine w_end 2 rfl ?_
 refine g_seq (c := q17c2) rfl ?_
 refine g_seq (c := q17c3) rfl ?_
 have j1 : ∀ (x21 : Bool) (h : trellisref25_Int_j1 x6 x1 x21 r) , G (trellisref25_Int_C w F r) [.code q17c6, .code q17c4] [(0, .slice A2 n3 c4), (1, .int .i64 x6), (31, .bool x21)] [] [Sm w.heap.size F w [], St w []] := by
  intro x21 h
  unfold trellisref25_Int_j1 at h
  by_cases hp22 : x21 = true
  ·have h := if_pos' hp22 h
   refine g_true (c := q17c6) rfl _ rfl (hp22) ?_
   refine g_seq (c := q17c7) rfl ?_
   refine g_region (c := q17c9) rfl rfl ?_
   refine wl_v 0 rfl (v_assign rfl) gn rfl ?_
   refine wl_v 1 rfl (v_assign rfl) gn rfl ?_
   refine w_end 2 rfl ?_
   refine g_retR (c := q17c10) [.int .i64 0, .bool false] rfl Tryd.func17 rfl (.tmp rfl (.tmp rfl (.nil))) fun wr hLr => ?_
   have hMr : B.Loc w wr [] [St w []] := hLr.pick0 (sels [1] rfl)
   show trellisref25_Int_R w F  r (.returned (packV [.int .i64 0, .bool false])) wr
   rw [h]
   exact ⟨rfl, hMr⟩
  ·have h := if_neg' hp22 h
   refine g_false (c := q17c6) rfl _ rfl ((bf hp22)) ?_
   refine g_skip (c := q17c8) rfl ?_
   refine g_seq (c := q17c4) rfl ?_
   refine g_region (c := q17c11) rfl rfl ?_
   refine wl_v 0 rfl (v_move rfl) gn rfl ?_
   refine wl_v 1 rfl (v_move rfl) gn rfl ?_
   obtain ⟨hb23, h⟩ := h
   have hr24 := Rw.readF (s := St w []) (hl := hl_api_JNode) (h1 := h1_api_JNode) h5 hb23
   refine wl_v 2 rfl (v_idxR (s := St w []) slE_22 rfl rfl h5 hb23) gn rfl ?_
   refine wl_v 3 rfl (v_fldA fo_31_2 rfl) gn rfl ?_
   refine wl_v 4 rfl (v_ldA1 (kk := (x6 : Int).toNat * 4) (j := 2) (St w []) ld_9 rfl hr24 rfl (me 1 rfl)) gn rfl ?_
   refine wl_v 5 rfl (v_assign rfl) gn rfl ?_
   refine w_end 6 rfl ?_
   refine g_seq (c := q17c12) rfl ?_
   refine g_region (c := q17c13) rfl rfl ?_
   refine wl_v 0 rfl (v_move rfl) gn rfl ?_
   obtain ⟨hb25, h⟩ := h
   refine wl_v 1 rfl (v_indexS un_9 rfl rfl hb25) gn rfl ?_
   refine wl_v 2 rfl (v_bin rfl rfl rfl) gn rfl ?_
   refine wl_v 3 rfl (v_assign rfl) gn rfl ?_
   refine w_end 4 rfl ?_
   refine g_seq (c := q17c14) rfl ?_
   refine g_seq (c := q17c15) rfl ?_
   refine g_region (c := q17c17) rfl rfl ?_
   refine wl_v 0 rfl (v_move rfl) gn rfl ?_
   refine w_end 1 rfl ?_
   have j2 : ∀ (x29 : ByteArray) (h : trellisref25_Int_j2 x1 x6 x29 r) , G (trellisref25_Int_C w F r) [.code q17c16] [(6, .string x29), (7, .bool ((bt ((ix x1 x6).text) 0) == 45))] [] [Sm w.heap.size F w [], St w []] := by
    intro x29 h
    unfold trellisref25_Int_j2 at h
    refine g_seq (c := q17c16) rfl ?_
    refine g_region (c := q17c21) rfl rfl ?_
    refine wl_v 0 rfl (v_assign rfl) gn rfl ?_
    refine w_end 1 rfl ?_
    refine g_seq (c := q17c22) rfl ?_
    refine g_seq (c := q17c23) rfl ?_
    refine g_region (c := q17c25) rfl rfl ?_
    refine wl_v 0 rfl (v_assign rfl) gn rfl ?_
    refine w_end 1 rfl ?_
    refine g_block (c := q17c26) rfl ?_
    refine g_loop (c := q17c27) rfl ?_
    have key3 : ∀ s, Rounds (fun (s : Int × Int) o => trellisref25_Int_b3 x29 x1 x6 s.1 s.2 o) s r → (fun (s : Int × Int) => ∀ (_ : Unit), G (trellisref25_Int_C w F r) [.code q17c28, .inLoop q17c28, .inBlock 0, .code q17c24] [(6, .string x29), (7, .bool ((bt ((ix x1 x6).text) 0) == 45)), (8, .int .i64 s.1), (9, .int .i64 s.2)] [] [Sm w.heap.size F w [], St w []]) s := by
     intro s hs
     refine Rounds.ind (mot := (fun (s : Int × Int) => ∀ (_ : Unit), G (trellisref25_Int_C w F r) [.code q17c28, .inLoop q17c28, .inBlock 0, .code q17c24] [(6, .string x29), (7, .bool ((bt ((ix x1 x6).text) 0) == 45)), (8, .int .i64 s.1), (9, .int .i64 s.2)] [] [Sm w.heap.size F w [], St w []])) ?_ hs
     clear hs s
     intro s o1 h hO1
     obtain ⟨x42, x43⟩ := s
     show ∀ (_ : Unit), G (trellisref25_Int_C w F r) [.code q17c28, .inLoop q17c28, .inBlock 0, .code q17c24] [(6, .string x29), (7, .bool ((bt ((ix x1 x6).text) 0) == 45)), (8, .int .i64 x42), (9, .int .i64 x43)] [] [Sm w.heap.size F w [], St w []]
     intro _
     have h : trellisref25_Int_b3 x29 x1 x6 x42 x43 o1 := h
     unfold trellisref25_Int_b3 at h
     refine g_seq (c := q17c28) rfl ?_
     refine g_seq (c := q17c29) rfl ?_
     refine g_region (c := q17c31) rfl rfl ?_
     refine wl_v 0 rfl (v_move rfl) gn rfl ?_
     refine wl_v 1 rfl (v_move rfl) gn rfl ?_
     refine wl_v 2 rfl (v_lenS un_9 rfl) gn rfl ?_
     refine wl_v 3 rfl (v_bin rfl rfl rfl) gn rfl ?_
     refine w_end 4 rfl ?_
     by_cases hp56 : x43 < (x29.size : Int)
     ·have h := if_pos' hp56 h
      refine g_true (c := q17c32) rfl _ rfl ((decide_eq_true hp56)) ?_
      refine g_skip (c := q17c33) rfl ?_
      refine g_seq (c := q17c30) rfl ?_
      refine g_block (c := q17c35) rfl ?_
      refine g_seq (c := q17c37) rfl ?_
      refine g_seq (c := q17c38) rfl ?_
      have j4 : ∀ (x60 : Bool) (h : trellisref25_Int_j4 x43 x29 x42 x60 o1) , G (trellisref25_Int_C w F r) [.code q17c41, .code q17c39, .inBlock 1, .code q17c36, .inLoop q17c28, .inBlock 0, .code q17c24] [(6, .string x29), (7, .bool ((bt ((ix x1 x6).text) 0) == 45)), (8, .int .i64 x42), (9, .int .i64 x43), (58, .bool x60)] [] [Sm w.heap.size F w [], St w []] := by
       intro x60 h
       unfold trellisref25_Int_j4 at h
       by_cases hp61 : x60 = true
       ·have h := if_pos' hp61 h
        refine g_true (c := q17c41) rfl _ rfl (hp61) ?_
        refine g_seq (c := q17c42) rfl ?_
        refine g_region (c := q17c44) rfl rfl ?_
        refine wl_v 0 rfl (v_assign rfl) gn rfl ?_
        refine wl_v 1 rfl (v_assign rfl) gn rfl ?_
        refine w_end 2 rfl ?_
        have h := Out.inr hO1 h
        refine g_retR (c := q17c45) [.int .i64 0, .bool false] rfl Tryd.func17 rfl (.tmp rfl (.tmp rfl (.nil))) fun wr hLr => ?_
        have hMr : B.Loc w wr [] [St w []] := hLr.pick0 (sels [1] rfl)
        show trellisref25_Int_R w F  r (.returned (packV [.int .i64 0, .bool false])) wr
        rw [h]
        exact ⟨rfl, hMr⟩
       ·have h := if_neg' hp61 h
        refine g_false (c := q17c41) rfl _ rfl ((bf hp61)) ?_
        refine g_skip (c := q17c43) rfl ?_
        refine g_seq (c := q17c39) rfl ?_
        refine g_region (c := q17c46) rfl rfl ?_
        refine wl_v 0 rfl (v_move rfl) gn rfl ?_
        refine wl_v 1 rfl (v_move rfl) gn rfl ?_
        obtain ⟨hb62, h⟩ := h
        refine wl_v 2 rfl (v_indexS un_9 rfl rfl hb62) gn rfl ?_
        refine wl_v 3 rfl (v_bin rfl rfl rfl) gn rfl ?_
        refine wl_v 4 rfl (v_conv ⟨_, un_5⟩ un_3 rfl) gn rfl ?_
        refine wl_v 5 rfl (v_assign rfl) gn rfl ?_
        refine w_end 6 rfl ?_
        refine g_seq (c := q17c47) rfl ?_
        refine g_seq (c := q17c48) rfl ?_
        refine g_region (c := q17c50) rfl rfl ?_
        refine wl_v 0 rfl (v_move rfl) gn rfl ?_
        refine wl_v 1 rfl (v_move rfl) gn rfl ?_
        refine wl_v 2 rfl (v_bin rfl rfl rfl) gn rfl ?_
        refine wl_v 3 rfl (v_quo rfl rfl (by decide)) gn rfl ?_
        refine wl_v 4 rfl (v_bin rfl rfl rfl) gn rfl ?_
        refine w_end 5 rfl ?_
        by_cases hp63 : x42 < w64 (Int.tdiv (w64 ((-9223372036854775808) + (w64 (IntKind.u8.wrap ((bt x29 x43) - 48))))) 10)
        ·have h := if_pos' hp63 h
         refine g_true (c := q17c51) rfl _ rfl ((decide_eq_true hp63)) ?_
         refine g_seq (c := q17c52) rfl ?_
         refine g_region (c := q17c54) rfl rfl ?_
         refine wl_v 0 rfl (v_assign rfl) gn rfl ?_
         refine wl_v 1 rfl (v_assign rfl) gn rfl ?_
         refine w_end 2 rfl ?_
         have h := Out.inr hO1 h
         refine g_retR (c := q17c55) [.int .i64 0, .bool false] rfl Tryd.func17 rfl (.tmp rfl (.tmp rfl (.nil))) fun wr hLr => ?_
         have hMr : B.Loc w wr [] [St w []] := hLr.pick0 (sels [1] rfl)
         show trellisref25_Int_R w F  r (.returned (packV [.int .i64 0, .bool false])) wr
         rw [h]
         exact ⟨rfl, hMr⟩
        ·have h := if_neg' hp63 h
         refine g_false (c := q17c51) rfl _ rfl ((decide_eq_false hp63)) ?_
         refine g_skip (c := q17c53) rfl ?_
         refine g_region (c := q17c49) rfl rfl ?_
         refine wl_v 0 rfl (v_move rfl) gn rfl ?_
         refine wl_v 1 rfl (v_bin rfl rfl rfl) gn rfl ?_
         refine wl_v 2 rfl (v_move rfl) gn rfl ?_
         refine wl_v 3 rfl (v_bin rfl rfl rfl) gn rfl ?_
         refine wl_v 4 rfl (v_assign rfl) gn rfl ?_
         refine w_end 5 rfl ?_
         refine g_inBlock ?_
         refine g_region (c := q17c36) rfl rfl ?_
         refine wl_v 0 rfl (v_move rfl) gn rfl ?_
         refine wl_v 1 rfl (v_bin rfl rfl rfl) gn rfl ?_
         refine wl_v 2 rfl (v_assign rfl) gn rfl ?_
         refine w_end 3 rfl ?_
         refine g_inLoop ?_
         have ih := Out.inl hO1 h
         exact g_go [0, 1] (ih ()) ⟨rfl, rfl, rfl, rfl, trivial⟩ (.slnil) rfl
      refine g_region (c := q17c40) rfl rfl ?_
      refine wl_v 0 rfl (v_move rfl) gn rfl ?_
      refine wl_v 1 rfl (v_move rfl) gn rfl ?_
      obtain ⟨hb64, h⟩ := h
      refine wl_v 2 rfl (v_indexS un_9 rfl rfl hb64) gn rfl ?_
      refine wl_v 3 rfl (v_bin rfl rfl rfl) gn rfl ?_
      refine wl_v 4 rfl (v_move rfl) gn rfl ?_
      by_cases hp65 : bt x29 x43 < 48
      ·have h := if_pos' hp65 h
       refine w_bool 53 rfl ((decide_eq_true hp65)) ?_
       refine wl_pass 5 rfl (ps 53 rfl rfl rfl) ?_
       refine wl_pass 6 rfl (ps 53 rfl rfl rfl) ?_
       refine wl_pass 7 rfl (ps 53 rfl rfl rfl) ?_
       refine wl_pass 8 rfl (ps 53 rfl rfl rfl) ?_
       refine wl_v 9 rfl (v_pick (b := true) rfl rfl) gn rfl ?_
       refine w_end 10 rfl ?_
       exact g_go [0, 1] (j4 true h) ⟨rfl, rfl, rfl, rfl, rfl, trivial⟩ (.slnil) rfl
      ·have h := if_neg' hp65 h
       refine w_bool 53 rfl ((decide_eq_false hp65)) ?_
       refine wl_v 5 rfl (v_move rfl) (gy 53 rfl rfl) rfl ?_
       refine wl_v 6 rfl (v_move rfl) (gy 53 rfl rfl) rfl ?_
       refine wl_v 7 rfl (v_indexS un_9 rfl rfl hb64) (gy 53 rfl rfl) rfl ?_
       refine wl_v 8 rfl (v_bin rfl rfl rfl) (gy 53 rfl rfl) rfl ?_
       refine wl_v 9 rfl (v_pick (b := false) rfl rfl) gn rfl ?_
       refine w_end 10 rfl ?_
       exact g_go [0, 1] (j4 (decide (bt x29 x43 > 57)) h) ⟨rfl, rfl, rfl, rfl, rfl, trivial⟩ (.slnil) rfl
     ·have h := if_neg' hp56 h
      refine g_false (c := q17c32) rfl _ rfl ((decide_eq_false hp56)) ?_
      refine g_exit (c := q17c34) [.code q17c24] rfl rfl ?_
      refine g_seq (c := q17c24) rfl ?_
      refine g_seq (c := q17c56) rfl ?_
      refine g_region (c := q17c58) rfl rfl ?_
      refine wl_v 0 rfl (v_move rfl) gn rfl ?_
      refine w_end 1 rfl ?_
      by_cases hp66 : bt ((ix x1 x6).text) 0 = 45
      ·have h := if_pos' hp66 h
       refine g_true (c := q17c59) rfl _ rfl ((eqi hp66)) ?_
       refine g_seq (c := q17c60) rfl ?_
       refine g_region (c := q17c62) rfl rfl ?_
       refine wl_v 0 rfl (v_move rfl) gn rfl ?_
       refine wl_v 1 rfl (v_assign rfl) gn rfl ?_
       refine wl_v 2 rfl (v_assign rfl) gn rfl ?_
       refine w_end 3 rfl ?_
       have h := Out.inr hO1 h
       refine g_retR (c := q17c63) [.int .i64 x42, .bool true] rfl Tryd.func17 rfl (.tmp rfl (.tmp rfl (.nil))) fun wr hLr => ?_
       have hMr : B.Loc w wr [] [St w []] := hLr.pick0 (sels [1] rfl)
       show trellisref25_Int_R w F  r (.returned (packV [.int .i64 x42, .bool true])) wr
       rw [h]
       exact ⟨rfl, hMr⟩
      ·have h := if_neg' hp66 h
       refine g_false (c := q17c59) rfl _ rfl ((nei hp66)) ?_
       refine g_skip (c := q17c61) rfl ?_
       refine g_seq (c := q17c57) rfl ?_
       refine g_seq (c := q17c64) rfl ?_
       refine g_region (c := q17c66) rfl rfl ?_
       refine wl_v 0 rfl (v_move rfl) gn rfl ?_
       refine wl_v 1 rfl (v_bin rfl rfl rfl) gn rfl ?_
       refine w_end 2 rfl ?_
       by_cases hp67 : x42 = -9223372036854775808
       ·have h := if_pos' hp67 h
        refine g_true (c := q17c67) rfl _ rfl ((eqi hp67)) ?_
        refine g_seq (c := q17c68) rfl ?_
        refine g_region (c := q17c72) rfl rfl ?_
        refine wl_v 0 rfl (v_assign rfl) gn rfl ?_
        refine wl_v 1 rfl (v_assign rfl) gn rfl ?_
        refine w_end 2 rfl ?_
        have h := Out.inr hO1 h
        refine g_retR (c := q17c73) [.int .i64 0, .bool false] rfl Tryd.func17 rfl (.tmp rfl (.tmp rfl (.nil))) fun wr hLr => ?_
        have hMr : B.Loc w wr [] [St w []] := hLr.pick0 (sels [1] rfl)
        show trellisref25_Int_R w F  r (.returned (packV [.int .i64 0, .bool false])) wr
        rw [h]
        exact ⟨rfl, hMr⟩
       ·have h := if_neg' hp67 h
        refine g_false (c := q17c67) rfl _ rfl ((nei hp67)) ?_
        refine g_skip (c := q17c69) rfl ?_
        refine g_seq (c := q17c65) rfl ?_
        refine g_region (c := q17c70) rfl rfl ?_
        refine wl_v 0 rfl (v_move rfl) gn rfl ?_
        refine wl_v 1 rfl (v_neg rfl) gn rfl ?_
        refine wl_v 2 rfl (v_assign rfl) gn rfl ?_
        refine wl_v 3 rfl (v_assign rfl) gn rfl ?_
        refine w_end 4 rfl ?_
        have h := Out.inr hO1 h
        refine g_retR (c := q17c71) [.int .i64 (w64 (0 - x42)), .bool true] rfl Tryd.func17 rfl (.tmp rfl (.tmp rfl (.nil))) fun wr hLr => ?_
        have hMr : B.Loc w wr [] [St w []] := hLr.pick0 (sels [1] rfl)
        show trellisref25_Int_R w F  r (.returned (packV [.int .i64 (w64 (0 - x42)), .bool true])) wr
        rw [h]
        exact ⟨rfl, hMr⟩
    exact g_go [0, 1] (key3 _ h ()) ⟨rfl, rfl, rfl, rfl, trivial⟩ (.slnil) rfl
   by_cases hp26 : bt ((ix x1 x6).text) 0 = 45
   ·have h := if_pos' hp26 h
    refine g_true (c := q17c18) rfl _ rfl ((eqi hp26)) ?_
    refine g_region (c := q17c19) rfl rfl ?_
    refine wl_v 0 rfl (v_move rfl) gn rfl ?_
    obtain ⟨hb68, h⟩ := h
    refine wl_v 1 rfl (v_cutS 1 (((ix x1 x6).text).size : Int) un_9 rfl (.inr ⟨_, _, rfl, rfl⟩) (.inl ⟨rfl, rfl⟩) ⟨hb68.1, hb68.2.1⟩ hb68.2.2) gn rfl ?_
    refine wl_v 2 rfl (v_assign rfl) gn rfl ?_
    refine w_end 3 rfl ?_
    exact g_go [0, 1] (j2 (((ix x1 x6).text).extract (1 : Int).toNat ((((ix x1 x6).text).size : Int) : Int).toNat) h) ⟨rfl, rfl, trivial⟩ (.slnil) rfl
   ·have h := if_neg' hp26 h
    refine g_false (c := q17c18) rfl _ rfl ((nei hp26)) ?_
    refine g_skip (c := q17c20) rfl ?_
    exact g_go [0, 1] (j2 ((ix x1 x6).text) h) ⟨rfl, rfl, trivial⟩ (.slnil) rfl
 refine g_region (c := q17c5) rfl rfl ?_
 refine wl_v 0 rfl (v_move rfl) gn rfl ?_
 refine wl_v 1 rfl (v_bin rfl rfl rfl) gn rfl ?_
 refine wl_v 2 rfl (v_move rfl) gn rfl ?_
 by_cases hp69 : x6 < 0
 ·have h := if_pos' hp69 h
  refine w_bool 13 rfl ((decide_eq_true hp69)) ?_
  refine wl_pass 3 rfl (ps 13 rfl rfl rfl) ?_
  refine wl_pass 4 rfl (ps 13 rfl rfl rfl) ?_
  refine wl_pass 5 rfl (ps 13 rfl rfl rfl) ?_
  refine wl_pass 6 rfl (ps 13 rfl rfl rfl) ?_
  refine wl_v 7 rfl (v_pick (b := true) rfl rfl) gn rfl ?_
  refine wl_v 8 rfl (v_move rfl) gn rfl ?_
  refine wl_pass 9 rfl (ps 19 rfl rfl rfl) ?_
  refine wl_pass 10 rfl (ps 19 rfl rfl rfl) ?_
  refine wl_pass 11 rfl (ps 19 rfl rfl rfl) ?_
  refine wl_v 12 rfl (v_pick (b := true) rfl rfl) gn rfl ?_
  refine wl_v 13 rfl (v_move rfl) gn rfl ?_
  refine wl_pass 14 rfl (ps 24 rfl rfl rfl) ?_
  refine wl_pass 15 rfl (ps 24 rfl rfl rfl) ?_
  refine wl_pass 16 rfl (ps 24 rfl rfl rfl) ?_
  refine wl_pass 17 rfl (ps 24 rfl rfl rfl) ?_
  refine wl_pass 18 rfl (ps 24 rfl rfl rfl) ?_
  refine wl_pass 19 rfl (ps 24 rfl rfl rfl) ?_
  refine wl_v 20 rfl (v_pick (b := true) rfl rfl) gn rfl ?_
  refine w_end 21 rfl ?_
  exact g_go [0, 1] (j1 true h) ⟨rfl, rfl, rfl, trivial⟩ (.slnil) rfl
 ·have h := if_neg' hp69 h
  refine w_bool 13 rfl ((decide_eq_false hp69)) ?_
  refine wl_v 3 rfl (v_move rfl) (gy 13 rfl rfl) rfl ?_
  refine wl_v 4 rfl (v_move rfl) (gy 13 rfl rfl) rfl ?_
  refine wl_v 5 rfl (v_lenQ un_22 rfl h5.hq) (gy 13 rfl rfl) rfl ?_
  refine wl_v 6 rfl (v_bin rfl rfl rfl) (gy 13 rfl rfl) rfl ?_
  refine wl_v 7 rfl (v_pick (b := false) rfl rfl) gn rfl ?_
  refine wl_v 8 rfl (v_move rfl) gn rfl ?_
  by_cases hp70 : x6 ≥ (x1.length : Int)
  ·have h := if_pos' hp70 h
   refine w_bool 19 rfl ((decide_eq_true hp70)) ?_
   refine wl_pass 9 rfl (ps 19 rfl rfl rfl) ?_
   refine wl_pass 10 rfl (ps 19 rfl rfl rfl) ?_
   refine wl_pass 11 rfl (ps 19 rfl rfl rfl) ?_
   refine wl_v 12 rfl (v_pick (b := true) rfl rfl) gn rfl ?_
   refine wl_v 13 rfl (v_move rfl) gn rfl ?_
   refine wl_pass 14 rfl (ps 24 rfl rfl rfl) ?_
   refine wl_pass 15 rfl (ps 24 rfl rfl rfl) ?_
   refine wl_pass 16 rfl (ps 24 rfl rfl rfl) ?_
   refine wl_pass 17 rfl (ps 24 rfl rfl rfl) ?_
   refine wl_pass 18 rfl (ps 24 rfl rfl rfl) ?_
   refine wl_pass 19 rfl (ps 24 rfl rfl rfl) ?_
   refine wl_v 20 rfl (v_pick (b := true) rfl rfl) gn rfl ?_
   refine w_end 21 rfl ?_
   exact g_go [0, 1] (j1 true h) ⟨rfl, rfl, rfl, trivial⟩ (.slnil) rfl
  ·have h := if_neg' hp70 h
   refine w_bool 19 rfl ((decide_eq_false hp70)) ?_
   refine wl_v 9 rfl (v_move rfl) (gy 19 rfl rfl) rfl ?_
   obtain ⟨r74, hv75, h⟩ := h
   refine wl_s 10 rfl (s_call [.slice A2 n3 c4] rfl Tryd.func24 rfl rfl rfl fun w71 hL72 => ?_) (gy 19 rfl rfl)
   have hp73 : List.Perm ([] : List Ent) (([] : List Ent) ++ ([] : List Ent)) := perm_of_idx [] [] rfl rfl (by kernel_rfl)
   refine Calls.mono (trellisref25_Shaped_calls w71 (Fl ([] : List Snap)) x1 A2 n3 c4 (Rw.mono h5 (hL72.toSt hp73 (me 1 rfl))) (hL72.hFl (Sl := ([] : List Snap)) hp73 (sels [] rfl)) (hL72.into hp73 (Fl ([] : List Snap))) r74 hv75) ?_
   rintro _ w76 ⟨rfl, hM77⟩
   have hL78 := hL72.call hp73 hM77
   refine ⟨_, _, _, rfl, hL78, ?_⟩
   refine wl_v 11 rfl (v_not rfl) (gy 19 rfl rfl) rfl ?_
   refine wl_v 12 rfl (v_pick (b := false) rfl rfl) gn rfl ?_
   refine wl_v 13 rfl (v_move rfl) gn rfl ?_
   by_cases hp79 : r74 = true
   ·have h := if_pos' hp79 h
    refine w_bool 24 rfl ((nf hp79)) ?_
    refine wl_v 14 rfl (v_move rfl) (gy 24 rfl rfl) rfl ?_
    refine wl_v 15 rfl (v_move rfl) (gy 24 rfl rfl) rfl ?_
    obtain ⟨hb80, h⟩ := h
    have hr81 := Rw.readF (s := St w []) (hl := hl_api_JNode) (h1 := h1_api_JNode) h5 hb80
    refine wl_v 16 rfl (v_idxR (s := St w []) slE_22 rfl rfl h5 hb80) (gy 24 rfl rfl) rfl ?_
    refine wl_v 17 rfl (v_fldA fo_31_0 rfl) (gy 24 rfl rfl) rfl ?_
    refine wl_v 18 rfl (v_ldA1 (kk := (x6 : Int).toNat * 4) (j := 0) (St w []) ld_29 rfl hr81 rfl (me 1 rfl)) (gy 24 rfl rfl) rfl ?_
    refine wl_v 19 rfl (v_bin rfl rfl rfl) (gy 24 rfl rfl) rfl ?_
    refine wl_v 20 rfl (v_pick (b := false) rfl rfl) gn rfl ?_
    refine w_end 21 rfl ?_
    exact g_go [0, 1] (j1 (((ix x1 x6).kind) != 4) h) ⟨rfl, rfl, rfl, trivial⟩ (.slnil) rfl
   ·have h := if_neg' hp79 h
    refine w_bool 24 rfl ((nt (bf hp79))) ?_
    refine wl_pass 14 rfl (ps 24 rfl rfl rfl) ?_
    refine wl_pass 15 rfl (ps 24 rfl rfl rfl) ?_
    refine wl_pass 16 rfl (ps 24 rfl rfl rfl) ?_
    refine wl_pass 17 rfl (ps 24 rfl rfl rfl) ?_
    refine wl_pass 18 rfl (ps 24 rfl rfl rfl) ?_
    refine wl_pass 19 rfl (ps 24 rfl rfl rfl) ?_
    refine wl_v 20 rfl (v_pick (b := true) rfl rfl) gn rfl ?_
    refine w_end 21 rfl ?_
    exact g_go [0, 1] (j1 true h) ⟨rfl, rfl, rfl, trivial⟩ (.slnil) rfl
noncomputable abbrev q18c0 : Code := bodyOf Tryd.f18
noncomputable abbrev q18c1 : Code := Code.fst q18c0
noncomputable abbrev q18c2 : Code := Code.snd q18c0
noncomputable abbrev q18c3 : Code := Code.fst q18c2
noncomputable abbrev q18c4 : Code := Code.snd q18c2
noncomputable abbrev q18c5 : Code := Code.fst q18c3
noncomputable abbrev q18c6 : Code := Code.snd q18c3
noncomputable abbrev q18c7 : Code := Code.fst q18c6
noncomputable abbrev q18c8 : Code := Code.snd q18c6
noncomputable abbrev q18c9 : Code := Code.fst q18c7
noncomputable abbrev q18c10 : Code := Code.snd q18c7
noncomputable abbrev q18c11 : Code := Code.fst q18c4
noncomputable abbrev q18c12 : Code := Code.snd q18c4
noncomputable abbrev q18c13 : Code := Code.fst q18c12
noncomputable abbrev q18c14 : Code := Code.snd q18c12
noncomputable abbrev q18c15 : Code := Code.fst q18c13
noncomputable abbrev q18c16 : Code := Code.snd q18c13
noncomputable abbrev q18c17 : Code := Code.fst q18c16
noncomputable abbrev q18c18 : Code := Code.fst q18c17
noncomputable abbrev q18c19 : Code := Code.fst q18c18
noncomputable abbrev q18c20 : Code := Code.snd q18c18
noncomputable abbrev q18c21 : Code := Code.fst q18c19
noncomputable abbrev q18c22 : Code := Code.snd q18c19
noncomputable abbrev q18c23 : Code := Code.fst q18c22
noncomputable abbrev q18c24 : Code := Code.snd q18c22
noncomputable abbrev q18c25 : Code := Code.fst q18c20
noncomputable abbrev q18c26 : Code := Code.snd q18c20
noncomputable abbrev q18c27 : Code := Code.fst q18c25
noncomputable abbrev q18c28 : Code := Code.fst q18c27
noncomputable abbrev q18c29 : Code := Code.snd q18c27
noncomputable abbrev q18c30 : Code := Code.fst q18c29
noncomputable abbrev q18c31 : Code := Code.snd q18c29
noncomputable abbrev q18c32 : Code := Code.fst q18c30
noncomputable abbrev q18c33 : Code := Code.snd q18c30
noncomputable abbrev q18c34 : Code := Code.fst q18c14
noncomputable abbrev q18c35 : Code := Code.snd q18c14
abbrev trellisref25_Member_R (w : World) (F : Nat → Prop) (r : Int) : Ending → World → Prop := fun e w' => e = .returned (.int .i64 r) ∧ B.Loc w w' [] [St w []]
noncomputable abbrev trellisref25_Member_C (w : World) (F : Nat → Prop) (r : Int) : Cx := ⟨Tryd.prog, 18, Tryd.f18, 53, trellisref25_Member_R w F  r, w⟩
theorem trellisref25_Member_calls (w : World) (F : Nat → Prop) (x1 : List api_JNode) (x6 : Int) (x7 : ByteArray) (A2 : Option Addr) (n3 : Nat) (c4 : Nat) (h5 : Rw k_api_JNode w (St w []).av A2 n3 c4 x1) (hF : ∀ b, F b → b < w.heap.size ∧ ∀ o ∈ ([] : List (List Nat)), b ∉ o) (hL0 : B.Loc w w [] [Sm w.heap.size F w [], St w []]) (r : Int) (h : trellisref25_Member x1 x6 x7 r) : Calls Tryd.prog 18 #[.slice A2 n3 c4, .int .i64 x6, .string x7] w (trellisref25_Member_R w F  r) := by
 unfold trellisref25_Member at h
 refine calls_of_Loc (vs := [.slice A2 n3 c4, .int .i64 x6, .string x7]) 53 Tryd.func18 rfl Tryd.ntmps18 rfl hL0 ?_
 show G (trellisref25_Member_C w F r) _ _ _ _
 refine g_seq (c := q18c0) rfl ?_
 refine g_region (c := q18c1) rfl rfl ?_
 refine wl_v 0 rfl (v_assign rfl) gn rfl ?_
 refine w_end 1 rfl ?_
 refine g_seq (c := q18c2) rfl ?_
 refine g_seq (c := q18c3) rfl ?_
 have j1 : ∀ (x22 : Bool) (h : trellisref25_Member_j1 x1 x6 x7 x22 r) , G (trellisref25_Member_C w F r) [.code q18c6, .code q18c4] [(0, .slice A2 n3 c4), (1, .int .i64 x6), (2, .string x7), (29, .bool x22)] [] [Sm w.heap.size F w [], St w []] := by
  intro x22 h
  unfold trellisref25_Member_j1 at h
  by_cases hp23 : x22 = true
  ·have h := if_pos' hp23 h
   refine g_true (c := q18c6) rfl _ rfl (hp23) ?_
   refine g_seq (c := q18c7) rfl ?_
   refine g_region (c := q18c9) rfl rfl ?_
   refine wl_v 0 rfl (v_assign rfl) gn rfl ?_
   refine w_end 1 rfl ?_
   refine g_retR (c := q18c10) [.int .i64 (-1)] rfl Tryd.func18 rfl (.tmp rfl (.nil)) fun wr hLr => ?_
   have hMr : B.Loc w wr [] [St w []] := hLr.pick0 (sels [1] rfl)
   show trellisref25_Member_R w F  r (.returned (packV [.int .i64 (-1)])) wr
   rw [h]
   exact ⟨rfl, hMr⟩
  ·have h := if_neg' hp23 h
   refine g_false (c := q18c6) rfl _ rfl ((bf hp23)) ?_
   refine g_skip (c := q18c8) rfl ?_
   refine g_seq (c := q18c4) rfl ?_
   refine g_region (c := q18c11) rfl rfl ?_
   refine wl_v 0 rfl (v_move rfl) gn rfl ?_
   refine wl_v 1 rfl (v_move rfl) gn rfl ?_
   obtain ⟨r27, hv28, h⟩ := h
   refine wl_s 2 rfl (s_call [.slice A2 n3 c4, .int .i64 x6] rfl Tryd.func32 rfl rfl rfl fun w24 hL25 => ?_) gn
   have hp26 : List.Perm ([] : List Ent) (([] : List Ent) ++ ([] : List Ent)) := perm_of_idx [] [] rfl rfl (by kernel_rfl)
   refine Calls.mono (trellisref25_kids_calls w24 (Fl ([] : List Snap)) x1 x6 A2 n3 c4 (Rw.mono h5 (hL25.toSt hp26 (me 1 rfl))) (hL25.hFl (Sl := ([] : List Snap)) hp26 (sels [] rfl)) (hL25.into hp26 (Fl ([] : List Snap))) r27 hv28) ?_
   rintro _ w34 ⟨A29, n30, c31, rfl, hM35, h32⟩
   have hL36 := hL25.call hp26 hM35
   refine ⟨_, _, _, rfl, hL36, ?_⟩
   refine wl_v 3 rfl (v_assign rfl) gn rfl ?_
   refine w_end 4 rfl ?_
   refine g_seq (c := q18c12) rfl ?_
   refine g_seq (c := q18c13) rfl ?_
   refine g_region (c := q18c15) rfl rfl ?_
   refine wl_v 0 rfl (v_assign rfl) gn rfl ?_
   refine w_end 1 rfl ?_
   refine g_block (c := q18c16) rfl ?_
   refine g_loop (c := q18c17) rfl ?_
   have key2 : ∀ s, Rounds (fun (s : Int) o => trellisref25_Member_b2 r27 x1 x7 s o) s r → (fun (s : Int) => ∀ (_ : Unit), G (trellisref25_Member_C w F r) [.code q18c18, .inLoop q18c18, .inBlock 0, .code q18c14] [(0, .slice A2 n3 c4), (2, .string x7), (7, .slice A29 n30 c31), (8, .int .i64 s)] [.own (.slice A29 n30 c31) 3 1 n30 (r27.flatMap (eI .i64))] [Sm w.heap.size F w [], St w []]) s := by
    intro s hs
    refine Rounds.ind (mot := (fun (s : Int) => ∀ (_ : Unit), G (trellisref25_Member_C w F r) [.code q18c18, .inLoop q18c18, .inBlock 0, .code q18c14] [(0, .slice A2 n3 c4), (2, .string x7), (7, .slice A29 n30 c31), (8, .int .i64 s)] [.own (.slice A29 n30 c31) 3 1 n30 (r27.flatMap (eI .i64))] [Sm w.heap.size F w [], St w []])) ?_ hs
    clear hs s
    intro x43 o1 h hO1
    show ∀ (_ : Unit), G (trellisref25_Member_C w F r) [.code q18c18, .inLoop q18c18, .inBlock 0, .code q18c14] [(0, .slice A2 n3 c4), (2, .string x7), (7, .slice A29 n30 c31), (8, .int .i64 x43)] [.own (.slice A29 n30 c31) 3 1 n30 (r27.flatMap (eI .i64))] [Sm w.heap.size F w [], St w []]
    intro _
    have h : trellisref25_Member_b2 r27 x1 x7 x43 o1 := h
    unfold trellisref25_Member_b2 at h
    refine g_seq (c := q18c18) rfl ?_
    refine g_seq (c := q18c19) rfl ?_
    refine g_region (c := q18c21) rfl rfl ?_
    refine wl_v 0 rfl (v_move rfl) gn rfl ?_
    refine wl_v 1 rfl (v_move rfl) gn rfl ?_
    refine wl_v 2 rfl (v_lenQ un_46 rfl (Ow.weak hL25.env.size h32).hq) gn rfl ?_
    refine wl_v 3 rfl (v_bin rfl rfl rfl) gn rfl ?_
    refine w_end 4 rfl ?_
    by_cases hp49 : x43 < (r27.length : Int)
    ·have h := if_pos' hp49 h
     refine g_true (c := q18c22) rfl _ rfl ((decide_eq_true hp49)) ?_
     refine g_skip (c := q18c23) rfl ?_
     refine g_seq (c := q18c20) rfl ?_
     refine g_block (c := q18c25) rfl ?_
     refine g_seq (c := q18c27) rfl ?_
     refine g_region (c := q18c28) rfl rfl ?_
     refine wl_v 0 rfl (v_move rfl) gn rfl ?_
     refine wl_v 1 rfl (v_move rfl) gn rfl ?_
     refine wl_v 2 rfl (v_move rfl) gn rfl ?_
     obtain ⟨hb50, h⟩ := h
     refine wl_v 3 rfl (v_idxO slE_46 rfl rfl (Ow.weak hL25.env.size h32) hb50) gn rfl ?_
     refine wl_v 4 rfl (v_ldO1 (.int .i64 (ix r27 x43)) 0 ld_3 rfl rfl (fm_get0 (hlI .i64) hb50 rfl)) gn rfl ?_
     obtain ⟨hb51, h⟩ := h
     have hr52 := Rw.readF (s := St w []) (hl := hl_api_JNode) (h1 := h1_api_JNode) h5 hb51
     refine wl_v 5 rfl (v_idxR (s := St w []) slE_22 rfl rfl h5 hb51) gn rfl ?_
     refine wl_v 6 rfl (v_fldA fo_31_1 rfl) gn rfl ?_
     refine wl_v 7 rfl (v_ldA1 (kk := (ix r27 x43 : Int).toNat * 4) (j := 1) (St w []) ld_9 rfl hr52 rfl (me 1 rfl)) gn rfl ?_
     refine wl_v 8 rfl (v_move rfl) gn rfl ?_
     refine wl_v 9 rfl (v_eqS rfl rfl) gn rfl ?_
     refine w_end 10 rfl ?_
     by_cases hp53 : (ix x1 (ix r27 x43)).key = x7
     ·have h := if_pos' hp53 h
      refine g_true (c := q18c29) rfl _ rfl ((seq_t hp53)) ?_
      refine g_seq (c := q18c30) rfl ?_
      refine g_region (c := q18c32) rfl rfl ?_
      refine wl_v 0 rfl (v_move rfl) gn rfl ?_
      refine wl_v 1 rfl (v_move rfl) gn rfl ?_
      refine wl_v 2 rfl (v_idxO slE_46 rfl rfl (Ow.weak hL25.env.size h32) hb50) gn rfl ?_
      refine wl_v 3 rfl (v_ldO1 (.int .i64 (ix r27 x43)) 0 ld_3 rfl rfl (fm_get0 (hlI .i64) hb50 rfl)) gn rfl ?_
      refine wl_v 4 rfl (v_assign rfl) gn rfl ?_
      refine w_end 5 rfl ?_
      have h := Out.inr hO1 h
      refine g_retR (c := q18c33) [.int .i64 (ix r27 x43)] rfl Tryd.func18 rfl (.tmp rfl (.nil)) fun wr hLr => ?_
      have hMr : B.Loc w wr [] [St w []] := hLr.pick0 (sels [1] rfl)
      show trellisref25_Member_R w F  r (.returned (packV [.int .i64 (ix r27 x43)])) wr
      rw [h]
      exact ⟨rfl, hMr⟩
     ·have h := if_neg' hp53 h
      refine g_false (c := q18c29) rfl _ rfl ((seq_f hp53)) ?_
      refine g_skip (c := q18c31) rfl ?_
      refine g_inBlock ?_
      refine g_region (c := q18c26) rfl rfl ?_
      refine wl_v 0 rfl (v_move rfl) gn rfl ?_
      refine wl_v 1 rfl (v_bin rfl rfl rfl) gn rfl ?_
      refine wl_v 2 rfl (v_assign rfl) gn rfl ?_
      refine w_end 3 rfl ?_
      refine g_inLoop ?_
      have ih := Out.inl hO1 h
      exact g_go [0, 1] (ih ()) ⟨rfl, rfl, rfl, rfl, trivial⟩ (.cons_cons _ (.slnil)) rfl
    ·have h := if_neg' hp49 h
     refine g_false (c := q18c22) rfl _ rfl ((decide_eq_false hp49)) ?_
     refine g_exit (c := q18c24) [.code q18c14] rfl rfl ?_
     refine g_seq (c := q18c14) rfl ?_
     refine g_region (c := q18c34) rfl rfl ?_
     refine wl_v 0 rfl (v_assign rfl) gn rfl ?_
     refine w_end 1 rfl ?_
     have h := Out.inr hO1 h
     refine g_retR (c := q18c35) [.int .i64 (-1)] rfl Tryd.func18 rfl (.tmp rfl (.nil)) fun wr hLr => ?_
     have hMr : B.Loc w wr [] [St w []] := hLr.pick0 (sels [1] rfl)
     show trellisref25_Member_R w F  r (.returned (packV [.int .i64 (-1)])) wr
     rw [h]
     exact ⟨rfl, hMr⟩
   exact g_go [0, 1] (key2 _ h ()) ⟨rfl, rfl, rfl, rfl, trivial⟩ (.cons_cons _ (.slnil)) rfl
 refine g_region (c := q18c5) rfl rfl ?_
 refine wl_v 0 rfl (v_move rfl) gn rfl ?_
 refine wl_v 1 rfl (v_bin rfl rfl rfl) gn rfl ?_
 refine wl_v 2 rfl (v_move rfl) gn rfl ?_
 by_cases hp54 : x6 < 0
 ·have h := if_pos' hp54 h
  refine w_bool 11 rfl ((decide_eq_true hp54)) ?_
  refine wl_pass 3 rfl (ps 11 rfl rfl rfl) ?_
  refine wl_pass 4 rfl (ps 11 rfl rfl rfl) ?_
  refine wl_pass 5 rfl (ps 11 rfl rfl rfl) ?_
  refine wl_pass 6 rfl (ps 11 rfl rfl rfl) ?_
  refine wl_v 7 rfl (v_pick (b := true) rfl rfl) gn rfl ?_
  refine wl_v 8 rfl (v_move rfl) gn rfl ?_
  refine wl_pass 9 rfl (ps 17 rfl rfl rfl) ?_
  refine wl_pass 10 rfl (ps 17 rfl rfl rfl) ?_
  refine wl_pass 11 rfl (ps 17 rfl rfl rfl) ?_
  refine wl_v 12 rfl (v_pick (b := true) rfl rfl) gn rfl ?_
  refine wl_v 13 rfl (v_move rfl) gn rfl ?_
  refine wl_pass 14 rfl (ps 22 rfl rfl rfl) ?_
  refine wl_pass 15 rfl (ps 22 rfl rfl rfl) ?_
  refine wl_pass 16 rfl (ps 22 rfl rfl rfl) ?_
  refine wl_pass 17 rfl (ps 22 rfl rfl rfl) ?_
  refine wl_pass 18 rfl (ps 22 rfl rfl rfl) ?_
  refine wl_pass 19 rfl (ps 22 rfl rfl rfl) ?_
  refine wl_v 20 rfl (v_pick (b := true) rfl rfl) gn rfl ?_
  refine w_end 21 rfl ?_
  exact g_go [0, 1] (j1 true h) ⟨rfl, rfl, rfl, rfl, trivial⟩ (.slnil) rfl
 ·have h := if_neg' hp54 h
  refine w_bool 11 rfl ((decide_eq_false hp54)) ?_
  refine wl_v 3 rfl (v_move rfl) (gy 11 rfl rfl) rfl ?_
  refine wl_v 4 rfl (v_move rfl) (gy 11 rfl rfl) rfl ?_
  refine wl_v 5 rfl (v_lenQ un_22 rfl h5.hq) (gy 11 rfl rfl) rfl ?_
  refine wl_v 6 rfl (v_bin rfl rfl rfl) (gy 11 rfl rfl) rfl ?_
  refine wl_v 7 rfl (v_pick (b := false) rfl rfl) gn rfl ?_
  refine wl_v 8 rfl (v_move rfl) gn rfl ?_
  by_cases hp55 : x6 ≥ (x1.length : Int)
  ·have h := if_pos' hp55 h
   refine w_bool 17 rfl ((decide_eq_true hp55)) ?_
   refine wl_pass 9 rfl (ps 17 rfl rfl rfl) ?_
   refine wl_pass 10 rfl (ps 17 rfl rfl rfl) ?_
   refine wl_pass 11 rfl (ps 17 rfl rfl rfl) ?_
   refine wl_v 12 rfl (v_pick (b := true) rfl rfl) gn rfl ?_
   refine wl_v 13 rfl (v_move rfl) gn rfl ?_
   refine wl_pass 14 rfl (ps 22 rfl rfl rfl) ?_
   refine wl_pass 15 rfl (ps 22 rfl rfl rfl) ?_
   refine wl_pass 16 rfl (ps 22 rfl rfl rfl) ?_
   refine wl_pass 17 rfl (ps 22 rfl rfl rfl) ?_
   refine wl_pass 18 rfl (ps 22 rfl rfl rfl) ?_
   refine wl_pass 19 rfl (ps 22 rfl rfl rfl) ?_
   refine wl_v 20 rfl (v_pick (b := true) rfl rfl) gn rfl ?_
   refine w_end 21 rfl ?_
   exact g_go [0, 1] (j1 true h) ⟨rfl, rfl, rfl, rfl, trivial⟩ (.slnil) rfl
  ·have h := if_neg' hp55 h
   refine w_bool 17 rfl ((decide_eq_false hp55)) ?_
   refine wl_v 9 rfl (v_move rfl) (gy 17 rfl rfl) rfl ?_
   obtain ⟨r59, hv60, h⟩ := h
   refine wl_s 10 rfl (s_call [.slice A2 n3 c4] rfl Tryd.func24 rfl rfl rfl fun w56 hL57 => ?_) (gy 17 rfl rfl)
   have hp58 : List.Perm ([] : List Ent) (([] : List Ent) ++ ([] : List Ent)) := perm_of_idx [] [] rfl rfl (by kernel_rfl)
   refine Calls.mono (trellisref25_Shaped_calls w56 (Fl ([] : List Snap)) x1 A2 n3 c4 (Rw.mono h5 (hL57.toSt hp58 (me 1 rfl))) (hL57.hFl (Sl := ([] : List Snap)) hp58 (sels [] rfl)) (hL57.into hp58 (Fl ([] : List Snap))) r59 hv60) ?_
   rintro _ w61 ⟨rfl, hM62⟩
   have hL63 := hL57.call hp58 hM62
   refine ⟨_, _, _, rfl, hL63, ?_⟩
   refine wl_v 11 rfl (v_not rfl) (gy 17 rfl rfl) rfl ?_
   refine wl_v 12 rfl (v_pick (b := false) rfl rfl) gn rfl ?_
   refine wl_v 13 rfl (v_move rfl) gn rfl ?_
   by_cases hp64 : r59 = true
   ·have h := if_pos' hp64 h
    refine w_bool 22 rfl ((nf hp64)) ?_
    refine wl_v 14 rfl (v_move rfl) (gy 22 rfl rfl) rfl ?_
    refine wl_v 15 rfl (v_move rfl) (gy 22 rfl rfl) rfl ?_
    obtain ⟨hb65, h⟩ := h
    have hr66 := Rw.readF (s := St w []) (hl := hl_api_JNode) (h1 := h1_api_JNode) h5 hb65
    refine wl_v 16 rfl (v_idxR (s := St w []) slE_22 rfl rfl h5 hb65) (gy 22 rfl rfl) rfl ?_
    refine wl_v 17 rfl (v_fldA fo_31_0 rfl) (gy 22 rfl rfl) rfl ?_
    refine wl_v 18 rfl (v_ldA1 (kk := (x6 : Int).toNat * 4) (j := 0) (St w []) ld_29 rfl hr66 rfl (me 1 rfl)) (gy 22 rfl rfl) rfl ?_
    refine wl_v 19 rfl (v_bin rfl rfl rfl) (gy 22 rfl rfl) rfl ?_
    refine wl_v 20 rfl (v_pick (b := false) rfl rfl) gn rfl ?_
    refine w_end 21 rfl ?_
    exact g_go [0, 1] (j1 (((ix x1 x6).kind) != 7) h) ⟨rfl, rfl, rfl, rfl, trivial⟩ (.slnil) rfl
   ·have h := if_neg' hp64 h
    refine w_bool 22 rfl ((nt (bf hp64))) ?_
    refine wl_pass 14 rfl (ps 22 rfl rfl rfl) ?_
    refine wl_pass 15 rfl (ps 22 rfl rfl rfl) ?_
    refine wl_pass 16 rfl (ps 22 rfl rfl rfl) ?_
    refine wl_pass 17 rfl (ps 22 rfl rfl rfl) ?_
    refine wl_pass 18 rfl (ps 22 rfl rfl rfl) ?_
    refine wl_pass 19 rfl (ps 22 rfl rfl rfl) ?_
    refine wl_v 20 rfl (v_pick (b := true) rfl rfl) gn rfl ?_
    refine w_end 21 rfl ?_
    exact g_go [0, 1] (j1 true h) ⟨rfl, rfl, rfl, rfl, trivial⟩ (.slnil) rfl
noncomputable abbrev q27c0 : Code := bodyOf Tryd.f27
noncomputable abbrev q27c1 : Code := Code.fst q27c0
noncomputable abbrev q27c2 : Code := Code.snd q27c0
noncomputable abbrev q27c3 : Code := Code.fst q27c2
noncomputable abbrev q27c4 : Code := Code.snd q27c2
noncomputable abbrev q27c5 : Code := Code.fst q27c3
noncomputable abbrev q27c6 : Code := Code.snd q27c3
noncomputable abbrev q27c7 : Code := Code.fst q27c6
noncomputable abbrev q27c8 : Code := Code.snd q27c6
noncomputable abbrev q27c9 : Code := Code.fst q27c4
noncomputable abbrev q27c10 : Code := Code.snd q27c4
noncomputable abbrev q27c11 : Code := Code.fst q27c9
noncomputable abbrev q27c12 : Code := Code.snd q27c9
noncomputable abbrev q27c13 : Code := Code.fst q27c12
noncomputable abbrev q27c14 : Code := Code.fst q27c13
noncomputable abbrev q27c15 : Code := Code.fst q27c14
noncomputable abbrev q27c16 : Code := Code.snd q27c14
noncomputable abbrev q27c17 : Code := Code.fst q27c15
noncomputable abbrev q27c18 : Code := Code.snd q27c15
noncomputable abbrev q27c19 : Code := Code.fst q27c18
noncomputable abbrev q27c20 : Code := Code.snd q27c18
noncomputable abbrev q27c21 : Code := Code.fst q27c16
noncomputable abbrev q27c22 : Code := Code.snd q27c16
noncomputable abbrev q27c23 : Code := Code.fst q27c21
noncomputable abbrev q27c24 : Code := Code.fst q27c23
noncomputable abbrev q27c25 : Code := Code.snd q27c23
noncomputable abbrev q27c26 : Code := Code.fst q27c25
noncomputable abbrev q27c27 : Code := Code.snd q27c25
noncomputable abbrev q27c28 : Code := Code.fst q27c26
noncomputable abbrev q27c29 : Code := Code.snd q27c26
noncomputable abbrev q27c30 : Code := Code.fst q27c10
noncomputable abbrev q27c31 : Code := Code.snd q27c10
noncomputable abbrev q27c32 : Code := Code.fst q27c7
noncomputable abbrev q27c33 : Code := Code.snd q27c7
abbrev trellislaw25_same_R (w : World) (F : Nat → Prop) (r : Bool) : Ending → World → Prop := fun e w' => e = .returned (.bool r) ∧ B.Loc w w' [] [St w []]
noncomputable abbrev trellislaw25_same_C (w : World) (F : Nat → Prop) (r : Bool) : Cx := ⟨Tryd.prog, 27, Tryd.f27, 26, trellislaw25_same_R w F  r, w⟩
theorem trellislaw25_same_calls (w : World) (F : Nat → Prop) (x1 : List api_JNode) (x6 : List api_JNode) (A2 : Option Addr) (n3 : Nat) (c4 : Nat) (A7 : Option Addr) (n8 : Nat) (c9 : Nat) (h5 : Rw k_api_JNode w (St w []).av A2 n3 c4 x1) (h10 : Rw k_api_JNode w (St w []).av A7 n8 c9 x6) (hF : ∀ b, F b → b < w.heap.size ∧ ∀ o ∈ ([] : List (List Nat)), b ∉ o) (hL0 : B.Loc w w [] [Sm w.heap.size F w [], St w []]) (r : Bool) (h : trellislaw25_same x1 x6 r) : Calls Tryd.prog 27 #[.slice A2 n3 c4, .slice A7 n8 c9] w (trellislaw25_same_R w F  r) := by
 unfold trellislaw25_same at h
 refine calls_of_Loc (vs := [.slice A2 n3 c4, .slice A7 n8 c9]) 26 Tryd.func27 rfl Tryd.ntmps27 rfl hL0 ?_
 show G (trellislaw25_same_C w F r) _ _ _ _
 refine g_seq (c := q27c0) rfl ?_
 refine g_region (c := q27c1) rfl rfl ?_
 refine wl_v 0 rfl (v_assign rfl) gn rfl ?_
 refine w_end 1 rfl ?_
 refine g_seq (c := q27c2) rfl ?_
 refine g_seq (c := q27c3) rfl ?_
 refine g_region (c := q27c5) rfl rfl ?_
 refine wl_v 0 rfl (v_move rfl) gn rfl ?_
 refine wl_v 1 rfl (v_lenQ un_22 rfl h5.hq) gn rfl ?_
 refine wl_v 2 rfl (v_move rfl) gn rfl ?_
 refine wl_v 3 rfl (v_lenQ un_22 rfl h10.hq) gn rfl ?_
 refine wl_v 4 rfl (v_bin rfl rfl rfl) gn rfl ?_
 refine w_end 5 rfl ?_
 by_cases hp11 : (x1.length : Int) = (x6.length : Int)
 ·have h := if_pos' hp11 h
  refine g_false (c := q27c6) rfl _ rfl ((eqib hp11)) ?_
  refine g_skip (c := q27c8) rfl ?_
  refine g_seq (c := q27c4) rfl ?_
  refine g_seq (c := q27c9) rfl ?_
  refine g_region (c := q27c11) rfl rfl ?_
  refine wl_v 0 rfl (v_assign rfl) gn rfl ?_
  refine w_end 1 rfl ?_
  refine g_block (c := q27c12) rfl ?_
  refine g_loop (c := q27c13) rfl ?_
  have key1 : ∀ s, Rounds (fun (s : Int) o => trellislaw25_same_b1 x1 x6 s o) s r → (fun (s : Int) => ∀ (_ : Unit), G (trellislaw25_same_C w F r) [.code q27c14, .inLoop q27c14, .inBlock 0, .code q27c10] [(0, .slice A2 n3 c4), (1, .slice A7 n8 c9), (5, .int .i64 s)] [] [Sm w.heap.size F w [], St w []]) s := by
   intro s hs
   refine Rounds.ind (mot := (fun (s : Int) => ∀ (_ : Unit), G (trellislaw25_same_C w F r) [.code q27c14, .inLoop q27c14, .inBlock 0, .code q27c10] [(0, .slice A2 n3 c4), (1, .slice A7 n8 c9), (5, .int .i64 s)] [] [Sm w.heap.size F w [], St w []])) ?_ hs
   clear hs s
   intro x23 o1 h hO1
   show ∀ (_ : Unit), G (trellislaw25_same_C w F r) [.code q27c14, .inLoop q27c14, .inBlock 0, .code q27c10] [(0, .slice A2 n3 c4), (1, .slice A7 n8 c9), (5, .int .i64 x23)] [] [Sm w.heap.size F w [], St w []]
   intro _
   have h : trellislaw25_same_b1 x1 x6 x23 o1 := h
   unfold trellislaw25_same_b1 at h
   refine g_seq (c := q27c14) rfl ?_
   refine g_seq (c := q27c15) rfl ?_
   refine g_region (c := q27c17) rfl rfl ?_
   refine wl_v 0 rfl (v_move rfl) gn rfl ?_
   refine wl_v 1 rfl (v_move rfl) gn rfl ?_
   refine wl_v 2 rfl (v_lenQ un_22 rfl h5.hq) gn rfl ?_
   refine wl_v 3 rfl (v_bin rfl rfl rfl) gn rfl ?_
   refine w_end 4 rfl ?_
   by_cases hp34 : x23 < (x1.length : Int)
   ·have h := if_pos' hp34 h
    refine g_true (c := q27c18) rfl _ rfl ((decide_eq_true hp34)) ?_
    refine g_skip (c := q27c19) rfl ?_
    refine g_seq (c := q27c16) rfl ?_
    refine g_block (c := q27c21) rfl ?_
    refine g_seq (c := q27c23) rfl ?_
    obtain ⟨hb35, h⟩ := h
    obtain ⟨hb37, h⟩ := h
    have hns : Region.noSelect (Code.ops q27c24) = true := by kernel_rfl
    refine g_drawF (c := q27c24) [] [Sm w.heap.size F w [], St w []] [] 9 rfl rfl mix rfl (.slnil) (sels [0, 1] rfl) ?_
    refine wfv 0 rfl (v_move rfl) gn hns rfl ?_
    refine wfv 1 rfl (v_move rfl) gn hns rfl ?_
    have hr41 := Rw.readF (s := St w []) (hl := hl_api_JNode) (h1 := h1_api_JNode) h5 hb35
    refine wfv 2 rfl (v_idxR (s := St w []) slE_22 rfl rfl h5 hb35) gn hns rfl ?_
    refine wfv 3 rfl (v_ldA (St w []) ld_31 rfl hr41 rfl (me 1 rfl)) gn hns rfl ?_
    refine wfv 4 rfl (v_move rfl) gn hns rfl ?_
    refine wfv 5 rfl (v_move rfl) gn hns rfl ?_
    have hr42 := Rw.readF (s := St w []) (hl := hl_api_JNode) (h1 := h1_api_JNode) h10 hb37
    refine wfv 6 rfl (v_idxR (s := St w []) slE_22 rfl rfl h10 hb37) gn hns rfl ?_
    refine wfv 7 rfl (v_ldA (St w []) ld_31 rfl hr42 rfl (me 1 rfl)) gn hns rfl ?_
    refine wfv 8 rfl (v_neSt eq_31 rfl rfl (eqd_api_JNode (ix x1 x23) (ix x6 x23))) gn hns rfl ?_
    refine wf_end (by kernel_rfl) ?_
    by_cases hp43 : ix x1 x23 = ix x6 x23
    ·have h := if_pos' hp43 h
     refine g_false (c := q27c25) rfl _ rfl ((nf (decide_eq_true hp43))) ?_
     refine g_skip (c := q27c27) rfl ?_
     refine g_inBlock ?_
     refine g_region (c := q27c22) rfl rfl ?_
     refine wl_v 0 rfl (v_move rfl) gn rfl ?_
     refine wl_v 1 rfl (v_bin rfl rfl rfl) gn rfl ?_
     refine wl_v 2 rfl (v_assign rfl) gn rfl ?_
     refine w_end 3 rfl ?_
     refine g_inLoop ?_
     have ih := Out.inl hO1 h
     exact g_go [0, 1] (ih ()) ⟨rfl, rfl, rfl, trivial⟩ (.slnil) rfl
    ·have h := if_neg' hp43 h
     refine g_true (c := q27c25) rfl _ rfl ((nt (decide_eq_false hp43))) ?_
     refine g_seq (c := q27c26) rfl ?_
     refine g_region (c := q27c28) rfl rfl ?_
     refine wl_v 0 rfl (v_assign rfl) gn rfl ?_
     refine w_end 1 rfl ?_
     have h := Out.inr hO1 h
     refine g_retR (c := q27c29) [.bool false] rfl Tryd.func27 rfl (.tmp rfl (.nil)) fun wr hLr => ?_
     have hMr : B.Loc w wr [] [St w []] := hLr.pick0 (sels [1] rfl)
     show trellislaw25_same_R w F  r (.returned (packV [.bool false])) wr
     rw [h]
     exact ⟨rfl, hMr⟩
   ·have h := if_neg' hp34 h
    refine g_false (c := q27c18) rfl _ rfl ((decide_eq_false hp34)) ?_
    refine g_exit (c := q27c20) [.code q27c10] rfl rfl ?_
    refine g_seq (c := q27c10) rfl ?_
    refine g_region (c := q27c30) rfl rfl ?_
    refine wl_v 0 rfl (v_assign rfl) gn rfl ?_
    refine w_end 1 rfl ?_
    have h := Out.inr hO1 h
    refine g_retR (c := q27c31) [.bool true] rfl Tryd.func27 rfl (.tmp rfl (.nil)) fun wr hLr => ?_
    have hMr : B.Loc w wr [] [St w []] := hLr.pick0 (sels [1] rfl)
    show trellislaw25_same_R w F  r (.returned (packV [.bool true])) wr
    rw [h]
    exact ⟨rfl, hMr⟩
  exact g_go [0, 1] (key1 _ h ()) ⟨rfl, rfl, rfl, trivial⟩ (.slnil) rfl
 ·have h := if_neg' hp11 h
  refine g_true (c := q27c6) rfl _ rfl ((neib hp11)) ?_
  refine g_seq (c := q27c7) rfl ?_
  refine g_region (c := q27c32) rfl rfl ?_
  refine wl_v 0 rfl (v_assign rfl) gn rfl ?_
  refine w_end 1 rfl ?_
  refine g_retR (c := q27c33) [.bool false] rfl Tryd.func27 rfl (.tmp rfl (.nil)) fun wr hLr => ?_
  have hMr : B.Loc w wr [] [St w []] := hLr.pick0 (sels [1] rfl)
  show trellislaw25_same_R w F  r (.returned (packV [.bool false])) wr
  rw [h]
  exact ⟨rfl, hMr⟩
noncomputable abbrev q19c0 : Code := bodyOf Tryd.f19
noncomputable abbrev q19c1 : Code := Code.fst q19c0
noncomputable abbrev q19c2 : Code := Code.snd q19c0
noncomputable abbrev q19c3 : Code := Code.fst q19c2
noncomputable abbrev q19c4 : Code := Code.snd q19c2
abbrev trellislaw25_spared_R (w : World) (F : Nat → Prop) (r : Bool) : Ending → World → Prop := fun e w' => e = .returned (.bool r) ∧ B.Loc w w' [] [St w []]
noncomputable abbrev trellislaw25_spared_C (w : World) (F : Nat → Prop) (r : Bool) : Cx := ⟨Tryd.prog, 19, Tryd.f19, 30, trellislaw25_spared_R w F  r, w⟩
theorem trellislaw25_spared_calls (w : World) (F : Nat → Prop) (x1 : List api_JNode) (x6 : List api_JNode) (A2 : Option Addr) (n3 : Nat) (c4 : Nat) (A7 : Option Addr) (n8 : Nat) (c9 : Nat) (h5 : Rw k_api_JNode w (St w []).av A2 n3 c4 x1) (h10 : Rw k_api_JNode w (St w []).av A7 n8 c9 x6) (hF : ∀ b, F b → b < w.heap.size ∧ ∀ o ∈ ([] : List (List Nat)), b ∉ o) (hL0 : B.Loc w w [] [Sm w.heap.size F w [], St w []]) (r : Bool) (h : trellislaw25_spared x1 x6 r) : Calls Tryd.prog 19 #[.slice A2 n3 c4, .slice A7 n8 c9] w (trellislaw25_spared_R w F  r) := by
 unfold trellislaw25_spared at h
 refine calls_of_Loc (vs := [.slice A2 n3 c4, .slice A7 n8 c9]) 30 Tryd.func19 rfl Tryd.ntmps19 rfl hL0 ?_
 show G (trellislaw25_spared_C w F r) _ _ _ _
 refine g_seq (c := q19c0) rfl ?_
 refine g_region (c := q19c1) rfl rfl ?_
 refine wl_v 0 rfl (v_assign rfl) gn rfl ?_
 refine w_end 1 rfl ?_
 refine g_seq (c := q19c2) rfl ?_
 refine g_region (c := q19c3) rfl rfl ?_
 refine wl_v 0 rfl (v_move rfl) gn rfl ?_
 refine wl_v 1 rfl (v_move rfl) gn rfl ?_
 refine wl_v 2 rfl (v_lenQ un_22 rfl h10.hq) gn rfl ?_
 obtain ⟨hb11, h⟩ := h
 have h12 := Rw.cutHi (hv := (x6.length : Int)) h5 (by have q := hb11; have q1 := h5.hq; have q2 := h5.hn; omega)
 refine wl_v 3 rfl (v_cutHi (i := (x6.length : Int)) slE_22 rfl rfl (by have q := hb11; have q1 := h5.hq; have q2 := h5.hn; omega) h5.hn rfl) gn rfl ?_
 refine wl_v 4 rfl (v_move rfl) gn rfl ?_
 obtain ⟨r16, hv17, h⟩ := h
 refine wl_s 5 rfl (s_call [.slice A2 (((x6.length : Int) : Int).toNat) c4, .slice A7 n8 c9] rfl Tryd.func27 rfl rfl rfl fun w13 hL14 => ?_) gn
 have hp15 : List.Perm ([] : List Ent) (([] : List Ent) ++ ([] : List Ent)) := perm_of_idx [] [] rfl rfl (by kernel_rfl)
 refine Calls.mono (trellislaw25_same_calls w13 (Fl ([] : List Snap)) (x1.take ((x6.length : Int) : Int).toNat) x6 A2 (((x6.length : Int) : Int).toNat) c4 A7 n8 c9 (Rw.mono h12 (hL14.toSt hp15 (me 1 rfl))) (Rw.mono h10 (hL14.toSt hp15 (me 1 rfl))) (hL14.hFl (Sl := ([] : List Snap)) hp15 (sels [] rfl)) (hL14.into hp15 (Fl ([] : List Snap))) r16 hv17) ?_
 rintro _ w18 ⟨rfl, hM19⟩
 have hL20 := hL14.call hp15 hM19
 refine ⟨_, _, _, rfl, hL20, ?_⟩
 refine wl_v 6 rfl (v_move rfl) gn rfl ?_
 by_cases hp21 : r16 = true
 ·have h := if_pos' hp21 h
  refine w_bool 11 rfl (hp21) ?_
  refine wl_v 7 rfl (v_move rfl) (gy 11 rfl rfl) rfl ?_
  refine wl_v 8 rfl (v_move rfl) (gy 11 rfl rfl) rfl ?_
  refine wl_v 9 rfl (v_lenQ un_22 rfl h10.hq) (gy 11 rfl rfl) rfl ?_
  obtain ⟨hb22, h⟩ := h
  have hr23 := Rw.readF (s := St w []) (hl := hl_api_JNode) (h1 := h1_api_JNode) h5 hb22
  refine wl_v 10 rfl (v_idxR (s := St w []) slE_22 rfl rfl h5 hb22) (gy 11 rfl rfl) rfl ?_
  refine wl_v 11 rfl (v_ldA (St w []) ld_31 rfl hr23 rfl (me 1 rfl)) (gy 11 rfl rfl) rfl ?_
  refine wl_v 12 rfl (v_build #[.int .i64 0, .string (⟨#[109, 97, 114, 107]⟩ : ByteArray), .string (⟨#[]⟩ : ByteArray), .int .i64 0] bd_31 rfl (by kernel_rfl)) (gy 11 rfl rfl) rfl ?_
  refine wl_v 13 rfl (v_eqSt eq_31 rfl rfl (eqd_api_JNode (ix x1 (x6.length : Int)) (⟨0, (⟨#[109, 97, 114, 107]⟩ : ByteArray), (⟨#[]⟩ : ByteArray), 0⟩ : api_JNode))) (gy 11 rfl rfl) rfl ?_
  refine wl_v 14 rfl (v_pick (b := true) rfl rfl) gn rfl ?_
  refine wl_v 15 rfl (v_move rfl) gn rfl ?_
  by_cases hp24 : ix x1 (x6.length : Int) = (⟨0, (⟨#[109, 97, 114, 107]⟩ : ByteArray), (⟨#[]⟩ : ByteArray), 0⟩ : api_JNode)
  ·have h := if_pos' hp24 h
   refine w_bool 20 rfl ((decide_eq_true hp24)) ?_
   refine wl_v 16 rfl (v_move rfl) (gy 20 rfl rfl) rfl ?_
   refine wl_v 17 rfl (v_move rfl) (gy 20 rfl rfl) rfl ?_
   refine wl_v 18 rfl (v_lenQ un_22 rfl h10.hq) (gy 20 rfl rfl) rfl ?_
   refine wl_v 19 rfl (v_bin rfl rfl rfl) (gy 20 rfl rfl) rfl ?_
   obtain ⟨hb25, h⟩ := h
   have hr26 := Rw.readF (s := St w []) (hl := hl_api_JNode) (h1 := h1_api_JNode) h5 hb25
   refine wl_v 20 rfl (v_idxR (s := St w []) slE_22 rfl rfl h5 hb25) (gy 20 rfl rfl) rfl ?_
   refine wl_v 21 rfl (v_ldA (St w []) ld_31 rfl hr26 rfl (me 1 rfl)) (gy 20 rfl rfl) rfl ?_
   refine wl_v 22 rfl (v_build #[.int .i64 0, .string (⟨#[109, 97, 114, 107]⟩ : ByteArray), .string (⟨#[]⟩ : ByteArray), .int .i64 0] bd_31 rfl (by kernel_rfl)) (gy 20 rfl rfl) rfl ?_
   refine wl_v 23 rfl (v_eqSt eq_31 rfl rfl (eqd_api_JNode (ix x1 (w64 ((x6.length : Int) + 1))) (⟨0, (⟨#[109, 97, 114, 107]⟩ : ByteArray), (⟨#[]⟩ : ByteArray), 0⟩ : api_JNode))) (gy 20 rfl rfl) rfl ?_
   refine wl_v 24 rfl (v_pick (b := true) rfl rfl) gn rfl ?_
   refine wl_v 25 rfl (v_assign rfl) gn rfl ?_
   refine w_end 26 rfl ?_
   refine g_retR (c := q19c4) [.bool (decide (ix x1 (w64 ((x6.length : Int) + 1)) = (⟨0, (⟨#[109, 97, 114, 107]⟩ : ByteArray), (⟨#[]⟩ : ByteArray), 0⟩ : api_JNode)))] rfl Tryd.func19 rfl (.tmp rfl (.nil)) fun wr hLr => ?_
   have hMr : B.Loc w wr [] [St w []] := hLr.pick0 (sels [1] rfl)
   show trellislaw25_spared_R w F  r (.returned (packV [.bool (decide (ix x1 (w64 ((x6.length : Int) + 1)) = (⟨0, (⟨#[109, 97, 114, 107]⟩ : ByteArray), (⟨#[]⟩ : ByteArray), 0⟩ : api_JNode)))])) wr
   rw [h]
   exact ⟨rfl, hMr⟩
  ·have h := if_neg' hp24 h
   refine w_bool 20 rfl ((decide_eq_false hp24)) ?_
   refine wl_pass 16 rfl (ps 20 rfl rfl rfl) ?_
   refine wl_pass 17 rfl (ps 20 rfl rfl rfl) ?_
   refine wl_pass 18 rfl (ps 20 rfl rfl rfl) ?_
   refine wl_pass 19 rfl (ps 20 rfl rfl rfl) ?_
   refine wl_pass 20 rfl (ps 20 rfl rfl rfl) ?_
   refine wl_pass 21 rfl (ps 20 rfl rfl rfl) ?_
   refine wl_pass 22 rfl (ps 20 rfl rfl rfl) ?_
   refine wl_pass 23 rfl (ps 20 rfl rfl rfl) ?_
   refine wl_v 24 rfl (v_pick (b := false) rfl rfl) gn rfl ?_
   refine wl_v 25 rfl (v_assign rfl) gn rfl ?_
   refine w_end 26 rfl ?_
   refine g_retR (c := q19c4) [.bool false] rfl Tryd.func19 rfl (.tmp rfl (.nil)) fun wr hLr => ?_
   have hMr : B.Loc w wr [] [St w []] := hLr.pick0 (sels [1] rfl)
   show trellislaw25_spared_R w F  r (.returned (packV [.bool false])) wr
   rw [h]
   exact ⟨rfl, hMr⟩
 ·have h := if_neg' hp21 h
  refine w_bool 11 rfl ((bf hp21)) ?_
  refine wl_pass 7 rfl (ps 11 rfl rfl rfl) ?_
  refine wl_pass 8 rfl (ps 11 rfl rfl rfl) ?_
  refine wl_pass 9 rfl (ps 11 rfl rfl rfl) ?_
  refine wl_pass 10 rfl (ps 11 rfl rfl rfl) ?_
  refine wl_pass 11 rfl (ps 11 rfl rfl rfl) ?_
  refine wl_pass 12 rfl (ps 11 rfl rfl rfl) ?_
  refine wl_pass 13 rfl (ps 11 rfl rfl rfl) ?_
  refine wl_v 14 rfl (v_pick (b := false) rfl rfl) gn rfl ?_
  refine wl_v 15 rfl (v_move rfl) gn rfl ?_
  refine wl_pass 16 rfl (ps 20 rfl rfl rfl) ?_
  refine wl_pass 17 rfl (ps 20 rfl rfl rfl) ?_
  refine wl_pass 18 rfl (ps 20 rfl rfl rfl) ?_
  refine wl_pass 19 rfl (ps 20 rfl rfl rfl) ?_
  refine wl_pass 20 rfl (ps 20 rfl rfl rfl) ?_
  refine wl_pass 21 rfl (ps 20 rfl rfl rfl) ?_
  refine wl_pass 22 rfl (ps 20 rfl rfl rfl) ?_
  refine wl_pass 23 rfl (ps 20 rfl rfl rfl) ?_
  refine wl_v 24 rfl (v_pick (b := false) rfl rfl) gn rfl ?_
  refine wl_v 25 rfl (v_assign rfl) gn rfl ?_
  refine w_end 26 rfl ?_
  refine g_retR (c := q19c4) [.bool false] rfl Tryd.func19 rfl (.tmp rfl (.nil)) fun wr hLr => ?_
  have hMr : B.Loc w wr [] [St w []] := hLr.pick0 (sels [1] rfl)
  show trellislaw25_spared_R w F  r (.returned (packV [.bool false])) wr
  rw [h]
  exact ⟨rfl, hMr⟩
end Go.Proofs.YtmfopcbjgbphaaaDoor.K
