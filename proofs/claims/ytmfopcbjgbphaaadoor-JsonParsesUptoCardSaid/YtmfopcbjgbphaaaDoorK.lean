/- What the machine's calls do, function by function, printed by my own tool. Condition of each: its relation holds of the answer, and what is handed in lies in memory as told. -/
import Derived.Test.YtmfopcbjgbphaaaDoorK4
set_option linter.unusedVariables false
set_option maxRecDepth 100000
set_option maxHeartbeats 4000000
namespace Go.Proofs.YtmfopcbjgbphaaaDoor.K
open Go.Proofs.YtmfopcbjgbphaaaDoor.B Go.Proofs.YtmfopcbjgbphaaaDoor.R Go.RowKit
noncomputable abbrev q63c0 : Code := bodyOf Tryd.f63
noncomputable abbrev q63c1 : Code := Code.fst q63c0
noncomputable abbrev q63c2 : Code := Code.snd q63c0
noncomputable abbrev q63c3 : Code := Code.fst q63c2
noncomputable abbrev q63c4 : Code := Code.snd q63c2
noncomputable abbrev q63c5 : Code := Code.fst q63c4
noncomputable abbrev q63c6 : Code := Code.snd q63c4
noncomputable abbrev q63c7 : Code := Code.fst q63c5
noncomputable abbrev q63c8 : Code := Code.snd q63c5
noncomputable abbrev q63c9 : Code := Code.fst q63c8
noncomputable abbrev q63c10 : Code := Code.snd q63c8
noncomputable abbrev q63c11 : Code := Code.fst q63c6
noncomputable abbrev q63c12 : Code := Code.snd q63c6
noncomputable abbrev q63c13 : Code := Code.fst q63c12
noncomputable abbrev q63c14 : Code := Code.snd q63c12
noncomputable abbrev q63c15 : Code := Code.fst q63c13
noncomputable abbrev q63c16 : Code := Code.snd q63c13
noncomputable abbrev q63c17 : Code := Code.fst q63c16
noncomputable abbrev q63c18 : Code := Code.snd q63c16
noncomputable abbrev q63c19 : Code := Code.fst q63c17
noncomputable abbrev q63c20 : Code := Code.snd q63c17
noncomputable abbrev q63c21 : Code := Code.fst q63c14
noncomputable abbrev q63c22 : Code := Code.snd q63c14
noncomputable abbrev q63c23 : Code := Code.fst q63c22
noncomputable abbrev q63c24 : Code := Code.snd q63c22
noncomputable abbrev q63c25 : Code := Code.fst q63c24
noncomputable abbrev q63c26 : Code := Code.snd q63c24
noncomputable abbrev q63c27 : Code := Code.fst q63c25
noncomputable abbrev q63c28 : Code := Code.fst q63c27
noncomputable abbrev q63c29 : Code := Code.fst q63c28
noncomputable abbrev q63c30 : Code := Code.snd q63c28
noncomputable abbrev q63c31 : Code := Code.fst q63c29
noncomputable abbrev q63c32 : Code := Code.snd q63c29
noncomputable abbrev q63c33 : Code := Code.fst q63c32
noncomputable abbrev q63c34 : Code := Code.snd q63c32
noncomputable abbrev q63c35 : Code := Code.fst q63c30
noncomputable abbrev q63c36 : Code := Code.fst q63c35
noncomputable abbrev q63c37 : Code := Code.snd q63c35
noncomputable abbrev q63c38 : Code := Code.fst q63c37
noncomputable abbrev q63c39 : Code := Code.snd q63c37
noncomputable abbrev q63c40 : Code := Code.fst q63c38
noncomputable abbrev q63c41 : Code := Code.snd q63c38
noncomputable abbrev q63c42 : Code := Code.fst q63c41
noncomputable abbrev q63c43 : Code := Code.snd q63c41
noncomputable abbrev q63c44 : Code := Code.fst q63c42
noncomputable abbrev q63c45 : Code := Code.snd q63c42
noncomputable abbrev q63c46 : Code := Code.fst q63c39
noncomputable abbrev q63c47 : Code := Code.snd q63c39
noncomputable abbrev q63c48 : Code := Code.fst q63c46
noncomputable abbrev q63c49 : Code := Code.snd q63c46
noncomputable abbrev q63c50 : Code := Code.fst q63c49
noncomputable abbrev q63c51 : Code := Code.snd q63c49
noncomputable abbrev q63c52 : Code := Code.fst q63c47
noncomputable abbrev q63c53 : Code := Code.snd q63c47
noncomputable abbrev q63c54 : Code := Code.fst q63c53
noncomputable abbrev q63c55 : Code := Code.snd q63c53
noncomputable abbrev q63c56 : Code := Code.fst q63c55
noncomputable abbrev q63c57 : Code := Code.snd q63c55
noncomputable abbrev q63c58 : Code := Code.fst q63c56
noncomputable abbrev q63c59 : Code := Code.snd q63c56
noncomputable abbrev q63c60 : Code := Code.fst q63c59
noncomputable abbrev q63c61 : Code := Code.snd q63c59
noncomputable abbrev q63c62 : Code := Code.fst q63c60
noncomputable abbrev q63c63 : Code := Code.snd q63c60
noncomputable abbrev q63c64 : Code := Code.fst q63c57
noncomputable abbrev q63c65 : Code := Code.snd q63c57
noncomputable abbrev q63c66 : Code := Code.fst q63c26
noncomputable abbrev q63c67 : Code := Code.snd q63c26
abbrev trellisref25_Reader_all_R (w : World) (F : Nat → Prop) (g2 : Nat) (Tb3 : Nat) (A4 : Option Addr) (n5 : Nat) (c6 : Nat) (z8 : Nat) (r : Int × Int × trellisref25_Reader) : Ending → World → Prop := fun e w' => ∃ A0 : Option Addr, ∃ n0 : Nat, ∃ c0 : Nat, e = .returned (.tuple #[.int .i64 r.1, .int .i64 r.2.1]) ∧ B.Loc w w' [.box g2 Tb3 [.string r.2.2.s, .slice A0 n0 c0, .int .i64 r.2.2.e, .int .i64 r.2.2.at_], .own (.slice A0 n0 c0) 31 4 n0 (r.2.2.l.flatMap enc_api_JNode)] [St w [[g2], (Value.slice A4 n5 c6).ownBlock.toList]] ∧ Ow z8 A0 n0 c0 r.2.2.l
noncomputable abbrev trellisref25_Reader_all_C (w : World) (F : Nat → Prop) (g2 : Nat) (Tb3 : Nat) (A4 : Option Addr) (n5 : Nat) (c6 : Nat) (z8 : Nat) (r : Int × Int × trellisref25_Reader) : Cx := ⟨Tryd.prog, 63, Tryd.f63, 81, trellisref25_Reader_all_R w F g2 Tb3 A4 n5 c6 z8 r, w⟩
def trellisref25_Reader_all_st (rl : trellisref25_Reader → Int → Int → Int → (Int × Int × trellisref25_Reader) → Prop) : Prop := ∀ (w : World) (F : Nat → Prop) (x1 : trellisref25_Reader) (x10 : Int) (x11 : Int) (x12 : Int) (g2 : Nat) (Tb3 : Nat) (z8 : Nat) (A4 : Option Addr) (n5 : Nat) (c6 : Nat) (hz9 : z8 ≤ w.heap.size) (h7 : Ow z8 A4 n5 c6 x1.l) (hF : ∀ b, F b → b < w.heap.size ∧ ∀ o ∈ ([[g2], (Value.slice A4 n5 c6).ownBlock.toList] : List (List Nat)), b ∉ o) (hL0 : B.Loc w w [.box g2 Tb3 [.string x1.s, .slice A4 n5 c6, .int .i64 x1.e, .int .i64 x1.at_], .own (.slice A4 n5 c6) 31 4 n5 (x1.l.flatMap enc_api_JNode)] [Sm w.heap.size F w [[g2], (Value.slice A4 n5 c6).ownBlock.toList], St w [[g2], (Value.slice A4 n5 c6).ownBlock.toList]]) (r : Int × Int × trellisref25_Reader) (h : rl x1 x10 x11 x12 r), Calls Tryd.prog 63 #[.pointer (some ⟨g2, 0, none⟩), .int .i64 x10, .int .i64 x11, .int .i64 x12] w (trellisref25_Reader_all_R w F g2 Tb3 A4 n5 c6 z8 r)
noncomputable abbrev q46c0 : Code := bodyOf Tryd.f46
noncomputable abbrev q46c1 : Code := Code.fst q46c0
noncomputable abbrev q46c2 : Code := Code.snd q46c0
noncomputable abbrev q46c3 : Code := Code.fst q46c2
noncomputable abbrev q46c4 : Code := Code.snd q46c2
noncomputable abbrev q46c5 : Code := Code.fst q46c4
noncomputable abbrev q46c6 : Code := Code.snd q46c4
noncomputable abbrev q46c7 : Code := Code.fst q46c6
noncomputable abbrev q46c8 : Code := Code.snd q46c6
noncomputable abbrev q46c9 : Code := Code.fst q46c8
noncomputable abbrev q46c10 : Code := Code.snd q46c8
noncomputable abbrev q46c11 : Code := Code.fst q46c10
noncomputable abbrev q46c12 : Code := Code.snd q46c10
noncomputable abbrev q46c13 : Code := Code.fst q46c11
noncomputable abbrev q46c14 : Code := Code.fst q46c13
noncomputable abbrev q46c15 : Code := Code.snd q46c13
noncomputable abbrev q46c16 : Code := Code.fst q46c15
noncomputable abbrev q46c17 : Code := Code.snd q46c15
noncomputable abbrev q46c18 : Code := Code.fst q46c16
noncomputable abbrev q46c19 : Code := Code.snd q46c16
noncomputable abbrev q46c20 : Code := Code.fst q46c17
noncomputable abbrev q46c21 : Code := Code.snd q46c17
noncomputable abbrev q46c22 : Code := Code.fst q46c21
noncomputable abbrev q46c23 : Code := Code.snd q46c21
noncomputable abbrev q46c24 : Code := Code.fst q46c22
noncomputable abbrev q46c25 : Code := Code.snd q46c22
noncomputable abbrev q46c26 : Code := Code.fst q46c23
noncomputable abbrev q46c27 : Code := Code.snd q46c23
noncomputable abbrev q46c28 : Code := Code.fst q46c27
noncomputable abbrev q46c29 : Code := Code.snd q46c27
noncomputable abbrev q46c30 : Code := Code.fst q46c28
noncomputable abbrev q46c31 : Code := Code.snd q46c28
noncomputable abbrev q46c32 : Code := Code.fst q46c29
noncomputable abbrev q46c33 : Code := Code.snd q46c29
noncomputable abbrev q46c34 : Code := Code.fst q46c33
noncomputable abbrev q46c35 : Code := Code.snd q46c33
noncomputable abbrev q46c36 : Code := Code.fst q46c34
noncomputable abbrev q46c37 : Code := Code.snd q46c34
noncomputable abbrev q46c38 : Code := Code.fst q46c35
noncomputable abbrev q46c39 : Code := Code.snd q46c35
noncomputable abbrev q46c40 : Code := Code.fst q46c39
noncomputable abbrev q46c41 : Code := Code.snd q46c39
noncomputable abbrev q46c42 : Code := Code.fst q46c40
noncomputable abbrev q46c43 : Code := Code.snd q46c40
noncomputable abbrev q46c44 : Code := Code.fst q46c43
noncomputable abbrev q46c45 : Code := Code.snd q46c43
noncomputable abbrev q46c46 : Code := Code.fst q46c44
noncomputable abbrev q46c47 : Code := Code.snd q46c44
noncomputable abbrev q46c48 : Code := Code.fst q46c47
noncomputable abbrev q46c49 : Code := Code.snd q46c47
noncomputable abbrev q46c50 : Code := Code.fst q46c45
noncomputable abbrev q46c51 : Code := Code.snd q46c45
noncomputable abbrev q46c52 : Code := Code.fst q46c50
noncomputable abbrev q46c53 : Code := Code.snd q46c50
noncomputable abbrev q46c54 : Code := Code.fst q46c53
noncomputable abbrev q46c55 : Code := Code.snd q46c53
noncomputable abbrev q46c56 : Code := Code.fst q46c54
noncomputable abbrev q46c57 : Code := Code.snd q46c54
noncomputable abbrev q46c58 : Code := Code.fst q46c41
noncomputable abbrev q46c59 : Code := Code.snd q46c41
noncomputable abbrev q46c60 : Code := Code.fst q46c59
noncomputable abbrev q46c61 : Code := Code.snd q46c59
noncomputable abbrev q46c62 : Code := Code.fst q46c61
noncomputable abbrev q46c63 : Code := Code.snd q46c61
noncomputable abbrev q46c64 : Code := Code.fst q46c63
noncomputable abbrev q46c65 : Code := Code.snd q46c63
noncomputable abbrev q46c66 : Code := Code.fst q46c12
noncomputable abbrev q46c67 : Code := Code.snd q46c12
noncomputable abbrev q46c68 : Code := Code.fst q46c67
noncomputable abbrev q46c69 : Code := Code.snd q46c67
abbrev trellisref25_Reader_value_R (w : World) (F : Nat → Prop) (g2 : Nat) (Tb3 : Nat) (A4 : Option Addr) (n5 : Nat) (c6 : Nat) (z8 : Nat) (r : Int × trellisref25_Reader) : Ending → World → Prop := fun e w' => ∃ A0 : Option Addr, ∃ n0 : Nat, ∃ c0 : Nat, e = .returned (.int .i64 r.1) ∧ B.Loc w w' [.box g2 Tb3 [.string r.2.s, .slice A0 n0 c0, .int .i64 r.2.e, .int .i64 r.2.at_], .own (.slice A0 n0 c0) 31 4 n0 (r.2.l.flatMap enc_api_JNode)] [St w [[g2], (Value.slice A4 n5 c6).ownBlock.toList]] ∧ Ow z8 A0 n0 c0 r.2.l
noncomputable abbrev trellisref25_Reader_value_C (w : World) (F : Nat → Prop) (g2 : Nat) (Tb3 : Nat) (A4 : Option Addr) (n5 : Nat) (c6 : Nat) (z8 : Nat) (r : Int × trellisref25_Reader) : Cx := ⟨Tryd.prog, 46, Tryd.f46, 120, trellisref25_Reader_value_R w F g2 Tb3 A4 n5 c6 z8 r, w⟩
def trellisref25_Reader_value_st (rl : trellisref25_Reader → Int → ByteArray → Int → (Int × trellisref25_Reader) → Prop) : Prop := ∀ (w : World) (F : Nat → Prop) (x1 : trellisref25_Reader) (x10 : Int) (x11 : ByteArray) (x12 : Int) (g2 : Nat) (Tb3 : Nat) (z8 : Nat) (A4 : Option Addr) (n5 : Nat) (c6 : Nat) (hz9 : z8 ≤ w.heap.size) (h7 : Ow z8 A4 n5 c6 x1.l) (hF : ∀ b, F b → b < w.heap.size ∧ ∀ o ∈ ([[g2], (Value.slice A4 n5 c6).ownBlock.toList] : List (List Nat)), b ∉ o) (hL0 : B.Loc w w [.box g2 Tb3 [.string x1.s, .slice A4 n5 c6, .int .i64 x1.e, .int .i64 x1.at_], .own (.slice A4 n5 c6) 31 4 n5 (x1.l.flatMap enc_api_JNode)] [Sm w.heap.size F w [[g2], (Value.slice A4 n5 c6).ownBlock.toList], St w [[g2], (Value.slice A4 n5 c6).ownBlock.toList]]) (r : Int × trellisref25_Reader) (h : rl x1 x10 x11 x12 r), Calls Tryd.prog 46 #[.pointer (some ⟨g2, 0, none⟩), .int .i64 x10, .string x11, .int .i64 x12] w (trellisref25_Reader_value_R w F g2 Tb3 A4 n5 c6 z8 r)
theorem trellisref25_Reader_all_step (rc_trellisref25_Reader_all : trellisref25_Reader → Int → Int → Int → (Int × Int × trellisref25_Reader) → Prop) (rc_trellisref25_Reader_value : trellisref25_Reader → Int → ByteArray → Int → (Int × trellisref25_Reader) → Prop) (ih_trellisref25_Reader_all : trellisref25_Reader_all_st rc_trellisref25_Reader_all) (ih_trellisref25_Reader_value : trellisref25_Reader_value_st rc_trellisref25_Reader_value) : trellisref25_Reader_all_st (trellisref25_Reader_all_body rc_trellisref25_Reader_all rc_trellisref25_Reader_value) := by
 intro w F x1 x10 x11 x12 g2 Tb3 z8 A4 n5 c6 hz9 h7 hF hL0 r h
 unfold trellisref25_Reader_all_body at h
 refine calls_of_Loc (vs := [.pointer (some ⟨g2, 0, none⟩), .int .i64 x10, .int .i64 x11, .int .i64 x12]) 81 Tryd.func63 rfl Tryd.ntmps63 rfl hL0 ?_
 show G (trellisref25_Reader_all_C w F g2 Tb3 A4 n5 c6 z8 r) _ _ _ _
 refine g_seq (c := q63c0) rfl ?_
 refine g_region (c := q63c1) rfl rfl ?_
 refine wl_v 0 rfl (v_assign rfl) gn rfl ?_
 refine wl_v 1 rfl (v_assign rfl) gn rfl ?_
 refine w_end 2 rfl ?_
 refine g_seq (c := q63c2) rfl ?_
 refine g_region (c := q63c3) rfl rfl ?_
 refine wl_v 0 rfl (v_assign rfl) gn rfl ?_
 refine w_end 1 rfl ?_
 refine g_seq (c := q63c4) rfl ?_
 refine g_seq (c := q63c5) rfl ?_
 refine g_region (c := q63c7) rfl rfl ?_
 refine wl_v 0 rfl (v_move rfl) gn rfl ?_
 refine wl_v 1 rfl (v_bin rfl rfl rfl) gn rfl ?_
 refine w_end 2 rfl ?_
 have j1 : ∀ (x15 : ByteArray) (h : trellisref25_Reader_all_j1 x1 x10 x11 rc_trellisref25_Reader_value x12 x15 r) , G (trellisref25_Reader_all_C w F g2 Tb3 A4 n5 c6 z8 r) [.code q63c6] [(0, .pointer (some ⟨g2, 0, none⟩)), (1, .int .i64 x10), (2, .int .i64 x11), (3, .int .i64 x12), (10, .string x15)] [.box g2 Tb3 [.string x1.s, .slice A4 n5 c6, .int .i64 x1.e, .int .i64 x1.at_], .own (.slice A4 n5 c6) 31 4 n5 (x1.l.flatMap enc_api_JNode)] [Sm w.heap.size F w [[g2], (Value.slice A4 n5 c6).ownBlock.toList], St w [[g2], (Value.slice A4 n5 c6).ownBlock.toList]] := by
  intro x15 h
  unfold trellisref25_Reader_all_j1 at h
  refine g_seq (c := q63c6) rfl ?_
  refine g_region (c := q63c11) rfl rfl ?_
  refine wl_v 0 rfl (v_move rfl) gn rfl ?_
  refine wl_v 1 rfl (v_move rfl) gn rfl ?_
  refine wl_v 2 rfl (v_bin rfl rfl rfl) gn rfl ?_
  obtain ⟨r19, hv20, h⟩ := h
  refine wl_s 3 rfl (s_call [.pointer (some ⟨g2, 0, none⟩), .int .i64 (w64 (x10 + 1)), .string (⟨#[32, 9, 10, 13]⟩ : ByteArray)] rfl Tryd.func45 rfl rfl rfl fun w16 hL17 => ?_) gn
  have hp18 : List.Perm ([.box g2 Tb3 [.string x1.s, .slice A4 n5 c6, .int .i64 x1.e, .int .i64 x1.at_], .own (.slice A4 n5 c6) 31 4 n5 (x1.l.flatMap enc_api_JNode)] : List Ent) (([.box g2 Tb3 [.string x1.s, .slice A4 n5 c6, .int .i64 x1.e, .int .i64 x1.at_], .own (.slice A4 n5 c6) 31 4 n5 (x1.l.flatMap enc_api_JNode)] : List Ent) ++ ([] : List Ent)) := perm_of_idx [0, 1] [] rfl rfl (by kernel_rfl)
  refine Calls.mono (trellisref25_Reader_skip_calls w16 (Fl ([] : List Snap)) x1 (w64 (x10 + 1)) (⟨#[32, 9, 10, 13]⟩ : ByteArray) g2 Tb3 z8 A4 n5 c6 (Nat.le_trans hz9 hL17.env.size) h7 (hL17.hFl (Sl := ([] : List Snap)) hp18 (sels [] rfl)) (hL17.into hp18 (Fl ([] : List Snap))) r19 hv20) ?_
  rintro _ w26 ⟨A21, n22, c23, rfl, hM27, h24⟩
  have hL28 := hL17.call hp18 hM27
  refine ⟨_, _, _, rfl, hL28, ?_⟩
  refine wl_v 4 rfl (v_assign rfl) gn rfl ?_
  refine w_end 5 rfl ?_
  refine g_seq (c := q63c12) rfl ?_
  refine g_seq (c := q63c13) rfl ?_
  refine g_region (c := q63c15) rfl rfl ?_
  refine wl_v 0 rfl (v_move rfl) gn rfl ?_
  refine wl_v 1 rfl (v_move rfl) gn rfl ?_
  refine wl_v 2 rfl (v_move rfl) gn rfl ?_
  obtain ⟨r32, hv33, h⟩ := h
  refine wl_s 3 rfl (s_call [.pointer (some ⟨g2, 0, none⟩), .int .i64 r19.1, .string x15] rfl Tryd.func60 rfl rfl rfl fun w29 hL30 => ?_) gn
  have hp31 : List.Perm ([.box g2 Tb3 [.string r19.2.s, .slice A21 n22 c23, .int .i64 r19.2.e, .int .i64 r19.2.at_], .own (.slice A21 n22 c23) 31 4 n22 (r19.2.l.flatMap enc_api_JNode)] : List Ent) (([.box g2 Tb3 [.string r19.2.s, .slice A21 n22 c23, .int .i64 r19.2.e, .int .i64 r19.2.at_], .own (.slice A21 n22 c23) 31 4 n22 (r19.2.l.flatMap enc_api_JNode)] : List Ent) ++ ([] : List Ent)) := perm_of_idx [0, 1] [] rfl rfl (by kernel_rfl)
  refine Calls.mono (trellisref25_Reader_has_calls w29 (Fl ([] : List Snap)) r19.2 r19.1 x15 g2 Tb3 z8 A21 n22 c23 (Nat.le_trans hz9 hL30.env.size) h24 (hL30.hFl (Sl := ([] : List Snap)) hp31 (sels [] rfl)) (hL30.into hp31 (Fl ([] : List Snap))) r32 hv33) ?_
  rintro _ w39 ⟨A34, n35, c36, rfl, hM40, h37⟩
  have hL41 := hL30.call hp31 hM40
  refine ⟨_, _, _, rfl, hL41, ?_⟩
  refine w_end 4 rfl ?_
  by_cases hp42 : r32.1 = true
  ·have h := if_pos' hp42 h
   refine g_true (c := q63c16) rfl _ rfl (hp42) ?_
   refine g_seq (c := q63c17) rfl ?_
   refine g_region (c := q63c19) rfl rfl ?_
   refine wl_v 0 rfl (v_move rfl) gn rfl ?_
   refine wl_v 1 rfl (v_bin rfl rfl rfl) gn rfl ?_
   refine wl_v 2 rfl (v_assign rfl) gn rfl ?_
   refine wl_v 3 rfl (v_assign rfl) gn rfl ?_
   refine w_end 4 rfl ?_
   refine g_retR (c := q63c20) [.int .i64 0, .int .i64 (w64 (r19.1 + 1))] rfl Tryd.func63 rfl (.tmp rfl (.tmp rfl (.nil))) fun wr hLr => ?_
   have hMr : B.Loc w wr [.box g2 Tb3 [.string r32.2.s, .slice A34 n35 c36, .int .i64 r32.2.e, .int .i64 r32.2.at_], .own (.slice A34 n35 c36) 31 4 n35 (r32.2.l.flatMap enc_api_JNode)] [St w [[g2], (Value.slice A4 n5 c6).ownBlock.toList]] := hLr.pick (rest := []) (perm_of_idx [0, 1] [] rfl rfl (by kernel_rfl)) (sels [1] rfl)
   show trellisref25_Reader_all_R w F g2 Tb3 A4 n5 c6 z8 r (.returned (packV [.int .i64 0, .int .i64 (w64 (r19.1 + 1))])) wr
   rw [h]
   exact ⟨A34, n35, c36, rfl, hMr, h37⟩
  ·have h := if_neg' hp42 h
   refine g_false (c := q63c16) rfl _ rfl ((bf hp42)) ?_
   refine g_skip (c := q63c18) rfl ?_
   refine g_seq (c := q63c14) rfl ?_
   refine g_region (c := q63c21) rfl rfl ?_
   refine wl_v 0 rfl (v_assign rfl) gn rfl ?_
   refine w_end 1 rfl ?_
   refine g_seq (c := q63c22) rfl ?_
   refine g_region (c := q63c23) rfl rfl ?_
   refine wl_v 0 rfl (v_assign rfl) gn rfl ?_
   refine w_end 1 rfl ?_
   refine g_seq (c := q63c24) rfl ?_
   refine g_block (c := q63c25) rfl ?_
   refine g_loop (c := q63c27) rfl ?_
   have key2 : ∀ s, Rounds (fun (s : Int × (List ByteArray) × Int × ByteArray × (List api_JNode) × Int × Int) o => trellisref25_Reader_all_b2 x11 rc_trellisref25_Reader_value x12 x15 s.1 s.2.1 s.2.2.1 s.2.2.2.1 s.2.2.2.2.1 s.2.2.2.2.2.1 s.2.2.2.2.2.2 o) s r → (fun (s : Int × (List ByteArray) × Int × ByteArray × (List api_JNode) × Int × Int) => ∀ (A225 : Option Addr) (n226 : Nat) (c227 : Nat) (h228 : Ow w.heap.size A225 n226 c227 s.2.1) (A232 : Option Addr) (n233 : Nat) (c234 : Nat) (h235 : Ow z8 A232 n233 c234 s.2.2.2.2.1), G (trellisref25_Reader_all_C w F g2 Tb3 A4 n5 c6 z8 r) [.code q63c28, .inLoop q63c28, .inBlock 0, .code q63c26] [(0, .pointer (some ⟨g2, 0, none⟩)), (1, .int .i64 s.1), (2, .int .i64 x11), (3, .int .i64 x12), (10, .string x15), (11, .slice A225 n226 c227), (12, .int .i64 s.2.2.1)] [.own (.slice A225 n226 c227) 9 1 n226 (s.2.1.flatMap eS), .own (.slice A232 n233 c234) 31 4 n233 (s.2.2.2.2.1.flatMap enc_api_JNode), .box g2 Tb3 [.string s.2.2.2.1, .slice A232 n233 c234, .int .i64 s.2.2.2.2.2.1, .int .i64 s.2.2.2.2.2.2]] [Sm w.heap.size F w [[g2], (Value.slice A4 n5 c6).ownBlock.toList], St w [[g2], (Value.slice A4 n5 c6).ownBlock.toList]]) s := by
    intro s hs
    refine Rounds.ind (mot := (fun (s : Int × (List ByteArray) × Int × ByteArray × (List api_JNode) × Int × Int) => ∀ (A225 : Option Addr) (n226 : Nat) (c227 : Nat) (h228 : Ow w.heap.size A225 n226 c227 s.2.1) (A232 : Option Addr) (n233 : Nat) (c234 : Nat) (h235 : Ow z8 A232 n233 c234 s.2.2.2.2.1), G (trellisref25_Reader_all_C w F g2 Tb3 A4 n5 c6 z8 r) [.code q63c28, .inLoop q63c28, .inBlock 0, .code q63c26] [(0, .pointer (some ⟨g2, 0, none⟩)), (1, .int .i64 s.1), (2, .int .i64 x11), (3, .int .i64 x12), (10, .string x15), (11, .slice A225 n226 c227), (12, .int .i64 s.2.2.1)] [.own (.slice A225 n226 c227) 9 1 n226 (s.2.1.flatMap eS), .own (.slice A232 n233 c234) 31 4 n233 (s.2.2.2.2.1.flatMap enc_api_JNode), .box g2 Tb3 [.string s.2.2.2.1, .slice A232 n233 c234, .int .i64 s.2.2.2.2.2.1, .int .i64 s.2.2.2.2.2.2]] [Sm w.heap.size F w [[g2], (Value.slice A4 n5 c6).ownBlock.toList], St w [[g2], (Value.slice A4 n5 c6).ownBlock.toList]])) ?_ hs
    clear hs s
    intro s o1 h hO1
    obtain ⟨x223, x224, x229, x230, x231, x236, x237⟩ := s
    show ∀ (A225 : Option Addr) (n226 : Nat) (c227 : Nat) (h228 : Ow w.heap.size A225 n226 c227 x224) (A232 : Option Addr) (n233 : Nat) (c234 : Nat) (h235 : Ow z8 A232 n233 c234 x231), G (trellisref25_Reader_all_C w F g2 Tb3 A4 n5 c6 z8 r) [.code q63c28, .inLoop q63c28, .inBlock 0, .code q63c26] [(0, .pointer (some ⟨g2, 0, none⟩)), (1, .int .i64 x223), (2, .int .i64 x11), (3, .int .i64 x12), (10, .string x15), (11, .slice A225 n226 c227), (12, .int .i64 x229)] [.own (.slice A225 n226 c227) 9 1 n226 (x224.flatMap eS), .own (.slice A232 n233 c234) 31 4 n233 (x231.flatMap enc_api_JNode), .box g2 Tb3 [.string x230, .slice A232 n233 c234, .int .i64 x236, .int .i64 x237]] [Sm w.heap.size F w [[g2], (Value.slice A4 n5 c6).ownBlock.toList], St w [[g2], (Value.slice A4 n5 c6).ownBlock.toList]]
    intro A225 n226 c227 h228 A232 n233 c234 h235
    have h : trellisref25_Reader_all_b2 x11 rc_trellisref25_Reader_value x12 x15 x223 x224 x229 x230 x231 x236 x237 o1 := h
    unfold trellisref25_Reader_all_b2 at h
    refine g_seq (c := q63c28) rfl ?_
    refine g_seq (c := q63c29) rfl ?_
    refine g_region (c := q63c31) rfl rfl ?_
    refine wl_v 0 rfl (v_move rfl) gn rfl ?_
    refine wl_v 1 rfl (v_nilCheck rfl) gn rfl ?_
    refine wl_v 2 rfl (v_fldB fo_73_2 rfl) gn rfl ?_
    refine wl_v 3 rfl (v_ldB1 2 ld_34 rfl rfl rfl) gn rfl ?_
    refine wl_v 4 rfl (v_bin rfl rfl rfl) gn rfl ?_
    refine w_end 5 rfl ?_
    by_cases hp415 : x236 = 0
    ·have h := if_pos' hp415 h
     refine g_true (c := q63c32) rfl _ rfl ((eqi hp415)) ?_
     refine g_skip (c := q63c33) rfl ?_
     refine g_block (c := q63c30) rfl ?_
     refine g_seq (c := q63c35) rfl ?_
     refine g_region (c := q63c36) rfl rfl ?_
     refine wl_v 0 rfl (v_assign rfl) gn rfl ?_
     refine w_end 1 rfl ?_
     refine g_seq (c := q63c37) rfl ?_
     refine g_seq (c := q63c38) rfl ?_
     refine g_region (c := q63c40) rfl rfl ?_
     refine wl_v 0 rfl (v_move rfl) gn rfl ?_
     refine wl_v 1 rfl (v_bin rfl rfl rfl) gn rfl ?_
     refine w_end 2 rfl ?_
     have j3 : ∀ (x440 : Int) (x441 : List ByteArray) (x446 : ByteArray) (x447 : ByteArray) (x448 : List api_JNode) (x453 : Int) (x454 : Int) (h : trellisref25_Reader_all_j3 rc_trellisref25_Reader_value x12 x15 x229 x440 x441 x446 x447 x448 x453 x454 o1) (A442 : Option Addr) (n443 : Nat) (c444 : Nat) (h445 : Ow w.heap.size A442 n443 c444 x441) (A449 : Option Addr) (n450 : Nat) (c451 : Nat) (h452 : Ow z8 A449 n450 c451 x448), G (trellisref25_Reader_all_C w F g2 Tb3 A4 n5 c6 z8 r) [.code q63c39, .inBlock 1, .inLoop q63c28, .inBlock 0, .code q63c26] [(0, .pointer (some ⟨g2, 0, none⟩)), (1, .int .i64 x440), (2, .int .i64 x11), (3, .int .i64 x12), (10, .string x15), (11, .slice A442 n443 c444), (12, .int .i64 x229), (13, .string x446)] [.own (.slice A449 n450 c451) 31 4 n450 (x448.flatMap enc_api_JNode), .box g2 Tb3 [.string x447, .slice A449 n450 c451, .int .i64 x453, .int .i64 x454], .own (.slice A442 n443 c444) 9 1 n443 (x441.flatMap eS)] [Sm w.heap.size F w [[g2], (Value.slice A4 n5 c6).ownBlock.toList], St w [[g2], (Value.slice A4 n5 c6).ownBlock.toList]] := by
      intro x440 x441 x446 x447 x448 x453 x454 h A442 n443 c444 h445 A449 n450 c451 h452
      unfold trellisref25_Reader_all_j3 at h
      refine g_seq (c := q63c39) rfl ?_
      refine g_seq (c := q63c46) rfl ?_
      refine g_region (c := q63c48) rfl rfl ?_
      refine wl_v 0 rfl (v_move rfl) gn rfl ?_
      refine wl_v 1 rfl (v_nilCheck rfl) gn rfl ?_
      refine wl_v 2 rfl (v_fldB fo_73_2 rfl) gn rfl ?_
      refine wl_v 3 rfl (v_ldB1 1 ld_34 rfl rfl rfl) gn rfl ?_
      refine wl_v 4 rfl (v_bin rfl rfl rfl) gn rfl ?_
      refine w_end 5 rfl ?_
      have j4 : ∀ (x470 : Int) (x471 : ByteArray) (x472 : List api_JNode) (x477 : Int) (x478 : Int) (h : trellisref25_Reader_all_j4 x15 x229 x441 x470 x471 x472 x477 x478 o1) (A473 : Option Addr) (n474 : Nat) (c475 : Nat) (h476 : Ow z8 A473 n474 c475 x472), G (trellisref25_Reader_all_C w F g2 Tb3 A4 n5 c6 z8 r) [.code q63c47, .inBlock 1, .inLoop q63c28, .inBlock 0, .code q63c26] [(0, .pointer (some ⟨g2, 0, none⟩)), (1, .int .i64 x470), (2, .int .i64 x11), (3, .int .i64 x12), (10, .string x15), (11, .slice A442 n443 c444), (12, .int .i64 x229)] [.own (.slice A473 n474 c475) 31 4 n474 (x472.flatMap enc_api_JNode), .box g2 Tb3 [.string x471, .slice A473 n474 c475, .int .i64 x477, .int .i64 x478], .own (.slice A442 n443 c444) 9 1 n443 (x441.flatMap eS)] [Sm w.heap.size F w [[g2], (Value.slice A4 n5 c6).ownBlock.toList], St w [[g2], (Value.slice A4 n5 c6).ownBlock.toList]] := by
       intro x470 x471 x472 x477 x478 h A473 n474 c475 h476
       unfold trellisref25_Reader_all_j4 at h
       refine g_seq (c := q63c47) rfl ?_
       refine g_region (c := q63c52) rfl rfl ?_
       refine wl_v 0 rfl (v_move rfl) gn rfl ?_
       refine wl_v 1 rfl (v_bin rfl rfl rfl) gn rfl ?_
       refine wl_v 2 rfl (v_assign rfl) gn rfl ?_
       refine w_end 3 rfl ?_
       refine g_seq (c := q63c53) rfl ?_
       refine g_region (c := q63c54) rfl rfl ?_
       refine wl_v 0 rfl (v_move rfl) gn rfl ?_
       refine wl_v 1 rfl (v_move rfl) gn rfl ?_
       obtain ⟨r482, hv483, h⟩ := h
       refine wl_s 2 rfl (s_call [.pointer (some ⟨g2, 0, none⟩), .int .i64 x470, .string (⟨#[32, 9, 10, 13]⟩ : ByteArray)] rfl Tryd.func45 rfl rfl rfl fun w479 hL480 => ?_) gn
       have hp481 : List.Perm ([.own (.slice A473 n474 c475) 31 4 n474 (x472.flatMap enc_api_JNode), .box g2 Tb3 [.string x471, .slice A473 n474 c475, .int .i64 x477, .int .i64 x478], .own (.slice A442 n443 c444) 9 1 n443 (x441.flatMap eS)] : List Ent) (([.box g2 Tb3 [.string x471, .slice A473 n474 c475, .int .i64 x477, .int .i64 x478], .own (.slice A473 n474 c475) 31 4 n474 (x472.flatMap enc_api_JNode)] : List Ent) ++ ([.own (.slice A442 n443 c444) 9 1 n443 (x441.flatMap eS)] : List Ent)) := perm_of_idx [1, 0] [2] rfl rfl (by kernel_rfl)
       refine Calls.mono (trellisref25_Reader_skip_calls w479 (Fl ([] : List Snap)) (⟨x471, x472, x477, x478⟩ : trellisref25_Reader) x470 (⟨#[32, 9, 10, 13]⟩ : ByteArray) g2 Tb3 z8 A473 n474 c475 (Nat.le_trans hz9 hL480.env.size) h476 (hL480.hFl (Sl := ([] : List Snap)) hp481 (sels [] rfl)) (hL480.into hp481 (Fl ([] : List Snap))) r482 hv483) ?_
       rintro _ w489 ⟨A484, n485, c486, rfl, hM490, h487⟩
       have hL491 := hL480.call hp481 hM490
       refine ⟨_, _, _, rfl, hL491, ?_⟩
       refine wl_v 3 rfl (v_assign rfl) gn rfl ?_
       refine w_end 4 rfl ?_
       refine g_seq (c := q63c55) rfl ?_
       refine g_seq (c := q63c56) rfl ?_
       have j5 : ∀ (x507 : Bool) (x508 : ByteArray) (x509 : List api_JNode) (x514 : Int) (x515 : Int) (h : trellisref25_Reader_all_j5 x229 r482 x441 x507 x508 x509 x514 x515 o1) (A510 : Option Addr) (n511 : Nat) (c512 : Nat) (h513 : Ow z8 A510 n511 c512 x509), G (trellisref25_Reader_all_C w F g2 Tb3 A4 n5 c6 z8 r) [.code q63c59, .code q63c57, .inBlock 1, .inLoop q63c28, .inBlock 0, .code q63c26] [(0, .pointer (some ⟨g2, 0, none⟩)), (1, .int .i64 r482.1), (2, .int .i64 x11), (3, .int .i64 x12), (10, .string x15), (11, .slice A442 n443 c444), (12, .int .i64 (w64 (x229 + 1))), (69, .bool x507)] [.own (.slice A510 n511 c512) 31 4 n511 (x509.flatMap enc_api_JNode), .box g2 Tb3 [.string x508, .slice A510 n511 c512, .int .i64 x514, .int .i64 x515], .own (.slice A442 n443 c444) 9 1 n443 (x441.flatMap eS)] [Sm w.heap.size F w [[g2], (Value.slice A4 n5 c6).ownBlock.toList], St w [[g2], (Value.slice A4 n5 c6).ownBlock.toList]] := by
        intro x507 x508 x509 x514 x515 h A510 n511 c512 h513
        unfold trellisref25_Reader_all_j5 at h
        by_cases hp516 : x507 = true
        ·have h := if_pos' hp516 h
         refine g_true (c := q63c59) rfl _ rfl (hp516) ?_
         refine g_seq (c := q63c60) rfl ?_
         refine g_region (c := q63c62) rfl rfl ?_
         refine wl_v 0 rfl (v_move rfl) gn rfl ?_
         refine wl_v 1 rfl (v_move rfl) gn rfl ?_
         refine wl_v 2 rfl (v_bin rfl rfl rfl) gn rfl ?_
         refine wl_v 3 rfl (v_assign rfl) gn rfl ?_
         refine wl_v 4 rfl (v_assign rfl) gn rfl ?_
         refine w_end 5 rfl ?_
         have h := Out.inr hO1 h
         refine g_retR (c := q63c63) [.int .i64 (w64 (x229 + 1)), .int .i64 (w64 (r482.1 + 1))] rfl Tryd.func63 rfl (.tmp rfl (.tmp rfl (.nil))) fun wr hLr => ?_
         have hMr : B.Loc w wr [.box g2 Tb3 [.string x508, .slice A510 n511 c512, .int .i64 x514, .int .i64 x515], .own (.slice A510 n511 c512) 31 4 n511 (x509.flatMap enc_api_JNode)] [St w [[g2], (Value.slice A4 n5 c6).ownBlock.toList]] := hLr.pick (rest := [.own (.slice A442 n443 c444) 9 1 n443 (x441.flatMap eS)]) (perm_of_idx [1, 0] [2] rfl rfl (by kernel_rfl)) (sels [1] rfl)
         show trellisref25_Reader_all_R w F g2 Tb3 A4 n5 c6 z8 r (.returned (packV [.int .i64 (w64 (x229 + 1)), .int .i64 (w64 (r482.1 + 1))])) wr
         rw [h]
         exact ⟨A510, n511, c512, rfl, hMr, h513⟩
        ·have h := if_neg' hp516 h
         refine g_false (c := q63c59) rfl _ rfl ((bf hp516)) ?_
         refine g_skip (c := q63c61) rfl ?_
         refine g_seq (c := q63c57) rfl ?_
         refine g_region (c := q63c64) rfl rfl ?_
         refine wl_v 0 rfl (v_move rfl) gn rfl ?_
         refine wl_v 1 rfl (v_move rfl) gn rfl ?_
         obtain ⟨r520, hv521, h⟩ := h
         refine wl_s 2 rfl (s_call [.pointer (some ⟨g2, 0, none⟩), .int .i64 r482.1, .string (⟨#[44]⟩ : ByteArray)] rfl Tryd.func75 rfl rfl rfl fun w517 hL518 => ?_) gn
         have hp519 : List.Perm ([.own (.slice A510 n511 c512) 31 4 n511 (x509.flatMap enc_api_JNode), .box g2 Tb3 [.string x508, .slice A510 n511 c512, .int .i64 x514, .int .i64 x515], .own (.slice A442 n443 c444) 9 1 n443 (x441.flatMap eS)] : List Ent) (([.box g2 Tb3 [.string x508, .slice A510 n511 c512, .int .i64 x514, .int .i64 x515], .own (.slice A510 n511 c512) 31 4 n511 (x509.flatMap enc_api_JNode)] : List Ent) ++ ([.own (.slice A442 n443 c444) 9 1 n443 (x441.flatMap eS)] : List Ent)) := perm_of_idx [1, 0] [2] rfl rfl (by kernel_rfl)
         refine Calls.mono (trellisref25_Reader_need_calls w517 (Fl ([] : List Snap)) (⟨x508, x509, x514, x515⟩ : trellisref25_Reader) r482.1 (⟨#[44]⟩ : ByteArray) g2 Tb3 z8 A510 n511 c512 (Nat.le_trans hz9 hL518.env.size) h513 (hL518.hFl (Sl := ([] : List Snap)) hp519 (sels [] rfl)) (hL518.into hp519 (Fl ([] : List Snap))) r520 hv521) ?_
         rintro _ w527 ⟨A522, n523, c524, rfl, hM528, h525⟩
         have hL529 := hL518.call hp519 hM528
         refine ⟨_, _, _, rfl, hL529, ?_⟩
         refine wl_v 3 rfl (v_assign rfl) gn rfl ?_
         refine w_end 4 rfl ?_
         refine g_region (c := q63c65) rfl rfl ?_
         refine wl_v 0 rfl (v_move rfl) gn rfl ?_
         refine wl_v 1 rfl (v_move rfl) gn rfl ?_
         obtain ⟨r533, hv534, h⟩ := h
         refine wl_s 2 rfl (s_call [.pointer (some ⟨g2, 0, none⟩), .int .i64 r520.1, .string (⟨#[32, 9, 10, 13]⟩ : ByteArray)] rfl Tryd.func45 rfl rfl rfl fun w530 hL531 => ?_) gn
         have hp532 : List.Perm ([.box g2 Tb3 [.string r520.2.s, .slice A522 n523 c524, .int .i64 r520.2.e, .int .i64 r520.2.at_], .own (.slice A522 n523 c524) 31 4 n523 (r520.2.l.flatMap enc_api_JNode), .own (.slice A442 n443 c444) 9 1 n443 (x441.flatMap eS)] : List Ent) (([.box g2 Tb3 [.string r520.2.s, .slice A522 n523 c524, .int .i64 r520.2.e, .int .i64 r520.2.at_], .own (.slice A522 n523 c524) 31 4 n523 (r520.2.l.flatMap enc_api_JNode)] : List Ent) ++ ([.own (.slice A442 n443 c444) 9 1 n443 (x441.flatMap eS)] : List Ent)) := perm_of_idx [0, 1] [2] rfl rfl (by kernel_rfl)
         refine Calls.mono (trellisref25_Reader_skip_calls w530 (Fl ([] : List Snap)) r520.2 r520.1 (⟨#[32, 9, 10, 13]⟩ : ByteArray) g2 Tb3 z8 A522 n523 c524 (Nat.le_trans hz9 hL531.env.size) h525 (hL531.hFl (Sl := ([] : List Snap)) hp532 (sels [] rfl)) (hL531.into hp532 (Fl ([] : List Snap))) r533 hv534) ?_
         rintro _ w540 ⟨A535, n536, c537, rfl, hM541, h538⟩
         have hL542 := hL531.call hp532 hM541
         refine ⟨_, _, _, rfl, hL542, ?_⟩
         refine wl_v 3 rfl (v_assign rfl) gn rfl ?_
         refine w_end 4 rfl ?_
         refine g_inBlock ?_
         refine g_inLoop ?_
         refine g_front 0 rfl ?_
         refine g_front 1 rfl ?_
         refine g_front 2 rfl ?_
         have ih := Out.inl hO1 h
         exact g_go [0, 1] (ih A442 n443 c444 h445 A535 n536 c537 h538) ⟨rfl, rfl, rfl, rfl, rfl, rfl, rfl, trivial⟩ (.cons_cons _ (.cons_cons _ (.cons_cons _ (.slnil)))) rfl
       refine g_region (c := q63c58) rfl rfl ?_
       refine wl_v 0 rfl (v_move rfl) gn rfl ?_
       refine wl_v 1 rfl (v_nilCheck rfl) gn rfl ?_
       refine wl_v 2 rfl (v_fldB fo_73_2 rfl) gn rfl ?_
       refine wl_v 3 rfl (v_ldB1 0 ld_34 rfl rfl rfl) gn rfl ?_
       refine wl_v 4 rfl (v_bin rfl rfl rfl) gn rfl ?_
       refine wl_v 5 rfl (v_move rfl) gn rfl ?_
       by_cases hp543 : r482.2.e = 0
       ·have h := if_pos' hp543 h
        refine w_bool 64 rfl ((eqi hp543)) ?_
        refine wl_v 6 rfl (v_move rfl) (gy 64 rfl rfl) rfl ?_
        refine wl_v 7 rfl (v_move rfl) (gy 64 rfl rfl) rfl ?_
        refine wl_v 8 rfl (v_move rfl) (gy 64 rfl rfl) rfl ?_
        obtain ⟨r547, hv548, h⟩ := h
        refine wl_s 9 rfl (s_call [.pointer (some ⟨g2, 0, none⟩), .int .i64 r482.1, .string x15] rfl Tryd.func60 rfl rfl rfl fun w544 hL545 => ?_) (gy 64 rfl rfl)
        have hp546 : List.Perm ([.box g2 Tb3 [.string r482.2.s, .slice A484 n485 c486, .int .i64 r482.2.e, .int .i64 r482.2.at_], .own (.slice A484 n485 c486) 31 4 n485 (r482.2.l.flatMap enc_api_JNode), .own (.slice A442 n443 c444) 9 1 n443 (x441.flatMap eS)] : List Ent) (([.box g2 Tb3 [.string r482.2.s, .slice A484 n485 c486, .int .i64 r482.2.e, .int .i64 r482.2.at_], .own (.slice A484 n485 c486) 31 4 n485 (r482.2.l.flatMap enc_api_JNode)] : List Ent) ++ ([.own (.slice A442 n443 c444) 9 1 n443 (x441.flatMap eS)] : List Ent)) := perm_of_idx [0, 1] [2] rfl rfl (by kernel_rfl)
        refine Calls.mono (trellisref25_Reader_has_calls w544 (Fl ([] : List Snap)) r482.2 r482.1 x15 g2 Tb3 z8 A484 n485 c486 (Nat.le_trans hz9 hL545.env.size) h487 (hL545.hFl (Sl := ([] : List Snap)) hp546 (sels [] rfl)) (hL545.into hp546 (Fl ([] : List Snap))) r547 hv548) ?_
        rintro _ w554 ⟨A549, n550, c551, rfl, hM555, h552⟩
        have hL556 := hL545.call hp546 hM555
        refine ⟨_, _, _, rfl, hL556, ?_⟩
        refine wl_v 10 rfl (v_pick (b := true) rfl rfl) gn rfl ?_
        refine w_end 11 rfl ?_
        refine g_front 2 rfl ?_
        refine g_front 1 rfl ?_
        refine g_front 2 rfl ?_
        exact g_go [0, 1] (j5 r547.1 r547.2.s r547.2.l r547.2.e r547.2.at_ h A549 n550 c551 h552) ⟨rfl, rfl, rfl, rfl, rfl, rfl, rfl, rfl, trivial⟩ (.cons_cons _ (.cons_cons _ (.cons_cons _ (.slnil)))) rfl
       ·have h := if_neg' hp543 h
        refine w_bool 64 rfl ((nei hp543)) ?_
        refine wl_pass 6 rfl (ps 64 rfl rfl rfl) ?_
        refine wl_pass 7 rfl (ps 64 rfl rfl rfl) ?_
        refine wl_pass 8 rfl (ps 64 rfl rfl rfl) ?_
        refine wl_pass 9 rfl (ps 64 rfl rfl rfl) ?_
        refine wl_v 10 rfl (v_pick (b := false) rfl rfl) gn rfl ?_
        refine w_end 11 rfl ?_
        refine g_front 2 rfl ?_
        refine g_front 1 rfl ?_
        refine g_front 2 rfl ?_
        exact g_go [0, 1] (j5 false r482.2.s r482.2.l r482.2.e r482.2.at_ h A484 n485 c486 h487) ⟨rfl, rfl, rfl, rfl, rfl, rfl, rfl, rfl, trivial⟩ (.cons_cons _ (.cons_cons _ (.cons_cons _ (.slnil)))) rfl
      by_cases hp455 : x453 = 0
      ·have h := if_pos' hp455 h
       refine g_true (c := q63c49) rfl _ rfl ((eqi hp455)) ?_
       refine g_region (c := q63c50) rfl rfl ?_
       refine wl_v 0 rfl (v_move rfl) gn rfl ?_
       refine wl_v 1 rfl (v_move rfl) gn rfl ?_
       refine wl_v 2 rfl (v_move rfl) gn rfl ?_
       refine wl_v 3 rfl (v_move rfl) gn rfl ?_
       obtain ⟨r560, hv561, h⟩ := h
       refine wl_s 4 rfl (s_call [.pointer (some ⟨g2, 0, none⟩), .int .i64 x440, .string x446, .int .i64 x12] rfl Tryd.func46 rfl rfl rfl fun w557 hL558 => ?_) gn
       have hp559 : List.Perm ([.own (.slice A449 n450 c451) 31 4 n450 (x448.flatMap enc_api_JNode), .box g2 Tb3 [.string x447, .slice A449 n450 c451, .int .i64 x453, .int .i64 x454], .own (.slice A442 n443 c444) 9 1 n443 (x441.flatMap eS)] : List Ent) (([.box g2 Tb3 [.string x447, .slice A449 n450 c451, .int .i64 x453, .int .i64 x454], .own (.slice A449 n450 c451) 31 4 n450 (x448.flatMap enc_api_JNode)] : List Ent) ++ ([.own (.slice A442 n443 c444) 9 1 n443 (x441.flatMap eS)] : List Ent)) := perm_of_idx [1, 0] [2] rfl rfl (by kernel_rfl)
       refine Calls.mono (ih_trellisref25_Reader_value w557 (Fl ([] : List Snap)) (⟨x447, x448, x453, x454⟩ : trellisref25_Reader) x440 x446 x12 g2 Tb3 z8 A449 n450 c451 (Nat.le_trans hz9 hL558.env.size) h452 (hL558.hFl (Sl := ([] : List Snap)) hp559 (sels [] rfl)) (hL558.into hp559 (Fl ([] : List Snap))) r560 hv561) ?_
       rintro _ w567 ⟨A562, n563, c564, rfl, hM568, h565⟩
       have hL569 := hL558.call hp559 hM568
       refine ⟨_, _, _, rfl, hL569, ?_⟩
       refine wl_v 5 rfl (v_assign rfl) gn rfl ?_
       refine w_end 6 rfl ?_
       refine g_front 2 rfl ?_
       refine g_front 1 rfl ?_
       refine g_front 2 rfl ?_
       exact g_go [0, 1] (j4 r560.1 r560.2.s r560.2.l r560.2.e r560.2.at_ h A562 n563 c564 h565) ⟨rfl, rfl, rfl, rfl, rfl, rfl, rfl, trivial⟩ (.cons_cons _ (.cons_cons _ (.cons_cons _ (.slnil)))) rfl
      ·have h := if_neg' hp455 h
       refine g_false (c := q63c49) rfl _ rfl ((nei hp455)) ?_
       refine g_skip (c := q63c51) rfl ?_
       exact g_go [0, 1] (j4 x440 x447 x448 x453 x454 h A449 n450 c451 h452) ⟨rfl, rfl, rfl, rfl, rfl, rfl, rfl, trivial⟩ (.cons_cons _ (.cons_cons _ (.cons_cons _ (.slnil)))) rfl
     by_cases hp416 : x11 = 7
     ·have h := if_pos' hp416 h
      refine g_true (c := q63c41) rfl _ rfl ((eqi hp416)) ?_
      refine g_seq (c := q63c42) rfl ?_
      refine g_region (c := q63c44) rfl rfl ?_
      refine wl_v 0 rfl (v_move rfl) gn rfl ?_
      refine wl_v 1 rfl (v_move rfl) gn rfl ?_
      refine wl_v 2 rfl (v_move rfl) gn rfl ?_
      obtain ⟨r573, hv574, h⟩ := h
      refine wl_s 3 rfl (s_call [.pointer (some ⟨g2, 0, none⟩), .int .i64 x223, .slice A225 n226 c227] rfl Tryd.func77 rfl rfl rfl fun w570 hL571 => ?_) gn
      have hp572 : List.Perm ([.own (.slice A225 n226 c227) 9 1 n226 (x224.flatMap eS), .own (.slice A232 n233 c234) 31 4 n233 (x231.flatMap enc_api_JNode), .box g2 Tb3 [.string x230, .slice A232 n233 c234, .int .i64 x236, .int .i64 x237]] : List Ent) (([.box g2 Tb3 [.string x230, .slice A232 n233 c234, .int .i64 x236, .int .i64 x237], .own (.slice A232 n233 c234) 31 4 n233 (x231.flatMap enc_api_JNode)] : List Ent) ++ ([.own (.slice A225 n226 c227) 9 1 n226 (x224.flatMap eS)] : List Ent)) := perm_of_idx [2, 1] [0] rfl rfl (by kernel_rfl)
      refine Calls.mono (trellisref25_Reader_key_calls w570 (Fl ([] : List Snap)) (⟨x230, x231, x236, x237⟩ : trellisref25_Reader) x223 x224 g2 Tb3 z8 A232 n233 c234 A225 n226 c227 (Nat.le_trans hz9 hL571.env.size) h235 (hL571.argO (dk := kStr) hp572 [2, 1] rfl 0 rfl rfl h228 (me 0 rfl) (Cells.flat _)) (hL571.hFl (Sl := ([] : List Snap)) hp572 (sels [] rfl)) (hL571.into hp572 (Fl ([] : List Snap))) r573 hv574) ?_
      rintro _ w580 ⟨A575, n576, c577, rfl, hM581, h578⟩
      have hL582 := hL571.call hp572 hM581
      refine ⟨_, _, _, rfl, hL582, ?_⟩
      refine wl_v 4 rfl (v_move rfl) gn rfl ?_
      refine wl_v 5 rfl (v_extract rfl rfl) gn rfl ?_
      refine wl_v 6 rfl (v_extract rfl rfl) gn rfl ?_
      refine wl_v 7 rfl (v_assign rfl) gn rfl ?_
      refine wl_v 8 rfl (v_assign rfl) gn rfl ?_
      refine w_end 9 rfl ?_
      refine g_region (c := q63c45) rfl rfl ?_
      refine wl_v 0 rfl (v_move rfl) gn rfl ?_
      refine wl_v 1 rfl (v_move rfl) gn rfl ?_
      refine wl_s 2 rfl (s_litO (xs := ([r573.1] : List ByteArray)) [.string r573.1] bs_99_1 rfl (by kernel_rfl) rfl rfl rfl rfl fun gb584 h585 => ?_) gn
      obtain ⟨x589, hv590, h⟩ := h
      obtain ⟨hb591, h⟩ := h
      refine wl_s 3 rfl (s_app (zs := x589) (cells' := x589.flatMap eS) 3 ap_99 rfl rfl rfl h228 (Nat.le_refl _) (Src.ownF (hl := hlS) (h1 := hone_str) 0 rfl h585) (by rw [hv590, List.flatMap_append] <;> rfl) (app_len hv590 h585.hq) hb591 rfl rfl fun A586 c587 h588 => ?_) gn
      refine wl_v 4 rfl (v_assign rfl) gn rfl ?_
      refine w_end 5 rfl ?_
      refine g_front 3 rfl ?_
      refine g_front 2 rfl ?_
      refine g_front 3 rfl ?_
      exact g_go [0, 1] (j3 r573.2.1 x589 r573.1 r573.2.2.s r573.2.2.l r573.2.2.e r573.2.2.at_ h A586 (n226 + 1) c587 h588 A575 n576 c577 h578) ⟨rfl, rfl, rfl, rfl, rfl, rfl, rfl, rfl, trivial⟩ (.cons_cons _ (.cons_cons _ (.cons_cons _ (.cons _ (.slnil))))) rfl
     ·have h := if_neg' hp416 h
      refine g_false (c := q63c41) rfl _ rfl ((nei hp416)) ?_
      refine g_skip (c := q63c43) rfl ?_
      refine g_front 0 rfl ?_
      refine g_front 2 rfl ?_
      refine g_front 2 rfl ?_
      exact g_go [0, 1] (j3 x223 x224 (⟨#[]⟩ : ByteArray) x230 x231 x236 x237 h A225 n226 c227 h228 A232 n233 c234 h235) ⟨rfl, rfl, rfl, rfl, rfl, rfl, rfl, rfl, trivial⟩ (.cons_cons _ (.cons_cons _ (.cons_cons _ (.slnil)))) rfl
    ·have h := if_neg' hp415 h
     refine g_false (c := q63c32) rfl _ rfl ((nei hp415)) ?_
     refine g_exit (c := q63c34) [.code q63c26] rfl rfl ?_
     refine g_seq (c := q63c26) rfl ?_
     refine g_region (c := q63c66) rfl rfl ?_
     refine wl_v 0 rfl (v_move rfl) gn rfl ?_
     refine wl_v 1 rfl (v_move rfl) gn rfl ?_
     refine wl_v 2 rfl (v_assign rfl) gn rfl ?_
     refine wl_v 3 rfl (v_assign rfl) gn rfl ?_
     refine w_end 4 rfl ?_
     have h := Out.inr hO1 h
     refine g_retR (c := q63c67) [.int .i64 x229, .int .i64 x223] rfl Tryd.func63 rfl (.tmp rfl (.tmp rfl (.nil))) fun wr hLr => ?_
     have hMr : B.Loc w wr [.box g2 Tb3 [.string x230, .slice A232 n233 c234, .int .i64 x236, .int .i64 x237], .own (.slice A232 n233 c234) 31 4 n233 (x231.flatMap enc_api_JNode)] [St w [[g2], (Value.slice A4 n5 c6).ownBlock.toList]] := hLr.pick (rest := [.own (.slice A225 n226 c227) 9 1 n226 (x224.flatMap eS)]) (perm_of_idx [2, 1] [0] rfl rfl (by kernel_rfl)) (sels [1] rfl)
     show trellisref25_Reader_all_R w F g2 Tb3 A4 n5 c6 z8 r (.returned (packV [.int .i64 x229, .int .i64 x223])) wr
     rw [h]
     exact ⟨A232, n233, c234, rfl, hMr, h235⟩
   refine g_nil 9 1 ?_
   refine g_front 1 rfl ?_
   refine g_front 2 rfl ?_
   refine g_front 2 rfl ?_
   exact g_go [0, 1] (key2 _ h none 0 0 (Ow.nil (z := w.heap.size)) A34 n35 c36 h37) ⟨rfl, rfl, rfl, rfl, rfl, rfl, rfl, trivial⟩ (.cons_cons _ (.cons_cons _ (.cons_cons _ (.slnil)))) rfl
 by_cases hp13 : x11 = 7
 ·have h := if_pos' hp13 h
  refine g_true (c := q63c8) rfl _ rfl ((eqi hp13)) ?_
  refine g_region (c := q63c9) rfl rfl ?_
  refine wl_v 0 rfl (v_assign rfl) gn rfl ?_
  refine w_end 1 rfl ?_
  exact g_go [0, 1] (j1 (⟨#[125]⟩ : ByteArray) h) ⟨rfl, rfl, rfl, rfl, rfl, trivial⟩ (.cons_cons _ (.cons_cons _ (.slnil))) rfl
 ·have h := if_neg' hp13 h
  refine g_false (c := q63c8) rfl _ rfl ((nei hp13)) ?_
  refine g_skip (c := q63c10) rfl ?_
  exact g_go [0, 1] (j1 (⟨#[93]⟩ : ByteArray) h) ⟨rfl, rfl, rfl, rfl, rfl, trivial⟩ (.cons_cons _ (.cons_cons _ (.slnil))) rfl
theorem trellisref25_Reader_value_step (rc_trellisref25_Reader_all : trellisref25_Reader → Int → Int → Int → (Int × Int × trellisref25_Reader) → Prop) (rc_trellisref25_Reader_value : trellisref25_Reader → Int → ByteArray → Int → (Int × trellisref25_Reader) → Prop) (ih_trellisref25_Reader_all : trellisref25_Reader_all_st rc_trellisref25_Reader_all) (ih_trellisref25_Reader_value : trellisref25_Reader_value_st rc_trellisref25_Reader_value) : trellisref25_Reader_value_st (trellisref25_Reader_value_body rc_trellisref25_Reader_all rc_trellisref25_Reader_value) := by
 intro w F x1 x10 x11 x12 g2 Tb3 z8 A4 n5 c6 hz9 h7 hF hL0 r h
 unfold trellisref25_Reader_value_body at h
 refine calls_of_Loc (vs := [.pointer (some ⟨g2, 0, none⟩), .int .i64 x10, .string x11, .int .i64 x12]) 120 Tryd.func46 rfl Tryd.ntmps46 rfl hL0 ?_
 show G (trellisref25_Reader_value_C w F g2 Tb3 A4 n5 c6 z8 r) _ _ _ _
 refine g_seq (c := q46c0) rfl ?_
 refine g_region (c := q46c1) rfl rfl ?_
 refine wl_v 0 rfl (v_assign rfl) gn rfl ?_
 refine w_end 1 rfl ?_
 refine g_seq (c := q46c2) rfl ?_
 refine g_region (c := q46c3) rfl rfl ?_
 refine wl_v 0 rfl (v_move rfl) gn rfl ?_
 refine wl_v 1 rfl (v_nilCheck rfl) gn rfl ?_
 refine wl_v 2 rfl (v_fldB fo_73_1 rfl) gn rfl ?_
 refine wl_v 3 rfl (v_ldB1 0 ld_22 rfl rfl rfl) gn rfl ?_
 refine wl_v 4 rfl (v_lenQ un_22 rfl h7.hq) gn rfl ?_
 refine wl_v 5 rfl (v_assign rfl) gn rfl ?_
 refine w_end 6 rfl ?_
 refine g_seq (c := q46c4) rfl ?_
 refine g_region (c := q46c5) rfl rfl ?_
 refine wl_v 0 rfl (v_move rfl) gn rfl ?_
 refine wl_v 1 rfl (v_build #[.int .i64 0, .string x11, .string (⟨#[]⟩ : ByteArray), .int .i64 0] bd_31 rfl (by kernel_rfl)) gn rfl ?_
 refine wl_s 2 rfl (s_alloc [.int .i64 0, .string (⟨#[]⟩ : ByteArray), .string (⟨#[]⟩ : ByteArray), .int .i64 0] zr_31 rfl fun gb13 => ?_) gn
 refine wl_s 3 rfl (s_stB (vs := [.int .i64 0, .string x11, .string (⟨#[]⟩ : ByteArray), .int .i64 0]) (cs' := [.int .i64 0, .string x11, .string (⟨#[]⟩ : ByteArray), .int .i64 0]) (M' := [.box gb13 31 [.int .i64 0, .string x11, .string (⟨#[]⟩ : ByteArray), .int .i64 0], .box g2 Tb3 [.string x1.s, .slice A4 n5 c6, .int .i64 x1.e, .int .i64 x1.at_], .own (.slice A4 n5 c6) 31 4 n5 (x1.l.flatMap enc_api_JNode)]) 0 sz_31 rfl rfl rfl rfl rfl rfl rfl rfl rfl ?_) gn
 refine w_end 4 rfl ?_
 refine g_seq (c := q46c6) rfl ?_
 obtain ⟨x21, hv22, h⟩ := h
 obtain ⟨hb23, h⟩ := h
 have hns : Region.noSelect (Code.ops q46c7) = true := by kernel_rfl
 refine g_drawF (c := q46c7) [.box gb13 31 [.int .i64 0, .string x11, .string (⟨#[]⟩ : ByteArray), .int .i64 0], .box g2 Tb3 [.string x1.s, .slice A4 n5 c6, .int .i64 x1.e, .int .i64 x1.at_]] [Sm w.heap.size F w [[g2], (Value.slice A4 n5 c6).ownBlock.toList], St w [[g2], (Value.slice A4 n5 c6).ownBlock.toList]] [10] 11 rfl rfl mix rfl (.cons_cons _ (.cons_cons _ (.cons _ (.slnil)))) (sels [0, 1] rfl) ?_
 refine wfv 0 rfl (v_move rfl) gn hns (by kernel_rfl) ?_
 refine wfv 1 rfl (v_move rfl) gn hns (by kernel_rfl) ?_
 refine wfv 2 rfl (v_nilCheck rfl) gn hns (by kernel_rfl) ?_
 refine wfv 3 rfl (v_fldB fo_73_1 rfl) gn hns (by kernel_rfl) ?_
 refine wfv 4 rfl (v_ldB1 1 ld_22 rfl rfl rfl) gn hns (by kernel_rfl) ?_
 refine wfv 5 rfl (v_ldB [.int .i64 0, .string x11, .string (⟨#[]⟩ : ByteArray), .int .i64 0] 0 ld_31 rfl rfl rfl rfl) gn hns (by kernel_rfl) ?_
 refine wf_all [6] (by kernel_rfl) rfl ⟨on_s 6 rfl gn rfl (s_litO (xs := ([(⟨0, x11, (⟨#[]⟩ : ByteArray), 0⟩ : api_JNode)] : List api_JNode)) [.int .i64 0, .string x11, .string (⟨#[]⟩ : ByteArray), .int .i64 0] bs_22_1 rfl (by kernel_rfl) rfl rfl rfl rfl fun gb36 h37 => ?_), trivial⟩
 refine ⟨sels [1, 2] rfl, sels [0, 1] rfl, ?_⟩
 refine wf_all [7] (by kernel_rfl) rfl ⟨on_s 7 rfl gn rfl (s_app (zs := x21) (cells' := x21.flatMap enc_api_JNode) 3 ap_22 rfl rfl rfl h7 hz9 (Src.ownF (hl := hl_api_JNode) (h1 := h1_api_JNode) 0 rfl h37) (by rw [hv22, List.flatMap_append] <;> rfl) (app_len hv22 h37.hq) hb23 rfl rfl fun A41 c42 h43 => ?_), trivial⟩
 refine ⟨sels [1, 2] rfl, sels [0, 1] rfl, ?_⟩
 refine wfv 8 rfl (v_nilCheck rfl) gn hns (by kernel_rfl) ?_
 refine wfv 9 rfl (v_fldB fo_73_1 rfl) gn hns (by kernel_rfl) ?_
 refine wf_all [10] (by kernel_rfl) rfl ⟨on_l 10 rfl gn rfl (s_stB (vs := [.slice A41 (n5 + 1) c42]) (cs' := [.string x1.s, .slice A41 (n5 + 1) c42, .int .i64 x1.e, .int .i64 x1.at_]) (M' := [.own (.slice (some ⟨gb36, 0, none⟩) 1 1) 31 4 1 (([(⟨0, x11, (⟨#[]⟩ : ByteArray), 0⟩ : api_JNode)] : List api_JNode).flatMap enc_api_JNode), .box gb13 31 [.int .i64 0, .string x11, .string (⟨#[]⟩ : ByteArray), .int .i64 0], .box g2 Tb3 [.string x1.s, .slice A41 (n5 + 1) c42, .int .i64 x1.e, .int .i64 x1.at_], .own (.slice A41 (n5 + 1) c42) 31 4 (n5 + 1) (x21.flatMap enc_api_JNode)]) 2 sz_22 rfl rfl rfl rfl rfl rfl rfl rfl rfl ?_), trivial⟩
 unfold NxL
 refine wf_end (by kernel_rfl) ?_
 refine g_seq (c := q46c8) rfl ?_
 refine g_region (c := q46c9) rfl rfl ?_
 refine wl_v 0 rfl (v_move rfl) gn rfl ?_
 refine wl_v 1 rfl (v_assign rfl) gn rfl ?_
 refine w_end 2 rfl ?_
 refine g_seq (c := q46c10) rfl ?_
 refine g_block (c := q46c11) rfl ?_
 refine g_seq (c := q46c13) rfl ?_
 refine g_region (c := q46c14) rfl rfl ?_
 refine wl_v 0 rfl (v_move rfl) gn rfl ?_
 refine wl_v 1 rfl (v_move rfl) gn rfl ?_
 obtain ⟨r47, hv48, h⟩ := h
 refine wl_s 2 rfl (s_call [.pointer (some ⟨g2, 0, none⟩), .int .i64 x10, .string (⟨#[110]⟩ : ByteArray)] rfl Tryd.func60 rfl rfl rfl fun w44 hL45 => ?_) gn
 have hp46 : List.Perm ([.own (.slice (some ⟨gb36, 0, none⟩) 1 1) 31 4 1 (([(⟨0, x11, (⟨#[]⟩ : ByteArray), 0⟩ : api_JNode)] : List api_JNode).flatMap enc_api_JNode), .box gb13 31 [.int .i64 0, .string x11, .string (⟨#[]⟩ : ByteArray), .int .i64 0], .box g2 Tb3 [.string x1.s, .slice A41 (n5 + 1) c42, .int .i64 x1.e, .int .i64 x1.at_], .own (.slice A41 (n5 + 1) c42) 31 4 (n5 + 1) (x21.flatMap enc_api_JNode)] : List Ent) (([.box g2 Tb3 [.string x1.s, .slice A41 (n5 + 1) c42, .int .i64 x1.e, .int .i64 x1.at_], .own (.slice A41 (n5 + 1) c42) 31 4 (n5 + 1) (x21.flatMap enc_api_JNode)] : List Ent) ++ ([.own (.slice (some ⟨gb36, 0, none⟩) 1 1) 31 4 1 (([(⟨0, x11, (⟨#[]⟩ : ByteArray), 0⟩ : api_JNode)] : List api_JNode).flatMap enc_api_JNode), .box gb13 31 [.int .i64 0, .string x11, .string (⟨#[]⟩ : ByteArray), .int .i64 0]] : List Ent)) := perm_of_idx [2, 3] [0, 1] rfl rfl (by kernel_rfl)
 refine Calls.mono (trellisref25_Reader_has_calls w44 (Fl ([] : List Snap)) (⟨x1.s, x21, x1.e, x1.at_⟩ : trellisref25_Reader) x10 (⟨#[110]⟩ : ByteArray) g2 Tb3 z8 A41 (n5 + 1) c42 (Nat.le_trans hz9 hL45.env.size) h43 (hL45.hFl (Sl := ([] : List Snap)) hp46 (sels [] rfl)) (hL45.into hp46 (Fl ([] : List Snap))) r47 hv48) ?_
 rintro _ w54 ⟨A49, n50, c51, rfl, hM55, h52⟩
 have hL56 := hL45.call hp46 hM55
 refine ⟨_, _, _, rfl, hL56, ?_⟩
 refine wl_v 3 rfl (v_assign rfl) gn rfl ?_
 refine w_end 4 rfl ?_
 have j1 : ∀ (x213 : Int) (x214 : ByteArray) (x215 : List api_JNode) (x220 : Int) (x221 : Int) (x222 : Int) (x223 : ByteArray) (x224 : Int) (h : trellisref25_Reader_value_j1 x1 x11 x213 x214 x215 x220 x221 x222 x223 x224 r) (A216 : Option Addr) (n217 : Nat) (c218 : Nat) (h219 : Ow z8 A216 n217 c218 x215), G (trellisref25_Reader_value_C w F g2 Tb3 A4 n5 c6 z8 r) [.inBlock 0, .code q46c12] [(0, .pointer (some ⟨g2, 0, none⟩)), (1, .int .i64 x213), (9, .int .i64 (x1.l.length : Int)), (10, .pointer (some ⟨gb13, 0, none⟩))] [.own (.slice A216 n217 c218) 31 4 n217 (x215.flatMap enc_api_JNode), .box g2 Tb3 [.string x214, .slice A216 n217 c218, .int .i64 x220, .int .i64 x221], .box gb13 31 [.int .i64 x222, .string x11, .string x223, .int .i64 x224]] [Sm w.heap.size F w [[g2], (Value.slice A4 n5 c6).ownBlock.toList], St w [[g2], (Value.slice A4 n5 c6).ownBlock.toList]] := by
  intro x213 x214 x215 x220 x221 x222 x223 x224 h A216 n217 c218 h219
  unfold trellisref25_Reader_value_j1 at h
  refine g_inBlock ?_
  refine g_seq (c := q46c12) rfl ?_
  obtain ⟨hb225, h⟩ := h
  obtain ⟨x226, hv227, h⟩ := h
  have hns : Region.noSelect (Code.ops q46c66) = true := by kernel_rfl
  refine g_drawF (c := q46c66) [.own (.slice A216 n217 c218) 31 4 n217 (x215.flatMap enc_api_JNode), .box g2 Tb3 [.string x214, .slice A216 n217 c218, .int .i64 x220, .int .i64 x221], .box gb13 31 [.int .i64 x222, .string x11, .string x223, .int .i64 x224]] [Sm w.heap.size F w [[g2], (Value.slice A4 n5 c6).ownBlock.toList], St w [[g2], (Value.slice A4 n5 c6).ownBlock.toList]] [7] 8 rfl rfl mix rfl (.cons_cons _ (.cons_cons _ (.cons_cons _ (.slnil)))) (sels [0, 1] rfl) ?_
  refine wfv 0 rfl (v_move rfl) gn hns (by kernel_rfl) ?_
  refine wfv 1 rfl (v_nilCheck rfl) gn hns (by kernel_rfl) ?_
  refine wfv 2 rfl (v_fldB fo_73_1 rfl) gn hns (by kernel_rfl) ?_
  refine wfv 3 rfl (v_ldB1 1 ld_22 rfl rfl rfl) gn hns (by kernel_rfl) ?_
  refine wfv 4 rfl (v_move rfl) gn hns (by kernel_rfl) ?_
  refine wfv 5 rfl (v_ldB [.int .i64 x222, .string x11, .string x223, .int .i64 x224] 2 ld_31 rfl rfl rfl rfl) gn hns (by kernel_rfl) ?_
  refine wfv 6 rfl (v_idxO slE_22 rfl rfl h219 hb225) gn hns (by kernel_rfl) ?_
  refine wf_all [7] (by kernel_rfl) rfl ⟨on_l 7 rfl gn rfl (s_stF (enc := enc_api_JNode) (o := 0) (z := (⟨x222, x11, x223, x224⟩ : api_JNode)) (vs := [.int .i64 x222, .string x11, .string x223, .int .i64 x224]) (i := (x1.l.length : Int)) 0 hl_api_JNode sz_31 rfl rfl rfl rfl rfl h219 hb225 rfl rfl rfl hv227 fun h230 => ?_), trivial⟩
  unfold NxL
  refine wf_end (by kernel_rfl) ?_
  refine g_seq (c := q46c67) rfl ?_
  refine g_region (c := q46c68) rfl rfl ?_
  refine wl_v 0 rfl (v_move rfl) gn rfl ?_
  refine wl_v 1 rfl (v_assign rfl) gn rfl ?_
  refine w_end 2 rfl ?_
  refine g_retR (c := q46c69) [.int .i64 x213] rfl Tryd.func46 rfl (.tmp rfl (.nil)) fun wr hLr => ?_
  have hMr : B.Loc w wr [.box g2 Tb3 [.string x214, .slice A216 n217 c218, .int .i64 x220, .int .i64 x221], .own (.slice A216 n217 c218) 31 4 n217 (x226.flatMap enc_api_JNode)] [St w [[g2], (Value.slice A4 n5 c6).ownBlock.toList]] := hLr.pick (rest := [.box gb13 31 [.int .i64 x222, .string x11, .string x223, .int .i64 x224]]) (perm_of_idx [1, 0] [2] rfl rfl (by kernel_rfl)) (sels [1] rfl)
  show trellisref25_Reader_value_R w F g2 Tb3 A4 n5 c6 z8 r (.returned (packV [.int .i64 x213])) wr
  rw [h]
  exact ⟨A216, n217, c218, rfl, hMr, h230⟩
 by_cases hp57 : r47.1 = true
 ·have h := if_pos' hp57 h
  refine g_true (c := q46c15) rfl _ rfl (hp57) ?_
  refine g_seq (c := q46c16) rfl ?_
  refine g_region (c := q46c18) rfl rfl ?_
  refine wl_v 0 rfl (v_fldB fo_31_0 rfl) gn rfl ?_
  refine wl_s 1 rfl (s_stB (vs := [.int .i64 1]) (cs' := [.int .i64 1, .string x11, .string (⟨#[]⟩ : ByteArray), .int .i64 0]) (M' := [.box g2 Tb3 [.string r47.2.s, .slice A49 n50 c51, .int .i64 r47.2.e, .int .i64 r47.2.at_], .own (.slice A49 n50 c51) 31 4 n50 (r47.2.l.flatMap enc_api_JNode), .own (.slice (some ⟨gb36, 0, none⟩) 1 1) 31 4 1 (([(⟨0, x11, (⟨#[]⟩ : ByteArray), 0⟩ : api_JNode)] : List api_JNode).flatMap enc_api_JNode), .box gb13 31 [.int .i64 1, .string x11, .string (⟨#[]⟩ : ByteArray), .int .i64 0]]) 3 sz_29 rfl rfl rfl rfl rfl rfl rfl rfl rfl ?_) gn
  refine w_end 2 rfl ?_
  refine g_region (c := q46c19) rfl rfl ?_
  refine wl_v 0 rfl (v_move rfl) gn rfl ?_
  refine wl_v 1 rfl (v_move rfl) gn rfl ?_
  obtain ⟨r234, hv235, h⟩ := h
  refine wl_s 2 rfl (s_call [.pointer (some ⟨g2, 0, none⟩), .int .i64 x10, .string (⟨#[110, 117, 108, 108]⟩ : ByteArray)] rfl Tryd.func61 rfl rfl rfl fun w231 hL232 => ?_) gn
  have hp233 : List.Perm ([.box g2 Tb3 [.string r47.2.s, .slice A49 n50 c51, .int .i64 r47.2.e, .int .i64 r47.2.at_], .own (.slice A49 n50 c51) 31 4 n50 (r47.2.l.flatMap enc_api_JNode), .own (.slice (some ⟨gb36, 0, none⟩) 1 1) 31 4 1 (([(⟨0, x11, (⟨#[]⟩ : ByteArray), 0⟩ : api_JNode)] : List api_JNode).flatMap enc_api_JNode), .box gb13 31 [.int .i64 1, .string x11, .string (⟨#[]⟩ : ByteArray), .int .i64 0]] : List Ent) (([.box g2 Tb3 [.string r47.2.s, .slice A49 n50 c51, .int .i64 r47.2.e, .int .i64 r47.2.at_], .own (.slice A49 n50 c51) 31 4 n50 (r47.2.l.flatMap enc_api_JNode)] : List Ent) ++ ([.own (.slice (some ⟨gb36, 0, none⟩) 1 1) 31 4 1 (([(⟨0, x11, (⟨#[]⟩ : ByteArray), 0⟩ : api_JNode)] : List api_JNode).flatMap enc_api_JNode), .box gb13 31 [.int .i64 1, .string x11, .string (⟨#[]⟩ : ByteArray), .int .i64 0]] : List Ent)) := perm_of_idx [0, 1] [2, 3] rfl rfl (by kernel_rfl)
  refine Calls.mono (trellisref25_Reader_word_calls w231 (Fl ([] : List Snap)) r47.2 x10 (⟨#[110, 117, 108, 108]⟩ : ByteArray) g2 Tb3 z8 A49 n50 c51 (Nat.le_trans hz9 hL232.env.size) h52 (hL232.hFl (Sl := ([] : List Snap)) hp233 (sels [] rfl)) (hL232.into hp233 (Fl ([] : List Snap))) r234 hv235) ?_
  rintro _ w241 ⟨A236, n237, c238, rfl, hM242, h239⟩
  have hL243 := hL232.call hp233 hM242
  refine ⟨_, _, _, rfl, hL243, ?_⟩
  refine wl_v 3 rfl (v_assign rfl) gn rfl ?_
  refine w_end 4 rfl ?_
  refine g_front 3 rfl ?_
  refine g_front 1 rfl ?_
  refine g_front 2 rfl ?_
  exact g_go [0, 1] (j1 r234.1 r234.2.s r234.2.l r234.2.e r234.2.at_ 1 (⟨#[]⟩ : ByteArray) 0 h A236 n237 c238 h239) ⟨rfl, rfl, rfl, rfl, trivial⟩ (.cons_cons _ (.cons_cons _ (.cons_cons _ (.cons _ (.slnil))))) rfl
 ·have h := if_neg' hp57 h
  refine g_false (c := q46c15) rfl _ rfl ((bf hp57)) ?_
  refine g_seq (c := q46c17) rfl ?_
  refine g_region (c := q46c20) rfl rfl ?_
  refine wl_v 0 rfl (v_move rfl) gn rfl ?_
  refine wl_v 1 rfl (v_move rfl) gn rfl ?_
  obtain ⟨r247, hv248, h⟩ := h
  refine wl_s 2 rfl (s_call [.pointer (some ⟨g2, 0, none⟩), .int .i64 x10, .string (⟨#[102]⟩ : ByteArray)] rfl Tryd.func60 rfl rfl rfl fun w244 hL245 => ?_) gn
  have hp246 : List.Perm ([.box g2 Tb3 [.string r47.2.s, .slice A49 n50 c51, .int .i64 r47.2.e, .int .i64 r47.2.at_], .own (.slice A49 n50 c51) 31 4 n50 (r47.2.l.flatMap enc_api_JNode), .own (.slice (some ⟨gb36, 0, none⟩) 1 1) 31 4 1 (([(⟨0, x11, (⟨#[]⟩ : ByteArray), 0⟩ : api_JNode)] : List api_JNode).flatMap enc_api_JNode), .box gb13 31 [.int .i64 0, .string x11, .string (⟨#[]⟩ : ByteArray), .int .i64 0]] : List Ent) (([.box g2 Tb3 [.string r47.2.s, .slice A49 n50 c51, .int .i64 r47.2.e, .int .i64 r47.2.at_], .own (.slice A49 n50 c51) 31 4 n50 (r47.2.l.flatMap enc_api_JNode)] : List Ent) ++ ([.own (.slice (some ⟨gb36, 0, none⟩) 1 1) 31 4 1 (([(⟨0, x11, (⟨#[]⟩ : ByteArray), 0⟩ : api_JNode)] : List api_JNode).flatMap enc_api_JNode), .box gb13 31 [.int .i64 0, .string x11, .string (⟨#[]⟩ : ByteArray), .int .i64 0]] : List Ent)) := perm_of_idx [0, 1] [2, 3] rfl rfl (by kernel_rfl)
  refine Calls.mono (trellisref25_Reader_has_calls w244 (Fl ([] : List Snap)) r47.2 x10 (⟨#[102]⟩ : ByteArray) g2 Tb3 z8 A49 n50 c51 (Nat.le_trans hz9 hL245.env.size) h52 (hL245.hFl (Sl := ([] : List Snap)) hp246 (sels [] rfl)) (hL245.into hp246 (Fl ([] : List Snap))) r247 hv248) ?_
  rintro _ w254 ⟨A249, n250, c251, rfl, hM255, h252⟩
  have hL256 := hL245.call hp246 hM255
  refine ⟨_, _, _, rfl, hL256, ?_⟩
  refine wl_v 3 rfl (v_assign rfl) gn rfl ?_
  refine w_end 4 rfl ?_
  by_cases hp257 : r247.1 = true
  ·have h := if_pos' hp257 h
   refine g_true (c := q46c21) rfl _ rfl (hp257) ?_
   refine g_seq (c := q46c22) rfl ?_
   refine g_region (c := q46c24) rfl rfl ?_
   refine wl_v 0 rfl (v_fldB fo_31_0 rfl) gn rfl ?_
   refine wl_s 1 rfl (s_stB (vs := [.int .i64 2]) (cs' := [.int .i64 2, .string x11, .string (⟨#[]⟩ : ByteArray), .int .i64 0]) (M' := [.box g2 Tb3 [.string r247.2.s, .slice A249 n250 c251, .int .i64 r247.2.e, .int .i64 r247.2.at_], .own (.slice A249 n250 c251) 31 4 n250 (r247.2.l.flatMap enc_api_JNode), .own (.slice (some ⟨gb36, 0, none⟩) 1 1) 31 4 1 (([(⟨0, x11, (⟨#[]⟩ : ByteArray), 0⟩ : api_JNode)] : List api_JNode).flatMap enc_api_JNode), .box gb13 31 [.int .i64 2, .string x11, .string (⟨#[]⟩ : ByteArray), .int .i64 0]]) 3 sz_29 rfl rfl rfl rfl rfl rfl rfl rfl rfl ?_) gn
   refine w_end 2 rfl ?_
   refine g_region (c := q46c25) rfl rfl ?_
   refine wl_v 0 rfl (v_move rfl) gn rfl ?_
   refine wl_v 1 rfl (v_move rfl) gn rfl ?_
   obtain ⟨r261, hv262, h⟩ := h
   refine wl_s 2 rfl (s_call [.pointer (some ⟨g2, 0, none⟩), .int .i64 x10, .string (⟨#[102, 97, 108, 115, 101]⟩ : ByteArray)] rfl Tryd.func61 rfl rfl rfl fun w258 hL259 => ?_) gn
   have hp260 : List.Perm ([.box g2 Tb3 [.string r247.2.s, .slice A249 n250 c251, .int .i64 r247.2.e, .int .i64 r247.2.at_], .own (.slice A249 n250 c251) 31 4 n250 (r247.2.l.flatMap enc_api_JNode), .own (.slice (some ⟨gb36, 0, none⟩) 1 1) 31 4 1 (([(⟨0, x11, (⟨#[]⟩ : ByteArray), 0⟩ : api_JNode)] : List api_JNode).flatMap enc_api_JNode), .box gb13 31 [.int .i64 2, .string x11, .string (⟨#[]⟩ : ByteArray), .int .i64 0]] : List Ent) (([.box g2 Tb3 [.string r247.2.s, .slice A249 n250 c251, .int .i64 r247.2.e, .int .i64 r247.2.at_], .own (.slice A249 n250 c251) 31 4 n250 (r247.2.l.flatMap enc_api_JNode)] : List Ent) ++ ([.own (.slice (some ⟨gb36, 0, none⟩) 1 1) 31 4 1 (([(⟨0, x11, (⟨#[]⟩ : ByteArray), 0⟩ : api_JNode)] : List api_JNode).flatMap enc_api_JNode), .box gb13 31 [.int .i64 2, .string x11, .string (⟨#[]⟩ : ByteArray), .int .i64 0]] : List Ent)) := perm_of_idx [0, 1] [2, 3] rfl rfl (by kernel_rfl)
   refine Calls.mono (trellisref25_Reader_word_calls w258 (Fl ([] : List Snap)) r247.2 x10 (⟨#[102, 97, 108, 115, 101]⟩ : ByteArray) g2 Tb3 z8 A249 n250 c251 (Nat.le_trans hz9 hL259.env.size) h252 (hL259.hFl (Sl := ([] : List Snap)) hp260 (sels [] rfl)) (hL259.into hp260 (Fl ([] : List Snap))) r261 hv262) ?_
   rintro _ w268 ⟨A263, n264, c265, rfl, hM269, h266⟩
   have hL270 := hL259.call hp260 hM269
   refine ⟨_, _, _, rfl, hL270, ?_⟩
   refine wl_v 3 rfl (v_assign rfl) gn rfl ?_
   refine w_end 4 rfl ?_
   refine g_front 3 rfl ?_
   refine g_front 1 rfl ?_
   refine g_front 2 rfl ?_
   exact g_go [0, 1] (j1 r261.1 r261.2.s r261.2.l r261.2.e r261.2.at_ 2 (⟨#[]⟩ : ByteArray) 0 h A263 n264 c265 h266) ⟨rfl, rfl, rfl, rfl, trivial⟩ (.cons_cons _ (.cons_cons _ (.cons_cons _ (.cons _ (.slnil))))) rfl
  ·have h := if_neg' hp257 h
   refine g_false (c := q46c21) rfl _ rfl ((bf hp257)) ?_
   refine g_seq (c := q46c23) rfl ?_
   refine g_region (c := q46c26) rfl rfl ?_
   refine wl_v 0 rfl (v_move rfl) gn rfl ?_
   refine wl_v 1 rfl (v_move rfl) gn rfl ?_
   obtain ⟨r274, hv275, h⟩ := h
   refine wl_s 2 rfl (s_call [.pointer (some ⟨g2, 0, none⟩), .int .i64 x10, .string (⟨#[116]⟩ : ByteArray)] rfl Tryd.func60 rfl rfl rfl fun w271 hL272 => ?_) gn
   have hp273 : List.Perm ([.box g2 Tb3 [.string r247.2.s, .slice A249 n250 c251, .int .i64 r247.2.e, .int .i64 r247.2.at_], .own (.slice A249 n250 c251) 31 4 n250 (r247.2.l.flatMap enc_api_JNode), .own (.slice (some ⟨gb36, 0, none⟩) 1 1) 31 4 1 (([(⟨0, x11, (⟨#[]⟩ : ByteArray), 0⟩ : api_JNode)] : List api_JNode).flatMap enc_api_JNode), .box gb13 31 [.int .i64 0, .string x11, .string (⟨#[]⟩ : ByteArray), .int .i64 0]] : List Ent) (([.box g2 Tb3 [.string r247.2.s, .slice A249 n250 c251, .int .i64 r247.2.e, .int .i64 r247.2.at_], .own (.slice A249 n250 c251) 31 4 n250 (r247.2.l.flatMap enc_api_JNode)] : List Ent) ++ ([.own (.slice (some ⟨gb36, 0, none⟩) 1 1) 31 4 1 (([(⟨0, x11, (⟨#[]⟩ : ByteArray), 0⟩ : api_JNode)] : List api_JNode).flatMap enc_api_JNode), .box gb13 31 [.int .i64 0, .string x11, .string (⟨#[]⟩ : ByteArray), .int .i64 0]] : List Ent)) := perm_of_idx [0, 1] [2, 3] rfl rfl (by kernel_rfl)
   refine Calls.mono (trellisref25_Reader_has_calls w271 (Fl ([] : List Snap)) r247.2 x10 (⟨#[116]⟩ : ByteArray) g2 Tb3 z8 A249 n250 c251 (Nat.le_trans hz9 hL272.env.size) h252 (hL272.hFl (Sl := ([] : List Snap)) hp273 (sels [] rfl)) (hL272.into hp273 (Fl ([] : List Snap))) r274 hv275) ?_
   rintro _ w281 ⟨A276, n277, c278, rfl, hM282, h279⟩
   have hL283 := hL272.call hp273 hM282
   refine ⟨_, _, _, rfl, hL283, ?_⟩
   refine wl_v 3 rfl (v_assign rfl) gn rfl ?_
   refine w_end 4 rfl ?_
   by_cases hp284 : r274.1 = true
   ·have h := if_pos' hp284 h
    refine g_true (c := q46c27) rfl _ rfl (hp284) ?_
    refine g_seq (c := q46c28) rfl ?_
    refine g_region (c := q46c30) rfl rfl ?_
    refine wl_v 0 rfl (v_fldB fo_31_0 rfl) gn rfl ?_
    refine wl_s 1 rfl (s_stB (vs := [.int .i64 3]) (cs' := [.int .i64 3, .string x11, .string (⟨#[]⟩ : ByteArray), .int .i64 0]) (M' := [.box g2 Tb3 [.string r274.2.s, .slice A276 n277 c278, .int .i64 r274.2.e, .int .i64 r274.2.at_], .own (.slice A276 n277 c278) 31 4 n277 (r274.2.l.flatMap enc_api_JNode), .own (.slice (some ⟨gb36, 0, none⟩) 1 1) 31 4 1 (([(⟨0, x11, (⟨#[]⟩ : ByteArray), 0⟩ : api_JNode)] : List api_JNode).flatMap enc_api_JNode), .box gb13 31 [.int .i64 3, .string x11, .string (⟨#[]⟩ : ByteArray), .int .i64 0]]) 3 sz_29 rfl rfl rfl rfl rfl rfl rfl rfl rfl ?_) gn
    refine w_end 2 rfl ?_
    refine g_region (c := q46c31) rfl rfl ?_
    refine wl_v 0 rfl (v_move rfl) gn rfl ?_
    refine wl_v 1 rfl (v_move rfl) gn rfl ?_
    obtain ⟨r288, hv289, h⟩ := h
    refine wl_s 2 rfl (s_call [.pointer (some ⟨g2, 0, none⟩), .int .i64 x10, .string (⟨#[116, 114, 117, 101]⟩ : ByteArray)] rfl Tryd.func61 rfl rfl rfl fun w285 hL286 => ?_) gn
    have hp287 : List.Perm ([.box g2 Tb3 [.string r274.2.s, .slice A276 n277 c278, .int .i64 r274.2.e, .int .i64 r274.2.at_], .own (.slice A276 n277 c278) 31 4 n277 (r274.2.l.flatMap enc_api_JNode), .own (.slice (some ⟨gb36, 0, none⟩) 1 1) 31 4 1 (([(⟨0, x11, (⟨#[]⟩ : ByteArray), 0⟩ : api_JNode)] : List api_JNode).flatMap enc_api_JNode), .box gb13 31 [.int .i64 3, .string x11, .string (⟨#[]⟩ : ByteArray), .int .i64 0]] : List Ent) (([.box g2 Tb3 [.string r274.2.s, .slice A276 n277 c278, .int .i64 r274.2.e, .int .i64 r274.2.at_], .own (.slice A276 n277 c278) 31 4 n277 (r274.2.l.flatMap enc_api_JNode)] : List Ent) ++ ([.own (.slice (some ⟨gb36, 0, none⟩) 1 1) 31 4 1 (([(⟨0, x11, (⟨#[]⟩ : ByteArray), 0⟩ : api_JNode)] : List api_JNode).flatMap enc_api_JNode), .box gb13 31 [.int .i64 3, .string x11, .string (⟨#[]⟩ : ByteArray), .int .i64 0]] : List Ent)) := perm_of_idx [0, 1] [2, 3] rfl rfl (by kernel_rfl)
    refine Calls.mono (trellisref25_Reader_word_calls w285 (Fl ([] : List Snap)) r274.2 x10 (⟨#[116, 114, 117, 101]⟩ : ByteArray) g2 Tb3 z8 A276 n277 c278 (Nat.le_trans hz9 hL286.env.size) h279 (hL286.hFl (Sl := ([] : List Snap)) hp287 (sels [] rfl)) (hL286.into hp287 (Fl ([] : List Snap))) r288 hv289) ?_
    rintro _ w295 ⟨A290, n291, c292, rfl, hM296, h293⟩
    have hL297 := hL286.call hp287 hM296
    refine ⟨_, _, _, rfl, hL297, ?_⟩
    refine wl_v 3 rfl (v_assign rfl) gn rfl ?_
    refine w_end 4 rfl ?_
    refine g_front 3 rfl ?_
    refine g_front 1 rfl ?_
    refine g_front 2 rfl ?_
    exact g_go [0, 1] (j1 r288.1 r288.2.s r288.2.l r288.2.e r288.2.at_ 3 (⟨#[]⟩ : ByteArray) 0 h A290 n291 c292 h293) ⟨rfl, rfl, rfl, rfl, trivial⟩ (.cons_cons _ (.cons_cons _ (.cons_cons _ (.cons _ (.slnil))))) rfl
   ·have h := if_neg' hp284 h
    refine g_false (c := q46c27) rfl _ rfl ((bf hp284)) ?_
    refine g_seq (c := q46c29) rfl ?_
    refine g_region (c := q46c32) rfl rfl ?_
    refine wl_v 0 rfl (v_move rfl) gn rfl ?_
    refine wl_v 1 rfl (v_move rfl) gn rfl ?_
    obtain ⟨r301, hv302, h⟩ := h
    refine wl_s 2 rfl (s_call [.pointer (some ⟨g2, 0, none⟩), .int .i64 x10, .string (⟨#[34]⟩ : ByteArray)] rfl Tryd.func60 rfl rfl rfl fun w298 hL299 => ?_) gn
    have hp300 : List.Perm ([.box g2 Tb3 [.string r274.2.s, .slice A276 n277 c278, .int .i64 r274.2.e, .int .i64 r274.2.at_], .own (.slice A276 n277 c278) 31 4 n277 (r274.2.l.flatMap enc_api_JNode), .own (.slice (some ⟨gb36, 0, none⟩) 1 1) 31 4 1 (([(⟨0, x11, (⟨#[]⟩ : ByteArray), 0⟩ : api_JNode)] : List api_JNode).flatMap enc_api_JNode), .box gb13 31 [.int .i64 0, .string x11, .string (⟨#[]⟩ : ByteArray), .int .i64 0]] : List Ent) (([.box g2 Tb3 [.string r274.2.s, .slice A276 n277 c278, .int .i64 r274.2.e, .int .i64 r274.2.at_], .own (.slice A276 n277 c278) 31 4 n277 (r274.2.l.flatMap enc_api_JNode)] : List Ent) ++ ([.own (.slice (some ⟨gb36, 0, none⟩) 1 1) 31 4 1 (([(⟨0, x11, (⟨#[]⟩ : ByteArray), 0⟩ : api_JNode)] : List api_JNode).flatMap enc_api_JNode), .box gb13 31 [.int .i64 0, .string x11, .string (⟨#[]⟩ : ByteArray), .int .i64 0]] : List Ent)) := perm_of_idx [0, 1] [2, 3] rfl rfl (by kernel_rfl)
    refine Calls.mono (trellisref25_Reader_has_calls w298 (Fl ([] : List Snap)) r274.2 x10 (⟨#[34]⟩ : ByteArray) g2 Tb3 z8 A276 n277 c278 (Nat.le_trans hz9 hL299.env.size) h279 (hL299.hFl (Sl := ([] : List Snap)) hp300 (sels [] rfl)) (hL299.into hp300 (Fl ([] : List Snap))) r301 hv302) ?_
    rintro _ w308 ⟨A303, n304, c305, rfl, hM309, h306⟩
    have hL310 := hL299.call hp300 hM309
    refine ⟨_, _, _, rfl, hL310, ?_⟩
    refine wl_v 3 rfl (v_assign rfl) gn rfl ?_
    refine w_end 4 rfl ?_
    by_cases hp311 : r301.1 = true
    ·have h := if_pos' hp311 h
     refine g_true (c := q46c33) rfl _ rfl (hp311) ?_
     refine g_seq (c := q46c34) rfl ?_
     refine g_region (c := q46c36) rfl rfl ?_
     refine wl_v 0 rfl (v_fldB fo_31_0 rfl) gn rfl ?_
     refine wl_s 1 rfl (s_stB (vs := [.int .i64 5]) (cs' := [.int .i64 5, .string x11, .string (⟨#[]⟩ : ByteArray), .int .i64 0]) (M' := [.box g2 Tb3 [.string r301.2.s, .slice A303 n304 c305, .int .i64 r301.2.e, .int .i64 r301.2.at_], .own (.slice A303 n304 c305) 31 4 n304 (r301.2.l.flatMap enc_api_JNode), .own (.slice (some ⟨gb36, 0, none⟩) 1 1) 31 4 1 (([(⟨0, x11, (⟨#[]⟩ : ByteArray), 0⟩ : api_JNode)] : List api_JNode).flatMap enc_api_JNode), .box gb13 31 [.int .i64 5, .string x11, .string (⟨#[]⟩ : ByteArray), .int .i64 0]]) 3 sz_29 rfl rfl rfl rfl rfl rfl rfl rfl rfl ?_) gn
     refine w_end 2 rfl ?_
     refine g_region (c := q46c37) rfl rfl ?_
     refine wl_v 0 rfl (v_move rfl) gn rfl ?_
     refine wl_v 1 rfl (v_move rfl) gn rfl ?_
     obtain ⟨r315, hv316, h⟩ := h
     refine wl_s 2 rfl (s_call [.pointer (some ⟨g2, 0, none⟩), .int .i64 x10] rfl Tryd.func62 rfl rfl rfl fun w312 hL313 => ?_) gn
     have hp314 : List.Perm ([.box g2 Tb3 [.string r301.2.s, .slice A303 n304 c305, .int .i64 r301.2.e, .int .i64 r301.2.at_], .own (.slice A303 n304 c305) 31 4 n304 (r301.2.l.flatMap enc_api_JNode), .own (.slice (some ⟨gb36, 0, none⟩) 1 1) 31 4 1 (([(⟨0, x11, (⟨#[]⟩ : ByteArray), 0⟩ : api_JNode)] : List api_JNode).flatMap enc_api_JNode), .box gb13 31 [.int .i64 5, .string x11, .string (⟨#[]⟩ : ByteArray), .int .i64 0]] : List Ent) (([.box g2 Tb3 [.string r301.2.s, .slice A303 n304 c305, .int .i64 r301.2.e, .int .i64 r301.2.at_], .own (.slice A303 n304 c305) 31 4 n304 (r301.2.l.flatMap enc_api_JNode)] : List Ent) ++ ([.own (.slice (some ⟨gb36, 0, none⟩) 1 1) 31 4 1 (([(⟨0, x11, (⟨#[]⟩ : ByteArray), 0⟩ : api_JNode)] : List api_JNode).flatMap enc_api_JNode), .box gb13 31 [.int .i64 5, .string x11, .string (⟨#[]⟩ : ByteArray), .int .i64 0]] : List Ent)) := perm_of_idx [0, 1] [2, 3] rfl rfl (by kernel_rfl)
     refine Calls.mono (trellisref25_Reader_str_calls w312 (Fl ([] : List Snap)) r301.2 x10 g2 Tb3 z8 A303 n304 c305 (Nat.le_trans hz9 hL313.env.size) h306 (hL313.hFl (Sl := ([] : List Snap)) hp314 (sels [] rfl)) (hL313.into hp314 (Fl ([] : List Snap))) r315 hv316) ?_
     rintro _ w322 ⟨A317, n318, c319, rfl, hM323, h320⟩
     have hL324 := hL313.call hp314 hM323
     refine ⟨_, _, _, rfl, hL324, ?_⟩
     refine wl_v 3 rfl (v_move rfl) gn rfl ?_
     refine wl_v 4 rfl (v_extract rfl rfl) gn rfl ?_
     refine wl_v 5 rfl (v_extract rfl rfl) gn rfl ?_
     refine wl_v 6 rfl (v_fldB fo_31_2 rfl) gn rfl ?_
     refine wl_s 7 rfl (s_stB (vs := [.string r315.1]) (cs' := [.int .i64 5, .string x11, .string r315.1, .int .i64 0]) (M' := [.box g2 Tb3 [.string r315.2.2.s, .slice A317 n318 c319, .int .i64 r315.2.2.e, .int .i64 r315.2.2.at_], .own (.slice A317 n318 c319) 31 4 n318 (r315.2.2.l.flatMap enc_api_JNode), .own (.slice (some ⟨gb36, 0, none⟩) 1 1) 31 4 1 (([(⟨0, x11, (⟨#[]⟩ : ByteArray), 0⟩ : api_JNode)] : List api_JNode).flatMap enc_api_JNode), .box gb13 31 [.int .i64 5, .string x11, .string r315.1, .int .i64 0]]) 3 sz_9 rfl rfl rfl rfl rfl rfl rfl rfl rfl ?_) gn
     refine wl_v 8 rfl (v_assign rfl) gn rfl ?_
     refine w_end 9 rfl ?_
     refine g_front 3 rfl ?_
     refine g_front 1 rfl ?_
     refine g_front 2 rfl ?_
     exact g_go [0, 1] (j1 r315.2.1 r315.2.2.s r315.2.2.l r315.2.2.e r315.2.2.at_ 5 r315.1 0 h A317 n318 c319 h320) ⟨rfl, rfl, rfl, rfl, trivial⟩ (.cons_cons _ (.cons_cons _ (.cons_cons _ (.cons _ (.slnil))))) rfl
    ·have h := if_neg' hp311 h
     refine g_false (c := q46c33) rfl _ rfl ((bf hp311)) ?_
     refine g_seq (c := q46c35) rfl ?_
     refine g_region (c := q46c38) rfl rfl ?_
     refine wl_v 0 rfl (v_move rfl) gn rfl ?_
     refine wl_v 1 rfl (v_move rfl) gn rfl ?_
     obtain ⟨r328, hv329, h⟩ := h
     refine wl_s 2 rfl (s_call [.pointer (some ⟨g2, 0, none⟩), .int .i64 x10, .string (⟨#[91, 123]⟩ : ByteArray)] rfl Tryd.func60 rfl rfl rfl fun w325 hL326 => ?_) gn
     have hp327 : List.Perm ([.box g2 Tb3 [.string r301.2.s, .slice A303 n304 c305, .int .i64 r301.2.e, .int .i64 r301.2.at_], .own (.slice A303 n304 c305) 31 4 n304 (r301.2.l.flatMap enc_api_JNode), .own (.slice (some ⟨gb36, 0, none⟩) 1 1) 31 4 1 (([(⟨0, x11, (⟨#[]⟩ : ByteArray), 0⟩ : api_JNode)] : List api_JNode).flatMap enc_api_JNode), .box gb13 31 [.int .i64 0, .string x11, .string (⟨#[]⟩ : ByteArray), .int .i64 0]] : List Ent) (([.box g2 Tb3 [.string r301.2.s, .slice A303 n304 c305, .int .i64 r301.2.e, .int .i64 r301.2.at_], .own (.slice A303 n304 c305) 31 4 n304 (r301.2.l.flatMap enc_api_JNode)] : List Ent) ++ ([.own (.slice (some ⟨gb36, 0, none⟩) 1 1) 31 4 1 (([(⟨0, x11, (⟨#[]⟩ : ByteArray), 0⟩ : api_JNode)] : List api_JNode).flatMap enc_api_JNode), .box gb13 31 [.int .i64 0, .string x11, .string (⟨#[]⟩ : ByteArray), .int .i64 0]] : List Ent)) := perm_of_idx [0, 1] [2, 3] rfl rfl (by kernel_rfl)
     refine Calls.mono (trellisref25_Reader_has_calls w325 (Fl ([] : List Snap)) r301.2 x10 (⟨#[91, 123]⟩ : ByteArray) g2 Tb3 z8 A303 n304 c305 (Nat.le_trans hz9 hL326.env.size) h306 (hL326.hFl (Sl := ([] : List Snap)) hp327 (sels [] rfl)) (hL326.into hp327 (Fl ([] : List Snap))) r328 hv329) ?_
     rintro _ w335 ⟨A330, n331, c332, rfl, hM336, h333⟩
     have hL337 := hL326.call hp327 hM336
     refine ⟨_, _, _, rfl, hL337, ?_⟩
     refine wl_v 3 rfl (v_assign rfl) gn rfl ?_
     refine w_end 4 rfl ?_
     by_cases hp338 : r328.1 = true
     ·have h := if_pos' hp338 h
      refine g_true (c := q46c39) rfl _ rfl (hp338) ?_
      refine g_seq (c := q46c40) rfl ?_
      refine g_region (c := q46c42) rfl rfl ?_
      refine wl_v 0 rfl (v_fldB fo_31_0 rfl) gn rfl ?_
      refine wl_s 1 rfl (s_stB (vs := [.int .i64 6]) (cs' := [.int .i64 6, .string x11, .string (⟨#[]⟩ : ByteArray), .int .i64 0]) (M' := [.box g2 Tb3 [.string r328.2.s, .slice A330 n331 c332, .int .i64 r328.2.e, .int .i64 r328.2.at_], .own (.slice A330 n331 c332) 31 4 n331 (r328.2.l.flatMap enc_api_JNode), .own (.slice (some ⟨gb36, 0, none⟩) 1 1) 31 4 1 (([(⟨0, x11, (⟨#[]⟩ : ByteArray), 0⟩ : api_JNode)] : List api_JNode).flatMap enc_api_JNode), .box gb13 31 [.int .i64 6, .string x11, .string (⟨#[]⟩ : ByteArray), .int .i64 0]]) 3 sz_29 rfl rfl rfl rfl rfl rfl rfl rfl rfl ?_) gn
      refine w_end 2 rfl ?_
      refine g_seq (c := q46c43) rfl ?_
      refine g_seq (c := q46c44) rfl ?_
      refine g_region (c := q46c46) rfl rfl ?_
      refine wl_v 0 rfl (v_move rfl) gn rfl ?_
      refine wl_v 1 rfl (v_nilCheck rfl) gn rfl ?_
      refine wl_v 2 rfl (v_fldB fo_73_0 rfl) gn rfl ?_
      refine wl_v 3 rfl (v_ldB1 0 ld_9 rfl rfl rfl) gn rfl ?_
      refine wl_v 4 rfl (v_move rfl) gn rfl ?_
      obtain ⟨hb339, h⟩ := h
      refine wl_v 5 rfl (v_indexS un_9 rfl rfl hb339) gn rfl ?_
      refine wl_v 6 rfl (v_bin rfl rfl rfl) gn rfl ?_
      refine w_end 7 rfl ?_
      have j2 : ∀ (x342 : Int) (h : trellisref25_Reader_value_j2 x12 r328 x10 rc_trellisref25_Reader_all x1 x11 x342 r) , G (trellisref25_Reader_value_C w F g2 Tb3 A4 n5 c6 z8 r) [.code q46c45, .inBlock 0, .code q46c12] [(0, .pointer (some ⟨g2, 0, none⟩)), (1, .int .i64 x10), (3, .int .i64 x12), (9, .int .i64 (x1.l.length : Int)), (10, .pointer (some ⟨gb13, 0, none⟩))] [.box g2 Tb3 [.string r328.2.s, .slice A330 n331 c332, .int .i64 r328.2.e, .int .i64 r328.2.at_], .own (.slice A330 n331 c332) 31 4 n331 (r328.2.l.flatMap enc_api_JNode), .box gb13 31 [.int .i64 x342, .string x11, .string (⟨#[]⟩ : ByteArray), .int .i64 0]] [Sm w.heap.size F w [[g2], (Value.slice A4 n5 c6).ownBlock.toList], St w [[g2], (Value.slice A4 n5 c6).ownBlock.toList]] := by
       intro x342 h
       unfold trellisref25_Reader_value_j2 at h
       refine g_seq (c := q46c45) rfl ?_
       refine g_seq (c := q46c50) rfl ?_
       refine g_region (c := q46c52) rfl rfl ?_
       refine wl_v 0 rfl (v_move rfl) gn rfl ?_
       refine wl_v 1 rfl (v_bin rfl rfl rfl) gn rfl ?_
       refine w_end 2 rfl ?_
       by_cases hp343 : x12 ≥ 64
       ·have h := if_pos' hp343 h
        refine g_true (c := q46c53) rfl _ rfl ((decide_eq_true hp343)) ?_
        refine g_seq (c := q46c54) rfl ?_
        refine g_region (c := q46c56) rfl rfl ?_
        refine wl_v 0 rfl (v_move rfl) gn rfl ?_
        refine wl_v 1 rfl (v_move rfl) gn rfl ?_
        obtain ⟨r347, hv348, h⟩ := h
        refine wl_s 2 rfl (s_call [.pointer (some ⟨g2, 0, none⟩), .int .i64 251, .int .i64 x10] rfl Tryd.func47 rfl rfl rfl fun w344 hL345 => ?_) gn
        have hp346 : List.Perm ([.box g2 Tb3 [.string r328.2.s, .slice A330 n331 c332, .int .i64 r328.2.e, .int .i64 r328.2.at_], .own (.slice A330 n331 c332) 31 4 n331 (r328.2.l.flatMap enc_api_JNode), .box gb13 31 [.int .i64 x342, .string x11, .string (⟨#[]⟩ : ByteArray), .int .i64 0]] : List Ent) (([.box g2 Tb3 [.string r328.2.s, .slice A330 n331 c332, .int .i64 r328.2.e, .int .i64 r328.2.at_], .own (.slice A330 n331 c332) 31 4 n331 (r328.2.l.flatMap enc_api_JNode)] : List Ent) ++ ([.box gb13 31 [.int .i64 x342, .string x11, .string (⟨#[]⟩ : ByteArray), .int .i64 0]] : List Ent)) := perm_of_idx [0, 1] [2] rfl rfl (by kernel_rfl)
        refine Calls.mono (trellisref25_Reader_stop_calls w344 (Fl ([] : List Snap)) r328.2 251 x10 g2 Tb3 z8 A330 n331 c332 (Nat.le_trans hz9 hL345.env.size) h333 (hL345.hFl (Sl := ([] : List Snap)) hp346 (sels [] rfl)) (hL345.into hp346 (Fl ([] : List Snap))) r347 hv348) ?_
        rintro _ w354 ⟨A349, n350, c351, rfl, hM355, h352⟩
        have hL356 := hL345.call hp346 hM355
        refine ⟨_, _, _, rfl, hL356, ?_⟩
        refine wl_v 3 rfl (v_assign rfl) gn rfl ?_
        refine w_end 4 rfl ?_
        refine g_retR (c := q46c57) [.int .i64 r347.1] rfl Tryd.func46 rfl (.tmp rfl (.nil)) fun wr hLr => ?_
        have hMr : B.Loc w wr [.box g2 Tb3 [.string r347.2.s, .slice A349 n350 c351, .int .i64 r347.2.e, .int .i64 r347.2.at_], .own (.slice A349 n350 c351) 31 4 n350 (r347.2.l.flatMap enc_api_JNode)] [St w [[g2], (Value.slice A4 n5 c6).ownBlock.toList]] := hLr.pick (rest := [.box gb13 31 [.int .i64 x342, .string x11, .string (⟨#[]⟩ : ByteArray), .int .i64 0]]) (perm_of_idx [0, 1] [2] rfl rfl (by kernel_rfl)) (sels [1] rfl)
        show trellisref25_Reader_value_R w F g2 Tb3 A4 n5 c6 z8 r (.returned (packV [.int .i64 r347.1])) wr
        rw [h]
        exact ⟨A349, n350, c351, rfl, hMr, h352⟩
       ·have h := if_neg' hp343 h
        refine g_false (c := q46c53) rfl _ rfl ((decide_eq_false hp343)) ?_
        refine g_skip (c := q46c55) rfl ?_
        refine g_region (c := q46c51) rfl rfl ?_
        refine wl_v 0 rfl (v_move rfl) gn rfl ?_
        refine wl_v 1 rfl (v_move rfl) gn rfl ?_
        refine wl_v 2 rfl (v_fldB fo_31_0 rfl) gn rfl ?_
        refine wl_v 3 rfl (v_ldB1 2 ld_29 rfl rfl rfl) gn rfl ?_
        refine wl_v 4 rfl (v_move rfl) gn rfl ?_
        refine wl_v 5 rfl (v_bin rfl rfl rfl) gn rfl ?_
        obtain ⟨r360, hv361, h⟩ := h
        refine wl_s 6 rfl (s_call [.pointer (some ⟨g2, 0, none⟩), .int .i64 x10, .int .i64 x342, .int .i64 (w64 (x12 + 1))] rfl Tryd.func63 rfl rfl rfl fun w357 hL358 => ?_) gn
        have hp359 : List.Perm ([.box g2 Tb3 [.string r328.2.s, .slice A330 n331 c332, .int .i64 r328.2.e, .int .i64 r328.2.at_], .own (.slice A330 n331 c332) 31 4 n331 (r328.2.l.flatMap enc_api_JNode), .box gb13 31 [.int .i64 x342, .string x11, .string (⟨#[]⟩ : ByteArray), .int .i64 0]] : List Ent) (([.box g2 Tb3 [.string r328.2.s, .slice A330 n331 c332, .int .i64 r328.2.e, .int .i64 r328.2.at_], .own (.slice A330 n331 c332) 31 4 n331 (r328.2.l.flatMap enc_api_JNode)] : List Ent) ++ ([.box gb13 31 [.int .i64 x342, .string x11, .string (⟨#[]⟩ : ByteArray), .int .i64 0]] : List Ent)) := perm_of_idx [0, 1] [2] rfl rfl (by kernel_rfl)
        refine Calls.mono (ih_trellisref25_Reader_all w357 (Fl ([] : List Snap)) r328.2 x10 x342 (w64 (x12 + 1)) g2 Tb3 z8 A330 n331 c332 (Nat.le_trans hz9 hL358.env.size) h333 (hL358.hFl (Sl := ([] : List Snap)) hp359 (sels [] rfl)) (hL358.into hp359 (Fl ([] : List Snap))) r360 hv361) ?_
        rintro _ w367 ⟨A362, n363, c364, rfl, hM368, h365⟩
        have hL369 := hL358.call hp359 hM368
        refine ⟨_, _, _, rfl, hL369, ?_⟩
        refine wl_v 7 rfl (v_move rfl) gn rfl ?_
        refine wl_v 8 rfl (v_extract rfl rfl) gn rfl ?_
        refine wl_v 9 rfl (v_extract rfl rfl) gn rfl ?_
        refine wl_v 10 rfl (v_fldB fo_31_3 rfl) gn rfl ?_
        refine wl_s 11 rfl (s_stB (vs := [.int .i64 r360.1]) (cs' := [.int .i64 x342, .string x11, .string (⟨#[]⟩ : ByteArray), .int .i64 r360.1]) (M' := [.box g2 Tb3 [.string r360.2.2.s, .slice A362 n363 c364, .int .i64 r360.2.2.e, .int .i64 r360.2.2.at_], .own (.slice A362 n363 c364) 31 4 n363 (r360.2.2.l.flatMap enc_api_JNode), .box gb13 31 [.int .i64 x342, .string x11, .string (⟨#[]⟩ : ByteArray), .int .i64 r360.1]]) 2 sz_3 rfl rfl rfl rfl rfl rfl rfl rfl rfl ?_) gn
        refine wl_v 12 rfl (v_assign rfl) gn rfl ?_
        refine w_end 13 rfl ?_
        refine g_front 2 rfl ?_
        refine g_front 1 rfl ?_
        refine g_front 2 rfl ?_
        exact g_go [0, 1] (j1 r360.2.1 r360.2.2.s r360.2.2.l r360.2.2.e r360.2.2.at_ x342 (⟨#[]⟩ : ByteArray) r360.1 h A362 n363 c364 h365) ⟨rfl, rfl, rfl, rfl, trivial⟩ (.cons_cons _ (.cons_cons _ (.cons_cons _ (.slnil)))) rfl
      by_cases hp340 : bt r328.2.s x10 = 123
      ·have h := if_pos' hp340 h
       refine g_true (c := q46c47) rfl _ rfl ((eqi hp340)) ?_
       refine g_region (c := q46c48) rfl rfl ?_
       refine wl_v 0 rfl (v_fldB fo_31_0 rfl) gn rfl ?_
       refine wl_s 1 rfl (s_stB (vs := [.int .i64 7]) (cs' := [.int .i64 7, .string x11, .string (⟨#[]⟩ : ByteArray), .int .i64 0]) (M' := [.box g2 Tb3 [.string r328.2.s, .slice A330 n331 c332, .int .i64 r328.2.e, .int .i64 r328.2.at_], .own (.slice A330 n331 c332) 31 4 n331 (r328.2.l.flatMap enc_api_JNode), .own (.slice (some ⟨gb36, 0, none⟩) 1 1) 31 4 1 (([(⟨0, x11, (⟨#[]⟩ : ByteArray), 0⟩ : api_JNode)] : List api_JNode).flatMap enc_api_JNode), .box gb13 31 [.int .i64 7, .string x11, .string (⟨#[]⟩ : ByteArray), .int .i64 0]]) 3 sz_29 rfl rfl rfl rfl rfl rfl rfl rfl rfl ?_) gn
       refine w_end 2 rfl ?_
       exact g_go [0, 1] (j2 7 h) ⟨rfl, rfl, rfl, rfl, rfl, trivial⟩ (.cons_cons _ (.cons_cons _ (.cons _ (.cons_cons _ (.slnil))))) rfl
      ·have h := if_neg' hp340 h
       refine g_false (c := q46c47) rfl _ rfl ((nei hp340)) ?_
       refine g_skip (c := q46c49) rfl ?_
       exact g_go [0, 1] (j2 6 h) ⟨rfl, rfl, rfl, rfl, rfl, trivial⟩ (.cons_cons _ (.cons_cons _ (.cons _ (.cons_cons _ (.slnil))))) rfl
     ·have h := if_neg' hp338 h
      refine g_false (c := q46c39) rfl _ rfl ((bf hp338)) ?_
      refine g_seq (c := q46c41) rfl ?_
      refine g_region (c := q46c58) rfl rfl ?_
      refine wl_v 0 rfl (v_fldB fo_31_0 rfl) gn rfl ?_
      refine wl_s 1 rfl (s_stB (vs := [.int .i64 4]) (cs' := [.int .i64 4, .string x11, .string (⟨#[]⟩ : ByteArray), .int .i64 0]) (M' := [.box g2 Tb3 [.string r328.2.s, .slice A330 n331 c332, .int .i64 r328.2.e, .int .i64 r328.2.at_], .own (.slice A330 n331 c332) 31 4 n331 (r328.2.l.flatMap enc_api_JNode), .own (.slice (some ⟨gb36, 0, none⟩) 1 1) 31 4 1 (([(⟨0, x11, (⟨#[]⟩ : ByteArray), 0⟩ : api_JNode)] : List api_JNode).flatMap enc_api_JNode), .box gb13 31 [.int .i64 4, .string x11, .string (⟨#[]⟩ : ByteArray), .int .i64 0]]) 3 sz_29 rfl rfl rfl rfl rfl rfl rfl rfl rfl ?_) gn
      refine w_end 2 rfl ?_
      refine g_seq (c := q46c59) rfl ?_
      refine g_region (c := q46c60) rfl rfl ?_
      refine wl_v 0 rfl (v_move rfl) gn rfl ?_
      refine wl_v 1 rfl (v_move rfl) gn rfl ?_
      obtain ⟨r373, hv374, h⟩ := h
      refine wl_s 2 rfl (s_call [.pointer (some ⟨g2, 0, none⟩), .int .i64 x10] rfl Tryd.func64 rfl rfl rfl fun w370 hL371 => ?_) gn
      have hp372 : List.Perm ([.box g2 Tb3 [.string r328.2.s, .slice A330 n331 c332, .int .i64 r328.2.e, .int .i64 r328.2.at_], .own (.slice A330 n331 c332) 31 4 n331 (r328.2.l.flatMap enc_api_JNode), .own (.slice (some ⟨gb36, 0, none⟩) 1 1) 31 4 1 (([(⟨0, x11, (⟨#[]⟩ : ByteArray), 0⟩ : api_JNode)] : List api_JNode).flatMap enc_api_JNode), .box gb13 31 [.int .i64 4, .string x11, .string (⟨#[]⟩ : ByteArray), .int .i64 0]] : List Ent) (([.box g2 Tb3 [.string r328.2.s, .slice A330 n331 c332, .int .i64 r328.2.e, .int .i64 r328.2.at_], .own (.slice A330 n331 c332) 31 4 n331 (r328.2.l.flatMap enc_api_JNode)] : List Ent) ++ ([.own (.slice (some ⟨gb36, 0, none⟩) 1 1) 31 4 1 (([(⟨0, x11, (⟨#[]⟩ : ByteArray), 0⟩ : api_JNode)] : List api_JNode).flatMap enc_api_JNode), .box gb13 31 [.int .i64 4, .string x11, .string (⟨#[]⟩ : ByteArray), .int .i64 0]] : List Ent)) := perm_of_idx [0, 1] [2, 3] rfl rfl (by kernel_rfl)
      refine Calls.mono (trellisref25_Reader_number_calls w370 (Fl ([] : List Snap)) r328.2 x10 g2 Tb3 z8 A330 n331 c332 (Nat.le_trans hz9 hL371.env.size) h333 (hL371.hFl (Sl := ([] : List Snap)) hp372 (sels [] rfl)) (hL371.into hp372 (Fl ([] : List Snap))) r373 hv374) ?_
      rintro _ w380 ⟨A375, n376, c377, rfl, hM381, h378⟩
      have hL382 := hL371.call hp372 hM381
      refine ⟨_, _, _, rfl, hL382, ?_⟩
      refine wl_v 3 rfl (v_assign rfl) gn rfl ?_
      refine w_end 4 rfl ?_
      refine g_seq (c := q46c61) rfl ?_
      refine g_region (c := q46c62) rfl rfl ?_
      refine wl_v 0 rfl (v_move rfl) gn rfl ?_
      refine wl_v 1 rfl (v_nilCheck rfl) gn rfl ?_
      refine wl_v 2 rfl (v_fldB fo_73_2 rfl) gn rfl ?_
      refine wl_v 3 rfl (v_ldB1 0 ld_34 rfl rfl rfl) gn rfl ?_
      refine wl_v 4 rfl (v_bin rfl rfl rfl) gn rfl ?_
      refine w_end 5 rfl ?_
      by_cases hp383 : r373.2.e = 0
      ·have h := if_pos' hp383 h
       refine g_true (c := q46c63) rfl _ rfl ((eqi hp383)) ?_
       refine g_region (c := q46c64) rfl rfl ?_
       refine wl_v 0 rfl (v_move rfl) gn rfl ?_
       refine wl_v 1 rfl (v_nilCheck rfl) gn rfl ?_
       refine wl_v 2 rfl (v_fldB fo_73_0 rfl) gn rfl ?_
       refine wl_v 3 rfl (v_ldB1 0 ld_9 rfl rfl rfl) gn rfl ?_
       refine wl_v 4 rfl (v_move rfl) gn rfl ?_
       refine wl_v 5 rfl (v_move rfl) gn rfl ?_
       obtain ⟨hb384, h⟩ := h
       refine wl_v 6 rfl (v_cutS x10 r373.1 un_9 rfl (.inr ⟨_, _, rfl, rfl⟩) (.inr ⟨_, _, rfl, rfl⟩) ⟨hb384.1, hb384.2.1⟩ hb384.2.2) gn rfl ?_
       refine wl_v 7 rfl (v_fldB fo_31_2 rfl) gn rfl ?_
       refine wl_s 8 rfl (s_stB (vs := [.string (r373.2.s.extract (x10 : Int).toNat (r373.1 : Int).toNat)]) (cs' := [.int .i64 4, .string x11, .string (r373.2.s.extract (x10 : Int).toNat (r373.1 : Int).toNat), .int .i64 0]) (M' := [.box g2 Tb3 [.string r373.2.s, .slice A375 n376 c377, .int .i64 r373.2.e, .int .i64 r373.2.at_], .own (.slice A375 n376 c377) 31 4 n376 (r373.2.l.flatMap enc_api_JNode), .own (.slice (some ⟨gb36, 0, none⟩) 1 1) 31 4 1 (([(⟨0, x11, (⟨#[]⟩ : ByteArray), 0⟩ : api_JNode)] : List api_JNode).flatMap enc_api_JNode), .box gb13 31 [.int .i64 4, .string x11, .string (r373.2.s.extract (x10 : Int).toNat (r373.1 : Int).toNat), .int .i64 0]]) 3 sz_9 rfl rfl rfl rfl rfl rfl rfl rfl rfl ?_) gn
       refine w_end 9 rfl ?_
       refine g_front 3 rfl ?_
       refine g_front 1 rfl ?_
       refine g_front 2 rfl ?_
       exact g_go [0, 1] (j1 r373.1 r373.2.s r373.2.l r373.2.e r373.2.at_ 4 (r373.2.s.extract (x10 : Int).toNat (r373.1 : Int).toNat) 0 h A375 n376 c377 h378) ⟨rfl, rfl, rfl, rfl, trivial⟩ (.cons_cons _ (.cons_cons _ (.cons_cons _ (.cons _ (.slnil))))) rfl
      ·have h := if_neg' hp383 h
       refine g_false (c := q46c63) rfl _ rfl ((nei hp383)) ?_
       refine g_skip (c := q46c65) rfl ?_
       refine g_front 3 rfl ?_
       refine g_front 1 rfl ?_
       refine g_front 2 rfl ?_
       exact g_go [0, 1] (j1 r373.1 r373.2.s r373.2.l r373.2.e r373.2.at_ 4 (⟨#[]⟩ : ByteArray) 0 h A375 n376 c377 h378) ⟨rfl, rfl, rfl, rfl, trivial⟩ (.cons_cons _ (.cons_cons _ (.cons_cons _ (.cons _ (.slnil))))) rfl
theorem trellisref25_Reader_all_ind : ∀ n, trellisref25_Reader_all_st (trellisref25_Reader_all_n n) ∧ trellisref25_Reader_value_st (trellisref25_Reader_value_n n)
 | 0 => ⟨fun w F x1 x10 x11 x12 g2 Tb3 z8 A4 n5 c6 hz9 h7 hF hL0 r h => h.elim, fun w F x1 x10 x11 x12 g2 Tb3 z8 A4 n5 c6 hz9 h7 hF hL0 r h => h.elim⟩
 | n + 1 => by
  have ih := trellisref25_Reader_all_ind n
  exact ⟨trellisref25_Reader_all_step _ _ ih.1 ih.2, trellisref25_Reader_value_step _ _ ih.1 ih.2⟩
theorem trellisref25_Reader_value_calls (w : World) (F : Nat → Prop) (x1 : trellisref25_Reader) (x10 : Int) (x11 : ByteArray) (x12 : Int) (g2 : Nat) (Tb3 : Nat) (z8 : Nat) (A4 : Option Addr) (n5 : Nat) (c6 : Nat) (hz9 : z8 ≤ w.heap.size) (h7 : Ow z8 A4 n5 c6 x1.l) (hF : ∀ b, F b → b < w.heap.size ∧ ∀ o ∈ ([[g2], (Value.slice A4 n5 c6).ownBlock.toList] : List (List Nat)), b ∉ o) (hL0 : B.Loc w w [.box g2 Tb3 [.string x1.s, .slice A4 n5 c6, .int .i64 x1.e, .int .i64 x1.at_], .own (.slice A4 n5 c6) 31 4 n5 (x1.l.flatMap enc_api_JNode)] [Sm w.heap.size F w [[g2], (Value.slice A4 n5 c6).ownBlock.toList], St w [[g2], (Value.slice A4 n5 c6).ownBlock.toList]]) (r : Int × trellisref25_Reader) (h : trellisref25_Reader_value x1 x10 x11 x12 r) : Calls Tryd.prog 46 #[.pointer (some ⟨g2, 0, none⟩), .int .i64 x10, .string x11, .int .i64 x12] w (trellisref25_Reader_value_R w F g2 Tb3 A4 n5 c6 z8 r) := by
 obtain ⟨n, h⟩ := h
 exact (trellisref25_Reader_all_ind n).2 w F x1 x10 x11 x12 g2 Tb3 z8 A4 n5 c6 hz9 h7 hF hL0 r h
noncomputable abbrev q26c0 : Code := bodyOf Tryd.f26
noncomputable abbrev q26c1 : Code := Code.fst q26c0
noncomputable abbrev q26c2 : Code := Code.snd q26c0
noncomputable abbrev q26c3 : Code := Code.fst q26c2
noncomputable abbrev q26c4 : Code := Code.snd q26c2
noncomputable abbrev q26c5 : Code := Code.fst q26c4
noncomputable abbrev q26c6 : Code := Code.snd q26c4
noncomputable abbrev q26c7 : Code := Code.fst q26c6
noncomputable abbrev q26c8 : Code := Code.snd q26c6
noncomputable abbrev q26c9 : Code := Code.fst q26c8
noncomputable abbrev q26c10 : Code := Code.snd q26c8
noncomputable abbrev q26c11 : Code := Code.fst q26c10
noncomputable abbrev q26c12 : Code := Code.snd q26c10
noncomputable abbrev q26c13 : Code := Code.fst q26c11
noncomputable abbrev q26c14 : Code := Code.snd q26c11
noncomputable abbrev q26c15 : Code := Code.fst q26c14
noncomputable abbrev q26c16 : Code := Code.snd q26c14
noncomputable abbrev q26c17 : Code := Code.fst q26c12
noncomputable abbrev q26c18 : Code := Code.snd q26c12
noncomputable abbrev q26c19 : Code := Code.fst q26c17
noncomputable abbrev q26c20 : Code := Code.snd q26c17
noncomputable abbrev q26c21 : Code := Code.fst q26c20
noncomputable abbrev q26c22 : Code := Code.snd q26c20
noncomputable abbrev q26c23 : Code := Code.fst q26c18
noncomputable abbrev q26c24 : Code := Code.snd q26c18
noncomputable abbrev q26c25 : Code := Code.fst q26c21
noncomputable abbrev q26c26 : Code := Code.snd q26c21
abbrev trellisref25_Parse_R (w : World) (F : Nat → Prop) (r : (List api_JNode) × Int × Int) : Ending → World → Prop := fun e w' => ∃ A0 : Option Addr, ∃ n0 : Nat, ∃ c0 : Nat, e = .returned (.tuple #[.slice A0 n0 c0, .int .i64 r.2.1, .int .i64 r.2.2]) ∧ B.Loc w w' [.own (.slice A0 n0 c0) 31 4 n0 (r.1.flatMap enc_api_JNode)] [St w []] ∧ Ow w.heap.size A0 n0 c0 r.1
noncomputable abbrev trellisref25_Parse_C (w : World) (F : Nat → Prop) (r : (List api_JNode) × Int × Int) : Cx := ⟨Tryd.prog, 26, Tryd.f26, 49, trellisref25_Parse_R w F  r, w⟩
theorem trellisref25_Parse_calls (w : World) (F : Nat → Prop) (x1 : ByteArray) (hF : ∀ b, F b → b < w.heap.size ∧ ∀ o ∈ ([] : List (List Nat)), b ∉ o) (hL0 : B.Loc w w [] [Sm w.heap.size F w [], St w []]) (r : (List api_JNode) × Int × Int) (h : trellisref25_Parse x1 r) : Calls Tryd.prog 26 #[.string x1] w (trellisref25_Parse_R w F  r) := by
 unfold trellisref25_Parse at h
 refine calls_of_Loc (vs := [.string x1]) 49 Tryd.func26 rfl Tryd.ntmps26 rfl hL0 ?_
 show G (trellisref25_Parse_C w F r) _ _ _ _
 refine g_seq (c := q26c0) rfl ?_
 refine g_region (c := q26c1) rfl rfl ?_
 refine wl_v 0 rfl (v_assign rfl) gn rfl ?_
 refine wl_v 1 rfl (v_assign rfl) gn rfl ?_
 refine wl_v 2 rfl (v_assign rfl) gn rfl ?_
 refine w_end 3 rfl ?_
 refine g_seq (c := q26c2) rfl ?_
 refine g_region (c := q26c3) rfl rfl ?_
 refine wl_v 0 rfl (v_move rfl) gn rfl ?_
 refine wl_v 1 rfl (v_build #[.string x1, .slice none 0 0, .int .i64 0, .int .i64 0] bd_73 rfl (by kernel_rfl)) gn rfl ?_
 refine wl_s 2 rfl (s_box [.string x1, .slice none 0 0, .int .i64 0, .int .i64 0] rfl rfl rfl fun gb2 => ?_) gn
 refine wl_v 3 rfl (v_assign rfl) gn rfl ?_
 refine w_end 4 rfl ?_
 refine g_seq (c := q26c4) rfl ?_
 refine g_region (c := q26c5) rfl rfl ?_
 refine wl_v 0 rfl (v_move rfl) gn rfl ?_
 obtain ⟨r8, hv9, h⟩ := h
 refine w_nil 31 4 ?_
 refine wl_s 1 rfl (s_call [.pointer (some ⟨gb2, 0, none⟩), .int .i64 0, .string (⟨#[32, 9, 10, 13]⟩ : ByteArray)] rfl Tryd.func45 rfl rfl rfl fun w4 hL5 => ?_) gn
 have hp6 : List.Perm ([.own (.slice none 0 0) 31 4 0 (([] : List api_JNode).flatMap enc_api_JNode), .box gb2 73 [.string x1, .slice none 0 0, .int .i64 0, .int .i64 0]] : List Ent) (([.box gb2 73 [.string x1, .slice none 0 0, .int .i64 0, .int .i64 0], .own (.slice none 0 0) 31 4 0 (([] : List api_JNode).flatMap enc_api_JNode)] : List Ent) ++ ([] : List Ent)) := perm_of_idx [1, 0] [] rfl rfl (by kernel_rfl)
 refine Calls.mono (trellisref25_Reader_skip_calls w4 (Fl ([] : List Snap)) (⟨x1, ([] : List api_JNode), 0, 0⟩ : trellisref25_Reader) 0 (⟨#[32, 9, 10, 13]⟩ : ByteArray) gb2 73 w.heap.size none 0 0 hL5.env.size (Ow.nil (z := w.heap.size)) (hL5.hFl (Sl := ([] : List Snap)) hp6 (sels [] rfl)) (hL5.into hp6 (Fl ([] : List Snap))) r8 hv9) ?_
 rintro _ w15 ⟨A10, n11, c12, rfl, hM16, h13⟩
 have hL17 := hL5.call hp6 hM16
 refine ⟨_, _, _, rfl, hL17, ?_⟩
 refine wl_v 2 rfl (v_assign rfl) gn rfl ?_
 refine w_end 3 rfl ?_
 refine g_seq (c := q26c6) rfl ?_
 refine g_region (c := q26c7) rfl rfl ?_
 refine wl_v 0 rfl (v_move rfl) gn rfl ?_
 refine wl_v 1 rfl (v_move rfl) gn rfl ?_
 obtain ⟨r21, hv22, h⟩ := h
 refine wl_s 2 rfl (s_call [.pointer (some ⟨gb2, 0, none⟩), .int .i64 r8.1, .string (⟨#[]⟩ : ByteArray), .int .i64 0] rfl Tryd.func46 rfl rfl rfl fun w18 hL19 => ?_) gn
 have hp20 : List.Perm ([.box gb2 73 [.string r8.2.s, .slice A10 n11 c12, .int .i64 r8.2.e, .int .i64 r8.2.at_], .own (.slice A10 n11 c12) 31 4 n11 (r8.2.l.flatMap enc_api_JNode)] : List Ent) (([.box gb2 73 [.string r8.2.s, .slice A10 n11 c12, .int .i64 r8.2.e, .int .i64 r8.2.at_], .own (.slice A10 n11 c12) 31 4 n11 (r8.2.l.flatMap enc_api_JNode)] : List Ent) ++ ([] : List Ent)) := perm_of_idx [0, 1] [] rfl rfl (by kernel_rfl)
 refine Calls.mono (trellisref25_Reader_value_calls w18 (Fl ([] : List Snap)) r8.2 r8.1 (⟨#[]⟩ : ByteArray) 0 gb2 73 w.heap.size A10 n11 c12 hL19.env.size h13 (hL19.hFl (Sl := ([] : List Snap)) hp20 (sels [] rfl)) (hL19.into hp20 (Fl ([] : List Snap))) r21 hv22) ?_
 rintro _ w28 ⟨A23, n24, c25, rfl, hM29, h26⟩
 have hL30 := hL19.call hp20 hM29
 refine ⟨_, _, _, rfl, hL30, ?_⟩
 refine wl_v 3 rfl (v_assign rfl) gn rfl ?_
 refine w_end 4 rfl ?_
 refine g_seq (c := q26c8) rfl ?_
 refine g_region (c := q26c9) rfl rfl ?_
 refine wl_v 0 rfl (v_move rfl) gn rfl ?_
 refine wl_v 1 rfl (v_move rfl) gn rfl ?_
 obtain ⟨r34, hv35, h⟩ := h
 refine wl_s 2 rfl (s_call [.pointer (some ⟨gb2, 0, none⟩), .int .i64 r21.1, .string (⟨#[32, 9, 10, 13]⟩ : ByteArray)] rfl Tryd.func45 rfl rfl rfl fun w31 hL32 => ?_) gn
 have hp33 : List.Perm ([.box gb2 73 [.string r21.2.s, .slice A23 n24 c25, .int .i64 r21.2.e, .int .i64 r21.2.at_], .own (.slice A23 n24 c25) 31 4 n24 (r21.2.l.flatMap enc_api_JNode)] : List Ent) (([.box gb2 73 [.string r21.2.s, .slice A23 n24 c25, .int .i64 r21.2.e, .int .i64 r21.2.at_], .own (.slice A23 n24 c25) 31 4 n24 (r21.2.l.flatMap enc_api_JNode)] : List Ent) ++ ([] : List Ent)) := perm_of_idx [0, 1] [] rfl rfl (by kernel_rfl)
 refine Calls.mono (trellisref25_Reader_skip_calls w31 (Fl ([] : List Snap)) r21.2 r21.1 (⟨#[32, 9, 10, 13]⟩ : ByteArray) gb2 73 w.heap.size A23 n24 c25 hL32.env.size h26 (hL32.hFl (Sl := ([] : List Snap)) hp33 (sels [] rfl)) (hL32.into hp33 (Fl ([] : List Snap))) r34 hv35) ?_
 rintro _ w41 ⟨A36, n37, c38, rfl, hM42, h39⟩
 have hL43 := hL32.call hp33 hM42
 refine ⟨_, _, _, rfl, hL43, ?_⟩
 refine wl_v 3 rfl (v_assign rfl) gn rfl ?_
 refine w_end 4 rfl ?_
 refine g_seq (c := q26c10) rfl ?_
 refine g_seq (c := q26c11) rfl ?_
 have j1 : ∀ (x46 : Bool) (h : trellisref25_Parse_j1 r34 x46 r) , G (trellisref25_Parse_C w F r) [.code q26c14, .code q26c12] [(5, .pointer (some ⟨gb2, 0, none⟩)), (6, .int .i64 r34.1), (28, .bool x46)] [.box gb2 73 [.string r34.2.s, .slice A36 n37 c38, .int .i64 r34.2.e, .int .i64 r34.2.at_], .own (.slice A36 n37 c38) 31 4 n37 (r34.2.l.flatMap enc_api_JNode)] [Sm w.heap.size F w [], St w []] := by
  intro x46 h
  unfold trellisref25_Parse_j1 at h
  have j2 : ∀ (x62 : ByteArray) (x63 : List api_JNode) (x68 : Int) (x69 : Int) (h : trellisref25_Parse_j2 x63 x68 x69 r) (A64 : Option Addr) (n65 : Nat) (c66 : Nat) (h67 : Ow w.heap.size A64 n65 c66 x63), G (trellisref25_Parse_C w F r) [.code q26c12] [(5, .pointer (some ⟨gb2, 0, none⟩))] [.own (.slice A64 n65 c66) 31 4 n65 (x63.flatMap enc_api_JNode), .box gb2 73 [.string x62, .slice A64 n65 c66, .int .i64 x68, .int .i64 x69]] [Sm w.heap.size F w [], St w []] := by
   intro x62 x63 x68 x69 h A64 n65 c66 h67
   unfold trellisref25_Parse_j2 at h
   refine g_seq (c := q26c12) rfl ?_
   refine g_seq (c := q26c17) rfl ?_
   refine g_region (c := q26c19) rfl rfl ?_
   refine wl_v 0 rfl (v_move rfl) gn rfl ?_
   refine wl_v 1 rfl (v_nilCheck rfl) gn rfl ?_
   refine wl_v 2 rfl (v_fldB fo_73_2 rfl) gn rfl ?_
   refine wl_v 3 rfl (v_ldB1 1 ld_34 rfl rfl rfl) gn rfl ?_
   refine wl_v 4 rfl (v_bin rfl rfl rfl) gn rfl ?_
   refine w_end 5 rfl ?_
   by_cases hp70 : x68 = 0
   ·have h := if_pos' hp70 h
    refine g_false (c := q26c20) rfl _ rfl ((eqib hp70)) ?_
    refine g_skip (c := q26c22) rfl ?_
    refine g_seq (c := q26c18) rfl ?_
    refine g_region (c := q26c23) rfl rfl ?_
    refine wl_v 0 rfl (v_move rfl) gn rfl ?_
    refine wl_v 1 rfl (v_nilCheck rfl) gn rfl ?_
    refine wl_v 2 rfl (v_fldB fo_73_1 rfl) gn rfl ?_
    refine wl_v 3 rfl (v_ldB1 1 ld_22 rfl rfl rfl) gn rfl ?_
    refine wl_v 4 rfl (v_assign rfl) gn rfl ?_
    refine wl_v 5 rfl (v_assign rfl) gn rfl ?_
    refine wl_v 6 rfl (v_assign rfl) gn rfl ?_
    refine w_end 7 rfl ?_
    refine g_retR (c := q26c24) [.slice A64 n65 c66, .int .i64 0, .int .i64 0] rfl Tryd.func26 rfl (.tmp rfl (.tmp rfl (.tmp rfl (.nil)))) fun wr hLr => ?_
    have hMr : B.Loc w wr [.own (.slice A64 n65 c66) 31 4 n65 (x63.flatMap enc_api_JNode)] [St w []] := hLr.pick (rest := [.box gb2 73 [.string x62, .slice A64 n65 c66, .int .i64 x68, .int .i64 x69]]) (perm_of_idx [0] [1] rfl rfl (by kernel_rfl)) (sels [1] rfl)
    show trellisref25_Parse_R w F  r (.returned (packV [.slice A64 n65 c66, .int .i64 0, .int .i64 0])) wr
    rw [h]
    exact ⟨A64, n65, c66, rfl, hMr, h67⟩
   ·have h := if_neg' hp70 h
    refine g_true (c := q26c20) rfl _ rfl ((neib hp70)) ?_
    refine g_seq (c := q26c21) rfl ?_
    have hns : Region.noSelect (Code.ops q26c25) = true := by kernel_rfl
    refine g_drawF (c := q26c25) [.own (.slice A64 n65 c66) 31 4 n65 (x63.flatMap enc_api_JNode), .box gb2 73 [.string x62, .slice A64 n65 c66, .int .i64 x68, .int .i64 x69]] [Sm w.heap.size F w [], St w []] [] 11 rfl rfl mix rfl (.cons_cons _ (.cons_cons _ (.slnil))) (sels [0, 1] rfl) ?_
    refine wfv 0 rfl (v_move rfl) gn hns rfl ?_
    refine wfv 1 rfl (v_nilCheck rfl) gn hns rfl ?_
    refine wfv 2 rfl (v_fldB fo_73_2 rfl) gn hns rfl ?_
    refine wfv 3 rfl (v_ldB1 1 ld_34 rfl rfl rfl) gn hns rfl ?_
    refine wfv 4 rfl (v_move rfl) gn hns rfl ?_
    refine wfv 5 rfl (v_nilCheck rfl) gn hns rfl ?_
    refine wfv 6 rfl (v_fldB fo_73_3 rfl) gn hns rfl ?_
    refine wfv 7 rfl (v_ldB1 1 ld_3 rfl rfl rfl) gn hns rfl ?_
    refine wfv 8 rfl (v_assign rfl) gn hns rfl ?_
    refine wfv 9 rfl (v_assign rfl) gn hns rfl ?_
    refine wfv 10 rfl (v_assign rfl) gn hns rfl ?_
    refine wf_end (by kernel_rfl) ?_
    refine g_nil 31 4 ?_
    refine g_retR (c := q26c26) [.slice none 0 0, .int .i64 x68, .int .i64 x69] rfl Tryd.func26 rfl (.tmp rfl (.tmp rfl (.tmp rfl (.nil)))) fun wr hLr => ?_
    have hMr : B.Loc w wr [.own (.slice none 0 0) 31 4 0 (([] : List api_JNode).flatMap enc_api_JNode)] [St w []] := hLr.pick (rest := [.own (.slice A64 n65 c66) 31 4 n65 (x63.flatMap enc_api_JNode), .box gb2 73 [.string x62, .slice A64 n65 c66, .int .i64 x68, .int .i64 x69]]) (perm_of_idx [0] [1, 2] rfl rfl (by kernel_rfl)) (sels [1] rfl)
    show trellisref25_Parse_R w F  r (.returned (packV [.slice none 0 0, .int .i64 x68, .int .i64 x69])) wr
    rw [h]
    exact ⟨none, 0, 0, rfl, hMr, (Ow.nil (z := w.heap.size))⟩
  by_cases hp47 : x46 = true
  ·have h := if_pos' hp47 h
   refine g_true (c := q26c14) rfl _ rfl (hp47) ?_
   refine g_region (c := q26c15) rfl rfl ?_
   refine wl_v 0 rfl (v_move rfl) gn rfl ?_
   refine wl_v 1 rfl (v_move rfl) gn rfl ?_
   obtain ⟨r74, hv75, h⟩ := h
   refine wl_s 2 rfl (s_call [.pointer (some ⟨gb2, 0, none⟩), .int .i64 250, .int .i64 r34.1] rfl Tryd.func47 rfl rfl rfl fun w71 hL72 => ?_) gn
   have hp73 : List.Perm ([.box gb2 73 [.string r34.2.s, .slice A36 n37 c38, .int .i64 r34.2.e, .int .i64 r34.2.at_], .own (.slice A36 n37 c38) 31 4 n37 (r34.2.l.flatMap enc_api_JNode)] : List Ent) (([.box gb2 73 [.string r34.2.s, .slice A36 n37 c38, .int .i64 r34.2.e, .int .i64 r34.2.at_], .own (.slice A36 n37 c38) 31 4 n37 (r34.2.l.flatMap enc_api_JNode)] : List Ent) ++ ([] : List Ent)) := perm_of_idx [0, 1] [] rfl rfl (by kernel_rfl)
   refine Calls.mono (trellisref25_Reader_stop_calls w71 (Fl ([] : List Snap)) r34.2 250 r34.1 gb2 73 w.heap.size A36 n37 c38 hL72.env.size h39 (hL72.hFl (Sl := ([] : List Snap)) hp73 (sels [] rfl)) (hL72.into hp73 (Fl ([] : List Snap))) r74 hv75) ?_
   rintro _ w81 ⟨A76, n77, c78, rfl, hM82, h79⟩
   have hL83 := hL72.call hp73 hM82
   refine ⟨_, _, _, rfl, hL83, ?_⟩
   refine w_end 3 rfl ?_
   refine g_front 0 rfl ?_
   refine g_front 1 rfl ?_
   exact g_go [0, 1] (j2 r74.2.s r74.2.l r74.2.e r74.2.at_ h A76 n77 c78 h79) ⟨rfl, trivial⟩ (.cons_cons _ (.cons_cons _ (.slnil))) rfl
  ·have h := if_neg' hp47 h
   refine g_false (c := q26c14) rfl _ rfl ((bf hp47)) ?_
   refine g_skip (c := q26c16) rfl ?_
   refine g_front 0 rfl ?_
   refine g_front 1 rfl ?_
   exact g_go [0, 1] (j2 r34.2.s r34.2.l r34.2.e r34.2.at_ h A36 n37 c38 h39) ⟨rfl, trivial⟩ (.cons_cons _ (.cons_cons _ (.slnil))) rfl
 refine g_region (c := q26c13) rfl rfl ?_
 refine wl_v 0 rfl (v_move rfl) gn rfl ?_
 refine wl_v 1 rfl (v_nilCheck rfl) gn rfl ?_
 refine wl_v 2 rfl (v_fldB fo_73_2 rfl) gn rfl ?_
 refine wl_v 3 rfl (v_ldB1 0 ld_34 rfl rfl rfl) gn rfl ?_
 refine wl_v 4 rfl (v_bin rfl rfl rfl) gn rfl ?_
 refine wl_v 5 rfl (v_move rfl) gn rfl ?_
 by_cases hp84 : r34.2.e = 0
 ·have h := if_pos' hp84 h
  refine w_bool 23 rfl ((eqi hp84)) ?_
  refine wl_v 6 rfl (v_move rfl) (gy 23 rfl rfl) rfl ?_
  refine wl_v 7 rfl (v_move rfl) (gy 23 rfl rfl) rfl ?_
  refine wl_v 8 rfl (v_lenS un_9 rfl) (gy 23 rfl rfl) rfl ?_
  refine wl_v 9 rfl (v_bin rfl rfl rfl) (gy 23 rfl rfl) rfl ?_
  refine wl_v 10 rfl (v_pick (b := true) rfl rfl) gn rfl ?_
  refine w_end 11 rfl ?_
  exact g_go [0, 1] (j1 (decide (r34.1 < (x1.size : Int))) h) ⟨rfl, rfl, rfl, trivial⟩ (.cons_cons _ (.cons_cons _ (.slnil))) rfl
 ·have h := if_neg' hp84 h
  refine w_bool 23 rfl ((nei hp84)) ?_
  refine wl_pass 6 rfl (ps 23 rfl rfl rfl) ?_
  refine wl_pass 7 rfl (ps 23 rfl rfl rfl) ?_
  refine wl_pass 8 rfl (ps 23 rfl rfl rfl) ?_
  refine wl_pass 9 rfl (ps 23 rfl rfl rfl) ?_
  refine wl_v 10 rfl (v_pick (b := false) rfl rfl) gn rfl ?_
  refine w_end 11 rfl ?_
  exact g_go [0, 1] (j1 false h) ⟨rfl, rfl, rfl, trivial⟩ (.cons_cons _ (.cons_cons _ (.slnil))) rfl
noncomputable abbrev q5c0 : Code := bodyOf Tryd.f5
noncomputable abbrev q5c1 : Code := Code.fst q5c0
noncomputable abbrev q5c2 : Code := Code.snd q5c0
noncomputable abbrev q5c3 : Code := Code.fst q5c2
noncomputable abbrev q5c4 : Code := Code.snd q5c2
noncomputable abbrev q5c5 : Code := Code.fst q5c4
noncomputable abbrev q5c6 : Code := Code.snd q5c4
noncomputable abbrev q5c7 : Code := Code.fst q5c6
noncomputable abbrev q5c8 : Code := Code.snd q5c6
abbrev trellislaw25_JsonParses_R (w : World) (F : Nat → Prop) (r : Bool) : Ending → World → Prop := fun e w' => e = .returned (.bool r) ∧ B.Loc w w' [] [St w []]
noncomputable abbrev trellislaw25_JsonParses_C (w : World) (F : Nat → Prop) (r : Bool) : Cx := ⟨Tryd.prog, 5, Tryd.f5, 34, trellislaw25_JsonParses_R w F  r, w⟩
theorem trellislaw25_JsonParses_calls (w : World) (F : Nat → Prop) (x1 : ByteArray) (hG3 : Tt .u8 tb_3 3 (St w [])) (hF : ∀ b, F b → b < w.heap.size ∧ ∀ o ∈ ([] : List (List Nat)), b ∉ o) (hL0 : B.Loc w w [] [Sm w.heap.size F w [], St w []]) (r : Bool) (h : trellislaw25_JsonParses x1 r) : Calls Tryd.prog 5 #[.string x1] w (trellislaw25_JsonParses_R w F  r) := by
 unfold trellislaw25_JsonParses at h
 refine calls_of_Loc (vs := [.string x1]) 34 Tryd.func5 rfl Tryd.ntmps5 rfl hL0 ?_
 show G (trellislaw25_JsonParses_C w F r) _ _ _ _
 refine g_seq (c := q5c0) rfl ?_
 refine g_region (c := q5c1) rfl rfl ?_
 refine wl_v 0 rfl (v_assign rfl) gn rfl ?_
 refine w_end 1 rfl ?_
 refine g_seq (c := q5c2) rfl ?_
 refine g_region (c := q5c3) rfl rfl ?_
 refine wl_v 0 rfl (v_move rfl) gn rfl ?_
 obtain ⟨r5, hv6, h⟩ := h
 refine wl_s 1 rfl (s_call [.string x1] rfl Tryd.func25 rfl rfl rfl fun w2 hL3 => ?_) gn
 have hp4 : List.Perm ([] : List Ent) (([] : List Ent) ++ ([] : List Ent)) := perm_of_idx [] [] rfl rfl (by kernel_rfl)
 refine Calls.mono (json_Parse_calls w2 (Fl ([] : List Snap)) x1 (hL3.tt hp4 hG3 (me 1 rfl)) (hL3.hFl (Sl := ([] : List Snap)) hp4 (sels [] rfl)) (hL3.into hp4 (Fl ([] : List Snap))) r5 hv6) ?_
 rintro _ w12 ⟨A7, n8, c9, rfl, hM13, h10⟩
 have hL14 := hL3.call hp4 hM13
 refine ⟨_, _, _, rfl, hL14, ?_⟩
 refine wl_v 2 rfl (v_move rfl) gn rfl ?_
 refine wl_v 3 rfl (v_extract rfl rfl) gn rfl ?_
 refine wl_v 4 rfl (v_extract rfl rfl) gn rfl ?_
 refine wl_v 5 rfl (v_extract rfl rfl) gn rfl ?_
 refine wl_v 6 rfl (v_assign rfl) gn rfl ?_
 refine wl_v 7 rfl (v_assign rfl) gn rfl ?_
 refine wl_v 8 rfl (v_assign rfl) gn rfl ?_
 refine w_end 9 rfl ?_
 refine g_seq (c := q5c4) rfl ?_
 refine g_region (c := q5c5) rfl rfl ?_
 refine wl_v 0 rfl (v_move rfl) gn rfl ?_
 obtain ⟨r18, hv19, h⟩ := h
 refine wl_s 1 rfl (s_call [.string x1] rfl Tryd.func26 rfl rfl rfl fun w15 hL16 => ?_) gn
 have hp17 : List.Perm ([.own (.slice A7 n8 c9) 31 4 n8 (r5.1.flatMap enc_api_JNode)] : List Ent) (([] : List Ent) ++ ([.own (.slice A7 n8 c9) 31 4 n8 (r5.1.flatMap enc_api_JNode)] : List Ent)) := perm_of_idx [] [0] rfl rfl (by kernel_rfl)
 refine Calls.mono (trellisref25_Parse_calls w15 (Fl ([] : List Snap)) x1 (hL16.hFl (Sl := ([] : List Snap)) hp17 (sels [] rfl)) (hL16.into hp17 (Fl ([] : List Snap))) r18 hv19) ?_
 rintro _ w25 ⟨A20, n21, c22, rfl, hM26, h23⟩
 have hL27 := hL16.call hp17 hM26
 refine ⟨_, _, _, rfl, hL27, ?_⟩
 refine wl_v 2 rfl (v_move rfl) gn rfl ?_
 refine wl_v 3 rfl (v_extract rfl rfl) gn rfl ?_
 refine wl_v 4 rfl (v_extract rfl rfl) gn rfl ?_
 refine wl_v 5 rfl (v_extract rfl rfl) gn rfl ?_
 refine wl_v 6 rfl (v_assign rfl) gn rfl ?_
 refine wl_v 7 rfl (v_assign rfl) gn rfl ?_
 refine wl_v 8 rfl (v_assign rfl) gn rfl ?_
 refine w_end 9 rfl ?_
 refine g_seq (c := q5c6) rfl ?_
 refine g_region (c := q5c7) rfl rfl ?_
 refine wl_v 0 rfl (v_move rfl) gn rfl ?_
 refine wl_v 1 rfl (v_move rfl) gn rfl ?_
 obtain ⟨r31, hv32, h⟩ := h
 refine wl_s 2 rfl (s_call [.slice A7 n8 c9, .slice A20 n21 c22] rfl Tryd.func27 rfl rfl rfl fun w28 hL29 => ?_) gn
 have hp30 : List.Perm ([.own (.slice A20 n21 c22) 31 4 n21 (r18.1.flatMap enc_api_JNode), .own (.slice A7 n8 c9) 31 4 n8 (r5.1.flatMap enc_api_JNode)] : List Ent) (([] : List Ent) ++ ([.own (.slice A20 n21 c22) 31 4 n21 (r18.1.flatMap enc_api_JNode), .own (.slice A7 n8 c9) 31 4 n8 (r5.1.flatMap enc_api_JNode)] : List Ent)) := perm_of_idx [] [0, 1] rfl rfl (by kernel_rfl)
 refine Calls.mono (trellislaw25_same_calls w28 (Fl ([] : List Snap)) r5.1 r18.1 A7 n8 c9 A20 n21 c22 (hL29.argO (dk := k_api_JNode) hp30 [] rfl 1 rfl rfl (Ow.weak hL3.env.size h10) (me 0 rfl) (Cells.flat _)) (hL29.argO (dk := k_api_JNode) hp30 [] rfl 0 rfl rfl (Ow.weak hL16.env.size h23) (me 0 rfl) (Cells.flat _)) (hL29.hFl (Sl := ([] : List Snap)) hp30 (sels [] rfl)) (hL29.into hp30 (Fl ([] : List Snap))) r31 hv32) ?_
 rintro _ w33 ⟨rfl, hM34⟩
 have hL35 := hL29.call hp30 hM34
 refine ⟨_, _, _, rfl, hL35, ?_⟩
 refine wl_v 3 rfl (v_move rfl) gn rfl ?_
 by_cases hp36 : r31 = true
 ·have h := if_pos' hp36 h
  refine w_bool 24 rfl (hp36) ?_
  refine wl_v 4 rfl (v_move rfl) (gy 24 rfl rfl) rfl ?_
  refine wl_v 5 rfl (v_move rfl) (gy 24 rfl rfl) rfl ?_
  refine wl_v 6 rfl (v_bin rfl rfl rfl) (gy 24 rfl rfl) rfl ?_
  refine wl_v 7 rfl (v_pick (b := true) rfl rfl) gn rfl ?_
  refine wl_v 8 rfl (v_move rfl) gn rfl ?_
  by_cases hp37 : r5.2.1 = r18.2.1
  ·have h := if_pos' hp37 h
   refine w_bool 29 rfl ((eqi hp37)) ?_
   refine wl_v 9 rfl (v_move rfl) (gy 29 rfl rfl) rfl ?_
   refine wl_v 10 rfl (v_move rfl) (gy 29 rfl rfl) rfl ?_
   refine wl_v 11 rfl (v_bin rfl rfl rfl) (gy 29 rfl rfl) rfl ?_
   refine wl_v 12 rfl (v_pick (b := true) rfl rfl) gn rfl ?_
   refine wl_v 13 rfl (v_assign rfl) gn rfl ?_
   refine w_end 14 rfl ?_
   refine g_retR (c := q5c8) [.bool (r5.2.2 == r18.2.2)] rfl Tryd.func5 rfl (.tmp rfl (.nil)) fun wr hLr => ?_
   have hMr : B.Loc w wr [] [St w []] := hLr.pick0 (sels [1] rfl)
   show trellislaw25_JsonParses_R w F  r (.returned (packV [.bool (r5.2.2 == r18.2.2)])) wr
   rw [h]
   exact ⟨rfl, hMr⟩
  ·have h := if_neg' hp37 h
   refine w_bool 29 rfl ((nei hp37)) ?_
   refine wl_pass 9 rfl (ps 29 rfl rfl rfl) ?_
   refine wl_pass 10 rfl (ps 29 rfl rfl rfl) ?_
   refine wl_pass 11 rfl (ps 29 rfl rfl rfl) ?_
   refine wl_v 12 rfl (v_pick (b := false) rfl rfl) gn rfl ?_
   refine wl_v 13 rfl (v_assign rfl) gn rfl ?_
   refine w_end 14 rfl ?_
   refine g_retR (c := q5c8) [.bool false] rfl Tryd.func5 rfl (.tmp rfl (.nil)) fun wr hLr => ?_
   have hMr : B.Loc w wr [] [St w []] := hLr.pick0 (sels [1] rfl)
   show trellislaw25_JsonParses_R w F  r (.returned (packV [.bool false])) wr
   rw [h]
   exact ⟨rfl, hMr⟩
 ·have h := if_neg' hp36 h
  refine w_bool 24 rfl ((bf hp36)) ?_
  refine wl_pass 4 rfl (ps 24 rfl rfl rfl) ?_
  refine wl_pass 5 rfl (ps 24 rfl rfl rfl) ?_
  refine wl_pass 6 rfl (ps 24 rfl rfl rfl) ?_
  refine wl_v 7 rfl (v_pick (b := false) rfl rfl) gn rfl ?_
  refine wl_v 8 rfl (v_move rfl) gn rfl ?_
  refine wl_pass 9 rfl (ps 29 rfl rfl rfl) ?_
  refine wl_pass 10 rfl (ps 29 rfl rfl rfl) ?_
  refine wl_pass 11 rfl (ps 29 rfl rfl rfl) ?_
  refine wl_v 12 rfl (v_pick (b := false) rfl rfl) gn rfl ?_
  refine wl_v 13 rfl (v_assign rfl) gn rfl ?_
  refine w_end 14 rfl ?_
  refine g_retR (c := q5c8) [.bool false] rfl Tryd.func5 rfl (.tmp rfl (.nil)) fun wr hLr => ?_
  have hMr : B.Loc w wr [] [St w []] := hLr.pick0 (sels [1] rfl)
  show trellislaw25_JsonParses_R w F  r (.returned (packV [.bool false])) wr
  rw [h]
  exact ⟨rfl, hMr⟩
end Go.Proofs.YtmfopcbjgbphaaaDoor.K
