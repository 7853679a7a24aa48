/- What the machine's calls do, function by function, printed by my own tool. Condition of each: its relation holds of the answer, and what is handed in lies in memory as told. -/
import Derived.Test.YtmfopcbjgbphaaaDoorK3
set_option linter.unusedVariables false
set_option maxRecDepth 100000
set_option maxHeartbeats 4000000
namespace Go.Proofs.YtmfopcbjgbphaaaDoor.K
open Go.Proofs.YtmfopcbjgbphaaaDoor.B Go.Proofs.YtmfopcbjgbphaaaDoor.R Go.RowKit
noncomputable abbrev q88c0 : Code := bodyOf Tryd.f88
noncomputable abbrev q88c1 : Code := Code.fst q88c0
noncomputable abbrev q88c2 : Code := Code.snd q88c0
noncomputable abbrev q88c3 : Code := Code.fst q88c2
noncomputable abbrev q88c4 : Code := Code.snd q88c2
noncomputable abbrev q88c5 : Code := Code.fst q88c3
noncomputable abbrev q88c6 : Code := Code.fst q88c5
noncomputable abbrev q88c7 : Code := Code.snd q88c5
noncomputable abbrev q88c8 : Code := Code.fst q88c7
noncomputable abbrev q88c9 : Code := Code.snd q88c7
noncomputable abbrev q88c10 : Code := Code.fst q88c8
noncomputable abbrev q88c11 : Code := Code.snd q88c8
noncomputable abbrev q88c12 : Code := Code.fst q88c9
noncomputable abbrev q88c13 : Code := Code.snd q88c9
noncomputable abbrev q88c14 : Code := Code.fst q88c13
noncomputable abbrev q88c15 : Code := Code.snd q88c13
noncomputable abbrev q88c16 : Code := Code.fst q88c14
noncomputable abbrev q88c17 : Code := Code.snd q88c14
noncomputable abbrev q88c18 : Code := Code.fst q88c15
noncomputable abbrev q88c19 : Code := Code.snd q88c15
noncomputable abbrev q88c20 : Code := Code.fst q88c19
noncomputable abbrev q88c21 : Code := Code.snd q88c19
noncomputable abbrev q88c22 : Code := Code.fst q88c20
noncomputable abbrev q88c23 : Code := Code.snd q88c20
noncomputable abbrev q88c24 : Code := Code.fst q88c4
noncomputable abbrev q88c25 : Code := Code.snd q88c4
abbrev trellisref25_utf8_R (w : World) (F : Nat → Prop) (r : List Int) : Ending → World → Prop := fun e w' => ∃ A0 : Option Addr, ∃ n0 : Nat, ∃ c0 : Nat, e = .returned (.slice A0 n0 c0) ∧ B.Loc w w' [.own (.slice A0 n0 c0) 5 1 n0 (r.flatMap (eI .u8))] [St w []] ∧ Ow w.heap.size A0 n0 c0 r
noncomputable abbrev trellisref25_utf8_C (w : World) (F : Nat → Prop) (r : List Int) : Cx := ⟨Tryd.prog, 88, Tryd.f88, 57, trellisref25_utf8_R w F  r, w⟩
theorem trellisref25_utf8_calls (w : World) (F : Nat → Prop) (x1 : Int) (hF : ∀ b, F b → b < w.heap.size ∧ ∀ o ∈ ([] : List (List Nat)), b ∉ o) (hL0 : B.Loc w w [] [Sm w.heap.size F w [], St w []]) (r : List Int) (h : trellisref25_utf8 x1 r) : Calls Tryd.prog 88 #[.int .i64 x1] w (trellisref25_utf8_R w F  r) := by
 unfold trellisref25_utf8 at h
 refine calls_of_Loc (vs := [.int .i64 x1]) 57 Tryd.func88 rfl Tryd.ntmps88 rfl hL0 ?_
 show G (trellisref25_utf8_C w F r) _ _ _ _
 refine g_seq (c := q88c0) rfl ?_
 refine g_region (c := q88c1) rfl rfl ?_
 refine wl_v 0 rfl (v_assign rfl) gn rfl ?_
 refine w_end 1 rfl ?_
 refine g_seq (c := q88c2) rfl ?_
 refine g_block (c := q88c3) rfl ?_
 refine g_seq (c := q88c5) rfl ?_
 refine g_region (c := q88c6) rfl rfl ?_
 refine wl_v 0 rfl (v_move rfl) gn rfl ?_
 refine wl_v 1 rfl (v_bin rfl rfl rfl) gn rfl ?_
 refine wl_v 2 rfl (v_assign rfl) gn rfl ?_
 refine w_end 3 rfl ?_
 by_cases hp2 : x1 < 128
 ·have h := if_pos' hp2 h
  refine g_true (c := q88c7) rfl _ rfl ((decide_eq_true hp2)) ?_
  refine g_seq (c := q88c8) rfl ?_
  refine g_region (c := q88c10) rfl rfl ?_
  refine wl_v 0 rfl (v_move rfl) gn rfl ?_
  refine wl_v 1 rfl (v_conv ⟨_, un_3⟩ un_5 rfl) gn rfl ?_
  refine wl_s 2 rfl (s_litO (xs := ([IntKind.u8.wrap (x1)] : List Int)) [.int .u8 (IntKind.u8.wrap (x1))] bs_54_1 rfl (by kernel_rfl) rfl rfl rfl rfl fun gb4 h5 => ?_) gn
  refine wl_v 3 rfl (v_assign rfl) gn rfl ?_
  refine w_end 4 rfl ?_
  refine g_retR (c := q88c11) [.slice (some ⟨gb4, 0, none⟩) 1 1] rfl Tryd.func88 rfl (.tmp rfl (.nil)) fun wr hLr => ?_
  have hMr : B.Loc w wr [.own (.slice (some ⟨gb4, 0, none⟩) 1 1) 5 1 1 (([IntKind.u8.wrap (x1)] : List Int).flatMap (eI .u8))] [St w []] := hLr.pick (rest := []) (perm_of_idx [0] [] rfl rfl (by kernel_rfl)) (sels [1] rfl)
  show trellisref25_utf8_R w F  r (.returned (packV [.slice (some ⟨gb4, 0, none⟩) 1 1])) wr
  rw [h]
  exact ⟨(some ⟨gb4, 0, none⟩), 1, 1, rfl, hMr, h5⟩
 ·have h := if_neg' hp2 h
  refine g_false (c := q88c7) rfl _ rfl ((decide_eq_false hp2)) ?_
  refine g_seq (c := q88c9) rfl ?_
  refine g_region (c := q88c12) rfl rfl ?_
  refine wl_v 0 rfl (v_move rfl) gn rfl ?_
  refine wl_v 1 rfl (v_bin rfl rfl rfl) gn rfl ?_
  refine wl_v 2 rfl (v_assign rfl) gn rfl ?_
  refine w_end 3 rfl ?_
  by_cases hp6 : x1 < 2048
  ·have h := if_pos' hp6 h
   refine g_true (c := q88c13) rfl _ rfl ((decide_eq_true hp6)) ?_
   refine g_seq (c := q88c14) rfl ?_
   refine g_region (c := q88c16) rfl rfl ?_
   refine wl_v 0 rfl (v_move rfl) gn rfl ?_
   refine wl_v 1 rfl (v_quo rfl rfl (by decide)) gn rfl ?_
   refine wl_v 2 rfl (v_bin rfl rfl rfl) gn rfl ?_
   refine wl_v 3 rfl (v_conv ⟨_, un_3⟩ un_5 rfl) gn rfl ?_
   refine wl_v 4 rfl (v_move rfl) gn rfl ?_
   refine wl_v 5 rfl (v_rem rfl rfl (by decide)) gn rfl ?_
   refine wl_v 6 rfl (v_bin rfl rfl rfl) gn rfl ?_
   refine wl_v 7 rfl (v_conv ⟨_, un_3⟩ un_5 rfl) gn rfl ?_
   refine wl_s 8 rfl (s_litO (xs := ([IntKind.u8.wrap (w64 (192 + (w64 (Int.tdiv x1 64)))), IntKind.u8.wrap (w64 (128 + (Int.tmod x1 64)))] : List Int)) [.int .u8 (IntKind.u8.wrap (w64 (192 + (w64 (Int.tdiv x1 64))))), .int .u8 (IntKind.u8.wrap (w64 (128 + (Int.tmod x1 64))))] bs_54_2 rfl (by kernel_rfl) rfl rfl rfl rfl fun gb8 h9 => ?_) gn
   refine wl_v 9 rfl (v_assign rfl) gn rfl ?_
   refine w_end 10 rfl ?_
   refine g_retR (c := q88c17) [.slice (some ⟨gb8, 0, none⟩) 2 2] rfl Tryd.func88 rfl (.tmp rfl (.nil)) fun wr hLr => ?_
   have hMr : B.Loc w wr [.own (.slice (some ⟨gb8, 0, none⟩) 2 2) 5 1 2 (([IntKind.u8.wrap (w64 (192 + (w64 (Int.tdiv x1 64)))), IntKind.u8.wrap (w64 (128 + (Int.tmod x1 64)))] : List Int).flatMap (eI .u8))] [St w []] := hLr.pick (rest := []) (perm_of_idx [0] [] rfl rfl (by kernel_rfl)) (sels [1] rfl)
   show trellisref25_utf8_R w F  r (.returned (packV [.slice (some ⟨gb8, 0, none⟩) 2 2])) wr
   rw [h]
   exact ⟨(some ⟨gb8, 0, none⟩), 2, 2, rfl, hMr, h9⟩
  ·have h := if_neg' hp6 h
   refine g_false (c := q88c13) rfl _ rfl ((decide_eq_false hp6)) ?_
   refine g_seq (c := q88c15) rfl ?_
   refine g_region (c := q88c18) rfl rfl ?_
   refine wl_v 0 rfl (v_move rfl) gn rfl ?_
   refine wl_v 1 rfl (v_bin rfl rfl rfl) gn rfl ?_
   refine wl_v 2 rfl (v_assign rfl) gn rfl ?_
   refine w_end 3 rfl ?_
   by_cases hp10 : x1 < 65536
   ·have h := if_pos' hp10 h
    refine g_true (c := q88c19) rfl _ rfl ((decide_eq_true hp10)) ?_
    refine g_seq (c := q88c20) rfl ?_
    refine g_region (c := q88c22) rfl rfl ?_
    refine wl_v 0 rfl (v_move rfl) gn rfl ?_
    refine wl_v 1 rfl (v_quo rfl rfl (by decide)) gn rfl ?_
    refine wl_v 2 rfl (v_bin rfl rfl rfl) gn rfl ?_
    refine wl_v 3 rfl (v_conv ⟨_, un_3⟩ un_5 rfl) gn rfl ?_
    refine wl_v 4 rfl (v_move rfl) gn rfl ?_
    refine wl_v 5 rfl (v_quo rfl rfl (by decide)) gn rfl ?_
    refine wl_v 6 rfl (v_rem rfl rfl (by decide)) gn rfl ?_
    refine wl_v 7 rfl (v_bin rfl rfl rfl) gn rfl ?_
    refine wl_v 8 rfl (v_conv ⟨_, un_3⟩ un_5 rfl) gn rfl ?_
    refine wl_v 9 rfl (v_move rfl) gn rfl ?_
    refine wl_v 10 rfl (v_rem rfl rfl (by decide)) gn rfl ?_
    refine wl_v 11 rfl (v_bin rfl rfl rfl) gn rfl ?_
    refine wl_v 12 rfl (v_conv ⟨_, un_3⟩ un_5 rfl) gn rfl ?_
    refine wl_s 13 rfl (s_litO (xs := ([IntKind.u8.wrap (w64 (224 + (w64 (Int.tdiv x1 4096)))), IntKind.u8.wrap (w64 (128 + (Int.tmod (w64 (Int.tdiv x1 64)) 64))), IntKind.u8.wrap (w64 (128 + (Int.tmod x1 64)))] : List Int)) [.int .u8 (IntKind.u8.wrap (w64 (224 + (w64 (Int.tdiv x1 4096))))), .int .u8 (IntKind.u8.wrap (w64 (128 + (Int.tmod (w64 (Int.tdiv x1 64)) 64)))), .int .u8 (IntKind.u8.wrap (w64 (128 + (Int.tmod x1 64))))] bs_54_3 rfl (by kernel_rfl) rfl rfl rfl rfl fun gb12 h13 => ?_) gn
    refine wl_v 14 rfl (v_assign rfl) gn rfl ?_
    refine w_end 15 rfl ?_
    refine g_retR (c := q88c23) [.slice (some ⟨gb12, 0, none⟩) 3 3] rfl Tryd.func88 rfl (.tmp rfl (.nil)) fun wr hLr => ?_
    have hMr : B.Loc w wr [.own (.slice (some ⟨gb12, 0, none⟩) 3 3) 5 1 3 (([IntKind.u8.wrap (w64 (224 + (w64 (Int.tdiv x1 4096)))), IntKind.u8.wrap (w64 (128 + (Int.tmod (w64 (Int.tdiv x1 64)) 64))), IntKind.u8.wrap (w64 (128 + (Int.tmod x1 64)))] : List Int).flatMap (eI .u8))] [St w []] := hLr.pick (rest := []) (perm_of_idx [0] [] rfl rfl (by kernel_rfl)) (sels [1] rfl)
    show trellisref25_utf8_R w F  r (.returned (packV [.slice (some ⟨gb12, 0, none⟩) 3 3])) wr
    rw [h]
    exact ⟨(some ⟨gb12, 0, none⟩), 3, 3, rfl, hMr, h13⟩
   ·have h := if_neg' hp10 h
    refine g_false (c := q88c19) rfl _ rfl ((decide_eq_false hp10)) ?_
    refine g_skip (c := q88c21) rfl ?_
    refine g_inBlock ?_
    refine g_seq (c := q88c4) rfl ?_
    refine g_region (c := q88c24) rfl rfl ?_
    refine wl_v 0 rfl (v_move rfl) gn rfl ?_
    refine wl_v 1 rfl (v_quo rfl rfl (by decide)) gn rfl ?_
    refine wl_v 2 rfl (v_bin rfl rfl rfl) gn rfl ?_
    refine wl_v 3 rfl (v_conv ⟨_, un_3⟩ un_5 rfl) gn rfl ?_
    refine wl_v 4 rfl (v_move rfl) gn rfl ?_
    refine wl_v 5 rfl (v_quo rfl rfl (by decide)) gn rfl ?_
    refine wl_v 6 rfl (v_rem rfl rfl (by decide)) gn rfl ?_
    refine wl_v 7 rfl (v_bin rfl rfl rfl) gn rfl ?_
    refine wl_v 8 rfl (v_conv ⟨_, un_3⟩ un_5 rfl) gn rfl ?_
    refine wl_v 9 rfl (v_move rfl) gn rfl ?_
    refine wl_v 10 rfl (v_quo rfl rfl (by decide)) gn rfl ?_
    refine wl_v 11 rfl (v_rem rfl rfl (by decide)) gn rfl ?_
    refine wl_v 12 rfl (v_bin rfl rfl rfl) gn rfl ?_
    refine wl_v 13 rfl (v_conv ⟨_, un_3⟩ un_5 rfl) gn rfl ?_
    refine wl_v 14 rfl (v_move rfl) gn rfl ?_
    refine wl_v 15 rfl (v_rem rfl rfl (by decide)) gn rfl ?_
    refine wl_v 16 rfl (v_bin rfl rfl rfl) gn rfl ?_
    refine wl_v 17 rfl (v_conv ⟨_, un_3⟩ un_5 rfl) gn rfl ?_
    refine wl_s 18 rfl (s_litO (xs := ([IntKind.u8.wrap (w64 (240 + (w64 (Int.tdiv x1 262144)))), IntKind.u8.wrap (w64 (128 + (Int.tmod (w64 (Int.tdiv x1 4096)) 64))), IntKind.u8.wrap (w64 (128 + (Int.tmod (w64 (Int.tdiv x1 64)) 64))), IntKind.u8.wrap (w64 (128 + (Int.tmod x1 64)))] : List Int)) [.int .u8 (IntKind.u8.wrap (w64 (240 + (w64 (Int.tdiv x1 262144))))), .int .u8 (IntKind.u8.wrap (w64 (128 + (Int.tmod (w64 (Int.tdiv x1 4096)) 64)))), .int .u8 (IntKind.u8.wrap (w64 (128 + (Int.tmod (w64 (Int.tdiv x1 64)) 64)))), .int .u8 (IntKind.u8.wrap (w64 (128 + (Int.tmod x1 64))))] bs_54_4 rfl (by kernel_rfl) rfl rfl rfl rfl fun gb15 h16 => ?_) gn
    refine wl_v 19 rfl (v_assign rfl) gn rfl ?_
    refine w_end 20 rfl ?_
    refine g_retR (c := q88c25) [.slice (some ⟨gb15, 0, none⟩) 4 4] rfl Tryd.func88 rfl (.tmp rfl (.nil)) fun wr hLr => ?_
    have hMr : B.Loc w wr [.own (.slice (some ⟨gb15, 0, none⟩) 4 4) 5 1 4 (([IntKind.u8.wrap (w64 (240 + (w64 (Int.tdiv x1 262144)))), IntKind.u8.wrap (w64 (128 + (Int.tmod (w64 (Int.tdiv x1 4096)) 64))), IntKind.u8.wrap (w64 (128 + (Int.tmod (w64 (Int.tdiv x1 64)) 64))), IntKind.u8.wrap (w64 (128 + (Int.tmod x1 64)))] : List Int).flatMap (eI .u8))] [St w []] := hLr.pick (rest := []) (perm_of_idx [0] [] rfl rfl (by kernel_rfl)) (sels [1] rfl)
    show trellisref25_utf8_R w F  r (.returned (packV [.slice (some ⟨gb15, 0, none⟩) 4 4])) wr
    rw [h]
    exact ⟨(some ⟨gb15, 0, none⟩), 4, 4, rfl, hMr, h16⟩
noncomputable abbrev q76c0 : Code := bodyOf Tryd.f76
noncomputable abbrev q76c1 : Code := Code.fst q76c0
noncomputable abbrev q76c2 : Code := Code.snd q76c0
noncomputable abbrev q76c3 : Code := Code.fst q76c2
noncomputable abbrev q76c4 : Code := Code.snd q76c2
noncomputable abbrev q76c5 : Code := Code.fst q76c3
noncomputable abbrev q76c6 : Code := Code.snd q76c3
noncomputable abbrev q76c7 : Code := Code.fst q76c6
noncomputable abbrev q76c8 : Code := Code.fst q76c7
noncomputable abbrev q76c9 : Code := Code.fst q76c8
noncomputable abbrev q76c10 : Code := Code.snd q76c8
noncomputable abbrev q76c11 : Code := Code.fst q76c9
noncomputable abbrev q76c12 : Code := Code.snd q76c9
noncomputable abbrev q76c13 : Code := Code.fst q76c12
noncomputable abbrev q76c14 : Code := Code.snd q76c12
noncomputable abbrev q76c15 : Code := Code.fst q76c10
noncomputable abbrev q76c16 : Code := Code.snd q76c10
noncomputable abbrev q76c17 : Code := Code.fst q76c15
noncomputable abbrev q76c18 : Code := Code.fst q76c17
noncomputable abbrev q76c19 : Code := Code.snd q76c17
noncomputable abbrev q76c20 : Code := Code.fst q76c19
noncomputable abbrev q76c21 : Code := Code.snd q76c19
noncomputable abbrev q76c22 : Code := Code.fst q76c20
noncomputable abbrev q76c23 : Code := Code.snd q76c20
noncomputable abbrev q76c24 : Code := Code.fst q76c4
noncomputable abbrev q76c25 : Code := Code.snd q76c4
noncomputable abbrev q76c26 : Code := Code.fst q76c25
noncomputable abbrev q76c27 : Code := Code.snd q76c25
noncomputable abbrev q76c28 : Code := Code.fst q76c26
noncomputable abbrev q76c29 : Code := Code.snd q76c26
noncomputable abbrev q76c30 : Code := Code.fst q76c29
noncomputable abbrev q76c31 : Code := Code.snd q76c29
noncomputable abbrev q76c32 : Code := Code.fst q76c27
noncomputable abbrev q76c33 : Code := Code.snd q76c27
noncomputable abbrev q76c34 : Code := Code.fst q76c33
noncomputable abbrev q76c35 : Code := Code.snd q76c33
noncomputable abbrev q76c36 : Code := Code.fst q76c34
noncomputable abbrev q76c37 : Code := Code.snd q76c34
noncomputable abbrev q76c38 : Code := Code.fst q76c37
noncomputable abbrev q76c39 : Code := Code.snd q76c37
noncomputable abbrev q76c40 : Code := Code.fst q76c35
noncomputable abbrev q76c41 : Code := Code.snd q76c35
noncomputable abbrev q76c42 : Code := Code.fst q76c41
noncomputable abbrev q76c43 : Code := Code.snd q76c41
noncomputable abbrev q76c44 : Code := Code.fst q76c42
noncomputable abbrev q76c45 : Code := Code.snd q76c42
noncomputable abbrev q76c46 : Code := Code.fst q76c45
noncomputable abbrev q76c47 : Code := Code.snd q76c45
noncomputable abbrev q76c48 : Code := Code.fst q76c46
noncomputable abbrev q76c49 : Code := Code.snd q76c46
noncomputable abbrev q76c50 : Code := Code.fst q76c43
noncomputable abbrev q76c51 : Code := Code.snd q76c43
noncomputable abbrev q76c52 : Code := Code.fst q76c51
noncomputable abbrev q76c53 : Code := Code.snd q76c51
noncomputable abbrev q76c54 : Code := Code.fst q76c53
noncomputable abbrev q76c55 : Code := Code.snd q76c53
noncomputable abbrev q76c56 : Code := Code.fst q76c55
noncomputable abbrev q76c57 : Code := Code.snd q76c55
noncomputable abbrev q76c58 : Code := Code.fst q76c30
noncomputable abbrev q76c59 : Code := Code.snd q76c30
abbrev trellisref25_Reader_escape_R (w : World) (F : Nat → Prop) (g2 : Nat) (Tb3 : Nat) (A4 : Option Addr) (n5 : Nat) (c6 : Nat) (z8 : Nat) (r : (List Int) × Int × trellisref25_Reader) : Ending → World → Prop := fun e w' => ∃ A0 : Option Addr, ∃ n0 : Nat, ∃ c0 : Nat, ∃ A1 : Option Addr, ∃ n1 : Nat, ∃ c1 : Nat, e = .returned (.tuple #[.slice A0 n0 c0, .int .i64 r.2.1]) ∧ B.Loc w w' [.box g2 Tb3 [.string r.2.2.s, .slice A1 n1 c1, .int .i64 r.2.2.e, .int .i64 r.2.2.at_], .own (.slice A0 n0 c0) 5 1 n0 (r.1.flatMap (eI .u8)), .own (.slice A1 n1 c1) 31 4 n1 (r.2.2.l.flatMap enc_api_JNode)] [St w [[g2], (Value.slice A4 n5 c6).ownBlock.toList]] ∧ Ow w.heap.size A0 n0 c0 r.1 ∧ Ow z8 A1 n1 c1 r.2.2.l
noncomputable abbrev trellisref25_Reader_escape_C (w : World) (F : Nat → Prop) (g2 : Nat) (Tb3 : Nat) (A4 : Option Addr) (n5 : Nat) (c6 : Nat) (z8 : Nat) (r : (List Int) × Int × trellisref25_Reader) : Cx := ⟨Tryd.prog, 76, Tryd.f76, 85, trellisref25_Reader_escape_R w F g2 Tb3 A4 n5 c6 z8 r, w⟩
theorem trellisref25_Reader_escape_calls (w : World) (F : Nat → Prop) (x1 : trellisref25_Reader) (x10 : Int) (g2 : Nat) (Tb3 : Nat) (z8 : Nat) (A4 : Option Addr) (n5 : Nat) (c6 : Nat) (hz9 : z8 ≤ w.heap.size) (h7 : Ow z8 A4 n5 c6 x1.l) (hF : ∀ b, F b → b < w.heap.size ∧ ∀ o ∈ ([[g2], (Value.slice A4 n5 c6).ownBlock.toList] : List (List Nat)), b ∉ o) (hL0 : B.Loc w w [.box g2 Tb3 [.string x1.s, .slice A4 n5 c6, .int .i64 x1.e, .int .i64 x1.at_], .own (.slice A4 n5 c6) 31 4 n5 (x1.l.flatMap enc_api_JNode)] [Sm w.heap.size F w [[g2], (Value.slice A4 n5 c6).ownBlock.toList], St w [[g2], (Value.slice A4 n5 c6).ownBlock.toList]]) (r : (List Int) × Int × trellisref25_Reader) (h : trellisref25_Reader_escape x1 x10 r) : Calls Tryd.prog 76 #[.pointer (some ⟨g2, 0, none⟩), .int .i64 x10] w (trellisref25_Reader_escape_R w F g2 Tb3 A4 n5 c6 z8 r) := by
 unfold trellisref25_Reader_escape at h
 refine calls_of_Loc (vs := [.pointer (some ⟨g2, 0, none⟩), .int .i64 x10]) 85 Tryd.func76 rfl Tryd.ntmps76 rfl hL0 ?_
 show G (trellisref25_Reader_escape_C w F g2 Tb3 A4 n5 c6 z8 r) _ _ _ _
 refine g_seq (c := q76c0) rfl ?_
 refine g_region (c := q76c1) rfl rfl ?_
 refine wl_v 0 rfl (v_assign rfl) gn rfl ?_
 refine wl_v 1 rfl (v_assign rfl) gn rfl ?_
 refine w_end 2 rfl ?_
 refine g_seq (c := q76c2) rfl ?_
 refine g_seq (c := q76c3) rfl ?_
 refine g_region (c := q76c5) rfl rfl ?_
 refine wl_v 0 rfl (v_assign rfl) gn rfl ?_
 refine w_end 1 rfl ?_
 refine g_block (c := q76c6) rfl ?_
 refine g_loop (c := q76c7) rfl ?_
 have key1 : ∀ s, Rounds (fun (s : Int × ByteArray × (List api_JNode) × Int × Int) o => trellisref25_Reader_escape_b1 x10 s.1 s.2.1 s.2.2.1 s.2.2.2.1 s.2.2.2.2 o) s r → (fun (s : Int × ByteArray × (List api_JNode) × Int × Int) => ∀ (A34 : Option Addr) (n35 : Nat) (c36 : Nat) (h37 : Ow z8 A34 n35 c36 s.2.2.1), G (trellisref25_Reader_escape_C w F g2 Tb3 A4 n5 c6 z8 r) [.code q76c8, .inLoop q76c8, .inBlock 0, .code q76c4] [(0, .pointer (some ⟨g2, 0, none⟩)), (1, .int .i64 x10), (6, .int .i64 s.1)] [.own (.slice A34 n35 c36) 31 4 n35 (s.2.2.1.flatMap enc_api_JNode), .box g2 Tb3 [.string s.2.1, .slice A34 n35 c36, .int .i64 s.2.2.2.1, .int .i64 s.2.2.2.2]] [Sm w.heap.size F w [[g2], (Value.slice A4 n5 c6).ownBlock.toList], St w [[g2], (Value.slice A4 n5 c6).ownBlock.toList]]) s := by
  intro s hs
  refine Rounds.ind (mot := (fun (s : Int × ByteArray × (List api_JNode) × Int × Int) => ∀ (A34 : Option Addr) (n35 : Nat) (c36 : Nat) (h37 : Ow z8 A34 n35 c36 s.2.2.1), G (trellisref25_Reader_escape_C w F g2 Tb3 A4 n5 c6 z8 r) [.code q76c8, .inLoop q76c8, .inBlock 0, .code q76c4] [(0, .pointer (some ⟨g2, 0, none⟩)), (1, .int .i64 x10), (6, .int .i64 s.1)] [.own (.slice A34 n35 c36) 31 4 n35 (s.2.2.1.flatMap enc_api_JNode), .box g2 Tb3 [.string s.2.1, .slice A34 n35 c36, .int .i64 s.2.2.2.1, .int .i64 s.2.2.2.2]] [Sm w.heap.size F w [[g2], (Value.slice A4 n5 c6).ownBlock.toList], St w [[g2], (Value.slice A4 n5 c6).ownBlock.toList]])) ?_ hs
  clear hs s
  intro s o1 h hO1
  obtain ⟨x31, x32, x33, x38, x39⟩ := s
  show ∀ (A34 : Option Addr) (n35 : Nat) (c36 : Nat) (h37 : Ow z8 A34 n35 c36 x33), G (trellisref25_Reader_escape_C w F g2 Tb3 A4 n5 c6 z8 r) [.code q76c8, .inLoop q76c8, .inBlock 0, .code q76c4] [(0, .pointer (some ⟨g2, 0, none⟩)), (1, .int .i64 x10), (6, .int .i64 x31)] [.own (.slice A34 n35 c36) 31 4 n35 (x33.flatMap enc_api_JNode), .box g2 Tb3 [.string x32, .slice A34 n35 c36, .int .i64 x38, .int .i64 x39]] [Sm w.heap.size F w [[g2], (Value.slice A4 n5 c6).ownBlock.toList], St w [[g2], (Value.slice A4 n5 c6).ownBlock.toList]]
  intro A34 n35 c36 h37
  have h : trellisref25_Reader_escape_b1 x10 x31 x32 x33 x38 x39 o1 := h
  unfold trellisref25_Reader_escape_b1 at h
  refine g_seq (c := q76c8) rfl ?_
  refine g_seq (c := q76c9) rfl ?_
  refine g_region (c := q76c11) rfl rfl ?_
  refine wl_v 0 rfl (v_move rfl) gn rfl ?_
  refine wl_v 1 rfl (v_bin rfl rfl rfl) gn rfl ?_
  refine w_end 2 rfl ?_
  by_cases hp175 : x31 < 8
  ·have h := if_pos' hp175 h
   refine g_true (c := q76c12) rfl _ rfl ((decide_eq_true hp175)) ?_
   refine g_skip (c := q76c13) rfl ?_
   refine g_seq (c := q76c10) rfl ?_
   refine g_block (c := q76c15) rfl ?_
   refine g_seq (c := q76c17) rfl ?_
   refine g_region (c := q76c18) rfl rfl ?_
   refine wl_v 0 rfl (v_move rfl) gn rfl ?_
   refine wl_v 1 rfl (v_move rfl) gn rfl ?_
   refine wl_v 2 rfl (v_bin rfl rfl rfl) gn rfl ?_
   refine wl_v 3 rfl (v_move rfl) gn rfl ?_
   refine wl_v 4 rfl (v_move rfl) gn rfl ?_
   refine wl_v 5 rfl (v_bin rfl rfl rfl) gn rfl ?_
   obtain ⟨hb176, h⟩ := h
   refine wl_v 6 rfl (v_cutS x31 (w64 (x31 + 1)) un_9 rfl (.inr ⟨_, _, rfl, rfl⟩) (.inr ⟨_, _, rfl, rfl⟩) ⟨hb176.1, hb176.2.1⟩ hb176.2.2) gn rfl ?_
   obtain ⟨r180, hv181, h⟩ := h
   refine wl_s 7 rfl (s_call [.pointer (some ⟨g2, 0, none⟩), .int .i64 (w64 (x10 + 1)), .string ((⟨#[34, 92, 47, 98, 102, 110, 114, 116]⟩ : ByteArray).extract (x31 : Int).toNat (w64 (x31 + 1) : Int).toNat)] rfl Tryd.func60 rfl rfl rfl fun w177 hL178 => ?_) gn
   have hp179 : List.Perm ([.own (.slice A34 n35 c36) 31 4 n35 (x33.flatMap enc_api_JNode), .box g2 Tb3 [.string x32, .slice A34 n35 c36, .int .i64 x38, .int .i64 x39]] : List Ent) (([.box g2 Tb3 [.string x32, .slice A34 n35 c36, .int .i64 x38, .int .i64 x39], .own (.slice A34 n35 c36) 31 4 n35 (x33.flatMap enc_api_JNode)] : List Ent) ++ ([] : List Ent)) := perm_of_idx [1, 0] [] rfl rfl (by kernel_rfl)
   refine Calls.mono (trellisref25_Reader_has_calls w177 (Fl ([] : List Snap)) (⟨x32, x33, x38, x39⟩ : trellisref25_Reader) (w64 (x10 + 1)) ((⟨#[34, 92, 47, 98, 102, 110, 114, 116]⟩ : ByteArray).extract (x31 : Int).toNat (w64 (x31 + 1) : Int).toNat) g2 Tb3 z8 A34 n35 c36 (Nat.le_trans hz9 hL178.env.size) h37 (hL178.hFl (Sl := ([] : List Snap)) hp179 (sels [] rfl)) (hL178.into hp179 (Fl ([] : List Snap))) r180 hv181) ?_
   rintro _ w187 ⟨A182, n183, c184, rfl, hM188, h185⟩
   have hL189 := hL178.call hp179 hM188
   refine ⟨_, _, _, rfl, hL189, ?_⟩
   refine w_end 8 rfl ?_
   by_cases hp190 : r180.1 = true
   ·have h := if_pos' hp190 h
    refine g_true (c := q76c19) rfl _ rfl (hp190) ?_
    refine g_seq (c := q76c20) rfl ?_
    refine g_region (c := q76c22) rfl rfl ?_
    refine wl_v 0 rfl (v_move rfl) gn rfl ?_
    obtain ⟨hb191, h⟩ := h
    refine wl_v 1 rfl (v_indexS un_9 rfl rfl hb191) gn rfl ?_
    refine wl_s 2 rfl (s_litO (xs := ([bt (⟨#[34, 92, 47, 8, 12, 10, 13, 9]⟩ : ByteArray) x31] : List Int)) [.int .u8 (bt (⟨#[34, 92, 47, 8, 12, 10, 13, 9]⟩ : ByteArray) x31)] bs_54_1 rfl (by kernel_rfl) rfl rfl rfl rfl fun gb193 h194 => ?_) gn
    refine wl_v 3 rfl (v_move rfl) gn rfl ?_
    refine wl_v 4 rfl (v_bin rfl rfl rfl) gn rfl ?_
    refine wl_v 5 rfl (v_assign rfl) gn rfl ?_
    refine wl_v 6 rfl (v_assign rfl) gn rfl ?_
    refine w_end 7 rfl ?_
    have h := Out.inr hO1 h
    refine g_retR (c := q76c23) [.slice (some ⟨gb193, 0, none⟩) 1 1, .int .i64 (w64 (x10 + 2))] rfl Tryd.func76 rfl (.tmp rfl (.tmp rfl (.nil))) fun wr hLr => ?_
    have hMr : B.Loc w wr [.box g2 Tb3 [.string r180.2.s, .slice A182 n183 c184, .int .i64 r180.2.e, .int .i64 r180.2.at_], .own (.slice (some ⟨gb193, 0, none⟩) 1 1) 5 1 1 (([bt (⟨#[34, 92, 47, 8, 12, 10, 13, 9]⟩ : ByteArray) x31] : List Int).flatMap (eI .u8)), .own (.slice A182 n183 c184) 31 4 n183 (r180.2.l.flatMap enc_api_JNode)] [St w [[g2], (Value.slice A4 n5 c6).ownBlock.toList]] := hLr.pick (rest := []) (perm_of_idx [1, 0, 2] [] rfl rfl (by kernel_rfl)) (sels [1] rfl)
    show trellisref25_Reader_escape_R w F g2 Tb3 A4 n5 c6 z8 r (.returned (packV [.slice (some ⟨gb193, 0, none⟩) 1 1, .int .i64 (w64 (x10 + 2))])) wr
    rw [h]
    exact ⟨(some ⟨gb193, 0, none⟩), 1, 1, A182, n183, c184, rfl, hMr, h194, h185⟩
   ·have h := if_neg' hp190 h
    refine g_false (c := q76c19) rfl _ rfl ((bf hp190)) ?_
    refine g_skip (c := q76c21) rfl ?_
    refine g_inBlock ?_
    refine g_region (c := q76c16) rfl rfl ?_
    refine wl_v 0 rfl (v_move rfl) gn rfl ?_
    refine wl_v 1 rfl (v_bin rfl rfl rfl) gn rfl ?_
    refine wl_v 2 rfl (v_assign rfl) gn rfl ?_
    refine w_end 3 rfl ?_
    refine g_inLoop ?_
    refine g_front 0 rfl ?_
    refine g_front 1 rfl ?_
    have ih := Out.inl hO1 h
    exact g_go [0, 1] (ih A182 n183 c184 h185) ⟨rfl, rfl, rfl, trivial⟩ (.cons_cons _ (.cons_cons _ (.slnil))) rfl
  ·have h := if_neg' hp175 h
   refine g_false (c := q76c12) rfl _ rfl ((decide_eq_false hp175)) ?_
   refine g_exit (c := q76c14) [.code q76c4] rfl rfl ?_
   refine g_seq (c := q76c4) rfl ?_
   refine g_region (c := q76c24) rfl rfl ?_
   refine wl_v 0 rfl (v_move rfl) gn rfl ?_
   refine wl_v 1 rfl (v_move rfl) gn rfl ?_
   refine wl_v 2 rfl (v_bin rfl rfl rfl) gn rfl ?_
   obtain ⟨r198, hv199, h⟩ := h
   refine wl_s 3 rfl (s_call [.pointer (some ⟨g2, 0, none⟩), .int .i64 (w64 (x10 + 1)), .string (⟨#[117]⟩ : ByteArray)] rfl Tryd.func75 rfl rfl rfl fun w195 hL196 => ?_) gn
   have hp197 : List.Perm ([.own (.slice A34 n35 c36) 31 4 n35 (x33.flatMap enc_api_JNode), .box g2 Tb3 [.string x32, .slice A34 n35 c36, .int .i64 x38, .int .i64 x39]] : List Ent) (([.box g2 Tb3 [.string x32, .slice A34 n35 c36, .int .i64 x38, .int .i64 x39], .own (.slice A34 n35 c36) 31 4 n35 (x33.flatMap enc_api_JNode)] : List Ent) ++ ([] : List Ent)) := perm_of_idx [1, 0] [] rfl rfl (by kernel_rfl)
   refine Calls.mono (trellisref25_Reader_need_calls w195 (Fl ([] : List Snap)) (⟨x32, x33, x38, x39⟩ : trellisref25_Reader) (w64 (x10 + 1)) (⟨#[117]⟩ : ByteArray) g2 Tb3 z8 A34 n35 c36 (Nat.le_trans hz9 hL196.env.size) h37 (hL196.hFl (Sl := ([] : List Snap)) hp197 (sels [] rfl)) (hL196.into hp197 (Fl ([] : List Snap))) r198 hv199) ?_
   rintro _ w205 ⟨A200, n201, c202, rfl, hM206, h203⟩
   have hL207 := hL196.call hp197 hM206
   refine ⟨_, _, _, rfl, hL207, ?_⟩
   refine wl_v 4 rfl (v_assign rfl) gn rfl ?_
   refine w_end 5 rfl ?_
   refine g_seq (c := q76c25) rfl ?_
   refine g_seq (c := q76c26) rfl ?_
   refine g_region (c := q76c28) rfl rfl ?_
   refine wl_v 0 rfl (v_move rfl) gn rfl ?_
   refine wl_v 1 rfl (v_nilCheck rfl) gn rfl ?_
   refine wl_v 2 rfl (v_fldB fo_73_2 rfl) gn rfl ?_
   refine wl_v 3 rfl (v_ldB1 0 ld_34 rfl rfl rfl) gn rfl ?_
   refine wl_v 4 rfl (v_bin rfl rfl rfl) gn rfl ?_
   refine w_end 5 rfl ?_
   by_cases hp208 : r198.2.e = 0
   ·have h := if_pos' hp208 h
    refine g_false (c := q76c29) rfl _ rfl ((eqib hp208)) ?_
    refine g_skip (c := q76c31) rfl ?_
    refine g_seq (c := q76c27) rfl ?_
    refine g_region (c := q76c32) rfl rfl ?_
    refine wl_v 0 rfl (v_assign rfl) gn rfl ?_
    refine w_end 1 rfl ?_
    refine g_seq (c := q76c33) rfl ?_
    refine g_seq (c := q76c34) rfl ?_
    refine g_region (c := q76c36) rfl rfl ?_
    refine wl_v 0 rfl (v_move rfl) gn rfl ?_
    refine wl_v 1 rfl (v_move rfl) gn rfl ?_
    obtain ⟨r212, hv213, h⟩ := h
    refine wl_s 2 rfl (s_call [.pointer (some ⟨g2, 0, none⟩), .int .i64 r198.1, .string (⟨#[100, 68]⟩ : ByteArray)] rfl Tryd.func60 rfl rfl rfl fun w209 hL210 => ?_) gn
    have hp211 : List.Perm ([.box g2 Tb3 [.string r198.2.s, .slice A200 n201 c202, .int .i64 r198.2.e, .int .i64 r198.2.at_], .own (.slice A200 n201 c202) 31 4 n201 (r198.2.l.flatMap enc_api_JNode)] : List Ent) (([.box g2 Tb3 [.string r198.2.s, .slice A200 n201 c202, .int .i64 r198.2.e, .int .i64 r198.2.at_], .own (.slice A200 n201 c202) 31 4 n201 (r198.2.l.flatMap enc_api_JNode)] : List Ent) ++ ([] : List Ent)) := perm_of_idx [0, 1] [] rfl rfl (by kernel_rfl)
    refine Calls.mono (trellisref25_Reader_has_calls w209 (Fl ([] : List Snap)) r198.2 r198.1 (⟨#[100, 68]⟩ : ByteArray) g2 Tb3 z8 A200 n201 c202 (Nat.le_trans hz9 hL210.env.size) h203 (hL210.hFl (Sl := ([] : List Snap)) hp211 (sels [] rfl)) (hL210.into hp211 (Fl ([] : List Snap))) r212 hv213) ?_
    rintro _ w219 ⟨A214, n215, c216, rfl, hM220, h217⟩
    have hL221 := hL210.call hp211 hM220
    refine ⟨_, _, _, rfl, hL221, ?_⟩
    refine w_end 3 rfl ?_
    have j2 : ∀ (x224 : ByteArray) (h : trellisref25_Reader_escape_j2 r212 r198 x224 o1) , G (trellisref25_Reader_escape_C w F g2 Tb3 A4 n5 c6 z8 r) [.code q76c35] [(0, .pointer (some ⟨g2, 0, none⟩)), (1, .int .i64 r198.1), (7, .string x224)] [.box g2 Tb3 [.string r212.2.s, .slice A214 n215 c216, .int .i64 r212.2.e, .int .i64 r212.2.at_], .own (.slice A214 n215 c216) 31 4 n215 (r212.2.l.flatMap enc_api_JNode)] [Sm w.heap.size F w [[g2], (Value.slice A4 n5 c6).ownBlock.toList], St w [[g2], (Value.slice A4 n5 c6).ownBlock.toList]] := by
     intro x224 h
     unfold trellisref25_Reader_escape_j2 at h
     refine g_seq (c := q76c35) rfl ?_
     refine g_region (c := q76c40) rfl rfl ?_
     refine wl_v 0 rfl (v_move rfl) gn rfl ?_
     refine wl_v 1 rfl (v_move rfl) gn rfl ?_
     refine wl_v 2 rfl (v_move rfl) gn rfl ?_
     obtain ⟨r228, hv229, h⟩ := h
     refine wl_s 3 rfl (s_call [.pointer (some ⟨g2, 0, none⟩), .int .i64 r198.1, .string (⟨#[48, 49, 50, 51, 52, 53, 54, 55, 56, 57, 97, 98, 99, 100, 101, 102, 65, 66, 67, 68, 69, 70]⟩ : ByteArray), .string x224] rfl Tryd.func87 rfl rfl rfl fun w225 hL226 => ?_) gn
     have hp227 : List.Perm ([.box g2 Tb3 [.string r212.2.s, .slice A214 n215 c216, .int .i64 r212.2.e, .int .i64 r212.2.at_], .own (.slice A214 n215 c216) 31 4 n215 (r212.2.l.flatMap enc_api_JNode)] : List Ent) (([.box g2 Tb3 [.string r212.2.s, .slice A214 n215 c216, .int .i64 r212.2.e, .int .i64 r212.2.at_], .own (.slice A214 n215 c216) 31 4 n215 (r212.2.l.flatMap enc_api_JNode)] : List Ent) ++ ([] : List Ent)) := perm_of_idx [0, 1] [] rfl rfl (by kernel_rfl)
     refine Calls.mono (trellisref25_Reader_four_calls w225 (Fl ([] : List Snap)) r212.2 r198.1 (⟨#[48, 49, 50, 51, 52, 53, 54, 55, 56, 57, 97, 98, 99, 100, 101, 102, 65, 66, 67, 68, 69, 70]⟩ : ByteArray) x224 g2 Tb3 z8 A214 n215 c216 (Nat.le_trans hz9 hL226.env.size) h217 (hL226.hFl (Sl := ([] : List Snap)) hp227 (sels [] rfl)) (hL226.into hp227 (Fl ([] : List Snap))) r228 hv229) ?_
     rintro _ w235 ⟨A230, n231, c232, rfl, hM236, h233⟩
     have hL237 := hL226.call hp227 hM236
     refine ⟨_, _, _, rfl, hL237, ?_⟩
     refine wl_v 4 rfl (v_move rfl) gn rfl ?_
     refine wl_v 5 rfl (v_extract rfl rfl) gn rfl ?_
     refine wl_v 6 rfl (v_extract rfl rfl) gn rfl ?_
     refine wl_v 7 rfl (v_assign rfl) gn rfl ?_
     refine wl_v 8 rfl (v_assign rfl) gn rfl ?_
     refine w_end 9 rfl ?_
     refine g_seq (c := q76c41) rfl ?_
     refine g_seq (c := q76c42) rfl ?_
     have j3 : ∀ (x241 : Bool) (h : trellisref25_Reader_escape_j3 r228 x241 o1) , G (trellisref25_Reader_escape_C w F g2 Tb3 A4 n5 c6 z8 r) [.code q76c45, .code q76c43] [(0, .pointer (some ⟨g2, 0, none⟩)), (8, .int .i64 r228.1), (9, .int .i64 r228.2.1), (60, .bool x241)] [.box g2 Tb3 [.string r228.2.2.s, .slice A230 n231 c232, .int .i64 r228.2.2.e, .int .i64 r228.2.2.at_], .own (.slice A230 n231 c232) 31 4 n231 (r228.2.2.l.flatMap enc_api_JNode)] [Sm w.heap.size F w [[g2], (Value.slice A4 n5 c6).ownBlock.toList], St w [[g2], (Value.slice A4 n5 c6).ownBlock.toList]] := by
      intro x241 h
      unfold trellisref25_Reader_escape_j3 at h
      by_cases hp242 : x241 = true
      ·have h := if_pos' hp242 h
       refine g_true (c := q76c45) rfl _ rfl (hp242) ?_
       refine g_seq (c := q76c46) rfl ?_
       refine g_region (c := q76c48) rfl rfl ?_
       refine wl_v 0 rfl (v_move rfl) gn rfl ?_
       obtain ⟨r246, hv247, h⟩ := h
       refine wl_s 1 rfl (s_call [.int .i64 r228.1] rfl Tryd.func88 rfl rfl rfl fun w243 hL244 => ?_) gn
       have hp245 : List.Perm ([.box g2 Tb3 [.string r228.2.2.s, .slice A230 n231 c232, .int .i64 r228.2.2.e, .int .i64 r228.2.2.at_], .own (.slice A230 n231 c232) 31 4 n231 (r228.2.2.l.flatMap enc_api_JNode)] : List Ent) (([] : List Ent) ++ ([.box g2 Tb3 [.string r228.2.2.s, .slice A230 n231 c232, .int .i64 r228.2.2.e, .int .i64 r228.2.2.at_], .own (.slice A230 n231 c232) 31 4 n231 (r228.2.2.l.flatMap enc_api_JNode)] : List Ent)) := perm_of_idx [] [0, 1] rfl rfl (by kernel_rfl)
       refine Calls.mono (trellisref25_utf8_calls w243 (Fl ([] : List Snap)) r228.1 (hL244.hFl (Sl := ([] : List Snap)) hp245 (sels [] rfl)) (hL244.into hp245 (Fl ([] : List Snap))) r246 hv247) ?_
       rintro _ w253 ⟨A248, n249, c250, rfl, hM254, h251⟩
       have hL255 := hL244.call hp245 hM254
       refine ⟨_, _, _, rfl, hL255, ?_⟩
       refine wl_v 2 rfl (v_move rfl) gn rfl ?_
       refine wl_v 3 rfl (v_assign rfl) gn rfl ?_
       refine wl_v 4 rfl (v_assign rfl) gn rfl ?_
       refine w_end 5 rfl ?_
       have h := Out.inr hO1 h
       refine g_retR (c := q76c49) [.slice A248 n249 c250, .int .i64 r228.2.1] rfl Tryd.func76 rfl (.tmp rfl (.tmp rfl (.nil))) fun wr hLr => ?_
       have hMr : B.Loc w wr [.box g2 Tb3 [.string r228.2.2.s, .slice A230 n231 c232, .int .i64 r228.2.2.e, .int .i64 r228.2.2.at_], .own (.slice A248 n249 c250) 5 1 n249 (r246.flatMap (eI .u8)), .own (.slice A230 n231 c232) 31 4 n231 (r228.2.2.l.flatMap enc_api_JNode)] [St w [[g2], (Value.slice A4 n5 c6).ownBlock.toList]] := hLr.pick (rest := []) (perm_of_idx [1, 0, 2] [] rfl rfl (by kernel_rfl)) (sels [1] rfl)
       show trellisref25_Reader_escape_R w F g2 Tb3 A4 n5 c6 z8 r (.returned (packV [.slice A248 n249 c250, .int .i64 r228.2.1])) wr
       rw [h]
       exact ⟨A248, n249, c250, A230, n231, c232, rfl, hMr, (Ow.weak hL244.env.size h251), h233⟩
      ·have h := if_neg' hp242 h
       refine g_false (c := q76c45) rfl _ rfl ((bf hp242)) ?_
       refine g_skip (c := q76c47) rfl ?_
       refine g_seq (c := q76c43) rfl ?_
       refine g_region (c := q76c50) rfl rfl ?_
       refine wl_v 0 rfl (v_move rfl) gn rfl ?_
       refine wl_v 1 rfl (v_move rfl) gn rfl ?_
       obtain ⟨r259, hv260, h⟩ := h
       refine wl_s 2 rfl (s_call [.pointer (some ⟨g2, 0, none⟩), .int .i64 r228.2.1, .string (⟨#[92]⟩ : ByteArray)] rfl Tryd.func75 rfl rfl rfl fun w256 hL257 => ?_) gn
       have hp258 : List.Perm ([.box g2 Tb3 [.string r228.2.2.s, .slice A230 n231 c232, .int .i64 r228.2.2.e, .int .i64 r228.2.2.at_], .own (.slice A230 n231 c232) 31 4 n231 (r228.2.2.l.flatMap enc_api_JNode)] : List Ent) (([.box g2 Tb3 [.string r228.2.2.s, .slice A230 n231 c232, .int .i64 r228.2.2.e, .int .i64 r228.2.2.at_], .own (.slice A230 n231 c232) 31 4 n231 (r228.2.2.l.flatMap enc_api_JNode)] : List Ent) ++ ([] : List Ent)) := perm_of_idx [0, 1] [] rfl rfl (by kernel_rfl)
       refine Calls.mono (trellisref25_Reader_need_calls w256 (Fl ([] : List Snap)) r228.2.2 r228.2.1 (⟨#[92]⟩ : ByteArray) g2 Tb3 z8 A230 n231 c232 (Nat.le_trans hz9 hL257.env.size) h233 (hL257.hFl (Sl := ([] : List Snap)) hp258 (sels [] rfl)) (hL257.into hp258 (Fl ([] : List Snap))) r259 hv260) ?_
       rintro _ w266 ⟨A261, n262, c263, rfl, hM267, h264⟩
       have hL268 := hL257.call hp258 hM267
       refine ⟨_, _, _, rfl, hL268, ?_⟩
       refine wl_v 3 rfl (v_assign rfl) gn rfl ?_
       refine w_end 4 rfl ?_
       refine g_seq (c := q76c51) rfl ?_
       refine g_region (c := q76c52) rfl rfl ?_
       refine wl_v 0 rfl (v_move rfl) gn rfl ?_
       refine wl_v 1 rfl (v_move rfl) gn rfl ?_
       obtain ⟨r272, hv273, h⟩ := h
       refine wl_s 2 rfl (s_call [.pointer (some ⟨g2, 0, none⟩), .int .i64 r259.1, .string (⟨#[117]⟩ : ByteArray)] rfl Tryd.func75 rfl rfl rfl fun w269 hL270 => ?_) gn
       have hp271 : List.Perm ([.box g2 Tb3 [.string r259.2.s, .slice A261 n262 c263, .int .i64 r259.2.e, .int .i64 r259.2.at_], .own (.slice A261 n262 c263) 31 4 n262 (r259.2.l.flatMap enc_api_JNode)] : List Ent) (([.box g2 Tb3 [.string r259.2.s, .slice A261 n262 c263, .int .i64 r259.2.e, .int .i64 r259.2.at_], .own (.slice A261 n262 c263) 31 4 n262 (r259.2.l.flatMap enc_api_JNode)] : List Ent) ++ ([] : List Ent)) := perm_of_idx [0, 1] [] rfl rfl (by kernel_rfl)
       refine Calls.mono (trellisref25_Reader_need_calls w269 (Fl ([] : List Snap)) r259.2 r259.1 (⟨#[117]⟩ : ByteArray) g2 Tb3 z8 A261 n262 c263 (Nat.le_trans hz9 hL270.env.size) h264 (hL270.hFl (Sl := ([] : List Snap)) hp271 (sels [] rfl)) (hL270.into hp271 (Fl ([] : List Snap))) r272 hv273) ?_
       rintro _ w279 ⟨A274, n275, c276, rfl, hM280, h277⟩
       have hL281 := hL270.call hp271 hM280
       refine ⟨_, _, _, rfl, hL281, ?_⟩
       refine wl_v 3 rfl (v_assign rfl) gn rfl ?_
       refine w_end 4 rfl ?_
       refine g_seq (c := q76c53) rfl ?_
       refine g_region (c := q76c54) rfl rfl ?_
       refine wl_v 0 rfl (v_move rfl) gn rfl ?_
       refine wl_v 1 rfl (v_move rfl) gn rfl ?_
       obtain ⟨r285, hv286, h⟩ := h
       refine wl_s 2 rfl (s_call [.pointer (some ⟨g2, 0, none⟩), .int .i64 r272.1, .string (⟨#[100, 68]⟩ : ByteArray), .string (⟨#[99, 100, 101, 102, 67, 68, 69, 70]⟩ : ByteArray)] rfl Tryd.func87 rfl rfl rfl fun w282 hL283 => ?_) gn
       have hp284 : List.Perm ([.box g2 Tb3 [.string r272.2.s, .slice A274 n275 c276, .int .i64 r272.2.e, .int .i64 r272.2.at_], .own (.slice A274 n275 c276) 31 4 n275 (r272.2.l.flatMap enc_api_JNode)] : List Ent) (([.box g2 Tb3 [.string r272.2.s, .slice A274 n275 c276, .int .i64 r272.2.e, .int .i64 r272.2.at_], .own (.slice A274 n275 c276) 31 4 n275 (r272.2.l.flatMap enc_api_JNode)] : List Ent) ++ ([] : List Ent)) := perm_of_idx [0, 1] [] rfl rfl (by kernel_rfl)
       refine Calls.mono (trellisref25_Reader_four_calls w282 (Fl ([] : List Snap)) r272.2 r272.1 (⟨#[100, 68]⟩ : ByteArray) (⟨#[99, 100, 101, 102, 67, 68, 69, 70]⟩ : ByteArray) g2 Tb3 z8 A274 n275 c276 (Nat.le_trans hz9 hL283.env.size) h277 (hL283.hFl (Sl := ([] : List Snap)) hp284 (sels [] rfl)) (hL283.into hp284 (Fl ([] : List Snap))) r285 hv286) ?_
       rintro _ w292 ⟨A287, n288, c289, rfl, hM293, h290⟩
       have hL294 := hL283.call hp284 hM293
       refine ⟨_, _, _, rfl, hL294, ?_⟩
       refine wl_v 3 rfl (v_move rfl) gn rfl ?_
       refine wl_v 4 rfl (v_extract rfl rfl) gn rfl ?_
       refine wl_v 5 rfl (v_extract rfl rfl) gn rfl ?_
       refine wl_v 6 rfl (v_assign rfl) gn rfl ?_
       refine wl_v 7 rfl (v_assign rfl) gn rfl ?_
       refine w_end 8 rfl ?_
       refine g_seq (c := q76c55) rfl ?_
       refine g_region (c := q76c56) rfl rfl ?_
       refine wl_v 0 rfl (v_move rfl) gn rfl ?_
       refine wl_v 1 rfl (v_bin rfl rfl rfl) gn rfl ?_
       refine wl_v 2 rfl (v_bin rfl rfl rfl) gn rfl ?_
       refine wl_v 3 rfl (v_bin rfl rfl rfl) gn rfl ?_
       refine wl_v 4 rfl (v_move rfl) gn rfl ?_
       refine wl_v 5 rfl (v_bin rfl rfl rfl) gn rfl ?_
       refine wl_v 6 rfl (v_bin rfl rfl rfl) gn rfl ?_
       obtain ⟨r298, hv299, h⟩ := h
       refine wl_s 7 rfl (s_call [.int .i64 (w64 ((w64 ((w64 (65536 + (w64 (1024 * (w64 (r228.1 - 55296)))))) + r285.1)) - 56320))] rfl Tryd.func88 rfl rfl rfl fun w295 hL296 => ?_) gn
       have hp297 : List.Perm ([.box g2 Tb3 [.string r285.2.2.s, .slice A287 n288 c289, .int .i64 r285.2.2.e, .int .i64 r285.2.2.at_], .own (.slice A287 n288 c289) 31 4 n288 (r285.2.2.l.flatMap enc_api_JNode)] : List Ent) (([] : List Ent) ++ ([.box g2 Tb3 [.string r285.2.2.s, .slice A287 n288 c289, .int .i64 r285.2.2.e, .int .i64 r285.2.2.at_], .own (.slice A287 n288 c289) 31 4 n288 (r285.2.2.l.flatMap enc_api_JNode)] : List Ent)) := perm_of_idx [] [0, 1] rfl rfl (by kernel_rfl)
       refine Calls.mono (trellisref25_utf8_calls w295 (Fl ([] : List Snap)) (w64 ((w64 ((w64 (65536 + (w64 (1024 * (w64 (r228.1 - 55296)))))) + r285.1)) - 56320)) (hL296.hFl (Sl := ([] : List Snap)) hp297 (sels [] rfl)) (hL296.into hp297 (Fl ([] : List Snap))) r298 hv299) ?_
       rintro _ w305 ⟨A300, n301, c302, rfl, hM306, h303⟩
       have hL307 := hL296.call hp297 hM306
       refine ⟨_, _, _, rfl, hL307, ?_⟩
       refine wl_v 8 rfl (v_move rfl) gn rfl ?_
       refine wl_v 9 rfl (v_assign rfl) gn rfl ?_
       refine wl_v 10 rfl (v_assign rfl) gn rfl ?_
       refine w_end 11 rfl ?_
       have h := Out.inr hO1 h
       refine g_retR (c := q76c57) [.slice A300 n301 c302, .int .i64 r285.2.1] rfl Tryd.func76 rfl (.tmp rfl (.tmp rfl (.nil))) fun wr hLr => ?_
       have hMr : B.Loc w wr [.box g2 Tb3 [.string r285.2.2.s, .slice A287 n288 c289, .int .i64 r285.2.2.e, .int .i64 r285.2.2.at_], .own (.slice A300 n301 c302) 5 1 n301 (r298.flatMap (eI .u8)), .own (.slice A287 n288 c289) 31 4 n288 (r285.2.2.l.flatMap enc_api_JNode)] [St w [[g2], (Value.slice A4 n5 c6).ownBlock.toList]] := hLr.pick (rest := []) (perm_of_idx [1, 0, 2] [] rfl rfl (by kernel_rfl)) (sels [1] rfl)
       show trellisref25_Reader_escape_R w F g2 Tb3 A4 n5 c6 z8 r (.returned (packV [.slice A300 n301 c302, .int .i64 r285.2.1])) wr
       rw [h]
       exact ⟨A300, n301, c302, A287, n288, c289, rfl, hMr, (Ow.weak hL296.env.size h303), h290⟩
     refine g_region (c := q76c44) rfl rfl ?_
     refine wl_v 0 rfl (v_move rfl) gn rfl ?_
     refine wl_v 1 rfl (v_nilCheck rfl) gn rfl ?_
     refine wl_v 2 rfl (v_fldB fo_73_2 rfl) gn rfl ?_
     refine wl_v 3 rfl (v_ldB1 0 ld_34 rfl rfl rfl) gn rfl ?_
     refine wl_v 4 rfl (v_bin rfl rfl rfl) gn rfl ?_
     refine wl_v 5 rfl (v_move rfl) gn rfl ?_
     by_cases hp308 : r228.2.2.e = 0
     ·have h := if_pos' hp308 h
      refine w_bool 53 rfl ((eqib hp308)) ?_
      refine wl_v 6 rfl (v_move rfl) (gy 53 rfl rfl) rfl ?_
      refine wl_v 7 rfl (v_bin rfl rfl rfl) (gy 53 rfl rfl) rfl ?_
      refine wl_v 8 rfl (v_pick (b := false) rfl rfl) gn rfl ?_
      refine wl_v 9 rfl (v_move rfl) gn rfl ?_
      by_cases hp309 : r228.1 < 55296
      ·have h := if_pos' hp309 h
       refine w_bool 57 rfl ((decide_eq_true hp309)) ?_
       refine wl_pass 10 rfl (ps 57 rfl rfl rfl) ?_
       refine wl_pass 11 rfl (ps 57 rfl rfl rfl) ?_
       refine wl_v 12 rfl (v_pick (b := true) rfl rfl) gn rfl ?_
       refine w_end 13 rfl ?_
       exact g_go [0, 1] (j3 true h) ⟨rfl, rfl, rfl, rfl, trivial⟩ (.cons_cons _ (.cons_cons _ (.slnil))) rfl
      ·have h := if_neg' hp309 h
       refine w_bool 57 rfl ((decide_eq_false hp309)) ?_
       refine wl_v 10 rfl (v_move rfl) (gy 57 rfl rfl) rfl ?_
       refine wl_v 11 rfl (v_bin rfl rfl rfl) (gy 57 rfl rfl) rfl ?_
       refine wl_v 12 rfl (v_pick (b := false) rfl rfl) gn rfl ?_
       refine w_end 13 rfl ?_
       exact g_go [0, 1] (j3 (decide (r228.1 > 56319)) h) ⟨rfl, rfl, rfl, rfl, trivial⟩ (.cons_cons _ (.cons_cons _ (.slnil))) rfl
     ·have h := if_neg' hp308 h
      refine w_bool 53 rfl ((neib hp308)) ?_
      refine wl_pass 6 rfl (ps 53 rfl rfl rfl) ?_
      refine wl_pass 7 rfl (ps 53 rfl rfl rfl) ?_
      refine wl_v 8 rfl (v_pick (b := true) rfl rfl) gn rfl ?_
      refine wl_v 9 rfl (v_move rfl) gn rfl ?_
      refine wl_pass 10 rfl (ps 57 rfl rfl rfl) ?_
      refine wl_pass 11 rfl (ps 57 rfl rfl rfl) ?_
      refine wl_v 12 rfl (v_pick (b := true) rfl rfl) gn rfl ?_
      refine w_end 13 rfl ?_
      exact g_go [0, 1] (j3 true h) ⟨rfl, rfl, rfl, rfl, trivial⟩ (.cons_cons _ (.cons_cons _ (.slnil))) rfl
    by_cases hp222 : r212.1 = true
    ·have h := if_pos' hp222 h
     refine g_true (c := q76c37) rfl _ rfl (hp222) ?_
     refine g_region (c := q76c38) rfl rfl ?_
     refine wl_v 0 rfl (v_assign rfl) gn rfl ?_
     refine w_end 1 rfl ?_
     exact g_go [0, 1] (j2 (⟨#[48, 49, 50, 51, 52, 53, 54, 55, 56, 57, 97, 98, 65, 66]⟩ : ByteArray) h) ⟨rfl, rfl, rfl, trivial⟩ (.cons_cons _ (.cons_cons _ (.slnil))) rfl
    ·have h := if_neg' hp222 h
     refine g_false (c := q76c37) rfl _ rfl ((bf hp222)) ?_
     refine g_skip (c := q76c39) rfl ?_
     exact g_go [0, 1] (j2 (⟨#[48, 49, 50, 51, 52, 53, 54, 55, 56, 57, 97, 98, 99, 100, 101, 102, 65, 66, 67, 68, 69, 70]⟩ : ByteArray) h) ⟨rfl, rfl, rfl, trivial⟩ (.cons_cons _ (.cons_cons _ (.slnil))) rfl
   ·have h := if_neg' hp208 h
    refine g_true (c := q76c29) rfl _ rfl ((neib hp208)) ?_
    refine g_seq (c := q76c30) rfl ?_
    refine g_region (c := q76c58) rfl rfl ?_
    refine wl_v 0 rfl (v_move rfl) gn rfl ?_
    refine wl_v 1 rfl (v_assign rfl) gn rfl ?_
    refine wl_v 2 rfl (v_assign rfl) gn rfl ?_
    refine w_end 3 rfl ?_
    refine g_nil 5 1 ?_
    have h := Out.inr hO1 h
    refine g_retR (c := q76c59) [.slice none 0 0, .int .i64 r198.1] rfl Tryd.func76 rfl (.tmp rfl (.tmp rfl (.nil))) fun wr hLr => ?_
    have hMr : B.Loc w wr [.box g2 Tb3 [.string r198.2.s, .slice A200 n201 c202, .int .i64 r198.2.e, .int .i64 r198.2.at_], .own (.slice none 0 0) 5 1 0 (([] : List Int).flatMap (eI .u8)), .own (.slice A200 n201 c202) 31 4 n201 (r198.2.l.flatMap enc_api_JNode)] [St w [[g2], (Value.slice A4 n5 c6).ownBlock.toList]] := hLr.pick (rest := []) (perm_of_idx [1, 0, 2] [] rfl rfl (by kernel_rfl)) (sels [1] rfl)
    show trellisref25_Reader_escape_R w F g2 Tb3 A4 n5 c6 z8 r (.returned (packV [.slice none 0 0, .int .i64 r198.1])) wr
    rw [h]
    exact ⟨none, 0, 0, A200, n201, c202, rfl, hMr, (Ow.nil (z := w.heap.size)), h203⟩
 refine g_front 0 rfl ?_
 refine g_front 1 rfl ?_
 exact g_go [0, 1] (key1 _ h A4 n5 c6 h7) ⟨rfl, rfl, rfl, trivial⟩ (.cons_cons _ (.cons_cons _ (.slnil))) rfl
noncomputable abbrev q62c0 : Code := bodyOf Tryd.f62
noncomputable abbrev q62c1 : Code := Code.fst q62c0
noncomputable abbrev q62c2 : Code := Code.snd q62c0
noncomputable abbrev q62c3 : Code := Code.fst q62c2
noncomputable abbrev q62c4 : Code := Code.snd q62c2
noncomputable abbrev q62c5 : Code := Code.fst q62c4
noncomputable abbrev q62c6 : Code := Code.snd q62c4
noncomputable abbrev q62c7 : Code := Code.fst q62c6
noncomputable abbrev q62c8 : Code := Code.snd q62c6
noncomputable abbrev q62c9 : Code := Code.fst q62c7
noncomputable abbrev q62c10 : Code := Code.fst q62c9
noncomputable abbrev q62c11 : Code := Code.fst q62c10
noncomputable abbrev q62c12 : Code := Code.snd q62c10
noncomputable abbrev q62c13 : Code := Code.fst q62c11
noncomputable abbrev q62c14 : Code := Code.snd q62c11
noncomputable abbrev q62c15 : Code := Code.fst q62c14
noncomputable abbrev q62c16 : Code := Code.snd q62c14
noncomputable abbrev q62c17 : Code := Code.fst q62c12
noncomputable abbrev q62c18 : Code := Code.fst q62c17
noncomputable abbrev q62c19 : Code := Code.snd q62c17
noncomputable abbrev q62c20 : Code := Code.fst q62c19
noncomputable abbrev q62c21 : Code := Code.snd q62c19
noncomputable abbrev q62c22 : Code := Code.fst q62c21
noncomputable abbrev q62c23 : Code := Code.snd q62c21
noncomputable abbrev q62c24 : Code := Code.fst q62c23
noncomputable abbrev q62c25 : Code := Code.snd q62c23
noncomputable abbrev q62c26 : Code := Code.fst q62c24
noncomputable abbrev q62c27 : Code := Code.snd q62c24
noncomputable abbrev q62c28 : Code := Code.fst q62c27
noncomputable abbrev q62c29 : Code := Code.snd q62c27
noncomputable abbrev q62c30 : Code := Code.fst q62c25
noncomputable abbrev q62c31 : Code := Code.snd q62c25
noncomputable abbrev q62c32 : Code := Code.fst q62c31
noncomputable abbrev q62c33 : Code := Code.snd q62c31
noncomputable abbrev q62c34 : Code := Code.fst q62c32
noncomputable abbrev q62c35 : Code := Code.snd q62c32
noncomputable abbrev q62c36 : Code := Code.fst q62c35
noncomputable abbrev q62c37 : Code := Code.snd q62c35
noncomputable abbrev q62c38 : Code := Code.fst q62c8
noncomputable abbrev q62c39 : Code := Code.snd q62c8
abbrev trellisref25_Reader_str_R (w : World) (F : Nat → Prop) (g2 : Nat) (Tb3 : Nat) (A4 : Option Addr) (n5 : Nat) (c6 : Nat) (z8 : Nat) (r : ByteArray × Int × trellisref25_Reader) : Ending → World → Prop := fun e w' => ∃ A0 : Option Addr, ∃ n0 : Nat, ∃ c0 : Nat, e = .returned (.tuple #[.string r.1, .int .i64 r.2.1]) ∧ B.Loc w w' [.box g2 Tb3 [.string r.2.2.s, .slice A0 n0 c0, .int .i64 r.2.2.e, .int .i64 r.2.2.at_], .own (.slice A0 n0 c0) 31 4 n0 (r.2.2.l.flatMap enc_api_JNode)] [St w [[g2], (Value.slice A4 n5 c6).ownBlock.toList]] ∧ Ow z8 A0 n0 c0 r.2.2.l
noncomputable abbrev trellisref25_Reader_str_C (w : World) (F : Nat → Prop) (g2 : Nat) (Tb3 : Nat) (A4 : Option Addr) (n5 : Nat) (c6 : Nat) (z8 : Nat) (r : ByteArray × Int × trellisref25_Reader) : Cx := ⟨Tryd.prog, 62, Tryd.f62, 82, trellisref25_Reader_str_R w F g2 Tb3 A4 n5 c6 z8 r, w⟩
theorem trellisref25_Reader_str_calls (w : World) (F : Nat → Prop) (x1 : trellisref25_Reader) (x10 : Int) (g2 : Nat) (Tb3 : Nat) (z8 : Nat) (A4 : Option Addr) (n5 : Nat) (c6 : Nat) (hz9 : z8 ≤ w.heap.size) (h7 : Ow z8 A4 n5 c6 x1.l) (hF : ∀ b, F b → b < w.heap.size ∧ ∀ o ∈ ([[g2], (Value.slice A4 n5 c6).ownBlock.toList] : List (List Nat)), b ∉ o) (hL0 : B.Loc w w [.box g2 Tb3 [.string x1.s, .slice A4 n5 c6, .int .i64 x1.e, .int .i64 x1.at_], .own (.slice A4 n5 c6) 31 4 n5 (x1.l.flatMap enc_api_JNode)] [Sm w.heap.size F w [[g2], (Value.slice A4 n5 c6).ownBlock.toList], St w [[g2], (Value.slice A4 n5 c6).ownBlock.toList]]) (r : ByteArray × Int × trellisref25_Reader) (h : trellisref25_Reader_str x1 x10 r) : Calls Tryd.prog 62 #[.pointer (some ⟨g2, 0, none⟩), .int .i64 x10] w (trellisref25_Reader_str_R w F g2 Tb3 A4 n5 c6 z8 r) := by
 unfold trellisref25_Reader_str at h
 refine calls_of_Loc (vs := [.pointer (some ⟨g2, 0, none⟩), .int .i64 x10]) 82 Tryd.func62 rfl Tryd.ntmps62 rfl hL0 ?_
 show G (trellisref25_Reader_str_C w F g2 Tb3 A4 n5 c6 z8 r) _ _ _ _
 refine g_seq (c := q62c0) rfl ?_
 refine g_region (c := q62c1) rfl rfl ?_
 refine wl_v 0 rfl (v_assign rfl) gn rfl ?_
 refine wl_v 1 rfl (v_assign rfl) gn rfl ?_
 refine w_end 2 rfl ?_
 refine g_seq (c := q62c2) rfl ?_
 refine g_region (c := q62c3) rfl rfl ?_
 refine wl_v 0 rfl (v_move rfl) gn rfl ?_
 refine wl_v 1 rfl (v_move rfl) gn rfl ?_
 obtain ⟨r14, hv15, h⟩ := h
 refine wl_s 2 rfl (s_call [.pointer (some ⟨g2, 0, none⟩), .int .i64 x10, .string (⟨#[34]⟩ : ByteArray)] rfl Tryd.func75 rfl rfl rfl fun w11 hL12 => ?_) gn
 have hp13 : List.Perm ([.box g2 Tb3 [.string x1.s, .slice A4 n5 c6, .int .i64 x1.e, .int .i64 x1.at_], .own (.slice A4 n5 c6) 31 4 n5 (x1.l.flatMap enc_api_JNode)] : List Ent) (([.box g2 Tb3 [.string x1.s, .slice A4 n5 c6, .int .i64 x1.e, .int .i64 x1.at_], .own (.slice A4 n5 c6) 31 4 n5 (x1.l.flatMap enc_api_JNode)] : List Ent) ++ ([] : List Ent)) := perm_of_idx [0, 1] [] rfl rfl (by kernel_rfl)
 refine Calls.mono (trellisref25_Reader_need_calls w11 (Fl ([] : List Snap)) x1 x10 (⟨#[34]⟩ : ByteArray) g2 Tb3 z8 A4 n5 c6 (Nat.le_trans hz9 hL12.env.size) h7 (hL12.hFl (Sl := ([] : List Snap)) hp13 (sels [] rfl)) (hL12.into hp13 (Fl ([] : List Snap))) r14 hv15) ?_
 rintro _ w21 ⟨A16, n17, c18, rfl, hM22, h19⟩
 have hL23 := hL12.call hp13 hM22
 refine ⟨_, _, _, rfl, hL23, ?_⟩
 refine wl_v 3 rfl (v_assign rfl) gn rfl ?_
 refine w_end 4 rfl ?_
 refine g_seq (c := q62c4) rfl ?_
 refine g_region (c := q62c5) rfl rfl ?_
 refine wl_v 0 rfl (v_assign rfl) gn rfl ?_
 refine w_end 1 rfl ?_
 refine g_seq (c := q62c6) rfl ?_
 refine g_block (c := q62c7) rfl ?_
 refine g_loop (c := q62c9) rfl ?_
 have key1 : ∀ s, Rounds (fun (s : Int × (List Int) × ByteArray × (List api_JNode) × Int × Int) o => trellisref25_Reader_str_b1 s.1 s.2.1 s.2.2.1 s.2.2.2.1 s.2.2.2.2.1 s.2.2.2.2.2 o) s r → (fun (s : Int × (List Int) × ByteArray × (List api_JNode) × Int × Int) => ∀ (A135 : Option Addr) (n136 : Nat) (c137 : Nat) (h138 : Ow w.heap.size A135 n136 c137 s.2.1) (A141 : Option Addr) (n142 : Nat) (c143 : Nat) (h144 : Ow z8 A141 n142 c143 s.2.2.2.1), G (trellisref25_Reader_str_C w F g2 Tb3 A4 n5 c6 z8 r) [.code q62c10, .inLoop q62c10, .inBlock 0, .code q62c8] [(0, .pointer (some ⟨g2, 0, none⟩)), (1, .int .i64 s.1), (6, .slice A135 n136 c137)] [.own (.slice A135 n136 c137) 5 1 n136 (s.2.1.flatMap (eI .u8)), .own (.slice A141 n142 c143) 31 4 n142 (s.2.2.2.1.flatMap enc_api_JNode), .box g2 Tb3 [.string s.2.2.1, .slice A141 n142 c143, .int .i64 s.2.2.2.2.1, .int .i64 s.2.2.2.2.2]] [Sm w.heap.size F w [[g2], (Value.slice A4 n5 c6).ownBlock.toList], St w [[g2], (Value.slice A4 n5 c6).ownBlock.toList]]) s := by
  intro s hs
  refine Rounds.ind (mot := (fun (s : Int × (List Int) × ByteArray × (List api_JNode) × Int × Int) => ∀ (A135 : Option Addr) (n136 : Nat) (c137 : Nat) (h138 : Ow w.heap.size A135 n136 c137 s.2.1) (A141 : Option Addr) (n142 : Nat) (c143 : Nat) (h144 : Ow z8 A141 n142 c143 s.2.2.2.1), G (trellisref25_Reader_str_C w F g2 Tb3 A4 n5 c6 z8 r) [.code q62c10, .inLoop q62c10, .inBlock 0, .code q62c8] [(0, .pointer (some ⟨g2, 0, none⟩)), (1, .int .i64 s.1), (6, .slice A135 n136 c137)] [.own (.slice A135 n136 c137) 5 1 n136 (s.2.1.flatMap (eI .u8)), .own (.slice A141 n142 c143) 31 4 n142 (s.2.2.2.1.flatMap enc_api_JNode), .box g2 Tb3 [.string s.2.2.1, .slice A141 n142 c143, .int .i64 s.2.2.2.2.1, .int .i64 s.2.2.2.2.2]] [Sm w.heap.size F w [[g2], (Value.slice A4 n5 c6).ownBlock.toList], St w [[g2], (Value.slice A4 n5 c6).ownBlock.toList]])) ?_ hs
  clear hs s
  intro s o1 h hO1
  obtain ⟨x133, x134, x139, x140, x145, x146⟩ := s
  show ∀ (A135 : Option Addr) (n136 : Nat) (c137 : Nat) (h138 : Ow w.heap.size A135 n136 c137 x134) (A141 : Option Addr) (n142 : Nat) (c143 : Nat) (h144 : Ow z8 A141 n142 c143 x140), G (trellisref25_Reader_str_C w F g2 Tb3 A4 n5 c6 z8 r) [.code q62c10, .inLoop q62c10, .inBlock 0, .code q62c8] [(0, .pointer (some ⟨g2, 0, none⟩)), (1, .int .i64 x133), (6, .slice A135 n136 c137)] [.own (.slice A135 n136 c137) 5 1 n136 (x134.flatMap (eI .u8)), .own (.slice A141 n142 c143) 31 4 n142 (x140.flatMap enc_api_JNode), .box g2 Tb3 [.string x139, .slice A141 n142 c143, .int .i64 x145, .int .i64 x146]] [Sm w.heap.size F w [[g2], (Value.slice A4 n5 c6).ownBlock.toList], St w [[g2], (Value.slice A4 n5 c6).ownBlock.toList]]
  intro A135 n136 c137 h138 A141 n142 c143 h144
  have h : trellisref25_Reader_str_b1 x133 x134 x139 x140 x145 x146 o1 := h
  unfold trellisref25_Reader_str_b1 at h
  refine g_seq (c := q62c10) rfl ?_
  refine g_seq (c := q62c11) rfl ?_
  have j2 : ∀ (x268 : Bool) (x269 : ByteArray) (x270 : List api_JNode) (x275 : Int) (x276 : Int) (h : trellisref25_Reader_str_j2 x133 x134 x268 x269 x270 x275 x276 o1) (A271 : Option Addr) (n272 : Nat) (c273 : Nat) (h274 : Ow z8 A271 n272 c273 x270), G (trellisref25_Reader_str_C w F g2 Tb3 A4 n5 c6 z8 r) [.code q62c14, .code q62c12, .inLoop q62c10, .inBlock 0, .code q62c8] [(0, .pointer (some ⟨g2, 0, none⟩)), (1, .int .i64 x133), (6, .slice A135 n136 c137), (23, .bool x268)] [.own (.slice A271 n272 c273) 31 4 n272 (x270.flatMap enc_api_JNode), .box g2 Tb3 [.string x269, .slice A271 n272 c273, .int .i64 x275, .int .i64 x276], .own (.slice A135 n136 c137) 5 1 n136 (x134.flatMap (eI .u8))] [Sm w.heap.size F w [[g2], (Value.slice A4 n5 c6).ownBlock.toList], St w [[g2], (Value.slice A4 n5 c6).ownBlock.toList]] := by
   intro x268 x269 x270 x275 x276 h A271 n272 c273 h274
   unfold trellisref25_Reader_str_j2 at h
   by_cases hp277 : x268 = true
   ·have h := if_pos' hp277 h
    refine g_true (c := q62c14) rfl _ rfl (hp277) ?_
    refine g_skip (c := q62c15) rfl ?_
    refine g_block (c := q62c12) rfl ?_
    refine g_seq (c := q62c17) rfl ?_
    have j3 : ∀ (x281 : Bool) (h : trellisref25_Reader_str_j3 x269 x270 x275 x276 x133 x134 x281 o1) , G (trellisref25_Reader_str_C w F g2 Tb3 A4 n5 c6 z8 r) [.code q62c19, .inBlock 1, .inLoop q62c10, .inBlock 0, .code q62c8] [(0, .pointer (some ⟨g2, 0, none⟩)), (1, .int .i64 x133), (6, .slice A135 n136 c137), (39, .bool x281)] [.own (.slice A271 n272 c273) 31 4 n272 (x270.flatMap enc_api_JNode), .box g2 Tb3 [.string x269, .slice A271 n272 c273, .int .i64 x275, .int .i64 x276], .own (.slice A135 n136 c137) 5 1 n136 (x134.flatMap (eI .u8))] [Sm w.heap.size F w [[g2], (Value.slice A4 n5 c6).ownBlock.toList], St w [[g2], (Value.slice A4 n5 c6).ownBlock.toList]] := by
     intro x281 h
     unfold trellisref25_Reader_str_j3 at h
     by_cases hp282 : x281 = true
     ·have h := if_pos' hp282 h
      refine g_true (c := q62c19) rfl _ rfl (hp282) ?_
      refine g_region (c := q62c20) rfl rfl ?_
      refine wl_v 0 rfl (v_move rfl) gn rfl ?_
      refine wl_v 1 rfl (v_move rfl) gn rfl ?_
      obtain ⟨r286, hv287, h⟩ := h
      refine wl_s 2 rfl (s_call [.pointer (some ⟨g2, 0, none⟩), .int .i64 250, .int .i64 x133] rfl Tryd.func47 rfl rfl rfl fun w283 hL284 => ?_) gn
      have hp285 : List.Perm ([.own (.slice A271 n272 c273) 31 4 n272 (x270.flatMap enc_api_JNode), .box g2 Tb3 [.string x269, .slice A271 n272 c273, .int .i64 x275, .int .i64 x276], .own (.slice A135 n136 c137) 5 1 n136 (x134.flatMap (eI .u8))] : List Ent) (([.box g2 Tb3 [.string x269, .slice A271 n272 c273, .int .i64 x275, .int .i64 x276], .own (.slice A271 n272 c273) 31 4 n272 (x270.flatMap enc_api_JNode)] : List Ent) ++ ([.own (.slice A135 n136 c137) 5 1 n136 (x134.flatMap (eI .u8))] : List Ent)) := perm_of_idx [1, 0] [2] rfl rfl (by kernel_rfl)
      refine Calls.mono (trellisref25_Reader_stop_calls w283 (Fl ([] : List Snap)) (⟨x269, x270, x275, x276⟩ : trellisref25_Reader) 250 x133 g2 Tb3 z8 A271 n272 c273 (Nat.le_trans hz9 hL284.env.size) h274 (hL284.hFl (Sl := ([] : List Snap)) hp285 (sels [] rfl)) (hL284.into hp285 (Fl ([] : List Snap))) r286 hv287) ?_
      rintro _ w293 ⟨A288, n289, c290, rfl, hM294, h291⟩
      have hL295 := hL284.call hp285 hM294
      refine ⟨_, _, _, rfl, hL295, ?_⟩
      refine w_end 3 rfl ?_
      refine g_inBlock ?_
      refine g_inLoop ?_
      refine g_front 0 rfl ?_
      refine g_front 1 rfl ?_
      refine g_front 2 rfl ?_
      have ih := Out.inl hO1 h
      exact g_go [0, 1] (ih A135 n136 c137 h138 A288 n289 c290 h291) ⟨rfl, rfl, rfl, trivial⟩ (.cons_cons _ (.cons_cons _ (.cons_cons _ (.slnil)))) rfl
     ·have h := if_neg' hp282 h
      refine g_false (c := q62c19) rfl _ rfl ((bf hp282)) ?_
      refine g_seq (c := q62c21) rfl ?_
      refine g_region (c := q62c22) rfl rfl ?_
      refine wl_v 0 rfl (v_move rfl) gn rfl ?_
      refine wl_v 1 rfl (v_nilCheck rfl) gn rfl ?_
      refine wl_v 2 rfl (v_fldB fo_73_0 rfl) gn rfl ?_
      refine wl_v 3 rfl (v_ldB1 1 ld_9 rfl rfl rfl) gn rfl ?_
      refine wl_v 4 rfl (v_move rfl) gn rfl ?_
      obtain ⟨hb296, h⟩ := h
      refine wl_v 5 rfl (v_indexS un_9 rfl rfl hb296) gn rfl ?_
      refine wl_v 6 rfl (v_bin rfl rfl rfl) gn rfl ?_
      refine w_end 7 rfl ?_
      by_cases hp297 : bt x269 x133 = 92
      ·have h := if_pos' hp297 h
       refine g_true (c := q62c23) rfl _ rfl ((eqi hp297)) ?_
       refine g_seq (c := q62c24) rfl ?_
       refine g_region (c := q62c26) rfl rfl ?_
       refine wl_v 0 rfl (v_move rfl) gn rfl ?_
       refine wl_v 1 rfl (v_move rfl) gn rfl ?_
       obtain ⟨r301, hv302, h⟩ := h
       refine wl_s 2 rfl (s_call [.pointer (some ⟨g2, 0, none⟩), .int .i64 x133] rfl Tryd.func76 rfl rfl rfl fun w298 hL299 => ?_) gn
       have hp300 : List.Perm ([.own (.slice A271 n272 c273) 31 4 n272 (x270.flatMap enc_api_JNode), .box g2 Tb3 [.string x269, .slice A271 n272 c273, .int .i64 x275, .int .i64 x276], .own (.slice A135 n136 c137) 5 1 n136 (x134.flatMap (eI .u8))] : List Ent) (([.box g2 Tb3 [.string x269, .slice A271 n272 c273, .int .i64 x275, .int .i64 x276], .own (.slice A271 n272 c273) 31 4 n272 (x270.flatMap enc_api_JNode)] : List Ent) ++ ([.own (.slice A135 n136 c137) 5 1 n136 (x134.flatMap (eI .u8))] : List Ent)) := perm_of_idx [1, 0] [2] rfl rfl (by kernel_rfl)
       refine Calls.mono (trellisref25_Reader_escape_calls w298 (Fl ([] : List Snap)) (⟨x269, x270, x275, x276⟩ : trellisref25_Reader) x133 g2 Tb3 z8 A271 n272 c273 (Nat.le_trans hz9 hL299.env.size) h274 (hL299.hFl (Sl := ([] : List Snap)) hp300 (sels [] rfl)) (hL299.into hp300 (Fl ([] : List Snap))) r301 hv302) ?_
       rintro _ w313 ⟨A303, n304, c305, A308, n309, c310, rfl, hM314, h306, h311⟩
       have hL315 := hL299.call hp300 hM314
       refine ⟨_, _, _, rfl, hL315, ?_⟩
       refine wl_v 3 rfl (v_move rfl) gn rfl ?_
       refine wl_v 4 rfl (v_extract rfl rfl) gn rfl ?_
       refine wl_v 5 rfl (v_extract rfl rfl) gn rfl ?_
       refine wl_v 6 rfl (v_assign rfl) gn rfl ?_
       refine wl_v 7 rfl (v_assign rfl) gn rfl ?_
       refine w_end 8 rfl ?_
       refine g_seq (c := q62c27) rfl ?_
       refine g_region (c := q62c28) rfl rfl ?_
       refine wl_v 0 rfl (v_move rfl) gn rfl ?_
       refine wl_v 1 rfl (v_move rfl) gn rfl ?_
       obtain ⟨x319, hv320, h⟩ := h
       obtain ⟨hb321, h⟩ := h
       refine wl_s 2 rfl (s_app (zs := x319) (cells' := x319.flatMap (eI .u8)) 3 ap_54 rfl rfl rfl h138 (Nat.le_refl _) (Src.ownF (hl := (hlI .u8)) (h1 := (hone_int .u8)) 1 rfl (Ow.weak hL299.env.size h306)) (by rw [hv320, List.flatMap_append] <;> rfl) (app_len hv320 (Ow.weak hL299.env.size h306).hq) hb321 rfl rfl fun A316 c317 h318 => ?_) gn
       refine wl_v 3 rfl (v_assign rfl) gn rfl ?_
       refine w_end 4 rfl ?_
       refine g_region (c := q62c29) rfl rfl ?_
       refine wl_v 0 rfl (v_move rfl) gn rfl ?_
       refine wl_v 1 rfl (v_assign rfl) gn rfl ?_
       refine w_end 2 rfl ?_
       refine g_inBlock ?_
       refine g_inLoop ?_
       refine g_front 0 rfl ?_
       refine g_front 2 rfl ?_
       refine g_front 3 rfl ?_
       have ih := Out.inl hO1 h
       exact g_go [0, 1] (ih A316 (n136 + n304) c317 h318 A308 n309 c310 h311) ⟨rfl, rfl, rfl, trivial⟩ (.cons_cons _ (.cons_cons _ (.cons_cons _ (.cons _ (.slnil))))) rfl
      ·have h := if_neg' hp297 h
       refine g_false (c := q62c23) rfl _ rfl ((nei hp297)) ?_
       refine g_seq (c := q62c25) rfl ?_
       refine g_region (c := q62c30) rfl rfl ?_
       refine wl_v 0 rfl (v_move rfl) gn rfl ?_
       refine wl_v 1 rfl (v_move rfl) gn rfl ?_
       obtain ⟨r325, hv326, h⟩ := h
       refine wl_s 2 rfl (s_call [.pointer (some ⟨g2, 0, none⟩), .int .i64 x133] rfl Tryd.func69 rfl rfl rfl fun w322 hL323 => ?_) gn
       have hp324 : List.Perm ([.own (.slice A271 n272 c273) 31 4 n272 (x270.flatMap enc_api_JNode), .box g2 Tb3 [.string x269, .slice A271 n272 c273, .int .i64 x275, .int .i64 x276], .own (.slice A135 n136 c137) 5 1 n136 (x134.flatMap (eI .u8))] : List Ent) (([.box g2 Tb3 [.string x269, .slice A271 n272 c273, .int .i64 x275, .int .i64 x276], .own (.slice A271 n272 c273) 31 4 n272 (x270.flatMap enc_api_JNode)] : List Ent) ++ ([.own (.slice A135 n136 c137) 5 1 n136 (x134.flatMap (eI .u8))] : List Ent)) := perm_of_idx [1, 0] [2] rfl rfl (by kernel_rfl)
       refine Calls.mono (trellisref25_Reader_char_calls w322 (Fl ([] : List Snap)) (⟨x269, x270, x275, x276⟩ : trellisref25_Reader) x133 g2 Tb3 z8 A271 n272 c273 (Nat.le_trans hz9 hL323.env.size) h274 (hL323.hFl (Sl := ([] : List Snap)) hp324 (sels [] rfl)) (hL323.into hp324 (Fl ([] : List Snap))) r325 hv326) ?_
       rintro _ w332 ⟨A327, n328, c329, rfl, hM333, h330⟩
       have hL334 := hL323.call hp324 hM333
       refine ⟨_, _, _, rfl, hL334, ?_⟩
       refine wl_v 3 rfl (v_assign rfl) gn rfl ?_
       refine w_end 4 rfl ?_
       refine g_seq (c := q62c31) rfl ?_
       refine g_seq (c := q62c32) rfl ?_
       refine g_region (c := q62c34) rfl rfl ?_
       refine wl_v 0 rfl (v_move rfl) gn rfl ?_
       refine wl_v 1 rfl (v_nilCheck rfl) gn rfl ?_
       refine wl_v 2 rfl (v_fldB fo_73_2 rfl) gn rfl ?_
       refine wl_v 3 rfl (v_ldB1 0 ld_34 rfl rfl rfl) gn rfl ?_
       refine wl_v 4 rfl (v_bin rfl rfl rfl) gn rfl ?_
       refine w_end 5 rfl ?_
       by_cases hp335 : r325.2.e = 0
       ·have h := if_pos' hp335 h
        refine g_true (c := q62c35) rfl _ rfl ((eqi hp335)) ?_
        refine g_region (c := q62c36) rfl rfl ?_
        refine wl_v 0 rfl (v_move rfl) gn rfl ?_
        refine wl_v 1 rfl (v_move rfl) gn rfl ?_
        refine wl_v 2 rfl (v_nilCheck rfl) gn rfl ?_
        refine wl_v 3 rfl (v_fldB fo_73_0 rfl) gn rfl ?_
        refine wl_v 4 rfl (v_ldB1 0 ld_9 rfl rfl rfl) gn rfl ?_
        refine wl_v 5 rfl (v_move rfl) gn rfl ?_
        refine wl_v 6 rfl (v_move rfl) gn rfl ?_
        obtain ⟨hb336, h⟩ := h
        refine wl_v 7 rfl (v_cutS x133 r325.1 un_9 rfl (.inr ⟨_, _, rfl, rfl⟩) (.inr ⟨_, _, rfl, rfl⟩) ⟨hb336.1, hb336.2.1⟩ hb336.2.2) gn rfl ?_
        obtain ⟨x340, hv341, h⟩ := h
        obtain ⟨hb342, h⟩ := h
        refine wl_s 8 rfl (s_appS (zs := x340) 2 as_54_9 rfl rfl rfl h138 (Nat.le_refl _) hv341 hb342 rfl fun A337 c338 h339 => ?_) gn
        refine wl_v 9 rfl (v_assign rfl) gn rfl ?_
        refine w_end 10 rfl ?_
        refine g_region (c := q62c33) rfl rfl ?_
        refine wl_v 0 rfl (v_move rfl) gn rfl ?_
        refine wl_v 1 rfl (v_assign rfl) gn rfl ?_
        refine w_end 2 rfl ?_
        refine g_inBlock ?_
        refine g_inLoop ?_
        refine g_front 0 rfl ?_
        refine g_front 1 rfl ?_
        refine g_front 2 rfl ?_
        have ih := Out.inl hO1 h
        exact g_go [0, 1] (ih A337 (n136 + (r325.2.s.extract (x133 : Int).toNat (r325.1 : Int).toNat).size) c338 h339 A327 n328 c329 h330) ⟨rfl, rfl, rfl, trivial⟩ (.cons_cons _ (.cons_cons _ (.cons_cons _ (.slnil)))) rfl
       ·have h := if_neg' hp335 h
        refine g_false (c := q62c35) rfl _ rfl ((nei hp335)) ?_
        refine g_skip (c := q62c37) rfl ?_
        refine g_region (c := q62c33) rfl rfl ?_
        refine wl_v 0 rfl (v_move rfl) gn rfl ?_
        refine wl_v 1 rfl (v_assign rfl) gn rfl ?_
        refine w_end 2 rfl ?_
        refine g_inBlock ?_
        refine g_inLoop ?_
        refine g_front 0 rfl ?_
        refine g_front 1 rfl ?_
        refine g_front 2 rfl ?_
        have ih := Out.inl hO1 h
        exact g_go [0, 1] (ih A135 n136 c137 h138 A327 n328 c329 h330) ⟨rfl, rfl, rfl, trivial⟩ (.cons_cons _ (.cons_cons _ (.cons_cons _ (.slnil)))) rfl
    refine g_region (c := q62c18) rfl rfl ?_
    refine wl_v 0 rfl (v_move rfl) gn rfl ?_
    refine wl_v 1 rfl (v_move rfl) gn rfl ?_
    refine wl_v 2 rfl (v_nilCheck rfl) gn rfl ?_
    refine wl_v 3 rfl (v_fldB fo_73_0 rfl) gn rfl ?_
    refine wl_v 4 rfl (v_ldB1 1 ld_9 rfl rfl rfl) gn rfl ?_
    refine wl_v 5 rfl (v_lenS un_9 rfl) gn rfl ?_
    refine wl_v 6 rfl (v_bin rfl rfl rfl) gn rfl ?_
    refine wl_v 7 rfl (v_move rfl) gn rfl ?_
    by_cases hp343 : x133 ≥ (x269.size : Int)
    ·have h := if_pos' hp343 h
     refine w_bool 31 rfl ((decide_eq_true hp343)) ?_
     refine wl_pass 8 rfl (ps 31 rfl rfl rfl) ?_
     refine wl_pass 9 rfl (ps 31 rfl rfl rfl) ?_
     refine wl_pass 10 rfl (ps 31 rfl rfl rfl) ?_
     refine wl_pass 11 rfl (ps 31 rfl rfl rfl) ?_
     refine wl_pass 12 rfl (ps 31 rfl rfl rfl) ?_
     refine wl_pass 13 rfl (ps 31 rfl rfl rfl) ?_
     refine wl_pass 14 rfl (ps 31 rfl rfl rfl) ?_
     refine wl_v 15 rfl (v_pick (b := true) rfl rfl) gn rfl ?_
     refine w_end 16 rfl ?_
     exact g_go [0, 1] (j3 true h) ⟨rfl, rfl, rfl, rfl, trivial⟩ (.cons_cons _ (.cons_cons _ (.cons_cons _ (.slnil)))) rfl
    ·have h := if_neg' hp343 h
     refine w_bool 31 rfl ((decide_eq_false hp343)) ?_
     refine wl_v 8 rfl (v_move rfl) (gy 31 rfl rfl) rfl ?_
     refine wl_v 9 rfl (v_nilCheck rfl) (gy 31 rfl rfl) rfl ?_
     refine wl_v 10 rfl (v_fldB fo_73_0 rfl) (gy 31 rfl rfl) rfl ?_
     refine wl_v 11 rfl (v_ldB1 1 ld_9 rfl rfl rfl) (gy 31 rfl rfl) rfl ?_
     refine wl_v 12 rfl (v_move rfl) (gy 31 rfl rfl) rfl ?_
     obtain ⟨hb344, h⟩ := h
     refine wl_v 13 rfl (v_indexS un_9 rfl rfl hb344) (gy 31 rfl rfl) rfl ?_
     refine wl_v 14 rfl (v_bin rfl rfl rfl) (gy 31 rfl rfl) rfl ?_
     refine wl_v 15 rfl (v_pick (b := false) rfl rfl) gn rfl ?_
     refine w_end 16 rfl ?_
     exact g_go [0, 1] (j3 (decide (bt x269 x133 < 32)) h) ⟨rfl, rfl, rfl, rfl, trivial⟩ (.cons_cons _ (.cons_cons _ (.cons_cons _ (.slnil)))) rfl
   ·have h := if_neg' hp277 h
    refine g_false (c := q62c14) rfl _ rfl ((bf hp277)) ?_
    refine g_exit (c := q62c16) [.code q62c8] rfl rfl ?_
    refine g_seq (c := q62c8) rfl ?_
    refine g_region (c := q62c38) rfl rfl ?_
    refine wl_v 0 rfl (v_move rfl) gn rfl ?_
    refine wl_v 1 rfl (v_b2s u8_54 un_9 rfl (Src.ownF (hl := (hlI .u8)) (h1 := (hone_int .u8)) 2 rfl h138) h138.hq) gn rfl ?_
    refine wl_v 2 rfl (v_move rfl) gn rfl ?_
    refine wl_v 3 rfl (v_bin rfl rfl rfl) gn rfl ?_
    refine wl_v 4 rfl (v_assign rfl) gn rfl ?_
    refine wl_v 5 rfl (v_assign rfl) gn rfl ?_
    refine w_end 6 rfl ?_
    have h := Out.inr hO1 h
    refine g_retR (c := q62c39) [.string (ofBs x134), .int .i64 (w64 (x133 + 1))] rfl Tryd.func62 rfl (.tmp rfl (.tmp rfl (.nil))) fun wr hLr => ?_
    have hMr : B.Loc w wr [.box g2 Tb3 [.string x269, .slice A271 n272 c273, .int .i64 x275, .int .i64 x276], .own (.slice A271 n272 c273) 31 4 n272 (x270.flatMap enc_api_JNode)] [St w [[g2], (Value.slice A4 n5 c6).ownBlock.toList]] := hLr.pick (rest := [.own (.slice A135 n136 c137) 5 1 n136 (x134.flatMap (eI .u8))]) (perm_of_idx [1, 0] [2] rfl rfl (by kernel_rfl)) (sels [1] rfl)
    show trellisref25_Reader_str_R w F g2 Tb3 A4 n5 c6 z8 r (.returned (packV [.string (ofBs x134), .int .i64 (w64 (x133 + 1))])) wr
    rw [h]
    exact ⟨A271, n272, c273, rfl, hMr, h274⟩
  refine g_region (c := q62c13) rfl rfl ?_
  refine wl_v 0 rfl (v_move rfl) gn rfl ?_
  refine wl_v 1 rfl (v_nilCheck rfl) gn rfl ?_
  refine wl_v 2 rfl (v_fldB fo_73_2 rfl) gn rfl ?_
  refine wl_v 3 rfl (v_ldB1 2 ld_34 rfl rfl rfl) gn rfl ?_
  refine wl_v 4 rfl (v_bin rfl rfl rfl) gn rfl ?_
  refine wl_v 5 rfl (v_move rfl) gn rfl ?_
  by_cases hp345 : x145 = 0
  ·have h := if_pos' hp345 h
   refine w_bool 18 rfl ((eqi hp345)) ?_
   refine wl_v 6 rfl (v_move rfl) (gy 18 rfl rfl) rfl ?_
   refine wl_v 7 rfl (v_move rfl) (gy 18 rfl rfl) rfl ?_
   obtain ⟨r349, hv350, h⟩ := h
   refine wl_s 8 rfl (s_call [.pointer (some ⟨g2, 0, none⟩), .int .i64 x133, .string (⟨#[34]⟩ : ByteArray)] rfl Tryd.func60 rfl rfl rfl fun w346 hL347 => ?_) (gy 18 rfl rfl)
   have hp348 : List.Perm ([.own (.slice A135 n136 c137) 5 1 n136 (x134.flatMap (eI .u8)), .own (.slice A141 n142 c143) 31 4 n142 (x140.flatMap enc_api_JNode), .box g2 Tb3 [.string x139, .slice A141 n142 c143, .int .i64 x145, .int .i64 x146]] : List Ent) (([.box g2 Tb3 [.string x139, .slice A141 n142 c143, .int .i64 x145, .int .i64 x146], .own (.slice A141 n142 c143) 31 4 n142 (x140.flatMap enc_api_JNode)] : List Ent) ++ ([.own (.slice A135 n136 c137) 5 1 n136 (x134.flatMap (eI .u8))] : List Ent)) := perm_of_idx [2, 1] [0] rfl rfl (by kernel_rfl)
   refine Calls.mono (trellisref25_Reader_has_calls w346 (Fl ([] : List Snap)) (⟨x139, x140, x145, x146⟩ : trellisref25_Reader) x133 (⟨#[34]⟩ : ByteArray) g2 Tb3 z8 A141 n142 c143 (Nat.le_trans hz9 hL347.env.size) h144 (hL347.hFl (Sl := ([] : List Snap)) hp348 (sels [] rfl)) (hL347.into hp348 (Fl ([] : List Snap))) r349 hv350) ?_
   rintro _ w356 ⟨A351, n352, c353, rfl, hM357, h354⟩
   have hL358 := hL347.call hp348 hM357
   refine ⟨_, _, _, rfl, hL358, ?_⟩
   refine wl_v 9 rfl (v_not rfl) (gy 18 rfl rfl) rfl ?_
   refine wl_v 10 rfl (v_pick (b := true) rfl rfl) gn rfl ?_
   refine w_end 11 rfl ?_
   refine g_front 2 rfl ?_
   refine g_front 1 rfl ?_
   refine g_front 2 rfl ?_
   exact g_go [0, 1] (j2 (!r349.1) r349.2.s r349.2.l r349.2.e r349.2.at_ h A351 n352 c353 h354) ⟨rfl, rfl, rfl, rfl, trivial⟩ (.cons_cons _ (.cons_cons _ (.cons_cons _ (.slnil)))) rfl
  ·have h := if_neg' hp345 h
   refine w_bool 18 rfl ((nei hp345)) ?_
   refine wl_pass 6 rfl (ps 18 rfl rfl rfl) ?_
   refine wl_pass 7 rfl (ps 18 rfl rfl rfl) ?_
   refine wl_pass 8 rfl (ps 18 rfl rfl rfl) ?_
   refine wl_pass 9 rfl (ps 18 rfl rfl rfl) ?_
   refine wl_v 10 rfl (v_pick (b := false) rfl rfl) gn rfl ?_
   refine w_end 11 rfl ?_
   refine g_front 0 rfl ?_
   refine g_front 2 rfl ?_
   refine g_front 2 rfl ?_
   exact g_go [0, 1] (j2 false x139 x140 x145 x146 h A141 n142 c143 h144) ⟨rfl, rfl, rfl, rfl, trivial⟩ (.cons_cons _ (.cons_cons _ (.cons_cons _ (.slnil)))) rfl
 refine g_nil 5 1 ?_
 refine g_front 1 rfl ?_
 refine g_front 2 rfl ?_
 refine g_front 2 rfl ?_
 exact g_go [0, 1] (key1 _ h none 0 0 (Ow.nil (z := w.heap.size)) A16 n17 c18 h19) ⟨rfl, rfl, rfl, trivial⟩ (.cons_cons _ (.cons_cons _ (.cons_cons _ (.slnil)))) rfl
noncomputable abbrev q77c0 : Code := bodyOf Tryd.f77
noncomputable abbrev q77c1 : Code := Code.fst q77c0
noncomputable abbrev q77c2 : Code := Code.snd q77c0
noncomputable abbrev q77c3 : Code := Code.fst q77c2
noncomputable abbrev q77c4 : Code := Code.snd q77c2
noncomputable abbrev q77c5 : Code := Code.fst q77c4
noncomputable abbrev q77c6 : Code := Code.snd q77c4
noncomputable abbrev q77c7 : Code := Code.fst q77c5
noncomputable abbrev q77c8 : Code := Code.snd q77c5
noncomputable abbrev q77c9 : Code := Code.fst q77c8
noncomputable abbrev q77c10 : Code := Code.fst q77c9
noncomputable abbrev q77c11 : Code := Code.fst q77c10
noncomputable abbrev q77c12 : Code := Code.snd q77c10
noncomputable abbrev q77c13 : Code := Code.fst q77c11
noncomputable abbrev q77c14 : Code := Code.snd q77c11
noncomputable abbrev q77c15 : Code := Code.fst q77c14
noncomputable abbrev q77c16 : Code := Code.snd q77c14
noncomputable abbrev q77c17 : Code := Code.fst q77c12
noncomputable abbrev q77c18 : Code := Code.snd q77c12
noncomputable abbrev q77c19 : Code := Code.fst q77c17
noncomputable abbrev q77c20 : Code := Code.fst q77c19
noncomputable abbrev q77c21 : Code := Code.snd q77c19
noncomputable abbrev q77c22 : Code := Code.fst q77c21
noncomputable abbrev q77c23 : Code := Code.snd q77c21
noncomputable abbrev q77c24 : Code := Code.fst q77c6
noncomputable abbrev q77c25 : Code := Code.snd q77c6
noncomputable abbrev q77c26 : Code := Code.fst q77c25
noncomputable abbrev q77c27 : Code := Code.snd q77c25
noncomputable abbrev q77c28 : Code := Code.fst q77c27
noncomputable abbrev q77c29 : Code := Code.snd q77c27
abbrev trellisref25_Reader_key_R (w : World) (F : Nat → Prop) (g2 : Nat) (Tb3 : Nat) (A4 : Option Addr) (n5 : Nat) (c6 : Nat) (z8 : Nat) (r : ByteArray × Int × trellisref25_Reader) : Ending → World → Prop := fun e w' => ∃ A0 : Option Addr, ∃ n0 : Nat, ∃ c0 : Nat, e = .returned (.tuple #[.string r.1, .int .i64 r.2.1]) ∧ B.Loc w w' [.box g2 Tb3 [.string r.2.2.s, .slice A0 n0 c0, .int .i64 r.2.2.e, .int .i64 r.2.2.at_], .own (.slice A0 n0 c0) 31 4 n0 (r.2.2.l.flatMap enc_api_JNode)] [St w [[g2], (Value.slice A4 n5 c6).ownBlock.toList]] ∧ Ow z8 A0 n0 c0 r.2.2.l
noncomputable abbrev trellisref25_Reader_key_C (w : World) (F : Nat → Prop) (g2 : Nat) (Tb3 : Nat) (A4 : Option Addr) (n5 : Nat) (c6 : Nat) (z8 : Nat) (r : ByteArray × Int × trellisref25_Reader) : Cx := ⟨Tryd.prog, 77, Tryd.f77, 49, trellisref25_Reader_key_R w F g2 Tb3 A4 n5 c6 z8 r, w⟩
theorem trellisref25_Reader_key_calls (w : World) (F : Nat → Prop) (x1 : trellisref25_Reader) (x10 : Int) (x11 : List ByteArray) (g2 : Nat) (Tb3 : Nat) (z8 : Nat) (A4 : Option Addr) (n5 : Nat) (c6 : Nat) (A12 : Option Addr) (n13 : Nat) (c14 : Nat) (hz9 : z8 ≤ w.heap.size) (h7 : Ow z8 A4 n5 c6 x1.l) (h15 : Rw kStr w (St w [[g2], (Value.slice A4 n5 c6).ownBlock.toList]).av A12 n13 c14 x11) (hF : ∀ b, F b → b < w.heap.size ∧ ∀ o ∈ ([[g2], (Value.slice A4 n5 c6).ownBlock.toList] : List (List Nat)), b ∉ o) (hL0 : B.Loc w w [.box g2 Tb3 [.string x1.s, .slice A4 n5 c6, .int .i64 x1.e, .int .i64 x1.at_], .own (.slice A4 n5 c6) 31 4 n5 (x1.l.flatMap enc_api_JNode)] [Sm w.heap.size F w [[g2], (Value.slice A4 n5 c6).ownBlock.toList], St w [[g2], (Value.slice A4 n5 c6).ownBlock.toList]]) (r : ByteArray × Int × trellisref25_Reader) (h : trellisref25_Reader_key x1 x10 x11 r) : Calls Tryd.prog 77 #[.pointer (some ⟨g2, 0, none⟩), .int .i64 x10, .slice A12 n13 c14] w (trellisref25_Reader_key_R w F g2 Tb3 A4 n5 c6 z8 r) := by
 unfold trellisref25_Reader_key at h
 refine calls_of_Loc (vs := [.pointer (some ⟨g2, 0, none⟩), .int .i64 x10, .slice A12 n13 c14]) 49 Tryd.func77 rfl Tryd.ntmps77 rfl hL0 ?_
 show G (trellisref25_Reader_key_C w F g2 Tb3 A4 n5 c6 z8 r) _ _ _ _
 refine g_seq (c := q77c0) rfl ?_
 refine g_region (c := q77c1) rfl rfl ?_
 refine wl_v 0 rfl (v_assign rfl) gn rfl ?_
 refine wl_v 1 rfl (v_assign rfl) gn rfl ?_
 refine w_end 2 rfl ?_
 refine g_seq (c := q77c2) rfl ?_
 refine g_region (c := q77c3) rfl rfl ?_
 refine wl_v 0 rfl (v_move rfl) gn rfl ?_
 refine wl_v 1 rfl (v_move rfl) gn rfl ?_
 obtain ⟨r19, hv20, h⟩ := h
 refine wl_s 2 rfl (s_call [.pointer (some ⟨g2, 0, none⟩), .int .i64 x10] rfl Tryd.func62 rfl rfl rfl fun w16 hL17 => ?_) gn
 have hp18 : List.Perm ([.box g2 Tb3 [.string x1.s, .slice A4 n5 c6, .int .i64 x1.e, .int .i64 x1.at_], .own (.slice A4 n5 c6) 31 4 n5 (x1.l.flatMap enc_api_JNode)] : List Ent) (([.box g2 Tb3 [.string x1.s, .slice A4 n5 c6, .int .i64 x1.e, .int .i64 x1.at_], .own (.slice A4 n5 c6) 31 4 n5 (x1.l.flatMap enc_api_JNode)] : List Ent) ++ ([] : List Ent)) := perm_of_idx [0, 1] [] rfl rfl (by kernel_rfl)
 refine Calls.mono (trellisref25_Reader_str_calls w16 (Fl ([] : List Snap)) x1 x10 g2 Tb3 z8 A4 n5 c6 (Nat.le_trans hz9 hL17.env.size) h7 (hL17.hFl (Sl := ([] : List Snap)) hp18 (sels [] rfl)) (hL17.into hp18 (Fl ([] : List Snap))) r19 hv20) ?_
 rintro _ w26 ⟨A21, n22, c23, rfl, hM27, h24⟩
 have hL28 := hL17.call hp18 hM27
 refine ⟨_, _, _, rfl, hL28, ?_⟩
 refine wl_v 3 rfl (v_move rfl) gn rfl ?_
 refine wl_v 4 rfl (v_extract rfl rfl) gn rfl ?_
 refine wl_v 5 rfl (v_extract rfl rfl) gn rfl ?_
 refine wl_v 6 rfl (v_assign rfl) gn rfl ?_
 refine wl_v 7 rfl (v_assign rfl) gn rfl ?_
 refine w_end 8 rfl ?_
 refine g_seq (c := q77c4) rfl ?_
 refine g_seq (c := q77c5) rfl ?_
 refine g_region (c := q77c7) rfl rfl ?_
 refine wl_v 0 rfl (v_assign rfl) gn rfl ?_
 refine w_end 1 rfl ?_
 refine g_block (c := q77c8) rfl ?_
 refine g_loop (c := q77c9) rfl ?_
 have key1 : ∀ s, Rounds (fun (s : Int × ByteArray × (List api_JNode) × Int × Int) o => trellisref25_Reader_key_b1 x11 r19 x10 s.1 s.2.1 s.2.2.1 s.2.2.2.1 s.2.2.2.2 o) s r → (fun (s : Int × ByteArray × (List api_JNode) × Int × Int) => ∀ (A93 : Option Addr) (n94 : Nat) (c95 : Nat) (h96 : Ow z8 A93 n94 c95 s.2.2.1), G (trellisref25_Reader_key_C w F g2 Tb3 A4 n5 c6 z8 r) [.code q77c10, .inLoop q77c10, .inBlock 0, .code q77c6] [(0, .pointer (some ⟨g2, 0, none⟩)), (1, .int .i64 x10), (2, .slice A12 n13 c14), (8, .string r19.1), (9, .int .i64 r19.2.1), (10, .int .i64 s.1)] [.own (.slice A93 n94 c95) 31 4 n94 (s.2.2.1.flatMap enc_api_JNode), .box g2 Tb3 [.string s.2.1, .slice A93 n94 c95, .int .i64 s.2.2.2.1, .int .i64 s.2.2.2.2]] [Sm w.heap.size F w [[g2], (Value.slice A4 n5 c6).ownBlock.toList], St w [[g2], (Value.slice A4 n5 c6).ownBlock.toList]]) s := by
  intro s hs
  refine Rounds.ind (mot := (fun (s : Int × ByteArray × (List api_JNode) × Int × Int) => ∀ (A93 : Option Addr) (n94 : Nat) (c95 : Nat) (h96 : Ow z8 A93 n94 c95 s.2.2.1), G (trellisref25_Reader_key_C w F g2 Tb3 A4 n5 c6 z8 r) [.code q77c10, .inLoop q77c10, .inBlock 0, .code q77c6] [(0, .pointer (some ⟨g2, 0, none⟩)), (1, .int .i64 x10), (2, .slice A12 n13 c14), (8, .string r19.1), (9, .int .i64 r19.2.1), (10, .int .i64 s.1)] [.own (.slice A93 n94 c95) 31 4 n94 (s.2.2.1.flatMap enc_api_JNode), .box g2 Tb3 [.string s.2.1, .slice A93 n94 c95, .int .i64 s.2.2.2.1, .int .i64 s.2.2.2.2]] [Sm w.heap.size F w [[g2], (Value.slice A4 n5 c6).ownBlock.toList], St w [[g2], (Value.slice A4 n5 c6).ownBlock.toList]])) ?_ hs
  clear hs s
  intro s o1 h hO1
  obtain ⟨x90, x91, x92, x97, x98⟩ := s
  show ∀ (A93 : Option Addr) (n94 : Nat) (c95 : Nat) (h96 : Ow z8 A93 n94 c95 x92), G (trellisref25_Reader_key_C w F g2 Tb3 A4 n5 c6 z8 r) [.code q77c10, .inLoop q77c10, .inBlock 0, .code q77c6] [(0, .pointer (some ⟨g2, 0, none⟩)), (1, .int .i64 x10), (2, .slice A12 n13 c14), (8, .string r19.1), (9, .int .i64 r19.2.1), (10, .int .i64 x90)] [.own (.slice A93 n94 c95) 31 4 n94 (x92.flatMap enc_api_JNode), .box g2 Tb3 [.string x91, .slice A93 n94 c95, .int .i64 x97, .int .i64 x98]] [Sm w.heap.size F w [[g2], (Value.slice A4 n5 c6).ownBlock.toList], St w [[g2], (Value.slice A4 n5 c6).ownBlock.toList]]
  intro A93 n94 c95 h96
  have h : trellisref25_Reader_key_b1 x11 r19 x10 x90 x91 x92 x97 x98 o1 := h
  unfold trellisref25_Reader_key_b1 at h
  refine g_seq (c := q77c10) rfl ?_
  refine g_seq (c := q77c11) rfl ?_
  have j2 : ∀ (x161 : Bool) (h : trellisref25_Reader_key_j2 x90 x11 r19 x91 x92 x97 x98 x10 x161 o1) , G (trellisref25_Reader_key_C w F g2 Tb3 A4 n5 c6 z8 r) [.code q77c14, .code q77c12, .inLoop q77c10, .inBlock 0, .code q77c6] [(0, .pointer (some ⟨g2, 0, none⟩)), (1, .int .i64 x10), (2, .slice A12 n13 c14), (8, .string r19.1), (9, .int .i64 r19.2.1), (10, .int .i64 x90), (27, .bool x161)] [.own (.slice A93 n94 c95) 31 4 n94 (x92.flatMap enc_api_JNode), .box g2 Tb3 [.string x91, .slice A93 n94 c95, .int .i64 x97, .int .i64 x98]] [Sm w.heap.size F w [[g2], (Value.slice A4 n5 c6).ownBlock.toList], St w [[g2], (Value.slice A4 n5 c6).ownBlock.toList]] := by
   intro x161 h
   unfold trellisref25_Reader_key_j2 at h
   by_cases hp162 : x161 = true
   ·have h := if_pos' hp162 h
    refine g_true (c := q77c14) rfl _ rfl (hp162) ?_
    refine g_skip (c := q77c15) rfl ?_
    refine g_seq (c := q77c12) rfl ?_
    refine g_block (c := q77c17) rfl ?_
    refine g_seq (c := q77c19) rfl ?_
    refine g_region (c := q77c20) rfl rfl ?_
    refine wl_v 0 rfl (v_move rfl) gn rfl ?_
    refine wl_v 1 rfl (v_move rfl) gn rfl ?_
    obtain ⟨hb163, h⟩ := h
    have hr164 := Rw.readF (s := St w [[g2], (Value.slice A4 n5 c6).ownBlock.toList]) (hl := hlS) (h1 := hone_str) h15 hb163
    refine wl_v 2 rfl (v_idxR (s := St w [[g2], (Value.slice A4 n5 c6).ownBlock.toList]) slE_99 rfl rfl h15 hb163) gn rfl ?_
    refine wl_v 3 rfl (v_ldA1 (kk := (x90 : Int).toNat * 1) (j := 0) (St w [[g2], (Value.slice A4 n5 c6).ownBlock.toList]) ld_9 rfl hr164 rfl (me 1 rfl)) gn rfl ?_
    refine wl_v 4 rfl (v_move rfl) gn rfl ?_
    refine wl_v 5 rfl (v_eqS rfl rfl) gn rfl ?_
    refine w_end 6 rfl ?_
    by_cases hp165 : ix x11 x90 = r19.1
    ·have h := if_pos' hp165 h
     refine g_true (c := q77c21) rfl _ rfl ((seq_t hp165)) ?_
     refine g_region (c := q77c22) rfl rfl ?_
     refine wl_v 0 rfl (v_move rfl) gn rfl ?_
     refine wl_v 1 rfl (v_move rfl) gn rfl ?_
     obtain ⟨r169, hv170, h⟩ := h
     refine wl_s 2 rfl (s_call [.pointer (some ⟨g2, 0, none⟩), .int .i64 250, .int .i64 x10] rfl Tryd.func47 rfl rfl rfl fun w166 hL167 => ?_) gn
     have hp168 : List.Perm ([.own (.slice A93 n94 c95) 31 4 n94 (x92.flatMap enc_api_JNode), .box g2 Tb3 [.string x91, .slice A93 n94 c95, .int .i64 x97, .int .i64 x98]] : List Ent) (([.box g2 Tb3 [.string x91, .slice A93 n94 c95, .int .i64 x97, .int .i64 x98], .own (.slice A93 n94 c95) 31 4 n94 (x92.flatMap enc_api_JNode)] : List Ent) ++ ([] : List Ent)) := perm_of_idx [1, 0] [] rfl rfl (by kernel_rfl)
     refine Calls.mono (trellisref25_Reader_stop_calls w166 (Fl ([] : List Snap)) (⟨x91, x92, x97, x98⟩ : trellisref25_Reader) 250 x10 g2 Tb3 z8 A93 n94 c95 (Nat.le_trans hz9 hL167.env.size) h96 (hL167.hFl (Sl := ([] : List Snap)) hp168 (sels [] rfl)) (hL167.into hp168 (Fl ([] : List Snap))) r169 hv170) ?_
     rintro _ w176 ⟨A171, n172, c173, rfl, hM177, h174⟩
     have hL178 := hL167.call hp168 hM177
     refine ⟨_, _, _, rfl, hL178, ?_⟩
     refine w_end 3 rfl ?_
     refine g_inBlock ?_
     refine g_region (c := q77c18) rfl rfl ?_
     refine wl_v 0 rfl (v_move rfl) gn rfl ?_
     refine wl_v 1 rfl (v_bin rfl rfl rfl) gn rfl ?_
     refine wl_v 2 rfl (v_assign rfl) gn rfl ?_
     refine w_end 3 rfl ?_
     refine g_inLoop ?_
     refine g_front 0 rfl ?_
     refine g_front 1 rfl ?_
     have ih := Out.inl hO1 h
     exact g_go [0, 1] (ih A171 n172 c173 h174) ⟨rfl, rfl, rfl, rfl, rfl, rfl, trivial⟩ (.cons_cons _ (.cons_cons _ (.slnil))) rfl
    ·have h := if_neg' hp165 h
     refine g_false (c := q77c21) rfl _ rfl ((seq_f hp165)) ?_
     refine g_skip (c := q77c23) rfl ?_
     refine g_inBlock ?_
     refine g_region (c := q77c18) rfl rfl ?_
     refine wl_v 0 rfl (v_move rfl) gn rfl ?_
     refine wl_v 1 rfl (v_bin rfl rfl rfl) gn rfl ?_
     refine wl_v 2 rfl (v_assign rfl) gn rfl ?_
     refine w_end 3 rfl ?_
     refine g_inLoop ?_
     have ih := Out.inl hO1 h
     exact g_go [0, 1] (ih A93 n94 c95 h96) ⟨rfl, rfl, rfl, rfl, rfl, rfl, trivial⟩ (.cons_cons _ (.cons_cons _ (.slnil))) rfl
   ·have h := if_neg' hp162 h
    refine g_false (c := q77c14) rfl _ rfl ((bf hp162)) ?_
    refine g_exit (c := q77c16) [.code q77c6] rfl rfl ?_
    refine g_seq (c := q77c6) rfl ?_
    refine g_region (c := q77c24) rfl rfl ?_
    refine wl_v 0 rfl (v_move rfl) gn rfl ?_
    refine wl_v 1 rfl (v_move rfl) gn rfl ?_
    obtain ⟨r182, hv183, h⟩ := h
    refine wl_s 2 rfl (s_call [.pointer (some ⟨g2, 0, none⟩), .int .i64 r19.2.1, .string (⟨#[32, 9, 10, 13]⟩ : ByteArray)] rfl Tryd.func45 rfl rfl rfl fun w179 hL180 => ?_) gn
    have hp181 : List.Perm ([.own (.slice A93 n94 c95) 31 4 n94 (x92.flatMap enc_api_JNode), .box g2 Tb3 [.string x91, .slice A93 n94 c95, .int .i64 x97, .int .i64 x98]] : List Ent) (([.box g2 Tb3 [.string x91, .slice A93 n94 c95, .int .i64 x97, .int .i64 x98], .own (.slice A93 n94 c95) 31 4 n94 (x92.flatMap enc_api_JNode)] : List Ent) ++ ([] : List Ent)) := perm_of_idx [1, 0] [] rfl rfl (by kernel_rfl)
    refine Calls.mono (trellisref25_Reader_skip_calls w179 (Fl ([] : List Snap)) (⟨x91, x92, x97, x98⟩ : trellisref25_Reader) r19.2.1 (⟨#[32, 9, 10, 13]⟩ : ByteArray) g2 Tb3 z8 A93 n94 c95 (Nat.le_trans hz9 hL180.env.size) h96 (hL180.hFl (Sl := ([] : List Snap)) hp181 (sels [] rfl)) (hL180.into hp181 (Fl ([] : List Snap))) r182 hv183) ?_
    rintro _ w189 ⟨A184, n185, c186, rfl, hM190, h187⟩
    have hL191 := hL180.call hp181 hM190
    refine ⟨_, _, _, rfl, hL191, ?_⟩
    refine wl_v 3 rfl (v_assign rfl) gn rfl ?_
    refine w_end 4 rfl ?_
    refine g_seq (c := q77c25) rfl ?_
    refine g_region (c := q77c26) rfl rfl ?_
    refine wl_v 0 rfl (v_move rfl) gn rfl ?_
    refine wl_v 1 rfl (v_move rfl) gn rfl ?_
    obtain ⟨r195, hv196, h⟩ := h
    refine wl_s 2 rfl (s_call [.pointer (some ⟨g2, 0, none⟩), .int .i64 r182.1, .string (⟨#[58]⟩ : ByteArray)] rfl Tryd.func75 rfl rfl rfl fun w192 hL193 => ?_) gn
    have hp194 : List.Perm ([.box g2 Tb3 [.string r182.2.s, .slice A184 n185 c186, .int .i64 r182.2.e, .int .i64 r182.2.at_], .own (.slice A184 n185 c186) 31 4 n185 (r182.2.l.flatMap enc_api_JNode)] : List Ent) (([.box g2 Tb3 [.string r182.2.s, .slice A184 n185 c186, .int .i64 r182.2.e, .int .i64 r182.2.at_], .own (.slice A184 n185 c186) 31 4 n185 (r182.2.l.flatMap enc_api_JNode)] : List Ent) ++ ([] : List Ent)) := perm_of_idx [0, 1] [] rfl rfl (by kernel_rfl)
    refine Calls.mono (trellisref25_Reader_need_calls w192 (Fl ([] : List Snap)) r182.2 r182.1 (⟨#[58]⟩ : ByteArray) g2 Tb3 z8 A184 n185 c186 (Nat.le_trans hz9 hL193.env.size) h187 (hL193.hFl (Sl := ([] : List Snap)) hp194 (sels [] rfl)) (hL193.into hp194 (Fl ([] : List Snap))) r195 hv196) ?_
    rintro _ w202 ⟨A197, n198, c199, rfl, hM203, h200⟩
    have hL204 := hL193.call hp194 hM203
    refine ⟨_, _, _, rfl, hL204, ?_⟩
    refine wl_v 3 rfl (v_assign rfl) gn rfl ?_
    refine w_end 4 rfl ?_
    refine g_seq (c := q77c27) rfl ?_
    refine g_region (c := q77c28) rfl rfl ?_
    refine wl_v 0 rfl (v_move rfl) gn rfl ?_
    refine wl_v 1 rfl (v_move rfl) gn rfl ?_
    refine wl_v 2 rfl (v_move rfl) gn rfl ?_
    obtain ⟨r208, hv209, h⟩ := h
    refine wl_s 3 rfl (s_call [.pointer (some ⟨g2, 0, none⟩), .int .i64 r195.1, .string (⟨#[32, 9, 10, 13]⟩ : ByteArray)] rfl Tryd.func45 rfl rfl rfl fun w205 hL206 => ?_) gn
    have hp207 : List.Perm ([.box g2 Tb3 [.string r195.2.s, .slice A197 n198 c199, .int .i64 r195.2.e, .int .i64 r195.2.at_], .own (.slice A197 n198 c199) 31 4 n198 (r195.2.l.flatMap enc_api_JNode)] : List Ent) (([.box g2 Tb3 [.string r195.2.s, .slice A197 n198 c199, .int .i64 r195.2.e, .int .i64 r195.2.at_], .own (.slice A197 n198 c199) 31 4 n198 (r195.2.l.flatMap enc_api_JNode)] : List Ent) ++ ([] : List Ent)) := perm_of_idx [0, 1] [] rfl rfl (by kernel_rfl)
    refine Calls.mono (trellisref25_Reader_skip_calls w205 (Fl ([] : List Snap)) r195.2 r195.1 (⟨#[32, 9, 10, 13]⟩ : ByteArray) g2 Tb3 z8 A197 n198 c199 (Nat.le_trans hz9 hL206.env.size) h200 (hL206.hFl (Sl := ([] : List Snap)) hp207 (sels [] rfl)) (hL206.into hp207 (Fl ([] : List Snap))) r208 hv209) ?_
    rintro _ w215 ⟨A210, n211, c212, rfl, hM216, h213⟩
    have hL217 := hL206.call hp207 hM216
    refine ⟨_, _, _, rfl, hL217, ?_⟩
    refine wl_v 4 rfl (v_assign rfl) gn rfl ?_
    refine wl_v 5 rfl (v_assign rfl) gn rfl ?_
    refine w_end 6 rfl ?_
    have h := Out.inr hO1 h
    refine g_retR (c := q77c29) [.string r19.1, .int .i64 r208.1] rfl Tryd.func77 rfl (.tmp rfl (.tmp rfl (.nil))) fun wr hLr => ?_
    have hMr : B.Loc w wr [.box g2 Tb3 [.string r208.2.s, .slice A210 n211 c212, .int .i64 r208.2.e, .int .i64 r208.2.at_], .own (.slice A210 n211 c212) 31 4 n211 (r208.2.l.flatMap enc_api_JNode)] [St w [[g2], (Value.slice A4 n5 c6).ownBlock.toList]] := hLr.pick (rest := []) (perm_of_idx [0, 1] [] rfl rfl (by kernel_rfl)) (sels [1] rfl)
    show trellisref25_Reader_key_R w F g2 Tb3 A4 n5 c6 z8 r (.returned (packV [.string r19.1, .int .i64 r208.1])) wr
    rw [h]
    exact ⟨A210, n211, c212, rfl, hMr, h213⟩
  refine g_region (c := q77c13) rfl rfl ?_
  refine wl_v 0 rfl (v_move rfl) gn rfl ?_
  refine wl_v 1 rfl (v_move rfl) gn rfl ?_
  refine wl_v 2 rfl (v_lenQ un_99 rfl h15.hq) gn rfl ?_
  refine wl_v 3 rfl (v_bin rfl rfl rfl) gn rfl ?_
  refine wl_v 4 rfl (v_move rfl) gn rfl ?_
  by_cases hp218 : x90 < (x11.length : Int)
  ·have h := if_pos' hp218 h
   refine w_bool 21 rfl ((decide_eq_true hp218)) ?_
   refine wl_v 5 rfl (v_move rfl) (gy 21 rfl rfl) rfl ?_
   refine wl_v 6 rfl (v_nilCheck rfl) (gy 21 rfl rfl) rfl ?_
   refine wl_v 7 rfl (v_fldB fo_73_2 rfl) (gy 21 rfl rfl) rfl ?_
   refine wl_v 8 rfl (v_ldB1 1 ld_34 rfl rfl rfl) (gy 21 rfl rfl) rfl ?_
   refine wl_v 9 rfl (v_bin rfl rfl rfl) (gy 21 rfl rfl) rfl ?_
   refine wl_v 10 rfl (v_pick (b := true) rfl rfl) gn rfl ?_
   refine w_end 11 rfl ?_
   exact g_go [0, 1] (j2 (x97 == 0) h) ⟨rfl, rfl, rfl, rfl, rfl, rfl, rfl, trivial⟩ (.cons_cons _ (.cons_cons _ (.slnil))) rfl
  ·have h := if_neg' hp218 h
   refine w_bool 21 rfl ((decide_eq_false hp218)) ?_
   refine wl_pass 5 rfl (ps 21 rfl rfl rfl) ?_
   refine wl_pass 6 rfl (ps 21 rfl rfl rfl) ?_
   refine wl_pass 7 rfl (ps 21 rfl rfl rfl) ?_
   refine wl_pass 8 rfl (ps 21 rfl rfl rfl) ?_
   refine wl_pass 9 rfl (ps 21 rfl rfl rfl) ?_
   refine wl_v 10 rfl (v_pick (b := false) rfl rfl) gn rfl ?_
   refine w_end 11 rfl ?_
   exact g_go [0, 1] (j2 false h) ⟨rfl, rfl, rfl, rfl, rfl, rfl, rfl, trivial⟩ (.cons_cons _ (.cons_cons _ (.slnil))) rfl
 refine g_front 0 rfl ?_
 refine g_front 1 rfl ?_
 exact g_go [0, 1] (key1 _ h A21 n22 c23 h24) ⟨rfl, rfl, rfl, rfl, rfl, rfl, trivial⟩ (.cons_cons _ (.cons_cons _ (.slnil))) rfl
end Go.Proofs.YtmfopcbjgbphaaaDoor.K
