/- What the machine's calls do, function by function, printed by my own tool. Condition of each: its relation holds of the answer, and what is handed in lies in memory as told. -/
import Derived.Test.YtmfopcbjgbphaaaDoorK2
set_option linter.unusedVariables false
set_option maxRecDepth 100000
set_option maxHeartbeats 4000000
namespace Go.Proofs.YtmfopcbjgbphaaaDoor.K
open Go.Proofs.YtmfopcbjgbphaaaDoor.B Go.Proofs.YtmfopcbjgbphaaaDoor.R Go.RowKit
noncomputable abbrev q15c0 : Code := bodyOf Tryd.f15
noncomputable abbrev q15c1 : Code := Code.fst q15c0
noncomputable abbrev q15c2 : Code := Code.snd q15c0
noncomputable abbrev q15c3 : Code := Code.fst q15c2
noncomputable abbrev q15c4 : Code := Code.snd q15c2
noncomputable abbrev q15c5 : Code := Code.fst q15c3
noncomputable abbrev q15c6 : Code := Code.snd q15c3
noncomputable abbrev q15c7 : Code := Code.fst q15c6
noncomputable abbrev q15c8 : Code := Code.snd q15c6
noncomputable abbrev q15c9 : Code := Code.fst q15c7
noncomputable abbrev q15c10 : Code := Code.snd q15c7
noncomputable abbrev q15c11 : Code := Code.fst q15c4
noncomputable abbrev q15c12 : Code := Code.snd q15c4
noncomputable abbrev q15c13 : Code := Code.fst q15c12
noncomputable abbrev q15c14 : Code := Code.snd q15c12
noncomputable abbrev q15c15 : Code := Code.fst q15c13
noncomputable abbrev q15c16 : Code := Code.snd q15c13
noncomputable abbrev q15c17 : Code := Code.fst q15c16
noncomputable abbrev q15c18 : Code := Code.fst q15c17
noncomputable abbrev q15c19 : Code := Code.fst q15c18
noncomputable abbrev q15c20 : Code := Code.snd q15c18
noncomputable abbrev q15c21 : Code := Code.fst q15c20
noncomputable abbrev q15c22 : Code := Code.snd q15c20
noncomputable abbrev q15c23 : Code := Code.fst q15c21
noncomputable abbrev q15c24 : Code := Code.snd q15c21
noncomputable abbrev q15c25 : Code := Code.fst q15c22
noncomputable abbrev q15c26 : Code := Code.snd q15c22
noncomputable abbrev q15c27 : Code := Code.fst q15c25
noncomputable abbrev q15c28 : Code := Code.fst q15c27
noncomputable abbrev q15c29 : Code := Code.snd q15c27
noncomputable abbrev q15c30 : Code := Code.fst q15c28
noncomputable abbrev q15c31 : Code := Code.snd q15c28
noncomputable abbrev q15c32 : Code := Code.fst q15c31
noncomputable abbrev q15c33 : Code := Code.snd q15c31
noncomputable abbrev q15c34 : Code := Code.fst q15c32
noncomputable abbrev q15c35 : Code := Code.snd q15c32
noncomputable abbrev q15c36 : Code := Code.fst q15c14
noncomputable abbrev q15c37 : Code := Code.snd q15c14
abbrev json_Member_R (w : World) (F : Nat → Prop) (r : Int) : Ending → World → Prop := fun e w' => e = .returned (.int .i64 r) ∧ B.Loc w w' [] [St w []]
noncomputable abbrev json_Member_C (w : World) (F : Nat → Prop) (r : Int) : Cx := ⟨Tryd.prog, 15, Tryd.f15, 52, json_Member_R w F  r, w⟩
theorem json_Member_calls (w : World) (F : Nat → Prop) (x1 : List api_JNode) (x6 : Int) (x7 : ByteArray) (A2 : Option Addr) (n3 : Nat) (c4 : Nat) (h5 : Rw k_api_JNode w (St w []).av A2 n3 c4 x1) (hG1 : Tt .u8 tb_1 1 (St w [])) (hG2 : Tt .u8 tb_2 2 (St w [])) (hF : ∀ b, F b → b < w.heap.size ∧ ∀ o ∈ ([] : List (List Nat)), b ∉ o) (hL0 : B.Loc w w [] [Sm w.heap.size F w [], St w []]) (r : Int) (h : json_Member x1 x6 x7 r) : Calls Tryd.prog 15 #[.slice A2 n3 c4, .int .i64 x6, .string x7] w (json_Member_R w F  r) := by
 unfold json_Member at h
 refine calls_of_Loc (vs := [.slice A2 n3 c4, .int .i64 x6, .string x7]) 52 Tryd.func15 rfl Tryd.ntmps15 rfl hL0 ?_
 show G (json_Member_C w F r) _ _ _ _
 refine g_seq (c := q15c0) rfl ?_
 refine g_region (c := q15c1) rfl rfl ?_
 refine wl_v 0 rfl (v_assign rfl) gn rfl ?_
 refine w_end 1 rfl ?_
 refine g_seq (c := q15c2) rfl ?_
 refine g_seq (c := q15c3) rfl ?_
 have j1 : ∀ (x22 : Bool) (h : json_Member_j1 x6 x1 x7 x22 r) , G (json_Member_C w F r) [.code q15c6, .code q15c4] [(0, .slice A2 n3 c4), (1, .int .i64 x6), (2, .string x7), (28, .bool x22)] [] [Sm w.heap.size F w [], St w []] := by
  intro x22 h
  unfold json_Member_j1 at h
  by_cases hp23 : x22 = true
  ·have h := if_pos' hp23 h
   refine g_true (c := q15c6) rfl _ rfl (hp23) ?_
   refine g_seq (c := q15c7) rfl ?_
   refine g_region (c := q15c9) rfl rfl ?_
   refine wl_v 0 rfl (v_assign rfl) gn rfl ?_
   refine w_end 1 rfl ?_
   refine g_retR (c := q15c10) [.int .i64 (-1)] rfl Tryd.func15 rfl (.tmp rfl (.nil)) fun wr hLr => ?_
   have hMr : B.Loc w wr [] [St w []] := hLr.pick0 (sels [1] rfl)
   show json_Member_R w F  r (.returned (packV [.int .i64 (-1)])) wr
   rw [h]
   exact ⟨rfl, hMr⟩
  ·have h := if_neg' hp23 h
   refine g_false (c := q15c6) rfl _ rfl ((bf hp23)) ?_
   refine g_skip (c := q15c8) rfl ?_
   refine g_seq (c := q15c4) rfl ?_
   refine g_region (c := q15c11) rfl rfl ?_
   refine wl_v 0 rfl (v_move rfl) gn rfl ?_
   refine wl_v 1 rfl (v_bin rfl rfl rfl) gn rfl ?_
   refine wl_v 2 rfl (v_assign rfl) gn rfl ?_
   refine w_end 3 rfl ?_
   refine g_seq (c := q15c12) rfl ?_
   refine g_seq (c := q15c13) rfl ?_
   refine g_region (c := q15c15) rfl rfl ?_
   refine wl_v 0 rfl (v_move rfl) gn rfl ?_
   refine wl_v 1 rfl (v_move rfl) gn rfl ?_
   obtain ⟨hb24, h⟩ := h
   have hr25 := Rw.readF (s := St w []) (hl := hl_api_JNode) (h1 := h1_api_JNode) h5 hb24
   refine wl_v 2 rfl (v_idxR (s := St w []) slE_22 rfl rfl h5 hb24) gn rfl ?_
   refine wl_v 3 rfl (v_fldA fo_31_3 rfl) gn rfl ?_
   refine wl_v 4 rfl (v_ldA1 (kk := (x6 : Int).toNat * 4) (j := 3) (St w []) ld_3 rfl hr25 rfl (me 1 rfl)) gn rfl ?_
   refine wl_v 5 rfl (v_move rfl) gn rfl ?_
   refine w_end 6 rfl ?_
   refine g_block (c := q15c16) rfl ?_
   refine g_loop (c := q15c17) rfl ?_
   have key2 : ∀ s, Rounds (fun (s : Int × Int) o => json_Member_b2 x1 x6 x7 s.1 s.2 o) s r → (fun (s : Int × Int) => ∀ (_ : Unit), G (json_Member_C w F r) [.code q15c18, .inLoop q15c18, .inBlock 0, .code q15c14] [(0, .slice A2 n3 c4), (2, .string x7), (7, .int .i64 s.1), (35, .int .i64 ((ix x1 x6).kids)), (36, .int .i64 s.2)] [] [Sm w.heap.size F w [], St w []]) s := by
    intro s hs
    refine Rounds.ind (mot := (fun (s : Int × Int) => ∀ (_ : Unit), G (json_Member_C w F r) [.code q15c18, .inLoop q15c18, .inBlock 0, .code q15c14] [(0, .slice A2 n3 c4), (2, .string x7), (7, .int .i64 s.1), (35, .int .i64 ((ix x1 x6).kids)), (36, .int .i64 s.2)] [] [Sm w.heap.size F w [], St w []])) ?_ hs
    clear hs s
    intro s o1 h hO1
    obtain ⟨x39, x40⟩ := s
    show ∀ (_ : Unit), G (json_Member_C w F r) [.code q15c18, .inLoop q15c18, .inBlock 0, .code q15c14] [(0, .slice A2 n3 c4), (2, .string x7), (7, .int .i64 x39), (35, .int .i64 ((ix x1 x6).kids)), (36, .int .i64 x40)] [] [Sm w.heap.size F w [], St w []]
    intro _
    have h : json_Member_b2 x1 x6 x7 x39 x40 o1 := h
    unfold json_Member_b2 at h
    refine g_seq (c := q15c18) rfl ?_
    refine g_region (c := q15c19) rfl rfl ?_
    refine wl_v 0 rfl (v_bin rfl rfl rfl) gn rfl ?_
    refine w_end 1 rfl ?_
    refine g_seq (c := q15c20) rfl ?_
    by_cases hp53 : x40 < (ix x1 x6).kids
    ·have h := if_pos' hp53 h
     refine g_true (c := q15c21) rfl _ rfl ((decide_eq_true hp53)) ?_
     refine g_skip (c := q15c23) rfl ?_
     refine g_seq (c := q15c22) rfl ?_
     refine g_block (c := q15c25) rfl ?_
     refine g_seq (c := q15c27) rfl ?_
     refine g_seq (c := q15c28) rfl ?_
     refine g_region (c := q15c30) rfl rfl ?_
     refine wl_v 0 rfl (v_move rfl) gn rfl ?_
     refine wl_v 1 rfl (v_move rfl) gn rfl ?_
     obtain ⟨hb54, h⟩ := h
     have hr55 := Rw.readF (s := St w []) (hl := hl_api_JNode) (h1 := h1_api_JNode) h5 hb54
     refine wl_v 2 rfl (v_idxR (s := St w []) slE_22 rfl rfl h5 hb54) gn rfl ?_
     refine wl_v 3 rfl (v_fldA fo_31_1 rfl) gn rfl ?_
     refine wl_v 4 rfl (v_ldA1 (kk := (x39 : Int).toNat * 4) (j := 1) (St w []) ld_9 rfl hr55 rfl (me 1 rfl)) gn rfl ?_
     refine wl_v 5 rfl (v_move rfl) gn rfl ?_
     refine wl_v 6 rfl (v_eqS rfl rfl) gn rfl ?_
     refine w_end 7 rfl ?_
     by_cases hp56 : (ix x1 x39).key = x7
     ·have h := if_pos' hp56 h
      refine g_true (c := q15c31) rfl _ rfl ((seq_t hp56)) ?_
      refine g_seq (c := q15c32) rfl ?_
      refine g_region (c := q15c34) rfl rfl ?_
      refine wl_v 0 rfl (v_move rfl) gn rfl ?_
      refine wl_v 1 rfl (v_assign rfl) gn rfl ?_
      refine w_end 2 rfl ?_
      have h := Out.inr hO1 h
      refine g_retR (c := q15c35) [.int .i64 x39] rfl Tryd.func15 rfl (.tmp rfl (.nil)) fun wr hLr => ?_
      have hMr : B.Loc w wr [] [St w []] := hLr.pick0 (sels [1] rfl)
      show json_Member_R w F  r (.returned (packV [.int .i64 x39])) wr
      rw [h]
      exact ⟨rfl, hMr⟩
     ·have h := if_neg' hp56 h
      refine g_false (c := q15c31) rfl _ rfl ((seq_f hp56)) ?_
      refine g_skip (c := q15c33) rfl ?_
      refine g_region (c := q15c29) rfl rfl ?_
      refine wl_v 0 rfl (v_move rfl) gn rfl ?_
      refine wl_v 1 rfl (v_move rfl) gn rfl ?_
      refine wl_v 2 rfl (v_move rfl) gn rfl ?_
      obtain ⟨r60, hv61, h⟩ := h
      refine wl_s 3 rfl (s_call [.slice A2 n3 c4, .int .i64 x39] rfl Tryd.func30 rfl rfl rfl fun w57 hL58 => ?_) gn
      have hp59 : List.Perm ([] : List Ent) (([] : List Ent) ++ ([] : List Ent)) := perm_of_idx [] [] rfl rfl (by kernel_rfl)
      refine Calls.mono (json_size_calls w57 (Fl ([] : List Snap)) x1 x39 A2 n3 c4 (Rw.mono h5 (hL58.toSt hp59 (me 1 rfl))) (hL58.hFl (Sl := ([] : List Snap)) hp59 (sels [] rfl)) (hL58.into hp59 (Fl ([] : List Snap))) r60 hv61) ?_
      rintro _ w62 ⟨rfl, hM63⟩
      have hL64 := hL58.call hp59 hM63
      refine ⟨_, _, _, rfl, hL64, ?_⟩
      refine wl_v 4 rfl (v_bin rfl rfl rfl) gn rfl ?_
      refine wl_v 5 rfl (v_assign rfl) gn rfl ?_
      refine w_end 6 rfl ?_
      refine g_inBlock ?_
      refine g_region (c := q15c26) rfl rfl ?_
      refine wl_v 0 rfl (v_bin rfl rfl rfl) gn rfl ?_
      refine wl_v 1 rfl (v_move rfl) gn rfl ?_
      refine w_end 2 rfl ?_
      refine g_inLoop ?_
      have ih := Out.inl hO1 h
      exact g_go [0, 1] (ih ()) ⟨rfl, rfl, rfl, rfl, rfl, trivial⟩ (.slnil) rfl
    ·have h := if_neg' hp53 h
     refine g_false (c := q15c21) rfl _ rfl ((decide_eq_false hp53)) ?_
     refine g_exit (c := q15c24) [.code q15c14] rfl rfl ?_
     refine g_seq (c := q15c14) rfl ?_
     refine g_region (c := q15c36) rfl rfl ?_
     refine wl_v 0 rfl (v_assign rfl) gn rfl ?_
     refine w_end 1 rfl ?_
     have h := Out.inr hO1 h
     refine g_retR (c := q15c37) [.int .i64 (-1)] rfl Tryd.func15 rfl (.tmp rfl (.nil)) fun wr hLr => ?_
     have hMr : B.Loc w wr [] [St w []] := hLr.pick0 (sels [1] rfl)
     show json_Member_R w F  r (.returned (packV [.int .i64 (-1)])) wr
     rw [h]
     exact ⟨rfl, hMr⟩
   exact g_go [0, 1] (key2 _ h ()) ⟨rfl, rfl, rfl, rfl, rfl, trivial⟩ (.slnil) rfl
 refine g_region (c := q15c5) rfl rfl ?_
 refine wl_v 0 rfl (v_move rfl) gn rfl ?_
 refine wl_v 1 rfl (v_bin rfl rfl rfl) gn rfl ?_
 refine wl_v 2 rfl (v_move rfl) gn rfl ?_
 by_cases hp65 : x6 < 0
 ·have h := if_pos' hp65 h
  refine w_bool 10 rfl ((decide_eq_true hp65)) ?_
  refine wl_pass 3 rfl (ps 10 rfl rfl rfl) ?_
  refine wl_pass 4 rfl (ps 10 rfl rfl rfl) ?_
  refine wl_pass 5 rfl (ps 10 rfl rfl rfl) ?_
  refine wl_pass 6 rfl (ps 10 rfl rfl rfl) ?_
  refine wl_v 7 rfl (v_pick (b := true) rfl rfl) gn rfl ?_
  refine wl_v 8 rfl (v_move rfl) gn rfl ?_
  refine wl_pass 9 rfl (ps 16 rfl rfl rfl) ?_
  refine wl_pass 10 rfl (ps 16 rfl rfl rfl) ?_
  refine wl_pass 11 rfl (ps 16 rfl rfl rfl) ?_
  refine wl_pass 12 rfl (ps 16 rfl rfl rfl) ?_
  refine wl_pass 13 rfl (ps 16 rfl rfl rfl) ?_
  refine wl_pass 14 rfl (ps 16 rfl rfl rfl) ?_
  refine wl_v 15 rfl (v_pick (b := true) rfl rfl) gn rfl ?_
  refine wl_v 16 rfl (v_move rfl) gn rfl ?_
  refine wl_pass 17 rfl (ps 24 rfl rfl rfl) ?_
  refine wl_pass 18 rfl (ps 24 rfl rfl rfl) ?_
  refine wl_pass 19 rfl (ps 24 rfl rfl rfl) ?_
  refine wl_v 20 rfl (v_pick (b := true) rfl rfl) gn rfl ?_
  refine w_end 21 rfl ?_
  exact g_go [0, 1] (j1 true h) ⟨rfl, rfl, rfl, rfl, trivial⟩ (.slnil) rfl
 ·have h := if_neg' hp65 h
  refine w_bool 10 rfl ((decide_eq_false hp65)) ?_
  refine wl_v 3 rfl (v_move rfl) (gy 10 rfl rfl) rfl ?_
  refine wl_v 4 rfl (v_move rfl) (gy 10 rfl rfl) rfl ?_
  refine wl_v 5 rfl (v_lenQ un_22 rfl h5.hq) (gy 10 rfl rfl) rfl ?_
  refine wl_v 6 rfl (v_bin rfl rfl rfl) (gy 10 rfl rfl) rfl ?_
  refine wl_v 7 rfl (v_pick (b := false) rfl rfl) gn rfl ?_
  refine wl_v 8 rfl (v_move rfl) gn rfl ?_
  by_cases hp66 : x6 ≥ (x1.length : Int)
  ·have h := if_pos' hp66 h
   refine w_bool 16 rfl ((decide_eq_true hp66)) ?_
   refine wl_pass 9 rfl (ps 16 rfl rfl rfl) ?_
   refine wl_pass 10 rfl (ps 16 rfl rfl rfl) ?_
   refine wl_pass 11 rfl (ps 16 rfl rfl rfl) ?_
   refine wl_pass 12 rfl (ps 16 rfl rfl rfl) ?_
   refine wl_pass 13 rfl (ps 16 rfl rfl rfl) ?_
   refine wl_pass 14 rfl (ps 16 rfl rfl rfl) ?_
   refine wl_v 15 rfl (v_pick (b := true) rfl rfl) gn rfl ?_
   refine wl_v 16 rfl (v_move rfl) gn rfl ?_
   refine wl_pass 17 rfl (ps 24 rfl rfl rfl) ?_
   refine wl_pass 18 rfl (ps 24 rfl rfl rfl) ?_
   refine wl_pass 19 rfl (ps 24 rfl rfl rfl) ?_
   refine wl_v 20 rfl (v_pick (b := true) rfl rfl) gn rfl ?_
   refine w_end 21 rfl ?_
   exact g_go [0, 1] (j1 true h) ⟨rfl, rfl, rfl, rfl, trivial⟩ (.slnil) rfl
  ·have h := if_neg' hp66 h
   refine w_bool 16 rfl ((decide_eq_false hp66)) ?_
   refine wl_v 9 rfl (v_move rfl) (gy 16 rfl rfl) rfl ?_
   refine wl_v 10 rfl (v_move rfl) (gy 16 rfl rfl) rfl ?_
   obtain ⟨hb67, h⟩ := h
   have hr68 := Rw.readF (s := St w []) (hl := hl_api_JNode) (h1 := h1_api_JNode) h5 hb67
   refine wl_v 11 rfl (v_idxR (s := St w []) slE_22 rfl rfl h5 hb67) (gy 16 rfl rfl) rfl ?_
   refine wl_v 12 rfl (v_fldA fo_31_0 rfl) (gy 16 rfl rfl) rfl ?_
   refine wl_v 13 rfl (v_ldA1 (kk := (x6 : Int).toNat * 4) (j := 0) (St w []) ld_29 rfl hr68 rfl (me 1 rfl)) (gy 16 rfl rfl) rfl ?_
   refine wl_v 14 rfl (v_bin rfl rfl rfl) (gy 16 rfl rfl) rfl ?_
   refine wl_v 15 rfl (v_pick (b := false) rfl rfl) gn rfl ?_
   refine wl_v 16 rfl (v_move rfl) gn rfl ?_
   by_cases hp69 : (ix x1 x6).kind = 7
   ·have h := if_pos' hp69 h
    refine w_bool 24 rfl ((eqib hp69)) ?_
    refine wl_v 17 rfl (v_move rfl) (gy 24 rfl rfl) rfl ?_
    obtain ⟨r73, hv74, h⟩ := h
    refine wl_s 18 rfl (s_call [.slice A2 n3 c4] rfl Tryd.func21 rfl rfl rfl fun w70 hL71 => ?_) (gy 24 rfl rfl)
    have hp72 : List.Perm ([] : List Ent) (([] : List Ent) ++ ([] : List Ent)) := perm_of_idx [] [] rfl rfl (by kernel_rfl)
    refine Calls.mono (json_Shaped_calls w70 (Fl ([] : List Snap)) x1 A2 n3 c4 (Rw.mono h5 (hL71.toSt hp72 (me 1 rfl))) (hL71.tt hp72 hG1 (me 1 rfl)) (hL71.tt hp72 hG2 (me 1 rfl)) (hL71.hFl (Sl := ([] : List Snap)) hp72 (sels [] rfl)) (hL71.into hp72 (Fl ([] : List Snap))) r73 hv74) ?_
    rintro _ w75 ⟨rfl, hM76⟩
    have hL77 := hL71.call hp72 hM76
    refine ⟨_, _, _, rfl, hL77, ?_⟩
    refine wl_v 19 rfl (v_not rfl) (gy 24 rfl rfl) rfl ?_
    refine wl_v 20 rfl (v_pick (b := false) rfl rfl) gn rfl ?_
    refine w_end 21 rfl ?_
    exact g_go [0, 1] (j1 (!r73) h) ⟨rfl, rfl, rfl, rfl, trivial⟩ (.slnil) rfl
   ·have h := if_neg' hp69 h
    refine w_bool 24 rfl ((neib hp69)) ?_
    refine wl_pass 17 rfl (ps 24 rfl rfl rfl) ?_
    refine wl_pass 18 rfl (ps 24 rfl rfl rfl) ?_
    refine wl_pass 19 rfl (ps 24 rfl rfl rfl) ?_
    refine wl_v 20 rfl (v_pick (b := true) rfl rfl) gn rfl ?_
    refine w_end 21 rfl ?_
    exact g_go [0, 1] (j1 true h) ⟨rfl, rfl, rfl, rfl, trivial⟩ (.slnil) rfl
noncomputable abbrev q66c0 : Code := bodyOf Tryd.f66
noncomputable abbrev q66c1 : Code := Code.fst q66c0
noncomputable abbrev q66c2 : Code := Code.snd q66c0
noncomputable abbrev q66c3 : Code := Code.fst q66c2
noncomputable abbrev q66c4 : Code := Code.snd q66c2
abbrev internal_stringslite_HasPrefix_R (w : World) (F : Nat → Prop) (r : Bool) : Ending → World → Prop := fun e w' => e = .returned (.bool r) ∧ B.Loc w w' [] [St w []]
noncomputable abbrev internal_stringslite_HasPrefix_C (w : World) (F : Nat → Prop) (r : Bool) : Cx := ⟨Tryd.prog, 66, Tryd.f66, 18, internal_stringslite_HasPrefix_R w F  r, w⟩
theorem internal_stringslite_HasPrefix_calls (w : World) (F : Nat → Prop) (x1 : ByteArray) (x2 : ByteArray) (hF : ∀ b, F b → b < w.heap.size ∧ ∀ o ∈ ([] : List (List Nat)), b ∉ o) (hL0 : B.Loc w w [] [Sm w.heap.size F w [], St w []]) (r : Bool) (h : internal_stringslite_HasPrefix x1 x2 r) : Calls Tryd.prog 66 #[.string x1, .string x2] w (internal_stringslite_HasPrefix_R w F  r) := by
 unfold internal_stringslite_HasPrefix at h
 refine calls_of_Loc (vs := [.string x1, .string x2]) 18 Tryd.func66 rfl Tryd.ntmps66 rfl hL0 ?_
 show G (internal_stringslite_HasPrefix_C w F r) _ _ _ _
 refine g_seq (c := q66c0) rfl ?_
 refine g_region (c := q66c1) rfl rfl ?_
 refine wl_v 0 rfl (v_assign rfl) gn rfl ?_
 refine w_end 1 rfl ?_
 refine g_seq (c := q66c2) rfl ?_
 refine g_region (c := q66c3) rfl rfl ?_
 refine wl_v 0 rfl (v_move rfl) gn rfl ?_
 refine wl_v 1 rfl (v_lenS un_9 rfl) gn rfl ?_
 refine wl_v 2 rfl (v_move rfl) gn rfl ?_
 refine wl_v 3 rfl (v_lenS un_9 rfl) gn rfl ?_
 refine wl_v 4 rfl (v_bin rfl rfl rfl) gn rfl ?_
 refine wl_v 5 rfl (v_move rfl) gn rfl ?_
 by_cases hp3 : (x1.size : Int) ≥ (x2.size : Int)
 ·have h := if_pos' hp3 h
  refine w_bool 10 rfl ((decide_eq_true hp3)) ?_
  refine wl_v 6 rfl (v_move rfl) (gy 10 rfl rfl) rfl ?_
  refine wl_v 7 rfl (v_move rfl) (gy 10 rfl rfl) rfl ?_
  refine wl_v 8 rfl (v_lenS un_9 rfl) (gy 10 rfl rfl) rfl ?_
  obtain ⟨hb4, h⟩ := h
  refine wl_v 9 rfl (v_cutS 0 (x2.size : Int) un_9 rfl (.inl ⟨rfl, rfl⟩) (.inr ⟨_, _, rfl, rfl⟩) ⟨hb4.1, hb4.2.1⟩ hb4.2.2) (gy 10 rfl rfl) rfl ?_
  refine wl_v 10 rfl (v_move rfl) (gy 10 rfl rfl) rfl ?_
  refine wl_v 11 rfl (v_eqS rfl rfl) (gy 10 rfl rfl) rfl ?_
  refine wl_v 12 rfl (v_pick (b := true) rfl rfl) gn rfl ?_
  refine wl_v 13 rfl (v_assign rfl) gn rfl ?_
  refine w_end 14 rfl ?_
  refine g_retR (c := q66c4) [.bool (seq (x1.extract (0 : Int).toNat ((x2.size : Int) : Int).toNat) x2)] rfl Tryd.func66 rfl (.tmp rfl (.nil)) fun wr hLr => ?_
  have hMr : B.Loc w wr [] [St w []] := hLr.pick0 (sels [1] rfl)
  show internal_stringslite_HasPrefix_R w F  r (.returned (packV [.bool (seq (x1.extract (0 : Int).toNat ((x2.size : Int) : Int).toNat) x2)])) wr
  rw [h]
  exact ⟨rfl, hMr⟩
 ·have h := if_neg' hp3 h
  refine w_bool 10 rfl ((decide_eq_false hp3)) ?_
  refine wl_pass 6 rfl (ps 10 rfl rfl rfl) ?_
  refine wl_pass 7 rfl (ps 10 rfl rfl rfl) ?_
  refine wl_pass 8 rfl (ps 10 rfl rfl rfl) ?_
  refine wl_pass 9 rfl (ps 10 rfl rfl rfl) ?_
  refine wl_pass 10 rfl (ps 10 rfl rfl rfl) ?_
  refine wl_pass 11 rfl (ps 10 rfl rfl rfl) ?_
  refine wl_v 12 rfl (v_pick (b := false) rfl rfl) gn rfl ?_
  refine wl_v 13 rfl (v_assign rfl) gn rfl ?_
  refine w_end 14 rfl ?_
  refine g_retR (c := q66c4) [.bool false] rfl Tryd.func66 rfl (.tmp rfl (.nil)) fun wr hLr => ?_
  have hMr : B.Loc w wr [] [St w []] := hLr.pick0 (sels [1] rfl)
  show internal_stringslite_HasPrefix_R w F  r (.returned (packV [.bool false])) wr
  rw [h]
  exact ⟨rfl, hMr⟩
noncomputable abbrev q49c0 : Code := bodyOf Tryd.f49
noncomputable abbrev q49c1 : Code := Code.fst q49c0
noncomputable abbrev q49c2 : Code := Code.snd q49c0
noncomputable abbrev q49c3 : Code := Code.fst q49c2
noncomputable abbrev q49c4 : Code := Code.snd q49c2
noncomputable abbrev q49c5 : Code := Code.fst q49c3
noncomputable abbrev q49c6 : Code := Code.snd q49c3
noncomputable abbrev q49c7 : Code := Code.fst q49c6
noncomputable abbrev q49c8 : Code := Code.snd q49c6
noncomputable abbrev q49c9 : Code := Code.fst q49c4
noncomputable abbrev q49c10 : Code := Code.snd q49c4
noncomputable abbrev q49c11 : Code := Code.fst q49c7
noncomputable abbrev q49c12 : Code := Code.snd q49c7
abbrev internal_stringslite_CutPrefix_R (w : World) (F : Nat → Prop) (r : ByteArray × Bool) : Ending → World → Prop := fun e w' => e = .returned (.tuple #[.string r.1, .bool r.2]) ∧ B.Loc w w' [] [St w []]
noncomputable abbrev internal_stringslite_CutPrefix_C (w : World) (F : Nat → Prop) (r : ByteArray × Bool) : Cx := ⟨Tryd.prog, 49, Tryd.f49, 15, internal_stringslite_CutPrefix_R w F  r, w⟩
theorem internal_stringslite_CutPrefix_calls (w : World) (F : Nat → Prop) (x1 : ByteArray) (x2 : ByteArray) (hF : ∀ b, F b → b < w.heap.size ∧ ∀ o ∈ ([] : List (List Nat)), b ∉ o) (hL0 : B.Loc w w [] [Sm w.heap.size F w [], St w []]) (r : ByteArray × Bool) (h : internal_stringslite_CutPrefix x1 x2 r) : Calls Tryd.prog 49 #[.string x1, .string x2] w (internal_stringslite_CutPrefix_R w F  r) := by
 unfold internal_stringslite_CutPrefix at h
 refine calls_of_Loc (vs := [.string x1, .string x2]) 15 Tryd.func49 rfl Tryd.ntmps49 rfl hL0 ?_
 show G (internal_stringslite_CutPrefix_C w F r) _ _ _ _
 refine g_seq (c := q49c0) rfl ?_
 refine g_region (c := q49c1) rfl rfl ?_
 refine wl_v 0 rfl (v_assign rfl) gn rfl ?_
 refine wl_v 1 rfl (v_assign rfl) gn rfl ?_
 refine w_end 2 rfl ?_
 refine g_seq (c := q49c2) rfl ?_
 refine g_seq (c := q49c3) rfl ?_
 refine g_region (c := q49c5) rfl rfl ?_
 refine wl_v 0 rfl (v_move rfl) gn rfl ?_
 refine wl_v 1 rfl (v_move rfl) gn rfl ?_
 obtain ⟨r6, hv7, h⟩ := h
 refine wl_s 2 rfl (s_call [.string x1, .string x2] rfl Tryd.func66 rfl rfl rfl fun w3 hL4 => ?_) gn
 have hp5 : List.Perm ([] : List Ent) (([] : List Ent) ++ ([] : List Ent)) := perm_of_idx [] [] rfl rfl (by kernel_rfl)
 refine Calls.mono (internal_stringslite_HasPrefix_calls w3 (Fl ([] : List Snap)) x1 x2 (hL4.hFl (Sl := ([] : List Snap)) hp5 (sels [] rfl)) (hL4.into hp5 (Fl ([] : List Snap))) r6 hv7) ?_
 rintro _ w8 ⟨rfl, hM9⟩
 have hL10 := hL4.call hp5 hM9
 refine ⟨_, _, _, rfl, hL10, ?_⟩
 refine wl_v 3 rfl (v_not rfl) gn rfl ?_
 refine w_end 4 rfl ?_
 by_cases hp11 : r6 = true
 ·have h := if_pos' hp11 h
  refine g_false (c := q49c6) rfl _ rfl ((nf hp11)) ?_
  refine g_skip (c := q49c8) rfl ?_
  refine g_seq (c := q49c4) rfl ?_
  refine g_region (c := q49c9) rfl rfl ?_
  refine wl_v 0 rfl (v_move rfl) gn rfl ?_
  refine wl_v 1 rfl (v_move rfl) gn rfl ?_
  refine wl_v 2 rfl (v_lenS un_9 rfl) gn rfl ?_
  obtain ⟨hb12, h⟩ := h
  refine wl_v 3 rfl (v_cutS (x2.size : Int) (x1.size : Int) un_9 rfl (.inr ⟨_, _, rfl, rfl⟩) (.inl ⟨rfl, rfl⟩) ⟨hb12.1, hb12.2.1⟩ hb12.2.2) gn rfl ?_
  refine wl_v 4 rfl (v_assign rfl) gn rfl ?_
  refine wl_v 5 rfl (v_assign rfl) gn rfl ?_
  refine w_end 6 rfl ?_
  refine g_retR (c := q49c10) [.string (x1.extract ((x2.size : Int) : Int).toNat ((x1.size : Int) : Int).toNat), .bool true] rfl Tryd.func49 rfl (.tmp rfl (.tmp rfl (.nil))) fun wr hLr => ?_
  have hMr : B.Loc w wr [] [St w []] := hLr.pick0 (sels [1] rfl)
  show internal_stringslite_CutPrefix_R w F  r (.returned (packV [.string (x1.extract ((x2.size : Int) : Int).toNat ((x1.size : Int) : Int).toNat), .bool true])) wr
  rw [h]
  exact ⟨rfl, hMr⟩
 ·have h := if_neg' hp11 h
  refine g_true (c := q49c6) rfl _ rfl ((nt (bf hp11))) ?_
  refine g_seq (c := q49c7) rfl ?_
  refine g_region (c := q49c11) rfl rfl ?_
  refine wl_v 0 rfl (v_move rfl) gn rfl ?_
  refine wl_v 1 rfl (v_assign rfl) gn rfl ?_
  refine wl_v 2 rfl (v_assign rfl) gn rfl ?_
  refine w_end 3 rfl ?_
  refine g_retR (c := q49c12) [.string x1, .bool false] rfl Tryd.func49 rfl (.tmp rfl (.tmp rfl (.nil))) fun wr hLr => ?_
  have hMr : B.Loc w wr [] [St w []] := hLr.pick0 (sels [1] rfl)
  show internal_stringslite_CutPrefix_R w F  r (.returned (packV [.string x1, .bool false])) wr
  rw [h]
  exact ⟨rfl, hMr⟩
noncomputable abbrev q31c0 : Code := bodyOf Tryd.f31
noncomputable abbrev q31c1 : Code := Code.fst q31c0
noncomputable abbrev q31c2 : Code := Code.snd q31c0
noncomputable abbrev q31c3 : Code := Code.fst q31c2
noncomputable abbrev q31c4 : Code := Code.snd q31c2
abbrev strings_CutPrefix_R (w : World) (F : Nat → Prop) (r : ByteArray × Bool) : Ending → World → Prop := fun e w' => e = .returned (.tuple #[.string r.1, .bool r.2]) ∧ B.Loc w w' [] [St w []]
noncomputable abbrev strings_CutPrefix_C (w : World) (F : Nat → Prop) (r : ByteArray × Bool) : Cx := ⟨Tryd.prog, 31, Tryd.f31, 11, strings_CutPrefix_R w F  r, w⟩
theorem strings_CutPrefix_calls (w : World) (F : Nat → Prop) (x1 : ByteArray) (x2 : ByteArray) (hF : ∀ b, F b → b < w.heap.size ∧ ∀ o ∈ ([] : List (List Nat)), b ∉ o) (hL0 : B.Loc w w [] [Sm w.heap.size F w [], St w []]) (r : ByteArray × Bool) (h : strings_CutPrefix x1 x2 r) : Calls Tryd.prog 31 #[.string x1, .string x2] w (strings_CutPrefix_R w F  r) := by
 unfold strings_CutPrefix at h
 refine calls_of_Loc (vs := [.string x1, .string x2]) 11 Tryd.func31 rfl Tryd.ntmps31 rfl hL0 ?_
 show G (strings_CutPrefix_C w F r) _ _ _ _
 refine g_seq (c := q31c0) rfl ?_
 refine g_region (c := q31c1) rfl rfl ?_
 refine wl_v 0 rfl (v_assign rfl) gn rfl ?_
 refine wl_v 1 rfl (v_assign rfl) gn rfl ?_
 refine w_end 2 rfl ?_
 refine g_seq (c := q31c2) rfl ?_
 refine g_region (c := q31c3) rfl rfl ?_
 refine wl_v 0 rfl (v_move rfl) gn rfl ?_
 refine wl_v 1 rfl (v_move rfl) gn rfl ?_
 obtain ⟨r6, hv7, h⟩ := h
 refine wl_s 2 rfl (s_call [.string x1, .string x2] rfl Tryd.func49 rfl rfl rfl fun w3 hL4 => ?_) gn
 have hp5 : List.Perm ([] : List Ent) (([] : List Ent) ++ ([] : List Ent)) := perm_of_idx [] [] rfl rfl (by kernel_rfl)
 refine Calls.mono (internal_stringslite_CutPrefix_calls w3 (Fl ([] : List Snap)) x1 x2 (hL4.hFl (Sl := ([] : List Snap)) hp5 (sels [] rfl)) (hL4.into hp5 (Fl ([] : List Snap))) r6 hv7) ?_
 rintro _ w8 ⟨rfl, hM9⟩
 have hL10 := hL4.call hp5 hM9
 refine ⟨_, _, _, rfl, hL10, ?_⟩
 refine wl_v 3 rfl (v_extract rfl rfl) gn rfl ?_
 refine wl_v 4 rfl (v_extract rfl rfl) gn rfl ?_
 refine wl_v 5 rfl (v_assign rfl) gn rfl ?_
 refine wl_v 6 rfl (v_assign rfl) gn rfl ?_
 refine w_end 7 rfl ?_
 refine g_retR (c := q31c4) [.string r6.1, .bool r6.2] rfl Tryd.func31 rfl (.tmp rfl (.tmp rfl (.nil))) fun wr hLr => ?_
 have hMr : B.Loc w wr [] [St w []] := hLr.pick0 (sels [1] rfl)
 show strings_CutPrefix_R w F  r (.returned (packV [.string r6.1, .bool r6.2])) wr
 rw [h]
 exact ⟨rfl, hMr⟩
noncomputable abbrev q16c0 : Code := bodyOf Tryd.f16
noncomputable abbrev q16c1 : Code := Code.fst q16c0
noncomputable abbrev q16c2 : Code := Code.snd q16c0
noncomputable abbrev q16c3 : Code := Code.fst q16c2
noncomputable abbrev q16c4 : Code := Code.snd q16c2
noncomputable abbrev q16c5 : Code := Code.fst q16c3
noncomputable abbrev q16c6 : Code := Code.snd q16c3
noncomputable abbrev q16c7 : Code := Code.fst q16c6
noncomputable abbrev q16c8 : Code := Code.snd q16c6
noncomputable abbrev q16c9 : Code := Code.fst q16c7
noncomputable abbrev q16c10 : Code := Code.snd q16c7
noncomputable abbrev q16c11 : Code := Code.fst q16c4
noncomputable abbrev q16c12 : Code := Code.snd q16c4
noncomputable abbrev q16c13 : Code := Code.fst q16c12
noncomputable abbrev q16c14 : Code := Code.snd q16c12
noncomputable abbrev q16c15 : Code := Code.fst q16c14
noncomputable abbrev q16c16 : Code := Code.snd q16c14
noncomputable abbrev q16c17 : Code := Code.fst q16c15
noncomputable abbrev q16c18 : Code := Code.snd q16c15
noncomputable abbrev q16c19 : Code := Code.fst q16c18
noncomputable abbrev q16c20 : Code := Code.fst q16c19
noncomputable abbrev q16c21 : Code := Code.fst q16c20
noncomputable abbrev q16c22 : Code := Code.snd q16c20
noncomputable abbrev q16c23 : Code := Code.fst q16c21
noncomputable abbrev q16c24 : Code := Code.snd q16c21
noncomputable abbrev q16c25 : Code := Code.fst q16c24
noncomputable abbrev q16c26 : Code := Code.snd q16c24
noncomputable abbrev q16c27 : Code := Code.fst q16c22
noncomputable abbrev q16c28 : Code := Code.snd q16c22
noncomputable abbrev q16c29 : Code := Code.fst q16c27
noncomputable abbrev q16c30 : Code := Code.fst q16c29
noncomputable abbrev q16c31 : Code := Code.snd q16c29
noncomputable abbrev q16c32 : Code := Code.fst q16c30
noncomputable abbrev q16c33 : Code := Code.snd q16c30
noncomputable abbrev q16c34 : Code := Code.fst q16c33
noncomputable abbrev q16c35 : Code := Code.snd q16c33
noncomputable abbrev q16c36 : Code := Code.fst q16c34
noncomputable abbrev q16c37 : Code := Code.snd q16c34
noncomputable abbrev q16c38 : Code := Code.fst q16c31
noncomputable abbrev q16c39 : Code := Code.snd q16c31
noncomputable abbrev q16c40 : Code := Code.fst q16c39
noncomputable abbrev q16c41 : Code := Code.snd q16c39
noncomputable abbrev q16c42 : Code := Code.fst q16c40
noncomputable abbrev q16c43 : Code := Code.snd q16c40
noncomputable abbrev q16c44 : Code := Code.fst q16c43
noncomputable abbrev q16c45 : Code := Code.snd q16c43
noncomputable abbrev q16c46 : Code := Code.fst q16c44
noncomputable abbrev q16c47 : Code := Code.snd q16c44
noncomputable abbrev q16c48 : Code := Code.fst q16c16
noncomputable abbrev q16c49 : Code := Code.snd q16c16
noncomputable abbrev q16c50 : Code := Code.fst q16c48
noncomputable abbrev q16c51 : Code := Code.fst q16c50
noncomputable abbrev q16c52 : Code := Code.snd q16c50
noncomputable abbrev q16c53 : Code := Code.fst q16c52
noncomputable abbrev q16c54 : Code := Code.snd q16c52
noncomputable abbrev q16c55 : Code := Code.fst q16c53
noncomputable abbrev q16c56 : Code := Code.snd q16c53
noncomputable abbrev q16c57 : Code := Code.fst q16c54
noncomputable abbrev q16c58 : Code := Code.snd q16c54
noncomputable abbrev q16c59 : Code := Code.fst q16c58
noncomputable abbrev q16c60 : Code := Code.snd q16c58
noncomputable abbrev q16c61 : Code := Code.fst q16c49
noncomputable abbrev q16c62 : Code := Code.snd q16c49
noncomputable abbrev q16c63 : Code := Code.fst q16c59
noncomputable abbrev q16c64 : Code := Code.snd q16c59
abbrev json_Int_R (w : World) (F : Nat → Prop) (r : Int × Bool) : Ending → World → Prop := fun e w' => e = .returned (.tuple #[.int .i64 r.1, .bool r.2]) ∧ B.Loc w w' [] [St w []]
noncomputable abbrev json_Int_C (w : World) (F : Nat → Prop) (r : Int × Bool) : Cx := ⟨Tryd.prog, 16, Tryd.f16, 81, json_Int_R w F  r, w⟩
theorem json_Int_calls (w : World) (F : Nat → Prop) (x1 : List api_JNode) (x6 : Int) (A2 : Option Addr) (n3 : Nat) (c4 : Nat) (h5 : Rw k_api_JNode w (St w []).av A2 n3 c4 x1) (hG1 : Tt .u8 tb_1 1 (St w [])) (hG2 : Tt .u8 tb_2 2 (St w [])) (hF : ∀ b, F b → b < w.heap.size ∧ ∀ o ∈ ([] : List (List Nat)), b ∉ o) (hL0 : B.Loc w w [] [Sm w.heap.size F w [], St w []]) (r : Int × Bool) (h : json_Int x1 x6 r) : Calls Tryd.prog 16 #[.slice A2 n3 c4, .int .i64 x6] w (json_Int_R w F  r) := by
 unfold json_Int at h
 refine calls_of_Loc (vs := [.slice A2 n3 c4, .int .i64 x6]) 81 Tryd.func16 rfl Tryd.ntmps16 rfl hL0 ?_
 show G (json_Int_C w F r) _ _ _ _
 refine g_seq (c := q16c0) rfl ?_
 refine g_region (c := q16c1) rfl rfl ?_
 refine wl_v 0 rfl (v_assign rfl) gn rfl ?_
 refine wl_v 1 rfl (v_assign rfl) gn rfl ?_
 refine w_end 2 rfl ?_
 refine g_seq (c := q16c2) rfl ?_
 refine g_seq (c := q16c3) rfl ?_
 have j1 : ∀ (x21 : Bool) (h : json_Int_j1 x6 x1 x21 r) , G (json_Int_C w F r) [.code q16c6, .code q16c4] [(0, .slice A2 n3 c4), (1, .int .i64 x6), (31, .bool x21)] [] [Sm w.heap.size F w [], St w []] := by
  intro x21 h
  unfold json_Int_j1 at h
  by_cases hp22 : x21 = true
  ·have h := if_pos' hp22 h
   refine g_true (c := q16c6) rfl _ rfl (hp22) ?_
   refine g_seq (c := q16c7) rfl ?_
   refine g_region (c := q16c9) rfl rfl ?_
   refine wl_v 0 rfl (v_assign rfl) gn rfl ?_
   refine wl_v 1 rfl (v_assign rfl) gn rfl ?_
   refine w_end 2 rfl ?_
   refine g_retR (c := q16c10) [.int .i64 0, .bool false] rfl Tryd.func16 rfl (.tmp rfl (.tmp rfl (.nil))) fun wr hLr => ?_
   have hMr : B.Loc w wr [] [St w []] := hLr.pick0 (sels [1] rfl)
   show json_Int_R w F  r (.returned (packV [.int .i64 0, .bool false])) wr
   rw [h]
   exact ⟨rfl, hMr⟩
  ·have h := if_neg' hp22 h
   refine g_false (c := q16c6) rfl _ rfl ((bf hp22)) ?_
   refine g_skip (c := q16c8) rfl ?_
   refine g_seq (c := q16c4) rfl ?_
   refine g_region (c := q16c11) rfl rfl ?_
   refine wl_v 0 rfl (v_move rfl) gn rfl ?_
   refine wl_v 1 rfl (v_move rfl) gn rfl ?_
   obtain ⟨hb23, h⟩ := h
   have hr24 := Rw.readF (s := St w []) (hl := hl_api_JNode) (h1 := h1_api_JNode) h5 hb23
   refine wl_v 2 rfl (v_idxR (s := St w []) slE_22 rfl rfl h5 hb23) gn rfl ?_
   refine wl_v 3 rfl (v_fldA fo_31_2 rfl) gn rfl ?_
   refine wl_v 4 rfl (v_ldA1 (kk := (x6 : Int).toNat * 4) (j := 2) (St w []) ld_9 rfl hr24 rfl (me 1 rfl)) gn rfl ?_
   obtain ⟨r28, hv29, h⟩ := h
   refine wl_s 5 rfl (s_call [.string ((ix x1 x6).text), .string (⟨#[45]⟩ : ByteArray)] rfl Tryd.func31 rfl rfl rfl fun w25 hL26 => ?_) gn
   have hp27 : List.Perm ([] : List Ent) (([] : List Ent) ++ ([] : List Ent)) := perm_of_idx [] [] rfl rfl (by kernel_rfl)
   refine Calls.mono (strings_CutPrefix_calls w25 (Fl ([] : List Snap)) ((ix x1 x6).text) (⟨#[45]⟩ : ByteArray) (hL26.hFl (Sl := ([] : List Snap)) hp27 (sels [] rfl)) (hL26.into hp27 (Fl ([] : List Snap))) r28 hv29) ?_
   rintro _ w30 ⟨rfl, hM31⟩
   have hL32 := hL26.call hp27 hM31
   refine ⟨_, _, _, rfl, hL32, ?_⟩
   refine wl_v 6 rfl (v_move rfl) gn rfl ?_
   refine wl_v 7 rfl (v_extract rfl rfl) gn rfl ?_
   refine wl_v 8 rfl (v_extract rfl rfl) gn rfl ?_
   refine wl_v 9 rfl (v_assign rfl) gn rfl ?_
   refine wl_v 10 rfl (v_assign rfl) gn rfl ?_
   refine w_end 11 rfl ?_
   refine g_seq (c := q16c12) rfl ?_
   refine g_region (c := q16c13) rfl rfl ?_
   refine wl_v 0 rfl (v_assign rfl) gn rfl ?_
   refine w_end 1 rfl ?_
   refine g_seq (c := q16c14) rfl ?_
   refine g_seq (c := q16c15) rfl ?_
   refine g_region (c := q16c17) rfl rfl ?_
   refine wl_v 0 rfl (v_assign rfl) gn rfl ?_
   refine w_end 1 rfl ?_
   refine g_block (c := q16c18) rfl ?_
   refine g_loop (c := q16c19) rfl ?_
   have key2 : ∀ s, Rounds (fun (s : Int × Int) o => json_Int_b2 r28 s.1 s.2 o) s r → (fun (s : Int × Int) => ∀ (_ : Unit), G (json_Int_C w F r) [.code q16c20, .inLoop q16c20, .inBlock 0, .code q16c16] [(6, .string r28.1), (7, .bool r28.2), (8, .int .u64 s.1), (9, .int .i64 s.2)] [] [Sm w.heap.size F w [], St w []]) s := by
    intro s hs
    refine Rounds.ind (mot := (fun (s : Int × Int) => ∀ (_ : Unit), G (json_Int_C w F r) [.code q16c20, .inLoop q16c20, .inBlock 0, .code q16c16] [(6, .string r28.1), (7, .bool r28.2), (8, .int .u64 s.1), (9, .int .i64 s.2)] [] [Sm w.heap.size F w [], St w []])) ?_ hs
    clear hs s
    intro s o1 h hO1
    obtain ⟨x45, x46⟩ := s
    show ∀ (_ : Unit), G (json_Int_C w F r) [.code q16c20, .inLoop q16c20, .inBlock 0, .code q16c16] [(6, .string r28.1), (7, .bool r28.2), (8, .int .u64 x45), (9, .int .i64 x46)] [] [Sm w.heap.size F w [], St w []]
    intro _
    have h : json_Int_b2 r28 x45 x46 o1 := h
    unfold json_Int_b2 at h
    refine g_seq (c := q16c20) rfl ?_
    refine g_seq (c := q16c21) rfl ?_
    refine g_region (c := q16c23) rfl rfl ?_
    refine wl_v 0 rfl (v_move rfl) gn rfl ?_
    refine wl_v 1 rfl (v_move rfl) gn rfl ?_
    refine wl_v 2 rfl (v_lenS un_9 rfl) gn rfl ?_
    refine wl_v 3 rfl (v_bin rfl rfl rfl) gn rfl ?_
    refine w_end 4 rfl ?_
    by_cases hp59 : x46 < (r28.1.size : Int)
    ·have h := if_pos' hp59 h
     refine g_true (c := q16c24) rfl _ rfl ((decide_eq_true hp59)) ?_
     refine g_skip (c := q16c25) rfl ?_
     refine g_seq (c := q16c22) rfl ?_
     refine g_block (c := q16c27) rfl ?_
     refine g_seq (c := q16c29) rfl ?_
     refine g_seq (c := q16c30) rfl ?_
     have j3 : ∀ (x63 : Bool) (h : json_Int_j3 x46 r28 x45 x63 o1) , G (json_Int_C w F r) [.code q16c33, .code q16c31, .inBlock 1, .code q16c28, .inLoop q16c20, .inBlock 0, .code q16c16] [(6, .string r28.1), (7, .bool r28.2), (8, .int .u64 x45), (9, .int .i64 x46), (56, .bool x63)] [] [Sm w.heap.size F w [], St w []] := by
      intro x63 h
      unfold json_Int_j3 at h
      by_cases hp64 : x63 = true
      ·have h := if_pos' hp64 h
       refine g_true (c := q16c33) rfl _ rfl (hp64) ?_
       refine g_seq (c := q16c34) rfl ?_
       refine g_region (c := q16c36) rfl rfl ?_
       refine wl_v 0 rfl (v_assign rfl) gn rfl ?_
       refine wl_v 1 rfl (v_assign rfl) gn rfl ?_
       refine w_end 2 rfl ?_
       have h := Out.inr hO1 h
       refine g_retR (c := q16c37) [.int .i64 0, .bool false] rfl Tryd.func16 rfl (.tmp rfl (.tmp rfl (.nil))) fun wr hLr => ?_
       have hMr : B.Loc w wr [] [St w []] := hLr.pick0 (sels [1] rfl)
       show json_Int_R w F  r (.returned (packV [.int .i64 0, .bool false])) wr
       rw [h]
       exact ⟨rfl, hMr⟩
      ·have h := if_neg' hp64 h
       refine g_false (c := q16c33) rfl _ rfl ((bf hp64)) ?_
       refine g_skip (c := q16c35) rfl ?_
       refine g_seq (c := q16c31) rfl ?_
       refine g_region (c := q16c38) rfl rfl ?_
       refine wl_v 0 rfl (v_move rfl) gn rfl ?_
       refine wl_v 1 rfl (v_move rfl) gn rfl ?_
       obtain ⟨hb65, h⟩ := h
       refine wl_v 2 rfl (v_indexS un_9 rfl rfl hb65) gn rfl ?_
       refine wl_v 3 rfl (v_bin rfl rfl rfl) gn rfl ?_
       refine wl_v 4 rfl (v_conv ⟨_, un_5⟩ un_50 rfl) gn rfl ?_
       refine wl_v 5 rfl (v_assign rfl) gn rfl ?_
       refine w_end 6 rfl ?_
       refine g_seq (c := q16c39) rfl ?_
       refine g_seq (c := q16c40) rfl ?_
       refine g_region (c := q16c42) rfl rfl ?_
       refine wl_v 0 rfl (v_move rfl) gn rfl ?_
       refine wl_v 1 rfl (v_move rfl) gn rfl ?_
       refine wl_v 2 rfl (v_bin rfl rfl rfl) gn rfl ?_
       refine wl_v 3 rfl (v_quo rfl rfl (by decide)) gn rfl ?_
       refine wl_v 4 rfl (v_bin rfl rfl rfl) gn rfl ?_
       refine w_end 5 rfl ?_
       by_cases hp66 : x45 > IntKind.u64.wrap (Int.tdiv (IntKind.u64.wrap (9223372036854775808 - (IntKind.u64.wrap (IntKind.u8.wrap ((bt r28.1 x46) - 48))))) 10)
       ·have h := if_pos' hp66 h
        refine g_true (c := q16c43) rfl _ rfl ((decide_eq_true hp66)) ?_
        refine g_seq (c := q16c44) rfl ?_
        refine g_region (c := q16c46) rfl rfl ?_
        refine wl_v 0 rfl (v_assign rfl) gn rfl ?_
        refine wl_v 1 rfl (v_assign rfl) gn rfl ?_
        refine w_end 2 rfl ?_
        have h := Out.inr hO1 h
        refine g_retR (c := q16c47) [.int .i64 0, .bool false] rfl Tryd.func16 rfl (.tmp rfl (.tmp rfl (.nil))) fun wr hLr => ?_
        have hMr : B.Loc w wr [] [St w []] := hLr.pick0 (sels [1] rfl)
        show json_Int_R w F  r (.returned (packV [.int .i64 0, .bool false])) wr
        rw [h]
        exact ⟨rfl, hMr⟩
       ·have h := if_neg' hp66 h
        refine g_false (c := q16c43) rfl _ rfl ((decide_eq_false hp66)) ?_
        refine g_skip (c := q16c45) rfl ?_
        refine g_region (c := q16c41) rfl rfl ?_
        refine wl_v 0 rfl (v_move rfl) gn rfl ?_
        refine wl_v 1 rfl (v_bin rfl rfl rfl) gn rfl ?_
        refine wl_v 2 rfl (v_move rfl) gn rfl ?_
        refine wl_v 3 rfl (v_bin rfl rfl rfl) gn rfl ?_
        refine wl_v 4 rfl (v_assign rfl) gn rfl ?_
        refine w_end 5 rfl ?_
        refine g_inBlock ?_
        refine g_region (c := q16c28) rfl rfl ?_
        refine wl_v 0 rfl (v_move rfl) gn rfl ?_
        refine wl_v 1 rfl (v_bin rfl rfl rfl) gn rfl ?_
        refine wl_v 2 rfl (v_assign rfl) gn rfl ?_
        refine w_end 3 rfl ?_
        refine g_inLoop ?_
        have ih := Out.inl hO1 h
        exact g_go [0, 1] (ih ()) ⟨rfl, rfl, rfl, rfl, trivial⟩ (.slnil) rfl
     refine g_region (c := q16c32) rfl rfl ?_
     refine wl_v 0 rfl (v_move rfl) gn rfl ?_
     refine wl_v 1 rfl (v_move rfl) gn rfl ?_
     obtain ⟨hb67, h⟩ := h
     refine wl_v 2 rfl (v_indexS un_9 rfl rfl hb67) gn rfl ?_
     refine wl_v 3 rfl (v_bin rfl rfl rfl) gn rfl ?_
     refine wl_v 4 rfl (v_move rfl) gn rfl ?_
     by_cases hp68 : bt r28.1 x46 < 48
     ·have h := if_pos' hp68 h
      refine w_bool 51 rfl ((decide_eq_true hp68)) ?_
      refine wl_pass 5 rfl (ps 51 rfl rfl rfl) ?_
      refine wl_pass 6 rfl (ps 51 rfl rfl rfl) ?_
      refine wl_pass 7 rfl (ps 51 rfl rfl rfl) ?_
      refine wl_pass 8 rfl (ps 51 rfl rfl rfl) ?_
      refine wl_v 9 rfl (v_pick (b := true) rfl rfl) gn rfl ?_
      refine w_end 10 rfl ?_
      exact g_go [0, 1] (j3 true h) ⟨rfl, rfl, rfl, rfl, rfl, trivial⟩ (.slnil) rfl
     ·have h := if_neg' hp68 h
      refine w_bool 51 rfl ((decide_eq_false hp68)) ?_
      refine wl_v 5 rfl (v_move rfl) (gy 51 rfl rfl) rfl ?_
      refine wl_v 6 rfl (v_move rfl) (gy 51 rfl rfl) rfl ?_
      refine wl_v 7 rfl (v_indexS un_9 rfl rfl hb67) (gy 51 rfl rfl) rfl ?_
      refine wl_v 8 rfl (v_bin rfl rfl rfl) (gy 51 rfl rfl) rfl ?_
      refine wl_v 9 rfl (v_pick (b := false) rfl rfl) gn rfl ?_
      refine w_end 10 rfl ?_
      exact g_go [0, 1] (j3 (decide (bt r28.1 x46 > 57)) h) ⟨rfl, rfl, rfl, rfl, rfl, trivial⟩ (.slnil) rfl
    ·have h := if_neg' hp59 h
     refine g_false (c := q16c24) rfl _ rfl ((decide_eq_false hp59)) ?_
     refine g_exit (c := q16c26) [.code q16c16] rfl rfl ?_
     refine g_seq (c := q16c16) rfl ?_
     refine g_block (c := q16c48) rfl ?_
     refine g_seq (c := q16c50) rfl ?_
     refine g_region (c := q16c51) rfl rfl ?_
     refine wl_v 0 rfl (v_move rfl) gn rfl ?_
     refine wl_v 1 rfl (v_assign rfl) gn rfl ?_
     refine w_end 2 rfl ?_
     by_cases hp69 : r28.2 = true
     ·have h := if_pos' hp69 h
      refine g_true (c := q16c52) rfl _ rfl (hp69) ?_
      refine g_seq (c := q16c53) rfl ?_
      refine g_region (c := q16c55) rfl rfl ?_
      refine wl_v 0 rfl (v_move rfl) gn rfl ?_
      refine wl_v 1 rfl (v_neg rfl) gn rfl ?_
      refine wl_v 2 rfl (v_conv ⟨_, un_50⟩ un_3 rfl) gn rfl ?_
      refine wl_v 3 rfl (v_assign rfl) gn rfl ?_
      refine wl_v 4 rfl (v_assign rfl) gn rfl ?_
      refine w_end 5 rfl ?_
      have h := Out.inr hO1 h
      refine g_retR (c := q16c56) [.int .i64 (w64 (IntKind.u64.wrap (0 - x45))), .bool true] rfl Tryd.func16 rfl (.tmp rfl (.tmp rfl (.nil))) fun wr hLr => ?_
      have hMr : B.Loc w wr [] [St w []] := hLr.pick0 (sels [1] rfl)
      show json_Int_R w F  r (.returned (packV [.int .i64 (w64 (IntKind.u64.wrap (0 - x45))), .bool true])) wr
      rw [h]
      exact ⟨rfl, hMr⟩
     ·have h := if_neg' hp69 h
      refine g_false (c := q16c52) rfl _ rfl ((bf hp69)) ?_
      refine g_seq (c := q16c54) rfl ?_
      refine g_region (c := q16c57) rfl rfl ?_
      refine wl_v 0 rfl (v_move rfl) gn rfl ?_
      refine wl_v 1 rfl (v_bin rfl rfl rfl) gn rfl ?_
      refine wl_v 2 rfl (v_assign rfl) gn rfl ?_
      refine w_end 3 rfl ?_
      by_cases hp70 : x45 > 9223372036854775807
      ·have h := if_pos' hp70 h
       refine g_true (c := q16c58) rfl _ rfl ((decide_eq_true hp70)) ?_
       refine g_seq (c := q16c59) rfl ?_
       refine g_region (c := q16c63) rfl rfl ?_
       refine wl_v 0 rfl (v_assign rfl) gn rfl ?_
       refine wl_v 1 rfl (v_assign rfl) gn rfl ?_
       refine w_end 2 rfl ?_
       have h := Out.inr hO1 h
       refine g_retR (c := q16c64) [.int .i64 0, .bool false] rfl Tryd.func16 rfl (.tmp rfl (.tmp rfl (.nil))) fun wr hLr => ?_
       have hMr : B.Loc w wr [] [St w []] := hLr.pick0 (sels [1] rfl)
       show json_Int_R w F  r (.returned (packV [.int .i64 0, .bool false])) wr
       rw [h]
       exact ⟨rfl, hMr⟩
      ·have h := if_neg' hp70 h
       refine g_false (c := q16c58) rfl _ rfl ((decide_eq_false hp70)) ?_
       refine g_skip (c := q16c60) rfl ?_
       refine g_inBlock ?_
       refine g_seq (c := q16c49) rfl ?_
       refine g_region (c := q16c61) rfl rfl ?_
       refine wl_v 0 rfl (v_move rfl) gn rfl ?_
       refine wl_v 1 rfl (v_conv ⟨_, un_50⟩ un_3 rfl) gn rfl ?_
       refine wl_v 2 rfl (v_assign rfl) gn rfl ?_
       refine wl_v 3 rfl (v_assign rfl) gn rfl ?_
       refine w_end 4 rfl ?_
       have h := Out.inr hO1 h
       refine g_retR (c := q16c62) [.int .i64 (w64 (x45)), .bool true] rfl Tryd.func16 rfl (.tmp rfl (.tmp rfl (.nil))) fun wr hLr => ?_
       have hMr : B.Loc w wr [] [St w []] := hLr.pick0 (sels [1] rfl)
       show json_Int_R w F  r (.returned (packV [.int .i64 (w64 (x45)), .bool true])) wr
       rw [h]
       exact ⟨rfl, hMr⟩
   exact g_go [0, 1] (key2 _ h ()) ⟨rfl, rfl, rfl, rfl, trivial⟩ (.slnil) rfl
 refine g_region (c := q16c5) rfl rfl ?_
 refine wl_v 0 rfl (v_move rfl) gn rfl ?_
 refine wl_v 1 rfl (v_bin rfl rfl rfl) gn rfl ?_
 refine wl_v 2 rfl (v_move rfl) gn rfl ?_
 by_cases hp71 : x6 < 0
 ·have h := if_pos' hp71 h
  refine w_bool 13 rfl ((decide_eq_true hp71)) ?_
  refine wl_pass 3 rfl (ps 13 rfl rfl rfl) ?_
  refine wl_pass 4 rfl (ps 13 rfl rfl rfl) ?_
  refine wl_pass 5 rfl (ps 13 rfl rfl rfl) ?_
  refine wl_pass 6 rfl (ps 13 rfl rfl rfl) ?_
  refine wl_v 7 rfl (v_pick (b := true) rfl rfl) gn rfl ?_
  refine wl_v 8 rfl (v_move rfl) gn rfl ?_
  refine wl_pass 9 rfl (ps 19 rfl rfl rfl) ?_
  refine wl_pass 10 rfl (ps 19 rfl rfl rfl) ?_
  refine wl_pass 11 rfl (ps 19 rfl rfl rfl) ?_
  refine wl_pass 12 rfl (ps 19 rfl rfl rfl) ?_
  refine wl_pass 13 rfl (ps 19 rfl rfl rfl) ?_
  refine wl_pass 14 rfl (ps 19 rfl rfl rfl) ?_
  refine wl_v 15 rfl (v_pick (b := true) rfl rfl) gn rfl ?_
  refine wl_v 16 rfl (v_move rfl) gn rfl ?_
  refine wl_pass 17 rfl (ps 27 rfl rfl rfl) ?_
  refine wl_pass 18 rfl (ps 27 rfl rfl rfl) ?_
  refine wl_pass 19 rfl (ps 27 rfl rfl rfl) ?_
  refine wl_v 20 rfl (v_pick (b := true) rfl rfl) gn rfl ?_
  refine w_end 21 rfl ?_
  exact g_go [0, 1] (j1 true h) ⟨rfl, rfl, rfl, trivial⟩ (.slnil) rfl
 ·have h := if_neg' hp71 h
  refine w_bool 13 rfl ((decide_eq_false hp71)) ?_
  refine wl_v 3 rfl (v_move rfl) (gy 13 rfl rfl) rfl ?_
  refine wl_v 4 rfl (v_move rfl) (gy 13 rfl rfl) rfl ?_
  refine wl_v 5 rfl (v_lenQ un_22 rfl h5.hq) (gy 13 rfl rfl) rfl ?_
  refine wl_v 6 rfl (v_bin rfl rfl rfl) (gy 13 rfl rfl) rfl ?_
  refine wl_v 7 rfl (v_pick (b := false) rfl rfl) gn rfl ?_
  refine wl_v 8 rfl (v_move rfl) gn rfl ?_
  by_cases hp72 : x6 ≥ (x1.length : Int)
  ·have h := if_pos' hp72 h
   refine w_bool 19 rfl ((decide_eq_true hp72)) ?_
   refine wl_pass 9 rfl (ps 19 rfl rfl rfl) ?_
   refine wl_pass 10 rfl (ps 19 rfl rfl rfl) ?_
   refine wl_pass 11 rfl (ps 19 rfl rfl rfl) ?_
   refine wl_pass 12 rfl (ps 19 rfl rfl rfl) ?_
   refine wl_pass 13 rfl (ps 19 rfl rfl rfl) ?_
   refine wl_pass 14 rfl (ps 19 rfl rfl rfl) ?_
   refine wl_v 15 rfl (v_pick (b := true) rfl rfl) gn rfl ?_
   refine wl_v 16 rfl (v_move rfl) gn rfl ?_
   refine wl_pass 17 rfl (ps 27 rfl rfl rfl) ?_
   refine wl_pass 18 rfl (ps 27 rfl rfl rfl) ?_
   refine wl_pass 19 rfl (ps 27 rfl rfl rfl) ?_
   refine wl_v 20 rfl (v_pick (b := true) rfl rfl) gn rfl ?_
   refine w_end 21 rfl ?_
   exact g_go [0, 1] (j1 true h) ⟨rfl, rfl, rfl, trivial⟩ (.slnil) rfl
  ·have h := if_neg' hp72 h
   refine w_bool 19 rfl ((decide_eq_false hp72)) ?_
   refine wl_v 9 rfl (v_move rfl) (gy 19 rfl rfl) rfl ?_
   refine wl_v 10 rfl (v_move rfl) (gy 19 rfl rfl) rfl ?_
   obtain ⟨hb73, h⟩ := h
   have hr74 := Rw.readF (s := St w []) (hl := hl_api_JNode) (h1 := h1_api_JNode) h5 hb73
   refine wl_v 11 rfl (v_idxR (s := St w []) slE_22 rfl rfl h5 hb73) (gy 19 rfl rfl) rfl ?_
   refine wl_v 12 rfl (v_fldA fo_31_0 rfl) (gy 19 rfl rfl) rfl ?_
   refine wl_v 13 rfl (v_ldA1 (kk := (x6 : Int).toNat * 4) (j := 0) (St w []) ld_29 rfl hr74 rfl (me 1 rfl)) (gy 19 rfl rfl) rfl ?_
   refine wl_v 14 rfl (v_bin rfl rfl rfl) (gy 19 rfl rfl) rfl ?_
   refine wl_v 15 rfl (v_pick (b := false) rfl rfl) gn rfl ?_
   refine wl_v 16 rfl (v_move rfl) gn rfl ?_
   by_cases hp75 : (ix x1 x6).kind = 4
   ·have h := if_pos' hp75 h
    refine w_bool 27 rfl ((eqib hp75)) ?_
    refine wl_v 17 rfl (v_move rfl) (gy 27 rfl rfl) rfl ?_
    obtain ⟨r79, hv80, h⟩ := h
    refine wl_s 18 rfl (s_call [.slice A2 n3 c4] rfl Tryd.func21 rfl rfl rfl fun w76 hL77 => ?_) (gy 27 rfl rfl)
    have hp78 : List.Perm ([] : List Ent) (([] : List Ent) ++ ([] : List Ent)) := perm_of_idx [] [] rfl rfl (by kernel_rfl)
    refine Calls.mono (json_Shaped_calls w76 (Fl ([] : List Snap)) x1 A2 n3 c4 (Rw.mono h5 (hL77.toSt hp78 (me 1 rfl))) (hL77.tt hp78 hG1 (me 1 rfl)) (hL77.tt hp78 hG2 (me 1 rfl)) (hL77.hFl (Sl := ([] : List Snap)) hp78 (sels [] rfl)) (hL77.into hp78 (Fl ([] : List Snap))) r79 hv80) ?_
    rintro _ w81 ⟨rfl, hM82⟩
    have hL83 := hL77.call hp78 hM82
    refine ⟨_, _, _, rfl, hL83, ?_⟩
    refine wl_v 19 rfl (v_not rfl) (gy 27 rfl rfl) rfl ?_
    refine wl_v 20 rfl (v_pick (b := false) rfl rfl) gn rfl ?_
    refine w_end 21 rfl ?_
    exact g_go [0, 1] (j1 (!r79) h) ⟨rfl, rfl, rfl, trivial⟩ (.slnil) rfl
   ·have h := if_neg' hp75 h
    refine w_bool 27 rfl ((neib hp75)) ?_
    refine wl_pass 17 rfl (ps 27 rfl rfl rfl) ?_
    refine wl_pass 18 rfl (ps 27 rfl rfl rfl) ?_
    refine wl_pass 19 rfl (ps 27 rfl rfl rfl) ?_
    refine wl_v 20 rfl (v_pick (b := true) rfl rfl) gn rfl ?_
    refine w_end 21 rfl ?_
    exact g_go [0, 1] (j1 true h) ⟨rfl, rfl, rfl, trivial⟩ (.slnil) rfl
noncomputable abbrev q40c0 : Code := bodyOf Tryd.f40
noncomputable abbrev q40c1 : Code := Code.fst q40c0
noncomputable abbrev q40c2 : Code := Code.snd q40c0
noncomputable abbrev q40c3 : Code := Code.fst q40c2
noncomputable abbrev q40c4 : Code := Code.snd q40c2
noncomputable abbrev q40c5 : Code := Code.fst q40c4
noncomputable abbrev q40c6 : Code := Code.snd q40c4
noncomputable abbrev q40c7 : Code := Code.fst q40c5
noncomputable abbrev q40c8 : Code := Code.fst q40c7
noncomputable abbrev q40c9 : Code := Code.fst q40c8
noncomputable abbrev q40c10 : Code := Code.snd q40c8
noncomputable abbrev q40c11 : Code := Code.fst q40c9
noncomputable abbrev q40c12 : Code := Code.snd q40c9
noncomputable abbrev q40c13 : Code := Code.fst q40c12
noncomputable abbrev q40c14 : Code := Code.snd q40c12
noncomputable abbrev q40c15 : Code := Code.fst q40c10
noncomputable abbrev q40c16 : Code := Code.fst q40c15
noncomputable abbrev q40c17 : Code := Code.snd q40c15
noncomputable abbrev q40c18 : Code := Code.fst q40c16
noncomputable abbrev q40c19 : Code := Code.snd q40c16
noncomputable abbrev q40c20 : Code := Code.fst q40c19
noncomputable abbrev q40c21 : Code := Code.snd q40c19
noncomputable abbrev q40c22 : Code := Code.fst q40c20
noncomputable abbrev q40c23 : Code := Code.snd q40c20
noncomputable abbrev q40c24 : Code := Code.fst q40c17
noncomputable abbrev q40c25 : Code := Code.snd q40c17
noncomputable abbrev q40c26 : Code := Code.fst q40c6
noncomputable abbrev q40c27 : Code := Code.snd q40c6
abbrev trellisref25_Behind_R (w : World) (F : Nat → Prop) (r : Int) : Ending → World → Prop := fun e w' => e = .returned (.int .i64 r) ∧ B.Loc w w' [] [St w []]
noncomputable abbrev trellisref25_Behind_C (w : World) (F : Nat → Prop) (r : Int) : Cx := ⟨Tryd.prog, 40, Tryd.f40, 41, trellisref25_Behind_R w F  r, w⟩
theorem trellisref25_Behind_calls (w : World) (F : Nat → Prop) (x1 : List api_JNode) (x6 : Int) (A2 : Option Addr) (n3 : Nat) (c4 : Nat) (h5 : Rw k_api_JNode w (St w []).av A2 n3 c4 x1) (hF : ∀ b, F b → b < w.heap.size ∧ ∀ o ∈ ([] : List (List Nat)), b ∉ o) (hL0 : B.Loc w w [] [Sm w.heap.size F w [], St w []]) (r : Int) (h : trellisref25_Behind x1 x6 r) : Calls Tryd.prog 40 #[.slice A2 n3 c4, .int .i64 x6] w (trellisref25_Behind_R w F  r) := by
 unfold trellisref25_Behind at h
 refine calls_of_Loc (vs := [.slice A2 n3 c4, .int .i64 x6]) 41 Tryd.func40 rfl Tryd.ntmps40 rfl hL0 ?_
 show G (trellisref25_Behind_C w F r) _ _ _ _
 refine g_seq (c := q40c0) rfl ?_
 refine g_region (c := q40c1) rfl rfl ?_
 refine wl_v 0 rfl (v_assign rfl) gn rfl ?_
 refine w_end 1 rfl ?_
 refine g_seq (c := q40c2) rfl ?_
 refine g_region (c := q40c3) rfl rfl ?_
 refine wl_v 0 rfl (v_assign rfl) gn rfl ?_
 refine w_end 1 rfl ?_
 refine g_seq (c := q40c4) rfl ?_
 refine g_block (c := q40c5) rfl ?_
 refine g_loop (c := q40c7) rfl ?_
 have key1 : ∀ s, Rounds (fun (s : Int × Int) o => trellisref25_Behind_b1 x1 s.1 s.2 o) s r → (fun (s : Int × Int) => ∀ (_ : Unit), G (trellisref25_Behind_C w F r) [.code q40c8, .inLoop q40c8, .inBlock 0, .code q40c6] [(0, .slice A2 n3 c4), (1, .int .i64 s.1), (5, .int .i64 s.2)] [] [Sm w.heap.size F w [], St w []]) s := by
  intro s hs
  refine Rounds.ind (mot := (fun (s : Int × Int) => ∀ (_ : Unit), G (trellisref25_Behind_C w F r) [.code q40c8, .inLoop q40c8, .inBlock 0, .code q40c6] [(0, .slice A2 n3 c4), (1, .int .i64 s.1), (5, .int .i64 s.2)] [] [Sm w.heap.size F w [], St w []])) ?_ hs
  clear hs s
  intro s o1 h hO1
  obtain ⟨x23, x24⟩ := s
  show ∀ (_ : Unit), G (trellisref25_Behind_C w F r) [.code q40c8, .inLoop q40c8, .inBlock 0, .code q40c6] [(0, .slice A2 n3 c4), (1, .int .i64 x23), (5, .int .i64 x24)] [] [Sm w.heap.size F w [], St w []]
  intro _
  have h : trellisref25_Behind_b1 x1 x23 x24 o1 := h
  unfold trellisref25_Behind_b1 at h
  refine g_seq (c := q40c8) rfl ?_
  refine g_seq (c := q40c9) rfl ?_
  refine g_region (c := q40c11) rfl rfl ?_
  refine wl_v 0 rfl (v_move rfl) gn rfl ?_
  refine wl_v 1 rfl (v_bin rfl rfl rfl) gn rfl ?_
  refine w_end 2 rfl ?_
  by_cases hp41 : x24 > 0
  ·have h := if_pos' hp41 h
   refine g_true (c := q40c12) rfl _ rfl ((decide_eq_true hp41)) ?_
   refine g_skip (c := q40c13) rfl ?_
   refine g_block (c := q40c10) rfl ?_
   refine g_seq (c := q40c15) rfl ?_
   refine g_seq (c := q40c16) rfl ?_
   have j2 : ∀ (x48 : Bool) (h : trellisref25_Behind_j2 x23 x1 x24 x48 o1) , G (trellisref25_Behind_C w F r) [.code q40c19, .code q40c17, .inBlock 1, .inLoop q40c8, .inBlock 0, .code q40c6] [(0, .slice A2 n3 c4), (1, .int .i64 x23), (5, .int .i64 x24), (29, .bool x48)] [] [Sm w.heap.size F w [], St w []] := by
    intro x48 h
    unfold trellisref25_Behind_j2 at h
    by_cases hp49 : x48 = true
    ·have h := if_pos' hp49 h
     refine g_true (c := q40c19) rfl _ rfl (hp49) ?_
     refine g_seq (c := q40c20) rfl ?_
     refine g_region (c := q40c22) rfl rfl ?_
     refine wl_v 0 rfl (v_assign rfl) gn rfl ?_
     refine w_end 1 rfl ?_
     have h := Out.inr hO1 h
     refine g_retR (c := q40c23) [.int .i64 (-1)] rfl Tryd.func40 rfl (.tmp rfl (.nil)) fun wr hLr => ?_
     have hMr : B.Loc w wr [] [St w []] := hLr.pick0 (sels [1] rfl)
     show trellisref25_Behind_R w F  r (.returned (packV [.int .i64 (-1)])) wr
     rw [h]
     exact ⟨rfl, hMr⟩
    ·have h := if_neg' hp49 h
     refine g_false (c := q40c19) rfl _ rfl ((bf hp49)) ?_
     refine g_skip (c := q40c21) rfl ?_
     refine g_seq (c := q40c17) rfl ?_
     refine g_region (c := q40c24) rfl rfl ?_
     refine wl_v 0 rfl (v_move rfl) gn rfl ?_
     refine wl_v 1 rfl (v_bin rfl rfl rfl) gn rfl ?_
     refine wl_v 2 rfl (v_move rfl) gn rfl ?_
     refine wl_v 3 rfl (v_move rfl) gn rfl ?_
     obtain ⟨hb50, h⟩ := h
     have hr51 := Rw.readF (s := St w []) (hl := hl_api_JNode) (h1 := h1_api_JNode) h5 hb50
     refine wl_v 4 rfl (v_idxR (s := St w []) slE_22 rfl rfl h5 hb50) gn rfl ?_
     refine wl_v 5 rfl (v_fldA fo_31_3 rfl) gn rfl ?_
     refine wl_v 6 rfl (v_ldA1 (kk := (x23 : Int).toNat * 4) (j := 3) (St w []) ld_3 rfl hr51 rfl (me 1 rfl)) gn rfl ?_
     refine wl_v 7 rfl (v_bin rfl rfl rfl) gn rfl ?_
     refine wl_v 8 rfl (v_assign rfl) gn rfl ?_
     refine w_end 9 rfl ?_
     refine g_region (c := q40c25) rfl rfl ?_
     refine wl_v 0 rfl (v_move rfl) gn rfl ?_
     refine wl_v 1 rfl (v_bin rfl rfl rfl) gn rfl ?_
     refine wl_v 2 rfl (v_assign rfl) gn rfl ?_
     refine w_end 3 rfl ?_
     refine g_inBlock ?_
     refine g_inLoop ?_
     have ih := Out.inl hO1 h
     exact g_go [0, 1] (ih ()) ⟨rfl, rfl, rfl, trivial⟩ (.slnil) rfl
   refine g_region (c := q40c18) rfl rfl ?_
   refine wl_v 0 rfl (v_move rfl) gn rfl ?_
   refine wl_v 1 rfl (v_move rfl) gn rfl ?_
   refine wl_v 2 rfl (v_lenQ un_22 rfl h5.hq) gn rfl ?_
   refine wl_v 3 rfl (v_bin rfl rfl rfl) gn rfl ?_
   refine wl_v 4 rfl (v_move rfl) gn rfl ?_
   by_cases hp52 : x23 ≥ (x1.length : Int)
   ·have h := if_pos' hp52 h
    refine w_bool 12 rfl ((decide_eq_true hp52)) ?_
    refine wl_pass 5 rfl (ps 12 rfl rfl rfl) ?_
    refine wl_pass 6 rfl (ps 12 rfl rfl rfl) ?_
    refine wl_pass 7 rfl (ps 12 rfl rfl rfl) ?_
    refine wl_pass 8 rfl (ps 12 rfl rfl rfl) ?_
    refine wl_pass 9 rfl (ps 12 rfl rfl rfl) ?_
    refine wl_pass 10 rfl (ps 12 rfl rfl rfl) ?_
    refine wl_v 11 rfl (v_pick (b := true) rfl rfl) gn rfl ?_
    refine wl_v 12 rfl (v_move rfl) gn rfl ?_
    refine wl_pass 13 rfl (ps 20 rfl rfl rfl) ?_
    refine wl_pass 14 rfl (ps 20 rfl rfl rfl) ?_
    refine wl_pass 15 rfl (ps 20 rfl rfl rfl) ?_
    refine wl_pass 16 rfl (ps 20 rfl rfl rfl) ?_
    refine wl_pass 17 rfl (ps 20 rfl rfl rfl) ?_
    refine wl_pass 18 rfl (ps 20 rfl rfl rfl) ?_
    refine wl_pass 19 rfl (ps 20 rfl rfl rfl) ?_
    refine wl_pass 20 rfl (ps 20 rfl rfl rfl) ?_
    refine wl_v 21 rfl (v_pick (b := true) rfl rfl) gn rfl ?_
    refine w_end 22 rfl ?_
    exact g_go [0, 1] (j2 true h) ⟨rfl, rfl, rfl, rfl, trivial⟩ (.slnil) rfl
   ·have h := if_neg' hp52 h
    refine w_bool 12 rfl ((decide_eq_false hp52)) ?_
    refine wl_v 5 rfl (v_move rfl) (gy 12 rfl rfl) rfl ?_
    refine wl_v 6 rfl (v_move rfl) (gy 12 rfl rfl) rfl ?_
    obtain ⟨hb53, h⟩ := h
    have hr54 := Rw.readF (s := St w []) (hl := hl_api_JNode) (h1 := h1_api_JNode) h5 hb53
    refine wl_v 7 rfl (v_idxR (s := St w []) slE_22 rfl rfl h5 hb53) (gy 12 rfl rfl) rfl ?_
    refine wl_v 8 rfl (v_fldA fo_31_3 rfl) (gy 12 rfl rfl) rfl ?_
    refine wl_v 9 rfl (v_ldA1 (kk := (x23 : Int).toNat * 4) (j := 3) (St w []) ld_3 rfl hr54 rfl (me 1 rfl)) (gy 12 rfl rfl) rfl ?_
    refine wl_v 10 rfl (v_bin rfl rfl rfl) (gy 12 rfl rfl) rfl ?_
    refine wl_v 11 rfl (v_pick (b := false) rfl rfl) gn rfl ?_
    refine wl_v 12 rfl (v_move rfl) gn rfl ?_
    by_cases hp55 : (ix x1 x23).kids < 0
    ·have h := if_pos' hp55 h
     refine w_bool 20 rfl ((decide_eq_true hp55)) ?_
     refine wl_pass 13 rfl (ps 20 rfl rfl rfl) ?_
     refine wl_pass 14 rfl (ps 20 rfl rfl rfl) ?_
     refine wl_pass 15 rfl (ps 20 rfl rfl rfl) ?_
     refine wl_pass 16 rfl (ps 20 rfl rfl rfl) ?_
     refine wl_pass 17 rfl (ps 20 rfl rfl rfl) ?_
     refine wl_pass 18 rfl (ps 20 rfl rfl rfl) ?_
     refine wl_pass 19 rfl (ps 20 rfl rfl rfl) ?_
     refine wl_pass 20 rfl (ps 20 rfl rfl rfl) ?_
     refine wl_v 21 rfl (v_pick (b := true) rfl rfl) gn rfl ?_
     refine w_end 22 rfl ?_
     exact g_go [0, 1] (j2 true h) ⟨rfl, rfl, rfl, rfl, trivial⟩ (.slnil) rfl
    ·have h := if_neg' hp55 h
     refine w_bool 20 rfl ((decide_eq_false hp55)) ?_
     refine wl_v 13 rfl (v_move rfl) (gy 20 rfl rfl) rfl ?_
     refine wl_v 14 rfl (v_move rfl) (gy 20 rfl rfl) rfl ?_
     have hr56 := Rw.readF (s := St w []) (hl := hl_api_JNode) (h1 := h1_api_JNode) h5 hb53
     refine wl_v 15 rfl (v_idxR (s := St w []) slE_22 rfl rfl h5 hb53) (gy 20 rfl rfl) rfl ?_
     refine wl_v 16 rfl (v_fldA fo_31_3 rfl) (gy 20 rfl rfl) rfl ?_
     refine wl_v 17 rfl (v_ldA1 (kk := (x23 : Int).toNat * 4) (j := 3) (St w []) ld_3 rfl hr56 rfl (me 1 rfl)) (gy 20 rfl rfl) rfl ?_
     refine wl_v 18 rfl (v_move rfl) (gy 20 rfl rfl) rfl ?_
     refine wl_v 19 rfl (v_lenQ un_22 rfl h5.hq) (gy 20 rfl rfl) rfl ?_
     refine wl_v 20 rfl (v_bin rfl rfl rfl) (gy 20 rfl rfl) rfl ?_
     refine wl_v 21 rfl (v_pick (b := false) rfl rfl) gn rfl ?_
     refine w_end 22 rfl ?_
     exact g_go [0, 1] (j2 (decide ((ix x1 x23).kids > (x1.length : Int))) h) ⟨rfl, rfl, rfl, rfl, trivial⟩ (.slnil) rfl
  ·have h := if_neg' hp41 h
   refine g_false (c := q40c12) rfl _ rfl ((decide_eq_false hp41)) ?_
   refine g_exit (c := q40c14) [.code q40c6] rfl rfl ?_
   refine g_seq (c := q40c6) rfl ?_
   refine g_region (c := q40c26) rfl rfl ?_
   refine wl_v 0 rfl (v_move rfl) gn rfl ?_
   refine wl_v 1 rfl (v_assign rfl) gn rfl ?_
   refine w_end 2 rfl ?_
   have h := Out.inr hO1 h
   refine g_retR (c := q40c27) [.int .i64 x23] rfl Tryd.func40 rfl (.tmp rfl (.nil)) fun wr hLr => ?_
   have hMr : B.Loc w wr [] [St w []] := hLr.pick0 (sels [1] rfl)
   show trellisref25_Behind_R w F  r (.returned (packV [.int .i64 x23])) wr
   rw [h]
   exact ⟨rfl, hMr⟩
 exact g_go [0, 1] (key1 _ h ()) ⟨rfl, rfl, rfl, trivial⟩ (.slnil) rfl
noncomputable abbrev q83c0 : Code := bodyOf Tryd.f83
noncomputable abbrev q83c1 : Code := Code.fst q83c0
noncomputable abbrev q83c2 : Code := Code.snd q83c0
noncomputable abbrev q83c3 : Code := Code.fst q83c2
noncomputable abbrev q83c4 : Code := Code.snd q83c2
noncomputable abbrev q83c5 : Code := Code.fst q83c3
noncomputable abbrev q83c6 : Code := Code.fst q83c5
noncomputable abbrev q83c7 : Code := Code.snd q83c5
noncomputable abbrev q83c8 : Code := Code.fst q83c7
noncomputable abbrev q83c9 : Code := Code.snd q83c7
noncomputable abbrev q83c10 : Code := Code.fst q83c8
noncomputable abbrev q83c11 : Code := Code.snd q83c8
noncomputable abbrev q83c12 : Code := Code.fst q83c9
noncomputable abbrev q83c13 : Code := Code.snd q83c9
noncomputable abbrev q83c14 : Code := Code.fst q83c13
noncomputable abbrev q83c15 : Code := Code.snd q83c13
noncomputable abbrev q83c16 : Code := Code.fst q83c14
noncomputable abbrev q83c17 : Code := Code.snd q83c14
noncomputable abbrev q83c18 : Code := Code.fst q83c15
noncomputable abbrev q83c19 : Code := Code.snd q83c15
noncomputable abbrev q83c20 : Code := Code.fst q83c19
noncomputable abbrev q83c21 : Code := Code.snd q83c19
noncomputable abbrev q83c22 : Code := Code.fst q83c20
noncomputable abbrev q83c23 : Code := Code.snd q83c20
noncomputable abbrev q83c24 : Code := Code.fst q83c21
noncomputable abbrev q83c25 : Code := Code.snd q83c21
noncomputable abbrev q83c26 : Code := Code.fst q83c25
noncomputable abbrev q83c27 : Code := Code.snd q83c25
noncomputable abbrev q83c28 : Code := Code.fst q83c26
noncomputable abbrev q83c29 : Code := Code.snd q83c26
noncomputable abbrev q83c30 : Code := Code.fst q83c27
noncomputable abbrev q83c31 : Code := Code.snd q83c27
noncomputable abbrev q83c32 : Code := Code.fst q83c31
noncomputable abbrev q83c33 : Code := Code.snd q83c31
noncomputable abbrev q83c34 : Code := Code.fst q83c32
noncomputable abbrev q83c35 : Code := Code.snd q83c32
noncomputable abbrev q83c36 : Code := Code.fst q83c33
noncomputable abbrev q83c37 : Code := Code.snd q83c33
noncomputable abbrev q83c38 : Code := Code.fst q83c37
noncomputable abbrev q83c39 : Code := Code.snd q83c37
noncomputable abbrev q83c40 : Code := Code.fst q83c38
noncomputable abbrev q83c41 : Code := Code.snd q83c38
noncomputable abbrev q83c42 : Code := Code.fst q83c39
noncomputable abbrev q83c43 : Code := Code.snd q83c39
noncomputable abbrev q83c44 : Code := Code.fst q83c43
noncomputable abbrev q83c45 : Code := Code.snd q83c43
noncomputable abbrev q83c46 : Code := Code.fst q83c44
noncomputable abbrev q83c47 : Code := Code.snd q83c44
noncomputable abbrev q83c48 : Code := Code.fst q83c45
noncomputable abbrev q83c49 : Code := Code.snd q83c45
noncomputable abbrev q83c50 : Code := Code.fst q83c49
noncomputable abbrev q83c51 : Code := Code.snd q83c49
noncomputable abbrev q83c52 : Code := Code.fst q83c50
noncomputable abbrev q83c53 : Code := Code.snd q83c50
noncomputable abbrev q83c54 : Code := Code.fst q83c4
noncomputable abbrev q83c55 : Code := Code.snd q83c4
abbrev trellisref25_Ranges_R (w : World) (F : Nat → Prop) (r : (List Int) × Bool) : Ending → World → Prop := fun e w' => ∃ A0 : Option Addr, ∃ n0 : Nat, ∃ c0 : Nat, e = .returned (.tuple #[.slice A0 n0 c0, .bool r.2]) ∧ B.Loc w w' [.own (.slice A0 n0 c0) 3 1 n0 (r.1.flatMap (eI .i64))] [St w []] ∧ Ow w.heap.size A0 n0 c0 r.1
noncomputable abbrev trellisref25_Ranges_C (w : World) (F : Nat → Prop) (r : (List Int) × Bool) : Cx := ⟨Tryd.prog, 83, Tryd.f83, 39, trellisref25_Ranges_R w F  r, w⟩
theorem trellisref25_Ranges_calls (w : World) (F : Nat → Prop) (x1 : Int) (hF : ∀ b, F b → b < w.heap.size ∧ ∀ o ∈ ([] : List (List Nat)), b ∉ o) (hL0 : B.Loc w w [] [Sm w.heap.size F w [], St w []]) (r : (List Int) × Bool) (h : trellisref25_Ranges x1 r) : Calls Tryd.prog 83 #[.int .u8 x1] w (trellisref25_Ranges_R w F  r) := by
 unfold trellisref25_Ranges at h
 refine calls_of_Loc (vs := [.int .u8 x1]) 39 Tryd.func83 rfl Tryd.ntmps83 rfl hL0 ?_
 show G (trellisref25_Ranges_C w F r) _ _ _ _
 refine g_seq (c := q83c0) rfl ?_
 refine g_region (c := q83c1) rfl rfl ?_
 refine wl_v 0 rfl (v_assign rfl) gn rfl ?_
 refine wl_v 1 rfl (v_assign rfl) gn rfl ?_
 refine w_end 2 rfl ?_
 refine g_seq (c := q83c2) rfl ?_
 refine g_block (c := q83c3) rfl ?_
 refine g_seq (c := q83c5) rfl ?_
 refine g_region (c := q83c6) rfl rfl ?_
 refine wl_v 0 rfl (v_move rfl) gn rfl ?_
 refine wl_v 1 rfl (v_bin rfl rfl rfl) gn rfl ?_
 refine wl_v 2 rfl (v_assign rfl) gn rfl ?_
 refine w_end 3 rfl ?_
 by_cases hp2 : x1 < 128
 ·have h := if_pos' hp2 h
  refine g_true (c := q83c7) rfl _ rfl ((decide_eq_true hp2)) ?_
  refine g_seq (c := q83c8) rfl ?_
  refine g_region (c := q83c10) rfl rfl ?_
  refine wl_v 0 rfl (v_assign rfl) gn rfl ?_
  refine wl_v 1 rfl (v_assign rfl) gn rfl ?_
  refine w_end 2 rfl ?_
  refine g_nil 3 1 ?_
  refine g_retR (c := q83c11) [.slice none 0 0, .bool true] rfl Tryd.func83 rfl (.tmp rfl (.tmp rfl (.nil))) fun wr hLr => ?_
  have hMr : B.Loc w wr [.own (.slice none 0 0) 3 1 0 (([] : List Int).flatMap (eI .i64))] [St w []] := hLr.pick (rest := []) (perm_of_idx [0] [] rfl rfl (by kernel_rfl)) (sels [1] rfl)
  show trellisref25_Ranges_R w F  r (.returned (packV [.slice none 0 0, .bool true])) wr
  rw [h]
  exact ⟨none, 0, 0, rfl, hMr, (Ow.nil (z := w.heap.size))⟩
 ·have h := if_neg' hp2 h
  refine g_false (c := q83c7) rfl _ rfl ((decide_eq_false hp2)) ?_
  refine g_seq (c := q83c9) rfl ?_
  have j1 : ∀ (x5 : Bool) (h : trellisref25_Ranges_j1 x1 x5 r) , G (trellisref25_Ranges_C w F r) [.code q83c13, .inBlock 0, .code q83c4] [(0, .int .u8 x1), (7, .bool x5)] [] [Sm w.heap.size F w [], St w []] := by
   intro x5 h
   unfold trellisref25_Ranges_j1 at h
   by_cases hp6 : x5 = true
   ·have h := if_pos' hp6 h
    refine g_true (c := q83c13) rfl _ rfl (hp6) ?_
    refine g_seq (c := q83c14) rfl ?_
    refine g_region (c := q83c16) rfl rfl ?_
    refine wl_v 0 rfl (v_assign rfl) gn rfl ?_
    refine wl_v 1 rfl (v_assign rfl) gn rfl ?_
    refine w_end 2 rfl ?_
    refine g_nil 3 1 ?_
    refine g_retR (c := q83c17) [.slice none 0 0, .bool false] rfl Tryd.func83 rfl (.tmp rfl (.tmp rfl (.nil))) fun wr hLr => ?_
    have hMr : B.Loc w wr [.own (.slice none 0 0) 3 1 0 (([] : List Int).flatMap (eI .i64))] [St w []] := hLr.pick (rest := []) (perm_of_idx [0] [] rfl rfl (by kernel_rfl)) (sels [1] rfl)
    show trellisref25_Ranges_R w F  r (.returned (packV [.slice none 0 0, .bool false])) wr
    rw [h]
    exact ⟨none, 0, 0, rfl, hMr, (Ow.nil (z := w.heap.size))⟩
   ·have h := if_neg' hp6 h
    refine g_false (c := q83c13) rfl _ rfl ((bf hp6)) ?_
    refine g_seq (c := q83c15) rfl ?_
    refine g_region (c := q83c18) rfl rfl ?_
    refine wl_v 0 rfl (v_move rfl) gn rfl ?_
    refine wl_v 1 rfl (v_bin rfl rfl rfl) gn rfl ?_
    refine wl_v 2 rfl (v_assign rfl) gn rfl ?_
    refine w_end 3 rfl ?_
    by_cases hp7 : x1 < 224
    ·have h := if_pos' hp7 h
     refine g_true (c := q83c19) rfl _ rfl ((decide_eq_true hp7)) ?_
     refine g_seq (c := q83c20) rfl ?_
     refine g_region (c := q83c22) rfl rfl ?_
     refine wl_s 0 rfl (s_litO (xs := ([128, 191] : List Int)) [.int .i64 128, .int .i64 191] bs_46_2 rfl (by kernel_rfl) rfl rfl rfl rfl fun gb9 h10 => ?_) gn
     refine wl_v 1 rfl (v_assign rfl) gn rfl ?_
     refine wl_v 2 rfl (v_assign rfl) gn rfl ?_
     refine w_end 3 rfl ?_
     refine g_retR (c := q83c23) [.slice (some ⟨gb9, 0, none⟩) 2 2, .bool true] rfl Tryd.func83 rfl (.tmp rfl (.tmp rfl (.nil))) fun wr hLr => ?_
     have hMr : B.Loc w wr [.own (.slice (some ⟨gb9, 0, none⟩) 2 2) 3 1 2 (([128, 191] : List Int).flatMap (eI .i64))] [St w []] := hLr.pick (rest := []) (perm_of_idx [0] [] rfl rfl (by kernel_rfl)) (sels [1] rfl)
     show trellisref25_Ranges_R w F  r (.returned (packV [.slice (some ⟨gb9, 0, none⟩) 2 2, .bool true])) wr
     rw [h]
     exact ⟨(some ⟨gb9, 0, none⟩), 2, 2, rfl, hMr, h10⟩
    ·have h := if_neg' hp7 h
     refine g_false (c := q83c19) rfl _ rfl ((decide_eq_false hp7)) ?_
     refine g_seq (c := q83c21) rfl ?_
     refine g_region (c := q83c24) rfl rfl ?_
     refine wl_v 0 rfl (v_move rfl) gn rfl ?_
     refine wl_v 1 rfl (v_bin rfl rfl rfl) gn rfl ?_
     refine wl_v 2 rfl (v_assign rfl) gn rfl ?_
     refine w_end 3 rfl ?_
     by_cases hp11 : x1 = 224
     ·have h := if_pos' hp11 h
      refine g_true (c := q83c25) rfl _ rfl ((eqi hp11)) ?_
      refine g_seq (c := q83c26) rfl ?_
      refine g_region (c := q83c28) rfl rfl ?_
      refine wl_s 0 rfl (s_litO (xs := ([160, 191, 128, 191] : List Int)) [.int .i64 160, .int .i64 191, .int .i64 128, .int .i64 191] bs_46_4 rfl (by kernel_rfl) rfl rfl rfl rfl fun gb13 h14 => ?_) gn
      refine wl_v 1 rfl (v_assign rfl) gn rfl ?_
      refine wl_v 2 rfl (v_assign rfl) gn rfl ?_
      refine w_end 3 rfl ?_
      refine g_retR (c := q83c29) [.slice (some ⟨gb13, 0, none⟩) 4 4, .bool true] rfl Tryd.func83 rfl (.tmp rfl (.tmp rfl (.nil))) fun wr hLr => ?_
      have hMr : B.Loc w wr [.own (.slice (some ⟨gb13, 0, none⟩) 4 4) 3 1 4 (([160, 191, 128, 191] : List Int).flatMap (eI .i64))] [St w []] := hLr.pick (rest := []) (perm_of_idx [0] [] rfl rfl (by kernel_rfl)) (sels [1] rfl)
      show trellisref25_Ranges_R w F  r (.returned (packV [.slice (some ⟨gb13, 0, none⟩) 4 4, .bool true])) wr
      rw [h]
      exact ⟨(some ⟨gb13, 0, none⟩), 4, 4, rfl, hMr, h14⟩
     ·have h := if_neg' hp11 h
      refine g_false (c := q83c25) rfl _ rfl ((nei hp11)) ?_
      refine g_seq (c := q83c27) rfl ?_
      refine g_region (c := q83c30) rfl rfl ?_
      refine wl_v 0 rfl (v_move rfl) gn rfl ?_
      refine wl_v 1 rfl (v_bin rfl rfl rfl) gn rfl ?_
      refine wl_v 2 rfl (v_assign rfl) gn rfl ?_
      refine w_end 3 rfl ?_
      by_cases hp15 : x1 = 237
      ·have h := if_pos' hp15 h
       refine g_true (c := q83c31) rfl _ rfl ((eqi hp15)) ?_
       refine g_seq (c := q83c32) rfl ?_
       refine g_region (c := q83c34) rfl rfl ?_
       refine wl_s 0 rfl (s_litO (xs := ([128, 159, 128, 191] : List Int)) [.int .i64 128, .int .i64 159, .int .i64 128, .int .i64 191] bs_46_4 rfl (by kernel_rfl) rfl rfl rfl rfl fun gb17 h18 => ?_) gn
       refine wl_v 1 rfl (v_assign rfl) gn rfl ?_
       refine wl_v 2 rfl (v_assign rfl) gn rfl ?_
       refine w_end 3 rfl ?_
       refine g_retR (c := q83c35) [.slice (some ⟨gb17, 0, none⟩) 4 4, .bool true] rfl Tryd.func83 rfl (.tmp rfl (.tmp rfl (.nil))) fun wr hLr => ?_
       have hMr : B.Loc w wr [.own (.slice (some ⟨gb17, 0, none⟩) 4 4) 3 1 4 (([128, 159, 128, 191] : List Int).flatMap (eI .i64))] [St w []] := hLr.pick (rest := []) (perm_of_idx [0] [] rfl rfl (by kernel_rfl)) (sels [1] rfl)
       show trellisref25_Ranges_R w F  r (.returned (packV [.slice (some ⟨gb17, 0, none⟩) 4 4, .bool true])) wr
       rw [h]
       exact ⟨(some ⟨gb17, 0, none⟩), 4, 4, rfl, hMr, h18⟩
      ·have h := if_neg' hp15 h
       refine g_false (c := q83c31) rfl _ rfl ((nei hp15)) ?_
       refine g_seq (c := q83c33) rfl ?_
       refine g_region (c := q83c36) rfl rfl ?_
       refine wl_v 0 rfl (v_move rfl) gn rfl ?_
       refine wl_v 1 rfl (v_bin rfl rfl rfl) gn rfl ?_
       refine wl_v 2 rfl (v_assign rfl) gn rfl ?_
       refine w_end 3 rfl ?_
       by_cases hp19 : x1 < 240
       ·have h := if_pos' hp19 h
        refine g_true (c := q83c37) rfl _ rfl ((decide_eq_true hp19)) ?_
        refine g_seq (c := q83c38) rfl ?_
        refine g_region (c := q83c40) rfl rfl ?_
        refine wl_s 0 rfl (s_litO (xs := ([128, 191, 128, 191] : List Int)) [.int .i64 128, .int .i64 191, .int .i64 128, .int .i64 191] bs_46_4 rfl (by kernel_rfl) rfl rfl rfl rfl fun gb21 h22 => ?_) gn
        refine wl_v 1 rfl (v_assign rfl) gn rfl ?_
        refine wl_v 2 rfl (v_assign rfl) gn rfl ?_
        refine w_end 3 rfl ?_
        refine g_retR (c := q83c41) [.slice (some ⟨gb21, 0, none⟩) 4 4, .bool true] rfl Tryd.func83 rfl (.tmp rfl (.tmp rfl (.nil))) fun wr hLr => ?_
        have hMr : B.Loc w wr [.own (.slice (some ⟨gb21, 0, none⟩) 4 4) 3 1 4 (([128, 191, 128, 191] : List Int).flatMap (eI .i64))] [St w []] := hLr.pick (rest := []) (perm_of_idx [0] [] rfl rfl (by kernel_rfl)) (sels [1] rfl)
        show trellisref25_Ranges_R w F  r (.returned (packV [.slice (some ⟨gb21, 0, none⟩) 4 4, .bool true])) wr
        rw [h]
        exact ⟨(some ⟨gb21, 0, none⟩), 4, 4, rfl, hMr, h22⟩
       ·have h := if_neg' hp19 h
        refine g_false (c := q83c37) rfl _ rfl ((decide_eq_false hp19)) ?_
        refine g_seq (c := q83c39) rfl ?_
        refine g_region (c := q83c42) rfl rfl ?_
        refine wl_v 0 rfl (v_move rfl) gn rfl ?_
        refine wl_v 1 rfl (v_bin rfl rfl rfl) gn rfl ?_
        refine wl_v 2 rfl (v_assign rfl) gn rfl ?_
        refine w_end 3 rfl ?_
        by_cases hp23 : x1 = 240
        ·have h := if_pos' hp23 h
         refine g_true (c := q83c43) rfl _ rfl ((eqi hp23)) ?_
         refine g_seq (c := q83c44) rfl ?_
         refine g_region (c := q83c46) rfl rfl ?_
         refine wl_s 0 rfl (s_litO (xs := ([144, 191, 128, 191, 128, 191] : List Int)) [.int .i64 144, .int .i64 191, .int .i64 128, .int .i64 191, .int .i64 128, .int .i64 191] bs_46_6 rfl (by kernel_rfl) rfl rfl rfl rfl fun gb25 h26 => ?_) gn
         refine wl_v 1 rfl (v_assign rfl) gn rfl ?_
         refine wl_v 2 rfl (v_assign rfl) gn rfl ?_
         refine w_end 3 rfl ?_
         refine g_retR (c := q83c47) [.slice (some ⟨gb25, 0, none⟩) 6 6, .bool true] rfl Tryd.func83 rfl (.tmp rfl (.tmp rfl (.nil))) fun wr hLr => ?_
         have hMr : B.Loc w wr [.own (.slice (some ⟨gb25, 0, none⟩) 6 6) 3 1 6 (([144, 191, 128, 191, 128, 191] : List Int).flatMap (eI .i64))] [St w []] := hLr.pick (rest := []) (perm_of_idx [0] [] rfl rfl (by kernel_rfl)) (sels [1] rfl)
         show trellisref25_Ranges_R w F  r (.returned (packV [.slice (some ⟨gb25, 0, none⟩) 6 6, .bool true])) wr
         rw [h]
         exact ⟨(some ⟨gb25, 0, none⟩), 6, 6, rfl, hMr, h26⟩
        ·have h := if_neg' hp23 h
         refine g_false (c := q83c43) rfl _ rfl ((nei hp23)) ?_
         refine g_seq (c := q83c45) rfl ?_
         refine g_region (c := q83c48) rfl rfl ?_
         refine wl_v 0 rfl (v_move rfl) gn rfl ?_
         refine wl_v 1 rfl (v_bin rfl rfl rfl) gn rfl ?_
         refine wl_v 2 rfl (v_assign rfl) gn rfl ?_
         refine w_end 3 rfl ?_
         by_cases hp27 : x1 = 244
         ·have h := if_pos' hp27 h
          refine g_true (c := q83c49) rfl _ rfl ((eqi hp27)) ?_
          refine g_seq (c := q83c50) rfl ?_
          refine g_region (c := q83c52) rfl rfl ?_
          refine wl_s 0 rfl (s_litO (xs := ([128, 143, 128, 191, 128, 191] : List Int)) [.int .i64 128, .int .i64 143, .int .i64 128, .int .i64 191, .int .i64 128, .int .i64 191] bs_46_6 rfl (by kernel_rfl) rfl rfl rfl rfl fun gb29 h30 => ?_) gn
          refine wl_v 1 rfl (v_assign rfl) gn rfl ?_
          refine wl_v 2 rfl (v_assign rfl) gn rfl ?_
          refine w_end 3 rfl ?_
          refine g_retR (c := q83c53) [.slice (some ⟨gb29, 0, none⟩) 6 6, .bool true] rfl Tryd.func83 rfl (.tmp rfl (.tmp rfl (.nil))) fun wr hLr => ?_
          have hMr : B.Loc w wr [.own (.slice (some ⟨gb29, 0, none⟩) 6 6) 3 1 6 (([128, 143, 128, 191, 128, 191] : List Int).flatMap (eI .i64))] [St w []] := hLr.pick (rest := []) (perm_of_idx [0] [] rfl rfl (by kernel_rfl)) (sels [1] rfl)
          show trellisref25_Ranges_R w F  r (.returned (packV [.slice (some ⟨gb29, 0, none⟩) 6 6, .bool true])) wr
          rw [h]
          exact ⟨(some ⟨gb29, 0, none⟩), 6, 6, rfl, hMr, h30⟩
         ·have h := if_neg' hp27 h
          refine g_false (c := q83c49) rfl _ rfl ((nei hp27)) ?_
          refine g_skip (c := q83c51) rfl ?_
          refine g_inBlock ?_
          refine g_seq (c := q83c4) rfl ?_
          refine g_region (c := q83c54) rfl rfl ?_
          refine wl_s 0 rfl (s_litO (xs := ([128, 191, 128, 191, 128, 191] : List Int)) [.int .i64 128, .int .i64 191, .int .i64 128, .int .i64 191, .int .i64 128, .int .i64 191] bs_46_6 rfl (by kernel_rfl) rfl rfl rfl rfl fun gb32 h33 => ?_) gn
          refine wl_v 1 rfl (v_assign rfl) gn rfl ?_
          refine wl_v 2 rfl (v_assign rfl) gn rfl ?_
          refine w_end 3 rfl ?_
          refine g_retR (c := q83c55) [.slice (some ⟨gb32, 0, none⟩) 6 6, .bool true] rfl Tryd.func83 rfl (.tmp rfl (.tmp rfl (.nil))) fun wr hLr => ?_
          have hMr : B.Loc w wr [.own (.slice (some ⟨gb32, 0, none⟩) 6 6) 3 1 6 (([128, 191, 128, 191, 128, 191] : List Int).flatMap (eI .i64))] [St w []] := hLr.pick (rest := []) (perm_of_idx [0] [] rfl rfl (by kernel_rfl)) (sels [1] rfl)
          show trellisref25_Ranges_R w F  r (.returned (packV [.slice (some ⟨gb32, 0, none⟩) 6 6, .bool true])) wr
          rw [h]
          exact ⟨(some ⟨gb32, 0, none⟩), 6, 6, rfl, hMr, h33⟩
  refine g_region (c := q83c12) rfl rfl ?_
  refine wl_v 0 rfl (v_move rfl) gn rfl ?_
  refine wl_v 1 rfl (v_bin rfl rfl rfl) gn rfl ?_
  refine wl_v 2 rfl (v_move rfl) gn rfl ?_
  by_cases hp34 : x1 < 194
  ·have h := if_pos' hp34 h
   refine w_bool 10 rfl ((decide_eq_true hp34)) ?_
   refine wl_pass 3 rfl (ps 10 rfl rfl rfl) ?_
   refine wl_pass 4 rfl (ps 10 rfl rfl rfl) ?_
   refine wl_v 5 rfl (v_pick (b := true) rfl rfl) gn rfl ?_
   refine wl_v 6 rfl (v_assign rfl) gn rfl ?_
   refine w_end 7 rfl ?_
   exact g_go [0, 1] (j1 true h) ⟨rfl, rfl, trivial⟩ (.slnil) rfl
  ·have h := if_neg' hp34 h
   refine w_bool 10 rfl ((decide_eq_false hp34)) ?_
   refine wl_v 3 rfl (v_move rfl) (gy 10 rfl rfl) rfl ?_
   refine wl_v 4 rfl (v_bin rfl rfl rfl) (gy 10 rfl rfl) rfl ?_
   refine wl_v 5 rfl (v_pick (b := false) rfl rfl) gn rfl ?_
   refine wl_v 6 rfl (v_assign rfl) gn rfl ?_
   refine w_end 7 rfl ?_
   exact g_go [0, 1] (j1 (decide (x1 > 244)) h) ⟨rfl, rfl, trivial⟩ (.slnil) rfl
noncomputable abbrev q47c0 : Code := bodyOf Tryd.f47
noncomputable abbrev q47c1 : Code := Code.fst q47c0
noncomputable abbrev q47c2 : Code := Code.snd q47c0
noncomputable abbrev q47c3 : Code := Code.fst q47c2
noncomputable abbrev q47c4 : Code := Code.snd q47c2
noncomputable abbrev q47c5 : Code := Code.fst q47c3
noncomputable abbrev q47c6 : Code := Code.snd q47c3
noncomputable abbrev q47c7 : Code := Code.fst q47c6
noncomputable abbrev q47c8 : Code := Code.snd q47c6
noncomputable abbrev q47c9 : Code := Code.fst q47c7
noncomputable abbrev q47c10 : Code := Code.snd q47c7
noncomputable abbrev q47c11 : Code := Code.fst q47c4
noncomputable abbrev q47c12 : Code := Code.snd q47c4
abbrev trellisref25_Reader_stop_R (w : World) (F : Nat → Prop) (g2 : Nat) (Tb3 : Nat) (r : Int × trellisref25_Reader) : Ending → World → Prop := fun e w' => ∃ A0 : Option Addr, ∃ n0 : Nat, ∃ c0 : Nat, e = .returned (.int .i64 r.1) ∧ B.Loc w w' [.box g2 Tb3 [.string r.2.s, .slice A0 n0 c0, .int .i64 r.2.e, .int .i64 r.2.at_]] [St w [[g2]]] ∧ Rw k_api_JNode w' (Nw w w' F [.box g2 Tb3 [.string r.2.s, .slice A0 n0 c0, .int .i64 r.2.e, .int .i64 r.2.at_]]) A0 n0 c0 r.2.l
noncomputable abbrev trellisref25_Reader_stop_C (w : World) (F : Nat → Prop) (g2 : Nat) (Tb3 : Nat) (r : Int × trellisref25_Reader) : Cx := ⟨Tryd.prog, 47, Tryd.f47, 21, trellisref25_Reader_stop_R w F g2 Tb3 r, w⟩
theorem trellisref25_Reader_stop_calls (w : World) (F : Nat → Prop) (x1 : trellisref25_Reader) (x8 : Int) (x9 : Int) (g2 : Nat) (Tb3 : Nat) (A4 : Option Addr) (n5 : Nat) (c6 : Nat) (h7 : Rw k_api_JNode w F A4 n5 c6 x1.l) (hF : ∀ b, F b → b < w.heap.size ∧ ∀ o ∈ ([[g2]] : List (List Nat)), b ∉ o) (hL0 : B.Loc w w [.box g2 Tb3 [.string x1.s, .slice A4 n5 c6, .int .i64 x1.e, .int .i64 x1.at_]] [Sm w.heap.size F w [[g2]], St w [[g2]]]) (r : Int × trellisref25_Reader) (h : trellisref25_Reader_stop x1 x8 x9 r) : Calls Tryd.prog 47 #[.pointer (some ⟨g2, 0, none⟩), .int .i64 x8, .int .i64 x9] w (trellisref25_Reader_stop_R w F g2 Tb3 r) := by
 unfold trellisref25_Reader_stop at h
 have h7 := Rw.into (bs := [[g2]]) hF h7
 refine calls_of_Loc (vs := [.pointer (some ⟨g2, 0, none⟩), .int .i64 x8, .int .i64 x9]) 21 Tryd.func47 rfl Tryd.ntmps47 rfl hL0 ?_
 show G (trellisref25_Reader_stop_C w F g2 Tb3 r) _ _ _ _
 refine g_seq (c := q47c0) rfl ?_
 refine g_region (c := q47c1) rfl rfl ?_
 refine wl_v 0 rfl (v_assign rfl) gn rfl ?_
 refine w_end 1 rfl ?_
 refine g_seq (c := q47c2) rfl ?_
 refine g_seq (c := q47c3) rfl ?_
 refine g_region (c := q47c5) rfl rfl ?_
 refine wl_v 0 rfl (v_move rfl) gn rfl ?_
 refine wl_v 1 rfl (v_nilCheck rfl) gn rfl ?_
 refine wl_v 2 rfl (v_fldB fo_73_2 rfl) gn rfl ?_
 refine wl_v 3 rfl (v_ldB1 0 ld_34 rfl rfl rfl) gn rfl ?_
 refine wl_v 4 rfl (v_bin rfl rfl rfl) gn rfl ?_
 refine w_end 5 rfl ?_
 by_cases hp10 : x1.e = 0
 ·have h := if_pos' hp10 h
  refine g_true (c := q47c6) rfl _ rfl ((eqi hp10)) ?_
  refine g_seq (c := q47c7) rfl ?_
  refine g_region (c := q47c9) rfl rfl ?_
  refine wl_v 0 rfl (v_move rfl) gn rfl ?_
  refine wl_v 1 rfl (v_move rfl) gn rfl ?_
  refine wl_v 2 rfl (v_nilCheck rfl) gn rfl ?_
  refine wl_v 3 rfl (v_fldB fo_73_2 rfl) gn rfl ?_
  refine wl_s 4 rfl (s_stB (vs := [.int .i64 x8]) (cs' := [.string x1.s, .slice A4 n5 c6, .int .i64 x8, .int .i64 x1.at_]) (M' := [.box g2 Tb3 [.string x1.s, .slice A4 n5 c6, .int .i64 x8, .int .i64 x1.at_]]) 0 sz_34 rfl rfl rfl rfl rfl rfl rfl rfl rfl ?_) gn
  refine w_end 5 rfl ?_
  refine g_region (c := q47c10) rfl rfl ?_
  refine wl_v 0 rfl (v_move rfl) gn rfl ?_
  refine wl_v 1 rfl (v_move rfl) gn rfl ?_
  refine wl_v 2 rfl (v_nilCheck rfl) gn rfl ?_
  refine wl_v 3 rfl (v_fldB fo_73_3 rfl) gn rfl ?_
  refine wl_s 4 rfl (s_stB (vs := [.int .i64 x9]) (cs' := [.string x1.s, .slice A4 n5 c6, .int .i64 x8, .int .i64 x9]) (M' := [.box g2 Tb3 [.string x1.s, .slice A4 n5 c6, .int .i64 x8, .int .i64 x9]]) 0 sz_3 rfl rfl rfl rfl rfl rfl rfl rfl rfl ?_) gn
  refine w_end 5 rfl ?_
  refine g_seq (c := q47c4) rfl ?_
  refine g_region (c := q47c11) rfl rfl ?_
  refine wl_v 0 rfl (v_move rfl) gn rfl ?_
  refine wl_v 1 rfl (v_assign rfl) gn rfl ?_
  refine w_end 2 rfl ?_
  refine g_retR (c := q47c12) [.int .i64 x9] rfl Tryd.func47 rfl (.tmp rfl (.nil)) fun wr hLr => ?_
  have hMr : B.Loc w wr [.box g2 Tb3 [.string x1.s, .slice A4 n5 c6, .int .i64 x8, .int .i64 x9]] [St w [[g2]]] := hLr.pick (rest := []) (perm_of_idx [0] [] rfl rfl (by kernel_rfl)) (sels [1] rfl)
  have hMi : ∀ e ∈ ([.box g2 Tb3 [.string x1.s, .slice A4 n5 c6, .int .i64 x8, .int .i64 x9]] : List Ent), e ∈ ([.box g2 Tb3 [.string x1.s, .slice A4 n5 c6, .int .i64 x8, .int .i64 x9]] : List Ent) := sels [0] rfl
  show trellisref25_Reader_stop_R w F g2 Tb3 r (.returned (packV [.int .i64 x9])) wr
  rw [h]
  exact ⟨A4, n5, c6, rfl, hMr, (hLr.outR (s := Sm w.heap.size F w [[g2]]) hMi (me 0 rfl) Sm.ok h7)⟩
 ·have h := if_neg' hp10 h
  refine g_false (c := q47c6) rfl _ rfl ((nei hp10)) ?_
  refine g_skip (c := q47c8) rfl ?_
  refine g_seq (c := q47c4) rfl ?_
  refine g_region (c := q47c11) rfl rfl ?_
  refine wl_v 0 rfl (v_move rfl) gn rfl ?_
  refine wl_v 1 rfl (v_assign rfl) gn rfl ?_
  refine w_end 2 rfl ?_
  refine g_retR (c := q47c12) [.int .i64 x9] rfl Tryd.func47 rfl (.tmp rfl (.nil)) fun wr hLr => ?_
  have hMr : B.Loc w wr [.box g2 Tb3 [.string x1.s, .slice A4 n5 c6, .int .i64 x1.e, .int .i64 x1.at_]] [St w [[g2]]] := hLr.pick (rest := []) (perm_of_idx [0] [] rfl rfl (by kernel_rfl)) (sels [1] rfl)
  have hMi : ∀ e ∈ ([.box g2 Tb3 [.string x1.s, .slice A4 n5 c6, .int .i64 x1.e, .int .i64 x1.at_]] : List Ent), e ∈ ([.box g2 Tb3 [.string x1.s, .slice A4 n5 c6, .int .i64 x1.e, .int .i64 x1.at_]] : List Ent) := sels [0] rfl
  show trellisref25_Reader_stop_R w F g2 Tb3 r (.returned (packV [.int .i64 x9])) wr
  rw [h]
  exact ⟨A4, n5, c6, rfl, hMr, (hLr.outR (s := Sm w.heap.size F w [[g2]]) hMi (me 0 rfl) Sm.ok h7)⟩
noncomputable abbrev q69c0 : Code := bodyOf Tryd.f69
noncomputable abbrev q69c1 : Code := Code.fst q69c0
noncomputable abbrev q69c2 : Code := Code.snd q69c0
noncomputable abbrev q69c3 : Code := Code.fst q69c2
noncomputable abbrev q69c4 : Code := Code.snd q69c2
noncomputable abbrev q69c5 : Code := Code.fst q69c4
noncomputable abbrev q69c6 : Code := Code.snd q69c4
noncomputable abbrev q69c7 : Code := Code.fst q69c5
noncomputable abbrev q69c8 : Code := Code.snd q69c5
noncomputable abbrev q69c9 : Code := Code.fst q69c8
noncomputable abbrev q69c10 : Code := Code.snd q69c8
noncomputable abbrev q69c11 : Code := Code.fst q69c6
noncomputable abbrev q69c12 : Code := Code.snd q69c6
noncomputable abbrev q69c13 : Code := Code.fst q69c12
noncomputable abbrev q69c14 : Code := Code.snd q69c12
noncomputable abbrev q69c15 : Code := Code.fst q69c13
noncomputable abbrev q69c16 : Code := Code.snd q69c13
noncomputable abbrev q69c17 : Code := Code.fst q69c16
noncomputable abbrev q69c18 : Code := Code.fst q69c17
noncomputable abbrev q69c19 : Code := Code.fst q69c18
noncomputable abbrev q69c20 : Code := Code.snd q69c18
noncomputable abbrev q69c21 : Code := Code.fst q69c19
noncomputable abbrev q69c22 : Code := Code.snd q69c19
noncomputable abbrev q69c23 : Code := Code.fst q69c22
noncomputable abbrev q69c24 : Code := Code.snd q69c22
noncomputable abbrev q69c25 : Code := Code.fst q69c20
noncomputable abbrev q69c26 : Code := Code.snd q69c20
noncomputable abbrev q69c27 : Code := Code.fst q69c25
noncomputable abbrev q69c28 : Code := Code.fst q69c27
noncomputable abbrev q69c29 : Code := Code.snd q69c27
noncomputable abbrev q69c30 : Code := Code.fst q69c28
noncomputable abbrev q69c31 : Code := Code.snd q69c28
noncomputable abbrev q69c32 : Code := Code.fst q69c31
noncomputable abbrev q69c33 : Code := Code.snd q69c31
noncomputable abbrev q69c34 : Code := Code.fst q69c32
noncomputable abbrev q69c35 : Code := Code.snd q69c32
noncomputable abbrev q69c36 : Code := Code.fst q69c14
noncomputable abbrev q69c37 : Code := Code.snd q69c14
noncomputable abbrev q69c38 : Code := Code.fst q69c9
noncomputable abbrev q69c39 : Code := Code.snd q69c9
abbrev trellisref25_Reader_char_R (w : World) (F : Nat → Prop) (g2 : Nat) (Tb3 : Nat) (r : Int × trellisref25_Reader) : Ending → World → Prop := fun e w' => ∃ A0 : Option Addr, ∃ n0 : Nat, ∃ c0 : Nat, e = .returned (.int .i64 r.1) ∧ B.Loc w w' [.box g2 Tb3 [.string r.2.s, .slice A0 n0 c0, .int .i64 r.2.e, .int .i64 r.2.at_]] [St w [[g2]]] ∧ Rw k_api_JNode w' (Nw w w' F [.box g2 Tb3 [.string r.2.s, .slice A0 n0 c0, .int .i64 r.2.e, .int .i64 r.2.at_]]) A0 n0 c0 r.2.l
noncomputable abbrev trellisref25_Reader_char_C (w : World) (F : Nat → Prop) (g2 : Nat) (Tb3 : Nat) (r : Int × trellisref25_Reader) : Cx := ⟨Tryd.prog, 69, Tryd.f69, 73, trellisref25_Reader_char_R w F g2 Tb3 r, w⟩
theorem trellisref25_Reader_char_calls (w : World) (F : Nat → Prop) (x1 : trellisref25_Reader) (x8 : Int) (g2 : Nat) (Tb3 : Nat) (A4 : Option Addr) (n5 : Nat) (c6 : Nat) (h7 : Rw k_api_JNode w F A4 n5 c6 x1.l) (hF : ∀ b, F b → b < w.heap.size ∧ ∀ o ∈ ([[g2]] : List (List Nat)), b ∉ o) (hL0 : B.Loc w w [.box g2 Tb3 [.string x1.s, .slice A4 n5 c6, .int .i64 x1.e, .int .i64 x1.at_]] [Sm w.heap.size F w [[g2]], St w [[g2]]]) (r : Int × trellisref25_Reader) (h : trellisref25_Reader_char x1 x8 r) : Calls Tryd.prog 69 #[.pointer (some ⟨g2, 0, none⟩), .int .i64 x8] w (trellisref25_Reader_char_R w F g2 Tb3 r) := by
 unfold trellisref25_Reader_char at h
 have h7 := Rw.into (bs := [[g2]]) hF h7
 refine calls_of_Loc (vs := [.pointer (some ⟨g2, 0, none⟩), .int .i64 x8]) 73 Tryd.func69 rfl Tryd.ntmps69 rfl hL0 ?_
 show G (trellisref25_Reader_char_C w F g2 Tb3 r) _ _ _ _
 refine g_seq (c := q69c0) rfl ?_
 refine g_region (c := q69c1) rfl rfl ?_
 refine wl_v 0 rfl (v_assign rfl) gn rfl ?_
 refine w_end 1 rfl ?_
 refine g_seq (c := q69c2) rfl ?_
 refine g_region (c := q69c3) rfl rfl ?_
 refine wl_v 0 rfl (v_move rfl) gn rfl ?_
 refine wl_v 1 rfl (v_nilCheck rfl) gn rfl ?_
 refine wl_v 2 rfl (v_fldB fo_73_0 rfl) gn rfl ?_
 refine wl_v 3 rfl (v_ldB1 0 ld_9 rfl rfl rfl) gn rfl ?_
 refine wl_v 4 rfl (v_move rfl) gn rfl ?_
 obtain ⟨hb9, h⟩ := h
 refine wl_v 5 rfl (v_indexS un_9 rfl rfl hb9) gn rfl ?_
 obtain ⟨r13, hv14, h⟩ := h
 refine wl_s 6 rfl (s_call [.int .u8 (bt x1.s x8)] rfl Tryd.func83 rfl rfl rfl fun w10 hL11 => ?_) gn
 have hp12 : List.Perm ([.box g2 Tb3 [.string x1.s, .slice A4 n5 c6, .int .i64 x1.e, .int .i64 x1.at_]] : List Ent) (([] : List Ent) ++ ([.box g2 Tb3 [.string x1.s, .slice A4 n5 c6, .int .i64 x1.e, .int .i64 x1.at_]] : List Ent)) := perm_of_idx [] [0] rfl rfl (by kernel_rfl)
 refine Calls.mono (trellisref25_Ranges_calls w10 (Fl ([] : List Snap)) (bt x1.s x8) (hL11.hFl (Sl := ([] : List Snap)) hp12 (sels [] rfl)) (hL11.into hp12 (Fl ([] : List Snap))) r13 hv14) ?_
 rintro _ w20 ⟨A15, n16, c17, rfl, hM21, h18⟩
 have hL22 := hL11.call hp12 hM21
 refine ⟨_, _, _, rfl, hL22, ?_⟩
 refine wl_v 7 rfl (v_move rfl) gn rfl ?_
 refine wl_v 8 rfl (v_extract rfl rfl) gn rfl ?_
 refine wl_v 9 rfl (v_extract rfl rfl) gn rfl ?_
 refine wl_v 10 rfl (v_assign rfl) gn rfl ?_
 refine wl_v 11 rfl (v_assign rfl) gn rfl ?_
 refine w_end 12 rfl ?_
 refine g_seq (c := q69c4) rfl ?_
 refine g_seq (c := q69c5) rfl ?_
 refine g_region (c := q69c7) rfl rfl ?_
 refine wl_v 0 rfl (v_move rfl) gn rfl ?_
 refine wl_v 1 rfl (v_not rfl) gn rfl ?_
 refine w_end 2 rfl ?_
 by_cases hp23 : r13.2 = true
 ·have h := if_pos' hp23 h
  refine g_false (c := q69c8) rfl _ rfl ((nf hp23)) ?_
  refine g_skip (c := q69c10) rfl ?_
  refine g_seq (c := q69c6) rfl ?_
  refine g_region (c := q69c11) rfl rfl ?_
  refine wl_v 0 rfl (v_move rfl) gn rfl ?_
  refine wl_v 1 rfl (v_bin rfl rfl rfl) gn rfl ?_
  refine wl_v 2 rfl (v_assign rfl) gn rfl ?_
  refine w_end 3 rfl ?_
  refine g_seq (c := q69c12) rfl ?_
  refine g_seq (c := q69c13) rfl ?_
  refine g_region (c := q69c15) rfl rfl ?_
  refine wl_v 0 rfl (v_assign rfl) gn rfl ?_
  refine w_end 1 rfl ?_
  refine g_block (c := q69c16) rfl ?_
  refine g_loop (c := q69c17) rfl ?_
  have key1 : ∀ s, Rounds (fun (s : Int × Int) o => trellisref25_Reader_char_b1 r13 x1 s.1 s.2 o) s r → (fun (s : Int × Int) => ∀ (_ : Unit), G (trellisref25_Reader_char_C w F g2 Tb3 r) [.code q69c18, .inLoop q69c18, .inBlock 0, .code q69c14] [(0, .pointer (some ⟨g2, 0, none⟩)), (1, .int .i64 s.1), (5, .slice A15 n16 c17), (7, .int .i64 s.2)] [.own (.slice A15 n16 c17) 3 1 n16 (r13.1.flatMap (eI .i64)), .box g2 Tb3 [.string x1.s, .slice A4 n5 c6, .int .i64 x1.e, .int .i64 x1.at_]] [Sm w.heap.size F w [[g2]], St w [[g2]]]) s := by
   intro s hs
   refine Rounds.ind (mot := (fun (s : Int × Int) => ∀ (_ : Unit), G (trellisref25_Reader_char_C w F g2 Tb3 r) [.code q69c18, .inLoop q69c18, .inBlock 0, .code q69c14] [(0, .pointer (some ⟨g2, 0, none⟩)), (1, .int .i64 s.1), (5, .slice A15 n16 c17), (7, .int .i64 s.2)] [.own (.slice A15 n16 c17) 3 1 n16 (r13.1.flatMap (eI .i64)), .box g2 Tb3 [.string x1.s, .slice A4 n5 c6, .int .i64 x1.e, .int .i64 x1.at_]] [Sm w.heap.size F w [[g2]], St w [[g2]]])) ?_ hs
   clear hs s
   intro s o1 h hO1
   obtain ⟨x53, x54⟩ := s
   show ∀ (_ : Unit), G (trellisref25_Reader_char_C w F g2 Tb3 r) [.code q69c18, .inLoop q69c18, .inBlock 0, .code q69c14] [(0, .pointer (some ⟨g2, 0, none⟩)), (1, .int .i64 x53), (5, .slice A15 n16 c17), (7, .int .i64 x54)] [.own (.slice A15 n16 c17) 3 1 n16 (r13.1.flatMap (eI .i64)), .box g2 Tb3 [.string x1.s, .slice A4 n5 c6, .int .i64 x1.e, .int .i64 x1.at_]] [Sm w.heap.size F w [[g2]], St w [[g2]]]
   intro _
   have h : trellisref25_Reader_char_b1 r13 x1 x53 x54 o1 := h
   unfold trellisref25_Reader_char_b1 at h
   refine g_seq (c := q69c18) rfl ?_
   refine g_seq (c := q69c19) rfl ?_
   refine g_region (c := q69c21) rfl rfl ?_
   refine wl_v 0 rfl (v_move rfl) gn rfl ?_
   refine wl_v 1 rfl (v_move rfl) gn rfl ?_
   refine wl_v 2 rfl (v_lenQ un_46 rfl (Ow.weak hL11.env.size h18).hq) gn rfl ?_
   refine wl_v 3 rfl (v_bin rfl rfl rfl) gn rfl ?_
   refine w_end 4 rfl ?_
   by_cases hp84 : x54 < (r13.1.length : Int)
   ·have h := if_pos' hp84 h
    refine g_true (c := q69c22) rfl _ rfl ((decide_eq_true hp84)) ?_
    refine g_skip (c := q69c23) rfl ?_
    refine g_seq (c := q69c20) rfl ?_
    refine g_block (c := q69c25) rfl ?_
    refine g_seq (c := q69c27) rfl ?_
    refine g_seq (c := q69c28) rfl ?_
    have j2 : ∀ (x91 : Bool) (h : trellisref25_Reader_char_j2 x1 x53 x54 x91 o1) , G (trellisref25_Reader_char_C w F g2 Tb3 r) [.code q69c31, .code q69c29, .inBlock 1, .code q69c26, .inLoop q69c18, .inBlock 0, .code q69c14] [(0, .pointer (some ⟨g2, 0, none⟩)), (1, .int .i64 x53), (5, .slice A15 n16 c17), (7, .int .i64 x54), (66, .bool x91)] [.own (.slice A15 n16 c17) 3 1 n16 (r13.1.flatMap (eI .i64)), .box g2 Tb3 [.string x1.s, .slice A4 n5 c6, .int .i64 x1.e, .int .i64 x1.at_]] [Sm w.heap.size F w [[g2]], St w [[g2]]] := by
     intro x91 h
     unfold trellisref25_Reader_char_j2 at h
     by_cases hp92 : x91 = true
     ·have h := if_pos' hp92 h
      refine g_true (c := q69c31) rfl _ rfl (hp92) ?_
      refine g_seq (c := q69c32) rfl ?_
      refine g_region (c := q69c34) rfl rfl ?_
      refine wl_v 0 rfl (v_move rfl) gn rfl ?_
      refine wl_v 1 rfl (v_move rfl) gn rfl ?_
      obtain ⟨r96, hv97, h⟩ := h
      refine wl_s 2 rfl (s_call [.pointer (some ⟨g2, 0, none⟩), .int .i64 250, .int .i64 x53] rfl Tryd.func47 rfl rfl rfl fun w93 hL94 => ?_) gn
      have hp95 : List.Perm ([.own (.slice A15 n16 c17) 3 1 n16 (r13.1.flatMap (eI .i64)), .box g2 Tb3 [.string x1.s, .slice A4 n5 c6, .int .i64 x1.e, .int .i64 x1.at_]] : List Ent) (([.box g2 Tb3 [.string x1.s, .slice A4 n5 c6, .int .i64 x1.e, .int .i64 x1.at_]] : List Ent) ++ ([.own (.slice A15 n16 c17) 3 1 n16 (r13.1.flatMap (eI .i64))] : List Ent)) := perm_of_idx [1] [0] rfl rfl (by kernel_rfl)
      refine Calls.mono (trellisref25_Reader_stop_calls w93 (Fl ([Sm w.heap.size F w [[g2]]] : List Snap)) x1 250 x53 g2 Tb3 A4 n5 c6 (Rw.mono h7 (hL94.toFl (me 0 rfl) (me 0 rfl))) (hL94.hFl (Sl := ([Sm w.heap.size F w [[g2]]] : List Snap)) hp95 (sels [0] rfl)) (hL94.into hp95 (Fl ([Sm w.heap.size F w [[g2]]] : List Snap))) r96 hv97) ?_
      rintro _ w102 ⟨A98, n99, c100, rfl, hM103, h101⟩
      obtain ⟨sb106, hL104, hv105⟩ := hL94.callB (Sl := ([Sm w.heap.size F w [[g2]]] : List Snap)) hp95 hM103 F (sels [0] rfl) ⟨Sm.ok, trivial⟩
      have h101 : At k_api_JNode (Sm w.heap.size F w102 sb106) A98 n99 c100 r96.2.l := Rw.mono h101 hv105
      refine ⟨_, _, _, rfl, hL104, ?_⟩
      refine wl_v 3 rfl (v_assign rfl) gn rfl ?_
      refine w_end 4 rfl ?_
      have h := Out.inr hO1 h
      refine g_retR (c := q69c35) [.int .i64 r96.1] rfl Tryd.func69 rfl (.tmp rfl (.nil)) fun wr hLr => ?_
      have hMr : B.Loc w wr [.box g2 Tb3 [.string r96.2.s, .slice A98 n99 c100, .int .i64 r96.2.e, .int .i64 r96.2.at_]] [St w [[g2]]] := hLr.pick (rest := [.own (.slice A15 n16 c17) 3 1 n16 (r13.1.flatMap (eI .i64))]) (perm_of_idx [0] [1] rfl rfl (by kernel_rfl)) (sels [2] rfl)
      have hMi : ∀ e ∈ ([.box g2 Tb3 [.string r96.2.s, .slice A98 n99 c100, .int .i64 r96.2.e, .int .i64 r96.2.at_]] : List Ent), e ∈ ([.box g2 Tb3 [.string r96.2.s, .slice A98 n99 c100, .int .i64 r96.2.e, .int .i64 r96.2.at_], .own (.slice A15 n16 c17) 3 1 n16 (r13.1.flatMap (eI .i64))] : List Ent) := sels [0] rfl
      show trellisref25_Reader_char_R w F g2 Tb3 r (.returned (packV [.int .i64 r96.1])) wr
      rw [h]
      exact ⟨A98, n99, c100, rfl, hMr, (hLr.outR (s := Sm w.heap.size F w102 sb106) hMi (me 0 rfl) Sm.ok h101)⟩
     ·have h := if_neg' hp92 h
      refine g_false (c := q69c31) rfl _ rfl ((bf hp92)) ?_
      refine g_skip (c := q69c33) rfl ?_
      refine g_region (c := q69c29) rfl rfl ?_
      refine wl_v 0 rfl (v_move rfl) gn rfl ?_
      refine wl_v 1 rfl (v_bin rfl rfl rfl) gn rfl ?_
      refine wl_v 2 rfl (v_assign rfl) gn rfl ?_
      refine w_end 3 rfl ?_
      refine g_inBlock ?_
      refine g_region (c := q69c26) rfl rfl ?_
      refine wl_v 0 rfl (v_move rfl) gn rfl ?_
      refine wl_v 1 rfl (v_bin rfl rfl rfl) gn rfl ?_
      refine wl_v 2 rfl (v_assign rfl) gn rfl ?_
      refine w_end 3 rfl ?_
      refine g_inLoop ?_
      have ih := Out.inl hO1 h
      exact g_go [0, 1] (ih ()) ⟨rfl, rfl, rfl, rfl, trivial⟩ (.cons_cons _ (.cons_cons _ (.slnil))) rfl
    by_cases hp107 : x53 ≥ (x1.s.size : Int)
    ·have h := if_pos' hp107 h
     have hns : Region.noSelect (Code.ops q69c30) = true := by kernel_rfl
     refine g_drawF (c := q69c30) [.own (.slice A15 n16 c17) 3 1 n16 (r13.1.flatMap (eI .i64)), .box g2 Tb3 [.string x1.s, .slice A4 n5 c6, .int .i64 x1.e, .int .i64 x1.at_]] [Sm w.heap.size F w [[g2]], St w [[g2]]] [] 36 rfl rfl mix rfl (.cons_cons _ (.cons_cons _ (.slnil))) (sels [0, 1] rfl) ?_
     refine wfv 0 rfl (v_move rfl) gn hns rfl ?_
     refine wfv 1 rfl (v_move rfl) gn hns rfl ?_
     refine wfv 2 rfl (v_nilCheck rfl) gn hns rfl ?_
     refine wfv 3 rfl (v_fldB fo_73_0 rfl) gn hns rfl ?_
     refine wfv 4 rfl (v_ldB1 1 ld_9 rfl rfl rfl) gn hns rfl ?_
     refine wfv 5 rfl (v_lenS un_9 rfl) gn hns rfl ?_
     refine wfv 6 rfl (v_bin rfl rfl rfl) gn hns rfl ?_
     refine wfv 7 rfl (v_move rfl) gn hns rfl ?_
     refine wf_bool 38 rfl ((decide_eq_true hp107)) ?_
     refine wfp 8 rfl (ps 38 rfl rfl rfl) hns rfl ?_
     refine wfp 9 rfl (ps 38 rfl rfl rfl) hns rfl ?_
     refine wfp 10 rfl (ps 38 rfl rfl rfl) hns rfl ?_
     refine wfp 11 rfl (ps 38 rfl rfl rfl) hns rfl ?_
     refine wfp 12 rfl (ps 38 rfl rfl rfl) hns rfl ?_
     refine wfp 13 rfl (ps 38 rfl rfl rfl) hns rfl ?_
     refine wfp 14 rfl (ps 38 rfl rfl rfl) hns rfl ?_
     refine wfp 15 rfl (ps 38 rfl rfl rfl) hns rfl ?_
     refine wfp 16 rfl (ps 38 rfl rfl rfl) hns rfl ?_
     refine wfp 17 rfl (ps 38 rfl rfl rfl) hns rfl ?_
     refine wfp 18 rfl (ps 38 rfl rfl rfl) hns rfl ?_
     refine wfp 19 rfl (ps 38 rfl rfl rfl) hns rfl ?_
     refine wfv 20 rfl (v_pick (b := true) rfl rfl) gn hns rfl ?_
     refine wfv 21 rfl (v_move rfl) gn hns rfl ?_
     refine wfp 22 rfl (ps 52 rfl rfl rfl) hns rfl ?_
     refine wfp 23 rfl (ps 52 rfl rfl rfl) hns rfl ?_
     refine wfp 24 rfl (ps 52 rfl rfl rfl) hns rfl ?_
     refine wfp 25 rfl (ps 52 rfl rfl rfl) hns rfl ?_
     refine wfp 26 rfl (ps 52 rfl rfl rfl) hns rfl ?_
     refine wfp 27 rfl (ps 52 rfl rfl rfl) hns rfl ?_
     refine wfp 28 rfl (ps 52 rfl rfl rfl) hns rfl ?_
     refine wfp 29 rfl (ps 52 rfl rfl rfl) hns rfl ?_
     refine wfp 30 rfl (ps 52 rfl rfl rfl) hns rfl ?_
     refine wfp 31 rfl (ps 52 rfl rfl rfl) hns rfl ?_
     refine wfp 32 rfl (ps 52 rfl rfl rfl) hns rfl ?_
     refine wfp 33 rfl (ps 52 rfl rfl rfl) hns rfl ?_
     refine wfp 34 rfl (ps 52 rfl rfl rfl) hns rfl ?_
     refine wfv 35 rfl (v_pick (b := true) rfl rfl) gn hns rfl ?_
     refine wf_end (by kernel_rfl) ?_
     exact g_go [0, 1] (j2 true h) ⟨rfl, rfl, rfl, rfl, rfl, trivial⟩ (.cons_cons _ (.cons_cons _ (.slnil))) rfl
    ·have h := if_neg' hp107 h
     obtain ⟨hb108, h⟩ := h
     obtain ⟨hb109, h⟩ := h
     by_cases hp110 : w64 (bt x1.s x53) < ix r13.1 x54
     ·have h := if_pos' hp110 h
      have hns : Region.noSelect (Code.ops q69c30) = true := by kernel_rfl
      refine g_drawF (c := q69c30) [.own (.slice A15 n16 c17) 3 1 n16 (r13.1.flatMap (eI .i64)), .box g2 Tb3 [.string x1.s, .slice A4 n5 c6, .int .i64 x1.e, .int .i64 x1.at_]] [Sm w.heap.size F w [[g2]], St w [[g2]]] [] 36 rfl rfl mix rfl (.cons_cons _ (.cons_cons _ (.slnil))) (sels [0, 1] rfl) ?_
      refine wfv 0 rfl (v_move rfl) gn hns rfl ?_
      refine wfv 1 rfl (v_move rfl) gn hns rfl ?_
      refine wfv 2 rfl (v_nilCheck rfl) gn hns rfl ?_
      refine wfv 3 rfl (v_fldB fo_73_0 rfl) gn hns rfl ?_
      refine wfv 4 rfl (v_ldB1 1 ld_9 rfl rfl rfl) gn hns rfl ?_
      refine wfv 5 rfl (v_lenS un_9 rfl) gn hns rfl ?_
      refine wfv 6 rfl (v_bin rfl rfl rfl) gn hns rfl ?_
      refine wfv 7 rfl (v_move rfl) gn hns rfl ?_
      refine wf_bool 38 rfl ((decide_eq_false hp107)) ?_
      refine wfv 8 rfl (v_move rfl) (gy 38 rfl rfl) hns rfl ?_
      refine wfv 9 rfl (v_nilCheck rfl) (gy 38 rfl rfl) hns rfl ?_
      refine wfv 10 rfl (v_fldB fo_73_0 rfl) (gy 38 rfl rfl) hns rfl ?_
      refine wfv 11 rfl (v_ldB1 1 ld_9 rfl rfl rfl) (gy 38 rfl rfl) hns rfl ?_
      refine wfv 12 rfl (v_move rfl) (gy 38 rfl rfl) hns rfl ?_
      refine wfv 13 rfl (v_indexS un_9 rfl rfl hb108) (gy 38 rfl rfl) hns rfl ?_
      refine wfv 14 rfl (v_conv ⟨_, un_5⟩ un_3 rfl) (gy 38 rfl rfl) hns rfl ?_
      refine wfv 15 rfl (v_move rfl) (gy 38 rfl rfl) hns rfl ?_
      refine wfv 16 rfl (v_move rfl) (gy 38 rfl rfl) hns rfl ?_
      refine wfv 17 rfl (v_idxO slE_46 rfl rfl (Ow.weak hL11.env.size h18) hb109) (gy 38 rfl rfl) hns rfl ?_
      refine wfv 18 rfl (v_ldO1 (.int .i64 (ix r13.1 x54)) 0 ld_3 rfl rfl (fm_get0 (hlI .i64) hb109 rfl)) (gy 38 rfl rfl) hns rfl ?_
      refine wfv 19 rfl (v_bin rfl rfl rfl) (gy 38 rfl rfl) hns rfl ?_
      refine wfv 20 rfl (v_pick (b := false) rfl rfl) gn hns rfl ?_
      refine wfv 21 rfl (v_move rfl) gn hns rfl ?_
      refine wf_bool 52 rfl ((decide_eq_true hp110)) ?_
      refine wfp 22 rfl (ps 52 rfl rfl rfl) hns rfl ?_
      refine wfp 23 rfl (ps 52 rfl rfl rfl) hns rfl ?_
      refine wfp 24 rfl (ps 52 rfl rfl rfl) hns rfl ?_
      refine wfp 25 rfl (ps 52 rfl rfl rfl) hns rfl ?_
      refine wfp 26 rfl (ps 52 rfl rfl rfl) hns rfl ?_
      refine wfp 27 rfl (ps 52 rfl rfl rfl) hns rfl ?_
      refine wfp 28 rfl (ps 52 rfl rfl rfl) hns rfl ?_
      refine wfp 29 rfl (ps 52 rfl rfl rfl) hns rfl ?_
      refine wfp 30 rfl (ps 52 rfl rfl rfl) hns rfl ?_
      refine wfp 31 rfl (ps 52 rfl rfl rfl) hns rfl ?_
      refine wfp 32 rfl (ps 52 rfl rfl rfl) hns rfl ?_
      refine wfp 33 rfl (ps 52 rfl rfl rfl) hns rfl ?_
      refine wfp 34 rfl (ps 52 rfl rfl rfl) hns rfl ?_
      refine wfv 35 rfl (v_pick (b := true) rfl rfl) gn hns rfl ?_
      refine wf_end (by kernel_rfl) ?_
      exact g_go [0, 1] (j2 true h) ⟨rfl, rfl, rfl, rfl, rfl, trivial⟩ (.cons_cons _ (.cons_cons _ (.slnil))) rfl
     ·have h := if_neg' hp110 h
      obtain ⟨hb111, h⟩ := h
      have hns : Region.noSelect (Code.ops q69c30) = true := by kernel_rfl
      refine g_drawF (c := q69c30) [.own (.slice A15 n16 c17) 3 1 n16 (r13.1.flatMap (eI .i64)), .box g2 Tb3 [.string x1.s, .slice A4 n5 c6, .int .i64 x1.e, .int .i64 x1.at_]] [Sm w.heap.size F w [[g2]], St w [[g2]]] [] 36 rfl rfl mix rfl (.cons_cons _ (.cons_cons _ (.slnil))) (sels [0, 1] rfl) ?_
      refine wfv 0 rfl (v_move rfl) gn hns rfl ?_
      refine wfv 1 rfl (v_move rfl) gn hns rfl ?_
      refine wfv 2 rfl (v_nilCheck rfl) gn hns rfl ?_
      refine wfv 3 rfl (v_fldB fo_73_0 rfl) gn hns rfl ?_
      refine wfv 4 rfl (v_ldB1 1 ld_9 rfl rfl rfl) gn hns rfl ?_
      refine wfv 5 rfl (v_lenS un_9 rfl) gn hns rfl ?_
      refine wfv 6 rfl (v_bin rfl rfl rfl) gn hns rfl ?_
      refine wfv 7 rfl (v_move rfl) gn hns rfl ?_
      refine wf_bool 38 rfl ((decide_eq_false hp107)) ?_
      refine wfv 8 rfl (v_move rfl) (gy 38 rfl rfl) hns rfl ?_
      refine wfv 9 rfl (v_nilCheck rfl) (gy 38 rfl rfl) hns rfl ?_
      refine wfv 10 rfl (v_fldB fo_73_0 rfl) (gy 38 rfl rfl) hns rfl ?_
      refine wfv 11 rfl (v_ldB1 1 ld_9 rfl rfl rfl) (gy 38 rfl rfl) hns rfl ?_
      refine wfv 12 rfl (v_move rfl) (gy 38 rfl rfl) hns rfl ?_
      refine wfv 13 rfl (v_indexS un_9 rfl rfl hb108) (gy 38 rfl rfl) hns rfl ?_
      refine wfv 14 rfl (v_conv ⟨_, un_5⟩ un_3 rfl) (gy 38 rfl rfl) hns rfl ?_
      refine wfv 15 rfl (v_move rfl) (gy 38 rfl rfl) hns rfl ?_
      refine wfv 16 rfl (v_move rfl) (gy 38 rfl rfl) hns rfl ?_
      refine wfv 17 rfl (v_idxO slE_46 rfl rfl (Ow.weak hL11.env.size h18) hb109) (gy 38 rfl rfl) hns rfl ?_
      refine wfv 18 rfl (v_ldO1 (.int .i64 (ix r13.1 x54)) 0 ld_3 rfl rfl (fm_get0 (hlI .i64) hb109 rfl)) (gy 38 rfl rfl) hns rfl ?_
      refine wfv 19 rfl (v_bin rfl rfl rfl) (gy 38 rfl rfl) hns rfl ?_
      refine wfv 20 rfl (v_pick (b := false) rfl rfl) gn hns rfl ?_
      refine wfv 21 rfl (v_move rfl) gn hns rfl ?_
      refine wf_bool 52 rfl ((decide_eq_false hp110)) ?_
      refine wfv 22 rfl (v_move rfl) (gy 52 rfl rfl) hns rfl ?_
      refine wfv 23 rfl (v_nilCheck rfl) (gy 52 rfl rfl) hns rfl ?_
      refine wfv 24 rfl (v_fldB fo_73_0 rfl) (gy 52 rfl rfl) hns rfl ?_
      refine wfv 25 rfl (v_ldB1 1 ld_9 rfl rfl rfl) (gy 52 rfl rfl) hns rfl ?_
      refine wfv 26 rfl (v_move rfl) (gy 52 rfl rfl) hns rfl ?_
      refine wfv 27 rfl (v_indexS un_9 rfl rfl hb108) (gy 52 rfl rfl) hns rfl ?_
      refine wfv 28 rfl (v_conv ⟨_, un_5⟩ un_3 rfl) (gy 52 rfl rfl) hns rfl ?_
      refine wfv 29 rfl (v_move rfl) (gy 52 rfl rfl) hns rfl ?_
      refine wfv 30 rfl (v_move rfl) (gy 52 rfl rfl) hns rfl ?_
      refine wfv 31 rfl (v_bin rfl rfl rfl) (gy 52 rfl rfl) hns rfl ?_
      refine wfv 32 rfl (v_idxO slE_46 rfl rfl (Ow.weak hL11.env.size h18) hb111) (gy 52 rfl rfl) hns rfl ?_
      refine wfv 33 rfl (v_ldO1 (.int .i64 (ix r13.1 (w64 (x54 + 1)))) 0 ld_3 rfl rfl (fm_get0 (hlI .i64) hb111 rfl)) (gy 52 rfl rfl) hns rfl ?_
      refine wfv 34 rfl (v_bin rfl rfl rfl) (gy 52 rfl rfl) hns rfl ?_
      refine wfv 35 rfl (v_pick (b := false) rfl rfl) gn hns rfl ?_
      refine wf_end (by kernel_rfl) ?_
      exact g_go [0, 1] (j2 (decide (w64 (bt x1.s x53) > ix r13.1 (w64 (x54 + 1)))) h) ⟨rfl, rfl, rfl, rfl, rfl, trivial⟩ (.cons_cons _ (.cons_cons _ (.slnil))) rfl
   ·have h := if_neg' hp84 h
    refine g_false (c := q69c22) rfl _ rfl ((decide_eq_false hp84)) ?_
    refine g_exit (c := q69c24) [.code q69c14] rfl rfl ?_
    refine g_seq (c := q69c14) rfl ?_
    refine g_region (c := q69c36) rfl rfl ?_
    refine wl_v 0 rfl (v_move rfl) gn rfl ?_
    refine wl_v 1 rfl (v_assign rfl) gn rfl ?_
    refine w_end 2 rfl ?_
    have h := Out.inr hO1 h
    refine g_retR (c := q69c37) [.int .i64 x53] rfl Tryd.func69 rfl (.tmp rfl (.nil)) fun wr hLr => ?_
    have hMr : B.Loc w wr [.box g2 Tb3 [.string x1.s, .slice A4 n5 c6, .int .i64 x1.e, .int .i64 x1.at_]] [St w [[g2]]] := hLr.pick (rest := [.own (.slice A15 n16 c17) 3 1 n16 (r13.1.flatMap (eI .i64))]) (perm_of_idx [1] [0] rfl rfl (by kernel_rfl)) (sels [1] rfl)
    have hMi : ∀ e ∈ ([.box g2 Tb3 [.string x1.s, .slice A4 n5 c6, .int .i64 x1.e, .int .i64 x1.at_]] : List Ent), e ∈ ([.own (.slice A15 n16 c17) 3 1 n16 (r13.1.flatMap (eI .i64)), .box g2 Tb3 [.string x1.s, .slice A4 n5 c6, .int .i64 x1.e, .int .i64 x1.at_]] : List Ent) := sels [1] rfl
    show trellisref25_Reader_char_R w F g2 Tb3 r (.returned (packV [.int .i64 x53])) wr
    rw [h]
    exact ⟨A4, n5, c6, rfl, hMr, (hLr.outR (s := Sm w.heap.size F w [[g2]]) hMi (me 0 rfl) Sm.ok h7)⟩
  exact g_go [0, 1] (key1 _ h ()) ⟨rfl, rfl, rfl, rfl, trivial⟩ (.cons_cons _ (.cons_cons _ (.slnil))) rfl
 ·have h := if_neg' hp23 h
  refine g_true (c := q69c8) rfl _ rfl ((nt (bf hp23))) ?_
  refine g_seq (c := q69c9) rfl ?_
  refine g_region (c := q69c38) rfl rfl ?_
  refine wl_v 0 rfl (v_move rfl) gn rfl ?_
  refine wl_v 1 rfl (v_move rfl) gn rfl ?_
  obtain ⟨r115, hv116, h⟩ := h
  refine wl_s 2 rfl (s_call [.pointer (some ⟨g2, 0, none⟩), .int .i64 250, .int .i64 x8] rfl Tryd.func47 rfl rfl rfl fun w112 hL113 => ?_) gn
  have hp114 : List.Perm ([.own (.slice A15 n16 c17) 3 1 n16 (r13.1.flatMap (eI .i64)), .box g2 Tb3 [.string x1.s, .slice A4 n5 c6, .int .i64 x1.e, .int .i64 x1.at_]] : List Ent) (([.box g2 Tb3 [.string x1.s, .slice A4 n5 c6, .int .i64 x1.e, .int .i64 x1.at_]] : List Ent) ++ ([.own (.slice A15 n16 c17) 3 1 n16 (r13.1.flatMap (eI .i64))] : List Ent)) := perm_of_idx [1] [0] rfl rfl (by kernel_rfl)
  refine Calls.mono (trellisref25_Reader_stop_calls w112 (Fl ([Sm w.heap.size F w [[g2]]] : List Snap)) x1 250 x8 g2 Tb3 A4 n5 c6 (Rw.mono h7 (hL113.toFl (me 0 rfl) (me 0 rfl))) (hL113.hFl (Sl := ([Sm w.heap.size F w [[g2]]] : List Snap)) hp114 (sels [0] rfl)) (hL113.into hp114 (Fl ([Sm w.heap.size F w [[g2]]] : List Snap))) r115 hv116) ?_
  rintro _ w121 ⟨A117, n118, c119, rfl, hM122, h120⟩
  obtain ⟨sb125, hL123, hv124⟩ := hL113.callB (Sl := ([Sm w.heap.size F w [[g2]]] : List Snap)) hp114 hM122 F (sels [0] rfl) ⟨Sm.ok, trivial⟩
  have h120 : At k_api_JNode (Sm w.heap.size F w121 sb125) A117 n118 c119 r115.2.l := Rw.mono h120 hv124
  refine ⟨_, _, _, rfl, hL123, ?_⟩
  refine wl_v 3 rfl (v_assign rfl) gn rfl ?_
  refine w_end 4 rfl ?_
  refine g_retR (c := q69c39) [.int .i64 r115.1] rfl Tryd.func69 rfl (.tmp rfl (.nil)) fun wr hLr => ?_
  have hMr : B.Loc w wr [.box g2 Tb3 [.string r115.2.s, .slice A117 n118 c119, .int .i64 r115.2.e, .int .i64 r115.2.at_]] [St w [[g2]]] := hLr.pick (rest := [.own (.slice A15 n16 c17) 3 1 n16 (r13.1.flatMap (eI .i64))]) (perm_of_idx [0] [1] rfl rfl (by kernel_rfl)) (sels [2] rfl)
  have hMi : ∀ e ∈ ([.box g2 Tb3 [.string r115.2.s, .slice A117 n118 c119, .int .i64 r115.2.e, .int .i64 r115.2.at_]] : List Ent), e ∈ ([.box g2 Tb3 [.string r115.2.s, .slice A117 n118 c119, .int .i64 r115.2.e, .int .i64 r115.2.at_], .own (.slice A15 n16 c17) 3 1 n16 (r13.1.flatMap (eI .i64))] : List Ent) := sels [0] rfl
  show trellisref25_Reader_char_R w F g2 Tb3 r (.returned (packV [.int .i64 r115.1])) wr
  rw [h]
  exact ⟨A117, n118, c119, rfl, hMr, (hLr.outR (s := Sm w.heap.size F w121 sb125) hMi (me 0 rfl) Sm.ok h120)⟩
noncomputable abbrev q53c0 : Code := bodyOf Tryd.f53
noncomputable abbrev q53c1 : Code := Code.fst q53c0
noncomputable abbrev q53c2 : Code := Code.snd q53c0
noncomputable abbrev q53c3 : Code := Code.fst q53c2
noncomputable abbrev q53c4 : Code := Code.snd q53c2
noncomputable abbrev q53c5 : Code := Code.fst q53c4
noncomputable abbrev q53c6 : Code := Code.snd q53c4
noncomputable abbrev q53c7 : Code := Code.fst q53c5
noncomputable abbrev q53c8 : Code := Code.snd q53c5
noncomputable abbrev q53c9 : Code := Code.fst q53c8
noncomputable abbrev q53c10 : Code := Code.fst q53c9
noncomputable abbrev q53c11 : Code := Code.fst q53c10
noncomputable abbrev q53c12 : Code := Code.snd q53c10
noncomputable abbrev q53c13 : Code := Code.fst q53c11
noncomputable abbrev q53c14 : Code := Code.snd q53c11
noncomputable abbrev q53c15 : Code := Code.fst q53c14
noncomputable abbrev q53c16 : Code := Code.snd q53c14
noncomputable abbrev q53c17 : Code := Code.fst q53c12
noncomputable abbrev q53c18 : Code := Code.fst q53c6
noncomputable abbrev q53c19 : Code := Code.snd q53c6
abbrev trellisref25_Valid_R (w : World) (F : Nat → Prop) (r : Bool) : Ending → World → Prop := fun e w' => e = .returned (.bool r) ∧ B.Loc w w' [] [St w []]
noncomputable abbrev trellisref25_Valid_C (w : World) (F : Nat → Prop) (r : Bool) : Cx := ⟨Tryd.prog, 53, Tryd.f53, 27, trellisref25_Valid_R w F  r, w⟩
theorem trellisref25_Valid_calls (w : World) (F : Nat → Prop) (x1 : ByteArray) (hF : ∀ b, F b → b < w.heap.size ∧ ∀ o ∈ ([] : List (List Nat)), b ∉ o) (hL0 : B.Loc w w [] [Sm w.heap.size F w [], St w []]) (r : Bool) (h : trellisref25_Valid x1 r) : Calls Tryd.prog 53 #[.string x1] w (trellisref25_Valid_R w F  r) := by
 unfold trellisref25_Valid at h
 refine calls_of_Loc (vs := [.string x1]) 27 Tryd.func53 rfl Tryd.ntmps53 rfl hL0 ?_
 show G (trellisref25_Valid_C w F r) _ _ _ _
 refine g_seq (c := q53c0) rfl ?_
 refine g_region (c := q53c1) rfl rfl ?_
 refine wl_v 0 rfl (v_assign rfl) gn rfl ?_
 refine w_end 1 rfl ?_
 refine g_seq (c := q53c2) rfl ?_
 refine g_region (c := q53c3) rfl rfl ?_
 refine wl_v 0 rfl (v_move rfl) gn rfl ?_
 refine wl_v 1 rfl (v_build #[.string x1, .slice none 0 0, .int .i64 0, .int .i64 0] bd_73 rfl (by kernel_rfl)) gn rfl ?_
 refine wl_s 2 rfl (s_box [.string x1, .slice none 0 0, .int .i64 0, .int .i64 0] rfl rfl rfl fun gb2 => ?_) gn
 refine wl_v 3 rfl (v_assign rfl) gn rfl ?_
 refine w_end 4 rfl ?_
 refine g_seq (c := q53c4) rfl ?_
 refine g_seq (c := q53c5) rfl ?_
 refine g_region (c := q53c7) rfl rfl ?_
 refine wl_v 0 rfl (v_assign rfl) gn rfl ?_
 refine w_end 1 rfl ?_
 refine g_block (c := q53c8) rfl ?_
 refine g_loop (c := q53c9) rfl ?_
 have key1 : ∀ s, Rounds (fun (s : Int × ByteArray × (List api_JNode) × Int × Int) o => trellisref25_Valid_b1 x1 s.1 s.2.1 s.2.2.1 s.2.2.2.1 s.2.2.2.2 o) s r → (fun (s : Int × ByteArray × (List api_JNode) × Int × Int) => ∀ (A23 : Option Addr) (n24 : Nat) (c25 : Nat) (sw26 : World) (sb27 : List (List Nat)) (h28 : At k_api_JNode (Sm w.heap.size F sw26 sb27) A23 n24 c25 s.2.2.1), G (trellisref25_Valid_C w F r) [.code q53c10, .inLoop q53c10, .inBlock 0, .code q53c6] [(0, .string x1), (3, .pointer (some ⟨gb2, 0, none⟩)), (4, .int .i64 s.1)] [.box gb2 73 [.string s.2.1, .slice A23 n24 c25, .int .i64 s.2.2.2.1, .int .i64 s.2.2.2.2]] [Sm w.heap.size F sw26 sb27, Sm w.heap.size F w [], St w []]) s := by
  intro s hs
  refine Rounds.ind (mot := (fun (s : Int × ByteArray × (List api_JNode) × Int × Int) => ∀ (A23 : Option Addr) (n24 : Nat) (c25 : Nat) (sw26 : World) (sb27 : List (List Nat)) (h28 : At k_api_JNode (Sm w.heap.size F sw26 sb27) A23 n24 c25 s.2.2.1), G (trellisref25_Valid_C w F r) [.code q53c10, .inLoop q53c10, .inBlock 0, .code q53c6] [(0, .string x1), (3, .pointer (some ⟨gb2, 0, none⟩)), (4, .int .i64 s.1)] [.box gb2 73 [.string s.2.1, .slice A23 n24 c25, .int .i64 s.2.2.2.1, .int .i64 s.2.2.2.2]] [Sm w.heap.size F sw26 sb27, Sm w.heap.size F w [], St w []])) ?_ hs
  clear hs s
  intro s o1 h hO1
  obtain ⟨x20, x21, x22, x29, x30⟩ := s
  show ∀ (A23 : Option Addr) (n24 : Nat) (c25 : Nat) (sw26 : World) (sb27 : List (List Nat)) (h28 : At k_api_JNode (Sm w.heap.size F sw26 sb27) A23 n24 c25 x22), G (trellisref25_Valid_C w F r) [.code q53c10, .inLoop q53c10, .inBlock 0, .code q53c6] [(0, .string x1), (3, .pointer (some ⟨gb2, 0, none⟩)), (4, .int .i64 x20)] [.box gb2 73 [.string x21, .slice A23 n24 c25, .int .i64 x29, .int .i64 x30]] [Sm w.heap.size F sw26 sb27, Sm w.heap.size F w [], St w []]
  intro A23 n24 c25 sw26 sb27 h28
  have h : trellisref25_Valid_b1 x1 x20 x21 x22 x29 x30 o1 := h
  unfold trellisref25_Valid_b1 at h
  refine g_seq (c := q53c10) rfl ?_
  refine g_seq (c := q53c11) rfl ?_
  refine g_region (c := q53c13) rfl rfl ?_
  refine wl_v 0 rfl (v_move rfl) gn rfl ?_
  refine wl_v 1 rfl (v_move rfl) gn rfl ?_
  refine wl_v 2 rfl (v_lenS un_9 rfl) gn rfl ?_
  refine wl_v 3 rfl (v_bin rfl rfl rfl) gn rfl ?_
  refine wl_v 4 rfl (v_move rfl) gn rfl ?_
  by_cases hp47 : x20 < (x1.size : Int)
  ·have h := if_pos' hp47 h
   refine w_bool 12 rfl ((decide_eq_true hp47)) ?_
   refine wl_v 5 rfl (v_move rfl) (gy 12 rfl rfl) rfl ?_
   refine wl_v 6 rfl (v_nilCheck rfl) (gy 12 rfl rfl) rfl ?_
   refine wl_v 7 rfl (v_fldB fo_73_2 rfl) (gy 12 rfl rfl) rfl ?_
   refine wl_v 8 rfl (v_ldB1 0 ld_34 rfl rfl rfl) (gy 12 rfl rfl) rfl ?_
   refine wl_v 9 rfl (v_bin rfl rfl rfl) (gy 12 rfl rfl) rfl ?_
   refine wl_v 10 rfl (v_pick (b := true) rfl rfl) gn rfl ?_
   refine w_end 11 rfl ?_
   by_cases hp48 : x29 = 0
   ·have h := if_pos' hp48 h
    refine g_true (c := q53c14) rfl _ rfl ((eqi hp48)) ?_
    refine g_skip (c := q53c15) rfl ?_
    refine g_block (c := q53c12) rfl ?_
    refine g_region (c := q53c17) rfl rfl ?_
    refine wl_v 0 rfl (v_move rfl) gn rfl ?_
    refine wl_v 1 rfl (v_move rfl) gn rfl ?_
    obtain ⟨r52, hv53, h⟩ := h
    refine wl_s 2 rfl (s_call [.pointer (some ⟨gb2, 0, none⟩), .int .i64 x20] rfl Tryd.func69 rfl rfl rfl fun w49 hL50 => ?_) gn
    have hp51 : List.Perm ([.box gb2 73 [.string x21, .slice A23 n24 c25, .int .i64 x29, .int .i64 x30]] : List Ent) (([.box gb2 73 [.string x21, .slice A23 n24 c25, .int .i64 x29, .int .i64 x30]] : List Ent) ++ ([] : List Ent)) := perm_of_idx [0] [] rfl rfl (by kernel_rfl)
    refine Calls.mono (trellisref25_Reader_char_calls w49 (Fl ([Sm w.heap.size F sw26 sb27] : List Snap)) (⟨x21, x22, x29, x30⟩ : trellisref25_Reader) x20 gb2 73 A23 n24 c25 (Rw.mono h28 (hL50.toFl (me 0 rfl) (me 0 rfl))) (hL50.hFl (Sl := ([Sm w.heap.size F sw26 sb27] : List Snap)) hp51 (sels [0] rfl)) (hL50.into hp51 (Fl ([Sm w.heap.size F sw26 sb27] : List Snap))) r52 hv53) ?_
    rintro _ w58 ⟨A54, n55, c56, rfl, hM59, h57⟩
    obtain ⟨sb62, hL60, hv61⟩ := hL50.callB (Sl := ([Sm w.heap.size F sw26 sb27] : List Snap)) hp51 hM59 F (sels [0] rfl) ⟨Sm.ok, trivial⟩
    have h57 : At k_api_JNode (Sm w.heap.size F w58 sb62) A54 n55 c56 r52.2.l := Rw.mono h57 hv61
    refine ⟨_, _, _, rfl, hL60, ?_⟩
    refine wl_v 3 rfl (v_assign rfl) gn rfl ?_
    refine w_end 4 rfl ?_
    refine g_inBlock ?_
    refine g_inLoop ?_
    have ih := Out.inl hO1 h
    exact g_go [0, 2, 3] (ih A54 n55 c56 w58 sb62 h57) ⟨rfl, rfl, rfl, trivial⟩ (.cons_cons _ (.slnil)) rfl
   ·have h := if_neg' hp48 h
    refine g_false (c := q53c14) rfl _ rfl ((nei hp48)) ?_
    refine g_exit (c := q53c16) [.code q53c6] rfl rfl ?_
    refine g_seq (c := q53c6) rfl ?_
    refine g_region (c := q53c18) rfl rfl ?_
    refine wl_v 0 rfl (v_move rfl) gn rfl ?_
    refine wl_v 1 rfl (v_nilCheck rfl) gn rfl ?_
    refine wl_v 2 rfl (v_fldB fo_73_2 rfl) gn rfl ?_
    refine wl_v 3 rfl (v_ldB1 0 ld_34 rfl rfl rfl) gn rfl ?_
    refine wl_v 4 rfl (v_bin rfl rfl rfl) gn rfl ?_
    refine wl_v 5 rfl (v_assign rfl) gn rfl ?_
    refine w_end 6 rfl ?_
    have h := Out.inr hO1 h
    refine g_retR (c := q53c19) [.bool (x29 == 0)] rfl Tryd.func53 rfl (.tmp rfl (.nil)) fun wr hLr => ?_
    have hMr : B.Loc w wr [] [St w []] := hLr.pick0 (sels [2] rfl)
    show trellisref25_Valid_R w F  r (.returned (packV [.bool (x29 == 0)])) wr
    rw [h]
    exact ⟨rfl, hMr⟩
  ·have h := if_neg' hp47 h
   refine w_bool 12 rfl ((decide_eq_false hp47)) ?_
   refine wl_pass 5 rfl (ps 12 rfl rfl rfl) ?_
   refine wl_pass 6 rfl (ps 12 rfl rfl rfl) ?_
   refine wl_pass 7 rfl (ps 12 rfl rfl rfl) ?_
   refine wl_pass 8 rfl (ps 12 rfl rfl rfl) ?_
   refine wl_pass 9 rfl (ps 12 rfl rfl rfl) ?_
   refine wl_v 10 rfl (v_pick (b := false) rfl rfl) gn rfl ?_
   refine w_end 11 rfl ?_
   refine g_false (c := q53c14) rfl _ rfl (rfl) ?_
   refine g_exit (c := q53c16) [.code q53c6] rfl rfl ?_
   refine g_seq (c := q53c6) rfl ?_
   refine g_region (c := q53c18) rfl rfl ?_
   refine wl_v 0 rfl (v_move rfl) gn rfl ?_
   refine wl_v 1 rfl (v_nilCheck rfl) gn rfl ?_
   refine wl_v 2 rfl (v_fldB fo_73_2 rfl) gn rfl ?_
   refine wl_v 3 rfl (v_ldB1 0 ld_34 rfl rfl rfl) gn rfl ?_
   refine wl_v 4 rfl (v_bin rfl rfl rfl) gn rfl ?_
   refine wl_v 5 rfl (v_assign rfl) gn rfl ?_
   refine w_end 6 rfl ?_
   have h := Out.inr hO1 h
   refine g_retR (c := q53c19) [.bool (x29 == 0)] rfl Tryd.func53 rfl (.tmp rfl (.nil)) fun wr hLr => ?_
   have hMr : B.Loc w wr [] [St w []] := hLr.pick0 (sels [2] rfl)
   show trellisref25_Valid_R w F  r (.returned (packV [.bool (x29 == 0)])) wr
   rw [h]
   exact ⟨rfl, hMr⟩
 exact g_go [0, 0, 1] (key1 _ h none 0 0 w [] Rw.nil) ⟨rfl, rfl, rfl, trivial⟩ (.cons_cons _ (.slnil)) rfl
noncomputable abbrev q60c0 : Code := bodyOf Tryd.f60
noncomputable abbrev q60c1 : Code := Code.fst q60c0
noncomputable abbrev q60c2 : Code := Code.snd q60c0
noncomputable abbrev q60c3 : Code := Code.fst q60c2
noncomputable abbrev q60c4 : Code := Code.snd q60c2
noncomputable abbrev q60c5 : Code := Code.fst q60c3
noncomputable abbrev q60c6 : Code := Code.snd q60c3
noncomputable abbrev q60c7 : Code := Code.fst q60c6
noncomputable abbrev q60c8 : Code := Code.snd q60c6
noncomputable abbrev q60c9 : Code := Code.fst q60c7
noncomputable abbrev q60c10 : Code := Code.snd q60c7
noncomputable abbrev q60c11 : Code := Code.fst q60c4
noncomputable abbrev q60c12 : Code := Code.snd q60c4
noncomputable abbrev q60c13 : Code := Code.fst q60c11
noncomputable abbrev q60c14 : Code := Code.snd q60c11
noncomputable abbrev q60c15 : Code := Code.fst q60c14
noncomputable abbrev q60c16 : Code := Code.fst q60c15
noncomputable abbrev q60c17 : Code := Code.fst q60c16
noncomputable abbrev q60c18 : Code := Code.snd q60c16
noncomputable abbrev q60c19 : Code := Code.fst q60c17
noncomputable abbrev q60c20 : Code := Code.snd q60c17
noncomputable abbrev q60c21 : Code := Code.fst q60c20
noncomputable abbrev q60c22 : Code := Code.snd q60c20
noncomputable abbrev q60c23 : Code := Code.fst q60c18
noncomputable abbrev q60c24 : Code := Code.snd q60c18
noncomputable abbrev q60c25 : Code := Code.fst q60c23
noncomputable abbrev q60c26 : Code := Code.fst q60c25
noncomputable abbrev q60c27 : Code := Code.snd q60c25
noncomputable abbrev q60c28 : Code := Code.fst q60c27
noncomputable abbrev q60c29 : Code := Code.snd q60c27
noncomputable abbrev q60c30 : Code := Code.fst q60c28
noncomputable abbrev q60c31 : Code := Code.snd q60c28
noncomputable abbrev q60c32 : Code := Code.fst q60c12
noncomputable abbrev q60c33 : Code := Code.snd q60c12
abbrev trellisref25_Reader_has_R (w : World) (F : Nat → Prop) (g2 : Nat) (Tb3 : Nat) (r : Bool × trellisref25_Reader) : Ending → World → Prop := fun e w' => ∃ A0 : Option Addr, ∃ n0 : Nat, ∃ c0 : Nat, e = .returned (.bool r.1) ∧ B.Loc w w' [.box g2 Tb3 [.string r.2.s, .slice A0 n0 c0, .int .i64 r.2.e, .int .i64 r.2.at_]] [St w [[g2]]] ∧ Rw k_api_JNode w' (Nw w w' F [.box g2 Tb3 [.string r.2.s, .slice A0 n0 c0, .int .i64 r.2.e, .int .i64 r.2.at_]]) A0 n0 c0 r.2.l
noncomputable abbrev trellisref25_Reader_has_C (w : World) (F : Nat → Prop) (g2 : Nat) (Tb3 : Nat) (r : Bool × trellisref25_Reader) : Cx := ⟨Tryd.prog, 60, Tryd.f60, 31, trellisref25_Reader_has_R w F g2 Tb3 r, w⟩
theorem trellisref25_Reader_has_calls (w : World) (F : Nat → Prop) (x1 : trellisref25_Reader) (x8 : Int) (x9 : ByteArray) (g2 : Nat) (Tb3 : Nat) (A4 : Option Addr) (n5 : Nat) (c6 : Nat) (h7 : Rw k_api_JNode w F A4 n5 c6 x1.l) (hF : ∀ b, F b → b < w.heap.size ∧ ∀ o ∈ ([[g2]] : List (List Nat)), b ∉ o) (hL0 : B.Loc w w [.box g2 Tb3 [.string x1.s, .slice A4 n5 c6, .int .i64 x1.e, .int .i64 x1.at_]] [Sm w.heap.size F w [[g2]], St w [[g2]]]) (r : Bool × trellisref25_Reader) (h : trellisref25_Reader_has x1 x8 x9 r) : Calls Tryd.prog 60 #[.pointer (some ⟨g2, 0, none⟩), .int .i64 x8, .string x9] w (trellisref25_Reader_has_R w F g2 Tb3 r) := by
 unfold trellisref25_Reader_has at h
 have h7 := Rw.into (bs := [[g2]]) hF h7
 refine calls_of_Loc (vs := [.pointer (some ⟨g2, 0, none⟩), .int .i64 x8, .string x9]) 31 Tryd.func60 rfl Tryd.ntmps60 rfl hL0 ?_
 show G (trellisref25_Reader_has_C w F g2 Tb3 r) _ _ _ _
 refine g_seq (c := q60c0) rfl ?_
 refine g_region (c := q60c1) rfl rfl ?_
 refine wl_v 0 rfl (v_assign rfl) gn rfl ?_
 refine w_end 1 rfl ?_
 refine g_seq (c := q60c2) rfl ?_
 refine g_seq (c := q60c3) rfl ?_
 refine g_region (c := q60c5) rfl rfl ?_
 refine wl_v 0 rfl (v_move rfl) gn rfl ?_
 refine wl_v 1 rfl (v_move rfl) gn rfl ?_
 refine wl_v 2 rfl (v_nilCheck rfl) gn rfl ?_
 refine wl_v 3 rfl (v_fldB fo_73_0 rfl) gn rfl ?_
 refine wl_v 4 rfl (v_ldB1 0 ld_9 rfl rfl rfl) gn rfl ?_
 refine wl_v 5 rfl (v_lenS un_9 rfl) gn rfl ?_
 refine wl_v 6 rfl (v_bin rfl rfl rfl) gn rfl ?_
 refine w_end 7 rfl ?_
 by_cases hp10 : x8 ≥ (x1.s.size : Int)
 ·have h := if_pos' hp10 h
  refine g_true (c := q60c6) rfl _ rfl ((decide_eq_true hp10)) ?_
  refine g_seq (c := q60c7) rfl ?_
  refine g_region (c := q60c9) rfl rfl ?_
  refine wl_v 0 rfl (v_assign rfl) gn rfl ?_
  refine w_end 1 rfl ?_
  refine g_retR (c := q60c10) [.bool false] rfl Tryd.func60 rfl (.tmp rfl (.nil)) fun wr hLr => ?_
  have hMr : B.Loc w wr [.box g2 Tb3 [.string x1.s, .slice A4 n5 c6, .int .i64 x1.e, .int .i64 x1.at_]] [St w [[g2]]] := hLr.pick (rest := []) (perm_of_idx [0] [] rfl rfl (by kernel_rfl)) (sels [1] rfl)
  have hMi : ∀ e ∈ ([.box g2 Tb3 [.string x1.s, .slice A4 n5 c6, .int .i64 x1.e, .int .i64 x1.at_]] : List Ent), e ∈ ([.box g2 Tb3 [.string x1.s, .slice A4 n5 c6, .int .i64 x1.e, .int .i64 x1.at_]] : List Ent) := sels [0] rfl
  show trellisref25_Reader_has_R w F g2 Tb3 r (.returned (packV [.bool false])) wr
  rw [h]
  exact ⟨A4, n5, c6, rfl, hMr, (hLr.outR (s := Sm w.heap.size F w [[g2]]) hMi (me 0 rfl) Sm.ok h7)⟩
 ·have h := if_neg' hp10 h
  refine g_false (c := q60c6) rfl _ rfl ((decide_eq_false hp10)) ?_
  refine g_skip (c := q60c8) rfl ?_
  refine g_seq (c := q60c4) rfl ?_
  refine g_seq (c := q60c11) rfl ?_
  refine g_region (c := q60c13) rfl rfl ?_
  refine wl_v 0 rfl (v_assign rfl) gn rfl ?_
  refine w_end 1 rfl ?_
  refine g_block (c := q60c14) rfl ?_
  refine g_loop (c := q60c15) rfl ?_
  have key1 : ∀ s, Rounds (fun (s : Int) o => trellisref25_Reader_has_b1 x9 x8 x1 s o) s r → (fun (s : Int) => ∀ (_ : Unit), G (trellisref25_Reader_has_C w F g2 Tb3 r) [.code q60c16, .inLoop q60c16, .inBlock 0, .code q60c12] [(0, .pointer (some ⟨g2, 0, none⟩)), (1, .int .i64 x8), (2, .string x9), (7, .int .i64 s)] [.box g2 Tb3 [.string x1.s, .slice A4 n5 c6, .int .i64 x1.e, .int .i64 x1.at_]] [Sm w.heap.size F w [[g2]], St w [[g2]]]) s := by
   intro s hs
   refine Rounds.ind (mot := (fun (s : Int) => ∀ (_ : Unit), G (trellisref25_Reader_has_C w F g2 Tb3 r) [.code q60c16, .inLoop q60c16, .inBlock 0, .code q60c12] [(0, .pointer (some ⟨g2, 0, none⟩)), (1, .int .i64 x8), (2, .string x9), (7, .int .i64 s)] [.box g2 Tb3 [.string x1.s, .slice A4 n5 c6, .int .i64 x1.e, .int .i64 x1.at_]] [Sm w.heap.size F w [[g2]], St w [[g2]]])) ?_ hs
   clear hs s
   intro x16 o1 h hO1
   show ∀ (_ : Unit), G (trellisref25_Reader_has_C w F g2 Tb3 r) [.code q60c16, .inLoop q60c16, .inBlock 0, .code q60c12] [(0, .pointer (some ⟨g2, 0, none⟩)), (1, .int .i64 x8), (2, .string x9), (7, .int .i64 x16)] [.box g2 Tb3 [.string x1.s, .slice A4 n5 c6, .int .i64 x1.e, .int .i64 x1.at_]] [Sm w.heap.size F w [[g2]], St w [[g2]]]
   intro _
   have h : trellisref25_Reader_has_b1 x9 x8 x1 x16 o1 := h
   unfold trellisref25_Reader_has_b1 at h
   refine g_seq (c := q60c16) rfl ?_
   refine g_seq (c := q60c17) rfl ?_
   refine g_region (c := q60c19) rfl rfl ?_
   refine wl_v 0 rfl (v_move rfl) gn rfl ?_
   refine wl_v 1 rfl (v_move rfl) gn rfl ?_
   refine wl_v 2 rfl (v_lenS un_9 rfl) gn rfl ?_
   refine wl_v 3 rfl (v_bin rfl rfl rfl) gn rfl ?_
   refine w_end 4 rfl ?_
   by_cases hp21 : x16 < (x9.size : Int)
   ·have h := if_pos' hp21 h
    refine g_true (c := q60c20) rfl _ rfl ((decide_eq_true hp21)) ?_
    refine g_skip (c := q60c21) rfl ?_
    refine g_seq (c := q60c18) rfl ?_
    refine g_block (c := q60c23) rfl ?_
    refine g_seq (c := q60c25) rfl ?_
    obtain ⟨hb22, h⟩ := h
    obtain ⟨hb23, h⟩ := h
    have hns : Region.noSelect (Code.ops q60c26) = true := by kernel_rfl
    refine g_drawF (c := q60c26) [.box g2 Tb3 [.string x1.s, .slice A4 n5 c6, .int .i64 x1.e, .int .i64 x1.at_]] [Sm w.heap.size F w [[g2]], St w [[g2]]] [] 10 rfl rfl mix rfl (.cons_cons _ (.slnil)) (sels [0, 1] rfl) ?_
    refine wfv 0 rfl (v_move rfl) gn hns rfl ?_
    refine wfv 1 rfl (v_move rfl) gn hns rfl ?_
    refine wfv 2 rfl (v_indexS un_9 rfl rfl hb22) gn hns rfl ?_
    refine wfv 3 rfl (v_move rfl) gn hns rfl ?_
    refine wfv 4 rfl (v_nilCheck rfl) gn hns rfl ?_
    refine wfv 5 rfl (v_fldB fo_73_0 rfl) gn hns rfl ?_
    refine wfv 6 rfl (v_ldB1 0 ld_9 rfl rfl rfl) gn hns rfl ?_
    refine wfv 7 rfl (v_move rfl) gn hns rfl ?_
    refine wfv 8 rfl (v_indexS un_9 rfl rfl hb23) gn hns rfl ?_
    refine wfv 9 rfl (v_bin rfl rfl rfl) gn hns rfl ?_
    refine wf_end (by kernel_rfl) ?_
    by_cases hp24 : bt x9 x16 = bt x1.s x8
    ·have h := if_pos' hp24 h
     refine g_true (c := q60c27) rfl _ rfl ((eqi hp24)) ?_
     refine g_seq (c := q60c28) rfl ?_
     refine g_region (c := q60c30) rfl rfl ?_
     refine wl_v 0 rfl (v_assign rfl) gn rfl ?_
     refine w_end 1 rfl ?_
     have h := Out.inr hO1 h
     refine g_retR (c := q60c31) [.bool true] rfl Tryd.func60 rfl (.tmp rfl (.nil)) fun wr hLr => ?_
     have hMr : B.Loc w wr [.box g2 Tb3 [.string x1.s, .slice A4 n5 c6, .int .i64 x1.e, .int .i64 x1.at_]] [St w [[g2]]] := hLr.pick (rest := []) (perm_of_idx [0] [] rfl rfl (by kernel_rfl)) (sels [1] rfl)
     have hMi : ∀ e ∈ ([.box g2 Tb3 [.string x1.s, .slice A4 n5 c6, .int .i64 x1.e, .int .i64 x1.at_]] : List Ent), e ∈ ([.box g2 Tb3 [.string x1.s, .slice A4 n5 c6, .int .i64 x1.e, .int .i64 x1.at_]] : List Ent) := sels [0] rfl
     show trellisref25_Reader_has_R w F g2 Tb3 r (.returned (packV [.bool true])) wr
     rw [h]
     exact ⟨A4, n5, c6, rfl, hMr, (hLr.outR (s := Sm w.heap.size F w [[g2]]) hMi (me 0 rfl) Sm.ok h7)⟩
    ·have h := if_neg' hp24 h
     refine g_false (c := q60c27) rfl _ rfl ((nei hp24)) ?_
     refine g_skip (c := q60c29) rfl ?_
     refine g_inBlock ?_
     refine g_region (c := q60c24) rfl rfl ?_
     refine wl_v 0 rfl (v_move rfl) gn rfl ?_
     refine wl_v 1 rfl (v_bin rfl rfl rfl) gn rfl ?_
     refine wl_v 2 rfl (v_assign rfl) gn rfl ?_
     refine w_end 3 rfl ?_
     refine g_inLoop ?_
     have ih := Out.inl hO1 h
     exact g_go [0, 1] (ih ()) ⟨rfl, rfl, rfl, rfl, trivial⟩ (.cons_cons _ (.slnil)) rfl
   ·have h := if_neg' hp21 h
    refine g_false (c := q60c20) rfl _ rfl ((decide_eq_false hp21)) ?_
    refine g_exit (c := q60c22) [.code q60c12] rfl rfl ?_
    refine g_seq (c := q60c12) rfl ?_
    refine g_region (c := q60c32) rfl rfl ?_
    refine wl_v 0 rfl (v_assign rfl) gn rfl ?_
    refine w_end 1 rfl ?_
    have h := Out.inr hO1 h
    refine g_retR (c := q60c33) [.bool false] rfl Tryd.func60 rfl (.tmp rfl (.nil)) fun wr hLr => ?_
    have hMr : B.Loc w wr [.box g2 Tb3 [.string x1.s, .slice A4 n5 c6, .int .i64 x1.e, .int .i64 x1.at_]] [St w [[g2]]] := hLr.pick (rest := []) (perm_of_idx [0] [] rfl rfl (by kernel_rfl)) (sels [1] rfl)
    have hMi : ∀ e ∈ ([.box g2 Tb3 [.string x1.s, .slice A4 n5 c6, .int .i64 x1.e, .int .i64 x1.at_]] : List Ent), e ∈ ([.box g2 Tb3 [.string x1.s, .slice A4 n5 c6, .int .i64 x1.e, .int .i64 x1.at_]] : List Ent) := sels [0] rfl
    show trellisref25_Reader_has_R w F g2 Tb3 r (.returned (packV [.bool false])) wr
    rw [h]
    exact ⟨A4, n5, c6, rfl, hMr, (hLr.outR (s := Sm w.heap.size F w [[g2]]) hMi (me 0 rfl) Sm.ok h7)⟩
  exact g_go [0, 1] (key1 _ h ()) ⟨rfl, rfl, rfl, rfl, trivial⟩ (.cons_cons _ (.slnil)) rfl
noncomputable abbrev q75c0 : Code := bodyOf Tryd.f75
noncomputable abbrev q75c1 : Code := Code.fst q75c0
noncomputable abbrev q75c2 : Code := Code.snd q75c0
noncomputable abbrev q75c3 : Code := Code.fst q75c2
noncomputable abbrev q75c4 : Code := Code.snd q75c2
noncomputable abbrev q75c5 : Code := Code.fst q75c3
noncomputable abbrev q75c6 : Code := Code.snd q75c3
noncomputable abbrev q75c7 : Code := Code.fst q75c6
noncomputable abbrev q75c8 : Code := Code.snd q75c6
noncomputable abbrev q75c9 : Code := Code.fst q75c4
noncomputable abbrev q75c10 : Code := Code.snd q75c4
noncomputable abbrev q75c11 : Code := Code.fst q75c9
noncomputable abbrev q75c12 : Code := Code.snd q75c9
noncomputable abbrev q75c13 : Code := Code.fst q75c12
noncomputable abbrev q75c14 : Code := Code.snd q75c12
noncomputable abbrev q75c15 : Code := Code.fst q75c10
noncomputable abbrev q75c16 : Code := Code.snd q75c10
noncomputable abbrev q75c17 : Code := Code.fst q75c13
noncomputable abbrev q75c18 : Code := Code.snd q75c13
noncomputable abbrev q75c19 : Code := Code.fst q75c7
noncomputable abbrev q75c20 : Code := Code.snd q75c7
abbrev trellisref25_Reader_need_R (w : World) (F : Nat → Prop) (g2 : Nat) (Tb3 : Nat) (r : Int × trellisref25_Reader) : Ending → World → Prop := fun e w' => ∃ A0 : Option Addr, ∃ n0 : Nat, ∃ c0 : Nat, e = .returned (.int .i64 r.1) ∧ B.Loc w w' [.box g2 Tb3 [.string r.2.s, .slice A0 n0 c0, .int .i64 r.2.e, .int .i64 r.2.at_]] [St w [[g2]]] ∧ Rw k_api_JNode w' (Nw w w' F [.box g2 Tb3 [.string r.2.s, .slice A0 n0 c0, .int .i64 r.2.e, .int .i64 r.2.at_]]) A0 n0 c0 r.2.l
noncomputable abbrev trellisref25_Reader_need_C (w : World) (F : Nat → Prop) (g2 : Nat) (Tb3 : Nat) (r : Int × trellisref25_Reader) : Cx := ⟨Tryd.prog, 75, Tryd.f75, 23, trellisref25_Reader_need_R w F g2 Tb3 r, w⟩
theorem trellisref25_Reader_need_calls (w : World) (F : Nat → Prop) (x1 : trellisref25_Reader) (x8 : Int) (x9 : ByteArray) (g2 : Nat) (Tb3 : Nat) (A4 : Option Addr) (n5 : Nat) (c6 : Nat) (h7 : Rw k_api_JNode w F A4 n5 c6 x1.l) (hF : ∀ b, F b → b < w.heap.size ∧ ∀ o ∈ ([[g2]] : List (List Nat)), b ∉ o) (hL0 : B.Loc w w [.box g2 Tb3 [.string x1.s, .slice A4 n5 c6, .int .i64 x1.e, .int .i64 x1.at_]] [Sm w.heap.size F w [[g2]], St w [[g2]]]) (r : Int × trellisref25_Reader) (h : trellisref25_Reader_need x1 x8 x9 r) : Calls Tryd.prog 75 #[.pointer (some ⟨g2, 0, none⟩), .int .i64 x8, .string x9] w (trellisref25_Reader_need_R w F g2 Tb3 r) := by
 unfold trellisref25_Reader_need at h
 have h7 := Rw.into (bs := [[g2]]) hF h7
 refine calls_of_Loc (vs := [.pointer (some ⟨g2, 0, none⟩), .int .i64 x8, .string x9]) 23 Tryd.func75 rfl Tryd.ntmps75 rfl hL0 ?_
 show G (trellisref25_Reader_need_C w F g2 Tb3 r) _ _ _ _
 refine g_seq (c := q75c0) rfl ?_
 refine g_region (c := q75c1) rfl rfl ?_
 refine wl_v 0 rfl (v_assign rfl) gn rfl ?_
 refine w_end 1 rfl ?_
 refine g_seq (c := q75c2) rfl ?_
 refine g_seq (c := q75c3) rfl ?_
 refine g_region (c := q75c5) rfl rfl ?_
 refine wl_v 0 rfl (v_move rfl) gn rfl ?_
 refine wl_v 1 rfl (v_nilCheck rfl) gn rfl ?_
 refine wl_v 2 rfl (v_fldB fo_73_2 rfl) gn rfl ?_
 refine wl_v 3 rfl (v_ldB1 0 ld_34 rfl rfl rfl) gn rfl ?_
 refine wl_v 4 rfl (v_bin rfl rfl rfl) gn rfl ?_
 refine w_end 5 rfl ?_
 by_cases hp10 : x1.e = 0
 ·have h := if_pos' hp10 h
  refine g_false (c := q75c6) rfl _ rfl ((eqib hp10)) ?_
  refine g_skip (c := q75c8) rfl ?_
  refine g_seq (c := q75c4) rfl ?_
  refine g_seq (c := q75c9) rfl ?_
  refine g_region (c := q75c11) rfl rfl ?_
  refine wl_v 0 rfl (v_move rfl) gn rfl ?_
  refine wl_v 1 rfl (v_move rfl) gn rfl ?_
  refine wl_v 2 rfl (v_move rfl) gn rfl ?_
  obtain ⟨r14, hv15, h⟩ := h
  refine wl_s 3 rfl (s_call [.pointer (some ⟨g2, 0, none⟩), .int .i64 x8, .string x9] rfl Tryd.func60 rfl rfl rfl fun w11 hL12 => ?_) gn
  have hp13 : List.Perm ([.box g2 Tb3 [.string x1.s, .slice A4 n5 c6, .int .i64 x1.e, .int .i64 x1.at_]] : List Ent) (([.box g2 Tb3 [.string x1.s, .slice A4 n5 c6, .int .i64 x1.e, .int .i64 x1.at_]] : List Ent) ++ ([] : List Ent)) := perm_of_idx [0] [] rfl rfl (by kernel_rfl)
  refine Calls.mono (trellisref25_Reader_has_calls w11 (Fl ([Sm w.heap.size F w [[g2]]] : List Snap)) x1 x8 x9 g2 Tb3 A4 n5 c6 (Rw.mono h7 (hL12.toFl (me 0 rfl) (me 0 rfl))) (hL12.hFl (Sl := ([Sm w.heap.size F w [[g2]]] : List Snap)) hp13 (sels [0] rfl)) (hL12.into hp13 (Fl ([Sm w.heap.size F w [[g2]]] : List Snap))) r14 hv15) ?_
  rintro _ w20 ⟨A16, n17, c18, rfl, hM21, h19⟩
  obtain ⟨sb24, hL22, hv23⟩ := hL12.callB (Sl := ([Sm w.heap.size F w [[g2]]] : List Snap)) hp13 hM21 F (sels [0] rfl) ⟨Sm.ok, trivial⟩
  have h19 : At k_api_JNode (Sm w.heap.size F w20 sb24) A16 n17 c18 r14.2.l := Rw.mono h19 hv23
  refine ⟨_, _, _, rfl, hL22, ?_⟩
  refine wl_v 4 rfl (v_not rfl) gn rfl ?_
  refine w_end 5 rfl ?_
  by_cases hp25 : r14.1 = true
  ·have h := if_pos' hp25 h
   refine g_false (c := q75c12) rfl _ rfl ((nf hp25)) ?_
   refine g_skip (c := q75c14) rfl ?_
   refine g_seq (c := q75c10) rfl ?_
   refine g_region (c := q75c15) rfl rfl ?_
   refine wl_v 0 rfl (v_move rfl) gn rfl ?_
   refine wl_v 1 rfl (v_bin rfl rfl rfl) gn rfl ?_
   refine wl_v 2 rfl (v_assign rfl) gn rfl ?_
   refine w_end 3 rfl ?_
   refine g_retR (c := q75c16) [.int .i64 (w64 (x8 + 1))] rfl Tryd.func75 rfl (.tmp rfl (.nil)) fun wr hLr => ?_
   have hMr : B.Loc w wr [.box g2 Tb3 [.string r14.2.s, .slice A16 n17 c18, .int .i64 r14.2.e, .int .i64 r14.2.at_]] [St w [[g2]]] := hLr.pick (rest := []) (perm_of_idx [0] [] rfl rfl (by kernel_rfl)) (sels [2] rfl)
   have hMi : ∀ e ∈ ([.box g2 Tb3 [.string r14.2.s, .slice A16 n17 c18, .int .i64 r14.2.e, .int .i64 r14.2.at_]] : List Ent), e ∈ ([.box g2 Tb3 [.string r14.2.s, .slice A16 n17 c18, .int .i64 r14.2.e, .int .i64 r14.2.at_]] : List Ent) := sels [0] rfl
   show trellisref25_Reader_need_R w F g2 Tb3 r (.returned (packV [.int .i64 (w64 (x8 + 1))])) wr
   rw [h]
   exact ⟨A16, n17, c18, rfl, hMr, (hLr.outR (s := Sm w.heap.size F w20 sb24) hMi (me 0 rfl) Sm.ok h19)⟩
  ·have h := if_neg' hp25 h
   refine g_true (c := q75c12) rfl _ rfl ((nt (bf hp25))) ?_
   refine g_seq (c := q75c13) rfl ?_
   refine g_region (c := q75c17) rfl rfl ?_
   refine wl_v 0 rfl (v_move rfl) gn rfl ?_
   refine wl_v 1 rfl (v_move rfl) gn rfl ?_
   obtain ⟨r29, hv30, h⟩ := h
   refine wl_s 2 rfl (s_call [.pointer (some ⟨g2, 0, none⟩), .int .i64 250, .int .i64 x8] rfl Tryd.func47 rfl rfl rfl fun w26 hL27 => ?_) gn
   have hp28 : List.Perm ([.box g2 Tb3 [.string r14.2.s, .slice A16 n17 c18, .int .i64 r14.2.e, .int .i64 r14.2.at_]] : List Ent) (([.box g2 Tb3 [.string r14.2.s, .slice A16 n17 c18, .int .i64 r14.2.e, .int .i64 r14.2.at_]] : List Ent) ++ ([] : List Ent)) := perm_of_idx [0] [] rfl rfl (by kernel_rfl)
   refine Calls.mono (trellisref25_Reader_stop_calls w26 (Fl ([Sm w.heap.size F w20 sb24] : List Snap)) r14.2 250 x8 g2 Tb3 A16 n17 c18 (Rw.mono h19 (hL27.toFl (me 0 rfl) (me 0 rfl))) (hL27.hFl (Sl := ([Sm w.heap.size F w20 sb24] : List Snap)) hp28 (sels [0] rfl)) (hL27.into hp28 (Fl ([Sm w.heap.size F w20 sb24] : List Snap))) r29 hv30) ?_
   rintro _ w35 ⟨A31, n32, c33, rfl, hM36, h34⟩
   obtain ⟨sb39, hL37, hv38⟩ := hL27.callB (Sl := ([Sm w.heap.size F w20 sb24] : List Snap)) hp28 hM36 F (sels [0] rfl) ⟨Sm.ok, trivial⟩
   have h34 : At k_api_JNode (Sm w.heap.size F w35 sb39) A31 n32 c33 r29.2.l := Rw.mono h34 hv38
   refine ⟨_, _, _, rfl, hL37, ?_⟩
   refine wl_v 3 rfl (v_assign rfl) gn rfl ?_
   refine w_end 4 rfl ?_
   refine g_retR (c := q75c18) [.int .i64 r29.1] rfl Tryd.func75 rfl (.tmp rfl (.nil)) fun wr hLr => ?_
   have hMr : B.Loc w wr [.box g2 Tb3 [.string r29.2.s, .slice A31 n32 c33, .int .i64 r29.2.e, .int .i64 r29.2.at_]] [St w [[g2]]] := hLr.pick (rest := []) (perm_of_idx [0] [] rfl rfl (by kernel_rfl)) (sels [3] rfl)
   have hMi : ∀ e ∈ ([.box g2 Tb3 [.string r29.2.s, .slice A31 n32 c33, .int .i64 r29.2.e, .int .i64 r29.2.at_]] : List Ent), e ∈ ([.box g2 Tb3 [.string r29.2.s, .slice A31 n32 c33, .int .i64 r29.2.e, .int .i64 r29.2.at_]] : List Ent) := sels [0] rfl
   show trellisref25_Reader_need_R w F g2 Tb3 r (.returned (packV [.int .i64 r29.1])) wr
   rw [h]
   exact ⟨A31, n32, c33, rfl, hMr, (hLr.outR (s := Sm w.heap.size F w35 sb39) hMi (me 0 rfl) Sm.ok h34)⟩
 ·have h := if_neg' hp10 h
  refine g_true (c := q75c6) rfl _ rfl ((neib hp10)) ?_
  refine g_seq (c := q75c7) rfl ?_
  refine g_region (c := q75c19) rfl rfl ?_
  refine wl_v 0 rfl (v_move rfl) gn rfl ?_
  refine wl_v 1 rfl (v_assign rfl) gn rfl ?_
  refine w_end 2 rfl ?_
  refine g_retR (c := q75c20) [.int .i64 x8] rfl Tryd.func75 rfl (.tmp rfl (.nil)) fun wr hLr => ?_
  have hMr : B.Loc w wr [.box g2 Tb3 [.string x1.s, .slice A4 n5 c6, .int .i64 x1.e, .int .i64 x1.at_]] [St w [[g2]]] := hLr.pick (rest := []) (perm_of_idx [0] [] rfl rfl (by kernel_rfl)) (sels [1] rfl)
  have hMi : ∀ e ∈ ([.box g2 Tb3 [.string x1.s, .slice A4 n5 c6, .int .i64 x1.e, .int .i64 x1.at_]] : List Ent), e ∈ ([.box g2 Tb3 [.string x1.s, .slice A4 n5 c6, .int .i64 x1.e, .int .i64 x1.at_]] : List Ent) := sels [0] rfl
  show trellisref25_Reader_need_R w F g2 Tb3 r (.returned (packV [.int .i64 x8])) wr
  rw [h]
  exact ⟨A4, n5, c6, rfl, hMr, (hLr.outR (s := Sm w.heap.size F w [[g2]]) hMi (me 0 rfl) Sm.ok h7)⟩
noncomputable abbrev q45c0 : Code := bodyOf Tryd.f45
noncomputable abbrev q45c1 : Code := Code.fst q45c0
noncomputable abbrev q45c2 : Code := Code.snd q45c0
noncomputable abbrev q45c3 : Code := Code.fst q45c2
noncomputable abbrev q45c4 : Code := Code.snd q45c2
noncomputable abbrev q45c5 : Code := Code.fst q45c3
noncomputable abbrev q45c6 : Code := Code.fst q45c5
noncomputable abbrev q45c7 : Code := Code.fst q45c6
noncomputable abbrev q45c8 : Code := Code.snd q45c6
noncomputable abbrev q45c9 : Code := Code.fst q45c7
noncomputable abbrev q45c10 : Code := Code.snd q45c7
noncomputable abbrev q45c11 : Code := Code.fst q45c10
noncomputable abbrev q45c12 : Code := Code.snd q45c10
noncomputable abbrev q45c13 : Code := Code.fst q45c8
noncomputable abbrev q45c14 : Code := Code.fst q45c4
noncomputable abbrev q45c15 : Code := Code.snd q45c4
abbrev trellisref25_Reader_skip_R (w : World) (F : Nat → Prop) (g2 : Nat) (Tb3 : Nat) (r : Int × trellisref25_Reader) : Ending → World → Prop := fun e w' => ∃ A0 : Option Addr, ∃ n0 : Nat, ∃ c0 : Nat, e = .returned (.int .i64 r.1) ∧ B.Loc w w' [.box g2 Tb3 [.string r.2.s, .slice A0 n0 c0, .int .i64 r.2.e, .int .i64 r.2.at_]] [St w [[g2]]] ∧ Rw k_api_JNode w' (Nw w w' F [.box g2 Tb3 [.string r.2.s, .slice A0 n0 c0, .int .i64 r.2.e, .int .i64 r.2.at_]]) A0 n0 c0 r.2.l
noncomputable abbrev trellisref25_Reader_skip_C (w : World) (F : Nat → Prop) (g2 : Nat) (Tb3 : Nat) (r : Int × trellisref25_Reader) : Cx := ⟨Tryd.prog, 45, Tryd.f45, 21, trellisref25_Reader_skip_R w F g2 Tb3 r, w⟩
theorem trellisref25_Reader_skip_calls (w : World) (F : Nat → Prop) (x1 : trellisref25_Reader) (x8 : Int) (x9 : ByteArray) (g2 : Nat) (Tb3 : Nat) (A4 : Option Addr) (n5 : Nat) (c6 : Nat) (h7 : Rw k_api_JNode w F A4 n5 c6 x1.l) (hF : ∀ b, F b → b < w.heap.size ∧ ∀ o ∈ ([[g2]] : List (List Nat)), b ∉ o) (hL0 : B.Loc w w [.box g2 Tb3 [.string x1.s, .slice A4 n5 c6, .int .i64 x1.e, .int .i64 x1.at_]] [Sm w.heap.size F w [[g2]], St w [[g2]]]) (r : Int × trellisref25_Reader) (h : trellisref25_Reader_skip x1 x8 x9 r) : Calls Tryd.prog 45 #[.pointer (some ⟨g2, 0, none⟩), .int .i64 x8, .string x9] w (trellisref25_Reader_skip_R w F g2 Tb3 r) := by
 unfold trellisref25_Reader_skip at h
 have h7 := Rw.into (bs := [[g2]]) hF h7
 refine calls_of_Loc (vs := [.pointer (some ⟨g2, 0, none⟩), .int .i64 x8, .string x9]) 21 Tryd.func45 rfl Tryd.ntmps45 rfl hL0 ?_
 show G (trellisref25_Reader_skip_C w F g2 Tb3 r) _ _ _ _
 refine g_seq (c := q45c0) rfl ?_
 refine g_region (c := q45c1) rfl rfl ?_
 refine wl_v 0 rfl (v_assign rfl) gn rfl ?_
 refine w_end 1 rfl ?_
 refine g_seq (c := q45c2) rfl ?_
 refine g_block (c := q45c3) rfl ?_
 refine g_loop (c := q45c5) rfl ?_
 have key1 : ∀ s, Rounds (fun (s : Int × ByteArray × (List api_JNode) × Int × Int) o => trellisref25_Reader_skip_b1 x9 s.1 s.2.1 s.2.2.1 s.2.2.2.1 s.2.2.2.2 o) s r → (fun (s : Int × ByteArray × (List api_JNode) × Int × Int) => ∀ (A30 : Option Addr) (n31 : Nat) (c32 : Nat) (sw33 : World) (sb34 : List (List Nat)) (h35 : At k_api_JNode (Sm w.heap.size F sw33 sb34) A30 n31 c32 s.2.2.1), G (trellisref25_Reader_skip_C w F g2 Tb3 r) [.code q45c6, .inLoop q45c6, .inBlock 0, .code q45c4] [(0, .pointer (some ⟨g2, 0, none⟩)), (1, .int .i64 s.1), (2, .string x9)] [.box g2 Tb3 [.string s.2.1, .slice A30 n31 c32, .int .i64 s.2.2.2.1, .int .i64 s.2.2.2.2]] [Sm w.heap.size F sw33 sb34, Sm w.heap.size F w [[g2]], St w [[g2]]]) s := by
  intro s hs
  refine Rounds.ind (mot := (fun (s : Int × ByteArray × (List api_JNode) × Int × Int) => ∀ (A30 : Option Addr) (n31 : Nat) (c32 : Nat) (sw33 : World) (sb34 : List (List Nat)) (h35 : At k_api_JNode (Sm w.heap.size F sw33 sb34) A30 n31 c32 s.2.2.1), G (trellisref25_Reader_skip_C w F g2 Tb3 r) [.code q45c6, .inLoop q45c6, .inBlock 0, .code q45c4] [(0, .pointer (some ⟨g2, 0, none⟩)), (1, .int .i64 s.1), (2, .string x9)] [.box g2 Tb3 [.string s.2.1, .slice A30 n31 c32, .int .i64 s.2.2.2.1, .int .i64 s.2.2.2.2]] [Sm w.heap.size F sw33 sb34, Sm w.heap.size F w [[g2]], St w [[g2]]])) ?_ hs
  clear hs s
  intro s o1 h hO1
  obtain ⟨x27, x28, x29, x36, x37⟩ := s
  show ∀ (A30 : Option Addr) (n31 : Nat) (c32 : Nat) (sw33 : World) (sb34 : List (List Nat)) (h35 : At k_api_JNode (Sm w.heap.size F sw33 sb34) A30 n31 c32 x29), G (trellisref25_Reader_skip_C w F g2 Tb3 r) [.code q45c6, .inLoop q45c6, .inBlock 0, .code q45c4] [(0, .pointer (some ⟨g2, 0, none⟩)), (1, .int .i64 x27), (2, .string x9)] [.box g2 Tb3 [.string x28, .slice A30 n31 c32, .int .i64 x36, .int .i64 x37]] [Sm w.heap.size F sw33 sb34, Sm w.heap.size F w [[g2]], St w [[g2]]]
  intro A30 n31 c32 sw33 sb34 h35
  have h : trellisref25_Reader_skip_b1 x9 x27 x28 x29 x36 x37 o1 := h
  unfold trellisref25_Reader_skip_b1 at h
  refine g_seq (c := q45c6) rfl ?_
  refine g_seq (c := q45c7) rfl ?_
  refine g_region (c := q45c9) rfl rfl ?_
  refine wl_v 0 rfl (v_move rfl) gn rfl ?_
  refine wl_v 1 rfl (v_nilCheck rfl) gn rfl ?_
  refine wl_v 2 rfl (v_fldB fo_73_2 rfl) gn rfl ?_
  refine wl_v 3 rfl (v_ldB1 0 ld_34 rfl rfl rfl) gn rfl ?_
  refine wl_v 4 rfl (v_bin rfl rfl rfl) gn rfl ?_
  refine wl_v 5 rfl (v_move rfl) gn rfl ?_
  by_cases hp54 : x36 = 0
  ·have h := if_pos' hp54 h
   refine w_bool 12 rfl ((eqi hp54)) ?_
   refine wl_v 6 rfl (v_move rfl) (gy 12 rfl rfl) rfl ?_
   refine wl_v 7 rfl (v_move rfl) (gy 12 rfl rfl) rfl ?_
   refine wl_v 8 rfl (v_move rfl) (gy 12 rfl rfl) rfl ?_
   obtain ⟨r58, hv59, h⟩ := h
   refine wl_s 9 rfl (s_call [.pointer (some ⟨g2, 0, none⟩), .int .i64 x27, .string x9] rfl Tryd.func60 rfl rfl rfl fun w55 hL56 => ?_) (gy 12 rfl rfl)
   have hp57 : List.Perm ([.box g2 Tb3 [.string x28, .slice A30 n31 c32, .int .i64 x36, .int .i64 x37]] : List Ent) (([.box g2 Tb3 [.string x28, .slice A30 n31 c32, .int .i64 x36, .int .i64 x37]] : List Ent) ++ ([] : List Ent)) := perm_of_idx [0] [] rfl rfl (by kernel_rfl)
   refine Calls.mono (trellisref25_Reader_has_calls w55 (Fl ([Sm w.heap.size F sw33 sb34] : List Snap)) (⟨x28, x29, x36, x37⟩ : trellisref25_Reader) x27 x9 g2 Tb3 A30 n31 c32 (Rw.mono h35 (hL56.toFl (me 0 rfl) (me 0 rfl))) (hL56.hFl (Sl := ([Sm w.heap.size F sw33 sb34] : List Snap)) hp57 (sels [0] rfl)) (hL56.into hp57 (Fl ([Sm w.heap.size F sw33 sb34] : List Snap))) r58 hv59) ?_
   rintro _ w65 ⟨A60, n61, c62, rfl, hM66, h63⟩
   obtain ⟨sb69, hL67, hv68⟩ := hL56.callB (Sl := ([Sm w.heap.size F sw33 sb34] : List Snap)) hp57 hM66 F (sels [0] rfl) ⟨Sm.ok, trivial⟩
   have h63 : At k_api_JNode (Sm w.heap.size F w65 sb69) A60 n61 c62 r58.2.l := Rw.mono h63 hv68
   refine ⟨_, _, _, rfl, hL67, ?_⟩
   refine wl_v 10 rfl (v_pick (b := true) rfl rfl) gn rfl ?_
   refine w_end 11 rfl ?_
   by_cases hp70 : r58.1 = true
   ·have h := if_pos' hp70 h
    refine g_true (c := q45c10) rfl _ rfl (hp70) ?_
    refine g_skip (c := q45c11) rfl ?_
    refine g_block (c := q45c8) rfl ?_
    refine g_region (c := q45c13) rfl rfl ?_
    refine wl_v 0 rfl (v_move rfl) gn rfl ?_
    refine wl_v 1 rfl (v_bin rfl rfl rfl) gn rfl ?_
    refine wl_v 2 rfl (v_assign rfl) gn rfl ?_
    refine w_end 3 rfl ?_
    refine g_inBlock ?_
    refine g_inLoop ?_
    have ih := Out.inl hO1 h
    exact g_go [0, 2, 3] (ih A60 n61 c62 w65 sb69 h63) ⟨rfl, rfl, rfl, trivial⟩ (.cons_cons _ (.slnil)) rfl
   ·have h := if_neg' hp70 h
    refine g_false (c := q45c10) rfl _ rfl ((bf hp70)) ?_
    refine g_exit (c := q45c12) [.code q45c4] rfl rfl ?_
    refine g_seq (c := q45c4) rfl ?_
    refine g_region (c := q45c14) rfl rfl ?_
    refine wl_v 0 rfl (v_move rfl) gn rfl ?_
    refine wl_v 1 rfl (v_assign rfl) gn rfl ?_
    refine w_end 2 rfl ?_
    have h := Out.inr hO1 h
    refine g_retR (c := q45c15) [.int .i64 x27] rfl Tryd.func45 rfl (.tmp rfl (.nil)) fun wr hLr => ?_
    have hMr : B.Loc w wr [.box g2 Tb3 [.string r58.2.s, .slice A60 n61 c62, .int .i64 r58.2.e, .int .i64 r58.2.at_]] [St w [[g2]]] := hLr.pick (rest := []) (perm_of_idx [0] [] rfl rfl (by kernel_rfl)) (sels [3] rfl)
    have hMi : ∀ e ∈ ([.box g2 Tb3 [.string r58.2.s, .slice A60 n61 c62, .int .i64 r58.2.e, .int .i64 r58.2.at_]] : List Ent), e ∈ ([.box g2 Tb3 [.string r58.2.s, .slice A60 n61 c62, .int .i64 r58.2.e, .int .i64 r58.2.at_]] : List Ent) := sels [0] rfl
    show trellisref25_Reader_skip_R w F g2 Tb3 r (.returned (packV [.int .i64 x27])) wr
    rw [h]
    exact ⟨A60, n61, c62, rfl, hMr, (hLr.outR (s := Sm w.heap.size F w65 sb69) hMi (me 0 rfl) Sm.ok h63)⟩
  ·have h := if_neg' hp54 h
   refine w_bool 12 rfl ((nei hp54)) ?_
   refine wl_pass 6 rfl (ps 12 rfl rfl rfl) ?_
   refine wl_pass 7 rfl (ps 12 rfl rfl rfl) ?_
   refine wl_pass 8 rfl (ps 12 rfl rfl rfl) ?_
   refine wl_pass 9 rfl (ps 12 rfl rfl rfl) ?_
   refine wl_v 10 rfl (v_pick (b := false) rfl rfl) gn rfl ?_
   refine w_end 11 rfl ?_
   refine g_false (c := q45c10) rfl _ rfl (rfl) ?_
   refine g_exit (c := q45c12) [.code q45c4] rfl rfl ?_
   refine g_seq (c := q45c4) rfl ?_
   refine g_region (c := q45c14) rfl rfl ?_
   refine wl_v 0 rfl (v_move rfl) gn rfl ?_
   refine wl_v 1 rfl (v_assign rfl) gn rfl ?_
   refine w_end 2 rfl ?_
   have h := Out.inr hO1 h
   refine g_retR (c := q45c15) [.int .i64 x27] rfl Tryd.func45 rfl (.tmp rfl (.nil)) fun wr hLr => ?_
   have hMr : B.Loc w wr [.box g2 Tb3 [.string x28, .slice A30 n31 c32, .int .i64 x36, .int .i64 x37]] [St w [[g2]]] := hLr.pick (rest := []) (perm_of_idx [0] [] rfl rfl (by kernel_rfl)) (sels [2] rfl)
   have hMi : ∀ e ∈ ([.box g2 Tb3 [.string x28, .slice A30 n31 c32, .int .i64 x36, .int .i64 x37]] : List Ent), e ∈ ([.box g2 Tb3 [.string x28, .slice A30 n31 c32, .int .i64 x36, .int .i64 x37]] : List Ent) := sels [0] rfl
   show trellisref25_Reader_skip_R w F g2 Tb3 r (.returned (packV [.int .i64 x27])) wr
   rw [h]
   exact ⟨A30, n31, c32, rfl, hMr, (hLr.outR (s := Sm w.heap.size F sw33 sb34) hMi (me 0 rfl) Sm.ok h35)⟩
 exact g_go [0, 0, 1] (key1 _ h A4 n5 c6 w [[g2]] h7) ⟨rfl, rfl, rfl, trivial⟩ (.cons_cons _ (.slnil)) rfl
end Go.Proofs.YtmfopcbjgbphaaaDoor.K
