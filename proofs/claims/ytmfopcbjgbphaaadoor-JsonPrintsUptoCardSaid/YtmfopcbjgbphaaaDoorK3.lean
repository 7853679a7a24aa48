/- What the machine's calls do, function by function, printed by my own tool. Condition of each: its relation holds of the answer, and what is handed in lies in memory as told. -/
import Derived.Test.YtmfopcbjgbphaaaDoorK2
set_option linter.unusedVariables false
set_option maxRecDepth 100000
set_option maxHeartbeats 4000000
namespace Go.Proofs.YtmfopcbjgbphaaaDoor.K
open Go.Proofs.YtmfopcbjgbphaaaDoor.B Go.Proofs.YtmfopcbjgbphaaaDoor.R Go.RowKit
noncomputable abbrev q40c0 : Code := bodyOf Tryd.f40
noncomputable abbrev q40c1 : Code := Code.fst q40c0
noncomputable abbrev q40c2 : Code := Code.snd q40c0
noncomputable abbrev q40c3 : Code := Code.fst q40c2
noncomputable abbrev q40c4 : Code := Code.snd q40c2
noncomputable abbrev q40c5 : Code := Code.fst q40c4
noncomputable abbrev q40c6 : Code := Code.snd q40c4
noncomputable abbrev q40c7 : Code := Code.fst q40c5
noncomputable abbrev q40c8 : Code := Code.fst q40c7
noncomputable abbrev q40c9 : Code := Code.fst q40c8
noncomputable abbrev q40c10 : Code := Code.snd q40c8
noncomputable abbrev q40c11 : Code := Code.fst q40c9
noncomputable abbrev q40c12 : Code := Code.snd q40c9
noncomputable abbrev q40c13 : Code := Code.fst q40c12
noncomputable abbrev q40c14 : Code := Code.snd q40c12
noncomputable abbrev q40c15 : Code := Code.fst q40c10
noncomputable abbrev q40c16 : Code := Code.fst q40c15
noncomputable abbrev q40c17 : Code := Code.snd q40c15
noncomputable abbrev q40c18 : Code := Code.fst q40c16
noncomputable abbrev q40c19 : Code := Code.snd q40c16
noncomputable abbrev q40c20 : Code := Code.fst q40c19
noncomputable abbrev q40c21 : Code := Code.snd q40c19
noncomputable abbrev q40c22 : Code := Code.fst q40c20
noncomputable abbrev q40c23 : Code := Code.snd q40c20
noncomputable abbrev q40c24 : Code := Code.fst q40c17
noncomputable abbrev q40c25 : Code := Code.snd q40c17
noncomputable abbrev q40c26 : Code := Code.fst q40c6
noncomputable abbrev q40c27 : Code := Code.snd q40c6
abbrev trellisref25_Behind_R (w : World) (F : Nat → Prop) (r : Int) : Ending → World → Prop := fun e w' => e = .returned (.int .i64 r) ∧ B.Loc w w' [] [St w []]
noncomputable abbrev trellisref25_Behind_C (w : World) (F : Nat → Prop) (r : Int) : Cx := ⟨Tryd.prog, 40, Tryd.f40, 41, trellisref25_Behind_R w F  r, w⟩
theorem trellisref25_Behind_calls (w : World) (F : Nat → Prop) (x1 : List api_JNode) (x6 : Int) (A2 : Option Addr) (n3 : Nat) (c4 : Nat) (h5 : Rw k_api_JNode w (St w []).av A2 n3 c4 x1) (hF : ∀ b, F b → b < w.heap.size ∧ ∀ o ∈ ([] : List (List Nat)), b ∉ o) (hL0 : B.Loc w w [] [Sm w.heap.size F w [], St w []]) (r : Int) (h : trellisref25_Behind x1 x6 r) : Calls Tryd.prog 40 #[.slice A2 n3 c4, .int .i64 x6] w (trellisref25_Behind_R w F  r) := by
 unfold trellisref25_Behind at h
 refine calls_of_Loc (vs := [.slice A2 n3 c4, .int .i64 x6]) 41 Tryd.func40 rfl Tryd.ntmps40 rfl hL0 ?_
 show G (trellisref25_Behind_C w F r) _ _ _ _
 refine g_seq (c := q40c0) rfl ?_
 refine g_region (c := q40c1) rfl rfl ?_
 refine wl_v 0 rfl (v_assign rfl) gn rfl ?_
 refine w_end 1 rfl ?_
 refine g_seq (c := q40c2) rfl ?_
 refine g_region (c := q40c3) rfl rfl ?_
 refine wl_v 0 rfl (v_assign rfl) gn rfl ?_
 refine w_end 1 rfl ?_
 refine g_seq (c := q40c4) rfl ?_
 refine g_block (c := q40c5) rfl ?_
 refine g_loop (c := q40c7) rfl ?_
 have key1 : ∀ s, Rounds (fun (s : Int × Int) o => trellisref25_Behind_b1 x1 s.1 s.2 o) s r → (fun (s : Int × Int) => ∀ (_ : Unit), G (trellisref25_Behind_C w F r) [.code q40c8, .inLoop q40c8, .inBlock 0, .code q40c6] [(0, .slice A2 n3 c4), (1, .int .i64 s.1), (5, .int .i64 s.2)] [] [Sm w.heap.size F w [], St w []]) s := by
  intro s hs
  refine Rounds.ind (mot := (fun (s : Int × Int) => ∀ (_ : Unit), G (trellisref25_Behind_C w F r) [.code q40c8, .inLoop q40c8, .inBlock 0, .code q40c6] [(0, .slice A2 n3 c4), (1, .int .i64 s.1), (5, .int .i64 s.2)] [] [Sm w.heap.size F w [], St w []])) ?_ hs
  clear hs s
  intro s o1 h hO1
  obtain ⟨x23, x24⟩ := s
  show ∀ (_ : Unit), G (trellisref25_Behind_C w F r) [.code q40c8, .inLoop q40c8, .inBlock 0, .code q40c6] [(0, .slice A2 n3 c4), (1, .int .i64 x23), (5, .int .i64 x24)] [] [Sm w.heap.size F w [], St w []]
  intro _
  have h : trellisref25_Behind_b1 x1 x23 x24 o1 := h
  unfold trellisref25_Behind_b1 at h
  refine g_seq (c := q40c8) rfl ?_
  refine g_seq (c := q40c9) rfl ?_
  refine g_region (c := q40c11) rfl rfl ?_
  refine wl_v 0 rfl (v_move rfl) gn rfl ?_
  refine wl_v 1 rfl (v_bin rfl rfl rfl) gn rfl ?_
  refine w_end 2 rfl ?_
  by_cases hp41 : x24 > 0
  ·have h := if_pos' hp41 h
   refine g_true (c := q40c12) rfl _ rfl ((decide_eq_true hp41)) ?_
   refine g_skip (c := q40c13) rfl ?_
   refine g_block (c := q40c10) rfl ?_
   refine g_seq (c := q40c15) rfl ?_
   refine g_seq (c := q40c16) rfl ?_
   have j2 : ∀ (x48 : Bool) (h : trellisref25_Behind_j2 x23 x1 x24 x48 o1) , G (trellisref25_Behind_C w F r) [.code q40c19, .code q40c17, .inBlock 1, .inLoop q40c8, .inBlock 0, .code q40c6] [(0, .slice A2 n3 c4), (1, .int .i64 x23), (5, .int .i64 x24), (29, .bool x48)] [] [Sm w.heap.size F w [], St w []] := by
    intro x48 h
    unfold trellisref25_Behind_j2 at h
    by_cases hp49 : x48 = true
    ·have h := if_pos' hp49 h
     refine g_true (c := q40c19) rfl _ rfl (hp49) ?_
     refine g_seq (c := q40c20) rfl ?_
     refine g_region (c := q40c22) rfl rfl ?_
     refine wl_v 0 rfl (v_assign rfl) gn rfl ?_
     refine w_end 1 rfl ?_
     have h := Out.inr hO1 h
     refine g_retR (c := q40c23) [.int .i64 (-1)] rfl Tryd.func40 rfl (.tmp rfl (.nil)) fun wr hLr => ?_
     have hMr : B.Loc w wr [] [St w []] := hLr.pick0 (sels [1] rfl)
     show trellisref25_Behind_R w F  r (.returned (packV [.int .i64 (-1)])) wr
     rw [h]
     exact ⟨rfl, hMr⟩
    ·have h := if_neg' hp49 h
     refine g_false (c := q40c19) rfl _ rfl ((bf hp49)) ?_
     refine g_skip (c := q40c21) rfl ?_
     refine g_seq (c := q40c17) rfl ?_
     refine g_region (c := q40c24) rfl rfl ?_
     refine wl_v 0 rfl (v_move rfl) gn rfl ?_
     refine wl_v 1 rfl (v_bin rfl rfl rfl) gn rfl ?_
     refine wl_v 2 rfl (v_move rfl) gn rfl ?_
     refine wl_v 3 rfl (v_move rfl) gn rfl ?_
     obtain ⟨hb50, h⟩ := h
     have hr51 := Rw.readF (s := St w []) (hl := hl_api_JNode) (h1 := h1_api_JNode) h5 hb50
     refine wl_v 4 rfl (v_idxR (s := St w []) slE_22 rfl rfl h5 hb50) gn rfl ?_
     refine wl_v 5 rfl (v_fldA fo_31_3 rfl) gn rfl ?_
     refine wl_v 6 rfl (v_ldA1 (kk := (x23 : Int).toNat * 4) (j := 3) (St w []) ld_3 rfl hr51 rfl (me 1 rfl)) gn rfl ?_
     refine wl_v 7 rfl (v_bin rfl rfl rfl) gn rfl ?_
     refine wl_v 8 rfl (v_assign rfl) gn rfl ?_
     refine w_end 9 rfl ?_
     refine g_region (c := q40c25) rfl rfl ?_
     refine wl_v 0 rfl (v_move rfl) gn rfl ?_
     refine wl_v 1 rfl (v_bin rfl rfl rfl) gn rfl ?_
     refine wl_v 2 rfl (v_assign rfl) gn rfl ?_
     refine w_end 3 rfl ?_
     refine g_inBlock ?_
     refine g_inLoop ?_
     have ih := Out.inl hO1 h
     exact g_go [0, 1] (ih ()) ⟨rfl, rfl, rfl, trivial⟩ (.slnil) rfl
   refine g_region (c := q40c18) rfl rfl ?_
   refine wl_v 0 rfl (v_move rfl) gn rfl ?_
   refine wl_v 1 rfl (v_move rfl) gn rfl ?_
   refine wl_v 2 rfl (v_lenQ un_22 rfl h5.hq) gn rfl ?_
   refine wl_v 3 rfl (v_bin rfl rfl rfl) gn rfl ?_
   refine wl_v 4 rfl (v_move rfl) gn rfl ?_
   by_cases hp52 : x23 ≥ (x1.length : Int)
   ·have h := if_pos' hp52 h
    refine w_bool 12 rfl ((decide_eq_true hp52)) ?_
    refine wl_pass 5 rfl (ps 12 rfl rfl rfl) ?_
    refine wl_pass 6 rfl (ps 12 rfl rfl rfl) ?_
    refine wl_pass 7 rfl (ps 12 rfl rfl rfl) ?_
    refine wl_pass 8 rfl (ps 12 rfl rfl rfl) ?_
    refine wl_pass 9 rfl (ps 12 rfl rfl rfl) ?_
    refine wl_pass 10 rfl (ps 12 rfl rfl rfl) ?_
    refine wl_v 11 rfl (v_pick (b := true) rfl rfl) gn rfl ?_
    refine wl_v 12 rfl (v_move rfl) gn rfl ?_
    refine wl_pass 13 rfl (ps 20 rfl rfl rfl) ?_
    refine wl_pass 14 rfl (ps 20 rfl rfl rfl) ?_
    refine wl_pass 15 rfl (ps 20 rfl rfl rfl) ?_
    refine wl_pass 16 rfl (ps 20 rfl rfl rfl) ?_
    refine wl_pass 17 rfl (ps 20 rfl rfl rfl) ?_
    refine wl_pass 18 rfl (ps 20 rfl rfl rfl) ?_
    refine wl_pass 19 rfl (ps 20 rfl rfl rfl) ?_
    refine wl_pass 20 rfl (ps 20 rfl rfl rfl) ?_
    refine wl_v 21 rfl (v_pick (b := true) rfl rfl) gn rfl ?_
    refine w_end 22 rfl ?_
    exact g_go [0, 1] (j2 true h) ⟨rfl, rfl, rfl, rfl, trivial⟩ (.slnil) rfl
   ·have h := if_neg' hp52 h
    refine w_bool 12 rfl ((decide_eq_false hp52)) ?_
    refine wl_v 5 rfl (v_move rfl) (gy 12 rfl rfl) rfl ?_
    refine wl_v 6 rfl (v_move rfl) (gy 12 rfl rfl) rfl ?_
    obtain ⟨hb53, h⟩ := h
    have hr54 := Rw.readF (s := St w []) (hl := hl_api_JNode) (h1 := h1_api_JNode) h5 hb53
    refine wl_v 7 rfl (v_idxR (s := St w []) slE_22 rfl rfl h5 hb53) (gy 12 rfl rfl) rfl ?_
    refine wl_v 8 rfl (v_fldA fo_31_3 rfl) (gy 12 rfl rfl) rfl ?_
    refine wl_v 9 rfl (v_ldA1 (kk := (x23 : Int).toNat * 4) (j := 3) (St w []) ld_3 rfl hr54 rfl (me 1 rfl)) (gy 12 rfl rfl) rfl ?_
    refine wl_v 10 rfl (v_bin rfl rfl rfl) (gy 12 rfl rfl) rfl ?_
    refine wl_v 11 rfl (v_pick (b := false) rfl rfl) gn rfl ?_
    refine wl_v 12 rfl (v_move rfl) gn rfl ?_
    by_cases hp55 : (ix x1 x23).kids < 0
    ·have h := if_pos' hp55 h
     refine w_bool 20 rfl ((decide_eq_true hp55)) ?_
     refine wl_pass 13 rfl (ps 20 rfl rfl rfl) ?_
     refine wl_pass 14 rfl (ps 20 rfl rfl rfl) ?_
     refine wl_pass 15 rfl (ps 20 rfl rfl rfl) ?_
     refine wl_pass 16 rfl (ps 20 rfl rfl rfl) ?_
     refine wl_pass 17 rfl (ps 20 rfl rfl rfl) ?_
     refine wl_pass 18 rfl (ps 20 rfl rfl rfl) ?_
     refine wl_pass 19 rfl (ps 20 rfl rfl rfl) ?_
     refine wl_pass 20 rfl (ps 20 rfl rfl rfl) ?_
     refine wl_v 21 rfl (v_pick (b := true) rfl rfl) gn rfl ?_
     refine w_end 22 rfl ?_
     exact g_go [0, 1] (j2 true h) ⟨rfl, rfl, rfl, rfl, trivial⟩ (.slnil) rfl
    ·have h := if_neg' hp55 h
     refine w_bool 20 rfl ((decide_eq_false hp55)) ?_
     refine wl_v 13 rfl (v_move rfl) (gy 20 rfl rfl) rfl ?_
     refine wl_v 14 rfl (v_move rfl) (gy 20 rfl rfl) rfl ?_
     have hr56 := Rw.readF (s := St w []) (hl := hl_api_JNode) (h1 := h1_api_JNode) h5 hb53
     refine wl_v 15 rfl (v_idxR (s := St w []) slE_22 rfl rfl h5 hb53) (gy 20 rfl rfl) rfl ?_
     refine wl_v 16 rfl (v_fldA fo_31_3 rfl) (gy 20 rfl rfl) rfl ?_
     refine wl_v 17 rfl (v_ldA1 (kk := (x23 : Int).toNat * 4) (j := 3) (St w []) ld_3 rfl hr56 rfl (me 1 rfl)) (gy 20 rfl rfl) rfl ?_
     refine wl_v 18 rfl (v_move rfl) (gy 20 rfl rfl) rfl ?_
     refine wl_v 19 rfl (v_lenQ un_22 rfl h5.hq) (gy 20 rfl rfl) rfl ?_
     refine wl_v 20 rfl (v_bin rfl rfl rfl) (gy 20 rfl rfl) rfl ?_
     refine wl_v 21 rfl (v_pick (b := false) rfl rfl) gn rfl ?_
     refine w_end 22 rfl ?_
     exact g_go [0, 1] (j2 (decide ((ix x1 x23).kids > (x1.length : Int))) h) ⟨rfl, rfl, rfl, rfl, trivial⟩ (.slnil) rfl
  ·have h := if_neg' hp41 h
   refine g_false (c := q40c12) rfl _ rfl ((decide_eq_false hp41)) ?_
   refine g_exit (c := q40c14) [.code q40c6] rfl rfl ?_
   refine g_seq (c := q40c6) rfl ?_
   refine g_region (c := q40c26) rfl rfl ?_
   refine wl_v 0 rfl (v_move rfl) gn rfl ?_
   refine wl_v 1 rfl (v_assign rfl) gn rfl ?_
   refine w_end 2 rfl ?_
   have h := Out.inr hO1 h
   refine g_retR (c := q40c27) [.int .i64 x23] rfl Tryd.func40 rfl (.tmp rfl (.nil)) fun wr hLr => ?_
   have hMr : B.Loc w wr [] [St w []] := hLr.pick0 (sels [1] rfl)
   show trellisref25_Behind_R w F  r (.returned (packV [.int .i64 x23])) wr
   rw [h]
   exact ⟨rfl, hMr⟩
 exact g_go [0, 1] (key1 _ h ()) ⟨rfl, rfl, rfl, trivial⟩ (.slnil) rfl
noncomputable abbrev q83c0 : Code := bodyOf Tryd.f83
noncomputable abbrev q83c1 : Code := Code.fst q83c0
noncomputable abbrev q83c2 : Code := Code.snd q83c0
noncomputable abbrev q83c3 : Code := Code.fst q83c2
noncomputable abbrev q83c4 : Code := Code.snd q83c2
noncomputable abbrev q83c5 : Code := Code.fst q83c3
noncomputable abbrev q83c6 : Code := Code.fst q83c5
noncomputable abbrev q83c7 : Code := Code.snd q83c5
noncomputable abbrev q83c8 : Code := Code.fst q83c7
noncomputable abbrev q83c9 : Code := Code.snd q83c7
noncomputable abbrev q83c10 : Code := Code.fst q83c8
noncomputable abbrev q83c11 : Code := Code.snd q83c8
noncomputable abbrev q83c12 : Code := Code.fst q83c9
noncomputable abbrev q83c13 : Code := Code.snd q83c9
noncomputable abbrev q83c14 : Code := Code.fst q83c13
noncomputable abbrev q83c15 : Code := Code.snd q83c13
noncomputable abbrev q83c16 : Code := Code.fst q83c14
noncomputable abbrev q83c17 : Code := Code.snd q83c14
noncomputable abbrev q83c18 : Code := Code.fst q83c15
noncomputable abbrev q83c19 : Code := Code.snd q83c15
noncomputable abbrev q83c20 : Code := Code.fst q83c19
noncomputable abbrev q83c21 : Code := Code.snd q83c19
noncomputable abbrev q83c22 : Code := Code.fst q83c20
noncomputable abbrev q83c23 : Code := Code.snd q83c20
noncomputable abbrev q83c24 : Code := Code.fst q83c21
noncomputable abbrev q83c25 : Code := Code.snd q83c21
noncomputable abbrev q83c26 : Code := Code.fst q83c25
noncomputable abbrev q83c27 : Code := Code.snd q83c25
noncomputable abbrev q83c28 : Code := Code.fst q83c26
noncomputable abbrev q83c29 : Code := Code.snd q83c26
noncomputable abbrev q83c30 : Code := Code.fst q83c27
noncomputable abbrev q83c31 : Code := Code.snd q83c27
noncomputable abbrev q83c32 : Code := Code.fst q83c31
noncomputable abbrev q83c33 : Code := Code.snd q83c31
noncomputable abbrev q83c34 : Code := Code.fst q83c32
noncomputable abbrev q83c35 : Code := Code.snd q83c32
noncomputable abbrev q83c36 : Code := Code.fst q83c33
noncomputable abbrev q83c37 : Code := Code.snd q83c33
noncomputable abbrev q83c38 : Code := Code.fst q83c37
noncomputable abbrev q83c39 : Code := Code.snd q83c37
noncomputable abbrev q83c40 : Code := Code.fst q83c38
noncomputable abbrev q83c41 : Code := Code.snd q83c38
noncomputable abbrev q83c42 : Code := Code.fst q83c39
noncomputable abbrev q83c43 : Code := Code.snd q83c39
noncomputable abbrev q83c44 : Code := Code.fst q83c43
noncomputable abbrev q83c45 : Code := Code.snd q83c43
noncomputable abbrev q83c46 : Code := Code.fst q83c44
noncomputable abbrev q83c47 : Code := Code.snd q83c44
noncomputable abbrev q83c48 : Code := Code.fst q83c45
noncomputable abbrev q83c49 : Code := Code.snd q83c45
noncomputable abbrev q83c50 : Code := Code.fst q83c49
noncomputable abbrev q83c51 : Code := Code.snd q83c49
noncomputable abbrev q83c52 : Code := Code.fst q83c50
noncomputable abbrev q83c53 : Code := Code.snd q83c50
noncomputable abbrev q83c54 : Code := Code.fst q83c4
noncomputable abbrev q83c55 : Code := Code.snd q83c4
abbrev trellisref25_Ranges_R (w : World) (F : Nat → Prop) (r : (List Int) × Bool) : Ending → World → Prop := fun e w' => ∃ A0 : Option Addr, ∃ n0 : Nat, ∃ c0 : Nat, e = .returned (.tuple #[.slice A0 n0 c0, .bool r.2]) ∧ B.Loc w w' [.own (.slice A0 n0 c0) 3 1 n0 (r.1.flatMap (eI .i64))] [St w []] ∧ Ow w.heap.size A0 n0 c0 r.1
noncomputable abbrev trellisref25_Ranges_C (w : World) (F : Nat → Prop) (r : (List Int) × Bool) : Cx := ⟨Tryd.prog, 83, Tryd.f83, 39, trellisref25_Ranges_R w F  r, w⟩
theorem trellisref25_Ranges_calls (w : World) (F : Nat → Prop) (x1 : Int) (hF : ∀ b, F b → b < w.heap.size ∧ ∀ o ∈ ([] : List (List Nat)), b ∉ o) (hL0 : B.Loc w w [] [Sm w.heap.size F w [], St w []]) (r : (List Int) × Bool) (h : trellisref25_Ranges x1 r) : Calls Tryd.prog 83 #[.int .u8 x1] w (trellisref25_Ranges_R w F  r) := by
 unfold trellisref25_Ranges at h
 refine calls_of_Loc (vs := [.int .u8 x1]) 39 Tryd.func83 rfl Tryd.ntmps83 rfl hL0 ?_
 show G (trellisref25_Ranges_C w F r) _ _ _ _
 refine g_seq (c := q83c0) rfl ?_
 refine g_region (c := q83c1) rfl rfl ?_
 refine wl_v 0 rfl (v_assign rfl) gn rfl ?_
 refine wl_v 1 rfl (v_assign rfl) gn rfl ?_
 refine w_end 2 rfl ?_
 refine g_seq (c := q83c2) rfl ?_
 refine g_block (c := q83c3) rfl ?_
 refine g_seq (c := q83c5) rfl ?_
 refine g_region (c := q83c6) rfl rfl ?_
 refine wl_v 0 rfl (v_move rfl) gn rfl ?_
 refine wl_v 1 rfl (v_bin rfl rfl rfl) gn rfl ?_
 refine wl_v 2 rfl (v_assign rfl) gn rfl ?_
 refine w_end 3 rfl ?_
 by_cases hp2 : x1 < 128
 ·have h := if_pos' hp2 h
  refine g_true (c := q83c7) rfl _ rfl ((decide_eq_true hp2)) ?_
  refine g_seq (c := q83c8) rfl ?_
  refine g_region (c := q83c10) rfl rfl ?_
  refine wl_v 0 rfl (v_assign rfl) gn rfl ?_
  refine wl_v 1 rfl (v_assign rfl) gn rfl ?_
  refine w_end 2 rfl ?_
  refine g_nil 3 1 ?_
  refine g_retR (c := q83c11) [.slice none 0 0, .bool true] rfl Tryd.func83 rfl (.tmp rfl (.tmp rfl (.nil))) fun wr hLr => ?_
  have hMr : B.Loc w wr [.own (.slice none 0 0) 3 1 0 (([] : List Int).flatMap (eI .i64))] [St w []] := hLr.pick (rest := []) (perm_of_idx [0] [] rfl rfl (by kernel_rfl)) (sels [1] rfl)
  show trellisref25_Ranges_R w F  r (.returned (packV [.slice none 0 0, .bool true])) wr
  rw [h]
  exact ⟨none, 0, 0, rfl, hMr, (Ow.nil (z := w.heap.size))⟩
 ·have h := if_neg' hp2 h
  refine g_false (c := q83c7) rfl _ rfl ((decide_eq_false hp2)) ?_
  refine g_seq (c := q83c9) rfl ?_
  have j1 : ∀ (x5 : Bool) (h : trellisref25_Ranges_j1 x1 x5 r) , G (trellisref25_Ranges_C w F r) [.code q83c13, .inBlock 0, .code q83c4] [(0, .int .u8 x1), (7, .bool x5)] [] [Sm w.heap.size F w [], St w []] := by
   intro x5 h
   unfold trellisref25_Ranges_j1 at h
   by_cases hp6 : x5 = true
   ·have h := if_pos' hp6 h
    refine g_true (c := q83c13) rfl _ rfl (hp6) ?_
    refine g_seq (c := q83c14) rfl ?_
    refine g_region (c := q83c16) rfl rfl ?_
    refine wl_v 0 rfl (v_assign rfl) gn rfl ?_
    refine wl_v 1 rfl (v_assign rfl) gn rfl ?_
    refine w_end 2 rfl ?_
    refine g_nil 3 1 ?_
    refine g_retR (c := q83c17) [.slice none 0 0, .bool false] rfl Tryd.func83 rfl (.tmp rfl (.tmp rfl (.nil))) fun wr hLr => ?_
    have hMr : B.Loc w wr [.own (.slice none 0 0) 3 1 0 (([] : List Int).flatMap (eI .i64))] [St w []] := hLr.pick (rest := []) (perm_of_idx [0] [] rfl rfl (by kernel_rfl)) (sels [1] rfl)
    show trellisref25_Ranges_R w F  r (.returned (packV [.slice none 0 0, .bool false])) wr
    rw [h]
    exact ⟨none, 0, 0, rfl, hMr, (Ow.nil (z := w.heap.size))⟩
   ·have h := if_neg' hp6 h
    refine g_false (c := q83c13) rfl _ rfl ((bf hp6)) ?_
    refine g_seq (c := q83c15) rfl ?_
    refine g_region (c := q83c18) rfl rfl ?_
    refine wl_v 0 rfl (v_move rfl) gn rfl ?_
    refine wl_v 1 rfl (v_bin rfl rfl rfl) gn rfl ?_
    refine wl_v 2 rfl (v_assign rfl) gn rfl ?_
    refine w_end 3 rfl ?_
    by_cases hp7 : x1 < 224
    ·have h := if_pos' hp7 h
     refine g_true (c := q83c19) rfl _ rfl ((decide_eq_true hp7)) ?_
     refine g_seq (c := q83c20) rfl ?_
     refine g_region (c := q83c22) rfl rfl ?_
     refine wl_s 0 rfl (s_litO (xs := ([128, 191] : List Int)) [.int .i64 128, .int .i64 191] bs_46_2 rfl (by kernel_rfl) rfl rfl rfl rfl fun gb9 h10 => ?_) gn
     refine wl_v 1 rfl (v_assign rfl) gn rfl ?_
     refine wl_v 2 rfl (v_assign rfl) gn rfl ?_
     refine w_end 3 rfl ?_
     refine g_retR (c := q83c23) [.slice (some ⟨gb9, 0, none⟩) 2 2, .bool true] rfl Tryd.func83 rfl (.tmp rfl (.tmp rfl (.nil))) fun wr hLr => ?_
     have hMr : B.Loc w wr [.own (.slice (some ⟨gb9, 0, none⟩) 2 2) 3 1 2 (([128, 191] : List Int).flatMap (eI .i64))] [St w []] := hLr.pick (rest := []) (perm_of_idx [0] [] rfl rfl (by kernel_rfl)) (sels [1] rfl)
     show trellisref25_Ranges_R w F  r (.returned (packV [.slice (some ⟨gb9, 0, none⟩) 2 2, .bool true])) wr
     rw [h]
     exact ⟨(some ⟨gb9, 0, none⟩), 2, 2, rfl, hMr, h10⟩
    ·have h := if_neg' hp7 h
     refine g_false (c := q83c19) rfl _ rfl ((decide_eq_false hp7)) ?_
     refine g_seq (c := q83c21) rfl ?_
     refine g_region (c := q83c24) rfl rfl ?_
     refine wl_v 0 rfl (v_move rfl) gn rfl ?_
     refine wl_v 1 rfl (v_bin rfl rfl rfl) gn rfl ?_
     refine wl_v 2 rfl (v_assign rfl) gn rfl ?_
     refine w_end 3 rfl ?_
     by_cases hp11 : x1 = 224
     ·have h := if_pos' hp11 h
      refine g_true (c := q83c25) rfl _ rfl ((eqi hp11)) ?_
      refine g_seq (c := q83c26) rfl ?_
      refine g_region (c := q83c28) rfl rfl ?_
      refine wl_s 0 rfl (s_litO (xs := ([160, 191, 128, 191] : List Int)) [.int .i64 160, .int .i64 191, .int .i64 128, .int .i64 191] bs_46_4 rfl (by kernel_rfl) rfl rfl rfl rfl fun gb13 h14 => ?_) gn
      refine wl_v 1 rfl (v_assign rfl) gn rfl ?_
      refine wl_v 2 rfl (v_assign rfl) gn rfl ?_
      refine w_end 3 rfl ?_
      refine g_retR (c := q83c29) [.slice (some ⟨gb13, 0, none⟩) 4 4, .bool true] rfl Tryd.func83 rfl (.tmp rfl (.tmp rfl (.nil))) fun wr hLr => ?_
      have hMr : B.Loc w wr [.own (.slice (some ⟨gb13, 0, none⟩) 4 4) 3 1 4 (([160, 191, 128, 191] : List Int).flatMap (eI .i64))] [St w []] := hLr.pick (rest := []) (perm_of_idx [0] [] rfl rfl (by kernel_rfl)) (sels [1] rfl)
      show trellisref25_Ranges_R w F  r (.returned (packV [.slice (some ⟨gb13, 0, none⟩) 4 4, .bool true])) wr
      rw [h]
      exact ⟨(some ⟨gb13, 0, none⟩), 4, 4, rfl, hMr, h14⟩
     ·have h := if_neg' hp11 h
      refine g_false (c := q83c25) rfl _ rfl ((nei hp11)) ?_
      refine g_seq (c := q83c27) rfl ?_
      refine g_region (c := q83c30) rfl rfl ?_
      refine wl_v 0 rfl (v_move rfl) gn rfl ?_
      refine wl_v 1 rfl (v_bin rfl rfl rfl) gn rfl ?_
      refine wl_v 2 rfl (v_assign rfl) gn rfl ?_
      refine w_end 3 rfl ?_
      by_cases hp15 : x1 = 237
      ·have h := if_pos' hp15 h
       refine g_true (c := q83c31) rfl _ rfl ((eqi hp15)) ?_
       refine g_seq (c := q83c32) rfl ?_
       refine g_region (c := q83c34) rfl rfl ?_
       refine wl_s 0 rfl (s_litO (xs := ([128, 159, 128, 191] : List Int)) [.int .i64 128, .int .i64 159, .int .i64 128, .int .i64 191] bs_46_4 rfl (by kernel_rfl) rfl rfl rfl rfl fun gb17 h18 => ?_) gn
       refine wl_v 1 rfl (v_assign rfl) gn rfl ?_
       refine wl_v 2 rfl (v_assign rfl) gn rfl ?_
       refine w_end 3 rfl ?_
       refine g_retR (c := q83c35) [.slice (some ⟨gb17, 0, none⟩) 4 4, .bool true] rfl Tryd.func83 rfl (.tmp rfl (.tmp rfl (.nil))) fun wr hLr => ?_
       have hMr : B.Loc w wr [.own (.slice (some ⟨gb17, 0, none⟩) 4 4) 3 1 4 (([128, 159, 128, 191] : List Int).flatMap (eI .i64))] [St w []] := hLr.pick (rest := []) (perm_of_idx [0] [] rfl rfl (by kernel_rfl)) (sels [1] rfl)
       show trellisref25_Ranges_R w F  r (.returned (packV [.slice (some ⟨gb17, 0, none⟩) 4 4, .bool true])) wr
       rw [h]
       exact ⟨(some ⟨gb17, 0, none⟩), 4, 4, rfl, hMr, h18⟩
      ·have h := if_neg' hp15 h
       refine g_false (c := q83c31) rfl _ rfl ((nei hp15)) ?_
       refine g_seq (c := q83c33) rfl ?_
       refine g_region (c := q83c36) rfl rfl ?_
       refine wl_v 0 rfl (v_move rfl) gn rfl ?_
       refine wl_v 1 rfl (v_bin rfl rfl rfl) gn rfl ?_
       refine wl_v 2 rfl (v_assign rfl) gn rfl ?_
       refine w_end 3 rfl ?_
       by_cases hp19 : x1 < 240
       ·have h := if_pos' hp19 h
        refine g_true (c := q83c37) rfl _ rfl ((decide_eq_true hp19)) ?_
        refine g_seq (c := q83c38) rfl ?_
        refine g_region (c := q83c40) rfl rfl ?_
        refine wl_s 0 rfl (s_litO (xs := ([128, 191, 128, 191] : List Int)) [.int .i64 128, .int .i64 191, .int .i64 128, .int .i64 191] bs_46_4 rfl (by kernel_rfl) rfl rfl rfl rfl fun gb21 h22 => ?_) gn
        refine wl_v 1 rfl (v_assign rfl) gn rfl ?_
        refine wl_v 2 rfl (v_assign rfl) gn rfl ?_
        refine w_end 3 rfl ?_
        refine g_retR (c := q83c41) [.slice (some ⟨gb21, 0, none⟩) 4 4, .bool true] rfl Tryd.func83 rfl (.tmp rfl (.tmp rfl (.nil))) fun wr hLr => ?_
        have hMr : B.Loc w wr [.own (.slice (some ⟨gb21, 0, none⟩) 4 4) 3 1 4 (([128, 191, 128, 191] : List Int).flatMap (eI .i64))] [St w []] := hLr.pick (rest := []) (perm_of_idx [0] [] rfl rfl (by kernel_rfl)) (sels [1] rfl)
        show trellisref25_Ranges_R w F  r (.returned (packV [.slice (some ⟨gb21, 0, none⟩) 4 4, .bool true])) wr
        rw [h]
        exact ⟨(some ⟨gb21, 0, none⟩), 4, 4, rfl, hMr, h22⟩
       ·have h := if_neg' hp19 h
        refine g_false (c := q83c37) rfl _ rfl ((decide_eq_false hp19)) ?_
        refine g_seq (c := q83c39) rfl ?_
        refine g_region (c := q83c42) rfl rfl ?_
        refine wl_v 0 rfl (v_move rfl) gn rfl ?_
        refine wl_v 1 rfl (v_bin rfl rfl rfl) gn rfl ?_
        refine wl_v 2 rfl (v_assign rfl) gn rfl ?_
        refine w_end 3 rfl ?_
        by_cases hp23 : x1 = 240
        ·have h := if_pos' hp23 h
         refine g_true (c := q83c43) rfl _ rfl ((eqi hp23)) ?_
         refine g_seq (c := q83c44) rfl ?_
         refine g_region (c := q83c46) rfl rfl ?_
         refine wl_s 0 rfl (s_litO (xs := ([144, 191, 128, 191, 128, 191] : List Int)) [.int .i64 144, .int .i64 191, .int .i64 128, .int .i64 191, .int .i64 128, .int .i64 191] bs_46_6 rfl (by kernel_rfl) rfl rfl rfl rfl fun gb25 h26 => ?_) gn
         refine wl_v 1 rfl (v_assign rfl) gn rfl ?_
         refine wl_v 2 rfl (v_assign rfl) gn rfl ?_
         refine w_end 3 rfl ?_
         refine g_retR (c := q83c47) [.slice (some ⟨gb25, 0, none⟩) 6 6, .bool true] rfl Tryd.func83 rfl (.tmp rfl (.tmp rfl (.nil))) fun wr hLr => ?_
         have hMr : B.Loc w wr [.own (.slice (some ⟨gb25, 0, none⟩) 6 6) 3 1 6 (([144, 191, 128, 191, 128, 191] : List Int).flatMap (eI .i64))] [St w []] := hLr.pick (rest := []) (perm_of_idx [0] [] rfl rfl (by kernel_rfl)) (sels [1] rfl)
         show trellisref25_Ranges_R w F  r (.returned (packV [.slice (some ⟨gb25, 0, none⟩) 6 6, .bool true])) wr
         rw [h]
         exact ⟨(some ⟨gb25, 0, none⟩), 6, 6, rfl, hMr, h26⟩
        ·have h := if_neg' hp23 h
         refine g_false (c := q83c43) rfl _ rfl ((nei hp23)) ?_
         refine g_seq (c := q83c45) rfl ?_
         refine g_region (c := q83c48) rfl rfl ?_
         refine wl_v 0 rfl (v_move rfl) gn rfl ?_
         refine wl_v 1 rfl (v_bin rfl rfl rfl) gn rfl ?_
         refine wl_v 2 rfl (v_assign rfl) gn rfl ?_
         refine w_end 3 rfl ?_
         by_cases hp27 : x1 = 244
         ·have h := if_pos' hp27 h
          refine g_true (c := q83c49) rfl _ rfl ((eqi hp27)) ?_
          refine g_seq (c := q83c50) rfl ?_
          refine g_region (c := q83c52) rfl rfl ?_
          refine wl_s 0 rfl (s_litO (xs := ([128, 143, 128, 191, 128, 191] : List Int)) [.int .i64 128, .int .i64 143, .int .i64 128, .int .i64 191, .int .i64 128, .int .i64 191] bs_46_6 rfl (by kernel_rfl) rfl rfl rfl rfl fun gb29 h30 => ?_) gn
          refine wl_v 1 rfl (v_assign rfl) gn rfl ?_
          refine wl_v 2 rfl (v_assign rfl) gn rfl ?_
          refine w_end 3 rfl ?_
          refine g_retR (c := q83c53) [.slice (some ⟨gb29, 0, none⟩) 6 6, .bool true] rfl Tryd.func83 rfl (.tmp rfl (.tmp rfl (.nil))) fun wr hLr => ?_
          have hMr : B.Loc w wr [.own (.slice (some ⟨gb29, 0, none⟩) 6 6) 3 1 6 (([128, 143, 128, 191, 128, 191] : List Int).flatMap (eI .i64))] [St w []] := hLr.pick (rest := []) (perm_of_idx [0] [] rfl rfl (by kernel_rfl)) (sels [1] rfl)
          show trellisref25_Ranges_R w F  r (.returned (packV [.slice (some ⟨gb29, 0, none⟩) 6 6, .bool true])) wr
          rw [h]
          exact ⟨(some ⟨gb29, 0, none⟩), 6, 6, rfl, hMr, h30⟩
         ·have h := if_neg' hp27 h
          refine g_false (c := q83c49) rfl _ rfl ((nei hp27)) ?_
          refine g_skip (c := q83c51) rfl ?_
          refine g_inBlock ?_
          refine g_seq (c := q83c4) rfl ?_
          refine g_region (c := q83c54) rfl rfl ?_
          refine wl_s 0 rfl (s_litO (xs := ([128, 191, 128, 191, 128, 191] : List Int)) [.int .i64 128, .int .i64 191, .int .i64 128, .int .i64 191, .int .i64 128, .int .i64 191] bs_46_6 rfl (by kernel_rfl) rfl rfl rfl rfl fun gb32 h33 => ?_) gn
          refine wl_v 1 rfl (v_assign rfl) gn rfl ?_
          refine wl_v 2 rfl (v_assign rfl) gn rfl ?_
          refine w_end 3 rfl ?_
          refine g_retR (c := q83c55) [.slice (some ⟨gb32, 0, none⟩) 6 6, .bool true] rfl Tryd.func83 rfl (.tmp rfl (.tmp rfl (.nil))) fun wr hLr => ?_
          have hMr : B.Loc w wr [.own (.slice (some ⟨gb32, 0, none⟩) 6 6) 3 1 6 (([128, 191, 128, 191, 128, 191] : List Int).flatMap (eI .i64))] [St w []] := hLr.pick (rest := []) (perm_of_idx [0] [] rfl rfl (by kernel_rfl)) (sels [1] rfl)
          show trellisref25_Ranges_R w F  r (.returned (packV [.slice (some ⟨gb32, 0, none⟩) 6 6, .bool true])) wr
          rw [h]
          exact ⟨(some ⟨gb32, 0, none⟩), 6, 6, rfl, hMr, h33⟩
  refine g_region (c := q83c12) rfl rfl ?_
  refine wl_v 0 rfl (v_move rfl) gn rfl ?_
  refine wl_v 1 rfl (v_bin rfl rfl rfl) gn rfl ?_
  refine wl_v 2 rfl (v_move rfl) gn rfl ?_
  by_cases hp34 : x1 < 194
  ·have h := if_pos' hp34 h
   refine w_bool 10 rfl ((decide_eq_true hp34)) ?_
   refine wl_pass 3 rfl (ps 10 rfl rfl rfl) ?_
   refine wl_pass 4 rfl (ps 10 rfl rfl rfl) ?_
   refine wl_v 5 rfl (v_pick (b := true) rfl rfl) gn rfl ?_
   refine wl_v 6 rfl (v_assign rfl) gn rfl ?_
   refine w_end 7 rfl ?_
   exact g_go [0, 1] (j1 true h) ⟨rfl, rfl, trivial⟩ (.slnil) rfl
  ·have h := if_neg' hp34 h
   refine w_bool 10 rfl ((decide_eq_false hp34)) ?_
   refine wl_v 3 rfl (v_move rfl) (gy 10 rfl rfl) rfl ?_
   refine wl_v 4 rfl (v_bin rfl rfl rfl) (gy 10 rfl rfl) rfl ?_
   refine wl_v 5 rfl (v_pick (b := false) rfl rfl) gn rfl ?_
   refine wl_v 6 rfl (v_assign rfl) gn rfl ?_
   refine w_end 7 rfl ?_
   exact g_go [0, 1] (j1 (decide (x1 > 244)) h) ⟨rfl, rfl, trivial⟩ (.slnil) rfl
noncomputable abbrev q47c0 : Code := bodyOf Tryd.f47
noncomputable abbrev q47c1 : Code := Code.fst q47c0
noncomputable abbrev q47c2 : Code := Code.snd q47c0
noncomputable abbrev q47c3 : Code := Code.fst q47c2
noncomputable abbrev q47c4 : Code := Code.snd q47c2
noncomputable abbrev q47c5 : Code := Code.fst q47c3
noncomputable abbrev q47c6 : Code := Code.snd q47c3
noncomputable abbrev q47c7 : Code := Code.fst q47c6
noncomputable abbrev q47c8 : Code := Code.snd q47c6
noncomputable abbrev q47c9 : Code := Code.fst q47c7
noncomputable abbrev q47c10 : Code := Code.snd q47c7
noncomputable abbrev q47c11 : Code := Code.fst q47c4
noncomputable abbrev q47c12 : Code := Code.snd q47c4
abbrev trellisref25_Reader_stop_R (w : World) (F : Nat → Prop) (g2 : Nat) (Tb3 : Nat) (A4 : Option Addr) (n5 : Nat) (c6 : Nat) (z8 : Nat) (r : Int × trellisref25_Reader) : Ending → World → Prop := fun e w' => ∃ A0 : Option Addr, ∃ n0 : Nat, ∃ c0 : Nat, e = .returned (.int .i64 r.1) ∧ B.Loc w w' [.box g2 Tb3 [.string r.2.s, .slice A0 n0 c0, .int .i64 r.2.e, .int .i64 r.2.at_], .own (.slice A0 n0 c0) 31 4 n0 (r.2.l.flatMap enc_api_JNode)] [St w [[g2], (Value.slice A4 n5 c6).ownBlock.toList]] ∧ Ow z8 A0 n0 c0 r.2.l
noncomputable abbrev trellisref25_Reader_stop_C (w : World) (F : Nat → Prop) (g2 : Nat) (Tb3 : Nat) (A4 : Option Addr) (n5 : Nat) (c6 : Nat) (z8 : Nat) (r : Int × trellisref25_Reader) : Cx := ⟨Tryd.prog, 47, Tryd.f47, 21, trellisref25_Reader_stop_R w F g2 Tb3 A4 n5 c6 z8 r, w⟩
theorem trellisref25_Reader_stop_calls (w : World) (F : Nat → Prop) (x1 : trellisref25_Reader) (x10 : Int) (x11 : Int) (g2 : Nat) (Tb3 : Nat) (z8 : Nat) (A4 : Option Addr) (n5 : Nat) (c6 : Nat) (hz9 : z8 ≤ w.heap.size) (h7 : Ow z8 A4 n5 c6 x1.l) (hF : ∀ b, F b → b < w.heap.size ∧ ∀ o ∈ ([[g2], (Value.slice A4 n5 c6).ownBlock.toList] : List (List Nat)), b ∉ o) (hL0 : B.Loc w w [.box g2 Tb3 [.string x1.s, .slice A4 n5 c6, .int .i64 x1.e, .int .i64 x1.at_], .own (.slice A4 n5 c6) 31 4 n5 (x1.l.flatMap enc_api_JNode)] [Sm w.heap.size F w [[g2], (Value.slice A4 n5 c6).ownBlock.toList], St w [[g2], (Value.slice A4 n5 c6).ownBlock.toList]]) (r : Int × trellisref25_Reader) (h : trellisref25_Reader_stop x1 x10 x11 r) : Calls Tryd.prog 47 #[.pointer (some ⟨g2, 0, none⟩), .int .i64 x10, .int .i64 x11] w (trellisref25_Reader_stop_R w F g2 Tb3 A4 n5 c6 z8 r) := by
 unfold trellisref25_Reader_stop at h
 refine calls_of_Loc (vs := [.pointer (some ⟨g2, 0, none⟩), .int .i64 x10, .int .i64 x11]) 21 Tryd.func47 rfl Tryd.ntmps47 rfl hL0 ?_
 show G (trellisref25_Reader_stop_C w F g2 Tb3 A4 n5 c6 z8 r) _ _ _ _
 refine g_seq (c := q47c0) rfl ?_
 refine g_region (c := q47c1) rfl rfl ?_
 refine wl_v 0 rfl (v_assign rfl) gn rfl ?_
 refine w_end 1 rfl ?_
 refine g_seq (c := q47c2) rfl ?_
 refine g_seq (c := q47c3) rfl ?_
 refine g_region (c := q47c5) rfl rfl ?_
 refine wl_v 0 rfl (v_move rfl) gn rfl ?_
 refine wl_v 1 rfl (v_nilCheck rfl) gn rfl ?_
 refine wl_v 2 rfl (v_fldB fo_73_2 rfl) gn rfl ?_
 refine wl_v 3 rfl (v_ldB1 0 ld_34 rfl rfl rfl) gn rfl ?_
 refine wl_v 4 rfl (v_bin rfl rfl rfl) gn rfl ?_
 refine w_end 5 rfl ?_
 by_cases hp12 : x1.e = 0
 ·have h := if_pos' hp12 h
  refine g_true (c := q47c6) rfl _ rfl ((eqi hp12)) ?_
  refine g_seq (c := q47c7) rfl ?_
  refine g_region (c := q47c9) rfl rfl ?_
  refine wl_v 0 rfl (v_move rfl) gn rfl ?_
  refine wl_v 1 rfl (v_move rfl) gn rfl ?_
  refine wl_v 2 rfl (v_nilCheck rfl) gn rfl ?_
  refine wl_v 3 rfl (v_fldB fo_73_2 rfl) gn rfl ?_
  refine wl_s 4 rfl (s_stB (vs := [.int .i64 x10]) (cs' := [.string x1.s, .slice A4 n5 c6, .int .i64 x10, .int .i64 x1.at_]) (M' := [.box g2 Tb3 [.string x1.s, .slice A4 n5 c6, .int .i64 x10, .int .i64 x1.at_], .own (.slice A4 n5 c6) 31 4 n5 (x1.l.flatMap enc_api_JNode)]) 0 sz_34 rfl rfl rfl rfl rfl rfl rfl rfl rfl ?_) gn
  refine w_end 5 rfl ?_
  refine g_region (c := q47c10) rfl rfl ?_
  refine wl_v 0 rfl (v_move rfl) gn rfl ?_
  refine wl_v 1 rfl (v_move rfl) gn rfl ?_
  refine wl_v 2 rfl (v_nilCheck rfl) gn rfl ?_
  refine wl_v 3 rfl (v_fldB fo_73_3 rfl) gn rfl ?_
  refine wl_s 4 rfl (s_stB (vs := [.int .i64 x11]) (cs' := [.string x1.s, .slice A4 n5 c6, .int .i64 x10, .int .i64 x11]) (M' := [.box g2 Tb3 [.string x1.s, .slice A4 n5 c6, .int .i64 x10, .int .i64 x11], .own (.slice A4 n5 c6) 31 4 n5 (x1.l.flatMap enc_api_JNode)]) 0 sz_3 rfl rfl rfl rfl rfl rfl rfl rfl rfl ?_) gn
  refine w_end 5 rfl ?_
  refine g_seq (c := q47c4) rfl ?_
  refine g_region (c := q47c11) rfl rfl ?_
  refine wl_v 0 rfl (v_move rfl) gn rfl ?_
  refine wl_v 1 rfl (v_assign rfl) gn rfl ?_
  refine w_end 2 rfl ?_
  refine g_retR (c := q47c12) [.int .i64 x11] rfl Tryd.func47 rfl (.tmp rfl (.nil)) fun wr hLr => ?_
  have hMr : B.Loc w wr [.box g2 Tb3 [.string x1.s, .slice A4 n5 c6, .int .i64 x10, .int .i64 x11], .own (.slice A4 n5 c6) 31 4 n5 (x1.l.flatMap enc_api_JNode)] [St w [[g2], (Value.slice A4 n5 c6).ownBlock.toList]] := hLr.pick (rest := []) (perm_of_idx [0, 1] [] rfl rfl (by kernel_rfl)) (sels [1] rfl)
  show trellisref25_Reader_stop_R w F g2 Tb3 A4 n5 c6 z8 r (.returned (packV [.int .i64 x11])) wr
  rw [h]
  exact ⟨A4, n5, c6, rfl, hMr, h7⟩
 ·have h := if_neg' hp12 h
  refine g_false (c := q47c6) rfl _ rfl ((nei hp12)) ?_
  refine g_skip (c := q47c8) rfl ?_
  refine g_seq (c := q47c4) rfl ?_
  refine g_region (c := q47c11) rfl rfl ?_
  refine wl_v 0 rfl (v_move rfl) gn rfl ?_
  refine wl_v 1 rfl (v_assign rfl) gn rfl ?_
  refine w_end 2 rfl ?_
  refine g_retR (c := q47c12) [.int .i64 x11] rfl Tryd.func47 rfl (.tmp rfl (.nil)) fun wr hLr => ?_
  have hMr : B.Loc w wr [.box g2 Tb3 [.string x1.s, .slice A4 n5 c6, .int .i64 x1.e, .int .i64 x1.at_], .own (.slice A4 n5 c6) 31 4 n5 (x1.l.flatMap enc_api_JNode)] [St w [[g2], (Value.slice A4 n5 c6).ownBlock.toList]] := hLr.pick (rest := []) (perm_of_idx [0, 1] [] rfl rfl (by kernel_rfl)) (sels [1] rfl)
  show trellisref25_Reader_stop_R w F g2 Tb3 A4 n5 c6 z8 r (.returned (packV [.int .i64 x11])) wr
  rw [h]
  exact ⟨A4, n5, c6, rfl, hMr, h7⟩
noncomputable abbrev q69c0 : Code := bodyOf Tryd.f69
noncomputable abbrev q69c1 : Code := Code.fst q69c0
noncomputable abbrev q69c2 : Code := Code.snd q69c0
noncomputable abbrev q69c3 : Code := Code.fst q69c2
noncomputable abbrev q69c4 : Code := Code.snd q69c2
noncomputable abbrev q69c5 : Code := Code.fst q69c4
noncomputable abbrev q69c6 : Code := Code.snd q69c4
noncomputable abbrev q69c7 : Code := Code.fst q69c5
noncomputable abbrev q69c8 : Code := Code.snd q69c5
noncomputable abbrev q69c9 : Code := Code.fst q69c8
noncomputable abbrev q69c10 : Code := Code.snd q69c8
noncomputable abbrev q69c11 : Code := Code.fst q69c6
noncomputable abbrev q69c12 : Code := Code.snd q69c6
noncomputable abbrev q69c13 : Code := Code.fst q69c12
noncomputable abbrev q69c14 : Code := Code.snd q69c12
noncomputable abbrev q69c15 : Code := Code.fst q69c13
noncomputable abbrev q69c16 : Code := Code.snd q69c13
noncomputable abbrev q69c17 : Code := Code.fst q69c16
noncomputable abbrev q69c18 : Code := Code.fst q69c17
noncomputable abbrev q69c19 : Code := Code.fst q69c18
noncomputable abbrev q69c20 : Code := Code.snd q69c18
noncomputable abbrev q69c21 : Code := Code.fst q69c19
noncomputable abbrev q69c22 : Code := Code.snd q69c19
noncomputable abbrev q69c23 : Code := Code.fst q69c22
noncomputable abbrev q69c24 : Code := Code.snd q69c22
noncomputable abbrev q69c25 : Code := Code.fst q69c20
noncomputable abbrev q69c26 : Code := Code.snd q69c20
noncomputable abbrev q69c27 : Code := Code.fst q69c25
noncomputable abbrev q69c28 : Code := Code.fst q69c27
noncomputable abbrev q69c29 : Code := Code.snd q69c27
noncomputable abbrev q69c30 : Code := Code.fst q69c28
noncomputable abbrev q69c31 : Code := Code.snd q69c28
noncomputable abbrev q69c32 : Code := Code.fst q69c31
noncomputable abbrev q69c33 : Code := Code.snd q69c31
noncomputable abbrev q69c34 : Code := Code.fst q69c32
noncomputable abbrev q69c35 : Code := Code.snd q69c32
noncomputable abbrev q69c36 : Code := Code.fst q69c14
noncomputable abbrev q69c37 : Code := Code.snd q69c14
noncomputable abbrev q69c38 : Code := Code.fst q69c9
noncomputable abbrev q69c39 : Code := Code.snd q69c9
abbrev trellisref25_Reader_char_R (w : World) (F : Nat → Prop) (g2 : Nat) (Tb3 : Nat) (A4 : Option Addr) (n5 : Nat) (c6 : Nat) (z8 : Nat) (r : Int × trellisref25_Reader) : Ending → World → Prop := fun e w' => ∃ A0 : Option Addr, ∃ n0 : Nat, ∃ c0 : Nat, e = .returned (.int .i64 r.1) ∧ B.Loc w w' [.box g2 Tb3 [.string r.2.s, .slice A0 n0 c0, .int .i64 r.2.e, .int .i64 r.2.at_], .own (.slice A0 n0 c0) 31 4 n0 (r.2.l.flatMap enc_api_JNode)] [St w [[g2], (Value.slice A4 n5 c6).ownBlock.toList]] ∧ Ow z8 A0 n0 c0 r.2.l
noncomputable abbrev trellisref25_Reader_char_C (w : World) (F : Nat → Prop) (g2 : Nat) (Tb3 : Nat) (A4 : Option Addr) (n5 : Nat) (c6 : Nat) (z8 : Nat) (r : Int × trellisref25_Reader) : Cx := ⟨Tryd.prog, 69, Tryd.f69, 73, trellisref25_Reader_char_R w F g2 Tb3 A4 n5 c6 z8 r, w⟩
theorem trellisref25_Reader_char_calls (w : World) (F : Nat → Prop) (x1 : trellisref25_Reader) (x10 : Int) (g2 : Nat) (Tb3 : Nat) (z8 : Nat) (A4 : Option Addr) (n5 : Nat) (c6 : Nat) (hz9 : z8 ≤ w.heap.size) (h7 : Ow z8 A4 n5 c6 x1.l) (hF : ∀ b, F b → b < w.heap.size ∧ ∀ o ∈ ([[g2], (Value.slice A4 n5 c6).ownBlock.toList] : List (List Nat)), b ∉ o) (hL0 : B.Loc w w [.box g2 Tb3 [.string x1.s, .slice A4 n5 c6, .int .i64 x1.e, .int .i64 x1.at_], .own (.slice A4 n5 c6) 31 4 n5 (x1.l.flatMap enc_api_JNode)] [Sm w.heap.size F w [[g2], (Value.slice A4 n5 c6).ownBlock.toList], St w [[g2], (Value.slice A4 n5 c6).ownBlock.toList]]) (r : Int × trellisref25_Reader) (h : trellisref25_Reader_char x1 x10 r) : Calls Tryd.prog 69 #[.pointer (some ⟨g2, 0, none⟩), .int .i64 x10] w (trellisref25_Reader_char_R w F g2 Tb3 A4 n5 c6 z8 r) := by
 unfold trellisref25_Reader_char at h
 refine calls_of_Loc (vs := [.pointer (some ⟨g2, 0, none⟩), .int .i64 x10]) 73 Tryd.func69 rfl Tryd.ntmps69 rfl hL0 ?_
 show G (trellisref25_Reader_char_C w F g2 Tb3 A4 n5 c6 z8 r) _ _ _ _
 refine g_seq (c := q69c0) rfl ?_
 refine g_region (c := q69c1) rfl rfl ?_
 refine wl_v 0 rfl (v_assign rfl) gn rfl ?_
 refine w_end 1 rfl ?_
 refine g_seq (c := q69c2) rfl ?_
 refine g_region (c := q69c3) rfl rfl ?_
 refine wl_v 0 rfl (v_move rfl) gn rfl ?_
 refine wl_v 1 rfl (v_nilCheck rfl) gn rfl ?_
 refine wl_v 2 rfl (v_fldB fo_73_0 rfl) gn rfl ?_
 refine wl_v 3 rfl (v_ldB1 0 ld_9 rfl rfl rfl) gn rfl ?_
 refine wl_v 4 rfl (v_move rfl) gn rfl ?_
 obtain ⟨hb11, h⟩ := h
 refine wl_v 5 rfl (v_indexS un_9 rfl rfl hb11) gn rfl ?_
 obtain ⟨r15, hv16, h⟩ := h
 refine wl_s 6 rfl (s_call [.int .u8 (bt x1.s x10)] rfl Tryd.func83 rfl rfl rfl fun w12 hL13 => ?_) gn
 have hp14 : List.Perm ([.box g2 Tb3 [.string x1.s, .slice A4 n5 c6, .int .i64 x1.e, .int .i64 x1.at_], .own (.slice A4 n5 c6) 31 4 n5 (x1.l.flatMap enc_api_JNode)] : List Ent) (([] : List Ent) ++ ([.box g2 Tb3 [.string x1.s, .slice A4 n5 c6, .int .i64 x1.e, .int .i64 x1.at_], .own (.slice A4 n5 c6) 31 4 n5 (x1.l.flatMap enc_api_JNode)] : List Ent)) := perm_of_idx [] [0, 1] rfl rfl (by kernel_rfl)
 refine Calls.mono (trellisref25_Ranges_calls w12 (Fl ([] : List Snap)) (bt x1.s x10) (hL13.hFl (Sl := ([] : List Snap)) hp14 (sels [] rfl)) (hL13.into hp14 (Fl ([] : List Snap))) r15 hv16) ?_
 rintro _ w22 ⟨A17, n18, c19, rfl, hM23, h20⟩
 have hL24 := hL13.call hp14 hM23
 refine ⟨_, _, _, rfl, hL24, ?_⟩
 refine wl_v 7 rfl (v_move rfl) gn rfl ?_
 refine wl_v 8 rfl (v_extract rfl rfl) gn rfl ?_
 refine wl_v 9 rfl (v_extract rfl rfl) gn rfl ?_
 refine wl_v 10 rfl (v_assign rfl) gn rfl ?_
 refine wl_v 11 rfl (v_assign rfl) gn rfl ?_
 refine w_end 12 rfl ?_
 refine g_seq (c := q69c4) rfl ?_
 refine g_seq (c := q69c5) rfl ?_
 refine g_region (c := q69c7) rfl rfl ?_
 refine wl_v 0 rfl (v_move rfl) gn rfl ?_
 refine wl_v 1 rfl (v_not rfl) gn rfl ?_
 refine w_end 2 rfl ?_
 by_cases hp25 : r15.2 = true
 ·have h := if_pos' hp25 h
  refine g_false (c := q69c8) rfl _ rfl ((nf hp25)) ?_
  refine g_skip (c := q69c10) rfl ?_
  refine g_seq (c := q69c6) rfl ?_
  refine g_region (c := q69c11) rfl rfl ?_
  refine wl_v 0 rfl (v_move rfl) gn rfl ?_
  refine wl_v 1 rfl (v_bin rfl rfl rfl) gn rfl ?_
  refine wl_v 2 rfl (v_assign rfl) gn rfl ?_
  refine w_end 3 rfl ?_
  refine g_seq (c := q69c12) rfl ?_
  refine g_seq (c := q69c13) rfl ?_
  refine g_region (c := q69c15) rfl rfl ?_
  refine wl_v 0 rfl (v_assign rfl) gn rfl ?_
  refine w_end 1 rfl ?_
  refine g_block (c := q69c16) rfl ?_
  refine g_loop (c := q69c17) rfl ?_
  have key1 : ∀ s, Rounds (fun (s : Int × Int) o => trellisref25_Reader_char_b1 r15 x1 s.1 s.2 o) s r → (fun (s : Int × Int) => ∀ (_ : Unit), G (trellisref25_Reader_char_C w F g2 Tb3 A4 n5 c6 z8 r) [.code q69c18, .inLoop q69c18, .inBlock 0, .code q69c14] [(0, .pointer (some ⟨g2, 0, none⟩)), (1, .int .i64 s.1), (5, .slice A17 n18 c19), (7, .int .i64 s.2)] [.own (.slice A17 n18 c19) 3 1 n18 (r15.1.flatMap (eI .i64)), .box g2 Tb3 [.string x1.s, .slice A4 n5 c6, .int .i64 x1.e, .int .i64 x1.at_], .own (.slice A4 n5 c6) 31 4 n5 (x1.l.flatMap enc_api_JNode)] [Sm w.heap.size F w [[g2], (Value.slice A4 n5 c6).ownBlock.toList], St w [[g2], (Value.slice A4 n5 c6).ownBlock.toList]]) s := by
   intro s hs
   refine Rounds.ind (mot := (fun (s : Int × Int) => ∀ (_ : Unit), G (trellisref25_Reader_char_C w F g2 Tb3 A4 n5 c6 z8 r) [.code q69c18, .inLoop q69c18, .inBlock 0, .code q69c14] [(0, .pointer (some ⟨g2, 0, none⟩)), (1, .int .i64 s.1), (5, .slice A17 n18 c19), (7, .int .i64 s.2)] [.own (.slice A17 n18 c19) 3 1 n18 (r15.1.flatMap (eI .i64)), .box g2 Tb3 [.string x1.s, .slice A4 n5 c6, .int .i64 x1.e, .int .i64 x1.at_], .own (.slice A4 n5 c6) 31 4 n5 (x1.l.flatMap enc_api_JNode)] [Sm w.heap.size F w [[g2], (Value.slice A4 n5 c6).ownBlock.toList], St w [[g2], (Value.slice A4 n5 c6).ownBlock.toList]])) ?_ hs
   clear hs s
   intro s o1 h hO1
   obtain ⟨x54, x55⟩ := s
   show ∀ (_ : Unit), G (trellisref25_Reader_char_C w F g2 Tb3 A4 n5 c6 z8 r) [.code q69c18, .inLoop q69c18, .inBlock 0, .code q69c14] [(0, .pointer (some ⟨g2, 0, none⟩)), (1, .int .i64 x54), (5, .slice A17 n18 c19), (7, .int .i64 x55)] [.own (.slice A17 n18 c19) 3 1 n18 (r15.1.flatMap (eI .i64)), .box g2 Tb3 [.string x1.s, .slice A4 n5 c6, .int .i64 x1.e, .int .i64 x1.at_], .own (.slice A4 n5 c6) 31 4 n5 (x1.l.flatMap enc_api_JNode)] [Sm w.heap.size F w [[g2], (Value.slice A4 n5 c6).ownBlock.toList], St w [[g2], (Value.slice A4 n5 c6).ownBlock.toList]]
   intro _
   have h : trellisref25_Reader_char_b1 r15 x1 x54 x55 o1 := h
   unfold trellisref25_Reader_char_b1 at h
   refine g_seq (c := q69c18) rfl ?_
   refine g_seq (c := q69c19) rfl ?_
   refine g_region (c := q69c21) rfl rfl ?_
   refine wl_v 0 rfl (v_move rfl) gn rfl ?_
   refine wl_v 1 rfl (v_move rfl) gn rfl ?_
   refine wl_v 2 rfl (v_lenQ un_46 rfl (Ow.weak hL13.env.size h20).hq) gn rfl ?_
   refine wl_v 3 rfl (v_bin rfl rfl rfl) gn rfl ?_
   refine w_end 4 rfl ?_
   by_cases hp83 : x55 < (r15.1.length : Int)
   ·have h := if_pos' hp83 h
    refine g_true (c := q69c22) rfl _ rfl ((decide_eq_true hp83)) ?_
    refine g_skip (c := q69c23) rfl ?_
    refine g_seq (c := q69c20) rfl ?_
    refine g_block (c := q69c25) rfl ?_
    refine g_seq (c := q69c27) rfl ?_
    refine g_seq (c := q69c28) rfl ?_
    have j2 : ∀ (x90 : Bool) (h : trellisref25_Reader_char_j2 x1 x54 x55 x90 o1) , G (trellisref25_Reader_char_C w F g2 Tb3 A4 n5 c6 z8 r) [.code q69c31, .code q69c29, .inBlock 1, .code q69c26, .inLoop q69c18, .inBlock 0, .code q69c14] [(0, .pointer (some ⟨g2, 0, none⟩)), (1, .int .i64 x54), (5, .slice A17 n18 c19), (7, .int .i64 x55), (66, .bool x90)] [.own (.slice A17 n18 c19) 3 1 n18 (r15.1.flatMap (eI .i64)), .box g2 Tb3 [.string x1.s, .slice A4 n5 c6, .int .i64 x1.e, .int .i64 x1.at_], .own (.slice A4 n5 c6) 31 4 n5 (x1.l.flatMap enc_api_JNode)] [Sm w.heap.size F w [[g2], (Value.slice A4 n5 c6).ownBlock.toList], St w [[g2], (Value.slice A4 n5 c6).ownBlock.toList]] := by
     intro x90 h
     unfold trellisref25_Reader_char_j2 at h
     by_cases hp91 : x90 = true
     ·have h := if_pos' hp91 h
      refine g_true (c := q69c31) rfl _ rfl (hp91) ?_
      refine g_seq (c := q69c32) rfl ?_
      refine g_region (c := q69c34) rfl rfl ?_
      refine wl_v 0 rfl (v_move rfl) gn rfl ?_
      refine wl_v 1 rfl (v_move rfl) gn rfl ?_
      obtain ⟨r95, hv96, h⟩ := h
      refine wl_s 2 rfl (s_call [.pointer (some ⟨g2, 0, none⟩), .int .i64 250, .int .i64 x54] rfl Tryd.func47 rfl rfl rfl fun w92 hL93 => ?_) gn
      have hp94 : List.Perm ([.own (.slice A17 n18 c19) 3 1 n18 (r15.1.flatMap (eI .i64)), .box g2 Tb3 [.string x1.s, .slice A4 n5 c6, .int .i64 x1.e, .int .i64 x1.at_], .own (.slice A4 n5 c6) 31 4 n5 (x1.l.flatMap enc_api_JNode)] : List Ent) (([.box g2 Tb3 [.string x1.s, .slice A4 n5 c6, .int .i64 x1.e, .int .i64 x1.at_], .own (.slice A4 n5 c6) 31 4 n5 (x1.l.flatMap enc_api_JNode)] : List Ent) ++ ([.own (.slice A17 n18 c19) 3 1 n18 (r15.1.flatMap (eI .i64))] : List Ent)) := perm_of_idx [1, 2] [0] rfl rfl (by kernel_rfl)
      refine Calls.mono (trellisref25_Reader_stop_calls w92 (Fl ([] : List Snap)) x1 250 x54 g2 Tb3 z8 A4 n5 c6 (Nat.le_trans hz9 hL93.env.size) h7 (hL93.hFl (Sl := ([] : List Snap)) hp94 (sels [] rfl)) (hL93.into hp94 (Fl ([] : List Snap))) r95 hv96) ?_
      rintro _ w102 ⟨A97, n98, c99, rfl, hM103, h100⟩
      have hL104 := hL93.call hp94 hM103
      refine ⟨_, _, _, rfl, hL104, ?_⟩
      refine wl_v 3 rfl (v_assign rfl) gn rfl ?_
      refine w_end 4 rfl ?_
      have h := Out.inr hO1 h
      refine g_retR (c := q69c35) [.int .i64 r95.1] rfl Tryd.func69 rfl (.tmp rfl (.nil)) fun wr hLr => ?_
      have hMr : B.Loc w wr [.box g2 Tb3 [.string r95.2.s, .slice A97 n98 c99, .int .i64 r95.2.e, .int .i64 r95.2.at_], .own (.slice A97 n98 c99) 31 4 n98 (r95.2.l.flatMap enc_api_JNode)] [St w [[g2], (Value.slice A4 n5 c6).ownBlock.toList]] := hLr.pick (rest := [.own (.slice A17 n18 c19) 3 1 n18 (r15.1.flatMap (eI .i64))]) (perm_of_idx [0, 1] [2] rfl rfl (by kernel_rfl)) (sels [1] rfl)
      show trellisref25_Reader_char_R w F g2 Tb3 A4 n5 c6 z8 r (.returned (packV [.int .i64 r95.1])) wr
      rw [h]
      exact ⟨A97, n98, c99, rfl, hMr, h100⟩
     ·have h := if_neg' hp91 h
      refine g_false (c := q69c31) rfl _ rfl ((bf hp91)) ?_
      refine g_skip (c := q69c33) rfl ?_
      refine g_region (c := q69c29) rfl rfl ?_
      refine wl_v 0 rfl (v_move rfl) gn rfl ?_
      refine wl_v 1 rfl (v_bin rfl rfl rfl) gn rfl ?_
      refine wl_v 2 rfl (v_assign rfl) gn rfl ?_
      refine w_end 3 rfl ?_
      refine g_inBlock ?_
      refine g_region (c := q69c26) rfl rfl ?_
      refine wl_v 0 rfl (v_move rfl) gn rfl ?_
      refine wl_v 1 rfl (v_bin rfl rfl rfl) gn rfl ?_
      refine wl_v 2 rfl (v_assign rfl) gn rfl ?_
      refine w_end 3 rfl ?_
      refine g_inLoop ?_
      have ih := Out.inl hO1 h
      exact g_go [0, 1] (ih ()) ⟨rfl, rfl, rfl, rfl, trivial⟩ (.cons_cons _ (.cons_cons _ (.cons_cons _ (.slnil)))) rfl
    by_cases hp105 : x54 ≥ (x1.s.size : Int)
    ·have h := if_pos' hp105 h
     have hns : Region.noSelect (Code.ops q69c30) = true := by kernel_rfl
     refine g_drawF (c := q69c30) [.own (.slice A17 n18 c19) 3 1 n18 (r15.1.flatMap (eI .i64)), .box g2 Tb3 [.string x1.s, .slice A4 n5 c6, .int .i64 x1.e, .int .i64 x1.at_], .own (.slice A4 n5 c6) 31 4 n5 (x1.l.flatMap enc_api_JNode)] [Sm w.heap.size F w [[g2], (Value.slice A4 n5 c6).ownBlock.toList], St w [[g2], (Value.slice A4 n5 c6).ownBlock.toList]] [] 36 rfl rfl mix rfl (.cons_cons _ (.cons_cons _ (.cons_cons _ (.slnil)))) (sels [0, 1] rfl) ?_
     refine wfv 0 rfl (v_move rfl) gn hns rfl ?_
     refine wfv 1 rfl (v_move rfl) gn hns rfl ?_
     refine wfv 2 rfl (v_nilCheck rfl) gn hns rfl ?_
     refine wfv 3 rfl (v_fldB fo_73_0 rfl) gn hns rfl ?_
     refine wfv 4 rfl (v_ldB1 1 ld_9 rfl rfl rfl) gn hns rfl ?_
     refine wfv 5 rfl (v_lenS un_9 rfl) gn hns rfl ?_
     refine wfv 6 rfl (v_bin rfl rfl rfl) gn hns rfl ?_
     refine wfv 7 rfl (v_move rfl) gn hns rfl ?_
     refine wf_bool 38 rfl ((decide_eq_true hp105)) ?_
     refine wfp 8 rfl (ps 38 rfl rfl rfl) hns rfl ?_
     refine wfp 9 rfl (ps 38 rfl rfl rfl) hns rfl ?_
     refine wfp 10 rfl (ps 38 rfl rfl rfl) hns rfl ?_
     refine wfp 11 rfl (ps 38 rfl rfl rfl) hns rfl ?_
     refine wfp 12 rfl (ps 38 rfl rfl rfl) hns rfl ?_
     refine wfp 13 rfl (ps 38 rfl rfl rfl) hns rfl ?_
     refine wfp 14 rfl (ps 38 rfl rfl rfl) hns rfl ?_
     refine wfp 15 rfl (ps 38 rfl rfl rfl) hns rfl ?_
     refine wfp 16 rfl (ps 38 rfl rfl rfl) hns rfl ?_
     refine wfp 17 rfl (ps 38 rfl rfl rfl) hns rfl ?_
     refine wfp 18 rfl (ps 38 rfl rfl rfl) hns rfl ?_
     refine wfp 19 rfl (ps 38 rfl rfl rfl) hns rfl ?_
     refine wfv 20 rfl (v_pick (b := true) rfl rfl) gn hns rfl ?_
     refine wfv 21 rfl (v_move rfl) gn hns rfl ?_
     refine wfp 22 rfl (ps 52 rfl rfl rfl) hns rfl ?_
     refine wfp 23 rfl (ps 52 rfl rfl rfl) hns rfl ?_
     refine wfp 24 rfl (ps 52 rfl rfl rfl) hns rfl ?_
     refine wfp 25 rfl (ps 52 rfl rfl rfl) hns rfl ?_
     refine wfp 26 rfl (ps 52 rfl rfl rfl) hns rfl ?_
     refine wfp 27 rfl (ps 52 rfl rfl rfl) hns rfl ?_
     refine wfp 28 rfl (ps 52 rfl rfl rfl) hns rfl ?_
     refine wfp 29 rfl (ps 52 rfl rfl rfl) hns rfl ?_
     refine wfp 30 rfl (ps 52 rfl rfl rfl) hns rfl ?_
     refine wfp 31 rfl (ps 52 rfl rfl rfl) hns rfl ?_
     refine wfp 32 rfl (ps 52 rfl rfl rfl) hns rfl ?_
     refine wfp 33 rfl (ps 52 rfl rfl rfl) hns rfl ?_
     refine wfp 34 rfl (ps 52 rfl rfl rfl) hns rfl ?_
     refine wfv 35 rfl (v_pick (b := true) rfl rfl) gn hns rfl ?_
     refine wf_end (by kernel_rfl) ?_
     exact g_go [0, 1] (j2 true h) ⟨rfl, rfl, rfl, rfl, rfl, trivial⟩ (.cons_cons _ (.cons_cons _ (.cons_cons _ (.slnil)))) rfl
    ·have h := if_neg' hp105 h
     obtain ⟨hb106, h⟩ := h
     obtain ⟨hb107, h⟩ := h
     by_cases hp108 : w64 (bt x1.s x54) < ix r15.1 x55
     ·have h := if_pos' hp108 h
      have hns : Region.noSelect (Code.ops q69c30) = true := by kernel_rfl
      refine g_drawF (c := q69c30) [.own (.slice A17 n18 c19) 3 1 n18 (r15.1.flatMap (eI .i64)), .box g2 Tb3 [.string x1.s, .slice A4 n5 c6, .int .i64 x1.e, .int .i64 x1.at_], .own (.slice A4 n5 c6) 31 4 n5 (x1.l.flatMap enc_api_JNode)] [Sm w.heap.size F w [[g2], (Value.slice A4 n5 c6).ownBlock.toList], St w [[g2], (Value.slice A4 n5 c6).ownBlock.toList]] [] 36 rfl rfl mix rfl (.cons_cons _ (.cons_cons _ (.cons_cons _ (.slnil)))) (sels [0, 1] rfl) ?_
      refine wfv 0 rfl (v_move rfl) gn hns rfl ?_
      refine wfv 1 rfl (v_move rfl) gn hns rfl ?_
      refine wfv 2 rfl (v_nilCheck rfl) gn hns rfl ?_
      refine wfv 3 rfl (v_fldB fo_73_0 rfl) gn hns rfl ?_
      refine wfv 4 rfl (v_ldB1 1 ld_9 rfl rfl rfl) gn hns rfl ?_
      refine wfv 5 rfl (v_lenS un_9 rfl) gn hns rfl ?_
      refine wfv 6 rfl (v_bin rfl rfl rfl) gn hns rfl ?_
      refine wfv 7 rfl (v_move rfl) gn hns rfl ?_
      refine wf_bool 38 rfl ((decide_eq_false hp105)) ?_
      refine wfv 8 rfl (v_move rfl) (gy 38 rfl rfl) hns rfl ?_
      refine wfv 9 rfl (v_nilCheck rfl) (gy 38 rfl rfl) hns rfl ?_
      refine wfv 10 rfl (v_fldB fo_73_0 rfl) (gy 38 rfl rfl) hns rfl ?_
      refine wfv 11 rfl (v_ldB1 1 ld_9 rfl rfl rfl) (gy 38 rfl rfl) hns rfl ?_
      refine wfv 12 rfl (v_move rfl) (gy 38 rfl rfl) hns rfl ?_
      refine wfv 13 rfl (v_indexS un_9 rfl rfl hb106) (gy 38 rfl rfl) hns rfl ?_
      refine wfv 14 rfl (v_conv ⟨_, un_5⟩ un_3 rfl) (gy 38 rfl rfl) hns rfl ?_
      refine wfv 15 rfl (v_move rfl) (gy 38 rfl rfl) hns rfl ?_
      refine wfv 16 rfl (v_move rfl) (gy 38 rfl rfl) hns rfl ?_
      refine wfv 17 rfl (v_idxO slE_46 rfl rfl (Ow.weak hL13.env.size h20) hb107) (gy 38 rfl rfl) hns rfl ?_
      refine wfv 18 rfl (v_ldO1 (.int .i64 (ix r15.1 x55)) 0 ld_3 rfl rfl (fm_get0 (hlI .i64) hb107 rfl)) (gy 38 rfl rfl) hns rfl ?_
      refine wfv 19 rfl (v_bin rfl rfl rfl) (gy 38 rfl rfl) hns rfl ?_
      refine wfv 20 rfl (v_pick (b := false) rfl rfl) gn hns rfl ?_
      refine wfv 21 rfl (v_move rfl) gn hns rfl ?_
      refine wf_bool 52 rfl ((decide_eq_true hp108)) ?_
      refine wfp 22 rfl (ps 52 rfl rfl rfl) hns rfl ?_
      refine wfp 23 rfl (ps 52 rfl rfl rfl) hns rfl ?_
      refine wfp 24 rfl (ps 52 rfl rfl rfl) hns rfl ?_
      refine wfp 25 rfl (ps 52 rfl rfl rfl) hns rfl ?_
      refine wfp 26 rfl (ps 52 rfl rfl rfl) hns rfl ?_
      refine wfp 27 rfl (ps 52 rfl rfl rfl) hns rfl ?_
      refine wfp 28 rfl (ps 52 rfl rfl rfl) hns rfl ?_
      refine wfp 29 rfl (ps 52 rfl rfl rfl) hns rfl ?_
      refine wfp 30 rfl (ps 52 rfl rfl rfl) hns rfl ?_
      refine wfp 31 rfl (ps 52 rfl rfl rfl) hns rfl ?_
      refine wfp 32 rfl (ps 52 rfl rfl rfl) hns rfl ?_
      refine wfp 33 rfl (ps 52 rfl rfl rfl) hns rfl ?_
      refine wfp 34 rfl (ps 52 rfl rfl rfl) hns rfl ?_
      refine wfv 35 rfl (v_pick (b := true) rfl rfl) gn hns rfl ?_
      refine wf_end (by kernel_rfl) ?_
      exact g_go [0, 1] (j2 true h) ⟨rfl, rfl, rfl, rfl, rfl, trivial⟩ (.cons_cons _ (.cons_cons _ (.cons_cons _ (.slnil)))) rfl
     ·have h := if_neg' hp108 h
      obtain ⟨hb109, h⟩ := h
      have hns : Region.noSelect (Code.ops q69c30) = true := by kernel_rfl
      refine g_drawF (c := q69c30) [.own (.slice A17 n18 c19) 3 1 n18 (r15.1.flatMap (eI .i64)), .box g2 Tb3 [.string x1.s, .slice A4 n5 c6, .int .i64 x1.e, .int .i64 x1.at_], .own (.slice A4 n5 c6) 31 4 n5 (x1.l.flatMap enc_api_JNode)] [Sm w.heap.size F w [[g2], (Value.slice A4 n5 c6).ownBlock.toList], St w [[g2], (Value.slice A4 n5 c6).ownBlock.toList]] [] 36 rfl rfl mix rfl (.cons_cons _ (.cons_cons _ (.cons_cons _ (.slnil)))) (sels [0, 1] rfl) ?_
      refine wfv 0 rfl (v_move rfl) gn hns rfl ?_
      refine wfv 1 rfl (v_move rfl) gn hns rfl ?_
      refine wfv 2 rfl (v_nilCheck rfl) gn hns rfl ?_
      refine wfv 3 rfl (v_fldB fo_73_0 rfl) gn hns rfl ?_
      refine wfv 4 rfl (v_ldB1 1 ld_9 rfl rfl rfl) gn hns rfl ?_
      refine wfv 5 rfl (v_lenS un_9 rfl) gn hns rfl ?_
      refine wfv 6 rfl (v_bin rfl rfl rfl) gn hns rfl ?_
      refine wfv 7 rfl (v_move rfl) gn hns rfl ?_
      refine wf_bool 38 rfl ((decide_eq_false hp105)) ?_
      refine wfv 8 rfl (v_move rfl) (gy 38 rfl rfl) hns rfl ?_
      refine wfv 9 rfl (v_nilCheck rfl) (gy 38 rfl rfl) hns rfl ?_
      refine wfv 10 rfl (v_fldB fo_73_0 rfl) (gy 38 rfl rfl) hns rfl ?_
      refine wfv 11 rfl (v_ldB1 1 ld_9 rfl rfl rfl) (gy 38 rfl rfl) hns rfl ?_
      refine wfv 12 rfl (v_move rfl) (gy 38 rfl rfl) hns rfl ?_
      refine wfv 13 rfl (v_indexS un_9 rfl rfl hb106) (gy 38 rfl rfl) hns rfl ?_
      refine wfv 14 rfl (v_conv ⟨_, un_5⟩ un_3 rfl) (gy 38 rfl rfl) hns rfl ?_
      refine wfv 15 rfl (v_move rfl) (gy 38 rfl rfl) hns rfl ?_
      refine wfv 16 rfl (v_move rfl) (gy 38 rfl rfl) hns rfl ?_
      refine wfv 17 rfl (v_idxO slE_46 rfl rfl (Ow.weak hL13.env.size h20) hb107) (gy 38 rfl rfl) hns rfl ?_
      refine wfv 18 rfl (v_ldO1 (.int .i64 (ix r15.1 x55)) 0 ld_3 rfl rfl (fm_get0 (hlI .i64) hb107 rfl)) (gy 38 rfl rfl) hns rfl ?_
      refine wfv 19 rfl (v_bin rfl rfl rfl) (gy 38 rfl rfl) hns rfl ?_
      refine wfv 20 rfl (v_pick (b := false) rfl rfl) gn hns rfl ?_
      refine wfv 21 rfl (v_move rfl) gn hns rfl ?_
      refine wf_bool 52 rfl ((decide_eq_false hp108)) ?_
      refine wfv 22 rfl (v_move rfl) (gy 52 rfl rfl) hns rfl ?_
      refine wfv 23 rfl (v_nilCheck rfl) (gy 52 rfl rfl) hns rfl ?_
      refine wfv 24 rfl (v_fldB fo_73_0 rfl) (gy 52 rfl rfl) hns rfl ?_
      refine wfv 25 rfl (v_ldB1 1 ld_9 rfl rfl rfl) (gy 52 rfl rfl) hns rfl ?_
      refine wfv 26 rfl (v_move rfl) (gy 52 rfl rfl) hns rfl ?_
      refine wfv 27 rfl (v_indexS un_9 rfl rfl hb106) (gy 52 rfl rfl) hns rfl ?_
      refine wfv 28 rfl (v_conv ⟨_, un_5⟩ un_3 rfl) (gy 52 rfl rfl) hns rfl ?_
      refine wfv 29 rfl (v_move rfl) (gy 52 rfl rfl) hns rfl ?_
      refine wfv 30 rfl (v_move rfl) (gy 52 rfl rfl) hns rfl ?_
      refine wfv 31 rfl (v_bin rfl rfl rfl) (gy 52 rfl rfl) hns rfl ?_
      refine wfv 32 rfl (v_idxO slE_46 rfl rfl (Ow.weak hL13.env.size h20) hb109) (gy 52 rfl rfl) hns rfl ?_
      refine wfv 33 rfl (v_ldO1 (.int .i64 (ix r15.1 (w64 (x55 + 1)))) 0 ld_3 rfl rfl (fm_get0 (hlI .i64) hb109 rfl)) (gy 52 rfl rfl) hns rfl ?_
      refine wfv 34 rfl (v_bin rfl rfl rfl) (gy 52 rfl rfl) hns rfl ?_
      refine wfv 35 rfl (v_pick (b := false) rfl rfl) gn hns rfl ?_
      refine wf_end (by kernel_rfl) ?_
      exact g_go [0, 1] (j2 (decide (w64 (bt x1.s x54) > ix r15.1 (w64 (x55 + 1)))) h) ⟨rfl, rfl, rfl, rfl, rfl, trivial⟩ (.cons_cons _ (.cons_cons _ (.cons_cons _ (.slnil)))) rfl
   ·have h := if_neg' hp83 h
    refine g_false (c := q69c22) rfl _ rfl ((decide_eq_false hp83)) ?_
    refine g_exit (c := q69c24) [.code q69c14] rfl rfl ?_
    refine g_seq (c := q69c14) rfl ?_
    refine g_region (c := q69c36) rfl rfl ?_
    refine wl_v 0 rfl (v_move rfl) gn rfl ?_
    refine wl_v 1 rfl (v_assign rfl) gn rfl ?_
    refine w_end 2 rfl ?_
    have h := Out.inr hO1 h
    refine g_retR (c := q69c37) [.int .i64 x54] rfl Tryd.func69 rfl (.tmp rfl (.nil)) fun wr hLr => ?_
    have hMr : B.Loc w wr [.box g2 Tb3 [.string x1.s, .slice A4 n5 c6, .int .i64 x1.e, .int .i64 x1.at_], .own (.slice A4 n5 c6) 31 4 n5 (x1.l.flatMap enc_api_JNode)] [St w [[g2], (Value.slice A4 n5 c6).ownBlock.toList]] := hLr.pick (rest := [.own (.slice A17 n18 c19) 3 1 n18 (r15.1.flatMap (eI .i64))]) (perm_of_idx [1, 2] [0] rfl rfl (by kernel_rfl)) (sels [1] rfl)
    show trellisref25_Reader_char_R w F g2 Tb3 A4 n5 c6 z8 r (.returned (packV [.int .i64 x54])) wr
    rw [h]
    exact ⟨A4, n5, c6, rfl, hMr, h7⟩
  exact g_go [0, 1] (key1 _ h ()) ⟨rfl, rfl, rfl, rfl, trivial⟩ (.cons_cons _ (.cons_cons _ (.cons_cons _ (.slnil)))) rfl
 ·have h := if_neg' hp25 h
  refine g_true (c := q69c8) rfl _ rfl ((nt (bf hp25))) ?_
  refine g_seq (c := q69c9) rfl ?_
  refine g_region (c := q69c38) rfl rfl ?_
  refine wl_v 0 rfl (v_move rfl) gn rfl ?_
  refine wl_v 1 rfl (v_move rfl) gn rfl ?_
  obtain ⟨r113, hv114, h⟩ := h
  refine wl_s 2 rfl (s_call [.pointer (some ⟨g2, 0, none⟩), .int .i64 250, .int .i64 x10] rfl Tryd.func47 rfl rfl rfl fun w110 hL111 => ?_) gn
  have hp112 : List.Perm ([.own (.slice A17 n18 c19) 3 1 n18 (r15.1.flatMap (eI .i64)), .box g2 Tb3 [.string x1.s, .slice A4 n5 c6, .int .i64 x1.e, .int .i64 x1.at_], .own (.slice A4 n5 c6) 31 4 n5 (x1.l.flatMap enc_api_JNode)] : List Ent) (([.box g2 Tb3 [.string x1.s, .slice A4 n5 c6, .int .i64 x1.e, .int .i64 x1.at_], .own (.slice A4 n5 c6) 31 4 n5 (x1.l.flatMap enc_api_JNode)] : List Ent) ++ ([.own (.slice A17 n18 c19) 3 1 n18 (r15.1.flatMap (eI .i64))] : List Ent)) := perm_of_idx [1, 2] [0] rfl rfl (by kernel_rfl)
  refine Calls.mono (trellisref25_Reader_stop_calls w110 (Fl ([] : List Snap)) x1 250 x10 g2 Tb3 z8 A4 n5 c6 (Nat.le_trans hz9 hL111.env.size) h7 (hL111.hFl (Sl := ([] : List Snap)) hp112 (sels [] rfl)) (hL111.into hp112 (Fl ([] : List Snap))) r113 hv114) ?_
  rintro _ w120 ⟨A115, n116, c117, rfl, hM121, h118⟩
  have hL122 := hL111.call hp112 hM121
  refine ⟨_, _, _, rfl, hL122, ?_⟩
  refine wl_v 3 rfl (v_assign rfl) gn rfl ?_
  refine w_end 4 rfl ?_
  refine g_retR (c := q69c39) [.int .i64 r113.1] rfl Tryd.func69 rfl (.tmp rfl (.nil)) fun wr hLr => ?_
  have hMr : B.Loc w wr [.box g2 Tb3 [.string r113.2.s, .slice A115 n116 c117, .int .i64 r113.2.e, .int .i64 r113.2.at_], .own (.slice A115 n116 c117) 31 4 n116 (r113.2.l.flatMap enc_api_JNode)] [St w [[g2], (Value.slice A4 n5 c6).ownBlock.toList]] := hLr.pick (rest := [.own (.slice A17 n18 c19) 3 1 n18 (r15.1.flatMap (eI .i64))]) (perm_of_idx [0, 1] [2] rfl rfl (by kernel_rfl)) (sels [1] rfl)
  show trellisref25_Reader_char_R w F g2 Tb3 A4 n5 c6 z8 r (.returned (packV [.int .i64 r113.1])) wr
  rw [h]
  exact ⟨A115, n116, c117, rfl, hMr, h118⟩
noncomputable abbrev q53c0 : Code := bodyOf Tryd.f53
noncomputable abbrev q53c1 : Code := Code.fst q53c0
noncomputable abbrev q53c2 : Code := Code.snd q53c0
noncomputable abbrev q53c3 : Code := Code.fst q53c2
noncomputable abbrev q53c4 : Code := Code.snd q53c2
noncomputable abbrev q53c5 : Code := Code.fst q53c4
noncomputable abbrev q53c6 : Code := Code.snd q53c4
noncomputable abbrev q53c7 : Code := Code.fst q53c5
noncomputable abbrev q53c8 : Code := Code.snd q53c5
noncomputable abbrev q53c9 : Code := Code.fst q53c8
noncomputable abbrev q53c10 : Code := Code.fst q53c9
noncomputable abbrev q53c11 : Code := Code.fst q53c10
noncomputable abbrev q53c12 : Code := Code.snd q53c10
noncomputable abbrev q53c13 : Code := Code.fst q53c11
noncomputable abbrev q53c14 : Code := Code.snd q53c11
noncomputable abbrev q53c15 : Code := Code.fst q53c14
noncomputable abbrev q53c16 : Code := Code.snd q53c14
noncomputable abbrev q53c17 : Code := Code.fst q53c12
noncomputable abbrev q53c18 : Code := Code.fst q53c6
noncomputable abbrev q53c19 : Code := Code.snd q53c6
abbrev trellisref25_Valid_R (w : World) (F : Nat → Prop) (r : Bool) : Ending → World → Prop := fun e w' => e = .returned (.bool r) ∧ B.Loc w w' [] [St w []]
noncomputable abbrev trellisref25_Valid_C (w : World) (F : Nat → Prop) (r : Bool) : Cx := ⟨Tryd.prog, 53, Tryd.f53, 27, trellisref25_Valid_R w F  r, w⟩
theorem trellisref25_Valid_calls (w : World) (F : Nat → Prop) (x1 : ByteArray) (hF : ∀ b, F b → b < w.heap.size ∧ ∀ o ∈ ([] : List (List Nat)), b ∉ o) (hL0 : B.Loc w w [] [Sm w.heap.size F w [], St w []]) (r : Bool) (h : trellisref25_Valid x1 r) : Calls Tryd.prog 53 #[.string x1] w (trellisref25_Valid_R w F  r) := by
 unfold trellisref25_Valid at h
 refine calls_of_Loc (vs := [.string x1]) 27 Tryd.func53 rfl Tryd.ntmps53 rfl hL0 ?_
 show G (trellisref25_Valid_C w F r) _ _ _ _
 refine g_seq (c := q53c0) rfl ?_
 refine g_region (c := q53c1) rfl rfl ?_
 refine wl_v 0 rfl (v_assign rfl) gn rfl ?_
 refine w_end 1 rfl ?_
 refine g_seq (c := q53c2) rfl ?_
 refine g_region (c := q53c3) rfl rfl ?_
 refine wl_v 0 rfl (v_move rfl) gn rfl ?_
 refine wl_v 1 rfl (v_build #[.string x1, .slice none 0 0, .int .i64 0, .int .i64 0] bd_73 rfl (by kernel_rfl)) gn rfl ?_
 refine wl_s 2 rfl (s_box [.string x1, .slice none 0 0, .int .i64 0, .int .i64 0] rfl rfl rfl fun gb2 => ?_) gn
 refine wl_v 3 rfl (v_assign rfl) gn rfl ?_
 refine w_end 4 rfl ?_
 refine g_seq (c := q53c4) rfl ?_
 refine g_seq (c := q53c5) rfl ?_
 refine g_region (c := q53c7) rfl rfl ?_
 refine wl_v 0 rfl (v_assign rfl) gn rfl ?_
 refine w_end 1 rfl ?_
 refine g_block (c := q53c8) rfl ?_
 refine g_loop (c := q53c9) rfl ?_
 have key1 : ∀ s, Rounds (fun (s : Int × ByteArray × (List api_JNode) × Int × Int) o => trellisref25_Valid_b1 x1 s.1 s.2.1 s.2.2.1 s.2.2.2.1 s.2.2.2.2 o) s r → (fun (s : Int × ByteArray × (List api_JNode) × Int × Int) => ∀ (A23 : Option Addr) (n24 : Nat) (c25 : Nat) (h26 : Ow w.heap.size A23 n24 c25 s.2.2.1), G (trellisref25_Valid_C w F r) [.code q53c10, .inLoop q53c10, .inBlock 0, .code q53c6] [(0, .string x1), (3, .pointer (some ⟨gb2, 0, none⟩)), (4, .int .i64 s.1)] [.own (.slice A23 n24 c25) 31 4 n24 (s.2.2.1.flatMap enc_api_JNode), .box gb2 73 [.string s.2.1, .slice A23 n24 c25, .int .i64 s.2.2.2.1, .int .i64 s.2.2.2.2]] [Sm w.heap.size F w [], St w []]) s := by
  intro s hs
  refine Rounds.ind (mot := (fun (s : Int × ByteArray × (List api_JNode) × Int × Int) => ∀ (A23 : Option Addr) (n24 : Nat) (c25 : Nat) (h26 : Ow w.heap.size A23 n24 c25 s.2.2.1), G (trellisref25_Valid_C w F r) [.code q53c10, .inLoop q53c10, .inBlock 0, .code q53c6] [(0, .string x1), (3, .pointer (some ⟨gb2, 0, none⟩)), (4, .int .i64 s.1)] [.own (.slice A23 n24 c25) 31 4 n24 (s.2.2.1.flatMap enc_api_JNode), .box gb2 73 [.string s.2.1, .slice A23 n24 c25, .int .i64 s.2.2.2.1, .int .i64 s.2.2.2.2]] [Sm w.heap.size F w [], St w []])) ?_ hs
  clear hs s
  intro s o1 h hO1
  obtain ⟨x20, x21, x22, x27, x28⟩ := s
  show ∀ (A23 : Option Addr) (n24 : Nat) (c25 : Nat) (h26 : Ow w.heap.size A23 n24 c25 x22), G (trellisref25_Valid_C w F r) [.code q53c10, .inLoop q53c10, .inBlock 0, .code q53c6] [(0, .string x1), (3, .pointer (some ⟨gb2, 0, none⟩)), (4, .int .i64 x20)] [.own (.slice A23 n24 c25) 31 4 n24 (x22.flatMap enc_api_JNode), .box gb2 73 [.string x21, .slice A23 n24 c25, .int .i64 x27, .int .i64 x28]] [Sm w.heap.size F w [], St w []]
  intro A23 n24 c25 h26
  have h : trellisref25_Valid_b1 x1 x20 x21 x22 x27 x28 o1 := h
  unfold trellisref25_Valid_b1 at h
  refine g_seq (c := q53c10) rfl ?_
  refine g_seq (c := q53c11) rfl ?_
  refine g_region (c := q53c13) rfl rfl ?_
  refine wl_v 0 rfl (v_move rfl) gn rfl ?_
  refine wl_v 1 rfl (v_move rfl) gn rfl ?_
  refine wl_v 2 rfl (v_lenS un_9 rfl) gn rfl ?_
  refine wl_v 3 rfl (v_bin rfl rfl rfl) gn rfl ?_
  refine wl_v 4 rfl (v_move rfl) gn rfl ?_
  by_cases hp44 : x20 < (x1.size : Int)
  ·have h := if_pos' hp44 h
   refine w_bool 12 rfl ((decide_eq_true hp44)) ?_
   refine wl_v 5 rfl (v_move rfl) (gy 12 rfl rfl) rfl ?_
   refine wl_v 6 rfl (v_nilCheck rfl) (gy 12 rfl rfl) rfl ?_
   refine wl_v 7 rfl (v_fldB fo_73_2 rfl) (gy 12 rfl rfl) rfl ?_
   refine wl_v 8 rfl (v_ldB1 1 ld_34 rfl rfl rfl) (gy 12 rfl rfl) rfl ?_
   refine wl_v 9 rfl (v_bin rfl rfl rfl) (gy 12 rfl rfl) rfl ?_
   refine wl_v 10 rfl (v_pick (b := true) rfl rfl) gn rfl ?_
   refine w_end 11 rfl ?_
   by_cases hp45 : x27 = 0
   ·have h := if_pos' hp45 h
    refine g_true (c := q53c14) rfl _ rfl ((eqi hp45)) ?_
    refine g_skip (c := q53c15) rfl ?_
    refine g_block (c := q53c12) rfl ?_
    refine g_region (c := q53c17) rfl rfl ?_
    refine wl_v 0 rfl (v_move rfl) gn rfl ?_
    refine wl_v 1 rfl (v_move rfl) gn rfl ?_
    obtain ⟨r49, hv50, h⟩ := h
    refine wl_s 2 rfl (s_call [.pointer (some ⟨gb2, 0, none⟩), .int .i64 x20] rfl Tryd.func69 rfl rfl rfl fun w46 hL47 => ?_) gn
    have hp48 : List.Perm ([.own (.slice A23 n24 c25) 31 4 n24 (x22.flatMap enc_api_JNode), .box gb2 73 [.string x21, .slice A23 n24 c25, .int .i64 x27, .int .i64 x28]] : List Ent) (([.box gb2 73 [.string x21, .slice A23 n24 c25, .int .i64 x27, .int .i64 x28], .own (.slice A23 n24 c25) 31 4 n24 (x22.flatMap enc_api_JNode)] : List Ent) ++ ([] : List Ent)) := perm_of_idx [1, 0] [] rfl rfl (by kernel_rfl)
    refine Calls.mono (trellisref25_Reader_char_calls w46 (Fl ([] : List Snap)) (⟨x21, x22, x27, x28⟩ : trellisref25_Reader) x20 gb2 73 w.heap.size A23 n24 c25 hL47.env.size h26 (hL47.hFl (Sl := ([] : List Snap)) hp48 (sels [] rfl)) (hL47.into hp48 (Fl ([] : List Snap))) r49 hv50) ?_
    rintro _ w56 ⟨A51, n52, c53, rfl, hM57, h54⟩
    have hL58 := hL47.call hp48 hM57
    refine ⟨_, _, _, rfl, hL58, ?_⟩
    refine wl_v 3 rfl (v_assign rfl) gn rfl ?_
    refine w_end 4 rfl ?_
    refine g_inBlock ?_
    refine g_inLoop ?_
    refine g_front 0 rfl ?_
    refine g_front 1 rfl ?_
    have ih := Out.inl hO1 h
    exact g_go [0, 1] (ih A51 n52 c53 h54) ⟨rfl, rfl, rfl, trivial⟩ (.cons_cons _ (.cons_cons _ (.slnil))) rfl
   ·have h := if_neg' hp45 h
    refine g_false (c := q53c14) rfl _ rfl ((nei hp45)) ?_
    refine g_exit (c := q53c16) [.code q53c6] rfl rfl ?_
    refine g_seq (c := q53c6) rfl ?_
    refine g_region (c := q53c18) rfl rfl ?_
    refine wl_v 0 rfl (v_move rfl) gn rfl ?_
    refine wl_v 1 rfl (v_nilCheck rfl) gn rfl ?_
    refine wl_v 2 rfl (v_fldB fo_73_2 rfl) gn rfl ?_
    refine wl_v 3 rfl (v_ldB1 1 ld_34 rfl rfl rfl) gn rfl ?_
    refine wl_v 4 rfl (v_bin rfl rfl rfl) gn rfl ?_
    refine wl_v 5 rfl (v_assign rfl) gn rfl ?_
    refine w_end 6 rfl ?_
    have h := Out.inr hO1 h
    refine g_retR (c := q53c19) [.bool (x27 == 0)] rfl Tryd.func53 rfl (.tmp rfl (.nil)) fun wr hLr => ?_
    have hMr : B.Loc w wr [] [St w []] := hLr.pick0 (sels [1] rfl)
    show trellisref25_Valid_R w F  r (.returned (packV [.bool (x27 == 0)])) wr
    rw [h]
    exact ⟨rfl, hMr⟩
  ·have h := if_neg' hp44 h
   refine w_bool 12 rfl ((decide_eq_false hp44)) ?_
   refine wl_pass 5 rfl (ps 12 rfl rfl rfl) ?_
   refine wl_pass 6 rfl (ps 12 rfl rfl rfl) ?_
   refine wl_pass 7 rfl (ps 12 rfl rfl rfl) ?_
   refine wl_pass 8 rfl (ps 12 rfl rfl rfl) ?_
   refine wl_pass 9 rfl (ps 12 rfl rfl rfl) ?_
   refine wl_v 10 rfl (v_pick (b := false) rfl rfl) gn rfl ?_
   refine w_end 11 rfl ?_
   refine g_false (c := q53c14) rfl _ rfl (rfl) ?_
   refine g_exit (c := q53c16) [.code q53c6] rfl rfl ?_
   refine g_seq (c := q53c6) rfl ?_
   refine g_region (c := q53c18) rfl rfl ?_
   refine wl_v 0 rfl (v_move rfl) gn rfl ?_
   refine wl_v 1 rfl (v_nilCheck rfl) gn rfl ?_
   refine wl_v 2 rfl (v_fldB fo_73_2 rfl) gn rfl ?_
   refine wl_v 3 rfl (v_ldB1 1 ld_34 rfl rfl rfl) gn rfl ?_
   refine wl_v 4 rfl (v_bin rfl rfl rfl) gn rfl ?_
   refine wl_v 5 rfl (v_assign rfl) gn rfl ?_
   refine w_end 6 rfl ?_
   have h := Out.inr hO1 h
   refine g_retR (c := q53c19) [.bool (x27 == 0)] rfl Tryd.func53 rfl (.tmp rfl (.nil)) fun wr hLr => ?_
   have hMr : B.Loc w wr [] [St w []] := hLr.pick0 (sels [1] rfl)
   show trellisref25_Valid_R w F  r (.returned (packV [.bool (x27 == 0)])) wr
   rw [h]
   exact ⟨rfl, hMr⟩
 refine g_nil 31 4 ?_
 exact g_go [0, 1] (key1 _ h none 0 0 (Ow.nil (z := w.heap.size))) ⟨rfl, rfl, rfl, trivial⟩ (.cons_cons _ (.cons_cons _ (.slnil))) rfl
noncomputable abbrev q60c0 : Code := bodyOf Tryd.f60
noncomputable abbrev q60c1 : Code := Code.fst q60c0
noncomputable abbrev q60c2 : Code := Code.snd q60c0
noncomputable abbrev q60c3 : Code := Code.fst q60c2
noncomputable abbrev q60c4 : Code := Code.snd q60c2
noncomputable abbrev q60c5 : Code := Code.fst q60c3
noncomputable abbrev q60c6 : Code := Code.snd q60c3
noncomputable abbrev q60c7 : Code := Code.fst q60c6
noncomputable abbrev q60c8 : Code := Code.snd q60c6
noncomputable abbrev q60c9 : Code := Code.fst q60c7
noncomputable abbrev q60c10 : Code := Code.snd q60c7
noncomputable abbrev q60c11 : Code := Code.fst q60c4
noncomputable abbrev q60c12 : Code := Code.snd q60c4
noncomputable abbrev q60c13 : Code := Code.fst q60c11
noncomputable abbrev q60c14 : Code := Code.snd q60c11
noncomputable abbrev q60c15 : Code := Code.fst q60c14
noncomputable abbrev q60c16 : Code := Code.fst q60c15
noncomputable abbrev q60c17 : Code := Code.fst q60c16
noncomputable abbrev q60c18 : Code := Code.snd q60c16
noncomputable abbrev q60c19 : Code := Code.fst q60c17
noncomputable abbrev q60c20 : Code := Code.snd q60c17
noncomputable abbrev q60c21 : Code := Code.fst q60c20
noncomputable abbrev q60c22 : Code := Code.snd q60c20
noncomputable abbrev q60c23 : Code := Code.fst q60c18
noncomputable abbrev q60c24 : Code := Code.snd q60c18
noncomputable abbrev q60c25 : Code := Code.fst q60c23
noncomputable abbrev q60c26 : Code := Code.fst q60c25
noncomputable abbrev q60c27 : Code := Code.snd q60c25
noncomputable abbrev q60c28 : Code := Code.fst q60c27
noncomputable abbrev q60c29 : Code := Code.snd q60c27
noncomputable abbrev q60c30 : Code := Code.fst q60c28
noncomputable abbrev q60c31 : Code := Code.snd q60c28
noncomputable abbrev q60c32 : Code := Code.fst q60c12
noncomputable abbrev q60c33 : Code := Code.snd q60c12
abbrev trellisref25_Reader_has_R (w : World) (F : Nat → Prop) (g2 : Nat) (Tb3 : Nat) (A4 : Option Addr) (n5 : Nat) (c6 : Nat) (z8 : Nat) (r : Bool × trellisref25_Reader) : Ending → World → Prop := fun e w' => ∃ A0 : Option Addr, ∃ n0 : Nat, ∃ c0 : Nat, e = .returned (.bool r.1) ∧ B.Loc w w' [.box g2 Tb3 [.string r.2.s, .slice A0 n0 c0, .int .i64 r.2.e, .int .i64 r.2.at_], .own (.slice A0 n0 c0) 31 4 n0 (r.2.l.flatMap enc_api_JNode)] [St w [[g2], (Value.slice A4 n5 c6).ownBlock.toList]] ∧ Ow z8 A0 n0 c0 r.2.l
noncomputable abbrev trellisref25_Reader_has_C (w : World) (F : Nat → Prop) (g2 : Nat) (Tb3 : Nat) (A4 : Option Addr) (n5 : Nat) (c6 : Nat) (z8 : Nat) (r : Bool × trellisref25_Reader) : Cx := ⟨Tryd.prog, 60, Tryd.f60, 31, trellisref25_Reader_has_R w F g2 Tb3 A4 n5 c6 z8 r, w⟩
theorem trellisref25_Reader_has_calls (w : World) (F : Nat → Prop) (x1 : trellisref25_Reader) (x10 : Int) (x11 : ByteArray) (g2 : Nat) (Tb3 : Nat) (z8 : Nat) (A4 : Option Addr) (n5 : Nat) (c6 : Nat) (hz9 : z8 ≤ w.heap.size) (h7 : Ow z8 A4 n5 c6 x1.l) (hF : ∀ b, F b → b < w.heap.size ∧ ∀ o ∈ ([[g2], (Value.slice A4 n5 c6).ownBlock.toList] : List (List Nat)), b ∉ o) (hL0 : B.Loc w w [.box g2 Tb3 [.string x1.s, .slice A4 n5 c6, .int .i64 x1.e, .int .i64 x1.at_], .own (.slice A4 n5 c6) 31 4 n5 (x1.l.flatMap enc_api_JNode)] [Sm w.heap.size F w [[g2], (Value.slice A4 n5 c6).ownBlock.toList], St w [[g2], (Value.slice A4 n5 c6).ownBlock.toList]]) (r : Bool × trellisref25_Reader) (h : trellisref25_Reader_has x1 x10 x11 r) : Calls Tryd.prog 60 #[.pointer (some ⟨g2, 0, none⟩), .int .i64 x10, .string x11] w (trellisref25_Reader_has_R w F g2 Tb3 A4 n5 c6 z8 r) := by
 unfold trellisref25_Reader_has at h
 refine calls_of_Loc (vs := [.pointer (some ⟨g2, 0, none⟩), .int .i64 x10, .string x11]) 31 Tryd.func60 rfl Tryd.ntmps60 rfl hL0 ?_
 show G (trellisref25_Reader_has_C w F g2 Tb3 A4 n5 c6 z8 r) _ _ _ _
 refine g_seq (c := q60c0) rfl ?_
 refine g_region (c := q60c1) rfl rfl ?_
 refine wl_v 0 rfl (v_assign rfl) gn rfl ?_
 refine w_end 1 rfl ?_
 refine g_seq (c := q60c2) rfl ?_
 refine g_seq (c := q60c3) rfl ?_
 refine g_region (c := q60c5) rfl rfl ?_
 refine wl_v 0 rfl (v_move rfl) gn rfl ?_
 refine wl_v 1 rfl (v_move rfl) gn rfl ?_
 refine wl_v 2 rfl (v_nilCheck rfl) gn rfl ?_
 refine wl_v 3 rfl (v_fldB fo_73_0 rfl) gn rfl ?_
 refine wl_v 4 rfl (v_ldB1 0 ld_9 rfl rfl rfl) gn rfl ?_
 refine wl_v 5 rfl (v_lenS un_9 rfl) gn rfl ?_
 refine wl_v 6 rfl (v_bin rfl rfl rfl) gn rfl ?_
 refine w_end 7 rfl ?_
 by_cases hp12 : x10 ≥ (x1.s.size : Int)
 ·have h := if_pos' hp12 h
  refine g_true (c := q60c6) rfl _ rfl ((decide_eq_true hp12)) ?_
  refine g_seq (c := q60c7) rfl ?_
  refine g_region (c := q60c9) rfl rfl ?_
  refine wl_v 0 rfl (v_assign rfl) gn rfl ?_
  refine w_end 1 rfl ?_
  refine g_retR (c := q60c10) [.bool false] rfl Tryd.func60 rfl (.tmp rfl (.nil)) fun wr hLr => ?_
  have hMr : B.Loc w wr [.box g2 Tb3 [.string x1.s, .slice A4 n5 c6, .int .i64 x1.e, .int .i64 x1.at_], .own (.slice A4 n5 c6) 31 4 n5 (x1.l.flatMap enc_api_JNode)] [St w [[g2], (Value.slice A4 n5 c6).ownBlock.toList]] := hLr.pick (rest := []) (perm_of_idx [0, 1] [] rfl rfl (by kernel_rfl)) (sels [1] rfl)
  show trellisref25_Reader_has_R w F g2 Tb3 A4 n5 c6 z8 r (.returned (packV [.bool false])) wr
  rw [h]
  exact ⟨A4, n5, c6, rfl, hMr, h7⟩
 ·have h := if_neg' hp12 h
  refine g_false (c := q60c6) rfl _ rfl ((decide_eq_false hp12)) ?_
  refine g_skip (c := q60c8) rfl ?_
  refine g_seq (c := q60c4) rfl ?_
  refine g_seq (c := q60c11) rfl ?_
  refine g_region (c := q60c13) rfl rfl ?_
  refine wl_v 0 rfl (v_assign rfl) gn rfl ?_
  refine w_end 1 rfl ?_
  refine g_block (c := q60c14) rfl ?_
  refine g_loop (c := q60c15) rfl ?_
  have key1 : ∀ s, Rounds (fun (s : Int) o => trellisref25_Reader_has_b1 x11 x10 x1 s o) s r → (fun (s : Int) => ∀ (_ : Unit), G (trellisref25_Reader_has_C w F g2 Tb3 A4 n5 c6 z8 r) [.code q60c16, .inLoop q60c16, .inBlock 0, .code q60c12] [(0, .pointer (some ⟨g2, 0, none⟩)), (1, .int .i64 x10), (2, .string x11), (7, .int .i64 s)] [.box g2 Tb3 [.string x1.s, .slice A4 n5 c6, .int .i64 x1.e, .int .i64 x1.at_], .own (.slice A4 n5 c6) 31 4 n5 (x1.l.flatMap enc_api_JNode)] [Sm w.heap.size F w [[g2], (Value.slice A4 n5 c6).ownBlock.toList], St w [[g2], (Value.slice A4 n5 c6).ownBlock.toList]]) s := by
   intro s hs
   refine Rounds.ind (mot := (fun (s : Int) => ∀ (_ : Unit), G (trellisref25_Reader_has_C w F g2 Tb3 A4 n5 c6 z8 r) [.code q60c16, .inLoop q60c16, .inBlock 0, .code q60c12] [(0, .pointer (some ⟨g2, 0, none⟩)), (1, .int .i64 x10), (2, .string x11), (7, .int .i64 s)] [.box g2 Tb3 [.string x1.s, .slice A4 n5 c6, .int .i64 x1.e, .int .i64 x1.at_], .own (.slice A4 n5 c6) 31 4 n5 (x1.l.flatMap enc_api_JNode)] [Sm w.heap.size F w [[g2], (Value.slice A4 n5 c6).ownBlock.toList], St w [[g2], (Value.slice A4 n5 c6).ownBlock.toList]])) ?_ hs
   clear hs s
   intro x18 o1 h hO1
   show ∀ (_ : Unit), G (trellisref25_Reader_has_C w F g2 Tb3 A4 n5 c6 z8 r) [.code q60c16, .inLoop q60c16, .inBlock 0, .code q60c12] [(0, .pointer (some ⟨g2, 0, none⟩)), (1, .int .i64 x10), (2, .string x11), (7, .int .i64 x18)] [.box g2 Tb3 [.string x1.s, .slice A4 n5 c6, .int .i64 x1.e, .int .i64 x1.at_], .own (.slice A4 n5 c6) 31 4 n5 (x1.l.flatMap enc_api_JNode)] [Sm w.heap.size F w [[g2], (Value.slice A4 n5 c6).ownBlock.toList], St w [[g2], (Value.slice A4 n5 c6).ownBlock.toList]]
   intro _
   have h : trellisref25_Reader_has_b1 x11 x10 x1 x18 o1 := h
   unfold trellisref25_Reader_has_b1 at h
   refine g_seq (c := q60c16) rfl ?_
   refine g_seq (c := q60c17) rfl ?_
   refine g_region (c := q60c19) rfl rfl ?_
   refine wl_v 0 rfl (v_move rfl) gn rfl ?_
   refine wl_v 1 rfl (v_move rfl) gn rfl ?_
   refine wl_v 2 rfl (v_lenS un_9 rfl) gn rfl ?_
   refine wl_v 3 rfl (v_bin rfl rfl rfl) gn rfl ?_
   refine w_end 4 rfl ?_
   by_cases hp23 : x18 < (x11.size : Int)
   ·have h := if_pos' hp23 h
    refine g_true (c := q60c20) rfl _ rfl ((decide_eq_true hp23)) ?_
    refine g_skip (c := q60c21) rfl ?_
    refine g_seq (c := q60c18) rfl ?_
    refine g_block (c := q60c23) rfl ?_
    refine g_seq (c := q60c25) rfl ?_
    obtain ⟨hb24, h⟩ := h
    obtain ⟨hb25, h⟩ := h
    have hns : Region.noSelect (Code.ops q60c26) = true := by kernel_rfl
    refine g_drawF (c := q60c26) [.box g2 Tb3 [.string x1.s, .slice A4 n5 c6, .int .i64 x1.e, .int .i64 x1.at_], .own (.slice A4 n5 c6) 31 4 n5 (x1.l.flatMap enc_api_JNode)] [Sm w.heap.size F w [[g2], (Value.slice A4 n5 c6).ownBlock.toList], St w [[g2], (Value.slice A4 n5 c6).ownBlock.toList]] [] 10 rfl rfl mix rfl (.cons_cons _ (.cons_cons _ (.slnil))) (sels [0, 1] rfl) ?_
    refine wfv 0 rfl (v_move rfl) gn hns rfl ?_
    refine wfv 1 rfl (v_move rfl) gn hns rfl ?_
    refine wfv 2 rfl (v_indexS un_9 rfl rfl hb24) gn hns rfl ?_
    refine wfv 3 rfl (v_move rfl) gn hns rfl ?_
    refine wfv 4 rfl (v_nilCheck rfl) gn hns rfl ?_
    refine wfv 5 rfl (v_fldB fo_73_0 rfl) gn hns rfl ?_
    refine wfv 6 rfl (v_ldB1 0 ld_9 rfl rfl rfl) gn hns rfl ?_
    refine wfv 7 rfl (v_move rfl) gn hns rfl ?_
    refine wfv 8 rfl (v_indexS un_9 rfl rfl hb25) gn hns rfl ?_
    refine wfv 9 rfl (v_bin rfl rfl rfl) gn hns rfl ?_
    refine wf_end (by kernel_rfl) ?_
    by_cases hp26 : bt x11 x18 = bt x1.s x10
    ·have h := if_pos' hp26 h
     refine g_true (c := q60c27) rfl _ rfl ((eqi hp26)) ?_
     refine g_seq (c := q60c28) rfl ?_
     refine g_region (c := q60c30) rfl rfl ?_
     refine wl_v 0 rfl (v_assign rfl) gn rfl ?_
     refine w_end 1 rfl ?_
     have h := Out.inr hO1 h
     refine g_retR (c := q60c31) [.bool true] rfl Tryd.func60 rfl (.tmp rfl (.nil)) fun wr hLr => ?_
     have hMr : B.Loc w wr [.box g2 Tb3 [.string x1.s, .slice A4 n5 c6, .int .i64 x1.e, .int .i64 x1.at_], .own (.slice A4 n5 c6) 31 4 n5 (x1.l.flatMap enc_api_JNode)] [St w [[g2], (Value.slice A4 n5 c6).ownBlock.toList]] := hLr.pick (rest := []) (perm_of_idx [0, 1] [] rfl rfl (by kernel_rfl)) (sels [1] rfl)
     show trellisref25_Reader_has_R w F g2 Tb3 A4 n5 c6 z8 r (.returned (packV [.bool true])) wr
     rw [h]
     exact ⟨A4, n5, c6, rfl, hMr, h7⟩
    ·have h := if_neg' hp26 h
     refine g_false (c := q60c27) rfl _ rfl ((nei hp26)) ?_
     refine g_skip (c := q60c29) rfl ?_
     refine g_inBlock ?_
     refine g_region (c := q60c24) rfl rfl ?_
     refine wl_v 0 rfl (v_move rfl) gn rfl ?_
     refine wl_v 1 rfl (v_bin rfl rfl rfl) gn rfl ?_
     refine wl_v 2 rfl (v_assign rfl) gn rfl ?_
     refine w_end 3 rfl ?_
     refine g_inLoop ?_
     have ih := Out.inl hO1 h
     exact g_go [0, 1] (ih ()) ⟨rfl, rfl, rfl, rfl, trivial⟩ (.cons_cons _ (.cons_cons _ (.slnil))) rfl
   ·have h := if_neg' hp23 h
    refine g_false (c := q60c20) rfl _ rfl ((decide_eq_false hp23)) ?_
    refine g_exit (c := q60c22) [.code q60c12] rfl rfl ?_
    refine g_seq (c := q60c12) rfl ?_
    refine g_region (c := q60c32) rfl rfl ?_
    refine wl_v 0 rfl (v_assign rfl) gn rfl ?_
    refine w_end 1 rfl ?_
    have h := Out.inr hO1 h
    refine g_retR (c := q60c33) [.bool false] rfl Tryd.func60 rfl (.tmp rfl (.nil)) fun wr hLr => ?_
    have hMr : B.Loc w wr [.box g2 Tb3 [.string x1.s, .slice A4 n5 c6, .int .i64 x1.e, .int .i64 x1.at_], .own (.slice A4 n5 c6) 31 4 n5 (x1.l.flatMap enc_api_JNode)] [St w [[g2], (Value.slice A4 n5 c6).ownBlock.toList]] := hLr.pick (rest := []) (perm_of_idx [0, 1] [] rfl rfl (by kernel_rfl)) (sels [1] rfl)
    show trellisref25_Reader_has_R w F g2 Tb3 A4 n5 c6 z8 r (.returned (packV [.bool false])) wr
    rw [h]
    exact ⟨A4, n5, c6, rfl, hMr, h7⟩
  exact g_go [0, 1] (key1 _ h ()) ⟨rfl, rfl, rfl, rfl, trivial⟩ (.cons_cons _ (.cons_cons _ (.slnil))) rfl
noncomputable abbrev q75c0 : Code := bodyOf Tryd.f75
noncomputable abbrev q75c1 : Code := Code.fst q75c0
noncomputable abbrev q75c2 : Code := Code.snd q75c0
noncomputable abbrev q75c3 : Code := Code.fst q75c2
noncomputable abbrev q75c4 : Code := Code.snd q75c2
noncomputable abbrev q75c5 : Code := Code.fst q75c3
noncomputable abbrev q75c6 : Code := Code.snd q75c3
noncomputable abbrev q75c7 : Code := Code.fst q75c6
noncomputable abbrev q75c8 : Code := Code.snd q75c6
noncomputable abbrev q75c9 : Code := Code.fst q75c4
noncomputable abbrev q75c10 : Code := Code.snd q75c4
noncomputable abbrev q75c11 : Code := Code.fst q75c9
noncomputable abbrev q75c12 : Code := Code.snd q75c9
noncomputable abbrev q75c13 : Code := Code.fst q75c12
noncomputable abbrev q75c14 : Code := Code.snd q75c12
noncomputable abbrev q75c15 : Code := Code.fst q75c10
noncomputable abbrev q75c16 : Code := Code.snd q75c10
noncomputable abbrev q75c17 : Code := Code.fst q75c13
noncomputable abbrev q75c18 : Code := Code.snd q75c13
noncomputable abbrev q75c19 : Code := Code.fst q75c7
noncomputable abbrev q75c20 : Code := Code.snd q75c7
abbrev trellisref25_Reader_need_R (w : World) (F : Nat → Prop) (g2 : Nat) (Tb3 : Nat) (A4 : Option Addr) (n5 : Nat) (c6 : Nat) (z8 : Nat) (r : Int × trellisref25_Reader) : Ending → World → Prop := fun e w' => ∃ A0 : Option Addr, ∃ n0 : Nat, ∃ c0 : Nat, e = .returned (.int .i64 r.1) ∧ B.Loc w w' [.box g2 Tb3 [.string r.2.s, .slice A0 n0 c0, .int .i64 r.2.e, .int .i64 r.2.at_], .own (.slice A0 n0 c0) 31 4 n0 (r.2.l.flatMap enc_api_JNode)] [St w [[g2], (Value.slice A4 n5 c6).ownBlock.toList]] ∧ Ow z8 A0 n0 c0 r.2.l
noncomputable abbrev trellisref25_Reader_need_C (w : World) (F : Nat → Prop) (g2 : Nat) (Tb3 : Nat) (A4 : Option Addr) (n5 : Nat) (c6 : Nat) (z8 : Nat) (r : Int × trellisref25_Reader) : Cx := ⟨Tryd.prog, 75, Tryd.f75, 23, trellisref25_Reader_need_R w F g2 Tb3 A4 n5 c6 z8 r, w⟩
theorem trellisref25_Reader_need_calls (w : World) (F : Nat → Prop) (x1 : trellisref25_Reader) (x10 : Int) (x11 : ByteArray) (g2 : Nat) (Tb3 : Nat) (z8 : Nat) (A4 : Option Addr) (n5 : Nat) (c6 : Nat) (hz9 : z8 ≤ w.heap.size) (h7 : Ow z8 A4 n5 c6 x1.l) (hF : ∀ b, F b → b < w.heap.size ∧ ∀ o ∈ ([[g2], (Value.slice A4 n5 c6).ownBlock.toList] : List (List Nat)), b ∉ o) (hL0 : B.Loc w w [.box g2 Tb3 [.string x1.s, .slice A4 n5 c6, .int .i64 x1.e, .int .i64 x1.at_], .own (.slice A4 n5 c6) 31 4 n5 (x1.l.flatMap enc_api_JNode)] [Sm w.heap.size F w [[g2], (Value.slice A4 n5 c6).ownBlock.toList], St w [[g2], (Value.slice A4 n5 c6).ownBlock.toList]]) (r : Int × trellisref25_Reader) (h : trellisref25_Reader_need x1 x10 x11 r) : Calls Tryd.prog 75 #[.pointer (some ⟨g2, 0, none⟩), .int .i64 x10, .string x11] w (trellisref25_Reader_need_R w F g2 Tb3 A4 n5 c6 z8 r) := by
 unfold trellisref25_Reader_need at h
 refine calls_of_Loc (vs := [.pointer (some ⟨g2, 0, none⟩), .int .i64 x10, .string x11]) 23 Tryd.func75 rfl Tryd.ntmps75 rfl hL0 ?_
 show G (trellisref25_Reader_need_C w F g2 Tb3 A4 n5 c6 z8 r) _ _ _ _
 refine g_seq (c := q75c0) rfl ?_
 refine g_region (c := q75c1) rfl rfl ?_
 refine wl_v 0 rfl (v_assign rfl) gn rfl ?_
 refine w_end 1 rfl ?_
 refine g_seq (c := q75c2) rfl ?_
 refine g_seq (c := q75c3) rfl ?_
 refine g_region (c := q75c5) rfl rfl ?_
 refine wl_v 0 rfl (v_move rfl) gn rfl ?_
 refine wl_v 1 rfl (v_nilCheck rfl) gn rfl ?_
 refine wl_v 2 rfl (v_fldB fo_73_2 rfl) gn rfl ?_
 refine wl_v 3 rfl (v_ldB1 0 ld_34 rfl rfl rfl) gn rfl ?_
 refine wl_v 4 rfl (v_bin rfl rfl rfl) gn rfl ?_
 refine w_end 5 rfl ?_
 by_cases hp12 : x1.e = 0
 ·have h := if_pos' hp12 h
  refine g_false (c := q75c6) rfl _ rfl ((eqib hp12)) ?_
  refine g_skip (c := q75c8) rfl ?_
  refine g_seq (c := q75c4) rfl ?_
  refine g_seq (c := q75c9) rfl ?_
  refine g_region (c := q75c11) rfl rfl ?_
  refine wl_v 0 rfl (v_move rfl) gn rfl ?_
  refine wl_v 1 rfl (v_move rfl) gn rfl ?_
  refine wl_v 2 rfl (v_move rfl) gn rfl ?_
  obtain ⟨r16, hv17, h⟩ := h
  refine wl_s 3 rfl (s_call [.pointer (some ⟨g2, 0, none⟩), .int .i64 x10, .string x11] rfl Tryd.func60 rfl rfl rfl fun w13 hL14 => ?_) gn
  have hp15 : List.Perm ([.box g2 Tb3 [.string x1.s, .slice A4 n5 c6, .int .i64 x1.e, .int .i64 x1.at_], .own (.slice A4 n5 c6) 31 4 n5 (x1.l.flatMap enc_api_JNode)] : List Ent) (([.box g2 Tb3 [.string x1.s, .slice A4 n5 c6, .int .i64 x1.e, .int .i64 x1.at_], .own (.slice A4 n5 c6) 31 4 n5 (x1.l.flatMap enc_api_JNode)] : List Ent) ++ ([] : List Ent)) := perm_of_idx [0, 1] [] rfl rfl (by kernel_rfl)
  refine Calls.mono (trellisref25_Reader_has_calls w13 (Fl ([] : List Snap)) x1 x10 x11 g2 Tb3 z8 A4 n5 c6 (Nat.le_trans hz9 hL14.env.size) h7 (hL14.hFl (Sl := ([] : List Snap)) hp15 (sels [] rfl)) (hL14.into hp15 (Fl ([] : List Snap))) r16 hv17) ?_
  rintro _ w23 ⟨A18, n19, c20, rfl, hM24, h21⟩
  have hL25 := hL14.call hp15 hM24
  refine ⟨_, _, _, rfl, hL25, ?_⟩
  refine wl_v 4 rfl (v_not rfl) gn rfl ?_
  refine w_end 5 rfl ?_
  by_cases hp26 : r16.1 = true
  ·have h := if_pos' hp26 h
   refine g_false (c := q75c12) rfl _ rfl ((nf hp26)) ?_
   refine g_skip (c := q75c14) rfl ?_
   refine g_seq (c := q75c10) rfl ?_
   refine g_region (c := q75c15) rfl rfl ?_
   refine wl_v 0 rfl (v_move rfl) gn rfl ?_
   refine wl_v 1 rfl (v_bin rfl rfl rfl) gn rfl ?_
   refine wl_v 2 rfl (v_assign rfl) gn rfl ?_
   refine w_end 3 rfl ?_
   refine g_retR (c := q75c16) [.int .i64 (w64 (x10 + 1))] rfl Tryd.func75 rfl (.tmp rfl (.nil)) fun wr hLr => ?_
   have hMr : B.Loc w wr [.box g2 Tb3 [.string r16.2.s, .slice A18 n19 c20, .int .i64 r16.2.e, .int .i64 r16.2.at_], .own (.slice A18 n19 c20) 31 4 n19 (r16.2.l.flatMap enc_api_JNode)] [St w [[g2], (Value.slice A4 n5 c6).ownBlock.toList]] := hLr.pick (rest := []) (perm_of_idx [0, 1] [] rfl rfl (by kernel_rfl)) (sels [1] rfl)
   show trellisref25_Reader_need_R w F g2 Tb3 A4 n5 c6 z8 r (.returned (packV [.int .i64 (w64 (x10 + 1))])) wr
   rw [h]
   exact ⟨A18, n19, c20, rfl, hMr, h21⟩
  ·have h := if_neg' hp26 h
   refine g_true (c := q75c12) rfl _ rfl ((nt (bf hp26))) ?_
   refine g_seq (c := q75c13) rfl ?_
   refine g_region (c := q75c17) rfl rfl ?_
   refine wl_v 0 rfl (v_move rfl) gn rfl ?_
   refine wl_v 1 rfl (v_move rfl) gn rfl ?_
   obtain ⟨r30, hv31, h⟩ := h
   refine wl_s 2 rfl (s_call [.pointer (some ⟨g2, 0, none⟩), .int .i64 250, .int .i64 x10] rfl Tryd.func47 rfl rfl rfl fun w27 hL28 => ?_) gn
   have hp29 : List.Perm ([.box g2 Tb3 [.string r16.2.s, .slice A18 n19 c20, .int .i64 r16.2.e, .int .i64 r16.2.at_], .own (.slice A18 n19 c20) 31 4 n19 (r16.2.l.flatMap enc_api_JNode)] : List Ent) (([.box g2 Tb3 [.string r16.2.s, .slice A18 n19 c20, .int .i64 r16.2.e, .int .i64 r16.2.at_], .own (.slice A18 n19 c20) 31 4 n19 (r16.2.l.flatMap enc_api_JNode)] : List Ent) ++ ([] : List Ent)) := perm_of_idx [0, 1] [] rfl rfl (by kernel_rfl)
   refine Calls.mono (trellisref25_Reader_stop_calls w27 (Fl ([] : List Snap)) r16.2 250 x10 g2 Tb3 z8 A18 n19 c20 (Nat.le_trans hz9 hL28.env.size) h21 (hL28.hFl (Sl := ([] : List Snap)) hp29 (sels [] rfl)) (hL28.into hp29 (Fl ([] : List Snap))) r30 hv31) ?_
   rintro _ w37 ⟨A32, n33, c34, rfl, hM38, h35⟩
   have hL39 := hL28.call hp29 hM38
   refine ⟨_, _, _, rfl, hL39, ?_⟩
   refine wl_v 3 rfl (v_assign rfl) gn rfl ?_
   refine w_end 4 rfl ?_
   refine g_retR (c := q75c18) [.int .i64 r30.1] rfl Tryd.func75 rfl (.tmp rfl (.nil)) fun wr hLr => ?_
   have hMr : B.Loc w wr [.box g2 Tb3 [.string r30.2.s, .slice A32 n33 c34, .int .i64 r30.2.e, .int .i64 r30.2.at_], .own (.slice A32 n33 c34) 31 4 n33 (r30.2.l.flatMap enc_api_JNode)] [St w [[g2], (Value.slice A4 n5 c6).ownBlock.toList]] := hLr.pick (rest := []) (perm_of_idx [0, 1] [] rfl rfl (by kernel_rfl)) (sels [1] rfl)
   show trellisref25_Reader_need_R w F g2 Tb3 A4 n5 c6 z8 r (.returned (packV [.int .i64 r30.1])) wr
   rw [h]
   exact ⟨A32, n33, c34, rfl, hMr, h35⟩
 ·have h := if_neg' hp12 h
  refine g_true (c := q75c6) rfl _ rfl ((neib hp12)) ?_
  refine g_seq (c := q75c7) rfl ?_
  refine g_region (c := q75c19) rfl rfl ?_
  refine wl_v 0 rfl (v_move rfl) gn rfl ?_
  refine wl_v 1 rfl (v_assign rfl) gn rfl ?_
  refine w_end 2 rfl ?_
  refine g_retR (c := q75c20) [.int .i64 x10] rfl Tryd.func75 rfl (.tmp rfl (.nil)) fun wr hLr => ?_
  have hMr : B.Loc w wr [.box g2 Tb3 [.string x1.s, .slice A4 n5 c6, .int .i64 x1.e, .int .i64 x1.at_], .own (.slice A4 n5 c6) 31 4 n5 (x1.l.flatMap enc_api_JNode)] [St w [[g2], (Value.slice A4 n5 c6).ownBlock.toList]] := hLr.pick (rest := []) (perm_of_idx [0, 1] [] rfl rfl (by kernel_rfl)) (sels [1] rfl)
  show trellisref25_Reader_need_R w F g2 Tb3 A4 n5 c6 z8 r (.returned (packV [.int .i64 x10])) wr
  rw [h]
  exact ⟨A4, n5, c6, rfl, hMr, h7⟩
noncomputable abbrev q45c0 : Code := bodyOf Tryd.f45
noncomputable abbrev q45c1 : Code := Code.fst q45c0
noncomputable abbrev q45c2 : Code := Code.snd q45c0
noncomputable abbrev q45c3 : Code := Code.fst q45c2
noncomputable abbrev q45c4 : Code := Code.snd q45c2
noncomputable abbrev q45c5 : Code := Code.fst q45c3
noncomputable abbrev q45c6 : Code := Code.fst q45c5
noncomputable abbrev q45c7 : Code := Code.fst q45c6
noncomputable abbrev q45c8 : Code := Code.snd q45c6
noncomputable abbrev q45c9 : Code := Code.fst q45c7
noncomputable abbrev q45c10 : Code := Code.snd q45c7
noncomputable abbrev q45c11 : Code := Code.fst q45c10
noncomputable abbrev q45c12 : Code := Code.snd q45c10
noncomputable abbrev q45c13 : Code := Code.fst q45c8
noncomputable abbrev q45c14 : Code := Code.fst q45c4
noncomputable abbrev q45c15 : Code := Code.snd q45c4
abbrev trellisref25_Reader_skip_R (w : World) (F : Nat → Prop) (g2 : Nat) (Tb3 : Nat) (A4 : Option Addr) (n5 : Nat) (c6 : Nat) (z8 : Nat) (r : Int × trellisref25_Reader) : Ending → World → Prop := fun e w' => ∃ A0 : Option Addr, ∃ n0 : Nat, ∃ c0 : Nat, e = .returned (.int .i64 r.1) ∧ B.Loc w w' [.box g2 Tb3 [.string r.2.s, .slice A0 n0 c0, .int .i64 r.2.e, .int .i64 r.2.at_], .own (.slice A0 n0 c0) 31 4 n0 (r.2.l.flatMap enc_api_JNode)] [St w [[g2], (Value.slice A4 n5 c6).ownBlock.toList]] ∧ Ow z8 A0 n0 c0 r.2.l
noncomputable abbrev trellisref25_Reader_skip_C (w : World) (F : Nat → Prop) (g2 : Nat) (Tb3 : Nat) (A4 : Option Addr) (n5 : Nat) (c6 : Nat) (z8 : Nat) (r : Int × trellisref25_Reader) : Cx := ⟨Tryd.prog, 45, Tryd.f45, 21, trellisref25_Reader_skip_R w F g2 Tb3 A4 n5 c6 z8 r, w⟩
theorem trellisref25_Reader_skip_calls (w : World) (F : Nat → Prop) (x1 : trellisref25_Reader) (x10 : Int) (x11 : ByteArray) (g2 : Nat) (Tb3 : Nat) (z8 : Nat) (A4 : Option Addr) (n5 : Nat) (c6 : Nat) (hz9 : z8 ≤ w.heap.size) (h7 : Ow z8 A4 n5 c6 x1.l) (hF : ∀ b, F b → b < w.heap.size ∧ ∀ o ∈ ([[g2], (Value.slice A4 n5 c6).ownBlock.toList] : List (List Nat)), b ∉ o) (hL0 : B.Loc w w [.box g2 Tb3 [.string x1.s, .slice A4 n5 c6, .int .i64 x1.e, .int .i64 x1.at_], .own (.slice A4 n5 c6) 31 4 n5 (x1.l.flatMap enc_api_JNode)] [Sm w.heap.size F w [[g2], (Value.slice A4 n5 c6).ownBlock.toList], St w [[g2], (Value.slice A4 n5 c6).ownBlock.toList]]) (r : Int × trellisref25_Reader) (h : trellisref25_Reader_skip x1 x10 x11 r) : Calls Tryd.prog 45 #[.pointer (some ⟨g2, 0, none⟩), .int .i64 x10, .string x11] w (trellisref25_Reader_skip_R w F g2 Tb3 A4 n5 c6 z8 r) := by
 unfold trellisref25_Reader_skip at h
 refine calls_of_Loc (vs := [.pointer (some ⟨g2, 0, none⟩), .int .i64 x10, .string x11]) 21 Tryd.func45 rfl Tryd.ntmps45 rfl hL0 ?_
 show G (trellisref25_Reader_skip_C w F g2 Tb3 A4 n5 c6 z8 r) _ _ _ _
 refine g_seq (c := q45c0) rfl ?_
 refine g_region (c := q45c1) rfl rfl ?_
 refine wl_v 0 rfl (v_assign rfl) gn rfl ?_
 refine w_end 1 rfl ?_
 refine g_seq (c := q45c2) rfl ?_
 refine g_block (c := q45c3) rfl ?_
 refine g_loop (c := q45c5) rfl ?_
 have key1 : ∀ s, Rounds (fun (s : Int × ByteArray × (List api_JNode) × Int × Int) o => trellisref25_Reader_skip_b1 x11 s.1 s.2.1 s.2.2.1 s.2.2.2.1 s.2.2.2.2 o) s r → (fun (s : Int × ByteArray × (List api_JNode) × Int × Int) => ∀ (A31 : Option Addr) (n32 : Nat) (c33 : Nat) (h34 : Ow z8 A31 n32 c33 s.2.2.1), G (trellisref25_Reader_skip_C w F g2 Tb3 A4 n5 c6 z8 r) [.code q45c6, .inLoop q45c6, .inBlock 0, .code q45c4] [(0, .pointer (some ⟨g2, 0, none⟩)), (1, .int .i64 s.1), (2, .string x11)] [.own (.slice A31 n32 c33) 31 4 n32 (s.2.2.1.flatMap enc_api_JNode), .box g2 Tb3 [.string s.2.1, .slice A31 n32 c33, .int .i64 s.2.2.2.1, .int .i64 s.2.2.2.2]] [Sm w.heap.size F w [[g2], (Value.slice A4 n5 c6).ownBlock.toList], St w [[g2], (Value.slice A4 n5 c6).ownBlock.toList]]) s := by
  intro s hs
  refine Rounds.ind (mot := (fun (s : Int × ByteArray × (List api_JNode) × Int × Int) => ∀ (A31 : Option Addr) (n32 : Nat) (c33 : Nat) (h34 : Ow z8 A31 n32 c33 s.2.2.1), G (trellisref25_Reader_skip_C w F g2 Tb3 A4 n5 c6 z8 r) [.code q45c6, .inLoop q45c6, .inBlock 0, .code q45c4] [(0, .pointer (some ⟨g2, 0, none⟩)), (1, .int .i64 s.1), (2, .string x11)] [.own (.slice A31 n32 c33) 31 4 n32 (s.2.2.1.flatMap enc_api_JNode), .box g2 Tb3 [.string s.2.1, .slice A31 n32 c33, .int .i64 s.2.2.2.1, .int .i64 s.2.2.2.2]] [Sm w.heap.size F w [[g2], (Value.slice A4 n5 c6).ownBlock.toList], St w [[g2], (Value.slice A4 n5 c6).ownBlock.toList]])) ?_ hs
  clear hs s
  intro s o1 h hO1
  obtain ⟨x28, x29, x30, x35, x36⟩ := s
  show ∀ (A31 : Option Addr) (n32 : Nat) (c33 : Nat) (h34 : Ow z8 A31 n32 c33 x30), G (trellisref25_Reader_skip_C w F g2 Tb3 A4 n5 c6 z8 r) [.code q45c6, .inLoop q45c6, .inBlock 0, .code q45c4] [(0, .pointer (some ⟨g2, 0, none⟩)), (1, .int .i64 x28), (2, .string x11)] [.own (.slice A31 n32 c33) 31 4 n32 (x30.flatMap enc_api_JNode), .box g2 Tb3 [.string x29, .slice A31 n32 c33, .int .i64 x35, .int .i64 x36]] [Sm w.heap.size F w [[g2], (Value.slice A4 n5 c6).ownBlock.toList], St w [[g2], (Value.slice A4 n5 c6).ownBlock.toList]]
  intro A31 n32 c33 h34
  have h : trellisref25_Reader_skip_b1 x11 x28 x29 x30 x35 x36 o1 := h
  unfold trellisref25_Reader_skip_b1 at h
  refine g_seq (c := q45c6) rfl ?_
  refine g_seq (c := q45c7) rfl ?_
  refine g_region (c := q45c9) rfl rfl ?_
  refine wl_v 0 rfl (v_move rfl) gn rfl ?_
  refine wl_v 1 rfl (v_nilCheck rfl) gn rfl ?_
  refine wl_v 2 rfl (v_fldB fo_73_2 rfl) gn rfl ?_
  refine wl_v 3 rfl (v_ldB1 1 ld_34 rfl rfl rfl) gn rfl ?_
  refine wl_v 4 rfl (v_bin rfl rfl rfl) gn rfl ?_
  refine wl_v 5 rfl (v_move rfl) gn rfl ?_
  by_cases hp52 : x35 = 0
  ·have h := if_pos' hp52 h
   refine w_bool 12 rfl ((eqi hp52)) ?_
   refine wl_v 6 rfl (v_move rfl) (gy 12 rfl rfl) rfl ?_
   refine wl_v 7 rfl (v_move rfl) (gy 12 rfl rfl) rfl ?_
   refine wl_v 8 rfl (v_move rfl) (gy 12 rfl rfl) rfl ?_
   obtain ⟨r56, hv57, h⟩ := h
   refine wl_s 9 rfl (s_call [.pointer (some ⟨g2, 0, none⟩), .int .i64 x28, .string x11] rfl Tryd.func60 rfl rfl rfl fun w53 hL54 => ?_) (gy 12 rfl rfl)
   have hp55 : List.Perm ([.own (.slice A31 n32 c33) 31 4 n32 (x30.flatMap enc_api_JNode), .box g2 Tb3 [.string x29, .slice A31 n32 c33, .int .i64 x35, .int .i64 x36]] : List Ent) (([.box g2 Tb3 [.string x29, .slice A31 n32 c33, .int .i64 x35, .int .i64 x36], .own (.slice A31 n32 c33) 31 4 n32 (x30.flatMap enc_api_JNode)] : List Ent) ++ ([] : List Ent)) := perm_of_idx [1, 0] [] rfl rfl (by kernel_rfl)
   refine Calls.mono (trellisref25_Reader_has_calls w53 (Fl ([] : List Snap)) (⟨x29, x30, x35, x36⟩ : trellisref25_Reader) x28 x11 g2 Tb3 z8 A31 n32 c33 (Nat.le_trans hz9 hL54.env.size) h34 (hL54.hFl (Sl := ([] : List Snap)) hp55 (sels [] rfl)) (hL54.into hp55 (Fl ([] : List Snap))) r56 hv57) ?_
   rintro _ w63 ⟨A58, n59, c60, rfl, hM64, h61⟩
   have hL65 := hL54.call hp55 hM64
   refine ⟨_, _, _, rfl, hL65, ?_⟩
   refine wl_v 10 rfl (v_pick (b := true) rfl rfl) gn rfl ?_
   refine w_end 11 rfl ?_
   by_cases hp66 : r56.1 = true
   ·have h := if_pos' hp66 h
    refine g_true (c := q45c10) rfl _ rfl (hp66) ?_
    refine g_skip (c := q45c11) rfl ?_
    refine g_block (c := q45c8) rfl ?_
    refine g_region (c := q45c13) rfl rfl ?_
    refine wl_v 0 rfl (v_move rfl) gn rfl ?_
    refine wl_v 1 rfl (v_bin rfl rfl rfl) gn rfl ?_
    refine wl_v 2 rfl (v_assign rfl) gn rfl ?_
    refine w_end 3 rfl ?_
    refine g_inBlock ?_
    refine g_inLoop ?_
    refine g_front 0 rfl ?_
    refine g_front 1 rfl ?_
    have ih := Out.inl hO1 h
    exact g_go [0, 1] (ih A58 n59 c60 h61) ⟨rfl, rfl, rfl, trivial⟩ (.cons_cons _ (.cons_cons _ (.slnil))) rfl
   ·have h := if_neg' hp66 h
    refine g_false (c := q45c10) rfl _ rfl ((bf hp66)) ?_
    refine g_exit (c := q45c12) [.code q45c4] rfl rfl ?_
    refine g_seq (c := q45c4) rfl ?_
    refine g_region (c := q45c14) rfl rfl ?_
    refine wl_v 0 rfl (v_move rfl) gn rfl ?_
    refine wl_v 1 rfl (v_assign rfl) gn rfl ?_
    refine w_end 2 rfl ?_
    have h := Out.inr hO1 h
    refine g_retR (c := q45c15) [.int .i64 x28] rfl Tryd.func45 rfl (.tmp rfl (.nil)) fun wr hLr => ?_
    have hMr : B.Loc w wr [.box g2 Tb3 [.string r56.2.s, .slice A58 n59 c60, .int .i64 r56.2.e, .int .i64 r56.2.at_], .own (.slice A58 n59 c60) 31 4 n59 (r56.2.l.flatMap enc_api_JNode)] [St w [[g2], (Value.slice A4 n5 c6).ownBlock.toList]] := hLr.pick (rest := []) (perm_of_idx [0, 1] [] rfl rfl (by kernel_rfl)) (sels [1] rfl)
    show trellisref25_Reader_skip_R w F g2 Tb3 A4 n5 c6 z8 r (.returned (packV [.int .i64 x28])) wr
    rw [h]
    exact ⟨A58, n59, c60, rfl, hMr, h61⟩
  ·have h := if_neg' hp52 h
   refine w_bool 12 rfl ((nei hp52)) ?_
   refine wl_pass 6 rfl (ps 12 rfl rfl rfl) ?_
   refine wl_pass 7 rfl (ps 12 rfl rfl rfl) ?_
   refine wl_pass 8 rfl (ps 12 rfl rfl rfl) ?_
   refine wl_pass 9 rfl (ps 12 rfl rfl rfl) ?_
   refine wl_v 10 rfl (v_pick (b := false) rfl rfl) gn rfl ?_
   refine w_end 11 rfl ?_
   refine g_false (c := q45c10) rfl _ rfl (rfl) ?_
   refine g_exit (c := q45c12) [.code q45c4] rfl rfl ?_
   refine g_seq (c := q45c4) rfl ?_
   refine g_region (c := q45c14) rfl rfl ?_
   refine wl_v 0 rfl (v_move rfl) gn rfl ?_
   refine wl_v 1 rfl (v_assign rfl) gn rfl ?_
   refine w_end 2 rfl ?_
   have h := Out.inr hO1 h
   refine g_retR (c := q45c15) [.int .i64 x28] rfl Tryd.func45 rfl (.tmp rfl (.nil)) fun wr hLr => ?_
   have hMr : B.Loc w wr [.box g2 Tb3 [.string x29, .slice A31 n32 c33, .int .i64 x35, .int .i64 x36], .own (.slice A31 n32 c33) 31 4 n32 (x30.flatMap enc_api_JNode)] [St w [[g2], (Value.slice A4 n5 c6).ownBlock.toList]] := hLr.pick (rest := []) (perm_of_idx [1, 0] [] rfl rfl (by kernel_rfl)) (sels [1] rfl)
   show trellisref25_Reader_skip_R w F g2 Tb3 A4 n5 c6 z8 r (.returned (packV [.int .i64 x28])) wr
   rw [h]
   exact ⟨A31, n32, c33, rfl, hMr, h34⟩
 refine g_front 0 rfl ?_
 refine g_front 1 rfl ?_
 exact g_go [0, 1] (key1 _ h A4 n5 c6 h7) ⟨rfl, rfl, rfl, trivial⟩ (.cons_cons _ (.cons_cons _ (.slnil))) rfl
noncomputable abbrev q64c0 : Code := bodyOf Tryd.f64
noncomputable abbrev q64c1 : Code := Code.fst q64c0
noncomputable abbrev q64c2 : Code := Code.snd q64c0
noncomputable abbrev q64c3 : Code := Code.fst q64c2
noncomputable abbrev q64c4 : Code := Code.snd q64c2
noncomputable abbrev q64c5 : Code := Code.fst q64c3
noncomputable abbrev q64c6 : Code := Code.snd q64c3
noncomputable abbrev q64c7 : Code := Code.fst q64c6
noncomputable abbrev q64c8 : Code := Code.snd q64c6
noncomputable abbrev q64c9 : Code := Code.fst q64c4
noncomputable abbrev q64c10 : Code := Code.snd q64c4
noncomputable abbrev q64c11 : Code := Code.fst q64c9
noncomputable abbrev q64c12 : Code := Code.snd q64c9
noncomputable abbrev q64c13 : Code := Code.fst q64c12
noncomputable abbrev q64c14 : Code := Code.snd q64c12
noncomputable abbrev q64c15 : Code := Code.fst q64c14
noncomputable abbrev q64c16 : Code := Code.snd q64c14
noncomputable abbrev q64c17 : Code := Code.fst q64c10
noncomputable abbrev q64c18 : Code := Code.snd q64c10
noncomputable abbrev q64c19 : Code := Code.fst q64c17
noncomputable abbrev q64c20 : Code := Code.snd q64c17
noncomputable abbrev q64c21 : Code := Code.fst q64c20
noncomputable abbrev q64c22 : Code := Code.snd q64c20
noncomputable abbrev q64c23 : Code := Code.fst q64c21
noncomputable abbrev q64c24 : Code := Code.snd q64c21
noncomputable abbrev q64c25 : Code := Code.fst q64c18
noncomputable abbrev q64c26 : Code := Code.snd q64c18
noncomputable abbrev q64c27 : Code := Code.fst q64c25
noncomputable abbrev q64c28 : Code := Code.snd q64c25
noncomputable abbrev q64c29 : Code := Code.fst q64c28
noncomputable abbrev q64c30 : Code := Code.snd q64c28
noncomputable abbrev q64c31 : Code := Code.fst q64c29
noncomputable abbrev q64c32 : Code := Code.snd q64c29
noncomputable abbrev q64c33 : Code := Code.fst q64c32
noncomputable abbrev q64c34 : Code := Code.snd q64c32
noncomputable abbrev q64c35 : Code := Code.fst q64c33
noncomputable abbrev q64c36 : Code := Code.snd q64c33
noncomputable abbrev q64c37 : Code := Code.fst q64c36
noncomputable abbrev q64c38 : Code := Code.snd q64c36
noncomputable abbrev q64c39 : Code := Code.fst q64c34
noncomputable abbrev q64c40 : Code := Code.snd q64c34
noncomputable abbrev q64c41 : Code := Code.fst q64c26
noncomputable abbrev q64c42 : Code := Code.snd q64c26
abbrev trellisref25_Reader_number_R (w : World) (F : Nat → Prop) (g2 : Nat) (Tb3 : Nat) (A4 : Option Addr) (n5 : Nat) (c6 : Nat) (z8 : Nat) (r : Int × trellisref25_Reader) : Ending → World → Prop := fun e w' => ∃ A0 : Option Addr, ∃ n0 : Nat, ∃ c0 : Nat, e = .returned (.int .i64 r.1) ∧ B.Loc w w' [.box g2 Tb3 [.string r.2.s, .slice A0 n0 c0, .int .i64 r.2.e, .int .i64 r.2.at_], .own (.slice A0 n0 c0) 31 4 n0 (r.2.l.flatMap enc_api_JNode)] [St w [[g2], (Value.slice A4 n5 c6).ownBlock.toList]] ∧ Ow z8 A0 n0 c0 r.2.l
noncomputable abbrev trellisref25_Reader_number_C (w : World) (F : Nat → Prop) (g2 : Nat) (Tb3 : Nat) (A4 : Option Addr) (n5 : Nat) (c6 : Nat) (z8 : Nat) (r : Int × trellisref25_Reader) : Cx := ⟨Tryd.prog, 64, Tryd.f64, 62, trellisref25_Reader_number_R w F g2 Tb3 A4 n5 c6 z8 r, w⟩
theorem trellisref25_Reader_number_calls (w : World) (F : Nat → Prop) (x1 : trellisref25_Reader) (x10 : Int) (g2 : Nat) (Tb3 : Nat) (z8 : Nat) (A4 : Option Addr) (n5 : Nat) (c6 : Nat) (hz9 : z8 ≤ w.heap.size) (h7 : Ow z8 A4 n5 c6 x1.l) (hF : ∀ b, F b → b < w.heap.size ∧ ∀ o ∈ ([[g2], (Value.slice A4 n5 c6).ownBlock.toList] : List (List Nat)), b ∉ o) (hL0 : B.Loc w w [.box g2 Tb3 [.string x1.s, .slice A4 n5 c6, .int .i64 x1.e, .int .i64 x1.at_], .own (.slice A4 n5 c6) 31 4 n5 (x1.l.flatMap enc_api_JNode)] [Sm w.heap.size F w [[g2], (Value.slice A4 n5 c6).ownBlock.toList], St w [[g2], (Value.slice A4 n5 c6).ownBlock.toList]]) (r : Int × trellisref25_Reader) (h : trellisref25_Reader_number x1 x10 r) : Calls Tryd.prog 64 #[.pointer (some ⟨g2, 0, none⟩), .int .i64 x10] w (trellisref25_Reader_number_R w F g2 Tb3 A4 n5 c6 z8 r) := by
 unfold trellisref25_Reader_number at h
 refine calls_of_Loc (vs := [.pointer (some ⟨g2, 0, none⟩), .int .i64 x10]) 62 Tryd.func64 rfl Tryd.ntmps64 rfl hL0 ?_
 show G (trellisref25_Reader_number_C w F g2 Tb3 A4 n5 c6 z8 r) _ _ _ _
 refine g_seq (c := q64c0) rfl ?_
 refine g_region (c := q64c1) rfl rfl ?_
 refine wl_v 0 rfl (v_assign rfl) gn rfl ?_
 refine w_end 1 rfl ?_
 refine g_seq (c := q64c2) rfl ?_
 refine g_seq (c := q64c3) rfl ?_
 refine g_region (c := q64c5) rfl rfl ?_
 refine wl_v 0 rfl (v_move rfl) gn rfl ?_
 refine wl_v 1 rfl (v_move rfl) gn rfl ?_
 obtain ⟨r14, hv15, h⟩ := h
 refine wl_s 2 rfl (s_call [.pointer (some ⟨g2, 0, none⟩), .int .i64 x10, .string (⟨#[45]⟩ : ByteArray)] rfl Tryd.func60 rfl rfl rfl fun w11 hL12 => ?_) gn
 have hp13 : List.Perm ([.box g2 Tb3 [.string x1.s, .slice A4 n5 c6, .int .i64 x1.e, .int .i64 x1.at_], .own (.slice A4 n5 c6) 31 4 n5 (x1.l.flatMap enc_api_JNode)] : List Ent) (([.box g2 Tb3 [.string x1.s, .slice A4 n5 c6, .int .i64 x1.e, .int .i64 x1.at_], .own (.slice A4 n5 c6) 31 4 n5 (x1.l.flatMap enc_api_JNode)] : List Ent) ++ ([] : List Ent)) := perm_of_idx [0, 1] [] rfl rfl (by kernel_rfl)
 refine Calls.mono (trellisref25_Reader_has_calls w11 (Fl ([] : List Snap)) x1 x10 (⟨#[45]⟩ : ByteArray) g2 Tb3 z8 A4 n5 c6 (Nat.le_trans hz9 hL12.env.size) h7 (hL12.hFl (Sl := ([] : List Snap)) hp13 (sels [] rfl)) (hL12.into hp13 (Fl ([] : List Snap))) r14 hv15) ?_
 rintro _ w21 ⟨A16, n17, c18, rfl, hM22, h19⟩
 have hL23 := hL12.call hp13 hM22
 refine ⟨_, _, _, rfl, hL23, ?_⟩
 refine w_end 3 rfl ?_
 have j1 : ∀ (x26 : Int) (h : trellisref25_Reader_number_j1 r14 x26 r) , G (trellisref25_Reader_number_C w F g2 Tb3 A4 n5 c6 z8 r) [.code q64c4] [(0, .pointer (some ⟨g2, 0, none⟩)), (1, .int .i64 x26)] [.box g2 Tb3 [.string r14.2.s, .slice A16 n17 c18, .int .i64 r14.2.e, .int .i64 r14.2.at_], .own (.slice A16 n17 c18) 31 4 n17 (r14.2.l.flatMap enc_api_JNode)] [Sm w.heap.size F w [[g2], (Value.slice A4 n5 c6).ownBlock.toList], St w [[g2], (Value.slice A4 n5 c6).ownBlock.toList]] := by
  intro x26 h
  unfold trellisref25_Reader_number_j1 at h
  refine g_seq (c := q64c4) rfl ?_
  refine g_seq (c := q64c9) rfl ?_
  refine g_region (c := q64c11) rfl rfl ?_
  refine wl_v 0 rfl (v_move rfl) gn rfl ?_
  refine wl_v 1 rfl (v_move rfl) gn rfl ?_
  obtain ⟨r30, hv31, h⟩ := h
  refine wl_s 2 rfl (s_call [.pointer (some ⟨g2, 0, none⟩), .int .i64 x26, .string (⟨#[48]⟩ : ByteArray)] rfl Tryd.func60 rfl rfl rfl fun w27 hL28 => ?_) gn
  have hp29 : List.Perm ([.box g2 Tb3 [.string r14.2.s, .slice A16 n17 c18, .int .i64 r14.2.e, .int .i64 r14.2.at_], .own (.slice A16 n17 c18) 31 4 n17 (r14.2.l.flatMap enc_api_JNode)] : List Ent) (([.box g2 Tb3 [.string r14.2.s, .slice A16 n17 c18, .int .i64 r14.2.e, .int .i64 r14.2.at_], .own (.slice A16 n17 c18) 31 4 n17 (r14.2.l.flatMap enc_api_JNode)] : List Ent) ++ ([] : List Ent)) := perm_of_idx [0, 1] [] rfl rfl (by kernel_rfl)
  refine Calls.mono (trellisref25_Reader_has_calls w27 (Fl ([] : List Snap)) r14.2 x26 (⟨#[48]⟩ : ByteArray) g2 Tb3 z8 A16 n17 c18 (Nat.le_trans hz9 hL28.env.size) h19 (hL28.hFl (Sl := ([] : List Snap)) hp29 (sels [] rfl)) (hL28.into hp29 (Fl ([] : List Snap))) r30 hv31) ?_
  rintro _ w37 ⟨A32, n33, c34, rfl, hM38, h35⟩
  have hL39 := hL28.call hp29 hM38
  refine ⟨_, _, _, rfl, hL39, ?_⟩
  refine w_end 3 rfl ?_
  have j2 : ∀ (x69 : Int) (x70 : ByteArray) (x71 : List api_JNode) (x76 : Int) (x77 : Int) (h : trellisref25_Reader_number_j2 x69 x70 x71 x76 x77 r) (A72 : Option Addr) (n73 : Nat) (c74 : Nat) (h75 : Ow z8 A72 n73 c74 x71), G (trellisref25_Reader_number_C w F g2 Tb3 A4 n5 c6 z8 r) [.code q64c10] [(0, .pointer (some ⟨g2, 0, none⟩)), (1, .int .i64 x69)] [.own (.slice A72 n73 c74) 31 4 n73 (x71.flatMap enc_api_JNode), .box g2 Tb3 [.string x70, .slice A72 n73 c74, .int .i64 x76, .int .i64 x77]] [Sm w.heap.size F w [[g2], (Value.slice A4 n5 c6).ownBlock.toList], St w [[g2], (Value.slice A4 n5 c6).ownBlock.toList]] := by
   intro x69 x70 x71 x76 x77 h A72 n73 c74 h75
   unfold trellisref25_Reader_number_j2 at h
   refine g_seq (c := q64c10) rfl ?_
   refine g_seq (c := q64c17) rfl ?_
   have j3 : ∀ (x93 : Bool) (x94 : ByteArray) (x95 : List api_JNode) (x100 : Int) (x101 : Int) (h : trellisref25_Reader_number_j3 x69 x93 x94 x95 x100 x101 r) (A96 : Option Addr) (n97 : Nat) (c98 : Nat) (h99 : Ow z8 A96 n97 c98 x95), G (trellisref25_Reader_number_C w F g2 Tb3 A4 n5 c6 z8 r) [.code q64c20, .code q64c18] [(0, .pointer (some ⟨g2, 0, none⟩)), (1, .int .i64 x69), (30, .bool x93)] [.own (.slice A96 n97 c98) 31 4 n97 (x95.flatMap enc_api_JNode), .box g2 Tb3 [.string x94, .slice A96 n97 c98, .int .i64 x100, .int .i64 x101]] [Sm w.heap.size F w [[g2], (Value.slice A4 n5 c6).ownBlock.toList], St w [[g2], (Value.slice A4 n5 c6).ownBlock.toList]] := by
    intro x93 x94 x95 x100 x101 h A96 n97 c98 h99
    unfold trellisref25_Reader_number_j3 at h
    have j4 : ∀ (x130 : Int) (x131 : ByteArray) (x132 : List api_JNode) (x137 : Int) (x138 : Int) (h : trellisref25_Reader_number_j4 x130 x131 x132 x137 x138 r) (A133 : Option Addr) (n134 : Nat) (c135 : Nat) (h136 : Ow z8 A133 n134 c135 x132), G (trellisref25_Reader_number_C w F g2 Tb3 A4 n5 c6 z8 r) [.code q64c18] [(0, .pointer (some ⟨g2, 0, none⟩)), (1, .int .i64 x130)] [.own (.slice A133 n134 c135) 31 4 n134 (x132.flatMap enc_api_JNode), .box g2 Tb3 [.string x131, .slice A133 n134 c135, .int .i64 x137, .int .i64 x138]] [Sm w.heap.size F w [[g2], (Value.slice A4 n5 c6).ownBlock.toList], St w [[g2], (Value.slice A4 n5 c6).ownBlock.toList]] := by
     intro x130 x131 x132 x137 x138 h A133 n134 c135 h136
     unfold trellisref25_Reader_number_j4 at h
     refine g_seq (c := q64c18) rfl ?_
     refine g_seq (c := q64c25) rfl ?_
     have j5 : ∀ (x154 : Bool) (x155 : ByteArray) (x156 : List api_JNode) (x161 : Int) (x162 : Int) (h : trellisref25_Reader_number_j5 x130 x154 x155 x156 x161 x162 r) (A157 : Option Addr) (n158 : Nat) (c159 : Nat) (h160 : Ow z8 A157 n158 c159 x156), G (trellisref25_Reader_number_C w F g2 Tb3 A4 n5 c6 z8 r) [.code q64c28, .code q64c26] [(0, .pointer (some ⟨g2, 0, none⟩)), (1, .int .i64 x130), (47, .bool x154)] [.own (.slice A157 n158 c159) 31 4 n158 (x156.flatMap enc_api_JNode), .box g2 Tb3 [.string x155, .slice A157 n158 c159, .int .i64 x161, .int .i64 x162]] [Sm w.heap.size F w [[g2], (Value.slice A4 n5 c6).ownBlock.toList], St w [[g2], (Value.slice A4 n5 c6).ownBlock.toList]] := by
      intro x154 x155 x156 x161 x162 h A157 n158 c159 h160
      unfold trellisref25_Reader_number_j5 at h
      by_cases hp163 : x154 = true
      ·have h := if_pos' hp163 h
       refine g_true (c := q64c28) rfl _ rfl (hp163) ?_
       refine g_seq (c := q64c29) rfl ?_
       refine g_region (c := q64c31) rfl rfl ?_
       refine wl_v 0 rfl (v_move rfl) gn rfl ?_
       refine wl_v 1 rfl (v_bin rfl rfl rfl) gn rfl ?_
       refine wl_v 2 rfl (v_assign rfl) gn rfl ?_
       refine w_end 3 rfl ?_
       refine g_seq (c := q64c32) rfl ?_
       refine g_seq (c := q64c33) rfl ?_
       refine g_region (c := q64c35) rfl rfl ?_
       refine wl_v 0 rfl (v_move rfl) gn rfl ?_
       refine wl_v 1 rfl (v_move rfl) gn rfl ?_
       obtain ⟨r167, hv168, h⟩ := h
       refine wl_s 2 rfl (s_call [.pointer (some ⟨g2, 0, none⟩), .int .i64 (w64 (x130 + 1)), .string (⟨#[43, 45]⟩ : ByteArray)] rfl Tryd.func60 rfl rfl rfl fun w164 hL165 => ?_) gn
       have hp166 : List.Perm ([.own (.slice A157 n158 c159) 31 4 n158 (x156.flatMap enc_api_JNode), .box g2 Tb3 [.string x155, .slice A157 n158 c159, .int .i64 x161, .int .i64 x162]] : List Ent) (([.box g2 Tb3 [.string x155, .slice A157 n158 c159, .int .i64 x161, .int .i64 x162], .own (.slice A157 n158 c159) 31 4 n158 (x156.flatMap enc_api_JNode)] : List Ent) ++ ([] : List Ent)) := perm_of_idx [1, 0] [] rfl rfl (by kernel_rfl)
       refine Calls.mono (trellisref25_Reader_has_calls w164 (Fl ([] : List Snap)) (⟨x155, x156, x161, x162⟩ : trellisref25_Reader) (w64 (x130 + 1)) (⟨#[43, 45]⟩ : ByteArray) g2 Tb3 z8 A157 n158 c159 (Nat.le_trans hz9 hL165.env.size) h160 (hL165.hFl (Sl := ([] : List Snap)) hp166 (sels [] rfl)) (hL165.into hp166 (Fl ([] : List Snap))) r167 hv168) ?_
       rintro _ w174 ⟨A169, n170, c171, rfl, hM175, h172⟩
       have hL176 := hL165.call hp166 hM175
       refine ⟨_, _, _, rfl, hL176, ?_⟩
       refine w_end 3 rfl ?_
       have j6 : ∀ (x179 : Int) (h : trellisref25_Reader_number_j6 r167 x179 r) , G (trellisref25_Reader_number_C w F g2 Tb3 A4 n5 c6 z8 r) [.code q64c34, .code q64c26] [(0, .pointer (some ⟨g2, 0, none⟩)), (1, .int .i64 x179)] [.box g2 Tb3 [.string r167.2.s, .slice A169 n170 c171, .int .i64 r167.2.e, .int .i64 r167.2.at_], .own (.slice A169 n170 c171) 31 4 n170 (r167.2.l.flatMap enc_api_JNode)] [Sm w.heap.size F w [[g2], (Value.slice A4 n5 c6).ownBlock.toList], St w [[g2], (Value.slice A4 n5 c6).ownBlock.toList]] := by
        intro x179 h
        unfold trellisref25_Reader_number_j6 at h
        refine g_seq (c := q64c34) rfl ?_
        refine g_region (c := q64c39) rfl rfl ?_
        refine wl_v 0 rfl (v_move rfl) gn rfl ?_
        refine wl_v 1 rfl (v_move rfl) gn rfl ?_
        obtain ⟨r183, hv184, h⟩ := h
        refine wl_s 2 rfl (s_call [.pointer (some ⟨g2, 0, none⟩), .int .i64 x179, .string (⟨#[48, 49, 50, 51, 52, 53, 54, 55, 56, 57]⟩ : ByteArray)] rfl Tryd.func75 rfl rfl rfl fun w180 hL181 => ?_) gn
        have hp182 : List.Perm ([.box g2 Tb3 [.string r167.2.s, .slice A169 n170 c171, .int .i64 r167.2.e, .int .i64 r167.2.at_], .own (.slice A169 n170 c171) 31 4 n170 (r167.2.l.flatMap enc_api_JNode)] : List Ent) (([.box g2 Tb3 [.string r167.2.s, .slice A169 n170 c171, .int .i64 r167.2.e, .int .i64 r167.2.at_], .own (.slice A169 n170 c171) 31 4 n170 (r167.2.l.flatMap enc_api_JNode)] : List Ent) ++ ([] : List Ent)) := perm_of_idx [0, 1] [] rfl rfl (by kernel_rfl)
        refine Calls.mono (trellisref25_Reader_need_calls w180 (Fl ([] : List Snap)) r167.2 x179 (⟨#[48, 49, 50, 51, 52, 53, 54, 55, 56, 57]⟩ : ByteArray) g2 Tb3 z8 A169 n170 c171 (Nat.le_trans hz9 hL181.env.size) h172 (hL181.hFl (Sl := ([] : List Snap)) hp182 (sels [] rfl)) (hL181.into hp182 (Fl ([] : List Snap))) r183 hv184) ?_
        rintro _ w190 ⟨A185, n186, c187, rfl, hM191, h188⟩
        have hL192 := hL181.call hp182 hM191
        refine ⟨_, _, _, rfl, hL192, ?_⟩
        refine wl_v 3 rfl (v_assign rfl) gn rfl ?_
        refine w_end 4 rfl ?_
        refine g_region (c := q64c40) rfl rfl ?_
        refine wl_v 0 rfl (v_move rfl) gn rfl ?_
        refine wl_v 1 rfl (v_move rfl) gn rfl ?_
        obtain ⟨r196, hv197, h⟩ := h
        refine wl_s 2 rfl (s_call [.pointer (some ⟨g2, 0, none⟩), .int .i64 r183.1, .string (⟨#[48, 49, 50, 51, 52, 53, 54, 55, 56, 57]⟩ : ByteArray)] rfl Tryd.func45 rfl rfl rfl fun w193 hL194 => ?_) gn
        have hp195 : List.Perm ([.box g2 Tb3 [.string r183.2.s, .slice A185 n186 c187, .int .i64 r183.2.e, .int .i64 r183.2.at_], .own (.slice A185 n186 c187) 31 4 n186 (r183.2.l.flatMap enc_api_JNode)] : List Ent) (([.box g2 Tb3 [.string r183.2.s, .slice A185 n186 c187, .int .i64 r183.2.e, .int .i64 r183.2.at_], .own (.slice A185 n186 c187) 31 4 n186 (r183.2.l.flatMap enc_api_JNode)] : List Ent) ++ ([] : List Ent)) := perm_of_idx [0, 1] [] rfl rfl (by kernel_rfl)
        refine Calls.mono (trellisref25_Reader_skip_calls w193 (Fl ([] : List Snap)) r183.2 r183.1 (⟨#[48, 49, 50, 51, 52, 53, 54, 55, 56, 57]⟩ : ByteArray) g2 Tb3 z8 A185 n186 c187 (Nat.le_trans hz9 hL194.env.size) h188 (hL194.hFl (Sl := ([] : List Snap)) hp195 (sels [] rfl)) (hL194.into hp195 (Fl ([] : List Snap))) r196 hv197) ?_
        rintro _ w203 ⟨A198, n199, c200, rfl, hM204, h201⟩
        have hL205 := hL194.call hp195 hM204
        refine ⟨_, _, _, rfl, hL205, ?_⟩
        refine wl_v 3 rfl (v_assign rfl) gn rfl ?_
        refine w_end 4 rfl ?_
        refine g_seq (c := q64c26) rfl ?_
        refine g_region (c := q64c41) rfl rfl ?_
        refine wl_v 0 rfl (v_move rfl) gn rfl ?_
        refine wl_v 1 rfl (v_assign rfl) gn rfl ?_
        refine w_end 2 rfl ?_
        refine g_retR (c := q64c42) [.int .i64 r196.1] rfl Tryd.func64 rfl (.tmp rfl (.nil)) fun wr hLr => ?_
        have hMr : B.Loc w wr [.box g2 Tb3 [.string r196.2.s, .slice A198 n199 c200, .int .i64 r196.2.e, .int .i64 r196.2.at_], .own (.slice A198 n199 c200) 31 4 n199 (r196.2.l.flatMap enc_api_JNode)] [St w [[g2], (Value.slice A4 n5 c6).ownBlock.toList]] := hLr.pick (rest := []) (perm_of_idx [0, 1] [] rfl rfl (by kernel_rfl)) (sels [1] rfl)
        show trellisref25_Reader_number_R w F g2 Tb3 A4 n5 c6 z8 r (.returned (packV [.int .i64 r196.1])) wr
        rw [h]
        exact ⟨A198, n199, c200, rfl, hMr, h201⟩
       by_cases hp177 : r167.1 = true
       ·have h := if_pos' hp177 h
        refine g_true (c := q64c36) rfl _ rfl (hp177) ?_
        refine g_region (c := q64c37) rfl rfl ?_
        refine wl_v 0 rfl (v_move rfl) gn rfl ?_
        refine wl_v 1 rfl (v_bin rfl rfl rfl) gn rfl ?_
        refine wl_v 2 rfl (v_assign rfl) gn rfl ?_
        refine w_end 3 rfl ?_
        exact g_go [0, 1] (j6 (w64 ((w64 (x130 + 1)) + 1)) h) ⟨rfl, rfl, trivial⟩ (.cons_cons _ (.cons_cons _ (.slnil))) rfl
       ·have h := if_neg' hp177 h
        refine g_false (c := q64c36) rfl _ rfl ((bf hp177)) ?_
        refine g_skip (c := q64c38) rfl ?_
        exact g_go [0, 1] (j6 (w64 (x130 + 1)) h) ⟨rfl, rfl, trivial⟩ (.cons_cons _ (.cons_cons _ (.slnil))) rfl
      ·have h := if_neg' hp163 h
       refine g_false (c := q64c28) rfl _ rfl ((bf hp163)) ?_
       refine g_skip (c := q64c30) rfl ?_
       refine g_seq (c := q64c26) rfl ?_
       refine g_region (c := q64c41) rfl rfl ?_
       refine wl_v 0 rfl (v_move rfl) gn rfl ?_
       refine wl_v 1 rfl (v_assign rfl) gn rfl ?_
       refine w_end 2 rfl ?_
       refine g_retR (c := q64c42) [.int .i64 x130] rfl Tryd.func64 rfl (.tmp rfl (.nil)) fun wr hLr => ?_
       have hMr : B.Loc w wr [.box g2 Tb3 [.string x155, .slice A157 n158 c159, .int .i64 x161, .int .i64 x162], .own (.slice A157 n158 c159) 31 4 n158 (x156.flatMap enc_api_JNode)] [St w [[g2], (Value.slice A4 n5 c6).ownBlock.toList]] := hLr.pick (rest := []) (perm_of_idx [1, 0] [] rfl rfl (by kernel_rfl)) (sels [1] rfl)
       show trellisref25_Reader_number_R w F g2 Tb3 A4 n5 c6 z8 r (.returned (packV [.int .i64 x130])) wr
       rw [h]
       exact ⟨A157, n158, c159, rfl, hMr, h160⟩
     refine g_region (c := q64c27) rfl rfl ?_
     refine wl_v 0 rfl (v_move rfl) gn rfl ?_
     refine wl_v 1 rfl (v_nilCheck rfl) gn rfl ?_
     refine wl_v 2 rfl (v_fldB fo_73_2 rfl) gn rfl ?_
     refine wl_v 3 rfl (v_ldB1 1 ld_34 rfl rfl rfl) gn rfl ?_
     refine wl_v 4 rfl (v_bin rfl rfl rfl) gn rfl ?_
     refine wl_v 5 rfl (v_move rfl) gn rfl ?_
     by_cases hp206 : x137 = 0
     ·have h := if_pos' hp206 h
      refine w_bool 43 rfl ((eqi hp206)) ?_
      refine wl_v 6 rfl (v_move rfl) (gy 43 rfl rfl) rfl ?_
      refine wl_v 7 rfl (v_move rfl) (gy 43 rfl rfl) rfl ?_
      obtain ⟨r210, hv211, h⟩ := h
      refine wl_s 8 rfl (s_call [.pointer (some ⟨g2, 0, none⟩), .int .i64 x130, .string (⟨#[101, 69]⟩ : ByteArray)] rfl Tryd.func60 rfl rfl rfl fun w207 hL208 => ?_) (gy 43 rfl rfl)
      have hp209 : List.Perm ([.own (.slice A133 n134 c135) 31 4 n134 (x132.flatMap enc_api_JNode), .box g2 Tb3 [.string x131, .slice A133 n134 c135, .int .i64 x137, .int .i64 x138]] : List Ent) (([.box g2 Tb3 [.string x131, .slice A133 n134 c135, .int .i64 x137, .int .i64 x138], .own (.slice A133 n134 c135) 31 4 n134 (x132.flatMap enc_api_JNode)] : List Ent) ++ ([] : List Ent)) := perm_of_idx [1, 0] [] rfl rfl (by kernel_rfl)
      refine Calls.mono (trellisref25_Reader_has_calls w207 (Fl ([] : List Snap)) (⟨x131, x132, x137, x138⟩ : trellisref25_Reader) x130 (⟨#[101, 69]⟩ : ByteArray) g2 Tb3 z8 A133 n134 c135 (Nat.le_trans hz9 hL208.env.size) h136 (hL208.hFl (Sl := ([] : List Snap)) hp209 (sels [] rfl)) (hL208.into hp209 (Fl ([] : List Snap))) r210 hv211) ?_
      rintro _ w217 ⟨A212, n213, c214, rfl, hM218, h215⟩
      have hL219 := hL208.call hp209 hM218
      refine ⟨_, _, _, rfl, hL219, ?_⟩
      refine wl_v 9 rfl (v_pick (b := true) rfl rfl) gn rfl ?_
      refine w_end 10 rfl ?_
      refine g_front 0 rfl ?_
      refine g_front 1 rfl ?_
      exact g_go [0, 1] (j5 r210.1 r210.2.s r210.2.l r210.2.e r210.2.at_ h A212 n213 c214 h215) ⟨rfl, rfl, rfl, trivial⟩ (.cons_cons _ (.cons_cons _ (.slnil))) rfl
     ·have h := if_neg' hp206 h
      refine w_bool 43 rfl ((nei hp206)) ?_
      refine wl_pass 6 rfl (ps 43 rfl rfl rfl) ?_
      refine wl_pass 7 rfl (ps 43 rfl rfl rfl) ?_
      refine wl_pass 8 rfl (ps 43 rfl rfl rfl) ?_
      refine wl_v 9 rfl (v_pick (b := false) rfl rfl) gn rfl ?_
      refine w_end 10 rfl ?_
      exact g_go [0, 1] (j5 false x131 x132 x137 x138 h A133 n134 c135 h136) ⟨rfl, rfl, rfl, trivial⟩ (.cons_cons _ (.cons_cons _ (.slnil))) rfl
    by_cases hp102 : x93 = true
    ·have h := if_pos' hp102 h
     refine g_true (c := q64c20) rfl _ rfl (hp102) ?_
     refine g_seq (c := q64c21) rfl ?_
     refine g_region (c := q64c23) rfl rfl ?_
     refine wl_v 0 rfl (v_move rfl) gn rfl ?_
     refine wl_v 1 rfl (v_move rfl) gn rfl ?_
     refine wl_v 2 rfl (v_bin rfl rfl rfl) gn rfl ?_
     obtain ⟨r223, hv224, h⟩ := h
     refine wl_s 3 rfl (s_call [.pointer (some ⟨g2, 0, none⟩), .int .i64 (w64 (x69 + 1)), .string (⟨#[48, 49, 50, 51, 52, 53, 54, 55, 56, 57]⟩ : ByteArray)] rfl Tryd.func75 rfl rfl rfl fun w220 hL221 => ?_) gn
     have hp222 : List.Perm ([.own (.slice A96 n97 c98) 31 4 n97 (x95.flatMap enc_api_JNode), .box g2 Tb3 [.string x94, .slice A96 n97 c98, .int .i64 x100, .int .i64 x101]] : List Ent) (([.box g2 Tb3 [.string x94, .slice A96 n97 c98, .int .i64 x100, .int .i64 x101], .own (.slice A96 n97 c98) 31 4 n97 (x95.flatMap enc_api_JNode)] : List Ent) ++ ([] : List Ent)) := perm_of_idx [1, 0] [] rfl rfl (by kernel_rfl)
     refine Calls.mono (trellisref25_Reader_need_calls w220 (Fl ([] : List Snap)) (⟨x94, x95, x100, x101⟩ : trellisref25_Reader) (w64 (x69 + 1)) (⟨#[48, 49, 50, 51, 52, 53, 54, 55, 56, 57]⟩ : ByteArray) g2 Tb3 z8 A96 n97 c98 (Nat.le_trans hz9 hL221.env.size) h99 (hL221.hFl (Sl := ([] : List Snap)) hp222 (sels [] rfl)) (hL221.into hp222 (Fl ([] : List Snap))) r223 hv224) ?_
     rintro _ w230 ⟨A225, n226, c227, rfl, hM231, h228⟩
     have hL232 := hL221.call hp222 hM231
     refine ⟨_, _, _, rfl, hL232, ?_⟩
     refine wl_v 4 rfl (v_assign rfl) gn rfl ?_
     refine w_end 5 rfl ?_
     refine g_region (c := q64c24) rfl rfl ?_
     refine wl_v 0 rfl (v_move rfl) gn rfl ?_
     refine wl_v 1 rfl (v_move rfl) gn rfl ?_
     obtain ⟨r236, hv237, h⟩ := h
     refine wl_s 2 rfl (s_call [.pointer (some ⟨g2, 0, none⟩), .int .i64 r223.1, .string (⟨#[48, 49, 50, 51, 52, 53, 54, 55, 56, 57]⟩ : ByteArray)] rfl Tryd.func45 rfl rfl rfl fun w233 hL234 => ?_) gn
     have hp235 : List.Perm ([.box g2 Tb3 [.string r223.2.s, .slice A225 n226 c227, .int .i64 r223.2.e, .int .i64 r223.2.at_], .own (.slice A225 n226 c227) 31 4 n226 (r223.2.l.flatMap enc_api_JNode)] : List Ent) (([.box g2 Tb3 [.string r223.2.s, .slice A225 n226 c227, .int .i64 r223.2.e, .int .i64 r223.2.at_], .own (.slice A225 n226 c227) 31 4 n226 (r223.2.l.flatMap enc_api_JNode)] : List Ent) ++ ([] : List Ent)) := perm_of_idx [0, 1] [] rfl rfl (by kernel_rfl)
     refine Calls.mono (trellisref25_Reader_skip_calls w233 (Fl ([] : List Snap)) r223.2 r223.1 (⟨#[48, 49, 50, 51, 52, 53, 54, 55, 56, 57]⟩ : ByteArray) g2 Tb3 z8 A225 n226 c227 (Nat.le_trans hz9 hL234.env.size) h228 (hL234.hFl (Sl := ([] : List Snap)) hp235 (sels [] rfl)) (hL234.into hp235 (Fl ([] : List Snap))) r236 hv237) ?_
     rintro _ w243 ⟨A238, n239, c240, rfl, hM244, h241⟩
     have hL245 := hL234.call hp235 hM244
     refine ⟨_, _, _, rfl, hL245, ?_⟩
     refine wl_v 3 rfl (v_assign rfl) gn rfl ?_
     refine w_end 4 rfl ?_
     refine g_front 0 rfl ?_
     refine g_front 1 rfl ?_
     exact g_go [0, 1] (j4 r236.1 r236.2.s r236.2.l r236.2.e r236.2.at_ h A238 n239 c240 h241) ⟨rfl, rfl, trivial⟩ (.cons_cons _ (.cons_cons _ (.slnil))) rfl
    ·have h := if_neg' hp102 h
     refine g_false (c := q64c20) rfl _ rfl ((bf hp102)) ?_
     refine g_skip (c := q64c22) rfl ?_
     exact g_go [0, 1] (j4 x69 x94 x95 x100 x101 h A96 n97 c98 h99) ⟨rfl, rfl, trivial⟩ (.cons_cons _ (.cons_cons _ (.slnil))) rfl
   refine g_region (c := q64c19) rfl rfl ?_
   refine wl_v 0 rfl (v_move rfl) gn rfl ?_
   refine wl_v 1 rfl (v_nilCheck rfl) gn rfl ?_
   refine wl_v 2 rfl (v_fldB fo_73_2 rfl) gn rfl ?_
   refine wl_v 3 rfl (v_ldB1 1 ld_34 rfl rfl rfl) gn rfl ?_
   refine wl_v 4 rfl (v_bin rfl rfl rfl) gn rfl ?_
   refine wl_v 5 rfl (v_move rfl) gn rfl ?_
   by_cases hp246 : x76 = 0
   ·have h := if_pos' hp246 h
    refine w_bool 26 rfl ((eqi hp246)) ?_
    refine wl_v 6 rfl (v_move rfl) (gy 26 rfl rfl) rfl ?_
    refine wl_v 7 rfl (v_move rfl) (gy 26 rfl rfl) rfl ?_
    obtain ⟨r250, hv251, h⟩ := h
    refine wl_s 8 rfl (s_call [.pointer (some ⟨g2, 0, none⟩), .int .i64 x69, .string (⟨#[46]⟩ : ByteArray)] rfl Tryd.func60 rfl rfl rfl fun w247 hL248 => ?_) (gy 26 rfl rfl)
    have hp249 : List.Perm ([.own (.slice A72 n73 c74) 31 4 n73 (x71.flatMap enc_api_JNode), .box g2 Tb3 [.string x70, .slice A72 n73 c74, .int .i64 x76, .int .i64 x77]] : List Ent) (([.box g2 Tb3 [.string x70, .slice A72 n73 c74, .int .i64 x76, .int .i64 x77], .own (.slice A72 n73 c74) 31 4 n73 (x71.flatMap enc_api_JNode)] : List Ent) ++ ([] : List Ent)) := perm_of_idx [1, 0] [] rfl rfl (by kernel_rfl)
    refine Calls.mono (trellisref25_Reader_has_calls w247 (Fl ([] : List Snap)) (⟨x70, x71, x76, x77⟩ : trellisref25_Reader) x69 (⟨#[46]⟩ : ByteArray) g2 Tb3 z8 A72 n73 c74 (Nat.le_trans hz9 hL248.env.size) h75 (hL248.hFl (Sl := ([] : List Snap)) hp249 (sels [] rfl)) (hL248.into hp249 (Fl ([] : List Snap))) r250 hv251) ?_
    rintro _ w257 ⟨A252, n253, c254, rfl, hM258, h255⟩
    have hL259 := hL248.call hp249 hM258
    refine ⟨_, _, _, rfl, hL259, ?_⟩
    refine wl_v 9 rfl (v_pick (b := true) rfl rfl) gn rfl ?_
    refine w_end 10 rfl ?_
    refine g_front 0 rfl ?_
    refine g_front 1 rfl ?_
    exact g_go [0, 1] (j3 r250.1 r250.2.s r250.2.l r250.2.e r250.2.at_ h A252 n253 c254 h255) ⟨rfl, rfl, rfl, trivial⟩ (.cons_cons _ (.cons_cons _ (.slnil))) rfl
   ·have h := if_neg' hp246 h
    refine w_bool 26 rfl ((nei hp246)) ?_
    refine wl_pass 6 rfl (ps 26 rfl rfl rfl) ?_
    refine wl_pass 7 rfl (ps 26 rfl rfl rfl) ?_
    refine wl_pass 8 rfl (ps 26 rfl rfl rfl) ?_
    refine wl_v 9 rfl (v_pick (b := false) rfl rfl) gn rfl ?_
    refine w_end 10 rfl ?_
    exact g_go [0, 1] (j3 false x70 x71 x76 x77 h A72 n73 c74 h75) ⟨rfl, rfl, rfl, trivial⟩ (.cons_cons _ (.cons_cons _ (.slnil))) rfl
  by_cases hp40 : r30.1 = true
  ·have h := if_pos' hp40 h
   refine g_true (c := q64c12) rfl _ rfl (hp40) ?_
   refine g_region (c := q64c13) rfl rfl ?_
   refine wl_v 0 rfl (v_move rfl) gn rfl ?_
   refine wl_v 1 rfl (v_bin rfl rfl rfl) gn rfl ?_
   refine wl_v 2 rfl (v_assign rfl) gn rfl ?_
   refine w_end 3 rfl ?_
   refine g_front 0 rfl ?_
   refine g_front 1 rfl ?_
   exact g_go [0, 1] (j2 (w64 (x26 + 1)) r30.2.s r30.2.l r30.2.e r30.2.at_ h A32 n33 c34 h35) ⟨rfl, rfl, trivial⟩ (.cons_cons _ (.cons_cons _ (.slnil))) rfl
  ·have h := if_neg' hp40 h
   refine g_false (c := q64c12) rfl _ rfl ((bf hp40)) ?_
   refine g_seq (c := q64c14) rfl ?_
   refine g_region (c := q64c15) rfl rfl ?_
   refine wl_v 0 rfl (v_move rfl) gn rfl ?_
   refine wl_v 1 rfl (v_move rfl) gn rfl ?_
   obtain ⟨r263, hv264, h⟩ := h
   refine wl_s 2 rfl (s_call [.pointer (some ⟨g2, 0, none⟩), .int .i64 x26, .string (⟨#[48, 49, 50, 51, 52, 53, 54, 55, 56, 57]⟩ : ByteArray)] rfl Tryd.func75 rfl rfl rfl fun w260 hL261 => ?_) gn
   have hp262 : List.Perm ([.box g2 Tb3 [.string r30.2.s, .slice A32 n33 c34, .int .i64 r30.2.e, .int .i64 r30.2.at_], .own (.slice A32 n33 c34) 31 4 n33 (r30.2.l.flatMap enc_api_JNode)] : List Ent) (([.box g2 Tb3 [.string r30.2.s, .slice A32 n33 c34, .int .i64 r30.2.e, .int .i64 r30.2.at_], .own (.slice A32 n33 c34) 31 4 n33 (r30.2.l.flatMap enc_api_JNode)] : List Ent) ++ ([] : List Ent)) := perm_of_idx [0, 1] [] rfl rfl (by kernel_rfl)
   refine Calls.mono (trellisref25_Reader_need_calls w260 (Fl ([] : List Snap)) r30.2 x26 (⟨#[48, 49, 50, 51, 52, 53, 54, 55, 56, 57]⟩ : ByteArray) g2 Tb3 z8 A32 n33 c34 (Nat.le_trans hz9 hL261.env.size) h35 (hL261.hFl (Sl := ([] : List Snap)) hp262 (sels [] rfl)) (hL261.into hp262 (Fl ([] : List Snap))) r263 hv264) ?_
   rintro _ w270 ⟨A265, n266, c267, rfl, hM271, h268⟩
   have hL272 := hL261.call hp262 hM271
   refine ⟨_, _, _, rfl, hL272, ?_⟩
   refine wl_v 3 rfl (v_assign rfl) gn rfl ?_
   refine w_end 4 rfl ?_
   refine g_region (c := q64c16) rfl rfl ?_
   refine wl_v 0 rfl (v_move rfl) gn rfl ?_
   refine wl_v 1 rfl (v_move rfl) gn rfl ?_
   obtain ⟨r276, hv277, h⟩ := h
   refine wl_s 2 rfl (s_call [.pointer (some ⟨g2, 0, none⟩), .int .i64 r263.1, .string (⟨#[48, 49, 50, 51, 52, 53, 54, 55, 56, 57]⟩ : ByteArray)] rfl Tryd.func45 rfl rfl rfl fun w273 hL274 => ?_) gn
   have hp275 : List.Perm ([.box g2 Tb3 [.string r263.2.s, .slice A265 n266 c267, .int .i64 r263.2.e, .int .i64 r263.2.at_], .own (.slice A265 n266 c267) 31 4 n266 (r263.2.l.flatMap enc_api_JNode)] : List Ent) (([.box g2 Tb3 [.string r263.2.s, .slice A265 n266 c267, .int .i64 r263.2.e, .int .i64 r263.2.at_], .own (.slice A265 n266 c267) 31 4 n266 (r263.2.l.flatMap enc_api_JNode)] : List Ent) ++ ([] : List Ent)) := perm_of_idx [0, 1] [] rfl rfl (by kernel_rfl)
   refine Calls.mono (trellisref25_Reader_skip_calls w273 (Fl ([] : List Snap)) r263.2 r263.1 (⟨#[48, 49, 50, 51, 52, 53, 54, 55, 56, 57]⟩ : ByteArray) g2 Tb3 z8 A265 n266 c267 (Nat.le_trans hz9 hL274.env.size) h268 (hL274.hFl (Sl := ([] : List Snap)) hp275 (sels [] rfl)) (hL274.into hp275 (Fl ([] : List Snap))) r276 hv277) ?_
   rintro _ w283 ⟨A278, n279, c280, rfl, hM284, h281⟩
   have hL285 := hL274.call hp275 hM284
   refine ⟨_, _, _, rfl, hL285, ?_⟩
   refine wl_v 3 rfl (v_assign rfl) gn rfl ?_
   refine w_end 4 rfl ?_
   refine g_front 0 rfl ?_
   refine g_front 1 rfl ?_
   exact g_go [0, 1] (j2 r276.1 r276.2.s r276.2.l r276.2.e r276.2.at_ h A278 n279 c280 h281) ⟨rfl, rfl, trivial⟩ (.cons_cons _ (.cons_cons _ (.slnil))) rfl
 by_cases hp24 : r14.1 = true
 ·have h := if_pos' hp24 h
  refine g_true (c := q64c6) rfl _ rfl (hp24) ?_
  refine g_region (c := q64c7) rfl rfl ?_
  refine wl_v 0 rfl (v_move rfl) gn rfl ?_
  refine wl_v 1 rfl (v_bin rfl rfl rfl) gn rfl ?_
  refine wl_v 2 rfl (v_assign rfl) gn rfl ?_
  refine w_end 3 rfl ?_
  exact g_go [0, 1] (j1 (w64 (x10 + 1)) h) ⟨rfl, rfl, trivial⟩ (.cons_cons _ (.cons_cons _ (.slnil))) rfl
 ·have h := if_neg' hp24 h
  refine g_false (c := q64c6) rfl _ rfl ((bf hp24)) ?_
  refine g_skip (c := q64c8) rfl ?_
  exact g_go [0, 1] (j1 x10 h) ⟨rfl, rfl, trivial⟩ (.cons_cons _ (.cons_cons _ (.slnil))) rfl
noncomputable abbrev q54c0 : Code := bodyOf Tryd.f54
noncomputable abbrev q54c1 : Code := Code.fst q54c0
noncomputable abbrev q54c2 : Code := Code.snd q54c0
noncomputable abbrev q54c3 : Code := Code.fst q54c2
noncomputable abbrev q54c4 : Code := Code.snd q54c2
noncomputable abbrev q54c5 : Code := Code.fst q54c4
noncomputable abbrev q54c6 : Code := Code.snd q54c4
noncomputable abbrev q54c7 : Code := Code.fst q54c6
noncomputable abbrev q54c8 : Code := Code.snd q54c6
abbrev trellisref25_IsNumber_R (w : World) (F : Nat → Prop) (r : Bool) : Ending → World → Prop := fun e w' => e = .returned (.bool r) ∧ B.Loc w w' [] [St w []]
noncomputable abbrev trellisref25_IsNumber_C (w : World) (F : Nat → Prop) (r : Bool) : Cx := ⟨Tryd.prog, 54, Tryd.f54, 21, trellisref25_IsNumber_R w F  r, w⟩
theorem trellisref25_IsNumber_calls (w : World) (F : Nat → Prop) (x1 : ByteArray) (hF : ∀ b, F b → b < w.heap.size ∧ ∀ o ∈ ([] : List (List Nat)), b ∉ o) (hL0 : B.Loc w w [] [Sm w.heap.size F w [], St w []]) (r : Bool) (h : trellisref25_IsNumber x1 r) : Calls Tryd.prog 54 #[.string x1] w (trellisref25_IsNumber_R w F  r) := by
 unfold trellisref25_IsNumber at h
 refine calls_of_Loc (vs := [.string x1]) 21 Tryd.func54 rfl Tryd.ntmps54 rfl hL0 ?_
 show G (trellisref25_IsNumber_C w F r) _ _ _ _
 refine g_seq (c := q54c0) rfl ?_
 refine g_region (c := q54c1) rfl rfl ?_
 refine wl_v 0 rfl (v_assign rfl) gn rfl ?_
 refine w_end 1 rfl ?_
 refine g_seq (c := q54c2) rfl ?_
 refine g_region (c := q54c3) rfl rfl ?_
 refine wl_v 0 rfl (v_move rfl) gn rfl ?_
 refine wl_v 1 rfl (v_build #[.string x1, .slice none 0 0, .int .i64 0, .int .i64 0] bd_73 rfl (by kernel_rfl)) gn rfl ?_
 refine wl_s 2 rfl (s_box [.string x1, .slice none 0 0, .int .i64 0, .int .i64 0] rfl rfl rfl fun gb2 => ?_) gn
 refine wl_v 3 rfl (v_assign rfl) gn rfl ?_
 refine w_end 4 rfl ?_
 refine g_seq (c := q54c4) rfl ?_
 refine g_region (c := q54c5) rfl rfl ?_
 refine wl_v 0 rfl (v_move rfl) gn rfl ?_
 obtain ⟨r8, hv9, h⟩ := h
 refine w_nil 31 4 ?_
 refine wl_s 1 rfl (s_call [.pointer (some ⟨gb2, 0, none⟩), .int .i64 0] rfl Tryd.func64 rfl rfl rfl fun w4 hL5 => ?_) gn
 have hp6 : List.Perm ([.own (.slice none 0 0) 31 4 0 (([] : List api_JNode).flatMap enc_api_JNode), .box gb2 73 [.string x1, .slice none 0 0, .int .i64 0, .int .i64 0]] : List Ent) (([.box gb2 73 [.string x1, .slice none 0 0, .int .i64 0, .int .i64 0], .own (.slice none 0 0) 31 4 0 (([] : List api_JNode).flatMap enc_api_JNode)] : List Ent) ++ ([] : List Ent)) := perm_of_idx [1, 0] [] rfl rfl (by kernel_rfl)
 refine Calls.mono (trellisref25_Reader_number_calls w4 (Fl ([] : List Snap)) (⟨x1, ([] : List api_JNode), 0, 0⟩ : trellisref25_Reader) 0 gb2 73 w.heap.size none 0 0 hL5.env.size (Ow.nil (z := w.heap.size)) (hL5.hFl (Sl := ([] : List Snap)) hp6 (sels [] rfl)) (hL5.into hp6 (Fl ([] : List Snap))) r8 hv9) ?_
 rintro _ w15 ⟨A10, n11, c12, rfl, hM16, h13⟩
 have hL17 := hL5.call hp6 hM16
 refine ⟨_, _, _, rfl, hL17, ?_⟩
 refine wl_v 2 rfl (v_assign rfl) gn rfl ?_
 refine w_end 3 rfl ?_
 refine g_seq (c := q54c6) rfl ?_
 refine g_region (c := q54c7) rfl rfl ?_
 refine wl_v 0 rfl (v_move rfl) gn rfl ?_
 refine wl_v 1 rfl (v_nilCheck rfl) gn rfl ?_
 refine wl_v 2 rfl (v_fldB fo_73_2 rfl) gn rfl ?_
 refine wl_v 3 rfl (v_ldB1 0 ld_34 rfl rfl rfl) gn rfl ?_
 refine wl_v 4 rfl (v_bin rfl rfl rfl) gn rfl ?_
 refine wl_v 5 rfl (v_move rfl) gn rfl ?_
 by_cases hp18 : r8.2.e = 0
 ·have h := if_pos' hp18 h
  refine w_bool 15 rfl ((eqi hp18)) ?_
  refine wl_v 6 rfl (v_move rfl) (gy 15 rfl rfl) rfl ?_
  refine wl_v 7 rfl (v_move rfl) (gy 15 rfl rfl) rfl ?_
  refine wl_v 8 rfl (v_lenS un_9 rfl) (gy 15 rfl rfl) rfl ?_
  refine wl_v 9 rfl (v_bin rfl rfl rfl) (gy 15 rfl rfl) rfl ?_
  refine wl_v 10 rfl (v_pick (b := true) rfl rfl) gn rfl ?_
  refine wl_v 11 rfl (v_assign rfl) gn rfl ?_
  refine w_end 12 rfl ?_
  refine g_retR (c := q54c8) [.bool (r8.1 == (x1.size : Int))] rfl Tryd.func54 rfl (.tmp rfl (.nil)) fun wr hLr => ?_
  have hMr : B.Loc w wr [] [St w []] := hLr.pick0 (sels [1] rfl)
  show trellisref25_IsNumber_R w F  r (.returned (packV [.bool (r8.1 == (x1.size : Int))])) wr
  rw [h]
  exact ⟨rfl, hMr⟩
 ·have h := if_neg' hp18 h
  refine w_bool 15 rfl ((nei hp18)) ?_
  refine wl_pass 6 rfl (ps 15 rfl rfl rfl) ?_
  refine wl_pass 7 rfl (ps 15 rfl rfl rfl) ?_
  refine wl_pass 8 rfl (ps 15 rfl rfl rfl) ?_
  refine wl_pass 9 rfl (ps 15 rfl rfl rfl) ?_
  refine wl_v 10 rfl (v_pick (b := false) rfl rfl) gn rfl ?_
  refine wl_v 11 rfl (v_assign rfl) gn rfl ?_
  refine w_end 12 rfl ?_
  refine g_retR (c := q54c8) [.bool false] rfl Tryd.func54 rfl (.tmp rfl (.nil)) fun wr hLr => ?_
  have hMr : B.Loc w wr [] [St w []] := hLr.pick0 (sels [1] rfl)
  show trellisref25_IsNumber_R w F  r (.returned (packV [.bool false])) wr
  rw [h]
  exact ⟨rfl, hMr⟩
noncomputable abbrev q41c0 : Code := bodyOf Tryd.f41
noncomputable abbrev q41c1 : Code := Code.fst q41c0
noncomputable abbrev q41c2 : Code := Code.snd q41c0
noncomputable abbrev q41c3 : Code := Code.fst q41c2
noncomputable abbrev q41c4 : Code := Code.snd q41c2
noncomputable abbrev q41c5 : Code := Code.fst q41c3
noncomputable abbrev q41c6 : Code := Code.snd q41c3
noncomputable abbrev q41c7 : Code := Code.fst q41c6
noncomputable abbrev q41c8 : Code := Code.snd q41c6
noncomputable abbrev q41c9 : Code := Code.fst q41c7
noncomputable abbrev q41c10 : Code := Code.snd q41c7
noncomputable abbrev q41c11 : Code := Code.fst q41c4
noncomputable abbrev q41c12 : Code := Code.snd q41c4
noncomputable abbrev q41c13 : Code := Code.fst q41c12
noncomputable abbrev q41c14 : Code := Code.snd q41c12
noncomputable abbrev q41c15 : Code := Code.fst q41c13
noncomputable abbrev q41c16 : Code := Code.snd q41c13
noncomputable abbrev q41c17 : Code := Code.fst q41c16
noncomputable abbrev q41c18 : Code := Code.snd q41c16
noncomputable abbrev q41c19 : Code := Code.fst q41c17
noncomputable abbrev q41c20 : Code := Code.snd q41c17
noncomputable abbrev q41c21 : Code := Code.fst q41c14
noncomputable abbrev q41c22 : Code := Code.snd q41c14
noncomputable abbrev q41c23 : Code := Code.fst q41c21
noncomputable abbrev q41c24 : Code := Code.snd q41c21
noncomputable abbrev q41c25 : Code := Code.fst q41c24
noncomputable abbrev q41c26 : Code := Code.snd q41c24
noncomputable abbrev q41c27 : Code := Code.fst q41c25
noncomputable abbrev q41c28 : Code := Code.snd q41c25
noncomputable abbrev q41c29 : Code := Code.fst q41c22
noncomputable abbrev q41c30 : Code := Code.snd q41c22
abbrev trellisref25_alone_R (w : World) (F : Nat → Prop) (r : Bool) : Ending → World → Prop := fun e w' => e = .returned (.bool r) ∧ B.Loc w w' [] [St w []]
noncomputable abbrev trellisref25_alone_C (w : World) (F : Nat → Prop) (r : Bool) : Cx := ⟨Tryd.prog, 41, Tryd.f41, 58, trellisref25_alone_R w F  r, w⟩
theorem trellisref25_alone_calls (w : World) (F : Nat → Prop) (x1 : api_JNode) (hF : ∀ b, F b → b < w.heap.size ∧ ∀ o ∈ ([] : List (List Nat)), b ∉ o) (hL0 : B.Loc w w [] [Sm w.heap.size F w [], St w []]) (r : Bool) (h : trellisref25_alone x1 r) : Calls Tryd.prog 41 #[.agg #[.int .i64 x1.kind, .string x1.key, .string x1.text, .int .i64 x1.kids]] w (trellisref25_alone_R w F  r) := by
 unfold trellisref25_alone at h
 refine calls_of_Loc (vs := [.agg #[.int .i64 x1.kind, .string x1.key, .string x1.text, .int .i64 x1.kids]]) 58 Tryd.func41 rfl Tryd.ntmps41 rfl hL0 ?_
 show G (trellisref25_alone_C w F r) _ _ _ _
 refine g_seq (c := q41c0) rfl ?_
 refine g_region (c := q41c1) rfl rfl ?_
 refine wl_s 0 rfl (s_box [.int .i64 x1.kind, .string x1.key, .string x1.text, .int .i64 x1.kids] rfl rfl rfl fun gb2 => ?_) gn
 refine wl_v 1 rfl (v_assign rfl) gn rfl ?_
 refine w_end 2 rfl ?_
 refine g_seq (c := q41c2) rfl ?_
 refine g_seq (c := q41c3) rfl ?_
 have j1 : ∀ (x23 : Bool) (h : trellisref25_alone_j1 x1 x23 r) , G (trellisref25_alone_C w F r) [.code q41c6, .code q41c4] [(1, .pointer (some ⟨gb2, 0, none⟩)), (18, .bool x23)] [.box gb2 31 [.int .i64 x1.kind, .string x1.key, .string x1.text, .int .i64 x1.kids]] [Sm w.heap.size F w [], St w []] := by
  intro x23 h
  unfold trellisref25_alone_j1 at h
  by_cases hp24 : x23 = true
  ·have h := if_pos' hp24 h
   refine g_true (c := q41c6) rfl _ rfl (hp24) ?_
   refine g_seq (c := q41c7) rfl ?_
   refine g_region (c := q41c9) rfl rfl ?_
   refine wl_v 0 rfl (v_assign rfl) gn rfl ?_
   refine w_end 1 rfl ?_
   refine g_retR (c := q41c10) [.bool false] rfl Tryd.func41 rfl (.tmp rfl (.nil)) fun wr hLr => ?_
   have hMr : B.Loc w wr [] [St w []] := hLr.pick0 (sels [1] rfl)
   show trellisref25_alone_R w F  r (.returned (packV [.bool false])) wr
   rw [h]
   exact ⟨rfl, hMr⟩
  ·have h := if_neg' hp24 h
   refine g_false (c := q41c6) rfl _ rfl ((bf hp24)) ?_
   refine g_skip (c := q41c8) rfl ?_
   refine g_seq (c := q41c4) rfl ?_
   have j2 : ∀ (x27 : Bool) (h : trellisref25_alone_j2 x1 x27 r) , G (trellisref25_alone_C w F r) [.code q41c12] [(1, .pointer (some ⟨gb2, 0, none⟩)), (3, .bool x27)] [.box gb2 31 [.int .i64 x1.kind, .string x1.key, .string x1.text, .int .i64 x1.kids]] [Sm w.heap.size F w [], St w []] := by
    intro x27 h
    unfold trellisref25_alone_j2 at h
    refine g_seq (c := q41c12) rfl ?_
    refine g_seq (c := q41c13) rfl ?_
    have j3 : ∀ (x32 : Bool) (h : trellisref25_alone_j3 x1 x32 r) , G (trellisref25_alone_C w F r) [.code q41c16, .code q41c14] [(1, .pointer (some ⟨gb2, 0, none⟩)), (43, .bool x32)] [.box gb2 31 [.int .i64 x1.kind, .string x1.key, .string x1.text, .int .i64 x1.kids]] [Sm w.heap.size F w [], St w []] := by
     intro x32 h
     unfold trellisref25_alone_j3 at h
     by_cases hp33 : x32 = true
     ·have h := if_pos' hp33 h
      refine g_true (c := q41c16) rfl _ rfl (hp33) ?_
      refine g_seq (c := q41c17) rfl ?_
      refine g_region (c := q41c19) rfl rfl ?_
      refine wl_v 0 rfl (v_assign rfl) gn rfl ?_
      refine w_end 1 rfl ?_
      refine g_retR (c := q41c20) [.bool false] rfl Tryd.func41 rfl (.tmp rfl (.nil)) fun wr hLr => ?_
      have hMr : B.Loc w wr [] [St w []] := hLr.pick0 (sels [1] rfl)
      show trellisref25_alone_R w F  r (.returned (packV [.bool false])) wr
      rw [h]
      exact ⟨rfl, hMr⟩
     ·have h := if_neg' hp33 h
      refine g_false (c := q41c16) rfl _ rfl ((bf hp33)) ?_
      refine g_skip (c := q41c18) rfl ?_
      refine g_seq (c := q41c14) rfl ?_
      refine g_seq (c := q41c21) rfl ?_
      refine g_region (c := q41c23) rfl rfl ?_
      refine wl_v 0 rfl (v_fldB fo_31_0 rfl) gn rfl ?_
      refine wl_v 1 rfl (v_ldB1 0 ld_29 rfl rfl rfl) gn rfl ?_
      refine wl_v 2 rfl (v_bin rfl rfl rfl) gn rfl ?_
      refine w_end 3 rfl ?_
      by_cases hp34 : x1.kind = 4
      ·have h := if_pos' hp34 h
       refine g_true (c := q41c24) rfl _ rfl ((eqi hp34)) ?_
       refine g_seq (c := q41c25) rfl ?_
       refine g_region (c := q41c27) rfl rfl ?_
       refine wl_v 0 rfl (v_fldB fo_31_2 rfl) gn rfl ?_
       refine wl_v 1 rfl (v_ldB1 0 ld_9 rfl rfl rfl) gn rfl ?_
       obtain ⟨r38, hv39, h⟩ := h
       refine wl_s 2 rfl (s_call [.string x1.text] rfl Tryd.func54 rfl rfl rfl fun w35 hL36 => ?_) gn
       have hp37 : List.Perm ([.box gb2 31 [.int .i64 x1.kind, .string x1.key, .string x1.text, .int .i64 x1.kids]] : List Ent) (([] : List Ent) ++ ([.box gb2 31 [.int .i64 x1.kind, .string x1.key, .string x1.text, .int .i64 x1.kids]] : List Ent)) := perm_of_idx [] [0] rfl rfl (by kernel_rfl)
       refine Calls.mono (trellisref25_IsNumber_calls w35 (Fl ([] : List Snap)) x1.text (hL36.hFl (Sl := ([] : List Snap)) hp37 (sels [] rfl)) (hL36.into hp37 (Fl ([] : List Snap))) r38 hv39) ?_
       rintro _ w40 ⟨rfl, hM41⟩
       have hL42 := hL36.call hp37 hM41
       refine ⟨_, _, _, rfl, hL42, ?_⟩
       refine wl_v 3 rfl (v_assign rfl) gn rfl ?_
       refine w_end 4 rfl ?_
       refine g_retR (c := q41c28) [.bool r38] rfl Tryd.func41 rfl (.tmp rfl (.nil)) fun wr hLr => ?_
       have hMr : B.Loc w wr [] [St w []] := hLr.pick0 (sels [1] rfl)
       show trellisref25_alone_R w F  r (.returned (packV [.bool r38])) wr
       rw [h]
       exact ⟨rfl, hMr⟩
      ·have h := if_neg' hp34 h
       refine g_false (c := q41c24) rfl _ rfl ((nei hp34)) ?_
       refine g_skip (c := q41c26) rfl ?_
       refine g_seq (c := q41c22) rfl ?_
       refine g_region (c := q41c29) rfl rfl ?_
       refine wl_v 0 rfl (v_fldB fo_31_0 rfl) gn rfl ?_
       refine wl_v 1 rfl (v_ldB1 0 ld_29 rfl rfl rfl) gn rfl ?_
       refine wl_v 2 rfl (v_bin rfl rfl rfl) gn rfl ?_
       refine wl_v 3 rfl (v_move rfl) gn rfl ?_
       by_cases hp43 : x1.kind = 5
       ·have h := if_pos' hp43 h
        refine w_bool 53 rfl ((eqi hp43)) ?_
        refine wl_pass 4 rfl (ps 53 rfl rfl rfl) ?_
        refine wl_pass 5 rfl (ps 53 rfl rfl rfl) ?_
        refine wl_pass 6 rfl (ps 53 rfl rfl rfl) ?_
        refine wl_v 7 rfl (v_pick (b := true) rfl rfl) gn rfl ?_
        refine wl_v 8 rfl (v_assign rfl) gn rfl ?_
        refine w_end 9 rfl ?_
        refine g_retR (c := q41c30) [.bool true] rfl Tryd.func41 rfl (.tmp rfl (.nil)) fun wr hLr => ?_
        have hMr : B.Loc w wr [] [St w []] := hLr.pick0 (sels [1] rfl)
        show trellisref25_alone_R w F  r (.returned (packV [.bool true])) wr
        rw [h]
        exact ⟨rfl, hMr⟩
       ·have h := if_neg' hp43 h
        refine w_bool 53 rfl ((nei hp43)) ?_
        refine wl_v 4 rfl (v_fldB fo_31_2 rfl) (gy 53 rfl rfl) rfl ?_
        refine wl_v 5 rfl (v_ldB1 0 ld_9 rfl rfl rfl) (gy 53 rfl rfl) rfl ?_
        refine wl_v 6 rfl (v_eqS rfl rfl) (gy 53 rfl rfl) rfl ?_
        refine wl_v 7 rfl (v_pick (b := false) rfl rfl) gn rfl ?_
        refine wl_v 8 rfl (v_assign rfl) gn rfl ?_
        refine w_end 9 rfl ?_
        refine g_retR (c := q41c30) [.bool (seq x1.text (⟨#[]⟩ : ByteArray))] rfl Tryd.func41 rfl (.tmp rfl (.nil)) fun wr hLr => ?_
        have hMr : B.Loc w wr [] [St w []] := hLr.pick0 (sels [1] rfl)
        show trellisref25_alone_R w F  r (.returned (packV [.bool (seq x1.text (⟨#[]⟩ : ByteArray))])) wr
        rw [h]
        exact ⟨rfl, hMr⟩
    refine g_region (c := q41c15) rfl rfl ?_
    refine wl_v 0 rfl (v_fldB fo_31_0 rfl) gn rfl ?_
    refine wl_v 1 rfl (v_ldB1 0 ld_29 rfl rfl rfl) gn rfl ?_
    refine wl_v 2 rfl (v_bin rfl rfl rfl) gn rfl ?_
    refine wl_v 3 rfl (v_move rfl) gn rfl ?_
    by_cases hp44 : x1.kind < 1
    ·have h := if_pos' hp44 h
     refine w_bool 30 rfl ((decide_eq_true hp44)) ?_
     refine wl_pass 4 rfl (ps 30 rfl rfl rfl) ?_
     refine wl_pass 5 rfl (ps 30 rfl rfl rfl) ?_
     refine wl_pass 6 rfl (ps 30 rfl rfl rfl) ?_
     refine wl_v 7 rfl (v_pick (b := true) rfl rfl) gn rfl ?_
     refine wl_v 8 rfl (v_move rfl) gn rfl ?_
     refine wl_pass 9 rfl (ps 35 rfl rfl rfl) ?_
     refine wl_pass 10 rfl (ps 35 rfl rfl rfl) ?_
     refine wl_pass 11 rfl (ps 35 rfl rfl rfl) ?_
     refine wl_pass 12 rfl (pu 38 rfl rfl) ?_
     refine wl_pass 13 rfl (pu 38 rfl rfl) ?_
     refine wl_pass 14 rfl (pu 38 rfl rfl) ?_
     refine wl_pass 15 rfl (ps 35 rfl rfl rfl) ?_
     refine wl_v 16 rfl (v_pick (b := true) rfl rfl) gn rfl ?_
     refine w_end 17 rfl ?_
     exact g_go [0, 1] (j3 true h) ⟨rfl, rfl, trivial⟩ (.cons_cons _ (.slnil)) rfl
    ·have h := if_neg' hp44 h
     refine w_bool 30 rfl ((decide_eq_false hp44)) ?_
     refine wl_v 4 rfl (v_fldB fo_31_0 rfl) (gy 30 rfl rfl) rfl ?_
     refine wl_v 5 rfl (v_ldB1 0 ld_29 rfl rfl rfl) (gy 30 rfl rfl) rfl ?_
     refine wl_v 6 rfl (v_bin rfl rfl rfl) (gy 30 rfl rfl) rfl ?_
     refine wl_v 7 rfl (v_pick (b := false) rfl rfl) gn rfl ?_
     refine wl_v 8 rfl (v_move rfl) gn rfl ?_
     by_cases hp45 : x1.kind > 7
     ·have h := if_pos' hp45 h
      refine w_bool 35 rfl ((decide_eq_true hp45)) ?_
      refine wl_pass 9 rfl (ps 35 rfl rfl rfl) ?_
      refine wl_pass 10 rfl (ps 35 rfl rfl rfl) ?_
      refine wl_pass 11 rfl (ps 35 rfl rfl rfl) ?_
      refine wl_pass 12 rfl (pu 38 rfl rfl) ?_
      refine wl_pass 13 rfl (pu 38 rfl rfl) ?_
      refine wl_pass 14 rfl (pu 38 rfl rfl) ?_
      refine wl_pass 15 rfl (ps 35 rfl rfl rfl) ?_
      refine wl_v 16 rfl (v_pick (b := true) rfl rfl) gn rfl ?_
      refine w_end 17 rfl ?_
      exact g_go [0, 1] (j3 true h) ⟨rfl, rfl, trivial⟩ (.cons_cons _ (.slnil)) rfl
     ·have h := if_neg' hp45 h
      refine w_bool 35 rfl ((decide_eq_false hp45)) ?_
      refine wl_v 9 rfl (v_move rfl) (gy 35 rfl rfl) rfl ?_
      refine wl_v 10 rfl (v_not rfl) (gy 35 rfl rfl) rfl ?_
      refine wl_v 11 rfl (v_move rfl) (gy 35 rfl rfl) rfl ?_
      by_cases hp46 : x27 = true
      ·have h := if_pos' hp46 h
       refine w_bool 38 rfl ((nf hp46)) ?_
       refine wl_pass 12 rfl (ps 38 rfl rfl rfl) ?_
       refine wl_pass 13 rfl (ps 38 rfl rfl rfl) ?_
       refine wl_pass 14 rfl (ps 38 rfl rfl rfl) ?_
       refine wl_v 15 rfl (v_pick (b := false) rfl rfl) (gy 35 rfl rfl) rfl ?_
       refine wl_v 16 rfl (v_pick (b := false) rfl rfl) gn rfl ?_
       refine w_end 17 rfl ?_
       exact g_go [0, 1] (j3 false h) ⟨rfl, rfl, trivial⟩ (.cons_cons _ (.slnil)) rfl
      ·have h := if_neg' hp46 h
       refine w_bool 38 rfl ((nt (bf hp46))) ?_
       refine wl_v 12 rfl (v_fldB fo_31_3 rfl) (gy 38 rfl rfl) rfl ?_
       refine wl_v 13 rfl (v_ldB1 0 ld_3 rfl rfl rfl) (gy 38 rfl rfl) rfl ?_
       refine wl_v 14 rfl (v_bin rfl rfl rfl) (gy 38 rfl rfl) rfl ?_
       refine wl_v 15 rfl (v_pick (b := true) rfl rfl) (gy 35 rfl rfl) rfl ?_
       refine wl_v 16 rfl (v_pick (b := false) rfl rfl) gn rfl ?_
       refine w_end 17 rfl ?_
       exact g_go [0, 1] (j3 (x1.kids != 0) h) ⟨rfl, rfl, trivial⟩ (.cons_cons _ (.slnil)) rfl
   refine g_region (c := q41c11) rfl rfl ?_
   refine wl_v 0 rfl (v_fldB fo_31_0 rfl) gn rfl ?_
   refine wl_v 1 rfl (v_ldB1 0 ld_29 rfl rfl rfl) gn rfl ?_
   refine wl_v 2 rfl (v_bin rfl rfl rfl) gn rfl ?_
   refine wl_v 3 rfl (v_move rfl) gn rfl ?_
   by_cases hp47 : x1.kind = 6
   ·have h := if_pos' hp47 h
    refine w_bool 22 rfl ((eqi hp47)) ?_
    refine wl_pass 4 rfl (ps 22 rfl rfl rfl) ?_
    refine wl_pass 5 rfl (ps 22 rfl rfl rfl) ?_
    refine wl_pass 6 rfl (ps 22 rfl rfl rfl) ?_
    refine wl_v 7 rfl (v_pick (b := true) rfl rfl) gn rfl ?_
    refine wl_v 8 rfl (v_assign rfl) gn rfl ?_
    refine w_end 9 rfl ?_
    exact g_go [0, 1] (j2 true h) ⟨rfl, rfl, trivial⟩ (.cons_cons _ (.slnil)) rfl
   ·have h := if_neg' hp47 h
    refine w_bool 22 rfl ((nei hp47)) ?_
    refine wl_v 4 rfl (v_fldB fo_31_0 rfl) (gy 22 rfl rfl) rfl ?_
    refine wl_v 5 rfl (v_ldB1 0 ld_29 rfl rfl rfl) (gy 22 rfl rfl) rfl ?_
    refine wl_v 6 rfl (v_bin rfl rfl rfl) (gy 22 rfl rfl) rfl ?_
    refine wl_v 7 rfl (v_pick (b := false) rfl rfl) gn rfl ?_
    refine wl_v 8 rfl (v_assign rfl) gn rfl ?_
    refine w_end 9 rfl ?_
    exact g_go [0, 1] (j2 (x1.kind == 7) h) ⟨rfl, rfl, trivial⟩ (.cons_cons _ (.slnil)) rfl
 refine g_region (c := q41c5) rfl rfl ?_
 refine wl_v 0 rfl (v_fldB fo_31_1 rfl) gn rfl ?_
 refine wl_v 1 rfl (v_ldB1 0 ld_9 rfl rfl rfl) gn rfl ?_
 obtain ⟨r51, hv52, h⟩ := h
 refine wl_s 2 rfl (s_call [.string x1.key] rfl Tryd.func53 rfl rfl rfl fun w48 hL49 => ?_) gn
 have hp50 : List.Perm ([.box gb2 31 [.int .i64 x1.kind, .string x1.key, .string x1.text, .int .i64 x1.kids]] : List Ent) (([] : List Ent) ++ ([.box gb2 31 [.int .i64 x1.kind, .string x1.key, .string x1.text, .int .i64 x1.kids]] : List Ent)) := perm_of_idx [] [0] rfl rfl (by kernel_rfl)
 refine Calls.mono (trellisref25_Valid_calls w48 (Fl ([] : List Snap)) x1.key (hL49.hFl (Sl := ([] : List Snap)) hp50 (sels [] rfl)) (hL49.into hp50 (Fl ([] : List Snap))) r51 hv52) ?_
 rintro _ w53 ⟨rfl, hM54⟩
 have hL55 := hL49.call hp50 hM54
 refine ⟨_, _, _, rfl, hL55, ?_⟩
 refine wl_v 3 rfl (v_not rfl) gn rfl ?_
 refine wl_v 4 rfl (v_move rfl) gn rfl ?_
 by_cases hp56 : r51 = true
 ·have h := if_pos' hp56 h
  refine w_bool 8 rfl ((nf hp56)) ?_
  refine wl_v 5 rfl (v_fldB fo_31_2 rfl) (gy 8 rfl rfl) rfl ?_
  refine wl_v 6 rfl (v_ldB1 0 ld_9 rfl rfl rfl) (gy 8 rfl rfl) rfl ?_
  obtain ⟨r60, hv61, h⟩ := h
  refine wl_s 7 rfl (s_call [.string x1.text] rfl Tryd.func53 rfl rfl rfl fun w57 hL58 => ?_) (gy 8 rfl rfl)
  have hp59 : List.Perm ([.box gb2 31 [.int .i64 x1.kind, .string x1.key, .string x1.text, .int .i64 x1.kids]] : List Ent) (([] : List Ent) ++ ([.box gb2 31 [.int .i64 x1.kind, .string x1.key, .string x1.text, .int .i64 x1.kids]] : List Ent)) := perm_of_idx [] [0] rfl rfl (by kernel_rfl)
  refine Calls.mono (trellisref25_Valid_calls w57 (Fl ([] : List Snap)) x1.text (hL58.hFl (Sl := ([] : List Snap)) hp59 (sels [] rfl)) (hL58.into hp59 (Fl ([] : List Snap))) r60 hv61) ?_
  rintro _ w62 ⟨rfl, hM63⟩
  have hL64 := hL58.call hp59 hM63
  refine ⟨_, _, _, rfl, hL64, ?_⟩
  refine wl_v 8 rfl (v_not rfl) (gy 8 rfl rfl) rfl ?_
  refine wl_v 9 rfl (v_pick (b := false) rfl rfl) gn rfl ?_
  refine wl_v 10 rfl (v_move rfl) gn rfl ?_
  by_cases hp65 : r60 = true
  ·have h := if_pos' hp65 h
   refine w_bool 14 rfl ((nf hp65)) ?_
   refine wl_v 11 rfl (v_fldB fo_31_3 rfl) (gy 14 rfl rfl) rfl ?_
   refine wl_v 12 rfl (v_ldB1 0 ld_3 rfl rfl rfl) (gy 14 rfl rfl) rfl ?_
   refine wl_v 13 rfl (v_bin rfl rfl rfl) (gy 14 rfl rfl) rfl ?_
   refine wl_v 14 rfl (v_pick (b := false) rfl rfl) gn rfl ?_
   refine w_end 15 rfl ?_
   exact g_go [0, 1] (j1 (decide (x1.kids < 0)) h) ⟨rfl, rfl, trivial⟩ (.cons_cons _ (.slnil)) rfl
  ·have h := if_neg' hp65 h
   refine w_bool 14 rfl ((nt (bf hp65))) ?_
   refine wl_pass 11 rfl (ps 14 rfl rfl rfl) ?_
   refine wl_pass 12 rfl (ps 14 rfl rfl rfl) ?_
   refine wl_pass 13 rfl (ps 14 rfl rfl rfl) ?_
   refine wl_v 14 rfl (v_pick (b := true) rfl rfl) gn rfl ?_
   refine w_end 15 rfl ?_
   exact g_go [0, 1] (j1 true h) ⟨rfl, rfl, trivial⟩ (.cons_cons _ (.slnil)) rfl
 ·have h := if_neg' hp56 h
  refine w_bool 8 rfl ((nt (bf hp56))) ?_
  refine wl_pass 5 rfl (ps 8 rfl rfl rfl) ?_
  refine wl_pass 6 rfl (ps 8 rfl rfl rfl) ?_
  refine wl_pass 7 rfl (ps 8 rfl rfl rfl) ?_
  refine wl_pass 8 rfl (ps 8 rfl rfl rfl) ?_
  refine wl_v 9 rfl (v_pick (b := true) rfl rfl) gn rfl ?_
  refine wl_v 10 rfl (v_move rfl) gn rfl ?_
  refine wl_pass 11 rfl (ps 14 rfl rfl rfl) ?_
  refine wl_pass 12 rfl (ps 14 rfl rfl rfl) ?_
  refine wl_pass 13 rfl (ps 14 rfl rfl rfl) ?_
  refine wl_v 14 rfl (v_pick (b := true) rfl rfl) gn rfl ?_
  refine w_end 15 rfl ?_
  exact g_go [0, 1] (j1 true h) ⟨rfl, rfl, trivial⟩ (.cons_cons _ (.slnil)) rfl
noncomputable abbrev q32c0 : Code := bodyOf Tryd.f32
noncomputable abbrev q32c1 : Code := Code.fst q32c0
noncomputable abbrev q32c2 : Code := Code.snd q32c0
noncomputable abbrev q32c3 : Code := Code.fst q32c2
noncomputable abbrev q32c4 : Code := Code.snd q32c2
noncomputable abbrev q32c5 : Code := Code.fst q32c4
noncomputable abbrev q32c6 : Code := Code.snd q32c4
noncomputable abbrev q32c7 : Code := Code.fst q32c6
noncomputable abbrev q32c8 : Code := Code.snd q32c6
noncomputable abbrev q32c9 : Code := Code.fst q32c7
noncomputable abbrev q32c10 : Code := Code.snd q32c7
noncomputable abbrev q32c11 : Code := Code.fst q32c10
noncomputable abbrev q32c12 : Code := Code.fst q32c11
noncomputable abbrev q32c13 : Code := Code.fst q32c12
noncomputable abbrev q32c14 : Code := Code.snd q32c12
noncomputable abbrev q32c15 : Code := Code.fst q32c13
noncomputable abbrev q32c16 : Code := Code.snd q32c13
noncomputable abbrev q32c17 : Code := Code.fst q32c16
noncomputable abbrev q32c18 : Code := Code.snd q32c16
noncomputable abbrev q32c19 : Code := Code.fst q32c14
noncomputable abbrev q32c20 : Code := Code.snd q32c14
noncomputable abbrev q32c21 : Code := Code.fst q32c19
noncomputable abbrev q32c22 : Code := Code.fst q32c21
noncomputable abbrev q32c23 : Code := Code.snd q32c21
noncomputable abbrev q32c24 : Code := Code.fst q32c8
noncomputable abbrev q32c25 : Code := Code.snd q32c8
abbrev trellisref25_kids_R (w : World) (F : Nat → Prop) (r : List Int) : Ending → World → Prop := fun e w' => ∃ A0 : Option Addr, ∃ n0 : Nat, ∃ c0 : Nat, e = .returned (.slice A0 n0 c0) ∧ B.Loc w w' [.own (.slice A0 n0 c0) 3 1 n0 (r.flatMap (eI .i64))] [St w []] ∧ Ow w.heap.size A0 n0 c0 r
noncomputable abbrev trellisref25_kids_C (w : World) (F : Nat → Prop) (r : List Int) : Cx := ⟨Tryd.prog, 32, Tryd.f32, 27, trellisref25_kids_R w F  r, w⟩
theorem trellisref25_kids_calls (w : World) (F : Nat → Prop) (x1 : List api_JNode) (x6 : Int) (A2 : Option Addr) (n3 : Nat) (c4 : Nat) (h5 : Rw k_api_JNode w (St w []).av A2 n3 c4 x1) (hF : ∀ b, F b → b < w.heap.size ∧ ∀ o ∈ ([] : List (List Nat)), b ∉ o) (hL0 : B.Loc w w [] [Sm w.heap.size F w [], St w []]) (r : List Int) (h : trellisref25_kids x1 x6 r) : Calls Tryd.prog 32 #[.slice A2 n3 c4, .int .i64 x6] w (trellisref25_kids_R w F  r) := by
 unfold trellisref25_kids at h
 refine calls_of_Loc (vs := [.slice A2 n3 c4, .int .i64 x6]) 27 Tryd.func32 rfl Tryd.ntmps32 rfl hL0 ?_
 show G (trellisref25_kids_C w F r) _ _ _ _
 refine g_seq (c := q32c0) rfl ?_
 refine g_region (c := q32c1) rfl rfl ?_
 refine wl_v 0 rfl (v_assign rfl) gn rfl ?_
 refine w_end 1 rfl ?_
 refine g_seq (c := q32c2) rfl ?_
 refine g_region (c := q32c3) rfl rfl ?_
 refine wl_v 0 rfl (v_assign rfl) gn rfl ?_
 refine w_end 1 rfl ?_
 refine g_seq (c := q32c4) rfl ?_
 refine g_region (c := q32c5) rfl rfl ?_
 refine wl_v 0 rfl (v_move rfl) gn rfl ?_
 refine wl_v 1 rfl (v_bin rfl rfl rfl) gn rfl ?_
 refine wl_v 2 rfl (v_assign rfl) gn rfl ?_
 refine w_end 3 rfl ?_
 refine g_seq (c := q32c6) rfl ?_
 refine g_seq (c := q32c7) rfl ?_
 refine g_region (c := q32c9) rfl rfl ?_
 refine wl_v 0 rfl (v_assign rfl) gn rfl ?_
 refine w_end 1 rfl ?_
 refine g_block (c := q32c10) rfl ?_
 refine g_loop (c := q32c11) rfl ?_
 have key1 : ∀ s, Rounds (fun (s : (List Int) × Int × Int) o => trellisref25_kids_b1 x6 x1 s.1 s.2.1 s.2.2 o) s r → (fun (s : (List Int) × Int × Int) => ∀ (A30 : Option Addr) (n31 : Nat) (c32 : Nat) (h33 : Ow w.heap.size A30 n31 c32 s.1), G (trellisref25_kids_C w F r) [.code q32c12, .inLoop q32c12, .inBlock 0, .code q32c8] [(0, .slice A2 n3 c4), (1, .int .i64 x6), (5, .slice A30 n31 c32), (6, .int .i64 s.2.1), (7, .int .i64 s.2.2)] [.own (.slice A30 n31 c32) 3 1 n31 (s.1.flatMap (eI .i64))] [Sm w.heap.size F w [], St w []]) s := by
  intro s hs
  refine Rounds.ind (mot := (fun (s : (List Int) × Int × Int) => ∀ (A30 : Option Addr) (n31 : Nat) (c32 : Nat) (h33 : Ow w.heap.size A30 n31 c32 s.1), G (trellisref25_kids_C w F r) [.code q32c12, .inLoop q32c12, .inBlock 0, .code q32c8] [(0, .slice A2 n3 c4), (1, .int .i64 x6), (5, .slice A30 n31 c32), (6, .int .i64 s.2.1), (7, .int .i64 s.2.2)] [.own (.slice A30 n31 c32) 3 1 n31 (s.1.flatMap (eI .i64))] [Sm w.heap.size F w [], St w []])) ?_ hs
  clear hs s
  intro s o1 h hO1
  obtain ⟨x29, x34, x35⟩ := s
  show ∀ (A30 : Option Addr) (n31 : Nat) (c32 : Nat) (h33 : Ow w.heap.size A30 n31 c32 x29), G (trellisref25_kids_C w F r) [.code q32c12, .inLoop q32c12, .inBlock 0, .code q32c8] [(0, .slice A2 n3 c4), (1, .int .i64 x6), (5, .slice A30 n31 c32), (6, .int .i64 x34), (7, .int .i64 x35)] [.own (.slice A30 n31 c32) 3 1 n31 (x29.flatMap (eI .i64))] [Sm w.heap.size F w [], St w []]
  intro A30 n31 c32 h33
  have h : trellisref25_kids_b1 x6 x1 x29 x34 x35 o1 := h
  unfold trellisref25_kids_b1 at h
  refine g_seq (c := q32c12) rfl ?_
  refine g_seq (c := q32c13) rfl ?_
  refine g_region (c := q32c15) rfl rfl ?_
  refine wl_v 0 rfl (v_move rfl) gn rfl ?_
  refine wl_v 1 rfl (v_move rfl) gn rfl ?_
  refine wl_v 2 rfl (v_move rfl) gn rfl ?_
  obtain ⟨hb56, h⟩ := h
  have hr57 := Rw.readF (s := St w []) (hl := hl_api_JNode) (h1 := h1_api_JNode) h5 hb56
  refine wl_v 3 rfl (v_idxR (s := St w []) slE_22 rfl rfl h5 hb56) gn rfl ?_
  refine wl_v 4 rfl (v_fldA fo_31_3 rfl) gn rfl ?_
  refine wl_v 5 rfl (v_ldA1 (kk := (x6 : Int).toNat * 4) (j := 3) (St w []) ld_3 rfl hr57 rfl (me 1 rfl)) gn rfl ?_
  refine wl_v 6 rfl (v_bin rfl rfl rfl) gn rfl ?_
  refine w_end 7 rfl ?_
  by_cases hp58 : x35 < (ix x1 x6).kids
  ·have h := if_pos' hp58 h
   refine g_true (c := q32c16) rfl _ rfl ((decide_eq_true hp58)) ?_
   refine g_skip (c := q32c17) rfl ?_
   refine g_seq (c := q32c14) rfl ?_
   refine g_block (c := q32c19) rfl ?_
   refine g_seq (c := q32c21) rfl ?_
   refine g_region (c := q32c22) rfl rfl ?_
   refine wl_v 0 rfl (v_move rfl) gn rfl ?_
   refine wl_v 1 rfl (v_move rfl) gn rfl ?_
   refine wl_s 2 rfl (s_litO (xs := ([x34] : List Int)) [.int .i64 x34] bs_46_1 rfl (by kernel_rfl) rfl rfl rfl rfl fun gb60 h61 => ?_) gn
   obtain ⟨x65, hv66, h⟩ := h
   obtain ⟨hb67, h⟩ := h
   refine wl_s 3 rfl (s_app (zs := x65) (cells' := x65.flatMap (eI .i64)) 1 ap_46 rfl rfl rfl h33 (Nat.le_refl _) (Src.ownF (hl := (hlI .i64)) (h1 := (hone_int .i64)) 0 rfl h61) (by rw [hv66, List.flatMap_append] <;> rfl) (app_len hv66 h61.hq) hb67 rfl rfl fun A62 c63 h64 => ?_) gn
   refine wl_v 4 rfl (v_assign rfl) gn rfl ?_
   refine w_end 5 rfl ?_
   refine g_region (c := q32c23) rfl rfl ?_
   refine wl_v 0 rfl (v_move rfl) gn rfl ?_
   refine wl_v 1 rfl (v_move rfl) gn rfl ?_
   obtain ⟨r71, hv72, h⟩ := h
   refine wl_s 2 rfl (s_call [.slice A2 n3 c4, .int .i64 x34] rfl Tryd.func40 rfl rfl rfl fun w68 hL69 => ?_) gn
   have hp70 : List.Perm ([.own (.slice (some ⟨gb60, 0, none⟩) 1 1) 3 1 1 (([x34] : List Int).flatMap (eI .i64)), .own (.slice A62 (n31 + 1) c63) 3 1 (n31 + 1) (x65.flatMap (eI .i64))] : List Ent) (([] : List Ent) ++ ([.own (.slice (some ⟨gb60, 0, none⟩) 1 1) 3 1 1 (([x34] : List Int).flatMap (eI .i64)), .own (.slice A62 (n31 + 1) c63) 3 1 (n31 + 1) (x65.flatMap (eI .i64))] : List Ent)) := perm_of_idx [] [0, 1] rfl rfl (by kernel_rfl)
   refine Calls.mono (trellisref25_Behind_calls w68 (Fl ([] : List Snap)) x1 x34 A2 n3 c4 (Rw.mono h5 (hL69.toSt hp70 (me 1 rfl))) (hL69.hFl (Sl := ([] : List Snap)) hp70 (sels [] rfl)) (hL69.into hp70 (Fl ([] : List Snap))) r71 hv72) ?_
   rintro _ w73 ⟨rfl, hM74⟩
   have hL75 := hL69.call hp70 hM74
   refine ⟨_, _, _, rfl, hL75, ?_⟩
   refine wl_v 3 rfl (v_assign rfl) gn rfl ?_
   refine w_end 4 rfl ?_
   refine g_inBlock ?_
   refine g_region (c := q32c20) rfl rfl ?_
   refine wl_v 0 rfl (v_move rfl) gn rfl ?_
   refine wl_v 1 rfl (v_bin rfl rfl rfl) gn rfl ?_
   refine wl_v 2 rfl (v_assign rfl) gn rfl ?_
   refine w_end 3 rfl ?_
   refine g_inLoop ?_
   have ih := Out.inl hO1 h
   exact g_go [0, 1] (ih A62 (n31 + 1) c63 h64) ⟨rfl, rfl, rfl, rfl, rfl, trivial⟩ (.cons _ (.cons_cons _ (.slnil))) rfl
  ·have h := if_neg' hp58 h
   refine g_false (c := q32c16) rfl _ rfl ((decide_eq_false hp58)) ?_
   refine g_exit (c := q32c18) [.code q32c8] rfl rfl ?_
   refine g_seq (c := q32c8) rfl ?_
   refine g_region (c := q32c24) rfl rfl ?_
   refine wl_v 0 rfl (v_move rfl) gn rfl ?_
   refine wl_v 1 rfl (v_assign rfl) gn rfl ?_
   refine w_end 2 rfl ?_
   have h := Out.inr hO1 h
   refine g_retR (c := q32c25) [.slice A30 n31 c32] rfl Tryd.func32 rfl (.tmp rfl (.nil)) fun wr hLr => ?_
   have hMr : B.Loc w wr [.own (.slice A30 n31 c32) 3 1 n31 (x29.flatMap (eI .i64))] [St w []] := hLr.pick (rest := []) (perm_of_idx [0] [] rfl rfl (by kernel_rfl)) (sels [1] rfl)
   show trellisref25_kids_R w F  r (.returned (packV [.slice A30 n31 c32])) wr
   rw [h]
   exact ⟨A30, n31, c32, rfl, hMr, h33⟩
 refine g_nil 3 1 ?_
 exact g_go [0, 1] (key1 _ h none 0 0 (Ow.nil (z := w.heap.size))) ⟨rfl, rfl, rfl, rfl, rfl, trivial⟩ (.cons_cons _ (.slnil)) rfl
end Go.Proofs.YtmfopcbjgbphaaaDoor.K
