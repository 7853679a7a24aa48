/- What the machine's calls do, function by function, printed by my own tool. Condition of each: its relation holds of the answer, and what is handed in lies in memory as told. -/
import Derived.Test.YtoifgnogoddmlaaK1
set_option linter.unusedVariables false
set_option maxRecDepth 100000
set_option maxHeartbeats 4000000
namespace Go.Proofs.Ytoifgnogoddmlaa.K
open Go.Proofs.Ytoifgnogoddmlaa.B Go.Proofs.Ytoifgnogoddmlaa.R Go.RowKit
noncomputable abbrev choose_slowly_c0 : Code := bodyOf Try.f38
noncomputable abbrev choose_slowly_c1 : Code := Code.fst choose_slowly_c0
noncomputable abbrev choose_slowly_c2 : Code := Code.snd choose_slowly_c0
noncomputable abbrev choose_slowly_c3 : Code := Code.fst choose_slowly_c2
noncomputable abbrev choose_slowly_c4 : Code := Code.fst choose_slowly_c3
noncomputable abbrev choose_slowly_c5 : Code := Code.fst choose_slowly_c4
noncomputable abbrev choose_slowly_c6 : Code := Code.fst choose_slowly_c5
noncomputable abbrev choose_slowly_c7 : Code := Code.snd choose_slowly_c5
noncomputable abbrev choose_slowly_c8 : Code := Code.fst choose_slowly_c7
noncomputable abbrev choose_slowly_c9 : Code := Code.snd choose_slowly_c7
noncomputable abbrev choose_slowly_c10 : Code := Code.fst choose_slowly_c8
noncomputable abbrev choose_slowly_c11 : Code := Code.snd choose_slowly_c8
noncomputable abbrev choose_slowly_c12 : Code := Code.fst choose_slowly_c11
noncomputable abbrev choose_slowly_c13 : Code := Code.snd choose_slowly_c11
noncomputable abbrev choose_slowly_c14 : Code := Code.fst choose_slowly_c12
noncomputable abbrev choose_slowly_c15 : Code := Code.snd choose_slowly_c12
abbrev choose_slowly_R (w : World) (F : Nat → Prop) (A7 : Option Addr) (n8 : Nat) (c9 : Nat) (z11 : Nat) (r : List api_Range) : Ending → World → Prop := fun e w' => ∃ A0 : Option Addr, ∃ n0 : Nat, ∃ c0 : Nat, e = .returned (.slice A0 n0 c0) ∧ B.Loc w w' [.own (.slice A0 n0 c0) 24 2 n0 (r.flatMap enc_api_Range)] [St w [(Value.slice A7 n8 c9).ownBlock.toList]] ∧ Ow z11 A0 n0 c0 r
noncomputable abbrev choose_slowly_C (w : World) (F : Nat → Prop) (A7 : Option Addr) (n8 : Nat) (c9 : Nat) (z11 : Nat) (r : List api_Range) : Cx := ⟨Try.prog, 38, Try.f38, 27, choose_slowly_R w F A7 n8 c9 z11 r, w⟩
theorem choose_slowly_calls (w : World) (F : Nat → Prop) (x1 : List api_Node) (x6 : List api_Range) (A2 : Option Addr) (n3 : Nat) (c4 : Nat) (z11 : Nat) (A7 : Option Addr) (n8 : Nat) (c9 : Nat) (h5 : Rw k_api_Node w (St w [(Value.slice A7 n8 c9).ownBlock.toList]).av A2 n3 c4 x1) (hz12 : z11 ≤ w.heap.size) (h10 : Ow z11 A7 n8 c9 x6) (hF : ∀ b, F b → b < w.heap.size ∧ ∀ o ∈ ([(Value.slice A7 n8 c9).ownBlock.toList] : List (List Nat)), b ∉ o) (hL0 : B.Loc w w [.own (.slice A7 n8 c9) 24 2 n8 (x6.flatMap enc_api_Range)] [Sm w.heap.size F w [(Value.slice A7 n8 c9).ownBlock.toList], St w [(Value.slice A7 n8 c9).ownBlock.toList]]) (r : List api_Range) (h : choose_slowly x1 x6 r) : Calls Try.prog 38 #[.slice A2 n3 c4, .slice A7 n8 c9] w (choose_slowly_R w F A7 n8 c9 z11 r) := by
  unfold choose_slowly at h
  refine calls_of_Loc (vs := [.slice A2 n3 c4, .slice A7 n8 c9]) 27 Try.func38 rfl Try.ntmps38 rfl hL0 ?_
  show G (choose_slowly_C w F A7 n8 c9 z11 r) _ _ _ _
  refine g_seq (c := choose_slowly_c0) rfl ?_
  refine g_region (c := choose_slowly_c1) rfl rfl ?_
  refine wl_v 0 rfl (v_assign rfl) gn rfl ?_
  refine w_end 1 rfl ?_
  refine g_block (c := choose_slowly_c2) rfl ?_
  refine g_loop (c := choose_slowly_c3) rfl ?_
  have key1 : ∀ s, Rounds (fun (s : (List api_Range)) o => choose_slowly_b1 x1 s o) s r → (fun (s : (List api_Range)) => ∀ (A36 : Option Addr) (n37 : Nat) (c38 : Nat) (h39 : Ow z11 A36 n37 c38 s), G (choose_slowly_C w F A7 n8 c9 z11 r) [.code choose_slowly_c4, .inLoop choose_slowly_c4, .inBlock 0] [(0, .slice A2 n3 c4), (1, .slice A36 n37 c38)] [.own (.slice A36 n37 c38) 24 2 n37 (s.flatMap enc_api_Range)] [Sm w.heap.size F w [(Value.slice A7 n8 c9).ownBlock.toList], St w [(Value.slice A7 n8 c9).ownBlock.toList]]) s := by
    intro s hs
    refine Rounds.ind (mot := (fun (s : (List api_Range)) => ∀ (A36 : Option Addr) (n37 : Nat) (c38 : Nat) (h39 : Ow z11 A36 n37 c38 s), G (choose_slowly_C w F A7 n8 c9 z11 r) [.code choose_slowly_c4, .inLoop choose_slowly_c4, .inBlock 0] [(0, .slice A2 n3 c4), (1, .slice A36 n37 c38)] [.own (.slice A36 n37 c38) 24 2 n37 (s.flatMap enc_api_Range)] [Sm w.heap.size F w [(Value.slice A7 n8 c9).ownBlock.toList], St w [(Value.slice A7 n8 c9).ownBlock.toList]])) ?_ hs
    clear hs s
    intro x35 o1 h hO1
    show ∀ (A36 : Option Addr) (n37 : Nat) (c38 : Nat) (h39 : Ow z11 A36 n37 c38 x35), G (choose_slowly_C w F A7 n8 c9 z11 r) [.code choose_slowly_c4, .inLoop choose_slowly_c4, .inBlock 0] [(0, .slice A2 n3 c4), (1, .slice A36 n37 c38)] [.own (.slice A36 n37 c38) 24 2 n37 (x35.flatMap enc_api_Range)] [Sm w.heap.size F w [(Value.slice A7 n8 c9).ownBlock.toList], St w [(Value.slice A7 n8 c9).ownBlock.toList]]
    intro A36 n37 c38 h39
    have h : choose_slowly_b1 x1 x35 o1 := h
    unfold choose_slowly_b1 at h
    refine g_block (c := choose_slowly_c4) rfl ?_
    refine g_seq (c := choose_slowly_c5) rfl ?_
    refine g_region (c := choose_slowly_c6) rfl rfl ?_
    refine wl_v 0 rfl (v_move rfl) gn rfl ?_
    refine wl_v 1 rfl (v_move rfl) gn rfl ?_
    refine wl_v 2 rfl (v_move rfl) gn rfl ?_
    refine wl_v 3 rfl (v_lenQ un_29 rfl h39.hq) gn rfl ?_
    refine wl_v 4 rfl (v_bin rfl rfl rfl) gn rfl ?_
    obtain ⟨hb61, h⟩ := h
    refine wl_v 5 rfl (v_idxO slE_29 rfl rfl h39 hb61) gn rfl ?_
    refine wl_v 6 rfl (v_ldO [.int .i64 ((ix x35 (w64 ((x35.length : Int) - 1))).from_), .int .i64 ((ix x35 (w64 ((x35.length : Int) - 1))).to)] 0 ld_24 rfl rfl (fm_one hl_api_Range hb61) rfl) gn rfl ?_
    obtain ⟨r65, hv66, h⟩ := h
    refine wl_s 7 rfl (s_call [.slice A2 n3 c4, .agg #[.int .i64 ((ix x35 (w64 ((x35.length : Int) - 1))).from_), .int .i64 ((ix x35 (w64 ((x35.length : Int) - 1))).to)]] rfl Try.func13 rfl rfl rfl fun w62 hL63 => ?_) gn
    have hp64 : List.Perm ([.own (.slice A36 n37 c38) 24 2 n37 (x35.flatMap enc_api_Range)] : List Ent) (([] : List Ent) ++ ([.own (.slice A36 n37 c38) 24 2 n37 (x35.flatMap enc_api_Range)] : List Ent)) := perm_of_idx [] [0] rfl rfl (by kernel_rfl)
    refine Calls.mono (choose_Grow_calls w62 (Fl ([] : List Snap)) x1 (ix x35 (w64 ((x35.length : Int) - 1))) A2 n3 c4 (Rw.mono h5 (hL63.toSt hp64 (me 1 rfl))) (hL63.hFl (Sl := ([] : List Snap)) hp64 (sels [] rfl)) (hL63.into hp64 (Fl ([] : List Snap))) r65 hv66) ?_
    rintro _ w67 ⟨rfl, hM68⟩
    have hL69 := hL63.call hp64 hM68
    refine ⟨_, _, _, rfl, hL69, ?_⟩
    refine wl_s 8 rfl (s_alloc [.int .i64 0, .int .i64 0] zr_24 rfl fun gb70 => ?_) gn
    refine wl_s 9 rfl (s_stB (vs := [.int .i64 r65.from_, .int .i64 r65.to]) (cs' := [.int .i64 r65.from_, .int .i64 r65.to]) (M' := [.box gb70 24 [.int .i64 r65.from_, .int .i64 r65.to], .own (.slice A36 n37 c38) 24 2 n37 (x35.flatMap enc_api_Range)]) 0 sz_24 rfl rfl rfl rfl rfl rfl rfl rfl rfl ?_) gn
    refine w_end 10 rfl ?_
    refine g_seq (c := choose_slowly_c7) rfl ?_
    refine g_seq (c := choose_slowly_c8) rfl ?_
    have hns : Region.noSelect (Code.ops choose_slowly_c10) = true := by kernel_rfl
    refine g_drawF (c := choose_slowly_c10) [.box gb70 24 [.int .i64 r65.from_, .int .i64 r65.to], .own (.slice A36 n37 c38) 24 2 n37 (x35.flatMap enc_api_Range)] [Sm w.heap.size F w [(Value.slice A7 n8 c9).ownBlock.toList], St w [(Value.slice A7 n8 c9).ownBlock.toList]] [] 8 rfl rfl mix rfl (.cons_cons _ (.cons_cons _ (.slnil))) (sels [0, 1] rfl) ?_
    refine wf_v 0 rfl (v_ldB [.int .i64 r65.from_, .int .i64 r65.to] 0 ld_24 rfl rfl rfl rfl) gn rfl hns (by kernel_rfl) (by kernel_rfl) rfl rfl ?_
    refine wf_v 1 rfl (v_move rfl) gn rfl hns (by kernel_rfl) (by kernel_rfl) rfl rfl ?_
    refine wf_v 2 rfl (v_move rfl) gn rfl hns (by kernel_rfl) (by kernel_rfl) rfl rfl ?_
    refine wf_v 3 rfl (v_lenQ un_29 rfl h39.hq) gn rfl hns (by kernel_rfl) (by kernel_rfl) rfl rfl ?_
    refine wf_v 4 rfl (v_bin rfl rfl rfl) gn rfl hns (by kernel_rfl) (by kernel_rfl) rfl rfl ?_
    refine wf_v 5 rfl (v_idxO slE_29 rfl rfl h39 hb61) gn rfl hns (by kernel_rfl) (by kernel_rfl) rfl rfl ?_
    refine wf_v 6 rfl (v_ldO [.int .i64 ((ix x35 (w64 ((x35.length : Int) - 1))).from_), .int .i64 ((ix x35 (w64 ((x35.length : Int) - 1))).to)] 1 ld_24 rfl rfl (fm_one hl_api_Range hb61) rfl) gn rfl hns (by kernel_rfl) (by kernel_rfl) rfl rfl ?_
    refine wf_v 7 rfl (v_eqSt eq_24 rfl rfl (eqd_api_Range r65 (ix x35 (w64 ((x35.length : Int) - 1))))) gn rfl hns (by kernel_rfl) (by kernel_rfl) rfl rfl ?_
    refine wf_end (by kernel_rfl) ?_
    by_cases hp72 : r65 = ix x35 (w64 ((x35.length : Int) - 1))
    · have h := if_pos' hp72 h
      refine g_true (c := choose_slowly_c11) rfl _ rfl ((decide_eq_true hp72)) ?_
      refine g_seq (c := choose_slowly_c12) rfl ?_
      refine g_region (c := choose_slowly_c14) rfl rfl ?_
      refine wl_v 0 rfl (v_move rfl) gn rfl ?_
      refine wl_v 1 rfl (v_assign rfl) gn rfl ?_
      refine w_end 2 rfl ?_
      have h := Out.inr hO1 h
      refine g_retR (c := choose_slowly_c15) [.slice A36 n37 c38] rfl Try.func38 rfl (.tmp rfl (.nil)) fun wr hLr => ?_
      have hMr : B.Loc w wr [.own (.slice A36 n37 c38) 24 2 n37 (x35.flatMap enc_api_Range)] [St w [(Value.slice A7 n8 c9).ownBlock.toList]] := hLr.pick (rest := [.box gb70 24 [.int .i64 r65.from_, .int .i64 r65.to]]) (perm_of_idx [1] [0] rfl rfl (by kernel_rfl)) (sels [1] rfl)
      have hMi : ∀ e ∈ ([.own (.slice A36 n37 c38) 24 2 n37 (x35.flatMap enc_api_Range)] : List Ent), e ∈ ([.box gb70 24 [.int .i64 r65.from_, .int .i64 r65.to], .own (.slice A36 n37 c38) 24 2 n37 (x35.flatMap enc_api_Range)] : List Ent) := sels [1] rfl
      show choose_slowly_R w F A7 n8 c9 z11 r (.returned (packV [.slice A36 n37 c38])) wr
      rw [h]
      exact ⟨A36, n37, c38, rfl, hMr, h39⟩
    · have h := if_neg' hp72 h
      refine g_false (c := choose_slowly_c11) rfl _ rfl ((decide_eq_false hp72)) ?_
      refine g_skip (c := choose_slowly_c13) rfl ?_
      refine g_region (c := choose_slowly_c9) rfl rfl ?_
      refine wl_v 0 rfl (v_move rfl) gn rfl ?_
      refine wl_v 1 rfl (v_ldB [.int .i64 r65.from_, .int .i64 r65.to] 0 ld_24 rfl rfl rfl rfl) gn rfl ?_
      refine wl_s 2 rfl (s_litO (xs := ([r65] : List api_Range)) [.int .i64 r65.from_, .int .i64 r65.to] bs_29_1 rfl (by kernel_rfl) rfl rfl rfl rfl fun gb74 h75 => ?_) gn
      obtain ⟨x79, hv80, h⟩ := h
      obtain ⟨hb81, h⟩ := h
      refine wl_s 3 rfl (s_app (zs := x79) (cells' := x79.flatMap enc_api_Range) 2 ap_29 rfl rfl rfl h39 hz12 (Src.ownF (hl := hl_api_Range) (h1 := h1_api_Range) 0 rfl h75) (by rw [hv80, List.flatMap_append] <;> rfl) (app_len hv80 h75.hq) hb81 rfl rfl fun A76 c77 h78 => ?_) gn
      refine wl_v 4 rfl (v_assign rfl) gn rfl ?_
      refine w_end 5 rfl ?_
      refine g_inBlock ?_
      refine g_inLoop ?_
      have ih := Out.inl hO1 h
      exact g_go [0, 1] (ih A76 (n37 + 1) c77 h78) ⟨rfl, rfl, trivial⟩ (.cons _ (.cons _ (.cons_cons _ (.slnil)))) rfl
  exact g_go [0, 1] (key1 _ h A7 n8 c9 h10) ⟨rfl, rfl, trivial⟩ (.cons_cons _ (.slnil)) rfl
noncomputable abbrev choose_Steps_c0 : Code := bodyOf Try.f14
abbrev choose_Steps_R (w : World) (F : Nat → Prop) (r : List api_Range) : Ending → World → Prop := fun e w' => ∃ A0 : Option Addr, ∃ n0 : Nat, ∃ c0 : Nat, e = .returned (.slice A0 n0 c0) ∧ B.Loc w w' [.own (.slice A0 n0 c0) 24 2 n0 (r.flatMap enc_api_Range)] [St w []] ∧ Ow w.heap.size A0 n0 c0 r
noncomputable abbrev choose_Steps_C (w : World) (F : Nat → Prop) (r : List api_Range) : Cx := ⟨Try.prog, 14, Try.f14, 43, choose_Steps_R w F  r, w⟩
theorem choose_Steps_calls (w : World) (F : Nat → Prop) (x1 : List api_Node) (x6 : api_Range) (A2 : Option Addr) (n3 : Nat) (c4 : Nat) (h5 : Rw k_api_Node w (St w []).av A2 n3 c4 x1) (hF : ∀ b, F b → b < w.heap.size ∧ ∀ o ∈ ([] : List (List Nat)), b ∉ o) (hL0 : B.Loc w w [] [Sm w.heap.size F w [], St w []]) (r : List api_Range) (h : choose_Steps x1 x6 r) : Calls Try.prog 14 #[.slice A2 n3 c4, .agg #[.int .i64 x6.from_, .int .i64 x6.to]] w (choose_Steps_R w F  r) := by
  unfold choose_Steps at h
  obtain ⟨q, hq, bn, hn, hs, hw⟩ := h
  cases bn
  · exact W.steps_slow h5 (fun w1 => choose_taken_calls w1 _ x6 (fun _ h => h.elim) (W.loc0 w1 (fun _ => False)) q hq) (fun w1 hR => choose_nested_calls w1 _ x1 A2 n3 c4 hR (fun _ h => h.elim) (W.loc0 w1 (fun _ => False)) false hn) (fun w1 A7 n8 c9 z hR hz hO hL0 => choose_slowly_calls w1 _ x1 [q] A2 n3 c4 z A7 n8 c9 hR hz hO (fun _ h => h.elim) hL0 r (hs rfl))
  · obtain ⟨l, hl, hin, hll, hr⟩ := hw rfl
    exact W.steps_fast h5 (fun w1 => choose_taken_calls w1 _ x6 (fun _ h => h.elim) (W.loc0 w1 (fun _ => False)) q hq) (fun w1 hR => choose_nested_calls w1 _ x1 A2 n3 c4 hR (fun _ h => h.elim) (W.loc0 w1 (fun _ => False)) true hn) (fun w1 hR => choose_way_calls w1 _ x1 q A2 n3 c4 hR (fun _ h => h.elim) (W.loc0 w1 (fun _ => False)) l hl) (fun w1 x => choose_bytes_calls w1 _ x (fun _ h => h.elim) (W.loc0 w1 (fun _ => False)) (byt x) rfl) hin hll hr
noncomputable abbrev tree_forest_has_c0 : Code := bodyOf Try.f45
noncomputable abbrev tree_forest_has_c1 : Code := Code.fst tree_forest_has_c0
noncomputable abbrev tree_forest_has_c2 : Code := Code.snd tree_forest_has_c0
noncomputable abbrev tree_forest_has_c3 : Code := Code.fst tree_forest_has_c2
noncomputable abbrev tree_forest_has_c4 : Code := Code.snd tree_forest_has_c2
abbrev tree_forest_has_R (w : World) (F : Nat → Prop) (r : Bool) : Ending → World → Prop := fun e w' => e = .returned (.bool r) ∧ B.Loc w w' [] [St w []]
noncomputable abbrev tree_forest_has_C (w : World) (F : Nat → Prop) (r : Bool) : Cx := ⟨Try.prog, 45, Try.f45, 18, tree_forest_has_R w F  r, w⟩
theorem tree_forest_has_calls (w : World) (F : Nat → Prop) (x1 : tree_forest) (x14 : Int) (A2 : Option Addr) (n3 : Nat) (c4 : Nat) (A6 : Option Addr) (n7 : Nat) (c8 : Nat) (A10 : Option Addr) (n11 : Nat) (c12 : Nat) (h5 : Rw k_api_Node w (St w []).av A2 n3 c4 x1.nodes) (h9 : Rw (kInt .i64) w (St w []).av A6 n7 c8 x1.parent) (h13 : Rw (kInt .i64) w (St w []).av A10 n11 c12 x1.end_) (hF : ∀ b, F b → b < w.heap.size ∧ ∀ o ∈ ([] : List (List Nat)), b ∉ o) (hL0 : B.Loc w w [] [Sm w.heap.size F w [], St w []]) (r : Bool) (h : tree_forest_has x1 x14 r) : Calls Try.prog 45 #[.agg #[.slice A2 n3 c4, .slice A6 n7 c8, .slice A10 n11 c12, .bool x1.ok], .int .i64 x14] w (tree_forest_has_R w F  r) := by
  unfold tree_forest_has at h
  refine calls_of_Loc (vs := [.agg #[.slice A2 n3 c4, .slice A6 n7 c8, .slice A10 n11 c12, .bool x1.ok], .int .i64 x14]) 18 Try.func45 rfl Try.ntmps45 rfl hL0 ?_
  show G (tree_forest_has_C w F r) _ _ _ _
  refine g_seq (c := tree_forest_has_c0) rfl ?_
  refine g_region (c := tree_forest_has_c1) rfl rfl ?_
  refine wl_s 0 rfl (s_box [.slice A2 n3 c4, .slice A6 n7 c8, .slice A10 n11 c12, .bool x1.ok] rfl rfl rfl fun gb15 => ?_) gn
  refine wl_v 1 rfl (v_assign rfl) gn rfl ?_
  refine w_end 2 rfl ?_
  refine g_seq (c := tree_forest_has_c2) rfl ?_
  refine g_region (c := tree_forest_has_c3) rfl rfl ?_
  refine wl_v 0 rfl (v_fldB fo_54_3 rfl) gn rfl ?_
  refine wl_v 1 rfl (v_ldB1 0 ld_4 rfl rfl rfl) gn rfl ?_
  refine wl_v 2 rfl (v_move rfl) gn rfl ?_
  by_cases hp17 : x1.ok = true
  · have h := if_pos' hp17 h
    refine w_bool 7 rfl (hp17) ?_
    refine wl_v 3 rfl (v_move rfl) (gy 7 rfl rfl) rfl ?_
    refine wl_v 4 rfl (v_bin rfl rfl rfl) (gy 7 rfl rfl) rfl ?_
    refine wl_v 5 rfl (v_pick (b := true) rfl rfl) gn rfl ?_
    refine wl_v 6 rfl (v_move rfl) gn rfl ?_
    by_cases hp18 : x14 ≥ 0
    · have h := if_pos' hp18 h
      refine w_bool 11 rfl ((decide_eq_true hp18)) ?_
      refine wl_v 7 rfl (v_move rfl) (gy 11 rfl rfl) rfl ?_
      refine wl_v 8 rfl (v_fldB fo_54_0 rfl) (gy 11 rfl rfl) rfl ?_
      refine wl_v 9 rfl (v_ldB1 0 ld_22 rfl rfl rfl) (gy 11 rfl rfl) rfl ?_
      refine wl_v 10 rfl (v_lenQ un_22 rfl h5.hq) (gy 11 rfl rfl) rfl ?_
      refine wl_v 11 rfl (v_bin rfl rfl rfl) (gy 11 rfl rfl) rfl ?_
      refine wl_v 12 rfl (v_pick (b := true) rfl rfl) gn rfl ?_
      refine wl_v 13 rfl (v_assign rfl) gn rfl ?_
      refine w_end 14 rfl ?_
      refine g_retR (c := tree_forest_has_c4) [.bool (decide (x14 < (x1.nodes.length : Int)))] rfl Try.func45 rfl (.tmp rfl (.nil)) fun wr hLr => ?_
      have hMr : B.Loc w wr [] [St w []] := hLr.pick (rest := [.box gb15 54 [.slice A2 n3 c4, .slice A6 n7 c8, .slice A10 n11 c12, .bool x1.ok]]) (perm_of_idx [] [0] rfl rfl (by kernel_rfl)) (sels [1] rfl)
      have hMi : ∀ e ∈ ([] : List Ent), e ∈ ([.box gb15 54 [.slice A2 n3 c4, .slice A6 n7 c8, .slice A10 n11 c12, .bool x1.ok]] : List Ent) := sels [] rfl
      show tree_forest_has_R w F  r (.returned (packV [.bool (decide (x14 < (x1.nodes.length : Int)))])) wr
      rw [h]
      exact ⟨rfl, hMr⟩
    · have h := if_neg' hp18 h
      refine w_bool 11 rfl ((decide_eq_false hp18)) ?_
      refine wl_pass 7 rfl (ps 11 rfl rfl rfl) ?_
      refine wl_pass 8 rfl (ps 11 rfl rfl rfl) ?_
      refine wl_pass 9 rfl (ps 11 rfl rfl rfl) ?_
      refine wl_pass 10 rfl (ps 11 rfl rfl rfl) ?_
      refine wl_pass 11 rfl (ps 11 rfl rfl rfl) ?_
      refine wl_v 12 rfl (v_pick (b := false) rfl rfl) gn rfl ?_
      refine wl_v 13 rfl (v_assign rfl) gn rfl ?_
      refine w_end 14 rfl ?_
      refine g_retR (c := tree_forest_has_c4) [.bool false] rfl Try.func45 rfl (.tmp rfl (.nil)) fun wr hLr => ?_
      have hMr : B.Loc w wr [] [St w []] := hLr.pick (rest := [.box gb15 54 [.slice A2 n3 c4, .slice A6 n7 c8, .slice A10 n11 c12, .bool x1.ok]]) (perm_of_idx [] [0] rfl rfl (by kernel_rfl)) (sels [1] rfl)
      have hMi : ∀ e ∈ ([] : List Ent), e ∈ ([.box gb15 54 [.slice A2 n3 c4, .slice A6 n7 c8, .slice A10 n11 c12, .bool x1.ok]] : List Ent) := sels [] rfl
      show tree_forest_has_R w F  r (.returned (packV [.bool false])) wr
      rw [h]
      exact ⟨rfl, hMr⟩
  · have h := if_neg' hp17 h
    refine w_bool 7 rfl ((bf hp17)) ?_
    refine wl_pass 3 rfl (ps 7 rfl rfl rfl) ?_
    refine wl_pass 4 rfl (ps 7 rfl rfl rfl) ?_
    refine wl_v 5 rfl (v_pick (b := false) rfl rfl) gn rfl ?_
    refine wl_v 6 rfl (v_move rfl) gn rfl ?_
    refine wl_pass 7 rfl (ps 11 rfl rfl rfl) ?_
    refine wl_pass 8 rfl (ps 11 rfl rfl rfl) ?_
    refine wl_pass 9 rfl (ps 11 rfl rfl rfl) ?_
    refine wl_pass 10 rfl (ps 11 rfl rfl rfl) ?_
    refine wl_pass 11 rfl (ps 11 rfl rfl rfl) ?_
    refine wl_v 12 rfl (v_pick (b := false) rfl rfl) gn rfl ?_
    refine wl_v 13 rfl (v_assign rfl) gn rfl ?_
    refine w_end 14 rfl ?_
    refine g_retR (c := tree_forest_has_c4) [.bool false] rfl Try.func45 rfl (.tmp rfl (.nil)) fun wr hLr => ?_
    have hMr : B.Loc w wr [] [St w []] := hLr.pick (rest := [.box gb15 54 [.slice A2 n3 c4, .slice A6 n7 c8, .slice A10 n11 c12, .bool x1.ok]]) (perm_of_idx [] [0] rfl rfl (by kernel_rfl)) (sels [1] rfl)
    have hMi : ∀ e ∈ ([] : List Ent), e ∈ ([.box gb15 54 [.slice A2 n3 c4, .slice A6 n7 c8, .slice A10 n11 c12, .bool x1.ok]] : List Ent) := sels [] rfl
    show tree_forest_has_R w F  r (.returned (packV [.bool false])) wr
    rw [h]
    exact ⟨rfl, hMr⟩
noncomputable abbrev tree_Parent_c0 : Code := bodyOf Try.f28
noncomputable abbrev tree_Parent_c1 : Code := Code.fst tree_Parent_c0
noncomputable abbrev tree_Parent_c2 : Code := Code.snd tree_Parent_c0
noncomputable abbrev tree_Parent_c3 : Code := Code.fst tree_Parent_c2
noncomputable abbrev tree_Parent_c4 : Code := Code.snd tree_Parent_c2
noncomputable abbrev tree_Parent_c5 : Code := Code.fst tree_Parent_c4
noncomputable abbrev tree_Parent_c6 : Code := Code.snd tree_Parent_c4
noncomputable abbrev tree_Parent_c7 : Code := Code.fst tree_Parent_c5
noncomputable abbrev tree_Parent_c8 : Code := Code.snd tree_Parent_c5
noncomputable abbrev tree_Parent_c9 : Code := Code.fst tree_Parent_c8
noncomputable abbrev tree_Parent_c10 : Code := Code.snd tree_Parent_c8
noncomputable abbrev tree_Parent_c11 : Code := Code.fst tree_Parent_c6
noncomputable abbrev tree_Parent_c12 : Code := Code.snd tree_Parent_c6
noncomputable abbrev tree_Parent_c13 : Code := Code.fst tree_Parent_c9
noncomputable abbrev tree_Parent_c14 : Code := Code.snd tree_Parent_c9
abbrev tree_Parent_R (w : World) (F : Nat → Prop) (r : Int) : Ending → World → Prop := fun e w' => e = .returned (.int .i64 r) ∧ B.Loc w w' [] [St w []]
noncomputable abbrev tree_Parent_C (w : World) (F : Nat → Prop) (r : Int) : Cx := ⟨Try.prog, 28, Try.f28, 17, tree_Parent_R w F  r, w⟩
theorem tree_Parent_calls (w : World) (F : Nat → Prop) (x1 : List api_Node) (x6 : Int) (A2 : Option Addr) (n3 : Nat) (c4 : Nat) (h5 : Rw k_api_Node w (St w []).av A2 n3 c4 x1) (hF : ∀ b, F b → b < w.heap.size ∧ ∀ o ∈ ([] : List (List Nat)), b ∉ o) (hL0 : B.Loc w w [] [Sm w.heap.size F w [], St w []]) (r : Int) (h : tree_Parent x1 x6 r) : Calls Try.prog 28 #[.slice A2 n3 c4, .int .i64 x6] w (tree_Parent_R w F  r) := by
  unfold tree_Parent at h
  refine calls_of_Loc (vs := [.slice A2 n3 c4, .int .i64 x6]) 17 Try.func28 rfl Try.ntmps28 rfl hL0 ?_
  show G (tree_Parent_C w F r) _ _ _ _
  refine g_seq (c := tree_Parent_c0) rfl ?_
  refine g_region (c := tree_Parent_c1) rfl rfl ?_
  refine wl_v 0 rfl (v_assign rfl) gn rfl ?_
  refine w_end 1 rfl ?_
  refine g_seq (c := tree_Parent_c2) rfl ?_
  refine g_region (c := tree_Parent_c3) rfl rfl ?_
  refine wl_v 0 rfl (v_move rfl) gn rfl ?_
  obtain ⟨r10, hv11, h⟩ := h
  refine wl_s 1 rfl (s_call [.slice A2 n3 c4] rfl Try.func43 rfl rfl rfl fun w7 hL8 => ?_) gn
  have hp9 : List.Perm ([] : List Ent) (([] : List Ent) ++ ([] : List Ent)) := perm_of_idx [] [] rfl rfl (by kernel_rfl)
  refine Calls.mono (tree_plant_calls w7 (Fl ([St w []] : List Snap)) x1 A2 n3 c4 (Rw.mono h5 (hL8.toFl (me 1 rfl) (me 0 rfl))) (hL8.hFl (Sl := ([St w []] : List Snap)) hp9 (sels [1] rfl)) (hL8.into hp9 (Fl ([St w []] : List Snap))) r10 hv11) ?_
  rintro _ w26 ⟨A16, n17, c18, A21, n22, c23, A12, n13, c14, rfl, hM27, h19, h24, h15⟩
  obtain ⟨sv30, hL28, hv29⟩ := hL8.callN (Sl := ([St w []] : List Snap)) hp9 hM27 (sels [1] rfl)
  have h15 : At k_api_Node (sv30) A12 n13 c14 r10.nodes := Rw.mono h15 hv29
  refine ⟨_, _, _, rfl, hL28, ?_⟩
  refine wl_s 2 rfl (s_alloc [.slice none 0 0, .slice none 0 0, .slice none 0 0, .bool false] zr_54 rfl fun gb31 => ?_) gn
  refine wl_s 3 rfl (s_stB (vs := [.slice A12 n13 c14, .slice A16 n17 c18, .slice A21 n22 c23, .bool r10.ok]) (cs' := [.slice A12 n13 c14, .slice A16 n17 c18, .slice A21 n22 c23, .bool r10.ok]) (M' := [.box gb31 54 [.slice A12 n13 c14, .slice A16 n17 c18, .slice A21 n22 c23, .bool r10.ok], .own (.slice A16 n17 c18) 3 1 n17 (r10.parent.flatMap (eI .i64)), .own (.slice A21 n22 c23) 3 1 n22 (r10.end_.flatMap (eI .i64))]) 0 sz_54 rfl rfl rfl rfl rfl rfl rfl rfl rfl ?_) gn
  refine w_end 4 rfl ?_
  refine g_seq (c := tree_Parent_c4) rfl ?_
  refine g_seq (c := tree_Parent_c5) rfl ?_
  refine g_region (c := tree_Parent_c7) rfl rfl ?_
  refine wl_v 0 rfl (v_ldB [.slice A12 n13 c14, .slice A16 n17 c18, .slice A21 n22 c23, .bool r10.ok] 0 ld_54 rfl rfl rfl rfl) gn rfl ?_
  refine wl_v 1 rfl (v_move rfl) gn rfl ?_
  obtain ⟨r36, hv37, h⟩ := h
  refine wl_s 2 rfl (s_call [.agg #[.slice A12 n13 c14, .slice A16 n17 c18, .slice A21 n22 c23, .bool r10.ok], .int .i64 x6] rfl Try.func45 rfl rfl rfl fun w33 hL34 => ?_) gn
  have hp35 : List.Perm ([.box gb31 54 [.slice A12 n13 c14, .slice A16 n17 c18, .slice A21 n22 c23, .bool r10.ok], .own (.slice A16 n17 c18) 3 1 n17 (r10.parent.flatMap (eI .i64)), .own (.slice A21 n22 c23) 3 1 n22 (r10.end_.flatMap (eI .i64))] : List Ent) (([] : List Ent) ++ ([.box gb31 54 [.slice A12 n13 c14, .slice A16 n17 c18, .slice A21 n22 c23, .bool r10.ok], .own (.slice A16 n17 c18) 3 1 n17 (r10.parent.flatMap (eI .i64)), .own (.slice A21 n22 c23) 3 1 n22 (r10.end_.flatMap (eI .i64))] : List Ent)) := perm_of_idx [] [0, 1, 2] rfl rfl (by kernel_rfl)
  refine Calls.mono (tree_forest_has_calls w33 (Fl ([] : List Snap)) r10 x6 A12 n13 c14 A16 n17 c18 A21 n22 c23 (Rw.mono h15 (hL34.toSt hp35 (me 0 rfl))) (hL34.argO (dk := (kInt .i64)) hp35 [] rfl 1 rfl rfl (Ow.weak hL8.env.size h19) (me 1 rfl) (Cells.flat _)) (hL34.argO (dk := (kInt .i64)) hp35 [] rfl 2 rfl rfl (Ow.weak hL8.env.size h24) (me 1 rfl) (Cells.flat _)) (hL34.hFl (Sl := ([] : List Snap)) hp35 (sels [] rfl)) (hL34.into hp35 (Fl ([] : List Snap))) r36 hv37) ?_
  rintro _ w38 ⟨rfl, hM39⟩
  have hL40 := hL34.call hp35 hM39
  refine ⟨_, _, _, rfl, hL40, ?_⟩
  refine wl_v 3 rfl (v_not rfl) gn rfl ?_
  refine w_end 4 rfl ?_
  by_cases hp41 : r36 = true
  · have h := if_pos' hp41 h
    refine g_false (c := tree_Parent_c8) rfl _ rfl ((nf hp41)) ?_
    refine g_skip (c := tree_Parent_c10) rfl ?_
    refine g_seq (c := tree_Parent_c6) rfl ?_
    refine g_region (c := tree_Parent_c11) rfl rfl ?_
    refine wl_v 0 rfl (v_fldB fo_54_1 rfl) gn rfl ?_
    refine wl_v 1 rfl (v_ldB1 0 ld_45 rfl rfl rfl) gn rfl ?_
    refine wl_v 2 rfl (v_move rfl) gn rfl ?_
    obtain ⟨hb42, h⟩ := h
    refine wl_v 3 rfl (v_idxO slE_45 rfl rfl (Ow.weak hL8.env.size h19) hb42) gn rfl ?_
    refine wl_v 4 rfl (v_ldO1 (.int .i64 (ix r10.parent x6)) 1 ld_3 rfl rfl (fm_get0 (hlI .i64) hb42 rfl)) gn rfl ?_
    refine wl_v 5 rfl (v_assign rfl) gn rfl ?_
    refine w_end 6 rfl ?_
    refine g_retR (c := tree_Parent_c12) [.int .i64 (ix r10.parent x6)] rfl Try.func28 rfl (.tmp rfl (.nil)) fun wr hLr => ?_
    have hMr : B.Loc w wr [] [St w []] := hLr.pick (rest := [.box gb31 54 [.slice A12 n13 c14, .slice A16 n17 c18, .slice A21 n22 c23, .bool r10.ok], .own (.slice A16 n17 c18) 3 1 n17 (r10.parent.flatMap (eI .i64)), .own (.slice A21 n22 c23) 3 1 n22 (r10.end_.flatMap (eI .i64))]) (perm_of_idx [] [0, 1, 2] rfl rfl (by kernel_rfl)) (sels [2] rfl)
    have hMi : ∀ e ∈ ([] : List Ent), e ∈ ([.box gb31 54 [.slice A12 n13 c14, .slice A16 n17 c18, .slice A21 n22 c23, .bool r10.ok], .own (.slice A16 n17 c18) 3 1 n17 (r10.parent.flatMap (eI .i64)), .own (.slice A21 n22 c23) 3 1 n22 (r10.end_.flatMap (eI .i64))] : List Ent) := sels [] rfl
    show tree_Parent_R w F  r (.returned (packV [.int .i64 (ix r10.parent x6)])) wr
    rw [h]
    exact ⟨rfl, hMr⟩
  · have h := if_neg' hp41 h
    refine g_true (c := tree_Parent_c8) rfl _ rfl ((nt (bf hp41))) ?_
    refine g_seq (c := tree_Parent_c9) rfl ?_
    refine g_region (c := tree_Parent_c13) rfl rfl ?_
    refine wl_v 0 rfl (v_assign rfl) gn rfl ?_
    refine w_end 1 rfl ?_
    refine g_retR (c := tree_Parent_c14) [.int .i64 (-1)] rfl Try.func28 rfl (.tmp rfl (.nil)) fun wr hLr => ?_
    have hMr : B.Loc w wr [] [St w []] := hLr.pick (rest := [.box gb31 54 [.slice A12 n13 c14, .slice A16 n17 c18, .slice A21 n22 c23, .bool r10.ok], .own (.slice A16 n17 c18) 3 1 n17 (r10.parent.flatMap (eI .i64)), .own (.slice A21 n22 c23) 3 1 n22 (r10.end_.flatMap (eI .i64))]) (perm_of_idx [] [0, 1, 2] rfl rfl (by kernel_rfl)) (sels [2] rfl)
    have hMi : ∀ e ∈ ([] : List Ent), e ∈ ([.box gb31 54 [.slice A12 n13 c14, .slice A16 n17 c18, .slice A21 n22 c23, .bool r10.ok], .own (.slice A16 n17 c18) 3 1 n17 (r10.parent.flatMap (eI .i64)), .own (.slice A21 n22 c23) 3 1 n22 (r10.end_.flatMap (eI .i64))] : List Ent) := sels [] rfl
    show tree_Parent_R w F  r (.returned (packV [.int .i64 (-1)])) wr
    rw [h]
    exact ⟨rfl, hMr⟩
noncomputable abbrev tree_Kids_c0 : Code := bodyOf Try.f58
noncomputable abbrev tree_Kids_c1 : Code := Code.fst tree_Kids_c0
noncomputable abbrev tree_Kids_c2 : Code := Code.snd tree_Kids_c0
noncomputable abbrev tree_Kids_c3 : Code := Code.fst tree_Kids_c2
noncomputable abbrev tree_Kids_c4 : Code := Code.snd tree_Kids_c2
noncomputable abbrev tree_Kids_c5 : Code := Code.fst tree_Kids_c4
noncomputable abbrev tree_Kids_c6 : Code := Code.snd tree_Kids_c4
noncomputable abbrev tree_Kids_c7 : Code := Code.fst tree_Kids_c5
noncomputable abbrev tree_Kids_c8 : Code := Code.snd tree_Kids_c5
noncomputable abbrev tree_Kids_c9 : Code := Code.fst tree_Kids_c8
noncomputable abbrev tree_Kids_c10 : Code := Code.snd tree_Kids_c8
noncomputable abbrev tree_Kids_c11 : Code := Code.fst tree_Kids_c6
noncomputable abbrev tree_Kids_c12 : Code := Code.snd tree_Kids_c6
noncomputable abbrev tree_Kids_c13 : Code := Code.fst tree_Kids_c9
noncomputable abbrev tree_Kids_c14 : Code := Code.snd tree_Kids_c9
abbrev tree_Kids_R (w : World) (F : Nat → Prop) (r : List Int) : Ending → World → Prop := fun e w' => ∃ A0 : Option Addr, ∃ n0 : Nat, ∃ c0 : Nat, e = .returned (.slice A0 n0 c0) ∧ B.Loc w w' [.own (.slice A0 n0 c0) 3 1 n0 (r.flatMap (eI .i64))] [St w []] ∧ Ow w.heap.size A0 n0 c0 r
noncomputable abbrev tree_Kids_C (w : World) (F : Nat → Prop) (r : List Int) : Cx := ⟨Try.prog, 58, Try.f58, 21, tree_Kids_R w F  r, w⟩
theorem tree_Kids_calls (w : World) (F : Nat → Prop) (x1 : List api_Node) (x6 : Int) (A2 : Option Addr) (n3 : Nat) (c4 : Nat) (h5 : Rw k_api_Node w (St w []).av A2 n3 c4 x1) (hF : ∀ b, F b → b < w.heap.size ∧ ∀ o ∈ ([] : List (List Nat)), b ∉ o) (hL0 : B.Loc w w [] [Sm w.heap.size F w [], St w []]) (r : List Int) (h : tree_Kids x1 x6 r) : Calls Try.prog 58 #[.slice A2 n3 c4, .int .i64 x6] w (tree_Kids_R w F  r) := by
  unfold tree_Kids at h
  refine calls_of_Loc (vs := [.slice A2 n3 c4, .int .i64 x6]) 21 Try.func58 rfl Try.ntmps58 rfl hL0 ?_
  show G (tree_Kids_C w F r) _ _ _ _
  refine g_seq (c := tree_Kids_c0) rfl ?_
  refine g_region (c := tree_Kids_c1) rfl rfl ?_
  refine wl_v 0 rfl (v_assign rfl) gn rfl ?_
  refine w_end 1 rfl ?_
  refine g_seq (c := tree_Kids_c2) rfl ?_
  refine g_region (c := tree_Kids_c3) rfl rfl ?_
  refine wl_v 0 rfl (v_move rfl) gn rfl ?_
  obtain ⟨r10, hv11, h⟩ := h
  refine wl_s 1 rfl (s_call [.slice A2 n3 c4] rfl Try.func43 rfl rfl rfl fun w7 hL8 => ?_) gn
  have hp9 : List.Perm ([] : List Ent) (([] : List Ent) ++ ([] : List Ent)) := perm_of_idx [] [] rfl rfl (by kernel_rfl)
  refine Calls.mono (tree_plant_calls w7 (Fl ([St w []] : List Snap)) x1 A2 n3 c4 (Rw.mono h5 (hL8.toFl (me 1 rfl) (me 0 rfl))) (hL8.hFl (Sl := ([St w []] : List Snap)) hp9 (sels [1] rfl)) (hL8.into hp9 (Fl ([St w []] : List Snap))) r10 hv11) ?_
  rintro _ w26 ⟨A16, n17, c18, A21, n22, c23, A12, n13, c14, rfl, hM27, h19, h24, h15⟩
  obtain ⟨sv30, hL28, hv29⟩ := hL8.callN (Sl := ([St w []] : List Snap)) hp9 hM27 (sels [1] rfl)
  have h15 : At k_api_Node (sv30) A12 n13 c14 r10.nodes := Rw.mono h15 hv29
  refine ⟨_, _, _, rfl, hL28, ?_⟩
  refine wl_s 2 rfl (s_alloc [.slice none 0 0, .slice none 0 0, .slice none 0 0, .bool false] zr_54 rfl fun gb31 => ?_) gn
  refine wl_s 3 rfl (s_stB (vs := [.slice A12 n13 c14, .slice A16 n17 c18, .slice A21 n22 c23, .bool r10.ok]) (cs' := [.slice A12 n13 c14, .slice A16 n17 c18, .slice A21 n22 c23, .bool r10.ok]) (M' := [.box gb31 54 [.slice A12 n13 c14, .slice A16 n17 c18, .slice A21 n22 c23, .bool r10.ok], .own (.slice A16 n17 c18) 3 1 n17 (r10.parent.flatMap (eI .i64)), .own (.slice A21 n22 c23) 3 1 n22 (r10.end_.flatMap (eI .i64))]) 0 sz_54 rfl rfl rfl rfl rfl rfl rfl rfl rfl ?_) gn
  refine w_end 4 rfl ?_
  refine g_seq (c := tree_Kids_c4) rfl ?_
  refine g_seq (c := tree_Kids_c5) rfl ?_
  refine g_region (c := tree_Kids_c7) rfl rfl ?_
  refine wl_v 0 rfl (v_ldB [.slice A12 n13 c14, .slice A16 n17 c18, .slice A21 n22 c23, .bool r10.ok] 0 ld_54 rfl rfl rfl rfl) gn rfl ?_
  refine wl_v 1 rfl (v_move rfl) gn rfl ?_
  obtain ⟨r36, hv37, h⟩ := h
  refine wl_s 2 rfl (s_call [.agg #[.slice A12 n13 c14, .slice A16 n17 c18, .slice A21 n22 c23, .bool r10.ok], .int .i64 x6] rfl Try.func45 rfl rfl rfl fun w33 hL34 => ?_) gn
  have hp35 : List.Perm ([.box gb31 54 [.slice A12 n13 c14, .slice A16 n17 c18, .slice A21 n22 c23, .bool r10.ok], .own (.slice A16 n17 c18) 3 1 n17 (r10.parent.flatMap (eI .i64)), .own (.slice A21 n22 c23) 3 1 n22 (r10.end_.flatMap (eI .i64))] : List Ent) (([] : List Ent) ++ ([.box gb31 54 [.slice A12 n13 c14, .slice A16 n17 c18, .slice A21 n22 c23, .bool r10.ok], .own (.slice A16 n17 c18) 3 1 n17 (r10.parent.flatMap (eI .i64)), .own (.slice A21 n22 c23) 3 1 n22 (r10.end_.flatMap (eI .i64))] : List Ent)) := perm_of_idx [] [0, 1, 2] rfl rfl (by kernel_rfl)
  refine Calls.mono (tree_forest_has_calls w33 (Fl ([] : List Snap)) r10 x6 A12 n13 c14 A16 n17 c18 A21 n22 c23 (Rw.mono h15 (hL34.toSt hp35 (me 0 rfl))) (hL34.argO (dk := (kInt .i64)) hp35 [] rfl 1 rfl rfl (Ow.weak hL8.env.size h19) (me 1 rfl) (Cells.flat _)) (hL34.argO (dk := (kInt .i64)) hp35 [] rfl 2 rfl rfl (Ow.weak hL8.env.size h24) (me 1 rfl) (Cells.flat _)) (hL34.hFl (Sl := ([] : List Snap)) hp35 (sels [] rfl)) (hL34.into hp35 (Fl ([] : List Snap))) r36 hv37) ?_
  rintro _ w38 ⟨rfl, hM39⟩
  have hL40 := hL34.call hp35 hM39
  refine ⟨_, _, _, rfl, hL40, ?_⟩
  refine wl_v 3 rfl (v_not rfl) gn rfl ?_
  refine w_end 4 rfl ?_
  by_cases hp41 : r36 = true
  · have h := if_pos' hp41 h
    refine g_false (c := tree_Kids_c8) rfl _ rfl ((nf hp41)) ?_
    refine g_skip (c := tree_Kids_c10) rfl ?_
    refine g_seq (c := tree_Kids_c6) rfl ?_
    obtain ⟨hb42, h⟩ := h
    obtain ⟨r46, hv47, h⟩ := h
    have hns : Region.noSelect (Code.ops tree_Kids_c11) = true := by kernel_rfl
    refine g_drawF (c := tree_Kids_c11) [.box gb31 54 [.slice A12 n13 c14, .slice A16 n17 c18, .slice A21 n22 c23, .bool r10.ok], .own (.slice A16 n17 c18) 3 1 n17 (r10.parent.flatMap (eI .i64)), .own (.slice A21 n22 c23) 3 1 n22 (r10.end_.flatMap (eI .i64))] [sv30, Sm w.heap.size F w [], St w []] [] 10 rfl rfl mix rfl (.cons_cons _ (.cons_cons _ (.cons_cons _ (.slnil)))) (sels [0, 1, 2] rfl) ?_
    refine wf_v 0 rfl (v_ldB [.slice A12 n13 c14, .slice A16 n17 c18, .slice A21 n22 c23, .bool r10.ok] 0 ld_54 rfl rfl rfl rfl) gn rfl hns (by kernel_rfl) (by kernel_rfl) rfl rfl ?_
    refine wf_v 1 rfl (v_move rfl) gn rfl hns (by kernel_rfl) (by kernel_rfl) rfl rfl ?_
    refine wf_v 2 rfl (v_bin rfl rfl rfl) gn rfl hns (by kernel_rfl) (by kernel_rfl) rfl rfl ?_
    refine wf_v 3 rfl (v_fldB fo_54_2 rfl) gn rfl hns (by kernel_rfl) (by kernel_rfl) rfl rfl ?_
    refine wf_v 4 rfl (v_ldB1 0 ld_45 rfl rfl rfl) gn rfl hns (by kernel_rfl) (by kernel_rfl) rfl rfl ?_
    refine wf_v 5 rfl (v_move rfl) gn rfl hns (by kernel_rfl) (by kernel_rfl) rfl rfl ?_
    refine wf_v 6 rfl (v_idxO slE_45 rfl rfl (Ow.weak hL8.env.size h24) hb42) gn rfl hns (by kernel_rfl) (by kernel_rfl) rfl rfl ?_
    refine wf_v 7 rfl (v_ldO1 (.int .i64 (ix r10.end_ x6)) 2 ld_3 rfl rfl (fm_get0 (hlI .i64) hb42 rfl)) gn rfl hns (by kernel_rfl) (by kernel_rfl) rfl rfl ?_
    refine wf_all [8] (by kernel_rfl) rfl ⟨on_s 8 rfl gn rfl (s_call [.agg #[.slice A12 n13 c14, .slice A16 n17 c18, .slice A21 n22 c23, .bool r10.ok], .int .i64 (w64 (x6 + 1)), .int .i64 (ix r10.end_ x6)] rfl Try.func57 rfl rfl rfl fun w86 hL87 => ?_), trivial⟩
    have hp88 : List.Perm ([.box gb31 54 [.slice A12 n13 c14, .slice A16 n17 c18, .slice A21 n22 c23, .bool r10.ok], .own (.slice A16 n17 c18) 3 1 n17 (r10.parent.flatMap (eI .i64)), .own (.slice A21 n22 c23) 3 1 n22 (r10.end_.flatMap (eI .i64))] : List Ent) (([] : List Ent) ++ ([.box gb31 54 [.slice A12 n13 c14, .slice A16 n17 c18, .slice A21 n22 c23, .bool r10.ok], .own (.slice A16 n17 c18) 3 1 n17 (r10.parent.flatMap (eI .i64)), .own (.slice A21 n22 c23) 3 1 n22 (r10.end_.flatMap (eI .i64))] : List Ent)) := perm_of_idx [] [0, 1, 2] rfl rfl (by kernel_rfl)
    refine Calls.mono (tree_forest_beside_calls w86 (Fl ([] : List Snap)) r10 (w64 (x6 + 1)) (ix r10.end_ x6) A12 n13 c14 A16 n17 c18 A21 n22 c23 (Rw.mono h15 (hL87.toSt hp88 (me 0 rfl))) (hL87.argO (dk := (kInt .i64)) hp88 [] rfl 1 rfl rfl (Ow.weak hL8.env.size h19) (me 1 rfl) (Cells.flat _)) (hL87.argO (dk := (kInt .i64)) hp88 [] rfl 2 rfl rfl (Ow.weak hL8.env.size h24) (me 1 rfl) (Cells.flat _)) (hL87.hFl (Sl := ([] : List Snap)) hp88 (sels [] rfl)) (hL87.into hp88 (Fl ([] : List Snap))) r46 hv47) ?_
    rintro _ w93 ⟨A89, n90, c91, rfl, hM94, h92⟩
    have hL95 := hL87.call hp88 hM94
    refine ⟨_, _, _, rfl, hL95, ?_⟩
    refine ⟨sels [1, 2, 3] rfl, sels [0, 1, 2] rfl, ?_⟩
    refine wf_v 9 rfl (v_assign rfl) gn rfl hns (by kernel_rfl) (by kernel_rfl) rfl rfl ?_
    refine wf_end (by kernel_rfl) ?_
    refine g_retR (c := tree_Kids_c12) [.slice A89 n90 c91] rfl Try.func58 rfl (.tmp rfl (.nil)) fun wr hLr => ?_
    have hMr : B.Loc w wr [.own (.slice A89 n90 c91) 3 1 n90 (r46.flatMap (eI .i64))] [St w []] := hLr.pick (rest := [.box gb31 54 [.slice A12 n13 c14, .slice A16 n17 c18, .slice A21 n22 c23, .bool r10.ok], .own (.slice A16 n17 c18) 3 1 n17 (r10.parent.flatMap (eI .i64)), .own (.slice A21 n22 c23) 3 1 n22 (r10.end_.flatMap (eI .i64))]) (perm_of_idx [0] [1, 2, 3] rfl rfl (by kernel_rfl)) (sels [2] rfl)
    have hMi : ∀ e ∈ ([.own (.slice A89 n90 c91) 3 1 n90 (r46.flatMap (eI .i64))] : List Ent), e ∈ ([.own (.slice A89 n90 c91) 3 1 n90 (r46.flatMap (eI .i64)), .box gb31 54 [.slice A12 n13 c14, .slice A16 n17 c18, .slice A21 n22 c23, .bool r10.ok], .own (.slice A16 n17 c18) 3 1 n17 (r10.parent.flatMap (eI .i64)), .own (.slice A21 n22 c23) 3 1 n22 (r10.end_.flatMap (eI .i64))] : List Ent) := sels [0] rfl
    show tree_Kids_R w F  r (.returned (packV [.slice A89 n90 c91])) wr
    rw [h]
    exact ⟨A89, n90, c91, rfl, hMr, (Ow.weak hL87.env.size h92)⟩
  · have h := if_neg' hp41 h
    refine g_true (c := tree_Kids_c8) rfl _ rfl ((nt (bf hp41))) ?_
    refine g_seq (c := tree_Kids_c9) rfl ?_
    refine g_region (c := tree_Kids_c13) rfl rfl ?_
    refine wl_v 0 rfl (v_assign rfl) gn rfl ?_
    refine w_end 1 rfl ?_
    refine g_nil 3 1 ?_
    refine g_retR (c := tree_Kids_c14) [.slice none 0 0] rfl Try.func58 rfl (.tmp rfl (.nil)) fun wr hLr => ?_
    have hMr : B.Loc w wr [.own (.slice none 0 0) 3 1 0 (([] : List Int).flatMap (eI .i64))] [St w []] := hLr.pick (rest := [.box gb31 54 [.slice A12 n13 c14, .slice A16 n17 c18, .slice A21 n22 c23, .bool r10.ok], .own (.slice A16 n17 c18) 3 1 n17 (r10.parent.flatMap (eI .i64)), .own (.slice A21 n22 c23) 3 1 n22 (r10.end_.flatMap (eI .i64))]) (perm_of_idx [0] [1, 2, 3] rfl rfl (by kernel_rfl)) (sels [2] rfl)
    have hMi : ∀ e ∈ ([.own (.slice none 0 0) 3 1 0 (([] : List Int).flatMap (eI .i64))] : List Ent), e ∈ ([.own (.slice none 0 0) 3 1 0 (([] : List Int).flatMap (eI .i64)), .box gb31 54 [.slice A12 n13 c14, .slice A16 n17 c18, .slice A21 n22 c23, .bool r10.ok], .own (.slice A16 n17 c18) 3 1 n17 (r10.parent.flatMap (eI .i64)), .own (.slice A21 n22 c23) 3 1 n22 (r10.end_.flatMap (eI .i64))] : List Ent) := sels [0] rfl
    show tree_Kids_R w F  r (.returned (packV [.slice none 0 0])) wr
    rw [h]
    exact ⟨none, 0, 0, rfl, hMr, (Ow.nil (z := w.heap.size))⟩
noncomputable abbrev choose_row_c0 : Code := bodyOf Try.f46
noncomputable abbrev choose_row_c1 : Code := Code.fst choose_row_c0
noncomputable abbrev choose_row_c2 : Code := Code.snd choose_row_c0
noncomputable abbrev choose_row_c3 : Code := Code.fst choose_row_c2
noncomputable abbrev choose_row_c4 : Code := Code.snd choose_row_c2
noncomputable abbrev choose_row_c5 : Code := Code.fst choose_row_c4
noncomputable abbrev choose_row_c6 : Code := Code.snd choose_row_c4
noncomputable abbrev choose_row_c7 : Code := Code.fst choose_row_c5
noncomputable abbrev choose_row_c8 : Code := Code.snd choose_row_c5
noncomputable abbrev choose_row_c9 : Code := Code.fst choose_row_c8
noncomputable abbrev choose_row_c10 : Code := Code.snd choose_row_c8
noncomputable abbrev choose_row_c11 : Code := Code.fst choose_row_c9
noncomputable abbrev choose_row_c12 : Code := Code.snd choose_row_c9
noncomputable abbrev choose_row_c13 : Code := Code.fst choose_row_c6
noncomputable abbrev choose_row_c14 : Code := Code.snd choose_row_c6
noncomputable abbrev choose_row_c15 : Code := Code.fst choose_row_c13
noncomputable abbrev choose_row_c16 : Code := Code.snd choose_row_c13
noncomputable abbrev choose_row_c17 : Code := Code.fst choose_row_c16
noncomputable abbrev choose_row_c18 : Code := Code.snd choose_row_c16
noncomputable abbrev choose_row_c19 : Code := Code.fst choose_row_c18
noncomputable abbrev choose_row_c20 : Code := Code.snd choose_row_c18
noncomputable abbrev choose_row_c21 : Code := Code.fst choose_row_c19
noncomputable abbrev choose_row_c22 : Code := Code.snd choose_row_c19
noncomputable abbrev choose_row_c23 : Code := Code.fst choose_row_c14
noncomputable abbrev choose_row_c24 : Code := Code.snd choose_row_c14
noncomputable abbrev choose_row_c25 : Code := Code.fst choose_row_c24
noncomputable abbrev choose_row_c26 : Code := Code.snd choose_row_c24
noncomputable abbrev choose_row_c27 : Code := Code.fst choose_row_c25
noncomputable abbrev choose_row_c28 : Code := Code.snd choose_row_c25
noncomputable abbrev choose_row_c29 : Code := Code.fst choose_row_c28
noncomputable abbrev choose_row_c30 : Code := Code.fst choose_row_c29
noncomputable abbrev choose_row_c31 : Code := Code.fst choose_row_c30
noncomputable abbrev choose_row_c32 : Code := Code.snd choose_row_c30
noncomputable abbrev choose_row_c33 : Code := Code.fst choose_row_c31
noncomputable abbrev choose_row_c34 : Code := Code.snd choose_row_c31
noncomputable abbrev choose_row_c35 : Code := Code.fst choose_row_c34
noncomputable abbrev choose_row_c36 : Code := Code.snd choose_row_c34
noncomputable abbrev choose_row_c37 : Code := Code.fst choose_row_c32
noncomputable abbrev choose_row_c38 : Code := Code.snd choose_row_c32
noncomputable abbrev choose_row_c39 : Code := Code.fst choose_row_c37
noncomputable abbrev choose_row_c40 : Code := Code.fst choose_row_c26
noncomputable abbrev choose_row_c41 : Code := Code.snd choose_row_c26
abbrev choose_row_R (w : World) (F : Nat → Prop) (r : List Int) : Ending → World → Prop := fun e w' => ∃ A0 : Option Addr, ∃ n0 : Nat, ∃ c0 : Nat, e = .returned (.slice A0 n0 c0) ∧ B.Loc w w' [.own (.slice A0 n0 c0) 3 1 n0 (r.flatMap (eI .i64))] [St w []] ∧ Ow w.heap.size A0 n0 c0 r
noncomputable abbrev choose_row_C (w : World) (F : Nat → Prop) (r : List Int) : Cx := ⟨Try.prog, 46, Try.f46, 42, choose_row_R w F  r, w⟩
theorem choose_row_calls (w : World) (F : Nat → Prop) (x1 : List api_Node) (x6 : Int) (A2 : Option Addr) (n3 : Nat) (c4 : Nat) (h5 : Rw k_api_Node w (St w []).av A2 n3 c4 x1) (hF : ∀ b, F b → b < w.heap.size ∧ ∀ o ∈ ([] : List (List Nat)), b ∉ o) (hL0 : B.Loc w w [] [Sm w.heap.size F w [], St w []]) (r : List Int) (h : choose_row x1 x6 r) : Calls Try.prog 46 #[.slice A2 n3 c4, .int .i64 x6] w (choose_row_R w F  r) := by
  unfold choose_row at h
  refine calls_of_Loc (vs := [.slice A2 n3 c4, .int .i64 x6]) 42 Try.func46 rfl Try.ntmps46 rfl hL0 ?_
  show G (choose_row_C w F r) _ _ _ _
  refine g_seq (c := choose_row_c0) rfl ?_
  refine g_region (c := choose_row_c1) rfl rfl ?_
  refine wl_v 0 rfl (v_assign rfl) gn rfl ?_
  refine w_end 1 rfl ?_
  refine g_seq (c := choose_row_c2) rfl ?_
  refine g_region (c := choose_row_c3) rfl rfl ?_
  refine wl_v 0 rfl (v_move rfl) gn rfl ?_
  obtain ⟨r10, hv11, h⟩ := h
  refine wl_s 1 rfl (s_call [.slice A2 n3 c4] rfl Try.func49 rfl rfl rfl fun w7 hL8 => ?_) gn
  have hp9 : List.Perm ([] : List Ent) (([] : List Ent) ++ ([] : List Ent)) := perm_of_idx [] [] rfl rfl (by kernel_rfl)
  refine Calls.mono (choose_sizes_calls w7 (Fl ([] : List Snap)) x1 A2 n3 c4 (Rw.mono h5 (hL8.toSt hp9 (me 1 rfl))) (hL8.hFl (Sl := ([] : List Snap)) hp9 (sels [] rfl)) (hL8.into hp9 (Fl ([] : List Snap))) r10 hv11) ?_
  rintro _ w17 ⟨A12, n13, c14, rfl, hM18, h15⟩
  have hL19 := hL8.call hp9 hM18
  refine ⟨_, _, _, rfl, hL19, ?_⟩
  refine wl_v 2 rfl (v_assign rfl) gn rfl ?_
  refine w_end 3 rfl ?_
  refine g_seq (c := choose_row_c4) rfl ?_
  refine g_seq (c := choose_row_c5) rfl ?_
  have j1 : ∀ (x22 : Bool) (h : choose_row_j1 x1 x6 r10 x22 r) , G (choose_row_C w F r) [.code choose_row_c8, .code choose_row_c6] [(0, .slice A2 n3 c4), (1, .int .i64 x6), (5, .slice A12 n13 c14), (18, .bool x22)] [.own (.slice A12 n13 c14) 3 1 n13 (r10.flatMap (eI .i64))] [Sm w.heap.size F w [], St w []] := by
    intro x22 h
    unfold choose_row_j1 at h
    by_cases hp23 : x22 = true
    · have h := if_pos' hp23 h
      refine g_true (c := choose_row_c8) rfl _ rfl (hp23) ?_
      refine g_seq (c := choose_row_c9) rfl ?_
      refine g_region (c := choose_row_c11) rfl rfl ?_
      refine wl_v 0 rfl (v_assign rfl) gn rfl ?_
      refine w_end 1 rfl ?_
      refine g_nil 3 1 ?_
      refine g_retR (c := choose_row_c12) [.slice none 0 0] rfl Try.func46 rfl (.tmp rfl (.nil)) fun wr hLr => ?_
      have hMr : B.Loc w wr [.own (.slice none 0 0) 3 1 0 (([] : List Int).flatMap (eI .i64))] [St w []] := hLr.pick (rest := [.own (.slice A12 n13 c14) 3 1 n13 (r10.flatMap (eI .i64))]) (perm_of_idx [0] [1] rfl rfl (by kernel_rfl)) (sels [1] rfl)
      have hMi : ∀ e ∈ ([.own (.slice none 0 0) 3 1 0 (([] : List Int).flatMap (eI .i64))] : List Ent), e ∈ ([.own (.slice none 0 0) 3 1 0 (([] : List Int).flatMap (eI .i64)), .own (.slice A12 n13 c14) 3 1 n13 (r10.flatMap (eI .i64))] : List Ent) := sels [0] rfl
      show choose_row_R w F  r (.returned (packV [.slice none 0 0])) wr
      rw [h]
      exact ⟨none, 0, 0, rfl, hMr, (Ow.nil (z := w.heap.size))⟩
    · have h := if_neg' hp23 h
      refine g_false (c := choose_row_c8) rfl _ rfl ((bf hp23)) ?_
      refine g_skip (c := choose_row_c10) rfl ?_
      refine g_seq (c := choose_row_c6) rfl ?_
      refine g_seq (c := choose_row_c13) rfl ?_
      refine g_region (c := choose_row_c15) rfl rfl ?_
      refine wl_v 0 rfl (v_move rfl) gn rfl ?_
      refine wl_v 1 rfl (v_move rfl) gn rfl ?_
      obtain ⟨r27, hv28, h⟩ := h
      refine wl_s 2 rfl (s_call [.slice A2 n3 c4, .int .i64 x6] rfl Try.func28 rfl rfl rfl fun w24 hL25 => ?_) gn
      have hp26 : List.Perm ([.own (.slice A12 n13 c14) 3 1 n13 (r10.flatMap (eI .i64))] : List Ent) (([] : List Ent) ++ ([.own (.slice A12 n13 c14) 3 1 n13 (r10.flatMap (eI .i64))] : List Ent)) := perm_of_idx [] [0] rfl rfl (by kernel_rfl)
      refine Calls.mono (tree_Parent_calls w24 (Fl ([] : List Snap)) x1 x6 A2 n3 c4 (Rw.mono h5 (hL25.toSt hp26 (me 1 rfl))) (hL25.hFl (Sl := ([] : List Snap)) hp26 (sels [] rfl)) (hL25.into hp26 (Fl ([] : List Snap))) r27 hv28) ?_
      rintro _ w29 ⟨rfl, hM30⟩
      have hL31 := hL25.call hp26 hM30
      refine ⟨_, _, _, rfl, hL31, ?_⟩
      refine wl_v 3 rfl (v_assign rfl) gn rfl ?_
      refine w_end 4 rfl ?_
      refine g_seq (c := choose_row_c16) rfl ?_
      refine g_region (c := choose_row_c17) rfl rfl ?_
      refine wl_v 0 rfl (v_move rfl) gn rfl ?_
      refine wl_v 1 rfl (v_bin rfl rfl rfl) gn rfl ?_
      refine w_end 2 rfl ?_
      by_cases hp32 : r27 ≥ 0
      · have h := if_pos' hp32 h
        refine g_true (c := choose_row_c18) rfl _ rfl ((decide_eq_true hp32)) ?_
        refine g_seq (c := choose_row_c19) rfl ?_
        refine g_region (c := choose_row_c21) rfl rfl ?_
        refine wl_v 0 rfl (v_move rfl) gn rfl ?_
        refine wl_v 1 rfl (v_move rfl) gn rfl ?_
        obtain ⟨r36, hv37, h⟩ := h
        refine wl_s 2 rfl (s_call [.slice A2 n3 c4, .int .i64 r27] rfl Try.func58 rfl rfl rfl fun w33 hL34 => ?_) gn
        have hp35 : List.Perm ([.own (.slice A12 n13 c14) 3 1 n13 (r10.flatMap (eI .i64))] : List Ent) (([] : List Ent) ++ ([.own (.slice A12 n13 c14) 3 1 n13 (r10.flatMap (eI .i64))] : List Ent)) := perm_of_idx [] [0] rfl rfl (by kernel_rfl)
        refine Calls.mono (tree_Kids_calls w33 (Fl ([] : List Snap)) x1 r27 A2 n3 c4 (Rw.mono h5 (hL34.toSt hp35 (me 1 rfl))) (hL34.hFl (Sl := ([] : List Snap)) hp35 (sels [] rfl)) (hL34.into hp35 (Fl ([] : List Snap))) r36 hv37) ?_
        rintro _ w43 ⟨A38, n39, c40, rfl, hM44, h41⟩
        have hL45 := hL34.call hp35 hM44
        refine ⟨_, _, _, rfl, hL45, ?_⟩
        refine wl_v 3 rfl (v_assign rfl) gn rfl ?_
        refine w_end 4 rfl ?_
        refine g_retR (c := choose_row_c22) [.slice A38 n39 c40] rfl Try.func46 rfl (.tmp rfl (.nil)) fun wr hLr => ?_
        have hMr : B.Loc w wr [.own (.slice A38 n39 c40) 3 1 n39 (r36.flatMap (eI .i64))] [St w []] := hLr.pick (rest := [.own (.slice A12 n13 c14) 3 1 n13 (r10.flatMap (eI .i64))]) (perm_of_idx [0] [1] rfl rfl (by kernel_rfl)) (sels [1] rfl)
        have hMi : ∀ e ∈ ([.own (.slice A38 n39 c40) 3 1 n39 (r36.flatMap (eI .i64))] : List Ent), e ∈ ([.own (.slice A38 n39 c40) 3 1 n39 (r36.flatMap (eI .i64)), .own (.slice A12 n13 c14) 3 1 n13 (r10.flatMap (eI .i64))] : List Ent) := sels [0] rfl
        show choose_row_R w F  r (.returned (packV [.slice A38 n39 c40])) wr
        rw [h]
        exact ⟨A38, n39, c40, rfl, hMr, (Ow.weak hL34.env.size h41)⟩
      · have h := if_neg' hp32 h
        refine g_false (c := choose_row_c18) rfl _ rfl ((decide_eq_false hp32)) ?_
        refine g_skip (c := choose_row_c20) rfl ?_
        refine g_seq (c := choose_row_c14) rfl ?_
        refine g_region (c := choose_row_c23) rfl rfl ?_
        refine wl_v 0 rfl (v_assign rfl) gn rfl ?_
        refine w_end 1 rfl ?_
        refine g_seq (c := choose_row_c24) rfl ?_
        refine g_seq (c := choose_row_c25) rfl ?_
        refine g_region (c := choose_row_c27) rfl rfl ?_
        refine wl_v 0 rfl (v_assign rfl) gn rfl ?_
        refine w_end 1 rfl ?_
        refine g_block (c := choose_row_c28) rfl ?_
        refine g_loop (c := choose_row_c29) rfl ?_
        have key2 : ∀ s, Rounds (fun (s : (List Int) × Int) o => choose_row_b2 x1 r10 s.1 s.2 o) s r → (fun (s : (List Int) × Int) => ∀ (A60 : Option Addr) (n61 : Nat) (c62 : Nat) (h63 : Ow w.heap.size A60 n61 c62 s.1), G (choose_row_C w F r) [.code choose_row_c30, .inLoop choose_row_c30, .inBlock 0, .code choose_row_c26] [(0, .slice A2 n3 c4), (5, .slice A12 n13 c14), (7, .slice A60 n61 c62), (8, .int .i64 s.2)] [.own (.slice A60 n61 c62) 3 1 n61 (s.1.flatMap (eI .i64)), .own (.slice A12 n13 c14) 3 1 n13 (r10.flatMap (eI .i64))] [Sm w.heap.size F w [], St w []]) s := by
          intro s hs
          refine Rounds.ind (mot := (fun (s : (List Int) × Int) => ∀ (A60 : Option Addr) (n61 : Nat) (c62 : Nat) (h63 : Ow w.heap.size A60 n61 c62 s.1), G (choose_row_C w F r) [.code choose_row_c30, .inLoop choose_row_c30, .inBlock 0, .code choose_row_c26] [(0, .slice A2 n3 c4), (5, .slice A12 n13 c14), (7, .slice A60 n61 c62), (8, .int .i64 s.2)] [.own (.slice A60 n61 c62) 3 1 n61 (s.1.flatMap (eI .i64)), .own (.slice A12 n13 c14) 3 1 n13 (r10.flatMap (eI .i64))] [Sm w.heap.size F w [], St w []])) ?_ hs
          clear hs s
          intro s o1 h hO1
          obtain ⟨x59, x64⟩ := s
          show ∀ (A60 : Option Addr) (n61 : Nat) (c62 : Nat) (h63 : Ow w.heap.size A60 n61 c62 x59), G (choose_row_C w F r) [.code choose_row_c30, .inLoop choose_row_c30, .inBlock 0, .code choose_row_c26] [(0, .slice A2 n3 c4), (5, .slice A12 n13 c14), (7, .slice A60 n61 c62), (8, .int .i64 x64)] [.own (.slice A60 n61 c62) 3 1 n61 (x59.flatMap (eI .i64)), .own (.slice A12 n13 c14) 3 1 n13 (r10.flatMap (eI .i64))] [Sm w.heap.size F w [], St w []]
          intro A60 n61 c62 h63
          have h : choose_row_b2 x1 r10 x59 x64 o1 := h
          unfold choose_row_b2 at h
          refine g_seq (c := choose_row_c30) rfl ?_
          refine g_seq (c := choose_row_c31) rfl ?_
          refine g_region (c := choose_row_c33) rfl rfl ?_
          refine wl_v 0 rfl (v_move rfl) gn rfl ?_
          refine wl_v 1 rfl (v_move rfl) gn rfl ?_
          refine wl_v 2 rfl (v_lenQ un_22 rfl h5.hq) gn rfl ?_
          refine wl_v 3 rfl (v_bin rfl rfl rfl) gn rfl ?_
          refine w_end 4 rfl ?_
          by_cases hp76 : x64 < (x1.length : Int)
          · have h := if_pos' hp76 h
            refine g_true (c := choose_row_c34) rfl _ rfl ((decide_eq_true hp76)) ?_
            refine g_skip (c := choose_row_c35) rfl ?_
            refine g_seq (c := choose_row_c32) rfl ?_
            refine g_block (c := choose_row_c37) rfl ?_
            refine g_region (c := choose_row_c39) rfl rfl ?_
            refine wl_v 0 rfl (v_move rfl) gn rfl ?_
            refine wl_v 1 rfl (v_move rfl) gn rfl ?_
            refine wl_s 2 rfl (s_litO (xs := ([x64] : List Int)) [.int .i64 x64] bs_45_1 rfl (by kernel_rfl) rfl rfl rfl rfl fun gb78 h79 => ?_) gn
            obtain ⟨x83, hv84, h⟩ := h
            obtain ⟨hb85, h⟩ := h
            refine wl_s 3 rfl (s_app (zs := x83) (cells' := x83.flatMap (eI .i64)) 1 ap_45 rfl rfl rfl h63 (Nat.le_refl _) (Src.ownF (hl := (hlI .i64)) (h1 := (hone_int .i64)) 0 rfl h79) (by rw [hv84, List.flatMap_append] <;> rfl) (app_len hv84 h79.hq) hb85 rfl rfl fun A80 c81 h82 => ?_) gn
            refine wl_v 4 rfl (v_assign rfl) gn rfl ?_
            refine w_end 5 rfl ?_
            refine g_inBlock ?_
            refine g_region (c := choose_row_c38) rfl rfl ?_
            refine wl_v 0 rfl (v_move rfl) gn rfl ?_
            refine wl_v 1 rfl (v_move rfl) gn rfl ?_
            refine wl_v 2 rfl (v_move rfl) gn rfl ?_
            obtain ⟨hb86, h⟩ := h
            refine wl_v 3 rfl (v_idxO slE_45 rfl rfl (Ow.weak hL8.env.size h15) hb86) gn rfl ?_
            refine wl_v 4 rfl (v_ldO1 (.int .i64 (ix r10 x64)) 2 ld_3 rfl rfl (fm_get0 (hlI .i64) hb86 rfl)) gn rfl ?_
            refine wl_v 5 rfl (v_bin rfl rfl rfl) gn rfl ?_
            refine wl_v 6 rfl (v_assign rfl) gn rfl ?_
            refine w_end 7 rfl ?_
            refine g_inLoop ?_
            have ih := Out.inl hO1 h
            exact g_go [0, 1] (ih A80 (n61 + 1) c81 h82) ⟨rfl, rfl, rfl, rfl, trivial⟩ (.cons _ (.cons_cons _ (.cons_cons _ (.slnil)))) rfl
          · have h := if_neg' hp76 h
            refine g_false (c := choose_row_c34) rfl _ rfl ((decide_eq_false hp76)) ?_
            refine g_exit (c := choose_row_c36) [.code choose_row_c26] rfl rfl ?_
            refine g_seq (c := choose_row_c26) rfl ?_
            refine g_region (c := choose_row_c40) rfl rfl ?_
            refine wl_v 0 rfl (v_move rfl) gn rfl ?_
            refine wl_v 1 rfl (v_assign rfl) gn rfl ?_
            refine w_end 2 rfl ?_
            have h := Out.inr hO1 h
            refine g_retR (c := choose_row_c41) [.slice A60 n61 c62] rfl Try.func46 rfl (.tmp rfl (.nil)) fun wr hLr => ?_
            have hMr : B.Loc w wr [.own (.slice A60 n61 c62) 3 1 n61 (x59.flatMap (eI .i64))] [St w []] := hLr.pick (rest := [.own (.slice A12 n13 c14) 3 1 n13 (r10.flatMap (eI .i64))]) (perm_of_idx [0] [1] rfl rfl (by kernel_rfl)) (sels [1] rfl)
            have hMi : ∀ e ∈ ([.own (.slice A60 n61 c62) 3 1 n61 (x59.flatMap (eI .i64))] : List Ent), e ∈ ([.own (.slice A60 n61 c62) 3 1 n61 (x59.flatMap (eI .i64)), .own (.slice A12 n13 c14) 3 1 n13 (r10.flatMap (eI .i64))] : List Ent) := sels [0] rfl
            show choose_row_R w F  r (.returned (packV [.slice A60 n61 c62])) wr
            rw [h]
            exact ⟨A60, n61, c62, rfl, hMr, h63⟩
        refine g_nil 3 1 ?_
        exact g_go [0, 1] (key2 _ h none 0 0 (Ow.nil (z := w.heap.size))) ⟨rfl, rfl, rfl, rfl, trivial⟩ (.cons_cons _ (.cons_cons _ (.slnil))) rfl
  refine g_region (c := choose_row_c7) rfl rfl ?_
  refine wl_v 0 rfl (v_move rfl) gn rfl ?_
  refine wl_v 1 rfl (v_bin rfl rfl rfl) gn rfl ?_
  refine wl_v 2 rfl (v_move rfl) gn rfl ?_
  by_cases hp87 : x6 < 0
  · have h := if_pos' hp87 h
    refine w_bool 13 rfl ((decide_eq_true hp87)) ?_
    refine wl_pass 3 rfl (ps 13 rfl rfl rfl) ?_
    refine wl_pass 4 rfl (ps 13 rfl rfl rfl) ?_
    refine wl_pass 5 rfl (ps 13 rfl rfl rfl) ?_
    refine wl_pass 6 rfl (ps 13 rfl rfl rfl) ?_
    refine wl_v 7 rfl (v_pick (b := true) rfl rfl) gn rfl ?_
    refine w_end 8 rfl ?_
    exact g_go [0, 1] (j1 true h) ⟨rfl, rfl, rfl, rfl, trivial⟩ (.cons_cons _ (.slnil)) rfl
  · have h := if_neg' hp87 h
    refine w_bool 13 rfl ((decide_eq_false hp87)) ?_
    refine wl_v 3 rfl (v_move rfl) (gy 13 rfl rfl) rfl ?_
    refine wl_v 4 rfl (v_move rfl) (gy 13 rfl rfl) rfl ?_
    refine wl_v 5 rfl (v_lenQ un_45 rfl (Ow.weak hL8.env.size h15).hq) (gy 13 rfl rfl) rfl ?_
    refine wl_v 6 rfl (v_bin rfl rfl rfl) (gy 13 rfl rfl) rfl ?_
    refine wl_v 7 rfl (v_pick (b := false) rfl rfl) gn rfl ?_
    refine w_end 8 rfl ?_
    exact g_go [0, 1] (j1 (decide (x6 ≥ (r10.length : Int))) h) ⟨rfl, rfl, rfl, rfl, trivial⟩ (.cons_cons _ (.slnil)) rfl
noncomputable abbrev slices_Index_int_int_c0 : Code := bodyOf Try.f48
noncomputable abbrev slices_Index_int_int_c1 : Code := Code.fst slices_Index_int_int_c0
noncomputable abbrev slices_Index_int_int_c2 : Code := Code.snd slices_Index_int_int_c0
noncomputable abbrev slices_Index_int_int_c3 : Code := Code.fst slices_Index_int_int_c2
noncomputable abbrev slices_Index_int_int_c4 : Code := Code.snd slices_Index_int_int_c2
noncomputable abbrev slices_Index_int_int_c5 : Code := Code.fst slices_Index_int_int_c3
noncomputable abbrev slices_Index_int_int_c6 : Code := Code.snd slices_Index_int_int_c3
noncomputable abbrev slices_Index_int_int_c7 : Code := Code.fst slices_Index_int_int_c6
noncomputable abbrev slices_Index_int_int_c8 : Code := Code.fst slices_Index_int_int_c7
noncomputable abbrev slices_Index_int_int_c9 : Code := Code.fst slices_Index_int_int_c8
noncomputable abbrev slices_Index_int_int_c10 : Code := Code.snd slices_Index_int_int_c8
noncomputable abbrev slices_Index_int_int_c11 : Code := Code.fst slices_Index_int_int_c10
noncomputable abbrev slices_Index_int_int_c12 : Code := Code.snd slices_Index_int_int_c10
noncomputable abbrev slices_Index_int_int_c13 : Code := Code.fst slices_Index_int_int_c11
noncomputable abbrev slices_Index_int_int_c14 : Code := Code.snd slices_Index_int_int_c11
noncomputable abbrev slices_Index_int_int_c15 : Code := Code.fst slices_Index_int_int_c12
noncomputable abbrev slices_Index_int_int_c16 : Code := Code.snd slices_Index_int_int_c12
noncomputable abbrev slices_Index_int_int_c17 : Code := Code.fst slices_Index_int_int_c15
noncomputable abbrev slices_Index_int_int_c18 : Code := Code.fst slices_Index_int_int_c17
noncomputable abbrev slices_Index_int_int_c19 : Code := Code.snd slices_Index_int_int_c17
noncomputable abbrev slices_Index_int_int_c20 : Code := Code.fst slices_Index_int_int_c19
noncomputable abbrev slices_Index_int_int_c21 : Code := Code.snd slices_Index_int_int_c19
noncomputable abbrev slices_Index_int_int_c22 : Code := Code.fst slices_Index_int_int_c21
noncomputable abbrev slices_Index_int_int_c23 : Code := Code.snd slices_Index_int_int_c21
noncomputable abbrev slices_Index_int_int_c24 : Code := Code.fst slices_Index_int_int_c22
noncomputable abbrev slices_Index_int_int_c25 : Code := Code.snd slices_Index_int_int_c22
noncomputable abbrev slices_Index_int_int_c26 : Code := Code.fst slices_Index_int_int_c4
noncomputable abbrev slices_Index_int_int_c27 : Code := Code.snd slices_Index_int_int_c4
abbrev slices_Index_int_int_R (w : World) (F : Nat → Prop) (r : Int) : Ending → World → Prop := fun e w' => e = .returned (.int .i64 r) ∧ B.Loc w w' [] [St w []]
noncomputable abbrev slices_Index_int_int_C (w : World) (F : Nat → Prop) (r : Int) : Cx := ⟨Try.prog, 48, Try.f48, 19, slices_Index_int_int_R w F  r, w⟩
theorem slices_Index_int_int_calls (w : World) (F : Nat → Prop) (x1 : List Int) (x6 : Int) (A2 : Option Addr) (n3 : Nat) (c4 : Nat) (h5 : Rw (kInt .i64) w (St w []).av A2 n3 c4 x1) (hF : ∀ b, F b → b < w.heap.size ∧ ∀ o ∈ ([] : List (List Nat)), b ∉ o) (hL0 : B.Loc w w [] [Sm w.heap.size F w [], St w []]) (r : Int) (h : slices_Index_int_int x1 x6 r) : Calls Try.prog 48 #[.slice A2 n3 c4, .int .i64 x6] w (slices_Index_int_int_R w F  r) := by
  unfold slices_Index_int_int at h
  refine calls_of_Loc (vs := [.slice A2 n3 c4, .int .i64 x6]) 19 Try.func48 rfl Try.ntmps48 rfl hL0 ?_
  show G (slices_Index_int_int_C w F r) _ _ _ _
  refine g_seq (c := slices_Index_int_int_c0) rfl ?_
  refine g_region (c := slices_Index_int_int_c1) rfl rfl ?_
  refine wl_v 0 rfl (v_assign rfl) gn rfl ?_
  refine w_end 1 rfl ?_
  refine g_seq (c := slices_Index_int_int_c2) rfl ?_
  refine g_seq (c := slices_Index_int_int_c3) rfl ?_
  refine g_region (c := slices_Index_int_int_c5) rfl rfl ?_
  refine wl_v 0 rfl (v_move rfl) gn rfl ?_
  refine wl_v 1 rfl (v_lenQ un_45 rfl h5.hq) gn rfl ?_
  refine wl_v 2 rfl (v_move rfl) gn rfl ?_
  refine w_end 3 rfl ?_
  refine g_block (c := slices_Index_int_int_c6) rfl ?_
  refine g_loop (c := slices_Index_int_int_c7) rfl ?_
  have key1 : ∀ s, Rounds (fun (s : Int) o => slices_Index_int_int_b1 x1 x6 s o) s r → (fun (s : Int) => ∀ (_ : Unit), G (slices_Index_int_int_C w F r) [.code slices_Index_int_int_c8, .inLoop slices_Index_int_int_c8, .inBlock 0, .code slices_Index_int_int_c4] [(0, .slice A2 n3 c4), (1, .int .i64 x6), (7, .int .i64 (x1.length : Int)), (8, .int .i64 s)] [] [Sm w.heap.size F w [], St w []]) s := by
    intro s hs
    refine Rounds.ind (mot := (fun (s : Int) => ∀ (_ : Unit), G (slices_Index_int_int_C w F r) [.code slices_Index_int_int_c8, .inLoop slices_Index_int_int_c8, .inBlock 0, .code slices_Index_int_int_c4] [(0, .slice A2 n3 c4), (1, .int .i64 x6), (7, .int .i64 (x1.length : Int)), (8, .int .i64 s)] [] [Sm w.heap.size F w [], St w []])) ?_ hs
    clear hs s
    intro x12 o1 h hO1
    show ∀ (_ : Unit), G (slices_Index_int_int_C w F r) [.code slices_Index_int_int_c8, .inLoop slices_Index_int_int_c8, .inBlock 0, .code slices_Index_int_int_c4] [(0, .slice A2 n3 c4), (1, .int .i64 x6), (7, .int .i64 (x1.length : Int)), (8, .int .i64 x12)] [] [Sm w.heap.size F w [], St w []]
    intro _
    have h : slices_Index_int_int_b1 x1 x6 x12 o1 := h
    unfold slices_Index_int_int_b1 at h
    refine g_seq (c := slices_Index_int_int_c8) rfl ?_
    refine g_region (c := slices_Index_int_int_c9) rfl rfl ?_
    refine wl_v 0 rfl (v_bin rfl rfl rfl) gn rfl ?_
    refine w_end 1 rfl ?_
    refine g_seq (c := slices_Index_int_int_c10) rfl ?_
    by_cases hp17 : x12 < (x1.length : Int)
    · have h := if_pos' hp17 h
      refine g_true (c := slices_Index_int_int_c11) rfl _ rfl ((decide_eq_true hp17)) ?_
      refine g_skip (c := slices_Index_int_int_c13) rfl ?_
      refine g_seq (c := slices_Index_int_int_c12) rfl ?_
      refine g_block (c := slices_Index_int_int_c15) rfl ?_
      refine g_seq (c := slices_Index_int_int_c17) rfl ?_
      refine g_region (c := slices_Index_int_int_c18) rfl rfl ?_
      refine wl_v 0 rfl (v_move rfl) gn rfl ?_
      refine wl_v 1 rfl (v_assign rfl) gn rfl ?_
      refine w_end 2 rfl ?_
      refine g_seq (c := slices_Index_int_int_c19) rfl ?_
      refine g_region (c := slices_Index_int_int_c20) rfl rfl ?_
      refine wl_v 0 rfl (v_move rfl) gn rfl ?_
      refine wl_v 1 rfl (v_move rfl) gn rfl ?_
      refine wl_v 2 rfl (v_move rfl) gn rfl ?_
      obtain ⟨hb18, h⟩ := h
      have hr19 := Rw.readF (s := St w []) (hl := (hlI .i64)) (h1 := (hone_int .i64)) h5 hb18
      refine wl_v 3 rfl (v_idxR (s := St w []) slE_45 rfl rfl h5 hb18) gn rfl ?_
      refine wl_v 4 rfl (v_ldA1 (kk := (x12 : Int).toNat * 1) (j := 0) (St w []) ld_3 rfl hr19 rfl (me 1 rfl)) gn rfl ?_
      refine wl_v 5 rfl (v_bin rfl rfl rfl) gn rfl ?_
      refine w_end 6 rfl ?_
      by_cases hp20 : x6 = ix x1 x12
      · have h := if_pos' hp20 h
        refine g_true (c := slices_Index_int_int_c21) rfl _ rfl ((eqi hp20)) ?_
        refine g_seq (c := slices_Index_int_int_c22) rfl ?_
        refine g_region (c := slices_Index_int_int_c24) rfl rfl ?_
        refine wl_v 0 rfl (v_move rfl) gn rfl ?_
        refine wl_v 1 rfl (v_assign rfl) gn rfl ?_
        refine w_end 2 rfl ?_
        have h := Out.inr hO1 h
        refine g_retR (c := slices_Index_int_int_c25) [.int .i64 x12] rfl Try.func48 rfl (.tmp rfl (.nil)) fun wr hLr => ?_
        have hMr : B.Loc w wr [] [St w []] := hLr.pick (rest := []) (perm_of_idx [] [] rfl rfl (by kernel_rfl)) (sels [1] rfl)
        have hMi : ∀ e ∈ ([] : List Ent), e ∈ ([] : List Ent) := sels [] rfl
        show slices_Index_int_int_R w F  r (.returned (packV [.int .i64 x12])) wr
        rw [h]
        exact ⟨rfl, hMr⟩
      · have h := if_neg' hp20 h
        refine g_false (c := slices_Index_int_int_c21) rfl _ rfl ((nei hp20)) ?_
        refine g_skip (c := slices_Index_int_int_c23) rfl ?_
        refine g_inBlock ?_
        refine g_region (c := slices_Index_int_int_c16) rfl rfl ?_
        refine wl_v 0 rfl (v_bin rfl rfl rfl) gn rfl ?_
        refine wl_v 1 rfl (v_move rfl) gn rfl ?_
        refine w_end 2 rfl ?_
        refine g_inLoop ?_
        have ih := Out.inl hO1 h
        exact g_go [0, 1] (ih ()) ⟨rfl, rfl, rfl, rfl, trivial⟩ (.slnil) rfl
    · have h := if_neg' hp17 h
      refine g_false (c := slices_Index_int_int_c11) rfl _ rfl ((decide_eq_false hp17)) ?_
      refine g_exit (c := slices_Index_int_int_c14) [.code slices_Index_int_int_c4] rfl rfl ?_
      refine g_seq (c := slices_Index_int_int_c4) rfl ?_
      refine g_region (c := slices_Index_int_int_c26) rfl rfl ?_
      refine wl_v 0 rfl (v_assign rfl) gn rfl ?_
      refine w_end 1 rfl ?_
      have h := Out.inr hO1 h
      refine g_retR (c := slices_Index_int_int_c27) [.int .i64 (-1)] rfl Try.func48 rfl (.tmp rfl (.nil)) fun wr hLr => ?_
      have hMr : B.Loc w wr [] [St w []] := hLr.pick (rest := []) (perm_of_idx [] [] rfl rfl (by kernel_rfl)) (sels [1] rfl)
      have hMi : ∀ e ∈ ([] : List Ent), e ∈ ([] : List Ent) := sels [] rfl
      show slices_Index_int_int_R w F  r (.returned (packV [.int .i64 (-1)])) wr
      rw [h]
      exact ⟨rfl, hMr⟩
  exact g_go [0, 1] (key1 _ h ()) ⟨rfl, rfl, rfl, rfl, trivial⟩ (.slnil) rfl
noncomputable abbrev choose_Beside_c0 : Code := bodyOf Try.f31
noncomputable abbrev choose_Beside_c1 : Code := Code.fst choose_Beside_c0
noncomputable abbrev choose_Beside_c2 : Code := Code.snd choose_Beside_c0
noncomputable abbrev choose_Beside_c3 : Code := Code.fst choose_Beside_c2
noncomputable abbrev choose_Beside_c4 : Code := Code.snd choose_Beside_c2
noncomputable abbrev choose_Beside_c5 : Code := Code.fst choose_Beside_c4
noncomputable abbrev choose_Beside_c6 : Code := Code.snd choose_Beside_c4
noncomputable abbrev choose_Beside_c7 : Code := Code.fst choose_Beside_c6
noncomputable abbrev choose_Beside_c8 : Code := Code.snd choose_Beside_c6
noncomputable abbrev choose_Beside_c9 : Code := Code.fst choose_Beside_c7
noncomputable abbrev choose_Beside_c10 : Code := Code.snd choose_Beside_c7
noncomputable abbrev choose_Beside_c11 : Code := Code.fst choose_Beside_c10
noncomputable abbrev choose_Beside_c12 : Code := Code.snd choose_Beside_c10
noncomputable abbrev choose_Beside_c13 : Code := Code.fst choose_Beside_c11
noncomputable abbrev choose_Beside_c14 : Code := Code.snd choose_Beside_c11
noncomputable abbrev choose_Beside_c15 : Code := Code.fst choose_Beside_c8
noncomputable abbrev choose_Beside_c16 : Code := Code.snd choose_Beside_c8
abbrev choose_Beside_R (w : World) (F : Nat → Prop) (r : Int) : Ending → World → Prop := fun e w' => e = .returned (.int .i64 r) ∧ B.Loc w w' [] [St w []]
noncomputable abbrev choose_Beside_C (w : World) (F : Nat → Prop) (r : Int) : Cx := ⟨Try.prog, 31, Try.f31, 38, choose_Beside_R w F  r, w⟩
theorem choose_Beside_calls (w : World) (F : Nat → Prop) (x1 : List api_Node) (x6 : Int) (x7 : Int) (A2 : Option Addr) (n3 : Nat) (c4 : Nat) (h5 : Rw k_api_Node w (St w []).av A2 n3 c4 x1) (hF : ∀ b, F b → b < w.heap.size ∧ ∀ o ∈ ([] : List (List Nat)), b ∉ o) (hL0 : B.Loc w w [] [Sm w.heap.size F w [], St w []]) (r : Int) (h : choose_Beside x1 x6 x7 r) : Calls Try.prog 31 #[.slice A2 n3 c4, .int .i64 x6, .int .i64 x7] w (choose_Beside_R w F  r) := by
  unfold choose_Beside at h
  refine calls_of_Loc (vs := [.slice A2 n3 c4, .int .i64 x6, .int .i64 x7]) 38 Try.func31 rfl Try.ntmps31 rfl hL0 ?_
  show G (choose_Beside_C w F r) _ _ _ _
  refine g_seq (c := choose_Beside_c0) rfl ?_
  refine g_region (c := choose_Beside_c1) rfl rfl ?_
  refine wl_v 0 rfl (v_assign rfl) gn rfl ?_
  refine w_end 1 rfl ?_
  refine g_seq (c := choose_Beside_c2) rfl ?_
  refine g_region (c := choose_Beside_c3) rfl rfl ?_
  refine wl_v 0 rfl (v_move rfl) gn rfl ?_
  refine wl_v 1 rfl (v_move rfl) gn rfl ?_
  obtain ⟨r11, hv12, h⟩ := h
  refine wl_s 2 rfl (s_call [.slice A2 n3 c4, .int .i64 x6] rfl Try.func46 rfl rfl rfl fun w8 hL9 => ?_) gn
  have hp10 : List.Perm ([] : List Ent) (([] : List Ent) ++ ([] : List Ent)) := perm_of_idx [] [] rfl rfl (by kernel_rfl)
  refine Calls.mono (choose_row_calls w8 (Fl ([] : List Snap)) x1 x6 A2 n3 c4 (Rw.mono h5 (hL9.toSt hp10 (me 1 rfl))) (hL9.hFl (Sl := ([] : List Snap)) hp10 (sels [] rfl)) (hL9.into hp10 (Fl ([] : List Snap))) r11 hv12) ?_
  rintro _ w18 ⟨A13, n14, c15, rfl, hM19, h16⟩
  have hL20 := hL9.call hp10 hM19
  refine ⟨_, _, _, rfl, hL20, ?_⟩
  refine wl_v 3 rfl (v_assign rfl) gn rfl ?_
  refine w_end 4 rfl ?_
  refine g_seq (c := choose_Beside_c4) rfl ?_
  refine g_region (c := choose_Beside_c5) rfl rfl ?_
  refine wl_v 0 rfl (v_move rfl) gn rfl ?_
  refine wl_v 1 rfl (v_move rfl) gn rfl ?_
  obtain ⟨r24, hv25, h⟩ := h
  refine wl_s 2 rfl (s_call [.slice A13 n14 c15, .int .i64 x6] rfl Try.func48 rfl rfl rfl fun w21 hL22 => ?_) gn
  have hp23 : List.Perm ([.own (.slice A13 n14 c15) 3 1 n14 (r11.flatMap (eI .i64))] : List Ent) (([] : List Ent) ++ ([.own (.slice A13 n14 c15) 3 1 n14 (r11.flatMap (eI .i64))] : List Ent)) := perm_of_idx [] [0] rfl rfl (by kernel_rfl)
  refine Calls.mono (slices_Index_int_int_calls w21 (Fl ([] : List Snap)) r11 x6 A13 n14 c15 (hL22.argO (dk := (kInt .i64)) hp23 [] rfl 0 rfl rfl (Ow.weak hL9.env.size h16) (me 0 rfl) (Cells.flat _)) (hL22.hFl (Sl := ([] : List Snap)) hp23 (sels [] rfl)) (hL22.into hp23 (Fl ([] : List Snap))) r24 hv25) ?_
  rintro _ w26 ⟨rfl, hM27⟩
  have hL28 := hL22.call hp23 hM27
  refine ⟨_, _, _, rfl, hL28, ?_⟩
  refine wl_v 3 rfl (v_assign rfl) gn rfl ?_
  refine w_end 4 rfl ?_
  refine g_seq (c := choose_Beside_c6) rfl ?_
  refine g_seq (c := choose_Beside_c7) rfl ?_
  have j1 : ∀ (x32 : Bool) (h : choose_Beside_j1 r24 x7 r11 x32 r) , G (choose_Beside_C w F r) [.code choose_Beside_c10, .code choose_Beside_c8] [(2, .int .i64 x7), (7, .slice A13 n14 c15), (8, .int .i64 r24), (31, .bool x32)] [.own (.slice A13 n14 c15) 3 1 n14 (r11.flatMap (eI .i64))] [Sm w.heap.size F w [], St w []] := by
    intro x32 h
    unfold choose_Beside_j1 at h
    by_cases hp33 : x32 = true
    · have h := if_pos' hp33 h
      refine g_true (c := choose_Beside_c10) rfl _ rfl (hp33) ?_
      refine g_seq (c := choose_Beside_c11) rfl ?_
      refine g_region (c := choose_Beside_c13) rfl rfl ?_
      refine wl_v 0 rfl (v_assign rfl) gn rfl ?_
      refine w_end 1 rfl ?_
      refine g_retR (c := choose_Beside_c14) [.int .i64 (-1)] rfl Try.func31 rfl (.tmp rfl (.nil)) fun wr hLr => ?_
      have hMr : B.Loc w wr [] [St w []] := hLr.pick (rest := [.own (.slice A13 n14 c15) 3 1 n14 (r11.flatMap (eI .i64))]) (perm_of_idx [] [0] rfl rfl (by kernel_rfl)) (sels [1] rfl)
      have hMi : ∀ e ∈ ([] : List Ent), e ∈ ([.own (.slice A13 n14 c15) 3 1 n14 (r11.flatMap (eI .i64))] : List Ent) := sels [] rfl
      show choose_Beside_R w F  r (.returned (packV [.int .i64 (-1)])) wr
      rw [h]
      exact ⟨rfl, hMr⟩
    · have h := if_neg' hp33 h
      refine g_false (c := choose_Beside_c10) rfl _ rfl ((bf hp33)) ?_
      refine g_skip (c := choose_Beside_c12) rfl ?_
      refine g_seq (c := choose_Beside_c8) rfl ?_
      refine g_region (c := choose_Beside_c15) rfl rfl ?_
      refine wl_v 0 rfl (v_move rfl) gn rfl ?_
      refine wl_v 1 rfl (v_move rfl) gn rfl ?_
      refine wl_v 2 rfl (v_move rfl) gn rfl ?_
      refine wl_v 3 rfl (v_bin rfl rfl rfl) gn rfl ?_
      obtain ⟨hb34, h⟩ := h
      refine wl_v 4 rfl (v_idxO slE_45 rfl rfl (Ow.weak hL9.env.size h16) hb34) gn rfl ?_
      refine wl_v 5 rfl (v_ldO1 (.int .i64 (ix r11 (w64 (r24 + x7)))) 0 ld_3 rfl rfl (fm_get0 (hlI .i64) hb34 rfl)) gn rfl ?_
      refine wl_v 6 rfl (v_assign rfl) gn rfl ?_
      refine w_end 7 rfl ?_
      refine g_retR (c := choose_Beside_c16) [.int .i64 (ix r11 (w64 (r24 + x7)))] rfl Try.func31 rfl (.tmp rfl (.nil)) fun wr hLr => ?_
      have hMr : B.Loc w wr [] [St w []] := hLr.pick (rest := [.own (.slice A13 n14 c15) 3 1 n14 (r11.flatMap (eI .i64))]) (perm_of_idx [] [0] rfl rfl (by kernel_rfl)) (sels [1] rfl)
      have hMi : ∀ e ∈ ([] : List Ent), e ∈ ([.own (.slice A13 n14 c15) 3 1 n14 (r11.flatMap (eI .i64))] : List Ent) := sels [] rfl
      show choose_Beside_R w F  r (.returned (packV [.int .i64 (ix r11 (w64 (r24 + x7)))])) wr
      rw [h]
      exact ⟨rfl, hMr⟩
  refine g_region (c := choose_Beside_c9) rfl rfl ?_
  refine wl_v 0 rfl (v_move rfl) gn rfl ?_
  refine wl_v 1 rfl (v_bin rfl rfl rfl) gn rfl ?_
  refine wl_v 2 rfl (v_move rfl) gn rfl ?_
  by_cases hp35 : r24 < 0
  · have h := if_pos' hp35 h
    refine w_bool 17 rfl ((decide_eq_true hp35)) ?_
    refine wl_pass 3 rfl (ps 17 rfl rfl rfl) ?_
    refine wl_pass 4 rfl (ps 17 rfl rfl rfl) ?_
    refine wl_pass 5 rfl (ps 17 rfl rfl rfl) ?_
    refine wl_pass 6 rfl (ps 17 rfl rfl rfl) ?_
    refine wl_v 7 rfl (v_pick (b := true) rfl rfl) gn rfl ?_
    refine wl_v 8 rfl (v_move rfl) gn rfl ?_
    refine wl_pass 9 rfl (ps 23 rfl rfl rfl) ?_
    refine wl_pass 10 rfl (ps 23 rfl rfl rfl) ?_
    refine wl_pass 11 rfl (ps 23 rfl rfl rfl) ?_
    refine wl_pass 12 rfl (ps 23 rfl rfl rfl) ?_
    refine wl_pass 13 rfl (ps 23 rfl rfl rfl) ?_
    refine wl_pass 14 rfl (ps 23 rfl rfl rfl) ?_
    refine wl_pass 15 rfl (ps 23 rfl rfl rfl) ?_
    refine wl_v 16 rfl (v_pick (b := true) rfl rfl) gn rfl ?_
    refine w_end 17 rfl ?_
    exact g_go [0, 1] (j1 true h) ⟨rfl, rfl, rfl, rfl, trivial⟩ (.cons_cons _ (.slnil)) rfl
  · have h := if_neg' hp35 h
    refine w_bool 17 rfl ((decide_eq_false hp35)) ?_
    refine wl_v 3 rfl (v_move rfl) (gy 17 rfl rfl) rfl ?_
    refine wl_v 4 rfl (v_move rfl) (gy 17 rfl rfl) rfl ?_
    refine wl_v 5 rfl (v_neg rfl) (gy 17 rfl rfl) rfl ?_
    refine wl_v 6 rfl (v_bin rfl rfl rfl) (gy 17 rfl rfl) rfl ?_
    refine wl_v 7 rfl (v_pick (b := false) rfl rfl) gn rfl ?_
    refine wl_v 8 rfl (v_move rfl) gn rfl ?_
    by_cases hp36 : x7 < w64 (0 - r24)
    · have h := if_pos' hp36 h
      refine w_bool 23 rfl ((decide_eq_true hp36)) ?_
      refine wl_pass 9 rfl (ps 23 rfl rfl rfl) ?_
      refine wl_pass 10 rfl (ps 23 rfl rfl rfl) ?_
      refine wl_pass 11 rfl (ps 23 rfl rfl rfl) ?_
      refine wl_pass 12 rfl (ps 23 rfl rfl rfl) ?_
      refine wl_pass 13 rfl (ps 23 rfl rfl rfl) ?_
      refine wl_pass 14 rfl (ps 23 rfl rfl rfl) ?_
      refine wl_pass 15 rfl (ps 23 rfl rfl rfl) ?_
      refine wl_v 16 rfl (v_pick (b := true) rfl rfl) gn rfl ?_
      refine w_end 17 rfl ?_
      exact g_go [0, 1] (j1 true h) ⟨rfl, rfl, rfl, rfl, trivial⟩ (.cons_cons _ (.slnil)) rfl
    · have h := if_neg' hp36 h
      refine w_bool 23 rfl ((decide_eq_false hp36)) ?_
      refine wl_v 9 rfl (v_move rfl) (gy 23 rfl rfl) rfl ?_
      refine wl_v 10 rfl (v_move rfl) (gy 23 rfl rfl) rfl ?_
      refine wl_v 11 rfl (v_lenQ un_45 rfl (Ow.weak hL9.env.size h16).hq) (gy 23 rfl rfl) rfl ?_
      refine wl_v 12 rfl (v_bin rfl rfl rfl) (gy 23 rfl rfl) rfl ?_
      refine wl_v 13 rfl (v_move rfl) (gy 23 rfl rfl) rfl ?_
      refine wl_v 14 rfl (v_bin rfl rfl rfl) (gy 23 rfl rfl) rfl ?_
      refine wl_v 15 rfl (v_bin rfl rfl rfl) (gy 23 rfl rfl) rfl ?_
      refine wl_v 16 rfl (v_pick (b := false) rfl rfl) gn rfl ?_
      refine w_end 17 rfl ?_
      exact g_go [0, 1] (j1 (decide (x7 > w64 ((w64 ((r11.length : Int) - 1)) - r24))) h) ⟨rfl, rfl, rfl, rfl, trivial⟩ (.cons_cons _ (.slnil)) rfl
noncomputable abbrev choose_opens_c0 : Code := bodyOf Try.f47
noncomputable abbrev choose_opens_c1 : Code := Code.fst choose_opens_c0
noncomputable abbrev choose_opens_c2 : Code := Code.snd choose_opens_c0
noncomputable abbrev choose_opens_c3 : Code := Code.fst choose_opens_c2
noncomputable abbrev choose_opens_c4 : Code := Code.snd choose_opens_c2
noncomputable abbrev choose_opens_c5 : Code := Code.fst choose_opens_c3
noncomputable abbrev choose_opens_c6 : Code := Code.snd choose_opens_c3
noncomputable abbrev choose_opens_c7 : Code := Code.fst choose_opens_c6
noncomputable abbrev choose_opens_c8 : Code := Code.fst choose_opens_c7
noncomputable abbrev choose_opens_c9 : Code := Code.snd choose_opens_c7
noncomputable abbrev choose_opens_c10 : Code := Code.fst choose_opens_c9
noncomputable abbrev choose_opens_c11 : Code := Code.snd choose_opens_c9
noncomputable abbrev choose_opens_c12 : Code := Code.fst choose_opens_c10
noncomputable abbrev choose_opens_c13 : Code := Code.snd choose_opens_c10
noncomputable abbrev choose_opens_c14 : Code := Code.fst choose_opens_c11
noncomputable abbrev choose_opens_c15 : Code := Code.snd choose_opens_c11
noncomputable abbrev choose_opens_c16 : Code := Code.fst choose_opens_c15
noncomputable abbrev choose_opens_c17 : Code := Code.snd choose_opens_c15
noncomputable abbrev choose_opens_c18 : Code := Code.fst choose_opens_c16
noncomputable abbrev choose_opens_c19 : Code := Code.snd choose_opens_c16
noncomputable abbrev choose_opens_c20 : Code := Code.fst choose_opens_c4
noncomputable abbrev choose_opens_c21 : Code := Code.snd choose_opens_c4
abbrev choose_opens_R (w : World) (F : Nat → Prop) (r : ByteArray) : Ending → World → Prop := fun e w' => e = .returned (.string r) ∧ B.Loc w w' [] [St w []]
noncomputable abbrev choose_opens_C (w : World) (F : Nat → Prop) (r : ByteArray) : Cx := ⟨Try.prog, 47, Try.f47, 8, choose_opens_R w F  r, w⟩
theorem choose_opens_calls (w : World) (F : Nat → Prop) (x1 : ByteArray) (hF : ∀ b, F b → b < w.heap.size ∧ ∀ o ∈ ([] : List (List Nat)), b ∉ o) (hL0 : B.Loc w w [] [Sm w.heap.size F w [], St w []]) (r : ByteArray) (h : choose_opens x1 r) : Calls Try.prog 47 #[.string x1] w (choose_opens_R w F  r) := by
  unfold choose_opens at h
  refine calls_of_Loc (vs := [.string x1]) 8 Try.func47 rfl Try.ntmps47 rfl hL0 ?_
  show G (choose_opens_C w F r) _ _ _ _
  refine g_seq (c := choose_opens_c0) rfl ?_
  refine g_region (c := choose_opens_c1) rfl rfl ?_
  refine wl_v 0 rfl (v_assign rfl) gn rfl ?_
  refine w_end 1 rfl ?_
  refine g_seq (c := choose_opens_c2) rfl ?_
  refine g_seq (c := choose_opens_c3) rfl ?_
  refine g_region (c := choose_opens_c5) rfl rfl ?_
  refine wl_v 0 rfl (v_move rfl) gn rfl ?_
  refine w_end 1 rfl ?_
  refine g_block (c := choose_opens_c6) rfl ?_
  refine g_seq (c := choose_opens_c7) rfl ?_
  refine g_region (c := choose_opens_c8) rfl rfl ?_
  refine wl_v 0 rfl (v_eqS rfl rfl) gn rfl ?_
  refine wl_v 1 rfl (v_assign rfl) gn rfl ?_
  refine w_end 2 rfl ?_
  by_cases hp2 : x1 = (⟨#[41]⟩ : ByteArray)
  · have h := if_pos' hp2 h
    refine g_true (c := choose_opens_c9) rfl _ rfl ((seq_t hp2)) ?_
    refine g_seq (c := choose_opens_c10) rfl ?_
    refine g_region (c := choose_opens_c12) rfl rfl ?_
    refine wl_v 0 rfl (v_assign rfl) gn rfl ?_
    refine w_end 1 rfl ?_
    refine g_retR (c := choose_opens_c13) [.string (⟨#[40]⟩ : ByteArray)] rfl Try.func47 rfl (.tmp rfl (.nil)) fun wr hLr => ?_
    have hMr : B.Loc w wr [] [St w []] := hLr.pick (rest := []) (perm_of_idx [] [] rfl rfl (by kernel_rfl)) (sels [1] rfl)
    have hMi : ∀ e ∈ ([] : List Ent), e ∈ ([] : List Ent) := sels [] rfl
    show choose_opens_R w F  r (.returned (packV [.string (⟨#[40]⟩ : ByteArray)])) wr
    rw [h]
    exact ⟨rfl, hMr⟩
  · have h := if_neg' hp2 h
    refine g_false (c := choose_opens_c9) rfl _ rfl ((seq_f hp2)) ?_
    refine g_seq (c := choose_opens_c11) rfl ?_
    refine g_region (c := choose_opens_c14) rfl rfl ?_
    refine wl_v 0 rfl (v_eqS rfl rfl) gn rfl ?_
    refine wl_v 1 rfl (v_assign rfl) gn rfl ?_
    refine w_end 2 rfl ?_
    by_cases hp3 : x1 = (⟨#[93]⟩ : ByteArray)
    · have h := if_pos' hp3 h
      refine g_true (c := choose_opens_c15) rfl _ rfl ((seq_t hp3)) ?_
      refine g_seq (c := choose_opens_c16) rfl ?_
      refine g_region (c := choose_opens_c18) rfl rfl ?_
      refine wl_v 0 rfl (v_assign rfl) gn rfl ?_
      refine w_end 1 rfl ?_
      refine g_retR (c := choose_opens_c19) [.string (⟨#[91]⟩ : ByteArray)] rfl Try.func47 rfl (.tmp rfl (.nil)) fun wr hLr => ?_
      have hMr : B.Loc w wr [] [St w []] := hLr.pick (rest := []) (perm_of_idx [] [] rfl rfl (by kernel_rfl)) (sels [1] rfl)
      have hMi : ∀ e ∈ ([] : List Ent), e ∈ ([] : List Ent) := sels [] rfl
      show choose_opens_R w F  r (.returned (packV [.string (⟨#[91]⟩ : ByteArray)])) wr
      rw [h]
      exact ⟨rfl, hMr⟩
    · have h := if_neg' hp3 h
      refine g_false (c := choose_opens_c15) rfl _ rfl ((seq_f hp3)) ?_
      refine g_skip (c := choose_opens_c17) rfl ?_
      refine g_inBlock ?_
      refine g_seq (c := choose_opens_c4) rfl ?_
      refine g_region (c := choose_opens_c20) rfl rfl ?_
      refine wl_v 0 rfl (v_assign rfl) gn rfl ?_
      refine w_end 1 rfl ?_
      refine g_retR (c := choose_opens_c21) [.string (⟨#[123]⟩ : ByteArray)] rfl Try.func47 rfl (.tmp rfl (.nil)) fun wr hLr => ?_
      have hMr : B.Loc w wr [] [St w []] := hLr.pick (rest := []) (perm_of_idx [] [] rfl rfl (by kernel_rfl)) (sels [1] rfl)
      have hMi : ∀ e ∈ ([] : List Ent), e ∈ ([] : List Ent) := sels [] rfl
      show choose_opens_R w F  r (.returned (packV [.string (⟨#[123]⟩ : ByteArray)])) wr
      rw [h]
      exact ⟨rfl, hMr⟩
noncomputable abbrev choose_Pair_c0 : Code := bodyOf Try.f29
noncomputable abbrev choose_Pair_c1 : Code := Code.fst choose_Pair_c0
noncomputable abbrev choose_Pair_c2 : Code := Code.snd choose_Pair_c0
noncomputable abbrev choose_Pair_c3 : Code := Code.fst choose_Pair_c2
noncomputable abbrev choose_Pair_c4 : Code := Code.snd choose_Pair_c2
noncomputable abbrev choose_Pair_c5 : Code := Code.fst choose_Pair_c4
noncomputable abbrev choose_Pair_c6 : Code := Code.snd choose_Pair_c4
noncomputable abbrev choose_Pair_c7 : Code := Code.fst choose_Pair_c5
noncomputable abbrev choose_Pair_c8 : Code := Code.snd choose_Pair_c5
noncomputable abbrev choose_Pair_c9 : Code := Code.fst choose_Pair_c8
noncomputable abbrev choose_Pair_c10 : Code := Code.fst choose_Pair_c9
noncomputable abbrev choose_Pair_c11 : Code := Code.fst choose_Pair_c10
noncomputable abbrev choose_Pair_c12 : Code := Code.snd choose_Pair_c10
noncomputable abbrev choose_Pair_c13 : Code := Code.fst choose_Pair_c12
noncomputable abbrev choose_Pair_c14 : Code := Code.snd choose_Pair_c12
noncomputable abbrev choose_Pair_c15 : Code := Code.fst choose_Pair_c13
noncomputable abbrev choose_Pair_c16 : Code := Code.snd choose_Pair_c13
noncomputable abbrev choose_Pair_c17 : Code := Code.fst choose_Pair_c14
noncomputable abbrev choose_Pair_c18 : Code := Code.snd choose_Pair_c14
noncomputable abbrev choose_Pair_c19 : Code := Code.fst choose_Pair_c17
noncomputable abbrev choose_Pair_c20 : Code := Code.fst choose_Pair_c19
noncomputable abbrev choose_Pair_c21 : Code := Code.snd choose_Pair_c19
noncomputable abbrev choose_Pair_c22 : Code := Code.fst choose_Pair_c21
noncomputable abbrev choose_Pair_c23 : Code := Code.snd choose_Pair_c21
noncomputable abbrev choose_Pair_c24 : Code := Code.fst choose_Pair_c23
noncomputable abbrev choose_Pair_c25 : Code := Code.snd choose_Pair_c23
noncomputable abbrev choose_Pair_c26 : Code := Code.fst choose_Pair_c24
noncomputable abbrev choose_Pair_c27 : Code := Code.snd choose_Pair_c24
noncomputable abbrev choose_Pair_c28 : Code := Code.fst choose_Pair_c27
noncomputable abbrev choose_Pair_c29 : Code := Code.snd choose_Pair_c27
noncomputable abbrev choose_Pair_c30 : Code := Code.fst choose_Pair_c25
noncomputable abbrev choose_Pair_c31 : Code := Code.snd choose_Pair_c25
noncomputable abbrev choose_Pair_c32 : Code := Code.fst choose_Pair_c31
noncomputable abbrev choose_Pair_c33 : Code := Code.fst choose_Pair_c32
noncomputable abbrev choose_Pair_c34 : Code := Code.snd choose_Pair_c32
noncomputable abbrev choose_Pair_c35 : Code := Code.fst choose_Pair_c33
noncomputable abbrev choose_Pair_c36 : Code := Code.snd choose_Pair_c33
noncomputable abbrev choose_Pair_c37 : Code := Code.fst choose_Pair_c36
noncomputable abbrev choose_Pair_c38 : Code := Code.snd choose_Pair_c36
noncomputable abbrev choose_Pair_c39 : Code := Code.fst choose_Pair_c38
noncomputable abbrev choose_Pair_c40 : Code := Code.snd choose_Pair_c38
noncomputable abbrev choose_Pair_c41 : Code := Code.fst choose_Pair_c40
noncomputable abbrev choose_Pair_c42 : Code := Code.snd choose_Pair_c40
noncomputable abbrev choose_Pair_c43 : Code := Code.fst choose_Pair_c34
noncomputable abbrev choose_Pair_c44 : Code := Code.snd choose_Pair_c34
noncomputable abbrev choose_Pair_c45 : Code := Code.fst choose_Pair_c44
noncomputable abbrev choose_Pair_c46 : Code := Code.snd choose_Pair_c44
noncomputable abbrev choose_Pair_c47 : Code := Code.fst choose_Pair_c45
noncomputable abbrev choose_Pair_c48 : Code := Code.snd choose_Pair_c45
noncomputable abbrev choose_Pair_c49 : Code := Code.fst choose_Pair_c48
noncomputable abbrev choose_Pair_c50 : Code := Code.snd choose_Pair_c48
noncomputable abbrev choose_Pair_c51 : Code := Code.fst choose_Pair_c50
noncomputable abbrev choose_Pair_c52 : Code := Code.snd choose_Pair_c50
noncomputable abbrev choose_Pair_c53 : Code := Code.fst choose_Pair_c52
noncomputable abbrev choose_Pair_c54 : Code := Code.snd choose_Pair_c52
noncomputable abbrev choose_Pair_c55 : Code := Code.fst choose_Pair_c46
noncomputable abbrev choose_Pair_c56 : Code := Code.snd choose_Pair_c46
noncomputable abbrev choose_Pair_c57 : Code := Code.fst choose_Pair_c55
noncomputable abbrev choose_Pair_c58 : Code := Code.snd choose_Pair_c55
noncomputable abbrev choose_Pair_c59 : Code := Code.fst choose_Pair_c58
noncomputable abbrev choose_Pair_c60 : Code := Code.snd choose_Pair_c58
noncomputable abbrev choose_Pair_c61 : Code := Code.fst choose_Pair_c59
noncomputable abbrev choose_Pair_c62 : Code := Code.snd choose_Pair_c59
noncomputable abbrev choose_Pair_c63 : Code := Code.fst choose_Pair_c62
noncomputable abbrev choose_Pair_c64 : Code := Code.snd choose_Pair_c62
noncomputable abbrev choose_Pair_c65 : Code := Code.fst choose_Pair_c6
noncomputable abbrev choose_Pair_c66 : Code := Code.snd choose_Pair_c6
noncomputable abbrev choose_Pair_c67 : Code := Code.fst choose_Pair_c60
noncomputable abbrev choose_Pair_c68 : Code := Code.snd choose_Pair_c60
noncomputable abbrev choose_Pair_c69 : Code := Code.fst choose_Pair_c67
noncomputable abbrev choose_Pair_c70 : Code := Code.snd choose_Pair_c67
noncomputable abbrev choose_Pair_c71 : Code := Code.fst choose_Pair_c70
noncomputable abbrev choose_Pair_c72 : Code := Code.fst choose_Pair_c71
noncomputable abbrev choose_Pair_c73 : Code := Code.snd choose_Pair_c71
noncomputable abbrev choose_Pair_c74 : Code := Code.fst choose_Pair_c73
noncomputable abbrev choose_Pair_c75 : Code := Code.snd choose_Pair_c73
noncomputable abbrev choose_Pair_c76 : Code := Code.fst choose_Pair_c74
noncomputable abbrev choose_Pair_c77 : Code := Code.snd choose_Pair_c74
noncomputable abbrev choose_Pair_c78 : Code := Code.fst choose_Pair_c75
noncomputable abbrev choose_Pair_c79 : Code := Code.snd choose_Pair_c75
noncomputable abbrev choose_Pair_c80 : Code := Code.fst choose_Pair_c79
noncomputable abbrev choose_Pair_c81 : Code := Code.snd choose_Pair_c79
noncomputable abbrev choose_Pair_c82 : Code := Code.fst choose_Pair_c80
noncomputable abbrev choose_Pair_c83 : Code := Code.snd choose_Pair_c80
abbrev choose_Pair_R (w : World) (F : Nat → Prop) (r : Int) : Ending → World → Prop := fun e w' => e = .returned (.int .i64 r) ∧ B.Loc w w' [] [St w []]
noncomputable abbrev choose_Pair_C (w : World) (F : Nat → Prop) (r : Int) : Cx := ⟨Try.prog, 29, Try.f29, 76, choose_Pair_R w F  r, w⟩
theorem choose_Pair_calls (w : World) (F : Nat → Prop) (x1 : List api_Node) (x6 : Int) (A2 : Option Addr) (n3 : Nat) (c4 : Nat) (h5 : Rw k_api_Node w (St w []).av A2 n3 c4 x1) (hF : ∀ b, F b → b < w.heap.size ∧ ∀ o ∈ ([] : List (List Nat)), b ∉ o) (hL0 : B.Loc w w [] [Sm w.heap.size F w [], St w []]) (r : Int) (h : choose_Pair x1 x6 r) : Calls Try.prog 29 #[.slice A2 n3 c4, .int .i64 x6] w (choose_Pair_R w F  r) := by
  unfold choose_Pair at h
  refine calls_of_Loc (vs := [.slice A2 n3 c4, .int .i64 x6]) 76 Try.func29 rfl Try.ntmps29 rfl hL0 ?_
  show G (choose_Pair_C w F r) _ _ _ _
  refine g_seq (c := choose_Pair_c0) rfl ?_
  refine g_region (c := choose_Pair_c1) rfl rfl ?_
  refine wl_v 0 rfl (v_assign rfl) gn rfl ?_
  refine w_end 1 rfl ?_
  refine g_seq (c := choose_Pair_c2) rfl ?_
  refine g_region (c := choose_Pair_c3) rfl rfl ?_
  refine wl_v 0 rfl (v_assign rfl) gn rfl ?_
  refine w_end 1 rfl ?_
  refine g_seq (c := choose_Pair_c4) rfl ?_
  refine g_seq (c := choose_Pair_c5) rfl ?_
  refine g_region (c := choose_Pair_c7) rfl rfl ?_
  refine wl_v 0 rfl (v_move rfl) gn rfl ?_
  refine wl_v 1 rfl (v_move rfl) gn rfl ?_
  obtain ⟨r10, hv11, h⟩ := h
  refine wl_s 2 rfl (s_call [.slice A2 n3 c4, .int .i64 x6] rfl Try.func46 rfl rfl rfl fun w7 hL8 => ?_) gn
  have hp9 : List.Perm ([] : List Ent) (([] : List Ent) ++ ([] : List Ent)) := perm_of_idx [] [] rfl rfl (by kernel_rfl)
  refine Calls.mono (choose_row_calls w7 (Fl ([] : List Snap)) x1 x6 A2 n3 c4 (Rw.mono h5 (hL8.toSt hp9 (me 1 rfl))) (hL8.hFl (Sl := ([] : List Snap)) hp9 (sels [] rfl)) (hL8.into hp9 (Fl ([] : List Snap))) r10 hv11) ?_
  rintro _ w17 ⟨A12, n13, c14, rfl, hM18, h15⟩
  have hL19 := hL8.call hp9 hM18
  refine ⟨_, _, _, rfl, hL19, ?_⟩
  refine wl_v 3 rfl (v_lenQ un_45 rfl (Ow.weak hL8.env.size h15).hq) gn rfl ?_
  refine wl_v 4 rfl (v_move rfl) gn rfl ?_
  refine w_end 5 rfl ?_
  refine g_block (c := choose_Pair_c8) rfl ?_
  refine g_loop (c := choose_Pair_c9) rfl ?_
  have key1 : ∀ s, Rounds (fun (s : (List Int) × Int) o => choose_Pair_b1 r10 x1 x6 s.1 s.2 o) s r → (fun (s : (List Int) × Int) => ∀ (A55 : Option Addr) (n56 : Nat) (c57 : Nat) (h58 : Ow w.heap.size A55 n56 c57 s.1), G (choose_Pair_C w F r) [.code choose_Pair_c10, .inLoop choose_Pair_c10, .inBlock 0, .code choose_Pair_c6] [(0, .slice A2 n3 c4), (1, .int .i64 x6), (5, .slice A55 n56 c57), (12, .slice A12 n13 c14), (13, .int .i64 (r10.length : Int)), (14, .int .i64 s.2)] [.own (.slice A55 n56 c57) 3 1 n56 (s.1.flatMap (eI .i64)), .own (.slice A12 n13 c14) 3 1 n13 (r10.flatMap (eI .i64))] [Sm w.heap.size F w [], St w []]) s := by
    intro s hs
    refine Rounds.ind (mot := (fun (s : (List Int) × Int) => ∀ (A55 : Option Addr) (n56 : Nat) (c57 : Nat) (h58 : Ow w.heap.size A55 n56 c57 s.1), G (choose_Pair_C w F r) [.code choose_Pair_c10, .inLoop choose_Pair_c10, .inBlock 0, .code choose_Pair_c6] [(0, .slice A2 n3 c4), (1, .int .i64 x6), (5, .slice A55 n56 c57), (12, .slice A12 n13 c14), (13, .int .i64 (r10.length : Int)), (14, .int .i64 s.2)] [.own (.slice A55 n56 c57) 3 1 n56 (s.1.flatMap (eI .i64)), .own (.slice A12 n13 c14) 3 1 n13 (r10.flatMap (eI .i64))] [Sm w.heap.size F w [], St w []])) ?_ hs
    clear hs s
    intro s o1 h hO1
    obtain ⟨x54, x59⟩ := s
    show ∀ (A55 : Option Addr) (n56 : Nat) (c57 : Nat) (h58 : Ow w.heap.size A55 n56 c57 x54), G (choose_Pair_C w F r) [.code choose_Pair_c10, .inLoop choose_Pair_c10, .inBlock 0, .code choose_Pair_c6] [(0, .slice A2 n3 c4), (1, .int .i64 x6), (5, .slice A55 n56 c57), (12, .slice A12 n13 c14), (13, .int .i64 (r10.length : Int)), (14, .int .i64 x59)] [.own (.slice A55 n56 c57) 3 1 n56 (x54.flatMap (eI .i64)), .own (.slice A12 n13 c14) 3 1 n13 (r10.flatMap (eI .i64))] [Sm w.heap.size F w [], St w []]
    intro A55 n56 c57 h58
    have h : choose_Pair_b1 r10 x1 x6 x54 x59 o1 := h
    unfold choose_Pair_b1 at h
    refine g_seq (c := choose_Pair_c10) rfl ?_
    refine g_region (c := choose_Pair_c11) rfl rfl ?_
    refine wl_v 0 rfl (v_bin rfl rfl rfl) gn rfl ?_
    refine w_end 1 rfl ?_
    refine g_seq (c := choose_Pair_c12) rfl ?_
    by_cases hp176 : x59 < (r10.length : Int)
    · have h := if_pos' hp176 h
      refine g_true (c := choose_Pair_c13) rfl _ rfl ((decide_eq_true hp176)) ?_
      refine g_skip (c := choose_Pair_c15) rfl ?_
      refine g_seq (c := choose_Pair_c14) rfl ?_
      refine g_block (c := choose_Pair_c17) rfl ?_
      refine g_seq (c := choose_Pair_c19) rfl ?_
      refine g_region (c := choose_Pair_c20) rfl rfl ?_
      obtain ⟨hb177, h⟩ := h
      refine wl_v 0 rfl (v_idxO slE_45 rfl rfl (Ow.weak hL8.env.size h15) hb177) gn rfl ?_
      refine wl_v 1 rfl (v_ldO1 (.int .i64 (ix r10 x59)) 1 ld_3 rfl rfl (fm_get0 (hlI .i64) hb177 rfl)) gn rfl ?_
      refine wl_v 2 rfl (v_assign rfl) gn rfl ?_
      refine w_end 3 rfl ?_
      refine g_seq (c := choose_Pair_c21) rfl ?_
      refine g_region (c := choose_Pair_c22) rfl rfl ?_
      refine wl_v 0 rfl (v_move rfl) gn rfl ?_
      refine wl_v 1 rfl (v_move rfl) gn rfl ?_
      obtain ⟨hb178, h⟩ := h
      have hr179 := Rw.readF (s := St w []) (hl := hl_api_Node) (h1 := h1_api_Node) h5 hb178
      refine wl_v 2 rfl (v_idxR (s := St w []) slE_22 rfl rfl h5 hb178) gn rfl ?_
      refine wl_v 3 rfl (v_ldA (St w []) ld_39 rfl hr179 rfl (me 1 rfl)) gn rfl ?_
      refine wl_s 4 rfl (s_alloc [.string (⟨#[]⟩ : ByteArray), .bool false, .string (⟨#[]⟩ : ByteArray), .int .i64 0, .int .i64 0, .int .i64 0, .int .i64 0] zr_39 rfl fun gb180 => ?_) gn
      refine wl_s 5 rfl (s_stB (vs := [.string ((ix x1 (ix r10 x59)).name), .bool ((ix x1 (ix r10 x59)).named), .string ((ix x1 (ix r10 x59)).field), .int .i64 ((ix x1 (ix r10 x59)).from_), .int .i64 ((ix x1 (ix r10 x59)).to), .int .i64 ((ix x1 (ix r10 x59)).kids), .int .i64 ((ix x1 (ix r10 x59)).leaf)]) (cs' := [.string ((ix x1 (ix r10 x59)).name), .bool ((ix x1 (ix r10 x59)).named), .string ((ix x1 (ix r10 x59)).field), .int .i64 ((ix x1 (ix r10 x59)).from_), .int .i64 ((ix x1 (ix r10 x59)).to), .int .i64 ((ix x1 (ix r10 x59)).kids), .int .i64 ((ix x1 (ix r10 x59)).leaf)]) (M' := [.box gb180 39 [.string ((ix x1 (ix r10 x59)).name), .bool ((ix x1 (ix r10 x59)).named), .string ((ix x1 (ix r10 x59)).field), .int .i64 ((ix x1 (ix r10 x59)).from_), .int .i64 ((ix x1 (ix r10 x59)).to), .int .i64 ((ix x1 (ix r10 x59)).kids), .int .i64 ((ix x1 (ix r10 x59)).leaf)], .own (.slice A55 n56 c57) 3 1 n56 (x54.flatMap (eI .i64)), .own (.slice A12 n13 c14) 3 1 n13 (r10.flatMap (eI .i64))]) 0 sz_39 rfl rfl rfl rfl rfl rfl rfl rfl rfl ?_) gn
      refine w_end 6 rfl ?_
      refine g_seq (c := choose_Pair_c23) rfl ?_
      refine g_seq (c := choose_Pair_c24) rfl ?_
      refine g_region (c := choose_Pair_c26) rfl rfl ?_
      refine wl_v 0 rfl (v_fldB fo_39_1 rfl) gn rfl ?_
      refine wl_v 1 rfl (v_ldB1 0 ld_4 rfl rfl rfl) gn rfl ?_
      refine w_end 2 rfl ?_
      by_cases hp182 : ((ix x1 (ix r10 x59)).named) = true
      · have h := if_pos' hp182 h
        refine g_true (c := choose_Pair_c27) rfl _ rfl (hp182) ?_
        refine g_exit (c := choose_Pair_c28) [.code choose_Pair_c18, .inLoop choose_Pair_c10, .inBlock 0, .code choose_Pair_c6] rfl rfl ?_
        refine g_region (c := choose_Pair_c18) rfl rfl ?_
        refine wl_v 0 rfl (v_bin rfl rfl rfl) gn rfl ?_
        refine wl_v 1 rfl (v_move rfl) gn rfl ?_
        refine w_end 2 rfl ?_
        refine g_inLoop ?_
        have ih := Out.inl hO1 h
        exact g_go [0, 1] (ih A55 n56 c57 h58) ⟨rfl, rfl, rfl, rfl, rfl, rfl, trivial⟩ (.cons _ (.cons_cons _ (.cons_cons _ (.slnil)))) rfl
      · have h := if_neg' hp182 h
        refine g_false (c := choose_Pair_c27) rfl _ rfl ((bf hp182)) ?_
        refine g_skip (c := choose_Pair_c29) rfl ?_
        refine g_seq (c := choose_Pair_c25) rfl ?_
        refine g_region (c := choose_Pair_c30) rfl rfl ?_
        refine wl_v 0 rfl (v_fldB fo_39_0 rfl) gn rfl ?_
        refine wl_v 1 rfl (v_ldB1 0 ld_9 rfl rfl rfl) gn rfl ?_
        refine w_end 2 rfl ?_
        refine g_block (c := choose_Pair_c31) rfl ?_
        refine g_seq (c := choose_Pair_c32) rfl ?_
        refine g_seq (c := choose_Pair_c33) rfl ?_
        refine g_region (c := choose_Pair_c35) rfl rfl ?_
        refine wl_v 0 rfl (v_eqS rfl rfl) gn rfl ?_
        refine wl_v 1 rfl (v_assign rfl) gn rfl ?_
        refine w_end 2 rfl ?_
        have j2 : ∀ (x186 : Bool) (h : choose_Pair_j2 x54 r10 x59 x1 x6 x186 o1) , G (choose_Pair_C w F r) [.code choose_Pair_c34, .inBlock 2, .inBlock 1, .code choose_Pair_c18, .inLoop choose_Pair_c10, .inBlock 0, .code choose_Pair_c6] [(0, .slice A2 n3 c4), (1, .int .i64 x6), (5, .slice A55 n56 c57), (7, .int .i64 (ix r10 x59)), (8, .pointer (some ⟨gb180, 0, none⟩)), (12, .slice A12 n13 c14), (13, .int .i64 (r10.length : Int)), (14, .int .i64 x59), (25, .string ((ix x1 (ix r10 x59)).name)), (26, .bool x186)] [.box gb180 39 [.string ((ix x1 (ix r10 x59)).name), .bool ((ix x1 (ix r10 x59)).named), .string ((ix x1 (ix r10 x59)).field), .int .i64 ((ix x1 (ix r10 x59)).from_), .int .i64 ((ix x1 (ix r10 x59)).to), .int .i64 ((ix x1 (ix r10 x59)).kids), .int .i64 ((ix x1 (ix r10 x59)).leaf)], .own (.slice A55 n56 c57) 3 1 n56 (x54.flatMap (eI .i64)), .own (.slice A12 n13 c14) 3 1 n13 (r10.flatMap (eI .i64))] [Sm w.heap.size F w [], St w []] := by
          intro x186 h
          unfold choose_Pair_j2 at h
          by_cases hp187 : x186 = true
          · have h := if_pos' hp187 h
            refine g_true (c := choose_Pair_c34) rfl _ rfl (hp187) ?_
            refine g_region (c := choose_Pair_c43) rfl rfl ?_
            refine wl_v 0 rfl (v_move rfl) gn rfl ?_
            refine wl_v 1 rfl (v_move rfl) gn rfl ?_
            refine wl_s 2 rfl (s_litO (xs := ([ix r10 x59] : List Int)) [.int .i64 (ix r10 x59)] bs_45_1 rfl (by kernel_rfl) rfl rfl rfl rfl fun gb189 h190 => ?_) gn
            obtain ⟨x194, hv195, h⟩ := h
            obtain ⟨hb196, h⟩ := h
            refine wl_s 3 rfl (s_app (zs := x194) (cells' := x194.flatMap (eI .i64)) 2 ap_45 rfl rfl rfl h58 (Nat.le_refl _) (Src.ownF (hl := (hlI .i64)) (h1 := (hone_int .i64)) 0 rfl h190) (by rw [hv195, List.flatMap_append] <;> rfl) (app_len hv195 h190.hq) hb196 rfl rfl fun A191 c192 h193 => ?_) gn
            refine wl_v 4 rfl (v_assign rfl) gn rfl ?_
            refine w_end 5 rfl ?_
            refine g_inBlock ?_
            refine g_inBlock ?_
            refine g_region (c := choose_Pair_c18) rfl rfl ?_
            refine wl_v 0 rfl (v_bin rfl rfl rfl) gn rfl ?_
            refine wl_v 1 rfl (v_move rfl) gn rfl ?_
            refine w_end 2 rfl ?_
            refine g_inLoop ?_
            have ih := Out.inl hO1 h
            exact g_go [0, 1] (ih A191 (n56 + 1) c192 h193) ⟨rfl, rfl, rfl, rfl, rfl, rfl, trivial⟩ (.cons _ (.cons _ (.cons_cons _ (.cons_cons _ (.slnil))))) rfl
          · have h := if_neg' hp187 h
            refine g_false (c := choose_Pair_c34) rfl _ rfl ((bf hp187)) ?_
            refine g_seq (c := choose_Pair_c44) rfl ?_
            refine g_seq (c := choose_Pair_c45) rfl ?_
            refine g_region (c := choose_Pair_c47) rfl rfl ?_
            refine wl_v 0 rfl (v_eqS rfl rfl) gn rfl ?_
            refine wl_v 1 rfl (v_assign rfl) gn rfl ?_
            refine w_end 2 rfl ?_
            have j3 : ∀ (x200 : Bool) (h : choose_Pair_j3 x54 x59 x6 r10 x1 x200 o1) , G (choose_Pair_C w F r) [.code choose_Pair_c46, .inBlock 2, .inBlock 1, .code choose_Pair_c18, .inLoop choose_Pair_c10, .inBlock 0, .code choose_Pair_c6] [(0, .slice A2 n3 c4), (1, .int .i64 x6), (5, .slice A55 n56 c57), (7, .int .i64 (ix r10 x59)), (8, .pointer (some ⟨gb180, 0, none⟩)), (12, .slice A12 n13 c14), (13, .int .i64 (r10.length : Int)), (14, .int .i64 x59), (34, .bool x200)] [.box gb180 39 [.string ((ix x1 (ix r10 x59)).name), .bool ((ix x1 (ix r10 x59)).named), .string ((ix x1 (ix r10 x59)).field), .int .i64 ((ix x1 (ix r10 x59)).from_), .int .i64 ((ix x1 (ix r10 x59)).to), .int .i64 ((ix x1 (ix r10 x59)).kids), .int .i64 ((ix x1 (ix r10 x59)).leaf)], .own (.slice A55 n56 c57) 3 1 n56 (x54.flatMap (eI .i64)), .own (.slice A12 n13 c14) 3 1 n13 (r10.flatMap (eI .i64))] [Sm w.heap.size F w [], St w []] := by
              intro x200 h
              unfold choose_Pair_j3 at h
              by_cases hp201 : x200 = true
              · have h := if_pos' hp201 h
                refine g_true (c := choose_Pair_c46) rfl _ rfl (hp201) ?_
                refine g_seq (c := choose_Pair_c55) rfl ?_
                refine g_region (c := choose_Pair_c57) rfl rfl ?_
                refine wl_v 0 rfl (v_move rfl) gn rfl ?_
                refine wl_v 1 rfl (v_lenQ un_45 rfl h58.hq) gn rfl ?_
                refine wl_v 2 rfl (v_bin rfl rfl rfl) gn rfl ?_
                refine wl_v 3 rfl (v_assign rfl) gn rfl ?_
                refine w_end 4 rfl ?_
                refine g_seq (c := choose_Pair_c58) rfl ?_
                refine g_seq (c := choose_Pair_c59) rfl ?_
                have j4 : ∀ (x241 : Bool) (h : choose_Pair_j4 x54 x59 x6 r10 x241 o1) , G (choose_Pair_C w F r) [.code choose_Pair_c62, .code choose_Pair_c60, .inBlock 2, .inBlock 1, .code choose_Pair_c18, .inLoop choose_Pair_c10, .inBlock 0, .code choose_Pair_c6] [(0, .slice A2 n3 c4), (1, .int .i64 x6), (5, .slice A55 n56 c57), (7, .int .i64 (ix r10 x59)), (9, .int .i64 (w64 ((x54.length : Int) - 1))), (12, .slice A12 n13 c14), (13, .int .i64 (r10.length : Int)), (14, .int .i64 x59), (56, .bool x241)] [.own (.slice A55 n56 c57) 3 1 n56 (x54.flatMap (eI .i64)), .own (.slice A12 n13 c14) 3 1 n13 (r10.flatMap (eI .i64))] [Sm w.heap.size F w [], St w []] := by
                  intro x241 h
                  unfold choose_Pair_j4 at h
                  by_cases hp242 : x241 = true
                  · have h := if_pos' hp242 h
                    refine g_true (c := choose_Pair_c62) rfl _ rfl (hp242) ?_
                    refine g_exit (c := choose_Pair_c63) [.code choose_Pair_c18, .inLoop choose_Pair_c10, .inBlock 0, .code choose_Pair_c6] rfl rfl ?_
                    refine g_region (c := choose_Pair_c18) rfl rfl ?_
                    refine wl_v 0 rfl (v_bin rfl rfl rfl) gn rfl ?_
                    refine wl_v 1 rfl (v_move rfl) gn rfl ?_
                    refine w_end 2 rfl ?_
                    refine g_inLoop ?_
                    have ih := Out.inl hO1 h
                    exact g_go [0, 1] (ih A55 n56 c57 h58) ⟨rfl, rfl, rfl, rfl, rfl, rfl, trivial⟩ (.cons_cons _ (.cons_cons _ (.slnil))) rfl
                  · have h := if_neg' hp242 h
                    refine g_false (c := choose_Pair_c62) rfl _ rfl ((bf hp242)) ?_
                    refine g_skip (c := choose_Pair_c64) rfl ?_
                    refine g_seq (c := choose_Pair_c60) rfl ?_
                    refine g_seq (c := choose_Pair_c67) rfl ?_
                    refine g_region (c := choose_Pair_c69) rfl rfl ?_
                    refine wl_v 0 rfl (v_move rfl) gn rfl ?_
                    refine w_end 1 rfl ?_
                    refine g_block (c := choose_Pair_c70) rfl ?_
                    refine g_seq (c := choose_Pair_c71) rfl ?_
                    refine g_region (c := choose_Pair_c72) rfl rfl ?_
                    refine wl_v 0 rfl (v_move rfl) gn rfl ?_
                    refine wl_v 1 rfl (v_bin rfl rfl rfl) gn rfl ?_
                    refine wl_v 2 rfl (v_assign rfl) gn rfl ?_
                    refine w_end 3 rfl ?_
                    by_cases hp243 : x6 = ix r10 x59
                    · have h := if_pos' hp243 h
                      refine g_true (c := choose_Pair_c73) rfl _ rfl ((eqi hp243)) ?_
                      refine g_seq (c := choose_Pair_c74) rfl ?_
                      refine g_region (c := choose_Pair_c76) rfl rfl ?_
                      refine wl_v 0 rfl (v_move rfl) gn rfl ?_
                      refine wl_v 1 rfl (v_move rfl) gn rfl ?_
                      obtain ⟨hb244, h⟩ := h
                      refine wl_v 2 rfl (v_idxO slE_45 rfl rfl h58 hb244) gn rfl ?_
                      refine wl_v 3 rfl (v_ldO1 (.int .i64 (ix x54 (w64 ((x54.length : Int) - 1)))) 0 ld_3 rfl rfl (fm_get0 (hlI .i64) hb244 rfl)) gn rfl ?_
                      refine wl_v 4 rfl (v_assign rfl) gn rfl ?_
                      refine w_end 5 rfl ?_
                      have h := Out.inr hO1 h
                      refine g_retR (c := choose_Pair_c77) [.int .i64 (ix x54 (w64 ((x54.length : Int) - 1)))] rfl Try.func29 rfl (.tmp rfl (.nil)) fun wr hLr => ?_
                      have hMr : B.Loc w wr [] [St w []] := hLr.pick (rest := [.own (.slice A55 n56 c57) 3 1 n56 (x54.flatMap (eI .i64)), .own (.slice A12 n13 c14) 3 1 n13 (r10.flatMap (eI .i64))]) (perm_of_idx [] [0, 1] rfl rfl (by kernel_rfl)) (sels [1] rfl)
                      have hMi : ∀ e ∈ ([] : List Ent), e ∈ ([.own (.slice A55 n56 c57) 3 1 n56 (x54.flatMap (eI .i64)), .own (.slice A12 n13 c14) 3 1 n13 (r10.flatMap (eI .i64))] : List Ent) := sels [] rfl
                      show choose_Pair_R w F  r (.returned (packV [.int .i64 (ix x54 (w64 ((x54.length : Int) - 1)))])) wr
                      rw [h]
                      exact ⟨rfl, hMr⟩
                    · have h := if_neg' hp243 h
                      refine g_false (c := choose_Pair_c73) rfl _ rfl ((nei hp243)) ?_
                      refine g_seq (c := choose_Pair_c75) rfl ?_
                      refine g_region (c := choose_Pair_c78) rfl rfl ?_
                      refine wl_v 0 rfl (v_move rfl) gn rfl ?_
                      refine wl_v 1 rfl (v_move rfl) gn rfl ?_
                      obtain ⟨hb245, h⟩ := h
                      refine wl_v 2 rfl (v_idxO slE_45 rfl rfl h58 hb245) gn rfl ?_
                      refine wl_v 3 rfl (v_ldO1 (.int .i64 (ix x54 (w64 ((x54.length : Int) - 1)))) 0 ld_3 rfl rfl (fm_get0 (hlI .i64) hb245 rfl)) gn rfl ?_
                      refine wl_v 4 rfl (v_bin rfl rfl rfl) gn rfl ?_
                      refine wl_v 5 rfl (v_assign rfl) gn rfl ?_
                      refine w_end 6 rfl ?_
                      by_cases hp246 : x6 = ix x54 (w64 ((x54.length : Int) - 1))
                      · have h := if_pos' hp246 h
                        refine g_true (c := choose_Pair_c79) rfl _ rfl ((eqi hp246)) ?_
                        refine g_seq (c := choose_Pair_c80) rfl ?_
                        refine g_region (c := choose_Pair_c82) rfl rfl ?_
                        refine wl_v 0 rfl (v_move rfl) gn rfl ?_
                        refine wl_v 1 rfl (v_assign rfl) gn rfl ?_
                        refine w_end 2 rfl ?_
                        have h := Out.inr hO1 h
                        refine g_retR (c := choose_Pair_c83) [.int .i64 (ix r10 x59)] rfl Try.func29 rfl (.tmp rfl (.nil)) fun wr hLr => ?_
                        have hMr : B.Loc w wr [] [St w []] := hLr.pick (rest := [.own (.slice A55 n56 c57) 3 1 n56 (x54.flatMap (eI .i64)), .own (.slice A12 n13 c14) 3 1 n13 (r10.flatMap (eI .i64))]) (perm_of_idx [] [0, 1] rfl rfl (by kernel_rfl)) (sels [1] rfl)
                        have hMi : ∀ e ∈ ([] : List Ent), e ∈ ([.own (.slice A55 n56 c57) 3 1 n56 (x54.flatMap (eI .i64)), .own (.slice A12 n13 c14) 3 1 n13 (r10.flatMap (eI .i64))] : List Ent) := sels [] rfl
                        show choose_Pair_R w F  r (.returned (packV [.int .i64 (ix r10 x59)])) wr
                        rw [h]
                        exact ⟨rfl, hMr⟩
                      · have h := if_neg' hp246 h
                        refine g_false (c := choose_Pair_c79) rfl _ rfl ((nei hp246)) ?_
                        refine g_skip (c := choose_Pair_c81) rfl ?_
                        refine g_inBlock ?_
                        refine g_region (c := choose_Pair_c68) rfl rfl ?_
                        refine wl_v 0 rfl (v_move rfl) gn rfl ?_
                        refine wl_v 1 rfl (v_move rfl) gn rfl ?_
                        obtain ⟨hb247, h⟩ := h
                        obtain ⟨x249, hv250, h⟩ := h
                        have hle248 : (w64 ((x54.length : Int) - 1) : Int).toNat ≤ n56 := by have q := hb247; have q1 := h58.hq; omega
                        have h251 : Ow w.heap.size A55 (w64 ((x54.length : Int) - 1) : Int).toNat c57 x249 := Ow.w (Ow.cut h58 hle248) (by rw [hv250])
                        refine wl_v 2 rfl (v_cutHi (i := w64 ((x54.length : Int) - 1)) slE_45 rfl rfl (by have q := hb247; have q1 := h58.hq; have q2 := h58.hn; omega) h58.hn rfl) gn rfl ?_
                        refine wl_v 3 rfl (v_assign rfl) gn rfl ?_
                        refine w_end 4 rfl ?_
                        refine g_inBlock ?_
                        refine g_inBlock ?_
                        refine g_region (c := choose_Pair_c18) rfl rfl ?_
                        refine wl_v 0 rfl (v_bin rfl rfl rfl) gn rfl ?_
                        refine wl_v 1 rfl (v_move rfl) gn rfl ?_
                        refine w_end 2 rfl ?_
                        refine g_inLoop ?_
                        have h252 : Ow w.heap.size A55 ((w64 ((x54.length : Int) - 1) : Int).toNat) c57 x249 := (Ow.w (Ow.cut h58 hle248) (by rw [hv250]))
                        refine g_short (j := 0) (m := ((w64 ((x54.length : Int) - 1) : Int).toNat)) (cells' := x249.flatMap (eI .i64)) rfl hle248 (by rw [fm_take (hlI .i64), hv250]) ?_
                        have ih := Out.inl hO1 h
                        exact g_go [0, 1] (ih A55 ((w64 ((x54.length : Int) - 1) : Int).toNat) c57 h252) ⟨rfl, rfl, rfl, rfl, rfl, rfl, trivial⟩ (.cons_cons _ (.cons_cons _ (.slnil))) rfl
                by_cases hp253 : w64 ((x54.length : Int) - 1) < 0
                · have h := if_pos' hp253 h
                  have hns : Region.noSelect (Code.ops choose_Pair_c61) = true := by kernel_rfl
                  refine g_drawF (c := choose_Pair_c61) [.box gb180 39 [.string ((ix x1 (ix r10 x59)).name), .bool ((ix x1 (ix r10 x59)).named), .string ((ix x1 (ix r10 x59)).field), .int .i64 ((ix x1 (ix r10 x59)).from_), .int .i64 ((ix x1 (ix r10 x59)).to), .int .i64 ((ix x1 (ix r10 x59)).kids), .int .i64 ((ix x1 (ix r10 x59)).leaf)], .own (.slice A55 n56 c57) 3 1 n56 (x54.flatMap (eI .i64)), .own (.slice A12 n13 c14) 3 1 n13 (r10.flatMap (eI .i64))] [Sm w.heap.size F w [], St w []] [] 16 rfl rfl mix rfl (.cons_cons _ (.cons_cons _ (.cons_cons _ (.slnil)))) (sels [0, 1] rfl) ?_
                  refine wf_v 0 rfl (v_move rfl) gn rfl hns (by kernel_rfl) (by kernel_rfl) rfl rfl ?_
                  refine wf_v 1 rfl (v_bin rfl rfl rfl) gn rfl hns (by kernel_rfl) (by kernel_rfl) rfl rfl ?_
                  refine wf_v 2 rfl (v_move rfl) gn rfl hns (by kernel_rfl) (by kernel_rfl) rfl rfl ?_
                  refine wf_bool 43 rfl ((decide_eq_true hp253)) ?_
                  refine wf_pass 3 rfl (ps 43 rfl rfl rfl) hns (by kernel_rfl) (by kernel_rfl) rfl rfl ?_
                  refine wf_pass 4 rfl (ps 43 rfl rfl rfl) hns (by kernel_rfl) (by kernel_rfl) rfl rfl ?_
                  refine wf_pass 5 rfl (ps 43 rfl rfl rfl) hns (by kernel_rfl) (by kernel_rfl) rfl rfl ?_
                  refine wf_pass 6 rfl (ps 43 rfl rfl rfl) hns (by kernel_rfl) (by kernel_rfl) rfl rfl ?_
                  refine wf_pass 7 rfl (ps 43 rfl rfl rfl) hns (by kernel_rfl) (by kernel_rfl) rfl rfl ?_
                  refine wf_pass 8 rfl (ps 43 rfl rfl rfl) hns (by kernel_rfl) (by kernel_rfl) rfl rfl ?_
                  refine wf_pass 9 rfl (ps 43 rfl rfl rfl) hns (by kernel_rfl) (by kernel_rfl) rfl rfl ?_
                  refine wf_pass 10 rfl (ps 43 rfl rfl rfl) hns (by kernel_rfl) (by kernel_rfl) rfl rfl ?_
                  refine wf_pass 11 rfl (ps 43 rfl rfl rfl) hns (by kernel_rfl) (by kernel_rfl) rfl rfl ?_
                  refine wf_pass 12 rfl (ps 43 rfl rfl rfl) hns (by kernel_rfl) (by kernel_rfl) rfl rfl ?_
                  refine wf_pass 13 rfl (ps 43 rfl rfl rfl) hns (by kernel_rfl) (by kernel_rfl) rfl rfl ?_
                  refine wf_pass 14 rfl (ps 43 rfl rfl rfl) hns (by kernel_rfl) (by kernel_rfl) rfl rfl ?_
                  refine wf_v 15 rfl (v_pick (b := true) rfl rfl) gn rfl hns (by kernel_rfl) (by kernel_rfl) rfl rfl ?_
                  refine wf_end (by kernel_rfl) ?_
                  exact g_go [0, 1] (j4 true h) ⟨rfl, rfl, rfl, rfl, rfl, rfl, rfl, rfl, rfl, trivial⟩ (.cons _ (.cons_cons _ (.cons_cons _ (.slnil)))) rfl
                · have h := if_neg' hp253 h
                  obtain ⟨hb254, h⟩ := h
                  obtain ⟨hb255, h⟩ := h
                  obtain ⟨r260, hv261, h⟩ := h
                  have hns : Region.noSelect (Code.ops choose_Pair_c61) = true := by kernel_rfl
                  refine g_drawF (c := choose_Pair_c61) [.box gb180 39 [.string ((ix x1 (ix r10 x59)).name), .bool ((ix x1 (ix r10 x59)).named), .string ((ix x1 (ix r10 x59)).field), .int .i64 ((ix x1 (ix r10 x59)).from_), .int .i64 ((ix x1 (ix r10 x59)).to), .int .i64 ((ix x1 (ix r10 x59)).kids), .int .i64 ((ix x1 (ix r10 x59)).leaf)], .own (.slice A55 n56 c57) 3 1 n56 (x54.flatMap (eI .i64)), .own (.slice A12 n13 c14) 3 1 n13 (r10.flatMap (eI .i64))] [Sm w.heap.size F w [], St w []] [] 16 rfl rfl mix rfl (.cons_cons _ (.cons_cons _ (.cons_cons _ (.slnil)))) (sels [0, 1] rfl) ?_
                  refine wf_v 0 rfl (v_move rfl) gn rfl hns (by kernel_rfl) (by kernel_rfl) rfl rfl ?_
                  refine wf_v 1 rfl (v_bin rfl rfl rfl) gn rfl hns (by kernel_rfl) (by kernel_rfl) rfl rfl ?_
                  refine wf_v 2 rfl (v_move rfl) gn rfl hns (by kernel_rfl) (by kernel_rfl) rfl rfl ?_
                  refine wf_bool 43 rfl ((decide_eq_false hp253)) ?_
                  refine wf_v 3 rfl (v_move rfl) (gy 43 rfl rfl) rfl hns (by kernel_rfl) (by kernel_rfl) rfl rfl ?_
                  refine wf_v 4 rfl (v_move rfl) (gy 43 rfl rfl) rfl hns (by kernel_rfl) (by kernel_rfl) rfl rfl ?_
                  refine wf_v 5 rfl (v_move rfl) (gy 43 rfl rfl) rfl hns (by kernel_rfl) (by kernel_rfl) rfl rfl ?_
                  refine wf_v 6 rfl (v_idxO slE_45 rfl rfl h58 hb254) (gy 43 rfl rfl) rfl hns (by kernel_rfl) (by kernel_rfl) rfl rfl ?_
                  refine wf_v 7 rfl (v_ldO1 (.int .i64 (ix x54 (w64 ((x54.length : Int) - 1)))) 1 ld_3 rfl rfl (fm_get0 (hlI .i64) hb254 rfl)) (gy 43 rfl rfl) rfl hns (by kernel_rfl) (by kernel_rfl) rfl rfl ?_
                  have hr278 := Rw.readF (s := St w []) (hl := hl_api_Node) (h1 := h1_api_Node) h5 hb255
                  refine wf_v 8 rfl (v_idxR (s := St w []) slE_22 rfl rfl h5 hb255) (gy 43 rfl rfl) rfl hns (by kernel_rfl) (by kernel_rfl) rfl rfl ?_
                  refine wf_v 9 rfl (v_fldA fo_39_0 rfl) (gy 43 rfl rfl) rfl hns (by kernel_rfl) (by kernel_rfl) rfl rfl ?_
                  refine wf_v 10 rfl (v_ldA1 (kk := (ix x54 (w64 ((x54.length : Int) - 1)) : Int).toNat * 7) (j := 0) (St w []) ld_9 rfl hr278 rfl (me 1 rfl)) (gy 43 rfl rfl) rfl hns (by kernel_rfl) (by kernel_rfl) rfl rfl ?_
                  refine wf_v 11 rfl (v_fldB fo_39_0 rfl) (gy 43 rfl rfl) rfl hns (by kernel_rfl) (by kernel_rfl) rfl rfl ?_
                  refine wf_v 12 rfl (v_ldB1 0 ld_9 rfl rfl rfl) (gy 43 rfl rfl) rfl hns (by kernel_rfl) (by kernel_rfl) rfl rfl ?_
                  refine wf_all [13] (by kernel_rfl) rfl ⟨on_s 13 rfl (gy 43 rfl rfl) rfl (s_call [.string ((ix x1 (ix r10 x59)).name)] rfl Try.func47 rfl rfl rfl fun w285 hL286 => ?_), trivial⟩
                  have hp287 : List.Perm ([.box gb180 39 [.string ((ix x1 (ix r10 x59)).name), .bool ((ix x1 (ix r10 x59)).named), .string ((ix x1 (ix r10 x59)).field), .int .i64 ((ix x1 (ix r10 x59)).from_), .int .i64 ((ix x1 (ix r10 x59)).to), .int .i64 ((ix x1 (ix r10 x59)).kids), .int .i64 ((ix x1 (ix r10 x59)).leaf)], .own (.slice A55 n56 c57) 3 1 n56 (x54.flatMap (eI .i64)), .own (.slice A12 n13 c14) 3 1 n13 (r10.flatMap (eI .i64))] : List Ent) (([] : List Ent) ++ ([.box gb180 39 [.string ((ix x1 (ix r10 x59)).name), .bool ((ix x1 (ix r10 x59)).named), .string ((ix x1 (ix r10 x59)).field), .int .i64 ((ix x1 (ix r10 x59)).from_), .int .i64 ((ix x1 (ix r10 x59)).to), .int .i64 ((ix x1 (ix r10 x59)).kids), .int .i64 ((ix x1 (ix r10 x59)).leaf)], .own (.slice A55 n56 c57) 3 1 n56 (x54.flatMap (eI .i64)), .own (.slice A12 n13 c14) 3 1 n13 (r10.flatMap (eI .i64))] : List Ent)) := perm_of_idx [] [0, 1, 2] rfl rfl (by kernel_rfl)
                  refine Calls.mono (choose_opens_calls w285 (Fl ([] : List Snap)) ((ix x1 (ix r10 x59)).name) (hL286.hFl (Sl := ([] : List Snap)) hp287 (sels [] rfl)) (hL286.into hp287 (Fl ([] : List Snap))) r260 hv261) ?_
                  rintro _ w288 ⟨rfl, hM289⟩
                  have hL290 := hL286.call hp287 hM289
                  refine ⟨_, _, _, rfl, hL290, ?_⟩
                  refine ⟨sels [0, 1, 2] rfl, sels [0, 1] rfl, ?_⟩
                  refine wf_v 14 rfl (v_neS rfl rfl) (gy 43 rfl rfl) rfl hns (by kernel_rfl) (by kernel_rfl) rfl rfl ?_
                  refine wf_v 15 rfl (v_pick (b := false) rfl rfl) gn rfl hns (by kernel_rfl) (by kernel_rfl) rfl rfl ?_
                  refine wf_end (by kernel_rfl) ?_
                  exact g_go [0, 1] (j4 (!(seq ((ix x1 (ix x54 (w64 ((x54.length : Int) - 1)))).name) r260)) h) ⟨rfl, rfl, rfl, rfl, rfl, rfl, rfl, rfl, rfl, trivial⟩ (.cons _ (.cons_cons _ (.cons_cons _ (.slnil)))) rfl
              · have h := if_neg' hp201 h
                refine g_false (c := choose_Pair_c46) rfl _ rfl ((bf hp201)) ?_
                refine g_skip (c := choose_Pair_c56) rfl ?_
                refine g_inBlock ?_
                refine g_inBlock ?_
                refine g_region (c := choose_Pair_c18) rfl rfl ?_
                refine wl_v 0 rfl (v_bin rfl rfl rfl) gn rfl ?_
                refine wl_v 1 rfl (v_move rfl) gn rfl ?_
                refine w_end 2 rfl ?_
                refine g_inLoop ?_
                have ih := Out.inl hO1 h
                exact g_go [0, 1] (ih A55 n56 c57 h58) ⟨rfl, rfl, rfl, rfl, rfl, rfl, trivial⟩ (.cons _ (.cons_cons _ (.cons_cons _ (.slnil)))) rfl
            by_cases hp197 : (ix x1 (ix r10 x59)).name = (⟨#[41]⟩ : ByteArray)
            · have h := if_pos' hp197 h
              refine g_true (c := choose_Pair_c48) rfl _ rfl ((seq_t hp197)) ?_
              refine g_skip (c := choose_Pair_c49) rfl ?_
              exact g_go [0, 1] (j3 (seq ((ix x1 (ix r10 x59)).name) (⟨#[41]⟩ : ByteArray)) h) ⟨rfl, rfl, rfl, rfl, rfl, rfl, rfl, rfl, rfl, trivial⟩ (.cons_cons _ (.cons_cons _ (.cons_cons _ (.slnil)))) rfl
            · have h := if_neg' hp197 h
              refine g_false (c := choose_Pair_c48) rfl _ rfl ((seq_f hp197)) ?_
              refine g_seq (c := choose_Pair_c50) rfl ?_
              refine g_region (c := choose_Pair_c51) rfl rfl ?_
              refine wl_v 0 rfl (v_eqS rfl rfl) gn rfl ?_
              refine wl_v 1 rfl (v_assign rfl) gn rfl ?_
              refine w_end 2 rfl ?_
              by_cases hp291 : (ix x1 (ix r10 x59)).name = (⟨#[93]⟩ : ByteArray)
              · have h := if_pos' hp291 h
                refine g_true (c := choose_Pair_c52) rfl _ rfl ((seq_t hp291)) ?_
                refine g_skip (c := choose_Pair_c53) rfl ?_
                exact g_go [0, 1] (j3 (seq ((ix x1 (ix r10 x59)).name) (⟨#[93]⟩ : ByteArray)) h) ⟨rfl, rfl, rfl, rfl, rfl, rfl, rfl, rfl, rfl, trivial⟩ (.cons_cons _ (.cons_cons _ (.cons_cons _ (.slnil)))) rfl
              · have h := if_neg' hp291 h
                refine g_false (c := choose_Pair_c52) rfl _ rfl ((seq_f hp291)) ?_
                refine g_region (c := choose_Pair_c54) rfl rfl ?_
                refine wl_v 0 rfl (v_eqS rfl rfl) gn rfl ?_
                refine wl_v 1 rfl (v_assign rfl) gn rfl ?_
                refine w_end 2 rfl ?_
                exact g_go [0, 1] (j3 (seq ((ix x1 (ix r10 x59)).name) (⟨#[125]⟩ : ByteArray)) h) ⟨rfl, rfl, rfl, rfl, rfl, rfl, rfl, rfl, rfl, trivial⟩ (.cons_cons _ (.cons_cons _ (.cons_cons _ (.slnil)))) rfl
        by_cases hp183 : (ix x1 (ix r10 x59)).name = (⟨#[40]⟩ : ByteArray)
        · have h := if_pos' hp183 h
          refine g_true (c := choose_Pair_c36) rfl _ rfl ((seq_t hp183)) ?_
          refine g_skip (c := choose_Pair_c37) rfl ?_
          exact g_go [0, 1] (j2 (seq ((ix x1 (ix r10 x59)).name) (⟨#[40]⟩ : ByteArray)) h) ⟨rfl, rfl, rfl, rfl, rfl, rfl, rfl, rfl, rfl, rfl, trivial⟩ (.cons_cons _ (.cons_cons _ (.cons_cons _ (.slnil)))) rfl
        · have h := if_neg' hp183 h
          refine g_false (c := choose_Pair_c36) rfl _ rfl ((seq_f hp183)) ?_
          refine g_seq (c := choose_Pair_c38) rfl ?_
          refine g_region (c := choose_Pair_c39) rfl rfl ?_
          refine wl_v 0 rfl (v_eqS rfl rfl) gn rfl ?_
          refine wl_v 1 rfl (v_assign rfl) gn rfl ?_
          refine w_end 2 rfl ?_
          by_cases hp292 : (ix x1 (ix r10 x59)).name = (⟨#[91]⟩ : ByteArray)
          · have h := if_pos' hp292 h
            refine g_true (c := choose_Pair_c40) rfl _ rfl ((seq_t hp292)) ?_
            refine g_skip (c := choose_Pair_c41) rfl ?_
            exact g_go [0, 1] (j2 (seq ((ix x1 (ix r10 x59)).name) (⟨#[91]⟩ : ByteArray)) h) ⟨rfl, rfl, rfl, rfl, rfl, rfl, rfl, rfl, rfl, rfl, trivial⟩ (.cons_cons _ (.cons_cons _ (.cons_cons _ (.slnil)))) rfl
          · have h := if_neg' hp292 h
            refine g_false (c := choose_Pair_c40) rfl _ rfl ((seq_f hp292)) ?_
            refine g_region (c := choose_Pair_c42) rfl rfl ?_
            refine wl_v 0 rfl (v_eqS rfl rfl) gn rfl ?_
            refine wl_v 1 rfl (v_assign rfl) gn rfl ?_
            refine w_end 2 rfl ?_
            exact g_go [0, 1] (j2 (seq ((ix x1 (ix r10 x59)).name) (⟨#[123]⟩ : ByteArray)) h) ⟨rfl, rfl, rfl, rfl, rfl, rfl, rfl, rfl, rfl, rfl, trivial⟩ (.cons_cons _ (.cons_cons _ (.cons_cons _ (.slnil)))) rfl
    · have h := if_neg' hp176 h
      refine g_false (c := choose_Pair_c13) rfl _ rfl ((decide_eq_false hp176)) ?_
      refine g_exit (c := choose_Pair_c16) [.code choose_Pair_c6] rfl rfl ?_
      refine g_seq (c := choose_Pair_c6) rfl ?_
      refine g_region (c := choose_Pair_c65) rfl rfl ?_
      refine wl_v 0 rfl (v_assign rfl) gn rfl ?_
      refine w_end 1 rfl ?_
      have h := Out.inr hO1 h
      refine g_retR (c := choose_Pair_c66) [.int .i64 (-1)] rfl Try.func29 rfl (.tmp rfl (.nil)) fun wr hLr => ?_
      have hMr : B.Loc w wr [] [St w []] := hLr.pick (rest := [.own (.slice A55 n56 c57) 3 1 n56 (x54.flatMap (eI .i64)), .own (.slice A12 n13 c14) 3 1 n13 (r10.flatMap (eI .i64))]) (perm_of_idx [] [0, 1] rfl rfl (by kernel_rfl)) (sels [1] rfl)
      have hMi : ∀ e ∈ ([] : List Ent), e ∈ ([.own (.slice A55 n56 c57) 3 1 n56 (x54.flatMap (eI .i64)), .own (.slice A12 n13 c14) 3 1 n13 (r10.flatMap (eI .i64))] : List Ent) := sels [] rfl
      show choose_Pair_R w F  r (.returned (packV [.int .i64 (-1)])) wr
      rw [h]
      exact ⟨rfl, hMr⟩
  refine g_nil 3 1 ?_
  exact g_go [0, 1] (key1 _ h none 0 0 (Ow.nil (z := w.heap.size))) ⟨rfl, rfl, rfl, rfl, rfl, rfl, trivial⟩ (.cons_cons _ (.cons_cons _ (.slnil))) rfl
noncomputable abbrev trellislaw32_started_c0 : Code := bodyOf Try.f25
noncomputable abbrev trellislaw32_started_c1 : Code := Code.fst trellislaw32_started_c0
noncomputable abbrev trellislaw32_started_c2 : Code := Code.snd trellislaw32_started_c0
noncomputable abbrev trellislaw32_started_c3 : Code := Code.fst trellislaw32_started_c2
noncomputable abbrev trellislaw32_started_c4 : Code := Code.snd trellislaw32_started_c2
noncomputable abbrev trellislaw32_started_c5 : Code := Code.fst trellislaw32_started_c4
noncomputable abbrev trellislaw32_started_c6 : Code := Code.snd trellislaw32_started_c4
noncomputable abbrev trellislaw32_started_c7 : Code := Code.fst trellislaw32_started_c6
noncomputable abbrev trellislaw32_started_c8 : Code := Code.snd trellislaw32_started_c6
noncomputable abbrev trellislaw32_started_c9 : Code := Code.fst trellislaw32_started_c7
noncomputable abbrev trellislaw32_started_c10 : Code := Code.snd trellislaw32_started_c7
noncomputable abbrev trellislaw32_started_c11 : Code := Code.fst trellislaw32_started_c10
noncomputable abbrev trellislaw32_started_c12 : Code := Code.snd trellislaw32_started_c10
noncomputable abbrev trellislaw32_started_c13 : Code := Code.fst trellislaw32_started_c11
noncomputable abbrev trellislaw32_started_c14 : Code := Code.snd trellislaw32_started_c11
noncomputable abbrev trellislaw32_started_c15 : Code := Code.fst trellislaw32_started_c8
noncomputable abbrev trellislaw32_started_c16 : Code := Code.snd trellislaw32_started_c8
abbrev trellislaw32_started_R (w : World) (F : Nat → Prop) (r : Bool) : Ending → World → Prop := fun e w' => e = .returned (.bool r) ∧ B.Loc w w' [] [St w []]
noncomputable abbrev trellislaw32_started_C (w : World) (F : Nat → Prop) (r : Bool) : Cx := ⟨Try.prog, 25, Try.f25, 45, trellislaw32_started_R w F  r, w⟩
theorem trellislaw32_started_calls (w : World) (F : Nat → Prop)  (hF : ∀ b, F b → b < w.heap.size ∧ ∀ o ∈ ([] : List (List Nat)), b ∉ o) (hL0 : B.Loc w w [] [Sm w.heap.size F w [], St w []]) (r : Bool) (h : trellislaw32_started  r) : Calls Try.prog 25 #[] w (trellislaw32_started_R w F  r) := by
  unfold trellislaw32_started at h
  refine calls_of_Loc (vs := []) 45 Try.func25 rfl Try.ntmps25 rfl hL0 ?_
  show G (trellislaw32_started_C w F r) _ _ _ _
  refine g_seq (c := trellislaw32_started_c0) rfl ?_
  refine g_region (c := trellislaw32_started_c1) rfl rfl ?_
  refine wl_v 0 rfl (v_assign rfl) gn rfl ?_
  refine w_end 1 rfl ?_
  refine g_seq (c := trellislaw32_started_c2) rfl ?_
  refine g_region (c := trellislaw32_started_c3) rfl rfl ?_
  refine wl_v 0 rfl (v_build #[.string (⟨#[115]⟩ : ByteArray), .bool true, .string (⟨#[]⟩ : ByteArray), .int .i64 0, .int .i64 3, .int .i64 3, .int .i64 (-1)] bd_39 rfl (by kernel_rfl)) gn rfl ?_
  refine wl_v 1 rfl (v_build #[.string (⟨#[40]⟩ : ByteArray), .bool false, .string (⟨#[]⟩ : ByteArray), .int .i64 0, .int .i64 1, .int .i64 0, .int .i64 0] bd_39 rfl (by kernel_rfl)) gn rfl ?_
  refine wl_v 2 rfl (v_build #[.string (⟨#[97]⟩ : ByteArray), .bool true, .string (⟨#[]⟩ : ByteArray), .int .i64 1, .int .i64 2, .int .i64 0, .int .i64 1] bd_39 rfl (by kernel_rfl)) gn rfl ?_
  refine wl_v 3 rfl (v_build #[.string (⟨#[41]⟩ : ByteArray), .bool false, .string (⟨#[]⟩ : ByteArray), .int .i64 2, .int .i64 3, .int .i64 0, .int .i64 2] bd_39 rfl (by kernel_rfl)) gn rfl ?_
  refine wl_s 4 rfl (s_litO (xs := ([(⟨(⟨#[115]⟩ : ByteArray), true, (⟨#[]⟩ : ByteArray), 0, 3, 3, -1⟩ : api_Node), (⟨(⟨#[40]⟩ : ByteArray), false, (⟨#[]⟩ : ByteArray), 0, 1, 0, 0⟩ : api_Node), (⟨(⟨#[97]⟩ : ByteArray), true, (⟨#[]⟩ : ByteArray), 1, 2, 0, 1⟩ : api_Node), (⟨(⟨#[41]⟩ : ByteArray), false, (⟨#[]⟩ : ByteArray), 2, 3, 0, 2⟩ : api_Node)] : List api_Node)) [.string (⟨#[115]⟩ : ByteArray), .bool true, .string (⟨#[]⟩ : ByteArray), .int .i64 0, .int .i64 3, .int .i64 3, .int .i64 (-1), .string (⟨#[40]⟩ : ByteArray), .bool false, .string (⟨#[]⟩ : ByteArray), .int .i64 0, .int .i64 1, .int .i64 0, .int .i64 0, .string (⟨#[97]⟩ : ByteArray), .bool true, .string (⟨#[]⟩ : ByteArray), .int .i64 1, .int .i64 2, .int .i64 0, .int .i64 1, .string (⟨#[41]⟩ : ByteArray), .bool false, .string (⟨#[]⟩ : ByteArray), .int .i64 2, .int .i64 3, .int .i64 0, .int .i64 2] bs_22_4 rfl (by kernel_rfl) rfl rfl rfl rfl fun gb2 h3 => ?_) gn
  refine wl_v 5 rfl (v_assign rfl) gn rfl ?_
  refine w_end 6 rfl ?_
  refine g_seq (c := trellislaw32_started_c4) rfl ?_
  refine g_region (c := trellislaw32_started_c5) rfl rfl ?_
  refine wl_v 0 rfl (v_move rfl) gn rfl ?_
  refine wl_v 1 rfl (v_build #[.int .i64 1, .int .i64 2] bd_24 rfl (by kernel_rfl)) gn rfl ?_
  obtain ⟨r7, hv8, h⟩ := h
  refine wl_s 2 rfl (s_call [.slice (some ⟨gb2, 0, none⟩) 4 4, .agg #[.int .i64 1, .int .i64 2]] rfl Try.func14 rfl rfl rfl fun w4 hL5 => ?_) gn
  have hp6 : List.Perm ([.own (.slice (some ⟨gb2, 0, none⟩) 4 4) 39 7 4 (([(⟨(⟨#[115]⟩ : ByteArray), true, (⟨#[]⟩ : ByteArray), 0, 3, 3, -1⟩ : api_Node), (⟨(⟨#[40]⟩ : ByteArray), false, (⟨#[]⟩ : ByteArray), 0, 1, 0, 0⟩ : api_Node), (⟨(⟨#[97]⟩ : ByteArray), true, (⟨#[]⟩ : ByteArray), 1, 2, 0, 1⟩ : api_Node), (⟨(⟨#[41]⟩ : ByteArray), false, (⟨#[]⟩ : ByteArray), 2, 3, 0, 2⟩ : api_Node)] : List api_Node).flatMap enc_api_Node)] : List Ent) (([] : List Ent) ++ ([.own (.slice (some ⟨gb2, 0, none⟩) 4 4) 39 7 4 (([(⟨(⟨#[115]⟩ : ByteArray), true, (⟨#[]⟩ : ByteArray), 0, 3, 3, -1⟩ : api_Node), (⟨(⟨#[40]⟩ : ByteArray), false, (⟨#[]⟩ : ByteArray), 0, 1, 0, 0⟩ : api_Node), (⟨(⟨#[97]⟩ : ByteArray), true, (⟨#[]⟩ : ByteArray), 1, 2, 0, 1⟩ : api_Node), (⟨(⟨#[41]⟩ : ByteArray), false, (⟨#[]⟩ : ByteArray), 2, 3, 0, 2⟩ : api_Node)] : List api_Node).flatMap enc_api_Node)] : List Ent)) := perm_of_idx [] [0] rfl rfl (by kernel_rfl)
  refine Calls.mono (choose_Steps_calls w4 (Fl ([] : List Snap)) ([(⟨(⟨#[115]⟩ : ByteArray), true, (⟨#[]⟩ : ByteArray), 0, 3, 3, -1⟩ : api_Node), (⟨(⟨#[40]⟩ : ByteArray), false, (⟨#[]⟩ : ByteArray), 0, 1, 0, 0⟩ : api_Node), (⟨(⟨#[97]⟩ : ByteArray), true, (⟨#[]⟩ : ByteArray), 1, 2, 0, 1⟩ : api_Node), (⟨(⟨#[41]⟩ : ByteArray), false, (⟨#[]⟩ : ByteArray), 2, 3, 0, 2⟩ : api_Node)] : List api_Node) (⟨1, 2⟩ : api_Range) (some ⟨gb2, 0, none⟩) 4 4 (hL5.argO (dk := k_api_Node) hp6 [] rfl 0 rfl rfl h3 (me 0 rfl) (Cells.flat _)) (hL5.hFl (Sl := ([] : List Snap)) hp6 (sels [] rfl)) (hL5.into hp6 (Fl ([] : List Snap))) r7 hv8) ?_
  rintro _ w14 ⟨A9, n10, c11, rfl, hM15, h12⟩
  have hL16 := hL5.call hp6 hM15
  refine ⟨_, _, _, rfl, hL16, ?_⟩
  refine wl_v 3 rfl (v_assign rfl) gn rfl ?_
  refine w_end 4 rfl ?_
  refine g_seq (c := trellislaw32_started_c6) rfl ?_
  refine g_seq (c := trellislaw32_started_c7) rfl ?_
  have j1 : ∀ (x36 : Bool) (h : trellislaw32_started_j1 x36 r) , G (trellislaw32_started_C w F r) [.code trellislaw32_started_c10, .code trellislaw32_started_c8] [(1, .slice (some ⟨gb2, 0, none⟩) 4 4), (26, .bool x36)] [.own (.slice (some ⟨gb2, 0, none⟩) 4 4) 39 7 4 (([(⟨(⟨#[115]⟩ : ByteArray), true, (⟨#[]⟩ : ByteArray), 0, 3, 3, -1⟩ : api_Node), (⟨(⟨#[40]⟩ : ByteArray), false, (⟨#[]⟩ : ByteArray), 0, 1, 0, 0⟩ : api_Node), (⟨(⟨#[97]⟩ : ByteArray), true, (⟨#[]⟩ : ByteArray), 1, 2, 0, 1⟩ : api_Node), (⟨(⟨#[41]⟩ : ByteArray), false, (⟨#[]⟩ : ByteArray), 2, 3, 0, 2⟩ : api_Node)] : List api_Node).flatMap enc_api_Node)] [Sm w.heap.size F w [], St w []] := by
    intro x36 h
    unfold trellislaw32_started_j1 at h
    by_cases hp37 : x36 = true
    · have h := if_pos' hp37 h
      refine g_true (c := trellislaw32_started_c10) rfl _ rfl (hp37) ?_
      refine g_seq (c := trellislaw32_started_c11) rfl ?_
      refine g_region (c := trellislaw32_started_c13) rfl rfl ?_
      refine wl_v 0 rfl (v_assign rfl) gn rfl ?_
      refine w_end 1 rfl ?_
      refine g_retR (c := trellislaw32_started_c14) [.bool false] rfl Try.func25 rfl (.tmp rfl (.nil)) fun wr hLr => ?_
      have hMr : B.Loc w wr [] [St w []] := hLr.pick (rest := [.own (.slice (some ⟨gb2, 0, none⟩) 4 4) 39 7 4 (([(⟨(⟨#[115]⟩ : ByteArray), true, (⟨#[]⟩ : ByteArray), 0, 3, 3, -1⟩ : api_Node), (⟨(⟨#[40]⟩ : ByteArray), false, (⟨#[]⟩ : ByteArray), 0, 1, 0, 0⟩ : api_Node), (⟨(⟨#[97]⟩ : ByteArray), true, (⟨#[]⟩ : ByteArray), 1, 2, 0, 1⟩ : api_Node), (⟨(⟨#[41]⟩ : ByteArray), false, (⟨#[]⟩ : ByteArray), 2, 3, 0, 2⟩ : api_Node)] : List api_Node).flatMap enc_api_Node)]) (perm_of_idx [] [0] rfl rfl (by kernel_rfl)) (sels [1] rfl)
      have hMi : ∀ e ∈ ([] : List Ent), e ∈ ([.own (.slice (some ⟨gb2, 0, none⟩) 4 4) 39 7 4 (([(⟨(⟨#[115]⟩ : ByteArray), true, (⟨#[]⟩ : ByteArray), 0, 3, 3, -1⟩ : api_Node), (⟨(⟨#[40]⟩ : ByteArray), false, (⟨#[]⟩ : ByteArray), 0, 1, 0, 0⟩ : api_Node), (⟨(⟨#[97]⟩ : ByteArray), true, (⟨#[]⟩ : ByteArray), 1, 2, 0, 1⟩ : api_Node), (⟨(⟨#[41]⟩ : ByteArray), false, (⟨#[]⟩ : ByteArray), 2, 3, 0, 2⟩ : api_Node)] : List api_Node).flatMap enc_api_Node)] : List Ent) := sels [] rfl
      show trellislaw32_started_R w F  r (.returned (packV [.bool false])) wr
      rw [h]
      exact ⟨rfl, hMr⟩
    · have h := if_neg' hp37 h
      refine g_false (c := trellislaw32_started_c10) rfl _ rfl ((bf hp37)) ?_
      refine g_skip (c := trellislaw32_started_c12) rfl ?_
      refine g_seq (c := trellislaw32_started_c8) rfl ?_
      refine g_region (c := trellislaw32_started_c15) rfl rfl ?_
      refine wl_v 0 rfl (v_move rfl) gn rfl ?_
      obtain ⟨r41, hv42, h⟩ := h
      refine wl_s 1 rfl (s_call [.slice (some ⟨gb2, 0, none⟩) 4 4, .int .i64 1] rfl Try.func29 rfl rfl rfl fun w38 hL39 => ?_) gn
      have hp40 : List.Perm ([.own (.slice (some ⟨gb2, 0, none⟩) 4 4) 39 7 4 (([(⟨(⟨#[115]⟩ : ByteArray), true, (⟨#[]⟩ : ByteArray), 0, 3, 3, -1⟩ : api_Node), (⟨(⟨#[40]⟩ : ByteArray), false, (⟨#[]⟩ : ByteArray), 0, 1, 0, 0⟩ : api_Node), (⟨(⟨#[97]⟩ : ByteArray), true, (⟨#[]⟩ : ByteArray), 1, 2, 0, 1⟩ : api_Node), (⟨(⟨#[41]⟩ : ByteArray), false, (⟨#[]⟩ : ByteArray), 2, 3, 0, 2⟩ : api_Node)] : List api_Node).flatMap enc_api_Node)] : List Ent) (([] : List Ent) ++ ([.own (.slice (some ⟨gb2, 0, none⟩) 4 4) 39 7 4 (([(⟨(⟨#[115]⟩ : ByteArray), true, (⟨#[]⟩ : ByteArray), 0, 3, 3, -1⟩ : api_Node), (⟨(⟨#[40]⟩ : ByteArray), false, (⟨#[]⟩ : ByteArray), 0, 1, 0, 0⟩ : api_Node), (⟨(⟨#[97]⟩ : ByteArray), true, (⟨#[]⟩ : ByteArray), 1, 2, 0, 1⟩ : api_Node), (⟨(⟨#[41]⟩ : ByteArray), false, (⟨#[]⟩ : ByteArray), 2, 3, 0, 2⟩ : api_Node)] : List api_Node).flatMap enc_api_Node)] : List Ent)) := perm_of_idx [] [0] rfl rfl (by kernel_rfl)
      refine Calls.mono (choose_Pair_calls w38 (Fl ([] : List Snap)) ([(⟨(⟨#[115]⟩ : ByteArray), true, (⟨#[]⟩ : ByteArray), 0, 3, 3, -1⟩ : api_Node), (⟨(⟨#[40]⟩ : ByteArray), false, (⟨#[]⟩ : ByteArray), 0, 1, 0, 0⟩ : api_Node), (⟨(⟨#[97]⟩ : ByteArray), true, (⟨#[]⟩ : ByteArray), 1, 2, 0, 1⟩ : api_Node), (⟨(⟨#[41]⟩ : ByteArray), false, (⟨#[]⟩ : ByteArray), 2, 3, 0, 2⟩ : api_Node)] : List api_Node) 1 (some ⟨gb2, 0, none⟩) 4 4 (hL39.argO (dk := k_api_Node) hp40 [] rfl 0 rfl rfl h3 (me 0 rfl) (Cells.flat _)) (hL39.hFl (Sl := ([] : List Snap)) hp40 (sels [] rfl)) (hL39.into hp40 (Fl ([] : List Snap))) r41 hv42) ?_
      rintro _ w43 ⟨rfl, hM44⟩
      have hL45 := hL39.call hp40 hM44
      refine ⟨_, _, _, rfl, hL45, ?_⟩
      refine wl_v 2 rfl (v_bin rfl rfl rfl) gn rfl ?_
      refine wl_v 3 rfl (v_move rfl) gn rfl ?_
      by_cases hp46 : r41 = 3
      · have h := if_pos' hp46 h
        refine w_bool 30 rfl ((eqi hp46)) ?_
        refine wl_v 4 rfl (v_move rfl) (gy 30 rfl rfl) rfl ?_
        obtain ⟨r50, hv51, h⟩ := h
        refine wl_s 5 rfl (s_call [.slice (some ⟨gb2, 0, none⟩) 4 4, .int .i64 3] rfl Try.func29 rfl rfl rfl fun w47 hL48 => ?_) (gy 30 rfl rfl)
        have hp49 : List.Perm ([.own (.slice (some ⟨gb2, 0, none⟩) 4 4) 39 7 4 (([(⟨(⟨#[115]⟩ : ByteArray), true, (⟨#[]⟩ : ByteArray), 0, 3, 3, -1⟩ : api_Node), (⟨(⟨#[40]⟩ : ByteArray), false, (⟨#[]⟩ : ByteArray), 0, 1, 0, 0⟩ : api_Node), (⟨(⟨#[97]⟩ : ByteArray), true, (⟨#[]⟩ : ByteArray), 1, 2, 0, 1⟩ : api_Node), (⟨(⟨#[41]⟩ : ByteArray), false, (⟨#[]⟩ : ByteArray), 2, 3, 0, 2⟩ : api_Node)] : List api_Node).flatMap enc_api_Node)] : List Ent) (([] : List Ent) ++ ([.own (.slice (some ⟨gb2, 0, none⟩) 4 4) 39 7 4 (([(⟨(⟨#[115]⟩ : ByteArray), true, (⟨#[]⟩ : ByteArray), 0, 3, 3, -1⟩ : api_Node), (⟨(⟨#[40]⟩ : ByteArray), false, (⟨#[]⟩ : ByteArray), 0, 1, 0, 0⟩ : api_Node), (⟨(⟨#[97]⟩ : ByteArray), true, (⟨#[]⟩ : ByteArray), 1, 2, 0, 1⟩ : api_Node), (⟨(⟨#[41]⟩ : ByteArray), false, (⟨#[]⟩ : ByteArray), 2, 3, 0, 2⟩ : api_Node)] : List api_Node).flatMap enc_api_Node)] : List Ent)) := perm_of_idx [] [0] rfl rfl (by kernel_rfl)
        refine Calls.mono (choose_Pair_calls w47 (Fl ([] : List Snap)) ([(⟨(⟨#[115]⟩ : ByteArray), true, (⟨#[]⟩ : ByteArray), 0, 3, 3, -1⟩ : api_Node), (⟨(⟨#[40]⟩ : ByteArray), false, (⟨#[]⟩ : ByteArray), 0, 1, 0, 0⟩ : api_Node), (⟨(⟨#[97]⟩ : ByteArray), true, (⟨#[]⟩ : ByteArray), 1, 2, 0, 1⟩ : api_Node), (⟨(⟨#[41]⟩ : ByteArray), false, (⟨#[]⟩ : ByteArray), 2, 3, 0, 2⟩ : api_Node)] : List api_Node) 3 (some ⟨gb2, 0, none⟩) 4 4 (hL48.argO (dk := k_api_Node) hp49 [] rfl 0 rfl rfl h3 (me 0 rfl) (Cells.flat _)) (hL48.hFl (Sl := ([] : List Snap)) hp49 (sels [] rfl)) (hL48.into hp49 (Fl ([] : List Snap))) r50 hv51) ?_
        rintro _ w52 ⟨rfl, hM53⟩
        have hL54 := hL48.call hp49 hM53
        refine ⟨_, _, _, rfl, hL54, ?_⟩
        refine wl_v 6 rfl (v_bin rfl rfl rfl) (gy 30 rfl rfl) rfl ?_
        refine wl_v 7 rfl (v_pick (b := true) rfl rfl) gn rfl ?_
        refine wl_v 8 rfl (v_move rfl) gn rfl ?_
        by_cases hp55 : r50 = 1
        · have h := if_pos' hp55 h
          refine w_bool 35 rfl ((eqi hp55)) ?_
          refine wl_v 9 rfl (v_move rfl) (gy 35 rfl rfl) rfl ?_
          obtain ⟨r59, hv60, h⟩ := h
          refine wl_s 10 rfl (s_call [.slice (some ⟨gb2, 0, none⟩) 4 4, .int .i64 1, .int .i64 2] rfl Try.func31 rfl rfl rfl fun w56 hL57 => ?_) (gy 35 rfl rfl)
          have hp58 : List.Perm ([.own (.slice (some ⟨gb2, 0, none⟩) 4 4) 39 7 4 (([(⟨(⟨#[115]⟩ : ByteArray), true, (⟨#[]⟩ : ByteArray), 0, 3, 3, -1⟩ : api_Node), (⟨(⟨#[40]⟩ : ByteArray), false, (⟨#[]⟩ : ByteArray), 0, 1, 0, 0⟩ : api_Node), (⟨(⟨#[97]⟩ : ByteArray), true, (⟨#[]⟩ : ByteArray), 1, 2, 0, 1⟩ : api_Node), (⟨(⟨#[41]⟩ : ByteArray), false, (⟨#[]⟩ : ByteArray), 2, 3, 0, 2⟩ : api_Node)] : List api_Node).flatMap enc_api_Node)] : List Ent) (([] : List Ent) ++ ([.own (.slice (some ⟨gb2, 0, none⟩) 4 4) 39 7 4 (([(⟨(⟨#[115]⟩ : ByteArray), true, (⟨#[]⟩ : ByteArray), 0, 3, 3, -1⟩ : api_Node), (⟨(⟨#[40]⟩ : ByteArray), false, (⟨#[]⟩ : ByteArray), 0, 1, 0, 0⟩ : api_Node), (⟨(⟨#[97]⟩ : ByteArray), true, (⟨#[]⟩ : ByteArray), 1, 2, 0, 1⟩ : api_Node), (⟨(⟨#[41]⟩ : ByteArray), false, (⟨#[]⟩ : ByteArray), 2, 3, 0, 2⟩ : api_Node)] : List api_Node).flatMap enc_api_Node)] : List Ent)) := perm_of_idx [] [0] rfl rfl (by kernel_rfl)
          refine Calls.mono (choose_Beside_calls w56 (Fl ([] : List Snap)) ([(⟨(⟨#[115]⟩ : ByteArray), true, (⟨#[]⟩ : ByteArray), 0, 3, 3, -1⟩ : api_Node), (⟨(⟨#[40]⟩ : ByteArray), false, (⟨#[]⟩ : ByteArray), 0, 1, 0, 0⟩ : api_Node), (⟨(⟨#[97]⟩ : ByteArray), true, (⟨#[]⟩ : ByteArray), 1, 2, 0, 1⟩ : api_Node), (⟨(⟨#[41]⟩ : ByteArray), false, (⟨#[]⟩ : ByteArray), 2, 3, 0, 2⟩ : api_Node)] : List api_Node) 1 2 (some ⟨gb2, 0, none⟩) 4 4 (hL57.argO (dk := k_api_Node) hp58 [] rfl 0 rfl rfl h3 (me 0 rfl) (Cells.flat _)) (hL57.hFl (Sl := ([] : List Snap)) hp58 (sels [] rfl)) (hL57.into hp58 (Fl ([] : List Snap))) r59 hv60) ?_
          rintro _ w61 ⟨rfl, hM62⟩
          have hL63 := hL57.call hp58 hM62
          refine ⟨_, _, _, rfl, hL63, ?_⟩
          refine wl_v 11 rfl (v_bin rfl rfl rfl) (gy 35 rfl rfl) rfl ?_
          refine wl_v 12 rfl (v_pick (b := true) rfl rfl) gn rfl ?_
          refine wl_v 13 rfl (v_move rfl) gn rfl ?_
          by_cases hp64 : r59 = 3
          · have h := if_pos' hp64 h
            refine w_bool 40 rfl ((eqi hp64)) ?_
            refine wl_v 14 rfl (v_move rfl) (gy 40 rfl rfl) rfl ?_
            obtain ⟨r68, hv69, h⟩ := h
            refine wl_s 15 rfl (s_call [.slice (some ⟨gb2, 0, none⟩) 4 4, .int .i64 3, .int .i64 1] rfl Try.func31 rfl rfl rfl fun w65 hL66 => ?_) (gy 40 rfl rfl)
            have hp67 : List.Perm ([.own (.slice (some ⟨gb2, 0, none⟩) 4 4) 39 7 4 (([(⟨(⟨#[115]⟩ : ByteArray), true, (⟨#[]⟩ : ByteArray), 0, 3, 3, -1⟩ : api_Node), (⟨(⟨#[40]⟩ : ByteArray), false, (⟨#[]⟩ : ByteArray), 0, 1, 0, 0⟩ : api_Node), (⟨(⟨#[97]⟩ : ByteArray), true, (⟨#[]⟩ : ByteArray), 1, 2, 0, 1⟩ : api_Node), (⟨(⟨#[41]⟩ : ByteArray), false, (⟨#[]⟩ : ByteArray), 2, 3, 0, 2⟩ : api_Node)] : List api_Node).flatMap enc_api_Node)] : List Ent) (([] : List Ent) ++ ([.own (.slice (some ⟨gb2, 0, none⟩) 4 4) 39 7 4 (([(⟨(⟨#[115]⟩ : ByteArray), true, (⟨#[]⟩ : ByteArray), 0, 3, 3, -1⟩ : api_Node), (⟨(⟨#[40]⟩ : ByteArray), false, (⟨#[]⟩ : ByteArray), 0, 1, 0, 0⟩ : api_Node), (⟨(⟨#[97]⟩ : ByteArray), true, (⟨#[]⟩ : ByteArray), 1, 2, 0, 1⟩ : api_Node), (⟨(⟨#[41]⟩ : ByteArray), false, (⟨#[]⟩ : ByteArray), 2, 3, 0, 2⟩ : api_Node)] : List api_Node).flatMap enc_api_Node)] : List Ent)) := perm_of_idx [] [0] rfl rfl (by kernel_rfl)
            refine Calls.mono (choose_Beside_calls w65 (Fl ([] : List Snap)) ([(⟨(⟨#[115]⟩ : ByteArray), true, (⟨#[]⟩ : ByteArray), 0, 3, 3, -1⟩ : api_Node), (⟨(⟨#[40]⟩ : ByteArray), false, (⟨#[]⟩ : ByteArray), 0, 1, 0, 0⟩ : api_Node), (⟨(⟨#[97]⟩ : ByteArray), true, (⟨#[]⟩ : ByteArray), 1, 2, 0, 1⟩ : api_Node), (⟨(⟨#[41]⟩ : ByteArray), false, (⟨#[]⟩ : ByteArray), 2, 3, 0, 2⟩ : api_Node)] : List api_Node) 3 1 (some ⟨gb2, 0, none⟩) 4 4 (hL66.argO (dk := k_api_Node) hp67 [] rfl 0 rfl rfl h3 (me 0 rfl) (Cells.flat _)) (hL66.hFl (Sl := ([] : List Snap)) hp67 (sels [] rfl)) (hL66.into hp67 (Fl ([] : List Snap))) r68 hv69) ?_
            rintro _ w70 ⟨rfl, hM71⟩
            have hL72 := hL66.call hp67 hM71
            refine ⟨_, _, _, rfl, hL72, ?_⟩
            refine wl_v 16 rfl (v_bin rfl rfl rfl) (gy 40 rfl rfl) rfl ?_
            refine wl_v 17 rfl (v_pick (b := true) rfl rfl) gn rfl ?_
            refine wl_v 18 rfl (v_assign rfl) gn rfl ?_
            refine w_end 19 rfl ?_
            refine g_retR (c := trellislaw32_started_c16) [.bool (r68 == (-1))] rfl Try.func25 rfl (.tmp rfl (.nil)) fun wr hLr => ?_
            have hMr : B.Loc w wr [] [St w []] := hLr.pick (rest := [.own (.slice (some ⟨gb2, 0, none⟩) 4 4) 39 7 4 (([(⟨(⟨#[115]⟩ : ByteArray), true, (⟨#[]⟩ : ByteArray), 0, 3, 3, -1⟩ : api_Node), (⟨(⟨#[40]⟩ : ByteArray), false, (⟨#[]⟩ : ByteArray), 0, 1, 0, 0⟩ : api_Node), (⟨(⟨#[97]⟩ : ByteArray), true, (⟨#[]⟩ : ByteArray), 1, 2, 0, 1⟩ : api_Node), (⟨(⟨#[41]⟩ : ByteArray), false, (⟨#[]⟩ : ByteArray), 2, 3, 0, 2⟩ : api_Node)] : List api_Node).flatMap enc_api_Node)]) (perm_of_idx [] [0] rfl rfl (by kernel_rfl)) (sels [1] rfl)
            have hMi : ∀ e ∈ ([] : List Ent), e ∈ ([.own (.slice (some ⟨gb2, 0, none⟩) 4 4) 39 7 4 (([(⟨(⟨#[115]⟩ : ByteArray), true, (⟨#[]⟩ : ByteArray), 0, 3, 3, -1⟩ : api_Node), (⟨(⟨#[40]⟩ : ByteArray), false, (⟨#[]⟩ : ByteArray), 0, 1, 0, 0⟩ : api_Node), (⟨(⟨#[97]⟩ : ByteArray), true, (⟨#[]⟩ : ByteArray), 1, 2, 0, 1⟩ : api_Node), (⟨(⟨#[41]⟩ : ByteArray), false, (⟨#[]⟩ : ByteArray), 2, 3, 0, 2⟩ : api_Node)] : List api_Node).flatMap enc_api_Node)] : List Ent) := sels [] rfl
            show trellislaw32_started_R w F  r (.returned (packV [.bool (r68 == (-1))])) wr
            rw [h]
            exact ⟨rfl, hMr⟩
          · have h := if_neg' hp64 h
            refine w_bool 40 rfl ((nei hp64)) ?_
            refine wl_pass 14 rfl (ps 40 rfl rfl rfl) ?_
            refine wl_pass 15 rfl (ps 40 rfl rfl rfl) ?_
            refine wl_pass 16 rfl (ps 40 rfl rfl rfl) ?_
            refine wl_v 17 rfl (v_pick (b := false) rfl rfl) gn rfl ?_
            refine wl_v 18 rfl (v_assign rfl) gn rfl ?_
            refine w_end 19 rfl ?_
            refine g_retR (c := trellislaw32_started_c16) [.bool false] rfl Try.func25 rfl (.tmp rfl (.nil)) fun wr hLr => ?_
            have hMr : B.Loc w wr [] [St w []] := hLr.pick (rest := [.own (.slice (some ⟨gb2, 0, none⟩) 4 4) 39 7 4 (([(⟨(⟨#[115]⟩ : ByteArray), true, (⟨#[]⟩ : ByteArray), 0, 3, 3, -1⟩ : api_Node), (⟨(⟨#[40]⟩ : ByteArray), false, (⟨#[]⟩ : ByteArray), 0, 1, 0, 0⟩ : api_Node), (⟨(⟨#[97]⟩ : ByteArray), true, (⟨#[]⟩ : ByteArray), 1, 2, 0, 1⟩ : api_Node), (⟨(⟨#[41]⟩ : ByteArray), false, (⟨#[]⟩ : ByteArray), 2, 3, 0, 2⟩ : api_Node)] : List api_Node).flatMap enc_api_Node)]) (perm_of_idx [] [0] rfl rfl (by kernel_rfl)) (sels [1] rfl)
            have hMi : ∀ e ∈ ([] : List Ent), e ∈ ([.own (.slice (some ⟨gb2, 0, none⟩) 4 4) 39 7 4 (([(⟨(⟨#[115]⟩ : ByteArray), true, (⟨#[]⟩ : ByteArray), 0, 3, 3, -1⟩ : api_Node), (⟨(⟨#[40]⟩ : ByteArray), false, (⟨#[]⟩ : ByteArray), 0, 1, 0, 0⟩ : api_Node), (⟨(⟨#[97]⟩ : ByteArray), true, (⟨#[]⟩ : ByteArray), 1, 2, 0, 1⟩ : api_Node), (⟨(⟨#[41]⟩ : ByteArray), false, (⟨#[]⟩ : ByteArray), 2, 3, 0, 2⟩ : api_Node)] : List api_Node).flatMap enc_api_Node)] : List Ent) := sels [] rfl
            show trellislaw32_started_R w F  r (.returned (packV [.bool false])) wr
            rw [h]
            exact ⟨rfl, hMr⟩
        · have h := if_neg' hp55 h
          refine w_bool 35 rfl ((nei hp55)) ?_
          refine wl_pass 9 rfl (ps 35 rfl rfl rfl) ?_
          refine wl_pass 10 rfl (ps 35 rfl rfl rfl) ?_
          refine wl_pass 11 rfl (ps 35 rfl rfl rfl) ?_
          refine wl_v 12 rfl (v_pick (b := false) rfl rfl) gn rfl ?_
          refine wl_v 13 rfl (v_move rfl) gn rfl ?_
          refine wl_pass 14 rfl (ps 40 rfl rfl rfl) ?_
          refine wl_pass 15 rfl (ps 40 rfl rfl rfl) ?_
          refine wl_pass 16 rfl (ps 40 rfl rfl rfl) ?_
          refine wl_v 17 rfl (v_pick (b := false) rfl rfl) gn rfl ?_
          refine wl_v 18 rfl (v_assign rfl) gn rfl ?_
          refine w_end 19 rfl ?_
          refine g_retR (c := trellislaw32_started_c16) [.bool false] rfl Try.func25 rfl (.tmp rfl (.nil)) fun wr hLr => ?_
          have hMr : B.Loc w wr [] [St w []] := hLr.pick (rest := [.own (.slice (some ⟨gb2, 0, none⟩) 4 4) 39 7 4 (([(⟨(⟨#[115]⟩ : ByteArray), true, (⟨#[]⟩ : ByteArray), 0, 3, 3, -1⟩ : api_Node), (⟨(⟨#[40]⟩ : ByteArray), false, (⟨#[]⟩ : ByteArray), 0, 1, 0, 0⟩ : api_Node), (⟨(⟨#[97]⟩ : ByteArray), true, (⟨#[]⟩ : ByteArray), 1, 2, 0, 1⟩ : api_Node), (⟨(⟨#[41]⟩ : ByteArray), false, (⟨#[]⟩ : ByteArray), 2, 3, 0, 2⟩ : api_Node)] : List api_Node).flatMap enc_api_Node)]) (perm_of_idx [] [0] rfl rfl (by kernel_rfl)) (sels [1] rfl)
          have hMi : ∀ e ∈ ([] : List Ent), e ∈ ([.own (.slice (some ⟨gb2, 0, none⟩) 4 4) 39 7 4 (([(⟨(⟨#[115]⟩ : ByteArray), true, (⟨#[]⟩ : ByteArray), 0, 3, 3, -1⟩ : api_Node), (⟨(⟨#[40]⟩ : ByteArray), false, (⟨#[]⟩ : ByteArray), 0, 1, 0, 0⟩ : api_Node), (⟨(⟨#[97]⟩ : ByteArray), true, (⟨#[]⟩ : ByteArray), 1, 2, 0, 1⟩ : api_Node), (⟨(⟨#[41]⟩ : ByteArray), false, (⟨#[]⟩ : ByteArray), 2, 3, 0, 2⟩ : api_Node)] : List api_Node).flatMap enc_api_Node)] : List Ent) := sels [] rfl
          show trellislaw32_started_R w F  r (.returned (packV [.bool false])) wr
          rw [h]
          exact ⟨rfl, hMr⟩
      · have h := if_neg' hp46 h
        refine w_bool 30 rfl ((nei hp46)) ?_
        refine wl_pass 4 rfl (ps 30 rfl rfl rfl) ?_
        refine wl_pass 5 rfl (ps 30 rfl rfl rfl) ?_
        refine wl_pass 6 rfl (ps 30 rfl rfl rfl) ?_
        refine wl_v 7 rfl (v_pick (b := false) rfl rfl) gn rfl ?_
        refine wl_v 8 rfl (v_move rfl) gn rfl ?_
        refine wl_pass 9 rfl (ps 35 rfl rfl rfl) ?_
        refine wl_pass 10 rfl (ps 35 rfl rfl rfl) ?_
        refine wl_pass 11 rfl (ps 35 rfl rfl rfl) ?_
        refine wl_v 12 rfl (v_pick (b := false) rfl rfl) gn rfl ?_
        refine wl_v 13 rfl (v_move rfl) gn rfl ?_
        refine wl_pass 14 rfl (ps 40 rfl rfl rfl) ?_
        refine wl_pass 15 rfl (ps 40 rfl rfl rfl) ?_
        refine wl_pass 16 rfl (ps 40 rfl rfl rfl) ?_
        refine wl_v 17 rfl (v_pick (b := false) rfl rfl) gn rfl ?_
        refine wl_v 18 rfl (v_assign rfl) gn rfl ?_
        refine w_end 19 rfl ?_
        refine g_retR (c := trellislaw32_started_c16) [.bool false] rfl Try.func25 rfl (.tmp rfl (.nil)) fun wr hLr => ?_
        have hMr : B.Loc w wr [] [St w []] := hLr.pick (rest := [.own (.slice (some ⟨gb2, 0, none⟩) 4 4) 39 7 4 (([(⟨(⟨#[115]⟩ : ByteArray), true, (⟨#[]⟩ : ByteArray), 0, 3, 3, -1⟩ : api_Node), (⟨(⟨#[40]⟩ : ByteArray), false, (⟨#[]⟩ : ByteArray), 0, 1, 0, 0⟩ : api_Node), (⟨(⟨#[97]⟩ : ByteArray), true, (⟨#[]⟩ : ByteArray), 1, 2, 0, 1⟩ : api_Node), (⟨(⟨#[41]⟩ : ByteArray), false, (⟨#[]⟩ : ByteArray), 2, 3, 0, 2⟩ : api_Node)] : List api_Node).flatMap enc_api_Node)]) (perm_of_idx [] [0] rfl rfl (by kernel_rfl)) (sels [1] rfl)
        have hMi : ∀ e ∈ ([] : List Ent), e ∈ ([.own (.slice (some ⟨gb2, 0, none⟩) 4 4) 39 7 4 (([(⟨(⟨#[115]⟩ : ByteArray), true, (⟨#[]⟩ : ByteArray), 0, 3, 3, -1⟩ : api_Node), (⟨(⟨#[40]⟩ : ByteArray), false, (⟨#[]⟩ : ByteArray), 0, 1, 0, 0⟩ : api_Node), (⟨(⟨#[97]⟩ : ByteArray), true, (⟨#[]⟩ : ByteArray), 1, 2, 0, 1⟩ : api_Node), (⟨(⟨#[41]⟩ : ByteArray), false, (⟨#[]⟩ : ByteArray), 2, 3, 0, 2⟩ : api_Node)] : List api_Node).flatMap enc_api_Node)] : List Ent) := sels [] rfl
        show trellislaw32_started_R w F  r (.returned (packV [.bool false])) wr
        rw [h]
        exact ⟨rfl, hMr⟩
  refine g_region (c := trellislaw32_started_c9) rfl rfl ?_
  refine wl_v 0 rfl (v_move rfl) gn rfl ?_
  refine wl_v 1 rfl (v_build #[.int .i64 1, .int .i64 2] bd_24 rfl (by kernel_rfl)) gn rfl ?_
  obtain ⟨r76, hv77, h⟩ := h
  refine wl_s 2 rfl (s_call [.slice (some ⟨gb2, 0, none⟩) 4 4, .agg #[.int .i64 1, .int .i64 2]] rfl Try.func12 rfl rfl rfl fun w73 hL74 => ?_) gn
  have hp75 : List.Perm ([.own (.slice A9 n10 c11) 24 2 n10 (r7.flatMap enc_api_Range), .own (.slice (some ⟨gb2, 0, none⟩) 4 4) 39 7 4 (([(⟨(⟨#[115]⟩ : ByteArray), true, (⟨#[]⟩ : ByteArray), 0, 3, 3, -1⟩ : api_Node), (⟨(⟨#[40]⟩ : ByteArray), false, (⟨#[]⟩ : ByteArray), 0, 1, 0, 0⟩ : api_Node), (⟨(⟨#[97]⟩ : ByteArray), true, (⟨#[]⟩ : ByteArray), 1, 2, 0, 1⟩ : api_Node), (⟨(⟨#[41]⟩ : ByteArray), false, (⟨#[]⟩ : ByteArray), 2, 3, 0, 2⟩ : api_Node)] : List api_Node).flatMap enc_api_Node)] : List Ent) (([] : List Ent) ++ ([.own (.slice A9 n10 c11) 24 2 n10 (r7.flatMap enc_api_Range), .own (.slice (some ⟨gb2, 0, none⟩) 4 4) 39 7 4 (([(⟨(⟨#[115]⟩ : ByteArray), true, (⟨#[]⟩ : ByteArray), 0, 3, 3, -1⟩ : api_Node), (⟨(⟨#[40]⟩ : ByteArray), false, (⟨#[]⟩ : ByteArray), 0, 1, 0, 0⟩ : api_Node), (⟨(⟨#[97]⟩ : ByteArray), true, (⟨#[]⟩ : ByteArray), 1, 2, 0, 1⟩ : api_Node), (⟨(⟨#[41]⟩ : ByteArray), false, (⟨#[]⟩ : ByteArray), 2, 3, 0, 2⟩ : api_Node)] : List api_Node).flatMap enc_api_Node)] : List Ent)) := perm_of_idx [] [0, 1] rfl rfl (by kernel_rfl)
  refine Calls.mono (choose_Cover_calls w73 (Fl ([] : List Snap)) ([(⟨(⟨#[115]⟩ : ByteArray), true, (⟨#[]⟩ : ByteArray), 0, 3, 3, -1⟩ : api_Node), (⟨(⟨#[40]⟩ : ByteArray), false, (⟨#[]⟩ : ByteArray), 0, 1, 0, 0⟩ : api_Node), (⟨(⟨#[97]⟩ : ByteArray), true, (⟨#[]⟩ : ByteArray), 1, 2, 0, 1⟩ : api_Node), (⟨(⟨#[41]⟩ : ByteArray), false, (⟨#[]⟩ : ByteArray), 2, 3, 0, 2⟩ : api_Node)] : List api_Node) (⟨1, 2⟩ : api_Range) (some ⟨gb2, 0, none⟩) 4 4 (hL74.argO (dk := k_api_Node) hp75 [] rfl 1 rfl rfl h3 (me 0 rfl) (Cells.flat _)) (hL74.hFl (Sl := ([] : List Snap)) hp75 (sels [] rfl)) (hL74.into hp75 (Fl ([] : List Snap))) r76 hv77) ?_
  rintro _ w78 ⟨rfl, hM79⟩
  have hL80 := hL74.call hp75 hM79
  refine ⟨_, _, _, rfl, hL80, ?_⟩
  refine wl_v 3 rfl (v_bin rfl rfl rfl) gn rfl ?_
  refine wl_v 4 rfl (v_move rfl) gn rfl ?_
  by_cases hp81 : r76 = 2
  · have h := if_pos' hp81 h
    refine w_bool 15 rfl ((eqib hp81)) ?_
    refine wl_v 5 rfl (v_move rfl) (gy 15 rfl rfl) rfl ?_
    refine wl_v 6 rfl (v_build #[.int .i64 1, .int .i64 2] bd_24 rfl (by kernel_rfl)) (gy 15 rfl rfl) rfl ?_
    obtain ⟨r85, hv86, h⟩ := h
    refine wl_s 7 rfl (s_call [.slice (some ⟨gb2, 0, none⟩) 4 4, .agg #[.int .i64 1, .int .i64 2]] rfl Try.func13 rfl rfl rfl fun w82 hL83 => ?_) (gy 15 rfl rfl)
    have hp84 : List.Perm ([.own (.slice A9 n10 c11) 24 2 n10 (r7.flatMap enc_api_Range), .own (.slice (some ⟨gb2, 0, none⟩) 4 4) 39 7 4 (([(⟨(⟨#[115]⟩ : ByteArray), true, (⟨#[]⟩ : ByteArray), 0, 3, 3, -1⟩ : api_Node), (⟨(⟨#[40]⟩ : ByteArray), false, (⟨#[]⟩ : ByteArray), 0, 1, 0, 0⟩ : api_Node), (⟨(⟨#[97]⟩ : ByteArray), true, (⟨#[]⟩ : ByteArray), 1, 2, 0, 1⟩ : api_Node), (⟨(⟨#[41]⟩ : ByteArray), false, (⟨#[]⟩ : ByteArray), 2, 3, 0, 2⟩ : api_Node)] : List api_Node).flatMap enc_api_Node)] : List Ent) (([] : List Ent) ++ ([.own (.slice A9 n10 c11) 24 2 n10 (r7.flatMap enc_api_Range), .own (.slice (some ⟨gb2, 0, none⟩) 4 4) 39 7 4 (([(⟨(⟨#[115]⟩ : ByteArray), true, (⟨#[]⟩ : ByteArray), 0, 3, 3, -1⟩ : api_Node), (⟨(⟨#[40]⟩ : ByteArray), false, (⟨#[]⟩ : ByteArray), 0, 1, 0, 0⟩ : api_Node), (⟨(⟨#[97]⟩ : ByteArray), true, (⟨#[]⟩ : ByteArray), 1, 2, 0, 1⟩ : api_Node), (⟨(⟨#[41]⟩ : ByteArray), false, (⟨#[]⟩ : ByteArray), 2, 3, 0, 2⟩ : api_Node)] : List api_Node).flatMap enc_api_Node)] : List Ent)) := perm_of_idx [] [0, 1] rfl rfl (by kernel_rfl)
    refine Calls.mono (choose_Grow_calls w82 (Fl ([] : List Snap)) ([(⟨(⟨#[115]⟩ : ByteArray), true, (⟨#[]⟩ : ByteArray), 0, 3, 3, -1⟩ : api_Node), (⟨(⟨#[40]⟩ : ByteArray), false, (⟨#[]⟩ : ByteArray), 0, 1, 0, 0⟩ : api_Node), (⟨(⟨#[97]⟩ : ByteArray), true, (⟨#[]⟩ : ByteArray), 1, 2, 0, 1⟩ : api_Node), (⟨(⟨#[41]⟩ : ByteArray), false, (⟨#[]⟩ : ByteArray), 2, 3, 0, 2⟩ : api_Node)] : List api_Node) (⟨1, 2⟩ : api_Range) (some ⟨gb2, 0, none⟩) 4 4 (hL83.argO (dk := k_api_Node) hp84 [] rfl 1 rfl rfl h3 (me 0 rfl) (Cells.flat _)) (hL83.hFl (Sl := ([] : List Snap)) hp84 (sels [] rfl)) (hL83.into hp84 (Fl ([] : List Snap))) r85 hv86) ?_
    rintro _ w87 ⟨rfl, hM88⟩
    have hL89 := hL83.call hp84 hM88
    refine ⟨_, _, _, rfl, hL89, ?_⟩
    refine wl_v 8 rfl (v_build #[.int .i64 0, .int .i64 3] bd_24 rfl (by kernel_rfl)) (gy 15 rfl rfl) rfl ?_
    refine wl_v 9 rfl (v_neSt eq_24 rfl rfl (eqd_api_Range r85 (⟨0, 3⟩ : api_Range))) (gy 15 rfl rfl) rfl ?_
    refine wl_v 10 rfl (v_pick (b := false) rfl rfl) gn rfl ?_
    refine wl_v 11 rfl (v_move rfl) gn rfl ?_
    by_cases hp90 : r85 = (⟨0, 3⟩ : api_Range)
    · have h := if_pos' hp90 h
      refine w_bool 22 rfl ((nf (decide_eq_true hp90))) ?_
      refine wl_v 12 rfl (v_move rfl) (gy 22 rfl rfl) rfl ?_
      refine wl_v 13 rfl (v_lenQ un_29 rfl (Ow.weak hL5.env.size h12).hq) (gy 22 rfl rfl) rfl ?_
      refine wl_v 14 rfl (v_bin rfl rfl rfl) (gy 22 rfl rfl) rfl ?_
      refine wl_v 15 rfl (v_pick (b := false) rfl rfl) gn rfl ?_
      refine w_end 16 rfl ?_
      exact g_go [0, 1] (j1 ((r7.length : Int) != 2) h) ⟨rfl, rfl, trivial⟩ (.cons _ (.cons_cons _ (.slnil))) rfl
    · have h := if_neg' hp90 h
      refine w_bool 22 rfl ((nt (decide_eq_false hp90))) ?_
      refine wl_pass 12 rfl (ps 22 rfl rfl rfl) ?_
      refine wl_pass 13 rfl (ps 22 rfl rfl rfl) ?_
      refine wl_pass 14 rfl (ps 22 rfl rfl rfl) ?_
      refine wl_v 15 rfl (v_pick (b := true) rfl rfl) gn rfl ?_
      refine w_end 16 rfl ?_
      exact g_go [0, 1] (j1 true h) ⟨rfl, rfl, trivial⟩ (.cons _ (.cons_cons _ (.slnil))) rfl
  · have h := if_neg' hp81 h
    refine w_bool 15 rfl ((neib hp81)) ?_
    refine wl_pass 5 rfl (ps 15 rfl rfl rfl) ?_
    refine wl_pass 6 rfl (ps 15 rfl rfl rfl) ?_
    refine wl_pass 7 rfl (ps 15 rfl rfl rfl) ?_
    refine wl_pass 8 rfl (ps 15 rfl rfl rfl) ?_
    refine wl_pass 9 rfl (ps 15 rfl rfl rfl) ?_
    refine wl_v 10 rfl (v_pick (b := true) rfl rfl) gn rfl ?_
    refine wl_v 11 rfl (v_move rfl) gn rfl ?_
    refine wl_pass 12 rfl (ps 22 rfl rfl rfl) ?_
    refine wl_pass 13 rfl (ps 22 rfl rfl rfl) ?_
    refine wl_pass 14 rfl (ps 22 rfl rfl rfl) ?_
    refine wl_v 15 rfl (v_pick (b := true) rfl rfl) gn rfl ?_
    refine w_end 16 rfl ?_
    exact g_go [0, 1] (j1 true h) ⟨rfl, rfl, trivial⟩ (.cons _ (.cons_cons _ (.slnil))) rfl
noncomputable abbrev trellislaw32_within_c0 : Code := bodyOf Try.f26
noncomputable abbrev trellislaw32_within_c1 : Code := Code.fst trellislaw32_within_c0
noncomputable abbrev trellislaw32_within_c2 : Code := Code.snd trellislaw32_within_c0
noncomputable abbrev trellislaw32_within_c3 : Code := Code.fst trellislaw32_within_c2
noncomputable abbrev trellislaw32_within_c4 : Code := Code.snd trellislaw32_within_c2
abbrev trellislaw32_within_R (w : World) (F : Nat → Prop) (r : Bool) : Ending → World → Prop := fun e w' => e = .returned (.bool r) ∧ B.Loc w w' [] [St w []]
noncomputable abbrev trellislaw32_within_C (w : World) (F : Nat → Prop) (r : Bool) : Cx := ⟨Try.prog, 26, Try.f26, 17, trellislaw32_within_R w F  r, w⟩
theorem trellislaw32_within_calls (w : World) (F : Nat → Prop) (x1 : api_Range) (x2 : api_Range) (hF : ∀ b, F b → b < w.heap.size ∧ ∀ o ∈ ([] : List (List Nat)), b ∉ o) (hL0 : B.Loc w w [] [Sm w.heap.size F w [], St w []]) (r : Bool) (h : trellislaw32_within x1 x2 r) : Calls Try.prog 26 #[.agg #[.int .i64 x1.from_, .int .i64 x1.to], .agg #[.int .i64 x2.from_, .int .i64 x2.to]] w (trellislaw32_within_R w F  r) := by
  unfold trellislaw32_within at h
  refine calls_of_Loc (vs := [.agg #[.int .i64 x1.from_, .int .i64 x1.to], .agg #[.int .i64 x2.from_, .int .i64 x2.to]]) 17 Try.func26 rfl Try.ntmps26 rfl hL0 ?_
  show G (trellislaw32_within_C w F r) _ _ _ _
  refine g_seq (c := trellislaw32_within_c0) rfl ?_
  refine g_region (c := trellislaw32_within_c1) rfl rfl ?_
  refine wl_s 0 rfl (s_box [.int .i64 x1.from_, .int .i64 x1.to] rfl rfl rfl fun gb3 => ?_) gn
  refine wl_s 1 rfl (s_box [.int .i64 x2.from_, .int .i64 x2.to] rfl rfl rfl fun gb5 => ?_) gn
  refine wl_v 2 rfl (v_assign rfl) gn rfl ?_
  refine w_end 3 rfl ?_
  refine g_seq (c := trellislaw32_within_c2) rfl ?_
  refine g_region (c := trellislaw32_within_c3) rfl rfl ?_
  refine wl_v 0 rfl (v_fldB fo_24_0 rfl) gn rfl ?_
  refine wl_v 1 rfl (v_ldB1 0 ld_3 rfl rfl rfl) gn rfl ?_
  refine wl_v 2 rfl (v_fldB fo_24_0 rfl) gn rfl ?_
  refine wl_v 3 rfl (v_ldB1 1 ld_3 rfl rfl rfl) gn rfl ?_
  refine wl_v 4 rfl (v_bin rfl rfl rfl) gn rfl ?_
  refine wl_v 5 rfl (v_move rfl) gn rfl ?_
  by_cases hp7 : x2.from_ ≤ x1.from_
  · have h := if_pos' hp7 h
    refine w_bool 10 rfl ((decide_eq_true hp7)) ?_
    refine wl_v 6 rfl (v_fldB fo_24_1 rfl) (gy 10 rfl rfl) rfl ?_
    refine wl_v 7 rfl (v_ldB1 1 ld_3 rfl rfl rfl) (gy 10 rfl rfl) rfl ?_
    refine wl_v 8 rfl (v_fldB fo_24_1 rfl) (gy 10 rfl rfl) rfl ?_
    refine wl_v 9 rfl (v_ldB1 0 ld_3 rfl rfl rfl) (gy 10 rfl rfl) rfl ?_
    refine wl_v 10 rfl (v_bin rfl rfl rfl) (gy 10 rfl rfl) rfl ?_
    refine wl_v 11 rfl (v_pick (b := true) rfl rfl) gn rfl ?_
    refine wl_v 12 rfl (v_assign rfl) gn rfl ?_
    refine w_end 13 rfl ?_
    refine g_retR (c := trellislaw32_within_c4) [.bool (decide (x1.to ≤ x2.to))] rfl Try.func26 rfl (.tmp rfl (.nil)) fun wr hLr => ?_
    have hMr : B.Loc w wr [] [St w []] := hLr.pick (rest := [.box gb5 24 [.int .i64 x2.from_, .int .i64 x2.to], .box gb3 24 [.int .i64 x1.from_, .int .i64 x1.to]]) (perm_of_idx [] [0, 1] rfl rfl (by kernel_rfl)) (sels [1] rfl)
    have hMi : ∀ e ∈ ([] : List Ent), e ∈ ([.box gb5 24 [.int .i64 x2.from_, .int .i64 x2.to], .box gb3 24 [.int .i64 x1.from_, .int .i64 x1.to]] : List Ent) := sels [] rfl
    show trellislaw32_within_R w F  r (.returned (packV [.bool (decide (x1.to ≤ x2.to))])) wr
    rw [h]
    exact ⟨rfl, hMr⟩
  · have h := if_neg' hp7 h
    refine w_bool 10 rfl ((decide_eq_false hp7)) ?_
    refine wl_pass 6 rfl (ps 10 rfl rfl rfl) ?_
    refine wl_pass 7 rfl (ps 10 rfl rfl rfl) ?_
    refine wl_pass 8 rfl (ps 10 rfl rfl rfl) ?_
    refine wl_pass 9 rfl (ps 10 rfl rfl rfl) ?_
    refine wl_pass 10 rfl (ps 10 rfl rfl rfl) ?_
    refine wl_v 11 rfl (v_pick (b := false) rfl rfl) gn rfl ?_
    refine wl_v 12 rfl (v_assign rfl) gn rfl ?_
    refine w_end 13 rfl ?_
    refine g_retR (c := trellislaw32_within_c4) [.bool false] rfl Try.func26 rfl (.tmp rfl (.nil)) fun wr hLr => ?_
    have hMr : B.Loc w wr [] [St w []] := hLr.pick (rest := [.box gb5 24 [.int .i64 x2.from_, .int .i64 x2.to], .box gb3 24 [.int .i64 x1.from_, .int .i64 x1.to]]) (perm_of_idx [] [0, 1] rfl rfl (by kernel_rfl)) (sels [1] rfl)
    have hMi : ∀ e ∈ ([] : List Ent), e ∈ ([.box gb5 24 [.int .i64 x2.from_, .int .i64 x2.to], .box gb3 24 [.int .i64 x1.from_, .int .i64 x1.to]] : List Ent) := sels [] rfl
    show trellislaw32_within_R w F  r (.returned (packV [.bool false])) wr
    rw [h]
    exact ⟨rfl, hMr⟩
end Go.Proofs.Ytoifgnogoddmlaa.K
