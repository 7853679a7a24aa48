/- What the machine's calls do, function by function, printed by my own tool. Condition of each: its relation holds of the answer, and what is handed in lies in memory as told. -/
import Derived.Test.YtoifgnogoddmlaaK1
set_option linter.unusedVariables false
set_option maxRecDepth 100000
set_option maxHeartbeats 4000000
namespace Go.Proofs.Ytoifgnogoddmlaa.K
open Go.Proofs.Ytoifgnogoddmlaa.B Go.Proofs.Ytoifgnogoddmlaa.R Go.RowKit
noncomputable abbrev choose_nested_c0 : Code := bodyOf Try.f37
noncomputable abbrev choose_nested_c1 : Code := Code.fst choose_nested_c0
noncomputable abbrev choose_nested_c2 : Code := Code.snd choose_nested_c0
noncomputable abbrev choose_nested_c3 : Code := Code.fst choose_nested_c2
noncomputable abbrev choose_nested_c4 : Code := Code.snd choose_nested_c2
noncomputable abbrev choose_nested_c5 : Code := Code.fst choose_nested_c4
noncomputable abbrev choose_nested_c6 : Code := Code.snd choose_nested_c4
noncomputable abbrev choose_nested_c7 : Code := Code.fst choose_nested_c5
noncomputable abbrev choose_nested_c8 : Code := Code.snd choose_nested_c5
noncomputable abbrev choose_nested_c9 : Code := Code.fst choose_nested_c8
noncomputable abbrev choose_nested_c10 : Code := Code.fst choose_nested_c9
noncomputable abbrev choose_nested_c11 : Code := Code.fst choose_nested_c10
noncomputable abbrev choose_nested_c12 : Code := Code.snd choose_nested_c10
noncomputable abbrev choose_nested_c13 : Code := Code.fst choose_nested_c12
noncomputable abbrev choose_nested_c14 : Code := Code.snd choose_nested_c12
noncomputable abbrev choose_nested_c15 : Code := Code.fst choose_nested_c13
noncomputable abbrev choose_nested_c16 : Code := Code.snd choose_nested_c13
noncomputable abbrev choose_nested_c17 : Code := Code.fst choose_nested_c14
noncomputable abbrev choose_nested_c18 : Code := Code.snd choose_nested_c14
noncomputable abbrev choose_nested_c19 : Code := Code.fst choose_nested_c17
noncomputable abbrev choose_nested_c20 : Code := Code.fst choose_nested_c19
noncomputable abbrev choose_nested_c21 : Code := Code.snd choose_nested_c19
noncomputable abbrev choose_nested_c22 : Code := Code.fst choose_nested_c21
noncomputable abbrev choose_nested_c23 : Code := Code.snd choose_nested_c21
noncomputable abbrev choose_nested_c24 : Code := Code.fst choose_nested_c23
noncomputable abbrev choose_nested_c25 : Code := Code.snd choose_nested_c23
noncomputable abbrev choose_nested_c26 : Code := Code.fst choose_nested_c25
noncomputable abbrev choose_nested_c27 : Code := Code.fst choose_nested_c26
noncomputable abbrev choose_nested_c28 : Code := Code.fst choose_nested_c27
noncomputable abbrev choose_nested_c29 : Code := Code.snd choose_nested_c27
noncomputable abbrev choose_nested_c30 : Code := Code.fst choose_nested_c29
noncomputable abbrev choose_nested_c31 : Code := Code.snd choose_nested_c29
noncomputable abbrev choose_nested_c32 : Code := Code.fst choose_nested_c30
noncomputable abbrev choose_nested_c33 : Code := Code.snd choose_nested_c30
noncomputable abbrev choose_nested_c34 : Code := Code.fst choose_nested_c31
noncomputable abbrev choose_nested_c35 : Code := Code.snd choose_nested_c31
noncomputable abbrev choose_nested_c36 : Code := Code.fst choose_nested_c34
noncomputable abbrev choose_nested_c37 : Code := Code.fst choose_nested_c36
noncomputable abbrev choose_nested_c38 : Code := Code.snd choose_nested_c36
noncomputable abbrev choose_nested_c39 : Code := Code.fst choose_nested_c37
noncomputable abbrev choose_nested_c40 : Code := Code.snd choose_nested_c37
noncomputable abbrev choose_nested_c41 : Code := Code.fst choose_nested_c40
noncomputable abbrev choose_nested_c42 : Code := Code.snd choose_nested_c40
noncomputable abbrev choose_nested_c43 : Code := Code.fst choose_nested_c41
noncomputable abbrev choose_nested_c44 : Code := Code.snd choose_nested_c41
noncomputable abbrev choose_nested_c45 : Code := Code.fst choose_nested_c6
noncomputable abbrev choose_nested_c46 : Code := Code.snd choose_nested_c6
abbrev choose_nested_R (w : World) (F : Nat → Prop) (r : Bool) : Ending → World → Prop := fun e w' => e = .returned (.bool r) ∧ B.Loc w w' [] [St w []]
noncomputable abbrev choose_nested_C (w : World) (F : Nat → Prop) (r : Bool) : Cx := ⟨Try.prog, 37, Try.f37, 41, choose_nested_R w F  r, w⟩
theorem choose_nested_calls (w : World) (F : Nat → Prop) (x1 : List api_Node) (A2 : Option Addr) (n3 : Nat) (c4 : Nat) (h5 : Rw k_api_Node w (St w []).av A2 n3 c4 x1) (hF : ∀ b, F b → b < w.heap.size ∧ ∀ o ∈ ([] : List (List Nat)), b ∉ o) (hL0 : B.Loc w w [] [Sm w.heap.size F w [], St w []]) (r : Bool) (h : choose_nested x1 r) : Calls Try.prog 37 #[.slice A2 n3 c4] w (choose_nested_R w F  r) := by
  unfold choose_nested at h
  refine calls_of_Loc (vs := [.slice A2 n3 c4]) 41 Try.func37 rfl Try.ntmps37 rfl hL0 ?_
  show G (choose_nested_C w F r) _ _ _ _
  refine g_seq (c := choose_nested_c0) rfl ?_
  refine g_region (c := choose_nested_c1) rfl rfl ?_
  refine wl_v 0 rfl (v_assign rfl) gn rfl ?_
  refine w_end 1 rfl ?_
  refine g_seq (c := choose_nested_c2) rfl ?_
  refine g_region (c := choose_nested_c3) rfl rfl ?_
  refine wl_v 0 rfl (v_move rfl) gn rfl ?_
  obtain ⟨r9, hv10, h⟩ := h
  refine wl_s 1 rfl (s_call [.slice A2 n3 c4] rfl Try.func49 rfl rfl rfl fun w6 hL7 => ?_) gn
  have hp8 : List.Perm ([] : List Ent) (([] : List Ent) ++ ([] : List Ent)) := perm_of_idx [] [] rfl rfl (by kernel_rfl)
  refine Calls.mono (choose_sizes_calls w6 (Fl ([] : List Snap)) x1 A2 n3 c4 (Rw.mono h5 (hL7.toSt hp8 (me 1 rfl))) (hL7.hFl (Sl := ([] : List Snap)) hp8 (sels [] rfl)) (hL7.into hp8 (Fl ([] : List Snap))) r9 hv10) ?_
  rintro _ w16 ⟨A11, n12, c13, rfl, hM17, h14⟩
  have hL18 := hL7.call hp8 hM17
  refine ⟨_, _, _, rfl, hL18, ?_⟩
  refine wl_v 2 rfl (v_assign rfl) gn rfl ?_
  refine w_end 3 rfl ?_
  refine g_seq (c := choose_nested_c4) rfl ?_
  refine g_seq (c := choose_nested_c5) rfl ?_
  refine g_region (c := choose_nested_c7) rfl rfl ?_
  refine wl_v 0 rfl (v_move rfl) gn rfl ?_
  refine wl_v 1 rfl (v_lenQ un_45 rfl (Ow.weak hL7.env.size h14).hq) gn rfl ?_
  refine wl_v 2 rfl (v_move rfl) gn rfl ?_
  refine w_end 3 rfl ?_
  refine g_block (c := choose_nested_c8) rfl ?_
  refine g_loop (c := choose_nested_c9) rfl ?_
  have key1 : ∀ s, Rounds (fun (s : Int) o => choose_nested_b1 r9 x1 s o) s r → (fun (s : Int) => ∀ (_ : Unit), G (choose_nested_C w F r) [.code choose_nested_c10, .inLoop choose_nested_c10, .inBlock 0, .code choose_nested_c6] [(0, .slice A2 n3 c4), (3, .slice A11 n12 c13), (9, .int .i64 (r9.length : Int)), (10, .int .i64 s)] [.own (.slice A11 n12 c13) 3 1 n12 (r9.flatMap (eI .i64))] [Sm w.heap.size F w [], St w []]) s := by
    intro s hs
    refine Rounds.ind (mot := (fun (s : Int) => ∀ (_ : Unit), G (choose_nested_C w F r) [.code choose_nested_c10, .inLoop choose_nested_c10, .inBlock 0, .code choose_nested_c6] [(0, .slice A2 n3 c4), (3, .slice A11 n12 c13), (9, .int .i64 (r9.length : Int)), (10, .int .i64 s)] [.own (.slice A11 n12 c13) 3 1 n12 (r9.flatMap (eI .i64))] [Sm w.heap.size F w [], St w []])) ?_ hs
    clear hs s
    intro x249 o1 h hO1
    show ∀ (_ : Unit), G (choose_nested_C w F r) [.code choose_nested_c10, .inLoop choose_nested_c10, .inBlock 0, .code choose_nested_c6] [(0, .slice A2 n3 c4), (3, .slice A11 n12 c13), (9, .int .i64 (r9.length : Int)), (10, .int .i64 x249)] [.own (.slice A11 n12 c13) 3 1 n12 (r9.flatMap (eI .i64))] [Sm w.heap.size F w [], St w []]
    intro _
    have h : choose_nested_b1 r9 x1 x249 o1 := h
    unfold choose_nested_b1 at h
    refine g_seq (c := choose_nested_c10) rfl ?_
    refine g_region (c := choose_nested_c11) rfl rfl ?_
    refine wl_v 0 rfl (v_bin rfl rfl rfl) gn rfl ?_
    refine w_end 1 rfl ?_
    refine g_seq (c := choose_nested_c12) rfl ?_
    by_cases hp478 : x249 < (r9.length : Int)
    · have h := if_pos' hp478 h
      refine g_true (c := choose_nested_c13) rfl _ rfl ((decide_eq_true hp478)) ?_
      refine g_skip (c := choose_nested_c15) rfl ?_
      refine g_seq (c := choose_nested_c14) rfl ?_
      refine g_block (c := choose_nested_c17) rfl ?_
      refine g_seq (c := choose_nested_c19) rfl ?_
      refine g_region (c := choose_nested_c20) rfl rfl ?_
      refine wl_v 0 rfl (v_move rfl) gn rfl ?_
      refine wl_v 1 rfl (v_assign rfl) gn rfl ?_
      refine w_end 2 rfl ?_
      refine g_seq (c := choose_nested_c21) rfl ?_
      refine g_region (c := choose_nested_c22) rfl rfl ?_
      refine wl_v 0 rfl (v_move rfl) gn rfl ?_
      refine wl_v 1 rfl (v_bin rfl rfl rfl) gn rfl ?_
      refine wl_v 2 rfl (v_assign rfl) gn rfl ?_
      refine w_end 3 rfl ?_
      refine g_seq (c := choose_nested_c23) rfl ?_
      refine g_region (c := choose_nested_c24) rfl rfl ?_
      refine wl_v 0 rfl (v_move rfl) gn rfl ?_
      refine wl_v 1 rfl (v_move rfl) gn rfl ?_
      obtain ⟨hb479, h⟩ := h
      have hr480 := Rw.readF (s := St w []) (hl := hl_api_Node) (h1 := h1_api_Node) h5 hb479
      refine wl_v 2 rfl (v_idxR (s := St w []) slE_22 rfl rfl h5 hb479) gn rfl ?_
      refine wl_v 3 rfl (v_fldA fo_39_5 rfl) gn rfl ?_
      refine wl_v 4 rfl (v_ldA1 (kk := (x249 : Int).toNat * 7) (j := 5) (St w []) ld_3 rfl hr480 rfl (me 1 rfl)) gn rfl ?_
      refine wl_v 5 rfl (v_move rfl) gn rfl ?_
      refine w_end 6 rfl ?_
      refine g_block (c := choose_nested_c25) rfl ?_
      refine g_loop (c := choose_nested_c26) rfl ?_
      have key2 : ∀ s, Rounds (fun (s : Int × Int) o => choose_nested_b2 x1 x249 r9 s.1 s.2 o) s o1 → (fun (s : Int × Int) => ∀ (_ : Unit), G (choose_nested_C w F r) [.code choose_nested_c27, .inLoop choose_nested_c27, .inBlock 2, .inBlock 1, .code choose_nested_c18, .inLoop choose_nested_c10, .inBlock 0, .code choose_nested_c6] [(0, .slice A2 n3 c4), (3, .slice A11 n12 c13), (4, .int .i64 x249), (5, .int .i64 s.1), (9, .int .i64 (r9.length : Int)), (10, .int .i64 x249), (19, .int .i64 ((ix x1 x249).kids)), (20, .int .i64 s.2)] [.own (.slice A11 n12 c13) 3 1 n12 (r9.flatMap (eI .i64))] [Sm w.heap.size F w [], St w []]) s := by
        intro s hs
        refine Rounds.ind (mot := (fun (s : Int × Int) => ∀ (_ : Unit), G (choose_nested_C w F r) [.code choose_nested_c27, .inLoop choose_nested_c27, .inBlock 2, .inBlock 1, .code choose_nested_c18, .inLoop choose_nested_c10, .inBlock 0, .code choose_nested_c6] [(0, .slice A2 n3 c4), (3, .slice A11 n12 c13), (4, .int .i64 x249), (5, .int .i64 s.1), (9, .int .i64 (r9.length : Int)), (10, .int .i64 x249), (19, .int .i64 ((ix x1 x249).kids)), (20, .int .i64 s.2)] [.own (.slice A11 n12 c13) 3 1 n12 (r9.flatMap (eI .i64))] [Sm w.heap.size F w [], St w []])) ?_ hs
        clear hs s
        intro s o2 h hO2
        obtain ⟨x556, x557⟩ := s
        show ∀ (_ : Unit), G (choose_nested_C w F r) [.code choose_nested_c27, .inLoop choose_nested_c27, .inBlock 2, .inBlock 1, .code choose_nested_c18, .inLoop choose_nested_c10, .inBlock 0, .code choose_nested_c6] [(0, .slice A2 n3 c4), (3, .slice A11 n12 c13), (4, .int .i64 x249), (5, .int .i64 x556), (9, .int .i64 (r9.length : Int)), (10, .int .i64 x249), (19, .int .i64 ((ix x1 x249).kids)), (20, .int .i64 x557)] [.own (.slice A11 n12 c13) 3 1 n12 (r9.flatMap (eI .i64))] [Sm w.heap.size F w [], St w []]
        intro _
        have h : choose_nested_b2 x1 x249 r9 x556 x557 o2 := h
        unfold choose_nested_b2 at h
        refine g_seq (c := choose_nested_c27) rfl ?_
        refine g_region (c := choose_nested_c28) rfl rfl ?_
        refine wl_v 0 rfl (v_bin rfl rfl rfl) gn rfl ?_
        refine w_end 1 rfl ?_
        refine g_seq (c := choose_nested_c29) rfl ?_
        by_cases hp632 : x557 < (ix x1 x249).kids
        · have h := if_pos' hp632 h
          refine g_true (c := choose_nested_c30) rfl _ rfl ((decide_eq_true hp632)) ?_
          refine g_skip (c := choose_nested_c32) rfl ?_
          refine g_seq (c := choose_nested_c31) rfl ?_
          refine g_block (c := choose_nested_c34) rfl ?_
          refine g_seq (c := choose_nested_c36) rfl ?_
          refine g_seq (c := choose_nested_c37) rfl ?_
          obtain ⟨hb634, h⟩ := h
          obtain ⟨r639, hv640, h⟩ := h
          obtain ⟨r647, hv648, h⟩ := h
          have hns : Region.noSelect (Code.ops choose_nested_c39) = true := by kernel_rfl
          refine g_drawF (c := choose_nested_c39) [.own (.slice A11 n12 c13) 3 1 n12 (r9.flatMap (eI .i64))] [Sm w.heap.size F w [], St w []] [] 11 rfl rfl mix rfl (.cons_cons _ (.slnil)) (sels [0, 1] rfl) ?_
          refine wf_v 0 rfl (v_move rfl) gn rfl hns (by kernel_rfl) (by kernel_rfl) rfl rfl ?_
          refine wf_v 1 rfl (v_move rfl) gn rfl hns (by kernel_rfl) (by kernel_rfl) rfl rfl ?_
          have hr678 := Rw.readF (s := St w []) (hl := hl_api_Node) (h1 := h1_api_Node) h5 hb479
          refine wf_v 2 rfl (v_idxR (s := St w []) slE_22 rfl rfl h5 hb479) gn rfl hns (by kernel_rfl) (by kernel_rfl) rfl rfl ?_
          refine wf_v 3 rfl (v_ldA (St w []) ld_39 rfl hr678 rfl (me 1 rfl)) gn rfl hns (by kernel_rfl) (by kernel_rfl) rfl rfl ?_
          refine wf_v 4 rfl (v_move rfl) gn rfl hns (by kernel_rfl) (by kernel_rfl) rfl rfl ?_
          refine wf_v 5 rfl (v_move rfl) gn rfl hns (by kernel_rfl) (by kernel_rfl) rfl rfl ?_
          have hr679 := Rw.readF (s := St w []) (hl := hl_api_Node) (h1 := h1_api_Node) h5 hb634
          refine wf_v 6 rfl (v_idxR (s := St w []) slE_22 rfl rfl h5 hb634) gn rfl hns (by kernel_rfl) (by kernel_rfl) rfl rfl ?_
          refine wf_v 7 rfl (v_ldA (St w []) ld_39 rfl hr679 rfl (me 1 rfl)) gn rfl hns (by kernel_rfl) (by kernel_rfl) rfl rfl ?_
          refine wf_all [8] (by kernel_rfl) rfl ⟨on_s 8 rfl gn rfl (s_call [.agg #[.string ((ix x1 x556).name), .bool ((ix x1 x556).named), .string ((ix x1 x556).field), .int .i64 ((ix x1 x556).from_), .int .i64 ((ix x1 x556).to), .int .i64 ((ix x1 x556).kids), .int .i64 ((ix x1 x556).leaf)]] rfl Try.func36 rfl rfl rfl fun w686 hL687 => ?_), trivial⟩
          have hp688 : List.Perm ([.own (.slice A11 n12 c13) 3 1 n12 (r9.flatMap (eI .i64))] : List Ent) (([] : List Ent) ++ ([.own (.slice A11 n12 c13) 3 1 n12 (r9.flatMap (eI .i64))] : List Ent)) := perm_of_idx [] [0] rfl rfl (by kernel_rfl)
          refine Calls.mono (choose_bytes_calls w686 (Fl ([] : List Snap)) (ix x1 x556) (hL687.hFl (Sl := ([] : List Snap)) hp688 (sels [] rfl)) (hL687.into hp688 (Fl ([] : List Snap))) r639 hv640) ?_
          rintro _ w689 ⟨rfl, hM690⟩
          have hL691 := hL687.call hp688 hM690
          refine ⟨_, _, _, rfl, hL691, ?_⟩
          refine ⟨sels [0] rfl, sels [0, 1] rfl, ?_⟩
          refine wf_all [9] (by kernel_rfl) rfl ⟨on_s 9 rfl gn rfl (s_call [.agg #[.string ((ix x1 x249).name), .bool ((ix x1 x249).named), .string ((ix x1 x249).field), .int .i64 ((ix x1 x249).from_), .int .i64 ((ix x1 x249).to), .int .i64 ((ix x1 x249).kids), .int .i64 ((ix x1 x249).leaf)], .agg #[.int .i64 r639.from_, .int .i64 r639.to]] rfl Try.func50 rfl rfl rfl fun w698 hL699 => ?_), trivial⟩
          have hp700 : List.Perm ([.own (.slice A11 n12 c13) 3 1 n12 (r9.flatMap (eI .i64))] : List Ent) (([] : List Ent) ++ ([.own (.slice A11 n12 c13) 3 1 n12 (r9.flatMap (eI .i64))] : List Ent)) := perm_of_idx [] [0] rfl rfl (by kernel_rfl)
          refine Calls.mono (choose_has_calls w698 (Fl ([] : List Snap)) (ix x1 x249) r639 (hL699.hFl (Sl := ([] : List Snap)) hp700 (sels [] rfl)) (hL699.into hp700 (Fl ([] : List Snap))) r647 hv648) ?_
          rintro _ w701 ⟨rfl, hM702⟩
          have hL703 := hL699.call hp700 hM702
          refine ⟨_, _, _, rfl, hL703, ?_⟩
          refine ⟨sels [0] rfl, sels [0, 1] rfl, ?_⟩
          refine wf_v 10 rfl (v_not rfl) gn rfl hns (by kernel_rfl) (by kernel_rfl) rfl rfl ?_
          refine wf_end (by kernel_rfl) ?_
          by_cases hp704 : r647 = true
          · have h := if_pos' hp704 h
            refine g_false (c := choose_nested_c40) rfl _ rfl ((nf hp704)) ?_
            refine g_skip (c := choose_nested_c42) rfl ?_
            refine g_region (c := choose_nested_c38) rfl rfl ?_
            refine wl_v 0 rfl (v_move rfl) gn rfl ?_
            refine wl_v 1 rfl (v_move rfl) gn rfl ?_
            refine wl_v 2 rfl (v_move rfl) gn rfl ?_
            obtain ⟨hb705, h⟩ := h
            refine wl_v 3 rfl (v_idxO slE_45 rfl rfl (Ow.weak hL7.env.size h14) hb705) gn rfl ?_
            refine wl_v 4 rfl (v_ldO1 (.int .i64 (ix r9 x556)) 0 ld_3 rfl rfl (fm_get0 (hlI .i64) hb705 rfl)) gn rfl ?_
            refine wl_v 5 rfl (v_bin rfl rfl rfl) gn rfl ?_
            refine wl_v 6 rfl (v_assign rfl) gn rfl ?_
            refine w_end 7 rfl ?_
            refine g_inBlock ?_
            refine g_region (c := choose_nested_c35) rfl rfl ?_
            refine wl_v 0 rfl (v_bin rfl rfl rfl) gn rfl ?_
            refine wl_v 1 rfl (v_move rfl) gn rfl ?_
            refine w_end 2 rfl ?_
            refine g_inLoop ?_
            have ih := Out.inl hO2 h
            exact g_go [0, 1] (ih ()) ⟨rfl, rfl, rfl, rfl, rfl, rfl, rfl, rfl, trivial⟩ (.cons_cons _ (.slnil)) rfl
          · have h := if_neg' hp704 h
            refine g_true (c := choose_nested_c40) rfl _ rfl ((nt (bf hp704))) ?_
            refine g_seq (c := choose_nested_c41) rfl ?_
            refine g_region (c := choose_nested_c43) rfl rfl ?_
            refine wl_v 0 rfl (v_assign rfl) gn rfl ?_
            refine w_end 1 rfl ?_
            have h := Out.inr hO2 h
            have h := Out.inr hO1 h
            refine g_retR (c := choose_nested_c44) [.bool false] rfl Try.func37 rfl (.tmp rfl (.nil)) fun wr hLr => ?_
            have hMr : B.Loc w wr [] [St w []] := hLr.pick (rest := [.own (.slice A11 n12 c13) 3 1 n12 (r9.flatMap (eI .i64))]) (perm_of_idx [] [0] rfl rfl (by kernel_rfl)) (sels [1] rfl)
            have hMi : ∀ e ∈ ([] : List Ent), e ∈ ([.own (.slice A11 n12 c13) 3 1 n12 (r9.flatMap (eI .i64))] : List Ent) := sels [] rfl
            show choose_nested_R w F  r (.returned (packV [.bool false])) wr
            rw [h]
            exact ⟨rfl, hMr⟩
        · have h := if_neg' hp632 h
          refine g_false (c := choose_nested_c30) rfl _ rfl ((decide_eq_false hp632)) ?_
          refine g_exit (c := choose_nested_c33) [.inBlock 1, .code choose_nested_c18, .inLoop choose_nested_c10, .inBlock 0, .code choose_nested_c6] rfl rfl ?_
          refine g_inBlock ?_
          refine g_region (c := choose_nested_c18) rfl rfl ?_
          refine wl_v 0 rfl (v_bin rfl rfl rfl) gn rfl ?_
          refine wl_v 1 rfl (v_move rfl) gn rfl ?_
          refine w_end 2 rfl ?_
          refine g_inLoop ?_
          have h := Out.inr hO2 h
          have ih := Out.inl hO1 h
          exact g_go [0, 1] (ih ()) ⟨rfl, rfl, rfl, rfl, trivial⟩ (.cons_cons _ (.slnil)) rfl
      exact g_go [0, 1] (key2 _ h ()) ⟨rfl, rfl, rfl, rfl, rfl, rfl, rfl, rfl, trivial⟩ (.cons_cons _ (.slnil)) rfl
    · have h := if_neg' hp478 h
      refine g_false (c := choose_nested_c13) rfl _ rfl ((decide_eq_false hp478)) ?_
      refine g_exit (c := choose_nested_c16) [.code choose_nested_c6] rfl rfl ?_
      refine g_seq (c := choose_nested_c6) rfl ?_
      refine g_region (c := choose_nested_c45) rfl rfl ?_
      refine wl_v 0 rfl (v_assign rfl) gn rfl ?_
      refine w_end 1 rfl ?_
      have h := Out.inr hO1 h
      refine g_retR (c := choose_nested_c46) [.bool true] rfl Try.func37 rfl (.tmp rfl (.nil)) fun wr hLr => ?_
      have hMr : B.Loc w wr [] [St w []] := hLr.pick (rest := [.own (.slice A11 n12 c13) 3 1 n12 (r9.flatMap (eI .i64))]) (perm_of_idx [] [0] rfl rfl (by kernel_rfl)) (sels [1] rfl)
      have hMi : ∀ e ∈ ([] : List Ent), e ∈ ([.own (.slice A11 n12 c13) 3 1 n12 (r9.flatMap (eI .i64))] : List Ent) := sels [] rfl
      show choose_nested_R w F  r (.returned (packV [.bool true])) wr
      rw [h]
      exact ⟨rfl, hMr⟩
  exact g_go [0, 1] (key1 _ h ()) ⟨rfl, rfl, rfl, rfl, trivial⟩ (.cons_cons _ (.slnil)) rfl
noncomputable abbrev choose_slowly_c0 : Code := bodyOf Try.f38
noncomputable abbrev choose_slowly_c1 : Code := Code.fst choose_slowly_c0
noncomputable abbrev choose_slowly_c2 : Code := Code.snd choose_slowly_c0
noncomputable abbrev choose_slowly_c3 : Code := Code.fst choose_slowly_c2
noncomputable abbrev choose_slowly_c4 : Code := Code.fst choose_slowly_c3
noncomputable abbrev choose_slowly_c5 : Code := Code.fst choose_slowly_c4
noncomputable abbrev choose_slowly_c6 : Code := Code.fst choose_slowly_c5
noncomputable abbrev choose_slowly_c7 : Code := Code.snd choose_slowly_c5
noncomputable abbrev choose_slowly_c8 : Code := Code.fst choose_slowly_c7
noncomputable abbrev choose_slowly_c9 : Code := Code.snd choose_slowly_c7
noncomputable abbrev choose_slowly_c10 : Code := Code.fst choose_slowly_c8
noncomputable abbrev choose_slowly_c11 : Code := Code.snd choose_slowly_c8
noncomputable abbrev choose_slowly_c12 : Code := Code.fst choose_slowly_c11
noncomputable abbrev choose_slowly_c13 : Code := Code.snd choose_slowly_c11
noncomputable abbrev choose_slowly_c14 : Code := Code.fst choose_slowly_c12
noncomputable abbrev choose_slowly_c15 : Code := Code.snd choose_slowly_c12
abbrev choose_slowly_R (w : World) (F : Nat → Prop) (A7 : Option Addr) (n8 : Nat) (c9 : Nat) (z11 : Nat) (r : List api_Range) : Ending → World → Prop := fun e w' => ∃ A0 : Option Addr, ∃ n0 : Nat, ∃ c0 : Nat, e = .returned (.slice A0 n0 c0) ∧ B.Loc w w' [.own (.slice A0 n0 c0) 24 2 n0 (r.flatMap enc_api_Range)] [St w [(Value.slice A7 n8 c9).ownBlock.toList]] ∧ Ow z11 A0 n0 c0 r
noncomputable abbrev choose_slowly_C (w : World) (F : Nat → Prop) (A7 : Option Addr) (n8 : Nat) (c9 : Nat) (z11 : Nat) (r : List api_Range) : Cx := ⟨Try.prog, 38, Try.f38, 27, choose_slowly_R w F A7 n8 c9 z11 r, w⟩
theorem choose_slowly_calls (w : World) (F : Nat → Prop) (x1 : List api_Node) (x6 : List api_Range) (A2 : Option Addr) (n3 : Nat) (c4 : Nat) (z11 : Nat) (A7 : Option Addr) (n8 : Nat) (c9 : Nat) (h5 : Rw k_api_Node w (St w [(Value.slice A7 n8 c9).ownBlock.toList]).av A2 n3 c4 x1) (hz12 : z11 ≤ w.heap.size) (h10 : Ow z11 A7 n8 c9 x6) (hF : ∀ b, F b → b < w.heap.size ∧ ∀ o ∈ ([(Value.slice A7 n8 c9).ownBlock.toList] : List (List Nat)), b ∉ o) (hL0 : B.Loc w w [.own (.slice A7 n8 c9) 24 2 n8 (x6.flatMap enc_api_Range)] [Sm w.heap.size F w [(Value.slice A7 n8 c9).ownBlock.toList], St w [(Value.slice A7 n8 c9).ownBlock.toList]]) (r : List api_Range) (h : choose_slowly x1 x6 r) : Calls Try.prog 38 #[.slice A2 n3 c4, .slice A7 n8 c9] w (choose_slowly_R w F A7 n8 c9 z11 r) := by
  unfold choose_slowly at h
  refine calls_of_Loc (vs := [.slice A2 n3 c4, .slice A7 n8 c9]) 27 Try.func38 rfl Try.ntmps38 rfl hL0 ?_
  show G (choose_slowly_C w F A7 n8 c9 z11 r) _ _ _ _
  refine g_seq (c := choose_slowly_c0) rfl ?_
  refine g_region (c := choose_slowly_c1) rfl rfl ?_
  refine wl_v 0 rfl (v_assign rfl) gn rfl ?_
  refine w_end 1 rfl ?_
  refine g_block (c := choose_slowly_c2) rfl ?_
  refine g_loop (c := choose_slowly_c3) rfl ?_
  have key1 : ∀ s, Rounds (fun (s : (List api_Range)) o => choose_slowly_b1 x1 s o) s r → (fun (s : (List api_Range)) => ∀ (A36 : Option Addr) (n37 : Nat) (c38 : Nat) (h39 : Ow z11 A36 n37 c38 s), G (choose_slowly_C w F A7 n8 c9 z11 r) [.code choose_slowly_c4, .inLoop choose_slowly_c4, .inBlock 0] [(0, .slice A2 n3 c4), (1, .slice A36 n37 c38)] [.own (.slice A36 n37 c38) 24 2 n37 (s.flatMap enc_api_Range)] [Sm w.heap.size F w [(Value.slice A7 n8 c9).ownBlock.toList], St w [(Value.slice A7 n8 c9).ownBlock.toList]]) s := by
    intro s hs
    refine Rounds.ind (mot := (fun (s : (List api_Range)) => ∀ (A36 : Option Addr) (n37 : Nat) (c38 : Nat) (h39 : Ow z11 A36 n37 c38 s), G (choose_slowly_C w F A7 n8 c9 z11 r) [.code choose_slowly_c4, .inLoop choose_slowly_c4, .inBlock 0] [(0, .slice A2 n3 c4), (1, .slice A36 n37 c38)] [.own (.slice A36 n37 c38) 24 2 n37 (s.flatMap enc_api_Range)] [Sm w.heap.size F w [(Value.slice A7 n8 c9).ownBlock.toList], St w [(Value.slice A7 n8 c9).ownBlock.toList]])) ?_ hs
    clear hs s
    intro x35 o1 h hO1
    show ∀ (A36 : Option Addr) (n37 : Nat) (c38 : Nat) (h39 : Ow z11 A36 n37 c38 x35), G (choose_slowly_C w F A7 n8 c9 z11 r) [.code choose_slowly_c4, .inLoop choose_slowly_c4, .inBlock 0] [(0, .slice A2 n3 c4), (1, .slice A36 n37 c38)] [.own (.slice A36 n37 c38) 24 2 n37 (x35.flatMap enc_api_Range)] [Sm w.heap.size F w [(Value.slice A7 n8 c9).ownBlock.toList], St w [(Value.slice A7 n8 c9).ownBlock.toList]]
    intro A36 n37 c38 h39
    have h : choose_slowly_b1 x1 x35 o1 := h
    unfold choose_slowly_b1 at h
    refine g_block (c := choose_slowly_c4) rfl ?_
    refine g_seq (c := choose_slowly_c5) rfl ?_
    refine g_region (c := choose_slowly_c6) rfl rfl ?_
    refine wl_v 0 rfl (v_move rfl) gn rfl ?_
    refine wl_v 1 rfl (v_move rfl) gn rfl ?_
    refine wl_v 2 rfl (v_move rfl) gn rfl ?_
    refine wl_v 3 rfl (v_lenQ un_29 rfl h39.hq) gn rfl ?_
    refine wl_v 4 rfl (v_bin rfl rfl rfl) gn rfl ?_
    obtain ⟨hb61, h⟩ := h
    refine wl_v 5 rfl (v_idxO slE_29 rfl rfl h39 hb61) gn rfl ?_
    refine wl_v 6 rfl (v_ldO [.int .i64 ((ix x35 (w64 ((x35.length : Int) - 1))).from_), .int .i64 ((ix x35 (w64 ((x35.length : Int) - 1))).to)] 0 ld_24 rfl rfl (fm_one hl_api_Range hb61) rfl) gn rfl ?_
    obtain ⟨r65, hv66, h⟩ := h
    refine wl_s 7 rfl (s_call [.slice A2 n3 c4, .agg #[.int .i64 ((ix x35 (w64 ((x35.length : Int) - 1))).from_), .int .i64 ((ix x35 (w64 ((x35.length : Int) - 1))).to)]] rfl Try.func13 rfl rfl rfl fun w62 hL63 => ?_) gn
    have hp64 : List.Perm ([.own (.slice A36 n37 c38) 24 2 n37 (x35.flatMap enc_api_Range)] : List Ent) (([] : List Ent) ++ ([.own (.slice A36 n37 c38) 24 2 n37 (x35.flatMap enc_api_Range)] : List Ent)) := perm_of_idx [] [0] rfl rfl (by kernel_rfl)
    refine Calls.mono (choose_Grow_calls w62 (Fl ([] : List Snap)) x1 (ix x35 (w64 ((x35.length : Int) - 1))) A2 n3 c4 (Rw.mono h5 (hL63.toSt hp64 (me 1 rfl))) (hL63.hFl (Sl := ([] : List Snap)) hp64 (sels [] rfl)) (hL63.into hp64 (Fl ([] : List Snap))) r65 hv66) ?_
    rintro _ w67 ⟨rfl, hM68⟩
    have hL69 := hL63.call hp64 hM68
    refine ⟨_, _, _, rfl, hL69, ?_⟩
    refine wl_s 8 rfl (s_alloc [.int .i64 0, .int .i64 0] zr_24 rfl fun gb70 => ?_) gn
    refine wl_s 9 rfl (s_stB (vs := [.int .i64 r65.from_, .int .i64 r65.to]) (cs' := [.int .i64 r65.from_, .int .i64 r65.to]) (M' := [.box gb70 24 [.int .i64 r65.from_, .int .i64 r65.to], .own (.slice A36 n37 c38) 24 2 n37 (x35.flatMap enc_api_Range)]) 0 sz_24 rfl rfl rfl rfl rfl rfl rfl rfl rfl ?_) gn
    refine w_end 10 rfl ?_
    refine g_seq (c := choose_slowly_c7) rfl ?_
    refine g_seq (c := choose_slowly_c8) rfl ?_
    have hns : Region.noSelect (Code.ops choose_slowly_c10) = true := by kernel_rfl
    refine g_drawF (c := choose_slowly_c10) [.box gb70 24 [.int .i64 r65.from_, .int .i64 r65.to], .own (.slice A36 n37 c38) 24 2 n37 (x35.flatMap enc_api_Range)] [Sm w.heap.size F w [(Value.slice A7 n8 c9).ownBlock.toList], St w [(Value.slice A7 n8 c9).ownBlock.toList]] [] 8 rfl rfl mix rfl (.cons_cons _ (.cons_cons _ (.slnil))) (sels [0, 1] rfl) ?_
    refine wf_v 0 rfl (v_ldB [.int .i64 r65.from_, .int .i64 r65.to] 0 ld_24 rfl rfl rfl rfl) gn rfl hns (by kernel_rfl) (by kernel_rfl) rfl rfl ?_
    refine wf_v 1 rfl (v_move rfl) gn rfl hns (by kernel_rfl) (by kernel_rfl) rfl rfl ?_
    refine wf_v 2 rfl (v_move rfl) gn rfl hns (by kernel_rfl) (by kernel_rfl) rfl rfl ?_
    refine wf_v 3 rfl (v_lenQ un_29 rfl h39.hq) gn rfl hns (by kernel_rfl) (by kernel_rfl) rfl rfl ?_
    refine wf_v 4 rfl (v_bin rfl rfl rfl) gn rfl hns (by kernel_rfl) (by kernel_rfl) rfl rfl ?_
    refine wf_v 5 rfl (v_idxO slE_29 rfl rfl h39 hb61) gn rfl hns (by kernel_rfl) (by kernel_rfl) rfl rfl ?_
    refine wf_v 6 rfl (v_ldO [.int .i64 ((ix x35 (w64 ((x35.length : Int) - 1))).from_), .int .i64 ((ix x35 (w64 ((x35.length : Int) - 1))).to)] 1 ld_24 rfl rfl (fm_one hl_api_Range hb61) rfl) gn rfl hns (by kernel_rfl) (by kernel_rfl) rfl rfl ?_
    refine wf_v 7 rfl (v_eqSt eq_24 rfl rfl (eqd_api_Range r65 (ix x35 (w64 ((x35.length : Int) - 1))))) gn rfl hns (by kernel_rfl) (by kernel_rfl) rfl rfl ?_
    refine wf_end (by kernel_rfl) ?_
    by_cases hp72 : r65 = ix x35 (w64 ((x35.length : Int) - 1))
    · have h := if_pos' hp72 h
      refine g_true (c := choose_slowly_c11) rfl _ rfl ((decide_eq_true hp72)) ?_
      refine g_seq (c := choose_slowly_c12) rfl ?_
      refine g_region (c := choose_slowly_c14) rfl rfl ?_
      refine wl_v 0 rfl (v_move rfl) gn rfl ?_
      refine wl_v 1 rfl (v_assign rfl) gn rfl ?_
      refine w_end 2 rfl ?_
      have h := Out.inr hO1 h
      refine g_retR (c := choose_slowly_c15) [.slice A36 n37 c38] rfl Try.func38 rfl (.tmp rfl (.nil)) fun wr hLr => ?_
      have hMr : B.Loc w wr [.own (.slice A36 n37 c38) 24 2 n37 (x35.flatMap enc_api_Range)] [St w [(Value.slice A7 n8 c9).ownBlock.toList]] := hLr.pick (rest := [.box gb70 24 [.int .i64 r65.from_, .int .i64 r65.to]]) (perm_of_idx [1] [0] rfl rfl (by kernel_rfl)) (sels [1] rfl)
      have hMi : ∀ e ∈ ([.own (.slice A36 n37 c38) 24 2 n37 (x35.flatMap enc_api_Range)] : List Ent), e ∈ ([.box gb70 24 [.int .i64 r65.from_, .int .i64 r65.to], .own (.slice A36 n37 c38) 24 2 n37 (x35.flatMap enc_api_Range)] : List Ent) := sels [1] rfl
      show choose_slowly_R w F A7 n8 c9 z11 r (.returned (packV [.slice A36 n37 c38])) wr
      rw [h]
      exact ⟨A36, n37, c38, rfl, hMr, h39⟩
    · have h := if_neg' hp72 h
      refine g_false (c := choose_slowly_c11) rfl _ rfl ((decide_eq_false hp72)) ?_
      refine g_skip (c := choose_slowly_c13) rfl ?_
      refine g_region (c := choose_slowly_c9) rfl rfl ?_
      refine wl_v 0 rfl (v_move rfl) gn rfl ?_
      refine wl_v 1 rfl (v_ldB [.int .i64 r65.from_, .int .i64 r65.to] 0 ld_24 rfl rfl rfl rfl) gn rfl ?_
      refine wl_s 2 rfl (s_litO (xs := ([r65] : List api_Range)) [.int .i64 r65.from_, .int .i64 r65.to] bs_29_1 rfl (by kernel_rfl) rfl rfl rfl rfl fun gb74 h75 => ?_) gn
      obtain ⟨x79, hv80, h⟩ := h
      obtain ⟨hb81, h⟩ := h
      refine wl_s 3 rfl (s_app (zs := x79) (cells' := x79.flatMap enc_api_Range) 2 ap_29 rfl rfl rfl h39 hz12 (Src.ownF (hl := hl_api_Range) (h1 := h1_api_Range) 0 rfl h75) (by rw [hv80, List.flatMap_append] <;> rfl) (app_len hv80 h75.hq) hb81 rfl rfl fun A76 c77 h78 => ?_) gn
      refine wl_v 4 rfl (v_assign rfl) gn rfl ?_
      refine w_end 5 rfl ?_
      refine g_inBlock ?_
      refine g_inLoop ?_
      have ih := Out.inl hO1 h
      exact g_go [0, 1] (ih A76 (n37 + 1) c77 h78) ⟨rfl, rfl, trivial⟩ (.cons _ (.cons _ (.cons_cons _ (.slnil)))) rfl
  exact g_go [0, 1] (key1 _ h A7 n8 c9 h10) ⟨rfl, rfl, trivial⟩ (.cons_cons _ (.slnil)) rfl
noncomputable abbrev choose_Steps_c0 : Code := bodyOf Try.f14
abbrev choose_Steps_R (w : World) (F : Nat → Prop) (r : List api_Range) : Ending → World → Prop := fun e w' => ∃ A0 : Option Addr, ∃ n0 : Nat, ∃ c0 : Nat, e = .returned (.slice A0 n0 c0) ∧ B.Loc w w' [.own (.slice A0 n0 c0) 24 2 n0 (r.flatMap enc_api_Range)] [St w []] ∧ Ow w.heap.size A0 n0 c0 r
noncomputable abbrev choose_Steps_C (w : World) (F : Nat → Prop) (r : List api_Range) : Cx := ⟨Try.prog, 14, Try.f14, 43, choose_Steps_R w F  r, w⟩
theorem choose_Steps_calls (w : World) (F : Nat → Prop) (x1 : List api_Node) (x6 : api_Range) (A2 : Option Addr) (n3 : Nat) (c4 : Nat) (h5 : Rw k_api_Node w (St w []).av A2 n3 c4 x1) (hF : ∀ b, F b → b < w.heap.size ∧ ∀ o ∈ ([] : List (List Nat)), b ∉ o) (hL0 : B.Loc w w [] [Sm w.heap.size F w [], St w []]) (r : List api_Range) (h : choose_Steps x1 x6 r) : Calls Try.prog 14 #[.slice A2 n3 c4, .agg #[.int .i64 x6.from_, .int .i64 x6.to]] w (choose_Steps_R w F  r) := by
  unfold choose_Steps at h
  obtain ⟨q, hq, bn, hn, hs, hw⟩ := h
  cases bn
  · exact W.steps_slow h5 (fun w1 => choose_taken_calls w1 _ x6 (fun _ h => h.elim) (W.loc0 w1 (fun _ => False)) q hq) (fun w1 hR => choose_nested_calls w1 _ x1 A2 n3 c4 hR (fun _ h => h.elim) (W.loc0 w1 (fun _ => False)) false hn) (fun w1 A7 n8 c9 z hR hz hO hL0 => choose_slowly_calls w1 _ x1 [q] A2 n3 c4 z A7 n8 c9 hR hz hO (fun _ h => h.elim) hL0 r (hs rfl))
  · obtain ⟨l, hl, hin, hll, hr⟩ := hw rfl
    exact W.steps_fast h5 (fun w1 => choose_taken_calls w1 _ x6 (fun _ h => h.elim) (W.loc0 w1 (fun _ => False)) q hq) (fun w1 hR => choose_nested_calls w1 _ x1 A2 n3 c4 hR (fun _ h => h.elim) (W.loc0 w1 (fun _ => False)) true hn) (fun w1 hR => choose_way_calls w1 _ x1 q A2 n3 c4 hR (fun _ h => h.elim) (W.loc0 w1 (fun _ => False)) l hl) (fun w1 x => choose_bytes_calls w1 _ x (fun _ h => h.elim) (W.loc0 w1 (fun _ => False)) (byt x) rfl) hin hll hr
noncomputable abbrev trellisref32_taken_c0 : Code := bodyOf Try.f39
noncomputable abbrev trellisref32_taken_c1 : Code := Code.fst trellisref32_taken_c0
noncomputable abbrev trellisref32_taken_c2 : Code := Code.snd trellisref32_taken_c0
noncomputable abbrev trellisref32_taken_c3 : Code := Code.fst trellisref32_taken_c2
noncomputable abbrev trellisref32_taken_c4 : Code := Code.snd trellisref32_taken_c2
noncomputable abbrev trellisref32_taken_c5 : Code := Code.fst trellisref32_taken_c3
noncomputable abbrev trellisref32_taken_c6 : Code := Code.snd trellisref32_taken_c3
noncomputable abbrev trellisref32_taken_c7 : Code := Code.fst trellisref32_taken_c6
noncomputable abbrev trellisref32_taken_c8 : Code := Code.snd trellisref32_taken_c6
noncomputable abbrev trellisref32_taken_c9 : Code := Code.fst trellisref32_taken_c7
noncomputable abbrev trellisref32_taken_c10 : Code := Code.snd trellisref32_taken_c7
noncomputable abbrev trellisref32_taken_c11 : Code := Code.fst trellisref32_taken_c4
noncomputable abbrev trellisref32_taken_c12 : Code := Code.snd trellisref32_taken_c4
abbrev trellisref32_taken_R (w : World) (F : Nat → Prop) (r : api_Range) : Ending → World → Prop := fun e w' => e = .returned (.agg #[.int .i64 r.from_, .int .i64 r.to]) ∧ B.Loc w w' [] [St w []]
noncomputable abbrev trellisref32_taken_C (w : World) (F : Nat → Prop) (r : api_Range) : Cx := ⟨Try.prog, 39, Try.f39, 14, trellisref32_taken_R w F  r, w⟩
theorem trellisref32_taken_calls (w : World) (F : Nat → Prop) (x1 : api_Range) (hF : ∀ b, F b → b < w.heap.size ∧ ∀ o ∈ ([] : List (List Nat)), b ∉ o) (hL0 : B.Loc w w [] [Sm w.heap.size F w [], St w []]) (r : api_Range) (h : trellisref32_taken x1 r) : Calls Try.prog 39 #[.agg #[.int .i64 x1.from_, .int .i64 x1.to]] w (trellisref32_taken_R w F  r) := by
  unfold trellisref32_taken at h
  refine calls_of_Loc (vs := [.agg #[.int .i64 x1.from_, .int .i64 x1.to]]) 14 Try.func39 rfl Try.ntmps39 rfl hL0 ?_
  show G (trellisref32_taken_C w F r) _ _ _ _
  refine g_seq (c := trellisref32_taken_c0) rfl ?_
  refine g_region (c := trellisref32_taken_c1) rfl rfl ?_
  refine wl_s 0 rfl (s_box [.int .i64 x1.from_, .int .i64 x1.to] rfl rfl rfl fun gb2 => ?_) gn
  refine wl_s 1 rfl (s_alloc [.int .i64 0, .int .i64 0] zr_24 rfl fun gb4 => ?_) gn
  refine w_end 2 rfl ?_
  refine g_seq (c := trellisref32_taken_c2) rfl ?_
  refine g_seq (c := trellisref32_taken_c3) rfl ?_
  refine g_region (c := trellisref32_taken_c5) rfl rfl ?_
  refine wl_v 0 rfl (v_fldB fo_24_1 rfl) gn rfl ?_
  refine wl_v 1 rfl (v_ldB1 1 ld_3 rfl rfl rfl) gn rfl ?_
  refine wl_v 2 rfl (v_fldB fo_24_0 rfl) gn rfl ?_
  refine wl_v 3 rfl (v_ldB1 1 ld_3 rfl rfl rfl) gn rfl ?_
  refine wl_v 4 rfl (v_bin rfl rfl rfl) gn rfl ?_
  refine w_end 5 rfl ?_
  by_cases hp6 : x1.to < x1.from_
  · have h := if_pos' hp6 h
    refine g_true (c := trellisref32_taken_c6) rfl _ rfl ((decide_eq_true hp6)) ?_
    refine g_seq (c := trellisref32_taken_c7) rfl ?_
    refine g_region (c := trellisref32_taken_c9) rfl rfl ?_
    refine wl_v 0 rfl (v_fldB fo_24_0 rfl) gn rfl ?_
    refine wl_v 1 rfl (v_ldB1 1 ld_3 rfl rfl rfl) gn rfl ?_
    refine wl_v 2 rfl (v_fldB fo_24_0 rfl) gn rfl ?_
    refine wl_v 3 rfl (v_ldB1 1 ld_3 rfl rfl rfl) gn rfl ?_
    refine wl_v 4 rfl (v_build #[.int .i64 x1.from_, .int .i64 x1.from_] bd_24 rfl (by kernel_rfl)) gn rfl ?_
    refine wl_s 5 rfl (s_stB (vs := [.int .i64 x1.from_, .int .i64 x1.from_]) (cs' := [.int .i64 x1.from_, .int .i64 x1.from_]) (M' := [.box gb4 24 [.int .i64 x1.from_, .int .i64 x1.from_], .box gb2 24 [.int .i64 x1.from_, .int .i64 x1.to]]) 0 sz_24 rfl rfl rfl rfl rfl rfl rfl rfl rfl ?_) gn
    refine w_end 6 rfl ?_
    refine g_retR (c := trellisref32_taken_c10) [.agg #[.int .i64 x1.from_, .int .i64 x1.from_]] rfl Try.func39 rfl (.cell (cs := [.int .i64 x1.from_, .int .i64 x1.from_]) (us := [.int .i64 x1.from_, .int .i64 x1.from_]) 0 rfl ld_24 rfl rfl rfl (.nil)) fun wr hLr => ?_
    have hMr : B.Loc w wr [] [St w []] := hLr.pick (rest := [.box gb4 24 [.int .i64 x1.from_, .int .i64 x1.from_], .box gb2 24 [.int .i64 x1.from_, .int .i64 x1.to]]) (perm_of_idx [] [0, 1] rfl rfl (by kernel_rfl)) (sels [1] rfl)
    have hMi : ∀ e ∈ ([] : List Ent), e ∈ ([.box gb4 24 [.int .i64 x1.from_, .int .i64 x1.from_], .box gb2 24 [.int .i64 x1.from_, .int .i64 x1.to]] : List Ent) := sels [] rfl
    show trellisref32_taken_R w F  r (.returned (packV [.agg #[.int .i64 x1.from_, .int .i64 x1.from_]])) wr
    rw [h]
    exact ⟨rfl, hMr⟩
  · have h := if_neg' hp6 h
    refine g_false (c := trellisref32_taken_c6) rfl _ rfl ((decide_eq_false hp6)) ?_
    refine g_skip (c := trellisref32_taken_c8) rfl ?_
    refine g_seq (c := trellisref32_taken_c4) rfl ?_
    refine g_region (c := trellisref32_taken_c11) rfl rfl ?_
    refine wl_v 0 rfl (v_ldB [.int .i64 x1.from_, .int .i64 x1.to] 1 ld_24 rfl rfl rfl rfl) gn rfl ?_
    refine wl_s 1 rfl (s_stB (vs := [.int .i64 x1.from_, .int .i64 x1.to]) (cs' := [.int .i64 x1.from_, .int .i64 x1.to]) (M' := [.box gb4 24 [.int .i64 x1.from_, .int .i64 x1.to], .box gb2 24 [.int .i64 x1.from_, .int .i64 x1.to]]) 0 sz_24 rfl rfl rfl rfl rfl rfl rfl rfl rfl ?_) gn
    refine w_end 2 rfl ?_
    refine g_retR (c := trellisref32_taken_c12) [.agg #[.int .i64 x1.from_, .int .i64 x1.to]] rfl Try.func39 rfl (.cell (cs := [.int .i64 x1.from_, .int .i64 x1.to]) (us := [.int .i64 x1.from_, .int .i64 x1.to]) 0 rfl ld_24 rfl rfl rfl (.nil)) fun wr hLr => ?_
    have hMr : B.Loc w wr [] [St w []] := hLr.pick (rest := [.box gb4 24 [.int .i64 x1.from_, .int .i64 x1.to], .box gb2 24 [.int .i64 x1.from_, .int .i64 x1.to]]) (perm_of_idx [] [0, 1] rfl rfl (by kernel_rfl)) (sels [1] rfl)
    have hMi : ∀ e ∈ ([] : List Ent), e ∈ ([.box gb4 24 [.int .i64 x1.from_, .int .i64 x1.to], .box gb2 24 [.int .i64 x1.from_, .int .i64 x1.to]] : List Ent) := sels [] rfl
    show trellisref32_taken_R w F  r (.returned (packV [.agg #[.int .i64 x1.from_, .int .i64 x1.to]])) wr
    rw [h]
    exact ⟨rfl, hMr⟩
noncomputable abbrev trellisref15_take_c0 : Code := bodyOf Try.f64
noncomputable abbrev trellisref15_take_c1 : Code := Code.fst trellisref15_take_c0
noncomputable abbrev trellisref15_take_c2 : Code := Code.snd trellisref15_take_c0
noncomputable abbrev trellisref15_take_c3 : Code := Code.fst trellisref15_take_c2
noncomputable abbrev trellisref15_take_c4 : Code := Code.snd trellisref15_take_c2
noncomputable abbrev trellisref15_take_c5 : Code := Code.fst trellisref15_take_c3
noncomputable abbrev trellisref15_take_c6 : Code := Code.snd trellisref15_take_c3
noncomputable abbrev trellisref15_take_c7 : Code := Code.fst trellisref15_take_c6
noncomputable abbrev trellisref15_take_c8 : Code := Code.snd trellisref15_take_c6
noncomputable abbrev trellisref15_take_c9 : Code := Code.fst trellisref15_take_c7
noncomputable abbrev trellisref15_take_c10 : Code := Code.snd trellisref15_take_c7
noncomputable abbrev trellisref15_take_c11 : Code := Code.fst trellisref15_take_c4
noncomputable abbrev trellisref15_take_c12 : Code := Code.snd trellisref15_take_c4
noncomputable abbrev trellisref15_take_c13 : Code := Code.fst trellisref15_take_c12
noncomputable abbrev trellisref15_take_c14 : Code := Code.snd trellisref15_take_c12
noncomputable abbrev trellisref15_take_c15 : Code := Code.fst trellisref15_take_c14
noncomputable abbrev trellisref15_take_c16 : Code := Code.snd trellisref15_take_c14
noncomputable abbrev trellisref15_take_c17 : Code := Code.fst trellisref15_take_c15
noncomputable abbrev trellisref15_take_c18 : Code := Code.snd trellisref15_take_c15
noncomputable abbrev trellisref15_take_c19 : Code := Code.fst trellisref15_take_c18
noncomputable abbrev trellisref15_take_c20 : Code := Code.fst trellisref15_take_c19
noncomputable abbrev trellisref15_take_c21 : Code := Code.fst trellisref15_take_c20
noncomputable abbrev trellisref15_take_c22 : Code := Code.snd trellisref15_take_c20
noncomputable abbrev trellisref15_take_c23 : Code := Code.fst trellisref15_take_c21
noncomputable abbrev trellisref15_take_c24 : Code := Code.snd trellisref15_take_c21
noncomputable abbrev trellisref15_take_c25 : Code := Code.fst trellisref15_take_c24
noncomputable abbrev trellisref15_take_c26 : Code := Code.snd trellisref15_take_c24
noncomputable abbrev trellisref15_take_c27 : Code := Code.fst trellisref15_take_c22
noncomputable abbrev trellisref15_take_c28 : Code := Code.snd trellisref15_take_c22
noncomputable abbrev trellisref15_take_c29 : Code := Code.fst trellisref15_take_c27
noncomputable abbrev trellisref15_take_c30 : Code := Code.fst trellisref15_take_c29
noncomputable abbrev trellisref15_take_c31 : Code := Code.snd trellisref15_take_c29
noncomputable abbrev trellisref15_take_c32 : Code := Code.fst trellisref15_take_c31
noncomputable abbrev trellisref15_take_c33 : Code := Code.snd trellisref15_take_c31
noncomputable abbrev trellisref15_take_c34 : Code := Code.fst trellisref15_take_c32
noncomputable abbrev trellisref15_take_c35 : Code := Code.snd trellisref15_take_c32
noncomputable abbrev trellisref15_take_c36 : Code := Code.fst trellisref15_take_c35
noncomputable abbrev trellisref15_take_c37 : Code := Code.snd trellisref15_take_c35
noncomputable abbrev trellisref15_take_c38 : Code := Code.fst trellisref15_take_c33
noncomputable abbrev trellisref15_take_c39 : Code := Code.snd trellisref15_take_c33
noncomputable abbrev trellisref15_take_c40 : Code := Code.fst trellisref15_take_c36
noncomputable abbrev trellisref15_take_c41 : Code := Code.snd trellisref15_take_c36
noncomputable abbrev trellisref15_take_c42 : Code := Code.fst trellisref15_take_c16
noncomputable abbrev trellisref15_take_c43 : Code := Code.snd trellisref15_take_c16
abbrev trellisref15_take_R (w : World) (F : Nat → Prop) (r : trellisref15_Tree × Int × Bool) : Ending → World → Prop := fun e w' => ∃ A0 : Option Addr, ∃ n0 : Nat, ∃ c0 : Nat, ∃ cs0 : List Value, e = .returned (.tuple #[.agg #[.string r.1.node.name, .bool r.1.node.named, .string r.1.node.field, .int .i64 r.1.node.from_, .int .i64 r.1.node.to, .int .i64 r.1.node.kids, .int .i64 r.1.node.leaf, .slice A0 n0 c0, .int .i64 r.1.at_], .int .i64 r.2.1, .bool r.2.2]) ∧ B.Loc w w' [.own (.slice A0 n0 c0) 70 9 n0 cs0] [St w []] ∧ Ow w.heap.size A0 n0 c0 r.1.kids ∧ Cells k_trellisref15_Tree w' (Nw w w' F [.own (.slice A0 n0 c0) 70 9 n0 cs0]) r.1.kids cs0
noncomputable abbrev trellisref15_take_C (w : World) (F : Nat → Prop) (r : trellisref15_Tree × Int × Bool) : Cx := ⟨Try.prog, 64, Try.f64, 74, trellisref15_take_R w F  r, w⟩
def trellisref15_take_st (rl : (List api_Node) → Int → (trellisref15_Tree × Int × Bool) → Prop) : Prop := ∀ (w : World) (F : Nat → Prop) (x1 : List api_Node) (x6 : Int) (A2 : Option Addr) (n3 : Nat) (c4 : Nat) (h5 : Rw k_api_Node w (St w []).av A2 n3 c4 x1) (hF : ∀ b, F b → b < w.heap.size ∧ ∀ o ∈ ([] : List (List Nat)), b ∉ o) (hL0 : B.Loc w w [] [Sm w.heap.size F w [], St w []]) (r : trellisref15_Tree × Int × Bool) (h : rl x1 x6 r), Calls Try.prog 64 #[.slice A2 n3 c4, .int .i64 x6] w (trellisref15_take_R w F  r)
theorem trellisref15_take_step (rc_trellisref15_take : (List api_Node) → Int → (trellisref15_Tree × Int × Bool) → Prop) (ih_trellisref15_take : trellisref15_take_st rc_trellisref15_take) : trellisref15_take_st (trellisref15_take_body rc_trellisref15_take) := by
  intro w F x1 x6 A2 n3 c4 h5 hF hL0 r h
  unfold trellisref15_take_body at h
  refine calls_of_Loc (vs := [.slice A2 n3 c4, .int .i64 x6]) 74 Try.func64 rfl Try.ntmps64 rfl hL0 ?_
  show G (trellisref15_take_C w F r) _ _ _ _
  refine g_seq (c := trellisref15_take_c0) rfl ?_
  refine g_region (c := trellisref15_take_c1) rfl rfl ?_
  refine wl_s 0 rfl (s_alloc [.string (⟨#[]⟩ : ByteArray), .bool false, .string (⟨#[]⟩ : ByteArray), .int .i64 0, .int .i64 0, .int .i64 0, .int .i64 0, .slice none 0 0, .int .i64 0] zr_70 rfl fun gb7 => ?_) gn
  refine wl_v 1 rfl (v_assign rfl) gn rfl ?_
  refine wl_v 2 rfl (v_assign rfl) gn rfl ?_
  refine w_end 3 rfl ?_
  refine g_seq (c := trellisref15_take_c2) rfl ?_
  refine g_seq (c := trellisref15_take_c3) rfl ?_
  have j1 : ∀ (x15 : Bool) (h : trellisref15_take_j1 x6 x1 rc_trellisref15_take x15 r) , G (trellisref15_take_C w F r) [.code trellisref15_take_c6, .code trellisref15_take_c4] [(0, .slice A2 n3 c4), (1, .int .i64 x6), (4, .pointer (some ⟨gb7, 0, none⟩)), (34, .bool x15)] [.box gb7 70 [.string (⟨#[]⟩ : ByteArray), .bool false, .string (⟨#[]⟩ : ByteArray), .int .i64 0, .int .i64 0, .int .i64 0, .int .i64 0, .slice none 0 0, .int .i64 0]] [Sm w.heap.size F w [], St w []] := by
    intro x15 h
    unfold trellisref15_take_j1 at h
    by_cases hp16 : x15 = true
    · have h := if_pos' hp16 h
      refine g_true (c := trellisref15_take_c6) rfl _ rfl (hp16) ?_
      refine g_seq (c := trellisref15_take_c7) rfl ?_
      refine g_region (c := trellisref15_take_c9) rfl rfl ?_
      refine wl_v 0 rfl (v_build #[.string (⟨#[]⟩ : ByteArray), .bool false, .string (⟨#[]⟩ : ByteArray), .int .i64 0, .int .i64 0, .int .i64 0, .int .i64 0, .slice none 0 0, .int .i64 0] bd_70 rfl (by kernel_rfl)) gn rfl ?_
      refine wl_v 1 rfl (v_move rfl) gn rfl ?_
      refine wl_s 2 rfl (s_stB (vs := [.string (⟨#[]⟩ : ByteArray), .bool false, .string (⟨#[]⟩ : ByteArray), .int .i64 0, .int .i64 0, .int .i64 0, .int .i64 0, .slice none 0 0, .int .i64 0]) (cs' := [.string (⟨#[]⟩ : ByteArray), .bool false, .string (⟨#[]⟩ : ByteArray), .int .i64 0, .int .i64 0, .int .i64 0, .int .i64 0, .slice none 0 0, .int .i64 0]) (M' := [.box gb7 70 [.string (⟨#[]⟩ : ByteArray), .bool false, .string (⟨#[]⟩ : ByteArray), .int .i64 0, .int .i64 0, .int .i64 0, .int .i64 0, .slice none 0 0, .int .i64 0]]) 0 sz_70 rfl rfl rfl rfl rfl rfl rfl rfl rfl ?_) gn
      refine wl_v 3 rfl (v_assign rfl) gn rfl ?_
      refine wl_v 4 rfl (v_assign rfl) gn rfl ?_
      refine w_end 5 rfl ?_
      refine g_nil 70 9 ?_
      refine g_retR (c := trellisref15_take_c10) [.agg #[.string (⟨#[]⟩ : ByteArray), .bool false, .string (⟨#[]⟩ : ByteArray), .int .i64 0, .int .i64 0, .int .i64 0, .int .i64 0, .slice none 0 0, .int .i64 0], .int .i64 x6, .bool false] rfl Try.func64 rfl (.cell (cs := [.string (⟨#[]⟩ : ByteArray), .bool false, .string (⟨#[]⟩ : ByteArray), .int .i64 0, .int .i64 0, .int .i64 0, .int .i64 0, .slice none 0 0, .int .i64 0]) (us := [.string (⟨#[]⟩ : ByteArray), .bool false, .string (⟨#[]⟩ : ByteArray), .int .i64 0, .int .i64 0, .int .i64 0, .int .i64 0, .slice none 0 0, .int .i64 0]) 1 rfl ld_70 rfl rfl rfl (.tmp rfl (.tmp rfl (.nil)))) fun wr hLr => ?_
      have hMr : B.Loc w wr [.own (.slice none 0 0) 70 9 0 []] [St w []] := hLr.pick (rest := [.box gb7 70 [.string (⟨#[]⟩ : ByteArray), .bool false, .string (⟨#[]⟩ : ByteArray), .int .i64 0, .int .i64 0, .int .i64 0, .int .i64 0, .slice none 0 0, .int .i64 0]]) (perm_of_idx [0] [1] rfl rfl (by kernel_rfl)) (sels [1] rfl)
      have hMi : ∀ e ∈ ([.own (.slice none 0 0) 70 9 0 []] : List Ent), e ∈ ([.own (.slice none 0 0) 70 9 0 [], .box gb7 70 [.string (⟨#[]⟩ : ByteArray), .bool false, .string (⟨#[]⟩ : ByteArray), .int .i64 0, .int .i64 0, .int .i64 0, .int .i64 0, .slice none 0 0, .int .i64 0]] : List Ent) := sels [0] rfl
      show trellisref15_take_R w F  r (.returned (packV [.agg #[.string (⟨#[]⟩ : ByteArray), .bool false, .string (⟨#[]⟩ : ByteArray), .int .i64 0, .int .i64 0, .int .i64 0, .int .i64 0, .slice none 0 0, .int .i64 0], .int .i64 x6, .bool false])) wr
      rw [h]
      exact ⟨none, 0, 0, [], rfl, hMr, (Ow.nil (z := w.heap.size)), (hLr.outC (s := Sm w.heap.size F w []) hMi (me 0 rfl) Sm.ok Cells.nil)⟩
    · have h := if_neg' hp16 h
      refine g_false (c := trellisref15_take_c6) rfl _ rfl ((bf hp16)) ?_
      refine g_skip (c := trellisref15_take_c8) rfl ?_
      refine g_seq (c := trellisref15_take_c4) rfl ?_
      refine g_region (c := trellisref15_take_c11) rfl rfl ?_
      refine wl_v 0 rfl (v_move rfl) gn rfl ?_
      refine wl_v 1 rfl (v_move rfl) gn rfl ?_
      obtain ⟨hb17, h⟩ := h
      have hr18 := Rw.readF (s := St w []) (hl := hl_api_Node) (h1 := h1_api_Node) h5 hb17
      refine wl_v 2 rfl (v_idxR (s := St w []) slE_22 rfl rfl h5 hb17) gn rfl ?_
      refine wl_v 3 rfl (v_ldA (St w []) ld_39 rfl hr18 rfl (me 1 rfl)) gn rfl ?_
      refine wl_v 4 rfl (v_move rfl) gn rfl ?_
      refine wl_v 5 rfl (v_build #[.string ((ix x1 x6).name), .bool ((ix x1 x6).named), .string ((ix x1 x6).field), .int .i64 ((ix x1 x6).from_), .int .i64 ((ix x1 x6).to), .int .i64 ((ix x1 x6).kids), .int .i64 ((ix x1 x6).leaf), .slice none 0 0, .int .i64 x6] bd_70 rfl (by kernel_rfl)) gn rfl ?_
      refine wl_s 6 rfl (s_alloc [.string (⟨#[]⟩ : ByteArray), .bool false, .string (⟨#[]⟩ : ByteArray), .int .i64 0, .int .i64 0, .int .i64 0, .int .i64 0, .slice none 0 0, .int .i64 0] zr_70 rfl fun gb19 => ?_) gn
      refine wl_s 7 rfl (s_stB (vs := [.string ((ix x1 x6).name), .bool ((ix x1 x6).named), .string ((ix x1 x6).field), .int .i64 ((ix x1 x6).from_), .int .i64 ((ix x1 x6).to), .int .i64 ((ix x1 x6).kids), .int .i64 ((ix x1 x6).leaf), .slice none 0 0, .int .i64 x6]) (cs' := [.string ((ix x1 x6).name), .bool ((ix x1 x6).named), .string ((ix x1 x6).field), .int .i64 ((ix x1 x6).from_), .int .i64 ((ix x1 x6).to), .int .i64 ((ix x1 x6).kids), .int .i64 ((ix x1 x6).leaf), .slice none 0 0, .int .i64 x6]) (M' := [.box gb19 70 [.string ((ix x1 x6).name), .bool ((ix x1 x6).named), .string ((ix x1 x6).field), .int .i64 ((ix x1 x6).from_), .int .i64 ((ix x1 x6).to), .int .i64 ((ix x1 x6).kids), .int .i64 ((ix x1 x6).leaf), .slice none 0 0, .int .i64 x6], .box gb7 70 [.string (⟨#[]⟩ : ByteArray), .bool false, .string (⟨#[]⟩ : ByteArray), .int .i64 0, .int .i64 0, .int .i64 0, .int .i64 0, .slice none 0 0, .int .i64 0]]) 0 sz_70 rfl rfl rfl rfl rfl rfl rfl rfl rfl ?_) gn
      refine w_end 8 rfl ?_
      refine g_seq (c := trellisref15_take_c12) rfl ?_
      refine g_region (c := trellisref15_take_c13) rfl rfl ?_
      refine wl_v 0 rfl (v_move rfl) gn rfl ?_
      refine wl_v 1 rfl (v_bin rfl rfl rfl) gn rfl ?_
      refine wl_v 2 rfl (v_assign rfl) gn rfl ?_
      refine w_end 3 rfl ?_
      refine g_seq (c := trellisref15_take_c14) rfl ?_
      refine g_seq (c := trellisref15_take_c15) rfl ?_
      refine g_region (c := trellisref15_take_c17) rfl rfl ?_
      refine wl_v 0 rfl (v_assign rfl) gn rfl ?_
      refine w_end 1 rfl ?_
      refine g_block (c := trellisref15_take_c18) rfl ?_
      refine g_loop (c := trellisref15_take_c19) rfl ?_
      have key2 : ∀ s, Rounds (fun (s : Int × Int × (List trellisref15_Tree)) o => trellisref15_take_b2 x1 x6 rc_trellisref15_take s.1 s.2.1 s.2.2 o) s r → (fun (s : Int × Int × (List trellisref15_Tree)) => ∀ (A67 : Option Addr) (n68 : Nat) (c69 : Nat) (h70 : Ow w.heap.size A67 n68 c69 s.2.2) (cs71 : List Value) (sw72 : World) (sb73 : List (List Nat)) (hC74 : Cells k_trellisref15_Tree (Sm w.heap.size F sw72 sb73).w (Sm w.heap.size F sw72 sb73).av s.2.2 cs71), G (trellisref15_take_C w F r) [.code trellisref15_take_c20, .inLoop trellisref15_take_c20, .inBlock 0, .code trellisref15_take_c16] [(0, .slice A2 n3 c4), (1, .int .i64 x6), (4, .pointer (some ⟨gb7, 0, none⟩)), (7, .pointer (some ⟨gb19, 0, none⟩)), (8, .int .i64 s.1), (9, .int .i64 s.2.1)] [.own (.slice A67 n68 c69) 70 9 n68 cs71, .box gb19 70 [.string ((ix x1 x6).name), .bool ((ix x1 x6).named), .string ((ix x1 x6).field), .int .i64 ((ix x1 x6).from_), .int .i64 ((ix x1 x6).to), .int .i64 ((ix x1 x6).kids), .int .i64 ((ix x1 x6).leaf), .slice A67 n68 c69, .int .i64 x6], .box gb7 70 [.string (⟨#[]⟩ : ByteArray), .bool false, .string (⟨#[]⟩ : ByteArray), .int .i64 0, .int .i64 0, .int .i64 0, .int .i64 0, .slice none 0 0, .int .i64 0]] [Sm w.heap.size F sw72 sb73, Sm w.heap.size F w [], St w []]) s := by
        intro s hs
        refine Rounds.ind (mot := (fun (s : Int × Int × (List trellisref15_Tree)) => ∀ (A67 : Option Addr) (n68 : Nat) (c69 : Nat) (h70 : Ow w.heap.size A67 n68 c69 s.2.2) (cs71 : List Value) (sw72 : World) (sb73 : List (List Nat)) (hC74 : Cells k_trellisref15_Tree (Sm w.heap.size F sw72 sb73).w (Sm w.heap.size F sw72 sb73).av s.2.2 cs71), G (trellisref15_take_C w F r) [.code trellisref15_take_c20, .inLoop trellisref15_take_c20, .inBlock 0, .code trellisref15_take_c16] [(0, .slice A2 n3 c4), (1, .int .i64 x6), (4, .pointer (some ⟨gb7, 0, none⟩)), (7, .pointer (some ⟨gb19, 0, none⟩)), (8, .int .i64 s.1), (9, .int .i64 s.2.1)] [.own (.slice A67 n68 c69) 70 9 n68 cs71, .box gb19 70 [.string ((ix x1 x6).name), .bool ((ix x1 x6).named), .string ((ix x1 x6).field), .int .i64 ((ix x1 x6).from_), .int .i64 ((ix x1 x6).to), .int .i64 ((ix x1 x6).kids), .int .i64 ((ix x1 x6).leaf), .slice A67 n68 c69, .int .i64 x6], .box gb7 70 [.string (⟨#[]⟩ : ByteArray), .bool false, .string (⟨#[]⟩ : ByteArray), .int .i64 0, .int .i64 0, .int .i64 0, .int .i64 0, .slice none 0 0, .int .i64 0]] [Sm w.heap.size F sw72 sb73, Sm w.heap.size F w [], St w []])) ?_ hs
        clear hs s
        intro s o1 h hO1
        obtain ⟨x64, x65, x66⟩ := s
        show ∀ (A67 : Option Addr) (n68 : Nat) (c69 : Nat) (h70 : Ow w.heap.size A67 n68 c69 x66) (cs71 : List Value) (sw72 : World) (sb73 : List (List Nat)) (hC74 : Cells k_trellisref15_Tree (Sm w.heap.size F sw72 sb73).w (Sm w.heap.size F sw72 sb73).av x66 cs71), G (trellisref15_take_C w F r) [.code trellisref15_take_c20, .inLoop trellisref15_take_c20, .inBlock 0, .code trellisref15_take_c16] [(0, .slice A2 n3 c4), (1, .int .i64 x6), (4, .pointer (some ⟨gb7, 0, none⟩)), (7, .pointer (some ⟨gb19, 0, none⟩)), (8, .int .i64 x64), (9, .int .i64 x65)] [.own (.slice A67 n68 c69) 70 9 n68 cs71, .box gb19 70 [.string ((ix x1 x6).name), .bool ((ix x1 x6).named), .string ((ix x1 x6).field), .int .i64 ((ix x1 x6).from_), .int .i64 ((ix x1 x6).to), .int .i64 ((ix x1 x6).kids), .int .i64 ((ix x1 x6).leaf), .slice A67 n68 c69, .int .i64 x6], .box gb7 70 [.string (⟨#[]⟩ : ByteArray), .bool false, .string (⟨#[]⟩ : ByteArray), .int .i64 0, .int .i64 0, .int .i64 0, .int .i64 0, .slice none 0 0, .int .i64 0]] [Sm w.heap.size F sw72 sb73, Sm w.heap.size F w [], St w []]
        intro A67 n68 c69 h70 cs71 sw72 sb73 hC74
        have h : trellisref15_take_b2 x1 x6 rc_trellisref15_take x64 x65 x66 o1 := h
        unfold trellisref15_take_b2 at h
        refine g_seq (c := trellisref15_take_c20) rfl ?_
        refine g_seq (c := trellisref15_take_c21) rfl ?_
        refine g_region (c := trellisref15_take_c23) rfl rfl ?_
        refine wl_v 0 rfl (v_move rfl) gn rfl ?_
        refine wl_v 1 rfl (v_move rfl) gn rfl ?_
        refine wl_v 2 rfl (v_move rfl) gn rfl ?_
        have hr116 := Rw.readF (s := St w []) (hl := hl_api_Node) (h1 := h1_api_Node) h5 hb17
        refine wl_v 3 rfl (v_idxR (s := St w []) slE_22 rfl rfl h5 hb17) gn rfl ?_
        refine wl_v 4 rfl (v_fldA fo_39_5 rfl) gn rfl ?_
        refine wl_v 5 rfl (v_ldA1 (kk := (x6 : Int).toNat * 7) (j := 5) (St w []) ld_3 rfl hr116 rfl (me 2 rfl)) gn rfl ?_
        refine wl_v 6 rfl (v_bin rfl rfl rfl) gn rfl ?_
        refine w_end 7 rfl ?_
        by_cases hp117 : x65 < (ix x1 x6).kids
        · have h := if_pos' hp117 h
          refine g_true (c := trellisref15_take_c24) rfl _ rfl ((decide_eq_true hp117)) ?_
          refine g_skip (c := trellisref15_take_c25) rfl ?_
          refine g_seq (c := trellisref15_take_c22) rfl ?_
          refine g_block (c := trellisref15_take_c27) rfl ?_
          refine g_seq (c := trellisref15_take_c29) rfl ?_
          refine g_region (c := trellisref15_take_c30) rfl rfl ?_
          refine wl_v 0 rfl (v_move rfl) gn rfl ?_
          refine wl_v 1 rfl (v_move rfl) gn rfl ?_
          obtain ⟨r121, hv122, h⟩ := h
          refine wl_s 2 rfl (s_call [.slice A2 n3 c4, .int .i64 x64] rfl Try.func64 rfl rfl rfl fun w118 hL119 => ?_) gn
          have hp120 : List.Perm ([.own (.slice A67 n68 c69) 70 9 n68 cs71, .box gb19 70 [.string ((ix x1 x6).name), .bool ((ix x1 x6).named), .string ((ix x1 x6).field), .int .i64 ((ix x1 x6).from_), .int .i64 ((ix x1 x6).to), .int .i64 ((ix x1 x6).kids), .int .i64 ((ix x1 x6).leaf), .slice A67 n68 c69, .int .i64 x6], .box gb7 70 [.string (⟨#[]⟩ : ByteArray), .bool false, .string (⟨#[]⟩ : ByteArray), .int .i64 0, .int .i64 0, .int .i64 0, .int .i64 0, .slice none 0 0, .int .i64 0]] : List Ent) (([] : List Ent) ++ ([.own (.slice A67 n68 c69) 70 9 n68 cs71, .box gb19 70 [.string ((ix x1 x6).name), .bool ((ix x1 x6).named), .string ((ix x1 x6).field), .int .i64 ((ix x1 x6).from_), .int .i64 ((ix x1 x6).to), .int .i64 ((ix x1 x6).kids), .int .i64 ((ix x1 x6).leaf), .slice A67 n68 c69, .int .i64 x6], .box gb7 70 [.string (⟨#[]⟩ : ByteArray), .bool false, .string (⟨#[]⟩ : ByteArray), .int .i64 0, .int .i64 0, .int .i64 0, .int .i64 0, .slice none 0 0, .int .i64 0]] : List Ent)) := perm_of_idx [] [0, 1, 2] rfl rfl (by kernel_rfl)
          refine Calls.mono (ih_trellisref15_take w118 (Fl ([] : List Snap)) x1 x64 A2 n3 c4 (Rw.mono h5 (hL119.toSt hp120 (me 2 rfl))) (hL119.hFl (Sl := ([] : List Snap)) hp120 (sels [] rfl)) (hL119.into hp120 (Fl ([] : List Snap))) r121 hv122) ?_
          rintro _ w130 ⟨A123, n124, c125, cs128, rfl, hM131, h126, hC129⟩
          obtain ⟨sb134, hL132, hv133⟩ := hL119.callB (Sl := ([] : List Snap)) hp120 hM131 F (sels [] rfl) trivial
          have hC129 : Cells k_trellisref15_Tree (Sm w.heap.size F w130 sb134).w (Sm w.heap.size F w130 sb134).av r121.1.kids cs128 := Cells.mono hv133 hC129
          refine ⟨_, _, _, rfl, hL132, ?_⟩
          refine wl_v 3 rfl (v_move rfl) gn rfl ?_
          refine wl_v 4 rfl (v_extract rfl rfl) gn rfl ?_
          refine wl_v 5 rfl (v_extract rfl rfl) gn rfl ?_
          refine wl_v 6 rfl (v_extract rfl rfl) gn rfl ?_
          refine wl_s 7 rfl (s_alloc [.string (⟨#[]⟩ : ByteArray), .bool false, .string (⟨#[]⟩ : ByteArray), .int .i64 0, .int .i64 0, .int .i64 0, .int .i64 0, .slice none 0 0, .int .i64 0] zr_70 rfl fun gb135 => ?_) gn
          refine wl_s 8 rfl (s_stB (vs := [.string r121.1.node.name, .bool r121.1.node.named, .string r121.1.node.field, .int .i64 r121.1.node.from_, .int .i64 r121.1.node.to, .int .i64 r121.1.node.kids, .int .i64 r121.1.node.leaf, .slice A123 n124 c125, .int .i64 r121.1.at_]) (cs' := [.string r121.1.node.name, .bool r121.1.node.named, .string r121.1.node.field, .int .i64 r121.1.node.from_, .int .i64 r121.1.node.to, .int .i64 r121.1.node.kids, .int .i64 r121.1.node.leaf, .slice A123 n124 c125, .int .i64 r121.1.at_]) (M' := [.box gb135 70 [.string r121.1.node.name, .bool r121.1.node.named, .string r121.1.node.field, .int .i64 r121.1.node.from_, .int .i64 r121.1.node.to, .int .i64 r121.1.node.kids, .int .i64 r121.1.node.leaf, .slice A123 n124 c125, .int .i64 r121.1.at_], .own (.slice A123 n124 c125) 70 9 n124 cs128, .own (.slice A67 n68 c69) 70 9 n68 cs71, .box gb19 70 [.string ((ix x1 x6).name), .bool ((ix x1 x6).named), .string ((ix x1 x6).field), .int .i64 ((ix x1 x6).from_), .int .i64 ((ix x1 x6).to), .int .i64 ((ix x1 x6).kids), .int .i64 ((ix x1 x6).leaf), .slice A67 n68 c69, .int .i64 x6], .box gb7 70 [.string (⟨#[]⟩ : ByteArray), .bool false, .string (⟨#[]⟩ : ByteArray), .int .i64 0, .int .i64 0, .int .i64 0, .int .i64 0, .slice none 0 0, .int .i64 0]]) 0 sz_70 rfl rfl rfl rfl rfl rfl rfl rfl rfl ?_) gn
          refine wl_v 9 rfl (v_assign rfl) gn rfl ?_
          refine wl_v 10 rfl (v_assign rfl) gn rfl ?_
          refine w_end 11 rfl ?_
          refine g_seq (c := trellisref15_take_c31) rfl ?_
          refine g_seq (c := trellisref15_take_c32) rfl ?_
          refine g_region (c := trellisref15_take_c34) rfl rfl ?_
          refine wl_v 0 rfl (v_move rfl) gn rfl ?_
          refine wl_v 1 rfl (v_not rfl) gn rfl ?_
          refine w_end 2 rfl ?_
          by_cases hp137 : r121.2.2 = true
          · have h := if_pos' hp137 h
            refine g_false (c := trellisref15_take_c35) rfl _ rfl ((nf hp137)) ?_
            refine g_skip (c := trellisref15_take_c37) rfl ?_
            refine g_seq (c := trellisref15_take_c33) rfl ?_
            refine g_region (c := trellisref15_take_c38) rfl rfl ?_
            refine wl_v 0 rfl (v_fldB fo_70_1 rfl) gn rfl ?_
            refine wl_v 1 rfl (v_ldB1 3 ld_66 rfl rfl rfl) gn rfl ?_
            refine wl_v 2 rfl (v_ldB [.string r121.1.node.name, .bool r121.1.node.named, .string r121.1.node.field, .int .i64 r121.1.node.from_, .int .i64 r121.1.node.to, .int .i64 r121.1.node.kids, .int .i64 r121.1.node.leaf, .slice A123 n124 c125, .int .i64 r121.1.at_] 0 ld_70 rfl rfl rfl rfl) gn rfl ?_
            refine w_freeze (F := F) (dk := k_trellisref15_Tree) (Sm w.heap.size F w130 sb134) 1 rfl (Ow.weak hL119.env.size h126) (me 0 rfl) Sm.ok hC129 fun sw139 sb140 h138 => ?_
            have hC142 : Cells k_trellisref15_Tree (Sm w.heap.size F sw139 sb140).w (Sm w.heap.size F sw139 sb140).av ([r121.1] : List trellisref15_Tree) [.string r121.1.node.name, .bool r121.1.node.named, .string r121.1.node.field, .int .i64 r121.1.node.from_, .int .i64 r121.1.node.to, .int .i64 r121.1.node.kids, .int .i64 r121.1.node.leaf, .slice A123 n124 c125, .int .i64 r121.1.at_] := (Cells.cons (c1 := [.string r121.1.node.name, .bool r121.1.node.named, .string r121.1.node.field, .int .i64 r121.1.node.from_, .int .i64 r121.1.node.to, .int .i64 r121.1.node.kids, .int .i64 r121.1.node.leaf, .slice A123 n124 c125, .int .i64 r121.1.at_]) (k_trellisref15_Tree_in ⟨A123, n124, c125, rfl, h138⟩) Cells.nil)
            refine wl_s 3 rfl (s_litO (xs := ([r121.1] : List trellisref15_Tree)) [.string r121.1.node.name, .bool r121.1.node.named, .string r121.1.node.field, .int .i64 r121.1.node.from_, .int .i64 r121.1.node.to, .int .i64 r121.1.node.kids, .int .i64 r121.1.node.leaf, .slice A123 n124 c125, .int .i64 r121.1.at_] bs_66_1 rfl (by kernel_rfl) rfl rfl rfl rfl fun gb143 h144 => ?_) gn
            obtain ⟨x151, hv152, h⟩ := h
            obtain ⟨hb153, h⟩ := h
            refine w_mark (F := F) fun sw148 sb149 ho150 => ?_
            obtain ⟨cs154, hc155⟩ : ∃ x : List Value, x = cs71 ++ [.string r121.1.node.name, .bool r121.1.node.named, .string r121.1.node.field, .int .i64 r121.1.node.from_, .int .i64 r121.1.node.to, .int .i64 r121.1.node.kids, .int .i64 r121.1.node.leaf, .slice A123 n124 c125, .int .i64 r121.1.at_] := ⟨_, rfl⟩
            have hC156 : Cells k_trellisref15_Tree (Sm w.heap.size F sw148 sb149).w (Sm w.heap.size F sw148 sb149).av x151 cs154 := by rw [hv152, hc155]; exact Cells.app (Cells.older (s := Sm w.heap.size F sw72 sb73) hC74 (ho150 _ (me 2 rfl) Sm.ok)) (Cells.older (s := Sm w.heap.size F sw139 sb140) hC142 (ho150 _ (me 0 rfl) Sm.ok))
            refine wl_s 4 rfl (s_app (zs := x151) 2 ap_66 rfl rfl rfl h70 (Nat.le_refl _) (Src.ownAll 0 rfl h144 hC142) hc155.symm (app_len hv152 h144.hq) hb153 rfl rfl fun A145 c146 h147 => ?_) gn
            refine wl_v 5 rfl (v_fldB fo_70_1 rfl) gn rfl ?_
            refine wl_s 6 rfl (s_stB (vs := [.slice A145 (n68 + 1) c146]) (cs' := [.string ((ix x1 x6).name), .bool ((ix x1 x6).named), .string ((ix x1 x6).field), .int .i64 ((ix x1 x6).from_), .int .i64 ((ix x1 x6).to), .int .i64 ((ix x1 x6).kids), .int .i64 ((ix x1 x6).leaf), .slice A145 (n68 + 1) c146, .int .i64 x6]) (M' := [.own (.slice (some ⟨gb143, 0, none⟩) 1 1) 70 9 1 [.string r121.1.node.name, .bool r121.1.node.named, .string r121.1.node.field, .int .i64 r121.1.node.from_, .int .i64 r121.1.node.to, .int .i64 r121.1.node.kids, .int .i64 r121.1.node.leaf, .slice A123 n124 c125, .int .i64 r121.1.at_], .box gb135 70 [.string r121.1.node.name, .bool r121.1.node.named, .string r121.1.node.field, .int .i64 r121.1.node.from_, .int .i64 r121.1.node.to, .int .i64 r121.1.node.kids, .int .i64 r121.1.node.leaf, .slice A123 n124 c125, .int .i64 r121.1.at_], .own (.slice A145 (n68 + 1) c146) 70 9 (n68 + 1) cs154, .box gb19 70 [.string ((ix x1 x6).name), .bool ((ix x1 x6).named), .string ((ix x1 x6).field), .int .i64 ((ix x1 x6).from_), .int .i64 ((ix x1 x6).to), .int .i64 ((ix x1 x6).kids), .int .i64 ((ix x1 x6).leaf), .slice A145 (n68 + 1) c146, .int .i64 x6], .box gb7 70 [.string (⟨#[]⟩ : ByteArray), .bool false, .string (⟨#[]⟩ : ByteArray), .int .i64 0, .int .i64 0, .int .i64 0, .int .i64 0, .slice none 0 0, .int .i64 0]]) 3 sz_66 rfl rfl rfl rfl rfl rfl rfl rfl rfl ?_) gn
            refine w_end 7 rfl ?_
            refine g_region (c := trellisref15_take_c39) rfl rfl ?_
            refine wl_v 0 rfl (v_move rfl) gn rfl ?_
            refine wl_v 1 rfl (v_assign rfl) gn rfl ?_
            refine w_end 2 rfl ?_
            refine g_inBlock ?_
            refine g_region (c := trellisref15_take_c28) rfl rfl ?_
            refine wl_v 0 rfl (v_move rfl) gn rfl ?_
            refine wl_v 1 rfl (v_bin rfl rfl rfl) gn rfl ?_
            refine wl_v 2 rfl (v_assign rfl) gn rfl ?_
            refine w_end 3 rfl ?_
            refine g_inLoop ?_
            have ih := Out.inl hO1 h
            exact g_go [0, 4, 5] (ih A145 (n68 + 1) c146 h147 cs154 sw148 sb149 hC156) ⟨rfl, rfl, rfl, rfl, rfl, rfl, trivial⟩ (.cons _ (.cons _ (.cons_cons _ (.cons_cons _ (.cons_cons _ (.slnil)))))) rfl
          · have h := if_neg' hp137 h
            refine g_true (c := trellisref15_take_c35) rfl _ rfl ((nt (bf hp137))) ?_
            refine g_seq (c := trellisref15_take_c36) rfl ?_
            refine g_region (c := trellisref15_take_c40) rfl rfl ?_
            refine wl_v 0 rfl (v_build #[.string (⟨#[]⟩ : ByteArray), .bool false, .string (⟨#[]⟩ : ByteArray), .int .i64 0, .int .i64 0, .int .i64 0, .int .i64 0, .slice none 0 0, .int .i64 0] bd_70 rfl (by kernel_rfl)) gn rfl ?_
            refine wl_v 1 rfl (v_move rfl) gn rfl ?_
            refine wl_s 2 rfl (s_stB (vs := [.string (⟨#[]⟩ : ByteArray), .bool false, .string (⟨#[]⟩ : ByteArray), .int .i64 0, .int .i64 0, .int .i64 0, .int .i64 0, .slice none 0 0, .int .i64 0]) (cs' := [.string (⟨#[]⟩ : ByteArray), .bool false, .string (⟨#[]⟩ : ByteArray), .int .i64 0, .int .i64 0, .int .i64 0, .int .i64 0, .slice none 0 0, .int .i64 0]) (M' := [.box gb135 70 [.string r121.1.node.name, .bool r121.1.node.named, .string r121.1.node.field, .int .i64 r121.1.node.from_, .int .i64 r121.1.node.to, .int .i64 r121.1.node.kids, .int .i64 r121.1.node.leaf, .slice A123 n124 c125, .int .i64 r121.1.at_], .own (.slice A123 n124 c125) 70 9 n124 cs128, .own (.slice A67 n68 c69) 70 9 n68 cs71, .box gb19 70 [.string ((ix x1 x6).name), .bool ((ix x1 x6).named), .string ((ix x1 x6).field), .int .i64 ((ix x1 x6).from_), .int .i64 ((ix x1 x6).to), .int .i64 ((ix x1 x6).kids), .int .i64 ((ix x1 x6).leaf), .slice A67 n68 c69, .int .i64 x6], .box gb7 70 [.string (⟨#[]⟩ : ByteArray), .bool false, .string (⟨#[]⟩ : ByteArray), .int .i64 0, .int .i64 0, .int .i64 0, .int .i64 0, .slice none 0 0, .int .i64 0]]) 4 sz_70 rfl rfl rfl rfl rfl rfl rfl rfl rfl ?_) gn
            refine wl_v 3 rfl (v_assign rfl) gn rfl ?_
            refine wl_v 4 rfl (v_assign rfl) gn rfl ?_
            refine w_end 5 rfl ?_
            refine g_nil 70 9 ?_
            have h := Out.inr hO1 h
            refine g_retR (c := trellisref15_take_c41) [.agg #[.string (⟨#[]⟩ : ByteArray), .bool false, .string (⟨#[]⟩ : ByteArray), .int .i64 0, .int .i64 0, .int .i64 0, .int .i64 0, .slice none 0 0, .int .i64 0], .int .i64 x6, .bool false] rfl Try.func64 rfl (.cell (cs := [.string (⟨#[]⟩ : ByteArray), .bool false, .string (⟨#[]⟩ : ByteArray), .int .i64 0, .int .i64 0, .int .i64 0, .int .i64 0, .slice none 0 0, .int .i64 0]) (us := [.string (⟨#[]⟩ : ByteArray), .bool false, .string (⟨#[]⟩ : ByteArray), .int .i64 0, .int .i64 0, .int .i64 0, .int .i64 0, .slice none 0 0, .int .i64 0]) 5 rfl ld_70 rfl rfl rfl (.tmp rfl (.tmp rfl (.nil)))) fun wr hLr => ?_
            have hMr : B.Loc w wr [.own (.slice none 0 0) 70 9 0 []] [St w []] := hLr.pick (rest := [.box gb135 70 [.string r121.1.node.name, .bool r121.1.node.named, .string r121.1.node.field, .int .i64 r121.1.node.from_, .int .i64 r121.1.node.to, .int .i64 r121.1.node.kids, .int .i64 r121.1.node.leaf, .slice A123 n124 c125, .int .i64 r121.1.at_], .own (.slice A123 n124 c125) 70 9 n124 cs128, .own (.slice A67 n68 c69) 70 9 n68 cs71, .box gb19 70 [.string ((ix x1 x6).name), .bool ((ix x1 x6).named), .string ((ix x1 x6).field), .int .i64 ((ix x1 x6).from_), .int .i64 ((ix x1 x6).to), .int .i64 ((ix x1 x6).kids), .int .i64 ((ix x1 x6).leaf), .slice A67 n68 c69, .int .i64 x6], .box gb7 70 [.string (⟨#[]⟩ : ByteArray), .bool false, .string (⟨#[]⟩ : ByteArray), .int .i64 0, .int .i64 0, .int .i64 0, .int .i64 0, .slice none 0 0, .int .i64 0]]) (perm_of_idx [0] [1, 2, 3, 4, 5] rfl rfl (by kernel_rfl)) (sels [3] rfl)
            have hMi : ∀ e ∈ ([.own (.slice none 0 0) 70 9 0 []] : List Ent), e ∈ ([.own (.slice none 0 0) 70 9 0 [], .box gb135 70 [.string r121.1.node.name, .bool r121.1.node.named, .string r121.1.node.field, .int .i64 r121.1.node.from_, .int .i64 r121.1.node.to, .int .i64 r121.1.node.kids, .int .i64 r121.1.node.leaf, .slice A123 n124 c125, .int .i64 r121.1.at_], .own (.slice A123 n124 c125) 70 9 n124 cs128, .own (.slice A67 n68 c69) 70 9 n68 cs71, .box gb19 70 [.string ((ix x1 x6).name), .bool ((ix x1 x6).named), .string ((ix x1 x6).field), .int .i64 ((ix x1 x6).from_), .int .i64 ((ix x1 x6).to), .int .i64 ((ix x1 x6).kids), .int .i64 ((ix x1 x6).leaf), .slice A67 n68 c69, .int .i64 x6], .box gb7 70 [.string (⟨#[]⟩ : ByteArray), .bool false, .string (⟨#[]⟩ : ByteArray), .int .i64 0, .int .i64 0, .int .i64 0, .int .i64 0, .slice none 0 0, .int .i64 0]] : List Ent) := sels [0] rfl
            show trellisref15_take_R w F  r (.returned (packV [.agg #[.string (⟨#[]⟩ : ByteArray), .bool false, .string (⟨#[]⟩ : ByteArray), .int .i64 0, .int .i64 0, .int .i64 0, .int .i64 0, .slice none 0 0, .int .i64 0], .int .i64 x6, .bool false])) wr
            rw [h]
            exact ⟨none, 0, 0, [], rfl, hMr, (Ow.nil (z := w.heap.size)), (hLr.outC (s := Sm w.heap.size F w []) hMi (me 2 rfl) Sm.ok Cells.nil)⟩
        · have h := if_neg' hp117 h
          refine g_false (c := trellisref15_take_c24) rfl _ rfl ((decide_eq_false hp117)) ?_
          refine g_exit (c := trellisref15_take_c26) [.code trellisref15_take_c16] rfl rfl ?_
          refine g_seq (c := trellisref15_take_c16) rfl ?_
          refine g_region (c := trellisref15_take_c42) rfl rfl ?_
          refine wl_v 0 rfl (v_ldB [.string ((ix x1 x6).name), .bool ((ix x1 x6).named), .string ((ix x1 x6).field), .int .i64 ((ix x1 x6).from_), .int .i64 ((ix x1 x6).to), .int .i64 ((ix x1 x6).kids), .int .i64 ((ix x1 x6).leaf), .slice A67 n68 c69, .int .i64 x6] 1 ld_70 rfl rfl rfl rfl) gn rfl ?_
          refine wl_v 1 rfl (v_move rfl) gn rfl ?_
          refine wl_s 2 rfl (s_stB (vs := [.string ((ix x1 x6).name), .bool ((ix x1 x6).named), .string ((ix x1 x6).field), .int .i64 ((ix x1 x6).from_), .int .i64 ((ix x1 x6).to), .int .i64 ((ix x1 x6).kids), .int .i64 ((ix x1 x6).leaf), .slice A67 n68 c69, .int .i64 x6]) (cs' := [.string ((ix x1 x6).name), .bool ((ix x1 x6).named), .string ((ix x1 x6).field), .int .i64 ((ix x1 x6).from_), .int .i64 ((ix x1 x6).to), .int .i64 ((ix x1 x6).kids), .int .i64 ((ix x1 x6).leaf), .slice A67 n68 c69, .int .i64 x6]) (M' := [.own (.slice A67 n68 c69) 70 9 n68 cs71, .box gb19 70 [.string ((ix x1 x6).name), .bool ((ix x1 x6).named), .string ((ix x1 x6).field), .int .i64 ((ix x1 x6).from_), .int .i64 ((ix x1 x6).to), .int .i64 ((ix x1 x6).kids), .int .i64 ((ix x1 x6).leaf), .slice A67 n68 c69, .int .i64 x6], .box gb7 70 [.string ((ix x1 x6).name), .bool ((ix x1 x6).named), .string ((ix x1 x6).field), .int .i64 ((ix x1 x6).from_), .int .i64 ((ix x1 x6).to), .int .i64 ((ix x1 x6).kids), .int .i64 ((ix x1 x6).leaf), .slice A67 n68 c69, .int .i64 x6]]) 2 sz_70 rfl rfl rfl rfl rfl rfl rfl rfl rfl ?_) gn
          refine wl_v 3 rfl (v_assign rfl) gn rfl ?_
          refine wl_v 4 rfl (v_assign rfl) gn rfl ?_
          refine w_end 5 rfl ?_
          have h := Out.inr hO1 h
          refine g_retR (c := trellisref15_take_c43) [.agg #[.string ((ix x1 x6).name), .bool ((ix x1 x6).named), .string ((ix x1 x6).field), .int .i64 ((ix x1 x6).from_), .int .i64 ((ix x1 x6).to), .int .i64 ((ix x1 x6).kids), .int .i64 ((ix x1 x6).leaf), .slice A67 n68 c69, .int .i64 x6], .int .i64 x64, .bool true] rfl Try.func64 rfl (.cell (cs := [.string ((ix x1 x6).name), .bool ((ix x1 x6).named), .string ((ix x1 x6).field), .int .i64 ((ix x1 x6).from_), .int .i64 ((ix x1 x6).to), .int .i64 ((ix x1 x6).kids), .int .i64 ((ix x1 x6).leaf), .slice A67 n68 c69, .int .i64 x6]) (us := [.string ((ix x1 x6).name), .bool ((ix x1 x6).named), .string ((ix x1 x6).field), .int .i64 ((ix x1 x6).from_), .int .i64 ((ix x1 x6).to), .int .i64 ((ix x1 x6).kids), .int .i64 ((ix x1 x6).leaf), .slice A67 n68 c69, .int .i64 x6]) 2 rfl ld_70 rfl rfl rfl (.tmp rfl (.tmp rfl (.nil)))) fun wr hLr => ?_
          have hMr : B.Loc w wr [.own (.slice A67 n68 c69) 70 9 n68 cs71] [St w []] := hLr.pick (rest := [.box gb19 70 [.string ((ix x1 x6).name), .bool ((ix x1 x6).named), .string ((ix x1 x6).field), .int .i64 ((ix x1 x6).from_), .int .i64 ((ix x1 x6).to), .int .i64 ((ix x1 x6).kids), .int .i64 ((ix x1 x6).leaf), .slice A67 n68 c69, .int .i64 x6], .box gb7 70 [.string ((ix x1 x6).name), .bool ((ix x1 x6).named), .string ((ix x1 x6).field), .int .i64 ((ix x1 x6).from_), .int .i64 ((ix x1 x6).to), .int .i64 ((ix x1 x6).kids), .int .i64 ((ix x1 x6).leaf), .slice A67 n68 c69, .int .i64 x6]]) (perm_of_idx [0] [1, 2] rfl rfl (by kernel_rfl)) (sels [2] rfl)
          have hMi : ∀ e ∈ ([.own (.slice A67 n68 c69) 70 9 n68 cs71] : List Ent), e ∈ ([.own (.slice A67 n68 c69) 70 9 n68 cs71, .box gb19 70 [.string ((ix x1 x6).name), .bool ((ix x1 x6).named), .string ((ix x1 x6).field), .int .i64 ((ix x1 x6).from_), .int .i64 ((ix x1 x6).to), .int .i64 ((ix x1 x6).kids), .int .i64 ((ix x1 x6).leaf), .slice A67 n68 c69, .int .i64 x6], .box gb7 70 [.string ((ix x1 x6).name), .bool ((ix x1 x6).named), .string ((ix x1 x6).field), .int .i64 ((ix x1 x6).from_), .int .i64 ((ix x1 x6).to), .int .i64 ((ix x1 x6).kids), .int .i64 ((ix x1 x6).leaf), .slice A67 n68 c69, .int .i64 x6]] : List Ent) := sels [0] rfl
          show trellisref15_take_R w F  r (.returned (packV [.agg #[.string ((ix x1 x6).name), .bool ((ix x1 x6).named), .string ((ix x1 x6).field), .int .i64 ((ix x1 x6).from_), .int .i64 ((ix x1 x6).to), .int .i64 ((ix x1 x6).kids), .int .i64 ((ix x1 x6).leaf), .slice A67 n68 c69, .int .i64 x6], .int .i64 x64, .bool true])) wr
          rw [h]
          exact ⟨A67, n68, c69, cs71, rfl, hMr, h70, (hLr.outC (s := Sm w.heap.size F sw72 sb73) hMi (me 0 rfl) Sm.ok hC74)⟩
      refine g_nil 70 9 ?_
      exact g_go [0, 0, 1] (key2 _ h none 0 0 (Ow.nil (z := w.heap.size)) [] w [] Cells.nil) ⟨rfl, rfl, rfl, rfl, rfl, rfl, trivial⟩ (.cons_cons _ (.cons_cons _ (.cons_cons _ (.slnil)))) rfl
  refine g_region (c := trellisref15_take_c5) rfl rfl ?_
  refine wl_v 0 rfl (v_move rfl) gn rfl ?_
  refine wl_v 1 rfl (v_move rfl) gn rfl ?_
  refine wl_v 2 rfl (v_lenQ un_22 rfl h5.hq) gn rfl ?_
  refine wl_v 3 rfl (v_bin rfl rfl rfl) gn rfl ?_
  refine wl_v 4 rfl (v_move rfl) gn rfl ?_
  by_cases hp157 : x6 ≥ (x1.length : Int)
  · have h := if_pos' hp157 h
    refine w_bool 17 rfl ((decide_eq_true hp157)) ?_
    refine wl_pass 5 rfl (ps 17 rfl rfl rfl) ?_
    refine wl_pass 6 rfl (ps 17 rfl rfl rfl) ?_
    refine wl_pass 7 rfl (ps 17 rfl rfl rfl) ?_
    refine wl_pass 8 rfl (ps 17 rfl rfl rfl) ?_
    refine wl_pass 9 rfl (ps 17 rfl rfl rfl) ?_
    refine wl_pass 10 rfl (ps 17 rfl rfl rfl) ?_
    refine wl_v 11 rfl (v_pick (b := true) rfl rfl) gn rfl ?_
    refine wl_v 12 rfl (v_move rfl) gn rfl ?_
    refine wl_pass 13 rfl (ps 25 rfl rfl rfl) ?_
    refine wl_pass 14 rfl (ps 25 rfl rfl rfl) ?_
    refine wl_pass 15 rfl (ps 25 rfl rfl rfl) ?_
    refine wl_pass 16 rfl (ps 25 rfl rfl rfl) ?_
    refine wl_pass 17 rfl (ps 25 rfl rfl rfl) ?_
    refine wl_pass 18 rfl (ps 25 rfl rfl rfl) ?_
    refine wl_pass 19 rfl (ps 25 rfl rfl rfl) ?_
    refine wl_pass 20 rfl (ps 25 rfl rfl rfl) ?_
    refine wl_v 21 rfl (v_pick (b := true) rfl rfl) gn rfl ?_
    refine w_end 22 rfl ?_
    exact g_go [0, 1] (j1 true h) ⟨rfl, rfl, rfl, rfl, trivial⟩ (.cons_cons _ (.slnil)) rfl
  · have h := if_neg' hp157 h
    refine w_bool 17 rfl ((decide_eq_false hp157)) ?_
    refine wl_v 5 rfl (v_move rfl) (gy 17 rfl rfl) rfl ?_
    refine wl_v 6 rfl (v_move rfl) (gy 17 rfl rfl) rfl ?_
    obtain ⟨hb158, h⟩ := h
    have hr159 := Rw.readF (s := St w []) (hl := hl_api_Node) (h1 := h1_api_Node) h5 hb158
    refine wl_v 7 rfl (v_idxR (s := St w []) slE_22 rfl rfl h5 hb158) (gy 17 rfl rfl) rfl ?_
    refine wl_v 8 rfl (v_fldA fo_39_5 rfl) (gy 17 rfl rfl) rfl ?_
    refine wl_v 9 rfl (v_ldA1 (kk := (x6 : Int).toNat * 7) (j := 5) (St w []) ld_3 rfl hr159 rfl (me 1 rfl)) (gy 17 rfl rfl) rfl ?_
    refine wl_v 10 rfl (v_bin rfl rfl rfl) (gy 17 rfl rfl) rfl ?_
    refine wl_v 11 rfl (v_pick (b := false) rfl rfl) gn rfl ?_
    refine wl_v 12 rfl (v_move rfl) gn rfl ?_
    by_cases hp160 : (ix x1 x6).kids < 0
    · have h := if_pos' hp160 h
      refine w_bool 25 rfl ((decide_eq_true hp160)) ?_
      refine wl_pass 13 rfl (ps 25 rfl rfl rfl) ?_
      refine wl_pass 14 rfl (ps 25 rfl rfl rfl) ?_
      refine wl_pass 15 rfl (ps 25 rfl rfl rfl) ?_
      refine wl_pass 16 rfl (ps 25 rfl rfl rfl) ?_
      refine wl_pass 17 rfl (ps 25 rfl rfl rfl) ?_
      refine wl_pass 18 rfl (ps 25 rfl rfl rfl) ?_
      refine wl_pass 19 rfl (ps 25 rfl rfl rfl) ?_
      refine wl_pass 20 rfl (ps 25 rfl rfl rfl) ?_
      refine wl_v 21 rfl (v_pick (b := true) rfl rfl) gn rfl ?_
      refine w_end 22 rfl ?_
      exact g_go [0, 1] (j1 true h) ⟨rfl, rfl, rfl, rfl, trivial⟩ (.cons_cons _ (.slnil)) rfl
    · have h := if_neg' hp160 h
      refine w_bool 25 rfl ((decide_eq_false hp160)) ?_
      refine wl_v 13 rfl (v_move rfl) (gy 25 rfl rfl) rfl ?_
      refine wl_v 14 rfl (v_move rfl) (gy 25 rfl rfl) rfl ?_
      have hr161 := Rw.readF (s := St w []) (hl := hl_api_Node) (h1 := h1_api_Node) h5 hb158
      refine wl_v 15 rfl (v_idxR (s := St w []) slE_22 rfl rfl h5 hb158) (gy 25 rfl rfl) rfl ?_
      refine wl_v 16 rfl (v_fldA fo_39_5 rfl) (gy 25 rfl rfl) rfl ?_
      refine wl_v 17 rfl (v_ldA1 (kk := (x6 : Int).toNat * 7) (j := 5) (St w []) ld_3 rfl hr161 rfl (me 1 rfl)) (gy 25 rfl rfl) rfl ?_
      refine wl_v 18 rfl (v_move rfl) (gy 25 rfl rfl) rfl ?_
      refine wl_v 19 rfl (v_lenQ un_22 rfl h5.hq) (gy 25 rfl rfl) rfl ?_
      refine wl_v 20 rfl (v_bin rfl rfl rfl) (gy 25 rfl rfl) rfl ?_
      refine wl_v 21 rfl (v_pick (b := false) rfl rfl) gn rfl ?_
      refine w_end 22 rfl ?_
      exact g_go [0, 1] (j1 (decide ((ix x1 x6).kids > (x1.length : Int))) h) ⟨rfl, rfl, rfl, rfl, trivial⟩ (.cons_cons _ (.slnil)) rfl
theorem trellisref15_take_ind : ∀ n, trellisref15_take_st (trellisref15_take_n n)
  | 0 => fun w F x1 x6 A2 n3 c4 h5 hF hL0 r h => h.elim
  | n + 1 => by
    have ih := trellisref15_take_ind n
    exact trellisref15_take_step _ ih
theorem trellisref15_take_calls (w : World) (F : Nat → Prop) (x1 : List api_Node) (x6 : Int) (A2 : Option Addr) (n3 : Nat) (c4 : Nat) (h5 : Rw k_api_Node w (St w []).av A2 n3 c4 x1) (hF : ∀ b, F b → b < w.heap.size ∧ ∀ o ∈ ([] : List (List Nat)), b ∉ o) (hL0 : B.Loc w w [] [Sm w.heap.size F w [], St w []]) (r : trellisref15_Tree × Int × Bool) (h : trellisref15_take x1 x6 r) : Calls Try.prog 64 #[.slice A2 n3 c4, .int .i64 x6] w (trellisref15_take_R w F  r) := by
  obtain ⟨n, h⟩ := h
  exact (trellisref15_take_ind n) w F x1 x6 A2 n3 c4 h5 hF hL0 r h
noncomputable abbrev trellisref15_Forest_c0 : Code := bodyOf Try.f62
noncomputable abbrev trellisref15_Forest_c1 : Code := Code.fst trellisref15_Forest_c0
noncomputable abbrev trellisref15_Forest_c2 : Code := Code.snd trellisref15_Forest_c0
noncomputable abbrev trellisref15_Forest_c3 : Code := Code.fst trellisref15_Forest_c2
noncomputable abbrev trellisref15_Forest_c4 : Code := Code.snd trellisref15_Forest_c2
noncomputable abbrev trellisref15_Forest_c5 : Code := Code.fst trellisref15_Forest_c4
noncomputable abbrev trellisref15_Forest_c6 : Code := Code.snd trellisref15_Forest_c4
noncomputable abbrev trellisref15_Forest_c7 : Code := Code.fst trellisref15_Forest_c6
noncomputable abbrev trellisref15_Forest_c8 : Code := Code.snd trellisref15_Forest_c6
noncomputable abbrev trellisref15_Forest_c9 : Code := Code.fst trellisref15_Forest_c7
noncomputable abbrev trellisref15_Forest_c10 : Code := Code.fst trellisref15_Forest_c9
noncomputable abbrev trellisref15_Forest_c11 : Code := Code.fst trellisref15_Forest_c10
noncomputable abbrev trellisref15_Forest_c12 : Code := Code.snd trellisref15_Forest_c10
noncomputable abbrev trellisref15_Forest_c13 : Code := Code.fst trellisref15_Forest_c11
noncomputable abbrev trellisref15_Forest_c14 : Code := Code.snd trellisref15_Forest_c11
noncomputable abbrev trellisref15_Forest_c15 : Code := Code.fst trellisref15_Forest_c14
noncomputable abbrev trellisref15_Forest_c16 : Code := Code.snd trellisref15_Forest_c14
noncomputable abbrev trellisref15_Forest_c17 : Code := Code.fst trellisref15_Forest_c12
noncomputable abbrev trellisref15_Forest_c18 : Code := Code.fst trellisref15_Forest_c17
noncomputable abbrev trellisref15_Forest_c19 : Code := Code.snd trellisref15_Forest_c17
noncomputable abbrev trellisref15_Forest_c20 : Code := Code.fst trellisref15_Forest_c19
noncomputable abbrev trellisref15_Forest_c21 : Code := Code.snd trellisref15_Forest_c19
noncomputable abbrev trellisref15_Forest_c22 : Code := Code.fst trellisref15_Forest_c20
noncomputable abbrev trellisref15_Forest_c23 : Code := Code.snd trellisref15_Forest_c20
noncomputable abbrev trellisref15_Forest_c24 : Code := Code.fst trellisref15_Forest_c23
noncomputable abbrev trellisref15_Forest_c25 : Code := Code.snd trellisref15_Forest_c23
noncomputable abbrev trellisref15_Forest_c26 : Code := Code.fst trellisref15_Forest_c21
noncomputable abbrev trellisref15_Forest_c27 : Code := Code.snd trellisref15_Forest_c21
noncomputable abbrev trellisref15_Forest_c28 : Code := Code.fst trellisref15_Forest_c24
noncomputable abbrev trellisref15_Forest_c29 : Code := Code.snd trellisref15_Forest_c24
noncomputable abbrev trellisref15_Forest_c30 : Code := Code.fst trellisref15_Forest_c8
noncomputable abbrev trellisref15_Forest_c31 : Code := Code.snd trellisref15_Forest_c8
abbrev trellisref15_Forest_R (w : World) (F : Nat → Prop) (r : (List trellisref15_Tree) × Bool) : Ending → World → Prop := fun e w' => ∃ A0 : Option Addr, ∃ n0 : Nat, ∃ c0 : Nat, ∃ cs0 : List Value, e = .returned (.tuple #[.slice A0 n0 c0, .bool r.2]) ∧ B.Loc w w' [.own (.slice A0 n0 c0) 70 9 n0 cs0] [St w []] ∧ Ow w.heap.size A0 n0 c0 r.1 ∧ Cells k_trellisref15_Tree w' (Nw w w' F [.own (.slice A0 n0 c0) 70 9 n0 cs0]) r.1 cs0
noncomputable abbrev trellisref15_Forest_C (w : World) (F : Nat → Prop) (r : (List trellisref15_Tree) × Bool) : Cx := ⟨Try.prog, 62, Try.f62, 28, trellisref15_Forest_R w F  r, w⟩
theorem trellisref15_Forest_calls (w : World) (F : Nat → Prop) (x1 : List api_Node) (A2 : Option Addr) (n3 : Nat) (c4 : Nat) (h5 : Rw k_api_Node w (St w []).av A2 n3 c4 x1) (hF : ∀ b, F b → b < w.heap.size ∧ ∀ o ∈ ([] : List (List Nat)), b ∉ o) (hL0 : B.Loc w w [] [Sm w.heap.size F w [], St w []]) (r : (List trellisref15_Tree) × Bool) (h : trellisref15_Forest x1 r) : Calls Try.prog 62 #[.slice A2 n3 c4] w (trellisref15_Forest_R w F  r) := by
  unfold trellisref15_Forest at h
  refine calls_of_Loc (vs := [.slice A2 n3 c4]) 28 Try.func62 rfl Try.ntmps62 rfl hL0 ?_
  show G (trellisref15_Forest_C w F r) _ _ _ _
  refine g_seq (c := trellisref15_Forest_c0) rfl ?_
  refine g_region (c := trellisref15_Forest_c1) rfl rfl ?_
  refine wl_v 0 rfl (v_assign rfl) gn rfl ?_
  refine wl_v 1 rfl (v_assign rfl) gn rfl ?_
  refine w_end 2 rfl ?_
  refine g_seq (c := trellisref15_Forest_c2) rfl ?_
  refine g_region (c := trellisref15_Forest_c3) rfl rfl ?_
  refine wl_v 0 rfl (v_assign rfl) gn rfl ?_
  refine w_end 1 rfl ?_
  refine g_seq (c := trellisref15_Forest_c4) rfl ?_
  refine g_region (c := trellisref15_Forest_c5) rfl rfl ?_
  refine wl_v 0 rfl (v_assign rfl) gn rfl ?_
  refine w_end 1 rfl ?_
  refine g_seq (c := trellisref15_Forest_c6) rfl ?_
  refine g_block (c := trellisref15_Forest_c7) rfl ?_
  refine g_loop (c := trellisref15_Forest_c9) rfl ?_
  have key1 : ∀ s, Rounds (fun (s : (List trellisref15_Tree) × Int) o => trellisref15_Forest_b1 x1 s.1 s.2 o) s r → (fun (s : (List trellisref15_Tree) × Int) => ∀ (A49 : Option Addr) (n50 : Nat) (c51 : Nat) (h52 : Ow w.heap.size A49 n50 c51 s.1) (cs53 : List Value) (sw54 : World) (sb55 : List (List Nat)) (hC56 : Cells k_trellisref15_Tree (Sm w.heap.size F sw54 sb55).w (Sm w.heap.size F sw54 sb55).av s.1 cs53), G (trellisref15_Forest_C w F r) [.code trellisref15_Forest_c10, .inLoop trellisref15_Forest_c10, .inBlock 0, .code trellisref15_Forest_c8] [(0, .slice A2 n3 c4), (4, .slice A49 n50 c51), (5, .int .i64 s.2)] [.own (.slice A49 n50 c51) 70 9 n50 cs53] [Sm w.heap.size F sw54 sb55, Sm w.heap.size F w [], St w []]) s := by
    intro s hs
    refine Rounds.ind (mot := (fun (s : (List trellisref15_Tree) × Int) => ∀ (A49 : Option Addr) (n50 : Nat) (c51 : Nat) (h52 : Ow w.heap.size A49 n50 c51 s.1) (cs53 : List Value) (sw54 : World) (sb55 : List (List Nat)) (hC56 : Cells k_trellisref15_Tree (Sm w.heap.size F sw54 sb55).w (Sm w.heap.size F sw54 sb55).av s.1 cs53), G (trellisref15_Forest_C w F r) [.code trellisref15_Forest_c10, .inLoop trellisref15_Forest_c10, .inBlock 0, .code trellisref15_Forest_c8] [(0, .slice A2 n3 c4), (4, .slice A49 n50 c51), (5, .int .i64 s.2)] [.own (.slice A49 n50 c51) 70 9 n50 cs53] [Sm w.heap.size F sw54 sb55, Sm w.heap.size F w [], St w []])) ?_ hs
    clear hs s
    intro s o1 h hO1
    obtain ⟨x48, x57⟩ := s
    show ∀ (A49 : Option Addr) (n50 : Nat) (c51 : Nat) (h52 : Ow w.heap.size A49 n50 c51 x48) (cs53 : List Value) (sw54 : World) (sb55 : List (List Nat)) (hC56 : Cells k_trellisref15_Tree (Sm w.heap.size F sw54 sb55).w (Sm w.heap.size F sw54 sb55).av x48 cs53), G (trellisref15_Forest_C w F r) [.code trellisref15_Forest_c10, .inLoop trellisref15_Forest_c10, .inBlock 0, .code trellisref15_Forest_c8] [(0, .slice A2 n3 c4), (4, .slice A49 n50 c51), (5, .int .i64 x57)] [.own (.slice A49 n50 c51) 70 9 n50 cs53] [Sm w.heap.size F sw54 sb55, Sm w.heap.size F w [], St w []]
    intro A49 n50 c51 h52 cs53 sw54 sb55 hC56
    have h : trellisref15_Forest_b1 x1 x48 x57 o1 := h
    unfold trellisref15_Forest_b1 at h
    refine g_seq (c := trellisref15_Forest_c10) rfl ?_
    refine g_seq (c := trellisref15_Forest_c11) rfl ?_
    refine g_region (c := trellisref15_Forest_c13) rfl rfl ?_
    refine wl_v 0 rfl (v_move rfl) gn rfl ?_
    refine wl_v 1 rfl (v_move rfl) gn rfl ?_
    refine wl_v 2 rfl (v_lenQ un_22 rfl h5.hq) gn rfl ?_
    refine wl_v 3 rfl (v_bin rfl rfl rfl) gn rfl ?_
    refine w_end 4 rfl ?_
    by_cases hp98 : x57 < (x1.length : Int)
    · have h := if_pos' hp98 h
      refine g_true (c := trellisref15_Forest_c14) rfl _ rfl ((decide_eq_true hp98)) ?_
      refine g_skip (c := trellisref15_Forest_c15) rfl ?_
      refine g_block (c := trellisref15_Forest_c12) rfl ?_
      refine g_seq (c := trellisref15_Forest_c17) rfl ?_
      refine g_region (c := trellisref15_Forest_c18) rfl rfl ?_
      refine wl_v 0 rfl (v_move rfl) gn rfl ?_
      refine wl_v 1 rfl (v_move rfl) gn rfl ?_
      obtain ⟨r102, hv103, h⟩ := h
      refine wl_s 2 rfl (s_call [.slice A2 n3 c4, .int .i64 x57] rfl Try.func64 rfl rfl rfl fun w99 hL100 => ?_) gn
      have hp101 : List.Perm ([.own (.slice A49 n50 c51) 70 9 n50 cs53] : List Ent) (([] : List Ent) ++ ([.own (.slice A49 n50 c51) 70 9 n50 cs53] : List Ent)) := perm_of_idx [] [0] rfl rfl (by kernel_rfl)
      refine Calls.mono (trellisref15_take_calls w99 (Fl ([] : List Snap)) x1 x57 A2 n3 c4 (Rw.mono h5 (hL100.toSt hp101 (me 2 rfl))) (hL100.hFl (Sl := ([] : List Snap)) hp101 (sels [] rfl)) (hL100.into hp101 (Fl ([] : List Snap))) r102 hv103) ?_
      rintro _ w111 ⟨A104, n105, c106, cs109, rfl, hM112, h107, hC110⟩
      obtain ⟨sb115, hL113, hv114⟩ := hL100.callB (Sl := ([] : List Snap)) hp101 hM112 F (sels [] rfl) trivial
      have hC110 : Cells k_trellisref15_Tree (Sm w.heap.size F w111 sb115).w (Sm w.heap.size F w111 sb115).av r102.1.kids cs109 := Cells.mono hv114 hC110
      refine ⟨_, _, _, rfl, hL113, ?_⟩
      refine wl_v 3 rfl (v_move rfl) gn rfl ?_
      refine wl_v 4 rfl (v_extract rfl rfl) gn rfl ?_
      refine wl_v 5 rfl (v_extract rfl rfl) gn rfl ?_
      refine wl_v 6 rfl (v_extract rfl rfl) gn rfl ?_
      refine wl_s 7 rfl (s_alloc [.string (⟨#[]⟩ : ByteArray), .bool false, .string (⟨#[]⟩ : ByteArray), .int .i64 0, .int .i64 0, .int .i64 0, .int .i64 0, .slice none 0 0, .int .i64 0] zr_70 rfl fun gb116 => ?_) gn
      refine wl_s 8 rfl (s_stB (vs := [.string r102.1.node.name, .bool r102.1.node.named, .string r102.1.node.field, .int .i64 r102.1.node.from_, .int .i64 r102.1.node.to, .int .i64 r102.1.node.kids, .int .i64 r102.1.node.leaf, .slice A104 n105 c106, .int .i64 r102.1.at_]) (cs' := [.string r102.1.node.name, .bool r102.1.node.named, .string r102.1.node.field, .int .i64 r102.1.node.from_, .int .i64 r102.1.node.to, .int .i64 r102.1.node.kids, .int .i64 r102.1.node.leaf, .slice A104 n105 c106, .int .i64 r102.1.at_]) (M' := [.box gb116 70 [.string r102.1.node.name, .bool r102.1.node.named, .string r102.1.node.field, .int .i64 r102.1.node.from_, .int .i64 r102.1.node.to, .int .i64 r102.1.node.kids, .int .i64 r102.1.node.leaf, .slice A104 n105 c106, .int .i64 r102.1.at_], .own (.slice A104 n105 c106) 70 9 n105 cs109, .own (.slice A49 n50 c51) 70 9 n50 cs53]) 0 sz_70 rfl rfl rfl rfl rfl rfl rfl rfl rfl ?_) gn
      refine wl_v 9 rfl (v_assign rfl) gn rfl ?_
      refine wl_v 10 rfl (v_assign rfl) gn rfl ?_
      refine w_end 11 rfl ?_
      refine g_seq (c := trellisref15_Forest_c19) rfl ?_
      refine g_seq (c := trellisref15_Forest_c20) rfl ?_
      refine g_region (c := trellisref15_Forest_c22) rfl rfl ?_
      refine wl_v 0 rfl (v_move rfl) gn rfl ?_
      refine wl_v 1 rfl (v_not rfl) gn rfl ?_
      refine w_end 2 rfl ?_
      by_cases hp118 : r102.2.2 = true
      · have h := if_pos' hp118 h
        refine g_false (c := trellisref15_Forest_c23) rfl _ rfl ((nf hp118)) ?_
        refine g_skip (c := trellisref15_Forest_c25) rfl ?_
        refine g_seq (c := trellisref15_Forest_c21) rfl ?_
        refine g_region (c := trellisref15_Forest_c26) rfl rfl ?_
        refine wl_v 0 rfl (v_move rfl) gn rfl ?_
        refine wl_v 1 rfl (v_ldB [.string r102.1.node.name, .bool r102.1.node.named, .string r102.1.node.field, .int .i64 r102.1.node.from_, .int .i64 r102.1.node.to, .int .i64 r102.1.node.kids, .int .i64 r102.1.node.leaf, .slice A104 n105 c106, .int .i64 r102.1.at_] 0 ld_70 rfl rfl rfl rfl) gn rfl ?_
        refine w_freeze (F := F) (dk := k_trellisref15_Tree) (Sm w.heap.size F w111 sb115) 1 rfl (Ow.weak hL100.env.size h107) (me 0 rfl) Sm.ok hC110 fun sw120 sb121 h119 => ?_
        have hC123 : Cells k_trellisref15_Tree (Sm w.heap.size F sw120 sb121).w (Sm w.heap.size F sw120 sb121).av ([r102.1] : List trellisref15_Tree) [.string r102.1.node.name, .bool r102.1.node.named, .string r102.1.node.field, .int .i64 r102.1.node.from_, .int .i64 r102.1.node.to, .int .i64 r102.1.node.kids, .int .i64 r102.1.node.leaf, .slice A104 n105 c106, .int .i64 r102.1.at_] := (Cells.cons (c1 := [.string r102.1.node.name, .bool r102.1.node.named, .string r102.1.node.field, .int .i64 r102.1.node.from_, .int .i64 r102.1.node.to, .int .i64 r102.1.node.kids, .int .i64 r102.1.node.leaf, .slice A104 n105 c106, .int .i64 r102.1.at_]) (k_trellisref15_Tree_in ⟨A104, n105, c106, rfl, h119⟩) Cells.nil)
        refine wl_s 2 rfl (s_litO (xs := ([r102.1] : List trellisref15_Tree)) [.string r102.1.node.name, .bool r102.1.node.named, .string r102.1.node.field, .int .i64 r102.1.node.from_, .int .i64 r102.1.node.to, .int .i64 r102.1.node.kids, .int .i64 r102.1.node.leaf, .slice A104 n105 c106, .int .i64 r102.1.at_] bs_66_1 rfl (by kernel_rfl) rfl rfl rfl rfl fun gb124 h125 => ?_) gn
        obtain ⟨x132, hv133, h⟩ := h
        obtain ⟨hb134, h⟩ := h
        refine w_mark (F := F) fun sw129 sb130 ho131 => ?_
        obtain ⟨cs135, hc136⟩ : ∃ x : List Value, x = cs53 ++ [.string r102.1.node.name, .bool r102.1.node.named, .string r102.1.node.field, .int .i64 r102.1.node.from_, .int .i64 r102.1.node.to, .int .i64 r102.1.node.kids, .int .i64 r102.1.node.leaf, .slice A104 n105 c106, .int .i64 r102.1.at_] := ⟨_, rfl⟩
        have hC137 : Cells k_trellisref15_Tree (Sm w.heap.size F sw129 sb130).w (Sm w.heap.size F sw129 sb130).av x132 cs135 := by rw [hv133, hc136]; exact Cells.app (Cells.older (s := Sm w.heap.size F sw54 sb55) hC56 (ho131 _ (me 2 rfl) Sm.ok)) (Cells.older (s := Sm w.heap.size F sw120 sb121) hC123 (ho131 _ (me 0 rfl) Sm.ok))
        refine wl_s 3 rfl (s_app (zs := x132) 2 ap_66 rfl rfl rfl h52 (Nat.le_refl _) (Src.ownAll 0 rfl h125 hC123) hc136.symm (app_len hv133 h125.hq) hb134 rfl rfl fun A126 c127 h128 => ?_) gn
        refine wl_v 4 rfl (v_assign rfl) gn rfl ?_
        refine w_end 5 rfl ?_
        refine g_region (c := trellisref15_Forest_c27) rfl rfl ?_
        refine wl_v 0 rfl (v_move rfl) gn rfl ?_
        refine wl_v 1 rfl (v_assign rfl) gn rfl ?_
        refine w_end 2 rfl ?_
        refine g_inBlock ?_
        refine g_inLoop ?_
        have ih := Out.inl hO1 h
        exact g_go [0, 4, 5] (ih A126 (n50 + 1) c127 h128 cs135 sw129 sb130 hC137) ⟨rfl, rfl, rfl, trivial⟩ (.cons _ (.cons _ (.cons_cons _ (.slnil)))) rfl
      · have h := if_neg' hp118 h
        refine g_true (c := trellisref15_Forest_c23) rfl _ rfl ((nt (bf hp118))) ?_
        refine g_seq (c := trellisref15_Forest_c24) rfl ?_
        refine g_region (c := trellisref15_Forest_c28) rfl rfl ?_
        refine wl_v 0 rfl (v_assign rfl) gn rfl ?_
        refine wl_v 1 rfl (v_assign rfl) gn rfl ?_
        refine w_end 2 rfl ?_
        refine g_nil 70 9 ?_
        have h := Out.inr hO1 h
        refine g_retR (c := trellisref15_Forest_c29) [.slice none 0 0, .bool false] rfl Try.func62 rfl (.tmp rfl (.tmp rfl (.nil))) fun wr hLr => ?_
        have hMr : B.Loc w wr [.own (.slice none 0 0) 70 9 0 []] [St w []] := hLr.pick (rest := [.box gb116 70 [.string r102.1.node.name, .bool r102.1.node.named, .string r102.1.node.field, .int .i64 r102.1.node.from_, .int .i64 r102.1.node.to, .int .i64 r102.1.node.kids, .int .i64 r102.1.node.leaf, .slice A104 n105 c106, .int .i64 r102.1.at_], .own (.slice A104 n105 c106) 70 9 n105 cs109, .own (.slice A49 n50 c51) 70 9 n50 cs53]) (perm_of_idx [0] [1, 2, 3] rfl rfl (by kernel_rfl)) (sels [3] rfl)
        have hMi : ∀ e ∈ ([.own (.slice none 0 0) 70 9 0 []] : List Ent), e ∈ ([.own (.slice none 0 0) 70 9 0 [], .box gb116 70 [.string r102.1.node.name, .bool r102.1.node.named, .string r102.1.node.field, .int .i64 r102.1.node.from_, .int .i64 r102.1.node.to, .int .i64 r102.1.node.kids, .int .i64 r102.1.node.leaf, .slice A104 n105 c106, .int .i64 r102.1.at_], .own (.slice A104 n105 c106) 70 9 n105 cs109, .own (.slice A49 n50 c51) 70 9 n50 cs53] : List Ent) := sels [0] rfl
        show trellisref15_Forest_R w F  r (.returned (packV [.slice none 0 0, .bool false])) wr
        rw [h]
        exact ⟨none, 0, 0, [], rfl, hMr, (Ow.nil (z := w.heap.size)), (hLr.outC (s := Sm w.heap.size F w []) hMi (me 2 rfl) Sm.ok Cells.nil)⟩
    · have h := if_neg' hp98 h
      refine g_false (c := trellisref15_Forest_c14) rfl _ rfl ((decide_eq_false hp98)) ?_
      refine g_exit (c := trellisref15_Forest_c16) [.code trellisref15_Forest_c8] rfl rfl ?_
      refine g_seq (c := trellisref15_Forest_c8) rfl ?_
      refine g_region (c := trellisref15_Forest_c30) rfl rfl ?_
      refine wl_v 0 rfl (v_move rfl) gn rfl ?_
      refine wl_v 1 rfl (v_assign rfl) gn rfl ?_
      refine wl_v 2 rfl (v_assign rfl) gn rfl ?_
      refine w_end 3 rfl ?_
      have h := Out.inr hO1 h
      refine g_retR (c := trellisref15_Forest_c31) [.slice A49 n50 c51, .bool true] rfl Try.func62 rfl (.tmp rfl (.tmp rfl (.nil))) fun wr hLr => ?_
      have hMr : B.Loc w wr [.own (.slice A49 n50 c51) 70 9 n50 cs53] [St w []] := hLr.pick (rest := []) (perm_of_idx [0] [] rfl rfl (by kernel_rfl)) (sels [2] rfl)
      have hMi : ∀ e ∈ ([.own (.slice A49 n50 c51) 70 9 n50 cs53] : List Ent), e ∈ ([.own (.slice A49 n50 c51) 70 9 n50 cs53] : List Ent) := sels [0] rfl
      show trellisref15_Forest_R w F  r (.returned (packV [.slice A49 n50 c51, .bool true])) wr
      rw [h]
      exact ⟨A49, n50, c51, cs53, rfl, hMr, h52, (hLr.outC (s := Sm w.heap.size F sw54 sb55) hMi (me 0 rfl) Sm.ok hC56)⟩
  refine g_nil 70 9 ?_
  exact g_go [0, 0, 1] (key1 _ h none 0 0 (Ow.nil (z := w.heap.size)) [] w [] Cells.nil) ⟨rfl, rfl, rfl, trivial⟩ (.cons_cons _ (.slnil)) rfl
noncomputable abbrev trellisref15_find_c0 : Code := bodyOf Try.f63
noncomputable abbrev trellisref15_find_c1 : Code := Code.fst trellisref15_find_c0
noncomputable abbrev trellisref15_find_c2 : Code := Code.snd trellisref15_find_c0
noncomputable abbrev trellisref15_find_c3 : Code := Code.fst trellisref15_find_c2
noncomputable abbrev trellisref15_find_c4 : Code := Code.snd trellisref15_find_c2
noncomputable abbrev trellisref15_find_c5 : Code := Code.fst trellisref15_find_c3
noncomputable abbrev trellisref15_find_c6 : Code := Code.snd trellisref15_find_c3
noncomputable abbrev trellisref15_find_c7 : Code := Code.fst trellisref15_find_c6
noncomputable abbrev trellisref15_find_c8 : Code := Code.fst trellisref15_find_c7
noncomputable abbrev trellisref15_find_c9 : Code := Code.fst trellisref15_find_c8
noncomputable abbrev trellisref15_find_c10 : Code := Code.snd trellisref15_find_c8
noncomputable abbrev trellisref15_find_c11 : Code := Code.fst trellisref15_find_c9
noncomputable abbrev trellisref15_find_c12 : Code := Code.snd trellisref15_find_c9
noncomputable abbrev trellisref15_find_c13 : Code := Code.fst trellisref15_find_c12
noncomputable abbrev trellisref15_find_c14 : Code := Code.snd trellisref15_find_c12
noncomputable abbrev trellisref15_find_c15 : Code := Code.fst trellisref15_find_c10
noncomputable abbrev trellisref15_find_c16 : Code := Code.snd trellisref15_find_c10
noncomputable abbrev trellisref15_find_c17 : Code := Code.fst trellisref15_find_c15
noncomputable abbrev trellisref15_find_c18 : Code := Code.fst trellisref15_find_c17
noncomputable abbrev trellisref15_find_c19 : Code := Code.snd trellisref15_find_c17
noncomputable abbrev trellisref15_find_c20 : Code := Code.fst trellisref15_find_c18
noncomputable abbrev trellisref15_find_c21 : Code := Code.snd trellisref15_find_c18
noncomputable abbrev trellisref15_find_c22 : Code := Code.fst trellisref15_find_c21
noncomputable abbrev trellisref15_find_c23 : Code := Code.snd trellisref15_find_c21
noncomputable abbrev trellisref15_find_c24 : Code := Code.fst trellisref15_find_c22
noncomputable abbrev trellisref15_find_c25 : Code := Code.snd trellisref15_find_c22
noncomputable abbrev trellisref15_find_c26 : Code := Code.fst trellisref15_find_c19
noncomputable abbrev trellisref15_find_c27 : Code := Code.snd trellisref15_find_c19
noncomputable abbrev trellisref15_find_c28 : Code := Code.fst trellisref15_find_c27
noncomputable abbrev trellisref15_find_c29 : Code := Code.snd trellisref15_find_c27
noncomputable abbrev trellisref15_find_c30 : Code := Code.fst trellisref15_find_c29
noncomputable abbrev trellisref15_find_c31 : Code := Code.snd trellisref15_find_c29
noncomputable abbrev trellisref15_find_c32 : Code := Code.fst trellisref15_find_c30
noncomputable abbrev trellisref15_find_c33 : Code := Code.snd trellisref15_find_c30
noncomputable abbrev trellisref15_find_c34 : Code := Code.fst trellisref15_find_c4
noncomputable abbrev trellisref15_find_c35 : Code := Code.snd trellisref15_find_c4
abbrev trellisref15_find_R (w : World) (F : Nat → Prop) (r : trellisref15_Tree × Int × Bool) : Ending → World → Prop := fun e w' => ∃ A0 : Option Addr, ∃ n0 : Nat, ∃ c0 : Nat, e = .returned (.tuple #[.agg #[.string r.1.node.name, .bool r.1.node.named, .string r.1.node.field, .int .i64 r.1.node.from_, .int .i64 r.1.node.to, .int .i64 r.1.node.kids, .int .i64 r.1.node.leaf, .slice A0 n0 c0, .int .i64 r.1.at_], .int .i64 r.2.1, .bool r.2.2]) ∧ B.Loc w w' [] [St w []] ∧ Rw k_trellisref15_Tree w' (Nw w w' F []) A0 n0 c0 r.1.kids
noncomputable abbrev trellisref15_find_C (w : World) (F : Nat → Prop) (r : trellisref15_Tree × Int × Bool) : Cx := ⟨Try.prog, 63, Try.f63, 51, trellisref15_find_R w F  r, w⟩
def trellisref15_find_st (rl : (List trellisref15_Tree) → Int → Int → (trellisref15_Tree × Int × Bool) → Prop) : Prop := ∀ (w : World) (F : Nat → Prop) (x1 : List trellisref15_Tree) (x6 : Int) (x7 : Int) (A2 : Option Addr) (n3 : Nat) (c4 : Nat) (h5 : Rw k_trellisref15_Tree w F A2 n3 c4 x1) (hF : ∀ b, F b → b < w.heap.size ∧ ∀ o ∈ ([] : List (List Nat)), b ∉ o) (hL0 : B.Loc w w [] [Sm w.heap.size F w [], St w []]) (r : trellisref15_Tree × Int × Bool) (h : rl x1 x6 x7 r), Calls Try.prog 63 #[.slice A2 n3 c4, .int .i64 x6, .int .i64 x7] w (trellisref15_find_R w F  r)
theorem trellisref15_find_step (rc_trellisref15_find : (List trellisref15_Tree) → Int → Int → (trellisref15_Tree × Int × Bool) → Prop) (ih_trellisref15_find : trellisref15_find_st rc_trellisref15_find) : trellisref15_find_st (trellisref15_find_body rc_trellisref15_find) := by
  intro w F x1 x6 x7 A2 n3 c4 h5 hF hL0 r h
  unfold trellisref15_find_body at h
  have h5 := Rw.into (bs := []) hF h5
  refine calls_of_Loc (vs := [.slice A2 n3 c4, .int .i64 x6, .int .i64 x7]) 51 Try.func63 rfl Try.ntmps63 rfl hL0 ?_
  show G (trellisref15_find_C w F r) _ _ _ _
  refine g_seq (c := trellisref15_find_c0) rfl ?_
  refine g_region (c := trellisref15_find_c1) rfl rfl ?_
  refine wl_s 0 rfl (s_alloc [.string (⟨#[]⟩ : ByteArray), .bool false, .string (⟨#[]⟩ : ByteArray), .int .i64 0, .int .i64 0, .int .i64 0, .int .i64 0, .slice none 0 0, .int .i64 0] zr_70 rfl fun gb8 => ?_) gn
  refine wl_v 1 rfl (v_assign rfl) gn rfl ?_
  refine wl_v 2 rfl (v_assign rfl) gn rfl ?_
  refine w_end 3 rfl ?_
  refine g_seq (c := trellisref15_find_c2) rfl ?_
  refine g_seq (c := trellisref15_find_c3) rfl ?_
  refine g_region (c := trellisref15_find_c5) rfl rfl ?_
  refine wl_v 0 rfl (v_assign rfl) gn rfl ?_
  refine w_end 1 rfl ?_
  refine g_block (c := trellisref15_find_c6) rfl ?_
  refine g_loop (c := trellisref15_find_c7) rfl ?_
  have key1 : ∀ s, Rounds (fun (s : Int) o => trellisref15_find_b1 x1 x6 x7 rc_trellisref15_find s o) s r → (fun (s : Int) => ∀ (_ : Unit), G (trellisref15_find_C w F r) [.code trellisref15_find_c8, .inLoop trellisref15_find_c8, .inBlock 0, .code trellisref15_find_c4] [(0, .slice A2 n3 c4), (1, .int .i64 x6), (2, .int .i64 x7), (6, .pointer (some ⟨gb8, 0, none⟩)), (9, .int .i64 s)] [.box gb8 70 [.string (⟨#[]⟩ : ByteArray), .bool false, .string (⟨#[]⟩ : ByteArray), .int .i64 0, .int .i64 0, .int .i64 0, .int .i64 0, .slice none 0 0, .int .i64 0]] [Sm w.heap.size F w [], St w []]) s := by
    intro s hs
    refine Rounds.ind (mot := (fun (s : Int) => ∀ (_ : Unit), G (trellisref15_find_C w F r) [.code trellisref15_find_c8, .inLoop trellisref15_find_c8, .inBlock 0, .code trellisref15_find_c4] [(0, .slice A2 n3 c4), (1, .int .i64 x6), (2, .int .i64 x7), (6, .pointer (some ⟨gb8, 0, none⟩)), (9, .int .i64 s)] [.box gb8 70 [.string (⟨#[]⟩ : ByteArray), .bool false, .string (⟨#[]⟩ : ByteArray), .int .i64 0, .int .i64 0, .int .i64 0, .int .i64 0, .slice none 0 0, .int .i64 0]] [Sm w.heap.size F w [], St w []])) ?_ hs
    clear hs s
    intro x199 o1 h hO1
    show ∀ (_ : Unit), G (trellisref15_find_C w F r) [.code trellisref15_find_c8, .inLoop trellisref15_find_c8, .inBlock 0, .code trellisref15_find_c4] [(0, .slice A2 n3 c4), (1, .int .i64 x6), (2, .int .i64 x7), (6, .pointer (some ⟨gb8, 0, none⟩)), (9, .int .i64 x199)] [.box gb8 70 [.string (⟨#[]⟩ : ByteArray), .bool false, .string (⟨#[]⟩ : ByteArray), .int .i64 0, .int .i64 0, .int .i64 0, .int .i64 0, .slice none 0 0, .int .i64 0]] [Sm w.heap.size F w [], St w []]
    intro _
    have h : trellisref15_find_b1 x1 x6 x7 rc_trellisref15_find x199 o1 := h
    unfold trellisref15_find_b1 at h
    refine g_seq (c := trellisref15_find_c8) rfl ?_
    refine g_seq (c := trellisref15_find_c9) rfl ?_
    refine g_region (c := trellisref15_find_c11) rfl rfl ?_
    refine wl_v 0 rfl (v_move rfl) gn rfl ?_
    refine wl_v 1 rfl (v_move rfl) gn rfl ?_
    refine wl_v 2 rfl (v_lenQ un_66 rfl h5.hq) gn rfl ?_
    refine wl_v 3 rfl (v_bin rfl rfl rfl) gn rfl ?_
    refine w_end 4 rfl ?_
    by_cases hp388 : x199 < (x1.length : Int)
    · have h := if_pos' hp388 h
      refine g_true (c := trellisref15_find_c12) rfl _ rfl ((decide_eq_true hp388)) ?_
      refine g_skip (c := trellisref15_find_c13) rfl ?_
      refine g_seq (c := trellisref15_find_c10) rfl ?_
      refine g_block (c := trellisref15_find_c15) rfl ?_
      refine g_seq (c := trellisref15_find_c17) rfl ?_
      refine g_seq (c := trellisref15_find_c18) rfl ?_
      refine g_region (c := trellisref15_find_c20) rfl rfl ?_
      refine wl_v 0 rfl (v_move rfl) gn rfl ?_
      refine wl_v 1 rfl (v_move rfl) gn rfl ?_
      obtain ⟨hb389, h⟩ := h
      obtain ⟨ce391, hK392, hr390⟩ := Rw.read (s := Sm w.heap.size F w []) h5 hb389
      obtain ⟨A393, n394, c395, rfl, h396⟩ := k_trellisref15_Tree_out hK392
      refine wl_v 2 rfl (v_idxR (s := Sm w.heap.size F w []) slE_66 rfl rfl h5 hb389) gn rfl ?_
      refine wl_v 3 rfl (v_fldA fo_70_2 rfl) gn rfl ?_
      refine wl_v 4 rfl (v_ldA1 (kk := (x199 : Int).toNat * 9) (j := 8) (Sm w.heap.size F w []) ld_3 rfl hr390 rfl (me 0 rfl)) gn rfl ?_
      refine wl_v 5 rfl (v_move rfl) gn rfl ?_
      refine wl_v 6 rfl (v_bin rfl rfl rfl) gn rfl ?_
      refine w_end 7 rfl ?_
      by_cases hp397 : (ix x1 x199).at_ = x6
      · have h := if_pos' hp397 h
        refine g_true (c := trellisref15_find_c21) rfl _ rfl ((eqi hp397)) ?_
        refine g_seq (c := trellisref15_find_c22) rfl ?_
        refine g_region (c := trellisref15_find_c24) rfl rfl ?_
        refine wl_v 0 rfl (v_move rfl) gn rfl ?_
        refine wl_v 1 rfl (v_move rfl) gn rfl ?_
        obtain ⟨ce399, hK400, hr398⟩ := Rw.read (s := Sm w.heap.size F w []) h5 hb389
        obtain ⟨A401, n402, c403, rfl, h404⟩ := k_trellisref15_Tree_out hK400
        refine wl_v 2 rfl (v_idxR (s := Sm w.heap.size F w []) slE_66 rfl rfl h5 hb389) gn rfl ?_
        refine wl_v 3 rfl (v_ldA (Sm w.heap.size F w []) ld_70 rfl hr398 rfl (me 0 rfl)) gn rfl ?_
        refine wl_v 4 rfl (v_move rfl) gn rfl ?_
        refine wl_s 5 rfl (s_stB (vs := [.string (((ix x1 x199).node).name), .bool (((ix x1 x199).node).named), .string (((ix x1 x199).node).field), .int .i64 (((ix x1 x199).node).from_), .int .i64 (((ix x1 x199).node).to), .int .i64 (((ix x1 x199).node).kids), .int .i64 (((ix x1 x199).node).leaf), .slice A401 n402 c403, .int .i64 ((ix x1 x199).at_)]) (cs' := [.string (((ix x1 x199).node).name), .bool (((ix x1 x199).node).named), .string (((ix x1 x199).node).field), .int .i64 (((ix x1 x199).node).from_), .int .i64 (((ix x1 x199).node).to), .int .i64 (((ix x1 x199).node).kids), .int .i64 (((ix x1 x199).node).leaf), .slice A401 n402 c403, .int .i64 ((ix x1 x199).at_)]) (M' := [.box gb8 70 [.string (((ix x1 x199).node).name), .bool (((ix x1 x199).node).named), .string (((ix x1 x199).node).field), .int .i64 (((ix x1 x199).node).from_), .int .i64 (((ix x1 x199).node).to), .int .i64 (((ix x1 x199).node).kids), .int .i64 (((ix x1 x199).node).leaf), .slice A401 n402 c403, .int .i64 ((ix x1 x199).at_)]]) 0 sz_70 rfl rfl rfl rfl rfl rfl rfl rfl rfl ?_) gn
        refine wl_v 6 rfl (v_assign rfl) gn rfl ?_
        refine wl_v 7 rfl (v_assign rfl) gn rfl ?_
        refine w_end 8 rfl ?_
        have h := Out.inr hO1 h
        refine g_retR (c := trellisref15_find_c25) [.agg #[.string (((ix x1 x199).node).name), .bool (((ix x1 x199).node).named), .string (((ix x1 x199).node).field), .int .i64 (((ix x1 x199).node).from_), .int .i64 (((ix x1 x199).node).to), .int .i64 (((ix x1 x199).node).kids), .int .i64 (((ix x1 x199).node).leaf), .slice A401 n402 c403, .int .i64 ((ix x1 x199).at_)], .int .i64 x7, .bool true] rfl Try.func63 rfl (.cell (cs := [.string (((ix x1 x199).node).name), .bool (((ix x1 x199).node).named), .string (((ix x1 x199).node).field), .int .i64 (((ix x1 x199).node).from_), .int .i64 (((ix x1 x199).node).to), .int .i64 (((ix x1 x199).node).kids), .int .i64 (((ix x1 x199).node).leaf), .slice A401 n402 c403, .int .i64 ((ix x1 x199).at_)]) (us := [.string (((ix x1 x199).node).name), .bool (((ix x1 x199).node).named), .string (((ix x1 x199).node).field), .int .i64 (((ix x1 x199).node).from_), .int .i64 (((ix x1 x199).node).to), .int .i64 (((ix x1 x199).node).kids), .int .i64 (((ix x1 x199).node).leaf), .slice A401 n402 c403, .int .i64 ((ix x1 x199).at_)]) 0 rfl ld_70 rfl rfl rfl (.tmp rfl (.tmp rfl (.nil)))) fun wr hLr => ?_
        have hMr : B.Loc w wr [] [St w []] := hLr.pick (rest := [.box gb8 70 [.string (((ix x1 x199).node).name), .bool (((ix x1 x199).node).named), .string (((ix x1 x199).node).field), .int .i64 (((ix x1 x199).node).from_), .int .i64 (((ix x1 x199).node).to), .int .i64 (((ix x1 x199).node).kids), .int .i64 (((ix x1 x199).node).leaf), .slice A401 n402 c403, .int .i64 ((ix x1 x199).at_)]]) (perm_of_idx [] [0] rfl rfl (by kernel_rfl)) (sels [1] rfl)
        have hMi : ∀ e ∈ ([] : List Ent), e ∈ ([.box gb8 70 [.string (((ix x1 x199).node).name), .bool (((ix x1 x199).node).named), .string (((ix x1 x199).node).field), .int .i64 (((ix x1 x199).node).from_), .int .i64 (((ix x1 x199).node).to), .int .i64 (((ix x1 x199).node).kids), .int .i64 (((ix x1 x199).node).leaf), .slice A401 n402 c403, .int .i64 ((ix x1 x199).at_)]] : List Ent) := sels [] rfl
        show trellisref15_find_R w F  r (.returned (packV [.agg #[.string (((ix x1 x199).node).name), .bool (((ix x1 x199).node).named), .string (((ix x1 x199).node).field), .int .i64 (((ix x1 x199).node).from_), .int .i64 (((ix x1 x199).node).to), .int .i64 (((ix x1 x199).node).kids), .int .i64 (((ix x1 x199).node).leaf), .slice A401 n402 c403, .int .i64 ((ix x1 x199).at_)], .int .i64 x7, .bool true])) wr
        rw [h]
        exact ⟨A401, n402, c403, rfl, hMr, (hLr.outR (s := Sm w.heap.size F w []) hMi (me 0 rfl) Sm.ok h404)⟩
      · have h := if_neg' hp397 h
        refine g_false (c := trellisref15_find_c21) rfl _ rfl ((nei hp397)) ?_
        refine g_skip (c := trellisref15_find_c23) rfl ?_
        refine g_seq (c := trellisref15_find_c19) rfl ?_
        obtain ⟨r422, hv423, h⟩ := h
        have d3 : ∀ (gb502 : Nat) (A503 : Option Addr) (n504 : Nat) (c505 : Nat) (sw506 : World) (sb507 : List (List Nat)) (h508 : At k_trellisref15_Tree (Sm w.heap.size F sw506 sb507) A503 n504 c505 r422.1.kids), G (trellisref15_find_C w F r) [.code trellisref15_find_c27, .inBlock 1, .code trellisref15_find_c16, .inLoop trellisref15_find_c8, .inBlock 0, .code trellisref15_find_c4] [(0, .slice A2 n3 c4), (1, .int .i64 x6), (2, .int .i64 x7), (6, .pointer (some ⟨gb8, 0, none⟩)), (9, .int .i64 x199), (10, .pointer (some ⟨gb502, 0, none⟩)), (11, .int .i64 r422.2.1), (12, .bool r422.2.2)] [.box gb502 70 [.string r422.1.node.name, .bool r422.1.node.named, .string r422.1.node.field, .int .i64 r422.1.node.from_, .int .i64 r422.1.node.to, .int .i64 r422.1.node.kids, .int .i64 r422.1.node.leaf, .slice A503 n504 c505, .int .i64 r422.1.at_], .box gb8 70 [.string (⟨#[]⟩ : ByteArray), .bool false, .string (⟨#[]⟩ : ByteArray), .int .i64 0, .int .i64 0, .int .i64 0, .int .i64 0, .slice none 0 0, .int .i64 0]] [Sm w.heap.size F sw506 sb507, Sm w.heap.size F w [], St w []] := by
          intro gb502 A503 n504 c505 sw506 sb507 h508
          refine g_seq (c := trellisref15_find_c27) rfl ?_
          refine g_region (c := trellisref15_find_c28) rfl rfl ?_
          refine wl_v 0 rfl (v_move rfl) gn rfl ?_
          refine w_end 1 rfl ?_
          by_cases hp509 : r422.2.2 = true
          · have h := if_pos' hp509 h
            refine g_true (c := trellisref15_find_c29) rfl _ rfl (hp509) ?_
            refine g_seq (c := trellisref15_find_c30) rfl ?_
            refine g_region (c := trellisref15_find_c32) rfl rfl ?_
            refine wl_v 0 rfl (v_ldB [.string r422.1.node.name, .bool r422.1.node.named, .string r422.1.node.field, .int .i64 r422.1.node.from_, .int .i64 r422.1.node.to, .int .i64 r422.1.node.kids, .int .i64 r422.1.node.leaf, .slice A503 n504 c505, .int .i64 r422.1.at_] 0 ld_70 rfl rfl rfl rfl) gn rfl ?_
            refine wl_v 1 rfl (v_move rfl) gn rfl ?_
            refine wl_s 2 rfl (s_stB (vs := [.string r422.1.node.name, .bool r422.1.node.named, .string r422.1.node.field, .int .i64 r422.1.node.from_, .int .i64 r422.1.node.to, .int .i64 r422.1.node.kids, .int .i64 r422.1.node.leaf, .slice A503 n504 c505, .int .i64 r422.1.at_]) (cs' := [.string r422.1.node.name, .bool r422.1.node.named, .string r422.1.node.field, .int .i64 r422.1.node.from_, .int .i64 r422.1.node.to, .int .i64 r422.1.node.kids, .int .i64 r422.1.node.leaf, .slice A503 n504 c505, .int .i64 r422.1.at_]) (M' := [.box gb502 70 [.string r422.1.node.name, .bool r422.1.node.named, .string r422.1.node.field, .int .i64 r422.1.node.from_, .int .i64 r422.1.node.to, .int .i64 r422.1.node.kids, .int .i64 r422.1.node.leaf, .slice A503 n504 c505, .int .i64 r422.1.at_], .box gb8 70 [.string r422.1.node.name, .bool r422.1.node.named, .string r422.1.node.field, .int .i64 r422.1.node.from_, .int .i64 r422.1.node.to, .int .i64 r422.1.node.kids, .int .i64 r422.1.node.leaf, .slice A503 n504 c505, .int .i64 r422.1.at_]]) 1 sz_70 rfl rfl rfl rfl rfl rfl rfl rfl rfl ?_) gn
            refine wl_v 3 rfl (v_assign rfl) gn rfl ?_
            refine wl_v 4 rfl (v_assign rfl) gn rfl ?_
            refine w_end 5 rfl ?_
            have h := Out.inr hO1 h
            refine g_retR (c := trellisref15_find_c33) [.agg #[.string r422.1.node.name, .bool r422.1.node.named, .string r422.1.node.field, .int .i64 r422.1.node.from_, .int .i64 r422.1.node.to, .int .i64 r422.1.node.kids, .int .i64 r422.1.node.leaf, .slice A503 n504 c505, .int .i64 r422.1.at_], .int .i64 r422.2.1, .bool true] rfl Try.func63 rfl (.cell (cs := [.string r422.1.node.name, .bool r422.1.node.named, .string r422.1.node.field, .int .i64 r422.1.node.from_, .int .i64 r422.1.node.to, .int .i64 r422.1.node.kids, .int .i64 r422.1.node.leaf, .slice A503 n504 c505, .int .i64 r422.1.at_]) (us := [.string r422.1.node.name, .bool r422.1.node.named, .string r422.1.node.field, .int .i64 r422.1.node.from_, .int .i64 r422.1.node.to, .int .i64 r422.1.node.kids, .int .i64 r422.1.node.leaf, .slice A503 n504 c505, .int .i64 r422.1.at_]) 1 rfl ld_70 rfl rfl rfl (.tmp rfl (.tmp rfl (.nil)))) fun wr hLr => ?_
            have hMr : B.Loc w wr [] [St w []] := hLr.pick (rest := [.box gb502 70 [.string r422.1.node.name, .bool r422.1.node.named, .string r422.1.node.field, .int .i64 r422.1.node.from_, .int .i64 r422.1.node.to, .int .i64 r422.1.node.kids, .int .i64 r422.1.node.leaf, .slice A503 n504 c505, .int .i64 r422.1.at_], .box gb8 70 [.string r422.1.node.name, .bool r422.1.node.named, .string r422.1.node.field, .int .i64 r422.1.node.from_, .int .i64 r422.1.node.to, .int .i64 r422.1.node.kids, .int .i64 r422.1.node.leaf, .slice A503 n504 c505, .int .i64 r422.1.at_]]) (perm_of_idx [] [0, 1] rfl rfl (by kernel_rfl)) (sels [2] rfl)
            have hMi : ∀ e ∈ ([] : List Ent), e ∈ ([.box gb502 70 [.string r422.1.node.name, .bool r422.1.node.named, .string r422.1.node.field, .int .i64 r422.1.node.from_, .int .i64 r422.1.node.to, .int .i64 r422.1.node.kids, .int .i64 r422.1.node.leaf, .slice A503 n504 c505, .int .i64 r422.1.at_], .box gb8 70 [.string r422.1.node.name, .bool r422.1.node.named, .string r422.1.node.field, .int .i64 r422.1.node.from_, .int .i64 r422.1.node.to, .int .i64 r422.1.node.kids, .int .i64 r422.1.node.leaf, .slice A503 n504 c505, .int .i64 r422.1.at_]] : List Ent) := sels [] rfl
            show trellisref15_find_R w F  r (.returned (packV [.agg #[.string r422.1.node.name, .bool r422.1.node.named, .string r422.1.node.field, .int .i64 r422.1.node.from_, .int .i64 r422.1.node.to, .int .i64 r422.1.node.kids, .int .i64 r422.1.node.leaf, .slice A503 n504 c505, .int .i64 r422.1.at_], .int .i64 r422.2.1, .bool true])) wr
            rw [h]
            exact ⟨A503, n504, c505, rfl, hMr, (hLr.outR (s := Sm w.heap.size F sw506 sb507) hMi (me 0 rfl) Sm.ok h508)⟩
          · have h := if_neg' hp509 h
            refine g_false (c := trellisref15_find_c29) rfl _ rfl ((bf hp509)) ?_
            refine g_skip (c := trellisref15_find_c31) rfl ?_
            refine g_inBlock ?_
            refine g_region (c := trellisref15_find_c16) rfl rfl ?_
            refine wl_v 0 rfl (v_move rfl) gn rfl ?_
            refine wl_v 1 rfl (v_bin rfl rfl rfl) gn rfl ?_
            refine wl_v 2 rfl (v_assign rfl) gn rfl ?_
            refine w_end 3 rfl ?_
            refine g_inLoop ?_
            have ih := Out.inl hO1 h
            exact g_go [1, 2] (ih ()) ⟨rfl, rfl, rfl, rfl, rfl, trivial⟩ (.cons _ (.cons_cons _ (.slnil))) rfl
        have hns : Region.noSelect (Code.ops trellisref15_find_c26) = true := by kernel_rfl
        refine g_drawF (c := trellisref15_find_c26) [.box gb8 70 [.string (⟨#[]⟩ : ByteArray), .bool false, .string (⟨#[]⟩ : ByteArray), .int .i64 0, .int .i64 0, .int .i64 0, .int .i64 0, .slice none 0 0, .int .i64 0]] [Sm w.heap.size F w [], St w []] [] 20 rfl rfl mix rfl (.cons_cons _ (.slnil)) (sels [0, 1] rfl) ?_
        refine wf_v 0 rfl (v_move rfl) gn rfl hns (by kernel_rfl) (by kernel_rfl) rfl rfl ?_
        refine wf_v 1 rfl (v_move rfl) gn rfl hns (by kernel_rfl) (by kernel_rfl) rfl rfl ?_
        obtain ⟨ce511, hK512, hr510⟩ := Rw.read (s := Sm w.heap.size F w []) h5 hb389
        obtain ⟨A513, n514, c515, rfl, h516⟩ := k_trellisref15_Tree_out hK512
        refine wf_v 2 rfl (v_idxR (s := Sm w.heap.size F w []) slE_66 rfl rfl h5 hb389) gn rfl hns (by kernel_rfl) (by kernel_rfl) rfl rfl ?_
        refine wf_v 3 rfl (v_fldA fo_70_1 rfl) gn rfl hns (by kernel_rfl) (by kernel_rfl) rfl rfl ?_
        refine wf_v 4 rfl (v_ldA1 (kk := (x199 : Int).toNat * 9) (j := 7) (Sm w.heap.size F w []) ld_66 rfl hr510 rfl (me 0 rfl)) gn rfl hns (by kernel_rfl) (by kernel_rfl) rfl rfl ?_
        refine wf_v 5 rfl (v_move rfl) gn rfl hns (by kernel_rfl) (by kernel_rfl) rfl rfl ?_
        refine wf_v 6 rfl (v_move rfl) gn rfl hns (by kernel_rfl) (by kernel_rfl) rfl rfl ?_
        refine wf_v 7 rfl (v_move rfl) gn rfl hns (by kernel_rfl) (by kernel_rfl) rfl rfl ?_
        obtain ⟨ce518, hK519, hr517⟩ := Rw.read (s := Sm w.heap.size F w []) h5 hb389
        obtain ⟨A520, n521, c522, rfl, h523⟩ := k_trellisref15_Tree_out hK519
        refine wf_v 8 rfl (v_idxR (s := Sm w.heap.size F w []) slE_66 rfl rfl h5 hb389) gn rfl hns (by kernel_rfl) (by kernel_rfl) rfl rfl ?_
        refine wf_v 9 rfl (v_fldA fo_70_2 rfl) gn rfl hns (by kernel_rfl) (by kernel_rfl) rfl rfl ?_
        refine wf_v 10 rfl (v_ldA1 (kk := (x199 : Int).toNat * 9) (j := 8) (Sm w.heap.size F w []) ld_3 rfl hr517 rfl (me 0 rfl)) gn rfl hns (by kernel_rfl) (by kernel_rfl) rfl rfl ?_
        refine wf_all [11, 16] (by kernel_rfl) rfl ⟨?_, ?_, trivial⟩
        · refine on_s 11 rfl gn rfl (s_call [.slice A513 n514 c515, .int .i64 x6, .int .i64 ((ix x1 x199).at_)] rfl Try.func63 rfl rfl rfl fun w537 hL538 => ?_)
          have hp539 : List.Perm ([.box gb8 70 [.string (⟨#[]⟩ : ByteArray), .bool false, .string (⟨#[]⟩ : ByteArray), .int .i64 0, .int .i64 0, .int .i64 0, .int .i64 0, .slice none 0 0, .int .i64 0]] : List Ent) (([] : List Ent) ++ ([.box gb8 70 [.string (⟨#[]⟩ : ByteArray), .bool false, .string (⟨#[]⟩ : ByteArray), .int .i64 0, .int .i64 0, .int .i64 0, .int .i64 0, .slice none 0 0, .int .i64 0]] : List Ent)) := perm_of_idx [] [0] rfl rfl (by kernel_rfl)
          refine Calls.mono (ih_trellisref15_find w537 (Fl ([Sm w.heap.size F w []] : List Snap)) ((ix x1 x199).kids) x6 ((ix x1 x199).at_) A513 n514 c515 (Rw.mono h516 (hL538.toFl (me 0 rfl) (me 0 rfl))) (hL538.hFl (Sl := ([Sm w.heap.size F w []] : List Snap)) hp539 (sels [0] rfl)) (hL538.into hp539 (Fl ([Sm w.heap.size F w []] : List Snap))) r422 hv423) ?_
          rintro _ w544 ⟨A540, n541, c542, rfl, hM545, h543⟩
          obtain ⟨sb548, hL546, hv547⟩ := hL538.callB (Sl := ([Sm w.heap.size F w []] : List Snap)) hp539 hM545 F (sels [0] rfl) ⟨Sm.ok, trivial⟩
          have h543 : At k_trellisref15_Tree (Sm w.heap.size F w544 sb548) A540 n541 c542 r422.1.kids := Rw.mono h543 hv547
          refine ⟨_, _, _, rfl, hL546, ?_⟩
          refine ⟨sels [0] rfl, sels [1, 2] rfl, ?_⟩
          refine wf_v 12 rfl (v_move rfl) gn rfl hns (by kernel_rfl) (by kernel_rfl) rfl rfl ?_
          refine wf_v 13 rfl (v_extract rfl rfl) gn rfl hns (by kernel_rfl) (by kernel_rfl) rfl rfl ?_
          refine wf_v 14 rfl (v_extract rfl rfl) gn rfl hns (by kernel_rfl) (by kernel_rfl) rfl rfl ?_
          refine wf_v 15 rfl (v_extract rfl rfl) gn rfl hns (by kernel_rfl) (by kernel_rfl) rfl rfl ?_
          refine wf_all [16] (by kernel_rfl) rfl ⟨on_s 16 rfl gn rfl (s_alloc [.string (⟨#[]⟩ : ByteArray), .bool false, .string (⟨#[]⟩ : ByteArray), .int .i64 0, .int .i64 0, .int .i64 0, .int .i64 0, .slice none 0 0, .int .i64 0] zr_70 rfl fun gb550 => ?_), trivial⟩
          refine ⟨sels [1] rfl, sels [1, 2] rfl, ?_⟩
          refine wf_all [17] (by kernel_rfl) rfl ⟨on_s 17 rfl gn rfl (s_stB (vs := [.string r422.1.node.name, .bool r422.1.node.named, .string r422.1.node.field, .int .i64 r422.1.node.from_, .int .i64 r422.1.node.to, .int .i64 r422.1.node.kids, .int .i64 r422.1.node.leaf, .slice A540 n541 c542, .int .i64 r422.1.at_]) (cs' := [.string r422.1.node.name, .bool r422.1.node.named, .string r422.1.node.field, .int .i64 r422.1.node.from_, .int .i64 r422.1.node.to, .int .i64 r422.1.node.kids, .int .i64 r422.1.node.leaf, .slice A540 n541 c542, .int .i64 r422.1.at_]) (M' := [.box gb550 70 [.string r422.1.node.name, .bool r422.1.node.named, .string r422.1.node.field, .int .i64 r422.1.node.from_, .int .i64 r422.1.node.to, .int .i64 r422.1.node.kids, .int .i64 r422.1.node.leaf, .slice A540 n541 c542, .int .i64 r422.1.at_], .box gb8 70 [.string (⟨#[]⟩ : ByteArray), .bool false, .string (⟨#[]⟩ : ByteArray), .int .i64 0, .int .i64 0, .int .i64 0, .int .i64 0, .slice none 0 0, .int .i64 0]]) 0 sz_70 rfl rfl rfl rfl rfl rfl rfl rfl rfl ?_), trivial⟩
          refine ⟨sels [1] rfl, sels [1, 2] rfl, ?_⟩
          refine wf_v 18 rfl (v_assign rfl) gn rfl hns (by kernel_rfl) (by kernel_rfl) rfl rfl ?_
          refine wf_v 19 rfl (v_assign rfl) gn rfl hns (by kernel_rfl) (by kernel_rfl) rfl rfl ?_
          refine wf_end (by kernel_rfl) ?_
          exact g_go [0, 1, 2] (d3 gb550 A540 n541 c542 w544 sb548 h543) ⟨rfl, rfl, rfl, rfl, rfl, rfl, rfl, rfl, trivial⟩ (.cons_cons _ (.cons_cons _ (.slnil))) rfl
        · refine on_s 16 rfl gn rfl (s_alloc [.string (⟨#[]⟩ : ByteArray), .bool false, .string (⟨#[]⟩ : ByteArray), .int .i64 0, .int .i64 0, .int .i64 0, .int .i64 0, .slice none 0 0, .int .i64 0] zr_70 rfl fun gb551 => ?_)
          refine ⟨sels [1] rfl, sels [0, 1] rfl, ?_⟩
          refine wf_all [11] (by kernel_rfl) rfl ⟨on_s 11 rfl gn rfl (s_call [.slice A513 n514 c515, .int .i64 x6, .int .i64 ((ix x1 x199).at_)] rfl Try.func63 rfl rfl rfl fun w564 hL565 => ?_), trivial⟩
          have hp566 : List.Perm ([.box gb551 70 [.string (⟨#[]⟩ : ByteArray), .bool false, .string (⟨#[]⟩ : ByteArray), .int .i64 0, .int .i64 0, .int .i64 0, .int .i64 0, .slice none 0 0, .int .i64 0], .box gb8 70 [.string (⟨#[]⟩ : ByteArray), .bool false, .string (⟨#[]⟩ : ByteArray), .int .i64 0, .int .i64 0, .int .i64 0, .int .i64 0, .slice none 0 0, .int .i64 0]] : List Ent) (([] : List Ent) ++ ([.box gb551 70 [.string (⟨#[]⟩ : ByteArray), .bool false, .string (⟨#[]⟩ : ByteArray), .int .i64 0, .int .i64 0, .int .i64 0, .int .i64 0, .slice none 0 0, .int .i64 0], .box gb8 70 [.string (⟨#[]⟩ : ByteArray), .bool false, .string (⟨#[]⟩ : ByteArray), .int .i64 0, .int .i64 0, .int .i64 0, .int .i64 0, .slice none 0 0, .int .i64 0]] : List Ent)) := perm_of_idx [] [0, 1] rfl rfl (by kernel_rfl)
          refine Calls.mono (ih_trellisref15_find w564 (Fl ([Sm w.heap.size F w []] : List Snap)) ((ix x1 x199).kids) x6 ((ix x1 x199).at_) A513 n514 c515 (Rw.mono h516 (hL565.toFl (me 0 rfl) (me 0 rfl))) (hL565.hFl (Sl := ([Sm w.heap.size F w []] : List Snap)) hp566 (sels [0] rfl)) (hL565.into hp566 (Fl ([Sm w.heap.size F w []] : List Snap))) r422 hv423) ?_
          rintro _ w571 ⟨A567, n568, c569, rfl, hM572, h570⟩
          obtain ⟨sb575, hL573, hv574⟩ := hL565.callB (Sl := ([Sm w.heap.size F w []] : List Snap)) hp566 hM572 F (sels [0] rfl) ⟨Sm.ok, trivial⟩
          have h570 : At k_trellisref15_Tree (Sm w.heap.size F w571 sb575) A567 n568 c569 r422.1.kids := Rw.mono h570 hv574
          refine ⟨_, _, _, rfl, hL573, ?_⟩
          refine ⟨sels [1] rfl, sels [1, 2] rfl, ?_⟩
          refine wf_v 12 rfl (v_move rfl) gn rfl hns (by kernel_rfl) (by kernel_rfl) rfl rfl ?_
          refine wf_v 13 rfl (v_extract rfl rfl) gn rfl hns (by kernel_rfl) (by kernel_rfl) rfl rfl ?_
          refine wf_v 14 rfl (v_extract rfl rfl) gn rfl hns (by kernel_rfl) (by kernel_rfl) rfl rfl ?_
          refine wf_v 15 rfl (v_extract rfl rfl) gn rfl hns (by kernel_rfl) (by kernel_rfl) rfl rfl ?_
          refine wf_all [17] (by kernel_rfl) rfl ⟨on_s 17 rfl gn rfl (s_stB (vs := [.string r422.1.node.name, .bool r422.1.node.named, .string r422.1.node.field, .int .i64 r422.1.node.from_, .int .i64 r422.1.node.to, .int .i64 r422.1.node.kids, .int .i64 r422.1.node.leaf, .slice A567 n568 c569, .int .i64 r422.1.at_]) (cs' := [.string r422.1.node.name, .bool r422.1.node.named, .string r422.1.node.field, .int .i64 r422.1.node.from_, .int .i64 r422.1.node.to, .int .i64 r422.1.node.kids, .int .i64 r422.1.node.leaf, .slice A567 n568 c569, .int .i64 r422.1.at_]) (M' := [.box gb551 70 [.string r422.1.node.name, .bool r422.1.node.named, .string r422.1.node.field, .int .i64 r422.1.node.from_, .int .i64 r422.1.node.to, .int .i64 r422.1.node.kids, .int .i64 r422.1.node.leaf, .slice A567 n568 c569, .int .i64 r422.1.at_], .box gb8 70 [.string (⟨#[]⟩ : ByteArray), .bool false, .string (⟨#[]⟩ : ByteArray), .int .i64 0, .int .i64 0, .int .i64 0, .int .i64 0, .slice none 0 0, .int .i64 0]]) 0 sz_70 rfl rfl rfl rfl rfl rfl rfl rfl rfl ?_), trivial⟩
          refine ⟨sels [1] rfl, sels [1, 2] rfl, ?_⟩
          refine wf_v 18 rfl (v_assign rfl) gn rfl hns (by kernel_rfl) (by kernel_rfl) rfl rfl ?_
          refine wf_v 19 rfl (v_assign rfl) gn rfl hns (by kernel_rfl) (by kernel_rfl) rfl rfl ?_
          refine wf_end (by kernel_rfl) ?_
          exact g_go [0, 1, 2] (d3 gb551 A567 n568 c569 w571 sb575 h570) ⟨rfl, rfl, rfl, rfl, rfl, rfl, rfl, rfl, trivial⟩ (.cons_cons _ (.cons_cons _ (.slnil))) rfl
    · have h := if_neg' hp388 h
      refine g_false (c := trellisref15_find_c12) rfl _ rfl ((decide_eq_false hp388)) ?_
      refine g_exit (c := trellisref15_find_c14) [.code trellisref15_find_c4] rfl rfl ?_
      refine g_seq (c := trellisref15_find_c4) rfl ?_
      refine g_region (c := trellisref15_find_c34) rfl rfl ?_
      refine wl_v 0 rfl (v_build #[.string (⟨#[]⟩ : ByteArray), .bool false, .string (⟨#[]⟩ : ByteArray), .int .i64 0, .int .i64 0, .int .i64 0, .int .i64 0, .slice none 0 0, .int .i64 0] bd_70 rfl (by kernel_rfl)) gn rfl ?_
      refine wl_s 1 rfl (s_stB (vs := [.string (⟨#[]⟩ : ByteArray), .bool false, .string (⟨#[]⟩ : ByteArray), .int .i64 0, .int .i64 0, .int .i64 0, .int .i64 0, .slice none 0 0, .int .i64 0]) (cs' := [.string (⟨#[]⟩ : ByteArray), .bool false, .string (⟨#[]⟩ : ByteArray), .int .i64 0, .int .i64 0, .int .i64 0, .int .i64 0, .slice none 0 0, .int .i64 0]) (M' := [.box gb8 70 [.string (⟨#[]⟩ : ByteArray), .bool false, .string (⟨#[]⟩ : ByteArray), .int .i64 0, .int .i64 0, .int .i64 0, .int .i64 0, .slice none 0 0, .int .i64 0]]) 0 sz_70 rfl rfl rfl rfl rfl rfl rfl rfl rfl ?_) gn
      refine wl_v 2 rfl (v_assign rfl) gn rfl ?_
      refine wl_v 3 rfl (v_assign rfl) gn rfl ?_
      refine w_end 4 rfl ?_
      have h := Out.inr hO1 h
      refine g_retR (c := trellisref15_find_c35) [.agg #[.string (⟨#[]⟩ : ByteArray), .bool false, .string (⟨#[]⟩ : ByteArray), .int .i64 0, .int .i64 0, .int .i64 0, .int .i64 0, .slice none 0 0, .int .i64 0], .int .i64 (-1), .bool false] rfl Try.func63 rfl (.cell (cs := [.string (⟨#[]⟩ : ByteArray), .bool false, .string (⟨#[]⟩ : ByteArray), .int .i64 0, .int .i64 0, .int .i64 0, .int .i64 0, .slice none 0 0, .int .i64 0]) (us := [.string (⟨#[]⟩ : ByteArray), .bool false, .string (⟨#[]⟩ : ByteArray), .int .i64 0, .int .i64 0, .int .i64 0, .int .i64 0, .slice none 0 0, .int .i64 0]) 0 rfl ld_70 rfl rfl rfl (.tmp rfl (.tmp rfl (.nil)))) fun wr hLr => ?_
      have hMr : B.Loc w wr [] [St w []] := hLr.pick (rest := [.box gb8 70 [.string (⟨#[]⟩ : ByteArray), .bool false, .string (⟨#[]⟩ : ByteArray), .int .i64 0, .int .i64 0, .int .i64 0, .int .i64 0, .slice none 0 0, .int .i64 0]]) (perm_of_idx [] [0] rfl rfl (by kernel_rfl)) (sels [1] rfl)
      have hMi : ∀ e ∈ ([] : List Ent), e ∈ ([.box gb8 70 [.string (⟨#[]⟩ : ByteArray), .bool false, .string (⟨#[]⟩ : ByteArray), .int .i64 0, .int .i64 0, .int .i64 0, .int .i64 0, .slice none 0 0, .int .i64 0]] : List Ent) := sels [] rfl
      show trellisref15_find_R w F  r (.returned (packV [.agg #[.string (⟨#[]⟩ : ByteArray), .bool false, .string (⟨#[]⟩ : ByteArray), .int .i64 0, .int .i64 0, .int .i64 0, .int .i64 0, .slice none 0 0, .int .i64 0], .int .i64 (-1), .bool false])) wr
      rw [h]
      exact ⟨none, 0, 0, rfl, hMr, Rw.nil⟩
  exact g_go [0, 1] (key1 _ h ()) ⟨rfl, rfl, rfl, rfl, rfl, trivial⟩ (.cons_cons _ (.slnil)) rfl
theorem trellisref15_find_ind : ∀ n, trellisref15_find_st (trellisref15_find_n n)
  | 0 => fun w F x1 x6 x7 A2 n3 c4 h5 hF hL0 r h => h.elim
  | n + 1 => by
    have ih := trellisref15_find_ind n
    exact trellisref15_find_step _ ih
theorem trellisref15_find_calls (w : World) (F : Nat → Prop) (x1 : List trellisref15_Tree) (x6 : Int) (x7 : Int) (A2 : Option Addr) (n3 : Nat) (c4 : Nat) (h5 : Rw k_trellisref15_Tree w F A2 n3 c4 x1) (hF : ∀ b, F b → b < w.heap.size ∧ ∀ o ∈ ([] : List (List Nat)), b ∉ o) (hL0 : B.Loc w w [] [Sm w.heap.size F w [], St w []]) (r : trellisref15_Tree × Int × Bool) (h : trellisref15_find x1 x6 x7 r) : Calls Try.prog 63 #[.slice A2 n3 c4, .int .i64 x6, .int .i64 x7] w (trellisref15_find_R w F  r) := by
  obtain ⟨n, h⟩ := h
  exact (trellisref15_find_ind n) w F x1 x6 x7 A2 n3 c4 h5 hF hL0 r h
noncomputable abbrev trellisref15_Kids_c0 : Code := bodyOf Try.f59
noncomputable abbrev trellisref15_Kids_c1 : Code := Code.fst trellisref15_Kids_c0
noncomputable abbrev trellisref15_Kids_c2 : Code := Code.snd trellisref15_Kids_c0
noncomputable abbrev trellisref15_Kids_c3 : Code := Code.fst trellisref15_Kids_c2
noncomputable abbrev trellisref15_Kids_c4 : Code := Code.snd trellisref15_Kids_c2
noncomputable abbrev trellisref15_Kids_c5 : Code := Code.fst trellisref15_Kids_c4
noncomputable abbrev trellisref15_Kids_c6 : Code := Code.snd trellisref15_Kids_c4
noncomputable abbrev trellisref15_Kids_c7 : Code := Code.fst trellisref15_Kids_c6
noncomputable abbrev trellisref15_Kids_c8 : Code := Code.snd trellisref15_Kids_c6
noncomputable abbrev trellisref15_Kids_c9 : Code := Code.fst trellisref15_Kids_c8
noncomputable abbrev trellisref15_Kids_c10 : Code := Code.snd trellisref15_Kids_c8
noncomputable abbrev trellisref15_Kids_c11 : Code := Code.fst trellisref15_Kids_c9
noncomputable abbrev trellisref15_Kids_c12 : Code := Code.snd trellisref15_Kids_c9
noncomputable abbrev trellisref15_Kids_c13 : Code := Code.fst trellisref15_Kids_c12
noncomputable abbrev trellisref15_Kids_c14 : Code := Code.fst trellisref15_Kids_c13
noncomputable abbrev trellisref15_Kids_c15 : Code := Code.fst trellisref15_Kids_c14
noncomputable abbrev trellisref15_Kids_c16 : Code := Code.snd trellisref15_Kids_c14
noncomputable abbrev trellisref15_Kids_c17 : Code := Code.fst trellisref15_Kids_c15
noncomputable abbrev trellisref15_Kids_c18 : Code := Code.snd trellisref15_Kids_c15
noncomputable abbrev trellisref15_Kids_c19 : Code := Code.fst trellisref15_Kids_c18
noncomputable abbrev trellisref15_Kids_c20 : Code := Code.snd trellisref15_Kids_c18
noncomputable abbrev trellisref15_Kids_c21 : Code := Code.fst trellisref15_Kids_c16
noncomputable abbrev trellisref15_Kids_c22 : Code := Code.snd trellisref15_Kids_c16
noncomputable abbrev trellisref15_Kids_c23 : Code := Code.fst trellisref15_Kids_c21
noncomputable abbrev trellisref15_Kids_c24 : Code := Code.fst trellisref15_Kids_c10
noncomputable abbrev trellisref15_Kids_c25 : Code := Code.snd trellisref15_Kids_c10
abbrev trellisref15_Kids_R (w : World) (F : Nat → Prop) (r : List Int) : Ending → World → Prop := fun e w' => ∃ A0 : Option Addr, ∃ n0 : Nat, ∃ c0 : Nat, e = .returned (.slice A0 n0 c0) ∧ B.Loc w w' [.own (.slice A0 n0 c0) 3 1 n0 (r.flatMap (eI .i64))] [St w []] ∧ Ow w.heap.size A0 n0 c0 r
noncomputable abbrev trellisref15_Kids_C (w : World) (F : Nat → Prop) (r : List Int) : Cx := ⟨Try.prog, 59, Try.f59, 41, trellisref15_Kids_R w F  r, w⟩
theorem trellisref15_Kids_calls (w : World) (F : Nat → Prop) (x1 : List api_Node) (x6 : Int) (A2 : Option Addr) (n3 : Nat) (c4 : Nat) (h5 : Rw k_api_Node w (St w []).av A2 n3 c4 x1) (hF : ∀ b, F b → b < w.heap.size ∧ ∀ o ∈ ([] : List (List Nat)), b ∉ o) (hL0 : B.Loc w w [] [Sm w.heap.size F w [], St w []]) (r : List Int) (h : trellisref15_Kids x1 x6 r) : Calls Try.prog 59 #[.slice A2 n3 c4, .int .i64 x6] w (trellisref15_Kids_R w F  r) := by
  unfold trellisref15_Kids at h
  refine calls_of_Loc (vs := [.slice A2 n3 c4, .int .i64 x6]) 41 Try.func59 rfl Try.ntmps59 rfl hL0 ?_
  show G (trellisref15_Kids_C w F r) _ _ _ _
  refine g_seq (c := trellisref15_Kids_c0) rfl ?_
  refine g_region (c := trellisref15_Kids_c1) rfl rfl ?_
  refine wl_v 0 rfl (v_assign rfl) gn rfl ?_
  refine w_end 1 rfl ?_
  refine g_seq (c := trellisref15_Kids_c2) rfl ?_
  refine g_region (c := trellisref15_Kids_c3) rfl rfl ?_
  refine wl_v 0 rfl (v_move rfl) gn rfl ?_
  obtain ⟨r10, hv11, h⟩ := h
  refine wl_s 1 rfl (s_call [.slice A2 n3 c4] rfl Try.func62 rfl rfl rfl fun w7 hL8 => ?_) gn
  have hp9 : List.Perm ([] : List Ent) (([] : List Ent) ++ ([] : List Ent)) := perm_of_idx [] [] rfl rfl (by kernel_rfl)
  refine Calls.mono (trellisref15_Forest_calls w7 (Fl ([] : List Snap)) x1 A2 n3 c4 (Rw.mono h5 (hL8.toSt hp9 (me 1 rfl))) (hL8.hFl (Sl := ([] : List Snap)) hp9 (sels [] rfl)) (hL8.into hp9 (Fl ([] : List Snap))) r10 hv11) ?_
  rintro _ w19 ⟨A12, n13, c14, cs17, rfl, hM20, h15, hC18⟩
  obtain ⟨sb23, hL21, hv22⟩ := hL8.callB (Sl := ([] : List Snap)) hp9 hM20 F (sels [] rfl) trivial
  have hC18 : Cells k_trellisref15_Tree (Sm w.heap.size F w19 sb23).w (Sm w.heap.size F w19 sb23).av r10.1 cs17 := Cells.mono hv22 hC18
  refine ⟨_, _, _, rfl, hL21, ?_⟩
  refine wl_v 2 rfl (v_move rfl) gn rfl ?_
  refine wl_v 3 rfl (v_extract rfl rfl) gn rfl ?_
  refine wl_v 4 rfl (v_extract rfl rfl) gn rfl ?_
  refine wl_v 5 rfl (v_assign rfl) gn rfl ?_
  refine wl_v 6 rfl (v_assign rfl) gn rfl ?_
  refine w_end 7 rfl ?_
  refine g_seq (c := trellisref15_Kids_c4) rfl ?_
  refine g_region (c := trellisref15_Kids_c5) rfl rfl ?_
  refine wl_v 0 rfl (v_move rfl) gn rfl ?_
  refine wl_v 1 rfl (v_move rfl) gn rfl ?_
  obtain ⟨r30, hv31, h⟩ := h
  refine w_freeze (F := F) (dk := k_trellisref15_Tree) (Sm w.heap.size F w19 sb23) 0 rfl (Ow.weak hL8.env.size h15) (me 0 rfl) Sm.ok hC18 fun sw28 sb29 h27 => ?_
  refine wl_s 2 rfl (s_call [.slice A12 n13 c14, .int .i64 x6, .int .i64 (-1)] rfl Try.func63 rfl rfl rfl fun w24 hL25 => ?_) gn
  have hp26 : List.Perm ([] : List Ent) (([] : List Ent) ++ ([] : List Ent)) := perm_of_idx [] [] rfl rfl (by kernel_rfl)
  refine Calls.mono (trellisref15_find_calls w24 (Fl ([Sm w.heap.size F sw28 sb29] : List Snap)) r10.1 x6 (-1) A12 n13 c14 (Rw.mono h27 (hL25.toFl (me 0 rfl) (me 0 rfl))) (hL25.hFl (Sl := ([Sm w.heap.size F sw28 sb29] : List Snap)) hp26 (sels [0] rfl)) (hL25.into hp26 (Fl ([Sm w.heap.size F sw28 sb29] : List Snap))) r30 hv31) ?_
  rintro _ w36 ⟨A32, n33, c34, rfl, hM37, h35⟩
  obtain ⟨sb40, hL38, hv39⟩ := hL25.callB (Sl := ([Sm w.heap.size F sw28 sb29] : List Snap)) hp26 hM37 F (sels [0] rfl) ⟨Sm.ok, trivial⟩
  have h35 : At k_trellisref15_Tree (Sm w.heap.size F w36 sb40) A32 n33 c34 r30.1.kids := Rw.mono h35 hv39
  refine ⟨_, _, _, rfl, hL38, ?_⟩
  refine wl_v 3 rfl (v_move rfl) gn rfl ?_
  refine wl_v 4 rfl (v_extract rfl rfl) gn rfl ?_
  refine wl_v 5 rfl (v_extract rfl rfl) gn rfl ?_
  refine wl_v 6 rfl (v_extract rfl rfl) gn rfl ?_
  refine wl_s 7 rfl (s_alloc [.string (⟨#[]⟩ : ByteArray), .bool false, .string (⟨#[]⟩ : ByteArray), .int .i64 0, .int .i64 0, .int .i64 0, .int .i64 0, .slice none 0 0, .int .i64 0] zr_70 rfl fun gb41 => ?_) gn
  refine wl_s 8 rfl (s_stB (vs := [.string r30.1.node.name, .bool r30.1.node.named, .string r30.1.node.field, .int .i64 r30.1.node.from_, .int .i64 r30.1.node.to, .int .i64 r30.1.node.kids, .int .i64 r30.1.node.leaf, .slice A32 n33 c34, .int .i64 r30.1.at_]) (cs' := [.string r30.1.node.name, .bool r30.1.node.named, .string r30.1.node.field, .int .i64 r30.1.node.from_, .int .i64 r30.1.node.to, .int .i64 r30.1.node.kids, .int .i64 r30.1.node.leaf, .slice A32 n33 c34, .int .i64 r30.1.at_]) (M' := [.box gb41 70 [.string r30.1.node.name, .bool r30.1.node.named, .string r30.1.node.field, .int .i64 r30.1.node.from_, .int .i64 r30.1.node.to, .int .i64 r30.1.node.kids, .int .i64 r30.1.node.leaf, .slice A32 n33 c34, .int .i64 r30.1.at_]]) 0 sz_70 rfl rfl rfl rfl rfl rfl rfl rfl rfl ?_) gn
  refine wl_v 9 rfl (v_assign rfl) gn rfl ?_
  refine wl_v 10 rfl (v_assign rfl) gn rfl ?_
  refine w_end 11 rfl ?_
  refine g_seq (c := trellisref15_Kids_c6) rfl ?_
  refine g_region (c := trellisref15_Kids_c7) rfl rfl ?_
  refine wl_v 0 rfl (v_assign rfl) gn rfl ?_
  refine w_end 1 rfl ?_
  refine g_seq (c := trellisref15_Kids_c8) rfl ?_
  refine g_seq (c := trellisref15_Kids_c9) rfl ?_
  refine g_region (c := trellisref15_Kids_c11) rfl rfl ?_
  refine wl_v 0 rfl (v_assign rfl) gn rfl ?_
  refine w_end 1 rfl ?_
  refine g_block (c := trellisref15_Kids_c12) rfl ?_
  refine g_loop (c := trellisref15_Kids_c13) rfl ?_
  have key1 : ∀ s, Rounds (fun (s : (List Int) × Int) o => trellisref15_Kids_b1 r30 s.1 s.2 o) s r → (fun (s : (List Int) × Int) => ∀ (A64 : Option Addr) (n65 : Nat) (c66 : Nat) (h67 : Ow w.heap.size A64 n65 c66 s.1), G (trellisref15_Kids_C w F r) [.code trellisref15_Kids_c14, .inLoop trellisref15_Kids_c14, .inBlock 0, .code trellisref15_Kids_c10] [(7, .pointer (some ⟨gb41, 0, none⟩)), (10, .slice A64 n65 c66), (11, .int .i64 s.2)] [.own (.slice A64 n65 c66) 3 1 n65 (s.1.flatMap (eI .i64)), .box gb41 70 [.string r30.1.node.name, .bool r30.1.node.named, .string r30.1.node.field, .int .i64 r30.1.node.from_, .int .i64 r30.1.node.to, .int .i64 r30.1.node.kids, .int .i64 r30.1.node.leaf, .slice A32 n33 c34, .int .i64 r30.1.at_]] [Sm w.heap.size F w36 sb40, Sm w.heap.size F sw28 sb29, Sm w.heap.size F w19 sb23, Sm w.heap.size F w [], St w []]) s := by
    intro s hs
    refine Rounds.ind (mot := (fun (s : (List Int) × Int) => ∀ (A64 : Option Addr) (n65 : Nat) (c66 : Nat) (h67 : Ow w.heap.size A64 n65 c66 s.1), G (trellisref15_Kids_C w F r) [.code trellisref15_Kids_c14, .inLoop trellisref15_Kids_c14, .inBlock 0, .code trellisref15_Kids_c10] [(7, .pointer (some ⟨gb41, 0, none⟩)), (10, .slice A64 n65 c66), (11, .int .i64 s.2)] [.own (.slice A64 n65 c66) 3 1 n65 (s.1.flatMap (eI .i64)), .box gb41 70 [.string r30.1.node.name, .bool r30.1.node.named, .string r30.1.node.field, .int .i64 r30.1.node.from_, .int .i64 r30.1.node.to, .int .i64 r30.1.node.kids, .int .i64 r30.1.node.leaf, .slice A32 n33 c34, .int .i64 r30.1.at_]] [Sm w.heap.size F w36 sb40, Sm w.heap.size F sw28 sb29, Sm w.heap.size F w19 sb23, Sm w.heap.size F w [], St w []])) ?_ hs
    clear hs s
    intro s o1 h hO1
    obtain ⟨x63, x68⟩ := s
    show ∀ (A64 : Option Addr) (n65 : Nat) (c66 : Nat) (h67 : Ow w.heap.size A64 n65 c66 x63), G (trellisref15_Kids_C w F r) [.code trellisref15_Kids_c14, .inLoop trellisref15_Kids_c14, .inBlock 0, .code trellisref15_Kids_c10] [(7, .pointer (some ⟨gb41, 0, none⟩)), (10, .slice A64 n65 c66), (11, .int .i64 x68)] [.own (.slice A64 n65 c66) 3 1 n65 (x63.flatMap (eI .i64)), .box gb41 70 [.string r30.1.node.name, .bool r30.1.node.named, .string r30.1.node.field, .int .i64 r30.1.node.from_, .int .i64 r30.1.node.to, .int .i64 r30.1.node.kids, .int .i64 r30.1.node.leaf, .slice A32 n33 c34, .int .i64 r30.1.at_]] [Sm w.heap.size F w36 sb40, Sm w.heap.size F sw28 sb29, Sm w.heap.size F w19 sb23, Sm w.heap.size F w [], St w []]
    intro A64 n65 c66 h67
    have h : trellisref15_Kids_b1 r30 x63 x68 o1 := h
    unfold trellisref15_Kids_b1 at h
    refine g_seq (c := trellisref15_Kids_c14) rfl ?_
    refine g_seq (c := trellisref15_Kids_c15) rfl ?_
    refine g_region (c := trellisref15_Kids_c17) rfl rfl ?_
    refine wl_v 0 rfl (v_move rfl) gn rfl ?_
    refine wl_v 1 rfl (v_fldB fo_70_1 rfl) gn rfl ?_
    refine wl_v 2 rfl (v_ldB1 1 ld_66 rfl rfl rfl) gn rfl ?_
    refine wl_v 3 rfl (v_lenQ un_66 rfl h35.hq) gn rfl ?_
    refine wl_v 4 rfl (v_bin rfl rfl rfl) gn rfl ?_
    refine w_end 5 rfl ?_
    by_cases hp87 : x68 < (r30.1.kids.length : Int)
    · have h := if_pos' hp87 h
      refine g_true (c := trellisref15_Kids_c18) rfl _ rfl ((decide_eq_true hp87)) ?_
      refine g_skip (c := trellisref15_Kids_c19) rfl ?_
      refine g_seq (c := trellisref15_Kids_c16) rfl ?_
      refine g_block (c := trellisref15_Kids_c21) rfl ?_
      refine g_region (c := trellisref15_Kids_c23) rfl rfl ?_
      refine wl_v 0 rfl (v_move rfl) gn rfl ?_
      refine wl_v 1 rfl (v_fldB fo_70_1 rfl) gn rfl ?_
      refine wl_v 2 rfl (v_ldB1 1 ld_66 rfl rfl rfl) gn rfl ?_
      refine wl_v 3 rfl (v_move rfl) gn rfl ?_
      obtain ⟨hb88, h⟩ := h
      obtain ⟨ce90, hK91, hr89⟩ := Rw.read (s := Sm w.heap.size F w36 sb40) h35 hb88
      obtain ⟨A92, n93, c94, rfl, h95⟩ := k_trellisref15_Tree_out hK91
      refine wl_v 4 rfl (v_idxR (s := Sm w.heap.size F w36 sb40) slE_66 rfl rfl h35 hb88) gn rfl ?_
      refine wl_v 5 rfl (v_fldA fo_70_2 rfl) gn rfl ?_
      refine wl_v 6 rfl (v_ldA1 (kk := (x68 : Int).toNat * 9) (j := 8) (Sm w.heap.size F w36 sb40) ld_3 rfl hr89 rfl (me 0 rfl)) gn rfl ?_
      refine wl_s 7 rfl (s_litO (xs := ([(ix r30.1.kids x68).at_] : List Int)) [.int .i64 ((ix r30.1.kids x68).at_)] bs_45_1 rfl (by kernel_rfl) rfl rfl rfl rfl fun gb97 h98 => ?_) gn
      obtain ⟨x102, hv103, h⟩ := h
      obtain ⟨hb104, h⟩ := h
      refine wl_s 8 rfl (s_app (zs := x102) (cells' := x102.flatMap (eI .i64)) 1 ap_45 rfl rfl rfl h67 (Nat.le_refl _) (Src.ownF (hl := (hlI .i64)) (h1 := (hone_int .i64)) 0 rfl h98) (by rw [hv103, List.flatMap_append] <;> rfl) (app_len hv103 h98.hq) hb104 rfl rfl fun A99 c100 h101 => ?_) gn
      refine wl_v 9 rfl (v_assign rfl) gn rfl ?_
      refine w_end 10 rfl ?_
      refine g_inBlock ?_
      refine g_region (c := trellisref15_Kids_c22) rfl rfl ?_
      refine wl_v 0 rfl (v_move rfl) gn rfl ?_
      refine wl_v 1 rfl (v_bin rfl rfl rfl) gn rfl ?_
      refine wl_v 2 rfl (v_assign rfl) gn rfl ?_
      refine w_end 3 rfl ?_
      refine g_inLoop ?_
      have ih := Out.inl hO1 h
      exact g_go [0, 1, 2, 3, 4] (ih A99 (n65 + 1) c100 h101) ⟨rfl, rfl, rfl, trivial⟩ (.cons _ (.cons_cons _ (.cons_cons _ (.slnil)))) rfl
    · have h := if_neg' hp87 h
      refine g_false (c := trellisref15_Kids_c18) rfl _ rfl ((decide_eq_false hp87)) ?_
      refine g_exit (c := trellisref15_Kids_c20) [.code trellisref15_Kids_c10] rfl rfl ?_
      refine g_seq (c := trellisref15_Kids_c10) rfl ?_
      refine g_region (c := trellisref15_Kids_c24) rfl rfl ?_
      refine wl_v 0 rfl (v_move rfl) gn rfl ?_
      refine wl_v 1 rfl (v_assign rfl) gn rfl ?_
      refine w_end 2 rfl ?_
      have h := Out.inr hO1 h
      refine g_retR (c := trellisref15_Kids_c25) [.slice A64 n65 c66] rfl Try.func59 rfl (.tmp rfl (.nil)) fun wr hLr => ?_
      have hMr : B.Loc w wr [.own (.slice A64 n65 c66) 3 1 n65 (x63.flatMap (eI .i64))] [St w []] := hLr.pick (rest := [.box gb41 70 [.string r30.1.node.name, .bool r30.1.node.named, .string r30.1.node.field, .int .i64 r30.1.node.from_, .int .i64 r30.1.node.to, .int .i64 r30.1.node.kids, .int .i64 r30.1.node.leaf, .slice A32 n33 c34, .int .i64 r30.1.at_]]) (perm_of_idx [0] [1] rfl rfl (by kernel_rfl)) (sels [4] rfl)
      have hMi : ∀ e ∈ ([.own (.slice A64 n65 c66) 3 1 n65 (x63.flatMap (eI .i64))] : List Ent), e ∈ ([.own (.slice A64 n65 c66) 3 1 n65 (x63.flatMap (eI .i64)), .box gb41 70 [.string r30.1.node.name, .bool r30.1.node.named, .string r30.1.node.field, .int .i64 r30.1.node.from_, .int .i64 r30.1.node.to, .int .i64 r30.1.node.kids, .int .i64 r30.1.node.leaf, .slice A32 n33 c34, .int .i64 r30.1.at_]] : List Ent) := sels [0] rfl
      show trellisref15_Kids_R w F  r (.returned (packV [.slice A64 n65 c66])) wr
      rw [h]
      exact ⟨A64, n65, c66, rfl, hMr, h67⟩
  refine g_nil 3 1 ?_
  exact g_go [0, 1, 2, 3, 4] (key1 _ h none 0 0 (Ow.nil (z := w.heap.size))) ⟨rfl, rfl, rfl, trivial⟩ (.cons_cons _ (.cons_cons _ (.slnil))) rfl
noncomputable abbrev trellisref15_Roots_c0 : Code := bodyOf Try.f60
noncomputable abbrev trellisref15_Roots_c1 : Code := Code.fst trellisref15_Roots_c0
noncomputable abbrev trellisref15_Roots_c2 : Code := Code.snd trellisref15_Roots_c0
noncomputable abbrev trellisref15_Roots_c3 : Code := Code.fst trellisref15_Roots_c2
noncomputable abbrev trellisref15_Roots_c4 : Code := Code.snd trellisref15_Roots_c2
noncomputable abbrev trellisref15_Roots_c5 : Code := Code.fst trellisref15_Roots_c4
noncomputable abbrev trellisref15_Roots_c6 : Code := Code.snd trellisref15_Roots_c4
noncomputable abbrev trellisref15_Roots_c7 : Code := Code.fst trellisref15_Roots_c5
noncomputable abbrev trellisref15_Roots_c8 : Code := Code.snd trellisref15_Roots_c5
noncomputable abbrev trellisref15_Roots_c9 : Code := Code.fst trellisref15_Roots_c8
noncomputable abbrev trellisref15_Roots_c10 : Code := Code.snd trellisref15_Roots_c8
noncomputable abbrev trellisref15_Roots_c11 : Code := Code.fst trellisref15_Roots_c6
noncomputable abbrev trellisref15_Roots_c12 : Code := Code.snd trellisref15_Roots_c6
noncomputable abbrev trellisref15_Roots_c13 : Code := Code.fst trellisref15_Roots_c9
noncomputable abbrev trellisref15_Roots_c14 : Code := Code.snd trellisref15_Roots_c9
abbrev trellisref15_Roots_R (w : World) (F : Nat → Prop) (r : Int) : Ending → World → Prop := fun e w' => e = .returned (.int .i64 r) ∧ B.Loc w w' [] [St w []]
noncomputable abbrev trellisref15_Roots_C (w : World) (F : Nat → Prop) (r : Int) : Cx := ⟨Try.prog, 60, Try.f60, 14, trellisref15_Roots_R w F  r, w⟩
theorem trellisref15_Roots_calls (w : World) (F : Nat → Prop) (x1 : List api_Node) (A2 : Option Addr) (n3 : Nat) (c4 : Nat) (h5 : Rw k_api_Node w (St w []).av A2 n3 c4 x1) (hF : ∀ b, F b → b < w.heap.size ∧ ∀ o ∈ ([] : List (List Nat)), b ∉ o) (hL0 : B.Loc w w [] [Sm w.heap.size F w [], St w []]) (r : Int) (h : trellisref15_Roots x1 r) : Calls Try.prog 60 #[.slice A2 n3 c4] w (trellisref15_Roots_R w F  r) := by
  unfold trellisref15_Roots at h
  refine calls_of_Loc (vs := [.slice A2 n3 c4]) 14 Try.func60 rfl Try.ntmps60 rfl hL0 ?_
  show G (trellisref15_Roots_C w F r) _ _ _ _
  refine g_seq (c := trellisref15_Roots_c0) rfl ?_
  refine g_region (c := trellisref15_Roots_c1) rfl rfl ?_
  refine wl_v 0 rfl (v_assign rfl) gn rfl ?_
  refine w_end 1 rfl ?_
  refine g_seq (c := trellisref15_Roots_c2) rfl ?_
  refine g_region (c := trellisref15_Roots_c3) rfl rfl ?_
  refine wl_v 0 rfl (v_move rfl) gn rfl ?_
  obtain ⟨r9, hv10, h⟩ := h
  refine wl_s 1 rfl (s_call [.slice A2 n3 c4] rfl Try.func62 rfl rfl rfl fun w6 hL7 => ?_) gn
  have hp8 : List.Perm ([] : List Ent) (([] : List Ent) ++ ([] : List Ent)) := perm_of_idx [] [] rfl rfl (by kernel_rfl)
  refine Calls.mono (trellisref15_Forest_calls w6 (Fl ([] : List Snap)) x1 A2 n3 c4 (Rw.mono h5 (hL7.toSt hp8 (me 1 rfl))) (hL7.hFl (Sl := ([] : List Snap)) hp8 (sels [] rfl)) (hL7.into hp8 (Fl ([] : List Snap))) r9 hv10) ?_
  rintro _ w18 ⟨A11, n12, c13, cs16, rfl, hM19, h14, hC17⟩
  obtain ⟨sb22, hL20, hv21⟩ := hL7.callB (Sl := ([] : List Snap)) hp8 hM19 F (sels [] rfl) trivial
  have hC17 : Cells k_trellisref15_Tree (Sm w.heap.size F w18 sb22).w (Sm w.heap.size F w18 sb22).av r9.1 cs16 := Cells.mono hv21 hC17
  refine ⟨_, _, _, rfl, hL20, ?_⟩
  refine wl_v 2 rfl (v_move rfl) gn rfl ?_
  refine wl_v 3 rfl (v_extract rfl rfl) gn rfl ?_
  refine wl_v 4 rfl (v_extract rfl rfl) gn rfl ?_
  refine wl_v 5 rfl (v_assign rfl) gn rfl ?_
  refine wl_v 6 rfl (v_assign rfl) gn rfl ?_
  refine w_end 7 rfl ?_
  refine g_seq (c := trellisref15_Roots_c4) rfl ?_
  refine g_seq (c := trellisref15_Roots_c5) rfl ?_
  refine g_region (c := trellisref15_Roots_c7) rfl rfl ?_
  refine wl_v 0 rfl (v_move rfl) gn rfl ?_
  refine wl_v 1 rfl (v_not rfl) gn rfl ?_
  refine w_end 2 rfl ?_
  by_cases hp23 : r9.2 = true
  · have h := if_pos' hp23 h
    refine g_false (c := trellisref15_Roots_c8) rfl _ rfl ((nf hp23)) ?_
    refine g_skip (c := trellisref15_Roots_c10) rfl ?_
    refine g_seq (c := trellisref15_Roots_c6) rfl ?_
    refine g_region (c := trellisref15_Roots_c11) rfl rfl ?_
    refine wl_v 0 rfl (v_move rfl) gn rfl ?_
    refine wl_v 1 rfl (v_lenQ un_66 rfl (Ow.weak hL7.env.size h14).hq) gn rfl ?_
    refine wl_v 2 rfl (v_assign rfl) gn rfl ?_
    refine w_end 3 rfl ?_
    refine g_retR (c := trellisref15_Roots_c12) [.int .i64 (r9.1.length : Int)] rfl Try.func60 rfl (.tmp rfl (.nil)) fun wr hLr => ?_
    have hMr : B.Loc w wr [] [St w []] := hLr.pick (rest := [.own (.slice A11 n12 c13) 70 9 n12 cs16]) (perm_of_idx [] [0] rfl rfl (by kernel_rfl)) (sels [2] rfl)
    have hMi : ∀ e ∈ ([] : List Ent), e ∈ ([.own (.slice A11 n12 c13) 70 9 n12 cs16] : List Ent) := sels [] rfl
    show trellisref15_Roots_R w F  r (.returned (packV [.int .i64 (r9.1.length : Int)])) wr
    rw [h]
    exact ⟨rfl, hMr⟩
  · have h := if_neg' hp23 h
    refine g_true (c := trellisref15_Roots_c8) rfl _ rfl ((nt (bf hp23))) ?_
    refine g_seq (c := trellisref15_Roots_c9) rfl ?_
    refine g_region (c := trellisref15_Roots_c13) rfl rfl ?_
    refine wl_v 0 rfl (v_assign rfl) gn rfl ?_
    refine w_end 1 rfl ?_
    refine g_retR (c := trellisref15_Roots_c14) [.int .i64 (-1)] rfl Try.func60 rfl (.tmp rfl (.nil)) fun wr hLr => ?_
    have hMr : B.Loc w wr [] [St w []] := hLr.pick (rest := [.own (.slice A11 n12 c13) 70 9 n12 cs16]) (perm_of_idx [] [0] rfl rfl (by kernel_rfl)) (sels [2] rfl)
    have hMi : ∀ e ∈ ([] : List Ent), e ∈ ([.own (.slice A11 n12 c13) 70 9 n12 cs16] : List Ent) := sels [] rfl
    show trellisref15_Roots_R w F  r (.returned (packV [.int .i64 (-1)])) wr
    rw [h]
    exact ⟨rfl, hMr⟩
noncomputable abbrev trellisref15_Parent_c0 : Code := bodyOf Try.f61
noncomputable abbrev trellisref15_Parent_c1 : Code := Code.fst trellisref15_Parent_c0
noncomputable abbrev trellisref15_Parent_c2 : Code := Code.snd trellisref15_Parent_c0
noncomputable abbrev trellisref15_Parent_c3 : Code := Code.fst trellisref15_Parent_c2
noncomputable abbrev trellisref15_Parent_c4 : Code := Code.snd trellisref15_Parent_c2
noncomputable abbrev trellisref15_Parent_c5 : Code := Code.fst trellisref15_Parent_c4
noncomputable abbrev trellisref15_Parent_c6 : Code := Code.snd trellisref15_Parent_c4
noncomputable abbrev trellisref15_Parent_c7 : Code := Code.fst trellisref15_Parent_c6
noncomputable abbrev trellisref15_Parent_c8 : Code := Code.snd trellisref15_Parent_c6
abbrev trellisref15_Parent_R (w : World) (F : Nat → Prop) (r : Int) : Ending → World → Prop := fun e w' => e = .returned (.int .i64 r) ∧ B.Loc w w' [] [St w []]
noncomputable abbrev trellisref15_Parent_C (w : World) (F : Nat → Prop) (r : Int) : Cx := ⟨Try.prog, 61, Try.f61, 23, trellisref15_Parent_R w F  r, w⟩
theorem trellisref15_Parent_calls (w : World) (F : Nat → Prop) (x1 : List api_Node) (x6 : Int) (A2 : Option Addr) (n3 : Nat) (c4 : Nat) (h5 : Rw k_api_Node w (St w []).av A2 n3 c4 x1) (hF : ∀ b, F b → b < w.heap.size ∧ ∀ o ∈ ([] : List (List Nat)), b ∉ o) (hL0 : B.Loc w w [] [Sm w.heap.size F w [], St w []]) (r : Int) (h : trellisref15_Parent x1 x6 r) : Calls Try.prog 61 #[.slice A2 n3 c4, .int .i64 x6] w (trellisref15_Parent_R w F  r) := by
  unfold trellisref15_Parent at h
  refine calls_of_Loc (vs := [.slice A2 n3 c4, .int .i64 x6]) 23 Try.func61 rfl Try.ntmps61 rfl hL0 ?_
  show G (trellisref15_Parent_C w F r) _ _ _ _
  refine g_seq (c := trellisref15_Parent_c0) rfl ?_
  refine g_region (c := trellisref15_Parent_c1) rfl rfl ?_
  refine wl_v 0 rfl (v_assign rfl) gn rfl ?_
  refine w_end 1 rfl ?_
  refine g_seq (c := trellisref15_Parent_c2) rfl ?_
  refine g_region (c := trellisref15_Parent_c3) rfl rfl ?_
  refine wl_v 0 rfl (v_move rfl) gn rfl ?_
  obtain ⟨r10, hv11, h⟩ := h
  refine wl_s 1 rfl (s_call [.slice A2 n3 c4] rfl Try.func62 rfl rfl rfl fun w7 hL8 => ?_) gn
  have hp9 : List.Perm ([] : List Ent) (([] : List Ent) ++ ([] : List Ent)) := perm_of_idx [] [] rfl rfl (by kernel_rfl)
  refine Calls.mono (trellisref15_Forest_calls w7 (Fl ([] : List Snap)) x1 A2 n3 c4 (Rw.mono h5 (hL8.toSt hp9 (me 1 rfl))) (hL8.hFl (Sl := ([] : List Snap)) hp9 (sels [] rfl)) (hL8.into hp9 (Fl ([] : List Snap))) r10 hv11) ?_
  rintro _ w19 ⟨A12, n13, c14, cs17, rfl, hM20, h15, hC18⟩
  obtain ⟨sb23, hL21, hv22⟩ := hL8.callB (Sl := ([] : List Snap)) hp9 hM20 F (sels [] rfl) trivial
  have hC18 : Cells k_trellisref15_Tree (Sm w.heap.size F w19 sb23).w (Sm w.heap.size F w19 sb23).av r10.1 cs17 := Cells.mono hv22 hC18
  refine ⟨_, _, _, rfl, hL21, ?_⟩
  refine wl_v 2 rfl (v_move rfl) gn rfl ?_
  refine wl_v 3 rfl (v_extract rfl rfl) gn rfl ?_
  refine wl_v 4 rfl (v_extract rfl rfl) gn rfl ?_
  refine wl_v 5 rfl (v_assign rfl) gn rfl ?_
  refine wl_v 6 rfl (v_assign rfl) gn rfl ?_
  refine w_end 7 rfl ?_
  refine g_seq (c := trellisref15_Parent_c4) rfl ?_
  refine g_region (c := trellisref15_Parent_c5) rfl rfl ?_
  refine wl_v 0 rfl (v_move rfl) gn rfl ?_
  refine wl_v 1 rfl (v_move rfl) gn rfl ?_
  obtain ⟨r30, hv31, h⟩ := h
  refine w_freeze (F := F) (dk := k_trellisref15_Tree) (Sm w.heap.size F w19 sb23) 0 rfl (Ow.weak hL8.env.size h15) (me 0 rfl) Sm.ok hC18 fun sw28 sb29 h27 => ?_
  refine wl_s 2 rfl (s_call [.slice A12 n13 c14, .int .i64 x6, .int .i64 (-1)] rfl Try.func63 rfl rfl rfl fun w24 hL25 => ?_) gn
  have hp26 : List.Perm ([] : List Ent) (([] : List Ent) ++ ([] : List Ent)) := perm_of_idx [] [] rfl rfl (by kernel_rfl)
  refine Calls.mono (trellisref15_find_calls w24 (Fl ([Sm w.heap.size F sw28 sb29] : List Snap)) r10.1 x6 (-1) A12 n13 c14 (Rw.mono h27 (hL25.toFl (me 0 rfl) (me 0 rfl))) (hL25.hFl (Sl := ([Sm w.heap.size F sw28 sb29] : List Snap)) hp26 (sels [0] rfl)) (hL25.into hp26 (Fl ([Sm w.heap.size F sw28 sb29] : List Snap))) r30 hv31) ?_
  rintro _ w36 ⟨A32, n33, c34, rfl, hM37, h35⟩
  obtain ⟨sb40, hL38, hv39⟩ := hL25.callB (Sl := ([Sm w.heap.size F sw28 sb29] : List Snap)) hp26 hM37 F (sels [0] rfl) ⟨Sm.ok, trivial⟩
  have h35 : At k_trellisref15_Tree (Sm w.heap.size F w36 sb40) A32 n33 c34 r30.1.kids := Rw.mono h35 hv39
  refine ⟨_, _, _, rfl, hL38, ?_⟩
  refine wl_v 3 rfl (v_move rfl) gn rfl ?_
  refine wl_v 4 rfl (v_extract rfl rfl) gn rfl ?_
  refine wl_v 5 rfl (v_extract rfl rfl) gn rfl ?_
  refine wl_v 6 rfl (v_extract rfl rfl) gn rfl ?_
  refine wl_s 7 rfl (s_alloc [.string (⟨#[]⟩ : ByteArray), .bool false, .string (⟨#[]⟩ : ByteArray), .int .i64 0, .int .i64 0, .int .i64 0, .int .i64 0, .slice none 0 0, .int .i64 0] zr_70 rfl fun gb41 => ?_) gn
  refine wl_s 8 rfl (s_stB (vs := [.string r30.1.node.name, .bool r30.1.node.named, .string r30.1.node.field, .int .i64 r30.1.node.from_, .int .i64 r30.1.node.to, .int .i64 r30.1.node.kids, .int .i64 r30.1.node.leaf, .slice A32 n33 c34, .int .i64 r30.1.at_]) (cs' := [.string r30.1.node.name, .bool r30.1.node.named, .string r30.1.node.field, .int .i64 r30.1.node.from_, .int .i64 r30.1.node.to, .int .i64 r30.1.node.kids, .int .i64 r30.1.node.leaf, .slice A32 n33 c34, .int .i64 r30.1.at_]) (M' := [.box gb41 70 [.string r30.1.node.name, .bool r30.1.node.named, .string r30.1.node.field, .int .i64 r30.1.node.from_, .int .i64 r30.1.node.to, .int .i64 r30.1.node.kids, .int .i64 r30.1.node.leaf, .slice A32 n33 c34, .int .i64 r30.1.at_]]) 0 sz_70 rfl rfl rfl rfl rfl rfl rfl rfl rfl ?_) gn
  refine wl_v 9 rfl (v_assign rfl) gn rfl ?_
  refine wl_v 10 rfl (v_assign rfl) gn rfl ?_
  refine w_end 11 rfl ?_
  refine g_seq (c := trellisref15_Parent_c6) rfl ?_
  refine g_region (c := trellisref15_Parent_c7) rfl rfl ?_
  refine wl_v 0 rfl (v_move rfl) gn rfl ?_
  refine wl_v 1 rfl (v_assign rfl) gn rfl ?_
  refine w_end 2 rfl ?_
  refine g_retR (c := trellisref15_Parent_c8) [.int .i64 r30.2.1] rfl Try.func61 rfl (.tmp rfl (.nil)) fun wr hLr => ?_
  have hMr : B.Loc w wr [] [St w []] := hLr.pick (rest := [.box gb41 70 [.string r30.1.node.name, .bool r30.1.node.named, .string r30.1.node.field, .int .i64 r30.1.node.from_, .int .i64 r30.1.node.to, .int .i64 r30.1.node.kids, .int .i64 r30.1.node.leaf, .slice A32 n33 c34, .int .i64 r30.1.at_]]) (perm_of_idx [] [0] rfl rfl (by kernel_rfl)) (sels [4] rfl)
  have hMi : ∀ e ∈ ([] : List Ent), e ∈ ([.box gb41 70 [.string r30.1.node.name, .bool r30.1.node.named, .string r30.1.node.field, .int .i64 r30.1.node.from_, .int .i64 r30.1.node.to, .int .i64 r30.1.node.kids, .int .i64 r30.1.node.leaf, .slice A32 n33 c34, .int .i64 r30.1.at_]] : List Ent) := sels [] rfl
  show trellisref15_Parent_R w F  r (.returned (packV [.int .i64 r30.2.1])) wr
  rw [h]
  exact ⟨rfl, hMr⟩
noncomputable abbrev trellisref32_Row_c0 : Code := bodyOf Try.f53
noncomputable abbrev trellisref32_Row_c1 : Code := Code.fst trellisref32_Row_c0
noncomputable abbrev trellisref32_Row_c2 : Code := Code.snd trellisref32_Row_c0
noncomputable abbrev trellisref32_Row_c3 : Code := Code.fst trellisref32_Row_c2
noncomputable abbrev trellisref32_Row_c4 : Code := Code.snd trellisref32_Row_c2
noncomputable abbrev trellisref32_Row_c5 : Code := Code.fst trellisref32_Row_c3
noncomputable abbrev trellisref32_Row_c6 : Code := Code.snd trellisref32_Row_c3
noncomputable abbrev trellisref32_Row_c7 : Code := Code.fst trellisref32_Row_c6
noncomputable abbrev trellisref32_Row_c8 : Code := Code.snd trellisref32_Row_c6
noncomputable abbrev trellisref32_Row_c9 : Code := Code.fst trellisref32_Row_c7
noncomputable abbrev trellisref32_Row_c10 : Code := Code.snd trellisref32_Row_c7
noncomputable abbrev trellisref32_Row_c11 : Code := Code.fst trellisref32_Row_c4
noncomputable abbrev trellisref32_Row_c12 : Code := Code.snd trellisref32_Row_c4
noncomputable abbrev trellisref32_Row_c13 : Code := Code.fst trellisref32_Row_c12
noncomputable abbrev trellisref32_Row_c14 : Code := Code.snd trellisref32_Row_c12
noncomputable abbrev trellisref32_Row_c15 : Code := Code.fst trellisref32_Row_c13
noncomputable abbrev trellisref32_Row_c16 : Code := Code.snd trellisref32_Row_c13
noncomputable abbrev trellisref32_Row_c17 : Code := Code.fst trellisref32_Row_c16
noncomputable abbrev trellisref32_Row_c18 : Code := Code.fst trellisref32_Row_c17
noncomputable abbrev trellisref32_Row_c19 : Code := Code.fst trellisref32_Row_c18
noncomputable abbrev trellisref32_Row_c20 : Code := Code.snd trellisref32_Row_c18
noncomputable abbrev trellisref32_Row_c21 : Code := Code.fst trellisref32_Row_c19
noncomputable abbrev trellisref32_Row_c22 : Code := Code.snd trellisref32_Row_c19
noncomputable abbrev trellisref32_Row_c23 : Code := Code.fst trellisref32_Row_c22
noncomputable abbrev trellisref32_Row_c24 : Code := Code.snd trellisref32_Row_c22
noncomputable abbrev trellisref32_Row_c25 : Code := Code.fst trellisref32_Row_c20
noncomputable abbrev trellisref32_Row_c26 : Code := Code.snd trellisref32_Row_c20
noncomputable abbrev trellisref32_Row_c27 : Code := Code.fst trellisref32_Row_c25
noncomputable abbrev trellisref32_Row_c28 : Code := Code.fst trellisref32_Row_c27
noncomputable abbrev trellisref32_Row_c29 : Code := Code.snd trellisref32_Row_c27
noncomputable abbrev trellisref32_Row_c30 : Code := Code.fst trellisref32_Row_c29
noncomputable abbrev trellisref32_Row_c31 : Code := Code.snd trellisref32_Row_c29
noncomputable abbrev trellisref32_Row_c32 : Code := Code.fst trellisref32_Row_c14
noncomputable abbrev trellisref32_Row_c33 : Code := Code.snd trellisref32_Row_c14
abbrev trellisref32_Row_R (w : World) (F : Nat → Prop) (r : List Int) : Ending → World → Prop := fun e w' => ∃ A0 : Option Addr, ∃ n0 : Nat, ∃ c0 : Nat, e = .returned (.slice A0 n0 c0) ∧ B.Loc w w' [.own (.slice A0 n0 c0) 3 1 n0 (r.flatMap (eI .i64))] [St w []] ∧ Ow w.heap.size A0 n0 c0 r
noncomputable abbrev trellisref32_Row_C (w : World) (F : Nat → Prop) (r : List Int) : Cx := ⟨Try.prog, 53, Try.f53, 32, trellisref32_Row_R w F  r, w⟩
theorem trellisref32_Row_calls (w : World) (F : Nat → Prop) (x1 : List api_Node) (x6 : Int) (A2 : Option Addr) (n3 : Nat) (c4 : Nat) (h5 : Rw k_api_Node w (St w []).av A2 n3 c4 x1) (hF : ∀ b, F b → b < w.heap.size ∧ ∀ o ∈ ([] : List (List Nat)), b ∉ o) (hL0 : B.Loc w w [] [Sm w.heap.size F w [], St w []]) (r : List Int) (h : trellisref32_Row x1 x6 r) : Calls Try.prog 53 #[.slice A2 n3 c4, .int .i64 x6] w (trellisref32_Row_R w F  r) := by
  unfold trellisref32_Row at h
  refine calls_of_Loc (vs := [.slice A2 n3 c4, .int .i64 x6]) 32 Try.func53 rfl Try.ntmps53 rfl hL0 ?_
  show G (trellisref32_Row_C w F r) _ _ _ _
  refine g_seq (c := trellisref32_Row_c0) rfl ?_
  refine g_region (c := trellisref32_Row_c1) rfl rfl ?_
  refine wl_v 0 rfl (v_assign rfl) gn rfl ?_
  refine w_end 1 rfl ?_
  refine g_seq (c := trellisref32_Row_c2) rfl ?_
  refine g_seq (c := trellisref32_Row_c3) rfl ?_
  refine g_region (c := trellisref32_Row_c5) rfl rfl ?_
  refine wl_v 0 rfl (v_move rfl) gn rfl ?_
  refine wl_v 1 rfl (v_bin rfl rfl rfl) gn rfl ?_
  refine w_end 2 rfl ?_
  by_cases hp7 : x6 ≥ 0
  · have h := if_pos' hp7 h
    refine g_true (c := trellisref32_Row_c6) rfl _ rfl ((decide_eq_true hp7)) ?_
    refine g_seq (c := trellisref32_Row_c7) rfl ?_
    refine g_region (c := trellisref32_Row_c9) rfl rfl ?_
    refine wl_v 0 rfl (v_move rfl) gn rfl ?_
    refine wl_v 1 rfl (v_move rfl) gn rfl ?_
    obtain ⟨r11, hv12, h⟩ := h
    refine wl_s 2 rfl (s_call [.slice A2 n3 c4, .int .i64 x6] rfl Try.func59 rfl rfl rfl fun w8 hL9 => ?_) gn
    have hp10 : List.Perm ([] : List Ent) (([] : List Ent) ++ ([] : List Ent)) := perm_of_idx [] [] rfl rfl (by kernel_rfl)
    refine Calls.mono (trellisref15_Kids_calls w8 (Fl ([] : List Snap)) x1 x6 A2 n3 c4 (Rw.mono h5 (hL9.toSt hp10 (me 1 rfl))) (hL9.hFl (Sl := ([] : List Snap)) hp10 (sels [] rfl)) (hL9.into hp10 (Fl ([] : List Snap))) r11 hv12) ?_
    rintro _ w18 ⟨A13, n14, c15, rfl, hM19, h16⟩
    have hL20 := hL9.call hp10 hM19
    refine ⟨_, _, _, rfl, hL20, ?_⟩
    refine wl_v 3 rfl (v_assign rfl) gn rfl ?_
    refine w_end 4 rfl ?_
    refine g_retR (c := trellisref32_Row_c10) [.slice A13 n14 c15] rfl Try.func53 rfl (.tmp rfl (.nil)) fun wr hLr => ?_
    have hMr : B.Loc w wr [.own (.slice A13 n14 c15) 3 1 n14 (r11.flatMap (eI .i64))] [St w []] := hLr.pick (rest := []) (perm_of_idx [0] [] rfl rfl (by kernel_rfl)) (sels [1] rfl)
    have hMi : ∀ e ∈ ([.own (.slice A13 n14 c15) 3 1 n14 (r11.flatMap (eI .i64))] : List Ent), e ∈ ([.own (.slice A13 n14 c15) 3 1 n14 (r11.flatMap (eI .i64))] : List Ent) := sels [0] rfl
    show trellisref32_Row_R w F  r (.returned (packV [.slice A13 n14 c15])) wr
    rw [h]
    exact ⟨A13, n14, c15, rfl, hMr, (Ow.weak hL9.env.size h16)⟩
  · have h := if_neg' hp7 h
    refine g_false (c := trellisref32_Row_c6) rfl _ rfl ((decide_eq_false hp7)) ?_
    refine g_skip (c := trellisref32_Row_c8) rfl ?_
    refine g_seq (c := trellisref32_Row_c4) rfl ?_
    refine g_region (c := trellisref32_Row_c11) rfl rfl ?_
    refine wl_v 0 rfl (v_assign rfl) gn rfl ?_
    refine w_end 1 rfl ?_
    refine g_seq (c := trellisref32_Row_c12) rfl ?_
    refine g_seq (c := trellisref32_Row_c13) rfl ?_
    refine g_region (c := trellisref32_Row_c15) rfl rfl ?_
    refine wl_v 0 rfl (v_assign rfl) gn rfl ?_
    refine w_end 1 rfl ?_
    refine g_block (c := trellisref32_Row_c16) rfl ?_
    refine g_loop (c := trellisref32_Row_c17) rfl ?_
    have key1 : ∀ s, Rounds (fun (s : (List Int) × Int) o => trellisref32_Row_b1 x1 s.1 s.2 o) s r → (fun (s : (List Int) × Int) => ∀ (A63 : Option Addr) (n64 : Nat) (c65 : Nat) (h66 : Ow w.heap.size A63 n64 c65 s.1), G (trellisref32_Row_C w F r) [.code trellisref32_Row_c18, .inLoop trellisref32_Row_c18, .inBlock 0, .code trellisref32_Row_c14] [(0, .slice A2 n3 c4), (5, .slice A63 n64 c65), (6, .int .i64 s.2)] [.own (.slice A63 n64 c65) 3 1 n64 (s.1.flatMap (eI .i64))] [Sm w.heap.size F w [], St w []]) s := by
      intro s hs
      refine Rounds.ind (mot := (fun (s : (List Int) × Int) => ∀ (A63 : Option Addr) (n64 : Nat) (c65 : Nat) (h66 : Ow w.heap.size A63 n64 c65 s.1), G (trellisref32_Row_C w F r) [.code trellisref32_Row_c18, .inLoop trellisref32_Row_c18, .inBlock 0, .code trellisref32_Row_c14] [(0, .slice A2 n3 c4), (5, .slice A63 n64 c65), (6, .int .i64 s.2)] [.own (.slice A63 n64 c65) 3 1 n64 (s.1.flatMap (eI .i64))] [Sm w.heap.size F w [], St w []])) ?_ hs
      clear hs s
      intro s o1 h hO1
      obtain ⟨x62, x67⟩ := s
      show ∀ (A63 : Option Addr) (n64 : Nat) (c65 : Nat) (h66 : Ow w.heap.size A63 n64 c65 x62), G (trellisref32_Row_C w F r) [.code trellisref32_Row_c18, .inLoop trellisref32_Row_c18, .inBlock 0, .code trellisref32_Row_c14] [(0, .slice A2 n3 c4), (5, .slice A63 n64 c65), (6, .int .i64 x67)] [.own (.slice A63 n64 c65) 3 1 n64 (x62.flatMap (eI .i64))] [Sm w.heap.size F w [], St w []]
      intro A63 n64 c65 h66
      have h : trellisref32_Row_b1 x1 x62 x67 o1 := h
      unfold trellisref32_Row_b1 at h
      refine g_seq (c := trellisref32_Row_c18) rfl ?_
      refine g_seq (c := trellisref32_Row_c19) rfl ?_
      have j2 : ∀ (x117 : Bool) (h : trellisref32_Row_j2 x1 x67 x62 x117 o1) , G (trellisref32_Row_C w F r) [.code trellisref32_Row_c22, .code trellisref32_Row_c20, .inLoop trellisref32_Row_c18, .inBlock 0, .code trellisref32_Row_c14] [(0, .slice A2 n3 c4), (5, .slice A63 n64 c65), (6, .int .i64 x67), (20, .bool x117)] [.own (.slice A63 n64 c65) 3 1 n64 (x62.flatMap (eI .i64))] [Sm w.heap.size F w [], St w []] := by
        intro x117 h
        unfold trellisref32_Row_j2 at h
        by_cases hp118 : x117 = true
        · have h := if_pos' hp118 h
          refine g_true (c := trellisref32_Row_c22) rfl _ rfl (hp118) ?_
          refine g_skip (c := trellisref32_Row_c23) rfl ?_
          refine g_seq (c := trellisref32_Row_c20) rfl ?_
          refine g_block (c := trellisref32_Row_c25) rfl ?_
          refine g_seq (c := trellisref32_Row_c27) rfl ?_
          refine g_region (c := trellisref32_Row_c28) rfl rfl ?_
          refine wl_v 0 rfl (v_move rfl) gn rfl ?_
          refine wl_v 1 rfl (v_move rfl) gn rfl ?_
          obtain ⟨r122, hv123, h⟩ := h
          refine wl_s 2 rfl (s_call [.slice A2 n3 c4, .int .i64 x67] rfl Try.func61 rfl rfl rfl fun w119 hL120 => ?_) gn
          have hp121 : List.Perm ([.own (.slice A63 n64 c65) 3 1 n64 (x62.flatMap (eI .i64))] : List Ent) (([] : List Ent) ++ ([.own (.slice A63 n64 c65) 3 1 n64 (x62.flatMap (eI .i64))] : List Ent)) := perm_of_idx [] [0] rfl rfl (by kernel_rfl)
          refine Calls.mono (trellisref15_Parent_calls w119 (Fl ([] : List Snap)) x1 x67 A2 n3 c4 (Rw.mono h5 (hL120.toSt hp121 (me 1 rfl))) (hL120.hFl (Sl := ([] : List Snap)) hp121 (sels [] rfl)) (hL120.into hp121 (Fl ([] : List Snap))) r122 hv123) ?_
          rintro _ w124 ⟨rfl, hM125⟩
          have hL126 := hL120.call hp121 hM125
          refine ⟨_, _, _, rfl, hL126, ?_⟩
          refine wl_v 3 rfl (v_bin rfl rfl rfl) gn rfl ?_
          refine w_end 4 rfl ?_
          by_cases hp127 : r122 < 0
          · have h := if_pos' hp127 h
            refine g_true (c := trellisref32_Row_c29) rfl _ rfl ((decide_eq_true hp127)) ?_
            refine g_region (c := trellisref32_Row_c30) rfl rfl ?_
            refine wl_v 0 rfl (v_move rfl) gn rfl ?_
            refine wl_v 1 rfl (v_move rfl) gn rfl ?_
            refine wl_s 2 rfl (s_litO (xs := ([x67] : List Int)) [.int .i64 x67] bs_45_1 rfl (by kernel_rfl) rfl rfl rfl rfl fun gb129 h130 => ?_) gn
            obtain ⟨x134, hv135, h⟩ := h
            obtain ⟨hb136, h⟩ := h
            refine wl_s 3 rfl (s_app (zs := x134) (cells' := x134.flatMap (eI .i64)) 1 ap_45 rfl rfl rfl h66 (Nat.le_refl _) (Src.ownF (hl := (hlI .i64)) (h1 := (hone_int .i64)) 0 rfl h130) (by rw [hv135, List.flatMap_append] <;> rfl) (app_len hv135 h130.hq) hb136 rfl rfl fun A131 c132 h133 => ?_) gn
            refine wl_v 4 rfl (v_assign rfl) gn rfl ?_
            refine w_end 5 rfl ?_
            refine g_inBlock ?_
            refine g_region (c := trellisref32_Row_c26) rfl rfl ?_
            refine wl_v 0 rfl (v_move rfl) gn rfl ?_
            refine wl_v 1 rfl (v_bin rfl rfl rfl) gn rfl ?_
            refine wl_v 2 rfl (v_assign rfl) gn rfl ?_
            refine w_end 3 rfl ?_
            refine g_inLoop ?_
            have ih := Out.inl hO1 h
            exact g_go [0, 1] (ih A131 (n64 + 1) c132 h133) ⟨rfl, rfl, rfl, trivial⟩ (.cons _ (.cons_cons _ (.slnil))) rfl
          · have h := if_neg' hp127 h
            refine g_false (c := trellisref32_Row_c29) rfl _ rfl ((decide_eq_false hp127)) ?_
            refine g_skip (c := trellisref32_Row_c31) rfl ?_
            refine g_inBlock ?_
            refine g_region (c := trellisref32_Row_c26) rfl rfl ?_
            refine wl_v 0 rfl (v_move rfl) gn rfl ?_
            refine wl_v 1 rfl (v_bin rfl rfl rfl) gn rfl ?_
            refine wl_v 2 rfl (v_assign rfl) gn rfl ?_
            refine w_end 3 rfl ?_
            refine g_inLoop ?_
            have ih := Out.inl hO1 h
            exact g_go [0, 1] (ih A63 n64 c65 h66) ⟨rfl, rfl, rfl, trivial⟩ (.cons_cons _ (.slnil)) rfl
        · have h := if_neg' hp118 h
          refine g_false (c := trellisref32_Row_c22) rfl _ rfl ((bf hp118)) ?_
          refine g_exit (c := trellisref32_Row_c24) [.code trellisref32_Row_c14] rfl rfl ?_
          refine g_seq (c := trellisref32_Row_c14) rfl ?_
          refine g_region (c := trellisref32_Row_c32) rfl rfl ?_
          refine wl_v 0 rfl (v_move rfl) gn rfl ?_
          refine wl_v 1 rfl (v_assign rfl) gn rfl ?_
          refine w_end 2 rfl ?_
          have h := Out.inr hO1 h
          refine g_retR (c := trellisref32_Row_c33) [.slice A63 n64 c65] rfl Try.func53 rfl (.tmp rfl (.nil)) fun wr hLr => ?_
          have hMr : B.Loc w wr [.own (.slice A63 n64 c65) 3 1 n64 (x62.flatMap (eI .i64))] [St w []] := hLr.pick (rest := []) (perm_of_idx [0] [] rfl rfl (by kernel_rfl)) (sels [1] rfl)
          have hMi : ∀ e ∈ ([.own (.slice A63 n64 c65) 3 1 n64 (x62.flatMap (eI .i64))] : List Ent), e ∈ ([.own (.slice A63 n64 c65) 3 1 n64 (x62.flatMap (eI .i64))] : List Ent) := sels [0] rfl
          show trellisref32_Row_R w F  r (.returned (packV [.slice A63 n64 c65])) wr
          rw [h]
          exact ⟨A63, n64, c65, rfl, hMr, h66⟩
      refine g_region (c := trellisref32_Row_c21) rfl rfl ?_
      refine wl_v 0 rfl (v_move rfl) gn rfl ?_
      refine wl_v 1 rfl (v_move rfl) gn rfl ?_
      refine wl_v 2 rfl (v_lenQ un_22 rfl h5.hq) gn rfl ?_
      refine wl_v 3 rfl (v_bin rfl rfl rfl) gn rfl ?_
      refine wl_v 4 rfl (v_move rfl) gn rfl ?_
      by_cases hp137 : x67 < (x1.length : Int)
      · have h := if_pos' hp137 h
        refine w_bool 16 rfl ((decide_eq_true hp137)) ?_
        refine wl_v 5 rfl (v_move rfl) (gy 16 rfl rfl) rfl ?_
        obtain ⟨r141, hv142, h⟩ := h
        refine wl_s 6 rfl (s_call [.slice A2 n3 c4] rfl Try.func60 rfl rfl rfl fun w138 hL139 => ?_) (gy 16 rfl rfl)
        have hp140 : List.Perm ([.own (.slice A63 n64 c65) 3 1 n64 (x62.flatMap (eI .i64))] : List Ent) (([] : List Ent) ++ ([.own (.slice A63 n64 c65) 3 1 n64 (x62.flatMap (eI .i64))] : List Ent)) := perm_of_idx [] [0] rfl rfl (by kernel_rfl)
        refine Calls.mono (trellisref15_Roots_calls w138 (Fl ([] : List Snap)) x1 A2 n3 c4 (Rw.mono h5 (hL139.toSt hp140 (me 1 rfl))) (hL139.hFl (Sl := ([] : List Snap)) hp140 (sels [] rfl)) (hL139.into hp140 (Fl ([] : List Snap))) r141 hv142) ?_
        rintro _ w143 ⟨rfl, hM144⟩
        have hL145 := hL139.call hp140 hM144
        refine ⟨_, _, _, rfl, hL145, ?_⟩
        refine wl_v 7 rfl (v_bin rfl rfl rfl) (gy 16 rfl rfl) rfl ?_
        refine wl_v 8 rfl (v_pick (b := true) rfl rfl) gn rfl ?_
        refine w_end 9 rfl ?_
        exact g_go [0, 1] (j2 (decide (r141 ≥ 0)) h) ⟨rfl, rfl, rfl, rfl, trivial⟩ (.cons_cons _ (.slnil)) rfl
      · have h := if_neg' hp137 h
        refine w_bool 16 rfl ((decide_eq_false hp137)) ?_
        refine wl_pass 5 rfl (ps 16 rfl rfl rfl) ?_
        refine wl_pass 6 rfl (ps 16 rfl rfl rfl) ?_
        refine wl_pass 7 rfl (ps 16 rfl rfl rfl) ?_
        refine wl_v 8 rfl (v_pick (b := false) rfl rfl) gn rfl ?_
        refine w_end 9 rfl ?_
        exact g_go [0, 1] (j2 false h) ⟨rfl, rfl, rfl, rfl, trivial⟩ (.cons_cons _ (.slnil)) rfl
    refine g_nil 3 1 ?_
    exact g_go [0, 1] (key1 _ h none 0 0 (Ow.nil (z := w.heap.size))) ⟨rfl, rfl, rfl, trivial⟩ (.cons_cons _ (.slnil)) rfl
noncomputable abbrev trellisref32_first_c0 : Code := bodyOf Try.f52
noncomputable abbrev trellisref32_first_c1 : Code := Code.fst trellisref32_first_c0
noncomputable abbrev trellisref32_first_c2 : Code := Code.snd trellisref32_first_c0
noncomputable abbrev trellisref32_first_c3 : Code := Code.fst trellisref32_first_c2
noncomputable abbrev trellisref32_first_c4 : Code := Code.snd trellisref32_first_c2
noncomputable abbrev trellisref32_first_c5 : Code := Code.fst trellisref32_first_c3
noncomputable abbrev trellisref32_first_c6 : Code := Code.snd trellisref32_first_c3
noncomputable abbrev trellisref32_first_c7 : Code := Code.fst trellisref32_first_c6
noncomputable abbrev trellisref32_first_c8 : Code := Code.fst trellisref32_first_c7
noncomputable abbrev trellisref32_first_c9 : Code := Code.fst trellisref32_first_c8
noncomputable abbrev trellisref32_first_c10 : Code := Code.snd trellisref32_first_c8
noncomputable abbrev trellisref32_first_c11 : Code := Code.fst trellisref32_first_c9
noncomputable abbrev trellisref32_first_c12 : Code := Code.snd trellisref32_first_c9
noncomputable abbrev trellisref32_first_c13 : Code := Code.fst trellisref32_first_c12
noncomputable abbrev trellisref32_first_c14 : Code := Code.snd trellisref32_first_c12
noncomputable abbrev trellisref32_first_c15 : Code := Code.fst trellisref32_first_c10
noncomputable abbrev trellisref32_first_c16 : Code := Code.snd trellisref32_first_c10
noncomputable abbrev trellisref32_first_c17 : Code := Code.fst trellisref32_first_c15
noncomputable abbrev trellisref32_first_c18 : Code := Code.fst trellisref32_first_c17
noncomputable abbrev trellisref32_first_c19 : Code := Code.snd trellisref32_first_c17
noncomputable abbrev trellisref32_first_c20 : Code := Code.fst trellisref32_first_c19
noncomputable abbrev trellisref32_first_c21 : Code := Code.snd trellisref32_first_c19
noncomputable abbrev trellisref32_first_c22 : Code := Code.fst trellisref32_first_c20
noncomputable abbrev trellisref32_first_c23 : Code := Code.snd trellisref32_first_c20
noncomputable abbrev trellisref32_first_c24 : Code := Code.fst trellisref32_first_c4
noncomputable abbrev trellisref32_first_c25 : Code := Code.snd trellisref32_first_c4
abbrev trellisref32_first_R (w : World) (F : Nat → Prop) (r : Int) : Ending → World → Prop := fun e w' => e = .returned (.int .i64 r) ∧ B.Loc w w' [] [St w []]
noncomputable abbrev trellisref32_first_C (w : World) (F : Nat → Prop) (r : Int) : Cx := ⟨Try.prog, 52, Try.f52, 42, trellisref32_first_R w F  r, w⟩
theorem trellisref32_first_calls (w : World) (F : Nat → Prop) (x1 : List api_Node) (x6 : List Int) (x11 : api_Range) (A2 : Option Addr) (n3 : Nat) (c4 : Nat) (A7 : Option Addr) (n8 : Nat) (c9 : Nat) (h5 : Rw k_api_Node w (St w []).av A2 n3 c4 x1) (h10 : Rw (kInt .i64) w (St w []).av A7 n8 c9 x6) (hF : ∀ b, F b → b < w.heap.size ∧ ∀ o ∈ ([] : List (List Nat)), b ∉ o) (hL0 : B.Loc w w [] [Sm w.heap.size F w [], St w []]) (r : Int) (h : trellisref32_first x1 x6 x11 r) : Calls Try.prog 52 #[.slice A2 n3 c4, .slice A7 n8 c9, .agg #[.int .i64 x11.from_, .int .i64 x11.to]] w (trellisref32_first_R w F  r) := by
  unfold trellisref32_first at h
  refine calls_of_Loc (vs := [.slice A2 n3 c4, .slice A7 n8 c9, .agg #[.int .i64 x11.from_, .int .i64 x11.to]]) 42 Try.func52 rfl Try.ntmps52 rfl hL0 ?_
  show G (trellisref32_first_C w F r) _ _ _ _
  refine g_seq (c := trellisref32_first_c0) rfl ?_
  refine g_region (c := trellisref32_first_c1) rfl rfl ?_
  refine wl_s 0 rfl (s_box [.int .i64 x11.from_, .int .i64 x11.to] rfl rfl rfl fun gb12 => ?_) gn
  refine wl_v 1 rfl (v_assign rfl) gn rfl ?_
  refine w_end 2 rfl ?_
  refine g_seq (c := trellisref32_first_c2) rfl ?_
  refine g_seq (c := trellisref32_first_c3) rfl ?_
  refine g_region (c := trellisref32_first_c5) rfl rfl ?_
  refine wl_v 0 rfl (v_assign rfl) gn rfl ?_
  refine w_end 1 rfl ?_
  refine g_block (c := trellisref32_first_c6) rfl ?_
  refine g_loop (c := trellisref32_first_c7) rfl ?_
  have key1 : ∀ s, Rounds (fun (s : Int) o => trellisref32_first_b1 x6 x1 x11 s o) s r → (fun (s : Int) => ∀ (_ : Unit), G (trellisref32_first_C w F r) [.code trellisref32_first_c8, .inLoop trellisref32_first_c8, .inBlock 0, .code trellisref32_first_c4] [(0, .slice A2 n3 c4), (1, .slice A7 n8 c9), (5, .pointer (some ⟨gb12, 0, none⟩)), (7, .int .i64 s)] [.box gb12 24 [.int .i64 x11.from_, .int .i64 x11.to]] [Sm w.heap.size F w [], St w []]) s := by
    intro s hs
    refine Rounds.ind (mot := (fun (s : Int) => ∀ (_ : Unit), G (trellisref32_first_C w F r) [.code trellisref32_first_c8, .inLoop trellisref32_first_c8, .inBlock 0, .code trellisref32_first_c4] [(0, .slice A2 n3 c4), (1, .slice A7 n8 c9), (5, .pointer (some ⟨gb12, 0, none⟩)), (7, .int .i64 s)] [.box gb12 24 [.int .i64 x11.from_, .int .i64 x11.to]] [Sm w.heap.size F w [], St w []])) ?_ hs
    clear hs s
    intro x37 o1 h hO1
    show ∀ (_ : Unit), G (trellisref32_first_C w F r) [.code trellisref32_first_c8, .inLoop trellisref32_first_c8, .inBlock 0, .code trellisref32_first_c4] [(0, .slice A2 n3 c4), (1, .slice A7 n8 c9), (5, .pointer (some ⟨gb12, 0, none⟩)), (7, .int .i64 x37)] [.box gb12 24 [.int .i64 x11.from_, .int .i64 x11.to]] [Sm w.heap.size F w [], St w []]
    intro _
    have h : trellisref32_first_b1 x6 x1 x11 x37 o1 := h
    unfold trellisref32_first_b1 at h
    refine g_seq (c := trellisref32_first_c8) rfl ?_
    refine g_seq (c := trellisref32_first_c9) rfl ?_
    refine g_region (c := trellisref32_first_c11) rfl rfl ?_
    refine wl_v 0 rfl (v_move rfl) gn rfl ?_
    refine wl_v 1 rfl (v_move rfl) gn rfl ?_
    refine wl_v 2 rfl (v_lenQ un_45 rfl h10.hq) gn rfl ?_
    refine wl_v 3 rfl (v_bin rfl rfl rfl) gn rfl ?_
    refine w_end 4 rfl ?_
    by_cases hp60 : x37 < (x6.length : Int)
    · have h := if_pos' hp60 h
      refine g_true (c := trellisref32_first_c12) rfl _ rfl ((decide_eq_true hp60)) ?_
      refine g_skip (c := trellisref32_first_c13) rfl ?_
      refine g_seq (c := trellisref32_first_c10) rfl ?_
      refine g_block (c := trellisref32_first_c15) rfl ?_
      refine g_seq (c := trellisref32_first_c17) rfl ?_
      obtain ⟨hb61, h⟩ := h
      obtain ⟨hb63, h⟩ := h
      by_cases hp65 : (ix x1 (ix x6 x37)).from_ ≤ x11.from_
      · have h := if_pos' hp65 h
        have hns : Region.noSelect (Code.ops trellisref32_first_c18) = true := by kernel_rfl
        refine g_drawF (c := trellisref32_first_c18) [.box gb12 24 [.int .i64 x11.from_, .int .i64 x11.to]] [Sm w.heap.size F w [], St w []] [] 24 rfl rfl mix rfl (.cons_cons _ (.slnil)) (sels [0, 1] rfl) ?_
        refine wf_v 0 rfl (v_move rfl) gn rfl hns (by kernel_rfl) (by kernel_rfl) rfl rfl ?_
        refine wf_v 1 rfl (v_move rfl) gn rfl hns (by kernel_rfl) (by kernel_rfl) rfl rfl ?_
        refine wf_v 2 rfl (v_move rfl) gn rfl hns (by kernel_rfl) (by kernel_rfl) rfl rfl ?_
        have hr72 := Rw.readF (s := St w []) (hl := (hlI .i64)) (h1 := (hone_int .i64)) h10 hb61
        refine wf_v 3 rfl (v_idxR (s := St w []) slE_45 rfl rfl h10 hb61) gn rfl hns (by kernel_rfl) (by kernel_rfl) rfl rfl ?_
        refine wf_v 4 rfl (v_ldA1 (kk := (x37 : Int).toNat * 1) (j := 0) (St w []) ld_3 rfl hr72 rfl (me 1 rfl)) gn rfl hns (by kernel_rfl) (by kernel_rfl) rfl rfl ?_
        have hr73 := Rw.readF (s := St w []) (hl := hl_api_Node) (h1 := h1_api_Node) h5 hb63
        refine wf_v 5 rfl (v_idxR (s := St w []) slE_22 rfl rfl h5 hb63) gn rfl hns (by kernel_rfl) (by kernel_rfl) rfl rfl ?_
        refine wf_v 6 rfl (v_fldA fo_39_3 rfl) gn rfl hns (by kernel_rfl) (by kernel_rfl) rfl rfl ?_
        refine wf_v 7 rfl (v_ldA1 (kk := (ix x6 x37 : Int).toNat * 7) (j := 3) (St w []) ld_3 rfl hr73 rfl (me 1 rfl)) gn rfl hns (by kernel_rfl) (by kernel_rfl) rfl rfl ?_
        refine wf_v 8 rfl (v_fldB fo_24_0 rfl) gn rfl hns (by kernel_rfl) (by kernel_rfl) rfl rfl ?_
        refine wf_v 9 rfl (v_ldB1 0 ld_3 rfl rfl rfl) gn rfl hns (by kernel_rfl) (by kernel_rfl) rfl rfl ?_
        refine wf_v 10 rfl (v_bin rfl rfl rfl) gn rfl hns (by kernel_rfl) (by kernel_rfl) rfl rfl ?_
        refine wf_v 11 rfl (v_move rfl) gn rfl hns (by kernel_rfl) (by kernel_rfl) rfl rfl ?_
        refine wf_bool 25 rfl ((decide_eq_true hp65)) ?_
        refine wf_v 12 rfl (v_move rfl) (gy 25 rfl rfl) rfl hns (by kernel_rfl) (by kernel_rfl) rfl rfl ?_
        refine wf_v 13 rfl (v_move rfl) (gy 25 rfl rfl) rfl hns (by kernel_rfl) (by kernel_rfl) rfl rfl ?_
        refine wf_v 14 rfl (v_move rfl) (gy 25 rfl rfl) rfl hns (by kernel_rfl) (by kernel_rfl) rfl rfl ?_
        have hr74 := Rw.readF (s := St w []) (hl := (hlI .i64)) (h1 := (hone_int .i64)) h10 hb61
        refine wf_v 15 rfl (v_idxR (s := St w []) slE_45 rfl rfl h10 hb61) (gy 25 rfl rfl) rfl hns (by kernel_rfl) (by kernel_rfl) rfl rfl ?_
        refine wf_v 16 rfl (v_ldA1 (kk := (x37 : Int).toNat * 1) (j := 0) (St w []) ld_3 rfl hr74 rfl (me 1 rfl)) (gy 25 rfl rfl) rfl hns (by kernel_rfl) (by kernel_rfl) rfl rfl ?_
        have hr75 := Rw.readF (s := St w []) (hl := hl_api_Node) (h1 := h1_api_Node) h5 hb63
        refine wf_v 17 rfl (v_idxR (s := St w []) slE_22 rfl rfl h5 hb63) (gy 25 rfl rfl) rfl hns (by kernel_rfl) (by kernel_rfl) rfl rfl ?_
        refine wf_v 18 rfl (v_fldA fo_39_4 rfl) (gy 25 rfl rfl) rfl hns (by kernel_rfl) (by kernel_rfl) rfl rfl ?_
        refine wf_v 19 rfl (v_ldA1 (kk := (ix x6 x37 : Int).toNat * 7) (j := 4) (St w []) ld_3 rfl hr75 rfl (me 1 rfl)) (gy 25 rfl rfl) rfl hns (by kernel_rfl) (by kernel_rfl) rfl rfl ?_
        refine wf_v 20 rfl (v_fldB fo_24_1 rfl) (gy 25 rfl rfl) rfl hns (by kernel_rfl) (by kernel_rfl) rfl rfl ?_
        refine wf_v 21 rfl (v_ldB1 0 ld_3 rfl rfl rfl) (gy 25 rfl rfl) rfl hns (by kernel_rfl) (by kernel_rfl) rfl rfl ?_
        refine wf_v 22 rfl (v_bin rfl rfl rfl) (gy 25 rfl rfl) rfl hns (by kernel_rfl) (by kernel_rfl) rfl rfl ?_
        refine wf_v 23 rfl (v_pick (b := true) rfl rfl) gn rfl hns (by kernel_rfl) (by kernel_rfl) rfl rfl ?_
        refine wf_end (by kernel_rfl) ?_
        by_cases hp76 : (ix x1 (ix x6 x37)).to ≥ x11.to
        · have h := if_pos' hp76 h
          refine g_true (c := trellisref32_first_c19) rfl _ rfl ((decide_eq_true hp76)) ?_
          refine g_seq (c := trellisref32_first_c20) rfl ?_
          refine g_region (c := trellisref32_first_c22) rfl rfl ?_
          refine wl_v 0 rfl (v_move rfl) gn rfl ?_
          refine wl_v 1 rfl (v_move rfl) gn rfl ?_
          have hr77 := Rw.readF (s := St w []) (hl := (hlI .i64)) (h1 := (hone_int .i64)) h10 hb61
          refine wl_v 2 rfl (v_idxR (s := St w []) slE_45 rfl rfl h10 hb61) gn rfl ?_
          refine wl_v 3 rfl (v_ldA1 (kk := (x37 : Int).toNat * 1) (j := 0) (St w []) ld_3 rfl hr77 rfl (me 1 rfl)) gn rfl ?_
          refine wl_v 4 rfl (v_assign rfl) gn rfl ?_
          refine w_end 5 rfl ?_
          have h := Out.inr hO1 h
          refine g_retR (c := trellisref32_first_c23) [.int .i64 (ix x6 x37)] rfl Try.func52 rfl (.tmp rfl (.nil)) fun wr hLr => ?_
          have hMr : B.Loc w wr [] [St w []] := hLr.pick (rest := [.box gb12 24 [.int .i64 x11.from_, .int .i64 x11.to]]) (perm_of_idx [] [0] rfl rfl (by kernel_rfl)) (sels [1] rfl)
          have hMi : ∀ e ∈ ([] : List Ent), e ∈ ([.box gb12 24 [.int .i64 x11.from_, .int .i64 x11.to]] : List Ent) := sels [] rfl
          show trellisref32_first_R w F  r (.returned (packV [.int .i64 (ix x6 x37)])) wr
          rw [h]
          exact ⟨rfl, hMr⟩
        · have h := if_neg' hp76 h
          refine g_false (c := trellisref32_first_c19) rfl _ rfl ((decide_eq_false hp76)) ?_
          refine g_skip (c := trellisref32_first_c21) rfl ?_
          refine g_inBlock ?_
          refine g_region (c := trellisref32_first_c16) rfl rfl ?_
          refine wl_v 0 rfl (v_move rfl) gn rfl ?_
          refine wl_v 1 rfl (v_bin rfl rfl rfl) gn rfl ?_
          refine wl_v 2 rfl (v_assign rfl) gn rfl ?_
          refine w_end 3 rfl ?_
          refine g_inLoop ?_
          have ih := Out.inl hO1 h
          exact g_go [0, 1] (ih ()) ⟨rfl, rfl, rfl, rfl, trivial⟩ (.cons_cons _ (.slnil)) rfl
      · have h := if_neg' hp65 h
        have hns : Region.noSelect (Code.ops trellisref32_first_c18) = true := by kernel_rfl
        refine g_drawF (c := trellisref32_first_c18) [.box gb12 24 [.int .i64 x11.from_, .int .i64 x11.to]] [Sm w.heap.size F w [], St w []] [] 24 rfl rfl mix rfl (.cons_cons _ (.slnil)) (sels [0, 1] rfl) ?_
        refine wf_v 0 rfl (v_move rfl) gn rfl hns (by kernel_rfl) (by kernel_rfl) rfl rfl ?_
        refine wf_v 1 rfl (v_move rfl) gn rfl hns (by kernel_rfl) (by kernel_rfl) rfl rfl ?_
        refine wf_v 2 rfl (v_move rfl) gn rfl hns (by kernel_rfl) (by kernel_rfl) rfl rfl ?_
        have hr80 := Rw.readF (s := St w []) (hl := (hlI .i64)) (h1 := (hone_int .i64)) h10 hb61
        refine wf_v 3 rfl (v_idxR (s := St w []) slE_45 rfl rfl h10 hb61) gn rfl hns (by kernel_rfl) (by kernel_rfl) rfl rfl ?_
        refine wf_v 4 rfl (v_ldA1 (kk := (x37 : Int).toNat * 1) (j := 0) (St w []) ld_3 rfl hr80 rfl (me 1 rfl)) gn rfl hns (by kernel_rfl) (by kernel_rfl) rfl rfl ?_
        have hr81 := Rw.readF (s := St w []) (hl := hl_api_Node) (h1 := h1_api_Node) h5 hb63
        refine wf_v 5 rfl (v_idxR (s := St w []) slE_22 rfl rfl h5 hb63) gn rfl hns (by kernel_rfl) (by kernel_rfl) rfl rfl ?_
        refine wf_v 6 rfl (v_fldA fo_39_3 rfl) gn rfl hns (by kernel_rfl) (by kernel_rfl) rfl rfl ?_
        refine wf_v 7 rfl (v_ldA1 (kk := (ix x6 x37 : Int).toNat * 7) (j := 3) (St w []) ld_3 rfl hr81 rfl (me 1 rfl)) gn rfl hns (by kernel_rfl) (by kernel_rfl) rfl rfl ?_
        refine wf_v 8 rfl (v_fldB fo_24_0 rfl) gn rfl hns (by kernel_rfl) (by kernel_rfl) rfl rfl ?_
        refine wf_v 9 rfl (v_ldB1 0 ld_3 rfl rfl rfl) gn rfl hns (by kernel_rfl) (by kernel_rfl) rfl rfl ?_
        refine wf_v 10 rfl (v_bin rfl rfl rfl) gn rfl hns (by kernel_rfl) (by kernel_rfl) rfl rfl ?_
        refine wf_v 11 rfl (v_move rfl) gn rfl hns (by kernel_rfl) (by kernel_rfl) rfl rfl ?_
        refine wf_bool 25 rfl ((decide_eq_false hp65)) ?_
        refine wf_pass 12 rfl (ps 25 rfl rfl rfl) hns (by kernel_rfl) (by kernel_rfl) rfl rfl ?_
        refine wf_pass 13 rfl (ps 25 rfl rfl rfl) hns (by kernel_rfl) (by kernel_rfl) rfl rfl ?_
        refine wf_pass 14 rfl (ps 25 rfl rfl rfl) hns (by kernel_rfl) (by kernel_rfl) rfl rfl ?_
        refine wf_pass 15 rfl (ps 25 rfl rfl rfl) hns (by kernel_rfl) (by kernel_rfl) rfl rfl ?_
        refine wf_pass 16 rfl (ps 25 rfl rfl rfl) hns (by kernel_rfl) (by kernel_rfl) rfl rfl ?_
        refine wf_pass 17 rfl (ps 25 rfl rfl rfl) hns (by kernel_rfl) (by kernel_rfl) rfl rfl ?_
        refine wf_pass 18 rfl (ps 25 rfl rfl rfl) hns (by kernel_rfl) (by kernel_rfl) rfl rfl ?_
        refine wf_pass 19 rfl (ps 25 rfl rfl rfl) hns (by kernel_rfl) (by kernel_rfl) rfl rfl ?_
        refine wf_pass 20 rfl (ps 25 rfl rfl rfl) hns (by kernel_rfl) (by kernel_rfl) rfl rfl ?_
        refine wf_pass 21 rfl (ps 25 rfl rfl rfl) hns (by kernel_rfl) (by kernel_rfl) rfl rfl ?_
        refine wf_pass 22 rfl (ps 25 rfl rfl rfl) hns (by kernel_rfl) (by kernel_rfl) rfl rfl ?_
        refine wf_v 23 rfl (v_pick (b := false) rfl rfl) gn rfl hns (by kernel_rfl) (by kernel_rfl) rfl rfl ?_
        refine wf_end (by kernel_rfl) ?_
        refine g_false (c := trellisref32_first_c19) rfl _ rfl (rfl) ?_
        refine g_skip (c := trellisref32_first_c21) rfl ?_
        refine g_inBlock ?_
        refine g_region (c := trellisref32_first_c16) rfl rfl ?_
        refine wl_v 0 rfl (v_move rfl) gn rfl ?_
        refine wl_v 1 rfl (v_bin rfl rfl rfl) gn rfl ?_
        refine wl_v 2 rfl (v_assign rfl) gn rfl ?_
        refine w_end 3 rfl ?_
        refine g_inLoop ?_
        have ih := Out.inl hO1 h
        exact g_go [0, 1] (ih ()) ⟨rfl, rfl, rfl, rfl, trivial⟩ (.cons_cons _ (.slnil)) rfl
    · have h := if_neg' hp60 h
      refine g_false (c := trellisref32_first_c12) rfl _ rfl ((decide_eq_false hp60)) ?_
      refine g_exit (c := trellisref32_first_c14) [.code trellisref32_first_c4] rfl rfl ?_
      refine g_seq (c := trellisref32_first_c4) rfl ?_
      refine g_region (c := trellisref32_first_c24) rfl rfl ?_
      refine wl_v 0 rfl (v_assign rfl) gn rfl ?_
      refine w_end 1 rfl ?_
      have h := Out.inr hO1 h
      refine g_retR (c := trellisref32_first_c25) [.int .i64 (-1)] rfl Try.func52 rfl (.tmp rfl (.nil)) fun wr hLr => ?_
      have hMr : B.Loc w wr [] [St w []] := hLr.pick (rest := [.box gb12 24 [.int .i64 x11.from_, .int .i64 x11.to]]) (perm_of_idx [] [0] rfl rfl (by kernel_rfl)) (sels [1] rfl)
      have hMi : ∀ e ∈ ([] : List Ent), e ∈ ([.box gb12 24 [.int .i64 x11.from_, .int .i64 x11.to]] : List Ent) := sels [] rfl
      show trellisref32_first_R w F  r (.returned (packV [.int .i64 (-1)])) wr
      rw [h]
      exact ⟨rfl, hMr⟩
  exact g_go [0, 1] (key1 _ h ()) ⟨rfl, rfl, rfl, rfl, trivial⟩ (.cons_cons _ (.slnil)) rfl
end Go.Proofs.Ytoifgnogoddmlaa.K
