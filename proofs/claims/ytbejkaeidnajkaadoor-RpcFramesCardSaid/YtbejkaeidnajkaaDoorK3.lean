/- What the machine's calls do, function by function, printed by my own tool. Condition of each: its relation holds of the answer, and what is handed in lies in memory as told. -/
import Derived.Test.YtbejkaeidnajkaaDoorK2
set_option linter.unusedVariables false
set_option maxRecDepth 100000
set_option maxHeartbeats 4000000
namespace Go.Proofs.YtbejkaeidnajkaaDoor.K
open Go.Proofs.YtbejkaeidnajkaaDoor.B Go.Proofs.YtbejkaeidnajkaaDoor.R Go.RowKit
noncomputable abbrev trellislaw26_RpcCanon_c0 : Code := bodyOf Tryd.f5
noncomputable abbrev trellislaw26_RpcCanon_c1 : Code := Code.fst trellislaw26_RpcCanon_c0
noncomputable abbrev trellislaw26_RpcCanon_c2 : Code := Code.snd trellislaw26_RpcCanon_c0
noncomputable abbrev trellislaw26_RpcCanon_c3 : Code := Code.fst trellislaw26_RpcCanon_c2
noncomputable abbrev trellislaw26_RpcCanon_c4 : Code := Code.snd trellislaw26_RpcCanon_c2
noncomputable abbrev trellislaw26_RpcCanon_c5 : Code := Code.fst trellislaw26_RpcCanon_c3
noncomputable abbrev trellislaw26_RpcCanon_c6 : Code := Code.snd trellislaw26_RpcCanon_c3
noncomputable abbrev trellislaw26_RpcCanon_c7 : Code := Code.fst trellislaw26_RpcCanon_c6
noncomputable abbrev trellislaw26_RpcCanon_c8 : Code := Code.snd trellislaw26_RpcCanon_c6
noncomputable abbrev trellislaw26_RpcCanon_c9 : Code := Code.fst trellislaw26_RpcCanon_c4
noncomputable abbrev trellislaw26_RpcCanon_c10 : Code := Code.snd trellislaw26_RpcCanon_c4
noncomputable abbrev trellislaw26_RpcCanon_c11 : Code := Code.fst trellislaw26_RpcCanon_c10
noncomputable abbrev trellislaw26_RpcCanon_c12 : Code := Code.snd trellislaw26_RpcCanon_c10
noncomputable abbrev trellislaw26_RpcCanon_c13 : Code := Code.fst trellislaw26_RpcCanon_c11
noncomputable abbrev trellislaw26_RpcCanon_c14 : Code := Code.snd trellislaw26_RpcCanon_c11
noncomputable abbrev trellislaw26_RpcCanon_c15 : Code := Code.fst trellislaw26_RpcCanon_c14
noncomputable abbrev trellislaw26_RpcCanon_c16 : Code := Code.snd trellislaw26_RpcCanon_c14
noncomputable abbrev trellislaw26_RpcCanon_c17 : Code := Code.fst trellislaw26_RpcCanon_c12
noncomputable abbrev trellislaw26_RpcCanon_c18 : Code := Code.snd trellislaw26_RpcCanon_c12
noncomputable abbrev trellislaw26_RpcCanon_c19 : Code := Code.fst trellislaw26_RpcCanon_c18
noncomputable abbrev trellislaw26_RpcCanon_c20 : Code := Code.snd trellislaw26_RpcCanon_c18
noncomputable abbrev trellislaw26_RpcCanon_c21 : Code := Code.fst trellislaw26_RpcCanon_c15
noncomputable abbrev trellislaw26_RpcCanon_c22 : Code := Code.snd trellislaw26_RpcCanon_c15
noncomputable abbrev trellislaw26_RpcCanon_c23 : Code := Code.fst trellislaw26_RpcCanon_c7
noncomputable abbrev trellislaw26_RpcCanon_c24 : Code := Code.snd trellislaw26_RpcCanon_c7
abbrev trellislaw26_RpcCanon_R (w : World) (F : Nat → Prop) (r : Bool) : Ending → World → Prop := fun e w' => e = .returned (.bool r) ∧ B.Loc w w' [] [St w []]
noncomputable abbrev trellislaw26_RpcCanon_C (w : World) (F : Nat → Prop) (r : Bool) : Cx := ⟨Tryd.prog, 5, Tryd.f5, 62, trellislaw26_RpcCanon_R w F  r, w⟩
theorem trellislaw26_RpcCanon_calls (w : World) (F : Nat → Prop) (x1 : List Int) (A2 : Option Addr) (n3 : Nat) (c4 : Nat) (h5 : Rw (kInt .u8) w (St w []).av A2 n3 c4 x1) (hG : Tb Tryd.prog (St w [])) (hF : ∀ b, F b → b < w.heap.size ∧ ∀ o ∈ ([] : List (List Nat)), b ∉ o) (hL0 : B.Loc w w [] [Sm w.heap.size F w [], St w []]) (r : Bool) (h : trellislaw26_RpcCanon x1 r) : Calls Tryd.prog 5 #[.slice A2 n3 c4] w (trellislaw26_RpcCanon_R w F  r) := by
  unfold trellislaw26_RpcCanon at h
  refine calls_of_Loc (vs := [.slice A2 n3 c4]) 62 Tryd.func5 rfl Tryd.ntmps5 rfl hL0 ?_
  show G (trellislaw26_RpcCanon_C w F r) _ _ _ _
  refine g_seq (c := trellislaw26_RpcCanon_c0) rfl ?_
  refine g_region (c := trellislaw26_RpcCanon_c1) rfl rfl ?_
  refine wl_v 0 rfl (v_assign rfl) gn rfl ?_
  refine w_end 1 rfl ?_
  refine g_seq (c := trellislaw26_RpcCanon_c2) rfl ?_
  refine g_seq (c := trellislaw26_RpcCanon_c3) rfl ?_
  refine g_region (c := trellislaw26_RpcCanon_c5) rfl rfl ?_
  obtain ⟨r9, hv10, h⟩ := h
  refine wl_s 0 rfl (s_call [] rfl Tryd.func15 rfl rfl rfl fun w6 hL7 => ?_) gn
  have hp8 : List.Perm ([] : List Ent) (([] : List Ent) ++ ([] : List Ent)) := perm_of_idx [] [] rfl rfl (by kernel_rfl)
  refine Calls.mono (trellislaw26_started_calls w6 (Fl ([] : List Snap)) (hL7.tb hp8 hG (me 1 rfl)) (hL7.hFl (Sl := ([] : List Snap)) hp8 (sels [] rfl)) (hL7.into hp8 (Fl ([] : List Snap))) r9 hv10) ?_
  rintro _ w11 ⟨rfl, hM12⟩
  have hL13 := hL7.call hp8 hM12
  refine ⟨_, _, _, rfl, hL13, ?_⟩
  refine wl_v 1 rfl (v_not rfl) gn rfl ?_
  refine w_end 2 rfl ?_
  by_cases hp14 : r9 = true
  · have h := if_pos' hp14 h
    refine g_false (c := trellislaw26_RpcCanon_c6) rfl _ rfl ((nf hp14)) ?_
    refine g_skip (c := trellislaw26_RpcCanon_c8) rfl ?_
    refine g_seq (c := trellislaw26_RpcCanon_c4) rfl ?_
    refine g_region (c := trellislaw26_RpcCanon_c9) rfl rfl ?_
    refine wl_v 0 rfl (v_move rfl) gn rfl ?_
    obtain ⟨r18, hv19, h⟩ := h
    refine wl_s 1 rfl (s_call [.slice A2 n3 c4] rfl Tryd.func12 rfl rfl rfl fun w15 hL16 => ?_) gn
    have hp17 : List.Perm ([] : List Ent) (([] : List Ent) ++ ([] : List Ent)) := perm_of_idx [] [] rfl rfl (by kernel_rfl)
    refine Calls.mono (rpc_Take_calls w15 (Fl ([] : List Snap)) x1 A2 n3 c4 (Rw.mono h5 (hL16.toSt hp17 (me 1 rfl))) (hL16.hFl (Sl := ([] : List Snap)) hp17 (sels [] rfl)) (hL16.into hp17 (Fl ([] : List Snap))) r18 hv19) ?_
    rintro _ w20 ⟨rfl, hM21⟩
    have hL22 := hL16.call hp17 hM21
    refine ⟨_, _, _, rfl, hL22, ?_⟩
    refine wl_v 2 rfl (v_move rfl) gn rfl ?_
    refine wl_v 3 rfl (v_extract rfl rfl) gn rfl ?_
    refine wl_v 4 rfl (v_extract rfl rfl) gn rfl ?_
    refine wl_v 5 rfl (v_extract rfl rfl) gn rfl ?_
    refine wl_v 6 rfl (v_assign rfl) gn rfl ?_
    refine wl_v 7 rfl (v_assign rfl) gn rfl ?_
    refine wl_v 8 rfl (v_assign rfl) gn rfl ?_
    refine w_end 9 rfl ?_
    refine g_seq (c := trellislaw26_RpcCanon_c10) rfl ?_
    refine g_seq (c := trellislaw26_RpcCanon_c11) rfl ?_
    refine g_region (c := trellislaw26_RpcCanon_c13) rfl rfl ?_
    refine wl_v 0 rfl (v_move rfl) gn rfl ?_
    refine wl_v 1 rfl (v_bin rfl rfl rfl) gn rfl ?_
    refine w_end 2 rfl ?_
    by_cases hp23 : r18.2.2 = 0
    · have h := if_pos' hp23 h
      refine g_false (c := trellislaw26_RpcCanon_c14) rfl _ rfl ((eqib hp23)) ?_
      refine g_skip (c := trellislaw26_RpcCanon_c16) rfl ?_
      refine g_seq (c := trellislaw26_RpcCanon_c12) rfl ?_
      refine g_region (c := trellislaw26_RpcCanon_c17) rfl rfl ?_
      refine wl_v 0 rfl (v_move rfl) gn rfl ?_
      obtain ⟨r27, hv28, h⟩ := h
      refine wl_s 1 rfl (s_call [.string r18.1] rfl Tryd.func8 rfl rfl rfl fun w24 hL25 => ?_) gn
      have hp26 : List.Perm ([] : List Ent) (([] : List Ent) ++ ([] : List Ent)) := perm_of_idx [] [] rfl rfl (by kernel_rfl)
      refine Calls.mono (rpc_Put_calls w24 (Fl ([] : List Snap)) r18.1 (hL25.tb hp26 hG (me 1 rfl)) (hL25.hFl (Sl := ([] : List Snap)) hp26 (sels [] rfl)) (hL25.into hp26 (Fl ([] : List Snap))) r27 hv28) ?_
      rintro _ w34 ⟨A29, n30, c31, rfl, hM35, h32⟩
      have hL36 := hL25.call hp26 hM35
      refine ⟨_, _, _, rfl, hL36, ?_⟩
      refine wl_v 2 rfl (v_move rfl) gn rfl ?_
      refine wl_v 3 rfl (v_extract rfl rfl) gn rfl ?_
      refine wl_v 4 rfl (v_extract rfl rfl) gn rfl ?_
      refine wl_v 5 rfl (v_assign rfl) gn rfl ?_
      refine wl_v 6 rfl (v_assign rfl) gn rfl ?_
      refine w_end 7 rfl ?_
      refine g_seq (c := trellislaw26_RpcCanon_c18) rfl ?_
      refine g_region (c := trellislaw26_RpcCanon_c19) rfl rfl ?_
      refine wl_v 0 rfl (v_move rfl) gn rfl ?_
      refine wl_v 1 rfl (v_bin rfl rfl rfl) gn rfl ?_
      refine wl_v 2 rfl (v_move rfl) gn rfl ?_
      by_cases hp37 : r27.2 = 0
      · have h := if_pos' hp37 h
        refine w_bool 43 rfl ((eqi hp37)) ?_
        refine wl_v 3 rfl (v_move rfl) (gy 43 rfl rfl) rfl ?_
        refine wl_v 4 rfl (v_move rfl) (gy 43 rfl rfl) rfl ?_
        refine wl_v 5 rfl (v_lenQ un_22 rfl (Ow.weak hL25.env.size h32).hq) (gy 43 rfl rfl) rfl ?_
        refine wl_v 6 rfl (v_bin rfl rfl rfl) (gy 43 rfl rfl) rfl ?_
        refine wl_v 7 rfl (v_pick (b := true) rfl rfl) gn rfl ?_
        refine wl_v 8 rfl (v_move rfl) gn rfl ?_
        by_cases hp38 : r18.2.1 = (r27.1.length : Int)
        · have h := if_pos' hp38 h
          refine w_bool 49 rfl ((eqi hp38)) ?_
          refine wl_v 9 rfl (v_move rfl) (gy 49 rfl rfl) rfl ?_
          refine wl_v 10 rfl (v_move rfl) (gy 49 rfl rfl) rfl ?_
          refine wl_v 11 rfl (v_lenQ un_22 rfl h5.hq) (gy 49 rfl rfl) rfl ?_
          refine wl_v 12 rfl (v_bin rfl rfl rfl) (gy 49 rfl rfl) rfl ?_
          refine wl_v 13 rfl (v_pick (b := true) rfl rfl) gn rfl ?_
          refine wl_v 14 rfl (v_move rfl) gn rfl ?_
          by_cases hp39 : r18.2.1 ≤ (x1.length : Int)
          · have h := if_pos' hp39 h
            refine w_bool 55 rfl ((decide_eq_true hp39)) ?_
            refine wl_v 15 rfl (v_move rfl) (gy 55 rfl rfl) rfl ?_
            refine wl_v 16 rfl (v_move rfl) (gy 55 rfl rfl) rfl ?_
            refine wl_v 17 rfl (v_move rfl) (gy 55 rfl rfl) rfl ?_
            obtain ⟨hb40, h⟩ := h
            have h41 := Rw.cutHi (hv := r18.2.1) h5 (by have q := hb40; have q1 := h5.hq; have q2 := h5.hn; omega)
            refine wl_v 18 rfl (v_cutHi (i := r18.2.1) slE_22 rfl rfl (by have q := hb40; have q1 := h5.hq; have q2 := h5.hn; omega) h5.hn rfl) (gy 55 rfl rfl) rfl ?_
            obtain ⟨r45, hv46, h⟩ := h
            refine wl_s 19 rfl (s_call [.slice A29 n30 c31, .slice A2 ((r18.2.1 : Int).toNat) c4] rfl Tryd.func10 rfl rfl rfl fun w42 hL43 => ?_) (gy 55 rfl rfl)
            have hp44 : List.Perm ([.own (.slice A29 n30 c31) 5 1 n30 (r27.1.flatMap (eI .u8))] : List Ent) (([] : List Ent) ++ ([.own (.slice A29 n30 c31) 5 1 n30 (r27.1.flatMap (eI .u8))] : List Ent)) := perm_of_idx [] [0] rfl rfl (by kernel_rfl)
            refine Calls.mono (trellislaw26_sameBytes_calls w42 (Fl ([] : List Snap)) r27.1 (x1.take (r18.2.1 : Int).toNat) A29 n30 c31 A2 ((r18.2.1 : Int).toNat) c4 (hL43.argO (dk := (kInt .u8)) hp44 [] rfl 0 rfl rfl (Ow.weak hL25.env.size h32) (me 0 rfl) (Cells.flat _)) (Rw.mono h41 (hL43.toSt hp44 (me 1 rfl))) (hL43.hFl (Sl := ([] : List Snap)) hp44 (sels [] rfl)) (hL43.into hp44 (Fl ([] : List Snap))) r45 hv46) ?_
            rintro _ w47 ⟨rfl, hM48⟩
            have hL49 := hL43.call hp44 hM48
            refine ⟨_, _, _, rfl, hL49, ?_⟩
            refine wl_v 20 rfl (v_pick (b := true) rfl rfl) gn rfl ?_
            refine wl_v 21 rfl (v_assign rfl) gn rfl ?_
            refine w_end 22 rfl ?_
            refine g_retR (c := trellislaw26_RpcCanon_c20) [.bool r45] rfl Tryd.func5 rfl (.tmp rfl (.nil)) fun wr hLr => ?_
            have hMr : B.Loc w wr [] [St w []] := hLr.pick (rest := [.own (.slice A29 n30 c31) 5 1 n30 (r27.1.flatMap (eI .u8))]) (perm_of_idx [] [0] rfl rfl (by kernel_rfl)) (sels [1] rfl)
            have hMi : ∀ e ∈ ([] : List Ent), e ∈ ([.own (.slice A29 n30 c31) 5 1 n30 (r27.1.flatMap (eI .u8))] : List Ent) := sels [] rfl
            show trellislaw26_RpcCanon_R w F  r (.returned (packV [.bool r45])) wr
            rw [h]
            exact ⟨rfl, hMr⟩
          · have h := if_neg' hp39 h
            refine w_bool 55 rfl ((decide_eq_false hp39)) ?_
            refine wl_pass 15 rfl (ps 55 rfl rfl rfl) ?_
            refine wl_pass 16 rfl (ps 55 rfl rfl rfl) ?_
            refine wl_pass 17 rfl (ps 55 rfl rfl rfl) ?_
            refine wl_pass 18 rfl (ps 55 rfl rfl rfl) ?_
            refine wl_pass 19 rfl (ps 55 rfl rfl rfl) ?_
            refine wl_v 20 rfl (v_pick (b := false) rfl rfl) gn rfl ?_
            refine wl_v 21 rfl (v_assign rfl) gn rfl ?_
            refine w_end 22 rfl ?_
            refine g_retR (c := trellislaw26_RpcCanon_c20) [.bool false] rfl Tryd.func5 rfl (.tmp rfl (.nil)) fun wr hLr => ?_
            have hMr : B.Loc w wr [] [St w []] := hLr.pick (rest := [.own (.slice A29 n30 c31) 5 1 n30 (r27.1.flatMap (eI .u8))]) (perm_of_idx [] [0] rfl rfl (by kernel_rfl)) (sels [1] rfl)
            have hMi : ∀ e ∈ ([] : List Ent), e ∈ ([.own (.slice A29 n30 c31) 5 1 n30 (r27.1.flatMap (eI .u8))] : List Ent) := sels [] rfl
            show trellislaw26_RpcCanon_R w F  r (.returned (packV [.bool false])) wr
            rw [h]
            exact ⟨rfl, hMr⟩
        · have h := if_neg' hp38 h
          refine w_bool 49 rfl ((nei hp38)) ?_
          refine wl_pass 9 rfl (ps 49 rfl rfl rfl) ?_
          refine wl_pass 10 rfl (ps 49 rfl rfl rfl) ?_
          refine wl_pass 11 rfl (ps 49 rfl rfl rfl) ?_
          refine wl_pass 12 rfl (ps 49 rfl rfl rfl) ?_
          refine wl_v 13 rfl (v_pick (b := false) rfl rfl) gn rfl ?_
          refine wl_v 14 rfl (v_move rfl) gn rfl ?_
          refine wl_pass 15 rfl (ps 55 rfl rfl rfl) ?_
          refine wl_pass 16 rfl (ps 55 rfl rfl rfl) ?_
          refine wl_pass 17 rfl (ps 55 rfl rfl rfl) ?_
          refine wl_pass 18 rfl (ps 55 rfl rfl rfl) ?_
          refine wl_pass 19 rfl (ps 55 rfl rfl rfl) ?_
          refine wl_v 20 rfl (v_pick (b := false) rfl rfl) gn rfl ?_
          refine wl_v 21 rfl (v_assign rfl) gn rfl ?_
          refine w_end 22 rfl ?_
          refine g_retR (c := trellislaw26_RpcCanon_c20) [.bool false] rfl Tryd.func5 rfl (.tmp rfl (.nil)) fun wr hLr => ?_
          have hMr : B.Loc w wr [] [St w []] := hLr.pick (rest := [.own (.slice A29 n30 c31) 5 1 n30 (r27.1.flatMap (eI .u8))]) (perm_of_idx [] [0] rfl rfl (by kernel_rfl)) (sels [1] rfl)
          have hMi : ∀ e ∈ ([] : List Ent), e ∈ ([.own (.slice A29 n30 c31) 5 1 n30 (r27.1.flatMap (eI .u8))] : List Ent) := sels [] rfl
          show trellislaw26_RpcCanon_R w F  r (.returned (packV [.bool false])) wr
          rw [h]
          exact ⟨rfl, hMr⟩
      · have h := if_neg' hp37 h
        refine w_bool 43 rfl ((nei hp37)) ?_
        refine wl_pass 3 rfl (ps 43 rfl rfl rfl) ?_
        refine wl_pass 4 rfl (ps 43 rfl rfl rfl) ?_
        refine wl_pass 5 rfl (ps 43 rfl rfl rfl) ?_
        refine wl_pass 6 rfl (ps 43 rfl rfl rfl) ?_
        refine wl_v 7 rfl (v_pick (b := false) rfl rfl) gn rfl ?_
        refine wl_v 8 rfl (v_move rfl) gn rfl ?_
        refine wl_pass 9 rfl (ps 49 rfl rfl rfl) ?_
        refine wl_pass 10 rfl (ps 49 rfl rfl rfl) ?_
        refine wl_pass 11 rfl (ps 49 rfl rfl rfl) ?_
        refine wl_pass 12 rfl (ps 49 rfl rfl rfl) ?_
        refine wl_v 13 rfl (v_pick (b := false) rfl rfl) gn rfl ?_
        refine wl_v 14 rfl (v_move rfl) gn rfl ?_
        refine wl_pass 15 rfl (ps 55 rfl rfl rfl) ?_
        refine wl_pass 16 rfl (ps 55 rfl rfl rfl) ?_
        refine wl_pass 17 rfl (ps 55 rfl rfl rfl) ?_
        refine wl_pass 18 rfl (ps 55 rfl rfl rfl) ?_
        refine wl_pass 19 rfl (ps 55 rfl rfl rfl) ?_
        refine wl_v 20 rfl (v_pick (b := false) rfl rfl) gn rfl ?_
        refine wl_v 21 rfl (v_assign rfl) gn rfl ?_
        refine w_end 22 rfl ?_
        refine g_retR (c := trellislaw26_RpcCanon_c20) [.bool false] rfl Tryd.func5 rfl (.tmp rfl (.nil)) fun wr hLr => ?_
        have hMr : B.Loc w wr [] [St w []] := hLr.pick (rest := [.own (.slice A29 n30 c31) 5 1 n30 (r27.1.flatMap (eI .u8))]) (perm_of_idx [] [0] rfl rfl (by kernel_rfl)) (sels [1] rfl)
        have hMi : ∀ e ∈ ([] : List Ent), e ∈ ([.own (.slice A29 n30 c31) 5 1 n30 (r27.1.flatMap (eI .u8))] : List Ent) := sels [] rfl
        show trellislaw26_RpcCanon_R w F  r (.returned (packV [.bool false])) wr
        rw [h]
        exact ⟨rfl, hMr⟩
    · have h := if_neg' hp23 h
      refine g_true (c := trellislaw26_RpcCanon_c14) rfl _ rfl ((neib hp23)) ?_
      refine g_seq (c := trellislaw26_RpcCanon_c15) rfl ?_
      have j1 : ∀ (x55 : Bool) (h : trellislaw26_RpcCanon_j1 x55 r) , G (trellislaw26_RpcCanon_C w F r) [.code trellislaw26_RpcCanon_c22, .code trellislaw26_RpcCanon_c12] [(2, .bool x55)] [] [Sm w.heap.size F w [], St w []] := by
        intro x55 h
        unfold trellislaw26_RpcCanon_j1 at h
        refine g_retR (c := trellislaw26_RpcCanon_c22) [.bool x55] rfl Tryd.func5 rfl (.tmp rfl (.nil)) fun wr hLr => ?_
        have hMr : B.Loc w wr [] [St w []] := hLr.pick (rest := []) (perm_of_idx [] [] rfl rfl (by kernel_rfl)) (sels [1] rfl)
        have hMi : ∀ e ∈ ([] : List Ent), e ∈ ([] : List Ent) := sels [] rfl
        show trellislaw26_RpcCanon_R w F  r (.returned (packV [.bool x55])) wr
        rw [h]
        exact ⟨rfl, hMr⟩
      refine g_region (c := trellislaw26_RpcCanon_c21) rfl rfl ?_
      refine wl_v 0 rfl (v_move rfl) gn rfl ?_
      refine wl_v 1 rfl (v_eqS rfl rfl) gn rfl ?_
      refine wl_v 2 rfl (v_move rfl) gn rfl ?_
      by_cases hp56 : r18.1 = (⟨#[]⟩ : ByteArray)
      · have h := if_pos' hp56 h
        refine w_bool 20 rfl ((seq_t hp56)) ?_
        refine wl_v 3 rfl (v_move rfl) (gy 20 rfl rfl) rfl ?_
        refine wl_v 4 rfl (v_bin rfl rfl rfl) (gy 20 rfl rfl) rfl ?_
        refine wl_v 5 rfl (v_pick (b := true) rfl rfl) gn rfl ?_
        refine wl_v 6 rfl (v_move rfl) gn rfl ?_
        by_cases hp57 : r18.2.1 = 0
        · have h := if_pos' hp57 h
          refine w_bool 24 rfl ((eqi hp57)) ?_
          refine wl_v 7 rfl (v_move rfl) (gy 24 rfl rfl) rfl ?_
          refine wl_v 8 rfl (v_bin rfl rfl rfl) (gy 24 rfl rfl) rfl ?_
          refine wl_v 9 rfl (v_move rfl) (gy 24 rfl rfl) rfl ?_
          by_cases hp58 : r18.2.2 = 260
          · have h := if_pos' hp58 h
            refine w_bool 27 rfl ((eqi hp58)) ?_
            refine wl_pass 10 rfl (ps 27 rfl rfl rfl) ?_
            refine wl_pass 11 rfl (ps 27 rfl rfl rfl) ?_
            refine wl_v 12 rfl (v_pick (b := true) rfl rfl) (gy 24 rfl rfl) rfl ?_
            refine wl_v 13 rfl (v_move rfl) (gy 24 rfl rfl) rfl ?_
            refine wl_pass 14 rfl (ps 31 rfl rfl rfl) ?_
            refine wl_pass 15 rfl (ps 31 rfl rfl rfl) ?_
            refine wl_v 16 rfl (v_pick (b := true) rfl rfl) (gy 24 rfl rfl) rfl ?_
            refine wl_v 17 rfl (v_pick (b := true) rfl rfl) gn rfl ?_
            refine wl_v 18 rfl (v_assign rfl) gn rfl ?_
            refine w_end 19 rfl ?_
            exact g_go [0, 1] (j1 true h) ⟨rfl, trivial⟩ (.slnil) rfl
          · have h := if_neg' hp58 h
            refine w_bool 27 rfl ((nei hp58)) ?_
            refine wl_v 10 rfl (v_move rfl) (gy 27 rfl rfl) rfl ?_
            refine wl_v 11 rfl (v_bin rfl rfl rfl) (gy 27 rfl rfl) rfl ?_
            refine wl_v 12 rfl (v_pick (b := false) rfl rfl) (gy 24 rfl rfl) rfl ?_
            refine wl_v 13 rfl (v_move rfl) (gy 24 rfl rfl) rfl ?_
            by_cases hp59 : r18.2.2 = 261
            · have h := if_pos' hp59 h
              refine w_bool 31 rfl ((eqi hp59)) ?_
              refine wl_pass 14 rfl (ps 31 rfl rfl rfl) ?_
              refine wl_pass 15 rfl (ps 31 rfl rfl rfl) ?_
              refine wl_v 16 rfl (v_pick (b := true) rfl rfl) (gy 24 rfl rfl) rfl ?_
              refine wl_v 17 rfl (v_pick (b := true) rfl rfl) gn rfl ?_
              refine wl_v 18 rfl (v_assign rfl) gn rfl ?_
              refine w_end 19 rfl ?_
              exact g_go [0, 1] (j1 true h) ⟨rfl, trivial⟩ (.slnil) rfl
            · have h := if_neg' hp59 h
              refine w_bool 31 rfl ((nei hp59)) ?_
              refine wl_v 14 rfl (v_move rfl) (gy 31 rfl rfl) rfl ?_
              refine wl_v 15 rfl (v_bin rfl rfl rfl) (gy 31 rfl rfl) rfl ?_
              refine wl_v 16 rfl (v_pick (b := false) rfl rfl) (gy 24 rfl rfl) rfl ?_
              refine wl_v 17 rfl (v_pick (b := true) rfl rfl) gn rfl ?_
              refine wl_v 18 rfl (v_assign rfl) gn rfl ?_
              refine w_end 19 rfl ?_
              exact g_go [0, 1] (j1 (r18.2.2 == 262) h) ⟨rfl, trivial⟩ (.slnil) rfl
        · have h := if_neg' hp57 h
          refine w_bool 24 rfl ((nei hp57)) ?_
          refine wl_pass 7 rfl (ps 24 rfl rfl rfl) ?_
          refine wl_pass 8 rfl (ps 24 rfl rfl rfl) ?_
          refine wl_pass 9 rfl (ps 24 rfl rfl rfl) ?_
          refine wl_pass 10 rfl (pu 27 rfl rfl) ?_
          refine wl_pass 11 rfl (pu 27 rfl rfl) ?_
          refine wl_pass 12 rfl (ps 24 rfl rfl rfl) ?_
          refine wl_pass 13 rfl (ps 24 rfl rfl rfl) ?_
          refine wl_pass 14 rfl (pu 31 rfl rfl) ?_
          refine wl_pass 15 rfl (pu 31 rfl rfl) ?_
          refine wl_pass 16 rfl (ps 24 rfl rfl rfl) ?_
          refine wl_v 17 rfl (v_pick (b := false) rfl rfl) gn rfl ?_
          refine wl_v 18 rfl (v_assign rfl) gn rfl ?_
          refine w_end 19 rfl ?_
          exact g_go [0, 1] (j1 false h) ⟨rfl, trivial⟩ (.slnil) rfl
      · have h := if_neg' hp56 h
        refine w_bool 20 rfl ((seq_f hp56)) ?_
        refine wl_pass 3 rfl (ps 20 rfl rfl rfl) ?_
        refine wl_pass 4 rfl (ps 20 rfl rfl rfl) ?_
        refine wl_v 5 rfl (v_pick (b := false) rfl rfl) gn rfl ?_
        refine wl_v 6 rfl (v_move rfl) gn rfl ?_
        refine wl_pass 7 rfl (ps 24 rfl rfl rfl) ?_
        refine wl_pass 8 rfl (ps 24 rfl rfl rfl) ?_
        refine wl_pass 9 rfl (ps 24 rfl rfl rfl) ?_
        refine wl_pass 10 rfl (pu 27 rfl rfl) ?_
        refine wl_pass 11 rfl (pu 27 rfl rfl) ?_
        refine wl_pass 12 rfl (ps 24 rfl rfl rfl) ?_
        refine wl_pass 13 rfl (ps 24 rfl rfl rfl) ?_
        refine wl_pass 14 rfl (pu 31 rfl rfl) ?_
        refine wl_pass 15 rfl (pu 31 rfl rfl) ?_
        refine wl_pass 16 rfl (ps 24 rfl rfl rfl) ?_
        refine wl_v 17 rfl (v_pick (b := false) rfl rfl) gn rfl ?_
        refine wl_v 18 rfl (v_assign rfl) gn rfl ?_
        refine w_end 19 rfl ?_
        exact g_go [0, 1] (j1 false h) ⟨rfl, trivial⟩ (.slnil) rfl
  · have h := if_neg' hp14 h
    refine g_true (c := trellislaw26_RpcCanon_c6) rfl _ rfl ((nt (bf hp14))) ?_
    refine g_seq (c := trellislaw26_RpcCanon_c7) rfl ?_
    refine g_region (c := trellislaw26_RpcCanon_c23) rfl rfl ?_
    refine wl_v 0 rfl (v_assign rfl) gn rfl ?_
    refine w_end 1 rfl ?_
    refine g_retR (c := trellislaw26_RpcCanon_c24) [.bool false] rfl Tryd.func5 rfl (.tmp rfl (.nil)) fun wr hLr => ?_
    have hMr : B.Loc w wr [] [St w []] := hLr.pick (rest := []) (perm_of_idx [] [] rfl rfl (by kernel_rfl)) (sels [1] rfl)
    have hMi : ∀ e ∈ ([] : List Ent), e ∈ ([] : List Ent) := sels [] rfl
    show trellislaw26_RpcCanon_R w F  r (.returned (packV [.bool false])) wr
    rw [h]
    exact ⟨rfl, hMr⟩
noncomputable abbrev trellislaw26_feed_c0 : Code := bodyOf Tryd.f16
noncomputable abbrev trellislaw26_feed_c1 : Code := Code.fst trellislaw26_feed_c0
noncomputable abbrev trellislaw26_feed_c2 : Code := Code.snd trellislaw26_feed_c0
noncomputable abbrev trellislaw26_feed_c3 : Code := Code.fst trellislaw26_feed_c2
noncomputable abbrev trellislaw26_feed_c4 : Code := Code.snd trellislaw26_feed_c2
noncomputable abbrev trellislaw26_feed_c5 : Code := Code.fst trellislaw26_feed_c4
noncomputable abbrev trellislaw26_feed_c6 : Code := Code.snd trellislaw26_feed_c4
noncomputable abbrev trellislaw26_feed_c7 : Code := Code.fst trellislaw26_feed_c5
noncomputable abbrev trellislaw26_feed_c8 : Code := Code.snd trellislaw26_feed_c5
noncomputable abbrev trellislaw26_feed_c9 : Code := Code.fst trellislaw26_feed_c8
noncomputable abbrev trellislaw26_feed_c10 : Code := Code.snd trellislaw26_feed_c8
noncomputable abbrev trellislaw26_feed_c11 : Code := Code.fst trellislaw26_feed_c6
noncomputable abbrev trellislaw26_feed_c12 : Code := Code.snd trellislaw26_feed_c6
noncomputable abbrev trellislaw26_feed_c13 : Code := Code.fst trellislaw26_feed_c12
noncomputable abbrev trellislaw26_feed_c14 : Code := Code.snd trellislaw26_feed_c12
noncomputable abbrev trellislaw26_feed_c15 : Code := Code.fst trellislaw26_feed_c14
noncomputable abbrev trellislaw26_feed_c16 : Code := Code.snd trellislaw26_feed_c14
noncomputable abbrev trellislaw26_feed_c17 : Code := Code.fst trellislaw26_feed_c15
noncomputable abbrev trellislaw26_feed_c18 : Code := Code.snd trellislaw26_feed_c15
noncomputable abbrev trellislaw26_feed_c19 : Code := Code.fst trellislaw26_feed_c18
noncomputable abbrev trellislaw26_feed_c20 : Code := Code.fst trellislaw26_feed_c19
noncomputable abbrev trellislaw26_feed_c21 : Code := Code.fst trellislaw26_feed_c20
noncomputable abbrev trellislaw26_feed_c22 : Code := Code.snd trellislaw26_feed_c20
noncomputable abbrev trellislaw26_feed_c23 : Code := Code.fst trellislaw26_feed_c21
noncomputable abbrev trellislaw26_feed_c24 : Code := Code.snd trellislaw26_feed_c21
noncomputable abbrev trellislaw26_feed_c25 : Code := Code.fst trellislaw26_feed_c24
noncomputable abbrev trellislaw26_feed_c26 : Code := Code.snd trellislaw26_feed_c24
noncomputable abbrev trellislaw26_feed_c27 : Code := Code.fst trellislaw26_feed_c22
noncomputable abbrev trellislaw26_feed_c28 : Code := Code.snd trellislaw26_feed_c22
noncomputable abbrev trellislaw26_feed_c29 : Code := Code.fst trellislaw26_feed_c27
noncomputable abbrev trellislaw26_feed_c30 : Code := Code.fst trellislaw26_feed_c29
noncomputable abbrev trellislaw26_feed_c31 : Code := Code.snd trellislaw26_feed_c29
noncomputable abbrev trellislaw26_feed_c32 : Code := Code.fst trellislaw26_feed_c31
noncomputable abbrev trellislaw26_feed_c33 : Code := Code.snd trellislaw26_feed_c31
noncomputable abbrev trellislaw26_feed_c34 : Code := Code.fst trellislaw26_feed_c32
noncomputable abbrev trellislaw26_feed_c35 : Code := Code.snd trellislaw26_feed_c32
noncomputable abbrev trellislaw26_feed_c36 : Code := Code.fst trellislaw26_feed_c35
noncomputable abbrev trellislaw26_feed_c37 : Code := Code.snd trellislaw26_feed_c35
noncomputable abbrev trellislaw26_feed_c38 : Code := Code.fst trellislaw26_feed_c33
noncomputable abbrev trellislaw26_feed_c39 : Code := Code.snd trellislaw26_feed_c33
noncomputable abbrev trellislaw26_feed_c40 : Code := Code.fst trellislaw26_feed_c39
noncomputable abbrev trellislaw26_feed_c41 : Code := Code.snd trellislaw26_feed_c39
noncomputable abbrev trellislaw26_feed_c42 : Code := Code.fst trellislaw26_feed_c40
noncomputable abbrev trellislaw26_feed_c43 : Code := Code.snd trellislaw26_feed_c40
noncomputable abbrev trellislaw26_feed_c44 : Code := Code.fst trellislaw26_feed_c43
noncomputable abbrev trellislaw26_feed_c45 : Code := Code.fst trellislaw26_feed_c44
noncomputable abbrev trellislaw26_feed_c46 : Code := Code.fst trellislaw26_feed_c45
noncomputable abbrev trellislaw26_feed_c47 : Code := Code.snd trellislaw26_feed_c45
noncomputable abbrev trellislaw26_feed_c48 : Code := Code.fst trellislaw26_feed_c46
noncomputable abbrev trellislaw26_feed_c49 : Code := Code.snd trellislaw26_feed_c46
noncomputable abbrev trellislaw26_feed_c50 : Code := Code.fst trellislaw26_feed_c49
noncomputable abbrev trellislaw26_feed_c51 : Code := Code.snd trellislaw26_feed_c49
noncomputable abbrev trellislaw26_feed_c52 : Code := Code.fst trellislaw26_feed_c47
noncomputable abbrev trellislaw26_feed_c53 : Code := Code.snd trellislaw26_feed_c47
noncomputable abbrev trellislaw26_feed_c54 : Code := Code.fst trellislaw26_feed_c52
noncomputable abbrev trellislaw26_feed_c55 : Code := Code.fst trellislaw26_feed_c41
noncomputable abbrev trellislaw26_feed_c56 : Code := Code.snd trellislaw26_feed_c41
noncomputable abbrev trellislaw26_feed_c57 : Code := Code.fst trellislaw26_feed_c56
noncomputable abbrev trellislaw26_feed_c58 : Code := Code.snd trellislaw26_feed_c56
noncomputable abbrev trellislaw26_feed_c59 : Code := Code.fst trellislaw26_feed_c57
noncomputable abbrev trellislaw26_feed_c60 : Code := Code.snd trellislaw26_feed_c57
noncomputable abbrev trellislaw26_feed_c61 : Code := Code.fst trellislaw26_feed_c16
noncomputable abbrev trellislaw26_feed_c62 : Code := Code.snd trellislaw26_feed_c16
noncomputable abbrev trellislaw26_feed_c63 : Code := Code.fst trellislaw26_feed_c36
noncomputable abbrev trellislaw26_feed_c64 : Code := Code.snd trellislaw26_feed_c36
abbrev trellislaw26_feed_R (w : World) (F : Nat → Prop) (r : (List ByteArray) × Int × Int × Bool) : Ending → World → Prop := fun e w' => ∃ A0 : Option Addr, ∃ n0 : Nat, ∃ c0 : Nat, e = .returned (.tuple #[.slice A0 n0 c0, .int .i64 r.2.1, .int .i64 r.2.2.1, .bool r.2.2.2]) ∧ B.Loc w w' [.own (.slice A0 n0 c0) 9 1 n0 (r.1.flatMap eS)] [St w []] ∧ Ow w.heap.size A0 n0 c0 r.1
noncomputable abbrev trellislaw26_feed_C (w : World) (F : Nat → Prop) (r : (List ByteArray) × Int × Int × Bool) : Cx := ⟨Tryd.prog, 16, Tryd.f16, 69, trellislaw26_feed_R w F  r, w⟩
theorem trellislaw26_feed_calls (w : World) (F : Nat → Prop) (x1 : List (List Int)) (A2 : Option Addr) (n3 : Nat) (c4 : Nat) (h5 : Rw (Kd.slice (kInt .u8)) w (St w []).av A2 n3 c4 x1) (hF : ∀ b, F b → b < w.heap.size ∧ ∀ o ∈ ([] : List (List Nat)), b ∉ o) (hL0 : B.Loc w w [] [Sm w.heap.size F w [], St w []]) (r : (List ByteArray) × Int × Int × Bool) (h : trellislaw26_feed x1 r) : Calls Tryd.prog 16 #[.slice A2 n3 c4] w (trellislaw26_feed_R w F  r) := by
  unfold trellislaw26_feed at h
  refine calls_of_Loc (vs := [.slice A2 n3 c4]) 69 Tryd.func16 rfl Tryd.ntmps16 rfl hL0 ?_
  show G (trellislaw26_feed_C w F r) _ _ _ _
  refine g_seq (c := trellislaw26_feed_c0) rfl ?_
  refine g_region (c := trellislaw26_feed_c1) rfl rfl ?_
  refine wl_v 0 rfl (v_assign rfl) gn rfl ?_
  refine wl_v 1 rfl (v_assign rfl) gn rfl ?_
  refine wl_v 2 rfl (v_assign rfl) gn rfl ?_
  refine wl_v 3 rfl (v_assign rfl) gn rfl ?_
  refine w_end 4 rfl ?_
  refine g_seq (c := trellislaw26_feed_c2) rfl ?_
  refine g_region (c := trellislaw26_feed_c3) rfl rfl ?_
  obtain ⟨r9, hv10, h⟩ := h
  refine wl_s 0 rfl (s_call [] rfl Tryd.func22 rfl rfl rfl fun w6 hL7 => ?_) gn
  have hp8 : List.Perm ([] : List Ent) (([] : List Ent) ++ ([] : List Ent)) := perm_of_idx [] [] rfl rfl (by kernel_rfl)
  refine Calls.mono (rpc_New_calls w6 (Fl ([] : List Snap)) (hL7.hFl (Sl := ([] : List Snap)) hp8 (sels [] rfl)) (hL7.into hp8 (Fl ([] : List Snap))) r9 hv10) ?_
  rintro _ w16 ⟨gb19, A11, n12, c13, rfl, hM17, h14⟩
  have hL18 := hL7.call hp8 hM17
  refine ⟨_, _, _, rfl, hL18, ?_⟩
  refine wl_v 1 rfl (v_assign rfl) gn rfl ?_
  refine w_end 2 rfl ?_
  refine g_seq (c := trellislaw26_feed_c4) rfl ?_
  refine g_seq (c := trellislaw26_feed_c5) rfl ?_
  refine g_region (c := trellislaw26_feed_c7) rfl rfl ?_
  refine wl_v 0 rfl (v_move rfl) gn rfl ?_
  refine wl_v 1 rfl (v_eqNP un_46 rfl rfl) gn rfl ?_
  refine w_end 2 rfl ?_
  refine g_false (c := trellislaw26_feed_c8) rfl _ rfl (rfl) ?_
  refine g_skip (c := trellislaw26_feed_c10) rfl ?_
  refine g_seq (c := trellislaw26_feed_c6) rfl ?_
  refine g_region (c := trellislaw26_feed_c11) rfl rfl ?_
  refine wl_v 0 rfl (v_assign rfl) gn rfl ?_
  refine w_end 1 rfl ?_
  refine g_seq (c := trellislaw26_feed_c12) rfl ?_
  refine g_region (c := trellislaw26_feed_c13) rfl rfl ?_
  refine wl_v 0 rfl (v_assign rfl) gn rfl ?_
  refine w_end 1 rfl ?_
  refine g_seq (c := trellislaw26_feed_c14) rfl ?_
  refine g_seq (c := trellislaw26_feed_c15) rfl ?_
  refine g_region (c := trellislaw26_feed_c17) rfl rfl ?_
  refine wl_v 0 rfl (v_assign rfl) gn rfl ?_
  refine w_end 1 rfl ?_
  refine g_block (c := trellislaw26_feed_c18) rfl ?_
  refine g_loop (c := trellislaw26_feed_c19) rfl ?_
  have key1 : ∀ s, Rounds (fun (s : (List ByteArray) × Int × Int × (List Int) × Int) o => trellislaw26_feed_b1 x1 s.1 s.2.1 s.2.2.1 s.2.2.2.1 s.2.2.2.2 o) s r → (fun (s : (List ByteArray) × Int × Int × (List Int) × Int) => ∀ (A157 : Option Addr) (n158 : Nat) (c159 : Nat) (h160 : Ow w.heap.size A157 n158 c159 s.1) (A164 : Option Addr) (n165 : Nat) (c166 : Nat) (sw167 : World) (sb168 : List (List Nat)) (h169 : At (kInt .u8) (Sm w.heap.size F sw167 sb168) A164 n165 c166 s.2.2.2.1), G (trellislaw26_feed_C w F r) [.code trellislaw26_feed_c20, .inLoop trellislaw26_feed_c20, .inBlock 0, .code trellislaw26_feed_c16] [(0, .slice A2 n3 c4), (6, .pointer (some ⟨gb19, 0, none⟩)), (7, .slice A157 n158 c159), (8, .int .i64 s.2.1), (9, .int .i64 s.2.2.1)] [.own (.slice A157 n158 c159) 9 1 n158 (s.1.flatMap eS), .box gb19 52 [.slice A164 n165 c166, .int .i64 s.2.2.2.2]] [Sm w.heap.size F sw167 sb168, Sm w.heap.size F w [], St w []]) s := by
    intro s hs
    refine Rounds.ind (mot := (fun (s : (List ByteArray) × Int × Int × (List Int) × Int) => ∀ (A157 : Option Addr) (n158 : Nat) (c159 : Nat) (h160 : Ow w.heap.size A157 n158 c159 s.1) (A164 : Option Addr) (n165 : Nat) (c166 : Nat) (sw167 : World) (sb168 : List (List Nat)) (h169 : At (kInt .u8) (Sm w.heap.size F sw167 sb168) A164 n165 c166 s.2.2.2.1), G (trellislaw26_feed_C w F r) [.code trellislaw26_feed_c20, .inLoop trellislaw26_feed_c20, .inBlock 0, .code trellislaw26_feed_c16] [(0, .slice A2 n3 c4), (6, .pointer (some ⟨gb19, 0, none⟩)), (7, .slice A157 n158 c159), (8, .int .i64 s.2.1), (9, .int .i64 s.2.2.1)] [.own (.slice A157 n158 c159) 9 1 n158 (s.1.flatMap eS), .box gb19 52 [.slice A164 n165 c166, .int .i64 s.2.2.2.2]] [Sm w.heap.size F sw167 sb168, Sm w.heap.size F w [], St w []])) ?_ hs
    clear hs s
    intro s o1 h hO1
    obtain ⟨x156, x161, x162, x163, x170⟩ := s
    show ∀ (A157 : Option Addr) (n158 : Nat) (c159 : Nat) (h160 : Ow w.heap.size A157 n158 c159 x156) (A164 : Option Addr) (n165 : Nat) (c166 : Nat) (sw167 : World) (sb168 : List (List Nat)) (h169 : At (kInt .u8) (Sm w.heap.size F sw167 sb168) A164 n165 c166 x163), G (trellislaw26_feed_C w F r) [.code trellislaw26_feed_c20, .inLoop trellislaw26_feed_c20, .inBlock 0, .code trellislaw26_feed_c16] [(0, .slice A2 n3 c4), (6, .pointer (some ⟨gb19, 0, none⟩)), (7, .slice A157 n158 c159), (8, .int .i64 x161), (9, .int .i64 x162)] [.own (.slice A157 n158 c159) 9 1 n158 (x156.flatMap eS), .box gb19 52 [.slice A164 n165 c166, .int .i64 x170]] [Sm w.heap.size F sw167 sb168, Sm w.heap.size F w [], St w []]
    intro A157 n158 c159 h160 A164 n165 c166 sw167 sb168 h169
    have h : trellislaw26_feed_b1 x1 x156 x161 x162 x163 x170 o1 := h
    unfold trellislaw26_feed_b1 at h
    refine g_seq (c := trellislaw26_feed_c20) rfl ?_
    refine g_seq (c := trellislaw26_feed_c21) rfl ?_
    refine g_region (c := trellislaw26_feed_c23) rfl rfl ?_
    refine wl_v 0 rfl (v_move rfl) gn rfl ?_
    refine wl_v 1 rfl (v_move rfl) gn rfl ?_
    refine wl_v 2 rfl (v_lenQ un_34 rfl h5.hq) gn rfl ?_
    refine wl_v 3 rfl (v_bin rfl rfl rfl) gn rfl ?_
    refine w_end 4 rfl ?_
    by_cases hp343 : x162 < (x1.length : Int)
    · have h := if_pos' hp343 h
      refine g_true (c := trellislaw26_feed_c24) rfl _ rfl ((decide_eq_true hp343)) ?_
      refine g_skip (c := trellislaw26_feed_c25) rfl ?_
      refine g_seq (c := trellislaw26_feed_c22) rfl ?_
      refine g_block (c := trellislaw26_feed_c27) rfl ?_
      refine g_seq (c := trellislaw26_feed_c29) rfl ?_
      refine g_region (c := trellislaw26_feed_c30) rfl rfl ?_
      refine wl_v 0 rfl (v_move rfl) gn rfl ?_
      refine wl_v 1 rfl (v_move rfl) gn rfl ?_
      refine wl_v 2 rfl (v_move rfl) gn rfl ?_
      obtain ⟨hb344, h⟩ := h
      obtain ⟨ce346, hK347, hr345⟩ := Rw.read (s := St w []) h5 hb344
      obtain ⟨A348, n349, c350, rfl, h351⟩ := hK347
      refine wl_v 3 rfl (v_idxR (s := St w []) slE_34 rfl rfl h5 hb344) gn rfl ?_
      refine wl_v 4 rfl (v_ldA1 (kk := (x162 : Int).toNat * 1) (j := 0) (St w []) ld_22 rfl hr345 rfl (me 2 rfl)) gn rfl ?_
      obtain ⟨r355, hv356, h⟩ := h
      refine wl_s 5 rfl (s_call [.pointer (some ⟨gb19, 0, none⟩), .slice A348 n349 c350] rfl Tryd.func23 rfl rfl rfl fun w352 hL353 => ?_) gn
      have hp354 : List.Perm ([.own (.slice A157 n158 c159) 9 1 n158 (x156.flatMap eS), .box gb19 52 [.slice A164 n165 c166, .int .i64 x170]] : List Ent) (([.box gb19 52 [.slice A164 n165 c166, .int .i64 x170]] : List Ent) ++ ([.own (.slice A157 n158 c159) 9 1 n158 (x156.flatMap eS)] : List Ent)) := perm_of_idx [1] [0] rfl rfl (by kernel_rfl)
      refine Calls.mono (rpc_Buffer_Feed_calls w352 (Fl ([Sm w.heap.size F sw167 sb168] : List Snap)) (⟨x163, x170⟩ : rpc_Buffer) (ix x1 x162) gb19 52 A164 n165 c166 A348 n349 c350 (Rw.mono h169 (hL353.toFl (me 0 rfl) (me 0 rfl))) (Rw.mono h351 (hL353.toSt hp354 (me 2 rfl))) (hL353.hFl (Sl := ([Sm w.heap.size F sw167 sb168] : List Snap)) hp354 (sels [0] rfl)) (hL353.into hp354 (Fl ([Sm w.heap.size F sw167 sb168] : List Snap))) r355 hv356) ?_
      rintro _ w366 ⟨A357, n358, c359, A362, n363, c364, rfl, hM367, h360, h365⟩
      obtain ⟨sb370, hL368, hv369⟩ := hL353.callB (Sl := ([Sm w.heap.size F sw167 sb168] : List Snap)) hp354 hM367 F (sels [0] rfl) ⟨Sm.ok, trivial⟩
      have h365 : At (kInt .u8) (Sm w.heap.size F w366 sb370) A362 n363 c364 r355.2.2.wait := Rw.mono h365 hv369
      refine ⟨_, _, _, rfl, hL368, ?_⟩
      refine wl_v 6 rfl (v_move rfl) gn rfl ?_
      refine wl_v 7 rfl (v_extract rfl rfl) gn rfl ?_
      refine wl_v 8 rfl (v_extract rfl rfl) gn rfl ?_
      refine wl_v 9 rfl (v_assign rfl) gn rfl ?_
      refine wl_v 10 rfl (v_assign rfl) gn rfl ?_
      refine w_end 11 rfl ?_
      refine g_seq (c := trellislaw26_feed_c31) rfl ?_
      refine g_seq (c := trellislaw26_feed_c32) rfl ?_
      have j2 : ∀ (x389 : Bool) (x390 : List Int) (x397 : Int) (h : trellislaw26_feed_j2 r355 x162 x156 x389 x390 x397 o1) (A391 : Option Addr) (n392 : Nat) (c393 : Nat) (sw394 : World) (sb395 : List (List Nat)) (h396 : At (kInt .u8) (Sm w.heap.size F sw394 sb395) A391 n392 c393 x390), G (trellislaw26_feed_C w F r) [.code trellislaw26_feed_c35, .code trellislaw26_feed_c33, .inBlock 1, .code trellislaw26_feed_c28, .inLoop trellislaw26_feed_c20, .inBlock 0, .code trellislaw26_feed_c16] [(0, .slice A2 n3 c4), (6, .pointer (some ⟨gb19, 0, none⟩)), (7, .slice A157 n158 c159), (9, .int .i64 x162), (10, .slice A357 n358 c359), (11, .int .i64 r355.2.1), (47, .bool x389)] [.box gb19 52 [.slice A391 n392 c393, .int .i64 x397], .own (.slice A357 n358 c359) 9 1 n358 (r355.1.flatMap eS), .own (.slice A157 n158 c159) 9 1 n158 (x156.flatMap eS)] [Sm w.heap.size F sw394 sb395, Sm w.heap.size F w366 sb370, Sm w.heap.size F sw167 sb168, Sm w.heap.size F w [], St w []] := by
        intro x389 x390 x397 h A391 n392 c393 sw394 sb395 h396
        unfold trellislaw26_feed_j2 at h
        by_cases hp398 : x389 = true
        · have h := if_pos' hp398 h
          refine g_true (c := trellislaw26_feed_c35) rfl _ rfl (hp398) ?_
          refine g_seq (c := trellislaw26_feed_c36) rfl ?_
          refine g_region (c := trellislaw26_feed_c63) rfl rfl ?_
          refine wl_v 0 rfl (v_assign rfl) gn rfl ?_
          refine wl_v 1 rfl (v_assign rfl) gn rfl ?_
          refine wl_v 2 rfl (v_assign rfl) gn rfl ?_
          refine wl_v 3 rfl (v_assign rfl) gn rfl ?_
          refine w_end 4 rfl ?_
          refine g_nil 9 1 ?_
          have h := Out.inr hO1 h
          refine g_retR (c := trellislaw26_feed_c64) [.slice none 0 0, .int .i64 0, .int .i64 0, .bool false] rfl Tryd.func16 rfl (.tmp rfl (.tmp rfl (.tmp rfl (.tmp rfl (.nil))))) fun wr hLr => ?_
          have hMr : B.Loc w wr [.own (.slice none 0 0) 9 1 0 (([] : List ByteArray).flatMap eS)] [St w []] := hLr.pick (rest := [.box gb19 52 [.slice A391 n392 c393, .int .i64 x397], .own (.slice A357 n358 c359) 9 1 n358 (r355.1.flatMap eS), .own (.slice A157 n158 c159) 9 1 n158 (x156.flatMap eS)]) (perm_of_idx [0] [1, 2, 3] rfl rfl (by kernel_rfl)) (sels [4] rfl)
          have hMi : ∀ e ∈ ([.own (.slice none 0 0) 9 1 0 (([] : List ByteArray).flatMap eS)] : List Ent), e ∈ ([.own (.slice none 0 0) 9 1 0 (([] : List ByteArray).flatMap eS), .box gb19 52 [.slice A391 n392 c393, .int .i64 x397], .own (.slice A357 n358 c359) 9 1 n358 (r355.1.flatMap eS), .own (.slice A157 n158 c159) 9 1 n158 (x156.flatMap eS)] : List Ent) := sels [0] rfl
          show trellislaw26_feed_R w F  r (.returned (packV [.slice none 0 0, .int .i64 0, .int .i64 0, .bool false])) wr
          rw [h]
          exact ⟨none, 0, 0, rfl, hMr, (Ow.nil (z := w.heap.size))⟩
        · have h := if_neg' hp398 h
          refine g_false (c := trellislaw26_feed_c35) rfl _ rfl ((bf hp398)) ?_
          refine g_skip (c := trellislaw26_feed_c37) rfl ?_
          refine g_seq (c := trellislaw26_feed_c33) rfl ?_
          refine g_region (c := trellislaw26_feed_c38) rfl rfl ?_
          refine wl_v 0 rfl (v_move rfl) gn rfl ?_
          refine wl_v 1 rfl (v_assign rfl) gn rfl ?_
          refine w_end 2 rfl ?_
          refine g_seq (c := trellislaw26_feed_c39) rfl ?_
          refine g_seq (c := trellislaw26_feed_c40) rfl ?_
          refine g_region (c := trellislaw26_feed_c42) rfl rfl ?_
          refine wl_v 0 rfl (v_assign rfl) gn rfl ?_
          refine w_end 1 rfl ?_
          refine g_block (c := trellislaw26_feed_c43) rfl ?_
          refine g_loop (c := trellislaw26_feed_c44) rfl ?_
          have key3 : ∀ s, Rounds (fun (s : (List ByteArray) × Int) o => trellislaw26_feed_b3 r355 x390 x397 x162 s.1 s.2 o) s o1 → (fun (s : (List ByteArray) × Int) => ∀ (A427 : Option Addr) (n428 : Nat) (c429 : Nat) (h430 : Ow w.heap.size A427 n428 c429 s.1), G (trellislaw26_feed_C w F r) [.code trellislaw26_feed_c45, .inLoop trellislaw26_feed_c45, .inBlock 2, .code trellislaw26_feed_c41, .inBlock 1, .code trellislaw26_feed_c28, .inLoop trellislaw26_feed_c20, .inBlock 0, .code trellislaw26_feed_c16] [(0, .slice A2 n3 c4), (6, .pointer (some ⟨gb19, 0, none⟩)), (7, .slice A427 n428 c429), (8, .int .i64 r355.2.1), (9, .int .i64 x162), (10, .slice A357 n358 c359), (12, .int .i64 s.2)] [.box gb19 52 [.slice A391 n392 c393, .int .i64 x397], .own (.slice A357 n358 c359) 9 1 n358 (r355.1.flatMap eS), .own (.slice A427 n428 c429) 9 1 n428 (s.1.flatMap eS)] [Sm w.heap.size F sw394 sb395, Sm w.heap.size F w366 sb370, Sm w.heap.size F sw167 sb168, Sm w.heap.size F w [], St w []]) s := by
            intro s hs
            refine Rounds.ind (mot := (fun (s : (List ByteArray) × Int) => ∀ (A427 : Option Addr) (n428 : Nat) (c429 : Nat) (h430 : Ow w.heap.size A427 n428 c429 s.1), G (trellislaw26_feed_C w F r) [.code trellislaw26_feed_c45, .inLoop trellislaw26_feed_c45, .inBlock 2, .code trellislaw26_feed_c41, .inBlock 1, .code trellislaw26_feed_c28, .inLoop trellislaw26_feed_c20, .inBlock 0, .code trellislaw26_feed_c16] [(0, .slice A2 n3 c4), (6, .pointer (some ⟨gb19, 0, none⟩)), (7, .slice A427 n428 c429), (8, .int .i64 r355.2.1), (9, .int .i64 x162), (10, .slice A357 n358 c359), (12, .int .i64 s.2)] [.box gb19 52 [.slice A391 n392 c393, .int .i64 x397], .own (.slice A357 n358 c359) 9 1 n358 (r355.1.flatMap eS), .own (.slice A427 n428 c429) 9 1 n428 (s.1.flatMap eS)] [Sm w.heap.size F sw394 sb395, Sm w.heap.size F w366 sb370, Sm w.heap.size F sw167 sb168, Sm w.heap.size F w [], St w []])) ?_ hs
            clear hs s
            intro s o2 h hO2
            obtain ⟨x426, x431⟩ := s
            show ∀ (A427 : Option Addr) (n428 : Nat) (c429 : Nat) (h430 : Ow w.heap.size A427 n428 c429 x426), G (trellislaw26_feed_C w F r) [.code trellislaw26_feed_c45, .inLoop trellislaw26_feed_c45, .inBlock 2, .code trellislaw26_feed_c41, .inBlock 1, .code trellislaw26_feed_c28, .inLoop trellislaw26_feed_c20, .inBlock 0, .code trellislaw26_feed_c16] [(0, .slice A2 n3 c4), (6, .pointer (some ⟨gb19, 0, none⟩)), (7, .slice A427 n428 c429), (8, .int .i64 r355.2.1), (9, .int .i64 x162), (10, .slice A357 n358 c359), (12, .int .i64 x431)] [.box gb19 52 [.slice A391 n392 c393, .int .i64 x397], .own (.slice A357 n358 c359) 9 1 n358 (r355.1.flatMap eS), .own (.slice A427 n428 c429) 9 1 n428 (x426.flatMap eS)] [Sm w.heap.size F sw394 sb395, Sm w.heap.size F w366 sb370, Sm w.heap.size F sw167 sb168, Sm w.heap.size F w [], St w []]
            intro A427 n428 c429 h430
            have h : trellislaw26_feed_b3 r355 x390 x397 x162 x426 x431 o2 := h
            unfold trellislaw26_feed_b3 at h
            refine g_seq (c := trellislaw26_feed_c45) rfl ?_
            refine g_seq (c := trellislaw26_feed_c46) rfl ?_
            refine g_region (c := trellislaw26_feed_c48) rfl rfl ?_
            refine wl_v 0 rfl (v_move rfl) gn rfl ?_
            refine wl_v 1 rfl (v_move rfl) gn rfl ?_
            refine wl_v 2 rfl (v_lenQ un_35 rfl (Ow.weak hL353.env.size h360).hq) gn rfl ?_
            refine wl_v 3 rfl (v_bin rfl rfl rfl) gn rfl ?_
            refine w_end 4 rfl ?_
            by_cases hp458 : x431 < (r355.1.length : Int)
            · have h := if_pos' hp458 h
              refine g_true (c := trellislaw26_feed_c49) rfl _ rfl ((decide_eq_true hp458)) ?_
              refine g_skip (c := trellislaw26_feed_c50) rfl ?_
              refine g_seq (c := trellislaw26_feed_c47) rfl ?_
              refine g_block (c := trellislaw26_feed_c52) rfl ?_
              refine g_region (c := trellislaw26_feed_c54) rfl rfl ?_
              refine wl_v 0 rfl (v_move rfl) gn rfl ?_
              refine wl_v 1 rfl (v_move rfl) gn rfl ?_
              refine wl_v 2 rfl (v_move rfl) gn rfl ?_
              obtain ⟨hb459, h⟩ := h
              refine wl_v 3 rfl (v_idxO slE_35 rfl rfl (Ow.weak hL353.env.size h360) hb459) gn rfl ?_
              refine wl_v 4 rfl (v_ldO1 (.string (ix r355.1 x431)) 1 ld_9 rfl rfl (fm_get0 hlS hb459 rfl)) gn rfl ?_
              refine wl_s 5 rfl (s_litO (xs := ([ix r355.1 x431] : List ByteArray)) [.string (ix r355.1 x431)] bs_35_1 rfl (by kernel_rfl) rfl rfl rfl rfl fun gb461 h462 => ?_) gn
              obtain ⟨x466, hv467, h⟩ := h
              obtain ⟨hb468, h⟩ := h
              refine wl_s 6 rfl (s_app (zs := x466) (cells' := x466.flatMap eS) 3 ap_35 rfl rfl rfl h430 (Nat.le_refl _) (Src.ownF (hl := hlS) (h1 := hone_str) 0 rfl h462) (by rw [hv467, List.flatMap_append] <;> rfl) (app_len hv467 h462.hq) hb468 rfl rfl fun A463 c464 h465 => ?_) gn
              refine wl_v 7 rfl (v_assign rfl) gn rfl ?_
              refine w_end 8 rfl ?_
              refine g_inBlock ?_
              refine g_region (c := trellislaw26_feed_c53) rfl rfl ?_
              refine wl_v 0 rfl (v_move rfl) gn rfl ?_
              refine wl_v 1 rfl (v_bin rfl rfl rfl) gn rfl ?_
              refine wl_v 2 rfl (v_assign rfl) gn rfl ?_
              refine w_end 3 rfl ?_
              refine g_inLoop ?_
              have ih := Out.inl hO2 h
              exact g_go [0, 1, 2, 3, 4] (ih A463 (n428 + 1) c464 h465) ⟨rfl, rfl, rfl, rfl, rfl, rfl, rfl, trivial⟩ (.cons _ (.cons_cons _ (.cons_cons _ (.cons_cons _ (.slnil))))) rfl
            · have h := if_neg' hp458 h
              refine g_false (c := trellislaw26_feed_c49) rfl _ rfl ((decide_eq_false hp458)) ?_
              refine g_exit (c := trellislaw26_feed_c51) [.code trellislaw26_feed_c41, .inBlock 1, .code trellislaw26_feed_c28, .inLoop trellislaw26_feed_c20, .inBlock 0, .code trellislaw26_feed_c16] rfl rfl ?_
              refine g_seq (c := trellislaw26_feed_c41) rfl ?_
              refine g_region (c := trellislaw26_feed_c55) rfl rfl ?_
              refine wl_v 0 rfl (v_move rfl) gn rfl ?_
              obtain ⟨r472, hv473, h⟩ := h
              refine wl_s 1 rfl (s_call [.pointer (some ⟨gb19, 0, none⟩)] rfl Tryd.func24 rfl rfl rfl fun w469 hL470 => ?_) gn
              have hp471 : List.Perm ([.box gb19 52 [.slice A391 n392 c393, .int .i64 x397], .own (.slice A357 n358 c359) 9 1 n358 (r355.1.flatMap eS), .own (.slice A427 n428 c429) 9 1 n428 (x426.flatMap eS)] : List Ent) (([.box gb19 52 [.slice A391 n392 c393, .int .i64 x397]] : List Ent) ++ ([.own (.slice A357 n358 c359) 9 1 n358 (r355.1.flatMap eS), .own (.slice A427 n428 c429) 9 1 n428 (x426.flatMap eS)] : List Ent)) := perm_of_idx [0] [1, 2] rfl rfl (by kernel_rfl)
              refine Calls.mono (rpc_Buffer_Waiting_calls w469 (Fl ([Sm w.heap.size F sw394 sb395] : List Snap)) (⟨x390, x397⟩ : rpc_Buffer) gb19 52 A391 n392 c393 (Rw.mono h396 (hL470.toFl (me 0 rfl) (me 0 rfl))) (hL470.hFl (Sl := ([Sm w.heap.size F sw394 sb395] : List Snap)) hp471 (sels [0] rfl)) (hL470.into hp471 (Fl ([Sm w.heap.size F sw394 sb395] : List Snap))) r472 hv473) ?_
              rintro _ w478 ⟨A474, n475, c476, rfl, hM479, h477⟩
              obtain ⟨sb482, hL480, hv481⟩ := hL470.callB (Sl := ([Sm w.heap.size F sw394 sb395] : List Snap)) hp471 hM479 F (sels [0] rfl) ⟨Sm.ok, trivial⟩
              have h477 : At (kInt .u8) (Sm w.heap.size F w478 sb482) A474 n475 c476 r472.2.wait := Rw.mono h477 hv481
              refine ⟨_, _, _, rfl, hL480, ?_⟩
              refine wl_v 2 rfl (v_bin rfl rfl rfl) gn rfl ?_
              refine w_end 3 rfl ?_
              by_cases hp483 : r472.1 > 2097179
              · have h := if_pos' hp483 h
                refine g_true (c := trellislaw26_feed_c56) rfl _ rfl ((decide_eq_true hp483)) ?_
                refine g_seq (c := trellislaw26_feed_c57) rfl ?_
                refine g_region (c := trellislaw26_feed_c59) rfl rfl ?_
                refine wl_v 0 rfl (v_assign rfl) gn rfl ?_
                refine wl_v 1 rfl (v_assign rfl) gn rfl ?_
                refine wl_v 2 rfl (v_assign rfl) gn rfl ?_
                refine wl_v 3 rfl (v_assign rfl) gn rfl ?_
                refine w_end 4 rfl ?_
                refine g_nil 9 1 ?_
                have h := Out.inr hO2 h
                have h := Out.inr hO1 h
                refine g_retR (c := trellislaw26_feed_c60) [.slice none 0 0, .int .i64 0, .int .i64 0, .bool false] rfl Tryd.func16 rfl (.tmp rfl (.tmp rfl (.tmp rfl (.tmp rfl (.nil))))) fun wr hLr => ?_
                have hMr : B.Loc w wr [.own (.slice none 0 0) 9 1 0 (([] : List ByteArray).flatMap eS)] [St w []] := hLr.pick (rest := [.box gb19 52 [.slice A474 n475 c476, .int .i64 r472.2.code], .own (.slice A357 n358 c359) 9 1 n358 (r355.1.flatMap eS), .own (.slice A427 n428 c429) 9 1 n428 (x426.flatMap eS)]) (perm_of_idx [0] [1, 2, 3] rfl rfl (by kernel_rfl)) (sels [5] rfl)
                have hMi : ∀ e ∈ ([.own (.slice none 0 0) 9 1 0 (([] : List ByteArray).flatMap eS)] : List Ent), e ∈ ([.own (.slice none 0 0) 9 1 0 (([] : List ByteArray).flatMap eS), .box gb19 52 [.slice A474 n475 c476, .int .i64 r472.2.code], .own (.slice A357 n358 c359) 9 1 n358 (r355.1.flatMap eS), .own (.slice A427 n428 c429) 9 1 n428 (x426.flatMap eS)] : List Ent) := sels [0] rfl
                show trellislaw26_feed_R w F  r (.returned (packV [.slice none 0 0, .int .i64 0, .int .i64 0, .bool false])) wr
                rw [h]
                exact ⟨none, 0, 0, rfl, hMr, (Ow.nil (z := w.heap.size))⟩
              · have h := if_neg' hp483 h
                refine g_false (c := trellislaw26_feed_c56) rfl _ rfl ((decide_eq_false hp483)) ?_
                refine g_skip (c := trellislaw26_feed_c58) rfl ?_
                refine g_inBlock ?_
                refine g_region (c := trellislaw26_feed_c28) rfl rfl ?_
                refine wl_v 0 rfl (v_move rfl) gn rfl ?_
                refine wl_v 1 rfl (v_bin rfl rfl rfl) gn rfl ?_
                refine wl_v 2 rfl (v_assign rfl) gn rfl ?_
                refine w_end 3 rfl ?_
                refine g_inLoop ?_
                refine g_front 0 rfl ?_
                refine g_front 2 rfl ?_
                have h := Out.inr hO2 h
                have ih := Out.inl hO1 h
                exact g_go [0, 4, 5] (ih A427 n428 c429 h430 A474 n475 c476 w478 sb482 h477) ⟨rfl, rfl, rfl, rfl, rfl, trivial⟩ (.cons_cons _ (.cons_cons _ (.cons _ (.slnil)))) rfl
          exact g_go [0, 1, 2, 3, 4] (key3 _ h A157 n158 c159 h160) ⟨rfl, rfl, rfl, rfl, rfl, rfl, rfl, trivial⟩ (.cons_cons _ (.cons_cons _ (.cons_cons _ (.slnil)))) rfl
      refine g_region (c := trellislaw26_feed_c34) rfl rfl ?_
      refine wl_v 0 rfl (v_move rfl) gn rfl ?_
      refine wl_v 1 rfl (v_bin rfl rfl rfl) gn rfl ?_
      refine wl_v 2 rfl (v_move rfl) gn rfl ?_
      by_cases hp484 : x161 = 0
      · have h := if_pos' hp484 h
        refine w_bool 33 rfl ((eqib hp484)) ?_
        refine wl_pass 3 rfl (ps 33 rfl rfl rfl) ?_
        refine wl_pass 4 rfl (ps 33 rfl rfl rfl) ?_
        refine wl_pass 5 rfl (ps 33 rfl rfl rfl) ?_
        refine wl_pass 6 rfl (ps 33 rfl rfl rfl) ?_
        refine wl_pass 7 rfl (pu 37 rfl rfl) ?_
        refine wl_pass 8 rfl (pu 37 rfl rfl) ?_
        refine wl_pass 9 rfl (pu 37 rfl rfl) ?_
        refine wl_pass 10 rfl (ps 33 rfl rfl rfl) ?_
        refine wl_pass 11 rfl (ps 33 rfl rfl rfl) ?_
        refine wl_pass 12 rfl (pu 42 rfl rfl) ?_
        refine wl_pass 13 rfl (pu 42 rfl rfl) ?_
        refine wl_pass 14 rfl (pu 42 rfl rfl) ?_
        refine wl_pass 15 rfl (ps 33 rfl rfl rfl) ?_
        refine wl_v 16 rfl (v_pick (b := false) rfl rfl) gn rfl ?_
        refine w_end 17 rfl ?_
        exact g_go [0, 0, 1, 2, 3] (j2 false r355.2.2.wait r355.2.2.code h A362 n363 c364 w366 sb370 h365) ⟨rfl, rfl, rfl, rfl, rfl, rfl, rfl, trivial⟩ (.cons_cons _ (.cons_cons _ (.cons_cons _ (.slnil)))) rfl
      · have h := if_neg' hp484 h
        refine w_bool 33 rfl ((neib hp484)) ?_
        refine wl_v 3 rfl (v_move rfl) (gy 33 rfl rfl) rfl ?_
        refine wl_v 4 rfl (v_move rfl) (gy 33 rfl rfl) rfl ?_
        refine wl_v 5 rfl (v_bin rfl rfl rfl) (gy 33 rfl rfl) rfl ?_
        refine wl_v 6 rfl (v_move rfl) (gy 33 rfl rfl) rfl ?_
        by_cases hp485 : r355.2.1 = x161
        · have h := if_pos' hp485 h
          refine w_bool 37 rfl ((eqib hp485)) ?_
          refine wl_v 7 rfl (v_move rfl) (gy 37 rfl rfl) rfl ?_
          refine wl_v 8 rfl (v_lenQ un_35 rfl (Ow.weak hL353.env.size h360).hq) (gy 37 rfl rfl) rfl ?_
          refine wl_v 9 rfl (v_bin rfl rfl rfl) (gy 37 rfl rfl) rfl ?_
          refine wl_v 10 rfl (v_pick (b := false) rfl rfl) (gy 33 rfl rfl) rfl ?_
          refine wl_v 11 rfl (v_move rfl) (gy 33 rfl rfl) rfl ?_
          by_cases hp486 : (r355.1.length : Int) = 0
          · have h := if_pos' hp486 h
            refine w_bool 42 rfl ((eqib hp486)) ?_
            refine wl_v 12 rfl (v_move rfl) (gy 42 rfl rfl) rfl ?_
            obtain ⟨r490, hv491, h⟩ := h
            refine wl_s 13 rfl (s_call [.pointer (some ⟨gb19, 0, none⟩)] rfl Tryd.func24 rfl rfl rfl fun w487 hL488 => ?_) (gy 42 rfl rfl)
            have hp489 : List.Perm ([.box gb19 52 [.slice A362 n363 c364, .int .i64 r355.2.2.code], .own (.slice A357 n358 c359) 9 1 n358 (r355.1.flatMap eS), .own (.slice A157 n158 c159) 9 1 n158 (x156.flatMap eS)] : List Ent) (([.box gb19 52 [.slice A362 n363 c364, .int .i64 r355.2.2.code]] : List Ent) ++ ([.own (.slice A357 n358 c359) 9 1 n358 (r355.1.flatMap eS), .own (.slice A157 n158 c159) 9 1 n158 (x156.flatMap eS)] : List Ent)) := perm_of_idx [0] [1, 2] rfl rfl (by kernel_rfl)
            refine Calls.mono (rpc_Buffer_Waiting_calls w487 (Fl ([Sm w.heap.size F w366 sb370] : List Snap)) r355.2.2 gb19 52 A362 n363 c364 (Rw.mono h365 (hL488.toFl (me 0 rfl) (me 0 rfl))) (hL488.hFl (Sl := ([Sm w.heap.size F w366 sb370] : List Snap)) hp489 (sels [0] rfl)) (hL488.into hp489 (Fl ([Sm w.heap.size F w366 sb370] : List Snap))) r490 hv491) ?_
            rintro _ w496 ⟨A492, n493, c494, rfl, hM497, h495⟩
            obtain ⟨sb500, hL498, hv499⟩ := hL488.callB (Sl := ([Sm w.heap.size F w366 sb370] : List Snap)) hp489 hM497 F (sels [0] rfl) ⟨Sm.ok, trivial⟩
            have h495 : At (kInt .u8) (Sm w.heap.size F w496 sb500) A492 n493 c494 r490.2.wait := Rw.mono h495 hv499
            refine ⟨_, _, _, rfl, hL498, ?_⟩
            refine wl_v 14 rfl (v_bin rfl rfl rfl) (gy 42 rfl rfl) rfl ?_
            refine wl_v 15 rfl (v_pick (b := false) rfl rfl) (gy 33 rfl rfl) rfl ?_
            refine wl_v 16 rfl (v_pick (b := true) rfl rfl) gn rfl ?_
            refine w_end 17 rfl ?_
            exact g_go [0, 1, 2, 3, 4] (j2 (r490.1 != 0) r490.2.wait r490.2.code h A492 n493 c494 w496 sb500 h495) ⟨rfl, rfl, rfl, rfl, rfl, rfl, rfl, trivial⟩ (.cons_cons _ (.cons_cons _ (.cons_cons _ (.slnil)))) rfl
          · have h := if_neg' hp486 h
            refine w_bool 42 rfl ((neib hp486)) ?_
            refine wl_pass 12 rfl (ps 42 rfl rfl rfl) ?_
            refine wl_pass 13 rfl (ps 42 rfl rfl rfl) ?_
            refine wl_pass 14 rfl (ps 42 rfl rfl rfl) ?_
            refine wl_v 15 rfl (v_pick (b := true) rfl rfl) (gy 33 rfl rfl) rfl ?_
            refine wl_v 16 rfl (v_pick (b := true) rfl rfl) gn rfl ?_
            refine w_end 17 rfl ?_
            exact g_go [0, 0, 1, 2, 3] (j2 true r355.2.2.wait r355.2.2.code h A362 n363 c364 w366 sb370 h365) ⟨rfl, rfl, rfl, rfl, rfl, rfl, rfl, trivial⟩ (.cons_cons _ (.cons_cons _ (.cons_cons _ (.slnil)))) rfl
        · have h := if_neg' hp485 h
          refine w_bool 37 rfl ((neib hp485)) ?_
          refine wl_pass 7 rfl (ps 37 rfl rfl rfl) ?_
          refine wl_pass 8 rfl (ps 37 rfl rfl rfl) ?_
          refine wl_pass 9 rfl (ps 37 rfl rfl rfl) ?_
          refine wl_v 10 rfl (v_pick (b := true) rfl rfl) (gy 33 rfl rfl) rfl ?_
          refine wl_v 11 rfl (v_move rfl) (gy 33 rfl rfl) rfl ?_
          refine wl_pass 12 rfl (ps 42 rfl rfl rfl) ?_
          refine wl_pass 13 rfl (ps 42 rfl rfl rfl) ?_
          refine wl_pass 14 rfl (ps 42 rfl rfl rfl) ?_
          refine wl_v 15 rfl (v_pick (b := true) rfl rfl) (gy 33 rfl rfl) rfl ?_
          refine wl_v 16 rfl (v_pick (b := true) rfl rfl) gn rfl ?_
          refine w_end 17 rfl ?_
          exact g_go [0, 0, 1, 2, 3] (j2 true r355.2.2.wait r355.2.2.code h A362 n363 c364 w366 sb370 h365) ⟨rfl, rfl, rfl, rfl, rfl, rfl, rfl, trivial⟩ (.cons_cons _ (.cons_cons _ (.cons_cons _ (.slnil)))) rfl
    · have h := if_neg' hp343 h
      refine g_false (c := trellislaw26_feed_c24) rfl _ rfl ((decide_eq_false hp343)) ?_
      refine g_exit (c := trellislaw26_feed_c26) [.code trellislaw26_feed_c16] rfl rfl ?_
      refine g_seq (c := trellislaw26_feed_c16) rfl ?_
      refine g_region (c := trellislaw26_feed_c61) rfl rfl ?_
      refine wl_v 0 rfl (v_move rfl) gn rfl ?_
      refine wl_v 1 rfl (v_move rfl) gn rfl ?_
      refine wl_v 2 rfl (v_move rfl) gn rfl ?_
      obtain ⟨r504, hv505, h⟩ := h
      refine wl_s 3 rfl (s_call [.pointer (some ⟨gb19, 0, none⟩)] rfl Tryd.func24 rfl rfl rfl fun w501 hL502 => ?_) gn
      have hp503 : List.Perm ([.own (.slice A157 n158 c159) 9 1 n158 (x156.flatMap eS), .box gb19 52 [.slice A164 n165 c166, .int .i64 x170]] : List Ent) (([.box gb19 52 [.slice A164 n165 c166, .int .i64 x170]] : List Ent) ++ ([.own (.slice A157 n158 c159) 9 1 n158 (x156.flatMap eS)] : List Ent)) := perm_of_idx [1] [0] rfl rfl (by kernel_rfl)
      refine Calls.mono (rpc_Buffer_Waiting_calls w501 (Fl ([Sm w.heap.size F sw167 sb168] : List Snap)) (⟨x163, x170⟩ : rpc_Buffer) gb19 52 A164 n165 c166 (Rw.mono h169 (hL502.toFl (me 0 rfl) (me 0 rfl))) (hL502.hFl (Sl := ([Sm w.heap.size F sw167 sb168] : List Snap)) hp503 (sels [0] rfl)) (hL502.into hp503 (Fl ([Sm w.heap.size F sw167 sb168] : List Snap))) r504 hv505) ?_
      rintro _ w510 ⟨A506, n507, c508, rfl, hM511, h509⟩
      obtain ⟨sb514, hL512, hv513⟩ := hL502.callB (Sl := ([Sm w.heap.size F sw167 sb168] : List Snap)) hp503 hM511 F (sels [0] rfl) ⟨Sm.ok, trivial⟩
      have h509 : At (kInt .u8) (Sm w.heap.size F w510 sb514) A506 n507 c508 r504.2.wait := Rw.mono h509 hv513
      refine ⟨_, _, _, rfl, hL512, ?_⟩
      refine wl_v 4 rfl (v_assign rfl) gn rfl ?_
      refine wl_v 5 rfl (v_assign rfl) gn rfl ?_
      refine wl_v 6 rfl (v_assign rfl) gn rfl ?_
      refine wl_v 7 rfl (v_assign rfl) gn rfl ?_
      refine w_end 8 rfl ?_
      have h := Out.inr hO1 h
      refine g_retR (c := trellislaw26_feed_c62) [.slice A157 n158 c159, .int .i64 x161, .int .i64 r504.1, .bool true] rfl Tryd.func16 rfl (.tmp rfl (.tmp rfl (.tmp rfl (.tmp rfl (.nil))))) fun wr hLr => ?_
      have hMr : B.Loc w wr [.own (.slice A157 n158 c159) 9 1 n158 (x156.flatMap eS)] [St w []] := hLr.pick (rest := [.box gb19 52 [.slice A506 n507 c508, .int .i64 r504.2.code]]) (perm_of_idx [1] [0] rfl rfl (by kernel_rfl)) (sels [3] rfl)
      have hMi : ∀ e ∈ ([.own (.slice A157 n158 c159) 9 1 n158 (x156.flatMap eS)] : List Ent), e ∈ ([.box gb19 52 [.slice A506 n507 c508, .int .i64 r504.2.code], .own (.slice A157 n158 c159) 9 1 n158 (x156.flatMap eS)] : List Ent) := sels [1] rfl
      show trellislaw26_feed_R w F  r (.returned (packV [.slice A157 n158 c159, .int .i64 x161, .int .i64 r504.1, .bool true])) wr
      rw [h]
      exact ⟨A157, n158, c159, rfl, hMr, h160⟩
  refine g_freeze (F := F) (dk := (kInt .u8)) (Sm w.heap.size F w []) 1 rfl (Ow.weak hL7.env.size h14) (me 0 rfl) Sm.ok (Cells.flat _) fun sw516 sb517 h515 => ?_
  refine g_nil 9 1 ?_
  exact g_go [0, 1, 2] (key1 _ h none 0 0 (Ow.nil (z := w.heap.size)) A11 n12 c13 sw516 sb517 h515) ⟨rfl, rfl, rfl, rfl, rfl, trivial⟩ (.cons_cons _ (.cons_cons _ (.slnil))) rfl
noncomputable abbrev trellislaw26_sameTexts_c0 : Code := bodyOf Tryd.f17
noncomputable abbrev trellislaw26_sameTexts_c1 : Code := Code.fst trellislaw26_sameTexts_c0
noncomputable abbrev trellislaw26_sameTexts_c2 : Code := Code.snd trellislaw26_sameTexts_c0
noncomputable abbrev trellislaw26_sameTexts_c3 : Code := Code.fst trellislaw26_sameTexts_c2
noncomputable abbrev trellislaw26_sameTexts_c4 : Code := Code.snd trellislaw26_sameTexts_c2
noncomputable abbrev trellislaw26_sameTexts_c5 : Code := Code.fst trellislaw26_sameTexts_c3
noncomputable abbrev trellislaw26_sameTexts_c6 : Code := Code.snd trellislaw26_sameTexts_c3
noncomputable abbrev trellislaw26_sameTexts_c7 : Code := Code.fst trellislaw26_sameTexts_c6
noncomputable abbrev trellislaw26_sameTexts_c8 : Code := Code.snd trellislaw26_sameTexts_c6
noncomputable abbrev trellislaw26_sameTexts_c9 : Code := Code.fst trellislaw26_sameTexts_c4
noncomputable abbrev trellislaw26_sameTexts_c10 : Code := Code.snd trellislaw26_sameTexts_c4
noncomputable abbrev trellislaw26_sameTexts_c11 : Code := Code.fst trellislaw26_sameTexts_c9
noncomputable abbrev trellislaw26_sameTexts_c12 : Code := Code.snd trellislaw26_sameTexts_c9
noncomputable abbrev trellislaw26_sameTexts_c13 : Code := Code.fst trellislaw26_sameTexts_c12
noncomputable abbrev trellislaw26_sameTexts_c14 : Code := Code.fst trellislaw26_sameTexts_c13
noncomputable abbrev trellislaw26_sameTexts_c15 : Code := Code.fst trellislaw26_sameTexts_c14
noncomputable abbrev trellislaw26_sameTexts_c16 : Code := Code.snd trellislaw26_sameTexts_c14
noncomputable abbrev trellislaw26_sameTexts_c17 : Code := Code.fst trellislaw26_sameTexts_c15
noncomputable abbrev trellislaw26_sameTexts_c18 : Code := Code.snd trellislaw26_sameTexts_c15
noncomputable abbrev trellislaw26_sameTexts_c19 : Code := Code.fst trellislaw26_sameTexts_c18
noncomputable abbrev trellislaw26_sameTexts_c20 : Code := Code.snd trellislaw26_sameTexts_c18
noncomputable abbrev trellislaw26_sameTexts_c21 : Code := Code.fst trellislaw26_sameTexts_c16
noncomputable abbrev trellislaw26_sameTexts_c22 : Code := Code.snd trellislaw26_sameTexts_c16
noncomputable abbrev trellislaw26_sameTexts_c23 : Code := Code.fst trellislaw26_sameTexts_c21
noncomputable abbrev trellislaw26_sameTexts_c24 : Code := Code.fst trellislaw26_sameTexts_c23
noncomputable abbrev trellislaw26_sameTexts_c25 : Code := Code.snd trellislaw26_sameTexts_c23
noncomputable abbrev trellislaw26_sameTexts_c26 : Code := Code.fst trellislaw26_sameTexts_c25
noncomputable abbrev trellislaw26_sameTexts_c27 : Code := Code.snd trellislaw26_sameTexts_c25
noncomputable abbrev trellislaw26_sameTexts_c28 : Code := Code.fst trellislaw26_sameTexts_c26
noncomputable abbrev trellislaw26_sameTexts_c29 : Code := Code.snd trellislaw26_sameTexts_c26
noncomputable abbrev trellislaw26_sameTexts_c30 : Code := Code.fst trellislaw26_sameTexts_c10
noncomputable abbrev trellislaw26_sameTexts_c31 : Code := Code.snd trellislaw26_sameTexts_c10
noncomputable abbrev trellislaw26_sameTexts_c32 : Code := Code.fst trellislaw26_sameTexts_c7
noncomputable abbrev trellislaw26_sameTexts_c33 : Code := Code.snd trellislaw26_sameTexts_c7
abbrev trellislaw26_sameTexts_R (w : World) (F : Nat → Prop) (r : Bool) : Ending → World → Prop := fun e w' => e = .returned (.bool r) ∧ B.Loc w w' [] [St w []]
noncomputable abbrev trellislaw26_sameTexts_C (w : World) (F : Nat → Prop) (r : Bool) : Cx := ⟨Tryd.prog, 17, Tryd.f17, 26, trellislaw26_sameTexts_R w F  r, w⟩
theorem trellislaw26_sameTexts_calls (w : World) (F : Nat → Prop) (x1 : List ByteArray) (x6 : List ByteArray) (A2 : Option Addr) (n3 : Nat) (c4 : Nat) (A7 : Option Addr) (n8 : Nat) (c9 : Nat) (h5 : Rw kStr w (St w []).av A2 n3 c4 x1) (h10 : Rw kStr w (St w []).av A7 n8 c9 x6) (hF : ∀ b, F b → b < w.heap.size ∧ ∀ o ∈ ([] : List (List Nat)), b ∉ o) (hL0 : B.Loc w w [] [Sm w.heap.size F w [], St w []]) (r : Bool) (h : trellislaw26_sameTexts x1 x6 r) : Calls Tryd.prog 17 #[.slice A2 n3 c4, .slice A7 n8 c9] w (trellislaw26_sameTexts_R w F  r) := by
  unfold trellislaw26_sameTexts at h
  refine calls_of_Loc (vs := [.slice A2 n3 c4, .slice A7 n8 c9]) 26 Tryd.func17 rfl Tryd.ntmps17 rfl hL0 ?_
  show G (trellislaw26_sameTexts_C w F r) _ _ _ _
  refine g_seq (c := trellislaw26_sameTexts_c0) rfl ?_
  refine g_region (c := trellislaw26_sameTexts_c1) rfl rfl ?_
  refine wl_v 0 rfl (v_assign rfl) gn rfl ?_
  refine w_end 1 rfl ?_
  refine g_seq (c := trellislaw26_sameTexts_c2) rfl ?_
  refine g_seq (c := trellislaw26_sameTexts_c3) rfl ?_
  refine g_region (c := trellislaw26_sameTexts_c5) rfl rfl ?_
  refine wl_v 0 rfl (v_move rfl) gn rfl ?_
  refine wl_v 1 rfl (v_lenQ un_35 rfl h5.hq) gn rfl ?_
  refine wl_v 2 rfl (v_move rfl) gn rfl ?_
  refine wl_v 3 rfl (v_lenQ un_35 rfl h10.hq) gn rfl ?_
  refine wl_v 4 rfl (v_bin rfl rfl rfl) gn rfl ?_
  refine w_end 5 rfl ?_
  by_cases hp11 : (x1.length : Int) = (x6.length : Int)
  · have h := if_pos' hp11 h
    refine g_false (c := trellislaw26_sameTexts_c6) rfl _ rfl ((eqib hp11)) ?_
    refine g_skip (c := trellislaw26_sameTexts_c8) rfl ?_
    refine g_seq (c := trellislaw26_sameTexts_c4) rfl ?_
    refine g_seq (c := trellislaw26_sameTexts_c9) rfl ?_
    refine g_region (c := trellislaw26_sameTexts_c11) rfl rfl ?_
    refine wl_v 0 rfl (v_assign rfl) gn rfl ?_
    refine w_end 1 rfl ?_
    refine g_block (c := trellislaw26_sameTexts_c12) rfl ?_
    refine g_loop (c := trellislaw26_sameTexts_c13) rfl ?_
    have key1 : ∀ s, Rounds (fun (s : Int) o => trellislaw26_sameTexts_b1 x1 x6 s o) s r → (fun (s : Int) => ∀ (_ : Unit), G (trellislaw26_sameTexts_C w F r) [.code trellislaw26_sameTexts_c14, .inLoop trellislaw26_sameTexts_c14, .inBlock 0, .code trellislaw26_sameTexts_c10] [(0, .slice A2 n3 c4), (1, .slice A7 n8 c9), (5, .int .i64 s)] [] [Sm w.heap.size F w [], St w []]) s := by
      intro s hs
      refine Rounds.ind (mot := (fun (s : Int) => ∀ (_ : Unit), G (trellislaw26_sameTexts_C w F r) [.code trellislaw26_sameTexts_c14, .inLoop trellislaw26_sameTexts_c14, .inBlock 0, .code trellislaw26_sameTexts_c10] [(0, .slice A2 n3 c4), (1, .slice A7 n8 c9), (5, .int .i64 s)] [] [Sm w.heap.size F w [], St w []])) ?_ hs
      clear hs s
      intro x23 o1 h hO1
      show ∀ (_ : Unit), G (trellislaw26_sameTexts_C w F r) [.code trellislaw26_sameTexts_c14, .inLoop trellislaw26_sameTexts_c14, .inBlock 0, .code trellislaw26_sameTexts_c10] [(0, .slice A2 n3 c4), (1, .slice A7 n8 c9), (5, .int .i64 x23)] [] [Sm w.heap.size F w [], St w []]
      intro _
      have h : trellislaw26_sameTexts_b1 x1 x6 x23 o1 := h
      unfold trellislaw26_sameTexts_b1 at h
      refine g_seq (c := trellislaw26_sameTexts_c14) rfl ?_
      refine g_seq (c := trellislaw26_sameTexts_c15) rfl ?_
      refine g_region (c := trellislaw26_sameTexts_c17) rfl rfl ?_
      refine wl_v 0 rfl (v_move rfl) gn rfl ?_
      refine wl_v 1 rfl (v_move rfl) gn rfl ?_
      refine wl_v 2 rfl (v_lenQ un_35 rfl h5.hq) gn rfl ?_
      refine wl_v 3 rfl (v_bin rfl rfl rfl) gn rfl ?_
      refine w_end 4 rfl ?_
      by_cases hp34 : x23 < (x1.length : Int)
      · have h := if_pos' hp34 h
        refine g_true (c := trellislaw26_sameTexts_c18) rfl _ rfl ((decide_eq_true hp34)) ?_
        refine g_skip (c := trellislaw26_sameTexts_c19) rfl ?_
        refine g_seq (c := trellislaw26_sameTexts_c16) rfl ?_
        refine g_block (c := trellislaw26_sameTexts_c21) rfl ?_
        refine g_seq (c := trellislaw26_sameTexts_c23) rfl ?_
        obtain ⟨hb35, h⟩ := h
        obtain ⟨hb37, h⟩ := h
        have hns : Region.noSelect (Code.ops trellislaw26_sameTexts_c24) = true := by kernel_rfl
        refine g_drawF (c := trellislaw26_sameTexts_c24) [] [Sm w.heap.size F w [], St w []] [] 9 rfl rfl mix rfl (.slnil) (sels [0, 1] rfl) ?_
        refine wf_v 0 rfl (v_move rfl) gn rfl hns (by kernel_rfl) (by kernel_rfl) rfl rfl ?_
        refine wf_v 1 rfl (v_move rfl) gn rfl hns (by kernel_rfl) (by kernel_rfl) rfl rfl ?_
        have hr41 := Rw.readF (s := St w []) (hl := hlS) (h1 := hone_str) h5 hb35
        refine wf_v 2 rfl (v_idxR (s := St w []) slE_35 rfl rfl h5 hb35) gn rfl hns (by kernel_rfl) (by kernel_rfl) rfl rfl ?_
        refine wf_v 3 rfl (v_ldA1 (kk := (x23 : Int).toNat * 1) (j := 0) (St w []) ld_9 rfl hr41 rfl (me 1 rfl)) gn rfl hns (by kernel_rfl) (by kernel_rfl) rfl rfl ?_
        refine wf_v 4 rfl (v_move rfl) gn rfl hns (by kernel_rfl) (by kernel_rfl) rfl rfl ?_
        refine wf_v 5 rfl (v_move rfl) gn rfl hns (by kernel_rfl) (by kernel_rfl) rfl rfl ?_
        have hr42 := Rw.readF (s := St w []) (hl := hlS) (h1 := hone_str) h10 hb37
        refine wf_v 6 rfl (v_idxR (s := St w []) slE_35 rfl rfl h10 hb37) gn rfl hns (by kernel_rfl) (by kernel_rfl) rfl rfl ?_
        refine wf_v 7 rfl (v_ldA1 (kk := (x23 : Int).toNat * 1) (j := 0) (St w []) ld_9 rfl hr42 rfl (me 1 rfl)) gn rfl hns (by kernel_rfl) (by kernel_rfl) rfl rfl ?_
        refine wf_v 8 rfl (v_neS rfl rfl) gn rfl hns (by kernel_rfl) (by kernel_rfl) rfl rfl ?_
        refine wf_end (by kernel_rfl) ?_
        by_cases hp43 : ix x1 x23 = ix x6 x23
        · have h := if_pos' hp43 h
          refine g_false (c := trellislaw26_sameTexts_c25) rfl _ rfl ((nf (seq_t hp43))) ?_
          refine g_skip (c := trellislaw26_sameTexts_c27) rfl ?_
          refine g_inBlock ?_
          refine g_region (c := trellislaw26_sameTexts_c22) rfl rfl ?_
          refine wl_v 0 rfl (v_move rfl) gn rfl ?_
          refine wl_v 1 rfl (v_bin rfl rfl rfl) gn rfl ?_
          refine wl_v 2 rfl (v_assign rfl) gn rfl ?_
          refine w_end 3 rfl ?_
          refine g_inLoop ?_
          have ih := Out.inl hO1 h
          exact g_go [0, 1] (ih ()) ⟨rfl, rfl, rfl, trivial⟩ (.slnil) rfl
        · have h := if_neg' hp43 h
          refine g_true (c := trellislaw26_sameTexts_c25) rfl _ rfl ((nt (seq_f hp43))) ?_
          refine g_seq (c := trellislaw26_sameTexts_c26) rfl ?_
          refine g_region (c := trellislaw26_sameTexts_c28) rfl rfl ?_
          refine wl_v 0 rfl (v_assign rfl) gn rfl ?_
          refine w_end 1 rfl ?_
          have h := Out.inr hO1 h
          refine g_retR (c := trellislaw26_sameTexts_c29) [.bool false] rfl Tryd.func17 rfl (.tmp rfl (.nil)) fun wr hLr => ?_
          have hMr : B.Loc w wr [] [St w []] := hLr.pick (rest := []) (perm_of_idx [] [] rfl rfl (by kernel_rfl)) (sels [1] rfl)
          have hMi : ∀ e ∈ ([] : List Ent), e ∈ ([] : List Ent) := sels [] rfl
          show trellislaw26_sameTexts_R w F  r (.returned (packV [.bool false])) wr
          rw [h]
          exact ⟨rfl, hMr⟩
      · have h := if_neg' hp34 h
        refine g_false (c := trellislaw26_sameTexts_c18) rfl _ rfl ((decide_eq_false hp34)) ?_
        refine g_exit (c := trellislaw26_sameTexts_c20) [.code trellislaw26_sameTexts_c10] rfl rfl ?_
        refine g_seq (c := trellislaw26_sameTexts_c10) rfl ?_
        refine g_region (c := trellislaw26_sameTexts_c30) rfl rfl ?_
        refine wl_v 0 rfl (v_assign rfl) gn rfl ?_
        refine w_end 1 rfl ?_
        have h := Out.inr hO1 h
        refine g_retR (c := trellislaw26_sameTexts_c31) [.bool true] rfl Tryd.func17 rfl (.tmp rfl (.nil)) fun wr hLr => ?_
        have hMr : B.Loc w wr [] [St w []] := hLr.pick (rest := []) (perm_of_idx [] [] rfl rfl (by kernel_rfl)) (sels [1] rfl)
        have hMi : ∀ e ∈ ([] : List Ent), e ∈ ([] : List Ent) := sels [] rfl
        show trellislaw26_sameTexts_R w F  r (.returned (packV [.bool true])) wr
        rw [h]
        exact ⟨rfl, hMr⟩
    exact g_go [0, 1] (key1 _ h ()) ⟨rfl, rfl, rfl, trivial⟩ (.slnil) rfl
  · have h := if_neg' hp11 h
    refine g_true (c := trellislaw26_sameTexts_c6) rfl _ rfl ((neib hp11)) ?_
    refine g_seq (c := trellislaw26_sameTexts_c7) rfl ?_
    refine g_region (c := trellislaw26_sameTexts_c32) rfl rfl ?_
    refine wl_v 0 rfl (v_assign rfl) gn rfl ?_
    refine w_end 1 rfl ?_
    refine g_retR (c := trellislaw26_sameTexts_c33) [.bool false] rfl Tryd.func17 rfl (.tmp rfl (.nil)) fun wr hLr => ?_
    have hMr : B.Loc w wr [] [St w []] := hLr.pick (rest := []) (perm_of_idx [] [] rfl rfl (by kernel_rfl)) (sels [1] rfl)
    have hMi : ∀ e ∈ ([] : List Ent), e ∈ ([] : List Ent) := sels [] rfl
    show trellislaw26_sameTexts_R w F  r (.returned (packV [.bool false])) wr
    rw [h]
    exact ⟨rfl, hMr⟩
noncomputable abbrev trellislaw26_RpcPieces_c0 : Code := bodyOf Tryd.f6
noncomputable abbrev trellislaw26_RpcPieces_c1 : Code := Code.fst trellislaw26_RpcPieces_c0
noncomputable abbrev trellislaw26_RpcPieces_c2 : Code := Code.snd trellislaw26_RpcPieces_c0
noncomputable abbrev trellislaw26_RpcPieces_c3 : Code := Code.fst trellislaw26_RpcPieces_c2
noncomputable abbrev trellislaw26_RpcPieces_c4 : Code := Code.snd trellislaw26_RpcPieces_c2
noncomputable abbrev trellislaw26_RpcPieces_c5 : Code := Code.fst trellislaw26_RpcPieces_c3
noncomputable abbrev trellislaw26_RpcPieces_c6 : Code := Code.snd trellislaw26_RpcPieces_c3
noncomputable abbrev trellislaw26_RpcPieces_c7 : Code := Code.fst trellislaw26_RpcPieces_c6
noncomputable abbrev trellislaw26_RpcPieces_c8 : Code := Code.snd trellislaw26_RpcPieces_c6
noncomputable abbrev trellislaw26_RpcPieces_c9 : Code := Code.fst trellislaw26_RpcPieces_c4
noncomputable abbrev trellislaw26_RpcPieces_c10 : Code := Code.snd trellislaw26_RpcPieces_c4
noncomputable abbrev trellislaw26_RpcPieces_c11 : Code := Code.fst trellislaw26_RpcPieces_c10
noncomputable abbrev trellislaw26_RpcPieces_c12 : Code := Code.snd trellislaw26_RpcPieces_c10
noncomputable abbrev trellislaw26_RpcPieces_c13 : Code := Code.fst trellislaw26_RpcPieces_c11
noncomputable abbrev trellislaw26_RpcPieces_c14 : Code := Code.snd trellislaw26_RpcPieces_c11
noncomputable abbrev trellislaw26_RpcPieces_c15 : Code := Code.fst trellislaw26_RpcPieces_c14
noncomputable abbrev trellislaw26_RpcPieces_c16 : Code := Code.fst trellislaw26_RpcPieces_c15
noncomputable abbrev trellislaw26_RpcPieces_c17 : Code := Code.fst trellislaw26_RpcPieces_c16
noncomputable abbrev trellislaw26_RpcPieces_c18 : Code := Code.snd trellislaw26_RpcPieces_c16
noncomputable abbrev trellislaw26_RpcPieces_c19 : Code := Code.fst trellislaw26_RpcPieces_c17
noncomputable abbrev trellislaw26_RpcPieces_c20 : Code := Code.snd trellislaw26_RpcPieces_c17
noncomputable abbrev trellislaw26_RpcPieces_c21 : Code := Code.fst trellislaw26_RpcPieces_c20
noncomputable abbrev trellislaw26_RpcPieces_c22 : Code := Code.snd trellislaw26_RpcPieces_c20
noncomputable abbrev trellislaw26_RpcPieces_c23 : Code := Code.fst trellislaw26_RpcPieces_c18
noncomputable abbrev trellislaw26_RpcPieces_c24 : Code := Code.snd trellislaw26_RpcPieces_c18
noncomputable abbrev trellislaw26_RpcPieces_c25 : Code := Code.fst trellislaw26_RpcPieces_c23
noncomputable abbrev trellislaw26_RpcPieces_c26 : Code := Code.fst trellislaw26_RpcPieces_c25
noncomputable abbrev trellislaw26_RpcPieces_c27 : Code := Code.snd trellislaw26_RpcPieces_c25
noncomputable abbrev trellislaw26_RpcPieces_c28 : Code := Code.fst trellislaw26_RpcPieces_c27
noncomputable abbrev trellislaw26_RpcPieces_c29 : Code := Code.fst trellislaw26_RpcPieces_c28
noncomputable abbrev trellislaw26_RpcPieces_c30 : Code := Code.fst trellislaw26_RpcPieces_c29
noncomputable abbrev trellislaw26_RpcPieces_c31 : Code := Code.snd trellislaw26_RpcPieces_c29
noncomputable abbrev trellislaw26_RpcPieces_c32 : Code := Code.fst trellislaw26_RpcPieces_c30
noncomputable abbrev trellislaw26_RpcPieces_c33 : Code := Code.snd trellislaw26_RpcPieces_c30
noncomputable abbrev trellislaw26_RpcPieces_c34 : Code := Code.fst trellislaw26_RpcPieces_c33
noncomputable abbrev trellislaw26_RpcPieces_c35 : Code := Code.snd trellislaw26_RpcPieces_c33
noncomputable abbrev trellislaw26_RpcPieces_c36 : Code := Code.fst trellislaw26_RpcPieces_c31
noncomputable abbrev trellislaw26_RpcPieces_c37 : Code := Code.snd trellislaw26_RpcPieces_c31
noncomputable abbrev trellislaw26_RpcPieces_c38 : Code := Code.fst trellislaw26_RpcPieces_c36
noncomputable abbrev trellislaw26_RpcPieces_c39 : Code := Code.fst trellislaw26_RpcPieces_c12
noncomputable abbrev trellislaw26_RpcPieces_c40 : Code := Code.snd trellislaw26_RpcPieces_c12
noncomputable abbrev trellislaw26_RpcPieces_c41 : Code := Code.fst trellislaw26_RpcPieces_c40
noncomputable abbrev trellislaw26_RpcPieces_c42 : Code := Code.snd trellislaw26_RpcPieces_c40
noncomputable abbrev trellislaw26_RpcPieces_c43 : Code := Code.fst trellislaw26_RpcPieces_c42
noncomputable abbrev trellislaw26_RpcPieces_c44 : Code := Code.snd trellislaw26_RpcPieces_c42
noncomputable abbrev trellislaw26_RpcPieces_c45 : Code := Code.fst trellislaw26_RpcPieces_c7
noncomputable abbrev trellislaw26_RpcPieces_c46 : Code := Code.snd trellislaw26_RpcPieces_c7
abbrev trellislaw26_RpcPieces_R (w : World) (F : Nat → Prop) (r : Bool) : Ending → World → Prop := fun e w' => e = .returned (.bool r) ∧ B.Loc w w' [] [St w []]
noncomputable abbrev trellislaw26_RpcPieces_C (w : World) (F : Nat → Prop) (r : Bool) : Cx := ⟨Tryd.prog, 6, Tryd.f6, 80, trellislaw26_RpcPieces_R w F  r, w⟩
theorem trellislaw26_RpcPieces_calls (w : World) (F : Nat → Prop) (x1 : List (List Int)) (A2 : Option Addr) (n3 : Nat) (c4 : Nat) (h5 : Rw (Kd.slice (kInt .u8)) w (St w []).av A2 n3 c4 x1) (hG : Tb Tryd.prog (St w [])) (hF : ∀ b, F b → b < w.heap.size ∧ ∀ o ∈ ([] : List (List Nat)), b ∉ o) (hL0 : B.Loc w w [] [Sm w.heap.size F w [], St w []]) (r : Bool) (h : trellislaw26_RpcPieces x1 r) : Calls Tryd.prog 6 #[.slice A2 n3 c4] w (trellislaw26_RpcPieces_R w F  r) := by
  unfold trellislaw26_RpcPieces at h
  refine calls_of_Loc (vs := [.slice A2 n3 c4]) 80 Tryd.func6 rfl Tryd.ntmps6 rfl hL0 ?_
  show G (trellislaw26_RpcPieces_C w F r) _ _ _ _
  refine g_seq (c := trellislaw26_RpcPieces_c0) rfl ?_
  refine g_region (c := trellislaw26_RpcPieces_c1) rfl rfl ?_
  refine wl_v 0 rfl (v_assign rfl) gn rfl ?_
  refine w_end 1 rfl ?_
  refine g_seq (c := trellislaw26_RpcPieces_c2) rfl ?_
  refine g_seq (c := trellislaw26_RpcPieces_c3) rfl ?_
  refine g_region (c := trellislaw26_RpcPieces_c5) rfl rfl ?_
  obtain ⟨r9, hv10, h⟩ := h
  refine wl_s 0 rfl (s_call [] rfl Tryd.func15 rfl rfl rfl fun w6 hL7 => ?_) gn
  have hp8 : List.Perm ([] : List Ent) (([] : List Ent) ++ ([] : List Ent)) := perm_of_idx [] [] rfl rfl (by kernel_rfl)
  refine Calls.mono (trellislaw26_started_calls w6 (Fl ([] : List Snap)) (hL7.tb hp8 hG (me 1 rfl)) (hL7.hFl (Sl := ([] : List Snap)) hp8 (sels [] rfl)) (hL7.into hp8 (Fl ([] : List Snap))) r9 hv10) ?_
  rintro _ w11 ⟨rfl, hM12⟩
  have hL13 := hL7.call hp8 hM12
  refine ⟨_, _, _, rfl, hL13, ?_⟩
  refine wl_v 1 rfl (v_not rfl) gn rfl ?_
  refine w_end 2 rfl ?_
  by_cases hp14 : r9 = true
  · have h := if_pos' hp14 h
    refine g_false (c := trellislaw26_RpcPieces_c6) rfl _ rfl ((nf hp14)) ?_
    refine g_skip (c := trellislaw26_RpcPieces_c8) rfl ?_
    refine g_seq (c := trellislaw26_RpcPieces_c4) rfl ?_
    refine g_region (c := trellislaw26_RpcPieces_c9) rfl rfl ?_
    refine wl_v 0 rfl (v_assign rfl) gn rfl ?_
    refine w_end 1 rfl ?_
    refine g_seq (c := trellislaw26_RpcPieces_c10) rfl ?_
    refine g_seq (c := trellislaw26_RpcPieces_c11) rfl ?_
    refine g_region (c := trellislaw26_RpcPieces_c13) rfl rfl ?_
    refine wl_v 0 rfl (v_assign rfl) gn rfl ?_
    refine w_end 1 rfl ?_
    refine g_block (c := trellislaw26_RpcPieces_c14) rfl ?_
    refine g_loop (c := trellislaw26_RpcPieces_c15) rfl ?_
    have key1 : ∀ s, Rounds (fun (s : (List Int) × Int) o => trellislaw26_RpcPieces_b1 x1 s.1 s.2 o) s r → (fun (s : (List Int) × Int) => ∀ (A150 : Option Addr) (n151 : Nat) (c152 : Nat) (h153 : Ow w.heap.size A150 n151 c152 s.1), G (trellislaw26_RpcPieces_C w F r) [.code trellislaw26_RpcPieces_c16, .inLoop trellislaw26_RpcPieces_c16, .inBlock 0, .code trellislaw26_RpcPieces_c12] [(0, .slice A2 n3 c4), (3, .slice A150 n151 c152), (4, .int .i64 s.2)] [.own (.slice A150 n151 c152) 5 1 n151 (s.1.flatMap (eI .u8))] [Sm w.heap.size F w [], St w []]) s := by
      intro s hs
      refine Rounds.ind (mot := (fun (s : (List Int) × Int) => ∀ (A150 : Option Addr) (n151 : Nat) (c152 : Nat) (h153 : Ow w.heap.size A150 n151 c152 s.1), G (trellislaw26_RpcPieces_C w F r) [.code trellislaw26_RpcPieces_c16, .inLoop trellislaw26_RpcPieces_c16, .inBlock 0, .code trellislaw26_RpcPieces_c12] [(0, .slice A2 n3 c4), (3, .slice A150 n151 c152), (4, .int .i64 s.2)] [.own (.slice A150 n151 c152) 5 1 n151 (s.1.flatMap (eI .u8))] [Sm w.heap.size F w [], St w []])) ?_ hs
      clear hs s
      intro s o1 h hO1
      obtain ⟨x149, x154⟩ := s
      show ∀ (A150 : Option Addr) (n151 : Nat) (c152 : Nat) (h153 : Ow w.heap.size A150 n151 c152 x149), G (trellislaw26_RpcPieces_C w F r) [.code trellislaw26_RpcPieces_c16, .inLoop trellislaw26_RpcPieces_c16, .inBlock 0, .code trellislaw26_RpcPieces_c12] [(0, .slice A2 n3 c4), (3, .slice A150 n151 c152), (4, .int .i64 x154)] [.own (.slice A150 n151 c152) 5 1 n151 (x149.flatMap (eI .u8))] [Sm w.heap.size F w [], St w []]
      intro A150 n151 c152 h153
      have h : trellislaw26_RpcPieces_b1 x1 x149 x154 o1 := h
      unfold trellislaw26_RpcPieces_b1 at h
      refine g_seq (c := trellislaw26_RpcPieces_c16) rfl ?_
      refine g_seq (c := trellislaw26_RpcPieces_c17) rfl ?_
      refine g_region (c := trellislaw26_RpcPieces_c19) rfl rfl ?_
      refine wl_v 0 rfl (v_move rfl) gn rfl ?_
      refine wl_v 1 rfl (v_move rfl) gn rfl ?_
      refine wl_v 2 rfl (v_lenQ un_34 rfl h5.hq) gn rfl ?_
      refine wl_v 3 rfl (v_bin rfl rfl rfl) gn rfl ?_
      refine w_end 4 rfl ?_
      by_cases hp290 : x154 < (x1.length : Int)
      · have h := if_pos' hp290 h
        refine g_true (c := trellislaw26_RpcPieces_c20) rfl _ rfl ((decide_eq_true hp290)) ?_
        refine g_skip (c := trellislaw26_RpcPieces_c21) rfl ?_
        refine g_seq (c := trellislaw26_RpcPieces_c18) rfl ?_
        refine g_block (c := trellislaw26_RpcPieces_c23) rfl ?_
        refine g_seq (c := trellislaw26_RpcPieces_c25) rfl ?_
        refine g_region (c := trellislaw26_RpcPieces_c26) rfl rfl ?_
        refine wl_v 0 rfl (v_assign rfl) gn rfl ?_
        refine w_end 1 rfl ?_
        refine g_block (c := trellislaw26_RpcPieces_c27) rfl ?_
        refine g_loop (c := trellislaw26_RpcPieces_c28) rfl ?_
        have key2 : ∀ s, Rounds (fun (s : (List Int) × Int) o => trellislaw26_RpcPieces_b2 x154 x1 s.1 s.2 o) s o1 → (fun (s : (List Int) × Int) => ∀ (A320 : Option Addr) (n321 : Nat) (c322 : Nat) (h323 : Ow w.heap.size A320 n321 c322 s.1), G (trellislaw26_RpcPieces_C w F r) [.code trellislaw26_RpcPieces_c29, .inLoop trellislaw26_RpcPieces_c29, .inBlock 2, .inBlock 1, .code trellislaw26_RpcPieces_c24, .inLoop trellislaw26_RpcPieces_c16, .inBlock 0, .code trellislaw26_RpcPieces_c12] [(0, .slice A2 n3 c4), (3, .slice A320 n321 c322), (4, .int .i64 x154), (5, .int .i64 s.2)] [.own (.slice A320 n321 c322) 5 1 n321 (s.1.flatMap (eI .u8))] [Sm w.heap.size F w [], St w []]) s := by
          intro s hs
          refine Rounds.ind (mot := (fun (s : (List Int) × Int) => ∀ (A320 : Option Addr) (n321 : Nat) (c322 : Nat) (h323 : Ow w.heap.size A320 n321 c322 s.1), G (trellislaw26_RpcPieces_C w F r) [.code trellislaw26_RpcPieces_c29, .inLoop trellislaw26_RpcPieces_c29, .inBlock 2, .inBlock 1, .code trellislaw26_RpcPieces_c24, .inLoop trellislaw26_RpcPieces_c16, .inBlock 0, .code trellislaw26_RpcPieces_c12] [(0, .slice A2 n3 c4), (3, .slice A320 n321 c322), (4, .int .i64 x154), (5, .int .i64 s.2)] [.own (.slice A320 n321 c322) 5 1 n321 (s.1.flatMap (eI .u8))] [Sm w.heap.size F w [], St w []])) ?_ hs
          clear hs s
          intro s o2 h hO2
          obtain ⟨x319, x324⟩ := s
          show ∀ (A320 : Option Addr) (n321 : Nat) (c322 : Nat) (h323 : Ow w.heap.size A320 n321 c322 x319), G (trellislaw26_RpcPieces_C w F r) [.code trellislaw26_RpcPieces_c29, .inLoop trellislaw26_RpcPieces_c29, .inBlock 2, .inBlock 1, .code trellislaw26_RpcPieces_c24, .inLoop trellislaw26_RpcPieces_c16, .inBlock 0, .code trellislaw26_RpcPieces_c12] [(0, .slice A2 n3 c4), (3, .slice A320 n321 c322), (4, .int .i64 x154), (5, .int .i64 x324)] [.own (.slice A320 n321 c322) 5 1 n321 (x319.flatMap (eI .u8))] [Sm w.heap.size F w [], St w []]
          intro A320 n321 c322 h323
          have h : trellislaw26_RpcPieces_b2 x154 x1 x319 x324 o2 := h
          unfold trellislaw26_RpcPieces_b2 at h
          refine g_seq (c := trellislaw26_RpcPieces_c29) rfl ?_
          refine g_seq (c := trellislaw26_RpcPieces_c30) rfl ?_
          refine g_region (c := trellislaw26_RpcPieces_c32) rfl rfl ?_
          refine wl_v 0 rfl (v_move rfl) gn rfl ?_
          refine wl_v 1 rfl (v_move rfl) gn rfl ?_
          refine wl_v 2 rfl (v_move rfl) gn rfl ?_
          obtain ⟨hb352, h⟩ := h
          obtain ⟨ce354, hK355, hr353⟩ := Rw.read (s := St w []) h5 hb352
          obtain ⟨A356, n357, c358, rfl, h359⟩ := hK355
          refine wl_v 3 rfl (v_idxR (s := St w []) slE_34 rfl rfl h5 hb352) gn rfl ?_
          refine wl_v 4 rfl (v_ldA1 (kk := (x154 : Int).toNat * 1) (j := 0) (St w []) ld_22 rfl hr353 rfl (me 1 rfl)) gn rfl ?_
          refine wl_v 5 rfl (v_lenQ un_22 rfl h359.hq) gn rfl ?_
          refine wl_v 6 rfl (v_bin rfl rfl rfl) gn rfl ?_
          refine w_end 7 rfl ?_
          by_cases hp360 : x324 < ((ix x1 x154).length : Int)
          · have h := if_pos' hp360 h
            refine g_true (c := trellislaw26_RpcPieces_c33) rfl _ rfl ((decide_eq_true hp360)) ?_
            refine g_skip (c := trellislaw26_RpcPieces_c34) rfl ?_
            refine g_seq (c := trellislaw26_RpcPieces_c31) rfl ?_
            refine g_block (c := trellislaw26_RpcPieces_c36) rfl ?_
            refine g_region (c := trellislaw26_RpcPieces_c38) rfl rfl ?_
            refine wl_v 0 rfl (v_move rfl) gn rfl ?_
            refine wl_v 1 rfl (v_move rfl) gn rfl ?_
            refine wl_v 2 rfl (v_move rfl) gn rfl ?_
            obtain ⟨ce362, hK363, hr361⟩ := Rw.read (s := St w []) h5 hb352
            obtain ⟨A364, n365, c366, rfl, h367⟩ := hK363
            refine wl_v 3 rfl (v_idxR (s := St w []) slE_34 rfl rfl h5 hb352) gn rfl ?_
            refine wl_v 4 rfl (v_ldA1 (kk := (x154 : Int).toNat * 1) (j := 0) (St w []) ld_22 rfl hr361 rfl (me 1 rfl)) gn rfl ?_
            refine wl_v 5 rfl (v_move rfl) gn rfl ?_
            obtain ⟨hb368, h⟩ := h
            have hr369 := Rw.readF (s := St w []) (hl := (hlI .u8)) (h1 := (hone_int .u8)) h367 hb368
            refine wl_v 6 rfl (v_idxR (s := St w []) slE_22 rfl rfl h367 hb368) gn rfl ?_
            refine wl_v 7 rfl (v_ldA1 (kk := (x324 : Int).toNat * 1) (j := 0) (St w []) ld_5 rfl hr369 rfl (me 1 rfl)) gn rfl ?_
            refine wl_s 8 rfl (s_litO (xs := ([ix (ix x1 x154) x324] : List Int)) [.int .u8 (ix (ix x1 x154) x324)] bs_22_1 rfl (by kernel_rfl) rfl rfl rfl rfl fun gb371 h372 => ?_) gn
            obtain ⟨x376, hv377, h⟩ := h
            obtain ⟨hb378, h⟩ := h
            refine wl_s 9 rfl (s_app (zs := x376) (cells' := x376.flatMap (eI .u8)) 1 ap_22 rfl rfl rfl h323 (Nat.le_refl _) (Src.ownF (hl := (hlI .u8)) (h1 := (hone_int .u8)) 0 rfl h372) (by rw [hv377, List.flatMap_append] <;> rfl) (app_len hv377 h372.hq) hb378 rfl rfl fun A373 c374 h375 => ?_) gn
            refine wl_v 10 rfl (v_assign rfl) gn rfl ?_
            refine w_end 11 rfl ?_
            refine g_inBlock ?_
            refine g_region (c := trellislaw26_RpcPieces_c37) rfl rfl ?_
            refine wl_v 0 rfl (v_move rfl) gn rfl ?_
            refine wl_v 1 rfl (v_bin rfl rfl rfl) gn rfl ?_
            refine wl_v 2 rfl (v_assign rfl) gn rfl ?_
            refine w_end 3 rfl ?_
            refine g_inLoop ?_
            have ih := Out.inl hO2 h
            exact g_go [0, 1] (ih A373 (n321 + 1) c374 h375) ⟨rfl, rfl, rfl, rfl, trivial⟩ (.cons _ (.cons_cons _ (.slnil))) rfl
          · have h := if_neg' hp360 h
            refine g_false (c := trellislaw26_RpcPieces_c33) rfl _ rfl ((decide_eq_false hp360)) ?_
            refine g_exit (c := trellislaw26_RpcPieces_c35) [.inBlock 1, .code trellislaw26_RpcPieces_c24, .inLoop trellislaw26_RpcPieces_c16, .inBlock 0, .code trellislaw26_RpcPieces_c12] rfl rfl ?_
            refine g_inBlock ?_
            refine g_region (c := trellislaw26_RpcPieces_c24) rfl rfl ?_
            refine wl_v 0 rfl (v_move rfl) gn rfl ?_
            refine wl_v 1 rfl (v_bin rfl rfl rfl) gn rfl ?_
            refine wl_v 2 rfl (v_assign rfl) gn rfl ?_
            refine w_end 3 rfl ?_
            refine g_inLoop ?_
            have h := Out.inr hO2 h
            have ih := Out.inl hO1 h
            exact g_go [0, 1] (ih A320 n321 c322 h323) ⟨rfl, rfl, rfl, trivial⟩ (.cons_cons _ (.slnil)) rfl
        exact g_go [0, 1] (key2 _ h A150 n151 c152 h153) ⟨rfl, rfl, rfl, rfl, trivial⟩ (.cons_cons _ (.slnil)) rfl
      · have h := if_neg' hp290 h
        refine g_false (c := trellislaw26_RpcPieces_c20) rfl _ rfl ((decide_eq_false hp290)) ?_
        refine g_exit (c := trellislaw26_RpcPieces_c22) [.code trellislaw26_RpcPieces_c12] rfl rfl ?_
        refine g_seq (c := trellislaw26_RpcPieces_c12) rfl ?_
        refine g_region (c := trellislaw26_RpcPieces_c39) rfl rfl ?_
        refine wl_v 0 rfl (v_move rfl) gn rfl ?_
        obtain ⟨r382, hv383, h⟩ := h
        refine wl_s 1 rfl (s_call [.slice A2 n3 c4] rfl Tryd.func16 rfl rfl rfl fun w379 hL380 => ?_) gn
        have hp381 : List.Perm ([.own (.slice A150 n151 c152) 5 1 n151 (x149.flatMap (eI .u8))] : List Ent) (([] : List Ent) ++ ([.own (.slice A150 n151 c152) 5 1 n151 (x149.flatMap (eI .u8))] : List Ent)) := perm_of_idx [] [0] rfl rfl (by kernel_rfl)
        refine Calls.mono (trellislaw26_feed_calls w379 (Fl ([] : List Snap)) x1 A2 n3 c4 (Rw.mono h5 (hL380.toSt hp381 (me 1 rfl))) (hL380.hFl (Sl := ([] : List Snap)) hp381 (sels [] rfl)) (hL380.into hp381 (Fl ([] : List Snap))) r382 hv383) ?_
        rintro _ w389 ⟨A384, n385, c386, rfl, hM390, h387⟩
        have hL391 := hL380.call hp381 hM390
        refine ⟨_, _, _, rfl, hL391, ?_⟩
        refine wl_v 2 rfl (v_move rfl) gn rfl ?_
        refine wl_v 3 rfl (v_extract rfl rfl) gn rfl ?_
        refine wl_v 4 rfl (v_extract rfl rfl) gn rfl ?_
        refine wl_v 5 rfl (v_extract rfl rfl) gn rfl ?_
        refine wl_v 6 rfl (v_extract rfl rfl) gn rfl ?_
        refine wl_v 7 rfl (v_assign rfl) gn rfl ?_
        refine wl_v 8 rfl (v_assign rfl) gn rfl ?_
        refine wl_v 9 rfl (v_assign rfl) gn rfl ?_
        refine wl_v 10 rfl (v_assign rfl) gn rfl ?_
        refine w_end 11 rfl ?_
        refine g_seq (c := trellislaw26_RpcPieces_c40) rfl ?_
        refine g_region (c := trellislaw26_RpcPieces_c41) rfl rfl ?_
        refine wl_v 0 rfl (v_move rfl) gn rfl ?_
        refine w_freeze (F := F) (dk := (kInt .u8)) (Sm w.heap.size F w []) 1 rfl h153 (me 0 rfl) Sm.ok (Cells.flat _) fun sw393 sb394 h392 => ?_
        have hC396 : Cells (Kd.slice (kInt .u8)) (Sm w.heap.size F sw393 sb394).w (Sm w.heap.size F sw393 sb394).av ([x149] : List (List Int)) [.slice A150 n151 c152] := (Cells.cons (c1 := [.slice A150 n151 c152]) ⟨A150, n151, c152, rfl, h392⟩ Cells.nil)
        refine wl_s 1 rfl (s_litO (xs := ([x149] : List (List Int))) [.slice A150 n151 c152] bs_34_1 rfl (by kernel_rfl) rfl rfl rfl rfl fun gb397 h398 => ?_) gn
        obtain ⟨r402, hv403, h⟩ := h
        refine wl_s 2 rfl (s_call [.slice (some ⟨gb397, 0, none⟩) 1 1] rfl Tryd.func16 rfl rfl rfl fun w399 hL400 => ?_) gn
        have hp401 : List.Perm ([.own (.slice (some ⟨gb397, 0, none⟩) 1 1) 22 1 1 [.slice A150 n151 c152], .own (.slice A384 n385 c386) 9 1 n385 (r382.1.flatMap eS)] : List Ent) (([] : List Ent) ++ ([.own (.slice (some ⟨gb397, 0, none⟩) 1 1) 22 1 1 [.slice A150 n151 c152], .own (.slice A384 n385 c386) 9 1 n385 (r382.1.flatMap eS)] : List Ent)) := perm_of_idx [] [0, 1] rfl rfl (by kernel_rfl)
        refine Calls.mono (trellislaw26_feed_calls w399 (Fl ([] : List Snap)) ([x149] : List (List Int)) (some ⟨gb397, 0, none⟩) 1 1 (hL400.argO (dk := (Kd.slice (kInt .u8))) hp401 [] rfl 0 rfl rfl h398 (me 0 rfl) hC396) (hL400.hFl (Sl := ([] : List Snap)) hp401 (sels [] rfl)) (hL400.into hp401 (Fl ([] : List Snap))) r402 hv403) ?_
        rintro _ w409 ⟨A404, n405, c406, rfl, hM410, h407⟩
        have hL411 := hL400.call hp401 hM410
        refine ⟨_, _, _, rfl, hL411, ?_⟩
        refine wl_v 3 rfl (v_move rfl) gn rfl ?_
        refine wl_v 4 rfl (v_extract rfl rfl) gn rfl ?_
        refine wl_v 5 rfl (v_extract rfl rfl) gn rfl ?_
        refine wl_v 6 rfl (v_extract rfl rfl) gn rfl ?_
        refine wl_v 7 rfl (v_extract rfl rfl) gn rfl ?_
        refine wl_v 8 rfl (v_assign rfl) gn rfl ?_
        refine wl_v 9 rfl (v_assign rfl) gn rfl ?_
        refine wl_v 10 rfl (v_assign rfl) gn rfl ?_
        refine wl_v 11 rfl (v_assign rfl) gn rfl ?_
        refine w_end 12 rfl ?_
        refine g_seq (c := trellislaw26_RpcPieces_c42) rfl ?_
        refine g_region (c := trellislaw26_RpcPieces_c43) rfl rfl ?_
        refine wl_v 0 rfl (v_move rfl) gn rfl ?_
        refine wl_v 1 rfl (v_move rfl) gn rfl ?_
        by_cases hp412 : r382.2.2.2 = true
        · have h := if_pos' hp412 h
          refine w_bool 57 rfl (hp412) ?_
          refine wl_v 2 rfl (v_move rfl) (gy 57 rfl rfl) rfl ?_
          refine wl_v 3 rfl (v_pick (b := true) rfl rfl) gn rfl ?_
          refine wl_v 4 rfl (v_move rfl) gn rfl ?_
          by_cases hp413 : r402.2.2.2 = true
          · have h := if_pos' hp413 h
            refine w_bool 60 rfl (hp413) ?_
            refine wl_v 5 rfl (v_move rfl) (gy 60 rfl rfl) rfl ?_
            refine wl_v 6 rfl (v_move rfl) (gy 60 rfl rfl) rfl ?_
            obtain ⟨r417, hv418, h⟩ := h
            refine wl_s 7 rfl (s_call [.slice A384 n385 c386, .slice A404 n405 c406] rfl Tryd.func17 rfl rfl rfl fun w414 hL415 => ?_) (gy 60 rfl rfl)
            have hp416 : List.Perm ([.own (.slice A404 n405 c406) 9 1 n405 (r402.1.flatMap eS), .own (.slice (some ⟨gb397, 0, none⟩) 1 1) 22 1 1 [.slice A150 n151 c152], .own (.slice A384 n385 c386) 9 1 n385 (r382.1.flatMap eS)] : List Ent) (([] : List Ent) ++ ([.own (.slice A404 n405 c406) 9 1 n405 (r402.1.flatMap eS), .own (.slice (some ⟨gb397, 0, none⟩) 1 1) 22 1 1 [.slice A150 n151 c152], .own (.slice A384 n385 c386) 9 1 n385 (r382.1.flatMap eS)] : List Ent)) := perm_of_idx [] [0, 1, 2] rfl rfl (by kernel_rfl)
            refine Calls.mono (trellislaw26_sameTexts_calls w414 (Fl ([] : List Snap)) r382.1 r402.1 A384 n385 c386 A404 n405 c406 (hL415.argO (dk := kStr) hp416 [] rfl 2 rfl rfl (Ow.weak hL380.env.size h387) (me 1 rfl) (Cells.flat _)) (hL415.argO (dk := kStr) hp416 [] rfl 0 rfl rfl (Ow.weak hL400.env.size h407) (me 1 rfl) (Cells.flat _)) (hL415.hFl (Sl := ([] : List Snap)) hp416 (sels [] rfl)) (hL415.into hp416 (Fl ([] : List Snap))) r417 hv418) ?_
            rintro _ w419 ⟨rfl, hM420⟩
            have hL421 := hL415.call hp416 hM420
            refine ⟨_, _, _, rfl, hL421, ?_⟩
            refine wl_v 8 rfl (v_pick (b := true) rfl rfl) gn rfl ?_
            refine wl_v 9 rfl (v_move rfl) gn rfl ?_
            by_cases hp422 : r417 = true
            · have h := if_pos' hp422 h
              refine w_bool 65 rfl (hp422) ?_
              refine wl_v 10 rfl (v_move rfl) (gy 65 rfl rfl) rfl ?_
              refine wl_v 11 rfl (v_move rfl) (gy 65 rfl rfl) rfl ?_
              refine wl_v 12 rfl (v_bin rfl rfl rfl) (gy 65 rfl rfl) rfl ?_
              refine wl_v 13 rfl (v_pick (b := true) rfl rfl) gn rfl ?_
              refine wl_v 14 rfl (v_move rfl) gn rfl ?_
              by_cases hp423 : r382.2.2.1 = r402.2.2.1
              · have h := if_pos' hp423 h
                refine w_bool 70 rfl ((eqi hp423)) ?_
                refine wl_v 15 rfl (v_move rfl) (gy 70 rfl rfl) rfl ?_
                refine wl_v 16 rfl (v_move rfl) (gy 70 rfl rfl) rfl ?_
                refine wl_v 17 rfl (v_bin rfl rfl rfl) (gy 70 rfl rfl) rfl ?_
                refine wl_v 18 rfl (v_move rfl) (gy 70 rfl rfl) rfl ?_
                by_cases hp424 : r382.2.1 = r402.2.1
                · have h := if_pos' hp424 h
                  refine w_bool 74 rfl ((eqi hp424)) ?_
                  refine wl_pass 19 rfl (ps 74 rfl rfl rfl) ?_
                  refine wl_pass 20 rfl (ps 74 rfl rfl rfl) ?_
                  refine wl_pass 21 rfl (ps 74 rfl rfl rfl) ?_
                  refine wl_v 22 rfl (v_pick (b := true) rfl rfl) (gy 70 rfl rfl) rfl ?_
                  refine wl_v 23 rfl (v_pick (b := true) rfl rfl) gn rfl ?_
                  refine wl_v 24 rfl (v_assign rfl) gn rfl ?_
                  refine w_end 25 rfl ?_
                  have h := Out.inr hO1 h
                  refine g_retR (c := trellislaw26_RpcPieces_c44) [.bool true] rfl Tryd.func6 rfl (.tmp rfl (.nil)) fun wr hLr => ?_
                  have hMr : B.Loc w wr [] [St w []] := hLr.pick (rest := [.own (.slice A404 n405 c406) 9 1 n405 (r402.1.flatMap eS), .own (.slice (some ⟨gb397, 0, none⟩) 1 1) 22 1 1 [.slice A150 n151 c152], .own (.slice A384 n385 c386) 9 1 n385 (r382.1.flatMap eS)]) (perm_of_idx [] [0, 1, 2] rfl rfl (by kernel_rfl)) (sels [2] rfl)
                  have hMi : ∀ e ∈ ([] : List Ent), e ∈ ([.own (.slice A404 n405 c406) 9 1 n405 (r402.1.flatMap eS), .own (.slice (some ⟨gb397, 0, none⟩) 1 1) 22 1 1 [.slice A150 n151 c152], .own (.slice A384 n385 c386) 9 1 n385 (r382.1.flatMap eS)] : List Ent) := sels [] rfl
                  show trellislaw26_RpcPieces_R w F  r (.returned (packV [.bool true])) wr
                  rw [h]
                  exact ⟨rfl, hMr⟩
                · have h := if_neg' hp424 h
                  refine w_bool 74 rfl ((nei hp424)) ?_
                  refine wl_v 19 rfl (v_move rfl) (gy 74 rfl rfl) rfl ?_
                  refine wl_v 20 rfl (v_lenQ un_34 rfl h5.hq) (gy 74 rfl rfl) rfl ?_
                  refine wl_v 21 rfl (v_bin rfl rfl rfl) (gy 74 rfl rfl) rfl ?_
                  refine wl_v 22 rfl (v_pick (b := false) rfl rfl) (gy 70 rfl rfl) rfl ?_
                  refine wl_v 23 rfl (v_pick (b := true) rfl rfl) gn rfl ?_
                  refine wl_v 24 rfl (v_assign rfl) gn rfl ?_
                  refine w_end 25 rfl ?_
                  have h := Out.inr hO1 h
                  refine g_retR (c := trellislaw26_RpcPieces_c44) [.bool ((x1.length : Int) == 0)] rfl Tryd.func6 rfl (.tmp rfl (.nil)) fun wr hLr => ?_
                  have hMr : B.Loc w wr [] [St w []] := hLr.pick (rest := [.own (.slice A404 n405 c406) 9 1 n405 (r402.1.flatMap eS), .own (.slice (some ⟨gb397, 0, none⟩) 1 1) 22 1 1 [.slice A150 n151 c152], .own (.slice A384 n385 c386) 9 1 n385 (r382.1.flatMap eS)]) (perm_of_idx [] [0, 1, 2] rfl rfl (by kernel_rfl)) (sels [2] rfl)
                  have hMi : ∀ e ∈ ([] : List Ent), e ∈ ([.own (.slice A404 n405 c406) 9 1 n405 (r402.1.flatMap eS), .own (.slice (some ⟨gb397, 0, none⟩) 1 1) 22 1 1 [.slice A150 n151 c152], .own (.slice A384 n385 c386) 9 1 n385 (r382.1.flatMap eS)] : List Ent) := sels [] rfl
                  show trellislaw26_RpcPieces_R w F  r (.returned (packV [.bool ((x1.length : Int) == 0)])) wr
                  rw [h]
                  exact ⟨rfl, hMr⟩
              · have h := if_neg' hp423 h
                refine w_bool 70 rfl ((nei hp423)) ?_
                refine wl_pass 15 rfl (ps 70 rfl rfl rfl) ?_
                refine wl_pass 16 rfl (ps 70 rfl rfl rfl) ?_
                refine wl_pass 17 rfl (ps 70 rfl rfl rfl) ?_
                refine wl_pass 18 rfl (ps 70 rfl rfl rfl) ?_
                refine wl_pass 19 rfl (pu 74 rfl rfl) ?_
                refine wl_pass 20 rfl (pu 74 rfl rfl) ?_
                refine wl_pass 21 rfl (pu 74 rfl rfl) ?_
                refine wl_pass 22 rfl (ps 70 rfl rfl rfl) ?_
                refine wl_v 23 rfl (v_pick (b := false) rfl rfl) gn rfl ?_
                refine wl_v 24 rfl (v_assign rfl) gn rfl ?_
                refine w_end 25 rfl ?_
                have h := Out.inr hO1 h
                refine g_retR (c := trellislaw26_RpcPieces_c44) [.bool false] rfl Tryd.func6 rfl (.tmp rfl (.nil)) fun wr hLr => ?_
                have hMr : B.Loc w wr [] [St w []] := hLr.pick (rest := [.own (.slice A404 n405 c406) 9 1 n405 (r402.1.flatMap eS), .own (.slice (some ⟨gb397, 0, none⟩) 1 1) 22 1 1 [.slice A150 n151 c152], .own (.slice A384 n385 c386) 9 1 n385 (r382.1.flatMap eS)]) (perm_of_idx [] [0, 1, 2] rfl rfl (by kernel_rfl)) (sels [2] rfl)
                have hMi : ∀ e ∈ ([] : List Ent), e ∈ ([.own (.slice A404 n405 c406) 9 1 n405 (r402.1.flatMap eS), .own (.slice (some ⟨gb397, 0, none⟩) 1 1) 22 1 1 [.slice A150 n151 c152], .own (.slice A384 n385 c386) 9 1 n385 (r382.1.flatMap eS)] : List Ent) := sels [] rfl
                show trellislaw26_RpcPieces_R w F  r (.returned (packV [.bool false])) wr
                rw [h]
                exact ⟨rfl, hMr⟩
            · have h := if_neg' hp422 h
              refine w_bool 65 rfl ((bf hp422)) ?_
              refine wl_pass 10 rfl (ps 65 rfl rfl rfl) ?_
              refine wl_pass 11 rfl (ps 65 rfl rfl rfl) ?_
              refine wl_pass 12 rfl (ps 65 rfl rfl rfl) ?_
              refine wl_v 13 rfl (v_pick (b := false) rfl rfl) gn rfl ?_
              refine wl_v 14 rfl (v_move rfl) gn rfl ?_
              refine wl_pass 15 rfl (ps 70 rfl rfl rfl) ?_
              refine wl_pass 16 rfl (ps 70 rfl rfl rfl) ?_
              refine wl_pass 17 rfl (ps 70 rfl rfl rfl) ?_
              refine wl_pass 18 rfl (ps 70 rfl rfl rfl) ?_
              refine wl_pass 19 rfl (pu 74 rfl rfl) ?_
              refine wl_pass 20 rfl (pu 74 rfl rfl) ?_
              refine wl_pass 21 rfl (pu 74 rfl rfl) ?_
              refine wl_pass 22 rfl (ps 70 rfl rfl rfl) ?_
              refine wl_v 23 rfl (v_pick (b := false) rfl rfl) gn rfl ?_
              refine wl_v 24 rfl (v_assign rfl) gn rfl ?_
              refine w_end 25 rfl ?_
              have h := Out.inr hO1 h
              refine g_retR (c := trellislaw26_RpcPieces_c44) [.bool false] rfl Tryd.func6 rfl (.tmp rfl (.nil)) fun wr hLr => ?_
              have hMr : B.Loc w wr [] [St w []] := hLr.pick (rest := [.own (.slice A404 n405 c406) 9 1 n405 (r402.1.flatMap eS), .own (.slice (some ⟨gb397, 0, none⟩) 1 1) 22 1 1 [.slice A150 n151 c152], .own (.slice A384 n385 c386) 9 1 n385 (r382.1.flatMap eS)]) (perm_of_idx [] [0, 1, 2] rfl rfl (by kernel_rfl)) (sels [2] rfl)
              have hMi : ∀ e ∈ ([] : List Ent), e ∈ ([.own (.slice A404 n405 c406) 9 1 n405 (r402.1.flatMap eS), .own (.slice (some ⟨gb397, 0, none⟩) 1 1) 22 1 1 [.slice A150 n151 c152], .own (.slice A384 n385 c386) 9 1 n385 (r382.1.flatMap eS)] : List Ent) := sels [] rfl
              show trellislaw26_RpcPieces_R w F  r (.returned (packV [.bool false])) wr
              rw [h]
              exact ⟨rfl, hMr⟩
          · have h := if_neg' hp413 h
            refine w_bool 60 rfl ((bf hp413)) ?_
            refine wl_pass 5 rfl (ps 60 rfl rfl rfl) ?_
            refine wl_pass 6 rfl (ps 60 rfl rfl rfl) ?_
            refine wl_pass 7 rfl (ps 60 rfl rfl rfl) ?_
            refine wl_v 8 rfl (v_pick (b := false) rfl rfl) gn rfl ?_
            refine wl_v 9 rfl (v_move rfl) gn rfl ?_
            refine wl_pass 10 rfl (ps 65 rfl rfl rfl) ?_
            refine wl_pass 11 rfl (ps 65 rfl rfl rfl) ?_
            refine wl_pass 12 rfl (ps 65 rfl rfl rfl) ?_
            refine wl_v 13 rfl (v_pick (b := false) rfl rfl) gn rfl ?_
            refine wl_v 14 rfl (v_move rfl) gn rfl ?_
            refine wl_pass 15 rfl (ps 70 rfl rfl rfl) ?_
            refine wl_pass 16 rfl (ps 70 rfl rfl rfl) ?_
            refine wl_pass 17 rfl (ps 70 rfl rfl rfl) ?_
            refine wl_pass 18 rfl (ps 70 rfl rfl rfl) ?_
            refine wl_pass 19 rfl (pu 74 rfl rfl) ?_
            refine wl_pass 20 rfl (pu 74 rfl rfl) ?_
            refine wl_pass 21 rfl (pu 74 rfl rfl) ?_
            refine wl_pass 22 rfl (ps 70 rfl rfl rfl) ?_
            refine wl_v 23 rfl (v_pick (b := false) rfl rfl) gn rfl ?_
            refine wl_v 24 rfl (v_assign rfl) gn rfl ?_
            refine w_end 25 rfl ?_
            have h := Out.inr hO1 h
            refine g_retR (c := trellislaw26_RpcPieces_c44) [.bool false] rfl Tryd.func6 rfl (.tmp rfl (.nil)) fun wr hLr => ?_
            have hMr : B.Loc w wr [] [St w []] := hLr.pick (rest := [.own (.slice A404 n405 c406) 9 1 n405 (r402.1.flatMap eS), .own (.slice (some ⟨gb397, 0, none⟩) 1 1) 22 1 1 [.slice A150 n151 c152], .own (.slice A384 n385 c386) 9 1 n385 (r382.1.flatMap eS)]) (perm_of_idx [] [0, 1, 2] rfl rfl (by kernel_rfl)) (sels [2] rfl)
            have hMi : ∀ e ∈ ([] : List Ent), e ∈ ([.own (.slice A404 n405 c406) 9 1 n405 (r402.1.flatMap eS), .own (.slice (some ⟨gb397, 0, none⟩) 1 1) 22 1 1 [.slice A150 n151 c152], .own (.slice A384 n385 c386) 9 1 n385 (r382.1.flatMap eS)] : List Ent) := sels [] rfl
            show trellislaw26_RpcPieces_R w F  r (.returned (packV [.bool false])) wr
            rw [h]
            exact ⟨rfl, hMr⟩
        · have h := if_neg' hp412 h
          refine w_bool 57 rfl ((bf hp412)) ?_
          refine wl_pass 2 rfl (ps 57 rfl rfl rfl) ?_
          refine wl_v 3 rfl (v_pick (b := false) rfl rfl) gn rfl ?_
          refine wl_v 4 rfl (v_move rfl) gn rfl ?_
          refine wl_pass 5 rfl (ps 60 rfl rfl rfl) ?_
          refine wl_pass 6 rfl (ps 60 rfl rfl rfl) ?_
          refine wl_pass 7 rfl (ps 60 rfl rfl rfl) ?_
          refine wl_v 8 rfl (v_pick (b := false) rfl rfl) gn rfl ?_
          refine wl_v 9 rfl (v_move rfl) gn rfl ?_
          refine wl_pass 10 rfl (ps 65 rfl rfl rfl) ?_
          refine wl_pass 11 rfl (ps 65 rfl rfl rfl) ?_
          refine wl_pass 12 rfl (ps 65 rfl rfl rfl) ?_
          refine wl_v 13 rfl (v_pick (b := false) rfl rfl) gn rfl ?_
          refine wl_v 14 rfl (v_move rfl) gn rfl ?_
          refine wl_pass 15 rfl (ps 70 rfl rfl rfl) ?_
          refine wl_pass 16 rfl (ps 70 rfl rfl rfl) ?_
          refine wl_pass 17 rfl (ps 70 rfl rfl rfl) ?_
          refine wl_pass 18 rfl (ps 70 rfl rfl rfl) ?_
          refine wl_pass 19 rfl (pu 74 rfl rfl) ?_
          refine wl_pass 20 rfl (pu 74 rfl rfl) ?_
          refine wl_pass 21 rfl (pu 74 rfl rfl) ?_
          refine wl_pass 22 rfl (ps 70 rfl rfl rfl) ?_
          refine wl_v 23 rfl (v_pick (b := false) rfl rfl) gn rfl ?_
          refine wl_v 24 rfl (v_assign rfl) gn rfl ?_
          refine w_end 25 rfl ?_
          have h := Out.inr hO1 h
          refine g_retR (c := trellislaw26_RpcPieces_c44) [.bool false] rfl Tryd.func6 rfl (.tmp rfl (.nil)) fun wr hLr => ?_
          have hMr : B.Loc w wr [] [St w []] := hLr.pick (rest := [.own (.slice A404 n405 c406) 9 1 n405 (r402.1.flatMap eS), .own (.slice (some ⟨gb397, 0, none⟩) 1 1) 22 1 1 [.slice A150 n151 c152], .own (.slice A384 n385 c386) 9 1 n385 (r382.1.flatMap eS)]) (perm_of_idx [] [0, 1, 2] rfl rfl (by kernel_rfl)) (sels [2] rfl)
          have hMi : ∀ e ∈ ([] : List Ent), e ∈ ([.own (.slice A404 n405 c406) 9 1 n405 (r402.1.flatMap eS), .own (.slice (some ⟨gb397, 0, none⟩) 1 1) 22 1 1 [.slice A150 n151 c152], .own (.slice A384 n385 c386) 9 1 n385 (r382.1.flatMap eS)] : List Ent) := sels [] rfl
          show trellislaw26_RpcPieces_R w F  r (.returned (packV [.bool false])) wr
          rw [h]
          exact ⟨rfl, hMr⟩
    refine g_nil 5 1 ?_
    exact g_go [0, 1] (key1 _ h none 0 0 (Ow.nil (z := w.heap.size))) ⟨rfl, rfl, rfl, trivial⟩ (.cons_cons _ (.slnil)) rfl
  · have h := if_neg' hp14 h
    refine g_true (c := trellislaw26_RpcPieces_c6) rfl _ rfl ((nt (bf hp14))) ?_
    refine g_seq (c := trellislaw26_RpcPieces_c7) rfl ?_
    refine g_region (c := trellislaw26_RpcPieces_c45) rfl rfl ?_
    refine wl_v 0 rfl (v_assign rfl) gn rfl ?_
    refine w_end 1 rfl ?_
    refine g_retR (c := trellislaw26_RpcPieces_c46) [.bool false] rfl Tryd.func6 rfl (.tmp rfl (.nil)) fun wr hLr => ?_
    have hMr : B.Loc w wr [] [St w []] := hLr.pick (rest := []) (perm_of_idx [] [] rfl rfl (by kernel_rfl)) (sels [1] rfl)
    have hMi : ∀ e ∈ ([] : List Ent), e ∈ ([] : List Ent) := sels [] rfl
    show trellislaw26_RpcPieces_R w F  r (.returned (packV [.bool false])) wr
    rw [h]
    exact ⟨rfl, hMr⟩
noncomputable abbrev trellislaw26_RpcCarries_c0 : Code := bodyOf Tryd.f7
noncomputable abbrev trellislaw26_RpcCarries_c1 : Code := Code.fst trellislaw26_RpcCarries_c0
noncomputable abbrev trellislaw26_RpcCarries_c2 : Code := Code.snd trellislaw26_RpcCarries_c0
noncomputable abbrev trellislaw26_RpcCarries_c3 : Code := Code.fst trellislaw26_RpcCarries_c2
noncomputable abbrev trellislaw26_RpcCarries_c4 : Code := Code.snd trellislaw26_RpcCarries_c2
noncomputable abbrev trellislaw26_RpcCarries_c5 : Code := Code.fst trellislaw26_RpcCarries_c3
noncomputable abbrev trellislaw26_RpcCarries_c6 : Code := Code.snd trellislaw26_RpcCarries_c3
noncomputable abbrev trellislaw26_RpcCarries_c7 : Code := Code.fst trellislaw26_RpcCarries_c6
noncomputable abbrev trellislaw26_RpcCarries_c8 : Code := Code.snd trellislaw26_RpcCarries_c6
noncomputable abbrev trellislaw26_RpcCarries_c9 : Code := Code.fst trellislaw26_RpcCarries_c4
noncomputable abbrev trellislaw26_RpcCarries_c10 : Code := Code.snd trellislaw26_RpcCarries_c4
noncomputable abbrev trellislaw26_RpcCarries_c11 : Code := Code.fst trellislaw26_RpcCarries_c10
noncomputable abbrev trellislaw26_RpcCarries_c12 : Code := Code.snd trellislaw26_RpcCarries_c10
noncomputable abbrev trellislaw26_RpcCarries_c13 : Code := Code.fst trellislaw26_RpcCarries_c12
noncomputable abbrev trellislaw26_RpcCarries_c14 : Code := Code.snd trellislaw26_RpcCarries_c12
noncomputable abbrev trellislaw26_RpcCarries_c15 : Code := Code.fst trellislaw26_RpcCarries_c13
noncomputable abbrev trellislaw26_RpcCarries_c16 : Code := Code.snd trellislaw26_RpcCarries_c13
noncomputable abbrev trellislaw26_RpcCarries_c17 : Code := Code.fst trellislaw26_RpcCarries_c16
noncomputable abbrev trellislaw26_RpcCarries_c18 : Code := Code.fst trellislaw26_RpcCarries_c17
noncomputable abbrev trellislaw26_RpcCarries_c19 : Code := Code.fst trellislaw26_RpcCarries_c18
noncomputable abbrev trellislaw26_RpcCarries_c20 : Code := Code.snd trellislaw26_RpcCarries_c18
noncomputable abbrev trellislaw26_RpcCarries_c21 : Code := Code.fst trellislaw26_RpcCarries_c19
noncomputable abbrev trellislaw26_RpcCarries_c22 : Code := Code.snd trellislaw26_RpcCarries_c19
noncomputable abbrev trellislaw26_RpcCarries_c23 : Code := Code.fst trellislaw26_RpcCarries_c22
noncomputable abbrev trellislaw26_RpcCarries_c24 : Code := Code.snd trellislaw26_RpcCarries_c22
noncomputable abbrev trellislaw26_RpcCarries_c25 : Code := Code.fst trellislaw26_RpcCarries_c20
noncomputable abbrev trellislaw26_RpcCarries_c26 : Code := Code.snd trellislaw26_RpcCarries_c20
noncomputable abbrev trellislaw26_RpcCarries_c27 : Code := Code.fst trellislaw26_RpcCarries_c25
noncomputable abbrev trellislaw26_RpcCarries_c28 : Code := Code.fst trellislaw26_RpcCarries_c27
noncomputable abbrev trellislaw26_RpcCarries_c29 : Code := Code.snd trellislaw26_RpcCarries_c27
noncomputable abbrev trellislaw26_RpcCarries_c30 : Code := Code.fst trellislaw26_RpcCarries_c29
noncomputable abbrev trellislaw26_RpcCarries_c31 : Code := Code.snd trellislaw26_RpcCarries_c29
noncomputable abbrev trellislaw26_RpcCarries_c32 : Code := Code.fst trellislaw26_RpcCarries_c30
noncomputable abbrev trellislaw26_RpcCarries_c33 : Code := Code.snd trellislaw26_RpcCarries_c30
noncomputable abbrev trellislaw26_RpcCarries_c34 : Code := Code.fst trellislaw26_RpcCarries_c33
noncomputable abbrev trellislaw26_RpcCarries_c35 : Code := Code.snd trellislaw26_RpcCarries_c33
noncomputable abbrev trellislaw26_RpcCarries_c36 : Code := Code.fst trellislaw26_RpcCarries_c31
noncomputable abbrev trellislaw26_RpcCarries_c37 : Code := Code.snd trellislaw26_RpcCarries_c31
noncomputable abbrev trellislaw26_RpcCarries_c38 : Code := Code.fst trellislaw26_RpcCarries_c36
noncomputable abbrev trellislaw26_RpcCarries_c39 : Code := Code.snd trellislaw26_RpcCarries_c36
noncomputable abbrev trellislaw26_RpcCarries_c40 : Code := Code.fst trellislaw26_RpcCarries_c39
noncomputable abbrev trellislaw26_RpcCarries_c41 : Code := Code.fst trellislaw26_RpcCarries_c40
noncomputable abbrev trellislaw26_RpcCarries_c42 : Code := Code.fst trellislaw26_RpcCarries_c41
noncomputable abbrev trellislaw26_RpcCarries_c43 : Code := Code.snd trellislaw26_RpcCarries_c41
noncomputable abbrev trellislaw26_RpcCarries_c44 : Code := Code.fst trellislaw26_RpcCarries_c42
noncomputable abbrev trellislaw26_RpcCarries_c45 : Code := Code.snd trellislaw26_RpcCarries_c42
noncomputable abbrev trellislaw26_RpcCarries_c46 : Code := Code.fst trellislaw26_RpcCarries_c45
noncomputable abbrev trellislaw26_RpcCarries_c47 : Code := Code.snd trellislaw26_RpcCarries_c45
noncomputable abbrev trellislaw26_RpcCarries_c48 : Code := Code.fst trellislaw26_RpcCarries_c43
noncomputable abbrev trellislaw26_RpcCarries_c49 : Code := Code.snd trellislaw26_RpcCarries_c43
noncomputable abbrev trellislaw26_RpcCarries_c50 : Code := Code.fst trellislaw26_RpcCarries_c48
noncomputable abbrev trellislaw26_RpcCarries_c51 : Code := Code.fst trellislaw26_RpcCarries_c34
noncomputable abbrev trellislaw26_RpcCarries_c52 : Code := Code.snd trellislaw26_RpcCarries_c34
noncomputable abbrev trellislaw26_RpcCarries_c53 : Code := Code.fst trellislaw26_RpcCarries_c14
noncomputable abbrev trellislaw26_RpcCarries_c54 : Code := Code.snd trellislaw26_RpcCarries_c14
noncomputable abbrev trellislaw26_RpcCarries_c55 : Code := Code.fst trellislaw26_RpcCarries_c53
noncomputable abbrev trellislaw26_RpcCarries_c56 : Code := Code.snd trellislaw26_RpcCarries_c53
noncomputable abbrev trellislaw26_RpcCarries_c57 : Code := Code.fst trellislaw26_RpcCarries_c56
noncomputable abbrev trellislaw26_RpcCarries_c58 : Code := Code.snd trellislaw26_RpcCarries_c56
noncomputable abbrev trellislaw26_RpcCarries_c59 : Code := Code.fst trellislaw26_RpcCarries_c54
noncomputable abbrev trellislaw26_RpcCarries_c60 : Code := Code.snd trellislaw26_RpcCarries_c54
noncomputable abbrev trellislaw26_RpcCarries_c61 : Code := Code.fst trellislaw26_RpcCarries_c60
noncomputable abbrev trellislaw26_RpcCarries_c62 : Code := Code.snd trellislaw26_RpcCarries_c60
noncomputable abbrev trellislaw26_RpcCarries_c63 : Code := Code.fst trellislaw26_RpcCarries_c62
noncomputable abbrev trellislaw26_RpcCarries_c64 : Code := Code.snd trellislaw26_RpcCarries_c62
noncomputable abbrev trellislaw26_RpcCarries_c65 : Code := Code.fst trellislaw26_RpcCarries_c63
noncomputable abbrev trellislaw26_RpcCarries_c66 : Code := Code.snd trellislaw26_RpcCarries_c63
noncomputable abbrev trellislaw26_RpcCarries_c67 : Code := Code.fst trellislaw26_RpcCarries_c66
noncomputable abbrev trellislaw26_RpcCarries_c68 : Code := Code.fst trellislaw26_RpcCarries_c67
noncomputable abbrev trellislaw26_RpcCarries_c69 : Code := Code.fst trellislaw26_RpcCarries_c68
noncomputable abbrev trellislaw26_RpcCarries_c70 : Code := Code.snd trellislaw26_RpcCarries_c68
noncomputable abbrev trellislaw26_RpcCarries_c71 : Code := Code.fst trellislaw26_RpcCarries_c69
noncomputable abbrev trellislaw26_RpcCarries_c72 : Code := Code.snd trellislaw26_RpcCarries_c69
noncomputable abbrev trellislaw26_RpcCarries_c73 : Code := Code.fst trellislaw26_RpcCarries_c72
noncomputable abbrev trellislaw26_RpcCarries_c74 : Code := Code.snd trellislaw26_RpcCarries_c72
noncomputable abbrev trellislaw26_RpcCarries_c75 : Code := Code.fst trellislaw26_RpcCarries_c70
noncomputable abbrev trellislaw26_RpcCarries_c76 : Code := Code.snd trellislaw26_RpcCarries_c70
noncomputable abbrev trellislaw26_RpcCarries_c77 : Code := Code.fst trellislaw26_RpcCarries_c75
noncomputable abbrev trellislaw26_RpcCarries_c78 : Code := Code.fst trellislaw26_RpcCarries_c77
noncomputable abbrev trellislaw26_RpcCarries_c79 : Code := Code.snd trellislaw26_RpcCarries_c77
noncomputable abbrev trellislaw26_RpcCarries_c80 : Code := Code.fst trellislaw26_RpcCarries_c79
noncomputable abbrev trellislaw26_RpcCarries_c81 : Code := Code.snd trellislaw26_RpcCarries_c79
noncomputable abbrev trellislaw26_RpcCarries_c82 : Code := Code.fst trellislaw26_RpcCarries_c80
noncomputable abbrev trellislaw26_RpcCarries_c83 : Code := Code.snd trellislaw26_RpcCarries_c80
noncomputable abbrev trellislaw26_RpcCarries_c84 : Code := Code.fst trellislaw26_RpcCarries_c83
noncomputable abbrev trellislaw26_RpcCarries_c85 : Code := Code.snd trellislaw26_RpcCarries_c83
noncomputable abbrev trellislaw26_RpcCarries_c86 : Code := Code.fst trellislaw26_RpcCarries_c81
noncomputable abbrev trellislaw26_RpcCarries_c87 : Code := Code.snd trellislaw26_RpcCarries_c81
noncomputable abbrev trellislaw26_RpcCarries_c88 : Code := Code.fst trellislaw26_RpcCarries_c86
noncomputable abbrev trellislaw26_RpcCarries_c89 : Code := Code.snd trellislaw26_RpcCarries_c86
noncomputable abbrev trellislaw26_RpcCarries_c90 : Code := Code.fst trellislaw26_RpcCarries_c89
noncomputable abbrev trellislaw26_RpcCarries_c91 : Code := Code.snd trellislaw26_RpcCarries_c89
noncomputable abbrev trellislaw26_RpcCarries_c92 : Code := Code.fst trellislaw26_RpcCarries_c87
noncomputable abbrev trellislaw26_RpcCarries_c93 : Code := Code.snd trellislaw26_RpcCarries_c87
noncomputable abbrev trellislaw26_RpcCarries_c94 : Code := Code.fst trellislaw26_RpcCarries_c64
noncomputable abbrev trellislaw26_RpcCarries_c95 : Code := Code.snd trellislaw26_RpcCarries_c64
noncomputable abbrev trellislaw26_RpcCarries_c96 : Code := Code.fst trellislaw26_RpcCarries_c95
noncomputable abbrev trellislaw26_RpcCarries_c97 : Code := Code.snd trellislaw26_RpcCarries_c95
noncomputable abbrev trellislaw26_RpcCarries_c98 : Code := Code.fst trellislaw26_RpcCarries_c97
noncomputable abbrev trellislaw26_RpcCarries_c99 : Code := Code.snd trellislaw26_RpcCarries_c97
noncomputable abbrev trellislaw26_RpcCarries_c100 : Code := Code.fst trellislaw26_RpcCarries_c99
noncomputable abbrev trellislaw26_RpcCarries_c101 : Code := Code.snd trellislaw26_RpcCarries_c99
noncomputable abbrev trellislaw26_RpcCarries_c102 : Code := Code.fst trellislaw26_RpcCarries_c101
noncomputable abbrev trellislaw26_RpcCarries_c103 : Code := Code.snd trellislaw26_RpcCarries_c101
noncomputable abbrev trellislaw26_RpcCarries_c104 : Code := Code.fst trellislaw26_RpcCarries_c102
noncomputable abbrev trellislaw26_RpcCarries_c105 : Code := Code.fst trellislaw26_RpcCarries_c104
noncomputable abbrev trellislaw26_RpcCarries_c106 : Code := Code.fst trellislaw26_RpcCarries_c105
noncomputable abbrev trellislaw26_RpcCarries_c107 : Code := Code.snd trellislaw26_RpcCarries_c105
noncomputable abbrev trellislaw26_RpcCarries_c108 : Code := Code.fst trellislaw26_RpcCarries_c106
noncomputable abbrev trellislaw26_RpcCarries_c109 : Code := Code.snd trellislaw26_RpcCarries_c106
noncomputable abbrev trellislaw26_RpcCarries_c110 : Code := Code.fst trellislaw26_RpcCarries_c109
noncomputable abbrev trellislaw26_RpcCarries_c111 : Code := Code.snd trellislaw26_RpcCarries_c109
noncomputable abbrev trellislaw26_RpcCarries_c112 : Code := Code.fst trellislaw26_RpcCarries_c103
noncomputable abbrev trellislaw26_RpcCarries_c113 : Code := Code.snd trellislaw26_RpcCarries_c103
noncomputable abbrev trellislaw26_RpcCarries_c114 : Code := Code.fst trellislaw26_RpcCarries_c107
noncomputable abbrev trellislaw26_RpcCarries_c115 : Code := Code.fst trellislaw26_RpcCarries_c114
noncomputable abbrev trellislaw26_RpcCarries_c116 : Code := Code.snd trellislaw26_RpcCarries_c114
noncomputable abbrev trellislaw26_RpcCarries_c117 : Code := Code.fst trellislaw26_RpcCarries_c7
noncomputable abbrev trellislaw26_RpcCarries_c118 : Code := Code.snd trellislaw26_RpcCarries_c7
abbrev trellislaw26_RpcCarries_R (w : World) (F : Nat → Prop) (r : Bool) : Ending → World → Prop := fun e w' => e = .returned (.bool r) ∧ B.Loc w w' [] [St w []]
noncomputable abbrev trellislaw26_RpcCarries_C (w : World) (F : Nat → Prop) (r : Bool) : Cx := ⟨Tryd.prog, 7, Tryd.f7, 171, trellislaw26_RpcCarries_R w F  r, w⟩
theorem trellislaw26_RpcCarries_calls (w : World) (F : Nat → Prop) (x1 : List ByteArray) (x6 : List Int) (x11 : Int) (A2 : Option Addr) (n3 : Nat) (c4 : Nat) (A7 : Option Addr) (n8 : Nat) (c9 : Nat) (h5 : Rw kStr w (St w []).av A2 n3 c4 x1) (h10 : Rw (kInt .i64) w (St w []).av A7 n8 c9 x6) (hG : Tb Tryd.prog (St w [])) (hF : ∀ b, F b → b < w.heap.size ∧ ∀ o ∈ ([] : List (List Nat)), b ∉ o) (hL0 : B.Loc w w [] [Sm w.heap.size F w [], St w []]) (r : Bool) (h : trellislaw26_RpcCarries x1 x6 x11 r) : Calls Tryd.prog 7 #[.slice A2 n3 c4, .slice A7 n8 c9, .int .i64 x11] w (trellislaw26_RpcCarries_R w F  r) := by
  unfold trellislaw26_RpcCarries at h
  refine calls_of_Loc (vs := [.slice A2 n3 c4, .slice A7 n8 c9, .int .i64 x11]) 171 Tryd.func7 rfl Tryd.ntmps7 rfl hL0 ?_
  show G (trellislaw26_RpcCarries_C w F r) _ _ _ _
  refine g_seq (c := trellislaw26_RpcCarries_c0) rfl ?_
  refine g_region (c := trellislaw26_RpcCarries_c1) rfl rfl ?_
  refine wl_v 0 rfl (v_assign rfl) gn rfl ?_
  refine w_end 1 rfl ?_
  refine g_seq (c := trellislaw26_RpcCarries_c2) rfl ?_
  refine g_seq (c := trellislaw26_RpcCarries_c3) rfl ?_
  refine g_region (c := trellislaw26_RpcCarries_c5) rfl rfl ?_
  obtain ⟨r15, hv16, h⟩ := h
  refine wl_s 0 rfl (s_call [] rfl Tryd.func15 rfl rfl rfl fun w12 hL13 => ?_) gn
  have hp14 : List.Perm ([] : List Ent) (([] : List Ent) ++ ([] : List Ent)) := perm_of_idx [] [] rfl rfl (by kernel_rfl)
  refine Calls.mono (trellislaw26_started_calls w12 (Fl ([] : List Snap)) (hL13.tb hp14 hG (me 1 rfl)) (hL13.hFl (Sl := ([] : List Snap)) hp14 (sels [] rfl)) (hL13.into hp14 (Fl ([] : List Snap))) r15 hv16) ?_
  rintro _ w17 ⟨rfl, hM18⟩
  have hL19 := hL13.call hp14 hM18
  refine ⟨_, _, _, rfl, hL19, ?_⟩
  refine wl_v 1 rfl (v_not rfl) gn rfl ?_
  refine w_end 2 rfl ?_
  by_cases hp20 : r15 = true
  · have h := if_pos' hp20 h
    refine g_false (c := trellislaw26_RpcCarries_c6) rfl _ rfl ((nf hp20)) ?_
    refine g_skip (c := trellislaw26_RpcCarries_c8) rfl ?_
    refine g_seq (c := trellislaw26_RpcCarries_c4) rfl ?_
    refine g_region (c := trellislaw26_RpcCarries_c9) rfl rfl ?_
    refine wl_v 0 rfl (v_assign rfl) gn rfl ?_
    refine w_end 1 rfl ?_
    refine g_seq (c := trellislaw26_RpcCarries_c10) rfl ?_
    refine g_region (c := trellislaw26_RpcCarries_c11) rfl rfl ?_
    refine wl_v 0 rfl (v_assign rfl) gn rfl ?_
    refine w_end 1 rfl ?_
    refine g_seq (c := trellislaw26_RpcCarries_c12) rfl ?_
    refine g_seq (c := trellislaw26_RpcCarries_c13) rfl ?_
    refine g_region (c := trellislaw26_RpcCarries_c15) rfl rfl ?_
    refine wl_v 0 rfl (v_assign rfl) gn rfl ?_
    refine w_end 1 rfl ?_
    refine g_block (c := trellislaw26_RpcCarries_c16) rfl ?_
    refine g_loop (c := trellislaw26_RpcCarries_c17) rfl ?_
    have key1 : ∀ s, Rounds (fun (s : (List Int) × (List Int) × Int) o => trellislaw26_RpcCarries_b1 x1 x11 x6 s.1 s.2.1 s.2.2 o) s r → (fun (s : (List Int) × (List Int) × Int) => ∀ (A388 : Option Addr) (n389 : Nat) (c390 : Nat) (h391 : Ow w.heap.size A388 n389 c390 s.1) (A393 : Option Addr) (n394 : Nat) (c395 : Nat) (h396 : Ow w.heap.size A393 n394 c395 s.2.1), G (trellislaw26_RpcCarries_C w F r) [.code trellislaw26_RpcCarries_c18, .inLoop trellislaw26_RpcCarries_c18, .inBlock 0, .code trellislaw26_RpcCarries_c14] [(0, .slice A2 n3 c4), (1, .slice A7 n8 c9), (2, .int .i64 x11), (7, .slice A388 n389 c390), (8, .slice A393 n394 c395), (9, .int .i64 s.2.2)] [.own (.slice A388 n389 c390) 5 1 n389 (s.1.flatMap (eI .u8)), .own (.slice A393 n394 c395) 3 1 n394 (s.2.1.flatMap (eI .i64))] [Sm w.heap.size F w [], St w []]) s := by
      intro s hs
      refine Rounds.ind (mot := (fun (s : (List Int) × (List Int) × Int) => ∀ (A388 : Option Addr) (n389 : Nat) (c390 : Nat) (h391 : Ow w.heap.size A388 n389 c390 s.1) (A393 : Option Addr) (n394 : Nat) (c395 : Nat) (h396 : Ow w.heap.size A393 n394 c395 s.2.1), G (trellislaw26_RpcCarries_C w F r) [.code trellislaw26_RpcCarries_c18, .inLoop trellislaw26_RpcCarries_c18, .inBlock 0, .code trellislaw26_RpcCarries_c14] [(0, .slice A2 n3 c4), (1, .slice A7 n8 c9), (2, .int .i64 x11), (7, .slice A388 n389 c390), (8, .slice A393 n394 c395), (9, .int .i64 s.2.2)] [.own (.slice A388 n389 c390) 5 1 n389 (s.1.flatMap (eI .u8)), .own (.slice A393 n394 c395) 3 1 n394 (s.2.1.flatMap (eI .i64))] [Sm w.heap.size F w [], St w []])) ?_ hs
      clear hs s
      intro s o1 h hO1
      obtain ⟨x387, x392, x397⟩ := s
      show ∀ (A388 : Option Addr) (n389 : Nat) (c390 : Nat) (h391 : Ow w.heap.size A388 n389 c390 x387) (A393 : Option Addr) (n394 : Nat) (c395 : Nat) (h396 : Ow w.heap.size A393 n394 c395 x392), G (trellislaw26_RpcCarries_C w F r) [.code trellislaw26_RpcCarries_c18, .inLoop trellislaw26_RpcCarries_c18, .inBlock 0, .code trellislaw26_RpcCarries_c14] [(0, .slice A2 n3 c4), (1, .slice A7 n8 c9), (2, .int .i64 x11), (7, .slice A388 n389 c390), (8, .slice A393 n394 c395), (9, .int .i64 x397)] [.own (.slice A388 n389 c390) 5 1 n389 (x387.flatMap (eI .u8)), .own (.slice A393 n394 c395) 3 1 n394 (x392.flatMap (eI .i64))] [Sm w.heap.size F w [], St w []]
      intro A388 n389 c390 h391 A393 n394 c395 h396
      have h : trellislaw26_RpcCarries_b1 x1 x11 x6 x387 x392 x397 o1 := h
      unfold trellislaw26_RpcCarries_b1 at h
      refine g_seq (c := trellislaw26_RpcCarries_c18) rfl ?_
      refine g_seq (c := trellislaw26_RpcCarries_c19) rfl ?_
      refine g_region (c := trellislaw26_RpcCarries_c21) rfl rfl ?_
      refine wl_v 0 rfl (v_move rfl) gn rfl ?_
      refine wl_v 1 rfl (v_move rfl) gn rfl ?_
      refine wl_v 2 rfl (v_lenQ un_35 rfl h5.hq) gn rfl ?_
      refine wl_v 3 rfl (v_bin rfl rfl rfl) gn rfl ?_
      refine w_end 4 rfl ?_
      by_cases hp990 : x397 < (x1.length : Int)
      · have h := if_pos' hp990 h
        refine g_true (c := trellislaw26_RpcCarries_c22) rfl _ rfl ((decide_eq_true hp990)) ?_
        refine g_skip (c := trellislaw26_RpcCarries_c23) rfl ?_
        refine g_seq (c := trellislaw26_RpcCarries_c20) rfl ?_
        refine g_block (c := trellislaw26_RpcCarries_c25) rfl ?_
        refine g_seq (c := trellislaw26_RpcCarries_c27) rfl ?_
        refine g_region (c := trellislaw26_RpcCarries_c28) rfl rfl ?_
        refine wl_v 0 rfl (v_move rfl) gn rfl ?_
        refine wl_v 1 rfl (v_move rfl) gn rfl ?_
        obtain ⟨hb991, h⟩ := h
        have hr992 := Rw.readF (s := St w []) (hl := hlS) (h1 := hone_str) h5 hb991
        refine wl_v 2 rfl (v_idxR (s := St w []) slE_35 rfl rfl h5 hb991) gn rfl ?_
        refine wl_v 3 rfl (v_ldA1 (kk := (x397 : Int).toNat * 1) (j := 0) (St w []) ld_9 rfl hr992 rfl (me 1 rfl)) gn rfl ?_
        obtain ⟨r996, hv997, h⟩ := h
        refine wl_s 4 rfl (s_call [.string (ix x1 x397)] rfl Tryd.func8 rfl rfl rfl fun w993 hL994 => ?_) gn
        have hp995 : List.Perm ([.own (.slice A388 n389 c390) 5 1 n389 (x387.flatMap (eI .u8)), .own (.slice A393 n394 c395) 3 1 n394 (x392.flatMap (eI .i64))] : List Ent) (([] : List Ent) ++ ([.own (.slice A388 n389 c390) 5 1 n389 (x387.flatMap (eI .u8)), .own (.slice A393 n394 c395) 3 1 n394 (x392.flatMap (eI .i64))] : List Ent)) := perm_of_idx [] [0, 1] rfl rfl (by kernel_rfl)
        refine Calls.mono (rpc_Put_calls w993 (Fl ([] : List Snap)) (ix x1 x397) (hL994.tb hp995 hG (me 1 rfl)) (hL994.hFl (Sl := ([] : List Snap)) hp995 (sels [] rfl)) (hL994.into hp995 (Fl ([] : List Snap))) r996 hv997) ?_
        rintro _ w1003 ⟨A998, n999, c1000, rfl, hM1004, h1001⟩
        have hL1005 := hL994.call hp995 hM1004
        refine ⟨_, _, _, rfl, hL1005, ?_⟩
        refine wl_v 5 rfl (v_move rfl) gn rfl ?_
        refine wl_v 6 rfl (v_extract rfl rfl) gn rfl ?_
        refine wl_v 7 rfl (v_extract rfl rfl) gn rfl ?_
        refine wl_v 8 rfl (v_assign rfl) gn rfl ?_
        refine wl_v 9 rfl (v_assign rfl) gn rfl ?_
        refine w_end 10 rfl ?_
        refine g_seq (c := trellislaw26_RpcCarries_c29) rfl ?_
        refine g_seq (c := trellislaw26_RpcCarries_c30) rfl ?_
        refine g_region (c := trellislaw26_RpcCarries_c32) rfl rfl ?_
        refine wl_v 0 rfl (v_move rfl) gn rfl ?_
        refine wl_v 1 rfl (v_bin rfl rfl rfl) gn rfl ?_
        refine w_end 2 rfl ?_
        by_cases hp1006 : r996.2 = 0
        · have h := if_pos' hp1006 h
          refine g_false (c := trellislaw26_RpcCarries_c33) rfl _ rfl ((eqib hp1006)) ?_
          refine g_skip (c := trellislaw26_RpcCarries_c35) rfl ?_
          refine g_seq (c := trellislaw26_RpcCarries_c31) rfl ?_
          refine g_seq (c := trellislaw26_RpcCarries_c36) rfl ?_
          refine g_region (c := trellislaw26_RpcCarries_c38) rfl rfl ?_
          refine wl_v 0 rfl (v_assign rfl) gn rfl ?_
          refine w_end 1 rfl ?_
          refine g_block (c := trellislaw26_RpcCarries_c39) rfl ?_
          refine g_loop (c := trellislaw26_RpcCarries_c40) rfl ?_
          have key2 : ∀ s, Rounds (fun (s : (List Int) × Int) o => trellislaw26_RpcCarries_b2 r996 x392 x397 s.1 s.2 o) s o1 → (fun (s : (List Int) × Int) => ∀ (A1029 : Option Addr) (n1030 : Nat) (c1031 : Nat) (h1032 : Ow w.heap.size A1029 n1030 c1031 s.1), G (trellislaw26_RpcCarries_C w F r) [.code trellislaw26_RpcCarries_c41, .inLoop trellislaw26_RpcCarries_c41, .inBlock 2, .code trellislaw26_RpcCarries_c37, .inBlock 1, .code trellislaw26_RpcCarries_c26, .inLoop trellislaw26_RpcCarries_c18, .inBlock 0, .code trellislaw26_RpcCarries_c14] [(0, .slice A2 n3 c4), (1, .slice A7 n8 c9), (2, .int .i64 x11), (7, .slice A1029 n1030 c1031), (8, .slice A393 n394 c395), (9, .int .i64 x397), (10, .slice A998 n999 c1000), (12, .int .i64 s.2)] [.own (.slice A998 n999 c1000) 5 1 n999 (r996.1.flatMap (eI .u8)), .own (.slice A1029 n1030 c1031) 5 1 n1030 (s.1.flatMap (eI .u8)), .own (.slice A393 n394 c395) 3 1 n394 (x392.flatMap (eI .i64))] [Sm w.heap.size F w [], St w []]) s := by
            intro s hs
            refine Rounds.ind (mot := (fun (s : (List Int) × Int) => ∀ (A1029 : Option Addr) (n1030 : Nat) (c1031 : Nat) (h1032 : Ow w.heap.size A1029 n1030 c1031 s.1), G (trellislaw26_RpcCarries_C w F r) [.code trellislaw26_RpcCarries_c41, .inLoop trellislaw26_RpcCarries_c41, .inBlock 2, .code trellislaw26_RpcCarries_c37, .inBlock 1, .code trellislaw26_RpcCarries_c26, .inLoop trellislaw26_RpcCarries_c18, .inBlock 0, .code trellislaw26_RpcCarries_c14] [(0, .slice A2 n3 c4), (1, .slice A7 n8 c9), (2, .int .i64 x11), (7, .slice A1029 n1030 c1031), (8, .slice A393 n394 c395), (9, .int .i64 x397), (10, .slice A998 n999 c1000), (12, .int .i64 s.2)] [.own (.slice A998 n999 c1000) 5 1 n999 (r996.1.flatMap (eI .u8)), .own (.slice A1029 n1030 c1031) 5 1 n1030 (s.1.flatMap (eI .u8)), .own (.slice A393 n394 c395) 3 1 n394 (x392.flatMap (eI .i64))] [Sm w.heap.size F w [], St w []])) ?_ hs
            clear hs s
            intro s o2 h hO2
            obtain ⟨x1028, x1033⟩ := s
            show ∀ (A1029 : Option Addr) (n1030 : Nat) (c1031 : Nat) (h1032 : Ow w.heap.size A1029 n1030 c1031 x1028), G (trellislaw26_RpcCarries_C w F r) [.code trellislaw26_RpcCarries_c41, .inLoop trellislaw26_RpcCarries_c41, .inBlock 2, .code trellislaw26_RpcCarries_c37, .inBlock 1, .code trellislaw26_RpcCarries_c26, .inLoop trellislaw26_RpcCarries_c18, .inBlock 0, .code trellislaw26_RpcCarries_c14] [(0, .slice A2 n3 c4), (1, .slice A7 n8 c9), (2, .int .i64 x11), (7, .slice A1029 n1030 c1031), (8, .slice A393 n394 c395), (9, .int .i64 x397), (10, .slice A998 n999 c1000), (12, .int .i64 x1033)] [.own (.slice A998 n999 c1000) 5 1 n999 (r996.1.flatMap (eI .u8)), .own (.slice A1029 n1030 c1031) 5 1 n1030 (x1028.flatMap (eI .u8)), .own (.slice A393 n394 c395) 3 1 n394 (x392.flatMap (eI .i64))] [Sm w.heap.size F w [], St w []]
            intro A1029 n1030 c1031 h1032
            have h : trellislaw26_RpcCarries_b2 r996 x392 x397 x1028 x1033 o2 := h
            unfold trellislaw26_RpcCarries_b2 at h
            refine g_seq (c := trellislaw26_RpcCarries_c41) rfl ?_
            refine g_seq (c := trellislaw26_RpcCarries_c42) rfl ?_
            refine g_region (c := trellislaw26_RpcCarries_c44) rfl rfl ?_
            refine wl_v 0 rfl (v_move rfl) gn rfl ?_
            refine wl_v 1 rfl (v_move rfl) gn rfl ?_
            refine wl_v 2 rfl (v_lenQ un_22 rfl (Ow.weak hL994.env.size h1001).hq) gn rfl ?_
            refine wl_v 3 rfl (v_bin rfl rfl rfl) gn rfl ?_
            refine w_end 4 rfl ?_
            by_cases hp1054 : x1033 < (r996.1.length : Int)
            · have h := if_pos' hp1054 h
              refine g_true (c := trellislaw26_RpcCarries_c45) rfl _ rfl ((decide_eq_true hp1054)) ?_
              refine g_skip (c := trellislaw26_RpcCarries_c46) rfl ?_
              refine g_seq (c := trellislaw26_RpcCarries_c43) rfl ?_
              refine g_block (c := trellislaw26_RpcCarries_c48) rfl ?_
              refine g_region (c := trellislaw26_RpcCarries_c50) rfl rfl ?_
              refine wl_v 0 rfl (v_move rfl) gn rfl ?_
              refine wl_v 1 rfl (v_move rfl) gn rfl ?_
              refine wl_v 2 rfl (v_move rfl) gn rfl ?_
              obtain ⟨hb1055, h⟩ := h
              refine wl_v 3 rfl (v_idxO slE_22 rfl rfl (Ow.weak hL994.env.size h1001) hb1055) gn rfl ?_
              refine wl_v 4 rfl (v_ldO1 (.int .u8 (ix r996.1 x1033)) 0 ld_5 rfl rfl (fm_get0 (hlI .u8) hb1055 rfl)) gn rfl ?_
              refine wl_s 5 rfl (s_litO (xs := ([ix r996.1 x1033] : List Int)) [.int .u8 (ix r996.1 x1033)] bs_22_1 rfl (by kernel_rfl) rfl rfl rfl rfl fun gb1057 h1058 => ?_) gn
              obtain ⟨x1062, hv1063, h⟩ := h
              obtain ⟨hb1064, h⟩ := h
              refine wl_s 6 rfl (s_app (zs := x1062) (cells' := x1062.flatMap (eI .u8)) 2 ap_22 rfl rfl rfl h1032 (Nat.le_refl _) (Src.ownF (hl := (hlI .u8)) (h1 := (hone_int .u8)) 0 rfl h1058) (by rw [hv1063, List.flatMap_append] <;> rfl) (app_len hv1063 h1058.hq) hb1064 rfl rfl fun A1059 c1060 h1061 => ?_) gn
              refine wl_v 7 rfl (v_assign rfl) gn rfl ?_
              refine w_end 8 rfl ?_
              refine g_inBlock ?_
              refine g_region (c := trellislaw26_RpcCarries_c49) rfl rfl ?_
              refine wl_v 0 rfl (v_move rfl) gn rfl ?_
              refine wl_v 1 rfl (v_bin rfl rfl rfl) gn rfl ?_
              refine wl_v 2 rfl (v_assign rfl) gn rfl ?_
              refine w_end 3 rfl ?_
              refine g_inLoop ?_
              have ih := Out.inl hO2 h
              exact g_go [0, 1] (ih A1059 (n1030 + 1) c1060 h1061) ⟨rfl, rfl, rfl, rfl, rfl, rfl, rfl, rfl, trivial⟩ (.cons _ (.cons_cons _ (.cons_cons _ (.cons_cons _ (.slnil))))) rfl
            · have h := if_neg' hp1054 h
              refine g_false (c := trellislaw26_RpcCarries_c45) rfl _ rfl ((decide_eq_false hp1054)) ?_
              refine g_exit (c := trellislaw26_RpcCarries_c47) [.code trellislaw26_RpcCarries_c37, .inBlock 1, .code trellislaw26_RpcCarries_c26, .inLoop trellislaw26_RpcCarries_c18, .inBlock 0, .code trellislaw26_RpcCarries_c14] rfl rfl ?_
              refine g_region (c := trellislaw26_RpcCarries_c37) rfl rfl ?_
              refine wl_v 0 rfl (v_move rfl) gn rfl ?_
              refine wl_v 1 rfl (v_move rfl) gn rfl ?_
              refine wl_v 2 rfl (v_lenQ un_22 rfl h1032.hq) gn rfl ?_
              refine wl_s 3 rfl (s_litO (xs := ([(x1028.length : Int)] : List Int)) [.int .i64 (x1028.length : Int)] bs_40_1 rfl (by kernel_rfl) rfl rfl rfl rfl fun gb1066 h1067 => ?_) gn
              obtain ⟨x1071, hv1072, h⟩ := h
              obtain ⟨hb1073, h⟩ := h
              refine wl_s 4 rfl (s_app (zs := x1071) (cells' := x1071.flatMap (eI .i64)) 3 ap_40 rfl rfl rfl h396 (Nat.le_refl _) (Src.ownF (hl := (hlI .i64)) (h1 := (hone_int .i64)) 0 rfl h1067) (by rw [hv1072, List.flatMap_append] <;> rfl) (app_len hv1072 h1067.hq) hb1073 rfl rfl fun A1068 c1069 h1070 => ?_) gn
              refine wl_v 5 rfl (v_assign rfl) gn rfl ?_
              refine w_end 6 rfl ?_
              refine g_inBlock ?_
              refine g_region (c := trellislaw26_RpcCarries_c26) rfl rfl ?_
              refine wl_v 0 rfl (v_move rfl) gn rfl ?_
              refine wl_v 1 rfl (v_bin rfl rfl rfl) gn rfl ?_
              refine wl_v 2 rfl (v_assign rfl) gn rfl ?_
              refine w_end 3 rfl ?_
              refine g_inLoop ?_
              have h := Out.inr hO2 h
              have ih := Out.inl hO1 h
              exact g_go [0, 1] (ih A1029 n1030 c1031 h1032 A1068 (n394 + 1) c1069 h1070) ⟨rfl, rfl, rfl, rfl, rfl, rfl, trivial⟩ (.cons _ (.cons _ (.cons_cons _ (.cons_cons _ (.slnil))))) rfl
          exact g_go [0, 1] (key2 _ h A388 n389 c390 h391) ⟨rfl, rfl, rfl, rfl, rfl, rfl, rfl, rfl, trivial⟩ (.cons_cons _ (.cons_cons _ (.cons_cons _ (.slnil)))) rfl
        · have h := if_neg' hp1006 h
          refine g_true (c := trellislaw26_RpcCarries_c33) rfl _ rfl ((neib hp1006)) ?_
          refine g_seq (c := trellislaw26_RpcCarries_c34) rfl ?_
          refine g_region (c := trellislaw26_RpcCarries_c51) rfl rfl ?_
          refine wl_v 0 rfl (v_move rfl) gn rfl ?_
          refine wl_v 1 rfl (v_move rfl) gn rfl ?_
          have hr1074 := Rw.readF (s := St w []) (hl := hlS) (h1 := hone_str) h5 hb991
          refine wl_v 2 rfl (v_idxR (s := St w []) slE_35 rfl rfl h5 hb991) gn rfl ?_
          refine wl_v 3 rfl (v_ldA1 (kk := (x397 : Int).toNat * 1) (j := 0) (St w []) ld_9 rfl hr1074 rfl (me 1 rfl)) gn rfl ?_
          refine wl_v 4 rfl (v_lenS un_9 rfl) gn rfl ?_
          refine wl_v 5 rfl (v_bin rfl rfl rfl) gn rfl ?_
          refine wl_v 6 rfl (v_assign rfl) gn rfl ?_
          refine w_end 7 rfl ?_
          have h := Out.inr hO1 h
          refine g_retR (c := trellislaw26_RpcCarries_c52) [.bool (decide (((ix x1 x397).size : Int) > 2097152))] rfl Tryd.func7 rfl (.tmp rfl (.nil)) fun wr hLr => ?_
          have hMr : B.Loc w wr [] [St w []] := hLr.pick (rest := [.own (.slice A998 n999 c1000) 5 1 n999 (r996.1.flatMap (eI .u8)), .own (.slice A388 n389 c390) 5 1 n389 (x387.flatMap (eI .u8)), .own (.slice A393 n394 c395) 3 1 n394 (x392.flatMap (eI .i64))]) (perm_of_idx [] [0, 1, 2] rfl rfl (by kernel_rfl)) (sels [1] rfl)
          have hMi : ∀ e ∈ ([] : List Ent), e ∈ ([.own (.slice A998 n999 c1000) 5 1 n999 (r996.1.flatMap (eI .u8)), .own (.slice A388 n389 c390) 5 1 n389 (x387.flatMap (eI .u8)), .own (.slice A393 n394 c395) 3 1 n394 (x392.flatMap (eI .i64))] : List Ent) := sels [] rfl
          show trellislaw26_RpcCarries_R w F  r (.returned (packV [.bool (decide (((ix x1 x397).size : Int) > 2097152))])) wr
          rw [h]
          exact ⟨rfl, hMr⟩
      · have h := if_neg' hp990 h
        refine g_false (c := trellislaw26_RpcCarries_c22) rfl _ rfl ((decide_eq_false hp990)) ?_
        refine g_exit (c := trellislaw26_RpcCarries_c24) [.code trellislaw26_RpcCarries_c14] rfl rfl ?_
        refine g_seq (c := trellislaw26_RpcCarries_c14) rfl ?_
        refine g_seq (c := trellislaw26_RpcCarries_c53) rfl ?_
        have j3 : ∀ (x1077 : Bool) (h : trellislaw26_RpcCarries_j3 x387 x11 x6 x392 x1 x1077 o1) , G (trellislaw26_RpcCarries_C w F r) [.code trellislaw26_RpcCarries_c56, .code trellislaw26_RpcCarries_c54] [(0, .slice A2 n3 c4), (1, .slice A7 n8 c9), (2, .int .i64 x11), (7, .slice A388 n389 c390), (8, .slice A393 n394 c395), (72, .bool x1077)] [.own (.slice A388 n389 c390) 5 1 n389 (x387.flatMap (eI .u8)), .own (.slice A393 n394 c395) 3 1 n394 (x392.flatMap (eI .i64))] [Sm w.heap.size F w [], St w []] := by
          intro x1077 h
          unfold trellislaw26_RpcCarries_j3 at h
          have j4 : ∀ (x1085 : List Int) (h : trellislaw26_RpcCarries_j4 x6 x392 x1 x1085 o1) (A1086 : Option Addr) (n1087 : Nat) (c1088 : Nat) (h1089 : Ow w.heap.size A1086 n1087 c1088 x1085), G (trellislaw26_RpcCarries_C w F r) [.code trellislaw26_RpcCarries_c54] [(0, .slice A2 n3 c4), (1, .slice A7 n8 c9), (7, .slice A1086 n1087 c1088), (8, .slice A393 n394 c395)] [.own (.slice A1086 n1087 c1088) 5 1 n1087 (x1085.flatMap (eI .u8)), .own (.slice A393 n394 c395) 3 1 n394 (x392.flatMap (eI .i64))] [Sm w.heap.size F w [], St w []] := by
            intro x1085 h A1086 n1087 c1088 h1089
            unfold trellislaw26_RpcCarries_j4 at h
            refine g_seq (c := trellislaw26_RpcCarries_c54) rfl ?_
            refine g_region (c := trellislaw26_RpcCarries_c59) rfl rfl ?_
            refine wl_v 0 rfl (v_assign rfl) gn rfl ?_
            refine w_end 1 rfl ?_
            refine g_seq (c := trellislaw26_RpcCarries_c60) rfl ?_
            refine g_region (c := trellislaw26_RpcCarries_c61) rfl rfl ?_
            refine wl_v 0 rfl (v_assign rfl) gn rfl ?_
            refine w_end 1 rfl ?_
            refine g_seq (c := trellislaw26_RpcCarries_c62) rfl ?_
            refine g_seq (c := trellislaw26_RpcCarries_c63) rfl ?_
            refine g_region (c := trellislaw26_RpcCarries_c65) rfl rfl ?_
            refine wl_v 0 rfl (v_assign rfl) gn rfl ?_
            refine w_end 1 rfl ?_
            refine g_block (c := trellislaw26_RpcCarries_c66) rfl ?_
            refine g_loop (c := trellislaw26_RpcCarries_c67) rfl ?_
            have key5 : ∀ s, Rounds (fun (s : (List (List Int)) × Int × Int) o => trellislaw26_RpcCarries_b5 x6 x1085 x392 x1 s.1 s.2.1 s.2.2 o) s o1 → (fun (s : (List (List Int)) × Int × Int) => ∀ (A1251 : Option Addr) (n1252 : Nat) (c1253 : Nat) (sw1254 : World) (sb1255 : List (List Nat)) (h1256 : At (kInt .u8) (Sm w.heap.size F sw1254 sb1255) A1251 n1252 c1253 x1085) (A1258 : Option Addr) (n1259 : Nat) (c1260 : Nat) (h1261 : Ow w.heap.size A1258 n1259 c1260 s.1) (cs1262 : List Value) (sw1263 : World) (sb1264 : List (List Nat)) (hC1265 : Cells (Kd.slice (kInt .u8)) (Sm w.heap.size F sw1263 sb1264).w (Sm w.heap.size F sw1263 sb1264).av s.1 cs1262), G (trellislaw26_RpcCarries_C w F r) [.code trellislaw26_RpcCarries_c68, .inLoop trellislaw26_RpcCarries_c68, .inBlock 4, .code trellislaw26_RpcCarries_c64] [(0, .slice A2 n3 c4), (1, .slice A7 n8 c9), (7, .slice A1251 n1252 c1253), (8, .slice A393 n394 c395), (13, .slice A1258 n1259 c1260), (14, .int .i64 s.2.1), (15, .int .i64 s.2.2)] [.own (.slice A1258 n1259 c1260) 22 1 n1259 cs1262, .own (.slice A393 n394 c395) 3 1 n394 (x392.flatMap (eI .i64))] [Sm w.heap.size F sw1254 sb1255, Sm w.heap.size F sw1263 sb1264, Sm w.heap.size F w [], St w []]) s := by
              intro s hs
              refine Rounds.ind (mot := (fun (s : (List (List Int)) × Int × Int) => ∀ (A1251 : Option Addr) (n1252 : Nat) (c1253 : Nat) (sw1254 : World) (sb1255 : List (List Nat)) (h1256 : At (kInt .u8) (Sm w.heap.size F sw1254 sb1255) A1251 n1252 c1253 x1085) (A1258 : Option Addr) (n1259 : Nat) (c1260 : Nat) (h1261 : Ow w.heap.size A1258 n1259 c1260 s.1) (cs1262 : List Value) (sw1263 : World) (sb1264 : List (List Nat)) (hC1265 : Cells (Kd.slice (kInt .u8)) (Sm w.heap.size F sw1263 sb1264).w (Sm w.heap.size F sw1263 sb1264).av s.1 cs1262), G (trellislaw26_RpcCarries_C w F r) [.code trellislaw26_RpcCarries_c68, .inLoop trellislaw26_RpcCarries_c68, .inBlock 4, .code trellislaw26_RpcCarries_c64] [(0, .slice A2 n3 c4), (1, .slice A7 n8 c9), (7, .slice A1251 n1252 c1253), (8, .slice A393 n394 c395), (13, .slice A1258 n1259 c1260), (14, .int .i64 s.2.1), (15, .int .i64 s.2.2)] [.own (.slice A1258 n1259 c1260) 22 1 n1259 cs1262, .own (.slice A393 n394 c395) 3 1 n394 (x392.flatMap (eI .i64))] [Sm w.heap.size F sw1254 sb1255, Sm w.heap.size F sw1263 sb1264, Sm w.heap.size F w [], St w []])) ?_ hs
              clear hs s
              intro s o2 h hO2
              obtain ⟨x1257, x1266, x1267⟩ := s
              show ∀ (A1251 : Option Addr) (n1252 : Nat) (c1253 : Nat) (sw1254 : World) (sb1255 : List (List Nat)) (h1256 : At (kInt .u8) (Sm w.heap.size F sw1254 sb1255) A1251 n1252 c1253 x1085) (A1258 : Option Addr) (n1259 : Nat) (c1260 : Nat) (h1261 : Ow w.heap.size A1258 n1259 c1260 x1257) (cs1262 : List Value) (sw1263 : World) (sb1264 : List (List Nat)) (hC1265 : Cells (Kd.slice (kInt .u8)) (Sm w.heap.size F sw1263 sb1264).w (Sm w.heap.size F sw1263 sb1264).av x1257 cs1262), G (trellislaw26_RpcCarries_C w F r) [.code trellislaw26_RpcCarries_c68, .inLoop trellislaw26_RpcCarries_c68, .inBlock 4, .code trellislaw26_RpcCarries_c64] [(0, .slice A2 n3 c4), (1, .slice A7 n8 c9), (7, .slice A1251 n1252 c1253), (8, .slice A393 n394 c395), (13, .slice A1258 n1259 c1260), (14, .int .i64 x1266), (15, .int .i64 x1267)] [.own (.slice A1258 n1259 c1260) 22 1 n1259 cs1262, .own (.slice A393 n394 c395) 3 1 n394 (x392.flatMap (eI .i64))] [Sm w.heap.size F sw1254 sb1255, Sm w.heap.size F sw1263 sb1264, Sm w.heap.size F w [], St w []]
              intro A1251 n1252 c1253 sw1254 sb1255 h1256 A1258 n1259 c1260 h1261 cs1262 sw1263 sb1264 hC1265
              have h : trellislaw26_RpcCarries_b5 x6 x1085 x392 x1 x1257 x1266 x1267 o2 := h
              unfold trellislaw26_RpcCarries_b5 at h
              refine g_seq (c := trellislaw26_RpcCarries_c68) rfl ?_
              refine g_seq (c := trellislaw26_RpcCarries_c69) rfl ?_
              have j6 : ∀ (x1422 : Bool) (h : trellislaw26_RpcCarries_j6 x1267 x6 x1085 x1266 x1257 x392 x1 x1422 o2) , G (trellislaw26_RpcCarries_C w F r) [.code trellislaw26_RpcCarries_c72, .code trellislaw26_RpcCarries_c70, .inLoop trellislaw26_RpcCarries_c68, .inBlock 4, .code trellislaw26_RpcCarries_c64] [(0, .slice A2 n3 c4), (1, .slice A7 n8 c9), (7, .slice A1251 n1252 c1253), (8, .slice A393 n394 c395), (13, .slice A1258 n1259 c1260), (14, .int .i64 x1266), (15, .int .i64 x1267), (88, .bool x1422)] [.own (.slice A1258 n1259 c1260) 22 1 n1259 cs1262, .own (.slice A393 n394 c395) 3 1 n394 (x392.flatMap (eI .i64))] [Sm w.heap.size F sw1254 sb1255, Sm w.heap.size F sw1263 sb1264, Sm w.heap.size F w [], St w []] := by
                intro x1422 h
                unfold trellislaw26_RpcCarries_j6 at h
                by_cases hp1423 : x1422 = true
                · have h := if_pos' hp1423 h
                  refine g_true (c := trellislaw26_RpcCarries_c72) rfl _ rfl (hp1423) ?_
                  refine g_skip (c := trellislaw26_RpcCarries_c73) rfl ?_
                  refine g_seq (c := trellislaw26_RpcCarries_c70) rfl ?_
                  refine g_block (c := trellislaw26_RpcCarries_c75) rfl ?_
                  refine g_seq (c := trellislaw26_RpcCarries_c77) rfl ?_
                  refine g_region (c := trellislaw26_RpcCarries_c78) rfl rfl ?_
                  refine wl_v 0 rfl (v_move rfl) gn rfl ?_
                  refine wl_v 1 rfl (v_move rfl) gn rfl ?_
                  obtain ⟨hb1424, h⟩ := h
                  have hr1425 := Rw.readF (s := St w []) (hl := (hlI .i64)) (h1 := (hone_int .i64)) h10 hb1424
                  refine wl_v 2 rfl (v_idxR (s := St w []) slE_40 rfl rfl h10 hb1424) gn rfl ?_
                  refine wl_v 3 rfl (v_ldA1 (kk := (x1267 : Int).toNat * 1) (j := 0) (St w []) ld_3 rfl hr1425 rfl (me 3 rfl)) gn rfl ?_
                  refine wl_v 4 rfl (v_assign rfl) gn rfl ?_
                  refine w_end 5 rfl ?_
                  refine g_seq (c := trellislaw26_RpcCarries_c79) rfl ?_
                  refine g_seq (c := trellislaw26_RpcCarries_c80) rfl ?_
                  refine g_region (c := trellislaw26_RpcCarries_c82) rfl rfl ?_
                  refine wl_v 0 rfl (v_move rfl) gn rfl ?_
                  refine wl_v 1 rfl (v_bin rfl rfl rfl) gn rfl ?_
                  refine w_end 2 rfl ?_
                  have j7 : ∀ (x1428 : Int) (h : trellislaw26_RpcCarries_j7 x1085 x1266 x1257 x1267 x1428 o2) , G (trellislaw26_RpcCarries_C w F r) [.code trellislaw26_RpcCarries_c81, .inBlock 5, .code trellislaw26_RpcCarries_c76, .inLoop trellislaw26_RpcCarries_c68, .inBlock 4, .code trellislaw26_RpcCarries_c64] [(0, .slice A2 n3 c4), (1, .slice A7 n8 c9), (7, .slice A1251 n1252 c1253), (8, .slice A393 n394 c395), (13, .slice A1258 n1259 c1260), (14, .int .i64 x1266), (15, .int .i64 x1267), (16, .int .i64 x1428)] [.own (.slice A1258 n1259 c1260) 22 1 n1259 cs1262, .own (.slice A393 n394 c395) 3 1 n394 (x392.flatMap (eI .i64))] [Sm w.heap.size F sw1254 sb1255, Sm w.heap.size F sw1263 sb1264, Sm w.heap.size F w [], St w []] := by
                    intro x1428 h
                    unfold trellislaw26_RpcCarries_j7 at h
                    refine g_seq (c := trellislaw26_RpcCarries_c81) rfl ?_
                    refine g_seq (c := trellislaw26_RpcCarries_c86) rfl ?_
                    refine g_region (c := trellislaw26_RpcCarries_c88) rfl rfl ?_
                    refine wl_v 0 rfl (v_move rfl) gn rfl ?_
                    refine wl_v 1 rfl (v_move rfl) gn rfl ?_
                    refine wl_v 2 rfl (v_lenQ un_22 rfl h1256.hq) gn rfl ?_
                    refine wl_v 3 rfl (v_move rfl) gn rfl ?_
                    refine wl_v 4 rfl (v_bin rfl rfl rfl) gn rfl ?_
                    refine wl_v 5 rfl (v_bin rfl rfl rfl) gn rfl ?_
                    refine w_end 6 rfl ?_
                    have j8 : ∀ (x1431 : Int) (h : trellislaw26_RpcCarries_j8 x1266 x1085 x1257 x1267 x1431 o2) , G (trellislaw26_RpcCarries_C w F r) [.code trellislaw26_RpcCarries_c87, .inBlock 5, .code trellislaw26_RpcCarries_c76, .inLoop trellislaw26_RpcCarries_c68, .inBlock 4, .code trellislaw26_RpcCarries_c64] [(0, .slice A2 n3 c4), (1, .slice A7 n8 c9), (7, .slice A1251 n1252 c1253), (8, .slice A393 n394 c395), (13, .slice A1258 n1259 c1260), (14, .int .i64 x1266), (15, .int .i64 x1267), (16, .int .i64 x1431)] [.own (.slice A1258 n1259 c1260) 22 1 n1259 cs1262, .own (.slice A393 n394 c395) 3 1 n394 (x392.flatMap (eI .i64))] [Sm w.heap.size F sw1254 sb1255, Sm w.heap.size F sw1263 sb1264, Sm w.heap.size F w [], St w []] := by
                      intro x1431 h
                      unfold trellislaw26_RpcCarries_j8 at h
                      refine g_seq (c := trellislaw26_RpcCarries_c87) rfl ?_
                      refine g_region (c := trellislaw26_RpcCarries_c92) rfl rfl ?_
                      refine wl_v 0 rfl (v_move rfl) gn rfl ?_
                      refine wl_v 1 rfl (v_move rfl) gn rfl ?_
                      refine wl_v 2 rfl (v_move rfl) gn rfl ?_
                      refine wl_v 3 rfl (v_move rfl) gn rfl ?_
                      refine wl_v 4 rfl (v_move rfl) gn rfl ?_
                      refine wl_v 5 rfl (v_bin rfl rfl rfl) gn rfl ?_
                      obtain ⟨hb1432, h⟩ := h
                      have h1433 := Rw.cut (sz := 1) (lv := x1266) (hv := w64 (x1266 + x1431)) (mv := ((c1253 : Nat) : Int)) h1256 rfl (by have q := hb1432; have q1 := h1256.hq; have q2 := h1256.hn; omega) (by have q := hb1432; have q1 := h1256.hq; have q2 := h1256.hn; omega) (by have q := hb1432; have q1 := h1256.hq; have q2 := h1256.hn; omega)
                      refine wl_v 6 rfl (v_cut (sz := 1) (n := n1252) (c := c1253) x1266 (w64 (x1266 + x1431)) ((c1253 : Nat) : Int) slE_22 rfl (by_ rfl) (by_ rfl) bn (by have q := hb1432; have q1 := h1256.hq; have q2 := h1256.hn; omega) (by have q := hb1432; have q1 := h1256.hq; have q2 := h1256.hn; omega) (by have q := hb1432; have q1 := h1256.hq; have q2 := h1256.hn; omega) h1256.hn rfl) gn rfl ?_
                      have hC1435 : Cells (Kd.slice (kInt .u8)) (Sm w.heap.size F sw1254 sb1255).w (Sm w.heap.size F sw1254 sb1255).av ([((x1085.take (w64 (x1266 + x1431) : Int).toNat).drop (x1266 : Int).toNat)] : List (List Int)) [.slice (if (((c1253 : Nat) : Int) : Int).toNat = (x1266 : Int).toNat then A1251 else A1251.map (·.add ((x1266 : Int).toNat * 1))) ((w64 (x1266 + x1431) : Int).toNat - (x1266 : Int).toNat) ((((c1253 : Nat) : Int) : Int).toNat - (x1266 : Int).toNat)] := (Cells.cons (c1 := [.slice (if (((c1253 : Nat) : Int) : Int).toNat = (x1266 : Int).toNat then A1251 else A1251.map (·.add ((x1266 : Int).toNat * 1))) ((w64 (x1266 + x1431) : Int).toNat - (x1266 : Int).toNat) ((((c1253 : Nat) : Int) : Int).toNat - (x1266 : Int).toNat)]) ⟨(if (((c1253 : Nat) : Int) : Int).toNat = (x1266 : Int).toNat then A1251 else A1251.map (·.add ((x1266 : Int).toNat * 1))), (w64 (x1266 + x1431) : Int).toNat - (x1266 : Int).toNat, (((c1253 : Nat) : Int) : Int).toNat - (x1266 : Int).toNat, rfl, h1433⟩ Cells.nil)
                      refine wl_s 7 rfl (s_litO (xs := ([((x1085.take (w64 (x1266 + x1431) : Int).toNat).drop (x1266 : Int).toNat)] : List (List Int))) [.slice (if (((c1253 : Nat) : Int) : Int).toNat = (x1266 : Int).toNat then A1251 else A1251.map (·.add ((x1266 : Int).toNat * 1))) ((w64 (x1266 + x1431) : Int).toNat - (x1266 : Int).toNat) ((((c1253 : Nat) : Int) : Int).toNat - (x1266 : Int).toNat)] bs_34_1 rfl (by kernel_rfl) rfl rfl rfl rfl fun gb1436 h1437 => ?_) gn
                      obtain ⟨x1444, hv1445, h⟩ := h
                      obtain ⟨hb1446, h⟩ := h
                      refine w_mark (F := F) fun sw1441 sb1442 ho1443 => ?_
                      obtain ⟨cs1447, hc1448⟩ : ∃ x : List Value, x = cs1262 ++ [.slice (if (((c1253 : Nat) : Int) : Int).toNat = (x1266 : Int).toNat then A1251 else A1251.map (·.add ((x1266 : Int).toNat * 1))) ((w64 (x1266 + x1431) : Int).toNat - (x1266 : Int).toNat) ((((c1253 : Nat) : Int) : Int).toNat - (x1266 : Int).toNat)] := ⟨_, rfl⟩
                      have hC1449 : Cells (Kd.slice (kInt .u8)) (Sm w.heap.size F sw1441 sb1442).w (Sm w.heap.size F sw1441 sb1442).av x1444 cs1447 := by rw [hv1445, hc1448]; exact Cells.app (Cells.older (s := Sm w.heap.size F sw1263 sb1264) hC1265 (ho1443 _ (me 1 rfl) Sm.ok)) (Cells.older (s := Sm w.heap.size F sw1254 sb1255) hC1435 (ho1443 _ (me 0 rfl) Sm.ok))
                      refine wl_s 8 rfl (s_app (zs := x1444) 1 ap_34 rfl rfl rfl h1261 (Nat.le_refl _) (Src.ownAll 0 rfl h1437 hC1435) hc1448.symm (app_len hv1445 h1437.hq) hb1446 rfl rfl fun A1438 c1439 h1440 => ?_) gn
                      refine wl_v 9 rfl (v_assign rfl) gn rfl ?_
                      refine w_end 10 rfl ?_
                      refine g_region (c := trellislaw26_RpcCarries_c93) rfl rfl ?_
                      refine wl_v 0 rfl (v_move rfl) gn rfl ?_
                      refine wl_v 1 rfl (v_move rfl) gn rfl ?_
                      refine wl_v 2 rfl (v_bin rfl rfl rfl) gn rfl ?_
                      refine wl_v 3 rfl (v_assign rfl) gn rfl ?_
                      refine w_end 4 rfl ?_
                      refine g_inBlock ?_
                      refine g_region (c := trellislaw26_RpcCarries_c76) rfl rfl ?_
                      refine wl_v 0 rfl (v_move rfl) gn rfl ?_
                      refine wl_v 1 rfl (v_bin rfl rfl rfl) gn rfl ?_
                      refine wl_v 2 rfl (v_assign rfl) gn rfl ?_
                      refine w_end 3 rfl ?_
                      refine g_inLoop ?_
                      have ih := Out.inl hO2 h
                      exact g_go [1, 0, 3, 4] (ih A1251 n1252 c1253 sw1254 sb1255 h1256 A1438 (n1259 + 1) c1439 h1440 cs1447 sw1441 sb1442 hC1449) ⟨rfl, rfl, rfl, rfl, rfl, rfl, rfl, trivial⟩ (.cons _ (.cons_cons _ (.cons_cons _ (.slnil)))) rfl
                    by_cases hp1429 : x1428 > w64 ((x1085.length : Int) - x1266)
                    · have h := if_pos' hp1429 h
                      refine g_true (c := trellislaw26_RpcCarries_c89) rfl _ rfl ((decide_eq_true hp1429)) ?_
                      refine g_region (c := trellislaw26_RpcCarries_c90) rfl rfl ?_
                      refine wl_v 0 rfl (v_move rfl) gn rfl ?_
                      refine wl_v 1 rfl (v_lenQ un_22 rfl h1256.hq) gn rfl ?_
                      refine wl_v 2 rfl (v_move rfl) gn rfl ?_
                      refine wl_v 3 rfl (v_bin rfl rfl rfl) gn rfl ?_
                      refine wl_v 4 rfl (v_assign rfl) gn rfl ?_
                      refine w_end 5 rfl ?_
                      exact g_go [0, 1, 2, 3] (j8 (w64 ((x1085.length : Int) - x1266)) h) ⟨rfl, rfl, rfl, rfl, rfl, rfl, rfl, rfl, trivial⟩ (.cons_cons _ (.cons_cons _ (.slnil))) rfl
                    · have h := if_neg' hp1429 h
                      refine g_false (c := trellislaw26_RpcCarries_c89) rfl _ rfl ((decide_eq_false hp1429)) ?_
                      refine g_skip (c := trellislaw26_RpcCarries_c91) rfl ?_
                      exact g_go [0, 1, 2, 3] (j8 x1428 h) ⟨rfl, rfl, rfl, rfl, rfl, rfl, rfl, rfl, trivial⟩ (.cons_cons _ (.cons_cons _ (.slnil))) rfl
                  by_cases hp1426 : ix x6 x1267 < 0
                  · have h := if_pos' hp1426 h
                    refine g_true (c := trellislaw26_RpcCarries_c83) rfl _ rfl ((decide_eq_true hp1426)) ?_
                    refine g_region (c := trellislaw26_RpcCarries_c84) rfl rfl ?_
                    refine wl_v 0 rfl (v_assign rfl) gn rfl ?_
                    refine w_end 1 rfl ?_
                    exact g_go [0, 1, 2, 3] (j7 0 h) ⟨rfl, rfl, rfl, rfl, rfl, rfl, rfl, rfl, trivial⟩ (.cons_cons _ (.cons_cons _ (.slnil))) rfl
                  · have h := if_neg' hp1426 h
                    refine g_false (c := trellislaw26_RpcCarries_c83) rfl _ rfl ((decide_eq_false hp1426)) ?_
                    refine g_skip (c := trellislaw26_RpcCarries_c85) rfl ?_
                    exact g_go [0, 1, 2, 3] (j7 (ix x6 x1267) h) ⟨rfl, rfl, rfl, rfl, rfl, rfl, rfl, rfl, trivial⟩ (.cons_cons _ (.cons_cons _ (.slnil))) rfl
                · have h := if_neg' hp1423 h
                  refine g_false (c := trellislaw26_RpcCarries_c72) rfl _ rfl ((bf hp1423)) ?_
                  refine g_exit (c := trellislaw26_RpcCarries_c74) [.code trellislaw26_RpcCarries_c64] rfl rfl ?_
                  refine g_seq (c := trellislaw26_RpcCarries_c64) rfl ?_
                  refine g_region (c := trellislaw26_RpcCarries_c94) rfl rfl ?_
                  refine wl_v 0 rfl (v_move rfl) gn rfl ?_
                  refine wl_v 1 rfl (v_move rfl) gn rfl ?_
                  refine wl_v 2 rfl (v_move rfl) gn rfl ?_
                  obtain ⟨hb1450, h⟩ := h
                  have h1451 := Rw.cut (sz := 1) (lv := x1266) (hv := ((n1252 : Nat) : Int)) (mv := ((c1253 : Nat) : Int)) h1256 rfl (by have q := hb1450; have q1 := h1256.hq; have q2 := h1256.hn; omega) (by have q := hb1450; have q1 := h1256.hq; have q2 := h1256.hn; omega) (by have q := hb1450; have q1 := h1256.hq; have q2 := h1256.hn; omega)
                  rw [cut_all h1256.hq] at h1451
                  refine wl_v 3 rfl (v_cut (sz := 1) (n := n1252) (c := c1253) x1266 ((n1252 : Nat) : Int) ((c1253 : Nat) : Int) slE_22 rfl (by_ rfl) bn bn (by have q := hb1450; have q1 := h1256.hq; have q2 := h1256.hn; omega) (by have q := hb1450; have q1 := h1256.hq; have q2 := h1256.hn; omega) (by have q := hb1450; have q1 := h1256.hq; have q2 := h1256.hn; omega) h1256.hn rfl) gn rfl ?_
                  have hC1453 : Cells (Kd.slice (kInt .u8)) (Sm w.heap.size F sw1254 sb1255).w (Sm w.heap.size F sw1254 sb1255).av ([(x1085.drop (x1266 : Int).toNat)] : List (List Int)) [.slice (if (((c1253 : Nat) : Int) : Int).toNat = (x1266 : Int).toNat then A1251 else A1251.map (·.add ((x1266 : Int).toNat * 1))) ((((n1252 : Nat) : Int) : Int).toNat - (x1266 : Int).toNat) ((((c1253 : Nat) : Int) : Int).toNat - (x1266 : Int).toNat)] := (Cells.cons (c1 := [.slice (if (((c1253 : Nat) : Int) : Int).toNat = (x1266 : Int).toNat then A1251 else A1251.map (·.add ((x1266 : Int).toNat * 1))) ((((n1252 : Nat) : Int) : Int).toNat - (x1266 : Int).toNat) ((((c1253 : Nat) : Int) : Int).toNat - (x1266 : Int).toNat)]) ⟨(if (((c1253 : Nat) : Int) : Int).toNat = (x1266 : Int).toNat then A1251 else A1251.map (·.add ((x1266 : Int).toNat * 1))), (((n1252 : Nat) : Int) : Int).toNat - (x1266 : Int).toNat, (((c1253 : Nat) : Int) : Int).toNat - (x1266 : Int).toNat, rfl, h1451⟩ Cells.nil)
                  refine wl_s 4 rfl (s_litO (xs := ([(x1085.drop (x1266 : Int).toNat)] : List (List Int))) [.slice (if (((c1253 : Nat) : Int) : Int).toNat = (x1266 : Int).toNat then A1251 else A1251.map (·.add ((x1266 : Int).toNat * 1))) ((((n1252 : Nat) : Int) : Int).toNat - (x1266 : Int).toNat) ((((c1253 : Nat) : Int) : Int).toNat - (x1266 : Int).toNat)] bs_34_1 rfl (by kernel_rfl) rfl rfl rfl rfl fun gb1454 h1455 => ?_) gn
                  obtain ⟨x1462, hv1463, h⟩ := h
                  obtain ⟨hb1464, h⟩ := h
                  refine w_mark (F := F) fun sw1459 sb1460 ho1461 => ?_
                  obtain ⟨cs1465, hc1466⟩ : ∃ x : List Value, x = cs1262 ++ [.slice (if (((c1253 : Nat) : Int) : Int).toNat = (x1266 : Int).toNat then A1251 else A1251.map (·.add ((x1266 : Int).toNat * 1))) ((((n1252 : Nat) : Int) : Int).toNat - (x1266 : Int).toNat) ((((c1253 : Nat) : Int) : Int).toNat - (x1266 : Int).toNat)] := ⟨_, rfl⟩
                  have hC1467 : Cells (Kd.slice (kInt .u8)) (Sm w.heap.size F sw1459 sb1460).w (Sm w.heap.size F sw1459 sb1460).av x1462 cs1465 := by rw [hv1463, hc1466]; exact Cells.app (Cells.older (s := Sm w.heap.size F sw1263 sb1264) hC1265 (ho1461 _ (me 1 rfl) Sm.ok)) (Cells.older (s := Sm w.heap.size F sw1254 sb1255) hC1453 (ho1461 _ (me 0 rfl) Sm.ok))
                  refine wl_s 5 rfl (s_app (zs := x1462) 1 ap_34 rfl rfl rfl h1261 (Nat.le_refl _) (Src.ownAll 0 rfl h1455 hC1453) hc1466.symm (app_len hv1463 h1455.hq) hb1464 rfl rfl fun A1456 c1457 h1458 => ?_) gn
                  refine wl_v 6 rfl (v_assign rfl) gn rfl ?_
                  refine w_end 7 rfl ?_
                  refine g_seq (c := trellislaw26_RpcCarries_c95) rfl ?_
                  refine g_region (c := trellislaw26_RpcCarries_c96) rfl rfl ?_
                  refine wl_v 0 rfl (v_move rfl) gn rfl ?_
                  obtain ⟨r1471, hv1472, h⟩ := h
                  refine wl_s 1 rfl (s_call [.slice A1456 (n1259 + 1) c1457] rfl Tryd.func16 rfl rfl rfl fun w1468 hL1469 => ?_) gn
                  have hp1470 : List.Perm ([.own (.slice (some ⟨gb1454, 0, none⟩) 1 1) 22 1 1 [.slice (if (((c1253 : Nat) : Int) : Int).toNat = (x1266 : Int).toNat then A1251 else A1251.map (·.add ((x1266 : Int).toNat * 1))) ((((n1252 : Nat) : Int) : Int).toNat - (x1266 : Int).toNat) ((((c1253 : Nat) : Int) : Int).toNat - (x1266 : Int).toNat)], .own (.slice A1456 (n1259 + 1) c1457) 22 1 (n1259 + 1) cs1465, .own (.slice A393 n394 c395) 3 1 n394 (x392.flatMap (eI .i64))] : List Ent) (([] : List Ent) ++ ([.own (.slice (some ⟨gb1454, 0, none⟩) 1 1) 22 1 1 [.slice (if (((c1253 : Nat) : Int) : Int).toNat = (x1266 : Int).toNat then A1251 else A1251.map (·.add ((x1266 : Int).toNat * 1))) ((((n1252 : Nat) : Int) : Int).toNat - (x1266 : Int).toNat) ((((c1253 : Nat) : Int) : Int).toNat - (x1266 : Int).toNat)], .own (.slice A1456 (n1259 + 1) c1457) 22 1 (n1259 + 1) cs1465, .own (.slice A393 n394 c395) 3 1 n394 (x392.flatMap (eI .i64))] : List Ent)) := perm_of_idx [] [0, 1, 2] rfl rfl (by kernel_rfl)
                  refine Calls.mono (trellislaw26_feed_calls w1468 (Fl ([] : List Snap)) x1462 A1456 (n1259 + 1) c1457 (hL1469.argO (dk := (Kd.slice (kInt .u8))) hp1470 [] rfl 1 rfl rfl h1458 (me 0 rfl) hC1467) (hL1469.hFl (Sl := ([] : List Snap)) hp1470 (sels [] rfl)) (hL1469.into hp1470 (Fl ([] : List Snap))) r1471 hv1472) ?_
                  rintro _ w1478 ⟨A1473, n1474, c1475, rfl, hM1479, h1476⟩
                  have hL1480 := hL1469.call hp1470 hM1479
                  refine ⟨_, _, _, rfl, hL1480, ?_⟩
                  refine wl_v 2 rfl (v_move rfl) gn rfl ?_
                  refine wl_v 3 rfl (v_extract rfl rfl) gn rfl ?_
                  refine wl_v 4 rfl (v_extract rfl rfl) gn rfl ?_
                  refine wl_v 5 rfl (v_extract rfl rfl) gn rfl ?_
                  refine wl_v 6 rfl (v_extract rfl rfl) gn rfl ?_
                  refine wl_v 7 rfl (v_assign rfl) gn rfl ?_
                  refine wl_v 8 rfl (v_assign rfl) gn rfl ?_
                  refine wl_v 9 rfl (v_assign rfl) gn rfl ?_
                  refine wl_v 10 rfl (v_assign rfl) gn rfl ?_
                  refine w_end 11 rfl ?_
                  refine g_seq (c := trellislaw26_RpcCarries_c97) rfl ?_
                  refine g_region (c := trellislaw26_RpcCarries_c98) rfl rfl ?_
                  refine wl_v 0 rfl (v_assign rfl) gn rfl ?_
                  refine w_end 1 rfl ?_
                  refine g_seq (c := trellislaw26_RpcCarries_c99) rfl ?_
                  refine g_region (c := trellislaw26_RpcCarries_c100) rfl rfl ?_
                  refine wl_v 0 rfl (v_assign rfl) gn rfl ?_
                  refine w_end 1 rfl ?_
                  refine g_seq (c := trellislaw26_RpcCarries_c101) rfl ?_
                  refine g_block (c := trellislaw26_RpcCarries_c102) rfl ?_
                  refine g_loop (c := trellislaw26_RpcCarries_c104) rfl ?_
                  have key9 : ∀ s, Rounds (fun (s : Int × Int) o => trellislaw26_RpcCarries_b9 x392 x1085 r1471 x1 s.1 s.2 o) s o2 → (fun (s : Int × Int) => ∀ (_ : Unit), G (trellislaw26_RpcCarries_C w F r) [.code trellislaw26_RpcCarries_c105, .inLoop trellislaw26_RpcCarries_c105, .inBlock 6, .code trellislaw26_RpcCarries_c103] [(0, .slice A2 n3 c4), (7, .slice A1251 n1252 c1253), (8, .slice A393 n394 c395), (17, .slice A1473 n1474 c1475), (18, .int .i64 r1471.2.1), (19, .int .i64 r1471.2.2.1), (20, .bool r1471.2.2.2), (21, .int .i64 s.1), (22, .int .i64 s.2)] [.own (.slice A1473 n1474 c1475) 9 1 n1474 (r1471.1.flatMap eS), .own (.slice A393 n394 c395) 3 1 n394 (x392.flatMap (eI .i64))] [Sm w.heap.size F sw1459 sb1460, Sm w.heap.size F sw1254 sb1255, Sm w.heap.size F sw1263 sb1264, Sm w.heap.size F w [], St w []]) s := by
                    intro s hs
                    refine Rounds.ind (mot := (fun (s : Int × Int) => ∀ (_ : Unit), G (trellislaw26_RpcCarries_C w F r) [.code trellislaw26_RpcCarries_c105, .inLoop trellislaw26_RpcCarries_c105, .inBlock 6, .code trellislaw26_RpcCarries_c103] [(0, .slice A2 n3 c4), (7, .slice A1251 n1252 c1253), (8, .slice A393 n394 c395), (17, .slice A1473 n1474 c1475), (18, .int .i64 r1471.2.1), (19, .int .i64 r1471.2.2.1), (20, .bool r1471.2.2.2), (21, .int .i64 s.1), (22, .int .i64 s.2)] [.own (.slice A1473 n1474 c1475) 9 1 n1474 (r1471.1.flatMap eS), .own (.slice A393 n394 c395) 3 1 n394 (x392.flatMap (eI .i64))] [Sm w.heap.size F sw1459 sb1460, Sm w.heap.size F sw1254 sb1255, Sm w.heap.size F sw1263 sb1264, Sm w.heap.size F w [], St w []])) ?_ hs
                    clear hs s
                    intro s o3 h hO3
                    obtain ⟨x1511, x1512⟩ := s
                    show ∀ (_ : Unit), G (trellislaw26_RpcCarries_C w F r) [.code trellislaw26_RpcCarries_c105, .inLoop trellislaw26_RpcCarries_c105, .inBlock 6, .code trellislaw26_RpcCarries_c103] [(0, .slice A2 n3 c4), (7, .slice A1251 n1252 c1253), (8, .slice A393 n394 c395), (17, .slice A1473 n1474 c1475), (18, .int .i64 r1471.2.1), (19, .int .i64 r1471.2.2.1), (20, .bool r1471.2.2.2), (21, .int .i64 x1511), (22, .int .i64 x1512)] [.own (.slice A1473 n1474 c1475) 9 1 n1474 (r1471.1.flatMap eS), .own (.slice A393 n394 c395) 3 1 n394 (x392.flatMap (eI .i64))] [Sm w.heap.size F sw1459 sb1460, Sm w.heap.size F sw1254 sb1255, Sm w.heap.size F sw1263 sb1264, Sm w.heap.size F w [], St w []]
                    intro _
                    have h : trellislaw26_RpcCarries_b9 x392 x1085 r1471 x1 x1511 x1512 o3 := h
                    unfold trellislaw26_RpcCarries_b9 at h
                    refine g_seq (c := trellislaw26_RpcCarries_c105) rfl ?_
                    refine g_seq (c := trellislaw26_RpcCarries_c106) rfl ?_
                    refine g_region (c := trellislaw26_RpcCarries_c108) rfl rfl ?_
                    refine wl_v 0 rfl (v_move rfl) gn rfl ?_
                    refine wl_v 1 rfl (v_move rfl) gn rfl ?_
                    refine wl_v 2 rfl (v_lenQ un_40 rfl h396.hq) gn rfl ?_
                    refine wl_v 3 rfl (v_bin rfl rfl rfl) gn rfl ?_
                    refine wl_v 4 rfl (v_move rfl) gn rfl ?_
                    by_cases hp1542 : x1511 < (x392.length : Int)
                    · have h := if_pos' hp1542 h
                      refine w_bool 136 rfl ((decide_eq_true hp1542)) ?_
                      refine wl_v 5 rfl (v_move rfl) (gy 136 rfl rfl) rfl ?_
                      refine wl_v 6 rfl (v_move rfl) (gy 136 rfl rfl) rfl ?_
                      obtain ⟨hb1543, h⟩ := h
                      refine wl_v 7 rfl (v_idxO slE_40 rfl rfl h396 hb1543) (gy 136 rfl rfl) rfl ?_
                      refine wl_v 8 rfl (v_ldO1 (.int .i64 (ix x392 x1511)) 1 ld_3 rfl rfl (fm_get0 (hlI .i64) hb1543 rfl)) (gy 136 rfl rfl) rfl ?_
                      refine wl_v 9 rfl (v_move rfl) (gy 136 rfl rfl) rfl ?_
                      refine wl_v 10 rfl (v_lenQ un_22 rfl h1256.hq) (gy 136 rfl rfl) rfl ?_
                      refine wl_v 11 rfl (v_bin rfl rfl rfl) (gy 136 rfl rfl) rfl ?_
                      refine wl_v 12 rfl (v_pick (b := true) rfl rfl) gn rfl ?_
                      refine w_end 13 rfl ?_
                      by_cases hp1544 : ix x392 x1511 ≤ (x1085.length : Int)
                      · have h := if_pos' hp1544 h
                        refine g_true (c := trellislaw26_RpcCarries_c109) rfl _ rfl ((decide_eq_true hp1544)) ?_
                        refine g_skip (c := trellislaw26_RpcCarries_c110) rfl ?_
                        refine g_block (c := trellislaw26_RpcCarries_c107) rfl ?_
                        refine g_seq (c := trellislaw26_RpcCarries_c114) rfl ?_
                        refine g_region (c := trellislaw26_RpcCarries_c115) rfl rfl ?_
                        refine wl_v 0 rfl (v_move rfl) gn rfl ?_
                        refine wl_v 1 rfl (v_move rfl) gn rfl ?_
                        refine wl_v 2 rfl (v_idxO slE_40 rfl rfl h396 hb1543) gn rfl ?_
                        refine wl_v 3 rfl (v_ldO1 (.int .i64 (ix x392 x1511)) 1 ld_3 rfl rfl (fm_get0 (hlI .i64) hb1543 rfl)) gn rfl ?_
                        refine wl_v 4 rfl (v_assign rfl) gn rfl ?_
                        refine w_end 5 rfl ?_
                        refine g_region (c := trellislaw26_RpcCarries_c116) rfl rfl ?_
                        refine wl_v 0 rfl (v_move rfl) gn rfl ?_
                        refine wl_v 1 rfl (v_bin rfl rfl rfl) gn rfl ?_
                        refine wl_v 2 rfl (v_assign rfl) gn rfl ?_
                        refine w_end 3 rfl ?_
                        refine g_inBlock ?_
                        refine g_inLoop ?_
                        have ih := Out.inl hO3 h
                        exact g_go [0, 1, 2, 3, 4] (ih ()) ⟨rfl, rfl, rfl, rfl, rfl, rfl, rfl, rfl, rfl, trivial⟩ (.cons_cons _ (.cons_cons _ (.slnil))) rfl
                      · have h := if_neg' hp1544 h
                        refine g_false (c := trellislaw26_RpcCarries_c109) rfl _ rfl ((decide_eq_false hp1544)) ?_
                        refine g_exit (c := trellislaw26_RpcCarries_c111) [.code trellislaw26_RpcCarries_c103] rfl rfl ?_
                        refine g_seq (c := trellislaw26_RpcCarries_c103) rfl ?_
                        refine g_region (c := trellislaw26_RpcCarries_c112) rfl rfl ?_
                        refine wl_v 0 rfl (v_move rfl) gn rfl ?_
                        refine wl_v 1 rfl (v_move rfl) gn rfl ?_
                        by_cases hp1545 : r1471.2.2.2 = true
                        · have h := if_pos' hp1545 h
                          refine w_bool 152 rfl (hp1545) ?_
                          refine wl_v 2 rfl (v_move rfl) (gy 152 rfl rfl) rfl ?_
                          refine wl_v 3 rfl (v_bin rfl rfl rfl) (gy 152 rfl rfl) rfl ?_
                          refine wl_v 4 rfl (v_pick (b := true) rfl rfl) gn rfl ?_
                          refine wl_v 5 rfl (v_move rfl) gn rfl ?_
                          by_cases hp1546 : r1471.2.1 = 0
                          · have h := if_pos' hp1546 h
                            refine w_bool 156 rfl ((eqi hp1546)) ?_
                            refine wl_v 6 rfl (v_move rfl) (gy 156 rfl rfl) rfl ?_
                            refine wl_v 7 rfl (v_move rfl) (gy 156 rfl rfl) rfl ?_
                            refine wl_v 8 rfl (v_move rfl) (gy 156 rfl rfl) rfl ?_
                            obtain ⟨hb1547, h⟩ := h
                            have h1548 := Rw.cutHi (hv := x1511) h5 (by have q := hb1547; have q1 := h5.hq; have q2 := h5.hn; omega)
                            refine wl_v 9 rfl (v_cutHi (i := x1511) slE_35 rfl rfl (by have q := hb1547; have q1 := h5.hq; have q2 := h5.hn; omega) h5.hn rfl) (gy 156 rfl rfl) rfl ?_
                            obtain ⟨r1552, hv1553, h⟩ := h
                            refine wl_s 10 rfl (s_call [.slice A1473 n1474 c1475, .slice A2 ((x1511 : Int).toNat) c4] rfl Tryd.func17 rfl rfl rfl fun w1549 hL1550 => ?_) (gy 156 rfl rfl)
                            have hp1551 : List.Perm ([.own (.slice A1473 n1474 c1475) 9 1 n1474 (r1471.1.flatMap eS), .own (.slice A393 n394 c395) 3 1 n394 (x392.flatMap (eI .i64))] : List Ent) (([] : List Ent) ++ ([.own (.slice A1473 n1474 c1475) 9 1 n1474 (r1471.1.flatMap eS), .own (.slice A393 n394 c395) 3 1 n394 (x392.flatMap (eI .i64))] : List Ent)) := perm_of_idx [] [0, 1] rfl rfl (by kernel_rfl)
                            refine Calls.mono (trellislaw26_sameTexts_calls w1549 (Fl ([] : List Snap)) r1471.1 (x1.take (x1511 : Int).toNat) A1473 n1474 c1475 A2 ((x1511 : Int).toNat) c4 (hL1550.argO (dk := kStr) hp1551 [] rfl 0 rfl rfl (Ow.weak hL1469.env.size h1476) (me 3 rfl) (Cells.flat _)) (Rw.mono h1548 (hL1550.toSt hp1551 (me 4 rfl))) (hL1550.hFl (Sl := ([] : List Snap)) hp1551 (sels [] rfl)) (hL1550.into hp1551 (Fl ([] : List Snap))) r1552 hv1553) ?_
                            rintro _ w1554 ⟨rfl, hM1555⟩
                            have hL1556 := hL1550.call hp1551 hM1555
                            refine ⟨_, _, _, rfl, hL1556, ?_⟩
                            refine wl_v 11 rfl (v_pick (b := true) rfl rfl) gn rfl ?_
                            refine wl_v 12 rfl (v_move rfl) gn rfl ?_
                            by_cases hp1557 : r1552 = true
                            · have h := if_pos' hp1557 h
                              refine w_bool 163 rfl (hp1557) ?_
                              refine wl_v 13 rfl (v_move rfl) (gy 163 rfl rfl) rfl ?_
                              refine wl_v 14 rfl (v_move rfl) (gy 163 rfl rfl) rfl ?_
                              refine wl_v 15 rfl (v_lenQ un_22 rfl h1256.hq) (gy 163 rfl rfl) rfl ?_
                              refine wl_v 16 rfl (v_move rfl) (gy 163 rfl rfl) rfl ?_
                              refine wl_v 17 rfl (v_bin rfl rfl rfl) (gy 163 rfl rfl) rfl ?_
                              refine wl_v 18 rfl (v_bin rfl rfl rfl) (gy 163 rfl rfl) rfl ?_
                              refine wl_v 19 rfl (v_pick (b := true) rfl rfl) gn rfl ?_
                              refine wl_v 20 rfl (v_assign rfl) gn rfl ?_
                              refine w_end 21 rfl ?_
                              have h := Out.inr hO3 h
                              have h := Out.inr hO2 h
                              have h := Out.inr hO1 h
                              refine g_retR (c := trellislaw26_RpcCarries_c113) [.bool (r1471.2.2.1 == (w64 ((x1085.length : Int) - x1512)))] rfl Tryd.func7 rfl (.tmp rfl (.nil)) fun wr hLr => ?_
                              have hMr : B.Loc w wr [] [St w []] := hLr.pick (rest := [.own (.slice A1473 n1474 c1475) 9 1 n1474 (r1471.1.flatMap eS), .own (.slice A393 n394 c395) 3 1 n394 (x392.flatMap (eI .i64))]) (perm_of_idx [] [0, 1] rfl rfl (by kernel_rfl)) (sels [4] rfl)
                              have hMi : ∀ e ∈ ([] : List Ent), e ∈ ([.own (.slice A1473 n1474 c1475) 9 1 n1474 (r1471.1.flatMap eS), .own (.slice A393 n394 c395) 3 1 n394 (x392.flatMap (eI .i64))] : List Ent) := sels [] rfl
                              show trellislaw26_RpcCarries_R w F  r (.returned (packV [.bool (r1471.2.2.1 == (w64 ((x1085.length : Int) - x1512)))])) wr
                              rw [h]
                              exact ⟨rfl, hMr⟩
                            · have h := if_neg' hp1557 h
                              refine w_bool 163 rfl ((bf hp1557)) ?_
                              refine wl_pass 13 rfl (ps 163 rfl rfl rfl) ?_
                              refine wl_pass 14 rfl (ps 163 rfl rfl rfl) ?_
                              refine wl_pass 15 rfl (ps 163 rfl rfl rfl) ?_
                              refine wl_pass 16 rfl (ps 163 rfl rfl rfl) ?_
                              refine wl_pass 17 rfl (ps 163 rfl rfl rfl) ?_
                              refine wl_pass 18 rfl (ps 163 rfl rfl rfl) ?_
                              refine wl_v 19 rfl (v_pick (b := false) rfl rfl) gn rfl ?_
                              refine wl_v 20 rfl (v_assign rfl) gn rfl ?_
                              refine w_end 21 rfl ?_
                              have h := Out.inr hO3 h
                              have h := Out.inr hO2 h
                              have h := Out.inr hO1 h
                              refine g_retR (c := trellislaw26_RpcCarries_c113) [.bool false] rfl Tryd.func7 rfl (.tmp rfl (.nil)) fun wr hLr => ?_
                              have hMr : B.Loc w wr [] [St w []] := hLr.pick (rest := [.own (.slice A1473 n1474 c1475) 9 1 n1474 (r1471.1.flatMap eS), .own (.slice A393 n394 c395) 3 1 n394 (x392.flatMap (eI .i64))]) (perm_of_idx [] [0, 1] rfl rfl (by kernel_rfl)) (sels [4] rfl)
                              have hMi : ∀ e ∈ ([] : List Ent), e ∈ ([.own (.slice A1473 n1474 c1475) 9 1 n1474 (r1471.1.flatMap eS), .own (.slice A393 n394 c395) 3 1 n394 (x392.flatMap (eI .i64))] : List Ent) := sels [] rfl
                              show trellislaw26_RpcCarries_R w F  r (.returned (packV [.bool false])) wr
                              rw [h]
                              exact ⟨rfl, hMr⟩
                          · have h := if_neg' hp1546 h
                            refine w_bool 156 rfl ((nei hp1546)) ?_
                            refine wl_pass 6 rfl (ps 156 rfl rfl rfl) ?_
                            refine wl_pass 7 rfl (ps 156 rfl rfl rfl) ?_
                            refine wl_pass 8 rfl (ps 156 rfl rfl rfl) ?_
                            refine wl_pass 9 rfl (ps 156 rfl rfl rfl) ?_
                            refine wl_pass 10 rfl (ps 156 rfl rfl rfl) ?_
                            refine wl_v 11 rfl (v_pick (b := false) rfl rfl) gn rfl ?_
                            refine wl_v 12 rfl (v_move rfl) gn rfl ?_
                            refine wl_pass 13 rfl (ps 163 rfl rfl rfl) ?_
                            refine wl_pass 14 rfl (ps 163 rfl rfl rfl) ?_
                            refine wl_pass 15 rfl (ps 163 rfl rfl rfl) ?_
                            refine wl_pass 16 rfl (ps 163 rfl rfl rfl) ?_
                            refine wl_pass 17 rfl (ps 163 rfl rfl rfl) ?_
                            refine wl_pass 18 rfl (ps 163 rfl rfl rfl) ?_
                            refine wl_v 19 rfl (v_pick (b := false) rfl rfl) gn rfl ?_
                            refine wl_v 20 rfl (v_assign rfl) gn rfl ?_
                            refine w_end 21 rfl ?_
                            have h := Out.inr hO3 h
                            have h := Out.inr hO2 h
                            have h := Out.inr hO1 h
                            refine g_retR (c := trellislaw26_RpcCarries_c113) [.bool false] rfl Tryd.func7 rfl (.tmp rfl (.nil)) fun wr hLr => ?_
                            have hMr : B.Loc w wr [] [St w []] := hLr.pick (rest := [.own (.slice A1473 n1474 c1475) 9 1 n1474 (r1471.1.flatMap eS), .own (.slice A393 n394 c395) 3 1 n394 (x392.flatMap (eI .i64))]) (perm_of_idx [] [0, 1] rfl rfl (by kernel_rfl)) (sels [4] rfl)
                            have hMi : ∀ e ∈ ([] : List Ent), e ∈ ([.own (.slice A1473 n1474 c1475) 9 1 n1474 (r1471.1.flatMap eS), .own (.slice A393 n394 c395) 3 1 n394 (x392.flatMap (eI .i64))] : List Ent) := sels [] rfl
                            show trellislaw26_RpcCarries_R w F  r (.returned (packV [.bool false])) wr
                            rw [h]
                            exact ⟨rfl, hMr⟩
                        · have h := if_neg' hp1545 h
                          refine w_bool 152 rfl ((bf hp1545)) ?_
                          refine wl_pass 2 rfl (ps 152 rfl rfl rfl) ?_
                          refine wl_pass 3 rfl (ps 152 rfl rfl rfl) ?_
                          refine wl_v 4 rfl (v_pick (b := false) rfl rfl) gn rfl ?_
                          refine wl_v 5 rfl (v_move rfl) gn rfl ?_
                          refine wl_pass 6 rfl (ps 156 rfl rfl rfl) ?_
                          refine wl_pass 7 rfl (ps 156 rfl rfl rfl) ?_
                          refine wl_pass 8 rfl (ps 156 rfl rfl rfl) ?_
                          refine wl_pass 9 rfl (ps 156 rfl rfl rfl) ?_
                          refine wl_pass 10 rfl (ps 156 rfl rfl rfl) ?_
                          refine wl_v 11 rfl (v_pick (b := false) rfl rfl) gn rfl ?_
                          refine wl_v 12 rfl (v_move rfl) gn rfl ?_
                          refine wl_pass 13 rfl (ps 163 rfl rfl rfl) ?_
                          refine wl_pass 14 rfl (ps 163 rfl rfl rfl) ?_
                          refine wl_pass 15 rfl (ps 163 rfl rfl rfl) ?_
                          refine wl_pass 16 rfl (ps 163 rfl rfl rfl) ?_
                          refine wl_pass 17 rfl (ps 163 rfl rfl rfl) ?_
                          refine wl_pass 18 rfl (ps 163 rfl rfl rfl) ?_
                          refine wl_v 19 rfl (v_pick (b := false) rfl rfl) gn rfl ?_
                          refine wl_v 20 rfl (v_assign rfl) gn rfl ?_
                          refine w_end 21 rfl ?_
                          have h := Out.inr hO3 h
                          have h := Out.inr hO2 h
                          have h := Out.inr hO1 h
                          refine g_retR (c := trellislaw26_RpcCarries_c113) [.bool false] rfl Tryd.func7 rfl (.tmp rfl (.nil)) fun wr hLr => ?_
                          have hMr : B.Loc w wr [] [St w []] := hLr.pick (rest := [.own (.slice A1473 n1474 c1475) 9 1 n1474 (r1471.1.flatMap eS), .own (.slice A393 n394 c395) 3 1 n394 (x392.flatMap (eI .i64))]) (perm_of_idx [] [0, 1] rfl rfl (by kernel_rfl)) (sels [4] rfl)
                          have hMi : ∀ e ∈ ([] : List Ent), e ∈ ([.own (.slice A1473 n1474 c1475) 9 1 n1474 (r1471.1.flatMap eS), .own (.slice A393 n394 c395) 3 1 n394 (x392.flatMap (eI .i64))] : List Ent) := sels [] rfl
                          show trellislaw26_RpcCarries_R w F  r (.returned (packV [.bool false])) wr
                          rw [h]
                          exact ⟨rfl, hMr⟩
                    · have h := if_neg' hp1542 h
                      refine w_bool 136 rfl ((decide_eq_false hp1542)) ?_
                      refine wl_pass 5 rfl (ps 136 rfl rfl rfl) ?_
                      refine wl_pass 6 rfl (ps 136 rfl rfl rfl) ?_
                      refine wl_pass 7 rfl (ps 136 rfl rfl rfl) ?_
                      refine wl_pass 8 rfl (ps 136 rfl rfl rfl) ?_
                      refine wl_pass 9 rfl (ps 136 rfl rfl rfl) ?_
                      refine wl_pass 10 rfl (ps 136 rfl rfl rfl) ?_
                      refine wl_pass 11 rfl (ps 136 rfl rfl rfl) ?_
                      refine wl_v 12 rfl (v_pick (b := false) rfl rfl) gn rfl ?_
                      refine w_end 13 rfl ?_
                      refine g_false (c := trellislaw26_RpcCarries_c109) rfl _ rfl (rfl) ?_
                      refine g_exit (c := trellislaw26_RpcCarries_c111) [.code trellislaw26_RpcCarries_c103] rfl rfl ?_
                      refine g_seq (c := trellislaw26_RpcCarries_c103) rfl ?_
                      refine g_region (c := trellislaw26_RpcCarries_c112) rfl rfl ?_
                      refine wl_v 0 rfl (v_move rfl) gn rfl ?_
                      refine wl_v 1 rfl (v_move rfl) gn rfl ?_
                      by_cases hp1558 : r1471.2.2.2 = true
                      · have h := if_pos' hp1558 h
                        refine w_bool 152 rfl (hp1558) ?_
                        refine wl_v 2 rfl (v_move rfl) (gy 152 rfl rfl) rfl ?_
                        refine wl_v 3 rfl (v_bin rfl rfl rfl) (gy 152 rfl rfl) rfl ?_
                        refine wl_v 4 rfl (v_pick (b := true) rfl rfl) gn rfl ?_
                        refine wl_v 5 rfl (v_move rfl) gn rfl ?_
                        by_cases hp1559 : r1471.2.1 = 0
                        · have h := if_pos' hp1559 h
                          refine w_bool 156 rfl ((eqi hp1559)) ?_
                          refine wl_v 6 rfl (v_move rfl) (gy 156 rfl rfl) rfl ?_
                          refine wl_v 7 rfl (v_move rfl) (gy 156 rfl rfl) rfl ?_
                          refine wl_v 8 rfl (v_move rfl) (gy 156 rfl rfl) rfl ?_
                          obtain ⟨hb1560, h⟩ := h
                          have h1561 := Rw.cutHi (hv := x1511) h5 (by have q := hb1560; have q1 := h5.hq; have q2 := h5.hn; omega)
                          refine wl_v 9 rfl (v_cutHi (i := x1511) slE_35 rfl rfl (by have q := hb1560; have q1 := h5.hq; have q2 := h5.hn; omega) h5.hn rfl) (gy 156 rfl rfl) rfl ?_
                          obtain ⟨r1565, hv1566, h⟩ := h
                          refine wl_s 10 rfl (s_call [.slice A1473 n1474 c1475, .slice A2 ((x1511 : Int).toNat) c4] rfl Tryd.func17 rfl rfl rfl fun w1562 hL1563 => ?_) (gy 156 rfl rfl)
                          have hp1564 : List.Perm ([.own (.slice A1473 n1474 c1475) 9 1 n1474 (r1471.1.flatMap eS), .own (.slice A393 n394 c395) 3 1 n394 (x392.flatMap (eI .i64))] : List Ent) (([] : List Ent) ++ ([.own (.slice A1473 n1474 c1475) 9 1 n1474 (r1471.1.flatMap eS), .own (.slice A393 n394 c395) 3 1 n394 (x392.flatMap (eI .i64))] : List Ent)) := perm_of_idx [] [0, 1] rfl rfl (by kernel_rfl)
                          refine Calls.mono (trellislaw26_sameTexts_calls w1562 (Fl ([] : List Snap)) r1471.1 (x1.take (x1511 : Int).toNat) A1473 n1474 c1475 A2 ((x1511 : Int).toNat) c4 (hL1563.argO (dk := kStr) hp1564 [] rfl 0 rfl rfl (Ow.weak hL1469.env.size h1476) (me 3 rfl) (Cells.flat _)) (Rw.mono h1561 (hL1563.toSt hp1564 (me 4 rfl))) (hL1563.hFl (Sl := ([] : List Snap)) hp1564 (sels [] rfl)) (hL1563.into hp1564 (Fl ([] : List Snap))) r1565 hv1566) ?_
                          rintro _ w1567 ⟨rfl, hM1568⟩
                          have hL1569 := hL1563.call hp1564 hM1568
                          refine ⟨_, _, _, rfl, hL1569, ?_⟩
                          refine wl_v 11 rfl (v_pick (b := true) rfl rfl) gn rfl ?_
                          refine wl_v 12 rfl (v_move rfl) gn rfl ?_
                          by_cases hp1570 : r1565 = true
                          · have h := if_pos' hp1570 h
                            refine w_bool 163 rfl (hp1570) ?_
                            refine wl_v 13 rfl (v_move rfl) (gy 163 rfl rfl) rfl ?_
                            refine wl_v 14 rfl (v_move rfl) (gy 163 rfl rfl) rfl ?_
                            refine wl_v 15 rfl (v_lenQ un_22 rfl h1256.hq) (gy 163 rfl rfl) rfl ?_
                            refine wl_v 16 rfl (v_move rfl) (gy 163 rfl rfl) rfl ?_
                            refine wl_v 17 rfl (v_bin rfl rfl rfl) (gy 163 rfl rfl) rfl ?_
                            refine wl_v 18 rfl (v_bin rfl rfl rfl) (gy 163 rfl rfl) rfl ?_
                            refine wl_v 19 rfl (v_pick (b := true) rfl rfl) gn rfl ?_
                            refine wl_v 20 rfl (v_assign rfl) gn rfl ?_
                            refine w_end 21 rfl ?_
                            have h := Out.inr hO3 h
                            have h := Out.inr hO2 h
                            have h := Out.inr hO1 h
                            refine g_retR (c := trellislaw26_RpcCarries_c113) [.bool (r1471.2.2.1 == (w64 ((x1085.length : Int) - x1512)))] rfl Tryd.func7 rfl (.tmp rfl (.nil)) fun wr hLr => ?_
                            have hMr : B.Loc w wr [] [St w []] := hLr.pick (rest := [.own (.slice A1473 n1474 c1475) 9 1 n1474 (r1471.1.flatMap eS), .own (.slice A393 n394 c395) 3 1 n394 (x392.flatMap (eI .i64))]) (perm_of_idx [] [0, 1] rfl rfl (by kernel_rfl)) (sels [4] rfl)
                            have hMi : ∀ e ∈ ([] : List Ent), e ∈ ([.own (.slice A1473 n1474 c1475) 9 1 n1474 (r1471.1.flatMap eS), .own (.slice A393 n394 c395) 3 1 n394 (x392.flatMap (eI .i64))] : List Ent) := sels [] rfl
                            show trellislaw26_RpcCarries_R w F  r (.returned (packV [.bool (r1471.2.2.1 == (w64 ((x1085.length : Int) - x1512)))])) wr
                            rw [h]
                            exact ⟨rfl, hMr⟩
                          · have h := if_neg' hp1570 h
                            refine w_bool 163 rfl ((bf hp1570)) ?_
                            refine wl_pass 13 rfl (ps 163 rfl rfl rfl) ?_
                            refine wl_pass 14 rfl (ps 163 rfl rfl rfl) ?_
                            refine wl_pass 15 rfl (ps 163 rfl rfl rfl) ?_
                            refine wl_pass 16 rfl (ps 163 rfl rfl rfl) ?_
                            refine wl_pass 17 rfl (ps 163 rfl rfl rfl) ?_
                            refine wl_pass 18 rfl (ps 163 rfl rfl rfl) ?_
                            refine wl_v 19 rfl (v_pick (b := false) rfl rfl) gn rfl ?_
                            refine wl_v 20 rfl (v_assign rfl) gn rfl ?_
                            refine w_end 21 rfl ?_
                            have h := Out.inr hO3 h
                            have h := Out.inr hO2 h
                            have h := Out.inr hO1 h
                            refine g_retR (c := trellislaw26_RpcCarries_c113) [.bool false] rfl Tryd.func7 rfl (.tmp rfl (.nil)) fun wr hLr => ?_
                            have hMr : B.Loc w wr [] [St w []] := hLr.pick (rest := [.own (.slice A1473 n1474 c1475) 9 1 n1474 (r1471.1.flatMap eS), .own (.slice A393 n394 c395) 3 1 n394 (x392.flatMap (eI .i64))]) (perm_of_idx [] [0, 1] rfl rfl (by kernel_rfl)) (sels [4] rfl)
                            have hMi : ∀ e ∈ ([] : List Ent), e ∈ ([.own (.slice A1473 n1474 c1475) 9 1 n1474 (r1471.1.flatMap eS), .own (.slice A393 n394 c395) 3 1 n394 (x392.flatMap (eI .i64))] : List Ent) := sels [] rfl
                            show trellislaw26_RpcCarries_R w F  r (.returned (packV [.bool false])) wr
                            rw [h]
                            exact ⟨rfl, hMr⟩
                        · have h := if_neg' hp1559 h
                          refine w_bool 156 rfl ((nei hp1559)) ?_
                          refine wl_pass 6 rfl (ps 156 rfl rfl rfl) ?_
                          refine wl_pass 7 rfl (ps 156 rfl rfl rfl) ?_
                          refine wl_pass 8 rfl (ps 156 rfl rfl rfl) ?_
                          refine wl_pass 9 rfl (ps 156 rfl rfl rfl) ?_
                          refine wl_pass 10 rfl (ps 156 rfl rfl rfl) ?_
                          refine wl_v 11 rfl (v_pick (b := false) rfl rfl) gn rfl ?_
                          refine wl_v 12 rfl (v_move rfl) gn rfl ?_
                          refine wl_pass 13 rfl (ps 163 rfl rfl rfl) ?_
                          refine wl_pass 14 rfl (ps 163 rfl rfl rfl) ?_
                          refine wl_pass 15 rfl (ps 163 rfl rfl rfl) ?_
                          refine wl_pass 16 rfl (ps 163 rfl rfl rfl) ?_
                          refine wl_pass 17 rfl (ps 163 rfl rfl rfl) ?_
                          refine wl_pass 18 rfl (ps 163 rfl rfl rfl) ?_
                          refine wl_v 19 rfl (v_pick (b := false) rfl rfl) gn rfl ?_
                          refine wl_v 20 rfl (v_assign rfl) gn rfl ?_
                          refine w_end 21 rfl ?_
                          have h := Out.inr hO3 h
                          have h := Out.inr hO2 h
                          have h := Out.inr hO1 h
                          refine g_retR (c := trellislaw26_RpcCarries_c113) [.bool false] rfl Tryd.func7 rfl (.tmp rfl (.nil)) fun wr hLr => ?_
                          have hMr : B.Loc w wr [] [St w []] := hLr.pick (rest := [.own (.slice A1473 n1474 c1475) 9 1 n1474 (r1471.1.flatMap eS), .own (.slice A393 n394 c395) 3 1 n394 (x392.flatMap (eI .i64))]) (perm_of_idx [] [0, 1] rfl rfl (by kernel_rfl)) (sels [4] rfl)
                          have hMi : ∀ e ∈ ([] : List Ent), e ∈ ([.own (.slice A1473 n1474 c1475) 9 1 n1474 (r1471.1.flatMap eS), .own (.slice A393 n394 c395) 3 1 n394 (x392.flatMap (eI .i64))] : List Ent) := sels [] rfl
                          show trellislaw26_RpcCarries_R w F  r (.returned (packV [.bool false])) wr
                          rw [h]
                          exact ⟨rfl, hMr⟩
                      · have h := if_neg' hp1558 h
                        refine w_bool 152 rfl ((bf hp1558)) ?_
                        refine wl_pass 2 rfl (ps 152 rfl rfl rfl) ?_
                        refine wl_pass 3 rfl (ps 152 rfl rfl rfl) ?_
                        refine wl_v 4 rfl (v_pick (b := false) rfl rfl) gn rfl ?_
                        refine wl_v 5 rfl (v_move rfl) gn rfl ?_
                        refine wl_pass 6 rfl (ps 156 rfl rfl rfl) ?_
                        refine wl_pass 7 rfl (ps 156 rfl rfl rfl) ?_
                        refine wl_pass 8 rfl (ps 156 rfl rfl rfl) ?_
                        refine wl_pass 9 rfl (ps 156 rfl rfl rfl) ?_
                        refine wl_pass 10 rfl (ps 156 rfl rfl rfl) ?_
                        refine wl_v 11 rfl (v_pick (b := false) rfl rfl) gn rfl ?_
                        refine wl_v 12 rfl (v_move rfl) gn rfl ?_
                        refine wl_pass 13 rfl (ps 163 rfl rfl rfl) ?_
                        refine wl_pass 14 rfl (ps 163 rfl rfl rfl) ?_
                        refine wl_pass 15 rfl (ps 163 rfl rfl rfl) ?_
                        refine wl_pass 16 rfl (ps 163 rfl rfl rfl) ?_
                        refine wl_pass 17 rfl (ps 163 rfl rfl rfl) ?_
                        refine wl_pass 18 rfl (ps 163 rfl rfl rfl) ?_
                        refine wl_v 19 rfl (v_pick (b := false) rfl rfl) gn rfl ?_
                        refine wl_v 20 rfl (v_assign rfl) gn rfl ?_
                        refine w_end 21 rfl ?_
                        have h := Out.inr hO3 h
                        have h := Out.inr hO2 h
                        have h := Out.inr hO1 h
                        refine g_retR (c := trellislaw26_RpcCarries_c113) [.bool false] rfl Tryd.func7 rfl (.tmp rfl (.nil)) fun wr hLr => ?_
                        have hMr : B.Loc w wr [] [St w []] := hLr.pick (rest := [.own (.slice A1473 n1474 c1475) 9 1 n1474 (r1471.1.flatMap eS), .own (.slice A393 n394 c395) 3 1 n394 (x392.flatMap (eI .i64))]) (perm_of_idx [] [0, 1] rfl rfl (by kernel_rfl)) (sels [4] rfl)
                        have hMi : ∀ e ∈ ([] : List Ent), e ∈ ([.own (.slice A1473 n1474 c1475) 9 1 n1474 (r1471.1.flatMap eS), .own (.slice A393 n394 c395) 3 1 n394 (x392.flatMap (eI .i64))] : List Ent) := sels [] rfl
                        show trellislaw26_RpcCarries_R w F  r (.returned (packV [.bool false])) wr
                        rw [h]
                        exact ⟨rfl, hMr⟩
                  exact g_go [0, 1, 2, 3, 4] (key9 _ h ()) ⟨rfl, rfl, rfl, rfl, rfl, rfl, rfl, rfl, rfl, trivial⟩ (.cons_cons _ (.cons _ (.cons _ (.cons_cons _ (.slnil))))) rfl
              refine g_region (c := trellislaw26_RpcCarries_c71) rfl rfl ?_
              refine wl_v 0 rfl (v_move rfl) gn rfl ?_
              refine wl_v 1 rfl (v_move rfl) gn rfl ?_
              refine wl_v 2 rfl (v_lenQ un_40 rfl h10.hq) gn rfl ?_
              refine wl_v 3 rfl (v_bin rfl rfl rfl) gn rfl ?_
              refine wl_v 4 rfl (v_move rfl) gn rfl ?_
              by_cases hp1571 : x1267 < (x6.length : Int)
              · have h := if_pos' hp1571 h
                refine w_bool 83 rfl ((decide_eq_true hp1571)) ?_
                refine wl_v 5 rfl (v_move rfl) (gy 83 rfl rfl) rfl ?_
                refine wl_v 6 rfl (v_move rfl) (gy 83 rfl rfl) rfl ?_
                refine wl_v 7 rfl (v_lenQ un_22 rfl h1256.hq) (gy 83 rfl rfl) rfl ?_
                refine wl_v 8 rfl (v_bin rfl rfl rfl) (gy 83 rfl rfl) rfl ?_
                refine wl_v 9 rfl (v_pick (b := true) rfl rfl) gn rfl ?_
                refine w_end 10 rfl ?_
                exact g_go [0, 1, 2, 3] (j6 (decide (x1266 < (x1085.length : Int))) h) ⟨rfl, rfl, rfl, rfl, rfl, rfl, rfl, rfl, trivial⟩ (.cons_cons _ (.cons_cons _ (.slnil))) rfl
              · have h := if_neg' hp1571 h
                refine w_bool 83 rfl ((decide_eq_false hp1571)) ?_
                refine wl_pass 5 rfl (ps 83 rfl rfl rfl) ?_
                refine wl_pass 6 rfl (ps 83 rfl rfl rfl) ?_
                refine wl_pass 7 rfl (ps 83 rfl rfl rfl) ?_
                refine wl_pass 8 rfl (ps 83 rfl rfl rfl) ?_
                refine wl_v 9 rfl (v_pick (b := false) rfl rfl) gn rfl ?_
                refine w_end 10 rfl ?_
                exact g_go [0, 1, 2, 3] (j6 false h) ⟨rfl, rfl, rfl, rfl, rfl, rfl, rfl, rfl, trivial⟩ (.cons_cons _ (.cons_cons _ (.slnil))) rfl
            refine g_freeze (F := F) (dk := (kInt .u8)) (Sm w.heap.size F w []) 0 rfl h1089 (me 0 rfl) Sm.ok (Cells.flat _) fun sw1573 sb1574 h1572 => ?_
            refine g_nil 22 1 ?_
            exact g_go [0, 1, 1, 2] (key5 _ h A1086 n1087 c1088 sw1573 sb1574 h1572 none 0 0 (Ow.nil (z := w.heap.size)) [] w [] Cells.nil) ⟨rfl, rfl, rfl, rfl, rfl, rfl, rfl, trivial⟩ (.cons_cons _ (.cons_cons _ (.slnil))) rfl
          by_cases hp1078 : x1077 = true
          · have h := if_pos' hp1078 h
            refine g_true (c := trellislaw26_RpcCarries_c56) rfl _ rfl (hp1078) ?_
            refine g_region (c := trellislaw26_RpcCarries_c57) rfl rfl ?_
            refine wl_v 0 rfl (v_move rfl) gn rfl ?_
            refine wl_v 1 rfl (v_move rfl) gn rfl ?_
            refine wl_v 2 rfl (v_lenQ un_22 rfl h391.hq) gn rfl ?_
            refine wl_v 3 rfl (v_move rfl) gn rfl ?_
            refine wl_v 4 rfl (v_bin rfl rfl rfl) gn rfl ?_
            obtain ⟨hb1575, h⟩ := h
            obtain ⟨x1577, hv1578, h⟩ := h
            have hle1576 : (w64 ((x387.length : Int) - x11) : Int).toNat ≤ n389 := by have q := hb1575; have q1 := h391.hq; omega
            have h1579 : Ow w.heap.size A388 (w64 ((x387.length : Int) - x11) : Int).toNat c390 x1577 := Ow.w (Ow.cut h391 hle1576) (by rw [hv1578])
            refine wl_v 5 rfl (v_cutHi (i := w64 ((x387.length : Int) - x11)) slE_22 rfl rfl (by have q := hb1575; have q1 := h391.hq; have q2 := h391.hn; omega) h391.hn rfl) gn rfl ?_
            refine wl_v 6 rfl (v_assign rfl) gn rfl ?_
            refine w_end 7 rfl ?_
            have h1580 : Ow w.heap.size A388 ((w64 ((x387.length : Int) - x11) : Int).toNat) c390 x1577 := (Ow.w (Ow.cut h391 hle1576) (by rw [hv1578]))
            refine g_short (j := 0) (m := ((w64 ((x387.length : Int) - x11) : Int).toNat)) (cells' := x1577.flatMap (eI .u8)) rfl hle1576 (by rw [fm_take (hlI .u8), hv1578]) ?_
            exact g_go [0, 1] (j4 x1577 h A388 ((w64 ((x387.length : Int) - x11) : Int).toNat) c390 h1580) ⟨rfl, rfl, rfl, rfl, trivial⟩ (.cons_cons _ (.cons_cons _ (.slnil))) rfl
          · have h := if_neg' hp1078 h
            refine g_false (c := trellislaw26_RpcCarries_c56) rfl _ rfl ((bf hp1078)) ?_
            refine g_skip (c := trellislaw26_RpcCarries_c58) rfl ?_
            exact g_go [0, 1] (j4 x387 h A388 n389 c390 h391) ⟨rfl, rfl, rfl, rfl, trivial⟩ (.cons_cons _ (.cons_cons _ (.slnil))) rfl
        refine g_region (c := trellislaw26_RpcCarries_c55) rfl rfl ?_
        refine wl_v 0 rfl (v_move rfl) gn rfl ?_
        refine wl_v 1 rfl (v_bin rfl rfl rfl) gn rfl ?_
        refine wl_v 2 rfl (v_move rfl) gn rfl ?_
        by_cases hp1581 : x11 > 0
        · have h := if_pos' hp1581 h
          refine w_bool 67 rfl ((decide_eq_true hp1581)) ?_
          refine wl_v 3 rfl (v_move rfl) (gy 67 rfl rfl) rfl ?_
          refine wl_v 4 rfl (v_move rfl) (gy 67 rfl rfl) rfl ?_
          refine wl_v 5 rfl (v_lenQ un_22 rfl h391.hq) (gy 67 rfl rfl) rfl ?_
          refine wl_v 6 rfl (v_bin rfl rfl rfl) (gy 67 rfl rfl) rfl ?_
          refine wl_v 7 rfl (v_pick (b := true) rfl rfl) gn rfl ?_
          refine w_end 8 rfl ?_
          exact g_go [0, 1] (j3 (decide (x11 ≤ (x387.length : Int))) h) ⟨rfl, rfl, rfl, rfl, rfl, rfl, trivial⟩ (.cons_cons _ (.cons_cons _ (.slnil))) rfl
        · have h := if_neg' hp1581 h
          refine w_bool 67 rfl ((decide_eq_false hp1581)) ?_
          refine wl_pass 3 rfl (ps 67 rfl rfl rfl) ?_
          refine wl_pass 4 rfl (ps 67 rfl rfl rfl) ?_
          refine wl_pass 5 rfl (ps 67 rfl rfl rfl) ?_
          refine wl_pass 6 rfl (ps 67 rfl rfl rfl) ?_
          refine wl_v 7 rfl (v_pick (b := false) rfl rfl) gn rfl ?_
          refine w_end 8 rfl ?_
          exact g_go [0, 1] (j3 false h) ⟨rfl, rfl, rfl, rfl, rfl, rfl, trivial⟩ (.cons_cons _ (.cons_cons _ (.slnil))) rfl
    refine g_nil 3 1 ?_
    refine g_nil 5 1 ?_
    exact g_go [0, 1] (key1 _ h none 0 0 (Ow.nil (z := w.heap.size)) none 0 0 (Ow.nil (z := w.heap.size))) ⟨rfl, rfl, rfl, rfl, rfl, rfl, trivial⟩ (.cons_cons _ (.cons_cons _ (.slnil))) rfl
  · have h := if_neg' hp20 h
    refine g_true (c := trellislaw26_RpcCarries_c6) rfl _ rfl ((nt (bf hp20))) ?_
    refine g_seq (c := trellislaw26_RpcCarries_c7) rfl ?_
    refine g_region (c := trellislaw26_RpcCarries_c117) rfl rfl ?_
    refine wl_v 0 rfl (v_assign rfl) gn rfl ?_
    refine w_end 1 rfl ?_
    refine g_retR (c := trellislaw26_RpcCarries_c118) [.bool false] rfl Tryd.func7 rfl (.tmp rfl (.nil)) fun wr hLr => ?_
    have hMr : B.Loc w wr [] [St w []] := hLr.pick (rest := []) (perm_of_idx [] [] rfl rfl (by kernel_rfl)) (sels [1] rfl)
    have hMi : ∀ e ∈ ([] : List Ent), e ∈ ([] : List Ent) := sels [] rfl
    show trellislaw26_RpcCarries_R w F  r (.returned (packV [.bool false])) wr
    rw [h]
    exact ⟨rfl, hMr⟩
end Go.Proofs.YtbejkaeidnajkaaDoor.K
