/- What the machine's calls do, function by function, printed by my own tool. Condition of each: its relation holds of the answer, and what is handed in lies in memory as told. -/
import Derived.Test.YtelafghkjlpojaaK4
set_option linter.unusedVariables false
set_option maxRecDepth 100000
set_option maxHeartbeats 4000000
namespace Go.Proofs.Ytelafghkjlpojaa.K
open Go.Proofs.Ytelafghkjlpojaa.B Go.Proofs.Ytelafghkjlpojaa.R Go.RowKit
noncomputable abbrev trellislaw11_sound_c0 : Code := bodyOf Try.f23
noncomputable abbrev trellislaw11_sound_c1 : Code := Code.fst trellislaw11_sound_c0
noncomputable abbrev trellislaw11_sound_c2 : Code := Code.snd trellislaw11_sound_c0
noncomputable abbrev trellislaw11_sound_c3 : Code := Code.fst trellislaw11_sound_c2
noncomputable abbrev trellislaw11_sound_c4 : Code := Code.snd trellislaw11_sound_c2
noncomputable abbrev trellislaw11_sound_c5 : Code := Code.fst trellislaw11_sound_c3
noncomputable abbrev trellislaw11_sound_c6 : Code := Code.snd trellislaw11_sound_c3
noncomputable abbrev trellislaw11_sound_c7 : Code := Code.fst trellislaw11_sound_c6
noncomputable abbrev trellislaw11_sound_c8 : Code := Code.snd trellislaw11_sound_c6
noncomputable abbrev trellislaw11_sound_c9 : Code := Code.fst trellislaw11_sound_c7
noncomputable abbrev trellislaw11_sound_c10 : Code := Code.snd trellislaw11_sound_c7
noncomputable abbrev trellislaw11_sound_c11 : Code := Code.fst trellislaw11_sound_c4
noncomputable abbrev trellislaw11_sound_c12 : Code := Code.snd trellislaw11_sound_c4
noncomputable abbrev trellislaw11_sound_c13 : Code := Code.fst trellislaw11_sound_c11
noncomputable abbrev trellislaw11_sound_c14 : Code := Code.snd trellislaw11_sound_c11
noncomputable abbrev trellislaw11_sound_c15 : Code := Code.fst trellislaw11_sound_c14
noncomputable abbrev trellislaw11_sound_c16 : Code := Code.fst trellislaw11_sound_c15
noncomputable abbrev trellislaw11_sound_c17 : Code := Code.fst trellislaw11_sound_c16
noncomputable abbrev trellislaw11_sound_c18 : Code := Code.snd trellislaw11_sound_c16
noncomputable abbrev trellislaw11_sound_c19 : Code := Code.fst trellislaw11_sound_c17
noncomputable abbrev trellislaw11_sound_c20 : Code := Code.snd trellislaw11_sound_c17
noncomputable abbrev trellislaw11_sound_c21 : Code := Code.fst trellislaw11_sound_c20
noncomputable abbrev trellislaw11_sound_c22 : Code := Code.snd trellislaw11_sound_c20
noncomputable abbrev trellislaw11_sound_c23 : Code := Code.fst trellislaw11_sound_c18
noncomputable abbrev trellislaw11_sound_c24 : Code := Code.snd trellislaw11_sound_c18
noncomputable abbrev trellislaw11_sound_c25 : Code := Code.fst trellislaw11_sound_c23
noncomputable abbrev trellislaw11_sound_c26 : Code := Code.fst trellislaw11_sound_c25
noncomputable abbrev trellislaw11_sound_c27 : Code := Code.snd trellislaw11_sound_c25
noncomputable abbrev trellislaw11_sound_c28 : Code := Code.fst trellislaw11_sound_c27
noncomputable abbrev trellislaw11_sound_c29 : Code := Code.snd trellislaw11_sound_c27
noncomputable abbrev trellislaw11_sound_c30 : Code := Code.fst trellislaw11_sound_c28
noncomputable abbrev trellislaw11_sound_c31 : Code := Code.snd trellislaw11_sound_c28
noncomputable abbrev trellislaw11_sound_c32 : Code := Code.fst trellislaw11_sound_c12
noncomputable abbrev trellislaw11_sound_c33 : Code := Code.snd trellislaw11_sound_c12
abbrev trellislaw11_sound_R (w : World) (F : Nat → Prop) (r : Bool) : Ending → World → Prop := fun e w' => e = .returned (.bool r) ∧ B.Loc w w' [] [St w []]
noncomputable abbrev trellislaw11_sound_C (w : World) (F : Nat → Prop) (r : Bool) : Cx := ⟨Try.prog, 23, Try.f23, 57, trellislaw11_sound_R w F  r, w⟩
theorem trellislaw11_sound_calls (w : World) (F : Nat → Prop) (x1 : api_Gram) (A2 : Option Addr) (n3 : Nat) (c4 : Nat) (A6 : Option Addr) (n7 : Nat) (c8 : Nat) (A10 : Option Addr) (n11 : Nat) (c12 : Nat) (h5 : Rw k_api_TermDef w (St w []).av A2 n3 c4 x1.terms) (h9 : Rw k_api_Sym w (St w []).av A6 n7 c8 x1.syms) (h13 : Rw k_api_Prod w (St w []).av A10 n11 c12 x1.prods) (hF : ∀ b, F b → b < w.heap.size ∧ ∀ o ∈ ([] : List (List Nat)), b ∉ o) (hL0 : B.Loc w w [] [Sm w.heap.size F w [], St w []]) (r : Bool) (h : trellislaw11_sound x1 r) : Calls Try.prog 23 #[.agg #[.slice A2 n3 c4, .slice A6 n7 c8, .slice A10 n11 c12]] w (trellislaw11_sound_R w F  r) := by
  unfold trellislaw11_sound at h
  refine calls_of_Loc (vs := [.agg #[.slice A2 n3 c4, .slice A6 n7 c8, .slice A10 n11 c12]]) 57 Try.func23 rfl Try.ntmps23 rfl hL0 ?_
  show G (trellislaw11_sound_C w F r) _ _ _ _
  refine g_seq (c := trellislaw11_sound_c0) rfl ?_
  refine g_region (c := trellislaw11_sound_c1) rfl rfl ?_
  refine wl_s 0 rfl (s_box [.slice A2 n3 c4, .slice A6 n7 c8, .slice A10 n11 c12] rfl rfl rfl fun gb14 => ?_) gn
  refine wl_v 1 rfl (v_assign rfl) gn rfl ?_
  refine w_end 2 rfl ?_
  refine g_seq (c := trellislaw11_sound_c2) rfl ?_
  refine g_seq (c := trellislaw11_sound_c3) rfl ?_
  have j1 : ∀ (x19 : Bool) (h : trellislaw11_sound_j1 x1 x19 r) , G (trellislaw11_sound_C w F r) [.code trellislaw11_sound_c6, .code trellislaw11_sound_c4] [(1, .pointer (some ⟨gb14, 0, none⟩)), (19, .bool x19)] [.box gb14 26 [.slice A2 n3 c4, .slice A6 n7 c8, .slice A10 n11 c12]] [Sm w.heap.size F w [], St w []] := by
    intro x19 h
    unfold trellislaw11_sound_j1 at h
    by_cases hp20 : x19 = true
    · have h := if_pos' hp20 h
      refine g_true (c := trellislaw11_sound_c6) rfl _ rfl (hp20) ?_
      refine g_seq (c := trellislaw11_sound_c7) rfl ?_
      refine g_region (c := trellislaw11_sound_c9) rfl rfl ?_
      refine wl_v 0 rfl (v_assign rfl) gn rfl ?_
      refine w_end 1 rfl ?_
      refine g_retR (c := trellislaw11_sound_c10) [.bool false] rfl Try.func23 rfl (.tmp rfl (.nil)) fun wr hLr => ?_
      have hMr : B.Loc w wr [] [St w []] := hLr.pick (rest := [.box gb14 26 [.slice A2 n3 c4, .slice A6 n7 c8, .slice A10 n11 c12]]) (perm_of_idx [] [0] rfl rfl (by kernel_rfl)) (sels [1] rfl)
      have hMi : ∀ e ∈ ([] : List Ent), e ∈ ([.box gb14 26 [.slice A2 n3 c4, .slice A6 n7 c8, .slice A10 n11 c12]] : List Ent) := sels [] rfl
      show trellislaw11_sound_R w F  r (.returned (packV [.bool false])) wr
      rw [h]
      exact ⟨rfl, hMr⟩
    · have h := if_neg' hp20 h
      refine g_false (c := trellislaw11_sound_c6) rfl _ rfl ((bf hp20)) ?_
      refine g_skip (c := trellislaw11_sound_c8) rfl ?_
      refine g_seq (c := trellislaw11_sound_c4) rfl ?_
      refine g_seq (c := trellislaw11_sound_c11) rfl ?_
      refine g_region (c := trellislaw11_sound_c13) rfl rfl ?_
      refine wl_v 0 rfl (v_assign rfl) gn rfl ?_
      refine w_end 1 rfl ?_
      refine g_block (c := trellislaw11_sound_c14) rfl ?_
      refine g_loop (c := trellislaw11_sound_c15) rfl ?_
      have key2 : ∀ s, Rounds (fun (s : Int) o => trellislaw11_sound_b2 x1 s o) s r → (fun (s : Int) => ∀ (_ : Unit), G (trellislaw11_sound_C w F r) [.code trellislaw11_sound_c16, .inLoop trellislaw11_sound_c16, .inBlock 0, .code trellislaw11_sound_c12] [(1, .pointer (some ⟨gb14, 0, none⟩)), (3, .int .i64 s)] [.box gb14 26 [.slice A2 n3 c4, .slice A6 n7 c8, .slice A10 n11 c12]] [Sm w.heap.size F w [], St w []]) s := by
        intro s hs
        refine Rounds.ind (mot := (fun (s : Int) => ∀ (_ : Unit), G (trellislaw11_sound_C w F r) [.code trellislaw11_sound_c16, .inLoop trellislaw11_sound_c16, .inBlock 0, .code trellislaw11_sound_c12] [(1, .pointer (some ⟨gb14, 0, none⟩)), (3, .int .i64 s)] [.box gb14 26 [.slice A2 n3 c4, .slice A6 n7 c8, .slice A10 n11 c12]] [Sm w.heap.size F w [], St w []])) ?_ hs
        clear hs s
        intro x164 o1 h hO1
        show ∀ (_ : Unit), G (trellislaw11_sound_C w F r) [.code trellislaw11_sound_c16, .inLoop trellislaw11_sound_c16, .inBlock 0, .code trellislaw11_sound_c12] [(1, .pointer (some ⟨gb14, 0, none⟩)), (3, .int .i64 x164)] [.box gb14 26 [.slice A2 n3 c4, .slice A6 n7 c8, .slice A10 n11 c12]] [Sm w.heap.size F w [], St w []]
        intro _
        have h : trellislaw11_sound_b2 x1 x164 o1 := h
        unfold trellislaw11_sound_b2 at h
        refine g_seq (c := trellislaw11_sound_c16) rfl ?_
        refine g_seq (c := trellislaw11_sound_c17) rfl ?_
        refine g_region (c := trellislaw11_sound_c19) rfl rfl ?_
        refine wl_v 0 rfl (v_move rfl) gn rfl ?_
        refine wl_v 1 rfl (v_fldB fo_26_2 rfl) gn rfl ?_
        refine wl_v 2 rfl (v_ldB1 0 ld_24 rfl rfl rfl) gn rfl ?_
        refine wl_v 3 rfl (v_lenQ un_24 rfl h13.hq) gn rfl ?_
        refine wl_v 4 rfl (v_bin rfl rfl rfl) gn rfl ?_
        refine w_end 5 rfl ?_
        by_cases hp307 : x164 < (x1.prods.length : Int)
        · have h := if_pos' hp307 h
          refine g_true (c := trellislaw11_sound_c20) rfl _ rfl ((decide_eq_true hp307)) ?_
          refine g_skip (c := trellislaw11_sound_c21) rfl ?_
          refine g_seq (c := trellislaw11_sound_c18) rfl ?_
          refine g_block (c := trellislaw11_sound_c23) rfl ?_
          refine g_seq (c := trellislaw11_sound_c25) rfl ?_
          obtain ⟨hb308, h⟩ := h
          by_cases hp316 : (ix x1.prods x164).lhs < -1
          · have h := if_pos' hp316 h
            have hns : Region.noSelect (Code.ops trellislaw11_sound_c26) = true := by kernel_rfl
            refine g_drawF (c := trellislaw11_sound_c26) [.box gb14 26 [.slice A2 n3 c4, .slice A6 n7 c8, .slice A10 n11 c12]] [Sm w.heap.size F w [], St w []] [] 30 rfl rfl mix rfl (.cons_cons _ (.slnil)) (sels [0, 1] rfl) ?_
            refine wf_v 0 rfl (v_fldB fo_26_2 rfl) gn rfl hns (by kernel_rfl) (by kernel_rfl) rfl rfl ?_
            refine wf_v 1 rfl (v_ldB1 0 ld_24 rfl rfl rfl) gn rfl hns (by kernel_rfl) (by kernel_rfl) rfl rfl ?_
            refine wf_v 2 rfl (v_move rfl) gn rfl hns (by kernel_rfl) (by kernel_rfl) rfl rfl ?_
            obtain ⟨ce325, hK326, hr324⟩ := Rw.read (s := St w []) h13 hb308
            obtain ⟨A327, n328, c329, rfl, h330⟩ := hK326
            refine wf_v 3 rfl (v_idxR (s := St w []) slE_24 rfl rfl h13 hb308) gn rfl hns (by kernel_rfl) (by kernel_rfl) rfl rfl ?_
            refine wf_v 4 rfl (v_fldA fo_38_0 rfl) gn rfl hns (by kernel_rfl) (by kernel_rfl) rfl rfl ?_
            refine wf_v 5 rfl (v_ldA1 (kk := (x164 : Int).toNat * 2) (j := 0) (St w []) ld_3 rfl hr324 rfl (me 1 rfl)) gn rfl hns (by kernel_rfl) (by kernel_rfl) rfl rfl ?_
            refine wf_v 6 rfl (v_bin rfl rfl rfl) gn rfl hns (by kernel_rfl) (by kernel_rfl) rfl rfl ?_
            refine wf_v 7 rfl (v_move rfl) gn rfl hns (by kernel_rfl) (by kernel_rfl) rfl rfl ?_
            refine wf_bool 34 rfl ((decide_eq_true hp316)) ?_
            refine wf_pass 8 rfl (ps 34 rfl rfl rfl) hns (by kernel_rfl) (by kernel_rfl) rfl rfl ?_
            refine wf_pass 9 rfl (ps 34 rfl rfl rfl) hns (by kernel_rfl) (by kernel_rfl) rfl rfl ?_
            refine wf_pass 10 rfl (ps 34 rfl rfl rfl) hns (by kernel_rfl) (by kernel_rfl) rfl rfl ?_
            refine wf_pass 11 rfl (ps 34 rfl rfl rfl) hns (by kernel_rfl) (by kernel_rfl) rfl rfl ?_
            refine wf_pass 12 rfl (ps 34 rfl rfl rfl) hns (by kernel_rfl) (by kernel_rfl) rfl rfl ?_
            refine wf_pass 13 rfl (ps 34 rfl rfl rfl) hns (by kernel_rfl) (by kernel_rfl) rfl rfl ?_
            refine wf_pass 14 rfl (ps 34 rfl rfl rfl) hns (by kernel_rfl) (by kernel_rfl) rfl rfl ?_
            refine wf_pass 15 rfl (ps 34 rfl rfl rfl) hns (by kernel_rfl) (by kernel_rfl) rfl rfl ?_
            refine wf_pass 16 rfl (ps 34 rfl rfl rfl) hns (by kernel_rfl) (by kernel_rfl) rfl rfl ?_
            refine wf_pass 17 rfl (ps 34 rfl rfl rfl) hns (by kernel_rfl) (by kernel_rfl) rfl rfl ?_
            refine wf_v 18 rfl (v_pick (b := true) rfl rfl) gn rfl hns (by kernel_rfl) (by kernel_rfl) rfl rfl ?_
            refine wf_v 19 rfl (v_move rfl) gn rfl hns (by kernel_rfl) (by kernel_rfl) rfl rfl ?_
            refine wf_pass 20 rfl (ps 46 rfl rfl rfl) hns (by kernel_rfl) (by kernel_rfl) rfl rfl ?_
            refine wf_pass 21 rfl (ps 46 rfl rfl rfl) hns (by kernel_rfl) (by kernel_rfl) rfl rfl ?_
            refine wf_pass 22 rfl (ps 46 rfl rfl rfl) hns (by kernel_rfl) (by kernel_rfl) rfl rfl ?_
            refine wf_pass 23 rfl (ps 46 rfl rfl rfl) hns (by kernel_rfl) (by kernel_rfl) rfl rfl ?_
            refine wf_pass 24 rfl (ps 46 rfl rfl rfl) hns (by kernel_rfl) (by kernel_rfl) rfl rfl ?_
            refine wf_pass 25 rfl (ps 46 rfl rfl rfl) hns (by kernel_rfl) (by kernel_rfl) rfl rfl ?_
            refine wf_pass 26 rfl (ps 46 rfl rfl rfl) hns (by kernel_rfl) (by kernel_rfl) rfl rfl ?_
            refine wf_pass 27 rfl (ps 46 rfl rfl rfl) hns (by kernel_rfl) (by kernel_rfl) rfl rfl ?_
            refine wf_pass 28 rfl (ps 46 rfl rfl rfl) hns (by kernel_rfl) (by kernel_rfl) rfl rfl ?_
            refine wf_v 29 rfl (v_pick (b := true) rfl rfl) gn rfl hns (by kernel_rfl) (by kernel_rfl) rfl rfl ?_
            refine wf_end (by kernel_rfl) ?_
            refine g_true (c := trellislaw11_sound_c27) rfl _ rfl (rfl) ?_
            refine g_seq (c := trellislaw11_sound_c28) rfl ?_
            refine g_region (c := trellislaw11_sound_c30) rfl rfl ?_
            refine wl_v 0 rfl (v_assign rfl) gn rfl ?_
            refine w_end 1 rfl ?_
            have h := Out.inr hO1 h
            refine g_retR (c := trellislaw11_sound_c31) [.bool false] rfl Try.func23 rfl (.tmp rfl (.nil)) fun wr hLr => ?_
            have hMr : B.Loc w wr [] [St w []] := hLr.pick (rest := [.box gb14 26 [.slice A2 n3 c4, .slice A6 n7 c8, .slice A10 n11 c12]]) (perm_of_idx [] [0] rfl rfl (by kernel_rfl)) (sels [1] rfl)
            have hMi : ∀ e ∈ ([] : List Ent), e ∈ ([.box gb14 26 [.slice A2 n3 c4, .slice A6 n7 c8, .slice A10 n11 c12]] : List Ent) := sels [] rfl
            show trellislaw11_sound_R w F  r (.returned (packV [.bool false])) wr
            rw [h]
            exact ⟨rfl, hMr⟩
          · have h := if_neg' hp316 h
            by_cases hp338 : (ix x1.prods x164).lhs ≥ (x1.syms.length : Int)
            · have h := if_pos' hp338 h
              have hns : Region.noSelect (Code.ops trellislaw11_sound_c26) = true := by kernel_rfl
              refine g_drawF (c := trellislaw11_sound_c26) [.box gb14 26 [.slice A2 n3 c4, .slice A6 n7 c8, .slice A10 n11 c12]] [Sm w.heap.size F w [], St w []] [] 30 rfl rfl mix rfl (.cons_cons _ (.slnil)) (sels [0, 1] rfl) ?_
              refine wf_v 0 rfl (v_fldB fo_26_2 rfl) gn rfl hns (by kernel_rfl) (by kernel_rfl) rfl rfl ?_
              refine wf_v 1 rfl (v_ldB1 0 ld_24 rfl rfl rfl) gn rfl hns (by kernel_rfl) (by kernel_rfl) rfl rfl ?_
              refine wf_v 2 rfl (v_move rfl) gn rfl hns (by kernel_rfl) (by kernel_rfl) rfl rfl ?_
              obtain ⟨ce354, hK355, hr353⟩ := Rw.read (s := St w []) h13 hb308
              obtain ⟨A356, n357, c358, rfl, h359⟩ := hK355
              refine wf_v 3 rfl (v_idxR (s := St w []) slE_24 rfl rfl h13 hb308) gn rfl hns (by kernel_rfl) (by kernel_rfl) rfl rfl ?_
              refine wf_v 4 rfl (v_fldA fo_38_0 rfl) gn rfl hns (by kernel_rfl) (by kernel_rfl) rfl rfl ?_
              refine wf_v 5 rfl (v_ldA1 (kk := (x164 : Int).toNat * 2) (j := 0) (St w []) ld_3 rfl hr353 rfl (me 1 rfl)) gn rfl hns (by kernel_rfl) (by kernel_rfl) rfl rfl ?_
              refine wf_v 6 rfl (v_bin rfl rfl rfl) gn rfl hns (by kernel_rfl) (by kernel_rfl) rfl rfl ?_
              refine wf_v 7 rfl (v_move rfl) gn rfl hns (by kernel_rfl) (by kernel_rfl) rfl rfl ?_
              refine wf_bool 34 rfl ((decide_eq_false hp316)) ?_
              refine wf_v 8 rfl (v_fldB fo_26_2 rfl) (gy 34 rfl rfl) rfl hns (by kernel_rfl) (by kernel_rfl) rfl rfl ?_
              refine wf_v 9 rfl (v_ldB1 0 ld_24 rfl rfl rfl) (gy 34 rfl rfl) rfl hns (by kernel_rfl) (by kernel_rfl) rfl rfl ?_
              refine wf_v 10 rfl (v_move rfl) (gy 34 rfl rfl) rfl hns (by kernel_rfl) (by kernel_rfl) rfl rfl ?_
              obtain ⟨ce361, hK362, hr360⟩ := Rw.read (s := St w []) h13 hb308
              obtain ⟨A363, n364, c365, rfl, h366⟩ := hK362
              refine wf_v 11 rfl (v_idxR (s := St w []) slE_24 rfl rfl h13 hb308) (gy 34 rfl rfl) rfl hns (by kernel_rfl) (by kernel_rfl) rfl rfl ?_
              refine wf_v 12 rfl (v_fldA fo_38_0 rfl) (gy 34 rfl rfl) rfl hns (by kernel_rfl) (by kernel_rfl) rfl rfl ?_
              refine wf_v 13 rfl (v_ldA1 (kk := (x164 : Int).toNat * 2) (j := 0) (St w []) ld_3 rfl hr360 rfl (me 1 rfl)) (gy 34 rfl rfl) rfl hns (by kernel_rfl) (by kernel_rfl) rfl rfl ?_
              refine wf_v 14 rfl (v_fldB fo_26_1 rfl) (gy 34 rfl rfl) rfl hns (by kernel_rfl) (by kernel_rfl) rfl rfl ?_
              refine wf_v 15 rfl (v_ldB1 0 ld_23 rfl rfl rfl) (gy 34 rfl rfl) rfl hns (by kernel_rfl) (by kernel_rfl) rfl rfl ?_
              refine wf_v 16 rfl (v_lenQ un_23 rfl h9.hq) (gy 34 rfl rfl) rfl hns (by kernel_rfl) (by kernel_rfl) rfl rfl ?_
              refine wf_v 17 rfl (v_bin rfl rfl rfl) (gy 34 rfl rfl) rfl hns (by kernel_rfl) (by kernel_rfl) rfl rfl ?_
              refine wf_v 18 rfl (v_pick (b := false) rfl rfl) gn rfl hns (by kernel_rfl) (by kernel_rfl) rfl rfl ?_
              refine wf_v 19 rfl (v_move rfl) gn rfl hns (by kernel_rfl) (by kernel_rfl) rfl rfl ?_
              refine wf_bool 46 rfl ((decide_eq_true hp338)) ?_
              refine wf_pass 20 rfl (ps 46 rfl rfl rfl) hns (by kernel_rfl) (by kernel_rfl) rfl rfl ?_
              refine wf_pass 21 rfl (ps 46 rfl rfl rfl) hns (by kernel_rfl) (by kernel_rfl) rfl rfl ?_
              refine wf_pass 22 rfl (ps 46 rfl rfl rfl) hns (by kernel_rfl) (by kernel_rfl) rfl rfl ?_
              refine wf_pass 23 rfl (ps 46 rfl rfl rfl) hns (by kernel_rfl) (by kernel_rfl) rfl rfl ?_
              refine wf_pass 24 rfl (ps 46 rfl rfl rfl) hns (by kernel_rfl) (by kernel_rfl) rfl rfl ?_
              refine wf_pass 25 rfl (ps 46 rfl rfl rfl) hns (by kernel_rfl) (by kernel_rfl) rfl rfl ?_
              refine wf_pass 26 rfl (ps 46 rfl rfl rfl) hns (by kernel_rfl) (by kernel_rfl) rfl rfl ?_
              refine wf_pass 27 rfl (ps 46 rfl rfl rfl) hns (by kernel_rfl) (by kernel_rfl) rfl rfl ?_
              refine wf_pass 28 rfl (ps 46 rfl rfl rfl) hns (by kernel_rfl) (by kernel_rfl) rfl rfl ?_
              refine wf_v 29 rfl (v_pick (b := true) rfl rfl) gn rfl hns (by kernel_rfl) (by kernel_rfl) rfl rfl ?_
              refine wf_end (by kernel_rfl) ?_
              refine g_true (c := trellislaw11_sound_c27) rfl _ rfl (rfl) ?_
              refine g_seq (c := trellislaw11_sound_c28) rfl ?_
              refine g_region (c := trellislaw11_sound_c30) rfl rfl ?_
              refine wl_v 0 rfl (v_assign rfl) gn rfl ?_
              refine w_end 1 rfl ?_
              have h := Out.inr hO1 h
              refine g_retR (c := trellislaw11_sound_c31) [.bool false] rfl Try.func23 rfl (.tmp rfl (.nil)) fun wr hLr => ?_
              have hMr : B.Loc w wr [] [St w []] := hLr.pick (rest := [.box gb14 26 [.slice A2 n3 c4, .slice A6 n7 c8, .slice A10 n11 c12]]) (perm_of_idx [] [0] rfl rfl (by kernel_rfl)) (sels [1] rfl)
              have hMi : ∀ e ∈ ([] : List Ent), e ∈ ([.box gb14 26 [.slice A2 n3 c4, .slice A6 n7 c8, .slice A10 n11 c12]] : List Ent) := sels [] rfl
              show trellislaw11_sound_R w F  r (.returned (packV [.bool false])) wr
              rw [h]
              exact ⟨rfl, hMr⟩
            · have h := if_neg' hp338 h
              obtain ⟨r377, hv378, h⟩ := h
              have hns : Region.noSelect (Code.ops trellislaw11_sound_c26) = true := by kernel_rfl
              refine g_drawF (c := trellislaw11_sound_c26) [.box gb14 26 [.slice A2 n3 c4, .slice A6 n7 c8, .slice A10 n11 c12]] [Sm w.heap.size F w [], St w []] [] 30 rfl rfl mix rfl (.cons_cons _ (.slnil)) (sels [0, 1] rfl) ?_
              refine wf_v 0 rfl (v_fldB fo_26_2 rfl) gn rfl hns (by kernel_rfl) (by kernel_rfl) rfl rfl ?_
              refine wf_v 1 rfl (v_ldB1 0 ld_24 rfl rfl rfl) gn rfl hns (by kernel_rfl) (by kernel_rfl) rfl rfl ?_
              refine wf_v 2 rfl (v_move rfl) gn rfl hns (by kernel_rfl) (by kernel_rfl) rfl rfl ?_
              obtain ⟨ce416, hK417, hr415⟩ := Rw.read (s := St w []) h13 hb308
              obtain ⟨A418, n419, c420, rfl, h421⟩ := hK417
              refine wf_v 3 rfl (v_idxR (s := St w []) slE_24 rfl rfl h13 hb308) gn rfl hns (by kernel_rfl) (by kernel_rfl) rfl rfl ?_
              refine wf_v 4 rfl (v_fldA fo_38_0 rfl) gn rfl hns (by kernel_rfl) (by kernel_rfl) rfl rfl ?_
              refine wf_v 5 rfl (v_ldA1 (kk := (x164 : Int).toNat * 2) (j := 0) (St w []) ld_3 rfl hr415 rfl (me 1 rfl)) gn rfl hns (by kernel_rfl) (by kernel_rfl) rfl rfl ?_
              refine wf_v 6 rfl (v_bin rfl rfl rfl) gn rfl hns (by kernel_rfl) (by kernel_rfl) rfl rfl ?_
              refine wf_v 7 rfl (v_move rfl) gn rfl hns (by kernel_rfl) (by kernel_rfl) rfl rfl ?_
              refine wf_bool 34 rfl ((decide_eq_false hp316)) ?_
              refine wf_v 8 rfl (v_fldB fo_26_2 rfl) (gy 34 rfl rfl) rfl hns (by kernel_rfl) (by kernel_rfl) rfl rfl ?_
              refine wf_v 9 rfl (v_ldB1 0 ld_24 rfl rfl rfl) (gy 34 rfl rfl) rfl hns (by kernel_rfl) (by kernel_rfl) rfl rfl ?_
              refine wf_v 10 rfl (v_move rfl) (gy 34 rfl rfl) rfl hns (by kernel_rfl) (by kernel_rfl) rfl rfl ?_
              obtain ⟨ce423, hK424, hr422⟩ := Rw.read (s := St w []) h13 hb308
              obtain ⟨A425, n426, c427, rfl, h428⟩ := hK424
              refine wf_v 11 rfl (v_idxR (s := St w []) slE_24 rfl rfl h13 hb308) (gy 34 rfl rfl) rfl hns (by kernel_rfl) (by kernel_rfl) rfl rfl ?_
              refine wf_v 12 rfl (v_fldA fo_38_0 rfl) (gy 34 rfl rfl) rfl hns (by kernel_rfl) (by kernel_rfl) rfl rfl ?_
              refine wf_v 13 rfl (v_ldA1 (kk := (x164 : Int).toNat * 2) (j := 0) (St w []) ld_3 rfl hr422 rfl (me 1 rfl)) (gy 34 rfl rfl) rfl hns (by kernel_rfl) (by kernel_rfl) rfl rfl ?_
              refine wf_v 14 rfl (v_fldB fo_26_1 rfl) (gy 34 rfl rfl) rfl hns (by kernel_rfl) (by kernel_rfl) rfl rfl ?_
              refine wf_v 15 rfl (v_ldB1 0 ld_23 rfl rfl rfl) (gy 34 rfl rfl) rfl hns (by kernel_rfl) (by kernel_rfl) rfl rfl ?_
              refine wf_v 16 rfl (v_lenQ un_23 rfl h9.hq) (gy 34 rfl rfl) rfl hns (by kernel_rfl) (by kernel_rfl) rfl rfl ?_
              refine wf_v 17 rfl (v_bin rfl rfl rfl) (gy 34 rfl rfl) rfl hns (by kernel_rfl) (by kernel_rfl) rfl rfl ?_
              refine wf_v 18 rfl (v_pick (b := false) rfl rfl) gn rfl hns (by kernel_rfl) (by kernel_rfl) rfl rfl ?_
              refine wf_v 19 rfl (v_move rfl) gn rfl hns (by kernel_rfl) (by kernel_rfl) rfl rfl ?_
              refine wf_bool 46 rfl ((decide_eq_false hp338)) ?_
              refine wf_v 20 rfl (v_ldB [.slice A2 n3 c4, .slice A6 n7 c8, .slice A10 n11 c12] 0 ld_26 rfl rfl rfl rfl) (gy 46 rfl rfl) rfl hns (by kernel_rfl) (by kernel_rfl) rfl rfl ?_
              refine wf_v 21 rfl (v_fldB fo_26_2 rfl) (gy 46 rfl rfl) rfl hns (by kernel_rfl) (by kernel_rfl) rfl rfl ?_
              refine wf_v 22 rfl (v_ldB1 0 ld_24 rfl rfl rfl) (gy 46 rfl rfl) rfl hns (by kernel_rfl) (by kernel_rfl) rfl rfl ?_
              refine wf_v 23 rfl (v_move rfl) (gy 46 rfl rfl) rfl hns (by kernel_rfl) (by kernel_rfl) rfl rfl ?_
              obtain ⟨ce430, hK431, hr429⟩ := Rw.read (s := St w []) h13 hb308
              obtain ⟨A432, n433, c434, rfl, h435⟩ := hK431
              refine wf_v 24 rfl (v_idxR (s := St w []) slE_24 rfl rfl h13 hb308) (gy 46 rfl rfl) rfl hns (by kernel_rfl) (by kernel_rfl) rfl rfl ?_
              refine wf_v 25 rfl (v_fldA fo_38_1 rfl) (gy 46 rfl rfl) rfl hns (by kernel_rfl) (by kernel_rfl) rfl rfl ?_
              refine wf_v 26 rfl (v_ldA1 (kk := (x164 : Int).toNat * 2) (j := 1) (St w []) ld_27 rfl hr429 rfl (me 1 rfl)) (gy 46 rfl rfl) rfl hns (by kernel_rfl) (by kernel_rfl) rfl rfl ?_
              refine wf_all [27] (by kernel_rfl) rfl ⟨on_s 27 rfl (gy 46 rfl rfl) rfl (s_call [.agg #[.slice A2 n3 c4, .slice A6 n7 c8, .slice A10 n11 c12], .slice A432 n433 c434] rfl Try.func25 rfl rfl rfl fun w442 hL443 => ?_), trivial⟩
              have hp444 : List.Perm ([.box gb14 26 [.slice A2 n3 c4, .slice A6 n7 c8, .slice A10 n11 c12]] : List Ent) (([] : List Ent) ++ ([.box gb14 26 [.slice A2 n3 c4, .slice A6 n7 c8, .slice A10 n11 c12]] : List Ent)) := perm_of_idx [] [0] rfl rfl (by kernel_rfl)
              refine Calls.mono (trellislaw11_symbols_calls w442 (Fl ([] : List Snap)) x1 ((ix x1.prods x164).rhs) A2 n3 c4 A6 n7 c8 A10 n11 c12 A432 n433 c434 (Rw.mono h5 (hL443.toSt hp444 (me 1 rfl))) (Rw.mono h9 (hL443.toSt hp444 (me 1 rfl))) (Rw.mono h13 (hL443.toSt hp444 (me 1 rfl))) (Rw.mono h435 (hL443.toSt hp444 (me 1 rfl))) (hL443.hFl (Sl := ([] : List Snap)) hp444 (sels [] rfl)) (hL443.into hp444 (Fl ([] : List Snap))) r377 hv378) ?_
              rintro _ w445 ⟨rfl, hM446⟩
              have hL447 := hL443.call hp444 hM446
              refine ⟨_, _, _, rfl, hL447, ?_⟩
              refine ⟨sels [0] rfl, sels [0, 1] rfl, ?_⟩
              refine wf_v 28 rfl (v_not rfl) (gy 46 rfl rfl) rfl hns (by kernel_rfl) (by kernel_rfl) rfl rfl ?_
              refine wf_v 29 rfl (v_pick (b := false) rfl rfl) gn rfl hns (by kernel_rfl) (by kernel_rfl) rfl rfl ?_
              refine wf_end (by kernel_rfl) ?_
              by_cases hp448 : r377 = true
              · have h := if_pos' hp448 h
                refine g_false (c := trellislaw11_sound_c27) rfl _ rfl ((nf hp448)) ?_
                refine g_skip (c := trellislaw11_sound_c29) rfl ?_
                refine g_inBlock ?_
                refine g_region (c := trellislaw11_sound_c24) rfl rfl ?_
                refine wl_v 0 rfl (v_move rfl) gn rfl ?_
                refine wl_v 1 rfl (v_bin rfl rfl rfl) gn rfl ?_
                refine wl_v 2 rfl (v_assign rfl) gn rfl ?_
                refine w_end 3 rfl ?_
                refine g_inLoop ?_
                have ih := Out.inl hO1 h
                exact g_go [0, 1] (ih ()) ⟨rfl, rfl, trivial⟩ (.cons_cons _ (.slnil)) rfl
              · have h := if_neg' hp448 h
                refine g_true (c := trellislaw11_sound_c27) rfl _ rfl ((nt (bf hp448))) ?_
                refine g_seq (c := trellislaw11_sound_c28) rfl ?_
                refine g_region (c := trellislaw11_sound_c30) rfl rfl ?_
                refine wl_v 0 rfl (v_assign rfl) gn rfl ?_
                refine w_end 1 rfl ?_
                have h := Out.inr hO1 h
                refine g_retR (c := trellislaw11_sound_c31) [.bool false] rfl Try.func23 rfl (.tmp rfl (.nil)) fun wr hLr => ?_
                have hMr : B.Loc w wr [] [St w []] := hLr.pick (rest := [.box gb14 26 [.slice A2 n3 c4, .slice A6 n7 c8, .slice A10 n11 c12]]) (perm_of_idx [] [0] rfl rfl (by kernel_rfl)) (sels [1] rfl)
                have hMi : ∀ e ∈ ([] : List Ent), e ∈ ([.box gb14 26 [.slice A2 n3 c4, .slice A6 n7 c8, .slice A10 n11 c12]] : List Ent) := sels [] rfl
                show trellislaw11_sound_R w F  r (.returned (packV [.bool false])) wr
                rw [h]
                exact ⟨rfl, hMr⟩
        · have h := if_neg' hp307 h
          refine g_false (c := trellislaw11_sound_c20) rfl _ rfl ((decide_eq_false hp307)) ?_
          refine g_exit (c := trellislaw11_sound_c22) [.code trellislaw11_sound_c12] rfl rfl ?_
          refine g_seq (c := trellislaw11_sound_c12) rfl ?_
          refine g_region (c := trellislaw11_sound_c32) rfl rfl ?_
          refine wl_v 0 rfl (v_assign rfl) gn rfl ?_
          refine w_end 1 rfl ?_
          have h := Out.inr hO1 h
          refine g_retR (c := trellislaw11_sound_c33) [.bool true] rfl Try.func23 rfl (.tmp rfl (.nil)) fun wr hLr => ?_
          have hMr : B.Loc w wr [] [St w []] := hLr.pick (rest := [.box gb14 26 [.slice A2 n3 c4, .slice A6 n7 c8, .slice A10 n11 c12]]) (perm_of_idx [] [0] rfl rfl (by kernel_rfl)) (sels [1] rfl)
          have hMi : ∀ e ∈ ([] : List Ent), e ∈ ([.box gb14 26 [.slice A2 n3 c4, .slice A6 n7 c8, .slice A10 n11 c12]] : List Ent) := sels [] rfl
          show trellislaw11_sound_R w F  r (.returned (packV [.bool true])) wr
          rw [h]
          exact ⟨rfl, hMr⟩
      exact g_go [0, 1] (key2 _ h ()) ⟨rfl, rfl, trivial⟩ (.cons_cons _ (.slnil)) rfl
  refine g_region (c := trellislaw11_sound_c5) rfl rfl ?_
  refine wl_v 0 rfl (v_fldB fo_26_0 rfl) gn rfl ?_
  refine wl_v 1 rfl (v_ldB1 0 ld_22 rfl rfl rfl) gn rfl ?_
  refine wl_v 2 rfl (v_lenQ un_22 rfl h5.hq) gn rfl ?_
  refine wl_v 3 rfl (v_bin rfl rfl rfl) gn rfl ?_
  refine wl_v 4 rfl (v_move rfl) gn rfl ?_
  by_cases hp449 : (x1.terms.length : Int) < 1
  · have h := if_pos' hp449 h
    refine w_bool 8 rfl ((decide_eq_true hp449)) ?_
    refine wl_pass 5 rfl (ps 8 rfl rfl rfl) ?_
    refine wl_pass 6 rfl (ps 8 rfl rfl rfl) ?_
    refine wl_pass 7 rfl (ps 8 rfl rfl rfl) ?_
    refine wl_pass 8 rfl (ps 8 rfl rfl rfl) ?_
    refine wl_v 9 rfl (v_pick (b := true) rfl rfl) gn rfl ?_
    refine wl_v 10 rfl (v_move rfl) gn rfl ?_
    refine wl_pass 11 rfl (ps 14 rfl rfl rfl) ?_
    refine wl_pass 12 rfl (ps 14 rfl rfl rfl) ?_
    refine wl_pass 13 rfl (ps 14 rfl rfl rfl) ?_
    refine wl_pass 14 rfl (ps 14 rfl rfl rfl) ?_
    refine wl_v 15 rfl (v_pick (b := true) rfl rfl) gn rfl ?_
    refine w_end 16 rfl ?_
    exact g_go [0, 1] (j1 true h) ⟨rfl, rfl, trivial⟩ (.cons_cons _ (.slnil)) rfl
  · have h := if_neg' hp449 h
    refine w_bool 8 rfl ((decide_eq_false hp449)) ?_
    refine wl_v 5 rfl (v_fldB fo_26_0 rfl) (gy 8 rfl rfl) rfl ?_
    refine wl_v 6 rfl (v_ldB1 0 ld_22 rfl rfl rfl) (gy 8 rfl rfl) rfl ?_
    refine wl_v 7 rfl (v_lenQ un_22 rfl h5.hq) (gy 8 rfl rfl) rfl ?_
    refine wl_v 8 rfl (v_bin rfl rfl rfl) (gy 8 rfl rfl) rfl ?_
    refine wl_v 9 rfl (v_pick (b := false) rfl rfl) gn rfl ?_
    refine wl_v 10 rfl (v_move rfl) gn rfl ?_
    by_cases hp450 : (x1.terms.length : Int) > 64
    · have h := if_pos' hp450 h
      refine w_bool 14 rfl ((decide_eq_true hp450)) ?_
      refine wl_pass 11 rfl (ps 14 rfl rfl rfl) ?_
      refine wl_pass 12 rfl (ps 14 rfl rfl rfl) ?_
      refine wl_pass 13 rfl (ps 14 rfl rfl rfl) ?_
      refine wl_pass 14 rfl (ps 14 rfl rfl rfl) ?_
      refine wl_v 15 rfl (v_pick (b := true) rfl rfl) gn rfl ?_
      refine w_end 16 rfl ?_
      exact g_go [0, 1] (j1 true h) ⟨rfl, rfl, trivial⟩ (.cons_cons _ (.slnil)) rfl
    · have h := if_neg' hp450 h
      refine w_bool 14 rfl ((decide_eq_false hp450)) ?_
      refine wl_v 11 rfl (v_fldB fo_26_1 rfl) (gy 14 rfl rfl) rfl ?_
      refine wl_v 12 rfl (v_ldB1 0 ld_23 rfl rfl rfl) (gy 14 rfl rfl) rfl ?_
      refine wl_v 13 rfl (v_lenQ un_23 rfl h9.hq) (gy 14 rfl rfl) rfl ?_
      refine wl_v 14 rfl (v_bin rfl rfl rfl) (gy 14 rfl rfl) rfl ?_
      refine wl_v 15 rfl (v_pick (b := false) rfl rfl) gn rfl ?_
      refine w_end 16 rfl ?_
      exact g_go [0, 1] (j1 (decide ((x1.syms.length : Int) > 128)) h) ⟨rfl, rfl, trivial⟩ (.cons_cons _ (.slnil)) rfl
noncomputable abbrev trellislaw11_along_c0 : Code := bodyOf Try.f37
noncomputable abbrev trellislaw11_along_c1 : Code := Code.fst trellislaw11_along_c0
noncomputable abbrev trellislaw11_along_c2 : Code := Code.snd trellislaw11_along_c0
noncomputable abbrev trellislaw11_along_c3 : Code := Code.fst trellislaw11_along_c2
noncomputable abbrev trellislaw11_along_c4 : Code := Code.snd trellislaw11_along_c2
noncomputable abbrev trellislaw11_along_c5 : Code := Code.fst trellislaw11_along_c4
noncomputable abbrev trellislaw11_along_c6 : Code := Code.snd trellislaw11_along_c4
noncomputable abbrev trellislaw11_along_c7 : Code := Code.fst trellislaw11_along_c5
noncomputable abbrev trellislaw11_along_c8 : Code := Code.snd trellislaw11_along_c5
noncomputable abbrev trellislaw11_along_c9 : Code := Code.fst trellislaw11_along_c8
noncomputable abbrev trellislaw11_along_c10 : Code := Code.fst trellislaw11_along_c9
noncomputable abbrev trellislaw11_along_c11 : Code := Code.fst trellislaw11_along_c10
noncomputable abbrev trellislaw11_along_c12 : Code := Code.snd trellislaw11_along_c10
noncomputable abbrev trellislaw11_along_c13 : Code := Code.fst trellislaw11_along_c11
noncomputable abbrev trellislaw11_along_c14 : Code := Code.snd trellislaw11_along_c11
noncomputable abbrev trellislaw11_along_c15 : Code := Code.fst trellislaw11_along_c14
noncomputable abbrev trellislaw11_along_c16 : Code := Code.snd trellislaw11_along_c14
noncomputable abbrev trellislaw11_along_c17 : Code := Code.fst trellislaw11_along_c12
noncomputable abbrev trellislaw11_along_c18 : Code := Code.snd trellislaw11_along_c12
noncomputable abbrev trellislaw11_along_c19 : Code := Code.fst trellislaw11_along_c17
noncomputable abbrev trellislaw11_along_c20 : Code := Code.fst trellislaw11_along_c19
noncomputable abbrev trellislaw11_along_c21 : Code := Code.snd trellislaw11_along_c19
noncomputable abbrev trellislaw11_along_c22 : Code := Code.fst trellislaw11_along_c21
noncomputable abbrev trellislaw11_along_c23 : Code := Code.snd trellislaw11_along_c21
noncomputable abbrev trellislaw11_along_c24 : Code := Code.fst trellislaw11_along_c23
noncomputable abbrev trellislaw11_along_c25 : Code := Code.snd trellislaw11_along_c23
noncomputable abbrev trellislaw11_along_c26 : Code := Code.fst trellislaw11_along_c24
noncomputable abbrev trellislaw11_along_c27 : Code := Code.snd trellislaw11_along_c24
noncomputable abbrev trellislaw11_along_c28 : Code := Code.fst trellislaw11_along_c6
noncomputable abbrev trellislaw11_along_c29 : Code := Code.snd trellislaw11_along_c6
abbrev trellislaw11_along_R (w : World) (F : Nat → Prop) (r : Int × Bool) : Ending → World → Prop := fun e w' => e = .returned (.tuple #[.int .u64 r.1, .bool r.2]) ∧ B.Loc w w' [] [St w []]
noncomputable abbrev trellislaw11_along_C (w : World) (F : Nat → Prop) (r : Int × Bool) : Cx := ⟨Try.prog, 37, Try.f37, 37, trellislaw11_along_R w F  r, w⟩
theorem trellislaw11_along_calls (w : World) (F : Nat → Prop) (x1 : List Bool) (x6 : List Int) (x11 : List api_Ref) (A2 : Option Addr) (n3 : Nat) (c4 : Nat) (A7 : Option Addr) (n8 : Nat) (c9 : Nat) (A12 : Option Addr) (n13 : Nat) (c14 : Nat) (h5 : Rw kBool w (St w []).av A2 n3 c4 x1) (h10 : Rw (kInt .u64) w (St w []).av A7 n8 c9 x6) (h15 : Rw k_api_Ref w (St w []).av A12 n13 c14 x11) (hF : ∀ b, F b → b < w.heap.size ∧ ∀ o ∈ ([] : List (List Nat)), b ∉ o) (hL0 : B.Loc w w [] [Sm w.heap.size F w [], St w []]) (r : Int × Bool) (h : trellislaw11_along x1 x6 x11 r) : Calls Try.prog 37 #[.slice A2 n3 c4, .slice A7 n8 c9, .slice A12 n13 c14] w (trellislaw11_along_R w F  r) := by
  unfold trellislaw11_along at h
  refine calls_of_Loc (vs := [.slice A2 n3 c4, .slice A7 n8 c9, .slice A12 n13 c14]) 37 Try.func37 rfl Try.ntmps37 rfl hL0 ?_
  show G (trellislaw11_along_C w F r) _ _ _ _
  refine g_seq (c := trellislaw11_along_c0) rfl ?_
  refine g_region (c := trellislaw11_along_c1) rfl rfl ?_
  refine wl_v 0 rfl (v_assign rfl) gn rfl ?_
  refine wl_v 1 rfl (v_assign rfl) gn rfl ?_
  refine w_end 2 rfl ?_
  refine g_seq (c := trellislaw11_along_c2) rfl ?_
  refine g_region (c := trellislaw11_along_c3) rfl rfl ?_
  refine wl_v 0 rfl (v_assign rfl) gn rfl ?_
  refine w_end 1 rfl ?_
  refine g_seq (c := trellislaw11_along_c4) rfl ?_
  refine g_seq (c := trellislaw11_along_c5) rfl ?_
  refine g_region (c := trellislaw11_along_c7) rfl rfl ?_
  refine wl_v 0 rfl (v_assign rfl) gn rfl ?_
  refine w_end 1 rfl ?_
  refine g_block (c := trellislaw11_along_c8) rfl ?_
  refine g_loop (c := trellislaw11_along_c9) rfl ?_
  have key1 : ∀ s, Rounds (fun (s : Int × Int) o => trellislaw11_along_b1 x11 x6 x1 s.1 s.2 o) s r → (fun (s : Int × Int) => ∀ (_ : Unit), G (trellislaw11_along_C w F r) [.code trellislaw11_along_c10, .inLoop trellislaw11_along_c10, .inBlock 0, .code trellislaw11_along_c6] [(0, .slice A2 n3 c4), (1, .slice A7 n8 c9), (2, .slice A12 n13 c14), (8, .int .u64 s.1), (9, .int .i64 s.2)] [] [Sm w.heap.size F w [], St w []]) s := by
    intro s hs
    refine Rounds.ind (mot := (fun (s : Int × Int) => ∀ (_ : Unit), G (trellislaw11_along_C w F r) [.code trellislaw11_along_c10, .inLoop trellislaw11_along_c10, .inBlock 0, .code trellislaw11_along_c6] [(0, .slice A2 n3 c4), (1, .slice A7 n8 c9), (2, .slice A12 n13 c14), (8, .int .u64 s.1), (9, .int .i64 s.2)] [] [Sm w.heap.size F w [], St w []])) ?_ hs
    clear hs s
    intro s o1 h hO1
    obtain ⟨x26, x27⟩ := s
    show ∀ (_ : Unit), G (trellislaw11_along_C w F r) [.code trellislaw11_along_c10, .inLoop trellislaw11_along_c10, .inBlock 0, .code trellislaw11_along_c6] [(0, .slice A2 n3 c4), (1, .slice A7 n8 c9), (2, .slice A12 n13 c14), (8, .int .u64 x26), (9, .int .i64 x27)] [] [Sm w.heap.size F w [], St w []]
    intro _
    have h : trellislaw11_along_b1 x11 x6 x1 x26 x27 o1 := h
    unfold trellislaw11_along_b1 at h
    refine g_seq (c := trellislaw11_along_c10) rfl ?_
    refine g_seq (c := trellislaw11_along_c11) rfl ?_
    refine g_region (c := trellislaw11_along_c13) rfl rfl ?_
    refine wl_v 0 rfl (v_move rfl) gn rfl ?_
    refine wl_v 1 rfl (v_move rfl) gn rfl ?_
    refine wl_v 2 rfl (v_lenQ un_27 rfl h15.hq) gn rfl ?_
    refine wl_v 3 rfl (v_bin rfl rfl rfl) gn rfl ?_
    refine w_end 4 rfl ?_
    by_cases hp37 : x27 < (x11.length : Int)
    · have h := if_pos' hp37 h
      refine g_true (c := trellislaw11_along_c14) rfl _ rfl ((decide_eq_true hp37)) ?_
      refine g_skip (c := trellislaw11_along_c15) rfl ?_
      refine g_seq (c := trellislaw11_along_c12) rfl ?_
      refine g_block (c := trellislaw11_along_c17) rfl ?_
      refine g_seq (c := trellislaw11_along_c19) rfl ?_
      refine g_region (c := trellislaw11_along_c20) rfl rfl ?_
      refine wl_v 0 rfl (v_move rfl) gn rfl ?_
      refine wl_v 1 rfl (v_move rfl) gn rfl ?_
      refine wl_v 2 rfl (v_move rfl) gn rfl ?_
      refine wl_v 3 rfl (v_move rfl) gn rfl ?_
      obtain ⟨hb38, h⟩ := h
      have hr39 := Rw.readF (s := St w []) (hl := hl_api_Ref) (h1 := h1_api_Ref) h15 hb38
      refine wl_v 4 rfl (v_idxR (s := St w []) slE_27 rfl rfl h15 hb38) gn rfl ?_
      refine wl_v 5 rfl (v_fldA fo_36_0 rfl) gn rfl ?_
      refine wl_v 6 rfl (v_ldA1 (kk := (x27 : Int).toNat * 3) (j := 0) (St w []) ld_3 rfl hr39 rfl (me 1 rfl)) gn rfl ?_
      obtain ⟨hb40, h⟩ := h
      have hr41 := Rw.readF (s := St w []) (hl := (hlI .u64)) (h1 := (hone_int .u64)) h10 hb40
      refine wl_v 7 rfl (v_idxR (s := St w []) slE_42 rfl rfl h10 hb40) gn rfl ?_
      refine wl_v 8 rfl (v_ldA1 (kk := ((ix x11 x27).sym : Int).toNat * 1) (j := 0) (St w []) ld_29 rfl hr41 rfl (me 1 rfl)) gn rfl ?_
      refine wl_v 9 rfl (v_bin rfl rfl rfl) gn rfl ?_
      refine wl_v 10 rfl (v_assign rfl) gn rfl ?_
      refine w_end 11 rfl ?_
      refine g_seq (c := trellislaw11_along_c21) rfl ?_
      refine g_region (c := trellislaw11_along_c22) rfl rfl ?_
      refine wl_v 0 rfl (v_move rfl) gn rfl ?_
      refine wl_v 1 rfl (v_move rfl) gn rfl ?_
      refine wl_v 2 rfl (v_move rfl) gn rfl ?_
      have hr42 := Rw.readF (s := St w []) (hl := hl_api_Ref) (h1 := h1_api_Ref) h15 hb38
      refine wl_v 3 rfl (v_idxR (s := St w []) slE_27 rfl rfl h15 hb38) gn rfl ?_
      refine wl_v 4 rfl (v_fldA fo_36_0 rfl) gn rfl ?_
      refine wl_v 5 rfl (v_ldA1 (kk := (x27 : Int).toNat * 3) (j := 0) (St w []) ld_3 rfl hr42 rfl (me 1 rfl)) gn rfl ?_
      obtain ⟨hb43, h⟩ := h
      have hr44 := Rw.readF (s := St w []) (hl := hlB) (h1 := hone_bool) h5 hb43
      refine wl_v 6 rfl (v_idxR (s := St w []) slE_40 rfl rfl h5 hb43) gn rfl ?_
      refine wl_v 7 rfl (v_ldA1 (kk := ((ix x11 x27).sym : Int).toNat * 1) (j := 0) (St w []) ld_4 rfl hr44 rfl (me 1 rfl)) gn rfl ?_
      refine wl_v 8 rfl (v_not rfl) gn rfl ?_
      refine w_end 9 rfl ?_
      by_cases hp45 : (ix x1 ((ix x11 x27).sym)) = true
      · have h := if_pos' hp45 h
        refine g_false (c := trellislaw11_along_c23) rfl _ rfl ((nf hp45)) ?_
        refine g_skip (c := trellislaw11_along_c25) rfl ?_
        refine g_inBlock ?_
        refine g_region (c := trellislaw11_along_c18) rfl rfl ?_
        refine wl_v 0 rfl (v_move rfl) gn rfl ?_
        refine wl_v 1 rfl (v_bin rfl rfl rfl) gn rfl ?_
        refine wl_v 2 rfl (v_assign rfl) gn rfl ?_
        refine w_end 3 rfl ?_
        refine g_inLoop ?_
        have ih := Out.inl hO1 h
        exact g_go [0, 1] (ih ()) ⟨rfl, rfl, rfl, rfl, rfl, trivial⟩ (.slnil) rfl
      · have h := if_neg' hp45 h
        refine g_true (c := trellislaw11_along_c23) rfl _ rfl ((nt (bf hp45))) ?_
        refine g_seq (c := trellislaw11_along_c24) rfl ?_
        refine g_region (c := trellislaw11_along_c26) rfl rfl ?_
        refine wl_v 0 rfl (v_move rfl) gn rfl ?_
        refine wl_v 1 rfl (v_assign rfl) gn rfl ?_
        refine wl_v 2 rfl (v_assign rfl) gn rfl ?_
        refine w_end 3 rfl ?_
        have h := Out.inr hO1 h
        refine g_retR (c := trellislaw11_along_c27) [.int .u64 (bits .or .u64 x26 (ix x6 ((ix x11 x27).sym))), .bool false] rfl Try.func37 rfl (.tmp rfl (.tmp rfl (.nil))) fun wr hLr => ?_
        have hMr : B.Loc w wr [] [St w []] := hLr.pick (rest := []) (perm_of_idx [] [] rfl rfl (by kernel_rfl)) (sels [1] rfl)
        have hMi : ∀ e ∈ ([] : List Ent), e ∈ ([] : List Ent) := sels [] rfl
        show trellislaw11_along_R w F  r (.returned (packV [.int .u64 (bits .or .u64 x26 (ix x6 ((ix x11 x27).sym))), .bool false])) wr
        rw [h]
        exact ⟨rfl, hMr⟩
    · have h := if_neg' hp37 h
      refine g_false (c := trellislaw11_along_c14) rfl _ rfl ((decide_eq_false hp37)) ?_
      refine g_exit (c := trellislaw11_along_c16) [.code trellislaw11_along_c6] rfl rfl ?_
      refine g_seq (c := trellislaw11_along_c6) rfl ?_
      refine g_region (c := trellislaw11_along_c28) rfl rfl ?_
      refine wl_v 0 rfl (v_move rfl) gn rfl ?_
      refine wl_v 1 rfl (v_assign rfl) gn rfl ?_
      refine wl_v 2 rfl (v_assign rfl) gn rfl ?_
      refine w_end 3 rfl ?_
      have h := Out.inr hO1 h
      refine g_retR (c := trellislaw11_along_c29) [.int .u64 x26, .bool true] rfl Try.func37 rfl (.tmp rfl (.tmp rfl (.nil))) fun wr hLr => ?_
      have hMr : B.Loc w wr [] [St w []] := hLr.pick (rest := []) (perm_of_idx [] [] rfl rfl (by kernel_rfl)) (sels [1] rfl)
      have hMi : ∀ e ∈ ([] : List Ent), e ∈ ([] : List Ent) := sels [] rfl
      show trellislaw11_along_R w F  r (.returned (packV [.int .u64 x26, .bool true])) wr
      rw [h]
      exact ⟨rfl, hMr⟩
  exact g_go [0, 1] (key1 _ h ()) ⟨rfl, rfl, rfl, rfl, rfl, trivial⟩ (.slnil) rfl
noncomputable abbrev trellislaw11_closed_c0 : Code := bodyOf Try.f24
noncomputable abbrev trellislaw11_closed_c1 : Code := Code.fst trellislaw11_closed_c0
noncomputable abbrev trellislaw11_closed_c2 : Code := Code.snd trellislaw11_closed_c0
noncomputable abbrev trellislaw11_closed_c3 : Code := Code.fst trellislaw11_closed_c2
noncomputable abbrev trellislaw11_closed_c4 : Code := Code.snd trellislaw11_closed_c2
noncomputable abbrev trellislaw11_closed_c5 : Code := Code.fst trellislaw11_closed_c3
noncomputable abbrev trellislaw11_closed_c6 : Code := Code.snd trellislaw11_closed_c3
noncomputable abbrev trellislaw11_closed_c7 : Code := Code.fst trellislaw11_closed_c6
noncomputable abbrev trellislaw11_closed_c8 : Code := Code.fst trellislaw11_closed_c7
noncomputable abbrev trellislaw11_closed_c9 : Code := Code.fst trellislaw11_closed_c8
noncomputable abbrev trellislaw11_closed_c10 : Code := Code.snd trellislaw11_closed_c8
noncomputable abbrev trellislaw11_closed_c11 : Code := Code.fst trellislaw11_closed_c9
noncomputable abbrev trellislaw11_closed_c12 : Code := Code.snd trellislaw11_closed_c9
noncomputable abbrev trellislaw11_closed_c13 : Code := Code.fst trellislaw11_closed_c12
noncomputable abbrev trellislaw11_closed_c14 : Code := Code.snd trellislaw11_closed_c12
noncomputable abbrev trellislaw11_closed_c15 : Code := Code.fst trellislaw11_closed_c10
noncomputable abbrev trellislaw11_closed_c16 : Code := Code.snd trellislaw11_closed_c10
noncomputable abbrev trellislaw11_closed_c17 : Code := Code.fst trellislaw11_closed_c15
noncomputable abbrev trellislaw11_closed_c18 : Code := Code.fst trellislaw11_closed_c17
noncomputable abbrev trellislaw11_closed_c19 : Code := Code.snd trellislaw11_closed_c17
noncomputable abbrev trellislaw11_closed_c20 : Code := Code.fst trellislaw11_closed_c19
noncomputable abbrev trellislaw11_closed_c21 : Code := Code.snd trellislaw11_closed_c19
noncomputable abbrev trellislaw11_closed_c22 : Code := Code.fst trellislaw11_closed_c20
noncomputable abbrev trellislaw11_closed_c23 : Code := Code.snd trellislaw11_closed_c20
noncomputable abbrev trellislaw11_closed_c24 : Code := Code.fst trellislaw11_closed_c4
noncomputable abbrev trellislaw11_closed_c25 : Code := Code.snd trellislaw11_closed_c4
noncomputable abbrev trellislaw11_closed_c26 : Code := Code.fst trellislaw11_closed_c24
noncomputable abbrev trellislaw11_closed_c27 : Code := Code.snd trellislaw11_closed_c24
noncomputable abbrev trellislaw11_closed_c28 : Code := Code.fst trellislaw11_closed_c27
noncomputable abbrev trellislaw11_closed_c29 : Code := Code.fst trellislaw11_closed_c28
noncomputable abbrev trellislaw11_closed_c30 : Code := Code.fst trellislaw11_closed_c29
noncomputable abbrev trellislaw11_closed_c31 : Code := Code.snd trellislaw11_closed_c29
noncomputable abbrev trellislaw11_closed_c32 : Code := Code.fst trellislaw11_closed_c30
noncomputable abbrev trellislaw11_closed_c33 : Code := Code.snd trellislaw11_closed_c30
noncomputable abbrev trellislaw11_closed_c34 : Code := Code.fst trellislaw11_closed_c33
noncomputable abbrev trellislaw11_closed_c35 : Code := Code.snd trellislaw11_closed_c33
noncomputable abbrev trellislaw11_closed_c36 : Code := Code.fst trellislaw11_closed_c31
noncomputable abbrev trellislaw11_closed_c37 : Code := Code.snd trellislaw11_closed_c31
noncomputable abbrev trellislaw11_closed_c38 : Code := Code.fst trellislaw11_closed_c36
noncomputable abbrev trellislaw11_closed_c39 : Code := Code.fst trellislaw11_closed_c38
noncomputable abbrev trellislaw11_closed_c40 : Code := Code.snd trellislaw11_closed_c38
noncomputable abbrev trellislaw11_closed_c41 : Code := Code.fst trellislaw11_closed_c39
noncomputable abbrev trellislaw11_closed_c42 : Code := Code.snd trellislaw11_closed_c39
noncomputable abbrev trellislaw11_closed_c43 : Code := Code.fst trellislaw11_closed_c42
noncomputable abbrev trellislaw11_closed_c44 : Code := Code.snd trellislaw11_closed_c42
noncomputable abbrev trellislaw11_closed_c45 : Code := Code.fst trellislaw11_closed_c40
noncomputable abbrev trellislaw11_closed_c46 : Code := Code.snd trellislaw11_closed_c40
noncomputable abbrev trellislaw11_closed_c47 : Code := Code.fst trellislaw11_closed_c46
noncomputable abbrev trellislaw11_closed_c48 : Code := Code.snd trellislaw11_closed_c46
noncomputable abbrev trellislaw11_closed_c49 : Code := Code.fst trellislaw11_closed_c48
noncomputable abbrev trellislaw11_closed_c50 : Code := Code.snd trellislaw11_closed_c48
noncomputable abbrev trellislaw11_closed_c51 : Code := Code.fst trellislaw11_closed_c50
noncomputable abbrev trellislaw11_closed_c52 : Code := Code.snd trellislaw11_closed_c50
noncomputable abbrev trellislaw11_closed_c53 : Code := Code.fst trellislaw11_closed_c51
noncomputable abbrev trellislaw11_closed_c54 : Code := Code.snd trellislaw11_closed_c51
noncomputable abbrev trellislaw11_closed_c55 : Code := Code.fst trellislaw11_closed_c25
noncomputable abbrev trellislaw11_closed_c56 : Code := Code.snd trellislaw11_closed_c25
abbrev trellislaw11_closed_R (w : World) (F : Nat → Prop) (r : Bool) : Ending → World → Prop := fun e w' => e = .returned (.bool r) ∧ B.Loc w w' [] [St w []]
noncomputable abbrev trellislaw11_closed_C (w : World) (F : Nat → Prop) (r : Bool) : Cx := ⟨Try.prog, 24, Try.f24, 81, trellislaw11_closed_R w F  r, w⟩
theorem trellislaw11_closed_calls (w : World) (F : Nat → Prop) (x1 : api_Gram) (x14 : List Bool) (x19 : List Int) (A2 : Option Addr) (n3 : Nat) (c4 : Nat) (A6 : Option Addr) (n7 : Nat) (c8 : Nat) (A10 : Option Addr) (n11 : Nat) (c12 : Nat) (A15 : Option Addr) (n16 : Nat) (c17 : Nat) (A20 : Option Addr) (n21 : Nat) (c22 : Nat) (h5 : Rw k_api_TermDef w (St w []).av A2 n3 c4 x1.terms) (h9 : Rw k_api_Sym w (St w []).av A6 n7 c8 x1.syms) (h13 : Rw k_api_Prod w (St w []).av A10 n11 c12 x1.prods) (h18 : Rw kBool w (St w []).av A15 n16 c17 x14) (h23 : Rw (kInt .u64) w (St w []).av A20 n21 c22 x19) (hF : ∀ b, F b → b < w.heap.size ∧ ∀ o ∈ ([] : List (List Nat)), b ∉ o) (hL0 : B.Loc w w [] [Sm w.heap.size F w [], St w []]) (r : Bool) (h : trellislaw11_closed x1 x14 x19 r) : Calls Try.prog 24 #[.agg #[.slice A2 n3 c4, .slice A6 n7 c8, .slice A10 n11 c12], .slice A15 n16 c17, .slice A20 n21 c22] w (trellislaw11_closed_R w F  r) := by
  unfold trellislaw11_closed at h
  refine calls_of_Loc (vs := [.agg #[.slice A2 n3 c4, .slice A6 n7 c8, .slice A10 n11 c12], .slice A15 n16 c17, .slice A20 n21 c22]) 81 Try.func24 rfl Try.ntmps24 rfl hL0 ?_
  show G (trellislaw11_closed_C w F r) _ _ _ _
  refine g_seq (c := trellislaw11_closed_c0) rfl ?_
  refine g_region (c := trellislaw11_closed_c1) rfl rfl ?_
  refine wl_s 0 rfl (s_box [.slice A2 n3 c4, .slice A6 n7 c8, .slice A10 n11 c12] rfl rfl rfl fun gb24 => ?_) gn
  refine wl_v 1 rfl (v_assign rfl) gn rfl ?_
  refine w_end 2 rfl ?_
  refine g_seq (c := trellislaw11_closed_c2) rfl ?_
  refine g_seq (c := trellislaw11_closed_c3) rfl ?_
  refine g_region (c := trellislaw11_closed_c5) rfl rfl ?_
  refine wl_v 0 rfl (v_assign rfl) gn rfl ?_
  refine w_end 1 rfl ?_
  refine g_block (c := trellislaw11_closed_c6) rfl ?_
  refine g_loop (c := trellislaw11_closed_c7) rfl ?_
  have key1 : ∀ s, Rounds (fun (s : Int) o => trellislaw11_closed_b1 x1 x19 x14 s o) s r → (fun (s : Int) => ∀ (_ : Unit), G (trellislaw11_closed_C w F r) [.code trellislaw11_closed_c8, .inLoop trellislaw11_closed_c8, .inBlock 0, .code trellislaw11_closed_c4] [(1, .slice A15 n16 c17), (2, .slice A20 n21 c22), (3, .pointer (some ⟨gb24, 0, none⟩)), (7, .int .i64 s)] [.box gb24 26 [.slice A2 n3 c4, .slice A6 n7 c8, .slice A10 n11 c12]] [Sm w.heap.size F w [], St w []]) s := by
    intro s hs
    refine Rounds.ind (mot := (fun (s : Int) => ∀ (_ : Unit), G (trellislaw11_closed_C w F r) [.code trellislaw11_closed_c8, .inLoop trellislaw11_closed_c8, .inBlock 0, .code trellislaw11_closed_c4] [(1, .slice A15 n16 c17), (2, .slice A20 n21 c22), (3, .pointer (some ⟨gb24, 0, none⟩)), (7, .int .i64 s)] [.box gb24 26 [.slice A2 n3 c4, .slice A6 n7 c8, .slice A10 n11 c12]] [Sm w.heap.size F w [], St w []])) ?_ hs
    clear hs s
    intro x193 o1 h hO1
    show ∀ (_ : Unit), G (trellislaw11_closed_C w F r) [.code trellislaw11_closed_c8, .inLoop trellislaw11_closed_c8, .inBlock 0, .code trellislaw11_closed_c4] [(1, .slice A15 n16 c17), (2, .slice A20 n21 c22), (3, .pointer (some ⟨gb24, 0, none⟩)), (7, .int .i64 x193)] [.box gb24 26 [.slice A2 n3 c4, .slice A6 n7 c8, .slice A10 n11 c12]] [Sm w.heap.size F w [], St w []]
    intro _
    have h : trellislaw11_closed_b1 x1 x19 x14 x193 o1 := h
    unfold trellislaw11_closed_b1 at h
    refine g_seq (c := trellislaw11_closed_c8) rfl ?_
    refine g_seq (c := trellislaw11_closed_c9) rfl ?_
    refine g_region (c := trellislaw11_closed_c11) rfl rfl ?_
    refine wl_v 0 rfl (v_move rfl) gn rfl ?_
    refine wl_v 1 rfl (v_fldB fo_26_0 rfl) gn rfl ?_
    refine wl_v 2 rfl (v_ldB1 0 ld_22 rfl rfl rfl) gn rfl ?_
    refine wl_v 3 rfl (v_lenQ un_22 rfl h5.hq) gn rfl ?_
    refine wl_v 4 rfl (v_bin rfl rfl rfl) gn rfl ?_
    refine w_end 5 rfl ?_
    by_cases hp360 : x193 < (x1.terms.length : Int)
    · have h := if_pos' hp360 h
      refine g_true (c := trellislaw11_closed_c12) rfl _ rfl ((decide_eq_true hp360)) ?_
      refine g_skip (c := trellislaw11_closed_c13) rfl ?_
      refine g_seq (c := trellislaw11_closed_c10) rfl ?_
      refine g_block (c := trellislaw11_closed_c15) rfl ?_
      refine g_seq (c := trellislaw11_closed_c17) rfl ?_
      refine g_region (c := trellislaw11_closed_c18) rfl rfl ?_
      refine wl_v 0 rfl (v_move rfl) gn rfl ?_
      refine wl_v 1 rfl (v_move rfl) gn rfl ?_
      obtain ⟨hb361, h⟩ := h
      have hr362 := Rw.readF (s := St w []) (hl := (hlI .u64)) (h1 := (hone_int .u64)) h23 hb361
      refine wl_v 2 rfl (v_idxR (s := St w []) slE_42 rfl rfl h23 hb361) gn rfl ?_
      refine wl_v 3 rfl (v_ldA1 (kk := (x193 : Int).toNat * 1) (j := 0) (St w []) ld_29 rfl hr362 rfl (me 1 rfl)) gn rfl ?_
      refine wl_v 4 rfl (v_move rfl) gn rfl ?_
      refine wl_v 5 rfl (v_conv ⟨_, un_3⟩ un_49 rfl) gn rfl ?_
      obtain ⟨hb363, h⟩ := h
      refine wl_v 6 rfl (v_shr rfl rfl hb363) gn rfl ?_
      refine wl_v 7 rfl (v_bin rfl rfl rfl) gn rfl ?_
      refine wl_v 8 rfl (v_bin rfl rfl rfl) gn rfl ?_
      refine w_end 9 rfl ?_
      by_cases hp364 : bits .and .u64 (shrV .u64 (ix x19 x193) (IntKind.u64.wrap (x193))) 1 = 1
      · have h := if_pos' hp364 h
        refine g_false (c := trellislaw11_closed_c19) rfl _ rfl ((eqib hp364)) ?_
        refine g_skip (c := trellislaw11_closed_c21) rfl ?_
        refine g_inBlock ?_
        refine g_region (c := trellislaw11_closed_c16) rfl rfl ?_
        refine wl_v 0 rfl (v_move rfl) gn rfl ?_
        refine wl_v 1 rfl (v_bin rfl rfl rfl) gn rfl ?_
        refine wl_v 2 rfl (v_assign rfl) gn rfl ?_
        refine w_end 3 rfl ?_
        refine g_inLoop ?_
        have ih := Out.inl hO1 h
        exact g_go [0, 1] (ih ()) ⟨rfl, rfl, rfl, rfl, trivial⟩ (.cons_cons _ (.slnil)) rfl
      · have h := if_neg' hp364 h
        refine g_true (c := trellislaw11_closed_c19) rfl _ rfl ((neib hp364)) ?_
        refine g_seq (c := trellislaw11_closed_c20) rfl ?_
        refine g_region (c := trellislaw11_closed_c22) rfl rfl ?_
        refine wl_v 0 rfl (v_assign rfl) gn rfl ?_
        refine w_end 1 rfl ?_
        have h := Out.inr hO1 h
        refine g_retR (c := trellislaw11_closed_c23) [.bool false] rfl Try.func24 rfl (.tmp rfl (.nil)) fun wr hLr => ?_
        have hMr : B.Loc w wr [] [St w []] := hLr.pick (rest := [.box gb24 26 [.slice A2 n3 c4, .slice A6 n7 c8, .slice A10 n11 c12]]) (perm_of_idx [] [0] rfl rfl (by kernel_rfl)) (sels [1] rfl)
        have hMi : ∀ e ∈ ([] : List Ent), e ∈ ([.box gb24 26 [.slice A2 n3 c4, .slice A6 n7 c8, .slice A10 n11 c12]] : List Ent) := sels [] rfl
        show trellislaw11_closed_R w F  r (.returned (packV [.bool false])) wr
        rw [h]
        exact ⟨rfl, hMr⟩
    · have h := if_neg' hp360 h
      refine g_false (c := trellislaw11_closed_c12) rfl _ rfl ((decide_eq_false hp360)) ?_
      refine g_exit (c := trellislaw11_closed_c14) [.code trellislaw11_closed_c4] rfl rfl ?_
      refine g_seq (c := trellislaw11_closed_c4) rfl ?_
      refine g_seq (c := trellislaw11_closed_c24) rfl ?_
      refine g_region (c := trellislaw11_closed_c26) rfl rfl ?_
      refine wl_v 0 rfl (v_assign rfl) gn rfl ?_
      refine w_end 1 rfl ?_
      refine g_block (c := trellislaw11_closed_c27) rfl ?_
      refine g_loop (c := trellislaw11_closed_c28) rfl ?_
      have key2 : ∀ s, Rounds (fun (s : Int) o => trellislaw11_closed_b2 x1 x14 x19 s o) s o1 → (fun (s : Int) => ∀ (_ : Unit), G (trellislaw11_closed_C w F r) [.code trellislaw11_closed_c29, .inLoop trellislaw11_closed_c29, .inBlock 2, .code trellislaw11_closed_c25] [(1, .slice A15 n16 c17), (2, .slice A20 n21 c22), (3, .pointer (some ⟨gb24, 0, none⟩)), (8, .int .i64 s)] [.box gb24 26 [.slice A2 n3 c4, .slice A6 n7 c8, .slice A10 n11 c12]] [Sm w.heap.size F w [], St w []]) s := by
        intro s hs
        refine Rounds.ind (mot := (fun (s : Int) => ∀ (_ : Unit), G (trellislaw11_closed_C w F r) [.code trellislaw11_closed_c29, .inLoop trellislaw11_closed_c29, .inBlock 2, .code trellislaw11_closed_c25] [(1, .slice A15 n16 c17), (2, .slice A20 n21 c22), (3, .pointer (some ⟨gb24, 0, none⟩)), (8, .int .i64 s)] [.box gb24 26 [.slice A2 n3 c4, .slice A6 n7 c8, .slice A10 n11 c12]] [Sm w.heap.size F w [], St w []])) ?_ hs
        clear hs s
        intro x419 o2 h hO2
        show ∀ (_ : Unit), G (trellislaw11_closed_C w F r) [.code trellislaw11_closed_c29, .inLoop trellislaw11_closed_c29, .inBlock 2, .code trellislaw11_closed_c25] [(1, .slice A15 n16 c17), (2, .slice A20 n21 c22), (3, .pointer (some ⟨gb24, 0, none⟩)), (8, .int .i64 x419)] [.box gb24 26 [.slice A2 n3 c4, .slice A6 n7 c8, .slice A10 n11 c12]] [Sm w.heap.size F w [], St w []]
        intro _
        have h : trellislaw11_closed_b2 x1 x14 x19 x419 o2 := h
        unfold trellislaw11_closed_b2 at h
        refine g_seq (c := trellislaw11_closed_c29) rfl ?_
        refine g_seq (c := trellislaw11_closed_c30) rfl ?_
        refine g_region (c := trellislaw11_closed_c32) rfl rfl ?_
        refine wl_v 0 rfl (v_move rfl) gn rfl ?_
        refine wl_v 1 rfl (v_fldB fo_26_2 rfl) gn rfl ?_
        refine wl_v 2 rfl (v_ldB1 0 ld_24 rfl rfl rfl) gn rfl ?_
        refine wl_v 3 rfl (v_lenQ un_24 rfl h13.hq) gn rfl ?_
        refine wl_v 4 rfl (v_bin rfl rfl rfl) gn rfl ?_
        refine w_end 5 rfl ?_
        by_cases hp473 : x419 < (x1.prods.length : Int)
        · have h := if_pos' hp473 h
          refine g_true (c := trellislaw11_closed_c33) rfl _ rfl ((decide_eq_true hp473)) ?_
          refine g_skip (c := trellislaw11_closed_c34) rfl ?_
          refine g_seq (c := trellislaw11_closed_c31) rfl ?_
          refine g_block (c := trellislaw11_closed_c36) rfl ?_
          refine g_seq (c := trellislaw11_closed_c38) rfl ?_
          refine g_seq (c := trellislaw11_closed_c39) rfl ?_
          refine g_region (c := trellislaw11_closed_c41) rfl rfl ?_
          refine wl_v 0 rfl (v_fldB fo_26_2 rfl) gn rfl ?_
          refine wl_v 1 rfl (v_ldB1 0 ld_24 rfl rfl rfl) gn rfl ?_
          refine wl_v 2 rfl (v_move rfl) gn rfl ?_
          obtain ⟨hb474, h⟩ := h
          obtain ⟨ce476, hK477, hr475⟩ := Rw.read (s := St w []) h13 hb474
          obtain ⟨A478, n479, c480, rfl, h481⟩ := hK477
          refine wl_v 3 rfl (v_idxR (s := St w []) slE_24 rfl rfl h13 hb474) gn rfl ?_
          refine wl_v 4 rfl (v_fldA fo_38_0 rfl) gn rfl ?_
          refine wl_v 5 rfl (v_ldA1 (kk := (x419 : Int).toNat * 2) (j := 0) (St w []) ld_3 rfl hr475 rfl (me 1 rfl)) gn rfl ?_
          refine wl_v 6 rfl (v_bin rfl rfl rfl) gn rfl ?_
          refine w_end 7 rfl ?_
          by_cases hp482 : (ix x1.prods x419).lhs < 0
          · have h := if_pos' hp482 h
            refine g_true (c := trellislaw11_closed_c42) rfl _ rfl ((decide_eq_true hp482)) ?_
            refine g_exit (c := trellislaw11_closed_c43) [.code trellislaw11_closed_c37, .inLoop trellislaw11_closed_c29, .inBlock 2, .code trellislaw11_closed_c25] rfl rfl ?_
            refine g_region (c := trellislaw11_closed_c37) rfl rfl ?_
            refine wl_v 0 rfl (v_move rfl) gn rfl ?_
            refine wl_v 1 rfl (v_bin rfl rfl rfl) gn rfl ?_
            refine wl_v 2 rfl (v_assign rfl) gn rfl ?_
            refine w_end 3 rfl ?_
            refine g_inLoop ?_
            have ih := Out.inl hO2 h
            exact g_go [0, 1] (ih ()) ⟨rfl, rfl, rfl, rfl, trivial⟩ (.cons_cons _ (.slnil)) rfl
          · have h := if_neg' hp482 h
            refine g_false (c := trellislaw11_closed_c42) rfl _ rfl ((decide_eq_false hp482)) ?_
            refine g_skip (c := trellislaw11_closed_c44) rfl ?_
            refine g_seq (c := trellislaw11_closed_c40) rfl ?_
            have hns : Region.noSelect (Code.ops trellislaw11_closed_c45) = true := by kernel_rfl
            refine g_drawF (c := trellislaw11_closed_c45) [.box gb24 26 [.slice A2 n3 c4, .slice A6 n7 c8, .slice A10 n11 c12]] [Sm w.heap.size F w [], St w []] [] 11 rfl rfl mix rfl (.cons_cons _ (.slnil)) (sels [0, 1] rfl) ?_
            refine wf_v 0 rfl (v_fldB fo_26_0 rfl) gn rfl hns (by kernel_rfl) (by kernel_rfl) rfl rfl ?_
            refine wf_v 1 rfl (v_ldB1 0 ld_22 rfl rfl rfl) gn rfl hns (by kernel_rfl) (by kernel_rfl) rfl rfl ?_
            refine wf_v 2 rfl (v_lenQ un_22 rfl h5.hq) gn rfl hns (by kernel_rfl) (by kernel_rfl) rfl rfl ?_
            refine wf_v 3 rfl (v_fldB fo_26_2 rfl) gn rfl hns (by kernel_rfl) (by kernel_rfl) rfl rfl ?_
            refine wf_v 4 rfl (v_ldB1 0 ld_24 rfl rfl rfl) gn rfl hns (by kernel_rfl) (by kernel_rfl) rfl rfl ?_
            refine wf_v 5 rfl (v_move rfl) gn rfl hns (by kernel_rfl) (by kernel_rfl) rfl rfl ?_
            obtain ⟨ce498, hK499, hr497⟩ := Rw.read (s := St w []) h13 hb474
            obtain ⟨A500, n501, c502, rfl, h503⟩ := hK499
            refine wf_v 6 rfl (v_idxR (s := St w []) slE_24 rfl rfl h13 hb474) gn rfl hns (by kernel_rfl) (by kernel_rfl) rfl rfl ?_
            refine wf_v 7 rfl (v_fldA fo_38_0 rfl) gn rfl hns (by kernel_rfl) (by kernel_rfl) rfl rfl ?_
            refine wf_v 8 rfl (v_ldA1 (kk := (x419 : Int).toNat * 2) (j := 0) (St w []) ld_3 rfl hr497 rfl (me 1 rfl)) gn rfl hns (by kernel_rfl) (by kernel_rfl) rfl rfl ?_
            refine wf_v 9 rfl (v_bin rfl rfl rfl) gn rfl hns (by kernel_rfl) (by kernel_rfl) rfl rfl ?_
            refine wf_v 10 rfl (v_assign rfl) gn rfl hns (by kernel_rfl) (by kernel_rfl) rfl rfl ?_
            refine wf_end (by kernel_rfl) ?_
            refine g_seq (c := trellislaw11_closed_c46) rfl ?_
            refine g_region (c := trellislaw11_closed_c47) rfl rfl ?_
            refine wl_v 0 rfl (v_move rfl) gn rfl ?_
            refine wl_v 1 rfl (v_move rfl) gn rfl ?_
            refine wl_v 2 rfl (v_fldB fo_26_2 rfl) gn rfl ?_
            refine wl_v 3 rfl (v_ldB1 0 ld_24 rfl rfl rfl) gn rfl ?_
            refine wl_v 4 rfl (v_move rfl) gn rfl ?_
            obtain ⟨ce505, hK506, hr504⟩ := Rw.read (s := St w []) h13 hb474
            obtain ⟨A507, n508, c509, rfl, h510⟩ := hK506
            refine wl_v 5 rfl (v_idxR (s := St w []) slE_24 rfl rfl h13 hb474) gn rfl ?_
            refine wl_v 6 rfl (v_fldA fo_38_1 rfl) gn rfl ?_
            refine wl_v 7 rfl (v_ldA1 (kk := (x419 : Int).toNat * 2) (j := 1) (St w []) ld_27 rfl hr504 rfl (me 1 rfl)) gn rfl ?_
            obtain ⟨r514, hv515, h⟩ := h
            refine wl_s 8 rfl (s_call [.slice A15 n16 c17, .slice A20 n21 c22, .slice A507 n508 c509] rfl Try.func37 rfl rfl rfl fun w511 hL512 => ?_) gn
            have hp513 : List.Perm ([.box gb24 26 [.slice A2 n3 c4, .slice A6 n7 c8, .slice A10 n11 c12]] : List Ent) (([] : List Ent) ++ ([.box gb24 26 [.slice A2 n3 c4, .slice A6 n7 c8, .slice A10 n11 c12]] : List Ent)) := perm_of_idx [] [0] rfl rfl (by kernel_rfl)
            refine Calls.mono (trellislaw11_along_calls w511 (Fl ([] : List Snap)) x14 x19 ((ix x1.prods x419).rhs) A15 n16 c17 A20 n21 c22 A507 n508 c509 (Rw.mono h18 (hL512.toSt hp513 (me 1 rfl))) (Rw.mono h23 (hL512.toSt hp513 (me 1 rfl))) (Rw.mono h510 (hL512.toSt hp513 (me 1 rfl))) (hL512.hFl (Sl := ([] : List Snap)) hp513 (sels [] rfl)) (hL512.into hp513 (Fl ([] : List Snap))) r514 hv515) ?_
            rintro _ w516 ⟨rfl, hM517⟩
            have hL518 := hL512.call hp513 hM517
            refine ⟨_, _, _, rfl, hL518, ?_⟩
            refine wl_v 9 rfl (v_move rfl) gn rfl ?_
            refine wl_v 10 rfl (v_extract rfl rfl) gn rfl ?_
            refine wl_v 11 rfl (v_extract rfl rfl) gn rfl ?_
            refine wl_v 12 rfl (v_assign rfl) gn rfl ?_
            refine wl_v 13 rfl (v_assign rfl) gn rfl ?_
            refine w_end 14 rfl ?_
            refine g_seq (c := trellislaw11_closed_c48) rfl ?_
            refine g_region (c := trellislaw11_closed_c49) rfl rfl ?_
            refine wl_v 0 rfl (v_move rfl) gn rfl ?_
            refine wl_v 1 rfl (v_move rfl) gn rfl ?_
            refine wl_v 2 rfl (v_move rfl) gn rfl ?_
            obtain ⟨hb519, h⟩ := h
            have hr520 := Rw.readF (s := St w []) (hl := (hlI .u64)) (h1 := (hone_int .u64)) h23 hb519
            refine wl_v 3 rfl (v_idxR (s := St w []) slE_42 rfl rfl h23 hb519) gn rfl ?_
            refine wl_v 4 rfl (v_ldA1 (kk := (w64 ((x1.terms.length : Int) + ((ix x1.prods x419).lhs)) : Int).toNat * 1) (j := 0) (St w []) ld_29 rfl hr520 rfl (me 1 rfl)) gn rfl ?_
            refine wl_v 5 rfl (v_bin rfl rfl rfl) gn rfl ?_
            refine wl_v 6 rfl (v_bin rfl rfl rfl) gn rfl ?_
            refine wl_v 7 rfl (v_move rfl) gn rfl ?_
            by_cases hp521 : bits .andNot .u64 r514.1 (ix x19 (w64 ((x1.terms.length : Int) + ((ix x1.prods x419).lhs)))) = 0
            · have h := if_pos' hp521 h
              refine w_bool 71 rfl ((eqib hp521)) ?_
              refine wl_v 8 rfl (v_move rfl) (gy 71 rfl rfl) rfl ?_
              refine wl_v 9 rfl (v_move rfl) (gy 71 rfl rfl) rfl ?_
              by_cases hp522 : r514.2 = true
              · have h := if_pos' hp522 h
                refine w_bool 73 rfl (hp522) ?_
                refine wl_v 10 rfl (v_move rfl) (gy 73 rfl rfl) rfl ?_
                refine wl_v 11 rfl (v_move rfl) (gy 73 rfl rfl) rfl ?_
                obtain ⟨hb523, h⟩ := h
                have hr524 := Rw.readF (s := St w []) (hl := hlB) (h1 := hone_bool) h18 hb523
                refine wl_v 12 rfl (v_idxR (s := St w []) slE_40 rfl rfl h18 hb523) (gy 73 rfl rfl) rfl ?_
                refine wl_v 13 rfl (v_ldA1 (kk := (w64 ((x1.terms.length : Int) + ((ix x1.prods x419).lhs)) : Int).toNat * 1) (j := 0) (St w []) ld_4 rfl hr524 rfl (me 1 rfl)) (gy 73 rfl rfl) rfl ?_
                refine wl_v 14 rfl (v_not rfl) (gy 73 rfl rfl) rfl ?_
                refine wl_v 15 rfl (v_pick (b := true) rfl rfl) (gy 71 rfl rfl) rfl ?_
                refine wl_v 16 rfl (v_pick (b := false) rfl rfl) gn rfl ?_
                refine w_end 17 rfl ?_
                by_cases hp525 : (ix x14 (w64 ((x1.terms.length : Int) + ((ix x1.prods x419).lhs)))) = true
                · have h := if_pos' hp525 h
                  refine g_false (c := trellislaw11_closed_c50) rfl _ rfl ((nf hp525)) ?_
                  refine g_skip (c := trellislaw11_closed_c52) rfl ?_
                  refine g_inBlock ?_
                  refine g_region (c := trellislaw11_closed_c37) rfl rfl ?_
                  refine wl_v 0 rfl (v_move rfl) gn rfl ?_
                  refine wl_v 1 rfl (v_bin rfl rfl rfl) gn rfl ?_
                  refine wl_v 2 rfl (v_assign rfl) gn rfl ?_
                  refine w_end 3 rfl ?_
                  refine g_inLoop ?_
                  have ih := Out.inl hO2 h
                  exact g_go [0, 1] (ih ()) ⟨rfl, rfl, rfl, rfl, trivial⟩ (.cons_cons _ (.slnil)) rfl
                · have h := if_neg' hp525 h
                  refine g_true (c := trellislaw11_closed_c50) rfl _ rfl ((nt (bf hp525))) ?_
                  refine g_seq (c := trellislaw11_closed_c51) rfl ?_
                  refine g_region (c := trellislaw11_closed_c53) rfl rfl ?_
                  refine wl_v 0 rfl (v_assign rfl) gn rfl ?_
                  refine w_end 1 rfl ?_
                  have h := Out.inr hO2 h
                  have h := Out.inr hO1 h
                  refine g_retR (c := trellislaw11_closed_c54) [.bool false] rfl Try.func24 rfl (.tmp rfl (.nil)) fun wr hLr => ?_
                  have hMr : B.Loc w wr [] [St w []] := hLr.pick (rest := [.box gb24 26 [.slice A2 n3 c4, .slice A6 n7 c8, .slice A10 n11 c12]]) (perm_of_idx [] [0] rfl rfl (by kernel_rfl)) (sels [1] rfl)
                  have hMi : ∀ e ∈ ([] : List Ent), e ∈ ([.box gb24 26 [.slice A2 n3 c4, .slice A6 n7 c8, .slice A10 n11 c12]] : List Ent) := sels [] rfl
                  show trellislaw11_closed_R w F  r (.returned (packV [.bool false])) wr
                  rw [h]
                  exact ⟨rfl, hMr⟩
              · have h := if_neg' hp522 h
                refine w_bool 73 rfl ((bf hp522)) ?_
                refine wl_pass 10 rfl (ps 73 rfl rfl rfl) ?_
                refine wl_pass 11 rfl (ps 73 rfl rfl rfl) ?_
                refine wl_pass 12 rfl (ps 73 rfl rfl rfl) ?_
                refine wl_pass 13 rfl (ps 73 rfl rfl rfl) ?_
                refine wl_pass 14 rfl (ps 73 rfl rfl rfl) ?_
                refine wl_v 15 rfl (v_pick (b := false) rfl rfl) (gy 71 rfl rfl) rfl ?_
                refine wl_v 16 rfl (v_pick (b := false) rfl rfl) gn rfl ?_
                refine w_end 17 rfl ?_
                refine g_false (c := trellislaw11_closed_c50) rfl _ rfl (rfl) ?_
                refine g_skip (c := trellislaw11_closed_c52) rfl ?_
                refine g_inBlock ?_
                refine g_region (c := trellislaw11_closed_c37) rfl rfl ?_
                refine wl_v 0 rfl (v_move rfl) gn rfl ?_
                refine wl_v 1 rfl (v_bin rfl rfl rfl) gn rfl ?_
                refine wl_v 2 rfl (v_assign rfl) gn rfl ?_
                refine w_end 3 rfl ?_
                refine g_inLoop ?_
                have ih := Out.inl hO2 h
                exact g_go [0, 1] (ih ()) ⟨rfl, rfl, rfl, rfl, trivial⟩ (.cons_cons _ (.slnil)) rfl
            · have h := if_neg' hp521 h
              refine w_bool 71 rfl ((neib hp521)) ?_
              refine wl_pass 8 rfl (ps 71 rfl rfl rfl) ?_
              refine wl_pass 9 rfl (ps 71 rfl rfl rfl) ?_
              refine wl_pass 10 rfl (pu 73 rfl rfl) ?_
              refine wl_pass 11 rfl (pu 73 rfl rfl) ?_
              refine wl_pass 12 rfl (pu 73 rfl rfl) ?_
              refine wl_pass 13 rfl (pu 73 rfl rfl) ?_
              refine wl_pass 14 rfl (pu 73 rfl rfl) ?_
              refine wl_pass 15 rfl (ps 71 rfl rfl rfl) ?_
              refine wl_v 16 rfl (v_pick (b := true) rfl rfl) gn rfl ?_
              refine w_end 17 rfl ?_
              refine g_true (c := trellislaw11_closed_c50) rfl _ rfl (rfl) ?_
              refine g_seq (c := trellislaw11_closed_c51) rfl ?_
              refine g_region (c := trellislaw11_closed_c53) rfl rfl ?_
              refine wl_v 0 rfl (v_assign rfl) gn rfl ?_
              refine w_end 1 rfl ?_
              have h := Out.inr hO2 h
              have h := Out.inr hO1 h
              refine g_retR (c := trellislaw11_closed_c54) [.bool false] rfl Try.func24 rfl (.tmp rfl (.nil)) fun wr hLr => ?_
              have hMr : B.Loc w wr [] [St w []] := hLr.pick (rest := [.box gb24 26 [.slice A2 n3 c4, .slice A6 n7 c8, .slice A10 n11 c12]]) (perm_of_idx [] [0] rfl rfl (by kernel_rfl)) (sels [1] rfl)
              have hMi : ∀ e ∈ ([] : List Ent), e ∈ ([.box gb24 26 [.slice A2 n3 c4, .slice A6 n7 c8, .slice A10 n11 c12]] : List Ent) := sels [] rfl
              show trellislaw11_closed_R w F  r (.returned (packV [.bool false])) wr
              rw [h]
              exact ⟨rfl, hMr⟩
        · have h := if_neg' hp473 h
          refine g_false (c := trellislaw11_closed_c33) rfl _ rfl ((decide_eq_false hp473)) ?_
          refine g_exit (c := trellislaw11_closed_c35) [.code trellislaw11_closed_c25] rfl rfl ?_
          refine g_seq (c := trellislaw11_closed_c25) rfl ?_
          refine g_region (c := trellislaw11_closed_c55) rfl rfl ?_
          refine wl_v 0 rfl (v_assign rfl) gn rfl ?_
          refine w_end 1 rfl ?_
          have h := Out.inr hO2 h
          have h := Out.inr hO1 h
          refine g_retR (c := trellislaw11_closed_c56) [.bool true] rfl Try.func24 rfl (.tmp rfl (.nil)) fun wr hLr => ?_
          have hMr : B.Loc w wr [] [St w []] := hLr.pick (rest := [.box gb24 26 [.slice A2 n3 c4, .slice A6 n7 c8, .slice A10 n11 c12]]) (perm_of_idx [] [0] rfl rfl (by kernel_rfl)) (sels [1] rfl)
          have hMi : ∀ e ∈ ([] : List Ent), e ∈ ([.box gb24 26 [.slice A2 n3 c4, .slice A6 n7 c8, .slice A10 n11 c12]] : List Ent) := sels [] rfl
          show trellislaw11_closed_R w F  r (.returned (packV [.bool true])) wr
          rw [h]
          exact ⟨rfl, hMr⟩
      exact g_go [0, 1] (key2 _ h ()) ⟨rfl, rfl, rfl, rfl, trivial⟩ (.cons_cons _ (.slnil)) rfl
  exact g_go [0, 1] (key1 _ h ()) ⟨rfl, rfl, rfl, rfl, trivial⟩ (.cons_cons _ (.slnil)) rfl
noncomputable abbrev trellislaw11_FirstLeast_c0 : Code := bodyOf Try.f5
noncomputable abbrev trellislaw11_FirstLeast_c1 : Code := Code.fst trellislaw11_FirstLeast_c0
noncomputable abbrev trellislaw11_FirstLeast_c2 : Code := Code.snd trellislaw11_FirstLeast_c0
noncomputable abbrev trellislaw11_FirstLeast_c3 : Code := Code.fst trellislaw11_FirstLeast_c2
noncomputable abbrev trellislaw11_FirstLeast_c4 : Code := Code.snd trellislaw11_FirstLeast_c2
noncomputable abbrev trellislaw11_FirstLeast_c5 : Code := Code.fst trellislaw11_FirstLeast_c3
noncomputable abbrev trellislaw11_FirstLeast_c6 : Code := Code.snd trellislaw11_FirstLeast_c3
noncomputable abbrev trellislaw11_FirstLeast_c7 : Code := Code.fst trellislaw11_FirstLeast_c6
noncomputable abbrev trellislaw11_FirstLeast_c8 : Code := Code.snd trellislaw11_FirstLeast_c6
noncomputable abbrev trellislaw11_FirstLeast_c9 : Code := Code.fst trellislaw11_FirstLeast_c4
noncomputable abbrev trellislaw11_FirstLeast_c10 : Code := Code.snd trellislaw11_FirstLeast_c4
noncomputable abbrev trellislaw11_FirstLeast_c11 : Code := Code.fst trellislaw11_FirstLeast_c10
noncomputable abbrev trellislaw11_FirstLeast_c12 : Code := Code.snd trellislaw11_FirstLeast_c10
noncomputable abbrev trellislaw11_FirstLeast_c13 : Code := Code.fst trellislaw11_FirstLeast_c12
noncomputable abbrev trellislaw11_FirstLeast_c14 : Code := Code.snd trellislaw11_FirstLeast_c12
noncomputable abbrev trellislaw11_FirstLeast_c15 : Code := Code.fst trellislaw11_FirstLeast_c13
noncomputable abbrev trellislaw11_FirstLeast_c16 : Code := Code.snd trellislaw11_FirstLeast_c13
noncomputable abbrev trellislaw11_FirstLeast_c17 : Code := Code.fst trellislaw11_FirstLeast_c16
noncomputable abbrev trellislaw11_FirstLeast_c18 : Code := Code.snd trellislaw11_FirstLeast_c16
noncomputable abbrev trellislaw11_FirstLeast_c19 : Code := Code.fst trellislaw11_FirstLeast_c14
noncomputable abbrev trellislaw11_FirstLeast_c20 : Code := Code.snd trellislaw11_FirstLeast_c14
noncomputable abbrev trellislaw11_FirstLeast_c21 : Code := Code.fst trellislaw11_FirstLeast_c20
noncomputable abbrev trellislaw11_FirstLeast_c22 : Code := Code.snd trellislaw11_FirstLeast_c20
noncomputable abbrev trellislaw11_FirstLeast_c23 : Code := Code.fst trellislaw11_FirstLeast_c21
noncomputable abbrev trellislaw11_FirstLeast_c24 : Code := Code.snd trellislaw11_FirstLeast_c21
noncomputable abbrev trellislaw11_FirstLeast_c25 : Code := Code.fst trellislaw11_FirstLeast_c24
noncomputable abbrev trellislaw11_FirstLeast_c26 : Code := Code.snd trellislaw11_FirstLeast_c24
noncomputable abbrev trellislaw11_FirstLeast_c27 : Code := Code.fst trellislaw11_FirstLeast_c25
noncomputable abbrev trellislaw11_FirstLeast_c28 : Code := Code.snd trellislaw11_FirstLeast_c25
noncomputable abbrev trellislaw11_FirstLeast_c29 : Code := Code.fst trellislaw11_FirstLeast_c22
noncomputable abbrev trellislaw11_FirstLeast_c30 : Code := Code.snd trellislaw11_FirstLeast_c22
noncomputable abbrev trellislaw11_FirstLeast_c31 : Code := Code.fst trellislaw11_FirstLeast_c29
noncomputable abbrev trellislaw11_FirstLeast_c32 : Code := Code.snd trellislaw11_FirstLeast_c29
noncomputable abbrev trellislaw11_FirstLeast_c33 : Code := Code.fst trellislaw11_FirstLeast_c32
noncomputable abbrev trellislaw11_FirstLeast_c34 : Code := Code.fst trellislaw11_FirstLeast_c33
noncomputable abbrev trellislaw11_FirstLeast_c35 : Code := Code.fst trellislaw11_FirstLeast_c34
noncomputable abbrev trellislaw11_FirstLeast_c36 : Code := Code.snd trellislaw11_FirstLeast_c34
noncomputable abbrev trellislaw11_FirstLeast_c37 : Code := Code.fst trellislaw11_FirstLeast_c35
noncomputable abbrev trellislaw11_FirstLeast_c38 : Code := Code.snd trellislaw11_FirstLeast_c35
noncomputable abbrev trellislaw11_FirstLeast_c39 : Code := Code.fst trellislaw11_FirstLeast_c38
noncomputable abbrev trellislaw11_FirstLeast_c40 : Code := Code.snd trellislaw11_FirstLeast_c38
noncomputable abbrev trellislaw11_FirstLeast_c41 : Code := Code.fst trellislaw11_FirstLeast_c36
noncomputable abbrev trellislaw11_FirstLeast_c42 : Code := Code.snd trellislaw11_FirstLeast_c36
noncomputable abbrev trellislaw11_FirstLeast_c43 : Code := Code.fst trellislaw11_FirstLeast_c41
noncomputable abbrev trellislaw11_FirstLeast_c44 : Code := Code.fst trellislaw11_FirstLeast_c43
noncomputable abbrev trellislaw11_FirstLeast_c45 : Code := Code.snd trellislaw11_FirstLeast_c43
noncomputable abbrev trellislaw11_FirstLeast_c46 : Code := Code.fst trellislaw11_FirstLeast_c45
noncomputable abbrev trellislaw11_FirstLeast_c47 : Code := Code.snd trellislaw11_FirstLeast_c45
noncomputable abbrev trellislaw11_FirstLeast_c48 : Code := Code.fst trellislaw11_FirstLeast_c46
noncomputable abbrev trellislaw11_FirstLeast_c49 : Code := Code.snd trellislaw11_FirstLeast_c46
noncomputable abbrev trellislaw11_FirstLeast_c50 : Code := Code.fst trellislaw11_FirstLeast_c30
noncomputable abbrev trellislaw11_FirstLeast_c51 : Code := Code.snd trellislaw11_FirstLeast_c30
noncomputable abbrev trellislaw11_FirstLeast_c52 : Code := Code.fst trellislaw11_FirstLeast_c50
noncomputable abbrev trellislaw11_FirstLeast_c53 : Code := Code.snd trellislaw11_FirstLeast_c50
noncomputable abbrev trellislaw11_FirstLeast_c54 : Code := Code.fst trellislaw11_FirstLeast_c53
noncomputable abbrev trellislaw11_FirstLeast_c55 : Code := Code.snd trellislaw11_FirstLeast_c53
noncomputable abbrev trellislaw11_FirstLeast_c56 : Code := Code.fst trellislaw11_FirstLeast_c54
noncomputable abbrev trellislaw11_FirstLeast_c57 : Code := Code.snd trellislaw11_FirstLeast_c54
noncomputable abbrev trellislaw11_FirstLeast_c58 : Code := Code.fst trellislaw11_FirstLeast_c51
noncomputable abbrev trellislaw11_FirstLeast_c59 : Code := Code.snd trellislaw11_FirstLeast_c51
noncomputable abbrev trellislaw11_FirstLeast_c60 : Code := Code.fst trellislaw11_FirstLeast_c58
noncomputable abbrev trellislaw11_FirstLeast_c61 : Code := Code.snd trellislaw11_FirstLeast_c58
noncomputable abbrev trellislaw11_FirstLeast_c62 : Code := Code.fst trellislaw11_FirstLeast_c61
noncomputable abbrev trellislaw11_FirstLeast_c63 : Code := Code.fst trellislaw11_FirstLeast_c62
noncomputable abbrev trellislaw11_FirstLeast_c64 : Code := Code.fst trellislaw11_FirstLeast_c63
noncomputable abbrev trellislaw11_FirstLeast_c65 : Code := Code.snd trellislaw11_FirstLeast_c63
noncomputable abbrev trellislaw11_FirstLeast_c66 : Code := Code.fst trellislaw11_FirstLeast_c64
noncomputable abbrev trellislaw11_FirstLeast_c67 : Code := Code.snd trellislaw11_FirstLeast_c64
noncomputable abbrev trellislaw11_FirstLeast_c68 : Code := Code.fst trellislaw11_FirstLeast_c67
noncomputable abbrev trellislaw11_FirstLeast_c69 : Code := Code.snd trellislaw11_FirstLeast_c67
noncomputable abbrev trellislaw11_FirstLeast_c70 : Code := Code.fst trellislaw11_FirstLeast_c65
noncomputable abbrev trellislaw11_FirstLeast_c71 : Code := Code.snd trellislaw11_FirstLeast_c65
noncomputable abbrev trellislaw11_FirstLeast_c72 : Code := Code.fst trellislaw11_FirstLeast_c70
noncomputable abbrev trellislaw11_FirstLeast_c73 : Code := Code.fst trellislaw11_FirstLeast_c72
noncomputable abbrev trellislaw11_FirstLeast_c74 : Code := Code.snd trellislaw11_FirstLeast_c72
noncomputable abbrev trellislaw11_FirstLeast_c75 : Code := Code.fst trellislaw11_FirstLeast_c74
noncomputable abbrev trellislaw11_FirstLeast_c76 : Code := Code.snd trellislaw11_FirstLeast_c74
noncomputable abbrev trellislaw11_FirstLeast_c77 : Code := Code.fst trellislaw11_FirstLeast_c75
noncomputable abbrev trellislaw11_FirstLeast_c78 : Code := Code.snd trellislaw11_FirstLeast_c75
noncomputable abbrev trellislaw11_FirstLeast_c79 : Code := Code.fst trellislaw11_FirstLeast_c59
noncomputable abbrev trellislaw11_FirstLeast_c80 : Code := Code.snd trellislaw11_FirstLeast_c59
noncomputable abbrev trellislaw11_FirstLeast_c81 : Code := Code.fst trellislaw11_FirstLeast_c17
noncomputable abbrev trellislaw11_FirstLeast_c82 : Code := Code.snd trellislaw11_FirstLeast_c17
noncomputable abbrev trellislaw11_FirstLeast_c83 : Code := Code.fst trellislaw11_FirstLeast_c7
noncomputable abbrev trellislaw11_FirstLeast_c84 : Code := Code.snd trellislaw11_FirstLeast_c7
abbrev trellislaw11_FirstLeast_R (w : World) (F : Nat → Prop) (r : Bool) : Ending → World → Prop := fun e w' => e = .returned (.bool r) ∧ B.Loc w w' [] [St w []]
noncomputable abbrev trellislaw11_FirstLeast_C (w : World) (F : Nat → Prop) (r : Bool) : Cx := ⟨Try.prog, 5, Try.f5, 119, trellislaw11_FirstLeast_R w F  r, w⟩
theorem trellislaw11_FirstLeast_calls (w : World) (F : Nat → Prop) (x1 : api_Gram) (x14 : List Bool) (x19 : List Int) (A2 : Option Addr) (n3 : Nat) (c4 : Nat) (A6 : Option Addr) (n7 : Nat) (c8 : Nat) (A10 : Option Addr) (n11 : Nat) (c12 : Nat) (A15 : Option Addr) (n16 : Nat) (c17 : Nat) (A20 : Option Addr) (n21 : Nat) (c22 : Nat) (h5 : Rw k_api_TermDef w (St w []).av A2 n3 c4 x1.terms) (h9 : Rw k_api_Sym w (St w []).av A6 n7 c8 x1.syms) (h13 : Rw k_api_Prod w (St w []).av A10 n11 c12 x1.prods) (h18 : Rw kBool w (St w []).av A15 n16 c17 x14) (h23 : Rw (kInt .u64) w (St w []).av A20 n21 c22 x19) (hF : ∀ b, F b → b < w.heap.size ∧ ∀ o ∈ ([] : List (List Nat)), b ∉ o) (hL0 : B.Loc w w [] [Sm w.heap.size F w [], St w []]) (r : Bool) (h : trellislaw11_FirstLeast x1 x14 x19 r) : Calls Try.prog 5 #[.agg #[.slice A2 n3 c4, .slice A6 n7 c8, .slice A10 n11 c12], .slice A15 n16 c17, .slice A20 n21 c22] w (trellislaw11_FirstLeast_R w F  r) := by
  unfold trellislaw11_FirstLeast at h
  refine calls_of_Loc (vs := [.agg #[.slice A2 n3 c4, .slice A6 n7 c8, .slice A10 n11 c12], .slice A15 n16 c17, .slice A20 n21 c22]) 119 Try.func5 rfl Try.ntmps5 rfl hL0 ?_
  show G (trellislaw11_FirstLeast_C w F r) _ _ _ _
  refine g_seq (c := trellislaw11_FirstLeast_c0) rfl ?_
  refine g_region (c := trellislaw11_FirstLeast_c1) rfl rfl ?_
  refine wl_s 0 rfl (s_box [.slice A2 n3 c4, .slice A6 n7 c8, .slice A10 n11 c12] rfl rfl rfl fun gb24 => ?_) gn
  refine wl_v 1 rfl (v_assign rfl) gn rfl ?_
  refine w_end 2 rfl ?_
  refine g_seq (c := trellislaw11_FirstLeast_c2) rfl ?_
  refine g_seq (c := trellislaw11_FirstLeast_c3) rfl ?_
  refine g_region (c := trellislaw11_FirstLeast_c5) rfl rfl ?_
  obtain ⟨r29, hv30, h⟩ := h
  refine wl_s 0 rfl (s_call [] rfl Try.func22 rfl rfl rfl fun w26 hL27 => ?_) gn
  have hp28 : List.Perm ([.box gb24 26 [.slice A2 n3 c4, .slice A6 n7 c8, .slice A10 n11 c12]] : List Ent) (([] : List Ent) ++ ([.box gb24 26 [.slice A2 n3 c4, .slice A6 n7 c8, .slice A10 n11 c12]] : List Ent)) := perm_of_idx [] [0] rfl rfl (by kernel_rfl)
  refine Calls.mono (trellislaw11_started_calls w26 (Fl ([] : List Snap)) (hL27.hFl (Sl := ([] : List Snap)) hp28 (sels [] rfl)) (hL27.into hp28 (Fl ([] : List Snap))) r29 hv30) ?_
  rintro _ w31 ⟨rfl, hM32⟩
  have hL33 := hL27.call hp28 hM32
  refine ⟨_, _, _, rfl, hL33, ?_⟩
  refine wl_v 1 rfl (v_not rfl) gn rfl ?_
  refine w_end 2 rfl ?_
  by_cases hp34 : r29 = true
  · have h := if_pos' hp34 h
    refine g_false (c := trellislaw11_FirstLeast_c6) rfl _ rfl ((nf hp34)) ?_
    refine g_skip (c := trellislaw11_FirstLeast_c8) rfl ?_
    refine g_seq (c := trellislaw11_FirstLeast_c4) rfl ?_
    refine g_region (c := trellislaw11_FirstLeast_c9) rfl rfl ?_
    refine wl_v 0 rfl (v_ldB [.slice A2 n3 c4, .slice A6 n7 c8, .slice A10 n11 c12] 0 ld_26 rfl rfl rfl rfl) gn rfl ?_
    obtain ⟨r38, hv39, h⟩ := h
    refine wl_s 1 rfl (s_call [.agg #[.slice A2 n3 c4, .slice A6 n7 c8, .slice A10 n11 c12]] rfl Try.func18 rfl rfl rfl fun w35 hL36 => ?_) gn
    have hp37 : List.Perm ([.box gb24 26 [.slice A2 n3 c4, .slice A6 n7 c8, .slice A10 n11 c12]] : List Ent) (([] : List Ent) ++ ([.box gb24 26 [.slice A2 n3 c4, .slice A6 n7 c8, .slice A10 n11 c12]] : List Ent)) := perm_of_idx [] [0] rfl rfl (by kernel_rfl)
    refine Calls.mono (first_Nullable_calls w35 (Fl ([] : List Snap)) x1 A2 n3 c4 A6 n7 c8 A10 n11 c12 (Rw.mono h5 (hL36.toSt hp37 (me 1 rfl))) (Rw.mono h9 (hL36.toSt hp37 (me 1 rfl))) (Rw.mono h13 (hL36.toSt hp37 (me 1 rfl))) (hL36.hFl (Sl := ([] : List Snap)) hp37 (sels [] rfl)) (hL36.into hp37 (Fl ([] : List Snap))) r38 hv39) ?_
    rintro _ w45 ⟨A40, n41, c42, rfl, hM46, h43⟩
    have hL47 := hL36.call hp37 hM46
    refine ⟨_, _, _, rfl, hL47, ?_⟩
    refine wl_v 2 rfl (v_assign rfl) gn rfl ?_
    refine w_end 3 rfl ?_
    refine g_seq (c := trellislaw11_FirstLeast_c10) rfl ?_
    refine g_region (c := trellislaw11_FirstLeast_c11) rfl rfl ?_
    refine wl_v 0 rfl (v_ldB [.slice A2 n3 c4, .slice A6 n7 c8, .slice A10 n11 c12] 1 ld_26 rfl rfl rfl rfl) gn rfl ?_
    obtain ⟨r51, hv52, h⟩ := h
    refine wl_s 1 rfl (s_call [.agg #[.slice A2 n3 c4, .slice A6 n7 c8, .slice A10 n11 c12]] rfl Try.func19 rfl rfl rfl fun w48 hL49 => ?_) gn
    have hp50 : List.Perm ([.own (.slice A40 n41 c42) 4 1 n41 (r38.flatMap eB), .box gb24 26 [.slice A2 n3 c4, .slice A6 n7 c8, .slice A10 n11 c12]] : List Ent) (([] : List Ent) ++ ([.own (.slice A40 n41 c42) 4 1 n41 (r38.flatMap eB), .box gb24 26 [.slice A2 n3 c4, .slice A6 n7 c8, .slice A10 n11 c12]] : List Ent)) := perm_of_idx [] [0, 1] rfl rfl (by kernel_rfl)
    refine Calls.mono (first_First_calls w48 (Fl ([] : List Snap)) x1 A2 n3 c4 A6 n7 c8 A10 n11 c12 (Rw.mono h5 (hL49.toSt hp50 (me 1 rfl))) (Rw.mono h9 (hL49.toSt hp50 (me 1 rfl))) (Rw.mono h13 (hL49.toSt hp50 (me 1 rfl))) (hL49.hFl (Sl := ([] : List Snap)) hp50 (sels [] rfl)) (hL49.into hp50 (Fl ([] : List Snap))) r51 hv52) ?_
    rintro _ w58 ⟨A53, n54, c55, rfl, hM59, h56⟩
    have hL60 := hL49.call hp50 hM59
    refine ⟨_, _, _, rfl, hL60, ?_⟩
    refine wl_v 2 rfl (v_assign rfl) gn rfl ?_
    refine w_end 3 rfl ?_
    refine g_seq (c := trellislaw11_FirstLeast_c12) rfl ?_
    refine g_seq (c := trellislaw11_FirstLeast_c13) rfl ?_
    refine g_region (c := trellislaw11_FirstLeast_c15) rfl rfl ?_
    refine wl_v 0 rfl (v_ldB [.slice A2 n3 c4, .slice A6 n7 c8, .slice A10 n11 c12] 2 ld_26 rfl rfl rfl rfl) gn rfl ?_
    obtain ⟨r64, hv65, h⟩ := h
    refine wl_s 1 rfl (s_call [.agg #[.slice A2 n3 c4, .slice A6 n7 c8, .slice A10 n11 c12]] rfl Try.func23 rfl rfl rfl fun w61 hL62 => ?_) gn
    have hp63 : List.Perm ([.own (.slice A53 n54 c55) 29 1 n54 (r51.flatMap (eI .u64)), .own (.slice A40 n41 c42) 4 1 n41 (r38.flatMap eB), .box gb24 26 [.slice A2 n3 c4, .slice A6 n7 c8, .slice A10 n11 c12]] : List Ent) (([] : List Ent) ++ ([.own (.slice A53 n54 c55) 29 1 n54 (r51.flatMap (eI .u64)), .own (.slice A40 n41 c42) 4 1 n41 (r38.flatMap eB), .box gb24 26 [.slice A2 n3 c4, .slice A6 n7 c8, .slice A10 n11 c12]] : List Ent)) := perm_of_idx [] [0, 1, 2] rfl rfl (by kernel_rfl)
    refine Calls.mono (trellislaw11_sound_calls w61 (Fl ([] : List Snap)) x1 A2 n3 c4 A6 n7 c8 A10 n11 c12 (Rw.mono h5 (hL62.toSt hp63 (me 1 rfl))) (Rw.mono h9 (hL62.toSt hp63 (me 1 rfl))) (Rw.mono h13 (hL62.toSt hp63 (me 1 rfl))) (hL62.hFl (Sl := ([] : List Snap)) hp63 (sels [] rfl)) (hL62.into hp63 (Fl ([] : List Snap))) r64 hv65) ?_
    rintro _ w66 ⟨rfl, hM67⟩
    have hL68 := hL62.call hp63 hM67
    refine ⟨_, _, _, rfl, hL68, ?_⟩
    refine wl_v 2 rfl (v_not rfl) gn rfl ?_
    refine w_end 3 rfl ?_
    by_cases hp69 : r64 = true
    · have h := if_pos' hp69 h
      refine g_false (c := trellislaw11_FirstLeast_c16) rfl _ rfl ((nf hp69)) ?_
      refine g_skip (c := trellislaw11_FirstLeast_c18) rfl ?_
      refine g_seq (c := trellislaw11_FirstLeast_c14) rfl ?_
      refine g_region (c := trellislaw11_FirstLeast_c19) rfl rfl ?_
      refine wl_v 0 rfl (v_fldB fo_26_0 rfl) gn rfl ?_
      refine wl_v 1 rfl (v_ldB1 2 ld_22 rfl rfl rfl) gn rfl ?_
      refine wl_v 2 rfl (v_lenQ un_22 rfl h5.hq) gn rfl ?_
      refine wl_v 3 rfl (v_fldB fo_26_1 rfl) gn rfl ?_
      refine wl_v 4 rfl (v_ldB1 2 ld_23 rfl rfl rfl) gn rfl ?_
      refine wl_v 5 rfl (v_lenQ un_23 rfl h9.hq) gn rfl ?_
      refine wl_v 6 rfl (v_bin rfl rfl rfl) gn rfl ?_
      refine wl_v 7 rfl (v_assign rfl) gn rfl ?_
      refine w_end 8 rfl ?_
      refine g_seq (c := trellislaw11_FirstLeast_c20) rfl ?_
      refine g_seq (c := trellislaw11_FirstLeast_c21) rfl ?_
      have j1 : ∀ (x81 : Bool) (h : trellislaw11_FirstLeast_j1 x1 r38 r51 x14 x19 x81 r) , G (trellislaw11_FirstLeast_C w F r) [.code trellislaw11_FirstLeast_c24, .code trellislaw11_FirstLeast_c22] [(1, .slice A15 n16 c17), (2, .slice A20 n21 c22), (3, .pointer (some ⟨gb24, 0, none⟩)), (7, .slice A40 n41 c42), (8, .slice A53 n54 c55), (9, .int .i64 (w64 ((x1.terms.length : Int) + (x1.syms.length : Int)))), (52, .bool x81)] [.own (.slice A53 n54 c55) 29 1 n54 (r51.flatMap (eI .u64)), .own (.slice A40 n41 c42) 4 1 n41 (r38.flatMap eB), .box gb24 26 [.slice A2 n3 c4, .slice A6 n7 c8, .slice A10 n11 c12]] [Sm w.heap.size F w [], St w []] := by
        intro x81 h
        unfold trellislaw11_FirstLeast_j1 at h
        by_cases hp82 : x81 = true
        · have h := if_pos' hp82 h
          refine g_true (c := trellislaw11_FirstLeast_c24) rfl _ rfl (hp82) ?_
          refine g_seq (c := trellislaw11_FirstLeast_c25) rfl ?_
          refine g_region (c := trellislaw11_FirstLeast_c27) rfl rfl ?_
          refine wl_v 0 rfl (v_assign rfl) gn rfl ?_
          refine w_end 1 rfl ?_
          refine g_retR (c := trellislaw11_FirstLeast_c28) [.bool false] rfl Try.func5 rfl (.tmp rfl (.nil)) fun wr hLr => ?_
          have hMr : B.Loc w wr [] [St w []] := hLr.pick (rest := [.own (.slice A53 n54 c55) 29 1 n54 (r51.flatMap (eI .u64)), .own (.slice A40 n41 c42) 4 1 n41 (r38.flatMap eB), .box gb24 26 [.slice A2 n3 c4, .slice A6 n7 c8, .slice A10 n11 c12]]) (perm_of_idx [] [0, 1, 2] rfl rfl (by kernel_rfl)) (sels [1] rfl)
          have hMi : ∀ e ∈ ([] : List Ent), e ∈ ([.own (.slice A53 n54 c55) 29 1 n54 (r51.flatMap (eI .u64)), .own (.slice A40 n41 c42) 4 1 n41 (r38.flatMap eB), .box gb24 26 [.slice A2 n3 c4, .slice A6 n7 c8, .slice A10 n11 c12]] : List Ent) := sels [] rfl
          show trellislaw11_FirstLeast_R w F  r (.returned (packV [.bool false])) wr
          rw [h]
          exact ⟨rfl, hMr⟩
        · have h := if_neg' hp82 h
          refine g_false (c := trellislaw11_FirstLeast_c24) rfl _ rfl ((bf hp82)) ?_
          refine g_skip (c := trellislaw11_FirstLeast_c26) rfl ?_
          refine g_seq (c := trellislaw11_FirstLeast_c22) rfl ?_
          refine g_seq (c := trellislaw11_FirstLeast_c29) rfl ?_
          refine g_region (c := trellislaw11_FirstLeast_c31) rfl rfl ?_
          refine wl_v 0 rfl (v_assign rfl) gn rfl ?_
          refine w_end 1 rfl ?_
          refine g_block (c := trellislaw11_FirstLeast_c32) rfl ?_
          refine g_loop (c := trellislaw11_FirstLeast_c33) rfl ?_
          have key2 : ∀ s, Rounds (fun (s : Int) o => trellislaw11_FirstLeast_b2 x1 r38 r51 x14 x19 s o) s r → (fun (s : Int) => ∀ (_ : Unit), G (trellislaw11_FirstLeast_C w F r) [.code trellislaw11_FirstLeast_c34, .inLoop trellislaw11_FirstLeast_c34, .inBlock 0, .code trellislaw11_FirstLeast_c30] [(1, .slice A15 n16 c17), (2, .slice A20 n21 c22), (3, .pointer (some ⟨gb24, 0, none⟩)), (7, .slice A40 n41 c42), (8, .slice A53 n54 c55), (9, .int .i64 (w64 ((x1.terms.length : Int) + (x1.syms.length : Int)))), (10, .int .i64 s)] [.own (.slice A53 n54 c55) 29 1 n54 (r51.flatMap (eI .u64)), .own (.slice A40 n41 c42) 4 1 n41 (r38.flatMap eB), .box gb24 26 [.slice A2 n3 c4, .slice A6 n7 c8, .slice A10 n11 c12]] [Sm w.heap.size F w [], St w []]) s := by
            intro s hs
            refine Rounds.ind (mot := (fun (s : Int) => ∀ (_ : Unit), G (trellislaw11_FirstLeast_C w F r) [.code trellislaw11_FirstLeast_c34, .inLoop trellislaw11_FirstLeast_c34, .inBlock 0, .code trellislaw11_FirstLeast_c30] [(1, .slice A15 n16 c17), (2, .slice A20 n21 c22), (3, .pointer (some ⟨gb24, 0, none⟩)), (7, .slice A40 n41 c42), (8, .slice A53 n54 c55), (9, .int .i64 (w64 ((x1.terms.length : Int) + (x1.syms.length : Int)))), (10, .int .i64 s)] [.own (.slice A53 n54 c55) 29 1 n54 (r51.flatMap (eI .u64)), .own (.slice A40 n41 c42) 4 1 n41 (r38.flatMap eB), .box gb24 26 [.slice A2 n3 c4, .slice A6 n7 c8, .slice A10 n11 c12]] [Sm w.heap.size F w [], St w []])) ?_ hs
            clear hs s
            intro x181 o1 h hO1
            show ∀ (_ : Unit), G (trellislaw11_FirstLeast_C w F r) [.code trellislaw11_FirstLeast_c34, .inLoop trellislaw11_FirstLeast_c34, .inBlock 0, .code trellislaw11_FirstLeast_c30] [(1, .slice A15 n16 c17), (2, .slice A20 n21 c22), (3, .pointer (some ⟨gb24, 0, none⟩)), (7, .slice A40 n41 c42), (8, .slice A53 n54 c55), (9, .int .i64 (w64 ((x1.terms.length : Int) + (x1.syms.length : Int)))), (10, .int .i64 x181)] [.own (.slice A53 n54 c55) 29 1 n54 (r51.flatMap (eI .u64)), .own (.slice A40 n41 c42) 4 1 n41 (r38.flatMap eB), .box gb24 26 [.slice A2 n3 c4, .slice A6 n7 c8, .slice A10 n11 c12]] [Sm w.heap.size F w [], St w []]
            intro _
            have h : trellislaw11_FirstLeast_b2 x1 r38 r51 x14 x19 x181 o1 := h
            unfold trellislaw11_FirstLeast_b2 at h
            refine g_seq (c := trellislaw11_FirstLeast_c34) rfl ?_
            refine g_seq (c := trellislaw11_FirstLeast_c35) rfl ?_
            refine g_region (c := trellislaw11_FirstLeast_c37) rfl rfl ?_
            refine wl_v 0 rfl (v_move rfl) gn rfl ?_
            refine wl_v 1 rfl (v_fldB fo_26_0 rfl) gn rfl ?_
            refine wl_v 2 rfl (v_ldB1 2 ld_22 rfl rfl rfl) gn rfl ?_
            refine wl_v 3 rfl (v_lenQ un_22 rfl h5.hq) gn rfl ?_
            refine wl_v 4 rfl (v_bin rfl rfl rfl) gn rfl ?_
            refine w_end 5 rfl ?_
            by_cases hp279 : x181 < (x1.terms.length : Int)
            · have h := if_pos' hp279 h
              refine g_true (c := trellislaw11_FirstLeast_c38) rfl _ rfl ((decide_eq_true hp279)) ?_
              refine g_skip (c := trellislaw11_FirstLeast_c39) rfl ?_
              refine g_seq (c := trellislaw11_FirstLeast_c36) rfl ?_
              refine g_block (c := trellislaw11_FirstLeast_c41) rfl ?_
              refine g_seq (c := trellislaw11_FirstLeast_c43) rfl ?_
              refine g_region (c := trellislaw11_FirstLeast_c44) rfl rfl ?_
              refine wl_v 0 rfl (v_move rfl) gn rfl ?_
              refine wl_v 1 rfl (v_move rfl) gn rfl ?_
              obtain ⟨hb280, h⟩ := h
              refine wl_v 2 rfl (v_idxO slE_40 rfl rfl (Ow.weak hL36.env.size h43) hb280) gn rfl ?_
              refine wl_v 3 rfl (v_ldO1 (.bool (ix r38 x181)) 1 ld_4 rfl rfl (fm_get0 hlB hb280 rfl)) gn rfl ?_
              refine wl_v 4 rfl (v_move rfl) gn rfl ?_
              by_cases hp281 : (ix r38 x181) = true
              · have h := if_pos' hp281 h
                refine w_bool 64 rfl (hp281) ?_
                refine wl_pass 5 rfl (ps 64 rfl rfl rfl) ?_
                refine wl_pass 6 rfl (ps 64 rfl rfl rfl) ?_
                refine wl_pass 7 rfl (ps 64 rfl rfl rfl) ?_
                refine wl_pass 8 rfl (ps 64 rfl rfl rfl) ?_
                refine wl_pass 9 rfl (ps 64 rfl rfl rfl) ?_
                refine wl_pass 10 rfl (ps 64 rfl rfl rfl) ?_
                refine wl_pass 11 rfl (ps 64 rfl rfl rfl) ?_
                refine wl_pass 12 rfl (ps 64 rfl rfl rfl) ?_
                refine wl_v 13 rfl (v_pick (b := true) rfl rfl) gn rfl ?_
                refine w_end 14 rfl ?_
                refine g_true (c := trellislaw11_FirstLeast_c45) rfl _ rfl (rfl) ?_
                refine g_seq (c := trellislaw11_FirstLeast_c46) rfl ?_
                refine g_region (c := trellislaw11_FirstLeast_c48) rfl rfl ?_
                refine wl_v 0 rfl (v_assign rfl) gn rfl ?_
                refine w_end 1 rfl ?_
                have h := Out.inr hO1 h
                refine g_retR (c := trellislaw11_FirstLeast_c49) [.bool false] rfl Try.func5 rfl (.tmp rfl (.nil)) fun wr hLr => ?_
                have hMr : B.Loc w wr [] [St w []] := hLr.pick (rest := [.own (.slice A53 n54 c55) 29 1 n54 (r51.flatMap (eI .u64)), .own (.slice A40 n41 c42) 4 1 n41 (r38.flatMap eB), .box gb24 26 [.slice A2 n3 c4, .slice A6 n7 c8, .slice A10 n11 c12]]) (perm_of_idx [] [0, 1, 2] rfl rfl (by kernel_rfl)) (sels [1] rfl)
                have hMi : ∀ e ∈ ([] : List Ent), e ∈ ([.own (.slice A53 n54 c55) 29 1 n54 (r51.flatMap (eI .u64)), .own (.slice A40 n41 c42) 4 1 n41 (r38.flatMap eB), .box gb24 26 [.slice A2 n3 c4, .slice A6 n7 c8, .slice A10 n11 c12]] : List Ent) := sels [] rfl
                show trellislaw11_FirstLeast_R w F  r (.returned (packV [.bool false])) wr
                rw [h]
                exact ⟨rfl, hMr⟩
              · have h := if_neg' hp281 h
                refine w_bool 64 rfl ((bf hp281)) ?_
                refine wl_v 5 rfl (v_move rfl) (gy 64 rfl rfl) rfl ?_
                refine wl_v 6 rfl (v_move rfl) (gy 64 rfl rfl) rfl ?_
                obtain ⟨hb282, h⟩ := h
                refine wl_v 7 rfl (v_idxO slE_42 rfl rfl (Ow.weak hL49.env.size h56) hb282) (gy 64 rfl rfl) rfl ?_
                refine wl_v 8 rfl (v_ldO1 (.int .u64 (ix r51 x181)) 0 ld_29 rfl rfl (fm_get0 (hlI .u64) hb282 rfl)) (gy 64 rfl rfl) rfl ?_
                refine wl_v 9 rfl (v_move rfl) (gy 64 rfl rfl) rfl ?_
                refine wl_v 10 rfl (v_conv ⟨_, un_3⟩ un_49 rfl) (gy 64 rfl rfl) rfl ?_
                obtain ⟨hb283, h⟩ := h
                refine wl_v 11 rfl (v_shl rfl rfl hb283) (gy 64 rfl rfl) rfl ?_
                refine wl_v 12 rfl (v_bin rfl rfl rfl) (gy 64 rfl rfl) rfl ?_
                refine wl_v 13 rfl (v_pick (b := false) rfl rfl) gn rfl ?_
                refine w_end 14 rfl ?_
                by_cases hp284 : ix r51 x181 = shlV .u64 1 (IntKind.u64.wrap (x181))
                · have h := if_pos' hp284 h
                  refine g_false (c := trellislaw11_FirstLeast_c45) rfl _ rfl ((eqib hp284)) ?_
                  refine g_skip (c := trellislaw11_FirstLeast_c47) rfl ?_
                  refine g_inBlock ?_
                  refine g_region (c := trellislaw11_FirstLeast_c42) rfl rfl ?_
                  refine wl_v 0 rfl (v_move rfl) gn rfl ?_
                  refine wl_v 1 rfl (v_bin rfl rfl rfl) gn rfl ?_
                  refine wl_v 2 rfl (v_assign rfl) gn rfl ?_
                  refine w_end 3 rfl ?_
                  refine g_inLoop ?_
                  have ih := Out.inl hO1 h
                  exact g_go [0, 1] (ih ()) ⟨rfl, rfl, rfl, rfl, rfl, rfl, rfl, trivial⟩ (.cons_cons _ (.cons_cons _ (.cons_cons _ (.slnil)))) rfl
                · have h := if_neg' hp284 h
                  refine g_true (c := trellislaw11_FirstLeast_c45) rfl _ rfl ((neib hp284)) ?_
                  refine g_seq (c := trellislaw11_FirstLeast_c46) rfl ?_
                  refine g_region (c := trellislaw11_FirstLeast_c48) rfl rfl ?_
                  refine wl_v 0 rfl (v_assign rfl) gn rfl ?_
                  refine w_end 1 rfl ?_
                  have h := Out.inr hO1 h
                  refine g_retR (c := trellislaw11_FirstLeast_c49) [.bool false] rfl Try.func5 rfl (.tmp rfl (.nil)) fun wr hLr => ?_
                  have hMr : B.Loc w wr [] [St w []] := hLr.pick (rest := [.own (.slice A53 n54 c55) 29 1 n54 (r51.flatMap (eI .u64)), .own (.slice A40 n41 c42) 4 1 n41 (r38.flatMap eB), .box gb24 26 [.slice A2 n3 c4, .slice A6 n7 c8, .slice A10 n11 c12]]) (perm_of_idx [] [0, 1, 2] rfl rfl (by kernel_rfl)) (sels [1] rfl)
                  have hMi : ∀ e ∈ ([] : List Ent), e ∈ ([.own (.slice A53 n54 c55) 29 1 n54 (r51.flatMap (eI .u64)), .own (.slice A40 n41 c42) 4 1 n41 (r38.flatMap eB), .box gb24 26 [.slice A2 n3 c4, .slice A6 n7 c8, .slice A10 n11 c12]] : List Ent) := sels [] rfl
                  show trellislaw11_FirstLeast_R w F  r (.returned (packV [.bool false])) wr
                  rw [h]
                  exact ⟨rfl, hMr⟩
            · have h := if_neg' hp279 h
              refine g_false (c := trellislaw11_FirstLeast_c38) rfl _ rfl ((decide_eq_false hp279)) ?_
              refine g_exit (c := trellislaw11_FirstLeast_c40) [.code trellislaw11_FirstLeast_c30] rfl rfl ?_
              refine g_seq (c := trellislaw11_FirstLeast_c30) rfl ?_
              refine g_seq (c := trellislaw11_FirstLeast_c50) rfl ?_
              have j3 : ∀ (x296 : Bool) (h : trellislaw11_FirstLeast_j3 x1 r38 x14 r51 x19 x296 o1) , G (trellislaw11_FirstLeast_C w F r) [.code trellislaw11_FirstLeast_c53, .code trellislaw11_FirstLeast_c51] [(1, .slice A15 n16 c17), (2, .slice A20 n21 c22), (7, .slice A40 n41 c42), (8, .slice A53 n54 c55), (9, .int .i64 (w64 ((x1.terms.length : Int) + (x1.syms.length : Int)))), (90, .bool x296)] [.own (.slice A53 n54 c55) 29 1 n54 (r51.flatMap (eI .u64)), .own (.slice A40 n41 c42) 4 1 n41 (r38.flatMap eB)] [Sm w.heap.size F w [], St w []] := by
                intro x296 h
                unfold trellislaw11_FirstLeast_j3 at h
                by_cases hp297 : x296 = true
                · have h := if_pos' hp297 h
                  refine g_true (c := trellislaw11_FirstLeast_c53) rfl _ rfl (hp297) ?_
                  refine g_seq (c := trellislaw11_FirstLeast_c54) rfl ?_
                  refine g_region (c := trellislaw11_FirstLeast_c56) rfl rfl ?_
                  refine wl_v 0 rfl (v_assign rfl) gn rfl ?_
                  refine w_end 1 rfl ?_
                  have h := Out.inr hO1 h
                  refine g_retR (c := trellislaw11_FirstLeast_c57) [.bool true] rfl Try.func5 rfl (.tmp rfl (.nil)) fun wr hLr => ?_
                  have hMr : B.Loc w wr [] [St w []] := hLr.pick (rest := [.own (.slice A53 n54 c55) 29 1 n54 (r51.flatMap (eI .u64)), .own (.slice A40 n41 c42) 4 1 n41 (r38.flatMap eB)]) (perm_of_idx [] [0, 1] rfl rfl (by kernel_rfl)) (sels [1] rfl)
                  have hMi : ∀ e ∈ ([] : List Ent), e ∈ ([.own (.slice A53 n54 c55) 29 1 n54 (r51.flatMap (eI .u64)), .own (.slice A40 n41 c42) 4 1 n41 (r38.flatMap eB)] : List Ent) := sels [] rfl
                  show trellislaw11_FirstLeast_R w F  r (.returned (packV [.bool true])) wr
                  rw [h]
                  exact ⟨rfl, hMr⟩
                · have h := if_neg' hp297 h
                  refine g_false (c := trellislaw11_FirstLeast_c53) rfl _ rfl ((bf hp297)) ?_
                  refine g_skip (c := trellislaw11_FirstLeast_c55) rfl ?_
                  refine g_seq (c := trellislaw11_FirstLeast_c51) rfl ?_
                  refine g_seq (c := trellislaw11_FirstLeast_c58) rfl ?_
                  refine g_region (c := trellislaw11_FirstLeast_c60) rfl rfl ?_
                  refine wl_v 0 rfl (v_assign rfl) gn rfl ?_
                  refine w_end 1 rfl ?_
                  refine g_block (c := trellislaw11_FirstLeast_c61) rfl ?_
                  refine g_loop (c := trellislaw11_FirstLeast_c62) rfl ?_
                  have key4 : ∀ s, Rounds (fun (s : Int) o => trellislaw11_FirstLeast_b4 x1 r38 x14 r51 x19 s o) s o1 → (fun (s : Int) => ∀ (_ : Unit), G (trellislaw11_FirstLeast_C w F r) [.code trellislaw11_FirstLeast_c63, .inLoop trellislaw11_FirstLeast_c63, .inBlock 2, .code trellislaw11_FirstLeast_c59] [(1, .slice A15 n16 c17), (2, .slice A20 n21 c22), (7, .slice A40 n41 c42), (8, .slice A53 n54 c55), (9, .int .i64 (w64 ((x1.terms.length : Int) + (x1.syms.length : Int)))), (11, .int .i64 s)] [.own (.slice A53 n54 c55) 29 1 n54 (r51.flatMap (eI .u64)), .own (.slice A40 n41 c42) 4 1 n41 (r38.flatMap eB)] [Sm w.heap.size F w [], St w []]) s := by
                    intro s hs
                    refine Rounds.ind (mot := (fun (s : Int) => ∀ (_ : Unit), G (trellislaw11_FirstLeast_C w F r) [.code trellislaw11_FirstLeast_c63, .inLoop trellislaw11_FirstLeast_c63, .inBlock 2, .code trellislaw11_FirstLeast_c59] [(1, .slice A15 n16 c17), (2, .slice A20 n21 c22), (7, .slice A40 n41 c42), (8, .slice A53 n54 c55), (9, .int .i64 (w64 ((x1.terms.length : Int) + (x1.syms.length : Int)))), (11, .int .i64 s)] [.own (.slice A53 n54 c55) 29 1 n54 (r51.flatMap (eI .u64)), .own (.slice A40 n41 c42) 4 1 n41 (r38.flatMap eB)] [Sm w.heap.size F w [], St w []])) ?_ hs
                    clear hs s
                    intro x321 o2 h hO2
                    show ∀ (_ : Unit), G (trellislaw11_FirstLeast_C w F r) [.code trellislaw11_FirstLeast_c63, .inLoop trellislaw11_FirstLeast_c63, .inBlock 2, .code trellislaw11_FirstLeast_c59] [(1, .slice A15 n16 c17), (2, .slice A20 n21 c22), (7, .slice A40 n41 c42), (8, .slice A53 n54 c55), (9, .int .i64 (w64 ((x1.terms.length : Int) + (x1.syms.length : Int)))), (11, .int .i64 x321)] [.own (.slice A53 n54 c55) 29 1 n54 (r51.flatMap (eI .u64)), .own (.slice A40 n41 c42) 4 1 n41 (r38.flatMap eB)] [Sm w.heap.size F w [], St w []]
                    intro _
                    have h : trellislaw11_FirstLeast_b4 x1 r38 x14 r51 x19 x321 o2 := h
                    unfold trellislaw11_FirstLeast_b4 at h
                    refine g_seq (c := trellislaw11_FirstLeast_c63) rfl ?_
                    refine g_seq (c := trellislaw11_FirstLeast_c64) rfl ?_
                    refine g_region (c := trellislaw11_FirstLeast_c66) rfl rfl ?_
                    refine wl_v 0 rfl (v_move rfl) gn rfl ?_
                    refine wl_v 1 rfl (v_move rfl) gn rfl ?_
                    refine wl_v 2 rfl (v_bin rfl rfl rfl) gn rfl ?_
                    refine w_end 3 rfl ?_
                    by_cases hp344 : x321 < w64 ((x1.terms.length : Int) + (x1.syms.length : Int))
                    · have h := if_pos' hp344 h
                      refine g_true (c := trellislaw11_FirstLeast_c67) rfl _ rfl ((decide_eq_true hp344)) ?_
                      refine g_skip (c := trellislaw11_FirstLeast_c68) rfl ?_
                      refine g_seq (c := trellislaw11_FirstLeast_c65) rfl ?_
                      refine g_block (c := trellislaw11_FirstLeast_c70) rfl ?_
                      refine g_seq (c := trellislaw11_FirstLeast_c72) rfl ?_
                      obtain ⟨hb345, h⟩ := h
                      by_cases hp346 : (ix r38 x321) = true
                      · have h := if_pos' hp346 h
                        obtain ⟨hb347, h⟩ := h
                        by_cases hp349 : (ix x14 x321) = true
                        · have h := if_pos' hp349 h
                          obtain ⟨hb350, h⟩ := h
                          obtain ⟨hb351, h⟩ := h
                          have hns : Region.noSelect (Code.ops trellislaw11_FirstLeast_c73) = true := by kernel_rfl
                          refine g_drawF (c := trellislaw11_FirstLeast_c73) [.own (.slice A53 n54 c55) 29 1 n54 (r51.flatMap (eI .u64)), .own (.slice A40 n41 c42) 4 1 n41 (r38.flatMap eB)] [Sm w.heap.size F w [], St w []] [] 23 rfl rfl mix rfl (.cons_cons _ (.cons_cons _ (.slnil))) (sels [0, 1] rfl) ?_
                          refine wf_v 0 rfl (v_move rfl) gn rfl hns (by kernel_rfl) (by kernel_rfl) rfl rfl ?_
                          refine wf_v 1 rfl (v_move rfl) gn rfl hns (by kernel_rfl) (by kernel_rfl) rfl rfl ?_
                          refine wf_v 2 rfl (v_idxO slE_40 rfl rfl (Ow.weak hL36.env.size h43) hb345) gn rfl hns (by kernel_rfl) (by kernel_rfl) rfl rfl ?_
                          refine wf_v 3 rfl (v_ldO1 (.bool (ix r38 x321)) 1 ld_4 rfl rfl (fm_get0 hlB hb345 rfl)) gn rfl hns (by kernel_rfl) (by kernel_rfl) rfl rfl ?_
                          refine wf_v 4 rfl (v_move rfl) gn rfl hns (by kernel_rfl) (by kernel_rfl) rfl rfl ?_
                          refine wf_bool 100 rfl (hp346) ?_
                          refine wf_v 5 rfl (v_move rfl) (gy 100 rfl rfl) rfl hns (by kernel_rfl) (by kernel_rfl) rfl rfl ?_
                          refine wf_v 6 rfl (v_move rfl) (gy 100 rfl rfl) rfl hns (by kernel_rfl) (by kernel_rfl) rfl rfl ?_
                          have hr355 := Rw.readF (s := St w []) (hl := hlB) (h1 := hone_bool) h18 hb347
                          refine wf_v 7 rfl (v_idxR (s := St w []) slE_40 rfl rfl h18 hb347) (gy 100 rfl rfl) rfl hns (by kernel_rfl) (by kernel_rfl) rfl rfl ?_
                          refine wf_v 8 rfl (v_ldA1 (kk := (x321 : Int).toNat * 1) (j := 0) (St w []) ld_4 rfl hr355 rfl (me 1 rfl)) (gy 100 rfl rfl) rfl hns (by kernel_rfl) (by kernel_rfl) rfl rfl ?_
                          refine wf_v 9 rfl (v_not rfl) (gy 100 rfl rfl) rfl hns (by kernel_rfl) (by kernel_rfl) rfl rfl ?_
                          refine wf_v 10 rfl (v_pick (b := true) rfl rfl) gn rfl hns (by kernel_rfl) (by kernel_rfl) rfl rfl ?_
                          refine wf_v 11 rfl (v_move rfl) gn rfl hns (by kernel_rfl) (by kernel_rfl) rfl rfl ?_
                          refine wf_bool 107 rfl ((nf hp349)) ?_
                          refine wf_v 12 rfl (v_move rfl) (gy 107 rfl rfl) rfl hns (by kernel_rfl) (by kernel_rfl) rfl rfl ?_
                          refine wf_v 13 rfl (v_move rfl) (gy 107 rfl rfl) rfl hns (by kernel_rfl) (by kernel_rfl) rfl rfl ?_
                          refine wf_v 14 rfl (v_idxO slE_42 rfl rfl (Ow.weak hL49.env.size h56) hb350) (gy 107 rfl rfl) rfl hns (by kernel_rfl) (by kernel_rfl) rfl rfl ?_
                          refine wf_v 15 rfl (v_ldO1 (.int .u64 (ix r51 x321)) 0 ld_29 rfl rfl (fm_get0 (hlI .u64) hb350 rfl)) (gy 107 rfl rfl) rfl hns (by kernel_rfl) (by kernel_rfl) rfl rfl ?_
                          refine wf_v 16 rfl (v_move rfl) (gy 107 rfl rfl) rfl hns (by kernel_rfl) (by kernel_rfl) rfl rfl ?_
                          refine wf_v 17 rfl (v_move rfl) (gy 107 rfl rfl) rfl hns (by kernel_rfl) (by kernel_rfl) rfl rfl ?_
                          have hr356 := Rw.readF (s := St w []) (hl := (hlI .u64)) (h1 := (hone_int .u64)) h23 hb351
                          refine wf_v 18 rfl (v_idxR (s := St w []) slE_42 rfl rfl h23 hb351) (gy 107 rfl rfl) rfl hns (by kernel_rfl) (by kernel_rfl) rfl rfl ?_
                          refine wf_v 19 rfl (v_ldA1 (kk := (x321 : Int).toNat * 1) (j := 0) (St w []) ld_29 rfl hr356 rfl (me 1 rfl)) (gy 107 rfl rfl) rfl hns (by kernel_rfl) (by kernel_rfl) rfl rfl ?_
                          refine wf_v 20 rfl (v_bin rfl rfl rfl) (gy 107 rfl rfl) rfl hns (by kernel_rfl) (by kernel_rfl) rfl rfl ?_
                          refine wf_v 21 rfl (v_bin rfl rfl rfl) (gy 107 rfl rfl) rfl hns (by kernel_rfl) (by kernel_rfl) rfl rfl ?_
                          refine wf_v 22 rfl (v_pick (b := false) rfl rfl) gn rfl hns (by kernel_rfl) (by kernel_rfl) rfl rfl ?_
                          refine wf_end (by kernel_rfl) ?_
                          by_cases hp357 : bits .andNot .u64 (ix r51 x321) (ix x19 x321) = 0
                          · have h := if_pos' hp357 h
                            refine g_false (c := trellislaw11_FirstLeast_c74) rfl _ rfl ((eqib hp357)) ?_
                            refine g_skip (c := trellislaw11_FirstLeast_c76) rfl ?_
                            refine g_inBlock ?_
                            refine g_region (c := trellislaw11_FirstLeast_c71) rfl rfl ?_
                            refine wl_v 0 rfl (v_move rfl) gn rfl ?_
                            refine wl_v 1 rfl (v_bin rfl rfl rfl) gn rfl ?_
                            refine wl_v 2 rfl (v_assign rfl) gn rfl ?_
                            refine w_end 3 rfl ?_
                            refine g_inLoop ?_
                            have ih := Out.inl hO2 h
                            exact g_go [0, 1] (ih ()) ⟨rfl, rfl, rfl, rfl, rfl, rfl, trivial⟩ (.cons_cons _ (.cons_cons _ (.slnil))) rfl
                          · have h := if_neg' hp357 h
                            refine g_true (c := trellislaw11_FirstLeast_c74) rfl _ rfl ((neib hp357)) ?_
                            refine g_seq (c := trellislaw11_FirstLeast_c75) rfl ?_
                            refine g_region (c := trellislaw11_FirstLeast_c77) rfl rfl ?_
                            refine wl_v 0 rfl (v_assign rfl) gn rfl ?_
                            refine w_end 1 rfl ?_
                            have h := Out.inr hO2 h
                            have h := Out.inr hO1 h
                            refine g_retR (c := trellislaw11_FirstLeast_c78) [.bool false] rfl Try.func5 rfl (.tmp rfl (.nil)) fun wr hLr => ?_
                            have hMr : B.Loc w wr [] [St w []] := hLr.pick (rest := [.own (.slice A53 n54 c55) 29 1 n54 (r51.flatMap (eI .u64)), .own (.slice A40 n41 c42) 4 1 n41 (r38.flatMap eB)]) (perm_of_idx [] [0, 1] rfl rfl (by kernel_rfl)) (sels [1] rfl)
                            have hMi : ∀ e ∈ ([] : List Ent), e ∈ ([.own (.slice A53 n54 c55) 29 1 n54 (r51.flatMap (eI .u64)), .own (.slice A40 n41 c42) 4 1 n41 (r38.flatMap eB)] : List Ent) := sels [] rfl
                            show trellislaw11_FirstLeast_R w F  r (.returned (packV [.bool false])) wr
                            rw [h]
                            exact ⟨rfl, hMr⟩
                        · have h := if_neg' hp349 h
                          have hns : Region.noSelect (Code.ops trellislaw11_FirstLeast_c73) = true := by kernel_rfl
                          refine g_drawF (c := trellislaw11_FirstLeast_c73) [.own (.slice A53 n54 c55) 29 1 n54 (r51.flatMap (eI .u64)), .own (.slice A40 n41 c42) 4 1 n41 (r38.flatMap eB)] [Sm w.heap.size F w [], St w []] [] 23 rfl rfl mix rfl (.cons_cons _ (.cons_cons _ (.slnil))) (sels [0, 1] rfl) ?_
                          refine wf_v 0 rfl (v_move rfl) gn rfl hns (by kernel_rfl) (by kernel_rfl) rfl rfl ?_
                          refine wf_v 1 rfl (v_move rfl) gn rfl hns (by kernel_rfl) (by kernel_rfl) rfl rfl ?_
                          refine wf_v 2 rfl (v_idxO slE_40 rfl rfl (Ow.weak hL36.env.size h43) hb345) gn rfl hns (by kernel_rfl) (by kernel_rfl) rfl rfl ?_
                          refine wf_v 3 rfl (v_ldO1 (.bool (ix r38 x321)) 1 ld_4 rfl rfl (fm_get0 hlB hb345 rfl)) gn rfl hns (by kernel_rfl) (by kernel_rfl) rfl rfl ?_
                          refine wf_v 4 rfl (v_move rfl) gn rfl hns (by kernel_rfl) (by kernel_rfl) rfl rfl ?_
                          refine wf_bool 100 rfl (hp346) ?_
                          refine wf_v 5 rfl (v_move rfl) (gy 100 rfl rfl) rfl hns (by kernel_rfl) (by kernel_rfl) rfl rfl ?_
                          refine wf_v 6 rfl (v_move rfl) (gy 100 rfl rfl) rfl hns (by kernel_rfl) (by kernel_rfl) rfl rfl ?_
                          have hr359 := Rw.readF (s := St w []) (hl := hlB) (h1 := hone_bool) h18 hb347
                          refine wf_v 7 rfl (v_idxR (s := St w []) slE_40 rfl rfl h18 hb347) (gy 100 rfl rfl) rfl hns (by kernel_rfl) (by kernel_rfl) rfl rfl ?_
                          refine wf_v 8 rfl (v_ldA1 (kk := (x321 : Int).toNat * 1) (j := 0) (St w []) ld_4 rfl hr359 rfl (me 1 rfl)) (gy 100 rfl rfl) rfl hns (by kernel_rfl) (by kernel_rfl) rfl rfl ?_
                          refine wf_v 9 rfl (v_not rfl) (gy 100 rfl rfl) rfl hns (by kernel_rfl) (by kernel_rfl) rfl rfl ?_
                          refine wf_v 10 rfl (v_pick (b := true) rfl rfl) gn rfl hns (by kernel_rfl) (by kernel_rfl) rfl rfl ?_
                          refine wf_v 11 rfl (v_move rfl) gn rfl hns (by kernel_rfl) (by kernel_rfl) rfl rfl ?_
                          refine wf_bool 107 rfl ((nt (bf hp349))) ?_
                          refine wf_pass 12 rfl (ps 107 rfl rfl rfl) hns (by kernel_rfl) (by kernel_rfl) rfl rfl ?_
                          refine wf_pass 13 rfl (ps 107 rfl rfl rfl) hns (by kernel_rfl) (by kernel_rfl) rfl rfl ?_
                          refine wf_pass 14 rfl (ps 107 rfl rfl rfl) hns (by kernel_rfl) (by kernel_rfl) rfl rfl ?_
                          refine wf_pass 15 rfl (ps 107 rfl rfl rfl) hns (by kernel_rfl) (by kernel_rfl) rfl rfl ?_
                          refine wf_pass 16 rfl (ps 107 rfl rfl rfl) hns (by kernel_rfl) (by kernel_rfl) rfl rfl ?_
                          refine wf_pass 17 rfl (ps 107 rfl rfl rfl) hns (by kernel_rfl) (by kernel_rfl) rfl rfl ?_
                          refine wf_pass 18 rfl (ps 107 rfl rfl rfl) hns (by kernel_rfl) (by kernel_rfl) rfl rfl ?_
                          refine wf_pass 19 rfl (ps 107 rfl rfl rfl) hns (by kernel_rfl) (by kernel_rfl) rfl rfl ?_
                          refine wf_pass 20 rfl (ps 107 rfl rfl rfl) hns (by kernel_rfl) (by kernel_rfl) rfl rfl ?_
                          refine wf_pass 21 rfl (ps 107 rfl rfl rfl) hns (by kernel_rfl) (by kernel_rfl) rfl rfl ?_
                          refine wf_v 22 rfl (v_pick (b := true) rfl rfl) gn rfl hns (by kernel_rfl) (by kernel_rfl) rfl rfl ?_
                          refine wf_end (by kernel_rfl) ?_
                          refine g_true (c := trellislaw11_FirstLeast_c74) rfl _ rfl (rfl) ?_
                          refine g_seq (c := trellislaw11_FirstLeast_c75) rfl ?_
                          refine g_region (c := trellislaw11_FirstLeast_c77) rfl rfl ?_
                          refine wl_v 0 rfl (v_assign rfl) gn rfl ?_
                          refine w_end 1 rfl ?_
                          have h := Out.inr hO2 h
                          have h := Out.inr hO1 h
                          refine g_retR (c := trellislaw11_FirstLeast_c78) [.bool false] rfl Try.func5 rfl (.tmp rfl (.nil)) fun wr hLr => ?_
                          have hMr : B.Loc w wr [] [St w []] := hLr.pick (rest := [.own (.slice A53 n54 c55) 29 1 n54 (r51.flatMap (eI .u64)), .own (.slice A40 n41 c42) 4 1 n41 (r38.flatMap eB)]) (perm_of_idx [] [0, 1] rfl rfl (by kernel_rfl)) (sels [1] rfl)
                          have hMi : ∀ e ∈ ([] : List Ent), e ∈ ([.own (.slice A53 n54 c55) 29 1 n54 (r51.flatMap (eI .u64)), .own (.slice A40 n41 c42) 4 1 n41 (r38.flatMap eB)] : List Ent) := sels [] rfl
                          show trellislaw11_FirstLeast_R w F  r (.returned (packV [.bool false])) wr
                          rw [h]
                          exact ⟨rfl, hMr⟩
                      · have h := if_neg' hp346 h
                        obtain ⟨hb360, h⟩ := h
                        obtain ⟨hb361, h⟩ := h
                        have hns : Region.noSelect (Code.ops trellislaw11_FirstLeast_c73) = true := by kernel_rfl
                        refine g_drawF (c := trellislaw11_FirstLeast_c73) [.own (.slice A53 n54 c55) 29 1 n54 (r51.flatMap (eI .u64)), .own (.slice A40 n41 c42) 4 1 n41 (r38.flatMap eB)] [Sm w.heap.size F w [], St w []] [] 23 rfl rfl mix rfl (.cons_cons _ (.cons_cons _ (.slnil))) (sels [0, 1] rfl) ?_
                        refine wf_v 0 rfl (v_move rfl) gn rfl hns (by kernel_rfl) (by kernel_rfl) rfl rfl ?_
                        refine wf_v 1 rfl (v_move rfl) gn rfl hns (by kernel_rfl) (by kernel_rfl) rfl rfl ?_
                        refine wf_v 2 rfl (v_idxO slE_40 rfl rfl (Ow.weak hL36.env.size h43) hb345) gn rfl hns (by kernel_rfl) (by kernel_rfl) rfl rfl ?_
                        refine wf_v 3 rfl (v_ldO1 (.bool (ix r38 x321)) 1 ld_4 rfl rfl (fm_get0 hlB hb345 rfl)) gn rfl hns (by kernel_rfl) (by kernel_rfl) rfl rfl ?_
                        refine wf_v 4 rfl (v_move rfl) gn rfl hns (by kernel_rfl) (by kernel_rfl) rfl rfl ?_
                        refine wf_bool 100 rfl ((bf hp346)) ?_
                        refine wf_pass 5 rfl (ps 100 rfl rfl rfl) hns (by kernel_rfl) (by kernel_rfl) rfl rfl ?_
                        refine wf_pass 6 rfl (ps 100 rfl rfl rfl) hns (by kernel_rfl) (by kernel_rfl) rfl rfl ?_
                        refine wf_pass 7 rfl (ps 100 rfl rfl rfl) hns (by kernel_rfl) (by kernel_rfl) rfl rfl ?_
                        refine wf_pass 8 rfl (ps 100 rfl rfl rfl) hns (by kernel_rfl) (by kernel_rfl) rfl rfl ?_
                        refine wf_pass 9 rfl (ps 100 rfl rfl rfl) hns (by kernel_rfl) (by kernel_rfl) rfl rfl ?_
                        refine wf_v 10 rfl (v_pick (b := false) rfl rfl) gn rfl hns (by kernel_rfl) (by kernel_rfl) rfl rfl ?_
                        refine wf_v 11 rfl (v_move rfl) gn rfl hns (by kernel_rfl) (by kernel_rfl) rfl rfl ?_
                        refine wf_v 12 rfl (v_move rfl) (gy 107 rfl rfl) rfl hns (by kernel_rfl) (by kernel_rfl) rfl rfl ?_
                        refine wf_v 13 rfl (v_move rfl) (gy 107 rfl rfl) rfl hns (by kernel_rfl) (by kernel_rfl) rfl rfl ?_
                        refine wf_v 14 rfl (v_idxO slE_42 rfl rfl (Ow.weak hL49.env.size h56) hb360) (gy 107 rfl rfl) rfl hns (by kernel_rfl) (by kernel_rfl) rfl rfl ?_
                        refine wf_v 15 rfl (v_ldO1 (.int .u64 (ix r51 x321)) 0 ld_29 rfl rfl (fm_get0 (hlI .u64) hb360 rfl)) (gy 107 rfl rfl) rfl hns (by kernel_rfl) (by kernel_rfl) rfl rfl ?_
                        refine wf_v 16 rfl (v_move rfl) (gy 107 rfl rfl) rfl hns (by kernel_rfl) (by kernel_rfl) rfl rfl ?_
                        refine wf_v 17 rfl (v_move rfl) (gy 107 rfl rfl) rfl hns (by kernel_rfl) (by kernel_rfl) rfl rfl ?_
                        have hr364 := Rw.readF (s := St w []) (hl := (hlI .u64)) (h1 := (hone_int .u64)) h23 hb361
                        refine wf_v 18 rfl (v_idxR (s := St w []) slE_42 rfl rfl h23 hb361) (gy 107 rfl rfl) rfl hns (by kernel_rfl) (by kernel_rfl) rfl rfl ?_
                        refine wf_v 19 rfl (v_ldA1 (kk := (x321 : Int).toNat * 1) (j := 0) (St w []) ld_29 rfl hr364 rfl (me 1 rfl)) (gy 107 rfl rfl) rfl hns (by kernel_rfl) (by kernel_rfl) rfl rfl ?_
                        refine wf_v 20 rfl (v_bin rfl rfl rfl) (gy 107 rfl rfl) rfl hns (by kernel_rfl) (by kernel_rfl) rfl rfl ?_
                        refine wf_v 21 rfl (v_bin rfl rfl rfl) (gy 107 rfl rfl) rfl hns (by kernel_rfl) (by kernel_rfl) rfl rfl ?_
                        refine wf_v 22 rfl (v_pick (b := false) rfl rfl) gn rfl hns (by kernel_rfl) (by kernel_rfl) rfl rfl ?_
                        refine wf_end (by kernel_rfl) ?_
                        by_cases hp365 : bits .andNot .u64 (ix r51 x321) (ix x19 x321) = 0
                        · have h := if_pos' hp365 h
                          refine g_false (c := trellislaw11_FirstLeast_c74) rfl _ rfl ((eqib hp365)) ?_
                          refine g_skip (c := trellislaw11_FirstLeast_c76) rfl ?_
                          refine g_inBlock ?_
                          refine g_region (c := trellislaw11_FirstLeast_c71) rfl rfl ?_
                          refine wl_v 0 rfl (v_move rfl) gn rfl ?_
                          refine wl_v 1 rfl (v_bin rfl rfl rfl) gn rfl ?_
                          refine wl_v 2 rfl (v_assign rfl) gn rfl ?_
                          refine w_end 3 rfl ?_
                          refine g_inLoop ?_
                          have ih := Out.inl hO2 h
                          exact g_go [0, 1] (ih ()) ⟨rfl, rfl, rfl, rfl, rfl, rfl, trivial⟩ (.cons_cons _ (.cons_cons _ (.slnil))) rfl
                        · have h := if_neg' hp365 h
                          refine g_true (c := trellislaw11_FirstLeast_c74) rfl _ rfl ((neib hp365)) ?_
                          refine g_seq (c := trellislaw11_FirstLeast_c75) rfl ?_
                          refine g_region (c := trellislaw11_FirstLeast_c77) rfl rfl ?_
                          refine wl_v 0 rfl (v_assign rfl) gn rfl ?_
                          refine w_end 1 rfl ?_
                          have h := Out.inr hO2 h
                          have h := Out.inr hO1 h
                          refine g_retR (c := trellislaw11_FirstLeast_c78) [.bool false] rfl Try.func5 rfl (.tmp rfl (.nil)) fun wr hLr => ?_
                          have hMr : B.Loc w wr [] [St w []] := hLr.pick (rest := [.own (.slice A53 n54 c55) 29 1 n54 (r51.flatMap (eI .u64)), .own (.slice A40 n41 c42) 4 1 n41 (r38.flatMap eB)]) (perm_of_idx [] [0, 1] rfl rfl (by kernel_rfl)) (sels [1] rfl)
                          have hMi : ∀ e ∈ ([] : List Ent), e ∈ ([.own (.slice A53 n54 c55) 29 1 n54 (r51.flatMap (eI .u64)), .own (.slice A40 n41 c42) 4 1 n41 (r38.flatMap eB)] : List Ent) := sels [] rfl
                          show trellislaw11_FirstLeast_R w F  r (.returned (packV [.bool false])) wr
                          rw [h]
                          exact ⟨rfl, hMr⟩
                    · have h := if_neg' hp344 h
                      refine g_false (c := trellislaw11_FirstLeast_c67) rfl _ rfl ((decide_eq_false hp344)) ?_
                      refine g_exit (c := trellislaw11_FirstLeast_c69) [.code trellislaw11_FirstLeast_c59] rfl rfl ?_
                      refine g_seq (c := trellislaw11_FirstLeast_c59) rfl ?_
                      refine g_region (c := trellislaw11_FirstLeast_c79) rfl rfl ?_
                      refine wl_v 0 rfl (v_assign rfl) gn rfl ?_
                      refine w_end 1 rfl ?_
                      have h := Out.inr hO2 h
                      have h := Out.inr hO1 h
                      refine g_retR (c := trellislaw11_FirstLeast_c80) [.bool true] rfl Try.func5 rfl (.tmp rfl (.nil)) fun wr hLr => ?_
                      have hMr : B.Loc w wr [] [St w []] := hLr.pick (rest := [.own (.slice A53 n54 c55) 29 1 n54 (r51.flatMap (eI .u64)), .own (.slice A40 n41 c42) 4 1 n41 (r38.flatMap eB)]) (perm_of_idx [] [0, 1] rfl rfl (by kernel_rfl)) (sels [1] rfl)
                      have hMi : ∀ e ∈ ([] : List Ent), e ∈ ([.own (.slice A53 n54 c55) 29 1 n54 (r51.flatMap (eI .u64)), .own (.slice A40 n41 c42) 4 1 n41 (r38.flatMap eB)] : List Ent) := sels [] rfl
                      show trellislaw11_FirstLeast_R w F  r (.returned (packV [.bool true])) wr
                      rw [h]
                      exact ⟨rfl, hMr⟩
                  exact g_go [0, 1] (key4 _ h ()) ⟨rfl, rfl, rfl, rfl, rfl, rfl, trivial⟩ (.cons_cons _ (.cons_cons _ (.slnil))) rfl
              refine g_region (c := trellislaw11_FirstLeast_c52) rfl rfl ?_
              refine wl_v 0 rfl (v_move rfl) gn rfl ?_
              refine wl_v 1 rfl (v_lenQ un_40 rfl h18.hq) gn rfl ?_
              refine wl_v 2 rfl (v_move rfl) gn rfl ?_
              refine wl_v 3 rfl (v_bin rfl rfl rfl) gn rfl ?_
              refine wl_v 4 rfl (v_move rfl) gn rfl ?_
              by_cases hp366 : (x14.length : Int) = w64 ((x1.terms.length : Int) + (x1.syms.length : Int))
              · have h := if_pos' hp366 h
                refine w_bool 78 rfl ((eqib hp366)) ?_
                refine wl_v 5 rfl (v_move rfl) (gy 78 rfl rfl) rfl ?_
                refine wl_v 6 rfl (v_lenQ un_42 rfl h23.hq) (gy 78 rfl rfl) rfl ?_
                refine wl_v 7 rfl (v_move rfl) (gy 78 rfl rfl) rfl ?_
                refine wl_v 8 rfl (v_bin rfl rfl rfl) (gy 78 rfl rfl) rfl ?_
                refine wl_v 9 rfl (v_pick (b := false) rfl rfl) gn rfl ?_
                refine wl_v 10 rfl (v_move rfl) gn rfl ?_
                by_cases hp367 : (x19.length : Int) = w64 ((x1.terms.length : Int) + (x1.syms.length : Int))
                · have h := if_pos' hp367 h
                  refine w_bool 84 rfl ((eqib hp367)) ?_
                  refine wl_v 11 rfl (v_ldB [.slice A2 n3 c4, .slice A6 n7 c8, .slice A10 n11 c12] 2 ld_26 rfl rfl rfl rfl) (gy 84 rfl rfl) rfl ?_
                  refine wl_v 12 rfl (v_move rfl) (gy 84 rfl rfl) rfl ?_
                  refine wl_v 13 rfl (v_move rfl) (gy 84 rfl rfl) rfl ?_
                  obtain ⟨r371, hv372, h⟩ := h
                  refine wl_s 14 rfl (s_call [.agg #[.slice A2 n3 c4, .slice A6 n7 c8, .slice A10 n11 c12], .slice A15 n16 c17, .slice A20 n21 c22] rfl Try.func24 rfl rfl rfl fun w368 hL369 => ?_) (gy 84 rfl rfl)
                  have hp370 : List.Perm ([.own (.slice A53 n54 c55) 29 1 n54 (r51.flatMap (eI .u64)), .own (.slice A40 n41 c42) 4 1 n41 (r38.flatMap eB), .box gb24 26 [.slice A2 n3 c4, .slice A6 n7 c8, .slice A10 n11 c12]] : List Ent) (([] : List Ent) ++ ([.own (.slice A53 n54 c55) 29 1 n54 (r51.flatMap (eI .u64)), .own (.slice A40 n41 c42) 4 1 n41 (r38.flatMap eB), .box gb24 26 [.slice A2 n3 c4, .slice A6 n7 c8, .slice A10 n11 c12]] : List Ent)) := perm_of_idx [] [0, 1, 2] rfl rfl (by kernel_rfl)
                  refine Calls.mono (trellislaw11_closed_calls w368 (Fl ([] : List Snap)) x1 x14 x19 A2 n3 c4 A6 n7 c8 A10 n11 c12 A15 n16 c17 A20 n21 c22 (Rw.mono h5 (hL369.toSt hp370 (me 1 rfl))) (Rw.mono h9 (hL369.toSt hp370 (me 1 rfl))) (Rw.mono h13 (hL369.toSt hp370 (me 1 rfl))) (Rw.mono h18 (hL369.toSt hp370 (me 1 rfl))) (Rw.mono h23 (hL369.toSt hp370 (me 1 rfl))) (hL369.hFl (Sl := ([] : List Snap)) hp370 (sels [] rfl)) (hL369.into hp370 (Fl ([] : List Snap))) r371 hv372) ?_
                  rintro _ w373 ⟨rfl, hM374⟩
                  have hL375 := hL369.call hp370 hM374
                  refine ⟨_, _, _, rfl, hL375, ?_⟩
                  refine wl_v 15 rfl (v_not rfl) (gy 84 rfl rfl) rfl ?_
                  refine wl_v 16 rfl (v_pick (b := false) rfl rfl) gn rfl ?_
                  refine w_end 17 rfl ?_
                  exact g_go [0, 1] (j3 (!r371) h) ⟨rfl, rfl, rfl, rfl, rfl, rfl, trivial⟩ (.cons_cons _ (.cons_cons _ (.cons _ (.slnil)))) rfl
                · have h := if_neg' hp367 h
                  refine w_bool 84 rfl ((neib hp367)) ?_
                  refine wl_pass 11 rfl (ps 84 rfl rfl rfl) ?_
                  refine wl_pass 12 rfl (ps 84 rfl rfl rfl) ?_
                  refine wl_pass 13 rfl (ps 84 rfl rfl rfl) ?_
                  refine wl_pass 14 rfl (ps 84 rfl rfl rfl) ?_
                  refine wl_pass 15 rfl (ps 84 rfl rfl rfl) ?_
                  refine wl_v 16 rfl (v_pick (b := true) rfl rfl) gn rfl ?_
                  refine w_end 17 rfl ?_
                  exact g_go [0, 1] (j3 true h) ⟨rfl, rfl, rfl, rfl, rfl, rfl, trivial⟩ (.cons_cons _ (.cons_cons _ (.cons _ (.slnil)))) rfl
              · have h := if_neg' hp366 h
                refine w_bool 78 rfl ((neib hp366)) ?_
                refine wl_pass 5 rfl (ps 78 rfl rfl rfl) ?_
                refine wl_pass 6 rfl (ps 78 rfl rfl rfl) ?_
                refine wl_pass 7 rfl (ps 78 rfl rfl rfl) ?_
                refine wl_pass 8 rfl (ps 78 rfl rfl rfl) ?_
                refine wl_v 9 rfl (v_pick (b := true) rfl rfl) gn rfl ?_
                refine wl_v 10 rfl (v_move rfl) gn rfl ?_
                refine wl_pass 11 rfl (ps 84 rfl rfl rfl) ?_
                refine wl_pass 12 rfl (ps 84 rfl rfl rfl) ?_
                refine wl_pass 13 rfl (ps 84 rfl rfl rfl) ?_
                refine wl_pass 14 rfl (ps 84 rfl rfl rfl) ?_
                refine wl_pass 15 rfl (ps 84 rfl rfl rfl) ?_
                refine wl_v 16 rfl (v_pick (b := true) rfl rfl) gn rfl ?_
                refine w_end 17 rfl ?_
                exact g_go [0, 1] (j3 true h) ⟨rfl, rfl, rfl, rfl, rfl, rfl, trivial⟩ (.cons_cons _ (.cons_cons _ (.cons _ (.slnil)))) rfl
          exact g_go [0, 1] (key2 _ h ()) ⟨rfl, rfl, rfl, rfl, rfl, rfl, rfl, trivial⟩ (.cons_cons _ (.cons_cons _ (.cons_cons _ (.slnil)))) rfl
      refine g_region (c := trellislaw11_FirstLeast_c23) rfl rfl ?_
      refine wl_v 0 rfl (v_move rfl) gn rfl ?_
      refine wl_v 1 rfl (v_lenQ un_40 rfl (Ow.weak hL36.env.size h43).hq) gn rfl ?_
      refine wl_v 2 rfl (v_move rfl) gn rfl ?_
      refine wl_v 3 rfl (v_bin rfl rfl rfl) gn rfl ?_
      refine wl_v 4 rfl (v_move rfl) gn rfl ?_
      by_cases hp376 : (r38.length : Int) = w64 ((x1.terms.length : Int) + (x1.syms.length : Int))
      · have h := if_pos' hp376 h
        refine w_bool 40 rfl ((eqib hp376)) ?_
        refine wl_v 5 rfl (v_move rfl) (gy 40 rfl rfl) rfl ?_
        refine wl_v 6 rfl (v_lenQ un_42 rfl (Ow.weak hL49.env.size h56).hq) (gy 40 rfl rfl) rfl ?_
        refine wl_v 7 rfl (v_move rfl) (gy 40 rfl rfl) rfl ?_
        refine wl_v 8 rfl (v_bin rfl rfl rfl) (gy 40 rfl rfl) rfl ?_
        refine wl_v 9 rfl (v_pick (b := false) rfl rfl) gn rfl ?_
        refine wl_v 10 rfl (v_move rfl) gn rfl ?_
        by_cases hp377 : (r51.length : Int) = w64 ((x1.terms.length : Int) + (x1.syms.length : Int))
        · have h := if_pos' hp377 h
          refine w_bool 46 rfl ((eqib hp377)) ?_
          refine wl_v 11 rfl (v_ldB [.slice A2 n3 c4, .slice A6 n7 c8, .slice A10 n11 c12] 2 ld_26 rfl rfl rfl rfl) (gy 46 rfl rfl) rfl ?_
          refine wl_v 12 rfl (v_move rfl) (gy 46 rfl rfl) rfl ?_
          refine wl_v 13 rfl (v_move rfl) (gy 46 rfl rfl) rfl ?_
          obtain ⟨r381, hv382, h⟩ := h
          refine wl_s 14 rfl (s_call [.agg #[.slice A2 n3 c4, .slice A6 n7 c8, .slice A10 n11 c12], .slice A40 n41 c42, .slice A53 n54 c55] rfl Try.func24 rfl rfl rfl fun w378 hL379 => ?_) (gy 46 rfl rfl)
          have hp380 : List.Perm ([.own (.slice A53 n54 c55) 29 1 n54 (r51.flatMap (eI .u64)), .own (.slice A40 n41 c42) 4 1 n41 (r38.flatMap eB), .box gb24 26 [.slice A2 n3 c4, .slice A6 n7 c8, .slice A10 n11 c12]] : List Ent) (([] : List Ent) ++ ([.own (.slice A53 n54 c55) 29 1 n54 (r51.flatMap (eI .u64)), .own (.slice A40 n41 c42) 4 1 n41 (r38.flatMap eB), .box gb24 26 [.slice A2 n3 c4, .slice A6 n7 c8, .slice A10 n11 c12]] : List Ent)) := perm_of_idx [] [0, 1, 2] rfl rfl (by kernel_rfl)
          refine Calls.mono (trellislaw11_closed_calls w378 (Fl ([] : List Snap)) x1 r38 r51 A2 n3 c4 A6 n7 c8 A10 n11 c12 A40 n41 c42 A53 n54 c55 (Rw.mono h5 (hL379.toSt hp380 (me 1 rfl))) (Rw.mono h9 (hL379.toSt hp380 (me 1 rfl))) (Rw.mono h13 (hL379.toSt hp380 (me 1 rfl))) (hL379.argO (dk := kBool) hp380 [] rfl 1 rfl rfl (Ow.weak hL36.env.size h43) (me 0 rfl) (Cells.flat _)) (hL379.argO (dk := (kInt .u64)) hp380 [] rfl 0 rfl rfl (Ow.weak hL49.env.size h56) (me 0 rfl) (Cells.flat _)) (hL379.hFl (Sl := ([] : List Snap)) hp380 (sels [] rfl)) (hL379.into hp380 (Fl ([] : List Snap))) r381 hv382) ?_
          rintro _ w383 ⟨rfl, hM384⟩
          have hL385 := hL379.call hp380 hM384
          refine ⟨_, _, _, rfl, hL385, ?_⟩
          refine wl_v 15 rfl (v_not rfl) (gy 46 rfl rfl) rfl ?_
          refine wl_v 16 rfl (v_pick (b := false) rfl rfl) gn rfl ?_
          refine w_end 17 rfl ?_
          exact g_go [0, 1] (j1 (!r381) h) ⟨rfl, rfl, rfl, rfl, rfl, rfl, rfl, trivial⟩ (.cons_cons _ (.cons_cons _ (.cons_cons _ (.slnil)))) rfl
        · have h := if_neg' hp377 h
          refine w_bool 46 rfl ((neib hp377)) ?_
          refine wl_pass 11 rfl (ps 46 rfl rfl rfl) ?_
          refine wl_pass 12 rfl (ps 46 rfl rfl rfl) ?_
          refine wl_pass 13 rfl (ps 46 rfl rfl rfl) ?_
          refine wl_pass 14 rfl (ps 46 rfl rfl rfl) ?_
          refine wl_pass 15 rfl (ps 46 rfl rfl rfl) ?_
          refine wl_v 16 rfl (v_pick (b := true) rfl rfl) gn rfl ?_
          refine w_end 17 rfl ?_
          exact g_go [0, 1] (j1 true h) ⟨rfl, rfl, rfl, rfl, rfl, rfl, rfl, trivial⟩ (.cons_cons _ (.cons_cons _ (.cons_cons _ (.slnil)))) rfl
      · have h := if_neg' hp376 h
        refine w_bool 40 rfl ((neib hp376)) ?_
        refine wl_pass 5 rfl (ps 40 rfl rfl rfl) ?_
        refine wl_pass 6 rfl (ps 40 rfl rfl rfl) ?_
        refine wl_pass 7 rfl (ps 40 rfl rfl rfl) ?_
        refine wl_pass 8 rfl (ps 40 rfl rfl rfl) ?_
        refine wl_v 9 rfl (v_pick (b := true) rfl rfl) gn rfl ?_
        refine wl_v 10 rfl (v_move rfl) gn rfl ?_
        refine wl_pass 11 rfl (ps 46 rfl rfl rfl) ?_
        refine wl_pass 12 rfl (ps 46 rfl rfl rfl) ?_
        refine wl_pass 13 rfl (ps 46 rfl rfl rfl) ?_
        refine wl_pass 14 rfl (ps 46 rfl rfl rfl) ?_
        refine wl_pass 15 rfl (ps 46 rfl rfl rfl) ?_
        refine wl_v 16 rfl (v_pick (b := true) rfl rfl) gn rfl ?_
        refine w_end 17 rfl ?_
        exact g_go [0, 1] (j1 true h) ⟨rfl, rfl, rfl, rfl, rfl, rfl, rfl, trivial⟩ (.cons_cons _ (.cons_cons _ (.cons_cons _ (.slnil)))) rfl
    · have h := if_neg' hp69 h
      refine g_true (c := trellislaw11_FirstLeast_c16) rfl _ rfl ((nt (bf hp69))) ?_
      refine g_seq (c := trellislaw11_FirstLeast_c17) rfl ?_
      have j5 : ∀ (x388 : Bool) (h : trellislaw11_FirstLeast_j5 x388 r) , G (trellislaw11_FirstLeast_C w F r) [.code trellislaw11_FirstLeast_c82, .code trellislaw11_FirstLeast_c14] [(6, .bool x388)] [] [Sm w.heap.size F w [], St w []] := by
        intro x388 h
        unfold trellislaw11_FirstLeast_j5 at h
        refine g_retR (c := trellislaw11_FirstLeast_c82) [.bool x388] rfl Try.func5 rfl (.tmp rfl (.nil)) fun wr hLr => ?_
        have hMr : B.Loc w wr [] [St w []] := hLr.pick (rest := []) (perm_of_idx [] [] rfl rfl (by kernel_rfl)) (sels [1] rfl)
        have hMi : ∀ e ∈ ([] : List Ent), e ∈ ([] : List Ent) := sels [] rfl
        show trellislaw11_FirstLeast_R w F  r (.returned (packV [.bool x388])) wr
        rw [h]
        exact ⟨rfl, hMr⟩
      refine g_region (c := trellislaw11_FirstLeast_c81) rfl rfl ?_
      refine wl_v 0 rfl (v_move rfl) gn rfl ?_
      refine wl_v 1 rfl (v_lenQ un_40 rfl (Ow.weak hL36.env.size h43).hq) gn rfl ?_
      refine wl_v 2 rfl (v_bin rfl rfl rfl) gn rfl ?_
      refine wl_v 3 rfl (v_move rfl) gn rfl ?_
      by_cases hp389 : (r38.length : Int) = 0
      · have h := if_pos' hp389 h
        refine w_bool 24 rfl ((eqi hp389)) ?_
        refine wl_v 4 rfl (v_move rfl) (gy 24 rfl rfl) rfl ?_
        refine wl_v 5 rfl (v_lenQ un_42 rfl (Ow.weak hL49.env.size h56).hq) (gy 24 rfl rfl) rfl ?_
        refine wl_v 6 rfl (v_bin rfl rfl rfl) (gy 24 rfl rfl) rfl ?_
        refine wl_v 7 rfl (v_pick (b := true) rfl rfl) gn rfl ?_
        refine wl_v 8 rfl (v_assign rfl) gn rfl ?_
        refine w_end 9 rfl ?_
        exact g_go [0, 1] (j5 ((r51.length : Int) == 0) h) ⟨rfl, trivial⟩ (.cons _ (.cons _ (.cons _ (.slnil)))) rfl
      · have h := if_neg' hp389 h
        refine w_bool 24 rfl ((nei hp389)) ?_
        refine wl_pass 4 rfl (ps 24 rfl rfl rfl) ?_
        refine wl_pass 5 rfl (ps 24 rfl rfl rfl) ?_
        refine wl_pass 6 rfl (ps 24 rfl rfl rfl) ?_
        refine wl_v 7 rfl (v_pick (b := false) rfl rfl) gn rfl ?_
        refine wl_v 8 rfl (v_assign rfl) gn rfl ?_
        refine w_end 9 rfl ?_
        exact g_go [0, 1] (j5 false h) ⟨rfl, trivial⟩ (.cons _ (.cons _ (.cons _ (.slnil)))) rfl
  · have h := if_neg' hp34 h
    refine g_true (c := trellislaw11_FirstLeast_c6) rfl _ rfl ((nt (bf hp34))) ?_
    refine g_seq (c := trellislaw11_FirstLeast_c7) rfl ?_
    refine g_region (c := trellislaw11_FirstLeast_c83) rfl rfl ?_
    refine wl_v 0 rfl (v_assign rfl) gn rfl ?_
    refine w_end 1 rfl ?_
    refine g_retR (c := trellislaw11_FirstLeast_c84) [.bool false] rfl Try.func5 rfl (.tmp rfl (.nil)) fun wr hLr => ?_
    have hMr : B.Loc w wr [] [St w []] := hLr.pick (rest := [.box gb24 26 [.slice A2 n3 c4, .slice A6 n7 c8, .slice A10 n11 c12]]) (perm_of_idx [] [0] rfl rfl (by kernel_rfl)) (sels [1] rfl)
    have hMi : ∀ e ∈ ([] : List Ent), e ∈ ([.box gb24 26 [.slice A2 n3 c4, .slice A6 n7 c8, .slice A10 n11 c12]] : List Ent) := sels [] rfl
    show trellislaw11_FirstLeast_R w F  r (.returned (packV [.bool false])) wr
    rw [h]
    exact ⟨rfl, hMr⟩
noncomputable abbrev trellislaw11_mod_c0 : Code := bodyOf Try.f38
noncomputable abbrev trellislaw11_mod_c1 : Code := Code.fst trellislaw11_mod_c0
noncomputable abbrev trellislaw11_mod_c2 : Code := Code.snd trellislaw11_mod_c0
noncomputable abbrev trellislaw11_mod_c3 : Code := Code.fst trellislaw11_mod_c2
noncomputable abbrev trellislaw11_mod_c4 : Code := Code.snd trellislaw11_mod_c2
noncomputable abbrev trellislaw11_mod_c5 : Code := Code.fst trellislaw11_mod_c4
noncomputable abbrev trellislaw11_mod_c6 : Code := Code.snd trellislaw11_mod_c4
noncomputable abbrev trellislaw11_mod_c7 : Code := Code.fst trellislaw11_mod_c5
noncomputable abbrev trellislaw11_mod_c8 : Code := Code.snd trellislaw11_mod_c5
noncomputable abbrev trellislaw11_mod_c9 : Code := Code.fst trellislaw11_mod_c8
noncomputable abbrev trellislaw11_mod_c10 : Code := Code.snd trellislaw11_mod_c8
noncomputable abbrev trellislaw11_mod_c11 : Code := Code.fst trellislaw11_mod_c6
noncomputable abbrev trellislaw11_mod_c12 : Code := Code.snd trellislaw11_mod_c6
abbrev trellislaw11_mod_R (w : World) (F : Nat → Prop) (r : Int) : Ending → World → Prop := fun e w' => e = .returned (.int .i64 r) ∧ B.Loc w w' [] [St w []]
noncomputable abbrev trellislaw11_mod_C (w : World) (F : Nat → Prop) (r : Int) : Cx := ⟨Try.prog, 38, Try.f38, 15, trellislaw11_mod_R w F  r, w⟩
theorem trellislaw11_mod_calls (w : World) (F : Nat → Prop) (x1 : Int) (x2 : Int) (hF : ∀ b, F b → b < w.heap.size ∧ ∀ o ∈ ([] : List (List Nat)), b ∉ o) (hL0 : B.Loc w w [] [Sm w.heap.size F w [], St w []]) (r : Int) (h : trellislaw11_mod x1 x2 r) : Calls Try.prog 38 #[.int .i64 x1, .int .i64 x2] w (trellislaw11_mod_R w F  r) := by
  unfold trellislaw11_mod at h
  refine calls_of_Loc (vs := [.int .i64 x1, .int .i64 x2]) 15 Try.func38 rfl Try.ntmps38 rfl hL0 ?_
  show G (trellislaw11_mod_C w F r) _ _ _ _
  refine g_seq (c := trellislaw11_mod_c0) rfl ?_
  refine g_region (c := trellislaw11_mod_c1) rfl rfl ?_
  refine wl_v 0 rfl (v_assign rfl) gn rfl ?_
  refine w_end 1 rfl ?_
  refine g_seq (c := trellislaw11_mod_c2) rfl ?_
  refine g_region (c := trellislaw11_mod_c3) rfl rfl ?_
  refine wl_v 0 rfl (v_move rfl) gn rfl ?_
  refine wl_v 1 rfl (v_move rfl) gn rfl ?_
  obtain ⟨hb3, h⟩ := h
  refine wl_v 2 rfl (v_rem rfl rfl hb3) gn rfl ?_
  refine wl_v 3 rfl (v_assign rfl) gn rfl ?_
  refine w_end 4 rfl ?_
  refine g_seq (c := trellislaw11_mod_c4) rfl ?_
  refine g_seq (c := trellislaw11_mod_c5) rfl ?_
  refine g_region (c := trellislaw11_mod_c7) rfl rfl ?_
  refine wl_v 0 rfl (v_move rfl) gn rfl ?_
  refine wl_v 1 rfl (v_bin rfl rfl rfl) gn rfl ?_
  refine w_end 2 rfl ?_
  by_cases hp4 : Int.tmod x1 x2 < 0
  · have h := if_pos' hp4 h
    refine g_true (c := trellislaw11_mod_c8) rfl _ rfl ((decide_eq_true hp4)) ?_
    refine g_region (c := trellislaw11_mod_c9) rfl rfl ?_
    refine wl_v 0 rfl (v_move rfl) gn rfl ?_
    refine wl_v 1 rfl (v_move rfl) gn rfl ?_
    refine wl_v 2 rfl (v_bin rfl rfl rfl) gn rfl ?_
    refine wl_v 3 rfl (v_assign rfl) gn rfl ?_
    refine w_end 4 rfl ?_
    refine g_seq (c := trellislaw11_mod_c6) rfl ?_
    refine g_region (c := trellislaw11_mod_c11) rfl rfl ?_
    refine wl_v 0 rfl (v_move rfl) gn rfl ?_
    refine wl_v 1 rfl (v_assign rfl) gn rfl ?_
    refine w_end 2 rfl ?_
    refine g_retR (c := trellislaw11_mod_c12) [.int .i64 (w64 ((Int.tmod x1 x2) + x2))] rfl Try.func38 rfl (.tmp rfl (.nil)) fun wr hLr => ?_
    have hMr : B.Loc w wr [] [St w []] := hLr.pick (rest := []) (perm_of_idx [] [] rfl rfl (by kernel_rfl)) (sels [1] rfl)
    have hMi : ∀ e ∈ ([] : List Ent), e ∈ ([] : List Ent) := sels [] rfl
    show trellislaw11_mod_R w F  r (.returned (packV [.int .i64 (w64 ((Int.tmod x1 x2) + x2))])) wr
    rw [h]
    exact ⟨rfl, hMr⟩
  · have h := if_neg' hp4 h
    refine g_false (c := trellislaw11_mod_c8) rfl _ rfl ((decide_eq_false hp4)) ?_
    refine g_skip (c := trellislaw11_mod_c10) rfl ?_
    refine g_seq (c := trellislaw11_mod_c6) rfl ?_
    refine g_region (c := trellislaw11_mod_c11) rfl rfl ?_
    refine wl_v 0 rfl (v_move rfl) gn rfl ?_
    refine wl_v 1 rfl (v_assign rfl) gn rfl ?_
    refine w_end 2 rfl ?_
    refine g_retR (c := trellislaw11_mod_c12) [.int .i64 (Int.tmod x1 x2)] rfl Try.func38 rfl (.tmp rfl (.nil)) fun wr hLr => ?_
    have hMr : B.Loc w wr [] [St w []] := hLr.pick (rest := []) (perm_of_idx [] [] rfl rfl (by kernel_rfl)) (sels [1] rfl)
    have hMi : ∀ e ∈ ([] : List Ent), e ∈ ([] : List Ent) := sels [] rfl
    show trellislaw11_mod_R w F  r (.returned (packV [.int .i64 (Int.tmod x1 x2)])) wr
    rw [h]
    exact ⟨rfl, hMr⟩
noncomputable abbrev trellislaw11_replaced_c0 : Code := bodyOf Try.f26
noncomputable abbrev trellislaw11_replaced_c1 : Code := Code.fst trellislaw11_replaced_c0
noncomputable abbrev trellislaw11_replaced_c2 : Code := Code.snd trellislaw11_replaced_c0
noncomputable abbrev trellislaw11_replaced_c3 : Code := Code.fst trellislaw11_replaced_c2
noncomputable abbrev trellislaw11_replaced_c4 : Code := Code.snd trellislaw11_replaced_c2
noncomputable abbrev trellislaw11_replaced_c5 : Code := Code.fst trellislaw11_replaced_c3
noncomputable abbrev trellislaw11_replaced_c6 : Code := Code.snd trellislaw11_replaced_c3
noncomputable abbrev trellislaw11_replaced_c7 : Code := Code.fst trellislaw11_replaced_c6
noncomputable abbrev trellislaw11_replaced_c8 : Code := Code.snd trellislaw11_replaced_c6
noncomputable abbrev trellislaw11_replaced_c9 : Code := Code.fst trellislaw11_replaced_c7
noncomputable abbrev trellislaw11_replaced_c10 : Code := Code.snd trellislaw11_replaced_c7
noncomputable abbrev trellislaw11_replaced_c11 : Code := Code.fst trellislaw11_replaced_c4
noncomputable abbrev trellislaw11_replaced_c12 : Code := Code.snd trellislaw11_replaced_c4
noncomputable abbrev trellislaw11_replaced_c13 : Code := Code.fst trellislaw11_replaced_c12
noncomputable abbrev trellislaw11_replaced_c14 : Code := Code.snd trellislaw11_replaced_c12
noncomputable abbrev trellislaw11_replaced_c15 : Code := Code.fst trellislaw11_replaced_c14
noncomputable abbrev trellislaw11_replaced_c16 : Code := Code.snd trellislaw11_replaced_c14
noncomputable abbrev trellislaw11_replaced_c17 : Code := Code.fst trellislaw11_replaced_c15
noncomputable abbrev trellislaw11_replaced_c18 : Code := Code.snd trellislaw11_replaced_c15
noncomputable abbrev trellislaw11_replaced_c19 : Code := Code.fst trellislaw11_replaced_c18
noncomputable abbrev trellislaw11_replaced_c20 : Code := Code.snd trellislaw11_replaced_c18
noncomputable abbrev trellislaw11_replaced_c21 : Code := Code.fst trellislaw11_replaced_c19
noncomputable abbrev trellislaw11_replaced_c22 : Code := Code.snd trellislaw11_replaced_c19
noncomputable abbrev trellislaw11_replaced_c23 : Code := Code.fst trellislaw11_replaced_c16
noncomputable abbrev trellislaw11_replaced_c24 : Code := Code.snd trellislaw11_replaced_c16
noncomputable abbrev trellislaw11_replaced_c25 : Code := Code.fst trellislaw11_replaced_c24
noncomputable abbrev trellislaw11_replaced_c26 : Code := Code.snd trellislaw11_replaced_c24
noncomputable abbrev trellislaw11_replaced_c27 : Code := Code.fst trellislaw11_replaced_c25
noncomputable abbrev trellislaw11_replaced_c28 : Code := Code.snd trellislaw11_replaced_c25
noncomputable abbrev trellislaw11_replaced_c29 : Code := Code.fst trellislaw11_replaced_c28
noncomputable abbrev trellislaw11_replaced_c30 : Code := Code.fst trellislaw11_replaced_c29
noncomputable abbrev trellislaw11_replaced_c31 : Code := Code.fst trellislaw11_replaced_c30
noncomputable abbrev trellislaw11_replaced_c32 : Code := Code.snd trellislaw11_replaced_c30
noncomputable abbrev trellislaw11_replaced_c33 : Code := Code.fst trellislaw11_replaced_c31
noncomputable abbrev trellislaw11_replaced_c34 : Code := Code.snd trellislaw11_replaced_c31
noncomputable abbrev trellislaw11_replaced_c35 : Code := Code.fst trellislaw11_replaced_c34
noncomputable abbrev trellislaw11_replaced_c36 : Code := Code.snd trellislaw11_replaced_c34
noncomputable abbrev trellislaw11_replaced_c37 : Code := Code.fst trellislaw11_replaced_c32
noncomputable abbrev trellislaw11_replaced_c38 : Code := Code.snd trellislaw11_replaced_c32
noncomputable abbrev trellislaw11_replaced_c39 : Code := Code.fst trellislaw11_replaced_c37
noncomputable abbrev trellislaw11_replaced_c40 : Code := Code.fst trellislaw11_replaced_c26
noncomputable abbrev trellislaw11_replaced_c41 : Code := Code.snd trellislaw11_replaced_c26
noncomputable abbrev trellislaw11_replaced_c42 : Code := Code.fst trellislaw11_replaced_c40
noncomputable abbrev trellislaw11_replaced_c43 : Code := Code.snd trellislaw11_replaced_c40
noncomputable abbrev trellislaw11_replaced_c44 : Code := Code.fst trellislaw11_replaced_c43
noncomputable abbrev trellislaw11_replaced_c45 : Code := Code.fst trellislaw11_replaced_c44
noncomputable abbrev trellislaw11_replaced_c46 : Code := Code.fst trellislaw11_replaced_c45
noncomputable abbrev trellislaw11_replaced_c47 : Code := Code.snd trellislaw11_replaced_c45
noncomputable abbrev trellislaw11_replaced_c48 : Code := Code.fst trellislaw11_replaced_c46
noncomputable abbrev trellislaw11_replaced_c49 : Code := Code.snd trellislaw11_replaced_c46
noncomputable abbrev trellislaw11_replaced_c50 : Code := Code.fst trellislaw11_replaced_c49
noncomputable abbrev trellislaw11_replaced_c51 : Code := Code.snd trellislaw11_replaced_c49
noncomputable abbrev trellislaw11_replaced_c52 : Code := Code.fst trellislaw11_replaced_c47
noncomputable abbrev trellislaw11_replaced_c53 : Code := Code.snd trellislaw11_replaced_c47
noncomputable abbrev trellislaw11_replaced_c54 : Code := Code.fst trellislaw11_replaced_c52
noncomputable abbrev trellislaw11_replaced_c55 : Code := Code.fst trellislaw11_replaced_c41
noncomputable abbrev trellislaw11_replaced_c56 : Code := Code.snd trellislaw11_replaced_c41
noncomputable abbrev trellislaw11_replaced_c57 : Code := Code.fst trellislaw11_replaced_c55
noncomputable abbrev trellislaw11_replaced_c58 : Code := Code.snd trellislaw11_replaced_c55
noncomputable abbrev trellislaw11_replaced_c59 : Code := Code.fst trellislaw11_replaced_c58
noncomputable abbrev trellislaw11_replaced_c60 : Code := Code.fst trellislaw11_replaced_c59
noncomputable abbrev trellislaw11_replaced_c61 : Code := Code.fst trellislaw11_replaced_c60
noncomputable abbrev trellislaw11_replaced_c62 : Code := Code.snd trellislaw11_replaced_c60
noncomputable abbrev trellislaw11_replaced_c63 : Code := Code.fst trellislaw11_replaced_c61
noncomputable abbrev trellislaw11_replaced_c64 : Code := Code.snd trellislaw11_replaced_c61
noncomputable abbrev trellislaw11_replaced_c65 : Code := Code.fst trellislaw11_replaced_c64
noncomputable abbrev trellislaw11_replaced_c66 : Code := Code.snd trellislaw11_replaced_c64
noncomputable abbrev trellislaw11_replaced_c67 : Code := Code.fst trellislaw11_replaced_c62
noncomputable abbrev trellislaw11_replaced_c68 : Code := Code.snd trellislaw11_replaced_c62
noncomputable abbrev trellislaw11_replaced_c69 : Code := Code.fst trellislaw11_replaced_c67
noncomputable abbrev trellislaw11_replaced_c70 : Code := Code.fst trellislaw11_replaced_c56
noncomputable abbrev trellislaw11_replaced_c71 : Code := Code.snd trellislaw11_replaced_c56
abbrev trellislaw11_replaced_R (w : World) (F : Nat → Prop) (r : List api_Ref) : Ending → World → Prop := fun e w' => ∃ A0 : Option Addr, ∃ n0 : Nat, ∃ c0 : Nat, e = .returned (.slice A0 n0 c0) ∧ B.Loc w w' [] [St w []] ∧ Rw k_api_Ref w' (Nw w w' F []) A0 n0 c0 r
noncomputable abbrev trellislaw11_replaced_C (w : World) (F : Nat → Prop) (r : List api_Ref) : Cx := ⟨Try.prog, 26, Try.f26, 108, trellislaw11_replaced_R w F  r, w⟩
theorem trellislaw11_replaced_calls (w : World) (F : Nat → Prop) (x1 : api_Gram) (x14 : List api_Ref) (x19 : trellislaw11_Replace) (A2 : Option Addr) (n3 : Nat) (c4 : Nat) (A6 : Option Addr) (n7 : Nat) (c8 : Nat) (A10 : Option Addr) (n11 : Nat) (c12 : Nat) (A15 : Option Addr) (n16 : Nat) (c17 : Nat) (h5 : Rw k_api_TermDef w (St w []).av A2 n3 c4 x1.terms) (h9 : Rw k_api_Sym w (St w []).av A6 n7 c8 x1.syms) (h13 : Rw k_api_Prod w (St w []).av A10 n11 c12 x1.prods) (h18 : Rw k_api_Ref w F A15 n16 c17 x14) (hF : ∀ b, F b → b < w.heap.size ∧ ∀ o ∈ ([] : List (List Nat)), b ∉ o) (hL0 : B.Loc w w [] [Sm w.heap.size F w [], St w []]) (r : List api_Ref) (h : trellislaw11_replaced x1 x14 x19 r) : Calls Try.prog 26 #[.agg #[.slice A2 n3 c4, .slice A6 n7 c8, .slice A10 n11 c12], .slice A15 n16 c17, .agg #[.int .i64 x19.at_, .int .i64 x19.prod]] w (trellislaw11_replaced_R w F  r) := by
  unfold trellislaw11_replaced at h
  have h18 := Rw.into (bs := []) hF h18
  refine calls_of_Loc (vs := [.agg #[.slice A2 n3 c4, .slice A6 n7 c8, .slice A10 n11 c12], .slice A15 n16 c17, .agg #[.int .i64 x19.at_, .int .i64 x19.prod]]) 108 Try.func26 rfl Try.ntmps26 rfl hL0 ?_
  show G (trellislaw11_replaced_C w F r) _ _ _ _
  refine g_seq (c := trellislaw11_replaced_c0) rfl ?_
  refine g_region (c := trellislaw11_replaced_c1) rfl rfl ?_
  refine wl_s 0 rfl (s_box [.slice A2 n3 c4, .slice A6 n7 c8, .slice A10 n11 c12] rfl rfl rfl fun gb20 => ?_) gn
  refine wl_s 1 rfl (s_box [.int .i64 x19.at_, .int .i64 x19.prod] rfl rfl rfl fun gb22 => ?_) gn
  refine wl_v 2 rfl (v_assign rfl) gn rfl ?_
  refine w_end 3 rfl ?_
  refine g_seq (c := trellislaw11_replaced_c2) rfl ?_
  refine g_seq (c := trellislaw11_replaced_c3) rfl ?_
  have j1 : ∀ (x26 : Bool) (h : trellislaw11_replaced_j1 x14 x19 x1 x26 r) , G (trellislaw11_replaced_C w F r) [.code trellislaw11_replaced_c6, .code trellislaw11_replaced_c4] [(1, .slice A15 n16 c17), (3, .pointer (some ⟨gb20, 0, none⟩)), (5, .pointer (some ⟨gb22, 0, none⟩)), (21, .bool x26)] [.box gb22 54 [.int .i64 x19.at_, .int .i64 x19.prod], .box gb20 26 [.slice A2 n3 c4, .slice A6 n7 c8, .slice A10 n11 c12]] [Sm w.heap.size F w [], St w []] := by
    intro x26 h
    unfold trellislaw11_replaced_j1 at h
    by_cases hp27 : x26 = true
    · have h := if_pos' hp27 h
      refine g_true (c := trellislaw11_replaced_c6) rfl _ rfl (hp27) ?_
      refine g_seq (c := trellislaw11_replaced_c7) rfl ?_
      refine g_region (c := trellislaw11_replaced_c9) rfl rfl ?_
      refine wl_v 0 rfl (v_move rfl) gn rfl ?_
      refine wl_v 1 rfl (v_assign rfl) gn rfl ?_
      refine w_end 2 rfl ?_
      refine g_retR (c := trellislaw11_replaced_c10) [.slice A15 n16 c17] rfl Try.func26 rfl (.tmp rfl (.nil)) fun wr hLr => ?_
      have hMr : B.Loc w wr [] [St w []] := hLr.pick (rest := [.box gb22 54 [.int .i64 x19.at_, .int .i64 x19.prod], .box gb20 26 [.slice A2 n3 c4, .slice A6 n7 c8, .slice A10 n11 c12]]) (perm_of_idx [] [0, 1] rfl rfl (by kernel_rfl)) (sels [1] rfl)
      have hMi : ∀ e ∈ ([] : List Ent), e ∈ ([.box gb22 54 [.int .i64 x19.at_, .int .i64 x19.prod], .box gb20 26 [.slice A2 n3 c4, .slice A6 n7 c8, .slice A10 n11 c12]] : List Ent) := sels [] rfl
      show trellislaw11_replaced_R w F  r (.returned (packV [.slice A15 n16 c17])) wr
      rw [h]
      exact ⟨A15, n16, c17, rfl, hMr, (hLr.outR (s := Sm w.heap.size F w []) hMi (me 0 rfl) Sm.ok h18)⟩
    · have h := if_neg' hp27 h
      refine g_false (c := trellislaw11_replaced_c6) rfl _ rfl ((bf hp27)) ?_
      refine g_skip (c := trellislaw11_replaced_c8) rfl ?_
      refine g_seq (c := trellislaw11_replaced_c4) rfl ?_
      refine g_region (c := trellislaw11_replaced_c11) rfl rfl ?_
      refine wl_v 0 rfl (v_fldB fo_54_0 rfl) gn rfl ?_
      refine wl_v 1 rfl (v_ldB1 0 ld_3 rfl rfl rfl) gn rfl ?_
      refine wl_v 2 rfl (v_move rfl) gn rfl ?_
      refine wl_v 3 rfl (v_lenQ un_27 rfl h18.hq) gn rfl ?_
      obtain ⟨r31, hv32, h⟩ := h
      refine wl_s 4 rfl (s_call [.int .i64 x19.at_, .int .i64 (x14.length : Int)] rfl Try.func38 rfl rfl rfl fun w28 hL29 => ?_) gn
      have hp30 : List.Perm ([.box gb22 54 [.int .i64 x19.at_, .int .i64 x19.prod], .box gb20 26 [.slice A2 n3 c4, .slice A6 n7 c8, .slice A10 n11 c12]] : List Ent) (([] : List Ent) ++ ([.box gb22 54 [.int .i64 x19.at_, .int .i64 x19.prod], .box gb20 26 [.slice A2 n3 c4, .slice A6 n7 c8, .slice A10 n11 c12]] : List Ent)) := perm_of_idx [] [0, 1] rfl rfl (by kernel_rfl)
      refine Calls.mono (trellislaw11_mod_calls w28 (Fl ([] : List Snap)) x19.at_ (x14.length : Int) (hL29.hFl (Sl := ([] : List Snap)) hp30 (sels [] rfl)) (hL29.into hp30 (Fl ([] : List Snap))) r31 hv32) ?_
      rintro _ w33 ⟨rfl, hM34⟩
      have hL35 := hL29.call hp30 hM34
      refine ⟨_, _, _, rfl, hL35, ?_⟩
      refine wl_v 5 rfl (v_assign rfl) gn rfl ?_
      refine w_end 6 rfl ?_
      refine g_seq (c := trellislaw11_replaced_c12) rfl ?_
      obtain ⟨r39, hv40, h⟩ := h
      obtain ⟨hb44, h⟩ := h
      have d1 : ∀ (gb98 : Nat) (A99 : Option Addr) (n100 : Nat) (c101 : Nat) (h102 : At k_api_Ref (St w []) A99 n100 c101 ((ix x1.prods r39).rhs)), G (trellislaw11_replaced_C w F r) [.code trellislaw11_replaced_c14] [(1, .slice A15 n16 c17), (3, .pointer (some ⟨gb20, 0, none⟩)), (7, .int .i64 r31), (8, .pointer (some ⟨gb98, 0, none⟩))] [.box gb98 38 [.int .i64 ((ix x1.prods r39).lhs), .slice A99 n100 c101], .box gb20 26 [.slice A2 n3 c4, .slice A6 n7 c8, .slice A10 n11 c12]] [Sm w.heap.size F w [], St w []] := by
        intro gb98 A99 n100 c101 h102
        refine g_seq (c := trellislaw11_replaced_c14) rfl ?_
        refine g_seq (c := trellislaw11_replaced_c15) rfl ?_
        have j2 : ∀ (x112 : Bool) (h : trellislaw11_replaced_j2 x14 r31 x1 r39 x112 r) , G (trellislaw11_replaced_C w F r) [.code trellislaw11_replaced_c18, .code trellislaw11_replaced_c16] [(1, .slice A15 n16 c17), (7, .int .i64 r31), (8, .pointer (some ⟨gb98, 0, none⟩)), (63, .bool x112)] [.box gb98 38 [.int .i64 ((ix x1.prods r39).lhs), .slice A99 n100 c101]] [Sm w.heap.size F w [], St w []] := by
          intro x112 h
          unfold trellislaw11_replaced_j2 at h
          by_cases hp113 : x112 = true
          · have h := if_pos' hp113 h
            refine g_true (c := trellislaw11_replaced_c18) rfl _ rfl (hp113) ?_
            refine g_seq (c := trellislaw11_replaced_c19) rfl ?_
            refine g_region (c := trellislaw11_replaced_c21) rfl rfl ?_
            refine wl_v 0 rfl (v_move rfl) gn rfl ?_
            refine wl_v 1 rfl (v_assign rfl) gn rfl ?_
            refine w_end 2 rfl ?_
            refine g_retR (c := trellislaw11_replaced_c22) [.slice A15 n16 c17] rfl Try.func26 rfl (.tmp rfl (.nil)) fun wr hLr => ?_
            have hMr : B.Loc w wr [] [St w []] := hLr.pick (rest := [.box gb98 38 [.int .i64 ((ix x1.prods r39).lhs), .slice A99 n100 c101]]) (perm_of_idx [] [0] rfl rfl (by kernel_rfl)) (sels [1] rfl)
            have hMi : ∀ e ∈ ([] : List Ent), e ∈ ([.box gb98 38 [.int .i64 ((ix x1.prods r39).lhs), .slice A99 n100 c101]] : List Ent) := sels [] rfl
            show trellislaw11_replaced_R w F  r (.returned (packV [.slice A15 n16 c17])) wr
            rw [h]
            exact ⟨A15, n16, c17, rfl, hMr, (hLr.outR (s := Sm w.heap.size F w []) hMi (me 0 rfl) Sm.ok h18)⟩
          · have h := if_neg' hp113 h
            refine g_false (c := trellislaw11_replaced_c18) rfl _ rfl ((bf hp113)) ?_
            refine g_skip (c := trellislaw11_replaced_c20) rfl ?_
            refine g_seq (c := trellislaw11_replaced_c16) rfl ?_
            refine g_region (c := trellislaw11_replaced_c23) rfl rfl ?_
            refine wl_v 0 rfl (v_assign rfl) gn rfl ?_
            refine w_end 1 rfl ?_
            refine g_seq (c := trellislaw11_replaced_c24) rfl ?_
            refine g_seq (c := trellislaw11_replaced_c25) rfl ?_
            refine g_region (c := trellislaw11_replaced_c27) rfl rfl ?_
            refine wl_v 0 rfl (v_assign rfl) gn rfl ?_
            refine w_end 1 rfl ?_
            refine g_block (c := trellislaw11_replaced_c28) rfl ?_
            refine g_loop (c := trellislaw11_replaced_c29) rfl ?_
            have key3 : ∀ s, Rounds (fun (s : (List api_Ref) × Int) o => trellislaw11_replaced_b3 r31 x14 x1 r39 s.1 s.2 o) s r → (fun (s : (List api_Ref) × Int) => ∀ (A327 : Option Addr) (n328 : Nat) (c329 : Nat) (h330 : Ow w.heap.size A327 n328 c329 s.1), G (trellislaw11_replaced_C w F r) [.code trellislaw11_replaced_c30, .inLoop trellislaw11_replaced_c30, .inBlock 0, .code trellislaw11_replaced_c26] [(1, .slice A15 n16 c17), (7, .int .i64 r31), (8, .pointer (some ⟨gb98, 0, none⟩)), (9, .slice A327 n328 c329), (10, .int .i64 s.2)] [.own (.slice A327 n328 c329) 36 3 n328 (s.1.flatMap enc_api_Ref), .box gb98 38 [.int .i64 ((ix x1.prods r39).lhs), .slice A99 n100 c101]] [Sm w.heap.size F w [], St w []]) s := by
              intro s hs
              refine Rounds.ind (mot := (fun (s : (List api_Ref) × Int) => ∀ (A327 : Option Addr) (n328 : Nat) (c329 : Nat) (h330 : Ow w.heap.size A327 n328 c329 s.1), G (trellislaw11_replaced_C w F r) [.code trellislaw11_replaced_c30, .inLoop trellislaw11_replaced_c30, .inBlock 0, .code trellislaw11_replaced_c26] [(1, .slice A15 n16 c17), (7, .int .i64 r31), (8, .pointer (some ⟨gb98, 0, none⟩)), (9, .slice A327 n328 c329), (10, .int .i64 s.2)] [.own (.slice A327 n328 c329) 36 3 n328 (s.1.flatMap enc_api_Ref), .box gb98 38 [.int .i64 ((ix x1.prods r39).lhs), .slice A99 n100 c101]] [Sm w.heap.size F w [], St w []])) ?_ hs
              clear hs s
              intro s o1 h hO1
              obtain ⟨x326, x331⟩ := s
              show ∀ (A327 : Option Addr) (n328 : Nat) (c329 : Nat) (h330 : Ow w.heap.size A327 n328 c329 x326), G (trellislaw11_replaced_C w F r) [.code trellislaw11_replaced_c30, .inLoop trellislaw11_replaced_c30, .inBlock 0, .code trellislaw11_replaced_c26] [(1, .slice A15 n16 c17), (7, .int .i64 r31), (8, .pointer (some ⟨gb98, 0, none⟩)), (9, .slice A327 n328 c329), (10, .int .i64 x331)] [.own (.slice A327 n328 c329) 36 3 n328 (x326.flatMap enc_api_Ref), .box gb98 38 [.int .i64 ((ix x1.prods r39).lhs), .slice A99 n100 c101]] [Sm w.heap.size F w [], St w []]
              intro A327 n328 c329 h330
              have h : trellislaw11_replaced_b3 r31 x14 x1 r39 x326 x331 o1 := h
              unfold trellislaw11_replaced_b3 at h
              refine g_seq (c := trellislaw11_replaced_c30) rfl ?_
              refine g_seq (c := trellislaw11_replaced_c31) rfl ?_
              refine g_region (c := trellislaw11_replaced_c33) rfl rfl ?_
              refine wl_v 0 rfl (v_move rfl) gn rfl ?_
              refine wl_v 1 rfl (v_move rfl) gn rfl ?_
              refine wl_v 2 rfl (v_bin rfl rfl rfl) gn rfl ?_
              refine w_end 3 rfl ?_
              by_cases hp543 : x331 < r31
              · have h := if_pos' hp543 h
                refine g_true (c := trellislaw11_replaced_c34) rfl _ rfl ((decide_eq_true hp543)) ?_
                refine g_skip (c := trellislaw11_replaced_c35) rfl ?_
                refine g_seq (c := trellislaw11_replaced_c32) rfl ?_
                refine g_block (c := trellislaw11_replaced_c37) rfl ?_
                refine g_region (c := trellislaw11_replaced_c39) rfl rfl ?_
                refine wl_v 0 rfl (v_move rfl) gn rfl ?_
                refine wl_v 1 rfl (v_move rfl) gn rfl ?_
                refine wl_v 2 rfl (v_move rfl) gn rfl ?_
                obtain ⟨hb544, h⟩ := h
                have hr545 := Rw.readF (s := Sm w.heap.size F w []) (hl := hl_api_Ref) (h1 := h1_api_Ref) h18 hb544
                refine wl_v 3 rfl (v_idxR (s := Sm w.heap.size F w []) slE_27 rfl rfl h18 hb544) gn rfl ?_
                refine wl_v 4 rfl (v_ldA (Sm w.heap.size F w []) ld_36 rfl hr545 rfl (me 0 rfl)) gn rfl ?_
                refine wl_s 5 rfl (s_litO (xs := ([ix x14 x331] : List api_Ref)) [.int .i64 ((ix x14 x331).sym), .string ((ix x14 x331).field), .string ((ix x14 x331).as)] bs_27_1 rfl (by kernel_rfl) rfl rfl rfl rfl fun gb547 h548 => ?_) gn
                obtain ⟨x552, hv553, h⟩ := h
                obtain ⟨hb554, h⟩ := h
                refine wl_s 6 rfl (s_app (zs := x552) (cells' := x552.flatMap enc_api_Ref) 1 ap_27 rfl rfl rfl h330 (Nat.le_refl _) (Src.ownF (hl := hl_api_Ref) (h1 := h1_api_Ref) 0 rfl h548) (by rw [hv553, List.flatMap_append] <;> rfl) (app_len hv553 h548.hq) hb554 rfl rfl fun A549 c550 h551 => ?_) gn
                refine wl_v 7 rfl (v_assign rfl) gn rfl ?_
                refine w_end 8 rfl ?_
                refine g_inBlock ?_
                refine g_region (c := trellislaw11_replaced_c38) rfl rfl ?_
                refine wl_v 0 rfl (v_move rfl) gn rfl ?_
                refine wl_v 1 rfl (v_bin rfl rfl rfl) gn rfl ?_
                refine wl_v 2 rfl (v_assign rfl) gn rfl ?_
                refine w_end 3 rfl ?_
                refine g_inLoop ?_
                have ih := Out.inl hO1 h
                exact g_go [0, 1] (ih A549 (n328 + 1) c550 h551) ⟨rfl, rfl, rfl, rfl, rfl, trivial⟩ (.cons _ (.cons_cons _ (.cons_cons _ (.slnil)))) rfl
              · have h := if_neg' hp543 h
                refine g_false (c := trellislaw11_replaced_c34) rfl _ rfl ((decide_eq_false hp543)) ?_
                refine g_exit (c := trellislaw11_replaced_c36) [.code trellislaw11_replaced_c26] rfl rfl ?_
                refine g_seq (c := trellislaw11_replaced_c26) rfl ?_
                refine g_seq (c := trellislaw11_replaced_c40) rfl ?_
                refine g_region (c := trellislaw11_replaced_c42) rfl rfl ?_
                refine wl_v 0 rfl (v_assign rfl) gn rfl ?_
                refine w_end 1 rfl ?_
                refine g_block (c := trellislaw11_replaced_c43) rfl ?_
                refine g_loop (c := trellislaw11_replaced_c44) rfl ?_
                have key4 : ∀ s, Rounds (fun (s : (List api_Ref) × Int) o => trellislaw11_replaced_b4 x1 r39 x14 r31 s.1 s.2 o) s o1 → (fun (s : (List api_Ref) × Int) => ∀ (A621 : Option Addr) (n622 : Nat) (c623 : Nat) (h624 : Ow w.heap.size A621 n622 c623 s.1), G (trellislaw11_replaced_C w F r) [.code trellislaw11_replaced_c45, .inLoop trellislaw11_replaced_c45, .inBlock 2, .code trellislaw11_replaced_c41] [(1, .slice A15 n16 c17), (7, .int .i64 r31), (8, .pointer (some ⟨gb98, 0, none⟩)), (9, .slice A621 n622 c623), (11, .int .i64 s.2)] [.own (.slice A621 n622 c623) 36 3 n622 (s.1.flatMap enc_api_Ref), .box gb98 38 [.int .i64 ((ix x1.prods r39).lhs), .slice A99 n100 c101]] [Sm w.heap.size F w [], St w []]) s := by
                  intro s hs
                  refine Rounds.ind (mot := (fun (s : (List api_Ref) × Int) => ∀ (A621 : Option Addr) (n622 : Nat) (c623 : Nat) (h624 : Ow w.heap.size A621 n622 c623 s.1), G (trellislaw11_replaced_C w F r) [.code trellislaw11_replaced_c45, .inLoop trellislaw11_replaced_c45, .inBlock 2, .code trellislaw11_replaced_c41] [(1, .slice A15 n16 c17), (7, .int .i64 r31), (8, .pointer (some ⟨gb98, 0, none⟩)), (9, .slice A621 n622 c623), (11, .int .i64 s.2)] [.own (.slice A621 n622 c623) 36 3 n622 (s.1.flatMap enc_api_Ref), .box gb98 38 [.int .i64 ((ix x1.prods r39).lhs), .slice A99 n100 c101]] [Sm w.heap.size F w [], St w []])) ?_ hs
                  clear hs s
                  intro s o2 h hO2
                  obtain ⟨x620, x625⟩ := s
                  show ∀ (A621 : Option Addr) (n622 : Nat) (c623 : Nat) (h624 : Ow w.heap.size A621 n622 c623 x620), G (trellislaw11_replaced_C w F r) [.code trellislaw11_replaced_c45, .inLoop trellislaw11_replaced_c45, .inBlock 2, .code trellislaw11_replaced_c41] [(1, .slice A15 n16 c17), (7, .int .i64 r31), (8, .pointer (some ⟨gb98, 0, none⟩)), (9, .slice A621 n622 c623), (11, .int .i64 x625)] [.own (.slice A621 n622 c623) 36 3 n622 (x620.flatMap enc_api_Ref), .box gb98 38 [.int .i64 ((ix x1.prods r39).lhs), .slice A99 n100 c101]] [Sm w.heap.size F w [], St w []]
                  intro A621 n622 c623 h624
                  have h : trellislaw11_replaced_b4 x1 r39 x14 r31 x620 x625 o2 := h
                  unfold trellislaw11_replaced_b4 at h
                  refine g_seq (c := trellislaw11_replaced_c45) rfl ?_
                  refine g_seq (c := trellislaw11_replaced_c46) rfl ?_
                  refine g_region (c := trellislaw11_replaced_c48) rfl rfl ?_
                  refine wl_v 0 rfl (v_move rfl) gn rfl ?_
                  refine wl_v 1 rfl (v_fldB fo_38_1 rfl) gn rfl ?_
                  refine wl_v 2 rfl (v_ldB1 1 ld_27 rfl rfl rfl) gn rfl ?_
                  refine wl_v 3 rfl (v_lenQ un_27 rfl h102.hq) gn rfl ?_
                  refine wl_v 4 rfl (v_bin rfl rfl rfl) gn rfl ?_
                  refine w_end 5 rfl ?_
                  by_cases hp690 : x625 < (((ix x1.prods r39).rhs).length : Int)
                  · have h := if_pos' hp690 h
                    refine g_true (c := trellislaw11_replaced_c49) rfl _ rfl ((decide_eq_true hp690)) ?_
                    refine g_skip (c := trellislaw11_replaced_c50) rfl ?_
                    refine g_seq (c := trellislaw11_replaced_c47) rfl ?_
                    refine g_block (c := trellislaw11_replaced_c52) rfl ?_
                    refine g_region (c := trellislaw11_replaced_c54) rfl rfl ?_
                    refine wl_v 0 rfl (v_move rfl) gn rfl ?_
                    refine wl_v 1 rfl (v_fldB fo_38_1 rfl) gn rfl ?_
                    refine wl_v 2 rfl (v_ldB1 1 ld_27 rfl rfl rfl) gn rfl ?_
                    refine wl_v 3 rfl (v_move rfl) gn rfl ?_
                    obtain ⟨hb691, h⟩ := h
                    have hr692 := Rw.readF (s := St w []) (hl := hl_api_Ref) (h1 := h1_api_Ref) h102 hb691
                    refine wl_v 4 rfl (v_idxR (s := St w []) slE_27 rfl rfl h102 hb691) gn rfl ?_
                    refine wl_v 5 rfl (v_ldA (St w []) ld_36 rfl hr692 rfl (me 1 rfl)) gn rfl ?_
                    refine wl_s 6 rfl (s_litO (xs := ([ix ((ix x1.prods r39).rhs) x625] : List api_Ref)) [.int .i64 ((ix ((ix x1.prods r39).rhs) x625).sym), .string ((ix ((ix x1.prods r39).rhs) x625).field), .string ((ix ((ix x1.prods r39).rhs) x625).as)] bs_27_1 rfl (by kernel_rfl) rfl rfl rfl rfl fun gb694 h695 => ?_) gn
                    obtain ⟨x699, hv700, h⟩ := h
                    obtain ⟨hb701, h⟩ := h
                    refine wl_s 7 rfl (s_app (zs := x699) (cells' := x699.flatMap enc_api_Ref) 1 ap_27 rfl rfl rfl h624 (Nat.le_refl _) (Src.ownF (hl := hl_api_Ref) (h1 := h1_api_Ref) 0 rfl h695) (by rw [hv700, List.flatMap_append] <;> rfl) (app_len hv700 h695.hq) hb701 rfl rfl fun A696 c697 h698 => ?_) gn
                    refine wl_v 8 rfl (v_assign rfl) gn rfl ?_
                    refine w_end 9 rfl ?_
                    refine g_inBlock ?_
                    refine g_region (c := trellislaw11_replaced_c53) rfl rfl ?_
                    refine wl_v 0 rfl (v_move rfl) gn rfl ?_
                    refine wl_v 1 rfl (v_bin rfl rfl rfl) gn rfl ?_
                    refine wl_v 2 rfl (v_assign rfl) gn rfl ?_
                    refine w_end 3 rfl ?_
                    refine g_inLoop ?_
                    have ih := Out.inl hO2 h
                    exact g_go [0, 1] (ih A696 (n622 + 1) c697 h698) ⟨rfl, rfl, rfl, rfl, rfl, trivial⟩ (.cons _ (.cons_cons _ (.cons_cons _ (.slnil)))) rfl
                  · have h := if_neg' hp690 h
                    refine g_false (c := trellislaw11_replaced_c49) rfl _ rfl ((decide_eq_false hp690)) ?_
                    refine g_exit (c := trellislaw11_replaced_c51) [.code trellislaw11_replaced_c41] rfl rfl ?_
                    refine g_seq (c := trellislaw11_replaced_c41) rfl ?_
                    refine g_seq (c := trellislaw11_replaced_c55) rfl ?_
                    refine g_region (c := trellislaw11_replaced_c57) rfl rfl ?_
                    refine wl_v 0 rfl (v_move rfl) gn rfl ?_
                    refine wl_v 1 rfl (v_bin rfl rfl rfl) gn rfl ?_
                    refine wl_v 2 rfl (v_assign rfl) gn rfl ?_
                    refine w_end 3 rfl ?_
                    refine g_block (c := trellislaw11_replaced_c58) rfl ?_
                    refine g_loop (c := trellislaw11_replaced_c59) rfl ?_
                    have key5 : ∀ s, Rounds (fun (s : (List api_Ref) × Int) o => trellislaw11_replaced_b5 x14 s.1 s.2 o) s o2 → (fun (s : (List api_Ref) × Int) => ∀ (A719 : Option Addr) (n720 : Nat) (c721 : Nat) (h722 : Ow w.heap.size A719 n720 c721 s.1), G (trellislaw11_replaced_C w F r) [.code trellislaw11_replaced_c60, .inLoop trellislaw11_replaced_c60, .inBlock 4, .code trellislaw11_replaced_c56] [(1, .slice A15 n16 c17), (9, .slice A719 n720 c721), (12, .int .i64 s.2)] [.own (.slice A719 n720 c721) 36 3 n720 (s.1.flatMap enc_api_Ref)] [Sm w.heap.size F w [], St w []]) s := by
                      intro s hs
                      refine Rounds.ind (mot := (fun (s : (List api_Ref) × Int) => ∀ (A719 : Option Addr) (n720 : Nat) (c721 : Nat) (h722 : Ow w.heap.size A719 n720 c721 s.1), G (trellislaw11_replaced_C w F r) [.code trellislaw11_replaced_c60, .inLoop trellislaw11_replaced_c60, .inBlock 4, .code trellislaw11_replaced_c56] [(1, .slice A15 n16 c17), (9, .slice A719 n720 c721), (12, .int .i64 s.2)] [.own (.slice A719 n720 c721) 36 3 n720 (s.1.flatMap enc_api_Ref)] [Sm w.heap.size F w [], St w []])) ?_ hs
                      clear hs s
                      intro s o3 h hO3
                      obtain ⟨x718, x723⟩ := s
                      show ∀ (A719 : Option Addr) (n720 : Nat) (c721 : Nat) (h722 : Ow w.heap.size A719 n720 c721 x718), G (trellislaw11_replaced_C w F r) [.code trellislaw11_replaced_c60, .inLoop trellislaw11_replaced_c60, .inBlock 4, .code trellislaw11_replaced_c56] [(1, .slice A15 n16 c17), (9, .slice A719 n720 c721), (12, .int .i64 x723)] [.own (.slice A719 n720 c721) 36 3 n720 (x718.flatMap enc_api_Ref)] [Sm w.heap.size F w [], St w []]
                      intro A719 n720 c721 h722
                      have h : trellislaw11_replaced_b5 x14 x718 x723 o3 := h
                      unfold trellislaw11_replaced_b5 at h
                      refine g_seq (c := trellislaw11_replaced_c60) rfl ?_
                      refine g_seq (c := trellislaw11_replaced_c61) rfl ?_
                      refine g_region (c := trellislaw11_replaced_c63) rfl rfl ?_
                      refine wl_v 0 rfl (v_move rfl) gn rfl ?_
                      refine wl_v 1 rfl (v_move rfl) gn rfl ?_
                      refine wl_v 2 rfl (v_lenQ un_27 rfl h18.hq) gn rfl ?_
                      refine wl_v 3 rfl (v_bin rfl rfl rfl) gn rfl ?_
                      refine w_end 4 rfl ?_
                      by_cases hp739 : x723 < (x14.length : Int)
                      · have h := if_pos' hp739 h
                        refine g_true (c := trellislaw11_replaced_c64) rfl _ rfl ((decide_eq_true hp739)) ?_
                        refine g_skip (c := trellislaw11_replaced_c65) rfl ?_
                        refine g_seq (c := trellislaw11_replaced_c62) rfl ?_
                        refine g_block (c := trellislaw11_replaced_c67) rfl ?_
                        refine g_region (c := trellislaw11_replaced_c69) rfl rfl ?_
                        refine wl_v 0 rfl (v_move rfl) gn rfl ?_
                        refine wl_v 1 rfl (v_move rfl) gn rfl ?_
                        refine wl_v 2 rfl (v_move rfl) gn rfl ?_
                        obtain ⟨hb740, h⟩ := h
                        have hr741 := Rw.readF (s := Sm w.heap.size F w []) (hl := hl_api_Ref) (h1 := h1_api_Ref) h18 hb740
                        refine wl_v 3 rfl (v_idxR (s := Sm w.heap.size F w []) slE_27 rfl rfl h18 hb740) gn rfl ?_
                        refine wl_v 4 rfl (v_ldA (Sm w.heap.size F w []) ld_36 rfl hr741 rfl (me 0 rfl)) gn rfl ?_
                        refine wl_s 5 rfl (s_litO (xs := ([ix x14 x723] : List api_Ref)) [.int .i64 ((ix x14 x723).sym), .string ((ix x14 x723).field), .string ((ix x14 x723).as)] bs_27_1 rfl (by kernel_rfl) rfl rfl rfl rfl fun gb743 h744 => ?_) gn
                        obtain ⟨x748, hv749, h⟩ := h
                        obtain ⟨hb750, h⟩ := h
                        refine wl_s 6 rfl (s_app (zs := x748) (cells' := x748.flatMap enc_api_Ref) 1 ap_27 rfl rfl rfl h722 (Nat.le_refl _) (Src.ownF (hl := hl_api_Ref) (h1 := h1_api_Ref) 0 rfl h744) (by rw [hv749, List.flatMap_append] <;> rfl) (app_len hv749 h744.hq) hb750 rfl rfl fun A745 c746 h747 => ?_) gn
                        refine wl_v 7 rfl (v_assign rfl) gn rfl ?_
                        refine w_end 8 rfl ?_
                        refine g_inBlock ?_
                        refine g_region (c := trellislaw11_replaced_c68) rfl rfl ?_
                        refine wl_v 0 rfl (v_move rfl) gn rfl ?_
                        refine wl_v 1 rfl (v_bin rfl rfl rfl) gn rfl ?_
                        refine wl_v 2 rfl (v_assign rfl) gn rfl ?_
                        refine w_end 3 rfl ?_
                        refine g_inLoop ?_
                        have ih := Out.inl hO3 h
                        exact g_go [0, 1] (ih A745 (n720 + 1) c746 h747) ⟨rfl, rfl, rfl, trivial⟩ (.cons _ (.cons_cons _ (.slnil))) rfl
                      · have h := if_neg' hp739 h
                        refine g_false (c := trellislaw11_replaced_c64) rfl _ rfl ((decide_eq_false hp739)) ?_
                        refine g_exit (c := trellislaw11_replaced_c66) [.code trellislaw11_replaced_c56] rfl rfl ?_
                        refine g_seq (c := trellislaw11_replaced_c56) rfl ?_
                        refine g_region (c := trellislaw11_replaced_c70) rfl rfl ?_
                        refine wl_v 0 rfl (v_move rfl) gn rfl ?_
                        refine wl_v 1 rfl (v_assign rfl) gn rfl ?_
                        refine w_end 2 rfl ?_
                        refine g_freeze (F := F) (dk := k_api_Ref) (Sm w.heap.size F w []) 0 rfl h722 (me 0 rfl) Sm.ok (Cells.flat _) fun sw752 sb753 h751 => ?_
                        have h := Out.inr hO3 h
                        have h := Out.inr hO2 h
                        have h := Out.inr hO1 h
                        refine g_retR (c := trellislaw11_replaced_c71) [.slice A719 n720 c721] rfl Try.func26 rfl (.tmp rfl (.nil)) fun wr hLr => ?_
                        have hMr : B.Loc w wr [] [St w []] := hLr.pick (rest := []) (perm_of_idx [] [] rfl rfl (by kernel_rfl)) (sels [2] rfl)
                        have hMi : ∀ e ∈ ([] : List Ent), e ∈ ([] : List Ent) := sels [] rfl
                        show trellislaw11_replaced_R w F  r (.returned (packV [.slice A719 n720 c721])) wr
                        rw [h]
                        exact ⟨A719, n720, c721, rfl, hMr, (hLr.outR (s := Sm w.heap.size F sw752 sb753) hMi (me 0 rfl) Sm.ok h751)⟩
                    exact g_go [0, 1] (key5 _ h A621 n622 c623 h624) ⟨rfl, rfl, rfl, trivial⟩ (.cons_cons _ (.cons _ (.slnil))) rfl
                exact g_go [0, 1] (key4 _ h A327 n328 c329 h330) ⟨rfl, rfl, rfl, rfl, rfl, trivial⟩ (.cons_cons _ (.cons_cons _ (.slnil))) rfl
            refine g_nil 36 3 ?_
            exact g_go [0, 1] (key3 _ h none 0 0 (Ow.nil (z := w.heap.size))) ⟨rfl, rfl, rfl, rfl, rfl, trivial⟩ (.cons_cons _ (.cons_cons _ (.slnil))) rfl
        by_cases hp754 : (ix x1.prods r39).lhs < 0
        · have h := if_pos' hp754 h
          have hns : Region.noSelect (Code.ops trellislaw11_replaced_c17) = true := by kernel_rfl
          refine g_drawF (c := trellislaw11_replaced_c17) [.box gb98 38 [.int .i64 ((ix x1.prods r39).lhs), .slice A99 n100 c101], .box gb20 26 [.slice A2 n3 c4, .slice A6 n7 c8, .slice A10 n11 c12]] [Sm w.heap.size F w [], St w []] [] 26 rfl rfl mix rfl (.cons_cons _ (.cons_cons _ (.slnil))) (sels [0, 1] rfl) ?_
          refine wf_v 0 rfl (v_fldB fo_38_0 rfl) gn rfl hns (by kernel_rfl) (by kernel_rfl) rfl rfl ?_
          refine wf_v 1 rfl (v_ldB1 0 ld_3 rfl rfl rfl) gn rfl hns (by kernel_rfl) (by kernel_rfl) rfl rfl ?_
          refine wf_v 2 rfl (v_bin rfl rfl rfl) gn rfl hns (by kernel_rfl) (by kernel_rfl) rfl rfl ?_
          refine wf_v 3 rfl (v_move rfl) gn rfl hns (by kernel_rfl) (by kernel_rfl) rfl rfl ?_
          refine wf_bool 41 rfl ((decide_eq_true hp754)) ?_
          refine wf_pass 4 rfl (ps 41 rfl rfl rfl) hns (by kernel_rfl) (by kernel_rfl) rfl rfl ?_
          refine wf_pass 5 rfl (ps 41 rfl rfl rfl) hns (by kernel_rfl) (by kernel_rfl) rfl rfl ?_
          refine wf_pass 6 rfl (ps 41 rfl rfl rfl) hns (by kernel_rfl) (by kernel_rfl) rfl rfl ?_
          refine wf_pass 7 rfl (ps 41 rfl rfl rfl) hns (by kernel_rfl) (by kernel_rfl) rfl rfl ?_
          refine wf_pass 8 rfl (ps 41 rfl rfl rfl) hns (by kernel_rfl) (by kernel_rfl) rfl rfl ?_
          refine wf_pass 9 rfl (ps 41 rfl rfl rfl) hns (by kernel_rfl) (by kernel_rfl) rfl rfl ?_
          refine wf_pass 10 rfl (ps 41 rfl rfl rfl) hns (by kernel_rfl) (by kernel_rfl) rfl rfl ?_
          refine wf_pass 11 rfl (ps 41 rfl rfl rfl) hns (by kernel_rfl) (by kernel_rfl) rfl rfl ?_
          refine wf_pass 12 rfl (ps 41 rfl rfl rfl) hns (by kernel_rfl) (by kernel_rfl) rfl rfl ?_
          refine wf_pass 13 rfl (ps 41 rfl rfl rfl) hns (by kernel_rfl) (by kernel_rfl) rfl rfl ?_
          refine wf_pass 14 rfl (ps 41 rfl rfl rfl) hns (by kernel_rfl) (by kernel_rfl) rfl rfl ?_
          refine wf_pass 15 rfl (ps 41 rfl rfl rfl) hns (by kernel_rfl) (by kernel_rfl) rfl rfl ?_
          refine wf_v 16 rfl (v_pick (b := true) rfl rfl) gn rfl hns (by kernel_rfl) (by kernel_rfl) rfl rfl ?_
          refine wf_v 17 rfl (v_move rfl) gn rfl hns (by kernel_rfl) (by kernel_rfl) rfl rfl ?_
          refine wf_pass 18 rfl (ps 55 rfl rfl rfl) hns (by kernel_rfl) (by kernel_rfl) rfl rfl ?_
          refine wf_pass 19 rfl (ps 55 rfl rfl rfl) hns (by kernel_rfl) (by kernel_rfl) rfl rfl ?_
          refine wf_pass 20 rfl (ps 55 rfl rfl rfl) hns (by kernel_rfl) (by kernel_rfl) rfl rfl ?_
          refine wf_pass 21 rfl (ps 55 rfl rfl rfl) hns (by kernel_rfl) (by kernel_rfl) rfl rfl ?_
          refine wf_pass 22 rfl (ps 55 rfl rfl rfl) hns (by kernel_rfl) (by kernel_rfl) rfl rfl ?_
          refine wf_pass 23 rfl (ps 55 rfl rfl rfl) hns (by kernel_rfl) (by kernel_rfl) rfl rfl ?_
          refine wf_pass 24 rfl (ps 55 rfl rfl rfl) hns (by kernel_rfl) (by kernel_rfl) rfl rfl ?_
          refine wf_v 25 rfl (v_pick (b := true) rfl rfl) gn rfl hns (by kernel_rfl) (by kernel_rfl) rfl rfl ?_
          refine wf_end (by kernel_rfl) ?_
          exact g_go [0, 1] (j2 true h) ⟨rfl, rfl, rfl, rfl, trivial⟩ (.cons_cons _ (.cons _ (.slnil))) rfl
        · have h := if_neg' hp754 h
          obtain ⟨hb755, h⟩ := h
          by_cases hp757 : (ix x14 r31).sym = w64 ((x1.terms.length : Int) + ((ix x1.prods r39).lhs))
          · have h := if_pos' hp757 h
            have hns : Region.noSelect (Code.ops trellislaw11_replaced_c17) = true := by kernel_rfl
            refine g_drawF (c := trellislaw11_replaced_c17) [.box gb98 38 [.int .i64 ((ix x1.prods r39).lhs), .slice A99 n100 c101], .box gb20 26 [.slice A2 n3 c4, .slice A6 n7 c8, .slice A10 n11 c12]] [Sm w.heap.size F w [], St w []] [] 26 rfl rfl mix rfl (.cons_cons _ (.cons_cons _ (.slnil))) (sels [0, 1] rfl) ?_
            refine wf_v 0 rfl (v_fldB fo_38_0 rfl) gn rfl hns (by kernel_rfl) (by kernel_rfl) rfl rfl ?_
            refine wf_v 1 rfl (v_ldB1 0 ld_3 rfl rfl rfl) gn rfl hns (by kernel_rfl) (by kernel_rfl) rfl rfl ?_
            refine wf_v 2 rfl (v_bin rfl rfl rfl) gn rfl hns (by kernel_rfl) (by kernel_rfl) rfl rfl ?_
            refine wf_v 3 rfl (v_move rfl) gn rfl hns (by kernel_rfl) (by kernel_rfl) rfl rfl ?_
            refine wf_bool 41 rfl ((decide_eq_false hp754)) ?_
            refine wf_v 4 rfl (v_move rfl) (gy 41 rfl rfl) rfl hns (by kernel_rfl) (by kernel_rfl) rfl rfl ?_
            refine wf_v 5 rfl (v_move rfl) (gy 41 rfl rfl) rfl hns (by kernel_rfl) (by kernel_rfl) rfl rfl ?_
            have hr759 := Rw.readF (s := Sm w.heap.size F w []) (hl := hl_api_Ref) (h1 := h1_api_Ref) h18 hb755
            refine wf_v 6 rfl (v_idxR (s := Sm w.heap.size F w []) slE_27 rfl rfl h18 hb755) (gy 41 rfl rfl) rfl hns (by kernel_rfl) (by kernel_rfl) rfl rfl ?_
            refine wf_v 7 rfl (v_fldA fo_36_0 rfl) (gy 41 rfl rfl) rfl hns (by kernel_rfl) (by kernel_rfl) rfl rfl ?_
            refine wf_v 8 rfl (v_ldA1 (kk := (r31 : Int).toNat * 3) (j := 0) (Sm w.heap.size F w []) ld_3 rfl hr759 rfl (me 0 rfl)) (gy 41 rfl rfl) rfl hns (by kernel_rfl) (by kernel_rfl) rfl rfl ?_
            refine wf_v 9 rfl (v_fldB fo_26_0 rfl) (gy 41 rfl rfl) rfl hns (by kernel_rfl) (by kernel_rfl) rfl rfl ?_
            refine wf_v 10 rfl (v_ldB1 1 ld_22 rfl rfl rfl) (gy 41 rfl rfl) rfl hns (by kernel_rfl) (by kernel_rfl) rfl rfl ?_
            refine wf_v 11 rfl (v_lenQ un_22 rfl h5.hq) (gy 41 rfl rfl) rfl hns (by kernel_rfl) (by kernel_rfl) rfl rfl ?_
            refine wf_v 12 rfl (v_fldB fo_38_0 rfl) (gy 41 rfl rfl) rfl hns (by kernel_rfl) (by kernel_rfl) rfl rfl ?_
            refine wf_v 13 rfl (v_ldB1 0 ld_3 rfl rfl rfl) (gy 41 rfl rfl) rfl hns (by kernel_rfl) (by kernel_rfl) rfl rfl ?_
            refine wf_v 14 rfl (v_bin rfl rfl rfl) (gy 41 rfl rfl) rfl hns (by kernel_rfl) (by kernel_rfl) rfl rfl ?_
            refine wf_v 15 rfl (v_bin rfl rfl rfl) (gy 41 rfl rfl) rfl hns (by kernel_rfl) (by kernel_rfl) rfl rfl ?_
            refine wf_v 16 rfl (v_pick (b := false) rfl rfl) gn rfl hns (by kernel_rfl) (by kernel_rfl) rfl rfl ?_
            refine wf_v 17 rfl (v_move rfl) gn rfl hns (by kernel_rfl) (by kernel_rfl) rfl rfl ?_
            refine wf_bool 55 rfl ((eqib hp757)) ?_
            refine wf_v 18 rfl (v_move rfl) (gy 55 rfl rfl) rfl hns (by kernel_rfl) (by kernel_rfl) rfl rfl ?_
            refine wf_v 19 rfl (v_lenQ un_27 rfl h18.hq) (gy 55 rfl rfl) rfl hns (by kernel_rfl) (by kernel_rfl) rfl rfl ?_
            refine wf_v 20 rfl (v_fldB fo_38_1 rfl) (gy 55 rfl rfl) rfl hns (by kernel_rfl) (by kernel_rfl) rfl rfl ?_
            refine wf_v 21 rfl (v_ldB1 0 ld_27 rfl rfl rfl) (gy 55 rfl rfl) rfl hns (by kernel_rfl) (by kernel_rfl) rfl rfl ?_
            refine wf_v 22 rfl (v_lenQ un_27 rfl h102.hq) (gy 55 rfl rfl) rfl hns (by kernel_rfl) (by kernel_rfl) rfl rfl ?_
            refine wf_v 23 rfl (v_bin rfl rfl rfl) (gy 55 rfl rfl) rfl hns (by kernel_rfl) (by kernel_rfl) rfl rfl ?_
            refine wf_v 24 rfl (v_bin rfl rfl rfl) (gy 55 rfl rfl) rfl hns (by kernel_rfl) (by kernel_rfl) rfl rfl ?_
            refine wf_v 25 rfl (v_pick (b := false) rfl rfl) gn rfl hns (by kernel_rfl) (by kernel_rfl) rfl rfl ?_
            refine wf_end (by kernel_rfl) ?_
            exact g_go [0, 1] (j2 (decide (w64 ((x14.length : Int) + (((ix x1.prods r39).rhs).length : Int)) > 65536)) h) ⟨rfl, rfl, rfl, rfl, trivial⟩ (.cons_cons _ (.cons _ (.slnil))) rfl
          · have h := if_neg' hp757 h
            have hns : Region.noSelect (Code.ops trellislaw11_replaced_c17) = true := by kernel_rfl
            refine g_drawF (c := trellislaw11_replaced_c17) [.box gb98 38 [.int .i64 ((ix x1.prods r39).lhs), .slice A99 n100 c101], .box gb20 26 [.slice A2 n3 c4, .slice A6 n7 c8, .slice A10 n11 c12]] [Sm w.heap.size F w [], St w []] [] 26 rfl rfl mix rfl (.cons_cons _ (.cons_cons _ (.slnil))) (sels [0, 1] rfl) ?_
            refine wf_v 0 rfl (v_fldB fo_38_0 rfl) gn rfl hns (by kernel_rfl) (by kernel_rfl) rfl rfl ?_
            refine wf_v 1 rfl (v_ldB1 0 ld_3 rfl rfl rfl) gn rfl hns (by kernel_rfl) (by kernel_rfl) rfl rfl ?_
            refine wf_v 2 rfl (v_bin rfl rfl rfl) gn rfl hns (by kernel_rfl) (by kernel_rfl) rfl rfl ?_
            refine wf_v 3 rfl (v_move rfl) gn rfl hns (by kernel_rfl) (by kernel_rfl) rfl rfl ?_
            refine wf_bool 41 rfl ((decide_eq_false hp754)) ?_
            refine wf_v 4 rfl (v_move rfl) (gy 41 rfl rfl) rfl hns (by kernel_rfl) (by kernel_rfl) rfl rfl ?_
            refine wf_v 5 rfl (v_move rfl) (gy 41 rfl rfl) rfl hns (by kernel_rfl) (by kernel_rfl) rfl rfl ?_
            have hr761 := Rw.readF (s := Sm w.heap.size F w []) (hl := hl_api_Ref) (h1 := h1_api_Ref) h18 hb755
            refine wf_v 6 rfl (v_idxR (s := Sm w.heap.size F w []) slE_27 rfl rfl h18 hb755) (gy 41 rfl rfl) rfl hns (by kernel_rfl) (by kernel_rfl) rfl rfl ?_
            refine wf_v 7 rfl (v_fldA fo_36_0 rfl) (gy 41 rfl rfl) rfl hns (by kernel_rfl) (by kernel_rfl) rfl rfl ?_
            refine wf_v 8 rfl (v_ldA1 (kk := (r31 : Int).toNat * 3) (j := 0) (Sm w.heap.size F w []) ld_3 rfl hr761 rfl (me 0 rfl)) (gy 41 rfl rfl) rfl hns (by kernel_rfl) (by kernel_rfl) rfl rfl ?_
            refine wf_v 9 rfl (v_fldB fo_26_0 rfl) (gy 41 rfl rfl) rfl hns (by kernel_rfl) (by kernel_rfl) rfl rfl ?_
            refine wf_v 10 rfl (v_ldB1 1 ld_22 rfl rfl rfl) (gy 41 rfl rfl) rfl hns (by kernel_rfl) (by kernel_rfl) rfl rfl ?_
            refine wf_v 11 rfl (v_lenQ un_22 rfl h5.hq) (gy 41 rfl rfl) rfl hns (by kernel_rfl) (by kernel_rfl) rfl rfl ?_
            refine wf_v 12 rfl (v_fldB fo_38_0 rfl) (gy 41 rfl rfl) rfl hns (by kernel_rfl) (by kernel_rfl) rfl rfl ?_
            refine wf_v 13 rfl (v_ldB1 0 ld_3 rfl rfl rfl) (gy 41 rfl rfl) rfl hns (by kernel_rfl) (by kernel_rfl) rfl rfl ?_
            refine wf_v 14 rfl (v_bin rfl rfl rfl) (gy 41 rfl rfl) rfl hns (by kernel_rfl) (by kernel_rfl) rfl rfl ?_
            refine wf_v 15 rfl (v_bin rfl rfl rfl) (gy 41 rfl rfl) rfl hns (by kernel_rfl) (by kernel_rfl) rfl rfl ?_
            refine wf_v 16 rfl (v_pick (b := false) rfl rfl) gn rfl hns (by kernel_rfl) (by kernel_rfl) rfl rfl ?_
            refine wf_v 17 rfl (v_move rfl) gn rfl hns (by kernel_rfl) (by kernel_rfl) rfl rfl ?_
            refine wf_bool 55 rfl ((neib hp757)) ?_
            refine wf_pass 18 rfl (ps 55 rfl rfl rfl) hns (by kernel_rfl) (by kernel_rfl) rfl rfl ?_
            refine wf_pass 19 rfl (ps 55 rfl rfl rfl) hns (by kernel_rfl) (by kernel_rfl) rfl rfl ?_
            refine wf_pass 20 rfl (ps 55 rfl rfl rfl) hns (by kernel_rfl) (by kernel_rfl) rfl rfl ?_
            refine wf_pass 21 rfl (ps 55 rfl rfl rfl) hns (by kernel_rfl) (by kernel_rfl) rfl rfl ?_
            refine wf_pass 22 rfl (ps 55 rfl rfl rfl) hns (by kernel_rfl) (by kernel_rfl) rfl rfl ?_
            refine wf_pass 23 rfl (ps 55 rfl rfl rfl) hns (by kernel_rfl) (by kernel_rfl) rfl rfl ?_
            refine wf_pass 24 rfl (ps 55 rfl rfl rfl) hns (by kernel_rfl) (by kernel_rfl) rfl rfl ?_
            refine wf_v 25 rfl (v_pick (b := true) rfl rfl) gn rfl hns (by kernel_rfl) (by kernel_rfl) rfl rfl ?_
            refine wf_end (by kernel_rfl) ?_
            exact g_go [0, 1] (j2 true h) ⟨rfl, rfl, rfl, rfl, trivial⟩ (.cons_cons _ (.cons _ (.slnil))) rfl
      have hns : Region.noSelect (Code.ops trellislaw11_replaced_c13) = true := by kernel_rfl
      refine g_drawF (c := trellislaw11_replaced_c13) [.box gb22 54 [.int .i64 x19.at_, .int .i64 x19.prod], .box gb20 26 [.slice A2 n3 c4, .slice A6 n7 c8, .slice A10 n11 c12]] [Sm w.heap.size F w [], St w []] [] 12 rfl rfl mix rfl (.cons_cons _ (.cons_cons _ (.slnil))) (sels [0, 1] rfl) ?_
      refine wf_v 0 rfl (v_fldB fo_26_2 rfl) gn rfl hns (by kernel_rfl) (by kernel_rfl) rfl rfl ?_
      refine wf_v 1 rfl (v_ldB1 1 ld_24 rfl rfl rfl) gn rfl hns (by kernel_rfl) (by kernel_rfl) rfl rfl ?_
      refine wf_v 2 rfl (v_fldB fo_54_1 rfl) gn rfl hns (by kernel_rfl) (by kernel_rfl) rfl rfl ?_
      refine wf_v 3 rfl (v_ldB1 0 ld_3 rfl rfl rfl) gn rfl hns (by kernel_rfl) (by kernel_rfl) rfl rfl ?_
      refine wf_v 4 rfl (v_fldB fo_26_2 rfl) gn rfl hns (by kernel_rfl) (by kernel_rfl) rfl rfl ?_
      refine wf_v 5 rfl (v_ldB1 1 ld_24 rfl rfl rfl) gn rfl hns (by kernel_rfl) (by kernel_rfl) rfl rfl ?_
      refine wf_v 6 rfl (v_lenQ un_24 rfl h13.hq) gn rfl hns (by kernel_rfl) (by kernel_rfl) rfl rfl ?_
      refine wf_all [7, 10] (by kernel_rfl) rfl ⟨?_, ?_, trivial⟩
      · refine on_s 7 rfl gn rfl (s_call [.int .i64 x19.prod, .int .i64 (x1.prods.length : Int)] rfl Try.func38 rfl rfl rfl fun w769 hL770 => ?_)
        have hp771 : List.Perm ([.box gb22 54 [.int .i64 x19.at_, .int .i64 x19.prod], .box gb20 26 [.slice A2 n3 c4, .slice A6 n7 c8, .slice A10 n11 c12]] : List Ent) (([] : List Ent) ++ ([.box gb22 54 [.int .i64 x19.at_, .int .i64 x19.prod], .box gb20 26 [.slice A2 n3 c4, .slice A6 n7 c8, .slice A10 n11 c12]] : List Ent)) := perm_of_idx [] [0, 1] rfl rfl (by kernel_rfl)
        refine Calls.mono (trellislaw11_mod_calls w769 (Fl ([] : List Snap)) x19.prod (x1.prods.length : Int) (hL770.hFl (Sl := ([] : List Snap)) hp771 (sels [] rfl)) (hL770.into hp771 (Fl ([] : List Snap))) r39 hv40) ?_
        rintro _ w772 ⟨rfl, hM773⟩
        have hL774 := hL770.call hp771 hM773
        refine ⟨_, _, _, rfl, hL774, ?_⟩
        refine ⟨sels [0, 1] rfl, sels [0, 1] rfl, ?_⟩
        obtain ⟨ce776, hK777, hr775⟩ := Rw.read (s := St w []) h13 hb44
        obtain ⟨A778, n779, c780, rfl, h781⟩ := hK777
        refine wf_v 8 rfl (v_idxR (s := St w []) slE_24 rfl rfl h13 hb44) gn rfl hns (by kernel_rfl) (by kernel_rfl) rfl rfl ?_
        refine wf_v 9 rfl (v_ldA (St w []) ld_38 rfl hr775 rfl (me 1 rfl)) gn rfl hns (by kernel_rfl) (by kernel_rfl) rfl rfl ?_
        refine wf_all [10] (by kernel_rfl) rfl ⟨on_s 10 rfl gn rfl (s_alloc [.int .i64 0, .slice none 0 0] zr_38 rfl fun gb783 => ?_), trivial⟩
        refine ⟨sels [1, 2] rfl, sels [0, 1] rfl, ?_⟩
        refine wf_all [11] (by kernel_rfl) rfl ⟨on_s 11 rfl gn rfl (s_stB (vs := [.int .i64 ((ix x1.prods r39).lhs), .slice A778 n779 c780]) (cs' := [.int .i64 ((ix x1.prods r39).lhs), .slice A778 n779 c780]) (M' := [.box gb783 38 [.int .i64 ((ix x1.prods r39).lhs), .slice A778 n779 c780], .box gb22 54 [.int .i64 x19.at_, .int .i64 x19.prod], .box gb20 26 [.slice A2 n3 c4, .slice A6 n7 c8, .slice A10 n11 c12]]) 0 sz_38 rfl rfl rfl rfl rfl rfl rfl rfl rfl ?_), trivial⟩
        refine ⟨sels [1, 2] rfl, sels [0, 1] rfl, ?_⟩
        refine wf_end (by kernel_rfl) ?_
        exact g_go [0, 1] (d1 gb783 A778 n779 c780 h781) ⟨rfl, rfl, rfl, rfl, trivial⟩ (.cons_cons _ (.cons _ (.cons_cons _ (.slnil)))) rfl
      · refine on_s 10 rfl gn rfl (s_alloc [.int .i64 0, .slice none 0 0] zr_38 rfl fun gb784 => ?_)
        refine ⟨sels [1, 2] rfl, sels [0, 1] rfl, ?_⟩
        refine wf_all [7] (by kernel_rfl) rfl ⟨on_s 7 rfl gn rfl (s_call [.int .i64 x19.prod, .int .i64 (x1.prods.length : Int)] rfl Try.func38 rfl rfl rfl fun w791 hL792 => ?_), trivial⟩
        have hp793 : List.Perm ([.box gb784 38 [.int .i64 0, .slice none 0 0], .box gb22 54 [.int .i64 x19.at_, .int .i64 x19.prod], .box gb20 26 [.slice A2 n3 c4, .slice A6 n7 c8, .slice A10 n11 c12]] : List Ent) (([] : List Ent) ++ ([.box gb784 38 [.int .i64 0, .slice none 0 0], .box gb22 54 [.int .i64 x19.at_, .int .i64 x19.prod], .box gb20 26 [.slice A2 n3 c4, .slice A6 n7 c8, .slice A10 n11 c12]] : List Ent)) := perm_of_idx [] [0, 1, 2] rfl rfl (by kernel_rfl)
        refine Calls.mono (trellislaw11_mod_calls w791 (Fl ([] : List Snap)) x19.prod (x1.prods.length : Int) (hL792.hFl (Sl := ([] : List Snap)) hp793 (sels [] rfl)) (hL792.into hp793 (Fl ([] : List Snap))) r39 hv40) ?_
        rintro _ w794 ⟨rfl, hM795⟩
        have hL796 := hL792.call hp793 hM795
        refine ⟨_, _, _, rfl, hL796, ?_⟩
        refine ⟨sels [1, 2] rfl, sels [0, 1] rfl, ?_⟩
        obtain ⟨ce798, hK799, hr797⟩ := Rw.read (s := St w []) h13 hb44
        obtain ⟨A800, n801, c802, rfl, h803⟩ := hK799
        refine wf_v 8 rfl (v_idxR (s := St w []) slE_24 rfl rfl h13 hb44) gn rfl hns (by kernel_rfl) (by kernel_rfl) rfl rfl ?_
        refine wf_v 9 rfl (v_ldA (St w []) ld_38 rfl hr797 rfl (me 1 rfl)) gn rfl hns (by kernel_rfl) (by kernel_rfl) rfl rfl ?_
        refine wf_all [11] (by kernel_rfl) rfl ⟨on_s 11 rfl gn rfl (s_stB (vs := [.int .i64 ((ix x1.prods r39).lhs), .slice A800 n801 c802]) (cs' := [.int .i64 ((ix x1.prods r39).lhs), .slice A800 n801 c802]) (M' := [.box gb784 38 [.int .i64 ((ix x1.prods r39).lhs), .slice A800 n801 c802], .box gb22 54 [.int .i64 x19.at_, .int .i64 x19.prod], .box gb20 26 [.slice A2 n3 c4, .slice A6 n7 c8, .slice A10 n11 c12]]) 0 sz_38 rfl rfl rfl rfl rfl rfl rfl rfl rfl ?_), trivial⟩
        refine ⟨sels [1, 2] rfl, sels [0, 1] rfl, ?_⟩
        refine wf_end (by kernel_rfl) ?_
        exact g_go [0, 1] (d1 gb784 A800 n801 c802 h803) ⟨rfl, rfl, rfl, rfl, trivial⟩ (.cons_cons _ (.cons _ (.cons_cons _ (.slnil)))) rfl
  refine g_region (c := trellislaw11_replaced_c5) rfl rfl ?_
  refine wl_v 0 rfl (v_move rfl) gn rfl ?_
  refine wl_v 1 rfl (v_lenQ un_27 rfl h18.hq) gn rfl ?_
  refine wl_v 2 rfl (v_bin rfl rfl rfl) gn rfl ?_
  refine wl_v 3 rfl (v_move rfl) gn rfl ?_
  by_cases hp804 : (x14.length : Int) = 0
  · have h := if_pos' hp804 h
    refine w_bool 16 rfl ((eqi hp804)) ?_
    refine wl_pass 4 rfl (ps 16 rfl rfl rfl) ?_
    refine wl_pass 5 rfl (ps 16 rfl rfl rfl) ?_
    refine wl_pass 6 rfl (ps 16 rfl rfl rfl) ?_
    refine wl_pass 7 rfl (ps 16 rfl rfl rfl) ?_
    refine wl_v 8 rfl (v_pick (b := true) rfl rfl) gn rfl ?_
    refine w_end 9 rfl ?_
    exact g_go [0, 1] (j1 true h) ⟨rfl, rfl, rfl, rfl, trivial⟩ (.cons_cons _ (.cons_cons _ (.slnil))) rfl
  · have h := if_neg' hp804 h
    refine w_bool 16 rfl ((nei hp804)) ?_
    refine wl_v 4 rfl (v_fldB fo_26_2 rfl) (gy 16 rfl rfl) rfl ?_
    refine wl_v 5 rfl (v_ldB1 1 ld_24 rfl rfl rfl) (gy 16 rfl rfl) rfl ?_
    refine wl_v 6 rfl (v_lenQ un_24 rfl h13.hq) (gy 16 rfl rfl) rfl ?_
    refine wl_v 7 rfl (v_bin rfl rfl rfl) (gy 16 rfl rfl) rfl ?_
    refine wl_v 8 rfl (v_pick (b := false) rfl rfl) gn rfl ?_
    refine w_end 9 rfl ?_
    exact g_go [0, 1] (j1 ((x1.prods.length : Int) == 0) h) ⟨rfl, rfl, rfl, rfl, trivial⟩ (.cons_cons _ (.cons_cons _ (.slnil))) rfl
end Go.Proofs.Ytelafghkjlpojaa.K
