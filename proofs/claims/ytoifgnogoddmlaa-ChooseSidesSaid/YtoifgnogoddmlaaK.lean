/- What the machine's calls do, function by function, printed by my own tool. Condition of each: its relation holds of the answer, and what is handed in lies in memory as told. -/
import Derived.Test.YtoifgnogoddmlaaK3
set_option linter.unusedVariables false
set_option maxRecDepth 100000
set_option maxHeartbeats 4000000
namespace Go.Proofs.Ytoifgnogoddmlaa.K
open Go.Proofs.Ytoifgnogoddmlaa.B Go.Proofs.Ytoifgnogoddmlaa.R Go.RowKit
noncomputable abbrev trellislaw32_kind_c0 : Code := bodyOf Try.f30
noncomputable abbrev trellislaw32_kind_c1 : Code := Code.fst trellislaw32_kind_c0
noncomputable abbrev trellislaw32_kind_c2 : Code := Code.snd trellislaw32_kind_c0
noncomputable abbrev trellislaw32_kind_c3 : Code := Code.fst trellislaw32_kind_c2
noncomputable abbrev trellislaw32_kind_c4 : Code := Code.snd trellislaw32_kind_c2
noncomputable abbrev trellislaw32_kind_c5 : Code := Code.fst trellislaw32_kind_c3
noncomputable abbrev trellislaw32_kind_c6 : Code := Code.snd trellislaw32_kind_c3
noncomputable abbrev trellislaw32_kind_c7 : Code := Code.fst trellislaw32_kind_c6
noncomputable abbrev trellislaw32_kind_c8 : Code := Code.snd trellislaw32_kind_c6
noncomputable abbrev trellislaw32_kind_c9 : Code := Code.fst trellislaw32_kind_c7
noncomputable abbrev trellislaw32_kind_c10 : Code := Code.snd trellislaw32_kind_c7
noncomputable abbrev trellislaw32_kind_c11 : Code := Code.fst trellislaw32_kind_c4
noncomputable abbrev trellislaw32_kind_c12 : Code := Code.snd trellislaw32_kind_c4
noncomputable abbrev trellislaw32_kind_c13 : Code := Code.fst trellislaw32_kind_c11
noncomputable abbrev trellislaw32_kind_c14 : Code := Code.snd trellislaw32_kind_c11
noncomputable abbrev trellislaw32_kind_c15 : Code := Code.fst trellislaw32_kind_c14
noncomputable abbrev trellislaw32_kind_c16 : Code := Code.fst trellislaw32_kind_c15
noncomputable abbrev trellislaw32_kind_c17 : Code := Code.snd trellislaw32_kind_c15
noncomputable abbrev trellislaw32_kind_c18 : Code := Code.fst trellislaw32_kind_c17
noncomputable abbrev trellislaw32_kind_c19 : Code := Code.snd trellislaw32_kind_c17
noncomputable abbrev trellislaw32_kind_c20 : Code := Code.fst trellislaw32_kind_c18
noncomputable abbrev trellislaw32_kind_c21 : Code := Code.snd trellislaw32_kind_c18
noncomputable abbrev trellislaw32_kind_c22 : Code := Code.fst trellislaw32_kind_c19
noncomputable abbrev trellislaw32_kind_c23 : Code := Code.snd trellislaw32_kind_c19
noncomputable abbrev trellislaw32_kind_c24 : Code := Code.fst trellislaw32_kind_c23
noncomputable abbrev trellislaw32_kind_c25 : Code := Code.snd trellislaw32_kind_c23
noncomputable abbrev trellislaw32_kind_c26 : Code := Code.fst trellislaw32_kind_c24
noncomputable abbrev trellislaw32_kind_c27 : Code := Code.snd trellislaw32_kind_c24
noncomputable abbrev trellislaw32_kind_c28 : Code := Code.fst trellislaw32_kind_c25
noncomputable abbrev trellislaw32_kind_c29 : Code := Code.snd trellislaw32_kind_c25
noncomputable abbrev trellislaw32_kind_c30 : Code := Code.fst trellislaw32_kind_c29
noncomputable abbrev trellislaw32_kind_c31 : Code := Code.snd trellislaw32_kind_c29
noncomputable abbrev trellislaw32_kind_c32 : Code := Code.fst trellislaw32_kind_c30
noncomputable abbrev trellislaw32_kind_c33 : Code := Code.snd trellislaw32_kind_c30
noncomputable abbrev trellislaw32_kind_c34 : Code := Code.fst trellislaw32_kind_c31
noncomputable abbrev trellislaw32_kind_c35 : Code := Code.snd trellislaw32_kind_c31
noncomputable abbrev trellislaw32_kind_c36 : Code := Code.fst trellislaw32_kind_c35
noncomputable abbrev trellislaw32_kind_c37 : Code := Code.snd trellislaw32_kind_c35
noncomputable abbrev trellislaw32_kind_c38 : Code := Code.fst trellislaw32_kind_c36
noncomputable abbrev trellislaw32_kind_c39 : Code := Code.snd trellislaw32_kind_c36
noncomputable abbrev trellislaw32_kind_c40 : Code := Code.fst trellislaw32_kind_c37
noncomputable abbrev trellislaw32_kind_c41 : Code := Code.snd trellislaw32_kind_c37
noncomputable abbrev trellislaw32_kind_c42 : Code := Code.fst trellislaw32_kind_c41
noncomputable abbrev trellislaw32_kind_c43 : Code := Code.snd trellislaw32_kind_c41
noncomputable abbrev trellislaw32_kind_c44 : Code := Code.fst trellislaw32_kind_c42
noncomputable abbrev trellislaw32_kind_c45 : Code := Code.snd trellislaw32_kind_c42
noncomputable abbrev trellislaw32_kind_c46 : Code := Code.fst trellislaw32_kind_c43
noncomputable abbrev trellislaw32_kind_c47 : Code := Code.snd trellislaw32_kind_c43
noncomputable abbrev trellislaw32_kind_c48 : Code := Code.fst trellislaw32_kind_c47
noncomputable abbrev trellislaw32_kind_c49 : Code := Code.snd trellislaw32_kind_c47
noncomputable abbrev trellislaw32_kind_c50 : Code := Code.fst trellislaw32_kind_c48
noncomputable abbrev trellislaw32_kind_c51 : Code := Code.snd trellislaw32_kind_c48
noncomputable abbrev trellislaw32_kind_c52 : Code := Code.fst trellislaw32_kind_c12
noncomputable abbrev trellislaw32_kind_c53 : Code := Code.snd trellislaw32_kind_c12
abbrev trellislaw32_kind_R (w : World) (F : Nat → Prop) (r : Int) : Ending → World → Prop := fun e w' => e = .returned (.int .i64 r) ∧ B.Loc w w' [] [St w []]
noncomputable abbrev trellislaw32_kind_C (w : World) (F : Nat → Prop) (r : Int) : Cx := ⟨Try.prog, 30, Try.f30, 19, trellislaw32_kind_R w F  r, w⟩
theorem trellislaw32_kind_calls (w : World) (F : Nat → Prop) (x1 : api_Node) (hF : ∀ b, F b → b < w.heap.size ∧ ∀ o ∈ ([] : List (List Nat)), b ∉ o) (hL0 : B.Loc w w [] [Sm w.heap.size F w [], St w []]) (r : Int) (h : trellislaw32_kind x1 r) : Calls Try.prog 30 #[.agg #[.string x1.name, .bool x1.named, .string x1.field, .int .i64 x1.from_, .int .i64 x1.to, .int .i64 x1.kids, .int .i64 x1.leaf]] w (trellislaw32_kind_R w F  r) := by
  unfold trellislaw32_kind at h
  refine calls_of_Loc (vs := [.agg #[.string x1.name, .bool x1.named, .string x1.field, .int .i64 x1.from_, .int .i64 x1.to, .int .i64 x1.kids, .int .i64 x1.leaf]]) 19 Try.func30 rfl Try.ntmps30 rfl hL0 ?_
  show G (trellislaw32_kind_C w F r) _ _ _ _
  refine g_seq (c := trellislaw32_kind_c0) rfl ?_
  refine g_region (c := trellislaw32_kind_c1) rfl rfl ?_
  refine wl_s 0 rfl (s_box [.string x1.name, .bool x1.named, .string x1.field, .int .i64 x1.from_, .int .i64 x1.to, .int .i64 x1.kids, .int .i64 x1.leaf] rfl rfl rfl fun gb2 => ?_) gn
  refine wl_v 1 rfl (v_assign rfl) gn rfl ?_
  refine w_end 2 rfl ?_
  refine g_seq (c := trellislaw32_kind_c2) rfl ?_
  refine g_seq (c := trellislaw32_kind_c3) rfl ?_
  refine g_region (c := trellislaw32_kind_c5) rfl rfl ?_
  refine wl_v 0 rfl (v_fldB fo_39_1 rfl) gn rfl ?_
  refine wl_v 1 rfl (v_ldB1 0 ld_4 rfl rfl rfl) gn rfl ?_
  refine w_end 2 rfl ?_
  by_cases hp4 : x1.named = true
  · have h := if_pos' hp4 h
    refine g_true (c := trellislaw32_kind_c6) rfl _ rfl (hp4) ?_
    refine g_seq (c := trellislaw32_kind_c7) rfl ?_
    refine g_region (c := trellislaw32_kind_c9) rfl rfl ?_
    refine wl_v 0 rfl (v_assign rfl) gn rfl ?_
    refine w_end 1 rfl ?_
    refine g_retR (c := trellislaw32_kind_c10) [.int .i64 0] rfl Try.func30 rfl (.tmp rfl (.nil)) fun wr hLr => ?_
    have hMr : B.Loc w wr [] [St w []] := hLr.pick (rest := [.box gb2 39 [.string x1.name, .bool x1.named, .string x1.field, .int .i64 x1.from_, .int .i64 x1.to, .int .i64 x1.kids, .int .i64 x1.leaf]]) (perm_of_idx [] [0] rfl rfl (by kernel_rfl)) (sels [1] rfl)
    have hMi : ∀ e ∈ ([] : List Ent), e ∈ ([.box gb2 39 [.string x1.name, .bool x1.named, .string x1.field, .int .i64 x1.from_, .int .i64 x1.to, .int .i64 x1.kids, .int .i64 x1.leaf]] : List Ent) := sels [] rfl
    show trellislaw32_kind_R w F  r (.returned (packV [.int .i64 0])) wr
    rw [h]
    exact ⟨rfl, hMr⟩
  · have h := if_neg' hp4 h
    refine g_false (c := trellislaw32_kind_c6) rfl _ rfl ((bf hp4)) ?_
    refine g_skip (c := trellislaw32_kind_c8) rfl ?_
    refine g_seq (c := trellislaw32_kind_c4) rfl ?_
    refine g_seq (c := trellislaw32_kind_c11) rfl ?_
    refine g_region (c := trellislaw32_kind_c13) rfl rfl ?_
    refine wl_v 0 rfl (v_fldB fo_39_0 rfl) gn rfl ?_
    refine wl_v 1 rfl (v_ldB1 0 ld_9 rfl rfl rfl) gn rfl ?_
    refine w_end 2 rfl ?_
    refine g_block (c := trellislaw32_kind_c14) rfl ?_
    refine g_seq (c := trellislaw32_kind_c15) rfl ?_
    refine g_region (c := trellislaw32_kind_c16) rfl rfl ?_
    refine wl_v 0 rfl (v_eqS rfl rfl) gn rfl ?_
    refine wl_v 1 rfl (v_assign rfl) gn rfl ?_
    refine w_end 2 rfl ?_
    by_cases hp5 : x1.name = (⟨#[40]⟩ : ByteArray)
    · have h := if_pos' hp5 h
      refine g_true (c := trellislaw32_kind_c17) rfl _ rfl ((seq_t hp5)) ?_
      refine g_seq (c := trellislaw32_kind_c18) rfl ?_
      refine g_region (c := trellislaw32_kind_c20) rfl rfl ?_
      refine wl_v 0 rfl (v_assign rfl) gn rfl ?_
      refine w_end 1 rfl ?_
      refine g_retR (c := trellislaw32_kind_c21) [.int .i64 1] rfl Try.func30 rfl (.tmp rfl (.nil)) fun wr hLr => ?_
      have hMr : B.Loc w wr [] [St w []] := hLr.pick (rest := [.box gb2 39 [.string x1.name, .bool x1.named, .string x1.field, .int .i64 x1.from_, .int .i64 x1.to, .int .i64 x1.kids, .int .i64 x1.leaf]]) (perm_of_idx [] [0] rfl rfl (by kernel_rfl)) (sels [1] rfl)
      have hMi : ∀ e ∈ ([] : List Ent), e ∈ ([.box gb2 39 [.string x1.name, .bool x1.named, .string x1.field, .int .i64 x1.from_, .int .i64 x1.to, .int .i64 x1.kids, .int .i64 x1.leaf]] : List Ent) := sels [] rfl
      show trellislaw32_kind_R w F  r (.returned (packV [.int .i64 1])) wr
      rw [h]
      exact ⟨rfl, hMr⟩
    · have h := if_neg' hp5 h
      refine g_false (c := trellislaw32_kind_c17) rfl _ rfl ((seq_f hp5)) ?_
      refine g_seq (c := trellislaw32_kind_c19) rfl ?_
      refine g_region (c := trellislaw32_kind_c22) rfl rfl ?_
      refine wl_v 0 rfl (v_eqS rfl rfl) gn rfl ?_
      refine wl_v 1 rfl (v_assign rfl) gn rfl ?_
      refine w_end 2 rfl ?_
      by_cases hp6 : x1.name = (⟨#[91]⟩ : ByteArray)
      · have h := if_pos' hp6 h
        refine g_true (c := trellislaw32_kind_c23) rfl _ rfl ((seq_t hp6)) ?_
        refine g_seq (c := trellislaw32_kind_c24) rfl ?_
        refine g_region (c := trellislaw32_kind_c26) rfl rfl ?_
        refine wl_v 0 rfl (v_assign rfl) gn rfl ?_
        refine w_end 1 rfl ?_
        refine g_retR (c := trellislaw32_kind_c27) [.int .i64 2] rfl Try.func30 rfl (.tmp rfl (.nil)) fun wr hLr => ?_
        have hMr : B.Loc w wr [] [St w []] := hLr.pick (rest := [.box gb2 39 [.string x1.name, .bool x1.named, .string x1.field, .int .i64 x1.from_, .int .i64 x1.to, .int .i64 x1.kids, .int .i64 x1.leaf]]) (perm_of_idx [] [0] rfl rfl (by kernel_rfl)) (sels [1] rfl)
        have hMi : ∀ e ∈ ([] : List Ent), e ∈ ([.box gb2 39 [.string x1.name, .bool x1.named, .string x1.field, .int .i64 x1.from_, .int .i64 x1.to, .int .i64 x1.kids, .int .i64 x1.leaf]] : List Ent) := sels [] rfl
        show trellislaw32_kind_R w F  r (.returned (packV [.int .i64 2])) wr
        rw [h]
        exact ⟨rfl, hMr⟩
      · have h := if_neg' hp6 h
        refine g_false (c := trellislaw32_kind_c23) rfl _ rfl ((seq_f hp6)) ?_
        refine g_seq (c := trellislaw32_kind_c25) rfl ?_
        refine g_region (c := trellislaw32_kind_c28) rfl rfl ?_
        refine wl_v 0 rfl (v_eqS rfl rfl) gn rfl ?_
        refine wl_v 1 rfl (v_assign rfl) gn rfl ?_
        refine w_end 2 rfl ?_
        by_cases hp7 : x1.name = (⟨#[123]⟩ : ByteArray)
        · have h := if_pos' hp7 h
          refine g_true (c := trellislaw32_kind_c29) rfl _ rfl ((seq_t hp7)) ?_
          refine g_seq (c := trellislaw32_kind_c30) rfl ?_
          refine g_region (c := trellislaw32_kind_c32) rfl rfl ?_
          refine wl_v 0 rfl (v_assign rfl) gn rfl ?_
          refine w_end 1 rfl ?_
          refine g_retR (c := trellislaw32_kind_c33) [.int .i64 3] rfl Try.func30 rfl (.tmp rfl (.nil)) fun wr hLr => ?_
          have hMr : B.Loc w wr [] [St w []] := hLr.pick (rest := [.box gb2 39 [.string x1.name, .bool x1.named, .string x1.field, .int .i64 x1.from_, .int .i64 x1.to, .int .i64 x1.kids, .int .i64 x1.leaf]]) (perm_of_idx [] [0] rfl rfl (by kernel_rfl)) (sels [1] rfl)
          have hMi : ∀ e ∈ ([] : List Ent), e ∈ ([.box gb2 39 [.string x1.name, .bool x1.named, .string x1.field, .int .i64 x1.from_, .int .i64 x1.to, .int .i64 x1.kids, .int .i64 x1.leaf]] : List Ent) := sels [] rfl
          show trellislaw32_kind_R w F  r (.returned (packV [.int .i64 3])) wr
          rw [h]
          exact ⟨rfl, hMr⟩
        · have h := if_neg' hp7 h
          refine g_false (c := trellislaw32_kind_c29) rfl _ rfl ((seq_f hp7)) ?_
          refine g_seq (c := trellislaw32_kind_c31) rfl ?_
          refine g_region (c := trellislaw32_kind_c34) rfl rfl ?_
          refine wl_v 0 rfl (v_eqS rfl rfl) gn rfl ?_
          refine wl_v 1 rfl (v_assign rfl) gn rfl ?_
          refine w_end 2 rfl ?_
          by_cases hp8 : x1.name = (⟨#[41]⟩ : ByteArray)
          · have h := if_pos' hp8 h
            refine g_true (c := trellislaw32_kind_c35) rfl _ rfl ((seq_t hp8)) ?_
            refine g_seq (c := trellislaw32_kind_c36) rfl ?_
            refine g_region (c := trellislaw32_kind_c38) rfl rfl ?_
            refine wl_v 0 rfl (v_assign rfl) gn rfl ?_
            refine w_end 1 rfl ?_
            refine g_retR (c := trellislaw32_kind_c39) [.int .i64 (-1)] rfl Try.func30 rfl (.tmp rfl (.nil)) fun wr hLr => ?_
            have hMr : B.Loc w wr [] [St w []] := hLr.pick (rest := [.box gb2 39 [.string x1.name, .bool x1.named, .string x1.field, .int .i64 x1.from_, .int .i64 x1.to, .int .i64 x1.kids, .int .i64 x1.leaf]]) (perm_of_idx [] [0] rfl rfl (by kernel_rfl)) (sels [1] rfl)
            have hMi : ∀ e ∈ ([] : List Ent), e ∈ ([.box gb2 39 [.string x1.name, .bool x1.named, .string x1.field, .int .i64 x1.from_, .int .i64 x1.to, .int .i64 x1.kids, .int .i64 x1.leaf]] : List Ent) := sels [] rfl
            show trellislaw32_kind_R w F  r (.returned (packV [.int .i64 (-1)])) wr
            rw [h]
            exact ⟨rfl, hMr⟩
          · have h := if_neg' hp8 h
            refine g_false (c := trellislaw32_kind_c35) rfl _ rfl ((seq_f hp8)) ?_
            refine g_seq (c := trellislaw32_kind_c37) rfl ?_
            refine g_region (c := trellislaw32_kind_c40) rfl rfl ?_
            refine wl_v 0 rfl (v_eqS rfl rfl) gn rfl ?_
            refine wl_v 1 rfl (v_assign rfl) gn rfl ?_
            refine w_end 2 rfl ?_
            by_cases hp9 : x1.name = (⟨#[93]⟩ : ByteArray)
            · have h := if_pos' hp9 h
              refine g_true (c := trellislaw32_kind_c41) rfl _ rfl ((seq_t hp9)) ?_
              refine g_seq (c := trellislaw32_kind_c42) rfl ?_
              refine g_region (c := trellislaw32_kind_c44) rfl rfl ?_
              refine wl_v 0 rfl (v_assign rfl) gn rfl ?_
              refine w_end 1 rfl ?_
              refine g_retR (c := trellislaw32_kind_c45) [.int .i64 (-2)] rfl Try.func30 rfl (.tmp rfl (.nil)) fun wr hLr => ?_
              have hMr : B.Loc w wr [] [St w []] := hLr.pick (rest := [.box gb2 39 [.string x1.name, .bool x1.named, .string x1.field, .int .i64 x1.from_, .int .i64 x1.to, .int .i64 x1.kids, .int .i64 x1.leaf]]) (perm_of_idx [] [0] rfl rfl (by kernel_rfl)) (sels [1] rfl)
              have hMi : ∀ e ∈ ([] : List Ent), e ∈ ([.box gb2 39 [.string x1.name, .bool x1.named, .string x1.field, .int .i64 x1.from_, .int .i64 x1.to, .int .i64 x1.kids, .int .i64 x1.leaf]] : List Ent) := sels [] rfl
              show trellislaw32_kind_R w F  r (.returned (packV [.int .i64 (-2)])) wr
              rw [h]
              exact ⟨rfl, hMr⟩
            · have h := if_neg' hp9 h
              refine g_false (c := trellislaw32_kind_c41) rfl _ rfl ((seq_f hp9)) ?_
              refine g_seq (c := trellislaw32_kind_c43) rfl ?_
              refine g_region (c := trellislaw32_kind_c46) rfl rfl ?_
              refine wl_v 0 rfl (v_eqS rfl rfl) gn rfl ?_
              refine wl_v 1 rfl (v_assign rfl) gn rfl ?_
              refine w_end 2 rfl ?_
              by_cases hp10 : x1.name = (⟨#[125]⟩ : ByteArray)
              · have h := if_pos' hp10 h
                refine g_true (c := trellislaw32_kind_c47) rfl _ rfl ((seq_t hp10)) ?_
                refine g_seq (c := trellislaw32_kind_c48) rfl ?_
                refine g_region (c := trellislaw32_kind_c50) rfl rfl ?_
                refine wl_v 0 rfl (v_assign rfl) gn rfl ?_
                refine w_end 1 rfl ?_
                refine g_retR (c := trellislaw32_kind_c51) [.int .i64 (-3)] rfl Try.func30 rfl (.tmp rfl (.nil)) fun wr hLr => ?_
                have hMr : B.Loc w wr [] [St w []] := hLr.pick (rest := [.box gb2 39 [.string x1.name, .bool x1.named, .string x1.field, .int .i64 x1.from_, .int .i64 x1.to, .int .i64 x1.kids, .int .i64 x1.leaf]]) (perm_of_idx [] [0] rfl rfl (by kernel_rfl)) (sels [1] rfl)
                have hMi : ∀ e ∈ ([] : List Ent), e ∈ ([.box gb2 39 [.string x1.name, .bool x1.named, .string x1.field, .int .i64 x1.from_, .int .i64 x1.to, .int .i64 x1.kids, .int .i64 x1.leaf]] : List Ent) := sels [] rfl
                show trellislaw32_kind_R w F  r (.returned (packV [.int .i64 (-3)])) wr
                rw [h]
                exact ⟨rfl, hMr⟩
              · have h := if_neg' hp10 h
                refine g_false (c := trellislaw32_kind_c47) rfl _ rfl ((seq_f hp10)) ?_
                refine g_skip (c := trellislaw32_kind_c49) rfl ?_
                refine g_inBlock ?_
                refine g_seq (c := trellislaw32_kind_c12) rfl ?_
                refine g_region (c := trellislaw32_kind_c52) rfl rfl ?_
                refine wl_v 0 rfl (v_assign rfl) gn rfl ?_
                refine w_end 1 rfl ?_
                refine g_retR (c := trellislaw32_kind_c53) [.int .i64 0] rfl Try.func30 rfl (.tmp rfl (.nil)) fun wr hLr => ?_
                have hMr : B.Loc w wr [] [St w []] := hLr.pick (rest := [.box gb2 39 [.string x1.name, .bool x1.named, .string x1.field, .int .i64 x1.from_, .int .i64 x1.to, .int .i64 x1.kids, .int .i64 x1.leaf]]) (perm_of_idx [] [0] rfl rfl (by kernel_rfl)) (sels [1] rfl)
                have hMi : ∀ e ∈ ([] : List Ent), e ∈ ([.box gb2 39 [.string x1.name, .bool x1.named, .string x1.field, .int .i64 x1.from_, .int .i64 x1.to, .int .i64 x1.kids, .int .i64 x1.leaf]] : List Ent) := sels [] rfl
                show trellislaw32_kind_R w F  r (.returned (packV [.int .i64 0])) wr
                rw [h]
                exact ⟨rfl, hMr⟩
noncomputable abbrev trellislaw32_ChoosePairs_c0 : Code := bodyOf Try.f7
noncomputable abbrev trellislaw32_ChoosePairs_c1 : Code := Code.fst trellislaw32_ChoosePairs_c0
noncomputable abbrev trellislaw32_ChoosePairs_c2 : Code := Code.snd trellislaw32_ChoosePairs_c0
noncomputable abbrev trellislaw32_ChoosePairs_c3 : Code := Code.fst trellislaw32_ChoosePairs_c2
noncomputable abbrev trellislaw32_ChoosePairs_c4 : Code := Code.snd trellislaw32_ChoosePairs_c2
noncomputable abbrev trellislaw32_ChoosePairs_c5 : Code := Code.fst trellislaw32_ChoosePairs_c3
noncomputable abbrev trellislaw32_ChoosePairs_c6 : Code := Code.snd trellislaw32_ChoosePairs_c3
noncomputable abbrev trellislaw32_ChoosePairs_c7 : Code := Code.fst trellislaw32_ChoosePairs_c6
noncomputable abbrev trellislaw32_ChoosePairs_c8 : Code := Code.snd trellislaw32_ChoosePairs_c6
noncomputable abbrev trellislaw32_ChoosePairs_c9 : Code := Code.fst trellislaw32_ChoosePairs_c4
noncomputable abbrev trellislaw32_ChoosePairs_c10 : Code := Code.snd trellislaw32_ChoosePairs_c4
noncomputable abbrev trellislaw32_ChoosePairs_c11 : Code := Code.fst trellislaw32_ChoosePairs_c9
noncomputable abbrev trellislaw32_ChoosePairs_c12 : Code := Code.snd trellislaw32_ChoosePairs_c9
noncomputable abbrev trellislaw32_ChoosePairs_c13 : Code := Code.fst trellislaw32_ChoosePairs_c12
noncomputable abbrev trellislaw32_ChoosePairs_c14 : Code := Code.snd trellislaw32_ChoosePairs_c12
noncomputable abbrev trellislaw32_ChoosePairs_c15 : Code := Code.fst trellislaw32_ChoosePairs_c13
noncomputable abbrev trellislaw32_ChoosePairs_c16 : Code := Code.snd trellislaw32_ChoosePairs_c13
noncomputable abbrev trellislaw32_ChoosePairs_c17 : Code := Code.fst trellislaw32_ChoosePairs_c10
noncomputable abbrev trellislaw32_ChoosePairs_c18 : Code := Code.snd trellislaw32_ChoosePairs_c10
noncomputable abbrev trellislaw32_ChoosePairs_c19 : Code := Code.fst trellislaw32_ChoosePairs_c18
noncomputable abbrev trellislaw32_ChoosePairs_c20 : Code := Code.snd trellislaw32_ChoosePairs_c18
noncomputable abbrev trellislaw32_ChoosePairs_c21 : Code := Code.fst trellislaw32_ChoosePairs_c19
noncomputable abbrev trellislaw32_ChoosePairs_c22 : Code := Code.snd trellislaw32_ChoosePairs_c19
noncomputable abbrev trellislaw32_ChoosePairs_c23 : Code := Code.fst trellislaw32_ChoosePairs_c22
noncomputable abbrev trellislaw32_ChoosePairs_c24 : Code := Code.snd trellislaw32_ChoosePairs_c22
noncomputable abbrev trellislaw32_ChoosePairs_c25 : Code := Code.fst trellislaw32_ChoosePairs_c23
noncomputable abbrev trellislaw32_ChoosePairs_c26 : Code := Code.snd trellislaw32_ChoosePairs_c23
noncomputable abbrev trellislaw32_ChoosePairs_c27 : Code := Code.fst trellislaw32_ChoosePairs_c20
noncomputable abbrev trellislaw32_ChoosePairs_c28 : Code := Code.snd trellislaw32_ChoosePairs_c20
noncomputable abbrev trellislaw32_ChoosePairs_c29 : Code := Code.fst trellislaw32_ChoosePairs_c27
noncomputable abbrev trellislaw32_ChoosePairs_c30 : Code := Code.snd trellislaw32_ChoosePairs_c27
noncomputable abbrev trellislaw32_ChoosePairs_c31 : Code := Code.fst trellislaw32_ChoosePairs_c30
noncomputable abbrev trellislaw32_ChoosePairs_c32 : Code := Code.snd trellislaw32_ChoosePairs_c30
noncomputable abbrev trellislaw32_ChoosePairs_c33 : Code := Code.fst trellislaw32_ChoosePairs_c31
noncomputable abbrev trellislaw32_ChoosePairs_c34 : Code := Code.snd trellislaw32_ChoosePairs_c31
noncomputable abbrev trellislaw32_ChoosePairs_c35 : Code := Code.fst trellislaw32_ChoosePairs_c34
noncomputable abbrev trellislaw32_ChoosePairs_c36 : Code := Code.snd trellislaw32_ChoosePairs_c34
noncomputable abbrev trellislaw32_ChoosePairs_c37 : Code := Code.fst trellislaw32_ChoosePairs_c28
noncomputable abbrev trellislaw32_ChoosePairs_c38 : Code := Code.snd trellislaw32_ChoosePairs_c28
noncomputable abbrev trellislaw32_ChoosePairs_c39 : Code := Code.fst trellislaw32_ChoosePairs_c37
noncomputable abbrev trellislaw32_ChoosePairs_c40 : Code := Code.snd trellislaw32_ChoosePairs_c37
noncomputable abbrev trellislaw32_ChoosePairs_c41 : Code := Code.fst trellislaw32_ChoosePairs_c40
noncomputable abbrev trellislaw32_ChoosePairs_c42 : Code := Code.snd trellislaw32_ChoosePairs_c40
noncomputable abbrev trellislaw32_ChoosePairs_c43 : Code := Code.fst trellislaw32_ChoosePairs_c41
noncomputable abbrev trellislaw32_ChoosePairs_c44 : Code := Code.snd trellislaw32_ChoosePairs_c41
noncomputable abbrev trellislaw32_ChoosePairs_c45 : Code := Code.fst trellislaw32_ChoosePairs_c38
noncomputable abbrev trellislaw32_ChoosePairs_c46 : Code := Code.snd trellislaw32_ChoosePairs_c38
noncomputable abbrev trellislaw32_ChoosePairs_c47 : Code := Code.fst trellislaw32_ChoosePairs_c46
noncomputable abbrev trellislaw32_ChoosePairs_c48 : Code := Code.snd trellislaw32_ChoosePairs_c46
noncomputable abbrev trellislaw32_ChoosePairs_c49 : Code := Code.fst trellislaw32_ChoosePairs_c48
noncomputable abbrev trellislaw32_ChoosePairs_c50 : Code := Code.snd trellislaw32_ChoosePairs_c48
noncomputable abbrev trellislaw32_ChoosePairs_c51 : Code := Code.fst trellislaw32_ChoosePairs_c49
noncomputable abbrev trellislaw32_ChoosePairs_c52 : Code := Code.snd trellislaw32_ChoosePairs_c49
noncomputable abbrev trellislaw32_ChoosePairs_c53 : Code := Code.fst trellislaw32_ChoosePairs_c52
noncomputable abbrev trellislaw32_ChoosePairs_c54 : Code := Code.snd trellislaw32_ChoosePairs_c52
noncomputable abbrev trellislaw32_ChoosePairs_c55 : Code := Code.fst trellislaw32_ChoosePairs_c50
noncomputable abbrev trellislaw32_ChoosePairs_c56 : Code := Code.snd trellislaw32_ChoosePairs_c50
noncomputable abbrev trellislaw32_ChoosePairs_c57 : Code := Code.fst trellislaw32_ChoosePairs_c55
noncomputable abbrev trellislaw32_ChoosePairs_c58 : Code := Code.snd trellislaw32_ChoosePairs_c55
noncomputable abbrev trellislaw32_ChoosePairs_c59 : Code := Code.fst trellislaw32_ChoosePairs_c58
noncomputable abbrev trellislaw32_ChoosePairs_c60 : Code := Code.fst trellislaw32_ChoosePairs_c59
noncomputable abbrev trellislaw32_ChoosePairs_c61 : Code := Code.fst trellislaw32_ChoosePairs_c60
noncomputable abbrev trellislaw32_ChoosePairs_c62 : Code := Code.snd trellislaw32_ChoosePairs_c60
noncomputable abbrev trellislaw32_ChoosePairs_c63 : Code := Code.fst trellislaw32_ChoosePairs_c61
noncomputable abbrev trellislaw32_ChoosePairs_c64 : Code := Code.snd trellislaw32_ChoosePairs_c61
noncomputable abbrev trellislaw32_ChoosePairs_c65 : Code := Code.fst trellislaw32_ChoosePairs_c64
noncomputable abbrev trellislaw32_ChoosePairs_c66 : Code := Code.snd trellislaw32_ChoosePairs_c64
noncomputable abbrev trellislaw32_ChoosePairs_c67 : Code := Code.fst trellislaw32_ChoosePairs_c62
noncomputable abbrev trellislaw32_ChoosePairs_c68 : Code := Code.snd trellislaw32_ChoosePairs_c62
noncomputable abbrev trellislaw32_ChoosePairs_c69 : Code := Code.fst trellislaw32_ChoosePairs_c67
noncomputable abbrev trellislaw32_ChoosePairs_c70 : Code := Code.fst trellislaw32_ChoosePairs_c69
noncomputable abbrev trellislaw32_ChoosePairs_c71 : Code := Code.snd trellislaw32_ChoosePairs_c69
noncomputable abbrev trellislaw32_ChoosePairs_c72 : Code := Code.fst trellislaw32_ChoosePairs_c71
noncomputable abbrev trellislaw32_ChoosePairs_c73 : Code := Code.snd trellislaw32_ChoosePairs_c71
noncomputable abbrev trellislaw32_ChoosePairs_c74 : Code := Code.fst trellislaw32_ChoosePairs_c73
noncomputable abbrev trellislaw32_ChoosePairs_c75 : Code := Code.snd trellislaw32_ChoosePairs_c73
noncomputable abbrev trellislaw32_ChoosePairs_c76 : Code := Code.fst trellislaw32_ChoosePairs_c74
noncomputable abbrev trellislaw32_ChoosePairs_c77 : Code := Code.snd trellislaw32_ChoosePairs_c74
noncomputable abbrev trellislaw32_ChoosePairs_c78 : Code := Code.fst trellislaw32_ChoosePairs_c56
noncomputable abbrev trellislaw32_ChoosePairs_c79 : Code := Code.snd trellislaw32_ChoosePairs_c56
noncomputable abbrev trellislaw32_ChoosePairs_c80 : Code := Code.fst trellislaw32_ChoosePairs_c7
noncomputable abbrev trellislaw32_ChoosePairs_c81 : Code := Code.snd trellislaw32_ChoosePairs_c7
abbrev trellislaw32_ChoosePairs_R (w : World) (F : Nat → Prop) (r : Bool) : Ending → World → Prop := fun e w' => e = .returned (.bool r) ∧ B.Loc w w' [] [St w []]
noncomputable abbrev trellislaw32_ChoosePairs_C (w : World) (F : Nat → Prop) (r : Bool) : Cx := ⟨Try.prog, 7, Try.f7, 149, trellislaw32_ChoosePairs_R w F  r, w⟩
theorem trellislaw32_ChoosePairs_calls (w : World) (F : Nat → Prop) (x1 : List api_Node) (x6 : Int) (A2 : Option Addr) (n3 : Nat) (c4 : Nat) (h5 : Rw k_api_Node w (St w []).av A2 n3 c4 x1) (hF : ∀ b, F b → b < w.heap.size ∧ ∀ o ∈ ([] : List (List Nat)), b ∉ o) (hL0 : B.Loc w w [] [Sm w.heap.size F w [], St w []]) (r : Bool) (h : trellislaw32_ChoosePairs x1 x6 r) : Calls Try.prog 7 #[.slice A2 n3 c4, .int .i64 x6] w (trellislaw32_ChoosePairs_R w F  r) := by
  unfold trellislaw32_ChoosePairs at h
  refine calls_of_Loc (vs := [.slice A2 n3 c4, .int .i64 x6]) 149 Try.func7 rfl Try.ntmps7 rfl hL0 ?_
  show G (trellislaw32_ChoosePairs_C w F r) _ _ _ _
  refine g_seq (c := trellislaw32_ChoosePairs_c0) rfl ?_
  refine g_region (c := trellislaw32_ChoosePairs_c1) rfl rfl ?_
  refine wl_v 0 rfl (v_assign rfl) gn rfl ?_
  refine w_end 1 rfl ?_
  refine g_seq (c := trellislaw32_ChoosePairs_c2) rfl ?_
  refine g_seq (c := trellislaw32_ChoosePairs_c3) rfl ?_
  refine g_region (c := trellislaw32_ChoosePairs_c5) rfl rfl ?_
  obtain ⟨r10, hv11, h⟩ := h
  refine wl_s 0 rfl (s_call [] rfl Try.func25 rfl rfl rfl fun w7 hL8 => ?_) gn
  have hp9 : List.Perm ([] : List Ent) (([] : List Ent) ++ ([] : List Ent)) := perm_of_idx [] [] rfl rfl (by kernel_rfl)
  refine Calls.mono (trellislaw32_started_calls w7 (Fl ([] : List Snap)) (hL8.hFl (Sl := ([] : List Snap)) hp9 (sels [] rfl)) (hL8.into hp9 (Fl ([] : List Snap))) r10 hv11) ?_
  rintro _ w12 ⟨rfl, hM13⟩
  have hL14 := hL8.call hp9 hM13
  refine ⟨_, _, _, rfl, hL14, ?_⟩
  refine wl_v 1 rfl (v_not rfl) gn rfl ?_
  refine w_end 2 rfl ?_
  by_cases hp15 : r10 = true
  · have h := if_pos' hp15 h
    refine g_false (c := trellislaw32_ChoosePairs_c6) rfl _ rfl ((nf hp15)) ?_
    refine g_skip (c := trellislaw32_ChoosePairs_c8) rfl ?_
    refine g_seq (c := trellislaw32_ChoosePairs_c4) rfl ?_
    refine g_seq (c := trellislaw32_ChoosePairs_c9) rfl ?_
    refine g_region (c := trellislaw32_ChoosePairs_c11) rfl rfl ?_
    refine wl_v 0 rfl (v_move rfl) gn rfl ?_
    obtain ⟨r19, hv20, h⟩ := h
    refine wl_s 1 rfl (s_call [.slice A2 n3 c4] rfl Try.func9 rfl rfl rfl fun w16 hL17 => ?_) gn
    have hp18 : List.Perm ([] : List Ent) (([] : List Ent) ++ ([] : List Ent)) := perm_of_idx [] [] rfl rfl (by kernel_rfl)
    refine Calls.mono (trellisref15_Beyond_calls w16 (Fl ([] : List Snap)) x1 A2 n3 c4 (Rw.mono h5 (hL17.toSt hp18 (me 1 rfl))) (hL17.hFl (Sl := ([] : List Snap)) hp18 (sels [] rfl)) (hL17.into hp18 (Fl ([] : List Snap))) r19 hv20) ?_
    rintro _ w21 ⟨rfl, hM22⟩
    have hL23 := hL17.call hp18 hM22
    refine ⟨_, _, _, rfl, hL23, ?_⟩
    refine w_end 2 rfl ?_
    by_cases hp24 : r19 = true
    · have h := if_pos' hp24 h
      refine g_true (c := trellislaw32_ChoosePairs_c12) rfl _ rfl (hp24) ?_
      refine g_seq (c := trellislaw32_ChoosePairs_c13) rfl ?_
      refine g_region (c := trellislaw32_ChoosePairs_c15) rfl rfl ?_
      refine wl_v 0 rfl (v_assign rfl) gn rfl ?_
      refine w_end 1 rfl ?_
      refine g_retR (c := trellislaw32_ChoosePairs_c16) [.bool true] rfl Try.func7 rfl (.tmp rfl (.nil)) fun wr hLr => ?_
      have hMr : B.Loc w wr [] [St w []] := hLr.pick (rest := []) (perm_of_idx [] [] rfl rfl (by kernel_rfl)) (sels [1] rfl)
      have hMi : ∀ e ∈ ([] : List Ent), e ∈ ([] : List Ent) := sels [] rfl
      show trellislaw32_ChoosePairs_R w F  r (.returned (packV [.bool true])) wr
      rw [h]
      exact ⟨rfl, hMr⟩
    · have h := if_neg' hp24 h
      refine g_false (c := trellislaw32_ChoosePairs_c12) rfl _ rfl ((bf hp24)) ?_
      refine g_skip (c := trellislaw32_ChoosePairs_c14) rfl ?_
      refine g_seq (c := trellislaw32_ChoosePairs_c10) rfl ?_
      refine g_region (c := trellislaw32_ChoosePairs_c17) rfl rfl ?_
      refine wl_v 0 rfl (v_move rfl) gn rfl ?_
      refine wl_v 1 rfl (v_move rfl) gn rfl ?_
      obtain ⟨r28, hv29, h⟩ := h
      refine wl_s 2 rfl (s_call [.slice A2 n3 c4, .int .i64 x6] rfl Try.func29 rfl rfl rfl fun w25 hL26 => ?_) gn
      have hp27 : List.Perm ([] : List Ent) (([] : List Ent) ++ ([] : List Ent)) := perm_of_idx [] [] rfl rfl (by kernel_rfl)
      refine Calls.mono (choose_Pair_calls w25 (Fl ([] : List Snap)) x1 x6 A2 n3 c4 (Rw.mono h5 (hL26.toSt hp27 (me 1 rfl))) (hL26.hFl (Sl := ([] : List Snap)) hp27 (sels [] rfl)) (hL26.into hp27 (Fl ([] : List Snap))) r28 hv29) ?_
      rintro _ w30 ⟨rfl, hM31⟩
      have hL32 := hL26.call hp27 hM31
      refine ⟨_, _, _, rfl, hL32, ?_⟩
      refine wl_v 3 rfl (v_assign rfl) gn rfl ?_
      refine w_end 4 rfl ?_
      refine g_seq (c := trellislaw32_ChoosePairs_c18) rfl ?_
      refine g_seq (c := trellislaw32_ChoosePairs_c19) rfl ?_
      have j1 : ∀ (x55 : Bool) (h : trellislaw32_ChoosePairs_j1 r28 x1 x6 x55 r) , G (trellislaw32_ChoosePairs_C w F r) [.code trellislaw32_ChoosePairs_c22, .code trellislaw32_ChoosePairs_c20] [(0, .slice A2 n3 c4), (1, .int .i64 x6), (5, .int .i64 r28), (38, .bool x55)] [] [Sm w.heap.size F w [], St w []] := by
        intro x55 h
        unfold trellislaw32_ChoosePairs_j1 at h
        by_cases hp56 : x55 = true
        · have h := if_pos' hp56 h
          refine g_true (c := trellislaw32_ChoosePairs_c22) rfl _ rfl (hp56) ?_
          refine g_seq (c := trellislaw32_ChoosePairs_c23) rfl ?_
          refine g_region (c := trellislaw32_ChoosePairs_c25) rfl rfl ?_
          refine wl_v 0 rfl (v_move rfl) gn rfl ?_
          refine wl_v 1 rfl (v_bin rfl rfl rfl) gn rfl ?_
          refine wl_v 2 rfl (v_assign rfl) gn rfl ?_
          refine w_end 3 rfl ?_
          refine g_retR (c := trellislaw32_ChoosePairs_c26) [.bool (r28 == (-1))] rfl Try.func7 rfl (.tmp rfl (.nil)) fun wr hLr => ?_
          have hMr : B.Loc w wr [] [St w []] := hLr.pick (rest := []) (perm_of_idx [] [] rfl rfl (by kernel_rfl)) (sels [1] rfl)
          have hMi : ∀ e ∈ ([] : List Ent), e ∈ ([] : List Ent) := sels [] rfl
          show trellislaw32_ChoosePairs_R w F  r (.returned (packV [.bool (r28 == (-1))])) wr
          rw [h]
          exact ⟨rfl, hMr⟩
        · have h := if_neg' hp56 h
          refine g_false (c := trellislaw32_ChoosePairs_c22) rfl _ rfl ((bf hp56)) ?_
          refine g_skip (c := trellislaw32_ChoosePairs_c24) rfl ?_
          refine g_seq (c := trellislaw32_ChoosePairs_c20) rfl ?_
          refine g_seq (c := trellislaw32_ChoosePairs_c27) rfl ?_
          refine g_region (c := trellislaw32_ChoosePairs_c29) rfl rfl ?_
          refine wl_v 0 rfl (v_move rfl) gn rfl ?_
          refine wl_v 1 rfl (v_bin rfl rfl rfl) gn rfl ?_
          refine w_end 2 rfl ?_
          by_cases hp57 : r28 = -1
          · have h := if_pos' hp57 h
            refine g_true (c := trellislaw32_ChoosePairs_c30) rfl _ rfl ((eqi hp57)) ?_
            refine g_seq (c := trellislaw32_ChoosePairs_c31) rfl ?_
            refine g_region (c := trellislaw32_ChoosePairs_c33) rfl rfl ?_
            refine wl_v 0 rfl (v_move rfl) gn rfl ?_
            refine wl_v 1 rfl (v_move rfl) gn rfl ?_
            obtain ⟨r61, hv62, h⟩ := h
            refine wl_s 2 rfl (s_call [.slice A2 n3 c4, .int .i64 x6, .int .i64 1] rfl Try.func31 rfl rfl rfl fun w58 hL59 => ?_) gn
            have hp60 : List.Perm ([] : List Ent) (([] : List Ent) ++ ([] : List Ent)) := perm_of_idx [] [] rfl rfl (by kernel_rfl)
            refine Calls.mono (choose_Beside_calls w58 (Fl ([] : List Snap)) x1 x6 1 A2 n3 c4 (Rw.mono h5 (hL59.toSt hp60 (me 1 rfl))) (hL59.hFl (Sl := ([] : List Snap)) hp60 (sels [] rfl)) (hL59.into hp60 (Fl ([] : List Snap))) r61 hv62) ?_
            rintro _ w63 ⟨rfl, hM64⟩
            have hL65 := hL59.call hp60 hM64
            refine ⟨_, _, _, rfl, hL65, ?_⟩
            refine wl_v 3 rfl (v_assign rfl) gn rfl ?_
            refine w_end 4 rfl ?_
            refine g_seq (c := trellislaw32_ChoosePairs_c34) rfl ?_
            have j2 : ∀ (x276 : Bool) (h : trellislaw32_ChoosePairs_j2 x276 r) , G (trellislaw32_ChoosePairs_C w F r) [.code trellislaw32_ChoosePairs_c36, .code trellislaw32_ChoosePairs_c28] [(4, .bool x276)] [] [Sm w.heap.size F w [], St w []] := by
              intro x276 h
              unfold trellislaw32_ChoosePairs_j2 at h
              refine g_retR (c := trellislaw32_ChoosePairs_c36) [.bool x276] rfl Try.func7 rfl (.tmp rfl (.nil)) fun wr hLr => ?_
              have hMr : B.Loc w wr [] [St w []] := hLr.pick (rest := []) (perm_of_idx [] [] rfl rfl (by kernel_rfl)) (sels [1] rfl)
              have hMi : ∀ e ∈ ([] : List Ent), e ∈ ([] : List Ent) := sels [] rfl
              show trellislaw32_ChoosePairs_R w F  r (.returned (packV [.bool x276])) wr
              rw [h]
              exact ⟨rfl, hMr⟩
            obtain ⟨hb277, h⟩ := h
            obtain ⟨r282, hv283, h⟩ := h
            by_cases hp287 : r282 < 0
            · have h := if_pos' hp287 h
              have hns : Region.noSelect (Code.ops trellislaw32_ChoosePairs_c35) = true := by kernel_rfl
              refine g_drawF (c := trellislaw32_ChoosePairs_c35) [] [Sm w.heap.size F w [], St w []] [] 25 rfl rfl mix rfl (.slnil) (sels [0, 1] rfl) ?_
              refine wf_v 0 rfl (v_move rfl) gn rfl hns (by kernel_rfl) (by kernel_rfl) rfl rfl ?_
              refine wf_v 1 rfl (v_move rfl) gn rfl hns (by kernel_rfl) (by kernel_rfl) rfl rfl ?_
              have hr301 := Rw.readF (s := St w []) (hl := hl_api_Node) (h1 := h1_api_Node) h5 hb277
              refine wf_v 2 rfl (v_idxR (s := St w []) slE_22 rfl rfl h5 hb277) gn rfl hns (by kernel_rfl) (by kernel_rfl) rfl rfl ?_
              refine wf_v 3 rfl (v_ldA (St w []) ld_39 rfl hr301 rfl (me 1 rfl)) gn rfl hns (by kernel_rfl) (by kernel_rfl) rfl rfl ?_
              refine wf_all [4] (by kernel_rfl) rfl ⟨on_s 4 rfl gn rfl (s_call [.agg #[.string ((ix x1 x6).name), .bool ((ix x1 x6).named), .string ((ix x1 x6).field), .int .i64 ((ix x1 x6).from_), .int .i64 ((ix x1 x6).to), .int .i64 ((ix x1 x6).kids), .int .i64 ((ix x1 x6).leaf)]] rfl Try.func30 rfl rfl rfl fun w308 hL309 => ?_), trivial⟩
              have hp310 : List.Perm ([] : List Ent) (([] : List Ent) ++ ([] : List Ent)) := perm_of_idx [] [] rfl rfl (by kernel_rfl)
              refine Calls.mono (trellislaw32_kind_calls w308 (Fl ([] : List Snap)) (ix x1 x6) (hL309.hFl (Sl := ([] : List Snap)) hp310 (sels [] rfl)) (hL309.into hp310 (Fl ([] : List Snap))) r282 hv283) ?_
              rintro _ w311 ⟨rfl, hM312⟩
              have hL313 := hL309.call hp310 hM312
              refine ⟨_, _, _, rfl, hL313, ?_⟩
              refine ⟨sels [] rfl, sels [0, 1] rfl, ?_⟩
              refine wf_v 5 rfl (v_bin rfl rfl rfl) gn rfl hns (by kernel_rfl) (by kernel_rfl) rfl rfl ?_
              refine wf_v 6 rfl (v_move rfl) gn rfl hns (by kernel_rfl) (by kernel_rfl) rfl rfl ?_
              refine wf_bool 52 rfl ((decide_eq_true hp287)) ?_
              refine wf_pass 7 rfl (ps 52 rfl rfl rfl) hns (by kernel_rfl) (by kernel_rfl) rfl rfl ?_
              refine wf_pass 8 rfl (ps 52 rfl rfl rfl) hns (by kernel_rfl) (by kernel_rfl) rfl rfl ?_
              refine wf_v 9 rfl (v_pick (b := true) rfl rfl) gn rfl hns (by kernel_rfl) (by kernel_rfl) rfl rfl ?_
              refine wf_v 10 rfl (v_move rfl) gn rfl hns (by kernel_rfl) (by kernel_rfl) rfl rfl ?_
              refine wf_pass 11 rfl (ps 56 rfl rfl rfl) hns (by kernel_rfl) (by kernel_rfl) rfl rfl ?_
              refine wf_pass 12 rfl (ps 56 rfl rfl rfl) hns (by kernel_rfl) (by kernel_rfl) rfl rfl ?_
              refine wf_pass 13 rfl (ps 56 rfl rfl rfl) hns (by kernel_rfl) (by kernel_rfl) rfl rfl ?_
              refine wf_pass 14 rfl (ps 56 rfl rfl rfl) hns (by kernel_rfl) (by kernel_rfl) rfl rfl ?_
              refine wf_pass 15 rfl (ps 56 rfl rfl rfl) hns (by kernel_rfl) (by kernel_rfl) rfl rfl ?_
              refine wf_pass 16 rfl (ps 56 rfl rfl rfl) hns (by kernel_rfl) (by kernel_rfl) rfl rfl ?_
              refine wf_pass 17 rfl (ps 56 rfl rfl rfl) hns (by kernel_rfl) (by kernel_rfl) rfl rfl ?_
              refine wf_pass 18 rfl (ps 56 rfl rfl rfl) hns (by kernel_rfl) (by kernel_rfl) rfl rfl ?_
              refine wf_pass 19 rfl (ps 56 rfl rfl rfl) hns (by kernel_rfl) (by kernel_rfl) rfl rfl ?_
              refine wf_pass 20 rfl (ps 56 rfl rfl rfl) hns (by kernel_rfl) (by kernel_rfl) rfl rfl ?_
              refine wf_pass 21 rfl (ps 56 rfl rfl rfl) hns (by kernel_rfl) (by kernel_rfl) rfl rfl ?_
              refine wf_pass 22 rfl (ps 56 rfl rfl rfl) hns (by kernel_rfl) (by kernel_rfl) rfl rfl ?_
              refine wf_v 23 rfl (v_pick (b := true) rfl rfl) gn rfl hns (by kernel_rfl) (by kernel_rfl) rfl rfl ?_
              refine wf_v 24 rfl (v_assign rfl) gn rfl hns (by kernel_rfl) (by kernel_rfl) rfl rfl ?_
              refine wf_end (by kernel_rfl) ?_
              exact g_go [0, 1] (j2 true h) ⟨rfl, trivial⟩ (.slnil) rfl
            · have h := if_neg' hp287 h
              by_cases hp314 : r61 < 0
              · have h := if_pos' hp314 h
                have hns : Region.noSelect (Code.ops trellislaw32_ChoosePairs_c35) = true := by kernel_rfl
                refine g_drawF (c := trellislaw32_ChoosePairs_c35) [] [Sm w.heap.size F w [], St w []] [] 25 rfl rfl mix rfl (.slnil) (sels [0, 1] rfl) ?_
                refine wf_v 0 rfl (v_move rfl) gn rfl hns (by kernel_rfl) (by kernel_rfl) rfl rfl ?_
                refine wf_v 1 rfl (v_move rfl) gn rfl hns (by kernel_rfl) (by kernel_rfl) rfl rfl ?_
                have hr328 := Rw.readF (s := St w []) (hl := hl_api_Node) (h1 := h1_api_Node) h5 hb277
                refine wf_v 2 rfl (v_idxR (s := St w []) slE_22 rfl rfl h5 hb277) gn rfl hns (by kernel_rfl) (by kernel_rfl) rfl rfl ?_
                refine wf_v 3 rfl (v_ldA (St w []) ld_39 rfl hr328 rfl (me 1 rfl)) gn rfl hns (by kernel_rfl) (by kernel_rfl) rfl rfl ?_
                refine wf_all [4] (by kernel_rfl) rfl ⟨on_s 4 rfl gn rfl (s_call [.agg #[.string ((ix x1 x6).name), .bool ((ix x1 x6).named), .string ((ix x1 x6).field), .int .i64 ((ix x1 x6).from_), .int .i64 ((ix x1 x6).to), .int .i64 ((ix x1 x6).kids), .int .i64 ((ix x1 x6).leaf)]] rfl Try.func30 rfl rfl rfl fun w335 hL336 => ?_), trivial⟩
                have hp337 : List.Perm ([] : List Ent) (([] : List Ent) ++ ([] : List Ent)) := perm_of_idx [] [] rfl rfl (by kernel_rfl)
                refine Calls.mono (trellislaw32_kind_calls w335 (Fl ([] : List Snap)) (ix x1 x6) (hL336.hFl (Sl := ([] : List Snap)) hp337 (sels [] rfl)) (hL336.into hp337 (Fl ([] : List Snap))) r282 hv283) ?_
                rintro _ w338 ⟨rfl, hM339⟩
                have hL340 := hL336.call hp337 hM339
                refine ⟨_, _, _, rfl, hL340, ?_⟩
                refine ⟨sels [] rfl, sels [0, 1] rfl, ?_⟩
                refine wf_v 5 rfl (v_bin rfl rfl rfl) gn rfl hns (by kernel_rfl) (by kernel_rfl) rfl rfl ?_
                refine wf_v 6 rfl (v_move rfl) gn rfl hns (by kernel_rfl) (by kernel_rfl) rfl rfl ?_
                refine wf_bool 52 rfl ((decide_eq_false hp287)) ?_
                refine wf_v 7 rfl (v_move rfl) (gy 52 rfl rfl) rfl hns (by kernel_rfl) (by kernel_rfl) rfl rfl ?_
                refine wf_v 8 rfl (v_bin rfl rfl rfl) (gy 52 rfl rfl) rfl hns (by kernel_rfl) (by kernel_rfl) rfl rfl ?_
                refine wf_v 9 rfl (v_pick (b := false) rfl rfl) gn rfl hns (by kernel_rfl) (by kernel_rfl) rfl rfl ?_
                refine wf_v 10 rfl (v_move rfl) gn rfl hns (by kernel_rfl) (by kernel_rfl) rfl rfl ?_
                refine wf_bool 56 rfl ((decide_eq_true hp314)) ?_
                refine wf_pass 11 rfl (ps 56 rfl rfl rfl) hns (by kernel_rfl) (by kernel_rfl) rfl rfl ?_
                refine wf_pass 12 rfl (ps 56 rfl rfl rfl) hns (by kernel_rfl) (by kernel_rfl) rfl rfl ?_
                refine wf_pass 13 rfl (ps 56 rfl rfl rfl) hns (by kernel_rfl) (by kernel_rfl) rfl rfl ?_
                refine wf_pass 14 rfl (ps 56 rfl rfl rfl) hns (by kernel_rfl) (by kernel_rfl) rfl rfl ?_
                refine wf_pass 15 rfl (ps 56 rfl rfl rfl) hns (by kernel_rfl) (by kernel_rfl) rfl rfl ?_
                refine wf_pass 16 rfl (ps 56 rfl rfl rfl) hns (by kernel_rfl) (by kernel_rfl) rfl rfl ?_
                refine wf_pass 17 rfl (ps 56 rfl rfl rfl) hns (by kernel_rfl) (by kernel_rfl) rfl rfl ?_
                refine wf_pass 18 rfl (ps 56 rfl rfl rfl) hns (by kernel_rfl) (by kernel_rfl) rfl rfl ?_
                refine wf_pass 19 rfl (ps 56 rfl rfl rfl) hns (by kernel_rfl) (by kernel_rfl) rfl rfl ?_
                refine wf_pass 20 rfl (ps 56 rfl rfl rfl) hns (by kernel_rfl) (by kernel_rfl) rfl rfl ?_
                refine wf_pass 21 rfl (ps 56 rfl rfl rfl) hns (by kernel_rfl) (by kernel_rfl) rfl rfl ?_
                refine wf_pass 22 rfl (ps 56 rfl rfl rfl) hns (by kernel_rfl) (by kernel_rfl) rfl rfl ?_
                refine wf_v 23 rfl (v_pick (b := true) rfl rfl) gn rfl hns (by kernel_rfl) (by kernel_rfl) rfl rfl ?_
                refine wf_v 24 rfl (v_assign rfl) gn rfl hns (by kernel_rfl) (by kernel_rfl) rfl rfl ?_
                refine wf_end (by kernel_rfl) ?_
                exact g_go [0, 1] (j2 true h) ⟨rfl, trivial⟩ (.slnil) rfl
              · have h := if_neg' hp314 h
                obtain ⟨hb341, h⟩ := h
                obtain ⟨r346, hv347, h⟩ := h
                obtain ⟨r355, hv356, h⟩ := h
                have hns : Region.noSelect (Code.ops trellislaw32_ChoosePairs_c35) = true := by kernel_rfl
                refine g_drawF (c := trellislaw32_ChoosePairs_c35) [] [Sm w.heap.size F w [], St w []] [] 25 rfl rfl mix rfl (.slnil) (sels [0, 1] rfl) ?_
                refine wf_v 0 rfl (v_move rfl) gn rfl hns (by kernel_rfl) (by kernel_rfl) rfl rfl ?_
                refine wf_v 1 rfl (v_move rfl) gn rfl hns (by kernel_rfl) (by kernel_rfl) rfl rfl ?_
                have hr423 := Rw.readF (s := St w []) (hl := hl_api_Node) (h1 := h1_api_Node) h5 hb277
                refine wf_v 2 rfl (v_idxR (s := St w []) slE_22 rfl rfl h5 hb277) gn rfl hns (by kernel_rfl) (by kernel_rfl) rfl rfl ?_
                refine wf_v 3 rfl (v_ldA (St w []) ld_39 rfl hr423 rfl (me 1 rfl)) gn rfl hns (by kernel_rfl) (by kernel_rfl) rfl rfl ?_
                refine wf_all [4] (by kernel_rfl) rfl ⟨on_s 4 rfl gn rfl (s_call [.agg #[.string ((ix x1 x6).name), .bool ((ix x1 x6).named), .string ((ix x1 x6).field), .int .i64 ((ix x1 x6).from_), .int .i64 ((ix x1 x6).to), .int .i64 ((ix x1 x6).kids), .int .i64 ((ix x1 x6).leaf)]] rfl Try.func30 rfl rfl rfl fun w430 hL431 => ?_), trivial⟩
                have hp432 : List.Perm ([] : List Ent) (([] : List Ent) ++ ([] : List Ent)) := perm_of_idx [] [] rfl rfl (by kernel_rfl)
                refine Calls.mono (trellislaw32_kind_calls w430 (Fl ([] : List Snap)) (ix x1 x6) (hL431.hFl (Sl := ([] : List Snap)) hp432 (sels [] rfl)) (hL431.into hp432 (Fl ([] : List Snap))) r282 hv283) ?_
                rintro _ w433 ⟨rfl, hM434⟩
                have hL435 := hL431.call hp432 hM434
                refine ⟨_, _, _, rfl, hL435, ?_⟩
                refine ⟨sels [] rfl, sels [0, 1] rfl, ?_⟩
                refine wf_v 5 rfl (v_bin rfl rfl rfl) gn rfl hns (by kernel_rfl) (by kernel_rfl) rfl rfl ?_
                refine wf_v 6 rfl (v_move rfl) gn rfl hns (by kernel_rfl) (by kernel_rfl) rfl rfl ?_
                refine wf_bool 52 rfl ((decide_eq_false hp287)) ?_
                refine wf_v 7 rfl (v_move rfl) (gy 52 rfl rfl) rfl hns (by kernel_rfl) (by kernel_rfl) rfl rfl ?_
                refine wf_v 8 rfl (v_bin rfl rfl rfl) (gy 52 rfl rfl) rfl hns (by kernel_rfl) (by kernel_rfl) rfl rfl ?_
                refine wf_v 9 rfl (v_pick (b := false) rfl rfl) gn rfl hns (by kernel_rfl) (by kernel_rfl) rfl rfl ?_
                refine wf_v 10 rfl (v_move rfl) gn rfl hns (by kernel_rfl) (by kernel_rfl) rfl rfl ?_
                refine wf_bool 56 rfl ((decide_eq_false hp314)) ?_
                refine wf_v 11 rfl (v_move rfl) (gy 56 rfl rfl) rfl hns (by kernel_rfl) (by kernel_rfl) rfl rfl ?_
                refine wf_v 12 rfl (v_move rfl) (gy 56 rfl rfl) rfl hns (by kernel_rfl) (by kernel_rfl) rfl rfl ?_
                have hr436 := Rw.readF (s := St w []) (hl := hl_api_Node) (h1 := h1_api_Node) h5 hb341
                refine wf_v 13 rfl (v_idxR (s := St w []) slE_22 rfl rfl h5 hb341) (gy 56 rfl rfl) rfl hns (by kernel_rfl) (by kernel_rfl) rfl rfl ?_
                refine wf_v 14 rfl (v_ldA (St w []) ld_39 rfl hr436 rfl (me 1 rfl)) (gy 56 rfl rfl) rfl hns (by kernel_rfl) (by kernel_rfl) rfl rfl ?_
                refine wf_v 16 rfl (v_move rfl) (gy 56 rfl rfl) rfl hns (by kernel_rfl) (by kernel_rfl) rfl rfl ?_
                refine wf_v 17 rfl (v_move rfl) (gy 56 rfl rfl) rfl hns (by kernel_rfl) (by kernel_rfl) rfl rfl ?_
                have hr455 := Rw.readF (s := St w []) (hl := hl_api_Node) (h1 := h1_api_Node) h5 hb277
                refine wf_v 18 rfl (v_idxR (s := St w []) slE_22 rfl rfl h5 hb277) (gy 56 rfl rfl) rfl hns (by kernel_rfl) (by kernel_rfl) rfl rfl ?_
                refine wf_v 19 rfl (v_ldA (St w []) ld_39 rfl hr455 rfl (me 1 rfl)) (gy 56 rfl rfl) rfl hns (by kernel_rfl) (by kernel_rfl) rfl rfl ?_
                refine wf_all [15] (by kernel_rfl) rfl ⟨on_s 15 rfl (gy 56 rfl rfl) rfl (s_call [.agg #[.string ((ix x1 r61).name), .bool ((ix x1 r61).named), .string ((ix x1 r61).field), .int .i64 ((ix x1 r61).from_), .int .i64 ((ix x1 r61).to), .int .i64 ((ix x1 r61).kids), .int .i64 ((ix x1 r61).leaf)]] rfl Try.func30 rfl rfl rfl fun w468 hL469 => ?_), trivial⟩
                have hp470 : List.Perm ([] : List Ent) (([] : List Ent) ++ ([] : List Ent)) := perm_of_idx [] [] rfl rfl (by kernel_rfl)
                refine Calls.mono (trellislaw32_kind_calls w468 (Fl ([] : List Snap)) (ix x1 r61) (hL469.hFl (Sl := ([] : List Snap)) hp470 (sels [] rfl)) (hL469.into hp470 (Fl ([] : List Snap))) r346 hv347) ?_
                rintro _ w471 ⟨rfl, hM472⟩
                have hL473 := hL469.call hp470 hM472
                refine ⟨_, _, _, rfl, hL473, ?_⟩
                refine ⟨sels [] rfl, sels [0, 1] rfl, ?_⟩
                refine wf_all [20] (by kernel_rfl) rfl ⟨on_s 20 rfl (gy 56 rfl rfl) rfl (s_call [.agg #[.string ((ix x1 x6).name), .bool ((ix x1 x6).named), .string ((ix x1 x6).field), .int .i64 ((ix x1 x6).from_), .int .i64 ((ix x1 x6).to), .int .i64 ((ix x1 x6).kids), .int .i64 ((ix x1 x6).leaf)]] rfl Try.func30 rfl rfl rfl fun w480 hL481 => ?_), trivial⟩
                have hp482 : List.Perm ([] : List Ent) (([] : List Ent) ++ ([] : List Ent)) := perm_of_idx [] [] rfl rfl (by kernel_rfl)
                refine Calls.mono (trellislaw32_kind_calls w480 (Fl ([] : List Snap)) (ix x1 x6) (hL481.hFl (Sl := ([] : List Snap)) hp482 (sels [] rfl)) (hL481.into hp482 (Fl ([] : List Snap))) r355 hv356) ?_
                rintro _ w483 ⟨rfl, hM484⟩
                have hL485 := hL481.call hp482 hM484
                refine ⟨_, _, _, rfl, hL485, ?_⟩
                refine ⟨sels [] rfl, sels [0, 1] rfl, ?_⟩
                refine wf_v 21 rfl (v_neg rfl) (gy 56 rfl rfl) rfl hns (by kernel_rfl) (by kernel_rfl) rfl rfl ?_
                refine wf_v 22 rfl (v_bin rfl rfl rfl) (gy 56 rfl rfl) rfl hns (by kernel_rfl) (by kernel_rfl) rfl rfl ?_
                refine wf_v 23 rfl (v_pick (b := false) rfl rfl) gn rfl hns (by kernel_rfl) (by kernel_rfl) rfl rfl ?_
                refine wf_v 24 rfl (v_assign rfl) gn rfl hns (by kernel_rfl) (by kernel_rfl) rfl rfl ?_
                refine wf_end (by kernel_rfl) ?_
                exact g_go [0, 1] (j2 (r346 != (w64 (0 - r355))) h) ⟨rfl, trivial⟩ (.slnil) rfl
          · have h := if_neg' hp57 h
            refine g_false (c := trellislaw32_ChoosePairs_c30) rfl _ rfl ((nei hp57)) ?_
            refine g_skip (c := trellislaw32_ChoosePairs_c32) rfl ?_
            refine g_seq (c := trellislaw32_ChoosePairs_c28) rfl ?_
            refine g_seq (c := trellislaw32_ChoosePairs_c37) rfl ?_
            have j3 : ∀ (x1167 : Bool) (h : trellislaw32_ChoosePairs_j3 x6 r28 x1 x1167 r) , G (trellislaw32_ChoosePairs_C w F r) [.code trellislaw32_ChoosePairs_c40, .code trellislaw32_ChoosePairs_c38] [(0, .slice A2 n3 c4), (1, .int .i64 x6), (5, .int .i64 r28), (119, .bool x1167)] [] [Sm w.heap.size F w [], St w []] := by
              intro x1167 h
              unfold trellislaw32_ChoosePairs_j3 at h
              by_cases hp1168 : x1167 = true
              · have h := if_pos' hp1168 h
                refine g_true (c := trellislaw32_ChoosePairs_c40) rfl _ rfl (hp1168) ?_
                refine g_seq (c := trellislaw32_ChoosePairs_c41) rfl ?_
                refine g_region (c := trellislaw32_ChoosePairs_c43) rfl rfl ?_
                refine wl_v 0 rfl (v_assign rfl) gn rfl ?_
                refine w_end 1 rfl ?_
                refine g_retR (c := trellislaw32_ChoosePairs_c44) [.bool false] rfl Try.func7 rfl (.tmp rfl (.nil)) fun wr hLr => ?_
                have hMr : B.Loc w wr [] [St w []] := hLr.pick (rest := []) (perm_of_idx [] [] rfl rfl (by kernel_rfl)) (sels [1] rfl)
                have hMi : ∀ e ∈ ([] : List Ent), e ∈ ([] : List Ent) := sels [] rfl
                show trellislaw32_ChoosePairs_R w F  r (.returned (packV [.bool false])) wr
                rw [h]
                exact ⟨rfl, hMr⟩
              · have h := if_neg' hp1168 h
                refine g_false (c := trellislaw32_ChoosePairs_c40) rfl _ rfl ((bf hp1168)) ?_
                refine g_skip (c := trellislaw32_ChoosePairs_c42) rfl ?_
                refine g_seq (c := trellislaw32_ChoosePairs_c38) rfl ?_
                refine g_region (c := trellislaw32_ChoosePairs_c45) rfl rfl ?_
                refine wl_v 0 rfl (v_move rfl) gn rfl ?_
                refine wl_v 1 rfl (v_assign rfl) gn rfl ?_
                refine w_end 2 rfl ?_
                refine g_seq (c := trellislaw32_ChoosePairs_c46) rfl ?_
                refine g_region (c := trellislaw32_ChoosePairs_c47) rfl rfl ?_
                refine wl_v 0 rfl (v_move rfl) gn rfl ?_
                refine wl_v 1 rfl (v_assign rfl) gn rfl ?_
                refine w_end 2 rfl ?_
                refine g_seq (c := trellislaw32_ChoosePairs_c48) rfl ?_
                refine g_seq (c := trellislaw32_ChoosePairs_c49) rfl ?_
                refine g_region (c := trellislaw32_ChoosePairs_c51) rfl rfl ?_
                refine wl_v 0 rfl (v_move rfl) gn rfl ?_
                refine wl_v 1 rfl (v_move rfl) gn rfl ?_
                refine wl_v 2 rfl (v_bin rfl rfl rfl) gn rfl ?_
                refine w_end 3 rfl ?_
                have j4 : ∀ (x1171 : Int) (x1172 : Int) (h : trellislaw32_ChoosePairs_j4 x1 x1171 x1172 r) , G (trellislaw32_ChoosePairs_C w F r) [.code trellislaw32_ChoosePairs_c50] [(0, .slice A2 n3 c4), (7, .int .i64 x1171), (8, .int .i64 x1172)] [] [Sm w.heap.size F w [], St w []] := by
                  intro x1171 x1172 h
                  unfold trellislaw32_ChoosePairs_j4 at h
                  refine g_seq (c := trellislaw32_ChoosePairs_c50) rfl ?_
                  refine g_seq (c := trellislaw32_ChoosePairs_c55) rfl ?_
                  refine g_region (c := trellislaw32_ChoosePairs_c57) rfl rfl ?_
                  refine wl_v 0 rfl (v_move rfl) gn rfl ?_
                  refine wl_v 1 rfl (v_bin rfl rfl rfl) gn rfl ?_
                  refine wl_v 2 rfl (v_assign rfl) gn rfl ?_
                  refine w_end 3 rfl ?_
                  refine g_block (c := trellislaw32_ChoosePairs_c58) rfl ?_
                  refine g_loop (c := trellislaw32_ChoosePairs_c59) rfl ?_
                  have key5 : ∀ s, Rounds (fun (s : Int) o => trellislaw32_ChoosePairs_b5 x1172 x1 x1171 s o) s r → (fun (s : Int) => ∀ (_ : Unit), G (trellislaw32_ChoosePairs_C w F r) [.code trellislaw32_ChoosePairs_c60, .inLoop trellislaw32_ChoosePairs_c60, .inBlock 0, .code trellislaw32_ChoosePairs_c56] [(0, .slice A2 n3 c4), (7, .int .i64 x1171), (8, .int .i64 x1172), (9, .int .i64 s)] [] [Sm w.heap.size F w [], St w []]) s := by
                    intro s hs
                    refine Rounds.ind (mot := (fun (s : Int) => ∀ (_ : Unit), G (trellislaw32_ChoosePairs_C w F r) [.code trellislaw32_ChoosePairs_c60, .inLoop trellislaw32_ChoosePairs_c60, .inBlock 0, .code trellislaw32_ChoosePairs_c56] [(0, .slice A2 n3 c4), (7, .int .i64 x1171), (8, .int .i64 x1172), (9, .int .i64 s)] [] [Sm w.heap.size F w [], St w []])) ?_ hs
                    clear hs s
                    intro x1186 o1 h hO1
                    show ∀ (_ : Unit), G (trellislaw32_ChoosePairs_C w F r) [.code trellislaw32_ChoosePairs_c60, .inLoop trellislaw32_ChoosePairs_c60, .inBlock 0, .code trellislaw32_ChoosePairs_c56] [(0, .slice A2 n3 c4), (7, .int .i64 x1171), (8, .int .i64 x1172), (9, .int .i64 x1186)] [] [Sm w.heap.size F w [], St w []]
                    intro _
                    have h : trellislaw32_ChoosePairs_b5 x1172 x1 x1171 x1186 o1 := h
                    unfold trellislaw32_ChoosePairs_b5 at h
                    refine g_seq (c := trellislaw32_ChoosePairs_c60) rfl ?_
                    refine g_seq (c := trellislaw32_ChoosePairs_c61) rfl ?_
                    refine g_region (c := trellislaw32_ChoosePairs_c63) rfl rfl ?_
                    refine wl_v 0 rfl (v_move rfl) gn rfl ?_
                    refine wl_v 1 rfl (v_move rfl) gn rfl ?_
                    refine wl_v 2 rfl (v_bin rfl rfl rfl) gn rfl ?_
                    refine w_end 3 rfl ?_
                    by_cases hp1199 : x1186 < x1172
                    · have h := if_pos' hp1199 h
                      refine g_true (c := trellislaw32_ChoosePairs_c64) rfl _ rfl ((decide_eq_true hp1199)) ?_
                      refine g_skip (c := trellislaw32_ChoosePairs_c65) rfl ?_
                      refine g_seq (c := trellislaw32_ChoosePairs_c62) rfl ?_
                      refine g_block (c := trellislaw32_ChoosePairs_c67) rfl ?_
                      refine g_seq (c := trellislaw32_ChoosePairs_c69) rfl ?_
                      refine g_region (c := trellislaw32_ChoosePairs_c70) rfl rfl ?_
                      refine wl_v 0 rfl (v_move rfl) gn rfl ?_
                      refine wl_v 1 rfl (v_move rfl) gn rfl ?_
                      obtain ⟨r1203, hv1204, h⟩ := h
                      refine wl_s 2 rfl (s_call [.slice A2 n3 c4, .int .i64 x1186] rfl Try.func29 rfl rfl rfl fun w1200 hL1201 => ?_) gn
                      have hp1202 : List.Perm ([] : List Ent) (([] : List Ent) ++ ([] : List Ent)) := perm_of_idx [] [] rfl rfl (by kernel_rfl)
                      refine Calls.mono (choose_Pair_calls w1200 (Fl ([] : List Snap)) x1 x1186 A2 n3 c4 (Rw.mono h5 (hL1201.toSt hp1202 (me 1 rfl))) (hL1201.hFl (Sl := ([] : List Snap)) hp1202 (sels [] rfl)) (hL1201.into hp1202 (Fl ([] : List Snap))) r1203 hv1204) ?_
                      rintro _ w1205 ⟨rfl, hM1206⟩
                      have hL1207 := hL1201.call hp1202 hM1206
                      refine ⟨_, _, _, rfl, hL1207, ?_⟩
                      refine wl_v 3 rfl (v_assign rfl) gn rfl ?_
                      refine w_end 4 rfl ?_
                      refine g_seq (c := trellislaw32_ChoosePairs_c71) rfl ?_
                      refine g_region (c := trellislaw32_ChoosePairs_c72) rfl rfl ?_
                      refine wl_v 0 rfl (v_move rfl) gn rfl ?_
                      refine wl_v 1 rfl (v_bin rfl rfl rfl) gn rfl ?_
                      refine wl_v 2 rfl (v_move rfl) gn rfl ?_
                      by_cases hp1208 : r1203 ≥ 0
                      · have h := if_pos' hp1208 h
                        refine w_bool 139 rfl ((decide_eq_true hp1208)) ?_
                        refine wl_v 3 rfl (v_move rfl) (gy 139 rfl rfl) rfl ?_
                        refine wl_v 4 rfl (v_move rfl) (gy 139 rfl rfl) rfl ?_
                        refine wl_v 5 rfl (v_bin rfl rfl rfl) (gy 139 rfl rfl) rfl ?_
                        refine wl_v 6 rfl (v_move rfl) (gy 139 rfl rfl) rfl ?_
                        by_cases hp1209 : r1203 ≤ x1171
                        · have h := if_pos' hp1209 h
                          refine w_bool 143 rfl ((decide_eq_true hp1209)) ?_
                          refine wl_pass 7 rfl (ps 143 rfl rfl rfl) ?_
                          refine wl_pass 8 rfl (ps 143 rfl rfl rfl) ?_
                          refine wl_pass 9 rfl (ps 143 rfl rfl rfl) ?_
                          refine wl_v 10 rfl (v_pick (b := true) rfl rfl) (gy 139 rfl rfl) rfl ?_
                          refine wl_v 11 rfl (v_pick (b := true) rfl rfl) gn rfl ?_
                          refine w_end 12 rfl ?_
                          refine g_true (c := trellislaw32_ChoosePairs_c73) rfl _ rfl (rfl) ?_
                          refine g_seq (c := trellislaw32_ChoosePairs_c74) rfl ?_
                          refine g_region (c := trellislaw32_ChoosePairs_c76) rfl rfl ?_
                          refine wl_v 0 rfl (v_assign rfl) gn rfl ?_
                          refine w_end 1 rfl ?_
                          have h := Out.inr hO1 h
                          refine g_retR (c := trellislaw32_ChoosePairs_c77) [.bool false] rfl Try.func7 rfl (.tmp rfl (.nil)) fun wr hLr => ?_
                          have hMr : B.Loc w wr [] [St w []] := hLr.pick (rest := []) (perm_of_idx [] [] rfl rfl (by kernel_rfl)) (sels [1] rfl)
                          have hMi : ∀ e ∈ ([] : List Ent), e ∈ ([] : List Ent) := sels [] rfl
                          show trellislaw32_ChoosePairs_R w F  r (.returned (packV [.bool false])) wr
                          rw [h]
                          exact ⟨rfl, hMr⟩
                        · have h := if_neg' hp1209 h
                          refine w_bool 143 rfl ((decide_eq_false hp1209)) ?_
                          refine wl_v 7 rfl (v_move rfl) (gy 143 rfl rfl) rfl ?_
                          refine wl_v 8 rfl (v_move rfl) (gy 143 rfl rfl) rfl ?_
                          refine wl_v 9 rfl (v_bin rfl rfl rfl) (gy 143 rfl rfl) rfl ?_
                          refine wl_v 10 rfl (v_pick (b := false) rfl rfl) (gy 139 rfl rfl) rfl ?_
                          refine wl_v 11 rfl (v_pick (b := true) rfl rfl) gn rfl ?_
                          refine w_end 12 rfl ?_
                          by_cases hp1210 : r1203 ≥ x1172
                          · have h := if_pos' hp1210 h
                            refine g_true (c := trellislaw32_ChoosePairs_c73) rfl _ rfl ((decide_eq_true hp1210)) ?_
                            refine g_seq (c := trellislaw32_ChoosePairs_c74) rfl ?_
                            refine g_region (c := trellislaw32_ChoosePairs_c76) rfl rfl ?_
                            refine wl_v 0 rfl (v_assign rfl) gn rfl ?_
                            refine w_end 1 rfl ?_
                            have h := Out.inr hO1 h
                            refine g_retR (c := trellislaw32_ChoosePairs_c77) [.bool false] rfl Try.func7 rfl (.tmp rfl (.nil)) fun wr hLr => ?_
                            have hMr : B.Loc w wr [] [St w []] := hLr.pick (rest := []) (perm_of_idx [] [] rfl rfl (by kernel_rfl)) (sels [1] rfl)
                            have hMi : ∀ e ∈ ([] : List Ent), e ∈ ([] : List Ent) := sels [] rfl
                            show trellislaw32_ChoosePairs_R w F  r (.returned (packV [.bool false])) wr
                            rw [h]
                            exact ⟨rfl, hMr⟩
                          · have h := if_neg' hp1210 h
                            refine g_false (c := trellislaw32_ChoosePairs_c73) rfl _ rfl ((decide_eq_false hp1210)) ?_
                            refine g_skip (c := trellislaw32_ChoosePairs_c75) rfl ?_
                            refine g_inBlock ?_
                            refine g_region (c := trellislaw32_ChoosePairs_c68) rfl rfl ?_
                            refine wl_v 0 rfl (v_move rfl) gn rfl ?_
                            refine wl_v 1 rfl (v_bin rfl rfl rfl) gn rfl ?_
                            refine wl_v 2 rfl (v_assign rfl) gn rfl ?_
                            refine w_end 3 rfl ?_
                            refine g_inLoop ?_
                            have ih := Out.inl hO1 h
                            exact g_go [0, 1] (ih ()) ⟨rfl, rfl, rfl, rfl, trivial⟩ (.slnil) rfl
                      · have h := if_neg' hp1208 h
                        refine w_bool 139 rfl ((decide_eq_false hp1208)) ?_
                        refine wl_pass 3 rfl (ps 139 rfl rfl rfl) ?_
                        refine wl_pass 4 rfl (ps 139 rfl rfl rfl) ?_
                        refine wl_pass 5 rfl (ps 139 rfl rfl rfl) ?_
                        refine wl_pass 6 rfl (ps 139 rfl rfl rfl) ?_
                        refine wl_pass 7 rfl (pu 143 rfl rfl) ?_
                        refine wl_pass 8 rfl (pu 143 rfl rfl) ?_
                        refine wl_pass 9 rfl (pu 143 rfl rfl) ?_
                        refine wl_pass 10 rfl (ps 139 rfl rfl rfl) ?_
                        refine wl_v 11 rfl (v_pick (b := false) rfl rfl) gn rfl ?_
                        refine w_end 12 rfl ?_
                        refine g_false (c := trellislaw32_ChoosePairs_c73) rfl _ rfl (rfl) ?_
                        refine g_skip (c := trellislaw32_ChoosePairs_c75) rfl ?_
                        refine g_inBlock ?_
                        refine g_region (c := trellislaw32_ChoosePairs_c68) rfl rfl ?_
                        refine wl_v 0 rfl (v_move rfl) gn rfl ?_
                        refine wl_v 1 rfl (v_bin rfl rfl rfl) gn rfl ?_
                        refine wl_v 2 rfl (v_assign rfl) gn rfl ?_
                        refine w_end 3 rfl ?_
                        refine g_inLoop ?_
                        have ih := Out.inl hO1 h
                        exact g_go [0, 1] (ih ()) ⟨rfl, rfl, rfl, rfl, trivial⟩ (.slnil) rfl
                    · have h := if_neg' hp1199 h
                      refine g_false (c := trellislaw32_ChoosePairs_c64) rfl _ rfl ((decide_eq_false hp1199)) ?_
                      refine g_exit (c := trellislaw32_ChoosePairs_c66) [.code trellislaw32_ChoosePairs_c56] rfl rfl ?_
                      refine g_seq (c := trellislaw32_ChoosePairs_c56) rfl ?_
                      refine g_region (c := trellislaw32_ChoosePairs_c78) rfl rfl ?_
                      refine wl_v 0 rfl (v_assign rfl) gn rfl ?_
                      refine w_end 1 rfl ?_
                      have h := Out.inr hO1 h
                      refine g_retR (c := trellislaw32_ChoosePairs_c79) [.bool true] rfl Try.func7 rfl (.tmp rfl (.nil)) fun wr hLr => ?_
                      have hMr : B.Loc w wr [] [St w []] := hLr.pick (rest := []) (perm_of_idx [] [] rfl rfl (by kernel_rfl)) (sels [1] rfl)
                      have hMi : ∀ e ∈ ([] : List Ent), e ∈ ([] : List Ent) := sels [] rfl
                      show trellislaw32_ChoosePairs_R w F  r (.returned (packV [.bool true])) wr
                      rw [h]
                      exact ⟨rfl, hMr⟩
                  exact g_go [0, 1] (key5 _ h ()) ⟨rfl, rfl, rfl, rfl, trivial⟩ (.slnil) rfl
                by_cases hp1169 : x6 > r28
                · have h := if_pos' hp1169 h
                  refine g_true (c := trellislaw32_ChoosePairs_c52) rfl _ rfl ((decide_eq_true hp1169)) ?_
                  refine g_region (c := trellislaw32_ChoosePairs_c53) rfl rfl ?_
                  refine wl_v 0 rfl (v_move rfl) gn rfl ?_
                  refine wl_v 1 rfl (v_move rfl) gn rfl ?_
                  refine wl_v 2 rfl (v_assign rfl) gn rfl ?_
                  refine wl_v 3 rfl (v_assign rfl) gn rfl ?_
                  refine w_end 4 rfl ?_
                  exact g_go [0, 1] (j4 r28 x6 h) ⟨rfl, rfl, rfl, trivial⟩ (.slnil) rfl
                · have h := if_neg' hp1169 h
                  refine g_false (c := trellislaw32_ChoosePairs_c52) rfl _ rfl ((decide_eq_false hp1169)) ?_
                  refine g_skip (c := trellislaw32_ChoosePairs_c54) rfl ?_
                  exact g_go [0, 1] (j4 x6 r28 h) ⟨rfl, rfl, rfl, trivial⟩ (.slnil) rfl
            by_cases hp1211 : r28 < 0
            · have h := if_pos' hp1211 h
              have hns : Region.noSelect (Code.ops trellislaw32_ChoosePairs_c39) = true := by kernel_rfl
              refine g_drawF (c := trellislaw32_ChoosePairs_c39) [] [Sm w.heap.size F w [], St w []] [] 50 rfl rfl mix rfl (.slnil) (sels [0, 1] rfl) ?_
              refine wf_v 0 rfl (v_move rfl) gn rfl hns (by kernel_rfl) (by kernel_rfl) rfl rfl ?_
              refine wf_v 1 rfl (v_bin rfl rfl rfl) gn rfl hns (by kernel_rfl) (by kernel_rfl) rfl rfl ?_
              refine wf_v 2 rfl (v_move rfl) gn rfl hns (by kernel_rfl) (by kernel_rfl) rfl rfl ?_
              refine wf_bool 72 rfl ((decide_eq_true hp1211)) ?_
              refine wf_pass 3 rfl (ps 72 rfl rfl rfl) hns (by kernel_rfl) (by kernel_rfl) rfl rfl ?_
              refine wf_pass 4 rfl (ps 72 rfl rfl rfl) hns (by kernel_rfl) (by kernel_rfl) rfl rfl ?_
              refine wf_pass 5 rfl (ps 72 rfl rfl rfl) hns (by kernel_rfl) (by kernel_rfl) rfl rfl ?_
              refine wf_pass 6 rfl (ps 72 rfl rfl rfl) hns (by kernel_rfl) (by kernel_rfl) rfl rfl ?_
              refine wf_v 7 rfl (v_pick (b := true) rfl rfl) gn rfl hns (by kernel_rfl) (by kernel_rfl) rfl rfl ?_
              refine wf_v 8 rfl (v_move rfl) gn rfl hns (by kernel_rfl) (by kernel_rfl) rfl rfl ?_
              refine wf_pass 9 rfl (ps 78 rfl rfl rfl) hns (by kernel_rfl) (by kernel_rfl) rfl rfl ?_
              refine wf_pass 10 rfl (ps 78 rfl rfl rfl) hns (by kernel_rfl) (by kernel_rfl) rfl rfl ?_
              refine wf_pass 11 rfl (ps 78 rfl rfl rfl) hns (by kernel_rfl) (by kernel_rfl) rfl rfl ?_
              refine wf_pass 12 rfl (ps 78 rfl rfl rfl) hns (by kernel_rfl) (by kernel_rfl) rfl rfl ?_
              refine wf_pass 13 rfl (ps 78 rfl rfl rfl) hns (by kernel_rfl) (by kernel_rfl) rfl rfl ?_
              refine wf_pass 14 rfl (ps 78 rfl rfl rfl) hns (by kernel_rfl) (by kernel_rfl) rfl rfl ?_
              refine wf_pass 15 rfl (ps 78 rfl rfl rfl) hns (by kernel_rfl) (by kernel_rfl) rfl rfl ?_
              refine wf_pass 16 rfl (ps 78 rfl rfl rfl) hns (by kernel_rfl) (by kernel_rfl) rfl rfl ?_
              refine wf_pass 17 rfl (ps 78 rfl rfl rfl) hns (by kernel_rfl) (by kernel_rfl) rfl rfl ?_
              refine wf_pass 18 rfl (ps 78 rfl rfl rfl) hns (by kernel_rfl) (by kernel_rfl) rfl rfl ?_
              refine wf_pass 19 rfl (ps 78 rfl rfl rfl) hns (by kernel_rfl) (by kernel_rfl) rfl rfl ?_
              refine wf_pass 20 rfl (ps 78 rfl rfl rfl) hns (by kernel_rfl) (by kernel_rfl) rfl rfl ?_
              refine wf_v 21 rfl (v_pick (b := true) rfl rfl) gn rfl hns (by kernel_rfl) (by kernel_rfl) rfl rfl ?_
              refine wf_v 22 rfl (v_move rfl) gn rfl hns (by kernel_rfl) (by kernel_rfl) rfl rfl ?_
              refine wf_pass 23 rfl (ps 92 rfl rfl rfl) hns (by kernel_rfl) (by kernel_rfl) rfl rfl ?_
              refine wf_pass 24 rfl (ps 92 rfl rfl rfl) hns (by kernel_rfl) (by kernel_rfl) rfl rfl ?_
              refine wf_pass 25 rfl (ps 92 rfl rfl rfl) hns (by kernel_rfl) (by kernel_rfl) rfl rfl ?_
              refine wf_pass 26 rfl (ps 92 rfl rfl rfl) hns (by kernel_rfl) (by kernel_rfl) rfl rfl ?_
              refine wf_pass 27 rfl (ps 92 rfl rfl rfl) hns (by kernel_rfl) (by kernel_rfl) rfl rfl ?_
              refine wf_pass 28 rfl (ps 92 rfl rfl rfl) hns (by kernel_rfl) (by kernel_rfl) rfl rfl ?_
              refine wf_pass 29 rfl (ps 92 rfl rfl rfl) hns (by kernel_rfl) (by kernel_rfl) rfl rfl ?_
              refine wf_pass 30 rfl (ps 92 rfl rfl rfl) hns (by kernel_rfl) (by kernel_rfl) rfl rfl ?_
              refine wf_pass 31 rfl (ps 92 rfl rfl rfl) hns (by kernel_rfl) (by kernel_rfl) rfl rfl ?_
              refine wf_pass 32 rfl (ps 92 rfl rfl rfl) hns (by kernel_rfl) (by kernel_rfl) rfl rfl ?_
              refine wf_v 33 rfl (v_pick (b := true) rfl rfl) gn rfl hns (by kernel_rfl) (by kernel_rfl) rfl rfl ?_
              refine wf_v 34 rfl (v_move rfl) gn rfl hns (by kernel_rfl) (by kernel_rfl) rfl rfl ?_
              refine wf_pass 35 rfl (ps 104 rfl rfl rfl) hns (by kernel_rfl) (by kernel_rfl) rfl rfl ?_
              refine wf_pass 36 rfl (ps 104 rfl rfl rfl) hns (by kernel_rfl) (by kernel_rfl) rfl rfl ?_
              refine wf_pass 37 rfl (ps 104 rfl rfl rfl) hns (by kernel_rfl) (by kernel_rfl) rfl rfl ?_
              refine wf_pass 38 rfl (ps 104 rfl rfl rfl) hns (by kernel_rfl) (by kernel_rfl) rfl rfl ?_
              refine wf_pass 39 rfl (ps 104 rfl rfl rfl) hns (by kernel_rfl) (by kernel_rfl) rfl rfl ?_
              refine wf_v 40 rfl (v_pick (b := true) rfl rfl) gn rfl hns (by kernel_rfl) (by kernel_rfl) rfl rfl ?_
              refine wf_v 41 rfl (v_move rfl) gn rfl hns (by kernel_rfl) (by kernel_rfl) rfl rfl ?_
              refine wf_pass 42 rfl (ps 111 rfl rfl rfl) hns (by kernel_rfl) (by kernel_rfl) rfl rfl ?_
              refine wf_pass 43 rfl (ps 111 rfl rfl rfl) hns (by kernel_rfl) (by kernel_rfl) rfl rfl ?_
              refine wf_pass 44 rfl (ps 111 rfl rfl rfl) hns (by kernel_rfl) (by kernel_rfl) rfl rfl ?_
              refine wf_pass 45 rfl (ps 111 rfl rfl rfl) hns (by kernel_rfl) (by kernel_rfl) rfl rfl ?_
              refine wf_pass 46 rfl (ps 111 rfl rfl rfl) hns (by kernel_rfl) (by kernel_rfl) rfl rfl ?_
              refine wf_pass 47 rfl (ps 111 rfl rfl rfl) hns (by kernel_rfl) (by kernel_rfl) rfl rfl ?_
              refine wf_pass 48 rfl (ps 111 rfl rfl rfl) hns (by kernel_rfl) (by kernel_rfl) rfl rfl ?_
              refine wf_v 49 rfl (v_pick (b := true) rfl rfl) gn rfl hns (by kernel_rfl) (by kernel_rfl) rfl rfl ?_
              refine wf_end (by kernel_rfl) ?_
              exact g_go [0, 1] (j3 true h) ⟨rfl, rfl, rfl, rfl, trivial⟩ (.slnil) rfl
            · have h := if_neg' hp1211 h
              by_cases hp1212 : r28 ≥ (x1.length : Int)
              · have h := if_pos' hp1212 h
                have hns : Region.noSelect (Code.ops trellislaw32_ChoosePairs_c39) = true := by kernel_rfl
                refine g_drawF (c := trellislaw32_ChoosePairs_c39) [] [Sm w.heap.size F w [], St w []] [] 50 rfl rfl mix rfl (.slnil) (sels [0, 1] rfl) ?_
                refine wf_v 0 rfl (v_move rfl) gn rfl hns (by kernel_rfl) (by kernel_rfl) rfl rfl ?_
                refine wf_v 1 rfl (v_bin rfl rfl rfl) gn rfl hns (by kernel_rfl) (by kernel_rfl) rfl rfl ?_
                refine wf_v 2 rfl (v_move rfl) gn rfl hns (by kernel_rfl) (by kernel_rfl) rfl rfl ?_
                refine wf_bool 72 rfl ((decide_eq_false hp1211)) ?_
                refine wf_v 3 rfl (v_move rfl) (gy 72 rfl rfl) rfl hns (by kernel_rfl) (by kernel_rfl) rfl rfl ?_
                refine wf_v 4 rfl (v_move rfl) (gy 72 rfl rfl) rfl hns (by kernel_rfl) (by kernel_rfl) rfl rfl ?_
                refine wf_v 5 rfl (v_lenQ un_22 rfl h5.hq) (gy 72 rfl rfl) rfl hns (by kernel_rfl) (by kernel_rfl) rfl rfl ?_
                refine wf_v 6 rfl (v_bin rfl rfl rfl) (gy 72 rfl rfl) rfl hns (by kernel_rfl) (by kernel_rfl) rfl rfl ?_
                refine wf_v 7 rfl (v_pick (b := false) rfl rfl) gn rfl hns (by kernel_rfl) (by kernel_rfl) rfl rfl ?_
                refine wf_v 8 rfl (v_move rfl) gn rfl hns (by kernel_rfl) (by kernel_rfl) rfl rfl ?_
                refine wf_bool 78 rfl ((decide_eq_true hp1212)) ?_
                refine wf_pass 9 rfl (ps 78 rfl rfl rfl) hns (by kernel_rfl) (by kernel_rfl) rfl rfl ?_
                refine wf_pass 10 rfl (ps 78 rfl rfl rfl) hns (by kernel_rfl) (by kernel_rfl) rfl rfl ?_
                refine wf_pass 11 rfl (ps 78 rfl rfl rfl) hns (by kernel_rfl) (by kernel_rfl) rfl rfl ?_
                refine wf_pass 12 rfl (ps 78 rfl rfl rfl) hns (by kernel_rfl) (by kernel_rfl) rfl rfl ?_
                refine wf_pass 13 rfl (ps 78 rfl rfl rfl) hns (by kernel_rfl) (by kernel_rfl) rfl rfl ?_
                refine wf_pass 14 rfl (ps 78 rfl rfl rfl) hns (by kernel_rfl) (by kernel_rfl) rfl rfl ?_
                refine wf_pass 15 rfl (ps 78 rfl rfl rfl) hns (by kernel_rfl) (by kernel_rfl) rfl rfl ?_
                refine wf_pass 16 rfl (ps 78 rfl rfl rfl) hns (by kernel_rfl) (by kernel_rfl) rfl rfl ?_
                refine wf_pass 17 rfl (ps 78 rfl rfl rfl) hns (by kernel_rfl) (by kernel_rfl) rfl rfl ?_
                refine wf_pass 18 rfl (ps 78 rfl rfl rfl) hns (by kernel_rfl) (by kernel_rfl) rfl rfl ?_
                refine wf_pass 19 rfl (ps 78 rfl rfl rfl) hns (by kernel_rfl) (by kernel_rfl) rfl rfl ?_
                refine wf_pass 20 rfl (ps 78 rfl rfl rfl) hns (by kernel_rfl) (by kernel_rfl) rfl rfl ?_
                refine wf_v 21 rfl (v_pick (b := true) rfl rfl) gn rfl hns (by kernel_rfl) (by kernel_rfl) rfl rfl ?_
                refine wf_v 22 rfl (v_move rfl) gn rfl hns (by kernel_rfl) (by kernel_rfl) rfl rfl ?_
                refine wf_pass 23 rfl (ps 92 rfl rfl rfl) hns (by kernel_rfl) (by kernel_rfl) rfl rfl ?_
                refine wf_pass 24 rfl (ps 92 rfl rfl rfl) hns (by kernel_rfl) (by kernel_rfl) rfl rfl ?_
                refine wf_pass 25 rfl (ps 92 rfl rfl rfl) hns (by kernel_rfl) (by kernel_rfl) rfl rfl ?_
                refine wf_pass 26 rfl (ps 92 rfl rfl rfl) hns (by kernel_rfl) (by kernel_rfl) rfl rfl ?_
                refine wf_pass 27 rfl (ps 92 rfl rfl rfl) hns (by kernel_rfl) (by kernel_rfl) rfl rfl ?_
                refine wf_pass 28 rfl (ps 92 rfl rfl rfl) hns (by kernel_rfl) (by kernel_rfl) rfl rfl ?_
                refine wf_pass 29 rfl (ps 92 rfl rfl rfl) hns (by kernel_rfl) (by kernel_rfl) rfl rfl ?_
                refine wf_pass 30 rfl (ps 92 rfl rfl rfl) hns (by kernel_rfl) (by kernel_rfl) rfl rfl ?_
                refine wf_pass 31 rfl (ps 92 rfl rfl rfl) hns (by kernel_rfl) (by kernel_rfl) rfl rfl ?_
                refine wf_pass 32 rfl (ps 92 rfl rfl rfl) hns (by kernel_rfl) (by kernel_rfl) rfl rfl ?_
                refine wf_v 33 rfl (v_pick (b := true) rfl rfl) gn rfl hns (by kernel_rfl) (by kernel_rfl) rfl rfl ?_
                refine wf_v 34 rfl (v_move rfl) gn rfl hns (by kernel_rfl) (by kernel_rfl) rfl rfl ?_
                refine wf_pass 35 rfl (ps 104 rfl rfl rfl) hns (by kernel_rfl) (by kernel_rfl) rfl rfl ?_
                refine wf_pass 36 rfl (ps 104 rfl rfl rfl) hns (by kernel_rfl) (by kernel_rfl) rfl rfl ?_
                refine wf_pass 37 rfl (ps 104 rfl rfl rfl) hns (by kernel_rfl) (by kernel_rfl) rfl rfl ?_
                refine wf_pass 38 rfl (ps 104 rfl rfl rfl) hns (by kernel_rfl) (by kernel_rfl) rfl rfl ?_
                refine wf_pass 39 rfl (ps 104 rfl rfl rfl) hns (by kernel_rfl) (by kernel_rfl) rfl rfl ?_
                refine wf_v 40 rfl (v_pick (b := true) rfl rfl) gn rfl hns (by kernel_rfl) (by kernel_rfl) rfl rfl ?_
                refine wf_v 41 rfl (v_move rfl) gn rfl hns (by kernel_rfl) (by kernel_rfl) rfl rfl ?_
                refine wf_pass 42 rfl (ps 111 rfl rfl rfl) hns (by kernel_rfl) (by kernel_rfl) rfl rfl ?_
                refine wf_pass 43 rfl (ps 111 rfl rfl rfl) hns (by kernel_rfl) (by kernel_rfl) rfl rfl ?_
                refine wf_pass 44 rfl (ps 111 rfl rfl rfl) hns (by kernel_rfl) (by kernel_rfl) rfl rfl ?_
                refine wf_pass 45 rfl (ps 111 rfl rfl rfl) hns (by kernel_rfl) (by kernel_rfl) rfl rfl ?_
                refine wf_pass 46 rfl (ps 111 rfl rfl rfl) hns (by kernel_rfl) (by kernel_rfl) rfl rfl ?_
                refine wf_pass 47 rfl (ps 111 rfl rfl rfl) hns (by kernel_rfl) (by kernel_rfl) rfl rfl ?_
                refine wf_pass 48 rfl (ps 111 rfl rfl rfl) hns (by kernel_rfl) (by kernel_rfl) rfl rfl ?_
                refine wf_v 49 rfl (v_pick (b := true) rfl rfl) gn rfl hns (by kernel_rfl) (by kernel_rfl) rfl rfl ?_
                refine wf_end (by kernel_rfl) ?_
                exact g_go [0, 1] (j3 true h) ⟨rfl, rfl, rfl, rfl, trivial⟩ (.slnil) rfl
              · have h := if_neg' hp1212 h
                obtain ⟨hb1213, h⟩ := h
                obtain ⟨r1218, hv1219, h⟩ := h
                obtain ⟨hb1223, h⟩ := h
                obtain ⟨r1228, hv1229, h⟩ := h
                by_cases hp1233 : r1218 = w64 (0 - r1228)
                · have h := if_pos' hp1233 h
                  obtain ⟨r1238, hv1239, h⟩ := h
                  by_cases hp1243 : ((decide (r28 > x6)) != (decide (r1238 > 0))) = true
                  · have h := if_pos' hp1243 h
                    have hns : Region.noSelect (Code.ops trellislaw32_ChoosePairs_c39) = true := by kernel_rfl
                    refine g_drawF (c := trellislaw32_ChoosePairs_c39) [] [Sm w.heap.size F w [], St w []] [] 50 rfl rfl mix rfl (.slnil) (sels [0, 1] rfl) ?_
                    refine wf_v 0 rfl (v_move rfl) gn rfl hns (by kernel_rfl) (by kernel_rfl) rfl rfl ?_
                    refine wf_v 1 rfl (v_bin rfl rfl rfl) gn rfl hns (by kernel_rfl) (by kernel_rfl) rfl rfl ?_
                    refine wf_v 2 rfl (v_move rfl) gn rfl hns (by kernel_rfl) (by kernel_rfl) rfl rfl ?_
                    refine wf_bool 72 rfl ((decide_eq_false hp1211)) ?_
                    refine wf_v 3 rfl (v_move rfl) (gy 72 rfl rfl) rfl hns (by kernel_rfl) (by kernel_rfl) rfl rfl ?_
                    refine wf_v 4 rfl (v_move rfl) (gy 72 rfl rfl) rfl hns (by kernel_rfl) (by kernel_rfl) rfl rfl ?_
                    refine wf_v 5 rfl (v_lenQ un_22 rfl h5.hq) (gy 72 rfl rfl) rfl hns (by kernel_rfl) (by kernel_rfl) rfl rfl ?_
                    refine wf_v 6 rfl (v_bin rfl rfl rfl) (gy 72 rfl rfl) rfl hns (by kernel_rfl) (by kernel_rfl) rfl rfl ?_
                    refine wf_v 7 rfl (v_pick (b := false) rfl rfl) gn rfl hns (by kernel_rfl) (by kernel_rfl) rfl rfl ?_
                    refine wf_v 8 rfl (v_move rfl) gn rfl hns (by kernel_rfl) (by kernel_rfl) rfl rfl ?_
                    refine wf_bool 78 rfl ((decide_eq_false hp1212)) ?_
                    refine wf_v 9 rfl (v_move rfl) (gy 78 rfl rfl) rfl hns (by kernel_rfl) (by kernel_rfl) rfl rfl ?_
                    refine wf_v 10 rfl (v_move rfl) (gy 78 rfl rfl) rfl hns (by kernel_rfl) (by kernel_rfl) rfl rfl ?_
                    have hr1307 := Rw.readF (s := St w []) (hl := hl_api_Node) (h1 := h1_api_Node) h5 hb1213
                    refine wf_v 11 rfl (v_idxR (s := St w []) slE_22 rfl rfl h5 hb1213) (gy 78 rfl rfl) rfl hns (by kernel_rfl) (by kernel_rfl) rfl rfl ?_
                    refine wf_v 12 rfl (v_ldA (St w []) ld_39 rfl hr1307 rfl (me 1 rfl)) (gy 78 rfl rfl) rfl hns (by kernel_rfl) (by kernel_rfl) rfl rfl ?_
                    refine wf_v 14 rfl (v_move rfl) (gy 78 rfl rfl) rfl hns (by kernel_rfl) (by kernel_rfl) rfl rfl ?_
                    refine wf_v 15 rfl (v_move rfl) (gy 78 rfl rfl) rfl hns (by kernel_rfl) (by kernel_rfl) rfl rfl ?_
                    have hr1326 := Rw.readF (s := St w []) (hl := hl_api_Node) (h1 := h1_api_Node) h5 hb1223
                    refine wf_v 16 rfl (v_idxR (s := St w []) slE_22 rfl rfl h5 hb1223) (gy 78 rfl rfl) rfl hns (by kernel_rfl) (by kernel_rfl) rfl rfl ?_
                    refine wf_v 17 rfl (v_ldA (St w []) ld_39 rfl hr1326 rfl (me 1 rfl)) (gy 78 rfl rfl) rfl hns (by kernel_rfl) (by kernel_rfl) rfl rfl ?_
                    refine wf_all [13] (by kernel_rfl) rfl ⟨on_s 13 rfl (gy 78 rfl rfl) rfl (s_call [.agg #[.string ((ix x1 r28).name), .bool ((ix x1 r28).named), .string ((ix x1 r28).field), .int .i64 ((ix x1 r28).from_), .int .i64 ((ix x1 r28).to), .int .i64 ((ix x1 r28).kids), .int .i64 ((ix x1 r28).leaf)]] rfl Try.func30 rfl rfl rfl fun w1339 hL1340 => ?_), trivial⟩
                    have hp1341 : List.Perm ([] : List Ent) (([] : List Ent) ++ ([] : List Ent)) := perm_of_idx [] [] rfl rfl (by kernel_rfl)
                    refine Calls.mono (trellislaw32_kind_calls w1339 (Fl ([] : List Snap)) (ix x1 r28) (hL1340.hFl (Sl := ([] : List Snap)) hp1341 (sels [] rfl)) (hL1340.into hp1341 (Fl ([] : List Snap))) r1218 hv1219) ?_
                    rintro _ w1342 ⟨rfl, hM1343⟩
                    have hL1344 := hL1340.call hp1341 hM1343
                    refine ⟨_, _, _, rfl, hL1344, ?_⟩
                    refine ⟨sels [] rfl, sels [0, 1] rfl, ?_⟩
                    refine wf_all [18] (by kernel_rfl) rfl ⟨on_s 18 rfl (gy 78 rfl rfl) rfl (s_call [.agg #[.string ((ix x1 x6).name), .bool ((ix x1 x6).named), .string ((ix x1 x6).field), .int .i64 ((ix x1 x6).from_), .int .i64 ((ix x1 x6).to), .int .i64 ((ix x1 x6).kids), .int .i64 ((ix x1 x6).leaf)]] rfl Try.func30 rfl rfl rfl fun w1351 hL1352 => ?_), trivial⟩
                    have hp1353 : List.Perm ([] : List Ent) (([] : List Ent) ++ ([] : List Ent)) := perm_of_idx [] [] rfl rfl (by kernel_rfl)
                    refine Calls.mono (trellislaw32_kind_calls w1351 (Fl ([] : List Snap)) (ix x1 x6) (hL1352.hFl (Sl := ([] : List Snap)) hp1353 (sels [] rfl)) (hL1352.into hp1353 (Fl ([] : List Snap))) r1228 hv1229) ?_
                    rintro _ w1354 ⟨rfl, hM1355⟩
                    have hL1356 := hL1352.call hp1353 hM1355
                    refine ⟨_, _, _, rfl, hL1356, ?_⟩
                    refine ⟨sels [] rfl, sels [0, 1] rfl, ?_⟩
                    refine wf_v 19 rfl (v_neg rfl) (gy 78 rfl rfl) rfl hns (by kernel_rfl) (by kernel_rfl) rfl rfl ?_
                    refine wf_v 20 rfl (v_bin rfl rfl rfl) (gy 78 rfl rfl) rfl hns (by kernel_rfl) (by kernel_rfl) rfl rfl ?_
                    refine wf_v 21 rfl (v_pick (b := false) rfl rfl) gn rfl hns (by kernel_rfl) (by kernel_rfl) rfl rfl ?_
                    refine wf_v 22 rfl (v_move rfl) gn rfl hns (by kernel_rfl) (by kernel_rfl) rfl rfl ?_
                    refine wf_bool 92 rfl ((eqib hp1233)) ?_
                    refine wf_v 23 rfl (v_move rfl) (gy 92 rfl rfl) rfl hns (by kernel_rfl) (by kernel_rfl) rfl rfl ?_
                    refine wf_v 24 rfl (v_move rfl) (gy 92 rfl rfl) rfl hns (by kernel_rfl) (by kernel_rfl) rfl rfl ?_
                    refine wf_v 25 rfl (v_bin rfl rfl rfl) (gy 92 rfl rfl) rfl hns (by kernel_rfl) (by kernel_rfl) rfl rfl ?_
                    refine wf_v 26 rfl (v_move rfl) (gy 92 rfl rfl) rfl hns (by kernel_rfl) (by kernel_rfl) rfl rfl ?_
                    refine wf_v 27 rfl (v_move rfl) (gy 92 rfl rfl) rfl hns (by kernel_rfl) (by kernel_rfl) rfl rfl ?_
                    have hr1357 := Rw.readF (s := St w []) (hl := hl_api_Node) (h1 := h1_api_Node) h5 hb1223
                    refine wf_v 28 rfl (v_idxR (s := St w []) slE_22 rfl rfl h5 hb1223) (gy 92 rfl rfl) rfl hns (by kernel_rfl) (by kernel_rfl) rfl rfl ?_
                    refine wf_v 29 rfl (v_ldA (St w []) ld_39 rfl hr1357 rfl (me 1 rfl)) (gy 92 rfl rfl) rfl hns (by kernel_rfl) (by kernel_rfl) rfl rfl ?_
                    refine wf_all [30] (by kernel_rfl) rfl ⟨on_s 30 rfl (gy 92 rfl rfl) rfl (s_call [.agg #[.string ((ix x1 x6).name), .bool ((ix x1 x6).named), .string ((ix x1 x6).field), .int .i64 ((ix x1 x6).from_), .int .i64 ((ix x1 x6).to), .int .i64 ((ix x1 x6).kids), .int .i64 ((ix x1 x6).leaf)]] rfl Try.func30 rfl rfl rfl fun w1364 hL1365 => ?_), trivial⟩
                    have hp1366 : List.Perm ([] : List Ent) (([] : List Ent) ++ ([] : List Ent)) := perm_of_idx [] [] rfl rfl (by kernel_rfl)
                    refine Calls.mono (trellislaw32_kind_calls w1364 (Fl ([] : List Snap)) (ix x1 x6) (hL1365.hFl (Sl := ([] : List Snap)) hp1366 (sels [] rfl)) (hL1365.into hp1366 (Fl ([] : List Snap))) r1238 hv1239) ?_
                    rintro _ w1367 ⟨rfl, hM1368⟩
                    have hL1369 := hL1365.call hp1366 hM1368
                    refine ⟨_, _, _, rfl, hL1369, ?_⟩
                    refine ⟨sels [] rfl, sels [0, 1] rfl, ?_⟩
                    refine wf_v 31 rfl (v_bin rfl rfl rfl) (gy 92 rfl rfl) rfl hns (by kernel_rfl) (by kernel_rfl) rfl rfl ?_
                    refine wf_v 32 rfl (v_neB un_4 rfl rfl) (gy 92 rfl rfl) rfl hns (by kernel_rfl) (by kernel_rfl) rfl rfl ?_
                    refine wf_v 33 rfl (v_pick (b := false) rfl rfl) gn rfl hns (by kernel_rfl) (by kernel_rfl) rfl rfl ?_
                    refine wf_v 34 rfl (v_move rfl) gn rfl hns (by kernel_rfl) (by kernel_rfl) rfl rfl ?_
                    refine wf_bool 104 rfl (hp1243) ?_
                    refine wf_pass 35 rfl (ps 104 rfl rfl rfl) hns (by kernel_rfl) (by kernel_rfl) rfl rfl ?_
                    refine wf_pass 36 rfl (ps 104 rfl rfl rfl) hns (by kernel_rfl) (by kernel_rfl) rfl rfl ?_
                    refine wf_pass 37 rfl (ps 104 rfl rfl rfl) hns (by kernel_rfl) (by kernel_rfl) rfl rfl ?_
                    refine wf_pass 38 rfl (ps 104 rfl rfl rfl) hns (by kernel_rfl) (by kernel_rfl) rfl rfl ?_
                    refine wf_pass 39 rfl (ps 104 rfl rfl rfl) hns (by kernel_rfl) (by kernel_rfl) rfl rfl ?_
                    refine wf_v 40 rfl (v_pick (b := true) rfl rfl) gn rfl hns (by kernel_rfl) (by kernel_rfl) rfl rfl ?_
                    refine wf_v 41 rfl (v_move rfl) gn rfl hns (by kernel_rfl) (by kernel_rfl) rfl rfl ?_
                    refine wf_pass 42 rfl (ps 111 rfl rfl rfl) hns (by kernel_rfl) (by kernel_rfl) rfl rfl ?_
                    refine wf_pass 43 rfl (ps 111 rfl rfl rfl) hns (by kernel_rfl) (by kernel_rfl) rfl rfl ?_
                    refine wf_pass 44 rfl (ps 111 rfl rfl rfl) hns (by kernel_rfl) (by kernel_rfl) rfl rfl ?_
                    refine wf_pass 45 rfl (ps 111 rfl rfl rfl) hns (by kernel_rfl) (by kernel_rfl) rfl rfl ?_
                    refine wf_pass 46 rfl (ps 111 rfl rfl rfl) hns (by kernel_rfl) (by kernel_rfl) rfl rfl ?_
                    refine wf_pass 47 rfl (ps 111 rfl rfl rfl) hns (by kernel_rfl) (by kernel_rfl) rfl rfl ?_
                    refine wf_pass 48 rfl (ps 111 rfl rfl rfl) hns (by kernel_rfl) (by kernel_rfl) rfl rfl ?_
                    refine wf_v 49 rfl (v_pick (b := true) rfl rfl) gn rfl hns (by kernel_rfl) (by kernel_rfl) rfl rfl ?_
                    refine wf_end (by kernel_rfl) ?_
                    exact g_go [0, 1] (j3 true h) ⟨rfl, rfl, rfl, rfl, trivial⟩ (.slnil) rfl
                  · have h := if_neg' hp1243 h
                    obtain ⟨r1373, hv1374, h⟩ := h
                    by_cases hp1378 : r1373 = x6
                    · have h := if_pos' hp1378 h
                      obtain ⟨r1382, hv1383, h⟩ := h
                      obtain ⟨r1390, hv1391, h⟩ := h
                      have hns : Region.noSelect (Code.ops trellislaw32_ChoosePairs_c39) = true := by kernel_rfl
                      refine g_drawF (c := trellislaw32_ChoosePairs_c39) [] [Sm w.heap.size F w [], St w []] [] 50 rfl rfl mix rfl (.slnil) (sels [0, 1] rfl) ?_
                      refine wf_v 0 rfl (v_move rfl) gn rfl hns (by kernel_rfl) (by kernel_rfl) rfl rfl ?_
                      refine wf_v 1 rfl (v_bin rfl rfl rfl) gn rfl hns (by kernel_rfl) (by kernel_rfl) rfl rfl ?_
                      refine wf_v 2 rfl (v_move rfl) gn rfl hns (by kernel_rfl) (by kernel_rfl) rfl rfl ?_
                      refine wf_bool 72 rfl ((decide_eq_false hp1211)) ?_
                      refine wf_v 3 rfl (v_move rfl) (gy 72 rfl rfl) rfl hns (by kernel_rfl) (by kernel_rfl) rfl rfl ?_
                      refine wf_v 4 rfl (v_move rfl) (gy 72 rfl rfl) rfl hns (by kernel_rfl) (by kernel_rfl) rfl rfl ?_
                      refine wf_v 5 rfl (v_lenQ un_22 rfl h5.hq) (gy 72 rfl rfl) rfl hns (by kernel_rfl) (by kernel_rfl) rfl rfl ?_
                      refine wf_v 6 rfl (v_bin rfl rfl rfl) (gy 72 rfl rfl) rfl hns (by kernel_rfl) (by kernel_rfl) rfl rfl ?_
                      refine wf_v 7 rfl (v_pick (b := false) rfl rfl) gn rfl hns (by kernel_rfl) (by kernel_rfl) rfl rfl ?_
                      refine wf_v 8 rfl (v_move rfl) gn rfl hns (by kernel_rfl) (by kernel_rfl) rfl rfl ?_
                      refine wf_bool 78 rfl ((decide_eq_false hp1212)) ?_
                      refine wf_v 9 rfl (v_move rfl) (gy 78 rfl rfl) rfl hns (by kernel_rfl) (by kernel_rfl) rfl rfl ?_
                      refine wf_v 10 rfl (v_move rfl) (gy 78 rfl rfl) rfl hns (by kernel_rfl) (by kernel_rfl) rfl rfl ?_
                      have hr1512 := Rw.readF (s := St w []) (hl := hl_api_Node) (h1 := h1_api_Node) h5 hb1213
                      refine wf_v 11 rfl (v_idxR (s := St w []) slE_22 rfl rfl h5 hb1213) (gy 78 rfl rfl) rfl hns (by kernel_rfl) (by kernel_rfl) rfl rfl ?_
                      refine wf_v 12 rfl (v_ldA (St w []) ld_39 rfl hr1512 rfl (me 1 rfl)) (gy 78 rfl rfl) rfl hns (by kernel_rfl) (by kernel_rfl) rfl rfl ?_
                      refine wf_v 14 rfl (v_move rfl) (gy 78 rfl rfl) rfl hns (by kernel_rfl) (by kernel_rfl) rfl rfl ?_
                      refine wf_v 15 rfl (v_move rfl) (gy 78 rfl rfl) rfl hns (by kernel_rfl) (by kernel_rfl) rfl rfl ?_
                      have hr1531 := Rw.readF (s := St w []) (hl := hl_api_Node) (h1 := h1_api_Node) h5 hb1223
                      refine wf_v 16 rfl (v_idxR (s := St w []) slE_22 rfl rfl h5 hb1223) (gy 78 rfl rfl) rfl hns (by kernel_rfl) (by kernel_rfl) rfl rfl ?_
                      refine wf_v 17 rfl (v_ldA (St w []) ld_39 rfl hr1531 rfl (me 1 rfl)) (gy 78 rfl rfl) rfl hns (by kernel_rfl) (by kernel_rfl) rfl rfl ?_
                      refine wf_all [13] (by kernel_rfl) rfl ⟨on_s 13 rfl (gy 78 rfl rfl) rfl (s_call [.agg #[.string ((ix x1 r28).name), .bool ((ix x1 r28).named), .string ((ix x1 r28).field), .int .i64 ((ix x1 r28).from_), .int .i64 ((ix x1 r28).to), .int .i64 ((ix x1 r28).kids), .int .i64 ((ix x1 r28).leaf)]] rfl Try.func30 rfl rfl rfl fun w1544 hL1545 => ?_), trivial⟩
                      have hp1546 : List.Perm ([] : List Ent) (([] : List Ent) ++ ([] : List Ent)) := perm_of_idx [] [] rfl rfl (by kernel_rfl)
                      refine Calls.mono (trellislaw32_kind_calls w1544 (Fl ([] : List Snap)) (ix x1 r28) (hL1545.hFl (Sl := ([] : List Snap)) hp1546 (sels [] rfl)) (hL1545.into hp1546 (Fl ([] : List Snap))) r1218 hv1219) ?_
                      rintro _ w1547 ⟨rfl, hM1548⟩
                      have hL1549 := hL1545.call hp1546 hM1548
                      refine ⟨_, _, _, rfl, hL1549, ?_⟩
                      refine ⟨sels [] rfl, sels [0, 1] rfl, ?_⟩
                      refine wf_all [18] (by kernel_rfl) rfl ⟨on_s 18 rfl (gy 78 rfl rfl) rfl (s_call [.agg #[.string ((ix x1 x6).name), .bool ((ix x1 x6).named), .string ((ix x1 x6).field), .int .i64 ((ix x1 x6).from_), .int .i64 ((ix x1 x6).to), .int .i64 ((ix x1 x6).kids), .int .i64 ((ix x1 x6).leaf)]] rfl Try.func30 rfl rfl rfl fun w1556 hL1557 => ?_), trivial⟩
                      have hp1558 : List.Perm ([] : List Ent) (([] : List Ent) ++ ([] : List Ent)) := perm_of_idx [] [] rfl rfl (by kernel_rfl)
                      refine Calls.mono (trellislaw32_kind_calls w1556 (Fl ([] : List Snap)) (ix x1 x6) (hL1557.hFl (Sl := ([] : List Snap)) hp1558 (sels [] rfl)) (hL1557.into hp1558 (Fl ([] : List Snap))) r1228 hv1229) ?_
                      rintro _ w1559 ⟨rfl, hM1560⟩
                      have hL1561 := hL1557.call hp1558 hM1560
                      refine ⟨_, _, _, rfl, hL1561, ?_⟩
                      refine ⟨sels [] rfl, sels [0, 1] rfl, ?_⟩
                      refine wf_v 19 rfl (v_neg rfl) (gy 78 rfl rfl) rfl hns (by kernel_rfl) (by kernel_rfl) rfl rfl ?_
                      refine wf_v 20 rfl (v_bin rfl rfl rfl) (gy 78 rfl rfl) rfl hns (by kernel_rfl) (by kernel_rfl) rfl rfl ?_
                      refine wf_v 21 rfl (v_pick (b := false) rfl rfl) gn rfl hns (by kernel_rfl) (by kernel_rfl) rfl rfl ?_
                      refine wf_v 22 rfl (v_move rfl) gn rfl hns (by kernel_rfl) (by kernel_rfl) rfl rfl ?_
                      refine wf_bool 92 rfl ((eqib hp1233)) ?_
                      refine wf_v 23 rfl (v_move rfl) (gy 92 rfl rfl) rfl hns (by kernel_rfl) (by kernel_rfl) rfl rfl ?_
                      refine wf_v 24 rfl (v_move rfl) (gy 92 rfl rfl) rfl hns (by kernel_rfl) (by kernel_rfl) rfl rfl ?_
                      refine wf_v 25 rfl (v_bin rfl rfl rfl) (gy 92 rfl rfl) rfl hns (by kernel_rfl) (by kernel_rfl) rfl rfl ?_
                      refine wf_v 26 rfl (v_move rfl) (gy 92 rfl rfl) rfl hns (by kernel_rfl) (by kernel_rfl) rfl rfl ?_
                      refine wf_v 27 rfl (v_move rfl) (gy 92 rfl rfl) rfl hns (by kernel_rfl) (by kernel_rfl) rfl rfl ?_
                      have hr1562 := Rw.readF (s := St w []) (hl := hl_api_Node) (h1 := h1_api_Node) h5 hb1223
                      refine wf_v 28 rfl (v_idxR (s := St w []) slE_22 rfl rfl h5 hb1223) (gy 92 rfl rfl) rfl hns (by kernel_rfl) (by kernel_rfl) rfl rfl ?_
                      refine wf_v 29 rfl (v_ldA (St w []) ld_39 rfl hr1562 rfl (me 1 rfl)) (gy 92 rfl rfl) rfl hns (by kernel_rfl) (by kernel_rfl) rfl rfl ?_
                      refine wf_all [30] (by kernel_rfl) rfl ⟨on_s 30 rfl (gy 92 rfl rfl) rfl (s_call [.agg #[.string ((ix x1 x6).name), .bool ((ix x1 x6).named), .string ((ix x1 x6).field), .int .i64 ((ix x1 x6).from_), .int .i64 ((ix x1 x6).to), .int .i64 ((ix x1 x6).kids), .int .i64 ((ix x1 x6).leaf)]] rfl Try.func30 rfl rfl rfl fun w1569 hL1570 => ?_), trivial⟩
                      have hp1571 : List.Perm ([] : List Ent) (([] : List Ent) ++ ([] : List Ent)) := perm_of_idx [] [] rfl rfl (by kernel_rfl)
                      refine Calls.mono (trellislaw32_kind_calls w1569 (Fl ([] : List Snap)) (ix x1 x6) (hL1570.hFl (Sl := ([] : List Snap)) hp1571 (sels [] rfl)) (hL1570.into hp1571 (Fl ([] : List Snap))) r1238 hv1239) ?_
                      rintro _ w1572 ⟨rfl, hM1573⟩
                      have hL1574 := hL1570.call hp1571 hM1573
                      refine ⟨_, _, _, rfl, hL1574, ?_⟩
                      refine ⟨sels [] rfl, sels [0, 1] rfl, ?_⟩
                      refine wf_v 31 rfl (v_bin rfl rfl rfl) (gy 92 rfl rfl) rfl hns (by kernel_rfl) (by kernel_rfl) rfl rfl ?_
                      refine wf_v 32 rfl (v_neB un_4 rfl rfl) (gy 92 rfl rfl) rfl hns (by kernel_rfl) (by kernel_rfl) rfl rfl ?_
                      refine wf_v 33 rfl (v_pick (b := false) rfl rfl) gn rfl hns (by kernel_rfl) (by kernel_rfl) rfl rfl ?_
                      refine wf_v 34 rfl (v_move rfl) gn rfl hns (by kernel_rfl) (by kernel_rfl) rfl rfl ?_
                      refine wf_bool 104 rfl ((bf hp1243)) ?_
                      refine wf_v 35 rfl (v_move rfl) (gy 104 rfl rfl) rfl hns (by kernel_rfl) (by kernel_rfl) rfl rfl ?_
                      refine wf_v 36 rfl (v_move rfl) (gy 104 rfl rfl) rfl hns (by kernel_rfl) (by kernel_rfl) rfl rfl ?_
                      refine wf_v 38 rfl (v_move rfl) (gy 104 rfl rfl) rfl hns (by kernel_rfl) (by kernel_rfl) rfl rfl ?_
                      refine wf_all [37] (by kernel_rfl) rfl ⟨on_s 37 rfl (gy 104 rfl rfl) rfl (s_call [.slice A2 n3 c4, .int .i64 r28] rfl Try.func29 rfl rfl rfl fun w1587 hL1588 => ?_), trivial⟩
                      have hp1589 : List.Perm ([] : List Ent) (([] : List Ent) ++ ([] : List Ent)) := perm_of_idx [] [] rfl rfl (by kernel_rfl)
                      refine Calls.mono (choose_Pair_calls w1587 (Fl ([] : List Snap)) x1 r28 A2 n3 c4 (Rw.mono h5 (hL1588.toSt hp1589 (me 1 rfl))) (hL1588.hFl (Sl := ([] : List Snap)) hp1589 (sels [] rfl)) (hL1588.into hp1589 (Fl ([] : List Snap))) r1373 hv1374) ?_
                      rintro _ w1590 ⟨rfl, hM1591⟩
                      have hL1592 := hL1588.call hp1589 hM1591
                      refine ⟨_, _, _, rfl, hL1592, ?_⟩
                      refine ⟨sels [] rfl, sels [0, 1] rfl, ?_⟩
                      refine wf_v 39 rfl (v_bin rfl rfl rfl) (gy 104 rfl rfl) rfl hns (by kernel_rfl) (by kernel_rfl) rfl rfl ?_
                      refine wf_v 40 rfl (v_pick (b := false) rfl rfl) gn rfl hns (by kernel_rfl) (by kernel_rfl) rfl rfl ?_
                      refine wf_v 41 rfl (v_move rfl) gn rfl hns (by kernel_rfl) (by kernel_rfl) rfl rfl ?_
                      refine wf_bool 111 rfl ((eqib hp1378)) ?_
                      refine wf_v 42 rfl (v_move rfl) (gy 111 rfl rfl) rfl hns (by kernel_rfl) (by kernel_rfl) rfl rfl ?_
                      refine wf_v 43 rfl (v_move rfl) (gy 111 rfl rfl) rfl hns (by kernel_rfl) (by kernel_rfl) rfl rfl ?_
                      refine wf_v 45 rfl (v_move rfl) (gy 111 rfl rfl) rfl hns (by kernel_rfl) (by kernel_rfl) rfl rfl ?_
                      refine wf_v 46 rfl (v_move rfl) (gy 111 rfl rfl) rfl hns (by kernel_rfl) (by kernel_rfl) rfl rfl ?_
                      refine wf_all [44] (by kernel_rfl) rfl ⟨on_s 44 rfl (gy 111 rfl rfl) rfl (s_call [.slice A2 n3 c4, .int .i64 r28] rfl Try.func28 rfl rfl rfl fun w1611 hL1612 => ?_), trivial⟩
                      have hp1613 : List.Perm ([] : List Ent) (([] : List Ent) ++ ([] : List Ent)) := perm_of_idx [] [] rfl rfl (by kernel_rfl)
                      refine Calls.mono (tree_Parent_calls w1611 (Fl ([] : List Snap)) x1 r28 A2 n3 c4 (Rw.mono h5 (hL1612.toSt hp1613 (me 1 rfl))) (hL1612.hFl (Sl := ([] : List Snap)) hp1613 (sels [] rfl)) (hL1612.into hp1613 (Fl ([] : List Snap))) r1382 hv1383) ?_
                      rintro _ w1614 ⟨rfl, hM1615⟩
                      have hL1616 := hL1612.call hp1613 hM1615
                      refine ⟨_, _, _, rfl, hL1616, ?_⟩
                      refine ⟨sels [] rfl, sels [0, 1] rfl, ?_⟩
                      refine wf_all [47] (by kernel_rfl) rfl ⟨on_s 47 rfl (gy 111 rfl rfl) rfl (s_call [.slice A2 n3 c4, .int .i64 x6] rfl Try.func28 rfl rfl rfl fun w1623 hL1624 => ?_), trivial⟩
                      have hp1625 : List.Perm ([] : List Ent) (([] : List Ent) ++ ([] : List Ent)) := perm_of_idx [] [] rfl rfl (by kernel_rfl)
                      refine Calls.mono (tree_Parent_calls w1623 (Fl ([] : List Snap)) x1 x6 A2 n3 c4 (Rw.mono h5 (hL1624.toSt hp1625 (me 1 rfl))) (hL1624.hFl (Sl := ([] : List Snap)) hp1625 (sels [] rfl)) (hL1624.into hp1625 (Fl ([] : List Snap))) r1390 hv1391) ?_
                      rintro _ w1626 ⟨rfl, hM1627⟩
                      have hL1628 := hL1624.call hp1625 hM1627
                      refine ⟨_, _, _, rfl, hL1628, ?_⟩
                      refine ⟨sels [] rfl, sels [0, 1] rfl, ?_⟩
                      refine wf_v 48 rfl (v_bin rfl rfl rfl) (gy 111 rfl rfl) rfl hns (by kernel_rfl) (by kernel_rfl) rfl rfl ?_
                      refine wf_v 49 rfl (v_pick (b := false) rfl rfl) gn rfl hns (by kernel_rfl) (by kernel_rfl) rfl rfl ?_
                      refine wf_end (by kernel_rfl) ?_
                      exact g_go [0, 1] (j3 (r1382 != r1390) h) ⟨rfl, rfl, rfl, rfl, trivial⟩ (.slnil) rfl
                    · have h := if_neg' hp1378 h
                      have hns : Region.noSelect (Code.ops trellislaw32_ChoosePairs_c39) = true := by kernel_rfl
                      refine g_drawF (c := trellislaw32_ChoosePairs_c39) [] [Sm w.heap.size F w [], St w []] [] 50 rfl rfl mix rfl (.slnil) (sels [0, 1] rfl) ?_
                      refine wf_v 0 rfl (v_move rfl) gn rfl hns (by kernel_rfl) (by kernel_rfl) rfl rfl ?_
                      refine wf_v 1 rfl (v_bin rfl rfl rfl) gn rfl hns (by kernel_rfl) (by kernel_rfl) rfl rfl ?_
                      refine wf_v 2 rfl (v_move rfl) gn rfl hns (by kernel_rfl) (by kernel_rfl) rfl rfl ?_
                      refine wf_bool 72 rfl ((decide_eq_false hp1211)) ?_
                      refine wf_v 3 rfl (v_move rfl) (gy 72 rfl rfl) rfl hns (by kernel_rfl) (by kernel_rfl) rfl rfl ?_
                      refine wf_v 4 rfl (v_move rfl) (gy 72 rfl rfl) rfl hns (by kernel_rfl) (by kernel_rfl) rfl rfl ?_
                      refine wf_v 5 rfl (v_lenQ un_22 rfl h5.hq) (gy 72 rfl rfl) rfl hns (by kernel_rfl) (by kernel_rfl) rfl rfl ?_
                      refine wf_v 6 rfl (v_bin rfl rfl rfl) (gy 72 rfl rfl) rfl hns (by kernel_rfl) (by kernel_rfl) rfl rfl ?_
                      refine wf_v 7 rfl (v_pick (b := false) rfl rfl) gn rfl hns (by kernel_rfl) (by kernel_rfl) rfl rfl ?_
                      refine wf_v 8 rfl (v_move rfl) gn rfl hns (by kernel_rfl) (by kernel_rfl) rfl rfl ?_
                      refine wf_bool 78 rfl ((decide_eq_false hp1212)) ?_
                      refine wf_v 9 rfl (v_move rfl) (gy 78 rfl rfl) rfl hns (by kernel_rfl) (by kernel_rfl) rfl rfl ?_
                      refine wf_v 10 rfl (v_move rfl) (gy 78 rfl rfl) rfl hns (by kernel_rfl) (by kernel_rfl) rfl rfl ?_
                      have hr1710 := Rw.readF (s := St w []) (hl := hl_api_Node) (h1 := h1_api_Node) h5 hb1213
                      refine wf_v 11 rfl (v_idxR (s := St w []) slE_22 rfl rfl h5 hb1213) (gy 78 rfl rfl) rfl hns (by kernel_rfl) (by kernel_rfl) rfl rfl ?_
                      refine wf_v 12 rfl (v_ldA (St w []) ld_39 rfl hr1710 rfl (me 1 rfl)) (gy 78 rfl rfl) rfl hns (by kernel_rfl) (by kernel_rfl) rfl rfl ?_
                      refine wf_v 14 rfl (v_move rfl) (gy 78 rfl rfl) rfl hns (by kernel_rfl) (by kernel_rfl) rfl rfl ?_
                      refine wf_v 15 rfl (v_move rfl) (gy 78 rfl rfl) rfl hns (by kernel_rfl) (by kernel_rfl) rfl rfl ?_
                      have hr1729 := Rw.readF (s := St w []) (hl := hl_api_Node) (h1 := h1_api_Node) h5 hb1223
                      refine wf_v 16 rfl (v_idxR (s := St w []) slE_22 rfl rfl h5 hb1223) (gy 78 rfl rfl) rfl hns (by kernel_rfl) (by kernel_rfl) rfl rfl ?_
                      refine wf_v 17 rfl (v_ldA (St w []) ld_39 rfl hr1729 rfl (me 1 rfl)) (gy 78 rfl rfl) rfl hns (by kernel_rfl) (by kernel_rfl) rfl rfl ?_
                      refine wf_all [13] (by kernel_rfl) rfl ⟨on_s 13 rfl (gy 78 rfl rfl) rfl (s_call [.agg #[.string ((ix x1 r28).name), .bool ((ix x1 r28).named), .string ((ix x1 r28).field), .int .i64 ((ix x1 r28).from_), .int .i64 ((ix x1 r28).to), .int .i64 ((ix x1 r28).kids), .int .i64 ((ix x1 r28).leaf)]] rfl Try.func30 rfl rfl rfl fun w1742 hL1743 => ?_), trivial⟩
                      have hp1744 : List.Perm ([] : List Ent) (([] : List Ent) ++ ([] : List Ent)) := perm_of_idx [] [] rfl rfl (by kernel_rfl)
                      refine Calls.mono (trellislaw32_kind_calls w1742 (Fl ([] : List Snap)) (ix x1 r28) (hL1743.hFl (Sl := ([] : List Snap)) hp1744 (sels [] rfl)) (hL1743.into hp1744 (Fl ([] : List Snap))) r1218 hv1219) ?_
                      rintro _ w1745 ⟨rfl, hM1746⟩
                      have hL1747 := hL1743.call hp1744 hM1746
                      refine ⟨_, _, _, rfl, hL1747, ?_⟩
                      refine ⟨sels [] rfl, sels [0, 1] rfl, ?_⟩
                      refine wf_all [18] (by kernel_rfl) rfl ⟨on_s 18 rfl (gy 78 rfl rfl) rfl (s_call [.agg #[.string ((ix x1 x6).name), .bool ((ix x1 x6).named), .string ((ix x1 x6).field), .int .i64 ((ix x1 x6).from_), .int .i64 ((ix x1 x6).to), .int .i64 ((ix x1 x6).kids), .int .i64 ((ix x1 x6).leaf)]] rfl Try.func30 rfl rfl rfl fun w1754 hL1755 => ?_), trivial⟩
                      have hp1756 : List.Perm ([] : List Ent) (([] : List Ent) ++ ([] : List Ent)) := perm_of_idx [] [] rfl rfl (by kernel_rfl)
                      refine Calls.mono (trellislaw32_kind_calls w1754 (Fl ([] : List Snap)) (ix x1 x6) (hL1755.hFl (Sl := ([] : List Snap)) hp1756 (sels [] rfl)) (hL1755.into hp1756 (Fl ([] : List Snap))) r1228 hv1229) ?_
                      rintro _ w1757 ⟨rfl, hM1758⟩
                      have hL1759 := hL1755.call hp1756 hM1758
                      refine ⟨_, _, _, rfl, hL1759, ?_⟩
                      refine ⟨sels [] rfl, sels [0, 1] rfl, ?_⟩
                      refine wf_v 19 rfl (v_neg rfl) (gy 78 rfl rfl) rfl hns (by kernel_rfl) (by kernel_rfl) rfl rfl ?_
                      refine wf_v 20 rfl (v_bin rfl rfl rfl) (gy 78 rfl rfl) rfl hns (by kernel_rfl) (by kernel_rfl) rfl rfl ?_
                      refine wf_v 21 rfl (v_pick (b := false) rfl rfl) gn rfl hns (by kernel_rfl) (by kernel_rfl) rfl rfl ?_
                      refine wf_v 22 rfl (v_move rfl) gn rfl hns (by kernel_rfl) (by kernel_rfl) rfl rfl ?_
                      refine wf_bool 92 rfl ((eqib hp1233)) ?_
                      refine wf_v 23 rfl (v_move rfl) (gy 92 rfl rfl) rfl hns (by kernel_rfl) (by kernel_rfl) rfl rfl ?_
                      refine wf_v 24 rfl (v_move rfl) (gy 92 rfl rfl) rfl hns (by kernel_rfl) (by kernel_rfl) rfl rfl ?_
                      refine wf_v 25 rfl (v_bin rfl rfl rfl) (gy 92 rfl rfl) rfl hns (by kernel_rfl) (by kernel_rfl) rfl rfl ?_
                      refine wf_v 26 rfl (v_move rfl) (gy 92 rfl rfl) rfl hns (by kernel_rfl) (by kernel_rfl) rfl rfl ?_
                      refine wf_v 27 rfl (v_move rfl) (gy 92 rfl rfl) rfl hns (by kernel_rfl) (by kernel_rfl) rfl rfl ?_
                      have hr1760 := Rw.readF (s := St w []) (hl := hl_api_Node) (h1 := h1_api_Node) h5 hb1223
                      refine wf_v 28 rfl (v_idxR (s := St w []) slE_22 rfl rfl h5 hb1223) (gy 92 rfl rfl) rfl hns (by kernel_rfl) (by kernel_rfl) rfl rfl ?_
                      refine wf_v 29 rfl (v_ldA (St w []) ld_39 rfl hr1760 rfl (me 1 rfl)) (gy 92 rfl rfl) rfl hns (by kernel_rfl) (by kernel_rfl) rfl rfl ?_
                      refine wf_all [30] (by kernel_rfl) rfl ⟨on_s 30 rfl (gy 92 rfl rfl) rfl (s_call [.agg #[.string ((ix x1 x6).name), .bool ((ix x1 x6).named), .string ((ix x1 x6).field), .int .i64 ((ix x1 x6).from_), .int .i64 ((ix x1 x6).to), .int .i64 ((ix x1 x6).kids), .int .i64 ((ix x1 x6).leaf)]] rfl Try.func30 rfl rfl rfl fun w1767 hL1768 => ?_), trivial⟩
                      have hp1769 : List.Perm ([] : List Ent) (([] : List Ent) ++ ([] : List Ent)) := perm_of_idx [] [] rfl rfl (by kernel_rfl)
                      refine Calls.mono (trellislaw32_kind_calls w1767 (Fl ([] : List Snap)) (ix x1 x6) (hL1768.hFl (Sl := ([] : List Snap)) hp1769 (sels [] rfl)) (hL1768.into hp1769 (Fl ([] : List Snap))) r1238 hv1239) ?_
                      rintro _ w1770 ⟨rfl, hM1771⟩
                      have hL1772 := hL1768.call hp1769 hM1771
                      refine ⟨_, _, _, rfl, hL1772, ?_⟩
                      refine ⟨sels [] rfl, sels [0, 1] rfl, ?_⟩
                      refine wf_v 31 rfl (v_bin rfl rfl rfl) (gy 92 rfl rfl) rfl hns (by kernel_rfl) (by kernel_rfl) rfl rfl ?_
                      refine wf_v 32 rfl (v_neB un_4 rfl rfl) (gy 92 rfl rfl) rfl hns (by kernel_rfl) (by kernel_rfl) rfl rfl ?_
                      refine wf_v 33 rfl (v_pick (b := false) rfl rfl) gn rfl hns (by kernel_rfl) (by kernel_rfl) rfl rfl ?_
                      refine wf_v 34 rfl (v_move rfl) gn rfl hns (by kernel_rfl) (by kernel_rfl) rfl rfl ?_
                      refine wf_bool 104 rfl ((bf hp1243)) ?_
                      refine wf_v 35 rfl (v_move rfl) (gy 104 rfl rfl) rfl hns (by kernel_rfl) (by kernel_rfl) rfl rfl ?_
                      refine wf_v 36 rfl (v_move rfl) (gy 104 rfl rfl) rfl hns (by kernel_rfl) (by kernel_rfl) rfl rfl ?_
                      refine wf_v 38 rfl (v_move rfl) (gy 104 rfl rfl) rfl hns (by kernel_rfl) (by kernel_rfl) rfl rfl ?_
                      refine wf_all [37] (by kernel_rfl) rfl ⟨on_s 37 rfl (gy 104 rfl rfl) rfl (s_call [.slice A2 n3 c4, .int .i64 r28] rfl Try.func29 rfl rfl rfl fun w1785 hL1786 => ?_), trivial⟩
                      have hp1787 : List.Perm ([] : List Ent) (([] : List Ent) ++ ([] : List Ent)) := perm_of_idx [] [] rfl rfl (by kernel_rfl)
                      refine Calls.mono (choose_Pair_calls w1785 (Fl ([] : List Snap)) x1 r28 A2 n3 c4 (Rw.mono h5 (hL1786.toSt hp1787 (me 1 rfl))) (hL1786.hFl (Sl := ([] : List Snap)) hp1787 (sels [] rfl)) (hL1786.into hp1787 (Fl ([] : List Snap))) r1373 hv1374) ?_
                      rintro _ w1788 ⟨rfl, hM1789⟩
                      have hL1790 := hL1786.call hp1787 hM1789
                      refine ⟨_, _, _, rfl, hL1790, ?_⟩
                      refine ⟨sels [] rfl, sels [0, 1] rfl, ?_⟩
                      refine wf_v 39 rfl (v_bin rfl rfl rfl) (gy 104 rfl rfl) rfl hns (by kernel_rfl) (by kernel_rfl) rfl rfl ?_
                      refine wf_v 40 rfl (v_pick (b := false) rfl rfl) gn rfl hns (by kernel_rfl) (by kernel_rfl) rfl rfl ?_
                      refine wf_v 41 rfl (v_move rfl) gn rfl hns (by kernel_rfl) (by kernel_rfl) rfl rfl ?_
                      refine wf_bool 111 rfl ((neib hp1378)) ?_
                      refine wf_pass 42 rfl (ps 111 rfl rfl rfl) hns (by kernel_rfl) (by kernel_rfl) rfl rfl ?_
                      refine wf_pass 43 rfl (ps 111 rfl rfl rfl) hns (by kernel_rfl) (by kernel_rfl) rfl rfl ?_
                      refine wf_pass 44 rfl (ps 111 rfl rfl rfl) hns (by kernel_rfl) (by kernel_rfl) rfl rfl ?_
                      refine wf_pass 45 rfl (ps 111 rfl rfl rfl) hns (by kernel_rfl) (by kernel_rfl) rfl rfl ?_
                      refine wf_pass 46 rfl (ps 111 rfl rfl rfl) hns (by kernel_rfl) (by kernel_rfl) rfl rfl ?_
                      refine wf_pass 47 rfl (ps 111 rfl rfl rfl) hns (by kernel_rfl) (by kernel_rfl) rfl rfl ?_
                      refine wf_pass 48 rfl (ps 111 rfl rfl rfl) hns (by kernel_rfl) (by kernel_rfl) rfl rfl ?_
                      refine wf_v 49 rfl (v_pick (b := true) rfl rfl) gn rfl hns (by kernel_rfl) (by kernel_rfl) rfl rfl ?_
                      refine wf_end (by kernel_rfl) ?_
                      exact g_go [0, 1] (j3 true h) ⟨rfl, rfl, rfl, rfl, trivial⟩ (.slnil) rfl
                · have h := if_neg' hp1233 h
                  have hns : Region.noSelect (Code.ops trellislaw32_ChoosePairs_c39) = true := by kernel_rfl
                  refine g_drawF (c := trellislaw32_ChoosePairs_c39) [] [Sm w.heap.size F w [], St w []] [] 50 rfl rfl mix rfl (.slnil) (sels [0, 1] rfl) ?_
                  refine wf_v 0 rfl (v_move rfl) gn rfl hns (by kernel_rfl) (by kernel_rfl) rfl rfl ?_
                  refine wf_v 1 rfl (v_bin rfl rfl rfl) gn rfl hns (by kernel_rfl) (by kernel_rfl) rfl rfl ?_
                  refine wf_v 2 rfl (v_move rfl) gn rfl hns (by kernel_rfl) (by kernel_rfl) rfl rfl ?_
                  refine wf_bool 72 rfl ((decide_eq_false hp1211)) ?_
                  refine wf_v 3 rfl (v_move rfl) (gy 72 rfl rfl) rfl hns (by kernel_rfl) (by kernel_rfl) rfl rfl ?_
                  refine wf_v 4 rfl (v_move rfl) (gy 72 rfl rfl) rfl hns (by kernel_rfl) (by kernel_rfl) rfl rfl ?_
                  refine wf_v 5 rfl (v_lenQ un_22 rfl h5.hq) (gy 72 rfl rfl) rfl hns (by kernel_rfl) (by kernel_rfl) rfl rfl ?_
                  refine wf_v 6 rfl (v_bin rfl rfl rfl) (gy 72 rfl rfl) rfl hns (by kernel_rfl) (by kernel_rfl) rfl rfl ?_
                  refine wf_v 7 rfl (v_pick (b := false) rfl rfl) gn rfl hns (by kernel_rfl) (by kernel_rfl) rfl rfl ?_
                  refine wf_v 8 rfl (v_move rfl) gn rfl hns (by kernel_rfl) (by kernel_rfl) rfl rfl ?_
                  refine wf_bool 78 rfl ((decide_eq_false hp1212)) ?_
                  refine wf_v 9 rfl (v_move rfl) (gy 78 rfl rfl) rfl hns (by kernel_rfl) (by kernel_rfl) rfl rfl ?_
                  refine wf_v 10 rfl (v_move rfl) (gy 78 rfl rfl) rfl hns (by kernel_rfl) (by kernel_rfl) rfl rfl ?_
                  have hr1841 := Rw.readF (s := St w []) (hl := hl_api_Node) (h1 := h1_api_Node) h5 hb1213
                  refine wf_v 11 rfl (v_idxR (s := St w []) slE_22 rfl rfl h5 hb1213) (gy 78 rfl rfl) rfl hns (by kernel_rfl) (by kernel_rfl) rfl rfl ?_
                  refine wf_v 12 rfl (v_ldA (St w []) ld_39 rfl hr1841 rfl (me 1 rfl)) (gy 78 rfl rfl) rfl hns (by kernel_rfl) (by kernel_rfl) rfl rfl ?_
                  refine wf_v 14 rfl (v_move rfl) (gy 78 rfl rfl) rfl hns (by kernel_rfl) (by kernel_rfl) rfl rfl ?_
                  refine wf_v 15 rfl (v_move rfl) (gy 78 rfl rfl) rfl hns (by kernel_rfl) (by kernel_rfl) rfl rfl ?_
                  have hr1860 := Rw.readF (s := St w []) (hl := hl_api_Node) (h1 := h1_api_Node) h5 hb1223
                  refine wf_v 16 rfl (v_idxR (s := St w []) slE_22 rfl rfl h5 hb1223) (gy 78 rfl rfl) rfl hns (by kernel_rfl) (by kernel_rfl) rfl rfl ?_
                  refine wf_v 17 rfl (v_ldA (St w []) ld_39 rfl hr1860 rfl (me 1 rfl)) (gy 78 rfl rfl) rfl hns (by kernel_rfl) (by kernel_rfl) rfl rfl ?_
                  refine wf_all [13] (by kernel_rfl) rfl ⟨on_s 13 rfl (gy 78 rfl rfl) rfl (s_call [.agg #[.string ((ix x1 r28).name), .bool ((ix x1 r28).named), .string ((ix x1 r28).field), .int .i64 ((ix x1 r28).from_), .int .i64 ((ix x1 r28).to), .int .i64 ((ix x1 r28).kids), .int .i64 ((ix x1 r28).leaf)]] rfl Try.func30 rfl rfl rfl fun w1873 hL1874 => ?_), trivial⟩
                  have hp1875 : List.Perm ([] : List Ent) (([] : List Ent) ++ ([] : List Ent)) := perm_of_idx [] [] rfl rfl (by kernel_rfl)
                  refine Calls.mono (trellislaw32_kind_calls w1873 (Fl ([] : List Snap)) (ix x1 r28) (hL1874.hFl (Sl := ([] : List Snap)) hp1875 (sels [] rfl)) (hL1874.into hp1875 (Fl ([] : List Snap))) r1218 hv1219) ?_
                  rintro _ w1876 ⟨rfl, hM1877⟩
                  have hL1878 := hL1874.call hp1875 hM1877
                  refine ⟨_, _, _, rfl, hL1878, ?_⟩
                  refine ⟨sels [] rfl, sels [0, 1] rfl, ?_⟩
                  refine wf_all [18] (by kernel_rfl) rfl ⟨on_s 18 rfl (gy 78 rfl rfl) rfl (s_call [.agg #[.string ((ix x1 x6).name), .bool ((ix x1 x6).named), .string ((ix x1 x6).field), .int .i64 ((ix x1 x6).from_), .int .i64 ((ix x1 x6).to), .int .i64 ((ix x1 x6).kids), .int .i64 ((ix x1 x6).leaf)]] rfl Try.func30 rfl rfl rfl fun w1885 hL1886 => ?_), trivial⟩
                  have hp1887 : List.Perm ([] : List Ent) (([] : List Ent) ++ ([] : List Ent)) := perm_of_idx [] [] rfl rfl (by kernel_rfl)
                  refine Calls.mono (trellislaw32_kind_calls w1885 (Fl ([] : List Snap)) (ix x1 x6) (hL1886.hFl (Sl := ([] : List Snap)) hp1887 (sels [] rfl)) (hL1886.into hp1887 (Fl ([] : List Snap))) r1228 hv1229) ?_
                  rintro _ w1888 ⟨rfl, hM1889⟩
                  have hL1890 := hL1886.call hp1887 hM1889
                  refine ⟨_, _, _, rfl, hL1890, ?_⟩
                  refine ⟨sels [] rfl, sels [0, 1] rfl, ?_⟩
                  refine wf_v 19 rfl (v_neg rfl) (gy 78 rfl rfl) rfl hns (by kernel_rfl) (by kernel_rfl) rfl rfl ?_
                  refine wf_v 20 rfl (v_bin rfl rfl rfl) (gy 78 rfl rfl) rfl hns (by kernel_rfl) (by kernel_rfl) rfl rfl ?_
                  refine wf_v 21 rfl (v_pick (b := false) rfl rfl) gn rfl hns (by kernel_rfl) (by kernel_rfl) rfl rfl ?_
                  refine wf_v 22 rfl (v_move rfl) gn rfl hns (by kernel_rfl) (by kernel_rfl) rfl rfl ?_
                  refine wf_bool 92 rfl ((neib hp1233)) ?_
                  refine wf_pass 23 rfl (ps 92 rfl rfl rfl) hns (by kernel_rfl) (by kernel_rfl) rfl rfl ?_
                  refine wf_pass 24 rfl (ps 92 rfl rfl rfl) hns (by kernel_rfl) (by kernel_rfl) rfl rfl ?_
                  refine wf_pass 25 rfl (ps 92 rfl rfl rfl) hns (by kernel_rfl) (by kernel_rfl) rfl rfl ?_
                  refine wf_pass 26 rfl (ps 92 rfl rfl rfl) hns (by kernel_rfl) (by kernel_rfl) rfl rfl ?_
                  refine wf_pass 27 rfl (ps 92 rfl rfl rfl) hns (by kernel_rfl) (by kernel_rfl) rfl rfl ?_
                  refine wf_pass 28 rfl (ps 92 rfl rfl rfl) hns (by kernel_rfl) (by kernel_rfl) rfl rfl ?_
                  refine wf_pass 29 rfl (ps 92 rfl rfl rfl) hns (by kernel_rfl) (by kernel_rfl) rfl rfl ?_
                  refine wf_pass 30 rfl (ps 92 rfl rfl rfl) hns (by kernel_rfl) (by kernel_rfl) rfl rfl ?_
                  refine wf_pass 31 rfl (ps 92 rfl rfl rfl) hns (by kernel_rfl) (by kernel_rfl) rfl rfl ?_
                  refine wf_pass 32 rfl (ps 92 rfl rfl rfl) hns (by kernel_rfl) (by kernel_rfl) rfl rfl ?_
                  refine wf_v 33 rfl (v_pick (b := true) rfl rfl) gn rfl hns (by kernel_rfl) (by kernel_rfl) rfl rfl ?_
                  refine wf_v 34 rfl (v_move rfl) gn rfl hns (by kernel_rfl) (by kernel_rfl) rfl rfl ?_
                  refine wf_pass 35 rfl (ps 104 rfl rfl rfl) hns (by kernel_rfl) (by kernel_rfl) rfl rfl ?_
                  refine wf_pass 36 rfl (ps 104 rfl rfl rfl) hns (by kernel_rfl) (by kernel_rfl) rfl rfl ?_
                  refine wf_pass 37 rfl (ps 104 rfl rfl rfl) hns (by kernel_rfl) (by kernel_rfl) rfl rfl ?_
                  refine wf_pass 38 rfl (ps 104 rfl rfl rfl) hns (by kernel_rfl) (by kernel_rfl) rfl rfl ?_
                  refine wf_pass 39 rfl (ps 104 rfl rfl rfl) hns (by kernel_rfl) (by kernel_rfl) rfl rfl ?_
                  refine wf_v 40 rfl (v_pick (b := true) rfl rfl) gn rfl hns (by kernel_rfl) (by kernel_rfl) rfl rfl ?_
                  refine wf_v 41 rfl (v_move rfl) gn rfl hns (by kernel_rfl) (by kernel_rfl) rfl rfl ?_
                  refine wf_pass 42 rfl (ps 111 rfl rfl rfl) hns (by kernel_rfl) (by kernel_rfl) rfl rfl ?_
                  refine wf_pass 43 rfl (ps 111 rfl rfl rfl) hns (by kernel_rfl) (by kernel_rfl) rfl rfl ?_
                  refine wf_pass 44 rfl (ps 111 rfl rfl rfl) hns (by kernel_rfl) (by kernel_rfl) rfl rfl ?_
                  refine wf_pass 45 rfl (ps 111 rfl rfl rfl) hns (by kernel_rfl) (by kernel_rfl) rfl rfl ?_
                  refine wf_pass 46 rfl (ps 111 rfl rfl rfl) hns (by kernel_rfl) (by kernel_rfl) rfl rfl ?_
                  refine wf_pass 47 rfl (ps 111 rfl rfl rfl) hns (by kernel_rfl) (by kernel_rfl) rfl rfl ?_
                  refine wf_pass 48 rfl (ps 111 rfl rfl rfl) hns (by kernel_rfl) (by kernel_rfl) rfl rfl ?_
                  refine wf_v 49 rfl (v_pick (b := true) rfl rfl) gn rfl hns (by kernel_rfl) (by kernel_rfl) rfl rfl ?_
                  refine wf_end (by kernel_rfl) ?_
                  exact g_go [0, 1] (j3 true h) ⟨rfl, rfl, rfl, rfl, trivial⟩ (.slnil) rfl
      refine g_region (c := trellislaw32_ChoosePairs_c21) rfl rfl ?_
      refine wl_v 0 rfl (v_move rfl) gn rfl ?_
      obtain ⟨r1894, hv1895, h⟩ := h
      refine wl_s 1 rfl (s_call [.slice A2 n3 c4] rfl Try.func27 rfl rfl rfl fun w1891 hL1892 => ?_) gn
      have hp1893 : List.Perm ([] : List Ent) (([] : List Ent) ++ ([] : List Ent)) := perm_of_idx [] [] rfl rfl (by kernel_rfl)
      refine Calls.mono (tree_Roots_calls w1891 (Fl ([] : List Snap)) x1 A2 n3 c4 (Rw.mono h5 (hL1892.toSt hp1893 (me 1 rfl))) (hL1892.hFl (Sl := ([] : List Snap)) hp1893 (sels [] rfl)) (hL1892.into hp1893 (Fl ([] : List Snap))) r1894 hv1895) ?_
      rintro _ w1896 ⟨rfl, hM1897⟩
      have hL1898 := hL1892.call hp1893 hM1897
      refine ⟨_, _, _, rfl, hL1898, ?_⟩
      refine wl_v 2 rfl (v_bin rfl rfl rfl) gn rfl ?_
      refine wl_v 3 rfl (v_move rfl) gn rfl ?_
      by_cases hp1899 : r1894 < 0
      · have h := if_pos' hp1899 h
        refine w_bool 21 rfl ((decide_eq_true hp1899)) ?_
        refine wl_pass 4 rfl (ps 21 rfl rfl rfl) ?_
        refine wl_pass 5 rfl (ps 21 rfl rfl rfl) ?_
        refine wl_v 6 rfl (v_pick (b := true) rfl rfl) gn rfl ?_
        refine wl_v 7 rfl (v_move rfl) gn rfl ?_
        refine wl_pass 8 rfl (ps 25 rfl rfl rfl) ?_
        refine wl_pass 9 rfl (ps 25 rfl rfl rfl) ?_
        refine wl_pass 10 rfl (ps 25 rfl rfl rfl) ?_
        refine wl_pass 11 rfl (ps 25 rfl rfl rfl) ?_
        refine wl_v 12 rfl (v_pick (b := true) rfl rfl) gn rfl ?_
        refine wl_v 13 rfl (v_move rfl) gn rfl ?_
        refine wl_pass 14 rfl (ps 31 rfl rfl rfl) ?_
        refine wl_pass 15 rfl (ps 31 rfl rfl rfl) ?_
        refine wl_pass 16 rfl (ps 31 rfl rfl rfl) ?_
        refine wl_pass 17 rfl (ps 31 rfl rfl rfl) ?_
        refine wl_pass 18 rfl (ps 31 rfl rfl rfl) ?_
        refine wl_pass 19 rfl (ps 31 rfl rfl rfl) ?_
        refine wl_v 20 rfl (v_pick (b := true) rfl rfl) gn rfl ?_
        refine w_end 21 rfl ?_
        exact g_go [0, 1] (j1 true h) ⟨rfl, rfl, rfl, rfl, trivial⟩ (.slnil) rfl
      · have h := if_neg' hp1899 h
        refine w_bool 21 rfl ((decide_eq_false hp1899)) ?_
        refine wl_v 4 rfl (v_move rfl) (gy 21 rfl rfl) rfl ?_
        refine wl_v 5 rfl (v_bin rfl rfl rfl) (gy 21 rfl rfl) rfl ?_
        refine wl_v 6 rfl (v_pick (b := false) rfl rfl) gn rfl ?_
        refine wl_v 7 rfl (v_move rfl) gn rfl ?_
        by_cases hp1900 : x6 < 0
        · have h := if_pos' hp1900 h
          refine w_bool 25 rfl ((decide_eq_true hp1900)) ?_
          refine wl_pass 8 rfl (ps 25 rfl rfl rfl) ?_
          refine wl_pass 9 rfl (ps 25 rfl rfl rfl) ?_
          refine wl_pass 10 rfl (ps 25 rfl rfl rfl) ?_
          refine wl_pass 11 rfl (ps 25 rfl rfl rfl) ?_
          refine wl_v 12 rfl (v_pick (b := true) rfl rfl) gn rfl ?_
          refine wl_v 13 rfl (v_move rfl) gn rfl ?_
          refine wl_pass 14 rfl (ps 31 rfl rfl rfl) ?_
          refine wl_pass 15 rfl (ps 31 rfl rfl rfl) ?_
          refine wl_pass 16 rfl (ps 31 rfl rfl rfl) ?_
          refine wl_pass 17 rfl (ps 31 rfl rfl rfl) ?_
          refine wl_pass 18 rfl (ps 31 rfl rfl rfl) ?_
          refine wl_pass 19 rfl (ps 31 rfl rfl rfl) ?_
          refine wl_v 20 rfl (v_pick (b := true) rfl rfl) gn rfl ?_
          refine w_end 21 rfl ?_
          exact g_go [0, 1] (j1 true h) ⟨rfl, rfl, rfl, rfl, trivial⟩ (.slnil) rfl
        · have h := if_neg' hp1900 h
          refine w_bool 25 rfl ((decide_eq_false hp1900)) ?_
          refine wl_v 8 rfl (v_move rfl) (gy 25 rfl rfl) rfl ?_
          refine wl_v 9 rfl (v_move rfl) (gy 25 rfl rfl) rfl ?_
          refine wl_v 10 rfl (v_lenQ un_22 rfl h5.hq) (gy 25 rfl rfl) rfl ?_
          refine wl_v 11 rfl (v_bin rfl rfl rfl) (gy 25 rfl rfl) rfl ?_
          refine wl_v 12 rfl (v_pick (b := false) rfl rfl) gn rfl ?_
          refine wl_v 13 rfl (v_move rfl) gn rfl ?_
          by_cases hp1901 : x6 ≥ (x1.length : Int)
          · have h := if_pos' hp1901 h
            refine w_bool 31 rfl ((decide_eq_true hp1901)) ?_
            refine wl_pass 14 rfl (ps 31 rfl rfl rfl) ?_
            refine wl_pass 15 rfl (ps 31 rfl rfl rfl) ?_
            refine wl_pass 16 rfl (ps 31 rfl rfl rfl) ?_
            refine wl_pass 17 rfl (ps 31 rfl rfl rfl) ?_
            refine wl_pass 18 rfl (ps 31 rfl rfl rfl) ?_
            refine wl_pass 19 rfl (ps 31 rfl rfl rfl) ?_
            refine wl_v 20 rfl (v_pick (b := true) rfl rfl) gn rfl ?_
            refine w_end 21 rfl ?_
            exact g_go [0, 1] (j1 true h) ⟨rfl, rfl, rfl, rfl, trivial⟩ (.slnil) rfl
          · have h := if_neg' hp1901 h
            refine w_bool 31 rfl ((decide_eq_false hp1901)) ?_
            refine wl_v 14 rfl (v_move rfl) (gy 31 rfl rfl) rfl ?_
            refine wl_v 15 rfl (v_move rfl) (gy 31 rfl rfl) rfl ?_
            obtain ⟨hb1902, h⟩ := h
            have hr1903 := Rw.readF (s := St w []) (hl := hl_api_Node) (h1 := h1_api_Node) h5 hb1902
            refine wl_v 16 rfl (v_idxR (s := St w []) slE_22 rfl rfl h5 hb1902) (gy 31 rfl rfl) rfl ?_
            refine wl_v 17 rfl (v_ldA (St w []) ld_39 rfl hr1903 rfl (me 1 rfl)) (gy 31 rfl rfl) rfl ?_
            obtain ⟨r1907, hv1908, h⟩ := h
            refine wl_s 18 rfl (s_call [.agg #[.string ((ix x1 x6).name), .bool ((ix x1 x6).named), .string ((ix x1 x6).field), .int .i64 ((ix x1 x6).from_), .int .i64 ((ix x1 x6).to), .int .i64 ((ix x1 x6).kids), .int .i64 ((ix x1 x6).leaf)]] rfl Try.func30 rfl rfl rfl fun w1904 hL1905 => ?_) (gy 31 rfl rfl)
            have hp1906 : List.Perm ([] : List Ent) (([] : List Ent) ++ ([] : List Ent)) := perm_of_idx [] [] rfl rfl (by kernel_rfl)
            refine Calls.mono (trellislaw32_kind_calls w1904 (Fl ([] : List Snap)) (ix x1 x6) (hL1905.hFl (Sl := ([] : List Snap)) hp1906 (sels [] rfl)) (hL1905.into hp1906 (Fl ([] : List Snap))) r1907 hv1908) ?_
            rintro _ w1909 ⟨rfl, hM1910⟩
            have hL1911 := hL1905.call hp1906 hM1910
            refine ⟨_, _, _, rfl, hL1911, ?_⟩
            refine wl_v 19 rfl (v_bin rfl rfl rfl) (gy 31 rfl rfl) rfl ?_
            refine wl_v 20 rfl (v_pick (b := false) rfl rfl) gn rfl ?_
            refine w_end 21 rfl ?_
            exact g_go [0, 1] (j1 (r1907 == 0) h) ⟨rfl, rfl, rfl, rfl, trivial⟩ (.slnil) rfl
  · have h := if_neg' hp15 h
    refine g_true (c := trellislaw32_ChoosePairs_c6) rfl _ rfl ((nt (bf hp15))) ?_
    refine g_seq (c := trellislaw32_ChoosePairs_c7) rfl ?_
    refine g_region (c := trellislaw32_ChoosePairs_c80) rfl rfl ?_
    refine wl_v 0 rfl (v_assign rfl) gn rfl ?_
    refine w_end 1 rfl ?_
    refine g_retR (c := trellislaw32_ChoosePairs_c81) [.bool false] rfl Try.func7 rfl (.tmp rfl (.nil)) fun wr hLr => ?_
    have hMr : B.Loc w wr [] [St w []] := hLr.pick (rest := []) (perm_of_idx [] [] rfl rfl (by kernel_rfl)) (sels [1] rfl)
    have hMi : ∀ e ∈ ([] : List Ent), e ∈ ([] : List Ent) := sels [] rfl
    show trellislaw32_ChoosePairs_R w F  r (.returned (packV [.bool false])) wr
    rw [h]
    exact ⟨rfl, hMr⟩
noncomputable abbrev tree_Size_c0 : Code := bodyOf Try.f32
noncomputable abbrev tree_Size_c1 : Code := Code.fst tree_Size_c0
noncomputable abbrev tree_Size_c2 : Code := Code.snd tree_Size_c0
noncomputable abbrev tree_Size_c3 : Code := Code.fst tree_Size_c2
noncomputable abbrev tree_Size_c4 : Code := Code.snd tree_Size_c2
noncomputable abbrev tree_Size_c5 : Code := Code.fst tree_Size_c4
noncomputable abbrev tree_Size_c6 : Code := Code.snd tree_Size_c4
noncomputable abbrev tree_Size_c7 : Code := Code.fst tree_Size_c5
noncomputable abbrev tree_Size_c8 : Code := Code.snd tree_Size_c5
noncomputable abbrev tree_Size_c9 : Code := Code.fst tree_Size_c8
noncomputable abbrev tree_Size_c10 : Code := Code.snd tree_Size_c8
noncomputable abbrev tree_Size_c11 : Code := Code.fst tree_Size_c6
noncomputable abbrev tree_Size_c12 : Code := Code.snd tree_Size_c6
noncomputable abbrev tree_Size_c13 : Code := Code.fst tree_Size_c9
noncomputable abbrev tree_Size_c14 : Code := Code.snd tree_Size_c9
abbrev tree_Size_R (w : World) (F : Nat → Prop) (r : Int) : Ending → World → Prop := fun e w' => e = .returned (.int .i64 r) ∧ B.Loc w w' [] [St w []]
noncomputable abbrev tree_Size_C (w : World) (F : Nat → Prop) (r : Int) : Cx := ⟨Try.prog, 32, Try.f32, 19, tree_Size_R w F  r, w⟩
theorem tree_Size_calls (w : World) (F : Nat → Prop) (x1 : List api_Node) (x6 : Int) (A2 : Option Addr) (n3 : Nat) (c4 : Nat) (h5 : Rw k_api_Node w (St w []).av A2 n3 c4 x1) (hF : ∀ b, F b → b < w.heap.size ∧ ∀ o ∈ ([] : List (List Nat)), b ∉ o) (hL0 : B.Loc w w [] [Sm w.heap.size F w [], St w []]) (r : Int) (h : tree_Size x1 x6 r) : Calls Try.prog 32 #[.slice A2 n3 c4, .int .i64 x6] w (tree_Size_R w F  r) := by
  unfold tree_Size at h
  refine calls_of_Loc (vs := [.slice A2 n3 c4, .int .i64 x6]) 19 Try.func32 rfl Try.ntmps32 rfl hL0 ?_
  show G (tree_Size_C w F r) _ _ _ _
  refine g_seq (c := tree_Size_c0) rfl ?_
  refine g_region (c := tree_Size_c1) rfl rfl ?_
  refine wl_v 0 rfl (v_assign rfl) gn rfl ?_
  refine w_end 1 rfl ?_
  refine g_seq (c := tree_Size_c2) rfl ?_
  refine g_region (c := tree_Size_c3) rfl rfl ?_
  refine wl_v 0 rfl (v_move rfl) gn rfl ?_
  obtain ⟨r10, hv11, h⟩ := h
  refine wl_s 1 rfl (s_call [.slice A2 n3 c4] rfl Try.func43 rfl rfl rfl fun w7 hL8 => ?_) gn
  have hp9 : List.Perm ([] : List Ent) (([] : List Ent) ++ ([] : List Ent)) := perm_of_idx [] [] rfl rfl (by kernel_rfl)
  refine Calls.mono (tree_plant_calls w7 (Fl ([St w []] : List Snap)) x1 A2 n3 c4 (Rw.mono h5 (hL8.toFl (me 1 rfl) (me 0 rfl))) (hL8.hFl (Sl := ([St w []] : List Snap)) hp9 (sels [1] rfl)) (hL8.into hp9 (Fl ([St w []] : List Snap))) r10 hv11) ?_
  rintro _ w26 ⟨A16, n17, c18, A21, n22, c23, A12, n13, c14, rfl, hM27, h19, h24, h15⟩
  obtain ⟨sv30, hL28, hv29⟩ := hL8.callN (Sl := ([St w []] : List Snap)) hp9 hM27 (sels [1] rfl)
  have h15 : At k_api_Node (sv30) A12 n13 c14 r10.nodes := Rw.mono h15 hv29
  refine ⟨_, _, _, rfl, hL28, ?_⟩
  refine wl_s 2 rfl (s_alloc [.slice none 0 0, .slice none 0 0, .slice none 0 0, .bool false] zr_54 rfl fun gb31 => ?_) gn
  refine wl_s 3 rfl (s_stB (vs := [.slice A12 n13 c14, .slice A16 n17 c18, .slice A21 n22 c23, .bool r10.ok]) (cs' := [.slice A12 n13 c14, .slice A16 n17 c18, .slice A21 n22 c23, .bool r10.ok]) (M' := [.box gb31 54 [.slice A12 n13 c14, .slice A16 n17 c18, .slice A21 n22 c23, .bool r10.ok], .own (.slice A16 n17 c18) 3 1 n17 (r10.parent.flatMap (eI .i64)), .own (.slice A21 n22 c23) 3 1 n22 (r10.end_.flatMap (eI .i64))]) 0 sz_54 rfl rfl rfl rfl rfl rfl rfl rfl rfl ?_) gn
  refine w_end 4 rfl ?_
  refine g_seq (c := tree_Size_c4) rfl ?_
  refine g_seq (c := tree_Size_c5) rfl ?_
  refine g_region (c := tree_Size_c7) rfl rfl ?_
  refine wl_v 0 rfl (v_ldB [.slice A12 n13 c14, .slice A16 n17 c18, .slice A21 n22 c23, .bool r10.ok] 0 ld_54 rfl rfl rfl rfl) gn rfl ?_
  refine wl_v 1 rfl (v_move rfl) gn rfl ?_
  obtain ⟨r36, hv37, h⟩ := h
  refine wl_s 2 rfl (s_call [.agg #[.slice A12 n13 c14, .slice A16 n17 c18, .slice A21 n22 c23, .bool r10.ok], .int .i64 x6] rfl Try.func45 rfl rfl rfl fun w33 hL34 => ?_) gn
  have hp35 : List.Perm ([.box gb31 54 [.slice A12 n13 c14, .slice A16 n17 c18, .slice A21 n22 c23, .bool r10.ok], .own (.slice A16 n17 c18) 3 1 n17 (r10.parent.flatMap (eI .i64)), .own (.slice A21 n22 c23) 3 1 n22 (r10.end_.flatMap (eI .i64))] : List Ent) (([] : List Ent) ++ ([.box gb31 54 [.slice A12 n13 c14, .slice A16 n17 c18, .slice A21 n22 c23, .bool r10.ok], .own (.slice A16 n17 c18) 3 1 n17 (r10.parent.flatMap (eI .i64)), .own (.slice A21 n22 c23) 3 1 n22 (r10.end_.flatMap (eI .i64))] : List Ent)) := perm_of_idx [] [0, 1, 2] rfl rfl (by kernel_rfl)
  refine Calls.mono (tree_forest_has_calls w33 (Fl ([] : List Snap)) r10 x6 A12 n13 c14 A16 n17 c18 A21 n22 c23 (Rw.mono h15 (hL34.toSt hp35 (me 0 rfl))) (hL34.argO (dk := (kInt .i64)) hp35 [] rfl 1 rfl rfl (Ow.weak hL8.env.size h19) (me 1 rfl) (Cells.flat _)) (hL34.argO (dk := (kInt .i64)) hp35 [] rfl 2 rfl rfl (Ow.weak hL8.env.size h24) (me 1 rfl) (Cells.flat _)) (hL34.hFl (Sl := ([] : List Snap)) hp35 (sels [] rfl)) (hL34.into hp35 (Fl ([] : List Snap))) r36 hv37) ?_
  rintro _ w38 ⟨rfl, hM39⟩
  have hL40 := hL34.call hp35 hM39
  refine ⟨_, _, _, rfl, hL40, ?_⟩
  refine wl_v 3 rfl (v_not rfl) gn rfl ?_
  refine w_end 4 rfl ?_
  by_cases hp41 : r36 = true
  · have h := if_pos' hp41 h
    refine g_false (c := tree_Size_c8) rfl _ rfl ((nf hp41)) ?_
    refine g_skip (c := tree_Size_c10) rfl ?_
    refine g_seq (c := tree_Size_c6) rfl ?_
    refine g_region (c := tree_Size_c11) rfl rfl ?_
    refine wl_v 0 rfl (v_fldB fo_54_2 rfl) gn rfl ?_
    refine wl_v 1 rfl (v_ldB1 0 ld_45 rfl rfl rfl) gn rfl ?_
    refine wl_v 2 rfl (v_move rfl) gn rfl ?_
    obtain ⟨hb42, h⟩ := h
    refine wl_v 3 rfl (v_idxO slE_45 rfl rfl (Ow.weak hL8.env.size h24) hb42) gn rfl ?_
    refine wl_v 4 rfl (v_ldO1 (.int .i64 (ix r10.end_ x6)) 2 ld_3 rfl rfl (fm_get0 (hlI .i64) hb42 rfl)) gn rfl ?_
    refine wl_v 5 rfl (v_move rfl) gn rfl ?_
    refine wl_v 6 rfl (v_bin rfl rfl rfl) gn rfl ?_
    refine wl_v 7 rfl (v_assign rfl) gn rfl ?_
    refine w_end 8 rfl ?_
    refine g_retR (c := tree_Size_c12) [.int .i64 (w64 ((ix r10.end_ x6) - x6))] rfl Try.func32 rfl (.tmp rfl (.nil)) fun wr hLr => ?_
    have hMr : B.Loc w wr [] [St w []] := hLr.pick (rest := [.box gb31 54 [.slice A12 n13 c14, .slice A16 n17 c18, .slice A21 n22 c23, .bool r10.ok], .own (.slice A16 n17 c18) 3 1 n17 (r10.parent.flatMap (eI .i64)), .own (.slice A21 n22 c23) 3 1 n22 (r10.end_.flatMap (eI .i64))]) (perm_of_idx [] [0, 1, 2] rfl rfl (by kernel_rfl)) (sels [2] rfl)
    have hMi : ∀ e ∈ ([] : List Ent), e ∈ ([.box gb31 54 [.slice A12 n13 c14, .slice A16 n17 c18, .slice A21 n22 c23, .bool r10.ok], .own (.slice A16 n17 c18) 3 1 n17 (r10.parent.flatMap (eI .i64)), .own (.slice A21 n22 c23) 3 1 n22 (r10.end_.flatMap (eI .i64))] : List Ent) := sels [] rfl
    show tree_Size_R w F  r (.returned (packV [.int .i64 (w64 ((ix r10.end_ x6) - x6))])) wr
    rw [h]
    exact ⟨rfl, hMr⟩
  · have h := if_neg' hp41 h
    refine g_true (c := tree_Size_c8) rfl _ rfl ((nt (bf hp41))) ?_
    refine g_seq (c := tree_Size_c9) rfl ?_
    refine g_region (c := tree_Size_c13) rfl rfl ?_
    refine wl_v 0 rfl (v_assign rfl) gn rfl ?_
    refine w_end 1 rfl ?_
    refine g_retR (c := tree_Size_c14) [.int .i64 0] rfl Try.func32 rfl (.tmp rfl (.nil)) fun wr hLr => ?_
    have hMr : B.Loc w wr [] [St w []] := hLr.pick (rest := [.box gb31 54 [.slice A12 n13 c14, .slice A16 n17 c18, .slice A21 n22 c23, .bool r10.ok], .own (.slice A16 n17 c18) 3 1 n17 (r10.parent.flatMap (eI .i64)), .own (.slice A21 n22 c23) 3 1 n22 (r10.end_.flatMap (eI .i64))]) (perm_of_idx [] [0, 1, 2] rfl rfl (by kernel_rfl)) (sels [2] rfl)
    have hMi : ∀ e ∈ ([] : List Ent), e ∈ ([.box gb31 54 [.slice A12 n13 c14, .slice A16 n17 c18, .slice A21 n22 c23, .bool r10.ok], .own (.slice A16 n17 c18) 3 1 n17 (r10.parent.flatMap (eI .i64)), .own (.slice A21 n22 c23) 3 1 n22 (r10.end_.flatMap (eI .i64))] : List Ent) := sels [] rfl
    show tree_Size_R w F  r (.returned (packV [.int .i64 0])) wr
    rw [h]
    exact ⟨rfl, hMr⟩
noncomputable abbrev trellislaw32_ChooseSides_c0 : Code := bodyOf Try.f8
noncomputable abbrev trellislaw32_ChooseSides_c1 : Code := Code.fst trellislaw32_ChooseSides_c0
noncomputable abbrev trellislaw32_ChooseSides_c2 : Code := Code.snd trellislaw32_ChooseSides_c0
noncomputable abbrev trellislaw32_ChooseSides_c3 : Code := Code.fst trellislaw32_ChooseSides_c2
noncomputable abbrev trellislaw32_ChooseSides_c4 : Code := Code.snd trellislaw32_ChooseSides_c2
noncomputable abbrev trellislaw32_ChooseSides_c5 : Code := Code.fst trellislaw32_ChooseSides_c3
noncomputable abbrev trellislaw32_ChooseSides_c6 : Code := Code.snd trellislaw32_ChooseSides_c3
noncomputable abbrev trellislaw32_ChooseSides_c7 : Code := Code.fst trellislaw32_ChooseSides_c6
noncomputable abbrev trellislaw32_ChooseSides_c8 : Code := Code.snd trellislaw32_ChooseSides_c6
noncomputable abbrev trellislaw32_ChooseSides_c9 : Code := Code.fst trellislaw32_ChooseSides_c4
noncomputable abbrev trellislaw32_ChooseSides_c10 : Code := Code.snd trellislaw32_ChooseSides_c4
noncomputable abbrev trellislaw32_ChooseSides_c11 : Code := Code.fst trellislaw32_ChooseSides_c9
noncomputable abbrev trellislaw32_ChooseSides_c12 : Code := Code.snd trellislaw32_ChooseSides_c9
noncomputable abbrev trellislaw32_ChooseSides_c13 : Code := Code.fst trellislaw32_ChooseSides_c12
noncomputable abbrev trellislaw32_ChooseSides_c14 : Code := Code.snd trellislaw32_ChooseSides_c12
noncomputable abbrev trellislaw32_ChooseSides_c15 : Code := Code.fst trellislaw32_ChooseSides_c13
noncomputable abbrev trellislaw32_ChooseSides_c16 : Code := Code.snd trellislaw32_ChooseSides_c13
noncomputable abbrev trellislaw32_ChooseSides_c17 : Code := Code.fst trellislaw32_ChooseSides_c10
noncomputable abbrev trellislaw32_ChooseSides_c18 : Code := Code.snd trellislaw32_ChooseSides_c10
noncomputable abbrev trellislaw32_ChooseSides_c19 : Code := Code.fst trellislaw32_ChooseSides_c18
noncomputable abbrev trellislaw32_ChooseSides_c20 : Code := Code.snd trellislaw32_ChooseSides_c18
noncomputable abbrev trellislaw32_ChooseSides_c21 : Code := Code.fst trellislaw32_ChooseSides_c19
noncomputable abbrev trellislaw32_ChooseSides_c22 : Code := Code.snd trellislaw32_ChooseSides_c19
noncomputable abbrev trellislaw32_ChooseSides_c23 : Code := Code.fst trellislaw32_ChooseSides_c22
noncomputable abbrev trellislaw32_ChooseSides_c24 : Code := Code.snd trellislaw32_ChooseSides_c22
noncomputable abbrev trellislaw32_ChooseSides_c25 : Code := Code.fst trellislaw32_ChooseSides_c23
noncomputable abbrev trellislaw32_ChooseSides_c26 : Code := Code.snd trellislaw32_ChooseSides_c23
noncomputable abbrev trellislaw32_ChooseSides_c27 : Code := Code.fst trellislaw32_ChooseSides_c20
noncomputable abbrev trellislaw32_ChooseSides_c28 : Code := Code.snd trellislaw32_ChooseSides_c20
noncomputable abbrev trellislaw32_ChooseSides_c29 : Code := Code.fst trellislaw32_ChooseSides_c27
noncomputable abbrev trellislaw32_ChooseSides_c30 : Code := Code.snd trellislaw32_ChooseSides_c27
noncomputable abbrev trellislaw32_ChooseSides_c31 : Code := Code.fst trellislaw32_ChooseSides_c30
noncomputable abbrev trellislaw32_ChooseSides_c32 : Code := Code.snd trellislaw32_ChooseSides_c30
noncomputable abbrev trellislaw32_ChooseSides_c33 : Code := Code.fst trellislaw32_ChooseSides_c31
noncomputable abbrev trellislaw32_ChooseSides_c34 : Code := Code.snd trellislaw32_ChooseSides_c31
noncomputable abbrev trellislaw32_ChooseSides_c35 : Code := Code.fst trellislaw32_ChooseSides_c28
noncomputable abbrev trellislaw32_ChooseSides_c36 : Code := Code.snd trellislaw32_ChooseSides_c28
noncomputable abbrev trellislaw32_ChooseSides_c37 : Code := Code.fst trellislaw32_ChooseSides_c36
noncomputable abbrev trellislaw32_ChooseSides_c38 : Code := Code.snd trellislaw32_ChooseSides_c36
noncomputable abbrev trellislaw32_ChooseSides_c39 : Code := Code.fst trellislaw32_ChooseSides_c38
noncomputable abbrev trellislaw32_ChooseSides_c40 : Code := Code.snd trellislaw32_ChooseSides_c38
noncomputable abbrev trellislaw32_ChooseSides_c41 : Code := Code.fst trellislaw32_ChooseSides_c39
noncomputable abbrev trellislaw32_ChooseSides_c42 : Code := Code.snd trellislaw32_ChooseSides_c39
noncomputable abbrev trellislaw32_ChooseSides_c43 : Code := Code.fst trellislaw32_ChooseSides_c42
noncomputable abbrev trellislaw32_ChooseSides_c44 : Code := Code.snd trellislaw32_ChooseSides_c42
noncomputable abbrev trellislaw32_ChooseSides_c45 : Code := Code.fst trellislaw32_ChooseSides_c40
noncomputable abbrev trellislaw32_ChooseSides_c46 : Code := Code.snd trellislaw32_ChooseSides_c40
noncomputable abbrev trellislaw32_ChooseSides_c47 : Code := Code.fst trellislaw32_ChooseSides_c45
noncomputable abbrev trellislaw32_ChooseSides_c48 : Code := Code.snd trellislaw32_ChooseSides_c45
noncomputable abbrev trellislaw32_ChooseSides_c49 : Code := Code.fst trellislaw32_ChooseSides_c48
noncomputable abbrev trellislaw32_ChooseSides_c50 : Code := Code.snd trellislaw32_ChooseSides_c48
noncomputable abbrev trellislaw32_ChooseSides_c51 : Code := Code.fst trellislaw32_ChooseSides_c46
noncomputable abbrev trellislaw32_ChooseSides_c52 : Code := Code.snd trellislaw32_ChooseSides_c46
noncomputable abbrev trellislaw32_ChooseSides_c53 : Code := Code.fst trellislaw32_ChooseSides_c51
noncomputable abbrev trellislaw32_ChooseSides_c54 : Code := Code.snd trellislaw32_ChooseSides_c51
noncomputable abbrev trellislaw32_ChooseSides_c55 : Code := Code.fst trellislaw32_ChooseSides_c54
noncomputable abbrev trellislaw32_ChooseSides_c56 : Code := Code.snd trellislaw32_ChooseSides_c54
noncomputable abbrev trellislaw32_ChooseSides_c57 : Code := Code.fst trellislaw32_ChooseSides_c55
noncomputable abbrev trellislaw32_ChooseSides_c58 : Code := Code.snd trellislaw32_ChooseSides_c55
noncomputable abbrev trellislaw32_ChooseSides_c59 : Code := Code.fst trellislaw32_ChooseSides_c52
noncomputable abbrev trellislaw32_ChooseSides_c60 : Code := Code.snd trellislaw32_ChooseSides_c52
noncomputable abbrev trellislaw32_ChooseSides_c61 : Code := Code.fst trellislaw32_ChooseSides_c59
noncomputable abbrev trellislaw32_ChooseSides_c62 : Code := Code.snd trellislaw32_ChooseSides_c59
noncomputable abbrev trellislaw32_ChooseSides_c63 : Code := Code.fst trellislaw32_ChooseSides_c62
noncomputable abbrev trellislaw32_ChooseSides_c64 : Code := Code.snd trellislaw32_ChooseSides_c62
noncomputable abbrev trellislaw32_ChooseSides_c65 : Code := Code.fst trellislaw32_ChooseSides_c63
noncomputable abbrev trellislaw32_ChooseSides_c66 : Code := Code.snd trellislaw32_ChooseSides_c63
noncomputable abbrev trellislaw32_ChooseSides_c67 : Code := Code.fst trellislaw32_ChooseSides_c60
noncomputable abbrev trellislaw32_ChooseSides_c68 : Code := Code.snd trellislaw32_ChooseSides_c60
noncomputable abbrev trellislaw32_ChooseSides_c69 : Code := Code.fst trellislaw32_ChooseSides_c49
noncomputable abbrev trellislaw32_ChooseSides_c70 : Code := Code.snd trellislaw32_ChooseSides_c49
noncomputable abbrev trellislaw32_ChooseSides_c71 : Code := Code.fst trellislaw32_ChooseSides_c7
noncomputable abbrev trellislaw32_ChooseSides_c72 : Code := Code.snd trellislaw32_ChooseSides_c7
abbrev trellislaw32_ChooseSides_R (w : World) (F : Nat → Prop) (r : Bool) : Ending → World → Prop := fun e w' => e = .returned (.bool r) ∧ B.Loc w w' [] [St w []]
noncomputable abbrev trellislaw32_ChooseSides_C (w : World) (F : Nat → Prop) (r : Bool) : Cx := ⟨Try.prog, 8, Try.f8, 108, trellislaw32_ChooseSides_R w F  r, w⟩
theorem trellislaw32_ChooseSides_calls (w : World) (F : Nat → Prop) (x1 : List api_Node) (x6 : Int) (x7 : Int) (A2 : Option Addr) (n3 : Nat) (c4 : Nat) (h5 : Rw k_api_Node w (St w []).av A2 n3 c4 x1) (hF : ∀ b, F b → b < w.heap.size ∧ ∀ o ∈ ([] : List (List Nat)), b ∉ o) (hL0 : B.Loc w w [] [Sm w.heap.size F w [], St w []]) (r : Bool) (h : trellislaw32_ChooseSides x1 x6 x7 r) : Calls Try.prog 8 #[.slice A2 n3 c4, .int .i64 x6, .int .i64 x7] w (trellislaw32_ChooseSides_R w F  r) := by
  unfold trellislaw32_ChooseSides at h
  refine calls_of_Loc (vs := [.slice A2 n3 c4, .int .i64 x6, .int .i64 x7]) 108 Try.func8 rfl Try.ntmps8 rfl hL0 ?_
  show G (trellislaw32_ChooseSides_C w F r) _ _ _ _
  refine g_seq (c := trellislaw32_ChooseSides_c0) rfl ?_
  refine g_region (c := trellislaw32_ChooseSides_c1) rfl rfl ?_
  refine wl_v 0 rfl (v_assign rfl) gn rfl ?_
  refine w_end 1 rfl ?_
  refine g_seq (c := trellislaw32_ChooseSides_c2) rfl ?_
  refine g_seq (c := trellislaw32_ChooseSides_c3) rfl ?_
  refine g_region (c := trellislaw32_ChooseSides_c5) rfl rfl ?_
  obtain ⟨r11, hv12, h⟩ := h
  refine wl_s 0 rfl (s_call [] rfl Try.func25 rfl rfl rfl fun w8 hL9 => ?_) gn
  have hp10 : List.Perm ([] : List Ent) (([] : List Ent) ++ ([] : List Ent)) := perm_of_idx [] [] rfl rfl (by kernel_rfl)
  refine Calls.mono (trellislaw32_started_calls w8 (Fl ([] : List Snap)) (hL9.hFl (Sl := ([] : List Snap)) hp10 (sels [] rfl)) (hL9.into hp10 (Fl ([] : List Snap))) r11 hv12) ?_
  rintro _ w13 ⟨rfl, hM14⟩
  have hL15 := hL9.call hp10 hM14
  refine ⟨_, _, _, rfl, hL15, ?_⟩
  refine wl_v 1 rfl (v_not rfl) gn rfl ?_
  refine w_end 2 rfl ?_
  by_cases hp16 : r11 = true
  · have h := if_pos' hp16 h
    refine g_false (c := trellislaw32_ChooseSides_c6) rfl _ rfl ((nf hp16)) ?_
    refine g_skip (c := trellislaw32_ChooseSides_c8) rfl ?_
    refine g_seq (c := trellislaw32_ChooseSides_c4) rfl ?_
    refine g_seq (c := trellislaw32_ChooseSides_c9) rfl ?_
    refine g_region (c := trellislaw32_ChooseSides_c11) rfl rfl ?_
    refine wl_v 0 rfl (v_move rfl) gn rfl ?_
    obtain ⟨r20, hv21, h⟩ := h
    refine wl_s 1 rfl (s_call [.slice A2 n3 c4] rfl Try.func9 rfl rfl rfl fun w17 hL18 => ?_) gn
    have hp19 : List.Perm ([] : List Ent) (([] : List Ent) ++ ([] : List Ent)) := perm_of_idx [] [] rfl rfl (by kernel_rfl)
    refine Calls.mono (trellisref15_Beyond_calls w17 (Fl ([] : List Snap)) x1 A2 n3 c4 (Rw.mono h5 (hL18.toSt hp19 (me 1 rfl))) (hL18.hFl (Sl := ([] : List Snap)) hp19 (sels [] rfl)) (hL18.into hp19 (Fl ([] : List Snap))) r20 hv21) ?_
    rintro _ w22 ⟨rfl, hM23⟩
    have hL24 := hL18.call hp19 hM23
    refine ⟨_, _, _, rfl, hL24, ?_⟩
    refine w_end 2 rfl ?_
    by_cases hp25 : r20 = true
    · have h := if_pos' hp25 h
      refine g_true (c := trellislaw32_ChooseSides_c12) rfl _ rfl (hp25) ?_
      refine g_seq (c := trellislaw32_ChooseSides_c13) rfl ?_
      refine g_region (c := trellislaw32_ChooseSides_c15) rfl rfl ?_
      refine wl_v 0 rfl (v_assign rfl) gn rfl ?_
      refine w_end 1 rfl ?_
      refine g_retR (c := trellislaw32_ChooseSides_c16) [.bool true] rfl Try.func8 rfl (.tmp rfl (.nil)) fun wr hLr => ?_
      have hMr : B.Loc w wr [] [St w []] := hLr.pick (rest := []) (perm_of_idx [] [] rfl rfl (by kernel_rfl)) (sels [1] rfl)
      have hMi : ∀ e ∈ ([] : List Ent), e ∈ ([] : List Ent) := sels [] rfl
      show trellislaw32_ChooseSides_R w F  r (.returned (packV [.bool true])) wr
      rw [h]
      exact ⟨rfl, hMr⟩
    · have h := if_neg' hp25 h
      refine g_false (c := trellislaw32_ChooseSides_c12) rfl _ rfl ((bf hp25)) ?_
      refine g_skip (c := trellislaw32_ChooseSides_c14) rfl ?_
      refine g_seq (c := trellislaw32_ChooseSides_c10) rfl ?_
      refine g_region (c := trellislaw32_ChooseSides_c17) rfl rfl ?_
      refine wl_v 0 rfl (v_move rfl) gn rfl ?_
      refine wl_v 1 rfl (v_move rfl) gn rfl ?_
      refine wl_v 2 rfl (v_move rfl) gn rfl ?_
      obtain ⟨r29, hv30, h⟩ := h
      refine wl_s 3 rfl (s_call [.slice A2 n3 c4, .int .i64 x6, .int .i64 x7] rfl Try.func31 rfl rfl rfl fun w26 hL27 => ?_) gn
      have hp28 : List.Perm ([] : List Ent) (([] : List Ent) ++ ([] : List Ent)) := perm_of_idx [] [] rfl rfl (by kernel_rfl)
      refine Calls.mono (choose_Beside_calls w26 (Fl ([] : List Snap)) x1 x6 x7 A2 n3 c4 (Rw.mono h5 (hL27.toSt hp28 (me 1 rfl))) (hL27.hFl (Sl := ([] : List Snap)) hp28 (sels [] rfl)) (hL27.into hp28 (Fl ([] : List Snap))) r29 hv30) ?_
      rintro _ w31 ⟨rfl, hM32⟩
      have hL33 := hL27.call hp28 hM32
      refine ⟨_, _, _, rfl, hL33, ?_⟩
      refine wl_v 4 rfl (v_assign rfl) gn rfl ?_
      refine w_end 5 rfl ?_
      refine g_seq (c := trellislaw32_ChooseSides_c18) rfl ?_
      refine g_seq (c := trellislaw32_ChooseSides_c19) rfl ?_
      have j1 : ∀ (x45 : Bool) (h : trellislaw32_ChooseSides_j1 r29 x1 x6 x7 x45 r) , G (trellislaw32_ChooseSides_C w F r) [.code trellislaw32_ChooseSides_c22, .code trellislaw32_ChooseSides_c20] [(0, .slice A2 n3 c4), (1, .int .i64 x6), (2, .int .i64 x7), (7, .int .i64 r29), (30, .bool x45)] [] [Sm w.heap.size F w [], St w []] := by
        intro x45 h
        unfold trellislaw32_ChooseSides_j1 at h
        by_cases hp46 : x45 = true
        · have h := if_pos' hp46 h
          refine g_true (c := trellislaw32_ChooseSides_c22) rfl _ rfl (hp46) ?_
          refine g_seq (c := trellislaw32_ChooseSides_c23) rfl ?_
          refine g_region (c := trellislaw32_ChooseSides_c25) rfl rfl ?_
          refine wl_v 0 rfl (v_move rfl) gn rfl ?_
          refine wl_v 1 rfl (v_bin rfl rfl rfl) gn rfl ?_
          refine wl_v 2 rfl (v_assign rfl) gn rfl ?_
          refine w_end 3 rfl ?_
          refine g_retR (c := trellislaw32_ChooseSides_c26) [.bool (r29 == (-1))] rfl Try.func8 rfl (.tmp rfl (.nil)) fun wr hLr => ?_
          have hMr : B.Loc w wr [] [St w []] := hLr.pick (rest := []) (perm_of_idx [] [] rfl rfl (by kernel_rfl)) (sels [1] rfl)
          have hMi : ∀ e ∈ ([] : List Ent), e ∈ ([] : List Ent) := sels [] rfl
          show trellislaw32_ChooseSides_R w F  r (.returned (packV [.bool (r29 == (-1))])) wr
          rw [h]
          exact ⟨rfl, hMr⟩
        · have h := if_neg' hp46 h
          refine g_false (c := trellislaw32_ChooseSides_c22) rfl _ rfl ((bf hp46)) ?_
          refine g_skip (c := trellislaw32_ChooseSides_c24) rfl ?_
          refine g_seq (c := trellislaw32_ChooseSides_c20) rfl ?_
          refine g_seq (c := trellislaw32_ChooseSides_c27) rfl ?_
          have j2 : ∀ (x58 : Bool) (h : trellislaw32_ChooseSides_j2 x1 x6 r29 x7 x58 r) , G (trellislaw32_ChooseSides_C w F r) [.code trellislaw32_ChooseSides_c30, .code trellislaw32_ChooseSides_c28] [(0, .slice A2 n3 c4), (1, .int .i64 x6), (2, .int .i64 x7), (7, .int .i64 r29), (47, .bool x58)] [] [Sm w.heap.size F w [], St w []] := by
            intro x58 h
            unfold trellislaw32_ChooseSides_j2 at h
            by_cases hp59 : x58 = true
            · have h := if_pos' hp59 h
              refine g_true (c := trellislaw32_ChooseSides_c30) rfl _ rfl (hp59) ?_
              refine g_seq (c := trellislaw32_ChooseSides_c31) rfl ?_
              refine g_region (c := trellislaw32_ChooseSides_c33) rfl rfl ?_
              refine wl_v 0 rfl (v_assign rfl) gn rfl ?_
              refine w_end 1 rfl ?_
              refine g_retR (c := trellislaw32_ChooseSides_c34) [.bool false] rfl Try.func8 rfl (.tmp rfl (.nil)) fun wr hLr => ?_
              have hMr : B.Loc w wr [] [St w []] := hLr.pick (rest := []) (perm_of_idx [] [] rfl rfl (by kernel_rfl)) (sels [1] rfl)
              have hMi : ∀ e ∈ ([] : List Ent), e ∈ ([] : List Ent) := sels [] rfl
              show trellislaw32_ChooseSides_R w F  r (.returned (packV [.bool false])) wr
              rw [h]
              exact ⟨rfl, hMr⟩
            · have h := if_neg' hp59 h
              refine g_false (c := trellislaw32_ChooseSides_c30) rfl _ rfl ((bf hp59)) ?_
              refine g_skip (c := trellislaw32_ChooseSides_c32) rfl ?_
              refine g_seq (c := trellislaw32_ChooseSides_c28) rfl ?_
              refine g_region (c := trellislaw32_ChooseSides_c35) rfl rfl ?_
              refine wl_v 0 rfl (v_move rfl) gn rfl ?_
              refine wl_v 1 rfl (v_move rfl) gn rfl ?_
              refine wl_v 2 rfl (v_move rfl) gn rfl ?_
              obtain ⟨r63, hv64, h⟩ := h
              refine wl_s 3 rfl (s_call [.slice A2 n3 c4, .int .i64 x6] rfl Try.func32 rfl rfl rfl fun w60 hL61 => ?_) gn
              have hp62 : List.Perm ([] : List Ent) (([] : List Ent) ++ ([] : List Ent)) := perm_of_idx [] [] rfl rfl (by kernel_rfl)
              refine Calls.mono (tree_Size_calls w60 (Fl ([] : List Snap)) x1 x6 A2 n3 c4 (Rw.mono h5 (hL61.toSt hp62 (me 1 rfl))) (hL61.hFl (Sl := ([] : List Snap)) hp62 (sels [] rfl)) (hL61.into hp62 (Fl ([] : List Snap))) r63 hv64) ?_
              rintro _ w65 ⟨rfl, hM66⟩
              have hL67 := hL61.call hp62 hM66
              refine ⟨_, _, _, rfl, hL67, ?_⟩
              refine wl_v 4 rfl (v_bin rfl rfl rfl) gn rfl ?_
              refine wl_v 5 rfl (v_assign rfl) gn rfl ?_
              refine w_end 6 rfl ?_
              refine g_seq (c := trellislaw32_ChooseSides_c36) rfl ?_
              refine g_region (c := trellislaw32_ChooseSides_c37) rfl rfl ?_
              refine wl_v 0 rfl (v_assign rfl) gn rfl ?_
              refine w_end 1 rfl ?_
              refine g_seq (c := trellislaw32_ChooseSides_c38) rfl ?_
              refine g_seq (c := trellislaw32_ChooseSides_c39) rfl ?_
              have j3 : ∀ (x86 : Bool) (h : trellislaw32_ChooseSides_j3 x1 x6 r29 x7 r63 x86 r) , G (trellislaw32_ChooseSides_C w F r) [.code trellislaw32_ChooseSides_c42, .code trellislaw32_ChooseSides_c40] [(0, .slice A2 n3 c4), (1, .int .i64 x6), (2, .int .i64 x7), (7, .int .i64 r29), (8, .int .i64 (w64 (x6 + r63))), (9, .int .i64 (-1)), (65, .bool x86)] [] [Sm w.heap.size F w [], St w []] := by
                intro x86 h
                unfold trellislaw32_ChooseSides_j3 at h
                have j4 : ∀ (x89 : Int) (h : trellislaw32_ChooseSides_j4 x1 x6 r29 x7 x89 r) , G (trellislaw32_ChooseSides_C w F r) [.code trellislaw32_ChooseSides_c40] [(0, .slice A2 n3 c4), (1, .int .i64 x6), (2, .int .i64 x7), (7, .int .i64 r29), (9, .int .i64 x89)] [] [Sm w.heap.size F w [], St w []] := by
                  intro x89 h
                  unfold trellislaw32_ChooseSides_j4 at h
                  refine g_seq (c := trellislaw32_ChooseSides_c40) rfl ?_
                  refine g_seq (c := trellislaw32_ChooseSides_c45) rfl ?_
                  refine g_region (c := trellislaw32_ChooseSides_c47) rfl rfl ?_
                  refine wl_v 0 rfl (v_move rfl) gn rfl ?_
                  refine wl_v 1 rfl (v_move rfl) gn rfl ?_
                  obtain ⟨r93, hv94, h⟩ := h
                  refine wl_s 2 rfl (s_call [.slice A2 n3 c4, .int .i64 x6, .int .i64 1] rfl Try.func31 rfl rfl rfl fun w90 hL91 => ?_) gn
                  have hp92 : List.Perm ([] : List Ent) (([] : List Ent) ++ ([] : List Ent)) := perm_of_idx [] [] rfl rfl (by kernel_rfl)
                  refine Calls.mono (choose_Beside_calls w90 (Fl ([] : List Snap)) x1 x6 1 A2 n3 c4 (Rw.mono h5 (hL91.toSt hp92 (me 1 rfl))) (hL91.hFl (Sl := ([] : List Snap)) hp92 (sels [] rfl)) (hL91.into hp92 (Fl ([] : List Snap))) r93 hv94) ?_
                  rintro _ w95 ⟨rfl, hM96⟩
                  have hL97 := hL91.call hp92 hM96
                  refine ⟨_, _, _, rfl, hL97, ?_⟩
                  refine wl_v 3 rfl (v_move rfl) gn rfl ?_
                  refine wl_v 4 rfl (v_bin rfl rfl rfl) gn rfl ?_
                  refine w_end 5 rfl ?_
                  by_cases hp98 : r93 = x89
                  · have h := if_pos' hp98 h
                    refine g_false (c := trellislaw32_ChooseSides_c48) rfl _ rfl ((eqib hp98)) ?_
                    refine g_skip (c := trellislaw32_ChooseSides_c50) rfl ?_
                    refine g_seq (c := trellislaw32_ChooseSides_c46) rfl ?_
                    refine g_seq (c := trellislaw32_ChooseSides_c51) rfl ?_
                    refine g_region (c := trellislaw32_ChooseSides_c53) rfl rfl ?_
                    refine wl_v 0 rfl (v_move rfl) gn rfl ?_
                    refine wl_v 1 rfl (v_bin rfl rfl rfl) gn rfl ?_
                    refine w_end 2 rfl ?_
                    by_cases hp99 : r29 = -1
                    · have h := if_pos' hp99 h
                      refine g_true (c := trellislaw32_ChooseSides_c54) rfl _ rfl ((eqi hp99)) ?_
                      refine g_seq (c := trellislaw32_ChooseSides_c55) rfl ?_
                      refine g_region (c := trellislaw32_ChooseSides_c57) rfl rfl ?_
                      refine wl_v 0 rfl (v_move rfl) gn rfl ?_
                      refine wl_v 1 rfl (v_bin rfl rfl rfl) gn rfl ?_
                      refine wl_v 2 rfl (v_assign rfl) gn rfl ?_
                      refine w_end 3 rfl ?_
                      refine g_retR (c := trellislaw32_ChooseSides_c58) [.bool (x7 != 0)] rfl Try.func8 rfl (.tmp rfl (.nil)) fun wr hLr => ?_
                      have hMr : B.Loc w wr [] [St w []] := hLr.pick (rest := []) (perm_of_idx [] [] rfl rfl (by kernel_rfl)) (sels [1] rfl)
                      have hMi : ∀ e ∈ ([] : List Ent), e ∈ ([] : List Ent) := sels [] rfl
                      show trellislaw32_ChooseSides_R w F  r (.returned (packV [.bool (x7 != 0)])) wr
                      rw [h]
                      exact ⟨rfl, hMr⟩
                    · have h := if_neg' hp99 h
                      refine g_false (c := trellislaw32_ChooseSides_c54) rfl _ rfl ((nei hp99)) ?_
                      refine g_skip (c := trellislaw32_ChooseSides_c56) rfl ?_
                      refine g_seq (c := trellislaw32_ChooseSides_c52) rfl ?_
                      refine g_seq (c := trellislaw32_ChooseSides_c59) rfl ?_
                      have j5 : ∀ (x128 : Bool) (h : trellislaw32_ChooseSides_j5 x128 r) , G (trellislaw32_ChooseSides_C w F r) [.code trellislaw32_ChooseSides_c62, .code trellislaw32_ChooseSides_c60] [(107, .bool x128)] [] [Sm w.heap.size F w [], St w []] := by
                        intro x128 h
                        unfold trellislaw32_ChooseSides_j5 at h
                        by_cases hp129 : x128 = true
                        · have h := if_pos' hp129 h
                          refine g_true (c := trellislaw32_ChooseSides_c62) rfl _ rfl (hp129) ?_
                          refine g_seq (c := trellislaw32_ChooseSides_c63) rfl ?_
                          refine g_region (c := trellislaw32_ChooseSides_c65) rfl rfl ?_
                          refine wl_v 0 rfl (v_assign rfl) gn rfl ?_
                          refine w_end 1 rfl ?_
                          refine g_retR (c := trellislaw32_ChooseSides_c66) [.bool false] rfl Try.func8 rfl (.tmp rfl (.nil)) fun wr hLr => ?_
                          have hMr : B.Loc w wr [] [St w []] := hLr.pick (rest := []) (perm_of_idx [] [] rfl rfl (by kernel_rfl)) (sels [1] rfl)
                          have hMi : ∀ e ∈ ([] : List Ent), e ∈ ([] : List Ent) := sels [] rfl
                          show trellislaw32_ChooseSides_R w F  r (.returned (packV [.bool false])) wr
                          rw [h]
                          exact ⟨rfl, hMr⟩
                        · have h := if_neg' hp129 h
                          refine g_false (c := trellislaw32_ChooseSides_c62) rfl _ rfl ((bf hp129)) ?_
                          refine g_skip (c := trellislaw32_ChooseSides_c64) rfl ?_
                          refine g_seq (c := trellislaw32_ChooseSides_c60) rfl ?_
                          refine g_region (c := trellislaw32_ChooseSides_c67) rfl rfl ?_
                          refine wl_v 0 rfl (v_assign rfl) gn rfl ?_
                          refine w_end 1 rfl ?_
                          refine g_retR (c := trellislaw32_ChooseSides_c68) [.bool true] rfl Try.func8 rfl (.tmp rfl (.nil)) fun wr hLr => ?_
                          have hMr : B.Loc w wr [] [St w []] := hLr.pick (rest := []) (perm_of_idx [] [] rfl rfl (by kernel_rfl)) (sels [1] rfl)
                          have hMi : ∀ e ∈ ([] : List Ent), e ∈ ([] : List Ent) := sels [] rfl
                          show trellislaw32_ChooseSides_R w F  r (.returned (packV [.bool true])) wr
                          rw [h]
                          exact ⟨rfl, hMr⟩
                      refine g_region (c := trellislaw32_ChooseSides_c61) rfl rfl ?_
                      refine wl_v 0 rfl (v_move rfl) gn rfl ?_
                      refine wl_v 1 rfl (v_move rfl) gn rfl ?_
                      obtain ⟨r133, hv134, h⟩ := h
                      refine wl_s 2 rfl (s_call [.slice A2 n3 c4, .int .i64 r29] rfl Try.func28 rfl rfl rfl fun w130 hL131 => ?_) gn
                      have hp132 : List.Perm ([] : List Ent) (([] : List Ent) ++ ([] : List Ent)) := perm_of_idx [] [] rfl rfl (by kernel_rfl)
                      refine Calls.mono (tree_Parent_calls w130 (Fl ([] : List Snap)) x1 r29 A2 n3 c4 (Rw.mono h5 (hL131.toSt hp132 (me 1 rfl))) (hL131.hFl (Sl := ([] : List Snap)) hp132 (sels [] rfl)) (hL131.into hp132 (Fl ([] : List Snap))) r133 hv134) ?_
                      rintro _ w135 ⟨rfl, hM136⟩
                      have hL137 := hL131.call hp132 hM136
                      refine ⟨_, _, _, rfl, hL137, ?_⟩
                      refine wl_v 3 rfl (v_move rfl) gn rfl ?_
                      refine wl_v 4 rfl (v_move rfl) gn rfl ?_
                      obtain ⟨r141, hv142, h⟩ := h
                      refine wl_s 5 rfl (s_call [.slice A2 n3 c4, .int .i64 x6] rfl Try.func28 rfl rfl rfl fun w138 hL139 => ?_) gn
                      have hp140 : List.Perm ([] : List Ent) (([] : List Ent) ++ ([] : List Ent)) := perm_of_idx [] [] rfl rfl (by kernel_rfl)
                      refine Calls.mono (tree_Parent_calls w138 (Fl ([] : List Snap)) x1 x6 A2 n3 c4 (Rw.mono h5 (hL139.toSt hp140 (me 1 rfl))) (hL139.hFl (Sl := ([] : List Snap)) hp140 (sels [] rfl)) (hL139.into hp140 (Fl ([] : List Snap))) r141 hv142) ?_
                      rintro _ w143 ⟨rfl, hM144⟩
                      have hL145 := hL139.call hp140 hM144
                      refine ⟨_, _, _, rfl, hL145, ?_⟩
                      refine wl_v 6 rfl (v_bin rfl rfl rfl) gn rfl ?_
                      refine wl_v 7 rfl (v_move rfl) gn rfl ?_
                      by_cases hp146 : r133 = r141
                      · have h := if_pos' hp146 h
                        refine w_bool 83 rfl ((eqib hp146)) ?_
                        refine wl_v 8 rfl (v_move rfl) (gy 83 rfl rfl) rfl ?_
                        refine wl_v 9 rfl (v_move rfl) (gy 83 rfl rfl) rfl ?_
                        refine wl_v 10 rfl (v_move rfl) (gy 83 rfl rfl) rfl ?_
                        refine wl_v 11 rfl (v_neg rfl) (gy 83 rfl rfl) rfl ?_
                        obtain ⟨r150, hv151, h⟩ := h
                        refine wl_s 12 rfl (s_call [.slice A2 n3 c4, .int .i64 r29, .int .i64 (w64 (0 - x7))] rfl Try.func31 rfl rfl rfl fun w147 hL148 => ?_) (gy 83 rfl rfl)
                        have hp149 : List.Perm ([] : List Ent) (([] : List Ent) ++ ([] : List Ent)) := perm_of_idx [] [] rfl rfl (by kernel_rfl)
                        refine Calls.mono (choose_Beside_calls w147 (Fl ([] : List Snap)) x1 r29 (w64 (0 - x7)) A2 n3 c4 (Rw.mono h5 (hL148.toSt hp149 (me 1 rfl))) (hL148.hFl (Sl := ([] : List Snap)) hp149 (sels [] rfl)) (hL148.into hp149 (Fl ([] : List Snap))) r150 hv151) ?_
                        rintro _ w152 ⟨rfl, hM153⟩
                        have hL154 := hL148.call hp149 hM153
                        refine ⟨_, _, _, rfl, hL154, ?_⟩
                        refine wl_v 13 rfl (v_move rfl) (gy 83 rfl rfl) rfl ?_
                        refine wl_v 14 rfl (v_bin rfl rfl rfl) (gy 83 rfl rfl) rfl ?_
                        refine wl_v 15 rfl (v_pick (b := false) rfl rfl) gn rfl ?_
                        refine wl_v 16 rfl (v_move rfl) gn rfl ?_
                        by_cases hp155 : r150 = x6
                        · have h := if_pos' hp155 h
                          refine w_bool 92 rfl ((eqib hp155)) ?_
                          refine wl_v 17 rfl (v_move rfl) (gy 92 rfl rfl) rfl ?_
                          refine wl_v 18 rfl (v_move rfl) (gy 92 rfl rfl) rfl ?_
                          refine wl_v 19 rfl (v_bin rfl rfl rfl) (gy 92 rfl rfl) rfl ?_
                          refine wl_v 20 rfl (v_move rfl) (gy 92 rfl rfl) rfl ?_
                          refine wl_v 21 rfl (v_bin rfl rfl rfl) (gy 92 rfl rfl) rfl ?_
                          refine wl_v 22 rfl (v_neB un_4 rfl rfl) (gy 92 rfl rfl) rfl ?_
                          refine wl_v 23 rfl (v_pick (b := false) rfl rfl) gn rfl ?_
                          refine wl_v 24 rfl (v_move rfl) gn rfl ?_
                          by_cases hp156 : ((decide (r29 > x6)) != (decide (x7 > 0))) = true
                          · have h := if_pos' hp156 h
                            refine w_bool 100 rfl (hp156) ?_
                            refine wl_pass 25 rfl (ps 100 rfl rfl rfl) ?_
                            refine wl_pass 26 rfl (ps 100 rfl rfl rfl) ?_
                            refine wl_pass 27 rfl (ps 100 rfl rfl rfl) ?_
                            refine wl_pass 28 rfl (ps 100 rfl rfl rfl) ?_
                            refine wl_pass 29 rfl (ps 100 rfl rfl rfl) ?_
                            refine wl_pass 30 rfl (ps 100 rfl rfl rfl) ?_
                            refine wl_v 31 rfl (v_pick (b := true) rfl rfl) gn rfl ?_
                            refine w_end 32 rfl ?_
                            exact g_go [0, 1] (j5 true h) ⟨rfl, trivial⟩ (.slnil) rfl
                          · have h := if_neg' hp156 h
                            refine w_bool 100 rfl ((bf hp156)) ?_
                            refine wl_v 25 rfl (v_move rfl) (gy 100 rfl rfl) rfl ?_
                            refine wl_v 26 rfl (v_move rfl) (gy 100 rfl rfl) rfl ?_
                            refine wl_v 27 rfl (v_bin rfl rfl rfl) (gy 100 rfl rfl) rfl ?_
                            refine wl_v 28 rfl (v_move rfl) (gy 100 rfl rfl) rfl ?_
                            refine wl_v 29 rfl (v_bin rfl rfl rfl) (gy 100 rfl rfl) rfl ?_
                            refine wl_v 30 rfl (v_neB un_4 rfl rfl) (gy 100 rfl rfl) rfl ?_
                            refine wl_v 31 rfl (v_pick (b := false) rfl rfl) gn rfl ?_
                            refine w_end 32 rfl ?_
                            exact g_go [0, 1] (j5 ((r29 == x6) != (x7 == 0)) h) ⟨rfl, trivial⟩ (.slnil) rfl
                        · have h := if_neg' hp155 h
                          refine w_bool 92 rfl ((neib hp155)) ?_
                          refine wl_pass 17 rfl (ps 92 rfl rfl rfl) ?_
                          refine wl_pass 18 rfl (ps 92 rfl rfl rfl) ?_
                          refine wl_pass 19 rfl (ps 92 rfl rfl rfl) ?_
                          refine wl_pass 20 rfl (ps 92 rfl rfl rfl) ?_
                          refine wl_pass 21 rfl (ps 92 rfl rfl rfl) ?_
                          refine wl_pass 22 rfl (ps 92 rfl rfl rfl) ?_
                          refine wl_v 23 rfl (v_pick (b := true) rfl rfl) gn rfl ?_
                          refine wl_v 24 rfl (v_move rfl) gn rfl ?_
                          refine wl_pass 25 rfl (ps 100 rfl rfl rfl) ?_
                          refine wl_pass 26 rfl (ps 100 rfl rfl rfl) ?_
                          refine wl_pass 27 rfl (ps 100 rfl rfl rfl) ?_
                          refine wl_pass 28 rfl (ps 100 rfl rfl rfl) ?_
                          refine wl_pass 29 rfl (ps 100 rfl rfl rfl) ?_
                          refine wl_pass 30 rfl (ps 100 rfl rfl rfl) ?_
                          refine wl_v 31 rfl (v_pick (b := true) rfl rfl) gn rfl ?_
                          refine w_end 32 rfl ?_
                          exact g_go [0, 1] (j5 true h) ⟨rfl, trivial⟩ (.slnil) rfl
                      · have h := if_neg' hp146 h
                        refine w_bool 83 rfl ((neib hp146)) ?_
                        refine wl_pass 8 rfl (ps 83 rfl rfl rfl) ?_
                        refine wl_pass 9 rfl (ps 83 rfl rfl rfl) ?_
                        refine wl_pass 10 rfl (ps 83 rfl rfl rfl) ?_
                        refine wl_pass 11 rfl (ps 83 rfl rfl rfl) ?_
                        refine wl_pass 12 rfl (ps 83 rfl rfl rfl) ?_
                        refine wl_pass 13 rfl (ps 83 rfl rfl rfl) ?_
                        refine wl_pass 14 rfl (ps 83 rfl rfl rfl) ?_
                        refine wl_v 15 rfl (v_pick (b := true) rfl rfl) gn rfl ?_
                        refine wl_v 16 rfl (v_move rfl) gn rfl ?_
                        refine wl_pass 17 rfl (ps 92 rfl rfl rfl) ?_
                        refine wl_pass 18 rfl (ps 92 rfl rfl rfl) ?_
                        refine wl_pass 19 rfl (ps 92 rfl rfl rfl) ?_
                        refine wl_pass 20 rfl (ps 92 rfl rfl rfl) ?_
                        refine wl_pass 21 rfl (ps 92 rfl rfl rfl) ?_
                        refine wl_pass 22 rfl (ps 92 rfl rfl rfl) ?_
                        refine wl_v 23 rfl (v_pick (b := true) rfl rfl) gn rfl ?_
                        refine wl_v 24 rfl (v_move rfl) gn rfl ?_
                        refine wl_pass 25 rfl (ps 100 rfl rfl rfl) ?_
                        refine wl_pass 26 rfl (ps 100 rfl rfl rfl) ?_
                        refine wl_pass 27 rfl (ps 100 rfl rfl rfl) ?_
                        refine wl_pass 28 rfl (ps 100 rfl rfl rfl) ?_
                        refine wl_pass 29 rfl (ps 100 rfl rfl rfl) ?_
                        refine wl_pass 30 rfl (ps 100 rfl rfl rfl) ?_
                        refine wl_v 31 rfl (v_pick (b := true) rfl rfl) gn rfl ?_
                        refine w_end 32 rfl ?_
                        exact g_go [0, 1] (j5 true h) ⟨rfl, trivial⟩ (.slnil) rfl
                  · have h := if_neg' hp98 h
                    refine g_true (c := trellislaw32_ChooseSides_c48) rfl _ rfl ((neib hp98)) ?_
                    refine g_seq (c := trellislaw32_ChooseSides_c49) rfl ?_
                    refine g_region (c := trellislaw32_ChooseSides_c69) rfl rfl ?_
                    refine wl_v 0 rfl (v_assign rfl) gn rfl ?_
                    refine w_end 1 rfl ?_
                    refine g_retR (c := trellislaw32_ChooseSides_c70) [.bool false] rfl Try.func8 rfl (.tmp rfl (.nil)) fun wr hLr => ?_
                    have hMr : B.Loc w wr [] [St w []] := hLr.pick (rest := []) (perm_of_idx [] [] rfl rfl (by kernel_rfl)) (sels [1] rfl)
                    have hMi : ∀ e ∈ ([] : List Ent), e ∈ ([] : List Ent) := sels [] rfl
                    show trellislaw32_ChooseSides_R w F  r (.returned (packV [.bool false])) wr
                    rw [h]
                    exact ⟨rfl, hMr⟩
                by_cases hp87 : x86 = true
                · have h := if_pos' hp87 h
                  refine g_true (c := trellislaw32_ChooseSides_c42) rfl _ rfl (hp87) ?_
                  refine g_region (c := trellislaw32_ChooseSides_c43) rfl rfl ?_
                  refine wl_v 0 rfl (v_move rfl) gn rfl ?_
                  refine wl_v 1 rfl (v_assign rfl) gn rfl ?_
                  refine w_end 2 rfl ?_
                  exact g_go [0, 1] (j4 (w64 (x6 + r63)) h) ⟨rfl, rfl, rfl, rfl, rfl, trivial⟩ (.slnil) rfl
                · have h := if_neg' hp87 h
                  refine g_false (c := trellislaw32_ChooseSides_c42) rfl _ rfl ((bf hp87)) ?_
                  refine g_skip (c := trellislaw32_ChooseSides_c44) rfl ?_
                  exact g_go [0, 1] (j4 (-1) h) ⟨rfl, rfl, rfl, rfl, rfl, trivial⟩ (.slnil) rfl
              refine g_region (c := trellislaw32_ChooseSides_c41) rfl rfl ?_
              refine wl_v 0 rfl (v_move rfl) gn rfl ?_
              refine wl_v 1 rfl (v_move rfl) gn rfl ?_
              refine wl_v 2 rfl (v_lenQ un_22 rfl h5.hq) gn rfl ?_
              refine wl_v 3 rfl (v_bin rfl rfl rfl) gn rfl ?_
              refine wl_v 4 rfl (v_move rfl) gn rfl ?_
              by_cases hp157 : w64 (x6 + r63) < (x1.length : Int)
              · have h := if_pos' hp157 h
                refine w_bool 57 rfl ((decide_eq_true hp157)) ?_
                refine wl_v 5 rfl (v_move rfl) (gy 57 rfl rfl) rfl ?_
                refine wl_v 6 rfl (v_move rfl) (gy 57 rfl rfl) rfl ?_
                obtain ⟨r161, hv162, h⟩ := h
                refine wl_s 7 rfl (s_call [.slice A2 n3 c4, .int .i64 (w64 (x6 + r63))] rfl Try.func28 rfl rfl rfl fun w158 hL159 => ?_) (gy 57 rfl rfl)
                have hp160 : List.Perm ([] : List Ent) (([] : List Ent) ++ ([] : List Ent)) := perm_of_idx [] [] rfl rfl (by kernel_rfl)
                refine Calls.mono (tree_Parent_calls w158 (Fl ([] : List Snap)) x1 (w64 (x6 + r63)) A2 n3 c4 (Rw.mono h5 (hL159.toSt hp160 (me 1 rfl))) (hL159.hFl (Sl := ([] : List Snap)) hp160 (sels [] rfl)) (hL159.into hp160 (Fl ([] : List Snap))) r161 hv162) ?_
                rintro _ w163 ⟨rfl, hM164⟩
                have hL165 := hL159.call hp160 hM164
                refine ⟨_, _, _, rfl, hL165, ?_⟩
                refine wl_v 8 rfl (v_move rfl) (gy 57 rfl rfl) rfl ?_
                refine wl_v 9 rfl (v_move rfl) (gy 57 rfl rfl) rfl ?_
                obtain ⟨r169, hv170, h⟩ := h
                refine wl_s 10 rfl (s_call [.slice A2 n3 c4, .int .i64 x6] rfl Try.func28 rfl rfl rfl fun w166 hL167 => ?_) (gy 57 rfl rfl)
                have hp168 : List.Perm ([] : List Ent) (([] : List Ent) ++ ([] : List Ent)) := perm_of_idx [] [] rfl rfl (by kernel_rfl)
                refine Calls.mono (tree_Parent_calls w166 (Fl ([] : List Snap)) x1 x6 A2 n3 c4 (Rw.mono h5 (hL167.toSt hp168 (me 1 rfl))) (hL167.hFl (Sl := ([] : List Snap)) hp168 (sels [] rfl)) (hL167.into hp168 (Fl ([] : List Snap))) r169 hv170) ?_
                rintro _ w171 ⟨rfl, hM172⟩
                have hL173 := hL167.call hp168 hM172
                refine ⟨_, _, _, rfl, hL173, ?_⟩
                refine wl_v 11 rfl (v_bin rfl rfl rfl) (gy 57 rfl rfl) rfl ?_
                refine wl_v 12 rfl (v_pick (b := true) rfl rfl) gn rfl ?_
                refine w_end 13 rfl ?_
                exact g_go [0, 1] (j3 (r161 == r169) h) ⟨rfl, rfl, rfl, rfl, rfl, rfl, rfl, trivial⟩ (.slnil) rfl
              · have h := if_neg' hp157 h
                refine w_bool 57 rfl ((decide_eq_false hp157)) ?_
                refine wl_pass 5 rfl (ps 57 rfl rfl rfl) ?_
                refine wl_pass 6 rfl (ps 57 rfl rfl rfl) ?_
                refine wl_pass 7 rfl (ps 57 rfl rfl rfl) ?_
                refine wl_pass 8 rfl (ps 57 rfl rfl rfl) ?_
                refine wl_pass 9 rfl (ps 57 rfl rfl rfl) ?_
                refine wl_pass 10 rfl (ps 57 rfl rfl rfl) ?_
                refine wl_pass 11 rfl (ps 57 rfl rfl rfl) ?_
                refine wl_v 12 rfl (v_pick (b := false) rfl rfl) gn rfl ?_
                refine w_end 13 rfl ?_
                exact g_go [0, 1] (j3 false h) ⟨rfl, rfl, rfl, rfl, rfl, rfl, rfl, trivial⟩ (.slnil) rfl
          refine g_region (c := trellislaw32_ChooseSides_c29) rfl rfl ?_
          refine wl_v 0 rfl (v_move rfl) gn rfl ?_
          refine wl_v 1 rfl (v_move rfl) gn rfl ?_
          obtain ⟨r177, hv178, h⟩ := h
          refine wl_s 2 rfl (s_call [.slice A2 n3 c4, .int .i64 x6, .int .i64 0] rfl Try.func31 rfl rfl rfl fun w174 hL175 => ?_) gn
          have hp176 : List.Perm ([] : List Ent) (([] : List Ent) ++ ([] : List Ent)) := perm_of_idx [] [] rfl rfl (by kernel_rfl)
          refine Calls.mono (choose_Beside_calls w174 (Fl ([] : List Snap)) x1 x6 0 A2 n3 c4 (Rw.mono h5 (hL175.toSt hp176 (me 1 rfl))) (hL175.hFl (Sl := ([] : List Snap)) hp176 (sels [] rfl)) (hL175.into hp176 (Fl ([] : List Snap))) r177 hv178) ?_
          rintro _ w179 ⟨rfl, hM180⟩
          have hL181 := hL175.call hp176 hM180
          refine ⟨_, _, _, rfl, hL181, ?_⟩
          refine wl_v 3 rfl (v_move rfl) gn rfl ?_
          refine wl_v 4 rfl (v_bin rfl rfl rfl) gn rfl ?_
          refine wl_v 5 rfl (v_move rfl) gn rfl ?_
          by_cases hp182 : r177 = x6
          · have h := if_pos' hp182 h
            refine w_bool 38 rfl ((eqib hp182)) ?_
            refine wl_v 6 rfl (v_move rfl) (gy 38 rfl rfl) rfl ?_
            refine wl_v 7 rfl (v_bin rfl rfl rfl) (gy 38 rfl rfl) rfl ?_
            refine wl_v 8 rfl (v_pick (b := false) rfl rfl) gn rfl ?_
            refine wl_v 9 rfl (v_move rfl) gn rfl ?_
            by_cases hp183 : r29 < -1
            · have h := if_pos' hp183 h
              refine w_bool 42 rfl ((decide_eq_true hp183)) ?_
              refine wl_pass 10 rfl (ps 42 rfl rfl rfl) ?_
              refine wl_pass 11 rfl (ps 42 rfl rfl rfl) ?_
              refine wl_pass 12 rfl (ps 42 rfl rfl rfl) ?_
              refine wl_pass 13 rfl (ps 42 rfl rfl rfl) ?_
              refine wl_v 14 rfl (v_pick (b := true) rfl rfl) gn rfl ?_
              refine w_end 15 rfl ?_
              exact g_go [0, 1] (j2 true h) ⟨rfl, rfl, rfl, rfl, rfl, trivial⟩ (.slnil) rfl
            · have h := if_neg' hp183 h
              refine w_bool 42 rfl ((decide_eq_false hp183)) ?_
              refine wl_v 10 rfl (v_move rfl) (gy 42 rfl rfl) rfl ?_
              refine wl_v 11 rfl (v_move rfl) (gy 42 rfl rfl) rfl ?_
              refine wl_v 12 rfl (v_lenQ un_22 rfl h5.hq) (gy 42 rfl rfl) rfl ?_
              refine wl_v 13 rfl (v_bin rfl rfl rfl) (gy 42 rfl rfl) rfl ?_
              refine wl_v 14 rfl (v_pick (b := false) rfl rfl) gn rfl ?_
              refine w_end 15 rfl ?_
              exact g_go [0, 1] (j2 (decide (r29 ≥ (x1.length : Int))) h) ⟨rfl, rfl, rfl, rfl, rfl, trivial⟩ (.slnil) rfl
          · have h := if_neg' hp182 h
            refine w_bool 38 rfl ((neib hp182)) ?_
            refine wl_pass 6 rfl (ps 38 rfl rfl rfl) ?_
            refine wl_pass 7 rfl (ps 38 rfl rfl rfl) ?_
            refine wl_v 8 rfl (v_pick (b := true) rfl rfl) gn rfl ?_
            refine wl_v 9 rfl (v_move rfl) gn rfl ?_
            refine wl_pass 10 rfl (ps 42 rfl rfl rfl) ?_
            refine wl_pass 11 rfl (ps 42 rfl rfl rfl) ?_
            refine wl_pass 12 rfl (ps 42 rfl rfl rfl) ?_
            refine wl_pass 13 rfl (ps 42 rfl rfl rfl) ?_
            refine wl_v 14 rfl (v_pick (b := true) rfl rfl) gn rfl ?_
            refine w_end 15 rfl ?_
            exact g_go [0, 1] (j2 true h) ⟨rfl, rfl, rfl, rfl, rfl, trivial⟩ (.slnil) rfl
      refine g_region (c := trellislaw32_ChooseSides_c21) rfl rfl ?_
      refine wl_v 0 rfl (v_move rfl) gn rfl ?_
      obtain ⟨r187, hv188, h⟩ := h
      refine wl_s 1 rfl (s_call [.slice A2 n3 c4] rfl Try.func27 rfl rfl rfl fun w184 hL185 => ?_) gn
      have hp186 : List.Perm ([] : List Ent) (([] : List Ent) ++ ([] : List Ent)) := perm_of_idx [] [] rfl rfl (by kernel_rfl)
      refine Calls.mono (tree_Roots_calls w184 (Fl ([] : List Snap)) x1 A2 n3 c4 (Rw.mono h5 (hL185.toSt hp186 (me 1 rfl))) (hL185.hFl (Sl := ([] : List Snap)) hp186 (sels [] rfl)) (hL185.into hp186 (Fl ([] : List Snap))) r187 hv188) ?_
      rintro _ w189 ⟨rfl, hM190⟩
      have hL191 := hL185.call hp186 hM190
      refine ⟨_, _, _, rfl, hL191, ?_⟩
      refine wl_v 2 rfl (v_bin rfl rfl rfl) gn rfl ?_
      refine wl_v 3 rfl (v_move rfl) gn rfl ?_
      by_cases hp192 : r187 < 0
      · have h := if_pos' hp192 h
        refine w_bool 21 rfl ((decide_eq_true hp192)) ?_
        refine wl_pass 4 rfl (ps 21 rfl rfl rfl) ?_
        refine wl_pass 5 rfl (ps 21 rfl rfl rfl) ?_
        refine wl_v 6 rfl (v_pick (b := true) rfl rfl) gn rfl ?_
        refine wl_v 7 rfl (v_move rfl) gn rfl ?_
        refine wl_pass 8 rfl (ps 25 rfl rfl rfl) ?_
        refine wl_pass 9 rfl (ps 25 rfl rfl rfl) ?_
        refine wl_pass 10 rfl (ps 25 rfl rfl rfl) ?_
        refine wl_pass 11 rfl (ps 25 rfl rfl rfl) ?_
        refine wl_v 12 rfl (v_pick (b := true) rfl rfl) gn rfl ?_
        refine w_end 13 rfl ?_
        exact g_go [0, 1] (j1 true h) ⟨rfl, rfl, rfl, rfl, rfl, trivial⟩ (.slnil) rfl
      · have h := if_neg' hp192 h
        refine w_bool 21 rfl ((decide_eq_false hp192)) ?_
        refine wl_v 4 rfl (v_move rfl) (gy 21 rfl rfl) rfl ?_
        refine wl_v 5 rfl (v_bin rfl rfl rfl) (gy 21 rfl rfl) rfl ?_
        refine wl_v 6 rfl (v_pick (b := false) rfl rfl) gn rfl ?_
        refine wl_v 7 rfl (v_move rfl) gn rfl ?_
        by_cases hp193 : x6 < 0
        · have h := if_pos' hp193 h
          refine w_bool 25 rfl ((decide_eq_true hp193)) ?_
          refine wl_pass 8 rfl (ps 25 rfl rfl rfl) ?_
          refine wl_pass 9 rfl (ps 25 rfl rfl rfl) ?_
          refine wl_pass 10 rfl (ps 25 rfl rfl rfl) ?_
          refine wl_pass 11 rfl (ps 25 rfl rfl rfl) ?_
          refine wl_v 12 rfl (v_pick (b := true) rfl rfl) gn rfl ?_
          refine w_end 13 rfl ?_
          exact g_go [0, 1] (j1 true h) ⟨rfl, rfl, rfl, rfl, rfl, trivial⟩ (.slnil) rfl
        · have h := if_neg' hp193 h
          refine w_bool 25 rfl ((decide_eq_false hp193)) ?_
          refine wl_v 8 rfl (v_move rfl) (gy 25 rfl rfl) rfl ?_
          refine wl_v 9 rfl (v_move rfl) (gy 25 rfl rfl) rfl ?_
          refine wl_v 10 rfl (v_lenQ un_22 rfl h5.hq) (gy 25 rfl rfl) rfl ?_
          refine wl_v 11 rfl (v_bin rfl rfl rfl) (gy 25 rfl rfl) rfl ?_
          refine wl_v 12 rfl (v_pick (b := false) rfl rfl) gn rfl ?_
          refine w_end 13 rfl ?_
          exact g_go [0, 1] (j1 (decide (x6 ≥ (x1.length : Int))) h) ⟨rfl, rfl, rfl, rfl, rfl, trivial⟩ (.slnil) rfl
  · have h := if_neg' hp16 h
    refine g_true (c := trellislaw32_ChooseSides_c6) rfl _ rfl ((nt (bf hp16))) ?_
    refine g_seq (c := trellislaw32_ChooseSides_c7) rfl ?_
    refine g_region (c := trellislaw32_ChooseSides_c71) rfl rfl ?_
    refine wl_v 0 rfl (v_assign rfl) gn rfl ?_
    refine w_end 1 rfl ?_
    refine g_retR (c := trellislaw32_ChooseSides_c72) [.bool false] rfl Try.func8 rfl (.tmp rfl (.nil)) fun wr hLr => ?_
    have hMr : B.Loc w wr [] [St w []] := hLr.pick (rest := []) (perm_of_idx [] [] rfl rfl (by kernel_rfl)) (sels [1] rfl)
    have hMi : ∀ e ∈ ([] : List Ent), e ∈ ([] : List Ent) := sels [] rfl
    show trellislaw32_ChooseSides_R w F  r (.returned (packV [.bool false])) wr
    rw [h]
    exact ⟨rfl, hMr⟩
end Go.Proofs.Ytoifgnogoddmlaa.K
