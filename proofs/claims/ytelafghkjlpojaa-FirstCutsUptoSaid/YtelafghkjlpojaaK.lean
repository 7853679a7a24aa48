/- What the machine's calls do, function by function, printed by my own tool. Condition of each: its relation holds of the answer, and what is handed in lies in memory as told. -/
import Derived.Test.YtelafghkjlpojaaK5
set_option linter.unusedVariables false
set_option maxRecDepth 100000
set_option maxHeartbeats 4000000
namespace Go.Proofs.Ytelafghkjlpojaa.K
open Go.Proofs.Ytelafghkjlpojaa.B Go.Proofs.Ytelafghkjlpojaa.R Go.RowKit
noncomputable abbrev trellislaw11_FirstDerives_c0 : Code := bodyOf Try.f6
noncomputable abbrev trellislaw11_FirstDerives_c1 : Code := Code.fst trellislaw11_FirstDerives_c0
noncomputable abbrev trellislaw11_FirstDerives_c2 : Code := Code.snd trellislaw11_FirstDerives_c0
noncomputable abbrev trellislaw11_FirstDerives_c3 : Code := Code.fst trellislaw11_FirstDerives_c2
noncomputable abbrev trellislaw11_FirstDerives_c4 : Code := Code.snd trellislaw11_FirstDerives_c2
noncomputable abbrev trellislaw11_FirstDerives_c5 : Code := Code.fst trellislaw11_FirstDerives_c3
noncomputable abbrev trellislaw11_FirstDerives_c6 : Code := Code.snd trellislaw11_FirstDerives_c3
noncomputable abbrev trellislaw11_FirstDerives_c7 : Code := Code.fst trellislaw11_FirstDerives_c6
noncomputable abbrev trellislaw11_FirstDerives_c8 : Code := Code.snd trellislaw11_FirstDerives_c6
noncomputable abbrev trellislaw11_FirstDerives_c9 : Code := Code.fst trellislaw11_FirstDerives_c4
noncomputable abbrev trellislaw11_FirstDerives_c10 : Code := Code.snd trellislaw11_FirstDerives_c4
noncomputable abbrev trellislaw11_FirstDerives_c11 : Code := Code.fst trellislaw11_FirstDerives_c10
noncomputable abbrev trellislaw11_FirstDerives_c12 : Code := Code.snd trellislaw11_FirstDerives_c10
noncomputable abbrev trellislaw11_FirstDerives_c13 : Code := Code.fst trellislaw11_FirstDerives_c11
noncomputable abbrev trellislaw11_FirstDerives_c14 : Code := Code.snd trellislaw11_FirstDerives_c11
noncomputable abbrev trellislaw11_FirstDerives_c15 : Code := Code.fst trellislaw11_FirstDerives_c14
noncomputable abbrev trellislaw11_FirstDerives_c16 : Code := Code.snd trellislaw11_FirstDerives_c14
noncomputable abbrev trellislaw11_FirstDerives_c17 : Code := Code.fst trellislaw11_FirstDerives_c15
noncomputable abbrev trellislaw11_FirstDerives_c18 : Code := Code.snd trellislaw11_FirstDerives_c15
noncomputable abbrev trellislaw11_FirstDerives_c19 : Code := Code.fst trellislaw11_FirstDerives_c12
noncomputable abbrev trellislaw11_FirstDerives_c20 : Code := Code.snd trellislaw11_FirstDerives_c12
noncomputable abbrev trellislaw11_FirstDerives_c21 : Code := Code.fst trellislaw11_FirstDerives_c20
noncomputable abbrev trellislaw11_FirstDerives_c22 : Code := Code.snd trellislaw11_FirstDerives_c20
noncomputable abbrev trellislaw11_FirstDerives_c23 : Code := Code.fst trellislaw11_FirstDerives_c21
noncomputable abbrev trellislaw11_FirstDerives_c24 : Code := Code.snd trellislaw11_FirstDerives_c21
noncomputable abbrev trellislaw11_FirstDerives_c25 : Code := Code.fst trellislaw11_FirstDerives_c24
noncomputable abbrev trellislaw11_FirstDerives_c26 : Code := Code.fst trellislaw11_FirstDerives_c25
noncomputable abbrev trellislaw11_FirstDerives_c27 : Code := Code.fst trellislaw11_FirstDerives_c26
noncomputable abbrev trellislaw11_FirstDerives_c28 : Code := Code.snd trellislaw11_FirstDerives_c26
noncomputable abbrev trellislaw11_FirstDerives_c29 : Code := Code.fst trellislaw11_FirstDerives_c27
noncomputable abbrev trellislaw11_FirstDerives_c30 : Code := Code.snd trellislaw11_FirstDerives_c27
noncomputable abbrev trellislaw11_FirstDerives_c31 : Code := Code.fst trellislaw11_FirstDerives_c30
noncomputable abbrev trellislaw11_FirstDerives_c32 : Code := Code.snd trellislaw11_FirstDerives_c30
noncomputable abbrev trellislaw11_FirstDerives_c33 : Code := Code.fst trellislaw11_FirstDerives_c28
noncomputable abbrev trellislaw11_FirstDerives_c34 : Code := Code.snd trellislaw11_FirstDerives_c28
noncomputable abbrev trellislaw11_FirstDerives_c35 : Code := Code.fst trellislaw11_FirstDerives_c33
noncomputable abbrev trellislaw11_FirstDerives_c36 : Code := Code.fst trellislaw11_FirstDerives_c35
noncomputable abbrev trellislaw11_FirstDerives_c37 : Code := Code.snd trellislaw11_FirstDerives_c35
noncomputable abbrev trellislaw11_FirstDerives_c38 : Code := Code.fst trellislaw11_FirstDerives_c37
noncomputable abbrev trellislaw11_FirstDerives_c39 : Code := Code.snd trellislaw11_FirstDerives_c37
noncomputable abbrev trellislaw11_FirstDerives_c40 : Code := Code.fst trellislaw11_FirstDerives_c38
noncomputable abbrev trellislaw11_FirstDerives_c41 : Code := Code.snd trellislaw11_FirstDerives_c38
noncomputable abbrev trellislaw11_FirstDerives_c42 : Code := Code.fst trellislaw11_FirstDerives_c41
noncomputable abbrev trellislaw11_FirstDerives_c43 : Code := Code.snd trellislaw11_FirstDerives_c41
noncomputable abbrev trellislaw11_FirstDerives_c44 : Code := Code.fst trellislaw11_FirstDerives_c42
noncomputable abbrev trellislaw11_FirstDerives_c45 : Code := Code.snd trellislaw11_FirstDerives_c42
noncomputable abbrev trellislaw11_FirstDerives_c46 : Code := Code.fst trellislaw11_FirstDerives_c39
noncomputable abbrev trellislaw11_FirstDerives_c47 : Code := Code.snd trellislaw11_FirstDerives_c39
noncomputable abbrev trellislaw11_FirstDerives_c48 : Code := Code.fst trellislaw11_FirstDerives_c47
noncomputable abbrev trellislaw11_FirstDerives_c49 : Code := Code.snd trellislaw11_FirstDerives_c47
noncomputable abbrev trellislaw11_FirstDerives_c50 : Code := Code.fst trellislaw11_FirstDerives_c48
noncomputable abbrev trellislaw11_FirstDerives_c51 : Code := Code.snd trellislaw11_FirstDerives_c48
noncomputable abbrev trellislaw11_FirstDerives_c52 : Code := Code.fst trellislaw11_FirstDerives_c22
noncomputable abbrev trellislaw11_FirstDerives_c53 : Code := Code.snd trellislaw11_FirstDerives_c22
noncomputable abbrev trellislaw11_FirstDerives_c54 : Code := Code.fst trellislaw11_FirstDerives_c7
noncomputable abbrev trellislaw11_FirstDerives_c55 : Code := Code.snd trellislaw11_FirstDerives_c7
abbrev trellislaw11_FirstDerives_R (w : World) (F : Nat → Prop) (r : Bool) : Ending → World → Prop := fun e w' => e = .returned (.bool r) ∧ B.Loc w w' [] [St w []]
noncomputable abbrev trellislaw11_FirstDerives_C (w : World) (F : Nat → Prop) (r : Bool) : Cx := ⟨Try.prog, 6, Try.f6, 83, trellislaw11_FirstDerives_R w F  r, w⟩
theorem trellislaw11_FirstDerives_calls (w : World) (F : Nat → Prop) (x1 : api_Gram) (x14 : List api_Ref) (x19 : Int) (x20 : List trellislaw11_Replace) (A2 : Option Addr) (n3 : Nat) (c4 : Nat) (A6 : Option Addr) (n7 : Nat) (c8 : Nat) (A10 : Option Addr) (n11 : Nat) (c12 : Nat) (A15 : Option Addr) (n16 : Nat) (c17 : Nat) (A21 : Option Addr) (n22 : Nat) (c23 : Nat) (h5 : Rw k_api_TermDef w (St w []).av A2 n3 c4 x1.terms) (h9 : Rw k_api_Sym w (St w []).av A6 n7 c8 x1.syms) (h13 : Rw k_api_Prod w (St w []).av A10 n11 c12 x1.prods) (h18 : Rw k_api_Ref w (St w []).av A15 n16 c17 x14) (h24 : Rw k_trellislaw11_Replace w (St w []).av A21 n22 c23 x20) (hF : ∀ b, F b → b < w.heap.size ∧ ∀ o ∈ ([] : List (List Nat)), b ∉ o) (hL0 : B.Loc w w [] [Sm w.heap.size F w [], St w []]) (r : Bool) (h : trellislaw11_FirstDerives x1 x14 x19 x20 r) : Calls Try.prog 6 #[.agg #[.slice A2 n3 c4, .slice A6 n7 c8, .slice A10 n11 c12], .slice A15 n16 c17, .int .u64 x19, .slice A21 n22 c23] w (trellislaw11_FirstDerives_R w F  r) := by
  unfold trellislaw11_FirstDerives at h
  refine calls_of_Loc (vs := [.agg #[.slice A2 n3 c4, .slice A6 n7 c8, .slice A10 n11 c12], .slice A15 n16 c17, .int .u64 x19, .slice A21 n22 c23]) 83 Try.func6 rfl Try.ntmps6 rfl hL0 ?_
  show G (trellislaw11_FirstDerives_C w F r) _ _ _ _
  refine g_seq (c := trellislaw11_FirstDerives_c0) rfl ?_
  refine g_region (c := trellislaw11_FirstDerives_c1) rfl rfl ?_
  refine wl_s 0 rfl (s_box [.slice A2 n3 c4, .slice A6 n7 c8, .slice A10 n11 c12] rfl rfl rfl fun gb25 => ?_) gn
  refine wl_v 1 rfl (v_assign rfl) gn rfl ?_
  refine w_end 2 rfl ?_
  refine g_seq (c := trellislaw11_FirstDerives_c2) rfl ?_
  refine g_seq (c := trellislaw11_FirstDerives_c3) rfl ?_
  refine g_region (c := trellislaw11_FirstDerives_c5) rfl rfl ?_
  obtain ⟨r30, hv31, h⟩ := h
  refine wl_s 0 rfl (s_call [] rfl Try.func22 rfl rfl rfl fun w27 hL28 => ?_) gn
  have hp29 : List.Perm ([.box gb25 26 [.slice A2 n3 c4, .slice A6 n7 c8, .slice A10 n11 c12]] : List Ent) (([] : List Ent) ++ ([.box gb25 26 [.slice A2 n3 c4, .slice A6 n7 c8, .slice A10 n11 c12]] : List Ent)) := perm_of_idx [] [0] rfl rfl (by kernel_rfl)
  refine Calls.mono (trellislaw11_started_calls w27 (Fl ([] : List Snap)) (hL28.hFl (Sl := ([] : List Snap)) hp29 (sels [] rfl)) (hL28.into hp29 (Fl ([] : List Snap))) r30 hv31) ?_
  rintro _ w32 ⟨rfl, hM33⟩
  have hL34 := hL28.call hp29 hM33
  refine ⟨_, _, _, rfl, hL34, ?_⟩
  refine wl_v 1 rfl (v_not rfl) gn rfl ?_
  refine w_end 2 rfl ?_
  by_cases hp35 : r30 = true
  · have h := if_pos' hp35 h
    refine g_false (c := trellislaw11_FirstDerives_c6) rfl _ rfl ((nf hp35)) ?_
    refine g_skip (c := trellislaw11_FirstDerives_c8) rfl ?_
    refine g_seq (c := trellislaw11_FirstDerives_c4) rfl ?_
    refine g_region (c := trellislaw11_FirstDerives_c9) rfl rfl ?_
    refine wl_v 0 rfl (v_ldB [.slice A2 n3 c4, .slice A6 n7 c8, .slice A10 n11 c12] 0 ld_26 rfl rfl rfl rfl) gn rfl ?_
    refine wl_v 1 rfl (v_move rfl) gn rfl ?_
    refine wl_v 2 rfl (v_move rfl) gn rfl ?_
    obtain ⟨r39, hv40, h⟩ := h
    refine wl_s 3 rfl (s_call [.agg #[.slice A2 n3 c4, .slice A6 n7 c8, .slice A10 n11 c12], .slice A15 n16 c17, .int .u64 x19] rfl Try.func13 rfl rfl rfl fun w36 hL37 => ?_) gn
    have hp38 : List.Perm ([.box gb25 26 [.slice A2 n3 c4, .slice A6 n7 c8, .slice A10 n11 c12]] : List Ent) (([] : List Ent) ++ ([.box gb25 26 [.slice A2 n3 c4, .slice A6 n7 c8, .slice A10 n11 c12]] : List Ent)) := perm_of_idx [] [0] rfl rfl (by kernel_rfl)
    refine Calls.mono (first_Of_calls w36 (Fl ([] : List Snap)) x1 x14 x19 A2 n3 c4 A6 n7 c8 A10 n11 c12 A15 n16 c17 (Rw.mono h5 (hL37.toSt hp38 (me 1 rfl))) (Rw.mono h9 (hL37.toSt hp38 (me 1 rfl))) (Rw.mono h13 (hL37.toSt hp38 (me 1 rfl))) (Rw.mono h18 (hL37.toSt hp38 (me 1 rfl))) (hL37.hFl (Sl := ([] : List Snap)) hp38 (sels [] rfl)) (hL37.into hp38 (Fl ([] : List Snap))) r39 hv40) ?_
    rintro _ w41 ⟨rfl, hM42⟩
    have hL43 := hL37.call hp38 hM42
    refine ⟨_, _, _, rfl, hL43, ?_⟩
    refine wl_v 4 rfl (v_assign rfl) gn rfl ?_
    refine w_end 5 rfl ?_
    refine g_seq (c := trellislaw11_FirstDerives_c10) rfl ?_
    refine g_seq (c := trellislaw11_FirstDerives_c11) rfl ?_
    have j1 : ∀ (x62 : Bool) (h : trellislaw11_FirstDerives_j1 r39 x20 x1 x19 x14 x62 r) , G (trellislaw11_FirstDerives_C w F r) [.code trellislaw11_FirstDerives_c14, .code trellislaw11_FirstDerives_c12] [(1, .slice A15 n16 c17), (2, .int .u64 x19), (3, .slice A21 n22 c23), (4, .pointer (some ⟨gb25, 0, none⟩)), (9, .int .u64 r39), (26, .bool x62)] [.box gb25 26 [.slice A2 n3 c4, .slice A6 n7 c8, .slice A10 n11 c12]] [Sm w.heap.size F w [], St w []] := by
      intro x62 h
      unfold trellislaw11_FirstDerives_j1 at h
      by_cases hp63 : x62 = true
      · have h := if_pos' hp63 h
        refine g_true (c := trellislaw11_FirstDerives_c14) rfl _ rfl (hp63) ?_
        refine g_seq (c := trellislaw11_FirstDerives_c15) rfl ?_
        refine g_region (c := trellislaw11_FirstDerives_c17) rfl rfl ?_
        refine wl_v 0 rfl (v_move rfl) gn rfl ?_
        refine wl_v 1 rfl (v_bin rfl rfl rfl) gn rfl ?_
        refine wl_v 2 rfl (v_assign rfl) gn rfl ?_
        refine w_end 3 rfl ?_
        refine g_retR (c := trellislaw11_FirstDerives_c18) [.bool (r39 == 0)] rfl Try.func6 rfl (.tmp rfl (.nil)) fun wr hLr => ?_
        have hMr : B.Loc w wr [] [St w []] := hLr.pick (rest := [.box gb25 26 [.slice A2 n3 c4, .slice A6 n7 c8, .slice A10 n11 c12]]) (perm_of_idx [] [0] rfl rfl (by kernel_rfl)) (sels [1] rfl)
        have hMi : ∀ e ∈ ([] : List Ent), e ∈ ([.box gb25 26 [.slice A2 n3 c4, .slice A6 n7 c8, .slice A10 n11 c12]] : List Ent) := sels [] rfl
        show trellislaw11_FirstDerives_R w F  r (.returned (packV [.bool (r39 == 0)])) wr
        rw [h]
        exact ⟨rfl, hMr⟩
      · have h := if_neg' hp63 h
        refine g_false (c := trellislaw11_FirstDerives_c14) rfl _ rfl ((bf hp63)) ?_
        refine g_skip (c := trellislaw11_FirstDerives_c16) rfl ?_
        refine g_seq (c := trellislaw11_FirstDerives_c12) rfl ?_
        refine g_region (c := trellislaw11_FirstDerives_c19) rfl rfl ?_
        refine wl_v 0 rfl (v_move rfl) gn rfl ?_
        refine wl_v 1 rfl (v_assign rfl) gn rfl ?_
        refine w_end 2 rfl ?_
        refine g_seq (c := trellislaw11_FirstDerives_c20) rfl ?_
        refine g_seq (c := trellislaw11_FirstDerives_c21) rfl ?_
        refine g_region (c := trellislaw11_FirstDerives_c23) rfl rfl ?_
        refine wl_v 0 rfl (v_assign rfl) gn rfl ?_
        refine w_end 1 rfl ?_
        refine g_block (c := trellislaw11_FirstDerives_c24) rfl ?_
        refine g_loop (c := trellislaw11_FirstDerives_c25) rfl ?_
        have key2 : ∀ s, Rounds (fun (s : (List api_Ref) × Int) o => trellislaw11_FirstDerives_b2 x20 x1 r39 x19 s.1 s.2 o) s r → (fun (s : (List api_Ref) × Int) => ∀ (A159 : Option Addr) (n160 : Nat) (c161 : Nat) (sv162 : Snap) (h163 : At k_api_Ref (sv162) A159 n160 c161 s.1), G (trellislaw11_FirstDerives_C w F r) [.code trellislaw11_FirstDerives_c26, .inLoop trellislaw11_FirstDerives_c26, .inBlock 0, .code trellislaw11_FirstDerives_c22] [(2, .int .u64 x19), (3, .slice A21 n22 c23), (4, .pointer (some ⟨gb25, 0, none⟩)), (9, .int .u64 r39), (10, .slice A159 n160 c161), (11, .int .i64 s.2)] [.box gb25 26 [.slice A2 n3 c4, .slice A6 n7 c8, .slice A10 n11 c12]] [sv162, Sm w.heap.size F w [], St w []]) s := by
          intro s hs
          refine Rounds.ind (mot := (fun (s : (List api_Ref) × Int) => ∀ (A159 : Option Addr) (n160 : Nat) (c161 : Nat) (sv162 : Snap) (h163 : At k_api_Ref (sv162) A159 n160 c161 s.1), G (trellislaw11_FirstDerives_C w F r) [.code trellislaw11_FirstDerives_c26, .inLoop trellislaw11_FirstDerives_c26, .inBlock 0, .code trellislaw11_FirstDerives_c22] [(2, .int .u64 x19), (3, .slice A21 n22 c23), (4, .pointer (some ⟨gb25, 0, none⟩)), (9, .int .u64 r39), (10, .slice A159 n160 c161), (11, .int .i64 s.2)] [.box gb25 26 [.slice A2 n3 c4, .slice A6 n7 c8, .slice A10 n11 c12]] [sv162, Sm w.heap.size F w [], St w []])) ?_ hs
          clear hs s
          intro s o1 h hO1
          obtain ⟨x158, x164⟩ := s
          show ∀ (A159 : Option Addr) (n160 : Nat) (c161 : Nat) (sv162 : Snap) (h163 : At k_api_Ref (sv162) A159 n160 c161 x158), G (trellislaw11_FirstDerives_C w F r) [.code trellislaw11_FirstDerives_c26, .inLoop trellislaw11_FirstDerives_c26, .inBlock 0, .code trellislaw11_FirstDerives_c22] [(2, .int .u64 x19), (3, .slice A21 n22 c23), (4, .pointer (some ⟨gb25, 0, none⟩)), (9, .int .u64 r39), (10, .slice A159 n160 c161), (11, .int .i64 x164)] [.box gb25 26 [.slice A2 n3 c4, .slice A6 n7 c8, .slice A10 n11 c12]] [sv162, Sm w.heap.size F w [], St w []]
          intro A159 n160 c161 sv162 h163
          have h : trellislaw11_FirstDerives_b2 x20 x1 r39 x19 x158 x164 o1 := h
          unfold trellislaw11_FirstDerives_b2 at h
          refine g_seq (c := trellislaw11_FirstDerives_c26) rfl ?_
          refine g_seq (c := trellislaw11_FirstDerives_c27) rfl ?_
          refine g_region (c := trellislaw11_FirstDerives_c29) rfl rfl ?_
          refine wl_v 0 rfl (v_move rfl) gn rfl ?_
          refine wl_v 1 rfl (v_move rfl) gn rfl ?_
          refine wl_v 2 rfl (v_lenQ un_50 rfl h24.hq) gn rfl ?_
          refine wl_v 3 rfl (v_bin rfl rfl rfl) gn rfl ?_
          refine w_end 4 rfl ?_
          by_cases hp258 : x164 < (x20.length : Int)
          · have h := if_pos' hp258 h
            refine g_true (c := trellislaw11_FirstDerives_c30) rfl _ rfl ((decide_eq_true hp258)) ?_
            refine g_skip (c := trellislaw11_FirstDerives_c31) rfl ?_
            refine g_seq (c := trellislaw11_FirstDerives_c28) rfl ?_
            refine g_block (c := trellislaw11_FirstDerives_c33) rfl ?_
            refine g_seq (c := trellislaw11_FirstDerives_c35) rfl ?_
            obtain ⟨hb259, h⟩ := h
            obtain ⟨r264, hv265, h⟩ := h
            have hns : Region.noSelect (Code.ops trellislaw11_FirstDerives_c36) = true := by kernel_rfl
            refine g_drawF (c := trellislaw11_FirstDerives_c36) [.box gb25 26 [.slice A2 n3 c4, .slice A6 n7 c8, .slice A10 n11 c12]] [sv162, Sm w.heap.size F w [], St w []] [] 8 rfl rfl mix rfl (.cons_cons _ (.slnil)) (sels [0, 1, 2] rfl) ?_
            refine wf_v 0 rfl (v_ldB [.slice A2 n3 c4, .slice A6 n7 c8, .slice A10 n11 c12] 0 ld_26 rfl rfl rfl rfl) gn rfl hns (by kernel_rfl) (by kernel_rfl) rfl rfl ?_
            refine wf_v 1 rfl (v_move rfl) gn rfl hns (by kernel_rfl) (by kernel_rfl) rfl rfl ?_
            refine wf_v 2 rfl (v_move rfl) gn rfl hns (by kernel_rfl) (by kernel_rfl) rfl rfl ?_
            refine wf_v 3 rfl (v_move rfl) gn rfl hns (by kernel_rfl) (by kernel_rfl) rfl rfl ?_
            have hr300 := Rw.readF (s := St w []) (hl := hl_trellislaw11_Replace) (h1 := h1_trellislaw11_Replace) h24 hb259
            refine wf_v 4 rfl (v_idxR (s := St w []) slE_50 rfl rfl h24 hb259) gn rfl hns (by kernel_rfl) (by kernel_rfl) rfl rfl ?_
            refine wf_v 5 rfl (v_ldA (St w []) ld_54 rfl hr300 rfl (me 2 rfl)) gn rfl hns (by kernel_rfl) (by kernel_rfl) rfl rfl ?_
            refine wf_all [6] (by kernel_rfl) rfl ⟨on_s 6 rfl gn rfl (s_call [.agg #[.slice A2 n3 c4, .slice A6 n7 c8, .slice A10 n11 c12], .slice A159 n160 c161, .agg #[.int .i64 ((ix x20 x164).at_), .int .i64 ((ix x20 x164).prod)]] rfl Try.func26 rfl rfl rfl fun w313 hL314 => ?_), trivial⟩
            have hp315 : List.Perm ([.box gb25 26 [.slice A2 n3 c4, .slice A6 n7 c8, .slice A10 n11 c12]] : List Ent) (([] : List Ent) ++ ([.box gb25 26 [.slice A2 n3 c4, .slice A6 n7 c8, .slice A10 n11 c12]] : List Ent)) := perm_of_idx [] [0] rfl rfl (by kernel_rfl)
            refine Calls.mono (trellislaw11_replaced_calls w313 (Fl ([sv162] : List Snap)) x1 x158 (ix x20 x164) A2 n3 c4 A6 n7 c8 A10 n11 c12 A159 n160 c161 (Rw.mono h5 (hL314.toSt hp315 (me 2 rfl))) (Rw.mono h9 (hL314.toSt hp315 (me 2 rfl))) (Rw.mono h13 (hL314.toSt hp315 (me 2 rfl))) (Rw.mono h163 (hL314.toFl (me 0 rfl) (me 0 rfl))) (hL314.hFl (Sl := ([sv162] : List Snap)) hp315 (sels [0] rfl)) (hL314.into hp315 (Fl ([sv162] : List Snap))) r264 hv265) ?_
            rintro _ w320 ⟨A316, n317, c318, rfl, hM321, h319⟩
            obtain ⟨sv324, hL322, hv323⟩ := hL314.callN (Sl := ([sv162] : List Snap)) hp315 hM321 (sels [0] rfl)
            have h319 : At k_api_Ref (sv324) A316 n317 c318 r264 := Rw.mono h319 hv323
            refine ⟨_, _, _, rfl, hL322, ?_⟩
            refine ⟨sels [0] rfl, sels [1, 2, 3] rfl, ?_⟩
            refine wf_v 7 rfl (v_assign rfl) gn rfl hns (by kernel_rfl) (by kernel_rfl) rfl rfl ?_
            refine wf_end (by kernel_rfl) ?_
            refine g_seq (c := trellislaw11_FirstDerives_c37) rfl ?_
            refine g_seq (c := trellislaw11_FirstDerives_c38) rfl ?_
            have j3 : ∀ (x327 : Bool) (h : trellislaw11_FirstDerives_j3 r264 x1 r39 x164 x327 o1) , G (trellislaw11_FirstDerives_C w F r) [.code trellislaw11_FirstDerives_c41, .code trellislaw11_FirstDerives_c39, .inBlock 1, .code trellislaw11_FirstDerives_c34, .inLoop trellislaw11_FirstDerives_c26, .inBlock 0, .code trellislaw11_FirstDerives_c22] [(2, .int .u64 x19), (3, .slice A21 n22 c23), (4, .pointer (some ⟨gb25, 0, none⟩)), (9, .int .u64 r39), (10, .slice A316 n317 c318), (11, .int .i64 x164), (51, .bool x327)] [.box gb25 26 [.slice A2 n3 c4, .slice A6 n7 c8, .slice A10 n11 c12]] [sv324, sv162, Sm w.heap.size F w [], St w []] := by
              intro x327 h
              unfold trellislaw11_FirstDerives_j3 at h
              by_cases hp328 : x327 = true
              · have h := if_pos' hp328 h
                refine g_true (c := trellislaw11_FirstDerives_c41) rfl _ rfl (hp328) ?_
                refine g_seq (c := trellislaw11_FirstDerives_c42) rfl ?_
                refine g_region (c := trellislaw11_FirstDerives_c44) rfl rfl ?_
                refine wl_v 0 rfl (v_assign rfl) gn rfl ?_
                refine w_end 1 rfl ?_
                have h := Out.inr hO1 h
                refine g_retR (c := trellislaw11_FirstDerives_c45) [.bool false] rfl Try.func6 rfl (.tmp rfl (.nil)) fun wr hLr => ?_
                have hMr : B.Loc w wr [] [St w []] := hLr.pick (rest := [.box gb25 26 [.slice A2 n3 c4, .slice A6 n7 c8, .slice A10 n11 c12]]) (perm_of_idx [] [0] rfl rfl (by kernel_rfl)) (sels [3] rfl)
                have hMi : ∀ e ∈ ([] : List Ent), e ∈ ([.box gb25 26 [.slice A2 n3 c4, .slice A6 n7 c8, .slice A10 n11 c12]] : List Ent) := sels [] rfl
                show trellislaw11_FirstDerives_R w F  r (.returned (packV [.bool false])) wr
                rw [h]
                exact ⟨rfl, hMr⟩
              · have h := if_neg' hp328 h
                refine g_false (c := trellislaw11_FirstDerives_c41) rfl _ rfl ((bf hp328)) ?_
                refine g_skip (c := trellislaw11_FirstDerives_c43) rfl ?_
                refine g_seq (c := trellislaw11_FirstDerives_c39) rfl ?_
                by_cases hp329 : (r264.length : Int) > 0
                · have h := if_pos' hp329 h
                  obtain ⟨hb330, h⟩ := h
                  by_cases hp332 : (ix r264 0).sym < (x1.terms.length : Int)
                  · have h := if_pos' hp332 h
                    obtain ⟨hb334, h⟩ := h
                    have hns : Region.noSelect (Code.ops trellislaw11_FirstDerives_c46) = true := by kernel_rfl
                    refine g_drawF (c := trellislaw11_FirstDerives_c46) [.box gb25 26 [.slice A2 n3 c4, .slice A6 n7 c8, .slice A10 n11 c12]] [sv324, sv162, Sm w.heap.size F w [], St w []] [] 24 rfl rfl mix rfl (.cons_cons _ (.slnil)) (sels [0, 1, 2, 3] rfl) ?_
                    refine wf_v 0 rfl (v_move rfl) gn rfl hns (by kernel_rfl) (by kernel_rfl) rfl rfl ?_
                    refine wf_v 1 rfl (v_lenQ un_27 rfl h319.hq) gn rfl hns (by kernel_rfl) (by kernel_rfl) rfl rfl ?_
                    refine wf_v 2 rfl (v_bin rfl rfl rfl) gn rfl hns (by kernel_rfl) (by kernel_rfl) rfl rfl ?_
                    refine wf_v 3 rfl (v_move rfl) gn rfl hns (by kernel_rfl) (by kernel_rfl) rfl rfl ?_
                    refine wf_bool 55 rfl ((decide_eq_true hp329)) ?_
                    refine wf_v 4 rfl (v_move rfl) (gy 55 rfl rfl) rfl hns (by kernel_rfl) (by kernel_rfl) rfl rfl ?_
                    have hr337 := Rw.readF (s := sv324) (hl := hl_api_Ref) (h1 := h1_api_Ref) h319 hb330
                    refine wf_v 5 rfl (v_idxR (s := sv324) slE_27 rfl rfl h319 hb330) (gy 55 rfl rfl) rfl hns (by kernel_rfl) (by kernel_rfl) rfl rfl ?_
                    refine wf_v 6 rfl (v_fldA fo_36_0 rfl) (gy 55 rfl rfl) rfl hns (by kernel_rfl) (by kernel_rfl) rfl rfl ?_
                    refine wf_v 7 rfl (v_ldA1 (kk := (0 : Int).toNat * 3) (j := 0) (sv324) ld_3 rfl hr337 rfl (me 0 rfl)) (gy 55 rfl rfl) rfl hns (by kernel_rfl) (by kernel_rfl) rfl rfl ?_
                    refine wf_v 8 rfl (v_fldB fo_26_0 rfl) (gy 55 rfl rfl) rfl hns (by kernel_rfl) (by kernel_rfl) rfl rfl ?_
                    refine wf_v 9 rfl (v_ldB1 0 ld_22 rfl rfl rfl) (gy 55 rfl rfl) rfl hns (by kernel_rfl) (by kernel_rfl) rfl rfl ?_
                    refine wf_v 10 rfl (v_lenQ un_22 rfl h5.hq) (gy 55 rfl rfl) rfl hns (by kernel_rfl) (by kernel_rfl) rfl rfl ?_
                    refine wf_v 11 rfl (v_bin rfl rfl rfl) (gy 55 rfl rfl) rfl hns (by kernel_rfl) (by kernel_rfl) rfl rfl ?_
                    refine wf_v 12 rfl (v_pick (b := true) rfl rfl) gn rfl hns (by kernel_rfl) (by kernel_rfl) rfl rfl ?_
                    refine wf_v 13 rfl (v_move rfl) gn rfl hns (by kernel_rfl) (by kernel_rfl) rfl rfl ?_
                    refine wf_bool 65 rfl ((decide_eq_true hp332)) ?_
                    refine wf_v 14 rfl (v_move rfl) (gy 65 rfl rfl) rfl hns (by kernel_rfl) (by kernel_rfl) rfl rfl ?_
                    refine wf_v 15 rfl (v_move rfl) (gy 65 rfl rfl) rfl hns (by kernel_rfl) (by kernel_rfl) rfl rfl ?_
                    have hr338 := Rw.readF (s := sv324) (hl := hl_api_Ref) (h1 := h1_api_Ref) h319 hb330
                    refine wf_v 16 rfl (v_idxR (s := sv324) slE_27 rfl rfl h319 hb330) (gy 65 rfl rfl) rfl hns (by kernel_rfl) (by kernel_rfl) rfl rfl ?_
                    refine wf_v 17 rfl (v_fldA fo_36_0 rfl) (gy 65 rfl rfl) rfl hns (by kernel_rfl) (by kernel_rfl) rfl rfl ?_
                    refine wf_v 18 rfl (v_ldA1 (kk := (0 : Int).toNat * 3) (j := 0) (sv324) ld_3 rfl hr338 rfl (me 0 rfl)) (gy 65 rfl rfl) rfl hns (by kernel_rfl) (by kernel_rfl) rfl rfl ?_
                    refine wf_v 19 rfl (v_conv ⟨_, un_3⟩ un_49 rfl) (gy 65 rfl rfl) rfl hns (by kernel_rfl) (by kernel_rfl) rfl rfl ?_
                    refine wf_v 20 rfl (v_shr rfl rfl hb334) (gy 65 rfl rfl) rfl hns (by kernel_rfl) (by kernel_rfl) rfl rfl ?_
                    refine wf_v 21 rfl (v_bin rfl rfl rfl) (gy 65 rfl rfl) rfl hns (by kernel_rfl) (by kernel_rfl) rfl rfl ?_
                    refine wf_v 22 rfl (v_bin rfl rfl rfl) (gy 65 rfl rfl) rfl hns (by kernel_rfl) (by kernel_rfl) rfl rfl ?_
                    refine wf_v 23 rfl (v_pick (b := true) rfl rfl) gn rfl hns (by kernel_rfl) (by kernel_rfl) rfl rfl ?_
                    refine wf_end (by kernel_rfl) ?_
                    by_cases hp339 : bits .and .u64 (shrV .u64 r39 (IntKind.u64.wrap ((ix r264 0).sym))) 1 = 1
                    · have h := if_pos' hp339 h
                      refine g_false (c := trellislaw11_FirstDerives_c47) rfl _ rfl ((eqib hp339)) ?_
                      refine g_skip (c := trellislaw11_FirstDerives_c49) rfl ?_
                      refine g_inBlock ?_
                      refine g_region (c := trellislaw11_FirstDerives_c34) rfl rfl ?_
                      refine wl_v 0 rfl (v_move rfl) gn rfl ?_
                      refine wl_v 1 rfl (v_bin rfl rfl rfl) gn rfl ?_
                      refine wl_v 2 rfl (v_assign rfl) gn rfl ?_
                      refine w_end 3 rfl ?_
                      refine g_inLoop ?_
                      have ih := Out.inl hO1 h
                      exact g_go [0, 2, 3] (ih A316 n317 c318 sv324 h319) ⟨rfl, rfl, rfl, rfl, rfl, rfl, trivial⟩ (.cons_cons _ (.slnil)) rfl
                    · have h := if_neg' hp339 h
                      refine g_true (c := trellislaw11_FirstDerives_c47) rfl _ rfl ((neib hp339)) ?_
                      refine g_seq (c := trellislaw11_FirstDerives_c48) rfl ?_
                      refine g_region (c := trellislaw11_FirstDerives_c50) rfl rfl ?_
                      refine wl_v 0 rfl (v_assign rfl) gn rfl ?_
                      refine w_end 1 rfl ?_
                      have h := Out.inr hO1 h
                      refine g_retR (c := trellislaw11_FirstDerives_c51) [.bool false] rfl Try.func6 rfl (.tmp rfl (.nil)) fun wr hLr => ?_
                      have hMr : B.Loc w wr [] [St w []] := hLr.pick (rest := [.box gb25 26 [.slice A2 n3 c4, .slice A6 n7 c8, .slice A10 n11 c12]]) (perm_of_idx [] [0] rfl rfl (by kernel_rfl)) (sels [3] rfl)
                      have hMi : ∀ e ∈ ([] : List Ent), e ∈ ([.box gb25 26 [.slice A2 n3 c4, .slice A6 n7 c8, .slice A10 n11 c12]] : List Ent) := sels [] rfl
                      show trellislaw11_FirstDerives_R w F  r (.returned (packV [.bool false])) wr
                      rw [h]
                      exact ⟨rfl, hMr⟩
                  · have h := if_neg' hp332 h
                    have hns : Region.noSelect (Code.ops trellislaw11_FirstDerives_c46) = true := by kernel_rfl
                    refine g_drawF (c := trellislaw11_FirstDerives_c46) [.box gb25 26 [.slice A2 n3 c4, .slice A6 n7 c8, .slice A10 n11 c12]] [sv324, sv162, Sm w.heap.size F w [], St w []] [] 24 rfl rfl mix rfl (.cons_cons _ (.slnil)) (sels [0, 1, 2, 3] rfl) ?_
                    refine wf_v 0 rfl (v_move rfl) gn rfl hns (by kernel_rfl) (by kernel_rfl) rfl rfl ?_
                    refine wf_v 1 rfl (v_lenQ un_27 rfl h319.hq) gn rfl hns (by kernel_rfl) (by kernel_rfl) rfl rfl ?_
                    refine wf_v 2 rfl (v_bin rfl rfl rfl) gn rfl hns (by kernel_rfl) (by kernel_rfl) rfl rfl ?_
                    refine wf_v 3 rfl (v_move rfl) gn rfl hns (by kernel_rfl) (by kernel_rfl) rfl rfl ?_
                    refine wf_bool 55 rfl ((decide_eq_true hp329)) ?_
                    refine wf_v 4 rfl (v_move rfl) (gy 55 rfl rfl) rfl hns (by kernel_rfl) (by kernel_rfl) rfl rfl ?_
                    have hr341 := Rw.readF (s := sv324) (hl := hl_api_Ref) (h1 := h1_api_Ref) h319 hb330
                    refine wf_v 5 rfl (v_idxR (s := sv324) slE_27 rfl rfl h319 hb330) (gy 55 rfl rfl) rfl hns (by kernel_rfl) (by kernel_rfl) rfl rfl ?_
                    refine wf_v 6 rfl (v_fldA fo_36_0 rfl) (gy 55 rfl rfl) rfl hns (by kernel_rfl) (by kernel_rfl) rfl rfl ?_
                    refine wf_v 7 rfl (v_ldA1 (kk := (0 : Int).toNat * 3) (j := 0) (sv324) ld_3 rfl hr341 rfl (me 0 rfl)) (gy 55 rfl rfl) rfl hns (by kernel_rfl) (by kernel_rfl) rfl rfl ?_
                    refine wf_v 8 rfl (v_fldB fo_26_0 rfl) (gy 55 rfl rfl) rfl hns (by kernel_rfl) (by kernel_rfl) rfl rfl ?_
                    refine wf_v 9 rfl (v_ldB1 0 ld_22 rfl rfl rfl) (gy 55 rfl rfl) rfl hns (by kernel_rfl) (by kernel_rfl) rfl rfl ?_
                    refine wf_v 10 rfl (v_lenQ un_22 rfl h5.hq) (gy 55 rfl rfl) rfl hns (by kernel_rfl) (by kernel_rfl) rfl rfl ?_
                    refine wf_v 11 rfl (v_bin rfl rfl rfl) (gy 55 rfl rfl) rfl hns (by kernel_rfl) (by kernel_rfl) rfl rfl ?_
                    refine wf_v 12 rfl (v_pick (b := true) rfl rfl) gn rfl hns (by kernel_rfl) (by kernel_rfl) rfl rfl ?_
                    refine wf_v 13 rfl (v_move rfl) gn rfl hns (by kernel_rfl) (by kernel_rfl) rfl rfl ?_
                    refine wf_bool 65 rfl ((decide_eq_false hp332)) ?_
                    refine wf_pass 14 rfl (ps 65 rfl rfl rfl) hns (by kernel_rfl) (by kernel_rfl) rfl rfl ?_
                    refine wf_pass 15 rfl (ps 65 rfl rfl rfl) hns (by kernel_rfl) (by kernel_rfl) rfl rfl ?_
                    refine wf_pass 16 rfl (ps 65 rfl rfl rfl) hns (by kernel_rfl) (by kernel_rfl) rfl rfl ?_
                    refine wf_pass 17 rfl (ps 65 rfl rfl rfl) hns (by kernel_rfl) (by kernel_rfl) rfl rfl ?_
                    refine wf_pass 18 rfl (ps 65 rfl rfl rfl) hns (by kernel_rfl) (by kernel_rfl) rfl rfl ?_
                    refine wf_pass 19 rfl (ps 65 rfl rfl rfl) hns (by kernel_rfl) (by kernel_rfl) rfl rfl ?_
                    refine wf_pass 20 rfl (ps 65 rfl rfl rfl) hns (by kernel_rfl) (by kernel_rfl) rfl rfl ?_
                    refine wf_pass 21 rfl (ps 65 rfl rfl rfl) hns (by kernel_rfl) (by kernel_rfl) rfl rfl ?_
                    refine wf_pass 22 rfl (ps 65 rfl rfl rfl) hns (by kernel_rfl) (by kernel_rfl) rfl rfl ?_
                    refine wf_v 23 rfl (v_pick (b := false) rfl rfl) gn rfl hns (by kernel_rfl) (by kernel_rfl) rfl rfl ?_
                    refine wf_end (by kernel_rfl) ?_
                    refine g_false (c := trellislaw11_FirstDerives_c47) rfl _ rfl (rfl) ?_
                    refine g_skip (c := trellislaw11_FirstDerives_c49) rfl ?_
                    refine g_inBlock ?_
                    refine g_region (c := trellislaw11_FirstDerives_c34) rfl rfl ?_
                    refine wl_v 0 rfl (v_move rfl) gn rfl ?_
                    refine wl_v 1 rfl (v_bin rfl rfl rfl) gn rfl ?_
                    refine wl_v 2 rfl (v_assign rfl) gn rfl ?_
                    refine w_end 3 rfl ?_
                    refine g_inLoop ?_
                    have ih := Out.inl hO1 h
                    exact g_go [0, 2, 3] (ih A316 n317 c318 sv324 h319) ⟨rfl, rfl, rfl, rfl, rfl, rfl, trivial⟩ (.cons_cons _ (.slnil)) rfl
                · have h := if_neg' hp329 h
                  have hns : Region.noSelect (Code.ops trellislaw11_FirstDerives_c46) = true := by kernel_rfl
                  refine g_drawF (c := trellislaw11_FirstDerives_c46) [.box gb25 26 [.slice A2 n3 c4, .slice A6 n7 c8, .slice A10 n11 c12]] [sv324, sv162, Sm w.heap.size F w [], St w []] [] 24 rfl rfl mix rfl (.cons_cons _ (.slnil)) (sels [0, 1, 2, 3] rfl) ?_
                  refine wf_v 0 rfl (v_move rfl) gn rfl hns (by kernel_rfl) (by kernel_rfl) rfl rfl ?_
                  refine wf_v 1 rfl (v_lenQ un_27 rfl h319.hq) gn rfl hns (by kernel_rfl) (by kernel_rfl) rfl rfl ?_
                  refine wf_v 2 rfl (v_bin rfl rfl rfl) gn rfl hns (by kernel_rfl) (by kernel_rfl) rfl rfl ?_
                  refine wf_v 3 rfl (v_move rfl) gn rfl hns (by kernel_rfl) (by kernel_rfl) rfl rfl ?_
                  refine wf_bool 55 rfl ((decide_eq_false hp329)) ?_
                  refine wf_pass 4 rfl (ps 55 rfl rfl rfl) hns (by kernel_rfl) (by kernel_rfl) rfl rfl ?_
                  refine wf_pass 5 rfl (ps 55 rfl rfl rfl) hns (by kernel_rfl) (by kernel_rfl) rfl rfl ?_
                  refine wf_pass 6 rfl (ps 55 rfl rfl rfl) hns (by kernel_rfl) (by kernel_rfl) rfl rfl ?_
                  refine wf_pass 7 rfl (ps 55 rfl rfl rfl) hns (by kernel_rfl) (by kernel_rfl) rfl rfl ?_
                  refine wf_pass 8 rfl (ps 55 rfl rfl rfl) hns (by kernel_rfl) (by kernel_rfl) rfl rfl ?_
                  refine wf_pass 9 rfl (ps 55 rfl rfl rfl) hns (by kernel_rfl) (by kernel_rfl) rfl rfl ?_
                  refine wf_pass 10 rfl (ps 55 rfl rfl rfl) hns (by kernel_rfl) (by kernel_rfl) rfl rfl ?_
                  refine wf_pass 11 rfl (ps 55 rfl rfl rfl) hns (by kernel_rfl) (by kernel_rfl) rfl rfl ?_
                  refine wf_v 12 rfl (v_pick (b := false) rfl rfl) gn rfl hns (by kernel_rfl) (by kernel_rfl) rfl rfl ?_
                  refine wf_v 13 rfl (v_move rfl) gn rfl hns (by kernel_rfl) (by kernel_rfl) rfl rfl ?_
                  refine wf_pass 14 rfl (ps 65 rfl rfl rfl) hns (by kernel_rfl) (by kernel_rfl) rfl rfl ?_
                  refine wf_pass 15 rfl (ps 65 rfl rfl rfl) hns (by kernel_rfl) (by kernel_rfl) rfl rfl ?_
                  refine wf_pass 16 rfl (ps 65 rfl rfl rfl) hns (by kernel_rfl) (by kernel_rfl) rfl rfl ?_
                  refine wf_pass 17 rfl (ps 65 rfl rfl rfl) hns (by kernel_rfl) (by kernel_rfl) rfl rfl ?_
                  refine wf_pass 18 rfl (ps 65 rfl rfl rfl) hns (by kernel_rfl) (by kernel_rfl) rfl rfl ?_
                  refine wf_pass 19 rfl (ps 65 rfl rfl rfl) hns (by kernel_rfl) (by kernel_rfl) rfl rfl ?_
                  refine wf_pass 20 rfl (ps 65 rfl rfl rfl) hns (by kernel_rfl) (by kernel_rfl) rfl rfl ?_
                  refine wf_pass 21 rfl (ps 65 rfl rfl rfl) hns (by kernel_rfl) (by kernel_rfl) rfl rfl ?_
                  refine wf_pass 22 rfl (ps 65 rfl rfl rfl) hns (by kernel_rfl) (by kernel_rfl) rfl rfl ?_
                  refine wf_v 23 rfl (v_pick (b := false) rfl rfl) gn rfl hns (by kernel_rfl) (by kernel_rfl) rfl rfl ?_
                  refine wf_end (by kernel_rfl) ?_
                  refine g_false (c := trellislaw11_FirstDerives_c47) rfl _ rfl (rfl) ?_
                  refine g_skip (c := trellislaw11_FirstDerives_c49) rfl ?_
                  refine g_inBlock ?_
                  refine g_region (c := trellislaw11_FirstDerives_c34) rfl rfl ?_
                  refine wl_v 0 rfl (v_move rfl) gn rfl ?_
                  refine wl_v 1 rfl (v_bin rfl rfl rfl) gn rfl ?_
                  refine wl_v 2 rfl (v_assign rfl) gn rfl ?_
                  refine w_end 3 rfl ?_
                  refine g_inLoop ?_
                  have ih := Out.inl hO1 h
                  exact g_go [0, 2, 3] (ih A316 n317 c318 sv324 h319) ⟨rfl, rfl, rfl, rfl, rfl, rfl, trivial⟩ (.cons_cons _ (.slnil)) rfl
            refine g_region (c := trellislaw11_FirstDerives_c40) rfl rfl ?_
            refine wl_v 0 rfl (v_move rfl) gn rfl ?_
            refine wl_v 1 rfl (v_lenQ un_27 rfl h319.hq) gn rfl ?_
            refine wl_v 2 rfl (v_bin rfl rfl rfl) gn rfl ?_
            refine wl_v 3 rfl (v_move rfl) gn rfl ?_
            by_cases hp342 : (r264.length : Int) = 0
            · have h := if_pos' hp342 h
              refine w_bool 46 rfl ((eqi hp342)) ?_
              refine wl_v 4 rfl (v_move rfl) (gy 46 rfl rfl) rfl ?_
              refine wl_v 5 rfl (v_move rfl) (gy 46 rfl rfl) rfl ?_
              refine wl_v 6 rfl (v_bin rfl rfl rfl) (gy 46 rfl rfl) rfl ?_
              refine wl_v 7 rfl (v_bin rfl rfl rfl) (gy 46 rfl rfl) rfl ?_
              refine wl_v 8 rfl (v_pick (b := true) rfl rfl) gn rfl ?_
              refine w_end 9 rfl ?_
              exact g_go [0, 1, 2, 3] (j3 ((bits .andNot .u64 x19 r39) != 0) h) ⟨rfl, rfl, rfl, rfl, rfl, rfl, rfl, trivial⟩ (.cons_cons _ (.slnil)) rfl
            · have h := if_neg' hp342 h
              refine w_bool 46 rfl ((nei hp342)) ?_
              refine wl_pass 4 rfl (ps 46 rfl rfl rfl) ?_
              refine wl_pass 5 rfl (ps 46 rfl rfl rfl) ?_
              refine wl_pass 6 rfl (ps 46 rfl rfl rfl) ?_
              refine wl_pass 7 rfl (ps 46 rfl rfl rfl) ?_
              refine wl_v 8 rfl (v_pick (b := false) rfl rfl) gn rfl ?_
              refine w_end 9 rfl ?_
              exact g_go [0, 1, 2, 3] (j3 false h) ⟨rfl, rfl, rfl, rfl, rfl, rfl, rfl, trivial⟩ (.cons_cons _ (.slnil)) rfl
          · have h := if_neg' hp258 h
            refine g_false (c := trellislaw11_FirstDerives_c30) rfl _ rfl ((decide_eq_false hp258)) ?_
            refine g_exit (c := trellislaw11_FirstDerives_c32) [.code trellislaw11_FirstDerives_c22] rfl rfl ?_
            refine g_seq (c := trellislaw11_FirstDerives_c22) rfl ?_
            refine g_region (c := trellislaw11_FirstDerives_c52) rfl rfl ?_
            refine wl_v 0 rfl (v_ldB [.slice A2 n3 c4, .slice A6 n7 c8, .slice A10 n11 c12] 0 ld_26 rfl rfl rfl rfl) gn rfl ?_
            refine wl_v 1 rfl (v_move rfl) gn rfl ?_
            refine wl_v 2 rfl (v_move rfl) gn rfl ?_
            obtain ⟨r346, hv347, h⟩ := h
            refine wl_s 3 rfl (s_call [.agg #[.slice A2 n3 c4, .slice A6 n7 c8, .slice A10 n11 c12], .slice A159 n160 c161, .int .u64 x19] rfl Try.func13 rfl rfl rfl fun w343 hL344 => ?_) gn
            have hp345 : List.Perm ([.box gb25 26 [.slice A2 n3 c4, .slice A6 n7 c8, .slice A10 n11 c12]] : List Ent) (([] : List Ent) ++ ([.box gb25 26 [.slice A2 n3 c4, .slice A6 n7 c8, .slice A10 n11 c12]] : List Ent)) := perm_of_idx [] [0] rfl rfl (by kernel_rfl)
            refine Calls.mono (first_Of_calls w343 (Fl ([] : List Snap)) x1 x158 x19 A2 n3 c4 A6 n7 c8 A10 n11 c12 A159 n160 c161 (Rw.mono h5 (hL344.toSt hp345 (me 2 rfl))) (Rw.mono h9 (hL344.toSt hp345 (me 2 rfl))) (Rw.mono h13 (hL344.toSt hp345 (me 2 rfl))) (Rw.mono h163 (hL344.toSt hp345 (me 0 rfl))) (hL344.hFl (Sl := ([] : List Snap)) hp345 (sels [] rfl)) (hL344.into hp345 (Fl ([] : List Snap))) r346 hv347) ?_
            rintro _ w348 ⟨rfl, hM349⟩
            have hL350 := hL344.call hp345 hM349
            refine ⟨_, _, _, rfl, hL350, ?_⟩
            refine wl_v 4 rfl (v_move rfl) gn rfl ?_
            refine wl_v 5 rfl (v_bin rfl rfl rfl) gn rfl ?_
            refine wl_v 6 rfl (v_bin rfl rfl rfl) gn rfl ?_
            refine wl_v 7 rfl (v_assign rfl) gn rfl ?_
            refine w_end 8 rfl ?_
            have h := Out.inr hO1 h
            refine g_retR (c := trellislaw11_FirstDerives_c53) [.bool ((bits .andNot .u64 r346 r39) == 0)] rfl Try.func6 rfl (.tmp rfl (.nil)) fun wr hLr => ?_
            have hMr : B.Loc w wr [] [St w []] := hLr.pick (rest := [.box gb25 26 [.slice A2 n3 c4, .slice A6 n7 c8, .slice A10 n11 c12]]) (perm_of_idx [] [0] rfl rfl (by kernel_rfl)) (sels [2] rfl)
            have hMi : ∀ e ∈ ([] : List Ent), e ∈ ([.box gb25 26 [.slice A2 n3 c4, .slice A6 n7 c8, .slice A10 n11 c12]] : List Ent) := sels [] rfl
            show trellislaw11_FirstDerives_R w F  r (.returned (packV [.bool ((bits .andNot .u64 r346 r39) == 0)])) wr
            rw [h]
            exact ⟨rfl, hMr⟩
        exact g_go [1, 0, 1] (key2 _ h A15 n16 c17 (St w []) h18) ⟨rfl, rfl, rfl, rfl, rfl, rfl, trivial⟩ (.cons_cons _ (.slnil)) rfl
    refine g_region (c := trellislaw11_FirstDerives_c13) rfl rfl ?_
    refine wl_v 0 rfl (v_ldB [.slice A2 n3 c4, .slice A6 n7 c8, .slice A10 n11 c12] 0 ld_26 rfl rfl rfl rfl) gn rfl ?_
    obtain ⟨r354, hv355, h⟩ := h
    refine wl_s 1 rfl (s_call [.agg #[.slice A2 n3 c4, .slice A6 n7 c8, .slice A10 n11 c12]] rfl Try.func23 rfl rfl rfl fun w351 hL352 => ?_) gn
    have hp353 : List.Perm ([.box gb25 26 [.slice A2 n3 c4, .slice A6 n7 c8, .slice A10 n11 c12]] : List Ent) (([] : List Ent) ++ ([.box gb25 26 [.slice A2 n3 c4, .slice A6 n7 c8, .slice A10 n11 c12]] : List Ent)) := perm_of_idx [] [0] rfl rfl (by kernel_rfl)
    refine Calls.mono (trellislaw11_sound_calls w351 (Fl ([] : List Snap)) x1 A2 n3 c4 A6 n7 c8 A10 n11 c12 (Rw.mono h5 (hL352.toSt hp353 (me 1 rfl))) (Rw.mono h9 (hL352.toSt hp353 (me 1 rfl))) (Rw.mono h13 (hL352.toSt hp353 (me 1 rfl))) (hL352.hFl (Sl := ([] : List Snap)) hp353 (sels [] rfl)) (hL352.into hp353 (Fl ([] : List Snap))) r354 hv355) ?_
    rintro _ w356 ⟨rfl, hM357⟩
    have hL358 := hL352.call hp353 hM357
    refine ⟨_, _, _, rfl, hL358, ?_⟩
    refine wl_v 2 rfl (v_not rfl) gn rfl ?_
    refine wl_v 3 rfl (v_move rfl) gn rfl ?_
    by_cases hp359 : r354 = true
    · have h := if_pos' hp359 h
      refine w_bool 21 rfl ((nf hp359)) ?_
      refine wl_v 4 rfl (v_ldB [.slice A2 n3 c4, .slice A6 n7 c8, .slice A10 n11 c12] 0 ld_26 rfl rfl rfl rfl) (gy 21 rfl rfl) rfl ?_
      refine wl_v 5 rfl (v_move rfl) (gy 21 rfl rfl) rfl ?_
      obtain ⟨r363, hv364, h⟩ := h
      refine wl_s 6 rfl (s_call [.agg #[.slice A2 n3 c4, .slice A6 n7 c8, .slice A10 n11 c12], .slice A15 n16 c17] rfl Try.func25 rfl rfl rfl fun w360 hL361 => ?_) (gy 21 rfl rfl)
      have hp362 : List.Perm ([.box gb25 26 [.slice A2 n3 c4, .slice A6 n7 c8, .slice A10 n11 c12]] : List Ent) (([] : List Ent) ++ ([.box gb25 26 [.slice A2 n3 c4, .slice A6 n7 c8, .slice A10 n11 c12]] : List Ent)) := perm_of_idx [] [0] rfl rfl (by kernel_rfl)
      refine Calls.mono (trellislaw11_symbols_calls w360 (Fl ([] : List Snap)) x1 x14 A2 n3 c4 A6 n7 c8 A10 n11 c12 A15 n16 c17 (Rw.mono h5 (hL361.toSt hp362 (me 1 rfl))) (Rw.mono h9 (hL361.toSt hp362 (me 1 rfl))) (Rw.mono h13 (hL361.toSt hp362 (me 1 rfl))) (Rw.mono h18 (hL361.toSt hp362 (me 1 rfl))) (hL361.hFl (Sl := ([] : List Snap)) hp362 (sels [] rfl)) (hL361.into hp362 (Fl ([] : List Snap))) r363 hv364) ?_
      rintro _ w365 ⟨rfl, hM366⟩
      have hL367 := hL361.call hp362 hM366
      refine ⟨_, _, _, rfl, hL367, ?_⟩
      refine wl_v 7 rfl (v_not rfl) (gy 21 rfl rfl) rfl ?_
      refine wl_v 8 rfl (v_pick (b := false) rfl rfl) gn rfl ?_
      refine w_end 9 rfl ?_
      exact g_go [0, 1] (j1 (!r363) h) ⟨rfl, rfl, rfl, rfl, rfl, rfl, trivial⟩ (.cons_cons _ (.slnil)) rfl
    · have h := if_neg' hp359 h
      refine w_bool 21 rfl ((nt (bf hp359))) ?_
      refine wl_pass 4 rfl (ps 21 rfl rfl rfl) ?_
      refine wl_pass 5 rfl (ps 21 rfl rfl rfl) ?_
      refine wl_pass 6 rfl (ps 21 rfl rfl rfl) ?_
      refine wl_pass 7 rfl (ps 21 rfl rfl rfl) ?_
      refine wl_v 8 rfl (v_pick (b := true) rfl rfl) gn rfl ?_
      refine w_end 9 rfl ?_
      exact g_go [0, 1] (j1 true h) ⟨rfl, rfl, rfl, rfl, rfl, rfl, trivial⟩ (.cons_cons _ (.slnil)) rfl
  · have h := if_neg' hp35 h
    refine g_true (c := trellislaw11_FirstDerives_c6) rfl _ rfl ((nt (bf hp35))) ?_
    refine g_seq (c := trellislaw11_FirstDerives_c7) rfl ?_
    refine g_region (c := trellislaw11_FirstDerives_c54) rfl rfl ?_
    refine wl_v 0 rfl (v_assign rfl) gn rfl ?_
    refine w_end 1 rfl ?_
    refine g_retR (c := trellislaw11_FirstDerives_c55) [.bool false] rfl Try.func6 rfl (.tmp rfl (.nil)) fun wr hLr => ?_
    have hMr : B.Loc w wr [] [St w []] := hLr.pick (rest := [.box gb25 26 [.slice A2 n3 c4, .slice A6 n7 c8, .slice A10 n11 c12]]) (perm_of_idx [] [0] rfl rfl (by kernel_rfl)) (sels [1] rfl)
    have hMi : ∀ e ∈ ([] : List Ent), e ∈ ([.box gb25 26 [.slice A2 n3 c4, .slice A6 n7 c8, .slice A10 n11 c12]] : List Ent) := sels [] rfl
    show trellislaw11_FirstDerives_R w F  r (.returned (packV [.bool false])) wr
    rw [h]
    exact ⟨rfl, hMr⟩
noncomputable abbrev trellislaw11_FirstCuts_c0 : Code := bodyOf Try.f7
noncomputable abbrev trellislaw11_FirstCuts_c1 : Code := Code.fst trellislaw11_FirstCuts_c0
noncomputable abbrev trellislaw11_FirstCuts_c2 : Code := Code.snd trellislaw11_FirstCuts_c0
noncomputable abbrev trellislaw11_FirstCuts_c3 : Code := Code.fst trellislaw11_FirstCuts_c2
noncomputable abbrev trellislaw11_FirstCuts_c4 : Code := Code.snd trellislaw11_FirstCuts_c2
noncomputable abbrev trellislaw11_FirstCuts_c5 : Code := Code.fst trellislaw11_FirstCuts_c3
noncomputable abbrev trellislaw11_FirstCuts_c6 : Code := Code.snd trellislaw11_FirstCuts_c3
noncomputable abbrev trellislaw11_FirstCuts_c7 : Code := Code.fst trellislaw11_FirstCuts_c6
noncomputable abbrev trellislaw11_FirstCuts_c8 : Code := Code.snd trellislaw11_FirstCuts_c6
noncomputable abbrev trellislaw11_FirstCuts_c9 : Code := Code.fst trellislaw11_FirstCuts_c4
noncomputable abbrev trellislaw11_FirstCuts_c10 : Code := Code.snd trellislaw11_FirstCuts_c4
noncomputable abbrev trellislaw11_FirstCuts_c11 : Code := Code.fst trellislaw11_FirstCuts_c10
noncomputable abbrev trellislaw11_FirstCuts_c12 : Code := Code.snd trellislaw11_FirstCuts_c10
noncomputable abbrev trellislaw11_FirstCuts_c13 : Code := Code.fst trellislaw11_FirstCuts_c11
noncomputable abbrev trellislaw11_FirstCuts_c14 : Code := Code.snd trellislaw11_FirstCuts_c11
noncomputable abbrev trellislaw11_FirstCuts_c15 : Code := Code.fst trellislaw11_FirstCuts_c14
noncomputable abbrev trellislaw11_FirstCuts_c16 : Code := Code.fst trellislaw11_FirstCuts_c15
noncomputable abbrev trellislaw11_FirstCuts_c17 : Code := Code.fst trellislaw11_FirstCuts_c16
noncomputable abbrev trellislaw11_FirstCuts_c18 : Code := Code.snd trellislaw11_FirstCuts_c16
noncomputable abbrev trellislaw11_FirstCuts_c19 : Code := Code.fst trellislaw11_FirstCuts_c17
noncomputable abbrev trellislaw11_FirstCuts_c20 : Code := Code.snd trellislaw11_FirstCuts_c17
noncomputable abbrev trellislaw11_FirstCuts_c21 : Code := Code.fst trellislaw11_FirstCuts_c20
noncomputable abbrev trellislaw11_FirstCuts_c22 : Code := Code.snd trellislaw11_FirstCuts_c20
noncomputable abbrev trellislaw11_FirstCuts_c23 : Code := Code.fst trellislaw11_FirstCuts_c18
noncomputable abbrev trellislaw11_FirstCuts_c24 : Code := Code.snd trellislaw11_FirstCuts_c18
noncomputable abbrev trellislaw11_FirstCuts_c25 : Code := Code.fst trellislaw11_FirstCuts_c23
noncomputable abbrev trellislaw11_FirstCuts_c26 : Code := Code.fst trellislaw11_FirstCuts_c12
noncomputable abbrev trellislaw11_FirstCuts_c27 : Code := Code.snd trellislaw11_FirstCuts_c12
noncomputable abbrev trellislaw11_FirstCuts_c28 : Code := Code.fst trellislaw11_FirstCuts_c26
noncomputable abbrev trellislaw11_FirstCuts_c29 : Code := Code.snd trellislaw11_FirstCuts_c26
noncomputable abbrev trellislaw11_FirstCuts_c30 : Code := Code.fst trellislaw11_FirstCuts_c29
noncomputable abbrev trellislaw11_FirstCuts_c31 : Code := Code.fst trellislaw11_FirstCuts_c30
noncomputable abbrev trellislaw11_FirstCuts_c32 : Code := Code.fst trellislaw11_FirstCuts_c31
noncomputable abbrev trellislaw11_FirstCuts_c33 : Code := Code.snd trellislaw11_FirstCuts_c31
noncomputable abbrev trellislaw11_FirstCuts_c34 : Code := Code.fst trellislaw11_FirstCuts_c32
noncomputable abbrev trellislaw11_FirstCuts_c35 : Code := Code.snd trellislaw11_FirstCuts_c32
noncomputable abbrev trellislaw11_FirstCuts_c36 : Code := Code.fst trellislaw11_FirstCuts_c35
noncomputable abbrev trellislaw11_FirstCuts_c37 : Code := Code.snd trellislaw11_FirstCuts_c35
noncomputable abbrev trellislaw11_FirstCuts_c38 : Code := Code.fst trellislaw11_FirstCuts_c33
noncomputable abbrev trellislaw11_FirstCuts_c39 : Code := Code.snd trellislaw11_FirstCuts_c33
noncomputable abbrev trellislaw11_FirstCuts_c40 : Code := Code.fst trellislaw11_FirstCuts_c38
noncomputable abbrev trellislaw11_FirstCuts_c41 : Code := Code.fst trellislaw11_FirstCuts_c27
noncomputable abbrev trellislaw11_FirstCuts_c42 : Code := Code.snd trellislaw11_FirstCuts_c27
noncomputable abbrev trellislaw11_FirstCuts_c43 : Code := Code.fst trellislaw11_FirstCuts_c42
noncomputable abbrev trellislaw11_FirstCuts_c44 : Code := Code.snd trellislaw11_FirstCuts_c42
noncomputable abbrev trellislaw11_FirstCuts_c45 : Code := Code.fst trellislaw11_FirstCuts_c43
noncomputable abbrev trellislaw11_FirstCuts_c46 : Code := Code.snd trellislaw11_FirstCuts_c43
noncomputable abbrev trellislaw11_FirstCuts_c47 : Code := Code.fst trellislaw11_FirstCuts_c46
noncomputable abbrev trellislaw11_FirstCuts_c48 : Code := Code.snd trellislaw11_FirstCuts_c46
noncomputable abbrev trellislaw11_FirstCuts_c49 : Code := Code.fst trellislaw11_FirstCuts_c47
noncomputable abbrev trellislaw11_FirstCuts_c50 : Code := Code.snd trellislaw11_FirstCuts_c47
noncomputable abbrev trellislaw11_FirstCuts_c51 : Code := Code.fst trellislaw11_FirstCuts_c44
noncomputable abbrev trellislaw11_FirstCuts_c52 : Code := Code.snd trellislaw11_FirstCuts_c44
noncomputable abbrev trellislaw11_FirstCuts_c53 : Code := Code.fst trellislaw11_FirstCuts_c7
noncomputable abbrev trellislaw11_FirstCuts_c54 : Code := Code.snd trellislaw11_FirstCuts_c7
abbrev trellislaw11_FirstCuts_R (w : World) (F : Nat → Prop) (r : Bool) : Ending → World → Prop := fun e w' => e = .returned (.bool r) ∧ B.Loc w w' [] [St w []]
noncomputable abbrev trellislaw11_FirstCuts_C (w : World) (F : Nat → Prop) (r : Bool) : Cx := ⟨Try.prog, 7, Try.f7, 72, trellislaw11_FirstCuts_R w F  r, w⟩
theorem trellislaw11_FirstCuts_calls (w : World) (F : Nat → Prop) (x1 : api_Gram) (x14 : List api_Ref) (x19 : List api_Ref) (x24 : Int) (A2 : Option Addr) (n3 : Nat) (c4 : Nat) (A6 : Option Addr) (n7 : Nat) (c8 : Nat) (A10 : Option Addr) (n11 : Nat) (c12 : Nat) (A15 : Option Addr) (n16 : Nat) (c17 : Nat) (A20 : Option Addr) (n21 : Nat) (c22 : Nat) (h5 : Rw k_api_TermDef w (St w []).av A2 n3 c4 x1.terms) (h9 : Rw k_api_Sym w (St w []).av A6 n7 c8 x1.syms) (h13 : Rw k_api_Prod w (St w []).av A10 n11 c12 x1.prods) (h18 : Rw k_api_Ref w (St w []).av A15 n16 c17 x14) (h23 : Rw k_api_Ref w (St w []).av A20 n21 c22 x19) (hF : ∀ b, F b → b < w.heap.size ∧ ∀ o ∈ ([] : List (List Nat)), b ∉ o) (hL0 : B.Loc w w [] [Sm w.heap.size F w [], St w []]) (r : Bool) (h : trellislaw11_FirstCuts x1 x14 x19 x24 r) : Calls Try.prog 7 #[.agg #[.slice A2 n3 c4, .slice A6 n7 c8, .slice A10 n11 c12], .slice A15 n16 c17, .slice A20 n21 c22, .int .u64 x24] w (trellislaw11_FirstCuts_R w F  r) := by
  unfold trellislaw11_FirstCuts at h
  refine calls_of_Loc (vs := [.agg #[.slice A2 n3 c4, .slice A6 n7 c8, .slice A10 n11 c12], .slice A15 n16 c17, .slice A20 n21 c22, .int .u64 x24]) 72 Try.func7 rfl Try.ntmps7 rfl hL0 ?_
  show G (trellislaw11_FirstCuts_C w F r) _ _ _ _
  refine g_seq (c := trellislaw11_FirstCuts_c0) rfl ?_
  refine g_region (c := trellislaw11_FirstCuts_c1) rfl rfl ?_
  refine wl_s 0 rfl (s_box [.slice A2 n3 c4, .slice A6 n7 c8, .slice A10 n11 c12] rfl rfl rfl fun gb25 => ?_) gn
  refine wl_v 1 rfl (v_assign rfl) gn rfl ?_
  refine w_end 2 rfl ?_
  refine g_seq (c := trellislaw11_FirstCuts_c2) rfl ?_
  refine g_seq (c := trellislaw11_FirstCuts_c3) rfl ?_
  refine g_region (c := trellislaw11_FirstCuts_c5) rfl rfl ?_
  obtain ⟨r30, hv31, h⟩ := h
  refine wl_s 0 rfl (s_call [] rfl Try.func22 rfl rfl rfl fun w27 hL28 => ?_) gn
  have hp29 : List.Perm ([.box gb25 26 [.slice A2 n3 c4, .slice A6 n7 c8, .slice A10 n11 c12]] : List Ent) (([] : List Ent) ++ ([.box gb25 26 [.slice A2 n3 c4, .slice A6 n7 c8, .slice A10 n11 c12]] : List Ent)) := perm_of_idx [] [0] rfl rfl (by kernel_rfl)
  refine Calls.mono (trellislaw11_started_calls w27 (Fl ([] : List Snap)) (hL28.hFl (Sl := ([] : List Snap)) hp29 (sels [] rfl)) (hL28.into hp29 (Fl ([] : List Snap))) r30 hv31) ?_
  rintro _ w32 ⟨rfl, hM33⟩
  have hL34 := hL28.call hp29 hM33
  refine ⟨_, _, _, rfl, hL34, ?_⟩
  refine wl_v 1 rfl (v_not rfl) gn rfl ?_
  refine w_end 2 rfl ?_
  by_cases hp35 : r30 = true
  · have h := if_pos' hp35 h
    refine g_false (c := trellislaw11_FirstCuts_c6) rfl _ rfl ((nf hp35)) ?_
    refine g_skip (c := trellislaw11_FirstCuts_c8) rfl ?_
    refine g_seq (c := trellislaw11_FirstCuts_c4) rfl ?_
    refine g_region (c := trellislaw11_FirstCuts_c9) rfl rfl ?_
    refine wl_v 0 rfl (v_assign rfl) gn rfl ?_
    refine w_end 1 rfl ?_
    refine g_seq (c := trellislaw11_FirstCuts_c10) rfl ?_
    refine g_seq (c := trellislaw11_FirstCuts_c11) rfl ?_
    refine g_region (c := trellislaw11_FirstCuts_c13) rfl rfl ?_
    refine wl_v 0 rfl (v_assign rfl) gn rfl ?_
    refine w_end 1 rfl ?_
    refine g_block (c := trellislaw11_FirstCuts_c14) rfl ?_
    refine g_loop (c := trellislaw11_FirstCuts_c15) rfl ?_
    have key1 : ∀ s, Rounds (fun (s : (List api_Ref) × Int) o => trellislaw11_FirstCuts_b1 x14 x19 x1 x24 s.1 s.2 o) s r → (fun (s : (List api_Ref) × Int) => ∀ (A702 : Option Addr) (n703 : Nat) (c704 : Nat) (h705 : Ow w.heap.size A702 n703 c704 s.1), G (trellislaw11_FirstCuts_C w F r) [.code trellislaw11_FirstCuts_c16, .inLoop trellislaw11_FirstCuts_c16, .inBlock 0, .code trellislaw11_FirstCuts_c12] [(1, .slice A15 n16 c17), (2, .slice A20 n21 c22), (3, .int .u64 x24), (4, .pointer (some ⟨gb25, 0, none⟩)), (9, .slice A702 n703 c704), (10, .int .i64 s.2)] [.own (.slice A702 n703 c704) 36 3 n703 (s.1.flatMap enc_api_Ref), .box gb25 26 [.slice A2 n3 c4, .slice A6 n7 c8, .slice A10 n11 c12]] [Sm w.heap.size F w [], St w []]) s := by
      intro s hs
      refine Rounds.ind (mot := (fun (s : (List api_Ref) × Int) => ∀ (A702 : Option Addr) (n703 : Nat) (c704 : Nat) (h705 : Ow w.heap.size A702 n703 c704 s.1), G (trellislaw11_FirstCuts_C w F r) [.code trellislaw11_FirstCuts_c16, .inLoop trellislaw11_FirstCuts_c16, .inBlock 0, .code trellislaw11_FirstCuts_c12] [(1, .slice A15 n16 c17), (2, .slice A20 n21 c22), (3, .int .u64 x24), (4, .pointer (some ⟨gb25, 0, none⟩)), (9, .slice A702 n703 c704), (10, .int .i64 s.2)] [.own (.slice A702 n703 c704) 36 3 n703 (s.1.flatMap enc_api_Ref), .box gb25 26 [.slice A2 n3 c4, .slice A6 n7 c8, .slice A10 n11 c12]] [Sm w.heap.size F w [], St w []])) ?_ hs
      clear hs s
      intro s o1 h hO1
      obtain ⟨x701, x706⟩ := s
      show ∀ (A702 : Option Addr) (n703 : Nat) (c704 : Nat) (h705 : Ow w.heap.size A702 n703 c704 x701), G (trellislaw11_FirstCuts_C w F r) [.code trellislaw11_FirstCuts_c16, .inLoop trellislaw11_FirstCuts_c16, .inBlock 0, .code trellislaw11_FirstCuts_c12] [(1, .slice A15 n16 c17), (2, .slice A20 n21 c22), (3, .int .u64 x24), (4, .pointer (some ⟨gb25, 0, none⟩)), (9, .slice A702 n703 c704), (10, .int .i64 x706)] [.own (.slice A702 n703 c704) 36 3 n703 (x701.flatMap enc_api_Ref), .box gb25 26 [.slice A2 n3 c4, .slice A6 n7 c8, .slice A10 n11 c12]] [Sm w.heap.size F w [], St w []]
      intro A702 n703 c704 h705
      have h : trellislaw11_FirstCuts_b1 x14 x19 x1 x24 x701 x706 o1 := h
      unfold trellislaw11_FirstCuts_b1 at h
      refine g_seq (c := trellislaw11_FirstCuts_c16) rfl ?_
      refine g_seq (c := trellislaw11_FirstCuts_c17) rfl ?_
      refine g_region (c := trellislaw11_FirstCuts_c19) rfl rfl ?_
      refine wl_v 0 rfl (v_move rfl) gn rfl ?_
      refine wl_v 1 rfl (v_move rfl) gn rfl ?_
      refine wl_v 2 rfl (v_lenQ un_27 rfl h18.hq) gn rfl ?_
      refine wl_v 3 rfl (v_bin rfl rfl rfl) gn rfl ?_
      refine w_end 4 rfl ?_
      by_cases hp1368 : x706 < (x14.length : Int)
      · have h := if_pos' hp1368 h
        refine g_true (c := trellislaw11_FirstCuts_c20) rfl _ rfl ((decide_eq_true hp1368)) ?_
        refine g_skip (c := trellislaw11_FirstCuts_c21) rfl ?_
        refine g_seq (c := trellislaw11_FirstCuts_c18) rfl ?_
        refine g_block (c := trellislaw11_FirstCuts_c23) rfl ?_
        refine g_region (c := trellislaw11_FirstCuts_c25) rfl rfl ?_
        refine wl_v 0 rfl (v_move rfl) gn rfl ?_
        refine wl_v 1 rfl (v_move rfl) gn rfl ?_
        refine wl_v 2 rfl (v_move rfl) gn rfl ?_
        obtain ⟨hb1369, h⟩ := h
        have hr1370 := Rw.readF (s := St w []) (hl := hl_api_Ref) (h1 := h1_api_Ref) h18 hb1369
        refine wl_v 3 rfl (v_idxR (s := St w []) slE_27 rfl rfl h18 hb1369) gn rfl ?_
        refine wl_v 4 rfl (v_ldA (St w []) ld_36 rfl hr1370 rfl (me 1 rfl)) gn rfl ?_
        refine wl_s 5 rfl (s_litO (xs := ([ix x14 x706] : List api_Ref)) [.int .i64 ((ix x14 x706).sym), .string ((ix x14 x706).field), .string ((ix x14 x706).as)] bs_27_1 rfl (by kernel_rfl) rfl rfl rfl rfl fun gb1372 h1373 => ?_) gn
        obtain ⟨x1377, hv1378, h⟩ := h
        obtain ⟨hb1379, h⟩ := h
        refine wl_s 6 rfl (s_app (zs := x1377) (cells' := x1377.flatMap enc_api_Ref) 1 ap_27 rfl rfl rfl h705 (Nat.le_refl _) (Src.ownF (hl := hl_api_Ref) (h1 := h1_api_Ref) 0 rfl h1373) (by rw [hv1378, List.flatMap_append] <;> rfl) (app_len hv1378 h1373.hq) hb1379 rfl rfl fun A1374 c1375 h1376 => ?_) gn
        refine wl_v 7 rfl (v_assign rfl) gn rfl ?_
        refine w_end 8 rfl ?_
        refine g_inBlock ?_
        refine g_region (c := trellislaw11_FirstCuts_c24) rfl rfl ?_
        refine wl_v 0 rfl (v_move rfl) gn rfl ?_
        refine wl_v 1 rfl (v_bin rfl rfl rfl) gn rfl ?_
        refine wl_v 2 rfl (v_assign rfl) gn rfl ?_
        refine w_end 3 rfl ?_
        refine g_inLoop ?_
        have ih := Out.inl hO1 h
        exact g_go [0, 1] (ih A1374 (n703 + 1) c1375 h1376) ⟨rfl, rfl, rfl, rfl, rfl, rfl, trivial⟩ (.cons _ (.cons_cons _ (.cons_cons _ (.slnil)))) rfl
      · have h := if_neg' hp1368 h
        refine g_false (c := trellislaw11_FirstCuts_c20) rfl _ rfl ((decide_eq_false hp1368)) ?_
        refine g_exit (c := trellislaw11_FirstCuts_c22) [.code trellislaw11_FirstCuts_c12] rfl rfl ?_
        refine g_seq (c := trellislaw11_FirstCuts_c12) rfl ?_
        refine g_seq (c := trellislaw11_FirstCuts_c26) rfl ?_
        refine g_region (c := trellislaw11_FirstCuts_c28) rfl rfl ?_
        refine wl_v 0 rfl (v_assign rfl) gn rfl ?_
        refine w_end 1 rfl ?_
        refine g_block (c := trellislaw11_FirstCuts_c29) rfl ?_
        refine g_loop (c := trellislaw11_FirstCuts_c30) rfl ?_
        have key2 : ∀ s, Rounds (fun (s : (List api_Ref) × Int) o => trellislaw11_FirstCuts_b2 x19 x1 x24 x14 s.1 s.2 o) s o1 → (fun (s : (List api_Ref) × Int) => ∀ (A1596 : Option Addr) (n1597 : Nat) (c1598 : Nat) (h1599 : Ow w.heap.size A1596 n1597 c1598 s.1), G (trellislaw11_FirstCuts_C w F r) [.code trellislaw11_FirstCuts_c31, .inLoop trellislaw11_FirstCuts_c31, .inBlock 2, .code trellislaw11_FirstCuts_c27] [(1, .slice A15 n16 c17), (2, .slice A20 n21 c22), (3, .int .u64 x24), (4, .pointer (some ⟨gb25, 0, none⟩)), (9, .slice A1596 n1597 c1598), (11, .int .i64 s.2)] [.own (.slice A1596 n1597 c1598) 36 3 n1597 (s.1.flatMap enc_api_Ref), .box gb25 26 [.slice A2 n3 c4, .slice A6 n7 c8, .slice A10 n11 c12]] [Sm w.heap.size F w [], St w []]) s := by
          intro s hs
          refine Rounds.ind (mot := (fun (s : (List api_Ref) × Int) => ∀ (A1596 : Option Addr) (n1597 : Nat) (c1598 : Nat) (h1599 : Ow w.heap.size A1596 n1597 c1598 s.1), G (trellislaw11_FirstCuts_C w F r) [.code trellislaw11_FirstCuts_c31, .inLoop trellislaw11_FirstCuts_c31, .inBlock 2, .code trellislaw11_FirstCuts_c27] [(1, .slice A15 n16 c17), (2, .slice A20 n21 c22), (3, .int .u64 x24), (4, .pointer (some ⟨gb25, 0, none⟩)), (9, .slice A1596 n1597 c1598), (11, .int .i64 s.2)] [.own (.slice A1596 n1597 c1598) 36 3 n1597 (s.1.flatMap enc_api_Ref), .box gb25 26 [.slice A2 n3 c4, .slice A6 n7 c8, .slice A10 n11 c12]] [Sm w.heap.size F w [], St w []])) ?_ hs
          clear hs s
          intro s o2 h hO2
          obtain ⟨x1595, x1600⟩ := s
          show ∀ (A1596 : Option Addr) (n1597 : Nat) (c1598 : Nat) (h1599 : Ow w.heap.size A1596 n1597 c1598 x1595), G (trellislaw11_FirstCuts_C w F r) [.code trellislaw11_FirstCuts_c31, .inLoop trellislaw11_FirstCuts_c31, .inBlock 2, .code trellislaw11_FirstCuts_c27] [(1, .slice A15 n16 c17), (2, .slice A20 n21 c22), (3, .int .u64 x24), (4, .pointer (some ⟨gb25, 0, none⟩)), (9, .slice A1596 n1597 c1598), (11, .int .i64 x1600)] [.own (.slice A1596 n1597 c1598) 36 3 n1597 (x1595.flatMap enc_api_Ref), .box gb25 26 [.slice A2 n3 c4, .slice A6 n7 c8, .slice A10 n11 c12]] [Sm w.heap.size F w [], St w []]
          intro A1596 n1597 c1598 h1599
          have h : trellislaw11_FirstCuts_b2 x19 x1 x24 x14 x1595 x1600 o2 := h
          unfold trellislaw11_FirstCuts_b2 at h
          refine g_seq (c := trellislaw11_FirstCuts_c31) rfl ?_
          refine g_seq (c := trellislaw11_FirstCuts_c32) rfl ?_
          refine g_region (c := trellislaw11_FirstCuts_c34) rfl rfl ?_
          refine wl_v 0 rfl (v_move rfl) gn rfl ?_
          refine wl_v 1 rfl (v_move rfl) gn rfl ?_
          refine wl_v 2 rfl (v_lenQ un_27 rfl h23.hq) gn rfl ?_
          refine wl_v 3 rfl (v_bin rfl rfl rfl) gn rfl ?_
          refine w_end 4 rfl ?_
          by_cases hp1815 : x1600 < (x19.length : Int)
          · have h := if_pos' hp1815 h
            refine g_true (c := trellislaw11_FirstCuts_c35) rfl _ rfl ((decide_eq_true hp1815)) ?_
            refine g_skip (c := trellislaw11_FirstCuts_c36) rfl ?_
            refine g_seq (c := trellislaw11_FirstCuts_c33) rfl ?_
            refine g_block (c := trellislaw11_FirstCuts_c38) rfl ?_
            refine g_region (c := trellislaw11_FirstCuts_c40) rfl rfl ?_
            refine wl_v 0 rfl (v_move rfl) gn rfl ?_
            refine wl_v 1 rfl (v_move rfl) gn rfl ?_
            refine wl_v 2 rfl (v_move rfl) gn rfl ?_
            obtain ⟨hb1816, h⟩ := h
            have hr1817 := Rw.readF (s := St w []) (hl := hl_api_Ref) (h1 := h1_api_Ref) h23 hb1816
            refine wl_v 3 rfl (v_idxR (s := St w []) slE_27 rfl rfl h23 hb1816) gn rfl ?_
            refine wl_v 4 rfl (v_ldA (St w []) ld_36 rfl hr1817 rfl (me 1 rfl)) gn rfl ?_
            refine wl_s 5 rfl (s_litO (xs := ([ix x19 x1600] : List api_Ref)) [.int .i64 ((ix x19 x1600).sym), .string ((ix x19 x1600).field), .string ((ix x19 x1600).as)] bs_27_1 rfl (by kernel_rfl) rfl rfl rfl rfl fun gb1819 h1820 => ?_) gn
            obtain ⟨x1824, hv1825, h⟩ := h
            obtain ⟨hb1826, h⟩ := h
            refine wl_s 6 rfl (s_app (zs := x1824) (cells' := x1824.flatMap enc_api_Ref) 1 ap_27 rfl rfl rfl h1599 (Nat.le_refl _) (Src.ownF (hl := hl_api_Ref) (h1 := h1_api_Ref) 0 rfl h1820) (by rw [hv1825, List.flatMap_append] <;> rfl) (app_len hv1825 h1820.hq) hb1826 rfl rfl fun A1821 c1822 h1823 => ?_) gn
            refine wl_v 7 rfl (v_assign rfl) gn rfl ?_
            refine w_end 8 rfl ?_
            refine g_inBlock ?_
            refine g_region (c := trellislaw11_FirstCuts_c39) rfl rfl ?_
            refine wl_v 0 rfl (v_move rfl) gn rfl ?_
            refine wl_v 1 rfl (v_bin rfl rfl rfl) gn rfl ?_
            refine wl_v 2 rfl (v_assign rfl) gn rfl ?_
            refine w_end 3 rfl ?_
            refine g_inLoop ?_
            have ih := Out.inl hO2 h
            exact g_go [0, 1] (ih A1821 (n1597 + 1) c1822 h1823) ⟨rfl, rfl, rfl, rfl, rfl, rfl, trivial⟩ (.cons _ (.cons_cons _ (.cons_cons _ (.slnil)))) rfl
          · have h := if_neg' hp1815 h
            refine g_false (c := trellislaw11_FirstCuts_c35) rfl _ rfl ((decide_eq_false hp1815)) ?_
            refine g_exit (c := trellislaw11_FirstCuts_c37) [.code trellislaw11_FirstCuts_c27] rfl rfl ?_
            refine g_seq (c := trellislaw11_FirstCuts_c27) rfl ?_
            refine g_region (c := trellislaw11_FirstCuts_c41) rfl rfl ?_
            refine wl_v 0 rfl (v_ldB [.slice A2 n3 c4, .slice A6 n7 c8, .slice A10 n11 c12] 1 ld_26 rfl rfl rfl rfl) gn rfl ?_
            refine wl_v 1 rfl (v_move rfl) gn rfl ?_
            refine wl_v 2 rfl (v_move rfl) gn rfl ?_
            obtain ⟨r1830, hv1831, h⟩ := h
            refine wl_s 3 rfl (s_call [.agg #[.slice A2 n3 c4, .slice A6 n7 c8, .slice A10 n11 c12], .slice A1596 n1597 c1598, .int .u64 x24] rfl Try.func13 rfl rfl rfl fun w1827 hL1828 => ?_) gn
            have hp1829 : List.Perm ([.own (.slice A1596 n1597 c1598) 36 3 n1597 (x1595.flatMap enc_api_Ref), .box gb25 26 [.slice A2 n3 c4, .slice A6 n7 c8, .slice A10 n11 c12]] : List Ent) (([] : List Ent) ++ ([.own (.slice A1596 n1597 c1598) 36 3 n1597 (x1595.flatMap enc_api_Ref), .box gb25 26 [.slice A2 n3 c4, .slice A6 n7 c8, .slice A10 n11 c12]] : List Ent)) := perm_of_idx [] [0, 1] rfl rfl (by kernel_rfl)
            refine Calls.mono (first_Of_calls w1827 (Fl ([] : List Snap)) x1 x1595 x24 A2 n3 c4 A6 n7 c8 A10 n11 c12 A1596 n1597 c1598 (Rw.mono h5 (hL1828.toSt hp1829 (me 1 rfl))) (Rw.mono h9 (hL1828.toSt hp1829 (me 1 rfl))) (Rw.mono h13 (hL1828.toSt hp1829 (me 1 rfl))) (hL1828.argO (dk := k_api_Ref) hp1829 [] rfl 0 rfl rfl h1599 (me 0 rfl) (Cells.flat _)) (hL1828.hFl (Sl := ([] : List Snap)) hp1829 (sels [] rfl)) (hL1828.into hp1829 (Fl ([] : List Snap))) r1830 hv1831) ?_
            rintro _ w1832 ⟨rfl, hM1833⟩
            have hL1834 := hL1828.call hp1829 hM1833
            refine ⟨_, _, _, rfl, hL1834, ?_⟩
            refine wl_v 4 rfl (v_assign rfl) gn rfl ?_
            refine w_end 5 rfl ?_
            refine g_seq (c := trellislaw11_FirstCuts_c42) rfl ?_
            refine g_seq (c := trellislaw11_FirstCuts_c43) rfl ?_
            have j3 : ∀ (x1853 : Bool) (h : trellislaw11_FirstCuts_j3 r1830 x1 x19 x24 x14 x1853 o2) , G (trellislaw11_FirstCuts_C w F r) [.code trellislaw11_FirstCuts_c46, .code trellislaw11_FirstCuts_c44] [(1, .slice A15 n16 c17), (2, .slice A20 n21 c22), (3, .int .u64 x24), (4, .pointer (some ⟨gb25, 0, none⟩)), (12, .int .u64 r1830), (53, .bool x1853)] [.box gb25 26 [.slice A2 n3 c4, .slice A6 n7 c8, .slice A10 n11 c12]] [Sm w.heap.size F w [], St w []] := by
              intro x1853 h
              unfold trellislaw11_FirstCuts_j3 at h
              by_cases hp1854 : x1853 = true
              · have h := if_pos' hp1854 h
                refine g_true (c := trellislaw11_FirstCuts_c46) rfl _ rfl (hp1854) ?_
                refine g_seq (c := trellislaw11_FirstCuts_c47) rfl ?_
                refine g_region (c := trellislaw11_FirstCuts_c49) rfl rfl ?_
                refine wl_v 0 rfl (v_move rfl) gn rfl ?_
                refine wl_v 1 rfl (v_bin rfl rfl rfl) gn rfl ?_
                refine wl_v 2 rfl (v_assign rfl) gn rfl ?_
                refine w_end 3 rfl ?_
                have h := Out.inr hO2 h
                have h := Out.inr hO1 h
                refine g_retR (c := trellislaw11_FirstCuts_c50) [.bool (r1830 == 0)] rfl Try.func7 rfl (.tmp rfl (.nil)) fun wr hLr => ?_
                have hMr : B.Loc w wr [] [St w []] := hLr.pick (rest := [.box gb25 26 [.slice A2 n3 c4, .slice A6 n7 c8, .slice A10 n11 c12]]) (perm_of_idx [] [0] rfl rfl (by kernel_rfl)) (sels [1] rfl)
                have hMi : ∀ e ∈ ([] : List Ent), e ∈ ([.box gb25 26 [.slice A2 n3 c4, .slice A6 n7 c8, .slice A10 n11 c12]] : List Ent) := sels [] rfl
                show trellislaw11_FirstCuts_R w F  r (.returned (packV [.bool (r1830 == 0)])) wr
                rw [h]
                exact ⟨rfl, hMr⟩
              · have h := if_neg' hp1854 h
                refine g_false (c := trellislaw11_FirstCuts_c46) rfl _ rfl ((bf hp1854)) ?_
                refine g_skip (c := trellislaw11_FirstCuts_c48) rfl ?_
                refine g_seq (c := trellislaw11_FirstCuts_c44) rfl ?_
                obtain ⟨r1858, hv1859, h⟩ := h
                obtain ⟨r1866, hv1867, h⟩ := h
                by_cases hp1871 : r1830 = r1866
                · have h := if_pos' hp1871 h
                  obtain ⟨r1875, hv1876, h⟩ := h
                  have hns : Region.noSelect (Code.ops trellislaw11_FirstCuts_c51) = true := by kernel_rfl
                  refine g_drawF (c := trellislaw11_FirstCuts_c51) [.box gb25 26 [.slice A2 n3 c4, .slice A6 n7 c8, .slice A10 n11 c12]] [Sm w.heap.size F w [], St w []] [] 17 rfl rfl mix rfl (.cons_cons _ (.slnil)) (sels [0, 1] rfl) ?_
                  refine wf_v 0 rfl (v_move rfl) gn rfl hns (by kernel_rfl) (by kernel_rfl) rfl rfl ?_
                  refine wf_v 1 rfl (v_ldB [.slice A2 n3 c4, .slice A6 n7 c8, .slice A10 n11 c12] 0 ld_26 rfl rfl rfl rfl) gn rfl hns (by kernel_rfl) (by kernel_rfl) rfl rfl ?_
                  refine wf_v 2 rfl (v_move rfl) gn rfl hns (by kernel_rfl) (by kernel_rfl) rfl rfl ?_
                  refine wf_v 3 rfl (v_ldB [.slice A2 n3 c4, .slice A6 n7 c8, .slice A10 n11 c12] 0 ld_26 rfl rfl rfl rfl) gn rfl hns (by kernel_rfl) (by kernel_rfl) rfl rfl ?_
                  refine wf_v 4 rfl (v_move rfl) gn rfl hns (by kernel_rfl) (by kernel_rfl) rfl rfl ?_
                  refine wf_v 5 rfl (v_move rfl) gn rfl hns (by kernel_rfl) (by kernel_rfl) rfl rfl ?_
                  refine wf_all [6] (by kernel_rfl) rfl ⟨on_s 6 rfl gn rfl (s_call [.agg #[.slice A2 n3 c4, .slice A6 n7 c8, .slice A10 n11 c12], .slice A20 n21 c22, .int .u64 x24] rfl Try.func13 rfl rfl rfl fun w1928 hL1929 => ?_), trivial⟩
                  have hp1930 : List.Perm ([.box gb25 26 [.slice A2 n3 c4, .slice A6 n7 c8, .slice A10 n11 c12]] : List Ent) (([] : List Ent) ++ ([.box gb25 26 [.slice A2 n3 c4, .slice A6 n7 c8, .slice A10 n11 c12]] : List Ent)) := perm_of_idx [] [0] rfl rfl (by kernel_rfl)
                  refine Calls.mono (first_Of_calls w1928 (Fl ([] : List Snap)) x1 x19 x24 A2 n3 c4 A6 n7 c8 A10 n11 c12 A20 n21 c22 (Rw.mono h5 (hL1929.toSt hp1930 (me 1 rfl))) (Rw.mono h9 (hL1929.toSt hp1930 (me 1 rfl))) (Rw.mono h13 (hL1929.toSt hp1930 (me 1 rfl))) (Rw.mono h23 (hL1929.toSt hp1930 (me 1 rfl))) (hL1929.hFl (Sl := ([] : List Snap)) hp1930 (sels [] rfl)) (hL1929.into hp1930 (Fl ([] : List Snap))) r1858 hv1859) ?_
                  rintro _ w1931 ⟨rfl, hM1932⟩
                  have hL1933 := hL1929.call hp1930 hM1932
                  refine ⟨_, _, _, rfl, hL1933, ?_⟩
                  refine ⟨sels [0] rfl, sels [0, 1] rfl, ?_⟩
                  refine wf_all [7] (by kernel_rfl) rfl ⟨on_s 7 rfl gn rfl (s_call [.agg #[.slice A2 n3 c4, .slice A6 n7 c8, .slice A10 n11 c12], .slice A15 n16 c17, .int .u64 r1858] rfl Try.func13 rfl rfl rfl fun w1940 hL1941 => ?_), trivial⟩
                  have hp1942 : List.Perm ([.box gb25 26 [.slice A2 n3 c4, .slice A6 n7 c8, .slice A10 n11 c12]] : List Ent) (([] : List Ent) ++ ([.box gb25 26 [.slice A2 n3 c4, .slice A6 n7 c8, .slice A10 n11 c12]] : List Ent)) := perm_of_idx [] [0] rfl rfl (by kernel_rfl)
                  refine Calls.mono (first_Of_calls w1940 (Fl ([] : List Snap)) x1 x14 r1858 A2 n3 c4 A6 n7 c8 A10 n11 c12 A15 n16 c17 (Rw.mono h5 (hL1941.toSt hp1942 (me 1 rfl))) (Rw.mono h9 (hL1941.toSt hp1942 (me 1 rfl))) (Rw.mono h13 (hL1941.toSt hp1942 (me 1 rfl))) (Rw.mono h18 (hL1941.toSt hp1942 (me 1 rfl))) (hL1941.hFl (Sl := ([] : List Snap)) hp1942 (sels [] rfl)) (hL1941.into hp1942 (Fl ([] : List Snap))) r1866 hv1867) ?_
                  rintro _ w1943 ⟨rfl, hM1944⟩
                  have hL1945 := hL1941.call hp1942 hM1944
                  refine ⟨_, _, _, rfl, hL1945, ?_⟩
                  refine ⟨sels [0] rfl, sels [0, 1] rfl, ?_⟩
                  refine wf_v 8 rfl (v_bin rfl rfl rfl) gn rfl hns (by kernel_rfl) (by kernel_rfl) rfl rfl ?_
                  refine wf_v 9 rfl (v_move rfl) gn rfl hns (by kernel_rfl) (by kernel_rfl) rfl rfl ?_
                  refine wf_bool 65 rfl ((eqi hp1871)) ?_
                  refine wf_v 10 rfl (v_ldB [.slice A2 n3 c4, .slice A6 n7 c8, .slice A10 n11 c12] 0 ld_26 rfl rfl rfl rfl) (gy 65 rfl rfl) rfl hns (by kernel_rfl) (by kernel_rfl) rfl rfl ?_
                  refine wf_v 11 rfl (v_move rfl) (gy 65 rfl rfl) rfl hns (by kernel_rfl) (by kernel_rfl) rfl rfl ?_
                  refine wf_v 13 rfl (v_move rfl) (gy 65 rfl rfl) rfl hns (by kernel_rfl) (by kernel_rfl) rfl rfl ?_
                  refine wf_all [12] (by kernel_rfl) rfl ⟨on_s 12 rfl (gy 65 rfl rfl) rfl (s_call [.agg #[.slice A2 n3 c4, .slice A6 n7 c8, .slice A10 n11 c12], .slice none 0 0, .int .u64 x24] rfl Try.func13 rfl rfl rfl fun w1958 hL1959 => ?_), trivial⟩
                  have hp1960 : List.Perm ([.box gb25 26 [.slice A2 n3 c4, .slice A6 n7 c8, .slice A10 n11 c12]] : List Ent) (([] : List Ent) ++ ([.box gb25 26 [.slice A2 n3 c4, .slice A6 n7 c8, .slice A10 n11 c12]] : List Ent)) := perm_of_idx [] [0] rfl rfl (by kernel_rfl)
                  refine Calls.mono (first_Of_calls w1958 (Fl ([] : List Snap)) x1 ([] : List api_Ref) x24 A2 n3 c4 A6 n7 c8 A10 n11 c12 none 0 0 (Rw.mono h5 (hL1959.toSt hp1960 (me 1 rfl))) (Rw.mono h9 (hL1959.toSt hp1960 (me 1 rfl))) (Rw.mono h13 (hL1959.toSt hp1960 (me 1 rfl))) Rw.nil (hL1959.hFl (Sl := ([] : List Snap)) hp1960 (sels [] rfl)) (hL1959.into hp1960 (Fl ([] : List Snap))) r1875 hv1876) ?_
                  rintro _ w1961 ⟨rfl, hM1962⟩
                  have hL1963 := hL1959.call hp1960 hM1962
                  refine ⟨_, _, _, rfl, hL1963, ?_⟩
                  refine ⟨sels [0] rfl, sels [0, 1] rfl, ?_⟩
                  refine wf_v 14 rfl (v_bin rfl rfl rfl) (gy 65 rfl rfl) rfl hns (by kernel_rfl) (by kernel_rfl) rfl rfl ?_
                  refine wf_v 15 rfl (v_pick (b := true) rfl rfl) gn rfl hns (by kernel_rfl) (by kernel_rfl) rfl rfl ?_
                  refine wf_v 16 rfl (v_assign rfl) gn rfl hns (by kernel_rfl) (by kernel_rfl) rfl rfl ?_
                  refine wf_end (by kernel_rfl) ?_
                  have h := Out.inr hO2 h
                  have h := Out.inr hO1 h
                  refine g_retR (c := trellislaw11_FirstCuts_c52) [.bool (r1875 == x24)] rfl Try.func7 rfl (.tmp rfl (.nil)) fun wr hLr => ?_
                  have hMr : B.Loc w wr [] [St w []] := hLr.pick (rest := [.box gb25 26 [.slice A2 n3 c4, .slice A6 n7 c8, .slice A10 n11 c12]]) (perm_of_idx [] [0] rfl rfl (by kernel_rfl)) (sels [1] rfl)
                  have hMi : ∀ e ∈ ([] : List Ent), e ∈ ([.box gb25 26 [.slice A2 n3 c4, .slice A6 n7 c8, .slice A10 n11 c12]] : List Ent) := sels [] rfl
                  show trellislaw11_FirstCuts_R w F  r (.returned (packV [.bool (r1875 == x24)])) wr
                  rw [h]
                  exact ⟨rfl, hMr⟩
                · have h := if_neg' hp1871 h
                  have hns : Region.noSelect (Code.ops trellislaw11_FirstCuts_c51) = true := by kernel_rfl
                  refine g_drawF (c := trellislaw11_FirstCuts_c51) [.box gb25 26 [.slice A2 n3 c4, .slice A6 n7 c8, .slice A10 n11 c12]] [Sm w.heap.size F w [], St w []] [] 17 rfl rfl mix rfl (.cons_cons _ (.slnil)) (sels [0, 1] rfl) ?_
                  refine wf_v 0 rfl (v_move rfl) gn rfl hns (by kernel_rfl) (by kernel_rfl) rfl rfl ?_
                  refine wf_v 1 rfl (v_ldB [.slice A2 n3 c4, .slice A6 n7 c8, .slice A10 n11 c12] 0 ld_26 rfl rfl rfl rfl) gn rfl hns (by kernel_rfl) (by kernel_rfl) rfl rfl ?_
                  refine wf_v 2 rfl (v_move rfl) gn rfl hns (by kernel_rfl) (by kernel_rfl) rfl rfl ?_
                  refine wf_v 3 rfl (v_ldB [.slice A2 n3 c4, .slice A6 n7 c8, .slice A10 n11 c12] 0 ld_26 rfl rfl rfl rfl) gn rfl hns (by kernel_rfl) (by kernel_rfl) rfl rfl ?_
                  refine wf_v 4 rfl (v_move rfl) gn rfl hns (by kernel_rfl) (by kernel_rfl) rfl rfl ?_
                  refine wf_v 5 rfl (v_move rfl) gn rfl hns (by kernel_rfl) (by kernel_rfl) rfl rfl ?_
                  refine wf_all [6] (by kernel_rfl) rfl ⟨on_s 6 rfl gn rfl (s_call [.agg #[.slice A2 n3 c4, .slice A6 n7 c8, .slice A10 n11 c12], .slice A20 n21 c22, .int .u64 x24] rfl Try.func13 rfl rfl rfl fun w1994 hL1995 => ?_), trivial⟩
                  have hp1996 : List.Perm ([.box gb25 26 [.slice A2 n3 c4, .slice A6 n7 c8, .slice A10 n11 c12]] : List Ent) (([] : List Ent) ++ ([.box gb25 26 [.slice A2 n3 c4, .slice A6 n7 c8, .slice A10 n11 c12]] : List Ent)) := perm_of_idx [] [0] rfl rfl (by kernel_rfl)
                  refine Calls.mono (first_Of_calls w1994 (Fl ([] : List Snap)) x1 x19 x24 A2 n3 c4 A6 n7 c8 A10 n11 c12 A20 n21 c22 (Rw.mono h5 (hL1995.toSt hp1996 (me 1 rfl))) (Rw.mono h9 (hL1995.toSt hp1996 (me 1 rfl))) (Rw.mono h13 (hL1995.toSt hp1996 (me 1 rfl))) (Rw.mono h23 (hL1995.toSt hp1996 (me 1 rfl))) (hL1995.hFl (Sl := ([] : List Snap)) hp1996 (sels [] rfl)) (hL1995.into hp1996 (Fl ([] : List Snap))) r1858 hv1859) ?_
                  rintro _ w1997 ⟨rfl, hM1998⟩
                  have hL1999 := hL1995.call hp1996 hM1998
                  refine ⟨_, _, _, rfl, hL1999, ?_⟩
                  refine ⟨sels [0] rfl, sels [0, 1] rfl, ?_⟩
                  refine wf_all [7] (by kernel_rfl) rfl ⟨on_s 7 rfl gn rfl (s_call [.agg #[.slice A2 n3 c4, .slice A6 n7 c8, .slice A10 n11 c12], .slice A15 n16 c17, .int .u64 r1858] rfl Try.func13 rfl rfl rfl fun w2006 hL2007 => ?_), trivial⟩
                  have hp2008 : List.Perm ([.box gb25 26 [.slice A2 n3 c4, .slice A6 n7 c8, .slice A10 n11 c12]] : List Ent) (([] : List Ent) ++ ([.box gb25 26 [.slice A2 n3 c4, .slice A6 n7 c8, .slice A10 n11 c12]] : List Ent)) := perm_of_idx [] [0] rfl rfl (by kernel_rfl)
                  refine Calls.mono (first_Of_calls w2006 (Fl ([] : List Snap)) x1 x14 r1858 A2 n3 c4 A6 n7 c8 A10 n11 c12 A15 n16 c17 (Rw.mono h5 (hL2007.toSt hp2008 (me 1 rfl))) (Rw.mono h9 (hL2007.toSt hp2008 (me 1 rfl))) (Rw.mono h13 (hL2007.toSt hp2008 (me 1 rfl))) (Rw.mono h18 (hL2007.toSt hp2008 (me 1 rfl))) (hL2007.hFl (Sl := ([] : List Snap)) hp2008 (sels [] rfl)) (hL2007.into hp2008 (Fl ([] : List Snap))) r1866 hv1867) ?_
                  rintro _ w2009 ⟨rfl, hM2010⟩
                  have hL2011 := hL2007.call hp2008 hM2010
                  refine ⟨_, _, _, rfl, hL2011, ?_⟩
                  refine ⟨sels [0] rfl, sels [0, 1] rfl, ?_⟩
                  refine wf_v 8 rfl (v_bin rfl rfl rfl) gn rfl hns (by kernel_rfl) (by kernel_rfl) rfl rfl ?_
                  refine wf_v 9 rfl (v_move rfl) gn rfl hns (by kernel_rfl) (by kernel_rfl) rfl rfl ?_
                  refine wf_bool 65 rfl ((nei hp1871)) ?_
                  refine wf_pass 10 rfl (ps 65 rfl rfl rfl) hns (by kernel_rfl) (by kernel_rfl) rfl rfl ?_
                  refine wf_pass 11 rfl (ps 65 rfl rfl rfl) hns (by kernel_rfl) (by kernel_rfl) rfl rfl ?_
                  refine wf_pass 12 rfl (ps 65 rfl rfl rfl) hns (by kernel_rfl) (by kernel_rfl) rfl rfl ?_
                  refine wf_pass 13 rfl (ps 65 rfl rfl rfl) hns (by kernel_rfl) (by kernel_rfl) rfl rfl ?_
                  refine wf_pass 14 rfl (ps 65 rfl rfl rfl) hns (by kernel_rfl) (by kernel_rfl) rfl rfl ?_
                  refine wf_v 15 rfl (v_pick (b := false) rfl rfl) gn rfl hns (by kernel_rfl) (by kernel_rfl) rfl rfl ?_
                  refine wf_v 16 rfl (v_assign rfl) gn rfl hns (by kernel_rfl) (by kernel_rfl) rfl rfl ?_
                  refine wf_end (by kernel_rfl) ?_
                  have h := Out.inr hO2 h
                  have h := Out.inr hO1 h
                  refine g_retR (c := trellislaw11_FirstCuts_c52) [.bool false] rfl Try.func7 rfl (.tmp rfl (.nil)) fun wr hLr => ?_
                  have hMr : B.Loc w wr [] [St w []] := hLr.pick (rest := [.box gb25 26 [.slice A2 n3 c4, .slice A6 n7 c8, .slice A10 n11 c12]]) (perm_of_idx [] [0] rfl rfl (by kernel_rfl)) (sels [1] rfl)
                  have hMi : ∀ e ∈ ([] : List Ent), e ∈ ([.box gb25 26 [.slice A2 n3 c4, .slice A6 n7 c8, .slice A10 n11 c12]] : List Ent) := sels [] rfl
                  show trellislaw11_FirstCuts_R w F  r (.returned (packV [.bool false])) wr
                  rw [h]
                  exact ⟨rfl, hMr⟩
            refine g_region (c := trellislaw11_FirstCuts_c45) rfl rfl ?_
            refine wl_v 0 rfl (v_ldB [.slice A2 n3 c4, .slice A6 n7 c8, .slice A10 n11 c12] 1 ld_26 rfl rfl rfl rfl) gn rfl ?_
            obtain ⟨r2015, hv2016, h⟩ := h
            refine wl_s 1 rfl (s_call [.agg #[.slice A2 n3 c4, .slice A6 n7 c8, .slice A10 n11 c12]] rfl Try.func23 rfl rfl rfl fun w2012 hL2013 => ?_) gn
            have hp2014 : List.Perm ([.own (.slice A1596 n1597 c1598) 36 3 n1597 (x1595.flatMap enc_api_Ref), .box gb25 26 [.slice A2 n3 c4, .slice A6 n7 c8, .slice A10 n11 c12]] : List Ent) (([] : List Ent) ++ ([.own (.slice A1596 n1597 c1598) 36 3 n1597 (x1595.flatMap enc_api_Ref), .box gb25 26 [.slice A2 n3 c4, .slice A6 n7 c8, .slice A10 n11 c12]] : List Ent)) := perm_of_idx [] [0, 1] rfl rfl (by kernel_rfl)
            refine Calls.mono (trellislaw11_sound_calls w2012 (Fl ([] : List Snap)) x1 A2 n3 c4 A6 n7 c8 A10 n11 c12 (Rw.mono h5 (hL2013.toSt hp2014 (me 1 rfl))) (Rw.mono h9 (hL2013.toSt hp2014 (me 1 rfl))) (Rw.mono h13 (hL2013.toSt hp2014 (me 1 rfl))) (hL2013.hFl (Sl := ([] : List Snap)) hp2014 (sels [] rfl)) (hL2013.into hp2014 (Fl ([] : List Snap))) r2015 hv2016) ?_
            rintro _ w2017 ⟨rfl, hM2018⟩
            have hL2019 := hL2013.call hp2014 hM2018
            refine ⟨_, _, _, rfl, hL2019, ?_⟩
            refine wl_v 2 rfl (v_not rfl) gn rfl ?_
            refine wl_v 3 rfl (v_move rfl) gn rfl ?_
            by_cases hp2020 : r2015 = true
            · have h := if_pos' hp2020 h
              refine w_bool 48 rfl ((nf hp2020)) ?_
              refine wl_v 4 rfl (v_ldB [.slice A2 n3 c4, .slice A6 n7 c8, .slice A10 n11 c12] 1 ld_26 rfl rfl rfl rfl) (gy 48 rfl rfl) rfl ?_
              refine wl_v 5 rfl (v_move rfl) (gy 48 rfl rfl) rfl ?_
              obtain ⟨r2024, hv2025, h⟩ := h
              refine wl_s 6 rfl (s_call [.agg #[.slice A2 n3 c4, .slice A6 n7 c8, .slice A10 n11 c12], .slice A1596 n1597 c1598] rfl Try.func25 rfl rfl rfl fun w2021 hL2022 => ?_) (gy 48 rfl rfl)
              have hp2023 : List.Perm ([.own (.slice A1596 n1597 c1598) 36 3 n1597 (x1595.flatMap enc_api_Ref), .box gb25 26 [.slice A2 n3 c4, .slice A6 n7 c8, .slice A10 n11 c12]] : List Ent) (([] : List Ent) ++ ([.own (.slice A1596 n1597 c1598) 36 3 n1597 (x1595.flatMap enc_api_Ref), .box gb25 26 [.slice A2 n3 c4, .slice A6 n7 c8, .slice A10 n11 c12]] : List Ent)) := perm_of_idx [] [0, 1] rfl rfl (by kernel_rfl)
              refine Calls.mono (trellislaw11_symbols_calls w2021 (Fl ([] : List Snap)) x1 x1595 A2 n3 c4 A6 n7 c8 A10 n11 c12 A1596 n1597 c1598 (Rw.mono h5 (hL2022.toSt hp2023 (me 1 rfl))) (Rw.mono h9 (hL2022.toSt hp2023 (me 1 rfl))) (Rw.mono h13 (hL2022.toSt hp2023 (me 1 rfl))) (hL2022.argO (dk := k_api_Ref) hp2023 [] rfl 0 rfl rfl h1599 (me 0 rfl) (Cells.flat _)) (hL2022.hFl (Sl := ([] : List Snap)) hp2023 (sels [] rfl)) (hL2022.into hp2023 (Fl ([] : List Snap))) r2024 hv2025) ?_
              rintro _ w2026 ⟨rfl, hM2027⟩
              have hL2028 := hL2022.call hp2023 hM2027
              refine ⟨_, _, _, rfl, hL2028, ?_⟩
              refine wl_v 7 rfl (v_not rfl) (gy 48 rfl rfl) rfl ?_
              refine wl_v 8 rfl (v_pick (b := false) rfl rfl) gn rfl ?_
              refine w_end 9 rfl ?_
              exact g_go [0, 1] (j3 (!r2024) h) ⟨rfl, rfl, rfl, rfl, rfl, rfl, trivial⟩ (.cons _ (.cons_cons _ (.slnil))) rfl
            · have h := if_neg' hp2020 h
              refine w_bool 48 rfl ((nt (bf hp2020))) ?_
              refine wl_pass 4 rfl (ps 48 rfl rfl rfl) ?_
              refine wl_pass 5 rfl (ps 48 rfl rfl rfl) ?_
              refine wl_pass 6 rfl (ps 48 rfl rfl rfl) ?_
              refine wl_pass 7 rfl (ps 48 rfl rfl rfl) ?_
              refine wl_v 8 rfl (v_pick (b := true) rfl rfl) gn rfl ?_
              refine w_end 9 rfl ?_
              exact g_go [0, 1] (j3 true h) ⟨rfl, rfl, rfl, rfl, rfl, rfl, trivial⟩ (.cons _ (.cons_cons _ (.slnil))) rfl
        exact g_go [0, 1] (key2 _ h A702 n703 c704 h705) ⟨rfl, rfl, rfl, rfl, rfl, rfl, trivial⟩ (.cons_cons _ (.cons_cons _ (.slnil))) rfl
    refine g_nil 36 3 ?_
    exact g_go [0, 1] (key1 _ h none 0 0 (Ow.nil (z := w.heap.size))) ⟨rfl, rfl, rfl, rfl, rfl, rfl, trivial⟩ (.cons_cons _ (.cons_cons _ (.slnil))) rfl
  · have h := if_neg' hp35 h
    refine g_true (c := trellislaw11_FirstCuts_c6) rfl _ rfl ((nt (bf hp35))) ?_
    refine g_seq (c := trellislaw11_FirstCuts_c7) rfl ?_
    refine g_region (c := trellislaw11_FirstCuts_c53) rfl rfl ?_
    refine wl_v 0 rfl (v_assign rfl) gn rfl ?_
    refine w_end 1 rfl ?_
    refine g_retR (c := trellislaw11_FirstCuts_c54) [.bool false] rfl Try.func7 rfl (.tmp rfl (.nil)) fun wr hLr => ?_
    have hMr : B.Loc w wr [] [St w []] := hLr.pick (rest := [.box gb25 26 [.slice A2 n3 c4, .slice A6 n7 c8, .slice A10 n11 c12]]) (perm_of_idx [] [0] rfl rfl (by kernel_rfl)) (sels [1] rfl)
    have hMi : ∀ e ∈ ([] : List Ent), e ∈ ([.box gb25 26 [.slice A2 n3 c4, .slice A6 n7 c8, .slice A10 n11 c12]] : List Ent) := sels [] rfl
    show trellislaw11_FirstCuts_R w F  r (.returned (packV [.bool false])) wr
    rw [h]
    exact ⟨rfl, hMr⟩
end Go.Proofs.Ytelafghkjlpojaa.K
