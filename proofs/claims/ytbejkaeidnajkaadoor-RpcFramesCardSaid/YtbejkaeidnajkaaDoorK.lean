/- What the machine's calls do, function by function, printed by my own tool. Condition of each: its relation holds of the answer, and what is handed in lies in memory as told. -/
import Derived.Test.YtbejkaeidnajkaaDoorK3
set_option linter.unusedVariables false
set_option maxRecDepth 100000
set_option maxHeartbeats 4000000
namespace Go.Proofs.YtbejkaeidnajkaaDoor.K
open Go.Proofs.YtbejkaeidnajkaaDoor.B Go.Proofs.YtbejkaeidnajkaaDoor.R Go.RowKit
noncomputable abbrev internal_strconv_log10Pow2_c0 : Code := bodyOf Tryd.f31
noncomputable abbrev internal_strconv_log10Pow2_c1 : Code := Code.fst internal_strconv_log10Pow2_c0
noncomputable abbrev internal_strconv_log10Pow2_c2 : Code := Code.snd internal_strconv_log10Pow2_c0
noncomputable abbrev internal_strconv_log10Pow2_c3 : Code := Code.fst internal_strconv_log10Pow2_c2
noncomputable abbrev internal_strconv_log10Pow2_c4 : Code := Code.snd internal_strconv_log10Pow2_c2
abbrev internal_strconv_log10Pow2_R (w : World) (F : Nat → Prop) (r : Int) : Ending → World → Prop := fun e w' => e = .returned (.int .i64 r) ∧ B.Loc w w' [] [St w []]
noncomputable abbrev internal_strconv_log10Pow2_C (w : World) (F : Nat → Prop) (r : Int) : Cx := ⟨Tryd.prog, 31, Tryd.f31, 6, internal_strconv_log10Pow2_R w F  r, w⟩
theorem internal_strconv_log10Pow2_calls (w : World) (F : Nat → Prop) (x1 : Int) (hF : ∀ b, F b → b < w.heap.size ∧ ∀ o ∈ ([] : List (List Nat)), b ∉ o) (hL0 : B.Loc w w [] [Sm w.heap.size F w [], St w []]) (r : Int) (h : internal_strconv_log10Pow2 x1 r) : Calls Tryd.prog 31 #[.int .i64 x1] w (internal_strconv_log10Pow2_R w F  r) := by
  unfold internal_strconv_log10Pow2 at h
  refine calls_of_Loc (vs := [.int .i64 x1]) 6 Tryd.func31 rfl Tryd.ntmps31 rfl hL0 ?_
  show G (internal_strconv_log10Pow2_C w F r) _ _ _ _
  refine g_seq (c := internal_strconv_log10Pow2_c0) rfl ?_
  refine g_region (c := internal_strconv_log10Pow2_c1) rfl rfl ?_
  refine wl_v 0 rfl (v_assign rfl) gn rfl ?_
  refine w_end 1 rfl ?_
  refine g_seq (c := internal_strconv_log10Pow2_c2) rfl ?_
  refine g_region (c := internal_strconv_log10Pow2_c3) rfl rfl ?_
  refine wl_v 0 rfl (v_move rfl) gn rfl ?_
  refine wl_v 1 rfl (v_bin rfl rfl rfl) gn rfl ?_
  refine wl_v 2 rfl (v_shr rfl rfl (by decide)) gn rfl ?_
  refine wl_v 3 rfl (v_assign rfl) gn rfl ?_
  refine w_end 4 rfl ?_
  refine g_retR (c := internal_strconv_log10Pow2_c4) [.int .i64 (shrV .i64 (w64 (x1 * 78913)) 18)] rfl Tryd.func31 rfl (.tmp rfl (.nil)) fun wr hLr => ?_
  have hMr : B.Loc w wr [] [St w []] := hLr.pick (rest := []) (perm_of_idx [] [] rfl rfl (by kernel_rfl)) (sels [1] rfl)
  have hMi : ∀ e ∈ ([] : List Ent), e ∈ ([] : List Ent) := sels [] rfl
  show internal_strconv_log10Pow2_R w F  r (.returned (packV [.int .i64 (shrV .i64 (w64 (x1 * 78913)) 18)])) wr
  rw [h]
  exact ⟨rfl, hMr⟩
noncomputable abbrev internal_strconv_bool2_int_c0 : Code := bodyOf Tryd.f33
noncomputable abbrev internal_strconv_bool2_int_c1 : Code := Code.fst internal_strconv_bool2_int_c0
noncomputable abbrev internal_strconv_bool2_int_c2 : Code := Code.snd internal_strconv_bool2_int_c0
noncomputable abbrev internal_strconv_bool2_int_c3 : Code := Code.fst internal_strconv_bool2_int_c2
noncomputable abbrev internal_strconv_bool2_int_c4 : Code := Code.snd internal_strconv_bool2_int_c2
noncomputable abbrev internal_strconv_bool2_int_c5 : Code := Code.fst internal_strconv_bool2_int_c3
noncomputable abbrev internal_strconv_bool2_int_c6 : Code := Code.snd internal_strconv_bool2_int_c3
noncomputable abbrev internal_strconv_bool2_int_c7 : Code := Code.fst internal_strconv_bool2_int_c6
noncomputable abbrev internal_strconv_bool2_int_c8 : Code := Code.snd internal_strconv_bool2_int_c6
noncomputable abbrev internal_strconv_bool2_int_c9 : Code := Code.fst internal_strconv_bool2_int_c7
noncomputable abbrev internal_strconv_bool2_int_c10 : Code := Code.snd internal_strconv_bool2_int_c7
noncomputable abbrev internal_strconv_bool2_int_c11 : Code := Code.fst internal_strconv_bool2_int_c4
noncomputable abbrev internal_strconv_bool2_int_c12 : Code := Code.snd internal_strconv_bool2_int_c4
abbrev internal_strconv_bool2_int_R (w : World) (F : Nat → Prop) (r : Int) : Ending → World → Prop := fun e w' => e = .returned (.int .i64 r) ∧ B.Loc w w' [] [St w []]
noncomputable abbrev internal_strconv_bool2_int_C (w : World) (F : Nat → Prop) (r : Int) : Cx := ⟨Tryd.prog, 33, Tryd.f33, 4, internal_strconv_bool2_int_R w F  r, w⟩
theorem internal_strconv_bool2_int_calls (w : World) (F : Nat → Prop) (x1 : Bool) (hF : ∀ b, F b → b < w.heap.size ∧ ∀ o ∈ ([] : List (List Nat)), b ∉ o) (hL0 : B.Loc w w [] [Sm w.heap.size F w [], St w []]) (r : Int) (h : internal_strconv_bool2_int x1 r) : Calls Tryd.prog 33 #[.bool x1] w (internal_strconv_bool2_int_R w F  r) := by
  unfold internal_strconv_bool2_int at h
  refine calls_of_Loc (vs := [.bool x1]) 4 Tryd.func33 rfl Tryd.ntmps33 rfl hL0 ?_
  show G (internal_strconv_bool2_int_C w F r) _ _ _ _
  refine g_seq (c := internal_strconv_bool2_int_c0) rfl ?_
  refine g_region (c := internal_strconv_bool2_int_c1) rfl rfl ?_
  refine wl_v 0 rfl (v_assign rfl) gn rfl ?_
  refine w_end 1 rfl ?_
  refine g_seq (c := internal_strconv_bool2_int_c2) rfl ?_
  refine g_seq (c := internal_strconv_bool2_int_c3) rfl ?_
  refine g_region (c := internal_strconv_bool2_int_c5) rfl rfl ?_
  refine wl_v 0 rfl (v_move rfl) gn rfl ?_
  refine w_end 1 rfl ?_
  by_cases hp2 : x1 = true
  · have h := if_pos' hp2 h
    refine g_true (c := internal_strconv_bool2_int_c6) rfl _ rfl (hp2) ?_
    refine g_seq (c := internal_strconv_bool2_int_c7) rfl ?_
    refine g_region (c := internal_strconv_bool2_int_c9) rfl rfl ?_
    refine wl_v 0 rfl (v_assign rfl) gn rfl ?_
    refine w_end 1 rfl ?_
    refine g_retR (c := internal_strconv_bool2_int_c10) [.int .i64 1] rfl Tryd.func33 rfl (.tmp rfl (.nil)) fun wr hLr => ?_
    have hMr : B.Loc w wr [] [St w []] := hLr.pick (rest := []) (perm_of_idx [] [] rfl rfl (by kernel_rfl)) (sels [1] rfl)
    have hMi : ∀ e ∈ ([] : List Ent), e ∈ ([] : List Ent) := sels [] rfl
    show internal_strconv_bool2_int_R w F  r (.returned (packV [.int .i64 1])) wr
    rw [h]
    exact ⟨rfl, hMr⟩
  · have h := if_neg' hp2 h
    refine g_false (c := internal_strconv_bool2_int_c6) rfl _ rfl ((bf hp2)) ?_
    refine g_skip (c := internal_strconv_bool2_int_c8) rfl ?_
    refine g_seq (c := internal_strconv_bool2_int_c4) rfl ?_
    refine g_region (c := internal_strconv_bool2_int_c11) rfl rfl ?_
    refine wl_v 0 rfl (v_assign rfl) gn rfl ?_
    refine w_end 1 rfl ?_
    refine g_retR (c := internal_strconv_bool2_int_c12) [.int .i64 0] rfl Tryd.func33 rfl (.tmp rfl (.nil)) fun wr hLr => ?_
    have hMr : B.Loc w wr [] [St w []] := hLr.pick (rest := []) (perm_of_idx [] [] rfl rfl (by kernel_rfl)) (sels [1] rfl)
    have hMi : ∀ e ∈ ([] : List Ent), e ∈ ([] : List Ent) := sels [] rfl
    show internal_strconv_bool2_int_R w F  r (.returned (packV [.int .i64 0])) wr
    rw [h]
    exact ⟨rfl, hMr⟩
noncomputable abbrev internal_strconv_isPowerOfTwo_c0 : Code := bodyOf Tryd.f34
noncomputable abbrev internal_strconv_isPowerOfTwo_c1 : Code := Code.fst internal_strconv_isPowerOfTwo_c0
noncomputable abbrev internal_strconv_isPowerOfTwo_c2 : Code := Code.snd internal_strconv_isPowerOfTwo_c0
noncomputable abbrev internal_strconv_isPowerOfTwo_c3 : Code := Code.fst internal_strconv_isPowerOfTwo_c2
noncomputable abbrev internal_strconv_isPowerOfTwo_c4 : Code := Code.snd internal_strconv_isPowerOfTwo_c2
abbrev internal_strconv_isPowerOfTwo_R (w : World) (F : Nat → Prop) (r : Bool) : Ending → World → Prop := fun e w' => e = .returned (.bool r) ∧ B.Loc w w' [] [St w []]
noncomputable abbrev internal_strconv_isPowerOfTwo_C (w : World) (F : Nat → Prop) (r : Bool) : Cx := ⟨Tryd.prog, 34, Tryd.f34, 8, internal_strconv_isPowerOfTwo_R w F  r, w⟩
theorem internal_strconv_isPowerOfTwo_calls (w : World) (F : Nat → Prop) (x1 : Int) (hF : ∀ b, F b → b < w.heap.size ∧ ∀ o ∈ ([] : List (List Nat)), b ∉ o) (hL0 : B.Loc w w [] [Sm w.heap.size F w [], St w []]) (r : Bool) (h : internal_strconv_isPowerOfTwo x1 r) : Calls Tryd.prog 34 #[.int .i64 x1] w (internal_strconv_isPowerOfTwo_R w F  r) := by
  unfold internal_strconv_isPowerOfTwo at h
  refine calls_of_Loc (vs := [.int .i64 x1]) 8 Tryd.func34 rfl Tryd.ntmps34 rfl hL0 ?_
  show G (internal_strconv_isPowerOfTwo_C w F r) _ _ _ _
  refine g_seq (c := internal_strconv_isPowerOfTwo_c0) rfl ?_
  refine g_region (c := internal_strconv_isPowerOfTwo_c1) rfl rfl ?_
  refine wl_v 0 rfl (v_assign rfl) gn rfl ?_
  refine w_end 1 rfl ?_
  refine g_seq (c := internal_strconv_isPowerOfTwo_c2) rfl ?_
  refine g_region (c := internal_strconv_isPowerOfTwo_c3) rfl rfl ?_
  refine wl_v 0 rfl (v_move rfl) gn rfl ?_
  refine wl_v 1 rfl (v_move rfl) gn rfl ?_
  refine wl_v 2 rfl (v_bin rfl rfl rfl) gn rfl ?_
  refine wl_v 3 rfl (v_bin rfl rfl rfl) gn rfl ?_
  refine wl_v 4 rfl (v_bin rfl rfl rfl) gn rfl ?_
  refine wl_v 5 rfl (v_assign rfl) gn rfl ?_
  refine w_end 6 rfl ?_
  refine g_retR (c := internal_strconv_isPowerOfTwo_c4) [.bool ((bits .and .i64 x1 (w64 (x1 - 1))) == 0)] rfl Tryd.func34 rfl (.tmp rfl (.nil)) fun wr hLr => ?_
  have hMr : B.Loc w wr [] [St w []] := hLr.pick (rest := []) (perm_of_idx [] [] rfl rfl (by kernel_rfl)) (sels [1] rfl)
  have hMi : ∀ e ∈ ([] : List Ent), e ∈ ([] : List Ent) := sels [] rfl
  show internal_strconv_isPowerOfTwo_R w F  r (.returned (packV [.bool ((bits .and .i64 x1 (w64 (x1 - 1))) == 0)])) wr
  rw [h]
  exact ⟨rfl, hMr⟩
end Go.Proofs.YtbejkaeidnajkaaDoor.K
