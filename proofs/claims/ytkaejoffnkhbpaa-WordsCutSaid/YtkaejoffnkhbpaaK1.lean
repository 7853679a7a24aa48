/- What the machine's calls do, function by function, printed by my own tool. Condition of each: its relation holds of the answer, and what is handed in lies in memory as told. -/
import Derived.Test.YtkaejoffnkhbpaaK0
set_option linter.unusedVariables false
set_option maxRecDepth 100000
namespace Go.Proofs.Ytkaejoffnkhbpaa.K
open Go.Proofs.Ytkaejoffnkhbpaa.B Go.Proofs.Ytkaejoffnkhbpaa.R Go.RowKit
noncomputable abbrev words_blank_c0 : Code := bodyOf Try.f7
noncomputable abbrev words_blank_c1 : Code := Code.fst words_blank_c0
noncomputable abbrev words_blank_c2 : Code := Code.snd words_blank_c0
noncomputable abbrev words_blank_c3 : Code := Code.fst words_blank_c2
noncomputable abbrev words_blank_c4 : Code := Code.snd words_blank_c2
abbrev words_blank_R (w : World) (F : Nat → Prop) (r : Bool) : Ending → World → Prop := fun e w' => e = .returned (.bool r) ∧ Below w.heap.size w w'
noncomputable abbrev words_blank_C (w : World) (F : Nat → Prop) (r : Bool) : Cx := ⟨Try.prog, 7, Try.f7, 17, words_blank_R w F r, w⟩
theorem words_blank_calls {w : World} {F : Nat → Prop} (hF : ∀ b, F b → b < w.heap.size) (x1 : Int) (r : Bool) (h : words_blank x1 r) : Calls Try.prog 7 #[.int .u8 x1] w (words_blank_R w F r) := by
  unfold words_blank at h
  refine calls_of_G (vs := [.int .u8 x1]) 17 Try.func7 rfl Try.ntmps7 rfl F ?_
  show G (words_blank_C w F r) _ _ _ _
  refine g_seq (c := words_blank_c0) rfl ?_
  refine g_region (c := words_blank_c1) rfl rfl ?_
  refine wl_v 0 rfl (v_assign rfl) gn rfl ?_
  refine w_end 1 rfl ?_
  refine g_seq (c := words_blank_c2) rfl ?_
  refine g_region (c := words_blank_c3) rfl rfl ?_
  refine wl_v 0 rfl (v_move rfl) gn rfl ?_
  refine wl_v 1 rfl (v_bin rfl rfl rfl) gn rfl ?_
  refine wl_v 2 rfl (v_move rfl) gn rfl ?_
  by_cases hp2 : x1 = 32
  · have h := if_pos' hp2 h
    refine w_bool 5 rfl ((eqi hp2)) ?_
    refine wl_pass 3 rfl (ps 5 rfl rfl rfl) ?_
    refine wl_pass 4 rfl (ps 5 rfl rfl rfl) ?_
    refine wl_v 5 rfl (v_pick (b := true) rfl rfl) gn rfl ?_
    refine wl_v 6 rfl (v_move rfl) gn rfl ?_
    refine wl_pass 7 rfl (ps 9 rfl rfl rfl) ?_
    refine wl_pass 8 rfl (ps 9 rfl rfl rfl) ?_
    refine wl_v 9 rfl (v_pick (b := true) rfl rfl) gn rfl ?_
    refine wl_v 10 rfl (v_move rfl) gn rfl ?_
    refine wl_pass 11 rfl (ps 13 rfl rfl rfl) ?_
    refine wl_pass 12 rfl (ps 13 rfl rfl rfl) ?_
    refine wl_v 13 rfl (v_pick (b := true) rfl rfl) gn rfl ?_
    refine wl_v 14 rfl (v_assign rfl) gn rfl ?_
    refine w_end 15 rfl ?_
    refine g_retR (c := words_blank_c4) [.bool true] rfl Try.func7 rfl (.tmp rfl (.nil)) fun wr hLr => ?_
    show words_blank_R w F r (.returned (packV [.bool true])) wr
    rw [h]
    exact ⟨rfl, hLr.below (me 1 rfl)⟩
  · have h := if_neg' hp2 h
    refine w_bool 5 rfl ((nei hp2)) ?_
    refine wl_v 3 rfl (v_move rfl) (gy 5 rfl rfl) rfl ?_
    refine wl_v 4 rfl (v_bin rfl rfl rfl) (gy 5 rfl rfl) rfl ?_
    refine wl_v 5 rfl (v_pick (b := false) rfl rfl) gn rfl ?_
    refine wl_v 6 rfl (v_move rfl) gn rfl ?_
    by_cases hp3 : x1 = 9
    · have h := if_pos' hp3 h
      refine w_bool 9 rfl ((eqi hp3)) ?_
      refine wl_pass 7 rfl (ps 9 rfl rfl rfl) ?_
      refine wl_pass 8 rfl (ps 9 rfl rfl rfl) ?_
      refine wl_v 9 rfl (v_pick (b := true) rfl rfl) gn rfl ?_
      refine wl_v 10 rfl (v_move rfl) gn rfl ?_
      refine wl_pass 11 rfl (ps 13 rfl rfl rfl) ?_
      refine wl_pass 12 rfl (ps 13 rfl rfl rfl) ?_
      refine wl_v 13 rfl (v_pick (b := true) rfl rfl) gn rfl ?_
      refine wl_v 14 rfl (v_assign rfl) gn rfl ?_
      refine w_end 15 rfl ?_
      refine g_retR (c := words_blank_c4) [.bool true] rfl Try.func7 rfl (.tmp rfl (.nil)) fun wr hLr => ?_
      show words_blank_R w F r (.returned (packV [.bool true])) wr
      rw [h]
      exact ⟨rfl, hLr.below (me 1 rfl)⟩
    · have h := if_neg' hp3 h
      refine w_bool 9 rfl ((nei hp3)) ?_
      refine wl_v 7 rfl (v_move rfl) (gy 9 rfl rfl) rfl ?_
      refine wl_v 8 rfl (v_bin rfl rfl rfl) (gy 9 rfl rfl) rfl ?_
      refine wl_v 9 rfl (v_pick (b := false) rfl rfl) gn rfl ?_
      refine wl_v 10 rfl (v_move rfl) gn rfl ?_
      by_cases hp4 : x1 = 13
      · have h := if_pos' hp4 h
        refine w_bool 13 rfl ((eqi hp4)) ?_
        refine wl_pass 11 rfl (ps 13 rfl rfl rfl) ?_
        refine wl_pass 12 rfl (ps 13 rfl rfl rfl) ?_
        refine wl_v 13 rfl (v_pick (b := true) rfl rfl) gn rfl ?_
        refine wl_v 14 rfl (v_assign rfl) gn rfl ?_
        refine w_end 15 rfl ?_
        refine g_retR (c := words_blank_c4) [.bool true] rfl Try.func7 rfl (.tmp rfl (.nil)) fun wr hLr => ?_
        show words_blank_R w F r (.returned (packV [.bool true])) wr
        rw [h]
        exact ⟨rfl, hLr.below (me 1 rfl)⟩
      · have h := if_neg' hp4 h
        refine w_bool 13 rfl ((nei hp4)) ?_
        refine wl_v 11 rfl (v_move rfl) (gy 13 rfl rfl) rfl ?_
        refine wl_v 12 rfl (v_bin rfl rfl rfl) (gy 13 rfl rfl) rfl ?_
        refine wl_v 13 rfl (v_pick (b := false) rfl rfl) gn rfl ?_
        refine wl_v 14 rfl (v_assign rfl) gn rfl ?_
        refine w_end 15 rfl ?_
        refine g_retR (c := words_blank_c4) [.bool (x1 == 10)] rfl Try.func7 rfl (.tmp rfl (.nil)) fun wr hLr => ?_
        show words_blank_R w F r (.returned (packV [.bool (x1 == 10)])) wr
        rw [h]
        exact ⟨rfl, hLr.below (me 1 rfl)⟩
noncomputable abbrev words_letter_c0 : Code := bodyOf Try.f8
noncomputable abbrev words_letter_c1 : Code := Code.fst words_letter_c0
noncomputable abbrev words_letter_c2 : Code := Code.snd words_letter_c0
noncomputable abbrev words_letter_c3 : Code := Code.fst words_letter_c2
noncomputable abbrev words_letter_c4 : Code := Code.snd words_letter_c2
abbrev words_letter_R (w : World) (F : Nat → Prop) (r : Bool) : Ending → World → Prop := fun e w' => e = .returned (.bool r) ∧ Below w.heap.size w w'
noncomputable abbrev words_letter_C (w : World) (F : Nat → Prop) (r : Bool) : Cx := ⟨Try.prog, 8, Try.f8, 21, words_letter_R w F r, w⟩
theorem words_letter_calls {w : World} {F : Nat → Prop} (hF : ∀ b, F b → b < w.heap.size) (x1 : Int) (r : Bool) (h : words_letter x1 r) : Calls Try.prog 8 #[.int .u8 x1] w (words_letter_R w F r) := by
  unfold words_letter at h
  refine calls_of_G (vs := [.int .u8 x1]) 21 Try.func8 rfl Try.ntmps8 rfl F ?_
  show G (words_letter_C w F r) _ _ _ _
  refine g_seq (c := words_letter_c0) rfl ?_
  refine g_region (c := words_letter_c1) rfl rfl ?_
  refine wl_v 0 rfl (v_assign rfl) gn rfl ?_
  refine w_end 1 rfl ?_
  refine g_seq (c := words_letter_c2) rfl ?_
  refine g_region (c := words_letter_c3) rfl rfl ?_
  refine wl_v 0 rfl (v_move rfl) gn rfl ?_
  refine wl_v 1 rfl (v_bin rfl rfl rfl) gn rfl ?_
  refine wl_v 2 rfl (v_move rfl) gn rfl ?_
  by_cases hp2 : x1 ≥ 97
  · have h := if_pos' hp2 h
    refine w_bool 5 rfl ((decide_eq_true hp2)) ?_
    refine wl_v 3 rfl (v_move rfl) (gy 5 rfl rfl) rfl ?_
    refine wl_v 4 rfl (v_bin rfl rfl rfl) (gy 5 rfl rfl) rfl ?_
    refine wl_v 5 rfl (v_pick (b := true) rfl rfl) gn rfl ?_
    refine wl_v 6 rfl (v_move rfl) gn rfl ?_
    by_cases hp3 : x1 ≤ 122
    · have h := if_pos' hp3 h
      refine w_bool 9 rfl ((decide_eq_true hp3)) ?_
      refine wl_pass 7 rfl (ps 9 rfl rfl rfl) ?_
      refine wl_pass 8 rfl (ps 9 rfl rfl rfl) ?_
      refine wl_pass 9 rfl (ps 9 rfl rfl rfl) ?_
      refine wl_pass 10 rfl (pu 12 rfl rfl) ?_
      refine wl_pass 11 rfl (pu 12 rfl rfl) ?_
      refine wl_pass 12 rfl (ps 9 rfl rfl rfl) ?_
      refine wl_v 13 rfl (v_pick (b := true) rfl rfl) gn rfl ?_
      refine wl_v 14 rfl (v_move rfl) gn rfl ?_
      refine wl_pass 15 rfl (ps 17 rfl rfl rfl) ?_
      refine wl_pass 16 rfl (ps 17 rfl rfl rfl) ?_
      refine wl_v 17 rfl (v_pick (b := true) rfl rfl) gn rfl ?_
      refine wl_v 18 rfl (v_assign rfl) gn rfl ?_
      refine w_end 19 rfl ?_
      refine g_retR (c := words_letter_c4) [.bool true] rfl Try.func8 rfl (.tmp rfl (.nil)) fun wr hLr => ?_
      show words_letter_R w F r (.returned (packV [.bool true])) wr
      rw [h]
      exact ⟨rfl, hLr.below (me 1 rfl)⟩
    · have h := if_neg' hp3 h
      refine w_bool 9 rfl ((decide_eq_false hp3)) ?_
      refine wl_v 7 rfl (v_move rfl) (gy 9 rfl rfl) rfl ?_
      refine wl_v 8 rfl (v_bin rfl rfl rfl) (gy 9 rfl rfl) rfl ?_
      refine wl_v 9 rfl (v_move rfl) (gy 9 rfl rfl) rfl ?_
      by_cases hp4 : x1 ≥ 65
      · have h := if_pos' hp4 h
        refine w_bool 12 rfl ((decide_eq_true hp4)) ?_
        refine wl_v 10 rfl (v_move rfl) (gy 12 rfl rfl) rfl ?_
        refine wl_v 11 rfl (v_bin rfl rfl rfl) (gy 12 rfl rfl) rfl ?_
        refine wl_v 12 rfl (v_pick (b := true) rfl rfl) (gy 9 rfl rfl) rfl ?_
        refine wl_v 13 rfl (v_pick (b := false) rfl rfl) gn rfl ?_
        refine wl_v 14 rfl (v_move rfl) gn rfl ?_
        by_cases hp5 : x1 ≤ 90
        · have h := if_pos' hp5 h
          refine w_bool 17 rfl ((decide_eq_true hp5)) ?_
          refine wl_pass 15 rfl (ps 17 rfl rfl rfl) ?_
          refine wl_pass 16 rfl (ps 17 rfl rfl rfl) ?_
          refine wl_v 17 rfl (v_pick (b := true) rfl rfl) gn rfl ?_
          refine wl_v 18 rfl (v_assign rfl) gn rfl ?_
          refine w_end 19 rfl ?_
          refine g_retR (c := words_letter_c4) [.bool true] rfl Try.func8 rfl (.tmp rfl (.nil)) fun wr hLr => ?_
          show words_letter_R w F r (.returned (packV [.bool true])) wr
          rw [h]
          exact ⟨rfl, hLr.below (me 1 rfl)⟩
        · have h := if_neg' hp5 h
          refine w_bool 17 rfl ((decide_eq_false hp5)) ?_
          refine wl_v 15 rfl (v_move rfl) (gy 17 rfl rfl) rfl ?_
          refine wl_v 16 rfl (v_bin rfl rfl rfl) (gy 17 rfl rfl) rfl ?_
          refine wl_v 17 rfl (v_pick (b := false) rfl rfl) gn rfl ?_
          refine wl_v 18 rfl (v_assign rfl) gn rfl ?_
          refine w_end 19 rfl ?_
          refine g_retR (c := words_letter_c4) [.bool (x1 == 95)] rfl Try.func8 rfl (.tmp rfl (.nil)) fun wr hLr => ?_
          show words_letter_R w F r (.returned (packV [.bool (x1 == 95)])) wr
          rw [h]
          exact ⟨rfl, hLr.below (me 1 rfl)⟩
      · have h := if_neg' hp4 h
        refine w_bool 12 rfl ((decide_eq_false hp4)) ?_
        refine wl_pass 10 rfl (ps 12 rfl rfl rfl) ?_
        refine wl_pass 11 rfl (ps 12 rfl rfl rfl) ?_
        refine wl_v 12 rfl (v_pick (b := false) rfl rfl) (gy 9 rfl rfl) rfl ?_
        refine wl_v 13 rfl (v_pick (b := false) rfl rfl) gn rfl ?_
        refine wl_v 14 rfl (v_move rfl) gn rfl ?_
        refine wl_v 15 rfl (v_move rfl) (gy 17 rfl rfl) rfl ?_
        refine wl_v 16 rfl (v_bin rfl rfl rfl) (gy 17 rfl rfl) rfl ?_
        refine wl_v 17 rfl (v_pick (b := false) rfl rfl) gn rfl ?_
        refine wl_v 18 rfl (v_assign rfl) gn rfl ?_
        refine w_end 19 rfl ?_
        refine g_retR (c := words_letter_c4) [.bool (x1 == 95)] rfl Try.func8 rfl (.tmp rfl (.nil)) fun wr hLr => ?_
        show words_letter_R w F r (.returned (packV [.bool (x1 == 95)])) wr
        rw [h]
        exact ⟨rfl, hLr.below (me 1 rfl)⟩
  · have h := if_neg' hp2 h
    refine w_bool 5 rfl ((decide_eq_false hp2)) ?_
    refine wl_pass 3 rfl (ps 5 rfl rfl rfl) ?_
    refine wl_pass 4 rfl (ps 5 rfl rfl rfl) ?_
    refine wl_v 5 rfl (v_pick (b := false) rfl rfl) gn rfl ?_
    refine wl_v 6 rfl (v_move rfl) gn rfl ?_
    refine wl_v 7 rfl (v_move rfl) (gy 9 rfl rfl) rfl ?_
    refine wl_v 8 rfl (v_bin rfl rfl rfl) (gy 9 rfl rfl) rfl ?_
    refine wl_v 9 rfl (v_move rfl) (gy 9 rfl rfl) rfl ?_
    by_cases hp6 : x1 ≥ 65
    · have h := if_pos' hp6 h
      refine w_bool 12 rfl ((decide_eq_true hp6)) ?_
      refine wl_v 10 rfl (v_move rfl) (gy 12 rfl rfl) rfl ?_
      refine wl_v 11 rfl (v_bin rfl rfl rfl) (gy 12 rfl rfl) rfl ?_
      refine wl_v 12 rfl (v_pick (b := true) rfl rfl) (gy 9 rfl rfl) rfl ?_
      refine wl_v 13 rfl (v_pick (b := false) rfl rfl) gn rfl ?_
      refine wl_v 14 rfl (v_move rfl) gn rfl ?_
      by_cases hp7 : x1 ≤ 90
      · have h := if_pos' hp7 h
        refine w_bool 17 rfl ((decide_eq_true hp7)) ?_
        refine wl_pass 15 rfl (ps 17 rfl rfl rfl) ?_
        refine wl_pass 16 rfl (ps 17 rfl rfl rfl) ?_
        refine wl_v 17 rfl (v_pick (b := true) rfl rfl) gn rfl ?_
        refine wl_v 18 rfl (v_assign rfl) gn rfl ?_
        refine w_end 19 rfl ?_
        refine g_retR (c := words_letter_c4) [.bool true] rfl Try.func8 rfl (.tmp rfl (.nil)) fun wr hLr => ?_
        show words_letter_R w F r (.returned (packV [.bool true])) wr
        rw [h]
        exact ⟨rfl, hLr.below (me 1 rfl)⟩
      · have h := if_neg' hp7 h
        refine w_bool 17 rfl ((decide_eq_false hp7)) ?_
        refine wl_v 15 rfl (v_move rfl) (gy 17 rfl rfl) rfl ?_
        refine wl_v 16 rfl (v_bin rfl rfl rfl) (gy 17 rfl rfl) rfl ?_
        refine wl_v 17 rfl (v_pick (b := false) rfl rfl) gn rfl ?_
        refine wl_v 18 rfl (v_assign rfl) gn rfl ?_
        refine w_end 19 rfl ?_
        refine g_retR (c := words_letter_c4) [.bool (x1 == 95)] rfl Try.func8 rfl (.tmp rfl (.nil)) fun wr hLr => ?_
        show words_letter_R w F r (.returned (packV [.bool (x1 == 95)])) wr
        rw [h]
        exact ⟨rfl, hLr.below (me 1 rfl)⟩
    · have h := if_neg' hp6 h
      refine w_bool 12 rfl ((decide_eq_false hp6)) ?_
      refine wl_pass 10 rfl (ps 12 rfl rfl rfl) ?_
      refine wl_pass 11 rfl (ps 12 rfl rfl rfl) ?_
      refine wl_v 12 rfl (v_pick (b := false) rfl rfl) (gy 9 rfl rfl) rfl ?_
      refine wl_v 13 rfl (v_pick (b := false) rfl rfl) gn rfl ?_
      refine wl_v 14 rfl (v_move rfl) gn rfl ?_
      refine wl_v 15 rfl (v_move rfl) (gy 17 rfl rfl) rfl ?_
      refine wl_v 16 rfl (v_bin rfl rfl rfl) (gy 17 rfl rfl) rfl ?_
      refine wl_v 17 rfl (v_pick (b := false) rfl rfl) gn rfl ?_
      refine wl_v 18 rfl (v_assign rfl) gn rfl ?_
      refine w_end 19 rfl ?_
      refine g_retR (c := words_letter_c4) [.bool (x1 == 95)] rfl Try.func8 rfl (.tmp rfl (.nil)) fun wr hLr => ?_
      show words_letter_R w F r (.returned (packV [.bool (x1 == 95)])) wr
      rw [h]
      exact ⟨rfl, hLr.below (me 1 rfl)⟩
noncomputable abbrev words_digit_c0 : Code := bodyOf Try.f9
noncomputable abbrev words_digit_c1 : Code := Code.fst words_digit_c0
noncomputable abbrev words_digit_c2 : Code := Code.snd words_digit_c0
noncomputable abbrev words_digit_c3 : Code := Code.fst words_digit_c2
noncomputable abbrev words_digit_c4 : Code := Code.snd words_digit_c2
abbrev words_digit_R (w : World) (F : Nat → Prop) (r : Bool) : Ending → World → Prop := fun e w' => e = .returned (.bool r) ∧ Below w.heap.size w w'
noncomputable abbrev words_digit_C (w : World) (F : Nat → Prop) (r : Bool) : Cx := ⟨Try.prog, 9, Try.f9, 9, words_digit_R w F r, w⟩
theorem words_digit_calls {w : World} {F : Nat → Prop} (hF : ∀ b, F b → b < w.heap.size) (x1 : Int) (r : Bool) (h : words_digit x1 r) : Calls Try.prog 9 #[.int .u8 x1] w (words_digit_R w F r) := by
  unfold words_digit at h
  refine calls_of_G (vs := [.int .u8 x1]) 9 Try.func9 rfl Try.ntmps9 rfl F ?_
  show G (words_digit_C w F r) _ _ _ _
  refine g_seq (c := words_digit_c0) rfl ?_
  refine g_region (c := words_digit_c1) rfl rfl ?_
  refine wl_v 0 rfl (v_assign rfl) gn rfl ?_
  refine w_end 1 rfl ?_
  refine g_seq (c := words_digit_c2) rfl ?_
  refine g_region (c := words_digit_c3) rfl rfl ?_
  refine wl_v 0 rfl (v_move rfl) gn rfl ?_
  refine wl_v 1 rfl (v_bin rfl rfl rfl) gn rfl ?_
  refine wl_v 2 rfl (v_move rfl) gn rfl ?_
  by_cases hp2 : x1 ≥ 48
  · have h := if_pos' hp2 h
    refine w_bool 5 rfl ((decide_eq_true hp2)) ?_
    refine wl_v 3 rfl (v_move rfl) (gy 5 rfl rfl) rfl ?_
    refine wl_v 4 rfl (v_bin rfl rfl rfl) (gy 5 rfl rfl) rfl ?_
    refine wl_v 5 rfl (v_pick (b := true) rfl rfl) gn rfl ?_
    refine wl_v 6 rfl (v_assign rfl) gn rfl ?_
    refine w_end 7 rfl ?_
    refine g_retR (c := words_digit_c4) [.bool (decide (x1 ≤ 57))] rfl Try.func9 rfl (.tmp rfl (.nil)) fun wr hLr => ?_
    show words_digit_R w F r (.returned (packV [.bool (decide (x1 ≤ 57))])) wr
    rw [h]
    exact ⟨rfl, hLr.below (me 1 rfl)⟩
  · have h := if_neg' hp2 h
    refine w_bool 5 rfl ((decide_eq_false hp2)) ?_
    refine wl_pass 3 rfl (ps 5 rfl rfl rfl) ?_
    refine wl_pass 4 rfl (ps 5 rfl rfl rfl) ?_
    refine wl_v 5 rfl (v_pick (b := false) rfl rfl) gn rfl ?_
    refine wl_v 6 rfl (v_assign rfl) gn rfl ?_
    refine w_end 7 rfl ?_
    refine g_retR (c := words_digit_c4) [.bool false] rfl Try.func9 rfl (.tmp rfl (.nil)) fun wr hLr => ?_
    show words_digit_R w F r (.returned (packV [.bool false])) wr
    rw [h]
    exact ⟨rfl, hLr.below (me 1 rfl)⟩
noncomputable abbrev internal_stringslite_IndexByte_c0 : Code := bodyOf Try.f16
noncomputable abbrev internal_stringslite_IndexByte_c1 : Code := Code.fst internal_stringslite_IndexByte_c0
noncomputable abbrev internal_stringslite_IndexByte_c2 : Code := Code.snd internal_stringslite_IndexByte_c0
noncomputable abbrev internal_stringslite_IndexByte_c3 : Code := Code.fst internal_stringslite_IndexByte_c2
noncomputable abbrev internal_stringslite_IndexByte_c4 : Code := Code.snd internal_stringslite_IndexByte_c2
abbrev internal_stringslite_IndexByte_R (w : World) (F : Nat → Prop) (r : Int) : Ending → World → Prop := fun e w' => e = .returned (.int .i64 r) ∧ Below w.heap.size w w'
noncomputable abbrev internal_stringslite_IndexByte_C (w : World) (F : Nat → Prop) (r : Int) : Cx := ⟨Try.prog, 16, Try.f16, 8, internal_stringslite_IndexByte_R w F r, w⟩
theorem internal_stringslite_IndexByte_calls {w : World} {F : Nat → Prop} (hF : ∀ b, F b → b < w.heap.size) (x1 : ByteArray) (x2 : Int) (r : Int) (h : internal_stringslite_IndexByte x1 x2 r) : Calls Try.prog 16 #[.string x1, .int .u8 x2] w (internal_stringslite_IndexByte_R w F r) := by
  unfold internal_stringslite_IndexByte at h
  refine calls_of_G (vs := [.string x1, .int .u8 x2]) 8 Try.func16 rfl Try.ntmps16 rfl F ?_
  show G (internal_stringslite_IndexByte_C w F r) _ _ _ _
  refine g_seq (c := internal_stringslite_IndexByte_c0) rfl ?_
  refine g_region (c := internal_stringslite_IndexByte_c1) rfl rfl ?_
  refine wl_v 0 rfl (v_assign rfl) gn rfl ?_
  refine w_end 1 rfl ?_
  refine g_seq (c := internal_stringslite_IndexByte_c2) rfl ?_
  refine g_region (c := internal_stringslite_IndexByte_c3) rfl rfl ?_
  refine wl_v 0 rfl (v_move rfl) gn rfl ?_
  refine wl_v 1 rfl (v_move rfl) gn rfl ?_
  refine wl_v 2 rfl (v_ext [.string x1, .int .u8 x2] rfl Try.func22 rfl rfl (by kernel_rfl) (by kernel_rfl) (fun w => x_indexByteS _ _ w)) gn rfl ?_
  refine wl_v 3 rfl (v_assign rfl) gn rfl ?_
  refine w_end 4 rfl ?_
  refine g_retR (c := internal_stringslite_IndexByte_c4) [.int .i64 (idxB x1 x2)] rfl Try.func16 rfl (.tmp rfl (.nil)) fun wr hLr => ?_
  show internal_stringslite_IndexByte_R w F r (.returned (packV [.int .i64 (idxB x1 x2)])) wr
  rw [h]
  exact ⟨rfl, hLr.below (me 1 rfl)⟩
noncomputable abbrev strings_IndexByte_c0 : Code := bodyOf Try.f10
noncomputable abbrev strings_IndexByte_c1 : Code := Code.fst strings_IndexByte_c0
noncomputable abbrev strings_IndexByte_c2 : Code := Code.snd strings_IndexByte_c0
noncomputable abbrev strings_IndexByte_c3 : Code := Code.fst strings_IndexByte_c2
noncomputable abbrev strings_IndexByte_c4 : Code := Code.snd strings_IndexByte_c2
abbrev strings_IndexByte_R (w : World) (F : Nat → Prop) (r : Int) : Ending → World → Prop := fun e w' => e = .returned (.int .i64 r) ∧ Below w.heap.size w w'
noncomputable abbrev strings_IndexByte_C (w : World) (F : Nat → Prop) (r : Int) : Cx := ⟨Try.prog, 10, Try.f10, 8, strings_IndexByte_R w F r, w⟩
theorem strings_IndexByte_calls {w : World} {F : Nat → Prop} (hF : ∀ b, F b → b < w.heap.size) (x1 : ByteArray) (x2 : Int) (r : Int) (h : strings_IndexByte x1 x2 r) : Calls Try.prog 10 #[.string x1, .int .u8 x2] w (strings_IndexByte_R w F r) := by
  unfold strings_IndexByte at h
  refine calls_of_G (vs := [.string x1, .int .u8 x2]) 8 Try.func10 rfl Try.ntmps10 rfl F ?_
  show G (strings_IndexByte_C w F r) _ _ _ _
  refine g_seq (c := strings_IndexByte_c0) rfl ?_
  refine g_region (c := strings_IndexByte_c1) rfl rfl ?_
  refine wl_v 0 rfl (v_assign rfl) gn rfl ?_
  refine w_end 1 rfl ?_
  refine g_seq (c := strings_IndexByte_c2) rfl ?_
  refine g_region (c := strings_IndexByte_c3) rfl rfl ?_
  refine wl_v 0 rfl (v_move rfl) gn rfl ?_
  refine wl_v 1 rfl (v_move rfl) gn rfl ?_
  obtain ⟨r5, hv6, h⟩ := h
  refine wl_s 2 rfl (s_call [.string x1, .int .u8 x2] rfl Try.func16 rfl rfl rfl fun w3 hL4 => ?_) gn
  refine Calls.mono (internal_stringslite_IndexByte_calls (w := w3) (F := fun b => b < w3.heap.size) (fun b hb => hb) x1 x2 r5 hv6) ?_
  rintro _ w7 ⟨rfl, hbl8⟩
  refine ⟨_, _, _, rfl, hL4.sameB hbl8, ?_⟩
  refine wl_v 3 rfl (v_assign rfl) gn rfl ?_
  refine w_end 4 rfl ?_
  refine g_retR (c := strings_IndexByte_c4) [.int .i64 r5] rfl Try.func10 rfl (.tmp rfl (.nil)) fun wr hLr => ?_
  show strings_IndexByte_R w F r (.returned (packV [.int .i64 r5])) wr
  rw [h]
  exact ⟨rfl, hLr.below (me 1 rfl)⟩
noncomputable abbrev words_hex_c0 : Code := bodyOf Try.f23
noncomputable abbrev words_hex_c1 : Code := Code.fst words_hex_c0
noncomputable abbrev words_hex_c2 : Code := Code.snd words_hex_c0
noncomputable abbrev words_hex_c3 : Code := Code.fst words_hex_c2
noncomputable abbrev words_hex_c4 : Code := Code.snd words_hex_c2
noncomputable abbrev words_hex_c5 : Code := Code.fst words_hex_c3
noncomputable abbrev words_hex_c6 : Code := Code.fst words_hex_c5
noncomputable abbrev words_hex_c7 : Code := Code.snd words_hex_c5
noncomputable abbrev words_hex_c8 : Code := Code.fst words_hex_c7
noncomputable abbrev words_hex_c9 : Code := Code.snd words_hex_c7
noncomputable abbrev words_hex_c10 : Code := Code.fst words_hex_c8
noncomputable abbrev words_hex_c11 : Code := Code.snd words_hex_c8
noncomputable abbrev words_hex_c12 : Code := Code.fst words_hex_c9
noncomputable abbrev words_hex_c13 : Code := Code.snd words_hex_c9
noncomputable abbrev words_hex_c14 : Code := Code.fst words_hex_c13
noncomputable abbrev words_hex_c15 : Code := Code.snd words_hex_c13
noncomputable abbrev words_hex_c16 : Code := Code.fst words_hex_c14
noncomputable abbrev words_hex_c17 : Code := Code.snd words_hex_c14
noncomputable abbrev words_hex_c18 : Code := Code.fst words_hex_c15
noncomputable abbrev words_hex_c19 : Code := Code.snd words_hex_c15
noncomputable abbrev words_hex_c20 : Code := Code.fst words_hex_c19
noncomputable abbrev words_hex_c21 : Code := Code.snd words_hex_c19
noncomputable abbrev words_hex_c22 : Code := Code.fst words_hex_c20
noncomputable abbrev words_hex_c23 : Code := Code.snd words_hex_c20
noncomputable abbrev words_hex_c24 : Code := Code.fst words_hex_c4
noncomputable abbrev words_hex_c25 : Code := Code.snd words_hex_c4
abbrev words_hex_R (w : World) (F : Nat → Prop) (r : Int × Bool) : Ending → World → Prop := fun e w' => e = .returned (.tuple #[.int .u8 r.1, .bool r.2]) ∧ Below w.heap.size w w'
noncomputable abbrev words_hex_C (w : World) (F : Nat → Prop) (r : Int × Bool) : Cx := ⟨Try.prog, 23, Try.f23, 29, words_hex_R w F r, w⟩
theorem words_hex_calls {w : World} {F : Nat → Prop} (hF : ∀ b, F b → b < w.heap.size) (x1 : Int) (r : Int × Bool) (h : words_hex x1 r) : Calls Try.prog 23 #[.int .u8 x1] w (words_hex_R w F r) := by
  unfold words_hex at h
  refine calls_of_G (vs := [.int .u8 x1]) 29 Try.func23 rfl Try.ntmps23 rfl F ?_
  show G (words_hex_C w F r) _ _ _ _
  refine g_seq (c := words_hex_c0) rfl ?_
  refine g_region (c := words_hex_c1) rfl rfl ?_
  refine wl_v 0 rfl (v_assign rfl) gn rfl ?_
  refine wl_v 1 rfl (v_assign rfl) gn rfl ?_
  refine w_end 2 rfl ?_
  refine g_seq (c := words_hex_c2) rfl ?_
  refine g_block (c := words_hex_c3) rfl ?_
  refine g_seq (c := words_hex_c5) rfl ?_
  refine g_region (c := words_hex_c6) rfl rfl ?_
  refine wl_v 0 rfl (v_move rfl) gn rfl ?_
  obtain ⟨r4, hv5, h⟩ := h
  refine wl_s 1 rfl (s_call [.int .u8 x1] rfl Try.func9 rfl rfl rfl fun w2 hL3 => ?_) gn
  refine Calls.mono (words_digit_calls (w := w2) (F := fun b => b < w2.heap.size) (fun b hb => hb) x1 r4 hv5) ?_
  rintro _ w6 ⟨rfl, hbl7⟩
  refine ⟨_, _, _, rfl, hL3.sameB hbl7, ?_⟩
  refine wl_v 2 rfl (v_assign rfl) gn rfl ?_
  refine w_end 3 rfl ?_
  by_cases hp8 : r4 = true
  · have h := if_pos' hp8 h
    refine g_true (c := words_hex_c7) rfl _ rfl (hp8) ?_
    refine g_seq (c := words_hex_c8) rfl ?_
    refine g_region (c := words_hex_c10) rfl rfl ?_
    refine wl_v 0 rfl (v_move rfl) gn rfl ?_
    refine wl_v 1 rfl (v_bin rfl rfl rfl) gn rfl ?_
    refine wl_v 2 rfl (v_assign rfl) gn rfl ?_
    refine wl_v 3 rfl (v_assign rfl) gn rfl ?_
    refine w_end 4 rfl ?_
    refine g_retR (c := words_hex_c11) [.int .u8 (IntKind.u8.wrap (x1 - 48)), .bool true] rfl Try.func23 rfl (.tmp rfl (.tmp rfl (.nil))) fun wr hLr => ?_
    show words_hex_R w F r (.returned (packV [.int .u8 (IntKind.u8.wrap (x1 - 48)), .bool true])) wr
    rw [h]
    exact ⟨rfl, hLr.below (me 1 rfl)⟩
  · have h := if_neg' hp8 h
    refine g_false (c := words_hex_c7) rfl _ rfl ((bf hp8)) ?_
    refine g_seq (c := words_hex_c9) rfl ?_
    have j1 : ∀ (x10 : Bool) (h : words_hex_j1 x1 x10 r) , G (words_hex_C w F r) [.code words_hex_c13, .inBlock 0, .code words_hex_c4] [(0, .int .u8 x1), (9, .bool x10)] [] [Sm w.heap.size F w [], St w []] := by
      intro x10 h
      unfold words_hex_j1 at h
      by_cases hp11 : x10 = true
      · have h := if_pos' hp11 h
        refine g_true (c := words_hex_c13) rfl _ rfl (hp11) ?_
        refine g_seq (c := words_hex_c14) rfl ?_
        refine g_region (c := words_hex_c16) rfl rfl ?_
        refine wl_v 0 rfl (v_move rfl) gn rfl ?_
        refine wl_v 1 rfl (v_bin rfl rfl rfl) gn rfl ?_
        refine wl_v 2 rfl (v_bin rfl rfl rfl) gn rfl ?_
        refine wl_v 3 rfl (v_assign rfl) gn rfl ?_
        refine wl_v 4 rfl (v_assign rfl) gn rfl ?_
        refine w_end 5 rfl ?_
        refine g_retR (c := words_hex_c17) [.int .u8 (IntKind.u8.wrap ((IntKind.u8.wrap (x1 - 97)) + 10)), .bool true] rfl Try.func23 rfl (.tmp rfl (.tmp rfl (.nil))) fun wr hLr => ?_
        show words_hex_R w F r (.returned (packV [.int .u8 (IntKind.u8.wrap ((IntKind.u8.wrap (x1 - 97)) + 10)), .bool true])) wr
        rw [h]
        exact ⟨rfl, hLr.below (me 1 rfl)⟩
      · have h := if_neg' hp11 h
        refine g_false (c := words_hex_c13) rfl _ rfl ((bf hp11)) ?_
        refine g_seq (c := words_hex_c15) rfl ?_
        have j2 : ∀ (x13 : Bool) (h : words_hex_j2 x1 x13 r) , G (words_hex_C w F r) [.code words_hex_c19, .inBlock 0, .code words_hex_c4] [(0, .int .u8 x1), (19, .bool x13)] [] [Sm w.heap.size F w [], St w []] := by
          intro x13 h
          unfold words_hex_j2 at h
          by_cases hp14 : x13 = true
          · have h := if_pos' hp14 h
            refine g_true (c := words_hex_c19) rfl _ rfl (hp14) ?_
            refine g_seq (c := words_hex_c20) rfl ?_
            refine g_region (c := words_hex_c22) rfl rfl ?_
            refine wl_v 0 rfl (v_move rfl) gn rfl ?_
            refine wl_v 1 rfl (v_bin rfl rfl rfl) gn rfl ?_
            refine wl_v 2 rfl (v_bin rfl rfl rfl) gn rfl ?_
            refine wl_v 3 rfl (v_assign rfl) gn rfl ?_
            refine wl_v 4 rfl (v_assign rfl) gn rfl ?_
            refine w_end 5 rfl ?_
            refine g_retR (c := words_hex_c23) [.int .u8 (IntKind.u8.wrap ((IntKind.u8.wrap (x1 - 65)) + 10)), .bool true] rfl Try.func23 rfl (.tmp rfl (.tmp rfl (.nil))) fun wr hLr => ?_
            show words_hex_R w F r (.returned (packV [.int .u8 (IntKind.u8.wrap ((IntKind.u8.wrap (x1 - 65)) + 10)), .bool true])) wr
            rw [h]
            exact ⟨rfl, hLr.below (me 1 rfl)⟩
          · have h := if_neg' hp14 h
            refine g_false (c := words_hex_c19) rfl _ rfl ((bf hp14)) ?_
            refine g_skip (c := words_hex_c21) rfl ?_
            refine g_inBlock ?_
            refine g_seq (c := words_hex_c4) rfl ?_
            refine g_region (c := words_hex_c24) rfl rfl ?_
            refine wl_v 0 rfl (v_assign rfl) gn rfl ?_
            refine wl_v 1 rfl (v_assign rfl) gn rfl ?_
            refine w_end 2 rfl ?_
            refine g_retR (c := words_hex_c25) [.int .u8 0, .bool false] rfl Try.func23 rfl (.tmp rfl (.tmp rfl (.nil))) fun wr hLr => ?_
            show words_hex_R w F r (.returned (packV [.int .u8 0, .bool false])) wr
            rw [h]
            exact ⟨rfl, hLr.below (me 1 rfl)⟩
        refine g_region (c := words_hex_c18) rfl rfl ?_
        refine wl_v 0 rfl (v_move rfl) gn rfl ?_
        refine wl_v 1 rfl (v_bin rfl rfl rfl) gn rfl ?_
        refine wl_v 2 rfl (v_move rfl) gn rfl ?_
        by_cases hp15 : x1 ≥ 65
        · have h := if_pos' hp15 h
          refine w_bool 22 rfl ((decide_eq_true hp15)) ?_
          refine wl_v 3 rfl (v_move rfl) (gy 22 rfl rfl) rfl ?_
          refine wl_v 4 rfl (v_bin rfl rfl rfl) (gy 22 rfl rfl) rfl ?_
          refine wl_v 5 rfl (v_pick (b := true) rfl rfl) gn rfl ?_
          refine wl_v 6 rfl (v_assign rfl) gn rfl ?_
          refine w_end 7 rfl ?_
          exact g_go [0, 1] (j2 (decide (x1 ≤ 70)) h) ⟨rfl, rfl, trivial⟩ (.slnil) rfl
        · have h := if_neg' hp15 h
          refine w_bool 22 rfl ((decide_eq_false hp15)) ?_
          refine wl_pass 3 rfl (ps 22 rfl rfl rfl) ?_
          refine wl_pass 4 rfl (ps 22 rfl rfl rfl) ?_
          refine wl_v 5 rfl (v_pick (b := false) rfl rfl) gn rfl ?_
          refine wl_v 6 rfl (v_assign rfl) gn rfl ?_
          refine w_end 7 rfl ?_
          exact g_go [0, 1] (j2 false h) ⟨rfl, rfl, trivial⟩ (.slnil) rfl
    refine g_region (c := words_hex_c12) rfl rfl ?_
    refine wl_v 0 rfl (v_move rfl) gn rfl ?_
    refine wl_v 1 rfl (v_bin rfl rfl rfl) gn rfl ?_
    refine wl_v 2 rfl (v_move rfl) gn rfl ?_
    by_cases hp16 : x1 ≥ 97
    · have h := if_pos' hp16 h
      refine w_bool 12 rfl ((decide_eq_true hp16)) ?_
      refine wl_v 3 rfl (v_move rfl) (gy 12 rfl rfl) rfl ?_
      refine wl_v 4 rfl (v_bin rfl rfl rfl) (gy 12 rfl rfl) rfl ?_
      refine wl_v 5 rfl (v_pick (b := true) rfl rfl) gn rfl ?_
      refine wl_v 6 rfl (v_assign rfl) gn rfl ?_
      refine w_end 7 rfl ?_
      exact g_go [0, 1] (j1 (decide (x1 ≤ 102)) h) ⟨rfl, rfl, trivial⟩ (.slnil) rfl
    · have h := if_neg' hp16 h
      refine w_bool 12 rfl ((decide_eq_false hp16)) ?_
      refine wl_pass 3 rfl (ps 12 rfl rfl rfl) ?_
      refine wl_pass 4 rfl (ps 12 rfl rfl rfl) ?_
      refine wl_v 5 rfl (v_pick (b := false) rfl rfl) gn rfl ?_
      refine wl_v 6 rfl (v_assign rfl) gn rfl ?_
      refine w_end 7 rfl ?_
      exact g_go [0, 1] (j1 false h) ⟨rfl, rfl, trivial⟩ (.slnil) rfl
noncomputable abbrev words_escape_c0 : Code := bodyOf Try.f17
noncomputable abbrev words_escape_c1 : Code := Code.fst words_escape_c0
noncomputable abbrev words_escape_c2 : Code := Code.snd words_escape_c0
noncomputable abbrev words_escape_c3 : Code := Code.fst words_escape_c2
noncomputable abbrev words_escape_c4 : Code := Code.snd words_escape_c2
noncomputable abbrev words_escape_c5 : Code := Code.fst words_escape_c3
noncomputable abbrev words_escape_c6 : Code := Code.snd words_escape_c3
noncomputable abbrev words_escape_c7 : Code := Code.fst words_escape_c6
noncomputable abbrev words_escape_c8 : Code := Code.snd words_escape_c6
noncomputable abbrev words_escape_c9 : Code := Code.fst words_escape_c7
noncomputable abbrev words_escape_c10 : Code := Code.snd words_escape_c7
noncomputable abbrev words_escape_c11 : Code := Code.fst words_escape_c4
noncomputable abbrev words_escape_c12 : Code := Code.snd words_escape_c4
noncomputable abbrev words_escape_c13 : Code := Code.fst words_escape_c11
noncomputable abbrev words_escape_c14 : Code := Code.snd words_escape_c11
noncomputable abbrev words_escape_c15 : Code := Code.fst words_escape_c14
noncomputable abbrev words_escape_c16 : Code := Code.fst words_escape_c15
noncomputable abbrev words_escape_c17 : Code := Code.snd words_escape_c15
noncomputable abbrev words_escape_c18 : Code := Code.fst words_escape_c16
noncomputable abbrev words_escape_c19 : Code := Code.snd words_escape_c16
noncomputable abbrev words_escape_c20 : Code := Code.fst words_escape_c19
noncomputable abbrev words_escape_c21 : Code := Code.snd words_escape_c19
noncomputable abbrev words_escape_c22 : Code := Code.fst words_escape_c17
noncomputable abbrev words_escape_c23 : Code := Code.snd words_escape_c17
noncomputable abbrev words_escape_c24 : Code := Code.fst words_escape_c22
noncomputable abbrev words_escape_c25 : Code := Code.snd words_escape_c22
noncomputable abbrev words_escape_c26 : Code := Code.fst words_escape_c23
noncomputable abbrev words_escape_c27 : Code := Code.snd words_escape_c23
noncomputable abbrev words_escape_c28 : Code := Code.fst words_escape_c27
noncomputable abbrev words_escape_c29 : Code := Code.snd words_escape_c27
noncomputable abbrev words_escape_c30 : Code := Code.fst words_escape_c28
noncomputable abbrev words_escape_c31 : Code := Code.snd words_escape_c28
noncomputable abbrev words_escape_c32 : Code := Code.fst words_escape_c29
noncomputable abbrev words_escape_c33 : Code := Code.snd words_escape_c29
noncomputable abbrev words_escape_c34 : Code := Code.fst words_escape_c33
noncomputable abbrev words_escape_c35 : Code := Code.snd words_escape_c33
noncomputable abbrev words_escape_c36 : Code := Code.fst words_escape_c34
noncomputable abbrev words_escape_c37 : Code := Code.snd words_escape_c34
noncomputable abbrev words_escape_c38 : Code := Code.fst words_escape_c35
noncomputable abbrev words_escape_c39 : Code := Code.snd words_escape_c35
noncomputable abbrev words_escape_c40 : Code := Code.fst words_escape_c39
noncomputable abbrev words_escape_c41 : Code := Code.snd words_escape_c39
noncomputable abbrev words_escape_c42 : Code := Code.fst words_escape_c40
noncomputable abbrev words_escape_c43 : Code := Code.snd words_escape_c40
noncomputable abbrev words_escape_c44 : Code := Code.fst words_escape_c41
noncomputable abbrev words_escape_c45 : Code := Code.snd words_escape_c41
noncomputable abbrev words_escape_c46 : Code := Code.fst words_escape_c45
noncomputable abbrev words_escape_c47 : Code := Code.snd words_escape_c45
noncomputable abbrev words_escape_c48 : Code := Code.fst words_escape_c46
noncomputable abbrev words_escape_c49 : Code := Code.snd words_escape_c46
noncomputable abbrev words_escape_c50 : Code := Code.fst words_escape_c49
noncomputable abbrev words_escape_c51 : Code := Code.snd words_escape_c49
noncomputable abbrev words_escape_c52 : Code := Code.fst words_escape_c50
noncomputable abbrev words_escape_c53 : Code := Code.snd words_escape_c50
noncomputable abbrev words_escape_c54 : Code := Code.fst words_escape_c53
noncomputable abbrev words_escape_c55 : Code := Code.snd words_escape_c53
noncomputable abbrev words_escape_c56 : Code := Code.fst words_escape_c55
noncomputable abbrev words_escape_c57 : Code := Code.snd words_escape_c55
noncomputable abbrev words_escape_c58 : Code := Code.fst words_escape_c57
noncomputable abbrev words_escape_c59 : Code := Code.snd words_escape_c57
noncomputable abbrev words_escape_c60 : Code := Code.fst words_escape_c58
noncomputable abbrev words_escape_c61 : Code := Code.snd words_escape_c58
noncomputable abbrev words_escape_c62 : Code := Code.fst words_escape_c12
noncomputable abbrev words_escape_c63 : Code := Code.snd words_escape_c12
abbrev words_escape_R (w : World) (F : Nat → Prop) (r : Int × Int) : Ending → World → Prop := fun e w' => e = .returned (.tuple #[.int .u8 r.1, .int .i64 r.2]) ∧ Below w.heap.size w w'
noncomputable abbrev words_escape_C (w : World) (F : Nat → Prop) (r : Int × Int) : Cx := ⟨Try.prog, 17, Try.f17, 63, words_escape_R w F r, w⟩
theorem words_escape_calls {w : World} {F : Nat → Prop} (hF : ∀ b, F b → b < w.heap.size) (x1 : ByteArray) (x2 : Int) (r : Int × Int) (h : words_escape x1 x2 r) : Calls Try.prog 17 #[.string x1, .int .i64 x2] w (words_escape_R w F r) := by
  unfold words_escape at h
  refine calls_of_G (vs := [.string x1, .int .i64 x2]) 63 Try.func17 rfl Try.ntmps17 rfl F ?_
  show G (words_escape_C w F r) _ _ _ _
  refine g_seq (c := words_escape_c0) rfl ?_
  refine g_region (c := words_escape_c1) rfl rfl ?_
  refine wl_v 0 rfl (v_assign rfl) gn rfl ?_
  refine wl_v 1 rfl (v_assign rfl) gn rfl ?_
  refine w_end 2 rfl ?_
  refine g_seq (c := words_escape_c2) rfl ?_
  refine g_seq (c := words_escape_c3) rfl ?_
  refine g_region (c := words_escape_c5) rfl rfl ?_
  refine wl_v 0 rfl (v_move rfl) gn rfl ?_
  refine wl_v 1 rfl (v_bin rfl rfl rfl) gn rfl ?_
  refine wl_v 2 rfl (v_move rfl) gn rfl ?_
  refine wl_v 3 rfl (v_lenS un_9 rfl) gn rfl ?_
  refine wl_v 4 rfl (v_bin rfl rfl rfl) gn rfl ?_
  refine w_end 5 rfl ?_
  by_cases hp3 : w64 (x2 + 1) ≥ (x1.size : Int)
  · have h := if_pos' hp3 h
    refine g_true (c := words_escape_c6) rfl _ rfl ((decide_eq_true hp3)) ?_
    refine g_seq (c := words_escape_c7) rfl ?_
    refine g_region (c := words_escape_c9) rfl rfl ?_
    refine wl_v 0 rfl (v_assign rfl) gn rfl ?_
    refine wl_v 1 rfl (v_assign rfl) gn rfl ?_
    refine w_end 2 rfl ?_
    refine g_retR (c := words_escape_c10) [.int .u8 0, .int .i64 0] rfl Try.func17 rfl (.tmp rfl (.tmp rfl (.nil))) fun wr hLr => ?_
    show words_escape_R w F r (.returned (packV [.int .u8 0, .int .i64 0])) wr
    rw [h]
    exact ⟨rfl, hLr.below (me 1 rfl)⟩
  · have h := if_neg' hp3 h
    refine g_false (c := words_escape_c6) rfl _ rfl ((decide_eq_false hp3)) ?_
    refine g_skip (c := words_escape_c8) rfl ?_
    refine g_seq (c := words_escape_c4) rfl ?_
    refine g_seq (c := words_escape_c11) rfl ?_
    refine g_region (c := words_escape_c13) rfl rfl ?_
    refine wl_v 0 rfl (v_move rfl) gn rfl ?_
    refine wl_v 1 rfl (v_move rfl) gn rfl ?_
    refine wl_v 2 rfl (v_bin rfl rfl rfl) gn rfl ?_
    obtain ⟨hb4, h⟩ := h
    refine wl_v 3 rfl (v_indexS un_9 rfl rfl hb4) gn rfl ?_
    refine w_end 4 rfl ?_
    refine g_block (c := words_escape_c14) rfl ?_
    refine g_seq (c := words_escape_c15) rfl ?_
    refine g_seq (c := words_escape_c16) rfl ?_
    refine g_region (c := words_escape_c18) rfl rfl ?_
    refine wl_v 0 rfl (v_bin rfl rfl rfl) gn rfl ?_
    refine wl_v 1 rfl (v_assign rfl) gn rfl ?_
    refine w_end 2 rfl ?_
    have j1 : ∀ (x6 : Bool) (h : words_escape_j1 x1 x2 x6 r) , G (words_escape_C w F r) [.code words_escape_c17, .inBlock 0, .code words_escape_c12] [(0, .string x1), (1, .int .i64 x2), (18, .int .u8 (bt x1 (w64 (x2 + 1)))), (19, .bool x6)] [] [Sm w.heap.size F w [], St w []] := by
      intro x6 h
      unfold words_escape_j1 at h
      by_cases hp7 : x6 = true
      · have h := if_pos' hp7 h
        refine g_true (c := words_escape_c17) rfl _ rfl (hp7) ?_
        refine g_seq (c := words_escape_c22) rfl ?_
        refine g_region (c := words_escape_c24) rfl rfl ?_
        refine wl_v 0 rfl (v_move rfl) gn rfl ?_
        refine wl_v 1 rfl (v_move rfl) gn rfl ?_
        refine wl_v 2 rfl (v_bin rfl rfl rfl) gn rfl ?_
        refine wl_v 3 rfl (v_indexS un_9 rfl rfl hb4) gn rfl ?_
        refine wl_v 4 rfl (v_assign rfl) gn rfl ?_
        refine wl_v 5 rfl (v_assign rfl) gn rfl ?_
        refine w_end 6 rfl ?_
        refine g_retR (c := words_escape_c25) [.int .u8 (bt x1 (w64 (x2 + 1))), .int .i64 2] rfl Try.func17 rfl (.tmp rfl (.tmp rfl (.nil))) fun wr hLr => ?_
        show words_escape_R w F r (.returned (packV [.int .u8 (bt x1 (w64 (x2 + 1))), .int .i64 2])) wr
        rw [h]
        exact ⟨rfl, hLr.below (me 1 rfl)⟩
      · have h := if_neg' hp7 h
        refine g_false (c := words_escape_c17) rfl _ rfl ((bf hp7)) ?_
        refine g_seq (c := words_escape_c23) rfl ?_
        refine g_region (c := words_escape_c26) rfl rfl ?_
        refine wl_v 0 rfl (v_bin rfl rfl rfl) gn rfl ?_
        refine wl_v 1 rfl (v_assign rfl) gn rfl ?_
        refine w_end 2 rfl ?_
        by_cases hp8 : bt x1 (w64 (x2 + 1)) = 110
        · have h := if_pos' hp8 h
          refine g_true (c := words_escape_c27) rfl _ rfl ((eqi hp8)) ?_
          refine g_seq (c := words_escape_c28) rfl ?_
          refine g_region (c := words_escape_c30) rfl rfl ?_
          refine wl_v 0 rfl (v_assign rfl) gn rfl ?_
          refine wl_v 1 rfl (v_assign rfl) gn rfl ?_
          refine w_end 2 rfl ?_
          refine g_retR (c := words_escape_c31) [.int .u8 10, .int .i64 2] rfl Try.func17 rfl (.tmp rfl (.tmp rfl (.nil))) fun wr hLr => ?_
          show words_escape_R w F r (.returned (packV [.int .u8 10, .int .i64 2])) wr
          rw [h]
          exact ⟨rfl, hLr.below (me 1 rfl)⟩
        · have h := if_neg' hp8 h
          refine g_false (c := words_escape_c27) rfl _ rfl ((nei hp8)) ?_
          refine g_seq (c := words_escape_c29) rfl ?_
          refine g_region (c := words_escape_c32) rfl rfl ?_
          refine wl_v 0 rfl (v_bin rfl rfl rfl) gn rfl ?_
          refine wl_v 1 rfl (v_assign rfl) gn rfl ?_
          refine w_end 2 rfl ?_
          by_cases hp9 : bt x1 (w64 (x2 + 1)) = 116
          · have h := if_pos' hp9 h
            refine g_true (c := words_escape_c33) rfl _ rfl ((eqi hp9)) ?_
            refine g_seq (c := words_escape_c34) rfl ?_
            refine g_region (c := words_escape_c36) rfl rfl ?_
            refine wl_v 0 rfl (v_assign rfl) gn rfl ?_
            refine wl_v 1 rfl (v_assign rfl) gn rfl ?_
            refine w_end 2 rfl ?_
            refine g_retR (c := words_escape_c37) [.int .u8 9, .int .i64 2] rfl Try.func17 rfl (.tmp rfl (.tmp rfl (.nil))) fun wr hLr => ?_
            show words_escape_R w F r (.returned (packV [.int .u8 9, .int .i64 2])) wr
            rw [h]
            exact ⟨rfl, hLr.below (me 1 rfl)⟩
          · have h := if_neg' hp9 h
            refine g_false (c := words_escape_c33) rfl _ rfl ((nei hp9)) ?_
            refine g_seq (c := words_escape_c35) rfl ?_
            refine g_region (c := words_escape_c38) rfl rfl ?_
            refine wl_v 0 rfl (v_bin rfl rfl rfl) gn rfl ?_
            refine wl_v 1 rfl (v_assign rfl) gn rfl ?_
            refine w_end 2 rfl ?_
            by_cases hp10 : bt x1 (w64 (x2 + 1)) = 114
            · have h := if_pos' hp10 h
              refine g_true (c := words_escape_c39) rfl _ rfl ((eqi hp10)) ?_
              refine g_seq (c := words_escape_c40) rfl ?_
              refine g_region (c := words_escape_c42) rfl rfl ?_
              refine wl_v 0 rfl (v_assign rfl) gn rfl ?_
              refine wl_v 1 rfl (v_assign rfl) gn rfl ?_
              refine w_end 2 rfl ?_
              refine g_retR (c := words_escape_c43) [.int .u8 13, .int .i64 2] rfl Try.func17 rfl (.tmp rfl (.tmp rfl (.nil))) fun wr hLr => ?_
              show words_escape_R w F r (.returned (packV [.int .u8 13, .int .i64 2])) wr
              rw [h]
              exact ⟨rfl, hLr.below (me 1 rfl)⟩
            · have h := if_neg' hp10 h
              refine g_false (c := words_escape_c39) rfl _ rfl ((nei hp10)) ?_
              refine g_seq (c := words_escape_c41) rfl ?_
              refine g_region (c := words_escape_c44) rfl rfl ?_
              refine wl_v 0 rfl (v_bin rfl rfl rfl) gn rfl ?_
              refine wl_v 1 rfl (v_assign rfl) gn rfl ?_
              refine w_end 2 rfl ?_
              by_cases hp11 : bt x1 (w64 (x2 + 1)) = 120
              · have h := if_pos' hp11 h
                refine g_true (c := words_escape_c45) rfl _ rfl ((eqi hp11)) ?_
                refine g_seq (c := words_escape_c46) rfl ?_
                refine g_region (c := words_escape_c48) rfl rfl ?_
                refine wl_v 0 rfl (v_move rfl) gn rfl ?_
                refine wl_v 1 rfl (v_bin rfl rfl rfl) gn rfl ?_
                refine wl_v 2 rfl (v_move rfl) gn rfl ?_
                refine wl_v 3 rfl (v_lenS un_9 rfl) gn rfl ?_
                refine wl_v 4 rfl (v_bin rfl rfl rfl) gn rfl ?_
                refine w_end 5 rfl ?_
                by_cases hp12 : w64 (x2 + 3) < (x1.size : Int)
                · have h := if_pos' hp12 h
                  refine g_true (c := words_escape_c49) rfl _ rfl ((decide_eq_true hp12)) ?_
                  refine g_seq (c := words_escape_c50) rfl ?_
                  refine g_region (c := words_escape_c52) rfl rfl ?_
                  refine wl_v 0 rfl (v_move rfl) gn rfl ?_
                  refine wl_v 1 rfl (v_move rfl) gn rfl ?_
                  refine wl_v 2 rfl (v_bin rfl rfl rfl) gn rfl ?_
                  obtain ⟨hb13, h⟩ := h
                  refine wl_v 3 rfl (v_indexS un_9 rfl rfl hb13) gn rfl ?_
                  obtain ⟨r16, hv17, h⟩ := h
                  refine wl_s 4 rfl (s_call [.int .u8 (bt x1 (w64 (x2 + 2)))] rfl Try.func23 rfl rfl rfl fun w14 hL15 => ?_) gn
                  refine Calls.mono (words_hex_calls (w := w14) (F := fun b => b < w14.heap.size) (fun b hb => hb) (bt x1 (w64 (x2 + 2))) r16 hv17) ?_
                  rintro _ w18 ⟨rfl, hbl19⟩
                  refine ⟨_, _, _, rfl, hL15.sameB hbl19, ?_⟩
                  refine wl_v 5 rfl (v_move rfl) gn rfl ?_
                  refine wl_v 6 rfl (v_extract rfl rfl) gn rfl ?_
                  refine wl_v 7 rfl (v_extract rfl rfl) gn rfl ?_
                  refine wl_v 8 rfl (v_assign rfl) gn rfl ?_
                  refine wl_v 9 rfl (v_assign rfl) gn rfl ?_
                  refine w_end 10 rfl ?_
                  refine g_seq (c := words_escape_c53) rfl ?_
                  refine g_region (c := words_escape_c54) rfl rfl ?_
                  refine wl_v 0 rfl (v_move rfl) gn rfl ?_
                  refine wl_v 1 rfl (v_move rfl) gn rfl ?_
                  refine wl_v 2 rfl (v_bin rfl rfl rfl) gn rfl ?_
                  obtain ⟨hb20, h⟩ := h
                  refine wl_v 3 rfl (v_indexS un_9 rfl rfl hb20) gn rfl ?_
                  obtain ⟨r23, hv24, h⟩ := h
                  refine wl_s 4 rfl (s_call [.int .u8 (bt x1 (w64 (x2 + 3)))] rfl Try.func23 rfl rfl rfl fun w21 hL22 => ?_) gn
                  refine Calls.mono (words_hex_calls (w := w21) (F := fun b => b < w21.heap.size) (fun b hb => hb) (bt x1 (w64 (x2 + 3))) r23 hv24) ?_
                  rintro _ w25 ⟨rfl, hbl26⟩
                  refine ⟨_, _, _, rfl, hL22.sameB hbl26, ?_⟩
                  refine wl_v 5 rfl (v_move rfl) gn rfl ?_
                  refine wl_v 6 rfl (v_extract rfl rfl) gn rfl ?_
                  refine wl_v 7 rfl (v_extract rfl rfl) gn rfl ?_
                  refine wl_v 8 rfl (v_assign rfl) gn rfl ?_
                  refine wl_v 9 rfl (v_assign rfl) gn rfl ?_
                  refine w_end 10 rfl ?_
                  refine g_seq (c := words_escape_c55) rfl ?_
                  have j2 : ∀ (x28 : Bool) (h : words_escape_j2 r16 r23 x28 r) , G (words_escape_C w F r) [.code words_escape_c57, .inBlock 0, .code words_escape_c12] [(6, .int .u8 r16.1), (8, .int .u8 r23.1), (58, .bool x28)] [] [Sm w.heap.size F w [], St w []] := by
                    intro x28 h
                    unfold words_escape_j2 at h
                    by_cases hp29 : x28 = true
                    · have h := if_pos' hp29 h
                      refine g_true (c := words_escape_c57) rfl _ rfl (hp29) ?_
                      refine g_seq (c := words_escape_c58) rfl ?_
                      refine g_region (c := words_escape_c60) rfl rfl ?_
                      refine wl_v 0 rfl (v_move rfl) gn rfl ?_
                      refine wl_v 1 rfl (v_bin rfl rfl rfl) gn rfl ?_
                      refine wl_v 2 rfl (v_move rfl) gn rfl ?_
                      refine wl_v 3 rfl (v_bin rfl rfl rfl) gn rfl ?_
                      refine wl_v 4 rfl (v_assign rfl) gn rfl ?_
                      refine wl_v 5 rfl (v_assign rfl) gn rfl ?_
                      refine w_end 6 rfl ?_
                      refine g_retR (c := words_escape_c61) [.int .u8 (IntKind.u8.wrap ((IntKind.u8.wrap (16 * r16.1)) + r23.1)), .int .i64 4] rfl Try.func17 rfl (.tmp rfl (.tmp rfl (.nil))) fun wr hLr => ?_
                      show words_escape_R w F r (.returned (packV [.int .u8 (IntKind.u8.wrap ((IntKind.u8.wrap (16 * r16.1)) + r23.1)), .int .i64 4])) wr
                      rw [h]
                      exact ⟨rfl, hLr.below (me 1 rfl)⟩
                    · have h := if_neg' hp29 h
                      refine g_false (c := words_escape_c57) rfl _ rfl ((bf hp29)) ?_
                      refine g_skip (c := words_escape_c59) rfl ?_
                      refine g_inBlock ?_
                      refine g_seq (c := words_escape_c12) rfl ?_
                      refine g_region (c := words_escape_c62) rfl rfl ?_
                      refine wl_v 0 rfl (v_assign rfl) gn rfl ?_
                      refine wl_v 1 rfl (v_assign rfl) gn rfl ?_
                      refine w_end 2 rfl ?_
                      refine g_retR (c := words_escape_c63) [.int .u8 0, .int .i64 0] rfl Try.func17 rfl (.tmp rfl (.tmp rfl (.nil))) fun wr hLr => ?_
                      show words_escape_R w F r (.returned (packV [.int .u8 0, .int .i64 0])) wr
                      rw [h]
                      exact ⟨rfl, hLr.below (me 1 rfl)⟩
                  refine g_region (c := words_escape_c56) rfl rfl ?_
                  refine wl_v 0 rfl (v_move rfl) gn rfl ?_
                  refine wl_v 1 rfl (v_move rfl) gn rfl ?_
                  by_cases hp30 : r16.2 = true
                  · have h := if_pos' hp30 h
                    refine w_bool 56 rfl (hp30) ?_
                    refine wl_v 2 rfl (v_move rfl) (gy 56 rfl rfl) rfl ?_
                    refine wl_v 3 rfl (v_pick (b := true) rfl rfl) gn rfl ?_
                    refine w_end 4 rfl ?_
                    exact g_go [0, 1] (j2 r23.2 h) ⟨rfl, rfl, rfl, trivial⟩ (.slnil) rfl
                  · have h := if_neg' hp30 h
                    refine w_bool 56 rfl ((bf hp30)) ?_
                    refine wl_pass 2 rfl (ps 56 rfl rfl rfl) ?_
                    refine wl_v 3 rfl (v_pick (b := false) rfl rfl) gn rfl ?_
                    refine w_end 4 rfl ?_
                    exact g_go [0, 1] (j2 false h) ⟨rfl, rfl, rfl, trivial⟩ (.slnil) rfl
                · have h := if_neg' hp12 h
                  refine g_false (c := words_escape_c49) rfl _ rfl ((decide_eq_false hp12)) ?_
                  refine g_skip (c := words_escape_c51) rfl ?_
                  refine g_inBlock ?_
                  refine g_seq (c := words_escape_c12) rfl ?_
                  refine g_region (c := words_escape_c62) rfl rfl ?_
                  refine wl_v 0 rfl (v_assign rfl) gn rfl ?_
                  refine wl_v 1 rfl (v_assign rfl) gn rfl ?_
                  refine w_end 2 rfl ?_
                  refine g_retR (c := words_escape_c63) [.int .u8 0, .int .i64 0] rfl Try.func17 rfl (.tmp rfl (.tmp rfl (.nil))) fun wr hLr => ?_
                  show words_escape_R w F r (.returned (packV [.int .u8 0, .int .i64 0])) wr
                  rw [h]
                  exact ⟨rfl, hLr.below (me 1 rfl)⟩
              · have h := if_neg' hp11 h
                refine g_false (c := words_escape_c45) rfl _ rfl ((nei hp11)) ?_
                refine g_skip (c := words_escape_c47) rfl ?_
                refine g_inBlock ?_
                refine g_seq (c := words_escape_c12) rfl ?_
                refine g_region (c := words_escape_c62) rfl rfl ?_
                refine wl_v 0 rfl (v_assign rfl) gn rfl ?_
                refine wl_v 1 rfl (v_assign rfl) gn rfl ?_
                refine w_end 2 rfl ?_
                refine g_retR (c := words_escape_c63) [.int .u8 0, .int .i64 0] rfl Try.func17 rfl (.tmp rfl (.tmp rfl (.nil))) fun wr hLr => ?_
                show words_escape_R w F r (.returned (packV [.int .u8 0, .int .i64 0])) wr
                rw [h]
                exact ⟨rfl, hLr.below (me 1 rfl)⟩
    by_cases hp5 : bt x1 (w64 (x2 + 1)) = 34
    · have h := if_pos' hp5 h
      refine g_true (c := words_escape_c19) rfl _ rfl ((eqi hp5)) ?_
      refine g_skip (c := words_escape_c20) rfl ?_
      exact g_go [0, 1] (j1 ((bt x1 (w64 (x2 + 1))) == 34) h) ⟨rfl, rfl, rfl, rfl, trivial⟩ (.slnil) rfl
    · have h := if_neg' hp5 h
      refine g_false (c := words_escape_c19) rfl _ rfl ((nei hp5)) ?_
      refine g_region (c := words_escape_c21) rfl rfl ?_
      refine wl_v 0 rfl (v_bin rfl rfl rfl) gn rfl ?_
      refine wl_v 1 rfl (v_assign rfl) gn rfl ?_
      refine w_end 2 rfl ?_
      exact g_go [0, 1] (j1 ((bt x1 (w64 (x2 + 1))) == 92) h) ⟨rfl, rfl, rfl, rfl, trivial⟩ (.slnil) rfl
noncomputable abbrev words_quoted_c0 : Code := bodyOf Try.f11
noncomputable abbrev words_quoted_c1 : Code := Code.fst words_quoted_c0
noncomputable abbrev words_quoted_c2 : Code := Code.snd words_quoted_c0
noncomputable abbrev words_quoted_c3 : Code := Code.fst words_quoted_c2
noncomputable abbrev words_quoted_c4 : Code := Code.fst words_quoted_c3
noncomputable abbrev words_quoted_c5 : Code := Code.snd words_quoted_c3
noncomputable abbrev words_quoted_c6 : Code := Code.fst words_quoted_c5
noncomputable abbrev words_quoted_c7 : Code := Code.snd words_quoted_c5
noncomputable abbrev words_quoted_c8 : Code := Code.fst words_quoted_c7
noncomputable abbrev words_quoted_c9 : Code := Code.snd words_quoted_c7
noncomputable abbrev words_quoted_c10 : Code := Code.fst words_quoted_c9
noncomputable abbrev words_quoted_c11 : Code := Code.snd words_quoted_c9
noncomputable abbrev words_quoted_c12 : Code := Code.fst words_quoted_c10
noncomputable abbrev words_quoted_c13 : Code := Code.snd words_quoted_c10
noncomputable abbrev words_quoted_c14 : Code := Code.fst words_quoted_c13
noncomputable abbrev words_quoted_c15 : Code := Code.snd words_quoted_c13
noncomputable abbrev words_quoted_c16 : Code := Code.fst words_quoted_c14
noncomputable abbrev words_quoted_c17 : Code := Code.snd words_quoted_c14
noncomputable abbrev words_quoted_c18 : Code := Code.fst words_quoted_c11
noncomputable abbrev words_quoted_c19 : Code := Code.snd words_quoted_c11
noncomputable abbrev words_quoted_c20 : Code := Code.fst words_quoted_c18
noncomputable abbrev words_quoted_c21 : Code := Code.snd words_quoted_c18
noncomputable abbrev words_quoted_c22 : Code := Code.fst words_quoted_c21
noncomputable abbrev words_quoted_c23 : Code := Code.snd words_quoted_c21
noncomputable abbrev words_quoted_c24 : Code := Code.fst words_quoted_c23
noncomputable abbrev words_quoted_c25 : Code := Code.fst words_quoted_c24
noncomputable abbrev words_quoted_c26 : Code := Code.snd words_quoted_c24
noncomputable abbrev words_quoted_c27 : Code := Code.fst words_quoted_c26
noncomputable abbrev words_quoted_c28 : Code := Code.snd words_quoted_c26
noncomputable abbrev words_quoted_c29 : Code := Code.fst words_quoted_c27
noncomputable abbrev words_quoted_c30 : Code := Code.snd words_quoted_c27
noncomputable abbrev words_quoted_c31 : Code := Code.fst words_quoted_c28
noncomputable abbrev words_quoted_c32 : Code := Code.snd words_quoted_c28
noncomputable abbrev words_quoted_c33 : Code := Code.fst words_quoted_c32
noncomputable abbrev words_quoted_c34 : Code := Code.snd words_quoted_c32
noncomputable abbrev words_quoted_c35 : Code := Code.fst words_quoted_c33
noncomputable abbrev words_quoted_c36 : Code := Code.snd words_quoted_c33
noncomputable abbrev words_quoted_c37 : Code := Code.fst words_quoted_c36
noncomputable abbrev words_quoted_c38 : Code := Code.snd words_quoted_c36
noncomputable abbrev words_quoted_c39 : Code := Code.fst words_quoted_c37
noncomputable abbrev words_quoted_c40 : Code := Code.snd words_quoted_c37
noncomputable abbrev words_quoted_c41 : Code := Code.fst words_quoted_c40
noncomputable abbrev words_quoted_c42 : Code := Code.snd words_quoted_c40
noncomputable abbrev words_quoted_c43 : Code := Code.fst words_quoted_c41
noncomputable abbrev words_quoted_c44 : Code := Code.snd words_quoted_c41
noncomputable abbrev words_quoted_c45 : Code := Code.fst words_quoted_c38
noncomputable abbrev words_quoted_c46 : Code := Code.snd words_quoted_c38
noncomputable abbrev words_quoted_c47 : Code := Code.fst words_quoted_c34
noncomputable abbrev words_quoted_c48 : Code := Code.snd words_quoted_c34
abbrev words_quoted_R (w : World) (F : Nat → Prop) (r : (List Int) × Int × Int) : Ending → World → Prop := fun e w' => ∃ A0 : Option Addr, ∃ c0 : Nat, e = .returned (.tuple #[.slice A0 r.1.length c0, .int .i64 r.2.1, .int .i64 r.2.2]) ∧ Below w.heap.size w w' ∧ w'.ownsRow 0 5 1 (.slice A0 r.1.length c0) r.1.length (r.1.flatMap (eI .u8)) ∧ (∀ b, (Value.slice A0 r.1.length c0).ownBlock = some b → w.heap.size ≤ b) ∧ r.1.length ≤ c0 ∧ c0 ≤ maxLen
noncomputable abbrev words_quoted_C (w : World) (F : Nat → Prop) (r : (List Int) × Int × Int) : Cx := ⟨Try.prog, 11, Try.f11, 58, words_quoted_R w F r, w⟩
theorem words_quoted_calls {w : World} {F : Nat → Prop} (hF : ∀ b, F b → b < w.heap.size) (x1 : ByteArray) (x2 : Int) (r : (List Int) × Int × Int) (h : words_quoted x1 x2 r) : Calls Try.prog 11 #[.string x1, .int .i64 x2] w (words_quoted_R w F r) := by
  unfold words_quoted at h
  refine calls_of_G (vs := [.string x1, .int .i64 x2]) 58 Try.func11 rfl Try.ntmps11 rfl F ?_
  show G (words_quoted_C w F r) _ _ _ _
  refine g_seq (c := words_quoted_c0) rfl ?_
  refine g_region (c := words_quoted_c1) rfl rfl ?_
  refine wl_v 0 rfl (v_assign rfl) gn rfl ?_
  refine wl_v 1 rfl (v_assign rfl) gn rfl ?_
  refine wl_v 2 rfl (v_assign rfl) gn rfl ?_
  refine w_end 3 rfl ?_
  refine g_scope (c := words_quoted_c2) rfl ?_
  refine g_seq (c := words_quoted_c3) rfl ?_
  refine g_region (c := words_quoted_c4) rfl rfl ?_
  refine wl_v 0 rfl (v_assign rfl) gn rfl ?_
  refine w_end 1 rfl ?_
  refine g_seq (c := words_quoted_c5) rfl ?_
  refine g_region (c := words_quoted_c6) rfl rfl ?_
  refine wl_v 0 rfl (v_move rfl) gn rfl ?_
  refine wl_v 1 rfl (v_bin rfl rfl rfl) gn rfl ?_
  refine wl_v 2 rfl (v_assign rfl) gn rfl ?_
  refine w_end 3 rfl ?_
  refine g_seq (c := words_quoted_c7) rfl ?_
  refine g_label (c := words_quoted_c8) rfl ?_
  have key1 : ∀ s, Rounds (fun (s : (List Int) × Int) o => words_quoted_b1 x1 x2 s.1 s.2 o) s r → (fun (s : (List Int) × Int) => ∀ (A44 : Option Addr) (n46 : Nat) (c45 : Nat) (hq50 : n46 = s.1.length) (hA47 : 0 < n46 → A44.isSome = true) (hn48 : n46 ≤ c45) (hm49 : c45 ≤ maxLen), G (words_quoted_C w F r) [.code words_quoted_c9, .inScope words_quoted_c3] [(0, .string x1), (1, .int .i64 x2), (7, .slice A44 n46 c45), (8, .int .i64 s.2)] [.own (.slice A44 n46 c45) 5 1 n46 (s.1.flatMap (eI .u8))] [Sm w.heap.size F w [], St w []]) s := by
    intro s hs
    refine Rounds.ind (mot := (fun (s : (List Int) × Int) => ∀ (A44 : Option Addr) (n46 : Nat) (c45 : Nat) (hq50 : n46 = s.1.length) (hA47 : 0 < n46 → A44.isSome = true) (hn48 : n46 ≤ c45) (hm49 : c45 ≤ maxLen), G (words_quoted_C w F r) [.code words_quoted_c9, .inScope words_quoted_c3] [(0, .string x1), (1, .int .i64 x2), (7, .slice A44 n46 c45), (8, .int .i64 s.2)] [.own (.slice A44 n46 c45) 5 1 n46 (s.1.flatMap (eI .u8))] [Sm w.heap.size F w [], St w []])) ?_ hs
    clear hs s
    intro s o1 h hO1
    obtain ⟨x43, x51⟩ := s
    intro A44 n46 c45 hq50 hA47 hn48 hm49
    have h : words_quoted_b1 x1 x2 x43 x51 o1 := h
    unfold words_quoted_b1 at h
    show G (words_quoted_C w F r) [.code words_quoted_c9, .inScope words_quoted_c3] [(0, .string x1), (1, .int .i64 x2), (7, .slice A44 n46 c45), (8, .int .i64 x51)] [.own (.slice A44 n46 c45) 5 1 n46 (x43.flatMap (eI .u8))] [Sm w.heap.size F w [], St w []]
    refine g_seq (c := words_quoted_c9) rfl ?_
    refine g_seq (c := words_quoted_c10) rfl ?_
    have j2 : ∀ (x106 : Bool) (h : words_quoted_j2 x2 x51 x1 x43 x106 o1) (A99 : Option Addr) (n101 : Nat) (c100 : Nat) (hq105 : n101 = x43.length) (hA102 : 0 < n101 → A99.isSome = true) (hn103 : n101 ≤ c100) (hm104 : c100 ≤ maxLen), G (words_quoted_C w F r) [.code words_quoted_c13, .code words_quoted_c11, .inScope words_quoted_c3] [(0, .string x1), (1, .int .i64 x2), (7, .slice A99 n101 c100), (8, .int .i64 x51), (23, .bool x106)] [.own (.slice A99 n101 c100) 5 1 n101 (x43.flatMap (eI .u8))] [Sm w.heap.size F w [], St w []] := by
      intro x106 h A99 n101 c100 hq105 hA102 hn103 hm104
      unfold words_quoted_j2 at h
      by_cases hp107 : x106 = true
      · have h := if_pos' hp107 h
        refine g_true (c := words_quoted_c13) rfl _ rfl (hp107) ?_
        refine g_seq (c := words_quoted_c14) rfl ?_
        refine g_region (c := words_quoted_c16) rfl rfl ?_
        refine wl_v 0 rfl (v_move rfl) gn rfl ?_
        refine wl_v 1 rfl (v_assign rfl) gn rfl ?_
        refine wl_v 2 rfl (v_assign rfl) gn rfl ?_
        refine wl_v 3 rfl (v_assign rfl) gn rfl ?_
        refine w_end 4 rfl ?_
        have h := Out.inr hO1 h
        refine g_retR (c := words_quoted_c17) [.slice none 0 0, .int .i64 82, .int .i64 x2] rfl Try.func11 rfl (.tmp rfl (.tmp rfl (.tmp rfl (.nil)))) fun wr hLr => ?_
        show words_quoted_R w F r (.returned (packV [.slice none 0 0, .int .i64 82, .int .i64 x2])) wr
        rw [h]
        exact ⟨none, 0, rfl, hLr.below (me 1 rfl), World.ownsRow_nil _ _ _ _, (fun b hb => by cases hb), Nat.zero_le _, Nat.zero_le _⟩
      · have h := if_neg' hp107 h
        refine g_false (c := words_quoted_c13) rfl _ rfl ((bf hp107)) ?_
        refine g_skip (c := words_quoted_c15) rfl ?_
        refine g_seq (c := words_quoted_c11) rfl ?_
        refine g_seq (c := words_quoted_c18) rfl ?_
        refine g_region (c := words_quoted_c20) rfl rfl ?_
        refine wl_v 0 rfl (v_move rfl) gn rfl ?_
        refine wl_v 1 rfl (v_move rfl) gn rfl ?_
        obtain ⟨hb108, h⟩ := h
        refine wl_v 2 rfl (v_indexS un_9 rfl rfl hb108) gn rfl ?_
        refine wl_v 3 rfl (v_assign rfl) gn rfl ?_
        refine w_end 4 rfl ?_
        refine g_seq (c := words_quoted_c21) rfl ?_
        refine g_region (c := words_quoted_c22) rfl rfl ?_
        refine wl_v 0 rfl (v_move rfl) gn rfl ?_
        refine w_end 1 rfl ?_
        refine g_block (c := words_quoted_c23) rfl ?_
        refine g_seq (c := words_quoted_c24) rfl ?_
        refine g_region (c := words_quoted_c25) rfl rfl ?_
        refine wl_v 0 rfl (v_bin rfl rfl rfl) gn rfl ?_
        refine wl_v 1 rfl (v_assign rfl) gn rfl ?_
        refine w_end 2 rfl ?_
        by_cases hp109 : bt x1 x51 = 34
        · have h := if_pos' hp109 h
          refine g_true (c := words_quoted_c26) rfl _ rfl ((eqi hp109)) ?_
          refine g_seq (c := words_quoted_c27) rfl ?_
          refine g_region (c := words_quoted_c29) rfl rfl ?_
          refine wl_v 0 rfl (v_move rfl) gn rfl ?_
          refine wl_v 1 rfl (v_move rfl) gn rfl ?_
          refine wl_v 2 rfl (v_bin rfl rfl rfl) gn rfl ?_
          refine wl_v 3 rfl (v_assign rfl) gn rfl ?_
          refine wl_v 4 rfl (v_assign rfl) gn rfl ?_
          refine wl_v 5 rfl (v_assign rfl) gn rfl ?_
          refine w_end 6 rfl ?_
          have h := Out.inr hO1 h
          refine g_retR (c := words_quoted_c30) [.slice A99 n101 c100, .int .i64 0, .int .i64 (w64 (x51 + 1))] rfl Try.func11 rfl (.tmp rfl (.tmp rfl (.tmp rfl (.nil)))) fun wr hLr => ?_
          show words_quoted_R w F r (.returned (packV [.slice A99 n101 c100, .int .i64 0, .int .i64 (w64 (x51 + 1))])) wr
          rw [h]
          rw [show packV [.slice A99 n101 c100, .int .i64 0, .int .i64 (w64 (x51 + 1))] = packV [.slice A99 x43.length c100, .int .i64 0, .int .i64 (w64 (x51 + 1))] from by rw [hq105]]
          exact ⟨A99, c100, rfl, hLr.below (me 1 rfl), hq_own hq105 (hLr.ok _ (me 0 rfl)), (fun b hb => (hLr.new (me 1 rfl) (me 0 rfl) (ob_len (n := n101) (c := c100) hb)).1), (hq_le hq105 hn103), hm104⟩
        · have h := if_neg' hp109 h
          refine g_false (c := words_quoted_c26) rfl _ rfl ((nei hp109)) ?_
          refine g_seq (c := words_quoted_c28) rfl ?_
          refine g_region (c := words_quoted_c31) rfl rfl ?_
          refine wl_v 0 rfl (v_bin rfl rfl rfl) gn rfl ?_
          refine wl_v 1 rfl (v_assign rfl) gn rfl ?_
          refine w_end 2 rfl ?_
          by_cases hp110 : bt x1 x51 = 92
          · have h := if_pos' hp110 h
            refine g_true (c := words_quoted_c32) rfl _ rfl ((eqi hp110)) ?_
            refine g_seq (c := words_quoted_c33) rfl ?_
            refine g_region (c := words_quoted_c35) rfl rfl ?_
            refine wl_v 0 rfl (v_move rfl) gn rfl ?_
            refine wl_v 1 rfl (v_move rfl) gn rfl ?_
            obtain ⟨r113, hv114, h⟩ := h
            refine wl_s 2 rfl (s_call [.string x1, .int .i64 x51] rfl Try.func17 rfl rfl rfl fun w111 hL112 => ?_) gn
            refine Calls.mono (words_escape_calls (w := w111) (F := fun b => b < w111.heap.size) (fun b hb => hb) x1 x51 r113 hv114) ?_
            rintro _ w115 ⟨rfl, hbl116⟩
            refine ⟨_, _, _, rfl, hL112.sameB hbl116, ?_⟩
            refine wl_v 3 rfl (v_move rfl) gn rfl ?_
            refine wl_v 4 rfl (v_extract rfl rfl) gn rfl ?_
            refine wl_v 5 rfl (v_extract rfl rfl) gn rfl ?_
            refine wl_v 6 rfl (v_assign rfl) gn rfl ?_
            refine wl_v 7 rfl (v_assign rfl) gn rfl ?_
            refine w_end 8 rfl ?_
            refine g_seq (c := words_quoted_c36) rfl ?_
            refine g_seq (c := words_quoted_c37) rfl ?_
            refine g_region (c := words_quoted_c39) rfl rfl ?_
            refine wl_v 0 rfl (v_move rfl) gn rfl ?_
            refine wl_v 1 rfl (v_bin rfl rfl rfl) gn rfl ?_
            refine w_end 2 rfl ?_
            by_cases hp117 : r113.2 = 0
            · have h := if_pos' hp117 h
              refine g_true (c := words_quoted_c40) rfl _ rfl ((eqi hp117)) ?_
              refine g_seq (c := words_quoted_c41) rfl ?_
              refine g_region (c := words_quoted_c43) rfl rfl ?_
              refine wl_v 0 rfl (v_move rfl) gn rfl ?_
              refine wl_v 1 rfl (v_assign rfl) gn rfl ?_
              refine wl_v 2 rfl (v_assign rfl) gn rfl ?_
              refine wl_v 3 rfl (v_assign rfl) gn rfl ?_
              refine w_end 4 rfl ?_
              have h := Out.inr hO1 h
              refine g_retR (c := words_quoted_c44) [.slice none 0 0, .int .i64 82, .int .i64 x51] rfl Try.func11 rfl (.tmp rfl (.tmp rfl (.tmp rfl (.nil)))) fun wr hLr => ?_
              show words_quoted_R w F r (.returned (packV [.slice none 0 0, .int .i64 82, .int .i64 x51])) wr
              rw [h]
              exact ⟨none, 0, rfl, hLr.below (me 1 rfl), World.ownsRow_nil _ _ _ _, (fun b hb => by cases hb), Nat.zero_le _, Nat.zero_le _⟩
            · have h := if_neg' hp117 h
              refine g_false (c := words_quoted_c40) rfl _ rfl ((nei hp117)) ?_
              refine g_skip (c := words_quoted_c42) rfl ?_
              refine g_seq (c := words_quoted_c38) rfl ?_
              refine g_region (c := words_quoted_c45) rfl rfl ?_
              refine wl_v 0 rfl (v_move rfl) gn rfl ?_
              refine wl_v 1 rfl (v_move rfl) gn rfl ?_
              refine wl_s 2 rfl (s_lit [.int .u8 r113.1] bs_31_1 rfl (by kernel_rfl) rfl rfl rfl fun gb118 => ?_) gn
              obtain ⟨x125, hv126, h⟩ := h
              obtain ⟨hb127, h⟩ := h
              have hq128 : n101 + 1 = x125.length := by have q1 : n101 = x43.length := hq105; have q2 : 1 = ([r113.1] : List Int).length := rfl; rw [hv126, List.length_append]; omega
              refine wl_s 3 rfl (s_appO (cells' := x125.flatMap (eI .u8)) (news := ([r113.1] : List Int).flatMap (eI .u8)) 1 0 ap_31 rfl rfl rfl rfl (Nat.le_refl _) (rfl) (fm_all (hone_int .u8) _) rfl (by rw [hv126, List.flatMap_append] <;> rfl) (by omega) (by omega) (by decide) rfl fun A120 c121 hA122 hn123 hm124 => ?_) gn
              refine wl_v 4 rfl (v_assign rfl) gn rfl ?_
              refine w_end 5 rfl ?_
              refine g_region (c := words_quoted_c46) rfl rfl ?_
              refine wl_v 0 rfl (v_move rfl) gn rfl ?_
              refine wl_v 1 rfl (v_move rfl) gn rfl ?_
              refine wl_v 2 rfl (v_bin rfl rfl rfl) gn rfl ?_
              refine wl_v 3 rfl (v_assign rfl) gn rfl ?_
              refine w_end 4 rfl ?_
              refine g_inBlock ?_
              refine g_goto (c := words_quoted_c19) [.code (.seq .skip words_quoted_c9), .inScope words_quoted_c3] rfl rfl ?_
              refine g_seq rfl ?_
              refine g_skip rfl ?_
              have ih := Out.inl hO1 h
              exact g_go [0, 1] (ih A120 (n101 + 1) c121 hq128 hA122 hn123 hm124) ⟨rfl, rfl, rfl, rfl, trivial⟩ (.cons _ (.cons_cons _ (.slnil))) rfl
          · have h := if_neg' hp110 h
            refine g_false (c := words_quoted_c32) rfl _ rfl ((nei hp110)) ?_
            refine g_seq (c := words_quoted_c34) rfl ?_
            refine g_region (c := words_quoted_c47) rfl rfl ?_
            refine wl_v 0 rfl (v_move rfl) gn rfl ?_
            refine wl_v 1 rfl (v_move rfl) gn rfl ?_
            refine wl_s 2 rfl (s_lit [.int .u8 (bt x1 x51)] bs_31_1 rfl (by kernel_rfl) rfl rfl rfl fun gb129 => ?_) gn
            obtain ⟨x136, hv137, h⟩ := h
            obtain ⟨hb138, h⟩ := h
            have hq139 : n101 + 1 = x136.length := by have q1 : n101 = x43.length := hq105; have q2 : 1 = ([bt x1 x51] : List Int).length := rfl; rw [hv137, List.length_append]; omega
            refine wl_s 3 rfl (s_appO (cells' := x136.flatMap (eI .u8)) (news := ([bt x1 x51] : List Int).flatMap (eI .u8)) 1 0 ap_31 rfl rfl rfl rfl (Nat.le_refl _) (rfl) (fm_all (hone_int .u8) _) rfl (by rw [hv137, List.flatMap_append] <;> rfl) (by omega) (by omega) (by decide) rfl fun A131 c132 hA133 hn134 hm135 => ?_) gn
            refine wl_v 4 rfl (v_assign rfl) gn rfl ?_
            refine w_end 5 rfl ?_
            refine g_region (c := words_quoted_c48) rfl rfl ?_
            refine wl_v 0 rfl (v_move rfl) gn rfl ?_
            refine wl_v 1 rfl (v_bin rfl rfl rfl) gn rfl ?_
            refine wl_v 2 rfl (v_assign rfl) gn rfl ?_
            refine w_end 3 rfl ?_
            refine g_inBlock ?_
            refine g_goto (c := words_quoted_c19) [.code (.seq .skip words_quoted_c9), .inScope words_quoted_c3] rfl rfl ?_
            refine g_seq rfl ?_
            refine g_skip rfl ?_
            have ih := Out.inl hO1 h
            exact g_go [0, 1] (ih A131 (n101 + 1) c132 hq139 hA133 hn134 hm135) ⟨rfl, rfl, rfl, rfl, trivial⟩ (.cons _ (.cons_cons _ (.slnil))) rfl
    refine g_region (c := words_quoted_c12) rfl rfl ?_
    refine wl_v 0 rfl (v_move rfl) gn rfl ?_
    refine wl_v 1 rfl (v_move rfl) gn rfl ?_
    refine wl_v 2 rfl (v_lenS un_9 rfl) gn rfl ?_
    refine wl_v 3 rfl (v_bin rfl rfl rfl) gn rfl ?_
    refine wl_v 4 rfl (v_move rfl) gn rfl ?_
    by_cases hp140 : x51 = (x1.size : Int)
    · have h := if_pos' hp140 h
      refine w_bool 18 rfl ((eqi hp140)) ?_
      refine wl_pass 5 rfl (ps 18 rfl rfl rfl) ?_
      refine wl_pass 6 rfl (ps 18 rfl rfl rfl) ?_
      refine wl_pass 7 rfl (ps 18 rfl rfl rfl) ?_
      refine wl_pass 8 rfl (ps 18 rfl rfl rfl) ?_
      refine wl_v 9 rfl (v_pick (b := true) rfl rfl) gn rfl ?_
      refine w_end 10 rfl ?_
      exact g_go [0, 1] (j2 true h A44 n46 c45 hq50 hA47 hn48 hm49) ⟨rfl, rfl, rfl, rfl, rfl, trivial⟩ (.cons_cons _ (.slnil)) rfl
    · have h := if_neg' hp140 h
      refine w_bool 18 rfl ((nei hp140)) ?_
      refine wl_v 5 rfl (v_move rfl) (gy 18 rfl rfl) rfl ?_
      refine wl_v 6 rfl (v_move rfl) (gy 18 rfl rfl) rfl ?_
      obtain ⟨hb141, h⟩ := h
      refine wl_v 7 rfl (v_indexS un_9 rfl rfl hb141) (gy 18 rfl rfl) rfl ?_
      refine wl_v 8 rfl (v_bin rfl rfl rfl) (gy 18 rfl rfl) rfl ?_
      refine wl_v 9 rfl (v_pick (b := false) rfl rfl) gn rfl ?_
      refine w_end 10 rfl ?_
      exact g_go [0, 1] (j2 ((bt x1 x51) == 10) h A44 n46 c45 hq50 hA47 hn48 hm49) ⟨rfl, rfl, rfl, rfl, rfl, trivial⟩ (.cons_cons _ (.slnil)) rfl
  refine g_nil 5 1 ?_
  exact g_go [0, 1] (key1 _ h none 0 0 rfl (fun h => absurd h (Nat.lt_irrefl 0)) (Nat.le_refl _) (Nat.zero_le _)) ⟨rfl, rfl, rfl, rfl, trivial⟩ (.cons_cons _ (.slnil)) rfl
noncomputable abbrev words_slashed_c0 : Code := bodyOf Try.f12
noncomputable abbrev words_slashed_c1 : Code := Code.fst words_slashed_c0
noncomputable abbrev words_slashed_c2 : Code := Code.snd words_slashed_c0
noncomputable abbrev words_slashed_c3 : Code := Code.fst words_slashed_c2
noncomputable abbrev words_slashed_c4 : Code := Code.fst words_slashed_c3
noncomputable abbrev words_slashed_c5 : Code := Code.snd words_slashed_c3
noncomputable abbrev words_slashed_c6 : Code := Code.fst words_slashed_c5
noncomputable abbrev words_slashed_c7 : Code := Code.snd words_slashed_c5
noncomputable abbrev words_slashed_c8 : Code := Code.fst words_slashed_c7
noncomputable abbrev words_slashed_c9 : Code := Code.snd words_slashed_c7
noncomputable abbrev words_slashed_c10 : Code := Code.fst words_slashed_c8
noncomputable abbrev words_slashed_c11 : Code := Code.fst words_slashed_c10
noncomputable abbrev words_slashed_c12 : Code := Code.snd words_slashed_c10
noncomputable abbrev words_slashed_c13 : Code := Code.fst words_slashed_c12
noncomputable abbrev words_slashed_c14 : Code := Code.snd words_slashed_c12
noncomputable abbrev words_slashed_c15 : Code := Code.fst words_slashed_c13
noncomputable abbrev words_slashed_c16 : Code := Code.snd words_slashed_c13
noncomputable abbrev words_slashed_c17 : Code := Code.fst words_slashed_c14
noncomputable abbrev words_slashed_c18 : Code := Code.snd words_slashed_c14
noncomputable abbrev words_slashed_c19 : Code := Code.fst words_slashed_c18
noncomputable abbrev words_slashed_c20 : Code := Code.snd words_slashed_c18
noncomputable abbrev words_slashed_c21 : Code := Code.fst words_slashed_c19
noncomputable abbrev words_slashed_c22 : Code := Code.snd words_slashed_c19
noncomputable abbrev words_slashed_c23 : Code := Code.fst words_slashed_c20
noncomputable abbrev words_slashed_c24 : Code := Code.snd words_slashed_c20
noncomputable abbrev words_slashed_c25 : Code := Code.fst words_slashed_c24
noncomputable abbrev words_slashed_c26 : Code := Code.snd words_slashed_c24
noncomputable abbrev words_slashed_c27 : Code := Code.fst words_slashed_c9
noncomputable abbrev words_slashed_c28 : Code := Code.snd words_slashed_c9
abbrev words_slashed_R (w : World) (F : Nat → Prop) (r : (List Int) × Int × Int) : Ending → World → Prop := fun e w' => ∃ A0 : Option Addr, ∃ c0 : Nat, e = .returned (.tuple #[.slice A0 r.1.length c0, .int .i64 r.2.1, .int .i64 r.2.2]) ∧ Below w.heap.size w w' ∧ RowOf (kInt .u8) w' (Nw w w' F) A0 r.1 ∧ r.1.length ≤ c0 ∧ c0 ≤ maxLen
noncomputable abbrev words_slashed_C (w : World) (F : Nat → Prop) (r : (List Int) × Int × Int) : Cx := ⟨Try.prog, 12, Try.f12, 58, words_slashed_R w F r, w⟩
theorem words_slashed_calls {w : World} {F : Nat → Prop} (hF : ∀ b, F b → b < w.heap.size) (x79 : ByteArray) (x80 : Int) (r : (List Int) × Int × Int) (h : words_slashed x79 x80 r) : Calls Try.prog 12 #[.string x79, .int .i64 x80] w (words_slashed_R w F r) := by
  unfold words_slashed at h
  refine calls_of_G (vs := [.string x79, .int .i64 x80]) 58 Try.func12 rfl Try.ntmps12 rfl F ?_
  show G (words_slashed_C w F r) _ _ _ _
  refine g_seq (c := words_slashed_c0) rfl ?_
  refine g_region (c := words_slashed_c1) rfl rfl ?_
  refine wl_v 0 rfl (v_assign rfl) gn rfl ?_
  refine wl_v 1 rfl (v_assign rfl) gn rfl ?_
  refine wl_v 2 rfl (v_assign rfl) gn rfl ?_
  refine w_end 3 rfl ?_
  refine g_scope (c := words_slashed_c2) rfl ?_
  refine g_seq (c := words_slashed_c3) rfl ?_
  refine g_region (c := words_slashed_c4) rfl rfl ?_
  refine wl_v 0 rfl (v_move rfl) gn rfl ?_
  refine wl_v 1 rfl (v_bin rfl rfl rfl) gn rfl ?_
  refine wl_v 2 rfl (v_assign rfl) gn rfl ?_
  refine w_end 3 rfl ?_
  refine g_seq (c := words_slashed_c5) rfl ?_
  refine g_label (c := words_slashed_c6) rfl ?_
  have key1 : ∀ s, Rounds (fun (s : Int) o => words_slashed_b1 x79 x80 s o) s r → (fun (s : Int) => ∀ (_ : Unit), G (words_slashed_C w F r) [.code words_slashed_c7, .inScope words_slashed_c3] [(0, .string x79), (1, .int .i64 x80), (7, .int .i64 s)] [] [Sm w.heap.size F w [], St w []]) s := by
    intro s hs
    refine Rounds.ind (mot := (fun (s : Int) => ∀ (_ : Unit), G (words_slashed_C w F r) [.code words_slashed_c7, .inScope words_slashed_c3] [(0, .string x79), (1, .int .i64 x80), (7, .int .i64 s)] [] [Sm w.heap.size F w [], St w []])) ?_ hs
    clear hs s
    intro x106 o1 h hO1
    intro _
    have h : words_slashed_b1 x79 x80 x106 o1 := h
    unfold words_slashed_b1 at h
    show G (words_slashed_C w F r) [.code words_slashed_c7, .inScope words_slashed_c3] [(0, .string x79), (1, .int .i64 x80), (7, .int .i64 x106)] [] [Sm w.heap.size F w [], St w []]
    refine g_seq (c := words_slashed_c7) rfl ?_
    refine g_block (c := words_slashed_c8) rfl ?_
    refine g_seq (c := words_slashed_c10) rfl ?_
    have j2 : ∀ (x134 : Bool) (h : words_slashed_j2 x80 x106 x79 x134 o1) , G (words_slashed_C w F r) [.code words_slashed_c12, .inBlock 0, .code words_slashed_c9, .inScope words_slashed_c3] [(0, .string x79), (1, .int .i64 x80), (7, .int .i64 x106), (10, .bool x134)] [] [Sm w.heap.size F w [], St w []] := by
      intro x134 h
      unfold words_slashed_j2 at h
      by_cases hp135 : x134 = true
      · have h := if_pos' hp135 h
        refine g_true (c := words_slashed_c12) rfl _ rfl (hp135) ?_
        refine g_seq (c := words_slashed_c13) rfl ?_
        refine g_region (c := words_slashed_c15) rfl rfl ?_
        refine wl_v 0 rfl (v_move rfl) gn rfl ?_
        refine wl_v 1 rfl (v_assign rfl) gn rfl ?_
        refine wl_v 2 rfl (v_assign rfl) gn rfl ?_
        refine wl_v 3 rfl (v_assign rfl) gn rfl ?_
        refine w_end 4 rfl ?_
        have h := Out.inr hO1 h
        refine g_retR (c := words_slashed_c16) [.slice none 0 0, .int .i64 82, .int .i64 x80] rfl Try.func12 rfl (.tmp rfl (.tmp rfl (.tmp rfl (.nil)))) fun wr hLr => ?_
        show words_slashed_R w F r (.returned (packV [.slice none 0 0, .int .i64 82, .int .i64 x80])) wr
        rw [h]
        exact ⟨none, 0, rfl, hLr.below (me 1 rfl), RowOf.nil _ _ _ _, Nat.zero_le _, Nat.zero_le _⟩
      · have h := if_neg' hp135 h
        refine g_false (c := words_slashed_c12) rfl _ rfl ((bf hp135)) ?_
        refine g_seq (c := words_slashed_c14) rfl ?_
        refine g_region (c := words_slashed_c17) rfl rfl ?_
        refine wl_v 0 rfl (v_move rfl) gn rfl ?_
        refine wl_v 1 rfl (v_move rfl) gn rfl ?_
        obtain ⟨hb136, h⟩ := h
        refine wl_v 2 rfl (v_indexS un_9 rfl rfl hb136) gn rfl ?_
        refine wl_v 3 rfl (v_bin rfl rfl rfl) gn rfl ?_
        refine wl_v 4 rfl (v_assign rfl) gn rfl ?_
        refine w_end 5 rfl ?_
        by_cases hp137 : bt x79 x106 = 47
        · have h := if_pos' hp137 h
          refine g_true (c := words_slashed_c18) rfl _ rfl ((eqi hp137)) ?_
          refine g_seq (c := words_slashed_c19) rfl ?_
          refine g_region (c := words_slashed_c21) rfl rfl ?_
          refine wl_v 0 rfl (v_move rfl) gn rfl ?_
          refine wl_v 1 rfl (v_move rfl) gn rfl ?_
          refine wl_v 2 rfl (v_bin rfl rfl rfl) gn rfl ?_
          refine wl_v 3 rfl (v_move rfl) gn rfl ?_
          obtain ⟨hb138, h⟩ := h
          refine wl_v 4 rfl (v_cutS (w64 (x80 + 1)) x106 un_9 rfl (.inr ⟨_, _, rfl, rfl⟩) (.inr ⟨_, _, rfl, rfl⟩) ⟨hb138.1, hb138.2.1⟩ hb138.2.2) gn rfl ?_
          obtain ⟨hb146, h⟩ := h
          refine wl_s 5 rfl (s_s2b (F := F) un_9 u8_31 rfl hb146 rfl fun A139 c140 sw143 sb144 hn141 hm142 hR145 => ?_) gn
          refine wl_v 6 rfl (v_move rfl) gn rfl ?_
          refine wl_v 7 rfl (v_bin rfl rfl rfl) gn rfl ?_
          refine wl_v 8 rfl (v_assign rfl) gn rfl ?_
          refine wl_v 9 rfl (v_assign rfl) gn rfl ?_
          refine wl_v 10 rfl (v_assign rfl) gn rfl ?_
          refine w_end 11 rfl ?_
          have h := Out.inr hO1 h
          refine g_retR (c := words_slashed_c22) [.slice A139 ((x79.extract (w64 (x80 + 1) : Int).toNat (x106 : Int).toNat).size) c140, .int .i64 0, .int .i64 (w64 (x106 + 1))] rfl Try.func12 rfl (.tmp rfl (.tmp rfl (.tmp rfl (.nil)))) fun wr hLr => ?_
          show words_slashed_R w F r (.returned (packV [.slice A139 ((x79.extract (w64 (x80 + 1) : Int).toNat (x106 : Int).toNat).size) c140, .int .i64 0, .int .i64 (w64 (x106 + 1))])) wr
          rw [h]
          rw [show packV [.slice A139 ((x79.extract (w64 (x80 + 1) : Int).toNat (x106 : Int).toNat).size) c140, .int .i64 0, .int .i64 (w64 (x106 + 1))] = packV [.slice A139 (bsOf (x79.extract (w64 (x80 + 1) : Int).toNat (x106 : Int).toNat)).length c140, .int .i64 0, .int .i64 (w64 (x106 + 1))] from by rw [(bsOf_len _).symm]]
          exact ⟨A139, c140, rfl, hLr.below (me 2 rfl), hLr.outR (me 0 rfl) rfl (((okS.nil _ _ _ _).cons _ _).cons _ _) hR145, (hq_le ((bsOf_len _).symm) hn141), hm142⟩
        · have h := if_neg' hp137 h
          refine g_false (c := words_slashed_c18) rfl _ rfl ((nei hp137)) ?_
          refine g_seq (c := words_slashed_c20) rfl ?_
          have j3 : ∀ (x150 : Bool) (h : words_slashed_j3 x106 x150 o1) , G (words_slashed_C w F r) [.code words_slashed_c24, .inBlock 0, .code words_slashed_c9, .inScope words_slashed_c3] [(0, .string x79), (1, .int .i64 x80), (7, .int .i64 x106), (35, .bool x150)] [] [Sm w.heap.size F w [], St w []] := by
            intro x150 h
            unfold words_slashed_j3 at h
            by_cases hp151 : x150 = true
            · have h := if_pos' hp151 h
              refine g_true (c := words_slashed_c24) rfl _ rfl (hp151) ?_
              refine g_region (c := words_slashed_c25) rfl rfl ?_
              refine wl_v 0 rfl (v_move rfl) gn rfl ?_
              refine wl_v 1 rfl (v_bin rfl rfl rfl) gn rfl ?_
              refine wl_v 2 rfl (v_assign rfl) gn rfl ?_
              refine w_end 3 rfl ?_
              refine g_inBlock ?_
              refine g_seq (c := words_slashed_c9) rfl ?_
              refine g_region (c := words_slashed_c27) rfl rfl ?_
              refine wl_v 0 rfl (v_move rfl) gn rfl ?_
              refine wl_v 1 rfl (v_bin rfl rfl rfl) gn rfl ?_
              refine wl_v 2 rfl (v_assign rfl) gn rfl ?_
              refine w_end 3 rfl ?_
              refine g_goto (c := words_slashed_c28) [.code (.seq .skip words_slashed_c7), .inScope words_slashed_c3] rfl rfl ?_
              refine g_seq rfl ?_
              refine g_skip rfl ?_
              have ih := Out.inl hO1 h
              exact g_go [0, 1] (ih ()) ⟨rfl, rfl, rfl, trivial⟩ (.slnil) rfl
            · have h := if_neg' hp151 h
              refine g_false (c := words_slashed_c24) rfl _ rfl ((bf hp151)) ?_
              refine g_skip (c := words_slashed_c26) rfl ?_
              refine g_inBlock ?_
              refine g_seq (c := words_slashed_c9) rfl ?_
              refine g_region (c := words_slashed_c27) rfl rfl ?_
              refine wl_v 0 rfl (v_move rfl) gn rfl ?_
              refine wl_v 1 rfl (v_bin rfl rfl rfl) gn rfl ?_
              refine wl_v 2 rfl (v_assign rfl) gn rfl ?_
              refine w_end 3 rfl ?_
              refine g_goto (c := words_slashed_c28) [.code (.seq .skip words_slashed_c7), .inScope words_slashed_c3] rfl rfl ?_
              refine g_seq rfl ?_
              refine g_skip rfl ?_
              have ih := Out.inl hO1 h
              exact g_go [0, 1] (ih ()) ⟨rfl, rfl, rfl, trivial⟩ (.slnil) rfl
          refine g_region (c := words_slashed_c23) rfl rfl ?_
          refine wl_v 0 rfl (v_move rfl) gn rfl ?_
          refine wl_v 1 rfl (v_move rfl) gn rfl ?_
          refine wl_v 2 rfl (v_indexS un_9 rfl rfl hb136) gn rfl ?_
          refine wl_v 3 rfl (v_bin rfl rfl rfl) gn rfl ?_
          refine wl_v 4 rfl (v_move rfl) gn rfl ?_
          by_cases hp152 : bt x79 x106 = 92
          · have h := if_pos' hp152 h
            refine w_bool 40 rfl ((eqi hp152)) ?_
            refine wl_v 5 rfl (v_move rfl) (gy 40 rfl rfl) rfl ?_
            refine wl_v 6 rfl (v_bin rfl rfl rfl) (gy 40 rfl rfl) rfl ?_
            refine wl_v 7 rfl (v_move rfl) (gy 40 rfl rfl) rfl ?_
            refine wl_v 8 rfl (v_lenS un_9 rfl) (gy 40 rfl rfl) rfl ?_
            refine wl_v 9 rfl (v_bin rfl rfl rfl) (gy 40 rfl rfl) rfl ?_
            refine wl_v 10 rfl (v_pick (b := true) rfl rfl) gn rfl ?_
            refine wl_v 11 rfl (v_move rfl) gn rfl ?_
            by_cases hp153 : w64 (x106 + 1) < (x79.size : Int)
            · have h := if_pos' hp153 h
              refine w_bool 47 rfl ((decide_eq_true hp153)) ?_
              refine wl_v 12 rfl (v_move rfl) (gy 47 rfl rfl) rfl ?_
              refine wl_v 13 rfl (v_move rfl) (gy 47 rfl rfl) rfl ?_
              refine wl_v 14 rfl (v_bin rfl rfl rfl) (gy 47 rfl rfl) rfl ?_
              obtain ⟨hb154, h⟩ := h
              refine wl_v 15 rfl (v_indexS un_9 rfl rfl hb154) (gy 47 rfl rfl) rfl ?_
              refine wl_v 16 rfl (v_bin rfl rfl rfl) (gy 47 rfl rfl) rfl ?_
              refine wl_v 17 rfl (v_pick (b := true) rfl rfl) gn rfl ?_
              refine wl_v 18 rfl (v_assign rfl) gn rfl ?_
              refine w_end 19 rfl ?_
              exact g_go [0, 1] (j3 ((bt x79 (w64 (x106 + 1))) != 10) h) ⟨rfl, rfl, rfl, rfl, trivial⟩ (.slnil) rfl
            · have h := if_neg' hp153 h
              refine w_bool 47 rfl ((decide_eq_false hp153)) ?_
              refine wl_pass 12 rfl (ps 47 rfl rfl rfl) ?_
              refine wl_pass 13 rfl (ps 47 rfl rfl rfl) ?_
              refine wl_pass 14 rfl (ps 47 rfl rfl rfl) ?_
              refine wl_pass 15 rfl (ps 47 rfl rfl rfl) ?_
              refine wl_pass 16 rfl (ps 47 rfl rfl rfl) ?_
              refine wl_v 17 rfl (v_pick (b := false) rfl rfl) gn rfl ?_
              refine wl_v 18 rfl (v_assign rfl) gn rfl ?_
              refine w_end 19 rfl ?_
              exact g_go [0, 1] (j3 false h) ⟨rfl, rfl, rfl, rfl, trivial⟩ (.slnil) rfl
          · have h := if_neg' hp152 h
            refine w_bool 40 rfl ((nei hp152)) ?_
            refine wl_pass 5 rfl (ps 40 rfl rfl rfl) ?_
            refine wl_pass 6 rfl (ps 40 rfl rfl rfl) ?_
            refine wl_pass 7 rfl (ps 40 rfl rfl rfl) ?_
            refine wl_pass 8 rfl (ps 40 rfl rfl rfl) ?_
            refine wl_pass 9 rfl (ps 40 rfl rfl rfl) ?_
            refine wl_v 10 rfl (v_pick (b := false) rfl rfl) gn rfl ?_
            refine wl_v 11 rfl (v_move rfl) gn rfl ?_
            refine wl_pass 12 rfl (ps 47 rfl rfl rfl) ?_
            refine wl_pass 13 rfl (ps 47 rfl rfl rfl) ?_
            refine wl_pass 14 rfl (ps 47 rfl rfl rfl) ?_
            refine wl_pass 15 rfl (ps 47 rfl rfl rfl) ?_
            refine wl_pass 16 rfl (ps 47 rfl rfl rfl) ?_
            refine wl_v 17 rfl (v_pick (b := false) rfl rfl) gn rfl ?_
            refine wl_v 18 rfl (v_assign rfl) gn rfl ?_
            refine w_end 19 rfl ?_
            exact g_go [0, 1] (j3 false h) ⟨rfl, rfl, rfl, rfl, trivial⟩ (.slnil) rfl
    refine g_region (c := words_slashed_c11) rfl rfl ?_
    refine wl_v 0 rfl (v_move rfl) gn rfl ?_
    refine wl_v 1 rfl (v_move rfl) gn rfl ?_
    refine wl_v 2 rfl (v_lenS un_9 rfl) gn rfl ?_
    refine wl_v 3 rfl (v_bin rfl rfl rfl) gn rfl ?_
    refine wl_v 4 rfl (v_move rfl) gn rfl ?_
    by_cases hp155 : x106 = (x79.size : Int)
    · have h := if_pos' hp155 h
      refine w_bool 15 rfl ((eqi hp155)) ?_
      refine wl_pass 5 rfl (ps 15 rfl rfl rfl) ?_
      refine wl_pass 6 rfl (ps 15 rfl rfl rfl) ?_
      refine wl_pass 7 rfl (ps 15 rfl rfl rfl) ?_
      refine wl_pass 8 rfl (ps 15 rfl rfl rfl) ?_
      refine wl_v 9 rfl (v_pick (b := true) rfl rfl) gn rfl ?_
      refine wl_v 10 rfl (v_assign rfl) gn rfl ?_
      refine w_end 11 rfl ?_
      exact g_go [0, 1] (j2 true h) ⟨rfl, rfl, rfl, rfl, trivial⟩ (.slnil) rfl
    · have h := if_neg' hp155 h
      refine w_bool 15 rfl ((nei hp155)) ?_
      refine wl_v 5 rfl (v_move rfl) (gy 15 rfl rfl) rfl ?_
      refine wl_v 6 rfl (v_move rfl) (gy 15 rfl rfl) rfl ?_
      obtain ⟨hb156, h⟩ := h
      refine wl_v 7 rfl (v_indexS un_9 rfl rfl hb156) (gy 15 rfl rfl) rfl ?_
      refine wl_v 8 rfl (v_bin rfl rfl rfl) (gy 15 rfl rfl) rfl ?_
      refine wl_v 9 rfl (v_pick (b := false) rfl rfl) gn rfl ?_
      refine wl_v 10 rfl (v_assign rfl) gn rfl ?_
      refine w_end 11 rfl ?_
      exact g_go [0, 1] (j2 ((bt x79 x106) == 10) h) ⟨rfl, rfl, rfl, rfl, trivial⟩ (.slnil) rfl
  exact g_go [0, 1] (key1 _ h ()) ⟨rfl, rfl, rfl, trivial⟩ (.slnil) rfl
noncomputable abbrev words_Cut_c0 : Code := bodyOf Try.f4
noncomputable abbrev words_Cut_c1 : Code := Code.fst words_Cut_c0
noncomputable abbrev words_Cut_c2 : Code := Code.snd words_Cut_c0
noncomputable abbrev words_Cut_c3 : Code := Code.fst words_Cut_c2
noncomputable abbrev words_Cut_c4 : Code := Code.fst words_Cut_c3
noncomputable abbrev words_Cut_c5 : Code := Code.snd words_Cut_c3
noncomputable abbrev words_Cut_c6 : Code := Code.fst words_Cut_c4
noncomputable abbrev words_Cut_c7 : Code := Code.snd words_Cut_c4
noncomputable abbrev words_Cut_c8 : Code := Code.fst words_Cut_c7
noncomputable abbrev words_Cut_c9 : Code := Code.snd words_Cut_c7
noncomputable abbrev words_Cut_c10 : Code := Code.fst words_Cut_c8
noncomputable abbrev words_Cut_c11 : Code := Code.snd words_Cut_c8
noncomputable abbrev words_Cut_c12 : Code := Code.fst words_Cut_c5
noncomputable abbrev words_Cut_c13 : Code := Code.snd words_Cut_c5
noncomputable abbrev words_Cut_c14 : Code := Code.fst words_Cut_c13
noncomputable abbrev words_Cut_c15 : Code := Code.snd words_Cut_c13
noncomputable abbrev words_Cut_c16 : Code := Code.fst words_Cut_c15
noncomputable abbrev words_Cut_c17 : Code := Code.snd words_Cut_c15
noncomputable abbrev words_Cut_c18 : Code := Code.fst words_Cut_c17
noncomputable abbrev words_Cut_c19 : Code := Code.snd words_Cut_c17
noncomputable abbrev words_Cut_c20 : Code := Code.fst words_Cut_c19
noncomputable abbrev words_Cut_c21 : Code := Code.snd words_Cut_c19
noncomputable abbrev words_Cut_c22 : Code := Code.fst words_Cut_c21
noncomputable abbrev words_Cut_c23 : Code := Code.snd words_Cut_c21
noncomputable abbrev words_Cut_c24 : Code := Code.fst words_Cut_c22
noncomputable abbrev words_Cut_c25 : Code := Code.snd words_Cut_c22
noncomputable abbrev words_Cut_c26 : Code := Code.fst words_Cut_c25
noncomputable abbrev words_Cut_c27 : Code := Code.snd words_Cut_c25
noncomputable abbrev words_Cut_c28 : Code := Code.fst words_Cut_c26
noncomputable abbrev words_Cut_c29 : Code := Code.snd words_Cut_c26
noncomputable abbrev words_Cut_c30 : Code := Code.fst words_Cut_c23
noncomputable abbrev words_Cut_c31 : Code := Code.snd words_Cut_c23
noncomputable abbrev words_Cut_c32 : Code := Code.fst words_Cut_c31
noncomputable abbrev words_Cut_c33 : Code := Code.snd words_Cut_c31
noncomputable abbrev words_Cut_c34 : Code := Code.fst words_Cut_c32
noncomputable abbrev words_Cut_c35 : Code := Code.snd words_Cut_c32
noncomputable abbrev words_Cut_c36 : Code := Code.fst words_Cut_c35
noncomputable abbrev words_Cut_c37 : Code := Code.fst words_Cut_c36
noncomputable abbrev words_Cut_c38 : Code := Code.snd words_Cut_c36
noncomputable abbrev words_Cut_c39 : Code := Code.fst words_Cut_c38
noncomputable abbrev words_Cut_c40 : Code := Code.snd words_Cut_c38
noncomputable abbrev words_Cut_c41 : Code := Code.fst words_Cut_c39
noncomputable abbrev words_Cut_c42 : Code := Code.snd words_Cut_c39
noncomputable abbrev words_Cut_c43 : Code := Code.fst words_Cut_c40
noncomputable abbrev words_Cut_c44 : Code := Code.snd words_Cut_c40
noncomputable abbrev words_Cut_c45 : Code := Code.fst words_Cut_c44
noncomputable abbrev words_Cut_c46 : Code := Code.snd words_Cut_c44
noncomputable abbrev words_Cut_c48 : Code := Code.snd words_Cut_c33
noncomputable abbrev words_Cut_c47 : Code := Code.snd words_Cut_c48
noncomputable abbrev words_Cut_c49 : Code := Code.fst words_Cut_c47
noncomputable abbrev words_Cut_c50 : Code := Code.snd words_Cut_c47
noncomputable abbrev words_Cut_c51 : Code := Code.fst words_Cut_c49
noncomputable abbrev words_Cut_c52 : Code := Code.snd words_Cut_c49
noncomputable abbrev words_Cut_c53 : Code := Code.fst words_Cut_c52
noncomputable abbrev words_Cut_c54 : Code := Code.snd words_Cut_c52
noncomputable abbrev words_Cut_c55 : Code := Code.fst words_Cut_c53
noncomputable abbrev words_Cut_c56 : Code := Code.snd words_Cut_c53
noncomputable abbrev words_Cut_c57 : Code := Code.fst words_Cut_c50
noncomputable abbrev words_Cut_c58 : Code := Code.snd words_Cut_c50
noncomputable abbrev words_Cut_c59 : Code := Code.fst words_Cut_c46
noncomputable abbrev words_Cut_c60 : Code := Code.snd words_Cut_c46
noncomputable abbrev words_Cut_c61 : Code := Code.fst words_Cut_c60
noncomputable abbrev words_Cut_c62 : Code := Code.snd words_Cut_c60
noncomputable abbrev words_Cut_c63 : Code := Code.snd words_Cut_c58
noncomputable abbrev words_Cut_c64 : Code := Code.fst words_Cut_c63
noncomputable abbrev words_Cut_c65 : Code := Code.snd words_Cut_c63
noncomputable abbrev words_Cut_c66 : Code := Code.fst words_Cut_c64
noncomputable abbrev words_Cut_c67 : Code := Code.snd words_Cut_c64
noncomputable abbrev words_Cut_c68 : Code := Code.fst words_Cut_c67
noncomputable abbrev words_Cut_c69 : Code := Code.snd words_Cut_c67
noncomputable abbrev words_Cut_c70 : Code := Code.fst words_Cut_c68
noncomputable abbrev words_Cut_c71 : Code := Code.snd words_Cut_c68
noncomputable abbrev words_Cut_c72 : Code := Code.fst words_Cut_c65
noncomputable abbrev words_Cut_c73 : Code := Code.snd words_Cut_c65
noncomputable abbrev words_Cut_c74 : Code := Code.fst words_Cut_c72
noncomputable abbrev words_Cut_c75 : Code := Code.snd words_Cut_c72
noncomputable abbrev words_Cut_c76 : Code := Code.fst words_Cut_c75
noncomputable abbrev words_Cut_c77 : Code := Code.snd words_Cut_c75
noncomputable abbrev words_Cut_c78 : Code := Code.fst words_Cut_c76
noncomputable abbrev words_Cut_c79 : Code := Code.snd words_Cut_c76
noncomputable abbrev words_Cut_c80 : Code := Code.fst words_Cut_c73
noncomputable abbrev words_Cut_c81 : Code := Code.snd words_Cut_c73
noncomputable abbrev words_Cut_c82 : Code := Code.fst words_Cut_c81
noncomputable abbrev words_Cut_c83 : Code := Code.snd words_Cut_c81
noncomputable abbrev words_Cut_c84 : Code := Code.fst words_Cut_c62
noncomputable abbrev words_Cut_c85 : Code := Code.snd words_Cut_c62
noncomputable abbrev words_Cut_c86 : Code := Code.fst words_Cut_c85
noncomputable abbrev words_Cut_c87 : Code := Code.snd words_Cut_c85
noncomputable abbrev words_Cut_c88 : Code := Code.fst words_Cut_c86
noncomputable abbrev words_Cut_c89 : Code := Code.snd words_Cut_c86
noncomputable abbrev words_Cut_c90 : Code := Code.snd words_Cut_c83
noncomputable abbrev words_Cut_c91 : Code := Code.fst words_Cut_c90
noncomputable abbrev words_Cut_c92 : Code := Code.snd words_Cut_c90
noncomputable abbrev words_Cut_c93 : Code := Code.fst words_Cut_c91
noncomputable abbrev words_Cut_c94 : Code := Code.snd words_Cut_c91
noncomputable abbrev words_Cut_c95 : Code := Code.fst words_Cut_c94
noncomputable abbrev words_Cut_c96 : Code := Code.snd words_Cut_c94
noncomputable abbrev words_Cut_c97 : Code := Code.fst words_Cut_c95
noncomputable abbrev words_Cut_c98 : Code := Code.snd words_Cut_c95
noncomputable abbrev words_Cut_c99 : Code := Code.fst words_Cut_c98
noncomputable abbrev words_Cut_c100 : Code := Code.snd words_Cut_c98
noncomputable abbrev words_Cut_c101 : Code := Code.fst words_Cut_c92
noncomputable abbrev words_Cut_c102 : Code := Code.snd words_Cut_c92
noncomputable abbrev words_Cut_c103 : Code := Code.fst words_Cut_c101
noncomputable abbrev words_Cut_c104 : Code := Code.snd words_Cut_c101
noncomputable abbrev words_Cut_c105 : Code := Code.fst words_Cut_c104
noncomputable abbrev words_Cut_c106 : Code := Code.snd words_Cut_c104
noncomputable abbrev words_Cut_c107 : Code := Code.fst words_Cut_c102
noncomputable abbrev words_Cut_c108 : Code := Code.snd words_Cut_c102
noncomputable abbrev words_Cut_c109 : Code := Code.fst words_Cut_c108
noncomputable abbrev words_Cut_c110 : Code := Code.snd words_Cut_c108
noncomputable abbrev words_Cut_c111 : Code := Code.fst words_Cut_c105
noncomputable abbrev words_Cut_c112 : Code := Code.snd words_Cut_c105
noncomputable abbrev words_Cut_c113 : Code := Code.fst words_Cut_c87
noncomputable abbrev words_Cut_c114 : Code := Code.snd words_Cut_c87
noncomputable abbrev words_Cut_c115 : Code := Code.fst words_Cut_c114
noncomputable abbrev words_Cut_c116 : Code := Code.snd words_Cut_c114
noncomputable abbrev words_Cut_c117 : Code := Code.snd words_Cut_c110
noncomputable abbrev words_Cut_c118 : Code := Code.fst words_Cut_c117
noncomputable abbrev words_Cut_c119 : Code := Code.snd words_Cut_c117
noncomputable abbrev words_Cut_c120 : Code := Code.fst words_Cut_c118
noncomputable abbrev words_Cut_c121 : Code := Code.snd words_Cut_c118
noncomputable abbrev words_Cut_c122 : Code := Code.fst words_Cut_c121
noncomputable abbrev words_Cut_c123 : Code := Code.snd words_Cut_c121
noncomputable abbrev words_Cut_c124 : Code := Code.fst words_Cut_c123
noncomputable abbrev words_Cut_c125 : Code := Code.snd words_Cut_c123
noncomputable abbrev words_Cut_c126 : Code := Code.fst words_Cut_c119
noncomputable abbrev words_Cut_c127 : Code := Code.snd words_Cut_c119
noncomputable abbrev words_Cut_c128 : Code := Code.fst words_Cut_c127
noncomputable abbrev words_Cut_c129 : Code := Code.snd words_Cut_c127
noncomputable abbrev words_Cut_c130 : Code := Code.fst words_Cut_c124
noncomputable abbrev words_Cut_c131 : Code := Code.snd words_Cut_c124
noncomputable abbrev words_Cut_c132 : Code := Code.fst words_Cut_c116
noncomputable abbrev words_Cut_c133 : Code := Code.snd words_Cut_c116
noncomputable abbrev words_Cut_c134 : Code := Code.fst words_Cut_c133
noncomputable abbrev words_Cut_c135 : Code := Code.snd words_Cut_c133
noncomputable abbrev words_Cut_c136 : Code := Code.snd words_Cut_c129
noncomputable abbrev words_Cut_c137 : Code := Code.fst words_Cut_c136
noncomputable abbrev words_Cut_c138 : Code := Code.snd words_Cut_c136
noncomputable abbrev words_Cut_c139 : Code := Code.fst words_Cut_c137
noncomputable abbrev words_Cut_c140 : Code := Code.snd words_Cut_c137
noncomputable abbrev words_Cut_c141 : Code := Code.fst words_Cut_c140
noncomputable abbrev words_Cut_c142 : Code := Code.snd words_Cut_c140
noncomputable abbrev words_Cut_c143 : Code := Code.fst words_Cut_c142
noncomputable abbrev words_Cut_c144 : Code := Code.snd words_Cut_c142
noncomputable abbrev words_Cut_c145 : Code := Code.fst words_Cut_c138
noncomputable abbrev words_Cut_c146 : Code := Code.snd words_Cut_c138
noncomputable abbrev words_Cut_c147 : Code := Code.fst words_Cut_c143
noncomputable abbrev words_Cut_c148 : Code := Code.snd words_Cut_c143
noncomputable abbrev words_Cut_c149 : Code := Code.fst words_Cut_c135
noncomputable abbrev words_Cut_c150 : Code := Code.snd words_Cut_c135
noncomputable abbrev words_Cut_c151 : Code := Code.fst words_Cut_c150
noncomputable abbrev words_Cut_c152 : Code := Code.snd words_Cut_c150
noncomputable abbrev words_Cut_c153 : Code := Code.fst words_Cut_c151
noncomputable abbrev words_Cut_c154 : Code := Code.snd words_Cut_c151
noncomputable abbrev words_Cut_c155 : Code := Code.fst words_Cut_c154
noncomputable abbrev words_Cut_c156 : Code := Code.snd words_Cut_c154
noncomputable abbrev words_Cut_c157 : Code := Code.fst words_Cut_c33
noncomputable abbrev words_Cut_c158 : Code := Code.fst words_Cut_c157
noncomputable abbrev words_Cut_c159 : Code := Code.snd words_Cut_c157
abbrev words_Cut_R (w : World) (F : Nat → Prop) (r : (List api_Word) × Int × Int) : Ending → World → Prop := fun e w' => ∃ A0 : Option Addr, ∃ c0 : Nat, e = .returned (.tuple #[.slice A0 r.1.length c0, .int .i64 r.2.1, .int .i64 r.2.2]) ∧ Below w.heap.size w w' ∧ w'.ownsRow 0 29 4 (.slice A0 r.1.length c0) r.1.length (r.1.flatMap enc_api_Word) ∧ (∀ b, (Value.slice A0 r.1.length c0).ownBlock = some b → w.heap.size ≤ b) ∧ r.1.length ≤ c0 ∧ c0 ≤ maxLen
noncomputable abbrev words_Cut_C (w : World) (F : Nat → Prop) (r : (List api_Word) × Int × Int) : Cx := ⟨Try.prog, 4, Try.f4, 170, words_Cut_R w F r, w⟩
theorem words_Cut_calls {w : World} {F : Nat → Prop} (hF : ∀ b, F b → b < w.heap.size) (x1 : ByteArray) (r : (List api_Word) × Int × Int) (h : words_Cut x1 r) : Calls Try.prog 4 #[.string x1] w (words_Cut_R w F r) := by
  unfold words_Cut at h
  refine calls_of_G (vs := [.string x1]) 170 Try.func4 rfl Try.ntmps4 rfl F ?_
  show G (words_Cut_C w F r) _ _ _ _
  refine g_seq (c := words_Cut_c0) rfl ?_
  refine g_region (c := words_Cut_c1) rfl rfl ?_
  refine wl_v 0 rfl (v_assign rfl) gn rfl ?_
  refine wl_v 1 rfl (v_assign rfl) gn rfl ?_
  refine wl_v 2 rfl (v_assign rfl) gn rfl ?_
  refine w_end 3 rfl ?_
  refine g_scope (c := words_Cut_c2) rfl ?_
  refine g_seq (c := words_Cut_c3) rfl ?_
  refine g_seq (c := words_Cut_c4) rfl ?_
  refine g_region (c := words_Cut_c6) rfl rfl ?_
  refine wl_v 0 rfl (v_move rfl) gn rfl ?_
  refine wl_v 1 rfl (v_lenS un_9 rfl) gn rfl ?_
  refine wl_v 2 rfl (v_bin rfl rfl rfl) gn rfl ?_
  refine w_end 3 rfl ?_
  by_cases hp2 : (x1.size : Int) > 16384
  · have h := if_pos' hp2 h
    refine g_true (c := words_Cut_c7) rfl _ rfl ((decide_eq_true hp2)) ?_
    refine g_seq (c := words_Cut_c8) rfl ?_
    refine g_region (c := words_Cut_c10) rfl rfl ?_
    refine wl_v 0 rfl (v_assign rfl) gn rfl ?_
    refine wl_v 1 rfl (v_assign rfl) gn rfl ?_
    refine wl_v 2 rfl (v_assign rfl) gn rfl ?_
    refine w_end 3 rfl ?_
    refine g_retR (c := words_Cut_c11) [.slice none 0 0, .int .i64 80, .int .i64 16384] rfl Try.func4 rfl (.tmp rfl (.tmp rfl (.tmp rfl (.nil)))) fun wr hLr => ?_
    show words_Cut_R w F r (.returned (packV [.slice none 0 0, .int .i64 80, .int .i64 16384])) wr
    rw [h]
    exact ⟨none, 0, rfl, hLr.below (me 1 rfl), World.ownsRow_nil _ _ _ _, (fun b hb => by cases hb), Nat.zero_le _, Nat.zero_le _⟩
  · have h := if_neg' hp2 h
    refine g_false (c := words_Cut_c7) rfl _ rfl ((decide_eq_false hp2)) ?_
    refine g_skip (c := words_Cut_c9) rfl ?_
    refine g_seq (c := words_Cut_c5) rfl ?_
    refine g_region (c := words_Cut_c12) rfl rfl ?_
    refine wl_v 0 rfl (v_assign rfl) gn rfl ?_
    refine w_end 1 rfl ?_
    refine g_seq (c := words_Cut_c13) rfl ?_
    refine g_region (c := words_Cut_c14) rfl rfl ?_
    refine wl_v 0 rfl (v_assign rfl) gn rfl ?_
    refine w_end 1 rfl ?_
    refine g_seq (c := words_Cut_c15) rfl ?_
    refine g_region (c := words_Cut_c16) rfl rfl ?_
    refine wl_v 0 rfl (v_assign rfl) gn rfl ?_
    refine w_end 1 rfl ?_
    refine g_seq (c := words_Cut_c17) rfl ?_
    refine g_region (c := words_Cut_c18) rfl rfl ?_
    refine wl_v 0 rfl (v_assign rfl) gn rfl ?_
    refine wl_v 1 rfl (v_assign rfl) gn rfl ?_
    refine wl_v 2 rfl (v_assign rfl) gn rfl ?_
    refine w_end 3 rfl ?_
    refine g_seq (c := words_Cut_c19) rfl ?_
    refine g_label (c := words_Cut_c20) rfl ?_
    have key1 : ∀ s, Rounds (fun (s : (List api_Word) × Int) o => words_Cut_b1 x1 s.1 s.2 o) s r → (fun (s : (List api_Word) × Int) => ∀ (A406 : Option Addr) (n408 : Nat) (c407 : Nat) (hq412 : n408 = s.1.length) (hA409 : 0 < n408 → A406.isSome = true) (hn410 : n408 ≤ c407) (hm411 : c407 ≤ maxLen), G (words_Cut_C w F r) [.code words_Cut_c21, .inScope words_Cut_c3] [(0, .string x1), (5, .slice A406 n408 c407), (8, .int .i64 s.2)] [.own (.slice A406 n408 c407) 29 4 n408 (s.1.flatMap enc_api_Word)] [Sm w.heap.size F w [], St w []]) s := by
      intro s hs
      refine Rounds.ind (mot := (fun (s : (List api_Word) × Int) => ∀ (A406 : Option Addr) (n408 : Nat) (c407 : Nat) (hq412 : n408 = s.1.length) (hA409 : 0 < n408 → A406.isSome = true) (hn410 : n408 ≤ c407) (hm411 : c407 ≤ maxLen), G (words_Cut_C w F r) [.code words_Cut_c21, .inScope words_Cut_c3] [(0, .string x1), (5, .slice A406 n408 c407), (8, .int .i64 s.2)] [.own (.slice A406 n408 c407) 29 4 n408 (s.1.flatMap enc_api_Word)] [Sm w.heap.size F w [], St w []])) ?_ hs
      clear hs s
      intro s o1 h hO1
      obtain ⟨x405, x413⟩ := s
      intro A406 n408 c407 hq412 hA409 hn410 hm411
      have h : words_Cut_b1 x1 x405 x413 o1 := h
      unfold words_Cut_b1 at h
      show G (words_Cut_C w F r) [.code words_Cut_c21, .inScope words_Cut_c3] [(0, .string x1), (5, .slice A406 n408 c407), (8, .int .i64 x413)] [.own (.slice A406 n408 c407) 29 4 n408 (x405.flatMap enc_api_Word)] [Sm w.heap.size F w [], St w []]
      refine g_seq (c := words_Cut_c21) rfl ?_
      refine g_seq (c := words_Cut_c22) rfl ?_
      refine g_region (c := words_Cut_c24) rfl rfl ?_
      refine wl_v 0 rfl (v_move rfl) gn rfl ?_
      refine wl_v 1 rfl (v_move rfl) gn rfl ?_
      refine wl_v 2 rfl (v_lenS un_9 rfl) gn rfl ?_
      refine wl_v 3 rfl (v_bin rfl rfl rfl) gn rfl ?_
      refine w_end 4 rfl ?_
      by_cases hp903 : x413 = (x1.size : Int)
      · have h := if_pos' hp903 h
        refine g_true (c := words_Cut_c25) rfl _ rfl ((eqi hp903)) ?_
        refine g_seq (c := words_Cut_c26) rfl ?_
        refine g_region (c := words_Cut_c28) rfl rfl ?_
        refine wl_v 0 rfl (v_move rfl) gn rfl ?_
        refine wl_v 1 rfl (v_assign rfl) gn rfl ?_
        refine wl_v 2 rfl (v_assign rfl) gn rfl ?_
        refine wl_v 3 rfl (v_assign rfl) gn rfl ?_
        refine w_end 4 rfl ?_
        have h := Out.inr hO1 h
        refine g_retR (c := words_Cut_c29) [.slice A406 n408 c407, .int .i64 0, .int .i64 0] rfl Try.func4 rfl (.tmp rfl (.tmp rfl (.tmp rfl (.nil)))) fun wr hLr => ?_
        show words_Cut_R w F r (.returned (packV [.slice A406 n408 c407, .int .i64 0, .int .i64 0])) wr
        rw [h]
        rw [show packV [.slice A406 n408 c407, .int .i64 0, .int .i64 0] = packV [.slice A406 x405.length c407, .int .i64 0, .int .i64 0] from by rw [hq412]]
        exact ⟨A406, c407, rfl, hLr.below (me 1 rfl), hq_own hq412 (hLr.ok _ (me 0 rfl)), (fun b hb => (hLr.new (me 1 rfl) (me 0 rfl) (ob_len (n := n408) (c := c407) hb)).1), (hq_le hq412 hn410), hm411⟩
      · have h := if_neg' hp903 h
        refine g_false (c := words_Cut_c25) rfl _ rfl ((nei hp903)) ?_
        refine g_skip (c := words_Cut_c27) rfl ?_
        refine g_seq (c := words_Cut_c23) rfl ?_
        refine g_region (c := words_Cut_c30) rfl rfl ?_
        refine wl_v 0 rfl (v_move rfl) gn rfl ?_
        refine wl_v 1 rfl (v_assign rfl) gn rfl ?_
        refine w_end 2 rfl ?_
        refine g_seq (c := words_Cut_c31) rfl ?_
        refine g_seq (c := words_Cut_c32) rfl ?_
        refine g_region (c := words_Cut_c34) rfl rfl ?_
        refine wl_v 0 rfl (v_move rfl) gn rfl ?_
        refine wl_v 1 rfl (v_move rfl) gn rfl ?_
        obtain ⟨hb904, h⟩ := h
        refine wl_v 2 rfl (v_indexS un_9 rfl rfl hb904) gn rfl ?_
        refine wl_v 3 rfl (v_assign rfl) gn rfl ?_
        refine w_end 4 rfl ?_
        refine g_block (c := words_Cut_c35) rfl ?_
        refine g_seq (c := words_Cut_c36) rfl ?_
        refine g_region (c := words_Cut_c37) rfl rfl ?_
        refine wl_v 0 rfl (v_move rfl) gn rfl ?_
        obtain ⟨r907, hv908, h⟩ := h
        refine wl_s 1 rfl (s_call [.int .u8 (bt x1 x413)] rfl Try.func7 rfl rfl rfl fun w905 hL906 => ?_) gn
        refine Calls.mono (words_blank_calls (w := w905) (F := fun b => b < w905.heap.size) (fun b hb => hb) (bt x1 x413) r907 hv908) ?_
        rintro _ w909 ⟨rfl, hbl910⟩
        refine ⟨_, _, _, rfl, hL906.sameB hbl910, ?_⟩
        refine wl_v 2 rfl (v_assign rfl) gn rfl ?_
        refine w_end 3 rfl ?_
        by_cases hp911 : r907 = true
        · have h := if_pos' hp911 h
          refine g_true (c := words_Cut_c38) rfl _ rfl (hp911) ?_
          refine g_seq (c := words_Cut_c39) rfl ?_
          refine g_region (c := words_Cut_c41) rfl rfl ?_
          refine wl_v 0 rfl (v_move rfl) gn rfl ?_
          refine wl_v 1 rfl (v_bin rfl rfl rfl) gn rfl ?_
          refine wl_v 2 rfl (v_assign rfl) gn rfl ?_
          refine w_end 3 rfl ?_
          refine g_goto (c := words_Cut_c42) [.code (.seq .skip words_Cut_c21), .inScope words_Cut_c3] rfl rfl ?_
          refine g_seq rfl ?_
          refine g_skip rfl ?_
          have ih := Out.inl hO1 h
          exact g_go [0, 1] (ih A406 n408 c407 hq412 hA409 hn410 hm411) ⟨rfl, rfl, rfl, trivial⟩ (.cons_cons _ (.slnil)) rfl
        · have h := if_neg' hp911 h
          refine g_false (c := words_Cut_c38) rfl _ rfl ((bf hp911)) ?_
          refine g_seq (c := words_Cut_c40) rfl ?_
          refine g_region (c := words_Cut_c43) rfl rfl ?_
          refine wl_v 0 rfl (v_move rfl) gn rfl ?_
          refine wl_v 1 rfl (v_bin rfl rfl rfl) gn rfl ?_
          refine wl_v 2 rfl (v_assign rfl) gn rfl ?_
          refine w_end 3 rfl ?_
          by_cases hp912 : bt x1 x413 = 35
          · have h := if_pos' hp912 h
            refine g_true (c := words_Cut_c44) rfl _ rfl ((eqi hp912)) ?_
            refine g_goto (c := words_Cut_c45) [.code (.seq .skip words_Cut_c47), .inScope words_Cut_c3] rfl rfl ?_
            refine g_seq rfl ?_
            refine g_skip rfl ?_
            have key2 : ∀ s, Rounds (fun (s : Int) o => words_Cut_b2 x1 x405 s o) s o1 → (fun (s : Int) => ∀ (A913 : Option Addr) (n915 : Nat) (c914 : Nat) (hq919 : n915 = x405.length) (hA916 : 0 < n915 → A913.isSome = true) (hn917 : n915 ≤ c914) (hm918 : c914 ≤ maxLen), G (words_Cut_C w F r) [.code words_Cut_c47, .inScope words_Cut_c3] [(0, .string x1), (5, .slice A913 n915 c914), (8, .int .i64 s)] [.own (.slice A913 n915 c914) 29 4 n915 (x405.flatMap enc_api_Word)] [Sm w.heap.size F w [], St w []]) s := by
              intro s hs
              refine Rounds.ind (mot := (fun (s : Int) => ∀ (A913 : Option Addr) (n915 : Nat) (c914 : Nat) (hq919 : n915 = x405.length) (hA916 : 0 < n915 → A913.isSome = true) (hn917 : n915 ≤ c914) (hm918 : c914 ≤ maxLen), G (words_Cut_C w F r) [.code words_Cut_c47, .inScope words_Cut_c3] [(0, .string x1), (5, .slice A913 n915 c914), (8, .int .i64 s)] [.own (.slice A913 n915 c914) 29 4 n915 (x405.flatMap enc_api_Word)] [Sm w.heap.size F w [], St w []])) ?_ hs
              clear hs s
              intro x931 o2 h hO2
              intro A913 n915 c914 hq919 hA916 hn917 hm918
              have h : words_Cut_b2 x1 x405 x931 o2 := h
              unfold words_Cut_b2 at h
              show G (words_Cut_C w F r) [.code words_Cut_c47, .inScope words_Cut_c3] [(0, .string x1), (5, .slice A913 n915 c914), (8, .int .i64 x931)] [.own (.slice A913 n915 c914) 29 4 n915 (x405.flatMap enc_api_Word)] [Sm w.heap.size F w [], St w []]
              refine g_seq (c := words_Cut_c47) rfl ?_
              refine g_seq (c := words_Cut_c49) rfl ?_
              have j3 : ∀ (x954 : Bool) (h : words_Cut_j3 x931 x405 x954 o2) (A947 : Option Addr) (n949 : Nat) (c948 : Nat) (hq953 : n949 = x405.length) (hA950 : 0 < n949 → A947.isSome = true) (hn951 : n949 ≤ c948) (hm952 : c948 ≤ maxLen), G (words_Cut_C w F r) [.code words_Cut_c52, .code words_Cut_c50, .inScope words_Cut_c3] [(0, .string x1), (5, .slice A947 n949 c948), (8, .int .i64 x931), (69, .bool x954)] [.own (.slice A947 n949 c948) 29 4 n949 (x405.flatMap enc_api_Word)] [Sm w.heap.size F w [], St w []] := by
                intro x954 h A947 n949 c948 hq953 hA950 hn951 hm952
                unfold words_Cut_j3 at h
                by_cases hp955 : x954 = true
                · have h := if_pos' hp955 h
                  refine g_true (c := words_Cut_c52) rfl _ rfl (hp955) ?_
                  refine g_seq (c := words_Cut_c53) rfl ?_
                  refine g_region (c := words_Cut_c55) rfl rfl ?_
                  refine wl_v 0 rfl (v_move rfl) gn rfl ?_
                  refine wl_v 1 rfl (v_bin rfl rfl rfl) gn rfl ?_
                  refine wl_v 2 rfl (v_assign rfl) gn rfl ?_
                  refine w_end 3 rfl ?_
                  refine g_goto (c := words_Cut_c56) [.code (.seq .skip words_Cut_c47), .inScope words_Cut_c3] rfl rfl ?_
                  refine g_seq rfl ?_
                  refine g_skip rfl ?_
                  have ih := Out.inl hO2 h
                  exact g_go [0, 1] (ih A947 n949 c948 hq953 hA950 hn951 hm952) ⟨rfl, rfl, rfl, trivial⟩ (.cons_cons _ (.slnil)) rfl
                · have h := if_neg' hp955 h
                  refine g_false (c := words_Cut_c52) rfl _ rfl ((bf hp955)) ?_
                  refine g_skip (c := words_Cut_c54) rfl ?_
                  refine g_seq (c := words_Cut_c50) rfl ?_
                  refine g_goto (c := words_Cut_c57) [.code (.seq .skip words_Cut_c21), .inScope words_Cut_c3] rfl rfl ?_
                  refine g_seq rfl ?_
                  refine g_skip rfl ?_
                  have h := Out.inr hO2 h
                  have ih := Out.inl hO1 h
                  exact g_go [0, 1] (ih A947 n949 c948 hq953 hA950 hn951 hm952) ⟨rfl, rfl, rfl, trivial⟩ (.cons_cons _ (.slnil)) rfl
              refine g_region (c := words_Cut_c51) rfl rfl ?_
              refine wl_v 0 rfl (v_move rfl) gn rfl ?_
              refine wl_v 1 rfl (v_move rfl) gn rfl ?_
              refine wl_v 2 rfl (v_lenS un_9 rfl) gn rfl ?_
              refine wl_v 3 rfl (v_bin rfl rfl rfl) gn rfl ?_
              refine wl_v 4 rfl (v_move rfl) gn rfl ?_
              by_cases hp956 : x931 < (x1.size : Int)
              · have h := if_pos' hp956 h
                refine w_bool 64 rfl ((decide_eq_true hp956)) ?_
                refine wl_v 5 rfl (v_move rfl) (gy 64 rfl rfl) rfl ?_
                refine wl_v 6 rfl (v_move rfl) (gy 64 rfl rfl) rfl ?_
                obtain ⟨hb957, h⟩ := h
                refine wl_v 7 rfl (v_indexS un_9 rfl rfl hb957) (gy 64 rfl rfl) rfl ?_
                refine wl_v 8 rfl (v_bin rfl rfl rfl) (gy 64 rfl rfl) rfl ?_
                refine wl_v 9 rfl (v_pick (b := true) rfl rfl) gn rfl ?_
                refine w_end 10 rfl ?_
                exact g_go [0, 1] (j3 ((bt x1 x931) != 10) h A913 n915 c914 hq919 hA916 hn917 hm918) ⟨rfl, rfl, rfl, rfl, trivial⟩ (.cons_cons _ (.slnil)) rfl
              · have h := if_neg' hp956 h
                refine w_bool 64 rfl ((decide_eq_false hp956)) ?_
                refine wl_pass 5 rfl (ps 64 rfl rfl rfl) ?_
                refine wl_pass 6 rfl (ps 64 rfl rfl rfl) ?_
                refine wl_pass 7 rfl (ps 64 rfl rfl rfl) ?_
                refine wl_pass 8 rfl (ps 64 rfl rfl rfl) ?_
                refine wl_v 9 rfl (v_pick (b := false) rfl rfl) gn rfl ?_
                refine w_end 10 rfl ?_
                exact g_go [0, 1] (j3 false h A913 n915 c914 hq919 hA916 hn917 hm918) ⟨rfl, rfl, rfl, rfl, trivial⟩ (.cons_cons _ (.slnil)) rfl
            exact g_go [0, 1] (key2 _ h A406 n408 c407 hq412 hA409 hn410 hm411) ⟨rfl, rfl, rfl, trivial⟩ (.cons_cons _ (.slnil)) rfl
          · have h := if_neg' hp912 h
            refine g_false (c := words_Cut_c44) rfl _ rfl ((nei hp912)) ?_
            refine g_seq (c := words_Cut_c46) rfl ?_
            refine g_region (c := words_Cut_c59) rfl rfl ?_
            refine wl_v 0 rfl (v_move rfl) gn rfl ?_
            obtain ⟨r960, hv961, h⟩ := h
            refine wl_s 1 rfl (s_call [.int .u8 (bt x1 x413)] rfl Try.func8 rfl rfl rfl fun w958 hL959 => ?_) gn
            refine Calls.mono (words_letter_calls (w := w958) (F := fun b => b < w958.heap.size) (fun b hb => hb) (bt x1 x413) r960 hv961) ?_
            rintro _ w962 ⟨rfl, hbl963⟩
            refine ⟨_, _, _, rfl, hL959.sameB hbl963, ?_⟩
            refine wl_v 2 rfl (v_assign rfl) gn rfl ?_
            refine w_end 3 rfl ?_
            by_cases hp964 : r960 = true
            · have h := if_pos' hp964 h
              refine g_true (c := words_Cut_c60) rfl _ rfl (hp964) ?_
              refine g_goto (c := words_Cut_c61) [.code (.seq .skip words_Cut_c63), .inScope words_Cut_c3] rfl rfl ?_
              refine g_seq rfl ?_
              refine g_skip rfl ?_
              have key4 : ∀ s, Rounds (fun (s : Int) o => words_Cut_b4 x1 x413 x405 s o) s o1 → (fun (s : Int) => ∀ (A965 : Option Addr) (n967 : Nat) (c966 : Nat) (hq971 : n967 = x405.length) (hA968 : 0 < n967 → A965.isSome = true) (hn969 : n967 ≤ c966) (hm970 : c966 ≤ maxLen), G (words_Cut_C w F r) [.code words_Cut_c63, .inScope words_Cut_c3] [(0, .string x1), (5, .slice A965 n967 c966), (8, .int .i64 s), (9, .int .i64 x413)] [.own (.slice A965 n967 c966) 29 4 n967 (x405.flatMap enc_api_Word)] [Sm w.heap.size F w [], St w []]) s := by
                intro s hs
                refine Rounds.ind (mot := (fun (s : Int) => ∀ (A965 : Option Addr) (n967 : Nat) (c966 : Nat) (hq971 : n967 = x405.length) (hA968 : 0 < n967 → A965.isSome = true) (hn969 : n967 ≤ c966) (hm970 : c966 ≤ maxLen), G (words_Cut_C w F r) [.code words_Cut_c63, .inScope words_Cut_c3] [(0, .string x1), (5, .slice A965 n967 c966), (8, .int .i64 s), (9, .int .i64 x413)] [.own (.slice A965 n967 c966) 29 4 n967 (x405.flatMap enc_api_Word)] [Sm w.heap.size F w [], St w []])) ?_ hs
                clear hs s
                intro x1022 o2 h hO2
                intro A965 n967 c966 hq971 hA968 hn969 hm970
                have h : words_Cut_b4 x1 x413 x405 x1022 o2 := h
                unfold words_Cut_b4 at h
                show G (words_Cut_C w F r) [.code words_Cut_c63, .inScope words_Cut_c3] [(0, .string x1), (5, .slice A965 n967 c966), (8, .int .i64 x1022), (9, .int .i64 x413)] [.own (.slice A965 n967 c966) 29 4 n967 (x405.flatMap enc_api_Word)] [Sm w.heap.size F w [], St w []]
                refine g_seq (c := words_Cut_c63) rfl ?_
                refine g_seq (c := words_Cut_c64) rfl ?_
                have j5 : ∀ (x1097 : Bool) (h : words_Cut_j5 x1022 x413 x1 x405 x1097 o2) (A1090 : Option Addr) (n1092 : Nat) (c1091 : Nat) (hq1096 : n1092 = x405.length) (hA1093 : 0 < n1092 → A1090.isSome = true) (hn1094 : n1092 ≤ c1091) (hm1095 : c1091 ≤ maxLen), G (words_Cut_C w F r) [.code words_Cut_c67, .code words_Cut_c65, .inScope words_Cut_c3] [(0, .string x1), (5, .slice A1090 n1092 c1091), (8, .int .i64 x1022), (9, .int .i64 x413), (87, .bool x1097)] [.own (.slice A1090 n1092 c1091) 29 4 n1092 (x405.flatMap enc_api_Word)] [Sm w.heap.size F w [], St w []] := by
                  intro x1097 h A1090 n1092 c1091 hq1096 hA1093 hn1094 hm1095
                  unfold words_Cut_j5 at h
                  by_cases hp1098 : x1097 = true
                  · have h := if_pos' hp1098 h
                    refine g_true (c := words_Cut_c67) rfl _ rfl (hp1098) ?_
                    refine g_seq (c := words_Cut_c68) rfl ?_
                    refine g_region (c := words_Cut_c70) rfl rfl ?_
                    refine wl_v 0 rfl (v_move rfl) gn rfl ?_
                    refine wl_v 1 rfl (v_bin rfl rfl rfl) gn rfl ?_
                    refine wl_v 2 rfl (v_assign rfl) gn rfl ?_
                    refine w_end 3 rfl ?_
                    refine g_goto (c := words_Cut_c71) [.code (.seq .skip words_Cut_c63), .inScope words_Cut_c3] rfl rfl ?_
                    refine g_seq rfl ?_
                    refine g_skip rfl ?_
                    have ih := Out.inl hO2 h
                    exact g_go [0, 1] (ih A1090 n1092 c1091 hq1096 hA1093 hn1094 hm1095) ⟨rfl, rfl, rfl, rfl, trivial⟩ (.cons_cons _ (.slnil)) rfl
                  · have h := if_neg' hp1098 h
                    refine g_false (c := words_Cut_c67) rfl _ rfl ((bf hp1098)) ?_
                    refine g_skip (c := words_Cut_c69) rfl ?_
                    refine g_seq (c := words_Cut_c65) rfl ?_
                    refine g_seq (c := words_Cut_c72) rfl ?_
                    refine g_region (c := words_Cut_c74) rfl rfl ?_
                    refine wl_v 0 rfl (v_move rfl) gn rfl ?_
                    refine wl_v 1 rfl (v_move rfl) gn rfl ?_
                    refine wl_v 2 rfl (v_bin rfl rfl rfl) gn rfl ?_
                    refine wl_v 3 rfl (v_bin rfl rfl rfl) gn rfl ?_
                    refine w_end 4 rfl ?_
                    by_cases hp1099 : w64 (x1022 - x413) > 24
                    · have h := if_pos' hp1099 h
                      refine g_true (c := words_Cut_c75) rfl _ rfl ((decide_eq_true hp1099)) ?_
                      refine g_seq (c := words_Cut_c76) rfl ?_
                      refine g_region (c := words_Cut_c78) rfl rfl ?_
                      refine wl_v 0 rfl (v_move rfl) gn rfl ?_
                      refine wl_v 1 rfl (v_assign rfl) gn rfl ?_
                      refine wl_v 2 rfl (v_assign rfl) gn rfl ?_
                      refine wl_v 3 rfl (v_assign rfl) gn rfl ?_
                      refine w_end 4 rfl ?_
                      have h := Out.inr hO2 h
                      have h := Out.inr hO1 h
                      refine g_retR (c := words_Cut_c79) [.slice none 0 0, .int .i64 83, .int .i64 x413] rfl Try.func4 rfl (.tmp rfl (.tmp rfl (.tmp rfl (.nil)))) fun wr hLr => ?_
                      show words_Cut_R w F r (.returned (packV [.slice none 0 0, .int .i64 83, .int .i64 x413])) wr
                      rw [h]
                      exact ⟨none, 0, rfl, hLr.below (me 1 rfl), World.ownsRow_nil _ _ _ _, (fun b hb => by cases hb), Nat.zero_le _, Nat.zero_le _⟩
                    · have h := if_neg' hp1099 h
                      refine g_false (c := words_Cut_c75) rfl _ rfl ((decide_eq_false hp1099)) ?_
                      refine g_skip (c := words_Cut_c77) rfl ?_
                      refine g_seq (c := words_Cut_c73) rfl ?_
                      refine g_region (c := words_Cut_c80) rfl rfl ?_
                      refine wl_v 0 rfl (v_move rfl) gn rfl ?_
                      refine wl_v 1 rfl (v_move rfl) gn rfl ?_
                      refine wl_v 2 rfl (v_move rfl) gn rfl ?_
                      refine wl_v 3 rfl (v_move rfl) gn rfl ?_
                      obtain ⟨hb1100, h⟩ := h
                      refine wl_v 4 rfl (v_cutS x413 x1022 un_9 rfl (.inr ⟨_, _, rfl, rfl⟩) (.inr ⟨_, _, rfl, rfl⟩) ⟨hb1100.1, hb1100.2.1⟩ hb1100.2.2) gn rfl ?_
                      refine wl_v 5 rfl (v_move rfl) gn rfl ?_
                      refine wl_v 6 rfl (v_build #[.int .i64 1, .string (x1.extract (x413 : Int).toNat (x1022 : Int).toNat), .int .i64 0, .int .i64 x413] bd_29 rfl (by kernel_rfl)) gn rfl ?_
                      refine wl_s 7 rfl (s_lit [.int .i64 1, .string (x1.extract (x413 : Int).toNat (x1022 : Int).toNat), .int .i64 0, .int .i64 x413] bs_22_1 rfl (by kernel_rfl) rfl rfl rfl fun gb1101 => ?_) gn
                      obtain ⟨x1108, hv1109, h⟩ := h
                      obtain ⟨hb1110, h⟩ := h
                      have hq1111 : n1092 + 1 = x1108.length := by have q1 : n1092 = x405.length := hq1096; have q2 : 1 = ([(⟨1, x1.extract (x413 : Int).toNat (x1022 : Int).toNat, 0, x413⟩ : api_Word)] : List api_Word).length := rfl; rw [hv1109, List.length_append]; omega
                      refine wl_s 8 rfl (s_appO (cells' := x1108.flatMap enc_api_Word) (news := ([(⟨1, x1.extract (x413 : Int).toNat (x1022 : Int).toNat, 0, x413⟩ : api_Word)] : List api_Word).flatMap enc_api_Word) 1 0 ap_22 rfl rfl rfl rfl (Nat.le_refl _) (rfl) (fm_all h1_api_Word _) rfl (by rw [hv1109, List.flatMap_append] <;> rfl) (by omega) (by omega) (by decide) rfl fun A1103 c1104 hA1105 hn1106 hm1107 => ?_) gn
                      refine wl_v 9 rfl (v_assign rfl) gn rfl ?_
                      refine w_end 10 rfl ?_
                      refine g_seq (c := words_Cut_c81) rfl ?_
                      refine g_goto (c := words_Cut_c82) [.code (.seq .skip words_Cut_c21), .inScope words_Cut_c3] rfl rfl ?_
                      refine g_seq rfl ?_
                      refine g_skip rfl ?_
                      have h := Out.inr hO2 h
                      have ih := Out.inl hO1 h
                      exact g_go [0, 1] (ih A1103 (n1092 + 1) c1104 hq1111 hA1105 hn1106 hm1107) ⟨rfl, rfl, rfl, trivial⟩ (.cons _ (.cons_cons _ (.slnil))) rfl
                refine g_region (c := words_Cut_c66) rfl rfl ?_
                refine wl_v 0 rfl (v_move rfl) gn rfl ?_
                refine wl_v 1 rfl (v_move rfl) gn rfl ?_
                refine wl_v 2 rfl (v_lenS un_9 rfl) gn rfl ?_
                refine wl_v 3 rfl (v_bin rfl rfl rfl) gn rfl ?_
                refine wl_v 4 rfl (v_move rfl) gn rfl ?_
                by_cases hp1112 : x1022 < (x1.size : Int)
                · have h := if_pos' hp1112 h
                  refine w_bool 76 rfl ((decide_eq_true hp1112)) ?_
                  refine wl_v 5 rfl (v_move rfl) (gy 76 rfl rfl) rfl ?_
                  refine wl_v 6 rfl (v_move rfl) (gy 76 rfl rfl) rfl ?_
                  obtain ⟨hb1113, h⟩ := h
                  refine wl_v 7 rfl (v_indexS un_9 rfl rfl hb1113) (gy 76 rfl rfl) rfl ?_
                  obtain ⟨r1116, hv1117, h⟩ := h
                  refine wl_s 8 rfl (s_call [.int .u8 (bt x1 x1022)] rfl Try.func8 rfl rfl rfl fun w1114 hL1115 => ?_) (gy 76 rfl rfl)
                  refine Calls.mono (words_letter_calls (w := w1114) (F := fun b => b < w1114.heap.size) (fun b hb => hb) (bt x1 x1022) r1116 hv1117) ?_
                  rintro _ w1118 ⟨rfl, hbl1119⟩
                  refine ⟨_, _, _, rfl, hL1115.sameB hbl1119, ?_⟩
                  refine wl_v 9 rfl (v_move rfl) (gy 76 rfl rfl) rfl ?_
                  by_cases hp1120 : r1116 = true
                  · have h := if_pos' hp1120 h
                    refine w_bool 81 rfl (hp1120) ?_
                    refine wl_pass 10 rfl (ps 81 rfl rfl rfl) ?_
                    refine wl_pass 11 rfl (ps 81 rfl rfl rfl) ?_
                    refine wl_pass 12 rfl (ps 81 rfl rfl rfl) ?_
                    refine wl_pass 13 rfl (ps 81 rfl rfl rfl) ?_
                    refine wl_v 14 rfl (v_pick (b := true) rfl rfl) (gy 76 rfl rfl) rfl ?_
                    refine wl_v 15 rfl (v_pick (b := true) rfl rfl) gn rfl ?_
                    refine w_end 16 rfl ?_
                    exact g_go [0, 1] (j5 true h A965 n967 c966 hq971 hA968 hn969 hm970) ⟨rfl, rfl, rfl, rfl, rfl, trivial⟩ (.cons_cons _ (.slnil)) rfl
                  · have h := if_neg' hp1120 h
                    refine w_bool 81 rfl ((bf hp1120)) ?_
                    refine wl_v 10 rfl (v_move rfl) (gy 81 rfl rfl) rfl ?_
                    refine wl_v 11 rfl (v_move rfl) (gy 81 rfl rfl) rfl ?_
                    refine wl_v 12 rfl (v_indexS un_9 rfl rfl hb1113) (gy 81 rfl rfl) rfl ?_
                    obtain ⟨r1123, hv1124, h⟩ := h
                    refine wl_s 13 rfl (s_call [.int .u8 (bt x1 x1022)] rfl Try.func9 rfl rfl rfl fun w1121 hL1122 => ?_) (gy 81 rfl rfl)
                    refine Calls.mono (words_digit_calls (w := w1121) (F := fun b => b < w1121.heap.size) (fun b hb => hb) (bt x1 x1022) r1123 hv1124) ?_
                    rintro _ w1125 ⟨rfl, hbl1126⟩
                    refine ⟨_, _, _, rfl, hL1122.sameB hbl1126, ?_⟩
                    refine wl_v 14 rfl (v_pick (b := false) rfl rfl) (gy 76 rfl rfl) rfl ?_
                    refine wl_v 15 rfl (v_pick (b := true) rfl rfl) gn rfl ?_
                    refine w_end 16 rfl ?_
                    exact g_go [0, 1] (j5 r1123 h A965 n967 c966 hq971 hA968 hn969 hm970) ⟨rfl, rfl, rfl, rfl, rfl, trivial⟩ (.cons_cons _ (.slnil)) rfl
                · have h := if_neg' hp1112 h
                  refine w_bool 76 rfl ((decide_eq_false hp1112)) ?_
                  refine wl_pass 5 rfl (ps 76 rfl rfl rfl) ?_
                  refine wl_pass 6 rfl (ps 76 rfl rfl rfl) ?_
                  refine wl_pass 7 rfl (ps 76 rfl rfl rfl) ?_
                  refine wl_pass 8 rfl (ps 76 rfl rfl rfl) ?_
                  refine wl_pass 9 rfl (ps 76 rfl rfl rfl) ?_
                  refine wl_pass 10 rfl (pu 81 rfl rfl) ?_
                  refine wl_pass 11 rfl (pu 81 rfl rfl) ?_
                  refine wl_pass 12 rfl (pu 81 rfl rfl) ?_
                  refine wl_pass 13 rfl (pu 81 rfl rfl) ?_
                  refine wl_pass 14 rfl (ps 76 rfl rfl rfl) ?_
                  refine wl_v 15 rfl (v_pick (b := false) rfl rfl) gn rfl ?_
                  refine w_end 16 rfl ?_
                  exact g_go [0, 1] (j5 false h A965 n967 c966 hq971 hA968 hn969 hm970) ⟨rfl, rfl, rfl, rfl, rfl, trivial⟩ (.cons_cons _ (.slnil)) rfl
              exact g_go [0, 1] (key4 _ h A406 n408 c407 hq412 hA409 hn410 hm411) ⟨rfl, rfl, rfl, rfl, trivial⟩ (.cons_cons _ (.slnil)) rfl
            · have h := if_neg' hp964 h
              refine g_false (c := words_Cut_c60) rfl _ rfl ((bf hp964)) ?_
              refine g_seq (c := words_Cut_c62) rfl ?_
              refine g_region (c := words_Cut_c84) rfl rfl ?_
              refine wl_v 0 rfl (v_move rfl) gn rfl ?_
              obtain ⟨r1129, hv1130, h⟩ := h
              refine wl_s 1 rfl (s_call [.int .u8 (bt x1 x413)] rfl Try.func9 rfl rfl rfl fun w1127 hL1128 => ?_) gn
              refine Calls.mono (words_digit_calls (w := w1127) (F := fun b => b < w1127.heap.size) (fun b hb => hb) (bt x1 x413) r1129 hv1130) ?_
              rintro _ w1131 ⟨rfl, hbl1132⟩
              refine ⟨_, _, _, rfl, hL1128.sameB hbl1132, ?_⟩
              refine wl_v 2 rfl (v_assign rfl) gn rfl ?_
              refine w_end 3 rfl ?_
              by_cases hp1133 : r1129 = true
              · have h := if_pos' hp1133 h
                refine g_true (c := words_Cut_c85) rfl _ rfl (hp1133) ?_
                refine g_seq (c := words_Cut_c86) rfl ?_
                refine g_region (c := words_Cut_c88) rfl rfl ?_
                refine wl_v 0 rfl (v_assign rfl) gn rfl ?_
                refine w_end 1 rfl ?_
                refine g_goto (c := words_Cut_c89) [.code (.seq .skip words_Cut_c90), .inScope words_Cut_c3] rfl rfl ?_
                refine g_seq rfl ?_
                refine g_skip rfl ?_
                have key6 : ∀ s, Rounds (fun (s : Int × Int) o => words_Cut_b6 x1 x413 x405 s.1 s.2 o) s o1 → (fun (s : Int × Int) => ∀ (A1134 : Option Addr) (n1136 : Nat) (c1135 : Nat) (hq1140 : n1136 = x405.length) (hA1137 : 0 < n1136 → A1134.isSome = true) (hn1138 : n1136 ≤ c1135) (hm1139 : c1135 ≤ maxLen), G (words_Cut_C w F r) [.code words_Cut_c90, .inScope words_Cut_c3] [(0, .string x1), (5, .slice A1134 n1136 c1135), (8, .int .i64 s.1), (9, .int .i64 x413), (10, .int .i64 s.2)] [.own (.slice A1134 n1136 c1135) 29 4 n1136 (x405.flatMap enc_api_Word)] [Sm w.heap.size F w [], St w []]) s := by
                  intro s hs
                  refine Rounds.ind (mot := (fun (s : Int × Int) => ∀ (A1134 : Option Addr) (n1136 : Nat) (c1135 : Nat) (hq1140 : n1136 = x405.length) (hA1137 : 0 < n1136 → A1134.isSome = true) (hn1138 : n1136 ≤ c1135) (hm1139 : c1135 ≤ maxLen), G (words_Cut_C w F r) [.code words_Cut_c90, .inScope words_Cut_c3] [(0, .string x1), (5, .slice A1134 n1136 c1135), (8, .int .i64 s.1), (9, .int .i64 x413), (10, .int .i64 s.2)] [.own (.slice A1134 n1136 c1135) 29 4 n1136 (x405.flatMap enc_api_Word)] [Sm w.heap.size F w [], St w []])) ?_ hs
                  clear hs s
                  intro s o2 h hO2
                  obtain ⟨x1175, x1176⟩ := s
                  intro A1134 n1136 c1135 hq1140 hA1137 hn1138 hm1139
                  have h : words_Cut_b6 x1 x413 x405 x1175 x1176 o2 := h
                  unfold words_Cut_b6 at h
                  show G (words_Cut_C w F r) [.code words_Cut_c90, .inScope words_Cut_c3] [(0, .string x1), (5, .slice A1134 n1136 c1135), (8, .int .i64 x1175), (9, .int .i64 x413), (10, .int .i64 x1176)] [.own (.slice A1134 n1136 c1135) 29 4 n1136 (x405.flatMap enc_api_Word)] [Sm w.heap.size F w [], St w []]
                  refine g_seq (c := words_Cut_c90) rfl ?_
                  refine g_seq (c := words_Cut_c91) rfl ?_
                  have j7 : ∀ (x1230 : Bool) (h : words_Cut_j7 x1175 x1 x1176 x413 x405 x1230 o2) (A1223 : Option Addr) (n1225 : Nat) (c1224 : Nat) (hq1229 : n1225 = x405.length) (hA1226 : 0 < n1225 → A1223.isSome = true) (hn1227 : n1225 ≤ c1224) (hm1228 : c1224 ≤ maxLen), G (words_Cut_C w F r) [.code words_Cut_c94, .code words_Cut_c92, .inScope words_Cut_c3] [(0, .string x1), (5, .slice A1223 n1225 c1224), (8, .int .i64 x1175), (9, .int .i64 x413), (10, .int .i64 x1176), (113, .bool x1230)] [.own (.slice A1223 n1225 c1224) 29 4 n1225 (x405.flatMap enc_api_Word)] [Sm w.heap.size F w [], St w []] := by
                    intro x1230 h A1223 n1225 c1224 hq1229 hA1226 hn1227 hm1228
                    unfold words_Cut_j7 at h
                    by_cases hp1231 : x1230 = true
                    · have h := if_pos' hp1231 h
                      refine g_true (c := words_Cut_c94) rfl _ rfl (hp1231) ?_
                      refine g_seq (c := words_Cut_c95) rfl ?_
                      refine g_region (c := words_Cut_c97) rfl rfl ?_
                      refine wl_v 0 rfl (v_move rfl) gn rfl ?_
                      refine wl_v 1 rfl (v_bin rfl rfl rfl) gn rfl ?_
                      refine wl_v 2 rfl (v_move rfl) gn rfl ?_
                      refine wl_v 3 rfl (v_move rfl) gn rfl ?_
                      obtain ⟨hb1232, h⟩ := h
                      refine wl_v 4 rfl (v_indexS un_9 rfl rfl hb1232) gn rfl ?_
                      refine wl_v 5 rfl (v_bin rfl rfl rfl) gn rfl ?_
                      refine wl_v 6 rfl (v_conv ⟨_, un_5⟩ un_3 rfl) gn rfl ?_
                      refine wl_v 7 rfl (v_bin rfl rfl rfl) gn rfl ?_
                      refine wl_v 8 rfl (v_min rfl rfl) gn rfl ?_
                      refine wl_v 9 rfl (v_assign rfl) gn rfl ?_
                      refine w_end 10 rfl ?_
                      refine g_seq (c := words_Cut_c98) rfl ?_
                      refine g_region (c := words_Cut_c99) rfl rfl ?_
                      refine wl_v 0 rfl (v_move rfl) gn rfl ?_
                      refine wl_v 1 rfl (v_bin rfl rfl rfl) gn rfl ?_
                      refine wl_v 2 rfl (v_assign rfl) gn rfl ?_
                      refine w_end 3 rfl ?_
                      refine g_goto (c := words_Cut_c100) [.code (.seq .skip words_Cut_c90), .inScope words_Cut_c3] rfl rfl ?_
                      refine g_seq rfl ?_
                      refine g_skip rfl ?_
                      have ih := Out.inl hO2 h
                      exact g_go [0, 1] (ih A1223 n1225 c1224 hq1229 hA1226 hn1227 hm1228) ⟨rfl, rfl, rfl, rfl, rfl, trivial⟩ (.cons_cons _ (.slnil)) rfl
                    · have h := if_neg' hp1231 h
                      refine g_false (c := words_Cut_c94) rfl _ rfl ((bf hp1231)) ?_
                      refine g_skip (c := words_Cut_c96) rfl ?_
                      refine g_seq (c := words_Cut_c92) rfl ?_
                      refine g_seq (c := words_Cut_c101) rfl ?_
                      refine g_region (c := words_Cut_c103) rfl rfl ?_
                      refine wl_v 0 rfl (v_move rfl) gn rfl ?_
                      refine wl_v 1 rfl (v_bin rfl rfl rfl) gn rfl ?_
                      refine w_end 2 rfl ?_
                      by_cases hp1233 : x1176 > 65535
                      · have h := if_pos' hp1233 h
                        refine g_true (c := words_Cut_c104) rfl _ rfl ((decide_eq_true hp1233)) ?_
                        refine g_seq (c := words_Cut_c105) rfl ?_
                        refine g_region (c := words_Cut_c111) rfl rfl ?_
                        refine wl_v 0 rfl (v_move rfl) gn rfl ?_
                        refine wl_v 1 rfl (v_assign rfl) gn rfl ?_
                        refine wl_v 2 rfl (v_assign rfl) gn rfl ?_
                        refine wl_v 3 rfl (v_assign rfl) gn rfl ?_
                        refine w_end 4 rfl ?_
                        have h := Out.inr hO2 h
                        have h := Out.inr hO1 h
                        refine g_retR (c := words_Cut_c112) [.slice none 0 0, .int .i64 84, .int .i64 x413] rfl Try.func4 rfl (.tmp rfl (.tmp rfl (.tmp rfl (.nil)))) fun wr hLr => ?_
                        show words_Cut_R w F r (.returned (packV [.slice none 0 0, .int .i64 84, .int .i64 x413])) wr
                        rw [h]
                        exact ⟨none, 0, rfl, hLr.below (me 1 rfl), World.ownsRow_nil _ _ _ _, (fun b hb => by cases hb), Nat.zero_le _, Nat.zero_le _⟩
                      · have h := if_neg' hp1233 h
                        refine g_false (c := words_Cut_c104) rfl _ rfl ((decide_eq_false hp1233)) ?_
                        refine g_skip (c := words_Cut_c106) rfl ?_
                        refine g_seq (c := words_Cut_c102) rfl ?_
                        refine g_region (c := words_Cut_c107) rfl rfl ?_
                        refine wl_v 0 rfl (v_move rfl) gn rfl ?_
                        refine wl_v 1 rfl (v_move rfl) gn rfl ?_
                        refine wl_v 2 rfl (v_move rfl) gn rfl ?_
                        refine wl_v 3 rfl (v_build #[.int .i64 4, .string (⟨#[]⟩ : ByteArray), .int .i64 x1176, .int .i64 x413] bd_29 rfl (by kernel_rfl)) gn rfl ?_
                        refine wl_s 4 rfl (s_lit [.int .i64 4, .string (⟨#[]⟩ : ByteArray), .int .i64 x1176, .int .i64 x413] bs_22_1 rfl (by kernel_rfl) rfl rfl rfl fun gb1234 => ?_) gn
                        obtain ⟨x1241, hv1242, h⟩ := h
                        obtain ⟨hb1243, h⟩ := h
                        have hq1244 : n1225 + 1 = x1241.length := by have q1 : n1225 = x405.length := hq1229; have q2 : 1 = ([(⟨4, (⟨#[]⟩ : ByteArray), x1176, x413⟩ : api_Word)] : List api_Word).length := rfl; rw [hv1242, List.length_append]; omega
                        refine wl_s 5 rfl (s_appO (cells' := x1241.flatMap enc_api_Word) (news := ([(⟨4, (⟨#[]⟩ : ByteArray), x1176, x413⟩ : api_Word)] : List api_Word).flatMap enc_api_Word) 1 0 ap_22 rfl rfl rfl rfl (Nat.le_refl _) (rfl) (fm_all h1_api_Word _) rfl (by rw [hv1242, List.flatMap_append] <;> rfl) (by omega) (by omega) (by decide) rfl fun A1236 c1237 hA1238 hn1239 hm1240 => ?_) gn
                        refine wl_v 6 rfl (v_assign rfl) gn rfl ?_
                        refine w_end 7 rfl ?_
                        refine g_seq (c := words_Cut_c108) rfl ?_
                        refine g_goto (c := words_Cut_c109) [.code (.seq .skip words_Cut_c21), .inScope words_Cut_c3] rfl rfl ?_
                        refine g_seq rfl ?_
                        refine g_skip rfl ?_
                        have h := Out.inr hO2 h
                        have ih := Out.inl hO1 h
                        exact g_go [0, 1] (ih A1236 (n1225 + 1) c1237 hq1244 hA1238 hn1239 hm1240) ⟨rfl, rfl, rfl, trivial⟩ (.cons _ (.cons_cons _ (.slnil))) rfl
                  refine g_region (c := words_Cut_c93) rfl rfl ?_
                  refine wl_v 0 rfl (v_move rfl) gn rfl ?_
                  refine wl_v 1 rfl (v_move rfl) gn rfl ?_
                  refine wl_v 2 rfl (v_lenS un_9 rfl) gn rfl ?_
                  refine wl_v 3 rfl (v_bin rfl rfl rfl) gn rfl ?_
                  refine wl_v 4 rfl (v_move rfl) gn rfl ?_
                  by_cases hp1245 : x1175 < (x1.size : Int)
                  · have h := if_pos' hp1245 h
                    refine w_bool 108 rfl ((decide_eq_true hp1245)) ?_
                    refine wl_v 5 rfl (v_move rfl) (gy 108 rfl rfl) rfl ?_
                    refine wl_v 6 rfl (v_move rfl) (gy 108 rfl rfl) rfl ?_
                    obtain ⟨hb1246, h⟩ := h
                    refine wl_v 7 rfl (v_indexS un_9 rfl rfl hb1246) (gy 108 rfl rfl) rfl ?_
                    obtain ⟨r1249, hv1250, h⟩ := h
                    refine wl_s 8 rfl (s_call [.int .u8 (bt x1 x1175)] rfl Try.func9 rfl rfl rfl fun w1247 hL1248 => ?_) (gy 108 rfl rfl)
                    refine Calls.mono (words_digit_calls (w := w1247) (F := fun b => b < w1247.heap.size) (fun b hb => hb) (bt x1 x1175) r1249 hv1250) ?_
                    rintro _ w1251 ⟨rfl, hbl1252⟩
                    refine ⟨_, _, _, rfl, hL1248.sameB hbl1252, ?_⟩
                    refine wl_v 9 rfl (v_pick (b := true) rfl rfl) gn rfl ?_
                    refine w_end 10 rfl ?_
                    exact g_go [0, 1] (j7 r1249 h A1134 n1136 c1135 hq1140 hA1137 hn1138 hm1139) ⟨rfl, rfl, rfl, rfl, rfl, rfl, trivial⟩ (.cons_cons _ (.slnil)) rfl
                  · have h := if_neg' hp1245 h
                    refine w_bool 108 rfl ((decide_eq_false hp1245)) ?_
                    refine wl_pass 5 rfl (ps 108 rfl rfl rfl) ?_
                    refine wl_pass 6 rfl (ps 108 rfl rfl rfl) ?_
                    refine wl_pass 7 rfl (ps 108 rfl rfl rfl) ?_
                    refine wl_pass 8 rfl (ps 108 rfl rfl rfl) ?_
                    refine wl_v 9 rfl (v_pick (b := false) rfl rfl) gn rfl ?_
                    refine w_end 10 rfl ?_
                    exact g_go [0, 1] (j7 false h A1134 n1136 c1135 hq1140 hA1137 hn1138 hm1139) ⟨rfl, rfl, rfl, rfl, rfl, rfl, trivial⟩ (.cons_cons _ (.slnil)) rfl
                exact g_go [0, 1] (key6 _ h A406 n408 c407 hq412 hA409 hn410 hm411) ⟨rfl, rfl, rfl, rfl, rfl, trivial⟩ (.cons_cons _ (.slnil)) rfl
              · have h := if_neg' hp1133 h
                refine g_false (c := words_Cut_c85) rfl _ rfl ((bf hp1133)) ?_
                refine g_seq (c := words_Cut_c87) rfl ?_
                refine g_region (c := words_Cut_c113) rfl rfl ?_
                refine wl_v 0 rfl (v_move rfl) gn rfl ?_
                refine wl_v 1 rfl (v_bin rfl rfl rfl) gn rfl ?_
                refine wl_v 2 rfl (v_assign rfl) gn rfl ?_
                refine w_end 3 rfl ?_
                by_cases hp1253 : bt x1 x413 = 34
                · have h := if_pos' hp1253 h
                  refine g_true (c := words_Cut_c114) rfl _ rfl ((eqi hp1253)) ?_
                  refine g_goto (c := words_Cut_c115) [.code (.seq .skip words_Cut_c117), .inScope words_Cut_c3] rfl rfl ?_
                  refine g_seq rfl ?_
                  refine g_skip rfl ?_
                  refine g_seq (c := words_Cut_c117) rfl ?_
                  refine g_seq (c := words_Cut_c118) rfl ?_
                  refine g_region (c := words_Cut_c120) rfl rfl ?_
                  refine wl_v 0 rfl (v_move rfl) gn rfl ?_
                  refine wl_v 1 rfl (v_move rfl) gn rfl ?_
                  obtain ⟨r1288, hv1289, h⟩ := h
                  refine wl_s 2 rfl (s_call [.string x1, .int .i64 x413] rfl Try.func11 rfl rfl rfl fun w1286 hL1287 => ?_) gn
                  refine Calls.mono (words_quoted_calls (w := w1286) (F := fun b => b < w1286.heap.size) (fun b hb => hb) x1 x413 r1288 hv1289) ?_
                  rintro _ w1297 ⟨A1290, c1291, rfl, hbl1298, hR1292, hR1293, hn1294, hm1295⟩
                  refine ⟨_, _, _, rfl, hL1287.ownB hbl1298 hR1292 hR1293, ?_⟩
                  refine wl_v 3 rfl (v_move rfl) gn rfl ?_
                  refine wl_v 4 rfl (v_extract rfl rfl) gn rfl ?_
                  refine wl_v 5 rfl (v_extract rfl rfl) gn rfl ?_
                  refine wl_v 6 rfl (v_extract rfl rfl) gn rfl ?_
                  refine wl_v 7 rfl (v_assign rfl) gn rfl ?_
                  refine wl_v 8 rfl (v_assign rfl) gn rfl ?_
                  refine wl_v 9 rfl (v_assign rfl) gn rfl ?_
                  refine w_end 10 rfl ?_
                  refine g_seq (c := words_Cut_c121) rfl ?_
                  refine g_region (c := words_Cut_c122) rfl rfl ?_
                  refine wl_v 0 rfl (v_move rfl) gn rfl ?_
                  refine wl_v 1 rfl (v_bin rfl rfl rfl) gn rfl ?_
                  refine w_end 2 rfl ?_
                  by_cases hp1299 : r1288.2.1 = 0
                  · have h := if_pos' hp1299 h
                    refine g_false (c := words_Cut_c123) rfl _ rfl ((eqib hp1299)) ?_
                    refine g_skip (c := words_Cut_c125) rfl ?_
                    refine g_seq (c := words_Cut_c119) rfl ?_
                    refine g_region (c := words_Cut_c126) rfl rfl ?_
                    refine wl_v 0 rfl (v_move rfl) gn rfl ?_
                    refine wl_v 1 rfl (v_move rfl) gn rfl ?_
                    refine wl_v 2 rfl (v_b2sO 0 u8_31 un_9 rfl rfl rfl) gn rfl ?_
                    refine wl_v 3 rfl (v_move rfl) gn rfl ?_
                    refine wl_v 4 rfl (v_build #[.int .i64 2, .string (ofBs r1288.1), .int .i64 0, .int .i64 x413] bd_29 rfl (by kernel_rfl)) gn rfl ?_
                    refine wl_s 5 rfl (s_lit [.int .i64 2, .string (ofBs r1288.1), .int .i64 0, .int .i64 x413] bs_22_1 rfl (by kernel_rfl) rfl rfl rfl fun gb1300 => ?_) gn
                    obtain ⟨x1307, hv1308, h⟩ := h
                    obtain ⟨hb1309, h⟩ := h
                    have hq1310 : n408 + 1 = x1307.length := by have q1 : n408 = x405.length := hq412; have q2 : 1 = ([(⟨2, ofBs r1288.1, 0, x413⟩ : api_Word)] : List api_Word).length := rfl; rw [hv1308, List.length_append]; omega
                    refine wl_s 6 rfl (s_appO (cells' := x1307.flatMap enc_api_Word) (news := ([(⟨2, ofBs r1288.1, 0, x413⟩ : api_Word)] : List api_Word).flatMap enc_api_Word) 2 0 ap_22 rfl rfl rfl rfl (Nat.le_refl _) (rfl) (fm_all h1_api_Word _) rfl (by rw [hv1308, List.flatMap_append] <;> rfl) (by omega) (by omega) (by decide) rfl fun A1302 c1303 hA1304 hn1305 hm1306 => ?_) gn
                    refine wl_v 7 rfl (v_assign rfl) gn rfl ?_
                    refine w_end 8 rfl ?_
                    refine g_seq (c := words_Cut_c127) rfl ?_
                    refine g_goto (c := words_Cut_c128) [.code (.seq .skip words_Cut_c21), .inScope words_Cut_c3] rfl rfl ?_
                    refine g_seq rfl ?_
                    refine g_skip rfl ?_
                    have ih := Out.inl hO1 h
                    exact g_go [0, 1] (ih A1302 (n408 + 1) c1303 hq1310 hA1304 hn1305 hm1306) ⟨rfl, rfl, rfl, trivial⟩ (.cons _ (.cons _ (.cons_cons _ (.slnil)))) rfl
                  · have h := if_neg' hp1299 h
                    refine g_true (c := words_Cut_c123) rfl _ rfl ((neib hp1299)) ?_
                    refine g_seq (c := words_Cut_c124) rfl ?_
                    refine g_region (c := words_Cut_c130) rfl rfl ?_
                    refine wl_v 0 rfl (v_move rfl) gn rfl ?_
                    refine wl_v 1 rfl (v_move rfl) gn rfl ?_
                    refine wl_v 2 rfl (v_assign rfl) gn rfl ?_
                    refine wl_v 3 rfl (v_assign rfl) gn rfl ?_
                    refine wl_v 4 rfl (v_assign rfl) gn rfl ?_
                    refine w_end 5 rfl ?_
                    have h := Out.inr hO1 h
                    refine g_retR (c := words_Cut_c131) [.slice none 0 0, .int .i64 r1288.2.1, .int .i64 r1288.2.2] rfl Try.func4 rfl (.tmp rfl (.tmp rfl (.tmp rfl (.nil)))) fun wr hLr => ?_
                    show words_Cut_R w F r (.returned (packV [.slice none 0 0, .int .i64 r1288.2.1, .int .i64 r1288.2.2])) wr
                    rw [h]
                    exact ⟨none, 0, rfl, hLr.below (me 1 rfl), World.ownsRow_nil _ _ _ _, (fun b hb => by cases hb), Nat.zero_le _, Nat.zero_le _⟩
                · have h := if_neg' hp1253 h
                  refine g_false (c := words_Cut_c114) rfl _ rfl ((nei hp1253)) ?_
                  refine g_seq (c := words_Cut_c116) rfl ?_
                  refine g_region (c := words_Cut_c132) rfl rfl ?_
                  refine wl_v 0 rfl (v_move rfl) gn rfl ?_
                  refine wl_v 1 rfl (v_bin rfl rfl rfl) gn rfl ?_
                  refine wl_v 2 rfl (v_assign rfl) gn rfl ?_
                  refine w_end 3 rfl ?_
                  by_cases hp1311 : bt x1 x413 = 47
                  · have h := if_pos' hp1311 h
                    refine g_true (c := words_Cut_c133) rfl _ rfl ((eqi hp1311)) ?_
                    refine g_goto (c := words_Cut_c134) [.code (.seq .skip words_Cut_c136), .inScope words_Cut_c3] rfl rfl ?_
                    refine g_seq rfl ?_
                    refine g_skip rfl ?_
                    refine g_seq (c := words_Cut_c136) rfl ?_
                    refine g_seq (c := words_Cut_c137) rfl ?_
                    refine g_region (c := words_Cut_c139) rfl rfl ?_
                    refine wl_v 0 rfl (v_move rfl) gn rfl ?_
                    refine wl_v 1 rfl (v_move rfl) gn rfl ?_
                    obtain ⟨r1348, hv1349, h⟩ := h
                    refine wl_s 2 rfl (s_call [.string x1, .int .i64 x413] rfl Try.func12 rfl rfl rfl fun w1346 hL1347 => ?_) gn
                    refine Calls.mono (words_slashed_calls (w := w1346) (F := Fs [Sm w.heap.size F w [], St w []]) (fun b hb => (hL1347.Fs hb).1) x1 x413 r1348 hv1349) ?_
                    rintro _ w1356 ⟨A1350, c1351, rfl, hbl1357, hR1352, hn1354, hm1355⟩
                    obtain ⟨sb1358, hL1359, hv1360⟩ := hL1347.backB (F := F) hbl1357 ((okS.nil _ _ _ _).cons _ _)
                    have hR1353 := hR1352.mono (F' := (Sm w.heap.size F w1356 sb1358).av) hv1360
                    refine ⟨_, _, _, rfl, hL1359, ?_⟩
                    refine wl_v 3 rfl (v_move rfl) gn rfl ?_
                    refine wl_v 4 rfl (v_extract rfl rfl) gn rfl ?_
                    refine wl_v 5 rfl (v_extract rfl rfl) gn rfl ?_
                    refine wl_v 6 rfl (v_extract rfl rfl) gn rfl ?_
                    refine wl_v 7 rfl (v_assign rfl) gn rfl ?_
                    refine wl_v 8 rfl (v_assign rfl) gn rfl ?_
                    refine wl_v 9 rfl (v_assign rfl) gn rfl ?_
                    refine w_end 10 rfl ?_
                    refine g_seq (c := words_Cut_c140) rfl ?_
                    refine g_region (c := words_Cut_c141) rfl rfl ?_
                    refine wl_v 0 rfl (v_move rfl) gn rfl ?_
                    refine wl_v 1 rfl (v_bin rfl rfl rfl) gn rfl ?_
                    refine w_end 2 rfl ?_
                    by_cases hp1361 : r1348.2.1 = 0
                    · have h := if_pos' hp1361 h
                      refine g_false (c := words_Cut_c142) rfl _ rfl ((eqib hp1361)) ?_
                      refine g_skip (c := words_Cut_c144) rfl ?_
                      refine g_seq (c := words_Cut_c138) rfl ?_
                      refine g_region (c := words_Cut_c145) rfl rfl ?_
                      refine wl_v 0 rfl (v_move rfl) gn rfl ?_
                      refine wl_v 1 rfl (v_move rfl) gn rfl ?_
                      refine wl_v 2 rfl (v_b2sR (Sm w.heap.size F w1356 sb1358) u8_31 un_9 rfl hR1353 (me 0 rfl) rfl rfl) gn rfl ?_
                      refine wl_v 3 rfl (v_move rfl) gn rfl ?_
                      refine wl_v 4 rfl (v_build #[.int .i64 3, .string (ofBs r1348.1), .int .i64 0, .int .i64 x413] bd_29 rfl (by kernel_rfl)) gn rfl ?_
                      refine wl_s 5 rfl (s_lit [.int .i64 3, .string (ofBs r1348.1), .int .i64 0, .int .i64 x413] bs_22_1 rfl (by kernel_rfl) rfl rfl rfl fun gb1362 => ?_) gn
                      obtain ⟨x1369, hv1370, h⟩ := h
                      obtain ⟨hb1371, h⟩ := h
                      have hq1372 : n408 + 1 = x1369.length := by have q1 : n408 = x405.length := hq412; have q2 : 1 = ([(⟨3, ofBs r1348.1, 0, x413⟩ : api_Word)] : List api_Word).length := rfl; rw [hv1370, List.length_append]; omega
                      refine wl_s 6 rfl (s_appO (cells' := x1369.flatMap enc_api_Word) (news := ([(⟨3, ofBs r1348.1, 0, x413⟩ : api_Word)] : List api_Word).flatMap enc_api_Word) 1 0 ap_22 rfl rfl rfl rfl (Nat.le_refl _) (rfl) (fm_all h1_api_Word _) rfl (by rw [hv1370, List.flatMap_append] <;> rfl) (by omega) (by omega) (by decide) rfl fun A1364 c1365 hA1366 hn1367 hm1368 => ?_) gn
                      refine wl_v 7 rfl (v_assign rfl) gn rfl ?_
                      refine w_end 8 rfl ?_
                      refine g_goto (c := words_Cut_c146) [.code (.seq .skip words_Cut_c21), .inScope words_Cut_c3] rfl rfl ?_
                      refine g_seq rfl ?_
                      refine g_skip rfl ?_
                      have ih := Out.inl hO1 h
                      exact g_go [1, 2] (ih A1364 (n408 + 1) c1365 hq1372 hA1366 hn1367 hm1368) ⟨rfl, rfl, rfl, trivial⟩ (.cons _ (.cons_cons _ (.slnil))) rfl
                    · have h := if_neg' hp1361 h
                      refine g_true (c := words_Cut_c142) rfl _ rfl ((neib hp1361)) ?_
                      refine g_seq (c := words_Cut_c143) rfl ?_
                      refine g_region (c := words_Cut_c147) rfl rfl ?_
                      refine wl_v 0 rfl (v_move rfl) gn rfl ?_
                      refine wl_v 1 rfl (v_move rfl) gn rfl ?_
                      refine wl_v 2 rfl (v_assign rfl) gn rfl ?_
                      refine wl_v 3 rfl (v_assign rfl) gn rfl ?_
                      refine wl_v 4 rfl (v_assign rfl) gn rfl ?_
                      refine w_end 5 rfl ?_
                      have h := Out.inr hO1 h
                      refine g_retR (c := words_Cut_c148) [.slice none 0 0, .int .i64 r1348.2.1, .int .i64 r1348.2.2] rfl Try.func4 rfl (.tmp rfl (.tmp rfl (.tmp rfl (.nil)))) fun wr hLr => ?_
                      show words_Cut_R w F r (.returned (packV [.slice none 0 0, .int .i64 r1348.2.1, .int .i64 r1348.2.2])) wr
                      rw [h]
                      exact ⟨none, 0, rfl, hLr.below (me 2 rfl), World.ownsRow_nil _ _ _ _, (fun b hb => by cases hb), Nat.zero_le _, Nat.zero_le _⟩
                  · have h := if_neg' hp1311 h
                    refine g_false (c := words_Cut_c133) rfl _ rfl ((nei hp1311)) ?_
                    refine g_seq (c := words_Cut_c135) rfl ?_
                    refine g_region (c := words_Cut_c149) rfl rfl ?_
                    refine wl_v 0 rfl (v_move rfl) gn rfl ?_
                    obtain ⟨r1375, hv1376, h⟩ := h
                    refine wl_s 1 rfl (s_call [.string (⟨#[123, 125, 40, 41, 124, 42, 43, 63, 58, 59, 44, 61, 64]⟩ : ByteArray), .int .u8 (bt x1 x413)] rfl Try.func10 rfl rfl rfl fun w1373 hL1374 => ?_) gn
                    refine Calls.mono (strings_IndexByte_calls (w := w1373) (F := fun b => b < w1373.heap.size) (fun b hb => hb) (⟨#[123, 125, 40, 41, 124, 42, 43, 63, 58, 59, 44, 61, 64]⟩ : ByteArray) (bt x1 x413) r1375 hv1376) ?_
                    rintro _ w1377 ⟨rfl, hbl1378⟩
                    refine ⟨_, _, _, rfl, hL1374.sameB hbl1378, ?_⟩
                    refine wl_v 2 rfl (v_bin rfl rfl rfl) gn rfl ?_
                    refine wl_v 3 rfl (v_assign rfl) gn rfl ?_
                    refine w_end 4 rfl ?_
                    by_cases hp1379 : r1375 ≥ 0
                    · have h := if_pos' hp1379 h
                      refine g_true (c := words_Cut_c150) rfl _ rfl ((decide_eq_true hp1379)) ?_
                      refine g_seq (c := words_Cut_c151) rfl ?_
                      refine g_region (c := words_Cut_c153) rfl rfl ?_
                      refine wl_v 0 rfl (v_move rfl) gn rfl ?_
                      refine wl_v 1 rfl (v_bin rfl rfl rfl) gn rfl ?_
                      refine wl_v 2 rfl (v_assign rfl) gn rfl ?_
                      refine w_end 3 rfl ?_
                      refine g_seq (c := words_Cut_c154) rfl ?_
                      refine g_region (c := words_Cut_c155) rfl rfl ?_
                      refine wl_v 0 rfl (v_move rfl) gn rfl ?_
                      refine wl_v 1 rfl (v_move rfl) gn rfl ?_
                      refine wl_v 2 rfl (v_move rfl) gn rfl ?_
                      refine wl_v 3 rfl (v_move rfl) gn rfl ?_
                      obtain ⟨hb1380, h⟩ := h
                      refine wl_v 4 rfl (v_cutS x413 (w64 (x413 + 1)) un_9 rfl (.inr ⟨_, _, rfl, rfl⟩) (.inr ⟨_, _, rfl, rfl⟩) ⟨hb1380.1, hb1380.2.1⟩ hb1380.2.2) gn rfl ?_
                      refine wl_v 5 rfl (v_move rfl) gn rfl ?_
                      refine wl_v 6 rfl (v_build #[.int .i64 5, .string (x1.extract (x413 : Int).toNat (w64 (x413 + 1) : Int).toNat), .int .i64 0, .int .i64 x413] bd_29 rfl (by kernel_rfl)) gn rfl ?_
                      refine wl_s 7 rfl (s_lit [.int .i64 5, .string (x1.extract (x413 : Int).toNat (w64 (x413 + 1) : Int).toNat), .int .i64 0, .int .i64 x413] bs_22_1 rfl (by kernel_rfl) rfl rfl rfl fun gb1381 => ?_) gn
                      obtain ⟨x1388, hv1389, h⟩ := h
                      obtain ⟨hb1390, h⟩ := h
                      have hq1391 : n408 + 1 = x1388.length := by have q1 : n408 = x405.length := hq412; have q2 : 1 = ([(⟨5, x1.extract (x413 : Int).toNat (w64 (x413 + 1) : Int).toNat, 0, x413⟩ : api_Word)] : List api_Word).length := rfl; rw [hv1389, List.length_append]; omega
                      refine wl_s 8 rfl (s_appO (cells' := x1388.flatMap enc_api_Word) (news := ([(⟨5, x1.extract (x413 : Int).toNat (w64 (x413 + 1) : Int).toNat, 0, x413⟩ : api_Word)] : List api_Word).flatMap enc_api_Word) 1 0 ap_22 rfl rfl rfl rfl (Nat.le_refl _) (rfl) (fm_all h1_api_Word _) rfl (by rw [hv1389, List.flatMap_append] <;> rfl) (by omega) (by omega) (by decide) rfl fun A1383 c1384 hA1385 hn1386 hm1387 => ?_) gn
                      refine wl_v 9 rfl (v_assign rfl) gn rfl ?_
                      refine w_end 10 rfl ?_
                      refine g_goto (c := words_Cut_c156) [.code (.seq .skip words_Cut_c21), .inScope words_Cut_c3] rfl rfl ?_
                      refine g_seq rfl ?_
                      refine g_skip rfl ?_
                      have ih := Out.inl hO1 h
                      exact g_go [0, 1] (ih A1383 (n408 + 1) c1384 hq1391 hA1385 hn1386 hm1387) ⟨rfl, rfl, rfl, trivial⟩ (.cons _ (.cons_cons _ (.slnil))) rfl
                    · have h := if_neg' hp1379 h
                      refine g_false (c := words_Cut_c150) rfl _ rfl ((decide_eq_false hp1379)) ?_
                      refine g_skip (c := words_Cut_c152) rfl ?_
                      refine g_inBlock ?_
                      refine g_seq (c := words_Cut_c33) rfl ?_
                      refine g_seq (c := words_Cut_c157) rfl ?_
                      refine g_region (c := words_Cut_c158) rfl rfl ?_
                      refine wl_v 0 rfl (v_move rfl) gn rfl ?_
                      refine wl_v 1 rfl (v_assign rfl) gn rfl ?_
                      refine wl_v 2 rfl (v_assign rfl) gn rfl ?_
                      refine wl_v 3 rfl (v_assign rfl) gn rfl ?_
                      refine w_end 4 rfl ?_
                      have h := Out.inr hO1 h
                      refine g_retR (c := words_Cut_c159) [.slice none 0 0, .int .i64 81, .int .i64 x413] rfl Try.func4 rfl (.tmp rfl (.tmp rfl (.tmp rfl (.nil)))) fun wr hLr => ?_
                      show words_Cut_R w F r (.returned (packV [.slice none 0 0, .int .i64 81, .int .i64 x413])) wr
                      rw [h]
                      exact ⟨none, 0, rfl, hLr.below (me 1 rfl), World.ownsRow_nil _ _ _ _, (fun b hb => by cases hb), Nat.zero_le _, Nat.zero_le _⟩
    refine g_nil 29 4 ?_
    exact g_go [0, 1] (key1 _ h none 0 0 rfl (fun h => absurd h (Nat.lt_irrefl 0)) (Nat.le_refl _) (Nat.zero_le _)) ⟨rfl, rfl, rfl, trivial⟩ (.cons_cons _ (.slnil)) rfl
noncomputable abbrev trellisref8_in_c0 : Code := bodyOf Try.f13
noncomputable abbrev trellisref8_in_c1 : Code := Code.fst trellisref8_in_c0
noncomputable abbrev trellisref8_in_c2 : Code := Code.snd trellisref8_in_c0
noncomputable abbrev trellisref8_in_c3 : Code := Code.fst trellisref8_in_c2
noncomputable abbrev trellisref8_in_c4 : Code := Code.snd trellisref8_in_c2
noncomputable abbrev trellisref8_in_c5 : Code := Code.fst trellisref8_in_c3
noncomputable abbrev trellisref8_in_c6 : Code := Code.snd trellisref8_in_c3
noncomputable abbrev trellisref8_in_c7 : Code := Code.fst trellisref8_in_c6
noncomputable abbrev trellisref8_in_c8 : Code := Code.fst trellisref8_in_c7
noncomputable abbrev trellisref8_in_c9 : Code := Code.fst trellisref8_in_c8
noncomputable abbrev trellisref8_in_c10 : Code := Code.snd trellisref8_in_c8
noncomputable abbrev trellisref8_in_c11 : Code := Code.fst trellisref8_in_c9
noncomputable abbrev trellisref8_in_c12 : Code := Code.snd trellisref8_in_c9
noncomputable abbrev trellisref8_in_c13 : Code := Code.fst trellisref8_in_c12
noncomputable abbrev trellisref8_in_c14 : Code := Code.snd trellisref8_in_c12
noncomputable abbrev trellisref8_in_c15 : Code := Code.fst trellisref8_in_c10
noncomputable abbrev trellisref8_in_c16 : Code := Code.snd trellisref8_in_c10
noncomputable abbrev trellisref8_in_c17 : Code := Code.fst trellisref8_in_c15
noncomputable abbrev trellisref8_in_c18 : Code := Code.fst trellisref8_in_c17
noncomputable abbrev trellisref8_in_c19 : Code := Code.snd trellisref8_in_c17
noncomputable abbrev trellisref8_in_c20 : Code := Code.fst trellisref8_in_c19
noncomputable abbrev trellisref8_in_c21 : Code := Code.snd trellisref8_in_c19
noncomputable abbrev trellisref8_in_c22 : Code := Code.fst trellisref8_in_c20
noncomputable abbrev trellisref8_in_c23 : Code := Code.snd trellisref8_in_c20
noncomputable abbrev trellisref8_in_c24 : Code := Code.fst trellisref8_in_c4
noncomputable abbrev trellisref8_in_c25 : Code := Code.snd trellisref8_in_c4
abbrev trellisref8_in_R (w : World) (F : Nat → Prop) (r : Bool) : Ending → World → Prop := fun e w' => e = .returned (.bool r) ∧ Below w.heap.size w w'
noncomputable abbrev trellisref8_in_C (w : World) (F : Nat → Prop) (r : Bool) : Cx := ⟨Try.prog, 13, Try.f13, 17, trellisref8_in_R w F r, w⟩
theorem trellisref8_in_calls {w : World} {F : Nat → Prop} (hF : ∀ b, F b → b < w.heap.size) (x1 : ByteArray) (x2 : Int) (r : Bool) (h : trellisref8_in x1 x2 r) : Calls Try.prog 13 #[.string x1, .int .u8 x2] w (trellisref8_in_R w F r) := by
  unfold trellisref8_in at h
  refine calls_of_G (vs := [.string x1, .int .u8 x2]) 17 Try.func13 rfl Try.ntmps13 rfl F ?_
  show G (trellisref8_in_C w F r) _ _ _ _
  refine g_seq (c := trellisref8_in_c0) rfl ?_
  refine g_region (c := trellisref8_in_c1) rfl rfl ?_
  refine wl_v 0 rfl (v_assign rfl) gn rfl ?_
  refine w_end 1 rfl ?_
  refine g_seq (c := trellisref8_in_c2) rfl ?_
  refine g_seq (c := trellisref8_in_c3) rfl ?_
  refine g_region (c := trellisref8_in_c5) rfl rfl ?_
  refine wl_v 0 rfl (v_assign rfl) gn rfl ?_
  refine w_end 1 rfl ?_
  refine g_block (c := trellisref8_in_c6) rfl ?_
  refine g_loop (c := trellisref8_in_c7) rfl ?_
  have key1 : ∀ s, Rounds (fun (s : Int) o => trellisref8_in_b1 x1 x2 s o) s r → (fun (s : Int) => ∀ (_ : Unit), G (trellisref8_in_C w F r) [.code trellisref8_in_c8, .inLoop trellisref8_in_c8, .inBlock 0, .code trellisref8_in_c4] [(0, .string x1), (1, .int .u8 x2), (5, .int .i64 s)] [] [Sm w.heap.size F w [], St w []]) s := by
    intro s hs
    refine Rounds.ind (mot := (fun (s : Int) => ∀ (_ : Unit), G (trellisref8_in_C w F r) [.code trellisref8_in_c8, .inLoop trellisref8_in_c8, .inBlock 0, .code trellisref8_in_c4] [(0, .string x1), (1, .int .u8 x2), (5, .int .i64 s)] [] [Sm w.heap.size F w [], St w []])) ?_ hs
    clear hs s
    intro x6 o1 h hO1
    intro _
    have h : trellisref8_in_b1 x1 x2 x6 o1 := h
    unfold trellisref8_in_b1 at h
    show G (trellisref8_in_C w F r) [.code trellisref8_in_c8, .inLoop trellisref8_in_c8, .inBlock 0, .code trellisref8_in_c4] [(0, .string x1), (1, .int .u8 x2), (5, .int .i64 x6)] [] [Sm w.heap.size F w [], St w []]
    refine g_seq (c := trellisref8_in_c8) rfl ?_
    refine g_seq (c := trellisref8_in_c9) rfl ?_
    refine g_region (c := trellisref8_in_c11) rfl rfl ?_
    refine wl_v 0 rfl (v_move rfl) gn rfl ?_
    refine wl_v 1 rfl (v_move rfl) gn rfl ?_
    refine wl_v 2 rfl (v_lenS un_9 rfl) gn rfl ?_
    refine wl_v 3 rfl (v_bin rfl rfl rfl) gn rfl ?_
    refine w_end 4 rfl ?_
    by_cases hp10 : x6 < (x1.size : Int)
    · have h := if_pos' hp10 h
      refine g_true (c := trellisref8_in_c12) rfl _ rfl ((decide_eq_true hp10)) ?_
      refine g_skip (c := trellisref8_in_c13) rfl ?_
      refine g_seq (c := trellisref8_in_c10) rfl ?_
      refine g_block (c := trellisref8_in_c15) rfl ?_
      refine g_seq (c := trellisref8_in_c17) rfl ?_
      refine g_region (c := trellisref8_in_c18) rfl rfl ?_
      refine wl_v 0 rfl (v_move rfl) gn rfl ?_
      refine wl_v 1 rfl (v_move rfl) gn rfl ?_
      obtain ⟨hb11, h⟩ := h
      refine wl_v 2 rfl (v_indexS un_9 rfl rfl hb11) gn rfl ?_
      refine wl_v 3 rfl (v_move rfl) gn rfl ?_
      refine wl_v 4 rfl (v_bin rfl rfl rfl) gn rfl ?_
      refine w_end 5 rfl ?_
      by_cases hp12 : bt x1 x6 = x2
      · have h := if_pos' hp12 h
        refine g_true (c := trellisref8_in_c19) rfl _ rfl ((eqi hp12)) ?_
        refine g_seq (c := trellisref8_in_c20) rfl ?_
        refine g_region (c := trellisref8_in_c22) rfl rfl ?_
        refine wl_v 0 rfl (v_assign rfl) gn rfl ?_
        refine w_end 1 rfl ?_
        have h := Out.inr hO1 h
        refine g_retR (c := trellisref8_in_c23) [.bool true] rfl Try.func13 rfl (.tmp rfl (.nil)) fun wr hLr => ?_
        show trellisref8_in_R w F r (.returned (packV [.bool true])) wr
        rw [h]
        exact ⟨rfl, hLr.below (me 1 rfl)⟩
      · have h := if_neg' hp12 h
        refine g_false (c := trellisref8_in_c19) rfl _ rfl ((nei hp12)) ?_
        refine g_skip (c := trellisref8_in_c21) rfl ?_
        refine g_inBlock ?_
        refine g_region (c := trellisref8_in_c16) rfl rfl ?_
        refine wl_v 0 rfl (v_move rfl) gn rfl ?_
        refine wl_v 1 rfl (v_bin rfl rfl rfl) gn rfl ?_
        refine wl_v 2 rfl (v_assign rfl) gn rfl ?_
        refine w_end 3 rfl ?_
        refine g_inLoop ?_
        have ih := Out.inl hO1 h
        exact g_go [0, 1] (ih ()) ⟨rfl, rfl, rfl, trivial⟩ (.slnil) rfl
    · have h := if_neg' hp10 h
      refine g_false (c := trellisref8_in_c12) rfl _ rfl ((decide_eq_false hp10)) ?_
      refine g_exit (c := trellisref8_in_c14) [.code trellisref8_in_c4] rfl rfl ?_
      refine g_seq (c := trellisref8_in_c4) rfl ?_
      refine g_region (c := trellisref8_in_c24) rfl rfl ?_
      refine wl_v 0 rfl (v_assign rfl) gn rfl ?_
      refine w_end 1 rfl ?_
      have h := Out.inr hO1 h
      refine g_retR (c := trellisref8_in_c25) [.bool false] rfl Try.func13 rfl (.tmp rfl (.nil)) fun wr hLr => ?_
      show trellisref8_in_R w F r (.returned (packV [.bool false])) wr
      rw [h]
      exact ⟨rfl, hLr.below (me 1 rfl)⟩
  exact g_go [0, 1] (key1 _ h ()) ⟨rfl, rfl, rfl, trivial⟩ (.slnil) rfl
noncomputable abbrev trellisref8_run_c0 : Code := bodyOf Try.f18
noncomputable abbrev trellisref8_run_c1 : Code := Code.fst trellisref8_run_c0
noncomputable abbrev trellisref8_run_c2 : Code := Code.snd trellisref8_run_c0
noncomputable abbrev trellisref8_run_c3 : Code := Code.fst trellisref8_run_c2
noncomputable abbrev trellisref8_run_c4 : Code := Code.snd trellisref8_run_c2
noncomputable abbrev trellisref8_run_c5 : Code := Code.fst trellisref8_run_c4
noncomputable abbrev trellisref8_run_c6 : Code := Code.snd trellisref8_run_c4
noncomputable abbrev trellisref8_run_c7 : Code := Code.fst trellisref8_run_c5
noncomputable abbrev trellisref8_run_c8 : Code := Code.fst trellisref8_run_c7
noncomputable abbrev trellisref8_run_c9 : Code := Code.fst trellisref8_run_c8
noncomputable abbrev trellisref8_run_c10 : Code := Code.snd trellisref8_run_c8
noncomputable abbrev trellisref8_run_c11 : Code := Code.fst trellisref8_run_c9
noncomputable abbrev trellisref8_run_c12 : Code := Code.snd trellisref8_run_c9
noncomputable abbrev trellisref8_run_c13 : Code := Code.fst trellisref8_run_c12
noncomputable abbrev trellisref8_run_c14 : Code := Code.snd trellisref8_run_c12
noncomputable abbrev trellisref8_run_c15 : Code := Code.fst trellisref8_run_c10
noncomputable abbrev trellisref8_run_c16 : Code := Code.fst trellisref8_run_c6
noncomputable abbrev trellisref8_run_c17 : Code := Code.snd trellisref8_run_c6
abbrev trellisref8_run_R (w : World) (F : Nat → Prop) (r : Int) : Ending → World → Prop := fun e w' => e = .returned (.int .i64 r) ∧ Below w.heap.size w w'
noncomputable abbrev trellisref8_run_C (w : World) (F : Nat → Prop) (r : Int) : Cx := ⟨Try.prog, 18, Try.f18, 26, trellisref8_run_R w F r, w⟩
theorem trellisref8_run_calls {w : World} {F : Nat → Prop} (hF : ∀ b, F b → b < w.heap.size) (x1 : ByteArray) (x2 : Int) (x3 : ByteArray) (r : Int) (h : trellisref8_run x1 x2 x3 r) : Calls Try.prog 18 #[.string x1, .int .i64 x2, .string x3] w (trellisref8_run_R w F r) := by
  unfold trellisref8_run at h
  refine calls_of_G (vs := [.string x1, .int .i64 x2, .string x3]) 26 Try.func18 rfl Try.ntmps18 rfl F ?_
  show G (trellisref8_run_C w F r) _ _ _ _
  refine g_seq (c := trellisref8_run_c0) rfl ?_
  refine g_region (c := trellisref8_run_c1) rfl rfl ?_
  refine wl_v 0 rfl (v_assign rfl) gn rfl ?_
  refine w_end 1 rfl ?_
  refine g_seq (c := trellisref8_run_c2) rfl ?_
  refine g_region (c := trellisref8_run_c3) rfl rfl ?_
  refine wl_v 0 rfl (v_assign rfl) gn rfl ?_
  refine w_end 1 rfl ?_
  refine g_seq (c := trellisref8_run_c4) rfl ?_
  refine g_block (c := trellisref8_run_c5) rfl ?_
  refine g_loop (c := trellisref8_run_c7) rfl ?_
  have key1 : ∀ s, Rounds (fun (s : Int) o => trellisref8_run_b1 x2 x1 x3 s o) s r → (fun (s : Int) => ∀ (_ : Unit), G (trellisref8_run_C w F r) [.code trellisref8_run_c8, .inLoop trellisref8_run_c8, .inBlock 0, .code trellisref8_run_c6] [(0, .string x1), (1, .int .i64 x2), (2, .string x3), (7, .int .i64 s)] [] [Sm w.heap.size F w [], St w []]) s := by
    intro s hs
    refine Rounds.ind (mot := (fun (s : Int) => ∀ (_ : Unit), G (trellisref8_run_C w F r) [.code trellisref8_run_c8, .inLoop trellisref8_run_c8, .inBlock 0, .code trellisref8_run_c6] [(0, .string x1), (1, .int .i64 x2), (2, .string x3), (7, .int .i64 s)] [] [Sm w.heap.size F w [], St w []])) ?_ hs
    clear hs s
    intro x13 o1 h hO1
    intro _
    have h : trellisref8_run_b1 x2 x1 x3 x13 o1 := h
    unfold trellisref8_run_b1 at h
    show G (trellisref8_run_C w F r) [.code trellisref8_run_c8, .inLoop trellisref8_run_c8, .inBlock 0, .code trellisref8_run_c6] [(0, .string x1), (1, .int .i64 x2), (2, .string x3), (7, .int .i64 x13)] [] [Sm w.heap.size F w [], St w []]
    refine g_seq (c := trellisref8_run_c8) rfl ?_
    refine g_seq (c := trellisref8_run_c9) rfl ?_
    refine g_region (c := trellisref8_run_c11) rfl rfl ?_
    refine wl_v 0 rfl (v_move rfl) gn rfl ?_
    refine wl_v 1 rfl (v_move rfl) gn rfl ?_
    refine wl_v 2 rfl (v_bin rfl rfl rfl) gn rfl ?_
    refine wl_v 3 rfl (v_move rfl) gn rfl ?_
    refine wl_v 4 rfl (v_lenS un_9 rfl) gn rfl ?_
    refine wl_v 5 rfl (v_bin rfl rfl rfl) gn rfl ?_
    refine wl_v 6 rfl (v_move rfl) gn rfl ?_
    by_cases hp23 : w64 (x2 + x13) < (x1.size : Int)
    · have h := if_pos' hp23 h
      refine w_bool 14 rfl ((decide_eq_true hp23)) ?_
      refine wl_v 7 rfl (v_move rfl) (gy 14 rfl rfl) rfl ?_
      refine wl_v 8 rfl (v_move rfl) (gy 14 rfl rfl) rfl ?_
      refine wl_v 9 rfl (v_move rfl) (gy 14 rfl rfl) rfl ?_
      refine wl_v 10 rfl (v_move rfl) (gy 14 rfl rfl) rfl ?_
      refine wl_v 11 rfl (v_bin rfl rfl rfl) (gy 14 rfl rfl) rfl ?_
      obtain ⟨hb24, h⟩ := h
      refine wl_v 12 rfl (v_indexS un_9 rfl rfl hb24) (gy 14 rfl rfl) rfl ?_
      obtain ⟨r27, hv28, h⟩ := h
      refine wl_s 13 rfl (s_call [.string x3, .int .u8 (bt x1 (w64 (x2 + x13)))] rfl Try.func13 rfl rfl rfl fun w25 hL26 => ?_) (gy 14 rfl rfl)
      refine Calls.mono (trellisref8_in_calls (w := w25) (F := fun b => b < w25.heap.size) (fun b hb => hb) x3 (bt x1 (w64 (x2 + x13))) r27 hv28) ?_
      rintro _ w29 ⟨rfl, hbl30⟩
      refine ⟨_, _, _, rfl, hL26.sameB hbl30, ?_⟩
      refine wl_v 14 rfl (v_pick (b := true) rfl rfl) gn rfl ?_
      refine w_end 15 rfl ?_
      by_cases hp31 : r27 = true
      · have h := if_pos' hp31 h
        refine g_true (c := trellisref8_run_c12) rfl _ rfl (hp31) ?_
        refine g_skip (c := trellisref8_run_c13) rfl ?_
        refine g_block (c := trellisref8_run_c10) rfl ?_
        refine g_region (c := trellisref8_run_c15) rfl rfl ?_
        refine wl_v 0 rfl (v_move rfl) gn rfl ?_
        refine wl_v 1 rfl (v_bin rfl rfl rfl) gn rfl ?_
        refine wl_v 2 rfl (v_assign rfl) gn rfl ?_
        refine w_end 3 rfl ?_
        refine g_inBlock ?_
        refine g_inLoop ?_
        have ih := Out.inl hO1 h
        exact g_go [0, 1] (ih ()) ⟨rfl, rfl, rfl, rfl, trivial⟩ (.slnil) rfl
      · have h := if_neg' hp31 h
        refine g_false (c := trellisref8_run_c12) rfl _ rfl ((bf hp31)) ?_
        refine g_exit (c := trellisref8_run_c14) [.code trellisref8_run_c6] rfl rfl ?_
        refine g_seq (c := trellisref8_run_c6) rfl ?_
        refine g_region (c := trellisref8_run_c16) rfl rfl ?_
        refine wl_v 0 rfl (v_move rfl) gn rfl ?_
        refine wl_v 1 rfl (v_assign rfl) gn rfl ?_
        refine w_end 2 rfl ?_
        have h := Out.inr hO1 h
        refine g_retR (c := trellisref8_run_c17) [.int .i64 x13] rfl Try.func18 rfl (.tmp rfl (.nil)) fun wr hLr => ?_
        show trellisref8_run_R w F r (.returned (packV [.int .i64 x13])) wr
        rw [h]
        exact ⟨rfl, hLr.below (me 1 rfl)⟩
    · have h := if_neg' hp23 h
      refine w_bool 14 rfl ((decide_eq_false hp23)) ?_
      refine wl_pass 7 rfl (ps 14 rfl rfl rfl) ?_
      refine wl_pass 8 rfl (ps 14 rfl rfl rfl) ?_
      refine wl_pass 9 rfl (ps 14 rfl rfl rfl) ?_
      refine wl_pass 10 rfl (ps 14 rfl rfl rfl) ?_
      refine wl_pass 11 rfl (ps 14 rfl rfl rfl) ?_
      refine wl_pass 12 rfl (ps 14 rfl rfl rfl) ?_
      refine wl_pass 13 rfl (ps 14 rfl rfl rfl) ?_
      refine wl_v 14 rfl (v_pick (b := false) rfl rfl) gn rfl ?_
      refine w_end 15 rfl ?_
      refine g_false (c := trellisref8_run_c12) rfl _ rfl (rfl) ?_
      refine g_exit (c := trellisref8_run_c14) [.code trellisref8_run_c6] rfl rfl ?_
      refine g_seq (c := trellisref8_run_c6) rfl ?_
      refine g_region (c := trellisref8_run_c16) rfl rfl ?_
      refine wl_v 0 rfl (v_move rfl) gn rfl ?_
      refine wl_v 1 rfl (v_assign rfl) gn rfl ?_
      refine w_end 2 rfl ?_
      have h := Out.inr hO1 h
      refine g_retR (c := trellisref8_run_c17) [.int .i64 x13] rfl Try.func18 rfl (.tmp rfl (.nil)) fun wr hLr => ?_
      show trellisref8_run_R w F r (.returned (packV [.int .i64 x13])) wr
      rw [h]
      exact ⟨rfl, hLr.below (me 1 rfl)⟩
  exact g_go [0, 1] (key1 _ h ()) ⟨rfl, rfl, rfl, rfl, trivial⟩ (.slnil) rfl
noncomputable abbrev trellisref8_number_c0 : Code := bodyOf Try.f19
noncomputable abbrev trellisref8_number_c1 : Code := Code.fst trellisref8_number_c0
noncomputable abbrev trellisref8_number_c2 : Code := Code.snd trellisref8_number_c0
noncomputable abbrev trellisref8_number_c3 : Code := Code.fst trellisref8_number_c2
noncomputable abbrev trellisref8_number_c4 : Code := Code.snd trellisref8_number_c2
noncomputable abbrev trellisref8_number_c5 : Code := Code.fst trellisref8_number_c4
noncomputable abbrev trellisref8_number_c6 : Code := Code.snd trellisref8_number_c4
noncomputable abbrev trellisref8_number_c7 : Code := Code.fst trellisref8_number_c5
noncomputable abbrev trellisref8_number_c8 : Code := Code.snd trellisref8_number_c5
noncomputable abbrev trellisref8_number_c9 : Code := Code.fst trellisref8_number_c8
noncomputable abbrev trellisref8_number_c10 : Code := Code.fst trellisref8_number_c9
noncomputable abbrev trellisref8_number_c11 : Code := Code.fst trellisref8_number_c10
noncomputable abbrev trellisref8_number_c12 : Code := Code.snd trellisref8_number_c10
noncomputable abbrev trellisref8_number_c13 : Code := Code.fst trellisref8_number_c11
noncomputable abbrev trellisref8_number_c14 : Code := Code.snd trellisref8_number_c11
noncomputable abbrev trellisref8_number_c15 : Code := Code.fst trellisref8_number_c14
noncomputable abbrev trellisref8_number_c16 : Code := Code.snd trellisref8_number_c14
noncomputable abbrev trellisref8_number_c17 : Code := Code.fst trellisref8_number_c12
noncomputable abbrev trellisref8_number_c18 : Code := Code.snd trellisref8_number_c12
noncomputable abbrev trellisref8_number_c19 : Code := Code.fst trellisref8_number_c17
noncomputable abbrev trellisref8_number_c20 : Code := Code.fst trellisref8_number_c19
noncomputable abbrev trellisref8_number_c21 : Code := Code.snd trellisref8_number_c19
noncomputable abbrev trellisref8_number_c22 : Code := Code.fst trellisref8_number_c21
noncomputable abbrev trellisref8_number_c23 : Code := Code.snd trellisref8_number_c21
noncomputable abbrev trellisref8_number_c24 : Code := Code.fst trellisref8_number_c23
noncomputable abbrev trellisref8_number_c25 : Code := Code.snd trellisref8_number_c23
noncomputable abbrev trellisref8_number_c26 : Code := Code.fst trellisref8_number_c6
noncomputable abbrev trellisref8_number_c27 : Code := Code.snd trellisref8_number_c6
abbrev trellisref8_number_R (w : World) (F : Nat → Prop) (r : Int) : Ending → World → Prop := fun e w' => e = .returned (.int .i64 r) ∧ Below w.heap.size w w'
noncomputable abbrev trellisref8_number_C (w : World) (F : Nat → Prop) (r : Int) : Cx := ⟨Try.prog, 19, Try.f19, 22, trellisref8_number_R w F r, w⟩
theorem trellisref8_number_calls {w : World} {F : Nat → Prop} (hF : ∀ b, F b → b < w.heap.size) (x1 : ByteArray) (r : Int) (h : trellisref8_number x1 r) : Calls Try.prog 19 #[.string x1] w (trellisref8_number_R w F r) := by
  unfold trellisref8_number at h
  refine calls_of_G (vs := [.string x1]) 22 Try.func19 rfl Try.ntmps19 rfl F ?_
  show G (trellisref8_number_C w F r) _ _ _ _
  refine g_seq (c := trellisref8_number_c0) rfl ?_
  refine g_region (c := trellisref8_number_c1) rfl rfl ?_
  refine wl_v 0 rfl (v_assign rfl) gn rfl ?_
  refine w_end 1 rfl ?_
  refine g_seq (c := trellisref8_number_c2) rfl ?_
  refine g_region (c := trellisref8_number_c3) rfl rfl ?_
  refine wl_v 0 rfl (v_assign rfl) gn rfl ?_
  refine w_end 1 rfl ?_
  refine g_seq (c := trellisref8_number_c4) rfl ?_
  refine g_seq (c := trellisref8_number_c5) rfl ?_
  refine g_region (c := trellisref8_number_c7) rfl rfl ?_
  refine wl_v 0 rfl (v_assign rfl) gn rfl ?_
  refine w_end 1 rfl ?_
  refine g_block (c := trellisref8_number_c8) rfl ?_
  refine g_loop (c := trellisref8_number_c9) rfl ?_
  have key1 : ∀ s, Rounds (fun (s : Int × Int) o => trellisref8_number_b1 x1 s.1 s.2 o) s r → (fun (s : Int × Int) => ∀ (_ : Unit), G (trellisref8_number_C w F r) [.code trellisref8_number_c10, .inLoop trellisref8_number_c10, .inBlock 0, .code trellisref8_number_c6] [(0, .string x1), (3, .int .i64 s.1), (4, .int .i64 s.2)] [] [Sm w.heap.size F w [], St w []]) s := by
    intro s hs
    refine Rounds.ind (mot := (fun (s : Int × Int) => ∀ (_ : Unit), G (trellisref8_number_C w F r) [.code trellisref8_number_c10, .inLoop trellisref8_number_c10, .inBlock 0, .code trellisref8_number_c6] [(0, .string x1), (3, .int .i64 s.1), (4, .int .i64 s.2)] [] [Sm w.heap.size F w [], St w []])) ?_ hs
    clear hs s
    intro s o1 h hO1
    obtain ⟨x5, x6⟩ := s
    intro _
    have h : trellisref8_number_b1 x1 x5 x6 o1 := h
    unfold trellisref8_number_b1 at h
    show G (trellisref8_number_C w F r) [.code trellisref8_number_c10, .inLoop trellisref8_number_c10, .inBlock 0, .code trellisref8_number_c6] [(0, .string x1), (3, .int .i64 x5), (4, .int .i64 x6)] [] [Sm w.heap.size F w [], St w []]
    refine g_seq (c := trellisref8_number_c10) rfl ?_
    refine g_seq (c := trellisref8_number_c11) rfl ?_
    refine g_region (c := trellisref8_number_c13) rfl rfl ?_
    refine wl_v 0 rfl (v_move rfl) gn rfl ?_
    refine wl_v 1 rfl (v_move rfl) gn rfl ?_
    refine wl_v 2 rfl (v_lenS un_9 rfl) gn rfl ?_
    refine wl_v 3 rfl (v_bin rfl rfl rfl) gn rfl ?_
    refine w_end 4 rfl ?_
    by_cases hp10 : x6 < (x1.size : Int)
    · have h := if_pos' hp10 h
      refine g_true (c := trellisref8_number_c14) rfl _ rfl ((decide_eq_true hp10)) ?_
      refine g_skip (c := trellisref8_number_c15) rfl ?_
      refine g_seq (c := trellisref8_number_c12) rfl ?_
      refine g_block (c := trellisref8_number_c17) rfl ?_
      refine g_seq (c := trellisref8_number_c19) rfl ?_
      refine g_region (c := trellisref8_number_c20) rfl rfl ?_
      refine wl_v 0 rfl (v_move rfl) gn rfl ?_
      refine wl_v 1 rfl (v_bin rfl rfl rfl) gn rfl ?_
      refine wl_v 2 rfl (v_move rfl) gn rfl ?_
      refine wl_v 3 rfl (v_move rfl) gn rfl ?_
      obtain ⟨hb11, h⟩ := h
      refine wl_v 4 rfl (v_indexS un_9 rfl rfl hb11) gn rfl ?_
      refine wl_v 5 rfl (v_bin rfl rfl rfl) gn rfl ?_
      refine wl_v 6 rfl (v_conv ⟨_, un_5⟩ un_3 rfl) gn rfl ?_
      refine wl_v 7 rfl (v_bin rfl rfl rfl) gn rfl ?_
      refine wl_v 8 rfl (v_assign rfl) gn rfl ?_
      refine w_end 9 rfl ?_
      refine g_seq (c := trellisref8_number_c21) rfl ?_
      refine g_region (c := trellisref8_number_c22) rfl rfl ?_
      refine wl_v 0 rfl (v_move rfl) gn rfl ?_
      refine wl_v 1 rfl (v_bin rfl rfl rfl) gn rfl ?_
      refine w_end 2 rfl ?_
      by_cases hp12 : w64 ((w64 (10 * x5)) + (w64 (IntKind.u8.wrap ((bt x1 x6) - 48)))) > 65535
      · have h := if_pos' hp12 h
        refine g_true (c := trellisref8_number_c23) rfl _ rfl ((decide_eq_true hp12)) ?_
        refine g_region (c := trellisref8_number_c24) rfl rfl ?_
        refine wl_v 0 rfl (v_assign rfl) gn rfl ?_
        refine w_end 1 rfl ?_
        refine g_inBlock ?_
        refine g_region (c := trellisref8_number_c18) rfl rfl ?_
        refine wl_v 0 rfl (v_move rfl) gn rfl ?_
        refine wl_v 1 rfl (v_bin rfl rfl rfl) gn rfl ?_
        refine wl_v 2 rfl (v_assign rfl) gn rfl ?_
        refine w_end 3 rfl ?_
        refine g_inLoop ?_
        have ih := Out.inl hO1 h
        exact g_go [0, 1] (ih ()) ⟨rfl, rfl, rfl, trivial⟩ (.slnil) rfl
      · have h := if_neg' hp12 h
        refine g_false (c := trellisref8_number_c23) rfl _ rfl ((decide_eq_false hp12)) ?_
        refine g_skip (c := trellisref8_number_c25) rfl ?_
        refine g_inBlock ?_
        refine g_region (c := trellisref8_number_c18) rfl rfl ?_
        refine wl_v 0 rfl (v_move rfl) gn rfl ?_
        refine wl_v 1 rfl (v_bin rfl rfl rfl) gn rfl ?_
        refine wl_v 2 rfl (v_assign rfl) gn rfl ?_
        refine w_end 3 rfl ?_
        refine g_inLoop ?_
        have ih := Out.inl hO1 h
        exact g_go [0, 1] (ih ()) ⟨rfl, rfl, rfl, trivial⟩ (.slnil) rfl
    · have h := if_neg' hp10 h
      refine g_false (c := trellisref8_number_c14) rfl _ rfl ((decide_eq_false hp10)) ?_
      refine g_exit (c := trellisref8_number_c16) [.code trellisref8_number_c6] rfl rfl ?_
      refine g_seq (c := trellisref8_number_c6) rfl ?_
      refine g_region (c := trellisref8_number_c26) rfl rfl ?_
      refine wl_v 0 rfl (v_move rfl) gn rfl ?_
      refine wl_v 1 rfl (v_assign rfl) gn rfl ?_
      refine w_end 2 rfl ?_
      have h := Out.inr hO1 h
      refine g_retR (c := trellisref8_number_c27) [.int .i64 x5] rfl Try.func19 rfl (.tmp rfl (.nil)) fun wr hLr => ?_
      show trellisref8_number_R w F r (.returned (packV [.int .i64 x5])) wr
      rw [h]
      exact ⟨rfl, hLr.below (me 1 rfl)⟩
  exact g_go [0, 1] (key1 _ h ()) ⟨rfl, rfl, rfl, trivial⟩ (.slnil) rfl
noncomputable abbrev trellisref8_hex_c0 : Code := bodyOf Try.f25
noncomputable abbrev trellisref8_hex_c1 : Code := Code.fst trellisref8_hex_c0
noncomputable abbrev trellisref8_hex_c2 : Code := Code.snd trellisref8_hex_c0
noncomputable abbrev trellisref8_hex_c3 : Code := Code.fst trellisref8_hex_c2
noncomputable abbrev trellisref8_hex_c4 : Code := Code.snd trellisref8_hex_c2
noncomputable abbrev trellisref8_hex_c5 : Code := Code.fst trellisref8_hex_c3
noncomputable abbrev trellisref8_hex_c6 : Code := Code.snd trellisref8_hex_c3
noncomputable abbrev trellisref8_hex_c7 : Code := Code.fst trellisref8_hex_c6
noncomputable abbrev trellisref8_hex_c8 : Code := Code.fst trellisref8_hex_c7
noncomputable abbrev trellisref8_hex_c9 : Code := Code.fst trellisref8_hex_c8
noncomputable abbrev trellisref8_hex_c10 : Code := Code.snd trellisref8_hex_c8
noncomputable abbrev trellisref8_hex_c11 : Code := Code.fst trellisref8_hex_c9
noncomputable abbrev trellisref8_hex_c12 : Code := Code.snd trellisref8_hex_c9
noncomputable abbrev trellisref8_hex_c13 : Code := Code.fst trellisref8_hex_c12
noncomputable abbrev trellisref8_hex_c14 : Code := Code.snd trellisref8_hex_c12
noncomputable abbrev trellisref8_hex_c15 : Code := Code.fst trellisref8_hex_c10
noncomputable abbrev trellisref8_hex_c16 : Code := Code.snd trellisref8_hex_c10
noncomputable abbrev trellisref8_hex_c17 : Code := Code.fst trellisref8_hex_c15
noncomputable abbrev trellisref8_hex_c18 : Code := Code.fst trellisref8_hex_c17
noncomputable abbrev trellisref8_hex_c19 : Code := Code.snd trellisref8_hex_c17
noncomputable abbrev trellisref8_hex_c20 : Code := Code.fst trellisref8_hex_c19
noncomputable abbrev trellisref8_hex_c21 : Code := Code.snd trellisref8_hex_c19
noncomputable abbrev trellisref8_hex_c22 : Code := Code.fst trellisref8_hex_c20
noncomputable abbrev trellisref8_hex_c23 : Code := Code.snd trellisref8_hex_c20
noncomputable abbrev trellisref8_hex_c24 : Code := Code.fst trellisref8_hex_c4
noncomputable abbrev trellisref8_hex_c25 : Code := Code.snd trellisref8_hex_c4
abbrev trellisref8_hex_R (w : World) (F : Nat → Prop) (r : Int) : Ending → World → Prop := fun e w' => e = .returned (.int .i64 r) ∧ Below w.heap.size w w'
noncomputable abbrev trellisref8_hex_C (w : World) (F : Nat → Prop) (r : Int) : Cx := ⟨Try.prog, 25, Try.f25, 17, trellisref8_hex_R w F r, w⟩
theorem trellisref8_hex_calls {w : World} {F : Nat → Prop} (hF : ∀ b, F b → b < w.heap.size) (x1 : Int) (r : Int) (h : trellisref8_hex x1 r) : Calls Try.prog 25 #[.int .u8 x1] w (trellisref8_hex_R w F r) := by
  unfold trellisref8_hex at h
  refine calls_of_G (vs := [.int .u8 x1]) 17 Try.func25 rfl Try.ntmps25 rfl F ?_
  show G (trellisref8_hex_C w F r) _ _ _ _
  refine g_seq (c := trellisref8_hex_c0) rfl ?_
  refine g_region (c := trellisref8_hex_c1) rfl rfl ?_
  refine wl_v 0 rfl (v_assign rfl) gn rfl ?_
  refine w_end 1 rfl ?_
  refine g_seq (c := trellisref8_hex_c2) rfl ?_
  refine g_seq (c := trellisref8_hex_c3) rfl ?_
  refine g_region (c := trellisref8_hex_c5) rfl rfl ?_
  refine wl_v 0 rfl (v_assign rfl) gn rfl ?_
  refine w_end 1 rfl ?_
  refine g_block (c := trellisref8_hex_c6) rfl ?_
  refine g_loop (c := trellisref8_hex_c7) rfl ?_
  have key1 : ∀ s, Rounds (fun (s : Int) o => trellisref8_hex_b1 x1 s o) s r → (fun (s : Int) => ∀ (_ : Unit), G (trellisref8_hex_C w F r) [.code trellisref8_hex_c8, .inLoop trellisref8_hex_c8, .inBlock 0, .code trellisref8_hex_c4] [(0, .int .u8 x1), (3, .int .i64 s)] [] [Sm w.heap.size F w [], St w []]) s := by
    intro s hs
    refine Rounds.ind (mot := (fun (s : Int) => ∀ (_ : Unit), G (trellisref8_hex_C w F r) [.code trellisref8_hex_c8, .inLoop trellisref8_hex_c8, .inBlock 0, .code trellisref8_hex_c4] [(0, .int .u8 x1), (3, .int .i64 s)] [] [Sm w.heap.size F w [], St w []])) ?_ hs
    clear hs s
    intro x4 o1 h hO1
    intro _
    have h : trellisref8_hex_b1 x1 x4 o1 := h
    unfold trellisref8_hex_b1 at h
    show G (trellisref8_hex_C w F r) [.code trellisref8_hex_c8, .inLoop trellisref8_hex_c8, .inBlock 0, .code trellisref8_hex_c4] [(0, .int .u8 x1), (3, .int .i64 x4)] [] [Sm w.heap.size F w [], St w []]
    refine g_seq (c := trellisref8_hex_c8) rfl ?_
    refine g_seq (c := trellisref8_hex_c9) rfl ?_
    refine g_region (c := trellisref8_hex_c11) rfl rfl ?_
    refine wl_v 0 rfl (v_move rfl) gn rfl ?_
    refine wl_v 1 rfl (v_bin rfl rfl rfl) gn rfl ?_
    refine w_end 2 rfl ?_
    by_cases hp8 : x4 < 16
    · have h := if_pos' hp8 h
      refine g_true (c := trellisref8_hex_c12) rfl _ rfl ((decide_eq_true hp8)) ?_
      refine g_skip (c := trellisref8_hex_c13) rfl ?_
      refine g_seq (c := trellisref8_hex_c10) rfl ?_
      refine g_block (c := trellisref8_hex_c15) rfl ?_
      refine g_seq (c := trellisref8_hex_c17) rfl ?_
      refine g_region (c := trellisref8_hex_c18) rfl rfl ?_
      refine wl_v 0 rfl (v_move rfl) gn rfl ?_
      obtain ⟨hb9, h⟩ := h
      refine wl_v 1 rfl (v_indexS un_9 rfl rfl hb9) gn rfl ?_
      refine wl_v 2 rfl (v_move rfl) gn rfl ?_
      refine wl_v 3 rfl (v_bin rfl rfl rfl) gn rfl ?_
      refine w_end 4 rfl ?_
      by_cases hp10 : bt (⟨#[48, 49, 50, 51, 52, 53, 54, 55, 56, 57, 97, 98, 99, 100, 101, 102, 65, 66, 67, 68, 69, 70]⟩ : ByteArray) x4 = x1
      · have h := if_pos' hp10 h
        refine g_true (c := trellisref8_hex_c19) rfl _ rfl ((eqi hp10)) ?_
        refine g_seq (c := trellisref8_hex_c20) rfl ?_
        refine g_region (c := trellisref8_hex_c22) rfl rfl ?_
        refine wl_v 0 rfl (v_move rfl) gn rfl ?_
        refine wl_v 1 rfl (v_assign rfl) gn rfl ?_
        refine w_end 2 rfl ?_
        have h := Out.inr hO1 h
        refine g_retR (c := trellisref8_hex_c23) [.int .i64 x4] rfl Try.func25 rfl (.tmp rfl (.nil)) fun wr hLr => ?_
        show trellisref8_hex_R w F r (.returned (packV [.int .i64 x4])) wr
        rw [h]
        exact ⟨rfl, hLr.below (me 1 rfl)⟩
      · have h := if_neg' hp10 h
        refine g_false (c := trellisref8_hex_c19) rfl _ rfl ((nei hp10)) ?_
        refine g_skip (c := trellisref8_hex_c21) rfl ?_
        refine g_inBlock ?_
        refine g_region (c := trellisref8_hex_c16) rfl rfl ?_
        refine wl_v 0 rfl (v_move rfl) gn rfl ?_
        refine wl_v 1 rfl (v_bin rfl rfl rfl) gn rfl ?_
        refine wl_v 2 rfl (v_assign rfl) gn rfl ?_
        refine w_end 3 rfl ?_
        refine g_inLoop ?_
        have ih := Out.inl hO1 h
        exact g_go [0, 1] (ih ()) ⟨rfl, rfl, trivial⟩ (.slnil) rfl
    · have h := if_neg' hp8 h
      refine g_false (c := trellisref8_hex_c12) rfl _ rfl ((decide_eq_false hp8)) ?_
      refine g_exit (c := trellisref8_hex_c14) [.code trellisref8_hex_c4] rfl rfl ?_
      refine g_seq (c := trellisref8_hex_c4) rfl ?_
      refine g_region (c := trellisref8_hex_c24) rfl rfl ?_
      refine wl_v 0 rfl (v_move rfl) gn rfl ?_
      refine wl_v 1 rfl (v_bin rfl rfl rfl) gn rfl ?_
      refine wl_v 2 rfl (v_conv ⟨_, un_5⟩ un_3 rfl) gn rfl ?_
      refine wl_v 3 rfl (v_bin rfl rfl rfl) gn rfl ?_
      refine wl_v 4 rfl (v_assign rfl) gn rfl ?_
      refine w_end 5 rfl ?_
      have h := Out.inr hO1 h
      refine g_retR (c := trellisref8_hex_c25) [.int .i64 (w64 ((w64 (IntKind.u8.wrap (x1 - 65))) + 10))] rfl Try.func25 rfl (.tmp rfl (.nil)) fun wr hLr => ?_
      show trellisref8_hex_R w F r (.returned (packV [.int .i64 (w64 ((w64 (IntKind.u8.wrap (x1 - 65))) + 10))])) wr
      rw [h]
      exact ⟨rfl, hLr.below (me 1 rfl)⟩
  exact g_go [0, 1] (key1 _ h ()) ⟨rfl, rfl, trivial⟩ (.slnil) rfl
noncomputable abbrev trellisref8_Escape_c0 : Code := bodyOf Try.f24
noncomputable abbrev trellisref8_Escape_c1 : Code := Code.fst trellisref8_Escape_c0
noncomputable abbrev trellisref8_Escape_c2 : Code := Code.snd trellisref8_Escape_c0
noncomputable abbrev trellisref8_Escape_c3 : Code := Code.fst trellisref8_Escape_c2
noncomputable abbrev trellisref8_Escape_c4 : Code := Code.snd trellisref8_Escape_c2
noncomputable abbrev trellisref8_Escape_c5 : Code := Code.fst trellisref8_Escape_c3
noncomputable abbrev trellisref8_Escape_c6 : Code := Code.snd trellisref8_Escape_c3
noncomputable abbrev trellisref8_Escape_c7 : Code := Code.fst trellisref8_Escape_c6
noncomputable abbrev trellisref8_Escape_c8 : Code := Code.snd trellisref8_Escape_c6
noncomputable abbrev trellisref8_Escape_c9 : Code := Code.fst trellisref8_Escape_c7
noncomputable abbrev trellisref8_Escape_c10 : Code := Code.snd trellisref8_Escape_c7
noncomputable abbrev trellisref8_Escape_c11 : Code := Code.fst trellisref8_Escape_c4
noncomputable abbrev trellisref8_Escape_c12 : Code := Code.snd trellisref8_Escape_c4
noncomputable abbrev trellisref8_Escape_c13 : Code := Code.fst trellisref8_Escape_c11
noncomputable abbrev trellisref8_Escape_c14 : Code := Code.snd trellisref8_Escape_c11
noncomputable abbrev trellisref8_Escape_c15 : Code := Code.fst trellisref8_Escape_c14
noncomputable abbrev trellisref8_Escape_c16 : Code := Code.fst trellisref8_Escape_c15
noncomputable abbrev trellisref8_Escape_c17 : Code := Code.snd trellisref8_Escape_c15
noncomputable abbrev trellisref8_Escape_c18 : Code := Code.fst trellisref8_Escape_c17
noncomputable abbrev trellisref8_Escape_c19 : Code := Code.snd trellisref8_Escape_c17
noncomputable abbrev trellisref8_Escape_c20 : Code := Code.fst trellisref8_Escape_c18
noncomputable abbrev trellisref8_Escape_c21 : Code := Code.snd trellisref8_Escape_c18
noncomputable abbrev trellisref8_Escape_c22 : Code := Code.fst trellisref8_Escape_c19
noncomputable abbrev trellisref8_Escape_c23 : Code := Code.snd trellisref8_Escape_c19
noncomputable abbrev trellisref8_Escape_c24 : Code := Code.fst trellisref8_Escape_c23
noncomputable abbrev trellisref8_Escape_c25 : Code := Code.snd trellisref8_Escape_c23
noncomputable abbrev trellisref8_Escape_c26 : Code := Code.fst trellisref8_Escape_c24
noncomputable abbrev trellisref8_Escape_c27 : Code := Code.snd trellisref8_Escape_c24
noncomputable abbrev trellisref8_Escape_c28 : Code := Code.fst trellisref8_Escape_c25
noncomputable abbrev trellisref8_Escape_c29 : Code := Code.snd trellisref8_Escape_c25
noncomputable abbrev trellisref8_Escape_c30 : Code := Code.fst trellisref8_Escape_c29
noncomputable abbrev trellisref8_Escape_c31 : Code := Code.snd trellisref8_Escape_c29
noncomputable abbrev trellisref8_Escape_c32 : Code := Code.fst trellisref8_Escape_c30
noncomputable abbrev trellisref8_Escape_c33 : Code := Code.snd trellisref8_Escape_c30
noncomputable abbrev trellisref8_Escape_c34 : Code := Code.fst trellisref8_Escape_c31
noncomputable abbrev trellisref8_Escape_c35 : Code := Code.snd trellisref8_Escape_c31
noncomputable abbrev trellisref8_Escape_c36 : Code := Code.fst trellisref8_Escape_c35
noncomputable abbrev trellisref8_Escape_c37 : Code := Code.snd trellisref8_Escape_c35
noncomputable abbrev trellisref8_Escape_c38 : Code := Code.fst trellisref8_Escape_c36
noncomputable abbrev trellisref8_Escape_c39 : Code := Code.snd trellisref8_Escape_c36
noncomputable abbrev trellisref8_Escape_c40 : Code := Code.fst trellisref8_Escape_c37
noncomputable abbrev trellisref8_Escape_c41 : Code := Code.snd trellisref8_Escape_c37
noncomputable abbrev trellisref8_Escape_c42 : Code := Code.fst trellisref8_Escape_c41
noncomputable abbrev trellisref8_Escape_c43 : Code := Code.snd trellisref8_Escape_c41
noncomputable abbrev trellisref8_Escape_c44 : Code := Code.fst trellisref8_Escape_c42
noncomputable abbrev trellisref8_Escape_c45 : Code := Code.snd trellisref8_Escape_c42
noncomputable abbrev trellisref8_Escape_c46 : Code := Code.fst trellisref8_Escape_c43
noncomputable abbrev trellisref8_Escape_c47 : Code := Code.snd trellisref8_Escape_c43
noncomputable abbrev trellisref8_Escape_c48 : Code := Code.fst trellisref8_Escape_c47
noncomputable abbrev trellisref8_Escape_c49 : Code := Code.snd trellisref8_Escape_c47
noncomputable abbrev trellisref8_Escape_c50 : Code := Code.fst trellisref8_Escape_c48
noncomputable abbrev trellisref8_Escape_c51 : Code := Code.snd trellisref8_Escape_c48
noncomputable abbrev trellisref8_Escape_c52 : Code := Code.fst trellisref8_Escape_c51
noncomputable abbrev trellisref8_Escape_c53 : Code := Code.snd trellisref8_Escape_c51
noncomputable abbrev trellisref8_Escape_c54 : Code := Code.fst trellisref8_Escape_c52
noncomputable abbrev trellisref8_Escape_c55 : Code := Code.snd trellisref8_Escape_c52
noncomputable abbrev trellisref8_Escape_c56 : Code := Code.fst trellisref8_Escape_c12
noncomputable abbrev trellisref8_Escape_c57 : Code := Code.snd trellisref8_Escape_c12
abbrev trellisref8_Escape_R (w : World) (F : Nat → Prop) (r : Int × Int) : Ending → World → Prop := fun e w' => e = .returned (.tuple #[.int .i64 r.1, .int .u8 r.2]) ∧ Below w.heap.size w w'
noncomputable abbrev trellisref8_Escape_C (w : World) (F : Nat → Prop) (r : Int × Int) : Cx := ⟨Try.prog, 24, Try.f24, 45, trellisref8_Escape_R w F r, w⟩
theorem trellisref8_Escape_calls {w : World} {F : Nat → Prop} (hF : ∀ b, F b → b < w.heap.size) (x1 : ByteArray) (x2 : Int) (r : Int × Int) (h : trellisref8_Escape x1 x2 r) : Calls Try.prog 24 #[.string x1, .int .i64 x2] w (trellisref8_Escape_R w F r) := by
  unfold trellisref8_Escape at h
  refine calls_of_G (vs := [.string x1, .int .i64 x2]) 45 Try.func24 rfl Try.ntmps24 rfl F ?_
  show G (trellisref8_Escape_C w F r) _ _ _ _
  refine g_seq (c := trellisref8_Escape_c0) rfl ?_
  refine g_region (c := trellisref8_Escape_c1) rfl rfl ?_
  refine wl_v 0 rfl (v_assign rfl) gn rfl ?_
  refine wl_v 1 rfl (v_assign rfl) gn rfl ?_
  refine w_end 2 rfl ?_
  refine g_seq (c := trellisref8_Escape_c2) rfl ?_
  refine g_seq (c := trellisref8_Escape_c3) rfl ?_
  refine g_region (c := trellisref8_Escape_c5) rfl rfl ?_
  refine wl_v 0 rfl (v_move rfl) gn rfl ?_
  refine wl_v 1 rfl (v_bin rfl rfl rfl) gn rfl ?_
  refine wl_v 2 rfl (v_move rfl) gn rfl ?_
  refine wl_v 3 rfl (v_lenS un_9 rfl) gn rfl ?_
  refine wl_v 4 rfl (v_bin rfl rfl rfl) gn rfl ?_
  refine w_end 5 rfl ?_
  by_cases hp3 : w64 (x2 + 1) ≥ (x1.size : Int)
  · have h := if_pos' hp3 h
    refine g_true (c := trellisref8_Escape_c6) rfl _ rfl ((decide_eq_true hp3)) ?_
    refine g_seq (c := trellisref8_Escape_c7) rfl ?_
    refine g_region (c := trellisref8_Escape_c9) rfl rfl ?_
    refine wl_v 0 rfl (v_assign rfl) gn rfl ?_
    refine wl_v 1 rfl (v_assign rfl) gn rfl ?_
    refine w_end 2 rfl ?_
    refine g_retR (c := trellisref8_Escape_c10) [.int .i64 0, .int .u8 0] rfl Try.func24 rfl (.tmp rfl (.tmp rfl (.nil))) fun wr hLr => ?_
    show trellisref8_Escape_R w F r (.returned (packV [.int .i64 0, .int .u8 0])) wr
    rw [h]
    exact ⟨rfl, hLr.below (me 1 rfl)⟩
  · have h := if_neg' hp3 h
    refine g_false (c := trellisref8_Escape_c6) rfl _ rfl ((decide_eq_false hp3)) ?_
    refine g_skip (c := trellisref8_Escape_c8) rfl ?_
    refine g_seq (c := trellisref8_Escape_c4) rfl ?_
    refine g_seq (c := trellisref8_Escape_c11) rfl ?_
    refine g_region (c := trellisref8_Escape_c13) rfl rfl ?_
    refine wl_v 0 rfl (v_move rfl) gn rfl ?_
    refine wl_v 1 rfl (v_move rfl) gn rfl ?_
    refine wl_v 2 rfl (v_bin rfl rfl rfl) gn rfl ?_
    obtain ⟨hb4, h⟩ := h
    refine wl_v 3 rfl (v_indexS un_9 rfl rfl hb4) gn rfl ?_
    refine w_end 4 rfl ?_
    refine g_block (c := trellisref8_Escape_c14) rfl ?_
    refine g_seq (c := trellisref8_Escape_c15) rfl ?_
    refine g_region (c := trellisref8_Escape_c16) rfl rfl ?_
    refine wl_v 0 rfl (v_bin rfl rfl rfl) gn rfl ?_
    refine wl_v 1 rfl (v_assign rfl) gn rfl ?_
    refine w_end 2 rfl ?_
    by_cases hp5 : bt x1 (w64 (x2 + 1)) = 34
    · have h := if_pos' hp5 h
      refine g_true (c := trellisref8_Escape_c17) rfl _ rfl ((eqi hp5)) ?_
      refine g_seq (c := trellisref8_Escape_c18) rfl ?_
      refine g_region (c := trellisref8_Escape_c20) rfl rfl ?_
      refine wl_v 0 rfl (v_assign rfl) gn rfl ?_
      refine wl_v 1 rfl (v_assign rfl) gn rfl ?_
      refine w_end 2 rfl ?_
      refine g_retR (c := trellisref8_Escape_c21) [.int .i64 2, .int .u8 34] rfl Try.func24 rfl (.tmp rfl (.tmp rfl (.nil))) fun wr hLr => ?_
      show trellisref8_Escape_R w F r (.returned (packV [.int .i64 2, .int .u8 34])) wr
      rw [h]
      exact ⟨rfl, hLr.below (me 1 rfl)⟩
    · have h := if_neg' hp5 h
      refine g_false (c := trellisref8_Escape_c17) rfl _ rfl ((nei hp5)) ?_
      refine g_seq (c := trellisref8_Escape_c19) rfl ?_
      refine g_region (c := trellisref8_Escape_c22) rfl rfl ?_
      refine wl_v 0 rfl (v_bin rfl rfl rfl) gn rfl ?_
      refine wl_v 1 rfl (v_assign rfl) gn rfl ?_
      refine w_end 2 rfl ?_
      by_cases hp6 : bt x1 (w64 (x2 + 1)) = 92
      · have h := if_pos' hp6 h
        refine g_true (c := trellisref8_Escape_c23) rfl _ rfl ((eqi hp6)) ?_
        refine g_seq (c := trellisref8_Escape_c24) rfl ?_
        refine g_region (c := trellisref8_Escape_c26) rfl rfl ?_
        refine wl_v 0 rfl (v_assign rfl) gn rfl ?_
        refine wl_v 1 rfl (v_assign rfl) gn rfl ?_
        refine w_end 2 rfl ?_
        refine g_retR (c := trellisref8_Escape_c27) [.int .i64 2, .int .u8 92] rfl Try.func24 rfl (.tmp rfl (.tmp rfl (.nil))) fun wr hLr => ?_
        show trellisref8_Escape_R w F r (.returned (packV [.int .i64 2, .int .u8 92])) wr
        rw [h]
        exact ⟨rfl, hLr.below (me 1 rfl)⟩
      · have h := if_neg' hp6 h
        refine g_false (c := trellisref8_Escape_c23) rfl _ rfl ((nei hp6)) ?_
        refine g_seq (c := trellisref8_Escape_c25) rfl ?_
        refine g_region (c := trellisref8_Escape_c28) rfl rfl ?_
        refine wl_v 0 rfl (v_bin rfl rfl rfl) gn rfl ?_
        refine wl_v 1 rfl (v_assign rfl) gn rfl ?_
        refine w_end 2 rfl ?_
        by_cases hp7 : bt x1 (w64 (x2 + 1)) = 110
        · have h := if_pos' hp7 h
          refine g_true (c := trellisref8_Escape_c29) rfl _ rfl ((eqi hp7)) ?_
          refine g_seq (c := trellisref8_Escape_c30) rfl ?_
          refine g_region (c := trellisref8_Escape_c32) rfl rfl ?_
          refine wl_v 0 rfl (v_assign rfl) gn rfl ?_
          refine wl_v 1 rfl (v_assign rfl) gn rfl ?_
          refine w_end 2 rfl ?_
          refine g_retR (c := trellisref8_Escape_c33) [.int .i64 2, .int .u8 10] rfl Try.func24 rfl (.tmp rfl (.tmp rfl (.nil))) fun wr hLr => ?_
          show trellisref8_Escape_R w F r (.returned (packV [.int .i64 2, .int .u8 10])) wr
          rw [h]
          exact ⟨rfl, hLr.below (me 1 rfl)⟩
        · have h := if_neg' hp7 h
          refine g_false (c := trellisref8_Escape_c29) rfl _ rfl ((nei hp7)) ?_
          refine g_seq (c := trellisref8_Escape_c31) rfl ?_
          refine g_region (c := trellisref8_Escape_c34) rfl rfl ?_
          refine wl_v 0 rfl (v_bin rfl rfl rfl) gn rfl ?_
          refine wl_v 1 rfl (v_assign rfl) gn rfl ?_
          refine w_end 2 rfl ?_
          by_cases hp8 : bt x1 (w64 (x2 + 1)) = 116
          · have h := if_pos' hp8 h
            refine g_true (c := trellisref8_Escape_c35) rfl _ rfl ((eqi hp8)) ?_
            refine g_seq (c := trellisref8_Escape_c36) rfl ?_
            refine g_region (c := trellisref8_Escape_c38) rfl rfl ?_
            refine wl_v 0 rfl (v_assign rfl) gn rfl ?_
            refine wl_v 1 rfl (v_assign rfl) gn rfl ?_
            refine w_end 2 rfl ?_
            refine g_retR (c := trellisref8_Escape_c39) [.int .i64 2, .int .u8 9] rfl Try.func24 rfl (.tmp rfl (.tmp rfl (.nil))) fun wr hLr => ?_
            show trellisref8_Escape_R w F r (.returned (packV [.int .i64 2, .int .u8 9])) wr
            rw [h]
            exact ⟨rfl, hLr.below (me 1 rfl)⟩
          · have h := if_neg' hp8 h
            refine g_false (c := trellisref8_Escape_c35) rfl _ rfl ((nei hp8)) ?_
            refine g_seq (c := trellisref8_Escape_c37) rfl ?_
            refine g_region (c := trellisref8_Escape_c40) rfl rfl ?_
            refine wl_v 0 rfl (v_bin rfl rfl rfl) gn rfl ?_
            refine wl_v 1 rfl (v_assign rfl) gn rfl ?_
            refine w_end 2 rfl ?_
            by_cases hp9 : bt x1 (w64 (x2 + 1)) = 114
            · have h := if_pos' hp9 h
              refine g_true (c := trellisref8_Escape_c41) rfl _ rfl ((eqi hp9)) ?_
              refine g_seq (c := trellisref8_Escape_c42) rfl ?_
              refine g_region (c := trellisref8_Escape_c44) rfl rfl ?_
              refine wl_v 0 rfl (v_assign rfl) gn rfl ?_
              refine wl_v 1 rfl (v_assign rfl) gn rfl ?_
              refine w_end 2 rfl ?_
              refine g_retR (c := trellisref8_Escape_c45) [.int .i64 2, .int .u8 13] rfl Try.func24 rfl (.tmp rfl (.tmp rfl (.nil))) fun wr hLr => ?_
              show trellisref8_Escape_R w F r (.returned (packV [.int .i64 2, .int .u8 13])) wr
              rw [h]
              exact ⟨rfl, hLr.below (me 1 rfl)⟩
            · have h := if_neg' hp9 h
              refine g_false (c := trellisref8_Escape_c41) rfl _ rfl ((nei hp9)) ?_
              refine g_seq (c := trellisref8_Escape_c43) rfl ?_
              refine g_region (c := trellisref8_Escape_c46) rfl rfl ?_
              refine wl_v 0 rfl (v_bin rfl rfl rfl) gn rfl ?_
              refine wl_v 1 rfl (v_assign rfl) gn rfl ?_
              refine w_end 2 rfl ?_
              by_cases hp10 : bt x1 (w64 (x2 + 1)) = 120
              · have h := if_pos' hp10 h
                refine g_true (c := trellisref8_Escape_c47) rfl _ rfl ((eqi hp10)) ?_
                refine g_seq (c := trellisref8_Escape_c48) rfl ?_
                refine g_region (c := trellisref8_Escape_c50) rfl rfl ?_
                refine wl_v 0 rfl (v_move rfl) gn rfl ?_
                refine wl_v 1 rfl (v_move rfl) gn rfl ?_
                refine wl_v 2 rfl (v_bin rfl rfl rfl) gn rfl ?_
                obtain ⟨r13, hv14, h⟩ := h
                refine wl_s 3 rfl (s_call [.string x1, .int .i64 (w64 (x2 + 2)), .string (⟨#[48, 49, 50, 51, 52, 53, 54, 55, 56, 57, 97, 98, 99, 100, 101, 102, 65, 66, 67, 68, 69, 70]⟩ : ByteArray)] rfl Try.func18 rfl rfl rfl fun w11 hL12 => ?_) gn
                refine Calls.mono (trellisref8_run_calls (w := w11) (F := fun b => b < w11.heap.size) (fun b hb => hb) x1 (w64 (x2 + 2)) (⟨#[48, 49, 50, 51, 52, 53, 54, 55, 56, 57, 97, 98, 99, 100, 101, 102, 65, 66, 67, 68, 69, 70]⟩ : ByteArray) r13 hv14) ?_
                rintro _ w15 ⟨rfl, hbl16⟩
                refine ⟨_, _, _, rfl, hL12.sameB hbl16, ?_⟩
                refine wl_v 4 rfl (v_bin rfl rfl rfl) gn rfl ?_
                refine w_end 5 rfl ?_
                by_cases hp17 : r13 ≥ 2
                · have h := if_pos' hp17 h
                  refine g_true (c := trellisref8_Escape_c51) rfl _ rfl ((decide_eq_true hp17)) ?_
                  refine g_seq (c := trellisref8_Escape_c52) rfl ?_
                  obtain ⟨hb18, h⟩ := h
                  obtain ⟨r21, hv22, h⟩ := h
                  obtain ⟨hb25, h⟩ := h
                  obtain ⟨r28, hv29, h⟩ := h
                  have hns : Region.noSelect (Code.ops trellisref8_Escape_c54) = true := by kernel_rfl
                  refine g_draw (c := trellisref8_Escape_c54) [] [Sm w.heap.size F w [], St w []] 15 rfl rfl mix rfl (.slnil) (sels [0, 1] rfl) ?_
                  refine wa_v 0 rfl (v_move rfl) gn rfl hns (by kernel_rfl) (by kernel_rfl) rfl ?_
                  refine wa_v 1 rfl (v_move rfl) gn rfl hns (by kernel_rfl) (by kernel_rfl) rfl ?_
                  refine wa_v 2 rfl (v_bin rfl rfl rfl) gn rfl hns (by kernel_rfl) (by kernel_rfl) rfl ?_
                  refine wa_v 3 rfl (v_indexS un_9 rfl rfl hb18) gn rfl hns (by kernel_rfl) (by kernel_rfl) rfl ?_
                  refine wa_v 6 rfl (v_move rfl) gn rfl hns (by kernel_rfl) (by kernel_rfl) rfl ?_
                  refine wa_v 7 rfl (v_move rfl) gn rfl hns (by kernel_rfl) (by kernel_rfl) rfl ?_
                  refine wa_v 8 rfl (v_bin rfl rfl rfl) gn rfl hns (by kernel_rfl) (by kernel_rfl) rfl ?_
                  refine wa_v 9 rfl (v_indexS un_9 rfl rfl hb25) gn rfl hns (by kernel_rfl) (by kernel_rfl) rfl ?_
                  refine wa_s 4 rfl (by kernel_rfl) (s_call [.int .u8 (bt x1 (w64 (x2 + 2)))] rfl Try.func25 rfl rfl rfl fun w84 hL85 => ?_) gn
                  refine Calls.mono (trellisref8_hex_calls (w := w84) (F := fun b => b < w84.heap.size) (fun b hb => hb) (bt x1 (w64 (x2 + 2))) r21 hv22) ?_
                  rintro _ w86 ⟨rfl, hbl87⟩
                  refine ⟨_, _, _, rfl, hL85.sameB hbl87, ?_⟩
                  refine ⟨sels [] rfl, sels [0, 1] rfl, ?_⟩
                  refine wa_v 5 rfl (v_bin rfl rfl rfl) gn rfl hns (by kernel_rfl) (by kernel_rfl) rfl ?_
                  refine wa_s 10 rfl (by kernel_rfl) (s_call [.int .u8 (bt x1 (w64 (x2 + 3)))] rfl Try.func25 rfl rfl rfl fun w92 hL93 => ?_) gn
                  refine Calls.mono (trellisref8_hex_calls (w := w92) (F := fun b => b < w92.heap.size) (fun b hb => hb) (bt x1 (w64 (x2 + 3))) r28 hv29) ?_
                  rintro _ w94 ⟨rfl, hbl95⟩
                  refine ⟨_, _, _, rfl, hL93.sameB hbl95, ?_⟩
                  refine ⟨sels [] rfl, sels [0, 1] rfl, ?_⟩
                  refine wa_v 11 rfl (v_bin rfl rfl rfl) gn rfl hns (by kernel_rfl) (by kernel_rfl) rfl ?_
                  refine wa_v 12 rfl (v_conv ⟨_, un_3⟩ un_5 rfl) gn rfl hns (by kernel_rfl) (by kernel_rfl) rfl ?_
                  refine wa_v 13 rfl (v_assign rfl) gn rfl hns (by kernel_rfl) (by kernel_rfl) rfl ?_
                  refine wa_v 14 rfl (v_assign rfl) gn rfl hns (by kernel_rfl) (by kernel_rfl) rfl ?_
                  refine wa_end (by kernel_rfl) ?_
                  refine g_retR (c := trellisref8_Escape_c55) [.int .i64 4, .int .u8 (IntKind.u8.wrap (w64 ((w64 (16 * r21)) + r28)))] rfl Try.func24 rfl (.tmp rfl (.tmp rfl (.nil))) fun wr hLr => ?_
                  show trellisref8_Escape_R w F r (.returned (packV [.int .i64 4, .int .u8 (IntKind.u8.wrap (w64 ((w64 (16 * r21)) + r28)))])) wr
                  rw [h]
                  exact ⟨rfl, hLr.below (me 1 rfl)⟩
                · have h := if_neg' hp17 h
                  refine g_false (c := trellisref8_Escape_c51) rfl _ rfl ((decide_eq_false hp17)) ?_
                  refine g_skip (c := trellisref8_Escape_c53) rfl ?_
                  refine g_inBlock ?_
                  refine g_seq (c := trellisref8_Escape_c12) rfl ?_
                  refine g_region (c := trellisref8_Escape_c56) rfl rfl ?_
                  refine wl_v 0 rfl (v_assign rfl) gn rfl ?_
                  refine wl_v 1 rfl (v_assign rfl) gn rfl ?_
                  refine w_end 2 rfl ?_
                  refine g_retR (c := trellisref8_Escape_c57) [.int .i64 0, .int .u8 0] rfl Try.func24 rfl (.tmp rfl (.tmp rfl (.nil))) fun wr hLr => ?_
                  show trellisref8_Escape_R w F r (.returned (packV [.int .i64 0, .int .u8 0])) wr
                  rw [h]
                  exact ⟨rfl, hLr.below (me 1 rfl)⟩
              · have h := if_neg' hp10 h
                refine g_false (c := trellisref8_Escape_c47) rfl _ rfl ((nei hp10)) ?_
                refine g_skip (c := trellisref8_Escape_c49) rfl ?_
                refine g_inBlock ?_
                refine g_seq (c := trellisref8_Escape_c12) rfl ?_
                refine g_region (c := trellisref8_Escape_c56) rfl rfl ?_
                refine wl_v 0 rfl (v_assign rfl) gn rfl ?_
                refine wl_v 1 rfl (v_assign rfl) gn rfl ?_
                refine w_end 2 rfl ?_
                refine g_retR (c := trellisref8_Escape_c57) [.int .i64 0, .int .u8 0] rfl Try.func24 rfl (.tmp rfl (.tmp rfl (.nil))) fun wr hLr => ?_
                show trellisref8_Escape_R w F r (.returned (packV [.int .i64 0, .int .u8 0])) wr
                rw [h]
                exact ⟨rfl, hLr.below (me 1 rfl)⟩
noncomputable abbrev trellisref8_str_c0 : Code := bodyOf Try.f20
noncomputable abbrev trellisref8_str_c1 : Code := Code.fst trellisref8_str_c0
noncomputable abbrev trellisref8_str_c2 : Code := Code.snd trellisref8_str_c0
noncomputable abbrev trellisref8_str_c3 : Code := Code.fst trellisref8_str_c2
noncomputable abbrev trellisref8_str_c4 : Code := Code.snd trellisref8_str_c2
noncomputable abbrev trellisref8_str_c5 : Code := Code.fst trellisref8_str_c4
noncomputable abbrev trellisref8_str_c6 : Code := Code.snd trellisref8_str_c4
noncomputable abbrev trellisref8_str_c7 : Code := Code.fst trellisref8_str_c6
noncomputable abbrev trellisref8_str_c8 : Code := Code.snd trellisref8_str_c6
noncomputable abbrev trellisref8_str_c9 : Code := Code.fst trellisref8_str_c7
noncomputable abbrev trellisref8_str_c10 : Code := Code.fst trellisref8_str_c9
noncomputable abbrev trellisref8_str_c11 : Code := Code.fst trellisref8_str_c10
noncomputable abbrev trellisref8_str_c12 : Code := Code.snd trellisref8_str_c10
noncomputable abbrev trellisref8_str_c13 : Code := Code.fst trellisref8_str_c11
noncomputable abbrev trellisref8_str_c14 : Code := Code.snd trellisref8_str_c11
noncomputable abbrev trellisref8_str_c15 : Code := Code.fst trellisref8_str_c14
noncomputable abbrev trellisref8_str_c16 : Code := Code.snd trellisref8_str_c14
noncomputable abbrev trellisref8_str_c17 : Code := Code.fst trellisref8_str_c12
noncomputable abbrev trellisref8_str_c18 : Code := Code.fst trellisref8_str_c17
noncomputable abbrev trellisref8_str_c19 : Code := Code.snd trellisref8_str_c17
noncomputable abbrev trellisref8_str_c20 : Code := Code.fst trellisref8_str_c18
noncomputable abbrev trellisref8_str_c21 : Code := Code.snd trellisref8_str_c18
noncomputable abbrev trellisref8_str_c22 : Code := Code.fst trellisref8_str_c21
noncomputable abbrev trellisref8_str_c23 : Code := Code.snd trellisref8_str_c21
noncomputable abbrev trellisref8_str_c24 : Code := Code.fst trellisref8_str_c22
noncomputable abbrev trellisref8_str_c25 : Code := Code.snd trellisref8_str_c22
noncomputable abbrev trellisref8_str_c26 : Code := Code.fst trellisref8_str_c19
noncomputable abbrev trellisref8_str_c27 : Code := Code.snd trellisref8_str_c19
noncomputable abbrev trellisref8_str_c28 : Code := Code.fst trellisref8_str_c26
noncomputable abbrev trellisref8_str_c29 : Code := Code.snd trellisref8_str_c26
noncomputable abbrev trellisref8_str_c30 : Code := Code.fst trellisref8_str_c29
noncomputable abbrev trellisref8_str_c31 : Code := Code.snd trellisref8_str_c29
noncomputable abbrev trellisref8_str_c32 : Code := Code.fst trellisref8_str_c27
noncomputable abbrev trellisref8_str_c33 : Code := Code.snd trellisref8_str_c27
noncomputable abbrev trellisref8_str_c34 : Code := Code.fst trellisref8_str_c33
noncomputable abbrev trellisref8_str_c35 : Code := Code.snd trellisref8_str_c33
noncomputable abbrev trellisref8_str_c36 : Code := Code.fst trellisref8_str_c34
noncomputable abbrev trellisref8_str_c37 : Code := Code.snd trellisref8_str_c34
noncomputable abbrev trellisref8_str_c38 : Code := Code.fst trellisref8_str_c37
noncomputable abbrev trellisref8_str_c39 : Code := Code.snd trellisref8_str_c37
noncomputable abbrev trellisref8_str_c40 : Code := Code.fst trellisref8_str_c38
noncomputable abbrev trellisref8_str_c41 : Code := Code.snd trellisref8_str_c38
noncomputable abbrev trellisref8_str_c42 : Code := Code.fst trellisref8_str_c35
noncomputable abbrev trellisref8_str_c43 : Code := Code.snd trellisref8_str_c35
noncomputable abbrev trellisref8_str_c44 : Code := Code.fst trellisref8_str_c30
noncomputable abbrev trellisref8_str_c45 : Code := Code.snd trellisref8_str_c30
noncomputable abbrev trellisref8_str_c46 : Code := Code.fst trellisref8_str_c45
noncomputable abbrev trellisref8_str_c47 : Code := Code.snd trellisref8_str_c45
noncomputable abbrev trellisref8_str_c48 : Code := Code.fst trellisref8_str_c8
noncomputable abbrev trellisref8_str_c49 : Code := Code.snd trellisref8_str_c8
abbrev trellisref8_str_R (w : World) (F : Nat → Prop) (r : Int × ByteArray × Int × Int) : Ending → World → Prop := fun e w' => e = .returned (.tuple #[.int .i64 r.1, .string r.2.1, .int .i64 r.2.2.1, .int .i64 r.2.2.2]) ∧ Below w.heap.size w w'
noncomputable abbrev trellisref8_str_C (w : World) (F : Nat → Prop) (r : Int × ByteArray × Int × Int) : Cx := ⟨Try.prog, 20, Try.f20, 61, trellisref8_str_R w F r, w⟩
theorem trellisref8_str_calls {w : World} {F : Nat → Prop} (hF : ∀ b, F b → b < w.heap.size) (x1 : ByteArray) (x2 : Int) (r : Int × ByteArray × Int × Int) (h : trellisref8_str x1 x2 r) : Calls Try.prog 20 #[.string x1, .int .i64 x2] w (trellisref8_str_R w F r) := by
  unfold trellisref8_str at h
  refine calls_of_G (vs := [.string x1, .int .i64 x2]) 61 Try.func20 rfl Try.ntmps20 rfl F ?_
  show G (trellisref8_str_C w F r) _ _ _ _
  refine g_seq (c := trellisref8_str_c0) rfl ?_
  refine g_region (c := trellisref8_str_c1) rfl rfl ?_
  refine wl_v 0 rfl (v_assign rfl) gn rfl ?_
  refine wl_v 1 rfl (v_assign rfl) gn rfl ?_
  refine wl_v 2 rfl (v_assign rfl) gn rfl ?_
  refine wl_v 3 rfl (v_assign rfl) gn rfl ?_
  refine w_end 4 rfl ?_
  refine g_seq (c := trellisref8_str_c2) rfl ?_
  refine g_region (c := trellisref8_str_c3) rfl rfl ?_
  refine wl_v 0 rfl (v_assign rfl) gn rfl ?_
  refine w_end 1 rfl ?_
  refine g_seq (c := trellisref8_str_c4) rfl ?_
  refine g_region (c := trellisref8_str_c5) rfl rfl ?_
  refine wl_v 0 rfl (v_move rfl) gn rfl ?_
  refine wl_v 1 rfl (v_bin rfl rfl rfl) gn rfl ?_
  refine wl_v 2 rfl (v_assign rfl) gn rfl ?_
  refine w_end 3 rfl ?_
  refine g_seq (c := trellisref8_str_c6) rfl ?_
  refine g_block (c := trellisref8_str_c7) rfl ?_
  refine g_loop (c := trellisref8_str_c9) rfl ?_
  have key1 : ∀ s, Rounds (fun (s : (List Int) × Int) o => trellisref8_str_b1 x1 x2 s.1 s.2 o) s r → (fun (s : (List Int) × Int) => ∀ (A44 : Option Addr) (n46 : Nat) (c45 : Nat) (hq50 : n46 = s.1.length) (hA47 : 0 < n46 → A44.isSome = true) (hn48 : n46 ≤ c45) (hm49 : c45 ≤ maxLen), G (trellisref8_str_C w F r) [.code trellisref8_str_c10, .inLoop trellisref8_str_c10, .inBlock 0, .code trellisref8_str_c8] [(0, .string x1), (1, .int .i64 x2), (8, .slice A44 n46 c45), (9, .int .i64 s.2)] [.own (.slice A44 n46 c45) 5 1 n46 (s.1.flatMap (eI .u8))] [Sm w.heap.size F w [], St w []]) s := by
    intro s hs
    refine Rounds.ind (mot := (fun (s : (List Int) × Int) => ∀ (A44 : Option Addr) (n46 : Nat) (c45 : Nat) (hq50 : n46 = s.1.length) (hA47 : 0 < n46 → A44.isSome = true) (hn48 : n46 ≤ c45) (hm49 : c45 ≤ maxLen), G (trellisref8_str_C w F r) [.code trellisref8_str_c10, .inLoop trellisref8_str_c10, .inBlock 0, .code trellisref8_str_c8] [(0, .string x1), (1, .int .i64 x2), (8, .slice A44 n46 c45), (9, .int .i64 s.2)] [.own (.slice A44 n46 c45) 5 1 n46 (s.1.flatMap (eI .u8))] [Sm w.heap.size F w [], St w []])) ?_ hs
    clear hs s
    intro s o1 h hO1
    obtain ⟨x43, x51⟩ := s
    intro A44 n46 c45 hq50 hA47 hn48 hm49
    have h : trellisref8_str_b1 x1 x2 x43 x51 o1 := h
    unfold trellisref8_str_b1 at h
    show G (trellisref8_str_C w F r) [.code trellisref8_str_c10, .inLoop trellisref8_str_c10, .inBlock 0, .code trellisref8_str_c8] [(0, .string x1), (1, .int .i64 x2), (8, .slice A44 n46 c45), (9, .int .i64 x51)] [.own (.slice A44 n46 c45) 5 1 n46 (x43.flatMap (eI .u8))] [Sm w.heap.size F w [], St w []]
    refine g_seq (c := trellisref8_str_c10) rfl ?_
    refine g_seq (c := trellisref8_str_c11) rfl ?_
    have j2 : ∀ (x106 : Bool) (h : trellisref8_str_j2 x51 x1 x43 x2 x106 o1) (A99 : Option Addr) (n101 : Nat) (c100 : Nat) (hq105 : n101 = x43.length) (hA102 : 0 < n101 → A99.isSome = true) (hn103 : n101 ≤ c100) (hm104 : c100 ≤ maxLen), G (trellisref8_str_C w F r) [.code trellisref8_str_c14, .code trellisref8_str_c12, .inLoop trellisref8_str_c10, .inBlock 0, .code trellisref8_str_c8] [(0, .string x1), (1, .int .i64 x2), (8, .slice A99 n101 c100), (9, .int .i64 x51), (23, .bool x106)] [.own (.slice A99 n101 c100) 5 1 n101 (x43.flatMap (eI .u8))] [Sm w.heap.size F w [], St w []] := by
      intro x106 h A99 n101 c100 hq105 hA102 hn103 hm104
      unfold trellisref8_str_j2 at h
      by_cases hp107 : x106 = true
      · have h := if_pos' hp107 h
        refine g_true (c := trellisref8_str_c14) rfl _ rfl (hp107) ?_
        refine g_skip (c := trellisref8_str_c15) rfl ?_
        refine g_block (c := trellisref8_str_c12) rfl ?_
        refine g_seq (c := trellisref8_str_c17) rfl ?_
        refine g_seq (c := trellisref8_str_c18) rfl ?_
        refine g_region (c := trellisref8_str_c20) rfl rfl ?_
        refine wl_v 0 rfl (v_move rfl) gn rfl ?_
        refine wl_v 1 rfl (v_move rfl) gn rfl ?_
        obtain ⟨hb108, h⟩ := h
        refine wl_v 2 rfl (v_indexS un_9 rfl rfl hb108) gn rfl ?_
        refine wl_v 3 rfl (v_bin rfl rfl rfl) gn rfl ?_
        refine w_end 4 rfl ?_
        by_cases hp109 : bt x1 x51 = 34
        · have h := if_pos' hp109 h
          refine g_true (c := trellisref8_str_c21) rfl _ rfl ((eqi hp109)) ?_
          refine g_seq (c := trellisref8_str_c22) rfl ?_
          have hns : Region.noSelect (Code.ops trellisref8_str_c24) = true := by kernel_rfl
          refine g_draw (c := trellisref8_str_c24) [.own (.slice A99 n101 c100) 5 1 n101 (x43.flatMap (eI .u8))] [Sm w.heap.size F w [], St w []] 8 rfl rfl mix rfl (.cons_cons _ (.slnil)) (sels [0, 1] rfl) ?_
          refine wa_v 0 rfl (v_move rfl) gn rfl hns (by kernel_rfl) (by kernel_rfl) rfl ?_
          refine wa_v 1 rfl (v_bin rfl rfl rfl) gn rfl hns (by kernel_rfl) (by kernel_rfl) rfl ?_
          refine wa_v 2 rfl (v_move rfl) gn rfl hns (by kernel_rfl) (by kernel_rfl) rfl ?_
          refine wa_v 3 rfl (v_b2sO 0 u8_31 un_9 rfl rfl hq105) gn rfl hns (by kernel_rfl) (by kernel_rfl) rfl ?_
          refine wa_v 4 rfl (v_assign rfl) gn rfl hns (by kernel_rfl) (by kernel_rfl) rfl ?_
          refine wa_v 5 rfl (v_assign rfl) gn rfl hns (by kernel_rfl) (by kernel_rfl) rfl ?_
          refine wa_v 6 rfl (v_assign rfl) gn rfl hns (by kernel_rfl) (by kernel_rfl) rfl ?_
          refine wa_v 7 rfl (v_assign rfl) gn rfl hns (by kernel_rfl) (by kernel_rfl) rfl ?_
          refine wa_end (by kernel_rfl) ?_
          have h := Out.inr hO1 h
          refine g_retR (c := trellisref8_str_c25) [.int .i64 (w64 (x51 + 1)), .string (ofBs x43), .int .i64 0, .int .i64 0] rfl Try.func20 rfl (.tmp rfl (.tmp rfl (.tmp rfl (.tmp rfl (.nil))))) fun wr hLr => ?_
          show trellisref8_str_R w F r (.returned (packV [.int .i64 (w64 (x51 + 1)), .string (ofBs x43), .int .i64 0, .int .i64 0])) wr
          rw [h]
          exact ⟨rfl, hLr.below (me 1 rfl)⟩
        · have h := if_neg' hp109 h
          refine g_false (c := trellisref8_str_c21) rfl _ rfl ((nei hp109)) ?_
          refine g_skip (c := trellisref8_str_c23) rfl ?_
          refine g_seq (c := trellisref8_str_c19) rfl ?_
          refine g_seq (c := trellisref8_str_c26) rfl ?_
          refine g_region (c := trellisref8_str_c28) rfl rfl ?_
          refine wl_v 0 rfl (v_move rfl) gn rfl ?_
          refine wl_v 1 rfl (v_move rfl) gn rfl ?_
          refine wl_v 2 rfl (v_indexS un_9 rfl rfl hb108) gn rfl ?_
          refine wl_v 3 rfl (v_bin rfl rfl rfl) gn rfl ?_
          refine w_end 4 rfl ?_
          by_cases hp110 : bt x1 x51 = 92
          · have h := if_pos' hp110 h
            refine g_false (c := trellisref8_str_c29) rfl _ rfl ((eqib hp110)) ?_
            refine g_skip (c := trellisref8_str_c31) rfl ?_
            refine g_seq (c := trellisref8_str_c27) rfl ?_
            refine g_region (c := trellisref8_str_c32) rfl rfl ?_
            refine wl_v 0 rfl (v_move rfl) gn rfl ?_
            refine wl_v 1 rfl (v_move rfl) gn rfl ?_
            obtain ⟨r113, hv114, h⟩ := h
            refine wl_s 2 rfl (s_call [.string x1, .int .i64 x51] rfl Try.func24 rfl rfl rfl fun w111 hL112 => ?_) gn
            refine Calls.mono (trellisref8_Escape_calls (w := w111) (F := fun b => b < w111.heap.size) (fun b hb => hb) x1 x51 r113 hv114) ?_
            rintro _ w115 ⟨rfl, hbl116⟩
            refine ⟨_, _, _, rfl, hL112.sameB hbl116, ?_⟩
            refine wl_v 3 rfl (v_move rfl) gn rfl ?_
            refine wl_v 4 rfl (v_extract rfl rfl) gn rfl ?_
            refine wl_v 5 rfl (v_extract rfl rfl) gn rfl ?_
            refine wl_v 6 rfl (v_assign rfl) gn rfl ?_
            refine wl_v 7 rfl (v_assign rfl) gn rfl ?_
            refine w_end 8 rfl ?_
            refine g_seq (c := trellisref8_str_c33) rfl ?_
            refine g_seq (c := trellisref8_str_c34) rfl ?_
            refine g_region (c := trellisref8_str_c36) rfl rfl ?_
            refine wl_v 0 rfl (v_move rfl) gn rfl ?_
            refine wl_v 1 rfl (v_bin rfl rfl rfl) gn rfl ?_
            refine w_end 2 rfl ?_
            by_cases hp117 : r113.1 = 0
            · have h := if_pos' hp117 h
              refine g_true (c := trellisref8_str_c37) rfl _ rfl ((eqi hp117)) ?_
              refine g_seq (c := trellisref8_str_c38) rfl ?_
              refine g_region (c := trellisref8_str_c40) rfl rfl ?_
              refine wl_v 0 rfl (v_move rfl) gn rfl ?_
              refine wl_v 1 rfl (v_assign rfl) gn rfl ?_
              refine wl_v 2 rfl (v_assign rfl) gn rfl ?_
              refine wl_v 3 rfl (v_assign rfl) gn rfl ?_
              refine wl_v 4 rfl (v_assign rfl) gn rfl ?_
              refine w_end 5 rfl ?_
              have h := Out.inr hO1 h
              refine g_retR (c := trellisref8_str_c41) [.int .i64 0, .string (⟨#[]⟩ : ByteArray), .int .i64 82, .int .i64 x51] rfl Try.func20 rfl (.tmp rfl (.tmp rfl (.tmp rfl (.tmp rfl (.nil))))) fun wr hLr => ?_
              show trellisref8_str_R w F r (.returned (packV [.int .i64 0, .string (⟨#[]⟩ : ByteArray), .int .i64 82, .int .i64 x51])) wr
              rw [h]
              exact ⟨rfl, hLr.below (me 1 rfl)⟩
            · have h := if_neg' hp117 h
              refine g_false (c := trellisref8_str_c37) rfl _ rfl ((nei hp117)) ?_
              refine g_skip (c := trellisref8_str_c39) rfl ?_
              refine g_seq (c := trellisref8_str_c35) rfl ?_
              refine g_region (c := trellisref8_str_c42) rfl rfl ?_
              refine wl_v 0 rfl (v_move rfl) gn rfl ?_
              refine wl_v 1 rfl (v_move rfl) gn rfl ?_
              refine wl_s 2 rfl (s_lit [.int .u8 r113.2] bs_31_1 rfl (by kernel_rfl) rfl rfl rfl fun gb118 => ?_) gn
              obtain ⟨x125, hv126, h⟩ := h
              obtain ⟨hb127, h⟩ := h
              have hq128 : n101 + 1 = x125.length := by have q1 : n101 = x43.length := hq105; have q2 : 1 = ([r113.2] : List Int).length := rfl; rw [hv126, List.length_append]; omega
              refine wl_s 3 rfl (s_appO (cells' := x125.flatMap (eI .u8)) (news := ([r113.2] : List Int).flatMap (eI .u8)) 1 0 ap_31 rfl rfl rfl rfl (Nat.le_refl _) (rfl) (fm_all (hone_int .u8) _) rfl (by rw [hv126, List.flatMap_append] <;> rfl) (by omega) (by omega) (by decide) rfl fun A120 c121 hA122 hn123 hm124 => ?_) gn
              refine wl_v 4 rfl (v_assign rfl) gn rfl ?_
              refine w_end 5 rfl ?_
              refine g_region (c := trellisref8_str_c43) rfl rfl ?_
              refine wl_v 0 rfl (v_move rfl) gn rfl ?_
              refine wl_v 1 rfl (v_move rfl) gn rfl ?_
              refine wl_v 2 rfl (v_bin rfl rfl rfl) gn rfl ?_
              refine wl_v 3 rfl (v_assign rfl) gn rfl ?_
              refine w_end 4 rfl ?_
              refine g_inBlock ?_
              refine g_inLoop ?_
              have ih := Out.inl hO1 h
              exact g_go [0, 1] (ih A120 (n101 + 1) c121 hq128 hA122 hn123 hm124) ⟨rfl, rfl, rfl, rfl, trivial⟩ (.cons _ (.cons_cons _ (.slnil))) rfl
          · have h := if_neg' hp110 h
            refine g_true (c := trellisref8_str_c29) rfl _ rfl ((neib hp110)) ?_
            refine g_seq (c := trellisref8_str_c30) rfl ?_
            refine g_region (c := trellisref8_str_c44) rfl rfl ?_
            refine wl_v 0 rfl (v_move rfl) gn rfl ?_
            refine wl_v 1 rfl (v_move rfl) gn rfl ?_
            refine wl_v 2 rfl (v_move rfl) gn rfl ?_
            refine wl_v 3 rfl (v_indexS un_9 rfl rfl hb108) gn rfl ?_
            refine wl_s 4 rfl (s_lit [.int .u8 (bt x1 x51)] bs_31_1 rfl (by kernel_rfl) rfl rfl rfl fun gb129 => ?_) gn
            obtain ⟨x136, hv137, h⟩ := h
            obtain ⟨hb138, h⟩ := h
            have hq139 : n101 + 1 = x136.length := by have q1 : n101 = x43.length := hq105; have q2 : 1 = ([bt x1 x51] : List Int).length := rfl; rw [hv137, List.length_append]; omega
            refine wl_s 5 rfl (s_appO (cells' := x136.flatMap (eI .u8)) (news := ([bt x1 x51] : List Int).flatMap (eI .u8)) 1 0 ap_31 rfl rfl rfl rfl (Nat.le_refl _) (rfl) (fm_all (hone_int .u8) _) rfl (by rw [hv137, List.flatMap_append] <;> rfl) (by omega) (by omega) (by decide) rfl fun A131 c132 hA133 hn134 hm135 => ?_) gn
            refine wl_v 6 rfl (v_assign rfl) gn rfl ?_
            refine w_end 7 rfl ?_
            refine g_seq (c := trellisref8_str_c45) rfl ?_
            refine g_region (c := trellisref8_str_c46) rfl rfl ?_
            refine wl_v 0 rfl (v_move rfl) gn rfl ?_
            refine wl_v 1 rfl (v_bin rfl rfl rfl) gn rfl ?_
            refine wl_v 2 rfl (v_assign rfl) gn rfl ?_
            refine w_end 3 rfl ?_
            refine g_exit (c := trellisref8_str_c47) [.inLoop trellisref8_str_c10, .inBlock 0, .code trellisref8_str_c8] rfl rfl ?_
            refine g_inLoop ?_
            have ih := Out.inl hO1 h
            exact g_go [0, 1] (ih A131 (n101 + 1) c132 hq139 hA133 hn134 hm135) ⟨rfl, rfl, rfl, rfl, trivial⟩ (.cons _ (.cons_cons _ (.slnil))) rfl
      · have h := if_neg' hp107 h
        refine g_false (c := trellisref8_str_c14) rfl _ rfl ((bf hp107)) ?_
        refine g_exit (c := trellisref8_str_c16) [.code trellisref8_str_c8] rfl rfl ?_
        refine g_seq (c := trellisref8_str_c8) rfl ?_
        refine g_region (c := trellisref8_str_c48) rfl rfl ?_
        refine wl_v 0 rfl (v_move rfl) gn rfl ?_
        refine wl_v 1 rfl (v_assign rfl) gn rfl ?_
        refine wl_v 2 rfl (v_assign rfl) gn rfl ?_
        refine wl_v 3 rfl (v_assign rfl) gn rfl ?_
        refine wl_v 4 rfl (v_assign rfl) gn rfl ?_
        refine w_end 5 rfl ?_
        have h := Out.inr hO1 h
        refine g_retR (c := trellisref8_str_c49) [.int .i64 0, .string (⟨#[]⟩ : ByteArray), .int .i64 82, .int .i64 x2] rfl Try.func20 rfl (.tmp rfl (.tmp rfl (.tmp rfl (.tmp rfl (.nil))))) fun wr hLr => ?_
        show trellisref8_str_R w F r (.returned (packV [.int .i64 0, .string (⟨#[]⟩ : ByteArray), .int .i64 82, .int .i64 x2])) wr
        rw [h]
        exact ⟨rfl, hLr.below (me 1 rfl)⟩
    refine g_region (c := trellisref8_str_c13) rfl rfl ?_
    refine wl_v 0 rfl (v_move rfl) gn rfl ?_
    refine wl_v 1 rfl (v_move rfl) gn rfl ?_
    refine wl_v 2 rfl (v_lenS un_9 rfl) gn rfl ?_
    refine wl_v 3 rfl (v_bin rfl rfl rfl) gn rfl ?_
    refine wl_v 4 rfl (v_move rfl) gn rfl ?_
    by_cases hp140 : x51 < (x1.size : Int)
    · have h := if_pos' hp140 h
      refine w_bool 18 rfl ((decide_eq_true hp140)) ?_
      refine wl_v 5 rfl (v_move rfl) (gy 18 rfl rfl) rfl ?_
      refine wl_v 6 rfl (v_move rfl) (gy 18 rfl rfl) rfl ?_
      obtain ⟨hb141, h⟩ := h
      refine wl_v 7 rfl (v_indexS un_9 rfl rfl hb141) (gy 18 rfl rfl) rfl ?_
      refine wl_v 8 rfl (v_bin rfl rfl rfl) (gy 18 rfl rfl) rfl ?_
      refine wl_v 9 rfl (v_pick (b := true) rfl rfl) gn rfl ?_
      refine w_end 10 rfl ?_
      exact g_go [0, 1] (j2 ((bt x1 x51) != 10) h A44 n46 c45 hq50 hA47 hn48 hm49) ⟨rfl, rfl, rfl, rfl, rfl, trivial⟩ (.cons_cons _ (.slnil)) rfl
    · have h := if_neg' hp140 h
      refine w_bool 18 rfl ((decide_eq_false hp140)) ?_
      refine wl_pass 5 rfl (ps 18 rfl rfl rfl) ?_
      refine wl_pass 6 rfl (ps 18 rfl rfl rfl) ?_
      refine wl_pass 7 rfl (ps 18 rfl rfl rfl) ?_
      refine wl_pass 8 rfl (ps 18 rfl rfl rfl) ?_
      refine wl_v 9 rfl (v_pick (b := false) rfl rfl) gn rfl ?_
      refine w_end 10 rfl ?_
      exact g_go [0, 1] (j2 false h A44 n46 c45 hq50 hA47 hn48 hm49) ⟨rfl, rfl, rfl, rfl, rfl, trivial⟩ (.cons_cons _ (.slnil)) rfl
  refine g_nil 5 1 ?_
  exact g_go [0, 1] (key1 _ h none 0 0 rfl (fun h => absurd h (Nat.lt_irrefl 0)) (Nat.le_refl _) (Nat.zero_le _)) ⟨rfl, rfl, rfl, rfl, trivial⟩ (.cons_cons _ (.slnil)) rfl
end Go.Proofs.Ytkaejoffnkhbpaa.K
