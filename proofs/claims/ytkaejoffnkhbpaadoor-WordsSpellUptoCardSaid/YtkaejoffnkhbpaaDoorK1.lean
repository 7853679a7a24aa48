/- What the machine's calls do, function by function, printed by my own tool. Condition of each: its relation holds of the answer, and what is handed in lies in memory as told. -/
import Derived.Test.YtkaejoffnkhbpaaDoorK0
set_option linter.unusedVariables false
set_option maxRecDepth 100000
set_option maxHeartbeats 4000000
namespace Go.Proofs.YtkaejoffnkhbpaaDoor.K
open Go.Proofs.YtkaejoffnkhbpaaDoor.B Go.Proofs.YtkaejoffnkhbpaaDoor.R Go.RowKit
noncomputable abbrev trellislaw8_twin_c0 : Code := bodyOf Tryd.f8
noncomputable abbrev trellislaw8_twin_c1 : Code := Code.fst trellislaw8_twin_c0
noncomputable abbrev trellislaw8_twin_c2 : Code := Code.snd trellislaw8_twin_c0
noncomputable abbrev trellislaw8_twin_c3 : Code := Code.fst trellislaw8_twin_c2
noncomputable abbrev trellislaw8_twin_c4 : Code := Code.snd trellislaw8_twin_c2
noncomputable abbrev trellislaw8_twin_c5 : Code := Code.fst trellislaw8_twin_c4
noncomputable abbrev trellislaw8_twin_c6 : Code := Code.snd trellislaw8_twin_c4
noncomputable abbrev trellislaw8_twin_c7 : Code := Code.fst trellislaw8_twin_c5
noncomputable abbrev trellislaw8_twin_c8 : Code := Code.snd trellislaw8_twin_c5
noncomputable abbrev trellislaw8_twin_c9 : Code := Code.fst trellislaw8_twin_c8
noncomputable abbrev trellislaw8_twin_c10 : Code := Code.fst trellislaw8_twin_c9
noncomputable abbrev trellislaw8_twin_c11 : Code := Code.fst trellislaw8_twin_c10
noncomputable abbrev trellislaw8_twin_c12 : Code := Code.snd trellislaw8_twin_c10
noncomputable abbrev trellislaw8_twin_c13 : Code := Code.fst trellislaw8_twin_c11
noncomputable abbrev trellislaw8_twin_c14 : Code := Code.snd trellislaw8_twin_c11
noncomputable abbrev trellislaw8_twin_c15 : Code := Code.fst trellislaw8_twin_c14
noncomputable abbrev trellislaw8_twin_c16 : Code := Code.snd trellislaw8_twin_c14
noncomputable abbrev trellislaw8_twin_c17 : Code := Code.fst trellislaw8_twin_c12
noncomputable abbrev trellislaw8_twin_c18 : Code := Code.snd trellislaw8_twin_c12
noncomputable abbrev trellislaw8_twin_c19 : Code := Code.fst trellislaw8_twin_c17
noncomputable abbrev trellislaw8_twin_c20 : Code := Code.fst trellislaw8_twin_c6
noncomputable abbrev trellislaw8_twin_c21 : Code := Code.snd trellislaw8_twin_c6
abbrev trellislaw8_twin_R (w : World) (F : Nat → Prop) (r : List api_Word) : Ending → World → Prop := fun e w' => ∃ A0 : Option Addr, ∃ n0 : Nat, ∃ c0 : Nat, e = .returned (.slice A0 n0 c0) ∧ B.Loc w w' [.own (.slice A0 n0 c0) 27 4 n0 (r.flatMap enc_api_Word)] [St w []] ∧ Ow w.heap.size A0 n0 c0 r
noncomputable abbrev trellislaw8_twin_C (w : World) (F : Nat → Prop) (r : List api_Word) : Cx := ⟨Tryd.prog, 8, Tryd.f8, 19, trellislaw8_twin_R w F  r, w⟩
theorem trellislaw8_twin_calls (w : World) (F : Nat → Prop) (x1 : List api_Word) (A2 : Option Addr) (n3 : Nat) (c4 : Nat) (h5 : Rw k_api_Word w (St w []).av A2 n3 c4 x1) (hF : ∀ b, F b → b < w.heap.size ∧ ∀ o ∈ ([] : List (List Nat)), b ∉ o) (hL0 : B.Loc w w [] [Sm w.heap.size F w [], St w []]) (r : List api_Word) (h : trellislaw8_twin x1 r) : Calls Tryd.prog 8 #[.slice A2 n3 c4] w (trellislaw8_twin_R w F  r) := by
  unfold trellislaw8_twin at h
  refine calls_of_Loc (vs := [.slice A2 n3 c4]) 19 Tryd.func8 rfl Tryd.ntmps8 rfl hL0 ?_
  show G (trellislaw8_twin_C w F r) _ _ _ _
  refine g_seq (c := trellislaw8_twin_c0) rfl ?_
  refine g_region (c := trellislaw8_twin_c1) rfl rfl ?_
  refine wl_v 0 rfl (v_assign rfl) gn rfl ?_
  refine w_end 1 rfl ?_
  refine g_seq (c := trellislaw8_twin_c2) rfl ?_
  refine g_region (c := trellislaw8_twin_c3) rfl rfl ?_
  refine wl_v 0 rfl (v_assign rfl) gn rfl ?_
  refine w_end 1 rfl ?_
  refine g_seq (c := trellislaw8_twin_c4) rfl ?_
  refine g_seq (c := trellislaw8_twin_c5) rfl ?_
  refine g_region (c := trellislaw8_twin_c7) rfl rfl ?_
  refine wl_v 0 rfl (v_assign rfl) gn rfl ?_
  refine w_end 1 rfl ?_
  refine g_block (c := trellislaw8_twin_c8) rfl ?_
  refine g_loop (c := trellislaw8_twin_c9) rfl ?_
  have key1 : ∀ s, Rounds (fun (s : (List api_Word) × Int) o => trellislaw8_twin_b1 x1 s.1 s.2 o) s r → (fun (s : (List api_Word) × Int) => ∀ (A21 : Option Addr) (n22 : Nat) (c23 : Nat) (h24 : Ow w.heap.size A21 n22 c23 s.1), G (trellislaw8_twin_C w F r) [.code trellislaw8_twin_c10, .inLoop trellislaw8_twin_c10, .inBlock 0, .code trellislaw8_twin_c6] [(0, .slice A2 n3 c4), (3, .slice A21 n22 c23), (4, .int .i64 s.2)] [.own (.slice A21 n22 c23) 27 4 n22 (s.1.flatMap enc_api_Word)] [Sm w.heap.size F w [], St w []]) s := by
    intro s hs
    refine Rounds.ind (mot := (fun (s : (List api_Word) × Int) => ∀ (A21 : Option Addr) (n22 : Nat) (c23 : Nat) (h24 : Ow w.heap.size A21 n22 c23 s.1), G (trellislaw8_twin_C w F r) [.code trellislaw8_twin_c10, .inLoop trellislaw8_twin_c10, .inBlock 0, .code trellislaw8_twin_c6] [(0, .slice A2 n3 c4), (3, .slice A21 n22 c23), (4, .int .i64 s.2)] [.own (.slice A21 n22 c23) 27 4 n22 (s.1.flatMap enc_api_Word)] [Sm w.heap.size F w [], St w []])) ?_ hs
    clear hs s
    intro s o1 h hO1
    obtain ⟨x20, x25⟩ := s
    show ∀ (A21 : Option Addr) (n22 : Nat) (c23 : Nat) (h24 : Ow w.heap.size A21 n22 c23 x20), G (trellislaw8_twin_C w F r) [.code trellislaw8_twin_c10, .inLoop trellislaw8_twin_c10, .inBlock 0, .code trellislaw8_twin_c6] [(0, .slice A2 n3 c4), (3, .slice A21 n22 c23), (4, .int .i64 x25)] [.own (.slice A21 n22 c23) 27 4 n22 (x20.flatMap enc_api_Word)] [Sm w.heap.size F w [], St w []]
    intro A21 n22 c23 h24
    have h : trellislaw8_twin_b1 x1 x20 x25 o1 := h
    unfold trellislaw8_twin_b1 at h
    refine g_seq (c := trellislaw8_twin_c10) rfl ?_
    refine g_seq (c := trellislaw8_twin_c11) rfl ?_
    refine g_region (c := trellislaw8_twin_c13) rfl rfl ?_
    refine wl_v 0 rfl (v_move rfl) gn rfl ?_
    refine wl_v 1 rfl (v_move rfl) gn rfl ?_
    refine wl_v 2 rfl (v_lenQ un_22 rfl h5.hq) gn rfl ?_
    refine wl_v 3 rfl (v_bin rfl rfl rfl) gn rfl ?_
    refine w_end 4 rfl ?_
    by_cases hp38 : x25 < (x1.length : Int)
    · have h := if_pos' hp38 h
      refine g_true (c := trellislaw8_twin_c14) rfl _ rfl ((decide_eq_true hp38)) ?_
      refine g_skip (c := trellislaw8_twin_c15) rfl ?_
      refine g_seq (c := trellislaw8_twin_c12) rfl ?_
      refine g_block (c := trellislaw8_twin_c17) rfl ?_
      refine g_region (c := trellislaw8_twin_c19) rfl rfl ?_
      refine wl_v 0 rfl (v_move rfl) gn rfl ?_
      refine wl_v 1 rfl (v_move rfl) gn rfl ?_
      refine wl_v 2 rfl (v_move rfl) gn rfl ?_
      obtain ⟨hb39, h⟩ := h
      have hr40 := Rw.readF (s := St w []) (hl := hl_api_Word) (h1 := h1_api_Word) h5 hb39
      refine wl_v 3 rfl (v_idxR (s := St w []) slE_22 rfl rfl h5 hb39) gn rfl ?_
      refine wl_v 4 rfl (v_ldA (St w []) ld_27 rfl hr40 rfl (me 1 rfl)) gn rfl ?_
      refine wl_s 5 rfl (s_litO (xs := ([ix x1 x25] : List api_Word)) [.int .i64 ((ix x1 x25).kind), .string ((ix x1 x25).text), .int .i64 ((ix x1 x25).n), .int .i64 ((ix x1 x25).at_)] bs_22_1 rfl (by kernel_rfl) rfl rfl rfl rfl fun gb42 h43 => ?_) gn
      obtain ⟨x47, hv48, h⟩ := h
      obtain ⟨hb49, h⟩ := h
      refine wl_s 6 rfl (s_app (zs := x47) (cells' := x47.flatMap enc_api_Word) 1 ap_22 rfl rfl rfl h24 (Nat.le_refl _) (Src.ownF (hl := hl_api_Word) (h1 := h1_api_Word) 0 rfl h43) (by rw [hv48, List.flatMap_append] <;> rfl) (app_len hv48 h43.hq) hb49 rfl rfl fun A44 c45 h46 => ?_) gn
      refine wl_v 7 rfl (v_assign rfl) gn rfl ?_
      refine w_end 8 rfl ?_
      refine g_inBlock ?_
      refine g_region (c := trellislaw8_twin_c18) rfl rfl ?_
      refine wl_v 0 rfl (v_move rfl) gn rfl ?_
      refine wl_v 1 rfl (v_bin rfl rfl rfl) gn rfl ?_
      refine wl_v 2 rfl (v_assign rfl) gn rfl ?_
      refine w_end 3 rfl ?_
      refine g_inLoop ?_
      have ih := Out.inl hO1 h
      exact g_go [0, 1] (ih A44 (n22 + 1) c45 h46) ⟨rfl, rfl, rfl, trivial⟩ (.cons _ (.cons_cons _ (.slnil))) rfl
    · have h := if_neg' hp38 h
      refine g_false (c := trellislaw8_twin_c14) rfl _ rfl ((decide_eq_false hp38)) ?_
      refine g_exit (c := trellislaw8_twin_c16) [.code trellislaw8_twin_c6] rfl rfl ?_
      refine g_seq (c := trellislaw8_twin_c6) rfl ?_
      refine g_region (c := trellislaw8_twin_c20) rfl rfl ?_
      refine wl_v 0 rfl (v_move rfl) gn rfl ?_
      refine wl_v 1 rfl (v_assign rfl) gn rfl ?_
      refine w_end 2 rfl ?_
      have h := Out.inr hO1 h
      refine g_retR (c := trellislaw8_twin_c21) [.slice A21 n22 c23] rfl Tryd.func8 rfl (.tmp rfl (.nil)) fun wr hLr => ?_
      have hMr : B.Loc w wr [.own (.slice A21 n22 c23) 27 4 n22 (x20.flatMap enc_api_Word)] [St w []] := hLr.pick (rest := []) (perm_of_idx [0] [] rfl rfl (by kernel_rfl)) (sels [1] rfl)
      have hMi : ∀ e ∈ ([.own (.slice A21 n22 c23) 27 4 n22 (x20.flatMap enc_api_Word)] : List Ent), e ∈ ([.own (.slice A21 n22 c23) 27 4 n22 (x20.flatMap enc_api_Word)] : List Ent) := sels [0] rfl
      show trellislaw8_twin_R w F  r (.returned (packV [.slice A21 n22 c23])) wr
      rw [h]
      exact ⟨A21, n22, c23, rfl, hMr, h24⟩
  refine g_nil 27 4 ?_
  exact g_go [0, 1] (key1 _ h none 0 0 (Ow.nil (z := w.heap.size))) ⟨rfl, rfl, rfl, trivial⟩ (.cons_cons _ (.slnil)) rfl
noncomputable abbrev words_digit_c0 : Code := bodyOf Tryd.f28
noncomputable abbrev words_digit_c1 : Code := Code.fst words_digit_c0
noncomputable abbrev words_digit_c2 : Code := Code.snd words_digit_c0
noncomputable abbrev words_digit_c3 : Code := Code.fst words_digit_c2
noncomputable abbrev words_digit_c4 : Code := Code.snd words_digit_c2
abbrev words_digit_R (w : World) (F : Nat → Prop) (r : Bool) : Ending → World → Prop := fun e w' => e = .returned (.bool r) ∧ B.Loc w w' [] [St w []]
noncomputable abbrev words_digit_C (w : World) (F : Nat → Prop) (r : Bool) : Cx := ⟨Tryd.prog, 28, Tryd.f28, 9, words_digit_R w F  r, w⟩
theorem words_digit_calls (w : World) (F : Nat → Prop) (x1 : Int) (hF : ∀ b, F b → b < w.heap.size ∧ ∀ o ∈ ([] : List (List Nat)), b ∉ o) (hL0 : B.Loc w w [] [Sm w.heap.size F w [], St w []]) (r : Bool) (h : words_digit x1 r) : Calls Tryd.prog 28 #[.int .u8 x1] w (words_digit_R w F  r) := by
  unfold words_digit at h
  refine calls_of_Loc (vs := [.int .u8 x1]) 9 Tryd.func28 rfl Tryd.ntmps28 rfl hL0 ?_
  show G (words_digit_C w F r) _ _ _ _
  refine g_seq (c := words_digit_c0) rfl ?_
  refine g_region (c := words_digit_c1) rfl rfl ?_
  refine wl_v 0 rfl (v_assign rfl) gn rfl ?_
  refine w_end 1 rfl ?_
  refine g_seq (c := words_digit_c2) rfl ?_
  refine g_region (c := words_digit_c3) rfl rfl ?_
  refine wl_v 0 rfl (v_move rfl) gn rfl ?_
  refine wl_v 1 rfl (v_bin rfl rfl rfl) gn rfl ?_
  refine wl_v 2 rfl (v_move rfl) gn rfl ?_
  by_cases hp2 : x1 ≥ 48
  · have h := if_pos' hp2 h
    refine w_bool 5 rfl ((decide_eq_true hp2)) ?_
    refine wl_v 3 rfl (v_move rfl) (gy 5 rfl rfl) rfl ?_
    refine wl_v 4 rfl (v_bin rfl rfl rfl) (gy 5 rfl rfl) rfl ?_
    refine wl_v 5 rfl (v_pick (b := true) rfl rfl) gn rfl ?_
    refine wl_v 6 rfl (v_assign rfl) gn rfl ?_
    refine w_end 7 rfl ?_
    refine g_retR (c := words_digit_c4) [.bool (decide (x1 ≤ 57))] rfl Tryd.func28 rfl (.tmp rfl (.nil)) fun wr hLr => ?_
    have hMr : B.Loc w wr [] [St w []] := hLr.pick (rest := []) (perm_of_idx [] [] rfl rfl (by kernel_rfl)) (sels [1] rfl)
    have hMi : ∀ e ∈ ([] : List Ent), e ∈ ([] : List Ent) := sels [] rfl
    show words_digit_R w F  r (.returned (packV [.bool (decide (x1 ≤ 57))])) wr
    rw [h]
    exact ⟨rfl, hMr⟩
  · have h := if_neg' hp2 h
    refine w_bool 5 rfl ((decide_eq_false hp2)) ?_
    refine wl_pass 3 rfl (ps 5 rfl rfl rfl) ?_
    refine wl_pass 4 rfl (ps 5 rfl rfl rfl) ?_
    refine wl_v 5 rfl (v_pick (b := false) rfl rfl) gn rfl ?_
    refine wl_v 6 rfl (v_assign rfl) gn rfl ?_
    refine w_end 7 rfl ?_
    refine g_retR (c := words_digit_c4) [.bool false] rfl Tryd.func28 rfl (.tmp rfl (.nil)) fun wr hLr => ?_
    have hMr : B.Loc w wr [] [St w []] := hLr.pick (rest := []) (perm_of_idx [] [] rfl rfl (by kernel_rfl)) (sels [1] rfl)
    have hMi : ∀ e ∈ ([] : List Ent), e ∈ ([] : List Ent) := sels [] rfl
    show words_digit_R w F  r (.returned (packV [.bool false])) wr
    rw [h]
    exact ⟨rfl, hMr⟩
noncomputable abbrev words_letter_c0 : Code := bodyOf Tryd.f27
noncomputable abbrev words_letter_c1 : Code := Code.fst words_letter_c0
noncomputable abbrev words_letter_c2 : Code := Code.snd words_letter_c0
noncomputable abbrev words_letter_c3 : Code := Code.fst words_letter_c2
noncomputable abbrev words_letter_c4 : Code := Code.snd words_letter_c2
abbrev words_letter_R (w : World) (F : Nat → Prop) (r : Bool) : Ending → World → Prop := fun e w' => e = .returned (.bool r) ∧ B.Loc w w' [] [St w []]
noncomputable abbrev words_letter_C (w : World) (F : Nat → Prop) (r : Bool) : Cx := ⟨Tryd.prog, 27, Tryd.f27, 21, words_letter_R w F  r, w⟩
theorem words_letter_calls (w : World) (F : Nat → Prop) (x1 : Int) (hF : ∀ b, F b → b < w.heap.size ∧ ∀ o ∈ ([] : List (List Nat)), b ∉ o) (hL0 : B.Loc w w [] [Sm w.heap.size F w [], St w []]) (r : Bool) (h : words_letter x1 r) : Calls Tryd.prog 27 #[.int .u8 x1] w (words_letter_R w F  r) := by
  unfold words_letter at h
  refine calls_of_Loc (vs := [.int .u8 x1]) 21 Tryd.func27 rfl Tryd.ntmps27 rfl hL0 ?_
  show G (words_letter_C w F r) _ _ _ _
  refine g_seq (c := words_letter_c0) rfl ?_
  refine g_region (c := words_letter_c1) rfl rfl ?_
  refine wl_v 0 rfl (v_assign rfl) gn rfl ?_
  refine w_end 1 rfl ?_
  refine g_seq (c := words_letter_c2) rfl ?_
  refine g_region (c := words_letter_c3) rfl rfl ?_
  refine wl_v 0 rfl (v_move rfl) gn rfl ?_
  refine wl_v 1 rfl (v_bin rfl rfl rfl) gn rfl ?_
  refine wl_v 2 rfl (v_move rfl) gn rfl ?_
  by_cases hp2 : x1 ≥ 97
  · have h := if_pos' hp2 h
    refine w_bool 5 rfl ((decide_eq_true hp2)) ?_
    refine wl_v 3 rfl (v_move rfl) (gy 5 rfl rfl) rfl ?_
    refine wl_v 4 rfl (v_bin rfl rfl rfl) (gy 5 rfl rfl) rfl ?_
    refine wl_v 5 rfl (v_pick (b := true) rfl rfl) gn rfl ?_
    refine wl_v 6 rfl (v_move rfl) gn rfl ?_
    by_cases hp3 : x1 ≤ 122
    · have h := if_pos' hp3 h
      refine w_bool 9 rfl ((decide_eq_true hp3)) ?_
      refine wl_pass 7 rfl (ps 9 rfl rfl rfl) ?_
      refine wl_pass 8 rfl (ps 9 rfl rfl rfl) ?_
      refine wl_pass 9 rfl (ps 9 rfl rfl rfl) ?_
      refine wl_pass 10 rfl (pu 12 rfl rfl) ?_
      refine wl_pass 11 rfl (pu 12 rfl rfl) ?_
      refine wl_pass 12 rfl (ps 9 rfl rfl rfl) ?_
      refine wl_v 13 rfl (v_pick (b := true) rfl rfl) gn rfl ?_
      refine wl_v 14 rfl (v_move rfl) gn rfl ?_
      refine wl_pass 15 rfl (ps 17 rfl rfl rfl) ?_
      refine wl_pass 16 rfl (ps 17 rfl rfl rfl) ?_
      refine wl_v 17 rfl (v_pick (b := true) rfl rfl) gn rfl ?_
      refine wl_v 18 rfl (v_assign rfl) gn rfl ?_
      refine w_end 19 rfl ?_
      refine g_retR (c := words_letter_c4) [.bool true] rfl Tryd.func27 rfl (.tmp rfl (.nil)) fun wr hLr => ?_
      have hMr : B.Loc w wr [] [St w []] := hLr.pick (rest := []) (perm_of_idx [] [] rfl rfl (by kernel_rfl)) (sels [1] rfl)
      have hMi : ∀ e ∈ ([] : List Ent), e ∈ ([] : List Ent) := sels [] rfl
      show words_letter_R w F  r (.returned (packV [.bool true])) wr
      rw [h]
      exact ⟨rfl, hMr⟩
    · have h := if_neg' hp3 h
      refine w_bool 9 rfl ((decide_eq_false hp3)) ?_
      refine wl_v 7 rfl (v_move rfl) (gy 9 rfl rfl) rfl ?_
      refine wl_v 8 rfl (v_bin rfl rfl rfl) (gy 9 rfl rfl) rfl ?_
      refine wl_v 9 rfl (v_move rfl) (gy 9 rfl rfl) rfl ?_
      by_cases hp4 : x1 ≥ 65
      · have h := if_pos' hp4 h
        refine w_bool 12 rfl ((decide_eq_true hp4)) ?_
        refine wl_v 10 rfl (v_move rfl) (gy 12 rfl rfl) rfl ?_
        refine wl_v 11 rfl (v_bin rfl rfl rfl) (gy 12 rfl rfl) rfl ?_
        refine wl_v 12 rfl (v_pick (b := true) rfl rfl) (gy 9 rfl rfl) rfl ?_
        refine wl_v 13 rfl (v_pick (b := false) rfl rfl) gn rfl ?_
        refine wl_v 14 rfl (v_move rfl) gn rfl ?_
        by_cases hp5 : x1 ≤ 90
        · have h := if_pos' hp5 h
          refine w_bool 17 rfl ((decide_eq_true hp5)) ?_
          refine wl_pass 15 rfl (ps 17 rfl rfl rfl) ?_
          refine wl_pass 16 rfl (ps 17 rfl rfl rfl) ?_
          refine wl_v 17 rfl (v_pick (b := true) rfl rfl) gn rfl ?_
          refine wl_v 18 rfl (v_assign rfl) gn rfl ?_
          refine w_end 19 rfl ?_
          refine g_retR (c := words_letter_c4) [.bool true] rfl Tryd.func27 rfl (.tmp rfl (.nil)) fun wr hLr => ?_
          have hMr : B.Loc w wr [] [St w []] := hLr.pick (rest := []) (perm_of_idx [] [] rfl rfl (by kernel_rfl)) (sels [1] rfl)
          have hMi : ∀ e ∈ ([] : List Ent), e ∈ ([] : List Ent) := sels [] rfl
          show words_letter_R w F  r (.returned (packV [.bool true])) wr
          rw [h]
          exact ⟨rfl, hMr⟩
        · have h := if_neg' hp5 h
          refine w_bool 17 rfl ((decide_eq_false hp5)) ?_
          refine wl_v 15 rfl (v_move rfl) (gy 17 rfl rfl) rfl ?_
          refine wl_v 16 rfl (v_bin rfl rfl rfl) (gy 17 rfl rfl) rfl ?_
          refine wl_v 17 rfl (v_pick (b := false) rfl rfl) gn rfl ?_
          refine wl_v 18 rfl (v_assign rfl) gn rfl ?_
          refine w_end 19 rfl ?_
          refine g_retR (c := words_letter_c4) [.bool (x1 == 95)] rfl Tryd.func27 rfl (.tmp rfl (.nil)) fun wr hLr => ?_
          have hMr : B.Loc w wr [] [St w []] := hLr.pick (rest := []) (perm_of_idx [] [] rfl rfl (by kernel_rfl)) (sels [1] rfl)
          have hMi : ∀ e ∈ ([] : List Ent), e ∈ ([] : List Ent) := sels [] rfl
          show words_letter_R w F  r (.returned (packV [.bool (x1 == 95)])) wr
          rw [h]
          exact ⟨rfl, hMr⟩
      · have h := if_neg' hp4 h
        refine w_bool 12 rfl ((decide_eq_false hp4)) ?_
        refine wl_pass 10 rfl (ps 12 rfl rfl rfl) ?_
        refine wl_pass 11 rfl (ps 12 rfl rfl rfl) ?_
        refine wl_v 12 rfl (v_pick (b := false) rfl rfl) (gy 9 rfl rfl) rfl ?_
        refine wl_v 13 rfl (v_pick (b := false) rfl rfl) gn rfl ?_
        refine wl_v 14 rfl (v_move rfl) gn rfl ?_
        refine wl_v 15 rfl (v_move rfl) (gy 17 rfl rfl) rfl ?_
        refine wl_v 16 rfl (v_bin rfl rfl rfl) (gy 17 rfl rfl) rfl ?_
        refine wl_v 17 rfl (v_pick (b := false) rfl rfl) gn rfl ?_
        refine wl_v 18 rfl (v_assign rfl) gn rfl ?_
        refine w_end 19 rfl ?_
        refine g_retR (c := words_letter_c4) [.bool (x1 == 95)] rfl Tryd.func27 rfl (.tmp rfl (.nil)) fun wr hLr => ?_
        have hMr : B.Loc w wr [] [St w []] := hLr.pick (rest := []) (perm_of_idx [] [] rfl rfl (by kernel_rfl)) (sels [1] rfl)
        have hMi : ∀ e ∈ ([] : List Ent), e ∈ ([] : List Ent) := sels [] rfl
        show words_letter_R w F  r (.returned (packV [.bool (x1 == 95)])) wr
        rw [h]
        exact ⟨rfl, hMr⟩
  · have h := if_neg' hp2 h
    refine w_bool 5 rfl ((decide_eq_false hp2)) ?_
    refine wl_pass 3 rfl (ps 5 rfl rfl rfl) ?_
    refine wl_pass 4 rfl (ps 5 rfl rfl rfl) ?_
    refine wl_v 5 rfl (v_pick (b := false) rfl rfl) gn rfl ?_
    refine wl_v 6 rfl (v_move rfl) gn rfl ?_
    refine wl_v 7 rfl (v_move rfl) (gy 9 rfl rfl) rfl ?_
    refine wl_v 8 rfl (v_bin rfl rfl rfl) (gy 9 rfl rfl) rfl ?_
    refine wl_v 9 rfl (v_move rfl) (gy 9 rfl rfl) rfl ?_
    by_cases hp6 : x1 ≥ 65
    · have h := if_pos' hp6 h
      refine w_bool 12 rfl ((decide_eq_true hp6)) ?_
      refine wl_v 10 rfl (v_move rfl) (gy 12 rfl rfl) rfl ?_
      refine wl_v 11 rfl (v_bin rfl rfl rfl) (gy 12 rfl rfl) rfl ?_
      refine wl_v 12 rfl (v_pick (b := true) rfl rfl) (gy 9 rfl rfl) rfl ?_
      refine wl_v 13 rfl (v_pick (b := false) rfl rfl) gn rfl ?_
      refine wl_v 14 rfl (v_move rfl) gn rfl ?_
      by_cases hp7 : x1 ≤ 90
      · have h := if_pos' hp7 h
        refine w_bool 17 rfl ((decide_eq_true hp7)) ?_
        refine wl_pass 15 rfl (ps 17 rfl rfl rfl) ?_
        refine wl_pass 16 rfl (ps 17 rfl rfl rfl) ?_
        refine wl_v 17 rfl (v_pick (b := true) rfl rfl) gn rfl ?_
        refine wl_v 18 rfl (v_assign rfl) gn rfl ?_
        refine w_end 19 rfl ?_
        refine g_retR (c := words_letter_c4) [.bool true] rfl Tryd.func27 rfl (.tmp rfl (.nil)) fun wr hLr => ?_
        have hMr : B.Loc w wr [] [St w []] := hLr.pick (rest := []) (perm_of_idx [] [] rfl rfl (by kernel_rfl)) (sels [1] rfl)
        have hMi : ∀ e ∈ ([] : List Ent), e ∈ ([] : List Ent) := sels [] rfl
        show words_letter_R w F  r (.returned (packV [.bool true])) wr
        rw [h]
        exact ⟨rfl, hMr⟩
      · have h := if_neg' hp7 h
        refine w_bool 17 rfl ((decide_eq_false hp7)) ?_
        refine wl_v 15 rfl (v_move rfl) (gy 17 rfl rfl) rfl ?_
        refine wl_v 16 rfl (v_bin rfl rfl rfl) (gy 17 rfl rfl) rfl ?_
        refine wl_v 17 rfl (v_pick (b := false) rfl rfl) gn rfl ?_
        refine wl_v 18 rfl (v_assign rfl) gn rfl ?_
        refine w_end 19 rfl ?_
        refine g_retR (c := words_letter_c4) [.bool (x1 == 95)] rfl Tryd.func27 rfl (.tmp rfl (.nil)) fun wr hLr => ?_
        have hMr : B.Loc w wr [] [St w []] := hLr.pick (rest := []) (perm_of_idx [] [] rfl rfl (by kernel_rfl)) (sels [1] rfl)
        have hMi : ∀ e ∈ ([] : List Ent), e ∈ ([] : List Ent) := sels [] rfl
        show words_letter_R w F  r (.returned (packV [.bool (x1 == 95)])) wr
        rw [h]
        exact ⟨rfl, hMr⟩
    · have h := if_neg' hp6 h
      refine w_bool 12 rfl ((decide_eq_false hp6)) ?_
      refine wl_pass 10 rfl (ps 12 rfl rfl rfl) ?_
      refine wl_pass 11 rfl (ps 12 rfl rfl rfl) ?_
      refine wl_v 12 rfl (v_pick (b := false) rfl rfl) (gy 9 rfl rfl) rfl ?_
      refine wl_v 13 rfl (v_pick (b := false) rfl rfl) gn rfl ?_
      refine wl_v 14 rfl (v_move rfl) gn rfl ?_
      refine wl_v 15 rfl (v_move rfl) (gy 17 rfl rfl) rfl ?_
      refine wl_v 16 rfl (v_bin rfl rfl rfl) (gy 17 rfl rfl) rfl ?_
      refine wl_v 17 rfl (v_pick (b := false) rfl rfl) gn rfl ?_
      refine wl_v 18 rfl (v_assign rfl) gn rfl ?_
      refine w_end 19 rfl ?_
      refine g_retR (c := words_letter_c4) [.bool (x1 == 95)] rfl Tryd.func27 rfl (.tmp rfl (.nil)) fun wr hLr => ?_
      have hMr : B.Loc w wr [] [St w []] := hLr.pick (rest := []) (perm_of_idx [] [] rfl rfl (by kernel_rfl)) (sels [1] rfl)
      have hMi : ∀ e ∈ ([] : List Ent), e ∈ ([] : List Ent) := sels [] rfl
      show words_letter_R w F  r (.returned (packV [.bool (x1 == 95)])) wr
      rw [h]
      exact ⟨rfl, hMr⟩
noncomputable abbrev strings_Contains_c0 : Code := bodyOf Tryd.f32
abbrev strings_Contains_R (w : World) (F : Nat → Prop) (r : Bool) : Ending → World → Prop := fun e w' => e = .returned (.bool r) ∧ B.Loc w w' [] [St w []]
noncomputable abbrev strings_Contains_C (w : World) (F : Nat → Prop) (r : Bool) : Cx := ⟨Tryd.prog, 32, Tryd.f32, 9, strings_Contains_R w F  r, w⟩
theorem strings_Contains_calls (w : World) (F : Nat → Prop) (x1 : ByteArray) (x2 : ByteArray) (hF : ∀ b, F b → b < w.heap.size ∧ ∀ o ∈ ([] : List (List Nat)), b ∉ o) (hL0 : B.Loc w w [] [Sm w.heap.size F w [], St w []]) (r : Bool) (h : strings_Contains x1 x2 r) : Calls Tryd.prog 32 #[.string x1, .string x2] w (strings_Contains_R w F  r) := by
  unfold strings_Contains at h
  obtain ⟨h1, rfl⟩ := h
  rw [one_byte h1]
  refine Calls.mono (Tryd.strings_Contains_one x1 _ w) ?_
  rintro e w' ⟨rfl, rfl⟩
  exact ⟨rfl, Loc.of_below (Below.refl _ _)⟩
noncomputable abbrev words_sound_c0 : Code := bodyOf Tryd.f19
noncomputable abbrev words_sound_c1 : Code := Code.fst words_sound_c0
noncomputable abbrev words_sound_c2 : Code := Code.snd words_sound_c0
noncomputable abbrev words_sound_c3 : Code := Code.fst words_sound_c2
noncomputable abbrev words_sound_c4 : Code := Code.snd words_sound_c2
noncomputable abbrev words_sound_c5 : Code := Code.fst words_sound_c3
noncomputable abbrev words_sound_c6 : Code := Code.snd words_sound_c3
noncomputable abbrev words_sound_c7 : Code := Code.fst words_sound_c6
noncomputable abbrev words_sound_c8 : Code := Code.fst words_sound_c7
noncomputable abbrev words_sound_c9 : Code := Code.snd words_sound_c7
noncomputable abbrev words_sound_c10 : Code := Code.fst words_sound_c9
noncomputable abbrev words_sound_c11 : Code := Code.snd words_sound_c9
noncomputable abbrev words_sound_c12 : Code := Code.fst words_sound_c10
noncomputable abbrev words_sound_c13 : Code := Code.snd words_sound_c10
noncomputable abbrev words_sound_c14 : Code := Code.fst words_sound_c12
noncomputable abbrev words_sound_c15 : Code := Code.snd words_sound_c12
noncomputable abbrev words_sound_c16 : Code := Code.fst words_sound_c15
noncomputable abbrev words_sound_c17 : Code := Code.snd words_sound_c15
noncomputable abbrev words_sound_c18 : Code := Code.fst words_sound_c16
noncomputable abbrev words_sound_c19 : Code := Code.snd words_sound_c16
noncomputable abbrev words_sound_c20 : Code := Code.fst words_sound_c13
noncomputable abbrev words_sound_c21 : Code := Code.snd words_sound_c13
noncomputable abbrev words_sound_c22 : Code := Code.fst words_sound_c20
noncomputable abbrev words_sound_c23 : Code := Code.snd words_sound_c20
noncomputable abbrev words_sound_c24 : Code := Code.fst words_sound_c23
noncomputable abbrev words_sound_c25 : Code := Code.fst words_sound_c24
noncomputable abbrev words_sound_c26 : Code := Code.fst words_sound_c25
noncomputable abbrev words_sound_c27 : Code := Code.snd words_sound_c25
noncomputable abbrev words_sound_c28 : Code := Code.fst words_sound_c26
noncomputable abbrev words_sound_c29 : Code := Code.snd words_sound_c26
noncomputable abbrev words_sound_c30 : Code := Code.fst words_sound_c29
noncomputable abbrev words_sound_c31 : Code := Code.snd words_sound_c29
noncomputable abbrev words_sound_c32 : Code := Code.fst words_sound_c27
noncomputable abbrev words_sound_c33 : Code := Code.snd words_sound_c27
noncomputable abbrev words_sound_c34 : Code := Code.fst words_sound_c32
noncomputable abbrev words_sound_c35 : Code := Code.fst words_sound_c34
noncomputable abbrev words_sound_c36 : Code := Code.snd words_sound_c34
noncomputable abbrev words_sound_c37 : Code := Code.fst words_sound_c36
noncomputable abbrev words_sound_c38 : Code := Code.snd words_sound_c36
noncomputable abbrev words_sound_c39 : Code := Code.fst words_sound_c37
noncomputable abbrev words_sound_c40 : Code := Code.snd words_sound_c37
noncomputable abbrev words_sound_c41 : Code := Code.fst words_sound_c21
noncomputable abbrev words_sound_c42 : Code := Code.snd words_sound_c21
noncomputable abbrev words_sound_c43 : Code := Code.fst words_sound_c11
noncomputable abbrev words_sound_c44 : Code := Code.snd words_sound_c11
noncomputable abbrev words_sound_c45 : Code := Code.fst words_sound_c44
noncomputable abbrev words_sound_c46 : Code := Code.snd words_sound_c44
noncomputable abbrev words_sound_c47 : Code := Code.fst words_sound_c45
noncomputable abbrev words_sound_c48 : Code := Code.snd words_sound_c45
noncomputable abbrev words_sound_c49 : Code := Code.fst words_sound_c46
noncomputable abbrev words_sound_c50 : Code := Code.snd words_sound_c46
noncomputable abbrev words_sound_c51 : Code := Code.fst words_sound_c50
noncomputable abbrev words_sound_c52 : Code := Code.snd words_sound_c50
noncomputable abbrev words_sound_c53 : Code := Code.fst words_sound_c51
noncomputable abbrev words_sound_c54 : Code := Code.snd words_sound_c51
noncomputable abbrev words_sound_c55 : Code := Code.fst words_sound_c53
noncomputable abbrev words_sound_c56 : Code := Code.snd words_sound_c53
noncomputable abbrev words_sound_c57 : Code := Code.fst words_sound_c56
noncomputable abbrev words_sound_c58 : Code := Code.fst words_sound_c57
noncomputable abbrev words_sound_c59 : Code := Code.fst words_sound_c58
noncomputable abbrev words_sound_c60 : Code := Code.snd words_sound_c58
noncomputable abbrev words_sound_c61 : Code := Code.fst words_sound_c59
noncomputable abbrev words_sound_c62 : Code := Code.snd words_sound_c59
noncomputable abbrev words_sound_c63 : Code := Code.fst words_sound_c62
noncomputable abbrev words_sound_c64 : Code := Code.snd words_sound_c62
noncomputable abbrev words_sound_c65 : Code := Code.fst words_sound_c60
noncomputable abbrev words_sound_c66 : Code := Code.snd words_sound_c60
noncomputable abbrev words_sound_c67 : Code := Code.fst words_sound_c65
noncomputable abbrev words_sound_c68 : Code := Code.fst words_sound_c67
noncomputable abbrev words_sound_c69 : Code := Code.snd words_sound_c67
noncomputable abbrev words_sound_c70 : Code := Code.fst words_sound_c69
noncomputable abbrev words_sound_c71 : Code := Code.fst words_sound_c70
noncomputable abbrev words_sound_c72 : Code := Code.snd words_sound_c70
noncomputable abbrev words_sound_c73 : Code := Code.fst words_sound_c71
noncomputable abbrev words_sound_c74 : Code := Code.snd words_sound_c71
noncomputable abbrev words_sound_c75 : Code := Code.fst words_sound_c74
noncomputable abbrev words_sound_c76 : Code := Code.snd words_sound_c74
noncomputable abbrev words_sound_c77 : Code := Code.fst words_sound_c72
noncomputable abbrev words_sound_c78 : Code := Code.snd words_sound_c72
noncomputable abbrev words_sound_c79 : Code := Code.fst words_sound_c77
noncomputable abbrev words_sound_c80 : Code := Code.snd words_sound_c77
noncomputable abbrev words_sound_c81 : Code := Code.fst words_sound_c78
noncomputable abbrev words_sound_c82 : Code := Code.snd words_sound_c78
noncomputable abbrev words_sound_c83 : Code := Code.fst words_sound_c82
noncomputable abbrev words_sound_c84 : Code := Code.snd words_sound_c82
noncomputable abbrev words_sound_c85 : Code := Code.fst words_sound_c83
noncomputable abbrev words_sound_c86 : Code := Code.snd words_sound_c83
noncomputable abbrev words_sound_c87 : Code := Code.fst words_sound_c86
noncomputable abbrev words_sound_c88 : Code := Code.snd words_sound_c86
noncomputable abbrev words_sound_c89 : Code := Code.fst words_sound_c88
noncomputable abbrev words_sound_c90 : Code := Code.snd words_sound_c88
noncomputable abbrev words_sound_c91 : Code := Code.fst words_sound_c89
noncomputable abbrev words_sound_c92 : Code := Code.snd words_sound_c89
noncomputable abbrev words_sound_c93 : Code := Code.fst words_sound_c54
noncomputable abbrev words_sound_c94 : Code := Code.snd words_sound_c54
noncomputable abbrev words_sound_c95 : Code := Code.fst words_sound_c52
noncomputable abbrev words_sound_c96 : Code := Code.snd words_sound_c52
noncomputable abbrev words_sound_c97 : Code := Code.fst words_sound_c96
noncomputable abbrev words_sound_c98 : Code := Code.snd words_sound_c96
noncomputable abbrev words_sound_c99 : Code := Code.fst words_sound_c97
noncomputable abbrev words_sound_c100 : Code := Code.snd words_sound_c97
noncomputable abbrev words_sound_c101 : Code := Code.fst words_sound_c98
noncomputable abbrev words_sound_c102 : Code := Code.snd words_sound_c98
noncomputable abbrev words_sound_c103 : Code := Code.fst words_sound_c102
noncomputable abbrev words_sound_c104 : Code := Code.snd words_sound_c102
noncomputable abbrev words_sound_c105 : Code := Code.fst words_sound_c103
noncomputable abbrev words_sound_c106 : Code := Code.snd words_sound_c103
noncomputable abbrev words_sound_c107 : Code := Code.fst words_sound_c4
noncomputable abbrev words_sound_c108 : Code := Code.snd words_sound_c4
abbrev words_sound_R (w : World) (F : Nat → Prop) (r : Bool) : Ending → World → Prop := fun e w' => e = .returned (.bool r) ∧ B.Loc w w' [] [St w []]
noncomputable abbrev words_sound_C (w : World) (F : Nat → Prop) (r : Bool) : Cx := ⟨Tryd.prog, 19, Tryd.f19, 100, words_sound_R w F  r, w⟩
theorem words_sound_calls (w : World) (F : Nat → Prop) (x1 : api_Word) (hF : ∀ b, F b → b < w.heap.size ∧ ∀ o ∈ ([] : List (List Nat)), b ∉ o) (hL0 : B.Loc w w [] [Sm w.heap.size F w [], St w []]) (r : Bool) (h : words_sound x1 r) : Calls Tryd.prog 19 #[.agg #[.int .i64 x1.kind, .string x1.text, .int .i64 x1.n, .int .i64 x1.at_]] w (words_sound_R w F  r) := by
  unfold words_sound at h
  refine calls_of_Loc (vs := [.agg #[.int .i64 x1.kind, .string x1.text, .int .i64 x1.n, .int .i64 x1.at_]]) 100 Tryd.func19 rfl Tryd.ntmps19 rfl hL0 ?_
  show G (words_sound_C w F r) _ _ _ _
  refine g_seq (c := words_sound_c0) rfl ?_
  refine g_region (c := words_sound_c1) rfl rfl ?_
  refine wl_s 0 rfl (s_box [.int .i64 x1.kind, .string x1.text, .int .i64 x1.n, .int .i64 x1.at_] rfl rfl rfl fun gb2 => ?_) gn
  refine wl_v 1 rfl (v_assign rfl) gn rfl ?_
  refine w_end 2 rfl ?_
  refine g_seq (c := words_sound_c2) rfl ?_
  refine g_seq (c := words_sound_c3) rfl ?_
  refine g_region (c := words_sound_c5) rfl rfl ?_
  refine wl_v 0 rfl (v_fldB fo_27_0 rfl) gn rfl ?_
  refine wl_v 1 rfl (v_ldB1 0 ld_25 rfl rfl rfl) gn rfl ?_
  refine w_end 2 rfl ?_
  refine g_block (c := words_sound_c6) rfl ?_
  refine g_seq (c := words_sound_c7) rfl ?_
  refine g_region (c := words_sound_c8) rfl rfl ?_
  refine wl_v 0 rfl (v_bin rfl rfl rfl) gn rfl ?_
  refine wl_v 1 rfl (v_assign rfl) gn rfl ?_
  refine w_end 2 rfl ?_
  by_cases hp4 : x1.kind = 1
  · have h := if_pos' hp4 h
    refine g_true (c := words_sound_c9) rfl _ rfl ((eqi hp4)) ?_
    refine g_seq (c := words_sound_c10) rfl ?_
    refine g_seq (c := words_sound_c12) rfl ?_
    have j1 : ∀ (x17 : Bool) (h : words_sound_j1 x1 x17 r) , G (words_sound_C w F r) [.code words_sound_c15, .code words_sound_c13, .inBlock 0, .code words_sound_c4] [(1, .pointer (some ⟨gb2, 0, none⟩)), (23, .bool x17)] [.box gb2 27 [.int .i64 x1.kind, .string x1.text, .int .i64 x1.n, .int .i64 x1.at_]] [Sm w.heap.size F w [], St w []] := by
      intro x17 h
      unfold words_sound_j1 at h
      by_cases hp18 : x17 = true
      · have h := if_pos' hp18 h
        refine g_true (c := words_sound_c15) rfl _ rfl (hp18) ?_
        refine g_seq (c := words_sound_c16) rfl ?_
        refine g_region (c := words_sound_c18) rfl rfl ?_
        refine wl_v 0 rfl (v_assign rfl) gn rfl ?_
        refine w_end 1 rfl ?_
        refine g_retR (c := words_sound_c19) [.bool false] rfl Tryd.func19 rfl (.tmp rfl (.nil)) fun wr hLr => ?_
        have hMr : B.Loc w wr [] [St w []] := hLr.pick (rest := [.box gb2 27 [.int .i64 x1.kind, .string x1.text, .int .i64 x1.n, .int .i64 x1.at_]]) (perm_of_idx [] [0] rfl rfl (by kernel_rfl)) (sels [1] rfl)
        have hMi : ∀ e ∈ ([] : List Ent), e ∈ ([.box gb2 27 [.int .i64 x1.kind, .string x1.text, .int .i64 x1.n, .int .i64 x1.at_]] : List Ent) := sels [] rfl
        show words_sound_R w F  r (.returned (packV [.bool false])) wr
        rw [h]
        exact ⟨rfl, hMr⟩
      · have h := if_neg' hp18 h
        refine g_false (c := words_sound_c15) rfl _ rfl ((bf hp18)) ?_
        refine g_skip (c := words_sound_c17) rfl ?_
        refine g_seq (c := words_sound_c13) rfl ?_
        refine g_seq (c := words_sound_c20) rfl ?_
        refine g_region (c := words_sound_c22) rfl rfl ?_
        refine wl_v 0 rfl (v_assign rfl) gn rfl ?_
        refine w_end 1 rfl ?_
        refine g_block (c := words_sound_c23) rfl ?_
        refine g_loop (c := words_sound_c24) rfl ?_
        have key2 : ∀ s, Rounds (fun (s : Int) o => words_sound_b2 x1 s o) s r → (fun (s : Int) => ∀ (_ : Unit), G (words_sound_C w F r) [.code words_sound_c25, .inLoop words_sound_c25, .inBlock 1, .code words_sound_c21, .inBlock 0, .code words_sound_c4] [(1, .pointer (some ⟨gb2, 0, none⟩)), (3, .int .i64 s)] [.box gb2 27 [.int .i64 x1.kind, .string x1.text, .int .i64 x1.n, .int .i64 x1.at_]] [Sm w.heap.size F w [], St w []]) s := by
          intro s hs
          refine Rounds.ind (mot := (fun (s : Int) => ∀ (_ : Unit), G (words_sound_C w F r) [.code words_sound_c25, .inLoop words_sound_c25, .inBlock 1, .code words_sound_c21, .inBlock 0, .code words_sound_c4] [(1, .pointer (some ⟨gb2, 0, none⟩)), (3, .int .i64 s)] [.box gb2 27 [.int .i64 x1.kind, .string x1.text, .int .i64 x1.n, .int .i64 x1.at_]] [Sm w.heap.size F w [], St w []])) ?_ hs
          clear hs s
          intro x40 o1 h hO1
          show ∀ (_ : Unit), G (words_sound_C w F r) [.code words_sound_c25, .inLoop words_sound_c25, .inBlock 1, .code words_sound_c21, .inBlock 0, .code words_sound_c4] [(1, .pointer (some ⟨gb2, 0, none⟩)), (3, .int .i64 x40)] [.box gb2 27 [.int .i64 x1.kind, .string x1.text, .int .i64 x1.n, .int .i64 x1.at_]] [Sm w.heap.size F w [], St w []]
          intro _
          have h : words_sound_b2 x1 x40 o1 := h
          unfold words_sound_b2 at h
          refine g_seq (c := words_sound_c25) rfl ?_
          refine g_seq (c := words_sound_c26) rfl ?_
          refine g_region (c := words_sound_c28) rfl rfl ?_
          refine wl_v 0 rfl (v_move rfl) gn rfl ?_
          refine wl_v 1 rfl (v_fldB fo_27_1 rfl) gn rfl ?_
          refine wl_v 2 rfl (v_ldB1 0 ld_9 rfl rfl rfl) gn rfl ?_
          refine wl_v 3 rfl (v_lenS un_9 rfl) gn rfl ?_
          refine wl_v 4 rfl (v_bin rfl rfl rfl) gn rfl ?_
          refine w_end 5 rfl ?_
          by_cases hp61 : x40 < (x1.text.size : Int)
          · have h := if_pos' hp61 h
            refine g_true (c := words_sound_c29) rfl _ rfl ((decide_eq_true hp61)) ?_
            refine g_skip (c := words_sound_c30) rfl ?_
            refine g_seq (c := words_sound_c27) rfl ?_
            refine g_block (c := words_sound_c32) rfl ?_
            refine g_seq (c := words_sound_c34) rfl ?_
            refine g_region (c := words_sound_c35) rfl rfl ?_
            refine wl_v 0 rfl (v_fldB fo_27_1 rfl) gn rfl ?_
            refine wl_v 1 rfl (v_ldB1 0 ld_9 rfl rfl rfl) gn rfl ?_
            refine wl_v 2 rfl (v_move rfl) gn rfl ?_
            obtain ⟨hb62, h⟩ := h
            refine wl_v 3 rfl (v_indexS un_9 rfl rfl hb62) gn rfl ?_
            obtain ⟨r66, hv67, h⟩ := h
            refine wl_s 4 rfl (s_call [.int .u8 (bt x1.text x40)] rfl Tryd.func27 rfl rfl rfl fun w63 hL64 => ?_) gn
            have hp65 : List.Perm ([.box gb2 27 [.int .i64 x1.kind, .string x1.text, .int .i64 x1.n, .int .i64 x1.at_]] : List Ent) (([] : List Ent) ++ ([.box gb2 27 [.int .i64 x1.kind, .string x1.text, .int .i64 x1.n, .int .i64 x1.at_]] : List Ent)) := perm_of_idx [] [0] rfl rfl (by kernel_rfl)
            refine Calls.mono (words_letter_calls w63 (Fl ([] : List Snap)) (bt x1.text x40) (hL64.hFl (Sl := ([] : List Snap)) hp65 (sels [] rfl)) (hL64.into hp65 (Fl ([] : List Snap))) r66 hv67) ?_
            rintro _ w68 ⟨rfl, hM69⟩
            have hL70 := hL64.call hp65 hM69
            refine ⟨_, _, _, rfl, hL70, ?_⟩
            refine wl_v 5 rfl (v_not rfl) gn rfl ?_
            refine wl_v 6 rfl (v_move rfl) gn rfl ?_
            by_cases hp71 : r66 = true
            · have h := if_pos' hp71 h
              refine w_bool 37 rfl ((nf hp71)) ?_
              refine wl_pass 7 rfl (ps 37 rfl rfl rfl) ?_
              refine wl_pass 8 rfl (ps 37 rfl rfl rfl) ?_
              refine wl_pass 9 rfl (ps 37 rfl rfl rfl) ?_
              refine wl_pass 10 rfl (ps 37 rfl rfl rfl) ?_
              refine wl_pass 11 rfl (ps 37 rfl rfl rfl) ?_
              refine wl_pass 12 rfl (ps 37 rfl rfl rfl) ?_
              refine wl_v 13 rfl (v_pick (b := false) rfl rfl) gn rfl ?_
              refine w_end 14 rfl ?_
              refine g_false (c := words_sound_c36) rfl _ rfl (rfl) ?_
              refine g_skip (c := words_sound_c38) rfl ?_
              refine g_inBlock ?_
              refine g_region (c := words_sound_c33) rfl rfl ?_
              refine wl_v 0 rfl (v_move rfl) gn rfl ?_
              refine wl_v 1 rfl (v_bin rfl rfl rfl) gn rfl ?_
              refine wl_v 2 rfl (v_assign rfl) gn rfl ?_
              refine w_end 3 rfl ?_
              refine g_inLoop ?_
              have ih := Out.inl hO1 h
              exact g_go [0, 1] (ih ()) ⟨rfl, rfl, trivial⟩ (.cons_cons _ (.slnil)) rfl
            · have h := if_neg' hp71 h
              refine w_bool 37 rfl ((nt (bf hp71))) ?_
              refine wl_v 7 rfl (v_fldB fo_27_1 rfl) (gy 37 rfl rfl) rfl ?_
              refine wl_v 8 rfl (v_ldB1 0 ld_9 rfl rfl rfl) (gy 37 rfl rfl) rfl ?_
              refine wl_v 9 rfl (v_move rfl) (gy 37 rfl rfl) rfl ?_
              refine wl_v 10 rfl (v_indexS un_9 rfl rfl hb62) (gy 37 rfl rfl) rfl ?_
              obtain ⟨r75, hv76, h⟩ := h
              refine wl_s 11 rfl (s_call [.int .u8 (bt x1.text x40)] rfl Tryd.func28 rfl rfl rfl fun w72 hL73 => ?_) (gy 37 rfl rfl)
              have hp74 : List.Perm ([.box gb2 27 [.int .i64 x1.kind, .string x1.text, .int .i64 x1.n, .int .i64 x1.at_]] : List Ent) (([] : List Ent) ++ ([.box gb2 27 [.int .i64 x1.kind, .string x1.text, .int .i64 x1.n, .int .i64 x1.at_]] : List Ent)) := perm_of_idx [] [0] rfl rfl (by kernel_rfl)
              refine Calls.mono (words_digit_calls w72 (Fl ([] : List Snap)) (bt x1.text x40) (hL73.hFl (Sl := ([] : List Snap)) hp74 (sels [] rfl)) (hL73.into hp74 (Fl ([] : List Snap))) r75 hv76) ?_
              rintro _ w77 ⟨rfl, hM78⟩
              have hL79 := hL73.call hp74 hM78
              refine ⟨_, _, _, rfl, hL79, ?_⟩
              refine wl_v 12 rfl (v_not rfl) (gy 37 rfl rfl) rfl ?_
              refine wl_v 13 rfl (v_pick (b := true) rfl rfl) gn rfl ?_
              refine w_end 14 rfl ?_
              by_cases hp80 : r75 = true
              · have h := if_pos' hp80 h
                refine g_false (c := words_sound_c36) rfl _ rfl ((nf hp80)) ?_
                refine g_skip (c := words_sound_c38) rfl ?_
                refine g_inBlock ?_
                refine g_region (c := words_sound_c33) rfl rfl ?_
                refine wl_v 0 rfl (v_move rfl) gn rfl ?_
                refine wl_v 1 rfl (v_bin rfl rfl rfl) gn rfl ?_
                refine wl_v 2 rfl (v_assign rfl) gn rfl ?_
                refine w_end 3 rfl ?_
                refine g_inLoop ?_
                have ih := Out.inl hO1 h
                exact g_go [0, 1] (ih ()) ⟨rfl, rfl, trivial⟩ (.cons_cons _ (.slnil)) rfl
              · have h := if_neg' hp80 h
                refine g_true (c := words_sound_c36) rfl _ rfl ((nt (bf hp80))) ?_
                refine g_seq (c := words_sound_c37) rfl ?_
                refine g_region (c := words_sound_c39) rfl rfl ?_
                refine wl_v 0 rfl (v_assign rfl) gn rfl ?_
                refine w_end 1 rfl ?_
                have h := Out.inr hO1 h
                refine g_retR (c := words_sound_c40) [.bool false] rfl Tryd.func19 rfl (.tmp rfl (.nil)) fun wr hLr => ?_
                have hMr : B.Loc w wr [] [St w []] := hLr.pick (rest := [.box gb2 27 [.int .i64 x1.kind, .string x1.text, .int .i64 x1.n, .int .i64 x1.at_]]) (perm_of_idx [] [0] rfl rfl (by kernel_rfl)) (sels [1] rfl)
                have hMi : ∀ e ∈ ([] : List Ent), e ∈ ([.box gb2 27 [.int .i64 x1.kind, .string x1.text, .int .i64 x1.n, .int .i64 x1.at_]] : List Ent) := sels [] rfl
                show words_sound_R w F  r (.returned (packV [.bool false])) wr
                rw [h]
                exact ⟨rfl, hMr⟩
          · have h := if_neg' hp61 h
            refine g_false (c := words_sound_c29) rfl _ rfl ((decide_eq_false hp61)) ?_
            refine g_exit (c := words_sound_c31) [.code words_sound_c21, .inBlock 0, .code words_sound_c4] rfl rfl ?_
            refine g_seq (c := words_sound_c21) rfl ?_
            refine g_region (c := words_sound_c41) rfl rfl ?_
            refine wl_v 0 rfl (v_assign rfl) gn rfl ?_
            refine w_end 1 rfl ?_
            have h := Out.inr hO1 h
            refine g_retR (c := words_sound_c42) [.bool true] rfl Tryd.func19 rfl (.tmp rfl (.nil)) fun wr hLr => ?_
            have hMr : B.Loc w wr [] [St w []] := hLr.pick (rest := [.box gb2 27 [.int .i64 x1.kind, .string x1.text, .int .i64 x1.n, .int .i64 x1.at_]]) (perm_of_idx [] [0] rfl rfl (by kernel_rfl)) (sels [1] rfl)
            have hMi : ∀ e ∈ ([] : List Ent), e ∈ ([.box gb2 27 [.int .i64 x1.kind, .string x1.text, .int .i64 x1.n, .int .i64 x1.at_]] : List Ent) := sels [] rfl
            show words_sound_R w F  r (.returned (packV [.bool true])) wr
            rw [h]
            exact ⟨rfl, hMr⟩
        exact g_go [0, 1] (key2 _ h ()) ⟨rfl, rfl, trivial⟩ (.cons_cons _ (.slnil)) rfl
    refine g_region (c := words_sound_c14) rfl rfl ?_
    refine wl_v 0 rfl (v_fldB fo_27_1 rfl) gn rfl ?_
    refine wl_v 1 rfl (v_ldB1 0 ld_9 rfl rfl rfl) gn rfl ?_
    refine wl_v 2 rfl (v_eqS rfl rfl) gn rfl ?_
    refine wl_v 3 rfl (v_move rfl) gn rfl ?_
    by_cases hp81 : x1.text = (⟨#[]⟩ : ByteArray)
    · have h := if_pos' hp81 h
      refine w_bool 12 rfl ((seq_t hp81)) ?_
      refine wl_pass 4 rfl (ps 12 rfl rfl rfl) ?_
      refine wl_pass 5 rfl (ps 12 rfl rfl rfl) ?_
      refine wl_pass 6 rfl (ps 12 rfl rfl rfl) ?_
      refine wl_pass 7 rfl (ps 12 rfl rfl rfl) ?_
      refine wl_v 8 rfl (v_pick (b := true) rfl rfl) gn rfl ?_
      refine wl_v 9 rfl (v_move rfl) gn rfl ?_
      refine wl_pass 10 rfl (ps 18 rfl rfl rfl) ?_
      refine wl_pass 11 rfl (ps 18 rfl rfl rfl) ?_
      refine wl_pass 12 rfl (ps 18 rfl rfl rfl) ?_
      refine wl_pass 13 rfl (ps 18 rfl rfl rfl) ?_
      refine wl_v 14 rfl (v_pick (b := true) rfl rfl) gn rfl ?_
      refine w_end 15 rfl ?_
      exact g_go [0, 1] (j1 true h) ⟨rfl, rfl, trivial⟩ (.cons_cons _ (.slnil)) rfl
    · have h := if_neg' hp81 h
      refine w_bool 12 rfl ((seq_f hp81)) ?_
      refine wl_v 4 rfl (v_fldB fo_27_1 rfl) (gy 12 rfl rfl) rfl ?_
      refine wl_v 5 rfl (v_ldB1 0 ld_9 rfl rfl rfl) (gy 12 rfl rfl) rfl ?_
      refine wl_v 6 rfl (v_lenS un_9 rfl) (gy 12 rfl rfl) rfl ?_
      refine wl_v 7 rfl (v_bin rfl rfl rfl) (gy 12 rfl rfl) rfl ?_
      refine wl_v 8 rfl (v_pick (b := false) rfl rfl) gn rfl ?_
      refine wl_v 9 rfl (v_move rfl) gn rfl ?_
      by_cases hp82 : (x1.text.size : Int) > 24
      · have h := if_pos' hp82 h
        refine w_bool 18 rfl ((decide_eq_true hp82)) ?_
        refine wl_pass 10 rfl (ps 18 rfl rfl rfl) ?_
        refine wl_pass 11 rfl (ps 18 rfl rfl rfl) ?_
        refine wl_pass 12 rfl (ps 18 rfl rfl rfl) ?_
        refine wl_pass 13 rfl (ps 18 rfl rfl rfl) ?_
        refine wl_v 14 rfl (v_pick (b := true) rfl rfl) gn rfl ?_
        refine w_end 15 rfl ?_
        exact g_go [0, 1] (j1 true h) ⟨rfl, rfl, trivial⟩ (.cons_cons _ (.slnil)) rfl
      · have h := if_neg' hp82 h
        refine w_bool 18 rfl ((decide_eq_false hp82)) ?_
        refine wl_v 10 rfl (v_fldB fo_27_1 rfl) (gy 18 rfl rfl) rfl ?_
        refine wl_v 11 rfl (v_ldB1 0 ld_9 rfl rfl rfl) (gy 18 rfl rfl) rfl ?_
        obtain ⟨hb83, h⟩ := h
        refine wl_v 12 rfl (v_indexS un_9 rfl rfl hb83) (gy 18 rfl rfl) rfl ?_
        obtain ⟨r87, hv88, h⟩ := h
        refine wl_s 13 rfl (s_call [.int .u8 (bt x1.text 0)] rfl Tryd.func28 rfl rfl rfl fun w84 hL85 => ?_) (gy 18 rfl rfl)
        have hp86 : List.Perm ([.box gb2 27 [.int .i64 x1.kind, .string x1.text, .int .i64 x1.n, .int .i64 x1.at_]] : List Ent) (([] : List Ent) ++ ([.box gb2 27 [.int .i64 x1.kind, .string x1.text, .int .i64 x1.n, .int .i64 x1.at_]] : List Ent)) := perm_of_idx [] [0] rfl rfl (by kernel_rfl)
        refine Calls.mono (words_digit_calls w84 (Fl ([] : List Snap)) (bt x1.text 0) (hL85.hFl (Sl := ([] : List Snap)) hp86 (sels [] rfl)) (hL85.into hp86 (Fl ([] : List Snap))) r87 hv88) ?_
        rintro _ w89 ⟨rfl, hM90⟩
        have hL91 := hL85.call hp86 hM90
        refine ⟨_, _, _, rfl, hL91, ?_⟩
        refine wl_v 14 rfl (v_pick (b := false) rfl rfl) gn rfl ?_
        refine w_end 15 rfl ?_
        exact g_go [0, 1] (j1 r87 h) ⟨rfl, rfl, trivial⟩ (.cons_cons _ (.slnil)) rfl
  · have h := if_neg' hp4 h
    refine g_false (c := words_sound_c9) rfl _ rfl ((nei hp4)) ?_
    refine g_seq (c := words_sound_c11) rfl ?_
    refine g_region (c := words_sound_c43) rfl rfl ?_
    refine wl_v 0 rfl (v_bin rfl rfl rfl) gn rfl ?_
    refine wl_v 1 rfl (v_assign rfl) gn rfl ?_
    refine w_end 2 rfl ?_
    by_cases hp92 : x1.kind = 2
    · have h := if_pos' hp92 h
      refine g_true (c := words_sound_c44) rfl _ rfl ((eqi hp92)) ?_
      refine g_seq (c := words_sound_c45) rfl ?_
      refine g_region (c := words_sound_c47) rfl rfl ?_
      refine wl_v 0 rfl (v_assign rfl) gn rfl ?_
      refine w_end 1 rfl ?_
      refine g_retR (c := words_sound_c48) [.bool true] rfl Tryd.func19 rfl (.tmp rfl (.nil)) fun wr hLr => ?_
      have hMr : B.Loc w wr [] [St w []] := hLr.pick (rest := [.box gb2 27 [.int .i64 x1.kind, .string x1.text, .int .i64 x1.n, .int .i64 x1.at_]]) (perm_of_idx [] [0] rfl rfl (by kernel_rfl)) (sels [1] rfl)
      have hMi : ∀ e ∈ ([] : List Ent), e ∈ ([.box gb2 27 [.int .i64 x1.kind, .string x1.text, .int .i64 x1.n, .int .i64 x1.at_]] : List Ent) := sels [] rfl
      show words_sound_R w F  r (.returned (packV [.bool true])) wr
      rw [h]
      exact ⟨rfl, hMr⟩
    · have h := if_neg' hp92 h
      refine g_false (c := words_sound_c44) rfl _ rfl ((nei hp92)) ?_
      refine g_seq (c := words_sound_c46) rfl ?_
      refine g_region (c := words_sound_c49) rfl rfl ?_
      refine wl_v 0 rfl (v_bin rfl rfl rfl) gn rfl ?_
      refine wl_v 1 rfl (v_assign rfl) gn rfl ?_
      refine w_end 2 rfl ?_
      by_cases hp93 : x1.kind = 3
      · have h := if_pos' hp93 h
        refine g_true (c := words_sound_c50) rfl _ rfl ((eqi hp93)) ?_
        refine g_seq (c := words_sound_c51) rfl ?_
        refine g_seq (c := words_sound_c53) rfl ?_
        refine g_region (c := words_sound_c55) rfl rfl ?_
        refine wl_v 0 rfl (v_assign rfl) gn rfl ?_
        refine w_end 1 rfl ?_
        refine g_block (c := words_sound_c56) rfl ?_
        refine g_loop (c := words_sound_c57) rfl ?_
        have key3 : ∀ s, Rounds (fun (s : Int) o => words_sound_b3 x1 s o) s r → (fun (s : Int) => ∀ (_ : Unit), G (words_sound_C w F r) [.code words_sound_c58, .inLoop words_sound_c58, .inBlock 3, .code words_sound_c54, .inBlock 0, .code words_sound_c4] [(1, .pointer (some ⟨gb2, 0, none⟩)), (4, .int .i64 s)] [.box gb2 27 [.int .i64 x1.kind, .string x1.text, .int .i64 x1.n, .int .i64 x1.at_]] [Sm w.heap.size F w [], St w []]) s := by
          intro s hs
          refine Rounds.ind (mot := (fun (s : Int) => ∀ (_ : Unit), G (words_sound_C w F r) [.code words_sound_c58, .inLoop words_sound_c58, .inBlock 3, .code words_sound_c54, .inBlock 0, .code words_sound_c4] [(1, .pointer (some ⟨gb2, 0, none⟩)), (4, .int .i64 s)] [.box gb2 27 [.int .i64 x1.kind, .string x1.text, .int .i64 x1.n, .int .i64 x1.at_]] [Sm w.heap.size F w [], St w []])) ?_ hs
          clear hs s
          intro x105 o1 h hO1
          show ∀ (_ : Unit), G (words_sound_C w F r) [.code words_sound_c58, .inLoop words_sound_c58, .inBlock 3, .code words_sound_c54, .inBlock 0, .code words_sound_c4] [(1, .pointer (some ⟨gb2, 0, none⟩)), (4, .int .i64 x105)] [.box gb2 27 [.int .i64 x1.kind, .string x1.text, .int .i64 x1.n, .int .i64 x1.at_]] [Sm w.heap.size F w [], St w []]
          intro _
          have h : words_sound_b3 x1 x105 o1 := h
          unfold words_sound_b3 at h
          refine g_seq (c := words_sound_c58) rfl ?_
          refine g_seq (c := words_sound_c59) rfl ?_
          refine g_region (c := words_sound_c61) rfl rfl ?_
          refine wl_v 0 rfl (v_move rfl) gn rfl ?_
          refine wl_v 1 rfl (v_fldB fo_27_1 rfl) gn rfl ?_
          refine wl_v 2 rfl (v_ldB1 0 ld_9 rfl rfl rfl) gn rfl ?_
          refine wl_v 3 rfl (v_lenS un_9 rfl) gn rfl ?_
          refine wl_v 4 rfl (v_bin rfl rfl rfl) gn rfl ?_
          refine w_end 5 rfl ?_
          by_cases hp116 : x105 < (x1.text.size : Int)
          · have h := if_pos' hp116 h
            refine g_true (c := words_sound_c62) rfl _ rfl ((decide_eq_true hp116)) ?_
            refine g_skip (c := words_sound_c63) rfl ?_
            refine g_seq (c := words_sound_c60) rfl ?_
            refine g_block (c := words_sound_c65) rfl ?_
            refine g_seq (c := words_sound_c67) rfl ?_
            refine g_region (c := words_sound_c68) rfl rfl ?_
            refine wl_v 0 rfl (v_fldB fo_27_1 rfl) gn rfl ?_
            refine wl_v 1 rfl (v_ldB1 0 ld_9 rfl rfl rfl) gn rfl ?_
            refine wl_v 2 rfl (v_move rfl) gn rfl ?_
            obtain ⟨hb117, h⟩ := h
            refine wl_v 3 rfl (v_indexS un_9 rfl rfl hb117) gn rfl ?_
            refine w_end 4 rfl ?_
            refine g_block (c := words_sound_c69) rfl ?_
            refine g_seq (c := words_sound_c70) rfl ?_
            refine g_seq (c := words_sound_c71) rfl ?_
            refine g_region (c := words_sound_c73) rfl rfl ?_
            refine wl_v 0 rfl (v_bin rfl rfl rfl) gn rfl ?_
            refine wl_v 1 rfl (v_assign rfl) gn rfl ?_
            refine w_end 2 rfl ?_
            have j4 : ∀ (x120 : Bool) (h : words_sound_j4 x1 x105 x120 o1) , G (words_sound_C w F r) [.code words_sound_c72, .inBlock 5, .inBlock 4, .code words_sound_c66, .inLoop words_sound_c58, .inBlock 3, .code words_sound_c54, .inBlock 0, .code words_sound_c4] [(1, .pointer (some ⟨gb2, 0, none⟩)), (4, .int .i64 x105), (59, .int .u8 (bt x1.text x105)), (60, .bool x120)] [.box gb2 27 [.int .i64 x1.kind, .string x1.text, .int .i64 x1.n, .int .i64 x1.at_]] [Sm w.heap.size F w [], St w []] := by
              intro x120 h
              unfold words_sound_j4 at h
              by_cases hp121 : x120 = true
              · have h := if_pos' hp121 h
                refine g_true (c := words_sound_c72) rfl _ rfl (hp121) ?_
                refine g_seq (c := words_sound_c77) rfl ?_
                refine g_region (c := words_sound_c79) rfl rfl ?_
                refine wl_v 0 rfl (v_assign rfl) gn rfl ?_
                refine w_end 1 rfl ?_
                have h := Out.inr hO1 h
                refine g_retR (c := words_sound_c80) [.bool false] rfl Tryd.func19 rfl (.tmp rfl (.nil)) fun wr hLr => ?_
                have hMr : B.Loc w wr [] [St w []] := hLr.pick (rest := [.box gb2 27 [.int .i64 x1.kind, .string x1.text, .int .i64 x1.n, .int .i64 x1.at_]]) (perm_of_idx [] [0] rfl rfl (by kernel_rfl)) (sels [1] rfl)
                have hMi : ∀ e ∈ ([] : List Ent), e ∈ ([.box gb2 27 [.int .i64 x1.kind, .string x1.text, .int .i64 x1.n, .int .i64 x1.at_]] : List Ent) := sels [] rfl
                show words_sound_R w F  r (.returned (packV [.bool false])) wr
                rw [h]
                exact ⟨rfl, hMr⟩
              · have h := if_neg' hp121 h
                refine g_false (c := words_sound_c72) rfl _ rfl ((bf hp121)) ?_
                refine g_seq (c := words_sound_c78) rfl ?_
                refine g_region (c := words_sound_c81) rfl rfl ?_
                refine wl_v 0 rfl (v_bin rfl rfl rfl) gn rfl ?_
                refine wl_v 1 rfl (v_assign rfl) gn rfl ?_
                refine w_end 2 rfl ?_
                by_cases hp122 : bt x1.text x105 = 92
                · have h := if_pos' hp122 h
                  refine g_true (c := words_sound_c82) rfl _ rfl ((eqi hp122)) ?_
                  refine g_seq (c := words_sound_c83) rfl ?_
                  refine g_region (c := words_sound_c85) rfl rfl ?_
                  refine wl_v 0 rfl (v_move rfl) gn rfl ?_
                  refine wl_v 1 rfl (v_bin rfl rfl rfl) gn rfl ?_
                  refine wl_v 2 rfl (v_assign rfl) gn rfl ?_
                  refine w_end 3 rfl ?_
                  refine g_seq (c := words_sound_c86) rfl ?_
                  refine g_region (c := words_sound_c87) rfl rfl ?_
                  refine wl_v 0 rfl (v_move rfl) gn rfl ?_
                  refine wl_v 1 rfl (v_fldB fo_27_1 rfl) gn rfl ?_
                  refine wl_v 2 rfl (v_ldB1 0 ld_9 rfl rfl rfl) gn rfl ?_
                  refine wl_v 3 rfl (v_lenS un_9 rfl) gn rfl ?_
                  refine wl_v 4 rfl (v_bin rfl rfl rfl) gn rfl ?_
                  refine wl_v 5 rfl (v_move rfl) gn rfl ?_
                  by_cases hp123 : w64 (x105 + 1) = (x1.text.size : Int)
                  · have h := if_pos' hp123 h
                    refine w_bool 72 rfl ((eqi hp123)) ?_
                    refine wl_pass 6 rfl (ps 72 rfl rfl rfl) ?_
                    refine wl_pass 7 rfl (ps 72 rfl rfl rfl) ?_
                    refine wl_pass 8 rfl (ps 72 rfl rfl rfl) ?_
                    refine wl_pass 9 rfl (ps 72 rfl rfl rfl) ?_
                    refine wl_pass 10 rfl (ps 72 rfl rfl rfl) ?_
                    refine wl_v 11 rfl (v_pick (b := true) rfl rfl) gn rfl ?_
                    refine w_end 12 rfl ?_
                    refine g_true (c := words_sound_c88) rfl _ rfl (rfl) ?_
                    refine g_seq (c := words_sound_c89) rfl ?_
                    refine g_region (c := words_sound_c91) rfl rfl ?_
                    refine wl_v 0 rfl (v_assign rfl) gn rfl ?_
                    refine w_end 1 rfl ?_
                    have h := Out.inr hO1 h
                    refine g_retR (c := words_sound_c92) [.bool false] rfl Tryd.func19 rfl (.tmp rfl (.nil)) fun wr hLr => ?_
                    have hMr : B.Loc w wr [] [St w []] := hLr.pick (rest := [.box gb2 27 [.int .i64 x1.kind, .string x1.text, .int .i64 x1.n, .int .i64 x1.at_]]) (perm_of_idx [] [0] rfl rfl (by kernel_rfl)) (sels [1] rfl)
                    have hMi : ∀ e ∈ ([] : List Ent), e ∈ ([.box gb2 27 [.int .i64 x1.kind, .string x1.text, .int .i64 x1.n, .int .i64 x1.at_]] : List Ent) := sels [] rfl
                    show words_sound_R w F  r (.returned (packV [.bool false])) wr
                    rw [h]
                    exact ⟨rfl, hMr⟩
                  · have h := if_neg' hp123 h
                    refine w_bool 72 rfl ((nei hp123)) ?_
                    refine wl_v 6 rfl (v_fldB fo_27_1 rfl) (gy 72 rfl rfl) rfl ?_
                    refine wl_v 7 rfl (v_ldB1 0 ld_9 rfl rfl rfl) (gy 72 rfl rfl) rfl ?_
                    refine wl_v 8 rfl (v_move rfl) (gy 72 rfl rfl) rfl ?_
                    obtain ⟨hb124, h⟩ := h
                    refine wl_v 9 rfl (v_indexS un_9 rfl rfl hb124) (gy 72 rfl rfl) rfl ?_
                    refine wl_v 10 rfl (v_bin rfl rfl rfl) (gy 72 rfl rfl) rfl ?_
                    refine wl_v 11 rfl (v_pick (b := false) rfl rfl) gn rfl ?_
                    refine w_end 12 rfl ?_
                    by_cases hp125 : bt x1.text (w64 (x105 + 1)) = 10
                    · have h := if_pos' hp125 h
                      refine g_true (c := words_sound_c88) rfl _ rfl ((eqi hp125)) ?_
                      refine g_seq (c := words_sound_c89) rfl ?_
                      refine g_region (c := words_sound_c91) rfl rfl ?_
                      refine wl_v 0 rfl (v_assign rfl) gn rfl ?_
                      refine w_end 1 rfl ?_
                      have h := Out.inr hO1 h
                      refine g_retR (c := words_sound_c92) [.bool false] rfl Tryd.func19 rfl (.tmp rfl (.nil)) fun wr hLr => ?_
                      have hMr : B.Loc w wr [] [St w []] := hLr.pick (rest := [.box gb2 27 [.int .i64 x1.kind, .string x1.text, .int .i64 x1.n, .int .i64 x1.at_]]) (perm_of_idx [] [0] rfl rfl (by kernel_rfl)) (sels [1] rfl)
                      have hMi : ∀ e ∈ ([] : List Ent), e ∈ ([.box gb2 27 [.int .i64 x1.kind, .string x1.text, .int .i64 x1.n, .int .i64 x1.at_]] : List Ent) := sels [] rfl
                      show words_sound_R w F  r (.returned (packV [.bool false])) wr
                      rw [h]
                      exact ⟨rfl, hMr⟩
                    · have h := if_neg' hp125 h
                      refine g_false (c := words_sound_c88) rfl _ rfl ((nei hp125)) ?_
                      refine g_skip (c := words_sound_c90) rfl ?_
                      refine g_inBlock ?_
                      refine g_inBlock ?_
                      refine g_region (c := words_sound_c66) rfl rfl ?_
                      refine wl_v 0 rfl (v_move rfl) gn rfl ?_
                      refine wl_v 1 rfl (v_bin rfl rfl rfl) gn rfl ?_
                      refine wl_v 2 rfl (v_assign rfl) gn rfl ?_
                      refine w_end 3 rfl ?_
                      refine g_inLoop ?_
                      have ih := Out.inl hO1 h
                      exact g_go [0, 1] (ih ()) ⟨rfl, rfl, trivial⟩ (.cons_cons _ (.slnil)) rfl
                · have h := if_neg' hp122 h
                  refine g_false (c := words_sound_c82) rfl _ rfl ((nei hp122)) ?_
                  refine g_skip (c := words_sound_c84) rfl ?_
                  refine g_inBlock ?_
                  refine g_inBlock ?_
                  refine g_region (c := words_sound_c66) rfl rfl ?_
                  refine wl_v 0 rfl (v_move rfl) gn rfl ?_
                  refine wl_v 1 rfl (v_bin rfl rfl rfl) gn rfl ?_
                  refine wl_v 2 rfl (v_assign rfl) gn rfl ?_
                  refine w_end 3 rfl ?_
                  refine g_inLoop ?_
                  have ih := Out.inl hO1 h
                  exact g_go [0, 1] (ih ()) ⟨rfl, rfl, trivial⟩ (.cons_cons _ (.slnil)) rfl
            by_cases hp118 : bt x1.text x105 = 47
            · have h := if_pos' hp118 h
              refine g_true (c := words_sound_c74) rfl _ rfl ((eqi hp118)) ?_
              refine g_skip (c := words_sound_c75) rfl ?_
              exact g_go [0, 1] (j4 ((bt x1.text x105) == 47) h) ⟨rfl, rfl, rfl, rfl, trivial⟩ (.cons_cons _ (.slnil)) rfl
            · have h := if_neg' hp118 h
              refine g_false (c := words_sound_c74) rfl _ rfl ((nei hp118)) ?_
              refine g_region (c := words_sound_c76) rfl rfl ?_
              refine wl_v 0 rfl (v_bin rfl rfl rfl) gn rfl ?_
              refine wl_v 1 rfl (v_assign rfl) gn rfl ?_
              refine w_end 2 rfl ?_
              exact g_go [0, 1] (j4 ((bt x1.text x105) == 10) h) ⟨rfl, rfl, rfl, rfl, trivial⟩ (.cons_cons _ (.slnil)) rfl
          · have h := if_neg' hp116 h
            refine g_false (c := words_sound_c62) rfl _ rfl ((decide_eq_false hp116)) ?_
            refine g_exit (c := words_sound_c64) [.code words_sound_c54, .inBlock 0, .code words_sound_c4] rfl rfl ?_
            refine g_seq (c := words_sound_c54) rfl ?_
            refine g_region (c := words_sound_c93) rfl rfl ?_
            refine wl_v 0 rfl (v_assign rfl) gn rfl ?_
            refine w_end 1 rfl ?_
            have h := Out.inr hO1 h
            refine g_retR (c := words_sound_c94) [.bool true] rfl Tryd.func19 rfl (.tmp rfl (.nil)) fun wr hLr => ?_
            have hMr : B.Loc w wr [] [St w []] := hLr.pick (rest := [.box gb2 27 [.int .i64 x1.kind, .string x1.text, .int .i64 x1.n, .int .i64 x1.at_]]) (perm_of_idx [] [0] rfl rfl (by kernel_rfl)) (sels [1] rfl)
            have hMi : ∀ e ∈ ([] : List Ent), e ∈ ([.box gb2 27 [.int .i64 x1.kind, .string x1.text, .int .i64 x1.n, .int .i64 x1.at_]] : List Ent) := sels [] rfl
            show words_sound_R w F  r (.returned (packV [.bool true])) wr
            rw [h]
            exact ⟨rfl, hMr⟩
        exact g_go [0, 1] (key3 _ h ()) ⟨rfl, rfl, trivial⟩ (.cons_cons _ (.slnil)) rfl
      · have h := if_neg' hp93 h
        refine g_false (c := words_sound_c50) rfl _ rfl ((nei hp93)) ?_
        refine g_seq (c := words_sound_c52) rfl ?_
        refine g_region (c := words_sound_c95) rfl rfl ?_
        refine wl_v 0 rfl (v_bin rfl rfl rfl) gn rfl ?_
        refine wl_v 1 rfl (v_assign rfl) gn rfl ?_
        refine w_end 2 rfl ?_
        by_cases hp126 : x1.kind = 4
        · have h := if_pos' hp126 h
          refine g_true (c := words_sound_c96) rfl _ rfl ((eqi hp126)) ?_
          refine g_seq (c := words_sound_c97) rfl ?_
          refine g_region (c := words_sound_c99) rfl rfl ?_
          refine wl_v 0 rfl (v_fldB fo_27_2 rfl) gn rfl ?_
          refine wl_v 1 rfl (v_ldB1 0 ld_3 rfl rfl rfl) gn rfl ?_
          refine wl_v 2 rfl (v_bin rfl rfl rfl) gn rfl ?_
          refine wl_v 3 rfl (v_move rfl) gn rfl ?_
          by_cases hp127 : x1.n ≥ 0
          · have h := if_pos' hp127 h
            refine w_bool 84 rfl ((decide_eq_true hp127)) ?_
            refine wl_v 4 rfl (v_fldB fo_27_2 rfl) (gy 84 rfl rfl) rfl ?_
            refine wl_v 5 rfl (v_ldB1 0 ld_3 rfl rfl rfl) (gy 84 rfl rfl) rfl ?_
            refine wl_v 6 rfl (v_bin rfl rfl rfl) (gy 84 rfl rfl) rfl ?_
            refine wl_v 7 rfl (v_pick (b := true) rfl rfl) gn rfl ?_
            refine wl_v 8 rfl (v_assign rfl) gn rfl ?_
            refine w_end 9 rfl ?_
            refine g_retR (c := words_sound_c100) [.bool (decide (x1.n ≤ 65535))] rfl Tryd.func19 rfl (.tmp rfl (.nil)) fun wr hLr => ?_
            have hMr : B.Loc w wr [] [St w []] := hLr.pick (rest := [.box gb2 27 [.int .i64 x1.kind, .string x1.text, .int .i64 x1.n, .int .i64 x1.at_]]) (perm_of_idx [] [0] rfl rfl (by kernel_rfl)) (sels [1] rfl)
            have hMi : ∀ e ∈ ([] : List Ent), e ∈ ([.box gb2 27 [.int .i64 x1.kind, .string x1.text, .int .i64 x1.n, .int .i64 x1.at_]] : List Ent) := sels [] rfl
            show words_sound_R w F  r (.returned (packV [.bool (decide (x1.n ≤ 65535))])) wr
            rw [h]
            exact ⟨rfl, hMr⟩
          · have h := if_neg' hp127 h
            refine w_bool 84 rfl ((decide_eq_false hp127)) ?_
            refine wl_pass 4 rfl (ps 84 rfl rfl rfl) ?_
            refine wl_pass 5 rfl (ps 84 rfl rfl rfl) ?_
            refine wl_pass 6 rfl (ps 84 rfl rfl rfl) ?_
            refine wl_v 7 rfl (v_pick (b := false) rfl rfl) gn rfl ?_
            refine wl_v 8 rfl (v_assign rfl) gn rfl ?_
            refine w_end 9 rfl ?_
            refine g_retR (c := words_sound_c100) [.bool false] rfl Tryd.func19 rfl (.tmp rfl (.nil)) fun wr hLr => ?_
            have hMr : B.Loc w wr [] [St w []] := hLr.pick (rest := [.box gb2 27 [.int .i64 x1.kind, .string x1.text, .int .i64 x1.n, .int .i64 x1.at_]]) (perm_of_idx [] [0] rfl rfl (by kernel_rfl)) (sels [1] rfl)
            have hMi : ∀ e ∈ ([] : List Ent), e ∈ ([.box gb2 27 [.int .i64 x1.kind, .string x1.text, .int .i64 x1.n, .int .i64 x1.at_]] : List Ent) := sels [] rfl
            show words_sound_R w F  r (.returned (packV [.bool false])) wr
            rw [h]
            exact ⟨rfl, hMr⟩
        · have h := if_neg' hp126 h
          refine g_false (c := words_sound_c96) rfl _ rfl ((nei hp126)) ?_
          refine g_seq (c := words_sound_c98) rfl ?_
          refine g_region (c := words_sound_c101) rfl rfl ?_
          refine wl_v 0 rfl (v_bin rfl rfl rfl) gn rfl ?_
          refine wl_v 1 rfl (v_assign rfl) gn rfl ?_
          refine w_end 2 rfl ?_
          by_cases hp128 : x1.kind = 5
          · have h := if_pos' hp128 h
            refine g_true (c := words_sound_c102) rfl _ rfl ((eqi hp128)) ?_
            refine g_seq (c := words_sound_c103) rfl ?_
            refine g_region (c := words_sound_c105) rfl rfl ?_
            refine wl_v 0 rfl (v_fldB fo_27_1 rfl) gn rfl ?_
            refine wl_v 1 rfl (v_ldB1 0 ld_9 rfl rfl rfl) gn rfl ?_
            refine wl_v 2 rfl (v_lenS un_9 rfl) gn rfl ?_
            refine wl_v 3 rfl (v_bin rfl rfl rfl) gn rfl ?_
            refine wl_v 4 rfl (v_move rfl) gn rfl ?_
            by_cases hp129 : (x1.text.size : Int) = 1
            · have h := if_pos' hp129 h
              refine w_bool 95 rfl ((eqi hp129)) ?_
              refine wl_v 5 rfl (v_fldB fo_27_1 rfl) (gy 95 rfl rfl) rfl ?_
              refine wl_v 6 rfl (v_ldB1 0 ld_9 rfl rfl rfl) (gy 95 rfl rfl) rfl ?_
              obtain ⟨r133, hv134, h⟩ := h
              refine wl_s 7 rfl (s_call [.string (⟨#[123, 125, 40, 41, 124, 42, 43, 63, 58, 59, 44, 61, 64]⟩ : ByteArray), .string x1.text] rfl Tryd.func32 rfl rfl rfl fun w130 hL131 => ?_) (gy 95 rfl rfl)
              have hp132 : List.Perm ([.box gb2 27 [.int .i64 x1.kind, .string x1.text, .int .i64 x1.n, .int .i64 x1.at_]] : List Ent) (([] : List Ent) ++ ([.box gb2 27 [.int .i64 x1.kind, .string x1.text, .int .i64 x1.n, .int .i64 x1.at_]] : List Ent)) := perm_of_idx [] [0] rfl rfl (by kernel_rfl)
              refine Calls.mono (strings_Contains_calls w130 (Fl ([] : List Snap)) (⟨#[123, 125, 40, 41, 124, 42, 43, 63, 58, 59, 44, 61, 64]⟩ : ByteArray) x1.text (hL131.hFl (Sl := ([] : List Snap)) hp132 (sels [] rfl)) (hL131.into hp132 (Fl ([] : List Snap))) r133 hv134) ?_
              rintro _ w135 ⟨rfl, hM136⟩
              have hL137 := hL131.call hp132 hM136
              refine ⟨_, _, _, rfl, hL137, ?_⟩
              refine wl_v 8 rfl (v_pick (b := true) rfl rfl) gn rfl ?_
              refine wl_v 9 rfl (v_assign rfl) gn rfl ?_
              refine w_end 10 rfl ?_
              refine g_retR (c := words_sound_c106) [.bool r133] rfl Tryd.func19 rfl (.tmp rfl (.nil)) fun wr hLr => ?_
              have hMr : B.Loc w wr [] [St w []] := hLr.pick (rest := [.box gb2 27 [.int .i64 x1.kind, .string x1.text, .int .i64 x1.n, .int .i64 x1.at_]]) (perm_of_idx [] [0] rfl rfl (by kernel_rfl)) (sels [1] rfl)
              have hMi : ∀ e ∈ ([] : List Ent), e ∈ ([.box gb2 27 [.int .i64 x1.kind, .string x1.text, .int .i64 x1.n, .int .i64 x1.at_]] : List Ent) := sels [] rfl
              show words_sound_R w F  r (.returned (packV [.bool r133])) wr
              rw [h]
              exact ⟨rfl, hMr⟩
            · have h := if_neg' hp129 h
              refine w_bool 95 rfl ((nei hp129)) ?_
              refine wl_pass 5 rfl (ps 95 rfl rfl rfl) ?_
              refine wl_pass 6 rfl (ps 95 rfl rfl rfl) ?_
              refine wl_pass 7 rfl (ps 95 rfl rfl rfl) ?_
              refine wl_v 8 rfl (v_pick (b := false) rfl rfl) gn rfl ?_
              refine wl_v 9 rfl (v_assign rfl) gn rfl ?_
              refine w_end 10 rfl ?_
              refine g_retR (c := words_sound_c106) [.bool false] rfl Tryd.func19 rfl (.tmp rfl (.nil)) fun wr hLr => ?_
              have hMr : B.Loc w wr [] [St w []] := hLr.pick (rest := [.box gb2 27 [.int .i64 x1.kind, .string x1.text, .int .i64 x1.n, .int .i64 x1.at_]]) (perm_of_idx [] [0] rfl rfl (by kernel_rfl)) (sels [1] rfl)
              have hMi : ∀ e ∈ ([] : List Ent), e ∈ ([.box gb2 27 [.int .i64 x1.kind, .string x1.text, .int .i64 x1.n, .int .i64 x1.at_]] : List Ent) := sels [] rfl
              show words_sound_R w F  r (.returned (packV [.bool false])) wr
              rw [h]
              exact ⟨rfl, hMr⟩
          · have h := if_neg' hp128 h
            refine g_false (c := words_sound_c102) rfl _ rfl ((nei hp128)) ?_
            refine g_skip (c := words_sound_c104) rfl ?_
            refine g_inBlock ?_
            refine g_seq (c := words_sound_c4) rfl ?_
            refine g_region (c := words_sound_c107) rfl rfl ?_
            refine wl_v 0 rfl (v_assign rfl) gn rfl ?_
            refine w_end 1 rfl ?_
            refine g_retR (c := words_sound_c108) [.bool false] rfl Tryd.func19 rfl (.tmp rfl (.nil)) fun wr hLr => ?_
            have hMr : B.Loc w wr [] [St w []] := hLr.pick (rest := [.box gb2 27 [.int .i64 x1.kind, .string x1.text, .int .i64 x1.n, .int .i64 x1.at_]]) (perm_of_idx [] [0] rfl rfl (by kernel_rfl)) (sels [1] rfl)
            have hMi : ∀ e ∈ ([] : List Ent), e ∈ ([.box gb2 27 [.int .i64 x1.kind, .string x1.text, .int .i64 x1.n, .int .i64 x1.at_]] : List Ent) := sels [] rfl
            show words_sound_R w F  r (.returned (packV [.bool false])) wr
            rw [h]
            exact ⟨rfl, hMr⟩
noncomputable abbrev words_quote_c0 : Code := bodyOf Tryd.f20
noncomputable abbrev words_quote_c1 : Code := Code.fst words_quote_c0
noncomputable abbrev words_quote_c2 : Code := Code.snd words_quote_c0
noncomputable abbrev words_quote_c3 : Code := Code.fst words_quote_c2
noncomputable abbrev words_quote_c4 : Code := Code.snd words_quote_c2
noncomputable abbrev words_quote_c5 : Code := Code.fst words_quote_c4
noncomputable abbrev words_quote_c6 : Code := Code.snd words_quote_c4
noncomputable abbrev words_quote_c7 : Code := Code.fst words_quote_c5
noncomputable abbrev words_quote_c8 : Code := Code.snd words_quote_c5
noncomputable abbrev words_quote_c9 : Code := Code.fst words_quote_c8
noncomputable abbrev words_quote_c10 : Code := Code.fst words_quote_c9
noncomputable abbrev words_quote_c11 : Code := Code.fst words_quote_c10
noncomputable abbrev words_quote_c12 : Code := Code.snd words_quote_c10
noncomputable abbrev words_quote_c13 : Code := Code.fst words_quote_c11
noncomputable abbrev words_quote_c14 : Code := Code.snd words_quote_c11
noncomputable abbrev words_quote_c15 : Code := Code.fst words_quote_c14
noncomputable abbrev words_quote_c16 : Code := Code.snd words_quote_c14
noncomputable abbrev words_quote_c17 : Code := Code.fst words_quote_c12
noncomputable abbrev words_quote_c18 : Code := Code.snd words_quote_c12
noncomputable abbrev words_quote_c19 : Code := Code.fst words_quote_c17
noncomputable abbrev words_quote_c20 : Code := Code.fst words_quote_c19
noncomputable abbrev words_quote_c21 : Code := Code.snd words_quote_c19
noncomputable abbrev words_quote_c22 : Code := Code.fst words_quote_c21
noncomputable abbrev words_quote_c23 : Code := Code.fst words_quote_c22
noncomputable abbrev words_quote_c24 : Code := Code.snd words_quote_c22
noncomputable abbrev words_quote_c25 : Code := Code.fst words_quote_c24
noncomputable abbrev words_quote_c26 : Code := Code.snd words_quote_c24
noncomputable abbrev words_quote_c27 : Code := Code.fst words_quote_c26
noncomputable abbrev words_quote_c28 : Code := Code.snd words_quote_c26
noncomputable abbrev words_quote_c29 : Code := Code.fst words_quote_c28
noncomputable abbrev words_quote_c30 : Code := Code.snd words_quote_c28
noncomputable abbrev words_quote_c31 : Code := Code.fst words_quote_c30
noncomputable abbrev words_quote_c32 : Code := Code.snd words_quote_c30
noncomputable abbrev words_quote_c33 : Code := Code.fst words_quote_c32
noncomputable abbrev words_quote_c34 : Code := Code.snd words_quote_c32
noncomputable abbrev words_quote_c35 : Code := Code.fst words_quote_c34
noncomputable abbrev words_quote_c36 : Code := Code.snd words_quote_c34
noncomputable abbrev words_quote_c37 : Code := Code.fst words_quote_c36
noncomputable abbrev words_quote_c38 : Code := Code.snd words_quote_c36
noncomputable abbrev words_quote_c39 : Code := Code.fst words_quote_c38
noncomputable abbrev words_quote_c40 : Code := Code.snd words_quote_c38
noncomputable abbrev words_quote_c41 : Code := Code.fst words_quote_c40
noncomputable abbrev words_quote_c42 : Code := Code.snd words_quote_c40
noncomputable abbrev words_quote_c43 : Code := Code.fst words_quote_c6
noncomputable abbrev words_quote_c44 : Code := Code.snd words_quote_c6
abbrev words_quote_R (w : World) (F : Nat → Prop) (r : ByteArray) : Ending → World → Prop := fun e w' => e = .returned (.string r) ∧ B.Loc w w' [] [St w []]
noncomputable abbrev words_quote_C (w : World) (F : Nat → Prop) (r : ByteArray) : Cx := ⟨Tryd.prog, 20, Tryd.f20, 69, words_quote_R w F  r, w⟩
theorem words_quote_calls (w : World) (F : Nat → Prop) (x1 : ByteArray) (hF : ∀ b, F b → b < w.heap.size ∧ ∀ o ∈ ([] : List (List Nat)), b ∉ o) (hL0 : B.Loc w w [] [Sm w.heap.size F w [], St w []]) (r : ByteArray) (h : words_quote x1 r) : Calls Tryd.prog 20 #[.string x1] w (words_quote_R w F  r) := by
  unfold words_quote at h
  refine calls_of_Loc (vs := [.string x1]) 69 Tryd.func20 rfl Tryd.ntmps20 rfl hL0 ?_
  show G (words_quote_C w F r) _ _ _ _
  refine g_seq (c := words_quote_c0) rfl ?_
  refine g_region (c := words_quote_c1) rfl rfl ?_
  refine wl_v 0 rfl (v_assign rfl) gn rfl ?_
  refine w_end 1 rfl ?_
  refine g_seq (c := words_quote_c2) rfl ?_
  refine g_region (c := words_quote_c3) rfl rfl ?_
  refine wl_s 0 rfl (s_litO (xs := ([34] : List Int)) [.int .u8 34] bs_44_1 rfl (by kernel_rfl) rfl rfl rfl rfl fun gb3 h4 => ?_) gn
  refine wl_v 1 rfl (v_assign rfl) gn rfl ?_
  refine w_end 2 rfl ?_
  refine g_seq (c := words_quote_c4) rfl ?_
  refine g_seq (c := words_quote_c5) rfl ?_
  refine g_region (c := words_quote_c7) rfl rfl ?_
  refine wl_v 0 rfl (v_assign rfl) gn rfl ?_
  refine w_end 1 rfl ?_
  refine g_block (c := words_quote_c8) rfl ?_
  refine g_loop (c := words_quote_c9) rfl ?_
  have key1 : ∀ s, Rounds (fun (s : (List Int) × Int) o => words_quote_b1 x1 s.1 s.2 o) s r → (fun (s : (List Int) × Int) => ∀ (A101 : Option Addr) (n102 : Nat) (c103 : Nat) (h104 : Ow w.heap.size A101 n102 c103 s.1), G (words_quote_C w F r) [.code words_quote_c10, .inLoop words_quote_c10, .inBlock 0, .code words_quote_c6] [(0, .string x1), (3, .slice A101 n102 c103), (4, .int .i64 s.2)] [.own (.slice A101 n102 c103) 5 1 n102 (s.1.flatMap (eI .u8))] [Sm w.heap.size F w [], St w []]) s := by
    intro s hs
    refine Rounds.ind (mot := (fun (s : (List Int) × Int) => ∀ (A101 : Option Addr) (n102 : Nat) (c103 : Nat) (h104 : Ow w.heap.size A101 n102 c103 s.1), G (words_quote_C w F r) [.code words_quote_c10, .inLoop words_quote_c10, .inBlock 0, .code words_quote_c6] [(0, .string x1), (3, .slice A101 n102 c103), (4, .int .i64 s.2)] [.own (.slice A101 n102 c103) 5 1 n102 (s.1.flatMap (eI .u8))] [Sm w.heap.size F w [], St w []])) ?_ hs
    clear hs s
    intro s o1 h hO1
    obtain ⟨x100, x105⟩ := s
    show ∀ (A101 : Option Addr) (n102 : Nat) (c103 : Nat) (h104 : Ow w.heap.size A101 n102 c103 x100), G (words_quote_C w F r) [.code words_quote_c10, .inLoop words_quote_c10, .inBlock 0, .code words_quote_c6] [(0, .string x1), (3, .slice A101 n102 c103), (4, .int .i64 x105)] [.own (.slice A101 n102 c103) 5 1 n102 (x100.flatMap (eI .u8))] [Sm w.heap.size F w [], St w []]
    intro A101 n102 c103 h104
    have h : words_quote_b1 x1 x100 x105 o1 := h
    unfold words_quote_b1 at h
    refine g_seq (c := words_quote_c10) rfl ?_
    refine g_seq (c := words_quote_c11) rfl ?_
    refine g_region (c := words_quote_c13) rfl rfl ?_
    refine wl_v 0 rfl (v_move rfl) gn rfl ?_
    refine wl_v 1 rfl (v_move rfl) gn rfl ?_
    refine wl_v 2 rfl (v_lenS un_9 rfl) gn rfl ?_
    refine wl_v 3 rfl (v_bin rfl rfl rfl) gn rfl ?_
    refine w_end 4 rfl ?_
    by_cases hp200 : x105 < (x1.size : Int)
    · have h := if_pos' hp200 h
      refine g_true (c := words_quote_c14) rfl _ rfl ((decide_eq_true hp200)) ?_
      refine g_skip (c := words_quote_c15) rfl ?_
      refine g_seq (c := words_quote_c12) rfl ?_
      refine g_block (c := words_quote_c17) rfl ?_
      refine g_seq (c := words_quote_c19) rfl ?_
      refine g_region (c := words_quote_c20) rfl rfl ?_
      refine wl_v 0 rfl (v_move rfl) gn rfl ?_
      refine wl_v 1 rfl (v_move rfl) gn rfl ?_
      obtain ⟨hb201, h⟩ := h
      refine wl_v 2 rfl (v_indexS un_9 rfl rfl hb201) gn rfl ?_
      refine wl_v 3 rfl (v_assign rfl) gn rfl ?_
      refine w_end 4 rfl ?_
      refine g_block (c := words_quote_c21) rfl ?_
      refine g_seq (c := words_quote_c22) rfl ?_
      have j2 : ∀ (x204 : Bool) (h : words_quote_j2 x100 x1 x105 x204 o1) , G (words_quote_C w F r) [.code words_quote_c24, .inBlock 2, .inBlock 1, .code words_quote_c18, .inLoop words_quote_c10, .inBlock 0, .code words_quote_c6] [(0, .string x1), (3, .slice A101 n102 c103), (4, .int .i64 x105), (5, .int .u8 (bt x1 x105)), (20, .bool x204)] [.own (.slice A101 n102 c103) 5 1 n102 (x100.flatMap (eI .u8))] [Sm w.heap.size F w [], St w []] := by
        intro x204 h
        unfold words_quote_j2 at h
        by_cases hp205 : x204 = true
        · have h := if_pos' hp205 h
          refine g_true (c := words_quote_c24) rfl _ rfl (hp205) ?_
          refine g_region (c := words_quote_c25) rfl rfl ?_
          refine wl_v 0 rfl (v_move rfl) gn rfl ?_
          refine wl_v 1 rfl (v_move rfl) gn rfl ?_
          refine wl_s 2 rfl (s_litO (xs := ([92, bt x1 x105] : List Int)) [.int .u8 92, .int .u8 (bt x1 x105)] bs_44_2 rfl (by kernel_rfl) rfl rfl rfl rfl fun gb207 h208 => ?_) gn
          obtain ⟨x212, hv213, h⟩ := h
          obtain ⟨hb214, h⟩ := h
          refine wl_s 3 rfl (s_app (zs := x212) (cells' := x212.flatMap (eI .u8)) 1 ap_44 rfl rfl rfl h104 (Nat.le_refl _) (Src.ownF (hl := (hlI .u8)) (h1 := (hone_int .u8)) 0 rfl h208) (by rw [hv213, List.flatMap_append] <;> rfl) (app_len hv213 h208.hq) hb214 rfl rfl fun A209 c210 h211 => ?_) gn
          refine wl_v 4 rfl (v_assign rfl) gn rfl ?_
          refine w_end 5 rfl ?_
          refine g_inBlock ?_
          refine g_inBlock ?_
          refine g_region (c := words_quote_c18) rfl rfl ?_
          refine wl_v 0 rfl (v_move rfl) gn rfl ?_
          refine wl_v 1 rfl (v_bin rfl rfl rfl) gn rfl ?_
          refine wl_v 2 rfl (v_assign rfl) gn rfl ?_
          refine w_end 3 rfl ?_
          refine g_inLoop ?_
          have ih := Out.inl hO1 h
          exact g_go [0, 1] (ih A209 (n102 + 2) c210 h211) ⟨rfl, rfl, rfl, trivial⟩ (.cons _ (.cons_cons _ (.slnil))) rfl
        · have h := if_neg' hp205 h
          refine g_false (c := words_quote_c24) rfl _ rfl ((bf hp205)) ?_
          refine g_seq (c := words_quote_c26) rfl ?_
          refine g_region (c := words_quote_c27) rfl rfl ?_
          refine wl_v 0 rfl (v_move rfl) gn rfl ?_
          refine wl_v 1 rfl (v_bin rfl rfl rfl) gn rfl ?_
          refine wl_v 2 rfl (v_assign rfl) gn rfl ?_
          refine w_end 3 rfl ?_
          by_cases hp215 : bt x1 x105 = 10
          · have h := if_pos' hp215 h
            refine g_true (c := words_quote_c28) rfl _ rfl ((eqi hp215)) ?_
            refine g_region (c := words_quote_c29) rfl rfl ?_
            refine wl_v 0 rfl (v_move rfl) gn rfl ?_
            refine wl_s 1 rfl (s_litO (xs := ([92, 110] : List Int)) [.int .u8 92, .int .u8 110] bs_44_2 rfl (by kernel_rfl) rfl rfl rfl rfl fun gb217 h218 => ?_) gn
            obtain ⟨x222, hv223, h⟩ := h
            obtain ⟨hb224, h⟩ := h
            refine wl_s 2 rfl (s_app (zs := x222) (cells' := x222.flatMap (eI .u8)) 1 ap_44 rfl rfl rfl h104 (Nat.le_refl _) (Src.ownF (hl := (hlI .u8)) (h1 := (hone_int .u8)) 0 rfl h218) (by rw [hv223, List.flatMap_append] <;> rfl) (app_len hv223 h218.hq) hb224 rfl rfl fun A219 c220 h221 => ?_) gn
            refine wl_v 3 rfl (v_assign rfl) gn rfl ?_
            refine w_end 4 rfl ?_
            refine g_inBlock ?_
            refine g_inBlock ?_
            refine g_region (c := words_quote_c18) rfl rfl ?_
            refine wl_v 0 rfl (v_move rfl) gn rfl ?_
            refine wl_v 1 rfl (v_bin rfl rfl rfl) gn rfl ?_
            refine wl_v 2 rfl (v_assign rfl) gn rfl ?_
            refine w_end 3 rfl ?_
            refine g_inLoop ?_
            have ih := Out.inl hO1 h
            exact g_go [0, 1] (ih A219 (n102 + 2) c220 h221) ⟨rfl, rfl, rfl, trivial⟩ (.cons _ (.cons_cons _ (.slnil))) rfl
          · have h := if_neg' hp215 h
            refine g_false (c := words_quote_c28) rfl _ rfl ((nei hp215)) ?_
            refine g_seq (c := words_quote_c30) rfl ?_
            refine g_region (c := words_quote_c31) rfl rfl ?_
            refine wl_v 0 rfl (v_move rfl) gn rfl ?_
            refine wl_v 1 rfl (v_bin rfl rfl rfl) gn rfl ?_
            refine wl_v 2 rfl (v_assign rfl) gn rfl ?_
            refine w_end 3 rfl ?_
            by_cases hp225 : bt x1 x105 = 9
            · have h := if_pos' hp225 h
              refine g_true (c := words_quote_c32) rfl _ rfl ((eqi hp225)) ?_
              refine g_region (c := words_quote_c33) rfl rfl ?_
              refine wl_v 0 rfl (v_move rfl) gn rfl ?_
              refine wl_s 1 rfl (s_litO (xs := ([92, 116] : List Int)) [.int .u8 92, .int .u8 116] bs_44_2 rfl (by kernel_rfl) rfl rfl rfl rfl fun gb227 h228 => ?_) gn
              obtain ⟨x232, hv233, h⟩ := h
              obtain ⟨hb234, h⟩ := h
              refine wl_s 2 rfl (s_app (zs := x232) (cells' := x232.flatMap (eI .u8)) 1 ap_44 rfl rfl rfl h104 (Nat.le_refl _) (Src.ownF (hl := (hlI .u8)) (h1 := (hone_int .u8)) 0 rfl h228) (by rw [hv233, List.flatMap_append] <;> rfl) (app_len hv233 h228.hq) hb234 rfl rfl fun A229 c230 h231 => ?_) gn
              refine wl_v 3 rfl (v_assign rfl) gn rfl ?_
              refine w_end 4 rfl ?_
              refine g_inBlock ?_
              refine g_inBlock ?_
              refine g_region (c := words_quote_c18) rfl rfl ?_
              refine wl_v 0 rfl (v_move rfl) gn rfl ?_
              refine wl_v 1 rfl (v_bin rfl rfl rfl) gn rfl ?_
              refine wl_v 2 rfl (v_assign rfl) gn rfl ?_
              refine w_end 3 rfl ?_
              refine g_inLoop ?_
              have ih := Out.inl hO1 h
              exact g_go [0, 1] (ih A229 (n102 + 2) c230 h231) ⟨rfl, rfl, rfl, trivial⟩ (.cons _ (.cons_cons _ (.slnil))) rfl
            · have h := if_neg' hp225 h
              refine g_false (c := words_quote_c32) rfl _ rfl ((nei hp225)) ?_
              refine g_seq (c := words_quote_c34) rfl ?_
              refine g_region (c := words_quote_c35) rfl rfl ?_
              refine wl_v 0 rfl (v_move rfl) gn rfl ?_
              refine wl_v 1 rfl (v_bin rfl rfl rfl) gn rfl ?_
              refine wl_v 2 rfl (v_assign rfl) gn rfl ?_
              refine w_end 3 rfl ?_
              by_cases hp235 : bt x1 x105 = 13
              · have h := if_pos' hp235 h
                refine g_true (c := words_quote_c36) rfl _ rfl ((eqi hp235)) ?_
                refine g_region (c := words_quote_c37) rfl rfl ?_
                refine wl_v 0 rfl (v_move rfl) gn rfl ?_
                refine wl_s 1 rfl (s_litO (xs := ([92, 114] : List Int)) [.int .u8 92, .int .u8 114] bs_44_2 rfl (by kernel_rfl) rfl rfl rfl rfl fun gb237 h238 => ?_) gn
                obtain ⟨x242, hv243, h⟩ := h
                obtain ⟨hb244, h⟩ := h
                refine wl_s 2 rfl (s_app (zs := x242) (cells' := x242.flatMap (eI .u8)) 1 ap_44 rfl rfl rfl h104 (Nat.le_refl _) (Src.ownF (hl := (hlI .u8)) (h1 := (hone_int .u8)) 0 rfl h238) (by rw [hv243, List.flatMap_append] <;> rfl) (app_len hv243 h238.hq) hb244 rfl rfl fun A239 c240 h241 => ?_) gn
                refine wl_v 3 rfl (v_assign rfl) gn rfl ?_
                refine w_end 4 rfl ?_
                refine g_inBlock ?_
                refine g_inBlock ?_
                refine g_region (c := words_quote_c18) rfl rfl ?_
                refine wl_v 0 rfl (v_move rfl) gn rfl ?_
                refine wl_v 1 rfl (v_bin rfl rfl rfl) gn rfl ?_
                refine wl_v 2 rfl (v_assign rfl) gn rfl ?_
                refine w_end 3 rfl ?_
                refine g_inLoop ?_
                have ih := Out.inl hO1 h
                exact g_go [0, 1] (ih A239 (n102 + 2) c240 h241) ⟨rfl, rfl, rfl, trivial⟩ (.cons _ (.cons_cons _ (.slnil))) rfl
              · have h := if_neg' hp235 h
                refine g_false (c := words_quote_c36) rfl _ rfl ((nei hp235)) ?_
                refine g_seq (c := words_quote_c38) rfl ?_
                have j3 : ∀ (x247 : Bool) (h : words_quote_j3 x1 x105 x100 x247 o1) , G (words_quote_C w F r) [.code words_quote_c40, .inBlock 2, .inBlock 1, .code words_quote_c18, .inLoop words_quote_c10, .inBlock 0, .code words_quote_c6] [(0, .string x1), (3, .slice A101 n102 c103), (4, .int .i64 x105), (5, .int .u8 (bt x1 x105)), (49, .bool x247)] [.own (.slice A101 n102 c103) 5 1 n102 (x100.flatMap (eI .u8))] [Sm w.heap.size F w [], St w []] := by
                  intro x247 h
                  unfold words_quote_j3 at h
                  by_cases hp248 : x247 = true
                  · have h := if_pos' hp248 h
                    refine g_true (c := words_quote_c40) rfl _ rfl (hp248) ?_
                    obtain ⟨hb249, h⟩ := h
                    obtain ⟨hb250, h⟩ := h
                    obtain ⟨x257, hv258, h⟩ := h
                    obtain ⟨hb259, h⟩ := h
                    have hns : Region.noSelect (Code.ops words_quote_c41) = true := by kernel_rfl
                    refine g_drawF (c := words_quote_c41) [.own (.slice A101 n102 c103) 5 1 n102 (x100.flatMap (eI .u8))] [Sm w.heap.size F w [], St w []] [8, 9] 10 rfl rfl mix rfl (.cons_cons _ (.slnil)) (sels [0, 1] rfl) ?_
                    refine wf_v 0 rfl (v_move rfl) gn rfl hns (by kernel_rfl) (by kernel_rfl) (by kernel_rfl) rfl ?_
                    refine wf_v 1 rfl (v_move rfl) gn rfl hns (by kernel_rfl) (by kernel_rfl) (by kernel_rfl) rfl ?_
                    refine wf_v 2 rfl (v_quo rfl rfl (by decide)) gn rfl hns (by kernel_rfl) (by kernel_rfl) (by kernel_rfl) rfl ?_
                    refine wf_v 3 rfl (v_indexS un_9 rfl rfl hb249) gn rfl hns (by kernel_rfl) (by kernel_rfl) (by kernel_rfl) rfl ?_
                    refine wf_v 4 rfl (v_move rfl) gn rfl hns (by kernel_rfl) (by kernel_rfl) (by kernel_rfl) rfl ?_
                    refine wf_v 5 rfl (v_rem rfl rfl (by decide)) gn rfl hns (by kernel_rfl) (by kernel_rfl) (by kernel_rfl) rfl ?_
                    refine wf_v 6 rfl (v_indexS un_9 rfl rfl hb250) gn rfl hns (by kernel_rfl) (by kernel_rfl) (by kernel_rfl) rfl ?_
                    refine wf_all [7] (by kernel_rfl) rfl ⟨on_s 7 rfl gn rfl (s_litO (xs := ([92, 120, bt (⟨#[48, 49, 50, 51, 52, 53, 54, 55, 56, 57, 97, 98, 99, 100, 101, 102]⟩ : ByteArray) (IntKind.u8.wrap (Int.tdiv (bt x1 x105) 16)), bt (⟨#[48, 49, 50, 51, 52, 53, 54, 55, 56, 57, 97, 98, 99, 100, 101, 102]⟩ : ByteArray) (Int.tmod (bt x1 x105) 16)] : List Int)) [.int .u8 92, .int .u8 120, .int .u8 (bt (⟨#[48, 49, 50, 51, 52, 53, 54, 55, 56, 57, 97, 98, 99, 100, 101, 102]⟩ : ByteArray) (IntKind.u8.wrap (Int.tdiv (bt x1 x105) 16))), .int .u8 (bt (⟨#[48, 49, 50, 51, 52, 53, 54, 55, 56, 57, 97, 98, 99, 100, 101, 102]⟩ : ByteArray) (Int.tmod (bt x1 x105) 16))] bs_44_4 rfl (by kernel_rfl) rfl rfl rfl rfl fun gb269 h270 => ?_), trivial⟩
                    refine ⟨sels [1] rfl, sels [0, 1] rfl, ?_⟩
                    refine wf_all [8] (by kernel_rfl) rfl ⟨on_l 8 rfl gn rfl (s_app (zs := x257) (cells' := x257.flatMap (eI .u8)) 1 ap_44 rfl rfl rfl h104 (Nat.le_refl _) (Src.ownF (hl := (hlI .u8)) (h1 := (hone_int .u8)) 0 rfl h270) (by rw [hv258, List.flatMap_append] <;> rfl) (app_len hv258 h270.hq) hb259 rfl rfl fun A271 c272 h273 => ?_), trivial⟩
                    unfold NxL
                    refine wf_all [9] (by kernel_rfl) rfl ⟨on_l 9 rfl gn rfl (s_val (v_assign rfl) rfl ?_), trivial⟩
                    unfold NxL
                    refine wf_end (by kernel_rfl) ?_
                    refine g_inBlock ?_
                    refine g_inBlock ?_
                    refine g_region (c := words_quote_c18) rfl rfl ?_
                    refine wl_v 0 rfl (v_move rfl) gn rfl ?_
                    refine wl_v 1 rfl (v_bin rfl rfl rfl) gn rfl ?_
                    refine wl_v 2 rfl (v_assign rfl) gn rfl ?_
                    refine w_end 3 rfl ?_
                    refine g_inLoop ?_
                    have ih := Out.inl hO1 h
                    exact g_go [0, 1] (ih A271 (n102 + 4) c272 h273) ⟨rfl, rfl, rfl, trivial⟩ (.cons _ (.cons_cons _ (.slnil))) rfl
                  · have h := if_neg' hp248 h
                    refine g_false (c := words_quote_c40) rfl _ rfl ((bf hp248)) ?_
                    refine g_region (c := words_quote_c42) rfl rfl ?_
                    refine wl_v 0 rfl (v_move rfl) gn rfl ?_
                    refine wl_v 1 rfl (v_move rfl) gn rfl ?_
                    refine wl_s 2 rfl (s_litO (xs := ([bt x1 x105] : List Int)) [.int .u8 (bt x1 x105)] bs_44_1 rfl (by kernel_rfl) rfl rfl rfl rfl fun gb275 h276 => ?_) gn
                    obtain ⟨x280, hv281, h⟩ := h
                    obtain ⟨hb282, h⟩ := h
                    refine wl_s 3 rfl (s_app (zs := x280) (cells' := x280.flatMap (eI .u8)) 1 ap_44 rfl rfl rfl h104 (Nat.le_refl _) (Src.ownF (hl := (hlI .u8)) (h1 := (hone_int .u8)) 0 rfl h276) (by rw [hv281, List.flatMap_append] <;> rfl) (app_len hv281 h276.hq) hb282 rfl rfl fun A277 c278 h279 => ?_) gn
                    refine wl_v 4 rfl (v_assign rfl) gn rfl ?_
                    refine w_end 5 rfl ?_
                    refine g_inBlock ?_
                    refine g_inBlock ?_
                    refine g_region (c := words_quote_c18) rfl rfl ?_
                    refine wl_v 0 rfl (v_move rfl) gn rfl ?_
                    refine wl_v 1 rfl (v_bin rfl rfl rfl) gn rfl ?_
                    refine wl_v 2 rfl (v_assign rfl) gn rfl ?_
                    refine w_end 3 rfl ?_
                    refine g_inLoop ?_
                    have ih := Out.inl hO1 h
                    exact g_go [0, 1] (ih A277 (n102 + 1) c278 h279) ⟨rfl, rfl, rfl, trivial⟩ (.cons _ (.cons_cons _ (.slnil))) rfl
                refine g_region (c := words_quote_c39) rfl rfl ?_
                refine wl_v 0 rfl (v_move rfl) gn rfl ?_
                refine wl_v 1 rfl (v_bin rfl rfl rfl) gn rfl ?_
                refine wl_v 2 rfl (v_move rfl) gn rfl ?_
                by_cases hp283 : bt x1 x105 < 32
                · have h := if_pos' hp283 h
                  refine w_bool 52 rfl ((decide_eq_true hp283)) ?_
                  refine wl_pass 3 rfl (ps 52 rfl rfl rfl) ?_
                  refine wl_pass 4 rfl (ps 52 rfl rfl rfl) ?_
                  refine wl_v 5 rfl (v_pick (b := true) rfl rfl) gn rfl ?_
                  refine wl_v 6 rfl (v_assign rfl) gn rfl ?_
                  refine w_end 7 rfl ?_
                  exact g_go [0, 1] (j3 true h) ⟨rfl, rfl, rfl, rfl, rfl, trivial⟩ (.cons_cons _ (.slnil)) rfl
                · have h := if_neg' hp283 h
                  refine w_bool 52 rfl ((decide_eq_false hp283)) ?_
                  refine wl_v 3 rfl (v_move rfl) (gy 52 rfl rfl) rfl ?_
                  refine wl_v 4 rfl (v_bin rfl rfl rfl) (gy 52 rfl rfl) rfl ?_
                  refine wl_v 5 rfl (v_pick (b := false) rfl rfl) gn rfl ?_
                  refine wl_v 6 rfl (v_assign rfl) gn rfl ?_
                  refine w_end 7 rfl ?_
                  exact g_go [0, 1] (j3 (decide (bt x1 x105 > 126)) h) ⟨rfl, rfl, rfl, rfl, rfl, trivial⟩ (.cons_cons _ (.slnil)) rfl
      refine g_region (c := words_quote_c23) rfl rfl ?_
      refine wl_v 0 rfl (v_move rfl) gn rfl ?_
      refine wl_v 1 rfl (v_bin rfl rfl rfl) gn rfl ?_
      refine wl_v 2 rfl (v_move rfl) gn rfl ?_
      by_cases hp284 : bt x1 x105 = 34
      · have h := if_pos' hp284 h
        refine w_bool 23 rfl ((eqi hp284)) ?_
        refine wl_pass 3 rfl (ps 23 rfl rfl rfl) ?_
        refine wl_pass 4 rfl (ps 23 rfl rfl rfl) ?_
        refine wl_v 5 rfl (v_pick (b := true) rfl rfl) gn rfl ?_
        refine wl_v 6 rfl (v_assign rfl) gn rfl ?_
        refine w_end 7 rfl ?_
        exact g_go [0, 1] (j2 true h) ⟨rfl, rfl, rfl, rfl, rfl, trivial⟩ (.cons_cons _ (.slnil)) rfl
      · have h := if_neg' hp284 h
        refine w_bool 23 rfl ((nei hp284)) ?_
        refine wl_v 3 rfl (v_move rfl) (gy 23 rfl rfl) rfl ?_
        refine wl_v 4 rfl (v_bin rfl rfl rfl) (gy 23 rfl rfl) rfl ?_
        refine wl_v 5 rfl (v_pick (b := false) rfl rfl) gn rfl ?_
        refine wl_v 6 rfl (v_assign rfl) gn rfl ?_
        refine w_end 7 rfl ?_
        exact g_go [0, 1] (j2 ((bt x1 x105) == 92) h) ⟨rfl, rfl, rfl, rfl, rfl, trivial⟩ (.cons_cons _ (.slnil)) rfl
    · have h := if_neg' hp200 h
      refine g_false (c := words_quote_c14) rfl _ rfl ((decide_eq_false hp200)) ?_
      refine g_exit (c := words_quote_c16) [.code words_quote_c6] rfl rfl ?_
      refine g_seq (c := words_quote_c6) rfl ?_
      refine g_region (c := words_quote_c43) rfl rfl ?_
      refine wl_v 0 rfl (v_move rfl) gn rfl ?_
      refine wl_s 1 rfl (s_litO (xs := ([34] : List Int)) [.int .u8 34] bs_44_1 rfl (by kernel_rfl) rfl rfl rfl rfl fun gb286 h287 => ?_) gn
      obtain ⟨x291, hv292, h⟩ := h
      obtain ⟨hb293, h⟩ := h
      refine wl_s 2 rfl (s_app (zs := x291) (cells' := x291.flatMap (eI .u8)) 1 ap_44 rfl rfl rfl h104 (Nat.le_refl _) (Src.ownF (hl := (hlI .u8)) (h1 := (hone_int .u8)) 0 rfl h287) (by rw [hv292, List.flatMap_append] <;> rfl) (app_len hv292 h287.hq) hb293 rfl rfl fun A288 c289 h290 => ?_) gn
      refine wl_v 3 rfl (v_b2s u8_44 un_9 rfl (Src.ownF (hl := (hlI .u8)) (h1 := (hone_int .u8)) 1 rfl h290) h290.hq) gn rfl ?_
      refine wl_v 4 rfl (v_assign rfl) gn rfl ?_
      refine w_end 5 rfl ?_
      have h := Out.inr hO1 h
      refine g_retR (c := words_quote_c44) [.string (ofBs x291)] rfl Tryd.func20 rfl (.tmp rfl (.nil)) fun wr hLr => ?_
      have hMr : B.Loc w wr [] [St w []] := hLr.pick (rest := [.own (.slice (some ⟨gb286, 0, none⟩) 1 1) 5 1 1 (([34] : List Int).flatMap (eI .u8)), .own (.slice A288 (n102 + 1) c289) 5 1 (n102 + 1) (x291.flatMap (eI .u8))]) (perm_of_idx [] [0, 1] rfl rfl (by kernel_rfl)) (sels [1] rfl)
      have hMi : ∀ e ∈ ([] : List Ent), e ∈ ([.own (.slice (some ⟨gb286, 0, none⟩) 1 1) 5 1 1 (([34] : List Int).flatMap (eI .u8)), .own (.slice A288 (n102 + 1) c289) 5 1 (n102 + 1) (x291.flatMap (eI .u8))] : List Ent) := sels [] rfl
      show words_quote_R w F  r (.returned (packV [.string (ofBs x291)])) wr
      rw [h]
      exact ⟨rfl, hMr⟩
  exact g_go [0, 1] (key1 _ h (some ⟨gb3, 0, none⟩) 1 1 h4) ⟨rfl, rfl, rfl, trivial⟩ (.cons_cons _ (.slnil)) rfl
noncomputable abbrev strconv_Itoa_c0 : Code := bodyOf Tryd.f21
abbrev strconv_Itoa_R (w : World) (F : Nat → Prop) (r : ByteArray) : Ending → World → Prop := fun e w' => e = .returned (.string r) ∧ B.Loc w w' [] [St w []]
noncomputable abbrev strconv_Itoa_C (w : World) (F : Nat → Prop) (r : ByteArray) : Cx := ⟨Tryd.prog, 21, Tryd.f21, 5, strconv_Itoa_R w F  r, w⟩
theorem strconv_Itoa_calls (w : World) (F : Nat → Prop) (x1 : Int) (hG : Tb Tryd.prog (St w [])) (hF : ∀ b, F b → b < w.heap.size ∧ ∀ o ∈ ([] : List (List Nat)), b ∉ o) (hL0 : B.Loc w w [] [Sm w.heap.size F w [], St w []]) (r : ByteArray) (h : strconv_Itoa x1 r) : Calls Tryd.prog 21 #[.int .i64 x1] w (strconv_Itoa_R w F  r) := by
  unfold strconv_Itoa at h
  obtain ⟨h1, rfl⟩ := h
  refine Calls.mono (Tryd.strconv_Itoa x1 h1.1 h1.2 w hG.2) ?_
  rintro e w' ⟨rfl, k, os, rfl⟩
  exact ⟨rfl, Loc.of_below (Lib.below_grow _ _ (Nat.le_refl _) _ _)⟩
noncomputable abbrev words_Spell_c0 : Code := bodyOf Tryd.f9
noncomputable abbrev words_Spell_c1 : Code := Code.fst words_Spell_c0
noncomputable abbrev words_Spell_c2 : Code := Code.snd words_Spell_c0
noncomputable abbrev words_Spell_c3 : Code := Code.fst words_Spell_c2
noncomputable abbrev words_Spell_c4 : Code := Code.snd words_Spell_c2
noncomputable abbrev words_Spell_c5 : Code := Code.fst words_Spell_c3
noncomputable abbrev words_Spell_c6 : Code := Code.snd words_Spell_c3
noncomputable abbrev words_Spell_c7 : Code := Code.fst words_Spell_c6
noncomputable abbrev words_Spell_c8 : Code := Code.snd words_Spell_c6
noncomputable abbrev words_Spell_c9 : Code := Code.fst words_Spell_c4
noncomputable abbrev words_Spell_c10 : Code := Code.snd words_Spell_c4
noncomputable abbrev words_Spell_c11 : Code := Code.fst words_Spell_c9
noncomputable abbrev words_Spell_c12 : Code := Code.snd words_Spell_c9
noncomputable abbrev words_Spell_c13 : Code := Code.fst words_Spell_c12
noncomputable abbrev words_Spell_c14 : Code := Code.fst words_Spell_c13
noncomputable abbrev words_Spell_c15 : Code := Code.snd words_Spell_c13
noncomputable abbrev words_Spell_c16 : Code := Code.fst words_Spell_c15
noncomputable abbrev words_Spell_c17 : Code := Code.snd words_Spell_c15
noncomputable abbrev words_Spell_c18 : Code := Code.fst words_Spell_c16
noncomputable abbrev words_Spell_c19 : Code := Code.snd words_Spell_c16
noncomputable abbrev words_Spell_c20 : Code := Code.fst words_Spell_c17
noncomputable abbrev words_Spell_c21 : Code := Code.snd words_Spell_c17
noncomputable abbrev words_Spell_c22 : Code := Code.fst words_Spell_c21
noncomputable abbrev words_Spell_c23 : Code := Code.snd words_Spell_c21
noncomputable abbrev words_Spell_c24 : Code := Code.fst words_Spell_c22
noncomputable abbrev words_Spell_c25 : Code := Code.snd words_Spell_c22
noncomputable abbrev words_Spell_c26 : Code := Code.fst words_Spell_c23
noncomputable abbrev words_Spell_c27 : Code := Code.snd words_Spell_c23
noncomputable abbrev words_Spell_c28 : Code := Code.fst words_Spell_c27
noncomputable abbrev words_Spell_c29 : Code := Code.snd words_Spell_c27
noncomputable abbrev words_Spell_c30 : Code := Code.fst words_Spell_c28
noncomputable abbrev words_Spell_c31 : Code := Code.snd words_Spell_c28
noncomputable abbrev words_Spell_c32 : Code := Code.fst words_Spell_c10
noncomputable abbrev words_Spell_c33 : Code := Code.snd words_Spell_c10
noncomputable abbrev words_Spell_c34 : Code := Code.fst words_Spell_c7
noncomputable abbrev words_Spell_c35 : Code := Code.snd words_Spell_c7
abbrev words_Spell_R (w : World) (F : Nat → Prop) (r : ByteArray) : Ending → World → Prop := fun e w' => e = .returned (.string r) ∧ B.Loc w w' [] [St w []]
noncomputable abbrev words_Spell_C (w : World) (F : Nat → Prop) (r : ByteArray) : Cx := ⟨Tryd.prog, 9, Tryd.f9, 26, words_Spell_R w F  r, w⟩
theorem words_Spell_calls (w : World) (F : Nat → Prop) (x1 : api_Word) (hG : Tb Tryd.prog (St w [])) (hF : ∀ b, F b → b < w.heap.size ∧ ∀ o ∈ ([] : List (List Nat)), b ∉ o) (hL0 : B.Loc w w [] [Sm w.heap.size F w [], St w []]) (r : ByteArray) (h : words_Spell x1 r) : Calls Tryd.prog 9 #[.agg #[.int .i64 x1.kind, .string x1.text, .int .i64 x1.n, .int .i64 x1.at_]] w (words_Spell_R w F  r) := by
  unfold words_Spell at h
  refine calls_of_Loc (vs := [.agg #[.int .i64 x1.kind, .string x1.text, .int .i64 x1.n, .int .i64 x1.at_]]) 26 Tryd.func9 rfl Tryd.ntmps9 rfl hL0 ?_
  show G (words_Spell_C w F r) _ _ _ _
  refine g_seq (c := words_Spell_c0) rfl ?_
  refine g_region (c := words_Spell_c1) rfl rfl ?_
  refine wl_s 0 rfl (s_box [.int .i64 x1.kind, .string x1.text, .int .i64 x1.n, .int .i64 x1.at_] rfl rfl rfl fun gb2 => ?_) gn
  refine wl_v 1 rfl (v_assign rfl) gn rfl ?_
  refine w_end 2 rfl ?_
  refine g_seq (c := words_Spell_c2) rfl ?_
  refine g_seq (c := words_Spell_c3) rfl ?_
  refine g_region (c := words_Spell_c5) rfl rfl ?_
  refine wl_v 0 rfl (v_ldB [.int .i64 x1.kind, .string x1.text, .int .i64 x1.n, .int .i64 x1.at_] 0 ld_27 rfl rfl rfl rfl) gn rfl ?_
  obtain ⟨r7, hv8, h⟩ := h
  refine wl_s 1 rfl (s_call [.agg #[.int .i64 x1.kind, .string x1.text, .int .i64 x1.n, .int .i64 x1.at_]] rfl Tryd.func19 rfl rfl rfl fun w4 hL5 => ?_) gn
  have hp6 : List.Perm ([.box gb2 27 [.int .i64 x1.kind, .string x1.text, .int .i64 x1.n, .int .i64 x1.at_]] : List Ent) (([] : List Ent) ++ ([.box gb2 27 [.int .i64 x1.kind, .string x1.text, .int .i64 x1.n, .int .i64 x1.at_]] : List Ent)) := perm_of_idx [] [0] rfl rfl (by kernel_rfl)
  refine Calls.mono (words_sound_calls w4 (Fl ([] : List Snap)) x1 (hL5.hFl (Sl := ([] : List Snap)) hp6 (sels [] rfl)) (hL5.into hp6 (Fl ([] : List Snap))) r7 hv8) ?_
  rintro _ w9 ⟨rfl, hM10⟩
  have hL11 := hL5.call hp6 hM10
  refine ⟨_, _, _, rfl, hL11, ?_⟩
  refine wl_v 2 rfl (v_not rfl) gn rfl ?_
  refine w_end 3 rfl ?_
  by_cases hp12 : r7 = true
  · have h := if_pos' hp12 h
    refine g_false (c := words_Spell_c6) rfl _ rfl ((nf hp12)) ?_
    refine g_skip (c := words_Spell_c8) rfl ?_
    refine g_seq (c := words_Spell_c4) rfl ?_
    refine g_seq (c := words_Spell_c9) rfl ?_
    refine g_region (c := words_Spell_c11) rfl rfl ?_
    refine wl_v 0 rfl (v_fldB fo_27_0 rfl) gn rfl ?_
    refine wl_v 1 rfl (v_ldB1 0 ld_25 rfl rfl rfl) gn rfl ?_
    refine w_end 2 rfl ?_
    refine g_block (c := words_Spell_c12) rfl ?_
    refine g_seq (c := words_Spell_c13) rfl ?_
    refine g_region (c := words_Spell_c14) rfl rfl ?_
    refine wl_v 0 rfl (v_bin rfl rfl rfl) gn rfl ?_
    refine wl_v 1 rfl (v_assign rfl) gn rfl ?_
    refine w_end 2 rfl ?_
    by_cases hp13 : x1.kind = 2
    · have h := if_pos' hp13 h
      refine g_true (c := words_Spell_c15) rfl _ rfl ((eqi hp13)) ?_
      refine g_seq (c := words_Spell_c16) rfl ?_
      refine g_region (c := words_Spell_c18) rfl rfl ?_
      refine wl_v 0 rfl (v_fldB fo_27_1 rfl) gn rfl ?_
      refine wl_v 1 rfl (v_ldB1 0 ld_9 rfl rfl rfl) gn rfl ?_
      obtain ⟨r17, hv18, h⟩ := h
      refine wl_s 2 rfl (s_call [.string x1.text] rfl Tryd.func20 rfl rfl rfl fun w14 hL15 => ?_) gn
      have hp16 : List.Perm ([.box gb2 27 [.int .i64 x1.kind, .string x1.text, .int .i64 x1.n, .int .i64 x1.at_]] : List Ent) (([] : List Ent) ++ ([.box gb2 27 [.int .i64 x1.kind, .string x1.text, .int .i64 x1.n, .int .i64 x1.at_]] : List Ent)) := perm_of_idx [] [0] rfl rfl (by kernel_rfl)
      refine Calls.mono (words_quote_calls w14 (Fl ([] : List Snap)) x1.text (hL15.hFl (Sl := ([] : List Snap)) hp16 (sels [] rfl)) (hL15.into hp16 (Fl ([] : List Snap))) r17 hv18) ?_
      rintro _ w19 ⟨rfl, hM20⟩
      have hL21 := hL15.call hp16 hM20
      refine ⟨_, _, _, rfl, hL21, ?_⟩
      refine wl_v 3 rfl (v_assign rfl) gn rfl ?_
      refine w_end 4 rfl ?_
      refine g_retR (c := words_Spell_c19) [.string r17] rfl Tryd.func9 rfl (.tmp rfl (.nil)) fun wr hLr => ?_
      have hMr : B.Loc w wr [] [St w []] := hLr.pick (rest := [.box gb2 27 [.int .i64 x1.kind, .string x1.text, .int .i64 x1.n, .int .i64 x1.at_]]) (perm_of_idx [] [0] rfl rfl (by kernel_rfl)) (sels [1] rfl)
      have hMi : ∀ e ∈ ([] : List Ent), e ∈ ([.box gb2 27 [.int .i64 x1.kind, .string x1.text, .int .i64 x1.n, .int .i64 x1.at_]] : List Ent) := sels [] rfl
      show words_Spell_R w F  r (.returned (packV [.string r17])) wr
      rw [h]
      exact ⟨rfl, hMr⟩
    · have h := if_neg' hp13 h
      refine g_false (c := words_Spell_c15) rfl _ rfl ((nei hp13)) ?_
      refine g_seq (c := words_Spell_c17) rfl ?_
      refine g_region (c := words_Spell_c20) rfl rfl ?_
      refine wl_v 0 rfl (v_bin rfl rfl rfl) gn rfl ?_
      refine wl_v 1 rfl (v_assign rfl) gn rfl ?_
      refine w_end 2 rfl ?_
      by_cases hp22 : x1.kind = 3
      · have h := if_pos' hp22 h
        refine g_true (c := words_Spell_c21) rfl _ rfl ((eqi hp22)) ?_
        refine g_seq (c := words_Spell_c22) rfl ?_
        refine g_region (c := words_Spell_c24) rfl rfl ?_
        refine wl_v 0 rfl (v_fldB fo_27_1 rfl) gn rfl ?_
        refine wl_v 1 rfl (v_ldB1 0 ld_9 rfl rfl rfl) gn rfl ?_
        obtain ⟨hb23, h⟩ := h
        refine wl_v 2 rfl (v_catS rfl rfl hb23) gn rfl ?_
        obtain ⟨hb24, h⟩ := h
        refine wl_v 3 rfl (v_catS rfl rfl hb24) gn rfl ?_
        refine wl_v 4 rfl (v_assign rfl) gn rfl ?_
        refine w_end 5 rfl ?_
        refine g_retR (c := words_Spell_c25) [.string (((⟨#[47]⟩ : ByteArray) ++ x1.text) ++ (⟨#[47]⟩ : ByteArray))] rfl Tryd.func9 rfl (.tmp rfl (.nil)) fun wr hLr => ?_
        have hMr : B.Loc w wr [] [St w []] := hLr.pick (rest := [.box gb2 27 [.int .i64 x1.kind, .string x1.text, .int .i64 x1.n, .int .i64 x1.at_]]) (perm_of_idx [] [0] rfl rfl (by kernel_rfl)) (sels [1] rfl)
        have hMi : ∀ e ∈ ([] : List Ent), e ∈ ([.box gb2 27 [.int .i64 x1.kind, .string x1.text, .int .i64 x1.n, .int .i64 x1.at_]] : List Ent) := sels [] rfl
        show words_Spell_R w F  r (.returned (packV [.string (((⟨#[47]⟩ : ByteArray) ++ x1.text) ++ (⟨#[47]⟩ : ByteArray))])) wr
        rw [h]
        exact ⟨rfl, hMr⟩
      · have h := if_neg' hp22 h
        refine g_false (c := words_Spell_c21) rfl _ rfl ((nei hp22)) ?_
        refine g_seq (c := words_Spell_c23) rfl ?_
        refine g_region (c := words_Spell_c26) rfl rfl ?_
        refine wl_v 0 rfl (v_bin rfl rfl rfl) gn rfl ?_
        refine wl_v 1 rfl (v_assign rfl) gn rfl ?_
        refine w_end 2 rfl ?_
        by_cases hp25 : x1.kind = 4
        · have h := if_pos' hp25 h
          refine g_true (c := words_Spell_c27) rfl _ rfl ((eqi hp25)) ?_
          refine g_seq (c := words_Spell_c28) rfl ?_
          refine g_region (c := words_Spell_c30) rfl rfl ?_
          refine wl_v 0 rfl (v_fldB fo_27_2 rfl) gn rfl ?_
          refine wl_v 1 rfl (v_ldB1 0 ld_3 rfl rfl rfl) gn rfl ?_
          obtain ⟨r29, hv30, h⟩ := h
          refine wl_s 2 rfl (s_call [.int .i64 x1.n] rfl Tryd.func21 rfl rfl rfl fun w26 hL27 => ?_) gn
          have hp28 : List.Perm ([.box gb2 27 [.int .i64 x1.kind, .string x1.text, .int .i64 x1.n, .int .i64 x1.at_]] : List Ent) (([] : List Ent) ++ ([.box gb2 27 [.int .i64 x1.kind, .string x1.text, .int .i64 x1.n, .int .i64 x1.at_]] : List Ent)) := perm_of_idx [] [0] rfl rfl (by kernel_rfl)
          refine Calls.mono (strconv_Itoa_calls w26 (Fl ([] : List Snap)) x1.n (hL27.tb hp28 hG (me 1 rfl)) (hL27.hFl (Sl := ([] : List Snap)) hp28 (sels [] rfl)) (hL27.into hp28 (Fl ([] : List Snap))) r29 hv30) ?_
          rintro _ w31 ⟨rfl, hM32⟩
          have hL33 := hL27.call hp28 hM32
          refine ⟨_, _, _, rfl, hL33, ?_⟩
          refine wl_v 3 rfl (v_assign rfl) gn rfl ?_
          refine w_end 4 rfl ?_
          refine g_retR (c := words_Spell_c31) [.string r29] rfl Tryd.func9 rfl (.tmp rfl (.nil)) fun wr hLr => ?_
          have hMr : B.Loc w wr [] [St w []] := hLr.pick (rest := [.box gb2 27 [.int .i64 x1.kind, .string x1.text, .int .i64 x1.n, .int .i64 x1.at_]]) (perm_of_idx [] [0] rfl rfl (by kernel_rfl)) (sels [1] rfl)
          have hMi : ∀ e ∈ ([] : List Ent), e ∈ ([.box gb2 27 [.int .i64 x1.kind, .string x1.text, .int .i64 x1.n, .int .i64 x1.at_]] : List Ent) := sels [] rfl
          show words_Spell_R w F  r (.returned (packV [.string r29])) wr
          rw [h]
          exact ⟨rfl, hMr⟩
        · have h := if_neg' hp25 h
          refine g_false (c := words_Spell_c27) rfl _ rfl ((nei hp25)) ?_
          refine g_skip (c := words_Spell_c29) rfl ?_
          refine g_inBlock ?_
          refine g_seq (c := words_Spell_c10) rfl ?_
          refine g_region (c := words_Spell_c32) rfl rfl ?_
          refine wl_v 0 rfl (v_fldB fo_27_1 rfl) gn rfl ?_
          refine wl_v 1 rfl (v_ldB1 0 ld_9 rfl rfl rfl) gn rfl ?_
          refine wl_v 2 rfl (v_assign rfl) gn rfl ?_
          refine w_end 3 rfl ?_
          refine g_retR (c := words_Spell_c33) [.string x1.text] rfl Tryd.func9 rfl (.tmp rfl (.nil)) fun wr hLr => ?_
          have hMr : B.Loc w wr [] [St w []] := hLr.pick (rest := [.box gb2 27 [.int .i64 x1.kind, .string x1.text, .int .i64 x1.n, .int .i64 x1.at_]]) (perm_of_idx [] [0] rfl rfl (by kernel_rfl)) (sels [1] rfl)
          have hMi : ∀ e ∈ ([] : List Ent), e ∈ ([.box gb2 27 [.int .i64 x1.kind, .string x1.text, .int .i64 x1.n, .int .i64 x1.at_]] : List Ent) := sels [] rfl
          show words_Spell_R w F  r (.returned (packV [.string x1.text])) wr
          rw [h]
          exact ⟨rfl, hMr⟩
  · have h := if_neg' hp12 h
    refine g_true (c := words_Spell_c6) rfl _ rfl ((nt (bf hp12))) ?_
    refine g_seq (c := words_Spell_c7) rfl ?_
    refine g_region (c := words_Spell_c34) rfl rfl ?_
    refine wl_v 0 rfl (v_assign rfl) gn rfl ?_
    refine w_end 1 rfl ?_
    refine g_retR (c := words_Spell_c35) [.string (⟨#[]⟩ : ByteArray)] rfl Tryd.func9 rfl (.tmp rfl (.nil)) fun wr hLr => ?_
    have hMr : B.Loc w wr [] [St w []] := hLr.pick (rest := [.box gb2 27 [.int .i64 x1.kind, .string x1.text, .int .i64 x1.n, .int .i64 x1.at_]]) (perm_of_idx [] [0] rfl rfl (by kernel_rfl)) (sels [1] rfl)
    have hMi : ∀ e ∈ ([] : List Ent), e ∈ ([.box gb2 27 [.int .i64 x1.kind, .string x1.text, .int .i64 x1.n, .int .i64 x1.at_]] : List Ent) := sels [] rfl
    show words_Spell_R w F  r (.returned (packV [.string (⟨#[]⟩ : ByteArray)])) wr
    rw [h]
    exact ⟨rfl, hMr⟩
noncomputable abbrev trellisref8_in_c0 : Code := bodyOf Tryd.f34
noncomputable abbrev trellisref8_in_c1 : Code := Code.fst trellisref8_in_c0
noncomputable abbrev trellisref8_in_c2 : Code := Code.snd trellisref8_in_c0
noncomputable abbrev trellisref8_in_c3 : Code := Code.fst trellisref8_in_c2
noncomputable abbrev trellisref8_in_c4 : Code := Code.snd trellisref8_in_c2
noncomputable abbrev trellisref8_in_c5 : Code := Code.fst trellisref8_in_c3
noncomputable abbrev trellisref8_in_c6 : Code := Code.snd trellisref8_in_c3
noncomputable abbrev trellisref8_in_c7 : Code := Code.fst trellisref8_in_c6
noncomputable abbrev trellisref8_in_c8 : Code := Code.fst trellisref8_in_c7
noncomputable abbrev trellisref8_in_c9 : Code := Code.fst trellisref8_in_c8
noncomputable abbrev trellisref8_in_c10 : Code := Code.snd trellisref8_in_c8
noncomputable abbrev trellisref8_in_c11 : Code := Code.fst trellisref8_in_c9
noncomputable abbrev trellisref8_in_c12 : Code := Code.snd trellisref8_in_c9
noncomputable abbrev trellisref8_in_c13 : Code := Code.fst trellisref8_in_c12
noncomputable abbrev trellisref8_in_c14 : Code := Code.snd trellisref8_in_c12
noncomputable abbrev trellisref8_in_c15 : Code := Code.fst trellisref8_in_c10
noncomputable abbrev trellisref8_in_c16 : Code := Code.snd trellisref8_in_c10
noncomputable abbrev trellisref8_in_c17 : Code := Code.fst trellisref8_in_c15
noncomputable abbrev trellisref8_in_c18 : Code := Code.fst trellisref8_in_c17
noncomputable abbrev trellisref8_in_c19 : Code := Code.snd trellisref8_in_c17
noncomputable abbrev trellisref8_in_c20 : Code := Code.fst trellisref8_in_c19
noncomputable abbrev trellisref8_in_c21 : Code := Code.snd trellisref8_in_c19
noncomputable abbrev trellisref8_in_c22 : Code := Code.fst trellisref8_in_c20
noncomputable abbrev trellisref8_in_c23 : Code := Code.snd trellisref8_in_c20
noncomputable abbrev trellisref8_in_c24 : Code := Code.fst trellisref8_in_c4
noncomputable abbrev trellisref8_in_c25 : Code := Code.snd trellisref8_in_c4
abbrev trellisref8_in_R (w : World) (F : Nat → Prop) (r : Bool) : Ending → World → Prop := fun e w' => e = .returned (.bool r) ∧ B.Loc w w' [] [St w []]
noncomputable abbrev trellisref8_in_C (w : World) (F : Nat → Prop) (r : Bool) : Cx := ⟨Tryd.prog, 34, Tryd.f34, 17, trellisref8_in_R w F  r, w⟩
theorem trellisref8_in_calls (w : World) (F : Nat → Prop) (x1 : ByteArray) (x2 : Int) (hF : ∀ b, F b → b < w.heap.size ∧ ∀ o ∈ ([] : List (List Nat)), b ∉ o) (hL0 : B.Loc w w [] [Sm w.heap.size F w [], St w []]) (r : Bool) (h : trellisref8_in x1 x2 r) : Calls Tryd.prog 34 #[.string x1, .int .u8 x2] w (trellisref8_in_R w F  r) := by
  unfold trellisref8_in at h
  refine calls_of_Loc (vs := [.string x1, .int .u8 x2]) 17 Tryd.func34 rfl Tryd.ntmps34 rfl hL0 ?_
  show G (trellisref8_in_C w F r) _ _ _ _
  refine g_seq (c := trellisref8_in_c0) rfl ?_
  refine g_region (c := trellisref8_in_c1) rfl rfl ?_
  refine wl_v 0 rfl (v_assign rfl) gn rfl ?_
  refine w_end 1 rfl ?_
  refine g_seq (c := trellisref8_in_c2) rfl ?_
  refine g_seq (c := trellisref8_in_c3) rfl ?_
  refine g_region (c := trellisref8_in_c5) rfl rfl ?_
  refine wl_v 0 rfl (v_assign rfl) gn rfl ?_
  refine w_end 1 rfl ?_
  refine g_block (c := trellisref8_in_c6) rfl ?_
  refine g_loop (c := trellisref8_in_c7) rfl ?_
  have key1 : ∀ s, Rounds (fun (s : Int) o => trellisref8_in_b1 x1 x2 s o) s r → (fun (s : Int) => ∀ (_ : Unit), G (trellisref8_in_C w F r) [.code trellisref8_in_c8, .inLoop trellisref8_in_c8, .inBlock 0, .code trellisref8_in_c4] [(0, .string x1), (1, .int .u8 x2), (5, .int .i64 s)] [] [Sm w.heap.size F w [], St w []]) s := by
    intro s hs
    refine Rounds.ind (mot := (fun (s : Int) => ∀ (_ : Unit), G (trellisref8_in_C w F r) [.code trellisref8_in_c8, .inLoop trellisref8_in_c8, .inBlock 0, .code trellisref8_in_c4] [(0, .string x1), (1, .int .u8 x2), (5, .int .i64 s)] [] [Sm w.heap.size F w [], St w []])) ?_ hs
    clear hs s
    intro x7 o1 h hO1
    show ∀ (_ : Unit), G (trellisref8_in_C w F r) [.code trellisref8_in_c8, .inLoop trellisref8_in_c8, .inBlock 0, .code trellisref8_in_c4] [(0, .string x1), (1, .int .u8 x2), (5, .int .i64 x7)] [] [Sm w.heap.size F w [], St w []]
    intro _
    have h : trellisref8_in_b1 x1 x2 x7 o1 := h
    unfold trellisref8_in_b1 at h
    refine g_seq (c := trellisref8_in_c8) rfl ?_
    refine g_seq (c := trellisref8_in_c9) rfl ?_
    refine g_region (c := trellisref8_in_c11) rfl rfl ?_
    refine wl_v 0 rfl (v_move rfl) gn rfl ?_
    refine wl_v 1 rfl (v_move rfl) gn rfl ?_
    refine wl_v 2 rfl (v_lenS un_9 rfl) gn rfl ?_
    refine wl_v 3 rfl (v_bin rfl rfl rfl) gn rfl ?_
    refine w_end 4 rfl ?_
    by_cases hp11 : x7 < (x1.size : Int)
    · have h := if_pos' hp11 h
      refine g_true (c := trellisref8_in_c12) rfl _ rfl ((decide_eq_true hp11)) ?_
      refine g_skip (c := trellisref8_in_c13) rfl ?_
      refine g_seq (c := trellisref8_in_c10) rfl ?_
      refine g_block (c := trellisref8_in_c15) rfl ?_
      refine g_seq (c := trellisref8_in_c17) rfl ?_
      refine g_region (c := trellisref8_in_c18) rfl rfl ?_
      refine wl_v 0 rfl (v_move rfl) gn rfl ?_
      refine wl_v 1 rfl (v_move rfl) gn rfl ?_
      obtain ⟨hb12, h⟩ := h
      refine wl_v 2 rfl (v_indexS un_9 rfl rfl hb12) gn rfl ?_
      refine wl_v 3 rfl (v_move rfl) gn rfl ?_
      refine wl_v 4 rfl (v_bin rfl rfl rfl) gn rfl ?_
      refine w_end 5 rfl ?_
      by_cases hp13 : bt x1 x7 = x2
      · have h := if_pos' hp13 h
        refine g_true (c := trellisref8_in_c19) rfl _ rfl ((eqi hp13)) ?_
        refine g_seq (c := trellisref8_in_c20) rfl ?_
        refine g_region (c := trellisref8_in_c22) rfl rfl ?_
        refine wl_v 0 rfl (v_assign rfl) gn rfl ?_
        refine w_end 1 rfl ?_
        have h := Out.inr hO1 h
        refine g_retR (c := trellisref8_in_c23) [.bool true] rfl Tryd.func34 rfl (.tmp rfl (.nil)) fun wr hLr => ?_
        have hMr : B.Loc w wr [] [St w []] := hLr.pick (rest := []) (perm_of_idx [] [] rfl rfl (by kernel_rfl)) (sels [1] rfl)
        have hMi : ∀ e ∈ ([] : List Ent), e ∈ ([] : List Ent) := sels [] rfl
        show trellisref8_in_R w F  r (.returned (packV [.bool true])) wr
        rw [h]
        exact ⟨rfl, hMr⟩
      · have h := if_neg' hp13 h
        refine g_false (c := trellisref8_in_c19) rfl _ rfl ((nei hp13)) ?_
        refine g_skip (c := trellisref8_in_c21) rfl ?_
        refine g_inBlock ?_
        refine g_region (c := trellisref8_in_c16) rfl rfl ?_
        refine wl_v 0 rfl (v_move rfl) gn rfl ?_
        refine wl_v 1 rfl (v_bin rfl rfl rfl) gn rfl ?_
        refine wl_v 2 rfl (v_assign rfl) gn rfl ?_
        refine w_end 3 rfl ?_
        refine g_inLoop ?_
        have ih := Out.inl hO1 h
        exact g_go [0, 1] (ih ()) ⟨rfl, rfl, rfl, trivial⟩ (.slnil) rfl
    · have h := if_neg' hp11 h
      refine g_false (c := trellisref8_in_c12) rfl _ rfl ((decide_eq_false hp11)) ?_
      refine g_exit (c := trellisref8_in_c14) [.code trellisref8_in_c4] rfl rfl ?_
      refine g_seq (c := trellisref8_in_c4) rfl ?_
      refine g_region (c := trellisref8_in_c24) rfl rfl ?_
      refine wl_v 0 rfl (v_assign rfl) gn rfl ?_
      refine w_end 1 rfl ?_
      have h := Out.inr hO1 h
      refine g_retR (c := trellisref8_in_c25) [.bool false] rfl Tryd.func34 rfl (.tmp rfl (.nil)) fun wr hLr => ?_
      have hMr : B.Loc w wr [] [St w []] := hLr.pick (rest := []) (perm_of_idx [] [] rfl rfl (by kernel_rfl)) (sels [1] rfl)
      have hMi : ∀ e ∈ ([] : List Ent), e ∈ ([] : List Ent) := sels [] rfl
      show trellisref8_in_R w F  r (.returned (packV [.bool false])) wr
      rw [h]
      exact ⟨rfl, hMr⟩
  exact g_go [0, 1] (key1 _ h ()) ⟨rfl, rfl, rfl, trivial⟩ (.slnil) rfl
noncomputable abbrev trellisref8_run_c0 : Code := bodyOf Tryd.f35
noncomputable abbrev trellisref8_run_c1 : Code := Code.fst trellisref8_run_c0
noncomputable abbrev trellisref8_run_c2 : Code := Code.snd trellisref8_run_c0
noncomputable abbrev trellisref8_run_c3 : Code := Code.fst trellisref8_run_c2
noncomputable abbrev trellisref8_run_c4 : Code := Code.snd trellisref8_run_c2
noncomputable abbrev trellisref8_run_c5 : Code := Code.fst trellisref8_run_c4
noncomputable abbrev trellisref8_run_c6 : Code := Code.snd trellisref8_run_c4
noncomputable abbrev trellisref8_run_c7 : Code := Code.fst trellisref8_run_c5
noncomputable abbrev trellisref8_run_c8 : Code := Code.fst trellisref8_run_c7
noncomputable abbrev trellisref8_run_c9 : Code := Code.fst trellisref8_run_c8
noncomputable abbrev trellisref8_run_c10 : Code := Code.snd trellisref8_run_c8
noncomputable abbrev trellisref8_run_c11 : Code := Code.fst trellisref8_run_c9
noncomputable abbrev trellisref8_run_c12 : Code := Code.snd trellisref8_run_c9
noncomputable abbrev trellisref8_run_c13 : Code := Code.fst trellisref8_run_c12
noncomputable abbrev trellisref8_run_c14 : Code := Code.snd trellisref8_run_c12
noncomputable abbrev trellisref8_run_c15 : Code := Code.fst trellisref8_run_c10
noncomputable abbrev trellisref8_run_c16 : Code := Code.fst trellisref8_run_c6
noncomputable abbrev trellisref8_run_c17 : Code := Code.snd trellisref8_run_c6
abbrev trellisref8_run_R (w : World) (F : Nat → Prop) (r : Int) : Ending → World → Prop := fun e w' => e = .returned (.int .i64 r) ∧ B.Loc w w' [] [St w []]
noncomputable abbrev trellisref8_run_C (w : World) (F : Nat → Prop) (r : Int) : Cx := ⟨Tryd.prog, 35, Tryd.f35, 26, trellisref8_run_R w F  r, w⟩
theorem trellisref8_run_calls (w : World) (F : Nat → Prop) (x1 : ByteArray) (x2 : Int) (x3 : ByteArray) (hF : ∀ b, F b → b < w.heap.size ∧ ∀ o ∈ ([] : List (List Nat)), b ∉ o) (hL0 : B.Loc w w [] [Sm w.heap.size F w [], St w []]) (r : Int) (h : trellisref8_run x1 x2 x3 r) : Calls Tryd.prog 35 #[.string x1, .int .i64 x2, .string x3] w (trellisref8_run_R w F  r) := by
  unfold trellisref8_run at h
  refine calls_of_Loc (vs := [.string x1, .int .i64 x2, .string x3]) 26 Tryd.func35 rfl Tryd.ntmps35 rfl hL0 ?_
  show G (trellisref8_run_C w F r) _ _ _ _
  refine g_seq (c := trellisref8_run_c0) rfl ?_
  refine g_region (c := trellisref8_run_c1) rfl rfl ?_
  refine wl_v 0 rfl (v_assign rfl) gn rfl ?_
  refine w_end 1 rfl ?_
  refine g_seq (c := trellisref8_run_c2) rfl ?_
  refine g_region (c := trellisref8_run_c3) rfl rfl ?_
  refine wl_v 0 rfl (v_assign rfl) gn rfl ?_
  refine w_end 1 rfl ?_
  refine g_seq (c := trellisref8_run_c4) rfl ?_
  refine g_block (c := trellisref8_run_c5) rfl ?_
  refine g_loop (c := trellisref8_run_c7) rfl ?_
  have key1 : ∀ s, Rounds (fun (s : Int) o => trellisref8_run_b1 x2 x1 x3 s o) s r → (fun (s : Int) => ∀ (_ : Unit), G (trellisref8_run_C w F r) [.code trellisref8_run_c8, .inLoop trellisref8_run_c8, .inBlock 0, .code trellisref8_run_c6] [(0, .string x1), (1, .int .i64 x2), (2, .string x3), (7, .int .i64 s)] [] [Sm w.heap.size F w [], St w []]) s := by
    intro s hs
    refine Rounds.ind (mot := (fun (s : Int) => ∀ (_ : Unit), G (trellisref8_run_C w F r) [.code trellisref8_run_c8, .inLoop trellisref8_run_c8, .inBlock 0, .code trellisref8_run_c6] [(0, .string x1), (1, .int .i64 x2), (2, .string x3), (7, .int .i64 s)] [] [Sm w.heap.size F w [], St w []])) ?_ hs
    clear hs s
    intro x16 o1 h hO1
    show ∀ (_ : Unit), G (trellisref8_run_C w F r) [.code trellisref8_run_c8, .inLoop trellisref8_run_c8, .inBlock 0, .code trellisref8_run_c6] [(0, .string x1), (1, .int .i64 x2), (2, .string x3), (7, .int .i64 x16)] [] [Sm w.heap.size F w [], St w []]
    intro _
    have h : trellisref8_run_b1 x2 x1 x3 x16 o1 := h
    unfold trellisref8_run_b1 at h
    refine g_seq (c := trellisref8_run_c8) rfl ?_
    refine g_seq (c := trellisref8_run_c9) rfl ?_
    refine g_region (c := trellisref8_run_c11) rfl rfl ?_
    refine wl_v 0 rfl (v_move rfl) gn rfl ?_
    refine wl_v 1 rfl (v_move rfl) gn rfl ?_
    refine wl_v 2 rfl (v_bin rfl rfl rfl) gn rfl ?_
    refine wl_v 3 rfl (v_move rfl) gn rfl ?_
    refine wl_v 4 rfl (v_lenS un_9 rfl) gn rfl ?_
    refine wl_v 5 rfl (v_bin rfl rfl rfl) gn rfl ?_
    refine wl_v 6 rfl (v_move rfl) gn rfl ?_
    by_cases hp28 : w64 (x2 + x16) < (x1.size : Int)
    · have h := if_pos' hp28 h
      refine w_bool 14 rfl ((decide_eq_true hp28)) ?_
      refine wl_v 7 rfl (v_move rfl) (gy 14 rfl rfl) rfl ?_
      refine wl_v 8 rfl (v_move rfl) (gy 14 rfl rfl) rfl ?_
      refine wl_v 9 rfl (v_move rfl) (gy 14 rfl rfl) rfl ?_
      refine wl_v 10 rfl (v_move rfl) (gy 14 rfl rfl) rfl ?_
      refine wl_v 11 rfl (v_bin rfl rfl rfl) (gy 14 rfl rfl) rfl ?_
      obtain ⟨hb29, h⟩ := h
      refine wl_v 12 rfl (v_indexS un_9 rfl rfl hb29) (gy 14 rfl rfl) rfl ?_
      obtain ⟨r33, hv34, h⟩ := h
      refine wl_s 13 rfl (s_call [.string x3, .int .u8 (bt x1 (w64 (x2 + x16)))] rfl Tryd.func34 rfl rfl rfl fun w30 hL31 => ?_) (gy 14 rfl rfl)
      have hp32 : List.Perm ([] : List Ent) (([] : List Ent) ++ ([] : List Ent)) := perm_of_idx [] [] rfl rfl (by kernel_rfl)
      refine Calls.mono (trellisref8_in_calls w30 (Fl ([] : List Snap)) x3 (bt x1 (w64 (x2 + x16))) (hL31.hFl (Sl := ([] : List Snap)) hp32 (sels [] rfl)) (hL31.into hp32 (Fl ([] : List Snap))) r33 hv34) ?_
      rintro _ w35 ⟨rfl, hM36⟩
      have hL37 := hL31.call hp32 hM36
      refine ⟨_, _, _, rfl, hL37, ?_⟩
      refine wl_v 14 rfl (v_pick (b := true) rfl rfl) gn rfl ?_
      refine w_end 15 rfl ?_
      by_cases hp38 : r33 = true
      · have h := if_pos' hp38 h
        refine g_true (c := trellisref8_run_c12) rfl _ rfl (hp38) ?_
        refine g_skip (c := trellisref8_run_c13) rfl ?_
        refine g_block (c := trellisref8_run_c10) rfl ?_
        refine g_region (c := trellisref8_run_c15) rfl rfl ?_
        refine wl_v 0 rfl (v_move rfl) gn rfl ?_
        refine wl_v 1 rfl (v_bin rfl rfl rfl) gn rfl ?_
        refine wl_v 2 rfl (v_assign rfl) gn rfl ?_
        refine w_end 3 rfl ?_
        refine g_inBlock ?_
        refine g_inLoop ?_
        have ih := Out.inl hO1 h
        exact g_go [0, 1] (ih ()) ⟨rfl, rfl, rfl, rfl, trivial⟩ (.slnil) rfl
      · have h := if_neg' hp38 h
        refine g_false (c := trellisref8_run_c12) rfl _ rfl ((bf hp38)) ?_
        refine g_exit (c := trellisref8_run_c14) [.code trellisref8_run_c6] rfl rfl ?_
        refine g_seq (c := trellisref8_run_c6) rfl ?_
        refine g_region (c := trellisref8_run_c16) rfl rfl ?_
        refine wl_v 0 rfl (v_move rfl) gn rfl ?_
        refine wl_v 1 rfl (v_assign rfl) gn rfl ?_
        refine w_end 2 rfl ?_
        have h := Out.inr hO1 h
        refine g_retR (c := trellisref8_run_c17) [.int .i64 x16] rfl Tryd.func35 rfl (.tmp rfl (.nil)) fun wr hLr => ?_
        have hMr : B.Loc w wr [] [St w []] := hLr.pick (rest := []) (perm_of_idx [] [] rfl rfl (by kernel_rfl)) (sels [1] rfl)
        have hMi : ∀ e ∈ ([] : List Ent), e ∈ ([] : List Ent) := sels [] rfl
        show trellisref8_run_R w F  r (.returned (packV [.int .i64 x16])) wr
        rw [h]
        exact ⟨rfl, hMr⟩
    · have h := if_neg' hp28 h
      refine w_bool 14 rfl ((decide_eq_false hp28)) ?_
      refine wl_pass 7 rfl (ps 14 rfl rfl rfl) ?_
      refine wl_pass 8 rfl (ps 14 rfl rfl rfl) ?_
      refine wl_pass 9 rfl (ps 14 rfl rfl rfl) ?_
      refine wl_pass 10 rfl (ps 14 rfl rfl rfl) ?_
      refine wl_pass 11 rfl (ps 14 rfl rfl rfl) ?_
      refine wl_pass 12 rfl (ps 14 rfl rfl rfl) ?_
      refine wl_pass 13 rfl (ps 14 rfl rfl rfl) ?_
      refine wl_v 14 rfl (v_pick (b := false) rfl rfl) gn rfl ?_
      refine w_end 15 rfl ?_
      refine g_false (c := trellisref8_run_c12) rfl _ rfl (rfl) ?_
      refine g_exit (c := trellisref8_run_c14) [.code trellisref8_run_c6] rfl rfl ?_
      refine g_seq (c := trellisref8_run_c6) rfl ?_
      refine g_region (c := trellisref8_run_c16) rfl rfl ?_
      refine wl_v 0 rfl (v_move rfl) gn rfl ?_
      refine wl_v 1 rfl (v_assign rfl) gn rfl ?_
      refine w_end 2 rfl ?_
      have h := Out.inr hO1 h
      refine g_retR (c := trellisref8_run_c17) [.int .i64 x16] rfl Tryd.func35 rfl (.tmp rfl (.nil)) fun wr hLr => ?_
      have hMr : B.Loc w wr [] [St w []] := hLr.pick (rest := []) (perm_of_idx [] [] rfl rfl (by kernel_rfl)) (sels [1] rfl)
      have hMi : ∀ e ∈ ([] : List Ent), e ∈ ([] : List Ent) := sels [] rfl
      show trellisref8_run_R w F  r (.returned (packV [.int .i64 x16])) wr
      rw [h]
      exact ⟨rfl, hMr⟩
  exact g_go [0, 1] (key1 _ h ()) ⟨rfl, rfl, rfl, rfl, trivial⟩ (.slnil) rfl
noncomputable abbrev trellisref8_regex_c0 : Code := bodyOf Tryd.f36
noncomputable abbrev trellisref8_regex_c1 : Code := Code.fst trellisref8_regex_c0
noncomputable abbrev trellisref8_regex_c2 : Code := Code.snd trellisref8_regex_c0
noncomputable abbrev trellisref8_regex_c3 : Code := Code.fst trellisref8_regex_c2
noncomputable abbrev trellisref8_regex_c4 : Code := Code.snd trellisref8_regex_c2
noncomputable abbrev trellisref8_regex_c5 : Code := Code.fst trellisref8_regex_c4
noncomputable abbrev trellisref8_regex_c6 : Code := Code.snd trellisref8_regex_c4
noncomputable abbrev trellisref8_regex_c7 : Code := Code.fst trellisref8_regex_c5
noncomputable abbrev trellisref8_regex_c8 : Code := Code.fst trellisref8_regex_c7
noncomputable abbrev trellisref8_regex_c9 : Code := Code.fst trellisref8_regex_c8
noncomputable abbrev trellisref8_regex_c10 : Code := Code.snd trellisref8_regex_c8
noncomputable abbrev trellisref8_regex_c11 : Code := Code.fst trellisref8_regex_c9
noncomputable abbrev trellisref8_regex_c12 : Code := Code.snd trellisref8_regex_c9
noncomputable abbrev trellisref8_regex_c13 : Code := Code.fst trellisref8_regex_c12
noncomputable abbrev trellisref8_regex_c14 : Code := Code.snd trellisref8_regex_c12
noncomputable abbrev trellisref8_regex_c15 : Code := Code.fst trellisref8_regex_c10
noncomputable abbrev trellisref8_regex_c16 : Code := Code.fst trellisref8_regex_c15
noncomputable abbrev trellisref8_regex_c17 : Code := Code.snd trellisref8_regex_c15
noncomputable abbrev trellisref8_regex_c18 : Code := Code.fst trellisref8_regex_c16
noncomputable abbrev trellisref8_regex_c19 : Code := Code.snd trellisref8_regex_c16
noncomputable abbrev trellisref8_regex_c20 : Code := Code.fst trellisref8_regex_c19
noncomputable abbrev trellisref8_regex_c21 : Code := Code.snd trellisref8_regex_c19
noncomputable abbrev trellisref8_regex_c22 : Code := Code.fst trellisref8_regex_c20
noncomputable abbrev trellisref8_regex_c23 : Code := Code.snd trellisref8_regex_c20
noncomputable abbrev trellisref8_regex_c24 : Code := Code.fst trellisref8_regex_c17
noncomputable abbrev trellisref8_regex_c25 : Code := Code.snd trellisref8_regex_c17
noncomputable abbrev trellisref8_regex_c26 : Code := Code.fst trellisref8_regex_c24
noncomputable abbrev trellisref8_regex_c27 : Code := Code.snd trellisref8_regex_c24
noncomputable abbrev trellisref8_regex_c28 : Code := Code.fst trellisref8_regex_c27
noncomputable abbrev trellisref8_regex_c29 : Code := Code.snd trellisref8_regex_c27
noncomputable abbrev trellisref8_regex_c30 : Code := Code.fst trellisref8_regex_c6
noncomputable abbrev trellisref8_regex_c31 : Code := Code.snd trellisref8_regex_c6
abbrev trellisref8_regex_R (w : World) (F : Nat → Prop) (r : Int) : Ending → World → Prop := fun e w' => e = .returned (.int .i64 r) ∧ B.Loc w w' [] [St w []]
noncomputable abbrev trellisref8_regex_C (w : World) (F : Nat → Prop) (r : Int) : Cx := ⟨Tryd.prog, 36, Tryd.f36, 46, trellisref8_regex_R w F  r, w⟩
theorem trellisref8_regex_calls (w : World) (F : Nat → Prop) (x1 : ByteArray) (x2 : Int) (hF : ∀ b, F b → b < w.heap.size ∧ ∀ o ∈ ([] : List (List Nat)), b ∉ o) (hL0 : B.Loc w w [] [Sm w.heap.size F w [], St w []]) (r : Int) (h : trellisref8_regex x1 x2 r) : Calls Tryd.prog 36 #[.string x1, .int .i64 x2] w (trellisref8_regex_R w F  r) := by
  unfold trellisref8_regex at h
  refine calls_of_Loc (vs := [.string x1, .int .i64 x2]) 46 Tryd.func36 rfl Tryd.ntmps36 rfl hL0 ?_
  show G (trellisref8_regex_C w F r) _ _ _ _
  refine g_seq (c := trellisref8_regex_c0) rfl ?_
  refine g_region (c := trellisref8_regex_c1) rfl rfl ?_
  refine wl_v 0 rfl (v_assign rfl) gn rfl ?_
  refine w_end 1 rfl ?_
  refine g_seq (c := trellisref8_regex_c2) rfl ?_
  refine g_region (c := trellisref8_regex_c3) rfl rfl ?_
  refine wl_v 0 rfl (v_move rfl) gn rfl ?_
  refine wl_v 1 rfl (v_bin rfl rfl rfl) gn rfl ?_
  refine wl_v 2 rfl (v_assign rfl) gn rfl ?_
  refine w_end 3 rfl ?_
  refine g_seq (c := trellisref8_regex_c4) rfl ?_
  refine g_block (c := trellisref8_regex_c5) rfl ?_
  refine g_loop (c := trellisref8_regex_c7) rfl ?_
  have key1 : ∀ s, Rounds (fun (s : Int) o => trellisref8_regex_b1 x1 s o) s r → (fun (s : Int) => ∀ (_ : Unit), G (trellisref8_regex_C w F r) [.code trellisref8_regex_c8, .inLoop trellisref8_regex_c8, .inBlock 0, .code trellisref8_regex_c6] [(0, .string x1), (5, .int .i64 s)] [] [Sm w.heap.size F w [], St w []]) s := by
    intro s hs
    refine Rounds.ind (mot := (fun (s : Int) => ∀ (_ : Unit), G (trellisref8_regex_C w F r) [.code trellisref8_regex_c8, .inLoop trellisref8_regex_c8, .inBlock 0, .code trellisref8_regex_c6] [(0, .string x1), (5, .int .i64 s)] [] [Sm w.heap.size F w [], St w []])) ?_ hs
    clear hs s
    intro x17 o1 h hO1
    show ∀ (_ : Unit), G (trellisref8_regex_C w F r) [.code trellisref8_regex_c8, .inLoop trellisref8_regex_c8, .inBlock 0, .code trellisref8_regex_c6] [(0, .string x1), (5, .int .i64 x17)] [] [Sm w.heap.size F w [], St w []]
    intro _
    have h : trellisref8_regex_b1 x1 x17 o1 := h
    unfold trellisref8_regex_b1 at h
    refine g_seq (c := trellisref8_regex_c8) rfl ?_
    refine g_seq (c := trellisref8_regex_c9) rfl ?_
    have j2 : ∀ (x34 : Bool) (h : trellisref8_regex_j2 x17 x1 x34 o1) , G (trellisref8_regex_C w F r) [.code trellisref8_regex_c12, .code trellisref8_regex_c10, .inLoop trellisref8_regex_c8, .inBlock 0, .code trellisref8_regex_c6] [(0, .string x1), (5, .int .i64 x17), (17, .bool x34)] [] [Sm w.heap.size F w [], St w []] := by
      intro x34 h
      unfold trellisref8_regex_j2 at h
      by_cases hp35 : x34 = true
      · have h := if_pos' hp35 h
        refine g_true (c := trellisref8_regex_c12) rfl _ rfl (hp35) ?_
        refine g_skip (c := trellisref8_regex_c13) rfl ?_
        refine g_block (c := trellisref8_regex_c10) rfl ?_
        refine g_seq (c := trellisref8_regex_c15) rfl ?_
        refine g_seq (c := trellisref8_regex_c16) rfl ?_
        refine g_region (c := trellisref8_regex_c18) rfl rfl ?_
        refine wl_v 0 rfl (v_move rfl) gn rfl ?_
        refine wl_v 1 rfl (v_move rfl) gn rfl ?_
        obtain ⟨hb36, h⟩ := h
        refine wl_v 2 rfl (v_indexS un_9 rfl rfl hb36) gn rfl ?_
        refine wl_v 3 rfl (v_bin rfl rfl rfl) gn rfl ?_
        refine w_end 4 rfl ?_
        by_cases hp37 : bt x1 x17 = 47
        · have h := if_pos' hp37 h
          refine g_true (c := trellisref8_regex_c19) rfl _ rfl ((eqi hp37)) ?_
          refine g_seq (c := trellisref8_regex_c20) rfl ?_
          refine g_region (c := trellisref8_regex_c22) rfl rfl ?_
          refine wl_v 0 rfl (v_move rfl) gn rfl ?_
          refine wl_v 1 rfl (v_bin rfl rfl rfl) gn rfl ?_
          refine wl_v 2 rfl (v_assign rfl) gn rfl ?_
          refine w_end 3 rfl ?_
          have h := Out.inr hO1 h
          refine g_retR (c := trellisref8_regex_c23) [.int .i64 (w64 (x17 + 1))] rfl Tryd.func36 rfl (.tmp rfl (.nil)) fun wr hLr => ?_
          have hMr : B.Loc w wr [] [St w []] := hLr.pick (rest := []) (perm_of_idx [] [] rfl rfl (by kernel_rfl)) (sels [1] rfl)
          have hMi : ∀ e ∈ ([] : List Ent), e ∈ ([] : List Ent) := sels [] rfl
          show trellisref8_regex_R w F  r (.returned (packV [.int .i64 (w64 (x17 + 1))])) wr
          rw [h]
          exact ⟨rfl, hMr⟩
        · have h := if_neg' hp37 h
          refine g_false (c := trellisref8_regex_c19) rfl _ rfl ((nei hp37)) ?_
          refine g_skip (c := trellisref8_regex_c21) rfl ?_
          refine g_seq (c := trellisref8_regex_c17) rfl ?_
          refine g_seq (c := trellisref8_regex_c24) rfl ?_
          refine g_region (c := trellisref8_regex_c26) rfl rfl ?_
          refine wl_v 0 rfl (v_move rfl) gn rfl ?_
          refine wl_v 1 rfl (v_move rfl) gn rfl ?_
          refine wl_v 2 rfl (v_indexS un_9 rfl rfl hb36) gn rfl ?_
          refine wl_v 3 rfl (v_bin rfl rfl rfl) gn rfl ?_
          refine wl_v 4 rfl (v_move rfl) gn rfl ?_
          by_cases hp38 : bt x1 x17 = 92
          · have h := if_pos' hp38 h
            refine w_bool 28 rfl ((eqi hp38)) ?_
            refine wl_v 5 rfl (v_move rfl) (gy 28 rfl rfl) rfl ?_
            refine wl_v 6 rfl (v_bin rfl rfl rfl) (gy 28 rfl rfl) rfl ?_
            refine wl_v 7 rfl (v_move rfl) (gy 28 rfl rfl) rfl ?_
            refine wl_v 8 rfl (v_lenS un_9 rfl) (gy 28 rfl rfl) rfl ?_
            refine wl_v 9 rfl (v_bin rfl rfl rfl) (gy 28 rfl rfl) rfl ?_
            refine wl_v 10 rfl (v_pick (b := true) rfl rfl) gn rfl ?_
            refine wl_v 11 rfl (v_move rfl) gn rfl ?_
            by_cases hp39 : w64 (x17 + 1) < (x1.size : Int)
            · have h := if_pos' hp39 h
              refine w_bool 35 rfl ((decide_eq_true hp39)) ?_
              refine wl_v 12 rfl (v_move rfl) (gy 35 rfl rfl) rfl ?_
              refine wl_v 13 rfl (v_move rfl) (gy 35 rfl rfl) rfl ?_
              refine wl_v 14 rfl (v_bin rfl rfl rfl) (gy 35 rfl rfl) rfl ?_
              obtain ⟨hb40, h⟩ := h
              refine wl_v 15 rfl (v_indexS un_9 rfl rfl hb40) (gy 35 rfl rfl) rfl ?_
              refine wl_v 16 rfl (v_bin rfl rfl rfl) (gy 35 rfl rfl) rfl ?_
              refine wl_v 17 rfl (v_pick (b := true) rfl rfl) gn rfl ?_
              refine w_end 18 rfl ?_
              by_cases hp41 : bt x1 (w64 (x17 + 1)) = 10
              · have h := if_pos' hp41 h
                refine g_false (c := trellisref8_regex_c27) rfl _ rfl ((eqib hp41)) ?_
                refine g_skip (c := trellisref8_regex_c29) rfl ?_
                refine g_region (c := trellisref8_regex_c25) rfl rfl ?_
                refine wl_v 0 rfl (v_move rfl) gn rfl ?_
                refine wl_v 1 rfl (v_bin rfl rfl rfl) gn rfl ?_
                refine wl_v 2 rfl (v_assign rfl) gn rfl ?_
                refine w_end 3 rfl ?_
                refine g_inBlock ?_
                refine g_inLoop ?_
                have ih := Out.inl hO1 h
                exact g_go [0, 1] (ih ()) ⟨rfl, rfl, trivial⟩ (.slnil) rfl
              · have h := if_neg' hp41 h
                refine g_true (c := trellisref8_regex_c27) rfl _ rfl ((neib hp41)) ?_
                refine g_region (c := trellisref8_regex_c28) rfl rfl ?_
                refine wl_v 0 rfl (v_move rfl) gn rfl ?_
                refine wl_v 1 rfl (v_bin rfl rfl rfl) gn rfl ?_
                refine wl_v 2 rfl (v_assign rfl) gn rfl ?_
                refine w_end 3 rfl ?_
                refine g_region (c := trellisref8_regex_c25) rfl rfl ?_
                refine wl_v 0 rfl (v_move rfl) gn rfl ?_
                refine wl_v 1 rfl (v_bin rfl rfl rfl) gn rfl ?_
                refine wl_v 2 rfl (v_assign rfl) gn rfl ?_
                refine w_end 3 rfl ?_
                refine g_inBlock ?_
                refine g_inLoop ?_
                have ih := Out.inl hO1 h
                exact g_go [0, 1] (ih ()) ⟨rfl, rfl, trivial⟩ (.slnil) rfl
            · have h := if_neg' hp39 h
              refine w_bool 35 rfl ((decide_eq_false hp39)) ?_
              refine wl_pass 12 rfl (ps 35 rfl rfl rfl) ?_
              refine wl_pass 13 rfl (ps 35 rfl rfl rfl) ?_
              refine wl_pass 14 rfl (ps 35 rfl rfl rfl) ?_
              refine wl_pass 15 rfl (ps 35 rfl rfl rfl) ?_
              refine wl_pass 16 rfl (ps 35 rfl rfl rfl) ?_
              refine wl_v 17 rfl (v_pick (b := false) rfl rfl) gn rfl ?_
              refine w_end 18 rfl ?_
              refine g_false (c := trellisref8_regex_c27) rfl _ rfl (rfl) ?_
              refine g_skip (c := trellisref8_regex_c29) rfl ?_
              refine g_region (c := trellisref8_regex_c25) rfl rfl ?_
              refine wl_v 0 rfl (v_move rfl) gn rfl ?_
              refine wl_v 1 rfl (v_bin rfl rfl rfl) gn rfl ?_
              refine wl_v 2 rfl (v_assign rfl) gn rfl ?_
              refine w_end 3 rfl ?_
              refine g_inBlock ?_
              refine g_inLoop ?_
              have ih := Out.inl hO1 h
              exact g_go [0, 1] (ih ()) ⟨rfl, rfl, trivial⟩ (.slnil) rfl
          · have h := if_neg' hp38 h
            refine w_bool 28 rfl ((nei hp38)) ?_
            refine wl_pass 5 rfl (ps 28 rfl rfl rfl) ?_
            refine wl_pass 6 rfl (ps 28 rfl rfl rfl) ?_
            refine wl_pass 7 rfl (ps 28 rfl rfl rfl) ?_
            refine wl_pass 8 rfl (ps 28 rfl rfl rfl) ?_
            refine wl_pass 9 rfl (ps 28 rfl rfl rfl) ?_
            refine wl_v 10 rfl (v_pick (b := false) rfl rfl) gn rfl ?_
            refine wl_v 11 rfl (v_move rfl) gn rfl ?_
            refine wl_pass 12 rfl (ps 35 rfl rfl rfl) ?_
            refine wl_pass 13 rfl (ps 35 rfl rfl rfl) ?_
            refine wl_pass 14 rfl (ps 35 rfl rfl rfl) ?_
            refine wl_pass 15 rfl (ps 35 rfl rfl rfl) ?_
            refine wl_pass 16 rfl (ps 35 rfl rfl rfl) ?_
            refine wl_v 17 rfl (v_pick (b := false) rfl rfl) gn rfl ?_
            refine w_end 18 rfl ?_
            refine g_false (c := trellisref8_regex_c27) rfl _ rfl (rfl) ?_
            refine g_skip (c := trellisref8_regex_c29) rfl ?_
            refine g_region (c := trellisref8_regex_c25) rfl rfl ?_
            refine wl_v 0 rfl (v_move rfl) gn rfl ?_
            refine wl_v 1 rfl (v_bin rfl rfl rfl) gn rfl ?_
            refine wl_v 2 rfl (v_assign rfl) gn rfl ?_
            refine w_end 3 rfl ?_
            refine g_inBlock ?_
            refine g_inLoop ?_
            have ih := Out.inl hO1 h
            exact g_go [0, 1] (ih ()) ⟨rfl, rfl, trivial⟩ (.slnil) rfl
      · have h := if_neg' hp35 h
        refine g_false (c := trellisref8_regex_c12) rfl _ rfl ((bf hp35)) ?_
        refine g_exit (c := trellisref8_regex_c14) [.code trellisref8_regex_c6] rfl rfl ?_
        refine g_seq (c := trellisref8_regex_c6) rfl ?_
        refine g_region (c := trellisref8_regex_c30) rfl rfl ?_
        refine wl_v 0 rfl (v_assign rfl) gn rfl ?_
        refine w_end 1 rfl ?_
        have h := Out.inr hO1 h
        refine g_retR (c := trellisref8_regex_c31) [.int .i64 0] rfl Tryd.func36 rfl (.tmp rfl (.nil)) fun wr hLr => ?_
        have hMr : B.Loc w wr [] [St w []] := hLr.pick (rest := []) (perm_of_idx [] [] rfl rfl (by kernel_rfl)) (sels [1] rfl)
        have hMi : ∀ e ∈ ([] : List Ent), e ∈ ([] : List Ent) := sels [] rfl
        show trellisref8_regex_R w F  r (.returned (packV [.int .i64 0])) wr
        rw [h]
        exact ⟨rfl, hMr⟩
    refine g_region (c := trellisref8_regex_c11) rfl rfl ?_
    refine wl_v 0 rfl (v_move rfl) gn rfl ?_
    refine wl_v 1 rfl (v_move rfl) gn rfl ?_
    refine wl_v 2 rfl (v_lenS un_9 rfl) gn rfl ?_
    refine wl_v 3 rfl (v_bin rfl rfl rfl) gn rfl ?_
    refine wl_v 4 rfl (v_move rfl) gn rfl ?_
    by_cases hp42 : x17 < (x1.size : Int)
    · have h := if_pos' hp42 h
      refine w_bool 12 rfl ((decide_eq_true hp42)) ?_
      refine wl_v 5 rfl (v_move rfl) (gy 12 rfl rfl) rfl ?_
      refine wl_v 6 rfl (v_move rfl) (gy 12 rfl rfl) rfl ?_
      obtain ⟨hb43, h⟩ := h
      refine wl_v 7 rfl (v_indexS un_9 rfl rfl hb43) (gy 12 rfl rfl) rfl ?_
      refine wl_v 8 rfl (v_bin rfl rfl rfl) (gy 12 rfl rfl) rfl ?_
      refine wl_v 9 rfl (v_pick (b := true) rfl rfl) gn rfl ?_
      refine w_end 10 rfl ?_
      exact g_go [0, 1] (j2 ((bt x1 x17) != 10) h) ⟨rfl, rfl, rfl, trivial⟩ (.slnil) rfl
    · have h := if_neg' hp42 h
      refine w_bool 12 rfl ((decide_eq_false hp42)) ?_
      refine wl_pass 5 rfl (ps 12 rfl rfl rfl) ?_
      refine wl_pass 6 rfl (ps 12 rfl rfl rfl) ?_
      refine wl_pass 7 rfl (ps 12 rfl rfl rfl) ?_
      refine wl_pass 8 rfl (ps 12 rfl rfl rfl) ?_
      refine wl_v 9 rfl (v_pick (b := false) rfl rfl) gn rfl ?_
      refine w_end 10 rfl ?_
      exact g_go [0, 1] (j2 false h) ⟨rfl, rfl, rfl, trivial⟩ (.slnil) rfl
  exact g_go [0, 1] (key1 _ h ()) ⟨rfl, rfl, trivial⟩ (.slnil) rfl
noncomputable abbrev trellisref8_Sound_c0 : Code := bodyOf Tryd.f22
noncomputable abbrev trellisref8_Sound_c1 : Code := Code.fst trellisref8_Sound_c0
noncomputable abbrev trellisref8_Sound_c2 : Code := Code.snd trellisref8_Sound_c0
noncomputable abbrev trellisref8_Sound_c3 : Code := Code.fst trellisref8_Sound_c2
noncomputable abbrev trellisref8_Sound_c4 : Code := Code.snd trellisref8_Sound_c2
noncomputable abbrev trellisref8_Sound_c5 : Code := Code.fst trellisref8_Sound_c3
noncomputable abbrev trellisref8_Sound_c6 : Code := Code.snd trellisref8_Sound_c3
noncomputable abbrev trellisref8_Sound_c7 : Code := Code.fst trellisref8_Sound_c6
noncomputable abbrev trellisref8_Sound_c8 : Code := Code.fst trellisref8_Sound_c7
noncomputable abbrev trellisref8_Sound_c9 : Code := Code.snd trellisref8_Sound_c7
noncomputable abbrev trellisref8_Sound_c10 : Code := Code.fst trellisref8_Sound_c9
noncomputable abbrev trellisref8_Sound_c11 : Code := Code.snd trellisref8_Sound_c9
noncomputable abbrev trellisref8_Sound_c12 : Code := Code.fst trellisref8_Sound_c10
noncomputable abbrev trellisref8_Sound_c13 : Code := Code.snd trellisref8_Sound_c10
noncomputable abbrev trellisref8_Sound_c14 : Code := Code.fst trellisref8_Sound_c13
noncomputable abbrev trellisref8_Sound_c15 : Code := Code.snd trellisref8_Sound_c13
noncomputable abbrev trellisref8_Sound_c16 : Code := Code.fst trellisref8_Sound_c11
noncomputable abbrev trellisref8_Sound_c17 : Code := Code.snd trellisref8_Sound_c11
noncomputable abbrev trellisref8_Sound_c18 : Code := Code.fst trellisref8_Sound_c17
noncomputable abbrev trellisref8_Sound_c19 : Code := Code.snd trellisref8_Sound_c17
noncomputable abbrev trellisref8_Sound_c20 : Code := Code.fst trellisref8_Sound_c18
noncomputable abbrev trellisref8_Sound_c21 : Code := Code.snd trellisref8_Sound_c18
noncomputable abbrev trellisref8_Sound_c22 : Code := Code.fst trellisref8_Sound_c19
noncomputable abbrev trellisref8_Sound_c23 : Code := Code.snd trellisref8_Sound_c19
noncomputable abbrev trellisref8_Sound_c24 : Code := Code.fst trellisref8_Sound_c23
noncomputable abbrev trellisref8_Sound_c25 : Code := Code.snd trellisref8_Sound_c23
noncomputable abbrev trellisref8_Sound_c26 : Code := Code.fst trellisref8_Sound_c24
noncomputable abbrev trellisref8_Sound_c27 : Code := Code.snd trellisref8_Sound_c24
noncomputable abbrev trellisref8_Sound_c28 : Code := Code.fst trellisref8_Sound_c27
noncomputable abbrev trellisref8_Sound_c29 : Code := Code.snd trellisref8_Sound_c27
noncomputable abbrev trellisref8_Sound_c30 : Code := Code.fst trellisref8_Sound_c25
noncomputable abbrev trellisref8_Sound_c31 : Code := Code.snd trellisref8_Sound_c25
noncomputable abbrev trellisref8_Sound_c32 : Code := Code.fst trellisref8_Sound_c31
noncomputable abbrev trellisref8_Sound_c33 : Code := Code.snd trellisref8_Sound_c31
noncomputable abbrev trellisref8_Sound_c34 : Code := Code.fst trellisref8_Sound_c32
noncomputable abbrev trellisref8_Sound_c35 : Code := Code.snd trellisref8_Sound_c32
noncomputable abbrev trellisref8_Sound_c36 : Code := Code.fst trellisref8_Sound_c33
noncomputable abbrev trellisref8_Sound_c37 : Code := Code.snd trellisref8_Sound_c33
noncomputable abbrev trellisref8_Sound_c38 : Code := Code.fst trellisref8_Sound_c37
noncomputable abbrev trellisref8_Sound_c39 : Code := Code.snd trellisref8_Sound_c37
noncomputable abbrev trellisref8_Sound_c40 : Code := Code.fst trellisref8_Sound_c38
noncomputable abbrev trellisref8_Sound_c41 : Code := Code.snd trellisref8_Sound_c38
noncomputable abbrev trellisref8_Sound_c42 : Code := Code.fst trellisref8_Sound_c4
noncomputable abbrev trellisref8_Sound_c43 : Code := Code.snd trellisref8_Sound_c4
abbrev trellisref8_Sound_R (w : World) (F : Nat → Prop) (r : Bool) : Ending → World → Prop := fun e w' => e = .returned (.bool r) ∧ B.Loc w w' [] [St w []]
noncomputable abbrev trellisref8_Sound_C (w : World) (F : Nat → Prop) (r : Bool) : Cx := ⟨Tryd.prog, 22, Tryd.f22, 67, trellisref8_Sound_R w F  r, w⟩
theorem trellisref8_Sound_calls (w : World) (F : Nat → Prop) (x1 : api_Word) (hF : ∀ b, F b → b < w.heap.size ∧ ∀ o ∈ ([] : List (List Nat)), b ∉ o) (hL0 : B.Loc w w [] [Sm w.heap.size F w [], St w []]) (r : Bool) (h : trellisref8_Sound x1 r) : Calls Tryd.prog 22 #[.agg #[.int .i64 x1.kind, .string x1.text, .int .i64 x1.n, .int .i64 x1.at_]] w (trellisref8_Sound_R w F  r) := by
  unfold trellisref8_Sound at h
  refine calls_of_Loc (vs := [.agg #[.int .i64 x1.kind, .string x1.text, .int .i64 x1.n, .int .i64 x1.at_]]) 67 Tryd.func22 rfl Tryd.ntmps22 rfl hL0 ?_
  show G (trellisref8_Sound_C w F r) _ _ _ _
  refine g_seq (c := trellisref8_Sound_c0) rfl ?_
  refine g_region (c := trellisref8_Sound_c1) rfl rfl ?_
  refine wl_s 0 rfl (s_box [.int .i64 x1.kind, .string x1.text, .int .i64 x1.n, .int .i64 x1.at_] rfl rfl rfl fun gb2 => ?_) gn
  refine wl_v 1 rfl (v_assign rfl) gn rfl ?_
  refine w_end 2 rfl ?_
  refine g_seq (c := trellisref8_Sound_c2) rfl ?_
  refine g_seq (c := trellisref8_Sound_c3) rfl ?_
  refine g_region (c := trellisref8_Sound_c5) rfl rfl ?_
  refine wl_v 0 rfl (v_fldB fo_27_0 rfl) gn rfl ?_
  refine wl_v 1 rfl (v_ldB1 0 ld_25 rfl rfl rfl) gn rfl ?_
  refine w_end 2 rfl ?_
  refine g_block (c := trellisref8_Sound_c6) rfl ?_
  refine g_seq (c := trellisref8_Sound_c7) rfl ?_
  refine g_region (c := trellisref8_Sound_c8) rfl rfl ?_
  refine wl_v 0 rfl (v_bin rfl rfl rfl) gn rfl ?_
  refine wl_v 1 rfl (v_assign rfl) gn rfl ?_
  refine w_end 2 rfl ?_
  by_cases hp4 : x1.kind = 1
  · have h := if_pos' hp4 h
    refine g_true (c := trellisref8_Sound_c9) rfl _ rfl ((eqi hp4)) ?_
    refine g_seq (c := trellisref8_Sound_c10) rfl ?_
    refine g_region (c := trellisref8_Sound_c12) rfl rfl ?_
    refine wl_v 0 rfl (v_fldB fo_27_1 rfl) gn rfl ?_
    refine wl_v 1 rfl (v_ldB1 0 ld_9 rfl rfl rfl) gn rfl ?_
    refine wl_v 2 rfl (v_lenS un_9 rfl) gn rfl ?_
    refine wl_v 3 rfl (v_assign rfl) gn rfl ?_
    refine w_end 4 rfl ?_
    refine g_seq (c := trellisref8_Sound_c13) rfl ?_
    refine g_region (c := trellisref8_Sound_c14) rfl rfl ?_
    refine wl_v 0 rfl (v_move rfl) gn rfl ?_
    refine wl_v 1 rfl (v_bin rfl rfl rfl) gn rfl ?_
    refine wl_v 2 rfl (v_move rfl) gn rfl ?_
    by_cases hp5 : (x1.text.size : Int) > 0
    · have h := if_pos' hp5 h
      refine w_bool 14 rfl ((decide_eq_true hp5)) ?_
      refine wl_v 3 rfl (v_move rfl) (gy 14 rfl rfl) rfl ?_
      refine wl_v 4 rfl (v_bin rfl rfl rfl) (gy 14 rfl rfl) rfl ?_
      refine wl_v 5 rfl (v_pick (b := true) rfl rfl) gn rfl ?_
      refine wl_v 6 rfl (v_move rfl) gn rfl ?_
      by_cases hp6 : (x1.text.size : Int) ≤ 24
      · have h := if_pos' hp6 h
        refine w_bool 18 rfl ((decide_eq_true hp6)) ?_
        refine wl_v 7 rfl (v_fldB fo_27_1 rfl) (gy 18 rfl rfl) rfl ?_
        refine wl_v 8 rfl (v_ldB1 0 ld_9 rfl rfl rfl) (gy 18 rfl rfl) rfl ?_
        obtain ⟨hb7, h⟩ := h
        refine wl_v 9 rfl (v_indexS un_9 rfl rfl hb7) (gy 18 rfl rfl) rfl ?_
        obtain ⟨r11, hv12, h⟩ := h
        refine wl_s 10 rfl (s_call [.string (⟨#[48, 49, 50, 51, 52, 53, 54, 55, 56, 57]⟩ : ByteArray), .int .u8 (bt x1.text 0)] rfl Tryd.func34 rfl rfl rfl fun w8 hL9 => ?_) (gy 18 rfl rfl)
        have hp10 : List.Perm ([.box gb2 27 [.int .i64 x1.kind, .string x1.text, .int .i64 x1.n, .int .i64 x1.at_]] : List Ent) (([] : List Ent) ++ ([.box gb2 27 [.int .i64 x1.kind, .string x1.text, .int .i64 x1.n, .int .i64 x1.at_]] : List Ent)) := perm_of_idx [] [0] rfl rfl (by kernel_rfl)
        refine Calls.mono (trellisref8_in_calls w8 (Fl ([] : List Snap)) (⟨#[48, 49, 50, 51, 52, 53, 54, 55, 56, 57]⟩ : ByteArray) (bt x1.text 0) (hL9.hFl (Sl := ([] : List Snap)) hp10 (sels [] rfl)) (hL9.into hp10 (Fl ([] : List Snap))) r11 hv12) ?_
        rintro _ w13 ⟨rfl, hM14⟩
        have hL15 := hL9.call hp10 hM14
        refine ⟨_, _, _, rfl, hL15, ?_⟩
        refine wl_v 11 rfl (v_not rfl) (gy 18 rfl rfl) rfl ?_
        refine wl_v 12 rfl (v_pick (b := true) rfl rfl) gn rfl ?_
        refine wl_v 13 rfl (v_move rfl) gn rfl ?_
        by_cases hp16 : r11 = true
        · have h := if_pos' hp16 h
          refine w_bool 25 rfl ((nf hp16)) ?_
          refine wl_pass 14 rfl (ps 25 rfl rfl rfl) ?_
          refine wl_pass 15 rfl (ps 25 rfl rfl rfl) ?_
          refine wl_pass 16 rfl (ps 25 rfl rfl rfl) ?_
          refine wl_pass 17 rfl (ps 25 rfl rfl rfl) ?_
          refine wl_pass 18 rfl (ps 25 rfl rfl rfl) ?_
          refine wl_v 19 rfl (v_pick (b := false) rfl rfl) gn rfl ?_
          refine wl_v 20 rfl (v_assign rfl) gn rfl ?_
          refine w_end 21 rfl ?_
          refine g_retR (c := trellisref8_Sound_c15) [.bool false] rfl Tryd.func22 rfl (.tmp rfl (.nil)) fun wr hLr => ?_
          have hMr : B.Loc w wr [] [St w []] := hLr.pick (rest := [.box gb2 27 [.int .i64 x1.kind, .string x1.text, .int .i64 x1.n, .int .i64 x1.at_]]) (perm_of_idx [] [0] rfl rfl (by kernel_rfl)) (sels [1] rfl)
          have hMi : ∀ e ∈ ([] : List Ent), e ∈ ([.box gb2 27 [.int .i64 x1.kind, .string x1.text, .int .i64 x1.n, .int .i64 x1.at_]] : List Ent) := sels [] rfl
          show trellisref8_Sound_R w F  r (.returned (packV [.bool false])) wr
          rw [h]
          exact ⟨rfl, hMr⟩
        · have h := if_neg' hp16 h
          refine w_bool 25 rfl ((nt (bf hp16))) ?_
          refine wl_v 14 rfl (v_fldB fo_27_1 rfl) (gy 25 rfl rfl) rfl ?_
          refine wl_v 15 rfl (v_ldB1 0 ld_9 rfl rfl rfl) (gy 25 rfl rfl) rfl ?_
          obtain ⟨r20, hv21, h⟩ := h
          refine wl_s 16 rfl (s_call [.string x1.text, .int .i64 0, .string (⟨#[65, 66, 67, 68, 69, 70, 71, 72, 73, 74, 75, 76, 77, 78, 79, 80, 81, 82, 83, 84, 85, 86, 87, 88, 89, 90, 97, 98, 99, 100, 101, 102, 103, 104, 105, 106, 107, 108, 109, 110, 111, 112, 113, 114, 115, 116, 117, 118, 119, 120, 121, 122, 95, 48, 49, 50, 51, 52, 53, 54, 55, 56, 57]⟩ : ByteArray)] rfl Tryd.func35 rfl rfl rfl fun w17 hL18 => ?_) (gy 25 rfl rfl)
          have hp19 : List.Perm ([.box gb2 27 [.int .i64 x1.kind, .string x1.text, .int .i64 x1.n, .int .i64 x1.at_]] : List Ent) (([] : List Ent) ++ ([.box gb2 27 [.int .i64 x1.kind, .string x1.text, .int .i64 x1.n, .int .i64 x1.at_]] : List Ent)) := perm_of_idx [] [0] rfl rfl (by kernel_rfl)
          refine Calls.mono (trellisref8_run_calls w17 (Fl ([] : List Snap)) x1.text 0 (⟨#[65, 66, 67, 68, 69, 70, 71, 72, 73, 74, 75, 76, 77, 78, 79, 80, 81, 82, 83, 84, 85, 86, 87, 88, 89, 90, 97, 98, 99, 100, 101, 102, 103, 104, 105, 106, 107, 108, 109, 110, 111, 112, 113, 114, 115, 116, 117, 118, 119, 120, 121, 122, 95, 48, 49, 50, 51, 52, 53, 54, 55, 56, 57]⟩ : ByteArray) (hL18.hFl (Sl := ([] : List Snap)) hp19 (sels [] rfl)) (hL18.into hp19 (Fl ([] : List Snap))) r20 hv21) ?_
          rintro _ w22 ⟨rfl, hM23⟩
          have hL24 := hL18.call hp19 hM23
          refine ⟨_, _, _, rfl, hL24, ?_⟩
          refine wl_v 17 rfl (v_move rfl) (gy 25 rfl rfl) rfl ?_
          refine wl_v 18 rfl (v_bin rfl rfl rfl) (gy 25 rfl rfl) rfl ?_
          refine wl_v 19 rfl (v_pick (b := true) rfl rfl) gn rfl ?_
          refine wl_v 20 rfl (v_assign rfl) gn rfl ?_
          refine w_end 21 rfl ?_
          refine g_retR (c := trellisref8_Sound_c15) [.bool (r20 == (x1.text.size : Int))] rfl Tryd.func22 rfl (.tmp rfl (.nil)) fun wr hLr => ?_
          have hMr : B.Loc w wr [] [St w []] := hLr.pick (rest := [.box gb2 27 [.int .i64 x1.kind, .string x1.text, .int .i64 x1.n, .int .i64 x1.at_]]) (perm_of_idx [] [0] rfl rfl (by kernel_rfl)) (sels [1] rfl)
          have hMi : ∀ e ∈ ([] : List Ent), e ∈ ([.box gb2 27 [.int .i64 x1.kind, .string x1.text, .int .i64 x1.n, .int .i64 x1.at_]] : List Ent) := sels [] rfl
          show trellisref8_Sound_R w F  r (.returned (packV [.bool (r20 == (x1.text.size : Int))])) wr
          rw [h]
          exact ⟨rfl, hMr⟩
      · have h := if_neg' hp6 h
        refine w_bool 18 rfl ((decide_eq_false hp6)) ?_
        refine wl_pass 7 rfl (ps 18 rfl rfl rfl) ?_
        refine wl_pass 8 rfl (ps 18 rfl rfl rfl) ?_
        refine wl_pass 9 rfl (ps 18 rfl rfl rfl) ?_
        refine wl_pass 10 rfl (ps 18 rfl rfl rfl) ?_
        refine wl_pass 11 rfl (ps 18 rfl rfl rfl) ?_
        refine wl_v 12 rfl (v_pick (b := false) rfl rfl) gn rfl ?_
        refine wl_v 13 rfl (v_move rfl) gn rfl ?_
        refine wl_pass 14 rfl (ps 25 rfl rfl rfl) ?_
        refine wl_pass 15 rfl (ps 25 rfl rfl rfl) ?_
        refine wl_pass 16 rfl (ps 25 rfl rfl rfl) ?_
        refine wl_pass 17 rfl (ps 25 rfl rfl rfl) ?_
        refine wl_pass 18 rfl (ps 25 rfl rfl rfl) ?_
        refine wl_v 19 rfl (v_pick (b := false) rfl rfl) gn rfl ?_
        refine wl_v 20 rfl (v_assign rfl) gn rfl ?_
        refine w_end 21 rfl ?_
        refine g_retR (c := trellisref8_Sound_c15) [.bool false] rfl Tryd.func22 rfl (.tmp rfl (.nil)) fun wr hLr => ?_
        have hMr : B.Loc w wr [] [St w []] := hLr.pick (rest := [.box gb2 27 [.int .i64 x1.kind, .string x1.text, .int .i64 x1.n, .int .i64 x1.at_]]) (perm_of_idx [] [0] rfl rfl (by kernel_rfl)) (sels [1] rfl)
        have hMi : ∀ e ∈ ([] : List Ent), e ∈ ([.box gb2 27 [.int .i64 x1.kind, .string x1.text, .int .i64 x1.n, .int .i64 x1.at_]] : List Ent) := sels [] rfl
        show trellisref8_Sound_R w F  r (.returned (packV [.bool false])) wr
        rw [h]
        exact ⟨rfl, hMr⟩
    · have h := if_neg' hp5 h
      refine w_bool 14 rfl ((decide_eq_false hp5)) ?_
      refine wl_pass 3 rfl (ps 14 rfl rfl rfl) ?_
      refine wl_pass 4 rfl (ps 14 rfl rfl rfl) ?_
      refine wl_v 5 rfl (v_pick (b := false) rfl rfl) gn rfl ?_
      refine wl_v 6 rfl (v_move rfl) gn rfl ?_
      refine wl_pass 7 rfl (ps 18 rfl rfl rfl) ?_
      refine wl_pass 8 rfl (ps 18 rfl rfl rfl) ?_
      refine wl_pass 9 rfl (ps 18 rfl rfl rfl) ?_
      refine wl_pass 10 rfl (ps 18 rfl rfl rfl) ?_
      refine wl_pass 11 rfl (ps 18 rfl rfl rfl) ?_
      refine wl_v 12 rfl (v_pick (b := false) rfl rfl) gn rfl ?_
      refine wl_v 13 rfl (v_move rfl) gn rfl ?_
      refine wl_pass 14 rfl (ps 25 rfl rfl rfl) ?_
      refine wl_pass 15 rfl (ps 25 rfl rfl rfl) ?_
      refine wl_pass 16 rfl (ps 25 rfl rfl rfl) ?_
      refine wl_pass 17 rfl (ps 25 rfl rfl rfl) ?_
      refine wl_pass 18 rfl (ps 25 rfl rfl rfl) ?_
      refine wl_v 19 rfl (v_pick (b := false) rfl rfl) gn rfl ?_
      refine wl_v 20 rfl (v_assign rfl) gn rfl ?_
      refine w_end 21 rfl ?_
      refine g_retR (c := trellisref8_Sound_c15) [.bool false] rfl Tryd.func22 rfl (.tmp rfl (.nil)) fun wr hLr => ?_
      have hMr : B.Loc w wr [] [St w []] := hLr.pick (rest := [.box gb2 27 [.int .i64 x1.kind, .string x1.text, .int .i64 x1.n, .int .i64 x1.at_]]) (perm_of_idx [] [0] rfl rfl (by kernel_rfl)) (sels [1] rfl)
      have hMi : ∀ e ∈ ([] : List Ent), e ∈ ([.box gb2 27 [.int .i64 x1.kind, .string x1.text, .int .i64 x1.n, .int .i64 x1.at_]] : List Ent) := sels [] rfl
      show trellisref8_Sound_R w F  r (.returned (packV [.bool false])) wr
      rw [h]
      exact ⟨rfl, hMr⟩
  · have h := if_neg' hp4 h
    refine g_false (c := trellisref8_Sound_c9) rfl _ rfl ((nei hp4)) ?_
    refine g_seq (c := trellisref8_Sound_c11) rfl ?_
    refine g_region (c := trellisref8_Sound_c16) rfl rfl ?_
    refine wl_v 0 rfl (v_bin rfl rfl rfl) gn rfl ?_
    refine wl_v 1 rfl (v_assign rfl) gn rfl ?_
    refine w_end 2 rfl ?_
    by_cases hp25 : x1.kind = 2
    · have h := if_pos' hp25 h
      refine g_true (c := trellisref8_Sound_c17) rfl _ rfl ((eqi hp25)) ?_
      refine g_seq (c := trellisref8_Sound_c18) rfl ?_
      refine g_region (c := trellisref8_Sound_c20) rfl rfl ?_
      refine wl_v 0 rfl (v_assign rfl) gn rfl ?_
      refine w_end 1 rfl ?_
      refine g_retR (c := trellisref8_Sound_c21) [.bool true] rfl Tryd.func22 rfl (.tmp rfl (.nil)) fun wr hLr => ?_
      have hMr : B.Loc w wr [] [St w []] := hLr.pick (rest := [.box gb2 27 [.int .i64 x1.kind, .string x1.text, .int .i64 x1.n, .int .i64 x1.at_]]) (perm_of_idx [] [0] rfl rfl (by kernel_rfl)) (sels [1] rfl)
      have hMi : ∀ e ∈ ([] : List Ent), e ∈ ([.box gb2 27 [.int .i64 x1.kind, .string x1.text, .int .i64 x1.n, .int .i64 x1.at_]] : List Ent) := sels [] rfl
      show trellisref8_Sound_R w F  r (.returned (packV [.bool true])) wr
      rw [h]
      exact ⟨rfl, hMr⟩
    · have h := if_neg' hp25 h
      refine g_false (c := trellisref8_Sound_c17) rfl _ rfl ((nei hp25)) ?_
      refine g_seq (c := trellisref8_Sound_c19) rfl ?_
      refine g_region (c := trellisref8_Sound_c22) rfl rfl ?_
      refine wl_v 0 rfl (v_bin rfl rfl rfl) gn rfl ?_
      refine wl_v 1 rfl (v_assign rfl) gn rfl ?_
      refine w_end 2 rfl ?_
      by_cases hp26 : x1.kind = 3
      · have h := if_pos' hp26 h
        refine g_true (c := trellisref8_Sound_c23) rfl _ rfl ((eqi hp26)) ?_
        refine g_seq (c := trellisref8_Sound_c24) rfl ?_
        refine g_region (c := trellisref8_Sound_c26) rfl rfl ?_
        refine wl_v 0 rfl (v_fldB fo_27_1 rfl) gn rfl ?_
        refine wl_v 1 rfl (v_ldB1 0 ld_9 rfl rfl rfl) gn rfl ?_
        obtain ⟨hb27, h⟩ := h
        refine wl_v 2 rfl (v_catS rfl rfl hb27) gn rfl ?_
        obtain ⟨hb28, h⟩ := h
        refine wl_v 3 rfl (v_catS rfl rfl hb28) gn rfl ?_
        refine wl_v 4 rfl (v_assign rfl) gn rfl ?_
        refine w_end 5 rfl ?_
        refine g_seq (c := trellisref8_Sound_c27) rfl ?_
        refine g_region (c := trellisref8_Sound_c28) rfl rfl ?_
        refine wl_v 0 rfl (v_move rfl) gn rfl ?_
        obtain ⟨r32, hv33, h⟩ := h
        refine wl_s 1 rfl (s_call [.string (((⟨#[47]⟩ : ByteArray) ++ x1.text) ++ (⟨#[47]⟩ : ByteArray)), .int .i64 0] rfl Tryd.func36 rfl rfl rfl fun w29 hL30 => ?_) gn
        have hp31 : List.Perm ([.box gb2 27 [.int .i64 x1.kind, .string x1.text, .int .i64 x1.n, .int .i64 x1.at_]] : List Ent) (([] : List Ent) ++ ([.box gb2 27 [.int .i64 x1.kind, .string x1.text, .int .i64 x1.n, .int .i64 x1.at_]] : List Ent)) := perm_of_idx [] [0] rfl rfl (by kernel_rfl)
        refine Calls.mono (trellisref8_regex_calls w29 (Fl ([] : List Snap)) (((⟨#[47]⟩ : ByteArray) ++ x1.text) ++ (⟨#[47]⟩ : ByteArray)) 0 (hL30.hFl (Sl := ([] : List Snap)) hp31 (sels [] rfl)) (hL30.into hp31 (Fl ([] : List Snap))) r32 hv33) ?_
        rintro _ w34 ⟨rfl, hM35⟩
        have hL36 := hL30.call hp31 hM35
        refine ⟨_, _, _, rfl, hL36, ?_⟩
        refine wl_v 2 rfl (v_move rfl) gn rfl ?_
        refine wl_v 3 rfl (v_lenS un_9 rfl) gn rfl ?_
        refine wl_v 4 rfl (v_bin rfl rfl rfl) gn rfl ?_
        refine wl_v 5 rfl (v_assign rfl) gn rfl ?_
        refine w_end 6 rfl ?_
        refine g_retR (c := trellisref8_Sound_c29) [.bool (r32 == ((((⟨#[47]⟩ : ByteArray) ++ x1.text) ++ (⟨#[47]⟩ : ByteArray)).size : Int))] rfl Tryd.func22 rfl (.tmp rfl (.nil)) fun wr hLr => ?_
        have hMr : B.Loc w wr [] [St w []] := hLr.pick (rest := [.box gb2 27 [.int .i64 x1.kind, .string x1.text, .int .i64 x1.n, .int .i64 x1.at_]]) (perm_of_idx [] [0] rfl rfl (by kernel_rfl)) (sels [1] rfl)
        have hMi : ∀ e ∈ ([] : List Ent), e ∈ ([.box gb2 27 [.int .i64 x1.kind, .string x1.text, .int .i64 x1.n, .int .i64 x1.at_]] : List Ent) := sels [] rfl
        show trellisref8_Sound_R w F  r (.returned (packV [.bool (r32 == ((((⟨#[47]⟩ : ByteArray) ++ x1.text) ++ (⟨#[47]⟩ : ByteArray)).size : Int))])) wr
        rw [h]
        exact ⟨rfl, hMr⟩
      · have h := if_neg' hp26 h
        refine g_false (c := trellisref8_Sound_c23) rfl _ rfl ((nei hp26)) ?_
        refine g_seq (c := trellisref8_Sound_c25) rfl ?_
        refine g_region (c := trellisref8_Sound_c30) rfl rfl ?_
        refine wl_v 0 rfl (v_bin rfl rfl rfl) gn rfl ?_
        refine wl_v 1 rfl (v_assign rfl) gn rfl ?_
        refine w_end 2 rfl ?_
        by_cases hp37 : x1.kind = 4
        · have h := if_pos' hp37 h
          refine g_true (c := trellisref8_Sound_c31) rfl _ rfl ((eqi hp37)) ?_
          refine g_seq (c := trellisref8_Sound_c32) rfl ?_
          refine g_region (c := trellisref8_Sound_c34) rfl rfl ?_
          refine wl_v 0 rfl (v_fldB fo_27_2 rfl) gn rfl ?_
          refine wl_v 1 rfl (v_ldB1 0 ld_3 rfl rfl rfl) gn rfl ?_
          refine wl_v 2 rfl (v_bin rfl rfl rfl) gn rfl ?_
          refine wl_v 3 rfl (v_move rfl) gn rfl ?_
          by_cases hp38 : x1.n ≥ 0
          · have h := if_pos' hp38 h
            refine w_bool 50 rfl ((decide_eq_true hp38)) ?_
            refine wl_v 4 rfl (v_fldB fo_27_2 rfl) (gy 50 rfl rfl) rfl ?_
            refine wl_v 5 rfl (v_ldB1 0 ld_3 rfl rfl rfl) (gy 50 rfl rfl) rfl ?_
            refine wl_v 6 rfl (v_bin rfl rfl rfl) (gy 50 rfl rfl) rfl ?_
            refine wl_v 7 rfl (v_pick (b := true) rfl rfl) gn rfl ?_
            refine wl_v 8 rfl (v_assign rfl) gn rfl ?_
            refine w_end 9 rfl ?_
            refine g_retR (c := trellisref8_Sound_c35) [.bool (decide (x1.n ≤ 65535))] rfl Tryd.func22 rfl (.tmp rfl (.nil)) fun wr hLr => ?_
            have hMr : B.Loc w wr [] [St w []] := hLr.pick (rest := [.box gb2 27 [.int .i64 x1.kind, .string x1.text, .int .i64 x1.n, .int .i64 x1.at_]]) (perm_of_idx [] [0] rfl rfl (by kernel_rfl)) (sels [1] rfl)
            have hMi : ∀ e ∈ ([] : List Ent), e ∈ ([.box gb2 27 [.int .i64 x1.kind, .string x1.text, .int .i64 x1.n, .int .i64 x1.at_]] : List Ent) := sels [] rfl
            show trellisref8_Sound_R w F  r (.returned (packV [.bool (decide (x1.n ≤ 65535))])) wr
            rw [h]
            exact ⟨rfl, hMr⟩
          · have h := if_neg' hp38 h
            refine w_bool 50 rfl ((decide_eq_false hp38)) ?_
            refine wl_pass 4 rfl (ps 50 rfl rfl rfl) ?_
            refine wl_pass 5 rfl (ps 50 rfl rfl rfl) ?_
            refine wl_pass 6 rfl (ps 50 rfl rfl rfl) ?_
            refine wl_v 7 rfl (v_pick (b := false) rfl rfl) gn rfl ?_
            refine wl_v 8 rfl (v_assign rfl) gn rfl ?_
            refine w_end 9 rfl ?_
            refine g_retR (c := trellisref8_Sound_c35) [.bool false] rfl Tryd.func22 rfl (.tmp rfl (.nil)) fun wr hLr => ?_
            have hMr : B.Loc w wr [] [St w []] := hLr.pick (rest := [.box gb2 27 [.int .i64 x1.kind, .string x1.text, .int .i64 x1.n, .int .i64 x1.at_]]) (perm_of_idx [] [0] rfl rfl (by kernel_rfl)) (sels [1] rfl)
            have hMi : ∀ e ∈ ([] : List Ent), e ∈ ([.box gb2 27 [.int .i64 x1.kind, .string x1.text, .int .i64 x1.n, .int .i64 x1.at_]] : List Ent) := sels [] rfl
            show trellisref8_Sound_R w F  r (.returned (packV [.bool false])) wr
            rw [h]
            exact ⟨rfl, hMr⟩
        · have h := if_neg' hp37 h
          refine g_false (c := trellisref8_Sound_c31) rfl _ rfl ((nei hp37)) ?_
          refine g_seq (c := trellisref8_Sound_c33) rfl ?_
          refine g_region (c := trellisref8_Sound_c36) rfl rfl ?_
          refine wl_v 0 rfl (v_bin rfl rfl rfl) gn rfl ?_
          refine wl_v 1 rfl (v_assign rfl) gn rfl ?_
          refine w_end 2 rfl ?_
          by_cases hp39 : x1.kind = 5
          · have h := if_pos' hp39 h
            refine g_true (c := trellisref8_Sound_c37) rfl _ rfl ((eqi hp39)) ?_
            refine g_seq (c := trellisref8_Sound_c38) rfl ?_
            refine g_region (c := trellisref8_Sound_c40) rfl rfl ?_
            refine wl_v 0 rfl (v_fldB fo_27_1 rfl) gn rfl ?_
            refine wl_v 1 rfl (v_ldB1 0 ld_9 rfl rfl rfl) gn rfl ?_
            refine wl_v 2 rfl (v_lenS un_9 rfl) gn rfl ?_
            refine wl_v 3 rfl (v_bin rfl rfl rfl) gn rfl ?_
            refine wl_v 4 rfl (v_move rfl) gn rfl ?_
            by_cases hp40 : (x1.text.size : Int) = 1
            · have h := if_pos' hp40 h
              refine w_bool 61 rfl ((eqi hp40)) ?_
              refine wl_v 5 rfl (v_fldB fo_27_1 rfl) (gy 61 rfl rfl) rfl ?_
              refine wl_v 6 rfl (v_ldB1 0 ld_9 rfl rfl rfl) (gy 61 rfl rfl) rfl ?_
              obtain ⟨hb41, h⟩ := h
              refine wl_v 7 rfl (v_indexS un_9 rfl rfl hb41) (gy 61 rfl rfl) rfl ?_
              obtain ⟨r45, hv46, h⟩ := h
              refine wl_s 8 rfl (s_call [.string (⟨#[123, 125, 40, 41, 124, 42, 43, 63, 58, 59, 44, 61, 64]⟩ : ByteArray), .int .u8 (bt x1.text 0)] rfl Tryd.func34 rfl rfl rfl fun w42 hL43 => ?_) (gy 61 rfl rfl)
              have hp44 : List.Perm ([.box gb2 27 [.int .i64 x1.kind, .string x1.text, .int .i64 x1.n, .int .i64 x1.at_]] : List Ent) (([] : List Ent) ++ ([.box gb2 27 [.int .i64 x1.kind, .string x1.text, .int .i64 x1.n, .int .i64 x1.at_]] : List Ent)) := perm_of_idx [] [0] rfl rfl (by kernel_rfl)
              refine Calls.mono (trellisref8_in_calls w42 (Fl ([] : List Snap)) (⟨#[123, 125, 40, 41, 124, 42, 43, 63, 58, 59, 44, 61, 64]⟩ : ByteArray) (bt x1.text 0) (hL43.hFl (Sl := ([] : List Snap)) hp44 (sels [] rfl)) (hL43.into hp44 (Fl ([] : List Snap))) r45 hv46) ?_
              rintro _ w47 ⟨rfl, hM48⟩
              have hL49 := hL43.call hp44 hM48
              refine ⟨_, _, _, rfl, hL49, ?_⟩
              refine wl_v 9 rfl (v_pick (b := true) rfl rfl) gn rfl ?_
              refine wl_v 10 rfl (v_assign rfl) gn rfl ?_
              refine w_end 11 rfl ?_
              refine g_retR (c := trellisref8_Sound_c41) [.bool r45] rfl Tryd.func22 rfl (.tmp rfl (.nil)) fun wr hLr => ?_
              have hMr : B.Loc w wr [] [St w []] := hLr.pick (rest := [.box gb2 27 [.int .i64 x1.kind, .string x1.text, .int .i64 x1.n, .int .i64 x1.at_]]) (perm_of_idx [] [0] rfl rfl (by kernel_rfl)) (sels [1] rfl)
              have hMi : ∀ e ∈ ([] : List Ent), e ∈ ([.box gb2 27 [.int .i64 x1.kind, .string x1.text, .int .i64 x1.n, .int .i64 x1.at_]] : List Ent) := sels [] rfl
              show trellisref8_Sound_R w F  r (.returned (packV [.bool r45])) wr
              rw [h]
              exact ⟨rfl, hMr⟩
            · have h := if_neg' hp40 h
              refine w_bool 61 rfl ((nei hp40)) ?_
              refine wl_pass 5 rfl (ps 61 rfl rfl rfl) ?_
              refine wl_pass 6 rfl (ps 61 rfl rfl rfl) ?_
              refine wl_pass 7 rfl (ps 61 rfl rfl rfl) ?_
              refine wl_pass 8 rfl (ps 61 rfl rfl rfl) ?_
              refine wl_v 9 rfl (v_pick (b := false) rfl rfl) gn rfl ?_
              refine wl_v 10 rfl (v_assign rfl) gn rfl ?_
              refine w_end 11 rfl ?_
              refine g_retR (c := trellisref8_Sound_c41) [.bool false] rfl Tryd.func22 rfl (.tmp rfl (.nil)) fun wr hLr => ?_
              have hMr : B.Loc w wr [] [St w []] := hLr.pick (rest := [.box gb2 27 [.int .i64 x1.kind, .string x1.text, .int .i64 x1.n, .int .i64 x1.at_]]) (perm_of_idx [] [0] rfl rfl (by kernel_rfl)) (sels [1] rfl)
              have hMi : ∀ e ∈ ([] : List Ent), e ∈ ([.box gb2 27 [.int .i64 x1.kind, .string x1.text, .int .i64 x1.n, .int .i64 x1.at_]] : List Ent) := sels [] rfl
              show trellisref8_Sound_R w F  r (.returned (packV [.bool false])) wr
              rw [h]
              exact ⟨rfl, hMr⟩
          · have h := if_neg' hp39 h
            refine g_false (c := trellisref8_Sound_c37) rfl _ rfl ((nei hp39)) ?_
            refine g_skip (c := trellisref8_Sound_c39) rfl ?_
            refine g_inBlock ?_
            refine g_seq (c := trellisref8_Sound_c4) rfl ?_
            refine g_region (c := trellisref8_Sound_c42) rfl rfl ?_
            refine wl_v 0 rfl (v_assign rfl) gn rfl ?_
            refine w_end 1 rfl ?_
            refine g_retR (c := trellisref8_Sound_c43) [.bool false] rfl Tryd.func22 rfl (.tmp rfl (.nil)) fun wr hLr => ?_
            have hMr : B.Loc w wr [] [St w []] := hLr.pick (rest := [.box gb2 27 [.int .i64 x1.kind, .string x1.text, .int .i64 x1.n, .int .i64 x1.at_]]) (perm_of_idx [] [0] rfl rfl (by kernel_rfl)) (sels [1] rfl)
            have hMi : ∀ e ∈ ([] : List Ent), e ∈ ([.box gb2 27 [.int .i64 x1.kind, .string x1.text, .int .i64 x1.n, .int .i64 x1.at_]] : List Ent) := sels [] rfl
            show trellisref8_Sound_R w F  r (.returned (packV [.bool false])) wr
            rw [h]
            exact ⟨rfl, hMr⟩
noncomputable abbrev trellisref8_byteOf_c0 : Code := bodyOf Tryd.f23
noncomputable abbrev trellisref8_byteOf_c1 : Code := Code.fst trellisref8_byteOf_c0
noncomputable abbrev trellisref8_byteOf_c2 : Code := Code.snd trellisref8_byteOf_c0
noncomputable abbrev trellisref8_byteOf_c3 : Code := Code.fst trellisref8_byteOf_c2
noncomputable abbrev trellisref8_byteOf_c4 : Code := Code.snd trellisref8_byteOf_c2
noncomputable abbrev trellisref8_byteOf_c5 : Code := Code.fst trellisref8_byteOf_c3
noncomputable abbrev trellisref8_byteOf_c6 : Code := Code.snd trellisref8_byteOf_c3
noncomputable abbrev trellisref8_byteOf_c7 : Code := Code.fst trellisref8_byteOf_c6
noncomputable abbrev trellisref8_byteOf_c8 : Code := Code.fst trellisref8_byteOf_c7
noncomputable abbrev trellisref8_byteOf_c9 : Code := Code.snd trellisref8_byteOf_c7
noncomputable abbrev trellisref8_byteOf_c10 : Code := Code.fst trellisref8_byteOf_c9
noncomputable abbrev trellisref8_byteOf_c11 : Code := Code.snd trellisref8_byteOf_c9
noncomputable abbrev trellisref8_byteOf_c12 : Code := Code.fst trellisref8_byteOf_c10
noncomputable abbrev trellisref8_byteOf_c13 : Code := Code.snd trellisref8_byteOf_c10
noncomputable abbrev trellisref8_byteOf_c14 : Code := Code.fst trellisref8_byteOf_c11
noncomputable abbrev trellisref8_byteOf_c15 : Code := Code.snd trellisref8_byteOf_c11
noncomputable abbrev trellisref8_byteOf_c16 : Code := Code.fst trellisref8_byteOf_c15
noncomputable abbrev trellisref8_byteOf_c17 : Code := Code.snd trellisref8_byteOf_c15
noncomputable abbrev trellisref8_byteOf_c18 : Code := Code.fst trellisref8_byteOf_c16
noncomputable abbrev trellisref8_byteOf_c19 : Code := Code.snd trellisref8_byteOf_c16
noncomputable abbrev trellisref8_byteOf_c20 : Code := Code.fst trellisref8_byteOf_c17
noncomputable abbrev trellisref8_byteOf_c21 : Code := Code.snd trellisref8_byteOf_c17
noncomputable abbrev trellisref8_byteOf_c22 : Code := Code.fst trellisref8_byteOf_c21
noncomputable abbrev trellisref8_byteOf_c23 : Code := Code.snd trellisref8_byteOf_c21
noncomputable abbrev trellisref8_byteOf_c24 : Code := Code.fst trellisref8_byteOf_c22
noncomputable abbrev trellisref8_byteOf_c25 : Code := Code.snd trellisref8_byteOf_c22
noncomputable abbrev trellisref8_byteOf_c26 : Code := Code.fst trellisref8_byteOf_c23
noncomputable abbrev trellisref8_byteOf_c27 : Code := Code.snd trellisref8_byteOf_c23
noncomputable abbrev trellisref8_byteOf_c28 : Code := Code.fst trellisref8_byteOf_c27
noncomputable abbrev trellisref8_byteOf_c29 : Code := Code.snd trellisref8_byteOf_c27
noncomputable abbrev trellisref8_byteOf_c30 : Code := Code.fst trellisref8_byteOf_c28
noncomputable abbrev trellisref8_byteOf_c31 : Code := Code.snd trellisref8_byteOf_c28
noncomputable abbrev trellisref8_byteOf_c32 : Code := Code.fst trellisref8_byteOf_c29
noncomputable abbrev trellisref8_byteOf_c33 : Code := Code.snd trellisref8_byteOf_c29
noncomputable abbrev trellisref8_byteOf_c34 : Code := Code.fst trellisref8_byteOf_c33
noncomputable abbrev trellisref8_byteOf_c35 : Code := Code.snd trellisref8_byteOf_c33
noncomputable abbrev trellisref8_byteOf_c36 : Code := Code.fst trellisref8_byteOf_c34
noncomputable abbrev trellisref8_byteOf_c37 : Code := Code.snd trellisref8_byteOf_c34
noncomputable abbrev trellisref8_byteOf_c38 : Code := Code.fst trellisref8_byteOf_c4
noncomputable abbrev trellisref8_byteOf_c39 : Code := Code.snd trellisref8_byteOf_c4
noncomputable abbrev trellisref8_byteOf_c40 : Code := Code.fst trellisref8_byteOf_c38
noncomputable abbrev trellisref8_byteOf_c41 : Code := Code.snd trellisref8_byteOf_c38
noncomputable abbrev trellisref8_byteOf_c42 : Code := Code.fst trellisref8_byteOf_c41
noncomputable abbrev trellisref8_byteOf_c43 : Code := Code.snd trellisref8_byteOf_c41
noncomputable abbrev trellisref8_byteOf_c44 : Code := Code.fst trellisref8_byteOf_c42
noncomputable abbrev trellisref8_byteOf_c45 : Code := Code.snd trellisref8_byteOf_c42
noncomputable abbrev trellisref8_byteOf_c46 : Code := Code.fst trellisref8_byteOf_c39
noncomputable abbrev trellisref8_byteOf_c47 : Code := Code.snd trellisref8_byteOf_c39
abbrev trellisref8_byteOf_R (w : World) (F : Nat → Prop) (r : ByteArray) : Ending → World → Prop := fun e w' => e = .returned (.string r) ∧ B.Loc w w' [] [St w []]
noncomputable abbrev trellisref8_byteOf_C (w : World) (F : Nat → Prop) (r : ByteArray) : Cx := ⟨Tryd.prog, 23, Tryd.f23, 37, trellisref8_byteOf_R w F  r, w⟩
theorem trellisref8_byteOf_calls (w : World) (F : Nat → Prop) (x1 : Int) (hF : ∀ b, F b → b < w.heap.size ∧ ∀ o ∈ ([] : List (List Nat)), b ∉ o) (hL0 : B.Loc w w [] [Sm w.heap.size F w [], St w []]) (r : ByteArray) (h : trellisref8_byteOf x1 r) : Calls Tryd.prog 23 #[.int .u8 x1] w (trellisref8_byteOf_R w F  r) := by
  unfold trellisref8_byteOf at h
  refine calls_of_Loc (vs := [.int .u8 x1]) 37 Tryd.func23 rfl Tryd.ntmps23 rfl hL0 ?_
  show G (trellisref8_byteOf_C w F r) _ _ _ _
  refine g_seq (c := trellisref8_byteOf_c0) rfl ?_
  refine g_region (c := trellisref8_byteOf_c1) rfl rfl ?_
  refine wl_v 0 rfl (v_assign rfl) gn rfl ?_
  refine w_end 1 rfl ?_
  refine g_seq (c := trellisref8_byteOf_c2) rfl ?_
  refine g_seq (c := trellisref8_byteOf_c3) rfl ?_
  refine g_region (c := trellisref8_byteOf_c5) rfl rfl ?_
  refine wl_v 0 rfl (v_move rfl) gn rfl ?_
  refine w_end 1 rfl ?_
  refine g_block (c := trellisref8_byteOf_c6) rfl ?_
  refine g_seq (c := trellisref8_byteOf_c7) rfl ?_
  refine g_region (c := trellisref8_byteOf_c8) rfl rfl ?_
  refine wl_v 0 rfl (v_bin rfl rfl rfl) gn rfl ?_
  refine wl_v 1 rfl (v_assign rfl) gn rfl ?_
  refine w_end 2 rfl ?_
  by_cases hp2 : x1 = 34
  · have h := if_pos' hp2 h
    refine g_true (c := trellisref8_byteOf_c9) rfl _ rfl ((eqi hp2)) ?_
    refine g_seq (c := trellisref8_byteOf_c10) rfl ?_
    refine g_region (c := trellisref8_byteOf_c12) rfl rfl ?_
    refine wl_v 0 rfl (v_assign rfl) gn rfl ?_
    refine w_end 1 rfl ?_
    refine g_retR (c := trellisref8_byteOf_c13) [.string (⟨#[92, 34]⟩ : ByteArray)] rfl Tryd.func23 rfl (.tmp rfl (.nil)) fun wr hLr => ?_
    have hMr : B.Loc w wr [] [St w []] := hLr.pick (rest := []) (perm_of_idx [] [] rfl rfl (by kernel_rfl)) (sels [1] rfl)
    have hMi : ∀ e ∈ ([] : List Ent), e ∈ ([] : List Ent) := sels [] rfl
    show trellisref8_byteOf_R w F  r (.returned (packV [.string (⟨#[92, 34]⟩ : ByteArray)])) wr
    rw [h]
    exact ⟨rfl, hMr⟩
  · have h := if_neg' hp2 h
    refine g_false (c := trellisref8_byteOf_c9) rfl _ rfl ((nei hp2)) ?_
    refine g_seq (c := trellisref8_byteOf_c11) rfl ?_
    refine g_region (c := trellisref8_byteOf_c14) rfl rfl ?_
    refine wl_v 0 rfl (v_bin rfl rfl rfl) gn rfl ?_
    refine wl_v 1 rfl (v_assign rfl) gn rfl ?_
    refine w_end 2 rfl ?_
    by_cases hp3 : x1 = 92
    · have h := if_pos' hp3 h
      refine g_true (c := trellisref8_byteOf_c15) rfl _ rfl ((eqi hp3)) ?_
      refine g_seq (c := trellisref8_byteOf_c16) rfl ?_
      refine g_region (c := trellisref8_byteOf_c18) rfl rfl ?_
      refine wl_v 0 rfl (v_assign rfl) gn rfl ?_
      refine w_end 1 rfl ?_
      refine g_retR (c := trellisref8_byteOf_c19) [.string (⟨#[92, 92]⟩ : ByteArray)] rfl Tryd.func23 rfl (.tmp rfl (.nil)) fun wr hLr => ?_
      have hMr : B.Loc w wr [] [St w []] := hLr.pick (rest := []) (perm_of_idx [] [] rfl rfl (by kernel_rfl)) (sels [1] rfl)
      have hMi : ∀ e ∈ ([] : List Ent), e ∈ ([] : List Ent) := sels [] rfl
      show trellisref8_byteOf_R w F  r (.returned (packV [.string (⟨#[92, 92]⟩ : ByteArray)])) wr
      rw [h]
      exact ⟨rfl, hMr⟩
    · have h := if_neg' hp3 h
      refine g_false (c := trellisref8_byteOf_c15) rfl _ rfl ((nei hp3)) ?_
      refine g_seq (c := trellisref8_byteOf_c17) rfl ?_
      refine g_region (c := trellisref8_byteOf_c20) rfl rfl ?_
      refine wl_v 0 rfl (v_bin rfl rfl rfl) gn rfl ?_
      refine wl_v 1 rfl (v_assign rfl) gn rfl ?_
      refine w_end 2 rfl ?_
      by_cases hp4 : x1 = 10
      · have h := if_pos' hp4 h
        refine g_true (c := trellisref8_byteOf_c21) rfl _ rfl ((eqi hp4)) ?_
        refine g_seq (c := trellisref8_byteOf_c22) rfl ?_
        refine g_region (c := trellisref8_byteOf_c24) rfl rfl ?_
        refine wl_v 0 rfl (v_assign rfl) gn rfl ?_
        refine w_end 1 rfl ?_
        refine g_retR (c := trellisref8_byteOf_c25) [.string (⟨#[92, 110]⟩ : ByteArray)] rfl Tryd.func23 rfl (.tmp rfl (.nil)) fun wr hLr => ?_
        have hMr : B.Loc w wr [] [St w []] := hLr.pick (rest := []) (perm_of_idx [] [] rfl rfl (by kernel_rfl)) (sels [1] rfl)
        have hMi : ∀ e ∈ ([] : List Ent), e ∈ ([] : List Ent) := sels [] rfl
        show trellisref8_byteOf_R w F  r (.returned (packV [.string (⟨#[92, 110]⟩ : ByteArray)])) wr
        rw [h]
        exact ⟨rfl, hMr⟩
      · have h := if_neg' hp4 h
        refine g_false (c := trellisref8_byteOf_c21) rfl _ rfl ((nei hp4)) ?_
        refine g_seq (c := trellisref8_byteOf_c23) rfl ?_
        refine g_region (c := trellisref8_byteOf_c26) rfl rfl ?_
        refine wl_v 0 rfl (v_bin rfl rfl rfl) gn rfl ?_
        refine wl_v 1 rfl (v_assign rfl) gn rfl ?_
        refine w_end 2 rfl ?_
        by_cases hp5 : x1 = 9
        · have h := if_pos' hp5 h
          refine g_true (c := trellisref8_byteOf_c27) rfl _ rfl ((eqi hp5)) ?_
          refine g_seq (c := trellisref8_byteOf_c28) rfl ?_
          refine g_region (c := trellisref8_byteOf_c30) rfl rfl ?_
          refine wl_v 0 rfl (v_assign rfl) gn rfl ?_
          refine w_end 1 rfl ?_
          refine g_retR (c := trellisref8_byteOf_c31) [.string (⟨#[92, 116]⟩ : ByteArray)] rfl Tryd.func23 rfl (.tmp rfl (.nil)) fun wr hLr => ?_
          have hMr : B.Loc w wr [] [St w []] := hLr.pick (rest := []) (perm_of_idx [] [] rfl rfl (by kernel_rfl)) (sels [1] rfl)
          have hMi : ∀ e ∈ ([] : List Ent), e ∈ ([] : List Ent) := sels [] rfl
          show trellisref8_byteOf_R w F  r (.returned (packV [.string (⟨#[92, 116]⟩ : ByteArray)])) wr
          rw [h]
          exact ⟨rfl, hMr⟩
        · have h := if_neg' hp5 h
          refine g_false (c := trellisref8_byteOf_c27) rfl _ rfl ((nei hp5)) ?_
          refine g_seq (c := trellisref8_byteOf_c29) rfl ?_
          refine g_region (c := trellisref8_byteOf_c32) rfl rfl ?_
          refine wl_v 0 rfl (v_bin rfl rfl rfl) gn rfl ?_
          refine wl_v 1 rfl (v_assign rfl) gn rfl ?_
          refine w_end 2 rfl ?_
          by_cases hp6 : x1 = 13
          · have h := if_pos' hp6 h
            refine g_true (c := trellisref8_byteOf_c33) rfl _ rfl ((eqi hp6)) ?_
            refine g_seq (c := trellisref8_byteOf_c34) rfl ?_
            refine g_region (c := trellisref8_byteOf_c36) rfl rfl ?_
            refine wl_v 0 rfl (v_assign rfl) gn rfl ?_
            refine w_end 1 rfl ?_
            refine g_retR (c := trellisref8_byteOf_c37) [.string (⟨#[92, 114]⟩ : ByteArray)] rfl Tryd.func23 rfl (.tmp rfl (.nil)) fun wr hLr => ?_
            have hMr : B.Loc w wr [] [St w []] := hLr.pick (rest := []) (perm_of_idx [] [] rfl rfl (by kernel_rfl)) (sels [1] rfl)
            have hMi : ∀ e ∈ ([] : List Ent), e ∈ ([] : List Ent) := sels [] rfl
            show trellisref8_byteOf_R w F  r (.returned (packV [.string (⟨#[92, 114]⟩ : ByteArray)])) wr
            rw [h]
            exact ⟨rfl, hMr⟩
          · have h := if_neg' hp6 h
            refine g_false (c := trellisref8_byteOf_c33) rfl _ rfl ((nei hp6)) ?_
            refine g_skip (c := trellisref8_byteOf_c35) rfl ?_
            refine g_inBlock ?_
            refine g_seq (c := trellisref8_byteOf_c4) rfl ?_
            refine g_seq (c := trellisref8_byteOf_c38) rfl ?_
            have j1 : ∀ (x9 : Bool) (h : trellisref8_byteOf_j1 x1 x9 r) , G (trellisref8_byteOf_C w F r) [.code trellisref8_byteOf_c41, .code trellisref8_byteOf_c39] [(0, .int .u8 x1), (19, .bool x9)] [] [Sm w.heap.size F w [], St w []] := by
              intro x9 h
              unfold trellisref8_byteOf_j1 at h
              by_cases hp10 : x9 = true
              · have h := if_pos' hp10 h
                refine g_true (c := trellisref8_byteOf_c41) rfl _ rfl (hp10) ?_
                refine g_seq (c := trellisref8_byteOf_c42) rfl ?_
                obtain ⟨hb11, h⟩ := h
                obtain ⟨hb12, h⟩ := h
                obtain ⟨hb13, h⟩ := h
                obtain ⟨hb14, h⟩ := h
                have hns : Region.noSelect (Code.ops trellisref8_byteOf_c44) = true := by kernel_rfl
                refine g_drawF (c := trellisref8_byteOf_c44) [] [Sm w.heap.size F w [], St w []] [] 15 rfl rfl mix rfl (.slnil) (sels [0, 1] rfl) ?_
                refine wf_v 0 rfl (v_move rfl) gn rfl hns (by kernel_rfl) (by kernel_rfl) rfl rfl ?_
                refine wf_v 1 rfl (v_quo rfl rfl (by decide)) gn rfl hns (by kernel_rfl) (by kernel_rfl) rfl rfl ?_
                refine wf_v 2 rfl (v_move rfl) gn rfl hns (by kernel_rfl) (by kernel_rfl) rfl rfl ?_
                refine wf_v 3 rfl (v_quo rfl rfl (by decide)) gn rfl hns (by kernel_rfl) (by kernel_rfl) rfl rfl ?_
                refine wf_v 4 rfl (v_bin rfl rfl rfl) gn rfl hns (by kernel_rfl) (by kernel_rfl) rfl rfl ?_
                refine wf_v 5 rfl (v_cutS (IntKind.u8.wrap (Int.tdiv x1 16)) (IntKind.u8.wrap ((IntKind.u8.wrap (Int.tdiv x1 16)) + 1)) un_9 rfl (.inr ⟨_, _, rfl, rfl⟩) (.inr ⟨_, _, rfl, rfl⟩) ⟨hb11.1, hb11.2.1⟩ hb11.2.2) gn rfl hns (by kernel_rfl) (by kernel_rfl) rfl rfl ?_
                refine wf_v 6 rfl (v_catS rfl rfl hb12) gn rfl hns (by kernel_rfl) (by kernel_rfl) rfl rfl ?_
                refine wf_v 7 rfl (v_move rfl) gn rfl hns (by kernel_rfl) (by kernel_rfl) rfl rfl ?_
                refine wf_v 8 rfl (v_rem rfl rfl (by decide)) gn rfl hns (by kernel_rfl) (by kernel_rfl) rfl rfl ?_
                refine wf_v 9 rfl (v_move rfl) gn rfl hns (by kernel_rfl) (by kernel_rfl) rfl rfl ?_
                refine wf_v 10 rfl (v_rem rfl rfl (by decide)) gn rfl hns (by kernel_rfl) (by kernel_rfl) rfl rfl ?_
                refine wf_v 11 rfl (v_bin rfl rfl rfl) gn rfl hns (by kernel_rfl) (by kernel_rfl) rfl rfl ?_
                refine wf_v 12 rfl (v_cutS (Int.tmod x1 16) (IntKind.u8.wrap ((Int.tmod x1 16) + 1)) un_9 rfl (.inr ⟨_, _, rfl, rfl⟩) (.inr ⟨_, _, rfl, rfl⟩) ⟨hb13.1, hb13.2.1⟩ hb13.2.2) gn rfl hns (by kernel_rfl) (by kernel_rfl) rfl rfl ?_
                refine wf_v 13 rfl (v_catS rfl rfl hb14) gn rfl hns (by kernel_rfl) (by kernel_rfl) rfl rfl ?_
                refine wf_v 14 rfl (v_assign rfl) gn rfl hns (by kernel_rfl) (by kernel_rfl) rfl rfl ?_
                refine wf_end (by kernel_rfl) ?_
                refine g_retR (c := trellisref8_byteOf_c45) [.string (((⟨#[92, 120]⟩ : ByteArray) ++ ((⟨#[48, 49, 50, 51, 52, 53, 54, 55, 56, 57, 97, 98, 99, 100, 101, 102, 65, 66, 67, 68, 69, 70]⟩ : ByteArray).extract (IntKind.u8.wrap (Int.tdiv x1 16) : Int).toNat (IntKind.u8.wrap ((IntKind.u8.wrap (Int.tdiv x1 16)) + 1) : Int).toNat)) ++ ((⟨#[48, 49, 50, 51, 52, 53, 54, 55, 56, 57, 97, 98, 99, 100, 101, 102, 65, 66, 67, 68, 69, 70]⟩ : ByteArray).extract (Int.tmod x1 16 : Int).toNat (IntKind.u8.wrap ((Int.tmod x1 16) + 1) : Int).toNat))] rfl Tryd.func23 rfl (.tmp rfl (.nil)) fun wr hLr => ?_
                have hMr : B.Loc w wr [] [St w []] := hLr.pick (rest := []) (perm_of_idx [] [] rfl rfl (by kernel_rfl)) (sels [1] rfl)
                have hMi : ∀ e ∈ ([] : List Ent), e ∈ ([] : List Ent) := sels [] rfl
                show trellisref8_byteOf_R w F  r (.returned (packV [.string (((⟨#[92, 120]⟩ : ByteArray) ++ ((⟨#[48, 49, 50, 51, 52, 53, 54, 55, 56, 57, 97, 98, 99, 100, 101, 102, 65, 66, 67, 68, 69, 70]⟩ : ByteArray).extract (IntKind.u8.wrap (Int.tdiv x1 16) : Int).toNat (IntKind.u8.wrap ((IntKind.u8.wrap (Int.tdiv x1 16)) + 1) : Int).toNat)) ++ ((⟨#[48, 49, 50, 51, 52, 53, 54, 55, 56, 57, 97, 98, 99, 100, 101, 102, 65, 66, 67, 68, 69, 70]⟩ : ByteArray).extract (Int.tmod x1 16 : Int).toNat (IntKind.u8.wrap ((Int.tmod x1 16) + 1) : Int).toNat))])) wr
                rw [h]
                exact ⟨rfl, hMr⟩
              · have h := if_neg' hp10 h
                refine g_false (c := trellisref8_byteOf_c41) rfl _ rfl ((bf hp10)) ?_
                refine g_skip (c := trellisref8_byteOf_c43) rfl ?_
                refine g_seq (c := trellisref8_byteOf_c39) rfl ?_
                refine g_region (c := trellisref8_byteOf_c46) rfl rfl ?_
                refine wl_v 0 rfl (v_move rfl) gn rfl ?_
                refine wl_s 1 rfl (s_litO (xs := ([x1] : List Int)) [.int .u8 x1] bs_44_1 rfl (by kernel_rfl) rfl rfl rfl rfl fun gb16 h17 => ?_) gn
                refine wl_v 2 rfl (v_b2s u8_44 un_9 rfl (Src.ownF (hl := (hlI .u8)) (h1 := (hone_int .u8)) 0 rfl h17) h17.hq) gn rfl ?_
                refine wl_v 3 rfl (v_assign rfl) gn rfl ?_
                refine w_end 4 rfl ?_
                refine g_retR (c := trellisref8_byteOf_c47) [.string (ofBs ([x1] : List Int))] rfl Tryd.func23 rfl (.tmp rfl (.nil)) fun wr hLr => ?_
                have hMr : B.Loc w wr [] [St w []] := hLr.pick (rest := [.own (.slice (some ⟨gb16, 0, none⟩) 1 1) 5 1 1 (([x1] : List Int).flatMap (eI .u8))]) (perm_of_idx [] [0] rfl rfl (by kernel_rfl)) (sels [1] rfl)
                have hMi : ∀ e ∈ ([] : List Ent), e ∈ ([.own (.slice (some ⟨gb16, 0, none⟩) 1 1) 5 1 1 (([x1] : List Int).flatMap (eI .u8))] : List Ent) := sels [] rfl
                show trellisref8_byteOf_R w F  r (.returned (packV [.string (ofBs ([x1] : List Int))])) wr
                rw [h]
                exact ⟨rfl, hMr⟩
            refine g_region (c := trellisref8_byteOf_c40) rfl rfl ?_
            refine wl_v 0 rfl (v_move rfl) gn rfl ?_
            refine wl_v 1 rfl (v_bin rfl rfl rfl) gn rfl ?_
            refine wl_v 2 rfl (v_move rfl) gn rfl ?_
            by_cases hp18 : x1 < 32
            · have h := if_pos' hp18 h
              refine w_bool 16 rfl ((decide_eq_true hp18)) ?_
              refine wl_pass 3 rfl (ps 16 rfl rfl rfl) ?_
              refine wl_pass 4 rfl (ps 16 rfl rfl rfl) ?_
              refine wl_v 5 rfl (v_pick (b := true) rfl rfl) gn rfl ?_
              refine w_end 6 rfl ?_
              exact g_go [0, 1] (j1 true h) ⟨rfl, rfl, trivial⟩ (.slnil) rfl
            · have h := if_neg' hp18 h
              refine w_bool 16 rfl ((decide_eq_false hp18)) ?_
              refine wl_v 3 rfl (v_move rfl) (gy 16 rfl rfl) rfl ?_
              refine wl_v 4 rfl (v_bin rfl rfl rfl) (gy 16 rfl rfl) rfl ?_
              refine wl_v 5 rfl (v_pick (b := false) rfl rfl) gn rfl ?_
              refine w_end 6 rfl ?_
              exact g_go [0, 1] (j1 (decide (x1 > 126)) h) ⟨rfl, rfl, trivial⟩ (.slnil) rfl
end Go.Proofs.YtkaejoffnkhbpaaDoor.K
