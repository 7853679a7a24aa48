/- What the machine's calls do, function by function, printed by my own tool. Condition of each: its relation holds of the answer, and what is handed in lies in memory as told. -/
import Derived.Test.YtkaejoffnkhbpaaDoorK3
set_option linter.unusedVariables false
set_option maxRecDepth 100000
set_option maxHeartbeats 4000000
namespace Go.Proofs.YtkaejoffnkhbpaaDoor.K
open Go.Proofs.YtkaejoffnkhbpaaDoor.B Go.Proofs.YtkaejoffnkhbpaaDoor.R Go.RowKit
noncomputable abbrev trellislaw8_WordsApart_c0 : Code := bodyOf Tryd.f6
noncomputable abbrev trellislaw8_WordsApart_c1 : Code := Code.fst trellislaw8_WordsApart_c0
noncomputable abbrev trellislaw8_WordsApart_c2 : Code := Code.snd trellislaw8_WordsApart_c0
noncomputable abbrev trellislaw8_WordsApart_c3 : Code := Code.fst trellislaw8_WordsApart_c2
noncomputable abbrev trellislaw8_WordsApart_c4 : Code := Code.snd trellislaw8_WordsApart_c2
noncomputable abbrev trellislaw8_WordsApart_c5 : Code := Code.fst trellislaw8_WordsApart_c3
noncomputable abbrev trellislaw8_WordsApart_c6 : Code := Code.snd trellislaw8_WordsApart_c3
noncomputable abbrev trellislaw8_WordsApart_c7 : Code := Code.fst trellislaw8_WordsApart_c6
noncomputable abbrev trellislaw8_WordsApart_c8 : Code := Code.snd trellislaw8_WordsApart_c6
noncomputable abbrev trellislaw8_WordsApart_c9 : Code := Code.fst trellislaw8_WordsApart_c4
noncomputable abbrev trellislaw8_WordsApart_c10 : Code := Code.snd trellislaw8_WordsApart_c4
noncomputable abbrev trellislaw8_WordsApart_c11 : Code := Code.fst trellislaw8_WordsApart_c9
noncomputable abbrev trellislaw8_WordsApart_c12 : Code := Code.snd trellislaw8_WordsApart_c9
noncomputable abbrev trellislaw8_WordsApart_c13 : Code := Code.fst trellislaw8_WordsApart_c12
noncomputable abbrev trellislaw8_WordsApart_c14 : Code := Code.snd trellislaw8_WordsApart_c12
noncomputable abbrev trellislaw8_WordsApart_c15 : Code := Code.fst trellislaw8_WordsApart_c13
noncomputable abbrev trellislaw8_WordsApart_c16 : Code := Code.snd trellislaw8_WordsApart_c13
noncomputable abbrev trellislaw8_WordsApart_c17 : Code := Code.fst trellislaw8_WordsApart_c10
noncomputable abbrev trellislaw8_WordsApart_c18 : Code := Code.snd trellislaw8_WordsApart_c10
noncomputable abbrev trellislaw8_WordsApart_c19 : Code := Code.fst trellislaw8_WordsApart_c18
noncomputable abbrev trellislaw8_WordsApart_c20 : Code := Code.snd trellislaw8_WordsApart_c18
noncomputable abbrev trellislaw8_WordsApart_c21 : Code := Code.fst trellislaw8_WordsApart_c20
noncomputable abbrev trellislaw8_WordsApart_c22 : Code := Code.snd trellislaw8_WordsApart_c20
noncomputable abbrev trellislaw8_WordsApart_c23 : Code := Code.fst trellislaw8_WordsApart_c22
noncomputable abbrev trellislaw8_WordsApart_c24 : Code := Code.snd trellislaw8_WordsApart_c22
noncomputable abbrev trellislaw8_WordsApart_c25 : Code := Code.fst trellislaw8_WordsApart_c23
noncomputable abbrev trellislaw8_WordsApart_c26 : Code := Code.snd trellislaw8_WordsApart_c23
noncomputable abbrev trellislaw8_WordsApart_c27 : Code := Code.fst trellislaw8_WordsApart_c26
noncomputable abbrev trellislaw8_WordsApart_c28 : Code := Code.snd trellislaw8_WordsApart_c26
noncomputable abbrev trellislaw8_WordsApart_c29 : Code := Code.fst trellislaw8_WordsApart_c24
noncomputable abbrev trellislaw8_WordsApart_c30 : Code := Code.snd trellislaw8_WordsApart_c24
noncomputable abbrev trellislaw8_WordsApart_c31 : Code := Code.fst trellislaw8_WordsApart_c29
noncomputable abbrev trellislaw8_WordsApart_c32 : Code := Code.snd trellislaw8_WordsApart_c29
noncomputable abbrev trellislaw8_WordsApart_c33 : Code := Code.fst trellislaw8_WordsApart_c32
noncomputable abbrev trellislaw8_WordsApart_c34 : Code := Code.snd trellislaw8_WordsApart_c32
noncomputable abbrev trellislaw8_WordsApart_c35 : Code := Code.fst trellislaw8_WordsApart_c30
noncomputable abbrev trellislaw8_WordsApart_c36 : Code := Code.snd trellislaw8_WordsApart_c30
noncomputable abbrev trellislaw8_WordsApart_c37 : Code := Code.fst trellislaw8_WordsApart_c36
noncomputable abbrev trellislaw8_WordsApart_c38 : Code := Code.snd trellislaw8_WordsApart_c36
noncomputable abbrev trellislaw8_WordsApart_c39 : Code := Code.fst trellislaw8_WordsApart_c37
noncomputable abbrev trellislaw8_WordsApart_c40 : Code := Code.snd trellislaw8_WordsApart_c37
noncomputable abbrev trellislaw8_WordsApart_c41 : Code := Code.fst trellislaw8_WordsApart_c40
noncomputable abbrev trellislaw8_WordsApart_c42 : Code := Code.fst trellislaw8_WordsApart_c41
noncomputable abbrev trellislaw8_WordsApart_c43 : Code := Code.fst trellislaw8_WordsApart_c42
noncomputable abbrev trellislaw8_WordsApart_c44 : Code := Code.snd trellislaw8_WordsApart_c42
noncomputable abbrev trellislaw8_WordsApart_c45 : Code := Code.fst trellislaw8_WordsApart_c43
noncomputable abbrev trellislaw8_WordsApart_c46 : Code := Code.snd trellislaw8_WordsApart_c43
noncomputable abbrev trellislaw8_WordsApart_c47 : Code := Code.fst trellislaw8_WordsApart_c46
noncomputable abbrev trellislaw8_WordsApart_c48 : Code := Code.snd trellislaw8_WordsApart_c46
noncomputable abbrev trellislaw8_WordsApart_c49 : Code := Code.fst trellislaw8_WordsApart_c44
noncomputable abbrev trellislaw8_WordsApart_c50 : Code := Code.snd trellislaw8_WordsApart_c44
noncomputable abbrev trellislaw8_WordsApart_c51 : Code := Code.fst trellislaw8_WordsApart_c49
noncomputable abbrev trellislaw8_WordsApart_c52 : Code := Code.fst trellislaw8_WordsApart_c38
noncomputable abbrev trellislaw8_WordsApart_c53 : Code := Code.snd trellislaw8_WordsApart_c38
noncomputable abbrev trellislaw8_WordsApart_c54 : Code := Code.fst trellislaw8_WordsApart_c52
noncomputable abbrev trellislaw8_WordsApart_c55 : Code := Code.snd trellislaw8_WordsApart_c52
noncomputable abbrev trellislaw8_WordsApart_c56 : Code := Code.fst trellislaw8_WordsApart_c55
noncomputable abbrev trellislaw8_WordsApart_c57 : Code := Code.fst trellislaw8_WordsApart_c56
noncomputable abbrev trellislaw8_WordsApart_c58 : Code := Code.fst trellislaw8_WordsApart_c57
noncomputable abbrev trellislaw8_WordsApart_c59 : Code := Code.snd trellislaw8_WordsApart_c57
noncomputable abbrev trellislaw8_WordsApart_c60 : Code := Code.fst trellislaw8_WordsApart_c58
noncomputable abbrev trellislaw8_WordsApart_c61 : Code := Code.snd trellislaw8_WordsApart_c58
noncomputable abbrev trellislaw8_WordsApart_c62 : Code := Code.fst trellislaw8_WordsApart_c61
noncomputable abbrev trellislaw8_WordsApart_c63 : Code := Code.snd trellislaw8_WordsApart_c61
noncomputable abbrev trellislaw8_WordsApart_c64 : Code := Code.fst trellislaw8_WordsApart_c59
noncomputable abbrev trellislaw8_WordsApart_c65 : Code := Code.snd trellislaw8_WordsApart_c59
noncomputable abbrev trellislaw8_WordsApart_c66 : Code := Code.fst trellislaw8_WordsApart_c64
noncomputable abbrev trellislaw8_WordsApart_c67 : Code := Code.fst trellislaw8_WordsApart_c66
noncomputable abbrev trellislaw8_WordsApart_c68 : Code := Code.snd trellislaw8_WordsApart_c66
noncomputable abbrev trellislaw8_WordsApart_c69 : Code := Code.fst trellislaw8_WordsApart_c68
noncomputable abbrev trellislaw8_WordsApart_c70 : Code := Code.snd trellislaw8_WordsApart_c68
noncomputable abbrev trellislaw8_WordsApart_c71 : Code := Code.fst trellislaw8_WordsApart_c53
noncomputable abbrev trellislaw8_WordsApart_c72 : Code := Code.snd trellislaw8_WordsApart_c53
noncomputable abbrev trellislaw8_WordsApart_c73 : Code := Code.fst trellislaw8_WordsApart_c33
noncomputable abbrev trellislaw8_WordsApart_c74 : Code := Code.snd trellislaw8_WordsApart_c33
noncomputable abbrev trellislaw8_WordsApart_c75 : Code := Code.fst trellislaw8_WordsApart_c27
noncomputable abbrev trellislaw8_WordsApart_c76 : Code := Code.snd trellislaw8_WordsApart_c27
noncomputable abbrev trellislaw8_WordsApart_c77 : Code := Code.fst trellislaw8_WordsApart_c7
noncomputable abbrev trellislaw8_WordsApart_c78 : Code := Code.snd trellislaw8_WordsApart_c7
abbrev trellislaw8_WordsApart_R (w : World) (F : Nat → Prop) (r : Bool) : Ending → World → Prop := fun e w' => e = .returned (.bool r) ∧ B.Loc w w' [] [St w []]
noncomputable abbrev trellislaw8_WordsApart_C (w : World) (F : Nat → Prop) (r : Bool) : Cx := ⟨Tryd.prog, 6, Tryd.f6, 122, trellislaw8_WordsApart_R w F  r, w⟩
theorem trellislaw8_WordsApart_calls (w : World) (F : Nat → Prop) (x1 : ByteArray) (x2 : ByteArray) (hG : Tb Tryd.prog (St w [])) (hF : ∀ b, F b → b < w.heap.size ∧ ∀ o ∈ ([] : List (List Nat)), b ∉ o) (hL0 : B.Loc w w [] [Sm w.heap.size F w [], St w []]) (r : Bool) (h : trellislaw8_WordsApart x1 x2 r) : Calls Tryd.prog 6 #[.string x1, .string x2] w (trellislaw8_WordsApart_R w F  r) := by
  unfold trellislaw8_WordsApart at h
  refine calls_of_Loc (vs := [.string x1, .string x2]) 122 Tryd.func6 rfl Tryd.ntmps6 rfl hL0 ?_
  show G (trellislaw8_WordsApart_C w F r) _ _ _ _
  refine g_seq (c := trellislaw8_WordsApart_c0) rfl ?_
  refine g_region (c := trellislaw8_WordsApart_c1) rfl rfl ?_
  refine wl_v 0 rfl (v_assign rfl) gn rfl ?_
  refine w_end 1 rfl ?_
  refine g_seq (c := trellislaw8_WordsApart_c2) rfl ?_
  refine g_seq (c := trellislaw8_WordsApart_c3) rfl ?_
  refine g_region (c := trellislaw8_WordsApart_c5) rfl rfl ?_
  obtain ⟨r6, hv7, h⟩ := h
  refine wl_s 0 rfl (s_call [] rfl Tryd.func15 rfl rfl rfl fun w3 hL4 => ?_) gn
  have hp5 : List.Perm ([] : List Ent) (([] : List Ent) ++ ([] : List Ent)) := perm_of_idx [] [] rfl rfl (by kernel_rfl)
  refine Calls.mono (trellislaw8_started_calls w3 (Fl ([] : List Snap)) (hL4.tb hp5 hG (me 1 rfl)) (hL4.hFl (Sl := ([] : List Snap)) hp5 (sels [] rfl)) (hL4.into hp5 (Fl ([] : List Snap))) r6 hv7) ?_
  rintro _ w8 ⟨rfl, hM9⟩
  have hL10 := hL4.call hp5 hM9
  refine ⟨_, _, _, rfl, hL10, ?_⟩
  refine wl_v 1 rfl (v_not rfl) gn rfl ?_
  refine w_end 2 rfl ?_
  by_cases hp11 : r6 = true
  · have h := if_pos' hp11 h
    refine g_false (c := trellislaw8_WordsApart_c6) rfl _ rfl ((nf hp11)) ?_
    refine g_skip (c := trellislaw8_WordsApart_c8) rfl ?_
    refine g_seq (c := trellislaw8_WordsApart_c4) rfl ?_
    refine g_seq (c := trellislaw8_WordsApart_c9) rfl ?_
    refine g_region (c := trellislaw8_WordsApart_c11) rfl rfl ?_
    refine wl_v 0 rfl (v_move rfl) gn rfl ?_
    refine wl_v 1 rfl (v_lenS un_9 rfl) gn rfl ?_
    refine wl_v 2 rfl (v_move rfl) gn rfl ?_
    refine wl_v 3 rfl (v_lenS un_9 rfl) gn rfl ?_
    refine wl_v 4 rfl (v_bin rfl rfl rfl) gn rfl ?_
    refine wl_v 5 rfl (v_bin rfl rfl rfl) gn rfl ?_
    refine w_end 6 rfl ?_
    by_cases hp12 : w64 ((x1.size : Int) + (x2.size : Int)) ≥ 16384
    · have h := if_pos' hp12 h
      refine g_true (c := trellislaw8_WordsApart_c12) rfl _ rfl ((decide_eq_true hp12)) ?_
      refine g_seq (c := trellislaw8_WordsApart_c13) rfl ?_
      refine g_region (c := trellislaw8_WordsApart_c15) rfl rfl ?_
      refine wl_v 0 rfl (v_assign rfl) gn rfl ?_
      refine w_end 1 rfl ?_
      refine g_retR (c := trellislaw8_WordsApart_c16) [.bool true] rfl Tryd.func6 rfl (.tmp rfl (.nil)) fun wr hLr => ?_
      have hMr : B.Loc w wr [] [St w []] := hLr.pick (rest := []) (perm_of_idx [] [] rfl rfl (by kernel_rfl)) (sels [1] rfl)
      have hMi : ∀ e ∈ ([] : List Ent), e ∈ ([] : List Ent) := sels [] rfl
      show trellislaw8_WordsApart_R w F  r (.returned (packV [.bool true])) wr
      rw [h]
      exact ⟨rfl, hMr⟩
    · have h := if_neg' hp12 h
      refine g_false (c := trellislaw8_WordsApart_c12) rfl _ rfl ((decide_eq_false hp12)) ?_
      refine g_skip (c := trellislaw8_WordsApart_c14) rfl ?_
      refine g_seq (c := trellislaw8_WordsApart_c10) rfl ?_
      refine g_region (c := trellislaw8_WordsApart_c17) rfl rfl ?_
      refine wl_v 0 rfl (v_move rfl) gn rfl ?_
      obtain ⟨r16, hv17, h⟩ := h
      refine wl_s 1 rfl (s_call [.string x1] rfl Tryd.func16 rfl rfl rfl fun w13 hL14 => ?_) gn
      have hp15 : List.Perm ([] : List Ent) (([] : List Ent) ++ ([] : List Ent)) := perm_of_idx [] [] rfl rfl (by kernel_rfl)
      refine Calls.mono (words_Cut_calls w13 (Fl ([] : List Snap)) x1 (hL14.hFl (Sl := ([] : List Snap)) hp15 (sels [] rfl)) (hL14.into hp15 (Fl ([] : List Snap))) r16 hv17) ?_
      rintro _ w23 ⟨A18, n19, c20, rfl, hM24, h21⟩
      have hL25 := hL14.call hp15 hM24
      refine ⟨_, _, _, rfl, hL25, ?_⟩
      refine wl_v 2 rfl (v_move rfl) gn rfl ?_
      refine wl_v 3 rfl (v_extract rfl rfl) gn rfl ?_
      refine wl_v 4 rfl (v_extract rfl rfl) gn rfl ?_
      refine wl_v 5 rfl (v_extract rfl rfl) gn rfl ?_
      refine wl_v 6 rfl (v_assign rfl) gn rfl ?_
      refine wl_v 7 rfl (v_assign rfl) gn rfl ?_
      refine wl_v 8 rfl (v_assign rfl) gn rfl ?_
      refine w_end 9 rfl ?_
      refine g_seq (c := trellislaw8_WordsApart_c18) rfl ?_
      refine g_region (c := trellislaw8_WordsApart_c19) rfl rfl ?_
      refine wl_v 0 rfl (v_move rfl) gn rfl ?_
      obtain ⟨r29, hv30, h⟩ := h
      refine wl_s 1 rfl (s_call [.string x2] rfl Tryd.func16 rfl rfl rfl fun w26 hL27 => ?_) gn
      have hp28 : List.Perm ([.own (.slice A18 n19 c20) 27 4 n19 (r16.1.flatMap enc_api_Word)] : List Ent) (([] : List Ent) ++ ([.own (.slice A18 n19 c20) 27 4 n19 (r16.1.flatMap enc_api_Word)] : List Ent)) := perm_of_idx [] [0] rfl rfl (by kernel_rfl)
      refine Calls.mono (words_Cut_calls w26 (Fl ([] : List Snap)) x2 (hL27.hFl (Sl := ([] : List Snap)) hp28 (sels [] rfl)) (hL27.into hp28 (Fl ([] : List Snap))) r29 hv30) ?_
      rintro _ w36 ⟨A31, n32, c33, rfl, hM37, h34⟩
      have hL38 := hL27.call hp28 hM37
      refine ⟨_, _, _, rfl, hL38, ?_⟩
      refine wl_v 2 rfl (v_move rfl) gn rfl ?_
      refine wl_v 3 rfl (v_extract rfl rfl) gn rfl ?_
      refine wl_v 4 rfl (v_extract rfl rfl) gn rfl ?_
      refine wl_v 5 rfl (v_extract rfl rfl) gn rfl ?_
      refine wl_v 6 rfl (v_assign rfl) gn rfl ?_
      refine wl_v 7 rfl (v_assign rfl) gn rfl ?_
      refine wl_v 8 rfl (v_assign rfl) gn rfl ?_
      refine w_end 9 rfl ?_
      refine g_seq (c := trellislaw8_WordsApart_c20) rfl ?_
      refine g_region (c := trellislaw8_WordsApart_c21) rfl rfl ?_
      refine wl_v 0 rfl (v_move rfl) gn rfl ?_
      obtain ⟨hb39, h⟩ := h
      refine wl_v 1 rfl (v_catS rfl rfl hb39) gn rfl ?_
      refine wl_v 2 rfl (v_move rfl) gn rfl ?_
      obtain ⟨hb40, h⟩ := h
      refine wl_v 3 rfl (v_catS rfl rfl hb40) gn rfl ?_
      obtain ⟨r44, hv45, h⟩ := h
      refine wl_s 4 rfl (s_call [.string ((x1 ++ (⟨#[10]⟩ : ByteArray)) ++ x2)] rfl Tryd.func16 rfl rfl rfl fun w41 hL42 => ?_) gn
      have hp43 : List.Perm ([.own (.slice A31 n32 c33) 27 4 n32 (r29.1.flatMap enc_api_Word), .own (.slice A18 n19 c20) 27 4 n19 (r16.1.flatMap enc_api_Word)] : List Ent) (([] : List Ent) ++ ([.own (.slice A31 n32 c33) 27 4 n32 (r29.1.flatMap enc_api_Word), .own (.slice A18 n19 c20) 27 4 n19 (r16.1.flatMap enc_api_Word)] : List Ent)) := perm_of_idx [] [0, 1] rfl rfl (by kernel_rfl)
      refine Calls.mono (words_Cut_calls w41 (Fl ([] : List Snap)) ((x1 ++ (⟨#[10]⟩ : ByteArray)) ++ x2) (hL42.hFl (Sl := ([] : List Snap)) hp43 (sels [] rfl)) (hL42.into hp43 (Fl ([] : List Snap))) r44 hv45) ?_
      rintro _ w51 ⟨A46, n47, c48, rfl, hM52, h49⟩
      have hL53 := hL42.call hp43 hM52
      refine ⟨_, _, _, rfl, hL53, ?_⟩
      refine wl_v 5 rfl (v_move rfl) gn rfl ?_
      refine wl_v 6 rfl (v_extract rfl rfl) gn rfl ?_
      refine wl_v 7 rfl (v_extract rfl rfl) gn rfl ?_
      refine wl_v 8 rfl (v_extract rfl rfl) gn rfl ?_
      refine wl_v 9 rfl (v_assign rfl) gn rfl ?_
      refine wl_v 10 rfl (v_assign rfl) gn rfl ?_
      refine wl_v 11 rfl (v_assign rfl) gn rfl ?_
      refine w_end 12 rfl ?_
      refine g_seq (c := trellislaw8_WordsApart_c22) rfl ?_
      refine g_seq (c := trellislaw8_WordsApart_c23) rfl ?_
      refine g_region (c := trellislaw8_WordsApart_c25) rfl rfl ?_
      refine wl_v 0 rfl (v_move rfl) gn rfl ?_
      refine wl_v 1 rfl (v_bin rfl rfl rfl) gn rfl ?_
      refine w_end 2 rfl ?_
      by_cases hp54 : r16.2.1 = 0
      · have h := if_pos' hp54 h
        refine g_false (c := trellislaw8_WordsApart_c26) rfl _ rfl ((eqib hp54)) ?_
        refine g_skip (c := trellislaw8_WordsApart_c28) rfl ?_
        refine g_seq (c := trellislaw8_WordsApart_c24) rfl ?_
        refine g_seq (c := trellislaw8_WordsApart_c29) rfl ?_
        refine g_region (c := trellislaw8_WordsApart_c31) rfl rfl ?_
        refine wl_v 0 rfl (v_move rfl) gn rfl ?_
        refine wl_v 1 rfl (v_bin rfl rfl rfl) gn rfl ?_
        refine w_end 2 rfl ?_
        by_cases hp55 : r29.2.1 = 0
        · have h := if_pos' hp55 h
          refine g_false (c := trellislaw8_WordsApart_c32) rfl _ rfl ((eqib hp55)) ?_
          refine g_skip (c := trellislaw8_WordsApart_c34) rfl ?_
          refine g_seq (c := trellislaw8_WordsApart_c30) rfl ?_
          refine g_region (c := trellislaw8_WordsApart_c35) rfl rfl ?_
          refine wl_v 0 rfl (v_assign rfl) gn rfl ?_
          refine w_end 1 rfl ?_
          refine g_seq (c := trellislaw8_WordsApart_c36) rfl ?_
          refine g_seq (c := trellislaw8_WordsApart_c37) rfl ?_
          refine g_region (c := trellislaw8_WordsApart_c39) rfl rfl ?_
          refine wl_v 0 rfl (v_assign rfl) gn rfl ?_
          refine w_end 1 rfl ?_
          refine g_block (c := trellislaw8_WordsApart_c40) rfl ?_
          refine g_loop (c := trellislaw8_WordsApart_c41) rfl ?_
          have key1 : ∀ s, Rounds (fun (s : (List api_Word) × Int) o => trellislaw8_WordsApart_b1 r16 r29 x1 r44 s.1 s.2 o) s r → (fun (s : (List api_Word) × Int) => ∀ (A144 : Option Addr) (n145 : Nat) (c146 : Nat) (h147 : Ow w.heap.size A144 n145 c146 s.1), G (trellislaw8_WordsApart_C w F r) [.code trellislaw8_WordsApart_c42, .inLoop trellislaw8_WordsApart_c42, .inBlock 0, .code trellislaw8_WordsApart_c38] [(0, .string x1), (5, .slice A18 n19 c20), (8, .slice A31 n32 c33), (11, .slice A46 n47 c48), (12, .int .i64 r44.2.1), (14, .slice A144 n145 c146), (15, .int .i64 s.2)] [.own (.slice A144 n145 c146) 27 4 n145 (s.1.flatMap enc_api_Word), .own (.slice A46 n47 c48) 27 4 n47 (r44.1.flatMap enc_api_Word), .own (.slice A31 n32 c33) 27 4 n32 (r29.1.flatMap enc_api_Word), .own (.slice A18 n19 c20) 27 4 n19 (r16.1.flatMap enc_api_Word)] [Sm w.heap.size F w [], St w []]) s := by
            intro s hs
            refine Rounds.ind (mot := (fun (s : (List api_Word) × Int) => ∀ (A144 : Option Addr) (n145 : Nat) (c146 : Nat) (h147 : Ow w.heap.size A144 n145 c146 s.1), G (trellislaw8_WordsApart_C w F r) [.code trellislaw8_WordsApart_c42, .inLoop trellislaw8_WordsApart_c42, .inBlock 0, .code trellislaw8_WordsApart_c38] [(0, .string x1), (5, .slice A18 n19 c20), (8, .slice A31 n32 c33), (11, .slice A46 n47 c48), (12, .int .i64 r44.2.1), (14, .slice A144 n145 c146), (15, .int .i64 s.2)] [.own (.slice A144 n145 c146) 27 4 n145 (s.1.flatMap enc_api_Word), .own (.slice A46 n47 c48) 27 4 n47 (r44.1.flatMap enc_api_Word), .own (.slice A31 n32 c33) 27 4 n32 (r29.1.flatMap enc_api_Word), .own (.slice A18 n19 c20) 27 4 n19 (r16.1.flatMap enc_api_Word)] [Sm w.heap.size F w [], St w []])) ?_ hs
            clear hs s
            intro s o1 h hO1
            obtain ⟨x143, x148⟩ := s
            show ∀ (A144 : Option Addr) (n145 : Nat) (c146 : Nat) (h147 : Ow w.heap.size A144 n145 c146 x143), G (trellislaw8_WordsApart_C w F r) [.code trellislaw8_WordsApart_c42, .inLoop trellislaw8_WordsApart_c42, .inBlock 0, .code trellislaw8_WordsApart_c38] [(0, .string x1), (5, .slice A18 n19 c20), (8, .slice A31 n32 c33), (11, .slice A46 n47 c48), (12, .int .i64 r44.2.1), (14, .slice A144 n145 c146), (15, .int .i64 x148)] [.own (.slice A144 n145 c146) 27 4 n145 (x143.flatMap enc_api_Word), .own (.slice A46 n47 c48) 27 4 n47 (r44.1.flatMap enc_api_Word), .own (.slice A31 n32 c33) 27 4 n32 (r29.1.flatMap enc_api_Word), .own (.slice A18 n19 c20) 27 4 n19 (r16.1.flatMap enc_api_Word)] [Sm w.heap.size F w [], St w []]
            intro A144 n145 c146 h147
            have h : trellislaw8_WordsApart_b1 r16 r29 x1 r44 x143 x148 o1 := h
            unfold trellislaw8_WordsApart_b1 at h
            refine g_seq (c := trellislaw8_WordsApart_c42) rfl ?_
            refine g_seq (c := trellislaw8_WordsApart_c43) rfl ?_
            refine g_region (c := trellislaw8_WordsApart_c45) rfl rfl ?_
            refine wl_v 0 rfl (v_move rfl) gn rfl ?_
            refine wl_v 1 rfl (v_move rfl) gn rfl ?_
            refine wl_v 2 rfl (v_lenQ un_22 rfl (Ow.weak hL14.env.size h21).hq) gn rfl ?_
            refine wl_v 3 rfl (v_bin rfl rfl rfl) gn rfl ?_
            refine w_end 4 rfl ?_
            by_cases hp233 : x148 < (r16.1.length : Int)
            · have h := if_pos' hp233 h
              refine g_true (c := trellislaw8_WordsApart_c46) rfl _ rfl ((decide_eq_true hp233)) ?_
              refine g_skip (c := trellislaw8_WordsApart_c47) rfl ?_
              refine g_seq (c := trellislaw8_WordsApart_c44) rfl ?_
              refine g_block (c := trellislaw8_WordsApart_c49) rfl ?_
              refine g_region (c := trellislaw8_WordsApart_c51) rfl rfl ?_
              refine wl_v 0 rfl (v_move rfl) gn rfl ?_
              refine wl_v 1 rfl (v_move rfl) gn rfl ?_
              refine wl_v 2 rfl (v_move rfl) gn rfl ?_
              obtain ⟨hb234, h⟩ := h
              refine wl_v 3 rfl (v_idxO slE_22 rfl rfl (Ow.weak hL14.env.size h21) hb234) gn rfl ?_
              refine wl_v 4 rfl (v_ldO [.int .i64 ((ix r16.1 x148).kind), .string ((ix r16.1 x148).text), .int .i64 ((ix r16.1 x148).n), .int .i64 ((ix r16.1 x148).at_)] 3 ld_27 rfl rfl (fm_one hl_api_Word hb234) rfl) gn rfl ?_
              refine wl_s 5 rfl (s_litO (xs := ([ix r16.1 x148] : List api_Word)) [.int .i64 ((ix r16.1 x148).kind), .string ((ix r16.1 x148).text), .int .i64 ((ix r16.1 x148).n), .int .i64 ((ix r16.1 x148).at_)] bs_22_1 rfl (by kernel_rfl) rfl rfl rfl rfl fun gb236 h237 => ?_) gn
              obtain ⟨x241, hv242, h⟩ := h
              obtain ⟨hb243, h⟩ := h
              refine wl_s 6 rfl (s_app (zs := x241) (cells' := x241.flatMap enc_api_Word) 1 ap_22 rfl rfl rfl h147 (Nat.le_refl _) (Src.ownF (hl := hl_api_Word) (h1 := h1_api_Word) 0 rfl h237) (by rw [hv242, List.flatMap_append] <;> rfl) (app_len hv242 h237.hq) hb243 rfl rfl fun A238 c239 h240 => ?_) gn
              refine wl_v 7 rfl (v_assign rfl) gn rfl ?_
              refine w_end 8 rfl ?_
              refine g_inBlock ?_
              refine g_region (c := trellislaw8_WordsApart_c50) rfl rfl ?_
              refine wl_v 0 rfl (v_move rfl) gn rfl ?_
              refine wl_v 1 rfl (v_bin rfl rfl rfl) gn rfl ?_
              refine wl_v 2 rfl (v_assign rfl) gn rfl ?_
              refine w_end 3 rfl ?_
              refine g_inLoop ?_
              have ih := Out.inl hO1 h
              exact g_go [0, 1] (ih A238 (n145 + 1) c239 h240) ⟨rfl, rfl, rfl, rfl, rfl, rfl, rfl, trivial⟩ (.cons _ (.cons_cons _ (.cons_cons _ (.cons_cons _ (.cons_cons _ (.slnil)))))) rfl
            · have h := if_neg' hp233 h
              refine g_false (c := trellislaw8_WordsApart_c46) rfl _ rfl ((decide_eq_false hp233)) ?_
              refine g_exit (c := trellislaw8_WordsApart_c48) [.code trellislaw8_WordsApart_c38] rfl rfl ?_
              refine g_seq (c := trellislaw8_WordsApart_c38) rfl ?_
              refine g_seq (c := trellislaw8_WordsApart_c52) rfl ?_
              refine g_region (c := trellislaw8_WordsApart_c54) rfl rfl ?_
              refine wl_v 0 rfl (v_assign rfl) gn rfl ?_
              refine w_end 1 rfl ?_
              refine g_block (c := trellislaw8_WordsApart_c55) rfl ?_
              refine g_loop (c := trellislaw8_WordsApart_c56) rfl ?_
              have key2 : ∀ s, Rounds (fun (s : (List api_Word) × Int) o => trellislaw8_WordsApart_b2 r29 x1 r44 s.1 s.2 o) s o1 → (fun (s : (List api_Word) × Int) => ∀ (A268 : Option Addr) (n269 : Nat) (c270 : Nat) (h271 : Ow w.heap.size A268 n269 c270 s.1), G (trellislaw8_WordsApart_C w F r) [.code trellislaw8_WordsApart_c57, .inLoop trellislaw8_WordsApart_c57, .inBlock 2, .code trellislaw8_WordsApart_c53] [(0, .string x1), (8, .slice A31 n32 c33), (11, .slice A46 n47 c48), (12, .int .i64 r44.2.1), (14, .slice A268 n269 c270), (16, .int .i64 s.2)] [.own (.slice A268 n269 c270) 27 4 n269 (s.1.flatMap enc_api_Word), .own (.slice A46 n47 c48) 27 4 n47 (r44.1.flatMap enc_api_Word), .own (.slice A31 n32 c33) 27 4 n32 (r29.1.flatMap enc_api_Word)] [Sm w.heap.size F w [], St w []]) s := by
                intro s hs
                refine Rounds.ind (mot := (fun (s : (List api_Word) × Int) => ∀ (A268 : Option Addr) (n269 : Nat) (c270 : Nat) (h271 : Ow w.heap.size A268 n269 c270 s.1), G (trellislaw8_WordsApart_C w F r) [.code trellislaw8_WordsApart_c57, .inLoop trellislaw8_WordsApart_c57, .inBlock 2, .code trellislaw8_WordsApart_c53] [(0, .string x1), (8, .slice A31 n32 c33), (11, .slice A46 n47 c48), (12, .int .i64 r44.2.1), (14, .slice A268 n269 c270), (16, .int .i64 s.2)] [.own (.slice A268 n269 c270) 27 4 n269 (s.1.flatMap enc_api_Word), .own (.slice A46 n47 c48) 27 4 n47 (r44.1.flatMap enc_api_Word), .own (.slice A31 n32 c33) 27 4 n32 (r29.1.flatMap enc_api_Word)] [Sm w.heap.size F w [], St w []])) ?_ hs
                clear hs s
                intro s o2 h hO2
                obtain ⟨x267, x272⟩ := s
                show ∀ (A268 : Option Addr) (n269 : Nat) (c270 : Nat) (h271 : Ow w.heap.size A268 n269 c270 x267), G (trellislaw8_WordsApart_C w F r) [.code trellislaw8_WordsApart_c57, .inLoop trellislaw8_WordsApart_c57, .inBlock 2, .code trellislaw8_WordsApart_c53] [(0, .string x1), (8, .slice A31 n32 c33), (11, .slice A46 n47 c48), (12, .int .i64 r44.2.1), (14, .slice A268 n269 c270), (16, .int .i64 x272)] [.own (.slice A268 n269 c270) 27 4 n269 (x267.flatMap enc_api_Word), .own (.slice A46 n47 c48) 27 4 n47 (r44.1.flatMap enc_api_Word), .own (.slice A31 n32 c33) 27 4 n32 (r29.1.flatMap enc_api_Word)] [Sm w.heap.size F w [], St w []]
                intro A268 n269 c270 h271
                have h : trellislaw8_WordsApart_b2 r29 x1 r44 x267 x272 o2 := h
                unfold trellislaw8_WordsApart_b2 at h
                refine g_seq (c := trellislaw8_WordsApart_c57) rfl ?_
                refine g_seq (c := trellislaw8_WordsApart_c58) rfl ?_
                refine g_region (c := trellislaw8_WordsApart_c60) rfl rfl ?_
                refine wl_v 0 rfl (v_move rfl) gn rfl ?_
                refine wl_v 1 rfl (v_move rfl) gn rfl ?_
                refine wl_v 2 rfl (v_lenQ un_22 rfl (Ow.weak hL27.env.size h34).hq) gn rfl ?_
                refine wl_v 3 rfl (v_bin rfl rfl rfl) gn rfl ?_
                refine w_end 4 rfl ?_
                by_cases hp295 : x272 < (r29.1.length : Int)
                · have h := if_pos' hp295 h
                  refine g_true (c := trellislaw8_WordsApart_c61) rfl _ rfl ((decide_eq_true hp295)) ?_
                  refine g_skip (c := trellislaw8_WordsApart_c62) rfl ?_
                  refine g_seq (c := trellislaw8_WordsApart_c59) rfl ?_
                  refine g_block (c := trellislaw8_WordsApart_c64) rfl ?_
                  refine g_seq (c := trellislaw8_WordsApart_c66) rfl ?_
                  refine g_region (c := trellislaw8_WordsApart_c67) rfl rfl ?_
                  refine wl_v 0 rfl (v_move rfl) gn rfl ?_
                  refine wl_v 1 rfl (v_move rfl) gn rfl ?_
                  obtain ⟨hb296, h⟩ := h
                  refine wl_v 2 rfl (v_idxO slE_22 rfl rfl (Ow.weak hL27.env.size h34) hb296) gn rfl ?_
                  refine wl_v 3 rfl (v_ldO [.int .i64 ((ix r29.1 x272).kind), .string ((ix r29.1 x272).text), .int .i64 ((ix r29.1 x272).n), .int .i64 ((ix r29.1 x272).at_)] 2 ld_27 rfl rfl (fm_one hl_api_Word hb296) rfl) gn rfl ?_
                  refine wl_s 4 rfl (s_alloc [.int .i64 0, .string (⟨#[]⟩ : ByteArray), .int .i64 0, .int .i64 0] zr_27 rfl fun gb297 => ?_) gn
                  refine wl_s 5 rfl (s_stB (vs := [.int .i64 ((ix r29.1 x272).kind), .string ((ix r29.1 x272).text), .int .i64 ((ix r29.1 x272).n), .int .i64 ((ix r29.1 x272).at_)]) (cs' := [.int .i64 ((ix r29.1 x272).kind), .string ((ix r29.1 x272).text), .int .i64 ((ix r29.1 x272).n), .int .i64 ((ix r29.1 x272).at_)]) (M' := [.box gb297 27 [.int .i64 ((ix r29.1 x272).kind), .string ((ix r29.1 x272).text), .int .i64 ((ix r29.1 x272).n), .int .i64 ((ix r29.1 x272).at_)], .own (.slice A268 n269 c270) 27 4 n269 (x267.flatMap enc_api_Word), .own (.slice A46 n47 c48) 27 4 n47 (r44.1.flatMap enc_api_Word), .own (.slice A31 n32 c33) 27 4 n32 (r29.1.flatMap enc_api_Word)]) 0 sz_27 rfl rfl rfl rfl rfl rfl rfl rfl rfl ?_) gn
                  refine w_end 6 rfl ?_
                  refine g_seq (c := trellislaw8_WordsApart_c68) rfl ?_
                  refine g_region (c := trellislaw8_WordsApart_c69) rfl rfl ?_
                  refine wl_v 0 rfl (v_fldB fo_27_3 rfl) gn rfl ?_
                  refine wl_v 1 rfl (v_ldB1 0 ld_3 rfl rfl rfl) gn rfl ?_
                  refine wl_v 2 rfl (v_move rfl) gn rfl ?_
                  refine wl_v 3 rfl (v_lenS un_9 rfl) gn rfl ?_
                  refine wl_v 4 rfl (v_bin rfl rfl rfl) gn rfl ?_
                  refine wl_v 5 rfl (v_bin rfl rfl rfl) gn rfl ?_
                  refine wl_v 6 rfl (v_fldB fo_27_3 rfl) gn rfl ?_
                  refine wl_s 7 rfl (s_stB (vs := [.int .i64 (w64 ((w64 (((ix r29.1 x272).at_) + (x1.size : Int))) + 1))]) (cs' := [.int .i64 ((ix r29.1 x272).kind), .string ((ix r29.1 x272).text), .int .i64 ((ix r29.1 x272).n), .int .i64 (w64 ((w64 (((ix r29.1 x272).at_) + (x1.size : Int))) + 1))]) (M' := [.box gb297 27 [.int .i64 ((ix r29.1 x272).kind), .string ((ix r29.1 x272).text), .int .i64 ((ix r29.1 x272).n), .int .i64 (w64 ((w64 (((ix r29.1 x272).at_) + (x1.size : Int))) + 1))], .own (.slice A268 n269 c270) 27 4 n269 (x267.flatMap enc_api_Word), .own (.slice A46 n47 c48) 27 4 n47 (r44.1.flatMap enc_api_Word), .own (.slice A31 n32 c33) 27 4 n32 (r29.1.flatMap enc_api_Word)]) 0 sz_3 rfl rfl rfl rfl rfl rfl rfl rfl rfl ?_) gn
                  refine w_end 8 rfl ?_
                  refine g_region (c := trellislaw8_WordsApart_c70) rfl rfl ?_
                  refine wl_v 0 rfl (v_move rfl) gn rfl ?_
                  refine wl_v 1 rfl (v_ldB [.int .i64 ((ix r29.1 x272).kind), .string ((ix r29.1 x272).text), .int .i64 ((ix r29.1 x272).n), .int .i64 (w64 ((w64 (((ix r29.1 x272).at_) + (x1.size : Int))) + 1))] 0 ld_27 rfl rfl rfl rfl) gn rfl ?_
                  refine wl_s 2 rfl (s_litO (xs := ([(⟨(ix r29.1 x272).kind, (ix r29.1 x272).text, (ix r29.1 x272).n, w64 ((w64 (((ix r29.1 x272).at_) + (x1.size : Int))) + 1)⟩ : api_Word)] : List api_Word)) [.int .i64 ((ix r29.1 x272).kind), .string ((ix r29.1 x272).text), .int .i64 ((ix r29.1 x272).n), .int .i64 (w64 ((w64 (((ix r29.1 x272).at_) + (x1.size : Int))) + 1))] bs_22_1 rfl (by kernel_rfl) rfl rfl rfl rfl fun gb300 h301 => ?_) gn
                  obtain ⟨x305, hv306, h⟩ := h
                  obtain ⟨hb307, h⟩ := h
                  refine wl_s 3 rfl (s_app (zs := x305) (cells' := x305.flatMap enc_api_Word) 2 ap_22 rfl rfl rfl h271 (Nat.le_refl _) (Src.ownF (hl := hl_api_Word) (h1 := h1_api_Word) 0 rfl h301) (by rw [hv306, List.flatMap_append] <;> rfl) (app_len hv306 h301.hq) hb307 rfl rfl fun A302 c303 h304 => ?_) gn
                  refine wl_v 4 rfl (v_assign rfl) gn rfl ?_
                  refine w_end 5 rfl ?_
                  refine g_inBlock ?_
                  refine g_region (c := trellislaw8_WordsApart_c65) rfl rfl ?_
                  refine wl_v 0 rfl (v_move rfl) gn rfl ?_
                  refine wl_v 1 rfl (v_bin rfl rfl rfl) gn rfl ?_
                  refine wl_v 2 rfl (v_assign rfl) gn rfl ?_
                  refine w_end 3 rfl ?_
                  refine g_inLoop ?_
                  have ih := Out.inl hO2 h
                  exact g_go [0, 1] (ih A302 (n269 + 1) c303 h304) ⟨rfl, rfl, rfl, rfl, rfl, rfl, trivial⟩ (.cons _ (.cons _ (.cons_cons _ (.cons_cons _ (.cons_cons _ (.slnil)))))) rfl
                · have h := if_neg' hp295 h
                  refine g_false (c := trellislaw8_WordsApart_c61) rfl _ rfl ((decide_eq_false hp295)) ?_
                  refine g_exit (c := trellislaw8_WordsApart_c63) [.code trellislaw8_WordsApart_c53] rfl rfl ?_
                  refine g_seq (c := trellislaw8_WordsApart_c53) rfl ?_
                  refine g_region (c := trellislaw8_WordsApart_c71) rfl rfl ?_
                  refine wl_v 0 rfl (v_move rfl) gn rfl ?_
                  refine wl_v 1 rfl (v_bin rfl rfl rfl) gn rfl ?_
                  refine wl_v 2 rfl (v_move rfl) gn rfl ?_
                  by_cases hp308 : r44.2.1 = 0
                  · have h := if_pos' hp308 h
                    refine w_bool 117 rfl ((eqi hp308)) ?_
                    refine wl_v 3 rfl (v_move rfl) (gy 117 rfl rfl) rfl ?_
                    refine wl_v 4 rfl (v_move rfl) (gy 117 rfl rfl) rfl ?_
                    obtain ⟨r312, hv313, h⟩ := h
                    refine wl_s 5 rfl (s_call [.slice A46 n47 c48, .slice A268 n269 c270] rfl Tryd.func17 rfl rfl rfl fun w309 hL310 => ?_) (gy 117 rfl rfl)
                    have hp311 : List.Perm ([.own (.slice A268 n269 c270) 27 4 n269 (x267.flatMap enc_api_Word), .own (.slice A46 n47 c48) 27 4 n47 (r44.1.flatMap enc_api_Word), .own (.slice A31 n32 c33) 27 4 n32 (r29.1.flatMap enc_api_Word)] : List Ent) (([] : List Ent) ++ ([.own (.slice A268 n269 c270) 27 4 n269 (x267.flatMap enc_api_Word), .own (.slice A46 n47 c48) 27 4 n47 (r44.1.flatMap enc_api_Word), .own (.slice A31 n32 c33) 27 4 n32 (r29.1.flatMap enc_api_Word)] : List Ent)) := perm_of_idx [] [0, 1, 2] rfl rfl (by kernel_rfl)
                    refine Calls.mono (trellislaw8_same_calls w309 (Fl ([] : List Snap)) r44.1 x267 A46 n47 c48 A268 n269 c270 (hL310.argO (dk := k_api_Word) hp311 [] rfl 1 rfl rfl (Ow.weak hL42.env.size h49) (me 0 rfl) (Cells.flat _)) (hL310.argO (dk := k_api_Word) hp311 [] rfl 0 rfl rfl h271 (me 0 rfl) (Cells.flat _)) (hL310.hFl (Sl := ([] : List Snap)) hp311 (sels [] rfl)) (hL310.into hp311 (Fl ([] : List Snap))) r312 hv313) ?_
                    rintro _ w314 ⟨rfl, hM315⟩
                    have hL316 := hL310.call hp311 hM315
                    refine ⟨_, _, _, rfl, hL316, ?_⟩
                    refine wl_v 6 rfl (v_pick (b := true) rfl rfl) gn rfl ?_
                    refine wl_v 7 rfl (v_assign rfl) gn rfl ?_
                    refine w_end 8 rfl ?_
                    have h := Out.inr hO2 h
                    have h := Out.inr hO1 h
                    refine g_retR (c := trellislaw8_WordsApart_c72) [.bool r312] rfl Tryd.func6 rfl (.tmp rfl (.nil)) fun wr hLr => ?_
                    have hMr : B.Loc w wr [] [St w []] := hLr.pick (rest := [.own (.slice A268 n269 c270) 27 4 n269 (x267.flatMap enc_api_Word), .own (.slice A46 n47 c48) 27 4 n47 (r44.1.flatMap enc_api_Word), .own (.slice A31 n32 c33) 27 4 n32 (r29.1.flatMap enc_api_Word)]) (perm_of_idx [] [0, 1, 2] rfl rfl (by kernel_rfl)) (sels [1] rfl)
                    have hMi : ∀ e ∈ ([] : List Ent), e ∈ ([.own (.slice A268 n269 c270) 27 4 n269 (x267.flatMap enc_api_Word), .own (.slice A46 n47 c48) 27 4 n47 (r44.1.flatMap enc_api_Word), .own (.slice A31 n32 c33) 27 4 n32 (r29.1.flatMap enc_api_Word)] : List Ent) := sels [] rfl
                    show trellislaw8_WordsApart_R w F  r (.returned (packV [.bool r312])) wr
                    rw [h]
                    exact ⟨rfl, hMr⟩
                  · have h := if_neg' hp308 h
                    refine w_bool 117 rfl ((nei hp308)) ?_
                    refine wl_pass 3 rfl (ps 117 rfl rfl rfl) ?_
                    refine wl_pass 4 rfl (ps 117 rfl rfl rfl) ?_
                    refine wl_pass 5 rfl (ps 117 rfl rfl rfl) ?_
                    refine wl_v 6 rfl (v_pick (b := false) rfl rfl) gn rfl ?_
                    refine wl_v 7 rfl (v_assign rfl) gn rfl ?_
                    refine w_end 8 rfl ?_
                    have h := Out.inr hO2 h
                    have h := Out.inr hO1 h
                    refine g_retR (c := trellislaw8_WordsApart_c72) [.bool false] rfl Tryd.func6 rfl (.tmp rfl (.nil)) fun wr hLr => ?_
                    have hMr : B.Loc w wr [] [St w []] := hLr.pick (rest := [.own (.slice A268 n269 c270) 27 4 n269 (x267.flatMap enc_api_Word), .own (.slice A46 n47 c48) 27 4 n47 (r44.1.flatMap enc_api_Word), .own (.slice A31 n32 c33) 27 4 n32 (r29.1.flatMap enc_api_Word)]) (perm_of_idx [] [0, 1, 2] rfl rfl (by kernel_rfl)) (sels [1] rfl)
                    have hMi : ∀ e ∈ ([] : List Ent), e ∈ ([.own (.slice A268 n269 c270) 27 4 n269 (x267.flatMap enc_api_Word), .own (.slice A46 n47 c48) 27 4 n47 (r44.1.flatMap enc_api_Word), .own (.slice A31 n32 c33) 27 4 n32 (r29.1.flatMap enc_api_Word)] : List Ent) := sels [] rfl
                    show trellislaw8_WordsApart_R w F  r (.returned (packV [.bool false])) wr
                    rw [h]
                    exact ⟨rfl, hMr⟩
              exact g_go [0, 1] (key2 _ h A144 n145 c146 h147) ⟨rfl, rfl, rfl, rfl, rfl, rfl, trivial⟩ (.cons_cons _ (.cons_cons _ (.cons_cons _ (.cons _ (.slnil))))) rfl
          refine g_nil 27 4 ?_
          exact g_go [0, 1] (key1 _ h none 0 0 (Ow.nil (z := w.heap.size))) ⟨rfl, rfl, rfl, rfl, rfl, rfl, rfl, trivial⟩ (.cons_cons _ (.cons_cons _ (.cons_cons _ (.cons_cons _ (.slnil))))) rfl
        · have h := if_neg' hp55 h
          refine g_true (c := trellislaw8_WordsApart_c32) rfl _ rfl ((neib hp55)) ?_
          refine g_seq (c := trellislaw8_WordsApart_c33) rfl ?_
          have j3 : ∀ (x320 : Bool) (h : trellislaw8_WordsApart_j3 x320 r) , G (trellislaw8_WordsApart_C w F r) [.code trellislaw8_WordsApart_c74, .code trellislaw8_WordsApart_c30] [(4, .bool x320)] [] [Sm w.heap.size F w [], St w []] := by
            intro x320 h
            unfold trellislaw8_WordsApart_j3 at h
            refine g_retR (c := trellislaw8_WordsApart_c74) [.bool x320] rfl Tryd.func6 rfl (.tmp rfl (.nil)) fun wr hLr => ?_
            have hMr : B.Loc w wr [] [St w []] := hLr.pick (rest := []) (perm_of_idx [] [] rfl rfl (by kernel_rfl)) (sels [1] rfl)
            have hMi : ∀ e ∈ ([] : List Ent), e ∈ ([] : List Ent) := sels [] rfl
            show trellislaw8_WordsApart_R w F  r (.returned (packV [.bool x320])) wr
            rw [h]
            exact ⟨rfl, hMr⟩
          refine g_region (c := trellislaw8_WordsApart_c73) rfl rfl ?_
          refine wl_v 0 rfl (v_move rfl) gn rfl ?_
          refine wl_v 1 rfl (v_move rfl) gn rfl ?_
          refine wl_v 2 rfl (v_bin rfl rfl rfl) gn rfl ?_
          refine wl_v 3 rfl (v_move rfl) gn rfl ?_
          by_cases hp321 : r44.2.1 = r29.2.1
          · have h := if_pos' hp321 h
            refine w_bool 67 rfl ((eqi hp321)) ?_
            refine wl_v 4 rfl (v_move rfl) (gy 67 rfl rfl) rfl ?_
            refine wl_v 5 rfl (v_move rfl) (gy 67 rfl rfl) rfl ?_
            refine wl_v 6 rfl (v_move rfl) (gy 67 rfl rfl) rfl ?_
            refine wl_v 7 rfl (v_lenS un_9 rfl) (gy 67 rfl rfl) rfl ?_
            refine wl_v 8 rfl (v_bin rfl rfl rfl) (gy 67 rfl rfl) rfl ?_
            refine wl_v 9 rfl (v_bin rfl rfl rfl) (gy 67 rfl rfl) rfl ?_
            refine wl_v 10 rfl (v_bin rfl rfl rfl) (gy 67 rfl rfl) rfl ?_
            refine wl_v 11 rfl (v_pick (b := true) rfl rfl) gn rfl ?_
            refine wl_v 12 rfl (v_move rfl) gn rfl ?_
            by_cases hp322 : r44.2.2 = w64 ((w64 (r29.2.2 + (x1.size : Int))) + 1)
            · have h := if_pos' hp322 h
              refine w_bool 76 rfl ((eqi hp322)) ?_
              refine wl_v 13 rfl (v_move rfl) (gy 76 rfl rfl) rfl ?_
              refine wl_v 14 rfl (v_lenQ un_22 rfl (Ow.weak hL42.env.size h49).hq) (gy 76 rfl rfl) rfl ?_
              refine wl_v 15 rfl (v_bin rfl rfl rfl) (gy 76 rfl rfl) rfl ?_
              refine wl_v 16 rfl (v_pick (b := true) rfl rfl) gn rfl ?_
              refine wl_v 17 rfl (v_assign rfl) gn rfl ?_
              refine w_end 18 rfl ?_
              exact g_go [0, 1] (j3 ((r44.1.length : Int) == 0) h) ⟨rfl, trivial⟩ (.cons _ (.cons _ (.cons _ (.slnil)))) rfl
            · have h := if_neg' hp322 h
              refine w_bool 76 rfl ((nei hp322)) ?_
              refine wl_pass 13 rfl (ps 76 rfl rfl rfl) ?_
              refine wl_pass 14 rfl (ps 76 rfl rfl rfl) ?_
              refine wl_pass 15 rfl (ps 76 rfl rfl rfl) ?_
              refine wl_v 16 rfl (v_pick (b := false) rfl rfl) gn rfl ?_
              refine wl_v 17 rfl (v_assign rfl) gn rfl ?_
              refine w_end 18 rfl ?_
              exact g_go [0, 1] (j3 false h) ⟨rfl, trivial⟩ (.cons _ (.cons _ (.cons _ (.slnil)))) rfl
          · have h := if_neg' hp321 h
            refine w_bool 67 rfl ((nei hp321)) ?_
            refine wl_pass 4 rfl (ps 67 rfl rfl rfl) ?_
            refine wl_pass 5 rfl (ps 67 rfl rfl rfl) ?_
            refine wl_pass 6 rfl (ps 67 rfl rfl rfl) ?_
            refine wl_pass 7 rfl (ps 67 rfl rfl rfl) ?_
            refine wl_pass 8 rfl (ps 67 rfl rfl rfl) ?_
            refine wl_pass 9 rfl (ps 67 rfl rfl rfl) ?_
            refine wl_pass 10 rfl (ps 67 rfl rfl rfl) ?_
            refine wl_v 11 rfl (v_pick (b := false) rfl rfl) gn rfl ?_
            refine wl_v 12 rfl (v_move rfl) gn rfl ?_
            refine wl_pass 13 rfl (ps 76 rfl rfl rfl) ?_
            refine wl_pass 14 rfl (ps 76 rfl rfl rfl) ?_
            refine wl_pass 15 rfl (ps 76 rfl rfl rfl) ?_
            refine wl_v 16 rfl (v_pick (b := false) rfl rfl) gn rfl ?_
            refine wl_v 17 rfl (v_assign rfl) gn rfl ?_
            refine w_end 18 rfl ?_
            exact g_go [0, 1] (j3 false h) ⟨rfl, trivial⟩ (.cons _ (.cons _ (.cons _ (.slnil)))) rfl
      · have h := if_neg' hp54 h
        refine g_true (c := trellislaw8_WordsApart_c26) rfl _ rfl ((neib hp54)) ?_
        refine g_seq (c := trellislaw8_WordsApart_c27) rfl ?_
        have j4 : ∀ (x326 : Bool) (h : trellislaw8_WordsApart_j4 x326 r) , G (trellislaw8_WordsApart_C w F r) [.code trellislaw8_WordsApart_c76, .code trellislaw8_WordsApart_c24] [(4, .bool x326)] [] [Sm w.heap.size F w [], St w []] := by
          intro x326 h
          unfold trellislaw8_WordsApart_j4 at h
          refine g_retR (c := trellislaw8_WordsApart_c76) [.bool x326] rfl Tryd.func6 rfl (.tmp rfl (.nil)) fun wr hLr => ?_
          have hMr : B.Loc w wr [] [St w []] := hLr.pick (rest := []) (perm_of_idx [] [] rfl rfl (by kernel_rfl)) (sels [1] rfl)
          have hMi : ∀ e ∈ ([] : List Ent), e ∈ ([] : List Ent) := sels [] rfl
          show trellislaw8_WordsApart_R w F  r (.returned (packV [.bool x326])) wr
          rw [h]
          exact ⟨rfl, hMr⟩
        refine g_region (c := trellislaw8_WordsApart_c75) rfl rfl ?_
        refine wl_v 0 rfl (v_move rfl) gn rfl ?_
        refine wl_v 1 rfl (v_move rfl) gn rfl ?_
        refine wl_v 2 rfl (v_bin rfl rfl rfl) gn rfl ?_
        refine wl_v 3 rfl (v_move rfl) gn rfl ?_
        by_cases hp327 : r44.2.1 = r16.2.1
        · have h := if_pos' hp327 h
          refine w_bool 52 rfl ((eqi hp327)) ?_
          refine wl_v 4 rfl (v_move rfl) (gy 52 rfl rfl) rfl ?_
          refine wl_v 5 rfl (v_move rfl) (gy 52 rfl rfl) rfl ?_
          refine wl_v 6 rfl (v_bin rfl rfl rfl) (gy 52 rfl rfl) rfl ?_
          refine wl_v 7 rfl (v_pick (b := true) rfl rfl) gn rfl ?_
          refine wl_v 8 rfl (v_move rfl) gn rfl ?_
          by_cases hp328 : r44.2.2 = r16.2.2
          · have h := if_pos' hp328 h
            refine w_bool 57 rfl ((eqi hp328)) ?_
            refine wl_v 9 rfl (v_move rfl) (gy 57 rfl rfl) rfl ?_
            refine wl_v 10 rfl (v_lenQ un_22 rfl (Ow.weak hL42.env.size h49).hq) (gy 57 rfl rfl) rfl ?_
            refine wl_v 11 rfl (v_bin rfl rfl rfl) (gy 57 rfl rfl) rfl ?_
            refine wl_v 12 rfl (v_pick (b := true) rfl rfl) gn rfl ?_
            refine wl_v 13 rfl (v_assign rfl) gn rfl ?_
            refine w_end 14 rfl ?_
            exact g_go [0, 1] (j4 ((r44.1.length : Int) == 0) h) ⟨rfl, trivial⟩ (.cons _ (.cons _ (.cons _ (.slnil)))) rfl
          · have h := if_neg' hp328 h
            refine w_bool 57 rfl ((nei hp328)) ?_
            refine wl_pass 9 rfl (ps 57 rfl rfl rfl) ?_
            refine wl_pass 10 rfl (ps 57 rfl rfl rfl) ?_
            refine wl_pass 11 rfl (ps 57 rfl rfl rfl) ?_
            refine wl_v 12 rfl (v_pick (b := false) rfl rfl) gn rfl ?_
            refine wl_v 13 rfl (v_assign rfl) gn rfl ?_
            refine w_end 14 rfl ?_
            exact g_go [0, 1] (j4 false h) ⟨rfl, trivial⟩ (.cons _ (.cons _ (.cons _ (.slnil)))) rfl
        · have h := if_neg' hp327 h
          refine w_bool 52 rfl ((nei hp327)) ?_
          refine wl_pass 4 rfl (ps 52 rfl rfl rfl) ?_
          refine wl_pass 5 rfl (ps 52 rfl rfl rfl) ?_
          refine wl_pass 6 rfl (ps 52 rfl rfl rfl) ?_
          refine wl_v 7 rfl (v_pick (b := false) rfl rfl) gn rfl ?_
          refine wl_v 8 rfl (v_move rfl) gn rfl ?_
          refine wl_pass 9 rfl (ps 57 rfl rfl rfl) ?_
          refine wl_pass 10 rfl (ps 57 rfl rfl rfl) ?_
          refine wl_pass 11 rfl (ps 57 rfl rfl rfl) ?_
          refine wl_v 12 rfl (v_pick (b := false) rfl rfl) gn rfl ?_
          refine wl_v 13 rfl (v_assign rfl) gn rfl ?_
          refine w_end 14 rfl ?_
          exact g_go [0, 1] (j4 false h) ⟨rfl, trivial⟩ (.cons _ (.cons _ (.cons _ (.slnil)))) rfl
  · have h := if_neg' hp11 h
    refine g_true (c := trellislaw8_WordsApart_c6) rfl _ rfl ((nt (bf hp11))) ?_
    refine g_seq (c := trellislaw8_WordsApart_c7) rfl ?_
    refine g_region (c := trellislaw8_WordsApart_c77) rfl rfl ?_
    refine wl_v 0 rfl (v_assign rfl) gn rfl ?_
    refine w_end 1 rfl ?_
    refine g_retR (c := trellislaw8_WordsApart_c78) [.bool false] rfl Tryd.func6 rfl (.tmp rfl (.nil)) fun wr hLr => ?_
    have hMr : B.Loc w wr [] [St w []] := hLr.pick (rest := []) (perm_of_idx [] [] rfl rfl (by kernel_rfl)) (sels [1] rfl)
    have hMi : ∀ e ∈ ([] : List Ent), e ∈ ([] : List Ent) := sels [] rfl
    show trellislaw8_WordsApart_R w F  r (.returned (packV [.bool false])) wr
    rw [h]
    exact ⟨rfl, hMr⟩
noncomputable abbrev trellislaw8_WordsPlaces_c0 : Code := bodyOf Tryd.f7
noncomputable abbrev trellislaw8_WordsPlaces_c1 : Code := Code.fst trellislaw8_WordsPlaces_c0
noncomputable abbrev trellislaw8_WordsPlaces_c2 : Code := Code.snd trellislaw8_WordsPlaces_c0
noncomputable abbrev trellislaw8_WordsPlaces_c3 : Code := Code.fst trellislaw8_WordsPlaces_c2
noncomputable abbrev trellislaw8_WordsPlaces_c4 : Code := Code.snd trellislaw8_WordsPlaces_c2
noncomputable abbrev trellislaw8_WordsPlaces_c5 : Code := Code.fst trellislaw8_WordsPlaces_c3
noncomputable abbrev trellislaw8_WordsPlaces_c6 : Code := Code.snd trellislaw8_WordsPlaces_c3
noncomputable abbrev trellislaw8_WordsPlaces_c7 : Code := Code.fst trellislaw8_WordsPlaces_c6
noncomputable abbrev trellislaw8_WordsPlaces_c8 : Code := Code.snd trellislaw8_WordsPlaces_c6
noncomputable abbrev trellislaw8_WordsPlaces_c9 : Code := Code.fst trellislaw8_WordsPlaces_c4
noncomputable abbrev trellislaw8_WordsPlaces_c10 : Code := Code.snd trellislaw8_WordsPlaces_c4
noncomputable abbrev trellislaw8_WordsPlaces_c11 : Code := Code.fst trellislaw8_WordsPlaces_c10
noncomputable abbrev trellislaw8_WordsPlaces_c12 : Code := Code.snd trellislaw8_WordsPlaces_c10
noncomputable abbrev trellislaw8_WordsPlaces_c13 : Code := Code.fst trellislaw8_WordsPlaces_c11
noncomputable abbrev trellislaw8_WordsPlaces_c14 : Code := Code.snd trellislaw8_WordsPlaces_c11
noncomputable abbrev trellislaw8_WordsPlaces_c15 : Code := Code.fst trellislaw8_WordsPlaces_c14
noncomputable abbrev trellislaw8_WordsPlaces_c16 : Code := Code.snd trellislaw8_WordsPlaces_c14
noncomputable abbrev trellislaw8_WordsPlaces_c17 : Code := Code.fst trellislaw8_WordsPlaces_c12
noncomputable abbrev trellislaw8_WordsPlaces_c18 : Code := Code.snd trellislaw8_WordsPlaces_c12
noncomputable abbrev trellislaw8_WordsPlaces_c19 : Code := Code.fst trellislaw8_WordsPlaces_c17
noncomputable abbrev trellislaw8_WordsPlaces_c20 : Code := Code.snd trellislaw8_WordsPlaces_c17
noncomputable abbrev trellislaw8_WordsPlaces_c21 : Code := Code.fst trellislaw8_WordsPlaces_c20
noncomputable abbrev trellislaw8_WordsPlaces_c22 : Code := Code.fst trellislaw8_WordsPlaces_c21
noncomputable abbrev trellislaw8_WordsPlaces_c23 : Code := Code.fst trellislaw8_WordsPlaces_c22
noncomputable abbrev trellislaw8_WordsPlaces_c24 : Code := Code.snd trellislaw8_WordsPlaces_c22
noncomputable abbrev trellislaw8_WordsPlaces_c25 : Code := Code.fst trellislaw8_WordsPlaces_c23
noncomputable abbrev trellislaw8_WordsPlaces_c26 : Code := Code.snd trellislaw8_WordsPlaces_c23
noncomputable abbrev trellislaw8_WordsPlaces_c27 : Code := Code.fst trellislaw8_WordsPlaces_c26
noncomputable abbrev trellislaw8_WordsPlaces_c28 : Code := Code.snd trellislaw8_WordsPlaces_c26
noncomputable abbrev trellislaw8_WordsPlaces_c29 : Code := Code.fst trellislaw8_WordsPlaces_c24
noncomputable abbrev trellislaw8_WordsPlaces_c30 : Code := Code.snd trellislaw8_WordsPlaces_c24
noncomputable abbrev trellislaw8_WordsPlaces_c31 : Code := Code.fst trellislaw8_WordsPlaces_c29
noncomputable abbrev trellislaw8_WordsPlaces_c32 : Code := Code.fst trellislaw8_WordsPlaces_c31
noncomputable abbrev trellislaw8_WordsPlaces_c33 : Code := Code.snd trellislaw8_WordsPlaces_c31
noncomputable abbrev trellislaw8_WordsPlaces_c34 : Code := Code.fst trellislaw8_WordsPlaces_c33
noncomputable abbrev trellislaw8_WordsPlaces_c35 : Code := Code.snd trellislaw8_WordsPlaces_c33
noncomputable abbrev trellislaw8_WordsPlaces_c36 : Code := Code.fst trellislaw8_WordsPlaces_c34
noncomputable abbrev trellislaw8_WordsPlaces_c37 : Code := Code.snd trellislaw8_WordsPlaces_c34
noncomputable abbrev trellislaw8_WordsPlaces_c38 : Code := Code.fst trellislaw8_WordsPlaces_c37
noncomputable abbrev trellislaw8_WordsPlaces_c39 : Code := Code.snd trellislaw8_WordsPlaces_c37
noncomputable abbrev trellislaw8_WordsPlaces_c40 : Code := Code.fst trellislaw8_WordsPlaces_c35
noncomputable abbrev trellislaw8_WordsPlaces_c41 : Code := Code.snd trellislaw8_WordsPlaces_c35
noncomputable abbrev trellislaw8_WordsPlaces_c42 : Code := Code.fst trellislaw8_WordsPlaces_c40
noncomputable abbrev trellislaw8_WordsPlaces_c43 : Code := Code.snd trellislaw8_WordsPlaces_c40
noncomputable abbrev trellislaw8_WordsPlaces_c44 : Code := Code.fst trellislaw8_WordsPlaces_c43
noncomputable abbrev trellislaw8_WordsPlaces_c45 : Code := Code.snd trellislaw8_WordsPlaces_c43
noncomputable abbrev trellislaw8_WordsPlaces_c46 : Code := Code.fst trellislaw8_WordsPlaces_c44
noncomputable abbrev trellislaw8_WordsPlaces_c47 : Code := Code.snd trellislaw8_WordsPlaces_c44
noncomputable abbrev trellislaw8_WordsPlaces_c48 : Code := Code.fst trellislaw8_WordsPlaces_c41
noncomputable abbrev trellislaw8_WordsPlaces_c49 : Code := Code.snd trellislaw8_WordsPlaces_c41
noncomputable abbrev trellislaw8_WordsPlaces_c50 : Code := Code.fst trellislaw8_WordsPlaces_c49
noncomputable abbrev trellislaw8_WordsPlaces_c51 : Code := Code.snd trellislaw8_WordsPlaces_c49
noncomputable abbrev trellislaw8_WordsPlaces_c52 : Code := Code.fst trellislaw8_WordsPlaces_c51
noncomputable abbrev trellislaw8_WordsPlaces_c53 : Code := Code.snd trellislaw8_WordsPlaces_c51
noncomputable abbrev trellislaw8_WordsPlaces_c54 : Code := Code.fst trellislaw8_WordsPlaces_c52
noncomputable abbrev trellislaw8_WordsPlaces_c55 : Code := Code.snd trellislaw8_WordsPlaces_c52
noncomputable abbrev trellislaw8_WordsPlaces_c56 : Code := Code.fst trellislaw8_WordsPlaces_c18
noncomputable abbrev trellislaw8_WordsPlaces_c57 : Code := Code.snd trellislaw8_WordsPlaces_c18
noncomputable abbrev trellislaw8_WordsPlaces_c58 : Code := Code.fst trellislaw8_WordsPlaces_c57
noncomputable abbrev trellislaw8_WordsPlaces_c59 : Code := Code.snd trellislaw8_WordsPlaces_c57
noncomputable abbrev trellislaw8_WordsPlaces_c60 : Code := Code.fst trellislaw8_WordsPlaces_c58
noncomputable abbrev trellislaw8_WordsPlaces_c61 : Code := Code.snd trellislaw8_WordsPlaces_c58
noncomputable abbrev trellislaw8_WordsPlaces_c62 : Code := Code.fst trellislaw8_WordsPlaces_c61
noncomputable abbrev trellislaw8_WordsPlaces_c63 : Code := Code.snd trellislaw8_WordsPlaces_c61
noncomputable abbrev trellislaw8_WordsPlaces_c64 : Code := Code.fst trellislaw8_WordsPlaces_c59
noncomputable abbrev trellislaw8_WordsPlaces_c65 : Code := Code.snd trellislaw8_WordsPlaces_c59
noncomputable abbrev trellislaw8_WordsPlaces_c66 : Code := Code.fst trellislaw8_WordsPlaces_c65
noncomputable abbrev trellislaw8_WordsPlaces_c67 : Code := Code.snd trellislaw8_WordsPlaces_c65
noncomputable abbrev trellislaw8_WordsPlaces_c68 : Code := Code.fst trellislaw8_WordsPlaces_c15
noncomputable abbrev trellislaw8_WordsPlaces_c69 : Code := Code.snd trellislaw8_WordsPlaces_c15
noncomputable abbrev trellislaw8_WordsPlaces_c70 : Code := Code.fst trellislaw8_WordsPlaces_c7
noncomputable abbrev trellislaw8_WordsPlaces_c71 : Code := Code.snd trellislaw8_WordsPlaces_c7
abbrev trellislaw8_WordsPlaces_R (w : World) (F : Nat → Prop) (r : Bool) : Ending → World → Prop := fun e w' => e = .returned (.bool r) ∧ B.Loc w w' [] [St w []]
noncomputable abbrev trellislaw8_WordsPlaces_C (w : World) (F : Nat → Prop) (r : Bool) : Cx := ⟨Tryd.prog, 7, Tryd.f7, 144, trellislaw8_WordsPlaces_R w F  r, w⟩
theorem trellislaw8_WordsPlaces_calls (w : World) (F : Nat → Prop) (x1 : ByteArray) (hG : Tb Tryd.prog (St w [])) (hF : ∀ b, F b → b < w.heap.size ∧ ∀ o ∈ ([] : List (List Nat)), b ∉ o) (hL0 : B.Loc w w [] [Sm w.heap.size F w [], St w []]) (r : Bool) (h : trellislaw8_WordsPlaces x1 r) : Calls Tryd.prog 7 #[.string x1] w (trellislaw8_WordsPlaces_R w F  r) := by
  unfold trellislaw8_WordsPlaces at h
  refine calls_of_Loc (vs := [.string x1]) 144 Tryd.func7 rfl Tryd.ntmps7 rfl hL0 ?_
  show G (trellislaw8_WordsPlaces_C w F r) _ _ _ _
  refine g_seq (c := trellislaw8_WordsPlaces_c0) rfl ?_
  refine g_region (c := trellislaw8_WordsPlaces_c1) rfl rfl ?_
  refine wl_v 0 rfl (v_assign rfl) gn rfl ?_
  refine w_end 1 rfl ?_
  refine g_seq (c := trellislaw8_WordsPlaces_c2) rfl ?_
  refine g_seq (c := trellislaw8_WordsPlaces_c3) rfl ?_
  refine g_region (c := trellislaw8_WordsPlaces_c5) rfl rfl ?_
  obtain ⟨r5, hv6, h⟩ := h
  refine wl_s 0 rfl (s_call [] rfl Tryd.func15 rfl rfl rfl fun w2 hL3 => ?_) gn
  have hp4 : List.Perm ([] : List Ent) (([] : List Ent) ++ ([] : List Ent)) := perm_of_idx [] [] rfl rfl (by kernel_rfl)
  refine Calls.mono (trellislaw8_started_calls w2 (Fl ([] : List Snap)) (hL3.tb hp4 hG (me 1 rfl)) (hL3.hFl (Sl := ([] : List Snap)) hp4 (sels [] rfl)) (hL3.into hp4 (Fl ([] : List Snap))) r5 hv6) ?_
  rintro _ w7 ⟨rfl, hM8⟩
  have hL9 := hL3.call hp4 hM8
  refine ⟨_, _, _, rfl, hL9, ?_⟩
  refine wl_v 1 rfl (v_not rfl) gn rfl ?_
  refine w_end 2 rfl ?_
  by_cases hp10 : r5 = true
  · have h := if_pos' hp10 h
    refine g_false (c := trellislaw8_WordsPlaces_c6) rfl _ rfl ((nf hp10)) ?_
    refine g_skip (c := trellislaw8_WordsPlaces_c8) rfl ?_
    refine g_seq (c := trellislaw8_WordsPlaces_c4) rfl ?_
    refine g_region (c := trellislaw8_WordsPlaces_c9) rfl rfl ?_
    refine wl_v 0 rfl (v_move rfl) gn rfl ?_
    obtain ⟨r14, hv15, h⟩ := h
    refine wl_s 1 rfl (s_call [.string x1] rfl Tryd.func16 rfl rfl rfl fun w11 hL12 => ?_) gn
    have hp13 : List.Perm ([] : List Ent) (([] : List Ent) ++ ([] : List Ent)) := perm_of_idx [] [] rfl rfl (by kernel_rfl)
    refine Calls.mono (words_Cut_calls w11 (Fl ([] : List Snap)) x1 (hL12.hFl (Sl := ([] : List Snap)) hp13 (sels [] rfl)) (hL12.into hp13 (Fl ([] : List Snap))) r14 hv15) ?_
    rintro _ w21 ⟨A16, n17, c18, rfl, hM22, h19⟩
    have hL23 := hL12.call hp13 hM22
    refine ⟨_, _, _, rfl, hL23, ?_⟩
    refine wl_v 2 rfl (v_move rfl) gn rfl ?_
    refine wl_v 3 rfl (v_extract rfl rfl) gn rfl ?_
    refine wl_v 4 rfl (v_extract rfl rfl) gn rfl ?_
    refine wl_v 5 rfl (v_extract rfl rfl) gn rfl ?_
    refine wl_v 6 rfl (v_assign rfl) gn rfl ?_
    refine wl_v 7 rfl (v_assign rfl) gn rfl ?_
    refine wl_v 8 rfl (v_assign rfl) gn rfl ?_
    refine w_end 9 rfl ?_
    refine g_seq (c := trellislaw8_WordsPlaces_c10) rfl ?_
    refine g_seq (c := trellislaw8_WordsPlaces_c11) rfl ?_
    refine g_region (c := trellislaw8_WordsPlaces_c13) rfl rfl ?_
    refine wl_v 0 rfl (v_move rfl) gn rfl ?_
    refine wl_v 1 rfl (v_bin rfl rfl rfl) gn rfl ?_
    refine w_end 2 rfl ?_
    by_cases hp24 : r14.2.1 = 0
    · have h := if_pos' hp24 h
      refine g_false (c := trellislaw8_WordsPlaces_c14) rfl _ rfl ((eqib hp24)) ?_
      refine g_skip (c := trellislaw8_WordsPlaces_c16) rfl ?_
      refine g_seq (c := trellislaw8_WordsPlaces_c12) rfl ?_
      refine g_seq (c := trellislaw8_WordsPlaces_c17) rfl ?_
      refine g_region (c := trellislaw8_WordsPlaces_c19) rfl rfl ?_
      refine wl_v 0 rfl (v_assign rfl) gn rfl ?_
      refine w_end 1 rfl ?_
      refine g_block (c := trellislaw8_WordsPlaces_c20) rfl ?_
      refine g_loop (c := trellislaw8_WordsPlaces_c21) rfl ?_
      have key1 : ∀ s, Rounds (fun (s : Int) o => trellislaw8_WordsPlaces_b1 r14 x1 s o) s r → (fun (s : Int) => ∀ (_ : Unit), G (trellislaw8_WordsPlaces_C w F r) [.code trellislaw8_WordsPlaces_c22, .inLoop trellislaw8_WordsPlaces_c22, .inBlock 0, .code trellislaw8_WordsPlaces_c18] [(0, .string x1), (3, .slice A16 n17 c18), (6, .int .i64 s)] [.own (.slice A16 n17 c18) 27 4 n17 (r14.1.flatMap enc_api_Word)] [Sm w.heap.size F w [], St w []]) s := by
        intro s hs
        refine Rounds.ind (mot := (fun (s : Int) => ∀ (_ : Unit), G (trellislaw8_WordsPlaces_C w F r) [.code trellislaw8_WordsPlaces_c22, .inLoop trellislaw8_WordsPlaces_c22, .inBlock 0, .code trellislaw8_WordsPlaces_c18] [(0, .string x1), (3, .slice A16 n17 c18), (6, .int .i64 s)] [.own (.slice A16 n17 c18) 27 4 n17 (r14.1.flatMap enc_api_Word)] [Sm w.heap.size F w [], St w []])) ?_ hs
        clear hs s
        intro x94 o1 h hO1
        show ∀ (_ : Unit), G (trellislaw8_WordsPlaces_C w F r) [.code trellislaw8_WordsPlaces_c22, .inLoop trellislaw8_WordsPlaces_c22, .inBlock 0, .code trellislaw8_WordsPlaces_c18] [(0, .string x1), (3, .slice A16 n17 c18), (6, .int .i64 x94)] [.own (.slice A16 n17 c18) 27 4 n17 (r14.1.flatMap enc_api_Word)] [Sm w.heap.size F w [], St w []]
        intro _
        have h : trellislaw8_WordsPlaces_b1 r14 x1 x94 o1 := h
        unfold trellislaw8_WordsPlaces_b1 at h
        refine g_seq (c := trellislaw8_WordsPlaces_c22) rfl ?_
        refine g_seq (c := trellislaw8_WordsPlaces_c23) rfl ?_
        refine g_region (c := trellislaw8_WordsPlaces_c25) rfl rfl ?_
        refine wl_v 0 rfl (v_move rfl) gn rfl ?_
        refine wl_v 1 rfl (v_move rfl) gn rfl ?_
        refine wl_v 2 rfl (v_lenQ un_22 rfl (Ow.weak hL12.env.size h19).hq) gn rfl ?_
        refine wl_v 3 rfl (v_bin rfl rfl rfl) gn rfl ?_
        refine w_end 4 rfl ?_
        by_cases hp166 : x94 < (r14.1.length : Int)
        · have h := if_pos' hp166 h
          refine g_true (c := trellislaw8_WordsPlaces_c26) rfl _ rfl ((decide_eq_true hp166)) ?_
          refine g_skip (c := trellislaw8_WordsPlaces_c27) rfl ?_
          refine g_seq (c := trellislaw8_WordsPlaces_c24) rfl ?_
          refine g_block (c := trellislaw8_WordsPlaces_c29) rfl ?_
          refine g_seq (c := trellislaw8_WordsPlaces_c31) rfl ?_
          refine g_region (c := trellislaw8_WordsPlaces_c32) rfl rfl ?_
          refine wl_v 0 rfl (v_move rfl) gn rfl ?_
          refine wl_v 1 rfl (v_lenS un_9 rfl) gn rfl ?_
          refine wl_v 2 rfl (v_assign rfl) gn rfl ?_
          refine w_end 3 rfl ?_
          refine g_seq (c := trellislaw8_WordsPlaces_c33) rfl ?_
          refine g_seq (c := trellislaw8_WordsPlaces_c34) rfl ?_
          refine g_region (c := trellislaw8_WordsPlaces_c36) rfl rfl ?_
          refine wl_v 0 rfl (v_move rfl) gn rfl ?_
          refine wl_v 1 rfl (v_bin rfl rfl rfl) gn rfl ?_
          refine wl_v 2 rfl (v_move rfl) gn rfl ?_
          refine wl_v 3 rfl (v_lenQ un_22 rfl (Ow.weak hL12.env.size h19).hq) gn rfl ?_
          refine wl_v 4 rfl (v_bin rfl rfl rfl) gn rfl ?_
          refine w_end 5 rfl ?_
          have j2 : ∀ (x170 : Int) (h : trellislaw8_WordsPlaces_j2 x94 r14 x1 x170 o1) , G (trellislaw8_WordsPlaces_C w F r) [.code trellislaw8_WordsPlaces_c35, .inBlock 1, .code trellislaw8_WordsPlaces_c30, .inLoop trellislaw8_WordsPlaces_c22, .inBlock 0, .code trellislaw8_WordsPlaces_c18] [(0, .string x1), (3, .slice A16 n17 c18), (6, .int .i64 x94), (7, .int .i64 x170)] [.own (.slice A16 n17 c18) 27 4 n17 (r14.1.flatMap enc_api_Word)] [Sm w.heap.size F w [], St w []] := by
            intro x170 h
            unfold trellislaw8_WordsPlaces_j2 at h
            refine g_seq (c := trellislaw8_WordsPlaces_c35) rfl ?_
            refine g_seq (c := trellislaw8_WordsPlaces_c40) rfl ?_
            have j3 : ∀ (x178 : Bool) (h : trellislaw8_WordsPlaces_j3 x94 r14 x170 x1 x178 o1) , G (trellislaw8_WordsPlaces_C w F r) [.code trellislaw8_WordsPlaces_c43, .code trellislaw8_WordsPlaces_c41, .inBlock 1, .code trellislaw8_WordsPlaces_c30, .inLoop trellislaw8_WordsPlaces_c22, .inBlock 0, .code trellislaw8_WordsPlaces_c18] [(0, .string x1), (3, .slice A16 n17 c18), (6, .int .i64 x94), (7, .int .i64 x170), (82, .bool x178)] [.own (.slice A16 n17 c18) 27 4 n17 (r14.1.flatMap enc_api_Word)] [Sm w.heap.size F w [], St w []] := by
              intro x178 h
              unfold trellislaw8_WordsPlaces_j3 at h
              by_cases hp179 : x178 = true
              · have h := if_pos' hp179 h
                refine g_true (c := trellislaw8_WordsPlaces_c43) rfl _ rfl (hp179) ?_
                refine g_seq (c := trellislaw8_WordsPlaces_c44) rfl ?_
                refine g_region (c := trellislaw8_WordsPlaces_c46) rfl rfl ?_
                refine wl_v 0 rfl (v_assign rfl) gn rfl ?_
                refine w_end 1 rfl ?_
                have h := Out.inr hO1 h
                refine g_retR (c := trellislaw8_WordsPlaces_c47) [.bool false] rfl Tryd.func7 rfl (.tmp rfl (.nil)) fun wr hLr => ?_
                have hMr : B.Loc w wr [] [St w []] := hLr.pick (rest := [.own (.slice A16 n17 c18) 27 4 n17 (r14.1.flatMap enc_api_Word)]) (perm_of_idx [] [0] rfl rfl (by kernel_rfl)) (sels [1] rfl)
                have hMi : ∀ e ∈ ([] : List Ent), e ∈ ([.own (.slice A16 n17 c18) 27 4 n17 (r14.1.flatMap enc_api_Word)] : List Ent) := sels [] rfl
                show trellislaw8_WordsPlaces_R w F  r (.returned (packV [.bool false])) wr
                rw [h]
                exact ⟨rfl, hMr⟩
              · have h := if_neg' hp179 h
                refine g_false (c := trellislaw8_WordsPlaces_c43) rfl _ rfl ((bf hp179)) ?_
                refine g_skip (c := trellislaw8_WordsPlaces_c45) rfl ?_
                refine g_seq (c := trellislaw8_WordsPlaces_c41) rfl ?_
                refine g_region (c := trellislaw8_WordsPlaces_c48) rfl rfl ?_
                refine wl_v 0 rfl (v_move rfl) gn rfl ?_
                refine wl_v 1 rfl (v_move rfl) gn rfl ?_
                refine wl_v 2 rfl (v_move rfl) gn rfl ?_
                obtain ⟨hb180, h⟩ := h
                refine wl_v 3 rfl (v_idxO slE_22 rfl rfl (Ow.weak hL12.env.size h19) hb180) gn rfl ?_
                refine wl_v 4 rfl (v_fldA fo_27_3 rfl) gn rfl ?_
                refine wl_v 5 rfl (v_ldO1 (.int .i64 ((ix r14.1 x94).at_)) 0 ld_3 rfl rfl (fm_get hl_api_Word hb180 rfl)) gn rfl ?_
                refine wl_v 6 rfl (v_move rfl) gn rfl ?_
                obtain ⟨hb181, h⟩ := h
                refine wl_v 7 rfl (v_cutS ((ix r14.1 x94).at_) x170 un_9 rfl (.inr ⟨_, _, rfl, rfl⟩) (.inr ⟨_, _, rfl, rfl⟩) ⟨hb181.1, hb181.2.1⟩ hb181.2.2) gn rfl ?_
                obtain ⟨r185, hv186, h⟩ := h
                refine wl_s 8 rfl (s_call [.string (x1.extract ((ix r14.1 x94).at_ : Int).toNat (x170 : Int).toNat)] rfl Tryd.func16 rfl rfl rfl fun w182 hL183 => ?_) gn
                have hp184 : List.Perm ([.own (.slice A16 n17 c18) 27 4 n17 (r14.1.flatMap enc_api_Word)] : List Ent) (([] : List Ent) ++ ([.own (.slice A16 n17 c18) 27 4 n17 (r14.1.flatMap enc_api_Word)] : List Ent)) := perm_of_idx [] [0] rfl rfl (by kernel_rfl)
                refine Calls.mono (words_Cut_calls w182 (Fl ([] : List Snap)) (x1.extract ((ix r14.1 x94).at_ : Int).toNat (x170 : Int).toNat) (hL183.hFl (Sl := ([] : List Snap)) hp184 (sels [] rfl)) (hL183.into hp184 (Fl ([] : List Snap))) r185 hv186) ?_
                rintro _ w192 ⟨A187, n188, c189, rfl, hM193, h190⟩
                have hL194 := hL183.call hp184 hM193
                refine ⟨_, _, _, rfl, hL194, ?_⟩
                refine wl_v 9 rfl (v_move rfl) gn rfl ?_
                refine wl_v 10 rfl (v_extract rfl rfl) gn rfl ?_
                refine wl_v 11 rfl (v_extract rfl rfl) gn rfl ?_
                refine wl_v 12 rfl (v_extract rfl rfl) gn rfl ?_
                refine wl_v 13 rfl (v_assign rfl) gn rfl ?_
                refine wl_v 14 rfl (v_assign rfl) gn rfl ?_
                refine wl_v 15 rfl (v_assign rfl) gn rfl ?_
                refine w_end 16 rfl ?_
                refine g_seq (c := trellislaw8_WordsPlaces_c49) rfl ?_
                refine g_region (c := trellislaw8_WordsPlaces_c50) rfl rfl ?_
                refine wl_v 0 rfl (v_move rfl) gn rfl ?_
                refine wl_v 1 rfl (v_bin rfl rfl rfl) gn rfl ?_
                refine wl_v 2 rfl (v_move rfl) gn rfl ?_
                by_cases hp195 : r185.2.1 = 0
                · have h := if_pos' hp195 h
                  refine w_bool 98 rfl ((eqib hp195)) ?_
                  refine wl_v 3 rfl (v_move rfl) (gy 98 rfl rfl) rfl ?_
                  refine wl_v 4 rfl (v_lenQ un_22 rfl (Ow.weak hL183.env.size h190).hq) (gy 98 rfl rfl) rfl ?_
                  refine wl_v 5 rfl (v_bin rfl rfl rfl) (gy 98 rfl rfl) rfl ?_
                  refine wl_v 6 rfl (v_pick (b := false) rfl rfl) gn rfl ?_
                  refine wl_v 7 rfl (v_move rfl) gn rfl ?_
                  by_cases hp196 : (r185.1.length : Int) = 1
                  · have h := if_pos' hp196 h
                    refine w_bool 103 rfl ((eqib hp196)) ?_
                    refine wl_v 8 rfl (v_move rfl) (gy 103 rfl rfl) rfl ?_
                    obtain ⟨hb197, h⟩ := h
                    refine wl_v 9 rfl (v_idxO slE_22 rfl rfl (Ow.weak hL183.env.size h190) hb197) (gy 103 rfl rfl) rfl ?_
                    refine wl_v 10 rfl (v_fldA fo_27_3 rfl) (gy 103 rfl rfl) rfl ?_
                    refine wl_v 11 rfl (v_ldO1 (.int .i64 ((ix r185.1 0).at_)) 0 ld_3 rfl rfl (fm_get hl_api_Word hb197 rfl)) (gy 103 rfl rfl) rfl ?_
                    refine wl_v 12 rfl (v_bin rfl rfl rfl) (gy 103 rfl rfl) rfl ?_
                    refine wl_v 13 rfl (v_pick (b := false) rfl rfl) gn rfl ?_
                    refine wl_v 14 rfl (v_move rfl) gn rfl ?_
                    by_cases hp198 : (ix r185.1 0).at_ = 0
                    · have h := if_pos' hp198 h
                      refine w_bool 110 rfl ((eqib hp198)) ?_
                      refine wl_v 15 rfl (v_move rfl) (gy 110 rfl rfl) rfl ?_
                      refine wl_v 16 rfl (v_move rfl) (gy 110 rfl rfl) rfl ?_
                      refine wl_v 17 rfl (v_move rfl) (gy 110 rfl rfl) rfl ?_
                      refine wl_v 18 rfl (v_move rfl) (gy 110 rfl rfl) rfl ?_
                      refine wl_v 19 rfl (v_bin rfl rfl rfl) (gy 110 rfl rfl) rfl ?_
                      obtain ⟨hb199, h⟩ := h
                      have hv200 : Vw 4 A16 n17 (x94 : Int).toNat ((w64 (x94 + 1) : Int).toNat - (x94 : Int).toNat) (if (((c18 : Nat) : Int) : Int).toNat = (x94 : Int).toNat then A16 else A16.map (·.add ((x94 : Int).toNat * 4))) := Vw.cut (by have q := hb199; have q1 := (Ow.weak hL12.env.size h19).hq; have q2 := (Ow.weak hL12.env.size h19).hn; omega) (by have q := hb199; have q1 := (Ow.weak hL12.env.size h19).hq; have q2 := (Ow.weak hL12.env.size h19).hn; omega) (by have q := hb199; have q1 := (Ow.weak hL12.env.size h19).hq; have q2 := (Ow.weak hL12.env.size h19).hn; omega)
                      refine wl_v 20 rfl (v_cut (sz := 4) (n := n17) (c := c18) x94 (w64 (x94 + 1)) ((c18 : Nat) : Int) slE_22 rfl (by_ rfl) (by_ rfl) bn (by have q := hb199; have q1 := (Ow.weak hL12.env.size h19).hq; have q2 := (Ow.weak hL12.env.size h19).hn; omega) (by have q := hb199; have q1 := (Ow.weak hL12.env.size h19).hq; have q2 := (Ow.weak hL12.env.size h19).hn; omega) (by have q := hb199; have q1 := (Ow.weak hL12.env.size h19).hq; have q2 := (Ow.weak hL12.env.size h19).hn; omega) (Ow.weak hL12.env.size h19).hn rfl) (gy 110 rfl rfl) rfl ?_
                      obtain ⟨r204, hv205, h⟩ := h
                      refine wl_s 21 rfl (s_call [.slice A187 n188 c189, .slice (if (((c18 : Nat) : Int) : Int).toNat = (x94 : Int).toNat then A16 else A16.map (·.add ((x94 : Int).toNat * 4))) ((w64 (x94 + 1) : Int).toNat - (x94 : Int).toNat) ((((c18 : Nat) : Int) : Int).toNat - (x94 : Int).toNat)] rfl Tryd.func18 rfl rfl rfl fun w201 hL202 => ?_) (gy 110 rfl rfl)
                      have hp203 : List.Perm ([.own (.slice A187 n188 c189) 27 4 n188 (r185.1.flatMap enc_api_Word), .own (.slice A16 n17 c18) 27 4 n17 (r14.1.flatMap enc_api_Word)] : List Ent) (([] : List Ent) ++ ([.own (.slice A187 n188 c189) 27 4 n188 (r185.1.flatMap enc_api_Word), .own (.slice A16 n17 c18) 27 4 n17 (r14.1.flatMap enc_api_Word)] : List Ent)) := perm_of_idx [] [0, 1] rfl rfl (by kernel_rfl)
                      refine Calls.mono (trellislaw8_alike_calls w201 (Fl ([] : List Snap)) r185.1 ((r14.1.drop (x94 : Int).toNat).take ((w64 (x94 + 1) : Int).toNat - (x94 : Int).toNat)) A187 n188 c189 (if (((c18 : Nat) : Int) : Int).toNat = (x94 : Int).toNat then A16 else A16.map (·.add ((x94 : Int).toNat * 4))) ((w64 (x94 + 1) : Int).toNat - (x94 : Int).toNat) ((((c18 : Nat) : Int) : Int).toNat - (x94 : Int).toNat) (hL202.argO (dk := k_api_Word) hp203 [] rfl 0 rfl rfl (Ow.weak hL183.env.size h190) (me 0 rfl) (Cells.flat _)) (hL202.argV (dk := k_api_Word) hp203 [] rfl 1 rfl rfl (Ow.weak hL12.env.size h19) (me 0 rfl) (Cells.flat _) hv200 (by have q := hb199; have q1 := (Ow.weak hL12.env.size h19).hq; have q2 := (Ow.weak hL12.env.size h19).hn; omega) (Nat.le_trans (Nat.sub_le _ _) (by have q := (Ow.weak hL12.env.size h19).hm; have q1 := hb199; omega))) (hL202.hFl (Sl := ([] : List Snap)) hp203 (sels [] rfl)) (hL202.into hp203 (Fl ([] : List Snap))) r204 hv205) ?_
                      rintro _ w206 ⟨rfl, hM207⟩
                      have hL208 := hL202.call hp203 hM207
                      refine ⟨_, _, _, rfl, hL208, ?_⟩
                      refine wl_v 22 rfl (v_not rfl) (gy 110 rfl rfl) rfl ?_
                      refine wl_v 23 rfl (v_pick (b := false) rfl rfl) gn rfl ?_
                      refine w_end 24 rfl ?_
                      by_cases hp209 : r204 = true
                      · have h := if_pos' hp209 h
                        refine g_false (c := trellislaw8_WordsPlaces_c51) rfl _ rfl ((nf hp209)) ?_
                        refine g_skip (c := trellislaw8_WordsPlaces_c53) rfl ?_
                        refine g_inBlock ?_
                        refine g_region (c := trellislaw8_WordsPlaces_c30) rfl rfl ?_
                        refine wl_v 0 rfl (v_move rfl) gn rfl ?_
                        refine wl_v 1 rfl (v_bin rfl rfl rfl) gn rfl ?_
                        refine wl_v 2 rfl (v_assign rfl) gn rfl ?_
                        refine w_end 3 rfl ?_
                        refine g_inLoop ?_
                        have ih := Out.inl hO1 h
                        exact g_go [0, 1] (ih ()) ⟨rfl, rfl, rfl, trivial⟩ (.cons _ (.cons_cons _ (.slnil))) rfl
                      · have h := if_neg' hp209 h
                        refine g_true (c := trellislaw8_WordsPlaces_c51) rfl _ rfl ((nt (bf hp209))) ?_
                        refine g_seq (c := trellislaw8_WordsPlaces_c52) rfl ?_
                        refine g_region (c := trellislaw8_WordsPlaces_c54) rfl rfl ?_
                        refine wl_v 0 rfl (v_assign rfl) gn rfl ?_
                        refine w_end 1 rfl ?_
                        have h := Out.inr hO1 h
                        refine g_retR (c := trellislaw8_WordsPlaces_c55) [.bool false] rfl Tryd.func7 rfl (.tmp rfl (.nil)) fun wr hLr => ?_
                        have hMr : B.Loc w wr [] [St w []] := hLr.pick (rest := [.own (.slice A187 n188 c189) 27 4 n188 (r185.1.flatMap enc_api_Word), .own (.slice A16 n17 c18) 27 4 n17 (r14.1.flatMap enc_api_Word)]) (perm_of_idx [] [0, 1] rfl rfl (by kernel_rfl)) (sels [1] rfl)
                        have hMi : ∀ e ∈ ([] : List Ent), e ∈ ([.own (.slice A187 n188 c189) 27 4 n188 (r185.1.flatMap enc_api_Word), .own (.slice A16 n17 c18) 27 4 n17 (r14.1.flatMap enc_api_Word)] : List Ent) := sels [] rfl
                        show trellislaw8_WordsPlaces_R w F  r (.returned (packV [.bool false])) wr
                        rw [h]
                        exact ⟨rfl, hMr⟩
                    · have h := if_neg' hp198 h
                      refine w_bool 110 rfl ((neib hp198)) ?_
                      refine wl_pass 15 rfl (ps 110 rfl rfl rfl) ?_
                      refine wl_pass 16 rfl (ps 110 rfl rfl rfl) ?_
                      refine wl_pass 17 rfl (ps 110 rfl rfl rfl) ?_
                      refine wl_pass 18 rfl (ps 110 rfl rfl rfl) ?_
                      refine wl_pass 19 rfl (ps 110 rfl rfl rfl) ?_
                      refine wl_pass 20 rfl (ps 110 rfl rfl rfl) ?_
                      refine wl_pass 21 rfl (ps 110 rfl rfl rfl) ?_
                      refine wl_pass 22 rfl (ps 110 rfl rfl rfl) ?_
                      refine wl_v 23 rfl (v_pick (b := true) rfl rfl) gn rfl ?_
                      refine w_end 24 rfl ?_
                      refine g_true (c := trellislaw8_WordsPlaces_c51) rfl _ rfl (rfl) ?_
                      refine g_seq (c := trellislaw8_WordsPlaces_c52) rfl ?_
                      refine g_region (c := trellislaw8_WordsPlaces_c54) rfl rfl ?_
                      refine wl_v 0 rfl (v_assign rfl) gn rfl ?_
                      refine w_end 1 rfl ?_
                      have h := Out.inr hO1 h
                      refine g_retR (c := trellislaw8_WordsPlaces_c55) [.bool false] rfl Tryd.func7 rfl (.tmp rfl (.nil)) fun wr hLr => ?_
                      have hMr : B.Loc w wr [] [St w []] := hLr.pick (rest := [.own (.slice A187 n188 c189) 27 4 n188 (r185.1.flatMap enc_api_Word), .own (.slice A16 n17 c18) 27 4 n17 (r14.1.flatMap enc_api_Word)]) (perm_of_idx [] [0, 1] rfl rfl (by kernel_rfl)) (sels [1] rfl)
                      have hMi : ∀ e ∈ ([] : List Ent), e ∈ ([.own (.slice A187 n188 c189) 27 4 n188 (r185.1.flatMap enc_api_Word), .own (.slice A16 n17 c18) 27 4 n17 (r14.1.flatMap enc_api_Word)] : List Ent) := sels [] rfl
                      show trellislaw8_WordsPlaces_R w F  r (.returned (packV [.bool false])) wr
                      rw [h]
                      exact ⟨rfl, hMr⟩
                  · have h := if_neg' hp196 h
                    refine w_bool 103 rfl ((neib hp196)) ?_
                    refine wl_pass 8 rfl (ps 103 rfl rfl rfl) ?_
                    refine wl_pass 9 rfl (ps 103 rfl rfl rfl) ?_
                    refine wl_pass 10 rfl (ps 103 rfl rfl rfl) ?_
                    refine wl_pass 11 rfl (ps 103 rfl rfl rfl) ?_
                    refine wl_pass 12 rfl (ps 103 rfl rfl rfl) ?_
                    refine wl_v 13 rfl (v_pick (b := true) rfl rfl) gn rfl ?_
                    refine wl_v 14 rfl (v_move rfl) gn rfl ?_
                    refine wl_pass 15 rfl (ps 110 rfl rfl rfl) ?_
                    refine wl_pass 16 rfl (ps 110 rfl rfl rfl) ?_
                    refine wl_pass 17 rfl (ps 110 rfl rfl rfl) ?_
                    refine wl_pass 18 rfl (ps 110 rfl rfl rfl) ?_
                    refine wl_pass 19 rfl (ps 110 rfl rfl rfl) ?_
                    refine wl_pass 20 rfl (ps 110 rfl rfl rfl) ?_
                    refine wl_pass 21 rfl (ps 110 rfl rfl rfl) ?_
                    refine wl_pass 22 rfl (ps 110 rfl rfl rfl) ?_
                    refine wl_v 23 rfl (v_pick (b := true) rfl rfl) gn rfl ?_
                    refine w_end 24 rfl ?_
                    refine g_true (c := trellislaw8_WordsPlaces_c51) rfl _ rfl (rfl) ?_
                    refine g_seq (c := trellislaw8_WordsPlaces_c52) rfl ?_
                    refine g_region (c := trellislaw8_WordsPlaces_c54) rfl rfl ?_
                    refine wl_v 0 rfl (v_assign rfl) gn rfl ?_
                    refine w_end 1 rfl ?_
                    have h := Out.inr hO1 h
                    refine g_retR (c := trellislaw8_WordsPlaces_c55) [.bool false] rfl Tryd.func7 rfl (.tmp rfl (.nil)) fun wr hLr => ?_
                    have hMr : B.Loc w wr [] [St w []] := hLr.pick (rest := [.own (.slice A187 n188 c189) 27 4 n188 (r185.1.flatMap enc_api_Word), .own (.slice A16 n17 c18) 27 4 n17 (r14.1.flatMap enc_api_Word)]) (perm_of_idx [] [0, 1] rfl rfl (by kernel_rfl)) (sels [1] rfl)
                    have hMi : ∀ e ∈ ([] : List Ent), e ∈ ([.own (.slice A187 n188 c189) 27 4 n188 (r185.1.flatMap enc_api_Word), .own (.slice A16 n17 c18) 27 4 n17 (r14.1.flatMap enc_api_Word)] : List Ent) := sels [] rfl
                    show trellislaw8_WordsPlaces_R w F  r (.returned (packV [.bool false])) wr
                    rw [h]
                    exact ⟨rfl, hMr⟩
                · have h := if_neg' hp195 h
                  refine w_bool 98 rfl ((neib hp195)) ?_
                  refine wl_pass 3 rfl (ps 98 rfl rfl rfl) ?_
                  refine wl_pass 4 rfl (ps 98 rfl rfl rfl) ?_
                  refine wl_pass 5 rfl (ps 98 rfl rfl rfl) ?_
                  refine wl_v 6 rfl (v_pick (b := true) rfl rfl) gn rfl ?_
                  refine wl_v 7 rfl (v_move rfl) gn rfl ?_
                  refine wl_pass 8 rfl (ps 103 rfl rfl rfl) ?_
                  refine wl_pass 9 rfl (ps 103 rfl rfl rfl) ?_
                  refine wl_pass 10 rfl (ps 103 rfl rfl rfl) ?_
                  refine wl_pass 11 rfl (ps 103 rfl rfl rfl) ?_
                  refine wl_pass 12 rfl (ps 103 rfl rfl rfl) ?_
                  refine wl_v 13 rfl (v_pick (b := true) rfl rfl) gn rfl ?_
                  refine wl_v 14 rfl (v_move rfl) gn rfl ?_
                  refine wl_pass 15 rfl (ps 110 rfl rfl rfl) ?_
                  refine wl_pass 16 rfl (ps 110 rfl rfl rfl) ?_
                  refine wl_pass 17 rfl (ps 110 rfl rfl rfl) ?_
                  refine wl_pass 18 rfl (ps 110 rfl rfl rfl) ?_
                  refine wl_pass 19 rfl (ps 110 rfl rfl rfl) ?_
                  refine wl_pass 20 rfl (ps 110 rfl rfl rfl) ?_
                  refine wl_pass 21 rfl (ps 110 rfl rfl rfl) ?_
                  refine wl_pass 22 rfl (ps 110 rfl rfl rfl) ?_
                  refine wl_v 23 rfl (v_pick (b := true) rfl rfl) gn rfl ?_
                  refine w_end 24 rfl ?_
                  refine g_true (c := trellislaw8_WordsPlaces_c51) rfl _ rfl (rfl) ?_
                  refine g_seq (c := trellislaw8_WordsPlaces_c52) rfl ?_
                  refine g_region (c := trellislaw8_WordsPlaces_c54) rfl rfl ?_
                  refine wl_v 0 rfl (v_assign rfl) gn rfl ?_
                  refine w_end 1 rfl ?_
                  have h := Out.inr hO1 h
                  refine g_retR (c := trellislaw8_WordsPlaces_c55) [.bool false] rfl Tryd.func7 rfl (.tmp rfl (.nil)) fun wr hLr => ?_
                  have hMr : B.Loc w wr [] [St w []] := hLr.pick (rest := [.own (.slice A187 n188 c189) 27 4 n188 (r185.1.flatMap enc_api_Word), .own (.slice A16 n17 c18) 27 4 n17 (r14.1.flatMap enc_api_Word)]) (perm_of_idx [] [0, 1] rfl rfl (by kernel_rfl)) (sels [1] rfl)
                  have hMi : ∀ e ∈ ([] : List Ent), e ∈ ([.own (.slice A187 n188 c189) 27 4 n188 (r185.1.flatMap enc_api_Word), .own (.slice A16 n17 c18) 27 4 n17 (r14.1.flatMap enc_api_Word)] : List Ent) := sels [] rfl
                  show trellislaw8_WordsPlaces_R w F  r (.returned (packV [.bool false])) wr
                  rw [h]
                  exact ⟨rfl, hMr⟩
            obtain ⟨hb210, h⟩ := h
            by_cases hp211 : (ix r14.1 x94).at_ < 0
            · have h := if_pos' hp211 h
              have hns : Region.noSelect (Code.ops trellislaw8_WordsPlaces_c42) = true := by kernel_rfl
              refine g_drawF (c := trellislaw8_WordsPlaces_c42) [.own (.slice A16 n17 c18) 27 4 n17 (r14.1.flatMap enc_api_Word)] [Sm w.heap.size F w [], St w []] [] 39 rfl rfl mix rfl (.cons_cons _ (.slnil)) (sels [0, 1] rfl) ?_
              refine wf_v 0 rfl (v_move rfl) gn rfl hns (by kernel_rfl) (by kernel_rfl) rfl rfl ?_
              refine wf_v 1 rfl (v_move rfl) gn rfl hns (by kernel_rfl) (by kernel_rfl) rfl rfl ?_
              refine wf_v 2 rfl (v_idxO slE_22 rfl rfl (Ow.weak hL12.env.size h19) hb210) gn rfl hns (by kernel_rfl) (by kernel_rfl) rfl rfl ?_
              refine wf_v 3 rfl (v_fldA fo_27_3 rfl) gn rfl hns (by kernel_rfl) (by kernel_rfl) rfl rfl ?_
              refine wf_v 4 rfl (v_ldO1 (.int .i64 ((ix r14.1 x94).at_)) 0 ld_3 rfl rfl (fm_get hl_api_Word hb210 rfl)) gn rfl hns (by kernel_rfl) (by kernel_rfl) rfl rfl ?_
              refine wf_v 5 rfl (v_bin rfl rfl rfl) gn rfl hns (by kernel_rfl) (by kernel_rfl) rfl rfl ?_
              refine wf_v 6 rfl (v_move rfl) gn rfl hns (by kernel_rfl) (by kernel_rfl) rfl rfl ?_
              refine wf_bool 50 rfl ((decide_eq_true hp211)) ?_
              refine wf_pass 7 rfl (ps 50 rfl rfl rfl) hns (by kernel_rfl) (by kernel_rfl) rfl rfl ?_
              refine wf_pass 8 rfl (ps 50 rfl rfl rfl) hns (by kernel_rfl) (by kernel_rfl) rfl rfl ?_
              refine wf_pass 9 rfl (ps 50 rfl rfl rfl) hns (by kernel_rfl) (by kernel_rfl) rfl rfl ?_
              refine wf_pass 10 rfl (ps 50 rfl rfl rfl) hns (by kernel_rfl) (by kernel_rfl) rfl rfl ?_
              refine wf_pass 11 rfl (ps 50 rfl rfl rfl) hns (by kernel_rfl) (by kernel_rfl) rfl rfl ?_
              refine wf_pass 12 rfl (ps 50 rfl rfl rfl) hns (by kernel_rfl) (by kernel_rfl) rfl rfl ?_
              refine wf_pass 13 rfl (ps 50 rfl rfl rfl) hns (by kernel_rfl) (by kernel_rfl) rfl rfl ?_
              refine wf_v 14 rfl (v_pick (b := true) rfl rfl) gn rfl hns (by kernel_rfl) (by kernel_rfl) rfl rfl ?_
              refine wf_v 15 rfl (v_move rfl) gn rfl hns (by kernel_rfl) (by kernel_rfl) rfl rfl ?_
              refine wf_pass 16 rfl (ps 59 rfl rfl rfl) hns (by kernel_rfl) (by kernel_rfl) rfl rfl ?_
              refine wf_pass 17 rfl (ps 59 rfl rfl rfl) hns (by kernel_rfl) (by kernel_rfl) rfl rfl ?_
              refine wf_pass 18 rfl (ps 59 rfl rfl rfl) hns (by kernel_rfl) (by kernel_rfl) rfl rfl ?_
              refine wf_pass 19 rfl (ps 59 rfl rfl rfl) hns (by kernel_rfl) (by kernel_rfl) rfl rfl ?_
              refine wf_v 20 rfl (v_pick (b := true) rfl rfl) gn rfl hns (by kernel_rfl) (by kernel_rfl) rfl rfl ?_
              refine wf_v 21 rfl (v_move rfl) gn rfl hns (by kernel_rfl) (by kernel_rfl) rfl rfl ?_
              refine wf_pass 22 rfl (ps 65 rfl rfl rfl) hns (by kernel_rfl) (by kernel_rfl) rfl rfl ?_
              refine wf_pass 23 rfl (ps 65 rfl rfl rfl) hns (by kernel_rfl) (by kernel_rfl) rfl rfl ?_
              refine wf_pass 24 rfl (ps 65 rfl rfl rfl) hns (by kernel_rfl) (by kernel_rfl) rfl rfl ?_
              refine wf_pass 25 rfl (pu 68 rfl rfl) hns (by kernel_rfl) (by kernel_rfl) rfl rfl ?_
              refine wf_pass 26 rfl (pu 68 rfl rfl) hns (by kernel_rfl) (by kernel_rfl) rfl rfl ?_
              refine wf_pass 27 rfl (pu 68 rfl rfl) hns (by kernel_rfl) (by kernel_rfl) rfl rfl ?_
              refine wf_pass 28 rfl (pu 68 rfl rfl) hns (by kernel_rfl) (by kernel_rfl) rfl rfl ?_
              refine wf_pass 29 rfl (pu 68 rfl rfl) hns (by kernel_rfl) (by kernel_rfl) rfl rfl ?_
              refine wf_pass 30 rfl (pu 68 rfl rfl) hns (by kernel_rfl) (by kernel_rfl) rfl rfl ?_
              refine wf_pass 31 rfl (pu 68 rfl rfl) hns (by kernel_rfl) (by kernel_rfl) rfl rfl ?_
              refine wf_pass 32 rfl (pu 68 rfl rfl) hns (by kernel_rfl) (by kernel_rfl) rfl rfl ?_
              refine wf_pass 33 rfl (pu 68 rfl rfl) hns (by kernel_rfl) (by kernel_rfl) rfl rfl ?_
              refine wf_pass 34 rfl (pu 68 rfl rfl) hns (by kernel_rfl) (by kernel_rfl) rfl rfl ?_
              refine wf_pass 35 rfl (pu 68 rfl rfl) hns (by kernel_rfl) (by kernel_rfl) rfl rfl ?_
              refine wf_pass 36 rfl (pu 68 rfl rfl) hns (by kernel_rfl) (by kernel_rfl) rfl rfl ?_
              refine wf_pass 37 rfl (ps 65 rfl rfl rfl) hns (by kernel_rfl) (by kernel_rfl) rfl rfl ?_
              refine wf_v 38 rfl (v_pick (b := true) rfl rfl) gn rfl hns (by kernel_rfl) (by kernel_rfl) rfl rfl ?_
              refine wf_end (by kernel_rfl) ?_
              exact g_go [0, 1] (j3 true h) ⟨rfl, rfl, rfl, rfl, rfl, trivial⟩ (.cons_cons _ (.slnil)) rfl
            · have h := if_neg' hp211 h
              by_cases hp212 : (ix r14.1 x94).at_ ≥ x170
              · have h := if_pos' hp212 h
                have hns : Region.noSelect (Code.ops trellislaw8_WordsPlaces_c42) = true := by kernel_rfl
                refine g_drawF (c := trellislaw8_WordsPlaces_c42) [.own (.slice A16 n17 c18) 27 4 n17 (r14.1.flatMap enc_api_Word)] [Sm w.heap.size F w [], St w []] [] 39 rfl rfl mix rfl (.cons_cons _ (.slnil)) (sels [0, 1] rfl) ?_
                refine wf_v 0 rfl (v_move rfl) gn rfl hns (by kernel_rfl) (by kernel_rfl) rfl rfl ?_
                refine wf_v 1 rfl (v_move rfl) gn rfl hns (by kernel_rfl) (by kernel_rfl) rfl rfl ?_
                refine wf_v 2 rfl (v_idxO slE_22 rfl rfl (Ow.weak hL12.env.size h19) hb210) gn rfl hns (by kernel_rfl) (by kernel_rfl) rfl rfl ?_
                refine wf_v 3 rfl (v_fldA fo_27_3 rfl) gn rfl hns (by kernel_rfl) (by kernel_rfl) rfl rfl ?_
                refine wf_v 4 rfl (v_ldO1 (.int .i64 ((ix r14.1 x94).at_)) 0 ld_3 rfl rfl (fm_get hl_api_Word hb210 rfl)) gn rfl hns (by kernel_rfl) (by kernel_rfl) rfl rfl ?_
                refine wf_v 5 rfl (v_bin rfl rfl rfl) gn rfl hns (by kernel_rfl) (by kernel_rfl) rfl rfl ?_
                refine wf_v 6 rfl (v_move rfl) gn rfl hns (by kernel_rfl) (by kernel_rfl) rfl rfl ?_
                refine wf_bool 50 rfl ((decide_eq_false hp211)) ?_
                refine wf_v 7 rfl (v_move rfl) (gy 50 rfl rfl) rfl hns (by kernel_rfl) (by kernel_rfl) rfl rfl ?_
                refine wf_v 8 rfl (v_move rfl) (gy 50 rfl rfl) rfl hns (by kernel_rfl) (by kernel_rfl) rfl rfl ?_
                refine wf_v 9 rfl (v_idxO slE_22 rfl rfl (Ow.weak hL12.env.size h19) hb210) (gy 50 rfl rfl) rfl hns (by kernel_rfl) (by kernel_rfl) rfl rfl ?_
                refine wf_v 10 rfl (v_fldA fo_27_3 rfl) (gy 50 rfl rfl) rfl hns (by kernel_rfl) (by kernel_rfl) rfl rfl ?_
                refine wf_v 11 rfl (v_ldO1 (.int .i64 ((ix r14.1 x94).at_)) 0 ld_3 rfl rfl (fm_get hl_api_Word hb210 rfl)) (gy 50 rfl rfl) rfl hns (by kernel_rfl) (by kernel_rfl) rfl rfl ?_
                refine wf_v 12 rfl (v_move rfl) (gy 50 rfl rfl) rfl hns (by kernel_rfl) (by kernel_rfl) rfl rfl ?_
                refine wf_v 13 rfl (v_bin rfl rfl rfl) (gy 50 rfl rfl) rfl hns (by kernel_rfl) (by kernel_rfl) rfl rfl ?_
                refine wf_v 14 rfl (v_pick (b := false) rfl rfl) gn rfl hns (by kernel_rfl) (by kernel_rfl) rfl rfl ?_
                refine wf_v 15 rfl (v_move rfl) gn rfl hns (by kernel_rfl) (by kernel_rfl) rfl rfl ?_
                refine wf_bool 59 rfl ((decide_eq_true hp212)) ?_
                refine wf_pass 16 rfl (ps 59 rfl rfl rfl) hns (by kernel_rfl) (by kernel_rfl) rfl rfl ?_
                refine wf_pass 17 rfl (ps 59 rfl rfl rfl) hns (by kernel_rfl) (by kernel_rfl) rfl rfl ?_
                refine wf_pass 18 rfl (ps 59 rfl rfl rfl) hns (by kernel_rfl) (by kernel_rfl) rfl rfl ?_
                refine wf_pass 19 rfl (ps 59 rfl rfl rfl) hns (by kernel_rfl) (by kernel_rfl) rfl rfl ?_
                refine wf_v 20 rfl (v_pick (b := true) rfl rfl) gn rfl hns (by kernel_rfl) (by kernel_rfl) rfl rfl ?_
                refine wf_v 21 rfl (v_move rfl) gn rfl hns (by kernel_rfl) (by kernel_rfl) rfl rfl ?_
                refine wf_pass 22 rfl (ps 65 rfl rfl rfl) hns (by kernel_rfl) (by kernel_rfl) rfl rfl ?_
                refine wf_pass 23 rfl (ps 65 rfl rfl rfl) hns (by kernel_rfl) (by kernel_rfl) rfl rfl ?_
                refine wf_pass 24 rfl (ps 65 rfl rfl rfl) hns (by kernel_rfl) (by kernel_rfl) rfl rfl ?_
                refine wf_pass 25 rfl (pu 68 rfl rfl) hns (by kernel_rfl) (by kernel_rfl) rfl rfl ?_
                refine wf_pass 26 rfl (pu 68 rfl rfl) hns (by kernel_rfl) (by kernel_rfl) rfl rfl ?_
                refine wf_pass 27 rfl (pu 68 rfl rfl) hns (by kernel_rfl) (by kernel_rfl) rfl rfl ?_
                refine wf_pass 28 rfl (pu 68 rfl rfl) hns (by kernel_rfl) (by kernel_rfl) rfl rfl ?_
                refine wf_pass 29 rfl (pu 68 rfl rfl) hns (by kernel_rfl) (by kernel_rfl) rfl rfl ?_
                refine wf_pass 30 rfl (pu 68 rfl rfl) hns (by kernel_rfl) (by kernel_rfl) rfl rfl ?_
                refine wf_pass 31 rfl (pu 68 rfl rfl) hns (by kernel_rfl) (by kernel_rfl) rfl rfl ?_
                refine wf_pass 32 rfl (pu 68 rfl rfl) hns (by kernel_rfl) (by kernel_rfl) rfl rfl ?_
                refine wf_pass 33 rfl (pu 68 rfl rfl) hns (by kernel_rfl) (by kernel_rfl) rfl rfl ?_
                refine wf_pass 34 rfl (pu 68 rfl rfl) hns (by kernel_rfl) (by kernel_rfl) rfl rfl ?_
                refine wf_pass 35 rfl (pu 68 rfl rfl) hns (by kernel_rfl) (by kernel_rfl) rfl rfl ?_
                refine wf_pass 36 rfl (pu 68 rfl rfl) hns (by kernel_rfl) (by kernel_rfl) rfl rfl ?_
                refine wf_pass 37 rfl (ps 65 rfl rfl rfl) hns (by kernel_rfl) (by kernel_rfl) rfl rfl ?_
                refine wf_v 38 rfl (v_pick (b := true) rfl rfl) gn rfl hns (by kernel_rfl) (by kernel_rfl) rfl rfl ?_
                refine wf_end (by kernel_rfl) ?_
                exact g_go [0, 1] (j3 true h) ⟨rfl, rfl, rfl, rfl, rfl, trivial⟩ (.cons_cons _ (.slnil)) rfl
              · have h := if_neg' hp212 h
                by_cases hp213 : x170 > (x1.size : Int)
                · have h := if_pos' hp213 h
                  have hns : Region.noSelect (Code.ops trellislaw8_WordsPlaces_c42) = true := by kernel_rfl
                  refine g_drawF (c := trellislaw8_WordsPlaces_c42) [.own (.slice A16 n17 c18) 27 4 n17 (r14.1.flatMap enc_api_Word)] [Sm w.heap.size F w [], St w []] [] 39 rfl rfl mix rfl (.cons_cons _ (.slnil)) (sels [0, 1] rfl) ?_
                  refine wf_v 0 rfl (v_move rfl) gn rfl hns (by kernel_rfl) (by kernel_rfl) rfl rfl ?_
                  refine wf_v 1 rfl (v_move rfl) gn rfl hns (by kernel_rfl) (by kernel_rfl) rfl rfl ?_
                  refine wf_v 2 rfl (v_idxO slE_22 rfl rfl (Ow.weak hL12.env.size h19) hb210) gn rfl hns (by kernel_rfl) (by kernel_rfl) rfl rfl ?_
                  refine wf_v 3 rfl (v_fldA fo_27_3 rfl) gn rfl hns (by kernel_rfl) (by kernel_rfl) rfl rfl ?_
                  refine wf_v 4 rfl (v_ldO1 (.int .i64 ((ix r14.1 x94).at_)) 0 ld_3 rfl rfl (fm_get hl_api_Word hb210 rfl)) gn rfl hns (by kernel_rfl) (by kernel_rfl) rfl rfl ?_
                  refine wf_v 5 rfl (v_bin rfl rfl rfl) gn rfl hns (by kernel_rfl) (by kernel_rfl) rfl rfl ?_
                  refine wf_v 6 rfl (v_move rfl) gn rfl hns (by kernel_rfl) (by kernel_rfl) rfl rfl ?_
                  refine wf_bool 50 rfl ((decide_eq_false hp211)) ?_
                  refine wf_v 7 rfl (v_move rfl) (gy 50 rfl rfl) rfl hns (by kernel_rfl) (by kernel_rfl) rfl rfl ?_
                  refine wf_v 8 rfl (v_move rfl) (gy 50 rfl rfl) rfl hns (by kernel_rfl) (by kernel_rfl) rfl rfl ?_
                  refine wf_v 9 rfl (v_idxO slE_22 rfl rfl (Ow.weak hL12.env.size h19) hb210) (gy 50 rfl rfl) rfl hns (by kernel_rfl) (by kernel_rfl) rfl rfl ?_
                  refine wf_v 10 rfl (v_fldA fo_27_3 rfl) (gy 50 rfl rfl) rfl hns (by kernel_rfl) (by kernel_rfl) rfl rfl ?_
                  refine wf_v 11 rfl (v_ldO1 (.int .i64 ((ix r14.1 x94).at_)) 0 ld_3 rfl rfl (fm_get hl_api_Word hb210 rfl)) (gy 50 rfl rfl) rfl hns (by kernel_rfl) (by kernel_rfl) rfl rfl ?_
                  refine wf_v 12 rfl (v_move rfl) (gy 50 rfl rfl) rfl hns (by kernel_rfl) (by kernel_rfl) rfl rfl ?_
                  refine wf_v 13 rfl (v_bin rfl rfl rfl) (gy 50 rfl rfl) rfl hns (by kernel_rfl) (by kernel_rfl) rfl rfl ?_
                  refine wf_v 14 rfl (v_pick (b := false) rfl rfl) gn rfl hns (by kernel_rfl) (by kernel_rfl) rfl rfl ?_
                  refine wf_v 15 rfl (v_move rfl) gn rfl hns (by kernel_rfl) (by kernel_rfl) rfl rfl ?_
                  refine wf_bool 59 rfl ((decide_eq_false hp212)) ?_
                  refine wf_v 16 rfl (v_move rfl) (gy 59 rfl rfl) rfl hns (by kernel_rfl) (by kernel_rfl) rfl rfl ?_
                  refine wf_v 17 rfl (v_move rfl) (gy 59 rfl rfl) rfl hns (by kernel_rfl) (by kernel_rfl) rfl rfl ?_
                  refine wf_v 18 rfl (v_lenS un_9 rfl) (gy 59 rfl rfl) rfl hns (by kernel_rfl) (by kernel_rfl) rfl rfl ?_
                  refine wf_v 19 rfl (v_bin rfl rfl rfl) (gy 59 rfl rfl) rfl hns (by kernel_rfl) (by kernel_rfl) rfl rfl ?_
                  refine wf_v 20 rfl (v_pick (b := false) rfl rfl) gn rfl hns (by kernel_rfl) (by kernel_rfl) rfl rfl ?_
                  refine wf_v 21 rfl (v_move rfl) gn rfl hns (by kernel_rfl) (by kernel_rfl) rfl rfl ?_
                  refine wf_bool 65 rfl ((decide_eq_true hp213)) ?_
                  refine wf_pass 22 rfl (ps 65 rfl rfl rfl) hns (by kernel_rfl) (by kernel_rfl) rfl rfl ?_
                  refine wf_pass 23 rfl (ps 65 rfl rfl rfl) hns (by kernel_rfl) (by kernel_rfl) rfl rfl ?_
                  refine wf_pass 24 rfl (ps 65 rfl rfl rfl) hns (by kernel_rfl) (by kernel_rfl) rfl rfl ?_
                  refine wf_pass 25 rfl (pu 68 rfl rfl) hns (by kernel_rfl) (by kernel_rfl) rfl rfl ?_
                  refine wf_pass 26 rfl (pu 68 rfl rfl) hns (by kernel_rfl) (by kernel_rfl) rfl rfl ?_
                  refine wf_pass 27 rfl (pu 68 rfl rfl) hns (by kernel_rfl) (by kernel_rfl) rfl rfl ?_
                  refine wf_pass 28 rfl (pu 68 rfl rfl) hns (by kernel_rfl) (by kernel_rfl) rfl rfl ?_
                  refine wf_pass 29 rfl (pu 68 rfl rfl) hns (by kernel_rfl) (by kernel_rfl) rfl rfl ?_
                  refine wf_pass 30 rfl (pu 68 rfl rfl) hns (by kernel_rfl) (by kernel_rfl) rfl rfl ?_
                  refine wf_pass 31 rfl (pu 68 rfl rfl) hns (by kernel_rfl) (by kernel_rfl) rfl rfl ?_
                  refine wf_pass 32 rfl (pu 68 rfl rfl) hns (by kernel_rfl) (by kernel_rfl) rfl rfl ?_
                  refine wf_pass 33 rfl (pu 68 rfl rfl) hns (by kernel_rfl) (by kernel_rfl) rfl rfl ?_
                  refine wf_pass 34 rfl (pu 68 rfl rfl) hns (by kernel_rfl) (by kernel_rfl) rfl rfl ?_
                  refine wf_pass 35 rfl (pu 68 rfl rfl) hns (by kernel_rfl) (by kernel_rfl) rfl rfl ?_
                  refine wf_pass 36 rfl (pu 68 rfl rfl) hns (by kernel_rfl) (by kernel_rfl) rfl rfl ?_
                  refine wf_pass 37 rfl (ps 65 rfl rfl rfl) hns (by kernel_rfl) (by kernel_rfl) rfl rfl ?_
                  refine wf_v 38 rfl (v_pick (b := true) rfl rfl) gn rfl hns (by kernel_rfl) (by kernel_rfl) rfl rfl ?_
                  refine wf_end (by kernel_rfl) ?_
                  exact g_go [0, 1] (j3 true h) ⟨rfl, rfl, rfl, rfl, rfl, trivial⟩ (.cons_cons _ (.slnil)) rfl
                · have h := if_neg' hp213 h
                  by_cases hp214 : x94 > 0
                  · have h := if_pos' hp214 h
                    obtain ⟨hb215, h⟩ := h
                    have hns : Region.noSelect (Code.ops trellislaw8_WordsPlaces_c42) = true := by kernel_rfl
                    refine g_drawF (c := trellislaw8_WordsPlaces_c42) [.own (.slice A16 n17 c18) 27 4 n17 (r14.1.flatMap enc_api_Word)] [Sm w.heap.size F w [], St w []] [] 39 rfl rfl mix rfl (.cons_cons _ (.slnil)) (sels [0, 1] rfl) ?_
                    refine wf_v 0 rfl (v_move rfl) gn rfl hns (by kernel_rfl) (by kernel_rfl) rfl rfl ?_
                    refine wf_v 1 rfl (v_move rfl) gn rfl hns (by kernel_rfl) (by kernel_rfl) rfl rfl ?_
                    refine wf_v 2 rfl (v_idxO slE_22 rfl rfl (Ow.weak hL12.env.size h19) hb210) gn rfl hns (by kernel_rfl) (by kernel_rfl) rfl rfl ?_
                    refine wf_v 3 rfl (v_fldA fo_27_3 rfl) gn rfl hns (by kernel_rfl) (by kernel_rfl) rfl rfl ?_
                    refine wf_v 4 rfl (v_ldO1 (.int .i64 ((ix r14.1 x94).at_)) 0 ld_3 rfl rfl (fm_get hl_api_Word hb210 rfl)) gn rfl hns (by kernel_rfl) (by kernel_rfl) rfl rfl ?_
                    refine wf_v 5 rfl (v_bin rfl rfl rfl) gn rfl hns (by kernel_rfl) (by kernel_rfl) rfl rfl ?_
                    refine wf_v 6 rfl (v_move rfl) gn rfl hns (by kernel_rfl) (by kernel_rfl) rfl rfl ?_
                    refine wf_bool 50 rfl ((decide_eq_false hp211)) ?_
                    refine wf_v 7 rfl (v_move rfl) (gy 50 rfl rfl) rfl hns (by kernel_rfl) (by kernel_rfl) rfl rfl ?_
                    refine wf_v 8 rfl (v_move rfl) (gy 50 rfl rfl) rfl hns (by kernel_rfl) (by kernel_rfl) rfl rfl ?_
                    refine wf_v 9 rfl (v_idxO slE_22 rfl rfl (Ow.weak hL12.env.size h19) hb210) (gy 50 rfl rfl) rfl hns (by kernel_rfl) (by kernel_rfl) rfl rfl ?_
                    refine wf_v 10 rfl (v_fldA fo_27_3 rfl) (gy 50 rfl rfl) rfl hns (by kernel_rfl) (by kernel_rfl) rfl rfl ?_
                    refine wf_v 11 rfl (v_ldO1 (.int .i64 ((ix r14.1 x94).at_)) 0 ld_3 rfl rfl (fm_get hl_api_Word hb210 rfl)) (gy 50 rfl rfl) rfl hns (by kernel_rfl) (by kernel_rfl) rfl rfl ?_
                    refine wf_v 12 rfl (v_move rfl) (gy 50 rfl rfl) rfl hns (by kernel_rfl) (by kernel_rfl) rfl rfl ?_
                    refine wf_v 13 rfl (v_bin rfl rfl rfl) (gy 50 rfl rfl) rfl hns (by kernel_rfl) (by kernel_rfl) rfl rfl ?_
                    refine wf_v 14 rfl (v_pick (b := false) rfl rfl) gn rfl hns (by kernel_rfl) (by kernel_rfl) rfl rfl ?_
                    refine wf_v 15 rfl (v_move rfl) gn rfl hns (by kernel_rfl) (by kernel_rfl) rfl rfl ?_
                    refine wf_bool 59 rfl ((decide_eq_false hp212)) ?_
                    refine wf_v 16 rfl (v_move rfl) (gy 59 rfl rfl) rfl hns (by kernel_rfl) (by kernel_rfl) rfl rfl ?_
                    refine wf_v 17 rfl (v_move rfl) (gy 59 rfl rfl) rfl hns (by kernel_rfl) (by kernel_rfl) rfl rfl ?_
                    refine wf_v 18 rfl (v_lenS un_9 rfl) (gy 59 rfl rfl) rfl hns (by kernel_rfl) (by kernel_rfl) rfl rfl ?_
                    refine wf_v 19 rfl (v_bin rfl rfl rfl) (gy 59 rfl rfl) rfl hns (by kernel_rfl) (by kernel_rfl) rfl rfl ?_
                    refine wf_v 20 rfl (v_pick (b := false) rfl rfl) gn rfl hns (by kernel_rfl) (by kernel_rfl) rfl rfl ?_
                    refine wf_v 21 rfl (v_move rfl) gn rfl hns (by kernel_rfl) (by kernel_rfl) rfl rfl ?_
                    refine wf_bool 65 rfl ((decide_eq_false hp213)) ?_
                    refine wf_v 22 rfl (v_move rfl) (gy 65 rfl rfl) rfl hns (by kernel_rfl) (by kernel_rfl) rfl rfl ?_
                    refine wf_v 23 rfl (v_bin rfl rfl rfl) (gy 65 rfl rfl) rfl hns (by kernel_rfl) (by kernel_rfl) rfl rfl ?_
                    refine wf_v 24 rfl (v_move rfl) (gy 65 rfl rfl) rfl hns (by kernel_rfl) (by kernel_rfl) rfl rfl ?_
                    refine wf_bool 68 rfl ((decide_eq_true hp214)) ?_
                    refine wf_v 25 rfl (v_move rfl) (gy 68 rfl rfl) rfl hns (by kernel_rfl) (by kernel_rfl) rfl rfl ?_
                    refine wf_v 26 rfl (v_move rfl) (gy 68 rfl rfl) rfl hns (by kernel_rfl) (by kernel_rfl) rfl rfl ?_
                    refine wf_v 27 rfl (v_idxO slE_22 rfl rfl (Ow.weak hL12.env.size h19) hb210) (gy 68 rfl rfl) rfl hns (by kernel_rfl) (by kernel_rfl) rfl rfl ?_
                    refine wf_v 28 rfl (v_fldA fo_27_3 rfl) (gy 68 rfl rfl) rfl hns (by kernel_rfl) (by kernel_rfl) rfl rfl ?_
                    refine wf_v 29 rfl (v_ldO1 (.int .i64 ((ix r14.1 x94).at_)) 0 ld_3 rfl rfl (fm_get hl_api_Word hb210 rfl)) (gy 68 rfl rfl) rfl hns (by kernel_rfl) (by kernel_rfl) rfl rfl ?_
                    refine wf_v 30 rfl (v_move rfl) (gy 68 rfl rfl) rfl hns (by kernel_rfl) (by kernel_rfl) rfl rfl ?_
                    refine wf_v 31 rfl (v_move rfl) (gy 68 rfl rfl) rfl hns (by kernel_rfl) (by kernel_rfl) rfl rfl ?_
                    refine wf_v 32 rfl (v_bin rfl rfl rfl) (gy 68 rfl rfl) rfl hns (by kernel_rfl) (by kernel_rfl) rfl rfl ?_
                    refine wf_v 33 rfl (v_idxO slE_22 rfl rfl (Ow.weak hL12.env.size h19) hb215) (gy 68 rfl rfl) rfl hns (by kernel_rfl) (by kernel_rfl) rfl rfl ?_
                    refine wf_v 34 rfl (v_fldA fo_27_3 rfl) (gy 68 rfl rfl) rfl hns (by kernel_rfl) (by kernel_rfl) rfl rfl ?_
                    refine wf_v 35 rfl (v_ldO1 (.int .i64 ((ix r14.1 (w64 (x94 - 1))).at_)) 0 ld_3 rfl rfl (fm_get hl_api_Word hb215 rfl)) (gy 68 rfl rfl) rfl hns (by kernel_rfl) (by kernel_rfl) rfl rfl ?_
                    refine wf_v 36 rfl (v_bin rfl rfl rfl) (gy 68 rfl rfl) rfl hns (by kernel_rfl) (by kernel_rfl) rfl rfl ?_
                    refine wf_v 37 rfl (v_pick (b := true) rfl rfl) (gy 65 rfl rfl) rfl hns (by kernel_rfl) (by kernel_rfl) rfl rfl ?_
                    refine wf_v 38 rfl (v_pick (b := false) rfl rfl) gn rfl hns (by kernel_rfl) (by kernel_rfl) rfl rfl ?_
                    refine wf_end (by kernel_rfl) ?_
                    exact g_go [0, 1] (j3 (decide ((ix r14.1 x94).at_ ≤ (ix r14.1 (w64 (x94 - 1))).at_)) h) ⟨rfl, rfl, rfl, rfl, rfl, trivial⟩ (.cons_cons _ (.slnil)) rfl
                  · have h := if_neg' hp214 h
                    have hns : Region.noSelect (Code.ops trellislaw8_WordsPlaces_c42) = true := by kernel_rfl
                    refine g_drawF (c := trellislaw8_WordsPlaces_c42) [.own (.slice A16 n17 c18) 27 4 n17 (r14.1.flatMap enc_api_Word)] [Sm w.heap.size F w [], St w []] [] 39 rfl rfl mix rfl (.cons_cons _ (.slnil)) (sels [0, 1] rfl) ?_
                    refine wf_v 0 rfl (v_move rfl) gn rfl hns (by kernel_rfl) (by kernel_rfl) rfl rfl ?_
                    refine wf_v 1 rfl (v_move rfl) gn rfl hns (by kernel_rfl) (by kernel_rfl) rfl rfl ?_
                    refine wf_v 2 rfl (v_idxO slE_22 rfl rfl (Ow.weak hL12.env.size h19) hb210) gn rfl hns (by kernel_rfl) (by kernel_rfl) rfl rfl ?_
                    refine wf_v 3 rfl (v_fldA fo_27_3 rfl) gn rfl hns (by kernel_rfl) (by kernel_rfl) rfl rfl ?_
                    refine wf_v 4 rfl (v_ldO1 (.int .i64 ((ix r14.1 x94).at_)) 0 ld_3 rfl rfl (fm_get hl_api_Word hb210 rfl)) gn rfl hns (by kernel_rfl) (by kernel_rfl) rfl rfl ?_
                    refine wf_v 5 rfl (v_bin rfl rfl rfl) gn rfl hns (by kernel_rfl) (by kernel_rfl) rfl rfl ?_
                    refine wf_v 6 rfl (v_move rfl) gn rfl hns (by kernel_rfl) (by kernel_rfl) rfl rfl ?_
                    refine wf_bool 50 rfl ((decide_eq_false hp211)) ?_
                    refine wf_v 7 rfl (v_move rfl) (gy 50 rfl rfl) rfl hns (by kernel_rfl) (by kernel_rfl) rfl rfl ?_
                    refine wf_v 8 rfl (v_move rfl) (gy 50 rfl rfl) rfl hns (by kernel_rfl) (by kernel_rfl) rfl rfl ?_
                    refine wf_v 9 rfl (v_idxO slE_22 rfl rfl (Ow.weak hL12.env.size h19) hb210) (gy 50 rfl rfl) rfl hns (by kernel_rfl) (by kernel_rfl) rfl rfl ?_
                    refine wf_v 10 rfl (v_fldA fo_27_3 rfl) (gy 50 rfl rfl) rfl hns (by kernel_rfl) (by kernel_rfl) rfl rfl ?_
                    refine wf_v 11 rfl (v_ldO1 (.int .i64 ((ix r14.1 x94).at_)) 0 ld_3 rfl rfl (fm_get hl_api_Word hb210 rfl)) (gy 50 rfl rfl) rfl hns (by kernel_rfl) (by kernel_rfl) rfl rfl ?_
                    refine wf_v 12 rfl (v_move rfl) (gy 50 rfl rfl) rfl hns (by kernel_rfl) (by kernel_rfl) rfl rfl ?_
                    refine wf_v 13 rfl (v_bin rfl rfl rfl) (gy 50 rfl rfl) rfl hns (by kernel_rfl) (by kernel_rfl) rfl rfl ?_
                    refine wf_v 14 rfl (v_pick (b := false) rfl rfl) gn rfl hns (by kernel_rfl) (by kernel_rfl) rfl rfl ?_
                    refine wf_v 15 rfl (v_move rfl) gn rfl hns (by kernel_rfl) (by kernel_rfl) rfl rfl ?_
                    refine wf_bool 59 rfl ((decide_eq_false hp212)) ?_
                    refine wf_v 16 rfl (v_move rfl) (gy 59 rfl rfl) rfl hns (by kernel_rfl) (by kernel_rfl) rfl rfl ?_
                    refine wf_v 17 rfl (v_move rfl) (gy 59 rfl rfl) rfl hns (by kernel_rfl) (by kernel_rfl) rfl rfl ?_
                    refine wf_v 18 rfl (v_lenS un_9 rfl) (gy 59 rfl rfl) rfl hns (by kernel_rfl) (by kernel_rfl) rfl rfl ?_
                    refine wf_v 19 rfl (v_bin rfl rfl rfl) (gy 59 rfl rfl) rfl hns (by kernel_rfl) (by kernel_rfl) rfl rfl ?_
                    refine wf_v 20 rfl (v_pick (b := false) rfl rfl) gn rfl hns (by kernel_rfl) (by kernel_rfl) rfl rfl ?_
                    refine wf_v 21 rfl (v_move rfl) gn rfl hns (by kernel_rfl) (by kernel_rfl) rfl rfl ?_
                    refine wf_bool 65 rfl ((decide_eq_false hp213)) ?_
                    refine wf_v 22 rfl (v_move rfl) (gy 65 rfl rfl) rfl hns (by kernel_rfl) (by kernel_rfl) rfl rfl ?_
                    refine wf_v 23 rfl (v_bin rfl rfl rfl) (gy 65 rfl rfl) rfl hns (by kernel_rfl) (by kernel_rfl) rfl rfl ?_
                    refine wf_v 24 rfl (v_move rfl) (gy 65 rfl rfl) rfl hns (by kernel_rfl) (by kernel_rfl) rfl rfl ?_
                    refine wf_bool 68 rfl ((decide_eq_false hp214)) ?_
                    refine wf_pass 25 rfl (ps 68 rfl rfl rfl) hns (by kernel_rfl) (by kernel_rfl) rfl rfl ?_
                    refine wf_pass 26 rfl (ps 68 rfl rfl rfl) hns (by kernel_rfl) (by kernel_rfl) rfl rfl ?_
                    refine wf_pass 27 rfl (ps 68 rfl rfl rfl) hns (by kernel_rfl) (by kernel_rfl) rfl rfl ?_
                    refine wf_pass 28 rfl (ps 68 rfl rfl rfl) hns (by kernel_rfl) (by kernel_rfl) rfl rfl ?_
                    refine wf_pass 29 rfl (ps 68 rfl rfl rfl) hns (by kernel_rfl) (by kernel_rfl) rfl rfl ?_
                    refine wf_pass 30 rfl (ps 68 rfl rfl rfl) hns (by kernel_rfl) (by kernel_rfl) rfl rfl ?_
                    refine wf_pass 31 rfl (ps 68 rfl rfl rfl) hns (by kernel_rfl) (by kernel_rfl) rfl rfl ?_
                    refine wf_pass 32 rfl (ps 68 rfl rfl rfl) hns (by kernel_rfl) (by kernel_rfl) rfl rfl ?_
                    refine wf_pass 33 rfl (ps 68 rfl rfl rfl) hns (by kernel_rfl) (by kernel_rfl) rfl rfl ?_
                    refine wf_pass 34 rfl (ps 68 rfl rfl rfl) hns (by kernel_rfl) (by kernel_rfl) rfl rfl ?_
                    refine wf_pass 35 rfl (ps 68 rfl rfl rfl) hns (by kernel_rfl) (by kernel_rfl) rfl rfl ?_
                    refine wf_pass 36 rfl (ps 68 rfl rfl rfl) hns (by kernel_rfl) (by kernel_rfl) rfl rfl ?_
                    refine wf_v 37 rfl (v_pick (b := false) rfl rfl) (gy 65 rfl rfl) rfl hns (by kernel_rfl) (by kernel_rfl) rfl rfl ?_
                    refine wf_v 38 rfl (v_pick (b := false) rfl rfl) gn rfl hns (by kernel_rfl) (by kernel_rfl) rfl rfl ?_
                    refine wf_end (by kernel_rfl) ?_
                    exact g_go [0, 1] (j3 false h) ⟨rfl, rfl, rfl, rfl, rfl, trivial⟩ (.cons_cons _ (.slnil)) rfl
          by_cases hp167 : w64 (x94 + 1) < (r14.1.length : Int)
          · have h := if_pos' hp167 h
            refine g_true (c := trellislaw8_WordsPlaces_c37) rfl _ rfl ((decide_eq_true hp167)) ?_
            refine g_region (c := trellislaw8_WordsPlaces_c38) rfl rfl ?_
            refine wl_v 0 rfl (v_move rfl) gn rfl ?_
            refine wl_v 1 rfl (v_move rfl) gn rfl ?_
            refine wl_v 2 rfl (v_bin rfl rfl rfl) gn rfl ?_
            obtain ⟨hb216, h⟩ := h
            refine wl_v 3 rfl (v_idxO slE_22 rfl rfl (Ow.weak hL12.env.size h19) hb216) gn rfl ?_
            refine wl_v 4 rfl (v_fldA fo_27_3 rfl) gn rfl ?_
            refine wl_v 5 rfl (v_ldO1 (.int .i64 ((ix r14.1 (w64 (x94 + 1))).at_)) 0 ld_3 rfl rfl (fm_get hl_api_Word hb216 rfl)) gn rfl ?_
            refine wl_v 6 rfl (v_assign rfl) gn rfl ?_
            refine w_end 7 rfl ?_
            exact g_go [0, 1] (j2 ((ix r14.1 (w64 (x94 + 1))).at_) h) ⟨rfl, rfl, rfl, rfl, trivial⟩ (.cons_cons _ (.slnil)) rfl
          · have h := if_neg' hp167 h
            refine g_false (c := trellislaw8_WordsPlaces_c37) rfl _ rfl ((decide_eq_false hp167)) ?_
            refine g_skip (c := trellislaw8_WordsPlaces_c39) rfl ?_
            exact g_go [0, 1] (j2 (x1.size : Int) h) ⟨rfl, rfl, rfl, rfl, trivial⟩ (.cons_cons _ (.slnil)) rfl
        · have h := if_neg' hp166 h
          refine g_false (c := trellislaw8_WordsPlaces_c26) rfl _ rfl ((decide_eq_false hp166)) ?_
          refine g_exit (c := trellislaw8_WordsPlaces_c28) [.code trellislaw8_WordsPlaces_c18] rfl rfl ?_
          refine g_seq (c := trellislaw8_WordsPlaces_c18) rfl ?_
          refine g_region (c := trellislaw8_WordsPlaces_c56) rfl rfl ?_
          refine wl_v 0 rfl (v_move rfl) gn rfl ?_
          refine wl_v 1 rfl (v_lenS un_9 rfl) gn rfl ?_
          refine wl_v 2 rfl (v_assign rfl) gn rfl ?_
          refine w_end 3 rfl ?_
          refine g_seq (c := trellislaw8_WordsPlaces_c57) rfl ?_
          refine g_seq (c := trellislaw8_WordsPlaces_c58) rfl ?_
          refine g_region (c := trellislaw8_WordsPlaces_c60) rfl rfl ?_
          refine wl_v 0 rfl (v_move rfl) gn rfl ?_
          refine wl_v 1 rfl (v_lenQ un_22 rfl (Ow.weak hL12.env.size h19).hq) gn rfl ?_
          refine wl_v 2 rfl (v_bin rfl rfl rfl) gn rfl ?_
          refine w_end 3 rfl ?_
          have j4 : ∀ (x220 : Int) (h : trellislaw8_WordsPlaces_j4 x1 x220 o1) , G (trellislaw8_WordsPlaces_C w F r) [.code trellislaw8_WordsPlaces_c59] [(0, .string x1), (11, .int .i64 x220)] [] [Sm w.heap.size F w [], St w []] := by
            intro x220 h
            unfold trellislaw8_WordsPlaces_j4 at h
            refine g_seq (c := trellislaw8_WordsPlaces_c59) rfl ?_
            refine g_region (c := trellislaw8_WordsPlaces_c64) rfl rfl ?_
            refine wl_v 0 rfl (v_move rfl) gn rfl ?_
            refine wl_v 1 rfl (v_move rfl) gn rfl ?_
            obtain ⟨hb221, h⟩ := h
            refine wl_v 2 rfl (v_cutS 0 x220 un_9 rfl (.inl ⟨rfl, rfl⟩) (.inr ⟨_, _, rfl, rfl⟩) ⟨hb221.1, hb221.2.1⟩ hb221.2.2) gn rfl ?_
            obtain ⟨r225, hv226, h⟩ := h
            refine wl_s 3 rfl (s_call [.string (x1.extract (0 : Int).toNat (x220 : Int).toNat)] rfl Tryd.func16 rfl rfl rfl fun w222 hL223 => ?_) gn
            have hp224 : List.Perm ([] : List Ent) (([] : List Ent) ++ ([] : List Ent)) := perm_of_idx [] [] rfl rfl (by kernel_rfl)
            refine Calls.mono (words_Cut_calls w222 (Fl ([] : List Snap)) (x1.extract (0 : Int).toNat (x220 : Int).toNat) (hL223.hFl (Sl := ([] : List Snap)) hp224 (sels [] rfl)) (hL223.into hp224 (Fl ([] : List Snap))) r225 hv226) ?_
            rintro _ w232 ⟨A227, n228, c229, rfl, hM233, h230⟩
            have hL234 := hL223.call hp224 hM233
            refine ⟨_, _, _, rfl, hL234, ?_⟩
            refine wl_v 4 rfl (v_move rfl) gn rfl ?_
            refine wl_v 5 rfl (v_extract rfl rfl) gn rfl ?_
            refine wl_v 6 rfl (v_extract rfl rfl) gn rfl ?_
            refine wl_v 7 rfl (v_extract rfl rfl) gn rfl ?_
            refine wl_v 8 rfl (v_assign rfl) gn rfl ?_
            refine wl_v 9 rfl (v_assign rfl) gn rfl ?_
            refine wl_v 10 rfl (v_assign rfl) gn rfl ?_
            refine w_end 11 rfl ?_
            refine g_seq (c := trellislaw8_WordsPlaces_c65) rfl ?_
            refine g_region (c := trellislaw8_WordsPlaces_c66) rfl rfl ?_
            refine wl_v 0 rfl (v_move rfl) gn rfl ?_
            refine wl_v 1 rfl (v_bin rfl rfl rfl) gn rfl ?_
            refine wl_v 2 rfl (v_move rfl) gn rfl ?_
            by_cases hp235 : r225.2.1 = 0
            · have h := if_pos' hp235 h
              refine w_bool 139 rfl ((eqi hp235)) ?_
              refine wl_v 3 rfl (v_move rfl) (gy 139 rfl rfl) rfl ?_
              refine wl_v 4 rfl (v_lenQ un_22 rfl (Ow.weak hL223.env.size h230).hq) (gy 139 rfl rfl) rfl ?_
              refine wl_v 5 rfl (v_bin rfl rfl rfl) (gy 139 rfl rfl) rfl ?_
              refine wl_v 6 rfl (v_pick (b := true) rfl rfl) gn rfl ?_
              refine wl_v 7 rfl (v_assign rfl) gn rfl ?_
              refine w_end 8 rfl ?_
              have h := Out.inr hO1 h
              refine g_retR (c := trellislaw8_WordsPlaces_c67) [.bool ((r225.1.length : Int) == 0)] rfl Tryd.func7 rfl (.tmp rfl (.nil)) fun wr hLr => ?_
              have hMr : B.Loc w wr [] [St w []] := hLr.pick (rest := [.own (.slice A227 n228 c229) 27 4 n228 (r225.1.flatMap enc_api_Word)]) (perm_of_idx [] [0] rfl rfl (by kernel_rfl)) (sels [1] rfl)
              have hMi : ∀ e ∈ ([] : List Ent), e ∈ ([.own (.slice A227 n228 c229) 27 4 n228 (r225.1.flatMap enc_api_Word)] : List Ent) := sels [] rfl
              show trellislaw8_WordsPlaces_R w F  r (.returned (packV [.bool ((r225.1.length : Int) == 0)])) wr
              rw [h]
              exact ⟨rfl, hMr⟩
            · have h := if_neg' hp235 h
              refine w_bool 139 rfl ((nei hp235)) ?_
              refine wl_pass 3 rfl (ps 139 rfl rfl rfl) ?_
              refine wl_pass 4 rfl (ps 139 rfl rfl rfl) ?_
              refine wl_pass 5 rfl (ps 139 rfl rfl rfl) ?_
              refine wl_v 6 rfl (v_pick (b := false) rfl rfl) gn rfl ?_
              refine wl_v 7 rfl (v_assign rfl) gn rfl ?_
              refine w_end 8 rfl ?_
              have h := Out.inr hO1 h
              refine g_retR (c := trellislaw8_WordsPlaces_c67) [.bool false] rfl Tryd.func7 rfl (.tmp rfl (.nil)) fun wr hLr => ?_
              have hMr : B.Loc w wr [] [St w []] := hLr.pick (rest := [.own (.slice A227 n228 c229) 27 4 n228 (r225.1.flatMap enc_api_Word)]) (perm_of_idx [] [0] rfl rfl (by kernel_rfl)) (sels [1] rfl)
              have hMi : ∀ e ∈ ([] : List Ent), e ∈ ([.own (.slice A227 n228 c229) 27 4 n228 (r225.1.flatMap enc_api_Word)] : List Ent) := sels [] rfl
              show trellislaw8_WordsPlaces_R w F  r (.returned (packV [.bool false])) wr
              rw [h]
              exact ⟨rfl, hMr⟩
          by_cases hp217 : (r14.1.length : Int) > 0
          · have h := if_pos' hp217 h
            refine g_true (c := trellislaw8_WordsPlaces_c61) rfl _ rfl ((decide_eq_true hp217)) ?_
            refine g_region (c := trellislaw8_WordsPlaces_c62) rfl rfl ?_
            refine wl_v 0 rfl (v_move rfl) gn rfl ?_
            obtain ⟨hb236, h⟩ := h
            refine wl_v 1 rfl (v_idxO slE_22 rfl rfl (Ow.weak hL12.env.size h19) hb236) gn rfl ?_
            refine wl_v 2 rfl (v_fldA fo_27_3 rfl) gn rfl ?_
            refine wl_v 3 rfl (v_ldO1 (.int .i64 ((ix r14.1 0).at_)) 0 ld_3 rfl rfl (fm_get hl_api_Word hb236 rfl)) gn rfl ?_
            refine wl_v 4 rfl (v_assign rfl) gn rfl ?_
            refine w_end 5 rfl ?_
            exact g_go [0, 1] (j4 ((ix r14.1 0).at_) h) ⟨rfl, rfl, trivial⟩ (.cons _ (.slnil)) rfl
          · have h := if_neg' hp217 h
            refine g_false (c := trellislaw8_WordsPlaces_c61) rfl _ rfl ((decide_eq_false hp217)) ?_
            refine g_skip (c := trellislaw8_WordsPlaces_c63) rfl ?_
            exact g_go [0, 1] (j4 (x1.size : Int) h) ⟨rfl, rfl, trivial⟩ (.cons _ (.slnil)) rfl
      exact g_go [0, 1] (key1 _ h ()) ⟨rfl, rfl, rfl, trivial⟩ (.cons_cons _ (.slnil)) rfl
    · have h := if_neg' hp24 h
      refine g_true (c := trellislaw8_WordsPlaces_c14) rfl _ rfl ((neib hp24)) ?_
      refine g_seq (c := trellislaw8_WordsPlaces_c15) rfl ?_
      refine g_region (c := trellislaw8_WordsPlaces_c68) rfl rfl ?_
      refine wl_v 0 rfl (v_assign rfl) gn rfl ?_
      refine w_end 1 rfl ?_
      refine g_retR (c := trellislaw8_WordsPlaces_c69) [.bool true] rfl Tryd.func7 rfl (.tmp rfl (.nil)) fun wr hLr => ?_
      have hMr : B.Loc w wr [] [St w []] := hLr.pick (rest := [.own (.slice A16 n17 c18) 27 4 n17 (r14.1.flatMap enc_api_Word)]) (perm_of_idx [] [0] rfl rfl (by kernel_rfl)) (sels [1] rfl)
      have hMi : ∀ e ∈ ([] : List Ent), e ∈ ([.own (.slice A16 n17 c18) 27 4 n17 (r14.1.flatMap enc_api_Word)] : List Ent) := sels [] rfl
      show trellislaw8_WordsPlaces_R w F  r (.returned (packV [.bool true])) wr
      rw [h]
      exact ⟨rfl, hMr⟩
  · have h := if_neg' hp10 h
    refine g_true (c := trellislaw8_WordsPlaces_c6) rfl _ rfl ((nt (bf hp10))) ?_
    refine g_seq (c := trellislaw8_WordsPlaces_c7) rfl ?_
    refine g_region (c := trellislaw8_WordsPlaces_c70) rfl rfl ?_
    refine wl_v 0 rfl (v_assign rfl) gn rfl ?_
    refine w_end 1 rfl ?_
    refine g_retR (c := trellislaw8_WordsPlaces_c71) [.bool false] rfl Tryd.func7 rfl (.tmp rfl (.nil)) fun wr hLr => ?_
    have hMr : B.Loc w wr [] [St w []] := hLr.pick (rest := []) (perm_of_idx [] [] rfl rfl (by kernel_rfl)) (sels [1] rfl)
    have hMi : ∀ e ∈ ([] : List Ent), e ∈ ([] : List Ent) := sels [] rfl
    show trellislaw8_WordsPlaces_R w F  r (.returned (packV [.bool false])) wr
    rw [h]
    exact ⟨rfl, hMr⟩
noncomputable abbrev internal_strconv_log10Pow2_c0 : Code := bodyOf Tryd.f58
noncomputable abbrev internal_strconv_log10Pow2_c1 : Code := Code.fst internal_strconv_log10Pow2_c0
noncomputable abbrev internal_strconv_log10Pow2_c2 : Code := Code.snd internal_strconv_log10Pow2_c0
noncomputable abbrev internal_strconv_log10Pow2_c3 : Code := Code.fst internal_strconv_log10Pow2_c2
noncomputable abbrev internal_strconv_log10Pow2_c4 : Code := Code.snd internal_strconv_log10Pow2_c2
abbrev internal_strconv_log10Pow2_R (w : World) (F : Nat → Prop) (r : Int) : Ending → World → Prop := fun e w' => e = .returned (.int .i64 r) ∧ B.Loc w w' [] [St w []]
noncomputable abbrev internal_strconv_log10Pow2_C (w : World) (F : Nat → Prop) (r : Int) : Cx := ⟨Tryd.prog, 58, Tryd.f58, 6, internal_strconv_log10Pow2_R w F  r, w⟩
theorem internal_strconv_log10Pow2_calls (w : World) (F : Nat → Prop) (x1 : Int) (hF : ∀ b, F b → b < w.heap.size ∧ ∀ o ∈ ([] : List (List Nat)), b ∉ o) (hL0 : B.Loc w w [] [Sm w.heap.size F w [], St w []]) (r : Int) (h : internal_strconv_log10Pow2 x1 r) : Calls Tryd.prog 58 #[.int .i64 x1] w (internal_strconv_log10Pow2_R w F  r) := by
  unfold internal_strconv_log10Pow2 at h
  refine calls_of_Loc (vs := [.int .i64 x1]) 6 Tryd.func58 rfl Tryd.ntmps58 rfl hL0 ?_
  show G (internal_strconv_log10Pow2_C w F r) _ _ _ _
  refine g_seq (c := internal_strconv_log10Pow2_c0) rfl ?_
  refine g_region (c := internal_strconv_log10Pow2_c1) rfl rfl ?_
  refine wl_v 0 rfl (v_assign rfl) gn rfl ?_
  refine w_end 1 rfl ?_
  refine g_seq (c := internal_strconv_log10Pow2_c2) rfl ?_
  refine g_region (c := internal_strconv_log10Pow2_c3) rfl rfl ?_
  refine wl_v 0 rfl (v_move rfl) gn rfl ?_
  refine wl_v 1 rfl (v_bin rfl rfl rfl) gn rfl ?_
  refine wl_v 2 rfl (v_shr rfl rfl (by decide)) gn rfl ?_
  refine wl_v 3 rfl (v_assign rfl) gn rfl ?_
  refine w_end 4 rfl ?_
  refine g_retR (c := internal_strconv_log10Pow2_c4) [.int .i64 (shrV .i64 (w64 (x1 * 78913)) 18)] rfl Tryd.func58 rfl (.tmp rfl (.nil)) fun wr hLr => ?_
  have hMr : B.Loc w wr [] [St w []] := hLr.pick (rest := []) (perm_of_idx [] [] rfl rfl (by kernel_rfl)) (sels [1] rfl)
  have hMi : ∀ e ∈ ([] : List Ent), e ∈ ([] : List Ent) := sels [] rfl
  show internal_strconv_log10Pow2_R w F  r (.returned (packV [.int .i64 (shrV .i64 (w64 (x1 * 78913)) 18)])) wr
  rw [h]
  exact ⟨rfl, hMr⟩
noncomputable abbrev internal_strconv_bool2_int_c0 : Code := bodyOf Tryd.f60
noncomputable abbrev internal_strconv_bool2_int_c1 : Code := Code.fst internal_strconv_bool2_int_c0
noncomputable abbrev internal_strconv_bool2_int_c2 : Code := Code.snd internal_strconv_bool2_int_c0
noncomputable abbrev internal_strconv_bool2_int_c3 : Code := Code.fst internal_strconv_bool2_int_c2
noncomputable abbrev internal_strconv_bool2_int_c4 : Code := Code.snd internal_strconv_bool2_int_c2
noncomputable abbrev internal_strconv_bool2_int_c5 : Code := Code.fst internal_strconv_bool2_int_c3
noncomputable abbrev internal_strconv_bool2_int_c6 : Code := Code.snd internal_strconv_bool2_int_c3
noncomputable abbrev internal_strconv_bool2_int_c7 : Code := Code.fst internal_strconv_bool2_int_c6
noncomputable abbrev internal_strconv_bool2_int_c8 : Code := Code.snd internal_strconv_bool2_int_c6
noncomputable abbrev internal_strconv_bool2_int_c9 : Code := Code.fst internal_strconv_bool2_int_c7
noncomputable abbrev internal_strconv_bool2_int_c10 : Code := Code.snd internal_strconv_bool2_int_c7
noncomputable abbrev internal_strconv_bool2_int_c11 : Code := Code.fst internal_strconv_bool2_int_c4
noncomputable abbrev internal_strconv_bool2_int_c12 : Code := Code.snd internal_strconv_bool2_int_c4
abbrev internal_strconv_bool2_int_R (w : World) (F : Nat → Prop) (r : Int) : Ending → World → Prop := fun e w' => e = .returned (.int .i64 r) ∧ B.Loc w w' [] [St w []]
noncomputable abbrev internal_strconv_bool2_int_C (w : World) (F : Nat → Prop) (r : Int) : Cx := ⟨Tryd.prog, 60, Tryd.f60, 4, internal_strconv_bool2_int_R w F  r, w⟩
theorem internal_strconv_bool2_int_calls (w : World) (F : Nat → Prop) (x1 : Bool) (hF : ∀ b, F b → b < w.heap.size ∧ ∀ o ∈ ([] : List (List Nat)), b ∉ o) (hL0 : B.Loc w w [] [Sm w.heap.size F w [], St w []]) (r : Int) (h : internal_strconv_bool2_int x1 r) : Calls Tryd.prog 60 #[.bool x1] w (internal_strconv_bool2_int_R w F  r) := by
  unfold internal_strconv_bool2_int at h
  refine calls_of_Loc (vs := [.bool x1]) 4 Tryd.func60 rfl Tryd.ntmps60 rfl hL0 ?_
  show G (internal_strconv_bool2_int_C w F r) _ _ _ _
  refine g_seq (c := internal_strconv_bool2_int_c0) rfl ?_
  refine g_region (c := internal_strconv_bool2_int_c1) rfl rfl ?_
  refine wl_v 0 rfl (v_assign rfl) gn rfl ?_
  refine w_end 1 rfl ?_
  refine g_seq (c := internal_strconv_bool2_int_c2) rfl ?_
  refine g_seq (c := internal_strconv_bool2_int_c3) rfl ?_
  refine g_region (c := internal_strconv_bool2_int_c5) rfl rfl ?_
  refine wl_v 0 rfl (v_move rfl) gn rfl ?_
  refine w_end 1 rfl ?_
  by_cases hp2 : x1 = true
  · have h := if_pos' hp2 h
    refine g_true (c := internal_strconv_bool2_int_c6) rfl _ rfl (hp2) ?_
    refine g_seq (c := internal_strconv_bool2_int_c7) rfl ?_
    refine g_region (c := internal_strconv_bool2_int_c9) rfl rfl ?_
    refine wl_v 0 rfl (v_assign rfl) gn rfl ?_
    refine w_end 1 rfl ?_
    refine g_retR (c := internal_strconv_bool2_int_c10) [.int .i64 1] rfl Tryd.func60 rfl (.tmp rfl (.nil)) fun wr hLr => ?_
    have hMr : B.Loc w wr [] [St w []] := hLr.pick (rest := []) (perm_of_idx [] [] rfl rfl (by kernel_rfl)) (sels [1] rfl)
    have hMi : ∀ e ∈ ([] : List Ent), e ∈ ([] : List Ent) := sels [] rfl
    show internal_strconv_bool2_int_R w F  r (.returned (packV [.int .i64 1])) wr
    rw [h]
    exact ⟨rfl, hMr⟩
  · have h := if_neg' hp2 h
    refine g_false (c := internal_strconv_bool2_int_c6) rfl _ rfl ((bf hp2)) ?_
    refine g_skip (c := internal_strconv_bool2_int_c8) rfl ?_
    refine g_seq (c := internal_strconv_bool2_int_c4) rfl ?_
    refine g_region (c := internal_strconv_bool2_int_c11) rfl rfl ?_
    refine wl_v 0 rfl (v_assign rfl) gn rfl ?_
    refine w_end 1 rfl ?_
    refine g_retR (c := internal_strconv_bool2_int_c12) [.int .i64 0] rfl Tryd.func60 rfl (.tmp rfl (.nil)) fun wr hLr => ?_
    have hMr : B.Loc w wr [] [St w []] := hLr.pick (rest := []) (perm_of_idx [] [] rfl rfl (by kernel_rfl)) (sels [1] rfl)
    have hMi : ∀ e ∈ ([] : List Ent), e ∈ ([] : List Ent) := sels [] rfl
    show internal_strconv_bool2_int_R w F  r (.returned (packV [.int .i64 0])) wr
    rw [h]
    exact ⟨rfl, hMr⟩
noncomputable abbrev internal_strconv_isPowerOfTwo_c0 : Code := bodyOf Tryd.f61
noncomputable abbrev internal_strconv_isPowerOfTwo_c1 : Code := Code.fst internal_strconv_isPowerOfTwo_c0
noncomputable abbrev internal_strconv_isPowerOfTwo_c2 : Code := Code.snd internal_strconv_isPowerOfTwo_c0
noncomputable abbrev internal_strconv_isPowerOfTwo_c3 : Code := Code.fst internal_strconv_isPowerOfTwo_c2
noncomputable abbrev internal_strconv_isPowerOfTwo_c4 : Code := Code.snd internal_strconv_isPowerOfTwo_c2
abbrev internal_strconv_isPowerOfTwo_R (w : World) (F : Nat → Prop) (r : Bool) : Ending → World → Prop := fun e w' => e = .returned (.bool r) ∧ B.Loc w w' [] [St w []]
noncomputable abbrev internal_strconv_isPowerOfTwo_C (w : World) (F : Nat → Prop) (r : Bool) : Cx := ⟨Tryd.prog, 61, Tryd.f61, 8, internal_strconv_isPowerOfTwo_R w F  r, w⟩
theorem internal_strconv_isPowerOfTwo_calls (w : World) (F : Nat → Prop) (x1 : Int) (hF : ∀ b, F b → b < w.heap.size ∧ ∀ o ∈ ([] : List (List Nat)), b ∉ o) (hL0 : B.Loc w w [] [Sm w.heap.size F w [], St w []]) (r : Bool) (h : internal_strconv_isPowerOfTwo x1 r) : Calls Tryd.prog 61 #[.int .i64 x1] w (internal_strconv_isPowerOfTwo_R w F  r) := by
  unfold internal_strconv_isPowerOfTwo at h
  refine calls_of_Loc (vs := [.int .i64 x1]) 8 Tryd.func61 rfl Tryd.ntmps61 rfl hL0 ?_
  show G (internal_strconv_isPowerOfTwo_C w F r) _ _ _ _
  refine g_seq (c := internal_strconv_isPowerOfTwo_c0) rfl ?_
  refine g_region (c := internal_strconv_isPowerOfTwo_c1) rfl rfl ?_
  refine wl_v 0 rfl (v_assign rfl) gn rfl ?_
  refine w_end 1 rfl ?_
  refine g_seq (c := internal_strconv_isPowerOfTwo_c2) rfl ?_
  refine g_region (c := internal_strconv_isPowerOfTwo_c3) rfl rfl ?_
  refine wl_v 0 rfl (v_move rfl) gn rfl ?_
  refine wl_v 1 rfl (v_move rfl) gn rfl ?_
  refine wl_v 2 rfl (v_bin rfl rfl rfl) gn rfl ?_
  refine wl_v 3 rfl (v_bin rfl rfl rfl) gn rfl ?_
  refine wl_v 4 rfl (v_bin rfl rfl rfl) gn rfl ?_
  refine wl_v 5 rfl (v_assign rfl) gn rfl ?_
  refine w_end 6 rfl ?_
  refine g_retR (c := internal_strconv_isPowerOfTwo_c4) [.bool ((bits .and .i64 x1 (w64 (x1 - 1))) == 0)] rfl Tryd.func61 rfl (.tmp rfl (.nil)) fun wr hLr => ?_
  have hMr : B.Loc w wr [] [St w []] := hLr.pick (rest := []) (perm_of_idx [] [] rfl rfl (by kernel_rfl)) (sels [1] rfl)
  have hMi : ∀ e ∈ ([] : List Ent), e ∈ ([] : List Ent) := sels [] rfl
  show internal_strconv_isPowerOfTwo_R w F  r (.returned (packV [.bool ((bits .and .i64 x1 (w64 (x1 - 1))) == 0)])) wr
  rw [h]
  exact ⟨rfl, hMr⟩
noncomputable abbrev internal_bytealg_Cutover_c0 : Code := bodyOf Tryd.f56
noncomputable abbrev internal_bytealg_Cutover_c1 : Code := Code.fst internal_bytealg_Cutover_c0
noncomputable abbrev internal_bytealg_Cutover_c2 : Code := Code.snd internal_bytealg_Cutover_c0
noncomputable abbrev internal_bytealg_Cutover_c3 : Code := Code.fst internal_bytealg_Cutover_c2
noncomputable abbrev internal_bytealg_Cutover_c4 : Code := Code.snd internal_bytealg_Cutover_c2
abbrev internal_bytealg_Cutover_R (w : World) (F : Nat → Prop) (r : Int) : Ending → World → Prop := fun e w' => e = .returned (.int .i64 r) ∧ B.Loc w w' [] [St w []]
noncomputable abbrev internal_bytealg_Cutover_C (w : World) (F : Nat → Prop) (r : Int) : Cx := ⟨Tryd.prog, 56, Tryd.f56, 6, internal_bytealg_Cutover_R w F  r, w⟩
theorem internal_bytealg_Cutover_calls (w : World) (F : Nat → Prop) (x1 : Int) (hF : ∀ b, F b → b < w.heap.size ∧ ∀ o ∈ ([] : List (List Nat)), b ∉ o) (hL0 : B.Loc w w [] [Sm w.heap.size F w [], St w []]) (r : Int) (h : internal_bytealg_Cutover x1 r) : Calls Tryd.prog 56 #[.int .i64 x1] w (internal_bytealg_Cutover_R w F  r) := by
  unfold internal_bytealg_Cutover at h
  refine calls_of_Loc (vs := [.int .i64 x1]) 6 Tryd.func56 rfl Tryd.ntmps56 rfl hL0 ?_
  show G (internal_bytealg_Cutover_C w F r) _ _ _ _
  refine g_seq (c := internal_bytealg_Cutover_c0) rfl ?_
  refine g_region (c := internal_bytealg_Cutover_c1) rfl rfl ?_
  refine wl_v 0 rfl (v_assign rfl) gn rfl ?_
  refine w_end 1 rfl ?_
  refine g_seq (c := internal_bytealg_Cutover_c2) rfl ?_
  refine g_region (c := internal_bytealg_Cutover_c3) rfl rfl ?_
  refine wl_v 0 rfl (v_move rfl) gn rfl ?_
  refine wl_v 1 rfl (v_bin rfl rfl rfl) gn rfl ?_
  refine wl_v 2 rfl (v_quo rfl rfl (by decide)) gn rfl ?_
  refine wl_v 3 rfl (v_assign rfl) gn rfl ?_
  refine w_end 4 rfl ?_
  refine g_retR (c := internal_bytealg_Cutover_c4) [.int .i64 (w64 (Int.tdiv (w64 (x1 + 16)) 8))] rfl Tryd.func56 rfl (.tmp rfl (.nil)) fun wr hLr => ?_
  have hMr : B.Loc w wr [] [St w []] := hLr.pick (rest := []) (perm_of_idx [] [] rfl rfl (by kernel_rfl)) (sels [1] rfl)
  have hMi : ∀ e ∈ ([] : List Ent), e ∈ ([] : List Ent) := sels [] rfl
  show internal_bytealg_Cutover_R w F  r (.returned (packV [.int .i64 (w64 (Int.tdiv (w64 (x1 + 16)) 8))])) wr
  rw [h]
  exact ⟨rfl, hMr⟩
noncomputable abbrev internal_bytealg_hashStr_string_c0 : Code := bodyOf Tryd.f63
noncomputable abbrev internal_bytealg_hashStr_string_c1 : Code := Code.fst internal_bytealg_hashStr_string_c0
noncomputable abbrev internal_bytealg_hashStr_string_c2 : Code := Code.snd internal_bytealg_hashStr_string_c0
noncomputable abbrev internal_bytealg_hashStr_string_c3 : Code := Code.fst internal_bytealg_hashStr_string_c2
noncomputable abbrev internal_bytealg_hashStr_string_c4 : Code := Code.snd internal_bytealg_hashStr_string_c2
noncomputable abbrev internal_bytealg_hashStr_string_c5 : Code := Code.fst internal_bytealg_hashStr_string_c4
noncomputable abbrev internal_bytealg_hashStr_string_c6 : Code := Code.snd internal_bytealg_hashStr_string_c4
noncomputable abbrev internal_bytealg_hashStr_string_c7 : Code := Code.fst internal_bytealg_hashStr_string_c5
noncomputable abbrev internal_bytealg_hashStr_string_c8 : Code := Code.snd internal_bytealg_hashStr_string_c5
noncomputable abbrev internal_bytealg_hashStr_string_c9 : Code := Code.fst internal_bytealg_hashStr_string_c8
noncomputable abbrev internal_bytealg_hashStr_string_c10 : Code := Code.fst internal_bytealg_hashStr_string_c9
noncomputable abbrev internal_bytealg_hashStr_string_c11 : Code := Code.fst internal_bytealg_hashStr_string_c10
noncomputable abbrev internal_bytealg_hashStr_string_c12 : Code := Code.snd internal_bytealg_hashStr_string_c10
noncomputable abbrev internal_bytealg_hashStr_string_c13 : Code := Code.fst internal_bytealg_hashStr_string_c11
noncomputable abbrev internal_bytealg_hashStr_string_c14 : Code := Code.snd internal_bytealg_hashStr_string_c11
noncomputable abbrev internal_bytealg_hashStr_string_c15 : Code := Code.fst internal_bytealg_hashStr_string_c14
noncomputable abbrev internal_bytealg_hashStr_string_c16 : Code := Code.snd internal_bytealg_hashStr_string_c14
noncomputable abbrev internal_bytealg_hashStr_string_c17 : Code := Code.fst internal_bytealg_hashStr_string_c12
noncomputable abbrev internal_bytealg_hashStr_string_c18 : Code := Code.snd internal_bytealg_hashStr_string_c12
noncomputable abbrev internal_bytealg_hashStr_string_c19 : Code := Code.fst internal_bytealg_hashStr_string_c17
noncomputable abbrev internal_bytealg_hashStr_string_c20 : Code := Code.fst internal_bytealg_hashStr_string_c6
noncomputable abbrev internal_bytealg_hashStr_string_c21 : Code := Code.snd internal_bytealg_hashStr_string_c6
noncomputable abbrev internal_bytealg_hashStr_string_c22 : Code := Code.fst internal_bytealg_hashStr_string_c21
noncomputable abbrev internal_bytealg_hashStr_string_c23 : Code := Code.snd internal_bytealg_hashStr_string_c21
noncomputable abbrev internal_bytealg_hashStr_string_c24 : Code := Code.fst internal_bytealg_hashStr_string_c22
noncomputable abbrev internal_bytealg_hashStr_string_c25 : Code := Code.snd internal_bytealg_hashStr_string_c22
noncomputable abbrev internal_bytealg_hashStr_string_c26 : Code := Code.fst internal_bytealg_hashStr_string_c25
noncomputable abbrev internal_bytealg_hashStr_string_c27 : Code := Code.fst internal_bytealg_hashStr_string_c26
noncomputable abbrev internal_bytealg_hashStr_string_c28 : Code := Code.fst internal_bytealg_hashStr_string_c27
noncomputable abbrev internal_bytealg_hashStr_string_c29 : Code := Code.snd internal_bytealg_hashStr_string_c27
noncomputable abbrev internal_bytealg_hashStr_string_c30 : Code := Code.fst internal_bytealg_hashStr_string_c28
noncomputable abbrev internal_bytealg_hashStr_string_c31 : Code := Code.snd internal_bytealg_hashStr_string_c28
noncomputable abbrev internal_bytealg_hashStr_string_c32 : Code := Code.fst internal_bytealg_hashStr_string_c31
noncomputable abbrev internal_bytealg_hashStr_string_c33 : Code := Code.snd internal_bytealg_hashStr_string_c31
noncomputable abbrev internal_bytealg_hashStr_string_c34 : Code := Code.fst internal_bytealg_hashStr_string_c29
noncomputable abbrev internal_bytealg_hashStr_string_c35 : Code := Code.snd internal_bytealg_hashStr_string_c29
noncomputable abbrev internal_bytealg_hashStr_string_c36 : Code := Code.fst internal_bytealg_hashStr_string_c34
noncomputable abbrev internal_bytealg_hashStr_string_c37 : Code := Code.fst internal_bytealg_hashStr_string_c36
noncomputable abbrev internal_bytealg_hashStr_string_c38 : Code := Code.snd internal_bytealg_hashStr_string_c36
noncomputable abbrev internal_bytealg_hashStr_string_c39 : Code := Code.fst internal_bytealg_hashStr_string_c37
noncomputable abbrev internal_bytealg_hashStr_string_c40 : Code := Code.snd internal_bytealg_hashStr_string_c37
noncomputable abbrev internal_bytealg_hashStr_string_c41 : Code := Code.fst internal_bytealg_hashStr_string_c40
noncomputable abbrev internal_bytealg_hashStr_string_c42 : Code := Code.snd internal_bytealg_hashStr_string_c40
noncomputable abbrev internal_bytealg_hashStr_string_c43 : Code := Code.fst internal_bytealg_hashStr_string_c23
noncomputable abbrev internal_bytealg_hashStr_string_c44 : Code := Code.snd internal_bytealg_hashStr_string_c23
abbrev internal_bytealg_hashStr_string_R (w : World) (F : Nat → Prop) (r : Int × Int) : Ending → World → Prop := fun e w' => e = .returned (.tuple #[.int .u32 r.1, .int .u32 r.2]) ∧ B.Loc w w' [] [St w []]
noncomputable abbrev internal_bytealg_hashStr_string_C (w : World) (F : Nat → Prop) (r : Int × Int) : Cx := ⟨Tryd.prog, 63, Tryd.f63, 39, internal_bytealg_hashStr_string_R w F  r, w⟩
theorem internal_bytealg_hashStr_string_calls (w : World) (F : Nat → Prop) (x1 : ByteArray) (hF : ∀ b, F b → b < w.heap.size ∧ ∀ o ∈ ([] : List (List Nat)), b ∉ o) (hL0 : B.Loc w w [] [Sm w.heap.size F w [], St w []]) (r : Int × Int) (h : internal_bytealg_hashStr_string x1 r) : Calls Tryd.prog 63 #[.string x1] w (internal_bytealg_hashStr_string_R w F  r) := by
  unfold internal_bytealg_hashStr_string at h
  refine calls_of_Loc (vs := [.string x1]) 39 Tryd.func63 rfl Tryd.ntmps63 rfl hL0 ?_
  show G (internal_bytealg_hashStr_string_C w F r) _ _ _ _
  refine g_seq (c := internal_bytealg_hashStr_string_c0) rfl ?_
  refine g_region (c := internal_bytealg_hashStr_string_c1) rfl rfl ?_
  refine wl_v 0 rfl (v_assign rfl) gn rfl ?_
  refine wl_v 1 rfl (v_assign rfl) gn rfl ?_
  refine w_end 2 rfl ?_
  refine g_seq (c := internal_bytealg_hashStr_string_c2) rfl ?_
  refine g_region (c := internal_bytealg_hashStr_string_c3) rfl rfl ?_
  refine wl_v 0 rfl (v_assign rfl) gn rfl ?_
  refine w_end 1 rfl ?_
  refine g_seq (c := internal_bytealg_hashStr_string_c4) rfl ?_
  refine g_seq (c := internal_bytealg_hashStr_string_c5) rfl ?_
  refine g_region (c := internal_bytealg_hashStr_string_c7) rfl rfl ?_
  refine wl_v 0 rfl (v_assign rfl) gn rfl ?_
  refine w_end 1 rfl ?_
  refine g_block (c := internal_bytealg_hashStr_string_c8) rfl ?_
  refine g_loop (c := internal_bytealg_hashStr_string_c9) rfl ?_
  have key1 : ∀ s, Rounds (fun (s : Int × Int) o => internal_bytealg_hashStr_string_b1 x1 s.1 s.2 o) s r → (fun (s : Int × Int) => ∀ (_ : Unit), G (internal_bytealg_hashStr_string_C w F r) [.code internal_bytealg_hashStr_string_c10, .inLoop internal_bytealg_hashStr_string_c10, .inBlock 0, .code internal_bytealg_hashStr_string_c6] [(0, .string x1), (4, .int .u32 s.1), (5, .int .i64 s.2)] [] [Sm w.heap.size F w [], St w []]) s := by
    intro s hs
    refine Rounds.ind (mot := (fun (s : Int × Int) => ∀ (_ : Unit), G (internal_bytealg_hashStr_string_C w F r) [.code internal_bytealg_hashStr_string_c10, .inLoop internal_bytealg_hashStr_string_c10, .inBlock 0, .code internal_bytealg_hashStr_string_c6] [(0, .string x1), (4, .int .u32 s.1), (5, .int .i64 s.2)] [] [Sm w.heap.size F w [], St w []])) ?_ hs
    clear hs s
    intro s o1 h hO1
    obtain ⟨x15, x16⟩ := s
    show ∀ (_ : Unit), G (internal_bytealg_hashStr_string_C w F r) [.code internal_bytealg_hashStr_string_c10, .inLoop internal_bytealg_hashStr_string_c10, .inBlock 0, .code internal_bytealg_hashStr_string_c6] [(0, .string x1), (4, .int .u32 x15), (5, .int .i64 x16)] [] [Sm w.heap.size F w [], St w []]
    intro _
    have h : internal_bytealg_hashStr_string_b1 x1 x15 x16 o1 := h
    unfold internal_bytealg_hashStr_string_b1 at h
    refine g_seq (c := internal_bytealg_hashStr_string_c10) rfl ?_
    refine g_seq (c := internal_bytealg_hashStr_string_c11) rfl ?_
    refine g_region (c := internal_bytealg_hashStr_string_c13) rfl rfl ?_
    refine wl_v 0 rfl (v_move rfl) gn rfl ?_
    refine wl_v 1 rfl (v_move rfl) gn rfl ?_
    refine wl_v 2 rfl (v_lenS un_9 rfl) gn rfl ?_
    refine wl_v 3 rfl (v_bin rfl rfl rfl) gn rfl ?_
    refine w_end 4 rfl ?_
    by_cases hp29 : x16 < (x1.size : Int)
    · have h := if_pos' hp29 h
      refine g_true (c := internal_bytealg_hashStr_string_c14) rfl _ rfl ((decide_eq_true hp29)) ?_
      refine g_skip (c := internal_bytealg_hashStr_string_c15) rfl ?_
      refine g_seq (c := internal_bytealg_hashStr_string_c12) rfl ?_
      refine g_block (c := internal_bytealg_hashStr_string_c17) rfl ?_
      refine g_region (c := internal_bytealg_hashStr_string_c19) rfl rfl ?_
      refine wl_v 0 rfl (v_move rfl) gn rfl ?_
      refine wl_v 1 rfl (v_bin rfl rfl rfl) gn rfl ?_
      refine wl_v 2 rfl (v_move rfl) gn rfl ?_
      refine wl_v 3 rfl (v_move rfl) gn rfl ?_
      obtain ⟨hb30, h⟩ := h
      refine wl_v 4 rfl (v_indexS un_9 rfl rfl hb30) gn rfl ?_
      refine wl_v 5 rfl (v_conv ⟨_, un_5⟩ un_81 rfl) gn rfl ?_
      refine wl_v 6 rfl (v_bin rfl rfl rfl) gn rfl ?_
      refine wl_v 7 rfl (v_assign rfl) gn rfl ?_
      refine w_end 8 rfl ?_
      refine g_inBlock ?_
      refine g_region (c := internal_bytealg_hashStr_string_c18) rfl rfl ?_
      refine wl_v 0 rfl (v_move rfl) gn rfl ?_
      refine wl_v 1 rfl (v_bin rfl rfl rfl) gn rfl ?_
      refine wl_v 2 rfl (v_assign rfl) gn rfl ?_
      refine w_end 3 rfl ?_
      refine g_inLoop ?_
      have ih := Out.inl hO1 h
      exact g_go [0, 1] (ih ()) ⟨rfl, rfl, rfl, trivial⟩ (.slnil) rfl
    · have h := if_neg' hp29 h
      refine g_false (c := internal_bytealg_hashStr_string_c14) rfl _ rfl ((decide_eq_false hp29)) ?_
      refine g_exit (c := internal_bytealg_hashStr_string_c16) [.code internal_bytealg_hashStr_string_c6] rfl rfl ?_
      refine g_seq (c := internal_bytealg_hashStr_string_c6) rfl ?_
      refine g_region (c := internal_bytealg_hashStr_string_c20) rfl rfl ?_
      refine wl_v 0 rfl (v_assign rfl) gn rfl ?_
      refine wl_v 1 rfl (v_assign rfl) gn rfl ?_
      refine w_end 2 rfl ?_
      refine g_seq (c := internal_bytealg_hashStr_string_c21) rfl ?_
      refine g_seq (c := internal_bytealg_hashStr_string_c22) rfl ?_
      refine g_region (c := internal_bytealg_hashStr_string_c24) rfl rfl ?_
      refine wl_v 0 rfl (v_move rfl) gn rfl ?_
      refine wl_v 1 rfl (v_lenS un_9 rfl) gn rfl ?_
      refine wl_v 2 rfl (v_assign rfl) gn rfl ?_
      refine w_end 3 rfl ?_
      refine g_block (c := internal_bytealg_hashStr_string_c25) rfl ?_
      refine g_loop (c := internal_bytealg_hashStr_string_c26) rfl ?_
      have key2 : ∀ s, Rounds (fun (s : Int × Int × Int) o => internal_bytealg_hashStr_string_b2 x15 s.1 s.2.1 s.2.2 o) s o1 → (fun (s : Int × Int × Int) => ∀ (_ : Unit), G (internal_bytealg_hashStr_string_C w F r) [.code internal_bytealg_hashStr_string_c27, .inLoop internal_bytealg_hashStr_string_c27, .inBlock 2, .code internal_bytealg_hashStr_string_c23] [(4, .int .u32 x15), (6, .int .u32 s.1), (7, .int .u32 s.2.1), (8, .int .i64 s.2.2)] [] [Sm w.heap.size F w [], St w []]) s := by
        intro s hs
        refine Rounds.ind (mot := (fun (s : Int × Int × Int) => ∀ (_ : Unit), G (internal_bytealg_hashStr_string_C w F r) [.code internal_bytealg_hashStr_string_c27, .inLoop internal_bytealg_hashStr_string_c27, .inBlock 2, .code internal_bytealg_hashStr_string_c23] [(4, .int .u32 x15), (6, .int .u32 s.1), (7, .int .u32 s.2.1), (8, .int .i64 s.2.2)] [] [Sm w.heap.size F w [], St w []])) ?_ hs
        clear hs s
        intro s o2 h hO2
        obtain ⟨x34, x35, x36⟩ := s
        show ∀ (_ : Unit), G (internal_bytealg_hashStr_string_C w F r) [.code internal_bytealg_hashStr_string_c27, .inLoop internal_bytealg_hashStr_string_c27, .inBlock 2, .code internal_bytealg_hashStr_string_c23] [(4, .int .u32 x15), (6, .int .u32 x34), (7, .int .u32 x35), (8, .int .i64 x36)] [] [Sm w.heap.size F w [], St w []]
        intro _
        have h : internal_bytealg_hashStr_string_b2 x15 x34 x35 x36 o2 := h
        unfold internal_bytealg_hashStr_string_b2 at h
        refine g_seq (c := internal_bytealg_hashStr_string_c27) rfl ?_
        refine g_seq (c := internal_bytealg_hashStr_string_c28) rfl ?_
        refine g_region (c := internal_bytealg_hashStr_string_c30) rfl rfl ?_
        refine wl_v 0 rfl (v_move rfl) gn rfl ?_
        refine wl_v 1 rfl (v_bin rfl rfl rfl) gn rfl ?_
        refine w_end 2 rfl ?_
        by_cases hp39 : x36 > 0
        · have h := if_pos' hp39 h
          refine g_true (c := internal_bytealg_hashStr_string_c31) rfl _ rfl ((decide_eq_true hp39)) ?_
          refine g_skip (c := internal_bytealg_hashStr_string_c32) rfl ?_
          refine g_seq (c := internal_bytealg_hashStr_string_c29) rfl ?_
          refine g_block (c := internal_bytealg_hashStr_string_c34) rfl ?_
          refine g_seq (c := internal_bytealg_hashStr_string_c36) rfl ?_
          refine g_seq (c := internal_bytealg_hashStr_string_c37) rfl ?_
          refine g_region (c := internal_bytealg_hashStr_string_c39) rfl rfl ?_
          refine wl_v 0 rfl (v_move rfl) gn rfl ?_
          refine wl_v 1 rfl (v_bin rfl rfl rfl) gn rfl ?_
          refine wl_v 2 rfl (v_bin rfl rfl rfl) gn rfl ?_
          refine w_end 3 rfl ?_
          by_cases hp40 : bits .and .i64 x36 1 = 0
          · have h := if_pos' hp40 h
            refine g_false (c := internal_bytealg_hashStr_string_c40) rfl _ rfl ((eqib hp40)) ?_
            refine g_skip (c := internal_bytealg_hashStr_string_c42) rfl ?_
            refine g_region (c := internal_bytealg_hashStr_string_c38) rfl rfl ?_
            refine wl_v 0 rfl (v_move rfl) gn rfl ?_
            refine wl_v 1 rfl (v_move rfl) gn rfl ?_
            refine wl_v 2 rfl (v_bin rfl rfl rfl) gn rfl ?_
            refine wl_v 3 rfl (v_assign rfl) gn rfl ?_
            refine w_end 4 rfl ?_
            refine g_inBlock ?_
            refine g_region (c := internal_bytealg_hashStr_string_c35) rfl rfl ?_
            refine wl_v 0 rfl (v_move rfl) gn rfl ?_
            refine wl_v 1 rfl (v_shr rfl rfl (by decide)) gn rfl ?_
            refine wl_v 2 rfl (v_assign rfl) gn rfl ?_
            refine w_end 3 rfl ?_
            refine g_inLoop ?_
            have ih := Out.inl hO2 h
            exact g_go [0, 1] (ih ()) ⟨rfl, rfl, rfl, rfl, trivial⟩ (.slnil) rfl
          · have h := if_neg' hp40 h
            refine g_true (c := internal_bytealg_hashStr_string_c40) rfl _ rfl ((neib hp40)) ?_
            refine g_region (c := internal_bytealg_hashStr_string_c41) rfl rfl ?_
            refine wl_v 0 rfl (v_move rfl) gn rfl ?_
            refine wl_v 1 rfl (v_move rfl) gn rfl ?_
            refine wl_v 2 rfl (v_bin rfl rfl rfl) gn rfl ?_
            refine wl_v 3 rfl (v_assign rfl) gn rfl ?_
            refine w_end 4 rfl ?_
            refine g_region (c := internal_bytealg_hashStr_string_c38) rfl rfl ?_
            refine wl_v 0 rfl (v_move rfl) gn rfl ?_
            refine wl_v 1 rfl (v_move rfl) gn rfl ?_
            refine wl_v 2 rfl (v_bin rfl rfl rfl) gn rfl ?_
            refine wl_v 3 rfl (v_assign rfl) gn rfl ?_
            refine w_end 4 rfl ?_
            refine g_inBlock ?_
            refine g_region (c := internal_bytealg_hashStr_string_c35) rfl rfl ?_
            refine wl_v 0 rfl (v_move rfl) gn rfl ?_
            refine wl_v 1 rfl (v_shr rfl rfl (by decide)) gn rfl ?_
            refine wl_v 2 rfl (v_assign rfl) gn rfl ?_
            refine w_end 3 rfl ?_
            refine g_inLoop ?_
            have ih := Out.inl hO2 h
            exact g_go [0, 1] (ih ()) ⟨rfl, rfl, rfl, rfl, trivial⟩ (.slnil) rfl
        · have h := if_neg' hp39 h
          refine g_false (c := internal_bytealg_hashStr_string_c31) rfl _ rfl ((decide_eq_false hp39)) ?_
          refine g_exit (c := internal_bytealg_hashStr_string_c33) [.code internal_bytealg_hashStr_string_c23] rfl rfl ?_
          refine g_seq (c := internal_bytealg_hashStr_string_c23) rfl ?_
          refine g_region (c := internal_bytealg_hashStr_string_c43) rfl rfl ?_
          refine wl_v 0 rfl (v_move rfl) gn rfl ?_
          refine wl_v 1 rfl (v_move rfl) gn rfl ?_
          refine wl_v 2 rfl (v_assign rfl) gn rfl ?_
          refine wl_v 3 rfl (v_assign rfl) gn rfl ?_
          refine w_end 4 rfl ?_
          have h := Out.inr hO2 h
          have h := Out.inr hO1 h
          refine g_retR (c := internal_bytealg_hashStr_string_c44) [.int .u32 x15, .int .u32 x34] rfl Tryd.func63 rfl (.tmp rfl (.tmp rfl (.nil))) fun wr hLr => ?_
          have hMr : B.Loc w wr [] [St w []] := hLr.pick (rest := []) (perm_of_idx [] [] rfl rfl (by kernel_rfl)) (sels [1] rfl)
          have hMi : ∀ e ∈ ([] : List Ent), e ∈ ([] : List Ent) := sels [] rfl
          show internal_bytealg_hashStr_string_R w F  r (.returned (packV [.int .u32 x15, .int .u32 x34])) wr
          rw [h]
          exact ⟨rfl, hMr⟩
      exact g_go [0, 1] (key2 _ h ()) ⟨rfl, rfl, rfl, rfl, trivial⟩ (.slnil) rfl
  exact g_go [0, 1] (key1 _ h ()) ⟨rfl, rfl, rfl, trivial⟩ (.slnil) rfl
noncomputable abbrev internal_bytealg_IndexRabinKarp_string_c0 : Code := bodyOf Tryd.f57
noncomputable abbrev internal_bytealg_IndexRabinKarp_string_c1 : Code := Code.fst internal_bytealg_IndexRabinKarp_string_c0
noncomputable abbrev internal_bytealg_IndexRabinKarp_string_c2 : Code := Code.snd internal_bytealg_IndexRabinKarp_string_c0
noncomputable abbrev internal_bytealg_IndexRabinKarp_string_c3 : Code := Code.fst internal_bytealg_IndexRabinKarp_string_c2
noncomputable abbrev internal_bytealg_IndexRabinKarp_string_c4 : Code := Code.snd internal_bytealg_IndexRabinKarp_string_c2
noncomputable abbrev internal_bytealg_IndexRabinKarp_string_c5 : Code := Code.fst internal_bytealg_IndexRabinKarp_string_c4
noncomputable abbrev internal_bytealg_IndexRabinKarp_string_c6 : Code := Code.snd internal_bytealg_IndexRabinKarp_string_c4
noncomputable abbrev internal_bytealg_IndexRabinKarp_string_c7 : Code := Code.fst internal_bytealg_IndexRabinKarp_string_c6
noncomputable abbrev internal_bytealg_IndexRabinKarp_string_c8 : Code := Code.snd internal_bytealg_IndexRabinKarp_string_c6
noncomputable abbrev internal_bytealg_IndexRabinKarp_string_c9 : Code := Code.fst internal_bytealg_IndexRabinKarp_string_c8
noncomputable abbrev internal_bytealg_IndexRabinKarp_string_c10 : Code := Code.snd internal_bytealg_IndexRabinKarp_string_c8
noncomputable abbrev internal_bytealg_IndexRabinKarp_string_c11 : Code := Code.fst internal_bytealg_IndexRabinKarp_string_c9
noncomputable abbrev internal_bytealg_IndexRabinKarp_string_c12 : Code := Code.snd internal_bytealg_IndexRabinKarp_string_c9
noncomputable abbrev internal_bytealg_IndexRabinKarp_string_c13 : Code := Code.fst internal_bytealg_IndexRabinKarp_string_c12
noncomputable abbrev internal_bytealg_IndexRabinKarp_string_c14 : Code := Code.fst internal_bytealg_IndexRabinKarp_string_c13
noncomputable abbrev internal_bytealg_IndexRabinKarp_string_c15 : Code := Code.fst internal_bytealg_IndexRabinKarp_string_c14
noncomputable abbrev internal_bytealg_IndexRabinKarp_string_c16 : Code := Code.snd internal_bytealg_IndexRabinKarp_string_c14
noncomputable abbrev internal_bytealg_IndexRabinKarp_string_c17 : Code := Code.fst internal_bytealg_IndexRabinKarp_string_c15
noncomputable abbrev internal_bytealg_IndexRabinKarp_string_c18 : Code := Code.snd internal_bytealg_IndexRabinKarp_string_c15
noncomputable abbrev internal_bytealg_IndexRabinKarp_string_c19 : Code := Code.fst internal_bytealg_IndexRabinKarp_string_c18
noncomputable abbrev internal_bytealg_IndexRabinKarp_string_c20 : Code := Code.snd internal_bytealg_IndexRabinKarp_string_c18
noncomputable abbrev internal_bytealg_IndexRabinKarp_string_c21 : Code := Code.fst internal_bytealg_IndexRabinKarp_string_c16
noncomputable abbrev internal_bytealg_IndexRabinKarp_string_c22 : Code := Code.snd internal_bytealg_IndexRabinKarp_string_c16
noncomputable abbrev internal_bytealg_IndexRabinKarp_string_c23 : Code := Code.fst internal_bytealg_IndexRabinKarp_string_c21
noncomputable abbrev internal_bytealg_IndexRabinKarp_string_c24 : Code := Code.fst internal_bytealg_IndexRabinKarp_string_c10
noncomputable abbrev internal_bytealg_IndexRabinKarp_string_c25 : Code := Code.snd internal_bytealg_IndexRabinKarp_string_c10
noncomputable abbrev internal_bytealg_IndexRabinKarp_string_c26 : Code := Code.fst internal_bytealg_IndexRabinKarp_string_c24
noncomputable abbrev internal_bytealg_IndexRabinKarp_string_c27 : Code := Code.snd internal_bytealg_IndexRabinKarp_string_c24
noncomputable abbrev internal_bytealg_IndexRabinKarp_string_c28 : Code := Code.fst internal_bytealg_IndexRabinKarp_string_c27
noncomputable abbrev internal_bytealg_IndexRabinKarp_string_c29 : Code := Code.snd internal_bytealg_IndexRabinKarp_string_c27
noncomputable abbrev internal_bytealg_IndexRabinKarp_string_c30 : Code := Code.fst internal_bytealg_IndexRabinKarp_string_c28
noncomputable abbrev internal_bytealg_IndexRabinKarp_string_c31 : Code := Code.snd internal_bytealg_IndexRabinKarp_string_c28
noncomputable abbrev internal_bytealg_IndexRabinKarp_string_c32 : Code := Code.fst internal_bytealg_IndexRabinKarp_string_c25
noncomputable abbrev internal_bytealg_IndexRabinKarp_string_c33 : Code := Code.snd internal_bytealg_IndexRabinKarp_string_c25
noncomputable abbrev internal_bytealg_IndexRabinKarp_string_c34 : Code := Code.fst internal_bytealg_IndexRabinKarp_string_c32
noncomputable abbrev internal_bytealg_IndexRabinKarp_string_c35 : Code := Code.snd internal_bytealg_IndexRabinKarp_string_c32
noncomputable abbrev internal_bytealg_IndexRabinKarp_string_c36 : Code := Code.fst internal_bytealg_IndexRabinKarp_string_c35
noncomputable abbrev internal_bytealg_IndexRabinKarp_string_c37 : Code := Code.fst internal_bytealg_IndexRabinKarp_string_c36
noncomputable abbrev internal_bytealg_IndexRabinKarp_string_c38 : Code := Code.fst internal_bytealg_IndexRabinKarp_string_c37
noncomputable abbrev internal_bytealg_IndexRabinKarp_string_c39 : Code := Code.snd internal_bytealg_IndexRabinKarp_string_c37
noncomputable abbrev internal_bytealg_IndexRabinKarp_string_c40 : Code := Code.fst internal_bytealg_IndexRabinKarp_string_c38
noncomputable abbrev internal_bytealg_IndexRabinKarp_string_c41 : Code := Code.snd internal_bytealg_IndexRabinKarp_string_c38
noncomputable abbrev internal_bytealg_IndexRabinKarp_string_c42 : Code := Code.fst internal_bytealg_IndexRabinKarp_string_c41
noncomputable abbrev internal_bytealg_IndexRabinKarp_string_c43 : Code := Code.snd internal_bytealg_IndexRabinKarp_string_c41
noncomputable abbrev internal_bytealg_IndexRabinKarp_string_c44 : Code := Code.fst internal_bytealg_IndexRabinKarp_string_c39
noncomputable abbrev internal_bytealg_IndexRabinKarp_string_c45 : Code := Code.fst internal_bytealg_IndexRabinKarp_string_c44
noncomputable abbrev internal_bytealg_IndexRabinKarp_string_c46 : Code := Code.snd internal_bytealg_IndexRabinKarp_string_c44
noncomputable abbrev internal_bytealg_IndexRabinKarp_string_c47 : Code := Code.fst internal_bytealg_IndexRabinKarp_string_c46
noncomputable abbrev internal_bytealg_IndexRabinKarp_string_c48 : Code := Code.snd internal_bytealg_IndexRabinKarp_string_c46
noncomputable abbrev internal_bytealg_IndexRabinKarp_string_c49 : Code := Code.fst internal_bytealg_IndexRabinKarp_string_c48
noncomputable abbrev internal_bytealg_IndexRabinKarp_string_c50 : Code := Code.snd internal_bytealg_IndexRabinKarp_string_c48
noncomputable abbrev internal_bytealg_IndexRabinKarp_string_c51 : Code := Code.fst internal_bytealg_IndexRabinKarp_string_c50
noncomputable abbrev internal_bytealg_IndexRabinKarp_string_c52 : Code := Code.snd internal_bytealg_IndexRabinKarp_string_c50
noncomputable abbrev internal_bytealg_IndexRabinKarp_string_c53 : Code := Code.fst internal_bytealg_IndexRabinKarp_string_c52
noncomputable abbrev internal_bytealg_IndexRabinKarp_string_c54 : Code := Code.snd internal_bytealg_IndexRabinKarp_string_c52
noncomputable abbrev internal_bytealg_IndexRabinKarp_string_c55 : Code := Code.fst internal_bytealg_IndexRabinKarp_string_c54
noncomputable abbrev internal_bytealg_IndexRabinKarp_string_c56 : Code := Code.snd internal_bytealg_IndexRabinKarp_string_c54
noncomputable abbrev internal_bytealg_IndexRabinKarp_string_c57 : Code := Code.fst internal_bytealg_IndexRabinKarp_string_c55
noncomputable abbrev internal_bytealg_IndexRabinKarp_string_c58 : Code := Code.snd internal_bytealg_IndexRabinKarp_string_c55
noncomputable abbrev internal_bytealg_IndexRabinKarp_string_c59 : Code := Code.fst internal_bytealg_IndexRabinKarp_string_c33
noncomputable abbrev internal_bytealg_IndexRabinKarp_string_c60 : Code := Code.snd internal_bytealg_IndexRabinKarp_string_c33
abbrev internal_bytealg_IndexRabinKarp_string_R (w : World) (F : Nat → Prop) (r : Int) : Ending → World → Prop := fun e w' => e = .returned (.int .i64 r) ∧ B.Loc w w' [] [St w []]
noncomputable abbrev internal_bytealg_IndexRabinKarp_string_C (w : World) (F : Nat → Prop) (r : Int) : Cx := ⟨Tryd.prog, 57, Tryd.f57, 81, internal_bytealg_IndexRabinKarp_string_R w F  r, w⟩
theorem internal_bytealg_IndexRabinKarp_string_calls (w : World) (F : Nat → Prop) (x1 : ByteArray) (x2 : ByteArray) (hF : ∀ b, F b → b < w.heap.size ∧ ∀ o ∈ ([] : List (List Nat)), b ∉ o) (hL0 : B.Loc w w [] [Sm w.heap.size F w [], St w []]) (r : Int) (h : internal_bytealg_IndexRabinKarp_string x1 x2 r) : Calls Tryd.prog 57 #[.string x1, .string x2] w (internal_bytealg_IndexRabinKarp_string_R w F  r) := by
  unfold internal_bytealg_IndexRabinKarp_string at h
  refine calls_of_Loc (vs := [.string x1, .string x2]) 81 Tryd.func57 rfl Tryd.ntmps57 rfl hL0 ?_
  show G (internal_bytealg_IndexRabinKarp_string_C w F r) _ _ _ _
  refine g_seq (c := internal_bytealg_IndexRabinKarp_string_c0) rfl ?_
  refine g_region (c := internal_bytealg_IndexRabinKarp_string_c1) rfl rfl ?_
  refine wl_v 0 rfl (v_assign rfl) gn rfl ?_
  refine w_end 1 rfl ?_
  refine g_seq (c := internal_bytealg_IndexRabinKarp_string_c2) rfl ?_
  refine g_region (c := internal_bytealg_IndexRabinKarp_string_c3) rfl rfl ?_
  refine wl_v 0 rfl (v_move rfl) gn rfl ?_
  obtain ⟨r6, hv7, h⟩ := h
  refine wl_s 1 rfl (s_call [.string x2] rfl Tryd.func63 rfl rfl rfl fun w3 hL4 => ?_) gn
  have hp5 : List.Perm ([] : List Ent) (([] : List Ent) ++ ([] : List Ent)) := perm_of_idx [] [] rfl rfl (by kernel_rfl)
  refine Calls.mono (internal_bytealg_hashStr_string_calls w3 (Fl ([] : List Snap)) x2 (hL4.hFl (Sl := ([] : List Snap)) hp5 (sels [] rfl)) (hL4.into hp5 (Fl ([] : List Snap))) r6 hv7) ?_
  rintro _ w8 ⟨rfl, hM9⟩
  have hL10 := hL4.call hp5 hM9
  refine ⟨_, _, _, rfl, hL10, ?_⟩
  refine wl_v 2 rfl (v_move rfl) gn rfl ?_
  refine wl_v 3 rfl (v_extract rfl rfl) gn rfl ?_
  refine wl_v 4 rfl (v_extract rfl rfl) gn rfl ?_
  refine wl_v 5 rfl (v_assign rfl) gn rfl ?_
  refine wl_v 6 rfl (v_assign rfl) gn rfl ?_
  refine w_end 7 rfl ?_
  refine g_seq (c := internal_bytealg_IndexRabinKarp_string_c4) rfl ?_
  refine g_region (c := internal_bytealg_IndexRabinKarp_string_c5) rfl rfl ?_
  refine wl_v 0 rfl (v_move rfl) gn rfl ?_
  refine wl_v 1 rfl (v_lenS un_9 rfl) gn rfl ?_
  refine wl_v 2 rfl (v_assign rfl) gn rfl ?_
  refine w_end 3 rfl ?_
  refine g_seq (c := internal_bytealg_IndexRabinKarp_string_c6) rfl ?_
  refine g_region (c := internal_bytealg_IndexRabinKarp_string_c7) rfl rfl ?_
  refine wl_v 0 rfl (v_assign rfl) gn rfl ?_
  refine w_end 1 rfl ?_
  refine g_seq (c := internal_bytealg_IndexRabinKarp_string_c8) rfl ?_
  refine g_seq (c := internal_bytealg_IndexRabinKarp_string_c9) rfl ?_
  refine g_region (c := internal_bytealg_IndexRabinKarp_string_c11) rfl rfl ?_
  refine wl_v 0 rfl (v_assign rfl) gn rfl ?_
  refine w_end 1 rfl ?_
  refine g_block (c := internal_bytealg_IndexRabinKarp_string_c12) rfl ?_
  refine g_loop (c := internal_bytealg_IndexRabinKarp_string_c13) rfl ?_
  have key1 : ∀ s, Rounds (fun (s : Int × Int) o => internal_bytealg_IndexRabinKarp_string_b1 x2 x1 r6 s.1 s.2 o) s r → (fun (s : Int × Int) => ∀ (_ : Unit), G (internal_bytealg_IndexRabinKarp_string_C w F r) [.code internal_bytealg_IndexRabinKarp_string_c14, .inLoop internal_bytealg_IndexRabinKarp_string_c14, .inBlock 0, .code internal_bytealg_IndexRabinKarp_string_c10] [(0, .string x1), (1, .string x2), (5, .int .u32 r6.1), (6, .int .u32 r6.2), (7, .int .i64 (x2.size : Int)), (8, .int .u32 s.1), (9, .int .i64 s.2)] [] [Sm w.heap.size F w [], St w []]) s := by
    intro s hs
    refine Rounds.ind (mot := (fun (s : Int × Int) => ∀ (_ : Unit), G (internal_bytealg_IndexRabinKarp_string_C w F r) [.code internal_bytealg_IndexRabinKarp_string_c14, .inLoop internal_bytealg_IndexRabinKarp_string_c14, .inBlock 0, .code internal_bytealg_IndexRabinKarp_string_c10] [(0, .string x1), (1, .string x2), (5, .int .u32 r6.1), (6, .int .u32 r6.2), (7, .int .i64 (x2.size : Int)), (8, .int .u32 s.1), (9, .int .i64 s.2)] [] [Sm w.heap.size F w [], St w []])) ?_ hs
    clear hs s
    intro s o1 h hO1
    obtain ⟨x42, x43⟩ := s
    show ∀ (_ : Unit), G (internal_bytealg_IndexRabinKarp_string_C w F r) [.code internal_bytealg_IndexRabinKarp_string_c14, .inLoop internal_bytealg_IndexRabinKarp_string_c14, .inBlock 0, .code internal_bytealg_IndexRabinKarp_string_c10] [(0, .string x1), (1, .string x2), (5, .int .u32 r6.1), (6, .int .u32 r6.2), (7, .int .i64 (x2.size : Int)), (8, .int .u32 x42), (9, .int .i64 x43)] [] [Sm w.heap.size F w [], St w []]
    intro _
    have h : internal_bytealg_IndexRabinKarp_string_b1 x2 x1 r6 x42 x43 o1 := h
    unfold internal_bytealg_IndexRabinKarp_string_b1 at h
    refine g_seq (c := internal_bytealg_IndexRabinKarp_string_c14) rfl ?_
    refine g_seq (c := internal_bytealg_IndexRabinKarp_string_c15) rfl ?_
    refine g_region (c := internal_bytealg_IndexRabinKarp_string_c17) rfl rfl ?_
    refine wl_v 0 rfl (v_move rfl) gn rfl ?_
    refine wl_v 1 rfl (v_move rfl) gn rfl ?_
    refine wl_v 2 rfl (v_bin rfl rfl rfl) gn rfl ?_
    refine w_end 3 rfl ?_
    by_cases hp74 : x43 < (x2.size : Int)
    · have h := if_pos' hp74 h
      refine g_true (c := internal_bytealg_IndexRabinKarp_string_c18) rfl _ rfl ((decide_eq_true hp74)) ?_
      refine g_skip (c := internal_bytealg_IndexRabinKarp_string_c19) rfl ?_
      refine g_seq (c := internal_bytealg_IndexRabinKarp_string_c16) rfl ?_
      refine g_block (c := internal_bytealg_IndexRabinKarp_string_c21) rfl ?_
      refine g_region (c := internal_bytealg_IndexRabinKarp_string_c23) rfl rfl ?_
      refine wl_v 0 rfl (v_move rfl) gn rfl ?_
      refine wl_v 1 rfl (v_bin rfl rfl rfl) gn rfl ?_
      refine wl_v 2 rfl (v_move rfl) gn rfl ?_
      refine wl_v 3 rfl (v_move rfl) gn rfl ?_
      obtain ⟨hb75, h⟩ := h
      refine wl_v 4 rfl (v_indexS un_9 rfl rfl hb75) gn rfl ?_
      refine wl_v 5 rfl (v_conv ⟨_, un_5⟩ un_81 rfl) gn rfl ?_
      refine wl_v 6 rfl (v_bin rfl rfl rfl) gn rfl ?_
      refine wl_v 7 rfl (v_assign rfl) gn rfl ?_
      refine w_end 8 rfl ?_
      refine g_inBlock ?_
      refine g_region (c := internal_bytealg_IndexRabinKarp_string_c22) rfl rfl ?_
      refine wl_v 0 rfl (v_move rfl) gn rfl ?_
      refine wl_v 1 rfl (v_bin rfl rfl rfl) gn rfl ?_
      refine wl_v 2 rfl (v_assign rfl) gn rfl ?_
      refine w_end 3 rfl ?_
      refine g_inLoop ?_
      have ih := Out.inl hO1 h
      exact g_go [0, 1] (ih ()) ⟨rfl, rfl, rfl, rfl, rfl, rfl, rfl, trivial⟩ (.slnil) rfl
    · have h := if_neg' hp74 h
      refine g_false (c := internal_bytealg_IndexRabinKarp_string_c18) rfl _ rfl ((decide_eq_false hp74)) ?_
      refine g_exit (c := internal_bytealg_IndexRabinKarp_string_c20) [.code internal_bytealg_IndexRabinKarp_string_c10] rfl rfl ?_
      refine g_seq (c := internal_bytealg_IndexRabinKarp_string_c10) rfl ?_
      refine g_seq (c := internal_bytealg_IndexRabinKarp_string_c24) rfl ?_
      have j2 : ∀ (x79 : Bool) (h : internal_bytealg_IndexRabinKarp_string_j2 x1 x2 r6 x42 x79 o1) , G (internal_bytealg_IndexRabinKarp_string_C w F r) [.code internal_bytealg_IndexRabinKarp_string_c27, .code internal_bytealg_IndexRabinKarp_string_c25] [(0, .string x1), (1, .string x2), (5, .int .u32 r6.1), (6, .int .u32 r6.2), (7, .int .i64 (x2.size : Int)), (8, .int .u32 x42), (39, .bool x79)] [] [Sm w.heap.size F w [], St w []] := by
        intro x79 h
        unfold internal_bytealg_IndexRabinKarp_string_j2 at h
        by_cases hp80 : x79 = true
        · have h := if_pos' hp80 h
          refine g_true (c := internal_bytealg_IndexRabinKarp_string_c27) rfl _ rfl (hp80) ?_
          refine g_seq (c := internal_bytealg_IndexRabinKarp_string_c28) rfl ?_
          refine g_region (c := internal_bytealg_IndexRabinKarp_string_c30) rfl rfl ?_
          refine wl_v 0 rfl (v_assign rfl) gn rfl ?_
          refine w_end 1 rfl ?_
          have h := Out.inr hO1 h
          refine g_retR (c := internal_bytealg_IndexRabinKarp_string_c31) [.int .i64 0] rfl Tryd.func57 rfl (.tmp rfl (.nil)) fun wr hLr => ?_
          have hMr : B.Loc w wr [] [St w []] := hLr.pick (rest := []) (perm_of_idx [] [] rfl rfl (by kernel_rfl)) (sels [1] rfl)
          have hMi : ∀ e ∈ ([] : List Ent), e ∈ ([] : List Ent) := sels [] rfl
          show internal_bytealg_IndexRabinKarp_string_R w F  r (.returned (packV [.int .i64 0])) wr
          rw [h]
          exact ⟨rfl, hMr⟩
        · have h := if_neg' hp80 h
          refine g_false (c := internal_bytealg_IndexRabinKarp_string_c27) rfl _ rfl ((bf hp80)) ?_
          refine g_skip (c := internal_bytealg_IndexRabinKarp_string_c29) rfl ?_
          refine g_seq (c := internal_bytealg_IndexRabinKarp_string_c25) rfl ?_
          refine g_seq (c := internal_bytealg_IndexRabinKarp_string_c32) rfl ?_
          refine g_region (c := internal_bytealg_IndexRabinKarp_string_c34) rfl rfl ?_
          refine wl_v 0 rfl (v_move rfl) gn rfl ?_
          refine wl_v 1 rfl (v_assign rfl) gn rfl ?_
          refine w_end 2 rfl ?_
          refine g_block (c := internal_bytealg_IndexRabinKarp_string_c35) rfl ?_
          refine g_loop (c := internal_bytealg_IndexRabinKarp_string_c36) rfl ?_
          have key3 : ∀ s, Rounds (fun (s : Int × Int) o => internal_bytealg_IndexRabinKarp_string_b3 x1 x2 r6 s.1 s.2 o) s o1 → (fun (s : Int × Int) => ∀ (_ : Unit), G (internal_bytealg_IndexRabinKarp_string_C w F r) [.code internal_bytealg_IndexRabinKarp_string_c37, .inLoop internal_bytealg_IndexRabinKarp_string_c37, .inBlock 2, .code internal_bytealg_IndexRabinKarp_string_c33] [(0, .string x1), (1, .string x2), (5, .int .u32 r6.1), (6, .int .u32 r6.2), (7, .int .i64 (x2.size : Int)), (8, .int .u32 s.1), (10, .int .i64 s.2)] [] [Sm w.heap.size F w [], St w []]) s := by
            intro s hs
            refine Rounds.ind (mot := (fun (s : Int × Int) => ∀ (_ : Unit), G (internal_bytealg_IndexRabinKarp_string_C w F r) [.code internal_bytealg_IndexRabinKarp_string_c37, .inLoop internal_bytealg_IndexRabinKarp_string_c37, .inBlock 2, .code internal_bytealg_IndexRabinKarp_string_c33] [(0, .string x1), (1, .string x2), (5, .int .u32 r6.1), (6, .int .u32 r6.2), (7, .int .i64 (x2.size : Int)), (8, .int .u32 s.1), (10, .int .i64 s.2)] [] [Sm w.heap.size F w [], St w []])) ?_ hs
            clear hs s
            intro s o2 h hO2
            obtain ⟨x88, x89⟩ := s
            show ∀ (_ : Unit), G (internal_bytealg_IndexRabinKarp_string_C w F r) [.code internal_bytealg_IndexRabinKarp_string_c37, .inLoop internal_bytealg_IndexRabinKarp_string_c37, .inBlock 2, .code internal_bytealg_IndexRabinKarp_string_c33] [(0, .string x1), (1, .string x2), (5, .int .u32 r6.1), (6, .int .u32 r6.2), (7, .int .i64 (x2.size : Int)), (8, .int .u32 x88), (10, .int .i64 x89)] [] [Sm w.heap.size F w [], St w []]
            intro _
            have h : internal_bytealg_IndexRabinKarp_string_b3 x1 x2 r6 x88 x89 o2 := h
            unfold internal_bytealg_IndexRabinKarp_string_b3 at h
            refine g_seq (c := internal_bytealg_IndexRabinKarp_string_c37) rfl ?_
            refine g_seq (c := internal_bytealg_IndexRabinKarp_string_c38) rfl ?_
            refine g_region (c := internal_bytealg_IndexRabinKarp_string_c40) rfl rfl ?_
            refine wl_v 0 rfl (v_move rfl) gn rfl ?_
            refine wl_v 1 rfl (v_move rfl) gn rfl ?_
            refine wl_v 2 rfl (v_lenS un_9 rfl) gn rfl ?_
            refine wl_v 3 rfl (v_bin rfl rfl rfl) gn rfl ?_
            refine w_end 4 rfl ?_
            by_cases hp96 : x89 < (x1.size : Int)
            · have h := if_pos' hp96 h
              refine g_true (c := internal_bytealg_IndexRabinKarp_string_c41) rfl _ rfl ((decide_eq_true hp96)) ?_
              refine g_skip (c := internal_bytealg_IndexRabinKarp_string_c42) rfl ?_
              refine g_block (c := internal_bytealg_IndexRabinKarp_string_c39) rfl ?_
              refine g_seq (c := internal_bytealg_IndexRabinKarp_string_c44) rfl ?_
              refine g_region (c := internal_bytealg_IndexRabinKarp_string_c45) rfl rfl ?_
              refine wl_v 0 rfl (v_move rfl) gn rfl ?_
              refine wl_v 1 rfl (v_bin rfl rfl rfl) gn rfl ?_
              refine wl_v 2 rfl (v_assign rfl) gn rfl ?_
              refine w_end 3 rfl ?_
              refine g_seq (c := internal_bytealg_IndexRabinKarp_string_c46) rfl ?_
              refine g_region (c := internal_bytealg_IndexRabinKarp_string_c47) rfl rfl ?_
              refine wl_v 0 rfl (v_move rfl) gn rfl ?_
              refine wl_v 1 rfl (v_move rfl) gn rfl ?_
              refine wl_v 2 rfl (v_move rfl) gn rfl ?_
              obtain ⟨hb97, h⟩ := h
              refine wl_v 3 rfl (v_indexS un_9 rfl rfl hb97) gn rfl ?_
              refine wl_v 4 rfl (v_conv ⟨_, un_5⟩ un_81 rfl) gn rfl ?_
              refine wl_v 5 rfl (v_bin rfl rfl rfl) gn rfl ?_
              refine wl_v 6 rfl (v_assign rfl) gn rfl ?_
              refine w_end 7 rfl ?_
              refine g_seq (c := internal_bytealg_IndexRabinKarp_string_c48) rfl ?_
              refine g_region (c := internal_bytealg_IndexRabinKarp_string_c49) rfl rfl ?_
              refine wl_v 0 rfl (v_move rfl) gn rfl ?_
              refine wl_v 1 rfl (v_move rfl) gn rfl ?_
              refine wl_v 2 rfl (v_move rfl) gn rfl ?_
              refine wl_v 3 rfl (v_move rfl) gn rfl ?_
              refine wl_v 4 rfl (v_move rfl) gn rfl ?_
              refine wl_v 5 rfl (v_bin rfl rfl rfl) gn rfl ?_
              obtain ⟨hb98, h⟩ := h
              refine wl_v 6 rfl (v_indexS un_9 rfl rfl hb98) gn rfl ?_
              refine wl_v 7 rfl (v_conv ⟨_, un_5⟩ un_81 rfl) gn rfl ?_
              refine wl_v 8 rfl (v_bin rfl rfl rfl) gn rfl ?_
              refine wl_v 9 rfl (v_bin rfl rfl rfl) gn rfl ?_
              refine wl_v 10 rfl (v_assign rfl) gn rfl ?_
              refine w_end 11 rfl ?_
              refine g_seq (c := internal_bytealg_IndexRabinKarp_string_c50) rfl ?_
              refine g_region (c := internal_bytealg_IndexRabinKarp_string_c51) rfl rfl ?_
              refine wl_v 0 rfl (v_move rfl) gn rfl ?_
              refine wl_v 1 rfl (v_bin rfl rfl rfl) gn rfl ?_
              refine wl_v 2 rfl (v_assign rfl) gn rfl ?_
              refine w_end 3 rfl ?_
              refine g_seq (c := internal_bytealg_IndexRabinKarp_string_c52) rfl ?_
              refine g_region (c := internal_bytealg_IndexRabinKarp_string_c53) rfl rfl ?_
              refine wl_v 0 rfl (v_move rfl) gn rfl ?_
              refine wl_v 1 rfl (v_move rfl) gn rfl ?_
              refine wl_v 2 rfl (v_bin rfl rfl rfl) gn rfl ?_
              refine wl_v 3 rfl (v_move rfl) gn rfl ?_
              by_cases hp99 : IntKind.u32.wrap ((IntKind.u32.wrap ((IntKind.u32.wrap (x88 * 16777619)) + (IntKind.u32.wrap (bt x1 x89)))) - (IntKind.u32.wrap (r6.2 * (IntKind.u32.wrap (bt x1 (w64 (x89 - (x2.size : Int)))))))) = r6.1
              · have h := if_pos' hp99 h
                refine w_bool 68 rfl ((eqi hp99)) ?_
                refine wl_v 4 rfl (v_move rfl) (gy 68 rfl rfl) rfl ?_
                refine wl_v 5 rfl (v_move rfl) (gy 68 rfl rfl) rfl ?_
                refine wl_v 6 rfl (v_move rfl) (gy 68 rfl rfl) rfl ?_
                refine wl_v 7 rfl (v_bin rfl rfl rfl) (gy 68 rfl rfl) rfl ?_
                refine wl_v 8 rfl (v_move rfl) (gy 68 rfl rfl) rfl ?_
                obtain ⟨hb100, h⟩ := h
                refine wl_v 9 rfl (v_cutS (w64 ((w64 (x89 + 1)) - (x2.size : Int))) (w64 (x89 + 1)) un_9 rfl (.inr ⟨_, _, rfl, rfl⟩) (.inr ⟨_, _, rfl, rfl⟩) ⟨hb100.1, hb100.2.1⟩ hb100.2.2) (gy 68 rfl rfl) rfl ?_
                refine wl_v 10 rfl (v_move rfl) (gy 68 rfl rfl) rfl ?_
                refine wl_v 11 rfl (v_eqS rfl rfl) (gy 68 rfl rfl) rfl ?_
                refine wl_v 12 rfl (v_pick (b := true) rfl rfl) gn rfl ?_
                refine w_end 13 rfl ?_
                by_cases hp101 : x1.extract (w64 ((w64 (x89 + 1)) - (x2.size : Int)) : Int).toNat (w64 (x89 + 1) : Int).toNat = x2
                · have h := if_pos' hp101 h
                  refine g_true (c := internal_bytealg_IndexRabinKarp_string_c54) rfl _ rfl ((seq_t hp101)) ?_
                  refine g_seq (c := internal_bytealg_IndexRabinKarp_string_c55) rfl ?_
                  refine g_region (c := internal_bytealg_IndexRabinKarp_string_c57) rfl rfl ?_
                  refine wl_v 0 rfl (v_move rfl) gn rfl ?_
                  refine wl_v 1 rfl (v_move rfl) gn rfl ?_
                  refine wl_v 2 rfl (v_bin rfl rfl rfl) gn rfl ?_
                  refine wl_v 3 rfl (v_assign rfl) gn rfl ?_
                  refine w_end 4 rfl ?_
                  have h := Out.inr hO2 h
                  have h := Out.inr hO1 h
                  refine g_retR (c := internal_bytealg_IndexRabinKarp_string_c58) [.int .i64 (w64 ((w64 (x89 + 1)) - (x2.size : Int)))] rfl Tryd.func57 rfl (.tmp rfl (.nil)) fun wr hLr => ?_
                  have hMr : B.Loc w wr [] [St w []] := hLr.pick (rest := []) (perm_of_idx [] [] rfl rfl (by kernel_rfl)) (sels [1] rfl)
                  have hMi : ∀ e ∈ ([] : List Ent), e ∈ ([] : List Ent) := sels [] rfl
                  show internal_bytealg_IndexRabinKarp_string_R w F  r (.returned (packV [.int .i64 (w64 ((w64 (x89 + 1)) - (x2.size : Int)))])) wr
                  rw [h]
                  exact ⟨rfl, hMr⟩
                · have h := if_neg' hp101 h
                  refine g_false (c := internal_bytealg_IndexRabinKarp_string_c54) rfl _ rfl ((seq_f hp101)) ?_
                  refine g_skip (c := internal_bytealg_IndexRabinKarp_string_c56) rfl ?_
                  refine g_inBlock ?_
                  refine g_inLoop ?_
                  have ih := Out.inl hO2 h
                  exact g_go [0, 1] (ih ()) ⟨rfl, rfl, rfl, rfl, rfl, rfl, rfl, trivial⟩ (.slnil) rfl
              · have h := if_neg' hp99 h
                refine w_bool 68 rfl ((nei hp99)) ?_
                refine wl_pass 4 rfl (ps 68 rfl rfl rfl) ?_
                refine wl_pass 5 rfl (ps 68 rfl rfl rfl) ?_
                refine wl_pass 6 rfl (ps 68 rfl rfl rfl) ?_
                refine wl_pass 7 rfl (ps 68 rfl rfl rfl) ?_
                refine wl_pass 8 rfl (ps 68 rfl rfl rfl) ?_
                refine wl_pass 9 rfl (ps 68 rfl rfl rfl) ?_
                refine wl_pass 10 rfl (ps 68 rfl rfl rfl) ?_
                refine wl_pass 11 rfl (ps 68 rfl rfl rfl) ?_
                refine wl_v 12 rfl (v_pick (b := false) rfl rfl) gn rfl ?_
                refine w_end 13 rfl ?_
                refine g_false (c := internal_bytealg_IndexRabinKarp_string_c54) rfl _ rfl (rfl) ?_
                refine g_skip (c := internal_bytealg_IndexRabinKarp_string_c56) rfl ?_
                refine g_inBlock ?_
                refine g_inLoop ?_
                have ih := Out.inl hO2 h
                exact g_go [0, 1] (ih ()) ⟨rfl, rfl, rfl, rfl, rfl, rfl, rfl, trivial⟩ (.slnil) rfl
            · have h := if_neg' hp96 h
              refine g_false (c := internal_bytealg_IndexRabinKarp_string_c41) rfl _ rfl ((decide_eq_false hp96)) ?_
              refine g_exit (c := internal_bytealg_IndexRabinKarp_string_c43) [.code internal_bytealg_IndexRabinKarp_string_c33] rfl rfl ?_
              refine g_seq (c := internal_bytealg_IndexRabinKarp_string_c33) rfl ?_
              refine g_region (c := internal_bytealg_IndexRabinKarp_string_c59) rfl rfl ?_
              refine wl_v 0 rfl (v_assign rfl) gn rfl ?_
              refine w_end 1 rfl ?_
              have h := Out.inr hO2 h
              have h := Out.inr hO1 h
              refine g_retR (c := internal_bytealg_IndexRabinKarp_string_c60) [.int .i64 (-1)] rfl Tryd.func57 rfl (.tmp rfl (.nil)) fun wr hLr => ?_
              have hMr : B.Loc w wr [] [St w []] := hLr.pick (rest := []) (perm_of_idx [] [] rfl rfl (by kernel_rfl)) (sels [1] rfl)
              have hMi : ∀ e ∈ ([] : List Ent), e ∈ ([] : List Ent) := sels [] rfl
              show internal_bytealg_IndexRabinKarp_string_R w F  r (.returned (packV [.int .i64 (-1)])) wr
              rw [h]
              exact ⟨rfl, hMr⟩
          exact g_go [0, 1] (key3 _ h ()) ⟨rfl, rfl, rfl, rfl, rfl, rfl, rfl, trivial⟩ (.slnil) rfl
      refine g_region (c := internal_bytealg_IndexRabinKarp_string_c26) rfl rfl ?_
      refine wl_v 0 rfl (v_move rfl) gn rfl ?_
      refine wl_v 1 rfl (v_move rfl) gn rfl ?_
      refine wl_v 2 rfl (v_bin rfl rfl rfl) gn rfl ?_
      refine wl_v 3 rfl (v_move rfl) gn rfl ?_
      by_cases hp102 : x42 = r6.1
      · have h := if_pos' hp102 h
        refine w_bool 33 rfl ((eqi hp102)) ?_
        refine wl_v 4 rfl (v_move rfl) (gy 33 rfl rfl) rfl ?_
        refine wl_v 5 rfl (v_move rfl) (gy 33 rfl rfl) rfl ?_
        obtain ⟨hb103, h⟩ := h
        refine wl_v 6 rfl (v_cutS 0 (x2.size : Int) un_9 rfl (.inl ⟨rfl, rfl⟩) (.inr ⟨_, _, rfl, rfl⟩) ⟨hb103.1, hb103.2.1⟩ hb103.2.2) (gy 33 rfl rfl) rfl ?_
        refine wl_v 7 rfl (v_move rfl) (gy 33 rfl rfl) rfl ?_
        refine wl_v 8 rfl (v_eqS rfl rfl) (gy 33 rfl rfl) rfl ?_
        refine wl_v 9 rfl (v_pick (b := true) rfl rfl) gn rfl ?_
        refine w_end 10 rfl ?_
        exact g_go [0, 1] (j2 (seq (x1.extract (0 : Int).toNat ((x2.size : Int) : Int).toNat) x2) h) ⟨rfl, rfl, rfl, rfl, rfl, rfl, rfl, trivial⟩ (.slnil) rfl
      · have h := if_neg' hp102 h
        refine w_bool 33 rfl ((nei hp102)) ?_
        refine wl_pass 4 rfl (ps 33 rfl rfl rfl) ?_
        refine wl_pass 5 rfl (ps 33 rfl rfl rfl) ?_
        refine wl_pass 6 rfl (ps 33 rfl rfl rfl) ?_
        refine wl_pass 7 rfl (ps 33 rfl rfl rfl) ?_
        refine wl_pass 8 rfl (ps 33 rfl rfl rfl) ?_
        refine wl_v 9 rfl (v_pick (b := false) rfl rfl) gn rfl ?_
        refine w_end 10 rfl ?_
        exact g_go [0, 1] (j2 false h) ⟨rfl, rfl, rfl, rfl, rfl, rfl, rfl, trivial⟩ (.slnil) rfl
  exact g_go [0, 1] (key1 _ h ()) ⟨rfl, rfl, rfl, rfl, rfl, rfl, rfl, trivial⟩ (.slnil) rfl
end Go.Proofs.YtkaejoffnkhbpaaDoor.K
